/- Contracts: remove, pruned. -/
/- Hashes as keys of maps; rows of nodes with their hashes. -/
/- Contracts: Nodes, its closure. -/
/- Contracts: Nodes. -/
/- Contracts: New, Empty, Root, Put, Delete, Nodes. -/
/- Contracts: Nodes; bounds on how many nodes there are. -/
/- Contracts: Nodes. -/
/- Sorted entries and the canonical trie that they make: plain Lean. -/
import Derived.Test.YtfghidehlnfdiaaTP18
import Derived.Test.YtfghidehlnfdiaaTQ1
import Derived.Maps.Keyed
import Derived.DeepKeys5
section
set_option linter.unusedVariables false
set_option linter.unusedSimpArgs false
namespace Go.Trie
/-- All keys are of at most 128 nibbles, all values of at most 1024 bytes. -/
def Fits (n : Nd) : Prop := ∀ k v, get n k = some v → k.length ≤ 128 ∧ v.length ≤ 1024
theorem Fits.row {q : By} {c : Nd} (h : Fits (.row q c)) : Fits c := fun k v hg => by
  have := h (q ++ k) v (by rw [get_row_append]; exact hg)
  rw [List.length_append] at this
  exact ⟨by omega, this.2⟩
theorem Fits.kid {cs : Fin 16 → Nd} {x : By} (h : Fits (.branch cs x)) (i : Fin 16) : Fits (cs i) := fun k v hg => by
  have := h (UInt8.ofNat i.val :: k) v (by rw [get_branch_cons]; exact hg)
  simp only [List.length_cons] at this
  exact ⟨by omega, this.2⟩
theorem small_of : ∀ {n : Nd}, Canon n → Fits n → Small n
  | .nil, _, _ => trivial
  | .leaf p v, _, h => h p v (by simp [get])
  | .row p c, hc, h => by
    refine ⟨?_, small_of hc.2.2.2 h.row⟩
    obtain ⟨k, v, hk⟩ := has_key hc.2.2.2 (by rintro rfl; exact hc.2.2.1)
    have := (h (p ++ k) v (by rw [get_row_append]; exact hk)).1
    rw [List.length_append] at this; omega
  | .branch cs x, hc, h => by
    refine ⟨?_, fun i => small_of (hc.1 i) (h.kid i)⟩
    by_cases hx : x = []
    · simp [hx]
    · exact (h [] x (by rw [get_branch_nil, if_neg hx])).2
theorem Fits.remove {n : Nd} {p : By} (h : Fits n) (hc : Canon n) (hp : Nib p) : Fits (remove n p).1 := fun k v hg => by
  rw [(remove_ok hc hp).2.2.1 k] at hg
  split at hg
  · cases hg
  · exact h k v hg
theorem Fits.put {n : Nd} {p x : By} (h : Fits n) (hc : Canon n) (hp : Nib p) (hx : x ≠ []) (hpl : p.length ≤ 128) (hxl : x.length ≤ 1024) : Fits (put n p x) := fun k v hg => by
  rw [(put_ok hc hp hx).2.2.2 k] at hg
  split at hg
  · rename_i hk
    cases hg
    exact ⟨by rw [hk]; exact hpl, hxl⟩
  · exact h k v hg
end Go.Trie
namespace Go.Proofs.Ytfghidehlnfdiaa
open Go Go.Vcg Go.Trie
/-- What remove is to do. -/
def RemAt (n : Nd) : Prop := ∀ ⦃C : Type⦄ ⦃w : World⦄ ⦃lab : Nat → C⦄ ⦃c : C⦄ ⦃v : Value⦄ ⦃o : Option Addr⦄ ⦃k t : Nat⦄ ⦃p : By⦄, NodeAt w lab c n v → Canon n → Fits n → CBy w lab c o p → p.length ≤ k → Nib p →
  Calls Try.prog trie_Trie_remove.n #[.pointer (some ⟨t, 0, none⟩), v, .slice o p.length k] w (fun e w' => ∃ v', e = .returned (.tuple #[v', .bool (Trie.remove n p).2, .int .i64 0]) ∧ Grown w lab c w' (Trie.remove n p).1 v')
theorem pruned_calls {cs : Fin 16 → Nd} {y : By} (ih : ∀ i, RemAt (cs i)) {C : Type} {w : World} {lab : Nat → C} {c : C} {b : Nat} {o : Option Addr} {k t : Nat} {p : By} (h : NodeAt w lab c (.branch cs y) (.iface tPBranch (.pointer (some ⟨b, 0, none⟩)))) (hc : Canon (.branch cs y)) (hf : Fits (.branch cs y)) (hp : CBy w lab c o p) (hk : p.length ≤ k) (hn : Nib p) :
    Calls Try.prog trie_Trie_pruned.n #[.pointer (some ⟨t, 0, none⟩), .iface tPBranch (.pointer (some ⟨b, 0, none⟩)), .pointer (some ⟨b, 0, none⟩), .slice o p.length k] w (fun e w' => ∃ v', e = .returned (.tuple #[v', .bool (Trie.remove (.branch cs y) p).2, .int .i64 0]) ∧ Grown w lab c w' (Trie.remove (.branch cs y) p).1 v') := by
  refine calls_gen fun R hR => trie_Trie_pruned.vc _ _ _ _ _ _ _ _ ?_
  unfold trie_Trie_pruned.Vc
  have hs := small_of hc hf
  have h' := h
  obtain ⟨b', vs, oy, cy, hv, B, hy, hkids⟩ := h'
  cases hv
  refine ⟨_, B.blk.rowAll (brA_size _ _ _ _), ?_⟩
  rintro d w1 ⟨rfl, rfl⟩
  have D1 := Blk.new w tBranch br0
  have M1 := Mod.alloc (S := NoB) w (.cells br0 tBranch)
  have hst := D1.storeAll (P := Try.prog) (ty := tBranch) (L := brA vs oy y.length cy) (by rw [brA_size]; exact info_branch) (by rw [brA_size]; rfl) (node_brA_one hkids)
  refine ⟨_, hst, ?_⟩
  have D2 := D1.row_same (brA vs oy y.length cy)
  have M2 : Vcg.Mod NoB w ((w.alloc (.cells br0 tBranch)).setRow w.heap.size (brA vs oy y.length cy)) := M1.step_row (fun h => (Nat.lt_irrefl _ h).elim)
  have hsz2 : ((w.alloc (.cells br0 tBranch)).setRow w.heap.size (brA vs oy y.length cy)).heap.size = w.heap.size + 1 := by rw [size_setRow, size_alloc]
  have inL := mask_in (lab := lab) (c := c) (w := w) (Nat.le_refl _) (Nat.le_refl w.heap.size)
  have hD0 : w.heap.size ≤ w.heap.size := Nat.le_refl _
  generalize (w.alloc (.cells br0 tBranch)).setRow w.heap.size (brA vs oy y.length cy) = w2 at *
  have s2 := Stp.same M2 (mask lab c w.heap.size w.heap.size)
  have Br : BrAt w2 (mask lab c w.heap.size w.heap.size) True w.heap.size cs y := ⟨⟨vs, oy, cy, D2, (CBy.re hy inL).stp s2 (fun h => h), fun i => (NodeAt.re inL (hkids i)).stp s2 (fun h => h)⟩⟩
  have hpL := (CBy.re hp inL).stp s2 (fun h => h)
  simp only [add_at, Nat.zero_add]
  have stay : ∀ w3, Vcg.Mod NoB w w3 → Trie.remove (.branch cs y) p = (.branch cs y, false) → R (.returned (.tuple #[.iface tPBranch (.pointer (some ⟨b, 0, none⟩)), .bool false, .int .i64 0])) w3 := fun w3 M3 e => by
    rw [e] at hR
    exact hR _ _ ⟨_, rfl, NodeAt.grow h M3⟩
  refine ⟨fun w' => ∃ cs' x', Vcg.Mod NoB w w' ∧ BrAt w' (mask lab c w.heap.size w.heap.size) True w.heap.size cs' x' ∧ Trie.remove (.branch cs y) p = (collapse cs' x', true) ∧ ∀ i, plen (cs' i) ≤ 128, ⟨fun h0 => ?_, fun h0 => ?_⟩, ?_⟩
  · have hp0 : p = [] := List.eq_nil_of_length_eq_zero (by omega)
    subst hp0
    have B2 := B.blk.mod' M2
    refine ⟨_, _, _, B2.rd1 (brA_val _ _ _ _), fun hz => ?_, fun hz => ?_⟩
    · refine stay _ M2 ?_
      have : y = [] := List.eq_nil_of_length_eq_zero (by omega)
      simp only [Trie.remove]
      rw [if_pos this]
    · obtain ⟨hset, Br3⟩ := Br.val (k := 0) (o := none) (y := []) mask_D (CBy.nil _ _ _ _)
      refine ⟨hset, ?_⟩
      rintro _ rfl
      have M3 := mod_of M2 (Mod.setCell w2 ⟨w.heap.size, 16, none⟩ (.slice none 0 0)) hD0
      refine ⟨_, _, M3, Br3, ?_, fun i => plen_small (hs.2 i)⟩
      simp only [Trie.remove]
      rw [if_neg (by rintro rfl; simp at hz)]
  · rintro _ rfl
    cases p with
    | nil => simp at h0
    | cons a r =>
      have ha : a.toNat < 16 := hn a (by simp)
      have MD := Mod.drew (S := NoB) w2
      have s3 := Stp.same MD (mask lab c w.heap.size w.heap.size)
      replace Br := Br.stp s3 (fun h => h) (fun h => h)
      replace hpL := hpL.stp s3 (fun h => h)
      have M3 := M2.trans MD (fun _ _ h => h)
      have B3 := B.blk.mod' M3
      have hsz3 : w2.drew.heap.size = w.heap.size + 1 := hsz2
      generalize w2.drew = w3 at *
      obtain ⟨pb, pf, rfl, hpb, hpc⟩ := rdb_get hpL.rd (i := 0) (by simp)
      simp only [List.getElem_cons_zero, Nat.add_zero] at hpc
      simp only [Option.some.injEq, exists_eq_left', add_at, Nat.add_zero]
      have hkid := (NodeAt.re inL (hkids ⟨a.toNat, ha⟩)).stp (Stp.same M3 _) (fun h => h)
      refine ⟨by simp, _, hpc, by omega, vs ⟨a.toNat, ha⟩, by rw [Int.toNat_natCast]; exact B3.rd1 (brA_at vs oy y.length cy ⟨a.toNat, ha⟩), by simp, ?_⟩
      have hpr := hpL.sub (lo := 1) (n := r.length) hk
      simp only [List.drop_succ_cons, List.drop_zero, List.take_length] at hpr
      have hnr : Nib r := fun z hz => hn z (by simp [hz])
      refine (ih ⟨a.toNat, ha⟩ (t := t) (k := k - 1) hkid (hc.1 _) (hf.kid _) hpr (by simp at hk ⊢; omega) hnr).mono ?_
      rintro _ w4 ⟨v4, rfl, G4⟩
      have M4 := M3.trans G4.1 (fun _ _ h => h)
      have hrem : Trie.remove (.branch cs y) (a :: r) = if (Trie.remove (cs ⟨a.toNat, ha⟩) r).2 then (collapse (upd cs a (Trie.remove (cs ⟨a.toNat, ha⟩) r).1) y, true) else (.branch cs y, false) := by
        simp only [Trie.remove]; rw [dif_pos ha]
      refine ⟨_, _, _, rfl, fun h => (h rfl).elim, fun _ => ⟨fun hb => ?_, fun hb => ?_⟩⟩
      · rw [hb, if_neg (by simp)] at hrem
        exact stay _ M4 hrem
      · rw [hb, if_pos rfl] at hrem
        have Br4 := Br.stp (Stp.same G4.1 _) (fun h => h) (fun h => h)
        have hn4 := NodeAt.re (unext w4 (mask_hi (by omega) (by omega))) G4.2
        have hpc4 := (cell_mod G4.1 hpb (fun h => h)).trans hpc
        obtain ⟨hset, Br5⟩ := Br4.kid mask_D ha hn4
        refine ⟨by simp, _, hpc4, by omega, ?_⟩
        simp only [Int.toNat_natCast, Nat.zero_add]
        refine ⟨hset, ?_⟩
        rintro _ rfl
        have M5 := mod_of M4 (Mod.setCell w4 ⟨w.heap.size, a.toNat, none⟩ v4) hD0
        refine ⟨_, _, M5, Br5, hrem, fun i => ?_⟩
        split
        · exact plen_small (small_of (remove_ok (hc.1 _) hnr).1 ((hf.kid _).remove (hc.1 _) hnr))
        · exact plen_small (hs.2 i)
  · rintro _ w5 ⟨cs', x', M5, Br5, e5, hpl⟩
    have hBr := BrAt.re (c' := c) Br5 (mask_out w5)
    refine (collapsed_calls (t := t) hBr (ext_new (Nat.le_refl _)) hpl).mono ?_
    rintro _ w6 ⟨v6, rfl, G6⟩
    rw [e5] at hR
    exact ⟨_, _, rfl, hR _ _ ⟨v6, rfl, grown_of ((Stp.of_nob M5 c).trans G6.stp) G6.2⟩⟩
theorem remove_calls : ∀ (n : Nd), RemAt n
  | .nil => fun C w lab c v o k t p h hc hf hp hk hn => by
    refine calls_gen fun R hR => trie_Trie_remove.vc _ _ _ _ _ _ _ ?_
    unfold trie_Trie_remove.Vc
    refine (seen_calls h t).mono ?_
    rintro _ w ⟨rfl, rfl⟩
    cases h
    exact ⟨_, _, rfl, fun h => (h rfl).elim, fun _ => ⟨_, ask_nil und_pleaf zero_pleaf _, _, _, rfl, fun h => (by cases h), fun _ => ⟨_, ask_nil und_prow zero_prow _, _, _, rfl, fun h => (by cases h), fun _ => ⟨_, ask_nil und_pbranch zero_pbranch _, _, _, rfl, fun h => (by cases h), fun _ => hR _ _ ⟨_, rfl, Mod.refl _, rfl⟩⟩⟩⟩⟩
  | .leaf q y => fun C w lab c v o k t p h hc hf hp hk hn => by
    refine calls_gen fun R hR => trie_Trie_remove.vc _ _ _ _ _ _ _ ?_
    unfold trie_Trie_remove.Vc
    refine (seen_calls h t).mono ?_
    rintro _ w ⟨rfl, rfl⟩
    have h' := h
    obtain ⟨b, oq, cq, oy, cy, rfl, B, hq, hqc, hy⟩ := h'
    refine ⟨_, _, rfl, fun h => (h rfl).elim, fun _ => ⟨_, ask_yes und_pleaf _, _, _, rfl, fun _ => ?_, fun h => by cases h⟩⟩
    simp only [Option.some.injEq, exists_eq_left', add_at, Nat.zero_add]
    refine ⟨_, _, _, B.blk.rd1 rfl, ?_⟩
    refine (Equal_calls hq.rd hp.rd).mono ?_
    rintro _ w ⟨rfl, rfl⟩
    simp only [Trie.remove] at hR
    refine ⟨_, rfl, fun he => ?_, fun he => ?_⟩
    · rw [if_pos (of_decide_eq_true he)] at hR
      exact hR _ _ ⟨_, rfl, Mod.refl _, rfl⟩
    · rw [if_neg (of_decide_eq_false he)] at hR
      exact hR _ _ ⟨_, rfl, NodeAt.grow h (Mod.refl _)⟩
  | .row q m => fun C w lab c v o k t p h hc hf hp hk hn => by
    have ih := @remove_calls m
    refine calls_gen fun R hR => trie_Trie_remove.vc _ _ _ _ _ _ _ ?_
    unfold trie_Trie_remove.Vc
    refine (seen_calls h t).mono ?_
    rintro _ w ⟨rfl, rfl⟩
    have h' := h
    obtain ⟨b, oq, cq, vm, rfl, B, hq, hqc, hm⟩ := h'
    refine ⟨_, _, rfl, fun h => (h rfl).elim, fun _ => ⟨_, ask_no und_pleaf zero_pleaf (by decide) _, _, _, rfl, fun h => (by cases h), fun _ => ⟨_, ask_yes und_prow _, _, _, rfl, fun _ => ?_, fun h => by cases h⟩⟩⟩
    simp only [Option.some.injEq, exists_eq_left', add_at, Nat.zero_add]
    refine ⟨_, _, _, B.blk.rd1 rfl, ?_⟩
    refine (begins_calls hp.rd hk hq.rd).mono ?_
    rintro e1 w ⟨rfl, he⟩
    simp only [Trie.remove] at hR
    split at he
    · rename_i hpre
      subst he
      rw [if_pos hpre] at hR
      have hpd := hp.sub (lo := q.length) (n := p.length - q.length) hk
      rw [List.take_of_length_le (by rw [List.length_drop]; omega)] at hpd
      refine ⟨_, _, _, _, rfl, fun h => (by cases h), fun _ => ⟨_, B.blk.rd1 rfl, ?_⟩⟩
      refine (ih (t := t) (k := k - q.length) hm hc.2.2.2 hf.row hpd (by rw [List.length_drop]; omega) (hn.drop _)).mono ?_
      rintro _ w1 ⟨v1, rfl, G1⟩
      refine ⟨_, _, _, rfl, fun h => (h rfl).elim, fun _ => ⟨fun hb => ?_, fun hb => ?_⟩⟩
      · rw [hb, if_neg (by simp)] at hR
        exact hR _ _ ⟨_, rfl, NodeAt.grow h G1.1⟩
      · rw [hb, if_pos rfl] at hR
        rcases node_iface G1.2 with ⟨hv, hz⟩ | ⟨hv, hz⟩
        · rw [hz, if_pos rfl] at hR
          exact .inl ⟨hv, hR _ _ ⟨_, rfl, G1.1, rfl⟩⟩
        · rw [hz, if_neg (by simp)] at hR
          refine .inr ⟨hv, _, _, _, (B.blk.mod' G1.1).rd1 rfl, ?_⟩
          have hs := small_of hc hf
          refine (Grown.rowed (w2 := w1) G1 (plen_small (small_of (remove_ok hc.2.2.2 (hn.drop q.length)).1 (hf.row.remove hc.2.2.2 (hn.drop q.length)))) hq hqc (by have := hs.1; omega)).mono ?_
          rintro _ w2 ⟨v2, rfl, G2⟩
          exact ⟨_, rfl, hR _ _ ⟨v2, rfl, G2⟩⟩
    · rename_i hpre
      subst he
      rw [if_neg hpre] at hR
      exact ⟨_, _, _, _, rfl, fun _ => hR _ _ ⟨_, rfl, NodeAt.grow h (Mod.refl _)⟩, fun h => by cases h⟩
  | .branch cs y => fun C w lab c v o k t p h hc hf hp hk hn => by
    have ih : ∀ i, RemAt (cs i) := fun i => @remove_calls (cs i)
    refine calls_gen fun R hR => trie_Trie_remove.vc _ _ _ _ _ _ _ ?_
    unfold trie_Trie_remove.Vc
    refine (seen_calls h t).mono ?_
    rintro _ w ⟨rfl, rfl⟩
    have h' := h
    obtain ⟨b, vs, oy, cy, rfl, B, hy, hkids⟩ := h'
    refine ⟨_, _, rfl, fun h => (h rfl).elim, fun _ => ⟨_, ask_no und_pleaf zero_pleaf (by decide) _, _, _, rfl, fun h => (by cases h), fun _ => ⟨_, ask_no und_prow zero_prow (by decide) _, _, _, rfl, fun h => (by cases h), fun _ => ⟨_, ask_yes und_pbranch _, _, _, rfl, fun _ => ?_, fun h => by cases h⟩⟩⟩⟩
    refine (pruned_calls (t := t) ih h hc hf hp hk hn).mono ?_
    rintro _ w1 ⟨v1, rfl, G1⟩
    exact ⟨_, _, _, rfl, hR _ _ ⟨v1, rfl, G1⟩⟩
end Go.Proofs.Ytfghidehlnfdiaa
end

section
set_option linter.unusedVariables false
set_option linter.unusedSimpArgs false
namespace Go.Proofs.Ytfghidehlnfdiaa
open Go Go.Vcg Go.Trie
abbrev H32 := {h : By // h.length = 32}
instance : DecidableEq H32 := fun a b => decidable_of_iff (a.1 = b.1) Subtype.ext_iff.symm
def sumH (b : By) : H32 := ⟨sumOf b, length_sumOf b⟩
def encH (h : H32) : Value := .agg (hashA h.1)
theorem bV_inj {a b : UInt8} (h : bV a = bV b) : a = b := by
  simp only [bV, Value.int.injEq, true_and] at h
  exact UInt8.toNat_inj.1 (by exact_mod_cast h)
theorem hashA_inj {a b : By} (ha : a.length = 32) (hb : b.length = 32) (h : hashA a = hashA b) : a = b := by
  apply List.ext_getElem (by omega)
  intro i h1 h2
  have hi : i < 32 := by omega
  have e := congrArg (fun x : Array Value => x[i]?) h
  simp only [hashA, get_arrOf_lt hi, Option.some.injEq] at e
  have := bV_inj e
  simpa [List.getD_eq_getElem?_getD, h1, h2] using this
theorem laidOut : laidOutB Try.prog = true := by kernel_rfl
theorem und_hash : Try.prog.underlying tHash = some (.array 32 5) := by kernel_rfl
theorem mapM_some {α β : Type} {f : α → Option β} : ∀ (l : List α), (∀ x ∈ l, ∃ y, f x = some y) → ∃ ys, l.mapM f = some ys
  | [], _ => ⟨[], rfl⟩
  | x :: r, h => by
    obtain ⟨y, hy⟩ := h x (by simp)
    obtain ⟨ys, hys⟩ := mapM_some r (fun z hz => h z (by simp [hz]))
    exact ⟨y :: ys, by rw [List.mapM_cons, hy, hys]; rfl⟩
theorem keyOf_arr {P : Program} {k e : TypeId} {n : Nat} {q : IntKind} {v : Value} (hu : P.underlying k = some (.array n e)) (hk : P.keyType k = true) (hf : v.formed P k = true) (hs : 1 ≤ P.types.size) (he : P.underlying e = some (.int q)) (hc : P.cellsOf e = 1)
    (hcl : v.cells.toList.length = P.cellsOf k) (hcells : ∀ i, i < n → ∃ m, v.cells.toList[i]? = some (.int q m) ∧ (Lit.int q m).wf = true) : ∃ l, keyOf P k v = some l := by
  obtain ⟨d, hd⟩ : ∃ d, P.types.size = d + 1 := ⟨P.types.size - 1, by omega⟩
  unfold keyOf
  simp only [hu, hk, hf, Bool.and_self, if_true, hd, Program.keyLits, hcl]
  obtain ⟨ys, hys⟩ := mapM_some (f := fun i => P.keyLits (d + 1) e ((v.cells.toList.drop (i * P.cellsOf e)).take (P.cellsOf e))) (List.range n) (fun i hi => by
    obtain ⟨m, h1, h2⟩ := hcells i (List.mem_range.1 hi)
    have e1 : ((v.cells.toList.drop (i * P.cellsOf e)).take (P.cellsOf e)) = [.int q m] := by
      rw [hc, Nat.mul_one]
      have hl : i < v.cells.toList.length := by
        rcases Nat.lt_or_ge i v.cells.toList.length with h | h
        · exact h
        · rw [List.getElem?_eq_none h] at h1; cases h1
      rw [List.getElem?_eq_getElem hl] at h1
      rw [List.drop_eq_getElem_cons hl, Option.some.inj h1]; rfl
    refine ⟨[.int q m], ?_⟩
    rw [e1]
    simp only [Program.keyLits, he]
    exact if_pos ⟨trivial, h2⟩)
  simp only [Program.keyLits] at hys
  refine ⟨.string (keyBytes ys.flatten), ?_⟩
  rw [hys]
  rfl
theorem wf_u8 (b : UInt8) : (Lit.int .u8 (b.toNat : Int)).wf = true := by
  have : ∀ n : Fin 256, (Lit.int .u8 ((UInt8.ofFin n).toNat : Int)).wf = true := by decide +kernel
  exact this b.toFin
theorem cells_hash : Try.prog.cellsOf tHash = 32 := by kernel_rfl
theorem encH_cells (h : H32) : (encH h).cells = hashA h.1 := rfl
theorem keyEncH : KeyEnc Try.prog tHash encH (fun _ => True) where
  keyed := Go.Maps.Keyed.of_law (deep_law_gate laidOut (of_decide_eq_true (by kernel_rfl)) (of_decide_eq_true (by kernel_rfl)) (by kernel_rfl) (by kernel_rfl))
  ok h _ := keyOf_arr und_hash (by kernel_rfl) (by simp only [encH, Value.formed, und_hash, cells_hash, size_hashA]; rfl) (of_decide_eq_true (by kernel_rfl)) und_u8 (by kernel_rfl)
    (by rw [encH_cells, Array.length_toList, size_hashA, cells_hash]) (fun i hi => ⟨((h.1.getD i 0).toNat : Int), by rw [encH_cells, Array.getElem?_toList]; exact get_arrOf_lt hi, wf_u8 _⟩)
  inj a b h := by
    simp only [encH, Value.agg.injEq] at h
    exact Subtype.ext (hashA_inj a.2 b.2 h)

/-! ### rows of nodes -/
abbrev tNd : TypeId := 104
abbrev tSlNd : TypeId := 49
theorem und_slNd : Try.prog.underlying tSlNd = some (.slice tNd) := by kernel_rfl
def ndA (h : By) (o : Option Addr) (l k : Nat) : Array Value := ((hashA h).toList ++ [Value.slice o l k]).toArray
abbrev nd0 : Array Value := #[(.int .u8 0), (.int .u8 0), (.int .u8 0), (.int .u8 0), (.int .u8 0), (.int .u8 0), (.int .u8 0), (.int .u8 0), (.int .u8 0), (.int .u8 0), (.int .u8 0), (.int .u8 0), (.int .u8 0), (.int .u8 0), (.int .u8 0), (.int .u8 0), (.int .u8 0), (.int .u8 0), (.int .u8 0), (.int .u8 0), (.int .u8 0), (.int .u8 0), (.int .u8 0), (.int .u8 0), (.int .u8 0), (.int .u8 0), (.int .u8 0), (.int .u8 0), (.int .u8 0), (.int .u8 0), (.int .u8 0), (.int .u8 0), (.slice none 0 0)]
theorem info_nd : (Try.prog.info? tNd).map (fun i => (i.zero, i.size, i.bytes)) = some (some (.agg nd0), 33, 56) := by kernel_rfl
theorem size_ndA (h : By) (o : Option Addr) (l k : Nat) : (ndA h o l k).size = 33 := by simp [ndA, size_hashA]
theorem ndA_lo {h : By} {o : Option Addr} {l k i : Nat} (hi : i < 32) : (ndA h o l k)[i]? = some (bV (h.getD i 0)) := by
  unfold ndA
  rw [List.getElem?_toArray, List.getElem?_append_left (by rw [Array.length_toList, size_hashA]; exact hi), Array.getElem?_toList]
  exact get_arrOf_lt hi
theorem ndA_hi {h : By} {o : Option Addr} {l k : Nat} : (ndA h o l k)[32]? = some (.slice o l k) := by
  unfold ndA
  rw [List.getElem?_toArray, List.getElem?_append_right (by rw [Array.length_toList, size_hashA]; omega), Array.length_toList, size_hashA]
  rfl
theorem ndA_one (h : By) (o : Option Addr) (l k : Nat) : ∀ v ∈ (ndA h o l k).toList, v.oneCell' = true := by
  intro v hv
  simp only [ndA, List.mem_append, List.mem_singleton] at hv
  rcases hv with hv | rfl
  · exact hashA_one h v hv
  · rfl
theorem nd_built {Z : Array Value} (hZ : Z.size = 33) (h : By) (s : Value) : lputL Z 0 33 (setsAt (lputL Z 0 32 (hashA h)) 32 [s]) = ((hashA h).toList ++ [s]).toArray := by
  have e1 : (lputL Z 0 32 (hashA h)).size = 33 := by unfold lputL; rw [size_setsAt, hZ]
  have hh : (hashA h).toList.take 32 = (hashA h).toList := List.take_of_length_le (by rw [Array.length_toList, size_hashA]; omega)
  have hl : (hashA h).toList.length = 32 := by rw [Array.length_toList, size_hashA]
  have e2 : (setsAt (lputL Z 0 32 (hashA h)) 32 [s]).size = 33 := by rw [size_setsAt, e1]
  apply Array.ext_getElem?
  intro i
  have hr : (((hashA h).toList ++ [s]).toArray)[i]? = ((hashA h).toList ++ [s])[i]? := List.getElem?_toArray ..
  rw [hr]
  have e3 : lputL Z 0 33 (setsAt (lputL Z 0 32 (hashA h)) 32 [s]) = setsAt Z 0 ((setsAt (lputL Z 0 32 (hashA h)) 32 [s]).toList.take 33) := rfl
  have ht : ((setsAt (lputL Z 0 32 (hashA h)) 32 [s]).toList.take 33) = (setsAt (lputL Z 0 32 (hashA h)) 32 [s]).toList := List.take_of_length_le (by rw [Array.length_toList, e2]; omega)
  rw [e3, ht, get_setsAt _ _ _ _ (by rw [Array.length_toList, e2, hZ]; omega), Array.length_toList, e2]
  by_cases hi : i < 33
  · rw [if_pos (by omega), Nat.sub_zero, Array.getElem?_toList, get_setsAt _ _ _ _ (by rw [e1]; simp)]
    by_cases h32 : i = 32
    · subst h32
      rw [if_pos (by simp), List.getElem?_append_right (by omega), hl]
    · rw [if_neg (by simp; omega), List.getElem?_append_left (by omega)]
      unfold lputL
      rw [hh, get_setsAt _ _ _ _ (by omega), if_pos (by omega), Nat.sub_zero]
  · rw [if_neg (by omega), Array.getElem?_eq_none (by omega), List.getElem?_eq_none (by rw [List.length_append, hl]; simp; omega)]
section
variable {C : Type} {S : C → Prop} {w0 w w1 w' : World} {lab lab' : Nat → C} {c cb : C}
/-- Cells of nodes, one behind the other: hashes, and bytes in blocks of colour cb. -/
def NdCells (w : World) (lab : Nat → C) (cb : C) (vs : List Value) (l : List (By × By)) : Prop :=
  vs.length = l.length * 33 ∧ ∀ (j : Nat) (hj : j < l.length), l[j].1.length = 32 ∧ (∀ i, i < 32 → vs[j * 33 + i]? = some (bV (l[j].1.getD i 0))) ∧ ∃ ob kb, vs[j * 33 + 32]? = some (.slice ob l[j].2.length kb) ∧ CBy w lab cb ob l[j].2
theorem NdCells.nil (w : World) (lab : Nat → C) (cb : C) : NdCells w lab cb [] [] := ⟨rfl, fun j hj => absurd hj (by simp)⟩
theorem NdCells.stp {vs : List Value} {l : List (By × By)} (h : NdCells w lab cb vs l) (s : Stp S w lab w' lab') (hs : ¬ S cb) : NdCells w' lab' cb vs l :=
  ⟨h.1, fun j hj => by obtain ⟨h1, h2, ob, kb, h3, h4⟩ := h.2 j hj; exact ⟨h1, h2, ob, kb, h3, h4.stp s hs⟩⟩
theorem NdCells.push {vs : List Value} {l : List (By × By)} {h b : By} {ob : Option Addr} {kb : Nat} (H : NdCells w lab cb vs l) (hh : h.length = 32) (hb : CBy w lab cb ob b) :
    NdCells w lab cb (vs ++ (ndA h ob b.length kb).toList) (l ++ [(h, b)]) := by
  have hnl : (ndA h ob b.length kb).toList.length = 33 := by rw [Array.length_toList, size_ndA]
  refine ⟨by rw [List.length_append, hnl, H.1, List.length_append]; simp; omega, fun j hj => ?_⟩
  rw [List.length_append, List.length_singleton] at hj
  have hv := H.1
  by_cases hl : j < l.length
  · rw [List.getElem_append_left hl]
    obtain ⟨h1, h2, ob, kb, h3, h4⟩ := H.2 j hl
    exact ⟨h1, fun i hi => by rw [List.getElem?_append_left (by omega)]; exact h2 i hi, ob, kb, by rw [List.getElem?_append_left (by omega)]; exact h3, h4⟩
  · obtain rfl : j = l.length := by omega
    rw [List.getElem_append_right (Nat.le_refl _)]
    simp only [Nat.sub_self, List.getElem_cons_zero]
    refine ⟨hh, fun i hi => ?_, ob, kb, ?_, hb⟩
    · rw [List.getElem?_append_right (by omega), hv, show l.length * 33 + i - l.length * 33 = i by omega, Array.getElem?_toList]
      exact ndA_lo hi
    · rw [List.getElem?_append_right (by omega), hv, show l.length * 33 + 32 - l.length * 33 = 32 by omega, Array.getElem?_toList]
      exact ndA_hi
/-- A row of nodes of its own, in colour c. -/
def NdOwn (w : World) (lab : Nat → C) (c cb : C) (l : List (By × By)) (o : Option Addr) (n k : Nat) : Prop :=
  n = l.length ∧ ∃ vs, COw w lab c tNd 33 o n k vs ∧ NdCells w lab cb vs l
theorem NdOwn.nil (w : World) (lab : Nat → C) (c cb : C) : NdOwn w lab c cb [] none 0 0 := ⟨rfl, [], COw.nil w lab c _ _, NdCells.nil w lab cb⟩
theorem NdOwn.stp {l : List (By × By)} {o : Option Addr} {n k : Nat} (h : NdOwn w lab c cb l o n k) (s : Stp S w lab w' lab') (hs : ¬ S c) (hb : ¬ S cb) : NdOwn w' lab' c cb l o n k := by
  obtain ⟨h1, vs, h2, h3⟩ := h
  exact ⟨h1, vs, h2.stp s hs, h3.stp s hb⟩
theorem NdOwn.push {l : List (By × By)} {o : Option Addr} {n k D : Nat} {h b : By} {ob : Option Addr} {kb : Nat} (H : NdOwn w lab c cb l o n k) (hcb : cb ≠ c) (B : Blk w D tNd (ndA h ob b.length kb)) (hh : h.length = 32) (hb : CBy w lab cb ob b) (hl : l.length ≤ 2 ^ 20) :
    ∃ o' k' w', Sem.run Try.prog (builtinV .append #[tSlNd, tSlNd] tSlNd #[.slice o n k, .slice (some ⟨D, 0, none⟩) 1 1]) w = .ok (.slice o' (n + 1) k') w' ∧
      NdOwn w' (ext lab w.heap.size c) c cb (l ++ [(h, b)]) o' (n + 1) k' ∧ Stp (· = c) w lab w' (ext lab w.heap.size c) := by
  obtain ⟨rfl, vs, hO, hC⟩ := H
  obtain ⟨i, hi, hz, hs, hbt⟩ := info_of info_nd
  obtain ⟨o', k', w', h1, h2, h3⟩ := COw.append (ty := tSlNd) und_slNd hi hz hs (by rfl) hO (src_one und_slNd B (size_ndA _ _ _ _) (ndA_one _ _ _ _)) (by simp only [maxLen]; omega) (by rw [hbt]; omega)
  exact ⟨o', k', w', h1, ⟨by simp, _, h2, (hC.push hh hb).stp h3 hcb⟩, h3⟩
end
end Go.Proofs.Ytfghidehlnfdiaa
end

section
set_option linter.unusedVariables false
set_option linter.unusedSimpArgs false
namespace Go.Trie
def met (out : List (By × By)) (h : By) : Bool := out.any fun x => decide (x.1 = h)
/-- A node is laid down, once. -/
def putNode (out : List (By × By)) (top : Bool) (b : By) : List (By × By) := if met out (Go.Vcg.sumOf b) || (!top && decide (b.length < 32)) then out else out ++ [(Go.Vcg.sumOf b, b)]
def visitN : Nd → Bool → List (By × By) → List (By × By)
  | .nil, _, out => out
  | .leaf p v, top, out => putNode out top (bytesOf (.leaf p v))
  | .row p c, top, out => putNode (visitN c false out) top (bytesOf (.row p c))
  | .branch cs v, top, out => putNode ((List.finRange 16).foldl (fun o i => visitN (cs i) false o) out) top (bytesOf (.branch cs v))
def nodesOf (n : Nd) : List (By × By) := visitN n true []
def cnt : Nd → Nat
  | .nil => 0
  | .leaf _ _ => 1
  | .row _ c => 1 + cnt c
  | .branch cs _ => 1 + ((List.finRange 16).map fun i => cnt (cs i)).sum
theorem putNode_len (out : List (By × By)) (top : Bool) (b : By) : (putNode out top b).length ≤ out.length + 1 := by
  unfold putNode; split <;> simp
theorem foldl_len {cs : Fin 16 → Nd} (ih : ∀ i out, (visitN (cs i) false out).length ≤ out.length + cnt (cs i)) : ∀ (l : List (Fin 16)) (out : List (By × By)), (l.foldl (fun o i => visitN (cs i) false o) out).length ≤ out.length + (l.map fun i => cnt (cs i)).sum
  | [], out => by simp
  | i :: r, out => by
    simp only [List.foldl_cons, List.map_cons, List.sum_cons]
    have h1 := foldl_len ih r (visitN (cs i) false out)
    have h2 := ih i out
    omega
theorem visitN_len : ∀ (n : Nd) (top : Bool) (out : List (By × By)), (visitN n top out).length ≤ out.length + cnt n
  | .nil, _, out => by simp [visitN]
  | .leaf p v, top, out => by simp only [visitN, cnt]; exact putNode_len _ _ _
  | .row p c, top, out => by
    simp only [visitN, cnt]
    have h1 := putNode_len (visitN c false out) top (bytesOf (.row p c))
    have h2 := visitN_len c false out
    omega
  | .branch cs v, top, out => by
    simp only [visitN, cnt]
    have h1 := putNode_len ((List.finRange 16).foldl (fun o i => visitN (cs i) false o) out) top (bytesOf (.branch cs v))
    have h2 := foldl_len (fun i out => visitN_len (cs i) false out) (List.finRange 16) out
    omega
end Go.Trie
namespace Go.Proofs.Ytfghidehlnfdiaa
open Go Go.Vcg Go.Trie
abbrev tMet : TypeId := 169
theorem und_met : Try.prog.underlying tMet = some (.map tHash 172) := by kernel_rfl
theorem zero_unit (w : World) : (zeroValue 172).run Try.prog w = .ok (.agg #[]) w := by kernel_rfl
/-- Blocks that a walk over nodes may change. -/
abbrev SV1 : Nat → Prop := fun k => k = 1 ∨ k = 2 ∨ k = 4
structure VS (w : World) (L : Nat → Nat) (d2 d3 d4 m : Nat) (out : List (By × By)) : Prop where
  f : CB w L 3 d2 170 #[.func (.func 97) #[] #[.pointer (some ⟨d2, 0, none⟩), .pointer (some ⟨d3, 0, none⟩), .pointer (some ⟨d4, 0, none⟩)]]
  mc : CB w L 3 d3 169 #[.map (some m)]
  met : ∃ es : List (H32 × Value), CM (fun _ => True) encH w L 2 m es ∧ (es.map fun x => x.1.1) = out.map Prod.fst ∧ ∀ x ∈ es, x.2 = .agg #[]
  out : ∃ o n k, CB w L 1 d4 tSlNd #[.slice o n k] ∧ NdOwn w L 4 5 out o n k
theorem VS.stp {S : Nat → Prop} {w w' : World} {L L' : Nat → Nat} {d2 d3 d4 m : Nat} {out : List (By × By)} (h : VS w L d2 d3 d4 m out) (s : Stp S w L w' L') (h1 : ¬ S 1) (h2 : ¬ S 2) (h3 : ¬ S 3) (h4 : ¬ S 4) (h5 : ¬ S 5) : VS w' L' d2 d3 d4 m out := by
  obtain ⟨es, m1, m2⟩ := h.met
  obtain ⟨o, n, k, o1, o2⟩ := h.out
  exact ⟨h.f.stp s h3, h.mc.stp s h3, ⟨es, m1.stp s h2, m2⟩, ⟨o, n, k, o1.stp s h1, o2.stp s h4 h5⟩⟩
theorem VS.mod' {w w' : World} {L : Nat → Nat} {d2 d3 d4 m : Nat} {out : List (By × By)} (h : VS w L d2 d3 d4 m out) (M : Vcg.Mod NoB w w') : VS w' (ext L w.heap.size 5) d2 d3 d4 m out :=
  h.stp (S := NoS) (Stp.of_nob M 5) (fun h => h) (fun h => h) (fun h => h) (fun h => h) (fun h => h)
theorem assoc_some {k : H32} : ∀ {es : List (H32 × Value)}, (assoc k es).isSome = es.any fun x => decide (x.1.1 = k.1)
  | [] => rfl
  | x :: r => by
    simp only [assoc, List.any_cons]
    by_cases h : x.1 = k
    · rw [if_pos h]; simp [h]
    · rw [if_neg h, assoc_some]
      have : decide (x.1.1 = k.1) = false := decide_eq_false (fun e => h (Subtype.ext e))
      rw [this]; rfl
theorem assoc_unit {k : H32} : ∀ {es : List (H32 × Value)}, (∀ x ∈ es, x.2 = .agg #[]) → (assoc k es).getD (.agg #[]) = .agg #[]
  | [], _ => rfl
  | x :: r, h => by
    simp only [assoc]
    split
    · simp [h x (by simp)]
    · exact assoc_unit (fun y hy => h y (by simp [hy]))
theorem any_fst (es : List (H32 × Value)) (out : List (By × By)) (h : (es.map fun x => x.1.1) = out.map Prod.fst) (k : By) : (es.any fun x => decide (x.1.1 = k)) = met out k := by
  have h1 : (es.map fun x => x.1.1).any (fun y => decide (y = k)) = (out.map Prod.fst).any (fun y => decide (y = k)) := by rw [h]
  rw [List.any_map, List.any_map] at h1
  exact h1
/-- A node that is new is laid down. -/
theorem emit {w : World} {L : Nat → Nat} {d2 d3 d4 m D l k : Nat} {ob : Option Addr} {out : List (By × By)} {b : By} {R : Ending → World → Prop} (h : VS w L d2 d3 d4 m out) (B : CB w L 5 D tHash (hashA (sumOf b))) (hb : CBy w L 5 ob b) (hn : met out (sumOf b) = false) (hl : out.length ≤ 2 ^ 20) (he : l = b.length)
    (K : ∀ w' L', Stp SV1 w L w' L' → VS w' L' d2 d3 d4 m (out ++ [(sumOf b, b)]) → R (.returned (.tuple #[])) w') :
    ∃ m57 : Option Nat, World.cell? w ⟨d3, 0, none⟩ = some (.map m57) ∧
    ∃ L58 : Array Value, RowAt w ⟨D, 0, none⟩ 32 L58 ∧
    ∃ w59 : World, Sem.run Try.prog (Instr.mapUpdate 169 (.map m57) (.agg L58) (.agg #[])) w = .ok () w59 ∧
    ∃ o60 : Option Addr, ∃ l61 : Nat, ∃ l62 : Nat, World.cell? w59 ⟨d4, 0, none⟩ = some (.slice o60 l61 l62) ∧
    ∃ L63 : Array Value, RowAt w59 ⟨D, 0, none⟩ 32 L63 ∧
    Array.size L63 = 32 ∧
    Array.size (setsAt (lputL nd0 0 32 L63) 32 [(.slice ob l k)]) = 33 ∧
    ∀ (d64 : Addr) (w65 : World), IsNew w59 104 (lputL nd0 0 33 (setsAt (lputL nd0 0 32 L63) 32 [(.slice ob l k)])) d64 w65 →
    ∃ (v66 : Value) (w67 : World), Sem.run Try.prog (builtinV .append #[49, 49] 49 #[(.slice o60 l61 l62), (.slice (some d64) 1 1)]) w65 = .ok v66 w67 ∧
    ∃ o68 : Option Addr, ∃ l69 : Nat, ∃ l70 : Nat, v66 = (.slice o68 l69 l70) ∧
    CanSet w67 ⟨d4, 0, none⟩ (.slice o68 l69 l70) ∧ ∀ w71 : World, IsSet w67 ⟨d4, 0, none⟩ (.slice o68 l69 l70) w71 →
    R (.returned (.tuple #[])) w71 := by
  subst he
  obtain ⟨es, m1, m2, m3⟩ := h.met
  obtain ⟨o, n, kk, o1, o2⟩ := h.out
  obtain ⟨w1, hr1, hm1, M1⟩ := MapAt.update m1.map keyEncH und_met (k := sumH b) trivial (.agg #[])
  have s1 : Stp SV1 w L w1 (ext L w.heap.size 5) := Stp.of_mod M1 5 (fun k _ e => by subst e; exact .inr (.inl m1.clr))
  have hmet : (assoc (sumH b) es).isSome = false := by rw [assoc_some, any_fst es out m2]; exact hn
  have hnew : ∀ x ∈ es, x.1 ≠ sumH b := fun x hx e => by
    rw [assoc_some] at hmet
    have := List.any_eq_false.1 hmet x hx
    rw [e] at this
    exact this (decide_eq_true rfl)
  rw [upd_none hnew] at hm1
  have c1 : L m = 2 := m1.clr
  have s1' : Stp (fun k => k = 2) w L w1 (ext L w.heap.size 5) := Stp.of_mod M1 5 (fun k _ e => by subst e; exact c1)
  have B1 := B.stp s1' (by decide)
  have b1 := hb.stp s1' (by decide)
  have C1 := o1.stp s1' (by decide)
  have O1 := o2.stp s1' (by decide) (by decide)
  have f1 := h.f.stp s1' (by decide)
  have mc1 := h.mc.stp s1' (by decide)
  have cm1 : CM (fun _ => True) encH w1 (ext L w.heap.size 5) 2 m (es ++ [(sumH b, .agg #[])]) := ⟨hm1, (s1'.lab m m1.map.lt).trans c1⟩
  generalize ext L w.heap.size 5 = L1 at *
  have hZ : nd0.size = 33 := rfl
  refine ⟨some m, h.mc.blk.rd1 rfl, hashA (sumOf b), B.blk.rowAll (size_hashA _), w1, hr1, o, n, kk, C1.blk.rd1 rfl, hashA (sumOf b), B1.blk.rowAll (size_hashA _), size_hashA _, by rw [size_setsAt]; unfold lputL; rw [size_setsAt, hZ], ?_⟩
  rw [nd_built hZ]
  rintro d w2 ⟨rfl, rfl⟩
  have M2 := Mod.alloc (S := NoB) w1 (.cells (ndA (sumOf b) ob b.length k) tNd)
  have N2 := Blk.new w1 tNd (ndA (sumOf b) ob b.length k)
  have s2 : Stp NoS w1 L1 (w1.alloc (.cells (ndA (sumOf b) ob b.length k) tNd)) (ext L1 w1.heap.size 5) := Stp.of_nob M2 5
  have hsz : w1.heap.size < (w1.alloc (.cells (ndA (sumOf b) ob b.length k) tNd)).heap.size := by rw [size_alloc]; omega
  show ∃ (v66 : Value) (w67 : World), Sem.run Try.prog (builtinV .append #[49, 49] 49 #[(.slice o n kk), (.slice (some ⟨w1.heap.size, 0, none⟩) 1 1)]) (w1.alloc (.cells (ndA (sumOf b) ob b.length k) tNd)) = .ok v66 w67 ∧ _
  generalize w1.alloc (.cells (ndA (sumOf b) ob b.length k) tNd) = w2 at *
  have b2 := b1.stp s2 (fun h => h)
  have C2 := C1.stp s2 (fun h => h)
  have O2 := O1.stp s2 (fun h => h) (fun h => h)
  have f2 := f1.stp s2 (fun h => h)
  have mc2 := mc1.stp s2 (fun h => h)
  have cm2 := cm1.stp s2 (fun h => h)
  generalize ext L1 w1.heap.size 5 = L2 at *
  obtain ⟨o', k', w3, hr3, O3, s3⟩ := O2.push (h := sumOf b) (by decide) N2 (length_sumOf _) b2 hl
  have C3 := C2.stp s3 (by decide)
  have f3 := f2.stp s3 (by decide)
  have mc3 := mc2.stp s3 (by decide)
  have cm3 := cm2.stp s3 (by decide)
  generalize ext L2 w2.heap.size 4 = L3 at *
  refine ⟨_, w3, hr3, o', _, k', rfl, C3.blk.canSet (by simp) rfl, ?_⟩
  rintro _ rfl
  have s4 : Stp (fun k => k = 1) w3 L3 (w3.setCell ⟨d4, 0, none⟩ (.slice o' (n + 1) k')) L3 := Stp.setCell C3.clr
  refine K _ L3 (((s1.trans (s2.mono (fun _ h => h.elim))).trans (s3.mono (fun _ h => .inr (.inr h)))).trans (s4.mono (fun _ h => .inl h))) ⟨f3.stp s4 (by decide), mc3.stp s4 (by decide), ⟨_, cm3.stp s4 (by decide), ?_, ?_⟩, ⟨o', n + 1, k', C3.set 0 _, O3.stp s4 (by decide) (by decide)⟩⟩
  · rw [List.map_append, m2, List.map_append]; rfl
  · intro x hx
    rcases List.mem_append.1 hx with hx | hx
    · exact m3 x hx
    · simp at hx; rw [hx]
end Go.Proofs.Ytfghidehlnfdiaa
end

section
set_option linter.unusedVariables false
set_option linter.unusedSimpArgs false
namespace Go.Proofs.Ytfghidehlnfdiaa
open Go Go.Vcg Go.Trie
theorem visit_calls : ∀ (n : Nd) {w : World} {L : Nat → Nat} {v : Value} {top : Bool} {out : List (By × By)} {d2 d3 d4 m : Nat}, VS w L d2 d3 d4 m out → NodeAt w L 6 n v → Canon n → Small n → out.length + cnt n ≤ 2 ^ 20 →
    Calls Try.prog trie_Trie_Nodes_1.n #[v, .bool top, .pointer (some ⟨d2, 0, none⟩), .pointer (some ⟨d3, 0, none⟩), .pointer (some ⟨d4, 0, none⟩)] w (fun e w' => e = .returned (.tuple #[]) ∧ ∃ L', Stp SV1 w L w' L' ∧ VS w' L' d2 d3 d4 m (visitN n top out)) := by
  have main : ∀ (n : Nd), (∀ c, (∃ p, n = .row p c) ∨ (∃ cs v i, n = .branch cs v ∧ c = cs i) → ∀ {w : World} {L : Nat → Nat} {v : Value} {top : Bool} {out : List (By × By)} {d2 d3 d4 m : Nat}, VS w L d2 d3 d4 m out → NodeAt w L 6 c v → Canon c → Small c → out.length + cnt c ≤ 2 ^ 20 →
      Calls Try.prog trie_Trie_Nodes_1.n #[v, .bool top, .pointer (some ⟨d2, 0, none⟩), .pointer (some ⟨d3, 0, none⟩), .pointer (some ⟨d4, 0, none⟩)] w (fun e w' => e = .returned (.tuple #[]) ∧ ∃ L', Stp SV1 w L w' L' ∧ VS w' L' d2 d3 d4 m (visitN c top out))) →
      ∀ {w : World} {L : Nat → Nat} {v : Value} {top : Bool} {out : List (By × By)} {d2 d3 d4 m : Nat}, VS w L d2 d3 d4 m out → NodeAt w L 6 n v → Canon n → Small n → out.length + cnt n ≤ 2 ^ 20 →
      Calls Try.prog trie_Trie_Nodes_1.n #[v, .bool top, .pointer (some ⟨d2, 0, none⟩), .pointer (some ⟨d3, 0, none⟩), .pointer (some ⟨d4, 0, none⟩)] w (fun e w' => e = .returned (.tuple #[]) ∧ ∃ L', Stp SV1 w L w' L' ∧ VS w' L' d2 d3 d4 m (visitN n top out)) := by
    intro n ih w L v top out d2 d3 d4 m hV h hc hs hl
    refine calls_gen fun R hR => trie_Trie_Nodes_1.vc _ _ _ _ _ _ _ ?_
    unfold trie_Trie_Nodes_1.Vc
    by_cases hnil : n = .nil
    · subst hnil
      cases h
      refine ⟨fun _ => False, .inl ⟨rfl, _, ask_nil und_phashed zero_phashed _, _, _, rfl, hR _ _ ⟨rfl, L, Stp.refl _ _ _, hV⟩⟩, fun _ _ h => h.elim⟩
    refine ⟨fun w' => ∃ L' out', VS w' L' d2 d3 d4 m out' ∧ NodeAt w' L' 6 n v ∧ Stp SV1 w L w' L' ∧ putNode out' top (bytesOf n) = visitN n top out ∧ out'.length ≤ 2 ^ 20, .inr ?_, ?_⟩
    · cases n with
      | nil => exact (hnil rfl).elim
      | leaf p x =>
        have h' := h
        obtain ⟨b, op, cp, ov, cv, rfl, _⟩ := h'
        have key : ∃ L' out', VS w L' d2 d3 d4 m out' ∧ NodeAt w L' 6 (.leaf p x) (.iface tPLeaf (.pointer (some ⟨b, 0, none⟩))) ∧ Stp SV1 w L w L' ∧ putNode out' top (bytesOf (.leaf p x)) = visitN (.leaf p x) top out ∧ out'.length ≤ 2 ^ 20 := ⟨L, out, hV, h, Stp.refl _ _ _, rfl, by omega⟩
        exact ⟨⟨_, _, rfl⟩, _, ask_no und_phashed zero_phashed (by decide) _, _, _, rfl, fun h => (by cases h), fun _ => ⟨_, ask_no und_prow zero_prow (by decide) _, _, _, rfl, fun h => (by cases h), fun _ => ⟨_, ask_no und_pbranch zero_pbranch (by decide) _, _, _, rfl, fun h => (by cases h), fun _ => ⟨_, ask_yes und_pleaf _, _, _, rfl, fun _ => key, fun _ => key⟩⟩⟩⟩
      | row p c =>
        have h' := h
        obtain ⟨b, op, cp, vk, rfl, B, hp, hpc, hk⟩ := h'
        refine ⟨⟨_, _, rfl⟩, _, ask_no und_phashed zero_phashed (by decide) _, _, _, rfl, fun h => (by cases h), fun _ => ⟨_, ask_yes und_prow _, _, _, rfl, fun _ => ?_, fun h => by cases h⟩⟩
        rintro _ rfl
        have MD := Mod.drew (S := NoB) w
        have V1 := hV.stp (Stp.drew NoS w L) (fun h => h) (fun h => h) (fun h => h) (fun h => h) (fun h => h)
        have B1 := B.blk.mod' MD
        have hk1 := hk.stp (Stp.drew NoS w L) (fun h => h)
        simp only [Option.some.injEq, exists_eq_left', add_at, Nat.zero_add]
        refine ⟨_, V1.f.blk.rd1 rfl, _, B1.rd1 rfl, 97, #[], _, rfl, by kernel_rfl, ?_⟩
        have hcnt : cnt (.row p c) = 1 + cnt c := rfl
        refine (ih c (.inl ⟨p, rfl⟩) (top := false) V1 hk1 hc.2.2.2 hs.2 (by omega)).mono ?_
        rintro _ w2 ⟨rfl, L2, s2, V2⟩
        have s02 := (Stp.drew SV1 w L).trans s2
        have hlen := visitN_len c false out
        exact ⟨rfl, L2, _, V2, h.stp s02 (by decide), s02, rfl, by omega⟩
      | branch cs x =>
        have h' := h
        obtain ⟨b, vs, ov, cv, rfl, B, hx, hk⟩ := h'
        refine ⟨⟨_, _, rfl⟩, _, ask_no und_phashed zero_phashed (by decide) _, _, _, rfl, fun h => (by cases h), fun _ => ⟨_, ask_no und_prow zero_prow (by decide) _, _, _, rfl, fun h => (by cases h), fun _ => ⟨_, ask_yes und_pbranch _, _, _, rfl, fun _ => ?_, fun h => by cases h⟩⟩⟩
        simp only [Option.some.injEq, exists_eq_left']
        have hL : ∀ i, i < 16 → (brA vs ov x.length cv)[0 + i]? = (List.ofFn vs).toArray[i]? := by
          intro i hi
          rw [Nat.zero_add, brA_at vs ov x.length cv ⟨i, hi⟩, List.getElem?_toArray, List.getElem?_ofFn, dif_pos hi]
        refine ⟨(List.ofFn vs).toArray, B.blk.rowAt (by simp) hL, ?_⟩
        let done : Nat → List (By × By) := fun j => ((List.finRange 16).take j).foldl (fun o i => visitN (cs i) false o) out
        refine ⟨fun i w' => ∃ j : Nat, i = (j : Int) ∧ j ≤ 16 ∧ ∃ L', Stp SV1 w L w' L' ∧ VS w' L' d2 d3 d4 m (done j), fun i _ => ((16 : Int) - i).toNat, ⟨0, rfl, Nat.zero_le _, L, Stp.refl _ _ _, hV⟩, ?_⟩
        rintro _ _ w1 ⟨j, rfl, hj, L1, s1, V1⟩
        have hcnt : cnt (.branch cs x) = 1 + ((List.finRange 16).map fun i => cnt (cs i)).sum := rfl
        refine ⟨fun hlt => ?_, fun hge => ?_⟩
        · have hjl : j < 16 := by omega
          obtain ⟨ie, hie, hz, hsz, hb⟩ := info_of info_node
          have hv : (List.ofFn vs).toArray[j]? = some (vs ⟨j, hjl⟩) := by rw [List.getElem?_toArray, List.getElem?_ofFn, dif_pos hjl]
          refine ⟨_, run_index1 und_kids hie hsz agg_node hjl hv w1, _, V1.f.blk.rd1 rfl, 97, #[], _, rfl, by kernel_rfl, ?_⟩
          have hk1 := (hk ⟨j, hjl⟩).stp s1 (by decide)
          have hlen := foldl_len (cs := cs) (fun i out => visitN_len (cs i) false out) ((List.finRange 16).take j) out
          have hsum : (((List.finRange 16).take j).map fun i => cnt (cs i)).sum + cnt (cs ⟨j, hjl⟩) ≤ ((List.finRange 16).map fun i => cnt (cs i)).sum := by
            have e := congrArg List.sum (congrArg (List.map fun i => cnt (cs i)) (List.take_append_drop j (List.finRange 16)))
            rw [List.map_append, List.sum_append] at e
            have e2 : (List.finRange 16).drop j = ⟨j, hjl⟩ :: (List.finRange 16).drop (j + 1) := by
              rw [List.drop_eq_getElem_cons (by simpa using hjl)]
              simp
            rw [e2, List.map_cons, List.sum_cons] at e
            omega
          refine (ih (cs ⟨j, hjl⟩) (.inr ⟨cs, x, _, rfl, rfl⟩) (top := false) V1 hk1 (hc.1 _) (hs.2 _) (by show (done j).length + _ ≤ _; simp only [done]; omega)).mono ?_
          rintro _ w2 ⟨rfl, L2, s2, V2⟩
          have e : done (j + 1) = visitN (cs ⟨j, hjl⟩) false (done j) := by
            simp only [done]
            rw [List.take_add_one, List.getElem?_eq_getElem (by simpa using hjl), List.foldl_append]
            simp
          rw [← e] at V2
          exact ⟨rfl, ⟨j + 1, by rw [wrap_i64_small (by omega) (by omega)]; omega, hjl, L2, s1.trans s2, V2⟩, by dsimp only; rw [wrap_i64_small (by omega) (by omega)]; omega⟩
        · obtain rfl : j = 16 := by omega
          have e : done 16 = (List.finRange 16).foldl (fun o i => visitN (cs i) false o) out := by simp only [done]; rw [List.take_of_length_le (by simp)]
          rw [e] at V1
          have hlen := foldl_len (cs := cs) (fun i out => visitN_len (cs i) false out) (List.finRange 16) out
          exact ⟨L1, _, V1, h.stp s1 (by decide), s1, rfl, by omega⟩
    · rintro _ w1 ⟨L1, out1, V1, h1, s1, e1, hl1⟩
      rw [← e1] at hR
      refine (encoded_calls hc hs hnil h1 (Mod.refl w1)).mono ?_
      rintro _ w2 ⟨o2, k2, rfl, F2⟩
      refine ⟨_, _, _, rfl, ?_⟩
      rintro d43 w3 ⟨rfl, rfl⟩
      have Lb := Blk.new w2 22 #[.slice o2 (bytesOf n).length k2]
      have M3 := Mod.alloc (S := NoB) w2 (.cells #[.slice o2 (bytesOf n).length k2] 22)
      have hbl := bytes_le hs
      refine (Sum_calls [bytesOf n] rfl (by simp) (RdBB.one Lb ((fresh_bytes F2).mod' M3)) (by simp; omega)).mono ?_
      rintro _ w4 ⟨rfl, M4⟩
      refine ⟨_, rfl, ?_⟩
      rintro d48 w5 ⟨rfl, rfl⟩
      have H := Blk.new w4 26 (Array.replicate 32 (.int .u8 0))
      have M14 : Vcg.Mod NoB w1 w4 := (F2.mod.trans M3 (fun _ _ h => h)).trans M4 (fun _ _ h => h)
      have M15 := M14.step_alloc (.cells (Array.replicate 32 (.int .u8 0)) 26)
      have e2 : [bytesOf n].flatten = bytesOf n := by simp
      rw [e2]
      refine ⟨_, H.storeAll (L := hashA (sumOf (bytesOf n))) (by rw [size_hashA]; kernel_rfl) (by rw [size_hashA, Array.size_replicate]) (hashA_one _), ?_⟩
      have H2 := H.row_same (hashA (sumOf (bytesOf n)))
      have M16 := M15.step_row (g := w4.heap.size) (cs := hashA (sumOf (bytesOf n))) (fun h => by have := M14.size; omega)
      have hge : w1.heap.size ≤ w4.heap.size := M14.size
      have MF : Vcg.Mod NoB w2 _ := ((M3.trans M4 (fun _ _ h => h)).step_alloc (.cells (Array.replicate 32 (.int .u8 0)) 26)).step_row (g := w4.heap.size) (cs := hashA (sumOf (bytesOf n))) (fun h => by have := M4.size; have := M3.size; omega)
      generalize w4.heap.size = D at *
      generalize ((w4.alloc (.cells (Array.replicate 32 (.int .u8 0)) 26)).setRow D (hashA (sumOf (bytesOf n)))) = w5 at *
      have V5 := V1.mod' M16
      obtain ⟨es, m1, m2, m3⟩ := V5.met
      have hlook := MapAt.look m1.map keyEncH und_met (zero_unit w5) (k := sumH (bytesOf n)) trivial true
      rw [if_pos rfl, assoc_unit m3, assoc_some, any_fst es out1 m2] at hlook
      refine ⟨_, V5.mc.blk.rd1 rfl, _, H2.rowAll (size_hashA _), _, hlook, _, rfl, ?_⟩
      rintro d55 w6 ⟨rfl, rfl⟩
      have M6 := M16.step_alloc (.cells #[] 172)
      have s16 : Stp SV1 w1 L1 (w5.alloc (.cells #[] 172)) (ext L1 w1.heap.size 5) := (Stp.of_nob M6 5).mono (S := NoS) (fun _ h => h.elim)
      have V6 := V1.mod' M6
      have B6 : CB (w5.alloc (.cells #[] 172)) (ext L1 w1.heap.size 5) 5 D tHash (hashA (sumOf (bytesOf n))) := ⟨H2.mod' (Mod.alloc _ _), ext_new hge⟩
      have b6 : CBy (w5.alloc (.cells #[] 172)) (ext L1 w1.heap.size 5) 5 o2 (bytesOf n) := fresh_cby F2 (MF.step_alloc _)
      have skip : putNode out1 top (bytesOf n) = out1 → R (.returned (.tuple #[])) (w5.alloc (.cells #[] 172)) := fun e => by
        rw [e] at hR
        exact hR _ _ ⟨rfl, _, s1.trans s16, V6⟩
      have add : putNode out1 top (bytesOf n) = out1 ++ [(sumOf (bytesOf n), bytesOf n)] → ∀ w' L', Stp SV1 (w5.alloc (.cells #[] 172)) (ext L1 w1.heap.size 5) w' L' → VS w' L' d2 d3 d4 m (out1 ++ [(sumOf (bytesOf n), bytesOf n)]) → R (.returned (.tuple #[])) w' := fun e w' L' s V => by
        rw [e] at hR
        exact hR _ _ ⟨rfl, L', (s1.trans s16).trans s, V⟩
      refine ⟨fun hm => skip ?_, fun hm => ⟨fun ht => ⟨fun h32 => skip ?_, fun h32 => emit V6 B6 b6 hm hl1 rfl (add ?_)⟩, fun ht => emit V6 B6 b6 hm hl1 rfl (add ?_)⟩⟩
      · have hm : met out1 (sumOf (bytesOf n)) = true := hm
        unfold putNode; rw [hm]; rfl
      · have hm : met out1 (sumOf (bytesOf n)) = false := hm
        unfold putNode; rw [hm, ht, decide_eq_true (by omega)]; rfl
      · have hm : met out1 (sumOf (bytesOf n)) = false := hm
        unfold putNode; rw [hm, ht, decide_eq_false (by omega)]; rfl
      · have hm : met out1 (sumOf (bytesOf n)) = false := hm
        unfold putNode; rw [hm, ht]; rfl
  intro n
  induction n with
  | nil => exact main _ (fun c h => by rcases h with ⟨p, h⟩ | ⟨cs, v, i, h, _⟩ <;> cases h)
  | leaf p v => exact main _ (fun c h => by rcases h with ⟨p, h⟩ | ⟨cs, v, i, h, _⟩ <;> cases h)
  | row p c ih => exact main _ (fun c' h => by
      rcases h with ⟨p, h⟩ | ⟨cs, v, i, h, _⟩
      · cases h; exact ih
      · cases h)
  | branch cs v ih => exact main _ (fun c' h => by
      rcases h with ⟨p, h⟩ | ⟨cs, v, i, h, rfl⟩
      · cases h
      · cases h; exact ih i)
end Go.Proofs.Ytfghidehlnfdiaa
end

section
set_option linter.unusedVariables false
set_option linter.unusedSimpArgs false
namespace Go.Trie
def emptyH : By := Go.Vcg.sumOf [128]
def rootOf (n : Nd) : By := Go.Vcg.sumOf (bytesOf n)
theorem bytes_nil : bytesOf .nil = [128] := by simp [bytesOf, itemOf, enc, own, head]
def putT (n : Nd) (k x : By) : Int × Nd := if k.length > 64 then (140, n) else if x = [] ∨ x.length > 1024 then (141, n) else (0, put n (nibbles k) x)
def delT (n : Nd) (k : By) : Int × Nd := if k.length > 64 then (140, n) else (0, (remove n (nibbles k)).1)
end Go.Trie
namespace Go.Proofs.Ytfghidehlnfdiaa
open Go Go.Vcg Go.Trie
theorem guard_hash : Try.prog.eqGuardType Try.prog.depth tHash = false := by kernel_rfl
theorem info_hash : (Try.prog.info? tHash).map (·.size) = some 32 := by kernel_rfl
theorem hash_ne {w : World} (x y : Operand) {a b : By} (ha : a.length = 32) (hb : b.length = 32) : Sem.run Try.prog (semBin .neq tHash x y (.agg (hashA a)) (.agg (hashA b))) w = .ok (.bool (decide (a ≠ b))) w := by
  have h := semNe_arr (P := Try.prog) (w := w) und_hash und_u8 info_u8_size guard_hash x y (fun i => ((a.getD i 0).toNat : Int)) (fun i => ((b.getD i 0).toNat : Int))
  refine h.trans (congrArg (fun x => Result.ok (Value.bool x) w) ?_)
  rw [Bool.eq_iff_iff, Bool.not_eq_true', decide_eq_false_iff_not, decide_eq_true_eq, ne_eq]
  refine not_congr ?_
  constructor
  · intro h
    refine hashA_inj ha hb (arrOf_congr (fun i hi => ?_))
    have := h i hi
    simp only [bV, this]
  · rintro rfl i _; rfl
theorem hash_eq {w : World} (x y : Operand) {a b : By} (ha : a.length = 32) (hb : b.length = 32) : Sem.run Try.prog (semBin .eql tHash x y (.agg (hashA a)) (.agg (hashA b))) w = .ok (.bool (decide (a = b))) w := by
  have h := semEq_arr (P := Try.prog) (w := w) und_hash und_u8 info_u8_size guard_hash x y (fun i => ((a.getD i 0).toNat : Int)) (fun i => ((b.getD i 0).toNat : Int))
  refine h.trans (congrArg (fun x => Result.ok (Value.bool x) w) ?_)
  rw [Bool.eq_iff_iff, decide_eq_true_eq, decide_eq_true_eq]
  constructor
  · intro h
    refine hashA_inj ha hb (arrOf_congr (fun i hi => ?_))
    have := h i hi
    simp only [bV, this]
  · rintro rfl i _; rfl
/-- A hash put into a block of its own. -/
theorem hash_store {w : World} {D : Nat} {cs : Array Value} (H : Blk w D tHash cs) (hs : cs.size = 32) (h : By) :
    Sem.run Try.prog (Instr.storeAt 26 (.pointer (some ⟨D, 0, none⟩)) (.agg (hashA h))) w = .ok () (w.setRow D (hashA h)) ∧ Blk (w.setRow D (hashA h)) D tHash (hashA h) ∧ Vcg.Mod (· = D) w (w.setRow D (hashA h)) :=
  ⟨H.storeAll (by rw [size_hashA]; exact info_hash) (by rw [hs, size_hashA]) (hashA_one _), H.row_same _, Mod.setRow _ _ _⟩
theorem one_u8 (w : World) : RdB (w.alloc (.cells #[.int .u8 128] 5)) (some ⟨w.heap.size, 0, none⟩) [128] :=
  RdB.of_blk (Blk.new w 5 #[bV 128]) (fun j hj => by
    obtain rfl : j = 0 := by simpa using hj
    rfl)
theorem Empty_calls (w : World) : Calls Try.prog trie_Empty.n #[] w (fun e w' => e = .returned (.agg (hashA emptyH)) ∧ Vcg.Mod NoB w w') := by
  refine trie_Empty.vc _ _ ?_
  unfold trie_Empty.Vc
  rintro d1 w1 ⟨rfl, rfl⟩ d2 w2 ⟨rfl, rfl⟩ d3 w3 ⟨rfl, rfl⟩
  have M1 := Mod.alloc (S := NoB) w (.cells (Array.replicate 32 (.int .u8 0)) 26)
  have H := Blk.new w 26 (Array.replicate 32 (.int .u8 0))
  have hs := size_alloc w (.cells (Array.replicate 32 (.int .u8 0)) 26)
  generalize w.alloc (.cells (Array.replicate 32 (.int .u8 0)) 26) = w1 at *
  have r2 := one_u8 w1
  have M2 := Mod.alloc (S := NoB) w1 (.cells #[.int .u8 128] 5)
  generalize w1.alloc (.cells #[.int .u8 128] 5) = w2 at *
  have B3 := Blk.new w2 22 #[.slice (some ⟨w1.heap.size, 0, none⟩) 1 1]
  have M3 := Mod.alloc (S := NoB) w2 (.cells #[.slice (some ⟨w1.heap.size, 0, none⟩) 1 1] 22)
  refine (Sum_calls [[128]] rfl (by simp) (RdBB.one B3 (r2.mod' M3)) (by simp)).mono ?_
  rintro _ w4 ⟨rfl, M4⟩
  have M24 := (M2.trans M3 (fun _ _ h => h)).trans M4 (fun _ _ h => h)
  obtain ⟨h1, h2, h3⟩ := hash_store (H.mod' M24) (by simp) (sumOf [[128]].flatten)
  exact ⟨_, rfl, _, h1, _, h2.rowAll (size_hashA _), rfl, mod_of (M1.trans M24 (fun _ _ h => h)) h3 (Nat.le_refl _)⟩
abbrev tTrie : TypeId := 164
theorem Open_calls {w : World} {v : Value} (hv : v.oneCell' = true) : Calls Try.prog trie_Open.n #[.agg (hashA emptyH), v] w (fun e w' => ∃ t, e = .returned (.pointer (some ⟨t, 0, none⟩)) ∧ Vcg.Mod NoB w w' ∧ w.heap.size ≤ t ∧ Blk w' t tTrie #[.nilIface, v]) := by
  refine trie_Open.vc _ _ _ _ ?_
  unfold trie_Open.Vc
  rintro d1 w1 ⟨rfl, rfl⟩
  refine ⟨hv, ?_⟩
  rintro d2 w2 ⟨rfl, rfl⟩ _ rfl
  have M1 := Mod.alloc (S := NoB) w (.cells (hashA emptyH) 26)
  have H1 := Blk.new w 26 (hashA emptyH)
  have hs := size_alloc w (.cells (hashA emptyH) 26)
  generalize w.alloc (.cells (hashA emptyH) 26) = w1 at *
  have M2 := (Mod.alloc (S := NoB) w1 (.cells #[.nilIface, v] 164)).step_drew
  have T := (Blk.new w1 164 #[.nilIface, v]).drew
  generalize (w1.alloc (.cells #[.nilIface, v] 164)).drew = w2 at *
  refine ⟨hashA emptyH, (H1.mod' M2).rowAll (size_hashA _), (Empty_calls w2).mono ?_⟩
  rintro _ w3 ⟨rfl, M3⟩
  refine ⟨_, rfl, ((H1.mod' M2).mod' M3).rowAll (size_hashA _), _, hash_ne _ _ (length_sumOf _) (length_sumOf _), _, rfl, fun h => absurd (of_decide_eq_true h) (fun h => h rfl), fun _ => ⟨_, rfl, (M1.trans M2 (fun _ _ h => h)).trans M3 (fun _ _ h => h), by omega, T.mod' M3⟩⟩
theorem und_nodeMap : Try.prog.underlying 124 = some (.map tHash tSlU8) := by kernel_rfl
theorem run_makeMap {P : Program} {t k e : TypeId} (h : P.underlying t = some (.map k e)) (w : World) : ∃ w', Sem.run P (Instr.makeMap t none) w = .ok (.map (some w.heap.size)) w' ∧ Vcg.Mod NoB w w' ∧ w'.heap[w.heap.size]? = some (.map #[] 0) := by
  exact ⟨w.alloc (.map #[] 0), rfl, Mod.alloc _ _, heap_alloc_new _ _⟩
theorem tNew_calls (w : World) (c : Nat) : Calls Try.prog trie_New.n #[.agg (hashA emptyH), .slice none 0 c] w (fun e w' => ∃ t v, e = .returned (.pointer (some ⟨t, 0, none⟩)) ∧ Vcg.Mod NoB w w' ∧ w.heap.size ≤ t ∧ Blk w' t tTrie #[.nilIface, v]) := by
  refine trie_New.vc _ _ _ _ _ _ ?_
  unfold trie_New.Vc
  rintro d1 w1 ⟨rfl, rfl⟩
  have M1 := Mod.alloc (S := NoB) w (.cells (hashA emptyH) 26)
  have H1 := Blk.new w 26 (hashA emptyH)
  generalize w.alloc (.cells (hashA emptyH) 26) = w1 at *
  obtain ⟨w2, hr2, M2, _⟩ := run_makeMap und_nodeMap w1
  refine ⟨_, w2, hr2, _, rfl, ?_⟩
  rintro d3 w3 ⟨rfl, rfl⟩
  have M3 := Mod.alloc (S := NoB) w2 (.cells #[.map none] 124)
  have B3 := Blk.new w2 124 #[.map none]
  have M03 := (M1.trans M2 (fun _ _ h => h)).trans M3 (fun _ _ h => h)
  have hsz : w.heap.size ≤ w2.heap.size := (M1.trans M2 (fun _ _ h => h)).size
  have H3 := H1.mod' (M2.trans M3 (fun _ _ h => h))
  have hlt := H1.lt
  have hle := M2.size
  generalize w2.alloc (.cells #[.map none] 124) = w3 at *
  refine ⟨B3.canSet (by simp) rfl, ?_⟩
  rintro _ rfl
  have H4 := H3.set_ne (a := ⟨w2.heap.size, 0, none⟩) (v := .map (some w1.heap.size)) (by dsimp only; omega)
  have M04 : Vcg.Mod NoB w _ := M03.step_set (a := ⟨w2.heap.size, 0, none⟩) (v := .map (some w1.heap.size)) (fun h => absurd h (by dsimp only; omega))
  generalize w3.setCell ⟨w2.heap.size, 0, none⟩ (.map (some w1.heap.size)) = w4 at *
  refine ⟨fun n w' => n = 0 ∧ w' = w4, fun _ _ => 0, ⟨rfl, rfl⟩, ?_⟩
  rintro _ _ _ ⟨rfl, rfl⟩
  refine ⟨fun h => absurd h (by simp), fun _ => ⟨_, H4.rowAll (size_hashA _), (Open_calls rfl).mono ?_⟩⟩
  rintro _ w5 ⟨t, rfl, M5, ht, T⟩
  exact ⟨_, rfl, t, _, rfl, M04.trans M5 (fun _ _ h => h), Nat.le_trans M04.size ht, T⟩
section
variable {C : Type} {S : C → Prop} {w0 w w1 w' : World} {lab lab2 : Nat → C} {ct c : C}
/-- A trie: its own cells of the colour ct, its nodes of the colour c. -/
def TrieAt (w : World) (lab : Nat → C) (ct c : C) (t : Nat) (n : Nd) : Prop := ∃ v g, CB w lab ct t tTrie #[v, g] ∧ NodeAt w lab c n v ∧ Canon n ∧ Fits n
theorem TrieAt.stp {lab' : Nat → C} {t : Nat} {n : Nd} (h : TrieAt w lab ct c t n) (s : Stp S w lab w' lab') (h1 : ¬ S ct) (h2 : ¬ S c) : TrieAt w' lab' ct c t n := by
  obtain ⟨v, g, a, b, d⟩ := h
  exact ⟨v, g, a.stp s h1, b.stp s h2, d⟩
theorem nib_put (k : By) (h : k.length ≤ 64) : (nibbles k).length ≤ 128 := by rw [nibbles_len]; omega
theorem fits_nil : Fits .nil := fun k v h => by simp [Trie.get] at h
theorem Put_calls {t : Nat} {n : Nd} {o ox : Option Addr} {k kx : Nat} {key x : By} (h : TrieAt w lab ct c t n) (hne : ct ≠ c) (hk : RdB w o key) (hx : RdB w ox x) :
    Calls Try.prog trie_Trie_Put.n #[.pointer (some ⟨t, 0, none⟩), .slice o key.length k, .slice ox x.length kx] w (fun e w' => e = .returned (.int .i64 (putT n key x).1) ∧ Stp (· = ct) w lab w' (ext lab w.heap.size c) ∧ TrieAt w' (ext lab w.heap.size c) ct c t (putT n key x).2) := by
  refine calls_gen fun R hR => trie_Trie_Put.vc _ _ _ _ _ _ _ _ _ ?_
  unfold trie_Trie_Put.Vc
  obtain ⟨v, g, T, hn, hc, hf⟩ := h
  have s0 : Stp NoS w lab w (ext lab w.heap.size c) := Stp.of_nob (Mod.refl w) c
  have T0 : TrieAt w (ext lab w.heap.size c) ct c t n := ⟨v, g, T.stp s0 (fun h => h), hn.stp s0 (fun h => h), hc, hf⟩
  have stay : ∀ z, putT n key x = (z, n) → R (.returned (.int .i64 z)) w := fun z e => by
    rw [e] at hR
    exact hR _ _ ⟨rfl, s0.mono (fun _ h => h.elim), T0⟩
  refine ⟨fun h1 => stay _ (by unfold putT; rw [if_pos (by omega)]), fun h1 => ⟨fun h2 => stay _ ?_, fun h2 => ⟨fun h3 => stay _ ?_, fun h3 => ?_⟩⟩⟩
  · unfold putT; rw [if_neg (by omega), if_pos (.inl (List.eq_nil_of_length_eq_zero (by omega)))]
  · unfold putT; rw [if_neg (by omega), if_pos (.inr (by omega))]
  rintro _ rfl
  have hxne : x ≠ [] := by rintro rfl; simp at h2
  have e : putT n key x = (0, Trie.put n (nibbles key) x) := by
    unfold putT
    rw [if_neg (by omega), if_neg]
    rintro (h | h)
    · exact hxne h
    · omega
  rw [e] at hR
  have MD := Mod.drew (S := NoB) w
  have hnl := nib_put key (by omega)
  refine ⟨v, T.blk.drew.rd1 rfl, (Nibbles_calls (hk.mod' MD) (by omega)).mono ?_⟩
  rintro _ w1 ⟨o1, k1, rfl, F1⟩
  have M1 := MD.trans F1.mod (fun _ _ h => h)
  refine ⟨_, _, _, rfl, (T.blk.mod' M1).rd1 rfl, (Clone_calls (hx.mod' M1) (by omega)).mono ?_⟩
  rintro _ w2 ⟨o2, k2, rfl, F2⟩
  have M2 := M1.trans F2.mod (fun _ _ h => h)
  have s2 : Stp NoS w lab w2 (ext lab w.heap.size c) := Stp.of_nob M2 c
  have F1' := Fresh.from_ F1 MD
  have F2' := Fresh.from_ F2 M1
  refine ⟨_, _, _, rfl, (T.blk.mod' M2).rd1 rfl, ?_⟩
  refine (tput_calls n (t := t) (hn.stp s2 (fun h => h)) hc (small_of hc hf) (fresh_cby F1' F2.mod) F1.own.cap.1 hnl (nib_nibbles key) (fresh_cby F2' (Mod.refl _)) (by omega)).mono ?_
  rintro _ w3 ⟨v3, rfl, G3⟩
  have G3' := grown_of (s2.trans G3.stp) G3.2
  have M3 := G3'.1
  have T3 := T.blk.mod' M3
  have hpo := put_ok hc (nib_nibbles key) hxne
  refine ⟨_, _, rfl, fun _ => ⟨T3.canSet (by simp) G3'.2.one, ?_⟩, fun h => (h rfl).elim⟩
  rintro _ rfl
  have lt : ext lab w.heap.size c t = ct := by rw [ext_old T.blk.lt]; exact T.clr
  have s4 : Stp (· = ct) w3 (ext lab w.heap.size c) (w3.setCell ⟨t, 0, none⟩ v3) (ext lab w.heap.size c) := Stp.setCell lt
  refine hR _ _ ⟨rfl, (G3'.stp.mono (fun _ h => h.elim)).trans s4, v3, g, ⟨T3.set 0 v3, lt⟩, G3'.2.stp s4 (fun h => hne h.symm), hpo.1, hf.put hc (nib_nibbles key) hxne hnl (by omega)⟩
theorem Delete_calls {t : Nat} {n : Nd} {o : Option Addr} {k : Nat} {key : By} (h : TrieAt w lab ct c t n) (hne : ct ≠ c) (hk : RdB w o key) :
    Calls Try.prog trie_Trie_Delete.n #[.pointer (some ⟨t, 0, none⟩), .slice o key.length k] w (fun e w' => e = .returned (.int .i64 (delT n key).1) ∧ Stp (· = ct) w lab w' (ext lab w.heap.size c) ∧ TrieAt w' (ext lab w.heap.size c) ct c t (delT n key).2) := by
  refine calls_gen fun R hR => trie_Trie_Delete.vc _ _ _ _ _ _ ?_
  unfold trie_Trie_Delete.Vc
  obtain ⟨v, g, T, hn, hc, hf⟩ := h
  have s0 : Stp NoS w lab w (ext lab w.heap.size c) := Stp.of_nob (Mod.refl w) c
  have T0 : TrieAt w (ext lab w.heap.size c) ct c t n := ⟨v, g, T.stp s0 (fun h => h), hn.stp s0 (fun h => h), hc, hf⟩
  refine ⟨fun h1 => ?_, fun h1 => ?_⟩
  · have e : delT n key = (140, n) := by unfold delT; rw [if_pos (by omega)]
    rw [e] at hR
    exact hR _ _ ⟨rfl, s0.mono (fun _ h => h.elim), T0⟩
  rintro _ rfl
  have e : delT n key = (0, (Trie.remove n (nibbles key)).1) := by unfold delT; rw [if_neg (by omega)]
  rw [e] at hR
  have MD := Mod.drew (S := NoB) w
  refine ⟨v, T.blk.drew.rd1 rfl, (Nibbles_calls (hk.mod' MD) (by omega)).mono ?_⟩
  rintro _ w1 ⟨o1, k1, rfl, F1⟩
  have M1 := MD.trans F1.mod (fun _ _ h => h)
  have s1 : Stp NoS w lab w1 (ext lab w.heap.size c) := Stp.of_nob M1 c
  have F1' := Fresh.from_ F1 MD
  refine ⟨_, _, _, rfl, (T.blk.mod' M1).rd1 rfl, ?_⟩
  refine (remove_calls n (t := t) (hn.stp s1 (fun h => h)) hc hf (fresh_cby F1' (Mod.refl _)) F1.own.cap.1 (nib_nibbles key)).mono ?_
  rintro _ w3 ⟨v3, rfl, G3⟩
  have G3' := grown_of (s1.trans G3.stp) G3.2
  have M3 := G3'.1
  have T3 := T.blk.mod' M3
  have hro := remove_ok hc (nib_nibbles key)
  have hfr := hf.remove hc (nib_nibbles key)
  have lt : ext lab w.heap.size c t = ct := by rw [ext_old T.blk.lt]; exact T.clr
  refine ⟨_, _, _, rfl, fun _ => ⟨fun hb => ⟨T3.canSet (by simp) G3'.2.one, ?_⟩, fun hb => ?_⟩, fun h => (h rfl).elim⟩
  · rintro _ rfl
    have s4 : Stp (· = ct) w3 (ext lab w.heap.size c) (w3.setCell ⟨t, 0, none⟩ v3) (ext lab w.heap.size c) := Stp.setCell lt
    exact hR _ _ ⟨rfl, (G3'.stp.mono (fun _ h => h.elim)).trans s4, v3, g, ⟨T3.set 0 v3, lt⟩, G3'.2.stp s4 (fun h => hne h.symm), hro.1, hfr⟩
  · rw [hro.2.2.2.2 hb] at hR
    exact hR _ _ ⟨rfl, G3'.stp.mono (fun _ h => h.elim), v, g, ⟨T3, lt⟩, hn.stp G3'.stp (fun h => h), hc, hf⟩
theorem Root_calls {t : Nat} {n : Nd} (h : TrieAt w lab ct c t n) :
    Calls Try.prog trie_Trie_Root.n #[.pointer (some ⟨t, 0, none⟩)] w (fun e w' => e = .returned (.agg (hashA (Trie.rootOf n))) ∧ Vcg.Mod NoB w w') := by
  refine trie_Trie_Root.vc _ _ _ ?_
  unfold trie_Trie_Root.Vc
  obtain ⟨v, g, T, hn, hc, hf⟩ := h
  rintro d1 w1 ⟨rfl, rfl⟩
  have M1 := Mod.alloc (S := NoB) w (.cells (Array.replicate 32 (.int .u8 0)) 26)
  have H := Blk.new w 26 (Array.replicate 32 (.int .u8 0))
  generalize w.alloc (.cells (Array.replicate 32 (.int .u8 0)) 26) = w1 at *
  refine ⟨v, (T.blk.mod' M1).rd1 rfl, ?_⟩
  by_cases hnil : n = .nil
  · subst hnil
    refine .inl ⟨hn, (Empty_calls w1).mono ?_⟩
    rintro _ w2 ⟨rfl, M2⟩
    obtain ⟨h1, h2, h3⟩ := hash_store (H.mod' M2) (by simp) emptyH
    refine ⟨_, rfl, _, h1, _, h2.rowAll (size_hashA _), ?_, mod_of (M1.trans M2 (fun _ _ h => h)) h3 (Nat.le_refl _)⟩
    rw [Trie.rootOf, bytes_nil]; rfl
  · right
    have hif := (node_iface hn).resolve_left (fun h => hnil (isNil_iff.1 h.2))
    have hask : ∃ r, Sem.run Try.prog (Instr.typeAssert v 145 149 true) w1 = .ok r w1 ∧ ∃ o, r = .tuple #[.pointer o, .bool false] := by
      cases n with
      | nil => exact (hnil rfl).elim
      | leaf p x => obtain ⟨b, op, cp, ov, cv, rfl, _⟩ := hn; exact ⟨_, ask_no und_phashed zero_phashed (by decide) w1, _, rfl⟩
      | row p k => obtain ⟨b, op, cp, vk, rfl, _⟩ := hn; exact ⟨_, ask_no und_phashed zero_phashed (by decide) w1, _, rfl⟩
      | branch cs x => obtain ⟨b, vs, ov, cv, rfl, _⟩ := hn; exact ⟨_, ask_no und_phashed zero_phashed (by decide) w1, _, rfl⟩
    obtain ⟨r, hr, o, rfl⟩ := hask
    have hs := small_of hc hf
    have hbl := bytes_le hs
    refine ⟨hif.1, _, hr, _, _, rfl, fun h => (by cases h), fun _ => ⟨v, (T.blk.mod' M1).rd1 rfl, (encoded_calls hc hs hnil hn M1).mono ?_⟩⟩
    rintro _ w2 ⟨o2, k2, rfl, F2⟩
    refine ⟨_, _, _, rfl, ?_⟩
    rintro d3 w3 ⟨rfl, rfl⟩
    have B3 := Blk.new w2 22 #[.slice o2 (bytesOf n).length k2]
    have M3 := Mod.alloc (S := NoB) w2 (.cells #[.slice o2 (bytesOf n).length k2] 22)
    refine (Sum_calls [bytesOf n] rfl (by simp) (RdBB.one B3 ((fresh_bytes F2).mod' M3)) (by simp; omega)).mono ?_
    rintro _ w4 ⟨rfl, M4⟩
    have M14 := (F2.mod.trans M3 (fun _ _ h => h)).trans M4 (fun _ _ h => h)
    have e2 : [bytesOf n].flatten = bytesOf n := by simp
    rw [e2]
    obtain ⟨h1, h2, h3⟩ := hash_store (H.mod' M14) (by simp) (sumOf (bytesOf n))
    exact ⟨_, rfl, _, h1, _, h2.rowAll (size_hashA _), rfl, mod_of (M1.trans M14 (fun _ _ h => h)) h3 (Nat.le_refl _)⟩
end
end Go.Proofs.Ytfghidehlnfdiaa
end

section
set_option linter.unusedVariables false
set_option linter.unusedSimpArgs false
namespace Go.Trie
theorem cnt_rowed (p : By) (n : Nd) : cnt (rowed p n) ≤ cnt n + 1 := by
  unfold rowed
  split
  · omega
  · cases n <;> simp only [cnt] <;> omega
theorem sum_update (f g : Fin 16 → Nat) (d : Nat) (a : Nat) (h : ∀ i : Fin 16, i.val ≠ a → f i = g i) (ha : ∀ i : Fin 16, i.val = a → f i ≤ g i + d) : ∀ (l : List (Fin 16)), l.Nodup → (l.map f).sum ≤ (l.map g).sum + d
  | [], _ => by simp
  | i :: r, hn => by
    rw [List.nodup_cons] at hn
    simp only [List.map_cons, List.sum_cons]
    by_cases hi : i.val = a
    · have h1 := ha i hi
      have h2 : r.map f = r.map g := List.map_congr_left (fun j hj => h j (fun e => hn.1 (by rw [Fin.ext (hi.trans e.symm)]; exact hj)))
      rw [h2]; omega
    · have h1 := h i hi
      have h2 := sum_update f g d a h ha r hn.2
      omega
theorem cnt_kid {cs cs' : Fin 16 → Nd} {x y : By} {a d : Nat} (h : ∀ i : Fin 16, i.val ≠ a → cs' i = cs i) (ha : ∀ i : Fin 16, i.val = a → cnt (cs' i) ≤ cnt (cs i) + d) : cnt (.branch cs' y) ≤ cnt (.branch cs x) + d := by
  simp only [cnt]
  have := sum_update (fun i => cnt (cs' i)) (fun i => cnt (cs i)) d a (fun i hi => by simp only [h i hi]) ha (List.finRange 16) (List.nodup_finRange 16)
  omega
theorem cnt_lay (cs : Fin 16 → Nd) (v p x : By) (h : ∀ a r, p = a :: r → at_ cs a = .nil) : cnt (lay cs v p x) ≤ cnt (.branch cs v) + 1 := by
  cases p with
  | nil => simp only [lay, cnt]; omega
  | cons a r =>
    simp only [lay]
    refine cnt_kid (a := a.toNat) (fun i hi => by unfold upd; rw [if_neg hi]) (fun i hi => ?_)
    unfold upd; rw [if_pos hi]; simp only [cnt]; omega
theorem cnt_none (v : By) : cnt (.branch none16 v) = 1 := by
  have : ((List.finRange 16).map fun i => cnt (none16 i)) = List.replicate 16 0 := by decide
  simp only [cnt, this]; rfl
theorem at_nodup {q p : By} {y : By} {a : UInt8} {r : By} {cs : Fin 16 → Nd} {v : By} (h : lay none16 [] q y = .branch cs v) (hp : p = a :: r) (hh : ∀ b s t, ¬ (q = b :: s ∧ p = b :: t)) : at_ cs a = .nil := by
  cases q with
  | nil =>
    simp only [lay, Nd.branch.injEq] at h
    rw [← h.1]; exact at_none a
  | cons b s =>
    simp only [lay, Nd.branch.injEq] at h
    rw [← h.1]
    have hne : a ≠ b := fun e => hh b s r ⟨rfl, by rw [hp, e]⟩
    rw [at_upd_ne hne]; exact at_none a
theorem cnt_put : ∀ (n : Nd) (p x : By), cnt (put n p x) ≤ cnt n + 4
  | .nil, p, x => by simp only [put, cnt]; omega
  | .leaf q v, p, x => by
    simp only [put]
    split
    · simp only [cnt]; omega
    · obtain ⟨t, q', p', _, _, _, hq', hp', _, hh⟩ := split_shared q p
      have h1 := cnt_rowed (p.take (shared q p)) (lay2 (lay none16 [] (q.drop (shared q p)) v) (p.drop (shared q p)) x)
      have h2 := cnt_lay none16 [] (q.drop (shared q p)) v (fun a r _ => at_none a)
      rw [cnt_none] at h2
      have h3 : cnt (lay2 (lay none16 [] (q.drop (shared q p)) v) (p.drop (shared q p)) x) ≤ cnt (lay none16 [] (q.drop (shared q p)) v) + 1 := by
        cases hl : lay none16 [] (q.drop (shared q p)) v with
        | branch cs w =>
          simp only [lay2]
          exact cnt_lay cs w _ x (fun a r hp => at_nodup hl hp (by rw [← hq', ← hp']; exact hh))
        | nil => cases hd : q.drop (shared q p) <;> rw [hd] at hl <;> simp [lay] at hl
        | leaf a b => cases hd : q.drop (shared q p) <;> rw [hd] at hl <;> simp [lay] at hl
        | row a b => cases hd : q.drop (shared q p) <;> rw [hd] at hl <;> simp [lay] at hl
      simp only [cnt]; omega
  | .row q c, p, x => by
    simp only [put]
    split
    · have := cnt_put c (p.drop (shared q p)) x
      simp only [cnt]; omega
    · rename_i hne
      obtain ⟨t, q', p', _, _, _, hq', hp', _, hh⟩ := split_shared q p
      have hlt : shared q p < q.length := by have := (shared_le q p).1; omega
      have h1 := cnt_rowed (p.take (shared q p)) (lay (upd none16 (q.getD (shared q p) 0) (rowed (q.drop (shared q p + 1)) c)) [] (p.drop (shared q p)) x)
      have hqd : q.getD (shared q p) 0 = q[shared q p] := by simp [List.getD_eq_getElem?_getD, hlt]
      have h2 := cnt_lay (upd none16 (q.getD (shared q p) 0) (rowed (q.drop (shared q p + 1)) c)) [] (p.drop (shared q p)) x (fun a r hp => by
        have hd : q.drop (shared q p) = q[shared q p] :: q.drop (shared q p + 1) := List.drop_eq_getElem_cons hlt
        have hne : a ≠ q.getD (shared q p) 0 := fun e => hh a _ r ⟨by rw [hq', hd, ← hqd, ← e], by rw [hp']; exact hp⟩
        rw [at_upd_ne hne]; exact at_none a)
      have h3 : cnt (.branch (upd none16 (q.getD (shared q p) 0) (rowed (q.drop (shared q p + 1)) c)) []) ≤ cnt (.branch none16 []) + (1 + cnt c) := by
        refine cnt_kid (a := (q.getD (shared q p) 0).toNat) (fun i hi => by unfold upd; rw [if_neg hi]) (fun i hi => ?_)
        unfold upd; rw [if_pos hi]
        have := cnt_rowed (q.drop (shared q p + 1)) c
        omega
      rw [cnt_none] at h3
      simp only [cnt] at *; omega
  | .branch cs v, p, x => by
    cases p with
    | nil => simp only [put, cnt]; omega
    | cons a r =>
      simp only [put]
      refine cnt_kid (a := a.toNat) (fun i hi => by rw [if_neg hi]) (fun i hi => ?_)
      rw [if_pos hi]
      exact cnt_put (cs i) r x
theorem le_sum_mem : ∀ {l : List Nat} {x : Nat}, x ∈ l → x ≤ l.sum
  | y :: r, x, h => by
    rw [List.sum_cons]
    rcases List.mem_cons.1 h with rfl | h
    · omega
    · have := le_sum_mem h; omega
theorem cnt_collapse (cs : Fin 16 → Nd) (v : By) : cnt (collapse cs v) ≤ cnt (.branch cs v) := by
  unfold collapse
  split
  · simp only [cnt]; omega
  · rename_i i hi
    split
    · have h1 := cnt_rowed [UInt8.ofNat i.val] (cs i)
      have h2 : cnt (cs i) ≤ ((List.finRange 16).map fun i => cnt (cs i)).sum := le_sum_mem (List.mem_map.2 ⟨i, List.mem_finRange i, rfl⟩)
      simp only [cnt]; omega
    · exact Nat.le_refl _
  · exact Nat.le_refl _
theorem cnt_collapse_upd (cs : Fin 16 → Nd) (v : By) (a : UInt8) (ha : a.toNat < 16) (m : Nd) (hm : cnt m ≤ cnt (cs ⟨a.toNat, ha⟩)) : cnt (collapse (upd cs a m) v) ≤ cnt (.branch cs v) := by
  have h1 := cnt_collapse (upd cs a m) v
  have h2 : cnt (.branch (upd cs a m) v) ≤ cnt (.branch cs v) + 0 := by
    refine cnt_kid (a := a.toNat) (fun i hi => ?_) (fun i hi => ?_)
    · unfold upd; rw [if_neg hi]
    · unfold upd; rw [if_pos hi, show i = ⟨a.toNat, ha⟩ from Fin.ext hi]; exact hm
  omega
theorem cnt_remove : ∀ (n : Nd) (p : By), cnt (remove n p).1 ≤ cnt n
  | .nil, p => by simp [remove]
  | .leaf q v, p => by simp only [remove]; split <;> simp [cnt]
  | .row q c, p => by
    have ih := cnt_remove c (p.drop q.length)
    simp only [remove]
    split
    · split
      · split
        · simp [cnt]
        · have := cnt_rowed q (remove c (p.drop q.length)).1
          simp only [cnt]; omega
      · exact Nat.le_refl _
    · exact Nat.le_refl _
  | .branch cs v, p => by
    cases p with
    | nil =>
      simp only [remove]
      split
      · exact Nat.le_refl _
      · have := cnt_collapse cs []
        simp only [cnt] at *; omega
    | cons a r =>
      simp only [remove]
      split
      · rename_i ha
        have ih := cnt_remove (cs ⟨a.toNat, ha⟩) r
        split
        · exact cnt_collapse_upd cs v a ha _ ih
        · exact Nat.le_refl _
      · exact Nat.le_refl _
theorem cnt_putT (n : Nd) (k x : By) : cnt (putT n k x).2 ≤ cnt n + 4 := by
  unfold putT
  split
  · simp
  · split
    · simp
    · exact cnt_put _ _ _
theorem cnt_delT (n : Nd) (k : By) : cnt (delT n k).2 ≤ cnt n + 4 := by
  unfold delT
  split
  · simp
  · have := cnt_remove n (nibbles k)
    dsimp only; omega
end Go.Trie
end

section
set_option linter.unusedVariables false
set_option linter.unusedSimpArgs false
namespace Go.Proofs.Ytfghidehlnfdiaa
open Go Go.Vcg Go.Trie
section
variable {C C' : Type} {S : C → Prop} {w0 w w1 w' : World} {lab : Nat → C} {lab' : Nat → C'} {ct c cb : C} {c' cb' : C'}
theorem COw.re {e : TypeId} {sz : Nat} {o : Option Addr} {l k : Nat} {xs : List Value} (h : COw w lab c e sz o l k xs) (hl : ∀ k, k < w.heap.size → lab k = c → lab' k = c') : COw w lab' c' e sz o l k xs :=
  ⟨h.own, fun k hk => hl k (h.own.lt hk) (h.clr k hk)⟩
theorem NdCells.re {vs : List Value} {l : List (By × By)} (h : NdCells w lab cb vs l) (hl : ∀ k, k < w.heap.size → lab k = cb → lab' k = cb') : NdCells w lab' cb' vs l :=
  ⟨h.1, fun j hj => by obtain ⟨h1, h2, ob, kb, h3, h4⟩ := h.2 j hj; exact ⟨h1, h2, ob, kb, h3, CBy.re h4 hl⟩⟩
/-- A row of nodes that can be read. -/
def NdRow (w : World) (lab : Nat → C) (c : C) (l : List (By × By)) (o : Option Addr) (n : Nat) : Prop :=
  n = l.length ∧ ∃ vs, CRow w lab c o vs ∧ NdCells w lab c vs l
theorem NdRow.stp {lab2 : Nat → C} {l : List (By × By)} {o : Option Addr} {n : Nat} (h : NdRow w lab c l o n) (s : Stp S w lab w' lab2) (hs : ¬ S c) : NdRow w' lab2 c l o n := by
  obtain ⟨h1, vs, h2, h3⟩ := h
  exact ⟨h1, vs, h2.stp s hs, h3.stp s hs⟩
theorem NdRow.nil (w : World) (lab : Nat → C) (c : C) (o : Option Addr) : NdRow w lab c [] o 0 := ⟨rfl, [], CRow.nil w lab c o, NdCells.nil w lab c⟩
/-- The labels at a walk over nodes. -/
noncomputable def labN (lab : Nat → C) (c : C) (N : Nat) : Nat → Nat := fun k => if k < N then (@ite Nat (lab k = c) (Classical.propDecidable _) 6 0) else if k = N then 1 else if k = N + 1 then 2 else if k ≤ N + 3 then 3 else 5
theorem labN_old {N k : Nat} (h : k < N) : ¬ SV1 (labN lab c N k) ∧ labN lab c N k ≠ 5 := by
  unfold labN
  rw [if_pos h]
  constructor
  · split <;> (rintro (h | h | h) <;> cases h)
  · split <;> decide
theorem labN_in {N k : Nat} (h : k < N) (hc : lab k = c) : labN lab c N k = 6 := by
  unfold labN
  rw [if_pos h, if_pos hc]
theorem Nodes_calls {t : Nat} {n : Nd} (h : TrieAt w lab ct c t n) (hl : cnt n ≤ 2 ^ 20) (cr : C) :
    Calls Try.prog trie_Trie_Nodes.n #[.pointer (some ⟨t, 0, none⟩)] w (fun e w' => ∃ o k, e = .returned (.slice o (nodesOf n).length k) ∧ Vcg.Mod NoB w w' ∧ NdRow w' (ext lab w.heap.size cr) cr (nodesOf n) o (nodesOf n).length) := by
  refine calls_gen fun R hR => trie_Trie_Nodes.vc _ _ _ ?_
  unfold trie_Trie_Nodes.Vc
  obtain ⟨v, g, T, hn, hc, hf⟩ := h
  rintro d1 w1 ⟨rfl, rfl⟩
  have M1 := Mod.alloc (S := NoB) w (.cells #[.slice none 0 0] 49)
  have B1 := Blk.new w 49 #[.slice none 0 0]
  have z1 := size_alloc w (.cells #[.slice none 0 0] 49)
  generalize w.alloc (.cells #[.slice none 0 0] 49) = w1 at *
  generalize hN : w.heap.size = N at *
  obtain ⟨w2, hr2, M2, hmap⟩ := run_makeMap und_met w1
  have z2 : w2.heap.size = N + 2 := by
    have : w2 = w1.alloc (.map #[] 0) := by
      have h : Sem.run Try.prog (Instr.makeMap 169 none) w1 = .ok (.map (some w1.heap.size)) (w1.alloc (.map #[] 0)) := rfl
      rw [h] at hr2
      cases hr2; rfl
    rw [this, size_alloc, z1]
  rw [z1] at hmap hr2
  have B2 := B1.mod' M2
  refine ⟨_, w2, hr2, _, rfl, ?_⟩
  rintro d3 w3 ⟨rfl, rfl⟩
  have M3 := Mod.alloc (S := NoB) w2 (.cells #[.map none] 169)
  have C3 := Blk.new w2 169 #[.map none]
  have z3 := size_alloc w2 (.cells #[.map none] 169)
  have hmap3 := (M3.block (N + 1) (by omega) (fun h => h)).trans hmap
  rw [z2] at C3 z3
  have B3 := B2.mod' M3
  have M03 := (M1.trans M2 (fun _ _ h => h)).trans M3 (fun _ _ h => h)
  rw [z2]
  generalize w2.alloc (.cells #[.map none] 169) = w3 at *
  refine ⟨C3.canSet (by simp) rfl, ?_⟩
  rintro _ rfl
  have C4 := C3.set 0 (.map (some (N + 1)))
  have B4 := B3.set_ne (a := ⟨N + 2, 0, none⟩) (v := .map (some (N + 1))) (by dsimp only; omega)
  have z4 := size_setCell w3 ⟨N + 2, 0, none⟩ (.map (some (N + 1)))
  have hmap4 := (heap_setCell_other w3 ⟨N + 2, 0, none⟩ (N + 1) (.map (some (N + 1))) (by dsimp only; omega)).trans hmap3
  have M04 : Vcg.Mod NoB w _ := M03.step_set (a := ⟨N + 2, 0, none⟩) (v := .map (some (N + 1))) (fun h => absurd h (by dsimp only; omega))
  generalize w3.setCell ⟨N + 2, 0, none⟩ (.map (some (N + 1))) = w4 at *
  rintro d5 w5 ⟨rfl, rfl⟩
  have M5 := Mod.alloc (S := NoB) w4 (.cells #[.nilFunc] 170)
  have D5 := Blk.new w4 170 #[.nilFunc]
  have z5 := size_alloc w4 (.cells #[.nilFunc] 170)
  have hmap5 := (M5.block (N + 1) (by omega) (fun h => h)).trans hmap4
  have z4' : w4.heap.size = N + 3 := by omega
  rw [z4'] at D5
  have B5 := B4.mod' M5
  have C5 := C4.mod' M5
  have M05 := M04.trans M5 (fun _ _ h => h)
  rw [z4']
  generalize w4.alloc (.cells #[.nilFunc] 170) = w5 at *
  refine ⟨D5.canSet (by simp) rfl, ?_⟩
  rintro _ rfl
  generalize hF : Value.func (.func 97) #[] #[.pointer (some ⟨N + 3, 0, none⟩), .pointer (some ⟨N + 2, 0, none⟩), .pointer (some ⟨N, 0, none⟩)] = F
  have D6 := D5.set 0 F
  have B6 := B5.set_ne (a := ⟨N + 3, 0, none⟩) (v := F) (by dsimp only; omega)
  have C6 := C5.set_ne (a := ⟨N + 3, 0, none⟩) (v := F) (by dsimp only; omega)
  have z6 := size_setCell w5 ⟨N + 3, 0, none⟩ F
  have hmap6 := (heap_setCell_other w5 ⟨N + 3, 0, none⟩ (N + 1) F (by dsimp only; omega)).trans hmap5
  have M06 : Vcg.Mod NoB w _ := M05.step_set (a := ⟨N + 3, 0, none⟩) (v := F) (fun h => absurd h (by dsimp only; omega))
  rintro _ rfl
  have MD := Mod.drew (S := NoB) (w5.setCell ⟨N + 3, 0, none⟩ F)
  replace D6 := D6.mod' MD
  replace B6 := B6.mod' MD
  replace C6 := C6.mod' MD
  replace hmap6 := (MD.block (N + 1) (by rw [z6]; omega) (fun h => h)).trans hmap6
  replace M06 := M06.trans MD (fun _ _ h => h)
  have z7 : (w5.setCell ⟨N + 3, 0, none⟩ F).drew.heap.size = N + 4 := by rw [size_drew, z6]; omega
  generalize (w5.setCell ⟨N + 3, 0, none⟩ F).drew = w6 at *
  have l0 : labN lab c N N = 1 := by unfold labN; rw [if_neg (by omega), if_pos rfl]
  have l1 : labN lab c N (N + 1) = 2 := by unfold labN; rw [if_neg (by omega), if_neg (by omega), if_pos rfl]
  have l2 : labN lab c N (N + 2) = 3 := by unfold labN; rw [if_neg (by omega), if_neg (by omega), if_neg (by omega), if_pos (by omega)]
  have l3 : labN lab c N (N + 3) = 3 := by unfold labN; rw [if_neg (by omega), if_neg (by omega), if_neg (by omega), if_pos (by omega)]
  have V : VS w6 (labN lab c N) (N + 3) (N + 2) N (N + 1) [] := by
    refine ⟨⟨?_, l3⟩, ⟨C6, l2⟩, ⟨[], ⟨⟨#[], 0, hmap6, Go.MapKept.stamped_empty 0, rfl, fun _ h => by cases h⟩, l1⟩, rfl, fun _ h => by cases h⟩, ⟨none, 0, 0, ⟨B6, l0⟩, NdOwn.nil _ _ _ _⟩⟩
    rw [hF]; exact D6
  have hn6 : NodeAt w6 (labN lab c N) 6 n v := (NodeAt.re (fun k hk hc => labN_in (by omega) hc) hn).stp (Stp.same M06 (labN lab c N)) (fun h => h)
  refine ⟨F, D6.rd1 rfl, v, (T.blk.mod' M06).rd1 rfl, 97, #[], _, hF.symm, by kernel_rfl, ?_⟩
  refine (visit_calls n (top := true) V hn6 hc (small_of hc hf) (by simpa using hl)).mono ?_
  rintro _ w7 ⟨rfl, L7, s7, V7⟩
  obtain ⟨o, m, k, O1, O2⟩ := V7.out
  obtain ⟨rfl, vs, O3, O4⟩ := O2
  have M07 : Vcg.Mod NoB w w7 := M06.trans (s7.mod (Q := fun k => N ≤ k) (fun k hk hs => Nat.not_lt.1 fun hlt => (labN_old hlt).1 hs)) (fun i hi hq => by omega)
  have hre : ∀ q, q = 4 ∨ q = 5 → ∀ k, k < w7.heap.size → L7 k = q → ext lab N cr k = cr := fun q hq k hk he => by
    by_cases hlt : k < N
    · rw [s7.lab k (by omega)] at he
      rcases hq with rfl | rfl
      · exact ((labN_old hlt).1 (Or.inr (Or.inr he))).elim
      · exact ((labN_old hlt).2 he).elim
    · exact ext_new (by omega)
  exact ⟨rfl, o, _, k, O1.blk.rd1 rfl, hR _ _ ⟨o, k, rfl, M07, rfl, vs, COw.row (COw.re O3 (hre 4 (.inl rfl))), NdCells.re O4 (hre 5 (.inr rfl))⟩⟩
end
end Go.Proofs.Ytfghidehlnfdiaa
end

section
set_option linter.unusedVariables false
set_option linter.unusedSimpArgs false
namespace Go.Trie
/-- Byte by byte; a shorter one ahead of one that begins like it. -/
def ltB : By → By → Prop
  | _, [] => False
  | [], _ :: _ => True
  | a :: p, b :: q => a < b ∨ (a = b ∧ ltB p q)
theorem ltB_nil (p : By) : ¬ ltB p [] := by cases p <;> simp [ltB]
theorem ltB_irrefl : ∀ (p : By), ¬ ltB p p
  | [], h => h
  | a :: p, h => by
    rcases h with h | h
    · exact absurd h (UInt8.lt_irrefl a)
    · exact ltB_irrefl p h.2
theorem ltB_trans : ∀ {p q r : By}, ltB p q → ltB q r → ltB p r
  | p, q, [], _, h => (ltB_nil _ h).elim
  | p, [], c :: r, h, _ => (ltB_nil _ h).elim
  | [], b :: q, c :: r, _, _ => trivial
  | a :: p, b :: q, c :: r, h1, h2 => by
    rcases h1 with h1 | ⟨rfl, h1⟩
    · rcases h2 with h2 | ⟨rfl, h2⟩
      · exact .inl (UInt8.lt_trans h1 h2)
      · exact .inl h1
    · rcases h2 with h2 | ⟨rfl, h2⟩
      · exact .inl h2
      · exact .inr ⟨rfl, ltB_trans h1 h2⟩
theorem ltB_cons {a : UInt8} {p q : By} : ltB (a :: p) (a :: q) ↔ ltB p q := by
  simp only [ltB]
  constructor
  · rintro (h | h)
    · exact absurd h (UInt8.lt_irrefl a)
    · exact h.2
  · exact fun h => .inr ⟨trivial, h⟩
theorem ltB_append {t p q : By} : ltB (t ++ p) (t ++ q) ↔ ltB p q := by
  induction t with
  | nil => exact Iff.rfl
  | cons a t ih => rw [List.cons_append, List.cons_append, ltB_cons, ih]
/-- Sorted entries that are a trie's. -/
def Rep (s : List (By × By)) (n : Nd) : Prop := s.Pairwise (fun x y => ltB x.1 y.1) ∧ ∀ k v, get n k = some v ↔ (k, v) ∈ s
theorem Rep.nil : Rep [] .nil := ⟨List.Pairwise.nil, fun k v => by simp [get]⟩
theorem Rep.nil_inv {n : Nd} (h : Rep [] n) (hc : Canon n) : n = .nil := by
  by_cases hn : n = .nil
  · exact hn
  · obtain ⟨k, v, hk⟩ := has_key hc hn
    have := (h.2 k v).1 hk
    simp at this
theorem Rep.ne {s : List (By × By)} {n : Nd} (h : Rep s n) (hs : s ≠ []) : n ≠ .nil := by
  rintro rfl
  cases s with
  | nil => exact hs rfl
  | cons x r =>
    have := (h.2 x.1 x.2).2 (by simp)
    simp [get] at this
theorem Rep.leaf {s : List (By × By)} {p v : By} (h : Rep s (.leaf p v)) : s = [(p, v)] := by
  have hm : ∀ x ∈ s, x = (p, v) := fun x hx => by
    have := (h.2 x.1 x.2).2 hx
    simp only [get] at this
    split at this
    · rename_i hp
      cases this
      exact Prod.ext hp.symm rfl
    · cases this
  have hin : (p, v) ∈ s := (h.2 p v).1 (by simp [get])
  cases s with
  | nil => simp at hin
  | cons x r =>
    cases r with
    | nil => rw [hm x (by simp)]
    | cons y r =>
      have h1 := hm x (by simp)
      have h2 := hm y (by simp)
      have := (List.pairwise_cons.1 h.1).1 y (by simp)
      rw [h1, h2] at this
      exact (ltB_irrefl _ this).elim
/-- Two keys at least. -/
theorem Rep.two {s : List (By × By)} {n : Nd} (h : Rep s n) {k1 v1 k2 v2 : By} (h1 : get n k1 = some v1) (h2 : get n k2 = some v2) (hne : k1 ≠ k2) : 2 ≤ s.length := by
  have m1 := (h.2 _ _).1 h1
  have m2 := (h.2 _ _).1 h2
  match s, m1, m2 with
  | [x], m1, m2 =>
    simp at m1 m2
    exact (hne (by rw [← m2] at m1; exact (Prod.mk.inj m1).1)).elim
  | x :: y :: r, _, _ => simp
theorem Rep.row {s : List (By × By)} {p : By} {c : Nd} (h : Rep s (.row p c)) : (∀ x ∈ s, p <+: x.1) ∧ Rep (s.map fun x => (x.1.drop p.length, x.2)) c := by
  have hp : ∀ x ∈ s, p <+: x.1 := fun x hx => by
    obtain ⟨r, hr, _⟩ := get_row_some ((h.2 x.1 x.2).2 hx)
    exact ⟨r, hr.symm⟩
  refine ⟨hp, ?_, fun k v => ?_⟩
  · rw [List.pairwise_map]
    refine List.Pairwise.imp_of_mem (fun {x y} hx hy hxy => ?_) h.1
    obtain ⟨r, hr⟩ := hp x hx
    obtain ⟨t, ht⟩ := hp y hy
    rw [← hr, ← ht, ltB_append] at hxy
    simp only [← hr, ← ht, List.drop_left]
    exact hxy
  · rw [← get_row_append p k c, h.2]
    simp only [List.mem_map]
    constructor
    · intro hm
      exact ⟨_, hm, by simp⟩
    · rintro ⟨x, hx, he⟩
      obtain ⟨r, hr⟩ := hp x hx
      simp only [Prod.mk.injEq] at he
      rw [← hr, List.drop_left] at he
      obtain ⟨rfl, rfl⟩ := he
      rw [hr]; exact hx
theorem shared_append (t p q : By) : shared (t ++ p) (t ++ q) = t.length + shared p q := by
  induction t with
  | nil => simp
  | cons a t ih => simp only [List.cons_append, shared, if_true, ih, List.length_cons]; omega
/-- Between a first and a last path that begin with one nibble all do. -/
theorem all_head {s : List (By × By)} (hs : s.Pairwise (fun x y => ltB x.1 y.1)) {x y : By × By} {a : UInt8} {p q : By} (hx : s.head? = some x) (hy : s.getLast? = some y) (hxa : x.1 = a :: p) (hya : y.1 = a :: q) : ∀ z ∈ s, ∃ r, z.1 = a :: r := by
  have hlast : ∀ {s : List (By × By)} {y : By × By}, s.Pairwise (fun x y => ltB x.1 y.1) → s.getLast? = some y → ∀ z ∈ s, z = y ∨ ltB z.1 y.1 := by
    intro s
    induction s with
    | nil => intro y _ h; simp at h
    | cons x r ih =>
      intro y hp hl z hz
      rw [List.pairwise_cons] at hp
      cases r with
      | nil => simp at hl hz; subst hl; exact .inl hz
      | cons x2 r2 =>
        rw [List.getLast?_cons_cons] at hl
        rcases List.mem_cons.1 hz with rfl | hz
        · have hy : y ∈ x2 :: r2 := List.mem_of_getLast? hl
          exact .inr (hp.1 y hy)
        · exact ih hp.2 hl z hz
  have hfirst : ∀ z ∈ s, z = x ∨ ltB x.1 z.1 := by
    intro z hz
    cases s with
    | nil => simp at hx
    | cons x' r =>
      simp at hx; subst hx
      rcases List.mem_cons.1 hz with rfl | hz
      · exact .inl rfl
      · exact .inr ((List.pairwise_cons.1 hs).1 z hz)
  intro z hz
  rcases hfirst z hz with rfl | h1
  · exact ⟨p, hxa⟩
  rcases hlast hs hy z hz with rfl | h2
  · exact ⟨q, hya⟩
  rw [hxa] at h1
  rw [hya] at h2
  cases hzz : z.1 with
  | nil => rw [hzz] at h1; exact (ltB_nil _ h1).elim
  | cons b r =>
    rw [hzz] at h1 h2
    have hab : a = b := by
      have h3 : a < b ∨ a = b := h1.elim .inl (fun h => .inr h.1)
      have h4 : b < a ∨ b = a := h2.elim .inl (fun h => .inr h.1)
      rcases h3 with h3 | h3
      · rcases h4 with h4 | h4
        · exact absurd (UInt8.lt_trans h3 h4) (UInt8.lt_irrefl a)
        · exact h4.symm
      · exact h3
    exact ⟨r, by rw [hab]⟩
theorem Rep.parts {s : List (By × By)} {n : Nd} (h : Rep s n) (hc : Canon n) (hb : IsBranch n) {x y : By × By} (hx : s.head? = some x) (hy : s.getLast? = some y) : shared x.1 y.1 = 0 := by
  cases hx1 : x.1 with
  | nil => simp [shared]
  | cons a p =>
    cases hy1 : y.1 with
    | nil => simp [shared]
    | cons b q =>
      simp only [shared]
      split
      · rename_i hab
        subst hab
        exfalso
        obtain ⟨k1, v1, k2, v2, h1, h2, hp⟩ := two_keys hc hb
        obtain ⟨r1, e1⟩ := all_head h.1 hx hy hx1 hy1 _ ((h.2 _ _).1 h1)
        obtain ⟨r2, e2⟩ := all_head h.1 hx hy hx1 hy1 _ ((h.2 _ _).1 h2)
        exact hp.2 a r1 r2 ⟨e1, e2⟩
      · rfl
theorem Rep.shared_row {s : List (By × By)} {p : By} {c : Nd} (h : Rep s (.row p c)) (hc : Canon (.row p c)) {x y : By × By} (hx : s.head? = some x) (hy : s.getLast? = some y) : shared x.1 y.1 = p.length := by
  obtain ⟨hp, hr⟩ := h.row
  have hxs : x ∈ s := List.mem_of_mem_head? hx
  have hys : y ∈ s := List.mem_of_getLast? hy
  obtain ⟨r, er⟩ := hp x hxs
  obtain ⟨t, et⟩ := hp y hys
  have := hr.parts hc.2.2.2 hc.2.2.1 (x := (x.1.drop p.length, x.2)) (y := (y.1.drop p.length, y.2)) (by rw [List.head?_map, hx]; rfl) (by rw [List.getLast?_map, hy]; rfl)
  rw [← er, ← et, List.drop_left, List.drop_left] at this
  rw [← er, ← et, shared_append, this]; omega
/-! ### a branch's entries, by their first nibbles -/
def headLt (a : Nat) (p : By) : Prop := match p with
  | [] => True
  | b :: _ => b.toNat < a
def headGe (a : Nat) (p : By) : Prop := match p with
  | [] => False
  | b :: _ => a ≤ b.toNat
theorem Rep.kid {s s1 t s3 : List (By × By)} {cs : Fin 16 → Nd} {v : By} (h : Rep s (.branch cs v)) (a : Fin 16) (he : s = s1 ++ (t ++ s3)) (h1 : ∀ x ∈ s1, headLt a.val x.1) (ht : ∀ x ∈ t, ∃ r, x.1 = UInt8.ofNat a.val :: r) (h3 : ∀ x ∈ s3, headGe (a.val + 1) x.1) :
    Rep (t.map fun x => (x.1.drop 1, x.2)) (cs a) := by
  have ha : (UInt8.ofNat a.val).toNat = a.val := by rw [UInt8.toNat_ofNat']; have := a.isLt; omega
  have hpt : t.Pairwise (fun x y => ltB x.1 y.1) := by
    have := h.1
    rw [he] at this
    exact ((List.pairwise_append.1 ((List.pairwise_append.1 this).2.1))).1
  refine ⟨?_, fun k w => ?_⟩
  · rw [List.pairwise_map]
    refine List.Pairwise.imp_of_mem (fun {x y} hx hy hxy => ?_) hpt
    obtain ⟨r, hr⟩ := ht x hx
    obtain ⟨q, hq⟩ := ht y hy
    rw [hr, hq, ltB_cons] at hxy
    simp only [hr, hq, List.drop_succ_cons, List.drop_zero]
    exact hxy
  · rw [← get_branch_cons cs v a k, h.2, he]
    simp only [List.mem_append, List.mem_map]
    constructor
    · rintro (hm | hm | hm)
      · have := h1 _ hm
        simp only [headLt, ha] at this
        omega
      · exact ⟨_, hm, by simp⟩
      · have := h3 _ hm
        simp only [headGe, ha] at this
        omega
    · rintro ⟨x, hx, hxe⟩
      obtain ⟨r, hr⟩ := ht x hx
      simp only [hr, List.drop_succ_cons, List.drop_zero, Prod.mk.injEq] at hxe
      obtain ⟨rfl, rfl⟩ := hxe
      rw [← hr]
      exact .inr (.inl hx)
/-- Behind a run of one nibble the rest begins with greater ones. -/
theorem rest_ge {s2 t s3 : List (By × By)} {a : Nat} (hs : s2.Pairwise (fun x y => ltB x.1 y.1)) (he : s2 = t ++ s3) (hge : ∀ x ∈ s2, headGe a x.1) (hne : ∀ x, s3.head? = some x → ∀ b r, x.1 = b :: r → b.toNat ≠ a) : ∀ x ∈ s3, headGe (a + 1) x.1 := by
  subst he
  cases s3 with
  | nil => intro x hx; simp at hx
  | cons y r =>
    have hy := hge y (by simp)
    have hps := (List.pairwise_append.1 hs).2.1
    rw [List.pairwise_cons] at hps
    intro x hx
    cases hy1 : y.1 with
    | nil => rw [hy1] at hy; exact hy.elim
    | cons b q =>
      rw [hy1] at hy
      have hb := hne y rfl b q hy1
      have hb2 : a ≤ b.toNat := hy
      rcases List.mem_cons.1 hx with rfl | hx
      · rw [hy1]; show a + 1 ≤ b.toNat; omega
      · have hlt := hps.1 x hx
        rw [hy1] at hlt
        cases hx1 : x.1 with
        | nil => rw [hx1] at hlt; exact (ltB_nil _ hlt).elim
        | cons c p =>
          rw [hx1] at hlt
          show a + 1 ≤ c.toNat
          rcases hlt with hlt | ⟨rfl, _⟩
          · have : b.toNat < c.toNat := UInt8.lt_iff_toNat_lt.1 hlt
            omega
          · omega
/-- The value of a branch stands first. -/
theorem Rep.value {s : List (By × By)} {cs : Fin 16 → Nd} {v : By} (h : Rep s (.branch cs v)) {x : By × By} {r : List (By × By)} (hs : s = x :: r) : (x.1 = [] → v = x.2) ∧ (x.1 ≠ [] → v = []) ∧ ∀ y ∈ r, y.1 ≠ [] := by
  subst hs
  refine ⟨fun hx => ?_, fun hx => ?_, fun y hy e => ?_⟩
  · have := (h.2 x.1 x.2).2 (by simp)
    rw [hx, get_branch_nil] at this
    split at this
    · cases this
    · exact Option.some.inj this
  · by_cases hv : v = []
    · exact hv
    · exfalso
      have := (h.2 [] v).1 (by rw [get_branch_nil, if_neg hv])
      rcases List.mem_cons.1 this with e | hm
      · exact hx (by rw [← e])
      · have := (List.pairwise_cons.1 h.1).1 _ hm
        exact ltB_nil _ this
  · have := (List.pairwise_cons.1 h.1).1 y hy
    rw [e] at this
    exact ltB_nil _ this
end Go.Trie
end
