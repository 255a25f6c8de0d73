/- Contracts: put. -/
import Derived.Test.YtfghidehlnfdiaaTP16
section
set_option linter.unusedVariables false
set_option linter.unusedSimpArgs false
namespace Go.Trie
end Go.Trie
namespace Go.Trie
theorem put_branch_cons (cs : Fin 16 → Nd) (y : By) (a : UInt8) (r x : By) (ha : a.toNat < 16) : put (.branch cs y) (a :: r) x = .branch (fun i => if i.val = a.toNat then put (cs ⟨a.toNat, ha⟩) r x else cs i) y := by
  simp only [put]
  congr 1
  funext i
  by_cases hi : i.val = a.toNat
  · rw [if_pos hi, if_pos hi, show i = ⟨a.toNat, ha⟩ from Fin.ext hi]
  · rw [if_neg hi, if_neg hi]
end Go.Trie
namespace Go.Proofs.Ytfghidehlnfdiaa
open Go Go.Vcg Go.Trie
section
variable {C : Type} {S : C → Prop} {w0 w w1 w' : World} {lab lab2 : Nat → C} {c : C}
/-- What may be part of nodes, while block D is being made. -/
def mask (lab : Nat → C) (c : C) (N D : Nat) : Nat → Prop := fun k => k ≠ D ∧ (k < N → lab k = c)
theorem Stp.same {C : Type} {w w' : World} (M : Vcg.Mod NoB w w') (L : Nat → C) : Stp NoS w L w' L := ⟨M.os, M.tape, M.output, M.size, fun _ _ => rfl, fun k hk _ => M.block k hk (fun h => h)⟩
theorem mask_in {N D : Nat} (hN : w.heap.size ≤ N) (hD : N ≤ D) : ∀ k, k < w.heap.size → lab k = c → mask lab c N D k = True := fun k hk hc => eq_true ⟨by omega, fun _ => hc⟩
theorem mask_D {N D : Nat} : mask lab c N D D ≠ True := fun h => (of_eq_true h).1 rfl
theorem mask_hi {N D M : Nat} (hN : N ≤ M) (hD : D < M) : ∀ k, M ≤ k → mask lab c N D k = True := fun k hk => eq_true ⟨by omega, fun h => by omega⟩
theorem mask_out {N D : Nat} (w : World) : ∀ k, k < w.heap.size → mask lab c N D k = True → ext lab N c k = c := fun k _ h => by
  by_cases hk : k < N
  · rw [ext_old hk]; exact (of_eq_true h).2 hk
  · exact ext_new (by omega)
theorem unext {L : Nat → Prop} {M : Nat} (w : World) (h : ∀ k, M ≤ k → L k = True) : ∀ k, k < w.heap.size → ext L M True k = True → L k = True := fun k _ he => by
  by_cases hk : k < M
  · rw [ext_old hk] at he; exact he
  · exact h k (by omega)
theorem BrAt.kid {D a : Nat} {cs : Fin 16 → Nd} {x : By} {L : Nat → C} {n : Nd} {v : Value} (h : BrAt w L c D cs x) (hD : L D ≠ c) (ha : a < 16) (hn : NodeAt w L c n v) :
    CanSet w ⟨D, a, none⟩ v ∧ BrAt (w.setCell ⟨D, a, none⟩ v) L c D (fun i => if i.val = a then n else cs i) x := by
  obtain ⟨vs, ov, cv, h1, h2, h3⟩ := h.ex
  have B1 := h1.set a v
  rw [brA_set _ _ _ _ _ ha] at B1
  have s : Stp (fun z => z ≠ c) w L (w.setCell ⟨D, a, none⟩ v) L := Stp.setCell hD
  refine ⟨h1.canSet (by rw [brA_size]; omega) hn.one, ⟨⟨_, ov, cv, B1, h2.stp s (fun h => h rfl), fun i => ?_⟩⟩⟩
  unfold updV
  split
  · exact hn.stp s (fun h => h rfl)
  · exact (h3 i).stp s (fun h => h rfl)
theorem BrAt.val {D : Nat} {cs : Fin 16 → Nd} {x y : By} {L : Nat → C} {o : Option Addr} {k : Nat} (h : BrAt w L c D cs x) (hD : L D ≠ c) (hy : CBy w L c o y) :
    CanSet w ⟨D, 16, none⟩ (.slice o y.length k) ∧ BrAt (w.setCell ⟨D, 16, none⟩ (.slice o y.length k)) L c D cs y := by
  obtain ⟨vs, ov, cv, h1, h2, h3⟩ := h.ex
  have B1 := h1.set 16 (.slice o y.length k)
  rw [brA_setv] at B1
  have s : Stp (fun z => z ≠ c) w L (w.setCell ⟨D, 16, none⟩ (.slice o y.length k)) L := Stp.setCell hD
  exact ⟨h1.canSet (by rw [brA_size]; omega) rfl, ⟨⟨_, o, k, B1, hy.stp s (fun h => h rfl), fun i => (h3 i).stp s (fun h => h rfl)⟩⟩⟩
/-- A branch that is made: it may be one. -/
theorem BrAt.grown {N D : Nat} {cs : Fin 16 → Nd} {x : By} (h : BrAt w1 (mask lab c w.heap.size D) True D cs x) (M : Vcg.Mod NoB w w1) (hD : w.heap.size ≤ D) : Grown w lab c w1 (.branch cs x) (.iface tPBranch (.pointer (some ⟨D, 0, none⟩))) :=
  ⟨M, (BrAt.re h (mask_out w1)).node (ext_new hD)⟩
theorem Grown.rowed {w2 : World} {n : Nd} {v : Value} {o : Option Addr} {k : Nat} {p : By} (h : Grown w lab c w1 n v) (hs : plen n ≤ 128) (hp : CBy w lab c o p) (hk : p.length ≤ k) (hl : p.length ≤ 2 ^ 30) :
    Calls Try.prog trie_rowed.n #[.slice o p.length k, v] w1 (fun e w2 => ∃ v', e = .returned v' ∧ Grown w lab c w2 (rowed p n) v') := by
  refine (rowed_calls h.2 hs (hp.stp (S := NoS) h.stp (fun h => h)) hk hl).mono ?_
  rintro _ w2 ⟨v', lab', rfl, s, h'⟩
  exact ⟨v', rfl, grown_of (h.stp.trans s) h'⟩
end
theorem info_branch : (Try.prog.info? tBranch).map (·.size) = some 17 := by kernel_rfl
theorem node_brA_one {C : Type} {w : World} {lab : Nat → C} {c : C} {cs : Fin 16 → Nd} {vs : Fin 16 → Value} {o : Option Addr} {l k : Nat} (h : ∀ i, NodeAt w lab c (cs i) (vs i)) : ∀ v ∈ (brA vs o l k).toList, v.oneCell' = true := by
  intro v hv
  simp only [brA, List.mem_append, List.mem_ofFn, List.mem_singleton] at hv
  rcases hv with ⟨i, rfl⟩ | rfl
  · exact (h i).one
  · rfl
theorem tput_calls : ∀ (n : Nd) {C : Type} {w : World} {lab : Nat → C} {c : C} {v : Value} {o ox : Option Addr} {k kx t : Nat} {p x : By}, NodeAt w lab c n v → Canon n → Small n → CBy w lab c o p → p.length ≤ k → p.length ≤ 128 → Nib p → CBy w lab c ox x → x.length ≤ 1024 →
    Calls Try.prog trie_Trie_put.n #[.pointer (some ⟨t, 0, none⟩), v, .slice o p.length k, .slice ox x.length kx] w (fun e w' => ∃ v', e = .returned (.tuple #[v', .int .i64 0]) ∧ Grown w lab c w' (Trie.put n p x) v')
  | .nil, C, w, lab, c, v, o, ox, k, kx, t, p, x, h, hc, hs, hp, hk, hpl, hn, hx, hxl => by
    refine calls_gen fun R hR => trie_Trie_put.vc _ _ _ _ _ _ _ _ _ _ ?_
    unfold trie_Trie_put.Vc
    refine (seen_calls h t).mono ?_
    rintro _ w ⟨rfl, rfl⟩
    cases h
    refine ⟨_, _, rfl, fun h => (h rfl).elim, fun _ => ⟨_, ask_nil und_pleaf zero_pleaf _, _, _, rfl, fun h => (by cases h), fun _ => ⟨_, ask_nil und_prow zero_prow _, _, _, rfl, fun h => (by cases h), fun _ => ⟨_, ask_nil und_pbranch zero_pbranch _, _, _, rfl, fun h => (by cases h), fun _ => ?_⟩⟩⟩⟩
    rintro d w2 ⟨rfl, rfl⟩
    have M := Mod.alloc (S := NoB) w (.cells #[.slice o p.length k, .slice ox x.length kx] tLeaf)
    have s : Stp NoS w lab (w.alloc (.cells #[.slice o p.length k, .slice ox x.length kx] tLeaf)) (ext lab w.heap.size c) := Stp.of_nob M _
    exact hR _ _ ⟨_, rfl, M, _, o, k, ox, kx, rfl, new_cb (Mod.refl w) _ _, hp.stp s (fun h => h), hk, hx.stp s (fun h => h)⟩
  | .leaf q y, C, w, lab, c, v, o, ox, k, kx, t, p, x, h, hc, hs, hp, hk, hpl, hn, hx, hxl => by
    refine calls_gen fun R hR => trie_Trie_put.vc _ _ _ _ _ _ _ _ _ _ ?_
    unfold trie_Trie_put.Vc
    refine (seen_calls h t).mono ?_
    rintro _ w ⟨rfl, rfl⟩
    have h' := h
    obtain ⟨b, oq, cq, oy, cy, rfl, B, hq, hqc, hy⟩ := h'
    refine ⟨_, _, rfl, fun h => (h rfl).elim, fun _ => ⟨_, ask_yes und_pleaf _, _, _, rfl, fun _ => ?_, fun h => by cases h⟩⟩
    simp only [Option.some.injEq, exists_eq_left', add_at, Nat.zero_add]
    refine ⟨_, _, _, B.blk.rd1 rfl, ?_⟩
    refine (shared_calls hq.rd hp.rd (by have := hs.1; omega)).mono ?_
    rintro _ w1 ⟨rfl, M1⟩
    have B1 := B.blk.mod' M1
    obtain ⟨sl1, sl2⟩ := shared_le q p
    refine ⟨_, rfl, fun w' => w' = w1 ∧ ¬ (shared q p = q.length ∧ shared q p = p.length), ⟨_, _, _, B1.rd1 rfl, fun e1 => ⟨fun e2 => ?_, fun e2 => ⟨rfl, fun h => e2 (by rw [h.2])⟩⟩, fun e1 => ⟨rfl, fun h => e1 (by rw [h.1])⟩⟩, ?_⟩
    · rintro d w2 ⟨rfl, rfl⟩
      have M := M1.step_alloc (.cells #[.slice o p.length k, .slice ox x.length kx] tLeaf)
      have s : Stp NoS w lab (w1.alloc (.cells #[.slice o p.length k, .slice ox x.length kx] tLeaf)) (ext lab w.heap.size c) := Stp.of_nob M _
      refine hR _ _ ⟨_, rfl, ?_⟩
      simp only [Trie.put]
      rw [if_pos ⟨by omega, by omega⟩]
      exact ⟨M, _, o, k, ox, kx, rfl, new_cb M1 _ _, hp.stp s (fun h => h), hk, hx.stp s (fun h => h)⟩
    · rintro _ w1 ⟨rfl, hne⟩
      rintro d w2 ⟨rfl, rfl⟩ _ rfl
      have hsz := M1.size
      generalize hD : w1.heap.size = D at *
      have M2 : Vcg.Mod NoB w (w1.alloc (.cells br0 tBranch)).drew := (M1.step_alloc _).step_drew
      have Br := BrAt.new w1 (mask lab c w.heap.size D) True
      rw [hD] at Br
      replace Br := Br.stp (Stp.drew NoS _ _) (fun h => h) (fun h => h)
      have hsz2 : (w1.alloc (.cells br0 tBranch)).drew.heap.size = D + 1 := by rw [size_drew, size_alloc, hD]
      have B2 := B.blk.mod' M2
      generalize (w1.alloc (.cells br0 tBranch)).drew = w2 at *
      have inL := mask_in (lab := lab) (c := c) (w := w) (Nat.le_refl _) hsz
      have s2 := Stp.same M2 (mask lab c w.heap.size D)
      have hqL := (CBy.re hq inL).stp s2 (fun h => h)
      have hyL := (CBy.re hy inL).stp s2 (fun h => h)
      refine ⟨_, _, _, B2.rd1 rfl, ⟨by omega, by omega⟩, _, _, _, B2.rd1 rfl, ?_⟩
      have hqd := hqL.sub (lo := shared q p) (n := q.length - shared q p) hqc
      rw [List.take_of_length_le (by rw [List.length_drop]; omega)] at hqd
      have hlay := lay_at (k := cq - shared q p) (kx := cy) Br mask_D hqd (by rw [List.length_drop]; omega) (Nib.drop hc.1 _) hyL
      rw [List.length_drop] at hlay
      simp only [Int.toNat_natCast]
      refine hlay.mono ?_
      rintro _ w3 ⟨rfl, M3, cs3, v3, e3, Br3⟩
      have M03 := mod_of M2 M3 hsz
      replace Br3 := BrAt.re Br3 (unext w3 (mask_hi (by omega) (by omega)))
      have s3 := Stp.same M03 (mask lab c w.heap.size D)
      have hpL := (CBy.re hp inL).stp s3 (fun h => h)
      have hxL := (CBy.re hx inL).stp s3 (fun h => h)
      refine ⟨rfl, ⟨by omega, by omega⟩, ?_⟩
      have hpd := hpL.sub (lo := shared q p) (n := p.length - shared q p) hk
      rw [List.take_of_length_le (by rw [List.length_drop]; omega)] at hpd
      have hlay := lay_at (k := k - shared q p) (kx := kx) Br3 mask_D hpd (by rw [List.length_drop]; omega) (Nib.drop hn _) hxL
      rw [List.length_drop] at hlay
      refine hlay.mono ?_
      rintro _ w4 ⟨rfl, M4, cs4, v4, e4, Br4⟩
      have M04 := mod_of M03 M4 hsz
      have hsz3 := M3.size
      replace Br4 := BrAt.re Br4 (unext w4 (mask_hi (by omega) (by omega)))
      have G := BrAt.grown (N := 0) Br4 M04 hsz
      have htl : (p.take (shared q p)).length = shared q p := by rw [List.length_take]; omega
      have hrow := Grown.rowed (k := k) (w2 := w4) G (by simp [plen]) (hp.take (shared q p)) (by omega) (by omega)
      rw [htl] at hrow
      refine ⟨rfl, ⟨by omega, by omega⟩, hrow.mono ?_⟩
      rintro _ w5 ⟨v5, rfl, G5⟩
      refine ⟨_, rfl, hR _ _ ⟨v5, rfl, ?_⟩⟩
      simp only [Trie.put]
      rw [if_neg hne, e3]
      simp only [lay2]
      rw [e4]
      exact G5
  | .row q m, C, w, lab, c, v, o, ox, k, kx, t, p, x, h, hc, hs, hp, hk, hpl, hn, hx, hxl => by
    have ih := @tput_calls m
    refine calls_gen fun R hR => trie_Trie_put.vc _ _ _ _ _ _ _ _ _ _ ?_
    unfold trie_Trie_put.Vc
    refine (seen_calls h t).mono ?_
    rintro _ w ⟨rfl, rfl⟩
    have h' := h
    obtain ⟨b, oq, cq, vm, rfl, B, hq, hqc, hm⟩ := h'
    refine ⟨_, _, rfl, fun h => (h rfl).elim, fun _ => ⟨_, ask_no und_pleaf zero_pleaf (by decide) _, _, _, rfl, fun h => (by cases h), fun _ => ⟨_, ask_yes und_prow _, _, _, rfl, fun _ => ?_, fun h => by cases h⟩⟩⟩
    simp only [Option.some.injEq, exists_eq_left', add_at, Nat.zero_add]
    refine ⟨_, _, _, B.blk.rd1 rfl, ?_⟩
    refine (shared_calls hq.rd hp.rd (by have := hs.1; omega)).mono ?_
    rintro _ w1 ⟨rfl, M1⟩
    have B1 := B.blk.mod' M1
    obtain ⟨sl1, sl2⟩ := shared_le q p
    refine ⟨_, rfl, _, _, _, B1.rd1 rfl, fun e1 => ?_, fun e1 => ?_⟩
    · rintro _ rfl
      have M2 := M1.step_drew
      have s2 : Stp NoS w lab w1.drew (ext lab w.heap.size c) := Stp.of_nob M2 c
      have B2 := B.blk.mod' M2
      refine ⟨_, B2.rd1 rfl, ⟨by omega, by omega⟩, ?_⟩
      have hp2 := hp.stp s2 (fun h => h)
      have hpd := hp2.sub (lo := shared q p) (n := p.length - shared q p) hk
      rw [List.take_of_length_le (by rw [List.length_drop]; omega)] at hpd
      have hput := ih (k := k - shared q p) (kx := kx) (t := t) (hm.stp s2 (fun h => h)) hc.2.2.2 hs.2 hpd (by rw [List.length_drop]; omega) (by rw [List.length_drop]; omega) (hn.drop _) (hx.stp s2 (fun h => h)) hxl
      rw [List.length_drop] at hput
      simp only [Int.toNat_natCast]
      refine hput.mono ?_
      rintro _ w3 ⟨v3, rfl, G3⟩
      have M3 := M2.trans G3.1 (fun _ _ h => h)
      have B3 := B.blk.mod' M3
      refine ⟨_, _, rfl, fun h => (h rfl).elim, fun _ => ⟨_, _, _, B3.rd1 rfl, G3.2.one, ?_⟩⟩
      rintro d w4 ⟨rfl, rfl⟩
      have M4 := M3.step_alloc (.cells #[.slice oq q.length cq, v3] tRow)
      have s4 : Stp NoS w lab (w3.alloc (.cells #[.slice oq q.length cq, v3] tRow)) (ext lab w.heap.size c) := Stp.of_nob M4 c
      refine hR _ _ ⟨_, rfl, M4, ?_⟩
      simp only [Trie.put]
      rw [if_pos (by omega)]
      have hg := (grown_of (s2.trans G3.stp) G3.2).2
      exact ⟨_, oq, cq, v3, rfl, new_cb M3 _ _, hq.stp s4 (fun h => h), hqc, hg.stp (Stp.same (Mod.alloc w3 _) (ext lab w.heap.size c)) (fun h => h)⟩
    · have hlt : shared q p < q.length := by omega
      rintro d w2 ⟨rfl, rfl⟩ _ rfl
      have hsz := M1.size
      generalize hD : w1.heap.size = D at *
      have M2 : Vcg.Mod NoB w (w1.alloc (.cells br0 tBranch)).drew := (M1.step_alloc _).step_drew
      have Br := BrAt.new w1 (mask lab c w.heap.size D) True
      rw [hD] at Br
      replace Br := Br.stp (Stp.drew NoS _ _) (fun h => h) (fun h => h)
      have hsz2 : (w1.alloc (.cells br0 tBranch)).drew.heap.size = D + 1 := by rw [size_drew, size_alloc, hD]
      have B2 := B.blk.mod' M2
      generalize (w1.alloc (.cells br0 tBranch)).drew = w2 at *
      have inL := mask_in (lab := lab) (c := c) (w := w) (Nat.le_refl _) hsz
      have s2 := Stp.same M2 (mask lab c w.heap.size D)
      have hqL := (CBy.re hq inL).stp s2 (fun h => h)
      have hmL := (NodeAt.re inL hm).stp s2 (fun h => h)
      obtain ⟨qb, qf, rfl, hqb, hqcell⟩ := rdb_get hqL.rd hlt
      have hnq : (q[shared q p]).toNat < 16 := hc.2.1 _ (List.getElem_mem _)
      have ew : IntKind.wrap .i64 ((shared q p : Int) + 1) = ((shared q p + 1 : Nat) : Int) := by have := hs.1; rw [wrap_i64_small (by omega) (by omega)]; omega
      rw [ew]
      simp only [Option.some.injEq, exists_eq_left', add_at, Int.toNat_natCast]
      refine ⟨_, _, _, B2.rd1 rfl, _, rfl, ⟨by omega, by omega⟩, _, by rw [add_at]; exact hqcell, _, _, _, B2.rd1 rfl, ⟨by omega, by omega⟩, _, B2.rd1 rfl, ?_⟩
      have hqd := hqL.sub (lo := shared q p + 1) (n := q.length - (shared q p + 1)) hqc
      rw [List.take_of_length_le (by rw [List.length_drop]; omega)] at hqd
      have hrow := rowed_calls (k := cq - (shared q p + 1)) hmL (plen_small hs.2) hqd (by rw [List.length_drop]; omega) (by rw [List.length_drop]; have := hs.1; omega)
      rw [List.length_drop] at hrow
      refine hrow.mono ?_
      rintro _ w3 ⟨v3, lab3, rfl, s3, hn3⟩
      have G3 := grown_of s3 hn3
      have M03 := M2.trans G3.1 (fun _ _ h => h)
      have hn3 := NodeAt.re (unext w3 (mask_hi (by omega) (by omega))) G3.2
      have Br3 := Br.stp (Stp.same G3.1 _) (fun h => h) (fun h => h)
      have hsz3 := G3.1.size
      refine ⟨_, rfl, by rw [add_at]; exact (cell_mod G3.1 hqb (fun h => h)).trans hqcell, (B2.mod' G3.1).rd1 rfl, ⟨by omega, by omega⟩, ?_⟩
      obtain ⟨hset, Br4⟩ := Br3.kid mask_D hnq hn3
      simp only [Int.toNat_natCast, Nat.zero_add]
      refine ⟨hset, ?_⟩
      rintro _ rfl
      have M4 : Vcg.Mod (· = D) w3 (w3.setCell ⟨D, (q[shared q p]).toNat, none⟩ v3) := Mod.setCell w3 ⟨D, _, none⟩ _
      have M04 := mod_of M03 M4 hsz
      have hsz4 := M4.size
      generalize w3.setCell ⟨D, (q[shared q p]).toNat, none⟩ v3 = w4 at *
      have s4 := Stp.same M04 (mask lab c w.heap.size D)
      have hpL := (CBy.re hp inL).stp s4 (fun h => h)
      have hxL := (CBy.re hx inL).stp s4 (fun h => h)
      refine ⟨⟨by omega, by omega⟩, ?_⟩
      have hpd := hpL.sub (lo := shared q p) (n := p.length - shared q p) hk
      rw [List.take_of_length_le (by rw [List.length_drop]; omega)] at hpd
      have hlay := lay_at (k := k - shared q p) (kx := kx) Br4 mask_D hpd (by rw [List.length_drop]; omega) (Nib.drop hn _) hxL
      rw [List.length_drop] at hlay
      refine hlay.mono ?_
      rintro _ w5 ⟨rfl, M5, cs5, v5, e5, Br5⟩
      have M05 := mod_of M04 M5 hsz
      replace Br5 := BrAt.re Br5 (unext w5 (mask_hi (by omega) (by omega)))
      have G := BrAt.grown (N := 0) Br5 M05 hsz
      have eu : (fun i : Fin 16 => if i.val = (q[shared q p]).toNat then rowed (q.drop (shared q p + 1)) m else none16 i) = upd none16 (q[shared q p]) (rowed (q.drop (shared q p + 1)) m) := rfl
      rw [eu] at e5
      have htl : (p.take (shared q p)).length = shared q p := by rw [List.length_take]; omega
      have hrow := Grown.rowed (k := k) (w2 := w5) G (by simp [plen]) (hp.take (shared q p)) (by omega) (by omega)
      rw [htl] at hrow
      refine ⟨rfl, ⟨by omega, by omega⟩, hrow.mono ?_⟩
      rintro _ w6 ⟨v6, rfl, G6⟩
      refine ⟨_, rfl, hR _ _ ⟨v6, rfl, ?_⟩⟩
      simp only [Trie.put]
      rw [if_neg (by omega), List.getD_eq_getElem?_getD, List.getElem?_eq_getElem hlt]
      simp only [Option.getD_some]
      rw [e5]
      exact G6
  | .branch cs y, C, w, lab, c, v, o, ox, k, kx, t, p, x, h, hc, hs, hp, hk, hpl, hn, hx, hxl => by
    have ih := fun i => @tput_calls (cs i)
    refine calls_gen fun R hR => trie_Trie_put.vc _ _ _ _ _ _ _ _ _ _ ?_
    unfold trie_Trie_put.Vc
    refine (seen_calls h t).mono ?_
    rintro _ w ⟨rfl, rfl⟩
    have h' := h
    obtain ⟨b, vs, oy, cy, rfl, B, hy, hkids⟩ := h'
    refine ⟨_, _, rfl, fun h => (h rfl).elim, fun _ => ⟨_, ask_no und_pleaf zero_pleaf (by decide) _, _, _, rfl, fun h => (by cases h), fun _ => ⟨_, ask_no und_prow zero_prow (by decide) _, _, _, rfl, fun h => (by cases h), fun _ => ⟨_, ask_yes und_pbranch _, _, _, rfl, fun _ => ?_, fun h => by cases h⟩⟩⟩⟩
    simp only [Option.some.injEq, exists_eq_left', add_at, Nat.zero_add]
    refine ⟨_, B.blk.rowAll (brA_size _ _ _ _), ?_⟩
    rintro d w1 ⟨rfl, rfl⟩
    have D1 := Blk.new w tBranch br0
    have M1 := Mod.alloc (S := NoB) w (.cells br0 tBranch)
    have hst := D1.storeAll (P := Try.prog) (ty := tBranch) (L := brA vs oy y.length cy) (by rw [brA_size]; exact info_branch) (by rw [brA_size]; rfl) (node_brA_one hkids)
    refine ⟨_, hst, ?_⟩
    have D2 := D1.row_same (brA vs oy y.length cy)
    have M2 : Vcg.Mod NoB w ((w.alloc (.cells br0 tBranch)).setRow w.heap.size (brA vs oy y.length cy)) := M1.step_row (fun h => (Nat.lt_irrefl _ h).elim)
    have hsz2 : ((w.alloc (.cells br0 tBranch)).setRow w.heap.size (brA vs oy y.length cy)).heap.size = w.heap.size + 1 := by rw [size_setRow, size_alloc]
    have inL := mask_in (lab := lab) (c := c) (w := w) (Nat.le_refl _) (Nat.le_refl w.heap.size)
    have hD0 : w.heap.size ≤ w.heap.size := Nat.le_refl _
    generalize (w.alloc (.cells br0 tBranch)).setRow w.heap.size (brA vs oy y.length cy) = w2 at *
    have s2 := Stp.same M2 (mask lab c w.heap.size w.heap.size)
    have Br : BrAt w2 (mask lab c w.heap.size w.heap.size) True w.heap.size cs y := ⟨⟨vs, oy, cy, D2, (CBy.re hy inL).stp s2 (fun h => h), fun i => (NodeAt.re inL (hkids i)).stp s2 (fun h => h)⟩⟩
    have hpL := (CBy.re hp inL).stp s2 (fun h => h)
    have hxL := (CBy.re hx inL).stp s2 (fun h => h)
    refine ⟨fun h0 => ?_, fun h0 => ?_⟩
    · have hp0 : p = [] := List.eq_nil_of_length_eq_zero (by omega)
      subst hp0
      obtain ⟨hset, Br3⟩ := Br.val (k := kx) mask_D hxL
      refine ⟨hset, ?_⟩
      rintro _ rfl
      have M3 := mod_of M2 (Mod.setCell w2 ⟨w.heap.size, 16, none⟩ (.slice ox x.length kx)) hD0
      exact hR _ _ ⟨_, rfl, by simp only [Trie.put]; exact BrAt.grown (N := 0) Br3 M3 hD0⟩
    · rintro _ rfl
      cases p with
      | nil => simp at h0
      | cons a r =>
        have ha : a.toNat < 16 := hn a (by simp)
        have MD := Mod.drew (S := NoB) w2
        have s3 := Stp.same MD (mask lab c w.heap.size w.heap.size)
        replace Br := Br.stp s3 (fun h => h) (fun h => h)
        replace hpL := hpL.stp s3 (fun h => h)
        replace hxL := hxL.stp s3 (fun h => h)
        have M3 := M2.trans MD (fun _ _ h => h)
        have B3 := B.blk.mod' M3
        have hsz3 : w2.drew.heap.size = w.heap.size + 1 := hsz2
        generalize w2.drew = w3 at *
        obtain ⟨pb, pf, rfl, hpb, hpc⟩ := rdb_get hpL.rd (i := 0) (by simp)
        simp only [List.getElem_cons_zero, Nat.add_zero] at hpc
        simp only [Option.some.injEq, exists_eq_left', add_at, Nat.add_zero]
        have hkid := (NodeAt.re inL (hkids ⟨a.toNat, ha⟩)).stp (Stp.same M3 _) (fun h => h)
        refine ⟨by simp, _, hpc, by omega, vs ⟨a.toNat, ha⟩, by rw [Int.toNat_natCast]; exact B3.rd1 (brA_at vs oy y.length cy ⟨a.toNat, ha⟩), by simp, ?_⟩
        have hpr := hpL.sub (lo := 1) (n := r.length) hk
        simp only [List.drop_succ_cons, List.drop_zero, List.take_length] at hpr
        refine (ih ⟨a.toNat, ha⟩ (t := t) (k := k - 1) (kx := kx) hkid (hc.1 _) (hs.2 _) hpr (by simp at hk ⊢; omega) (by simp at hpl ⊢; omega) (fun z hz => hn z (by simp [hz])) hxL hxl).mono ?_
        rintro _ w4 ⟨v4, rfl, G4⟩
        have Br4 := Br.stp (Stp.same G4.1 _) (fun h => h) (fun h => h)
        have hn4 := NodeAt.re (unext w4 (mask_hi (by omega) (by omega))) G4.2
        have hpc4 := (cell_mod G4.1 hpb (fun h => h)).trans hpc
        obtain ⟨hset, Br5⟩ := Br4.kid mask_D ha hn4
        refine ⟨_, _, rfl, fun h => (h rfl).elim, fun _ => ⟨by simp, _, hpc4, by omega, ?_⟩⟩
        simp only [Int.toNat_natCast, Nat.zero_add]
        refine ⟨hset, ?_⟩
        rintro _ rfl
        have M5 := mod_of (M3.trans G4.1 (fun _ _ h => h)) (Mod.setCell w4 ⟨w.heap.size, a.toNat, none⟩ v4) hD0
        refine hR _ _ ⟨_, rfl, ?_⟩
        rw [put_branch_cons cs y a r x ha]
        exact BrAt.grown (N := 0) Br5 M5 hD0
end Go.Proofs.Ytfghidehlnfdiaa
end
