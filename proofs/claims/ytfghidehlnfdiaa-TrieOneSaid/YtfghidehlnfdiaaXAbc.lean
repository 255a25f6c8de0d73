/- Contracts of the reference: made, Of. -/
/- Contracts of the reference: Put, Find; the plain map. -/
/- Contracts: Find, Nodes, things held against one another. -/
/- The hash of 'abc', round by round. -/
import Derived.Test.YtfghidehlnfdiaaTR8
import Derived.Test.YtfghidehlnfdiaaXOwn
section
set_option linter.unusedVariables false
set_option linter.unusedSimpArgs false
namespace Go.Proofs.Ytfghidehlnfdiaa
open Go Go.Vcg Go.Trie
theorem und_slSl : Try.prog.underlying 31 = some (.slice tSlU8) := by kernel_rfl
theorem info_slU8 : (Try.prog.info? tSlU8).map (fun i => (i.zero, i.size, i.bytes)) = some (some (.slice none 0 0), 1, 24) := by kernel_rfl
section
variable {C C' : Type} {S : C → Prop} {w w' : World} {lab : Nat → C} {lab' : Nat → C'} {lab2 : Nat → C} {c : C} {c' : C'}
/-- Keys with values, that can be read. -/
def KvRow (w : World) (lab : Nat → C) (c : C) (o : Option Addr) (m : List (By × By)) : Prop :=
  ∀ (j : Nat) (hj : j < m.length), ∃ b f ok kk ov kv, o = some ⟨b, f, none⟩ ∧ b < w.heap.size ∧ lab b = c ∧ w.cell? ⟨b, f + j * 2, none⟩ = some (.slice ok m[j].1.length kk) ∧ CBy w lab c ok m[j].1 ∧ w.cell? ⟨b, f + (j * 2 + 1), none⟩ = some (.slice ov m[j].2.length kv) ∧ CBy w lab c ov m[j].2
theorem KvRow.nil (w : World) (lab : Nat → C) (c : C) (o : Option Addr) : KvRow w lab c o [] := fun j hj => absurd hj (by simp)
theorem KvRow.stp {o : Option Addr} {m : List (By × By)} (h : KvRow w lab c o m) (s : Stp S w lab w' lab2) (hs : ¬ S c) : KvRow w' lab2 c o m := fun j hj => by
  obtain ⟨b, f, ok, kk, ov, kv, e1, e2, e3, e4, e5, e6, e7⟩ := h j hj
  exact ⟨b, f, ok, kk, ov, kv, e1, Nat.lt_of_lt_of_le e2 s.size, (s.lab b e2).trans e3, (World.cell?_of_block (s.block b e2 (by rw [e3]; exact hs))).trans e4, e5.stp s hs, (World.cell?_of_block (s.block b e2 (by rw [e3]; exact hs))).trans e6, e7.stp s hs⟩
theorem KvRow.re {o : Option Addr} {m : List (By × By)} (h : KvRow w lab c o m) (hl : ∀ k, k < w.heap.size → lab k = c → lab' k = c') : KvRow w lab' c' o m := fun j hj => by
  obtain ⟨b, f, ok, kk, ov, kv, e1, e2, e3, e4, e5, e6, e7⟩ := h j hj
  exact ⟨b, f, ok, kk, ov, kv, e1, e2, hl b e2 e3, e4, CBy.re e5 hl, e6, CBy.re e7 hl⟩
/-- The labels at a build. -/
noncomputable def labB (lab : Nat → C) (c : C) (N d : Nat) : Nat → Nat := fun k => if k < N then (@ite Nat (lab k = c) (Classical.propDecidable _) 6 0) else if k = d then 1 else if k = N then 2 else 5
theorem labB_old {N d k : Nat} (h : k < N) : labB lab c N d k = 6 ∨ labB lab c N d k = 0 := by
  unfold labB
  rw [if_pos h]
  split
  · exact .inl rfl
  · exact .inr rfl
theorem labB_in {N d k : Nat} (h : k < N) (hc : lab k = c) : labB lab c N d k = 6 := by
  unfold labB
  rw [if_pos h, if_pos hc]
/-- Entries by their paths. -/
def pathsOf (m : List (By × By)) : List (By × By) := m.map fun e => (nibbles e.1, e.2)
theorem seg_all (es : List (By × By)) : seg es 0 es.length 0 = es := by
  unfold seg
  rw [List.drop_zero, Nat.sub_zero, List.take_length]
  have : (fun e : By × By => (e.1.drop 0, e.2)) = id := by funext e; simp
  rw [this, List.map_id]
/-- A map within bounds. -/
structure KvOk (m : List (By × By)) : Prop where
  len : m.length ≤ 2 ^ 20
  keys : ∀ e ∈ m, e.1.length ≤ 64
  vals : ∀ e ∈ m, e.2.length ≤ 1024
theorem made_calls {o : Option Addr} {k : Nat} {m : List (By × By)} {n : Nd} (h : KvRow w lab c o m) (hm : KvOk m) (hr : Rep (pathsOf m) n) (hc : Canon n) (hs : Small n) (hcn : cnt n ≤ 2 ^ 19) (cr : C) :
    Calls Try.prog moraineref14_made.n #[.slice o m.length k, .bool false] w (fun e w' => ∃ o' k', e = .returned (.tuple #[.agg (hashA (rootOf n)), .slice o' (nodesOf n).length k']) ∧ Vcg.Mod NoB w w' ∧ NdRow w' (ext lab w.heap.size cr) cr (nodesOf n) o' (nodesOf n).length) := by
  refine calls_gen fun R hR => moraineref14_made.vc _ _ _ _ _ _ ?_
  unfold moraineref14_made.Vc
  have hml := hm.len
  rintro d2 w1 ⟨rfl, rfl⟩
  have M1 := Mod.alloc (S := NoB) w (.cells (Array.replicate 32 (.int .u8 0)) 26)
  have H1 := Blk.new w 26 (Array.replicate 32 (.int .u8 0))
  have z1 := size_alloc w (.cells (Array.replicate 32 (.int .u8 0)) 26)
  generalize w.alloc (.cells (Array.replicate 32 (.int .u8 0)) 26) = w1 at *
  generalize hN : w.heap.size = N at *
  refine ⟨fun h0 => ?_, fun h0 => ?_⟩
  · obtain rfl : m = [] := List.eq_nil_of_length_eq_zero (by omega)
    have hnil := hr.nil_inv hc
    subst hnil
    refine (rEmpty_calls w1).mono ?_
    rintro _ w2 ⟨rfl, M2⟩
    obtain ⟨h1, h2, h3⟩ := hash_store (H1.mod' M2) (by simp) emptyH
    refine ⟨_, rfl, _, h1, _, h2.rowAll (size_hashA _), hR _ _ ⟨none, 0, ?_, mod_of (M1.trans M2 (fun _ _ h => h)) h3 (by omega), NdRow.nil _ _ _ _⟩⟩
    rw [Trie.rootOf, bytes_nil]; rfl
  rintro d9 w2 ⟨rfl, rfl⟩
  rw [z1]
  have M2 := Mod.alloc (S := NoB) w1 (.cells #[.slice o m.length k, .slice none 0 0, .slice none 0 0, .bool false] 186)
  have D2 := Blk.new w1 186 #[.slice o m.length k, .slice none 0 0, .slice none 0 0, .bool false]
  have z2 := size_alloc w1 (.cells #[.slice o m.length k, .slice none 0 0, .slice none 0 0, .bool false] 186)
  rw [z1] at D2 z2
  have H2 := H1.mod' M2
  have M02 := M1.trans M2 (fun _ _ h => h)
  generalize w1.alloc (.cells #[.slice o m.length k, .slice none 0 0, .slice none 0 0, .bool false] 186) = w2 at *
  have lD : labB lab c N (N + 1) (N + 1) = 1 := by unfold labB; rw [if_neg (by omega), if_pos rfl]
  have lH : labB lab c N (N + 1) N = 2 := by unfold labB; rw [if_neg (by omega), if_neg (by omega), if_pos rfl]
  have hkv : KvRow w2 (labB lab c N (N + 1)) 6 o m := (KvRow.re h (fun k hk hc => labB_in (by omega) hc)).stp (Stp.same M02 (labB lab c N (N + 1))) (fun h => h)
  have D2c : CB w2 (labB lab c N (N + 1)) 1 (N + 1) tBuild #[.slice o m.length k, .slice none 0 0, .slice none 0 0, .bool false] := ⟨D2, lD⟩
  have H2c : CB w2 (labB lab c N (N + 1)) 2 N tHash (Array.replicate 32 (.int .u8 0)) := ⟨H2, lH⟩
  have hold : ∀ k, k < N → labB lab c N (N + 1) k = 6 ∨ labB lab c N (N + 1) k = 0 := fun k hk => labB_old hk
  generalize labB lab c N (N + 1) = L2 at *
  let P : Nat → By := fun j => nibbles ((m[j]?.getD ([], [])).1)
  refine ⟨fun i w' => ∃ (j : Nat) (L : Nat → Nat) (op : Option Addr) (cp : Nat) (vs : List Value), i = (j : Int) ∧ j ≤ m.length ∧ Stp (fun k => k = 1 ∨ k = 7) w2 L2 w' L ∧
      CB w' L 1 (N + 1) tBuild #[.slice o m.length k, .slice op j cp, .slice none 0 0, .bool false] ∧ COw w' L 7 tSlU8 1 op j cp vs ∧ ∀ i, i < j → ∃ o k, vs[i]? = some (.slice o (P i).length k) ∧ (P i).length ≤ k ∧ CBy w' L 5 o (P i),
    fun i _ => ((m.length : Int) - i).toNat, ⟨0, L2, none, 0, [], rfl, Nat.zero_le _, Stp.refl _ _ _, D2c, COw.nil _ _ _ _ _, fun i hi => absurd hi (by omega)⟩, ?_⟩
  rintro _ _ w3 ⟨j, L3, op, cp, vs, rfl, hj, s3, D3, O3, hvs⟩
  have hkv3 := hkv.stp s3 (by decide)
  refine ⟨fun hlt => ?_, fun hge => ?_⟩
  · have hjl : j < m.length := by omega
    rintro _ rfl
    have sD : Stp NoS w3 L3 w3.drew L3 := Stp.drew _ _ _
    have hkv4 := hkv3.stp sD (fun h => h)
    have D4 := D3.stp sD (fun h => h)
    have O4 := O3.stp sD (fun h => h)
    have hvs4 : ∀ i, i < j → ∃ o k, vs[i]? = some (.slice o (P i).length k) ∧ (P i).length ≤ k ∧ CBy w3.drew L3 5 o (P i) := fun i hi => by obtain ⟨o, k, a, b, c⟩ := hvs i hi; exact ⟨o, k, a, b, c.stp sD (fun h => h)⟩
    have s4 := s3.trans (sD.mono (T := fun k => k = 1 ∨ k = 7) (fun _ h => h.elim))
    generalize w3.drew = w4 at *
    obtain ⟨b, f, ok, kk, ov, kv, rfl, e2, e3, e4, e5, e6, e7⟩ := hkv4 j hjl
    have hkl := hm.keys _ (List.getElem_mem hjl)
    simp only [add_at, Nat.zero_add, Int.toNat_natCast]
    refine ⟨_, _, _, D4.blk.rd1 rfl, _, rfl, ⟨by omega, by omega⟩, _, _, _, by rw [add_at]; exact e4, ?_⟩
    refine (rNibbles_calls e5.rd (by omega)).mono ?_
    rintro _ w5 ⟨o5, k5, rfl, F5⟩
    refine ⟨_, _, _, rfl, (D4.blk.mod' F5.mod).rd1 rfl, ?_⟩
    rintro d w6 ⟨rfl, rfl⟩
    have M6 := Mod.alloc (S := NoB) w5 (.cells #[.slice o5 (nibbles m[j].1).length k5] 22)
    have N6 := Blk.new w5 22 #[.slice o5 (nibbles m[j].1).length k5]
    have M46 := F5.mod.trans M6 (fun _ _ h => h)
    have s6 : Stp NoS w4 L3 (w5.alloc (.cells #[.slice o5 (nibbles m[j].1).length k5] 22)) (ext L3 w4.heap.size 5) := Stp.of_nob M46 5
    have b6 : CBy (w5.alloc (.cells #[.slice o5 (nibbles m[j].1).length k5] 22)) (ext L3 w4.heap.size 5) 5 o5 (nibbles m[j].1) := fresh_cby F5 M6
    generalize w5.alloc (.cells #[.slice o5 (nibbles m[j].1).length k5] 22) = w6 at *
    have D6 := D4.stp s6 (fun h => h)
    have O6 := O4.stp s6 (fun h => h)
    have hvs6 : ∀ i, i < j → ∃ o k, vs[i]? = some (.slice o (P i).length k) ∧ (P i).length ≤ k ∧ CBy w6 (ext L3 w4.heap.size 5) 5 o (P i) := fun i hi => by obtain ⟨o, k, a, b, c⟩ := hvs4 i hi; exact ⟨o, k, a, b, c.stp s6 (fun h => h)⟩
    generalize ext L3 w4.heap.size 5 = L6 at *
    obtain ⟨i, hi, hz, hsz, hb⟩ := info_of info_slU8
    obtain ⟨o7, k7, w7, hr7, O7, s7⟩ := COw.append (ty := 31) und_slSl hi hz hsz rfl O6 (src_one und_slSl N6 rfl (by simp [Value.oneCell'])) (by simp only [maxLen]; omega) (by rw [hb]; omega)
    have D7 := D6.stp s7 (by decide)
    have b7 := b6.stp s7 (by decide)
    have hvs7 : ∀ i, i < j → ∃ o k, vs[i]? = some (.slice o (P i).length k) ∧ (P i).length ≤ k ∧ CBy w7 (ext L6 w6.heap.size 7) 5 o (P i) := fun i hi => by obtain ⟨o, k, a, b, c⟩ := hvs6 i hi; exact ⟨o, k, a, b, c.stp s7 (by decide)⟩
    generalize ext L6 w6.heap.size 7 = L7 at *
    refine ⟨D6.blk.rd1 rfl, _, w7, hr7, _, _, _, rfl, D7.blk.canSet (by simp) rfl, ?_⟩
    rintro _ rfl
    have s8 : Stp (fun k => k = 1) w7 L7 (w7.setCell ⟨N + 1, 1, none⟩ (.slice o7 (j + 1) k7)) L7 := Stp.setCell D7.clr
    have hPj : P j = nibbles m[j].1 := by simp only [P]; rw [List.getElem?_eq_getElem hjl]; rfl
    have hvl : vs.length = j := O6.own.len
    refine ⟨⟨j + 1, L7, o7, k7, vs ++ [.slice o5 (nibbles m[j].1).length k5], by rw [wrap_i64_small (by omega) (by omega)]; omega, hjl, ((s4.trans (s6.mono (fun _ h => h.elim))).trans (s7.mono (fun _ h => .inr h))).trans (s8.mono (fun _ h => .inl h)), D7.set 1 _, O7.stp s8 (by decide), fun i hi => ?_⟩, by rw [wrap_i64_small (by omega) (by omega)]; omega⟩
    by_cases hij : i < j
    · obtain ⟨o, k, a, b, c⟩ := hvs7 i hij
      exact ⟨o, k, by rw [List.getElem?_append_left (by omega)]; exact a, b, c.stp s8 (by decide)⟩
    · obtain rfl : i = j := by omega
      refine ⟨o5, k5, by rw [List.getElem?_append_right (by omega), hvl, Nat.sub_self, hPj]; rfl, by rw [hPj]; exact F5.own.cap.1, by rw [hPj]; exact b7.stp s8 (by decide)⟩
  · obtain rfl : j = m.length := by omega
    have hpl : (pathsOf m).length = m.length := by simp [pathsOf]
    have hget : ∀ (i : Nat) (hi : i < (pathsOf m).length), (pathsOf m)[i] = (nibbles (m[i]'(by omega)).1, (m[i]'(by omega)).2) := fun i hi => by simp [pathsOf]
    have hBS : BS w3 L3 (N + 1) (pathsOf m) [] := by
      refine ⟨⟨o, k, op, cp, none, 0, 0, by rw [hpl]; exact D3, fun i hi => ?_, fun i hi => ?_, RnOwn.nil _ _ _ _⟩⟩
      · obtain ⟨b, f, ok, kk, ov, kv, e1, e2, e3, e4, e5, e6, e7⟩ := hkv3 i (by omega)
        rw [hget i hi]
        exact ⟨b, f, ov, kv, e1, e2, e3, e6, e7⟩
      · obtain ⟨o', k', a, b, d⟩ := hvs i (by omega)
        obtain ⟨g, f, ho, hg, hl, hcell⟩ := O3.row i _ a
        rw [hget i hi]
        have hPi : P i = nibbles (m[i]'(by omega)).1 := by simp only [P]; rw [List.getElem?_eq_getElem (by omega)]; rfl
        rw [← hPi]
        exact ⟨g, f, o', k', ho, hg, hl, hcell, b, d⟩
    have hEs : EsOk (pathsOf m) := by
      refine ⟨by omega, fun e he => ?_, fun e he => ?_⟩
      · obtain ⟨x, hx, rfl⟩ := List.mem_map.1 he
        have := hm.keys x hx
        show (nibbles x.1).length ≤ 128
        rw [nibbles_len]; omega
      · obtain ⟨x, hx, rfl⟩ := List.mem_map.1 he
        exact hm.vals x hx
    have hne : n ≠ .nil := hr.ne (by intro e; have := congrArg List.length e; simp at this; rw [this] at hpl; simp at hpl; omega)
    have hok : Okseg (pathsOf m) 0 m.length 0 := ⟨by omega, by omega, fun _ _ _ _ => Nat.zero_le _⟩
    have hrep : Rep (seg (pathsOf m) 0 m.length 0) n := by
      have := seg_all (pathsOf m)
      rw [hpl] at this
      rw [this]; exact hr
    have hbl := bytes_le hs
    have hkl := kids_len (n := n) []
    simp only [List.length_nil, Nat.zero_add] at hkl
    refine ((items_B n hc hs hne).1 hBS hEs hok hrep (by simp; omega)).mono ?_
    rintro _ w4 ⟨o4, k4, rfl, L4, s4, B4, x4⟩
    refine ⟨_, _, _, rfl, ?_⟩
    refine (refSum_calls (bytesOf n) rfl (by omega) x4.rd).mono ?_
    rintro _ w5 ⟨rfl, M5⟩
    refine ⟨_, rfl, ?_⟩
    rintro d w6 ⟨rfl, rfl⟩
    have N6 := Blk.new w5 26 (Array.replicate 32 (.int .u8 0))
    obtain ⟨h1, h2, h3⟩ := hash_store N6 (by simp) (sumOf (bytesOf n))
    have M6 := mod_of (M5.step_alloc (.cells (Array.replicate 32 (.int .u8 0)) 26)) h3 M5.size
    refine ⟨_, h1, _, h2.rowAll (size_hashA _), ?_⟩
    have hge := M5.size
    generalize w5.heap.size = D at *
    generalize ((w5.alloc (.cells (Array.replicate 32 (.int .u8 0)) 26)).setRow D (hashA (sumOf (bytesOf n)))) = w6 at *
    have B6 := B4.mod' M6 5
    have s6 : Stp NoS w4 L4 w6 (ext L4 w4.heap.size 5) := Stp.of_nob M6 5
    have x6 := x4.stp s6 (fun h => h)
    have D6 : CB w6 (ext L4 w4.heap.size 5) 5 D tHash (hashA (sumOf (bytesOf n))) := ⟨h2, ext_new hge⟩
    generalize ext L4 w4.heap.size 5 = L6 at *
    refine (node_calls (k := k4) B6 x6 (length_sumOf _) (by omega)).mono ?_
    rintro _ w7 ⟨rfl, L7, s7, _, B7⟩
    have D7 := D6.stp s7 (by decide)
    have enodes : (if met (kidsN n []) (sumOf (bytesOf n)) then kidsN n [] else kidsN n [] ++ [(sumOf (bytesOf n), bytesOf n)]) = nodesOf n := by
      unfold nodesOf
      rw [visit_kids hne]
      unfold putNode
      simp
    rw [enodes] at B7
    refine ⟨rfl, ?_⟩
    rintro _ rfl
    have sD : Stp NoS w7 L7 w7.drew L7 := Stp.drew _ _ _
    have D8 := D7.stp sD (fun h => h)
    have B8 := B7.stp sD (fun h => h) (fun h => h) (fun h => h) (fun h => h) (fun h => h)
    generalize w7.drew = w8 at *
    have sAll : Stp (fun k => k = 1 ∨ k = 4 ∨ k = 7 ∨ 8 ≤ k) w2 L2 w8 L7 := by
      refine ((((s3.mono ?_).trans (s4.mono ?_)).trans (s6.mono ?_)).trans (s7.mono ?_)).trans (sD.mono ?_)
      · rintro k (h | h)
        · exact .inl h
        · exact .inr (.inr (.inl h))
      · rintro k (h | h | h)
        · exact .inl h
        · exact .inr (.inl h)
        · exact .inr (.inr (.inr (by omega)))
      · exact fun _ h => h.elim
      · rintro k (h | h)
        · exact .inl h
        · exact .inr (.inl h)
      · exact fun _ h => h.elim
    obtain ⟨ol, cl, op', cp', on, nn, kn, c1, c2, c3, c4⟩ := B8.ex
    have H8 := H2c.stp sAll (by decide)
    obtain ⟨g1, g2, g3⟩ := hash_store H8.blk (by simp) (sumOf (bytesOf n))
    have hNne : N + 1 ≠ N := by omega
    have c9 : Blk (w8.setRow N (hashA (sumOf (bytesOf n)))) (N + 1) _ _ := c1.blk.row_ne hNne
    simp only [add_at, Nat.zero_add]
    refine ⟨_, D8.blk.rowAll (size_hashA _), _, _, _, c1.blk.rd1 rfl, _, g1, c9.rd1 rfl, _, g2.rowAll (size_hashA _), ?_⟩
    have hlt8 : ∀ k, k < N → k < w2.heap.size := fun k hk => by omega
    have M28 : Vcg.Mod NoB w w8 := M02.trans (sAll.mod (Q := fun k => N ≤ k) (fun k hk hs => Nat.not_lt.1 fun hlt => by
      rcases hold k hlt with h | h <;> rw [h] at hs <;> rcases hs with hs | hs | hs | hs <;> omega)) (fun i hi hq => by omega)
    have s9 : Stp (fun k => k = 2) w8 L7 (w8.setRow N (hashA (sumOf (bytesOf n)))) L7 := ⟨g3.os, g3.tape, g3.output, g3.size, fun _ _ => rfl, fun k hk hn => g3.block k hk (fun e => hn (by subst e; exact H8.clr))⟩
    obtain ⟨rfl, vs', O8, C8⟩ := c4
    have M9 := mod_of M28 g3 (by omega)
    have O9 := O8.stp s9 (by decide)
    have C9 := C8.stp s9 (by decide)
    have hz9 : (w8.setRow N (hashA (sumOf (bytesOf n)))).heap.size = w8.heap.size := size_setRow _ _ _
    have hre : ∀ q, q = 4 ∨ q = 5 → ∀ k, k < (w8.setRow N (hashA (sumOf (bytesOf n)))).heap.size → L7 k = q → ext lab N cr k = cr := fun q hq k hk he => by
      by_cases hlt : k < N
      · rw [sAll.lab k (by omega)] at he
        rcases hold k hlt with h | h <;> rw [h] at he <;> omega
      · exact ext_new (by omega)
    exact hR _ _ ⟨on, kn, rfl, M9, rfl, vs', COw.row (COw.re O9 (hre 4 (.inl rfl))), NdCells.re C9 (hre 5 (.inr rfl))⟩
theorem NdRow.re {o : Option Addr} {l : List (By × By)} {n : Nat} (h : NdRow w lab c l o n) (hl : ∀ k, k < w.heap.size → lab k = c → lab' k = c') : NdRow w lab' c' l o n := by
  obtain ⟨h1, vs, h2, h3⟩ := h
  refine ⟨h1, vs, fun j v hv => ?_, NdCells.re h3 hl⟩
  obtain ⟨b, f, ho, hb, hc, hcell⟩ := h2 j v hv
  exact ⟨b, f, ho, hb, hl b hb hc, hcell⟩
theorem Of_calls {o : Option Addr} {k : Nat} {m : List (By × By)} {n : Nd} (h : KvRow w lab c o m) (hm : KvOk m) (hr : Rep (pathsOf m) n) (hc : Canon n) (hs : Small n) (hcn : cnt n ≤ 2 ^ 19) (cr : C) :
    Calls Try.prog moraineref14_Of.n #[.slice o m.length k] w (fun e w' => ∃ o' k', e = .returned (.tuple #[.agg (hashA (rootOf n)), .slice o' (nodesOf n).length k']) ∧ Vcg.Mod NoB w w' ∧ NdRow w' (ext lab w.heap.size cr) cr (nodesOf n) o' (nodesOf n).length) := by
  refine moraineref14_Of.vc _ _ _ _ _ ?_
  unfold moraineref14_Of.Vc
  rintro d1 w1 ⟨rfl, rfl⟩
  have M1 := Mod.alloc (S := NoB) w (.cells (Array.replicate 32 (.int .u8 0)) 26)
  have H1 := Blk.new w 26 (Array.replicate 32 (.int .u8 0))
  have z1 := size_alloc w (.cells (Array.replicate 32 (.int .u8 0)) 26)
  have h0 : KvRow w (fun k => if k < w.heap.size then some (lab k) else none) (some c) o m := KvRow.re h (fun k hk hc => by rw [if_pos hk, hc])
  have h1 := h0.stp (S := fun _ => False) (Stp.same M1 _) (fun h => h)
  generalize w.alloc (.cells (Array.replicate 32 (.int .u8 0)) 26) = w1 at *
  refine (made_calls h1 hm hr hc hs hcn (some cr)).mono ?_
  rintro _ w2 ⟨o2, k2, rfl, M2, N2⟩
  have H2 := H1.mod' M2
  obtain ⟨g1, g2, g3⟩ := hash_store H2 (by simp) (rootOf n)
  have hlab : ext (fun k => if k < w.heap.size then some (lab k) else none) w1.heap.size (some cr) w.heap.size = none := by
    rw [ext_old (by omega), if_neg (by omega)]
  have s3 : Stp (fun z => z = none) w2 (ext (fun k => if k < w.heap.size then some (lab k) else none) w1.heap.size (some cr)) (w2.setRow w.heap.size (hashA (rootOf n))) (ext (fun k => if k < w.heap.size then some (lab k) else none) w1.heap.size (some cr)) :=
    ⟨g3.os, g3.tape, g3.output, g3.size, fun _ _ => rfl, fun k hk hn => g3.block k hk (fun e => hn (by subst e; exact hlab))⟩
  refine ⟨_, _, _, _, rfl, _, g1, _, g2.rowAll (size_hashA _), o2, k2, rfl, mod_of (M1.trans M2 (fun _ _ h => h)) g3 (Nat.le_refl _), NdRow.re (N2.stp s3 (by simp)) (fun k hk he => ?_)⟩
  by_cases hlt : k < w.heap.size
  · rw [ext_old (by omega)] at he
    rw [if_pos hlt] at he
    rw [ext_old hlt]
    exact Option.some.inj he
  · exact ext_new (by omega)
end
end Go.Proofs.Ytfghidehlnfdiaa
end

section
set_option linter.unusedVariables false
set_option linter.unusedSimpArgs false
namespace Go.Trie
/-- A map, sorted by keys: put, or taken out (an empty value). -/
def putM : List (By × By) → By → By → List (By × By)
  | [], k, v => if v = [] then [] else [(k, v)]
  | x :: r, k, v => if cmpB x.1 k < 0 then x :: putM r k v else (if v = [] then [] else [(k, v)]) ++ (if x.1 = k then r else x :: r)
def findM : List (By × By) → By → Option By
  | [], _ => none
  | x :: r, k => if x.1 = k then some x.2 else findM r k
/-- Where a key stands, or would. -/
def atM : List (By × By) → By → Nat
  | [], _ => 0
  | x :: r, k => if cmpB x.1 k < 0 then atM r k + 1 else 0
theorem atM_le : ∀ (m : List (By × By)) (k : By), atM m k ≤ m.length
  | [], _ => Nat.le_refl _
  | x :: r, k => by
    have := atM_le r k
    simp only [atM, List.length_cons]
    split <;> omega
theorem atM_lt : ∀ (m : List (By × By)) (k : By) (j : Nat) (hj : j < m.length), j < atM m k → cmpB m[j].1 k < 0
  | x :: r, k, j, hj, h => by
    simp only [atM] at h
    split at h
    · rename_i hx
      cases j with
      | zero => exact hx
      | succ j => exact atM_lt r k j (by simpa using hj) (by omega)
    · omega
theorem atM_ge : ∀ (m : List (By × By)) (k : By) (hj : atM m k < m.length), ¬ cmpB (m[atM m k]).1 k < 0
  | x :: r, k, hj => by
    by_cases hx : cmpB x.1 k < 0
    · have e : atM (x :: r) k = atM r k + 1 := by simp only [atM]; rw [if_pos hx]
      simp only [e, List.getElem_cons_succ]
      exact atM_ge r k (by rw [e] at hj; simpa using hj)
    · have e : atM (x :: r) k = 0 := by simp only [atM]; rw [if_neg hx]
      simp only [e, List.getElem_cons_zero]
      exact hx
def thereM (m : List (By × By)) (k : By) : Bool := match m[atM m k]? with
  | some x => decide (x.1 = k)
  | none => false
theorem putM_eq : ∀ (m : List (By × By)) (k v : By), putM m k v = m.take (atM m k) ++ (if v = [] then [] else [(k, v)]) ++ m.drop (if thereM m k then atM m k + 1 else atM m k)
  | [], k, v => by simp [putM, atM, thereM]
  | x :: r, k, v => by
    have ih := putM_eq r k v
    simp only [putM]
    by_cases hx : cmpB x.1 k < 0
    · have e : atM (x :: r) k = atM r k + 1 := by simp only [atM]; rw [if_pos hx]
      have et : thereM (x :: r) k = thereM r k := by unfold thereM; rw [e]; simp
      rw [if_pos hx, ih, e, et]
      cases thereM r k <;> (split <;> simp)
    · have e : atM (x :: r) k = 0 := by simp only [atM]; rw [if_neg hx]
      have et : thereM (x :: r) k = decide (x.1 = k) := by unfold thereM; rw [e]; simp
      rw [if_neg hx, e, et]
      by_cases hk : x.1 = k
      · simp [hk]
      · simp [hk]
theorem putM_len (m : List (By × By)) (k v : By) : (putM m k v).length ≤ m.length + 1 := by
  rw [putM_eq]
  simp only [List.length_append, List.length_take, List.length_drop]
  have := atM_le m k
  split <;> split <;> simp <;> omega
end Go.Trie
namespace Go.Proofs.Ytfghidehlnfdiaa
open Go Go.Vcg Go.Trie
abbrev tKv : TypeId := 93
abbrev tSlKv : TypeId := 44
theorem und_slKv : Try.prog.underlying tSlKv = some (.slice tKv) := by kernel_rfl
theorem info_kv : (Try.prog.info? tKv).map (fun i => (i.zero, i.size, i.bytes)) = some (some (.agg #[.slice none 0 0, .slice none 0 0]), 2, 48) := by kernel_rfl
section
variable {C C' : Type} {S : C → Prop} {w0 w w' : World} {lab : Nat → C} {lab' : Nat → C'} {lab2 : Nat → C} {c : C} {c' : C'} {xs : List Value} {o : Option Addr}
theorem CRow.take (h : CRow w lab c o xs) (n : Nat) : CRow w lab c o (xs.take n) := fun j v hv => by
  rw [List.getElem?_take] at hv
  split at hv
  · exact h j v hv
  · cases hv
theorem CRow.drop (h : CRow w lab c o xs) {cap n sz : Nat} (hl : xs.length ≤ cap * sz) : CRow w lab c (subO o cap n sz) (xs.drop (n * sz)) := fun j v hv => by
  rw [List.getElem?_drop] at hv
  obtain ⟨b, f, ho, hb, hl', hc⟩ := h _ v hv
  have hlt : n * sz + j < xs.length := by
    rcases Nat.lt_or_ge (n * sz + j) xs.length with h | h
    · exact h
    · rw [List.getElem?_eq_none h] at hv; cases hv
  have hne : ¬ cap = n := by rintro rfl; omega
  refine ⟨b, f + n * sz, ?_, hb, hl', by rw [Nat.add_assoc]; exact hc⟩
  unfold subO
  rw [if_neg hne, ho]
  simp
theorem CRow.re (h : CRow w lab c o xs) (hl : ∀ k, k < w.heap.size → lab k = c → lab' k = c') : CRow w lab' c' o xs := fun j v hv => by
  obtain ⟨b, f, ho, hb, hc, hcell⟩ := h j v hv
  exact ⟨b, f, ho, hb, hl b hb hc, hcell⟩
/-- Cells of keys with values. -/
def KvCells (w : World) (lab : Nat → C) (c : C) (vs : List Value) (m : List (By × By)) : Prop :=
  vs.length = m.length * 2 ∧ ∀ (j : Nat) (hj : j < m.length), ∃ ok kk ov kv, vs[j * 2]? = some (.slice ok m[j].1.length kk) ∧ CBy w lab c ok m[j].1 ∧ vs[j * 2 + 1]? = some (.slice ov m[j].2.length kv) ∧ CBy w lab c ov m[j].2
theorem KvCells.nil (w : World) (lab : Nat → C) (c : C) : KvCells w lab c [] [] := ⟨rfl, fun j hj => absurd hj (by simp)⟩
theorem KvCells.stp {vs : List Value} {m : List (By × By)} (h : KvCells w lab c vs m) (s : Stp S w lab w' lab2) (hs : ¬ S c) : KvCells w' lab2 c vs m :=
  ⟨h.1, fun j hj => by obtain ⟨ok, kk, ov, kv, a, b, d, e⟩ := h.2 j hj; exact ⟨ok, kk, ov, kv, a, b.stp s hs, d, e.stp s hs⟩⟩
theorem KvCells.re {vs : List Value} {m : List (By × By)} (h : KvCells w lab c vs m) (hl : ∀ k, k < w.heap.size → lab k = c → lab' k = c') : KvCells w lab' c' vs m :=
  ⟨h.1, fun j hj => by obtain ⟨ok, kk, ov, kv, a, b, d, e⟩ := h.2 j hj; exact ⟨ok, kk, ov, kv, a, CBy.re b hl, d, CBy.re e hl⟩⟩
theorem KvCells.take {vs : List Value} {m : List (By × By)} (h : KvCells w lab c vs m) {n : Nat} (hn : n ≤ m.length) : KvCells w lab c (vs.take (n * 2)) (m.take n) := by
  refine ⟨by rw [List.length_take, List.length_take, h.1]; omega, fun j hj => ?_⟩
  rw [List.length_take] at hj
  obtain ⟨ok, kk, ov, kv, a, b, d, e⟩ := h.2 j (by omega)
  rw [List.getElem_take]
  exact ⟨ok, kk, ov, kv, by rw [List.getElem?_take, if_pos (by omega)]; exact a, b, by rw [List.getElem?_take, if_pos (by omega)]; exact d, e⟩
theorem KvCells.drop {vs : List Value} {m : List (By × By)} (h : KvCells w lab c vs m) {n : Nat} (hn : n ≤ m.length) : KvCells w lab c (vs.drop (n * 2)) (m.drop n) := by
  refine ⟨by rw [List.length_drop, List.length_drop, h.1]; omega, fun j hj => ?_⟩
  rw [List.length_drop] at hj
  obtain ⟨ok, kk, ov, kv, a, b, d, e⟩ := h.2 (n + j) (by omega)
  rw [List.getElem_drop]
  exact ⟨ok, kk, ov, kv, by rw [List.getElem?_drop, show n * 2 + j * 2 = (n + j) * 2 by omega]; exact a, b, by rw [List.getElem?_drop, show n * 2 + (j * 2 + 1) = (n + j) * 2 + 1 by omega]; exact d, e⟩
theorem KvCells.append {vs us : List Value} {m n : List (By × By)} (h : KvCells w lab c vs m) (k : KvCells w lab c us n) : KvCells w lab c (vs ++ us) (m ++ n) := by
  have h1 := h.1
  have k1 := k.1
  refine ⟨by rw [List.length_append, List.length_append, h1, k1]; omega, fun j hj => ?_⟩
  rw [List.length_append] at hj
  by_cases hl : j < m.length
  · rw [List.getElem_append_left hl]
    obtain ⟨ok, kk, ov, kv, a, b, d, e⟩ := h.2 j hl
    exact ⟨ok, kk, ov, kv, by rw [List.getElem?_append_left (by omega)]; exact a, b, by rw [List.getElem?_append_left (by omega)]; exact d, e⟩
  · rw [List.getElem_append_right (by omega)]
    obtain ⟨ok, kk, ov, kv, a, b, d, e⟩ := k.2 (j - m.length) (by omega)
    exact ⟨ok, kk, ov, kv, by rw [List.getElem?_append_right (by omega), show j * 2 - vs.length = (j - m.length) * 2 by omega]; exact a, b, by rw [List.getElem?_append_right (by omega), show j * 2 + 1 - vs.length = (j - m.length) * 2 + 1 by omega]; exact d, e⟩
theorem KvCells.one {vs : List Value} {m : List (By × By)} (h : KvCells w lab c vs m) : ∀ u ∈ vs, u.oneCell' = true := by
  intro u hu
  obtain ⟨i, hi⟩ := List.mem_iff_getElem?.1 hu
  have hlt : i < vs.length := by
    rcases Nat.lt_or_ge i vs.length with h | h
    · exact h
    · rw [List.getElem?_eq_none h] at hi; cases hi
  have h1 := h.1
  obtain ⟨ok, kk, ov, kv, a, b, d, e⟩ := h.2 (i / 2) (by omega)
  by_cases h2 : i % 2 = 0
  · rw [show i / 2 * 2 = i by omega, hi] at a
    cases a; rfl
  · rw [show i / 2 * 2 + 1 = i by omega, hi] at d
    cases d; rfl
/-- A map's row: cells that can be read. -/
def KvR (w : World) (lab : Nat → C) (c : C) (o : Option Addr) (m : List (By × By)) : Prop := ∃ vs, CRow w lab c o vs ∧ KvCells w lab c vs m
theorem KvR.nil (w : World) (lab : Nat → C) (c : C) (o : Option Addr) : KvR w lab c o [] := ⟨[], CRow.nil w lab c o, KvCells.nil w lab c⟩
theorem KvR.stp {m : List (By × By)} (h : KvR w lab c o m) (s : Stp S w lab w' lab2) (hs : ¬ S c) : KvR w' lab2 c o m := by
  obtain ⟨vs, a, b⟩ := h
  exact ⟨vs, a.stp s hs, b.stp s hs⟩
theorem KvR.re {m : List (By × By)} (h : KvR w lab c o m) (hl : ∀ k, k < w.heap.size → lab k = c → lab' k = c') : KvR w lab' c' o m := by
  obtain ⟨vs, a, b⟩ := h
  exact ⟨vs, CRow.re a hl, KvCells.re b hl⟩
theorem KvR.row {m : List (By × By)} (h : KvR w lab c o m) : KvRow w lab c o m := fun j hj => by
  obtain ⟨vs, hR, hC⟩ := h
  obtain ⟨ok, kk, ov, kv, a, b, d, e⟩ := hC.2 j hj
  obtain ⟨g, f, ho, hg, hl, hc⟩ := hR _ _ a
  obtain ⟨g', f', ho', _, _, hc'⟩ := hR _ _ d
  rw [ho] at ho'; cases ho'
  exact ⟨g, f, ok, kk, ov, kv, ho, hg, hl, hc, b, hc', e⟩
theorem kv_push {L : Nat → Nat} {q : Nat} {n k : Nat} {vs us : List Value} {o2 : Option Addr} {k2 nn : Nat} (F : COw w L q tKv 2 o n k vs) (src : Src Try.prog 2 tSlKv (.slice o2 nn k2) nn us w) (hn : n + nn ≤ 2 ^ 30) :
    ∃ o' k' w', Sem.run Try.prog (builtinV .append #[tSlKv, tSlKv] tSlKv #[.slice o n k, .slice o2 nn k2]) w = .ok (.slice o' (n + nn) k') w' ∧ COw w' (ext L w.heap.size q) q tKv 2 o' (n + nn) k' (vs ++ us) ∧ Stp (· = q) w L w' (ext L w.heap.size q) := by
  obtain ⟨i, hi, hz, hs, hb⟩ := info_of info_kv
  exact COw.append (ty := tSlKv) und_slKv hi hz hs rfl F src (by simp only [maxLen]; omega) (by rw [hb]; omega)
/-- The labels at a map's copy: 0 what is read, 2 the row that is made. -/
noncomputable def labK (lab : Nat → C) (c : C) (N : Nat) : Nat → Nat := fun k => if k < N then (@ite Nat (lab k = c) (Classical.propDecidable _) 0 1) else 0
theorem labK_in {N k : Nat} (hc : lab k = c) : labK lab c N k = 0 := by
  unfold labK
  rw [if_pos hc]
  split <;> rfl
theorem labK_old {N k : Nat} (h : k < N) : labK lab c N k ≠ 2 ∧ (labK lab c N k = 0 → lab k = c) := by
  unfold labK
  rw [if_pos h]
  constructor
  · split <;> decide
  · split
    · rename_i h; exact fun _ => h
    · intro h; cases h
theorem rPut_calls {m : List (By × By)} {k : Nat} {ok ov : Option Addr} {kk kv : Nat} {key v : By} (h : KvR w lab c o m) (hm : KvOk m) (hmk : m.length ≤ k) (hk : RdB w ok key) (hv : RdB w ov v) (hkl : key.length ≤ 64) (hvl : v.length ≤ 1024) (hlen : m.length < 2 ^ 20) :
    Calls Try.prog moraineref14_Put.n #[.slice o m.length k, .slice ok key.length kk, .slice ov v.length kv] w (fun e w' => ∃ o' k', e = .returned (.slice o' (putM m key v).length k') ∧ (putM m key v).length ≤ k' ∧ Vcg.Mod NoB w w' ∧ KvR w' (ext lab w.heap.size c) c o' (putM m key v)) := by
  refine calls_gen fun R hR => moraineref14_Put.vc _ _ _ _ _ _ _ _ _ _ _ ?_
  unfold moraineref14_Put.Vc
  have hrow := h.row
  have cell : ∀ {w1 : World}, Vcg.Mod NoB w w1 → ∀ (j : Nat) (hj : j < m.length), ∃ b f okk kkk, o = some ⟨b, f, none⟩ ∧ w1.cell? (Addr.add ⟨b, f, none⟩ (Int.toNat (j : Int) * 2)) = some (.slice okk m[j].1.length kkk) ∧ RdB w1 okk m[j].1 := by
    intro w1 M j hj
    obtain ⟨b, f, okk, kkk, ovv, kvv, e1, e2, e3, e4, e5, e6, e7⟩ := hrow j hj
    exact ⟨b, f, okk, kkk, e1, by rw [add_at, Int.toNat_natCast]; exact (cell_mod M e2 (fun h => h)).trans e4, e5.rd.mod' M⟩
  have hat := atM_le m key
  refine ⟨fun n w' => n = (atM m key : Int) ∧ Vcg.Mod NoB w w', ⟨fun n w' => ∃ j : Nat, n = (j : Int) ∧ j ≤ atM m key ∧ Vcg.Mod NoB w w', fun n _ => ((m.length : Int) - n).toNat, ⟨0, rfl, Nat.zero_le _, Mod.refl w⟩, ?_⟩, ?_⟩
  · rintro _ _ w1 ⟨j, rfl, hj, M⟩
    refine ⟨fun hlt => ?_, fun hge => ⟨by omega, M⟩⟩
    have hjl : j < m.length := by omega
    obtain ⟨b, f, okk, kkk, rfl, hc, hrd⟩ := cell M j hjl
    have hkj := hm.keys _ (List.getElem_mem hjl)
    refine ⟨_, rfl, ⟨by omega, by omega⟩, _, _, _, hc, (cmp_calls (k1 := kkk) (k2 := kk) hrd (hk.mod' M) (by omega)).mono ?_⟩
    rintro _ w2 ⟨rfl, M2⟩
    have M02 := M.trans M2 (fun _ _ h => h)
    refine ⟨_, rfl, fun hneg => ⟨⟨j + 1, by rw [wrap_i64_small (by omega) (by omega)]; omega, ?_, M02⟩, by dsimp only; rw [wrap_i64_small (by omega) (by omega)]; omega⟩, fun hpos => ⟨?_, M02⟩⟩
    · by_cases he : j = atM m key
      · subst he
        exact absurd hneg (atM_ge m key hjl)
      · omega
    · by_cases he : j < atM m key
      · exact absurd (atM_lt m key j hjl he) hpos
      · omega
  · rintro _ _ w1 ⟨rfl, M1⟩
    refine ⟨fun b w' => b = thereM m key ∧ Vcg.Mod NoB w w', ⟨fun hlt => ?_, fun hge => ⟨?_, M1⟩⟩, ?_⟩
    · have hjl : atM m key < m.length := by omega
      obtain ⟨b, f, okk, kkk, rfl, hc, hrd⟩ := cell M1 (atM m key) hjl
      have hkj := hm.keys _ (List.getElem_mem hjl)
      refine ⟨_, rfl, ⟨by omega, by omega⟩, _, _, _, hc, (cmp_calls (k1 := kkk) (k2 := kk) hrd (hk.mod' M1) (by omega)).mono ?_⟩
      rintro _ w2 ⟨rfl, M2⟩
      refine ⟨_, rfl, ?_, M1.trans M2 (fun _ _ h => h)⟩
      unfold thereM
      rw [List.getElem?_eq_getElem hjl]
      simp only
      rw [Bool.eq_iff_iff, decide_eq_true_eq, decide_eq_true_eq, cmpB_eq]
    · unfold thereM
      rw [List.getElem?_eq_none (by omega)]
    · rintro _ _ w2 ⟨rfl, M2⟩
      obtain ⟨vs, hCR, hKC⟩ := h
      have hvl2 := hKC.1
      simp only [Int.toNat_natCast]
      have inL : ∀ k, k < w.heap.size → lab k = c → labK lab c w.heap.size k = 0 := fun k _ hc => labK_in hc
      have s2 := Stp.same M2 (labK lab c w.heap.size)
      have C2 := (CRow.re hCR inL).stp s2 (fun h => h)
      have K2 := (KvCells.re hKC inL).stp s2 (fun h => h)
      -- all steps from here on: nothing but the row that is made
      have fin : ∀ {w5 : World} {L5 : Nat → Nat} {o5 : Option Addr} {n5 k5 : Nat} {us : List Value}, Stp (· = 2) w2 (labK lab c w.heap.size) w5 L5 → COw w5 L5 2 tKv 2 o5 n5 k5 us → KvCells w5 L5 0 us (putM m key v) → n5 = (putM m key v).length → R (.returned (.slice o5 n5 k5)) w5 := by
        rintro w5 L5 o5 _ k5 us s5 O5 K5 rfl
        have M25 : Vcg.Mod NoB w w5 := M2.trans (s5.mod (Q := fun k => w.heap.size ≤ k) (fun k hk hs => Nat.not_lt.1 fun hlt => (labK_old hlt).1 hs)) (fun i hi hq => by omega)
        have out : ∀ q, q = 0 ∨ q = 2 → ∀ k, k < w5.heap.size → L5 k = q → ext lab w.heap.size c k = c := fun q hq k hk he => by
          by_cases hlt : k < w.heap.size
          · rw [s5.lab k (Nat.lt_of_lt_of_le hlt M2.size)] at he
            rw [ext_old hlt]
            rcases hq with rfl | rfl
            · exact (labK_old hlt).2 he
            · exact ((labK_old hlt).1 he).elim
          · exact ext_new (by omega)
        exact hR _ _ ⟨o5, k5, rfl, O5.own.cap.1, M25, us, CRow.re (COw.row O5) (out 2 (.inr rfl)), KvCells.re K5 (out 0 (.inl rfl))⟩
      have rest : ∀ {w4 : World} {L4 : Nat → Nat} {o4 : Option Addr} {n4 k4 : Nat} {us : List Value} {m4 : List (By × By)} (d : Nat), d ≤ m.length → Stp (· = 2) w2 (labK lab c w.heap.size) w4 L4 → COw w4 L4 2 tKv 2 o4 n4 k4 us → KvCells w4 L4 0 us m4 → n4 = m4.length → n4 ≤ m.length + 1 → m4 ++ m.drop d = putM m key v →
          ∃ (v58 : Value) (w59 : World), Sem.run Try.prog (builtinV .append #[44, 44] 44 #[(.slice o4 n4 k4), (.slice (subO o k d 2) (m.length - d) (k - d))]) w4 = .ok v58 w59 ∧
          ∃ o60 : Option Addr, ∃ l61 : Nat, ∃ l62 : Nat, v58 = (.slice o60 l61 l62) ∧ R (.returned (.slice o60 l61 l62)) w59 := by
        intro w4 L4 o4 n4 k4 us m4 d hd s4 O4 K4 hn4 hle4 he
        have C4 := CRow.drop (C2.stp s4 (by decide)) (cap := k) (n := d) (sz := 2) (by omega)
        have K4' := KvCells.drop (K2.stp s4 (by decide)) hd
        obtain ⟨o5, k5, w5, hr5, O5, s5⟩ := kv_push O4 (CRow.src C4 und_slKv (n := m.length - d) (by rw [List.length_drop]; omega) K4'.one (k - d) (by omega)) (by omega)
        refine ⟨_, w5, hr5, _, _, _, rfl, fin (s4.trans s5) O5 (by rw [← he]; exact (K4.stp s5 (by decide)).append (K4'.stp s5 (by decide))) ?_⟩
        rw [← he, List.length_append, List.length_drop, hn4]
      have C2t := CRow.take C2 (atM m key * 2)
      have K2t := KvCells.take K2 hat
      obtain ⟨o3, k3, w3, hr3, O3, s3⟩ := kv_push (COw.nil w2 (labK lab c w.heap.size) 2 tKv 2) (CRow.src C2t und_slKv (n := atM m key) (by rw [List.length_take]; omega) K2t.one k (by omega)) (by omega)
      rw [Nat.zero_add] at hr3 O3
      rw [List.nil_append] at O3
      replace K2t := K2t.stp s3 (by decide)
      have hpe := putM_eq m key v
      have ew : IntKind.wrap .i64 ((atM m key : Int) + 1) = ((atM m key + 1 : Nat) : Int) := by rw [wrap_i64_small (by omega) (by omega)]; omega
      have hth : thereM m key = true → atM m key + 1 ≤ m.length := fun h => by
        unfold thereM at h
        rcases Nat.lt_or_ge (atM m key) m.length with h' | h'
        · exact h'
        · rw [List.getElem?_eq_none h'] at h; cases h
      have htl : (m.take (atM m key)).length = atM m key := by rw [List.length_take]; omega
      simp only [ew, Int.toNat_natCast]
      refine ⟨⟨by omega, by omega⟩, _, w3, hr3, _, _, _, rfl, fun hvpos => ?_, fun hv0 => ?_⟩
      · have hvne : v ≠ [] := by rintro rfl; simp at hvpos
        rw [if_neg hvne] at hpe
        have M23 : Vcg.Mod NoB w w3 := M2.trans (s3.mod (Q := fun k => w.heap.size ≤ k) (fun k hk hs => Nat.not_lt.1 fun hlt => (labK_old hlt).1 hs)) (fun i hi hq => by omega)
        generalize hL3 : ext (labK lab c w.heap.size) w2.heap.size 2 = L3 at *
        obtain ⟨o4, k4, w4, hr4, F4⟩ := copy_bytes' (k2 := kk) (ty := tSlU8) (Mod.refl w3) (hk.mod' M23) (by omega)
        obtain ⟨o5, k5, w5, hr5, F5⟩ := copy_bytes' (k2 := kv) (ty := tSlU8) (Mod.refl w4) (hv.mod' (M23.trans F4.mod (fun _ _ h => h))) (by omega)
        refine ⟨_, w4, hr4, _, _, _, rfl, _, w5, hr5, _, _, _, rfl, ?_⟩
        rintro d w6 ⟨rfl, rfl⟩
        have M6 := Mod.alloc (S := NoB) w5 (.cells #[.slice o4 key.length k4, .slice o5 v.length k5] 93)
        have N6 := Blk.new w5 93 #[.slice o4 key.length k4, .slice o5 v.length k5]
        have M36 := (F4.mod.trans F5.mod (fun _ _ h => h)).trans M6 (fun _ _ h => h)
        have s6 : Stp NoS w3 L3 (w5.alloc (.cells #[.slice o4 key.length k4, .slice o5 v.length k5] 93)) (ext L3 w3.heap.size 0) := Stp.of_nob M36 0
        have b4 : CBy (w5.alloc (.cells #[.slice o4 key.length k4, .slice o5 v.length k5] 93)) (ext L3 w3.heap.size 0) 0 o4 key := fresh_cby F4 (F5.mod.trans M6 (fun _ _ h => h))
        have b5 : CBy (w5.alloc (.cells #[.slice o4 key.length k4, .slice o5 v.length k5] 93)) (ext L3 w3.heap.size 0) 0 o5 v := fresh_cby (Fresh.from_ F5 F4.mod) M6
        generalize w5.alloc (.cells #[.slice o4 key.length k4, .slice o5 v.length k5] 93) = w6 at *
        have O6 := O3.stp s6 (fun h => h)
        have K6 := K2t.stp s6 (fun h => h)
        have hKone : KvCells w6 (ext L3 w3.heap.size 0) 0 [.slice o4 key.length k4, .slice o5 v.length k5] [(key, v)] := ⟨rfl, fun j hj => by
          obtain rfl : j = 0 := by simpa using hj
          exact ⟨o4, k4, o5, k5, rfl, b4, rfl, b5⟩⟩
        obtain ⟨o7, k7, w7, hr7, O7, s7⟩ := kv_push O6 (src_one und_slKv N6 rfl (by simp [Value.oneCell'])) (by omega)
        have s37 := ((s3.trans (s6.mono (fun _ h => h.elim))).trans s7)
        have K7 := (K6.append hKone).stp s7 (by decide)
        refine ⟨_, w7, hr7, _, _, _, rfl, fun hb => ?_, fun hb => ?_⟩
        · rw [hb, if_pos rfl] at hpe
          have := hth hb
          exact ⟨⟨by omega, by omega⟩, rest (atM m key + 1) this s37 O7 K7 (by rw [List.length_append, htl]; rfl) (by omega) hpe.symm⟩
        · rw [hb, if_neg (by simp)] at hpe
          exact ⟨⟨by omega, by omega⟩, rest (atM m key) hat s37 O7 K7 (by rw [List.length_append, htl]; rfl) (by omega) hpe.symm⟩
      · have hvnil : v = [] := List.eq_nil_of_length_eq_zero (by omega)
        rw [if_pos hvnil, List.append_nil] at hpe
        refine ⟨fun hb => ?_, fun hb => ?_⟩
        · rw [hb, if_pos rfl] at hpe
          have := hth hb
          exact ⟨⟨by omega, by omega⟩, rest (atM m key + 1) this s3 O3 K2t htl.symm (by omega) hpe.symm⟩
        · rw [hb, if_neg (by simp)] at hpe
          exact ⟨⟨by omega, by omega⟩, rest (atM m key) hat s3 O3 K2t htl.symm (by omega) hpe.symm⟩
end
end Go.Proofs.Ytfghidehlnfdiaa
end

section
set_option linter.unusedVariables false
set_option linter.unusedSimpArgs false
namespace Go.Proofs.Ytfghidehlnfdiaa
open Go Go.Vcg Go.Trie
section
variable {C C' : Type} {S : C → Prop} {w0 w w' : World} {lab : Nat → C} {lab' : Nat → C'} {lab2 : Nat → C} {c c1 : C} {c' : C'} {xs : List Value} {o : Option Addr}
/-- Bytes told as a string. -/
theorem toStr {w : World} {o : Option Addr} {k : Nat} {b : By} (h : RdB w o b) : Sem.run Try.prog (convert 22 9 (.slice o b.length k)) w = .ok (.string (strOf b)) w := run_toStr und_slU8 und_u8 und_str h
theorem hBytes_calls {o1 o2 : Option Addr} {k1 k2 : Nat} {a b : By} (h1 : RdB w o1 a) (h2 : RdB w o2 b) :
    Calls Try.prog morainehelp_Bytes.n #[.slice o1 a.length k1, .slice o2 b.length k2] w (fun e w' => e = .returned (.bool (decide (a = b))) ∧ w' = w) := by
  refine morainehelp_Bytes.vc _ _ _ _ _ _ _ _ ?_
  unfold morainehelp_Bytes.Vc
  refine ⟨_, toStr h1, _, rfl, _, toStr h2, _, rfl, ?_, rfl⟩
  rw [strB_strOf]
theorem strB_neq (a b : By) : strB .neq (strOf a) (strOf b) = decide (a ≠ b) := by
  have h := strB_strOf a b
  have : strB .neq (strOf a) (strOf b) = !strB .eql (strOf a) (strOf b) := by
    simp only [strB, bne]
  rw [this, h]
  by_cases hab : a = b <;> simp [hab]
/-- What Find says. -/
theorem Find_calls {m : List (By × By)} {k kk : Nat} {ok : Option Addr} {key : By} (h : KvR w lab c o m) (hk : RdB w ok key) (hlen : m.length ≤ 2 ^ 20) :
    Calls Try.prog moraineref14_Find.n #[.slice o m.length k, .slice ok key.length kk] w (fun e w' => ∃ o' k', e = .returned (.tuple #[.slice o' (says (findM m key)).1.length k', .bool (says (findM m key)).2]) ∧ Vcg.Mod NoB w w' ∧ CBy w lab c o' (says (findM m key)).1) := by
  refine calls_gen fun R hR => moraineref14_Find.vc _ _ _ _ _ _ _ _ ?_
  unfold moraineref14_Find.Vc
  have hrow := h.row
  refine ⟨fun n w' => ∃ j : Nat, n = (j : Int) ∧ j ≤ m.length ∧ Vcg.Mod NoB w w' ∧ findM m key = findM (m.drop j) key, fun n _ => ((m.length : Int) - n).toNat, ⟨0, rfl, Nat.zero_le _, Mod.refl w, rfl⟩, ?_⟩
  rintro _ _ w1 ⟨j, rfl, hj, M, hf⟩
  refine ⟨fun hlt => ?_, fun hge => ?_⟩
  · rintro _ rfl
    have hjl : j < m.length := by omega
    have M2 := M.step_drew
    obtain ⟨b, f, okk, kkk, ovv, kvv, rfl, e2, e3, e4, e5, e6, e7⟩ := hrow j hjl
    have hd : m.drop j = m[j] :: m.drop (j + 1) := List.drop_eq_getElem_cons hjl
    refine ⟨_, rfl, ⟨by omega, by omega⟩, _, _, _, by rw [add_at, Int.toNat_natCast]; exact (cell_mod M2 e2 (fun h => h)).trans e4, _, toStr (e5.rd.mod' M2), _, rfl, _, toStr (hk.mod' M2), _, rfl, fun he => ?_, fun he => ?_⟩
    · rw [strB_strOf] at he
      have e : findM m key = some m[j].2 := by rw [hf, hd]; simp only [findM]; rw [if_pos (of_decide_eq_true he)]
      rw [e] at hR
      refine ⟨_, rfl, ⟨by omega, by omega⟩, _, _, _, by rw [add_at, add_at, Int.toNat_natCast, Nat.add_assoc]; exact (cell_mod M2 e2 (fun h => h)).trans e6, hR _ _ ⟨_, _, rfl, M2, e7⟩⟩
    · rw [strB_strOf] at he
      refine ⟨⟨j + 1, by rw [wrap_i64_small (by omega) (by omega)]; omega, hjl, M2, ?_⟩, by dsimp only; rw [wrap_i64_small (by omega) (by omega)]; omega⟩
      rw [hf, hd]; simp only [findM]; rw [if_neg (of_decide_eq_false he)]
  · have e : findM m key = none := by rw [hf, List.drop_of_length_le (by omega)]; rfl
    rw [e] at hR
    exact hR _ _ ⟨none, 0, rfl, M, CBy.nil _ _ _ _⟩
/-- The reference's nodes, copied. -/
theorem rNodes_calls {l : List (By × By)} {k : Nat} (h : NdRow w lab c l o l.length) (hb : ∀ x ∈ l, x.2.length ≤ 2 ^ 20) (hlen : l.length ≤ 2 ^ 20) (cr : C) :
    Calls Try.prog moraineref14_Nodes.n #[.slice o l.length k] w (fun e w' => ∃ o' k', e = .returned (.slice o' l.length k') ∧ l.length ≤ k' ∧ Vcg.Mod NoB w w' ∧ NdRow w' (ext lab w.heap.size cr) cr l o' l.length) := by
  refine calls_gen fun R hR => moraineref14_Nodes.vc _ _ _ _ _ ?_
  unfold moraineref14_Nodes.Vc
  have inL : ∀ k, k < w.heap.size → lab k = c → labK lab c w.heap.size k = 0 := fun k _ hc => labK_in hc
  have h0 : NdRow w (labK lab c w.heap.size) 0 l o l.length := NdRow.re h inL
  refine ⟨fun o' n' k' i w' => ∃ (j : Nat) (L : Nat → Nat), i = (j : Int) ∧ j ≤ l.length ∧ n' = j ∧ Stp (· = 2) w (labK lab c w.heap.size) w' L ∧ NdOwn w' L 2 3 (l.take j) o' n' k', fun _ _ _ i _ => ((l.length : Int) - i).toNat,
    ⟨0, _, rfl, Nat.zero_le _, rfl, Stp.refl _ _ _, by rw [List.take_zero]; exact NdOwn.nil _ _ _ _⟩, ?_⟩
  rintro o1 j k1 _ _ w1 ⟨j', L1, rfl, hj, hjj, s1, O1⟩
  subst hjj
  obtain ⟨_, vs, hCR, hNC⟩ := h0
  refine ⟨fun hlt => ?_, fun hge => ?_⟩
  · rintro _ rfl
    have hjl : j < l.length := by omega
    have sD : Stp NoS w1 L1 w1.drew L1 := Stp.drew _ _ _
    have O2 := O1.stp sD (fun h => h) (fun h => h)
    have s2 := s1.trans (sD.mono (T := fun k => k = 2) (fun _ h => h.elim))
    generalize w1.drew = w2 at *
    have CR2 := hCR.stp s2 (by decide)
    have NC2 := hNC.stp s2 (by decide)
    obtain ⟨g, f, rfl, hg, hlg, hrow⟩ := NC2.hash CR2 hjl
    obtain ⟨g', f', hgf, _, ob, kb, hcell, hby⟩ := NC2.bytes CR2 hjl
    cases hgf
    have hlen32 := (NC2.2 j hjl).1
    have hbl := hb _ (List.getElem_mem hjl)
    obtain ⟨o3, k3, w3, hr3, F3⟩ := copy_bytes' (k2 := kb) (ty := tSlU8) (Mod.refl w2) hby.rd (by omega)
    have hrow' : ∀ w', Vcg.Mod NoB w2 w' → RowAt w' (Addr.add ⟨g, f, none⟩ (Int.toNat (j : Int) * 33)) 32 (hashA l[j].1) := fun w' M => by
      rw [add_at, Int.toNat_natCast]
      exact ⟨hrow.1, fun i hi => by rw [← hrow.2 i hi, add_at]; exact cell_mod M hg (fun h => h)⟩
    have hZ : nd0.size = 33 := rfl
    refine ⟨_, rfl, ⟨by omega, by omega⟩, _, hrow' _ (Mod.refl _), _, rfl, ⟨by omega, by omega⟩, _, _, _, by rw [add_at, add_at, Int.toNat_natCast, Nat.add_assoc]; exact hcell, _, w3, hr3, _, _, _, rfl, hrow' _ F3.mod, size_hashA _, by rw [size_setsAt]; unfold lputL; rw [size_setsAt, hZ], ?_⟩
    rw [nd_built hZ]
    rintro d w4 ⟨rfl, rfl⟩
    have M4 := Mod.alloc (S := NoB) w3 (.cells (ndA l[j].1 o3 l[j].2.length k3) tNd)
    have N4 := Blk.new w3 tNd (ndA l[j].1 o3 l[j].2.length k3)
    have M24 := F3.mod.trans M4 (fun _ _ h => h)
    have s4 : Stp NoS w2 L1 (w3.alloc (.cells (ndA l[j].1 o3 l[j].2.length k3) tNd)) (ext L1 w2.heap.size 3) := Stp.of_nob M24 3
    have b4 : CBy (w3.alloc (.cells (ndA l[j].1 o3 l[j].2.length k3) tNd)) (ext L1 w2.heap.size 3) 3 o3 l[j].2 := fresh_cby F3 M4
    show ∃ (v30 : Value) (w31 : World), Sem.run Try.prog (builtinV .append #[49, 49] 49 #[(.slice o1 j k1), (.slice (some ⟨w3.heap.size, 0, none⟩) 1 1)]) (w3.alloc (.cells (ndA l[j].1 o3 l[j].2.length k3) tNd)) = .ok v30 w31 ∧ _
    generalize w3.alloc (.cells (ndA l[j].1 o3 l[j].2.length k3) tNd) = w4 at *
    have O4 := O2.stp s4 (fun h => h) (fun h => h)
    have htl : (l.take j).length = j := by rw [List.length_take]; omega
    obtain ⟨o5, k5, w5, hr5, O5, s5⟩ := O4.push (by decide) N4 hlen32 b4 (by omega)
    have htk : l.take (j + 1) = l.take j ++ [(l[j].1, l[j].2)] := by rw [List.take_add_one, List.getElem?_eq_getElem hjl]; rfl
    refine ⟨_, w5, hr5, _, _, _, rfl, ⟨j + 1, _, by rw [wrap_i64_small (by omega) (by omega)]; omega, hjl, rfl, (s2.trans (s4.mono (fun _ h => h.elim))).trans s5, by rw [htk]; exact O5⟩, by dsimp only; rw [wrap_i64_small (by omega) (by omega)]; omega⟩
  · obtain rfl : j = l.length := by omega
    rw [List.take_length] at O1
    obtain ⟨_, us, hO, hC⟩ := O1
    have M1 : Vcg.Mod NoB w w1 := (s1.mod (Q := fun k => w.heap.size ≤ k) (fun k hk hs => Nat.not_lt.1 fun hlt => (labK_old hlt).1 hs)).mono (fun i hi h => by omega)
    have out : ∀ q, q = 2 ∨ q = 3 → ∀ z, z < w1.heap.size → L1 z = q → ext lab w.heap.size cr z = cr := fun q hq z hz he => by
      by_cases hlt : z < w.heap.size
      · rw [s1.lab z hlt] at he
        have : labK lab c w.heap.size z = 0 ∨ labK lab c w.heap.size z = 1 := by
          unfold labK
          rw [if_pos hlt]
          split
          · exact .inl rfl
          · exact .inr rfl
        rcases this with h | h <;> rw [h] at he <;> omega
      · exact ext_new (by omega)
    exact hR _ _ ⟨o1, k1, rfl, hO.own.cap.1, M1, rfl, us, CRow.re (COw.row hO) (out 2 (.inl rfl)), NdCells.re hC (out 3 (.inr rfl))⟩
/-- Two rows of nodes held against one another. -/
theorem hNodes_calls {l1 l2 : List (By × By)} {o1 o2 : Option Addr} {k1 k2 : Nat} (h1 : NdRow w lab c l1 o1 l1.length) (h2 : NdRow w lab c1 l2 o2 l2.length) (hlen : l1.length ≤ 2 ^ 20) :
    Calls Try.prog morainehelp_Nodes.n #[.slice o1 l1.length k1, .slice o2 l2.length k2] w (fun e w' => e = .returned (.bool (decide (l1 = l2))) ∧ Vcg.Mod NoB w w') := by
  refine calls_gen fun R hR => morainehelp_Nodes.vc _ _ _ _ _ _ _ _ ?_
  unfold morainehelp_Nodes.Vc
  obtain ⟨_, vs1, C1, N1⟩ := h1
  obtain ⟨_, vs2, C2, N2⟩ := h2
  have no : l1 ≠ l2 → ∀ w', Vcg.Mod NoB w w' → R (.returned (.bool false)) w' := fun hne w' M => hR _ _ ⟨by rw [decide_eq_false hne], M⟩
  refine ⟨fun hl => no (fun e => hl (by rw [e])) _ (Mod.refl w), fun hl => ?_⟩
  have hl' : l1.length = l2.length := by omega
  refine ⟨fun n w' => ∃ j : Nat, n = (j : Int) ∧ j ≤ l1.length ∧ Vcg.Mod NoB w w' ∧ l1.take j = l2.take j, fun n _ => ((l1.length : Int) - n).toNat, ⟨0, rfl, Nat.zero_le _, Mod.refl w, rfl⟩, ?_⟩
  rintro _ _ w1 ⟨j, rfl, hj, M, ht⟩
  refine ⟨fun hlt => ?_, fun hge => ?_⟩
  · rintro _ rfl
    have hj1 : j < l1.length := by omega
    have hj2 : j < l2.length := by omega
    have M2 := M.step_drew
    obtain ⟨g, f, rfl, hg, _, hrow⟩ := N1.hash C1 hj1
    obtain ⟨g', f', hgf, _, ob, kb, hcell, hby⟩ := N1.bytes C1 hj1
    cases hgf
    obtain ⟨p, q, rfl, hp, _, hrow2⟩ := N2.hash C2 hj2
    obtain ⟨p', q', hpq, _, ob2, kb2, hcell2, hby2⟩ := N2.bytes C2 hj2
    cases hpq
    have r1 : RowAt w1.drew (Addr.add ⟨g, f, none⟩ (Int.toNat (j : Int) * 33)) 32 (hashA l1[j].1) := by
      rw [add_at, Int.toNat_natCast]
      exact ⟨hrow.1, fun i hi => by rw [← hrow.2 i hi, add_at]; exact cell_mod M2 hg (fun h => h)⟩
    have r2 : RowAt w1.drew (Addr.add ⟨p, q, none⟩ (Int.toNat (j : Int) * 33)) 32 (hashA l2[j].1) := by
      rw [add_at, Int.toNat_natCast]
      exact ⟨hrow2.1, fun i hi => by rw [← hrow2.2 i hi, add_at]; exact cell_mod M2 hp (fun h => h)⟩
    have hdiff : l1[j] ≠ l2[j] → l1 ≠ l2 := fun h e => h (by simp only [e])
    refine ⟨_, rfl, ⟨by omega, by omega⟩, _, r1, _, rfl, ⟨by omega, by omega⟩, _, r2, _, hash_ne _ _ (N1.2 j hj1).1 (N2.2 j hj2).1, _, rfl, fun he => no (hdiff (fun e => of_decide_eq_true he (by rw [e]))) _ M2, fun he => ?_⟩
    have hh : l1[j].1 = l2[j].1 := Classical.not_not.1 (of_decide_eq_false he)
    refine ⟨_, rfl, ⟨by omega, by omega⟩, _, _, _, by rw [add_at, add_at, Int.toNat_natCast, Nat.add_assoc]; exact (cell_mod M2 hg (fun h => h)).trans hcell, _, toStr (hby.rd.mod' M2), _, rfl, _, rfl, ⟨by omega, by omega⟩, _, _, _, by rw [add_at, add_at, Int.toNat_natCast, Nat.add_assoc]; exact (cell_mod M2 hp (fun h => h)).trans hcell2, _, toStr (hby2.rd.mod' M2), _, rfl, fun hb => ?_, fun hb => ?_⟩
    · rw [strB_neq] at hb
      exact no (hdiff (fun e => of_decide_eq_true hb (by rw [e]))) _ M2
    · rw [strB_neq] at hb
      have hb' : l1[j].2 = l2[j].2 := Classical.not_not.1 (of_decide_eq_false hb)
      refine ⟨⟨j + 1, by rw [wrap_i64_small (by omega) (by omega)]; omega, hj1, M2, ?_⟩, by dsimp only; rw [wrap_i64_small (by omega) (by omega)]; omega⟩
      rw [List.take_add_one, List.take_add_one, ht, List.getElem?_eq_getElem hj1, List.getElem?_eq_getElem hj2, show l1[j] = l2[j] from Prod.ext hh hb']
  · have hjl : j = l1.length := by omega
    rw [hjl, List.take_length, hl', List.take_length] at ht
    exact hR _ _ ⟨by rw [decide_eq_true ht], M⟩
theorem COw.set {e : TypeId} {sz l k : Nat} {lab : Nat → C} (h : COw w lab c e sz o l k xs) {j : Nat} (hj : j < l * sz) {v : Value} (hv : v.oneCell' = true) :
    ∃ g, o = some ⟨g, 0, none⟩ ∧ CanSet w ⟨g, j, none⟩ v ∧ COw (w.setCell ⟨g, j, none⟩ v) lab c e sz o l k (xs.set j v) ∧ Stp (· = c) w lab (w.setCell ⟨g, j, none⟩ v) lab := by
  rcases h.own.2 with ⟨_, rfl, _⟩ | ⟨g, cur, rfl, hb, hlc, hcm, hcs, ht⟩
  · simp at hj
  · have hle : l * sz ≤ k * sz := Nat.mul_le_mul_right _ hlc
    have hg : lab g = c := h.clr g ⟨_, rfl, rfl⟩
    refine ⟨g, rfl, hb.canSet (by rw [hcs]; omega) hv, ⟨⟨by rw [List.length_set]; exact h.own.1, .inr ⟨g, _, rfl, hb.set j v, hlc, hcm, by simpa using hcs, ?_⟩⟩, h.clr⟩, Stp.setCell hg⟩
    rw [Array.toList_setIfInBounds, List.take_set, ht]
/-- Bytes of one's own that are written over. -/
theorem Spoil_calls {l k : Nat} (h : COw w lab c tU8 1 o l k xs) (hl : l ≤ 2 ^ 40) :
    Calls Try.prog morainehelp_Spoil.n #[.slice o l k] w (fun e w' => e = .returned (.tuple #[]) ∧ Stp (· = c) w lab w' lab) := by
  refine morainehelp_Spoil.vc _ _ _ _ _ ?_
  unfold morainehelp_Spoil.Vc
  refine ⟨fun n w' => ∃ (j : Nat) (ys : List Value), n = (j : Int) ∧ j ≤ l ∧ COw w' lab c tU8 1 o l k ys ∧ Stp (· = c) w lab w' lab, fun n _ => ((l : Int) - n).toNat, ⟨0, xs, rfl, Nat.zero_le _, h, Stp.refl _ _ _⟩, ?_⟩
  rintro _ _ w1 ⟨j, ys, rfl, hj, O, s⟩
  refine ⟨fun hlt => ?_, fun _ => ⟨rfl, s⟩⟩
  obtain ⟨g, rfl, hset, O2, s2⟩ := COw.set (v := .int .u8 238) O (j := j) (by omega) rfl
  refine ⟨_, rfl, ⟨by omega, by omega⟩, by rw [add_at, Int.toNat_natCast, Nat.zero_add]; exact hset, ?_⟩
  intro w2 hw2
  rw [add_at, Int.toNat_natCast, Nat.zero_add] at hw2
  cases hw2
  exact ⟨⟨j + 1, _, by rw [wrap_i64_small (by omega) (by omega)]; omega, by omega, O2, s.trans s2⟩, by dsimp only; rw [wrap_i64_small (by omega) (by omega)]; omega⟩
end
end Go.Proofs.Ytfghidehlnfdiaa
end

section
namespace Go.Vcg

def lk (l : List (BitVec 64)) : St := fun i => l.getD i 0
theorem rnd_congr {s r : St} (n : Nat) (h : ∀ i, i < 25 → s i = r i) : ∀ j, j < 25 → rnd n s j = rnd n r j := by
  have hp : ∀ x, x < 5 → par s x = par r x := fun x hx => by
    simp only [par, parK]
    rw [h (x + 5 * 0) (by omega), h (x + 5 * 1) (by omega), h (x + 5 * 2) (by omega), h (x + 5 * 3) (by omega), h (x + 5 * 4) (by omega)]
  have hb : ∀ j, j < 25 → bbK s j = bbK r j := fun j hj => by
    simp only [bbK, bbXY, ddK]
    rw [h _ (by omega), hp _ (by omega), hp _ (by omega)]
  have hc : ∀ j, j < 25 → chiK (bbK s) j = chiK (bbK r) j := fun j hj => by
    simp only [chiK]
    rw [hb _ (by omega), hb _ (by omega), hb _ (by omega)]
  intro j hj
  simp only [rnd]
  rw [hc 0 (by omega), hc j hj]
def abcL0 : List (BitVec 64) := [0x1636261, 0x0, 0x0, 0x0, 0x0, 0x0, 0x0, 0x0, 0x0, 0x0, 0x0, 0x0, 0x0, 0x0, 0x0, 0x0, 0x8000000000000000, 0x0, 0x0, 0x0, 0x0, 0x0, 0x0, 0x0, 0x0]
def abcL1 : List (BitVec 64) := [0x40001636261, 0x3626100000000016, 0x4b1b1308000, 0x436260, 0x362610b1b1308016, 0x8, 0x6c4c1c6c4c200024, 0x1000000000000008, 0x6c4c30000000002c, 0x10002c6c4c200000, 0x2c6c4c2, 0x2c6c4c220, 0x0, 0x2c40606c2, 0x40020, 0x1636239d898400, 0x1000004000, 0x58d898400, 0x16362610004000, 0x1000000000, 0x4362610000000001, 0x20000000000, 0x63626100058d8985, 0x2000020000000000, 0x58d8984]
def abcL2 : List (BitVec 64) := [0xb6b21630dc026e64, 0x52ba4c56c5443c02, 0xded88d32d221a9bb, 0x535904cb1907aa56, 0xe991b3eb3a57a2ac, 0xeb855fc9f3e0a146, 0xc8dc57e61ea49e20, 0xc79089c798424af5, 0x27b647be0009fc0a, 0x744d8cf0e8f16279, 0x6f3510a79cc66f45, 0x1723ff0092b34376, 0x5e59853074605839, 0x918e737fd5e1ebc6, 0x94433808356fc6f1, 0x90a84b0c6728e506, 0xd4188ab88f232267, 0x2a670ca60fa64406, 0x11d916f3e7a3c06f, 0xac1fbeff27ca0496, 0xbca7ccc0ecc6a273, 0xd1aab11697c8054e, 0x870bd6f6841f1f6, 0x9326ada5ccef36e0, 0xd4ca5839a234e7ce]
def abcL3 : List (BitVec 64) := [0xc61779d91d24b16d, 0x6cefc4cdde848952, 0xa15378cc82c99dd7, 0xaea845d98752cd7c, 0xfbd0cd045a2d2bcb, 0x8c48d4e2154cad66, 0xab8aec7f7604bc0f, 0x7c7274eaf4518220, 0xeb07e061a78e4bc6, 0x97066857e55a4bd, 0xad7721e6cca59f3c, 0x1e981ba123872c56, 0xf6b4e45d717e6b09, 0x9bdbc6096c8d2bc2, 0x5e24ae020cd1508a, 0x1c61295aa9750d20, 0x48ec4c90ba0816d1, 0x94121d34c7b4eb2c, 0xe2e3c08ce6a836da, 0xbd18315e115166f1, 0xa2657100b036c63a, 0x6bc8115a14660210, 0xae05dc7782050c51, 0xfd5982e51a3dc97f, 0xe3c3caa7f63fc4c]
def abcL4 : List (BitVec 64) := [0xe0c2c79192c46b5, 0x5c76741a579886e1, 0x3a0180758acbf2ec, 0x2b459935eb34a4ae, 0xbc2d1c2ce932df28, 0xee8b9c4fdc46a6c0, 0xe1371e96fbaf5e5b, 0x2befb93d67f60fc2, 0xcb3c671c994edf25, 0x1bcc5eb3db7d9cba, 0x9f8f1c348c2bef4c, 0x4d6e61b6248ed041, 0xaf41a881e57332ef, 0xa3318d1b85e6baee, 0xd346917643b931df, 0xd8afef82fc4fdfac, 0x88553b2645021058, 0xa4a4c3fb8b5cfdc2, 0x182265eae5acd485, 0x7e838b9f32755c81, 0x320c917b3189056b, 0x1bc40b84fddc62e1, 0x83c91087c997ea27, 0xc8a268a4e77b364b, 0x6603c31ff29c66c]
def abcL5 : List (BitVec 64) := [0xc5752c04be27db46, 0xd9beccf1009052a3, 0x119bd71b38f3835e, 0xfe0af09f38737d1d, 0xcb6440aa531e8b9d, 0x59b642d62a957b72, 0x1987f654034a55a9, 0xb5f8602a00178b24, 0x6bbfe5cf6516cb81, 0x5afccbfd8626deee, 0xf7922f56982984a9, 0xec4f87a7605cb41b, 0x434fce57506fd61e, 0xe8d054ccb9d4d5eb, 0x87e279d24fbd580, 0x3c7ba22ff0e29e10, 0x2e8e40bb10d3c0, 0x29d85cf41443d097, 0x12ef3acf804ae445, 0x2d49e4a295cccabf, 0x81d3154478ae836a, 0x21a62b74900dcf6b, 0x5ef4a4e57ca56bc5, 0x5f8591a72bf748e4, 0xd7895a653211515b]
def abcL6 : List (BitVec 64) := [0xb8bf4f65f9169b27, 0xea27bcf57b85c834, 0x6c225d7d604c4ebb, 0x5ce98137eba69953, 0x1513adbe7b71d2cd, 0x1b4243588a86630f, 0x49651e06283451af, 0x3822c89fc802ce4c, 0xad095c1ac5c823e6, 0xa24ea521503cfb7a, 0x1e8c73e94b2a7313, 0xb3abfde7ad6c4aa6, 0xa3f7d01f77c79e7, 0xb7eb88336f6ea4e2, 0xdcf5f20bb8636880, 0xca1eb3d63ac863c, 0xdbd29172a686a96a, 0xe9c613854f994069, 0xc83141e8d070e238, 0x2f4bd936dec5af59, 0x3f3e82fbfb8c34e3, 0xdf9edba153642782, 0x64ffd59ed11038b1, 0x95b064a8689c903f, 0x1dfb04d45060708b]
def abcL7 : List (BitVec 64) := [0x1ad52d972e2b6a9, 0xb6bcec9bf64a703d, 0x9fce31686cc35e77, 0xb7415a1a277618e4, 0x403b5e2e1ed8c67e, 0x5341d2d5131d4c72, 0x95ae882a573a4183, 0xfe7bf89282d675f3, 0x4373dc27099338af, 0xc47c816c91cf635, 0x8eab6a1d707cd513, 0xf44b300a25428e6f, 0x6f2104b183ac8642, 0x9805636eadf00028, 0x584bd0a44fb337f6, 0xed55c52a4592beb, 0xc613ad83d308db1a, 0x2a58163a99d35e69, 0xf17693d562866ab9, 0x2cd4a600ad96e02c, 0x9e7d6a60b6eafaf3, 0x50227d8ea117309f, 0x110b8ded51f74d0f, 0xb1424cf9c3c50af0, 0xbdf05497c33177d3]
def abcL8 : List (BitVec 64) := [0xe4fdef2d684cc642, 0x9d647f607f8b13a7, 0x7eb8bb335fa1c983, 0xa9811160dbf15e95, 0x2daba9c1250543bb, 0x5ff481275c8e7001, 0x82ef9690b3fb8994, 0xcb42184bf3dbafcd, 0x7de15c665b133728, 0x4106fd241f1f5a95, 0x2932b23376846559, 0xc566160db5f858f9, 0x9fd1193e136d8add, 0x2b853389d5dc2799, 0x985ab50f090e7e5f, 0x99d77bef83ae3aac, 0xcb4e5d8d0936fba3, 0x2d82e3e716bc9f48, 0x5b684c24c0109ffb, 0xd5aea2723a9b3884, 0x63e9064ebe19aab9, 0x611c49f17262f69b, 0x9b4d0e374b99cab5, 0x8686021a3c424bfd, 0xd91a7be2e452997f]
def abcL9 : List (BitVec 64) := [0xfdca101c44343dbf, 0xd3f04f16198251c2, 0xc18b91d9c5cee899, 0x153e3375f02ef465, 0x801c819508d28a44, 0x3e05e4e6795ef2f1, 0xb358881462fd262c, 0xa4c26ad676116199, 0x534d3574266b2714, 0xb5ac898aa1f28628, 0x9c4ae3ac883484eb, 0xd0e5fb20e6b52ef9, 0xd5d0a2b40ed68d79, 0xb7d351641506bc8f, 0xc67d51b7b8dcf143, 0xa3dc3af5afdd54d2, 0x5e2295b06edde57e, 0xae0aa418f8a46d38, 0xb596b984b4871815, 0xcac8602539076a56, 0x12b57c746eab0ea3, 0xbd4e45bd50b965d1, 0x833129a70db1560f, 0x8447c56597092e5e, 0x6a4d9c9aa7cb5c24]
def abcL10 : List (BitVec 64) := [0xbe86d440499461b, 0x34565929332dfcee, 0x173d70b119429a3e, 0xfd3d1b56386094a6, 0xd13a39fe9a8aa595, 0xaa6154d91265bcf6, 0xab4896aeae4a9118, 0x4014f52202bfe0b1, 0xd127d4f87f8da91d, 0x9a14d076ecfaa79b, 0x1231efb90d3d7c14, 0xa11c75140142d8dc, 0x9a946622b73255b6, 0x69e96bb3bb142bd1, 0xc4b68b1dda791c71, 0xd8012f80c1ebe859, 0x9cacac8cb218a40b, 0x102bcc19d9068016, 0xdf9f46c883d936ac, 0xa987f4177ec16625, 0x84538a17a9ba640a, 0x302c6f55ab3b3b40, 0xa343aeefba4ccef8, 0x6459f49887d5fa5d, 0xd3bac4cad4a42124]
def abcL11 : List (BitVec 64) := [0x211fc9bae97f51bd, 0x429db8c8e39642d, 0x724765e3aaad228c, 0x71e99d9db088032c, 0xc9f870dcedba989f, 0x1fb39d78cc2a23e4, 0x5cfeb22b344fbdc2, 0x849675024aabad6b, 0x4ba371c5bdbc0a18, 0xd9f95de1d885b627, 0xcfed30bdc0e6fc0, 0x992d10dd949efacb, 0x41da10f955acfcdc, 0x22017c630d8bc39c, 0x182abbbda64cc3c3, 0xb82a58529fc6fcca, 0x68bf40f723af5d61, 0x470123b72003e2c5, 0x44ee6ff71f226927, 0x37a0c2746f4d8828, 0xda3ccada334ad218, 0x1a205c79d7dcc8a4, 0x5e5dee56b53c5b62, 0x18ac8494076bbd1, 0x88366d859a13e135]
def abcL12 : List (BitVec 64) := [0xfa2c3164b2758196, 0x25b1709135c90273, 0x4bf4884789ff7c83, 0xbdd65db776d01862, 0x5db39f94e6775f67, 0x85cd6c87ab087022, 0x1d40ac0e0fbac124, 0x6cc59c8d7aa20a2b, 0x7a624c8858c8c6e2, 0xe0ce5c9d1efc3e63, 0x8104aa7f37cf94ba, 0x6d428e93f9ba6deb, 0x11c20a437dc654a2, 0x175b59a419fd6058, 0x8b50d44026f4642d, 0xd0bee533b892fb38, 0xf788a4bade4aff09, 0x9a39bf51c9d27e37, 0x4cabfaa79b4e641b, 0xa3c0a77b16e8bc78, 0x5ec59b57f32b6d3d, 0x9ce51d67562c39f4, 0x47db84dbc2537669, 0xbcface16c82d94bd, 0x7b2f0f0b00812b18]
def abcL13 : List (BitVec 64) := [0x4053c9bf6d3d6225, 0x44996fb39dfe560c, 0x2d04dbf3209e1ff0, 0x5bb2df5696ae86a0, 0xe1c4984221e3aab, 0xf5ba60485cb88364, 0x1c7a6edde87210f5, 0x97d407ea0428b3d8, 0xdb252b269c48960a, 0x874e347ae81c04c9, 0x2603721d8bed51a2, 0x9a23e31e416ba5e6, 0x242b84d9b888b88c, 0x43c1e7e879305962, 0x16d231aebfc992ef, 0xcb73a7f268e8a1a2, 0x42492b31ab64110f, 0xd1b5f85f35b12f3d, 0xd62f3490dd65f7cd, 0x7e8a669465dd5ad7, 0xad55a654830e220f, 0x97b7bf097e24ef6f, 0x7ae23ac50d99e554, 0xb1636217818a53c8, 0xfbc5236b986ea4b8]
def abcL14 : List (BitVec 64) := [0x16f16f5025ce3a90, 0x9ee280e6818cc98, 0xe7e146db48a5543a, 0xf2ed18f0bc9bc19f, 0xbdb9153c13fa6815, 0xb22437dc93f94445, 0x3dad011961bc9ed4, 0x9180b95a60996dd6, 0xc1fbfc9319091759, 0x496f58d61e4d2cee, 0x7c180ad50839117c, 0x37baf487d74d4e12, 0xdfb38c44d6898655, 0xb98711fdf8601711, 0xe0dc5cbdf4a299b, 0x9d60d5ecfa2875d2, 0x7aeef79cc4d8502c, 0x99968daa22bde032, 0x9e5449363ce4569f, 0xa13f73eb12a56e09, 0x6a83ddcdcfb2b6cc, 0x887eab821191df30, 0xf604ddacb6f81231, 0xa591f5dfe147a846, 0xa5e545d18e19c7de]
def abcL15 : List (BitVec 64) := [0xdb6bc054f8ff542b, 0xab0697078caf3fe, 0x7d5cd66bb4d23ef5, 0xd85b42f55dd4cae2, 0xee85eff8696fb1e7, 0x56fbacd6ad8f7c71, 0xdda0d27cbcea277e, 0x46559e432b7c96db, 0x9cfbdb2c154cf345, 0xcdb8aad9b7df5de7, 0x54944ac565de7e29, 0xb7e8c6dab2e84302, 0x903c35ef8bf6189d, 0x630e4ca5f1084ffe, 0x340ded3d1d9d905, 0x84019077aa12cd05, 0x23da77a1ed782897, 0x433fa404cde67214, 0x8b45948e06360e2a, 0xb805b5a26f7f14d4, 0x440a34ce9061ecdd, 0x8675dc52d7366c2b, 0xb767e500999a062c, 0x127c50de4b99b57, 0x2d3711e01c81b2e8]
def abcL16 : List (BitVec 64) := [0x74e813fe982441e4, 0x680c902f5a961737, 0x78674077b2f18bab, 0x2534e49b8a16979c, 0x2d2cf0886d36aeb9, 0x2c4dbad9acf8d95c, 0x3dee87a4e8cc0226, 0x3e96eea60e461969, 0x908d80017301ace9, 0xf497227f7d6144c9, 0x52cb255be8310a8f, 0xf4f4c615a370ef17, 0x451519428c8b396, 0x943e81315a80b622, 0xb8c195cb77250e9a, 0xad9c5d4dc9cebf77, 0x885d805890b2f07c, 0xf6e6cce1febaec41, 0xede59ac7b233effe, 0xaf745694be6cf2f9, 0x98ceb9ee1bb302a7, 0xdf44847dc5d63118, 0x386aa7467d27a80f, 0x29948133c3179a3f, 0xc09098a932ce6b50]
def abcL17 : List (BitVec 64) := [0x17e9b9ccf8ecc826, 0xa7f478ab860e419, 0x22def89ce8c4860b, 0x96e74ea68427d6a3, 0xa5c47f777701a25e, 0xa6b550c049aa5e6a, 0x994eebad391687a0, 0x8250396c1869800d, 0x66b195e7106a641b, 0x59fb3ee663956dd8, 0xbed7a628d38ff3c5, 0x8779999b58a168b0, 0xa53106df7c8a1605, 0x6aeb75712c55a5f4, 0x2f45ab6f2cf5e13e, 0x49053a4f1d9703f9, 0xcbafa86defcdea6c, 0xc7143a0ed02b074b, 0x3ef7a7819eb36778, 0x11f080a7324bdd01, 0x50357b4c5372043d, 0xbea9cc8d687bc198, 0xbbd2f41027dc1776, 0x1409a8da7e0a7505, 0x4a079198b202f2ab]
def abcL18 : List (BitVec 64) := [0x9c5c28927c86a8da, 0x884b3598533edc0b, 0xc0e995b5802a89d9, 0x72a2266d9c6c5aa9, 0x292e7bfecfb833ed, 0xcafbb54fb7e9ca06, 0x2d3e33ba83bc4a68, 0xa077a28db237785a, 0x79b3a4f450651e88, 0x23477e73190be355, 0xdc69b5dccbdc1f46, 0xa77ab98df2b20c68, 0x8e8ff70edf455307, 0x911523ac7695aecd, 0xaad756400376c830, 0x91a9d11f9ded8a1a, 0xc0c1edaec88079f6, 0xc82b1a5edc3f0d9d, 0x15419f8d9768e76e, 0x5a7c43762a759bf3, 0x4ed5f88d91fbeb21, 0xf88149b3aa49bd13, 0x7110bf9ff13a793, 0xfac29ac328e70d32, 0x6b814212e5da9ab7]
def abcL19 : List (BitVec 64) := [0xb981450da33cd840, 0x3df462ac3b90282e, 0x40760c9e1d7374ec, 0x294db80488acdd1f, 0xbd2f6cc0f0d1cc6d, 0xab6a4699a710f59a, 0xb0e82f49a3bddb45, 0xdde48199b43dceb3, 0xeaacbeec88e3ab31, 0xaa4a3a33bed69546, 0xad5d275003c3a3df, 0x4d18726a3a8bf41c, 0xbf186ba2ad61dc8c, 0x95b92d66ae8302d9, 0x35a079a304cef822, 0x26f71cd9f3bc1825, 0x4797eb12f3658017, 0x7d1cd105fcd535c0, 0xba8b4b60d625a474, 0xe0f98ecc00934734, 0xd62a91ae7295f998, 0xa5b91ba8fad44292, 0x827b493e1a6acc1c, 0xaa344558fbc49108, 0xb406a24ce152c099]
def abcL20 : List (BitVec 64) := [0x4fbf9834be58f50a, 0xa382306d97bc5c43, 0xd0d04bd7f6f74908, 0x4124d4acce720646, 0x95277fbd563c9108, 0x825610fac5ad1c4b, 0xcc010750bb04a5a4, 0xfc143ed7f72415b3, 0xe8761635d6fa9a10, 0x4992feacecb6d2fb, 0xa0be6be5d1a6b333, 0xc9c968485eb39acc, 0x823225e07c6a50ac, 0x4b705d8a9255ad3b, 0x30572ecb5f6395d8, 0x8f7992d091aab412, 0xa951a5a1995db33d, 0xe18a94d5f4dbeae5, 0xaaceaa4ca9b2d1ec, 0x6f9fa015671a4666, 0x3f76c625ac0e04c3, 0xbb2518ead89e75a4, 0x77b258640ccbb185, 0xcae48083901441f, 0xc4282458a55c7de9]
def abcL21 : List (BitVec 64) := [0x176762f7f0fd2cb, 0x1c12fe07f282c67e, 0x346191c000e78969, 0x67f3b430601c405, 0xd3a42437438c8e86, 0x8d868a313b4887d, 0xc62793f833307635, 0x1db528788ce0e494, 0xee640139b5f80e3, 0xad449b46a170bda3, 0xdebf382217b21011, 0x2f8b28ec9e7bd9e0, 0x69b846c209f26945, 0x7436b1728d058f95, 0x863b311e80440e18, 0x9999b806834ea7ee, 0x1d19804dd7ea1b10, 0x1304d5082fb814d4, 0xdd27dce38b39eeba, 0x6098ca2b2352a7d8, 0xdb4a9450ae68b9d5, 0x1faaae6e05ee6109, 0x26f058fa421a90b1, 0x883d27c04eea5fe2, 0x5b27577311eac1ae]
def abcL22 : List (BitVec 64) := [0xd04cb71b9cabae45, 0x2b95a1c53c15ddb, 0xe0359c6afad5997d, 0x20b04cab2e156651, 0x9ed1928b47ef075f, 0x50e70ea4ff13f65e, 0xbabd8e3be7ae7d5b, 0x2e1fc9a2e14b053d, 0xd63c979beb69a3d, 0x1b4a6a7b2c90efeb, 0xccc286cdd80b2771, 0xf4ec08e28f30de0e, 0x6d9ba0f2ac85dd5a, 0x282efa4e6c74ec42, 0x7413c7e910af00df, 0x54c2c2ad029da806, 0x8aeec5a24be29de5, 0xe77e7d22e835bd0d, 0xff9d163e79105bb7, 0x2a5668617e64ea38, 0xed01a27ccc8ce807, 0x746fdb23b019845a, 0xcd2e8354040aa7d0, 0xc9b721490efcaa93, 0x959f5f1c3fd9d4e5]
def abcL23 : List (BitVec 64) := [0x4a5e33f40404bf03, 0x4f53f5f85c745645, 0xbfe7ffcaf7d90bd4, 0x6798f5e3869cfb51, 0x2f2d93e0cabe1303, 0xd29eb80fbb4cf454, 0xdd44e267c3ee3c99, 0x939d430b3331fd79, 0x52a2ac97d0973421, 0xae7d7ce8fa7b38d7, 0xc923347f302533be, 0xb73e4447ef0d620e, 0xbec70494127081cf, 0x943dec523b6145c1, 0x8c4156a305431a4c, 0x213d81c45a311b63, 0xc52672f7a35c3580, 0x3983253be87aaa4a, 0x96789fb75e06897d, 0x7a9ebc09686927c8, 0x2d3f32e84b11ad1e, 0x582c26c1de4c25f5, 0x6051c957075810b0, 0x76011562a09d0c77, 0xa1e4860fb04325a]
def abcL24 : List (BitVec 64) := [0x4fa945ea7a65034e, 0x67d6c826a87bd4c7, 0x36a0643ae3e6d1c0, 0x456c2da18ff544ec, 0xbba2151eac382c81, 0xfc2da5e99f7d606f, 0x2ca151d9b481c415, 0x4f2e524ab2335fe, 0x582aa0072a9df8cd, 0x2bd18639e5a7aefc, 0x84c8b945e8d84784, 0x728e60c1558bb1aa, 0x1ddf4b907b006066, 0x2a9a8bc201255fc0, 0x93dd9b50f44a2b8b, 0x162ec00c86ec814a, 0x4287101af69ea11e, 0xd6c478d8dcceddf1, 0x2eb1c10bd6e58d8c, 0x93d65dcbaec7d199, 0x610a29fa9d470304, 0x7ea977f114d5c8d2, 0x50866f9f76e840d5, 0x891c6dc9e7a9b7ce, 0xdaff5e6dcd41bd9a]
theorem abcR0 : ∀ j : Nat, j < 25 → rnd 0 (lk abcL0) j = lk abcL1 j := by decide +kernel
theorem abcR1 : ∀ j : Nat, j < 25 → rnd 1 (lk abcL1) j = lk abcL2 j := by decide +kernel
theorem abcR2 : ∀ j : Nat, j < 25 → rnd 2 (lk abcL2) j = lk abcL3 j := by decide +kernel
theorem abcR3 : ∀ j : Nat, j < 25 → rnd 3 (lk abcL3) j = lk abcL4 j := by decide +kernel
theorem abcR4 : ∀ j : Nat, j < 25 → rnd 4 (lk abcL4) j = lk abcL5 j := by decide +kernel
theorem abcR5 : ∀ j : Nat, j < 25 → rnd 5 (lk abcL5) j = lk abcL6 j := by decide +kernel
theorem abcR6 : ∀ j : Nat, j < 25 → rnd 6 (lk abcL6) j = lk abcL7 j := by decide +kernel
theorem abcR7 : ∀ j : Nat, j < 25 → rnd 7 (lk abcL7) j = lk abcL8 j := by decide +kernel
theorem abcR8 : ∀ j : Nat, j < 25 → rnd 8 (lk abcL8) j = lk abcL9 j := by decide +kernel
theorem abcR9 : ∀ j : Nat, j < 25 → rnd 9 (lk abcL9) j = lk abcL10 j := by decide +kernel
theorem abcR10 : ∀ j : Nat, j < 25 → rnd 10 (lk abcL10) j = lk abcL11 j := by decide +kernel
theorem abcR11 : ∀ j : Nat, j < 25 → rnd 11 (lk abcL11) j = lk abcL12 j := by decide +kernel
theorem abcR12 : ∀ j : Nat, j < 25 → rnd 12 (lk abcL12) j = lk abcL13 j := by decide +kernel
theorem abcR13 : ∀ j : Nat, j < 25 → rnd 13 (lk abcL13) j = lk abcL14 j := by decide +kernel
theorem abcR14 : ∀ j : Nat, j < 25 → rnd 14 (lk abcL14) j = lk abcL15 j := by decide +kernel
theorem abcR15 : ∀ j : Nat, j < 25 → rnd 15 (lk abcL15) j = lk abcL16 j := by decide +kernel
theorem abcR16 : ∀ j : Nat, j < 25 → rnd 16 (lk abcL16) j = lk abcL17 j := by decide +kernel
theorem abcR17 : ∀ j : Nat, j < 25 → rnd 17 (lk abcL17) j = lk abcL18 j := by decide +kernel
theorem abcR18 : ∀ j : Nat, j < 25 → rnd 18 (lk abcL18) j = lk abcL19 j := by decide +kernel
theorem abcR19 : ∀ j : Nat, j < 25 → rnd 19 (lk abcL19) j = lk abcL20 j := by decide +kernel
theorem abcR20 : ∀ j : Nat, j < 25 → rnd 20 (lk abcL20) j = lk abcL21 j := by decide +kernel
theorem abcR21 : ∀ j : Nat, j < 25 → rnd 21 (lk abcL21) j = lk abcL22 j := by decide +kernel
theorem abcR22 : ∀ j : Nat, j < 25 → rnd 22 (lk abcL22) j = lk abcL23 j := by decide +kernel
theorem abcR23 : ∀ j : Nat, j < 25 → rnd 23 (lk abcL23) j = lk abcL24 j := by decide +kernel
theorem abcS0 : ∀ j : Nat, j < 25 → rnds 0 (xorB zeroS (padB [97, 98, 99])) j = lk abcL0 j := by decide +kernel
theorem abcS1 : ∀ j : Nat, j < 25 → rnds 1 (xorB zeroS (padB [97, 98, 99])) j = lk abcL1 j := fun j hj => (rnd_congr 0 abcS0 j hj).trans (abcR0 j hj)
theorem abcS2 : ∀ j : Nat, j < 25 → rnds 2 (xorB zeroS (padB [97, 98, 99])) j = lk abcL2 j := fun j hj => (rnd_congr 1 abcS1 j hj).trans (abcR1 j hj)
theorem abcS3 : ∀ j : Nat, j < 25 → rnds 3 (xorB zeroS (padB [97, 98, 99])) j = lk abcL3 j := fun j hj => (rnd_congr 2 abcS2 j hj).trans (abcR2 j hj)
theorem abcS4 : ∀ j : Nat, j < 25 → rnds 4 (xorB zeroS (padB [97, 98, 99])) j = lk abcL4 j := fun j hj => (rnd_congr 3 abcS3 j hj).trans (abcR3 j hj)
theorem abcS5 : ∀ j : Nat, j < 25 → rnds 5 (xorB zeroS (padB [97, 98, 99])) j = lk abcL5 j := fun j hj => (rnd_congr 4 abcS4 j hj).trans (abcR4 j hj)
theorem abcS6 : ∀ j : Nat, j < 25 → rnds 6 (xorB zeroS (padB [97, 98, 99])) j = lk abcL6 j := fun j hj => (rnd_congr 5 abcS5 j hj).trans (abcR5 j hj)
theorem abcS7 : ∀ j : Nat, j < 25 → rnds 7 (xorB zeroS (padB [97, 98, 99])) j = lk abcL7 j := fun j hj => (rnd_congr 6 abcS6 j hj).trans (abcR6 j hj)
theorem abcS8 : ∀ j : Nat, j < 25 → rnds 8 (xorB zeroS (padB [97, 98, 99])) j = lk abcL8 j := fun j hj => (rnd_congr 7 abcS7 j hj).trans (abcR7 j hj)
theorem abcS9 : ∀ j : Nat, j < 25 → rnds 9 (xorB zeroS (padB [97, 98, 99])) j = lk abcL9 j := fun j hj => (rnd_congr 8 abcS8 j hj).trans (abcR8 j hj)
theorem abcS10 : ∀ j : Nat, j < 25 → rnds 10 (xorB zeroS (padB [97, 98, 99])) j = lk abcL10 j := fun j hj => (rnd_congr 9 abcS9 j hj).trans (abcR9 j hj)
theorem abcS11 : ∀ j : Nat, j < 25 → rnds 11 (xorB zeroS (padB [97, 98, 99])) j = lk abcL11 j := fun j hj => (rnd_congr 10 abcS10 j hj).trans (abcR10 j hj)
theorem abcS12 : ∀ j : Nat, j < 25 → rnds 12 (xorB zeroS (padB [97, 98, 99])) j = lk abcL12 j := fun j hj => (rnd_congr 11 abcS11 j hj).trans (abcR11 j hj)
theorem abcS13 : ∀ j : Nat, j < 25 → rnds 13 (xorB zeroS (padB [97, 98, 99])) j = lk abcL13 j := fun j hj => (rnd_congr 12 abcS12 j hj).trans (abcR12 j hj)
theorem abcS14 : ∀ j : Nat, j < 25 → rnds 14 (xorB zeroS (padB [97, 98, 99])) j = lk abcL14 j := fun j hj => (rnd_congr 13 abcS13 j hj).trans (abcR13 j hj)
theorem abcS15 : ∀ j : Nat, j < 25 → rnds 15 (xorB zeroS (padB [97, 98, 99])) j = lk abcL15 j := fun j hj => (rnd_congr 14 abcS14 j hj).trans (abcR14 j hj)
theorem abcS16 : ∀ j : Nat, j < 25 → rnds 16 (xorB zeroS (padB [97, 98, 99])) j = lk abcL16 j := fun j hj => (rnd_congr 15 abcS15 j hj).trans (abcR15 j hj)
theorem abcS17 : ∀ j : Nat, j < 25 → rnds 17 (xorB zeroS (padB [97, 98, 99])) j = lk abcL17 j := fun j hj => (rnd_congr 16 abcS16 j hj).trans (abcR16 j hj)
theorem abcS18 : ∀ j : Nat, j < 25 → rnds 18 (xorB zeroS (padB [97, 98, 99])) j = lk abcL18 j := fun j hj => (rnd_congr 17 abcS17 j hj).trans (abcR17 j hj)
theorem abcS19 : ∀ j : Nat, j < 25 → rnds 19 (xorB zeroS (padB [97, 98, 99])) j = lk abcL19 j := fun j hj => (rnd_congr 18 abcS18 j hj).trans (abcR18 j hj)
theorem abcS20 : ∀ j : Nat, j < 25 → rnds 20 (xorB zeroS (padB [97, 98, 99])) j = lk abcL20 j := fun j hj => (rnd_congr 19 abcS19 j hj).trans (abcR19 j hj)
theorem abcS21 : ∀ j : Nat, j < 25 → rnds 21 (xorB zeroS (padB [97, 98, 99])) j = lk abcL21 j := fun j hj => (rnd_congr 20 abcS20 j hj).trans (abcR20 j hj)
theorem abcS22 : ∀ j : Nat, j < 25 → rnds 22 (xorB zeroS (padB [97, 98, 99])) j = lk abcL22 j := fun j hj => (rnd_congr 21 abcS21 j hj).trans (abcR21 j hj)
theorem abcS23 : ∀ j : Nat, j < 25 → rnds 23 (xorB zeroS (padB [97, 98, 99])) j = lk abcL23 j := fun j hj => (rnd_congr 22 abcS22 j hj).trans (abcR22 j hj)
theorem abcS24 : ∀ j : Nat, j < 25 → rnds 24 (xorB zeroS (padB [97, 98, 99])) j = lk abcL24 j := fun j hj => (rnd_congr 23 abcS23 j hj).trans (abcR23 j hj)
theorem abc_last (j : Nat) (h : j < 25) : lastS [97, 98, 99] j = lk abcL24 j := abcS24 j h
theorem abc_first : (sumOf [97, 98, 99]).getD 0 0 = 0x4E := by
  rw [getD_sumOf _ (by decide), outAt, abc_last _ (by decide)]; decide +kernel
theorem abc_end : (sumOf [97, 98, 99]).getD 31 0 = 0x45 := by
  rw [getD_sumOf _ (by decide), outAt, abc_last _ (by decide)]; decide +kernel

end Go.Vcg
end
