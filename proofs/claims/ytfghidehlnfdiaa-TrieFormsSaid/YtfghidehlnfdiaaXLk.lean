/- Contracts: Nodes, its closure. -/
/- Contracts: Nodes. -/
/- Contracts: New, Empty, Root, Put, Delete, Nodes. -/
/- Contracts: Nodes; bounds on how many nodes there are. -/
/- Contracts: Nodes. -/
/- Sorted entries and the canonical trie that they make: plain Lean. -/
/- Contracts of the reference: comparison, heads, strings, lists, nibbles. -/
/- Contracts of the reference: Pack; a node that is laid down. -/
/- Contracts of the reference: what a build holds; a node that is laid down. -/
/- The reference's build: segments of entries; what two paths share. -/
/- Contracts of the reference: an item; a reference. -/
/- Contracts of the reference: a row's item. -/
/- Contracts of the reference: a branch's item; all items. -/
/- Contracts of the reference: made, Of. -/
/- Contracts of the reference: Put, Find; the plain map. -/
/- The sorted map and its trie: plain Lean. -/
/- Contracts: Find, Nodes, things held against one another. -/
/- The verification conditions of some functions, printed by a program of ours (wip/PrintVc.lean). -/
/- States as lists; a round looks at 25 lanes alone. -/
import Derived.Test.YtfghidehlnfdiaaTN1
import Derived.Test.YtfghidehlnfdiaaXGrow
import Derived.Test.YtfghidehlnfdiaaProg
import Derived.KernelRfl
import Derived.Test.YtfghidehlnfdiaaKC7
section
set_option linter.unusedVariables false
set_option linter.unusedSimpArgs false
namespace Go.Trie
def met (out : List (By × By)) (h : By) : Bool := out.any fun x => decide (x.1 = h)
/-- A node is laid down, once. -/
def putNode (out : List (By × By)) (top : Bool) (b : By) : List (By × By) := if met out (Go.Vcg.sumOf b) || (!top && decide (b.length < 32)) then out else out ++ [(Go.Vcg.sumOf b, b)]
def visitN : Nd → Bool → List (By × By) → List (By × By)
  | .nil, _, out => out
  | .leaf p v, top, out => putNode out top (bytesOf (.leaf p v))
  | .row p c, top, out => putNode (visitN c false out) top (bytesOf (.row p c))
  | .branch cs v, top, out => putNode ((List.finRange 16).foldl (fun o i => visitN (cs i) false o) out) top (bytesOf (.branch cs v))
def cnt : Nd → Nat
  | .nil => 0
  | .leaf _ _ => 1
  | .row _ c => 1 + cnt c
  | .branch cs _ => 1 + ((List.finRange 16).map fun i => cnt (cs i)).sum
theorem putNode_len (out : List (By × By)) (top : Bool) (b : By) : (putNode out top b).length ≤ out.length + 1 := by
  unfold putNode; split <;> simp
theorem foldl_len {cs : Fin 16 → Nd} (ih : ∀ i out, (visitN (cs i) false out).length ≤ out.length + cnt (cs i)) : ∀ (l : List (Fin 16)) (out : List (By × By)), (l.foldl (fun o i => visitN (cs i) false o) out).length ≤ out.length + (l.map fun i => cnt (cs i)).sum
  | [], out => by simp
  | i :: r, out => by
    simp only [List.foldl_cons, List.map_cons, List.sum_cons]
    have h1 := foldl_len ih r (visitN (cs i) false out)
    have h2 := ih i out
    omega
theorem visitN_len : ∀ (n : Nd) (top : Bool) (out : List (By × By)), (visitN n top out).length ≤ out.length + cnt n
  | .nil, _, out => by simp [visitN]
  | .leaf p v, top, out => by simp only [visitN, cnt]; exact putNode_len _ _ _
  | .row p c, top, out => by
    simp only [visitN, cnt]
    have h1 := putNode_len (visitN c false out) top (bytesOf (.row p c))
    have h2 := visitN_len c false out
    omega
  | .branch cs v, top, out => by
    simp only [visitN, cnt]
    have h1 := putNode_len ((List.finRange 16).foldl (fun o i => visitN (cs i) false o) out) top (bytesOf (.branch cs v))
    have h2 := foldl_len (fun i out => visitN_len (cs i) false out) (List.finRange 16) out
    omega
end Go.Trie
namespace Go.Proofs.Ytfghidehlnfdiaa
open Go Go.Vcg Go.Trie
structure VS (w : World) (L : Nat → Nat) (d2 d3 d4 m : Nat) (out : List (By × By)) : Prop where
  f : CB w L 3 d2 170 #[.func (.func 97) #[] #[.pointer (some ⟨d2, 0, none⟩), .pointer (some ⟨d3, 0, none⟩), .pointer (some ⟨d4, 0, none⟩)]]
  mc : CB w L 3 d3 169 #[.map (some m)]
  met : ∃ es : List (H32 × Value), CM (fun _ => True) encH w L 2 m es ∧ (es.map fun x => x.1.1) = out.map Prod.fst ∧ ∀ x ∈ es, x.2 = .agg #[]
  out : ∃ o n k, CB w L 1 d4 tSlNd #[.slice o n k] ∧ NdOwn w L 4 5 out o n k
theorem VS.stp {S : Nat → Prop} {w w' : World} {L L' : Nat → Nat} {d2 d3 d4 m : Nat} {out : List (By × By)} (h : VS w L d2 d3 d4 m out) (s : Stp S w L w' L') (h1 : ¬ S 1) (h2 : ¬ S 2) (h3 : ¬ S 3) (h4 : ¬ S 4) (h5 : ¬ S 5) : VS w' L' d2 d3 d4 m out := by
  obtain ⟨es, m1, m2⟩ := h.met
  obtain ⟨o, n, k, o1, o2⟩ := h.out
  exact ⟨h.f.stp s h3, h.mc.stp s h3, ⟨es, m1.stp s h2, m2⟩, ⟨o, n, k, o1.stp s h1, o2.stp s h4 h5⟩⟩
theorem VS.mod' {w w' : World} {L : Nat → Nat} {d2 d3 d4 m : Nat} {out : List (By × By)} (h : VS w L d2 d3 d4 m out) (M : Vcg.Mod NoB w w') : VS w' (ext L w.heap.size 5) d2 d3 d4 m out :=
  h.stp (S := NoS) (Stp.of_nob M 5) (fun h => h) (fun h => h) (fun h => h) (fun h => h) (fun h => h)
end Go.Proofs.Ytfghidehlnfdiaa
end

section
set_option linter.unusedVariables false
set_option linter.unusedSimpArgs false
namespace Go.Proofs.Ytfghidehlnfdiaa
open Go Go.Vcg Go.Trie
end Go.Proofs.Ytfghidehlnfdiaa
end

section
set_option linter.unusedVariables false
set_option linter.unusedSimpArgs false
namespace Go.Trie
def emptyH : By := Go.Vcg.sumOf [128]
def rootOf (n : Nd) : By := Go.Vcg.sumOf (bytesOf n)
theorem bytes_nil : bytesOf .nil = [128] := by simp [bytesOf, itemOf, enc, own, head]
def putT (n : Nd) (k x : By) : Int × Nd := if k.length > 64 then (140, n) else if x = [] ∨ x.length > 1024 then (141, n) else (0, put n (nibbles k) x)
end Go.Trie
namespace Go.Proofs.Ytfghidehlnfdiaa
open Go Go.Vcg Go.Trie
theorem guard_hash : Try.prog.eqGuardType Try.prog.depth tHash = false := by kernel_rfl
theorem info_hash : (Try.prog.info? tHash).map (·.size) = some 32 := by kernel_rfl
theorem hash_ne {w : World} (x y : Operand) {a b : By} (ha : a.length = 32) (hb : b.length = 32) : Sem.run Try.prog (semBin .neq tHash x y (.agg (hashA a)) (.agg (hashA b))) w = .ok (.bool (decide (a ≠ b))) w := by
  have h := semNe_arr (P := Try.prog) (w := w) und_hash und_u8 info_u8_size guard_hash x y (fun i => ((a.getD i 0).toNat : Int)) (fun i => ((b.getD i 0).toNat : Int))
  refine h.trans (congrArg (fun x => Result.ok (Value.bool x) w) ?_)
  rw [Bool.eq_iff_iff, Bool.not_eq_true', decide_eq_false_iff_not, decide_eq_true_eq, ne_eq]
  refine not_congr ?_
  constructor
  · intro h
    refine hashA_inj ha hb (arrOf_congr (fun i hi => ?_))
    have := h i hi
    simp only [bV, this]
  · rintro rfl i _; rfl
theorem hash_eq {w : World} (x y : Operand) {a b : By} (ha : a.length = 32) (hb : b.length = 32) : Sem.run Try.prog (semBin .eql tHash x y (.agg (hashA a)) (.agg (hashA b))) w = .ok (.bool (decide (a = b))) w := by
  have h := semEq_arr (P := Try.prog) (w := w) und_hash und_u8 info_u8_size guard_hash x y (fun i => ((a.getD i 0).toNat : Int)) (fun i => ((b.getD i 0).toNat : Int))
  refine h.trans (congrArg (fun x => Result.ok (Value.bool x) w) ?_)
  rw [Bool.eq_iff_iff, decide_eq_true_eq, decide_eq_true_eq]
  constructor
  · intro h
    refine hashA_inj ha hb (arrOf_congr (fun i hi => ?_))
    have := h i hi
    simp only [bV, this]
  · rintro rfl i _; rfl
/-- A hash put into a block of its own. -/
theorem hash_store {w : World} {D : Nat} {cs : Array Value} (H : Blk w D tHash cs) (hs : cs.size = 32) (h : By) :
    Sem.run Try.prog (Instr.storeAt 26 (.pointer (some ⟨D, 0, none⟩)) (.agg (hashA h))) w = .ok () (w.setRow D (hashA h)) ∧ Blk (w.setRow D (hashA h)) D tHash (hashA h) ∧ Vcg.Mod (· = D) w (w.setRow D (hashA h)) :=
  ⟨H.storeAll (by rw [size_hashA]; exact info_hash) (by rw [hs, size_hashA]) (hashA_one _), H.row_same _, Mod.setRow _ _ _⟩
theorem one_u8 (w : World) : RdB (w.alloc (.cells #[.int .u8 128] 5)) (some ⟨w.heap.size, 0, none⟩) [128] :=
  RdB.of_blk (Blk.new w 5 #[bV 128]) (fun j hj => by
    obtain rfl : j = 0 := by simpa using hj
    rfl)
theorem Empty_calls (w : World) : Calls Try.prog trie_Empty.n #[] w (fun e w' => e = .returned (.agg (hashA emptyH)) ∧ Vcg.Mod NoB w w') := by
  refine trie_Empty.vc _ _ ?_
  unfold trie_Empty.Vc
  rintro d1 w1 ⟨rfl, rfl⟩ d2 w2 ⟨rfl, rfl⟩ d3 w3 ⟨rfl, rfl⟩
  have M1 := Mod.alloc (S := NoB) w (.cells (Array.replicate 32 (.int .u8 0)) 26)
  have H := Blk.new w 26 (Array.replicate 32 (.int .u8 0))
  have hs := size_alloc w (.cells (Array.replicate 32 (.int .u8 0)) 26)
  generalize w.alloc (.cells (Array.replicate 32 (.int .u8 0)) 26) = w1 at *
  have r2 := one_u8 w1
  have M2 := Mod.alloc (S := NoB) w1 (.cells #[.int .u8 128] 5)
  generalize w1.alloc (.cells #[.int .u8 128] 5) = w2 at *
  have B3 := Blk.new w2 22 #[.slice (some ⟨w1.heap.size, 0, none⟩) 1 1]
  have M3 := Mod.alloc (S := NoB) w2 (.cells #[.slice (some ⟨w1.heap.size, 0, none⟩) 1 1] 22)
  refine (Sum_calls [[128]] rfl (by simp) (RdBB.one B3 (r2.mod' M3)) (by simp)).mono ?_
  rintro _ w4 ⟨rfl, M4⟩
  have M24 := (M2.trans M3 (fun _ _ h => h)).trans M4 (fun _ _ h => h)
  obtain ⟨h1, h2, h3⟩ := hash_store (H.mod' M24) (by simp) (sumOf [[128]].flatten)
  exact ⟨_, rfl, _, h1, _, h2.rowAll (size_hashA _), rfl, mod_of (M1.trans M24 (fun _ _ h => h)) h3 (Nat.le_refl _)⟩
abbrev tTrie : TypeId := 164
theorem Open_calls {w : World} {v : Value} (hv : v.oneCell' = true) : Calls Try.prog trie_Open.n #[.agg (hashA emptyH), v] w (fun e w' => ∃ t, e = .returned (.pointer (some ⟨t, 0, none⟩)) ∧ Vcg.Mod NoB w w' ∧ w.heap.size ≤ t ∧ Blk w' t tTrie #[.nilIface, v]) := by
  refine trie_Open.vc _ _ _ _ ?_
  unfold trie_Open.Vc
  rintro d1 w1 ⟨rfl, rfl⟩
  refine ⟨hv, ?_⟩
  rintro d2 w2 ⟨rfl, rfl⟩ _ rfl
  have M1 := Mod.alloc (S := NoB) w (.cells (hashA emptyH) 26)
  have H1 := Blk.new w 26 (hashA emptyH)
  have hs := size_alloc w (.cells (hashA emptyH) 26)
  generalize w.alloc (.cells (hashA emptyH) 26) = w1 at *
  have M2 := (Mod.alloc (S := NoB) w1 (.cells #[.nilIface, v] 164)).step_drew
  have T := (Blk.new w1 164 #[.nilIface, v]).drew
  generalize (w1.alloc (.cells #[.nilIface, v] 164)).drew = w2 at *
  refine ⟨hashA emptyH, (H1.mod' M2).rowAll (size_hashA _), (Empty_calls w2).mono ?_⟩
  rintro _ w3 ⟨rfl, M3⟩
  refine ⟨_, rfl, ((H1.mod' M2).mod' M3).rowAll (size_hashA _), _, hash_ne _ _ (length_sumOf _) (length_sumOf _), _, rfl, fun h => absurd (of_decide_eq_true h) (fun h => h rfl), fun _ => ⟨_, rfl, (M1.trans M2 (fun _ _ h => h)).trans M3 (fun _ _ h => h), by omega, T.mod' M3⟩⟩
theorem und_nodeMap : Try.prog.underlying 124 = some (.map tHash tSlU8) := by kernel_rfl
theorem run_makeMap {P : Program} {t k e : TypeId} (h : P.underlying t = some (.map k e)) (w : World) : ∃ w', Sem.run P (Instr.makeMap t none) w = .ok (.map (some w.heap.size)) w' ∧ Vcg.Mod NoB w w' ∧ w'.heap[w.heap.size]? = some (.map #[] 0) := by
  exact ⟨w.alloc (.map #[] 0), rfl, Mod.alloc _ _, heap_alloc_new _ _⟩
theorem tNew_calls (w : World) (c : Nat) : Calls Try.prog trie_New.n #[.agg (hashA emptyH), .slice none 0 c] w (fun e w' => ∃ t v, e = .returned (.pointer (some ⟨t, 0, none⟩)) ∧ Vcg.Mod NoB w w' ∧ w.heap.size ≤ t ∧ Blk w' t tTrie #[.nilIface, v]) := by
  refine trie_New.vc _ _ _ _ _ _ ?_
  unfold trie_New.Vc
  rintro d1 w1 ⟨rfl, rfl⟩
  have M1 := Mod.alloc (S := NoB) w (.cells (hashA emptyH) 26)
  have H1 := Blk.new w 26 (hashA emptyH)
  generalize w.alloc (.cells (hashA emptyH) 26) = w1 at *
  obtain ⟨w2, hr2, M2, _⟩ := run_makeMap und_nodeMap w1
  refine ⟨_, w2, hr2, _, rfl, ?_⟩
  rintro d3 w3 ⟨rfl, rfl⟩
  have M3 := Mod.alloc (S := NoB) w2 (.cells #[.map none] 124)
  have B3 := Blk.new w2 124 #[.map none]
  have M03 := (M1.trans M2 (fun _ _ h => h)).trans M3 (fun _ _ h => h)
  have hsz : w.heap.size ≤ w2.heap.size := (M1.trans M2 (fun _ _ h => h)).size
  have H3 := H1.mod' (M2.trans M3 (fun _ _ h => h))
  have hlt := H1.lt
  have hle := M2.size
  generalize w2.alloc (.cells #[.map none] 124) = w3 at *
  refine ⟨B3.canSet (by simp) rfl, ?_⟩
  rintro _ rfl
  have H4 := H3.set_ne (a := ⟨w2.heap.size, 0, none⟩) (v := .map (some w1.heap.size)) (by dsimp only; omega)
  have M04 : Vcg.Mod NoB w _ := M03.step_set (a := ⟨w2.heap.size, 0, none⟩) (v := .map (some w1.heap.size)) (fun h => absurd h (by dsimp only; omega))
  generalize w3.setCell ⟨w2.heap.size, 0, none⟩ (.map (some w1.heap.size)) = w4 at *
  refine ⟨fun n w' => n = 0 ∧ w' = w4, fun _ _ => 0, ⟨rfl, rfl⟩, ?_⟩
  rintro _ _ _ ⟨rfl, rfl⟩
  refine ⟨fun h => absurd h (by simp), fun _ => ⟨_, H4.rowAll (size_hashA _), (Open_calls rfl).mono ?_⟩⟩
  rintro _ w5 ⟨t, rfl, M5, ht, T⟩
  exact ⟨_, rfl, t, _, rfl, M04.trans M5 (fun _ _ h => h), Nat.le_trans M04.size ht, T⟩
section
variable {C : Type} {S : C → Prop} {w0 w w1 w' : World} {lab lab2 : Nat → C} {ct c : C}
/-- A trie: its own cells of the colour ct, its nodes of the colour c. -/
def TrieAt (w : World) (lab : Nat → C) (ct c : C) (t : Nat) (n : Nd) : Prop := ∃ v g, CB w lab ct t tTrie #[v, g] ∧ NodeAt w lab c n v ∧ Canon n ∧ Fits n
theorem TrieAt.stp {lab' : Nat → C} {t : Nat} {n : Nd} (h : TrieAt w lab ct c t n) (s : Stp S w lab w' lab') (h1 : ¬ S ct) (h2 : ¬ S c) : TrieAt w' lab' ct c t n := by
  obtain ⟨v, g, a, b, d⟩ := h
  exact ⟨v, g, a.stp s h1, b.stp s h2, d⟩
theorem nib_put (k : By) (h : k.length ≤ 64) : (nibbles k).length ≤ 128 := by rw [nibbles_len]; omega
theorem fits_nil : Fits .nil := fun k v h => by simp [Trie.get] at h
theorem Put_calls {t : Nat} {n : Nd} {o ox : Option Addr} {k kx : Nat} {key x : By} (h : TrieAt w lab ct c t n) (hne : ct ≠ c) (hk : RdB w o key) (hx : RdB w ox x) :
    Calls Try.prog trie_Trie_Put.n #[.pointer (some ⟨t, 0, none⟩), .slice o key.length k, .slice ox x.length kx] w (fun e w' => e = .returned (.int .i64 (putT n key x).1) ∧ Stp (· = ct) w lab w' (ext lab w.heap.size c) ∧ TrieAt w' (ext lab w.heap.size c) ct c t (putT n key x).2) := by
  refine calls_gen fun R hR => trie_Trie_Put.vc _ _ _ _ _ _ _ _ _ ?_
  unfold trie_Trie_Put.Vc
  obtain ⟨v, g, T, hn, hc, hf⟩ := h
  have s0 : Stp NoS w lab w (ext lab w.heap.size c) := Stp.of_nob (Mod.refl w) c
  have T0 : TrieAt w (ext lab w.heap.size c) ct c t n := ⟨v, g, T.stp s0 (fun h => h), hn.stp s0 (fun h => h), hc, hf⟩
  have stay : ∀ z, putT n key x = (z, n) → R (.returned (.int .i64 z)) w := fun z e => by
    rw [e] at hR
    exact hR _ _ ⟨rfl, s0.mono (fun _ h => h.elim), T0⟩
  refine ⟨fun h1 => stay _ (by unfold putT; rw [if_pos (by omega)]), fun h1 => ⟨fun h2 => stay _ ?_, fun h2 => ⟨fun h3 => stay _ ?_, fun h3 => ?_⟩⟩⟩
  · unfold putT; rw [if_neg (by omega), if_pos (.inl (List.eq_nil_of_length_eq_zero (by omega)))]
  · unfold putT; rw [if_neg (by omega), if_pos (.inr (by omega))]
  rintro _ rfl
  have hxne : x ≠ [] := by rintro rfl; simp at h2
  have e : putT n key x = (0, Trie.put n (nibbles key) x) := by
    unfold putT
    rw [if_neg (by omega), if_neg]
    rintro (h | h)
    · exact hxne h
    · omega
  rw [e] at hR
  have MD := Mod.drew (S := NoB) w
  have hnl := nib_put key (by omega)
  refine ⟨v, T.blk.drew.rd1 rfl, (Nibbles_calls (hk.mod' MD) (by omega)).mono ?_⟩
  rintro _ w1 ⟨o1, k1, rfl, F1⟩
  have M1 := MD.trans F1.mod (fun _ _ h => h)
  refine ⟨_, _, _, rfl, (T.blk.mod' M1).rd1 rfl, (Clone_calls (hx.mod' M1) (by omega)).mono ?_⟩
  rintro _ w2 ⟨o2, k2, rfl, F2⟩
  have M2 := M1.trans F2.mod (fun _ _ h => h)
  have s2 : Stp NoS w lab w2 (ext lab w.heap.size c) := Stp.of_nob M2 c
  have F1' := Fresh.from_ F1 MD
  have F2' := Fresh.from_ F2 M1
  refine ⟨_, _, _, rfl, (T.blk.mod' M2).rd1 rfl, ?_⟩
  refine (tput_calls n (t := t) (hn.stp s2 (fun h => h)) hc (small_of hc hf) (fresh_cby F1' F2.mod) F1.own.cap.1 hnl (nib_nibbles key) (fresh_cby F2' (Mod.refl _)) (by omega)).mono ?_
  rintro _ w3 ⟨v3, rfl, G3⟩
  have G3' := grown_of (s2.trans G3.stp) G3.2
  have M3 := G3'.1
  have T3 := T.blk.mod' M3
  have hpo := put_ok hc (nib_nibbles key) hxne
  refine ⟨_, _, rfl, fun _ => ⟨T3.canSet (by simp) G3'.2.one, ?_⟩, fun h => (h rfl).elim⟩
  rintro _ rfl
  have lt : ext lab w.heap.size c t = ct := by rw [ext_old T.blk.lt]; exact T.clr
  have s4 : Stp (· = ct) w3 (ext lab w.heap.size c) (w3.setCell ⟨t, 0, none⟩ v3) (ext lab w.heap.size c) := Stp.setCell lt
  refine hR _ _ ⟨rfl, (G3'.stp.mono (fun _ h => h.elim)).trans s4, v3, g, ⟨T3.set 0 v3, lt⟩, G3'.2.stp s4 (fun h => hne h.symm), hpo.1, hf.put hc (nib_nibbles key) hxne hnl (by omega)⟩
theorem Root_calls {t : Nat} {n : Nd} (h : TrieAt w lab ct c t n) :
    Calls Try.prog trie_Trie_Root.n #[.pointer (some ⟨t, 0, none⟩)] w (fun e w' => e = .returned (.agg (hashA (Trie.rootOf n))) ∧ Vcg.Mod NoB w w') := by
  refine trie_Trie_Root.vc _ _ _ ?_
  unfold trie_Trie_Root.Vc
  obtain ⟨v, g, T, hn, hc, hf⟩ := h
  rintro d1 w1 ⟨rfl, rfl⟩
  have M1 := Mod.alloc (S := NoB) w (.cells (Array.replicate 32 (.int .u8 0)) 26)
  have H := Blk.new w 26 (Array.replicate 32 (.int .u8 0))
  generalize w.alloc (.cells (Array.replicate 32 (.int .u8 0)) 26) = w1 at *
  refine ⟨v, (T.blk.mod' M1).rd1 rfl, ?_⟩
  by_cases hnil : n = .nil
  · subst hnil
    refine .inl ⟨hn, (Empty_calls w1).mono ?_⟩
    rintro _ w2 ⟨rfl, M2⟩
    obtain ⟨h1, h2, h3⟩ := hash_store (H.mod' M2) (by simp) emptyH
    refine ⟨_, rfl, _, h1, _, h2.rowAll (size_hashA _), ?_, mod_of (M1.trans M2 (fun _ _ h => h)) h3 (Nat.le_refl _)⟩
    rw [Trie.rootOf, bytes_nil]; rfl
  · right
    have hif := (node_iface hn).resolve_left (fun h => hnil (isNil_iff.1 h.2))
    have hask : ∃ r, Sem.run Try.prog (Instr.typeAssert v 145 149 true) w1 = .ok r w1 ∧ ∃ o, r = .tuple #[.pointer o, .bool false] := by
      cases n with
      | nil => exact (hnil rfl).elim
      | leaf p x => obtain ⟨b, op, cp, ov, cv, rfl, _⟩ := hn; exact ⟨_, ask_no und_phashed zero_phashed (by decide) w1, _, rfl⟩
      | row p k => obtain ⟨b, op, cp, vk, rfl, _⟩ := hn; exact ⟨_, ask_no und_phashed zero_phashed (by decide) w1, _, rfl⟩
      | branch cs x => obtain ⟨b, vs, ov, cv, rfl, _⟩ := hn; exact ⟨_, ask_no und_phashed zero_phashed (by decide) w1, _, rfl⟩
    obtain ⟨r, hr, o, rfl⟩ := hask
    have hs := small_of hc hf
    have hbl := bytes_le hs
    refine ⟨hif.1, _, hr, _, _, rfl, fun h => (by cases h), fun _ => ⟨v, (T.blk.mod' M1).rd1 rfl, (encoded_calls hc hs hnil hn M1).mono ?_⟩⟩
    rintro _ w2 ⟨o2, k2, rfl, F2⟩
    refine ⟨_, _, _, rfl, ?_⟩
    rintro d3 w3 ⟨rfl, rfl⟩
    have B3 := Blk.new w2 22 #[.slice o2 (bytesOf n).length k2]
    have M3 := Mod.alloc (S := NoB) w2 (.cells #[.slice o2 (bytesOf n).length k2] 22)
    refine (Sum_calls [bytesOf n] rfl (by simp) (RdBB.one B3 ((fresh_bytes F2).mod' M3)) (by simp; omega)).mono ?_
    rintro _ w4 ⟨rfl, M4⟩
    have M14 := (F2.mod.trans M3 (fun _ _ h => h)).trans M4 (fun _ _ h => h)
    have e2 : [bytesOf n].flatten = bytesOf n := by simp
    rw [e2]
    obtain ⟨h1, h2, h3⟩ := hash_store (H.mod' M14) (by simp) (sumOf (bytesOf n))
    exact ⟨_, rfl, _, h1, _, h2.rowAll (size_hashA _), rfl, mod_of (M1.trans M14 (fun _ _ h => h)) h3 (Nat.le_refl _)⟩
end
end Go.Proofs.Ytfghidehlnfdiaa
end

section
set_option linter.unusedVariables false
set_option linter.unusedSimpArgs false
namespace Go.Trie
end Go.Trie
end

section
set_option linter.unusedVariables false
set_option linter.unusedSimpArgs false
namespace Go.Proofs.Ytfghidehlnfdiaa
open Go Go.Vcg Go.Trie
section
variable {C C' : Type} {S : C → Prop} {w0 w w1 w' : World} {lab : Nat → C} {lab' : Nat → C'} {ct c cb : C} {c' cb' : C'}
theorem COw.re {e : TypeId} {sz : Nat} {o : Option Addr} {l k : Nat} {xs : List Value} (h : COw w lab c e sz o l k xs) (hl : ∀ k, k < w.heap.size → lab k = c → lab' k = c') : COw w lab' c' e sz o l k xs :=
  ⟨h.own, fun k hk => hl k (h.own.lt hk) (h.clr k hk)⟩
theorem NdCells.re {vs : List Value} {l : List (By × By)} (h : NdCells w lab cb vs l) (hl : ∀ k, k < w.heap.size → lab k = cb → lab' k = cb') : NdCells w lab' cb' vs l :=
  ⟨h.1, fun j hj => by obtain ⟨h1, h2, ob, kb, h3, h4⟩ := h.2 j hj; exact ⟨h1, h2, ob, kb, h3, CBy.re h4 hl⟩⟩
/-- A row of nodes that can be read. -/
def NdRow (w : World) (lab : Nat → C) (c : C) (l : List (By × By)) (o : Option Addr) (n : Nat) : Prop :=
  n = l.length ∧ ∃ vs, CRow w lab c o vs ∧ NdCells w lab c vs l
theorem NdRow.stp {lab2 : Nat → C} {l : List (By × By)} {o : Option Addr} {n : Nat} (h : NdRow w lab c l o n) (s : Stp S w lab w' lab2) (hs : ¬ S c) : NdRow w' lab2 c l o n := by
  obtain ⟨h1, vs, h2, h3⟩ := h
  exact ⟨h1, vs, h2.stp s hs, h3.stp s hs⟩
theorem NdRow.nil (w : World) (lab : Nat → C) (c : C) (o : Option Addr) : NdRow w lab c [] o 0 := ⟨rfl, [], CRow.nil w lab c o, NdCells.nil w lab c⟩
end
end Go.Proofs.Ytfghidehlnfdiaa
end

section
set_option linter.unusedVariables false
set_option linter.unusedSimpArgs false
namespace Go.Trie
/-- Byte by byte; a shorter one ahead of one that begins like it. -/
def ltB : By → By → Prop
  | _, [] => False
  | [], _ :: _ => True
  | a :: p, b :: q => a < b ∨ (a = b ∧ ltB p q)
theorem ltB_nil (p : By) : ¬ ltB p [] := by cases p <;> simp [ltB]
theorem ltB_irrefl : ∀ (p : By), ¬ ltB p p
  | [], h => h
  | a :: p, h => by
    rcases h with h | h
    · exact absurd h (UInt8.lt_irrefl a)
    · exact ltB_irrefl p h.2
theorem ltB_cons {a : UInt8} {p q : By} : ltB (a :: p) (a :: q) ↔ ltB p q := by
  simp only [ltB]
  constructor
  · rintro (h | h)
    · exact absurd h (UInt8.lt_irrefl a)
    · exact h.2
  · exact fun h => .inr ⟨trivial, h⟩
theorem ltB_append {t p q : By} : ltB (t ++ p) (t ++ q) ↔ ltB p q := by
  induction t with
  | nil => exact Iff.rfl
  | cons a t ih => rw [List.cons_append, List.cons_append, ltB_cons, ih]
/-- Sorted entries that are a trie's. -/
def Rep (s : List (By × By)) (n : Nd) : Prop := s.Pairwise (fun x y => ltB x.1 y.1) ∧ ∀ k v, get n k = some v ↔ (k, v) ∈ s
theorem Rep.nil : Rep [] .nil := ⟨List.Pairwise.nil, fun k v => by simp [get]⟩
theorem Rep.leaf {s : List (By × By)} {p v : By} (h : Rep s (.leaf p v)) : s = [(p, v)] := by
  have hm : ∀ x ∈ s, x = (p, v) := fun x hx => by
    have := (h.2 x.1 x.2).2 hx
    simp only [get] at this
    split at this
    · rename_i hp
      cases this
      exact Prod.ext hp.symm rfl
    · cases this
  have hin : (p, v) ∈ s := (h.2 p v).1 (by simp [get])
  cases s with
  | nil => simp at hin
  | cons x r =>
    cases r with
    | nil => rw [hm x (by simp)]
    | cons y r =>
      have h1 := hm x (by simp)
      have h2 := hm y (by simp)
      have := (List.pairwise_cons.1 h.1).1 y (by simp)
      rw [h1, h2] at this
      exact (ltB_irrefl _ this).elim
/-- Two keys at least. -/
theorem Rep.two {s : List (By × By)} {n : Nd} (h : Rep s n) {k1 v1 k2 v2 : By} (h1 : get n k1 = some v1) (h2 : get n k2 = some v2) (hne : k1 ≠ k2) : 2 ≤ s.length := by
  have m1 := (h.2 _ _).1 h1
  have m2 := (h.2 _ _).1 h2
  match s, m1, m2 with
  | [x], m1, m2 =>
    simp at m1 m2
    exact (hne (by rw [← m2] at m1; exact (Prod.mk.inj m1).1)).elim
  | x :: y :: r, _, _ => simp
theorem Rep.row {s : List (By × By)} {p : By} {c : Nd} (h : Rep s (.row p c)) : (∀ x ∈ s, p <+: x.1) ∧ Rep (s.map fun x => (x.1.drop p.length, x.2)) c := by
  have hp : ∀ x ∈ s, p <+: x.1 := fun x hx => by
    obtain ⟨r, hr, _⟩ := get_row_some ((h.2 x.1 x.2).2 hx)
    exact ⟨r, hr.symm⟩
  refine ⟨hp, ?_, fun k v => ?_⟩
  · rw [List.pairwise_map]
    refine List.Pairwise.imp_of_mem (fun {x y} hx hy hxy => ?_) h.1
    obtain ⟨r, hr⟩ := hp x hx
    obtain ⟨t, ht⟩ := hp y hy
    rw [← hr, ← ht, ltB_append] at hxy
    simp only [← hr, ← ht, List.drop_left]
    exact hxy
  · rw [← get_row_append p k c, h.2]
    simp only [List.mem_map]
    constructor
    · intro hm
      exact ⟨_, hm, by simp⟩
    · rintro ⟨x, hx, he⟩
      obtain ⟨r, hr⟩ := hp x hx
      simp only [Prod.mk.injEq] at he
      rw [← hr, List.drop_left] at he
      obtain ⟨rfl, rfl⟩ := he
      rw [hr]; exact hx
/-- Between a first and a last path that begin with one nibble all do. -/
theorem all_head {s : List (By × By)} (hs : s.Pairwise (fun x y => ltB x.1 y.1)) {x y : By × By} {a : UInt8} {p q : By} (hx : s.head? = some x) (hy : s.getLast? = some y) (hxa : x.1 = a :: p) (hya : y.1 = a :: q) : ∀ z ∈ s, ∃ r, z.1 = a :: r := by
  have hlast : ∀ {s : List (By × By)} {y : By × By}, s.Pairwise (fun x y => ltB x.1 y.1) → s.getLast? = some y → ∀ z ∈ s, z = y ∨ ltB z.1 y.1 := by
    intro s
    induction s with
    | nil => intro y _ h; simp at h
    | cons x r ih =>
      intro y hp hl z hz
      rw [List.pairwise_cons] at hp
      cases r with
      | nil => simp at hl hz; subst hl; exact .inl hz
      | cons x2 r2 =>
        rw [List.getLast?_cons_cons] at hl
        rcases List.mem_cons.1 hz with rfl | hz
        · have hy : y ∈ x2 :: r2 := List.mem_of_getLast? hl
          exact .inr (hp.1 y hy)
        · exact ih hp.2 hl z hz
  have hfirst : ∀ z ∈ s, z = x ∨ ltB x.1 z.1 := by
    intro z hz
    cases s with
    | nil => simp at hx
    | cons x' r =>
      simp at hx; subst hx
      rcases List.mem_cons.1 hz with rfl | hz
      · exact .inl rfl
      · exact .inr ((List.pairwise_cons.1 hs).1 z hz)
  intro z hz
  rcases hfirst z hz with rfl | h1
  · exact ⟨p, hxa⟩
  rcases hlast hs hy z hz with rfl | h2
  · exact ⟨q, hya⟩
  rw [hxa] at h1
  rw [hya] at h2
  cases hzz : z.1 with
  | nil => rw [hzz] at h1; exact (ltB_nil _ h1).elim
  | cons b r =>
    rw [hzz] at h1 h2
    have hab : a = b := by
      have h3 : a < b ∨ a = b := h1.elim .inl (fun h => .inr h.1)
      have h4 : b < a ∨ b = a := h2.elim .inl (fun h => .inr h.1)
      rcases h3 with h3 | h3
      · rcases h4 with h4 | h4
        · exact absurd (UInt8.lt_trans h3 h4) (UInt8.lt_irrefl a)
        · exact h4.symm
      · exact h3
    exact ⟨r, by rw [hab]⟩
theorem Rep.parts {s : List (By × By)} {n : Nd} (h : Rep s n) (hc : Canon n) (hb : IsBranch n) {x y : By × By} (hx : s.head? = some x) (hy : s.getLast? = some y) : shared x.1 y.1 = 0 := by
  cases hx1 : x.1 with
  | nil => simp [shared]
  | cons a p =>
    cases hy1 : y.1 with
    | nil => simp [shared]
    | cons b q =>
      simp only [shared]
      split
      · rename_i hab
        subst hab
        exfalso
        obtain ⟨k1, v1, k2, v2, h1, h2, hp⟩ := two_keys hc hb
        obtain ⟨r1, e1⟩ := all_head h.1 hx hy hx1 hy1 _ ((h.2 _ _).1 h1)
        obtain ⟨r2, e2⟩ := all_head h.1 hx hy hx1 hy1 _ ((h.2 _ _).1 h2)
        exact hp.2 a r1 r2 ⟨e1, e2⟩
      · rfl
def headLt (a : Nat) (p : By) : Prop := match p with
  | [] => True
  | b :: _ => b.toNat < a
def headGe (a : Nat) (p : By) : Prop := match p with
  | [] => False
  | b :: _ => a ≤ b.toNat
theorem Rep.kid {s s1 t s3 : List (By × By)} {cs : Fin 16 → Nd} {v : By} (h : Rep s (.branch cs v)) (a : Fin 16) (he : s = s1 ++ (t ++ s3)) (h1 : ∀ x ∈ s1, headLt a.val x.1) (ht : ∀ x ∈ t, ∃ r, x.1 = UInt8.ofNat a.val :: r) (h3 : ∀ x ∈ s3, headGe (a.val + 1) x.1) :
    Rep (t.map fun x => (x.1.drop 1, x.2)) (cs a) := by
  have ha : (UInt8.ofNat a.val).toNat = a.val := by rw [UInt8.toNat_ofNat']; have := a.isLt; omega
  have hpt : t.Pairwise (fun x y => ltB x.1 y.1) := by
    have := h.1
    rw [he] at this
    exact ((List.pairwise_append.1 ((List.pairwise_append.1 this).2.1))).1
  refine ⟨?_, fun k w => ?_⟩
  · rw [List.pairwise_map]
    refine List.Pairwise.imp_of_mem (fun {x y} hx hy hxy => ?_) hpt
    obtain ⟨r, hr⟩ := ht x hx
    obtain ⟨q, hq⟩ := ht y hy
    rw [hr, hq, ltB_cons] at hxy
    simp only [hr, hq, List.drop_succ_cons, List.drop_zero]
    exact hxy
  · rw [← get_branch_cons cs v a k, h.2, he]
    simp only [List.mem_append, List.mem_map]
    constructor
    · rintro (hm | hm | hm)
      · have := h1 _ hm
        simp only [headLt, ha] at this
        omega
      · exact ⟨_, hm, by simp⟩
      · have := h3 _ hm
        simp only [headGe, ha] at this
        omega
    · rintro ⟨x, hx, hxe⟩
      obtain ⟨r, hr⟩ := ht x hx
      simp only [hr, List.drop_succ_cons, List.drop_zero, Prod.mk.injEq] at hxe
      obtain ⟨rfl, rfl⟩ := hxe
      rw [← hr]
      exact .inr (.inl hx)
/-- The value of a branch stands first. -/
theorem Rep.value {s : List (By × By)} {cs : Fin 16 → Nd} {v : By} (h : Rep s (.branch cs v)) {x : By × By} {r : List (By × By)} (hs : s = x :: r) : (x.1 = [] → v = x.2) ∧ (x.1 ≠ [] → v = []) ∧ ∀ y ∈ r, y.1 ≠ [] := by
  subst hs
  refine ⟨fun hx => ?_, fun hx => ?_, fun y hy e => ?_⟩
  · have := (h.2 x.1 x.2).2 (by simp)
    rw [hx, get_branch_nil] at this
    split at this
    · cases this
    · exact Option.some.inj this
  · by_cases hv : v = []
    · exact hv
    · exfalso
      have := (h.2 [] v).1 (by rw [get_branch_nil, if_neg hv])
      rcases List.mem_cons.1 this with e | hm
      · exact hx (by rw [← e])
      · have := (List.pairwise_cons.1 h.1).1 _ hm
        exact ltB_nil _ this
  · have := (List.pairwise_cons.1 h.1).1 y hy
    rw [e] at this
    exact ltB_nil _ this
end Go.Trie
end

section
set_option linter.unusedVariables false
set_option linter.unusedSimpArgs false
namespace Go.Trie
end Go.Trie
namespace Go.Proofs.Ytfghidehlnfdiaa
open Go Go.Vcg Go.Trie
section
variable {w : World}
theorem wrap_u8_small (n : Nat) : IntKind.wrap .u8 (Int.tmod (n : Int) 256) = ((UInt8.ofNat n).toNat : Int) := by
  have : Int.tmod (n : Int) 256 = ((n % 256 : Nat) : Int) := rfl
  rw [this, wrap_u8_nat]
  have h1 : (UInt8.ofNat (n % 256)).toNat = (UInt8.ofNat n).toNat := by rw [UInt8.toNat_ofNat', UInt8.toNat_ofNat']; omega
  rw [h1]
theorem rhead_calls (base n : Nat) (hn : n < 2 ^ 31) (hb : base ≤ 192) :
    Calls Try.prog moraineref4_head.n #[.int .i64 (base : Int), .int .i64 (n : Int)] w (fun e w' => ∃ o k, e = .returned (.slice o (Trie.head n base).length k) ∧ Fresh w w' tU8 1 o (Trie.head n base).length k ((Trie.head n base).map bV)) := by
  refine calls_gen fun R hR => moraineref4_head.vc _ _ _ _ ?_
  unfold moraineref4_head.Vc
  refine ⟨fun hs => ?_, fun hs => ?_⟩
  · rintro d w2 ⟨rfl, rfl⟩
    have e : Trie.head n base = [UInt8.ofNat (base + n)] := by unfold Trie.head; rw [if_pos (by omega)]
    have ew : IntKind.wrap .i64 ((base : Int) + (n : Int)) = ((base + n : Nat) : Int) := by rw [wrap_i64_small (by omega) (by omega)]; omega
    rw [e] at hR
    rw [ew]
    exact hR _ _ ⟨_, _, rfl, one_byte w _ (wrap_u8_nat _)⟩
  · have e : Trie.head n base = UInt8.ofNat (base + 55 + (digits n).length) :: digits n := by unfold Trie.head; rw [if_neg (by omega)]
    refine ⟨fun o l k n' w' => ∃ (f m : Nat) (row : List UInt8), n' = (m : Int) ∧ m ≤ n ∧ m < 256 ^ f ∧ f ≤ 8 ∧ digits n = digitsF f m ++ row ∧ l = row.length ∧ Fresh w w' tU8 1 o l k (row.map bV), fun _ _ _ n' _ => n'.toNat,
      ⟨8, n, [], rfl, Nat.le_refl _, by omega, Nat.le_refl _, by rw [List.append_nil]; rfl, rfl, Fresh.nil (Mod.refl w) _ _⟩, ?_⟩
    rintro o _ k _ _ w1 ⟨f, m, row, rfl, hmn, hm, hf, hd, rfl, F⟩
    have hlen := digits_le n
    refine ⟨fun hpos => ?_, fun hz => ?_⟩
    · rintro d w2 ⟨rfl, rfl⟩
      rw [hd, List.length_append] at hlen
      cases f with
      | zero => simp at hm; omega
      | succ g =>
        have hM := Mod.alloc (S := NoB) w1 (.cells #[.int .u8 (IntKind.wrap .u8 (Int.tmod (m : Int) 256))] 5)
        have F1 := one_byte w1 (UInt8.ofNat m) (n := IntKind.wrap .u8 (Int.tmod (m : Int) 256)) (wrap_u8_small m)
        obtain ⟨o3, k3, w3, hr3, F3⟩ := push_bytes (ty := tSlU8) (k2 := k) F1 ((fresh_bytes F).mod' hM) (by omega)
        have hstep : digitsF (g + 1) m = digitsF g (m / 256) ++ [UInt8.ofNat m] := by
          simp only [digitsF]; rw [if_neg (by omega)]
        have hfd : IntKind.wrap .i64 (Int.tdiv (m : Int) 256) = ((m / 256 : Nat) : Int) := by
          rw [show Int.tdiv (m : Int) 256 = ((m / 256 : Nat) : Int) from rfl, wrap_i64_small (by omega) (by omega)]
        rw [hfd]
        refine ⟨_, w3, hr3, _, _, _, rfl, ⟨g, m / 256, UInt8.ofNat m :: row, rfl, by omega, ?_, by omega, ?_, ?_, ?_⟩, ?_⟩
        · rw [Nat.pow_succ] at hm
          exact Nat.div_lt_of_lt_mul (by rw [Nat.mul_comm]; exact hm)
        · rw [hd, hstep, List.append_assoc]; rfl
        · simp; omega
        · exact Fresh.from_ F3 F.mod
        · dsimp only; omega
    · have hm0 : m = 0 := by omega
      subst hm0
      have h0 : digitsF f 0 = [] := by cases f <;> simp [digitsF]
      rw [h0, List.nil_append] at hd
      rw [hd] at hlen
      rintro d w3 ⟨rfl, rfl⟩
      have ew2 : IntKind.wrap .i64 (IntKind.wrap .i64 ((base : Int) + 55) + (((row.length : Nat) : Int))) = ((base + 55 + row.length : Nat) : Int) := by
        rw [wrap_i64_small (n := (base : Int) + 55) (by omega) (by omega), wrap_i64_small (by omega) (by omega)]; omega
      rw [ew2]
      obtain ⟨o4, k4, w4, hr4, F4⟩ := push_bytes (ty := tSlU8) (k2 := k) (one_byte w1 _ (wrap_u8_nat (base + 55 + row.length))) ((fresh_bytes F).mod' (Mod.alloc _ _)) (by omega)
      refine ⟨_, w4, hr4, _, _, _, rfl, hR _ _ ⟨o4, k4, ?_, ?_⟩⟩
      · rw [e, List.length_cons, Nat.add_comm, hd]
      · rw [e, List.length_cons, Nat.add_comm, hd]
        exact Fresh.from_ F4 F.mod
/-- A string's bytes. -/
theorem rBytes_calls {o : Option Addr} {k : Nat} {b : By} (h : RdB w o b) (hl : b.length < 2 ^ 30) :
    Calls Try.prog moraineref4_Bytes.n #[.slice o b.length k] w (fun e w' => ∃ o' k', e = .returned (.slice o' (enc (.s b)).length k') ∧ Fresh w w' tU8 1 o' (enc (.s b)).length k' ((enc (.s b)).map bV)) := by
  refine calls_gen fun R hR => moraineref4_Bytes.vc _ _ _ _ _ ?_
  unfold moraineref4_Bytes.Vc
  have long : own b = false → Calls Try.prog 101 #[(.int .i64 128), (.int .i64 ((b.length : Nat) : Int))] w (fun e17 w18 =>
      ∃ o19 : Option Addr, ∃ l20 : Nat, ∃ l21 : Nat, e17 = .returned (.slice o19 l20 l21) ∧
      ∃ (v22 : Value) (w23 : World), Sem.run Try.prog (builtinV .append #[22, 22] 22 #[(.slice o19 l20 l21), (.slice o b.length k)]) w18 = .ok v22 w23 ∧
      ∃ o24 : Option Addr, ∃ l25 : Nat, ∃ l26 : Nat, v22 = (.slice o24 l25 l26) ∧
      R (.returned (.slice o24 l25 l26)) w23) := by
    intro ho
    have e : enc (.s b) = Trie.head b.length 128 ++ b := by simp only [enc]; rw [if_neg (by rw [ho]; simp)]
    rw [e, List.length_append] at hR
    refine (rhead_calls 128 b.length (by omega) (by omega)).mono ?_
    rintro _ w1 ⟨o1, k1, rfl, F1⟩
    have := (head_len b.length 128).2
    obtain ⟨o2, k2, w2, hr2, F2⟩ := push_bytes (ty := tSlU8) (k2 := k) F1 (h.mod' F1.mod) (by omega)
    exact ⟨_, _, _, rfl, _, w2, hr2, _, _, _, rfl, hR _ _ ⟨o2, k2, rfl, F2⟩⟩
  refine ⟨fun h1 => ?_, fun h1 => long ?_⟩
  · obtain ⟨a, rfl⟩ : ∃ a, b = [a] := List.length_eq_one_iff.1 (by omega)
    obtain ⟨B, f, rfl, hB, hc⟩ := rdb_get h (i := 0) (by simp)
    have h2 : a < 128 ↔ a.toNat < 128 := by
      have : ∀ n : Fin 256, (UInt8.ofFin n < 128 ↔ (UInt8.ofFin n).toNat < 128) := by decide +kernel
      exact this a.toFin
    simp only [List.getElem_cons_zero] at hc
    refine ⟨_, rfl, ⟨by omega, by omega⟩, _, by rw [add_at]; exact hc, fun hlt => ⟨_, rfl, ⟨by omega, by omega⟩, _, by rw [add_at]; exact hc, ?_⟩, fun hge => long (by show decide (a < 128) = false; rw [decide_eq_false_iff_not, h2]; omega)⟩
    rintro d w2 ⟨rfl, rfl⟩
    have e : enc (.s [a]) = [a] := by simp only [enc]; rw [if_pos (by show decide (a < 128) = true; rw [decide_eq_true_eq, h2]; omega)]
    rw [e] at hR
    exact hR _ _ ⟨_, _, rfl, one_byte w a rfl⟩
  · unfold own
    split
    · simp at h1
    · rfl
theorem rList_calls {o : Option Addr} {k : Nat} {b : By} (h : RdB w o b) (hl : b.length < 2 ^ 30) :
    Calls Try.prog moraineref4_List.n #[.slice o b.length k] w (fun e w' => ∃ o' k', e = .returned (.slice o' (Trie.head b.length 192 ++ b).length k') ∧ Fresh w w' tU8 1 o' (Trie.head b.length 192 ++ b).length k' ((Trie.head b.length 192 ++ b).map bV)) := by
  refine moraineref4_List.vc _ _ _ _ _ ?_
  unfold moraineref4_List.Vc
  refine (rhead_calls 192 b.length (by omega) (by omega)).mono ?_
  rintro _ w1 ⟨o1, k1, rfl, F1⟩
  have := (head_len b.length 192).2
  obtain ⟨o2, k2, w2, hr2, F2⟩ := push_bytes (ty := tSlU8) (k2 := k) F1 (h.mod' F1.mod) (by omega)
  exact ⟨_, _, _, rfl, _, w2, hr2, _, _, _, rfl, o2, k2, by rw [List.length_append], by rw [List.length_append]; exact F2⟩
theorem rhi_nib (b : UInt8) : IntKind.wrap .u8 (Int.tdiv (b.toNat : Int) 16) = ((b >>> 4).toNat : Int) := by
  have : ∀ n : Fin 256, IntKind.wrap .u8 (Int.tdiv ((UInt8.ofFin n).toNat : Int) 16) = ((UInt8.ofFin n >>> 4).toNat : Int) := by decide +kernel
  exact this b.toFin
theorem rlo_nib (b : UInt8) : Int.tmod (b.toNat : Int) 16 = ((b &&& 15).toNat : Int) := by
  have : ∀ n : Fin 256, Int.tmod ((UInt8.ofFin n).toNat : Int) 16 = ((UInt8.ofFin n &&& 15).toNat : Int) := by decide +kernel
  exact this b.toFin
theorem rNibbles_calls {o : Option Addr} {k : Nat} {bs : By} (hr : RdB w o bs) (hl : bs.length ≤ 2 ^ 30) :
    Calls Try.prog moraineref14_Nibbles.n #[.slice o bs.length k] w (fun e w' => ∃ o' k', e = .returned (.slice o' (nibbles bs).length k') ∧ Fresh w w' tU8 1 o' (nibbles bs).length k' ((nibbles bs).map bV)) := by
  refine moraineref14_Nibbles.vc _ _ _ _ _ ?_
  unfold moraineref14_Nibbles.Vc
  refine ⟨fun o' l' k' i w' => ∃ j : Nat, i = (j : Int) ∧ j ≤ bs.length ∧ l' = (nibbles (bs.take j)).length ∧ Fresh w w' tU8 1 o' l' k' ((nibbles (bs.take j)).map bV), fun _ _ _ i _ => ((bs.length : Int) - i).toNat,
    ⟨0, rfl, Nat.zero_le _, rfl, Fresh.nil (Mod.refl w) _ _⟩, ?_⟩
  rintro o' _ k' _ _ w1 ⟨j, rfl, hj, rfl, F⟩
  refine ⟨fun hlt => ?_, fun hge => ?_⟩
  · rintro _ rfl
    have hjl : j < bs.length := by omega
    obtain ⟨b, f, rfl, hb, hc⟩ := rdb_get hr hjl
    have htk : bs.take (j + 1) = bs.take j ++ [bs[j]] := by rw [List.take_add_one, List.getElem?_eq_getElem hjl]; rfl
    have F' := F.mod' (Mod.drew (S := NoB) w1)
    have hc' : w1.drew.cell? (Addr.add ⟨b, f, none⟩ (Int.toNat (j : Int))) = some (bV bs[j]) := by rw [add_at, Int.toNat_natCast]; exact (cell_mod F'.mod hb (fun h => h)).trans hc
    refine ⟨_, rfl, ⟨by omega, by omega⟩, _, hc', _, rfl, ⟨by omega, by omega⟩, _, hc', ?_⟩
    rintro d w2 ⟨rfl, rfl⟩
    have hnl := nibbles_len (bs.take j)
    rw [List.length_take] at hnl
    obtain ⟨o3, k3, w3, hr3, F3⟩ := push_bytes (ty := tSlU8) (k2 := 2) (F'.mod' (Mod.alloc _ _)) (two_bytes (w := w1.drew) (bs[j] >>> 4) (bs[j] &&& 15) (rhi_nib _) (rlo_nib _)) (by simp; omega)
    refine ⟨_, w3, hr3, _, _, _, rfl, ⟨j + 1, by rw [wrap_i64_small (by omega) (by omega)]; omega, hjl, ?_, ?_⟩, ?_⟩
    · rw [htk, nibbles_snoc, List.length_append]
    · rw [htk, nibbles_snoc]; exact F3
    · dsimp only
      rw [wrap_i64_small (by omega) (by omega)]; omega
  · obtain rfl : j = bs.length := by omega
    rw [List.take_length] at F ⊢
    exact ⟨_, _, rfl, F⟩
theorem rEmpty_calls (w : World) : Calls Try.prog moraineref14_Empty.n #[] w (fun e w' => e = .returned (.agg (hashA emptyH)) ∧ Vcg.Mod NoB w w') := by
  refine moraineref14_Empty.vc _ _ ?_
  unfold moraineref14_Empty.Vc
  rintro d1 w1 ⟨rfl, rfl⟩ d2 w2 ⟨rfl, rfl⟩
  have M1 := Mod.alloc (S := NoB) w (.cells (Array.replicate 32 (.int .u8 0)) 26)
  have H := Blk.new w 26 (Array.replicate 32 (.int .u8 0))
  generalize w.alloc (.cells (Array.replicate 32 (.int .u8 0)) 26) = w1 at *
  have r2 := one_u8 w1
  have M2 := Mod.alloc (S := NoB) w1 (.cells #[.int .u8 128] 5)
  generalize w1.alloc (.cells #[.int .u8 128] 5) = w2 at *
  refine (refSum_calls [128] rfl (by simp) r2).mono ?_
  rintro _ w4 ⟨rfl, M4⟩
  have M24 := M2.trans M4 (fun _ _ h => h)
  obtain ⟨h1, h2, h3⟩ := hash_store (H.mod' M24) (by simp) (sumOf [128])
  exact ⟨_, rfl, _, h1, _, h2.rowAll (size_hashA _), rfl, mod_of (M1.trans M24 (fun _ _ h => h)) h3 (Nat.le_refl _)⟩
end
end Go.Proofs.Ytfghidehlnfdiaa
end

section
set_option linter.unusedVariables false
set_option linter.unusedSimpArgs false
namespace Go.Proofs.Ytfghidehlnfdiaa
open Go Go.Vcg Go.Trie
section
variable {w : World}
end
abbrev tRn : TypeId := 123
abbrev tSlRn : TypeId := 46
theorem und_slRn : Try.prog.underlying tSlRn = some (.slice tRn) := by kernel_rfl
theorem info_rn : (Try.prog.info? tRn).map (fun i => (i.zero, i.size, i.bytes)) = some (some (.agg nd0), 33, 56) := by kernel_rfl
section
variable {C : Type} {S : C → Prop} {w0 w w1 w' : World} {lab lab' : Nat → C} {c cb : C}
def RnOwn (w : World) (lab : Nat → C) (c cb : C) (l : List (By × By)) (o : Option Addr) (n k : Nat) : Prop :=
  n = l.length ∧ ∃ vs, COw w lab c tRn 33 o n k vs ∧ NdCells w lab cb vs l
theorem RnOwn.nil (w : World) (lab : Nat → C) (c cb : C) : RnOwn w lab c cb [] none 0 0 := ⟨rfl, [], COw.nil w lab c _ _, NdCells.nil w lab cb⟩
theorem RnOwn.stp {l : List (By × By)} {o : Option Addr} {n k : Nat} (h : RnOwn w lab c cb l o n k) (s : Stp S w lab w' lab') (hs : ¬ S c) (hb : ¬ S cb) : RnOwn w' lab' c cb l o n k := by
  obtain ⟨h1, vs, h2, h3⟩ := h
  exact ⟨h1, vs, h2.stp s hs, h3.stp s hb⟩
theorem RnOwn.push {l : List (By × By)} {o : Option Addr} {n k D : Nat} {h b : By} {ob : Option Addr} {kb : Nat} (H : RnOwn w lab c cb l o n k) (hcb : cb ≠ c) (B : Blk w D tRn (ndA h ob b.length kb)) (hh : h.length = 32) (hb : CBy w lab cb ob b) (hl : l.length ≤ 2 ^ 20) :
    ∃ o' k' w', Sem.run Try.prog (builtinV .append #[tSlRn, tSlRn] tSlRn #[.slice o n k, .slice (some ⟨D, 0, none⟩) 1 1]) w = .ok (.slice o' (n + 1) k') w' ∧
      RnOwn w' (ext lab w.heap.size c) c cb (l ++ [(h, b)]) o' (n + 1) k' ∧ Stp (· = c) w lab w' (ext lab w.heap.size c) := by
  obtain ⟨rfl, vs, hO, hC⟩ := H
  obtain ⟨i, hi, hz, hs, hbt⟩ := info_of info_rn
  obtain ⟨o', k', w', h1, h2, h3⟩ := COw.append (ty := tSlRn) und_slRn hi hz hs (by rfl) hO (src_one und_slRn B (size_ndA _ _ _ _) (ndA_one _ _ _ _)) (by simp only [maxLen]; omega) (by rw [hbt]; omega)
  exact ⟨o', k', w', h1, ⟨by simp, _, h2, (hC.push hh hb).stp h3 hcb⟩, h3⟩
/-- A node's hash in its row. -/
theorem NdCells.hash {vs : List Value} {l : List (By × By)} {o : Option Addr} (h : NdCells w lab cb vs l) (hR : CRow w lab c o vs) {j : Nat} (hj : j < l.length) : ∃ g f, o = some ⟨g, f, none⟩ ∧ g < w.heap.size ∧ lab g = c ∧ RowAt w ⟨g, f + j * 33, none⟩ 32 (hashA l[j].1) := by
  obtain ⟨h1, h2, ob, kb, h3, h4⟩ := h.2 j hj
  obtain ⟨g, f, ho, hg, hl, hc⟩ := hR _ _ h3
  refine ⟨g, f, ho, hg, hl, size_hashA _, fun i hi => ?_⟩
  obtain ⟨g', f', ho', _, _, hc'⟩ := hR _ _ (h2 i hi)
  rw [ho] at ho'; cases ho'
  rw [add_at, show f + j * 33 + i = f + (j * 33 + i) by omega, hc']
  show _ = (arrOf 32 (fun i => bV (l[j].1.getD i 0)))[i]?
  rw [get_arrOf_lt hi]
theorem NdCells.bytes {vs : List Value} {l : List (By × By)} {o : Option Addr} (h : NdCells w lab cb vs l) (hR : CRow w lab c o vs) {j : Nat} (hj : j < l.length) : ∃ g f, o = some ⟨g, f, none⟩ ∧ g < w.heap.size ∧ ∃ ob kb, w.cell? ⟨g, f + (j * 33 + 32), none⟩ = some (.slice ob l[j].2.length kb) ∧ CBy w lab cb ob l[j].2 := by
  obtain ⟨h1, h2, ob, kb, h3, h4⟩ := h.2 j hj
  obtain ⟨g, f, ho, hg, hl, hc⟩ := hR _ _ h3
  exact ⟨g, f, ho, hg, ob, kb, hc, h4⟩
end
end Go.Proofs.Ytfghidehlnfdiaa
end

section
set_option linter.unusedVariables false
set_option linter.unusedSimpArgs false
namespace Go.Proofs.Ytfghidehlnfdiaa
open Go Go.Vcg Go.Trie
abbrev tBuild : TypeId := 186
/-- A build: entries by their paths; the nodes so far. Colours: 1 its cells, 4 the row of nodes, 5 what was made meanwhile, 6 the entries, 7 the row of paths. -/
structure BS (w : World) (L : Nat → Nat) (d0 : Nat) (es : List (By × By)) (out : List (By × By)) : Prop where
  ex : ∃ ol cl op cp on nn kn, CB w L 1 d0 tBuild #[.slice ol es.length cl, .slice op es.length cp, .slice on nn kn, .bool false] ∧
    (∀ (j : Nat) (hj : j < es.length), ∃ b f ov kv, ol = some ⟨b, f, none⟩ ∧ b < w.heap.size ∧ L b = 6 ∧ w.cell? ⟨b, f + (j * 2 + 1), none⟩ = some (.slice ov es[j].2.length kv) ∧ CBy w L 6 ov es[j].2) ∧
    (∀ (j : Nat) (hj : j < es.length), ∃ b f o k, op = some ⟨b, f, none⟩ ∧ b < w.heap.size ∧ L b = 7 ∧ w.cell? ⟨b, f + j, none⟩ = some (.slice o es[j].1.length k) ∧ es[j].1.length ≤ k ∧ CBy w L 5 o es[j].1) ∧
    RnOwn w L 4 5 out on nn kn
theorem BS.stp {S : Nat → Prop} {w w' : World} {L L' : Nat → Nat} {d0 : Nat} {es out : List (By × By)} (h : BS w L d0 es out) (s : Stp S w L w' L') (h1 : ¬ S 1) (h4 : ¬ S 4) (h5 : ¬ S 5) (h6 : ¬ S 6) (h7 : ¬ S 7) : BS w' L' d0 es out := by
  obtain ⟨ol, cl, op, cp, on, nn, kn, a, b, c, d⟩ := h.ex
  refine ⟨⟨ol, cl, op, cp, on, nn, kn, a.stp s h1, fun j hj => ?_, fun j hj => ?_, d.stp s h4 h5⟩⟩
  · obtain ⟨g, f, ov, kv, e1, e2, e3, e4, e5⟩ := b j hj
    exact ⟨g, f, ov, kv, e1, Nat.lt_of_lt_of_le e2 s.size, (s.lab g e2).trans e3, (World.cell?_of_block (s.block g e2 (by rw [e3]; exact h6))).trans e4, e5.stp s h6⟩
  · obtain ⟨g, f, o, k, e1, e2, e3, e4, e5, e6⟩ := c j hj
    exact ⟨g, f, o, k, e1, Nat.lt_of_lt_of_le e2 s.size, (s.lab g e2).trans e3, (World.cell?_of_block (s.block g e2 (by rw [e3]; exact h7))).trans e4, e5, e6.stp s h5⟩
theorem BS.mod' {w w' : World} {L : Nat → Nat} {d0 : Nat} {es out : List (By × By)} (h : BS w L d0 es out) (M : Vcg.Mod NoB w w') (q : Nat) : BS w' (ext L w.heap.size q) d0 es out :=
  h.stp (S := NoS) (Stp.of_nob M q) (fun h => h) (fun h => h) (fun h => h) (fun h => h) (fun h => h)
end Go.Proofs.Ytfghidehlnfdiaa
end

section
set_option linter.unusedVariables false
set_option linter.unusedSimpArgs false
namespace Go.Trie
/-- The nodes that a node's children lay down. -/
def kidsN : Nd → List (By × By) → List (By × By)
  | .row _ c, out => visitN c false out
  | .branch cs _, out => (List.finRange 16).foldl (fun o i => visitN (cs i) false o) out
  | _, out => out
theorem kids_len {n : Nd} (out : List (By × By)) : (kidsN n out).length ≤ out.length + cnt n := by
  cases n with
  | nil => simp [kidsN]
  | leaf p v => simp [kidsN]
  | row p c =>
    have := visitN_len c false out
    simp only [kidsN, cnt]; omega
  | branch cs v =>
    have := foldl_len (fun i out => visitN_len (cs i) false out) (List.finRange 16) out
    simp only [kidsN, cnt]; omega
end Go.Trie
namespace Go.Proofs.Ytfghidehlnfdiaa
open Go Go.Vcg Go.Trie
end Go.Proofs.Ytfghidehlnfdiaa
end

section
set_option linter.unusedVariables false
set_option linter.unusedSimpArgs false
namespace Go.Proofs.Ytfghidehlnfdiaa
open Go Go.Vcg Go.Trie
/-- A path of the build's, from a nibble on. -/
theorem BS.path {w : World} {L : Nat → Nat} {d0 : Nat} {es out : List (By × By)} (h : BS w L d0 es out) {j : Nat} (hj : j < es.length) {i : Nat} (hi : i ≤ es[j].1.length) :
    ∃ op cp b f o k, World.cell? w ⟨d0, 1, none⟩ = some (.slice op es.length cp) ∧ op = some ⟨b, f, none⟩ ∧ w.cell? ⟨b, f + j, none⟩ = some (.slice o es[j].1.length k) ∧ es[j].1.length ≤ k ∧ CBy w L 5 o es[j].1 ∧ CBy w L 5 (subO o k i 1) (es[j].1.drop i) := by
  obtain ⟨ol, cl, op, cp, on, nn, kn, c1, c2, c3, c4⟩ := h.ex
  obtain ⟨b, f, o, k, e1, e2, e3, e4, e5, e6⟩ := c3 j hj
  have := e6.sub (lo := i) (n := es[j].1.length - i) e5
  rw [List.take_of_length_le (by rw [List.length_drop]; omega)] at this
  exact ⟨op, cp, b, f, o, k, c1.blk.rd1 rfl, e1, e4, e5, e6, this⟩
theorem BS.val {w : World} {L : Nat → Nat} {d0 : Nat} {es out : List (By × By)} (h : BS w L d0 es out) {j : Nat} (hj : j < es.length) :
    ∃ ol cl b f ov kv, World.cell? w ⟨d0, 0, none⟩ = some (.slice ol es.length cl) ∧ ol = some ⟨b, f, none⟩ ∧ w.cell? ⟨b, f + (j * 2 + 1), none⟩ = some (.slice ov es[j].2.length kv) ∧ CBy w L 6 ov es[j].2 := by
  obtain ⟨ol, cl, op, cp, on, nn, kn, c1, c2, c3, c4⟩ := h.ex
  obtain ⟨b, f, ov, kv, e1, e2, e3, e4, e5⟩ := c2 j hj
  exact ⟨ol, cl, b, f, ov, kv, c1.blk.rd1 rfl, e1, e4, e5⟩
end Go.Proofs.Ytfghidehlnfdiaa
end

section
set_option linter.unusedVariables false
set_option linter.unusedSimpArgs false
namespace Go.Proofs.Ytfghidehlnfdiaa
open Go Go.Vcg Go.Trie
end Go.Proofs.Ytfghidehlnfdiaa
end

section
set_option linter.unusedVariables false
set_option linter.unusedSimpArgs false
namespace Go.Trie
end Go.Trie
namespace Go.Proofs.Ytfghidehlnfdiaa
open Go Go.Vcg Go.Trie
end Go.Proofs.Ytfghidehlnfdiaa
end

section
set_option linter.unusedVariables false
set_option linter.unusedSimpArgs false
namespace Go.Proofs.Ytfghidehlnfdiaa
open Go Go.Vcg Go.Trie
section
variable {C C' : Type} {S : C → Prop} {w w' : World} {lab : Nat → C} {lab' : Nat → C'} {lab2 : Nat → C} {c : C} {c' : C'}
/-- Keys with values, that can be read. -/
def KvRow (w : World) (lab : Nat → C) (c : C) (o : Option Addr) (m : List (By × By)) : Prop :=
  ∀ (j : Nat) (hj : j < m.length), ∃ b f ok kk ov kv, o = some ⟨b, f, none⟩ ∧ b < w.heap.size ∧ lab b = c ∧ w.cell? ⟨b, f + j * 2, none⟩ = some (.slice ok m[j].1.length kk) ∧ CBy w lab c ok m[j].1 ∧ w.cell? ⟨b, f + (j * 2 + 1), none⟩ = some (.slice ov m[j].2.length kv) ∧ CBy w lab c ov m[j].2
theorem KvRow.nil (w : World) (lab : Nat → C) (c : C) (o : Option Addr) : KvRow w lab c o [] := fun j hj => absurd hj (by simp)
theorem KvRow.stp {o : Option Addr} {m : List (By × By)} (h : KvRow w lab c o m) (s : Stp S w lab w' lab2) (hs : ¬ S c) : KvRow w' lab2 c o m := fun j hj => by
  obtain ⟨b, f, ok, kk, ov, kv, e1, e2, e3, e4, e5, e6, e7⟩ := h j hj
  exact ⟨b, f, ok, kk, ov, kv, e1, Nat.lt_of_lt_of_le e2 s.size, (s.lab b e2).trans e3, (World.cell?_of_block (s.block b e2 (by rw [e3]; exact hs))).trans e4, e5.stp s hs, (World.cell?_of_block (s.block b e2 (by rw [e3]; exact hs))).trans e6, e7.stp s hs⟩
theorem KvRow.re {o : Option Addr} {m : List (By × By)} (h : KvRow w lab c o m) (hl : ∀ k, k < w.heap.size → lab k = c → lab' k = c') : KvRow w lab' c' o m := fun j hj => by
  obtain ⟨b, f, ok, kk, ov, kv, e1, e2, e3, e4, e5, e6, e7⟩ := h j hj
  exact ⟨b, f, ok, kk, ov, kv, e1, e2, hl b e2 e3, e4, CBy.re e5 hl, e6, CBy.re e7 hl⟩
theorem NdRow.re {o : Option Addr} {l : List (By × By)} {n : Nat} (h : NdRow w lab c l o n) (hl : ∀ k, k < w.heap.size → lab k = c → lab' k = c') : NdRow w lab' c' l o n := by
  obtain ⟨h1, vs, h2, h3⟩ := h
  refine ⟨h1, vs, fun j v hv => ?_, NdCells.re h3 hl⟩
  obtain ⟨b, f, ho, hb, hc, hcell⟩ := h2 j v hv
  exact ⟨b, f, ho, hb, hl b hb hc, hcell⟩
end
end Go.Proofs.Ytfghidehlnfdiaa
end

section
set_option linter.unusedVariables false
set_option linter.unusedSimpArgs false
namespace Go.Trie
end Go.Trie
namespace Go.Proofs.Ytfghidehlnfdiaa
open Go Go.Vcg Go.Trie
section
variable {C C' : Type} {S : C → Prop} {w0 w w' : World} {lab : Nat → C} {lab' : Nat → C'} {lab2 : Nat → C} {c : C} {c' : C'} {xs : List Value} {o : Option Addr}
theorem CRow.take (h : CRow w lab c o xs) (n : Nat) : CRow w lab c o (xs.take n) := fun j v hv => by
  rw [List.getElem?_take] at hv
  split at hv
  · exact h j v hv
  · cases hv
theorem CRow.drop (h : CRow w lab c o xs) {cap n sz : Nat} (hl : xs.length ≤ cap * sz) : CRow w lab c (subO o cap n sz) (xs.drop (n * sz)) := fun j v hv => by
  rw [List.getElem?_drop] at hv
  obtain ⟨b, f, ho, hb, hl', hc⟩ := h _ v hv
  have hlt : n * sz + j < xs.length := by
    rcases Nat.lt_or_ge (n * sz + j) xs.length with h | h
    · exact h
    · rw [List.getElem?_eq_none h] at hv; cases hv
  have hne : ¬ cap = n := by rintro rfl; omega
  refine ⟨b, f + n * sz, ?_, hb, hl', by rw [Nat.add_assoc]; exact hc⟩
  unfold subO
  rw [if_neg hne, ho]
  simp
theorem CRow.re (h : CRow w lab c o xs) (hl : ∀ k, k < w.heap.size → lab k = c → lab' k = c') : CRow w lab' c' o xs := fun j v hv => by
  obtain ⟨b, f, ho, hb, hc, hcell⟩ := h j v hv
  exact ⟨b, f, ho, hb, hl b hb hc, hcell⟩
/-- Cells of keys with values. -/
def KvCells (w : World) (lab : Nat → C) (c : C) (vs : List Value) (m : List (By × By)) : Prop :=
  vs.length = m.length * 2 ∧ ∀ (j : Nat) (hj : j < m.length), ∃ ok kk ov kv, vs[j * 2]? = some (.slice ok m[j].1.length kk) ∧ CBy w lab c ok m[j].1 ∧ vs[j * 2 + 1]? = some (.slice ov m[j].2.length kv) ∧ CBy w lab c ov m[j].2
theorem KvCells.nil (w : World) (lab : Nat → C) (c : C) : KvCells w lab c [] [] := ⟨rfl, fun j hj => absurd hj (by simp)⟩
theorem KvCells.stp {vs : List Value} {m : List (By × By)} (h : KvCells w lab c vs m) (s : Stp S w lab w' lab2) (hs : ¬ S c) : KvCells w' lab2 c vs m :=
  ⟨h.1, fun j hj => by obtain ⟨ok, kk, ov, kv, a, b, d, e⟩ := h.2 j hj; exact ⟨ok, kk, ov, kv, a, b.stp s hs, d, e.stp s hs⟩⟩
theorem KvCells.re {vs : List Value} {m : List (By × By)} (h : KvCells w lab c vs m) (hl : ∀ k, k < w.heap.size → lab k = c → lab' k = c') : KvCells w lab' c' vs m :=
  ⟨h.1, fun j hj => by obtain ⟨ok, kk, ov, kv, a, b, d, e⟩ := h.2 j hj; exact ⟨ok, kk, ov, kv, a, CBy.re b hl, d, CBy.re e hl⟩⟩
theorem KvCells.take {vs : List Value} {m : List (By × By)} (h : KvCells w lab c vs m) {n : Nat} (hn : n ≤ m.length) : KvCells w lab c (vs.take (n * 2)) (m.take n) := by
  refine ⟨by rw [List.length_take, List.length_take, h.1]; omega, fun j hj => ?_⟩
  rw [List.length_take] at hj
  obtain ⟨ok, kk, ov, kv, a, b, d, e⟩ := h.2 j (by omega)
  rw [List.getElem_take]
  exact ⟨ok, kk, ov, kv, by rw [List.getElem?_take, if_pos (by omega)]; exact a, b, by rw [List.getElem?_take, if_pos (by omega)]; exact d, e⟩
theorem KvCells.drop {vs : List Value} {m : List (By × By)} (h : KvCells w lab c vs m) {n : Nat} (hn : n ≤ m.length) : KvCells w lab c (vs.drop (n * 2)) (m.drop n) := by
  refine ⟨by rw [List.length_drop, List.length_drop, h.1]; omega, fun j hj => ?_⟩
  rw [List.length_drop] at hj
  obtain ⟨ok, kk, ov, kv, a, b, d, e⟩ := h.2 (n + j) (by omega)
  rw [List.getElem_drop]
  exact ⟨ok, kk, ov, kv, by rw [List.getElem?_drop, show n * 2 + j * 2 = (n + j) * 2 by omega]; exact a, b, by rw [List.getElem?_drop, show n * 2 + (j * 2 + 1) = (n + j) * 2 + 1 by omega]; exact d, e⟩
theorem KvCells.append {vs us : List Value} {m n : List (By × By)} (h : KvCells w lab c vs m) (k : KvCells w lab c us n) : KvCells w lab c (vs ++ us) (m ++ n) := by
  have h1 := h.1
  have k1 := k.1
  refine ⟨by rw [List.length_append, List.length_append, h1, k1]; omega, fun j hj => ?_⟩
  rw [List.length_append] at hj
  by_cases hl : j < m.length
  · rw [List.getElem_append_left hl]
    obtain ⟨ok, kk, ov, kv, a, b, d, e⟩ := h.2 j hl
    exact ⟨ok, kk, ov, kv, by rw [List.getElem?_append_left (by omega)]; exact a, b, by rw [List.getElem?_append_left (by omega)]; exact d, e⟩
  · rw [List.getElem_append_right (by omega)]
    obtain ⟨ok, kk, ov, kv, a, b, d, e⟩ := k.2 (j - m.length) (by omega)
    exact ⟨ok, kk, ov, kv, by rw [List.getElem?_append_right (by omega), show j * 2 - vs.length = (j - m.length) * 2 by omega]; exact a, b, by rw [List.getElem?_append_right (by omega), show j * 2 + 1 - vs.length = (j - m.length) * 2 + 1 by omega]; exact d, e⟩
theorem KvCells.one {vs : List Value} {m : List (By × By)} (h : KvCells w lab c vs m) : ∀ u ∈ vs, u.oneCell' = true := by
  intro u hu
  obtain ⟨i, hi⟩ := List.mem_iff_getElem?.1 hu
  have hlt : i < vs.length := by
    rcases Nat.lt_or_ge i vs.length with h | h
    · exact h
    · rw [List.getElem?_eq_none h] at hi; cases hi
  have h1 := h.1
  obtain ⟨ok, kk, ov, kv, a, b, d, e⟩ := h.2 (i / 2) (by omega)
  by_cases h2 : i % 2 = 0
  · rw [show i / 2 * 2 = i by omega, hi] at a
    cases a; rfl
  · rw [show i / 2 * 2 + 1 = i by omega, hi] at d
    cases d; rfl
/-- A map's row: cells that can be read. -/
def KvR (w : World) (lab : Nat → C) (c : C) (o : Option Addr) (m : List (By × By)) : Prop := ∃ vs, CRow w lab c o vs ∧ KvCells w lab c vs m
theorem KvR.nil (w : World) (lab : Nat → C) (c : C) (o : Option Addr) : KvR w lab c o [] := ⟨[], CRow.nil w lab c o, KvCells.nil w lab c⟩
theorem KvR.stp {m : List (By × By)} (h : KvR w lab c o m) (s : Stp S w lab w' lab2) (hs : ¬ S c) : KvR w' lab2 c o m := by
  obtain ⟨vs, a, b⟩ := h
  exact ⟨vs, a.stp s hs, b.stp s hs⟩
theorem KvR.re {m : List (By × By)} (h : KvR w lab c o m) (hl : ∀ k, k < w.heap.size → lab k = c → lab' k = c') : KvR w lab' c' o m := by
  obtain ⟨vs, a, b⟩ := h
  exact ⟨vs, CRow.re a hl, KvCells.re b hl⟩
theorem KvR.row {m : List (By × By)} (h : KvR w lab c o m) : KvRow w lab c o m := fun j hj => by
  obtain ⟨vs, hR, hC⟩ := h
  obtain ⟨ok, kk, ov, kv, a, b, d, e⟩ := hC.2 j hj
  obtain ⟨g, f, ho, hg, hl, hc⟩ := hR _ _ a
  obtain ⟨g', f', ho', _, _, hc'⟩ := hR _ _ d
  rw [ho] at ho'; cases ho'
  exact ⟨g, f, ok, kk, ov, kv, ho, hg, hl, hc, b, hc', e⟩
end
end Go.Proofs.Ytfghidehlnfdiaa
end

section
set_option linter.unusedVariables false
set_option linter.unusedSimpArgs false
namespace Go.Trie
theorem nib_back (a : UInt8) : (a >>> 4) <<< 4 ||| (a &&& 15) = a := by
  have : ∀ n : Fin 256, ((UInt8.ofFin n >>> 4) <<< 4 ||| (UInt8.ofFin n &&& 15)) = UInt8.ofFin n := by decide +kernel
  exact this a.toFin
theorem nibbles_cons (a : UInt8) (k : By) : nibbles (a :: k) = (a >>> 4) :: (a &&& 15) :: nibbles k := rfl
end Go.Trie
namespace Go.Proofs.Ytfghidehlnfdiaa
open Go Go.Vcg Go.Trie
end Go.Proofs.Ytfghidehlnfdiaa
end

section
set_option linter.unusedVariables false
set_option linter.unusedSimpArgs false
namespace Go.Proofs.Ytfghidehlnfdiaa
open Go Go.Vcg Go.Trie
section
variable {C C' : Type} {S : C → Prop} {w0 w w' : World} {lab : Nat → C} {lab' : Nat → C'} {lab2 : Nat → C} {c c1 : C} {c' : C'} {xs : List Value} {o : Option Addr}
/-- Bytes told as a string. -/
theorem toStr {w : World} {o : Option Addr} {k : Nat} {b : By} (h : RdB w o b) : Sem.run Try.prog (convert 22 9 (.slice o b.length k)) w = .ok (.string (strOf b)) w := run_toStr und_slU8 und_u8 und_str h
theorem COw.set {e : TypeId} {sz l k : Nat} {lab : Nat → C} (h : COw w lab c e sz o l k xs) {j : Nat} (hj : j < l * sz) {v : Value} (hv : v.oneCell' = true) :
    ∃ g, o = some ⟨g, 0, none⟩ ∧ CanSet w ⟨g, j, none⟩ v ∧ COw (w.setCell ⟨g, j, none⟩ v) lab c e sz o l k (xs.set j v) ∧ Stp (· = c) w lab (w.setCell ⟨g, j, none⟩ v) lab := by
  rcases h.own.2 with ⟨_, rfl, _⟩ | ⟨g, cur, rfl, hb, hlc, hcm, hcs, ht⟩
  · simp at hj
  · have hle : l * sz ≤ k * sz := Nat.mul_le_mul_right _ hlc
    have hg : lab g = c := h.clr g ⟨_, rfl, rfl⟩
    refine ⟨g, rfl, hb.canSet (by rw [hcs]; omega) hv, ⟨⟨by rw [List.length_set]; exact h.own.1, .inr ⟨g, _, rfl, hb.set j v, hlc, hcm, by simpa using hcs, ?_⟩⟩, h.clr⟩, Stp.setCell hg⟩
    rw [Array.toList_setIfInBounds, List.take_set, ht]
end
end Go.Proofs.Ytfghidehlnfdiaa
end

section
set_option linter.unusedVariables false
namespace Go.Proofs.Ytfghidehlnfdiaa
open Go Go.Vcg
abbrev morainelaw14_known.n : Nat := 37
def morainelaw14_known.Vc  (w : World) (R : Ending → World → Prop) : Prop :=
  Calls Try.prog 52 #[] w (fun e0 w1 =>
    ∃ L2 : Array Value, e0 = .returned (.agg L2) ∧
    Calls Try.prog 51 #[(.agg L2), (.slice none 0 0)] w1 (fun e3 w4 =>
      ∃ o5 : Option Addr, e3 = .returned (.pointer o5) ∧
      (((o5 = none →
        R (.returned (.bool false)) w4)) ∧
       ((o5 ≠ none →
        ∀ (d6 : Addr) (w7 : World), IsNew w4 5 #[(.int .u8 100), (.int .u8 111)] d6 w7 →
        ∃ (v8 : Value) (w9 : World), Sem.run Try.prog (convert 22 22 (.slice (some d6) 2 2)) w7 = .ok v8 w9 ∧
        ∃ o10 : Option Addr, ∃ l11 : Nat, ∃ l12 : Nat, v8 = (.slice o10 l11 l12) ∧
        ∀ (d13 : Addr) (w14 : World), IsNew w9 5 #[(.int .u8 118), (.int .u8 101), (.int .u8 114), (.int .u8 98)] d13 w14 →
        ∃ (v15 : Value) (w16 : World), Sem.run Try.prog (convert 22 22 (.slice (some d13) 4 4)) w14 = .ok v15 w16 ∧
        ∃ o17 : Option Addr, ∃ l18 : Nat, ∃ l19 : Nat, v15 = (.slice o17 l18 l19) ∧
        Calls Try.prog 55 #[(.pointer o5), (.slice o10 l11 l12), (.slice o17 l18 l19)] w16 (fun e20 w21 =>
          ∃ n22 : Int, e20 = .returned (.int .i64 n22) ∧
          (((n22 ≠ 0 →
            R (.returned (.bool false)) w21)) ∧
           ((n22 = 0 →
            ∀ (d23 : Addr) (w24 : World), IsNew w21 5 #[(.int .u8 100), (.int .u8 111), (.int .u8 103)] d23 w24 →
            ∃ (v25 : Value) (w26 : World), Sem.run Try.prog (convert 22 22 (.slice (some d23) 3 3)) w24 = .ok v25 w26 ∧
            ∃ o27 : Option Addr, ∃ l28 : Nat, ∃ l29 : Nat, v25 = (.slice o27 l28 l29) ∧
            ∀ (d30 : Addr) (w31 : World), IsNew w26 5 #[(.int .u8 112), (.int .u8 117), (.int .u8 112), (.int .u8 112), (.int .u8 121)] d30 w31 →
            ∃ (v32 : Value) (w33 : World), Sem.run Try.prog (convert 22 22 (.slice (some d30) 5 5)) w31 = .ok v32 w33 ∧
            ∃ o34 : Option Addr, ∃ l35 : Nat, ∃ l36 : Nat, v32 = (.slice o34 l35 l36) ∧
            Calls Try.prog 55 #[(.pointer o5), (.slice o27 l28 l29), (.slice o34 l35 l36)] w33 (fun e37 w38 =>
              ∃ n39 : Int, e37 = .returned (.int .i64 n39) ∧
              (((n39 ≠ 0 →
                R (.returned (.bool false)) w38)) ∧
               ((n39 = 0 →
                ∀ (d40 : Addr) (w41 : World), IsNew w38 5 #[(.int .u8 100), (.int .u8 111), (.int .u8 103), (.int .u8 101)] d40 w41 →
                ∃ (v42 : Value) (w43 : World), Sem.run Try.prog (convert 22 22 (.slice (some d40) 4 4)) w41 = .ok v42 w43 ∧
                ∃ o44 : Option Addr, ∃ l45 : Nat, ∃ l46 : Nat, v42 = (.slice o44 l45 l46) ∧
                ∀ (d47 : Addr) (w48 : World), IsNew w43 5 #[(.int .u8 99), (.int .u8 111), (.int .u8 105), (.int .u8 110)] d47 w48 →
                ∃ (v49 : Value) (w50 : World), Sem.run Try.prog (convert 22 22 (.slice (some d47) 4 4)) w48 = .ok v49 w50 ∧
                ∃ o51 : Option Addr, ∃ l52 : Nat, ∃ l53 : Nat, v49 = (.slice o51 l52 l53) ∧
                Calls Try.prog 55 #[(.pointer o5), (.slice o44 l45 l46), (.slice o51 l52 l53)] w50 (fun e54 w55 =>
                  ∃ n56 : Int, e54 = .returned (.int .i64 n56) ∧
                  (((n56 ≠ 0 →
                    R (.returned (.bool false)) w55)) ∧
                   ((n56 = 0 →
                    ∀ (d57 : Addr) (w58 : World), IsNew w55 5 #[(.int .u8 104), (.int .u8 111), (.int .u8 114), (.int .u8 115), (.int .u8 101)] d57 w58 →
                    ∃ (v59 : Value) (w60 : World), Sem.run Try.prog (convert 22 22 (.slice (some d57) 5 5)) w58 = .ok v59 w60 ∧
                    ∃ o61 : Option Addr, ∃ l62 : Nat, ∃ l63 : Nat, v59 = (.slice o61 l62 l63) ∧
                    ∀ (d64 : Addr) (w65 : World), IsNew w60 5 #[(.int .u8 115), (.int .u8 116), (.int .u8 97), (.int .u8 108), (.int .u8 108), (.int .u8 105), (.int .u8 111), (.int .u8 110)] d64 w65 →
                    ∃ (v66 : Value) (w67 : World), Sem.run Try.prog (convert 22 22 (.slice (some d64) 8 8)) w65 = .ok v66 w67 ∧
                    ∃ o68 : Option Addr, ∃ l69 : Nat, ∃ l70 : Nat, v66 = (.slice o68 l69 l70) ∧
                    Calls Try.prog 55 #[(.pointer o5), (.slice o61 l62 l63), (.slice o68 l69 l70)] w67 (fun e71 w72 =>
                      ∃ n73 : Int, e71 = .returned (.int .i64 n73) ∧
                      (((n73 ≠ 0 →
                        R (.returned (.bool false)) w72)) ∧
                       ((n73 = 0 →
                        Calls Try.prog 54 #[(.pointer o5)] w72 (fun e74 w75 =>
                          ∃ L76 : Array Value, e74 = .returned (.agg L76) ∧
                          ∀ (d77 : Addr) (w78 : World), IsNew w75 26 (Array.replicate 32 (.int .u8 0)) d77 w78 →
                          ∃ w79 : World, Sem.run Try.prog (Instr.storeAt 26 (.pointer (some d77)) (.agg L76)) w78 = .ok () w79 ∧
                          ∀ (d80 : Addr) (w81 : World), IsNew w79 5 #[(.int .u8 100), (.int .u8 111), (.int .u8 103)] d80 w81 →
                          ∃ (v82 : Value) (w83 : World), Sem.run Try.prog (convert 22 22 (.slice (some d80) 3 3)) w81 = .ok v82 w83 ∧
                          ∃ o84 : Option Addr, ∃ l85 : Nat, ∃ l86 : Nat, v82 = (.slice o84 l85 l86) ∧
                          Calls Try.prog 61 #[(.pointer o5), (.slice o84 l85 l86)] w83 (fun e87 w88 =>
                            ∃ o89 : Option Addr, ∃ l90 : Nat, ∃ l91 : Nat, ∃ b92 : Bool, ∃ n93 : Int, e87 = .returned (.tuple #[(.slice o89 l90 l91), (.bool b92), (.int .i64 n93)]) ∧
                            ∃ n94 : Int, World.cell? w88 d77 = some (.int .u8 n94) ∧
                            (((n94 = 89 →
                              ∃ n95 : Int, World.cell? w88 (Addr.add d77 1) = some (.int .u8 n95) ∧
                              (((n95 = 145 →
                                ∃ n96 : Int, World.cell? w88 (Addr.add d77 31) = some (.int .u8 n96) ∧
                                (((n96 = 132 →
                                  (((b92 = true →
                                    (((n93 = 0 →
                                      ∃ v97 : Value, Sem.run Try.prog (convert 22 9 (.slice o89 l90 l91)) w88 = .ok v97 w88 ∧
                                      ∃ s98 : ByteArray, v97 = (.string s98) ∧
                                      (((strB .eql s98 ⟨#[112, 117, 112, 112, 121]⟩ = true →
                                        Calls Try.prog 52 #[] w88 (fun e99 w100 =>
                                          ∃ L101 : Array Value, e99 = .returned (.agg L101) ∧
                                          Calls Try.prog 83 #[] w100 (fun e102 w103 =>
                                            ∃ L104 : Array Value, e102 = .returned (.agg L104) ∧
                                            ∃ v105 : Value, Sem.run Try.prog (semBin .eql 26 (.tmp 82) (.tmp 83) (.agg L101) (.agg L104)) w103 = .ok v105 w103 ∧
                                            ∃ b106 : Bool, v105 = (.bool b106) ∧
                                            R (.returned (.bool b106)) w103)))) ∧
                                       ((strB .eql s98 ⟨#[112, 117, 112, 112, 121]⟩ = false →
                                        R (.returned (.bool false)) w88))))) ∧
                                     ((n93 ≠ 0 →
                                      R (.returned (.bool false)) w88))))) ∧
                                   ((b92 = false →
                                    R (.returned (.bool false)) w88))))) ∧
                                 ((n96 ≠ 132 →
                                  R (.returned (.bool false)) w88))))) ∧
                               ((n95 ≠ 145 →
                                R (.returned (.bool false)) w88))))) ∧
                             ((n94 ≠ 89 →
                              R (.returned (.bool false)) w88))))))))))))))))))))))))))
theorem morainelaw14_known.vc  (w : World) (R : Ending → World → Prop) (h : morainelaw14_known.Vc w R) : Calls Try.prog 37 #[] w R :=
  execF_sound (R := ⟨R, false⟩) (ann := []) (args := []) Try.func37 mixed (Eq.mp (by kernel_rfl : morainelaw14_known.Vc w R = execF (pA Try.prog ⟨R, false⟩) Try.prog [] Try.f37 [] w) h)

end Go.Proofs.Ytfghidehlnfdiaa
end

section
namespace Go.Vcg
def lk (l : List (BitVec 64)) : St := fun i => l.getD i 0
theorem rnd_congr {s r : St} (n : Nat) (h : ∀ i, i < 25 → s i = r i) : ∀ j, j < 25 → rnd n s j = rnd n r j := by
  have hp : ∀ x, x < 5 → par s x = par r x := fun x hx => by
    simp only [par, parK]
    rw [h (x + 5 * 0) (by omega), h (x + 5 * 1) (by omega), h (x + 5 * 2) (by omega), h (x + 5 * 3) (by omega), h (x + 5 * 4) (by omega)]
  have hb : ∀ j, j < 25 → bbK s j = bbK r j := fun j hj => by
    simp only [bbK, bbXY, ddK]
    rw [h _ (by omega), hp _ (by omega), hp _ (by omega)]
  have hc : ∀ j, j < 25 → chiK (bbK s) j = chiK (bbK r) j := fun j hj => by
    simp only [chiK]
    rw [hb _ (by omega), hb _ (by omega), hb _ (by omega)]
  intro j hj
  simp only [rnd]
  rw [hc 0 (by omega), hc j hj]
end Go.Vcg
end
