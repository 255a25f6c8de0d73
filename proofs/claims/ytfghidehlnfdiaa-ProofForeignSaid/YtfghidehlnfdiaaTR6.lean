/- Contracts: remove, pruned. -/
/- Hashes as keys of maps; rows of nodes with their hashes. -/
/- Contracts: Nodes, its closure. -/
/- Contracts: New, Empty, Root, Put, Delete, Nodes. -/
/- Contracts: Nodes; bounds on how many nodes there are. -/
/- Contracts: Nodes. -/
/- Sorted entries and the canonical trie that they make: plain Lean. -/
/- Contracts of the reference: comparison, heads, strings, lists, nibbles. -/
/- Contracts of the reference: Pack; a node that is laid down. -/
/- Contracts of the reference: what a build holds; a node that is laid down. -/
/- The reference's build: segments of entries; what two paths share. -/
/- Contracts of the reference: an item; a reference. -/
import Derived.Test.YtfghidehlnfdiaaTP18
import Derived.Test.YtfghidehlnfdiaaTP3
import Derived.Maps.Keyed
import Derived.DeepKeys5
set_option linter.unusedVariables false
set_option linter.unusedSimpArgs false
section
namespace Go.Trie
def Fits (n : Nd) : Prop := ∀ k v, get n k = some v → k.length ≤ 128 ∧ v.length ≤ 1024
theorem Fits.row {q : By} {c : Nd} (h : Fits (.row q c)) : Fits c := fun k v hg => by
  have := h (q ++ k) v (by rw [get_row_append]; exact hg)
  rw [List.length_append] at this
  exact ⟨by omega, this.2⟩
theorem Fits.kid {cs : Fin 16 → Nd} {x : By} (h : Fits (.branch cs x)) (i : Fin 16) : Fits (cs i) := fun k v hg => by
  have := h (UInt8.ofNat i.val :: k) v (by rw [get_branch_cons]; exact hg)
  simp only [List.length_cons] at this
  exact ⟨by omega, this.2⟩
theorem small_of : ∀ {n : Nd}, Canon n → Fits n → Small n
  | .nil, _, _ => trivial
  | .leaf p v, _, h => h p v (by simp [get])
  | .row p c, hc, h => by
    refine ⟨?_, small_of hc.2.2.2 h.row⟩
    obtain ⟨k, v, hk⟩ := has_key hc.2.2.2 (by rintro rfl; exact hc.2.2.1)
    have := (h (p ++ k) v (by rw [get_row_append]; exact hk)).1
    rw [List.length_append] at this; omega
  | .branch cs x, hc, h => by
    refine ⟨?_, fun i => small_of (hc.1 i) (h.kid i)⟩
    by_cases hx : x = []
    · simp [hx]
    · exact (h [] x (by rw [get_branch_nil, if_neg hx])).2
theorem Fits.put {n : Nd} {p x : By} (h : Fits n) (hc : Canon n) (hp : Nib p) (hx : x ≠ []) (hpl : p.length ≤ 128) (hxl : x.length ≤ 1024) : Fits (put n p x) := fun k v hg => by
  rw [(put_ok hc hp hx).2.2.2 k] at hg
  split at hg
  · rename_i hk
    cases hg
    exact ⟨by rw [hk]; exact hpl, hxl⟩
  · exact h k v hg
end Go.Trie
namespace Go.Proofs.Ytfghidehlnfdiaa
open Go Go.Vcg Go.Trie
end Go.Proofs.Ytfghidehlnfdiaa
end
section
namespace Go.Proofs.Ytfghidehlnfdiaa
open Go Go.Vcg Go.Trie
abbrev H32 := {h : By // h.length = 32}
instance : DecidableEq H32 := fun a b => decidable_of_iff (a.1 = b.1) Subtype.ext_iff.symm
def encH (h : H32) : Value := .agg (hashA h.1)
theorem bV_inj {a b : UInt8} (h : bV a = bV b) : a = b := by
  simp only [bV, Value.int.injEq, true_and] at h
  exact UInt8.toNat_inj.1 (by exact_mod_cast h)
theorem hashA_inj {a b : By} (ha : a.length = 32) (hb : b.length = 32) (h : hashA a = hashA b) : a = b := by
  apply List.ext_getElem (by omega)
  intro i h1 h2
  have hi : i < 32 := by omega
  have e := congrArg (fun x : Array Value => x[i]?) h
  simp only [hashA, get_arrOf_lt hi, Option.some.injEq] at e
  have := bV_inj e
  simpa [List.getD_eq_getElem?_getD, h1, h2] using this
theorem laidOut : laidOutB Try.prog = true := by kernel_rfl
theorem und_hash : Try.prog.underlying tHash = some (.array 32 5) := by kernel_rfl
theorem mapM_some {α β : Type} {f : α → Option β} : ∀ (l : List α), (∀ x ∈ l, ∃ y, f x = some y) → ∃ ys, l.mapM f = some ys
  | [], _ => ⟨[], rfl⟩
  | x :: r, h => by
    obtain ⟨y, hy⟩ := h x (by simp)
    obtain ⟨ys, hys⟩ := mapM_some r (fun z hz => h z (by simp [hz]))
    exact ⟨y :: ys, by rw [List.mapM_cons, hy, hys]; rfl⟩
theorem keyOf_arr {P : Program} {k e : TypeId} {n : Nat} {q : IntKind} {v : Value} (hu : P.underlying k = some (.array n e)) (hk : P.keyType k = true) (hf : v.formed P k = true) (hs : 1 ≤ P.types.size) (he : P.underlying e = some (.int q)) (hc : P.cellsOf e = 1)
    (hcl : v.cells.toList.length = P.cellsOf k) (hcells : ∀ i, i < n → ∃ m, v.cells.toList[i]? = some (.int q m) ∧ (Lit.int q m).wf = true) : ∃ l, keyOf P k v = some l := by
  obtain ⟨d, hd⟩ : ∃ d, P.types.size = d + 1 := ⟨P.types.size - 1, by omega⟩
  unfold keyOf
  simp only [hu, hk, hf, Bool.and_self, if_true, hd, Program.keyLits, hcl]
  obtain ⟨ys, hys⟩ := mapM_some (f := fun i => P.keyLits (d + 1) e ((v.cells.toList.drop (i * P.cellsOf e)).take (P.cellsOf e))) (List.range n) (fun i hi => by
    obtain ⟨m, h1, h2⟩ := hcells i (List.mem_range.1 hi)
    have e1 : ((v.cells.toList.drop (i * P.cellsOf e)).take (P.cellsOf e)) = [.int q m] := by
      rw [hc, Nat.mul_one]
      have hl : i < v.cells.toList.length := by
        rcases Nat.lt_or_ge i v.cells.toList.length with h | h
        · exact h
        · rw [List.getElem?_eq_none h] at h1; cases h1
      rw [List.getElem?_eq_getElem hl] at h1
      rw [List.drop_eq_getElem_cons hl, Option.some.inj h1]; rfl
    refine ⟨[.int q m], ?_⟩
    rw [e1]
    simp only [Program.keyLits, he]
    exact if_pos ⟨trivial, h2⟩)
  simp only [Program.keyLits] at hys
  refine ⟨.string (keyBytes ys.flatten), ?_⟩
  rw [hys]
  rfl
theorem wf_u8 (b : UInt8) : (Lit.int .u8 (b.toNat : Int)).wf = true := by
  have : ∀ n : Fin 256, (Lit.int .u8 ((UInt8.ofFin n).toNat : Int)).wf = true := by decide +kernel
  exact this b.toFin
theorem cells_hash : Try.prog.cellsOf tHash = 32 := by kernel_rfl
theorem encH_cells (h : H32) : (encH h).cells = hashA h.1 := rfl
theorem keyEncH : KeyEnc Try.prog tHash encH (fun _ => True) where
  keyed := Go.Maps.Keyed.of_law (deep_law_gate laidOut (of_decide_eq_true (by kernel_rfl)) (of_decide_eq_true (by kernel_rfl)) (by kernel_rfl) (by kernel_rfl))
  ok h _ := keyOf_arr und_hash (by kernel_rfl) (by simp only [encH, Value.formed, und_hash, cells_hash, size_hashA]; rfl) (of_decide_eq_true (by kernel_rfl)) und_u8 (by kernel_rfl)
    (by rw [encH_cells, Array.length_toList, size_hashA, cells_hash]) (fun i hi => ⟨((h.1.getD i 0).toNat : Int), by rw [encH_cells, Array.getElem?_toList]; exact get_arrOf_lt hi, wf_u8 _⟩)
  inj a b h := by
    simp only [encH, Value.agg.injEq] at h
    exact Subtype.ext (hashA_inj a.2 b.2 h)

abbrev tNd : TypeId := 104
abbrev tSlNd : TypeId := 49
theorem und_slNd : Try.prog.underlying tSlNd = some (.slice tNd) := by kernel_rfl
def ndA (h : By) (o : Option Addr) (l k : Nat) : Array Value := ((hashA h).toList ++ [Value.slice o l k]).toArray
abbrev nd0 : Array Value := #[(.int .u8 0), (.int .u8 0), (.int .u8 0), (.int .u8 0), (.int .u8 0), (.int .u8 0), (.int .u8 0), (.int .u8 0), (.int .u8 0), (.int .u8 0), (.int .u8 0), (.int .u8 0), (.int .u8 0), (.int .u8 0), (.int .u8 0), (.int .u8 0), (.int .u8 0), (.int .u8 0), (.int .u8 0), (.int .u8 0), (.int .u8 0), (.int .u8 0), (.int .u8 0), (.int .u8 0), (.int .u8 0), (.int .u8 0), (.int .u8 0), (.int .u8 0), (.int .u8 0), (.int .u8 0), (.int .u8 0), (.int .u8 0), (.slice none 0 0)]
theorem info_nd : (Try.prog.info? tNd).map (fun i => (i.zero, i.size, i.bytes)) = some (some (.agg nd0), 33, 56) := by kernel_rfl
theorem size_ndA (h : By) (o : Option Addr) (l k : Nat) : (ndA h o l k).size = 33 := by simp [ndA, size_hashA]
theorem ndA_lo {h : By} {o : Option Addr} {l k i : Nat} (hi : i < 32) : (ndA h o l k)[i]? = some (bV (h.getD i 0)) := by
  unfold ndA
  rw [List.getElem?_toArray, List.getElem?_append_left (by rw [Array.length_toList, size_hashA]; exact hi), Array.getElem?_toList]
  exact get_arrOf_lt hi
theorem ndA_hi {h : By} {o : Option Addr} {l k : Nat} : (ndA h o l k)[32]? = some (.slice o l k) := by
  unfold ndA
  rw [List.getElem?_toArray, List.getElem?_append_right (by rw [Array.length_toList, size_hashA]; omega), Array.length_toList, size_hashA]
  rfl
theorem ndA_one (h : By) (o : Option Addr) (l k : Nat) : ∀ v ∈ (ndA h o l k).toList, v.oneCell' = true := by
  intro v hv
  simp only [ndA, List.mem_append, List.mem_singleton] at hv
  rcases hv with hv | rfl
  · exact hashA_one h v hv
  · rfl
theorem nd_built {Z : Array Value} (hZ : Z.size = 33) (h : By) (s : Value) : lputL Z 0 33 (setsAt (lputL Z 0 32 (hashA h)) 32 [s]) = ((hashA h).toList ++ [s]).toArray := by
  have e1 : (lputL Z 0 32 (hashA h)).size = 33 := by unfold lputL; rw [size_setsAt, hZ]
  have hh : (hashA h).toList.take 32 = (hashA h).toList := List.take_of_length_le (by rw [Array.length_toList, size_hashA]; omega)
  have hl : (hashA h).toList.length = 32 := by rw [Array.length_toList, size_hashA]
  have e2 : (setsAt (lputL Z 0 32 (hashA h)) 32 [s]).size = 33 := by rw [size_setsAt, e1]
  apply Array.ext_getElem?
  intro i
  have hr : (((hashA h).toList ++ [s]).toArray)[i]? = ((hashA h).toList ++ [s])[i]? := List.getElem?_toArray ..
  rw [hr]
  have e3 : lputL Z 0 33 (setsAt (lputL Z 0 32 (hashA h)) 32 [s]) = setsAt Z 0 ((setsAt (lputL Z 0 32 (hashA h)) 32 [s]).toList.take 33) := rfl
  have ht : ((setsAt (lputL Z 0 32 (hashA h)) 32 [s]).toList.take 33) = (setsAt (lputL Z 0 32 (hashA h)) 32 [s]).toList := List.take_of_length_le (by rw [Array.length_toList, e2]; omega)
  rw [e3, ht, get_setsAt _ _ _ _ (by rw [Array.length_toList, e2, hZ]; omega), Array.length_toList, e2]
  by_cases hi : i < 33
  · rw [if_pos (by omega), Nat.sub_zero, Array.getElem?_toList, get_setsAt _ _ _ _ (by rw [e1]; simp)]
    by_cases h32 : i = 32
    · subst h32
      rw [if_pos (by simp), List.getElem?_append_right (by omega), hl]
    · rw [if_neg (by simp; omega), List.getElem?_append_left (by omega)]
      unfold lputL
      rw [hh, get_setsAt _ _ _ _ (by omega), if_pos (by omega), Nat.sub_zero]
  · rw [if_neg (by omega), Array.getElem?_eq_none (by omega), List.getElem?_eq_none (by rw [List.length_append, hl]; simp; omega)]
section
variable {C : Type} {S : C → Prop} {w0 w w1 w' : World} {lab lab' : Nat → C} {c cb : C}
def NdCells (w : World) (lab : Nat → C) (cb : C) (vs : List Value) (l : List (By × By)) : Prop :=
  vs.length = l.length * 33 ∧ ∀ (j : Nat) (hj : j < l.length), l[j].1.length = 32 ∧ (∀ i, i < 32 → vs[j * 33 + i]? = some (bV (l[j].1.getD i 0))) ∧ ∃ ob kb, vs[j * 33 + 32]? = some (.slice ob l[j].2.length kb) ∧ CBy w lab cb ob l[j].2 ∧ l[j].2.length ≤ kb
theorem NdCells.nil (w : World) (lab : Nat → C) (cb : C) : NdCells w lab cb [] [] := ⟨rfl, fun j hj => absurd hj (by simp)⟩
theorem NdCells.stp {vs : List Value} {l : List (By × By)} (h : NdCells w lab cb vs l) (s : Stp S w lab w' lab') (hs : ¬ S cb) : NdCells w' lab' cb vs l :=
  ⟨h.1, fun j hj => by obtain ⟨h1, h2, ob, kb, h3, h4⟩ := h.2 j hj; exact ⟨h1, h2, ob, kb, h3, h4.1.stp s hs, h4.2⟩⟩
theorem NdCells.push {vs : List Value} {l : List (By × By)} {h b : By} {ob : Option Addr} {kb : Nat} (H : NdCells w lab cb vs l) (hh : h.length = 32) (hb : CBy w lab cb ob b) (hk : b.length ≤ kb) :
    NdCells w lab cb (vs ++ (ndA h ob b.length kb).toList) (l ++ [(h, b)]) := by
  have hnl : (ndA h ob b.length kb).toList.length = 33 := by rw [Array.length_toList, size_ndA]
  refine ⟨by rw [List.length_append, hnl, H.1, List.length_append]; simp; omega, fun j hj => ?_⟩
  rw [List.length_append, List.length_singleton] at hj
  have hv := H.1
  by_cases hl : j < l.length
  · rw [List.getElem_append_left hl]
    obtain ⟨h1, h2, ob, kb, h3, h4⟩ := H.2 j hl
    exact ⟨h1, fun i hi => by rw [List.getElem?_append_left (by omega)]; exact h2 i hi, ob, kb, by rw [List.getElem?_append_left (by omega)]; exact h3, h4⟩
  · obtain rfl : j = l.length := by omega
    rw [List.getElem_append_right (Nat.le_refl _)]
    simp only [Nat.sub_self, List.getElem_cons_zero]
    refine ⟨hh, fun i hi => ?_, ob, kb, ?_, hb, hk⟩
    · rw [List.getElem?_append_right (by omega), hv, show l.length * 33 + i - l.length * 33 = i by omega, Array.getElem?_toList]
      exact ndA_lo hi
    · rw [List.getElem?_append_right (by omega), hv, show l.length * 33 + 32 - l.length * 33 = 32 by omega, Array.getElem?_toList]
      exact ndA_hi
def NdOwn (w : World) (lab : Nat → C) (c cb : C) (l : List (By × By)) (o : Option Addr) (n k : Nat) : Prop :=
  n = l.length ∧ ∃ vs, COw w lab c tNd 33 o n k vs ∧ NdCells w lab cb vs l
theorem NdOwn.nil (w : World) (lab : Nat → C) (c cb : C) : NdOwn w lab c cb [] none 0 0 := ⟨rfl, [], COw.nil w lab c _ _, NdCells.nil w lab cb⟩
theorem NdOwn.stp {l : List (By × By)} {o : Option Addr} {n k : Nat} (h : NdOwn w lab c cb l o n k) (s : Stp S w lab w' lab') (hs : ¬ S c) (hb : ¬ S cb) : NdOwn w' lab' c cb l o n k := by
  obtain ⟨h1, vs, h2, h3⟩ := h
  exact ⟨h1, vs, h2.stp s hs, h3.stp s hb⟩
theorem NdOwn.push {l : List (By × By)} {o : Option Addr} {n k D : Nat} {h b : By} {ob : Option Addr} {kb : Nat} (H : NdOwn w lab c cb l o n k) (hcb : cb ≠ c) (B : Blk w D tNd (ndA h ob b.length kb)) (hh : h.length = 32) (hb : CBy w lab cb ob b) (hk : b.length ≤ kb) (hl : l.length ≤ 2 ^ 20) :
    ∃ o' k' w', Sem.run Try.prog (builtinV .append #[tSlNd, tSlNd] tSlNd #[.slice o n k, .slice (some ⟨D, 0, none⟩) 1 1]) w = .ok (.slice o' (n + 1) k') w' ∧
      NdOwn w' (ext lab w.heap.size c) c cb (l ++ [(h, b)]) o' (n + 1) k' ∧ Stp (· = c) w lab w' (ext lab w.heap.size c) := by
  obtain ⟨rfl, vs, hO, hC⟩ := H
  obtain ⟨i, hi, hz, hs, hbt⟩ := info_of info_nd
  obtain ⟨o', k', w', h1, h2, h3⟩ := COw.append (ty := tSlNd) und_slNd hi hz hs (by rfl) hO (src_one und_slNd B (size_ndA _ _ _ _) (ndA_one _ _ _ _)) (by simp only [maxLen]; omega) (by rw [hbt]; omega)
  exact ⟨o', k', w', h1, ⟨by simp, _, h2, (hC.push hh hb hk).stp h3 hcb⟩, h3⟩
end
end Go.Proofs.Ytfghidehlnfdiaa
end
section
namespace Go.Trie
def met (out : List (By × By)) (h : By) : Bool := out.any fun x => decide (x.1 = h)
def putNode (out : List (By × By)) (top : Bool) (b : By) : List (By × By) := if met out (Go.Vcg.sumOf b) || (!top && decide (b.length < 32)) then out else out ++ [(Go.Vcg.sumOf b, b)]
def visitN : Nd → Bool → List (By × By) → List (By × By)
  | .nil, _, out => out
  | .leaf p v, top, out => putNode out top (bytesOf (.leaf p v))
  | .row p c, top, out => putNode (visitN c false out) top (bytesOf (.row p c))
  | .branch cs v, top, out => putNode ((List.finRange 16).foldl (fun o i => visitN (cs i) false o) out) top (bytesOf (.branch cs v))
def nodesOf (n : Nd) : List (By × By) := visitN n true []
def cnt : Nd → Nat
  | .nil => 0
  | .leaf _ _ => 1
  | .row _ c => 1 + cnt c
  | .branch cs _ => 1 + ((List.finRange 16).map fun i => cnt (cs i)).sum
theorem putNode_len (out : List (By × By)) (top : Bool) (b : By) : (putNode out top b).length ≤ out.length + 1 := by
  unfold putNode; split <;> simp
theorem foldl_len {cs : Fin 16 → Nd} (ih : ∀ i out, (visitN (cs i) false out).length ≤ out.length + cnt (cs i)) : ∀ (l : List (Fin 16)) (out : List (By × By)), (l.foldl (fun o i => visitN (cs i) false o) out).length ≤ out.length + (l.map fun i => cnt (cs i)).sum
  | [], out => by simp
  | i :: r, out => by
    simp only [List.foldl_cons, List.map_cons, List.sum_cons]
    have h1 := foldl_len ih r (visitN (cs i) false out)
    have h2 := ih i out
    omega
theorem visitN_len : ∀ (n : Nd) (top : Bool) (out : List (By × By)), (visitN n top out).length ≤ out.length + cnt n
  | .nil, _, out => by simp [visitN]
  | .leaf p v, top, out => by simp only [visitN, cnt]; exact putNode_len _ _ _
  | .row p c, top, out => by
    simp only [visitN, cnt]
    have h1 := putNode_len (visitN c false out) top (bytesOf (.row p c))
    have h2 := visitN_len c false out
    omega
  | .branch cs v, top, out => by
    simp only [visitN, cnt]
    have h1 := putNode_len ((List.finRange 16).foldl (fun o i => visitN (cs i) false o) out) top (bytesOf (.branch cs v))
    have h2 := foldl_len (fun i out => visitN_len (cs i) false out) (List.finRange 16) out
    omega
end Go.Trie
namespace Go.Proofs.Ytfghidehlnfdiaa
open Go Go.Vcg Go.Trie
end Go.Proofs.Ytfghidehlnfdiaa
end
section
namespace Go.Trie
def emptyH : By := Go.Vcg.sumOf [128]
def rootOf (n : Nd) : By := Go.Vcg.sumOf (bytesOf n)
theorem bytes_nil : bytesOf .nil = [128] := by simp [bytesOf, itemOf, enc, own, head]
def putT (n : Nd) (k x : By) : Int × Nd := if k.length > 64 then (140, n) else if x = [] ∨ x.length > 1024 then (141, n) else (0, put n (nibbles k) x)
end Go.Trie
namespace Go.Proofs.Ytfghidehlnfdiaa
open Go Go.Vcg Go.Trie
theorem guard_hash : Try.prog.eqGuardType Try.prog.depth tHash = false := by kernel_rfl
theorem info_hash : (Try.prog.info? tHash).map (·.size) = some 32 := by kernel_rfl
theorem hash_ne {w : World} (x y : Operand) {a b : By} (ha : a.length = 32) (hb : b.length = 32) : Sem.run Try.prog (semBin .neq tHash x y (.agg (hashA a)) (.agg (hashA b))) w = .ok (.bool (decide (a ≠ b))) w := by
  have h := semNe_arr (P := Try.prog) (w := w) und_hash und_u8 info_u8_size guard_hash x y (fun i => ((a.getD i 0).toNat : Int)) (fun i => ((b.getD i 0).toNat : Int))
  refine h.trans (congrArg (fun x => Result.ok (Value.bool x) w) ?_)
  rw [Bool.eq_iff_iff, Bool.not_eq_true', decide_eq_false_iff_not, decide_eq_true_eq, ne_eq]
  refine not_congr ?_
  constructor
  · intro h
    refine hashA_inj ha hb (arrOf_congr (fun i hi => ?_))
    have := h i hi
    simp only [bV, this]
  · rintro rfl i _; rfl
theorem hash_eq {w : World} (x y : Operand) {a b : By} (ha : a.length = 32) (hb : b.length = 32) : Sem.run Try.prog (semBin .eql tHash x y (.agg (hashA a)) (.agg (hashA b))) w = .ok (.bool (decide (a = b))) w := by
  have h := semEq_arr (P := Try.prog) (w := w) und_hash und_u8 info_u8_size guard_hash x y (fun i => ((a.getD i 0).toNat : Int)) (fun i => ((b.getD i 0).toNat : Int))
  refine h.trans (congrArg (fun x => Result.ok (Value.bool x) w) ?_)
  rw [Bool.eq_iff_iff, decide_eq_true_eq, decide_eq_true_eq]
  constructor
  · intro h
    refine hashA_inj ha hb (arrOf_congr (fun i hi => ?_))
    have := h i hi
    simp only [bV, this]
  · rintro rfl i _; rfl
theorem hash_store {w : World} {D : Nat} {cs : Array Value} (H : Blk w D tHash cs) (hs : cs.size = 32) (h : By) :
    Sem.run Try.prog (Instr.storeAt 26 (.pointer (some ⟨D, 0, none⟩)) (.agg (hashA h))) w = .ok () (w.setRow D (hashA h)) ∧ Blk (w.setRow D (hashA h)) D tHash (hashA h) ∧ Vcg.Mod (· = D) w (w.setRow D (hashA h)) :=
  ⟨H.storeAll (by rw [size_hashA]; exact info_hash) (by rw [hs, size_hashA]) (hashA_one _), H.row_same _, Mod.setRow _ _ _⟩
theorem one_u8 (w : World) : RdB (w.alloc (.cells #[.int .u8 128] 5)) (some ⟨w.heap.size, 0, none⟩) [128] :=
  RdB.of_blk (Blk.new w 5 #[bV 128]) (fun j hj => by
    obtain rfl : j = 0 := by simpa using hj
    rfl)
theorem Empty_calls (w : World) : Calls Try.prog trie_Empty.n #[] w (fun e w' => e = .returned (.agg (hashA emptyH)) ∧ Vcg.Mod NoB w w') := by
  refine trie_Empty.vc _ _ ?_
  unfold trie_Empty.Vc
  rintro d1 w1 ⟨rfl, rfl⟩ d2 w2 ⟨rfl, rfl⟩ d3 w3 ⟨rfl, rfl⟩
  have M1 := Mod.alloc (S := NoB) w (.cells (Array.replicate 32 (.int .u8 0)) 26)
  have H := Blk.new w 26 (Array.replicate 32 (.int .u8 0))
  have hs := size_alloc w (.cells (Array.replicate 32 (.int .u8 0)) 26)
  generalize w.alloc (.cells (Array.replicate 32 (.int .u8 0)) 26) = w1 at *
  have r2 := one_u8 w1
  have M2 := Mod.alloc (S := NoB) w1 (.cells #[.int .u8 128] 5)
  generalize w1.alloc (.cells #[.int .u8 128] 5) = w2 at *
  have B3 := Blk.new w2 22 #[.slice (some ⟨w1.heap.size, 0, none⟩) 1 1]
  have M3 := Mod.alloc (S := NoB) w2 (.cells #[.slice (some ⟨w1.heap.size, 0, none⟩) 1 1] 22)
  refine (Sum_calls [[128]] rfl (by simp) (RdBB.one B3 (r2.mod' M3)) (by simp)).mono ?_
  rintro _ w4 ⟨rfl, M4⟩
  have M24 := (M2.trans M3 (fun _ _ h => h)).trans M4 (fun _ _ h => h)
  obtain ⟨h1, h2, h3⟩ := hash_store (H.mod' M24) (by simp) (sumOf [[128]].flatten)
  exact ⟨_, rfl, _, h1, _, h2.rowAll (size_hashA _), rfl, mod_of (M1.trans M24 (fun _ _ h => h)) h3 (Nat.le_refl _)⟩
theorem run_makeMap {P : Program} {t k e : TypeId} (h : P.underlying t = some (.map k e)) (w : World) : ∃ w', Sem.run P (Instr.makeMap t none) w = .ok (.map (some w.heap.size)) w' ∧ Vcg.Mod NoB w w' ∧ w'.heap[w.heap.size]? = some (.map #[] 0) := by
  exact ⟨w.alloc (.map #[] 0), rfl, Mod.alloc _ _, heap_alloc_new _ _⟩
section
variable {C : Type} {S : C → Prop} {w0 w w1 w' : World} {lab lab2 : Nat → C} {ct c : C}
theorem fits_nil : Fits .nil := fun k v h => by simp [Trie.get] at h
end
end Go.Proofs.Ytfghidehlnfdiaa
end
section
namespace Go.Trie
theorem cnt_rowed (p : By) (n : Nd) : cnt (rowed p n) ≤ cnt n + 1 := by
  unfold rowed
  split
  · omega
  · cases n <;> simp only [cnt] <;> omega
theorem sum_update (f g : Fin 16 → Nat) (d : Nat) (a : Nat) (h : ∀ i : Fin 16, i.val ≠ a → f i = g i) (ha : ∀ i : Fin 16, i.val = a → f i ≤ g i + d) : ∀ (l : List (Fin 16)), l.Nodup → (l.map f).sum ≤ (l.map g).sum + d
  | [], _ => by simp
  | i :: r, hn => by
    rw [List.nodup_cons] at hn
    simp only [List.map_cons, List.sum_cons]
    by_cases hi : i.val = a
    · have h1 := ha i hi
      have h2 : r.map f = r.map g := List.map_congr_left (fun j hj => h j (fun e => hn.1 (by rw [Fin.ext (hi.trans e.symm)]; exact hj)))
      rw [h2]; omega
    · have h1 := h i hi
      have h2 := sum_update f g d a h ha r hn.2
      omega
theorem cnt_kid {cs cs' : Fin 16 → Nd} {x y : By} {a d : Nat} (h : ∀ i : Fin 16, i.val ≠ a → cs' i = cs i) (ha : ∀ i : Fin 16, i.val = a → cnt (cs' i) ≤ cnt (cs i) + d) : cnt (.branch cs' y) ≤ cnt (.branch cs x) + d := by
  simp only [cnt]
  have := sum_update (fun i => cnt (cs' i)) (fun i => cnt (cs i)) d a (fun i hi => by simp only [h i hi]) ha (List.finRange 16) (List.nodup_finRange 16)
  omega
theorem cnt_lay (cs : Fin 16 → Nd) (v p x : By) (h : ∀ a r, p = a :: r → at_ cs a = .nil) : cnt (lay cs v p x) ≤ cnt (.branch cs v) + 1 := by
  cases p with
  | nil => simp only [lay, cnt]; omega
  | cons a r =>
    simp only [lay]
    refine cnt_kid (a := a.toNat) (fun i hi => by unfold upd; rw [if_neg hi]) (fun i hi => ?_)
    unfold upd; rw [if_pos hi]; simp only [cnt]; omega
theorem cnt_none (v : By) : cnt (.branch none16 v) = 1 := by
  have : ((List.finRange 16).map fun i => cnt (none16 i)) = List.replicate 16 0 := by decide
  simp only [cnt, this]; rfl
theorem at_nodup {q p : By} {y : By} {a : UInt8} {r : By} {cs : Fin 16 → Nd} {v : By} (h : lay none16 [] q y = .branch cs v) (hp : p = a :: r) (hh : ∀ b s t, ¬ (q = b :: s ∧ p = b :: t)) : at_ cs a = .nil := by
  cases q with
  | nil =>
    simp only [lay, Nd.branch.injEq] at h
    rw [← h.1]; exact at_none a
  | cons b s =>
    simp only [lay, Nd.branch.injEq] at h
    rw [← h.1]
    have hne : a ≠ b := fun e => hh b s r ⟨rfl, by rw [hp, e]⟩
    rw [at_upd_ne hne]; exact at_none a
theorem cnt_put : ∀ (n : Nd) (p x : By), cnt (put n p x) ≤ cnt n + 4
  | .nil, p, x => by simp only [put, cnt]; omega
  | .leaf q v, p, x => by
    simp only [put]
    split
    · simp only [cnt]; omega
    · obtain ⟨t, q', p', _, _, _, hq', hp', _, hh⟩ := split_shared q p
      have h1 := cnt_rowed (p.take (shared q p)) (lay2 (lay none16 [] (q.drop (shared q p)) v) (p.drop (shared q p)) x)
      have h2 := cnt_lay none16 [] (q.drop (shared q p)) v (fun a r _ => at_none a)
      rw [cnt_none] at h2
      have h3 : cnt (lay2 (lay none16 [] (q.drop (shared q p)) v) (p.drop (shared q p)) x) ≤ cnt (lay none16 [] (q.drop (shared q p)) v) + 1 := by
        cases hl : lay none16 [] (q.drop (shared q p)) v with
        | branch cs w =>
          simp only [lay2]
          exact cnt_lay cs w _ x (fun a r hp => at_nodup hl hp (by rw [← hq', ← hp']; exact hh))
        | nil => cases hd : q.drop (shared q p) <;> rw [hd] at hl <;> simp [lay] at hl
        | leaf a b => cases hd : q.drop (shared q p) <;> rw [hd] at hl <;> simp [lay] at hl
        | row a b => cases hd : q.drop (shared q p) <;> rw [hd] at hl <;> simp [lay] at hl
      simp only [cnt]; omega
  | .row q c, p, x => by
    simp only [put]
    split
    · have := cnt_put c (p.drop (shared q p)) x
      simp only [cnt]; omega
    · rename_i hne
      obtain ⟨t, q', p', _, _, _, hq', hp', _, hh⟩ := split_shared q p
      have hlt : shared q p < q.length := by have := (shared_le q p).1; omega
      have h1 := cnt_rowed (p.take (shared q p)) (lay (upd none16 (q.getD (shared q p) 0) (rowed (q.drop (shared q p + 1)) c)) [] (p.drop (shared q p)) x)
      have hqd : q.getD (shared q p) 0 = q[shared q p] := by simp [List.getD_eq_getElem?_getD, hlt]
      have h2 := cnt_lay (upd none16 (q.getD (shared q p) 0) (rowed (q.drop (shared q p + 1)) c)) [] (p.drop (shared q p)) x (fun a r hp => by
        have hd : q.drop (shared q p) = q[shared q p] :: q.drop (shared q p + 1) := List.drop_eq_getElem_cons hlt
        have hne : a ≠ q.getD (shared q p) 0 := fun e => hh a _ r ⟨by rw [hq', hd, ← hqd, ← e], by rw [hp']; exact hp⟩
        rw [at_upd_ne hne]; exact at_none a)
      have h3 : cnt (.branch (upd none16 (q.getD (shared q p) 0) (rowed (q.drop (shared q p + 1)) c)) []) ≤ cnt (.branch none16 []) + (1 + cnt c) := by
        refine cnt_kid (a := (q.getD (shared q p) 0).toNat) (fun i hi => by unfold upd; rw [if_neg hi]) (fun i hi => ?_)
        unfold upd; rw [if_pos hi]
        have := cnt_rowed (q.drop (shared q p + 1)) c
        omega
      rw [cnt_none] at h3
      simp only [cnt] at *; omega
  | .branch cs v, p, x => by
    cases p with
    | nil => simp only [put, cnt]; omega
    | cons a r =>
      simp only [put]
      refine cnt_kid (a := a.toNat) (fun i hi => by rw [if_neg hi]) (fun i hi => ?_)
      rw [if_pos hi]
      exact cnt_put (cs i) r x
end Go.Trie
end
section
namespace Go.Proofs.Ytfghidehlnfdiaa
open Go Go.Vcg Go.Trie
section
variable {C C' : Type} {S : C → Prop} {w0 w w1 w' : World} {lab : Nat → C} {lab' : Nat → C'} {ct c cb : C} {c' cb' : C'}
theorem COw.re {e : TypeId} {sz : Nat} {o : Option Addr} {l k : Nat} {xs : List Value} (h : COw w lab c e sz o l k xs) (hl : ∀ k, k < w.heap.size → lab k = c → lab' k = c') : COw w lab' c' e sz o l k xs :=
  ⟨h.own, fun k hk => hl k (h.own.lt hk) (h.clr k hk)⟩
theorem NdCells.re {vs : List Value} {l : List (By × By)} (h : NdCells w lab cb vs l) (hl : ∀ k, k < w.heap.size → lab k = cb → lab' k = cb') : NdCells w lab' cb' vs l :=
  ⟨h.1, fun j hj => by obtain ⟨h1, h2, ob, kb, h3, h4⟩ := h.2 j hj; exact ⟨h1, h2, ob, kb, h3, CBy.re h4.1 hl, h4.2⟩⟩
def NdRow (w : World) (lab : Nat → C) (c : C) (l : List (By × By)) (o : Option Addr) (n : Nat) : Prop :=
  n = l.length ∧ ∃ vs, CRow w lab c o vs ∧ NdCells w lab c vs l
theorem NdRow.stp {lab2 : Nat → C} {l : List (By × By)} {o : Option Addr} {n : Nat} (h : NdRow w lab c l o n) (s : Stp S w lab w' lab2) (hs : ¬ S c) : NdRow w' lab2 c l o n := by
  obtain ⟨h1, vs, h2, h3⟩ := h
  exact ⟨h1, vs, h2.stp s hs, h3.stp s hs⟩
theorem NdRow.nil (w : World) (lab : Nat → C) (c : C) (o : Option Addr) : NdRow w lab c [] o 0 := ⟨rfl, [], CRow.nil w lab c o, NdCells.nil w lab c⟩
end
end Go.Proofs.Ytfghidehlnfdiaa
end
section
namespace Go.Trie
def ltB : By → By → Prop
  | _, [] => False
  | [], _ :: _ => True
  | a :: p, b :: q => a < b ∨ (a = b ∧ ltB p q)
theorem ltB_nil (p : By) : ¬ ltB p [] := by cases p <;> simp [ltB]
theorem ltB_irrefl : ∀ (p : By), ¬ ltB p p
  | [], h => h
  | a :: p, h => by
    rcases h with h | h
    · exact absurd h (UInt8.lt_irrefl a)
    · exact ltB_irrefl p h.2
theorem ltB_trans : ∀ {p q r : By}, ltB p q → ltB q r → ltB p r
  | p, q, [], _, h => (ltB_nil _ h).elim
  | p, [], c :: r, h, _ => (ltB_nil _ h).elim
  | [], b :: q, c :: r, _, _ => trivial
  | a :: p, b :: q, c :: r, h1, h2 => by
    rcases h1 with h1 | ⟨rfl, h1⟩
    · rcases h2 with h2 | ⟨rfl, h2⟩
      · exact .inl (UInt8.lt_trans h1 h2)
      · exact .inl h1
    · rcases h2 with h2 | ⟨rfl, h2⟩
      · exact .inl h2
      · exact .inr ⟨rfl, ltB_trans h1 h2⟩
theorem ltB_cons {a : UInt8} {p q : By} : ltB (a :: p) (a :: q) ↔ ltB p q := by
  simp only [ltB]
  constructor
  · rintro (h | h)
    · exact absurd h (UInt8.lt_irrefl a)
    · exact h.2
  · exact fun h => .inr ⟨trivial, h⟩
theorem ltB_append {t p q : By} : ltB (t ++ p) (t ++ q) ↔ ltB p q := by
  induction t with
  | nil => exact Iff.rfl
  | cons a t ih => rw [List.cons_append, List.cons_append, ltB_cons, ih]
def Rep (s : List (By × By)) (n : Nd) : Prop := s.Pairwise (fun x y => ltB x.1 y.1) ∧ ∀ k v, get n k = some v ↔ (k, v) ∈ s
theorem Rep.nil : Rep [] .nil := ⟨List.Pairwise.nil, fun k v => by simp [get]⟩
theorem Rep.nil_inv {n : Nd} (h : Rep [] n) (hc : Canon n) : n = .nil := by
  by_cases hn : n = .nil
  · exact hn
  · obtain ⟨k, v, hk⟩ := has_key hc hn
    have := (h.2 k v).1 hk
    simp at this
theorem Rep.ne {s : List (By × By)} {n : Nd} (h : Rep s n) (hs : s ≠ []) : n ≠ .nil := by
  rintro rfl
  cases s with
  | nil => exact hs rfl
  | cons x r =>
    have := (h.2 x.1 x.2).2 (by simp)
    simp [get] at this
theorem Rep.leaf {s : List (By × By)} {p v : By} (h : Rep s (.leaf p v)) : s = [(p, v)] := by
  have hm : ∀ x ∈ s, x = (p, v) := fun x hx => by
    have := (h.2 x.1 x.2).2 hx
    simp only [get] at this
    split at this
    · rename_i hp
      cases this
      exact Prod.ext hp.symm rfl
    · cases this
  have hin : (p, v) ∈ s := (h.2 p v).1 (by simp [get])
  cases s with
  | nil => simp at hin
  | cons x r =>
    cases r with
    | nil => rw [hm x (by simp)]
    | cons y r =>
      have h1 := hm x (by simp)
      have h2 := hm y (by simp)
      have := (List.pairwise_cons.1 h.1).1 y (by simp)
      rw [h1, h2] at this
      exact (ltB_irrefl _ this).elim
theorem Rep.two {s : List (By × By)} {n : Nd} (h : Rep s n) {k1 v1 k2 v2 : By} (h1 : get n k1 = some v1) (h2 : get n k2 = some v2) (hne : k1 ≠ k2) : 2 ≤ s.length := by
  have m1 := (h.2 _ _).1 h1
  have m2 := (h.2 _ _).1 h2
  match s, m1, m2 with
  | [x], m1, m2 =>
    simp at m1 m2
    exact (hne (by rw [← m2] at m1; exact (Prod.mk.inj m1).1)).elim
  | x :: y :: r, _, _ => simp
theorem Rep.row {s : List (By × By)} {p : By} {c : Nd} (h : Rep s (.row p c)) : (∀ x ∈ s, p <+: x.1) ∧ Rep (s.map fun x => (x.1.drop p.length, x.2)) c := by
  have hp : ∀ x ∈ s, p <+: x.1 := fun x hx => by
    obtain ⟨r, hr, _⟩ := get_row_some ((h.2 x.1 x.2).2 hx)
    exact ⟨r, hr.symm⟩
  refine ⟨hp, ?_, fun k v => ?_⟩
  · rw [List.pairwise_map]
    refine List.Pairwise.imp_of_mem (fun {x y} hx hy hxy => ?_) h.1
    obtain ⟨r, hr⟩ := hp x hx
    obtain ⟨t, ht⟩ := hp y hy
    rw [← hr, ← ht, ltB_append] at hxy
    simp only [← hr, ← ht, List.drop_left]
    exact hxy
  · rw [← get_row_append p k c, h.2]
    simp only [List.mem_map]
    constructor
    · intro hm
      exact ⟨_, hm, by simp⟩
    · rintro ⟨x, hx, he⟩
      obtain ⟨r, hr⟩ := hp x hx
      simp only [Prod.mk.injEq] at he
      rw [← hr, List.drop_left] at he
      obtain ⟨rfl, rfl⟩ := he
      rw [hr]; exact hx
theorem shared_append (t p q : By) : shared (t ++ p) (t ++ q) = t.length + shared p q := by
  induction t with
  | nil => simp
  | cons a t ih => simp only [List.cons_append, shared, if_true, ih, List.length_cons]; omega
theorem all_head {s : List (By × By)} (hs : s.Pairwise (fun x y => ltB x.1 y.1)) {x y : By × By} {a : UInt8} {p q : By} (hx : s.head? = some x) (hy : s.getLast? = some y) (hxa : x.1 = a :: p) (hya : y.1 = a :: q) : ∀ z ∈ s, ∃ r, z.1 = a :: r := by
  have hlast : ∀ {s : List (By × By)} {y : By × By}, s.Pairwise (fun x y => ltB x.1 y.1) → s.getLast? = some y → ∀ z ∈ s, z = y ∨ ltB z.1 y.1 := by
    intro s
    induction s with
    | nil => intro y _ h; simp at h
    | cons x r ih =>
      intro y hp hl z hz
      rw [List.pairwise_cons] at hp
      cases r with
      | nil => simp at hl hz; subst hl; exact .inl hz
      | cons x2 r2 =>
        rw [List.getLast?_cons_cons] at hl
        rcases List.mem_cons.1 hz with rfl | hz
        · have hy : y ∈ x2 :: r2 := List.mem_of_getLast? hl
          exact .inr (hp.1 y hy)
        · exact ih hp.2 hl z hz
  have hfirst : ∀ z ∈ s, z = x ∨ ltB x.1 z.1 := by
    intro z hz
    cases s with
    | nil => simp at hx
    | cons x' r =>
      simp at hx; subst hx
      rcases List.mem_cons.1 hz with rfl | hz
      · exact .inl rfl
      · exact .inr ((List.pairwise_cons.1 hs).1 z hz)
  intro z hz
  rcases hfirst z hz with rfl | h1
  · exact ⟨p, hxa⟩
  rcases hlast hs hy z hz with rfl | h2
  · exact ⟨q, hya⟩
  rw [hxa] at h1
  rw [hya] at h2
  cases hzz : z.1 with
  | nil => rw [hzz] at h1; exact (ltB_nil _ h1).elim
  | cons b r =>
    rw [hzz] at h1 h2
    have hab : a = b := by
      have h3 : a < b ∨ a = b := h1.elim .inl (fun h => .inr h.1)
      have h4 : b < a ∨ b = a := h2.elim .inl (fun h => .inr h.1)
      rcases h3 with h3 | h3
      · rcases h4 with h4 | h4
        · exact absurd (UInt8.lt_trans h3 h4) (UInt8.lt_irrefl a)
        · exact h4.symm
      · exact h3
    exact ⟨r, by rw [hab]⟩
theorem Rep.parts {s : List (By × By)} {n : Nd} (h : Rep s n) (hc : Canon n) (hb : IsBranch n) {x y : By × By} (hx : s.head? = some x) (hy : s.getLast? = some y) : shared x.1 y.1 = 0 := by
  cases hx1 : x.1 with
  | nil => simp [shared]
  | cons a p =>
    cases hy1 : y.1 with
    | nil => simp [shared]
    | cons b q =>
      simp only [shared]
      split
      · rename_i hab
        subst hab
        exfalso
        obtain ⟨k1, v1, k2, v2, h1, h2, hp⟩ := two_keys hc hb
        obtain ⟨r1, e1⟩ := all_head h.1 hx hy hx1 hy1 _ ((h.2 _ _).1 h1)
        obtain ⟨r2, e2⟩ := all_head h.1 hx hy hx1 hy1 _ ((h.2 _ _).1 h2)
        exact hp.2 a r1 r2 ⟨e1, e2⟩
      · rfl
theorem Rep.shared_row {s : List (By × By)} {p : By} {c : Nd} (h : Rep s (.row p c)) (hc : Canon (.row p c)) {x y : By × By} (hx : s.head? = some x) (hy : s.getLast? = some y) : shared x.1 y.1 = p.length := by
  obtain ⟨hp, hr⟩ := h.row
  have hxs : x ∈ s := List.mem_of_mem_head? hx
  have hys : y ∈ s := List.mem_of_getLast? hy
  obtain ⟨r, er⟩ := hp x hxs
  obtain ⟨t, et⟩ := hp y hys
  have := hr.parts hc.2.2.2 hc.2.2.1 (x := (x.1.drop p.length, x.2)) (y := (y.1.drop p.length, y.2)) (by rw [List.head?_map, hx]; rfl) (by rw [List.getLast?_map, hy]; rfl)
  rw [← er, ← et, List.drop_left, List.drop_left] at this
  rw [← er, ← et, shared_append, this]; omega
def headLt (a : Nat) (p : By) : Prop := match p with
  | [] => True
  | b :: _ => b.toNat < a
def headGe (a : Nat) (p : By) : Prop := match p with
  | [] => False
  | b :: _ => a ≤ b.toNat
theorem Rep.kid {s s1 t s3 : List (By × By)} {cs : Fin 16 → Nd} {v : By} (h : Rep s (.branch cs v)) (a : Fin 16) (he : s = s1 ++ (t ++ s3)) (h1 : ∀ x ∈ s1, headLt a.val x.1) (ht : ∀ x ∈ t, ∃ r, x.1 = UInt8.ofNat a.val :: r) (h3 : ∀ x ∈ s3, headGe (a.val + 1) x.1) :
    Rep (t.map fun x => (x.1.drop 1, x.2)) (cs a) := by
  have ha : (UInt8.ofNat a.val).toNat = a.val := by rw [UInt8.toNat_ofNat']; have := a.isLt; omega
  have hpt : t.Pairwise (fun x y => ltB x.1 y.1) := by
    have := h.1
    rw [he] at this
    exact ((List.pairwise_append.1 ((List.pairwise_append.1 this).2.1))).1
  refine ⟨?_, fun k w => ?_⟩
  · rw [List.pairwise_map]
    refine List.Pairwise.imp_of_mem (fun {x y} hx hy hxy => ?_) hpt
    obtain ⟨r, hr⟩ := ht x hx
    obtain ⟨q, hq⟩ := ht y hy
    rw [hr, hq, ltB_cons] at hxy
    simp only [hr, hq, List.drop_succ_cons, List.drop_zero]
    exact hxy
  · rw [← get_branch_cons cs v a k, h.2, he]
    simp only [List.mem_append, List.mem_map]
    constructor
    · rintro (hm | hm | hm)
      · have := h1 _ hm
        simp only [headLt, ha] at this
        omega
      · exact ⟨_, hm, by simp⟩
      · have := h3 _ hm
        simp only [headGe, ha] at this
        omega
    · rintro ⟨x, hx, hxe⟩
      obtain ⟨r, hr⟩ := ht x hx
      simp only [hr, List.drop_succ_cons, List.drop_zero, Prod.mk.injEq] at hxe
      obtain ⟨rfl, rfl⟩ := hxe
      rw [← hr]
      exact .inr (.inl hx)
theorem rest_ge {s2 t s3 : List (By × By)} {a : Nat} (hs : s2.Pairwise (fun x y => ltB x.1 y.1)) (he : s2 = t ++ s3) (hge : ∀ x ∈ s2, headGe a x.1) (hne : ∀ x, s3.head? = some x → ∀ b r, x.1 = b :: r → b.toNat ≠ a) : ∀ x ∈ s3, headGe (a + 1) x.1 := by
  subst he
  cases s3 with
  | nil => intro x hx; simp at hx
  | cons y r =>
    have hy := hge y (by simp)
    have hps := (List.pairwise_append.1 hs).2.1
    rw [List.pairwise_cons] at hps
    intro x hx
    cases hy1 : y.1 with
    | nil => rw [hy1] at hy; exact hy.elim
    | cons b q =>
      rw [hy1] at hy
      have hb := hne y rfl b q hy1
      have hb2 : a ≤ b.toNat := hy
      rcases List.mem_cons.1 hx with rfl | hx
      · rw [hy1]; show a + 1 ≤ b.toNat; omega
      · have hlt := hps.1 x hx
        rw [hy1] at hlt
        cases hx1 : x.1 with
        | nil => rw [hx1] at hlt; exact (ltB_nil _ hlt).elim
        | cons c p =>
          rw [hx1] at hlt
          show a + 1 ≤ c.toNat
          rcases hlt with hlt | ⟨rfl, _⟩
          · have : b.toNat < c.toNat := UInt8.lt_iff_toNat_lt.1 hlt
            omega
          · omega
theorem Rep.value {s : List (By × By)} {cs : Fin 16 → Nd} {v : By} (h : Rep s (.branch cs v)) {x : By × By} {r : List (By × By)} (hs : s = x :: r) : (x.1 = [] → v = x.2) ∧ (x.1 ≠ [] → v = []) ∧ ∀ y ∈ r, y.1 ≠ [] := by
  subst hs
  refine ⟨fun hx => ?_, fun hx => ?_, fun y hy e => ?_⟩
  · have := (h.2 x.1 x.2).2 (by simp)
    rw [hx, get_branch_nil] at this
    split at this
    · cases this
    · exact Option.some.inj this
  · by_cases hv : v = []
    · exact hv
    · exfalso
      have := (h.2 [] v).1 (by rw [get_branch_nil, if_neg hv])
      rcases List.mem_cons.1 this with e | hm
      · exact hx (by rw [← e])
      · have := (List.pairwise_cons.1 h.1).1 _ hm
        exact ltB_nil _ this
  · have := (List.pairwise_cons.1 h.1).1 y hy
    rw [e] at this
    exact ltB_nil _ this
end Go.Trie
end
section
namespace Go.Trie
def cmpB : By → By → Int
  | [], [] => 0
  | [], _ :: _ => -1
  | _ :: _, [] => 1
  | a :: p, b :: q => if a = b then cmpB p q else if a < b then -1 else 1
theorem cmpB_lt : ∀ {p q : By}, cmpB p q < 0 ↔ ltB p q
  | [], [] => by simp [cmpB, ltB]
  | [], _ :: _ => by simp [cmpB, ltB]
  | _ :: _, [] => by simp [cmpB, ltB]
  | a :: p, b :: q => by
    simp only [cmpB, ltB]
    by_cases hab : a = b
    · subst hab
      rw [if_pos rfl, cmpB_lt]
      exact ⟨fun h => .inr ⟨rfl, h⟩, fun h => h.elim (fun h => absurd h (UInt8.lt_irrefl a)) (·.2)⟩
    · rw [if_neg hab]
      by_cases hlt : a < b
      · rw [if_pos hlt]; simp [hlt]
      · rw [if_neg hlt]; simp [hlt, hab]
theorem cmpB_append (t p q : By) : cmpB (t ++ p) (t ++ q) = cmpB p q := by
  induction t with
  | nil => rfl
  | cons a t ih => simp only [List.cons_append, cmpB, if_true, ih]
theorem take_eq_split {p q : By} {j : Nat} (h : p.take j = q.take j) : cmpB p q = cmpB (p.drop j) (q.drop j) := by
  have := cmpB_append (p.take j) (p.drop j) (q.drop j)
  rw [List.take_append_drop, h, List.take_append_drop] at this
  exact this
end Go.Trie
namespace Go.Proofs.Ytfghidehlnfdiaa
open Go Go.Vcg Go.Trie
section
variable {w : World}
theorem cmp_calls {o1 o2 : Option Addr} {k1 k2 : Nat} {a b : By} (h1 : RdB w o1 a) (h2 : RdB w o2 b) (hl : a.length ≤ 2 ^ 62) :
    Calls Try.prog moraineref2_Bytes.n #[.slice o1 a.length k1, .slice o2 b.length k2] w (fun e w' => e = .returned (.int .i64 (cmpB a b)) ∧ Vcg.Mod NoB w w') := by
  refine calls_gen fun R hR => moraineref2_Bytes.vc _ _ _ _ _ _ _ _ ?_
  unfold moraineref2_Bytes.Vc
  refine ⟨fun w' => Vcg.Mod NoB w w' ∧ (a.take (min a.length b.length) = b.take (min a.length b.length)),
    ⟨fun i w' => ∃ j : Nat, i = (j : Int) ∧ j ≤ a.length ∧ j ≤ b.length ∧ a.take j = b.take j ∧ Vcg.Mod NoB w w', fun i _ => ((a.length : Int) - i).toNat, ⟨0, rfl, Nat.zero_le _, Nat.zero_le _, rfl, Mod.refl w⟩, ?_⟩, ?_⟩
  · rintro _ _ w1 ⟨j, rfl, hja, hjb, ht, M⟩
    refine ⟨fun hla => ⟨fun hlb => ?_, fun hlb => ⟨M, by rw [show min a.length b.length = j by omega]; exact ht⟩⟩, fun hla => ⟨M, by rw [show min a.length b.length = j by omega]; exact ht⟩⟩
    rintro _ rfl
    have ha : j < a.length := by omega
    have hb : j < b.length := by omega
    obtain ⟨ba, fa, rfl, hba, hca⟩ := rdb_get h1 ha
    obtain ⟨bb, fb, rfl, hbb, hcb⟩ := rdb_get h2 hb
    have M2 := M.step_drew
    have ca : ∀ w', Vcg.Mod NoB w w' → w'.cell? (Addr.add ⟨ba, fa, none⟩ (Int.toNat (j : Int))) = some (bV a[j]) := fun w' M => by rw [add_at, Int.toNat_natCast]; exact (cell_mod M hba (fun h => h)).trans hca
    have cb : ∀ w', Vcg.Mod NoB w w' → w'.cell? (Addr.add ⟨bb, fb, none⟩ (Int.toNat (j : Int))) = some (bV b[j]) := fun w' M => by rw [add_at, Int.toNat_natCast]; exact (cell_mod M hbb (fun h => h)).trans hcb
    refine ⟨_, rfl, ⟨by omega, by omega⟩, _, ca _ M2, _, rfl, ⟨by omega, by omega⟩, _, cb _ M2, fun hne => ?_, fun he => ?_⟩
    · rintro _ rfl
      have M3 := M2.step_drew
      have hab : a[j] ≠ b[j] := fun e => hne (by rw [e])
      have hc : cmpB a b = if a[j] < b[j] then -1 else 1 := by
        rw [take_eq_split ht, List.drop_eq_getElem_cons ha, List.drop_eq_getElem_cons hb]
        simp only [cmpB]; rw [if_neg hab]
      have hlt : a[j] < b[j] ↔ ((a[j].toNat : Int) < (b[j].toNat : Int)) := by rw [UInt8.lt_iff_toNat_lt]; omega
      refine ⟨_, rfl, ⟨by omega, by omega⟩, _, ca _ M3, _, rfl, ⟨by omega, by omega⟩, _, cb _ M3, fun h => hR _ _ ⟨?_, M3⟩, fun h => hR _ _ ⟨?_, M3⟩⟩
      · rw [hc, if_pos (hlt.2 h)]
      · rw [hc, if_neg (fun x => h (hlt.1 x))]
    · have hab : a[j] = b[j] := UInt8.toNat_inj.1 (by exact_mod_cast he)
      refine ⟨⟨j + 1, by rw [wrap_i64_small (by omega) (by omega)]; omega, ha, hb, ?_, M2⟩, by dsimp only; rw [wrap_i64_small (by omega) (by omega)]; omega⟩
      rw [List.take_add_one, List.take_add_one, ht, List.getElem?_eq_getElem ha, List.getElem?_eq_getElem hb, hab]
  · rintro _ w1 ⟨M, ht⟩
    have hc := take_eq_split ht
    refine ⟨fun h => hR _ _ ⟨?_, M⟩, fun h => ⟨fun h' => hR _ _ ⟨?_, M⟩, fun h' => hR _ _ ⟨?_, M⟩⟩⟩
    · rw [hc, List.drop_of_length_le (l := a) (by omega)]
      cases hd : b.drop (min a.length b.length) with
      | nil => have := congrArg List.length hd; rw [List.length_drop] at this; simp at this; omega
      | cons x r => rfl
    · rw [hc, List.drop_of_length_le (l := b) (by omega)]
      cases hd : a.drop (min a.length b.length) with
      | nil => have := congrArg List.length hd; rw [List.length_drop] at this; simp at this; omega
      | cons x r => rfl
    · rw [hc, List.drop_of_length_le (l := a) (by omega), List.drop_of_length_le (l := b) (by omega)]
      rfl
theorem wrap_u8_small (n : Nat) : IntKind.wrap .u8 (Int.tmod (n : Int) 256) = ((UInt8.ofNat n).toNat : Int) := by
  have : Int.tmod (n : Int) 256 = ((n % 256 : Nat) : Int) := rfl
  rw [this, wrap_u8_nat]
  have h1 : (UInt8.ofNat (n % 256)).toNat = (UInt8.ofNat n).toNat := by rw [UInt8.toNat_ofNat', UInt8.toNat_ofNat']; omega
  rw [h1]
theorem rhead_calls (base n : Nat) (hn : n < 2 ^ 31) (hb : base ≤ 192) :
    Calls Try.prog moraineref4_head.n #[.int .i64 (base : Int), .int .i64 (n : Int)] w (fun e w' => ∃ o k, e = .returned (.slice o (Trie.head n base).length k) ∧ Fresh w w' tU8 1 o (Trie.head n base).length k ((Trie.head n base).map bV)) := by
  refine calls_gen fun R hR => moraineref4_head.vc _ _ _ _ ?_
  unfold moraineref4_head.Vc
  refine ⟨fun hs => ?_, fun hs => ?_⟩
  · rintro d w2 ⟨rfl, rfl⟩
    have e : Trie.head n base = [UInt8.ofNat (base + n)] := by unfold Trie.head; rw [if_pos (by omega)]
    have ew : IntKind.wrap .i64 ((base : Int) + (n : Int)) = ((base + n : Nat) : Int) := by rw [wrap_i64_small (by omega) (by omega)]; omega
    rw [e] at hR
    rw [ew]
    exact hR _ _ ⟨_, _, rfl, one_byte w _ (wrap_u8_nat _)⟩
  · have e : Trie.head n base = UInt8.ofNat (base + 55 + (digits n).length) :: digits n := by unfold Trie.head; rw [if_neg (by omega)]
    refine ⟨fun o l k n' w' => ∃ (f m : Nat) (row : List UInt8), n' = (m : Int) ∧ m ≤ n ∧ m < 256 ^ f ∧ f ≤ 8 ∧ digits n = digitsF f m ++ row ∧ l = row.length ∧ Fresh w w' tU8 1 o l k (row.map bV), fun _ _ _ n' _ => n'.toNat,
      ⟨8, n, [], rfl, Nat.le_refl _, by omega, Nat.le_refl _, by rw [List.append_nil]; rfl, rfl, Fresh.nil (Mod.refl w) _ _⟩, ?_⟩
    rintro o _ k _ _ w1 ⟨f, m, row, rfl, hmn, hm, hf, hd, rfl, F⟩
    have hlen := digits_le n
    refine ⟨fun hpos => ?_, fun hz => ?_⟩
    · rintro d w2 ⟨rfl, rfl⟩
      rw [hd, List.length_append] at hlen
      cases f with
      | zero => simp at hm; omega
      | succ g =>
        have hM := Mod.alloc (S := NoB) w1 (.cells #[.int .u8 (IntKind.wrap .u8 (Int.tmod (m : Int) 256))] 5)
        have F1 := one_byte w1 (UInt8.ofNat m) (n := IntKind.wrap .u8 (Int.tmod (m : Int) 256)) (wrap_u8_small m)
        obtain ⟨o3, k3, w3, hr3, F3⟩ := push_bytes (ty := tSlU8) (k2 := k) F1 ((fresh_bytes F).mod' hM) (by omega)
        have hstep : digitsF (g + 1) m = digitsF g (m / 256) ++ [UInt8.ofNat m] := by
          simp only [digitsF]; rw [if_neg (by omega)]
        have hfd : IntKind.wrap .i64 (Int.tdiv (m : Int) 256) = ((m / 256 : Nat) : Int) := by
          rw [show Int.tdiv (m : Int) 256 = ((m / 256 : Nat) : Int) from rfl, wrap_i64_small (by omega) (by omega)]
        rw [hfd]
        refine ⟨_, w3, hr3, _, _, _, rfl, ⟨g, m / 256, UInt8.ofNat m :: row, rfl, by omega, ?_, by omega, ?_, ?_, ?_⟩, ?_⟩
        · rw [Nat.pow_succ] at hm
          exact Nat.div_lt_of_lt_mul (by rw [Nat.mul_comm]; exact hm)
        · rw [hd, hstep, List.append_assoc]; rfl
        · simp; omega
        · exact Fresh.from_ F3 F.mod
        · dsimp only; omega
    · have hm0 : m = 0 := by omega
      subst hm0
      have h0 : digitsF f 0 = [] := by cases f <;> simp [digitsF]
      rw [h0, List.nil_append] at hd
      rw [hd] at hlen
      rintro d w3 ⟨rfl, rfl⟩
      have ew2 : IntKind.wrap .i64 (IntKind.wrap .i64 ((base : Int) + 55) + (((row.length : Nat) : Int))) = ((base + 55 + row.length : Nat) : Int) := by
        rw [wrap_i64_small (n := (base : Int) + 55) (by omega) (by omega), wrap_i64_small (by omega) (by omega)]; omega
      rw [ew2]
      obtain ⟨o4, k4, w4, hr4, F4⟩ := push_bytes (ty := tSlU8) (k2 := k) (one_byte w1 _ (wrap_u8_nat (base + 55 + row.length))) ((fresh_bytes F).mod' (Mod.alloc _ _)) (by omega)
      refine ⟨_, w4, hr4, _, _, _, rfl, hR _ _ ⟨o4, k4, ?_, ?_⟩⟩
      · rw [e, List.length_cons, Nat.add_comm, hd]
      · rw [e, List.length_cons, Nat.add_comm, hd]
        exact Fresh.from_ F4 F.mod
theorem rBytes_calls {o : Option Addr} {k : Nat} {b : By} (h : RdB w o b) (hl : b.length < 2 ^ 30) :
    Calls Try.prog moraineref4_Bytes.n #[.slice o b.length k] w (fun e w' => ∃ o' k', e = .returned (.slice o' (enc (.s b)).length k') ∧ Fresh w w' tU8 1 o' (enc (.s b)).length k' ((enc (.s b)).map bV)) := by
  refine calls_gen fun R hR => moraineref4_Bytes.vc _ _ _ _ _ ?_
  unfold moraineref4_Bytes.Vc
  have long : own b = false → Calls Try.prog 101 #[(.int .i64 128), (.int .i64 ((b.length : Nat) : Int))] w (fun e17 w18 =>
      ∃ o19 : Option Addr, ∃ l20 : Nat, ∃ l21 : Nat, e17 = .returned (.slice o19 l20 l21) ∧
      ∃ (v22 : Value) (w23 : World), Sem.run Try.prog (builtinV .append #[22, 22] 22 #[(.slice o19 l20 l21), (.slice o b.length k)]) w18 = .ok v22 w23 ∧
      ∃ o24 : Option Addr, ∃ l25 : Nat, ∃ l26 : Nat, v22 = (.slice o24 l25 l26) ∧
      R (.returned (.slice o24 l25 l26)) w23) := by
    intro ho
    have e : enc (.s b) = Trie.head b.length 128 ++ b := by simp only [enc]; rw [if_neg (by rw [ho]; simp)]
    rw [e, List.length_append] at hR
    refine (rhead_calls 128 b.length (by omega) (by omega)).mono ?_
    rintro _ w1 ⟨o1, k1, rfl, F1⟩
    have := (head_len b.length 128).2
    obtain ⟨o2, k2, w2, hr2, F2⟩ := push_bytes (ty := tSlU8) (k2 := k) F1 (h.mod' F1.mod) (by omega)
    exact ⟨_, _, _, rfl, _, w2, hr2, _, _, _, rfl, hR _ _ ⟨o2, k2, rfl, F2⟩⟩
  refine ⟨fun h1 => ?_, fun h1 => long ?_⟩
  · obtain ⟨a, rfl⟩ : ∃ a, b = [a] := List.length_eq_one_iff.1 (by omega)
    obtain ⟨B, f, rfl, hB, hc⟩ := rdb_get h (i := 0) (by simp)
    have h2 : a < 128 ↔ a.toNat < 128 := by
      have : ∀ n : Fin 256, (UInt8.ofFin n < 128 ↔ (UInt8.ofFin n).toNat < 128) := by decide +kernel
      exact this a.toFin
    simp only [List.getElem_cons_zero] at hc
    refine ⟨_, rfl, ⟨by omega, by omega⟩, _, by rw [add_at]; exact hc, fun hlt => ⟨_, rfl, ⟨by omega, by omega⟩, _, by rw [add_at]; exact hc, ?_⟩, fun hge => long (by show decide (a < 128) = false; rw [decide_eq_false_iff_not, h2]; omega)⟩
    rintro d w2 ⟨rfl, rfl⟩
    have e : enc (.s [a]) = [a] := by simp only [enc]; rw [if_pos (by show decide (a < 128) = true; rw [decide_eq_true_eq, h2]; omega)]
    rw [e] at hR
    exact hR _ _ ⟨_, _, rfl, one_byte w a rfl⟩
  · unfold own
    split
    · simp at h1
    · rfl
theorem str_calls {o : Option Addr} {k : Nat} {b : By} (h : RdB w o b) (hl : b.length < 2 ^ 30) :
    Calls Try.prog moraineref14_str.n #[.slice o b.length k] w (fun e w' => ∃ o' k', e = .returned (.slice o' (enc (.s b)).length k') ∧ Fresh w w' tU8 1 o' (enc (.s b)).length k' ((enc (.s b)).map bV)) := by
  refine moraineref14_str.vc _ _ _ _ _ ?_
  unfold moraineref14_str.Vc
  refine (rBytes_calls h hl).mono ?_
  rintro _ w1 ⟨o1, k1, rfl, F1⟩
  exact ⟨_, _, _, rfl, o1, k1, rfl, F1⟩
theorem rList_calls {o : Option Addr} {k : Nat} {b : By} (h : RdB w o b) (hl : b.length < 2 ^ 30) :
    Calls Try.prog moraineref4_List.n #[.slice o b.length k] w (fun e w' => ∃ o' k', e = .returned (.slice o' (Trie.head b.length 192 ++ b).length k') ∧ Fresh w w' tU8 1 o' (Trie.head b.length 192 ++ b).length k' ((Trie.head b.length 192 ++ b).map bV)) := by
  refine moraineref4_List.vc _ _ _ _ _ ?_
  unfold moraineref4_List.Vc
  refine (rhead_calls 192 b.length (by omega) (by omega)).mono ?_
  rintro _ w1 ⟨o1, k1, rfl, F1⟩
  have := (head_len b.length 192).2
  obtain ⟨o2, k2, w2, hr2, F2⟩ := push_bytes (ty := tSlU8) (k2 := k) F1 (h.mod' F1.mod) (by omega)
  exact ⟨_, _, _, rfl, _, w2, hr2, _, _, _, rfl, o2, k2, by rw [List.length_append], by rw [List.length_append]; exact F2⟩
theorem rhi_nib (b : UInt8) : IntKind.wrap .u8 (Int.tdiv (b.toNat : Int) 16) = ((b >>> 4).toNat : Int) := by
  have : ∀ n : Fin 256, IntKind.wrap .u8 (Int.tdiv ((UInt8.ofFin n).toNat : Int) 16) = ((UInt8.ofFin n >>> 4).toNat : Int) := by decide +kernel
  exact this b.toFin
theorem rlo_nib (b : UInt8) : Int.tmod (b.toNat : Int) 16 = ((b &&& 15).toNat : Int) := by
  have : ∀ n : Fin 256, Int.tmod ((UInt8.ofFin n).toNat : Int) 16 = ((UInt8.ofFin n &&& 15).toNat : Int) := by decide +kernel
  exact this b.toFin
theorem rNibbles_calls {o : Option Addr} {k : Nat} {bs : By} (hr : RdB w o bs) (hl : bs.length ≤ 2 ^ 30) :
    Calls Try.prog moraineref14_Nibbles.n #[.slice o bs.length k] w (fun e w' => ∃ o' k', e = .returned (.slice o' (nibbles bs).length k') ∧ Fresh w w' tU8 1 o' (nibbles bs).length k' ((nibbles bs).map bV)) := by
  refine moraineref14_Nibbles.vc _ _ _ _ _ ?_
  unfold moraineref14_Nibbles.Vc
  refine ⟨fun o' l' k' i w' => ∃ j : Nat, i = (j : Int) ∧ j ≤ bs.length ∧ l' = (nibbles (bs.take j)).length ∧ Fresh w w' tU8 1 o' l' k' ((nibbles (bs.take j)).map bV), fun _ _ _ i _ => ((bs.length : Int) - i).toNat,
    ⟨0, rfl, Nat.zero_le _, rfl, Fresh.nil (Mod.refl w) _ _⟩, ?_⟩
  rintro o' _ k' _ _ w1 ⟨j, rfl, hj, rfl, F⟩
  refine ⟨fun hlt => ?_, fun hge => ?_⟩
  · rintro _ rfl
    have hjl : j < bs.length := by omega
    obtain ⟨b, f, rfl, hb, hc⟩ := rdb_get hr hjl
    have htk : bs.take (j + 1) = bs.take j ++ [bs[j]] := by rw [List.take_add_one, List.getElem?_eq_getElem hjl]; rfl
    have F' := F.mod' (Mod.drew (S := NoB) w1)
    have hc' : w1.drew.cell? (Addr.add ⟨b, f, none⟩ (Int.toNat (j : Int))) = some (bV bs[j]) := by rw [add_at, Int.toNat_natCast]; exact (cell_mod F'.mod hb (fun h => h)).trans hc
    refine ⟨_, rfl, ⟨by omega, by omega⟩, _, hc', _, rfl, ⟨by omega, by omega⟩, _, hc', ?_⟩
    rintro d w2 ⟨rfl, rfl⟩
    have hnl := nibbles_len (bs.take j)
    rw [List.length_take] at hnl
    obtain ⟨o3, k3, w3, hr3, F3⟩ := push_bytes (ty := tSlU8) (k2 := 2) (F'.mod' (Mod.alloc _ _)) (two_bytes (w := w1.drew) (bs[j] >>> 4) (bs[j] &&& 15) (rhi_nib _) (rlo_nib _)) (by simp; omega)
    refine ⟨_, w3, hr3, _, _, _, rfl, ⟨j + 1, by rw [wrap_i64_small (by omega) (by omega)]; omega, hjl, ?_, ?_⟩, ?_⟩
    · rw [htk, nibbles_snoc, List.length_append]
    · rw [htk, nibbles_snoc]; exact F3
    · dsimp only
      rw [wrap_i64_small (by omega) (by omega)]; omega
  · obtain rfl : j = bs.length := by omega
    rw [List.take_length] at F ⊢
    exact ⟨_, _, rfl, F⟩
theorem rEmpty_calls (w : World) : Calls Try.prog moraineref14_Empty.n #[] w (fun e w' => e = .returned (.agg (hashA emptyH)) ∧ Vcg.Mod NoB w w') := by
  refine moraineref14_Empty.vc _ _ ?_
  unfold moraineref14_Empty.Vc
  rintro d1 w1 ⟨rfl, rfl⟩ d2 w2 ⟨rfl, rfl⟩
  have M1 := Mod.alloc (S := NoB) w (.cells (Array.replicate 32 (.int .u8 0)) 26)
  have H := Blk.new w 26 (Array.replicate 32 (.int .u8 0))
  generalize w.alloc (.cells (Array.replicate 32 (.int .u8 0)) 26) = w1 at *
  have r2 := one_u8 w1
  have M2 := Mod.alloc (S := NoB) w1 (.cells #[.int .u8 128] 5)
  generalize w1.alloc (.cells #[.int .u8 128] 5) = w2 at *
  refine (refSum_calls [128] rfl (by simp) r2).mono ?_
  rintro _ w4 ⟨rfl, M4⟩
  have M24 := M2.trans M4 (fun _ _ h => h)
  obtain ⟨h1, h2, h3⟩ := hash_store (H.mod' M24) (by simp) (sumOf [128])
  exact ⟨_, rfl, _, h1, _, h2.rowAll (size_hashA _), rfl, mod_of (M1.trans M24 (fun _ _ h => h)) h3 (Nat.le_refl _)⟩
end
end Go.Proofs.Ytfghidehlnfdiaa
end
section
namespace Go.Proofs.Ytfghidehlnfdiaa
open Go Go.Vcg Go.Trie
theorem pair_add (a b : UInt8) (hb : b.toNat < 16) : IntKind.wrap .u8 (IntKind.wrap .u8 (16 * (a.toNat : Int)) + (b.toNat : Int)) = ((a <<< 4 ||| b).toNat : Int) := by
  have : ∀ (n : Fin 256) (m : Fin 16), IntKind.wrap .u8 (IntKind.wrap .u8 (16 * ((UInt8.ofFin n).toNat : Int)) + (m.val : Int)) = ((UInt8.ofFin n <<< 4 ||| UInt8.ofNat m.val).toNat : Int) := by decide +kernel
  have h := this a.toFin ⟨b.toNat, hb⟩
  simp only at h
  rw [show UInt8.ofNat b.toNat = b by simp] at h
  exact h
theorem nib_headed {p : By} (h : Nib p) (leaf : Bool) : Nib (headed p leaf) := by
  intro x hx
  unfold headed at hx
  split at hx
  · rcases List.mem_cons.1 hx with rfl | hx
    · cases leaf <;> decide
    · exact h x hx
  · rcases List.mem_cons.1 hx with rfl | hx
    · cases leaf <;> decide
    · rcases List.mem_cons.1 hx with rfl | hx
      · decide
      · exact h x hx
section
variable {w : World}
theorem rPack_calls {o : Option Addr} {k : Nat} {bs : By} (hr : RdB w o bs) (hl : bs.length ≤ 2 ^ 30) (leaf : Bool) :
    Calls Try.prog moraineref14_Pack.n #[.slice o bs.length k, .bool leaf] w (fun e w' => ∃ o' k', e = .returned (.tuple #[.slice o' (pack bs leaf).1.length k', .int .i64 (pack bs leaf).2]) ∧ Fresh w w' tU8 1 o' (pack bs leaf).1.length k' ((pack bs leaf).1.map bV)) := by
  refine calls_gen fun R hR => moraineref14_Pack.vc _ _ _ _ _ _ ?_
  unfold moraineref14_Pack.Vc
  have bad : packBad bs → R (.returned (.tuple #[.slice none 0 0, .int .i64 140])) w := fun h => by
    refine hR _ _ ⟨none, 0, ?_, ?_⟩
    · unfold pack; rw [if_pos h]; rfl
    · unfold pack; rw [if_pos h]; exact Fresh.nil (Mod.refl w) _ _
  refine ⟨fun h => bad (.inl (by omega)), fun h128 => ?_⟩
  refine ⟨fun i w' => ∃ j : Nat, i = (j : Int) ∧ j ≤ bs.length ∧ w' = w ∧ ∀ x ∈ bs.take j, x.toNat < 16, fun i _ => ((bs.length : Int) - i).toNat, ⟨0, rfl, Nat.zero_le _, rfl, by simp⟩, ?_⟩
  rintro _ _ w ⟨j, rfl, hj, rfl, hn⟩
  refine ⟨fun hlt => ?_, fun hge => ?_⟩
  · have hjl : j < bs.length := by omega
    obtain ⟨b, f, rfl, hb, hc⟩ := rdb_get hr hjl
    have htk : bs.take (j + 1) = bs.take j ++ [bs[j]] := by rw [List.take_add_one, List.getElem?_eq_getElem hjl]; rfl
    refine ⟨_, rfl, ⟨by omega, by omega⟩, _, by rw [add_at, Int.toNat_natCast]; exact hc, fun h => bad (.inr ⟨bs[j], List.getElem_mem _, ?_⟩), fun h => ⟨⟨j + 1, by rw [wrap_i64_small (by omega) (by omega)]; omega, hjl, rfl, ?_⟩, by dsimp only; rw [wrap_i64_small (by omega) (by omega)]; omega⟩⟩
    · show (16 : UInt8) ≤ bs[j]
      rw [UInt8.le_iff_toNat_le]
      show 16 ≤ _
      omega
    · intro x hx
      rw [htk] at hx
      rcases List.mem_append.1 hx with hx | hx
      · exact hn x hx
      · simp only [List.mem_singleton] at hx; subst hx; omega
  · obtain rfl : j = bs.length := by omega
    rw [List.take_length] at hn
    have hnib : Nib bs := hn
    have hgood : ¬ packBad bs := by
      rintro (h | ⟨x, hx, h⟩)
      · omega
      · have h1 := hn x hx
        have h2 : (16 : UInt8) ≤ x := h
        rw [UInt8.le_iff_toNat_le] at h2
        have h3 : 16 ≤ x.toNat := h2
        omega
    have hpk : pack bs leaf = (pairs (headed bs leaf), 0) := by unfold pack; rw [if_neg hgood]
    rw [hpk] at hR
    refine ⟨fun m w' => m = ((flagOf leaf).toNat : Int) ∧ w' = w, ⟨fun h => ⟨by rw [h]; rfl, rfl⟩, fun h => ⟨by rw [h]; rfl, rfl⟩⟩, ?_⟩
    rintro _ _ w7 ⟨rfl, rfl⟩
    rintro d8 w9 ⟨rfl, rfl⟩
    have hho : (headOf bs leaf).length ≤ 2 := by unfold headOf; split <;> simp
    refine ⟨fun o' l' k' w' => ∃ k0, k' = k0 ∧ l' = (headOf bs leaf).length ∧ Fresh w7 w' tU8 1 o' l' k' ((headOf bs leaf).map bV), ⟨fun hodd => ?_, fun hev => ?_⟩, ?_⟩
    · rintro d11 w12 ⟨rfl, rfl⟩
      have ho : bs.length % 2 = 1 := by
        have : Int.tmod ((bs.length : Nat) : Int) 2 = ((bs.length % 2 : Nat) : Int) := rfl
        omega
      have e : headOf bs leaf = [flagOf leaf + 1] := by unfold headOf; rw [if_pos ho]
      rw [e]
      have hw : IntKind.wrap .u8 (((flagOf leaf).toNat : Int) + 1) = ((flagOf leaf + 1).toNat : Int) := by cases leaf <;> decide
      rw [hw]
      exact ⟨_, rfl, rfl, Fresh.from_ (fresh_blk _ [flagOf leaf + 1] _ rfl (by simp [maxLen])) (Mod.alloc _ _)⟩
    · have ho : ¬ bs.length % 2 = 1 := by
        have : Int.tmod ((bs.length : Nat) : Int) 2 = ((bs.length % 2 : Nat) : Int) := rfl
        omega
      have e : headOf bs leaf = [flagOf leaf, 0] := by unfold headOf; rw [if_neg ho]
      rw [e]
      exact ⟨_, rfl, rfl, fresh_blk _ [flagOf leaf, 0] _ rfl (by simp [maxLen])⟩
    · rintro o13 _ _ _ w14 ⟨c13, rfl, rfl, F14⟩
      obtain ⟨o16, k16, w16, hr16, F16⟩ := push_bytes (ty := tSlU8) (k2 := k) F14 (hr.mod' F14.mod) (by omega)
      rw [← headed_eq] at F16
      have hlh : (headOf bs leaf).length + bs.length = (headed bs leaf).length := by rw [headed_eq, List.length_append]
      rw [hlh] at hr16 F16
      refine ⟨_, w16, hr16, _, _, _, rfl, ?_⟩
      obtain ⟨N, hN⟩ := headed_even bs leaf
      have hrh := fresh_bytes F16
      have hnh := nib_headed hnib leaf
      generalize headed bs leaf = H at *
      refine ⟨fun o' l' k' i w' => ∃ j : Nat, i = ((2 * j : Nat) : Int) ∧ j ≤ N ∧ l' = (pairs (H.take (2 * j))).length ∧ Fresh w16 w' tU8 1 o' l' k' ((pairs (H.take (2 * j))).map bV), fun _ _ _ i _ => ((H.length : Int) - i).toNat,
        ⟨0, rfl, Nat.zero_le _, rfl, Fresh.nil (Mod.refl w16) _ _⟩, ?_⟩
      rintro o' _ k' _ _ w23 ⟨j, rfl, hj, rfl, F⟩
      refine ⟨fun hlt => ?_, fun hge => ?_⟩
      · rintro _ rfl
        have h1 : 2 * j < H.length := by omega
        have h2 : 2 * j + 1 < H.length := by omega
        have F24 := F.mod' (Mod.drew (S := NoB) w23)
        obtain ⟨b, f, rfl, hb, hc1⟩ := rdb_get hrh h1
        obtain ⟨b', f', hb', _, hc2⟩ := rdb_get hrh h2
        cases hb'
        have e1 : IntKind.wrap .i64 (((2 * j : Nat) : Int) + 1) = ((2 * j + 1 : Nat) : Int) := by rw [wrap_i64_small (by omega) (by omega)]; omega
        have e2 : IntKind.wrap .i64 (((2 * j : Nat) : Int) + 2) = ((2 * (j + 1) : Nat) : Int) := by rw [wrap_i64_small (by omega) (by omega)]; omega
        rw [e1, e2]
        refine ⟨_, rfl, ⟨by omega, by omega⟩, _, by rw [add_at, Int.toNat_natCast]; exact (cell_mod F24.mod hb (fun h => h)).trans hc1, _, rfl, ⟨by omega, by omega⟩, _, by rw [add_at, Int.toNat_natCast]; exact (cell_mod F24.mod hb (fun h => h)).trans hc2, ?_⟩
        rw [pair_add _ _ (hnh _ (List.getElem_mem _))]
        rintro d29 w30 ⟨rfl, rfl⟩
        have htk : H.take (2 * (j + 1)) = H.take (2 * j) ++ [H[2 * j], H[2 * j + 1]] := by
          rw [show 2 * (j + 1) = 2 * j + 1 + 1 by omega, List.take_add_one, List.take_add_one, List.getElem?_eq_getElem h1, List.getElem?_eq_getElem h2, List.append_assoc]; rfl
        have htl : (H.take (2 * j)).length = 2 * j := by rw [List.length_take]; omega
        have hps := pairs_snoc j (H.take (2 * j)) H[2 * j] H[2 * j + 1] htl
        have hpl := pairs_len j (H.take (2 * j)) htl
        have one : RdB (w23.drew.alloc (.cells #[.int .u8 ((H[2 * j] <<< 4 ||| H[2 * j + 1]).toNat : Int)] 5)) (some ⟨w23.drew.heap.size, 0, none⟩) [H[2 * j] <<< 4 ||| H[2 * j + 1]] :=
          RdB.of_blk (Blk.new w23.drew 5 #[bV (H[2 * j] <<< 4 ||| H[2 * j + 1])]) (fun i hi => by
            obtain rfl : i = 0 := by simpa using hi
            rfl)
        obtain ⟨o31, k31, w31, hr31, F31⟩ := push_bytes (ty := tSlU8) (k2 := 1) (F24.mod' (Mod.alloc _ _)) one (by simp; omega)
        refine ⟨_, w31, hr31, _, _, _, rfl, ⟨j + 1, rfl, by omega, ?_, ?_⟩, by dsimp only; omega⟩
        · rw [htk, hps, List.length_append]
        · rw [htk, hps]; exact F31
      · obtain rfl : j = N := by omega
        rw [List.take_of_length_le (by omega)] at F ⊢
        exact hR _ _ ⟨_, _, rfl, Fresh.from_ F F16.mod⟩
end
abbrev tRn : TypeId := 123
abbrev tSlRn : TypeId := 46
theorem und_slRn : Try.prog.underlying tSlRn = some (.slice tRn) := by kernel_rfl
theorem info_rn : (Try.prog.info? tRn).map (fun i => (i.zero, i.size, i.bytes)) = some (some (.agg nd0), 33, 56) := by kernel_rfl
section
variable {C : Type} {S : C → Prop} {w0 w w1 w' : World} {lab lab' : Nat → C} {c cb : C}
def RnOwn (w : World) (lab : Nat → C) (c cb : C) (l : List (By × By)) (o : Option Addr) (n k : Nat) : Prop :=
  n = l.length ∧ ∃ vs, COw w lab c tRn 33 o n k vs ∧ NdCells w lab cb vs l
theorem RnOwn.nil (w : World) (lab : Nat → C) (c cb : C) : RnOwn w lab c cb [] none 0 0 := ⟨rfl, [], COw.nil w lab c _ _, NdCells.nil w lab cb⟩
theorem RnOwn.stp {l : List (By × By)} {o : Option Addr} {n k : Nat} (h : RnOwn w lab c cb l o n k) (s : Stp S w lab w' lab') (hs : ¬ S c) (hb : ¬ S cb) : RnOwn w' lab' c cb l o n k := by
  obtain ⟨h1, vs, h2, h3⟩ := h
  exact ⟨h1, vs, h2.stp s hs, h3.stp s hb⟩
theorem RnOwn.push {l : List (By × By)} {o : Option Addr} {n k D : Nat} {h b : By} {ob : Option Addr} {kb : Nat} (H : RnOwn w lab c cb l o n k) (hcb : cb ≠ c) (B : Blk w D tRn (ndA h ob b.length kb)) (hh : h.length = 32) (hb : CBy w lab cb ob b) (hk : b.length ≤ kb) (hl : l.length ≤ 2 ^ 20) :
    ∃ o' k' w', Sem.run Try.prog (builtinV .append #[tSlRn, tSlRn] tSlRn #[.slice o n k, .slice (some ⟨D, 0, none⟩) 1 1]) w = .ok (.slice o' (n + 1) k') w' ∧
      RnOwn w' (ext lab w.heap.size c) c cb (l ++ [(h, b)]) o' (n + 1) k' ∧ Stp (· = c) w lab w' (ext lab w.heap.size c) := by
  obtain ⟨rfl, vs, hO, hC⟩ := H
  obtain ⟨i, hi, hz, hs, hbt⟩ := info_of info_rn
  obtain ⟨o', k', w', h1, h2, h3⟩ := COw.append (ty := tSlRn) und_slRn hi hz hs (by rfl) hO (src_one und_slRn B (size_ndA _ _ _ _) (ndA_one _ _ _ _)) (by simp only [maxLen]; omega) (by rw [hbt]; omega)
  exact ⟨o', k', w', h1, ⟨by simp, _, h2, (hC.push hh hb hk).stp h3 hcb⟩, h3⟩
theorem NdCells.hash {vs : List Value} {l : List (By × By)} {o : Option Addr} (h : NdCells w lab cb vs l) (hR : CRow w lab c o vs) {j : Nat} (hj : j < l.length) : ∃ g f, o = some ⟨g, f, none⟩ ∧ g < w.heap.size ∧ lab g = c ∧ RowAt w ⟨g, f + j * 33, none⟩ 32 (hashA l[j].1) := by
  obtain ⟨h1, h2, ob, kb, h3, h4⟩ := h.2 j hj
  obtain ⟨g, f, ho, hg, hl, hc⟩ := hR _ _ h3
  refine ⟨g, f, ho, hg, hl, size_hashA _, fun i hi => ?_⟩
  obtain ⟨g', f', ho', _, _, hc'⟩ := hR _ _ (h2 i hi)
  rw [ho] at ho'; cases ho'
  rw [add_at, show f + j * 33 + i = f + (j * 33 + i) by omega, hc']
  show _ = (arrOf 32 (fun i => bV (l[j].1.getD i 0)))[i]?
  rw [get_arrOf_lt hi]
theorem NdCells.bytes {vs : List Value} {l : List (By × By)} {o : Option Addr} (h : NdCells w lab cb vs l) (hR : CRow w lab c o vs) {j : Nat} (hj : j < l.length) : ∃ g f, o = some ⟨g, f, none⟩ ∧ g < w.heap.size ∧ ∃ ob kb, w.cell? ⟨g, f + (j * 33 + 32), none⟩ = some (.slice ob l[j].2.length kb) ∧ CBy w lab cb ob l[j].2 ∧ l[j].2.length ≤ kb := by
  obtain ⟨h1, h2, ob, kb, h3, h4⟩ := h.2 j hj
  obtain ⟨g, f, ho, hg, hl, hc⟩ := hR _ _ h3
  exact ⟨g, f, ho, hg, ob, kb, hc, h4⟩
end
end Go.Proofs.Ytfghidehlnfdiaa
end
section
namespace Go.Proofs.Ytfghidehlnfdiaa
open Go Go.Vcg Go.Trie
abbrev tBuild : TypeId := 186
structure BS (w : World) (L : Nat → Nat) (d0 : Nat) (es : List (By × By)) (out : List (By × By)) : Prop where
  ex : ∃ ol cl op cp on nn kn, CB w L 1 d0 tBuild #[.slice ol es.length cl, .slice op es.length cp, .slice on nn kn, .bool false] ∧
    (∀ (j : Nat) (hj : j < es.length), ∃ b f ov kv, ol = some ⟨b, f, none⟩ ∧ b < w.heap.size ∧ L b = 6 ∧ w.cell? ⟨b, f + (j * 2 + 1), none⟩ = some (.slice ov es[j].2.length kv) ∧ CBy w L 6 ov es[j].2) ∧
    (∀ (j : Nat) (hj : j < es.length), ∃ b f o k, op = some ⟨b, f, none⟩ ∧ b < w.heap.size ∧ L b = 7 ∧ w.cell? ⟨b, f + j, none⟩ = some (.slice o es[j].1.length k) ∧ es[j].1.length ≤ k ∧ CBy w L 5 o es[j].1) ∧
    RnOwn w L 4 5 out on nn kn
theorem BS.stp {S : Nat → Prop} {w w' : World} {L L' : Nat → Nat} {d0 : Nat} {es out : List (By × By)} (h : BS w L d0 es out) (s : Stp S w L w' L') (h1 : ¬ S 1) (h4 : ¬ S 4) (h5 : ¬ S 5) (h6 : ¬ S 6) (h7 : ¬ S 7) : BS w' L' d0 es out := by
  obtain ⟨ol, cl, op, cp, on, nn, kn, a, b, c, d⟩ := h.ex
  refine ⟨⟨ol, cl, op, cp, on, nn, kn, a.stp s h1, fun j hj => ?_, fun j hj => ?_, d.stp s h4 h5⟩⟩
  · obtain ⟨g, f, ov, kv, e1, e2, e3, e4, e5⟩ := b j hj
    exact ⟨g, f, ov, kv, e1, Nat.lt_of_lt_of_le e2 s.size, (s.lab g e2).trans e3, (World.cell?_of_block (s.block g e2 (by rw [e3]; exact h6))).trans e4, e5.stp s h6⟩
  · obtain ⟨g, f, o, k, e1, e2, e3, e4, e5, e6⟩ := c j hj
    exact ⟨g, f, o, k, e1, Nat.lt_of_lt_of_le e2 s.size, (s.lab g e2).trans e3, (World.cell?_of_block (s.block g e2 (by rw [e3]; exact h7))).trans e4, e5, e6.stp s h5⟩
theorem BS.mod' {w w' : World} {L : Nat → Nat} {d0 : Nat} {es out : List (By × By)} (h : BS w L d0 es out) (M : Vcg.Mod NoB w w') (q : Nat) : BS w' (ext L w.heap.size q) d0 es out :=
  h.stp (S := NoS) (Stp.of_nob M q) (fun h => h) (fun h => h) (fun h => h) (fun h => h) (fun h => h)
abbrev SB1 : Nat → Prop := fun k => k = 1 ∨ k = 4
theorem node_calls {w : World} {L : Nat → Nat} {d0 k : Nat} {es out : List (By × By)} {o : Option Addr} {x h : By} (hB : BS w L d0 es out) (hx : CBy w L 5 o x) (hh : h.length = 32) (hk : x.length ≤ k) (hl : out.length ≤ 2 ^ 20) :
    Calls Try.prog moraineref14_build_node.n #[.pointer (some ⟨d0, 0, none⟩), .agg (hashA h), .slice o x.length k] w (fun e w' => e = .returned (.tuple #[]) ∧ ∃ L', Stp SB1 w L w' L' ∧ (∀ k, w.heap.size ≤ k → L' k = 4 ∨ L' k = 5) ∧ BS w' L' d0 es (if met out h then out else out ++ [(h, x)])) := by
  refine calls_gen fun R hR => moraineref14_build_node.vc _ _ _ _ _ _ _ ?_
  unfold moraineref14_build_node.Vc
  rintro d3 w1 ⟨rfl, rfl⟩
  have M1 := Mod.alloc (S := NoB) w (.cells (hashA h) 26)
  have H1 := Blk.new w 26 (hashA h)
  generalize w.alloc (.cells (hashA h) 26) = w1 at *
  refine ⟨fun w' => Vcg.Mod NoB w1 w' ∧ met out h = false, ⟨fun i w' => ∃ j : Nat, i = (j : Int) ∧ j ≤ out.length ∧ Vcg.Mod NoB w1 w' ∧ met (out.take j) h = false, fun i _ => ((out.length : Int) - i).toNat, ⟨0, rfl, Nat.zero_le _, Mod.refl _, rfl⟩, ?_⟩, ?_⟩
  · rintro _ _ w2 ⟨j, rfl, hj, M2, hm⟩
    have M02 := M1.trans M2 (fun _ _ h => h)
    have B2 := hB.mod' M02 5
    obtain ⟨ol, cl, op, cp, on, nn, kn, c1, c2, c3, c4⟩ := B2.ex
    obtain ⟨rfl, vs, O1, O2⟩ := c4
    simp only [add_at, Nat.zero_add]
    refine ⟨_, _, _, c1.blk.rd1 rfl, fun hlt => ⟨_, c1.blk.rd1 rfl, fun _ => ?_, fun h => by cases h⟩, fun hge => ⟨M2, ?_⟩⟩
    · rintro _ rfl
      have MD := Mod.drew (S := NoB) w2
      have hjl : j < out.length := by omega
      obtain ⟨g, f, rfl, hg, _, hrow⟩ := O2.hash O1.row hjl
      have hrow' : RowAt w2.drew (Addr.add ⟨g, f, none⟩ (Int.toNat (j : Int) * 33)) 32 (hashA out[j].1) := by rw [add_at, Int.toNat_natCast]; exact hrow
      have hlen := (O2.2 j hjl).1
      have htk : out.take (j + 1) = out.take j ++ [out[j]] := by rw [List.take_add_one, List.getElem?_eq_getElem hjl]; rfl
      have hm2 : met (out.take (j + 1)) h = decide (out[j].1 = h) := by
        rw [htk]
        unfold met at hm ⊢
        rw [List.any_append, hm]
        simp
      refine ⟨_, _, _, (c1.blk.mod' MD).rd1 rfl, _, rfl, ⟨by omega, by omega⟩, _, hrow', _, (H1.mod' (M2.trans MD (fun _ _ h => h))).rowAll (size_hashA _), _, hash_eq _ _ hlen hh, _, rfl, fun he => ?_, fun he => ?_⟩
      · have hmt : met out h = true := by
          unfold met
          exact List.any_eq_true.2 ⟨out[j], List.getElem_mem _, he⟩
        rw [hmt, if_pos rfl] at hR
        exact hR _ _ ⟨rfl, _, (Stp.of_nob (M02.trans MD (fun _ _ h => h)) 5).mono (S := NoS) (fun _ h => h.elim), fun k hk => .inr (ext_new hk), hB.mod' (M02.trans MD (fun _ _ h => h)) 5⟩
      · exact ⟨⟨j + 1, by rw [wrap_i64_small (by omega) (by omega)]; omega, hjl, M2.trans MD (fun _ _ h => h), by rw [hm2]; exact he⟩, by rw [wrap_i64_small (by omega) (by omega)]; omega⟩
    · rw [List.take_of_length_le (by omega)] at hm; exact hm
  · rintro _ w2 ⟨M2, hm⟩
    rintro _ rfl
    rw [hm] at hR
    simp only [Bool.false_eq_true, if_false] at hR
    have M3 := M2.step_drew
    have M03 := M1.trans M3 (fun _ _ h => h)
    have H3 := H1.mod' M3
    have B3 := hB.mod' M03 5
    have s03 : Stp NoS w L w2.drew (ext L w.heap.size 5) := Stp.of_nob M03 5
    have hx3 := hx.stp s03 (fun h => h)
    have hnew3 : ∀ k, w.heap.size ≤ k → ext L w.heap.size 5 k = 4 ∨ ext L w.heap.size 5 k = 5 := fun k hk => .inr (ext_new hk)
    have hsz3 := M03.size
    generalize w2.drew = w3 at *
    generalize ext L w.heap.size 5 = L3 at *
    obtain ⟨ol, cl, op, cp, on, nn, kn, c1, c2, c3, c4⟩ := B3.ex
    have hZ : nd0.size = 33 := rfl
    simp only [add_at, Nat.zero_add]
    refine ⟨_, _, _, c1.blk.rd1 rfl, _, H3.rowAll (size_hashA _), size_hashA _, by rw [size_setsAt]; unfold lputL; rw [size_setsAt, hZ], ?_⟩
    rw [nd_built hZ]
    rintro d w4 ⟨rfl, rfl⟩
    have M4 := Mod.alloc (S := NoB) w3 (.cells (ndA h o x.length k) tRn)
    have N4 := Blk.new w3 tRn (ndA h o x.length k)
    have s4 : Stp NoS w3 L3 (w3.alloc (.cells (ndA h o x.length k) tRn)) (ext L3 w3.heap.size 5) := Stp.of_nob M4 5
    show World.cell? (w3.alloc (.cells (ndA h o x.length k) tRn)) _ = _ ∧ ∃ (v30 : Value) (w31 : World), Sem.run Try.prog (builtinV .append #[46, 46] 46 #[(.slice on nn kn), (.slice (some ⟨w3.heap.size, 0, none⟩) 1 1)]) (w3.alloc (.cells (ndA h o x.length k) tRn)) = .ok v30 w31 ∧ _
    have hnew4 : ∀ k, w.heap.size ≤ k → ext L3 w3.heap.size 5 k = 4 ∨ ext L3 w3.heap.size 5 k = 5 := fun k hk => by
      by_cases hlt : k < w3.heap.size
      · rw [ext_old hlt]; exact hnew3 k hk
      · exact .inr (ext_new (by omega))
    have hsz4 := M4.size
    generalize w3.alloc (.cells (ndA h o x.length k) tRn) = w4 at *
    have B4 := B3.stp s4 (fun h => h) (fun h => h) (fun h => h) (fun h => h) (fun h => h)
    have c14 := c1.stp s4 (fun h => h)
    have c44 := c4.stp s4 (fun h => h) (fun h => h)
    have hx4 := hx3.stp s4 (fun h => h)
    generalize ext L3 w3.heap.size 5 = L4 at *
    refine ⟨c14.blk.rd1 rfl, ?_⟩
    obtain ⟨o', k', w5, hr5, O5, s5⟩ := c44.push (by decide) N4 hh hx4 hk hl
    have hnew5 : ∀ k, w.heap.size ≤ k → ext L4 w4.heap.size 4 k = 4 ∨ ext L4 w4.heap.size 4 k = 5 := fun k hk => by
      by_cases hlt : k < w4.heap.size
      · rw [ext_old hlt]; exact hnew4 k hk
      · exact .inl (ext_new (by omega))
    have c15 := c14.stp s5 (by decide)
    have B5 : ∀ (j : Nat) (hj : j < es.length), _ := fun j hj => c2 j hj
    have s35 := (s4.mono (T := fun k => k = 4) (fun _ h => h.elim)).trans s5
    generalize ext L4 w4.heap.size 4 = L5 at *
    refine ⟨_, w5, hr5, o', _, k', rfl, c15.blk.canSet (by simp) rfl, ?_⟩
    rintro _ rfl
    have s6 : Stp (fun k => k = 1) w5 L5 (w5.setCell ⟨d0, 2, none⟩ (.slice o' (nn + 1) k')) L5 := Stp.setCell c15.clr
    have s36 : Stp SB1 w3 L3 (w5.setCell ⟨d0, 2, none⟩ (.slice o' (nn + 1) k')) L5 := (s35.mono (fun _ h => .inr h)).trans (s6.mono (fun _ h => .inl h))
    refine hR _ _ ⟨rfl, L5, (s03.mono (fun _ h => h.elim)).trans s36, hnew5, ⟨⟨ol, cl, op, cp, o', nn + 1, k', c15.set 2 _, fun j hj => ?_, fun j hj => ?_, O5.stp s6 (by decide) (by decide)⟩⟩⟩
    · obtain ⟨g, f, ov, kv, e1, e2, e3, e4, e5⟩ := c2 j hj
      exact ⟨g, f, ov, kv, e1, Nat.lt_of_lt_of_le e2 s36.size, (s36.lab g e2).trans e3, (World.cell?_of_block (s36.block g e2 (by rw [e3]; decide))).trans e4, e5.stp s36 (by decide)⟩
    · obtain ⟨g, f, o, k, e1, e2, e3, e4, e5, e6⟩ := c3 j hj
      exact ⟨g, f, o, k, e1, Nat.lt_of_lt_of_le e2 s36.size, (s36.lab g e2).trans e3, (World.cell?_of_block (s36.block g e2 (by rw [e3]; decide))).trans e4, e5, e6.stp s36 (by decide)⟩
end Go.Proofs.Ytfghidehlnfdiaa
end
section
namespace Go.Trie
def seg (es : List (By × By)) (a b i : Nat) : List (By × By) := ((es.drop a).take (b - a)).map fun e => (e.1.drop i, e.2)
structure Okseg (es : List (By × By)) (a b i : Nat) : Prop where
  lt : a < b
  le : b ≤ es.length
  len : ∀ (j : Nat) (hj : j < es.length), a ≤ j → j < b → i ≤ es[j].1.length
theorem seg_len {es : List (By × By)} {a b i : Nat} (h : b ≤ es.length) : (seg es a b i).length = b - a := by
  unfold seg; rw [List.length_map, List.length_take, List.length_drop]; omega
theorem seg_get {es : List (By × By)} {a b i j : Nat} (h : b ≤ es.length) (hj : a + j < b) : (seg es a b i)[j]? = some (es[a + j].1.drop i, es[a + j].2) := by
  unfold seg
  rw [List.getElem?_map, List.getElem?_take, if_pos (by omega), List.getElem?_drop, List.getElem?_eq_getElem (by omega)]
  rfl
theorem seg_nil (es : List (By × By)) (a i : Nat) : seg es a a i = [] := by unfold seg; rw [Nat.sub_self, List.take_zero]; rfl
theorem seg_mem {es : List (By × By)} {a b i : Nat} (h : b ≤ es.length) {x : By × By} (hx : x ∈ seg es a b i) : ∃ (j : Nat) (hj : j < es.length), a ≤ j ∧ j < b ∧ x = (es[j].1.drop i, es[j].2) := by
  obtain ⟨j, hj⟩ := List.mem_iff_getElem?.1 hx
  have hl : j < (seg es a b i).length := by
    rcases Nat.lt_or_ge j (seg es a b i).length with h | h
    · exact h
    · rw [List.getElem?_eq_none h] at hj; cases hj
  rw [seg_len h] at hl
  rw [seg_get h (by omega)] at hj
  exact ⟨a + j, by omega, by omega, by omega, (Option.some.inj hj).symm⟩
theorem mem_seg {es : List (By × By)} {a b i j : Nat} (h : b ≤ es.length) (h1 : a ≤ j) (h2 : j < b) : (es[j].1.drop i, es[j].2) ∈ seg es a b i := by
  have := seg_get (a := a) (b := b) (i := i) (j := j - a) h (by omega)
  simp only [show a + (j - a) = j by omega] at this
  exact List.mem_of_getElem? this
theorem seg_head {es : List (By × By)} {a b i : Nat} (h : Okseg es a b i) : (seg es a b i).head? = some ((es[a]'(by have := h.lt; have := h.le; omega)).1.drop i, (es[a]'(by have := h.lt; have := h.le; omega)).2) := by
  have := seg_get (a := a) (b := b) (i := i) (j := 0) h.le (by have := h.lt; omega)
  rw [List.head?_eq_getElem?, this]
  rfl
theorem seg_last {es : List (By × By)} {a b i : Nat} (h : Okseg es a b i) : (seg es a b i).getLast? = some ((es[b - 1]'(by have := h.lt; have := h.le; omega)).1.drop i, (es[b - 1]'(by have := h.lt; have := h.le; omega)).2) := by
  have h1 := h.lt
  have := seg_get (a := a) (b := b) (i := i) (j := b - 1 - a) h.le (by omega)
  rw [List.getLast?_eq_getElem?, seg_len h.le, show b - a - 1 = b - 1 - a by omega, this]
  simp only [show a + (b - 1 - a) = b - 1 by omega]
theorem seg_add (es : List (By × By)) (a b i j : Nat) : seg es a b (i + j) = (seg es a b i).map fun x => (x.1.drop j, x.2) := by
  unfold seg
  rw [List.map_map]
  congr 1
  funext e
  simp [List.drop_drop]
theorem seg_split {es : List (By × By)} {a m b i : Nat} (h1 : a ≤ m) (h2 : m ≤ b) : seg es a b i = seg es a m i ++ seg es m b i := by
  unfold seg
  rw [← List.map_append]
  congr 1
  have : b - a = (m - a) + (b - m) := by omega
  rw [this, List.take_add, List.drop_drop, show a + (m - a) = m by omega]
theorem seg_cons {es : List (By × By)} {a b i : Nat} (h : Okseg es a b i) : seg es a b i = ((es[a]'(by have := h.lt; have := h.le; omega)).1.drop i, (es[a]'(by have := h.lt; have := h.le; omega)).2) :: seg es (a + 1) b i := by
  have h1 := h.lt
  have h2 := h.le
  unfold seg
  rw [List.drop_eq_getElem_cons (by omega : a < es.length), show b - a = (b - (a + 1)) + 1 by omega, List.take_succ_cons, List.map_cons]
def kidsN : Nd → List (By × By) → List (By × By)
  | .row _ c, out => visitN c false out
  | .branch cs _, out => (List.finRange 16).foldl (fun o i => visitN (cs i) false o) out
  | _, out => out
theorem visit_kids {n : Nd} (h : n ≠ .nil) (top : Bool) (out : List (By × By)) : visitN n top out = putNode (kidsN n out) top (bytesOf n) := by
  cases n with
  | nil => exact (h rfl).elim
  | leaf p v => rfl
  | row p c => rfl
  | branch cs v => rfl
theorem kids_len {n : Nd} (out : List (By × By)) : (kidsN n out).length ≤ out.length + cnt n := by
  cases n with
  | nil => simp [kidsN]
  | leaf p v => simp [kidsN]
  | row p c =>
    have := visitN_len c false out
    simp only [kidsN, cnt]; omega
  | branch cs v =>
    have := foldl_len (fun i out => visitN_len (cs i) false out) (List.finRange 16) out
    simp only [kidsN, cnt]; omega
end Go.Trie
namespace Go.Proofs.Ytfghidehlnfdiaa
open Go Go.Vcg Go.Trie
abbrev SI (i : Nat) : Nat → Prop := fun k => k = 1 ∨ k = 4 ∨ 8 + i ≤ k
theorem push_col {w : World} {L : Nat → Nat} {q : Nat} {o : Option Addr} {l k : Nat} {b c : By} {o2 : Option Addr} {k2 : Nat} {ty : TypeId} (h : COw w L q tU8 1 o l k (b.map bV)) (hr : RdB w o2 c) (hn : l + c.length ≤ 2 ^ 40) :
    ∃ o' k' w', Sem.run Try.prog (builtinV .append #[tSlU8, tSlU8] ty #[.slice o l k, .slice o2 c.length k2]) w = .ok (.slice o' (l + c.length) k') w' ∧ COw w' (ext L w.heap.size q) q tU8 1 o' (l + c.length) k' ((b ++ c).map bV) ∧ Stp (· = q) w L w' (ext L w.heap.size q) := by
  obtain ⟨i, hi, hz, hs, hb⟩ := info_of info_u8
  rw [List.map_append]
  exact COw.append und_slU8 hi hz hs rfl h (src_bytes und_slU8 hr) (by simp only [maxLen]; omega) (by rw [hb]; omega)
theorem loop_j {w : World} {L : Nat → Nat} {d0 a b i : Nat} {es out : List (By × By)} (hB : BS w L d0 es out) (hok : Okseg es a b i) (hlen : ∀ e ∈ es, e.1.length ≤ 128) (hle : es.length ≤ 2 ^ 20) (hi : i ≤ 128) {J45 : Int → World → Prop}
    (hJ : ∀ w', Vcg.Mod NoB w w' → J45 (shared ((es[a]'(by have := hok.lt; have := hok.le; omega)).1.drop i) ((es[b - 1]'(by have := hok.lt; have := hok.le; omega)).1.drop i) : Int) w') :
    ∃ (I46 : Int → World → Prop) (μ46 : Int → World → Nat), I46 0 w ∧
     (∀ (n47 : Int) (j48 : Nat → Value) (w48 : World), I46 n47 w48 →
       ∀ w49 : World, IsDrew w48 w49 →
       ∃ o50 : Option Addr, ∃ l51 : Nat, ∃ l52 : Nat, World.cell? w49 (Addr.add ⟨d0, 0, none⟩ 1) = some (.slice o50 l51 l52) ∧
       ∃ d53 : Addr, o50 = some d53 ∧
       ((0 : Int) ≤ (a : Int) ∧ (a : Int) < ((l51 : Nat) : Int)) ∧
       ∃ o54 : Option Addr, ∃ l55 : Nat, ∃ l56 : Nat, World.cell? w49 (Addr.add d53 (Int.toNat (a : Int))) = some (.slice o54 l55 l56) ∧
       (((((l55 : Nat) : Int) > (IntKind.wrap .i64 ((i : Int) + n47)) →
         ∃ o57 : Option Addr, ∃ l58 : Nat, ∃ l59 : Nat, World.cell? w49 (Addr.add ⟨d0, 0, none⟩ 1) = some (.slice o57 l58 l59) ∧
         ∃ d60 : Addr, o57 = some d60 ∧
         ((0 : Int) ≤ (IntKind.wrap .i64 ((b : Int) - 1)) ∧ (IntKind.wrap .i64 ((b : Int) - 1)) < ((l58 : Nat) : Int)) ∧
         ∃ o61 : Option Addr, ∃ l62 : Nat, ∃ l63 : Nat, World.cell? w49 (Addr.add d60 (Int.toNat (IntKind.wrap .i64 ((b : Int) - 1)))) = some (.slice o61 l62 l63) ∧
         (((((l62 : Nat) : Int) > (IntKind.wrap .i64 ((i : Int) + n47)) →
           ∃ o64 : Option Addr, ∃ l65 : Nat, ∃ l66 : Nat, World.cell? w49 (Addr.add ⟨d0, 0, none⟩ 1) = some (.slice o64 l65 l66) ∧
           ∃ d67 : Addr, o64 = some d67 ∧
           ((0 : Int) ≤ (a : Int) ∧ (a : Int) < ((l65 : Nat) : Int)) ∧
           ∃ o68 : Option Addr, ∃ l69 : Nat, ∃ l70 : Nat, World.cell? w49 (Addr.add d67 (Int.toNat (a : Int))) = some (.slice o68 l69 l70) ∧
           ∃ d71 : Addr, o68 = some d71 ∧
           ((0 : Int) ≤ (IntKind.wrap .i64 ((i : Int) + n47)) ∧ (IntKind.wrap .i64 ((i : Int) + n47)) < ((l69 : Nat) : Int)) ∧
           ∃ n72 : Int, World.cell? w49 (Addr.add d71 (Int.toNat (IntKind.wrap .i64 ((i : Int) + n47)))) = some (.int .u8 n72) ∧
           ∃ o73 : Option Addr, ∃ l74 : Nat, ∃ l75 : Nat, World.cell? w49 (Addr.add ⟨d0, 0, none⟩ 1) = some (.slice o73 l74 l75) ∧
           ∃ d76 : Addr, o73 = some d76 ∧
           ((0 : Int) ≤ (IntKind.wrap .i64 ((b : Int) - 1)) ∧ (IntKind.wrap .i64 ((b : Int) - 1)) < ((l74 : Nat) : Int)) ∧
           ∃ o77 : Option Addr, ∃ l78 : Nat, ∃ l79 : Nat, World.cell? w49 (Addr.add d76 (Int.toNat (IntKind.wrap .i64 ((b : Int) - 1)))) = some (.slice o77 l78 l79) ∧
           ∃ d80 : Addr, o77 = some d80 ∧
           ((0 : Int) ≤ (IntKind.wrap .i64 ((i : Int) + n47)) ∧ (IntKind.wrap .i64 ((i : Int) + n47)) < ((l78 : Nat) : Int)) ∧
           ∃ n81 : Int, World.cell? w49 (Addr.add d80 (Int.toNat (IntKind.wrap .i64 ((i : Int) + n47)))) = some (.int .u8 n81) ∧
           (((n72 = n81 →
             I46 (IntKind.wrap .i64 (n47 + 1)) w49 ∧ μ46 (IntKind.wrap .i64 (n47 + 1)) w49 < μ46 n47 w48)) ∧
            ((n72 ≠ n81 →
             J45 n47 w49))))) ∧
          ((¬ ((l62 : Nat) : Int) > (IntKind.wrap .i64 ((i : Int) + n47)) →
           J45 n47 w49))))) ∧
        ((¬ ((l55 : Nat) : Int) > (IntKind.wrap .i64 ((i : Int) + n47)) →
         J45 n47 w49)))) := by
  have h1 := hok.lt
  have h2 := hok.le
  have ha : a < es.length := by omega
  have hb : b - 1 < es.length := by omega
  have la := hok.len a ha (Nat.le_refl _) h1
  have lb := hok.len (b - 1) hb (by omega) (by omega)
  have l1 := hlen _ (List.getElem_mem ha)
  have l2 := hlen _ (List.getElem_mem hb)
  generalize hf : es[a].1 = f at *
  generalize hg : es[b - 1].1 = g at *
  have hfl : (f.drop i).length = f.length - i := List.length_drop
  have hgl : (g.drop i).length = g.length - i := List.length_drop
  refine ⟨fun n w' => ∃ j : Nat, n = (j : Int) ∧ i + j ≤ f.length ∧ i + j ≤ g.length ∧ (f.drop i).take j = (g.drop i).take j ∧ Vcg.Mod NoB w w', fun n _ => ((129 : Int) - n).toNat, ⟨0, rfl, by omega, by omega, rfl, Mod.refl w⟩, ?_⟩
  rintro _ _ w1 ⟨j, rfl, hjf, hjg, ht, M⟩
  rintro _ rfl
  have M2 := M.step_drew
  have fin : (j = (f.drop i).length ∨ j = (g.drop i).length ∨ ∃ (x : j < (f.drop i).length) (y : j < (g.drop i).length), (f.drop i)[j] ≠ (g.drop i)[j]) → J45 (j : Int) w1.drew := fun h => by
    have := hJ _ M2
    rw [shared_eq ht (by omega) (by omega) h] at this
    exact this
  obtain ⟨ol, cl, op, cp, on, nn, kn, c1, c2, c3, c4⟩ := (hB.mod' M2 5).ex
  have hc : World.cell? w1.drew ⟨d0, 1, none⟩ = some (.slice op es.length cp) := c1.blk.rd1 rfl
  obtain ⟨g1, f1, o1, k1, e1, e2, e3, e4, e5, e6⟩ := c3 a ha
  obtain ⟨g2, f2, o2, k2, e1', e2', e3', e4', e5', e6'⟩ := c3 (b - 1) hb
  subst e1
  cases e1'
  rw [hf] at e4 e5 e6
  rw [hg] at e4' e5' e6'
  have ew : IntKind.wrap .i64 ((i : Int) + (j : Int)) = ((i + j : Nat) : Int) := by rw [wrap_i64_small (by omega) (by omega)]; omega
  have eb : IntKind.wrap .i64 ((b : Int) - 1) = ((b - 1 : Nat) : Int) := by rw [wrap_i64_small (by omega) (by omega)]; omega
  simp only [ew, eb, add_at, Nat.zero_add, Int.toNat_natCast]
  refine ⟨_, _, _, hc, _, rfl, ⟨by omega, by omega⟩, _, _, _, by rw [add_at]; exact e4, fun hlf => ⟨_, _, _, hc, _, rfl, ⟨by omega, by omega⟩, _, _, _, by rw [add_at]; exact e4', fun hlg => ?_, fun hlg => fin (.inr (.inl (by omega)))⟩, fun hlf => fin (.inl (by omega))⟩
  have hjf' : i + j < f.length := by omega
  have hjg' : i + j < g.length := by omega
  obtain ⟨pb, pf, rfl, hpb, hpc⟩ := rdb_get e6.rd hjf'
  obtain ⟨qb, qf, rfl, hqb, hqc⟩ := rdb_get e6'.rd hjg'
  refine ⟨_, _, _, hc, _, rfl, ⟨by omega, by omega⟩, _, _, _, by rw [add_at]; exact e4, _, rfl, ⟨by omega, by omega⟩, _, by rw [add_at]; exact hpc, _, _, _, hc, _, rfl, ⟨by omega, by omega⟩, _, _, _, by rw [add_at]; exact e4', _, rfl, ⟨by omega, by omega⟩, _, by rw [add_at]; exact hqc, fun he => ?_, fun he => fin (.inr (.inr ⟨by omega, by omega, ?_⟩))⟩
  · have hab : f[i + j] = g[i + j] := UInt8.toNat_inj.1 (by exact_mod_cast he)
    refine ⟨⟨j + 1, by rw [wrap_i64_small (by omega) (by omega)]; omega, by omega, by omega, ?_, M2⟩, by rw [wrap_i64_small (by omega) (by omega)]; omega⟩
    rw [List.take_add_one, List.take_add_one, ht, List.getElem?_drop, List.getElem?_drop, List.getElem?_eq_getElem hjf', List.getElem?_eq_getElem hjg', hab]
  · rw [List.getElem_drop, List.getElem_drop]
    exact fun e => he (by rw [e])
end Go.Proofs.Ytfghidehlnfdiaa
end
section
namespace Go.Proofs.Ytfghidehlnfdiaa
open Go Go.Vcg Go.Trie
structure EsOk (es : List (By × By)) : Prop where
  len : es.length ≤ 2 ^ 20
  paths : ∀ e ∈ es, e.1.length ≤ 128
  vals : ∀ e ∈ es, e.2.length ≤ 1024
theorem enc2 (x y : It) : enc (.l [x, y]) = Trie.head ((enc x).length + (enc y).length) 192 ++ (enc x ++ enc y) := by
  simp [enc, encs]
def ItemB (n : Nd) : Prop := ∀ ⦃w : World⦄ ⦃L : Nat → Nat⦄ ⦃d0 a b i : Nat⦄ ⦃es out : List (By × By)⦄, BS w L d0 es out → EsOk es → Okseg es a b i → Rep (seg es a b i) n → out.length + cnt n ≤ 2 ^ 20 →
  Calls Try.prog moraineref14_build_item.n #[.pointer (some ⟨d0, 0, none⟩), .int .i64 (a : Int), .int .i64 (b : Int), .int .i64 (i : Int)] w (fun e w' => ∃ o k, e = .returned (.slice o (bytesOf n).length k) ∧ ∃ L', Stp (SI i) w L w' L' ∧ BS w' L' d0 es (kidsN n out) ∧ CBy w' L' 5 o (bytesOf n) ∧ (bytesOf n).length ≤ k)
def RefB (n : Nd) : Prop := ∀ ⦃w : World⦄ ⦃L : Nat → Nat⦄ ⦃d0 a b i : Nat⦄ ⦃es out : List (By × By)⦄, BS w L d0 es out → EsOk es → Okseg es a b i → Rep (seg es a b i) n → out.length + cnt n ≤ 2 ^ 20 →
  Calls Try.prog moraineref14_build_ref.n #[.pointer (some ⟨d0, 0, none⟩), .int .i64 (a : Int), .int .i64 (b : Int), .int .i64 (i : Int)] w (fun e w' => ∃ o k, e = .returned (.slice o (enc (refOf n)).length k) ∧ ∃ L', Stp (SI i) w L w' L' ∧ BS w' L' d0 es (visitN n false out) ∧ CBy w' L' 5 o (enc (refOf n)))
theorem SI_notin {i : Nat} : ¬ SI i 5 ∧ ¬ SI i 6 ∧ ¬ SI i 7 := ⟨by rintro (h | h | h) <;> omega, by rintro (h | h | h) <;> omega, by rintro (h | h | h) <;> omega⟩
theorem ref_of {n : Nd} (hI : ItemB n) (hn : n ≠ .nil) (hs : Small n) : RefB n := by
  intro w L d0 a b i es out hB hE hok hR hl
  refine calls_gen fun R hR' => moraineref14_build_ref.vc _ _ _ _ _ _ ?_
  unfold moraineref14_build_ref.Vc
  refine (hI hB hE hok hR hl).mono ?_
  rintro _ w1 ⟨o1, k1, rfl, L1, s1, B1, x1, hk1⟩
  have hbl := bytes_le hs
  rw [visit_kids hn] at hR'
  have hkl := kids_len (n := n) out
  refine ⟨_, _, _, rfl, fun h32 => ?_, fun h32 => ?_⟩
  · have e1 : enc (refOf n) = bytesOf n := by unfold refOf wrapRef; rw [if_neg (by simp only [bytesOf] at h32; omega)]; rfl
    have e2 : putNode (kidsN n out) false (bytesOf n) = kidsN n out := by unfold putNode; rw [decide_eq_true (by omega : (bytesOf n).length < 32)]; simp
    rw [e1, e2] at hR'
    exact hR' _ _ ⟨o1, k1, rfl, L1, s1, B1, x1⟩
  · have e1 : enc (refOf n) = enc (.s (sumOf (bytesOf n))) := by unfold refOf wrapRef; rw [if_pos (by simp only [bytesOf] at h32; omega)]; rfl
    rw [e1] at hR'
    refine (refSum_calls (bytesOf n) rfl (by omega) x1.rd).mono ?_
    rintro _ w2 ⟨rfl, M2⟩
    refine ⟨_, rfl, ?_⟩
    rintro d w3 ⟨rfl, rfl⟩
    have H3 := Blk.new w2 26 (Array.replicate 32 (.int .u8 0))
    obtain ⟨h1, h2, h3⟩ := hash_store H3 (by simp) (sumOf (bytesOf n))
    have M3 := M2.step_alloc (.cells (Array.replicate 32 (.int .u8 0)) 26)
    have M4 := mod_of M3 h3 M2.size
    refine ⟨_, h1, _, h2.rowAll (size_hashA _), ?_⟩
    have hge := M2.size
    have hlt4 := h2.lt
    generalize w2.heap.size = D at *
    generalize ((w2.alloc (.cells (Array.replicate 32 (.int .u8 0)) 26)).setRow D (hashA (sumOf (bytesOf n)))) = w4 at *
    have B4 := B1.mod' M4 5
    have s4 : Stp NoS w1 L1 w4 (ext L1 w1.heap.size 5) := Stp.of_nob M4 5
    have x4 := x1.stp s4 (fun h => h)
    have D4 : CB w4 (ext L1 w1.heap.size 5) 5 D tHash (hashA (sumOf (bytesOf n))) := ⟨h2, ext_new hge⟩
    generalize ext L1 w1.heap.size 5 = L4 at *
    refine (node_calls (k := k1) B4 x4 (length_sumOf _) hk1 (by omega)).mono ?_
    rintro _ w5 ⟨rfl, L5, s5, _, B5⟩
    have D5 := D4.stp s5 (by decide)
    have hrd : RdB w5 (some ⟨D, 0, none⟩) (sumOf (bytesOf n)) := RdB.of_blk D5.blk (fun j hj => by
      rw [length_sumOf] at hj
      simp only [Nat.zero_add, hashA]
      exact get_arrOf_lt hj)
    obtain ⟨o6, k6, w6, hr6, F6⟩ := copy_bytes' (k2 := 32) (ty := tSlU8) (Mod.refl w5) hrd (by rw [length_sumOf]; omega)
    rw [length_sumOf] at hr6
    refine ⟨rfl, _, w6, hr6, _, _, _, rfl, ?_⟩
    have hst := str_calls (k := k6) (fresh_bytes F6) (by rw [length_sumOf]; omega)
    rw [length_sumOf] at hst
    refine hst.mono ?_
    rintro _ w7 ⟨o7, k7, rfl, F7⟩
    have F57 := Fresh.from_ F7 F6.mod
    have B7 := B5.mod' F57.mod 5
    have s7 : Stp NoS w5 L5 w7 (ext L5 w5.heap.size 5) := Stp.of_nob F57.mod 5
    have e2 : putNode (kidsN n out) false (bytesOf n) = if met (kidsN n out) (sumOf (bytesOf n)) then kidsN n out else kidsN n out ++ [(sumOf (bytesOf n), bytesOf n)] := by
      unfold putNode; rw [decide_eq_false (by omega : ¬ (bytesOf n).length < 32)]; simp
    rw [e2] at hR'
    refine ⟨_, _, _, rfl, hR' _ _ ⟨o7, k7, rfl, _, ?_, B7, fresh_cby F57 (Mod.refl _)⟩⟩
    exact ((s1.trans (s4.mono (fun _ h => h.elim))).trans (s5.mono (fun k h => h.elim .inl (fun h => .inr (.inl h))))).trans (s7.mono (fun _ h => h.elim))
theorem BS.path {w : World} {L : Nat → Nat} {d0 : Nat} {es out : List (By × By)} (h : BS w L d0 es out) {j : Nat} (hj : j < es.length) {i : Nat} (hi : i ≤ es[j].1.length) :
    ∃ op cp b f o k, World.cell? w ⟨d0, 1, none⟩ = some (.slice op es.length cp) ∧ op = some ⟨b, f, none⟩ ∧ w.cell? ⟨b, f + j, none⟩ = some (.slice o es[j].1.length k) ∧ es[j].1.length ≤ k ∧ CBy w L 5 o es[j].1 ∧ CBy w L 5 (subO o k i 1) (es[j].1.drop i) := by
  obtain ⟨ol, cl, op, cp, on, nn, kn, c1, c2, c3, c4⟩ := h.ex
  obtain ⟨b, f, o, k, e1, e2, e3, e4, e5, e6⟩ := c3 j hj
  have := e6.sub (lo := i) (n := es[j].1.length - i) e5
  rw [List.take_of_length_le (by rw [List.length_drop]; omega)] at this
  exact ⟨op, cp, b, f, o, k, c1.blk.rd1 rfl, e1, e4, e5, e6, this⟩
theorem BS.val {w : World} {L : Nat → Nat} {d0 : Nat} {es out : List (By × By)} (h : BS w L d0 es out) {j : Nat} (hj : j < es.length) :
    ∃ ol cl b f ov kv, World.cell? w ⟨d0, 0, none⟩ = some (.slice ol es.length cl) ∧ ol = some ⟨b, f, none⟩ ∧ w.cell? ⟨b, f + (j * 2 + 1), none⟩ = some (.slice ov es[j].2.length kv) ∧ CBy w L 6 ov es[j].2 := by
  obtain ⟨ol, cl, op, cp, on, nn, kn, c1, c2, c3, c4⟩ := h.ex
  obtain ⟨b, f, ov, kv, e1, e2, e3, e4, e5⟩ := c2 j hj
  exact ⟨ol, cl, b, f, ov, kv, c1.blk.rd1 rfl, e1, e4, e5⟩
theorem item_leafB (p v : By) : ItemB (.leaf p v) := by
  intro w L d0 a b i es out hB hE hok hR hl
  refine calls_gen fun R hR' => moraineref14_build_item.vc _ _ _ _ _ _ ?_
  unfold moraineref14_build_item.Vc
  have hseg := hR.leaf
  have hb : b = a + 1 := by
    have := congrArg List.length hseg
    rw [seg_len hok.le] at this
    have := hok.lt
    simp at *; omega
  subst hb
  have ha : a < es.length := by have := hok.le; omega
  have hla := hE.len
  have e0 := seg_head hok
  rw [hseg] at e0
  simp only [List.head?_cons, Option.some.injEq, Prod.mk.injEq] at e0
  obtain ⟨rfl, rfl⟩ := e0
  have hi := hok.len a ha (Nat.le_refl _) (by omega)
  have hpl := hE.paths _ (List.getElem_mem ha)
  have hvl := hE.vals _ (List.getElem_mem ha)
  have hd : (es[a].1.drop i).length = es[a].1.length - i := List.length_drop
  have hpk := packed_le (es[a].1.drop i) true (by omega)
  refine ⟨fun _ => ?_, fun h => absurd (by rw [wrap_i64_small (by omega) (by omega)]; omega) h⟩
  obtain ⟨op, cp, pb, pf, o, k, h1, rfl, h2, h3, h4, h5⟩ := hB.path ha hi
  simp only [add_at, Nat.zero_add, Int.toNat_natCast]
  refine ⟨_, _, _, h1, _, rfl, ⟨by omega, by omega⟩, _, _, _, by rw [add_at]; exact h2, ⟨by omega, by omega⟩, ?_⟩
  have hp := rPack_calls (k := k - i) h5.rd (by omega) true
  rw [hd] at hp
  refine hp.mono ?_
  rintro _ w1 ⟨o1, k1, rfl, F1⟩
  refine ⟨_, _, _, _, rfl, ?_⟩
  rintro _ rfl
  have MD := Mod.drew (S := NoB) w1
  have B2 := hB.mod' (F1.mod.trans MD (fun _ _ h => h)) 5
  obtain ⟨ol, cl, vb, vf, ov, kv, g1, rfl, g2, g3⟩ := B2.val ha
  refine ⟨_, _, _, g1, _, rfl, ⟨by omega, by omega⟩, _, _, _, by rw [add_at, add_at, Nat.add_assoc]; exact g2, ?_⟩
  refine (str_calls (b := packed (es[a].1.drop i) true) ((fresh_bytes F1).mod' MD) (by omega)).mono ?_
  rintro _ w3 ⟨o3, k3, rfl, F3⟩
  have B3 := B2.mod' F3.mod 5
  obtain ⟨ol, cl, vb', vf', ov', kv', g1', hol, g2', g3'⟩ := B3.val ha
  rw [cell_mod F3.mod (b := d0) (by obtain ⟨_, _, _, _, _, _, _, c1, _⟩ := B2.ex; exact c1.blk.lt) (fun h => h), g1] at g1'
  cases g1'
  cases hol
  have hvb : vb < w1.drew.heap.size := by obtain ⟨ol, cl, op, cp, on, nn, kn, c1, c2, _⟩ := B2.ex; obtain ⟨b', f', ov'', kv'', q1, q2, _⟩ := c2 a ha; have := c1.blk.rd1 (i := 0) rfl; rw [g1] at this; cases this; cases q1; exact q2
  rw [cell_mod F3.mod hvb (fun h => h), g2] at g2'
  cases g2'
  refine ⟨_, _, _, rfl, by rw [add_at, add_at, Nat.add_assoc]; exact (cell_mod F3.mod hvb (fun h => h)).trans g2, (cell_mod F3.mod (by obtain ⟨_, _, _, _, _, _, _, c1, _⟩ := B2.ex; exact c1.blk.lt) (fun h => h)).trans g1, ?_⟩
  refine (str_calls (k := kv) g3'.rd (by omega)).mono ?_
  rintro _ w4 ⟨o4, k4, rfl, F4⟩
  have q1 := enc_s_le (packed (es[a].1.drop i) true)
  have q2 := enc_s_le es[a].2
  obtain ⟨o5, k5, w5, hr5, F5⟩ := push_bytes (ty := tSlU8) (k2 := k4) (F3.mod' F4.mod) (fresh_bytes F4) (by omega)
  refine ⟨_, _, _, rfl, _, w5, hr5, _, _, _, rfl, ?_⟩
  have hL := rList_calls (k := k5) (fresh_bytes F5) (by rw [List.length_append]; omega)
  rw [List.length_append] at hL
  refine hL.mono ?_
  rintro _ w6 ⟨o6, k6, rfl, F6⟩
  have e6 : Trie.head ((enc (.s (packed (es[a].1.drop i) true))).length + (enc (.s es[a].2)).length) 192 ++ (enc (.s (packed (es[a].1.drop i) true)) ++ enc (.s es[a].2)) = bytesOf (.leaf (es[a].1.drop i) es[a].2) := by
    simp only [bytesOf, itemOf]
    rw [enc2]
  rw [e6] at F6 ⊢
  have M06 := ((F1.mod.trans MD (fun _ _ h => h)).trans F5.mod (fun _ _ h => h)).trans F6.mod (fun _ _ h => h)
  have F06 := Fresh.from_ F6 ((F1.mod.trans MD (fun _ _ h => h)).trans F5.mod (fun _ _ h => h))
  exact ⟨_, _, _, rfl, hR' _ _ ⟨o6, k6, rfl, _, (Stp.of_nob M06 5).mono (S := NoS) (fun _ h => h.elim), hB.mod' M06 5, fresh_cby F06 (Mod.refl _), F06.own.cap.1⟩⟩
end Go.Proofs.Ytfghidehlnfdiaa
end
