/- slices.Sorted(maps.Keys(m)) at this program: the shelf's contracts, laid. -/
/- The program's disk in memory: the names in order. -/
/- Rows that a call makes anew: copied, appended to, and handed on; rows of cells that are only read. -/
/- The reference's disk: rows of names; what is a name. -/
/- The reference's disk in memory; what each changing call does first; what is asked. -/
/- The reference's disk: bytes laid, copied; what a file's name asks for; how much is used. -/
/- The reference's disk: a change of names. -/
/- The reference's disk: a file that changes. -/
import Derived.Shelf.SlIter.Nil
import Derived.Shelf.SortM.Plain
import Derived.Shelf.SortM.SortNone
import Derived.Test.YtkekehngillblaaGreatProg
import Derived.KernelRfl
import Derived.Test.YtkekehngillblaaGreatDL1
import Derived.Test.YtkekehngillblaaGreatDP1
import Derived.Test.YtkekehngillblaaGreatXExec
import Derived.Test.YtkekehngillblaaGreatRV
import Derived.Test.YtkekehngillblaaGreatDP8
section
namespace Go.Proofs.YtkekehngillblaaGreat
open Go Go.Proofs Go.RowKit Go.Maps Go.Sort Go.Shelf
def Tryz.keys64_ren : Go.Shelf.Ren := ⟨fun | 7 => 64 | 10 => 73 | n => n, fun | 23 => 47 | 26 => 9 | 3 => 80 | 28 => 120 | 0 => 0 | 27 => 119 | 33 => 105 | 4 => 4 | n => n, fun | n => n⟩
theorem Tryz.keys64 : Go.Proofs.SlLaysZ.n7 Tryz.prog Tryz.keys64_ren where
  mixed := by kernel_rfl
  f7 := ⟨ "maps.Keys[moraine/disk.naming,string,*moraine/disk.file]", by decide, Tryz.func64.trans (congrArg some (by kernel_rfl))⟩
  f10 := ⟨ "maps.Keys[moraine/disk.naming,string,*moraine/disk.file]$1", by decide, Tryz.func73.trans (congrArg some (by kernel_rfl))⟩
  t0 := Tryz.underlying0
  a0 := Tryz.isAgg0
  z0 := Tryz.sizeOf0
  v0 := Tryz.zeroValue0
  t4 := Tryz.underlying4
  a4 := Tryz.isAgg4
  z4 := Tryz.sizeOf4
  v4 := Tryz.zeroValue4
  t23 := Tryz.underlying47
  a23 := Tryz.isAgg47
  z23 := Tryz.sizeOf47
  v23 := Tryz.zeroValue47
  t26 := Tryz.underlying9
  a26 := Tryz.isAgg9
  z26 := Tryz.sizeOf9
  v26 := Tryz.zeroValue9
  t27 := Tryz.underlying119
  a27 := Tryz.isAgg119
  z27 := Tryz.sizeOf119
  v27 := Tryz.zeroValue119
  t28 := Tryz.underlying120
  a28 := Tryz.isAgg120
  z28 := Tryz.sizeOf120
  v28 := Tryz.zeroValue120
  t33 := Tryz.underlying105
  a33 := Tryz.isAgg105
  z33 := Tryz.sizeOf105
  v33 := Tryz.zeroValue105
def Tryz.sorted63_ren : Go.Shelf.Ren := ⟨fun | 6 => 63 | 8 => 71 | 9 => 72 | 11 => 78 | 13 => 80 | 12 => 79 | 23 => 92 | 24 => 93 | 14 => 83 | 15 => 84 | 16 => 85 | 17 => 86 | 18 => 87 | 19 => 88 | 20 => 89 | 21 => 90 | 22 => 91 | 25 => 94 | 26 => 95 | 27 => 96 | 28 => 97 | 29 => 98 | 30 => 99 | 31 => 100 | n => n, fun | 26 => 9 | 28 => 120 | 24 => 70 | 0 => 0 | 3 => 3 | 37 => 137 | 48 => 150 | 50 => 152 | 4 => 4 | 40 => 142 | 39 => 141 | 45 => 147 | 5 => 5 | 9 => 9 | 51 => 153 | 55 => 157 | 57 => 159 | 58 => 160 | 33 => 105 | n => n, fun | n => n⟩
theorem Tryz.sorted63 : Go.Proofs.SlLaysZ.n6 Tryz.prog Tryz.sorted63_ren where
  mixed := by kernel_rfl
  f6 := ⟨ "slices.Sorted[string]", by decide, Tryz.func63.trans (congrArg some (by kernel_rfl))⟩
  f8 := ⟨ "slices.Collect[string]", by decide, Tryz.func71.trans (congrArg some (by kernel_rfl))⟩
  f11 := ⟨ "slices.AppendSeq[[]string,string]", by decide, Tryz.func78.trans (congrArg some (by kernel_rfl))⟩
  t0 := Tryz.underlying0
  a0 := Tryz.isAgg0
  z0 := Tryz.sizeOf0
  v0 := Tryz.zeroValue0
  t24 := Tryz.underlying70
  a24 := Tryz.isAgg70
  z24 := Tryz.sizeOf70
  v24 := Tryz.zeroValue70
  t26 := Tryz.underlying9
  a26 := Tryz.isAgg9
  z26 := Tryz.sizeOf9
  v26 := Tryz.zeroValue9
  t28 := Tryz.underlying120
  a28 := Tryz.isAgg120
  z28 := Tryz.sizeOf120
  v28 := Tryz.zeroValue120
  i26 := by kernel_rfl
def Tryz.sort72_ren : Go.Shelf.Ren := ⟨fun | 6 => 72 | 8 => 80 | 9 => 79 | 19 => 92 | 20 => 93 | 21 => 83 | 22 => 84 | 23 => 85 | 24 => 86 | 25 => 87 | 26 => 88 | 27 => 89 | 28 => 90 | 29 => 91 | 36 => 94 | 31 => 95 | 32 => 96 | 37 => 97 | 38 => 98 | 39 => 99 | 41 => 100 | n => n, fun | 27 => 70 | 29 => 9 | 3 => 3 | 32 => 137 | 26 => 70 | 0 => 0 | 44 => 150 | 46 => 152 | 4 => 4 | 36 => 142 | 35 => 141 | 41 => 147 | 5 => 5 | 9 => 9 | 53 => 153 | 57 => 157 | 63 => 159 | 64 => 160 | n => n, fun | n => n⟩
theorem Tryz.sort72 : Go.Proofs.SlLaysM.n6 Tryz.prog Tryz.sort72_ren where
  mixed := by kernel_rfl
  f6 := ⟨ "slices.Sort[[]string,string]", by decide, Tryz.func72.trans (congrArg some (by kernel_rfl))⟩
  f8 := Tryz.func80.trans (congrArg some (by kernel_rfl))
  f9 := ⟨ "slices.pdqsortOrdered[string]", by decide, Tryz.func79.trans (congrArg some (by kernel_rfl))⟩
  f19 := Tryz.func92.trans (congrArg some (by kernel_rfl))
  f20 := Tryz.func93.trans (congrArg some (by kernel_rfl))
  f21 := ⟨ "slices.insertionSortOrdered[string]", by decide, Tryz.func83.trans (congrArg some (by kernel_rfl))⟩
  f22 := ⟨ "slices.heapSortOrdered[string]", by decide, Tryz.func84.trans (congrArg some (by kernel_rfl))⟩
  f23 := ⟨ "slices.breakPatternsOrdered[string]", by decide, Tryz.func85.trans (congrArg some (by kernel_rfl))⟩
  f24 := ⟨ "slices.choosePivotOrdered[string]", by decide, Tryz.func86.trans (congrArg some (by kernel_rfl))⟩
  f25 := ⟨ "slices.reverseRangeOrdered[string]", by decide, Tryz.func87.trans (congrArg some (by kernel_rfl))⟩
  f26 := ⟨ "slices.partialInsertionSortOrdered[string]", by decide, Tryz.func88.trans (congrArg some (by kernel_rfl))⟩
  f27 := ⟨ "cmp.Less[string]", by decide, Tryz.func89.trans (congrArg some (by kernel_rfl))⟩
  f28 := ⟨ "slices.partitionEqualOrdered[string]", by decide, Tryz.func90.trans (congrArg some (by kernel_rfl))⟩
  f29 := ⟨ "slices.partitionOrdered[string]", by decide, Tryz.func91.trans (congrArg some (by kernel_rfl))⟩
  f31 := Tryz.func95.trans (congrArg some (by kernel_rfl))
  f32 := Tryz.func96.trans (congrArg some (by kernel_rfl))
  f36 := ⟨ "slices.siftDownOrdered[string]", by decide, Tryz.func94.trans (congrArg some (by kernel_rfl))⟩
  f37 := ⟨ "slices.medianAdjacentOrdered[string]", by decide, Tryz.func97.trans (congrArg some (by kernel_rfl))⟩
  f38 := ⟨ "slices.medianOrdered[string]", by decide, Tryz.func98.trans (congrArg some (by kernel_rfl))⟩
  f39 := ⟨ "cmp.isNaN[string]", by decide, Tryz.func99.trans (congrArg some (by kernel_rfl))⟩
  f41 := ⟨ "slices.order2Ordered[string]", by decide, Tryz.func100.trans (congrArg some (by kernel_rfl))⟩
  t0 := Tryz.underlying0
  a0 := Tryz.isAgg0
  z0 := Tryz.sizeOf0
  v0 := Tryz.zeroValue0
  t3 := Tryz.underlying3
  a3 := Tryz.isAgg3
  z3 := Tryz.sizeOf3
  v3 := Tryz.zeroValue3
  t4 := Tryz.underlying4
  a4 := Tryz.isAgg4
  z4 := Tryz.sizeOf4
  v4 := Tryz.zeroValue4
  t5 := Tryz.underlying5
  a5 := Tryz.isAgg5
  z5 := Tryz.sizeOf5
  v5 := Tryz.zeroValue5
  t9 := Tryz.underlying9
  a9 := Tryz.isAgg9
  z9 := Tryz.sizeOf9
  v9 := Tryz.zeroValue9
  t26 := Tryz.underlying70
  a26 := Tryz.isAgg70
  z26 := Tryz.sizeOf70
  v26 := Tryz.zeroValue70
  t27 := Tryz.underlying70
  a27 := Tryz.isAgg70
  z27 := Tryz.sizeOf70
  v27 := Tryz.zeroValue70
  t29 := Tryz.underlying9
  a29 := Tryz.isAgg9
  z29 := Tryz.sizeOf9
  v29 := Tryz.zeroValue9
  t32 := Tryz.underlying137
  a32 := Tryz.isAgg137
  z32 := Tryz.sizeOf137
  v32 := Tryz.zeroValue137
  t35 := Tryz.underlying141
  a35 := Tryz.isAgg141
  z35 := Tryz.sizeOf141
  v35 := Tryz.zeroValue141
  t36 := Tryz.underlying142
  a36 := Tryz.isAgg142
  z36 := Tryz.sizeOf142
  v36 := Tryz.zeroValue142
  t41 := Tryz.underlying147
  a41 := Tryz.isAgg147
  z41 := Tryz.sizeOf147
  v41 := Tryz.zeroValue147
  t44 := Tryz.underlying150
  a44 := Tryz.isAgg150
  z44 := Tryz.sizeOf150
  v44 := Tryz.zeroValue150
  t46 := Tryz.underlying152
  a46 := Tryz.isAgg152
  z46 := Tryz.sizeOf152
  v46 := Tryz.zeroValue152
  t53 := Tryz.underlying153
  a53 := Tryz.isAgg153
  z53 := Tryz.sizeOf153
  v53 := Tryz.zeroValue153
  t57 := Tryz.underlying157
  a57 := Tryz.isAgg157
  z57 := Tryz.sizeOf157
  v57 := Tryz.zeroValue157
  t63 := Tryz.underlying159
  a63 := Tryz.isAgg159
  z63 := Tryz.sizeOf159
  v63 := Tryz.zeroValue159
  t64 := Tryz.underlying160
  a64 := Tryz.isAgg160
  z64 := Tryz.sizeOf160
  v64 := Tryz.zeroValue160

theorem Tryz.sorts63 (m : Nat) : AnyZ.SortsIn Tryz.prog Tryz.sorted63_ren Fence.wide m :=
  ⟨fun blk off cap ss W hH hblk hsz => callsIn_wide.2 (AnyM.slices_Sort_string Tryz.sort72 blk off cap ss W hH hblk hsz),
   fun p cap W => callsIn_wide.2 (AnyM.slices_Sort_string_none Tryz.sort72 p cap W)⟩

theorem maps_Keys_calls (mb : Option Nat) (W : World) : Calls Tryz.prog 64 #[.map mb] W fun e w' => e = .returned (.func (.func 73) #[] #[.pointer (some ⟨W.heap.size, 0, none⟩)]) ∧ w' = W.alloc (.cells #[.map mb] 47) :=
  (callsIn_wide (n := 5)).1 (AnyZ.keys_in Tryz.keys64 Fence.wide 5 trivial rfl mb W)

set_option maxHeartbeats 1000000 in
/-- `slices.Sorted(maps.Keys(m))`: the names in order. -/
theorem slices_Sorted_keys_calls {H : Type} (b nn : Nat) (D0 : DataW H) (R : Value → Option (DataW H × List MemPlace)) (w : World) (hown : w.ownsMap Tryz.prog 9 R b nn D0) (hmax : Maps.size D0 ≤ maxLen) (hbytes : Maps.size D0 * 16 ≤ 140737488355328) :
    Calls Tryz.prog 63 #[.func (.func 73) #[] #[.pointer (some ⟨w.heap.size, 0, none⟩)]] (w.alloc (.cells #[.map (some b)] 47)) fun e w' => ∃ (v : Value) (ss : List (List UInt8)), e = .returned v ∧ ss.Perm (strKeys D0) ∧
      w'.ownsRow (w.alloc (.cells #[.map (some b)] 47)).heap.size 9 1 v ss.length ((ss.mergeSort (fun x y => decide (x ≤ y))).map encStr) ∧ (v = .slice none 0 0 ↔ ss = []) ∧ Below (w.alloc (.cells #[.map (some b)] 47)).heap.size (w.alloc (.cells #[.map (some b)] 47)) w' := by
  have hbl := hown.lt
  have hseq : SeqGives Fence.wide 2 Tryz.prog 73 #[.pointer (some ⟨w.heap.size, 0, none⟩)] encStr (fun ss => ss.Perm (strKeys D0)) (Maps.size D0) (w.alloc (.cells #[.map (some b)] 47)) :=
    AnyZ.keys_gives (ρ := Tryz.keys64_ren) { Tryz.keys64 with } Fence.wide _ trivial rfl (by omega) w.heap.size b nn D0 _ (by simp) (by simp) (by
      obtain ⟨es, clock, hb, Ft, hs, hD⟩ := hown
      exact ⟨es, clock, (Below.heap_alloc _ _ b hbl).trans hb, Ft, hs, hD⟩)
  exact (callsIn_wide (n := 5)).1 (AnyZ.sorted_in Tryz.sorted63 Fence.wide 5 trivial trivial trivial trivial rfl (by omega) (Tryz.sorts63 _) (enters_of Tryz.func72 (by kernel_rfl) rfl) 73 #[.pointer (some ⟨w.heap.size, 0, none⟩)] trivial (enters_of Tryz.func73 (by kernel_rfl) rfl) _ _ hmax hbytes _ hseq)
end Go.Proofs.YtkekehngillblaaGreat
end

section
set_option linter.unusedVariables false
set_option linter.unusedSimpArgs false
namespace Go.Disk
open Go.Vcg
/-- Names in order. -/
def inOrder (l : List (List UInt8)) : List (List UInt8) := l.mergeSort (fun x y => decide (x ≤ y))
def namesOf (d : Dk) : List (List UInt8) := inOrder (d.names.map fun x => x.1.data.toList)
theorem leB_trans (a b c : List UInt8) (h1 : decide (a ≤ b) = true) (h2 : decide (b ≤ c) = true) : decide (a ≤ c) = true := by
  simp only [decide_eq_true_eq] at *
  exact List.le_trans h1 h2
theorem leB_total (a b : List UInt8) : (decide (a ≤ b) || decide (b ≤ a)) = true := by
  simp only [Bool.or_eq_true, decide_eq_true_eq]
  exact List.le_total a b
theorem inOrder_perm {l l' : List (List UInt8)} (h : l.Perm l') : inOrder l = inOrder l' := by
  refine List.Perm.eq_of_pairwise (le := fun x y => decide (x ≤ y) = true) ?_ (List.pairwise_mergeSort leB_trans leB_total l) (List.pairwise_mergeSort leB_trans leB_total l') ?_
  · intro a b _ _ h1 h2
    simp only [decide_eq_true_eq] at h1 h2
    exact List.le_antisymm h1 h2
  · exact ((List.mergeSort_perm _ _).trans h).trans (List.mergeSort_perm _ _).symm
end Go.Disk
namespace Go.Proofs.YtkekehngillblaaGreat
open Go Go.Vcg Go.Disk Go.Maps
open Go.WideElems (Fit rd rg rd_mk rg_of)

section
variable {C : Type} {w w' : World} {lab lab' : Nat → C} {γ : DC → C} {d : Nat} {σ : Dk} {c : C}
/-- A map of names, to the shelf's eyes. -/
theorem names_own {m : Nat} {es : List (Nm × Value)} (h : CM NmGood Value.string w lab c m es) (hl : es.length ≤ maxLen) :
    ∃ D : DataW Unit, w.ownsMap Tryz.prog tStr (fun _ => some (.lit (.bool true), [])) m es.length D ∧ (strKeys D).Perm (es.map fun x => x.1.data.toList) ∧ Maps.size D = es.length := by
  obtain ⟨A, clock, h1, h2, h3, h4⟩ := h.map
  have hA : A.size = es.length := by
    have := congrArg List.length h3
    simpa using this
  have hr : ∀ x ∈ A.toList, ∃ s : Nm, x.key = .string s ∧ rd (H := Unit) Tryz.prog tStr (fun _ => some (.lit (.bool true), [])) x = some (.string s.data.toList, .lit (.bool true)) := by
    intro x hx
    have hm : cellE x ∈ es.map (dec Value.string) := by rw [← h3]; exact List.mem_map_of_mem hx
    obtain ⟨y, hy, he⟩ := List.mem_map.1 hm
    have hk : x.key = .string y.1 := (congrArg Prod.fst he).symm
    refine ⟨y.1, hk, ?_⟩
    obtain ⟨k, v, b⟩ := x
    simp only at hk
    subst hk
    exact rd_mk (yv := (.lit (.bool true), [])) (Go.WideMaps.keyOf_string_mk und_str (h4 y hy)) rfl
  refine ⟨_, ⟨A, clock, h1, ⟨by rw [hA]; exact hl, h2, fun x hx => let ⟨_, _, e⟩ := hr x hx; ⟨_, e⟩⟩, Nat.le_of_eq hA, rfl⟩, ?_, ?_⟩
  · have p := (Go.WideShapes.sorted_perm (A.toList.map (rg (H := Unit) Tryz.prog tStr (fun _ => some (.lit (.bool true), [])))))
    refine (p.map fun q => strOf q.1).trans (List.Perm.of_eq ?_)
    have e : (A.toList.map cellE).map (fun q => strOf ((keyOf Tryz.prog tStr q.1).getD (.bool false))) = (es.map (dec Value.string)).map (fun q => strOf ((keyOf Tryz.prog tStr q.1).getD (.bool false))) := by rw [h3]
    rw [List.map_map, List.map_map] at e
    rw [List.map_map]
    rw [show es.map (fun x => x.1.data.toList) = es.map ((fun q : Value × Value => strOf ((keyOf Tryz.prog tStr q.1).getD (.bool false))) ∘ dec Value.string) from ?_, ← e]
    · refine List.map_congr_left fun x hx => ?_
      obtain ⟨s, hk, hs⟩ := hr x hx
      simp only [Function.comp, rg_of hs, cellE, Go.WideElems.rd_key hs, Option.getD_some]
    · refine List.map_congr_left fun x hx => ?_
      simp only [Function.comp, dec, Go.WideMaps.keyOf_string_mk und_str (h4 x hx), Option.getD_some, strOf]
  · show List.length _ = _
    rw [(Go.WideShapes.sorted_perm _).length_eq, List.length_map, Array.length_toList, hA]

/-- A row of strings that can be read. -/
def RdT (w : World) (o : Option Addr) (ls : List (List UInt8)) : Prop :=
  ∀ i, i < ls.length → ∃ b f, o = some ⟨b, f, none⟩ ∧ b < w.heap.size ∧ w.cell? ⟨b, f + i, none⟩ = some (.string ⟨(ls.getD i []).toArray⟩)
theorem RdT.mod {o : Option Addr} {ls : List (List UInt8)} (h : RdT w o ls) (m : Vcg.Mod NoB w w') : RdT w' o ls := by
  intro i hi
  obtain ⟨b, f, e, hl, hc⟩ := h i hi
  exact ⟨b, f, e, Nat.lt_of_lt_of_le hl m.size, (cell_mod m hl (fun h => h)).trans hc⟩
theorem RdT.of_row {base : Nat} {v : Value} {n : Nat} {ls : List (List UInt8)} (h : w.ownsRow base tStr 1 v n (ls.map Go.Proofs.encStr)) : ∃ o c, v = .slice o ls.length c ∧ n = ls.length ∧ RdT w o ls := by
  obtain ⟨h1, h2⟩ := h
  have hn : ls.length = n := by simpa using h1
  subst hn
  rcases h2 with ⟨rfl, h0⟩ | ⟨g, cap, cur, rfl, hb, hblk, hc, hm, hs, ht⟩
  · exact ⟨none, 0, by rw [h0], rfl, fun i hi => by omega⟩
  · refine ⟨_, _, rfl, rfl, fun i hi => ⟨g, 0, rfl, (Array.getElem?_eq_some_iff.1 hblk).1, ?_⟩⟩
    rw [Blk.cell (t := tStr) (cs := cur) hblk, Nat.zero_add]
    have : (ls.map Go.Proofs.encStr)[i]? = some (.string ⟨(ls.getD i []).toArray⟩) := by
      rw [List.getElem?_map, List.getElem?_eq_getElem hi]
      simp [Go.Proofs.encStr, List.getD_eq_getElem?_getD, hi]
    rw [← ht, List.getElem?_take, if_pos (by omega)] at this
    simpa using this

theorem nodup_le : ∀ (n : Nat) (l : List Nat), l.Nodup → (∀ x ∈ l, x < n) → l.length ≤ n
  | 0, l, _, h => by cases l with | nil => simp | cons a r => exact absurd (h a (by simp)) (by omega)
  | n + 1, l, hn, h => by
    have h1 := nodup_le n (l.erase n) (hn.erase n) (fun x hx => by
      have h2 := h x (List.mem_of_mem_erase hx)
      have h3 : x ≠ n := ((hn.mem_erase_iff).1 hx).1
      omega)
    have h2 := List.length_erase (a := n) (l := l)
    split at h2 <;> omega
theorem names_len {files : Nat} {l : List (Nm × Nat)} (h : NamesOk files l) (hf : files ≤ 1048576) : l.length ≤ 1048576 := by
  have h1 := nodup_le files (l.map Prod.snd) h.vals (fun x hx => by obtain ⟨y, hy, rfl⟩ := List.mem_map.1 hx; exact h.files y hy)
  simp at h1
  omega

theorem Names_calls (h : DAt w lab γ d σ) (hk : Ok σ) :
    Calls Tryz.prog disk_Disk_Names.n #[.pointer (some ⟨d, 0, none⟩)] w (fun e w' => ∃ o k, Vcg.Mod NoB w w' ∧
      (if σ.down then e = .returned (.tuple #[.slice none 0 0, .int .i64 17]) else e = .returned (.tuple #[.slice o (namesOf σ).length k, .int .i64 0]) ∧ RdT w' o (namesOf σ))) := by
  obtain ⟨mN, mS, po, pl, pc, fb, B, Rt⟩ := h
  refine calls_gen fun R hR => disk_Disk_Names.vc _ _ _ ?_
  unfold disk_Disk_Names.Vc
  simp only [add_at, Nat.zero_add]
  refine ⟨_, B.blk.rd1 rfl, fun hd => hR _ _ ⟨none, 0, Mod.refl _, by rw [if_pos hd]⟩, fun hd => ⟨_, B.blk.rd1 rfl, ?_⟩⟩
  obtain ⟨es, hm, hp⟩ := Rt.names
  have hl : es.length ≤ 1048576 := by rw [hp.length_eq, List.length_map]; exact names_len hk.names hk.files
  obtain ⟨D, hD, hperm, hsz⟩ := names_own hm (by simp only [maxLen]; omega)
  refine (maps_Keys_calls _ _).mono ?_
  rintro _ w1 ⟨rfl, rfl⟩
  refine ⟨_, rfl, ?_⟩
  refine (slices_Sorted_keys_calls _ _ D _ w hD (by rw [hsz]; simp only [maxLen]; omega) (by rw [hsz]; omega)).mono ?_
  rintro _ w2 ⟨v, ss, rfl, hss, hrow, _, hb⟩
  have hss' : ss.mergeSort (fun x y => decide (x ≤ y)) = namesOf σ := by
    refine inOrder_perm (hss.trans (hperm.trans ?_))
    have := hp.map (fun x : Nm × Value => x.1.data.toList)
    rwa [List.map_map] at this
  rw [hss'] at hrow
  obtain ⟨o, c, rfl, hn, hr⟩ := RdT.of_row hrow
  refine ⟨_, _, _, rfl, hR _ _ ⟨o, c, ?_, by rw [if_neg (by rw [hd]; simp)]; exact ⟨rfl, hr⟩⟩⟩
  have M1 := Mod.alloc (S := NoB) w (.cells #[.map (some mN)] 47)
  have M2 : Vcg.Mod NoB (w.alloc (.cells #[.map (some mN)] 47)) w2 := ⟨hb.os, hb.tape, hb.output, hb.size, fun k hk _ => hb.block k hk⟩
  exact M1.trans M2 (fun _ _ h => h)
end
end Go.Proofs.YtkekehngillblaaGreat
end

section
set_option linter.unusedVariables false
namespace Go.Vcg

/-- A row made since w0, the rest as it was. -/
structure Fresh (w0 w : World) (e : TypeId) (sz : Nat) (o : Option Addr) (l c : Nat) (xs : List Value) : Prop where
  own : Own w e sz o l c xs
  mod : Mod NoB w0 w
  new : ∀ k, OB o k → w0.heap.size ≤ k
variable {P : Program} {w0 w w' : World} {e t tx ty : TypeId} {sz l c n : Nat} {o : Option Addr} {xs news : List Value} {x : Value} {i : TypeInfo} {z : Value}
theorem Fresh.nil (M : Mod NoB w0 w) (e : TypeId) (sz : Nat) : Fresh w0 w e sz none 0 0 [] := ⟨Own.nil w e sz, M, fun k h => (OB_none k h).elim⟩
theorem Fresh.mod' (h : Fresh w0 w e sz o l c xs) (M : Mod NoB w w') : Fresh w0 w' e sz o l c xs := ⟨h.own.mod' M, h.mod.trans M (fun _ _ h => h), h.new⟩
theorem Fresh.push (h : Fresh w0 w e sz o l c xs) (ht : P.underlying t = some (.slice e)) (hi : P.info? e = some i) (hz : i.zero = some z) (hs : i.size = sz) (hzs : z.cells.size = sz)
    (src : Src P sz tx x n news w) (h63 : l + n ≤ maxLen) (hb : (l + n) * i.bytes ≤ 140737488355328) :
    ∃ o' c' w', Sem.run P (builtinV .append #[t, tx] ty #[.slice o l c, x]) w = .ok (.slice o' (l + n) c') w' ∧ Fresh w0 w' e sz o' (l + n) c' (xs ++ news) := by
  obtain ⟨o', c', w', h1, h2, h3, h4⟩ := append_own (ty := ty) ht hi hz hs hzs h.own src h63 hb
  refine ⟨o', c', w', h1, h2, h.mod.trans h3 (fun k hk hob => absurd (h.new k hob) (by omega)), fun k hk => ?_⟩
  rcases h4 k hk with h5 | h5
  · exact h.new k h5
  · exact Nat.le_trans h.mod.size h5
theorem Fresh.set (h : Fresh w0 w e sz o l c xs) {j : Nat} (hj : j < l * sz) {v : Value} (hv : v.oneCell' = true) :
    ∃ g, o = some ⟨g, 0, none⟩ ∧ CanSet w ⟨g, j, none⟩ v ∧ Fresh w0 (w.setCell ⟨g, j, none⟩ v) e sz o l c (xs.set j v) := by
  rcases h.own.2 with ⟨_, rfl, _⟩ | ⟨g, cur, rfl, hb, hlc, hcm, hcs, ht⟩
  · simp at hj
  · have hle : l * sz ≤ c * sz := Nat.mul_le_mul_right _ hlc
    refine ⟨g, rfl, hb.canSet (by rw [hcs]; omega) hv, ⟨by rw [List.length_set]; exact h.own.1, .inr ⟨g, _, rfl, hb.set j v, hlc, hcm, by simpa using hcs, ?_⟩⟩, ?_, h.new⟩
    · rw [Array.toList_setIfInBounds, List.take_set, ht]
    · exact h.mod.step_set (fun hk => absurd (h.new g ⟨_, rfl, rfl⟩) (by show ¬ _ ≤ _; have : g < w0.heap.size := hk; omega))
section
variable {C : Type} {lab : Nat → C}
theorem Fresh.done (h : Fresh w0 w e sz o l c xs) (cl : C) : COw w (ext lab w0.heap.size cl) cl e sz o l c xs ∧ Stp (fun _ => False) w0 lab w (ext lab w0.heap.size cl) :=
  ⟨⟨h.own, fun k hk => ext_new (h.new k hk)⟩, Stp.of_nob h.mod cl⟩

/-- A row of cells that can be read. -/
def CRow (w : World) (lab : Nat → C) (c : C) (o : Option Addr) (xs : List Value) : Prop :=
  ∀ (j : Nat) (v : Value), xs[j]? = some v → ∃ b f, o = some ⟨b, f, none⟩ ∧ b < w.heap.size ∧ lab b = c ∧ w.cell? ⟨b, f + j, none⟩ = some v
variable {cl : C} {S : C → Prop} {lab' : Nat → C}
theorem CRow.nil (w : World) (lab : Nat → C) (cl : C) (o : Option Addr) : CRow w lab cl o [] := fun j v h => by simp at h
theorem CRow.stp (h : CRow w lab cl o xs) (s : Stp S w lab w' lab') (hs : ¬ S cl) : CRow w' lab' cl o xs := fun j v hv => by
  obtain ⟨b, f, ho, hb, hl, hc⟩ := h j v hv
  exact ⟨b, f, ho, Nat.lt_of_lt_of_le hb s.size, (s.lab b hb).trans hl, (World.cell?_of_block (s.block b hb (by rw [hl]; exact hs))).trans hc⟩
theorem COw.row (h : COw w lab cl e sz o l c xs) : CRow w lab cl o xs := fun j v hv => by
  obtain ⟨g, rfl, hc⟩ := h.own.cell hv
  exact ⟨g, 0, rfl, h.own.lt ⟨_, rfl, rfl⟩, h.clr _ ⟨_, rfl, rfl⟩, by rw [Nat.zero_add]; exact hc⟩
theorem CRow.src (h : CRow w lab cl o xs) (hk : P.underlying tx = some (.slice e)) (hl : xs.length = n * sz) (h1 : ∀ u ∈ xs, u.oneCell' = true) (c : Nat) (hz : 0 < sz) : Src P sz tx (.slice o n c) n xs w := by
  cases xs with
  | nil =>
    have : n = 0 := by
      have : n * sz = 0 := by simpa using hl.symm
      rcases Nat.mul_eq_zero.1 this with h | h <;> omega
    subst this
    cases o with
    | none => exact Src.ofNil w hk c
    | some a => exact Src.ofSlice w hk a 0 c [] hl (by simp) (by simp)
  | cons v r =>
    obtain ⟨b, f, rfl, _, _, _⟩ := h 0 v rfl
    refine Src.ofSlice w hk _ n c _ hl (fun j u hu => ?_) h1
    obtain ⟨b', f', ho, _, _, hc⟩ := h j u hu
    cases ho
    rw [add_at]; exact hc
/-- A full row that is only read: appending copies it. -/
theorem append_full {o : Option Addr} {news : List Value} {x : Value} {m : Nat} (h : CRow w lab cl o xs) (ht : P.underlying t = some (.slice e)) (hi : P.info? e = some i) (hz : i.zero = some z) (hs : i.size = sz) (hzs : z.cells.size = sz) (hsz : 0 < sz)
    (hl : xs.length = l * sz) (src : Src P sz tx x (m + 1) news w) (h63 : l + (m + 1) ≤ maxLen) (hb : (l + (m + 1)) * i.bytes ≤ 140737488355328) :
    ∃ o' c' w', Sem.run P (builtinV .append #[t, tx] ty #[.slice o l l, x]) w = .ok (.slice o' (l + (m + 1)) c') w' ∧ Fresh w w' e sz o' (l + (m + 1)) c' (xs ++ news) := by
  have hold : (Builtin.firstCells i.size l (.slice o l l)).run P w.drew = .ok xs.toArray w.drew := by
    subst hs
    cases o with
    | none =>
      have : xs = [] := by
        cases xs with
        | nil => rfl
        | cons v r => obtain ⟨b, f, ho, _⟩ := h 0 v rfl; cases ho
      subst this
      have : l = 0 := by
        have : l * i.size = 0 := by simpa using hl.symm
        rcases Nat.mul_eq_zero.1 this with h | h <;> omega
      subst this
      exact run_firstCells_none w.drew i.size 0 0 0
    | some a =>
      exact run_firstCells_some w.drew i.size l _ l l xs hl (fun j v hv => by
        obtain ⟨b, f, ho, _, _, hc⟩ := h j v hv
        cases ho
        rw [add_at]
        exact hc)
  have hr := run_append_grow_src (P := P) w t tx ty e i z ht hi hz o l l xs hold x (m + 1) news (hs ▸ src) (by omega) (by simp only [maxLen] at h63; omega) (growslice_fits (by omega) hb)
  have hlen : (xs ++ news).length = (l + (m + 1)) * sz := by rw [List.length_append, hl, src.newsLen, ← Nat.add_mul]
  have hge := grownCap_ge w (l + (m + 1)) l e
  have hcm : grownCap w (l + (m + 1)) l e ≤ maxLen := grownCap_le_maxLen w (l + (m + 1)) l e h63
  refine ⟨_, _, _, hr, ⟨hlen, .inr ⟨_, _, rfl, Blk.new w.drew e _, hge, hcm, ?_, ?_⟩⟩, ((Mod.drew w).step_alloc _), fun k hk => ?_⟩
  · rw [Array.size_append, List.size_toArray, hlen, size_zeroCells, hzs, ← Nat.add_mul]
    congr 1; omega
  · rw [Array.toList_append]
    show List.take _ ((xs ++ news) ++ _) = _
    rw [← hlen]
    exact List.take_left
  · obtain ⟨d, hd, rfl⟩ := hk
    cases hd
    exact Nat.le_refl _
theorem add_zero_map (o : Option Addr) (k : Nat) : Option.map (fun a => Addr.add a (0 * k)) o = o := by
  cases o with
  | none => rfl
  | some a => simp [Addr.add]
/-- `s[:h:m]` of a slice. -/
theorem run_slice3 {o : Option Addr} {l c h : Nat} (ht : P.underlying t = some (.slice e)) (hi : P.info? e = some i) (w : World) (hh : h ≤ c) :
    Sem.run P (Instr.sliceAt t (.slice o l c) none (some (.int .i64 (h : Int))) (some (.int .i64 (h : Int)))) w = .ok (.slice o h h) w := by
  have e1 : ∀ (y : Nat) (code : BoundsCode), h ≤ y → (Instr.sliceBound (.int .i64 (h : Int)) y code).run P w = .ok h w := by
    intro y code hy
    simp [Instr.sliceBound, asIntOf, hy]
  have e2 : (Instr.sliceBounds true l c none (some (.int .i64 (h : Int))) (some (.int .i64 (h : Int)))).run P w = .ok (0, h, h) w := by
    unfold Instr.sliceBounds
    simp only [Sem.run_bind, e1 c _ hh, Result.andThen_ok, e1 h _ (Nat.le_refl _), Sem.run_pure]
  unfold Instr.sliceAt
  simp only [Sem.run_bind, run_und ht, Result.andThen_ok]
  unfold Instr.slice
  simp only [Sem.run_bind, run_und ht, Result.andThen_ok, e2, run_sizeOf hi, Sem.run_pure, add_zero_map, ite_self, Nat.sub_zero]
end
end Go.Vcg
end

section
set_option linter.unusedVariables false
set_option linter.unusedSimpArgs false
namespace Go.Proofs.YtkekehngillblaaGreat
open Go Go.Vcg Go.Disk

abbrev tNm : TypeId := 92
abbrev tSlNm : TypeId := 51
abbrev tMv : TypeId := 90
abbrev tSlMv : TypeId := 52
abbrev tCg : TypeId := 113
abbrev tSlCg : TypeId := 93
abbrev tRDisk : TypeId := 54
abbrev tRFile : TypeId := 95
theorem und_slNm : Tryz.prog.underlying tSlNm = some (.slice tNm) := by kernel_rfl
theorem und_slMv : Tryz.prog.underlying tSlMv = some (.slice tMv) := by kernel_rfl
theorem und_slCg : Tryz.prog.underlying tSlCg = some (.slice tCg) := by kernel_rfl
theorem info_nm : (Tryz.prog.info? tNm).map (fun i => (i.zero, i.size, i.bytes)) = some (some (.agg #[.string ⟨#[]⟩, .pointer none]), 2, 24) := by kernel_rfl
theorem info_mv : (Tryz.prog.info? tMv).map (fun i => (i.zero, i.size, i.bytes)) = some (some (.agg #[.string ⟨#[]⟩, .string ⟨#[]⟩, .pointer none]), 3, 40) := by kernel_rfl
theorem info_cg : (Tryz.prog.info? tCg).map (fun i => (i.zero, i.size, i.bytes)) = some (some (.agg #[.int .i64 0, .slice none 0 0, .int .i64 0]), 3, 40) := by kernel_rfl
theorem info_of {t : TypeId} {z : Value} {s b : Nat} (h : (Tryz.prog.info? t).map (fun i => (i.zero, i.size, i.bytes)) = some (some z, s, b)) : ∃ i, Tryz.prog.info? t = some i ∧ i.zero = some z ∧ i.size = s ∧ i.bytes = b := by
  obtain ⟨i, hi, h1⟩ := Option.map_eq_some_iff.1 h
  simp only [Prod.mk.injEq] at h1
  exact ⟨i, hi, h1⟩

theorem Name_calls (w : World) (s : ByteArray) : Calls Tryz.prog moraineref1_Name.n #[.string s] w (fun e w' => e = .returned (.bool (right s)) ∧ w' = w) := by
  refine moraineref1_Name.vc _ _ _ ?_
  unfold moraineref1_Name.Vc
  refine ⟨fun h => ⟨?_, rfl⟩, fun h1 => ⟨fun h => ⟨?_, rfl⟩, fun h2 => ?_⟩⟩
  · simp only [right]; rw [decide_eq_false (show ¬ 1 ≤ s.size by omega)]; rfl
  · simp only [right]; rw [decide_eq_false (show ¬ s.size ≤ 64 by omega)]; simp
  · have hl : s.data.toList.length = s.size := by simp
    have hr : right s = s.data.toList.all okChar := by
      simp only [right]; rw [decide_eq_true (show 1 ≤ s.size by omega), decide_eq_true (show s.size ≤ 64 by omega)]; rfl
    rw [hr]
    refine ⟨UpTo s.size (fun i w' => w' = w ∧ (s.data.toList.take i).all okChar = true), Vcg.Left s.size, ⟨0, rfl, Nat.zero_le _, rfl, rfl⟩, ?_⟩
    rintro _ _ w' ⟨i, rfl, hi, rfl, ha⟩
    refine ⟨fun hlt => ⟨by omega, ?_⟩, fun hge => ⟨?_, rfl⟩⟩
    · have hi' : i < s.size := by omega
      rw [Int.toNat_natCast]
      have hst := strAt_get hi'
      have hok := okChar_iff (s.data.toList.getD i 0)
      rw [← hst] at hok
      have hs : (s.data.toList.take (i + 1)).all okChar = ((s.data.toList.take i).all okChar && okChar (s.data.toList.getD i 0)) := by
        rw [List.take_add_one, List.all_append, List.getElem?_eq_getElem (by rw [hl]; exact hi'), List.getD_eq_getElem?_getD, List.getElem?_eq_getElem (by rw [hl]; exact hi')]
        simp
      rw [ha, Bool.true_and] at hs
      generalize strAt s i = c at *
      have ew : IntKind.wrap .i64 ((i : Int) + 1) = ((i + 1 : Nat) : Int) := by rw [wrap_i64_small (by omega) (by omega)]; omega
      have good : (97 ≤ c ∧ c ≤ 122 ∨ 48 ≤ c ∧ c ≤ 57 ∨ c = 46 ∨ c = 45 ∨ c = 95) → UpTo s.size (fun i w'' => w'' = w' ∧ (s.data.toList.take i).all okChar = true) (IntKind.wrap .i64 ((i : Int) + 1)) w' ∧ Vcg.Left s.size (IntKind.wrap .i64 ((i : Int) + 1)) w' < Vcg.Left s.size (i : Int) w' := fun h => by
        refine UpTo.next ew hi' ⟨rfl, ?_⟩
        rw [hs, hok]
        rcases h with h | h | h | h | h <;> simp [h]
      have bad : ¬ (97 ≤ c ∧ c ≤ 122 ∨ 48 ≤ c ∧ c ≤ 57 ∨ c = 46 ∨ c = 45 ∨ c = 95) → (Ending.returned (Value.bool false) = .returned (.bool (s.data.toList.all okChar)) ∧ w' = w') := fun h => by
        have hn : okChar (s.data.toList.getD i 0) = false := by
          rw [hok]
          simp only [not_or] at h
          simp only [Bool.or_eq_false_iff, decide_eq_false_iff_not]
          exact ⟨⟨⟨⟨h.1, h.2.1⟩, h.2.2.1⟩, h.2.2.2.1⟩, h.2.2.2.2⟩
        refine ⟨?_, rfl⟩
        congr 2
        symm
        rw [Bool.eq_false_iff]
        intro hall
        have := List.all_eq_true.1 hall (s.data.toList.getD i 0) (by
          rw [List.getD_eq_getElem?_getD, List.getElem?_eq_getElem (by rw [hl]; exact hi')]
          exact List.getElem_mem _)
        rw [hn] at this; cases this
      clear hs hok hst ha
      repeat' first | exact good (by omega) | exact bad (by omega) | refine And.intro ?_ ?_ | intro _
    · obtain rfl : i = s.size := by omega
      rw [List.take_of_length_le (by omega)] at ha
      rw [ha]

/-! ### rows of names -/
def nmC (fb : Nat → Nat) (l : List (Nm × Nat)) : List Value := l.flatMap fun x => [.string x.1, fileV fb x.2]
theorem nmC_len (fb : Nat → Nat) : ∀ l : List (Nm × Nat), (nmC fb l).length = l.length * 2
  | [] => rfl
  | x :: r => by
    show ([.string x.1, fileV fb x.2] ++ nmC fb r).length = _
    rw [List.length_append, nmC_len fb r]; simp; omega
theorem nmC_at (fb : Nat → Nat) : ∀ (l : List (Nm × Nat)) (i : Nat) (x : Nm × Nat), l[i]? = some x → (nmC fb l)[i * 2]? = some (.string x.1) ∧ (nmC fb l)[i * 2 + 1]? = some (fileV fb x.2)
  | [], i, x, h => by simp at h
  | y :: r, 0, x, h => by
    simp at h; subst h
    exact ⟨rfl, rfl⟩
  | y :: r, i + 1, x, h => by
    have := nmC_at fb r i x (by simpa using h)
    show ([.string y.1, fileV fb y.2] ++ nmC fb r)[(i + 1) * 2]? = _ ∧ ([.string y.1, fileV fb y.2] ++ nmC fb r)[(i + 1) * 2 + 1]? = _
    rw [List.getElem?_append_right (by simp; omega), List.getElem?_append_right (by simp; omega)]
    simp only [List.length_cons, List.length_nil]
    rw [show (i + 1) * 2 - (0 + 1 + 1) = i * 2 by omega, show (i + 1) * 2 + 1 - (0 + 1 + 1) = i * 2 + 1 by omega]
    exact this
theorem nmC_append (fb : Nat → Nat) (l l' : List (Nm × Nat)) : nmC fb (l ++ l') = nmC fb l ++ nmC fb l' := List.flatMap_append
theorem nmC_one (fb : Nat → Nat) (l : List (Nm × Nat)) : ∀ u ∈ nmC fb l, u.oneCell' = true := by
  intro u hu
  obtain ⟨x, _, hx⟩ := List.mem_flatMap.1 hu
  simp only [List.mem_cons, List.not_mem_nil, or_false] at hx
  rcases hx with rfl | rfl <;> rfl

section
variable {C : Type} {w w' : World} {lab lab' : Nat → C} {c : C} {fb : Nat → Nat} {l : List (Nm × Nat)} {o : Option Addr} {k : Nat}
theorem row_name (h : CRow w lab c o (nmC fb l)) {i : Nat} {x : Nm × Nat} (hx : l[i]? = some x) :
    ∃ b f, o = some ⟨b, f, none⟩ ∧ b < w.heap.size ∧ w.cell? ⟨b, f + i * 2, none⟩ = some (.string x.1) ∧ w.cell? ⟨b, f + i * 2 + 1, none⟩ = some (fileV fb x.2) := by
  obtain ⟨h1, h2⟩ := nmC_at fb l i x hx
  obtain ⟨b, f, rfl, hb, _, hc⟩ := h _ _ h1
  obtain ⟨b', f', ho, _, _, hc'⟩ := h _ _ h2
  cases ho
  exact ⟨b, f, rfl, hb, hc, by rw [Nat.add_assoc]; exact hc'⟩

/-- Where a name stands. -/
def RFound (l : List (Nm × Nat)) (s : Nm) (i : Int) : Prop :=
  (i = -1 ∧ assoc s l = none) ∨ ∃ (j : Nat) (x : Nm × Nat), i = (j : Int) ∧ j < l.length ∧ l[j]? = some x ∧ assoc s l = some x.2 ∧ x.1 = s
theorem assoc_first {s : Nm} : ∀ {l : List (Nm × Nat)} {j : Nat} {x : Nm × Nat}, l[j]? = some x → (∀ y ∈ l.take j, y.1 ≠ s) → x.1 = s → assoc s l = some x.2
  | y :: r, 0, x, h, _, hs => by simp at h; subst h; rw [assoc, if_pos hs]
  | y :: r, j + 1, x, h, hn, hs => by
    rw [assoc, if_neg (hn y (by simp))]
    exact assoc_first (by simpa using h) (fun z hz => hn z (by simp [hz])) hs
theorem nm_eq (a b : Nm) : (a.data.toList = b.data.toList) ↔ a = b := by
  constructor
  · intro h
    cases a; cases b
    simp only [ByteArray.mk.injEq]
    exact Array.toList_inj.1 h
  · rintro rfl; rfl
theorem find_calls (h : CRow w lab c o (nmC fb l)) (hl : l.length < 2 ^ 62) (s : Nm) :
    Calls Tryz.prog moraineref1_find.n #[.slice o l.length k, .string s] w (fun e w' => w' = w ∧ ∃ i, e = .returned (.int .i64 i) ∧ RFound l s i) := by
  refine moraineref1_find.vc _ _ _ _ _ _ ?_
  unfold moraineref1_find.Vc
  refine ⟨UpTo l.length (fun i w' => w' = w ∧ ∀ y ∈ l.take i, y.1 ≠ s), Vcg.Left l.length, ⟨0, rfl, Nat.zero_le _, rfl, by simp⟩, ?_⟩
  rintro _ _ _ ⟨i, rfl, hi, rfl, hn⟩
  refine ⟨fun hlt => ?_, fun hge => ?_⟩
  · have hil : i < l.length := by omega
    have hx := List.getElem?_eq_getElem hil
    obtain ⟨b, f, rfl, hb, hc, _⟩ := row_name h hx
    refine ⟨_, rfl, by omega, _, by rw [add_at, Int.toNat_natCast]; exact hc, fun he => ?_, fun he => ?_⟩
    · rw [strB_eql, decide_eq_true_eq, nm_eq] at he
      exact ⟨rfl, _, rfl, .inr ⟨i, _, rfl, hil, hx, assoc_first hx hn he, he⟩⟩
    · rw [strB_eql, decide_eq_false_iff_not, nm_eq] at he
      refine UpTo.next (by rw [wrap_i64_small (by omega) (by omega)]; omega) hil ⟨rfl, fun y hy => ?_⟩
      rw [List.take_add_one, hx] at hy
      rcases List.mem_append.1 hy with hy | hy
      · exact hn y hy
      · simp at hy; subst hy; exact he
  · obtain rfl : i = l.length := by omega
    rw [List.take_length] at hn
    exact ⟨rfl, _, rfl, .inl ⟨rfl, assoc_none hn⟩⟩
theorem push_name {w0 : World} {o' : Option Addr} {n k' : Nat} {xs : List Value} (F : Fresh w0 w tNm 2 o n k' xs) {b t : Nat} {s : Nm} {f : Nat} (B : Blk w b t #[.string s, fileV fb f]) (hn : n < 2 ^ 40) :
    ∃ o' c' w', Sem.run Tryz.prog (builtinV .append #[tSlNm, tSlNm] tSlNm #[.slice o n k', .slice (some ⟨b, 0, none⟩) 1 1]) w = .ok (.slice o' (n + 1) c') w' ∧ Fresh w0 w' tNm 2 o' (n + 1) c' (xs ++ [.string s, fileV fb f]) := by
  obtain ⟨i, hi, hz, hs, hb⟩ := info_of info_nm
  exact F.push und_slNm hi hz hs rfl (src_one und_slNm B rfl (by simp [fileV]; exact ⟨rfl, rfl⟩)) (by simp only [maxLen]; omega) (by rw [hb]; omega)
theorem without_calls (h : CRow w lab c o (nmC fb l)) (hl : l.length < 2 ^ 40) (s : Nm) :
    Calls Tryz.prog moraineref1_without.n #[.slice o l.length k, .string s] w (fun e w' => ∃ o' k', e = .returned (.slice o' (Disk.without s l).length k') ∧ Fresh w w' tNm 2 o' (Disk.without s l).length k' (nmC fb (Disk.without s l))) := by
  refine moraineref1_without.vc _ _ _ _ _ _ ?_
  unfold moraineref1_without.Vc
  refine ⟨fun o' n' k' i w' => ∃ j : Nat, i = (j : Int) ∧ j ≤ l.length ∧ n' = (Disk.without s (l.take j)).length ∧ Fresh w w' tNm 2 o' n' k' (nmC fb (Disk.without s (l.take j))), fun _ _ _ i _ => ((l.length : Int) - i).toNat,
    ⟨0, rfl, Nat.zero_le _, rfl, Fresh.nil (Mod.refl w) _ _⟩, ?_⟩
  rintro o' _ k' _ _ w1 ⟨i, rfl, hi, rfl, F⟩
  refine ⟨fun hlt => ?_, fun hge => ?_⟩
  · have hil : i < l.length := by omega
    have hx := List.getElem?_eq_getElem hil
    obtain ⟨b, f, rfl, hb, hc, hc2⟩ := row_name h hx
    have cell : ∀ {w' : World}, Vcg.Mod NoB w w' → ∀ j, w'.cell? ⟨b, j, none⟩ = w.cell? ⟨b, j, none⟩ := fun M j => World.cell?_of_block (M.block b hb (fun h => h))
    have hwl : (Disk.without s (l.take i)).length ≤ i := by
      have := List.length_filter_le (fun x : Nm × Nat => decide (x.1 ≠ s)) (l.take i)
      unfold Disk.without
      rw [List.length_take] at this
      omega
    have ew : IntKind.wrap .i64 ((i : Int) + 1) = ((i + 1 : Nat) : Int) := by rw [wrap_i64_small (by omega) (by omega)]; omega
    have hst : Disk.without s (l.take (i + 1)) = Disk.without s (l.take i) ++ (if l[i].1 ≠ s then [l[i]] else []) := by
      unfold Disk.without
      rw [List.take_add_one, hx, List.filter_append]
      congr 1
      by_cases h0 : l[i].1 = s <;> simp [h0]
    rw [ew, Int.toNat_natCast]
    refine ⟨_, rfl, by omega, _, by rw [add_at]; exact (cell F.mod _).trans hc, fun he => ?_, fun he => ?_⟩
    · have he' : l[i].1 ≠ s := by
        intro h0
        rw [h0] at he
        simp [strB] at he
      refine ⟨_, rfl, by omega, _, _, by rw [add_at]; exact (cell F.mod _).trans hc, by rw [add_at, add_at]; exact (cell F.mod _).trans hc2, ?_⟩
      rintro d w2 ⟨rfl, rfl⟩
      have F2 := F.mod' (Mod.alloc (S := NoB) w1 (.cells #[.string l[i].1, fileV fb l[i].2] tNm))
      have B2 := Blk.new w1 tNm #[.string l[i].1, fileV fb l[i].2]
      obtain ⟨o3, c3, w3, hr, F3⟩ := push_name (o' := none) F2 B2 (by omega)
      refine ⟨_, w3, hr, _, _, _, rfl, ⟨i + 1, rfl, by omega, ?_, ?_⟩, by dsimp only; omega⟩
      · rw [hst, if_pos he', List.length_append]; rfl
      · rw [hst, if_pos he', nmC_append]; exact F3
    · have he' : l[i].1 = s := by
        have h1 : strB .neq l[i].1 s = !(strB .eql l[i].1 s) := by simp [strB]
        rw [h1, strB_eql] at he
        exact (nm_eq _ _).1 (of_decide_eq_true (Bool.not_eq_false' .. ▸ he))
      refine ⟨⟨i + 1, rfl, by omega, ?_, ?_⟩, by dsimp only; omega⟩
      · rw [hst, if_neg (by simp [he']), List.append_nil]
      · rw [hst, if_neg (by simp [he']), List.append_nil]; exact F
  · obtain rfl : i = l.length := by omega
    rw [List.take_length] at F ⊢
    exact ⟨_, _, rfl, F⟩
end
end Go.Proofs.YtkekehngillblaaGreat
end

section
set_option linter.unusedVariables false
set_option linter.unusedSimpArgs false
namespace Go.Proofs.YtkekehngillblaaGreat
open Go Go.Vcg Go.Disk

inductive RC where
  | disk | now | moves | file (n : Nat) | pend (n : Nat) | froz
  deriving DecidableEq

section
variable {C : Type}
/-- What a reference disk's calls may change. -/
def SR (γ : RC → C) (c : C) : Prop := ∃ x, x ≠ RC.froz ∧ c = γ x
theorem SR.of {γ : RC → C} {x : RC} (h : x ≠ .froz) : SR γ (γ x) := ⟨x, h, rfl⟩
variable {S : C → Prop} {w w' : World} {lab lab' : Nat → C} {c : C} {γ : RC → C}

def PgV (w : World) (lab : Nat → C) (c : C) (t : Value × Value × Value) : Pt → Prop
  | .wr a b => ∃ o k, t = (.int .i64 (a : Int), .slice o b.length k, .int .i64 0) ∧ b.length ≤ k ∧ CBy w lab c o b
  | .cut n => t = (.int .i64 (-1), .slice none 0 0, .int .i64 (n : Int))
structure Pgs (w : World) (lab : Nat → C) (c : C) (ts : List (Value × Value × Value)) (ps : List Pt) : Prop where
  len : ts.length = ps.length
  at_ : ∀ (i : Nat) (p : Pt), ps[i]? = some p → ∃ t, ts[i]? = some t ∧ PgV w lab c t p
theorem PgV.stp {t : Value × Value × Value} {p : Pt} (h : PgV w lab c t p) (s : Stp S w lab w' lab') (hs : ¬ S c) : PgV w' lab' c t p := by
  cases p with
  | wr a b => obtain ⟨o, k, h1, h2, h3⟩ := h; exact ⟨o, k, h1, h2, h3.stp s hs⟩
  | cut n => exact h
theorem Pgs.stp {ts : List (Value × Value × Value)} {ps : List Pt} (h : Pgs w lab c ts ps) (s : Stp S w lab w' lab') (hs : ¬ S c) : Pgs w' lab' c ts ps :=
  ⟨h.len, fun i p hp => by obtain ⟨v, h1, h2⟩ := h.at_ i p hp; exact ⟨v, h1, h2.stp s hs⟩⟩
theorem Pgs.nil : Pgs w lab c [] [] := ⟨rfl, fun i p h => by simp at h⟩
theorem Pgs.snoc {ts : List (Value × Value × Value)} {ps : List Pt} (h : Pgs w lab c ts ps) {t : Value × Value × Value} {p : Pt} (hv : PgV w lab c t p) : Pgs w lab c (ts ++ [t]) (ps ++ [p]) := by
  refine ⟨by simp [h.len], fun i q hq => ?_⟩
  by_cases hi : i < ps.length
  · rw [List.getElem?_append_left hi] at hq
    obtain ⟨u, h1, h2⟩ := h.at_ i q hq
    exact ⟨u, by rw [List.getElem?_append_left (by rw [h.len]; exact hi)]; exact h1, h2⟩
  · rw [List.getElem?_append_right (by omega)] at hq
    have : i - ps.length = 0 := by
      have := (List.getElem?_eq_some_iff.1 hq).1
      simp at this; omega
    rw [this] at hq
    simp at hq; subst hq
    exact ⟨t, by rw [List.getElem?_append_right (by rw [h.len]; omega), h.len, this]; rfl, hv⟩

/-- Cells of triples. -/
def cells3 (ts : List (Value × Value × Value)) : List Value := ts.flatMap fun t => [t.1, t.2.1, t.2.2]
theorem cells3_len : ∀ ts : List (Value × Value × Value), (cells3 ts).length = ts.length * 3
  | [] => rfl
  | x :: r => by
    show ([x.1, x.2.1, x.2.2] ++ cells3 r).length = _
    rw [List.length_append, cells3_len r]; simp; omega
theorem cells3_at : ∀ (l : List (Value × Value × Value)) (i : Nat) (x : Value × Value × Value), l[i]? = some x → (cells3 l)[i * 3]? = some x.1 ∧ (cells3 l)[i * 3 + 1]? = some x.2.1 ∧ (cells3 l)[i * 3 + 2]? = some x.2.2
  | [], i, x, h => by simp at h
  | y :: r, 0, x, h => by
    simp at h; subst h
    exact ⟨rfl, rfl, rfl⟩
  | y :: r, i + 1, x, h => by
    have := cells3_at r i x (by simpa using h)
    show ([y.1, y.2.1, y.2.2] ++ cells3 r)[(i + 1) * 3]? = _ ∧ ([y.1, y.2.1, y.2.2] ++ cells3 r)[(i + 1) * 3 + 1]? = _ ∧ ([y.1, y.2.1, y.2.2] ++ cells3 r)[(i + 1) * 3 + 2]? = _
    rw [List.getElem?_append_right (by simp; omega), List.getElem?_append_right (by simp; omega), List.getElem?_append_right (by simp; omega)]
    simp only [List.length_cons, List.length_nil]
    rw [show (i + 1) * 3 - (0 + 1 + 1 + 1) = i * 3 by omega, show (i + 1) * 3 + 1 - (0 + 1 + 1 + 1) = i * 3 + 1 by omega, show (i + 1) * 3 + 2 - (0 + 1 + 1 + 1) = i * 3 + 2 by omega]
    exact this
theorem cells3_append (l l' : List (Value × Value × Value)) : cells3 (l ++ l') = cells3 l ++ cells3 l' := List.flatMap_append
def mvT (fb : Nat → Nat) : Chg → Value × Value × Value
  | .made n f => (.string n, .string ⟨#[]⟩, fileV fb f)
  | .ren a b => (.string a, .string b, .pointer none)
  | .rem n => (.string n, .string ⟨#[]⟩, .pointer none)

structure RFCells (w : World) (lab : Nat → C) (γ : RC → C) (n b : Nat) (o1 : Option Addr) (c1 : Nat) (o2 : Option Addr) (c2 : Nat) (o3 : Option Addr) (c3 : Nat) (ts : List (Value × Value × Value)) (f : Fl) : Prop where
  cells : CB w lab (γ (.file n)) b tRFile #[.int .i64 (n : Int), .slice o1 f.bytes.length c1, .slice o2 f.sure.length c2, .slice o3 f.pend.length c3]
  cap : f.bytes.length ≤ c1
  bytes : CBy w lab (γ .froz) o1 f.bytes
  sure : CBy w lab (γ .froz) o2 f.sure
  pend : COw w lab (γ (.pend n)) tCg 3 o3 f.pend.length c3 (cells3 ts)
  pgs : Pgs w lab (γ .froz) ts f.pend
def RFAt (w : World) (lab : Nat → C) (γ : RC → C) (n b : Nat) (f : Fl) : Prop := ∃ o1 c1 o2 c2 o3 c3 ts, RFCells w lab γ n b o1 c1 o2 c2 o3 c3 ts f
theorem RFAt.stp {n b : Nat} {f : Fl} (h : RFAt w lab γ n b f) (s : Stp S w lab w' lab') (h1 : ¬ S (γ (.file n))) (h2 : ¬ S (γ (.pend n))) (h3 : ¬ S (γ .froz)) : RFAt w' lab' γ n b f := by
  obtain ⟨o1, c1, o2, c2, o3, c3, ts, h⟩ := h
  exact ⟨o1, c1, o2, c2, o3, c3, ts, h.cells.stp s h1, h.cap, h.bytes.stp s h3, h.sure.stp s h3, h.pend.stp s h2, h.pgs.stp s h3⟩

/-- Everything but the disk's own block. -/
structure RRest (w : World) (lab : Nat → C) (γ : RC → C) (on : Option Addr) (cn : Nat) (os : Option Addr) (om : Option Addr) (cm : Nat) (fb : Nat → Nat) (names sure : List (Nm × Nat)) (pend : List Chg) (files : Nat) (fs : Nat → Fl) : Prop where
  ncap : names.length ≤ cn
  names : CRow w lab (γ .now) on (nmC fb names)
  sure : CRow w lab (γ .froz) os (nmC fb sure)
  pend : COw w lab (γ .moves) tMv 3 om pend.length cm (cells3 (pend.map (mvT fb)))
  files : ∀ n, n < files → RFAt w lab γ n (fb n) (fs n)
variable {on os om : Option Addr} {cn cs cm : Nat} {fb : Nat → Nat} {names sure : List (Nm × Nat)} {pend : List Chg} {files : Nat} {fs : Nat → Fl}
theorem RRest.stp (h : RRest w lab γ on cn os om cm fb names sure pend files fs) (s : Stp S w lab w' lab') (hs : ∀ x, x ≠ RC.disk → ¬ S (γ x)) : RRest w' lab' γ on cn os om cm fb names sure pend files fs :=
  ⟨h.ncap, h.names.stp s (hs _ (by simp)), h.sure.stp s (hs _ (by simp)), h.pend.stp s (hs _ (by simp)), fun n hn => (h.files n hn).stp s (hs _ (by simp)) (hs _ (by simp)) (hs _ (by simp))⟩
def rdiskA (cap : Int) (on : Option Addr) (ln cn : Nat) (os : Option Addr) (ls cs : Nat) (om : Option Addr) (lm cm files count : Nat) (fail halt : Int) (down : Bool) : Array Value :=
  #[.int .i64 cap, .slice on ln cn, .slice os ls cs, .slice om lm cm, .int .i64 (files : Int), .int .i64 (count : Int), .int .i64 fail, .int .i64 halt, .bool down]
/-- The halt that the reference counts down. -/
def HaltAs (σ : Dk) (h : Int) : Prop := (-1 ≤ h ∧ h < 9223372036854775808) ∧ (σ.down = false → h = σ.halt)
def RAt (w : World) (lab : Nat → C) (γ : RC → C) (d : Nat) (σ : Dk) : Prop :=
  ∃ on cn os cs om cm fb h, HaltAs σ h ∧ CB w lab (γ .disk) d tRDisk (rdiskA σ.cap on σ.names.length cn os σ.sure.length cs om σ.pend.length cm σ.files σ.count σ.fail h σ.down) ∧ RRest w lab γ on cn os om cm fb σ.names σ.sure σ.pend σ.files σ.fs
theorem RAt.stp {d : Nat} {σ : Dk} (h : RAt w lab γ d σ) (s : Stp S w lab w' lab') (hs : ∀ x, ¬ S (γ x)) : RAt w' lab' γ d σ := by
  obtain ⟨on, cn, os, cs, om, cm, fb, hh, h1, h2, h3⟩ := h
  exact ⟨on, cn, os, cs, om, cm, fb, hh, h1, h2.stp s (hs _), h3.stp s (fun x _ => hs x)⟩
def RRes (γ : RC → C) (d : Nat) (w : World) (lab : Nat → C) (w' : World) (σ : Dk) : Prop := ∃ lab', RAt w' lab' γ d σ ∧ Stp (SR γ) w lab w' lab'
theorem RRes.then {d : Nat} {σ' : Dk} {w'' : World} {lab1 : Nat → C} (s : Stp (SR γ) w lab w' lab1) (h : RRes γ d w' lab1 w'' σ') : RRes γ d w lab w'' σ' := by
  obtain ⟨lab', h1, h2⟩ := h
  exact ⟨lab', h1, s.trans h2⟩
theorem RAt.res {d : Nat} {σ : Dk} (h : RAt w lab γ d σ) (M : Vcg.Mod NoB w w') : RRes γ d w lab w' σ := by
  have s : Stp NoC w lab w' (ext lab w.heap.size (γ .froz)) := Stp.of_nob M _
  exact ⟨_, h.stp s (fun _ h => h), s.mono (fun _ h => h.elim)⟩
theorem rset {d : Nat} {t : TypeId} {w0 : World} {lab0 : Nat → C} {c : C} {cs cs' : Array Value} (B : CB w lab c d t cs) (s : Stp S w0 lab0 w lab) (hS : S c) (i : Nat) (v : Value) (he : cs.setIfInBounds i v = cs') :
    CB (w.setCell ⟨d, i, none⟩ v) lab c d t cs' ∧ Stp S w0 lab0 (w.setCell ⟨d, i, none⟩ v) lab := by
  refine ⟨he ▸ B.set i v, s.trans (Stp.setCell ?_)⟩
  show S (lab d)
  rw [B.clr]; exact hS

variable {d : Nat} {σ : Dk}
theorem call_calls (hγ : ∀ a b, γ a = γ b → a = b) (h : RAt w lab γ d σ) (hn : Nums σ) :
    Calls Tryz.prog moraineref1_Disk_call.n #[.pointer (some ⟨d, 0, none⟩)] w (fun e w' => e = .returned (.int .i64 (begins σ).2) ∧ RRes γ d w lab w' (begins σ).1) := by
  obtain ⟨on, cn, os, cs, om, cm, fb, h, ⟨hh, hd⟩, B, Rt⟩ := h
  have hc := hn.count
  have hf := hn.fail
  have ht := hn.halt
  refine calls_gen fun R hR => moraineref1_Disk_call.vc _ _ _ ?_
  unfold moraineref1_Disk_call.Vc
  simp only [add_at, Nat.zero_add]
  refine ⟨_, B.blk.rd1 rfl, B.blk.canSet (by simp [rdiskA]) rfl, ?_⟩
  rintro _ rfl
  have s0 : Stp (· = γ .disk) w lab w lab := Stp.refl _ _ _
  obtain ⟨B1, s1⟩ := rset B s0 rfl 5 (.int .i64 (IntKind.wrap .i64 ((σ.count : Int) + 1))) (cs' := rdiskA σ.cap on σ.names.length cn os σ.sure.length cs om σ.pend.length cm σ.files (σ.count + 1) σ.fail h σ.down) (by
    rw [wrap_i64_small (by omega) (by omega)]; rfl)
  generalize w.setCell ⟨d, 5, none⟩ (.int .i64 (IntKind.wrap .i64 ((σ.count : Int) + 1))) = w1 at *
  refine ⟨fun w' => CB w' lab (γ .disk) d tRDisk (rdiskA σ.cap on σ.names.length cn os σ.sure.length cs om σ.pend.length cm σ.files (σ.count + 1) σ.fail h (σ.down || decide (h = 0))) ∧ Stp (· = γ .disk) w lab w' lab, ⟨_, B1.blk.rd1 rfl, fun h0 => ⟨B1.blk.canSet (by simp [rdiskA]) rfl, ?_⟩, fun h0 => ?_⟩, ?_⟩
  · rintro _ rfl
    exact rset B1 s1 rfl 8 (.bool true) (by simp [h0, rdiskA])
  · refine ⟨?_, s1⟩
    rw [decide_eq_false h0, Bool.or_false]; exact B1
  clear B1 s1 s0
  rintro _ w2 ⟨B2, s2⟩
  generalize hdn : (σ.down || decide (h = 0)) = dn at *
  refine ⟨fun w' => CB w' lab (γ .disk) d tRDisk (rdiskA σ.cap on σ.names.length cn os σ.sure.length cs om σ.pend.length cm σ.files (σ.count + 1) σ.fail (if h > 0 then h - 1 else h) dn) ∧ Stp (· = γ .disk) w lab w' lab, ⟨_, B2.blk.rd1 rfl, fun h0 => ⟨_, B2.blk.rd1 rfl, B2.blk.canSet (by simp [rdiskA]) rfl, ?_⟩, fun h0 => ?_⟩, ?_⟩
  · rintro _ rfl
    refine rset B2 s2 rfl 7 _ ?_
    rw [wrap_i64_small (by omega) (by omega), if_pos h0]; rfl
  · rw [if_neg h0]; exact ⟨B2, s2⟩
  clear B2 s2
  rintro _ w3 ⟨B3, s3⟩
  generalize hh' : (if h > 0 then h - 1 else h) = h' at *
  have hr' : -1 ≤ h' ∧ h' < 9223372036854775808 := by rw [← hh']; split <;> omega
  have fin : ∀ (w4 : World) (fl : Int), CB w4 lab (γ .disk) d tRDisk (rdiskA σ.cap on σ.names.length cn os σ.sure.length cs om σ.pend.length cm σ.files (σ.count + 1) fl h' dn) → Stp (· = γ .disk) w lab w4 lab → fl = max (σ.fail - 1) 0 →
      ∀ r, r = (if dn then (17 : Int) else if σ.fail = 1 then 16 else 0) → R (.returned (.int .i64 r)) w4 := by
    rintro w4 _ B4 s4 rfl r rfl
    refine hR _ _ ?_
    have R4 := Rt.stp s4 (fun x hx e => hx (hγ _ _ e))
    have S4 : Stp (SR γ) w lab w4 lab := s4.mono (fun c e => e ▸ SR.of (by simp))
    by_cases hdd : σ.down = true
    · have : dn = true := by rw [← hdn, hdd]; rfl
      subst this
      by_cases h0 : σ.halt = 0
      · exact ⟨by simp only [begins, if_pos h0, if_true], lab, by simp only [begins, if_pos h0]; exact ⟨_, _, _, _, _, _, _, h', ⟨hr', fun h => by cases h⟩, B4, R4⟩, S4⟩
      · exact ⟨by simp only [begins, if_neg h0, if_pos hdd, if_true], lab, by simp only [begins, if_neg h0, if_pos hdd]; exact ⟨_, _, _, _, _, _, _, h', ⟨hr', fun h => by simp only [hdd] at h; cases h⟩, by simp only [hdd]; exact B4, R4⟩, S4⟩
    · have hd1 : σ.down = false := by simpa using hdd
      have hhh := hd hd1
      subst hhh
      by_cases h0 : σ.halt = 0
      · have : dn = true := by rw [← hdn, decide_eq_true h0, Bool.or_true]
        subst this
        exact ⟨by simp only [begins, if_pos h0, if_true], lab, by simp only [begins, if_pos h0]; exact ⟨_, _, _, _, _, _, _, h', ⟨hr', fun h => by cases h⟩, B4, R4⟩, S4⟩
      · have : dn = false := by rw [← hdn, decide_eq_false h0, hd1]; rfl
        subst this
        have hm : h' = max (σ.halt - 1) (-1) := by rw [← hh']; split <;> omega
        exact ⟨by simp only [begins, if_neg h0, if_neg hdd]; rfl, lab, by simp only [begins, if_neg h0, if_neg hdd]; exact ⟨_, _, _, _, _, _, _, h', ⟨hr', fun _ => hm⟩, by simp only [hd1]; exact B4, R4⟩, S4⟩
  clear hdn hh'
  have fin2 : ∀ (w4 : World) (fl : Int), CB w4 lab (γ .disk) d tRDisk (rdiskA σ.cap on σ.names.length cn os σ.sure.length cs om σ.pend.length cm σ.files (σ.count + 1) fl h' dn) → Stp (· = γ .disk) w lab w4 lab → fl = max (σ.fail - 1) 0 → σ.fail ≠ 1 →
      ∃ b : Bool, World.cell? w4 ⟨d, 8, none⟩ = some (.bool b) ∧ (b = true → R (.returned (.int .i64 17)) w4) ∧ (b = false → R (.returned (.int .i64 0)) w4) := fun w4 fl B4 s4 hfl h1 =>
    ⟨_, B4.blk.rd1 rfl, fun hb => fin w4 fl B4 s4 hfl _ (by rw [if_pos hb]), fun hb => fin w4 fl B4 s4 hfl _ (by rw [if_neg (by rw [hb]; simp), if_neg h1])⟩
  refine ⟨_, B3.blk.rd1 rfl, fun h0 => ⟨_, B3.blk.rd1 rfl, B3.blk.canSet (by simp [rdiskA]) rfl, ?_⟩, fun h0 => ?_⟩
  · rintro _ rfl
    have ew : IntKind.wrap .i64 (σ.fail - 1) = σ.fail - 1 := wrap_i64_small (by omega) (by omega)
    rw [ew]
    obtain ⟨B4, s4⟩ := rset B3 s3 rfl 6 (.int .i64 (σ.fail - 1)) (cs' := rdiskA σ.cap on σ.names.length cn os σ.sure.length cs om σ.pend.length cm σ.files (σ.count + 1) (σ.fail - 1) h' dn) rfl
    generalize w3.setCell ⟨d, 6, none⟩ (.int .i64 (σ.fail - 1)) = w4 at *
    refine ⟨_, B4.blk.rd1 rfl, fun h1 => ⟨_, B4.blk.rd1 rfl, fun hb => fin w4 _ B4 s4 (by omega) _ (by rw [if_neg (by rw [hb]; simp), if_pos (by omega)]), fun hb => ⟨_, B4.blk.rd1 rfl, fun _ => fin w4 _ B4 s4 (by omega) _ (by rw [if_pos hb]), fun hb2 => ?_⟩⟩, fun h1 => fin2 w4 _ B4 s4 (by omega) (by omega)⟩
    rw [hb] at hb2; cases hb2
  · exact fin2 w3 _ B3 s3 (by omega) (by omega)

theorem RFail_calls (hγ : ∀ a b, γ a = γ b → a = b) (h : RAt w lab γ d σ) (n : Int) :
    Calls Tryz.prog moraineref1_Disk_Fail.n #[.pointer (some ⟨d, 0, none⟩), .int .i64 n] w (fun e w' => e = .returned (.tuple #[]) ∧ RRes γ d w lab w' (failAt σ n)) := by
  obtain ⟨on, cn, os, cs, om, cm, fb, h, hh, B, Rt⟩ := h
  refine calls_gen fun R hR => moraineref1_Disk_Fail.vc _ _ _ _ ?_
  unfold moraineref1_Disk_Fail.Vc
  simp only [add_at, Nat.zero_add]
  refine ⟨B.blk.canSet (by simp [rdiskA]) rfl, ?_⟩
  rintro _ rfl
  obtain ⟨B1, s1⟩ := rset B (Stp.refl (· = γ .disk) w lab) rfl 6 (.int .i64 (max n 0)) rfl
  exact hR _ _ ⟨rfl, lab, ⟨_, _, _, _, _, _, _, h, hh, B1, Rt.stp s1 (fun x hx e => hx (hγ _ _ e))⟩, s1.mono (fun c e => e ▸ SR.of (by simp))⟩
theorem RHalt_calls (hγ : ∀ a b, γ a = γ b → a = b) (h : RAt w lab γ d σ) (n : Int) (hn : n < 9223372036854775808) :
    Calls Tryz.prog moraineref1_Disk_Halt.n #[.pointer (some ⟨d, 0, none⟩), .int .i64 n] w (fun e w' => e = .returned (.tuple #[]) ∧ RRes γ d w lab w' (haltAt σ n)) := by
  obtain ⟨on, cn, os, cs, om, cm, fb, h, hh, B, Rt⟩ := h
  refine calls_gen fun R hR => moraineref1_Disk_Halt.vc _ _ _ _ ?_
  unfold moraineref1_Disk_Halt.Vc
  simp only [add_at, Nat.zero_add]
  refine ⟨B.blk.canSet (by simp [rdiskA]) rfl, ?_⟩
  rintro _ rfl
  obtain ⟨B1, s1⟩ := rset B (Stp.refl (· = γ .disk) w lab) rfl 7 (.int .i64 (max n (-1))) rfl
  exact hR _ _ ⟨rfl, lab, ⟨_, _, _, _, _, _, _, max n (-1), ⟨by omega, fun _ => rfl⟩, B1, Rt.stp s1 (fun x hx e => hx (hγ _ _ e))⟩, s1.mono (fun c e => e ▸ SR.of (by simp))⟩
end
end Go.Proofs.YtkekehngillblaaGreat
end

section
set_option linter.unusedVariables false
set_option linter.unusedSimpArgs false
namespace Go.Disk
theorem lay_set {b c : List UInt8} {a j : Nat} (ha : a ≤ b.length) (hj : j < c.length) (hl : a + j < (lay b a (c.take j)).length) : (lay b a (c.take j)).set (a + j) c[j] = lay b a (c.take (j + 1)) := by
  have ht : (c.take j).length = j := by rw [List.length_take]; omega
  have ht1 : (c.take (j + 1)).length = j + 1 := by rw [List.length_take]; omega
  rw [length_lay ha, ht] at hl
  apply List.ext_getElem?
  intro i
  rw [List.getElem?_set, get_lay ha, get_lay ha, ht, ht1, length_lay ha, ht]
  by_cases h1 : a + j = i
  · subst h1
    rw [if_pos rfl, if_pos hl, if_pos (by omega), List.getElem?_take, if_pos (by omega), show a + j - a = j by omega, List.getElem?_eq_getElem hj]
  · rw [if_neg h1]
    by_cases h2 : a ≤ i ∧ i < a + j
    · rw [if_pos h2, if_pos (by omega), List.getElem?_take, List.getElem?_take, if_pos (by omega), if_pos (by omega)]
    · rw [if_neg h2, if_neg (by omega)]
theorem lay_push {b c : List UInt8} {a j : Nat} (ha : a ≤ b.length) (hj : j < c.length) (hl : ¬ a + j < (lay b a (c.take j)).length) : lay b a (c.take j) ++ [c[j]] = lay b a (c.take (j + 1)) := by
  have ht : (c.take j).length = j := by rw [List.length_take]; omega
  have ht1 : (c.take (j + 1)).length = j + 1 := by rw [List.length_take]; omega
  rw [length_lay ha, ht] at hl
  have hll : (lay b a (c.take j)).length = a + j := by rw [length_lay ha, ht]; omega
  apply List.ext_getElem?
  intro i
  rw [List.getElem?_append, hll, get_lay ha, get_lay ha, ht, ht1]
  by_cases h1 : i < a + j
  · rw [if_pos h1]
    by_cases h2 : a ≤ i
    · rw [if_pos ⟨h2, h1⟩, if_pos (by omega), List.getElem?_take, List.getElem?_take, if_pos (by omega), if_pos (by omega)]
    · rw [if_neg (by omega), if_neg (by omega)]
  · rw [if_neg h1]
    by_cases h2 : i = a + j
    · subst h2
      rw [if_pos (by omega), List.getElem?_take, if_pos (by omega), show a + j - a = j by omega, List.getElem?_eq_getElem hj]; simp
    · rw [if_neg (by omega), List.getElem?_eq_none (by simp; omega), List.getElem?_eq_none (by omega)]
theorem lay_nil (b : List UInt8) (a : Nat) : lay b a [] = b := by simp [lay]
end Go.Disk
namespace Go.Proofs.YtkekehngillblaaGreat
open Go Go.Vcg Go.Disk
section
variable {C : Type} {w w' : World} {lab lab' : Nat → C} {c : C} {γ : RC → C} {d : Nat} {σ : Dk}
variable {on os om : Option Addr} {cn cs cm : Nat} {fb : Nat → Nat} {h : Int}

theorem info_u8' : ∃ i, Tryz.prog.info? tU8 = some i ∧ i.zero = some (.int .u8 0) ∧ i.size = 1 ∧ i.bytes = 1 := info_of info_u8
theorem push_bytes {w0 : World} {o : Option Addr} {n k : Nat} {b : List UInt8} {ty : TypeId} (F : Fresh w0 w tU8 1 o n k (b.map bV)) {o2 : Option Addr} {c : List UInt8} {k2 : Nat} (hr : RdB w o2 c) (hn : n + c.length ≤ 2 ^ 40) :
    ∃ o' c' w', Sem.run Tryz.prog (builtinV .append #[tSlU8, tSlU8] ty #[.slice o n k, .slice o2 c.length k2]) w = .ok (.slice o' (n + c.length) c') w' ∧ Fresh w0 w' tU8 1 o' (n + c.length) c' ((b ++ c).map bV) := by
  obtain ⟨i, hi, hz, hs, hb⟩ := info_u8'
  rw [List.map_append]
  exact F.push und_slU8 hi hz hs rfl (src_bytes und_slU8 hr) (by simp only [maxLen]; omega) (by rw [hb]; omega)
theorem copy_bytes' {w0 : World} (M : Vcg.Mod NoB w0 w) {o2 : Option Addr} {c : List UInt8} {k2 : Nat} {ty : TypeId} (hr : RdB w o2 c) (hn : c.length ≤ 2 ^ 40) :
    ∃ o' c' w', Sem.run Tryz.prog (builtinV .append #[tSlU8, tSlU8] ty #[.slice none 0 0, .slice o2 c.length k2]) w = .ok (.slice o' c.length c') w' ∧ Fresh w0 w' tU8 1 o' c.length c' (c.map bV) := by
  have := push_bytes (k2 := k2) (ty := ty) (b := []) (Fresh.nil M tU8 1) hr (by omega)
  simpa using this
theorem lay_calls {o o2 : Option Addr} {k k2 : Nat} {b c : List UInt8} (hb : RdB w o b) (hc : RdB w o2 c) (a : Nat) (ha : a ≤ b.length) (h1 : b.length ≤ 2 ^ 39) (h2 : a + c.length ≤ 2 ^ 39) :
    Calls Tryz.prog moraineref1_lay.n #[.slice o b.length k, .int .i64 (a : Int), .slice o2 c.length k2] w (fun e w' => ∃ o' k', e = .returned (.slice o' (lay b a c).length k') ∧ Fresh w w' tU8 1 o' (lay b a c).length k' ((lay b a c).map bV)) := by
  refine moraineref1_lay.vc _ _ _ _ _ _ _ _ _ ?_
  unfold moraineref1_lay.Vc
  obtain ⟨o3, c3, w3, hr3, F3⟩ := copy_bytes' (k2 := k) (ty := tSlU8) (Mod.refl w) hb (by omega)
  refine ⟨_, w3, hr3, _, _, _, rfl, ?_⟩
  refine ⟨fun o' n' k' i w' => ∃ j : Nat, i = (j : Int) ∧ j ≤ c.length ∧ n' = (lay b a (c.take j)).length ∧ Fresh w w' tU8 1 o' n' k' ((lay b a (c.take j)).map bV), fun _ _ _ i _ => ((c.length : Int) - i).toNat,
    ⟨0, rfl, Nat.zero_le _, by rw [List.take_zero, lay_nil], by rw [List.take_zero, lay_nil]; exact F3⟩, ?_⟩
  clear F3 hr3
  rintro o' _ k' _ _ w4 ⟨j, rfl, hj, rfl, F⟩
  have hll : (lay b a (c.take j)).length = max b.length (a + j) := by rw [length_lay ha, List.length_take, Nat.min_eq_left hj]
  refine ⟨fun hlt => ?_, fun hge => ?_⟩
  · have hjc : j < c.length := by omega
    have e1 : IntKind.wrap .i64 ((a : Int) + (j : Int)) = ((a + j : Nat) : Int) := by rw [wrap_i64_small (by omega) (by omega)]; omega
    have e2 : IntKind.wrap .i64 ((j : Int) + 1) = ((j + 1 : Nat) : Int) := by rw [wrap_i64_small (by omega) (by omega)]; omega
    rw [e1, e2]
    obtain ⟨B, f, rfl, hB, hcell⟩ := hc (by intro h; rw [h] at hjc; simp at hjc)
    have hcl : w4.cell? (Addr.add ⟨B, f, none⟩ (Int.toNat (j : Int))) = some (bV c[j]) := by
      rw [Int.toNat_natCast, add_at, World.cell?_of_block (F.mod.block B hB (fun h => h)), hcell j hjc]
      simp [List.getD_eq_getElem?_getD, hjc]
    refine ⟨fun hin => ?_, fun hout => ?_⟩
    · have hin' : a + j < (lay b a (c.take j)).length := by omega
      obtain ⟨g, rfl, hcs, F'⟩ := F.set (j := a + j) (by omega) (v := bV c[j]) rfl
      refine ⟨_, rfl, by omega, _, hcl, _, rfl, by omega, by rw [Int.toNat_natCast, add_at, Nat.zero_add]; exact hcs, ?_⟩
      rintro w5 hw5
      have hw : w5 = w4.setCell ⟨g, a + j, none⟩ (bV c[j]) := by
        rw [Int.toNat_natCast, add_at, Nat.zero_add] at hw5; exact hw5
      subst hw
      have hls := lay_set ha hjc hin'
      refine ⟨⟨j + 1, rfl, hjc, ?_, ?_⟩, by dsimp only; omega⟩
      · rw [← hls, List.length_set]
      · rw [← hls, List.map_set]; exact F'
    · have hout' : ¬ a + j < (lay b a (c.take j)).length := by omega
      refine ⟨_, rfl, by omega, _, hcl, ?_⟩
      rintro d5 w5 ⟨rfl, rfl⟩
      have F5 := F.mod' (Mod.alloc (S := NoB) w4 (.cells #[bV c[j]] 5))
      have B5 := Blk.new w4 tU8 #[bV c[j]]
      obtain ⟨o6, c6, w6, hr6, F6⟩ := push_bytes (ty := tSlU8) (o2 := some ⟨w4.heap.size, 0, none⟩) (c := [c[j]]) (k2 := 1) F5 (RdB.of_blk B5 (fun i hi => by
        obtain rfl : i = 0 := by simpa using hi
        rfl)) (by simp; omega)
      have hls := lay_push ha hjc hout'
      refine ⟨_, w6, hr6, _, _, _, rfl, ⟨j + 1, rfl, hjc, ?_, ?_⟩, by dsimp only; omega⟩
      · rw [← hls, List.length_append]
      · rw [← hls]; exact F6
  · obtain rfl : j = c.length := by omega
    rw [List.take_length] at F ⊢
    exact ⟨_, _, rfl, F⟩

/-- A reference disk, its parts in sight. -/
structure RIn (w : World) (lab : Nat → C) (γ : RC → C) (d : Nat) (σ : Dk) (on : Option Addr) (cn : Nat) (os : Option Addr) (cs : Nat) (om : Option Addr) (cm : Nat) (fb : Nat → Nat) (h : Int) : Prop where
  halt : HaltAs σ h
  B : CB w lab (γ .disk) d tRDisk (rdiskA σ.cap on σ.names.length cn os σ.sure.length cs om σ.pend.length cm σ.files σ.count σ.fail h σ.down)
  R : RRest w lab γ on cn os om cm fb σ.names σ.sure σ.pend σ.files σ.fs
theorem RIn.at (H : RIn w lab γ d σ on cn os cs om cm fb h) : RAt w lab γ d σ := ⟨on, cn, os, cs, om, cm, fb, h, H.halt, H.B, H.R⟩
theorem RAt.in (H : RAt w lab γ d σ) : ∃ on cn os cs om cm fb h, RIn w lab γ d σ on cn os cs om cm fb h := by
  obtain ⟨on, cn, os, cs, om, cm, fb, h, h1, h2, h3⟩ := H
  exact ⟨on, cn, os, cs, om, cm, fb, h, h1, h2, h3⟩
theorem RIn.stp {S : C → Prop} (H : RIn w lab γ d σ on cn os cs om cm fb h) (s : Stp S w lab w' lab') (hs : ∀ x, ¬ S (γ x)) : RIn w' lab' γ d σ on cn os cs om cm fb h :=
  ⟨H.halt, H.B.stp s (hs _), H.R.stp s (fun x _ => hs x)⟩

theorem named_yes {s : Nm} {f : Nat} (hr : right s = true) (hf : assoc s σ.names = some f) : named σ s = (f, 0) := by simp only [named, hr, if_true, hf]
theorem named_no {s : Nm} (hr : right s = true) (hf : assoc s σ.names = none) : named σ s = (0, 13) := by simp only [named, hr, if_true, hf]
theorem named_bad {s : Nm} (hr : right s = false) : named σ s = (0, 11) := by simp [named, hr]
theorem named_file {s : Nm} (hk : Ok σ) (h0 : (named σ s).2 = 0) : (named σ s).1 < σ.files := by
  cases hr : right s with
  | false => rw [named_bad hr] at h0; cases h0
  | true =>
    cases hf : assoc s σ.names with
    | none => rw [named_no hr hf] at h0; cases h0
    | some f => rw [named_yes hr hf]; exact hk.names.files _ (assoc_some hf)
theorem file_calls (H : RIn w lab γ d σ on cn os cs om cm fb h) (hl : σ.names.length < 2 ^ 40) (s : Nm) :
    Calls Tryz.prog moraineref1_Disk_file.n #[.pointer (some ⟨d, 0, none⟩), .string s] w (fun e w' => w' = w ∧ ∃ o, e = .returned (.tuple #[.pointer o, .int .i64 (named σ s).2]) ∧ ((named σ s).2 = 0 → o = some ⟨fb (named σ s).1, 0, none⟩)) := by
  refine calls_gen fun R hR => moraineref1_Disk_file.vc _ _ _ _ ?_
  unfold moraineref1_Disk_file.Vc
  simp only [add_at, Nat.zero_add]
  refine (Name_calls w s).mono ?_
  rintro _ w1 ⟨rfl, rfl⟩
  refine ⟨_, rfl, fun hr => hR _ _ ⟨rfl, none, ?_, ?_⟩, fun hr => ⟨_, _, _, H.B.blk.rd1 rfl, ?_⟩⟩
  · rw [named_bad hr]
  · rw [named_bad hr]; intro h0; cases h0
  refine (find_calls H.R.names (by omega) s).mono ?_
  rintro _ w2 ⟨rfl, i, rfl, hF⟩
  refine ⟨_, rfl, fun hn => ?_, fun hn => ?_⟩
  · rcases hF with ⟨_, ha⟩ | ⟨j, x, rfl, _⟩
    · exact hR _ _ ⟨rfl, none, by rw [named_no hr ha], fun h0 => by rw [named_no hr ha] at h0; cases h0⟩
    · omega
  · rcases hF with ⟨rfl, ha⟩ | ⟨j, x, rfl, hj, hx, ha, hs⟩
    · omega
    · obtain ⟨b, f, rfl, _, _, hc⟩ := row_name H.R.names hx
      refine ⟨_, _, _, H.B.blk.rd1 rfl, _, rfl, by omega, _, by rw [add_at, add_at, Int.toNat_natCast]; exact hc, hR _ _ ⟨rfl, some ⟨fb x.2, 0, none⟩, ?_, ?_⟩⟩
      · rw [named_yes hr ha]
      · intro _; rw [named_yes hr ha]

theorem asked_calls' (hγ : ∀ a b, γ a = γ b → a = b) (H : RAt w lab γ d σ) (hn : Nums σ) (hl : σ.names.length < 2 ^ 40) (s : Nm) :
    Calls Tryz.prog moraineref1_Disk_asked.n #[.pointer (some ⟨d, 0, none⟩), .string s] w (fun e w' => ∃ lab' on cn os cs om cm fb h, RIn w' lab' γ d (begins σ).1 on cn os cs om cm fb h ∧ Stp (SR γ) w lab w' lab' ∧
      ∃ o n, e = .returned (.tuple #[.pointer o, .int .i64 n]) ∧ (n = if (begins σ).2 = 0 then (named (begins σ).1 s).2 else (begins σ).2) ∧ (n = 0 → o = some ⟨fb (named (begins σ).1 s).1, 0, none⟩)) := by
  refine calls_gen fun R hR => moraineref1_Disk_asked.vc _ _ _ _ ?_
  unfold moraineref1_Disk_asked.Vc
  refine (call_calls hγ H hn).mono ?_
  rintro _ w1 ⟨rfl, lab1, H1, s1⟩
  obtain ⟨on, cn, os, cs, om, cm, fb, h, H1⟩ := H1.in
  refine ⟨_, rfl, fun h0 => hR _ _ ⟨lab1, on, cn, os, cs, om, cm, fb, h, H1, s1, none, _, rfl, by rw [if_neg h0], fun h => (h0 h).elim⟩, fun h0 => ?_⟩
  have hb : (begins σ).1.names = σ.names := by
    unfold begins
    split
    · rfl
    · split <;> rfl
  refine (file_calls H1 (by rw [hb]; exact hl) s).mono ?_
  rintro _ w2 ⟨rfl, o, rfl, ho⟩
  exact ⟨_, _, rfl, hR _ _ ⟨lab1, on, cn, os, cs, om, cm, fb, h, H1, s1, o, _, rfl, by rw [if_pos h0], ho⟩⟩

theorem RUsed_calls (H : RIn w lab γ d σ on cn os cs om cm fb h) (hk : Ok σ) (hl : σ.names.length ≤ 1048576) :
    Calls Tryz.prog moraineref1_Disk_Used.n #[.pointer (some ⟨d, 0, none⟩)] w (fun e w' => e = .returned (.int .i64 (used σ : Int)) ∧ w' = w) := by
  refine calls_gen fun R hR => moraineref1_Disk_Used.vc _ _ _ ?_
  unfold moraineref1_Disk_Used.Vc
  simp only [add_at, Nat.zero_add]
  have bound : ∀ (l : List (Nm × Nat)), (∀ x ∈ l, (σ.fs x.2).bytes.length ≤ 67108864) → (l.map fun x => (σ.fs x.2).bytes.length).sum ≤ l.length * 67108864 := by
    intro l
    induction l with
    | nil => intro _; exact Nat.zero_le _
    | cons x r ih =>
      intro hx
      have h1 := hx x (List.mem_cons_self ..)
      have h2 := ih (fun y hy => hx y (List.mem_cons_of_mem _ hy))
      rw [List.map_cons, List.sum_cons, List.length_cons]
      omega
  replace bound : ∀ j, j ≤ σ.names.length → ((σ.names.take j).map fun x => (σ.fs x.2).bytes.length).sum ≤ j * 67108864 := fun j hj => by
    have := bound (σ.names.take j) (fun x hx => (hk.size x.2 (hk.names.files _ (List.mem_of_mem_take hx))).2)
    rwa [List.length_take, Nat.min_eq_left hj] at this
  refine ⟨fun u i w' => ∃ j : Nat, i = (j : Int) ∧ j ≤ σ.names.length ∧ w' = w ∧ u = ((((σ.names.take j).map fun x => (σ.fs x.2).bytes.length).sum : Nat) : Int), fun _ i _ => ((σ.names.length : Int) - i).toNat, ⟨0, rfl, Nat.zero_le _, rfl, rfl⟩, ?_⟩
  rintro _ _ _ _ ⟨j, rfl, hj, rfl, rfl⟩
  refine ⟨_, _, _, H.B.blk.rd1 rfl, fun hlt => ?_, fun hge => ?_⟩
  · have hjl : j < σ.names.length := by omega
    have hx := List.getElem?_eq_getElem hjl
    obtain ⟨b, f, rfl, _, _, hc⟩ := row_name H.R.names hx
    obtain ⟨o1, c1, o2, c2, o3, c3, ts, FC⟩ := H.R.files _ (hk.names.files _ (List.getElem_mem hjl))
    have hb := bound j (by omega)
    have hb1 := bound (j + 1) (by omega)
    have hst : ((σ.names.take (j + 1)).map fun x => (σ.fs x.2).bytes.length).sum = ((σ.names.take j).map fun x => (σ.fs x.2).bytes.length).sum + (σ.fs σ.names[j].2).bytes.length := by
      rw [List.take_add_one, List.map_append, List.sum_append, hx]; simp
    rw [hst] at hb1
    refine ⟨_, _, _, H.B.blk.rd1 rfl, _, rfl, by omega, _, by rw [add_at, add_at, Int.toNat_natCast]; exact hc, _, rfl, _, _, _, by rw [add_at, Nat.zero_add]; exact FC.cells.blk.rd1 rfl, ⟨j + 1, ?_, by omega, rfl, ?_⟩, ?_⟩
    · rw [wrap_i64_small (by omega) (by omega)]; omega
    · rw [hst, wrap_i64_small (by omega) (by omega)]; omega
    · dsimp only; rw [wrap_i64_small (by omega) (by omega)]; omega
  · obtain rfl : j = σ.names.length := by omega
    refine hR _ _ ⟨?_, rfl⟩
    rw [List.take_length]; rfl
theorem RRead_calls (H : RIn w lab γ d σ on cn os cs om cm fb h) (hk : Ok σ) (hl : σ.names.length ≤ 1048576) (s : Nm) :
    Calls Tryz.prog moraineref1_Disk_Read.n #[.pointer (some ⟨d, 0, none⟩), .string s] w (fun e w' => w' = w ∧ ∃ o k, e = .returned (.tuple #[.slice o (Disk.read σ s).1.length k, .int .i64 (Disk.read σ s).2]) ∧ (Disk.read σ s).1.length ≤ k ∧ CBy w lab (γ .froz) o (Disk.read σ s).1) := by
  refine calls_gen fun R hR => moraineref1_Disk_Read.vc _ _ _ _ ?_
  unfold moraineref1_Disk_Read.Vc
  simp only [add_at, Nat.zero_add]
  refine ⟨_, H.B.blk.rd1 rfl, fun hd => hR _ _ ⟨rfl, none, 0, ?_, ?_, ?_⟩, fun hd => ?_⟩
  · simp [Disk.read, Disk.asked, hd]
  · simp [Disk.read, Disk.asked, hd]
  · simp [Disk.read, Disk.asked, hd, CBy.nil]
  refine (file_calls H (by omega) s).mono ?_
  rintro _ w1 ⟨rfl, o, rfl, ho⟩
  have ha : Disk.asked σ s = named σ s := by simp [Disk.asked, hd]
  refine ⟨_, _, rfl, fun h0 => hR _ _ ⟨rfl, none, 0, ?_, ?_, ?_⟩, fun h0 => ?_⟩
  · simp [Disk.read, ha, h0]
  · simp [Disk.read, ha, h0]
  · simp [Disk.read, ha, h0, CBy.nil]
  · obtain ⟨o1, c1, o2, c2, o3, c3, ts, FC⟩ := H.R.files _ (named_file hk h0)
    refine ⟨_, ho h0, _, _, _, by rw [add_at, Nat.zero_add]; exact FC.cells.blk.rd1 rfl, hR _ _ ⟨rfl, o1, c1, ?_, ?_, ?_⟩⟩
    · simp only [Disk.read, ha, if_pos h0]
    · simp only [Disk.read, ha, if_pos h0]; exact FC.cap
    · simp only [Disk.read, ha, if_pos h0]; exact FC.bytes
theorem RReadAt_calls (H : RIn w lab γ d σ on cn os cs om cm fb h) (hk : Ok σ) (hl : σ.names.length ≤ 1048576) (s : Nm) (at_ n : Int) (hn : n < 2 ^ 62) :
    Calls Tryz.prog moraineref1_Disk_ReadAt.n #[.pointer (some ⟨d, 0, none⟩), .string s, .int .i64 at_, .int .i64 n] w (fun e w' => w' = w ∧ ∃ o k, e = .returned (.tuple #[.slice o (Disk.readAt σ s at_ n).1.length k, .int .i64 (Disk.readAt σ s at_ n).2]) ∧ CBy w lab (γ .froz) o (Disk.readAt σ s at_ n).1) := by
  refine calls_gen fun R hR => moraineref1_Disk_ReadAt.vc _ _ _ _ _ _ ?_
  unfold moraineref1_Disk_ReadAt.Vc
  refine (RRead_calls H hk hl s).mono ?_
  rintro _ w1 ⟨rfl, o, k, rfl, hk', hB⟩
  have hsz : (Disk.read σ s).1.length ≤ 67108864 := by
    unfold Disk.read
    split
    · rename_i h0
      have hlt : (Disk.asked σ s).1 < σ.files := by
        unfold Disk.asked at *
        split at h0
        · cases h0
        · rename_i hd
          simp only [if_neg hd]
          exact named_file hk h0
      exact (hk.size _ hlt).2
    · simp
  have bad : ∀ er, Disk.readAt σ s at_ n = ([], er) → R (.returned (.tuple #[.slice none 0 0, .int .i64 er])) w1 := by
    intro er he
    refine hR _ _ ⟨rfl, none, 0, ?_, ?_⟩
    · rw [he]; rfl
    · rw [he]; exact CBy.nil _ _ _ _
  refine ⟨_, _, _, _, rfl, fun h0 => bad _ (by unfold Disk.readAt; rw [if_neg h0]), fun h0 => ?_⟩
  have hp : ∀ (hc : at_ < 0 ∨ n < 0 ∨ at_ > (Disk.read σ s).1.length ∨ n > (Disk.read σ s).1.length - at_), R (.returned (.tuple #[.slice none 0 0, .int .i64 14])) w1 := fun hc =>
    bad _ (by unfold Disk.readAt; rw [if_pos h0, if_pos hc])
  refine ⟨fun h1 => hp (.inl h1), fun h1 => ⟨fun h2 => hp (.inr (.inl h2)), fun h2 => ⟨fun h3 => hp (.inr (.inr (.inl h3))), fun h3 => ?_⟩⟩⟩
  rw [show IntKind.wrap .i64 (((Disk.read σ s).1.length : Nat) - at_) = ((Disk.read σ s).1.length : Int) - at_ from wrap_i64_small (by omega) (by omega)]
  refine ⟨fun h4 => hp (.inr (.inr (.inr h4))), fun h4 => ?_⟩
  rw [show IntKind.wrap .i64 (at_ + n) = at_ + n from wrap_i64_small (by omega) (by omega)]
  refine ⟨by omega, by omega, hR _ _ ?_⟩
  have he : Disk.readAt σ s at_ n = (((Disk.read σ s).1.drop at_.toNat).take n.toNat, 0) := by
    unfold Disk.readAt
    rw [if_pos h0, if_neg (by omega)]
  have hlen : (at_ + n).toNat - at_.toNat = (((Disk.read σ s).1.drop at_.toNat).take n.toNat).length := by
    rw [List.length_take, List.length_drop]; omega
  refine ⟨rfl, subO o k at_.toNat 1, k - at_.toNat, ?_, ?_⟩
  · rw [he, hlen]
  · rw [he]; exact hB.sub hk'
end
end Go.Proofs.YtkekehngillblaaGreat
end

section
set_option linter.unusedVariables false
set_option linter.unusedSimpArgs false
namespace Go.Vcg
theorem Fresh.from' {w w0 w1 : World} {e : TypeId} {sz : Nat} {o : Option Addr} {l c : Nat} {xs : List Value} (h : Fresh w0 w1 e sz o l c xs) (M : Mod NoB w w0) : Fresh w w1 e sz o l c xs :=
  ⟨h.own, M.trans h.mod (fun _ _ h => h), fun k hk => Nat.le_trans M.size (h.new k hk)⟩
end Go.Vcg
namespace Go.Disk
open Go.Vcg
theorem without_none {l : List (Nm × Nat)} {s : Nm} (h : assoc s l = none) : without s l = l := by
  unfold without
  rw [List.filter_eq_self]
  intro x hx
  induction l with
  | nil => cases hx
  | cons y r ih =>
    rw [assoc] at h
    split at h
    · cases h
    · rename_i hne
      rcases List.mem_cons.1 hx with rfl | hx
      · simpa using hne
      · exact ih h hx
theorem without_le (l : List (Nm × Nat)) (s : Nm) : (without s l).length ≤ l.length := List.length_filter_le _ _
end Go.Disk
namespace Go.Proofs.YtkekehngillblaaGreat
open Go Go.Vcg Go.Disk
section
variable {C : Type} {w w' : World} {lab lab' : Nat → C} {c : C} {fb : Nat → Nat} {l : List (Nm × Nat)} {o : Option Addr} {k : Nat}

theorem done_calls (h : CRow w lab c o (nmC fb l)) (hl : l.length < 2 ^ 39) (hk : l.length ≤ k) (ch : Chg) (hren : ∀ a b, ch = .ren a b → b ≠ ⟨#[]⟩) :
    Calls Tryz.prog moraineref1_done.n #[.slice o l.length k, .agg #[(mvT fb ch).1, (mvT fb ch).2.1, (mvT fb ch).2.2]] w (fun e w' => ∃ o' k', e = .returned (.slice o' (ch.on l).length k') ∧ (ch.on l).length ≤ k' ∧ Vcg.Mod NoB w w' ∧ CRow w' (ext lab w.heap.size c) c o' (nmC fb (ch.on l))) := by
  have key : ∀ (s1 s2 : Nm) (o3 : Option Addr), (mvT fb ch) = (.string s1, .string s2, .pointer o3) →
      Calls Tryz.prog moraineref1_done.n #[.slice o l.length k, .agg #[.string s1, .string s2, .pointer o3]] w (fun e w' => ∃ o' k', e = .returned (.slice o' (ch.on l).length k') ∧ (ch.on l).length ≤ k' ∧ Vcg.Mod NoB w w' ∧ CRow w' (ext lab w.heap.size c) c o' (nmC fb (ch.on l))) := by
    intro s1 s2 o3 hmv
    refine calls_gen fun R hR => moraineref1_done.vc _ _ _ _ _ _ _ _ ?_
    unfold moraineref1_done.Vc
    rintro d4 w1 ⟨rfl, rfl⟩
    have X1 := Blk.new w 90 #[.string s1, .string s2, .pointer o3]
    have M1 : Vcg.Mod NoB w (w.alloc (.cells #[.string s1, .string s2, .pointer o3] 90)) := Mod.alloc _ _
    generalize w.alloc (.cells #[.string s1, .string s2, .pointer o3] 90) = w1 at *
    generalize w.heap.size = D4 at X1
    simp only [add_at, Nat.zero_add]
    have row : ∀ {w' : World}, Vcg.Mod NoB w w' → CRow w' (ext lab w.heap.size c) c o (nmC fb l) := fun M => h.stp (Stp.of_nob (S := fun _ => False) M c) (fun h => h)
    have fin : ∀ {w' : World} {o' : Option Addr} {n k' : Nat} {l' : List (Nm × Nat)}, Fresh w w' tNm 2 o' n k' (nmC fb l') → n = l'.length → l' = ch.on l → R (.returned (.slice o' n k')) w' := by
      intro w' o' n k' l' F hn hl'
      subst hl' hn
      exact hR _ _ ⟨o', k', rfl, F.own.cap.1, F.mod, (F.done c).1.row⟩
    refine ⟨_, X1.rd1 rfl, fun hp => ?_, fun hp => ?_⟩
    · -- a file: it is made
      obtain ⟨n, f, rfl⟩ : ∃ n f, ch = .made n f := by
        cases ch with
        | made n f => exact ⟨n, f, rfl⟩
        | ren a b => simp only [mvT, Prod.mk.injEq, Value.pointer.injEq] at hmv; exact (hp hmv.2.2.symm).elim
        | rem a => simp only [mvT, Prod.mk.injEq, Value.pointer.injEq] at hmv; exact (hp hmv.2.2.symm).elim
      simp only [mvT, fileV, Prod.mk.injEq, Value.pointer.injEq, Value.string.injEq] at hmv
      obtain ⟨rfl, rfl, rfl⟩ := hmv
      rintro _ rfl
      have X2 := X1.mod' (Mod.drew (S := NoB) w1)
      have M2 := M1.step_drew
      generalize w1.drew = w2 at *
      have hwl := without_le l n
      refine ⟨_, X2.rd1 rfl, _, X2.rd1 rfl, _, X2.rd1 rfl, ?_, ?_⟩
      · refine (without_calls (k := k) (row M2) (by omega) n).mono ?_
        rintro _ w3 ⟨o3, k3, rfl, F3⟩
        have X3 := X2.mod' F3.mod
        refine ⟨_, _, _, rfl, X3.rd1 rfl, X3.rd1 rfl, ?_⟩
        rintro d w4 ⟨rfl, rfl⟩
        obtain ⟨o5, c5, w5, hr5, F5⟩ := push_name (o' := none) (F3.mod' (Mod.alloc (S := NoB) w3 (.cells #[.string n, fileV fb f] 92))) (Blk.new w3 92 #[.string n, fileV fb f]) (by omega)
        refine ⟨_, w5, hr5, _, _, _, rfl, fin (l' := put n f l) (F5.from' M2 |> fun F => ?_) ?_ rfl⟩
        · unfold put; rw [nmC_append]; exact F
        · unfold put; rw [List.length_append]; rfl
      · rintro d w3 ⟨rfl, rfl⟩
        have B3 := Blk.new w2 92 #[.string n, fileV fb f]
        have M23 := Mod.alloc (S := NoB) w2 (.cells #[.string n, fileV fb f] 92)
        have M3 := M2.trans M23 (fun _ _ h => h)
        have X3 := X2.mod' M23
        refine ⟨X3.rd1 rfl, ?_⟩
        change Calls Tryz.prog 67 _ (w2.alloc (.cells #[.string n, fileV fb f] 92)) _
        generalize w2.alloc (.cells #[.string n, fileV fb f] 92) = w3 at *
        refine (without_calls (k := k) (row M3) (by omega) n).mono ?_
        rintro _ w4 ⟨o4, k4, rfl, F4⟩
        obtain ⟨o5, c5, w5, hr5, F5⟩ := push_name (o' := none) F4 (B3.mod' F4.mod) (by omega)
        refine ⟨_, _, _, rfl, _, w5, hr5, _, _, _, rfl, fin (l' := put n f l) (F5.from' M3 |> fun F => ?_) ?_ rfl⟩
        · unfold put; rw [nmC_append]; exact F
        · unfold put; rw [List.length_append]; rfl
    · -- no file: a new name, or none
      subst hp
      refine ⟨_, X1.rd1 rfl, ?_⟩
      refine (find_calls (k := k) (row M1) (by omega) s1).mono ?_
      rintro _ w2 ⟨rfl, i, rfl, hF⟩
      refine ⟨_, rfl, fun hn => ?_, fun hn => ?_⟩
      · rcases hF with ⟨_, ha⟩ | ⟨j, x, rfl, _⟩
        · have hon : ch.on l = l := by
            cases ch with
            | made n f => simp only [mvT, fileV, Prod.mk.injEq, Value.pointer.injEq] at hmv; cases hmv.2.2
            | ren a b =>
              simp only [mvT, Prod.mk.injEq, Value.string.injEq] at hmv
              obtain ⟨rfl, rfl, _⟩ := hmv
              simp only [Chg.on, ha]
            | rem a =>
              simp only [mvT, Prod.mk.injEq, Value.string.injEq] at hmv
              obtain ⟨rfl, _⟩ := hmv
              exact without_none ha
          exact hR _ _ ⟨o, k, by rw [hon], by rw [hon]; exact hk, M1, by rw [hon]; exact row M1⟩
        · omega
      · rcases hF with ⟨rfl, _⟩ | ⟨j, x, rfl, hj, hx, ha, hxs⟩
        · omega
        obtain ⟨b, f, rfl, _, _, hc⟩ := row_name (row M1) hx
        refine ⟨_, rfl, by omega, _, by rw [add_at, add_at, Int.toNat_natCast]; exact hc, _, X1.rd1 rfl, ?_⟩
        have hwl := without_le l s1
        refine (without_calls (k := k) (row M1) (by omega) s1).mono ?_
        rintro _ w3 ⟨o3, k3, rfl, F3⟩
        have X3 := X1.mod' F3.mod
        have M3 := M1.trans F3.mod (fun _ _ h => h)
        refine ⟨_, _, _, rfl, _, X3.rd1 rfl, fun he => ?_, fun he => ?_⟩
        · -- a new name
          have hs2 : s2 ≠ ⟨#[]⟩ := by
            rintro rfl
            simp [strB] at he
          obtain ⟨rfl⟩ : ch = .ren s1 s2 := by
            cases ch with
            | made n f => simp only [mvT, fileV, Prod.mk.injEq, Value.pointer.injEq] at hmv; cases hmv.2.2
            | ren a b =>
              simp only [mvT, Prod.mk.injEq, Value.string.injEq] at hmv
              obtain ⟨rfl, rfl, _⟩ := hmv
              rfl
            | rem a =>
              simp only [mvT, Prod.mk.injEq, Value.string.injEq] at hmv
              exact (hs2 hmv.2.1.symm).elim
          have hon : Chg.on l (.ren s1 s2) = put s2 x.2 (Disk.without s1 l) := by simp only [Chg.on, ha]
          have hwl2 := without_le (Disk.without s1 l) s2
          rintro _ rfl
          have X4 := X3.mod' (Mod.drew (S := NoB) w3)
          have M4 := M3.step_drew
          have F4 := (F3.from' M1).mod' (Mod.drew (S := NoB) w3)
          have row4 := ((F4.done (lab := lab) c).1).row
          generalize w3.drew = w4 at *
          refine ⟨_, X4.rd1 rfl, _, X4.rd1 rfl, ?_, ?_⟩
          · refine (without_calls (k := k3) row4 (by omega) s2).mono ?_
            rintro _ w5 ⟨o5, k5, rfl, F5⟩
            have X5 := X4.mod' F5.mod
            refine ⟨_, _, _, rfl, X5.rd1 rfl, ?_⟩
            rintro d w6 ⟨rfl, rfl⟩
            obtain ⟨o7, c7, w7, hr7, F7⟩ := push_name (o' := none) (F5.mod' (Mod.alloc (S := NoB) w5 (.cells #[.string s2, fileV fb x.2] 92))) (Blk.new w5 92 #[.string s2, fileV fb x.2]) (by omega)
            refine ⟨_, w7, hr7, _, _, _, rfl, fin (l' := put s2 x.2 (Disk.without s1 l)) (F7.from' M4 |> fun F => ?_) ?_ hon.symm⟩
            · unfold put; rw [nmC_append]; exact F
            · unfold put; rw [List.length_append]; rfl
          · rintro d w5 ⟨rfl, rfl⟩
            have B5 := Blk.new w4 92 #[.string s2, fileV fb x.2]
            have M45 := Mod.alloc (S := NoB) w4 (.cells #[.string s2, fileV fb x.2] 92)
            have M5 := M4.trans M45 (fun _ _ h => h)
            have X5 := X4.mod' M45
            have row5 := row4.stp (Stp.of_nob (S := fun _ => False) M45 c) (fun h => h)
            refine ⟨X5.rd1 rfl, ?_⟩
            change Calls Tryz.prog 67 _ (w4.alloc (.cells #[.string s2, fileV fb x.2] 92)) _
            generalize w4.alloc (.cells #[.string s2, fileV fb x.2] 92) = w5 at *
            refine (without_calls (k := k3) row5 (by omega) s2).mono ?_
            rintro _ w6 ⟨o6, k6, rfl, F6⟩
            obtain ⟨o7, c7, w7, hr7, F7⟩ := push_name (o' := none) F6 (B5.mod' F6.mod) (by omega)
            refine ⟨_, _, _, rfl, _, w7, hr7, _, _, _, rfl, fin (l' := put s2 x.2 (Disk.without s1 l)) (F7.from' M5 |> fun F => ?_) ?_ hon.symm⟩
            · unfold put; rw [nmC_append]; exact F
            · unfold put; rw [List.length_append]; rfl
        · have hs2 : s2 = ⟨#[]⟩ := by
            have h1 : strB .neq s2 ⟨#[]⟩ = !(strB .eql s2 ⟨#[]⟩) := by simp [strB]
            rw [h1, strB_eql] at he
            exact (nm_eq _ _).1 (of_decide_eq_true (Bool.not_eq_false' .. ▸ he))
          obtain ⟨rfl⟩ : ch = .rem s1 := by
            cases ch with
            | made n f => simp only [mvT, fileV, Prod.mk.injEq, Value.pointer.injEq] at hmv; cases hmv.2.2
            | ren a b =>
              simp only [mvT, Prod.mk.injEq, Value.string.injEq] at hmv
              exact (hren a b rfl (hmv.2.1.trans hs2)).elim
            | rem a =>
              simp only [mvT, Prod.mk.injEq, Value.string.injEq] at hmv
              obtain ⟨rfl, _⟩ := hmv; rfl
          exact fin (F3.from' M1) rfl rfl
  cases ch with
  | made n f => exact key _ _ _ rfl
  | ren a b => exact key _ _ _ rfl
  | rem a => exact key _ _ _ rfl
end
end Go.Proofs.YtkekehngillblaaGreat
end

section
set_option linter.unusedVariables false
set_option linter.unusedSimpArgs false
namespace Go.Proofs.YtkekehngillblaaGreat
open Go Go.Vcg Go.Disk
section
variable {C : Type} {w w' : World} {lab lab' : Nat → C} {c : C} {γ : RC → C} {d : Nat} {σ τ : Dk}
variable {on os om : Option Addr} {cn cs cm : Nat} {fb : Nat → Nat} {h : Int}

/-- The colours of one file. -/
def TF (γ : RC → C) (n : Nat) (c : C) : Prop := c = γ (.file n) ∨ c = γ (.pend n)
theorem TF.sr {n : Nat} : ∀ c, TF γ n c → SR γ c := fun c h => by rcases h with rfl | rfl <;> exact SR.of (by simp)
theorem TF.ne (hγ : ∀ a b, γ a = γ b → a = b) {n : Nat} {x : RC} (h1 : x ≠ .file n) (h2 : x ≠ .pend n) : ¬ TF γ n (γ x) := by
  rintro (h | h)
  · exact h1 (hγ _ _ h)
  · exact h2 (hγ _ _ h)
theorem RIn.putF (hγ : ∀ a b, γ a = γ b → a = b) (H : RIn w lab γ d τ on cn os cs om cm fb h) {n : Nat} (s : Stp (TF γ n) w lab w' lab') {f : Fl} (hf : RFAt w' lab' γ n (fb n) f) : RIn w' lab' γ d (setF τ n f) on cn os cs om cm fb h := by
  have ne : ∀ {x : RC}, x ≠ .file n → x ≠ .pend n → ¬ TF γ n (γ x) := TF.ne hγ
  refine ⟨H.halt, H.B.stp s (ne (by simp) (by simp)), ⟨H.R.ncap, H.R.names.stp s (ne (by simp) (by simp)), H.R.sure.stp s (ne (by simp) (by simp)), H.R.pend.stp s (ne (by simp) (by simp)), fun k hk => ?_⟩⟩
  show RFAt w' lab' γ k (fb k) (if k = n then f else τ.fs k)
  by_cases hkn : k = n
  · subst hkn; rw [if_pos rfl]; exact hf
  · rw [if_neg hkn]
    exact (H.R.files k hk).stp s (ne (by simpa using hkn) (by simp)) (ne (by simp) (by simpa using hkn)) (ne (by simp) (by simp))
/-- One more change that is pending. -/
theorem push_cg {n : Nat} {o : Option Addr} {l k : Nat} {ts : List (Value × Value × Value)} {t : Value × Value × Value} (h : COw w lab c tCg 3 o l k (cells3 ts)) {b ty : Nat} (B : Blk w b ty #[t.1, t.2.1, t.2.2]) (h1 : t.1.oneCell' = true ∧ t.2.1.oneCell' = true ∧ t.2.2.oneCell' = true) (hl : l < 2 ^ 40) :
    ∃ o' c' w', Sem.run Tryz.prog (builtinV .append #[tSlCg, tSlCg] tSlCg #[.slice o l k, .slice (some ⟨b, 0, none⟩) 1 1]) w = .ok (.slice o' (l + 1) c') w' ∧ COw w' (ext lab w.heap.size c) c tCg 3 o' (l + 1) c' (cells3 (ts ++ [t])) ∧ Stp (· = c) w lab w' (ext lab w.heap.size c) := by
  obtain ⟨i, hi, hz, hs, hb⟩ := info_of info_cg
  rw [cells3_append]
  exact h.append und_slCg hi hz hs rfl (src_one und_slCg B rfl (by simp [h1])) (by simp only [maxLen]; omega) (by rw [hb]; omega)

theorem write_calls' (hγ : ∀ a b, γ a = γ b → a = b) (H : RIn w lab γ d τ on cn os cs om cm fb h) (hk : Ok τ) (hl : τ.names.length ≤ 1048576) (hc : τ.count < 2 ^ 40) {n : Nat} (hn : n < τ.files) (a : Nat) (ha : a ≤ (τ.fs n).bytes.length)
    {o : Option Addr} {k : Nat} {b : List UInt8} {cb : C} (hb : CBy w lab cb o b) (hcb : ¬ SR γ cb) (hbl : b.length ≤ 2 ^ 60) :
    Calls Tryz.prog moraineref1_Disk_write.n #[.pointer (some ⟨d, 0, none⟩), .pointer (some ⟨fb n, 0, none⟩), .int .i64 (a : Int), .slice o b.length k] w (fun e w' => e = .returned (.int .i64 (Disk.write τ n a b).2) ∧ RRes γ d w lab w' (Disk.write τ n a b).1) := by
  have hsz := (hk.size n hn).2
  have hcap := hk.cap
  have hu := used_le hk
  have hpl := hk.pends n hn
  simp only [most] at hsz hcap
  refine calls_gen fun R hR => moraineref1_Disk_write.vc _ _ _ _ _ _ _ _ ?_
  unfold moraineref1_Disk_write.Vc
  simp only [add_at, Nat.zero_add]
  obtain ⟨o1, c1, o2, c2, o3, c3, ts, FC⟩ := H.R.files n hn
  refine ⟨_, _, _, FC.cells.blk.rd1 rfl, ?_⟩
  have e1 : IntKind.wrap .i64 ((a : Int) + ((b.length : Nat) : Int)) = ((a + b.length : Nat) : Int) := by rw [wrap_i64_small (by omega) (by omega)]; omega
  rw [e1]
  generalize hmore : IntKind.wrap .i64 (((a + b.length : Nat) : Int) - (((τ.fs n).bytes.length : Nat) : Int)) = more
  have hmore' : more = (a : Int) + b.length - (τ.fs n).bytes.length := by rw [← hmore, wrap_i64_small (by omega) (by omega)]; omega
  clear hmore e1
  have hw : Disk.write τ n a b = (if more > 0 ∧ more > τ.cap - used τ then (τ, 15) else if b = [] then (τ, 0) else (setF τ n { τ.fs n with bytes := lay (τ.fs n).bytes a b, pend := (τ.fs n).pend ++ [.wr a b] }, 0)) := by
    unfold Disk.write; rw [hmore']
  refine ⟨fun w' => w' = w.drew ∧ ¬ (more > 0 ∧ more > τ.cap - used τ), ?_, ?_⟩
  · rintro _ rfl
    have H8 := H.stp (Stp.drew NoC w lab) (fun _ h => h)
    refine ⟨fun h0 => ⟨_, H8.B.blk.rd1 rfl, ?_⟩, fun h0 => ⟨rfl, fun h => h0 h.1⟩⟩
    refine (RUsed_calls H8 hk hl).mono ?_
    rintro _ w2 ⟨rfl, rfl⟩
    refine ⟨_, rfl, H8.B.blk.rd1 rfl, ?_⟩
    rw [show IntKind.wrap .i64 ((used τ : Int) + more) = used τ + more from wrap_i64_small (by omega) (by omega)]
    refine ⟨fun h1 => hR _ _ ?_, fun h1 => ⟨rfl, fun h => by omega⟩⟩
    rw [hw, if_pos ⟨h0, by omega⟩]
    exact ⟨rfl, H.at.res (Mod.drew w)⟩
  · rintro _ w8 ⟨rfl, hno⟩
    have s0 : Stp (TF γ n) w lab w.drew lab := Stp.drew _ _ _
    refine ⟨fun h0 => hR _ _ ?_, fun h0 => ?_⟩
    · have : b = [] := List.eq_nil_of_length_eq_zero (by omega)
      rw [hw, if_neg hno, if_pos this]
      exact ⟨rfl, H.at.res (Mod.drew w)⟩
    have hbne : b ≠ [] := by rintro rfl; simp at h0
    rw [hw, if_neg hno, if_neg hbne] at hR
    clear hw
    have sN : Stp NoC w lab w.drew lab := Stp.drew _ _ _
    obtain ⟨f1, f2, f3, f4, f5, f6⟩ := FC
    replace f1 := f1.stp sN (fun h => h)
    replace f3 := f3.stp sN (fun h => h)
    replace f4 := f4.stp sN (fun h => h)
    replace f5 := f5.stp sN (fun h => h)
    replace f6 := f6.stp sN (fun h => h)
    replace hb := hb.stp sN (fun h => h)
    clear sN
    have H0 := H
    generalize w.drew = w8 at *
    refine ⟨_, _, _, f1.blk.rd1 rfl, ?_⟩
    refine (lay_calls (k2 := k) f3.rd hb.rd a ha (by omega) (by omega)).mono ?_
    rintro _ w18 ⟨o18, k18, rfl, F18⟩
    have hk18 := F18.own.cap.1
    obtain ⟨C18, s18⟩ := F18.done (lab := lab) (γ .froz)
    replace C18 := C18.bytes
    have nf : ∀ {x : RC}, x ≠ .file n → x ≠ .pend n → ¬ TF γ n (γ x) := TF.ne hγ
    have ncb : ¬ TF γ n cb := fun h => hcb (TF.sr _ h)
    replace f1 := f1.stp s18 (fun h => h)
    replace f4 := f4.stp s18 (fun h => h)
    replace f5 := f5.stp s18 (fun h => h)
    replace f6 := f6.stp s18 (fun h => h)
    replace hb := hb.stp s18 (fun h => h)
    replace s0 := s0.trans (s18.mono (T := TF γ n) (fun _ h => h.elim))
    generalize ext lab w8.heap.size (γ .froz) = lab18 at *
    clear F18 s18 f3
    refine ⟨_, _, _, rfl, f1.blk.canSet (by simp) rfl, ?_⟩
    rintro _ rfl
    obtain ⟨g1, s22⟩ := rset f1 (Stp.refl (· = γ (.file n)) w18 lab18) rfl 1 (.slice o18 (lay (τ.fs n).bytes a b).length k18) rfl
    have nF : ∀ {x : RC}, x ≠ .file n → ¬ γ x = γ (.file n) := fun h e => h (hγ _ _ e)
    replace f4 := f4.stp s22 (nF (by simp))
    replace f5 := f5.stp s22 (nF (by simp))
    replace f6 := f6.stp s22 (nF (by simp))
    replace C18 := C18.stp s22 (nF (by simp))
    replace hb := hb.stp s22 (fun e => ncb (.inl e))
    replace s0 := s0.trans (s22.mono (T := TF γ n) (fun c h => .inl h))
    generalize w18.setCell ⟨fb n, 1, none⟩ (.slice o18 (lay (τ.fs n).bytes a b).length k18) = w22 at *
    clear s22 f1
    rintro _ rfl
    have sD : Stp NoC w22 lab18 w22.drew lab18 := Stp.drew _ _ _
    replace g1 := g1.stp sD (fun h => h)
    replace f4 := f4.stp sD (fun h => h)
    replace f5 := f5.stp sD (fun h => h)
    replace f6 := f6.stp sD (fun h => h)
    replace C18 := C18.stp sD (fun h => h)
    replace hb := hb.stp sD (fun h => h)
    replace s0 := s0.trans (sD.mono (T := TF γ n) (fun _ h => h.elim))
    generalize w22.drew = w23 at *
    clear sD
    refine ⟨_, _, _, g1.blk.rd1 rfl, ?_⟩
    obtain ⟨o28, k28, w28, hr28, F28⟩ := copy_bytes' (k2 := k) (ty := tSlU8) (Mod.refl w23) hb.rd (by omega)
    refine ⟨_, w28, hr28, _, _, _, rfl, ?_⟩
    have hk28 := F28.own.cap.1
    obtain ⟨C28, s28⟩ := F28.done (lab := lab18) (γ .froz)
    replace C28 := C28.bytes
    replace g1 := g1.stp s28 (fun h => h)
    replace f4 := f4.stp s28 (fun h => h)
    replace f5 := f5.stp s28 (fun h => h)
    replace f6 := f6.stp s28 (fun h => h)
    replace C18 := C18.stp s28 (fun h => h)
    replace s0 := s0.trans (s28.mono (T := TF γ n) (fun _ h => h.elim))
    generalize ext lab18 w23.heap.size (γ .froz) = lab28 at *
    clear F28 s28
    refine ⟨g1.blk.rd1 rfl, ?_⟩
    rintro d32 w33 ⟨rfl, rfl⟩
    have X := Blk.new w28 tCg #[.int .i64 (a : Int), .slice o28 b.length k28, .int .i64 0]
    have s33 : Stp NoC w28 lab28 (w28.alloc (.cells #[.int .i64 (a : Int), .slice o28 b.length k28, .int .i64 0] tCg)) (ext lab28 w28.heap.size (γ .froz)) := Stp.alloc _ _ _ _ _
    replace g1 := g1.stp s33 (fun h => h)
    replace f4 := f4.stp s33 (fun h => h)
    replace f5 := f5.stp s33 (fun h => h)
    replace f6 := f6.stp s33 (fun h => h)
    replace C18 := C18.stp s33 (fun h => h)
    replace C28 := C28.stp s33 (fun h => h)
    replace s0 := s0.trans (s33.mono (T := TF γ n) (fun _ h => h.elim))
    refine ⟨g1.blk.rd1 rfl, ?_⟩
    change ∃ v w35, Sem.run Tryz.prog _ (w28.alloc (.cells #[.int .i64 (a : Int), .slice o28 b.length k28, .int .i64 0] tCg)) = _ ∧ _
    generalize w28.alloc (.cells #[.int .i64 (a : Int), .slice o28 b.length k28, .int .i64 0] tCg) = w33 at *
    generalize ext lab28 w28.heap.size (γ .froz) = lab33 at *
    clear s33
    obtain ⟨o35, k35, w35, hr35, p35, s35⟩ := push_cg (n := 0) f5 (t := (.int .i64 (a : Int), .slice o28 b.length k28, .int .i64 0)) X ⟨rfl, rfl, rfl⟩ (by omega)
    refine ⟨_, w35, hr35, _, _, _, rfl, ?_⟩
    have nP : ∀ {x : RC}, x ≠ .pend n → ¬ γ x = γ (.pend n) := fun h e => h (hγ _ _ e)
    replace g1 := g1.stp s35 (nP (by simp))
    replace f4 := f4.stp s35 (nP (by simp))
    replace f6 := f6.stp s35 (nP (by simp))
    replace C18 := C18.stp s35 (nP (by simp))
    replace C28 := C28.stp s35 (nP (by simp))
    replace s0 := s0.trans (s35.mono (T := TF γ n) (fun c h => .inr h))
    generalize ext lab33 w33.heap.size (γ (.pend n)) = lab35 at *
    clear s35 X f5
    refine ⟨g1.blk.canSet (by simp) rfl, ?_⟩
    rintro _ rfl
    obtain ⟨g2, s39⟩ := rset g1 (Stp.refl (· = γ (.file n)) w35 lab35) rfl 3 (.slice o35 ((τ.fs n).pend.length + 1) k35) rfl
    replace f4 := f4.stp s39 (nF (by simp))
    replace f6 := f6.stp s39 (nF (by simp))
    replace p35 := p35.stp s39 (nF (by simp))
    replace C18 := C18.stp s39 (nF (by simp))
    replace C28 := C28.stp s39 (nF (by simp))
    replace s0 := s0.trans (s39.mono (T := TF γ n) (fun c h => .inl h))
    refine hR _ _ ⟨rfl, lab35, (H0.putF hγ s0 ?_).at, s0.mono TF.sr⟩
    have e2 : ((τ.fs n).pend ++ [Pt.wr a b]).length = (τ.fs n).pend.length + 1 := by simp
    refine ⟨o18, k18, o2, c2, o35, k35, ts ++ [(.int .i64 (a : Int), .slice o28 b.length k28, .int .i64 0)], ?_, hk18, C18, f4, ?_, f6.snoc ⟨o28, k28, rfl, hk28, C28⟩⟩
    · simp only [e2]; exact g2
    · simp only [e2]; exact p35
end
end Go.Proofs.YtkekehngillblaaGreat
end
