/- The program's disk in memory: the names in order. -/
import Derived.Test.YtkekehngillblaaDL1
import Derived.Test.YtkekehngillblaaDN
set_option linter.unusedVariables false
set_option linter.unusedSimpArgs false
namespace Go.Disk
open Go.Vcg
/-- Names in order. -/
def inOrder (l : List (List UInt8)) : List (List UInt8) := l.mergeSort (fun x y => decide (x ≤ y))
def namesOf (d : Dk) : List (List UInt8) := inOrder (d.names.map fun x => x.1.data.toList)
theorem leB_trans (a b c : List UInt8) (h1 : decide (a ≤ b) = true) (h2 : decide (b ≤ c) = true) : decide (a ≤ c) = true := by
  simp only [decide_eq_true_eq] at *
  exact List.le_trans h1 h2
theorem leB_total (a b : List UInt8) : (decide (a ≤ b) || decide (b ≤ a)) = true := by
  simp only [Bool.or_eq_true, decide_eq_true_eq]
  exact List.le_total a b
theorem inOrder_perm {l l' : List (List UInt8)} (h : l.Perm l') : inOrder l = inOrder l' := by
  refine List.Perm.eq_of_pairwise (le := fun x y => decide (x ≤ y) = true) ?_ (List.pairwise_mergeSort leB_trans leB_total l) (List.pairwise_mergeSort leB_trans leB_total l') ?_
  · intro a b _ _ h1 h2
    simp only [decide_eq_true_eq] at h1 h2
    exact List.le_antisymm h1 h2
  · exact ((List.mergeSort_perm _ _).trans h).trans (List.mergeSort_perm _ _).symm
end Go.Disk
namespace Go.Proofs.Ytkekehngillblaa
open Go Go.Vcg Go.Disk Go.Maps
open Go.WideElems (Fit rd rg rd_mk rg_of)

section
variable {C : Type} {w w' : World} {lab lab' : Nat → C} {γ : DC → C} {d : Nat} {σ : Dk} {c : C}
/-- A map of names, to the shelf's eyes. -/
theorem names_own {m : Nat} {es : List (Nm × Value)} (h : CM NmGood Value.string w lab c m es) (hl : es.length ≤ maxLen) :
    ∃ D : DataW Unit, w.ownsMap Try.prog tStr (fun _ => some (.lit (.bool true), [])) m es.length D ∧ (strKeys D).Perm (es.map fun x => x.1.data.toList) ∧ Maps.size D = es.length := by
  obtain ⟨A, clock, h1, h2, h3, h4⟩ := h.map
  have hA : A.size = es.length := by
    have := congrArg List.length h3
    simpa using this
  have hr : ∀ x ∈ A.toList, ∃ s : Nm, x.key = .string s ∧ rd (H := Unit) Try.prog tStr (fun _ => some (.lit (.bool true), [])) x = some (.string s.data.toList, .lit (.bool true)) := by
    intro x hx
    have hm : cellE x ∈ es.map (dec Value.string) := by rw [← h3]; exact List.mem_map_of_mem hx
    obtain ⟨y, hy, he⟩ := List.mem_map.1 hm
    have hk : x.key = .string y.1 := (congrArg Prod.fst he).symm
    refine ⟨y.1, hk, ?_⟩
    obtain ⟨k, v, b⟩ := x
    simp only at hk
    subst hk
    exact rd_mk (yv := (.lit (.bool true), [])) (Go.WideMaps.keyOf_string_mk und_str (h4 y hy)) rfl
  refine ⟨_, ⟨A, clock, h1, ⟨by rw [hA]; exact hl, h2, fun x hx => let ⟨_, _, e⟩ := hr x hx; ⟨_, e⟩⟩, Nat.le_of_eq hA, rfl⟩, ?_, ?_⟩
  · have p := (Go.WideShapes.sorted_perm (A.toList.map (rg (H := Unit) Try.prog tStr (fun _ => some (.lit (.bool true), [])))))
    refine (p.map fun q => strOf q.1).trans (List.Perm.of_eq ?_)
    have e : (A.toList.map cellE).map (fun q => strOf ((keyOf Try.prog tStr q.1).getD (.bool false))) = (es.map (dec Value.string)).map (fun q => strOf ((keyOf Try.prog tStr q.1).getD (.bool false))) := by rw [h3]
    rw [List.map_map, List.map_map] at e
    rw [List.map_map]
    rw [show es.map (fun x => x.1.data.toList) = es.map ((fun q : Value × Value => strOf ((keyOf Try.prog tStr q.1).getD (.bool false))) ∘ dec Value.string) from ?_, ← e]
    · refine List.map_congr_left fun x hx => ?_
      obtain ⟨s, hk, hs⟩ := hr x hx
      simp only [Function.comp, rg_of hs, cellE, Go.WideElems.rd_key hs, Option.getD_some]
    · refine List.map_congr_left fun x hx => ?_
      simp only [Function.comp, dec, Go.WideMaps.keyOf_string_mk und_str (h4 x hx), Option.getD_some, strOf]
  · show List.length _ = _
    rw [(Go.WideShapes.sorted_perm _).length_eq, List.length_map, Array.length_toList, hA]

/-- A row of strings that can be read. -/
def RdT (w : World) (o : Option Addr) (ls : List (List UInt8)) : Prop :=
  ∀ i, i < ls.length → ∃ b f, o = some ⟨b, f, none⟩ ∧ b < w.heap.size ∧ w.cell? ⟨b, f + i, none⟩ = some (.string ⟨(ls.getD i []).toArray⟩)
theorem RdT.mod {o : Option Addr} {ls : List (List UInt8)} (h : RdT w o ls) (m : Vcg.Mod NoB w w') : RdT w' o ls := by
  intro i hi
  obtain ⟨b, f, e, hl, hc⟩ := h i hi
  exact ⟨b, f, e, Nat.lt_of_lt_of_le hl m.size, (cell_mod m hl (fun h => h)).trans hc⟩
theorem RdT.of_row {base : Nat} {v : Value} {n : Nat} {ls : List (List UInt8)} (h : w.ownsRow base tStr 1 v n (ls.map Go.Proofs.encStr)) : ∃ o c, v = .slice o ls.length c ∧ n = ls.length ∧ RdT w o ls := by
  obtain ⟨h1, h2⟩ := h
  have hn : ls.length = n := by simpa using h1
  subst hn
  rcases h2 with ⟨rfl, h0⟩ | ⟨g, cap, cur, rfl, hb, hblk, hc, hm, hs, ht⟩
  · exact ⟨none, 0, by rw [h0], rfl, fun i hi => by omega⟩
  · refine ⟨_, _, rfl, rfl, fun i hi => ⟨g, 0, rfl, (Array.getElem?_eq_some_iff.1 hblk).1, ?_⟩⟩
    rw [Blk.cell (t := tStr) (cs := cur) hblk, Nat.zero_add]
    have : (ls.map Go.Proofs.encStr)[i]? = some (.string ⟨(ls.getD i []).toArray⟩) := by
      rw [List.getElem?_map, List.getElem?_eq_getElem hi]
      simp [Go.Proofs.encStr, List.getD_eq_getElem?_getD, hi]
    rw [← ht, List.getElem?_take, if_pos (by omega)] at this
    simpa using this

theorem nodup_le : ∀ (n : Nat) (l : List Nat), l.Nodup → (∀ x ∈ l, x < n) → l.length ≤ n
  | 0, l, _, h => by cases l with | nil => simp | cons a r => exact absurd (h a (by simp)) (by omega)
  | n + 1, l, hn, h => by
    have h1 := nodup_le n (l.erase n) (hn.erase n) (fun x hx => by
      have h2 := h x (List.mem_of_mem_erase hx)
      have h3 : x ≠ n := ((hn.mem_erase_iff).1 hx).1
      omega)
    have h2 := List.length_erase (a := n) (l := l)
    split at h2 <;> omega
theorem names_len {files : Nat} {l : List (Nm × Nat)} (h : NamesOk files l) (hf : files ≤ 1048576) : l.length ≤ 1048576 := by
  have h1 := nodup_le files (l.map Prod.snd) h.vals (fun x hx => by obtain ⟨y, hy, rfl⟩ := List.mem_map.1 hx; exact h.files y hy)
  simp at h1
  omega

theorem Names_calls (h : DAt w lab γ d σ) (hk : Ok σ) :
    Calls Try.prog disk_Disk_Names.n #[.pointer (some ⟨d, 0, none⟩)] w (fun e w' => ∃ o k, Vcg.Mod NoB w w' ∧
      (if σ.down then e = .returned (.tuple #[.slice none 0 0, .int .i64 17]) else e = .returned (.tuple #[.slice o (namesOf σ).length k, .int .i64 0]) ∧ RdT w' o (namesOf σ))) := by
  obtain ⟨mN, mS, po, pl, pc, fb, B, Rt⟩ := h
  refine calls_gen fun R hR => disk_Disk_Names.vc _ _ _ ?_
  unfold disk_Disk_Names.Vc
  simp only [add_at, Nat.zero_add]
  refine ⟨_, B.blk.rd1 rfl, fun hd => hR _ _ ⟨none, 0, Mod.refl _, by rw [if_pos hd]⟩, fun hd => ⟨_, B.blk.rd1 rfl, ?_⟩⟩
  obtain ⟨es, hm, hp⟩ := Rt.names
  have hl : es.length ≤ 1048576 := by rw [hp.length_eq, List.length_map]; exact names_len hk.names hk.files
  obtain ⟨D, hD, hperm, hsz⟩ := names_own hm (by simp only [maxLen]; omega)
  refine (maps_Keys_calls _ _).mono ?_
  rintro _ w1 ⟨rfl, rfl⟩
  refine ⟨_, rfl, ?_⟩
  refine (slices_Sorted_keys_calls _ _ D _ w hD (by rw [hsz]; simp only [maxLen]; omega) (by rw [hsz]; omega)).mono ?_
  rintro _ w2 ⟨v, ss, rfl, hss, hrow, _, hb⟩
  have hss' : ss.mergeSort (fun x y => decide (x ≤ y)) = namesOf σ := by
    refine inOrder_perm (hss.trans (hperm.trans ?_))
    have := hp.map (fun x : Nm × Value => x.1.data.toList)
    rwa [List.map_map] at this
  rw [hss'] at hrow
  obtain ⟨o, c, rfl, hn, hr⟩ := RdT.of_row hrow
  refine ⟨_, _, _, rfl, hR _ _ ⟨o, c, ?_, by rw [if_neg (by rw [hd]; simp)]; exact ⟨rfl, hr⟩⟩⟩
  have M1 := Mod.alloc (S := NoB) w (.cells #[.map (some mN)] 58)
  have M2 : Vcg.Mod NoB (w.alloc (.cells #[.map (some mN)] 58)) w2 := ⟨hb.os, hb.tape, hb.output, hb.size, fun k hk _ => hb.block k hk⟩
  exact M1.trans M2 (fun _ _ h => h)
end
end Go.Proofs.Ytkekehngillblaa
