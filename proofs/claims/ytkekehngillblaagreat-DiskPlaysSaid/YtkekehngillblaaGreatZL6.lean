/- The disk's laws: names and bytes held against one another. -/
/- Steps that lie somewhere. -/
/- Arguments: how long they can be. -/
/- Steps as arguments. -/
/- The reference's names in order; counts; sizes. -/
/- Both disks tell the same; DiskPlays. -/
import Derived.Test.YtkekehngillblaaGreatZL1
import Derived.Test.YtkekehngillblaaGreatDP1
import Derived.SizedLaws
import Derived.Sort.Walk0
import Derived.Laws.IdiomCopy
section
set_option linter.unusedVariables false
set_option linter.unusedSimpArgs false
namespace Go.Disk
open Go.Vcg
theorem assoc_in {s : Nm} {f : Nat} : ∀ {l : List (Nm × Nat)}, (l.map Prod.fst).Nodup → (s, f) ∈ l → assoc s l = some f
  | y :: r, hn, h => by
    rw [assoc]
    rcases List.mem_cons.1 h with rfl | h
    · rw [if_pos rfl]
    · rw [if_neg ?_]
      · exact assoc_in (List.nodup_cons.1 hn).2 h
      · intro e
        exact (List.nodup_cons.1 hn).1 (List.mem_map.2 ⟨(s, f), h, e.symm⟩)
/-- The name of a row of bytes. -/
abbrev nmOf (ns : List UInt8) : Nm := ⟨ns.toArray⟩
theorem names_in {σ : Dk} (hk : Ok σ) {ns : List UInt8} (h : ns ∈ namesOf σ) : ∃ f, (nmOf ns, f) ∈ σ.names ∧ assoc (nmOf ns) σ.names = some f ∧ right (nmOf ns) = true ∧ f < σ.files := by
  have h1 := (List.mergeSort_perm _ _).mem_iff.1 h
  obtain ⟨x, hx, rfl⟩ := List.mem_map.1 h1
  have e : nmOf x.1.data.toList = x.1 := by
    obtain ⟨⟨a⟩, f⟩ := x; rfl
  rw [e]
  exact ⟨x.2, hx, assoc_in hk.names.keys hx, hk.names.rights x hx, hk.names.files x hx⟩
theorem named_in {σ : Dk} {s : Nm} {f : Nat} (hr : right s = true) (hf : assoc s σ.names = some f) : named σ s = (f, 0) := by simp only [named, hr, if_true, hf]
theorem read_in {σ : Dk} {s : Nm} {f : Nat} (hd : σ.down = false) (hr : right s = true) (hf : assoc s σ.names = some f) : read σ s = ((σ.fs f).bytes, 0) := by
  have : asked σ s = (f, 0) := by unfold asked; rw [if_neg (by rw [hd]; simp)]; exact named_in hr hf
  unfold read
  rw [this, if_pos rfl]
/-- The same names, the same bytes. -/
structure Same (σ σ' : Dk) : Prop where
  down : σ'.down = false
  names : σ'.names = σ.names
  bytes : ∀ x ∈ σ.names, (σ'.fs x.2).bytes = (σ.fs x.2).bytes
theorem Same.namesOf {σ σ' : Dk} (h : Same σ σ') : namesOf σ' = namesOf σ := by unfold Disk.namesOf; rw [h.names]
theorem Same.read {σ σ' : Dk} (h : Same σ σ') (hk : Ok σ) (hd : σ.down = false) {ns : List UInt8} (hn : ns ∈ Disk.namesOf σ) : Disk.read σ' (nmOf ns) = Disk.read σ (nmOf ns) ∧ (Disk.read σ (nmOf ns)).2 = 0 := by
  obtain ⟨f, hm, hf, hr, _⟩ := names_in hk hn
  rw [read_in hd hr hf, read_in h.down hr (by rw [h.names]; exact hf), h.bytes _ hm]
  exact ⟨rfl, rfl⟩
end Go.Disk
namespace Go.Proofs.YtkekehngillblaaGreat
open Go Go.Vcg Go.Disk Go.Maps
section
variable {C : Type} {w w' : World} {lab lab' : Nat → C} {γ : DC → C} {d : Nat} {σ : Dk} {c : C}
theorem row_names {base : Nat} {v : Value} {n : Nat} {ls : List (List UInt8)} (h : w.ownsRow base tStr 1 v n (ls.map Go.Proofs.encStr)) (hb : ∀ k, base ≤ k → lab k = c) : ∃ o c', v = .slice o ls.length c' ∧ CRow w lab c o (ls.map Go.Proofs.encStr) := by
  obtain ⟨h1, h2⟩ := h
  have hn : ls.length = n := by simpa using h1
  subst hn
  rcases h2 with ⟨rfl, h0⟩ | ⟨g, cap, cur, rfl, hbg, hblk, hc, hm, hs, ht⟩
  · have : ls = [] := List.eq_nil_of_length_eq_zero h0
    subst this
    exact ⟨none, 0, rfl, CRow.nil _ _ _ _⟩
  · refine ⟨_, _, rfl, fun i v hv => ⟨g, 0, rfl, (Array.getElem?_eq_some_iff.1 hblk).1, hb g hbg, ?_⟩⟩
    rw [Blk.cell (t := tStr) (cs := cur) hblk, Nat.zero_add]
    have hi : i < ls.length := by have := (List.getElem?_eq_some_iff.1 hv).1; simpa using this
    rw [← ht, List.getElem?_take, if_pos (by omega)] at hv
    simpa using hv
theorem Names_calls2 (h : DAt w lab γ d σ) (hk : Ok σ) (hd : σ.down = false) (c : C) :
    Calls Tryz.prog disk_Disk_Names.n #[.pointer (some ⟨d, 0, none⟩)] w (fun e w' => ∃ o k, Vcg.Mod NoB w w' ∧ e = .returned (.tuple #[.slice o (namesOf σ).length k, .int .i64 0]) ∧ CRow w' (ext lab w.heap.size c) c o ((namesOf σ).map Go.Proofs.encStr)) := by
  obtain ⟨mN, mS, po, pl, pc, fb, B, Rt⟩ := h
  refine calls_gen fun R hR => disk_Disk_Names.vc _ _ _ ?_
  unfold disk_Disk_Names.Vc
  simp only [add_at, Nat.zero_add]
  refine ⟨_, B.blk.rd1 rfl, fun h => (by rw [hd] at h; cases h), fun _ => ⟨_, B.blk.rd1 rfl, ?_⟩⟩
  obtain ⟨es, hm, hp⟩ := Rt.names
  have hl : es.length ≤ 1048576 := by rw [hp.length_eq, List.length_map]; exact names_len hk.names hk.files
  obtain ⟨D, hD, hperm, hsz⟩ := names_own hm (by simp only [maxLen]; omega)
  refine (maps_Keys_calls _ _).mono ?_
  rintro _ w1 ⟨rfl, rfl⟩
  refine ⟨_, rfl, ?_⟩
  refine (slices_Sorted_keys_calls _ _ D _ w hD (by rw [hsz]; simp only [maxLen]; omega) (by rw [hsz]; omega)).mono ?_
  rintro _ w2 ⟨v, ss, rfl, hss, hrow, _, hb⟩
  have hss' : ss.mergeSort (fun x y => decide (x ≤ y)) = namesOf σ := by
    refine inOrder_perm (hss.trans (hperm.trans ?_))
    have := hp.map (fun x : Nm × Value => x.1.data.toList)
    rwa [List.map_map] at this
  rw [hss'] at hrow
  have M1 := Mod.alloc (S := NoB) w (.cells #[.map (some mN)] 47)
  have M2 : Vcg.Mod NoB (w.alloc (.cells #[.map (some mN)] 47)) w2 := ⟨hb.os, hb.tape, hb.output, hb.size, fun k hk _ => hb.block k hk⟩
  obtain ⟨o, c', rfl, hr⟩ := row_names (lab := ext lab w.heap.size c) (c := c) hrow (fun k hk => ext_new (Nat.le_trans M1.size hk))
  exact ⟨_, _, _, rfl, hR _ _ ⟨o, c', M1.trans M2 (fun _ _ h => h), rfl, hr⟩⟩
theorem row_str {o : Option Addr} {ls : List (List UInt8)} (h : CRow w lab c o (ls.map Go.Proofs.encStr)) {i : Nat} (hi : i < ls.length) : ∃ b f, o = some ⟨b, f, none⟩ ∧ w.cell? ⟨b, f + i, none⟩ = some (.string (nmOf ls[i])) := by
  obtain ⟨b, f, ho, _, _, hc⟩ := h i (Go.Proofs.encStr ls[i]) (by rw [List.getElem?_map, List.getElem?_eq_getElem hi]; rfl)
  exact ⟨b, f, ho, hc⟩
theorem Texts_calls {o1 o2 : Option Addr} {k1 k2 : Nat} {ls : List (List UInt8)} {lab1 lab2 : Nat → C} {c1 c2 : C} (h1 : CRow w lab1 c1 o1 (ls.map Go.Proofs.encStr)) (h2 : CRow w lab2 c2 o2 (ls.map Go.Proofs.encStr)) (hl : ls.length < 2 ^ 62) :
    Calls Tryz.prog morainehelp_Texts.n #[.slice o1 ls.length k1, .slice o2 ls.length k2] w (fun e w' => e = .returned (.bool true) ∧ Vcg.Mod NoB w w') := by
  refine morainehelp_Texts.vc _ _ _ _ _ _ _ _ ?_
  unfold morainehelp_Texts.Vc
  refine ⟨fun h => (h rfl).elim, fun _ => ?_⟩
  refine ⟨UpTo ls.length (fun i w' => Vcg.Mod NoB w w' ∧ Stp NoC w lab1 w' (ext lab1 w.heap.size c1) ∧ Stp NoC w lab2 w' (ext lab2 w.heap.size c2)), Vcg.Left ls.length, ⟨0, rfl, Nat.zero_le _, Mod.refl w, Stp.of_nob (Mod.refl w) _, Stp.of_nob (Mod.refl w) _⟩, ?_⟩
  rintro _ _ w1 ⟨i, rfl, hi, M, s1, s2⟩
  refine ⟨fun hlt => ?_, fun hge => ⟨rfl, M⟩⟩
  rintro _ rfl
  have M2 := M.step_drew
  have t1 : Stp NoC w lab1 w1.drew (ext lab1 w.heap.size c1) := Stp.of_nob M2 _
  have t2 : Stp NoC w lab2 w1.drew (ext lab2 w.heap.size c2) := Stp.of_nob M2 _
  have hil : i < ls.length := by omega
  obtain ⟨b1, f1, rfl, hc1⟩ := row_str (h1.stp t1 (fun h => h)) hil
  obtain ⟨b2, f2, rfl, hc2⟩ := row_str (h2.stp t2 (fun h => h)) hil
  refine ⟨_, rfl, by omega, _, by rw [add_at, Int.toNat_natCast]; exact hc1, _, rfl, by omega, _, by rw [add_at, Int.toNat_natCast]; exact hc2, fun he => ?_, fun _ => ?_⟩
  · rw [strB_neq] at he
    exact absurd rfl (of_decide_eq_true he)
  · exact UpTo.next (by rw [wrap_i64_small (by omega) (by omega)]; omega) hil ⟨M2, t1, t2⟩
end

end Go.Proofs.YtkekehngillblaaGreat
end

section
set_option linter.unusedVariables false
set_option linter.unusedSimpArgs false
namespace Go.Disk
open Go.Vcg
def runs (σ : Dk) (ss : List Sp) : Dk := ss.foldl step σ
theorem runs_take {σ : Dk} {ss : List Sp} {j : Nat} (h : j < ss.length) : runs σ (ss.take (j + 1)) = step (runs σ (ss.take j)) ss[j] := by
  unfold runs
  rw [List.take_add_one, List.foldl_append, List.getElem?_eq_getElem h]; rfl
end Go.Disk
namespace Go.Proofs.YtkekehngillblaaGreat
open Go Go.Vcg Go.Disk
theorem RdI.mod {w w' : World} {o : Option Addr} {is : List Int} (h : RdI w o is) (M : Vcg.Mod NoB w w') : RdI w' o is := fun i hi => by
  obtain ⟨b, g, ho, hb, hc⟩ := h i hi
  exact ⟨b, g, ho, Nat.lt_of_lt_of_le hb M.size, (cell_mod M hb (fun h => h)).trans hc⟩
/-- A step that lies somewhere. -/
structure SpAt (w : World) (b g : Nat) (s : Sp) (o1 : Option Addr) (c1 : Nat) (oi : Option Addr) (ci : Nat) : Prop where
  lt : b < w.heap.size
  what : w.cell? ⟨b, g, none⟩ = some (.int .i64 s.what)
  na : w.cell? ⟨b, g + 1, none⟩ = some (.string s.a)
  nb : w.cell? ⟨b, g + 2, none⟩ = some (.string s.b)
  at_ : w.cell? ⟨b, g + 3, none⟩ = some (.int .i64 s.at_)
  bytes : w.cell? ⟨b, g + 4, none⟩ = some (.slice o1 s.bytes.length c1)
  names : w.cell? ⟨b, g + 5, none⟩ = some (.int .i64 s.names)
  ints : w.cell? ⟨b, g + 6, none⟩ = some (.slice oi s.ints.length ci)
  rb : RdB w o1 s.bytes
  ri : RdI w oi s.ints
  ra : s.at_ < 9223372036854775808
  rs : ∀ x ∈ s.ints, x < 9223372036854775808
theorem SpAt.mod {w w' : World} {b g : Nat} {s : Sp} {o1 : Option Addr} {c1 : Nat} {oi : Option Addr} {ci : Nat} (h : SpAt w b g s o1 c1 oi ci) (M : Vcg.Mod NoB w w') : SpAt w' b g s o1 c1 oi ci := by
  have e : ∀ i, w'.cell? ⟨b, i, none⟩ = w.cell? ⟨b, i, none⟩ := fun i => cell_mod M h.lt (fun h => h)
  exact ⟨Nat.lt_of_lt_of_le h.lt M.size, (e _).trans h.what, (e _).trans h.na, (e _).trans h.nb, (e _).trans h.at_, (e _).trans h.bytes, (e _).trans h.names, (e _).trans h.ints, h.rb.mod' M, h.ri.mod M, h.ra, h.rs⟩
/-- Steps that lie somewhere. -/
def RdSps (w : World) (o : Option Addr) (ss : List Sp) : Prop := ∀ (i : Nat) (s : Sp), ss[i]? = some s → ∃ b g o1 c1 oi ci, o = some ⟨b, g, none⟩ ∧ SpAt w b (g + i * 7) s o1 c1 oi ci
theorem RdSps.mod {w w' : World} {o : Option Addr} {ss : List Sp} (h : RdSps w o ss) (M : Vcg.Mod NoB w w') : RdSps w' o ss := fun i s hs => by
  obtain ⟨b, g, o1, c1, oi, ci, ho, hA⟩ := h i s hs
  exact ⟨b, g, o1, c1, oi, ci, ho, hA.mod M⟩
/-- Steps that are looked at. -/
def Few (ss : List Sp) : Prop := ss.length ≤ 60 ∧ ∀ s ∈ ss, s.bytes.length ≤ 200 ∧ s.ints.length ≤ 200
theorem few_calls {w : World} {o : Option Addr} {k : Nat} {ss : List Sp} (h : RdSps w o ss) :
    Calls Tryz.prog morainelaw1_few.n #[.slice o ss.length k] w (fun e w' => w' = w ∧ ∃ b, e = .returned (.bool b) ∧ (b = true → Few ss)) := by
  refine morainelaw1_few.vc _ _ _ _ _ ?_
  unfold morainelaw1_few.Vc
  refine ⟨fun _ => ⟨rfl, false, rfl, fun h => by cases h⟩, fun h60 => ?_⟩
  refine ⟨UpTo ss.length (fun i w' => w' = w ∧ ∀ s ∈ ss.take i, s.bytes.length ≤ 200 ∧ s.ints.length ≤ 200), Vcg.Left ss.length, ⟨0, rfl, Nat.zero_le _, rfl, by simp⟩, ?_⟩
  rintro _ _ _ ⟨i, rfl, hi, rfl, hs⟩
  refine ⟨fun hlt => ?_, fun hge => ?_⟩
  · have hil : i < ss.length := by omega
    have hx := List.getElem?_eq_getElem hil
    obtain ⟨b, g, o1, c1, oi, ci, rfl, hA⟩ := h i _ hx
    refine ⟨_, rfl, by omega, _, _, _, by rw [add_at, add_at, Int.toNat_natCast]; exact hA.bytes, fun _ => ⟨rfl, false, rfl, fun h => by cases h⟩, fun hb =>
      ⟨_, rfl, by omega, _, _, _, by rw [add_at, add_at, add_at, Int.toNat_natCast]; exact hA.ints, fun _ => ⟨rfl, false, rfl, fun h => by cases h⟩, fun hi2 => ?_⟩⟩
    refine UpTo.next (by rw [wrap_i64_small (by omega) (by omega)]; omega) hil ⟨rfl, fun s hm => ?_⟩
    rw [List.take_add_one, hx] at hm
    rcases List.mem_append.1 hm with hm | hm
    · exact hs s hm
    · simp at hm; subst hm; omega
  · obtain rfl : i = ss.length := by omega
    rw [List.take_length] at hs
    exact ⟨rfl, true, rfl, fun _ => ⟨by omega, hs⟩⟩

end Go.Proofs.YtkekehngillblaaGreat
end

section
namespace Go.Vcg
open Go

theorem mapM_get {α β : Type} {f : α → Option β} : ∀ {l : List α} {ys : List β}, l.mapM f = some ys → ys.length = l.length ∧ ∀ (i : Nat) (x : α), l[i]? = some x → ∃ y, ys[i]? = some y ∧ f x = some y
  | [], ys, h => by
    rw [List.mapM_nil] at h
    cases h
    exact ⟨rfl, fun i x hx => by simp at hx⟩
  | a :: l, ys, h => by
    rw [List.mapM_cons] at h
    cases ha : f a with
    | none => simp [ha] at h
    | some b =>
      cases hl : l.mapM f with
      | none => simp [ha, hl] at h
      | some bs =>
        simp [ha, hl] at h
        subst h
        obtain ⟨h1, h2⟩ := mapM_get hl
        refine ⟨by simp [h1], fun i x hx => ?_⟩
        cases i with
        | zero => simp at hx; subst hx; exact ⟨b, rfl, ha⟩
        | succ i => simp at hx; exact h2 i x hx
section
variable {H : Type} {enc : TypeId × Value → H} {P : Program} {W : World} {sp : Nat → Bool} {held : Bool} {base : Nat}

/-- What a reading of a slice tells of its elements, one cell each, and of the datum. -/
theorem trod_slice2 {fuel : Nat} {t e : TypeId} {v : Value} {d : DataW H} {ps : List MemPlace} (ht : P.underlying t = some (.slice e)) (hce : P.cellsOf e = 1)
    (h : DataW.trod enc P W base sp held fuel t [v] = some (d, ps)) :
    ∃ o l c, v = .slice o l c ∧ l ≤ c ∧ c ≤ maxLen ∧ ((l = 0 ∧ d = .nil) ∨ ∃ elems spare, d = .slice elems spare ∧ elems.length = l ∧
      ∀ i, i < l → ∃ b f u d' ps' fuel', o = some ⟨b, f, none⟩ ∧ b < W.heap.size ∧ W.cell? ⟨b, f + i, none⟩ = some u ∧ DataW.trod enc P W base sp held fuel' e [u] = some (d', ps') ∧ elems[i]? = some d') := by
  obtain ⟨o, l, c, rfl, hlc, hcm, hall⟩ := trod_slice ht hce h
  refine ⟨o, l, c, rfl, hlc, hcm, ?_⟩
  cases fuel with
  | zero => simp [DataW.trod] at h
  | succ fuel =>
    cases o with
    | none =>
      left
      have : l = 0 ∧ c = 0 := by
        rcases l with _ | l <;> rcases c with _ | c <;> simp [DataW.trod, ht] at h ⊢
      obtain ⟨rfl, rfl⟩ := this
      simp [DataW.trod, ht] at h
      exact ⟨rfl, h.1.symm⟩
    | some a =>
      right
      simp only [DataW.trod, ht, hce, Nat.mul_one] at h
      split at h
      · obtain ⟨els, hm, h2⟩ := Option.bind_eq_some_iff.1 h
        obtain ⟨rest, _, h3⟩ := Option.map_eq_some_iff.1 h2
        cases h3
        obtain ⟨hl, hg⟩ := mapM_get hm
        rw [List.length_range] at hl
        refine ⟨_, _, rfl, by simp [hl], fun i hi => ?_⟩
        obtain ⟨b, f, u, d', ps', fuel', ho, hb, hu, hd⟩ := hall i hi
        cases ho
        obtain ⟨y, hy, hfy⟩ := hg i i (by rw [List.getElem?_range hi])
        obtain ⟨vs, hv, hd2⟩ := Option.bind_eq_some_iff.1 hfy
        obtain ⟨u2, rfl, hu2⟩ := cells1_some hv
        rw [add_at, hu] at hu2
        cases hu2
        exact ⟨b, f, u, y.1, y.2, fuel, rfl, hb, hu, hd2, by rw [List.getElem?_map, hy]; rfl⟩
      · cases h

theorem weights_slice {t e : TypeId} {elems spare : List (DataW H)} {n0 : Nat} (ht : P.underlying t = some (.slice e)) (h : ((DataW.slice elems spare).weights P t).all (· ≤ n0) = true) :
    elems.length * P.bytesOf e ≤ n0 ∧ ∀ d ∈ elems, (d.weights P e).all (· ≤ n0) = true := by
  simp only [DataW.weights, ht, List.all_cons, Bool.and_eq_true, List.all_append] at h
  refine ⟨?_, fun d hd => ?_⟩
  · have h1 : (elems.length + spare.length) * P.bytesOf e ≤ n0 := of_decide_eq_true h.1
    exact Nat.le_trans (Nat.mul_le_mul_right _ (Nat.le_add_right _ _)) h1
  · have h2 := h.2.1
    clear h
    induction elems with
    | nil => cases hd
    | cons x r ih =>
      simp only [DataW.weightsAll, List.all_append, Bool.and_eq_true] at h2
      rcases List.mem_cons.1 hd with rfl | hd
      · exact h2.1
      · exact ih hd h2.2

/-- Bytes, and how many there can be. -/
theorem trod_bytes2 {fuel : Nat} {t e : TypeId} {v : Value} {d : DataW H} {ps : List MemPlace} (ht : P.underlying t = some (.slice e)) (he : P.underlying e = some (.int .u8)) (hce : P.cellsOf e = 1)
    (h : DataW.trod enc P W base sp held fuel t [v] = some (d, ps)) : ∃ o c bs, v = .slice o bs.length c ∧ bs.length ≤ c ∧ c ≤ maxLen ∧ RdB W o bs ∧ ∀ n0, (d.weights P t).all (· ≤ n0) = true → bs.length * P.bytesOf e ≤ n0 := by
  obtain ⟨o, c, bs, rfl, h1, h2, h3⟩ := trod_bytes ht he hce h
  refine ⟨o, c, bs, rfl, h1, h2, h3, fun n0 hw => ?_⟩
  obtain ⟨o', l', c', hv, _, _, h4⟩ := trod_slice2 ht hce h
  cases hv
  rcases h4 with ⟨h5, _⟩ | ⟨elems, spare, rfl, h5, _⟩
  · rw [h5]; simp
  · rw [← h5]; exact (weights_slice ht hw).1
/-- Lists of bytes, and how long each of them can be. -/
theorem trod_bytess2 {fuel : Nat} {t e e2 : TypeId} {v : Value} {d : DataW H} {ps : List MemPlace} (ht : P.underlying t = some (.slice e)) (he : P.underlying e = some (.slice e2)) (he2 : P.underlying e2 = some (.int .u8)) (hce : P.cellsOf e = 1) (hce2 : P.cellsOf e2 = 1)
    (h : DataW.trod enc P W base sp held fuel t [v] = some (d, ps)) : ∃ o c ls, v = .slice o ls.length c ∧ ls.length ≤ c ∧ c ≤ maxLen ∧ RdBB W o ls ∧ ∀ n0, (d.weights P t).all (· ≤ n0) = true → ls.length * P.bytesOf e ≤ n0 ∧ ∀ b ∈ ls, b.length * P.bytesOf e2 ≤ n0 := by
  obtain ⟨o, c, ls, rfl, h1, h2, h3, h3'⟩ := trod_bytess ht he he2 hce hce2 h
  refine ⟨o, c, ls, rfl, h1, h2, h3, fun n0 hw => ?_⟩
  obtain ⟨o', l', c', hv, _, _, h4⟩ := trod_slice2 ht hce h
  cases hv
  rcases h4 with ⟨h5, _⟩ | ⟨elems, spare, rfl, h5, h6⟩
  · rw [h5]
    exact ⟨by simp, fun b hb => by rw [List.eq_nil_of_length_eq_zero h5] at hb; cases hb⟩
  · obtain ⟨h7, h8⟩ := weights_slice ht hw
    refine ⟨by rw [← h5]; exact h7, fun b hb => ?_⟩
    obtain ⟨i, hi, rfl⟩ := List.getElem_of_mem hb
    obtain ⟨bk, f, u, d', ps', fuel', ho, hbk, hu, hd, hel⟩ := h6 i hi
    obtain ⟨bk2, f2, oi, ci, ho2, _, hc2, hr2⟩ := h3 i hi
    rw [ho] at ho2
    cases ho2
    rw [hu] at hc2
    cases hc2
    obtain ⟨o3, c3, bs3, hv3, _, _, _, hw3⟩ := trod_bytes2 he he2 hce2 hd
    have e1 : ls.getD i [] = ls[i] := by simp [List.getD_eq_getElem?_getD, hi]
    have h9 := hw3 n0 (h8 d' (List.mem_of_getElem? hel))
    have h10 : (ls.getD i []).length = bs3.length := by injection hv3
    rw [← h10, e1] at h9
    exact h9
end
theorem i64_range {n : Int} (h : (Lit.int .i64 n).wf = true) : -9223372036854775808 ≤ n ∧ n < 9223372036854775808 := by
  simp only [Lit.wf, Bool.and_eq_true, decide_eq_true_eq] at h
  have h1 : IntKind.min .i64 = -9223372036854775808 := by decide
  have h2 : IntKind.max .i64 = 9223372036854775807 := by decide
  omega
/-- What is told of all arguments is told of each. -/
theorem weights_each {H : Type} {P : Program} {n0 : Nat} : ∀ {ts : List TypeId} {ds : List (DataW H)}, (DataW.weightsEach P ts ds).all (· ≤ n0) = true → ∀ (j : Nat) (t : TypeId) (d : DataW H), ts[j]? = some t → ds[j]? = some d → (d.weights P t).all (· ≤ n0) = true
  | t0 :: ts, d0 :: ds, h, 0, t, d, ht, hd => by
    simp at ht hd
    subst ht hd
    simp only [DataW.weightsEach, List.all_append, Bool.and_eq_true] at h
    exact h.1
  | t0 :: ts, d0 :: ds, h, j + 1, t, d, ht, hd => by
    simp only [DataW.weightsEach, List.all_append, Bool.and_eq_true] at h
    exact weights_each h.2 j t d (by simpa using ht) (by simpa using hd)
  | [], _, _, _, _, _, ht, _ => by simp at ht
  | _ :: _, [], _, _, _, _, _, hd => by simp at hd
end Go.Vcg
end

section
set_option linter.unusedVariables false
set_option linter.unusedSimpArgs false
namespace Go.Vcg
section
variable {H : Type} {enc : TypeId × Value → H} {P : Program} {W : World} {sp : Nat → Bool} {held : Bool} {base : Nat}
theorem cells_some {a : Addr} {n : Nat} {vs : List Value} (h : W.cells? base a n = some vs) : vs.length = n ∧ ∀ j u, vs[j]? = some u → W.cell? (a.add j) = some u := by
  unfold World.cells? at h
  split at h
  · obtain ⟨hl, hg⟩ := mapM_get h
    rw [List.length_range] at hl
    refine ⟨hl, fun j u hu => ?_⟩
    have hj : j < n := by rw [← hl]; exact (List.getElem?_eq_some_iff.1 hu).1
    obtain ⟨y, hy, hc⟩ := hg j j (by rw [List.getElem?_range hj])
    rw [hy] at hu
    cases hu
    exact hc
  · cases h
theorem cell_spot {a : Addr} {u : Value} (h : W.cell? a = some u) : a.spot = none ∧ a.block < W.heap.size := by
  unfold World.cell? at h
  cases hs : a.spot with
  | none =>
    rw [hs] at h
    refine ⟨rfl, ?_⟩
    split at h
    · rename_i hb; exact (Array.getElem?_eq_some_iff.1 hb).1
    · cases h
  | some x =>
    rw [hs] at h
    split at h <;> simp at h
/-- What a reading of a slice tells of its elements, n cells each. -/
theorem trod_slice_n {fuel : Nat} {t e : TypeId} {v : Value} {d : DataW H} {ps : List MemPlace} {n : Nat} (ht : P.underlying t = some (.slice e)) (hce : P.cellsOf e = n) (hn : 0 < n)
    (h : DataW.trod enc P W base sp held fuel t [v] = some (d, ps)) :
    ∃ o l c, v = .slice o l c ∧ ∀ i, i < l → ∃ b f us d' ps' fuel', o = some ⟨b, f, none⟩ ∧ b < W.heap.size ∧ us.length = n ∧ (∀ j u, us[j]? = some u → W.cell? ⟨b, f + i * n + j, none⟩ = some u) ∧ DataW.trod enc P W base sp held fuel' e us = some (d', ps') := by
  cases fuel with
  | zero => simp [DataW.trod] at h
  | succ fuel =>
    cases v with
    | slice o l c =>
      cases o with
      | none =>
        have : l = 0 ∧ c = 0 := by
          rcases l with _ | l <;> rcases c with _ | c <;> simp [DataW.trod, ht] at h ⊢
        obtain ⟨rfl, rfl⟩ := this
        exact ⟨none, 0, 0, rfl, fun i hi => (Nat.not_lt_zero _ hi).elim⟩
      | some a =>
        simp only [DataW.trod, ht, hce] at h
        split at h
        · refine ⟨some a, l, c, rfl, fun i hi => ?_⟩
          obtain ⟨els, hm, _⟩ := Option.bind_eq_some_iff.1 h
          obtain ⟨y, hy⟩ := mapM_all hm i (List.mem_range.2 hi)
          obtain ⟨vs, hv, hd⟩ := Option.bind_eq_some_iff.1 hy
          obtain ⟨hl, hg⟩ := cells_some hv
          obtain ⟨y0, hy0⟩ := mapM_all hm 0 (List.mem_range.2 (by omega))
          obtain ⟨vs0, hv0, _⟩ := Option.bind_eq_some_iff.1 hy0
          obtain ⟨hl0, hg0⟩ := cells_some hv0
          have h0 : ∃ u, vs0[0]? = some u := ⟨vs0[0]'(by omega), List.getElem?_eq_getElem (by omega)⟩
          obtain ⟨u, hu⟩ := h0
          obtain ⟨hs, hb⟩ := cell_spot (hg0 0 u hu)
          obtain ⟨b, f, spot⟩ := a
          have hs' : spot = none := by simpa [Addr.add] using hs
          have hb' : b < W.heap.size := by simpa [Addr.add] using hb
          subst hs'
          refine ⟨b, f, vs, y.1, y.2, fuel, rfl, hb', hl, fun j u hu => ?_, hd⟩
          have := hg j u hu
          rw [add_at, add_at] at this
          exact this
        · cases h
    | _ => simp [DataW.trod, ht] at h
theorem trod_str {fuel : Nat} {e : TypeId} {u : Value} {d : DataW H} {ps : List MemPlace} (he : P.underlying e = some .string) (h : DataW.trod enc P W base sp held fuel e [u] = some (d, ps)) : ∃ s, u = .string s := by
  cases fuel with
  | zero => simp [DataW.trod] at h
  | succ fuel =>
    simp only [DataW.trod, he] at h
    cases u with
    | string s => exact ⟨s, rfl⟩
    | _ => simp at h
theorem trod_field {fuel : Nat} {t : TypeId} {fs : Array Field} {us : List Value} {d : DataW H} {ps : List MemPlace} (ht : P.underlying t = some (.struct fs)) (h : DataW.trod enc P W base sp held fuel t us = some (d, ps)) :
    us.length = P.cellsOf t ∧ ∀ (k : Nat) (f : Field), fs[k]? = some f → ∃ fuel' d' ps', DataW.trod enc P W base sp held fuel' f.type ((us.drop f.offset).take (P.cellsOf f.type)) = some (d', ps') := by
  cases fuel with
  | zero => simp [DataW.trod] at h
  | succ fuel =>
    simp only [DataW.trod, ht] at h
    split at h
    · rename_i hl
      obtain ⟨xs, hm, _⟩ := Option.map_eq_some_iff.1 h
      refine ⟨hl, fun k f hf => ?_⟩
      obtain ⟨_, hg⟩ := mapM_get hm
      obtain ⟨y, _, hy⟩ := hg k f (by rw [Array.getElem?_toList]; exact hf)
      exact ⟨fuel, y.1, y.2, hy⟩
    · cases h
end
end Go.Vcg
namespace Go.Proofs.YtkekehngillblaaGreat
open Go Go.Vcg Go.Disk
section
variable {H : Type} {enc : TypeId × Value → H} {W : World} {sp : Nat → Bool} {held : Bool} {base : Nat}
theorem und_ints : Tryz.prog.underlying 33 = some (.slice 3) := by kernel_rfl
theorem und_i64 : Tryz.prog.underlying 3 = some (.int .i64) := by kernel_rfl
theorem len2 {α : Type} {us : List α} (h : us.length = 2) : ∃ a b, us = [a, b] := by
  rcases us with _ | ⟨a, _ | ⟨b, _ | ⟨c, r⟩⟩⟩ <;> simp at h ⊢
theorem len7 {α : Type} {us : List α} (h : us.length = 7) : ∃ a b c d e f g, us = [a, b, c, d, e, f, g] := by
  rcases us with _ | ⟨a, _ | ⟨b, _ | ⟨c, _ | ⟨d, _ | ⟨e, _ | ⟨f, _ | ⟨g, _ | ⟨x, r⟩⟩⟩⟩⟩⟩⟩⟩ <;> simp at h ⊢
/-- Whole numbers as an argument. -/
theorem open_ints {fuel : Nat} {v : Value} {d : DataW H} {ps : List MemPlace} (h : DataW.trod enc Tryz.prog W base sp held fuel 33 [v] = some (d, ps)) :
    ∃ o c is, v = .slice o is.length c ∧ RdI W o is ∧ ∀ x ∈ is, x < 9223372036854775808 := by
  obtain ⟨o, l, c, rfl, _, _, f, hf, hb⟩ := trod_ints und_ints und_i64 (by kernel_rfl) h
  have hl : ((List.range l).map f).length = l := by simp
  refine ⟨o, c, (List.range l).map f, by rw [hl], fun i hi => ?_, fun x hx => ?_⟩
  · rw [hl] at hi
    obtain ⟨b, g, ho, hb, hc⟩ := hf i hi
    refine ⟨b, g, ho, hb, ?_⟩
    rw [hc]
    simp [List.getD_eq_getElem?_getD, hi]
  · obtain ⟨i, hi, rfl⟩ := List.mem_map.1 hx
    exact (hb i (List.mem_range.1 hi)).2
/-- A crash as an argument. -/
theorem open_crash {fuel : Nat} {us : List Value} {d : DataW H} {ps : List MemPlace} (h : DataW.trod enc Tryz.prog W base sp held fuel 35 us = some (d, ps)) :
    ∃ n o c is, us = [.int .i64 n, .slice o is.length c] ∧ RdI W o is ∧ ∀ x ∈ is, x < 9223372036854775808 := by
  obtain ⟨hl, hf⟩ := trod_field Tryz.underlying35 h
  rw [show Tryz.prog.cellsOf 35 = 2 from by kernel_rfl] at hl
  obtain ⟨u0, u1, rfl⟩ := len2 hl
  obtain ⟨f0, d0, p0, h0⟩ := hf 0 ⟨ "Names", 3, 0, false, "", "", 0⟩ rfl
  obtain ⟨f1, d1, p1, h1⟩ := hf 1 ⟨ "Bytes", 33, 1, false, "", "", 8⟩ rfl
  dsimp only at h0 h1
  rw [show Tryz.prog.cellsOf 3 = 1 from by kernel_rfl] at h0
  rw [show Tryz.prog.cellsOf 33 = 1 from by kernel_rfl] at h1
  obtain ⟨m, rfl, _⟩ := trod_i64 und_i64 h0
  obtain ⟨o, c, is, rfl, hi, hv⟩ := open_ints h1
  exact ⟨m, o, c, is, rfl, hi, hv⟩
/-- Steps as an argument. -/
theorem open_steps {fuel : Nat} {v : Value} {d : DataW H} {ps : List MemPlace} (h : DataW.trod enc Tryz.prog W base sp held fuel 22 [v] = some (d, ps)) :
    ∃ o c ss, v = .slice o ss.length c ∧ RdSps W o ss := by
  obtain ⟨o, l, c, rfl, hall⟩ := trod_slice_n (n := 7) (show Tryz.prog.underlying 22 = some (.slice 37) by kernel_rfl) (by kernel_rfl) (by omega) h
  have hx : ∀ i, ∃ s : Sp, i < l → ∃ b g o1 c1 oi ci, o = some ⟨b, g, none⟩ ∧ SpAt W b (g + i * 7) s o1 c1 oi ci := fun i => by
    by_cases hi : i < l
    · obtain ⟨b, f, us, d', ps', fuel', ho, hb, hl, hg, hd⟩ := hall i hi
      obtain ⟨_, hf⟩ := trod_field Tryz.underlying37 hd
      obtain ⟨u0, u1, u2, u3, u4, u5, u6, rfl⟩ := len7 hl
      obtain ⟨f0, d0, p0, h0⟩ := hf 0 ⟨ "What", 3, 0, false, "", "", 0⟩ rfl
      obtain ⟨f1, d1, p1, h1⟩ := hf 1 ⟨ "A", 9, 1, false, "", "", 8⟩ rfl
      obtain ⟨f2, d2, p2, h2⟩ := hf 2 ⟨ "B", 9, 2, false, "", "", 24⟩ rfl
      obtain ⟨f3, d3, p3, h3⟩ := hf 3 ⟨ "At", 3, 3, false, "", "", 40⟩ rfl
      obtain ⟨f4, d4, p4, h4⟩ := hf 4 ⟨ "Bytes", 32, 4, false, "", "", 48⟩ rfl
      obtain ⟨f5, d5, p5, h5⟩ := hf 5 ⟨ "Crash", 35, 5, false, "", "", 72⟩ rfl
      dsimp only at h0 h1 h2 h3 h4 h5
      rw [show Tryz.prog.cellsOf 3 = 1 from by kernel_rfl] at h0 h3
      rw [show Tryz.prog.cellsOf 9 = 1 from by kernel_rfl] at h1 h2
      rw [show Tryz.prog.cellsOf 32 = 1 from by kernel_rfl] at h4
      rw [show Tryz.prog.cellsOf 35 = 2 from by kernel_rfl] at h5
      obtain ⟨what, rfl, _⟩ := trod_i64 und_i64 h0
      obtain ⟨a, rfl⟩ := trod_str und_str h1
      obtain ⟨b2, rfl⟩ := trod_str und_str h2
      obtain ⟨at_, rfl, _, hat⟩ := trod_i64 und_i64 h3
      obtain ⟨o1, c1, bytes, rfl, _, _, hr, _⟩ := trod_bytes2 und_slU8 (show Tryz.prog.underlying tU8 = some (.int .u8) by kernel_rfl) (by kernel_rfl) h4
      obtain ⟨names, oi, ci, ints, he, hri, hv⟩ := open_crash h5
      simp only [List.drop_succ_cons, List.drop_zero, List.take_succ_cons, List.take_zero, List.cons.injEq, and_true] at he
      obtain ⟨rfl, rfl⟩ := he
      exact ⟨⟨what, a, b2, at_, bytes, names, ints⟩, fun _ => ⟨b, f, o1, c1, oi, ci, ho, ⟨hb, hg 0 _ rfl, hg 1 _ rfl, hg 2 _ rfl, hg 3 _ rfl, hg 4 _ rfl, hg 5 _ rfl, hg 6 _ rfl, hr, hri, hat, hv⟩⟩⟩
    · exact ⟨⟨0, ⟨#[]⟩, ⟨#[]⟩, 0, [], 0, []⟩, fun h => (hi h).elim⟩
  have hl : ((List.range l).map (fun i => Classical.choose (hx i))).length = l := by simp
  refine ⟨o, c, (List.range l).map (fun i => Classical.choose (hx i)), by rw [hl], fun i s hs => ?_⟩
  have hi : i < l := by rw [← hl]; exact (List.getElem?_eq_some_iff.1 hs).1
  have hsp := Classical.choose_spec (hx i) hi
  have he : s = Classical.choose (hx i) := by
    rw [List.getElem?_map, List.getElem?_range hi] at hs
    simpa using hs.symm
  rw [he]
  exact hsp
end
end Go.Proofs.YtkekehngillblaaGreat
end

section
set_option linter.unusedVariables false
set_option linter.unusedSimpArgs false
namespace Go.Disk
open Go.Vcg
theorem inOrder_sorted (l : List (List UInt8)) : (inOrder l).Pairwise (· ≤ ·) := by
  have h := List.pairwise_mergeSort leB_trans leB_total l
  exact h.imp (fun h => of_decide_eq_true h)
theorem inOrder_eq {l m : List (List UInt8)} (hs : l.Pairwise (· ≤ ·)) (hp : l.Perm m) : l = inOrder m := by
  refine List.Perm.eq_of_pairwise (le := fun x y => x ≤ y) ?_ hs (inOrder_sorted m) (hp.trans (List.mergeSort_perm _ _).symm)
  intro a b _ _ h1 h2
  exact List.le_antisymm h1 h2
theorem inOrder_len (l : List (List UInt8)) : (inOrder l).length = l.length := (List.mergeSort_perm _ _).length_eq
theorem inOrder_insert {l : List (List UInt8)} {x : List UInt8} {a : Nat} (ha : a ≤ (inOrder l).length) (h1 : ∀ (k : Nat) (hk : k < (inOrder l).length), k < a → (inOrder l)[k] < x) (h2 : ∀ (h : a < (inOrder l).length), ¬ (inOrder l)[a] < x) :
    inOrder (l ++ [x]) = (inOrder l).take a ++ x :: (inOrder l).drop a := by
  symm
  have hso := inOrder_sorted l
  have hpe : (inOrder l).Perm l := List.mergeSort_perm _ _
  generalize inOrder l = L at *
  refine inOrder_eq ?_ ?_
  · rw [List.pairwise_append]
    refine ⟨hso.sublist (List.take_sublist _ _), ?_, ?_⟩
    · rw [List.pairwise_cons]
      refine ⟨fun y hy => ?_, hso.sublist (List.drop_sublist _ _)⟩
      obtain ⟨i, hi, rfl⟩ := List.getElem_of_mem hy
      rw [List.length_drop] at hi
      rw [List.getElem_drop]
      have haL : a < L.length := by omega
      have hx : x ≤ L[a] := List.not_lt.1 (h2 haL)
      by_cases h0 : i = 0
      · subst h0; exact hx
      · exact List.le_trans hx (List.pairwise_iff_getElem.1 hso a (a + i) haL (by omega) (by omega))
    · intro y hy z hz
      obtain ⟨i, hi, rfl⟩ := List.getElem_of_mem hy
      rw [List.length_take] at hi
      rw [List.getElem_take]
      rcases List.mem_cons.1 hz with rfl | hz
      · exact List.le_of_lt (h1 i (by omega) (by omega))
      · obtain ⟨k, hk, rfl⟩ := List.getElem_of_mem hz
        rw [List.length_drop] at hk
        rw [List.getElem_drop]
        exact List.pairwise_iff_getElem.1 hso i (a + k) (by omega) (by omega) (by omega)
  · have : (L.take a ++ x :: L.drop a).Perm (x :: (L.take a ++ L.drop a)) := List.perm_middle
    rw [List.take_append_drop] at this
    exact this.trans ((hpe.cons x).trans (List.perm_append_comm (l₁ := [x]) (l₂ := l)))
end Go.Disk
namespace Go.Proofs.YtkekehngillblaaGreat
open Go Go.Vcg Go.Disk
abbrev tSlStr : TypeId := 70
theorem und_slStr : Tryz.prog.underlying tSlStr = some (.slice tStr) := by kernel_rfl
theorem info_str : (Tryz.prog.info? tStr).map (fun i => (i.zero, i.size, i.bytes)) = some (some (.string ⟨#[]⟩), 1, 16) := by kernel_rfl
section
variable {C : Type} {w0 w w' : World} {lab lab' : Nat → C} {c : C} {γ : RC → C} {d : Nat} {σ τ : Dk}
/-- Room is made in a row of our own. -/
theorem shift_up {e t tx ty : TypeId} {o : Option Addr} {l k a : Nat} {ys : List Value} {z : Value} (ht : Tryz.prog.underlying t = some (.slice e)) (hi : (Tryz.prog.info? e).map (·.size) = some 1) (F : Fresh w0 w e 1 o (l + 1) k (ys ++ [z])) (hl : ys.length = l) (ha : a ≤ l) (h1 : ∀ v ∈ ys, v.oneCell' = true) :
    ∃ X w' n, Sem.run Tryz.prog (builtinV .copy #[t, tx] ty #[.slice (subO o k (a + 1) 1) (l + 1 - (a + 1)) (k - (a + 1)), .slice (subO o k a 1) (l + 1 - a) (k - a)]) w = .ok (.int .i64 n) w' ∧ Fresh w0 w' e 1 o (l + 1) k X ∧ ∀ x, X.set a x = ys.take a ++ x :: ys.drop a := by
  by_cases hal : a = l
  · subst hal
    refine ⟨_, w, 0, ?_, F, fun x => ?_⟩
    · have := run_copy_none (P := Tryz.prog) w t tx ty e (subO o k (a + 1) 1) (subO o k a 1) (a + 1 - (a + 1)) (k - (a + 1)) (a + 1 - a) (k - a) ht hi (by rw [Nat.sub_self]; exact Nat.min_eq_right (Nat.zero_le _))
      simpa only [builtinV, goInt] using this
    · rw [← hl, List.set_append_right _ _ (Nat.le_refl _), List.take_length, List.drop_length]; simp
  · rcases F.own.2 with ⟨_, h0, _⟩ | ⟨g, cur, rfl, hB, hlk, hkm, hcs, htk⟩
    · omega
    have e1 : subO (some ⟨g, 0, none⟩) k (a + 1) 1 = some ⟨g, a + 1, none⟩ := by
      unfold subO
      rw [if_neg (by omega), Nat.mul_one]
      simp only [Option.map_some, add_at, Nat.zero_add]
    have e2 : subO (some ⟨g, 0, none⟩) k a 1 = some ⟨g, a, none⟩ := by
      unfold subO
      rw [if_neg (by omega), Nat.mul_one]
      simp only [Option.map_some, add_at, Nat.zero_add]
    rw [e1, e2]
    have hdl : (ys.drop a).length = l - a := by rw [List.length_drop, hl]
    have hcur : ∀ j, j < l → cur[j]? = ys[j]? := by
      intro j hj
      have h2 : (cur.toList.take ((l + 1) * 1))[j]? = (ys ++ [z])[j]? := by rw [htk]
      rw [List.getElem?_take, if_pos (by omega), Array.getElem?_toList, List.getElem?_append_left (by omega)] at h2
      exact h2
    have hcell : ∀ j v, (ys.drop a)[j]? = some v → w.cell? (Addr.add ⟨g, a, none⟩ j) = some v := by
      intro j v hv
      rw [List.getElem?_drop] at hv
      have hj : a + j < ys.length := (List.getElem?_eq_some_iff.1 hv).1
      rw [add_at, hB.cell, hcur _ (by omega), hv]
    have hr := run_copy_cells (P := Tryz.prog) w t tx ty e g (a + 1) (l + 1 - (a + 1)) (k - (a + 1)) ⟨g, a, none⟩ (l + 1 - a) (k - a) (ys.drop a) ht hi (by
        rw [hdl]
        show _ = min _ _
        omega) hcell
      (fun j hj => by rw [hB.cell]; simp; omega) (fun j hj => by simp [World.frozen?, show w.heap[g]? = _ from hB]) (fun v hv => h1 v (List.mem_of_mem_drop hv))
    refine ⟨ys.take (a + 1) ++ ys.drop a, _, _, by simpa only [builtinV, goInt] using hr, ⟨⟨?_, .inr ⟨g, _, rfl, blk_setCells (ys.drop a) (a + 1) hB, hlk, hkm, by rw [size_setsAt, hcs], ?_⟩⟩, F.mod.trans (mod_setCells w g _ _) (fun i hi e => absurd (F.new g ⟨_, rfl, rfl⟩) (by subst e; omega)), F.new⟩, fun x => ?_⟩
    · rw [List.length_append, List.length_take, hdl, hl]; omega
    · apply List.ext_getElem?
      intro j
      have htl : (ys.take (a + 1)).length = a + 1 := by rw [List.length_take, hl]; omega
      rw [List.getElem?_take]
      by_cases hj : j < (l + 1) * 1
      · rw [if_pos hj, Array.getElem?_toList, get_setsAt _ _ _ _ (by rw [hdl, hcs]; omega), hdl]
        by_cases hj2 : a + 1 ≤ j
        · rw [if_pos (by omega), List.getElem?_append_right (by omega), htl]
        · rw [if_neg (by omega), List.getElem?_append_left (by omega), List.getElem?_take, if_pos (by omega), hcur j (by omega)]
      · rw [if_neg hj, List.getElem?_eq_none (by rw [List.length_append, htl, hdl]; omega)]
    · have hta : ys.take (a + 1) = ys.take a ++ [ys[a]'(by omega)] := by rw [List.take_add_one, List.getElem?_eq_getElem (by omega)]; rfl
      have htl : (ys.take a).length = a := by rw [List.length_take, hl]; omega
      rw [hta, List.append_assoc, List.set_append_right _ _ (by omega), htl, Nat.sub_self]; rfl
theorem strB_lss (a b : ByteArray) : strB .lss a b = decide (a.data.toList < b.data.toList) := by
  show Op.bytesLess a.toList b.toList = _
  rw [Go.Proofs.bytesLess_eq, ByteArray.toList_eq, ByteArray.toList_eq]

theorem RNames_calls {on os om : Option Addr} {cn cs cm : Nat} {fb : Nat → Nat} {h : Int} (H : RIn w lab γ d σ on cn os cs om cm fb h) (hl : σ.names.length ≤ 1048576) :
    Calls Tryz.prog moraineref1_Disk_Names.n #[.pointer (some ⟨d, 0, none⟩)] w (fun e w' => ∃ o k, Vcg.Mod NoB w w' ∧
      (if σ.down then e = .returned (.tuple #[.slice none 0 0, .int .i64 17]) else e = .returned (.tuple #[.slice o (namesOf σ).length k, .int .i64 0]) ∧ ∀ (lab : Nat → C) (c : C), CRow w' (ext lab w.heap.size c) c o ((namesOf σ).map Go.Proofs.encStr))) := by
  refine calls_gen fun R hR => moraineref1_Disk_Names.vc _ _ _ ?_
  unfold moraineref1_Disk_Names.Vc
  simp only [add_at, Nat.zero_add]
  refine ⟨_, H.B.blk.rd1 rfl, fun hd => hR _ _ ⟨none, 0, Mod.refl _, by rw [if_pos hd]⟩, fun hd => ?_⟩
  let bs : Nm × Nat → List UInt8 := fun x => x.1.data.toList
  refine ⟨fun o l k i w' => ∃ j : Nat, i = (j : Int) ∧ j ≤ σ.names.length ∧ l = j ∧ Fresh w w' tStr 1 o l k ((inOrder ((σ.names.take j).map bs)).map Go.Proofs.encStr), fun _ _ _ i _ => ((σ.names.length : Int) - i).toNat,
    ⟨0, rfl, Nat.zero_le _, rfl, by rw [List.take_zero, List.map_nil, show inOrder [] = [] from by simp [inOrder], List.map_nil]; exact Fresh.nil (Mod.refl w) _ _⟩, ?_⟩
  rintro o l k _ _ w5 ⟨j, rfl, hj, hlj, F⟩
  have hlj' := hlj.symm
  subst hlj'
  clear hlj
  have H' : ∀ {w' : World}, Vcg.Mod NoB w w' → RIn w' (ext lab w.heap.size (γ .froz)) γ d σ on cn os cs om cm fb h := fun M => H.stp (S := NoC) (Stp.of_nob M _) (fun _ h => h)
  have H5 := H' F.mod
  refine ⟨_, _, _, H5.B.blk.rd1 rfl, fun hlt => ?_, fun hge => ?_⟩
  · have hjl : j < σ.names.length := by omega
    have hx := List.getElem?_eq_getElem hjl
    have hLl : (inOrder ((σ.names.take j).map bs)).length = j := by rw [inOrder_len, List.length_map, List.length_take]; omega
    have htk : (σ.names.take (j + 1)).map bs = (σ.names.take j).map bs ++ [bs σ.names[j]] := by rw [List.take_add_one, hx, List.map_append]; rfl
    have hins := @inOrder_insert ((σ.names.take j).map bs) (bs σ.names[j])
    rw [← htk] at hins
    generalize inOrder ((σ.names.take j).map bs) = L at *
    have hxs : nmOf (bs σ.names[j]) = σ.names[j].1 := by
      show (⟨σ.names[j].1.data.toList.toArray⟩ : ByteArray) = _
      rw [Array.toArray_toList]
    refine ⟨fun n w' => ∃ a : Nat, n = (a : Int) ∧ a ≤ j ∧ Vcg.Mod NoB w5 w' ∧ (∀ (i : Nat) (hi : i < L.length), i < a → L[i] < bs σ.names[j]) ∧ ∀ (h : a < L.length), ¬ L[a] < bs σ.names[j], ?_, ?_⟩
    · refine ⟨UpTo j (fun a w' => Vcg.Mod NoB w5 w' ∧ ∀ (i : Nat) (hi : i < L.length), i < a → L[i] < bs σ.names[j]), Vcg.Left j, ⟨0, rfl, Nat.zero_le _, Mod.refl _, fun i _ h => by omega⟩, ?_⟩
      rintro _ _ w6 ⟨a, rfl, ha, M6, hlow⟩
      rintro _ rfl
      have M7 := M6.step_drew
      refine ⟨fun hlt2 => ?_, fun hge2 => ⟨a, rfl, ha, M7, hlow, fun h => by omega⟩⟩
      have haj : a < j := by omega
      have haL : a < L.length := by omega
      have FM := F.mod' M7
      obtain ⟨g, rfl, hcell⟩ := FM.own.cell (i := a) (v := Go.Proofs.encStr L[a]) (by rw [List.getElem?_map, List.getElem?_eq_getElem haL]; rfl)
      have H7 := H' FM.mod
      obtain ⟨b, f, rfl, _, hc, _⟩ := row_name H7.R.names hx
      refine ⟨_, rfl, by omega, _, by rw [add_at, Int.toNat_natCast, Nat.zero_add]; exact hcell, _, _, _, H7.B.blk.rd1 rfl, _, rfl, by omega, _, by rw [add_at, Int.toNat_natCast]; exact hc, fun hle => ?_, fun hnl => ?_⟩
      · rw [strB_lss, decide_eq_true_eq] at hle
        refine UpTo.next (by rw [wrap_i64_small (by omega) (by omega)]; omega) haj ⟨M7, fun i hi hia => ?_⟩
        by_cases hia2 : i < a
        · exact hlow i hi hia2
        · have : i = a := by omega
          subst this
          exact hle
      · rw [strB_lss, decide_eq_false_iff_not] at hnl
        exact ⟨a, rfl, ha, M7, hlow, fun _ => hnl⟩
    · rintro _ _ w6 ⟨a, rfl, ha, M6, hlow, hup⟩
      have F6 := F.mod' M6
      rintro d23 w7 ⟨rfl, rfl⟩
      have F7 := F6.mod' (Mod.alloc (S := NoB) w6 (.cells #[.string ⟨#[]⟩] 9))
      have Y := Blk.new w6 9 #[.string ⟨#[]⟩]
      obtain ⟨inf, hinf, hz, hsz, hbb⟩ := info_of info_str
      obtain ⟨o8, k8, w8, hr8, F8⟩ := F7.push (tx := tSlStr) (ty := tSlStr) und_slStr hinf hz hsz rfl (src_one und_slStr Y rfl (by simp; rfl)) (by simp only [maxLen]; omega) (by rw [hbb]; omega)
      refine ⟨_, w8, hr8, _, _, _, rfl, ?_⟩
      rintro _ rfl
      have F9 := F8.mod' (Mod.drew (S := NoB) w8)
      have e1 : IntKind.wrap .i64 ((a : Int) + 1) = ((a + 1 : Nat) : Int) := by rw [wrap_i64_small (by omega) (by omega)]; omega
      have e2 : IntKind.wrap .i64 ((j : Int) + 1) = ((j + 1 : Nat) : Int) := by rw [wrap_i64_small (by omega) (by omega)]; omega
      rw [e1, e2]
      refine ⟨by omega, by omega, ?_⟩
      simp only [Int.toNat_natCast]
      obtain ⟨X, w10, n10, hr10, F10, hX⟩ := shift_up (a := a) (t := tSlStr) (tx := tSlStr) (ty := 3) und_slStr (by kernel_rfl) F9 (by rw [List.length_map]; exact hLl) ha (fun v hv => by obtain ⟨_, _, rfl⟩ := List.mem_map.1 hv; rfl)
      refine ⟨_, w10, hr10, n10, rfl, ?_⟩
      have H10 := H' F10.mod
      obtain ⟨b, f, rfl, _, hc, _⟩ := row_name H10.R.names hx
      obtain ⟨g, rfl, hcs, F11⟩ := F10.set (j := a) (by omega) (v := .string σ.names[j].1) rfl
      refine ⟨_, _, _, H10.B.blk.rd1 rfl, _, rfl, by omega, _, by rw [add_at]; exact hc, _, rfl, by omega, ?_⟩
      simp only [add_at, Nat.zero_add]
      refine ⟨hcs, ?_⟩
      rintro _ rfl
      refine ⟨⟨j + 1, rfl, hjl, rfl, ?_⟩, by omega⟩
      rw [hX] at F11
      have hi2 := hins (by omega) hlow hup
      rw [hi2, List.map_append, List.map_cons, List.map_take, List.map_drop]
      have : Go.Proofs.encStr (bs σ.names[j]) = .string σ.names[j].1 := by show Value.string (nmOf (bs σ.names[j])) = _; rw [hxs]
      rw [this]
      exact F11
  · obtain rfl : j = σ.names.length := by omega
    rw [List.take_length] at F
    have hll : (namesOf σ).length = σ.names.length := by unfold namesOf; rw [inOrder_len, List.length_map]
    refine hR _ _ ⟨o, k, F.mod, ?_⟩
    rw [if_neg (by rw [hd]; simp), hll]
    exact ⟨rfl, fun lab c => (F.done (lab := lab) c).1.row⟩
theorem RCount_calls {on os om : Option Addr} {cn cs cm : Nat} {fb : Nat → Nat} {h : Int} (H : RIn w lab γ d σ on cn os cs om cm fb h) :
    Calls Tryz.prog moraineref1_Disk_Count.n #[.pointer (some ⟨d, 0, none⟩)] w (fun e w' => e = .returned (.int .i64 (σ.count : Int)) ∧ w' = w) := by
  refine calls_gen fun R hR => moraineref1_Disk_Count.vc _ _ _ ?_
  unfold moraineref1_Disk_Count.Vc
  simp only [add_at, Nat.zero_add]
  exact ⟨_, H.B.blk.rd1 rfl, hR _ _ ⟨rfl, rfl⟩⟩
end
section
variable {C : Type} {w w' : World} {lab lab' : Nat → C} {c : C} {γ : DC → C} {d : Nat} {σ τ : Dk}
theorem Count_calls (h : DAt w lab γ d σ) : Calls Tryz.prog disk_Disk_Count.n #[.pointer (some ⟨d, 0, none⟩)] w (fun e w' => e = .returned (.int .i64 (σ.count : Int)) ∧ w' = w) := by
  obtain ⟨mN, mS, po, pl, pc, fb, B, Rt⟩ := h
  refine calls_gen fun R hR => disk_Disk_Count.vc _ _ _ ?_
  unfold disk_Disk_Count.Vc
  simp only [add_at, Nat.zero_add]
  exact ⟨_, B.blk.rd1 rfl, hR _ _ ⟨rfl, rfl⟩⟩
theorem Size_calls (h : DAt w lab γ d σ) (hk : Ok σ) (s : Nm) :
    Calls Tryz.prog disk_Disk_Size.n #[.pointer (some ⟨d, 0, none⟩), .string s] w (fun e w' => e = .returned (.tuple #[.int .i64 (((Disk.read σ s).1.length : Nat) : Int), .int .i64 (Disk.read σ s).2]) ∧ ∃ lab', DAt w' lab' γ d σ ∧ Stp (SD γ) w lab w' lab') := by
  refine calls_gen fun R hR => disk_Disk_Size.vc _ _ _ _ ?_
  unfold disk_Disk_Size.Vc
  refine (asked_calls h s).mono ?_
  rintro _ w1 ⟨o, nn, rfl, rfl, hD, hf⟩
  unfold Disk.read at *
  refine ⟨_, _, rfl, fun hne => hR _ _ ?_, fun h0 => ?_⟩
  · obtain ⟨lab1, D1, s1⟩ := hD
    rw [if_neg hne]
    exact ⟨rfl, lab1, D1, s1⟩
  · obtain ⟨f, hf1, hr1, lab1, mN, mS, po, pl, pc, fb, B, Rt, hv, s1⟩ := hf h0
    cases hv
    rw [if_pos h0] at hR
    have hfn : (asked σ s).1 = f := by
      unfold asked at h0 ⊢
      split at h0
      · cases h0
      · rename_i hd
        rw [if_neg hd]
        exact named_fst hr1 hf1
    rw [hfn] at hR
    have hin : f < _ := hk.names.files _ (assoc_some hf1)
    have DW : DAt w1 lab1 γ d σ := ⟨mN, mS, po, pl, pc, fb, B, Rt⟩
    obtain ⟨fo, l, k, so, sl, sc, fpo, fpl, fpc, vs, hF⟩ := Rt.files f hin
    have hbl : l = (σ.fs f).bytes.length := by have := hF.bytes.own.len; simpa using this.symm
    refine ⟨_, rfl, ?_⟩
    simp only [add_at, Nat.zero_add]
    refine ⟨_, _, _, hF.cells.blk.rd1 rfl, hR _ _ ⟨?_, lab1, DW, s1⟩⟩
    rw [hbl]
end
end Go.Proofs.YtkekehngillblaaGreat
end

section
set_option linter.unusedVariables false
set_option linter.unusedSimpArgs false
namespace Go.Proofs.YtkekehngillblaaGreat
open Go Go.Vcg Go.Disk
section
variable {C : Type} {P : Pal C} {w0 w w' : World} {lab0 lab lab' : Nat → C} {d r : Nat} {σ τ σ' τ' : Dk}
theorem alike_calls (h : G2 P w0 lab0 w lab d r σ σ) (hk : Ok σ) :
    Calls Tryz.prog morainelaw1_alike.n #[.pointer (some ⟨d, 0, none⟩), .pointer (some ⟨r, 0, none⟩)] w (fun e w' => e = .returned (.bool true) ∧ ∃ lab', G2 P w0 lab0 w' lab' d r σ σ) := by
  have hnl := names_few hk
  refine calls_gen fun R hR => morainelaw1_alike.vc _ _ _ _ ?_
  unfold morainelaw1_alike.Vc
  -- the rows of names
  have rows : ∃ (ls : List (List UInt8)) (n : Int), ls.length ≤ 1048576 ∧
      Calls Tryz.prog disk_Disk_Names.n #[.pointer (some ⟨d, 0, none⟩)] w (fun e w' => ∃ o k lab', e = .returned (.tuple #[.slice o ls.length k, .int .i64 n]) ∧ G2 P w0 lab0 w' lab' d r σ σ ∧ CRow w' lab' P.out o (ls.map Go.Proofs.encStr)) ∧
      ∀ w lab, G2 P w0 lab0 w lab d r σ σ → Calls Tryz.prog moraineref1_Disk_Names.n #[.pointer (some ⟨r, 0, none⟩)] w (fun e w' => ∃ o k lab', e = .returned (.tuple #[.slice o ls.length k, .int .i64 n]) ∧ G2 P w0 lab0 w' lab' d r σ σ ∧ CRow w' lab' P.out o (ls.map Go.Proofs.encStr) ∧ Stp NoC w lab w' lab') := by
    by_cases hd : σ.down = true
    · refine ⟨[], 17, Nat.zero_le _, (Names_calls h.D hk).mono ?_, fun w lab h => ?_⟩
      · rintro e w' ⟨o, k, M, he⟩
        rw [if_pos hd] at he
        exact ⟨none, 0, _, he, h.z (Stp.of_nob M P.out), CRow.nil _ _ _ _⟩
      · obtain ⟨on, cn, os, cs, om, cm, fb, hh, H⟩ := h.R.in
        refine (RNames_calls H hnl).mono ?_
        rintro e w' ⟨o, k, M, he⟩
        rw [if_pos hd] at he
        exact ⟨none, 0, _, he, h.z (Stp.of_nob M P.out), CRow.nil _ _ _ _, Stp.of_nob M P.out⟩
    · have hd' : σ.down = false := by simpa using hd
      have hll : (namesOf σ).length ≤ 1048576 := by
        unfold namesOf; rw [inOrder_len, List.length_map]; exact hnl
      refine ⟨namesOf σ, 0, hll, (Names_calls2 h.D hk hd' P.out).mono ?_, fun w lab h => ?_⟩
      · rintro e w' ⟨o, k, M, he, hr⟩
        exact ⟨o, k, _, he, h.z (Stp.of_nob M P.out), hr⟩
      · obtain ⟨on, cn, os, cs, om, cm, fb, hh, H⟩ := h.R.in
        refine (RNames_calls H hnl).mono ?_
        rintro e w' ⟨o, k, M, he⟩
        rw [if_neg hd] at he
        exact ⟨o, k, _, he.1, h.z (Stp.of_nob M P.out), he.2 lab P.out, Stp.of_nob M P.out⟩
  obtain ⟨ls, n, hls, hN, hRN⟩ := rows
  refine hN.mono ?_
  rintro _ w1 ⟨o1, k1, lab1, rfl, h1, r1⟩
  refine ⟨_, _, _, _, rfl, (hRN w1 lab1 h1).mono ?_⟩
  rintro _ w2 ⟨o2, k2, lab2, rfl, h2, r2, s2⟩
  replace r1 := r1.stp s2 (fun h => h)
  refine ⟨_, _, _, _, rfl, fun hne => (hne rfl).elim, fun _ => ?_⟩
  refine (Texts_calls r1 r2 (by omega)).mono ?_
  rintro _ w3 ⟨rfl, M3⟩
  have s3 : Stp NoC w2 lab2 w3 (ext lab2 w2.heap.size P.out) := Stp.of_nob M3 _
  replace r1 := r1.stp s3 (fun h => h)
  have h3 := h2.z s3
  refine ⟨_, rfl, fun hf => (by cases hf), fun _ => ?_⟩
  refine (Used_calls h3.D hk).mono ?_
  rintro _ w4 ⟨rfl, M4⟩
  have s4 : Stp NoC w3 (ext lab2 w2.heap.size P.out) w4 (ext (ext lab2 w2.heap.size P.out) w3.heap.size P.out) := Stp.of_nob M4 _
  replace r1 := r1.stp s4 (fun h => h)
  have h4 := h3.z s4
  generalize ext (ext lab2 w2.heap.size P.out) w3.heap.size P.out = lab4 at *
  obtain ⟨on, cn, os, cs, om, cm, fb, hh, H⟩ := h4.R.in
  refine ⟨_, rfl, (RUsed_calls H hk hnl).mono ?_⟩
  rintro _ w5 ⟨rfl, rfl⟩
  refine ⟨_, rfl, fun hne => (hne rfl).elim, fun _ => ?_⟩
  refine (Count_calls h4.D).mono ?_
  rintro _ w6 ⟨rfl, rfl⟩
  refine ⟨_, rfl, (RCount_calls H).mono ?_⟩
  rintro _ w7 ⟨rfl, rfl⟩
  refine ⟨_, rfl, fun hne => (hne rfl).elim, fun _ => ?_⟩
  refine ⟨UpTo ls.length (fun i w' => ∃ lab', G2 P w0 lab0 w' lab' d r σ σ ∧ CRow w' lab' P.out o1 (ls.map Go.Proofs.encStr)), Vcg.Left ls.length, ⟨0, rfl, Nat.zero_le _, lab4, h4, r1⟩, ?_⟩
  clear H h4 r1 s4 h3 s3 s2 r2 h2 h1 M3 M4
  rintro _ _ w8 ⟨i, rfl, hi, lab8, h8, r8⟩
  refine ⟨fun hlt => ?_, fun hge => hR _ _ ⟨rfl, lab8, h8⟩⟩
  have hil : i < ls.length := by omega
  obtain ⟨b, f, rfl, hc⟩ := row_str r8 hil
  refine ⟨_, rfl, by omega, _, by rw [add_at, Int.toNat_natCast]; exact hc, ?_⟩
  refine (Read_calls h8.D hk (nmOf ls[i]) P.out).mono ?_
  rintro _ w9 ⟨o9, k9, rfl, lab9, D9, C9, s9⟩
  have h9 : G2 P w0 lab0 w9 lab9 d r σ σ := ⟨h8.M.trans (s9.mono (fun c h => .inl h)), D9, h8.R.stp s9 P.sd_r⟩
  have r9 := r8.stp s9 P.sd_out
  obtain ⟨b', f', hb', hc9⟩ := row_str r9 hil
  cases hb'
  refine ⟨_, _, _, _, rfl, _, rfl, by omega, _, by rw [add_at, Int.toNat_natCast]; exact hc9, ?_⟩
  obtain ⟨on, cn, os, cs, om, cm, fb, hh, H⟩ := h9.R.in
  refine (RRead_calls H hk hnl (nmOf ls[i])).mono ?_
  rintro _ w10 ⟨rfl, o10, k10, rfl, _, B10⟩
  refine ⟨_, _, _, _, rfl, _, rfl, by omega, _, by rw [add_at, Int.toNat_natCast]; exact hc9, ?_⟩
  refine (Size_calls h9.D hk (nmOf ls[i])).mono ?_
  rintro _ w11 ⟨rfl, lab11, D11, s11⟩
  have h11 : G2 P w0 lab0 w11 lab11 d r σ σ := ⟨h9.M.trans (s11.mono (fun c h => .inl h)), D11, h9.R.stp s11 P.sd_r⟩
  have r11 := r9.stp s11 P.sd_out
  have C11 := C9.stp s11 P.sd_out
  have B11 := B10.stp s11 (P.sd_r _)
  refine ⟨_, _, rfl, fun hne => (hne rfl).elim, fun _ => ⟨fun hne => (hne rfl).elim, fun _ => ?_⟩⟩
  refine (Bytes_calls C11.bytes.rd B11.rd).mono ?_
  rintro _ w12 ⟨rfl, rfl⟩
  refine ⟨_, rfl, fun hf => (by simp at hf), fun _ => ⟨fun hne => (hne rfl).elim, fun _ => ?_⟩⟩
  exact UpTo.next (by rw [wrap_i64_small (by omega) (by omega)]; omega) hil ⟨lab11, h11, r11⟩
end

/-- Colours of DiskPlays. -/
inductive LP where
  | d (x : DC) | r (x : RC) | out | tmp
def palP : Pal LP where
  d := .d
  r := .r
  out := .out
  tmp := .tmp
  dinj := fun a b h => by cases h; rfl
  rinj := fun a b h => by cases h; rfl
  dr := fun _ _ h => by cases h
  dout := fun _ h => by cases h
  dtmp := fun _ h => by cases h
  rout := fun _ h => by cases h
  rtmp := fun _ h => by cases h
  ot := fun h => by cases h
theorem palP_out : ¬ palP.T LP.out := palP.t_out
theorem RdB.cby {C : Type} {w : World} {c : C} {o : Option Addr} {bs : List UInt8} (h : RdB w o bs) : CBy w (fun _ => c) c o bs := CBy.mk h (fun _ _ _ => rfl)
theorem RdI.cints {C : Type} {w : World} {c : C} {o : Option Addr} {is : List Int} (h : RdI w o is) : CInts w (fun _ => c) c o is := fun i hi => by
  obtain ⟨b, g, ho, hb, hc⟩ := h i hi
  exact ⟨b, g, ho, hb, rfl, hc⟩

theorem Plays_calls (w0 : World) (cap : Int) {o0 : Option Addr} {c0 : Nat} {ss : List Sp} (hs : RdSps w0 o0 ss) :
    Calls Tryz.prog morainelaw1_DiskPlays.n #[.int .i64 cap, .slice o0 ss.length c0] w0 (fun e w' => e = .returned (.bool true) ∧ Vcg.Mod NoB w0 w') := by
  refine calls_gen fun R hR => morainelaw1_DiskPlays.vc _ _ _ _ _ _ ?_
  unfold morainelaw1_DiskPlays.Vc
  have hR' : ∀ w', Vcg.Mod NoB w0 w' → R (.returned (.bool true)) w' := fun w' M => hR _ _ ⟨rfl, M⟩
  clear hR
  refine (known_calls w0).mono ?_
  rintro _ w1 ⟨rfl, M1⟩
  refine ⟨_, rfl, fun h => (by cases h), fun _ => ?_⟩
  have s1 : Stp palP.T w0 (fun _ => LP.out) w1 (ext (fun _ => LP.out) w0.heap.size LP.tmp) := Stp.of_nob M1 _
  refine (New_calls w1 (ext (fun _ => LP.out) w0.heap.size LP.tmp) LP.d cap).mono ?_
  rintro e w2 (⟨hc, rfl, rfl⟩ | ⟨hc, d, lab2, rfl, D2, s2⟩)
  · refine ⟨_, _, rfl, fun _ => ⟨fun _ => hR' _ M1, fun h => (h rfl).elim⟩, fun h1 => ⟨fun _ => ⟨fun _ => hR' _ M1, fun h => (h rfl).elim⟩, fun h2 => ?_⟩⟩
    omega
  have hok := new_ok hc
  have s02 := s1.trans (s2.mono (fun _ h => h.elim))
  have M02 : Vcg.Mod NoB w0 w2 := s02.nob (fun k _ hk => palP_out hk)
  refine ⟨_, _, rfl, fun h => by omega, fun _ => ⟨fun h => by omega, fun _ => ⟨fun h => (h rfl).elim, fun _ => ⟨fun h => (by cases h), fun _ => ?_⟩⟩⟩⟩
  refine (few_calls (hs.mod M02)).mono ?_
  rintro _ w2 ⟨rfl, b, rfl, hfew⟩
  refine ⟨_, rfl, fun _ => ⟨fun _ => hR' _ M02, fun h => (h rfl).elim⟩, fun hb => ?_⟩
  have hfew := hfew hb
  have h60 := hfew.1
  refine (RNew_calls w2 lab2 LP.r cap).mono ?_
  rintro _ w3 ⟨r, lab3, rfl, R3, s3⟩
  refine ⟨_, rfl, ?_⟩
  have h3 : G2 palP w0 (fun _ => LP.out) w3 lab3 d r (Disk.new cap) (Disk.new cap) := ⟨s02.trans (s3.mono (fun _ h => h.elim)), D2.stp s3 (fun _ h => h), R3⟩
  refine ⟨fun i w' => ∃ (j : Nat) (lab' : Nat → LP), i = (j : Int) ∧ j ≤ ss.length ∧ G2 palP w0 (fun _ => LP.out) w' lab' d r (runs (Disk.new cap) (ss.take j)) (runs (Disk.new cap) (ss.take j)) ∧ Ok (runs (Disk.new cap) (ss.take j)) ∧ (runs (Disk.new cap) (ss.take j)).count ≤ j,
    fun i _ => ((ss.length : Int) - i).toNat, ⟨0, lab3, rfl, Nat.zero_le _, h3, hok, Nat.le_refl _⟩, ?_⟩
  clear h3 R3 s3 M02 s02 s2 D2 s1 M1
  rintro _ _ w4 ⟨j, lab4, rfl, hj, h4, hk, hcn⟩
  have hM : Vcg.Mod NoB w0 w4 := h4.M.nob (fun k _ hk => palP_out hk)
  refine ⟨fun hlt => ?_, fun hge => hR' _ hM⟩
  have hjl : j < ss.length := by omega
  have hx := List.getElem?_eq_getElem hjl
  obtain ⟨b, g, o1, c1, oi, ci, rfl, hA0⟩ := hs j _ hx
  have hA := hA0.mod hM
  obtain ⟨hb2, hi2⟩ := hfew.2 _ (List.getElem_mem hjl)
  have hst := step_ok hk ss[j] hA0.ra
  have hrt := runs_take (σ := Disk.new cap) hjl
  have ew : IntKind.wrap .i64 ((j : Int) + 1) = ((j + 1 : Nat) : Int) := by rw [wrap_i64_small (by omega) (by omega)]; omega
  rw [ew]
  refine ⟨_, rfl, by omega, _, _, _, _, _, _, _, _, _, _, _, by rw [add_at, Int.toNat_natCast]; exact hA.what, by rw [add_at, add_at, Int.toNat_natCast]; exact hA.na, by rw [add_at, add_at, Int.toNat_natCast]; exact hA.nb, by rw [add_at, add_at, Int.toNat_natCast]; exact hA.at_,
    by rw [add_at, add_at, Int.toNat_natCast]; exact hA.bytes, by rw [add_at, add_at, Int.toNat_natCast]; exact hA.names, by rw [add_at, add_at, Int.toNat_natCast]; exact hA.ints, ?_⟩
  refine (does_calls2 h4 hk (by omega) ss[j] hA0.ra hb2 hi2 hA0.rs (RdB.cby hA0.rb) (RdI.cints hA0.ri)).mono ?_
  rintro _ w5 ⟨rfl, lab5, h5⟩
  refine ⟨_, rfl, fun h => (by cases h), fun _ => ?_⟩
  refine (alike_calls h5 hst.1).mono ?_
  rintro _ w6 ⟨rfl, lab6, h6⟩
  refine ⟨_, rfl, fun h => (by cases h), fun _ => ⟨⟨j + 1, lab6, rfl, hjl, by rw [hrt]; exact h6, by rw [hrt]; exact hst.1, by rw [hrt]; omega⟩, by dsimp only; omega⟩⟩
end Go.Proofs.YtkekehngillblaaGreat
end
