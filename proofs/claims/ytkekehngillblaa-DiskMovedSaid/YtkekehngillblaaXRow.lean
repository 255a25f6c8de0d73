/- Arguments: what a reading tells of the value. -/
import Derived.Test.YtkekehngillblaaXEq
import Derived.ProofKit
import Derived.OpenShut
import Derived.ShutString
import Derived.ChangeOld
import Derived.Below
import Derived.Carry
namespace Go.Vcg
open Go

theorem mapM_all {α β : Type} {f : α → Option β} : ∀ {l : List α} {ys : List β}, l.mapM f = some ys → ∀ x ∈ l, ∃ y, f x = some y
  | [], _, _, x, hx => by cases hx
  | a :: l, ys, h, x, hx => by
    rw [List.mapM_cons] at h
    cases ha : f a with
    | none => simp [ha] at h
    | some b =>
      cases hl : l.mapM f with
      | none => simp [ha, hl] at h
      | some bs =>
        rcases List.mem_cons.1 hx with rfl | hx
        · exact ⟨b, ha⟩
        · exact mapM_all hl x hx

section
variable {H : Type} {enc : TypeId × Value → H} {P : Program} {W : World} {sp : Nat → Bool} {held : Bool} {b0 base : Nat} {r : Reach}

/-- An array of numbers. -/
theorem open_arr_int {t e : TypeId} {n : Nat} {k : IntKind} {v : Value} {d : DataW H} {ps : List MemPlace} (ht : P.underlying t = some (.array n e)) (he : P.underlying e = some (.int k)) (hce : P.cellsOf e = 1) (hct : P.cellsOf t = n)
    (hv : Value.okWide P W r b0 t v) (hd : DataW.Trod enc P W base sp held t v d ps) : ∃ f : Nat → Int, v = .agg (arrOf n (fun i => .int k (f i))) ∧ ∀ i, i < n → (Lit.int k (f i)).wf = true := by
  unfold Value.okWide at hv
  rw [ht] at hv
  obtain ⟨cs, rfl, hcs, _⟩ := hv
  rw [hct] at hcs
  obtain ⟨fuel, hf⟩ := hd
  cases fuel with
  | zero => simp [DataW.trod] at hf
  | succ fuel =>
    simp only [DataW.trod, ht, Value.cells] at hf
    rw [if_pos (by simp [hcs, hct])] at hf
    obtain ⟨ys, hy, _⟩ := Option.map_eq_some_iff.1 hf
    have hall : ∀ i, i < n → ∃ m, cs[i]? = some (.int k m) ∧ (Lit.int k m).wf = true := by
      intro i hi
      obtain ⟨y, h1⟩ := mapM_all hy i (List.mem_range.2 hi)
      have h2 : (cs.toList.drop (i * 1)).take 1 = [cs[i]] := by
        rw [Nat.mul_one, List.drop_eq_getElem_cons (by simp; omega)]
        simp
      rw [hce, h2] at h1
      cases fuel with
      | zero => simp [DataW.trod] at h1
      | succ fuel =>
        simp only [DataW.trod, he] at h1
        generalize hc : cs[i] = c at h1
        cases c with
        | int k' m =>
          simp only at h1
          split at h1
          · rename_i hk
            obtain ⟨rfl, hw⟩ := hk
            exact ⟨m, by rw [Array.getElem?_eq_getElem (by omega), hc], hw⟩
          · cases h1
        | _ => simp at h1
    refine ⟨fun i => match cs[i]? with | some (.int _ m) => m | _ => 0, ?_, ?_⟩
    · congr 1
      refine eq_arrOf hcs (fun i hi => ?_)
      obtain ⟨m, hm, _⟩ := hall i hi
      simp only [hm]
    · intro i hi
      obtain ⟨m, hm, hw⟩ := hall i hi
      simp only [hm]; exact hw
end

theorem wf_word {n : Int} (h : (Lit.int .u64 n).wf = true) : ∃ x : BitVec 64, n = uI x := by
  have h2 : 0 ≤ n ∧ n < 18446744073709551616 := by
    simp only [Lit.wf, Bool.and_eq_true, decide_eq_true_eq] at h
    have h1 : IntKind.min .u64 = 0 := by decide
    have h2 : IntKind.max .u64 = 18446744073709551615 := by decide
    omega
  exact ⟨BitVec.ofNat 64 n.toNat, by simp only [uI, BitVec.toNat_ofNat]; omega⟩
section
variable {H : Type} {enc : TypeId × Value → H} {P : Program} {W : World} {sp : Nat → Bool} {held : Bool} {base : Nat}

theorem cells1_some {a : Addr} {vs : List Value} (h : W.cells? base a 1 = some vs) : ∃ v, vs = [v] ∧ W.cell? a = some v := by
  unfold World.cells? at h
  split at h
  · simp only [List.range_one, List.mapM_cons, List.mapM_nil] at h
    have e : a.add 0 = a := by simp [Addr.add]
    rw [e] at h
    cases hc : W.cell? a with
    | none => simp [hc] at h
    | some v => simp [hc] at h; exact ⟨v, h.symm, rfl⟩
  · cases h

/-- What a reading of a slice tells of its elements, one cell each. -/
theorem trod_slice {fuel : Nat} {t e : TypeId} {v : Value} {d : DataW H} {ps : List MemPlace} (ht : P.underlying t = some (.slice e)) (hce : P.cellsOf e = 1)
    (h : DataW.trod enc P W base sp held fuel t [v] = some (d, ps)) :
    ∃ o l c, v = .slice o l c ∧ l ≤ c ∧ c ≤ maxLen ∧ ∀ i, i < l → ∃ b f u d' ps' fuel', o = some ⟨b, f, none⟩ ∧ b < W.heap.size ∧ W.cell? ⟨b, f + i, none⟩ = some u ∧ DataW.trod enc P W base sp held fuel' e [u] = some (d', ps') := by
  cases fuel with
  | zero => simp [DataW.trod] at h
  | succ fuel =>
    cases v with
    | slice o l c =>
      cases o with
      | none =>
        have : l = 0 ∧ c = 0 := by
          rcases l with _ | l <;> rcases c with _ | c <;> simp [DataW.trod, ht] at h ⊢
        obtain ⟨rfl, rfl⟩ := this
        exact ⟨none, 0, 0, rfl, Nat.le_refl _, Nat.zero_le _, fun i hi => (Nat.not_lt_zero _ hi).elim⟩
      | some a =>
        simp only [DataW.trod, ht, hce, Nat.mul_one] at h
        split at h
        · rename_i hc
          refine ⟨some a, l, c, rfl, hc.2.1, hc.2.2, fun i hi => ?_⟩
          obtain ⟨els, hm, _⟩ := Option.bind_eq_some_iff.1 h
          obtain ⟨y, hy⟩ := mapM_all hm i (List.mem_range.2 hi)
          obtain ⟨vs, hv, hd⟩ := Option.bind_eq_some_iff.1 hy
          obtain ⟨u, rfl, hu⟩ := cells1_some hv
          obtain ⟨y0, hy0⟩ := mapM_all hm 0 (List.mem_range.2 (by omega))
          obtain ⟨vs0, hv0, _⟩ := Option.bind_eq_some_iff.1 hy0
          obtain ⟨u0, _, hu0⟩ := cells1_some hv0
          have hspot : a.spot = none := by
            have e : a.add 0 = a := by simp [Addr.add]
            rw [e] at hu0
            unfold World.cell? at hu0
            cases hs : a.spot with
            | none => rfl
            | some x =>
              rw [hs] at hu0
              split at hu0 <;> simp at hu0
          obtain ⟨b, f, spot⟩ := a
          simp only at hspot
          subst hspot
          rw [add_at] at hu
          refine ⟨b, f, u, y.1, y.2, fuel, rfl, ?_, hu, hd⟩
          unfold World.cell? at hu
          split at hu
          · rename_i hb; exact (Array.getElem?_eq_some_iff.1 hb).1
          · cases hu
        · cases h
    | _ => simp [DataW.trod, ht] at h

theorem trod_u8 {fuel : Nat} {e : TypeId} {u : Value} {d : DataW H} {ps : List MemPlace} (he : P.underlying e = some (.int .u8)) (h : DataW.trod enc P W base sp held fuel e [u] = some (d, ps)) : ∃ x : UInt8, u = bV x := by
  cases fuel with
  | zero => simp [DataW.trod] at h
  | succ fuel =>
    simp only [DataW.trod, he] at h
    cases u with
    | int k m =>
      simp only at h
      split at h
      · rename_i hk
        obtain ⟨rfl, hw⟩ := hk
        simp only [Lit.wf, Bool.and_eq_true, decide_eq_true_eq] at hw
        have h1 : IntKind.min .u8 = 0 := by decide
        have h2 : IntKind.max .u8 = 255 := by decide
        refine ⟨UInt8.ofNat m.toNat, ?_⟩
        have : ((UInt8.ofNat m.toNat).toNat : Int) = m := by
          rw [UInt8.toNat_ofNat']; omega
        rw [bV, this]
      · cases h
    | _ => simp at h

theorem trod_bytes {fuel : Nat} {t e : TypeId} {v : Value} {d : DataW H} {ps : List MemPlace} (ht : P.underlying t = some (.slice e)) (he : P.underlying e = some (.int .u8)) (hce : P.cellsOf e = 1)
    (h : DataW.trod enc P W base sp held fuel t [v] = some (d, ps)) : ∃ o c bs, v = .slice o bs.length c ∧ bs.length ≤ c ∧ c ≤ maxLen ∧ RdB W o bs := by
  obtain ⟨o, l, c, rfl, hlc, hcm, hall⟩ := trod_slice ht hce h
  have hx : ∀ i, ∃ x : UInt8, i < l → ∃ b f, o = some ⟨b, f, none⟩ ∧ b < W.heap.size ∧ W.cell? ⟨b, f + i, none⟩ = some (bV x) := fun i => by
    by_cases hi : i < l
    · obtain ⟨b, f, u, d', ps', fuel', ho, hb, hu, hd⟩ := hall i hi
      obtain ⟨x, rfl⟩ := trod_u8 he hd
      exact ⟨x, fun _ => ⟨b, f, ho, hb, hu⟩⟩
    · exact ⟨0, fun h => (hi h).elim⟩
  have hl : ((List.range l).map (fun i => Classical.choose (hx i))).length = l := by simp
  refine ⟨o, c, (List.range l).map (fun i => Classical.choose (hx i)), by rw [hl], by rw [hl]; exact hlc, hcm, fun hne => ?_⟩
  have hl0 : 0 < l := by rw [← hl]; exact List.length_pos_iff.2 hne
  obtain ⟨b, f, ho, hb, _⟩ := Classical.choose_spec (hx 0) hl0
  subst ho
  refine ⟨b, f, rfl, hb, fun i hi => ?_⟩
  rw [hl] at hi
  obtain ⟨b', f', ho, hb', hc⟩ := Classical.choose_spec (hx i) hi
  cases ho
  rw [hc]
  simp [List.getD_eq_getElem?_getD, hi]

theorem trod_i64 {fuel : Nat} {e : TypeId} {u : Value} {d : DataW H} {ps : List MemPlace} (he : P.underlying e = some (.int .i64)) (h : DataW.trod enc P W base sp held fuel e [u] = some (d, ps)) : ∃ m, u = .int .i64 m ∧ -9223372036854775808 ≤ m ∧ m < 9223372036854775808 := by
  cases fuel with
  | zero => simp [DataW.trod] at h
  | succ fuel =>
    simp only [DataW.trod, he] at h
    cases u with
    | int k m =>
      simp only at h
      split at h
      · rename_i hk
        obtain ⟨rfl, hw⟩ := hk
        simp only [Lit.wf, Bool.and_eq_true, decide_eq_true_eq] at hw
        have h1 : IntKind.min .i64 = -9223372036854775808 := by decide
        have h2 : IntKind.max .i64 = 9223372036854775807 := by decide
        exact ⟨m, rfl, by omega, by omega⟩
      · cases h
    | _ => simp at h
/-- An argument of type []int. -/
theorem trod_ints {fuel : Nat} {t e : TypeId} {v : Value} {d : DataW H} {ps : List MemPlace} (ht : P.underlying t = some (.slice e)) (he : P.underlying e = some (.int .i64)) (hce : P.cellsOf e = 1)
    (h : DataW.trod enc P W base sp held fuel t [v] = some (d, ps)) : ∃ o l c, v = .slice o l c ∧ l ≤ c ∧ c ≤ maxLen ∧ ∃ f : Nat → Int, (∀ i, i < l → ∃ b g, o = some ⟨b, g, none⟩ ∧ b < W.heap.size ∧ W.cell? ⟨b, g + i, none⟩ = some (.int .i64 (f i))) ∧ ∀ i, i < l → -9223372036854775808 ≤ f i ∧ f i < 9223372036854775808 := by
  obtain ⟨o, l, c, rfl, hlc, hcm, hall⟩ := trod_slice ht hce h
  have hx : ∀ i, ∃ x : Int, i < l → (∃ b g, o = some ⟨b, g, none⟩ ∧ b < W.heap.size ∧ W.cell? ⟨b, g + i, none⟩ = some (.int .i64 x)) ∧ -9223372036854775808 ≤ x ∧ x < 9223372036854775808 := fun i => by
    by_cases hi : i < l
    · obtain ⟨b, f, u, d', ps', fuel', ho, hb, hu, hd⟩ := hall i hi
      obtain ⟨x, rfl, h1, h2⟩ := trod_i64 he hd
      exact ⟨x, fun _ => ⟨⟨b, f, ho, hb, hu⟩, h1, h2⟩⟩
    · exact ⟨0, fun h => (hi h).elim⟩
  exact ⟨o, l, c, rfl, hlc, hcm, fun i => Classical.choose (hx i), fun i hi => (Classical.choose_spec (hx i) hi).1, fun i hi => (Classical.choose_spec (hx i) hi).2⟩

/-- An argument of type [][]byte. -/
theorem trod_bytess {fuel : Nat} {t e e2 : TypeId} {v : Value} {d : DataW H} {ps : List MemPlace} (ht : P.underlying t = some (.slice e)) (he : P.underlying e = some (.slice e2)) (he2 : P.underlying e2 = some (.int .u8)) (hce : P.cellsOf e = 1) (hce2 : P.cellsOf e2 = 1)
    (h : DataW.trod enc P W base sp held fuel t [v] = some (d, ps)) : ∃ o c ls, v = .slice o ls.length c ∧ ls.length ≤ c ∧ c ≤ maxLen ∧ RdBB W o ls ∧ ∀ b ∈ ls, b.length ≤ maxLen := by
  obtain ⟨o, l, c, rfl, hlc, hcm, hall⟩ := trod_slice ht hce h
  have hx : ∀ i, ∃ x : List UInt8, x.length ≤ maxLen ∧ (i < l → ∃ b f oi ci, o = some ⟨b, f, none⟩ ∧ b < W.heap.size ∧ W.cell? ⟨b, f + i, none⟩ = some (.slice oi x.length ci) ∧ RdB W oi x) := fun i => by
    by_cases hi : i < l
    · obtain ⟨b, f, u, d', ps', fuel', ho, hb, hu, hd⟩ := hall i hi
      obtain ⟨oi, ci, x, rfl, h1, h2, hr⟩ := trod_bytes he he2 hce2 hd
      exact ⟨x, Nat.le_trans h1 h2, fun _ => ⟨b, f, oi, ci, ho, hb, hu, hr⟩⟩
    · exact ⟨[], Nat.zero_le _, fun h => (hi h).elim⟩
  have hl : ((List.range l).map (fun i => Classical.choose (hx i))).length = l := by simp
  refine ⟨o, c, (List.range l).map (fun i => Classical.choose (hx i)), by rw [hl], by rw [hl]; exact hlc, hcm, fun i hi => ?_, fun b hb => ?_⟩
  · rw [hl] at hi
    obtain ⟨b, f, oi, ci, ho, hb, hc, hr⟩ := (Classical.choose_spec (hx i)).2 hi
    have e : ((List.range l).map (fun i => Classical.choose (hx i))).getD i [] = Classical.choose (hx i) := by simp [List.getD_eq_getElem?_getD, hi]
    rw [e]
    exact ⟨b, f, oi, ci, ho, hb, hc, hr⟩
  · obtain ⟨i, _, rfl⟩ := List.mem_map.1 hb
    exact (Classical.choose_spec (hx i)).1
end

theorem lanes_of_words {f : Nat → Int} (hf : ∀ i, i < 25 → (Lit.int .u64 (f i)).wf = true) : ∃ s : St, arrOf 25 (fun i => Value.int .u64 (f i)) = lanesA s := by
  have h1 : ∀ i, ∃ x : BitVec 64, i < 25 → f i = uI x := fun i => by
    by_cases hi : i < 25
    · obtain ⟨x, hx⟩ := wf_word (hf i hi); exact ⟨x, fun _ => hx⟩
    · exact ⟨0, fun h => (hi h).elim⟩
  exact ⟨fun i => Classical.choose (h1 i), arrOf_congr (fun i hi => by rw [Classical.choose_spec (h1 i) hi])⟩
end Go.Vcg
