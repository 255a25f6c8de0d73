/- Arguments: what a reading tells of the value. -/
import Derived.Test.YtmnhdppcphficaaXEq
import Derived.ProofKit
import Derived.OpenShut
import Derived.ShutString
import Derived.ChangeOld
import Derived.Below
import Derived.Carry
namespace Go.Vcg
open Go

theorem mapM_all {α β : Type} {f : α → Option β} : ∀ {l : List α} {ys : List β}, l.mapM f = some ys → ∀ x ∈ l, ∃ y, f x = some y
  | [], _, _, x, hx => by cases hx
  | a :: l, ys, h, x, hx => by
    rw [List.mapM_cons] at h
    cases ha : f a with
    | none => simp [ha] at h
    | some b =>
      cases hl : l.mapM f with
      | none => simp [ha, hl] at h
      | some bs =>
        rcases List.mem_cons.1 hx with rfl | hx
        · exact ⟨b, ha⟩
        · exact mapM_all hl x hx

section
variable {H : Type} {enc : TypeId × Value → H} {P : Program} {W : World} {sp : Nat → Bool} {held : Bool} {b0 base : Nat} {r : Reach}

/-- An array of numbers. -/
theorem open_arr_int {t e : TypeId} {n : Nat} {k : IntKind} {v : Value} {d : DataW H} {ps : List MemPlace} (ht : P.underlying t = some (.array n e)) (he : P.underlying e = some (.int k)) (hce : P.cellsOf e = 1) (hct : P.cellsOf t = n)
    (hv : Value.okWide P W r b0 t v) (hd : DataW.Trod enc P W base sp held t v d ps) : ∃ f : Nat → Int, v = .agg (arrOf n (fun i => .int k (f i))) ∧ ∀ i, i < n → (Lit.int k (f i)).wf = true := by
  unfold Value.okWide at hv
  rw [ht] at hv
  obtain ⟨cs, rfl, hcs, _⟩ := hv
  rw [hct] at hcs
  obtain ⟨fuel, hf⟩ := hd
  cases fuel with
  | zero => simp [DataW.trod] at hf
  | succ fuel =>
    simp only [DataW.trod, ht, Value.cells] at hf
    rw [if_pos (by simp [hcs, hct])] at hf
    obtain ⟨ys, hy, _⟩ := Option.map_eq_some_iff.1 hf
    have hall : ∀ i, i < n → ∃ m, cs[i]? = some (.int k m) ∧ (Lit.int k m).wf = true := by
      intro i hi
      obtain ⟨y, h1⟩ := mapM_all hy i (List.mem_range.2 hi)
      have h2 : (cs.toList.drop (i * 1)).take 1 = [cs[i]] := by
        rw [Nat.mul_one, List.drop_eq_getElem_cons (by simp; omega)]
        simp
      rw [hce, h2] at h1
      cases fuel with
      | zero => simp [DataW.trod] at h1
      | succ fuel =>
        simp only [DataW.trod, he] at h1
        generalize hc : cs[i] = c at h1
        cases c with
        | int k' m =>
          simp only at h1
          split at h1
          · rename_i hk
            obtain ⟨rfl, hw⟩ := hk
            exact ⟨m, by rw [Array.getElem?_eq_getElem (by omega), hc], hw⟩
          · cases h1
        | _ => simp at h1
    refine ⟨fun i => match cs[i]? with | some (.int _ m) => m | _ => 0, ?_, ?_⟩
    · congr 1
      refine eq_arrOf hcs (fun i hi => ?_)
      obtain ⟨m, hm, _⟩ := hall i hi
      simp only [hm]
    · intro i hi
      obtain ⟨m, hm, hw⟩ := hall i hi
      simp only [hm]; exact hw
end

theorem wf_word {n : Int} (h : (Lit.int .u64 n).wf = true) : ∃ x : BitVec 64, n = uI x := by
  have h2 : 0 ≤ n ∧ n < 18446744073709551616 := by
    simp only [Lit.wf, Bool.and_eq_true, decide_eq_true_eq] at h
    have h1 : IntKind.min .u64 = 0 := by decide
    have h2 : IntKind.max .u64 = 18446744073709551615 := by decide
    omega
  exact ⟨BitVec.ofNat 64 n.toNat, by simp only [uI, BitVec.toNat_ofNat]; omega⟩
theorem lanes_of_words {f : Nat → Int} (hf : ∀ i, i < 25 → (Lit.int .u64 (f i)).wf = true) : ∃ s : St, arrOf 25 (fun i => Value.int .u64 (f i)) = lanesA s := by
  have h1 : ∀ i, ∃ x : BitVec 64, i < 25 → f i = uI x := fun i => by
    by_cases hi : i < 25
    · obtain ⟨x, hx⟩ := wf_word (hf i hi); exact ⟨x, fun _ => hx⟩
    · exact ⟨0, fun h => (hi h).elim⟩
  exact ⟨fun i => Classical.choose (h1 i), arrOf_congr (fun i hi => by rw [Classical.choose_spec (h1 i) hi])⟩
end Go.Vcg
