/- The disk as plain Lean: names that move; what is synced; what survives whole. -/
import Derived.Test.YtkekehngillblaaDL3
set_option linter.unusedVariables false
set_option linter.unusedSimpArgs false
namespace Go.Disk
open Go.Vcg
/-! ### one name behind the other -/
def chr (i : Nat) : Nm := ⟨#[UInt8.ofNat (97 + i)]⟩
structure Moved (k : Nat) (d : Dk) : Prop where
  quiet : Quiet d
  names : d.names = [(chr k, 0)]
  sure : d.sure = [(chr 0, 0)]
  pend : d.pend = (List.range k).map fun i => Chg.ren (chr i) (chr (i + 1))
theorem chr_right : ∀ i : Fin 26, right (chr i) = true := by decide +kernel
theorem chr_ne : ∀ i : Fin 25, chr i ≠ chr (i + 1) := by decide +kernel
theorem ren_one {k : Nat} (hk : k < 25) : Chg.on [(chr k, 0)] (.ren (chr k) (chr (k + 1))) = [(chr (k + 1), 0)] := by
  have h := chr_ne ⟨k, hk⟩
  simp [Chg.on, assoc, put, without]
theorem Moved.step {k : Nat} {d : Dk} (h : Moved k d) (hk : k < 25) : (rename d (chr k) (chr (k + 1))).2 = 0 ∧ Moved (k + 1) (rename d (chr k) (chr (k + 1))).1 := by
  have e : rename d (chr k) (chr (k + 1)) = (does { d with count := d.count + 1 } (.ren (chr k) (chr (k + 1))), 0) := by
    unfold rename
    rw [begins_quiet h.quiet]
    have h1 : right (chr k) = true := chr_right ⟨k, by omega⟩
    have h2 : right (chr (k + 1)) = true := chr_right ⟨k + 1, by omega⟩
    have h3 : assoc (chr k) d.names = some 0 := by rw [h.names]; simp [assoc]
    have h4 : chr k ≠ chr (k + 1) := chr_ne ⟨k, hk⟩
    simp only [if_true, h1, h2, Bool.and_self, h3, if_neg h4]
  rw [e]
  refine ⟨rfl, ⟨h.quiet.fail, h.quiet.halt, h.quiet.down⟩, ?_, h.sure, ?_⟩
  · show Chg.on d.names (.ren (chr k) (chr (k + 1))) = _
    rw [h.names, ren_one hk]
  · show d.pend ++ [Chg.ren (chr k) (chr (k + 1))] = _
    rw [h.pend, List.range_succ, List.map_append]; rfl
theorem moved_fold {k : Nat} (hk : k ≤ 25) : ∀ m, m ≤ k → (((List.range k).map fun i => Chg.ren (chr i) (chr (i + 1))).take m).foldl Chg.on [(chr 0, 0)] = [(chr m, 0)]
  | 0, _ => rfl
  | m + 1, h => by
    rw [foldl_take_succ _ _ _ (by simp; omega), moved_fold hk m (by omega)]
    simp only [List.getElem_map, List.getElem_range]
    exact ren_one (by omega)
theorem Moved.end {k : Nat} {d : Dk} (h : Moved k d) (hk : k ≤ 25) (n : Int) : (restart d n []).names = [(chr (max 0 (min n k)).toNat, 0)] ∧ (restart d n []).down = false := by
  refine ⟨?_, rfl⟩
  show (d.pend.take (min (max n 0) d.pend.length).toNat).foldl Chg.on d.sure = _
  have hl : d.pend.length = k := by rw [h.pend]; simp
  rw [hl, h.pend, h.sure, moved_fold hk _ (by omega)]
  congr 3
  omega
theorem Moved.start : (create (new 100) (chr 0)).2 = 0 ∧ (syncDir (create (new 100) (chr 0)).1).2 = 0 ∧ Moved 0 (syncDir (create (new 100) (chr 0)).1).1 :=
  ⟨rfl, rfl, ⟨rfl, rfl, rfl⟩, rfl, rfl, rfl⟩
end Go.Disk
