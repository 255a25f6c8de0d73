/- Equality of arrays of numbers. -/
import Derived.Test.YtkekehngillblaaXOwn
import Derived.Laws.StructEq
namespace Go.Vcg

section
variable {P : Program} {w : World} {t e : TypeId} {n : Nat} {k : IntKind}

theorem run_equalIn_arr (d : Nat) (ht : P.underlying t = some (.array n e)) (he : P.underlying e = some (.int k)) (hsz : (P.info? e).map (·.size) = some 1) (f g : Nat → Int) :
    (Op.equalIn (d + 2) t (.agg (arrOf n (fun i => .int k (f i)))) (.agg (arrOf n (fun i => .int k (g i))))).run P w = .ok (decide (∀ i, i < n → f i = g i)) w := by
  obtain ⟨inf, hi1, hi2⟩ := Option.map_eq_some_iff.1 hsz
  have hs : ∀ w, (sizeOf e).run P w = .ok 1 w := fun w => by simp [sizeOf, typeInfo, hi1, hi2]
  have hall : decide (∀ i, i < n → f i = g i) = ((List.range' 0 n 1).all fun i => f i == g i) := by
    rw [Bool.eq_iff_iff]
    simp only [decide_eq_true_eq, List.all_eq_true, List.mem_range'_1, Nat.zero_le, true_and, Nat.zero_add, beq_iff_eq]
  rw [hall, Op.equalIn]
  simp only [Sem.run_bind, run_underlying ht, Result.andThen_ok, hs, Std.Legacy.Range.forIn_eq_forIn_range', Std.Legacy.Range.size, Nat.sub_zero, Nat.add_sub_cancel, Nat.div_one]
  have hl : ∀ i ∈ List.range' 0 n 1, i < n := fun i hi => by simpa using (List.mem_range'_1.1 hi).2
  generalize List.range' 0 n 1 = l at hl ⊢
  induction l with
  | nil => simp
  | cons i l ih =>
    have hi : i < n := hl i (by simp)
    have px : ∀ h : Nat → Int, (part e (arrOf n (fun i => Value.int k (h i))) (i * 1)).run P w = .ok (.int k (h i)) w := by
      intro h
      simp only [Nat.mul_one]
      simp [part, isAgg, run_underlying he, get_arrOf_lt hi]
    have pe : (Op.equalIn (d + 1) e (.int k (f i)) (.int k (g i))).run P w = .ok (f i == g i) w := run_equalIn_int w d e k k _ _ he
    simp only [List.forIn_cons, Sem.run_bind, px, pe, Result.andThen_ok, List.all_cons]
    cases hb : (f i == g i)
    · simp
    · simp only [Bool.not_true, Bool.false_eq_true, if_false, Sem.run_pure, Result.andThen_ok, Bool.true_and]
      exact ih fun j hj => hl j (by simp [hj])

theorem semEq_arr (ht : P.underlying t = some (.array n e)) (he : P.underlying e = some (.int k)) (hsz : (P.info? e).map (·.size) = some 1) (hg : P.eqGuardType P.depth t = false) (x y : Operand) (f g : Nat → Int) :
    Sem.run P (semBin .eql t x y (.agg (arrOf n (fun i => .int k (f i)))) (.agg (arrOf n (fun i => .int k (g i))))) w = .ok (.bool (decide (∀ i, i < n → f i = g i))) w := by
  have hgd : (eqGuard .eql t x y (.agg (arrOf n (fun i => .int k (f i)))) (.agg (arrOf n (fun i => .int k (g i))))).run P w = .ok () w := by
    have hpg : ∀ w, Sem.run P program w = .ok P w := fun w => rfl
    simp [eqGuard, hpg, hg]
  rw [semBin, Sem.run_bind, hgd, Result.andThen_ok, run_eql_struct, run_equalIn_arr 9998 ht he hsz]
  rfl
theorem semNe_arr (ht : P.underlying t = some (.array n e)) (he : P.underlying e = some (.int k)) (hsz : (P.info? e).map (·.size) = some 1) (hg : P.eqGuardType P.depth t = false) (x y : Operand) (f g : Nat → Int) :
    Sem.run P (semBin .neq t x y (.agg (arrOf n (fun i => .int k (f i)))) (.agg (arrOf n (fun i => .int k (g i))))) w = .ok (.bool (!decide (∀ i, i < n → f i = g i))) w := by
  have hgd : (eqGuard .neq t x y (.agg (arrOf n (fun i => .int k (f i)))) (.agg (arrOf n (fun i => .int k (g i))))).run P w = .ok () w := by
    have hpg : ∀ w, Sem.run P program w = .ok P w := fun w => rfl
    simp [eqGuard, hpg, hg]
  rw [semBin, Sem.run_bind, hgd, Result.andThen_ok, run_neq_struct, run_equalIn_arr 9998 ht he hsz]
  rfl
end

/-- A slice's elements, marked as a string's: nothing that is read turns. -/
theorem convert_same {P : Program} {w : World} {t e : TypeId} {b l c : Nat} {te : TypeId} {cs : Array Value} (ht : P.underlying t = some (.slice e)) (he : P.underlying e = some (.int .u8)) (h : Blk w b te cs) :
    ∃ w', Sem.run P (convert t t (.slice (some ⟨b, 0, none⟩) l c)) w = .ok (.slice (some ⟨b, 0, none⟩) l c) w' ∧ Mod (· = b) w w' ∧ ∀ a, w'.cell? a = w.cell? a := by
  have hb : w.heap[b]? = some (.cells cs te (0, 0)) := h
  refine ⟨w.freeze ⟨b, cs.size, none⟩ 1, ?_, ?_, ?_⟩
  · have h1 : ∀ w : World, Sem.run P (shape b) w = .ok (w.shape? b) w := fun w => rfl
    have h2 : ∀ (a : Addr) (n : Nat) (w : World), Sem.run P (freeze a n) w = .ok () (w.freeze a n) := fun a n w => rfl
    have h3 : w.shape? b = some (te, cs.size) := by simp [World.shape?, hb]
    simp [convert, run_underlying ht, run_underlying he, markStringish, h1, h2, h3]
  · unfold World.freeze
    rw [if_neg (by decide)]
    exact ⟨rfl, rfl, rfl, by simp, fun k hk hn => by simp only [Array.getElem?_modify]; rw [if_neg (fun e => hn e.symm)]⟩
  · intro a
    unfold World.freeze
    rw [if_neg (by decide)]
    simp only [World.cell?, Array.getElem?_modify]
    by_cases ha : b = a.block
    · rw [if_pos ha, ← ha, hb]; rfl
    · rw [if_neg ha]

end Go.Vcg
