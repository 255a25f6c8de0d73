/- A part of the soundness of our executor of conditions: what it reckons is what the operations of the model do. No program is named here. -/
import Derived.Test.YtkekehngillblaaXPure3
namespace Go.Vcg
set_option linter.unusedVariables false
set_option linter.unusedSimpArgs false
variable {P : Program} {R : Ending → World → Prop}

/-- An operation that comes to a value. -/
theorem exec_val {o : Oper} {ρ : Operand → Value} {s : Sem Value} {v : Value} {w w' : World} (ho : execOp ρ o = (do pure (.value (← s)))) (h : s.run P w = .ok v w') :
    (execOp ρ o).run P w = .ok (.value v) w' := by
  rw [ho]; simp [h]

theorem add_zero' (d : Addr) : d.add 0 = d := by simp [Addr.add]
theorem map_add_zero (o : Option Addr) : o.map (fun d => d.add 0) = o := by cases o <;> simp [add_zero']

theorem slice_sound {t : TypeId} {x : SV pC} {lo hi : Option (SV pC)} {k : SV pC → Prop} {r : Prop} (h : sliceS (pA P R) P t x lo hi k = some r) (hr : r) :
    ∃ sv, (∀ w, (Instr.sliceAt t (toV x) (lo.map toV) (hi.map toV) none).run P w = .ok (toV sv) w) ∧ k sv := by
  unfold sliceS at h
  split at h
  · -- a slice
    rename_i e ol len cap hu
    have hu := und_eq hu (by simp)
    split at h
    · rename_i hsz
      obtain ⟨i, hi'⟩ := Option.isSome_iff_exists.1 hsz
      obtain ⟨hh, r', hh1, hh2, hr', hh3⟩ := hi_sound (P := P) (R := R) .sliceAcap h hr
      obtain ⟨l, hl1, hl2, hl3⟩ := lo_sound (P := P) (R := R) .sliceB hh2 hr'
      have hrun : ∀ w, (Instr.sliceAt t (toV (.slice ol len cap)) (lo.map toV) (hi.map toV) none).run P w = .ok (.slice (if cap = l then ol else Option.map (·.add (l * tsize P e)) ol) (hh - l) (cap - l)) w := by
        intro w
        unfold Instr.sliceAt
        simp only [Sem.run_bind, run_und hu, Result.andThen_ok, toV]
        unfold Instr.slice
        simp only [Sem.run_bind, run_und hu, Result.andThen_ok]
        rw [run_sliceBounds (isS := true) (hh1 w) (hl1 w)]
        simp only [Result.andThen_ok, run_sizeOf hi', Sem.run_pure]
      rcases hl3 with ⟨rfl, hk⟩ | hk
      · refine ⟨_, fun w => ?_, hk⟩
        rw [hrun w]
        simp only [toV, Nat.zero_mul, Nat.sub_zero, map_add_zero, ite_self]
      · refine ⟨_, fun w => ?_, hk⟩; exact hrun w
    · cases h
  · rename_i n e d hu
    have hu := und_eq hu (by simp)
    split at h
    · rename_i hsz
      obtain ⟨i, hi'⟩ := Option.isSome_iff_exists.1 hsz
      obtain ⟨hh, r', hh1, hh2, hr', hh3⟩ := hi_sound (P := P) (R := R) (dflt := n) (most := n) .sliceAlen h hr
      obtain ⟨l, hl1, hl2, hl3⟩ := lo_sound (P := P) (R := R) .sliceB hh2 hr'
      have hrun : ∀ w, (Instr.sliceAt t (toV (.addr d)) (lo.map toV) (hi.map toV) none).run P w = .ok (.slice (some (if n = l then d else Addr.add d (l * tsize P e))) (hh - l) (n - l)) w := by
        intro w
        unfold Instr.sliceAt
        simp only [Sem.run_bind, run_und hu, Result.andThen_ok, toV, Instr.sureAddr, Sem.run_pure]
        rw [run_sliceBounds (isS := false) (hh1 w) (hl1 w)]
        simp only [Result.andThen_ok, run_sizeOf hi', Sem.run_pure]
      rcases hl3 with ⟨rfl, hk⟩ | hk
      · refine ⟨_, fun w => ?_, hk⟩
        rw [hrun w]
        simp only [toV, Nat.zero_mul, Nat.sub_zero, add_zero', ite_self]
        rfl
      · refine ⟨_, fun w => ?_, hk⟩; exact hrun w
    · cases h
  · rename_i s hu
    have hu := und_eq hu (by simp)
    obtain ⟨hh, r', hh1, hh2, hr', hh3⟩ := hi_sound (P := P) (R := R) (dflt := ByteArray.size s) (most := ByteArray.size s) .sliceAlen h hr
    obtain ⟨l, hl1, hl2, hl3⟩ := lo_sound (P := P) (R := R) .sliceB hh2 hr'
    have hrun : ∀ w, (Instr.sliceAt t (toV (.str s)) (lo.map toV) (hi.map toV) none).run P w = .ok (.string (ByteArray.extract s l hh)) w := by
      intro w
      unfold Instr.sliceAt
      simp only [Sem.run_bind, run_und hu, Result.andThen_ok, toV]
      unfold Instr.slice
      simp only [Sem.run_bind, run_und hu, Result.andThen_ok]
      simp only [Option.isSome_none, Bool.false_eq_true, if_false, Sem.run_bind, Sem.run_pure, Result.andThen_ok]
      rw [run_sliceBounds (isS := false) (hh1 w) (hl1 w)]
      simp only [Result.andThen_ok, Sem.run_pure]
    rcases hl3 with ⟨rfl, hk⟩ | hk
    · refine ⟨_, fun w => ?_, hk⟩; exact hrun w
    · refine ⟨_, fun w => ?_, hk⟩; exact hrun w
  · cases h
end Go.Vcg
