/- A part of the soundness of our executor of conditions: what it reckons is what the operations of the model do. No program is named here. -/
import Derived.Test.YtkekehngillblaaXPure2
namespace Go.Vcg
set_option linter.unusedVariables false
variable {P : Program} {R : Ending → World → Prop}

theorem map_some {α β : Type} {o : Option α} {f : α → β} {r : β} (h : o.map f = some r) : ∃ a, o = some a ∧ f a = r := by
  cases o with
  | none => cases h
  | some a => exact ⟨a, rfl, by simpa using h⟩

theorem run_boundS {x : SV pC} {most : Nat} {k : Nat → Prop} {r : Prop} (h : boundS (pA P R) x most k = some r) (hr : r) (code : BoundsCode) :
    ∃ n, (∀ w, (Instr.sliceBound (toV x) most code).run P w = .ok n w) ∧ n ≤ most ∧ k n := by
  unfold boundS at h
  split at h
  · rename_i n
    split at h
    · rename_i h0
      cases h
      obtain ⟨h1, hk⟩ := hr
      have h1 : n.toNat ≤ most := h1
      refine ⟨n.toNat, fun w => ?_, h1, hk⟩
      simp only [Instr.sliceBound, toV, asIntOf, Sem.run_bind, Sem.run_pure, Result.andThen_ok]
      rw [if_pos ⟨h0, by omega⟩]
      rfl
    · cases h
  · rename_i n
    cases h
    obtain ⟨⟨h0, h1⟩, hk⟩ := hr
    refine ⟨Int.toNat n, fun w => ?_, Int.toNat_le.2 h1, hk⟩
    simp only [Instr.sliceBound, toV, asIntOf, Sem.run_bind, Sem.run_pure, Result.andThen_ok]
    rw [if_pos ⟨h0, h1⟩]
    rfl
  · cases h

theorem run_bound_lit {k : IntKind} {n : Int} {most : Nat} (h0 : 0 ≤ n) (h1 : n.toNat ≤ most) (code : BoundsCode) (w : World) :
    (Instr.sliceBound (.int k n) most code).run P w = .ok n.toNat w := by
  simp only [Instr.sliceBound, asIntOf, Sem.run_bind, Sem.run_pure, Result.andThen_ok]
  rw [if_pos ⟨h0, by omega⟩]
  rfl
theorem run_bound_int {k : IntKind} {n : Int} {most : Nat} (h : 0 ≤ n ∧ n ≤ (most : Nat)) (code : BoundsCode) (w : World) :
    (Instr.sliceBound (.int k n) most code).run P w = .ok n.toNat w := by
  simp only [Instr.sliceBound, asIntOf, Sem.run_bind, Sem.run_pure, Result.andThen_ok]
  rw [if_pos h]
  rfl

/-- The upper bound of a slice expression: how it is asked, and what comes of it. -/
theorem hi_sound {hi : Option (SV pC)} {dflt most : Nat} {low : Nat → Option Prop} {r : Prop} (code : BoundsCode) (h : hiS (pA P R) hi dflt most low = some r) (hr : r) :
    ∃ n r', (∀ w, (match hi.map toV with
      | some v => Instr.sliceBound v most code
      | none => pure dflt : Sem Nat).run P w = .ok n w) ∧ low n = some r' ∧ r' ∧ (hi = none ∧ n = dflt ∨ n ≤ most) := by
  unfold hiS at h
  split at h
  · exact ⟨dflt, r, fun w => rfl, h, hr, .inl ⟨rfl, rfl⟩⟩
  · rename_i k n
    split at h
    · rename_i h0
      obtain ⟨r', hl, rfl⟩ := map_some h
      obtain ⟨h1, hr⟩ := hr
      have h1 : n.toNat ≤ most := h1
      exact ⟨n.toNat, r', fun w => run_bound_lit h0 h1 code w, hl, hr, .inr h1⟩
    · cases h
  · rename_i k n
    obtain ⟨r', hl, rfl⟩ := map_some h
    obtain ⟨h1, hr⟩ := hr
    exact ⟨Int.toNat n, r', fun w => run_bound_int h1 code w, hl, hr, .inr (Int.toNat_le.2 h1.2)⟩
  · cases h

theorem lo_sound {lo : Option (SV pC)} {hgh : Nat} {k0 : Prop} {k : Nat → Prop} {r : Prop} (code : BoundsCode) (h : loS (pA P R) lo hgh k0 k = some r) (hr : r) :
    ∃ n, (∀ w, (match lo.map toV with
      | some v => Instr.sliceBound v hgh code
      | none => pure 0 : Sem Nat).run P w = .ok n w) ∧ n ≤ hgh ∧ ((n = 0 ∧ k0) ∨ k n) := by
  unfold loS at h
  split at h
  · cases h; exact ⟨0, fun w => rfl, Nat.zero_le _, .inl ⟨rfl, hr⟩⟩
  · cases h
    exact ⟨0, fun w => run_bound_lit (n := 0) (by omega) (by simp) code w, Nat.zero_le _, .inl ⟨rfl, hr⟩⟩
  · obtain ⟨n, h1, h2, h3⟩ := run_boundS h hr code
    exact ⟨n, h1, h2, .inr h3⟩

theorem run_sliceBounds {isS : Bool} {len cap : Nat} {lo hi : Option Value} {h l : Nat} {w : World}
    (hh : (match hi with
      | some v => Instr.sliceBound v cap (if isS then .sliceAcap else .sliceAlen)
      | none => pure len : Sem Nat).run P w = .ok h w)
    (hl : (match lo with
      | some v => Instr.sliceBound v h .sliceB
      | none => pure 0 : Sem Nat).run P w = .ok l w) :
    (Instr.sliceBounds isS len cap lo hi none).run P w = .ok (l, h, cap) w := by
  unfold Instr.sliceBounds
  cases hi with
  | none =>
    have : len = h := by simpa using hh
    subst this
    cases lo with
    | none =>
      have : 0 = l := by simpa using hl
      subst this
      rfl
    | some v => simp at hl ⊢; simp [hl]
  | some u =>
    cases lo with
    | none =>
      have : 0 = l := by simpa using hl
      subst this
      simp at hh ⊢; simp [hh]
    | some v => simp at hh hl ⊢; simp [hh, hl]
end Go.Vcg
