/- The operations that yield their value in whatever world. -/
import Derived.Test.YtkekehngillblaaXOps
namespace Go.Vcg
set_option linter.unusedVariables false
variable {P : Program} {R : Ending → World → Prop}

theorem und_eq {t : TypeId} {d : TypeDesc} (h : und P t = d) (hd : d ≠ .invalid) : P.underlying t = some d := by
  unfold und at h
  cases hu : P.underlying t with
  | none => rw [hu] at h; exact absurd h.symm hd
  | some e => rw [hu] at h; simpa using h
theorem run_sizeOf {t : TypeId} {i : TypeInfo} (h : P.info? t = some i) (w : World) : (sizeOf t).run P w = .ok (tsize P t) w := by
  simp [sizeOf, typeInfo, h, tsize]
theorem info_of_und {t : TypeId} {d : TypeDesc} (h : P.underlying t = some d) : ∃ i, P.info? t = some i := by
  unfold Program.underlying at h
  cases hi : P.info? t with
  | none => rw [hi] at h; cases h
  | some i => exact ⟨i, rfl⟩
theorem run_isAgg {t : TypeId} {d : TypeDesc} (h : P.underlying t = some d) (w : World) : (isAgg t).run P w = .ok (isAggT d) w := by
  unfold isAgg
  simp only [Sem.run_bind, run_und h, Result.andThen_ok]
  cases d <;> rfl
theorem zero_und {t : TypeId} {z : Value} (h : zeroOf P t = some z) (w : World) : (zeroValue t).run P w = .ok z w := by
  unfold zeroOf at h
  cases hi : P.info? t with
  | none => rw [hi] at h; cases h
  | some i =>
    rw [hi] at h
    simp only [Option.bind_some] at h
    simp [zeroValue, typeInfo, hi, h]

theorem toVs_getElem? (l : List (SV pC)) (i : Nat) : (toVs l)[i]? = (l[i]?).map toV := by rw [toVs_eq]; simp
theorem toVs_length (l : List (SV pC)) : (toVs l).length = l.length := by rw [toVs_eq]; simp

/-- What exCell asks of a fact: there is a form that meets it. -/
theorem exCell_spec : ∀ (c : Cell) (f : SV pC → Prop), exCell (pA P R) c f → ∃ sv, f sv
  | .int _, _, ⟨n, h⟩ => ⟨_, h⟩
  | .bool, _, ⟨n, h⟩ => ⟨_, h⟩
  | .str, _, ⟨n, h⟩ => ⟨_, h⟩
  | .ptr, _, ⟨n, h⟩ => ⟨_, h⟩
  | .slice, _, ⟨o, l, c, h⟩ => ⟨_, h⟩
  | .map, _, ⟨n, h⟩ => ⟨_, h⟩
  | .raw, _, ⟨n, h⟩ => ⟨_, h⟩
theorem exCells_spec : ∀ (cs : List Cell) (f : List (SV pC) → Prop), exCells (pA P R) cs f → ∃ svs, svs.length = cs.length ∧ f svs
  | [], _, h => ⟨[], rfl, h⟩
  | c :: cs, f, h => by
    obtain ⟨sv, h⟩ := exCell_spec c _ h
    obtain ⟨svs, hl, h⟩ := exCells_spec cs _ h
    exact ⟨sv :: svs, by simp [hl], h⟩
theorem exShape1_spec : ∀ (s : Shape1) (f : SV pC → Prop), exShape1 (pA P R) s f → ∃ sv, f sv
  | .cell c, f, h => exCell_spec c f h
  | .agg cs, f, h => let ⟨svs, _, h⟩ := exCells_spec cs _ h; ⟨_, h⟩
  | .big _, f, ⟨l, h⟩ => ⟨_, h⟩
theorem exShapes1_spec : ∀ (ss : List Shape1) (f : List (SV pC) → Prop), exShapes1 (pA P R) ss f → ∃ svs, f svs
  | [], _, h => ⟨[], h⟩
  | s :: ss, f, h => by
    obtain ⟨sv, h⟩ := exShape1_spec s _ h
    obtain ⟨svs, h⟩ := exShapes1_spec ss _ h
    exact ⟨sv :: svs, h⟩
theorem exShape_spec : ∀ (s : Shape) (f : SV pC → Prop), exShape (pA P R) s f → ∃ sv, f sv
  | .one s, f, h => exShape1_spec s f h
  | .tup ss, f, h => let ⟨svs, h⟩ := exShapes1_spec ss _ h; ⟨_, h⟩

theorem partsEq_spec : ∀ (svs : List (SV pC)) (l : Array Value) (off i : Nat) (r : Prop), partsEq (pA P R) svs l off i r → (∀ j sv, svs[j]? = some sv → lget l (off + (i + j)) = toV sv) ∧ r
  | [], _, _, _, _, h => ⟨by simp, h⟩
  | v :: vs, l, off, i, r, h => by
    obtain ⟨h1, h2⟩ := h
    obtain ⟨h3, h4⟩ := partsEq_spec vs l off (i + 1) r h2
    refine ⟨fun j sv hj => ?_, h4⟩
    cases j with
    | zero => simp at hj; subst hj; exact h1
    | succ j =>
      simp at hj
      have := h3 j sv hj
      rw [show off + (i + (j + 1)) = off + (i + 1 + j) from by omega]
      exact this

theorem cellsOf_shape {t : TypeId} {cs : List Cell} (h : shape1 P t = .agg cs) : isAggT (und P t) = true ∧ cs.length = tsize P t := by
  unfold shape1 at h
  split at h
  · split at h
    · rename_i hu hc; cases h; exact ⟨by rw [hu]; rfl, hc.2⟩
    · cases h
  · split at h
    · rename_i hu hc; cases h; exact ⟨by rw [hu]; rfl, hc.2⟩
    · cases h
  · cases h
theorem big_shape {t : TypeId} {n : Nat} (h : shape1 P t = .big n) : isAggT (und P t) = true ∧ n = tsize P t := by
  unfold shape1 at h
  split at h
  · split at h
    · cases h
    · rename_i hu hc; cases h; exact ⟨by rw [hu]; rfl, rfl⟩
  · split at h
    · cases h
    · rename_i hu hc; cases h; exact ⟨by rw [hu]; rfl, rfl⟩
  · cases h
theorem cell_shape {t : TypeId} {c : Cell} (h : shape1 P t = .cell c) : isAggT (und P t) = false := by
  unfold shape1 at h
  split at h
  · split at h <;> cases h
  · split at h <;> cases h
  · rename_i d h1 h2
    cases hu : und P t <;> first
      | rfl
      | exact absurd hu (h1 _)
      | exact absurd hu (h2 _ _)

theorem run_part_agg {t : TypeId} {cs : Array Value} {off : Nat} (hag : isAggT (und P t) = true) (w : World) :
    (part t cs off).run P w = .ok (.agg (cs.extract off (off + tsize P t))) w := by
  have hu : P.underlying t = some (und P t) := und_eq rfl (by intro he; rw [he] at hag; cases hag)
  obtain ⟨i, hi⟩ := info_of_und hu
  unfold part
  simp only [Sem.run_bind, run_isAgg hu, Result.andThen_ok, hag, if_true, run_sizeOf hi, Sem.run_pure]
theorem run_part_cell {t : TypeId} {cs : Array Value} {off : Nat} {v : Value} (hi : ∃ i, P.underlying t = some i) (hag : isAggT (und P t) = false) (hv : cs[off]? = some v) (w : World) :
    (part t cs off).run P w = .ok v w := by
  obtain ⟨d, hu⟩ := hi
  have hd : und P t = d := by simp [und, hu]
  unfold part
  simp only [Sem.run_bind, run_isAgg hu, Result.andThen_ok, ← hd, hag, Bool.false_eq_true, if_false, hv, Sem.run_pure]

theorem partS_sound {t : TypeId} {x : SV pC} {off : Nat} {k : SV pC → Prop} {r : Prop} (hd : ∃ d, P.underlying t = some d) (h : partS (pA P R) P t x off k = some r) (hr : r) :
    ∃ sv, (∃ cs, toV x = .agg cs ∧ ∀ w, (part t cs off).run P w = .ok (toV sv) w) ∧ k sv := by
  unfold partS at h
  split at h
  · rename_i c cs hs
    cases hc : cs[off]? with
    | none => rw [hc] at h; cases h
    | some sv =>
      rw [hc] at h
      cases h
      exact ⟨sv, ⟨(toVs cs).toArray, rfl, fun w => run_part_cell hd (cell_shape hs) (by simp [toVs_getElem?, hc]) w⟩, hr⟩
  · rename_i c n l hs
    split at h
    · rename_i hlt
      cases h
      obtain ⟨hl, hr⟩ := hr
      obtain ⟨sv, hv, hk⟩ := exCell_spec _ _ hr
      refine ⟨sv, ⟨_, rfl, fun w => run_part_cell hd (cell_shape hs) ?_ w⟩, hk⟩
      have hoff : off < Array.size l := by rw [hl]; exact hlt
      have hv : lget l off = toV sv := hv
      rw [← hv, lget]
      simp [hoff]
    · cases h
  · rename_i ds cs hs
    split at h
    · cases h
      obtain ⟨hag, hlen⟩ := cellsOf_shape hs
      refine ⟨_, ⟨(toVs cs).toArray, rfl, fun w => ?_⟩, hr⟩
      rw [run_part_agg hag]
      simp [toV, toVs_eq, hlen, List.map_take, List.map_drop, List.extract_eq_take_drop]
    · cases h
  · rename_i ds n l hs
    split at h
    · rename_i hle
      cases h
      obtain ⟨hl, hr⟩ := hr
      obtain ⟨hag, hlen⟩ := cellsOf_shape hs
      obtain ⟨svs, hsl, hr⟩ := exCells_spec _ _ hr
      obtain ⟨heq, hk⟩ := partsEq_spec _ _ _ _ _ hr
      refine ⟨_, ⟨_, rfl, fun w => ?_⟩, hk⟩
      rw [run_part_agg hag]
      have hl : Array.size l = n := hl
      have : Array.extract l off (off + tsize P t) = (toVs svs).toArray := by
        refine Array.ext (by simp [toVs_length]; omega) fun i h1 h2 => ?_
        simp [toVs_length] at h2
        have hi := heq i svs[i] (by simp [h2])
        simp only [Nat.zero_add, lget] at hi
        have hoi : off + i < Array.size l := by omega
        simp only [Array.getElem_extract, toVs_eq, List.getElem_toArray, List.getElem_map, ← hi]
        simp [hoi]
      simp only [toV, this]
    · cases h
  · rename_i m n l hs
    split at h
    · cases h
      obtain ⟨hl, hr⟩ := hr
      obtain ⟨hag, hlen⟩ := big_shape hs
      refine ⟨_, ⟨_, rfl, fun w => ?_⟩, hr⟩
      rw [run_part_agg hag, hlen]
      rfl
    · cases h
  · cases h
end Go.Vcg
