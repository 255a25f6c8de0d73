/- Loads, and what else only reads. -/
import Derived.Test.YtkekehngillblaaXPure5
namespace Go.Vcg
set_option linter.unusedVariables false
set_option linter.unusedSimpArgs false
variable {P : Program} {R : Ending → World → Prop}

theorem cellsAt_spec {w : World} {d : Addr} : ∀ (svs : List (SV pC)) (i : Nat) (r : Prop), cellsAt (pA P R) w d i svs r → (∀ j sv, svs[j]? = some sv → w.cell? (d.add (i + j)) = some (toV sv)) ∧ r
  | [], _, _, h => ⟨by simp, h⟩
  | v :: vs, i, r, h => by
    obtain ⟨h1, h2⟩ := h
    obtain ⟨h3, h4⟩ := cellsAt_spec vs (i + 1) r h2
    refine ⟨fun j sv hj => ?_, h4⟩
    cases j with
    | zero =>
      simp at hj
      subst hj
      by_cases h0 : i = 0
      · rw [if_pos h0] at h1
        rw [h0, Nat.add_zero, add_zero']
        exact h1
      · rw [if_neg h0] at h1
        exact h1
    | succ j =>
      simp at hj
      have := h3 j sv hj
      rw [show i + (j + 1) = i + 1 + j from by omega]
      exact this

theorem run_loadVar_agg {t : TypeId} {d : Addr} {w : World} {vs : List Value} (hag : isAggT (und P t) = true) (hsz : tsize P t = vs.length) (hc : ∀ j v, vs[j]? = some v → w.cell? (d.add j) = some v) :
    (loadVar t d).run P w = .ok (.agg vs.toArray) w := by
  have hu : P.underlying t = some (und P t) := und_eq rfl (by intro he; rw [he] at hag; cases hag)
  obtain ⟨i, hi⟩ := info_of_und hu
  unfold loadVar
  simp only [Sem.run_bind, run_isAgg hu, Result.andThen_ok, hag, if_true, run_sizeOf hi, hsz]
  rw [run_loadCells_list _ d vs hc]
  rfl
theorem run_loadVar_cell {t : TypeId} {d : Addr} {w : World} {v : Value} {du : TypeDesc} (hu : P.underlying t = some du) (hag : isAggT (und P t) = false) (hc : w.cell? d = some v) :
    (loadVar t d).run P w = .ok v w := by
  have hd : und P t = du := by simp [und, hu]
  unfold loadVar
  simp only [Sem.run_bind, run_isAgg hu, Result.andThen_ok, ← hd, hag, Bool.false_eq_true, if_false, run_load, hc]

/-- What a load of a type asks, and what it yields. -/
theorem load_shape {t : TypeId} {d : Addr} {w : World} {sv : SV pC} {du : TypeDesc} (hu : P.underlying t = some du)
    (h : match shape1 P t, sv with
      | .cell _, sv => w.cell? d = some (toV sv)
      | .agg cs, .agg svs => svs.length = cs.length ∧ ∀ j sv, svs[j]? = some sv → w.cell? (d.add j) = some (toV sv)
      | .big n, .big m l => m = n ∧ RowAt w d n l
      | _, _ => False) : (loadVar t d).run P w = .ok (toV sv) w := by
  split at h
  · rename_i c hs
    exact run_loadVar_cell hu (cell_shape hs) h
  · rename_i cs svs hs
    obtain ⟨hag, hlen⟩ := cellsOf_shape hs
    obtain ⟨h1, h2⟩ := h
    refine run_loadVar_agg hag (by rw [toVs_length]; omega) fun j v hj => ?_
    rw [toVs_getElem?] at hj
    cases hsj : svs[j]? with
    | none => rw [hsj] at hj; cases hj
    | some sv => rw [hsj] at hj; cases hj; exact h2 j sv hsj
  · rename_i n m l hs
    obtain ⟨rfl, h1, h2⟩ := h
    obtain ⟨hag, hlen⟩ := big_shape hs
    have := run_loadVar_agg (w := w) (d := d) (vs := Array.toList l) hag (by rw [← hlen, ← h1]; simp) fun j v hj => by
      have hlt : j < m := by
        rw [← h1]
        have := (List.getElem?_eq_some_iff.1 hj).1
        simpa using this
      rw [h2 j hlt]
      simpa using hj
    simpa [toV] using this
  · cases h

theorem exCells_len {cs : List Cell} {f : List (SV pC) → Prop} (h : exCells (pA P R) cs f) : ∃ svs, svs.length = cs.length ∧ f svs := exCells_spec cs f h

theorem loadS_sound {t : TypeId} {d : Addr} {w : World} {k : SV pC → Prop} (h : loadS (pA P R) P t d w k) :
    ∃ sv, (loadVar t d).run P w = .ok (toV sv) w ∧ k sv ∧ ∀ w' r, reloadS (pA P R) P t d w' sv r → (loadVar t d).run P w' = .ok (toV sv) w' ∧ r := by
  unfold loadS at h
  split at h
  · exact h.elim
  · rename_i hsome
    obtain ⟨du, hu⟩ : ∃ du, P.underlying t = some du := by
      cases hs : P.underlying t with
      | none => rw [hs] at hsome; exact absurd rfl hsome
      | some ds => exact ⟨ds, rfl⟩
    split at h
    · rename_i c hs
      obtain ⟨sv, h1, h2⟩ := exCell_spec _ _ h
      refine ⟨sv, load_shape hu (by rw [hs]; exact h1), h2, fun w' r hr => ?_⟩
      unfold reloadS at hr
      rw [hs] at hr
      exact ⟨load_shape hu (by rw [hs]; exact hr.1), hr.2⟩
    · rename_i cs hs
      obtain ⟨svs, hl, h⟩ := exCells_len h
      obtain ⟨h1, h2⟩ := cellsAt_spec _ _ _ h
      simp only [Nat.zero_add] at h1
      refine ⟨.agg svs, load_shape hu (by rw [hs]; exact ⟨hl, h1⟩), h2, fun w' r hr => ?_⟩
      unfold reloadS at hr
      rw [hs] at hr
      obtain ⟨h3, h4⟩ := cellsAt_spec _ _ _ hr
      simp only [Nat.zero_add] at h3
      exact ⟨load_shape hu (by rw [hs]; exact ⟨hl, h3⟩), h4⟩
    · rename_i n hs
      obtain ⟨l, h1, h2⟩ := h
      refine ⟨.big n l, load_shape hu (by rw [hs]; exact ⟨rfl, h1⟩), h2, fun w' r hr => ?_⟩
      unfold reloadS at hr
      rw [hs] at hr
      exact ⟨load_shape hu (by rw [hs]; exact ⟨rfl, hr.1⟩), hr.2⟩

theorem semV_exec {o : Oper} {ρ : Operand → Value} {s : Sem Value} (h : semV o ρ = some s) : execOp ρ o = (do pure (.value (← s))) := by
  obtain ⟨dst, op, ty, pos, after, guard⟩ := o
  cases op with
  | call c =>
    obtain ⟨callee, args, ats⟩ := c
    simp only [semV] at h
    cases callee with
    | builtin b => cases b <;> first
      | (cases h; rfl)
      | (cases h; done)
    | _ => cases h
  | _ => first
    | (cases h; rfl)
    | cases h

/-- **What only reads yields a value, and the same wherever it reads the same.** -/
theorem readOp_sound {o : Oper} {env : Env pC} {a : Act} {w : World} (hrep : Rep env a) {k : SV pC → Prop} (h : readOp (pA P R) P o (ev (pA P R) env) w k) :
    ∃ sv, (execOp a.eval o).run P w = .ok (.value (toV sv)) w ∧ k sv ∧
      ∀ w' r, rereadOp (pA P R) P o (ev (pA P R) env) sv w' r → (execOp a.eval o).run P w' = .ok (.value (toV sv)) w' ∧ r := by
  have hev : ∀ x, a.eval x = toV (ev (pA P R) env x) := fun x => hrep.eval x
  have hfun : (fun x => toV (ev (pA P R) env x)) = a.eval := funext fun x => (hev x).symm
  unfold readOp at h
  split at h
  · rename_i t x ho
    split at h
    · rename_i d hx
      obtain ⟨sv, h1, h2, h3⟩ := loadS_sound h
      have hex : execOp a.eval o = (do pure (.value (← Instr.loadAt t (a.eval x)))) := by unfold execOp; simp only [ho]
      have hl : ∀ w, (Instr.loadAt t (a.eval x)).run P w = (loadVar t d).run P w := fun w => by
        rw [hev, hx]
        simp [Instr.loadAt, toV, Instr.sureAddr]
      refine ⟨sv, exec_val hex (by rw [hl]; exact h1), h2, fun w' r hr => ?_⟩
      unfold rereadOp at hr
      simp only [ho, hx] at hr
      obtain ⟨h4, h5⟩ := h3 w' r hr
      exact ⟨exec_val hex (by rw [hl]; exact h4), h5⟩
    · exact h.elim
  · rename_i hno
    simp only [pA] at h
    cases hs : semV o (fun x => toV (ev (pA P R) env x)) with
    | none => have h' := h; simp only [pA] at hs; rw [hs] at h'; exact h'.elim
    | some s =>
      have h' := h
      simp only [pA] at hs
      rw [hs] at h'
      obtain ⟨v, h1, h2⟩ := h'
      obtain ⟨sv, h3, h4⟩ := exShape_spec (P := P) (R := R) _ _ h2
      have h3 : v = toV sv := h3
      subst h3
      have hs' : semV o a.eval = some s := by rw [← hfun]; exact hs
      refine ⟨sv, exec_val (semV_exec hs') h1, h4, fun w' r hr => ?_⟩
      unfold rereadOp at hr
      split at hr
      · rename_i t x ho; exact absurd ho (hno t x)
      · simp only [pA] at hr
        rw [hs] at hr
        exact ⟨exec_val (semV_exec hs') hr.1, hr.2⟩
end Go.Vcg
