/- A part of the soundness of our executor of conditions: what it reckons is what the operations of the model do. No program is named here. -/
import Derived.Test.YtkekehngillblaaXPure
namespace Go.Vcg
set_option linter.unusedVariables false
variable {P : Program} {R : Ending → World → Prop}

theorem toV_ofCell (v : Value) : toV (ofCell (pA P R) v) = v := by
  cases v with
  | pointer o => cases o with
    | none => rfl
    | some d =>
      obtain ⟨b, off, sp⟩ := d
      cases sp <;> rfl
  | slice o l c => cases o <;> rfl
  | map m => cases m <;> rfl
  | tuple vs =>
    simp only [ofCell]
    split
    · rename_i h
      have : vs = #[] := Array.size_eq_zero_iff.1 h
      subst this; rfl
    · rfl
  | _ => rfl
theorem toV_ofVal (v : Value) : toV (ofVal (pA P R) v) = v := by
  unfold ofVal
  split
  · split
    · simp only [toV, toVs_eq, List.map_map]
      congr 1
      have : (toV ∘ ofCell (pA P R)) = id := funext fun v => toV_ofCell v
      rw [this]
      simp
    · rfl
  · simp only [toV, toV_ofCell]
  · exact toV_ofCell _

/-- What the frame holds is what the executor knows of it. -/
def Rep (env : Env pC) (a : Act) : Prop := ∀ t, a.tmps.getD t undef = toV (getS env t)
theorem Rep.eval {env : Env pC} {a : Act} (h : Rep env a) (x : Operand) : a.eval x = toV (ev (pA P R) env x) := by
  cases x with
  | tmp t => exact h t
  | const v => exact (toV_ofVal v).symm
  | global g => rfl
  | func f => rfl

theorem zipIdx_foldl (off : Nat) : ∀ (l : List Value) (k : Nat) (cs : Array Value), (l.zipIdx k).foldl (fun cs (x : Value × Nat) => cs.setIfInBounds (off + x.2) x.1) cs = setsAt cs (off + k) l
  | [], _, _ => rfl
  | v :: vs, k, cs => by
    simp only [List.zipIdx_cons, List.foldl_cons, setsAt]
    exact zipIdx_foldl off vs (k + 1) _
theorem fill_step (place : Nat → Option (Nat × Nat)) (cells : Array Value) (i : Nat) (v : Value) (rest : List (Nat × Value)) {off size : Nat} (hp : place i = some (off, size)) (h1 : v.cells.size = size) (h2 : off + size ≤ cells.size) :
    Instr.fill place cells ((i, v) :: rest) = Instr.fill place (setsAt cells off v.cells.toList) rest := by
  simp only [Instr.fill, hp]
  have : (v.cells.size != size || decide (off + v.cells.size > cells.size)) = false := by simp [h1]; omega
  rw [if_neg (by simp [h1]; omega)]
  congr 1
  rw [← Array.foldl_toList, Array.toList_zipIdx]
  exact zipIdx_foldl off _ 0 cells
def RawOk : SV pC → Prop
  | .raw v => Value.oneCell' v = true
  | _ => True
theorem ones_spec : ∀ (vs : List (SV pC)) (r : Prop), ones (pA P R) vs r → (∀ v ∈ vs, RawOk v) ∧ r
  | [], r, h => ⟨by simp, h⟩
  | v :: vs, r, h => by
    cases v with
    | raw u =>
      obtain ⟨h1, h2⟩ := ones_spec vs r h.2
      exact ⟨List.forall_mem_cons.2 ⟨h.1, h1⟩, h2⟩
    | _ =>
      obtain ⟨h1, h2⟩ := ones_spec vs r h
      exact ⟨List.forall_mem_cons.2 ⟨trivial, h1⟩, h2⟩
theorem cells_one {v : Value} (h : Value.oneCell' v = true) : v.cells = #[v] := by
  cases v <;> first
    | rfl
    | cases h
theorem cells_of {v : SV pC} {cs : List (SV pC)} (hr : RawOk v) (h : cellsOfS v = some cs) : (toV v).cells = (toVs cs).toArray := by
  cases v with
  | raw u => cases h; exact cells_one hr
  | big => cases h
  | tup => cases h
  | _ => cases h; rfl
theorem setFrom_toVs : ∀ (vs cells : List (SV pC)) (off : Nat), (setsAt (toVs cells).toArray off (toVs vs)) = (toVs (setFrom cells off vs)).toArray
  | [], _, _ => rfl
  | v :: vs, cells, off => by
    simp only [toVs, setsAt, setFrom]
    rw [← setFrom_toVs vs (cells.set off (v)) (off + 1)]
    congr 1
    simp [toVs_eq]
theorem setFrom_length : ∀ (vs cells : List (SV pC)) (off : Nat), (setFrom cells off vs).length = cells.length
  | [], _, _ => rfl
  | v :: vs, cells, off => by simp [setFrom, setFrom_length vs]
theorem buildSmall_sound {place : Nat → Option (Nat × Nat)} {ev : Operand → SV pC} : ∀ (parts : List (Nat × Operand)) (cells out : List (SV pC)), (∀ v ∈ parts.map fun p => ev p.2, RawOk v) → buildSmall place ev cells parts = some out →
    Instr.fill place (toVs cells).toArray (parts.map fun (i, x) => (i, toV (ev x))) = some (toVs out).toArray
  | [], cells, out, _, h => by cases h; rfl
  | (i, x) :: rest, cells, out, hrw, h => by
    unfold buildSmall at h
    split at h
    · cases h
    · rename_i off size hp
      split at h
      · cases h
      · rename_i vs hvs
        split at h
        · rename_i hc
          have e := cells_of (hrw _ (by simp)) hvs
          have h1 := buildSmall_sound rest _ out (fun v hv => hrw v (by simp at hv ⊢; exact .inr hv)) h
          rw [← setFrom_toVs] at h1
          rw [List.map_cons, fill_step place _ i _ _ hp (by rw [e]; simpa [toVs_length] using hc.1) (by simpa [toVs_length] using hc.2), e]
          exact h1
        · cases h

theorem setsAt_size : ∀ (vs : List Value) (l : Array Value) (i : Nat), (setsAt l i vs).size = l.size
  | [], _, _ => rfl
  | v :: vs, l, i => by simp [setsAt, setsAt_size vs]
theorem buildBig_sound {place : Nat → Option (Nat × Nat)} {ev : Operand → SV pC} {n : Nat} {k : Array Value → Prop} : ∀ (parts : List (Nat × Operand)) (l : Array Value) (r : Prop), (∀ v ∈ parts.map fun p => ev p.2, RawOk v) →
    l.size = n → buildBig (pA P R) place ev n l parts k = some r → r →
    ∃ out, Instr.fill place l (parts.map fun (i, x) => (i, toV (ev x))) = some out ∧ k out
  | [], l, r, _, _, h, hr => by cases h; exact ⟨l, rfl, hr⟩
  | (i, x) :: rest, l, r, hrw, hl, h, hr => by
    have hrw' : ∀ v ∈ rest.map fun p => ev p.2, RawOk v := fun v hv => hrw v (by simp at hv ⊢; exact .inr hv)
    unfold buildBig at h
    split at h
    · cases h
    · rename_i off size hp
      split at h
      · rename_i m l' hx
        split at h
        · rename_i hc
          cases hb : buildBig (pA P R) place ev n ((pA P R).lputL l off m l') rest k with
          | none => rw [hb] at h; cases h
          | some r' =>
            rw [hb] at h
            cases h
            obtain ⟨hsz, hr⟩ := hr
            have hsz : Array.size l' = m := hsz
            obtain ⟨out, ho, hk⟩ := buildBig_sound rest _ r' hrw' (by show (setsAt l off _).size = n; rw [setsAt_size, hl]) hb hr
            refine ⟨out, ?_, hk⟩
            have e : toV (ev x) = .agg l' := by rw [hx]; rfl
            rw [List.map_cons, fill_step place l i _ _ hp (by rw [e]; show Array.size l' = size; omega) (by omega), e]
            have : setsAt l off (Value.agg l').cells.toList = (pA P R).lputL l off m l' := by
              show _ = setsAt l off (l'.toList.take m)
              rw [List.take_of_length_le (by simp; omega)]
              rfl
            rw [this]
            exact ho
        · cases h
      · split at h
        · cases h
        · rename_i vs hvs
          split at h
          · rename_i hc
            have e := cells_of (hrw _ (by simp)) hvs
            obtain ⟨out, ho, hk⟩ := buildBig_sound rest _ r hrw' (by show (setsAt l off _).size = n; rw [setsAt_size, hl]) h hr
            refine ⟨out, ?_, hk⟩
            rw [List.map_cons, fill_step place l i _ _ hp (by rw [e]; simpa [toVs_length] using hc.1) (by omega), e]
            exact ho
          · cases h
end Go.Vcg
