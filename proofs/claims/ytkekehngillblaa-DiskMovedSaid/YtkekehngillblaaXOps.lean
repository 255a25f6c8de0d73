/- Each operation that the executor takes by its form does what the form says. -/
import Derived.Test.YtkekehngillblaaXSound
namespace Go.Vcg

theorem run_semBin_other {P : Program} {w : World} {op : BinOp} {t : TypeId} {x y : Operand} {a b v : Value}
    (h1 : a = .nilIface → b ≠ .nilIface) (h2 : ∀ cs, a = .agg cs → ∀ ds, b ≠ .agg ds) (h : (binOp op t a b).run P w = .ok v w) :
    (semBin op t x y a b).run P w = .ok v w := by
  unfold semBin
  have : (eqGuard op t x y a b).run P w = .ok () w := by
    unfold eqGuard
    split <;> first
      | rfl
      | (cases a <;> cases b <;> first
          | rfl
          | exact absurd rfl (h1 rfl)
          | exact absurd rfl (h2 _ rfl _))
  simp [this, h]

theorem litCmp_spec {P : Program} {w : World} {op : BinOp} {a b : Int} {t : Bool} (h : litCmp op a b = some t) : (Op.intCmp op a b).run P w = .ok (.bool t) w := by
  cases op <;> simp [litCmp] at h <;> subst h <;> simp [Op.intCmp]

theorem asI_some {A : Alg pC} {P : Program} {R : Ending → World → Prop} (hA : A = pA P R) {x : SV pC} {k : IntKind} {n : Int} (h : asI A x = some (k, n)) : toV x = .int k n := by
  subst hA
  cases x <;> simp [asI] at h
  case int => obtain ⟨rfl, rfl⟩ := h; rfl
  case ilit => obtain ⟨rfl, rfl⟩ := h; rfl

theorem binS_sound {P : Program} {R : Ending → World → Prop} {op : BinOp} {x y : SV pC} {k : SV pC → Prop} {r : Prop} (h : binS (pA P R) op x y k = some r) (hr : r) :
    ∃ sv, (∀ (w : World) (t : TypeId) (ox oy : Operand), (semBin op t ox oy (toV x) (toV y)).run P w = .ok (toV sv) w) ∧ k sv := by
  unfold binS at h
  split at h
  · rename_i a b
    have key : ∀ (bb : Bool), (∀ (w : World) (t : TypeId) (_ _ : Operand), (binOp op t (.string a) (.string b)).run P w = .ok (.bool bb) w) →
        ∀ (w : World) (t : TypeId) (ox oy : Operand), (semBin op t ox oy (toV (.str a)) (toV (.str b))).run P w = .ok (.bool bb) w :=
      fun bb hb w t ox oy => run_semBin_other (by simp [toV]) (by simp [toV]) (hb w t ox oy)
    cases op <;> cases h <;>
      refine ⟨_, ?_, hr⟩ <;> simp only [toV, den] <;>
      exact key _ (fun w t _ _ => by simp [binOp, Op.stringOp, strB])
  · rename_i ka a kb b
    have key : ∀ (v : Value), (∀ (w : World) (t : TypeId) (_ _ : Operand), (binOp op t (.int ka a) (.int kb b)).run P w = .ok v w) →
        ∀ (w : World) (t : TypeId) (ox oy : Operand), (semBin op t ox oy (toV (.ilit ka a)) (toV (.ilit kb b))).run P w = .ok v w :=
      fun v hb w t ox oy => run_semBin_other (by simp [toV]) (by simp [toV]) (hb w t ox oy)
    split at h
    · split at h
      · rename_i hk; subst hk
        cases h
        exact ⟨_, key _ (fun w t _ _ => by simp [binOp, Op.intArith, toV]), hr⟩
      · cases h
    · split at h
      · rename_i hk; subst hk
        cases h
        exact ⟨_, key _ (fun w t _ _ => by simp [binOp, Op.intArith, toV]), hr⟩
      · cases h
    · split at h
      · rename_i hk; subst hk
        cases h
        exact ⟨_, key _ (fun w t _ _ => by simp [binOp, Op.intArith, toV]), hr⟩
      · cases h
    · split at h
      · rename_i t ht
        split at h
        · rename_i hk; subst hk
          cases h
          refine ⟨_, key _ (fun w t' _ _ => ?_), hr⟩
          have := litCmp_spec (P := P) (w := w) ht
          cases op <;> simp [litCmp] at ht <;> simpa [binOp, toV] using this
        · cases h
      · cases h
  · split at h
    · rename_i ka a kb b hx hy
      have ex := asI_some rfl hx
      have ey := asI_some rfl hy
      have key : ∀ (v : Value), (∀ (w : World) (t : TypeId) (_ _ : Operand), (binOp op t (.int ka a) (.int kb b)).run P w = .ok v w) →
          ∀ (w : World) (t : TypeId) (ox oy : Operand), (semBin op t ox oy (toV x) (toV y)).run P w = .ok v w :=
        fun v hb w t ox oy => by
          rw [ex, ey]
          exact run_semBin_other (by simp) (by simp) (hb w t ox oy)
      split at h
      · -- shl
        split at h
        · simp only [toV, Value.int.injEq] at ey
          obtain ⟨rfl, rfl⟩ := ey
          split at h
          · rename_i h0
            cases h
            refine ⟨_, key _ (fun w t _ _ => ?_), hr⟩
            simp [binOp, Op.shift, toV, Int.not_lt.2 h0, pA]
          · cases h
        · cases h
          refine ⟨_, key _ (fun w t _ _ => ?_), hr.2⟩
          have h0 : 0 ≤ b := hr.1
          simp [binOp, Op.shift, toV, Int.not_lt.2 h0, pA, shlI]
      · split at h
        · simp only [toV, Value.int.injEq] at ey
          obtain ⟨rfl, rfl⟩ := ey
          split at h
          · rename_i h0
            cases h
            refine ⟨_, key _ (fun w t _ _ => ?_), hr⟩
            simp [binOp, Op.shift, toV, Int.not_lt.2 h0, pA]
          · cases h
        · cases h
          refine ⟨_, key _ (fun w t _ _ => ?_), hr.2⟩
          have h0 : 0 ≤ b := hr.1
          simp [binOp, Op.shift, toV, Int.not_lt.2 h0, pA, shrI]
      · split at h
        · rename_i hk; subst hk
          split at h
          · cases h; exact ⟨_, key _ (fun w t _ _ => by simp [binOp, Op.intArith, toV, pA]), hr⟩
          · cases h; exact ⟨_, key _ (fun w t _ _ => by simp [binOp, Op.intArith, toV, pA]), hr⟩
          · cases h; exact ⟨_, key _ (fun w t _ _ => by simp [binOp, Op.intArith, toV, pA]), hr⟩
          · split at h
            · simp only [toV, Value.int.injEq] at ey
              obtain ⟨rfl, rfl⟩ := ey
              split at h
              · cases h
              · rename_i h0
                cases h
                exact ⟨_, key _ (fun w t _ _ => by simp [binOp, Op.intDiv, toV, pA, h0]), hr⟩
            · cases h
              have h0 : b ≠ 0 := hr.1
              exact ⟨_, key _ (fun w t _ _ => by simp [binOp, Op.intDiv, toV, pA, h0]), hr.2⟩
          · split at h
            · simp only [toV, Value.int.injEq] at ey
              obtain ⟨rfl, rfl⟩ := ey
              split at h
              · cases h
              · rename_i h0
                cases h
                exact ⟨_, key _ (fun w t _ _ => by simp [binOp, Op.intDiv, toV, pA, h0]), hr⟩
            · cases h
              have h0 : b ≠ 0 := hr.1
              exact ⟨_, key _ (fun w t _ _ => by simp [binOp, Op.intDiv, toV, pA, h0]), hr.2⟩
          all_goals first
            | (cases h; refine ⟨_, key _ (fun w t _ _ => ?_), hr⟩; simp [binOp, Op.intBits, toV, pA, bitsI]; done)
            | (cases h; refine ⟨_, key _ (fun w t _ _ => ?_), hr⟩; simp [binOp]; rfl)
            | (cases h; done)
        · cases h
    · cases h

theorem run_und {P : Program} {w : World} {t : TypeId} {d : TypeDesc} (h : P.underlying t = some d) : (underlying t).run P w = .ok d w := by
  simp [underlying, h]

theorem eqn_of {P : Program} {w : World} {t : TypeId} {a b : Value} {r : Bool} (op : BinOp) (h : (Op.equal t a b).run P w = .ok r w) (hs : op = .eql ∨ op = .neq)
    (h1 : ∀ x, a ≠ .string x) (h2 : ∀ k x, a ≠ .int k x) (h3 : ∀ k x, a ≠ .float k x) (h4 : ∀ k x y, a ≠ .complex k x y) :
    (binOp op t a b).run P w = .ok (.bool (if op = .eql then r else !r)) w := by
  rcases hs with rfl | rfl
  · have : binOp .eql t a b = (do pure (.bool (← Op.equal t a b))) := by
      cases a <;> first
        | rfl
        | exact absurd rfl (h1 _)
        | exact absurd rfl (h2 _ _)
        | exact absurd rfl (h3 _ _)
        | exact absurd rfl (h4 _ _ _)
    rw [this]; simp [h]
  · have : binOp .neq t a b = (do pure (.bool (!(← Op.equal t a b)))) := by
      cases a <;> first
        | rfl
        | exact absurd rfl (h1 _)
        | exact absurd rfl (h2 _ _)
        | exact absurd rfl (h3 _ _)
        | exact absurd rfl (h4 _ _ _)
    rw [this]; simp [h]

section
variable {P : Program} {w : World} {t : TypeId}
theorem eqIn_ptr_nil {e : TypeId} (h : P.underlying t = some (.pointer e)) (o : Option Addr) (d : Nat) : (Op.equalIn (d + 1) t (.pointer o) (.pointer none)).run P w = .ok o.isNone w := by
  cases o <;> simp [Op.equalIn, run_und h]
theorem eqIn_slice_nil {e : TypeId} (h : P.underlying t = some (.slice e)) (o : Option Addr) (l c l' c' : Nat) (d : Nat) : (Op.equalIn (d + 1) t (.slice o l c) (.slice none l' c')).run P w = .ok o.isNone w := by
  cases o <;> simp [Op.equalIn, run_und h]
theorem eqIn_map_nil {e e' : TypeId} (h : P.underlying t = some (.map e e')) (o : Option Nat) (d : Nat) : (Op.equalIn (d + 1) t (.map o) (.map none)).run P w = .ok o.isNone w := by
  cases o <;> simp [Op.equalIn, run_und h]
theorem eqIn_nil_nil {ms : Array (String × TypeId)} (h : P.underlying t = some (.interface ms)) (d : Nat) : (Op.equalIn (d + 1) t .nilIface .nilIface).run P w = .ok true w := by
  simp [Op.equalIn, run_und h]
theorem eqIn_iface_nil {u : TypeId} {v : Value} {ms : Array (String × TypeId)} (h : P.underlying t = some (.interface ms)) (d : Nat) : (Op.equalIn (d + 1) t (.iface u v) .nilIface).run P w = .ok false w := by
  simp [Op.equalIn, run_und h]
theorem eqIn_nil_iface {u : TypeId} {v : Value} {ms : Array (String × TypeId)} (h : P.underlying t = some (.interface ms)) (d : Nat) : (Op.equalIn (d + 1) t .nilIface (.iface u v)).run P w = .ok false w := by
  simp [Op.equalIn, run_und h]
theorem eq_ptr_nil {e : TypeId} (h : P.underlying t = some (.pointer e)) (o : Option Addr) : (Op.equal t (.pointer o) (.pointer none)).run P w = .ok o.isNone w := eqIn_ptr_nil h o 9999
theorem eq_slice_nil {e : TypeId} (h : P.underlying t = some (.slice e)) (o : Option Addr) (l c l' c' : Nat) : (Op.equal t (.slice o l c) (.slice none l' c')).run P w = .ok o.isNone w := eqIn_slice_nil h o l c l' c' 9999
theorem eq_map_nil {e e' : TypeId} (h : P.underlying t = some (.map e e')) (o : Option Nat) : (Op.equal t (.map o) (.map none)).run P w = .ok o.isNone w := eqIn_map_nil h o 9999
theorem eq_nil_nil {ms : Array (String × TypeId)} (h : P.underlying t = some (.interface ms)) : (Op.equal t .nilIface .nilIface).run P w = .ok true w := eqIn_nil_nil h 9999
theorem eq_iface_nil {u : TypeId} {v : Value} {ms : Array (String × TypeId)} (h : P.underlying t = some (.interface ms)) : (Op.equal t (.iface u v) .nilIface).run P w = .ok false w := eqIn_iface_nil h 9999
theorem eq_nil_iface {u : TypeId} {v : Value} {ms : Array (String × TypeId)} (h : P.underlying t = some (.interface ms)) : (Op.equal t .nilIface (.iface u v)).run P w = .ok false w := eqIn_nil_iface h 9999
end

/-- '==' of nil interfaces, one of them the literal. -/
theorem run_semBin_nil {P : Program} {w : World} {op : BinOp} {t : TypeId} {x y : Operand} {v : Value} (hc : (isConstNil x || isConstNil y) = true)
    (h : (binOp op t .nilIface .nilIface).run P w = .ok v w) : (semBin op t x y .nilIface .nilIface).run P w = .ok v w := by
  unfold semBin
  have : (eqGuard op t x y .nilIface .nilIface).run P w = .ok () w := by
    cases x <;> cases y <;> first
      | (simp [isConstNil] at hc; done)
      | (cases op <;> rfl)
  simp [this, h]

theorem nilVal {P : Program} {R : Ending → World → Prop} {env : Env pC} {y : Operand} (h : isConstNil y = true) :
    toV (ev (pA P R) env y) = .nilIface ∨ toV (ev (pA P R) env y) = .pointer none ∨ (∃ l c, toV (ev (pA P R) env y) = .slice none l c) ∨ toV (ev (pA P R) env y) = .map none := by
  unfold isConstNil at h
  split at h <;> first
    | (simp [ev, ofVal, ofCell, toV, pA]; done)
    | cases h

/-- A value that is no number and no text. -/
def plainEq : Value → Bool
  | .string _ | .int _ _ | .float _ _ | .complex _ _ _ | .agg _ => false
  | _ => true
theorem semEq_of {P : Program} {w : World} {t : TypeId} {ox oy : Operand} {a b : Value} {r : Bool} (op : BinOp) (h : (Op.equal t a b).run P w = .ok r w) (hs : op = .eql ∨ op = .neq)
    (hp : plainEq a = true) (hg : a = .nilIface → b = .nilIface → (isConstNil ox || isConstNil oy) = true) :
    (semBin op t ox oy a b).run P w = .ok (.bool (if op = .eql then r else !r)) w := by
  have hb := eqn_of op h hs (by rintro x rfl; cases hp) (by rintro k x rfl; cases hp) (by rintro k x rfl; cases hp) (by rintro k x y rfl; cases hp)
  by_cases hn : a = .nilIface ∧ b = .nilIface
  · obtain ⟨rfl, rfl⟩ := hn
    exact run_semBin_nil (hg rfl rfl) hb
  · exact run_semBin_other (fun h1 h2 => hn ⟨h1, h2⟩) (by rintro cs rfl; cases hp) hb

def NilOk (P : Program) (t : TypeId) (a b : Value) (g : Bool) : NilV pC → Prop
  | .b x => plainEq a = true ∧ (a = .nilIface → b = .nilIface → g = true) ∧ ∀ w, (Op.equal t a b).run P w = .ok (den x) w
  | .lit c => plainEq a = true ∧ (a = .nilIface → b = .nilIface → g = true) ∧ ∀ w, (Op.equal t a b).run P w = .ok c w
  | .either v => a = v ∧ b = .nilIface ∧ g = true

theorem nilV_sound {P : Program} {R : Ending → World → Prop} {t : TypeId} {d : TypeDesc} {env : Env pC} {ox oy : Operand} {nv : NilV pC} (hu : P.underlying t = some d)
    (h : nilV d (isConstNil ox) (isConstNil oy) (ev (pA P R) env ox) (ev (pA P R) env oy) = some nv) :
    NilOk P t (toV (ev (pA P R) env ox)) (toV (ev (pA P R) env oy)) (isConstNil ox || isConstNil oy) nv := by
  have hv := fun h => nilVal (P := P) (R := R) (env := env) (y := oy) h
  generalize ev (pA P R) env ox = x at *
  generalize ev (pA P R) env oy = y at *
  unfold nilV at h
  split at h
  · split at h
    · rename_i hc; cases h; exact ⟨rfl, fun _ _ => hc, fun w => eq_nil_nil hu⟩
    · cases h
  · cases h; exact ⟨rfl, by simp [toV], fun w => eq_iface_nil hu⟩
  · cases h; exact ⟨rfl, by simp [toV], fun w => eq_nil_iface hu⟩
  · split at h
    · rename_i hc; cases h; exact ⟨rfl, rfl, hc⟩
    · cases h
  · split at h
    · rename_i o o' hc
      cases h
      have := hv hc
      simp [toV] at this
      subst this
      exact ⟨rfl, by simp [toV], fun w => eq_ptr_nil hu o⟩
    · cases h
  · split at h
    · rename_i d o' hc
      cases h
      have := hv hc
      simp [toV] at this
      subst this
      exact ⟨rfl, by simp [toV], fun w => eq_ptr_nil hu (some d)⟩
    · cases h
  · split at h
    · rename_i o l c o' l' c' hc
      cases h
      have := hv hc
      simp [toV] at this
      subst this
      exact ⟨rfl, by simp [toV], fun w => eq_slice_nil hu o l c l' c'⟩
    · cases h
  · split at h
    · rename_i o o' hc
      cases h
      have := hv hc
      simp [toV] at this
      subst this
      exact ⟨rfl, by simp [toV], fun w => eq_map_nil hu o⟩
    · cases h
  · cases h

theorem nilK_sound {P : Program} {R : Ending → World → Prop} {op : BinOp} {t : TypeId} {d : TypeDesc} {ox oy : Operand} {a b : Value} {nv : NilV pC} (hu : P.underlying t = some d)
    (hd : ∃ ms, d = .interface ms ∨ ∀ v, nv ≠ .either v)
    (hn : NilOk P t a b (isConstNil ox || isConstNil oy) nv) {neg : Bool} (hop : op = if neg then .neq else .eql) {k : SV pC → Prop} (hr : nilK (pA P R) neg k nv) :
    ∃ sv, (∀ w, (semBin op t ox oy a b).run P w = .ok (toV sv) w) ∧ k sv := by
  have hs : op = .eql ∨ op = .neq := by cases neg <;> simp [hop]
  have hif : ∀ r : Bool, (if op = .eql then r else !r) = (if neg then !r else r) := by intro r; cases neg <;> simp [hop]
  cases nv with
  | b x =>
    obtain ⟨h1, h2, h3⟩ := hn
    refine ⟨_, fun w => ?_, hr⟩
    rw [semEq_of op (h3 w) hs h1 h2, hif]
    cases neg <;> rfl
  | lit c =>
    obtain ⟨h1, h2, h3⟩ := hn
    refine ⟨_, fun w => ?_, hr⟩
    rw [semEq_of op (h3 w) hs h1 h2, hif]
    cases neg <;> rfl
  | either v =>
    obtain ⟨rfl, rfl, hg⟩ := hn
    obtain ⟨ms, rfl | hd⟩ := hd
    · rcases hr with ⟨rfl, hk⟩ | ⟨⟨u, x, rfl⟩, hk⟩
      · refine ⟨_, fun w => ?_, hk⟩
        rw [semEq_of op (eq_nil_nil hu) hs rfl (fun _ _ => hg), hif]
        cases neg <;> rfl
      · refine ⟨_, fun w => ?_, hk⟩
        rw [semEq_of op (eq_iface_nil hu) hs rfl (by simp), hif]
        cases neg <;> rfl
    · exact absurd rfl (hd a)

theorem nilV_either {d : TypeDesc} {cx cy : Bool} {x y : SV pC} {nv : NilV pC} (h : nilV d cx cy x y = some nv) : ∃ ms, d = .interface ms ∨ ∀ v, nv ≠ .either v := by
  unfold nilV at h
  split at h <;> first
    | exact ⟨_, .inl rfl⟩
    | (split at h <;> first
        | (cases h; exact ⟨#[], .inr (by simp)⟩)
        | cases h)
    | (cases h; done)

theorem nilS_sound {P : Program} {R : Ending → World → Prop} {op : BinOp} {t : TypeId} {d : TypeDesc} {env : Env pC} {ox oy : Operand} {k : SV pC → Prop} {r : Prop} (hu : P.underlying t = some d)
    (h : nilS (pA P R) op d (isConstNil ox) (isConstNil oy) (ev (pA P R) env ox) (ev (pA P R) env oy) k = some r) (hr : r) :
    ∃ sv, (∀ (w : World), (semBin op t ox oy (toV (ev (pA P R) env ox)) (toV (ev (pA P R) env oy))).run P w = .ok (toV sv) w) ∧ k sv := by
  unfold nilS at h
  split at h
  · cases hn : nilV d (isConstNil ox) (isConstNil oy) (ev (pA P R) env ox) (ev (pA P R) env oy) with
    | none => rw [hn] at h; cases h
    | some nv => rw [hn] at h; cases h; exact nilK_sound hu (nilV_either hn) (nilV_sound hu hn) (neg := false) rfl hr
  · cases hn : nilV d (isConstNil ox) (isConstNil oy) (ev (pA P R) env ox) (ev (pA P R) env oy) with
    | none => rw [hn] at h; cases h
    | some nv => rw [hn] at h; cases h; exact nilK_sound hu (nilV_either hn) (nilV_sound hu hn) (neg := true) rfl hr
  · cases h
end Go.Vcg
