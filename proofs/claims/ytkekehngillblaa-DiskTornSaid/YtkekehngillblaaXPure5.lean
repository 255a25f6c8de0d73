/- A part of the soundness of our executor of conditions: what it reckons is what the operations of the model do. No program is named here. -/
import Derived.Test.YtkekehngillblaaXPure4
namespace Go.Vcg
set_option linter.unusedVariables false
set_option linter.unusedSimpArgs false
variable {P : Program} {R : Ending → World → Prop}

theorem run_fieldPlace {d : Addr} {f : Field} {i : TypeInfo} (hi : P.info? f.type = some i) (h : tsize P f.type ≠ 0) (w : World) : (fieldPlace d f).run P w = .ok (d.add f.offset) w := by
  unfold fieldPlace
  simp only [Sem.run_bind, run_sizeOf hi, Result.andThen_ok]
  rw [if_neg h]
  rfl

theorem asI_v {x : SV pC} {k : IntKind} {n : Int} (h : asI (pA P R) x = some (k, n)) : toV x = .int k n := asI_some rfl h

theorem build_sound {t : TypeId} {parts : Array (Nat × Operand)} {ev : Operand → SV pC} {k : SV pC → Prop} {r : Prop} {o : Oper} (ho : o.op = .build t parts) (h : pureOp (pA P R) P o ev k = some r) (hr : r) :
    ∃ sv, (∀ w, (Instr.build t (parts.map fun (i, x) => (i, toV (ev x)))).run P w = .ok (toV sv) w) ∧ k sv := by
  unfold pureOp at h
  simp only [ho] at h
  split at h
  · rename_i cs place hz hp
    have hbuilt : ∀ (ps : List (Nat × Value)), P.built t ps = Instr.fill place cs ps := by
      intro ps
      unfold placeFn at hp
      unfold zeroOf at hz
      unfold Program.built
      cases hi : P.info? t with
      | none => rw [hi] at hz; cases hz
      | some it =>
        rw [hi] at hz
        simp only [Option.bind_some] at hz
        split at hp
        · rename_i n e hu
          cases he : P.info? e with
          | none => rw [he] at hp; cases hp
          | some ie => rw [he] at hp; cases hp; simp [hu, hz, he, Value.cells]
        · rename_i fields hu
          cases hm : fields.toList.mapM (fun f => (P.info? f.type).map fun i => (f.offset, i.size)) with
          | none => rw [hm] at hp; cases hp
          | some places => rw [hm] at hp; cases hp; simp [hu, hz, hm, Value.cells]
        · cases hp
    have hl : (parts.map fun (i, x) => (i, toV (ev x))).toList = parts.toList.map fun (i, x) => (i, toV (ev x)) := by simp
    split at h
    · obtain ⟨l, hb, rfl⟩ := map_some h
      obtain ⟨hrw, hk⟩ := ones_spec _ _ hr
      have := buildSmall_sound (place := place) (ev := ev) parts.toList _ l hrw hb
      refine ⟨_, fun w => run_build w t _ _ ?_, hk⟩
      rw [hbuilt, hl]
      have e : (toVs (List.map (ofCell (pA P R)) cs.toList)).toArray = cs := by
        rw [toVs_eq, List.map_map]
        have : (toV ∘ ofCell (pA P R)) = id := funext fun v => toV_ofCell v
        rw [this]; simp
      rw [e] at this
      exact this
    · obtain ⟨r', hb, rfl⟩ := map_some h
      obtain ⟨hrw, hk⟩ := ones_spec _ _ hr
      obtain ⟨out, ho', hk'⟩ := buildBig_sound (place := place) (ev := ev) (n := cs.size) parts.toList cs r' hrw rfl hb hk
      refine ⟨_, fun w => run_build w t _ out ?_, hk'⟩
      rw [hbuilt, hl]
      exact ho'
  · cases h

/-- **What is taken as pure yields its value in whatever world.** -/
theorem pureOp_sound {o : Oper} {env : Env pC} {a : Act} (hrep : Rep env a) {k : SV pC → Prop} {r : Prop} (h : pureOp (pA P R) P o (ev (pA P R) env) k = some r) (hr : r) :
    ∃ sv, (∀ w, (execOp a.eval o).run P w = .ok (.value (toV sv)) w) ∧ k sv := by
  have hev : ∀ x, a.eval x = toV (ev (pA P R) env x) := fun x => hrep.eval x
  obtain ⟨dst, op, ty, pos, after, guard⟩ := o
  cases op with
  | move x => cases h; exact ⟨_, fun w => by simp [execOp, hev], hr⟩
  | assign x => cases h; exact ⟨_, fun w => by simp [execOp, hev], hr⟩
  | pick c x y =>
    simp only [pureOp] at h
    split at h
    · rename_i t hc
      cases h
      refine ⟨_, fun w => ?_, hr⟩
      simp only [execOp, hev, hc, toV, asBool]
      cases t <;> rfl
    · rename_i b hc
      cases h
      obtain ⟨h1, h2⟩ := hr
      cases hb : den b with
      | true =>
        refine ⟨_, fun w => ?_, impP_spec _ _ _ h1 hb⟩
        simp only [execOp, hev, hc, toV, asBool, hb]; rfl
      | false =>
        refine ⟨_, fun w => ?_, impP_spec _ _ _ h2 hb⟩
        simp only [execOp, hev, hc, toV, asBool, hb]; rfl
    · cases h
  | build t parts =>
    obtain ⟨sv, h1, h2⟩ := build_sound rfl h hr
    refine ⟨sv, fun w => exec_val (s := Instr.build t (parts.map fun (i, x) => (i, a.eval x))) rfl ?_, h2⟩
    have : (parts.map fun (i, x) => (i, a.eval x)) = parts.map fun (i, x) => (i, toV (ev (pA P R) env x)) := by simp only [hev]
    rw [this]
    exact h1 w
  | nilCheck x =>
    simp only [pureOp] at h
    split at h
    · rename_i d hx; cases h; exact ⟨_, fun w => by simp [execOp, hev, hx, toV], hr⟩
    · rename_i o hx
      cases h
      obtain ⟨d, hd, hk⟩ := hr
      have hd : (o : Option Addr) = some d := hd
      subst hd
      exact ⟨_, fun w => by simp [execOp, hev, hx, toV], hk⟩
    · rename_i f a b hx; cases h; exact ⟨_, fun w => by simp [execOp, hev, hx, toV], hr⟩
    · rename_i t v hx; cases h; exact ⟨_, fun w => by simp [execOp, hev, hx, toV], hr⟩
    · rename_i v hx
      cases h
      obtain ⟨⟨t, u, hv⟩, hk⟩ := hr
      have hv : (v : Value) = .iface t u := hv
      subst hv
      exact ⟨_, fun w => by simp [execOp, hev, hx, toV], hk⟩
    · rename_i m v hx
      cases h
      obtain ⟨⟨t, u, hv, hn⟩, hk⟩ := hr
      have hv : (v : Value) = .iface t u := hv
      subst hv
      refine ⟨_, fun w => ?_, hk⟩
      have e : (some (some false) != some (some false)) = false := rfl
      simp [execOp, hev, hx, toV, toVs, hn w]
    · cases h
  | binOp op t x y yt =>
    have hex : ∀ v w, (semBin op t x y (toV (ev (pA P R) env x)) (toV (ev (pA P R) env y))).run P w = .ok v w →
        (execOp a.eval ⟨dst, .binOp op t x y yt, ty, pos, after, guard⟩).run P w = .ok (.value v) w := by
      intro v w hs
      refine exec_val (s := semBin op t x y (a.eval x) (a.eval y)) rfl ?_
      rw [hev, hev]; exact hs
    simp only [pureOp] at h
    split at h
    · rename_i r' hb
      cases h
      obtain ⟨sv, h1, h2⟩ := binS_sound hb hr
      exact ⟨sv, fun w => hex _ w (h1 w t x y), h2⟩
    · cases hu : P.underlying t with
      | none =>
        have : und P t = .invalid := by simp [und, hu]
        rw [this] at h
        unfold nilS at h
        cases op <;> simp [nilV] at h
      | some d =>
        have : und P t = d := by simp [und, hu]
        rw [this] at h
        obtain ⟨sv, h1, h2⟩ := nilS_sound hu h hr
        exact ⟨sv, fun w => hex _ w (h1 w), h2⟩
  | unOp op t x =>
    simp only [pureOp] at h
    split at h
    · rename_i b hx; cases h; refine ⟨_, fun w => exec_val (s := Op.unary .not (a.eval x)) rfl ?_, hr⟩; rw [hev, hx]; rfl
    · rename_i b hx; cases h; refine ⟨_, fun w => exec_val (s := Op.unary .not (a.eval x)) rfl ?_, hr⟩; rw [hev, hx]; rfl
    · rename_i ka n hx; cases h; refine ⟨_, fun w => exec_val (s := Op.unary .neg (a.eval x)) rfl ?_, hr⟩; rw [hev, hx]; rfl
    · rename_i ka n hx; cases h; refine ⟨_, fun w => exec_val (s := Op.unary .neg (a.eval x)) rfl ?_, hr⟩; rw [hev, hx]; rfl
    · rename_i ka n hx; cases h; refine ⟨_, fun w => exec_val (s := Op.unary .xor (a.eval x)) rfl ?_, hr⟩; rw [hev, hx]; rfl
    · cases h
  | convert src d x =>
    simp only [pureOp] at h
    split at h
    · cases h
    · rename_i hsrc
      obtain ⟨ds, hs⟩ : ∃ ds, P.underlying src = some ds := by
        cases hs : P.underlying src with
        | none => rw [hs] at hsrc; exact absurd rfl hsrc
        | some ds => exact ⟨ds, rfl⟩
      split at h
      · rename_i kd k' n hu hx
        cases h
        have hu := und_eq hu (by simp)
        refine ⟨_, fun w => exec_val (s := convert src d (a.eval x)) rfl ?_, hr⟩
        rw [hev, hx]
        unfold convert
        simp only [Sem.run_bind, run_und hs, run_und hu, Result.andThen_ok, toV]
        rfl
      · rename_i kd k' n hu hx
        cases h
        have hu := und_eq hu (by simp)
        refine ⟨_, fun w => exec_val (s := convert src d (a.eval x)) rfl ?_, hr⟩
        rw [hev, hx]
        unfold convert
        simp only [Sem.run_bind, run_und hs, run_und hu, Result.andThen_ok, toV]
        rfl
      · rename_i s hu hx
        have hu := und_eq hu (by simp)
        split at h
        · rename_i hs'
          have hs' := und_eq hs' (by simp)
          cases h
          refine ⟨_, fun w => exec_val (s := convert src d (a.eval x)) rfl ?_, hr⟩
          rw [hev, hx]
          unfold convert
          simp only [Sem.run_bind, run_und hs', run_und hu, Result.andThen_ok, toV]
          rfl
        · cases h
      · cases h
  | makeInterface t x =>
    simp only [pureOp] at h
    split at h
    · cases h
    · cases h
    · rename_i h1 h2
      cases h
      have hu : P.underlying t = some (und P t) := und_eq rfl h2
      refine ⟨_, fun w => exec_val (s := Instr.makeInterface t (a.eval x)) rfl ?_, hr⟩
      rw [hev]
      unfold Instr.makeInterface
      simp only [Sem.run_bind, run_und hu, Result.andThen_ok, toV]
      cases hd : und P t <;> first
        | rfl
        | exact absurd hd (h1 _)
  | makeFunc fn first cap =>
    simp only [pureOp] at h
    cases h
    refine ⟨_, fun w => exec_val (s := Instr.makeFunc fn (first.map a.eval) (cap.map a.eval)) rfl ?_, hr⟩
    have : ∀ xs : Array Operand, xs.map a.eval = (toVs (xs.toList.map (ev (pA P R) env))).toArray := by
      intro xs
      rw [toVs_eq, List.map_map]
      have : toV ∘ ev (pA P R) env = a.eval := funext fun x => (hev x).symm
      rw [this]; exact Array.ext' (by simp)
    rw [this, this]
    rfl
  | slice t x lo hi mx =>
    simp only [pureOp] at h
    cases mx with
    | some m => cases h
    | none =>
      obtain ⟨sv, h1, h2⟩ := slice_sound h hr
      refine ⟨sv, fun w => exec_val (s := Instr.sliceAt t (a.eval x) (lo.map a.eval) (hi.map a.eval) none) rfl ?_, h2⟩
      have e : ∀ z : Option Operand, z.map a.eval = (z.map (ev (pA P R) env)).map toV := by
        intro z; cases z <;> simp [hev]
      rw [e, e, hev]
      exact h1 w
  | fieldAddr s x f =>
    simp only [pureOp] at h
    split at h
    · rename_i d fs hx hu
      have hu := und_eq hu (by simp)
      split at h
      · rename_i fd hf
        split at h
        · cases h
        · rename_i hne
          split at h
          · cases h
          · rename_i hsome
            cases h
            obtain ⟨du, hdu⟩ : ∃ du, P.underlying fd.type = some du := by
              cases hs : P.underlying fd.type with
              | none => rw [hs] at hsome; exact absurd rfl hsome
              | some ds => exact ⟨ds, rfl⟩
            obtain ⟨i, hi⟩ := info_of_und hdu
            refine ⟨_, fun w => exec_val (s := Instr.fieldAt s (a.eval x) f) rfl ?_, hr⟩
            rw [hev, hx]
            unfold Instr.fieldAt
            simp only [Sem.run_bind, run_und hu, Result.andThen_ok, hf, toV, Instr.sureAddr, Sem.run_pure, run_fieldPlace hi hne]
            by_cases h0 : fd.offset = 0
            · rw [if_pos h0, h0, add_zero']
            · rw [if_neg h0]; rfl
      · cases h
    · cases h
  | field s x f =>
    simp only [pureOp] at h
    split at h
    · rename_i fs hu
      have hu := und_eq hu (by simp)
      split at h
      · rename_i fd hf
        split at h
        · cases h
        · rename_i hsome
          have hd : ∃ du, P.underlying fd.type = some du := by
            cases hs : P.underlying fd.type with
            | none => rw [hs] at hsome; exact absurd rfl hsome
            | some ds => exact ⟨ds, rfl⟩
          obtain ⟨sv, ⟨cs, hc, h1⟩, h2⟩ := partS_sound hd h hr
          refine ⟨sv, fun w => exec_val (s := Instr.field s (a.eval x) f) rfl ?_, h2⟩
          rw [hev, hc]
          unfold Instr.field
          simp only [Sem.run_bind, run_und hu, Result.andThen_ok, hf, asAgg, Sem.run_pure, h1]
      · cases h
    · cases h
  | indexAddr t x i =>
    simp only [pureOp] at h
    split at h
    · rename_i e o len cap hu hx
      have hu := und_eq hu (by simp)
      split at h
      · rename_i kk n hi
        split at h
        · cases h
        · rename_i hsome
          obtain ⟨ie, hie⟩ : ∃ ie, P.info? e = some ie := by
            cases hs : P.info? e with
            | none => rw [hs] at hsome; exact absurd rfl hsome
            | some ds => exact ⟨ds, rfl⟩
          cases h
          obtain ⟨d, hd, hn, hk⟩ := hr
          have hd : (o : Option Addr) = some d := hd
          subst hd
          refine ⟨_, fun w => exec_val (s := Instr.indexAt t (a.eval x) (a.eval i)) rfl ?_, hk⟩
          rw [hev, hev, hx, asI_v hi]
          unfold Instr.indexAt
          have hn : 0 ≤ n ∧ n < ((len : Nat) : Int) := hn
          simp only [Sem.run_bind, asIntOf, Sem.run_pure, Result.andThen_ok, run_und hu, toV, if_pos hn, run_sizeOf hie]
          have : Addr.add d (Int.toNat n * tsize P e) = Addr.add d (pureOp.idx (pA P R) (tsize P e) (ev (pA P R) env i) n) := by
            congr 1
            unfold pureOp.idx
            split
            · rename_i k c hc
              rw [hc] at hi
              cases hi
              rfl
            · split
              · rename_i h1; rw [h1]; simp [pA]
              · rfl
          rw [this]
          rfl
      · cases h
    · rename_i m e d hu hx
      have hu := und_eq hu (by simp)
      split at h
      · cases h
      · rename_i hsome
        obtain ⟨ie, hie⟩ : ∃ ie, P.info? e = some ie := by
          cases hs : P.info? e with
          | none => rw [hs] at hsome; exact absurd rfl hsome
          | some ds => exact ⟨ds, rfl⟩
        split at h
        · rename_i kk n hi
          split at h
          · rename_i hn
            cases h
            refine ⟨_, fun w => exec_val (s := Instr.indexAt t (a.eval x) (a.eval i)) rfl ?_, hr⟩
            rw [hev, hev, hx, hi]
            unfold Instr.indexAt
            simp only [Sem.run_bind, asIntOf, Sem.run_pure, Result.andThen_ok, run_und hu, toV, Instr.sureAddr, if_pos hn, run_sizeOf hie]
            by_cases h0 : n = 0
            · rw [if_pos h0, h0]; simp [add_zero']
            · rw [if_neg h0]; rfl
          · cases h
        · rename_i kk n hi
          cases h
          obtain ⟨hn, hk⟩ := hr
          have hn : 0 ≤ n ∧ n < ((m : Nat) : Int) := hn
          refine ⟨_, fun w => exec_val (s := Instr.indexAt t (a.eval x) (a.eval i)) rfl ?_, hk⟩
          rw [hev, hev, hx, hi]
          unfold Instr.indexAt
          simp only [Sem.run_bind, asIntOf, Sem.run_pure, Result.andThen_ok, run_und hu, toV, Instr.sureAddr, if_pos hn, run_sizeOf hie]
          by_cases h1 : tsize P e = 1
          · rw [if_pos h1, h1, Nat.mul_one]; rfl
          · rw [if_neg h1]; rfl
        · cases h
    · cases h
  | index t x i =>
    simp only [pureOp] at h
    split at h
    · rename_i v m e kk n hu hi
      have hu := und_eq hu (by simp)
      split at h
      · cases h
      · rename_i hsome
        have hd : ∃ du, P.underlying e = some du := by
          cases hs : P.underlying e with
          | none => rw [hs] at hsome; exact absurd rfl hsome
          | some ds => exact ⟨ds, rfl⟩
        split at h
        · rename_i hn
          obtain ⟨du, hdu⟩ := hd
          obtain ⟨ie, hie⟩ := info_of_und hdu
          obtain ⟨sv, ⟨cs, hc, h1⟩, h2⟩ := partS_sound ⟨du, hdu⟩ h hr
          refine ⟨sv, fun w => exec_val (s := Instr.index t (a.eval x) (a.eval i)) rfl ?_, h2⟩
          rw [hev, hev, hc, hi]
          unfold Instr.index
          simp only [Sem.run_bind, asIntOf, Sem.run_pure, Result.andThen_ok, run_und hu, toV, if_pos hn, run_sizeOf hie, h1]
        · cases h
    · rename_i i' s hu hx
      have hu := und_eq hu (by simp)
      split at h
      · rename_i kk n hi
        cases h
        obtain ⟨hn, hk⟩ := hr
        have hn : 0 ≤ n ∧ n < ((ByteArray.size s : Nat) : Int) := hn
        refine ⟨_, fun w => exec_val (s := Instr.index t (a.eval x) (a.eval i)) rfl ?_, hk⟩
        rw [hev, hev, hx, asI_v hi]
        unfold Instr.index
        simp only [Sem.run_bind, asIntOf, Sem.run_pure, Result.andThen_ok, run_und hu, toV]
        have hlt : Int.toNat n < ByteArray.size s := (Int.toNat_lt hn.1).2 hn.2
        rw [if_pos hn.1]
        have hg : s[Int.toNat n]? = some (s[Int.toNat n]'hlt) := by simp [hlt]
        simp only [hg, Sem.run_pure]
        show _ = Result.ok (Value.int .u8 (strAt s (Int.toNat n))) w
        simp only [strAt, hg, Option.map_some, Option.getD_some]
      · cases h
    · cases h
  | extract x i =>
    simp only [pureOp] at h
    split at h
    · rename_i vs hx
      obtain ⟨v, hv, rfl⟩ := map_some h
      refine ⟨v, fun w => exec_val (s := Instr.extract (a.eval x) i) rfl ?_, hr⟩
      rw [hev, hx]
      simp [Instr.extract, toV, toVs_getElem?, hv]
    · cases h
  | sliceToArrayPointer t x =>
    simp only [pureOp] at h
    split at h
    · rename_i n e o len cap hu hx
      have hu := und_eq hu (by simp)
      cases h
      obtain ⟨h1, hk⟩ := hr
      have h1 : n ≤ (len : Nat) := h1
      refine ⟨_, fun w => exec_val (s := Instr.arrayAt t (a.eval x)) rfl ?_, hk⟩
      rw [hev, hx]
      unfold Instr.arrayAt
      simp only [Sem.run_bind, run_und hu, Result.andThen_ok, toV]
      rw [if_neg (Nat.not_lt.2 h1)]
      rfl
    · cases h
  | call c =>
    simp only [pureOp] at h
    obtain ⟨callee, args, ats⟩ := c
    have hargs : ∀ l, args.toList = l → args = l.toArray := fun l hl => by rw [← hl]
    split at h
    · -- len
      rename_i x t hc ha ht
      subst hc
      obtain rfl := hargs _ ha
      have ht' : ats = #[t] := by rw [← Array.toList_inj]; exact ht
      subst ht'
      have key : ∀ v, (∀ w, (Builtin.len_ #[t] ty #[toV (ev (pA P R) env x)]).run P w = .ok v w) → ∀ w, (execOp a.eval ⟨dst, .call ⟨.builtin .len, [x].toArray, #[t]⟩, ty, pos, after, guard⟩).run P w = .ok (.value v) w := by
        intro v hv w
        have := hv w
        simp [execOp, resolve, invoke, builtin, hev, this]
      split at h
      · rename_i e o l cap hu hx
        have hu := und_eq hu (by simp)
        cases h
        refine ⟨_, key _ fun w => ?_, hr⟩
        rw [hx]
        simp [Builtin.len_, run_und hu, toV, goInt]
        rfl
      · rename_i s hu hx
        have hu := und_eq hu (by simp)
        cases h
        refine ⟨_, key _ fun w => ?_, hr⟩
        rw [hx]
        simp [Builtin.len_, run_und hu, toV, goInt]
        rfl
      · rename_i n e hu
        have hu := und_eq hu (by simp)
        cases h
        refine ⟨_, key _ fun w => ?_, hr⟩
        simp [Builtin.len_, run_und hu, toV, goInt]
      · cases h
    · rename_i x t hc ha ht
      subst hc
      obtain rfl := hargs _ ha
      have ht' : ats = #[t] := by rw [← Array.toList_inj]; exact ht
      subst ht'
      have key : ∀ v, (∀ w, (Builtin.cap_ #[t] ty #[toV (ev (pA P R) env x)]).run P w = .ok v w) → ∀ w, (execOp a.eval ⟨dst, .call ⟨.builtin .cap, [x].toArray, #[t]⟩, ty, pos, after, guard⟩).run P w = .ok (.value v) w := by
        intro v hv w
        have := hv w
        simp [execOp, resolve, invoke, builtin, hev, this]
      split at h
      · rename_i e o l cap hu hx
        have hu := und_eq hu (by simp)
        cases h
        refine ⟨_, key _ fun w => ?_, hr⟩
        rw [hx]
        simp [Builtin.cap_, run_und hu, toV, goInt, pA]
      · cases h
    · rename_i x y hc ha
      subst hc
      obtain rfl := hargs _ ha
      have key : ∀ v, (∀ w, (Builtin.max2 (toV (ev (pA P R) env x)) (toV (ev (pA P R) env y))).run P w = .ok v w) → ∀ w, (execOp a.eval ⟨dst, .call ⟨.builtin .max, [x, y].toArray, ats⟩, ty, pos, after, guard⟩).run P w = .ok (.value v) w := by
        intro v hv w
        have := hv w
        simp [execOp, resolve, invoke, builtin, hev, Builtin.max_, this]
      split at h
      · rename_i ka n kb m hx hy
        split at h
        · rename_i hk
          subst hk
          cases h
          have ex := asI_v hx
          have ey := asI_v hy
          refine ⟨_, key _ fun w => ?_, hr⟩
          rw [ex, ey]
          simp only [Builtin.max2, pA, toV]
          by_cases hlt : (n : Int) < m
          · rw [if_pos hlt, Int.max_eq_right (Int.le_of_lt hlt)]; rfl
          · rw [if_neg hlt, Int.max_eq_left (Int.not_lt.1 hlt)]; rfl
        · cases h
      · cases h
    · rename_i x y hc ha
      subst hc
      obtain rfl := hargs _ ha
      have key : ∀ v, (∀ w, (Builtin.min2 (toV (ev (pA P R) env x)) (toV (ev (pA P R) env y))).run P w = .ok v w) → ∀ w, (execOp a.eval ⟨dst, .call ⟨.builtin .min, [x, y].toArray, ats⟩, ty, pos, after, guard⟩).run P w = .ok (.value v) w := by
        intro v hv w
        have := hv w
        simp [execOp, resolve, invoke, builtin, hev, Builtin.min_, this]
      split at h
      · rename_i ka n kb m hx hy
        split at h
        · rename_i hk
          subst hk
          cases h
          have ex := asI_v hx
          have ey := asI_v hy
          refine ⟨_, key _ fun w => ?_, hr⟩
          rw [ex, ey]
          simp only [Builtin.min2, pA, toV]
          by_cases hlt : (m : Int) < n
          · rw [if_pos hlt, Int.min_eq_right (Int.le_of_lt hlt)]; rfl
          · rw [if_neg hlt, Int.min_eq_left (Int.not_lt.1 hlt)]; rfl
        · cases h
      · cases h
    · cases h
  | _ => cases h
end Go.Vcg
