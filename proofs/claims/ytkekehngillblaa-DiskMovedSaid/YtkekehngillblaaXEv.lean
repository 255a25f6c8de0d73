/- What changes the world, or calls. -/
import Derived.Test.YtkekehngillblaaXRead
namespace Go.Vcg
set_option linter.unusedVariables false
set_option linter.unusedSimpArgs false
variable {P : Program} {R : Ending → World → Prop}

theorem stAll_spec {d : Addr} : ∀ (svs : List (SV pC)) (i : Nat) (w : World) (k : World → Prop), stAll (pA P R) d i svs w k → ∃ w', (storeCells d (toVs svs) i).run P w = .ok () w' ∧ (∀ sv ∈ svs, (toV sv).oneCell' = true) ∧ k w'
  | [], i, w, k, h => ⟨w, rfl, by simp, h⟩
  | v :: vs, i, w, k, h => by
    obtain ⟨⟨h1, ⟨u, hu⟩, h2⟩, h⟩ := h
    obtain ⟨w', h3, h4, h5⟩ := stAll_spec vs (i + 1) _ k (h _ rfl)
    have hd : (if i = 0 then d else (pA P R).dadd d ((pA P R).nl i)) = Addr.add d i := by
      by_cases h0 : i = 0
      · rw [if_pos h0, h0, add_zero']
      · rw [if_neg h0]; rfl
    rw [hd] at hu h2 h3
    refine ⟨w', ?_, List.forall_mem_cons.2 ⟨h1, h4⟩, h5⟩
    simp only [toVs, storeCells, Sem.run_bind, run_store P w _ _ _ h1, hu, h2]
    exact h3

theorem toVs_ofCells (cs : List Value) : toVs (cs.map (ofCell (pA P R))) = cs := by
  rw [toVs_eq, List.map_map]
  have : (toV ∘ ofCell (pA P R)) = id := funext fun v => toV_ofCell v
  rw [this]; simp

theorem run_newVar {t : TypeId} {v : Value} {w : World} : (newVar t v).run P w = .ok ⟨w.heap.size, 0, none⟩ (w.alloc (.cells v.cells t)) := by
  simp [newVar, newRow]

section
variable {o : Oper} {a : Act} {w : World} {next : Act → World → Prop} {Q : Exit → Act → World → Prop}

theorem wp_value {v : Value} {w' : World} (h : (execOp a.eval o).run P w = .ok (.value v) w') (hn : next (a.put o.dst v) w') : o.wp P a w next Q := by
  unfold Oper.wp; rw [h]; exact hn
theorem wp_skip' {w' : World} (h : (execOp a.eval o).run P w = .ok .skip w') (hn : next (a.put o.dst undef) w') : o.wp P a w next Q := by
  unfold Oper.wp; rw [h]; exact hn
theorem wp_enter {f : FuncId} {args : Array Value} {w' : World} (h : (execOp a.eval o).run P w = .ok (.enter f args) w') (hn : Calls P f args w' fun e w'' => ∃ v, e = .returned v ∧ next (a.put o.dst v) w'') : o.wp P a w next Q := by
  unfold Oper.wp; rw [h]
  exact hn.mono fun e w'' ⟨v, he, hv⟩ => by subst he; exact hv

theorem exec_val' {ρ : Operand → Value} {s : Sem Value} {v : Value} {w w' : World} (ho : execOp ρ o = (do pure (.value (← s)))) (h : s.run P w = .ok v w') :
    (execOp ρ o).run P w = .ok (.value v) w' := by
  rw [ho]; simp [h]
theorem exec_unit {ρ : Operand → Value} {s : Sem Unit} {w w' : World} (ho : execOp ρ o = (do s; pure .skip)) (h : s.run P w = .ok () w') :
    (execOp ρ o).run P w = .ok .skip w' := by
  rw [ho]; simp [h]
theorem semU_exec {ρ : Operand → Value} {s : Sem Unit} (h : semU o ρ = some s) : execOp ρ o = (do s; pure .skip) := by
  obtain ⟨dst, op, ty, pos, after, guard⟩ := o
  cases op <;> first
    | (cases h; rfl)
    | (cases h; done)
end

theorem run_callFunc {f : FuncId} {args : Array Value} (h : enters P f = true) (w : World) : (callFunc f args).run P w = .ok (.enter f args) w := by
  unfold enters at h
  cases hf : P.funcs[f]? with
  | none => rw [hf] at h; cases h
  | some fn =>
    rw [hf] at h
    simp only [Bool.and_eq_true, bne_iff_ne, ne_eq] at h
    unfold callFunc
    have hb : fn.body ≠ none := by rintro hb; rw [hb] at h; cases h.1
    simp [hf, h.2, hb]

theorem endEx {sh : Shape} {e : Ending} {k : SV pC → Prop} (h : exShape (pA P R) sh fun sv => (pA P R).endEq e sv (k sv)) : ∃ sv, e = .returned (toV sv) ∧ k sv :=
  exShape_spec (P := P) (R := R) _ _ h
theorem valEx {sh : Shape} {v : Value} {k : SV pC → Prop} (h : exShape (pA P R) sh fun sv => (pA P R).valEq v sv (k sv)) : ∃ sv, v = toV sv ∧ k sv :=
  exShape_spec (P := P) (R := R) _ _ h

theorem zeroSVs_toVs (z : Value) : toVs (zeroSVs (pA P R) z) = z.cells.toList := by
  unfold zeroSVs
  split
  · rw [toVs_ofCells]; rfl
  · rename_i h
    simp only [toVs, toV_ofCell]
    cases z <;> first
      | rfl
      | exact absurd rfl (h _)
theorem zeros_eq (n : Nat) (l : List (SV pC)) : toVs (List.replicate n l).flatten = (List.replicate n (toVs l)).flatten := by
  simp [toVs_eq, List.map_flatten]
theorem flat_rep {α : Type} (l : List α) : ∀ (n i : Nat), i < n * l.length → (List.replicate n l).flatten[i]? = l[i % l.length]?
  | 0, i, h => by simp at h
  | n + 1, i, h => by
    rw [List.replicate_succ, List.flatten_cons]
    by_cases hi : i < l.length
    · rw [List.getElem?_append_left hi, Nat.mod_eq_of_lt hi]
    · have hle : l.length ≤ i := Nat.not_lt.1 hi
      rw [List.getElem?_append_right hle, flat_rep l n (i - l.length) (by rw [Nat.add_mul, Nat.one_mul] at h; omega), ← Nat.mod_eq_sub_mod hle]
theorem zeros_range (l : Array Value) (n : Nat) : ((Array.range (n * l.size)).map fun i => l[i % l.size]!) = ((List.replicate n l.toList).flatten).toArray := by
  have hlen : (List.replicate n l.toList).flatten.length = n * l.size := by simp
  refine Array.ext (by simp) fun i h1 h2 => ?_
  have hi : i < n * l.size := by simpa using h1
  have hpos : 0 < l.size := by
    rcases Nat.eq_zero_or_pos l.size with h | h
    · rw [h, Nat.mul_zero] at hi; omega
    · exact h
  have hm : i % l.size < l.size := Nat.mod_lt _ hpos
  have := flat_rep l.toList n i (by simpa using hi)
  rw [List.getElem?_eq_getElem (by rw [hlen]; exact hi)] at this
  simp only [Array.getElem_map, Array.getElem_range, List.getElem_toArray]
  have e : l.toList[i % l.toList.length]? = some l[i % l.size] := by simp [hm]
  rw [e] at this
  simp only [Option.some.injEq] at this
  rw [this]
  simp [hm]

theorem run_buildSlice {t e : TypeId} {n : Nat} {z : Value} {cells : Array Value} {parts : Array (Nat × Value)} {ie : TypeInfo} {w : World} (hu : P.underlying t = some (.slice e)) (hie : P.info? e = some ie)
    (hz : zeroOf P e = some z) (hsz : z.cells.size = tsize P e) (hn : n * tsize P e ≤ 4096)
    (hf : Instr.fill (fun i => some (i * tsize P e, tsize P e)) ((List.replicate n z.cells.toList).flatten).toArray parts.toList = some cells) :
    (Instr.buildSlice t n parts).run P w = .ok (.slice (some ⟨w.heap.size, 0, none⟩) n n) (w.alloc (.cells cells e)) := by
  unfold Instr.buildSlice
  simp only [Sem.run_bind, run_und hu, Result.andThen_ok, run_sizeOf hie]
  have hbig : ¬ n * tsize P e > 2 ^ 24 := by omega
  rw [if_neg hbig]
  by_cases h0 : n * tsize P e = 0
  · have hnil : (List.replicate n z.cells.toList).flatten = [] := by
      rw [← List.length_eq_zero_iff]; simp [hsz, h0]
    rw [hnil] at hf
    have e0 : (Array.map (fun x => (default : Value)) (Array.range 0)) = #[] := by simp
    simp [h0, e0, hf, newRow]
  · have hr := zeros_range z.cells n
    rw [hsz] at hr
    rw [← hr] at hf
    simp [h0, zero_und hz, hsz, hf, newRow]

/-- **What changes the world, or calls.** -/
theorem evOp_sound {o : Oper} {env : Env pC} {a : Act} {w : World} (hrep : Rep env a) {k : SV pC → World → Prop} (h : evOp (pA P R) P o (ev (pA P R) env) w k)
    {next : Act → World → Prop} {Q : Exit → Act → World → Prop} (hk : ∀ sv w', k sv w' → next (a.put o.dst (toV sv)) w') : o.wp P a w next Q := by
  have hev : ∀ x, a.eval x = toV (ev (pA P R) env x) := fun x => hrep.eval x
  have hfun : (fun x => toV (ev (pA P R) env x)) = a.eval := funext fun x => (hev x).symm
  -- a generic one
  have ran : (pA P R).run o (ev (pA P R) env) w (fun v w => exShape (pA P R) (shapeT P o.type) fun sv => (pA P R).valEq v sv (k sv w)) → o.wp P a w next Q := by
    intro h
    simp only [pA] at h
    cases hs : semV o (fun x => toV (ev (pA P R) env x)) with
    | none => have h' := h; simp only [pA] at hs; rw [hs] at h'; exact h'.elim
    | some s =>
      have h' := h
      simp only [pA] at hs
      rw [hs] at h'
      obtain ⟨v, w', h1, h2⟩ := h'
      obtain ⟨sv, h3, h4⟩ := valEx (P := P) (R := R) h2
      subst h3
      have hs' : semV o a.eval = some s := by rw [← hfun]; exact hs
      exact wp_value (exec_val (semV_exec hs') h1) (hk _ _ h4)
  have ranR : (pA P R).run o (ev (pA P R) env) w (fun v w => k (.raw v) w) → o.wp P a w next Q := by
    intro h
    simp only [pA] at h
    cases hs : semV o (fun x => toV (ev (pA P R) env x)) with
    | none => have h' := h; simp only [pA] at hs; rw [hs] at h'; exact h'.elim
    | some s =>
      have h' := h
      simp only [pA] at hs
      rw [hs] at h'
      obtain ⟨v, w', h1, h2⟩ := h'
      have hs' : semV o a.eval = some s := by rw [← hfun]; exact hs
      exact wp_value (exec_val (semV_exec hs') h1) (hk _ _ h2)
  have ranU : (pA P R).runU o (ev (pA P R) env) w (fun w => k (.tup []) w) → o.wp P a w next Q := by
    intro h
    simp only [pA] at h
    cases hs : semU o (fun x => toV (ev (pA P R) env x)) with
    | none => have h' := h; simp only [pA] at hs; rw [hs] at h'; exact h'.elim
    | some s =>
      have h' := h
      simp only [pA] at hs
      rw [hs] at h'
      obtain ⟨w', h1, h2⟩ := h'
      have hs' : semU o a.eval = some s := by rw [← hfun]; exact hs
      exact wp_skip' (exec_unit (semU_exec hs') h1) (hk _ _ h2)
  unfold evOp at h
  simp only at h
  split at h
  · -- alloc
    rename_i t ho
    have hex : execOp a.eval o = (do pure (.value (← Instr.alloc t true (.tuple #[])))) := by unfold execOp; simp only [ho]
    have key : ∀ z, zeroOf P t = some z → (Instr.alloc t true (.tuple #[])).run P w = .ok (.pointer (some ⟨w.heap.size, 0, none⟩)) (w.alloc (.cells z.cells t)) := by
      intro z hz
      unfold Instr.alloc
      simp only [Sem.run_bind, zero_und hz, Result.andThen_ok, run_newVar, Sem.run_pure]
    split at h
    · rename_i cs hz
      split at h
      · have h' := h _ _ ⟨rfl, rfl⟩
        refine wp_value (exec_val hex (key _ hz)) ?_
        have := hk _ _ h'
        rw [toVs_ofCells] at this
        simpa [Value.cells, toV] using this
      · have h' := h _ _ ⟨rfl, rfl⟩
        exact wp_value (exec_val hex (key _ hz)) (hk _ _ h')
    · rename_i z hn hz
      have h' := h _ _ ⟨rfl, rfl⟩
      refine wp_value (exec_val hex (key _ hz)) ?_
      have := hk _ _ h'
      have hc : z.cells = #[z] := by
        cases z <;> first
          | rfl
          | exact absurd rfl (hn _)
      simp only [toVs, toV_ofCell, toV] at this
      rw [hc]
      exact this
    · exact h.elim
  · -- box
    rename_i t x ho
    have hex : execOp a.eval o = (do pure (.value (← Instr.box t (a.eval x)))) := by unfold execOp; simp only [ho]
    have key : (Instr.box t (a.eval x)).run P w = .ok (.pointer (some ⟨w.heap.size, 0, none⟩)) (w.alloc (.cells (a.eval x).cells t)) := by
      unfold Instr.box
      simp only [Sem.run_bind, Result.andThen_ok, run_newVar, Sem.run_pure]
    split at h
    · rename_i n l hx
      have h' := h _ _ ⟨rfl, rfl⟩
      refine wp_value (exec_val hex key) ?_
      rw [hev, hx]
      exact hk _ _ h'
    · split at h
      · rename_i cs hcs
        obtain ⟨hrw, h⟩ := ones_spec _ _ h
        have h' := h _ _ ⟨rfl, rfl⟩
        refine wp_value (exec_val hex key) ?_
        rw [hev, cells_of (hrw _ (by simp)) hcs]
        exact hk _ _ h'
      · exact h.elim
  · -- buildSlice
    rename_i t n parts ho
    have hex : execOp a.eval o = (do pure (.value (← Instr.buildSlice t n (parts.map fun (i, x) => (i, a.eval x))))) := by unfold execOp; simp only [ho]
    split at h
    · rename_i e hu
      have hu := und_eq hu (by simp)
      split at h
      · rename_i z hz
        split at h
        · rename_i hc
          split at h
          · rename_i cells hb
            obtain ⟨hrw, h⟩ := ones_spec _ _ h
            have h' := h _ _ ⟨rfl, rfl⟩
            refine wp_value (exec_val hex ?_) (hk _ _ h')
            have hie : ∃ ie, P.info? e = some ie := by
              cases hi : P.info? e with
              | none => simp [zeroOf, hi] at hz
              | some ie => exact ⟨ie, rfl⟩
            obtain ⟨ie, hie⟩ := hie
            have hfill := buildSmall_sound (place := fun i => some (i * tsize P e, tsize P e)) (ev := ev (pA P R) env) parts.toList _ cells hrw hb
            have hl : (parts.map fun (i, x) => (i, a.eval x)).toList = parts.toList.map fun (i, x) => (i, toV (ev (pA P R) env x)) := by simp [hev]
            have hzs : (toVs (zeroSVs (pA P R) z)).length = tsize P e := by rw [toVs_length]; exact hc.1
            rw [← hl, zeros_eq] at hfill
            rw [zeroSVs_toVs] at hzs hfill
            exact run_buildSlice hu hie hz (by simpa using hzs) (Nat.le_trans hc.2.1 (by decide)) hfill
          · exact h.elim
        · split at h
          · rename_i hn1
            obtain ⟨rfl, hlen, hle⟩ := hn1
            split at h
            · rename_i r hb
              obtain ⟨hrw, h⟩ := ones_spec _ _ h
              have hie : ∃ ie, P.info? e = some ie := by
                cases hi : P.info? e with
                | none => simp [zeroOf, hi] at hz
                | some ie => exact ⟨ie, rfl⟩
              obtain ⟨ie, hie⟩ := hie
              have hzc : (pA P R).lconst z = z.cells := by cases z <;> rfl
              have hzs : z.cells.size = tsize P e := by
                have h1 := zeroSVs_toVs (P := P) (R := R) z
                have h2 := congrArg List.length h1
                rw [toVs_length, hlen] at h2
                simpa using h2.symm
              rw [hzc] at hb
              obtain ⟨out, ho', hk'⟩ := buildBig_sound (place := fun i => some (i * tsize P e, tsize P e)) (ev := ev (pA P R) env) (n := tsize P e) parts.toList z.cells r hrw hzs hb h
              have h' := hk' _ _ ⟨rfl, rfl⟩
              have hl : (parts.map fun (i, x) => (i, a.eval x)).toList = parts.toList.map fun (i, x) => (i, toV (ev (pA P R) env x)) := by simp [hev]
              rw [← hl] at ho'
              refine wp_value (exec_val hex (run_buildSlice hu hie hz hzs (by omega) ?_)) (hk _ _ h')
              simpa using ho'
            · exact h.elim
          · exact h.elim
      · exact h.elim
    · exact h.elim
  · -- store
    rename_i t x y ho
    have hex : execOp a.eval o = (do Instr.storeAt t (a.eval x) (a.eval y); pure .skip) := by unfold execOp; simp only [ho]
    split at h
    · rename_i d hx
      split at h
      · rename_i cs hcs
        split at h
        · rename_i hlen
          obtain ⟨w', h1, h2, h3⟩ := stAll_spec _ _ _ _ h
          refine wp_skip' (exec_unit hex ?_) (hk _ _ h3)
          have hrw : RawOk (ev (pA P R) env y) := by
            cases hy : ev (pA P R) env y with
            | raw v =>
              rw [hy] at hcs
              cases hcs
              exact h2 (.raw v) (by simp)
            | _ => trivial
          obtain ⟨i, hi⟩ := Option.isSome_iff_exists.1 hlen.2
          have hc := cells_of hrw hcs
          rw [hev, hev, hx]
          unfold Instr.storeAt
          simp only [toV, Instr.sureAddr, Sem.run_bind, Sem.run_pure, Result.andThen_ok]
          unfold storeVar
          simp only [Sem.run_bind, run_sizeOf hi, Result.andThen_ok, hc, List.size_toArray, toVs_length, hlen.1]
          simpa using h1
        · exact h.elim
      · exact ranU h
    · exact h.elim
  · exact ranU h
  · exact ranU h
  · exact ranU h
  · -- a call
    rename_i c ho
    have hargs : ∀ l : List Operand, (l.map (ev (pA P R) env)).map toV = l.map a.eval := fun l => by
      rw [List.map_map]; exact congrArg (fun f => List.map f l) hfun
    split at h
    · exact ran h
    · rename_i f hc
      have hex : ∀ fn first cap, a.eval f = .func (.func fn) first cap → (execOp a.eval o).run P w = (callFunc fn (first ++ c.args.map a.eval ++ cap)).run P w := by
        intro fn first cap hf
        simp [execOp, ho, resolve, hc, Deferred.ofValue, hf, invoke]
      split at h
      · rename_i fn first cap hf
        have hf' : a.eval f = .func (.func fn) (toVs first).toArray (toVs cap).toArray := by rw [hev, hf]; rfl
        have hall : (toVs (first ++ c.args.toList.map (ev (pA P R) env) ++ cap)).toArray = (toVs first).toArray ++ c.args.map a.eval ++ (toVs cap).toArray := by
          refine Array.ext' ?_
          simp only [toVs_eq, List.map_append, hargs]
          simp
        split at h
        · rename_i hen
          have h : Calls P fn (toVs (first ++ c.args.toList.map (ev (pA P R) env) ++ cap)).toArray w (fun e w => exShape (pA P R) (shapeT P o.type) fun sv => (pA P R).endEq e sv (k sv w)) := h
          rw [hall] at h
          refine wp_enter ((hex _ _ _ hf').trans (run_callFunc hen w)) (h.mono fun e w'' he => ?_)
          obtain ⟨sv, h1, h2⟩ := endEx (P := P) (R := R) he
          exact ⟨_, h1, hk _ _ h2⟩
        · split at h
          · obtain ⟨v, w', h1, h2⟩ := h
            obtain ⟨sv, h3, h4⟩ := valEx (P := P) (R := R) h2
            subst h3
            rw [hall] at h1
            exact wp_value ((hex _ _ _ hf').trans h1) (hk _ _ h4)
          · exact h.elim
      · rename_i m v hf
        obtain ⟨t, y, fn, recv, hv, hm, hen, h⟩ := h
        have hf' : a.eval f = .func (.method m) #[.iface t y] #[] := by
          rw [hev, hf, ← hv]; rfl
        have hall : (toVs (c.args.toList.map (ev (pA P R) env))).toArray = c.args.map a.eval := by
          rw [toVs_eq, hargs]
          exact Array.ext' (by simp)
        rw [hall] at h
        have hex : (execOp a.eval o).run P w = (callFunc fn (#[recv] ++ c.args.map a.eval)).run P w := by
          have hget : ((#[Value.iface t y] ++ c.args.map a.eval)[0]? : Option Value) = some (.iface t y) := by rw [Array.getElem?_append_left (by simp)]; rfl
          have hext : (#[Value.iface t y] ++ c.args.map a.eval).extract 1 (#[Value.iface t y] ++ c.args.map a.eval).size = c.args.map a.eval :=
            Array.ext' (by simp; exact List.take_of_length_le (by simp))
          simp only [execOp, ho, resolve, hc, Deferred.ofValue, hf', Sem.run_bind, Sem.run_pure, Result.andThen_ok, invoke, hget, hext, callMethod, run_program, hm]
        refine wp_enter (hex.trans (run_callFunc hen w)) (h.mono fun e w'' he => ?_)
        obtain ⟨sv, h1, h2⟩ := endEx (P := P) (R := R) he
        exact ⟨_, h1, hk _ _ h2⟩
      · rename_i v hf
        obtain ⟨fn, first, cap, hv, hen, h⟩ := h
        have hf' : a.eval f = .func (.func fn) first cap := by rw [hev, hf, ← hv]; rfl
        have hall : first ++ (toVs (c.args.toList.map (ev (pA P R) env))).toArray ++ cap = first ++ c.args.map a.eval ++ cap := by
          rw [toVs_eq, hargs]
          congr 2
          exact Array.ext' (by simp)
        rw [hall] at h
        refine wp_enter ((hex _ _ _ hf').trans (run_callFunc hen w)) (h.mono fun e w'' he => ?_)
        obtain ⟨sv, h1, h2⟩ := endEx (P := P) (R := R) he
        exact ⟨_, h1, hk _ _ h2⟩
      · exact h.elim
    · rename_i x m hc
      split at h
      · rename_i v hx
        obtain ⟨t, y, f, recv, hv, hm, hen, h⟩ := h
        have hx' : a.eval x = .iface t y := by rw [hev, hx, ← hv]; rfl
        have hall : (toVs (c.args.toList.map (ev (pA P R) env))).toArray = c.args.map a.eval := by
          rw [toVs_eq, hargs]
          exact Array.ext' (by simp)
        rw [hall] at h
        have hex : (execOp a.eval o).run P w = (callFunc f (#[recv] ++ c.args.map a.eval)).run P w := by
          have hget : ((#[a.eval x] ++ c.args.map a.eval)[0]? : Option Value) = some (a.eval x) := by rw [Array.getElem?_append_left (by simp)]; rfl
          have hext : (#[a.eval x] ++ c.args.map a.eval).extract 1 (#[a.eval x] ++ c.args.map a.eval).size = c.args.map a.eval :=
            Array.ext' (by simp; exact List.take_of_length_le (by simp))
          rw [hx'] at hget hext
          simp only [execOp, ho, resolve, hc, Sem.run_bind, Sem.run_pure, Result.andThen_ok, invoke, hx', hget, hext, callMethod, run_program, hm]
        refine wp_enter (hex.trans (run_callFunc hen w)) (h.mono fun e w'' he => ?_)
        obtain ⟨sv, h1, h2⟩ := endEx (P := P) (R := R) he
        exact ⟨_, h1, hk _ _ h2⟩
      · exact h.elim
  all_goals first
    | exact ran h
    | exact ranR h
    | exact h.elim
end Go.Vcg
