/- Regions, control, functions. -/
import Derived.Test.YtkekehngillblaaXEv
namespace Go.Vcg
set_option linter.unusedVariables false
set_option linter.unusedSimpArgs false
variable {P : Program} {R : Ending → World → Prop}

theorem Rep.put {env : Env pC} {a : Act} (h : Rep env a) {dst : Option Tmp} {sv : SV pC} (hd : ∀ d, dst = some d → d < a.tmps.size) : Rep (putS env dst sv) (a.put dst (toV sv)) := by
  cases dst with
  | none => exact h
  | some d =>
    intro t
    have hlt := hd d rfl
    simp only [putS, getS]
    by_cases ht : d = t
    · subst ht
      simp [Act.put, hlt]
    · have : Nat.beq d t = false := by
        cases hb : Nat.beq d t with
        | false => rfl
        | true => exact absurd (Nat.eq_of_beq_eq_true hb) ht
      simp only [this, cond_false]
      rw [← h t]
      simp [Act.put, Array.getElem?_setIfInBounds_ne ht]
theorem Rep.refine {env : Env pC} {a : Act} (h : Rep env a) {t : Tmp} {sv : SV pC} (hs : toV (getS env t) = toV sv) : Rep ((t, sv) :: env) a := by
  intro u
  simp only [getS]
  cases hb : Nat.beq t u with
  | true => simp only [cond_true]; rw [← Nat.eq_of_beq_eq_true hb, ← hs]; exact h t
  | false => simp only [cond_false]; exact h u
theorem Rep.tmp? {env : Env pC} {a : Act} (h : Rep env a) {t : Tmp} (hn : toV (getS env t) ≠ undef) : a.tmps[t]? = some (toV (getS env t)) := by
  have := h t
  rw [Array.getD_eq_getD_getElem?] at this
  cases ht : a.tmps[t]? with
  | none => rw [ht] at this; exact absurd this.symm hn
  | some v => rw [ht] at this; simpa using this

theorem guard_sound {ops : Array Oper} {o : Oper} {env : Env pC} {a : Act} (hrep : Rep env a) {yes no : Env pC → Prop} (h : guardS (pA P R) ops o env yes no) :
    (Region.wanted o (yielded ops a.tmps) = true ∧ ∃ env', Rep env' a ∧ yes env') ∨ (Region.wanted o (yielded ops a.tmps) = false ∧ ∃ env', Rep env' a ∧ no env') := by
  unfold guardS at h
  unfold Region.wanted
  cases hg : o.guard with
  | none => rw [hg] at h; exact .inl ⟨rfl, env, hrep, h⟩
  | some jw =>
    obtain ⟨j, want⟩ := jw
    rw [hg] at h
    simp only at h ⊢
    cases ht : (ops[j]?).bind (·.dst) with
    | none =>
      rw [ht] at h
      refine .inr ⟨?_, env, hrep, h⟩
      simp [yielded, ht]
    | some t =>
      rw [ht] at h
      simp only at h
      have hy : ∀ b : Bool, toV (getS env t) = .bool b → yielded ops a.tmps j = some b := by
        intro b hb
        have := hrep.tmp? (t := t) (by rw [hb]; simp [undef])
        simp [yielded, ht, this, hb]
      split at h
      · rename_i b hb
        have := hy b (by rw [hb]; rfl)
        rw [this]
        by_cases hbw : b = want
        · subst hbw
          simp only [beq_self_eq_true, if_true] at h
          exact .inl ⟨by simp, env, hrep, h⟩
        · have hne : (b == want) = false := by simpa using hbw
          rw [hne] at h
          exact .inr ⟨by simpa using hbw, env, hrep, h⟩
      · rename_i b hb
        obtain ⟨h1, h2⟩ := h
        have hv : toV (getS env t) = .bool (den b) := by rw [hb]; rfl
        rw [hy _ hv]
        cases hd : den b with
        | true =>
          have h1 := impP_spec _ _ _ h1 hd
          have hr : Rep ((t, .blit true) :: env) a := hrep.refine (by rw [hv, hd]; rfl)
          cases want with
          | true => exact .inl ⟨rfl, _, hr, h1⟩
          | false => exact .inr ⟨rfl, _, hr, h1⟩
        | false =>
          have h2 := impP_spec _ _ _ h2 hd
          have hr : Rep ((t, .blit false) :: env) a := hrep.refine (by rw [hv, hd]; rfl)
          cases want with
          | true => exact .inr ⟨rfl, _, hr, h2⟩
          | false => exact .inl ⟨rfl, _, hr, h2⟩
      · rename_i hb
        refine .inr ⟨?_, env, hrep, h⟩
        have hu : a.tmps.getD t undef = .tuple #[] := by rw [hrep t, hb]; rfl
        have hn : yielded ops a.tmps j = none := by
          unfold yielded
          rw [ht]
          simp only [Option.bind_some]
          rw [Array.getD_eq_getD_getElem?] at hu
          cases hx : a.tmps[t]? with
          | none => rfl
          | some v => rw [hx] at hu; simp at hu; subst hu; rfl
        rw [hn]; rfl
      · exact h.elim

theorem doOp_sound {o : Oper} {env : Env pC} {a : Act} {w : World} (hrep : Rep env a) {k : SV pC → World → Prop} (h : doOp (pA P R) P o env w k)
    {next : Act → World → Prop} {Q : Exit → Act → World → Prop} (hk : ∀ sv w', k sv w' → next (a.put o.dst (toV sv)) w') : o.wp P a w next Q := by
  unfold doOp at h
  split at h
  · rename_i r hp
    obtain ⟨sv, h1, h2⟩ := pureOp_sound hrep hp h
    exact wp_value (h1 w) (hk _ _ h2)
  · split at h
    · obtain ⟨sv, h1, h2, _⟩ := readOp_sound hrep h
      exact wp_value h1 (hk _ _ h2)
    · exact evOp_sound hrep h hk

def dstOk (n : Nat) (o : Oper) : Prop := ∀ d, o.dst = some d → d < n
/-- Nothing but these slots has changed. -/
def Keep (W : List Tmp) (a a' : Act) : Prop := ∀ t, t ∉ W → a'.tmps.getD t undef = a.tmps.getD t undef
theorem Keep.refl (W : List Tmp) (a : Act) : Keep W a a := fun _ _ => rfl
theorem Keep.trans {W : List Tmp} {a b c : Act} (h : Keep W a b) (k : Keep W b c) : Keep W a c := fun t ht => (k t ht).trans (h t ht)
theorem Keep.mono {W W' : List Tmp} {a b : Act} (h : Keep W a b) (hs : ∀ t ∈ W, t ∈ W') : Keep W' a b := fun t ht => h t fun hm => ht (hs t hm)
theorem Keep.put {W : List Tmp} {a : Act} {dst : Option Tmp} {v : Value} (h : ∀ d, dst = some d → d ∈ W) : Keep W a (a.put dst v) := by
  intro t ht
  have hne : dst ≠ some t := fun he => ht (h t he)
  rw [Array.getD_eq_getD_getElem?, put_get_ne hne, Array.getD_eq_getD_getElem?]

theorem regionS_sound {ops : Array Oper} {n : Nat} {W : List Tmp} {Q : Exit → Act → World → Prop} : ∀ (l : List Oper) (env : Env pC) (a : Act) (w : World) (k : Env pC → World → Prop), Rep env a → a.tmps.size = n →
    (∀ o ∈ l, dstOk n o) → (∀ o ∈ l, ∀ d, o.dst = some d → d ∈ W) → regionS (pA P R) P ops l env w k →
    (∀ env' a' w', Rep env' a' → a'.tmps.size = n → a'.defers = a.defers → Keep W a a' → k env' w' → Q .normal a' w') → wpList P ops Q l a w
  | [], env, a, w, k, hrep, hn, hd, hW, h, hk => hk env a w hrep hn rfl (Keep.refl _ _) h
  | o :: rest, env, a, w, k, hrep, hn, hd, hW, h, hk => by
    unfold regionS at h
    unfold wpList
    have hdo : dstOk n o := hd o (by simp)
    rcases guard_sound hrep h with ⟨hw, env', hrep', h⟩ | ⟨hw, env', hrep', h⟩
    · rw [if_pos hw]
      refine .inl (doOp_sound hrep' h fun sv w' hr => ?_)
      refine regionS_sound rest _ _ _ k (hrep'.put fun d hd' => by rw [hn]; exact hdo d hd') (by rw [put_size, hn]) (fun o ho => hd o (by simp [ho])) (fun o ho => hW o (by simp [ho])) hr ?_
      intro env'' a'' w'' h1 h2 h3 h5 h4
      exact hk _ _ _ h1 h2 (by rw [h3, put_defers']) ((Keep.put (hW o (by simp))).trans h5) h4
    · rw [if_neg (by simp [hw])]
      have hrep2 : Rep (putS env' o.dst (.tup [])) (a.put o.dst undef) := hrep'.put (sv := .tup []) fun d hd' => by rw [hn]; exact hdo d hd'
      refine regionS_sound rest _ _ _ k hrep2 (by rw [put_size, hn]) (fun o ho => hd o (by simp [ho])) (fun o ho => hW o (by simp [ho])) h ?_
      intro env'' a'' w'' h1 h2 h3 h5 h4
      exact hk _ _ _ h1 h2 (by rw [h3, put_defers']) ((Keep.put (hW o (by simp))).trans h5) h4

def AgainOK (p : Pend pC) : Prop := ∀ w r, p.again w r → r
theorem again_spec {ops : Array Oper} {j : Nat} {w : World} : ∀ (ps : List (Pend pC)) (r : Prop), (∀ p ∈ ps, AgainOK p) → againAll ops j w ps r →
    (∀ p ∈ ps, (descs ops p.i).getD j false = false → ∃ r', p.again w r') ∧ r
  | [], r, _, h => ⟨by simp, h⟩
  | p :: ps, r, hok, h => by
    unfold againAll at h
    have hps := fun q hq => hok q (List.mem_cons_of_mem p hq)
    split at h
    · rename_i hd
      obtain ⟨h1, h2⟩ := again_spec ps r hps h
      refine ⟨fun q hq hqd => ?_, h2⟩
      rcases List.mem_cons.1 hq with rfl | hq
      · rw [hd] at hqd; cases hqd
      · exact h1 q hq hqd
    · have hr := hok p (by simp) _ _ h
      obtain ⟨h1, h2⟩ := again_spec ps r hps hr
      refine ⟨fun q hq hqd => ?_, h2⟩
      rcases List.mem_cons.1 hq with rfl | hq
      · exact ⟨_, h⟩
      · exact h1 q hq hqd
theorem andAll_spec : ∀ (rs : List Prop), andAll (pA P R) rs → ∀ r ∈ rs, r
  | [], h, _, _ => h.elim
  | [r], h, r', hr => by rw [List.mem_singleton.1 hr]; exact h
  | r :: r2 :: rs, h, r', hr => by
    obtain ⟨h1, h2⟩ := h
    rcases List.mem_cons.1 hr with rfl | hr
    · exact h1
    · exact andAll_spec (r2 :: rs) h2 r' hr
theorem firstQuiet_spec {ops : Array Oper} : ∀ (rs : List Nat) (i : Nat), firstQuiet P ops rs = some i → i ∈ rs ∧ free ops i = true ∧ ∃ o, ops[i]? = some o
  | [], i, h => by cases h
  | r :: rs, i, h => by
    unfold firstQuiet at h
    split at h
    · rename_i o ho
      split at h
      · rename_i hq
        simp only [Bool.and_eq_true] at hq
        cases h; exact ⟨by simp, hq.2, o, ho⟩
      · obtain ⟨h1, h2⟩ := firstQuiet_spec rs i h
        exact ⟨List.mem_cons_of_mem _ h1, h2⟩
    · obtain ⟨h1, h2⟩ := firstQuiet_spec rs i h
      exact ⟨List.mem_cons_of_mem _ h1, h2⟩

/-- What was taken ahead: it yields the same in whatever world, or the executor asks for it again. -/
def PendRel (P : Program) (ops : Array Oper) (listed : Array Bool) (a : Act) (pend : List (Pend pC)) (pv : List (Nat × Value)) : Prop :=
  ∀ q ∈ pv, listed.getD q.1 false = true ∧ ((∀ w, YA P ops q.1 q.2 a w) ∨ ∃ p ∈ pend, p.i = q.1 ∧ ∀ w r, p.again w r → YA P ops q.1 q.2 a w)

theorem PendRel.step {ops : Array Oper} {listed : Array Bool} {a : Act} {pend : List (Pend pC)} {pv : List (Nat × Value)} (hs : ssa ops = true) (hc : Closed ops listed) (h : PendRel P ops listed a pend pv)
    {j : Nat} {oj : Oper} (hj : j ∈ Region.ready .any ops listed) (hoj : ops[j]? = some oj) (hf : free ops j = true) (u : Value) : PendRel P ops (listed.setIfInBounds j true) (a.put oj.dst u) pend pv := by
  intro q hq
  obtain ⟨h1, h2⟩ := h q hq
  obtain ⟨_, hlj⟩ := ready_lt hj
  refine ⟨getD_set_true h1, ?_⟩
  rcases h2 with h2 | ⟨p, hp, hpi, h2⟩
  · exact .inl fun w => (h2 w).put_later hs hc hoj (.inl hf) hlj h1
  · exact .inr ⟨p, hp, hpi, fun w r hr => (h2 w r hr).put_later hs hc hoj (.inl hf) hlj h1⟩
/-- Behind an operation that is carried out: of those that do not surely come ahead of it. -/
theorem PendRel.event {ops : Array Oper} {listed : Array Bool} {a : Act} {pend : List (Pend pC)} {pv : List (Nat × Value)} (hs : ssa ops = true) (hc : Closed ops listed) (h : PendRel P ops listed a pend pv)
    {j : Nat} {oj : Oper} (hj : j ∈ Region.ready .any ops listed) (hoj : ops[j]? = some oj) (u : Value) :
    PendRel P ops (listed.setIfInBounds j true) (a.put oj.dst u) (pend.filter fun p => !(descs ops p.i).getD j false) (pv.filter fun p => !(descs ops p.1).getD j false) := by
  intro q hq
  obtain ⟨hq, hqd⟩ := List.mem_filter.1 hq
  have hqd : (descs ops q.1).getD j false = false := by
    cases hb : (descs ops q.1).getD j false with
    | false => rfl
    | true => rw [hb] at hqd; cases hqd
  obtain ⟨h1, h2⟩ := h q hq
  obtain ⟨_, hlj⟩ := ready_lt hj
  refine ⟨getD_set_true h1, ?_⟩
  rcases h2 with h2 | ⟨p, hp, hpi, h2⟩
  · exact .inl fun w => (h2 w).put_later hs hc hoj (.inr hqd) hlj h1
  · refine .inr ⟨p, List.mem_filter.2 ⟨hp, ?_⟩, hpi, fun w r hr => (h2 w r hr).put_later hs hc hoj (.inr hqd) hlj h1⟩
    rw [hpi, hqd]; rfl

theorem regionG_sound {ops : Array Oper} {n : Nat} {W : List Tmp} {Q : Exit → Act → World → Prop} (hs : ssa ops = true) (hd : ∀ o ∈ ops, dstOk n o) (hW : ∀ o ∈ ops, ∀ d, o.dst = some d → d ∈ W) : ∀ (fuel : Nat) (listed : Array Bool) (pend : List (Pend pC)) (pv : List (Nat × Value)) (env : Env pC) (a : Act) (w : World) (k : Env pC → World → Prop),
    listed.size = ops.size → Closed ops listed → Rep env a → a.tmps.size = n → (∀ p ∈ pend, AgainOK p) → PendRel P ops listed a pend pv →
    regionG (pA P R) P ops fuel listed pend env w k →
    (∀ env' a' w', Rep env' a' → a'.tmps.size = n → a'.defers = a.defers → Keep W a a' → k env' w' → Q .normal a' w') → wpG P ops Q fuel listed pv a w
  | 0, _, _, _, _, _, _, _, _, _, _, _, _, _, h, _ => h.elim
  | fuel + 1, listed, pend, pv, env, a, w, k, hsz, hcl, hrep, hn, hok, hpr, h, hk => by
    unfold regionG at h
    unfold wpG
    split at h
    · rename_i hr
      exact .inl ⟨hr, hk env a w hrep hn rfl (Keep.refl _ _) h⟩
    · rename_i rs hne
      split at h
      · rename_i i hi
        obtain ⟨him, hfi, o, ho⟩ := firstQuiet_spec _ _ hi
        rw [ho] at h
        simp only at h
        obtain ⟨hilt, hiu⟩ := ready_lt him
        have hdo : ∀ d, o.dst = some d → d < a.tmps.size := fun d hd' => by rw [hn]; exact hd o (Array.mem_of_getElem? ho) d hd'
        have his : i < listed.size := by rw [hsz]; exact hilt
        have hsz' : (listed.setIfInBounds i true).size = ops.size := by simpa using hsz
        -- an operation does not look at what it writes
        have hself : ∀ (v : Value) (u : Value) (w : World), YA P ops i u a w → YA P ops i u (a.put o.dst v) w := by
          intro v u w hy
          refine hy.of_same hs fun o' ho' d hd' => (put_get_ne fun hdst => ?_).symm
          rw [ho] at ho'; cases ho'
          exact ((ssa_spec hs ho).2 d hdst).1 hd'
        rcases guard_sound hrep h with ⟨hw, env', hrep', h⟩ | ⟨hw, env', hrep', h⟩
        · split at h
          · rename_i r hp
            obtain ⟨sv, h1, h2⟩ := pureOp_sound hrep' hp h
            have hya : ∀ w, YA P ops i (toV sv) a w := fun w => ⟨o, ho, .inl ⟨hw, h1 w⟩⟩
            refine .inr (.inl ⟨i, o, toV sv, him, ho, hfi, hya w, ?_⟩)
            refine regionG_sound hs hd hW fuel _ pend _ _ _ w k hsz' (hcl.set him) (hrep'.put hdo) (by rw [put_size, hn]) hok ?_ h2 ?_
            · intro q hq
              rcases List.mem_cons.1 hq with rfl | hq
              · exact ⟨getD_set_self his, .inl fun w => hself _ _ _ (hya w)⟩
              · exact hpr.step hs hcl him ho hfi _ q hq
            · intro env'' a'' w'' h3 h4 h5 h7 h6
              exact hk _ _ _ h3 h4 (by rw [h5, put_defers']) ((Keep.put (hW o (Array.mem_of_getElem? ho))).trans h7) h6
          · obtain ⟨sv, h1, h2, h3⟩ := readOp_sound hrep' h
            have hya : YA P ops i (toV sv) a w := ⟨o, ho, .inl ⟨hw, h1⟩⟩
            refine .inr (.inl ⟨i, o, toV sv, him, ho, hfi, hya, ?_⟩)
            refine regionG_sound hs hd hW fuel _ _ _ _ _ w k hsz' (hcl.set him) (hrep'.put hdo) (by rw [put_size, hn]) ?_ ?_ h2 ?_
            · exact List.forall_mem_cons.2 ⟨fun w r hr => (h3 w r hr).2, hok⟩
            · intro q hq
              rcases List.mem_cons.1 hq with rfl | hq
              · refine ⟨getD_set_self his, .inr ⟨⟨i, rereadOp (pA P R) P o (ev (pA P R) env') sv⟩, List.mem_cons_self, rfl, fun w r hr => hself _ _ _ ⟨o, ho, .inl ⟨hw, (h3 w r hr).1⟩⟩⟩⟩
              · obtain ⟨h4, h5⟩ := hpr.step hs hcl him ho hfi (toV sv) q hq
                refine ⟨h4, ?_⟩
                rcases h5 with h5 | ⟨p, hp, h5⟩
                · exact .inl h5
                · exact .inr ⟨p, List.mem_cons_of_mem _ hp, h5⟩
            · intro env'' a'' w'' h3 h4 h5 h7 h6
              exact hk _ _ _ h3 h4 (by rw [h5, put_defers']) ((Keep.put (hW o (Array.mem_of_getElem? ho))).trans h7) h6
        · have hya : ∀ w, YA P ops i undef a w := fun w => ⟨o, ho, .inr ⟨hw, rfl⟩⟩
          refine .inr (.inl ⟨i, o, undef, him, ho, hfi, hya w, ?_⟩)
          have hrep2 : Rep (putS env' o.dst (.tup [])) (a.put o.dst undef) := hrep'.put (sv := .tup []) hdo
          refine regionG_sound hs hd hW fuel _ pend _ _ _ w k hsz' (hcl.set him) hrep2 (by rw [put_size, hn]) hok ?_ h ?_
          · intro q hq
            rcases List.mem_cons.1 hq with rfl | hq
            · exact ⟨getD_set_self his, .inl fun w => hself _ _ _ (hya w)⟩
            · exact hpr.step hs hcl him ho hfi _ q hq
          · intro env'' a'' w'' h3 h4 h5 h7 h6
            exact hk _ _ _ h3 h4 (by rw [h5, put_defers']) ((Keep.put (hW o (Array.mem_of_getElem? ho))).trans h7) h6
      · refine .inr (.inr ⟨hne, fun j hj => ?_⟩)
        obtain ⟨hjlt, hju⟩ := ready_lt hj
        have h := andAll_spec _ h _ (List.mem_map.2 ⟨j, hj, rfl⟩)
        obtain ⟨oj, hoj⟩ : ∃ oj, ops[j]? = some oj := ⟨_, Array.getElem?_eq_getElem hjlt⟩
        simp only [hoj] at h
        have hdo : ∀ d, oj.dst = some d → d < a.tmps.size := fun d hd' => by rw [hn]; exact hd oj (Array.mem_of_getElem? hoj) d hd'
        have hsz' : (listed.setIfInBounds j true).size = ops.size := by simpa using hsz
        have fin : ∀ (env' : Env pC) (sv : SV pC) (w' : World), Rep env' a →
            againAll ops j w' pend (regionG (pA P R) P ops fuel (listed.setIfInBounds j true) (pend.filter fun p => !(descs ops p.i).getD j false) (putS env' oj.dst sv) w' k) →
            (∀ p ∈ pv, (descs ops p.1).getD j false = false → YA P ops p.1 p.2 (a.put oj.dst (toV sv)) w') ∧
              wpG P ops Q fuel (listed.setIfInBounds j true) (pv.filter fun p => !(descs ops p.1).getD j false) (a.put oj.dst (toV sv)) w' := by
          intro env' sv w' hrep' hag
          obtain ⟨h1, h2⟩ := again_spec _ _ hok hag
          have hpr' := hpr.event hs hcl hj hoj (toV sv)
          refine ⟨fun q hq hqd => ?_, ?_⟩
          · rcases (hpr' q (List.mem_filter.2 ⟨hq, by rw [hqd]; rfl⟩)).2 with h3 | ⟨p, hp, hpi, h3⟩
            · exact h3 w'
            · obtain ⟨r', hr'⟩ := h1 p (List.mem_filter.1 hp).1 (by rw [hpi]; exact hqd)
              exact h3 w' r' hr'
          · refine regionG_sound hs hd hW fuel _ _ _ _ _ w' k hsz' (hcl.set hj) (hrep'.put hdo) (by rw [put_size, hn]) (fun p hp => hok p (List.mem_filter.1 hp).1) hpr' h2 ?_
            intro env'' a'' w'' h3 h4 h5 h7 h6
            exact hk _ _ _ h3 h4 (by rw [h5, put_defers']) ((Keep.put (hW oj (Array.mem_of_getElem? hoj))).trans h7) h6
        unfold wpOp
        simp only [hoj]
        rcases guard_sound hrep h with ⟨hw, env', hrep', h⟩ | ⟨hw, env', hrep', h⟩
        · rw [if_pos hw]
          exact .inl (doOp_sound hrep' h fun sv w' hr => fin env' sv w' hrep' hr)
        · rw [if_neg (by simp [hw])]
          exact fin env' (.tup []) w hrep' h
end Go.Vcg
