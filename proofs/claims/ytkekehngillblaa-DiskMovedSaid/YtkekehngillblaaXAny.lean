/- Regions whose order is open: one walk in an order of our choice serves every order. No program is named here. -/
import Derived.Orders
namespace Go.Vcg

/-- The operations behind which number 'i' always stands: for each number, whether it waits for 'i', directly or through others. -/
def descsFrom (i : Nat) : List Oper → List Bool → List Bool
  | [], acc => acc
  | o :: rest, acc => descsFrom i rest (acc ++ [o.after.any fun e => Region.binds .any e && (e.on == i || acc.getD e.on false)])
def descs (ops : Array Oper) (i : Nat) : List Bool := descsFrom i ops.toList []

def Closed (ops : Array Oper) (listed : Array Bool) : Prop :=
  ∀ (j : Nat) (o : Oper), ops[j]? = some o → listed.getD j false = true → ∀ e ∈ o.after, Region.binds .any e = true → listed.getD e.on false = true

theorem descsFrom_spec {ops : Array Oper} {i : Nat} : ∀ (l : List Oper) (acc : List Bool), (∀ k, l[k]? = ops[acc.length + k]?) →
    (∀ k o, acc.getD k false = true → ops[k]? = some o → ∀ listed, Closed ops listed → (∀ e ∈ o.after, Region.binds .any e = true → listed.getD e.on false = true) → listed.getD i false = true) →
    ∀ k o, (descsFrom i l acc).getD k false = true → ops[k]? = some o → ∀ listed, Closed ops listed → (∀ e ∈ o.after, Region.binds .any e = true → listed.getD e.on false = true) → listed.getD i false = true
  | [], _, _, h => h
  | o :: l, acc, hl, h => by
    have h0 : ops[acc.length]? = some o := by simpa using (hl 0).symm
    refine descsFrom_spec l _ (fun k => ?_) ?_
    · have := hl (k + 1)
      simpa [Nat.add_assoc, Nat.add_comm 1 k] using this
    · intro k o' hk ho' listed hc hp
      rcases Nat.lt_trichotomy k acc.length with hlt | heq | hgt
      · refine h k o' ?_ ho' listed hc hp
        simpa [List.getD_eq_getElem?_getD, List.getElem?_append_left hlt] using hk
      · subst heq
        rw [h0] at ho'
        cases ho'
        simp only [List.getD_eq_getElem?_getD, List.getElem?_append_right (Nat.le_refl _), Nat.sub_self, List.getElem?_cons_zero, Option.getD_some] at hk
        obtain ⟨e, he, hb⟩ := Array.any_eq_true'.1 hk
        simp only [Bool.and_eq_true, Bool.or_eq_true, beq_iff_eq] at hb
        have hon := hp e he hb.1
        rcases hb.2 with h1 | h1
        · rw [← h1]; exact hon
        · have h2 : acc.getD e.on false = true := by simpa [List.getD_eq_getElem?_getD] using h1
          have hlen : e.on < acc.length := by
            rcases Nat.lt_or_ge e.on acc.length with h' | h'
            · exact h'
            · simp [List.getD_eq_getElem?_getD, List.getElem?_eq_none h'] at h2
          have hex : ∃ ok, ops[e.on]? = some ok := by
            have hs : acc.length < ops.size := (Array.getElem?_eq_some_iff.1 h0).1
            exact ⟨_, Array.getElem?_eq_getElem (by omega)⟩
          obtain ⟨ok, hok⟩ := hex
          exact h e.on ok h2 hok listed hc (hc e.on ok hok hon)
      · have : (acc ++ [o.after.any fun e => Region.binds .any e && (e.on == i || acc.getD e.on false)]).length ≤ k := by simp; omega
        rw [List.getD_eq_getElem?_getD, List.getElem?_eq_none this] at hk
        cases hk

/-- Whoever may come up stands behind 'i' only if 'i' has come up. -/
theorem descs_ready {ops : Array Oper} {i j : Nat} {listed : Array Bool} (hc : Closed ops listed) (hj : j ∈ Region.ready .any ops listed) (hi : listed.getD i false = false) :
    (descs ops i).getD j false = false := by
  cases h : (descs ops i).getD j false with
  | false => rfl
  | true =>
    obtain ⟨_, o, ho, hall⟩ := mem_ready.1 hj
    have := descsFrom_spec (ops := ops) (i := i) ops.toList [] (by simp) (by simp) j o h ho listed hc hall
    rw [hi] at this
    cases this

theorem descs_listed {ops : Array Oper} {i j : Nat} {o : Oper} {listed : Array Bool} (hc : Closed ops listed) (ho : ops[j]? = some o) (hj : listed.getD j false = true)
    (h : (descs ops i).getD j false = true) : listed.getD i false = true :=
  descsFrom_spec (ops := ops) (i := i) ops.toList [] (by simp) (by simp) j o h ho listed hc (hc j o ho hj)

theorem Closed.start (ops : Array Oper) (n : Nat) : Closed ops (Array.replicate n false) := by
  intro j o _ h
  exfalso
  by_cases hn : j < n <;> simp [hn] at h

theorem getD_set_self {listed : Array Bool} {i : Nat} (h : i < listed.size) : (listed.setIfInBounds i true).getD i false = true := by simp [h]
theorem getD_set_ne' {listed : Array Bool} {i j : Nat} (h : i ≠ j) : (listed.setIfInBounds i true).getD j false = listed.getD j false := by
  simp [Array.getElem?_setIfInBounds_ne h]

theorem Closed.set {ops : Array Oper} {listed : Array Bool} (hc : Closed ops listed) {j : Nat} (hj : j ∈ Region.ready .any ops listed) : Closed ops (listed.setIfInBounds j true) := by
  intro k o ho hk e he hb
  by_cases hkj : j = k
  · subst hkj
    obtain ⟨_, o', ho', hall⟩ := mem_ready.1 hj
    rw [ho] at ho'; cases ho'
    exact getD_set_true (hall e he hb)
  · rw [getD_set_ne' hkj] at hk
    exact getD_set_true (hc k o ho hk e he hb)

/-- Each temporary has one writer; who reads it stands behind its writer, or ahead of it; edges lead back. -/
def ssa (ops : Array Oper) : Bool :=
  Region.noSelect ops &&
  (List.range ops.size).all fun i =>
    match ops[i]? with
    | none => true
    | some oi =>
      (oi.after.all fun e => !Region.binds .any e || decide (e.on < i)) &&
      match oi.dst with
      | none => true
      | some d =>
        let ds := descs ops i
        !(oi.looksAt ops).contains d && (List.range ops.size).all fun j => j == i || match ops[j]? with
          | none => true
          | some oj => oj.dst != some d && (!(oj.looksAt ops).contains d || ds.getD j false || (descs ops j).getD i false)

/-- Nobody who may come ahead of it reads what it writes: it may be taken ahead. -/
def free (ops : Array Oper) (i : Nat) : Bool :=
  match ops[i]? with
  | none => false
  | some oi => match oi.dst with
    | none => true
    | some d =>
      let ds := descs ops i
      (List.range ops.size).all fun j => j == i || match ops[j]? with
        | none => true
        | some oj => !(oj.looksAt ops).contains d || ds.getD j false

theorem ssa_spec {ops : Array Oper} (h : ssa ops = true) {i : Nat} {oi : Oper} (hi : ops[i]? = some oi) :
    (∀ e ∈ oi.after, Region.binds .any e = true → e.on < i) ∧
    ∀ d, oi.dst = some d → d ∉ oi.looksAt ops ∧ ∀ (j : Nat) (oj : Oper), ops[j]? = some oj → j ≠ i → oj.dst ≠ some d ∧ (d ∈ oj.looksAt ops → (descs ops i).getD j false = true ∨ (descs ops j).getD i false = true) := by
  simp only [ssa, Bool.and_eq_true, List.all_eq_true, List.mem_range] at h
  have hlt : i < ops.size := (Array.getElem?_eq_some_iff.1 hi).1
  have h1 := h.2 i hlt
  simp only [hi, Bool.and_eq_true] at h1
  refine ⟨fun e he hb => ?_, fun d hd => ?_⟩
  · have h2 := Array.all_eq_true_iff_forall_mem.1 h1.1 e he
    simpa [hb] using h2
  · have h2 := h1.2
    simp only [hd, Bool.and_eq_true, List.all_eq_true, List.mem_range] at h2
    refine ⟨by simpa using h2.1, fun j oj hj hne => ?_⟩
    have h3 := h2.2 j (Array.getElem?_eq_some_iff.1 hj).1
    simp only [hj, Bool.or_eq_true, beq_iff_eq, hne, false_or, Bool.and_eq_true, bne_iff_ne, ne_eq, Bool.not_eq_true', List.contains_eq_mem] at h3
    refine ⟨h3.1, fun hm => ?_⟩
    rcases h3.2 with (h4 | h4) | h4
    · simp [hm] at h4
    · exact .inl h4
    · exact .inr h4

theorem free_spec {ops : Array Oper} {i : Nat} {oi : Oper} (h : free ops i = true) (hi : ops[i]? = some oi) {d : Tmp} (hd : oi.dst = some d) {j : Nat} {oj : Oper} (hj : ops[j]? = some oj) (hne : j ≠ i)
    (hm : d ∈ oj.looksAt ops) : (descs ops i).getD j false = true := by
  simp only [free, hi, hd, List.all_eq_true, List.mem_range] at h
  have h3 := h j (Array.getElem?_eq_some_iff.1 hj).1
  simp only [hj, Bool.or_eq_true, beq_iff_eq, hne, false_or, Bool.not_eq_true', List.contains_eq_mem] at h3
  rcases h3 with h4 | h4
  · simp [hm] at h4
  · exact h4

section
variable {P : Program} {ops : Array Oper} {Q : Exit → Act → World → Prop}

/-- In this state operation number 'i' yields 'v' and leaves the world alone. -/
def YA (P : Program) (ops : Array Oper) (i : Nat) (v : Value) (a : Act) (w : World) : Prop :=
  ∃ o, ops[i]? = some o ∧ ((Region.wanted o (yielded ops a.tmps) = true ∧ (execOp a.eval o).run P w = .ok (.value v) w) ∨ (Region.wanted o (yielded ops a.tmps) = false ∧ v = undef))

/-- The walk in an order of our choice. 'pend': what was taken ahead, with its value. -/
def wpG (P : Program) (ops : Array Oper) (Q : Exit → Act → World → Prop) : Nat → Array Bool → List (Nat × Value) → Act → World → Prop
  | 0, _, _, _, _ => False
  | n + 1, listed, pend, a, w =>
    (Region.ready .any ops listed = [] ∧ Q .normal a w) ∨
    (∃ i o v, i ∈ Region.ready .any ops listed ∧ ops[i]? = some o ∧ free ops i = true ∧ YA P ops i v a w ∧ wpG P ops Q n (listed.setIfInBounds i true) ((i, v) :: pend) (a.put o.dst v) w) ∨
    (Region.ready .any ops listed ≠ [] ∧ ∀ j ∈ Region.ready .any ops listed, wpOp P ops Q j (fun a' w' =>
      (∀ p ∈ pend, (descs ops p.1).getD j false = false → YA P ops p.1 p.2 a' w') ∧ wpG P ops Q n (listed.setIfInBounds j true) (pend.filter fun p => !(descs ops p.1).getD j false) a' w') a w)

/-- How the true run stands to the walk: what the walk took ahead and the run has not come to yet, is pending. -/
structure Rel (P : Program) (ops : Array Oper) (lR lG : Array Bool) (pend : List (Nat × Value)) (aR aG : Act) (w : World) : Prop where
  sR : lR.size = ops.size
  sG : lG.size = ops.size
  cR : Closed ops lR
  cG : Closed ops lG
  sub : ∀ j, lR.getD j false = true → lG.getD j false = true
  defers : aR.defers = aG.defers
  size : aR.tmps.size = aG.tmps.size
  same : ∀ d, (∀ t o, lG.getD t false = true → lR.getD t false = false → ops[t]? = some o → o.dst ≠ some d) → aR.tmps[d]? = aG.tmps[d]?
  held : ∀ t o, lG.getD t false = true → lR.getD t false = false → ops[t]? = some o →
    free ops t = true ∧ ∃ v, (t, v) ∈ pend ∧ YA P ops t v aG w ∧ ∀ d, o.dst = some d → d < aG.tmps.size → aG.tmps[d]? = some v

theorem eval_same {lR lG : Array Bool} {pend : List (Nat × Value)} {aR aG : Act} {w : World} (h : Rel P ops lR lG pend aR aG w) (hs : ssa ops = true)
    {j : Nat} {oj : Oper} (hj : j ∈ Region.ready .any ops lR) (hoj : ops[j]? = some oj) (d : Tmp) (hd : d ∈ oj.looksAt ops) : aR.tmps[d]? = aG.tmps[d]? := by
  refine h.same d fun t o hG hR ho hdst => ?_
  have h0 := (ssa_spec hs ho).2 d hdst
  by_cases htj : j = t
  · subst htj
    rw [ho] at hoj; cases hoj
    exact h0.1 hd
  · have h1 := free_spec (h.held t o hG hR ho).1 ho hdst hoj htj hd
    rw [descs_ready h.cR hj hR] at h1
    cases h1

theorem noSel (hs : ssa ops = true) (j : Nat) (o : Oper) (ho : ops[j]? = some o) (cs : Array SelectCase) (b : Bool) : o.op ≠ .select cs b := by
  simp only [ssa, Bool.and_eq_true] at hs
  exact Region.noSelect_spec hs.1 j o cs b ho

/-- Two states that agree on what an operation looks at. -/
theorem exec_same {o : Oper} {a b : Act} (hsel : ∀ cs bb, o.op ≠ .select cs bb) (h : ∀ d ∈ o.looksAt ops, a.tmps[d]? = b.tmps[d]?) :
    execOp a.eval o = execOp b.eval o :=
  execOp_congr o hsel fun x hx => by
    cases x with
    | tmp t =>
      have ht : t ∈ o.looksAt ops := List.mem_append_left _ (List.mem_filterMap.2 ⟨.tmp t, by simpa using hx, rfl⟩)
      simp only [Act.eval, Array.getD_eq_getD_getElem?, h t ht]
    | _ => rfl

theorem wanted_same {o : Oper} {a b : Act} (h : ∀ d ∈ o.looksAt ops, a.tmps[d]? = b.tmps[d]?) :
    Region.wanted o (yielded ops a.tmps) = Region.wanted o (yielded ops b.tmps) := by
  unfold Region.wanted
  cases hg : o.guard with
  | none => rfl
  | some gw =>
    obtain ⟨g, want⟩ := gw
    have : yielded ops a.tmps g = yielded ops b.tmps g := by
      unfold yielded
      cases ht : (ops[g]?).bind (·.dst) with
      | none => rfl
      | some t =>
        have := h t (by simp [Oper.looksAt, hg, ht])
        simp only [Option.bind_some, this]
    simp only [this]

theorem YA.of_same {i : Nat} {v : Value} {a b : Act} {w : World} (hs : ssa ops = true) (h : YA P ops i v a w) (hsame : ∀ o, ops[i]? = some o → ∀ d ∈ o.looksAt ops, a.tmps[d]? = b.tmps[d]?) : YA P ops i v b w := by
  obtain ⟨o, ho, h⟩ := h
  refine ⟨o, ho, ?_⟩
  rw [← wanted_same (hsame o ho), ← exec_same (noSel hs i o ho) (hsame o ho)]
  exact h

theorem put_get_ne {a : Act} {dst : Option Tmp} {v : Value} {d : Tmp} (h : dst ≠ some d) : (a.put dst v).tmps[d]? = a.tmps[d]? := by
  cases dst with
  | none => rfl
  | some e =>
    have : e ≠ d := fun he => h (he ▸ rfl)
    simp [Act.put, Array.getElem?_setIfInBounds_ne this]
theorem put_size {a : Act} {dst : Option Tmp} {v : Value} : (a.put dst v).tmps.size = a.tmps.size := by
  cases dst <;> simp [Act.put]
theorem put_get_self {a : Act} {d : Tmp} {v : Value} (h : d < a.tmps.size) : (a.put (some d) v).tmps[d]? = some v := by
  simp [Act.put, h]
theorem put_defers' {a : Act} {dst : Option Tmp} {v : Value} : (a.put dst v).defers = a.defers := by
  cases dst <;> rfl

/-- What the walk does next leaves what is pending pending. -/
theorem YA.put_later {i j : Nat} {oj : Oper} {v u : Value} {a : Act} {w : World} {lG : Array Bool} (hs : ssa ops = true) (hcG : Closed ops lG) (hj : ops[j]? = some oj)
    (hfree : free ops j = true ∨ (descs ops i).getD j false = false) (hlj : lG.getD j false = false) (hi : lG.getD i false = true) (h : YA P ops i v a w) : YA P ops i v (a.put oj.dst u) w := by
  refine h.of_same hs fun o ho d hd => (put_get_ne fun hdst => ?_).symm
  have h1 := (ssa_spec hs hj).2 d hdst
  by_cases hij : i = j
  · subst hij; rw [hi] at hlj; cases hlj
  · have h2 : (descs ops j).getD i false = true := by
      rcases hfree with hf | hf
      · exact free_spec hf hj hdst ho hij hd
      · rcases (h1.2 i o ho hij).2 hd with h3 | h3
        · exact h3
        · rw [hf] at h3; cases h3
    have := descs_listed hcG ho hi h2
    rw [hlj] at this
    cases this

/-- The same operation from a state that agrees on what it looks at: it does the same. -/
theorem wpOp_move {j : Nat} {oj : Oper} {aR aG : Act} {w : World} (hoj : ops[j]? = some oj) (hsel : ∀ cs bb, oj.op ≠ .select cs bb)
    (hsame : ∀ d ∈ oj.looksAt ops, aR.tmps[d]? = aG.tmps[d]?) (hdef : aR.defers = aG.defers) (hQ : ∀ c (a a' : Act) w, a.defers = a'.defers → Q (.panic c) a w → Q (.panic c) a' w) {K : Act → World → Prop}
    (h : wpOp P ops Q j K aG w) :
    wpOp P ops Q j (fun a' w' => ∃ v ds, a' = ({ aR with defers := ds ++ aR.defers } : Act).put oj.dst v ∧ K (({ aG with defers := ds ++ aG.defers } : Act).put oj.dst v) w') aR w := by
  unfold wpOp at *
  simp only [hoj] at *
  rw [wanted_same hsame]
  split
  · rename_i hw
    simp only [hw, if_true] at h
    rcases h with h | ⟨hasks, hlets⟩
    case inr => exact .inr ⟨by unfold Oper.asks at *; rw [exec_same hsel hsame]; exact hasks, hlets⟩
    refine .inl ?_
    unfold Oper.wp at *
    rw [exec_same hsel hsame]
    generalize (execOp aG.eval oj).run P w = r at *
    cases r with
    | ok n w' =>
      cases n <;> simp only [Oper.upon] at h ⊢
      case value u => exact ⟨u, [], rfl, h⟩
      case skip => exact ⟨undef, [], rfl, h⟩
      case defer d => exact ⟨undef, [d], rfl, h⟩
      case enter f args =>
        refine Calls.mono h fun e w'' he => ?_
        cases e with
        | returned u => exact ⟨u, [], rfl, he⟩
        | panicked c => exact hQ _ _ _ _ hdef.symm he
        | outgrown => exact he
      case row row args => exact Rows.mono h fun u w'' he => ⟨u, [], rfl, he⟩
    | halt x w' =>
      cases x <;> simp only [Oper.upon] at h ⊢
      case panic u => exact hQ _ _ _ _ hdef.symm h
  · rename_i hw
    simp only [hw] at h
    exact ⟨undef, [], rfl, h⟩

theorem ready_lt {j : Nat} {listed : Array Bool} (hj : j ∈ Region.ready .any ops listed) : j < ops.size ∧ listed.getD j false = false := by
  obtain ⟨h0, o, ho, _⟩ := mem_ready.1 hj
  refine ⟨(Array.getElem?_eq_some_iff.1 ho).1, ?_⟩
  by_cases hj' : j < listed.size
  · simpa [hj'] using h0
  · simp [hj'] at h0

theorem count_set {l : Array Bool} {j : Nat} (h : l.getD j true = false) {m : Nat} (hm : l.count false ≤ m + 1) : (l.setIfInBounds j true).count false ≤ m := by
  have hj : j < l.size := by
    rcases Nat.lt_or_ge j l.size with h' | h'
    · exact h'
    · simp [Nat.not_lt.2 h'] at h
  have hv : l[j] = false := by simpa [hj] using h
  rw [Array.setIfInBounds, dif_pos hj, Array.count_set]
  have hpos : 0 < l.count false := Array.count_pos_iff.2 (by rw [← hv]; exact Array.getElem_mem hj)
  simp [hv]
  omega

/-- The run comes to number 'j': what the walk has ahead of it, and 'j' with it, or not. -/
theorem sim (hs : ssa ops = true) (hQ : ∀ c (a a' : Act) w, a.defers = a'.defers → Q (.panic c) a w → Q (.panic c) a' w) :
    ∀ (m : Nat) (lR lG : Array Bool) (pend : List (Nat × Value)) (aR aG : Act) (w : World) (n : Nat), lR.count false ≤ m →
      Rel P ops lR lG pend aR aG w → wpG P ops Q n lG pend aG w → wpAny P .any ops Q m lR aR w := by
  intro m
  induction m with
  | zero =>
    intro lR lG pend aR aG w n hm hrel hG
    have hall : ∀ j, j < ops.size → lR.getD j false = true := fun j hj => by
      have h0 : false ∉ lR := Array.count_eq_zero.1 (Nat.le_zero.1 hm)
      have hj' : j < lR.size := by rw [hrel.sR]; exact hj
      cases hv : lR[j] with
      | true => simp [hj', hv]
      | false => exact absurd (hv ▸ Array.getElem_mem hj') h0
    have hready : ∀ l : Array Bool, (∀ j, j < ops.size → l.getD j false = true) → Region.ready .any ops l = [] := fun l hl => by
      refine List.eq_nil_iff_forall_not_mem.2 fun j hj => ?_
      have := ready_lt hj
      rw [hl j this.1] at this
      cases this.2
    have hG' := hready lG fun j hj => hrel.sub j (hall j hj)
    cases n with
    | zero => exact hG.elim
    | succ n =>
      refine ⟨hready lR hall, ?_⟩
      have heq : aR = aG := by
        have h1 : aR.tmps = aG.tmps := Array.ext_getElem? fun d => hrel.same d fun t o hGt hRt ho => by
          rw [hall t (Array.getElem?_eq_some_iff.1 ho).1] at hRt
          cases hRt
        have h2 := hrel.defers
        cases aR; cases aG
        simp_all
      rcases hG with ⟨_, hq⟩ | ⟨i, o, v, hi, _⟩ | ⟨hne, _⟩
      · rw [heq]; exact hq
      · rw [hG'] at hi; cases hi
      · exact absurd hG' hne
  | succ m ih =>
    intro lR lG pend aR aG w n hm hrel hG
    refine ⟨fun hR => ?_, fun j hj => ?_⟩
    · -- nobody may come up: nothing is pending
      have hnone : ∀ t o, lG.getD t false = true → lR.getD t false = false → ops[t]? = some o → False := by
        intro t
        induction t using Nat.strongRecOn with
        | _ t iht =>
          intro o hGt hRt ho
          have hmem : t ∈ Region.ready .any ops lR := by
            refine mem_ready.2 ⟨?_, o, ho, fun e he hb => ?_⟩
            · have hlt : t < lR.size := by rw [hrel.sR]; exact (Array.getElem?_eq_some_iff.1 ho).1
              simpa [hlt] using hRt
            · have hlt := (ssa_spec hs ho).1 e he hb
              have hGe := hrel.cG t o ho hGt e he hb
              cases hRe : lR.getD e.on false with
              | true => rfl
              | false =>
                have hsz : e.on < ops.size := Nat.lt_trans hlt (Array.getElem?_eq_some_iff.1 ho).1
                exact (iht e.on hlt _ hGe hRe (Array.getElem?_eq_getElem hsz)).elim
          rw [hR] at hmem
          cases hmem
      have heq : aR = aG := by
        have h1 : aR.tmps = aG.tmps := Array.ext_getElem? fun d => hrel.same d fun t o hGt hRt ho => (hnone t o hGt hRt ho).elim
        have h2 := hrel.defers
        cases aR; cases aG
        simp_all
      have hl : lR = lG := by
        refine Array.ext (by rw [hrel.sR, hrel.sG]) fun t h1 h2 => ?_
        have ho : ∃ o, ops[t]? = some o := ⟨_, Array.getElem?_eq_getElem (by rw [← hrel.sR]; exact h1)⟩
        obtain ⟨o, ho⟩ := ho
        cases hv : lR[t] with
        | true =>
          have := hrel.sub t (by simp [h1, hv])
          simpa [h2] using this.symm
        | false =>
          cases hv' : lG[t] with
          | false => rfl
          | true => exact (hnone t o (by simp [h2, hv']) (by simp [h1, hv]) ho).elim
      cases n with
      | zero => exact hG.elim
      | succ n =>
        rcases hG with ⟨_, hq⟩ | ⟨i, o, v, hi, _⟩ | ⟨hne, _⟩
        · rw [heq]; exact hq
        · rw [← hl, hR] at hi; cases hi
        · exact absurd (hl ▸ hR) hne
    · -- number 'j' comes up
      obtain ⟨hjlt, hjR⟩ := ready_lt hj
      obtain ⟨hj0, oj, hoj, hall⟩ := mem_ready.1 hj
      have hsel := noSel hs j oj hoj
      have hcount := count_set hj0 hm
      have hjs : j < lR.size := by rw [hrel.sR]; exact hjlt
      -- the walk may go on ahead first
      clear hj0
      induction n generalizing lG pend aG with
      | zero => exact hG.elim
      | succ n ihn =>
        have hlook := fun d hd => eval_same hrel hs hj hoj d hd
        by_cases hjG : lG.getD j false = true
        · -- it is pending: it yields what it yielded
          obtain ⟨_, v, hmem, ⟨o', ho', hya⟩, hval⟩ := hrel.held j oj hjG hjR hoj
          rw [hoj] at ho'; cases ho'
          have hnew : Rel P ops (lR.setIfInBounds j true) lG pend (aR.put oj.dst v) aG w := {
            sR := by simpa using hrel.sR
            sG := hrel.sG
            cR := hrel.cR.set hj
            cG := hrel.cG
            sub := fun k hk => by
              by_cases hkj : j = k
              · subst hkj; exact hjG
              · rw [getD_set_ne' hkj] at hk; exact hrel.sub k hk
            defers := by rw [put_defers']; exact hrel.defers
            size := by rw [put_size]; exact hrel.size
            same := fun d hd => by
              by_cases hdj : oj.dst = some d
              · rw [hdj]
                by_cases hlt : d < aG.tmps.size
                · rw [put_get_self (by rw [hrel.size]; exact hlt), hval d hdj hlt]
                · have e1 : (aR.put (some d) v).tmps[d]? = none := Array.getElem?_eq_none (by rw [put_size, hrel.size]; exact Nat.not_lt.1 hlt)
                  have e2 : aG.tmps[d]? = none := Array.getElem?_eq_none (Nat.not_lt.1 hlt)
                  rw [e1, e2]
              · rw [put_get_ne hdj]
                refine hrel.same d fun t o hGt hRt ho => ?_
                by_cases htj : j = t
                · subst htj; rw [hoj] at ho; cases ho; exact hdj
                · exact hd t o hGt (by rw [getD_set_ne' htj]; exact hRt) ho
            held := fun t o hGt hRt ho => by
              by_cases htj : j = t
              · subst htj; rw [getD_set_self hjs] at hRt; cases hRt
              · rw [getD_set_ne' htj] at hRt; exact hrel.held t o hGt hRt ho }
          have hnext := ih (lR.setIfInBounds j true) lG pend (aR.put oj.dst v) aG w (n + 1) hcount hnew hG
          unfold wpOp
          simp only [hoj]
          rw [wanted_same hlook]
          rcases hya with ⟨hw, hrun⟩ | ⟨hw, rfl⟩
          · simp only [hw, if_true]
            refine .inl ?_
            unfold Oper.wp
            rw [exec_same hsel hlook, hrun]
            exact hnext
          · simp only [hw]
            exact hnext
        · have hjG' : lG.getD j false = false := by simpa using hjG
          have hjrG : j ∈ Region.ready .any ops lG := by
            refine mem_ready.2 ⟨?_, oj, hoj, fun e he hb => hrel.sub _ (hall e he hb)⟩
            have : j < lG.size := by rw [hrel.sG]; exact hjlt
            simpa [this] using hjG'
          rcases hG with ⟨hnil, _⟩ | ⟨i, oi, v, hi, hoi, hfi, hyi, hG⟩ | ⟨_, hev⟩
          · rw [hnil] at hjrG; cases hjrG
          · -- the walk takes another one first
            obtain ⟨hilt, hiG⟩ := ready_lt hi
            have his : i < lG.size := by rw [hrel.sG]; exact hilt
            have hiR : lR.getD i false = false := by
              cases h : lR.getD i false with
              | false => rfl
              | true => rw [hrel.sub i h] at hiG; cases hiG
            refine ihn (lG.setIfInBounds i true) ((i, v) :: pend) (aG.put oi.dst v) ?_ hG
            · exact {
                sR := hrel.sR
                sG := by simpa using hrel.sG
                cR := hrel.cR
                cG := hrel.cG.set hi
                sub := fun k hk => getD_set_true (hrel.sub k hk)
                defers := by rw [put_defers']; exact hrel.defers
                size := by rw [put_size]; exact hrel.size
                same := fun d hd => by
                  have hne : oi.dst ≠ some d := hd i oi (getD_set_self his) hiR hoi
                  rw [put_get_ne hne]
                  exact hrel.same d fun t o hGt hRt ho => hd t o (getD_set_true hGt) hRt ho
                held := fun t o hGt hRt ho => by
                  by_cases hti : i = t
                  · subst hti
                    rw [hoi] at ho; cases ho
                    refine ⟨hfi, v, by simp, ?_, fun d hd hlt => ?_⟩
                    · refine hyi.of_same hs fun o' ho' d hd => (put_get_ne fun hdst => ?_).symm
                      rw [hoi] at ho'; cases ho'
                      exact ((ssa_spec hs hoi).2 d hdst).1 hd
                    · rw [hd]; rw [put_size] at hlt; exact put_get_self hlt
                  · rw [getD_set_ne' hti] at hGt
                    obtain ⟨hft, u, hu, hyu, hv⟩ := hrel.held t o hGt hRt ho
                    refine ⟨hft, u, by simp [hu], hyu.put_later hs hrel.cG hoi (.inl hfi) hiG hGt, fun d hd hlt => ?_⟩
                    rw [put_size] at hlt
                    have hne : oi.dst ≠ some d := fun he => ((ssa_spec hs hoi).2 d he).2 t o ho (Ne.symm hti) |>.1 hd
                    rw [put_get_ne hne]
                    exact hv d hd hlt }
          · -- the walk carries it out, too
            refine wpOp_mono ?_ (wpOp_move hoj hsel hlook hrel.defers hQ (hev j hjrG))
            rintro a' w' ⟨v, ds, rfl, hpend, hG'⟩
            have hjsG : j < lG.size := by rw [hrel.sG]; exact hjlt
            refine ih (lR.setIfInBounds j true) (lG.setIfInBounds j true) _ _ _ w' n hcount ?_ hG'
            exact {
              sR := by simpa using hrel.sR
              sG := by simpa using hrel.sG
              cR := hrel.cR.set hj
              cG := hrel.cG.set hjrG
              sub := fun k hk => by
                by_cases hkj : j = k
                · subst hkj; exact getD_set_self hjsG
                · rw [getD_set_ne' hkj] at hk; exact getD_set_true (hrel.sub k hk)
              defers := by simp only [put_defers', hrel.defers]
              size := by simp only [put_size, hrel.size]
              same := fun d hd => by
                by_cases hdj : oj.dst = some d
                · rw [hdj]
                  by_cases hlt : d < aG.tmps.size
                  · rw [put_get_self (by simpa [hrel.size] using hlt), put_get_self (by simpa using hlt)]
                  · have e1 : (({ aR with defers := ds ++ aR.defers } : Act).put (some d) v).tmps[d]? = none := Array.getElem?_eq_none (by simp only [put_size, hrel.size]; exact Nat.not_lt.1 hlt)
                    have e2 : (({ aG with defers := ds ++ aG.defers } : Act).put (some d) v).tmps[d]? = none := Array.getElem?_eq_none (by simp only [put_size]; exact Nat.not_lt.1 hlt)
                    rw [e1, e2]
                · rw [put_get_ne hdj, put_get_ne hdj]
                  refine hrel.same d fun t o hGt hRt ho => ?_
                  by_cases htj : j = t
                  · subst htj; rw [hoj] at ho; cases ho; exact hdj
                  · exact hd t o (getD_set_true hGt) (by rw [getD_set_ne' htj]; exact hRt) ho
              held := fun t o hGt hRt ho => by
                by_cases htj : j = t
                · subst htj; rw [getD_set_self hjs] at hRt; cases hRt
                · rw [getD_set_ne' htj] at hRt hGt
                  obtain ⟨hft, u, hu, _, hv⟩ := hrel.held t o hGt hRt ho
                  have hdt := descs_ready hrel.cR hj hRt
                  refine ⟨hft, u, List.mem_filter.2 ⟨hu, by show (!(descs ops t).getD j false) = true; rw [hdt]; rfl⟩, hpend (t, u) hu hdt, fun d hd hlt => ?_⟩
                  have hne : oj.dst ≠ some d := fun he => ((ssa_spec hs hoj).2 d he).2 t o ho (Ne.symm htj) |>.1 hd
                  rw [put_get_ne hne]
                  rw [put_size] at hlt
                  exact hv d hd hlt }

/-- **A region that draws its order, by one walk in an order of our choice.** -/
theorem wp_region_G {id n : Nat} {a : Act} {w : World} (hm : P.follows .mixedOrders = true) (hs : ssa ops = true) (hQ : ∀ c (a a' : Act) w, a.defers = a'.defers → Q (.panic c) a w → Q (.panic c) a' w)
    (h : wpG P ops Q n (Array.replicate ops.size false) [] a { w with drawn := w.drawn + 1 }) : (Code.region id ops true).wp P Q a w := by
  refine wp_region_any hm (sim hs hQ _ _ _ [] a a _ n ?_ ?_ h)
  · simp
  · exact {
      sR := by simp
      sG := by simp
      cR := Closed.start _ _
      cG := Closed.start _ _
      sub := fun _ h => h
      defers := rfl
      size := rfl
      same := fun _ _ => rfl
      held := fun t o h1 h2 _ => by rw [h1] at h2; cases h2 }
end
end Go.Vcg
