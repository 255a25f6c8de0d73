/- Loops, code, functions. -/
import Derived.Test.YtfghidehlnfdiaaXExec
section
set_option linter.unusedVariables false
set_option linter.unusedSimpArgs false
namespace Go.Vcg
variable {P : Program} {R : Goal}

/-- A loop whose measure stands beside the state. -/
theorem wp_loop_ghost {c : Code} {Q : Exit → Act → World → Prop} {a : Act} {w : World} (I : Nat → Act → World → Prop) {n : Nat} (h₀ : I n a w)
    (round : ∀ n a w, I n a w → c.wp P (Exit.then (fun a' w' => ∃ m, m < n ∧ I m a' w') Q) a w) : (Code.loop c).wp P Q a w := by
  intro b k cs
  have key : ∀ n a w, I n a w → ∃ e a' w', Q e a' w' ∧ Arrives P (lone (b.at a (.code c :: .inLoop c :: k)) cs w) b k cs e a' w' := by
    intro n
    induction n using Nat.strongRecOn with
    | _ n ih =>
      intro a w hI
      obtain ⟨e, a₁, w₁, hq, harr⟩ := round n a w hI b (.inLoop c :: k) cs
      cases e with
      | normal =>
        obtain ⟨m, hlt, hI₁⟩ := hq
        obtain ⟨e₂, a₂, w₂, hq₂, harr₂⟩ := ih m hlt a₁ w₁ hI₁
        exact ⟨e₂, a₂, w₂, hq₂, .of_steps (Steps.trans harr (.one step_inLoop)) harr₂⟩
      | exit id => exact ⟨_, a₁, w₁, hq, .pass (x := .inLoop c) rfl (fun _ _ => .inl (by simp)) harr⟩
      | goto l => exact ⟨_, a₁, w₁, hq, .pass (x := .inLoop c) rfl (fun _ _ => .inl (by simp)) harr⟩
      | ret => exact ⟨_, a₁, w₁, hq, .pass (x := .inLoop c) rfl (fun _ _ => .inl (by simp)) harr⟩
      | panic ch => exact ⟨_, a₁, w₁, hq, .pass (x := .inLoop c) rfl (fun _ _ => .inl (by simp)) harr⟩
      | outgrown => exact ⟨_, a₁, w₁, hq, .pass (x := .inLoop c) rfl (fun _ _ => .inl (by simp)) harr⟩
  obtain ⟨e, a', w', hq, harr⟩ := key n a w h₀
  exact ⟨e, a', w', hq, .of_steps (.one step_loop) harr⟩

def InC : Cell → SV pC → Prop
  | .int k, sv => ∃ n : Int, sv = .int k n
  | .bool, sv => ∃ b : Bool, sv = .bool (.var b)
  | .str, sv => ∃ s : ByteArray, sv = .str s
  | .ptr, sv => ∃ o : Option Addr, sv = .ptr o
  | .slice, sv => ∃ (o : Option Addr) (l c : Nat), sv = .slice o l c
  | .map, sv => ∃ m : Option Nat, sv = .map m
  | .raw, sv => ∃ v : Value, sv = .raw v
def InCs : List Cell → List (SV pC) → Prop
  | [], svs => svs = []
  | c :: cs, svs => ∃ v vs, svs = v :: vs ∧ InC c v ∧ InCs cs vs
def In1 : Shape1 → SV pC → Prop
  | .cell c, sv => InC c sv
  | .agg cs, sv => ∃ vs, sv = .agg vs ∧ InCs cs vs
  | .big n, sv => ∃ l : Array Value, sv = .big n l
def InT : List Shape1 → List (SV pC) → Prop
  | [], svs => svs = []
  | s :: ss, svs => ∃ v vs, svs = v :: vs ∧ In1 s v ∧ InT ss vs

theorem allCP_at : ∀ (c : Cell) (f : SV pC → Prop) (sv : SV pC), allCP c f → InC c sv → f sv
  | .int _, f, _, h, ⟨n, e⟩ => e ▸ h n
  | .bool, f, _, h, ⟨n, e⟩ => e ▸ h n
  | .str, f, _, h, ⟨n, e⟩ => e ▸ h n
  | .ptr, f, _, h, ⟨n, e⟩ => e ▸ h n
  | .slice, f, _, h, ⟨o, l, c, e⟩ => e ▸ h o l c
  | .map, f, _, h, ⟨n, e⟩ => e ▸ h n
  | .raw, f, _, h, ⟨n, e⟩ => e ▸ h n
theorem allCsP_at : ∀ (cs : List Cell) (f : List (SV pC) → Prop) (svs : List (SV pC)), allCsP cs f → InCs cs svs → f svs
  | [], f, _, h, e => by cases e; exact h
  | c :: cs, f, _, h, ⟨v, vs, e, h1, h2⟩ => by
    subst e
    exact allCsP_at cs (fun vs => f (v :: vs)) vs (allCP_at c (fun v => allCsP cs fun vs => f (v :: vs)) v h h1) h2
theorem all1P_at : ∀ (s : Shape1) (f : SV pC → Prop) (sv : SV pC), all1P s f → In1 s sv → f sv
  | .cell c, f, sv, h, hi => allCP_at c f sv h hi
  | .agg cs, f, _, h, ⟨vs, e, hi⟩ => by subst e; exact allCsP_at cs (fun vs => f (.agg vs)) vs h hi
  | .big n, f, _, h, ⟨l, e⟩ => e ▸ h l
theorem allTP_at : ∀ (ss : List Shape1) (f : List (SV pC) → Prop) (svs : List (SV pC)), allTP ss f → InT ss svs → f svs
  | [], f, _, h, e => by cases e; exact h
  | s :: ss, f, _, h, ⟨v, vs, e, h1, h2⟩ => by
    subst e
    exact allTP_at ss (fun vs => f (v :: vs)) vs (all1P_at s (fun v => allTP ss fun vs => f (v :: vs)) v h h1) h2

/-- What stands in a slot, in the form that the loop carries. -/
theorem appC_norm : ∀ (c : Cell) (sv : SV pC), (∃ (T : Type) (I : InvC c T), (appC c I sv).isSome) → ∃ sv', InC c sv' ∧ toV sv' = toV sv ∧ ∀ (T : Type) (I : InvC c T), appC c I sv' = appC c I sv
  | c, sv, ⟨T, I, h⟩ => by
    cases c with
    | int k =>
      cases sv <;> simp only [appC] at h <;> first
        | (cases h; done)
        | (split at h
           · rename_i hk; subst hk; exact ⟨.int k _, ⟨_, rfl⟩, rfl, fun T I => rfl⟩
           · cases h)
    | bool =>
      cases sv <;> simp only [appC] at h <;> first
        | (cases h; done)
        | exact ⟨.bool (.var (den _)), ⟨_, rfl⟩, rfl, fun T I => rfl⟩
        | exact ⟨.bool (.var _), ⟨_, rfl⟩, rfl, fun T I => rfl⟩
    | str => cases sv <;> simp only [appC] at h <;> first
        | (cases h; done)
        | exact ⟨.str _, ⟨_, rfl⟩, rfl, fun T I => rfl⟩
    | ptr => cases sv <;> simp only [appC] at h <;> first
        | (cases h; done)
        | exact ⟨.ptr _, ⟨_, rfl⟩, rfl, fun T I => rfl⟩
        | exact ⟨.ptr (some _), ⟨_, rfl⟩, rfl, fun T I => rfl⟩
    | slice => cases sv <;> simp only [appC] at h <;> first
        | (cases h; done)
        | exact ⟨.slice _ _ _, ⟨_, _, _, rfl⟩, rfl, fun T I => rfl⟩
    | map => cases sv <;> simp only [appC] at h <;> first
        | (cases h; done)
        | exact ⟨.map _, ⟨_, rfl⟩, rfl, fun T I => rfl⟩
    | raw => exact ⟨.raw (toV sv), ⟨_, rfl⟩, rfl, fun T I => by cases sv <;> rfl⟩

theorem appCs_norm : ∀ (cs : List Cell) (svs : List (SV pC)), (∃ (T : Type) (I : InvCs cs T), (appCs cs I svs).isSome) → ∃ svs', InCs cs svs' ∧ toVs svs' = toVs svs ∧ ∀ (T : Type) (I : InvCs cs T), appCs cs I svs' = appCs cs I svs
  | [], [], _ => ⟨[], rfl, rfl, fun _ _ => rfl⟩
  | [], v :: vs, ⟨T, I, h⟩ => by cases h
  | c :: cs, [], ⟨T, I, h⟩ => by cases h
  | c :: cs, v :: vs, ⟨T, I, h⟩ => by
    simp only [appCs] at h
    cases hc : appC c I v with
    | none => rw [hc] at h; cases h
    | some I' =>
      rw [hc] at h
      obtain ⟨v', h1, h2, h3⟩ := appC_norm c v ⟨_, I, by rw [hc]; rfl⟩
      obtain ⟨vs', h4, h5, h6⟩ := appCs_norm cs vs ⟨T, I', h⟩
      refine ⟨v' :: vs', ⟨v', vs', rfl, h1, h4⟩, by simp only [toVs, h2, h5], fun T I => ?_⟩
      simp only [appCs]
      rw [show appC c I v' = appC c I v from h3 _ I]
      cases appC c I v with
      | none => rfl
      | some J => exact h6 T J
theorem app1_norm : ∀ (s : Shape1) (sv : SV pC), (∃ (T : Type) (I : Inv1 s T), (app1 s I sv).isSome) → ∃ sv', In1 s sv' ∧ toV sv' = toV sv ∧ ∀ (T : Type) (I : Inv1 s T), app1 s I sv' = app1 s I sv
  | .cell c, sv, h => appC_norm c sv h
  | .agg cs, sv, ⟨T, I, h⟩ => by
    cases sv <;> simp only [app1] at h <;> first
      | (cases h; done)
      | (obtain ⟨vs', h1, h2, h3⟩ := appCs_norm cs _ ⟨T, I, h⟩
         exact ⟨.agg vs', ⟨vs', rfl, h1⟩, by simp only [toV, h2], fun T I => h3 T I⟩)
  | .big n, sv, ⟨T, I, h⟩ => by
    cases sv <;> simp only [app1] at h <;> first
      | (cases h; done)
      | (split at h
         · rename_i hk; subst hk; exact ⟨.big n _, ⟨_, rfl⟩, rfl, fun T I => rfl⟩
         · cases h)
theorem appT_norm : ∀ (ss : List Shape1) (svs : List (SV pC)), (∃ (T : Type) (I : InvT ss T) (w : World), (appT ss I svs w).isSome) → ∃ svs', InT ss svs' ∧ toVs svs' = toVs svs ∧ ∀ (T : Type) (I : InvT ss T) (w : World), appT ss I svs' w = appT ss I svs w
  | [], [], _ => ⟨[], rfl, rfl, fun _ _ _ => rfl⟩
  | [], v :: vs, ⟨T, I, w, h⟩ => by cases h
  | s :: ss, [], ⟨T, I, w, h⟩ => by cases h
  | s :: ss, v :: vs, ⟨T, I, w, h⟩ => by
    simp only [appT] at h
    cases hc : app1 s I v with
    | none => rw [hc] at h; cases h
    | some I' =>
      rw [hc] at h
      obtain ⟨v', h1, h2, h3⟩ := app1_norm s v ⟨_, I, by rw [hc]; rfl⟩
      obtain ⟨vs', h4, h5, h6⟩ := appT_norm ss vs ⟨T, I', w, h⟩
      refine ⟨v' :: vs', ⟨v', vs', rfl, h1, h4⟩, by simp only [toVs, h2, h5], fun T I w => ?_⟩
      simp only [appT]
      rw [show app1 s I v' = app1 s I v from h3 _ I]
      cases app1 s I v with
      | none => rfl
      | some J => exact h6 T J w

theorem theP_isSome {o : Option Prop} (h : theP o) : o.isSome := by cases o <;> first | rfl | cases h

theorem getS_app {e1 e2 : Env pC} {t : Nat} : getS (e1 ++ e2) t = if (e1.any fun p => Nat.beq p.1 t) then getS e1 t else getS e2 t := by
  induction e1 with
  | nil => simp [getS]
  | cons p e1 ih =>
    obtain ⟨u, v⟩ := p
    simp only [List.cons_append, getS, List.any_cons]
    by_cases hb : Nat.beq u t = true
    · simp [hb]
    · have hb : Nat.beq u t = false := Bool.eq_false_iff.2 hb
      simp only [hb, cond_false, Bool.false_or]
      exact ih
theorem getS_zip : ∀ (ts : List Tmp) (vs vs' : List (SV pC)) (t : Nat), toVs vs = toVs vs' → toV (getS (ts.zip vs) t) = toV (getS (ts.zip vs') t)
  | [], _, _, _, _ => rfl
  | _ :: _, [], [], _, _ => rfl
  | _ :: _, [], _ :: _, _, h => by simp [toVs] at h
  | _ :: _, _ :: _, [], _, h => by simp [toVs] at h
  | u :: ts, v :: vs, v' :: vs', t, h => by
    simp only [toVs, List.cons.injEq] at h
    simp only [List.zip_cons_cons, getS]
    cases Nat.beq u t with
    | true => exact h.1
    | false => exact getS_zip ts vs vs' t h.2
theorem any_zip : ∀ (ts : List Tmp) (vs : List (SV pC)) (t : Nat), vs.length = ts.length → ((ts.zip vs).any fun p => Nat.beq p.1 t) = ts.any fun u => Nat.beq u t
  | [], _, _, _ => rfl
  | u :: ts, [], _, h => by cases h
  | u :: ts, v :: vs, t, h => by
    simp only [List.zip_cons_cons, List.any_cons]
    rw [any_zip ts vs t (by simpa using h)]

/-- A frame that differs from another in what a piece of code writes alone, and whose carried slots hold these. -/
theorem head_rep {env env' : Env pC} {a a' : Act} {live written : List Tmp} {svs : List (SV pC)} (hr : Rep env a) (hr' : Rep env' a')
    (hlen : svs.length = live.length) (hcar : toVs svs = toVs (live.map (getS env'))) (hkeep : ∀ t, t ∉ written → a'.tmps.getD t undef = a.tmps.getD t undef) :
    Rep (headEnv (pA P R) (fun t => a'.tmps.getD t undef) live svs written env) a' := by
  intro t
  unfold headEnv
  rw [List.append_assoc, getS_app, any_zip live svs t hlen]
  split
  · rename_i hmem
    rw [getS_zip live svs _ t hcar]
    obtain ⟨u, hu, hb⟩ := List.any_eq_true.1 hmem
    have key : ∀ (ts : List Tmp), (∃ u ∈ ts, Nat.beq u t = true) → toV (getS (ts.zip (ts.map (getS env'))) t) = toV (getS env' t) := by
      intro ts
      induction ts with
      | nil => rintro ⟨u, hu, _⟩; cases hu
      | cons x ts ih =>
        rintro ⟨u, hu, hb⟩
        simp only [List.map_cons, List.zip_cons_cons, getS]
        cases hx : Nat.beq x t with
        | true => rw [Nat.eq_of_beq_eq_true hx]; rfl
        | false =>
          refine ih ⟨u, ?_, hb⟩
          rcases List.mem_cons.1 hu with rfl | hu
          · rw [hx] at hb; cases hb
          · exact hu
    rw [key live ⟨u, hu, hb⟩]
    exact hr' t
  · rw [getS_app]
    split
    · rename_i hmem
      have key : ∀ (ws : List Tmp), (∃ u ∈ ws, Nat.beq u t = true) → toV (getS (ws.map fun u => (u, SV.raw (C := pC) ((pA P R).junk (fun t => a'.tmps.getD t undef) u))) t) = a'.tmps.getD t undef := by
        intro ws
        induction ws with
        | nil => rintro ⟨u, hu, _⟩; cases hu
        | cons x ws ih =>
          rintro ⟨u, hu, hb⟩
          simp only [List.map_cons, getS]
          cases hx : Nat.beq x t with
          | true => rw [Nat.eq_of_beq_eq_true hx]; rfl
          | false =>
            refine ih ⟨u, ?_, hb⟩
            rcases List.mem_cons.1 hu with rfl | hu
            · rw [hx] at hb; cases hb
            · exact hu
      rw [key written]
      obtain ⟨p, hp, hb⟩ := List.any_eq_true.1 hmem
      obtain ⟨u, hu, rfl⟩ := List.mem_map.1 hp
      exact ⟨u, hu, hb⟩
    · rename_i hno
      rw [hkeep t ?_]
      · exact hr t
      · intro hmem
        apply hno
        refine List.any_eq_true.2 ⟨(t, _), List.mem_map.2 ⟨t, hmem, rfl⟩, ?_⟩
        exact Nat.beq_refl t

/-- What is asked of a piece of code's post. -/
structure Post (n : Nat) (W : List Tmp) (K : Kont pC) (a : Act) (Q : Exit → Act → World → Prop) : Prop where
  nrm : ∀ env' a' w', Rep env' a' → a'.tmps.size = n → a'.defers = a.defers → Keep W a a' → K.nrm env' w' → Q .normal a' w'
  exit : ∀ i env' a' w', Rep env' a' → a'.tmps.size = n → a'.defers = a.defers → Keep W a a' → K.exit i env' w' → Q (.exit i) a' w'
  ret : ∀ env' a' w', Rep env' a' → a'.tmps.size = n → a'.defers = a.defers → K.ret env' w' → Q .ret a' w'

theorem exec_sound {ann : List (Nat × List (Tmp × Shape1))} (hm : P.follows .mixedOrders = true) {n : Nat} : ∀ (c : Code) (W : List Tmp) (env : Env pC) (a : Act) (w : World) (K : Kont pC) (Q : Exit → Act → World → Prop),
    Rep env a → a.tmps.size = n → slotsOk n c = true → (∀ t ∈ writesOf c, t ∈ W) → (∀ ch (a a' : Act) w, a.defers = a'.defers → Q (.panic ch) a w → Q (.panic ch) a' w) → (∀ ch (a' : Act) w', a'.defers = a.defers → R.fin (.panicked ch) w' → Q (.panic ch) a' w') →
    exec (pA P R) P ann c env w K → Post n W K a Q → c.wp P Q a w := by
  intro c
  induction c with
  | skip => intro W env a w K Q hrep hn hs hW hQ hR h hp; exact wp_skip (hp.nrm _ _ _ hrep hn rfl (Keep.refl _ _) h)
  | region id ops draw =>
    intro W env a w K Q hrep hn hs hW hQ hR h hp
    have hd : ∀ o ∈ ops, dstOk n o := by
      intro o ho d hdst
      have := Array.all_eq_true_iff_forall_mem.1 hs o ho
      simp only [hdst, decide_eq_true_eq] at this
      exact this
    have hW' : ∀ o ∈ ops, ∀ d, o.dst = some d → d ∈ W := by
      intro o ho d hdst
      refine hW d ?_
      simp only [writesOf, List.mem_filterMap, Array.mem_toList_iff]
      exact ⟨o, ho, hdst⟩
    unfold exec at h
    cases draw with
    | true =>
      simp only [if_true] at h
      split at h
      · rename_i hssa
        have h := h _ rfl
        refine wp_region_G hm hssa hQ (regionG_sound hssa hd hW' _ _ [] [] env a _ K.nrm (by simp) (Closed.start _ _) hrep hn (by simp) (by intro q hq; cases hq) h hR hp.nrm)
      · exact h.elim
    | false =>
      simp only [Bool.false_eq_true, if_false] at h
      exact wp_region_list (regionS_sound ops.toList env a w K.nrm hrep hn (fun o ho => hd o (Array.mem_toList_iff.1 ho)) (fun o ho => hW' o (Array.mem_toList_iff.1 ho)) h hR hp.nrm)
  | seq x y ihx ihy =>
    intro W env a w K Q hrep hn hs hW hQ hR h hp
    simp only [slotsOk, Bool.and_eq_true] at hs
    simp only [writesOf, List.mem_append] at hW
    unfold exec at h
    split at h
    · refine wp_seq (ihx W env a w _ _ hrep hn hs.1 (fun t ht => hW t (.inl ht)) (fun ch a a' w => hQ ch a a' w) (fun ch a' w' => hR ch a' w') h ?_)
      exact {
        nrm := fun env' a' w' h1 h2 h3 h4 h5 => ihy W env' a' w' K Q h1 h2 hs.2 (fun t ht => hW t (.inr ht)) hQ (fun ch a' w' hd => hR ch a' w' (hd.trans h3)) h5 {
          nrm := fun env'' a'' w'' g1 g2 g3 g4 g5 => hp.nrm _ _ _ g1 g2 (g3.trans h3) (h4.trans g4) g5
          exit := fun i env'' a'' w'' g1 g2 g3 g4 g5 => hp.exit _ _ _ _ g1 g2 (g3.trans h3) (h4.trans g4) g5
          ret := fun env'' a'' w'' g1 g2 g3 g5 => hp.ret _ _ _ g1 g2 (g3.trans h3) g5 }
        exit := fun i env' a' w' h1 h2 h3 h4 h5 => hp.exit i _ _ _ h1 h2 h3 h4 h5
        ret := fun env' a' w' h1 h2 h3 h5 => hp.ret _ _ _ h1 h2 h3 h5 }
    · rename_i id live hann
      obtain ⟨I, hpre, hrest⟩ := h
      have hlen : ∀ e : Env pC, ((live.map (·.1)).map (getS e)).length = (live.map (·.1)).length := fun e => by simp
      refine wp_seq (ihx (writesOf x) env a w _ _ hrep hn hs.1 (fun t ht => ht) (fun ch a a' w => hQ ch a a' w) (fun ch a' w' => hR ch a' w') hpre ?_)
      exact {
        nrm := fun env' a' w' h1 h2 h3 h4 h5 => by
          have h5 : theP (appT (live.map (·.2)) I ((live.map (·.1)).map (getS env')) w') := h5
          obtain ⟨svs, k1, k2, k3⟩ := appT_norm _ _ ⟨_, I, w', theP_isSome h5⟩
          have hl : svs.length = (live.map (·.1)).length := by
            have := congrArg List.length k2
            rw [toVs_length, toVs_length] at this
            rw [this]; exact hlen env'
          have hb := allTP_at _ _ _ hrest k1 (fun t => a'.tmps.getD t undef) w' (by rw [k3]; exact h5)
          have h4' : Keep W a a' := h4.mono fun t ht => hW t (.inl ht)
          exact ihy W _ a' w' K Q (head_rep hrep h1 hl k2 h4) h2 hs.2 (fun t ht => hW t (.inr ht)) hQ (fun ch a' w' hd => hR ch a' w' (hd.trans h3)) hb {
            nrm := fun env'' a'' w'' g1 g2 g3 g4 g5 => hp.nrm _ _ _ g1 g2 (g3.trans h3) (h4'.trans g4) g5
            exit := fun i env'' a'' w'' g1 g2 g3 g4 g5 => hp.exit _ _ _ _ g1 g2 (g3.trans h3) (h4'.trans g4) g5
            ret := fun env'' a'' w'' g1 g2 g3 g5 => hp.ret _ _ _ g1 g2 (g3.trans h3) g5 }
        exit := fun i env' a' w' h1 h2 h3 h4 h5 => hp.exit i _ _ _ h1 h2 h3 (h4.mono fun t ht => hW t (.inl ht)) h5
        ret := fun env' a' w' h1 h2 h3 h5 => hp.ret _ _ _ h1 h2 h3 h5 }
  | cond c x y ihx ihy =>
    intro W env a w K Q hrep hn hs hW hQ hR h hp
    simp only [slotsOk, Bool.and_eq_true] at hs
    simp only [writesOf, List.mem_append] at hW
    unfold exec at h
    have hev : a.eval c = toV (ev (pA P R) env c) := hrep.eval c
    split at h
    · rename_i t hc
      have hc' : a.eval c = .bool t := by rw [hev, hc]; rfl
      refine wp_cond hc' ?_
      cases t with
      | true => exact ihx W env a w K Q hrep hn hs.1 (fun t ht => hW t (.inl ht)) hQ hR h hp
      | false => exact ihy W env a w K Q hrep hn hs.2 (fun t ht => hW t (.inr ht)) hQ hR h hp
    · rename_i t hc
      obtain ⟨h1, h2⟩ := h
      have hc' : a.eval c = .bool (den t) := by rw [hev, hc]; rfl
      have henv : ∀ b : Bool, den t = b → Rep (setC env c b) a := by
        intro b hb
        unfold setC
        cases c with
        | tmp s =>
          refine hrep.refine ?_
          have : toV (getS env s) = toV (ev (pA P R) env (.tmp s)) := rfl
          rw [this, hc, ← hb]; rfl
        | _ => exact hrep
      refine wp_cond hc' ?_
      cases hd : den t with
      | true => exact ihx W _ a w K Q (henv true hd) hn hs.1 (fun t ht => hW t (.inl ht)) hQ hR (impP_spec _ _ _ h1 hd) hp
      | false => exact ihy W _ a w K Q (henv false hd) hn hs.2 (fun t ht => hW t (.inr ht)) hQ hR (impP_spec _ _ _ h2 hd) hp
    · exact h.elim
  | block id c ih =>
    intro W env a w K Q hrep hn hs hW hQ hR h hp
    unfold exec at h
    refine wp_block (ih W env a w _ _ hrep hn hs hW (fun ch a a' w => hQ ch a a' w) (fun ch a' w' => hR ch a' w') h ?_)
    exact {
      nrm := hp.nrm
      exit := fun i env' a' w' h1 h2 h3 h4 h5 => by
        have h5 : if i = id then K.nrm env' w' else K.exit i env' w' := h5
        simp only [Exit.inBlock]
        split
        · rename_i hi; rw [if_pos hi] at h5; exact hp.nrm _ _ _ h1 h2 h3 h4 h5
        · rename_i hi; rw [if_neg hi] at h5; exact hp.exit i _ _ _ h1 h2 h3 h4 h5
      ret := hp.ret }
  | loop c ih =>
    intro W env a w K Q hrep hn hs hW hQ hR h hp
    unfold exec at h
    split at h
    · exact h.elim
    · rename_i id live hann
      obtain ⟨I, μ, h0, hround⟩ := h
      have hlen : ∀ e : Env pC, ((live.map (·.1)).map (getS e)).length = (live.map (·.1)).length := fun e => by simp
      -- the state at a head
      let Inv : Nat → Act → World → Prop := fun m a' w' => ∃ svs jk, InT (live.map (·.2)) svs ∧ Rep (headEnv (pA P R) jk (live.map (·.1)) svs (writesOf c) env) a' ∧ a'.tmps.size = n ∧ a'.defers = a.defers ∧ Keep (writesOf c) a a' ∧
        theP (appT (live.map (·.2)) I svs w') ∧ theN (appT (live.map (·.2)) μ svs w') = m
      have enter : ∀ (env' : Env pC) (a' : Act) (w' : World), Rep env' a' → a'.tmps.size = n → a'.defers = a.defers → Keep (writesOf c) a a' →
          theP (appT (live.map (·.2)) I ((live.map (·.1)).map (getS env')) w') → Inv (theN (appT (live.map (·.2)) μ ((live.map (·.1)).map (getS env')) w')) a' w' := by
        intro env' a' w' hrep' hn' hdef hkeep hI
        obtain ⟨svs, h1, h2, h3⟩ := appT_norm _ _ ⟨_, I, w', theP_isSome hI⟩
        refine ⟨svs, fun t => a'.tmps.getD t undef, h1, ?_, hn', hdef, hkeep, by rw [h3]; exact hI, by rw [h3]⟩
        have hl : svs.length = (live.map (·.1)).length := by
          have := congrArg List.length h2
          rw [toVs_length, toVs_length] at this
          rw [this]; exact hlen env'
        exact head_rep hrep hrep' hl h2 hkeep
      refine wp_loop_ghost Inv (enter env a w hrep hn rfl (Keep.refl _ _) h0) ?_
      rintro m a' w' ⟨svs, jk, h1, h2, h3, h4, h5, h6, rfl⟩
      have hb := allTP_at _ _ _ hround h1 jk w' h6
      refine ih (writesOf c) _ a' w' _ _ h2 h3 hs (fun t ht => ht) (fun ch a a' w => hQ ch a a' w) (fun ch a' w' hd => hR ch a' w' (hd.trans h4)) hb ?_
      have hkW : Keep W a a' := h5.mono fun t ht => hW t ht
      exact {
        nrm := fun env'' a'' w'' g1 g2 g3 g4 g5 => by
          obtain ⟨g5, g6⟩ := g5
          exact ⟨_, g6, enter env'' a'' w'' g1 g2 (g3.trans h4) (h5.trans g4) g5⟩
        exit := fun i env'' a'' w'' g1 g2 g3 g4 g5 => hp.exit i _ _ _ g1 g2 (g3.trans h4) (hkW.trans (g4.mono fun t ht => hW t ht)) g5
        ret := fun env'' a'' w'' g1 g2 g3 g5 => hp.ret _ _ _ g1 g2 (g3.trans h4) g5 }
  | exit id => intro W env a w K Q hrep hn hs hW hQ hR h hp; exact wp_exit (hp.exit _ _ _ _ hrep hn rfl (Keep.refl _ _) h)
  | ret => intro W env a w K Q hrep hn hs hW hQ hR h hp; exact wp_ret (hp.ret _ _ _ hrep hn rfl h)
  | rangeFunc => intro W env a w K Q hrep hn hs hW hQ hR h hp; exact h.elim
  | scope => intro W env a w K Q hrep hn hs hW hQ hR h hp; exact h.elim
  | label => intro W env a w K Q hrep hn hs hW hQ hR h hp; exact h.elim
  | goto => intro W env a w K Q hrep hn hs hW hQ hR h hp; exact h.elim
  | refuse => intro W env a w K Q hrep hn hs hW hQ hR h hp; exact h.elim

theorem resultS_sound {r : ResultVar} {env : Env pC} {a : Act} {w : World} {k : SV pC → Prop} (hrep : Rep env a) (h : resultS (pA P R) P r env w k) :
    ∃ sv, ((match r with
      | .tmp t => pure (a.tmps.getD t undef)
      | .cell d t => do loadVar t (← asAddr (a.tmps.getD d undef))) : Sem Value).run P w = .ok (toV sv) w ∧ k sv := by
  cases r with
  | tmp t =>
    refine ⟨_, ?_, h⟩
    simp only [Sem.run_pure]
    rw [hrep t]
  | cell d t =>
    unfold resultS at h
    simp only at h
    split at h
    · rename_i dd hd
      obtain ⟨sv, h1, h2, _⟩ := loadS_sound h
      refine ⟨sv, ?_, h2⟩
      simp only [Sem.run_bind]
      rw [hrep d, hd]
      simp [toV, asAddr, h1]
    · exact h.elim

theorem resultsS_sound {env : Env pC} {a : Act} {w : World} (hrep : Rep env a) : ∀ (rs : List ResultVar) (k : List (SV pC) → Prop), resultsS (pA P R) P rs env w k →
    ∃ svs, (rs.mapM fun r => (match r with
      | .tmp t => pure (a.tmps.getD t undef)
      | .cell d t => do loadVar t (← asAddr (a.tmps.getD d undef)) : Sem Value)).run P w = .ok (toVs svs) w ∧ k svs
  | [], k, h => ⟨[], rfl, h⟩
  | r :: rs, k, h => by
    unfold resultsS at h
    obtain ⟨sv, h1, h⟩ := resultS_sound hrep h
    obtain ⟨svs, h2, h⟩ := resultsS_sound hrep rs _ h
    refine ⟨sv :: svs, ?_, h⟩
    rw [List.mapM_cons]
    simp only [Sem.run_bind, h1, h2, Result.andThen_ok, Sem.run_pure, toVs]

theorem retS_sound {fn : Func} {env : Env pC} {a : Act} {w : World} (hrep : Rep env a) (h : retS (pA P R) P fn env w) :
    ∃ v, (results fn a.tmps).run P w = .ok v w ∧ R.fin (.returned v) w := by
  unfold retS at h
  obtain ⟨svs, h1, h2⟩ := resultsS_sound hrep _ _ h
  have hm : (fn.results.mapM fun r => (match r with
      | .tmp t => pure (a.tmps.getD t undef)
      | .cell d t => do loadVar t (← asAddr (a.tmps.getD d undef)) : Sem Value)).run P w = .ok (toVs svs).toArray w := by
    rw [Array.mapM_eq_mapM_toList]
    simp only [Sem.run_map, h1, Result.andThen_ok]
  have hr : (results fn a.tmps).run P w = .ok (if h : (toVs svs).toArray.size = 1 then (toVs svs).toArray[0] else .tuple (toVs svs).toArray) w := by
    unfold results
    simp only [Sem.run_bind]
    erw [hm]
    rfl
  clear h1 hm
  match svs, h2, hr with
  | [v], h2, hr => exact ⟨_, hr, h2⟩
  | [], h2, hr => exact ⟨_, hr, h2⟩
  | v :: v2 :: vs, h2, hr =>
    refine ⟨_, hr, ?_⟩
    have : ¬ (toVs (v :: v2 :: vs)).toArray.size = 1 := by simp [toVs]
    rw [dif_neg this]
    exact h2

theorem numbered_get : ∀ (l : List (SV pC)) (i t : Nat), toV (getS (numbered i l) t) = if i ≤ t then (toVs l).getD (t - i) undef else undef
  | [], i, t => by simp [numbered, getS, toVs, toV, undef]
  | v :: vs, i, t => by
    simp only [numbered, getS]
    by_cases hb : Nat.beq i t = true
    · have := Nat.eq_of_beq_eq_true hb
      subst this
      simp [hb, toVs]
    · have hne : i ≠ t := fun h => hb (by rw [h]; exact Nat.beq_refl t)
      have hb : Nat.beq i t = false := Bool.eq_false_iff.2 hb
      simp only [hb, cond_false]
      rw [numbered_get vs (i + 1) t]
      by_cases hle : i ≤ t
      · rw [if_pos (by omega), if_pos hle]
        rw [show t - i = (t - (i + 1)) + 1 from by omega]
        simp [toVs]
      · rw [if_neg (by omega), if_neg hle]

/-- **A function's condition is enough for its contract.** -/
theorem execF_sound {ann : List (Nat × List (Tmp × Shape1))} {f : FuncId} {fn : Func} {args : List (SV pC)} {w : World} (hf : P.funcs[f]? = some fn) (hm : P.follows .mixedOrders = true)
    (h : execF (pA P R) P ann fn args w) : Calls P f (toVs args).toArray w R.fin := by
  unfold execF at h
  split at h
  · exact h.elim
  · rename_i c hb
    split at h
    · rename_i hc
      refine calls_of_wp hf hb ?_
      have hrep : Rep (numbered 0 args) ({ tmps := (toVs args).toArray ++ Array.replicate (fn.ntmps - (toVs args).toArray.size) undef, defers := [] } : Act) := by
        intro t
        rw [numbered_get]
        simp only [Nat.zero_le, if_true, Nat.sub_zero]
        rw [Array.getD_eq_getD_getElem?]
        by_cases ht : t < (toVs args).length
        · rw [Array.getElem?_append_left (by simpa using ht)]
          simp
        · rw [Array.getElem?_append_right (by simpa using ht)]
          simp only [Array.getElem?_replicate, List.getD_eq_getElem?_getD]
          rw [List.getElem?_eq_none (by omega)]
          split <;> rfl
      refine exec_sound hm c (writesOf c) _ _ w _ _ hrep ?_ hc.2 (fun t ht => ht) ?_ (fun ch a' w' hd hf => ⟨hd, hf⟩) h ?_
      · simp [toVs_length]; omega
      · intro ch a a' w hd hq
        exact ⟨hd ▸ hq.1, hq.2⟩
      · exact {
          nrm := fun env' a' w' h1 h2 h3 h4 h5 => ⟨h3, retS_sound h1 h5⟩
          exit := fun i env' a' w' h1 h2 h3 h4 h5 => h5.elim
          ret := fun env' a' w' h1 h2 h3 h5 => ⟨h3, retS_sound h1 h5⟩ }
    · exact h.elim
end Go.Vcg
end
