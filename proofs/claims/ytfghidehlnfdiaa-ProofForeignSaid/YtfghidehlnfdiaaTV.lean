/- Loops, code, functions. -/
/- The verification conditions of some functions, printed by a program of ours (wip/PrintVc.lean). -/
import Derived.Test.YtfghidehlnfdiaaXExec
import Derived.Test.YtfghidehlnfdiaaProg
import Derived.KernelRfl
set_option linter.unusedVariables false
set_option linter.unusedSimpArgs false
section
namespace Go.Vcg
variable {P : Program} {R : Goal}

theorem wp_loop_ghost {c : Code} {Q : Exit → Act → World → Prop} {a : Act} {w : World} (I : Nat → Act → World → Prop) {n : Nat} (h₀ : I n a w)
    (round : ∀ n a w, I n a w → c.wp P (Exit.then (fun a' w' => ∃ m, m < n ∧ I m a' w') Q) a w) : (Code.loop c).wp P Q a w := by
  intro b k cs
  have key : ∀ n a w, I n a w → ∃ e a' w', Q e a' w' ∧ Arrives P (lone (b.at a (.code c :: .inLoop c :: k)) cs w) b k cs e a' w' := by
    intro n
    induction n using Nat.strongRecOn with
    | _ n ih =>
      intro a w hI
      obtain ⟨e, a₁, w₁, hq, harr⟩ := round n a w hI b (.inLoop c :: k) cs
      cases e with
      | normal =>
        obtain ⟨m, hlt, hI₁⟩ := hq
        obtain ⟨e₂, a₂, w₂, hq₂, harr₂⟩ := ih m hlt a₁ w₁ hI₁
        exact ⟨e₂, a₂, w₂, hq₂, .of_steps (Steps.trans harr (.one step_inLoop)) harr₂⟩
      | exit id => exact ⟨_, a₁, w₁, hq, .pass (x := .inLoop c) rfl (fun _ _ => .inl (by simp)) harr⟩
      | goto l => exact ⟨_, a₁, w₁, hq, .pass (x := .inLoop c) rfl (fun _ _ => .inl (by simp)) harr⟩
      | ret => exact ⟨_, a₁, w₁, hq, .pass (x := .inLoop c) rfl (fun _ _ => .inl (by simp)) harr⟩
      | panic ch => exact ⟨_, a₁, w₁, hq, .pass (x := .inLoop c) rfl (fun _ _ => .inl (by simp)) harr⟩
      | outgrown => exact ⟨_, a₁, w₁, hq, .pass (x := .inLoop c) rfl (fun _ _ => .inl (by simp)) harr⟩
  obtain ⟨e, a', w', hq, harr⟩ := key n a w h₀
  exact ⟨e, a', w', hq, .of_steps (.one step_loop) harr⟩

def InC : Cell → SV pC → Prop
  | .int k, sv => ∃ n : Int, sv = .int k n
  | .bool, sv => ∃ b : Bool, sv = .bool (.var b)
  | .str, sv => ∃ s : ByteArray, sv = .str s
  | .ptr, sv => ∃ o : Option Addr, sv = .ptr o
  | .slice, sv => ∃ (o : Option Addr) (l c : Nat), sv = .slice o l c
  | .map, sv => ∃ m : Option Nat, sv = .map m
  | .raw, sv => ∃ v : Value, sv = .raw v
  | .addr, sv => ∃ d : Addr, sv = .addr d
def InCs : List Cell → List (SV pC) → Prop
  | [], svs => svs = []
  | c :: cs, svs => ∃ v vs, svs = v :: vs ∧ InC c v ∧ InCs cs vs
def In1 : Shape1 → SV pC → Prop
  | .cell c, sv => InC c sv
  | .agg cs, sv => ∃ vs, sv = .agg vs ∧ InCs cs vs
  | .big n, sv => ∃ l : Array Value, sv = .big n l
def InT : List Shape1 → List (SV pC) → Prop
  | [], svs => svs = []
  | s :: ss, svs => ∃ v vs, svs = v :: vs ∧ In1 s v ∧ InT ss vs

theorem allCP_at : ∀ (c : Cell) (f : SV pC → Prop) (sv : SV pC), allCP c f → InC c sv → f sv
  | .int _, f, _, h, ⟨n, e⟩ => e ▸ h n
  | .bool, f, _, h, ⟨n, e⟩ => e ▸ h n
  | .str, f, _, h, ⟨n, e⟩ => e ▸ h n
  | .ptr, f, _, h, ⟨n, e⟩ => e ▸ h n
  | .slice, f, _, h, ⟨o, l, c, e⟩ => e ▸ h o l c
  | .map, f, _, h, ⟨n, e⟩ => e ▸ h n
  | .raw, f, _, h, ⟨n, e⟩ => e ▸ h n
  | .addr, f, _, h, ⟨n, e⟩ => e ▸ h n
theorem allCsP_at : ∀ (cs : List Cell) (f : List (SV pC) → Prop) (svs : List (SV pC)), allCsP cs f → InCs cs svs → f svs
  | [], f, _, h, e => by cases e; exact h
  | c :: cs, f, _, h, ⟨v, vs, e, h1, h2⟩ => by
    subst e
    exact allCsP_at cs (fun vs => f (v :: vs)) vs (allCP_at c (fun v => allCsP cs fun vs => f (v :: vs)) v h h1) h2
theorem all1P_at : ∀ (s : Shape1) (f : SV pC → Prop) (sv : SV pC), all1P s f → In1 s sv → f sv
  | .cell c, f, sv, h, hi => allCP_at c f sv h hi
  | .agg cs, f, _, h, ⟨vs, e, hi⟩ => by subst e; exact allCsP_at cs (fun vs => f (.agg vs)) vs h hi
  | .big n, f, _, h, ⟨l, e⟩ => e ▸ h l
theorem allTP_at : ∀ (ss : List Shape1) (f : List (SV pC) → Prop) (svs : List (SV pC)), allTP ss f → InT ss svs → f svs
  | [], f, _, h, e => by cases e; exact h
  | s :: ss, f, _, h, ⟨v, vs, e, h1, h2⟩ => by
    subst e
    exact allTP_at ss (fun vs => f (v :: vs)) vs (all1P_at s (fun v => allTP ss fun vs => f (v :: vs)) v h h1) h2

theorem appC_norm : ∀ (c : Cell) (sv : SV pC), (∃ (T : Type) (I : InvC c T), (appC c I sv).isSome) → ∃ sv', InC c sv' ∧ toV sv' = toV sv ∧ ∀ (T : Type) (I : InvC c T), appC c I sv' = appC c I sv
  | c, sv, ⟨T, I, h⟩ => by
    cases c with
    | int k =>
      cases sv <;> simp only [appC] at h <;> first
        | (cases h; done)
        | (split at h
           · rename_i hk; subst hk; exact ⟨.int k _, ⟨_, rfl⟩, rfl, fun T I => rfl⟩
           · cases h)
    | bool =>
      cases sv <;> simp only [appC] at h <;> first
        | (cases h; done)
        | exact ⟨.bool (.var (den _)), ⟨_, rfl⟩, rfl, fun T I => rfl⟩
        | exact ⟨.bool (.var _), ⟨_, rfl⟩, rfl, fun T I => rfl⟩
    | str => cases sv <;> simp only [appC] at h <;> first
        | (cases h; done)
        | exact ⟨.str _, ⟨_, rfl⟩, rfl, fun T I => rfl⟩
    | ptr => cases sv <;> simp only [appC] at h <;> first
        | (cases h; done)
        | exact ⟨.ptr _, ⟨_, rfl⟩, rfl, fun T I => rfl⟩
        | exact ⟨.ptr (some _), ⟨_, rfl⟩, rfl, fun T I => rfl⟩
    | slice => cases sv <;> simp only [appC] at h <;> first
        | (cases h; done)
        | exact ⟨.slice _ _ _, ⟨_, _, _, rfl⟩, rfl, fun T I => rfl⟩
    | map => cases sv <;> simp only [appC] at h <;> first
        | (cases h; done)
        | exact ⟨.map _, ⟨_, rfl⟩, rfl, fun T I => rfl⟩
    | raw => exact ⟨.raw (toV sv), ⟨_, rfl⟩, rfl, fun T I => by cases sv <;> rfl⟩
    | addr => cases sv <;> simp only [appC] at h <;> first
        | (cases h; done)
        | exact ⟨.addr _, ⟨_, rfl⟩, rfl, fun T I => rfl⟩

theorem appCs_norm : ∀ (cs : List Cell) (svs : List (SV pC)), (∃ (T : Type) (I : InvCs cs T), (appCs cs I svs).isSome) → ∃ svs', InCs cs svs' ∧ toVs svs' = toVs svs ∧ ∀ (T : Type) (I : InvCs cs T), appCs cs I svs' = appCs cs I svs
  | [], [], _ => ⟨[], rfl, rfl, fun _ _ => rfl⟩
  | [], v :: vs, ⟨T, I, h⟩ => by cases h
  | c :: cs, [], ⟨T, I, h⟩ => by cases h
  | c :: cs, v :: vs, ⟨T, I, h⟩ => by
    simp only [appCs] at h
    cases hc : appC c I v with
    | none => rw [hc] at h; cases h
    | some I' =>
      rw [hc] at h
      obtain ⟨v', h1, h2, h3⟩ := appC_norm c v ⟨_, I, by rw [hc]; rfl⟩
      obtain ⟨vs', h4, h5, h6⟩ := appCs_norm cs vs ⟨T, I', h⟩
      refine ⟨v' :: vs', ⟨v', vs', rfl, h1, h4⟩, by simp only [toVs, h2, h5], fun T I => ?_⟩
      simp only [appCs]
      rw [show appC c I v' = appC c I v from h3 _ I]
      cases appC c I v with
      | none => rfl
      | some J => exact h6 T J
theorem app1_norm : ∀ (s : Shape1) (sv : SV pC), (∃ (T : Type) (I : Inv1 s T), (app1 s I sv).isSome) → ∃ sv', In1 s sv' ∧ toV sv' = toV sv ∧ ∀ (T : Type) (I : Inv1 s T), app1 s I sv' = app1 s I sv
  | .cell c, sv, h => appC_norm c sv h
  | .agg cs, sv, ⟨T, I, h⟩ => by
    cases sv <;> simp only [app1] at h <;> first
      | (cases h; done)
      | (obtain ⟨vs', h1, h2, h3⟩ := appCs_norm cs _ ⟨T, I, h⟩
         exact ⟨.agg vs', ⟨vs', rfl, h1⟩, by simp only [toV, h2], fun T I => h3 T I⟩)
  | .big n, sv, ⟨T, I, h⟩ => by
    cases sv <;> simp only [app1] at h <;> first
      | (cases h; done)
      | (split at h
         · rename_i hk; subst hk; exact ⟨.big n _, ⟨_, rfl⟩, rfl, fun T I => rfl⟩
         · cases h)
theorem appT_norm : ∀ (ss : List Shape1) (svs : List (SV pC)), (∃ (T : Type) (I : InvT ss T) (w : World), (appT ss I svs w).isSome) → ∃ svs', InT ss svs' ∧ toVs svs' = toVs svs ∧ ∀ (T : Type) (I : InvT ss T) (w : World), appT ss I svs' w = appT ss I svs w
  | [], [], _ => ⟨[], rfl, rfl, fun _ _ _ => rfl⟩
  | [], v :: vs, ⟨T, I, w, h⟩ => by cases h
  | s :: ss, [], ⟨T, I, w, h⟩ => by cases h
  | s :: ss, v :: vs, ⟨T, I, w, h⟩ => by
    simp only [appT] at h
    cases hc : app1 s I v with
    | none => rw [hc] at h; cases h
    | some I' =>
      rw [hc] at h
      obtain ⟨v', h1, h2, h3⟩ := app1_norm s v ⟨_, I, by rw [hc]; rfl⟩
      obtain ⟨vs', h4, h5, h6⟩ := appT_norm ss vs ⟨T, I', w, h⟩
      refine ⟨v' :: vs', ⟨v', vs', rfl, h1, h4⟩, by simp only [toVs, h2, h5], fun T I w => ?_⟩
      simp only [appT]
      rw [show app1 s I v' = app1 s I v from h3 _ I]
      cases app1 s I v with
      | none => rfl
      | some J => exact h6 T J w

theorem theP_isSome {o : Option Prop} (h : theP o) : o.isSome := by cases o <;> first | rfl | cases h

theorem getS_app {e1 e2 : Env pC} {t : Nat} : getS (e1 ++ e2) t = if (e1.any fun p => Nat.beq p.1 t) then getS e1 t else getS e2 t := by
  induction e1 with
  | nil => simp [getS]
  | cons p e1 ih =>
    obtain ⟨u, v⟩ := p
    simp only [List.cons_append, getS, List.any_cons]
    by_cases hb : Nat.beq u t = true
    · simp [hb]
    · have hb : Nat.beq u t = false := Bool.eq_false_iff.2 hb
      simp only [hb, cond_false, Bool.false_or]
      exact ih
theorem getS_zip : ∀ (ts : List Tmp) (vs vs' : List (SV pC)) (t : Nat), toVs vs = toVs vs' → toV (getS (ts.zip vs) t) = toV (getS (ts.zip vs') t)
  | [], _, _, _, _ => rfl
  | _ :: _, [], [], _, _ => rfl
  | _ :: _, [], _ :: _, _, h => by simp [toVs] at h
  | _ :: _, _ :: _, [], _, h => by simp [toVs] at h
  | u :: ts, v :: vs, v' :: vs', t, h => by
    simp only [toVs, List.cons.injEq] at h
    simp only [List.zip_cons_cons, getS]
    cases Nat.beq u t with
    | true => exact h.1
    | false => exact getS_zip ts vs vs' t h.2
theorem any_zip : ∀ (ts : List Tmp) (vs : List (SV pC)) (t : Nat), vs.length = ts.length → ((ts.zip vs).any fun p => Nat.beq p.1 t) = ts.any fun u => Nat.beq u t
  | [], _, _, _ => rfl
  | u :: ts, [], _, h => by cases h
  | u :: ts, v :: vs, t, h => by
    simp only [List.zip_cons_cons, List.any_cons]
    rw [any_zip ts vs t (by simpa using h)]

theorem head_rep {env env' : Env pC} {a a' : Act} {live written : List Tmp} {svs : List (SV pC)} (hr : Rep env a) (hr' : Rep env' a')
    (hlen : svs.length = live.length) (hcar : toVs svs = toVs (live.map (getS env'))) (hkeep : ∀ t, t ∉ written → a'.tmps.getD t undef = a.tmps.getD t undef) :
    Rep (headEnv (pA P R) (fun t => a'.tmps.getD t undef) live svs written env) a' := by
  intro t
  unfold headEnv
  rw [List.append_assoc, getS_app, any_zip live svs t hlen]
  split
  · rename_i hmem
    rw [getS_zip live svs _ t hcar]
    obtain ⟨u, hu, hb⟩ := List.any_eq_true.1 hmem
    have key : ∀ (ts : List Tmp), (∃ u ∈ ts, Nat.beq u t = true) → toV (getS (ts.zip (ts.map (getS env'))) t) = toV (getS env' t) := by
      intro ts
      induction ts with
      | nil => rintro ⟨u, hu, _⟩; cases hu
      | cons x ts ih =>
        rintro ⟨u, hu, hb⟩
        simp only [List.map_cons, List.zip_cons_cons, getS]
        cases hx : Nat.beq x t with
        | true => rw [Nat.eq_of_beq_eq_true hx]; rfl
        | false =>
          refine ih ⟨u, ?_, hb⟩
          rcases List.mem_cons.1 hu with rfl | hu
          · rw [hx] at hb; cases hb
          · exact hu
    rw [key live ⟨u, hu, hb⟩]
    exact hr' t
  · rw [getS_app]
    split
    · rename_i hmem
      have key : ∀ (ws : List Tmp), (∃ u ∈ ws, Nat.beq u t = true) → toV (getS (ws.map fun u => (u, SV.raw (C := pC) ((pA P R).junk (fun t => a'.tmps.getD t undef) u))) t) = a'.tmps.getD t undef := by
        intro ws
        induction ws with
        | nil => rintro ⟨u, hu, _⟩; cases hu
        | cons x ws ih =>
          rintro ⟨u, hu, hb⟩
          simp only [List.map_cons, getS]
          cases hx : Nat.beq x t with
          | true => rw [Nat.eq_of_beq_eq_true hx]; rfl
          | false =>
            refine ih ⟨u, ?_, hb⟩
            rcases List.mem_cons.1 hu with rfl | hu
            · rw [hx] at hb; cases hb
            · exact hu
      rw [key written]
      obtain ⟨p, hp, hb⟩ := List.any_eq_true.1 hmem
      obtain ⟨u, hu, rfl⟩ := List.mem_map.1 hp
      exact ⟨u, hu, hb⟩
    · rename_i hno
      rw [hkeep t ?_]
      · exact hr t
      · intro hmem
        apply hno
        refine List.any_eq_true.2 ⟨(t, _), List.mem_map.2 ⟨t, hmem, rfl⟩, ?_⟩
        exact Nat.beq_refl t

structure Post (n : Nat) (W : List Tmp) (K : Kont pC) (a : Act) (Q : Exit → Act → World → Prop) : Prop where
  nrm : ∀ env' a' w', Rep env' a' → a'.tmps.size = n → a'.defers = a.defers → Keep W a a' → K.nrm env' w' → Q .normal a' w'
  exit : ∀ i env' a' w', Rep env' a' → a'.tmps.size = n → a'.defers = a.defers → Keep W a a' → K.exit i env' w' → Q (.exit i) a' w'
  ret : ∀ env' a' w', Rep env' a' → a'.tmps.size = n → a'.defers = a.defers → Keep W a a' → K.ret env' w' → Q .ret a' w'

theorem exec_sound {ann : List (Nat × List (Tmp × Shape1))} (hm : P.follows .mixedOrders = true) {n : Nat} : ∀ (c : Code) (W : List Tmp) (env : Env pC) (a : Act) (w : World) (K : Kont pC) (Q : Exit → Act → World → Prop),
    Rep env a → a.tmps.size = n → slotsOk n c = true → (∀ t ∈ writesOf c, t ∈ W) → (∀ ch (a a' : Act) w, a.defers = a'.defers → (∀ t, t ∉ W → a.tmps.getD t undef = a'.tmps.getD t undef) → Q (.panic ch) a w → Q (.panic ch) a' w) → (∀ ch (a' : Act) w', a'.defers = a.defers → Keep W a a' → R.fin (.panicked ch) w' → Q (.panic ch) a' w') →
    exec (pA P R) P ann c env w K → Post n W K a Q → c.wp P Q a w := by
  intro c
  induction c with
  | skip => intro W env a w K Q hrep hn hs hW hQ hR h hp; exact wp_skip (hp.nrm _ _ _ hrep hn rfl (Keep.refl _ _) h)
  | region id ops draw =>
    intro W env a w K Q hrep hn hs hW hQ hR h hp
    have hd : ∀ o ∈ ops, dstOk n o := by
      intro o ho d hdst
      have := Array.all_eq_true_iff_forall_mem.1 hs o ho
      simp only [hdst, decide_eq_true_eq] at this
      exact this
    have hW' : ∀ o ∈ ops, ∀ d, o.dst = some d → d ∈ W := by
      intro o ho d hdst
      refine hW d ?_
      simp only [writesOf, List.mem_filterMap, Array.mem_toList_iff]
      exact ⟨o, ho, hdst⟩
    unfold exec at h
    cases draw with
    | true =>
      simp only [if_true] at h
      split at h
      · rename_i hssa
        have h := h _ rfl
        refine wp_region_G hm hssa (fun ch a a' w hd hk => hQ ch a a' w hd (fun t ht => by rw [Array.getD_eq_getD_getElem?, Array.getD_eq_getD_getElem?, hk t (fun q o ho hdst => ht (hW' o (Array.mem_of_getElem? ho) t hdst))])) (regionG_sound hssa hd hW' _ _ [] [] env a _ K.nrm (by simp) (Closed.start _ _) hrep hn (by simp) (by intro q hq; cases hq) h hR hp.nrm)
      · exact h.elim
    | false =>
      simp only [Bool.false_eq_true, if_false] at h
      exact wp_region_list (regionS_sound ops.toList env a w K.nrm hrep hn (fun o ho => hd o (Array.mem_toList_iff.1 ho)) (fun o ho => hW' o (Array.mem_toList_iff.1 ho)) h hR hp.nrm)
  | seq x y ihx ihy =>
    intro W env a w K Q hrep hn hs hW hQ hR h hp
    simp only [slotsOk, Bool.and_eq_true] at hs
    simp only [writesOf, List.mem_append] at hW
    unfold exec at h
    split at h
    · refine wp_seq (ihx W env a w _ _ hrep hn hs.1 (fun t ht => hW t (.inl ht)) (fun ch a a' w => hQ ch a a' w) (fun ch a' w' => hR ch a' w') h ?_)
      exact {
        nrm := fun env' a' w' h1 h2 h3 h4 h5 => ihy W env' a' w' K Q h1 h2 hs.2 (fun t ht => hW t (.inr ht)) hQ (fun ch a2 w2 hd hk => hR ch a2 w2 (hd.trans h3) (h4.trans hk)) h5 {
          nrm := fun env'' a'' w'' g1 g2 g3 g4 g5 => hp.nrm _ _ _ g1 g2 (g3.trans h3) (h4.trans g4) g5
          exit := fun i env'' a'' w'' g1 g2 g3 g4 g5 => hp.exit _ _ _ _ g1 g2 (g3.trans h3) (h4.trans g4) g5
          ret := fun env'' a'' w'' g1 g2 g3 g4 g5 => hp.ret _ _ _ g1 g2 (g3.trans h3) (h4.trans g4) g5 }
        exit := fun i env' a' w' h1 h2 h3 h4 h5 => hp.exit i _ _ _ h1 h2 h3 h4 h5
        ret := fun env' a' w' h1 h2 h3 h4 h5 => hp.ret _ _ _ h1 h2 h3 h4 h5 }
    · rename_i id live hann
      obtain ⟨I, hpre, hrest⟩ := h
      have hlen : ∀ e : Env pC, ((live.map (·.1)).map (getS e)).length = (live.map (·.1)).length := fun e => by simp
      refine wp_seq (ihx (writesOf x) env a w _ _ hrep hn hs.1 (fun t ht => ht) (fun ch a1 a2 w hd hk => hQ ch a1 a2 w hd (fun t ht => hk t (fun hm => ht (hW t (.inl hm))))) (fun ch a' w' hd hk => hR ch a' w' hd (hk.mono fun t ht => hW t (.inl ht))) hpre ?_)
      exact {
        nrm := fun env' a' w' h1 h2 h3 h4 h5 => by
          have h5 : theP (appT (live.map (·.2)) I ((live.map (·.1)).map (getS env')) w') := h5
          obtain ⟨svs, k1, k2, k3⟩ := appT_norm _ _ ⟨_, I, w', theP_isSome h5⟩
          have hl : svs.length = (live.map (·.1)).length := by
            have := congrArg List.length k2
            rw [toVs_length, toVs_length] at this
            rw [this]; exact hlen env'
          have hb := allTP_at _ _ _ hrest k1 (fun t => a'.tmps.getD t undef) w' (by rw [k3]; exact h5)
          have h4' : Keep W a a' := h4.mono fun t ht => hW t (.inl ht)
          exact ihy W _ a' w' K Q (head_rep hrep h1 hl k2 h4) h2 hs.2 (fun t ht => hW t (.inr ht)) hQ (fun ch a2 w2 hd hk => hR ch a2 w2 (hd.trans h3) (h4'.trans hk)) hb {
            nrm := fun env'' a'' w'' g1 g2 g3 g4 g5 => hp.nrm _ _ _ g1 g2 (g3.trans h3) (h4'.trans g4) g5
            exit := fun i env'' a'' w'' g1 g2 g3 g4 g5 => hp.exit _ _ _ _ g1 g2 (g3.trans h3) (h4'.trans g4) g5
            ret := fun env'' a'' w'' g1 g2 g3 g4 g5 => hp.ret _ _ _ g1 g2 (g3.trans h3) (h4'.trans g4) g5 }
        exit := fun i env' a' w' h1 h2 h3 h4 h5 => hp.exit i _ _ _ h1 h2 h3 (h4.mono fun t ht => hW t (.inl ht)) h5
        ret := fun env' a' w' h1 h2 h3 h4 h5 => hp.ret _ _ _ h1 h2 h3 (h4.mono fun t ht => hW t (.inl ht)) h5 }
  | cond c x y ihx ihy =>
    intro W env a w K Q hrep hn hs hW hQ hR h hp
    simp only [slotsOk, Bool.and_eq_true] at hs
    simp only [writesOf, List.mem_append] at hW
    unfold exec at h
    have hev : a.eval c = toV (ev (pA P R) env c) := hrep.eval c
    split at h
    · rename_i t hc
      have hc' : a.eval c = .bool t := by rw [hev, hc]; rfl
      refine wp_cond hc' ?_
      cases t with
      | true => exact ihx W env a w K Q hrep hn hs.1 (fun t ht => hW t (.inl ht)) hQ hR h hp
      | false => exact ihy W env a w K Q hrep hn hs.2 (fun t ht => hW t (.inr ht)) hQ hR h hp
    · rename_i t hc
      obtain ⟨h1, h2⟩ := h
      have hc' : a.eval c = .bool (den t) := by rw [hev, hc]; rfl
      have henv : ∀ b : Bool, den t = b → Rep (setC env c b) a := by
        intro b hb
        unfold setC
        cases c with
        | tmp s =>
          refine hrep.refine ?_
          have : toV (getS env s) = toV (ev (pA P R) env (.tmp s)) := rfl
          rw [this, hc, ← hb]; rfl
        | _ => exact hrep
      refine wp_cond hc' ?_
      cases hd : den t with
      | true => exact ihx W _ a w K Q (henv true hd) hn hs.1 (fun t ht => hW t (.inl ht)) hQ hR (impP_spec _ _ _ h1 hd) hp
      | false => exact ihy W _ a w K Q (henv false hd) hn hs.2 (fun t ht => hW t (.inr ht)) hQ hR (impP_spec _ _ _ h2 hd) hp
    · exact h.elim
  | block id c ih =>
    intro W env a w K Q hrep hn hs hW hQ hR h hp
    unfold exec at h
    refine wp_block (ih W env a w _ _ hrep hn hs hW (fun ch a a' w => hQ ch a a' w) (fun ch a' w' => hR ch a' w') h ?_)
    exact {
      nrm := hp.nrm
      exit := fun i env' a' w' h1 h2 h3 h4 h5 => by
        have h5 : if i = id then K.nrm env' w' else K.exit i env' w' := h5
        simp only [Exit.inBlock]
        split
        · rename_i hi; rw [if_pos hi] at h5; exact hp.nrm _ _ _ h1 h2 h3 h4 h5
        · rename_i hi; rw [if_neg hi] at h5; exact hp.exit i _ _ _ h1 h2 h3 h4 h5
      ret := hp.ret }
  | loop c ih =>
    intro W env a w K Q hrep hn hs hW hQ hR h hp
    unfold exec at h
    split at h
    · exact h.elim
    · rename_i id live hann
      obtain ⟨I, μ, h0, hround⟩ := h
      have hlen : ∀ e : Env pC, ((live.map (·.1)).map (getS e)).length = (live.map (·.1)).length := fun e => by simp
      -- the state at a head
      let Inv : Nat → Act → World → Prop := fun m a' w' => ∃ svs jk, InT (live.map (·.2)) svs ∧ Rep (headEnv (pA P R) jk (live.map (·.1)) svs (writesOf c) env) a' ∧ a'.tmps.size = n ∧ a'.defers = a.defers ∧ Keep (writesOf c) a a' ∧
        theP (appT (live.map (·.2)) I svs w') ∧ theN (appT (live.map (·.2)) μ svs w') = m
      have enter : ∀ (env' : Env pC) (a' : Act) (w' : World), Rep env' a' → a'.tmps.size = n → a'.defers = a.defers → Keep (writesOf c) a a' →
          theP (appT (live.map (·.2)) I ((live.map (·.1)).map (getS env')) w') → Inv (theN (appT (live.map (·.2)) μ ((live.map (·.1)).map (getS env')) w')) a' w' := by
        intro env' a' w' hrep' hn' hdef hkeep hI
        obtain ⟨svs, h1, h2, h3⟩ := appT_norm _ _ ⟨_, I, w', theP_isSome hI⟩
        refine ⟨svs, fun t => a'.tmps.getD t undef, h1, ?_, hn', hdef, hkeep, by rw [h3]; exact hI, by rw [h3]⟩
        have hl : svs.length = (live.map (·.1)).length := by
          have := congrArg List.length h2
          rw [toVs_length, toVs_length] at this
          rw [this]; exact hlen env'
        exact head_rep hrep hrep' hl h2 hkeep
      refine wp_loop_ghost Inv (enter env a w hrep hn rfl (Keep.refl _ _) h0) ?_
      rintro m a' w' ⟨svs, jk, h1, h2, h3, h4, h5, h6, rfl⟩
      have hb := allTP_at _ _ _ hround h1 jk w' h6
      refine ih (writesOf c) _ a' w' _ _ h2 h3 hs (fun t ht => ht) (fun ch a1 a2 w hd hk => hQ ch a1 a2 w hd (fun t ht => hk t (fun hm => ht (hW t hm)))) (fun ch a2 w2 hd hk => hR ch a2 w2 (hd.trans h4) ((h5.mono fun t ht => hW t ht).trans (hk.mono fun t ht => hW t ht))) hb ?_
      have hkW : Keep W a a' := h5.mono fun t ht => hW t ht
      exact {
        nrm := fun env'' a'' w'' g1 g2 g3 g4 g5 => by
          obtain ⟨g5, g6⟩ := g5
          exact ⟨_, g6, enter env'' a'' w'' g1 g2 (g3.trans h4) (h5.trans g4) g5⟩
        exit := fun i env'' a'' w'' g1 g2 g3 g4 g5 => hp.exit i _ _ _ g1 g2 (g3.trans h4) (hkW.trans (g4.mono fun t ht => hW t ht)) g5
        ret := fun env'' a'' w'' g1 g2 g3 g4 g5 => hp.ret _ _ _ g1 g2 (g3.trans h4) (hkW.trans (g4.mono fun t ht => hW t ht)) g5 }
  | exit id => intro W env a w K Q hrep hn hs hW hQ hR h hp; exact wp_exit (hp.exit _ _ _ _ hrep hn rfl (Keep.refl _ _) h)
  | ret => intro W env a w K Q hrep hn hs hW hQ hR h hp; exact wp_ret (hp.ret _ _ _ hrep hn rfl (Keep.refl _ _) h)
  | rangeFunc => intro W env a w K Q hrep hn hs hW hQ hR h hp; exact h.elim
  | scope => intro W env a w K Q hrep hn hs hW hQ hR h hp; exact h.elim
  | label => intro W env a w K Q hrep hn hs hW hQ hR h hp; exact h.elim
  | goto => intro W env a w K Q hrep hn hs hW hQ hR h hp; exact h.elim
  | refuse => intro W env a w K Q hrep hn hs hW hQ hR h hp; exact h.elim

theorem resultS_sound {r : ResultVar} {env : Env pC} {a : Act} {w : World} {k : SV pC → Prop} (hrep : Rep env a) (h : resultS (pA P R) P r env w k) :
    ∃ sv, ((match r with
      | .tmp t => pure (a.tmps.getD t undef)
      | .cell d t => do loadVar t (← asAddr (a.tmps.getD d undef))) : Sem Value).run P w = .ok (toV sv) w ∧ k sv := by
  cases r with
  | tmp t =>
    refine ⟨_, ?_, h⟩
    simp only [Sem.run_pure]
    rw [hrep t]
  | cell d t =>
    unfold resultS at h
    simp only at h
    split at h
    · rename_i dd hd
      obtain ⟨sv, h1, h2, _⟩ := loadS_sound h
      refine ⟨sv, ?_, h2⟩
      simp only [Sem.run_bind]
      rw [hrep d, hd]
      simp [toV, asAddr, h1]
    · exact h.elim

theorem resultsS_sound {env : Env pC} {a : Act} {w : World} (hrep : Rep env a) : ∀ (rs : List ResultVar) (k : List (SV pC) → Prop), resultsS (pA P R) P rs env w k →
    ∃ svs, (rs.mapM fun r => (match r with
      | .tmp t => pure (a.tmps.getD t undef)
      | .cell d t => do loadVar t (← asAddr (a.tmps.getD d undef)) : Sem Value)).run P w = .ok (toVs svs) w ∧ k svs
  | [], k, h => ⟨[], rfl, h⟩
  | r :: rs, k, h => by
    unfold resultsS at h
    obtain ⟨sv, h1, h⟩ := resultS_sound hrep h
    obtain ⟨svs, h2, h⟩ := resultsS_sound hrep rs _ h
    refine ⟨sv :: svs, ?_, h⟩
    rw [List.mapM_cons]
    simp only [Sem.run_bind, h1, h2, Result.andThen_ok, Sem.run_pure, toVs]

theorem retS_sound {fn : Func} {env : Env pC} {a : Act} {w : World} (hrep : Rep env a) (h : retS (pA P R) P fn env w) :
    ∃ v, (results fn a.tmps).run P w = .ok v w ∧ R.fin (.returned v) w := by
  unfold retS at h
  obtain ⟨svs, h1, h2⟩ := resultsS_sound hrep _ _ h
  have hm : (fn.results.mapM fun r => (match r with
      | .tmp t => pure (a.tmps.getD t undef)
      | .cell d t => do loadVar t (← asAddr (a.tmps.getD d undef)) : Sem Value)).run P w = .ok (toVs svs).toArray w := by
    rw [Array.mapM_eq_mapM_toList]
    simp only [Sem.run_map, h1, Result.andThen_ok]
  have hr : (results fn a.tmps).run P w = .ok (if h : (toVs svs).toArray.size = 1 then (toVs svs).toArray[0] else .tuple (toVs svs).toArray) w := by
    unfold results
    simp only [Sem.run_bind]
    erw [hm]
    rfl
  clear h1 hm
  match svs, h2, hr with
  | [v], h2, hr => exact ⟨_, hr, h2⟩
  | [], h2, hr => exact ⟨_, hr, h2⟩
  | v :: v2 :: vs, h2, hr =>
    refine ⟨_, hr, ?_⟩
    have : ¬ (toVs (v :: v2 :: vs)).toArray.size = 1 := by simp [toVs]
    rw [dif_neg this]
    exact h2

theorem numbered_get : ∀ (l : List (SV pC)) (i t : Nat), toV (getS (numbered i l) t) = if i ≤ t then (toVs l).getD (t - i) undef else undef
  | [], i, t => by simp [numbered, getS, toVs, toV, undef]
  | v :: vs, i, t => by
    simp only [numbered, getS]
    by_cases hb : Nat.beq i t = true
    · have := Nat.eq_of_beq_eq_true hb
      subst this
      simp [hb, toVs]
    · have hne : i ≠ t := fun h => hb (by rw [h]; exact Nat.beq_refl t)
      have hb : Nat.beq i t = false := Bool.eq_false_iff.2 hb
      simp only [hb, cond_false]
      rw [numbered_get vs (i + 1) t]
      by_cases hle : i ≤ t
      · rw [if_pos (by omega), if_pos hle]
        rw [show t - i = (t - (i + 1)) + 1 from by omega]
        simp [toVs]
      · rw [if_neg (by omega), if_neg hle]

theorem numbered_rep {fn : Func} {args : List (SV pC)} : Rep (numbered 0 args) ({ tmps := (toVs args).toArray ++ Array.replicate (fn.ntmps - (toVs args).toArray.size) undef, defers := [] } : Act) := by
  intro t
  rw [numbered_get]
  simp only [Nat.zero_le, if_true, Nat.sub_zero]
  rw [Array.getD_eq_getD_getElem?]
  by_cases ht : t < (toVs args).length
  · rw [Array.getElem?_append_left (by simpa using ht)]
    simp
  · rw [Array.getElem?_append_right (by simpa using ht)]
    simp only [Array.getElem?_replicate, List.getD_eq_getElem?_getD]
    rw [List.getElem?_eq_none (by omega)]
    split <;> rfl

theorem execF_wp {ann : List (Nat × List (Tmp × Shape1))} {fn : Func} {args : List (SV pC)} {w : World} (hm : P.follows .mixedOrders = true)
    (h : execF (pA P R) P ann fn args w) : ∃ c, fn.body = some c ∧ c.wp P (bodyPost P fn R.fin) { tmps := (toVs args).toArray ++ Array.replicate (fn.ntmps - (toVs args).toArray.size) undef, defers := [] } w := by
  unfold execF at h
  split at h
  · exact h.elim
  · rename_i c hb
    split at h
    · rename_i hc
      refine ⟨c, hb, ?_⟩
      refine exec_sound hm c (writesOf c) _ _ w _ _ numbered_rep ?_ hc.2 (fun t ht => ht) ?_ (fun ch a' w' hd _ hf => ⟨hd, hf⟩) h ?_
      · simp [toVs_length]; omega
      · intro ch a a' w hd _ hq
        exact ⟨hd ▸ hq.1, hq.2⟩
      · exact {
          nrm := fun env' a' w' h1 h2 h3 h4 h5 => ⟨h3, retS_sound h1 h5⟩
          exit := fun i env' a' w' h1 h2 h3 h4 h5 => h5.elim
          ret := fun env' a' w' h1 h2 h3 _ h5 => ⟨h3, retS_sound h1 h5⟩ }
    · exact h.elim
theorem execF_sound {ann : List (Nat × List (Tmp × Shape1))} {f : FuncId} {fn : Func} {args : List (SV pC)} {w : World} (hf : P.funcs[f]? = some fn) (hm : P.follows .mixedOrders = true)
    (h : execF (pA P R) P ann fn args w) : Calls P f (toVs args).toArray w R.fin := by
  obtain ⟨c, hb, hw⟩ := execF_wp hm h
  exact calls_of_wp hf hb hw
theorem xs {P : Program} {R : Ending → World → Prop} {V : Prop} {f : FuncId} {fn : Func} {w : World} (ann : List (Nat × List (Tmp × Shape1))) (args : List (SV pC)) (hf : P.funcs[f]? = some fn) (hm : P.follows .mixedOrders = true)
    (e : V = execF (pA P ⟨R, false⟩) P ann fn args w) (h : V) : Calls P f (toVs args).toArray w R := execF_sound (R := ⟨R, false⟩) hf hm (Eq.mp e h)
end Go.Vcg
end
section
namespace Go.Proofs.Ytfghidehlnfdiaa
open Go Go.Vcg
theorem mixed : Try.prog.follows .mixedOrders = true := by kernel_rfl



abbrev trie_Empty.n : Nat := 52
def trie_Empty.Vc  (w : World) (R : Ending → World → Prop) : Prop :=
 ∀ d0 w1, IsNew w 26 (Array.replicate 32 (.int .u8 0)) d0 w1 →
 ∀ d2 w3, IsNew w1 5 #[(.int .u8 128)] d2 w3 →
 ∀ d4 w5, IsNew w3 22 #[(.slice (some d2) 1 1)] d4 w5 →
 Calls Try.prog 19 #[(.slice (some d4) 1 1)] w5 (fun e6 w7 =>
 ∃ L8, e6 = .returned (.agg L8) ∧
 ∃ w9, Sem.run Try.prog (Instr.storeAt 26 (.pointer (some d0)) (.agg L8)) w7 = .ok () w9 ∧
 ∃ L10, RowAt w9 d0 32 L10 ∧
 R (.returned (.agg L10)) w9)
theorem trie_Empty.vc  (w : World) (R : Ending → World → Prop) (h : trie_Empty.Vc w R) : Calls Try.prog 52 #[] w R :=
 execF_sound (R := ⟨R, false⟩) (ann := []) (args := []) Try.func52 mixed (Eq.mp (by kernel_rfl : trie_Empty.Vc w R = execF (pA Try.prog ⟨R, false⟩) Try.prog [] Try.f52 [] w) h)















abbrev trie_Pack.n : Nat := 38
def trie_Pack.Vc (o0 : Option Addr) (l0 c0 : Nat) (b1 : Bool) (w : World) (R : Ending → World → Prop) : Prop :=
 (((((l0 : Nat) : Int) > 128 →
 R (.returned (.tuple #[(.slice none 0 0), (.int .i64 140)])) w)) ∧
 ((¬ ((l0 : Nat) : Int) > 128 →
 Calls Try.prog 86 #[(.slice o0 l0 c0)] w (fun e2 w3 =>
 ∃ n4, e2 = .returned (.int .u8 n4) ∧
 (((n4 ≥ 16 →
 R (.returned (.tuple #[(.slice none 0 0), (.int .i64 140)])) w3)) ∧
 ((¬ n4 ≥ 16 →
 ∃ (J5 : Int → World → Prop), ((((b1 = true →
 J5 2 w3)) ∧
 ((b1 = false →
 J5 0 w3)))) ∧
 (∀ (n6 : Int) (j7 : Nat → Value) (w7 : World), J5 n6 w7 →
 ∀ d8 w9, IsNew w7 5 #[(.int .u8 n6), (.int .u8 0)] d8 w9 →
 ∃ (J10 : Option Addr → Nat → Nat → World → Prop), (((((Int.tmod ((l0 : Nat) : Int) 2) = 1 →
 ∀ d11 w12, IsNew w9 5 #[(.int .u8 (IntKind.wrap .u8 (n6 + 1)))] d11 w12 →
 J10 (some d11) 1 1 w12)) ∧
 (((Int.tmod ((l0 : Nat) : Int) 2) ≠ 1 →
 J10 (some d8) 2 2 w9)))) ∧
 (∀ (o13 : Option Addr) (l13 : Nat) (c13 : Nat) (j14 : Nat → Value) (w14 : World), J10 o13 l13 c13 w14 →
 ∃ v15 w16, Sem.run Try.prog (builtinV .append #[22, 22] 22 #[(.slice o13 l13 c13), (.slice o0 l0 c0)]) w14 = .ok v15 w16 ∧
 ∃ o17 l18 l19, v15 = (.slice o17 l18 l19) ∧
 ∃ (I20 : Option Addr → Nat → Nat → Int → World → Prop) (μ20 : Option Addr → Nat → Nat → Int → World → Nat), I20 none 0 0 0 w16 ∧
 (∀ (o21 : Option Addr) (l21 : Nat) (c21 : Nat) (n22 : Int) (j23 : Nat → Value) (w23 : World), I20 o21 l21 c21 n22 w23 →
 (((n22 < ((l18 : Nat) : Int) →
 ∀ w24, IsDrew w23 w24 →
 ∃ d25, o17 = some d25 ∧
 ((0 : Int) ≤ n22 ∧ n22 < ((l18 : Nat) : Int)) ∧
 ∃ n26, World.cell? w24 (Addr.add d25 (Int.toNat n22)) = some (.int .u8 n26) ∧
 ∃ d27, o17 = some d27 ∧
 ((0 : Int) ≤ (IntKind.wrap .i64 (n22 + 1)) ∧ (IntKind.wrap .i64 (n22 + 1)) < ((l18 : Nat) : Int)) ∧
 ∃ n28, World.cell? w24 (Addr.add d27 (Int.toNat (IntKind.wrap .i64 (n22 + 1)))) = some (.int .u8 n28) ∧
 ∀ d29 w30, IsNew w24 5 #[(.int .u8 (bitsI .or .u8 (IntKind.wrap .u8 (n26 * 16)) n28))] d29 w30 →
 ∃ v31 w32, Sem.run Try.prog (builtinV .append #[22, 22] 22 #[(.slice o21 l21 c21), (.slice (some d29) 1 1)]) w30 = .ok v31 w32 ∧
 ∃ o33 l34 l35, v31 = (.slice o33 l34 l35) ∧
 I20 o33 l34 l35 (IntKind.wrap .i64 (n22 + 2)) w32 ∧ μ20 o33 l34 l35 (IntKind.wrap .i64 (n22 + 2)) w32 < μ20 o21 l21 c21 n22 w23)) ∧
 ((¬ n22 < ((l18 : Nat) : Int) →
 R (.returned (.tuple #[(.slice o21 l21 c21), (.int .i64 0)])) w23)))))))))))))
theorem trie_Pack.vc (o0 l0 c0 b1 w R) (h : trie_Pack.Vc o0 l0 c0 b1 w R) : Calls Try.prog 38 #[(.slice o0 l0 c0), (.bool b1)] w R := xs [(1000006, [(6, .cell (.int .u8))]), (1000009, [(7, .cell (.slice))]), (12, [(8, .cell (.slice)), (9, .cell (.int .i64))])] [.slice o0 l0 c0, .bool (.var b1)] Try.func38 mixed (by kernel_rfl) h

abbrev trie_Nibbles.n : Nat := 40
def trie_Nibbles.Vc (o0 : Option Addr) (l0 c0 : Nat) (w : World) (R : Ending → World → Prop) : Prop :=
 ∃ (I1 : Option Addr → Nat → Nat → Int → World → Prop) (μ1 : Option Addr → Nat → Nat → Int → World → Nat), I1 none 0 0 0 w ∧
 (∀ (o2 : Option Addr) (l2 : Nat) (c2 : Nat) (n3 : Int) (j4 : Nat → Value) (w4 : World), I1 o2 l2 c2 n3 w4 →
 (((n3 < ((l0 : Nat) : Int) →
 ∃ d5, o0 = some d5 ∧
 ((0 : Int) ≤ n3 ∧ n3 < ((l0 : Nat) : Int)) ∧
 ∃ n6, World.cell? w4 (Addr.add d5 (Int.toNat n3)) = some (.int .u8 n6) ∧
 ∀ d7 w8, IsNew w4 5 #[(.int .u8 (Int.fdiv n6 16)), (.int .u8 (bitsI .and .u8 n6 15))] d7 w8 →
 ∃ v9 w10, Sem.run Try.prog (builtinV .append #[22, 22] 22 #[(.slice o2 l2 c2), (.slice (some d7) 2 2)]) w8 = .ok v9 w10 ∧
 ∃ o11 l12 l13, v9 = (.slice o11 l12 l13) ∧
 I1 o11 l12 l13 (IntKind.wrap .i64 (n3 + 1)) w10 ∧ μ1 o11 l12 l13 (IntKind.wrap .i64 (n3 + 1)) w10 < μ1 o2 l2 c2 n3 w4)) ∧
 ((¬ n3 < ((l0 : Nat) : Int) →
 R (.returned (.slice o2 l2 c2)) w4))))
theorem trie_Nibbles.vc (o0 l0 c0 w R) (h : trie_Nibbles.Vc o0 l0 c0 w R) : Calls Try.prog 40 #[(.slice o0 l0 c0)] w R := xs [(3, [(3, .cell (.slice)), (8, .cell (.int .i64))])] [.slice o0 l0 c0] Try.func40 mixed (by kernel_rfl) h

abbrev trie_maxOf.n : Nat := 86
def trie_maxOf.Vc (o0 : Option Addr) (l0 c0 : Nat) (w : World) (R : Ending → World → Prop) : Prop :=
 ∃ (I1 : Int → Int → World → Prop) (μ1 : Int → Int → World → Nat), I1 0 0 w ∧
 (∀ (n2 : Int) (n3 : Int) (j4 : Nat → Value) (w4 : World), I1 n2 n3 w4 →
 (((n3 < ((l0 : Nat) : Int) →
 ∃ d5, o0 = some d5 ∧
 ((0 : Int) ≤ n3 ∧ n3 < ((l0 : Nat) : Int)) ∧
 ∃ n6, World.cell? w4 (Addr.add d5 (Int.toNat n3)) = some (.int .u8 n6) ∧
 I1 (max n2 n6) (IntKind.wrap .i64 (n3 + 1)) w4 ∧ μ1 (max n2 n6) (IntKind.wrap .i64 (n3 + 1)) w4 < μ1 n2 n3 w4)) ∧
 ((¬ n3 < ((l0 : Nat) : Int) →
 R (.returned (.int .u8 n2)) w4))))
theorem trie_maxOf.vc (o0 l0 c0 w R) (h : trie_maxOf.Vc o0 l0 c0 w R) : Calls Try.prog 86 #[(.slice o0 l0 c0)] w R := xs [(3, [(3, .cell (.int .u8)), (8, .cell (.int .i64))])] [.slice o0 l0 c0] Try.func86 mixed (by kernel_rfl) h






abbrev bytes_Clone.n : Nat := 78
def bytes_Clone.Vc (o0 : Option Addr) (l0 c0 : Nat) (w : World) (R : Ending → World → Prop) : Prop :=
 (((o0 = none →
 R (.returned (.slice none 0 0)) w)) ∧
 ((o0 ≠ none →
 ∀ d1 w2, IsNew w 5 #[] d1 w2 →
 ∃ v3 w4, Sem.run Try.prog (builtinV .append #[22, 22] 22 #[(.slice (some d1) 0 0), (.slice o0 l0 c0)]) w2 = .ok v3 w4 ∧
 ∃ o5 l6 l7, v3 = (.slice o5 l6 l7) ∧
 R (.returned (.slice o5 l6 l7)) w4)))
theorem bytes_Clone.vc (o0 l0 c0 w R) (h : bytes_Clone.Vc o0 l0 c0 w R) : Calls Try.prog 78 #[(.slice o0 l0 c0)] w R := xs [] [.slice o0 l0 c0] Try.func78 mixed (by kernel_rfl) h

abbrev bytes_Equal.n : Nat := 87
def bytes_Equal.Vc (o0 : Option Addr) (l0 c0 : Nat) (o1 : Option Addr) (l1 c1 : Nat) (w : World) (R : Ending → World → Prop) : Prop :=
 ∃ v2, Sem.run Try.prog (convert 22 9 (.slice o0 l0 c0)) w = .ok v2 w ∧
 ∃ s3, v2 = (.string s3) ∧
 ∃ v4, Sem.run Try.prog (convert 22 9 (.slice o1 l1 c1)) w = .ok v4 w ∧
 ∃ s5, v4 = (.string s5) ∧
 R (.returned (.bool (strB .eql s3 s5))) w
theorem bytes_Equal.vc (o0 l0 c0 o1 l1 c1 w R) (h : bytes_Equal.Vc o0 l0 c0 o1 l1 c1 w R) : Calls Try.prog 87 #[(.slice o0 l0 c0), (.slice o1 l1 c1)] w R := xs [] [.slice o0 l0 c0, .slice o1 l1 c1] Try.func87 mixed (by kernel_rfl) h

abbrev bytes_CutPrefix.n : Nat := 113
def bytes_CutPrefix.Vc (o0 : Option Addr) (l0 c0 : Nat) (o1 : Option Addr) (l1 c1 : Nat) (w : World) (R : Ending → World → Prop) : Prop :=
 Calls Try.prog 129 #[(.slice o0 l0 c0), (.slice o1 l1 c1)] w (fun e2 w3 =>
 ∃ b4, e2 = .returned (.bool b4) ∧
 (((b4 = false →
 R (.returned (.tuple #[(.slice o0 l0 c0), (.bool false)])) w3)) ∧
 ((b4 = true →
 ((0 : Int) ≤ ((l1 : Nat) : Int) ∧ ((l1 : Nat) : Int) ≤ ((l0 : Nat) : Int)) ∧
 R (.returned (.tuple #[(.slice (subO o0 c0 (Int.toNat ((l1 : Nat) : Int)) 1) (l0 - (Int.toNat ((l1 : Nat) : Int))) (c0 - (Int.toNat ((l1 : Nat) : Int)))), (.bool true)])) w3))))
theorem bytes_CutPrefix.vc (o0 l0 c0 o1 l1 c1 w R) (h : bytes_CutPrefix.Vc o0 l0 c0 o1 l1 c1 w R) : Calls Try.prog 113 #[(.slice o0 l0 c0), (.slice o1 l1 c1)] w R := xs [] [.slice o0 l0 c0, .slice o1 l1 c1] Try.func113 mixed (by kernel_rfl) h

abbrev bytes_HasPrefix.n : Nat := 129
def bytes_HasPrefix.Vc (o0 : Option Addr) (l0 c0 : Nat) (o1 : Option Addr) (l1 c1 : Nat) (w : World) (R : Ending → World → Prop) : Prop :=
 (((((l0 : Nat) : Int) ≥ ((l1 : Nat) : Int) →
 ((0 : Int) ≤ ((l1 : Nat) : Int) ∧ ((l1 : Nat) : Int) ≤ ((c0 : Nat) : Int)) ∧
 Calls Try.prog 87 #[(.slice o0 (Int.toNat ((l1 : Nat) : Int)) c0), (.slice o1 l1 c1)] w (fun e2 w3 =>
 ∃ b4, e2 = .returned (.bool b4) ∧
 R (.returned (.bool b4)) w3))) ∧
 ((¬ ((l0 : Nat) : Int) ≥ ((l1 : Nat) : Int) →
 R (.returned (.bool false)) w)))
theorem bytes_HasPrefix.vc (o0 l0 c0 o1 l1 c1 w R) (h : bytes_HasPrefix.Vc o0 l0 c0 o1 l1 c1 w R) : Calls Try.prog 129 #[(.slice o0 l0 c0), (.slice o1 l1 c1)] w R := xs [] [.slice o0 l0 c0, .slice o1 l1 c1] Try.func129 mixed (by kernel_rfl) h

abbrev rlp_Encode.n : Nat := 119
def rlp_Encode.Vc (b0 : Bool) (o1 : Option Addr) (l1 c1 : Nat) (o2 : Option Addr) (l2 c2 : Nat) (w : World) (R : Ending → World → Prop) : Prop :=
 ∀ d3 w4, IsNew w 138 #[(.bool b0), (.slice o1 l1 c1), (.slice o2 l2 c2)] d3 w4 →
 ∀ d5 w6, IsNew w4 231 #[(.int .i64 0)] d5 w6 →
 ∃ b7 o8 l9 l10 o11 l12 l13, World.cell? w6 d3 = some (.bool b7) ∧
 World.cell? w6 (Addr.add d3 1) = some (.slice o8 l9 l10) ∧
 World.cell? w6 (Addr.add d3 2) = some (.slice o11 l12 l13) ∧
 Calls Try.prog 135 #[(.pointer (some d5)), (.agg #[(.bool b7), (.slice o8 l9 l10), (.slice o11 l12 l13)]), (.int .i64 1)] w6 (fun e14 w15 =>
 ∃ n16 n17, e14 = .returned (.tuple #[(.int .i64 n16), (.int .i64 n17)]) ∧
 (((n17 ≠ 0 →
 R (.returned (.tuple #[(.slice none 0 0), (.int .i64 n17)])) w15)) ∧
 ((n17 = 0 →
 (((n16 > 65536 →
 R (.returned (.tuple #[(.slice none 0 0), (.int .i64 44)])) w15)) ∧
 ((¬ n16 > 65536 →
 ∃ b18 o19 l20 l21 o22 l23 l24, World.cell? w15 d3 = some (.bool b18) ∧
 World.cell? w15 (Addr.add d3 1) = some (.slice o19 l20 l21) ∧
 World.cell? w15 (Addr.add d3 2) = some (.slice o22 l23 l24) ∧
 Calls Try.prog 136 #[(.agg #[(.bool b18), (.slice o19 l20 l21), (.slice o22 l23 l24)])] w15 (fun e25 w26 =>
 ∃ o27 l28 l29, e25 = .returned (.slice o27 l28 l29) ∧
 R (.returned (.tuple #[(.slice o27 l28 l29), (.int .i64 0)])) w26))))))))
theorem rlp_Encode.vc (b0 o1 l1 c1 o2 l2 c2 w R) (h : rlp_Encode.Vc b0 o1 l1 c1 o2 l2 c2 w R) : Calls Try.prog 119 #[(.agg #[(.bool b0), (.slice o1 l1 c1), (.slice o2 l2 c2)])] w R := xs [] [.agg [.bool (.var b0), .slice o1 l1 c1, .slice o2 l2 c2]] Try.func119 mixed (by kernel_rfl) h

abbrev rlp_walker_size.n : Nat := 135
def rlp_walker_size.Vc (d0 : Addr) (b1 : Bool) (o2 : Option Addr) (l2 c2 : Nat) (o3 : Option Addr) (l3 c3 : Nat) (n4 : Int) (w : World) (R : Ending → World → Prop) : Prop :=
 ∀ d5 w6, IsNew w 138 #[(.bool b1), (.slice o2 l2 c2), (.slice o3 l3 c3)] d5 w6 →
 Calls Try.prog 141 #[(.pointer (some d0)), (.int .i64 n4)] w6 (fun e7 w8 =>
 ∃ n9, e7 = .returned (.int .i64 n9) ∧
 (((n9 ≠ 0 →
 R (.returned (.tuple #[(.int .i64 0), (.int .i64 n9)])) w8)) ∧
 ((n9 = 0 →
 ∃ (J10 : World → Prop), (∃ (J11 : Bool → World → Prop), (∃ b12, World.cell? w8 d5 = some (.bool b12) ∧
 (((b12 = true →
 ∃ o13 l14 l15, World.cell? w8 (Addr.add d5 1) = some (.slice o13 l14 l15) ∧
 (((((l14 : Nat) : Int) > 0 →
 J11 true w8)) ∧
 ((¬ ((l14 : Nat) : Int) > 0 →
 ∃ b16, World.cell? w8 d5 = some (.bool b16) ∧
 (((b16 = false →
 ∃ o17 l18 l19, World.cell? w8 (Addr.add d5 2) = some (.slice o17 l18 l19) ∧
 J11 (decide (((l18 : Nat) : Int) > 0)) w8)) ∧
 ((b16 = true →
 J11 false w8)))))))) ∧
 ((b12 = false →
 ∃ b20, World.cell? w8 d5 = some (.bool b20) ∧
 (((b20 = false →
 ∃ o21 l22 l23, World.cell? w8 (Addr.add d5 2) = some (.slice o21 l22 l23) ∧
 J11 (decide (((l22 : Nat) : Int) > 0)) w8)) ∧
 ((b20 = true →
 J11 false w8))))))) ∧
 (∀ (b24 : Bool) (j25 : Nat → Value) (w25 : World), J11 b24 w25 →
 (((b24 = true →
 R (.returned (.tuple #[(.int .i64 0), (.int .i64 40)])) w25)) ∧
 ((b24 = false →
 ∃ o26 l27 l28, World.cell? w25 (Addr.add d5 1) = some (.slice o26 l27 l28) ∧
 Calls Try.prog 142 #[(.slice o26 l27 l28)] w25 (fun e29 w30 =>
 ∃ b31, e29 = .returned (.bool b31) ∧
 (((b31 = true →
 R (.returned (.tuple #[(.int .i64 1), (.int .i64 0)])) w30)) ∧
 ((b31 = false →
 J10  w30))))))))) ∧
 (∀  (j32 : Nat → Value) (w32 : World), J10  w32 →
 ∃ o33 l34 l35, World.cell? w32 (Addr.add d5 1) = some (.slice o33 l34 l35) ∧
 ∃ o36 l37 l38, World.cell? w32 (Addr.add d5 2) = some (.slice o36 l37 l38) ∧
 ∃ (I39 : Int → Int → World → Prop) (μ39 : Int → Int → World → Nat), I39 ((l34 : Nat) : Int) 0 w32 ∧
 (∀ (n40 : Int) (n41 : Int) (j42 : Nat → Value) (w42 : World), I39 n40 n41 w42 →
 (((n41 < ((l37 : Nat) : Int) →
 ∃ d43, o36 = some d43 ∧
 ((0 : Int) ≤ n41 ∧ n41 < ((l37 : Nat) : Int)) ∧
 ∃ b44 o45 l46 l47 o48 l49 l50, World.cell? w42 (Addr.add d43 ((Int.toNat n41) * 3)) = some (.bool b44) ∧
 World.cell? w42 (Addr.add (Addr.add d43 ((Int.toNat n41) * 3)) 1) = some (.slice o45 l46 l47) ∧
 World.cell? w42 (Addr.add (Addr.add d43 ((Int.toNat n41) * 3)) 2) = some (.slice o48 l49 l50) ∧
 ∀ d51 w52, IsNew w42 138 #[(.bool false), (.slice none 0 0), (.slice none 0 0)] d51 w52 →
 CanSet w52 d51 (.bool b44) ∧ ∀ w53, IsSet w52 d51 (.bool b44) w53 →
 CanSet w53 (Addr.add d51 1) (.slice o45 l46 l47) ∧ ∀ w54, IsSet w53 (Addr.add d51 1) (.slice o45 l46 l47) w54 →
 CanSet w54 (Addr.add d51 2) (.slice o48 l49 l50) ∧ ∀ w55, IsSet w54 (Addr.add d51 2) (.slice o48 l49 l50) w55 →
 ∃ b56 o57 l58 l59 o60 l61 l62, World.cell? w55 d51 = some (.bool b56) ∧
 World.cell? w55 (Addr.add d51 1) = some (.slice o57 l58 l59) ∧
 World.cell? w55 (Addr.add d51 2) = some (.slice o60 l61 l62) ∧
 Calls Try.prog 135 #[(.pointer (some d0)), (.agg #[(.bool b56), (.slice o57 l58 l59), (.slice o60 l61 l62)]), (.int .i64 (IntKind.wrap .i64 (n4 + 1)))] w55 (fun e63 w64 =>
 ∃ n65 n66, e63 = .returned (.tuple #[(.int .i64 n65), (.int .i64 n66)]) ∧
 (((n66 ≠ 0 →
 R (.returned (.tuple #[(.int .i64 0), (.int .i64 n66)])) w64)) ∧
 ((n66 = 0 →
 I39 (IntKind.wrap .i64 (n40 + n65)) (IntKind.wrap .i64 (n41 + 1)) w64 ∧ μ39 (IntKind.wrap .i64 (n40 + n65)) (IntKind.wrap .i64 (n41 + 1)) w64 < μ39 n40 n41 w42)))))) ∧
 ((¬ n41 < ((l37 : Nat) : Int) →
 Calls Try.prog 143 #[(.int .i64 n40), (.int .i64 0)] w42 (fun e67 w68 =>
 ∃ o69 l70 l71, e67 = .returned (.slice o69 l70 l71) ∧
 R (.returned (.tuple #[(.int .i64 (IntKind.wrap .i64 (n40 + ((l70 : Nat) : Int)))), (.int .i64 0)])) w68))))))))))
theorem rlp_walker_size.vc (d0 b1 o2 l2 c2 o3 l3 c3 n4 w R) (h : rlp_walker_size.Vc d0 b1 o2 l2 c2 o3 l3 c3 n4 w R) : Calls Try.prog 135 #[(.pointer (some d0)), (.agg #[(.bool b1), (.slice o2 l2 c2), (.slice o3 l3 c3)]), (.int .i64 n4)] w R := xs [(1000009, []), (1000006, [(20, .cell (.bool))]), (11, [(9, .cell (.int .i64)), (48, .cell (.int .i64))])] [.addr d0, .agg [.bool (.var b1), .slice o2 l2 c2, .slice o3 l3 c3], .int .i64 n4] Try.func135 mixed (by kernel_rfl) h

abbrev rlp_put.n : Nat := 136
def rlp_put.Vc (b0 : Bool) (o1 : Option Addr) (l1 c1 : Nat) (o2 : Option Addr) (l2 c2 : Nat) (w : World) (R : Ending → World → Prop) : Prop :=
 ∀ d3 w4, IsNew w 138 #[(.bool b0), (.slice o1 l1 c1), (.slice o2 l2 c2)] d3 w4 →
 ∃ b5, World.cell? w4 d3 = some (.bool b5) ∧
 (((b5 = false →
 ∃ o6 l7 l8, World.cell? w4 (Addr.add d3 1) = some (.slice o6 l7 l8) ∧
 Calls Try.prog 142 #[(.slice o6 l7 l8)] w4 (fun e9 w10 =>
 ∃ b11, e9 = .returned (.bool b11) ∧
 (((b11 = true →
 ∃ o12 l13 l14, World.cell? w10 (Addr.add d3 1) = some (.slice o12 l13 l14) ∧
 Calls Try.prog 78 #[(.slice o12 l13 l14)] w10 (fun e15 w16 =>
 ∃ o17 l18 l19, e15 = .returned (.slice o17 l18 l19) ∧
 R (.returned (.slice o17 l18 l19)) w16))) ∧
 ((b11 = false →
 ∀ w20, IsDrew w10 w20 →
 ∃ o21 l22 l23, World.cell? w20 (Addr.add d3 1) = some (.slice o21 l22 l23) ∧
 ∃ o24 l25 l26, World.cell? w20 (Addr.add d3 1) = some (.slice o24 l25 l26) ∧
 Calls Try.prog 143 #[(.int .i64 ((l22 : Nat) : Int)), (.int .i64 128)] w20 (fun e27 w28 =>
 ∃ o29 l30 l31, e27 = .returned (.slice o29 l30 l31) ∧
 World.cell? w28 (Addr.add d3 1) = some (.slice o24 l25 l26) ∧
 ∃ v32 w33, Sem.run Try.prog (builtinV .append #[22, 22] 22 #[(.slice o29 l30 l31), (.slice o24 l25 l26)]) w28 = .ok v32 w33 ∧
 ∃ o34 l35 l36, v32 = (.slice o34 l35 l36) ∧
 R (.returned (.slice o34 l35 l36)) w33))))))) ∧
 ((b5 = true →
 ∃ o37 l38 l39, World.cell? w4 (Addr.add d3 2) = some (.slice o37 l38 l39) ∧
 ∃ (I40 : Option Addr → Nat → Nat → Int → World → Prop) (μ40 : Option Addr → Nat → Nat → Int → World → Nat), I40 none 0 0 0 w4 ∧
 (∀ (o41 : Option Addr) (l41 : Nat) (c41 : Nat) (n42 : Int) (j43 : Nat → Value) (w43 : World), I40 o41 l41 c41 n42 w43 →
 (((n42 < ((l38 : Nat) : Int) →
 ∃ d44, o37 = some d44 ∧
 ((0 : Int) ≤ n42 ∧ n42 < ((l38 : Nat) : Int)) ∧
 ∃ b45 o46 l47 l48 o49 l50 l51, World.cell? w43 (Addr.add d44 ((Int.toNat n42) * 3)) = some (.bool b45) ∧
 World.cell? w43 (Addr.add (Addr.add d44 ((Int.toNat n42) * 3)) 1) = some (.slice o46 l47 l48) ∧
 World.cell? w43 (Addr.add (Addr.add d44 ((Int.toNat n42) * 3)) 2) = some (.slice o49 l50 l51) ∧
 ∀ d52 w53, IsNew w43 138 #[(.bool false), (.slice none 0 0), (.slice none 0 0)] d52 w53 →
 CanSet w53 d52 (.bool b45) ∧ ∀ w54, IsSet w53 d52 (.bool b45) w54 →
 CanSet w54 (Addr.add d52 1) (.slice o46 l47 l48) ∧ ∀ w55, IsSet w54 (Addr.add d52 1) (.slice o46 l47 l48) w55 →
 CanSet w55 (Addr.add d52 2) (.slice o49 l50 l51) ∧ ∀ w56, IsSet w55 (Addr.add d52 2) (.slice o49 l50 l51) w56 →
 ∃ b57 o58 l59 l60 o61 l62 l63, World.cell? w56 d52 = some (.bool b57) ∧
 World.cell? w56 (Addr.add d52 1) = some (.slice o58 l59 l60) ∧
 World.cell? w56 (Addr.add d52 2) = some (.slice o61 l62 l63) ∧
 Calls Try.prog 136 #[(.agg #[(.bool b57), (.slice o58 l59 l60), (.slice o61 l62 l63)])] w56 (fun e64 w65 =>
 ∃ o66 l67 l68, e64 = .returned (.slice o66 l67 l68) ∧
 ∃ v69 w70, Sem.run Try.prog (builtinV .append #[22, 22] 22 #[(.slice o41 l41 c41), (.slice o66 l67 l68)]) w65 = .ok v69 w70 ∧
 ∃ o71 l72 l73, v69 = (.slice o71 l72 l73) ∧
 I40 o71 l72 l73 (IntKind.wrap .i64 (n42 + 1)) w70 ∧ μ40 o71 l72 l73 (IntKind.wrap .i64 (n42 + 1)) w70 < μ40 o41 l41 c41 n42 w43))) ∧
 ((¬ n42 < ((l38 : Nat) : Int) →
 Calls Try.prog 143 #[(.int .i64 ((l41 : Nat) : Int)), (.int .i64 192)] w43 (fun e74 w75 =>
 ∃ o76 l77 l78, e74 = .returned (.slice o76 l77 l78) ∧
 ∃ v79 w80, Sem.run Try.prog (builtinV .append #[22, 22] 22 #[(.slice o76 l77 l78), (.slice o41 l41 c41)]) w75 = .ok v79 w80 ∧
 ∃ o81 l82 l83, v79 = (.slice o81 l82 l83) ∧
 R (.returned (.slice o81 l82 l83)) w80))))))))
theorem rlp_put.vc (b0 o1 l1 c1 o2 l2 c2 w R) (h : rlp_put.Vc b0 o1 l1 c1 o2 l2 c2 w R) : Calls Try.prog 136 #[(.agg #[(.bool b0), (.slice o1 l1 c1), (.slice o2 l2 c2)])] w R := xs [(7, [(3, .cell (.slice)), (25, .cell (.int .i64))])] [.agg [.bool (.var b0), .slice o1 l1 c1, .slice o2 l2 c2]] Try.func136 mixed (by kernel_rfl) h

abbrev rlp_walker_meets.n : Nat := 141
def rlp_walker_meets.Vc (d0 : Addr) (n1 : Int) (w : World) (R : Ending → World → Prop) : Prop :=
 (((n1 > 16 →
 R (.returned (.int .i64 43)) w)) ∧
 ((¬ n1 > 16 →
 ∃ n2, World.cell? w d0 = some (.int .i64 n2) ∧
 (((n2 = 4096 →
 R (.returned (.int .i64 43)) w)) ∧
 ((n2 ≠ 4096 →
 ∃ n3, World.cell? w d0 = some (.int .i64 n3) ∧
 CanSet w d0 (.int .i64 (IntKind.wrap .i64 (n3 + 1))) ∧ ∀ w4, IsSet w d0 (.int .i64 (IntKind.wrap .i64 (n3 + 1))) w4 →
 R (.returned (.int .i64 0)) w4))))))
theorem rlp_walker_meets.vc (d0 n1 w R) (h : rlp_walker_meets.Vc d0 n1 w R) : Calls Try.prog 141 #[(.pointer (some d0)), (.int .i64 n1)] w R := xs [] [.addr d0, .int .i64 n1] Try.func141 mixed (by kernel_rfl) h

abbrev rlp_own.n : Nat := 142
def rlp_own.Vc (o0 : Option Addr) (l0 c0 : Nat) (w : World) (R : Ending → World → Prop) : Prop :=
 (((((l0 : Nat) : Int) = 1 →
 ∃ d1, o0 = some d1 ∧
 ((0 : Int) ≤ 0 ∧ 0 < ((l0 : Nat) : Int)) ∧
 ∃ n2, World.cell? w (Addr.add d1 0) = some (.int .u8 n2) ∧
 R (.returned (.bool (decide (n2 < 128)))) w)) ∧
 ((((l0 : Nat) : Int) ≠ 1 →
 R (.returned (.bool false)) w)))
theorem rlp_own.vc (o0 l0 c0 w R) (h : rlp_own.Vc o0 l0 c0 w R) : Calls Try.prog 142 #[(.slice o0 l0 c0)] w R := xs [] [.slice o0 l0 c0] Try.func142 mixed (by kernel_rfl) h

abbrev rlp_head.n : Nat := 143
def rlp_head.Vc (n0 n1 : Int) (w : World) (R : Ending → World → Prop) : Prop :=
 (((n0 ≤ 55 →
 ∀ d2 w3, IsNew w 5 #[(.int .u8 (IntKind.wrap .u8 (IntKind.wrap .i64 (n1 + n0))))] d2 w3 →
 R (.returned (.slice (some d2) 1 1)) w3)) ∧
 ((¬ n0 ≤ 55 →
 Calls Try.prog 145 #[(.int .u64 (IntKind.wrap .u64 n0))] w (fun e4 w5 =>
 ∃ o6 l7 l8, e4 = .returned (.slice o6 l7 l8) ∧
 ∀ d9 w10, IsNew w5 5 #[(.int .u8 (IntKind.wrap .u8 (IntKind.wrap .i64 ((IntKind.wrap .i64 (n1 + 55)) + ((l7 : Nat) : Int)))))] d9 w10 →
 ∃ v11 w12, Sem.run Try.prog (builtinV .append #[22, 22] 22 #[(.slice (some d9) 1 1), (.slice o6 l7 l8)]) w10 = .ok v11 w12 ∧
 ∃ o13 l14 l15, v11 = (.slice o13 l14 l15) ∧
 R (.returned (.slice o13 l14 l15)) w12))))
theorem rlp_head.vc (n0 n1 w R) (h : rlp_head.Vc n0 n1 w R) : Calls Try.prog 143 #[(.int .i64 n0), (.int .i64 n1)] w R := xs [] [.int .i64 n0, .int .i64 n1] Try.func143 mixed (by kernel_rfl) h

abbrev rlp_digits.n : Nat := 145
def rlp_digits.Vc (n0 : Int) (w : World) (R : Ending → World → Prop) : Prop :=
 ∃ (I1 : Int → Option Addr → Nat → Nat → World → Prop) (μ1 : Int → Option Addr → Nat → Nat → World → Nat), I1 n0 none 0 0 w ∧
 (∀ (n2 : Int) (o3 : Option Addr) (l3 : Nat) (c3 : Nat) (j4 : Nat → Value) (w4 : World), I1 n2 o3 l3 c3 w4 →
 (((n2 > 0 →
 ∀ d5 w6, IsNew w4 5 #[(.int .u8 (IntKind.wrap .u8 n2))] d5 w6 →
 ∃ v7 w8, Sem.run Try.prog (builtinV .append #[22, 22] 22 #[(.slice (some d5) 1 1), (.slice o3 l3 c3)]) w6 = .ok v7 w8 ∧
 ∃ o9 l10 l11, v7 = (.slice o9 l10 l11) ∧
 I1 (Int.fdiv n2 256) o9 l10 l11 w8 ∧ μ1 (Int.fdiv n2 256) o9 l10 l11 w8 < μ1 n2 o3 l3 c3 w4)) ∧
 ((¬ n2 > 0 →
 R (.returned (.slice o3 l3 c3)) w4))))
theorem rlp_digits.vc (n0 w R) (h : rlp_digits.Vc n0 w R) : Calls Try.prog 145 #[(.int .u64 n0)] w R := xs [(2, [(0, .cell (.int .u64)), (3, .cell (.slice))])] [.int .u64 n0] Try.func145 mixed (by kernel_rfl) h

end Go.Proofs.Ytfghidehlnfdiaa
end
