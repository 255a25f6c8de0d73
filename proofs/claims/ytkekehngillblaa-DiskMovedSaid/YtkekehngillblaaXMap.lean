/- Maps: what a map's block holds, read, written, gone through. -/
import Derived.Test.YtkekehngillblaaXClr
import Derived.Maps.Range
import Derived.DeepKeys4
import Derived.StringKeys
namespace Go.Vcg
open Go.ChangeMaps (setBlock)
open Go.Maps (Keyed)
open Go.MapKept

section
variable {K : Type} [DecidableEq K] {V : Type}
def assoc (k : K) : List (K × V) → Option V
  | [] => none
  | x :: r => if x.1 = k then some x.2 else assoc k r
def upd (k : K) (v : V) : List (K × V) → List (K × V)
  | [] => [(k, v)]
  | x :: r => if x.1 = k then (k, v) :: r else x :: upd k v r
def del (k : K) : List (K × V) → List (K × V)
  | [] => []
  | x :: r => if x.1 = k then r else x :: del k r
theorem assoc_none {k : K} : ∀ {es : List (K × V)}, (∀ x ∈ es, x.1 ≠ k) → assoc k es = none
  | [], _ => rfl
  | x :: r, h => by
    rw [assoc, if_neg (h x (List.mem_cons_self ..)), assoc_none (fun y hy => h y (List.mem_cons_of_mem _ hy))]
theorem upd_none {k : K} {v : V} : ∀ {es : List (K × V)}, (∀ x ∈ es, x.1 ≠ k) → upd k v es = es ++ [(k, v)]
  | [], _ => rfl
  | x :: r, h => by
    rw [upd, if_neg (h x (List.mem_cons_self ..)), upd_none (fun y hy => h y (List.mem_cons_of_mem _ hy))]; rfl
theorem del_none {k : K} : ∀ {es : List (K × V)}, (∀ x ∈ es, x.1 ≠ k) → del k es = es
  | [], _ => rfl
  | x :: r, h => by
    rw [del, if_neg (h x (List.mem_cons_self ..)), del_none (fun y hy => h y (List.mem_cons_of_mem _ hy))]
theorem assoc_at {k : K} : ∀ {es : List (K × V)} {j : Nat} {x : K × V}, (es.map Prod.fst).Nodup → es[j]? = some x → x.1 = k → assoc k es = some x.2
  | [], _, _, _, h, _ => by simp at h
  | y :: r, 0, x, _, h, hk => by simp at h; subst h; rw [assoc, if_pos hk]
  | y :: r, j + 1, x, hn, h, hk => by
    rw [List.getElem?_cons_succ] at h
    have hne : y.1 ≠ k := by
      rintro rfl
      exact (List.nodup_cons.1 hn).1 (hk ▸ List.mem_map_of_mem (List.mem_of_getElem? h))
    rw [assoc, if_neg hne, assoc_at (List.nodup_cons.1 hn).2 h hk]
theorem upd_at {k : K} {v : V} : ∀ {es : List (K × V)} {j : Nat} {x : K × V}, (es.map Prod.fst).Nodup → es[j]? = some x → x.1 = k → upd k v es = es.set j (k, v)
  | [], _, _, _, h, _ => by simp at h
  | y :: r, 0, x, _, h, hk => by simp at h; subst h; rw [upd, if_pos hk]; rfl
  | y :: r, j + 1, x, hn, h, hk => by
    rw [List.getElem?_cons_succ] at h
    have hne : y.1 ≠ k := by
      rintro rfl
      exact (List.nodup_cons.1 hn).1 (hk ▸ List.mem_map_of_mem (List.mem_of_getElem? h))
    rw [upd, if_neg hne, upd_at (List.nodup_cons.1 hn).2 h hk]; rfl
theorem del_at {k : K} : ∀ {es : List (K × V)} {j : Nat} {x : K × V}, (es.map Prod.fst).Nodup → es[j]? = some x → x.1 = k → del k es = es.eraseIdx j
  | [], _, _, _, h, _ => by simp at h
  | y :: r, 0, x, _, h, hk => by simp at h; subst h; rw [del, if_pos hk]; rfl
  | y :: r, j + 1, x, hn, h, hk => by
    rw [List.getElem?_cons_succ] at h
    have hne : y.1 ≠ k := by
      rintro rfl
      exact (List.nodup_cons.1 hn).1 (hk ▸ List.mem_map_of_mem (List.mem_of_getElem? h))
    rw [del, if_neg hne, del_at (List.nodup_cons.1 hn).2 h hk]; rfl
end

section
variable {K : Type} {P : Program} {kt : TypeId} {enc : K → Value}

theorem perm_erase {α : Type} : ∀ (l : List α) (j : Nat) (h : j < l.length), l.Perm (l[j] :: l.eraseIdx j)
  | a :: l, 0, _ => by simp
  | a :: l, j + 1, h => by
    simp only [List.getElem_cons_succ, List.eraseIdx_cons_succ]
    exact ((perm_erase l j (by simpa using h)).cons a).trans (List.Perm.swap _ _ _)
/-- How keys are values: 'good' ones read as keys. -/
structure KeyEnc (P : Program) (kt : TypeId) (enc : K → Value) (good : K → Prop) : Prop where
  keyed : Keyed P kt
  ok : ∀ k, good k → ∃ l, keyOf P kt (enc k) = some l
  inj : ∀ a b, enc a = enc b → a = b

def dec (enc : K → Value) (x : K × Value) : Value × Value := (enc x.1, x.2)
def cellE (e : MapEntry) : Value × Value := (e.key, e.val)

/-- Block m is a map with these entries. -/
def MapAt (good : K → Prop) (enc : K → Value) (w : World) (m : Nat) (es : List (K × Value)) : Prop :=
  ∃ (A : Array MapEntry) (clock : Nat), w.heap[m]? = some (.map A clock) ∧ Stamped A clock ∧ A.toList.map cellE = es.map (dec enc) ∧ ∀ x ∈ es, good x.1

variable {good : K → Prop} {w w' : World} {m : Nat} {es : List (K × Value)}
theorem MapAt.lt (h : MapAt good enc w m es) : m < w.heap.size := by
  obtain ⟨A, clock, hb, _⟩ := h
  exact (Array.getElem?_eq_some_iff.1 hb).1
theorem MapAt.same (h : MapAt good enc w m es) (hb : w'.heap[m]? = w.heap[m]?) : MapAt good enc w' m es := by
  obtain ⟨A, clock, h1, h2⟩ := h
  exact ⟨A, clock, hb.trans h1, h2⟩
theorem MapAt.made (w : World) : MapAt good enc (w.alloc (.map #[] 0)) w.heap.size ([] : List (K × Value)) :=
  ⟨#[], 0, heap_alloc_new w _, stamped_empty 0, rfl, fun _ h => by cases h⟩
theorem MapAt.goods (h : MapAt good enc w m es) : ∀ x ∈ es, good x.1 := by
  obtain ⟨A, clock, _, _, _, h⟩ := h; exact h
theorem MapAt.nodup (h : MapAt good enc w m es) : (es.map Prod.fst).Nodup := by
  obtain ⟨A, clock, _, hs, he, _⟩ := h
  have h1 : (A.toList.map (·.key)) = (es.map Prod.fst).map enc := by
    have := congrArg (List.map Prod.fst) he
    simpa [cellE, dec, Function.comp_def] using this
  have h2 := hs.2.2
  rw [h1] at h2
  generalize es.map Prod.fst = l at h2
  clear h1
  induction l with
  | nil => exact List.nodup_nil
  | cons a l ih =>
    rw [List.map_cons, List.nodup_cons] at h2
    rw [List.nodup_cons]
    exact ⟨fun h => h2.1 (List.mem_map_of_mem h), ih h2.2⟩

private theorem find_split (E : KeyEnc P kt enc good) (w : World) {A : Array MapEntry} {k : K} (hk : good k) (he : A.toList.map cellE = es.map (dec enc)) (hg : ∀ x ∈ es, good x.1) :
    ((Instr.findKey kt (enc k) A.toList).run P w = .ok none w ∧ (∀ x ∈ es, x.1 ≠ k) ∧ ∀ e ∈ A.toList, e.key ≠ enc k) ∨
    ∃ j e v, (Instr.findKey kt (enc k) A.toList).run P w = .ok (some (j, v)) w ∧ A.toList[j]? = some e ∧ e.key = enc k ∧ e.val = v ∧ es[j]? = some (k, v) := by
  obtain ⟨lk, hl⟩ := E.ok k hk
  have hall : ∀ e ∈ A.toList, ∃ l, keyOf P kt e.key = some l := fun e hm => by
    have : cellE e ∈ es.map (dec enc) := he ▸ List.mem_map_of_mem hm
    obtain ⟨x, hx, hxe⟩ := List.mem_map.1 this
    have h1 : e.key = enc x.1 := (congrArg Prod.fst hxe).symm
    rw [h1]; exact E.ok _ (hg x hx)
  rcases E.keyed.find w hl A.toList hall with ⟨h1, h2⟩ | ⟨j, e, h1, h2, h3⟩
  · refine .inl ⟨h1, fun x hx hxk => ?_, h2⟩
    have : dec enc x ∈ A.toList.map cellE := he ▸ List.mem_map_of_mem hx
    obtain ⟨e, hm, hee⟩ := List.mem_map.1 this
    exact h2 e hm (by rw [show e.key = enc x.1 from congrArg Prod.fst hee, hxk])
  · refine .inr ⟨j, e, e.val, h1, h2, h3, rfl, ?_⟩
    have h4 : (es.map (dec enc))[j]? = some (cellE e) := by rw [← he, List.getElem?_map, h2]; rfl
    rw [List.getElem?_map, Option.map_eq_some_iff] at h4
    obtain ⟨x, hx, hxe⟩ := h4
    have e1 : enc x.1 = enc k := (congrArg Prod.fst hxe).trans h3
    have e2 : x.2 = e.val := congrArg Prod.snd hxe
    rw [hx, ← E.inj _ _ e1, ← e2]

theorem MapAt.check (E : KeyEnc P kt enc good) {k : K} (hk : good k) (em : Bool) (w : World) : (Instr.checkKey em 10000 kt (enc k)).run P w = .ok () w := by
  obtain ⟨lk, hl⟩ := E.ok k hk
  exact E.keyed.check w em hl

theorem MapAt.look [DecidableEq K] (h : MapAt good enc w m es) (E : KeyEnc P kt enc good) {t e : TypeId} (ht : P.underlying t = some (.map kt e)) {z : Value} (hz : (zeroValue e).run P w = .ok z w) {k : K} (hk : good k) (c : Bool) :
    (Instr.lookup t (.map (some m)) (enc k) c).run P w = .ok (if c then .tuple #[(assoc k es).getD z, .bool (assoc k es).isSome] else (assoc k es).getD z) w := by
  have hn := h.nodup
  obtain ⟨A, clock, hb, hs, he, hg⟩ := h
  rcases find_split E w hk he hg with ⟨h1, h2, _⟩ | ⟨j, e0, v, h1, h2, h3, h4, h5⟩
  · rw [assoc_none h2]
    simp [Instr.lookup, run_underlying ht, MapKept.run_getObj_map hb, MapAt.check E hk, h1, hz, Result.andThen]
  · rw [assoc_at hn h5 rfl]
    simp [Instr.lookup, run_underlying ht, MapKept.run_getObj_map hb, MapAt.check E hk, h1, Result.andThen]

theorem MapAt.update [DecidableEq K] (h : MapAt good enc w m es) (E : KeyEnc P kt enc good) {t e : TypeId} (ht : P.underlying t = some (.map kt e)) {k : K} (hk : good k) (v : Value) :
    ∃ w', (Instr.mapUpdate t (.map (some m)) (enc k) v).run P w = .ok () w' ∧ MapAt good enc w' m (upd k v es) ∧ Mod (· = m) w w' := by
  have hn := h.nodup
  obtain ⟨A, clock, hb, hs, he, hg⟩ := h
  have hmod : ∀ o, Mod (· = m) w (setBlock w m o) := fun o => ⟨rfl, rfl, rfl, by simp [setBlock], fun k _ hk => (heap_set hb).2 k hk⟩
  rcases find_split E w hk he hg with ⟨h1, h2, h2'⟩ | ⟨j, e0, v0, h1, h2, h3, h4, h5⟩
  · refine ⟨setBlock w m (.map (A.push ⟨enc k, v, clock⟩) (clock + 1)), ?_, ⟨_, _, (heap_set hb).1, stamped_push hs h2', ?_, ?_⟩, hmod _⟩
    · simp [Instr.mapUpdate, run_underlying ht, MapKept.run_getObj_map hb, MapAt.check E hk, h1, MapKept.run_setObj_map _ hb, Result.andThen, setBlock]
    · rw [upd_none h2, Array.toList_push, List.map_append, List.map_append, he]; rfl
    · rw [upd_none h2]
      intro x hx
      rcases List.mem_append.1 hx with hx | hx
      · exact hg x hx
      · simp at hx; subst hx; exact hk
  · obtain ⟨lk, hl⟩ := E.ok k hk
    have hj : j < A.size := by simpa using (List.getElem?_eq_some_iff.1 h2).1
    have hA : A[j]? = some e0 := by simpa using h2
    refine ⟨setBlock w m (.map (A.modify j fun e => { e with key := enc k, val := v }) clock), ?_, ⟨_, _, (heap_set hb).1, stamped_modify hs j _ (fun _ _ => rfl) (fun e hm hej => ?_), ?_, ?_⟩, hmod _⟩
    · have hst := E.keyed.stays w hl
      simp [Instr.mapUpdate, run_underlying ht, MapKept.run_getObj_map hb, MapAt.check E hk, h1, hA, h3, hst, MapKept.run_setObj_map _ hb, Result.andThen, setBlock]
    · rw [hA] at hej
      cases hej
      exact h3.symm
    · rw [upd_at hn h5 rfl]
      apply List.ext_getElem?
      intro i
      have hi : (A.toList.map cellE)[i]? = (es.map (dec enc))[i]? := by rw [he]
      rw [List.getElem?_map, List.getElem?_map] at hi
      rw [List.getElem?_map, List.getElem?_map, Array.getElem?_toList, Array.getElem?_modify, List.getElem?_set]
      rw [Array.getElem?_toList] at hi
      by_cases hij : j = i
      · subst hij
        rw [if_pos rfl, if_pos rfl, if_pos (by have := (List.getElem?_eq_some_iff.1 h5).1; exact this), hA]
        rfl
      · rw [if_neg hij, if_neg hij, hi]
    · rw [upd_at hn h5 rfl]
      intro x hx
      rcases List.mem_or_eq_of_mem_set hx with hx | rfl
      · exact hg x hx
      · exact hk

theorem MapAt.delete [DecidableEq K] (h : MapAt good enc w m es) (E : KeyEnc P kt enc good) {t e ty : TypeId} (ht : P.underlying t = some (.map kt e)) {k : K} (hk : good k) :
    ∃ w', (builtinV .delete #[t, kt] ty #[.map (some m), enc k]).run P w = .ok (.tuple #[]) w' ∧ MapAt good enc w' m (del k es) ∧ Mod (· = m) w w' := by
  have hn := h.nodup
  obtain ⟨A, clock, hb, hs, he, hg⟩ := h
  have hmod : ∀ o, Mod (· = m) w (setBlock w m o) := fun o => ⟨rfl, rfl, rfl, by simp [setBlock], fun k _ hk => (heap_set hb).2 k hk⟩
  rcases find_split E w hk he hg with ⟨h1, h2, h2'⟩ | ⟨j, e0, v0, h1, h2, h3, h4, h5⟩
  · refine ⟨setBlock w m (.map A clock), ?_, ⟨_, _, (heap_set hb).1, hs, ?_, ?_⟩, hmod _⟩
    · simp [builtinV, Builtin.delete_, run_underlying ht, MapKept.run_getObj_map hb, MapAt.check E hk, h1, MapKept.run_setObj_map _ hb, Result.andThen, setBlock]
    · rw [del_none h2]; exact he
    · rw [del_none h2]; exact hg
  · have hj : j < A.size := by simpa using (List.getElem?_eq_some_iff.1 h2).1
    have hsub : (A.eraseIdxIfInBounds j).toList = A.toList.eraseIdx j := by
      unfold Array.eraseIdxIfInBounds
      rw [dif_pos hj]
      simp
    have hme : ∀ {α β : Type} (f : α → β) (l : List α) (i : Nat), (l.eraseIdx i).map f = (l.map f).eraseIdx i := by
      intro α β f l
      induction l with
      | nil => intro i; simp
      | cons a l ih => intro i; cases i <;> simp [ih]
    refine ⟨setBlock w m (.map (A.eraseIdxIfInBounds j) clock), ?_, ⟨_, _, (heap_set hb).1, stamped_erase hs j, ?_, ?_⟩, hmod _⟩
    · simp [builtinV, Builtin.delete_, run_underlying ht, MapKept.run_getObj_map hb, MapAt.check E hk, h1, MapKept.run_setObj_map _ hb, Result.andThen, setBlock]
    · rw [del_at hn h5 rfl, hsub, hme, hme, he]
    · rw [del_at hn h5 rfl]
      exact fun x hx => hg x ((List.eraseIdx_sublist _ _).subset hx)

/-- Block i goes through the map of block m; these are left. -/
def IterAt (enc : K → Value) (w : World) (i m : Nat) (todo : List (K × Value)) : Prop :=
  ∃ (A : Array MapEntry) (clock : Nat) (seen : Array Nat), w.heap[m]? = some (.map A clock) ∧ Stamped A clock ∧ w.heap[i]? = some (.mapIter (some m) clock seen clock) ∧
    (leftOf A seen).toList.map cellE = todo.map (dec enc)
variable {i : Nat} {todo : List (K × Value)}
theorem IterAt.same (h : IterAt enc w i m todo) (hm : w'.heap[m]? = w.heap[m]?) (hi : w'.heap[i]? = w.heap[i]?) : IterAt enc w' i m todo := by
  obtain ⟨A, clock, seen, h1, h2, h3, h4⟩ := h
  exact ⟨A, clock, seen, hm.trans h1, h2, hi.trans h3, h4⟩
theorem IterAt.lt (h : IterAt enc w i m todo) : m < w.heap.size ∧ i < w.heap.size := by
  obtain ⟨A, clock, seen, h1, h2, h3, h4⟩ := h
  exact ⟨(Array.getElem?_eq_some_iff.1 h1).1, (Array.getElem?_eq_some_iff.1 h3).1⟩
/-- How many are left, told by the world. -/
def leftN (w : World) (m i : Nat) : Nat := match w.heap[m]?, w.heap[i]? with
  | some (.map A _), some (.mapIter _ _ seen _) => (leftOf A seen).size
  | _, _ => 0
theorem IterAt.left (h : IterAt enc w i m todo) : leftN w m i = todo.length := by
  obtain ⟨A, clock, seen, h1, h2, h3, h4⟩ := h
  simp only [leftN, h1, h3]
  have := congrArg List.length h4
  simpa using this
theorem MapAt.range (h : MapAt good enc w m es) {t e : TypeId} (ht : P.underlying t = some (.map kt e)) :
    ∃ o, (Instr.range t (.map (some m))).run P w = .ok (.pointer (some ⟨w.heap.size, 0, none⟩)) (w.alloc o) ∧ IterAt enc (w.alloc o) w.heap.size m es := by
  have hlt := h.lt
  obtain ⟨A, clock, hb, hs, he, hg⟩ := h
  refine ⟨.mapIter (some m) clock #[] clock, by simp [Instr.range, run_underlying ht, MapKept.run_getObj_map hb, Result.andThen], A, clock, #[], ?_, hs, heap_alloc_new w _, ?_⟩
  · rw [heap_alloc_old w _ hlt, hb]
  · have : leftOf A #[] = A := Array.filter_eq_self.2 (fun x _ => by simp)
    rw [this, he]
theorem IterAt.next (h : IterAt enc w i m todo) (ty : TypeId) :
    (todo = [] ∧ (Instr.next (.pointer (some ⟨i, 0, none⟩)) false ty).run P w = .ok (.tuple #[.bool false]) w) ∨
    ∃ k v todo' w', todo.Perm ((k, v) :: todo') ∧ (Instr.next (.pointer (some ⟨i, 0, none⟩)) false ty).run P w = .ok (.tuple #[.bool true, enc k, v]) w' ∧ IterAt enc w' i m todo' ∧ Mod (· = i) w w' ∧
      (Instr.entry (.pointer (some ⟨i, 0, none⟩))).run P w' = .ok (.tuple #[enc k, v]) w' := by
  obtain ⟨A, clock, seen, hb, hs, hr, ht⟩ := h
  have hs' := (stamped_iff A clock).1 hs
  rcases run_next_at (P := P) w ty i m clock clock seen A clock hr hb hs'.1 (Nat.le_refl _) with ⟨h0, hrun⟩ | ⟨e, he, w1, hal, hrun⟩
  · refine .inl ⟨?_, hrun⟩
    have : (leftOf A seen).toList = [] := by
      rw [← Array.length_toList] at h0
      exact List.eq_nil_of_length_eq_zero h0
    rw [this] at ht
    cases todo with
    | nil => rfl
    | cons _ _ => simp at ht
  · right
    obtain ⟨hem, hes⟩ := mem_left he
    have hne : m ≠ i := by rintro rfl; rw [hb] at hr; cases hr
    have hr1 : w1.heap[i]? = some (.mapIter (some m) clock seen clock) := by rcases hal with rfl | rfl <;> exact hr
    have hb1 : w1.heap[m]? = some (.map A clock) := by rcases hal with rfl | rfl <;> exact hb
    have hset := heap_set (o' := .mapIter (some m) clock (seen.push e.born) clock) hr1
    have hb' : (setBlock w1 i (.mapIter (some m) clock (seen.push e.born) clock)).heap[m]? = some (.map A clock) := (hset.2 m hne).trans hb1
    -- the one that came out
    obtain ⟨j, hj, hje⟩ := List.getElem_of_mem he
    have hjm : (todo.map (dec enc))[j]? = some (cellE e) := by rw [← ht, List.getElem?_map, List.getElem?_eq_getElem hj, hje]; rfl
    rw [List.getElem?_map, Option.map_eq_some_iff] at hjm
    obtain ⟨x, hx, hxe⟩ := hjm
    have e1 : enc x.1 = e.key := congrArg Prod.fst hxe
    have e2 : x.2 = e.val := congrArg Prod.snd hxe
    have hleft : (leftOf A (seen.push e.born)).toList = (leftOf A seen).toList.eraseIdx j := by
      have hnd : ((leftOf A seen).toList.map (·.born)).Nodup := by
        unfold leftOf
        rw [Array.toList_filter]
        exact (hs'.2.1).sublist ((List.filter_sublist).map _)
      have hf : (leftOf A (seen.push e.born)).toList = (leftOf A seen).toList.filter (fun y => !(y.born == e.born)) := by
        unfold leftOf
        rw [Array.toList_filter, Array.toList_filter, List.filter_filter]
        refine List.filter_congr fun y _ => ?_
        rw [contains_push]
        cases seen.contains y.born <;> cases (y.born == e.born) <;> rfl
      rw [hf]
      have key : ∀ (L : List MapEntry) (j : Nat) (hj : j < L.length), (L.map (·.born)).Nodup → L.filter (fun y => !(y.born == L[j].born)) = L.eraseIdx j := by
        intro L
        induction L with
        | nil => intro j hj; simp at hj
        | cons a L ih =>
          intro j hj hnd
          rw [List.map_cons, List.nodup_cons] at hnd
          cases j with
          | zero =>
            simp only [List.getElem_cons_zero, List.eraseIdx_zero, List.tail_cons, List.filter_cons, beq_self_eq_true, Bool.not_true, Bool.false_eq_true, if_false]
            refine List.filter_eq_self.2 fun y hy => ?_
            have hne : y.born ≠ a.born := fun h => hnd.1 (List.mem_map.2 ⟨y, hy, h⟩)
            simpa using hne
          | succ j =>
            have hj' : j < L.length := by simpa using hj
            have hne : a.born ≠ L[j].born := fun h => hnd.1 (List.mem_map.2 ⟨L[j], List.getElem_mem hj', h.symm⟩)
            have hb : (!(a.born == L[j].born)) = true := by simpa using hne
            simp only [List.getElem_cons_succ, List.eraseIdx_cons_succ, List.filter_cons, hb, if_true]
            rw [ih j hj' hnd.2]
      have := key _ j hj hnd
      rw [hje] at this
      exact this
    have hxt : j < todo.length := (List.getElem?_eq_some_iff.1 hx).1
    have hme : ∀ {α β : Type} (f : α → β) (l : List α) (i : Nat), (l.eraseIdx i).map f = (l.map f).eraseIdx i := by
      intro α β f l
      induction l with
      | nil => intro i; simp
      | cons a l ih => intro i; cases i <;> simp [ih]
    refine ⟨x.1, x.2, todo.eraseIdx j, setBlock w1 i (.mapIter (some m) clock (seen.push e.born) clock), ?_, ?_, ⟨A, clock, seen.push e.born, hb', hs, hset.1, ?_⟩, ?_, ?_⟩
    · have hx' : todo[j] = x := (List.getElem?_eq_some_iff.1 hx).2
      have := perm_erase todo j hxt
      rw [hx'] at this
      exact this
    · rw [e1, e2]; exact hrun
    · rw [hleft, hme, hme, ht]
    · rcases hal with rfl | rfl <;> exact ⟨rfl, rfl, rfl, by simp [setBlock], fun k _ hk => hset.2 k hk⟩
    · rw [e1, e2]
      exact run_entry_at _ i m clock seen A clock e hset.1 hb' hem hs'.2.1
end

section
variable {C : Type} {S : C → Prop} {w w' : World} {lab lab' : Nat → C} {c : C} {K : Type} {good : K → Prop} {enc : K → Value} {m : Nat} {es : List (K × Value)}
structure CM (good : K → Prop) (enc : K → Value) (w : World) (lab : Nat → C) (c : C) (m : Nat) (es : List (K × Value)) : Prop where
  map : MapAt good enc w m es
  clr : lab m = c
theorem CM.stp (h : CM good enc w lab c m es) (s : Stp S w lab w' lab') (hs : ¬ S c) : CM good enc w' lab' c m es :=
  ⟨h.map.same (s.block m h.map.lt (by rw [h.clr]; exact hs)), (s.lab m h.map.lt).trans h.clr⟩
end
end Go.Vcg
