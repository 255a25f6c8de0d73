/- Contracts of the reference: Put, Find; the plain map. -/
/- The sorted map and its trie: plain Lean. -/
/- Contracts: Find, Nodes, things held against one another. -/
/- The verification conditions of some functions, printed by a program of ours (wip/PrintVc.lean). -/
/- States as lists; a round looks at 25 lanes alone. -/
import Derived.Test.YtfghidehlnfdiaaTR9
import Derived.Test.YtfghidehlnfdiaaTP18
import Derived.Test.YtfghidehlnfdiaaProg
import Derived.KernelRfl
import Derived.Test.YtfghidehlnfdiaaKC7
section
set_option linter.unusedVariables false
set_option linter.unusedSimpArgs false
namespace Go.Trie
/-- A map, sorted by keys: put, or taken out (an empty value). -/
def putM : List (By × By) → By → By → List (By × By)
  | [], k, v => if v = [] then [] else [(k, v)]
  | x :: r, k, v => if cmpB x.1 k < 0 then x :: putM r k v else (if v = [] then [] else [(k, v)]) ++ (if x.1 = k then r else x :: r)
def findM : List (By × By) → By → Option By
  | [], _ => none
  | x :: r, k => if x.1 = k then some x.2 else findM r k
/-- Where a key stands, or would. -/
def atM : List (By × By) → By → Nat
  | [], _ => 0
  | x :: r, k => if cmpB x.1 k < 0 then atM r k + 1 else 0
theorem atM_le : ∀ (m : List (By × By)) (k : By), atM m k ≤ m.length
  | [], _ => Nat.le_refl _
  | x :: r, k => by
    have := atM_le r k
    simp only [atM, List.length_cons]
    split <;> omega
theorem atM_lt : ∀ (m : List (By × By)) (k : By) (j : Nat) (hj : j < m.length), j < atM m k → cmpB m[j].1 k < 0
  | x :: r, k, j, hj, h => by
    simp only [atM] at h
    split at h
    · rename_i hx
      cases j with
      | zero => exact hx
      | succ j => exact atM_lt r k j (by simpa using hj) (by omega)
    · omega
theorem atM_ge : ∀ (m : List (By × By)) (k : By) (hj : atM m k < m.length), ¬ cmpB (m[atM m k]).1 k < 0
  | x :: r, k, hj => by
    by_cases hx : cmpB x.1 k < 0
    · have e : atM (x :: r) k = atM r k + 1 := by simp only [atM]; rw [if_pos hx]
      simp only [e, List.getElem_cons_succ]
      exact atM_ge r k (by rw [e] at hj; simpa using hj)
    · have e : atM (x :: r) k = 0 := by simp only [atM]; rw [if_neg hx]
      simp only [e, List.getElem_cons_zero]
      exact hx
def thereM (m : List (By × By)) (k : By) : Bool := match m[atM m k]? with
  | some x => decide (x.1 = k)
  | none => false
theorem putM_eq : ∀ (m : List (By × By)) (k v : By), putM m k v = m.take (atM m k) ++ (if v = [] then [] else [(k, v)]) ++ m.drop (if thereM m k then atM m k + 1 else atM m k)
  | [], k, v => by simp [putM, atM, thereM]
  | x :: r, k, v => by
    have ih := putM_eq r k v
    simp only [putM]
    by_cases hx : cmpB x.1 k < 0
    · have e : atM (x :: r) k = atM r k + 1 := by simp only [atM]; rw [if_pos hx]
      have et : thereM (x :: r) k = thereM r k := by unfold thereM; rw [e]; simp
      rw [if_pos hx, ih, e, et]
      cases thereM r k <;> (split <;> simp)
    · have e : atM (x :: r) k = 0 := by simp only [atM]; rw [if_neg hx]
      have et : thereM (x :: r) k = decide (x.1 = k) := by unfold thereM; rw [e]; simp
      rw [if_neg hx, e, et]
      by_cases hk : x.1 = k
      · simp [hk]
      · simp [hk]
theorem putM_len (m : List (By × By)) (k v : By) : (putM m k v).length ≤ m.length + 1 := by
  rw [putM_eq]
  simp only [List.length_append, List.length_take, List.length_drop]
  have := atM_le m k
  split <;> split <;> simp <;> omega
end Go.Trie
namespace Go.Proofs.Ytfghidehlnfdiaa
open Go Go.Vcg Go.Trie
abbrev tKv : TypeId := 93
abbrev tSlKv : TypeId := 44
theorem und_slKv : Try.prog.underlying tSlKv = some (.slice tKv) := by kernel_rfl
theorem info_kv : (Try.prog.info? tKv).map (fun i => (i.zero, i.size, i.bytes)) = some (some (.agg #[.slice none 0 0, .slice none 0 0]), 2, 48) := by kernel_rfl
section
variable {C C' : Type} {S : C → Prop} {w0 w w' : World} {lab : Nat → C} {lab' : Nat → C'} {lab2 : Nat → C} {c : C} {c' : C'} {xs : List Value} {o : Option Addr}
theorem CRow.take (h : CRow w lab c o xs) (n : Nat) : CRow w lab c o (xs.take n) := fun j v hv => by
  rw [List.getElem?_take] at hv
  split at hv
  · exact h j v hv
  · cases hv
theorem CRow.drop (h : CRow w lab c o xs) {cap n sz : Nat} (hl : xs.length ≤ cap * sz) : CRow w lab c (subO o cap n sz) (xs.drop (n * sz)) := fun j v hv => by
  rw [List.getElem?_drop] at hv
  obtain ⟨b, f, ho, hb, hl', hc⟩ := h _ v hv
  have hlt : n * sz + j < xs.length := by
    rcases Nat.lt_or_ge (n * sz + j) xs.length with h | h
    · exact h
    · rw [List.getElem?_eq_none h] at hv; cases hv
  have hne : ¬ cap = n := by rintro rfl; omega
  refine ⟨b, f + n * sz, ?_, hb, hl', by rw [Nat.add_assoc]; exact hc⟩
  unfold subO
  rw [if_neg hne, ho]
  simp
theorem CRow.re (h : CRow w lab c o xs) (hl : ∀ k, k < w.heap.size → lab k = c → lab' k = c') : CRow w lab' c' o xs := fun j v hv => by
  obtain ⟨b, f, ho, hb, hc, hcell⟩ := h j v hv
  exact ⟨b, f, ho, hb, hl b hb hc, hcell⟩
/-- Cells of keys with values. -/
def KvCells (w : World) (lab : Nat → C) (c : C) (vs : List Value) (m : List (By × By)) : Prop :=
  vs.length = m.length * 2 ∧ ∀ (j : Nat) (hj : j < m.length), ∃ ok kk ov kv, vs[j * 2]? = some (.slice ok m[j].1.length kk) ∧ CBy w lab c ok m[j].1 ∧ vs[j * 2 + 1]? = some (.slice ov m[j].2.length kv) ∧ CBy w lab c ov m[j].2
theorem KvCells.nil (w : World) (lab : Nat → C) (c : C) : KvCells w lab c [] [] := ⟨rfl, fun j hj => absurd hj (by simp)⟩
theorem KvCells.stp {vs : List Value} {m : List (By × By)} (h : KvCells w lab c vs m) (s : Stp S w lab w' lab2) (hs : ¬ S c) : KvCells w' lab2 c vs m :=
  ⟨h.1, fun j hj => by obtain ⟨ok, kk, ov, kv, a, b, d, e⟩ := h.2 j hj; exact ⟨ok, kk, ov, kv, a, b.stp s hs, d, e.stp s hs⟩⟩
theorem KvCells.re {vs : List Value} {m : List (By × By)} (h : KvCells w lab c vs m) (hl : ∀ k, k < w.heap.size → lab k = c → lab' k = c') : KvCells w lab' c' vs m :=
  ⟨h.1, fun j hj => by obtain ⟨ok, kk, ov, kv, a, b, d, e⟩ := h.2 j hj; exact ⟨ok, kk, ov, kv, a, CBy.re b hl, d, CBy.re e hl⟩⟩
theorem KvCells.take {vs : List Value} {m : List (By × By)} (h : KvCells w lab c vs m) {n : Nat} (hn : n ≤ m.length) : KvCells w lab c (vs.take (n * 2)) (m.take n) := by
  refine ⟨by rw [List.length_take, List.length_take, h.1]; omega, fun j hj => ?_⟩
  rw [List.length_take] at hj
  obtain ⟨ok, kk, ov, kv, a, b, d, e⟩ := h.2 j (by omega)
  rw [List.getElem_take]
  exact ⟨ok, kk, ov, kv, by rw [List.getElem?_take, if_pos (by omega)]; exact a, b, by rw [List.getElem?_take, if_pos (by omega)]; exact d, e⟩
theorem KvCells.drop {vs : List Value} {m : List (By × By)} (h : KvCells w lab c vs m) {n : Nat} (hn : n ≤ m.length) : KvCells w lab c (vs.drop (n * 2)) (m.drop n) := by
  refine ⟨by rw [List.length_drop, List.length_drop, h.1]; omega, fun j hj => ?_⟩
  rw [List.length_drop] at hj
  obtain ⟨ok, kk, ov, kv, a, b, d, e⟩ := h.2 (n + j) (by omega)
  rw [List.getElem_drop]
  exact ⟨ok, kk, ov, kv, by rw [List.getElem?_drop, show n * 2 + j * 2 = (n + j) * 2 by omega]; exact a, b, by rw [List.getElem?_drop, show n * 2 + (j * 2 + 1) = (n + j) * 2 + 1 by omega]; exact d, e⟩
theorem KvCells.append {vs us : List Value} {m n : List (By × By)} (h : KvCells w lab c vs m) (k : KvCells w lab c us n) : KvCells w lab c (vs ++ us) (m ++ n) := by
  have h1 := h.1
  have k1 := k.1
  refine ⟨by rw [List.length_append, List.length_append, h1, k1]; omega, fun j hj => ?_⟩
  rw [List.length_append] at hj
  by_cases hl : j < m.length
  · rw [List.getElem_append_left hl]
    obtain ⟨ok, kk, ov, kv, a, b, d, e⟩ := h.2 j hl
    exact ⟨ok, kk, ov, kv, by rw [List.getElem?_append_left (by omega)]; exact a, b, by rw [List.getElem?_append_left (by omega)]; exact d, e⟩
  · rw [List.getElem_append_right (by omega)]
    obtain ⟨ok, kk, ov, kv, a, b, d, e⟩ := k.2 (j - m.length) (by omega)
    exact ⟨ok, kk, ov, kv, by rw [List.getElem?_append_right (by omega), show j * 2 - vs.length = (j - m.length) * 2 by omega]; exact a, b, by rw [List.getElem?_append_right (by omega), show j * 2 + 1 - vs.length = (j - m.length) * 2 + 1 by omega]; exact d, e⟩
theorem KvCells.one {vs : List Value} {m : List (By × By)} (h : KvCells w lab c vs m) : ∀ u ∈ vs, u.oneCell' = true := by
  intro u hu
  obtain ⟨i, hi⟩ := List.mem_iff_getElem?.1 hu
  have hlt : i < vs.length := by
    rcases Nat.lt_or_ge i vs.length with h | h
    · exact h
    · rw [List.getElem?_eq_none h] at hi; cases hi
  have h1 := h.1
  obtain ⟨ok, kk, ov, kv, a, b, d, e⟩ := h.2 (i / 2) (by omega)
  by_cases h2 : i % 2 = 0
  · rw [show i / 2 * 2 = i by omega, hi] at a
    cases a; rfl
  · rw [show i / 2 * 2 + 1 = i by omega, hi] at d
    cases d; rfl
/-- A map's row: cells that can be read. -/
def KvR (w : World) (lab : Nat → C) (c : C) (o : Option Addr) (m : List (By × By)) : Prop := ∃ vs, CRow w lab c o vs ∧ KvCells w lab c vs m
theorem KvR.nil (w : World) (lab : Nat → C) (c : C) (o : Option Addr) : KvR w lab c o [] := ⟨[], CRow.nil w lab c o, KvCells.nil w lab c⟩
theorem KvR.stp {m : List (By × By)} (h : KvR w lab c o m) (s : Stp S w lab w' lab2) (hs : ¬ S c) : KvR w' lab2 c o m := by
  obtain ⟨vs, a, b⟩ := h
  exact ⟨vs, a.stp s hs, b.stp s hs⟩
theorem KvR.re {m : List (By × By)} (h : KvR w lab c o m) (hl : ∀ k, k < w.heap.size → lab k = c → lab' k = c') : KvR w lab' c' o m := by
  obtain ⟨vs, a, b⟩ := h
  exact ⟨vs, CRow.re a hl, KvCells.re b hl⟩
theorem KvR.row {m : List (By × By)} (h : KvR w lab c o m) : KvRow w lab c o m := fun j hj => by
  obtain ⟨vs, hR, hC⟩ := h
  obtain ⟨ok, kk, ov, kv, a, b, d, e⟩ := hC.2 j hj
  obtain ⟨g, f, ho, hg, hl, hc⟩ := hR _ _ a
  obtain ⟨g', f', ho', _, _, hc'⟩ := hR _ _ d
  rw [ho] at ho'; cases ho'
  exact ⟨g, f, ok, kk, ov, kv, ho, hg, hl, hc, b, hc', e⟩
theorem kv_push {L : Nat → Nat} {q : Nat} {n k : Nat} {vs us : List Value} {o2 : Option Addr} {k2 nn : Nat} (F : COw w L q tKv 2 o n k vs) (src : Src Try.prog 2 tSlKv (.slice o2 nn k2) nn us w) (hn : n + nn ≤ 2 ^ 30) :
    ∃ o' k' w', Sem.run Try.prog (builtinV .append #[tSlKv, tSlKv] tSlKv #[.slice o n k, .slice o2 nn k2]) w = .ok (.slice o' (n + nn) k') w' ∧ COw w' (ext L w.heap.size q) q tKv 2 o' (n + nn) k' (vs ++ us) ∧ Stp (· = q) w L w' (ext L w.heap.size q) := by
  obtain ⟨i, hi, hz, hs, hb⟩ := info_of info_kv
  exact COw.append (ty := tSlKv) und_slKv hi hz hs rfl F src (by simp only [maxLen]; omega) (by rw [hb]; omega)
/-- The labels at a map's copy: 0 what is read, 2 the row that is made. -/
noncomputable def labK (lab : Nat → C) (c : C) (N : Nat) : Nat → Nat := fun k => if k < N then (@ite Nat (lab k = c) (Classical.propDecidable _) 0 1) else 0
theorem labK_in {N k : Nat} (hc : lab k = c) : labK lab c N k = 0 := by
  unfold labK
  rw [if_pos hc]
  split <;> rfl
theorem labK_old {N k : Nat} (h : k < N) : labK lab c N k ≠ 2 ∧ (labK lab c N k = 0 → lab k = c) := by
  unfold labK
  rw [if_pos h]
  constructor
  · split <;> decide
  · split
    · rename_i h; exact fun _ => h
    · intro h; cases h
theorem rPut_calls {m : List (By × By)} {k : Nat} {ok ov : Option Addr} {kk kv : Nat} {key v : By} (h : KvR w lab c o m) (hm : KvOk m) (hmk : m.length ≤ k) (hk : RdB w ok key) (hv : RdB w ov v) (hkl : key.length ≤ 64) (hvl : v.length ≤ 1024) (hlen : m.length < 2 ^ 20) :
    Calls Try.prog moraineref14_Put.n #[.slice o m.length k, .slice ok key.length kk, .slice ov v.length kv] w (fun e w' => ∃ o' k', e = .returned (.slice o' (putM m key v).length k') ∧ (putM m key v).length ≤ k' ∧ Vcg.Mod NoB w w' ∧ KvR w' (ext lab w.heap.size c) c o' (putM m key v)) := by
  refine calls_gen fun R hR => moraineref14_Put.vc _ _ _ _ _ _ _ _ _ _ _ ?_
  unfold moraineref14_Put.Vc
  have hrow := h.row
  have cell : ∀ {w1 : World}, Vcg.Mod NoB w w1 → ∀ (j : Nat) (hj : j < m.length), ∃ b f okk kkk, o = some ⟨b, f, none⟩ ∧ w1.cell? (Addr.add ⟨b, f, none⟩ (Int.toNat (j : Int) * 2)) = some (.slice okk m[j].1.length kkk) ∧ RdB w1 okk m[j].1 := by
    intro w1 M j hj
    obtain ⟨b, f, okk, kkk, ovv, kvv, e1, e2, e3, e4, e5, e6, e7⟩ := hrow j hj
    exact ⟨b, f, okk, kkk, e1, by rw [add_at, Int.toNat_natCast]; exact (cell_mod M e2 (fun h => h)).trans e4, e5.rd.mod' M⟩
  have hat := atM_le m key
  refine ⟨fun n w' => n = (atM m key : Int) ∧ Vcg.Mod NoB w w', ⟨fun n w' => ∃ j : Nat, n = (j : Int) ∧ j ≤ atM m key ∧ Vcg.Mod NoB w w', fun n _ => ((m.length : Int) - n).toNat, ⟨0, rfl, Nat.zero_le _, Mod.refl w⟩, ?_⟩, ?_⟩
  · rintro _ _ w1 ⟨j, rfl, hj, M⟩
    refine ⟨fun hlt => ?_, fun hge => ⟨by omega, M⟩⟩
    have hjl : j < m.length := by omega
    obtain ⟨b, f, okk, kkk, rfl, hc, hrd⟩ := cell M j hjl
    have hkj := hm.keys _ (List.getElem_mem hjl)
    refine ⟨_, rfl, ⟨by omega, by omega⟩, _, _, _, hc, (cmp_calls (k1 := kkk) (k2 := kk) hrd (hk.mod' M) (by omega)).mono ?_⟩
    rintro _ w2 ⟨rfl, M2⟩
    have M02 := M.trans M2 (fun _ _ h => h)
    refine ⟨_, rfl, fun hneg => ⟨⟨j + 1, by rw [wrap_i64_small (by omega) (by omega)]; omega, ?_, M02⟩, by dsimp only; rw [wrap_i64_small (by omega) (by omega)]; omega⟩, fun hpos => ⟨?_, M02⟩⟩
    · by_cases he : j = atM m key
      · subst he
        exact absurd hneg (atM_ge m key hjl)
      · omega
    · by_cases he : j < atM m key
      · exact absurd (atM_lt m key j hjl he) hpos
      · omega
  · rintro _ _ w1 ⟨rfl, M1⟩
    refine ⟨fun b w' => b = thereM m key ∧ Vcg.Mod NoB w w', ⟨fun hlt => ?_, fun hge => ⟨?_, M1⟩⟩, ?_⟩
    · have hjl : atM m key < m.length := by omega
      obtain ⟨b, f, okk, kkk, rfl, hc, hrd⟩ := cell M1 (atM m key) hjl
      have hkj := hm.keys _ (List.getElem_mem hjl)
      refine ⟨_, rfl, ⟨by omega, by omega⟩, _, _, _, hc, (cmp_calls (k1 := kkk) (k2 := kk) hrd (hk.mod' M1) (by omega)).mono ?_⟩
      rintro _ w2 ⟨rfl, M2⟩
      refine ⟨_, rfl, ?_, M1.trans M2 (fun _ _ h => h)⟩
      unfold thereM
      rw [List.getElem?_eq_getElem hjl]
      simp only
      rw [Bool.eq_iff_iff, decide_eq_true_eq, decide_eq_true_eq, cmpB_eq]
    · unfold thereM
      rw [List.getElem?_eq_none (by omega)]
    · rintro _ _ w2 ⟨rfl, M2⟩
      obtain ⟨vs, hCR, hKC⟩ := h
      have hvl2 := hKC.1
      simp only [Int.toNat_natCast]
      have inL : ∀ k, k < w.heap.size → lab k = c → labK lab c w.heap.size k = 0 := fun k _ hc => labK_in hc
      have s2 := Stp.same M2 (labK lab c w.heap.size)
      have C2 := (CRow.re hCR inL).stp s2 (fun h => h)
      have K2 := (KvCells.re hKC inL).stp s2 (fun h => h)
      -- all steps from here on: nothing but the row that is made
      have fin : ∀ {w5 : World} {L5 : Nat → Nat} {o5 : Option Addr} {n5 k5 : Nat} {us : List Value}, Stp (· = 2) w2 (labK lab c w.heap.size) w5 L5 → COw w5 L5 2 tKv 2 o5 n5 k5 us → KvCells w5 L5 0 us (putM m key v) → n5 = (putM m key v).length → R (.returned (.slice o5 n5 k5)) w5 := by
        rintro w5 L5 o5 _ k5 us s5 O5 K5 rfl
        have M25 : Vcg.Mod NoB w w5 := M2.trans (s5.mod (Q := fun k => w.heap.size ≤ k) (fun k hk hs => Nat.not_lt.1 fun hlt => (labK_old hlt).1 hs)) (fun i hi hq => by omega)
        have out : ∀ q, q = 0 ∨ q = 2 → ∀ k, k < w5.heap.size → L5 k = q → ext lab w.heap.size c k = c := fun q hq k hk he => by
          by_cases hlt : k < w.heap.size
          · rw [s5.lab k (Nat.lt_of_lt_of_le hlt M2.size)] at he
            rw [ext_old hlt]
            rcases hq with rfl | rfl
            · exact (labK_old hlt).2 he
            · exact ((labK_old hlt).1 he).elim
          · exact ext_new (by omega)
        exact hR _ _ ⟨o5, k5, rfl, O5.own.cap.1, M25, us, CRow.re (COw.row O5) (out 2 (.inr rfl)), KvCells.re K5 (out 0 (.inl rfl))⟩
      have rest : ∀ {w4 : World} {L4 : Nat → Nat} {o4 : Option Addr} {n4 k4 : Nat} {us : List Value} {m4 : List (By × By)} (d : Nat), d ≤ m.length → Stp (· = 2) w2 (labK lab c w.heap.size) w4 L4 → COw w4 L4 2 tKv 2 o4 n4 k4 us → KvCells w4 L4 0 us m4 → n4 = m4.length → n4 ≤ m.length + 1 → m4 ++ m.drop d = putM m key v →
          ∃ (v58 : Value) (w59 : World), Sem.run Try.prog (builtinV .append #[44, 44] 44 #[(.slice o4 n4 k4), (.slice (subO o k d 2) (m.length - d) (k - d))]) w4 = .ok v58 w59 ∧
          ∃ o60 : Option Addr, ∃ l61 : Nat, ∃ l62 : Nat, v58 = (.slice o60 l61 l62) ∧ R (.returned (.slice o60 l61 l62)) w59 := by
        intro w4 L4 o4 n4 k4 us m4 d hd s4 O4 K4 hn4 hle4 he
        have C4 := CRow.drop (C2.stp s4 (by decide)) (cap := k) (n := d) (sz := 2) (by omega)
        have K4' := KvCells.drop (K2.stp s4 (by decide)) hd
        obtain ⟨o5, k5, w5, hr5, O5, s5⟩ := kv_push O4 (CRow.src C4 und_slKv (n := m.length - d) (by rw [List.length_drop]; omega) K4'.one (k - d) (by omega)) (by omega)
        refine ⟨_, w5, hr5, _, _, _, rfl, fin (s4.trans s5) O5 (by rw [← he]; exact (K4.stp s5 (by decide)).append (K4'.stp s5 (by decide))) ?_⟩
        rw [← he, List.length_append, List.length_drop, hn4]
      have C2t := CRow.take C2 (atM m key * 2)
      have K2t := KvCells.take K2 hat
      obtain ⟨o3, k3, w3, hr3, O3, s3⟩ := kv_push (COw.nil w2 (labK lab c w.heap.size) 2 tKv 2) (CRow.src C2t und_slKv (n := atM m key) (by rw [List.length_take]; omega) K2t.one k (by omega)) (by omega)
      rw [Nat.zero_add] at hr3 O3
      rw [List.nil_append] at O3
      replace K2t := K2t.stp s3 (by decide)
      have hpe := putM_eq m key v
      have ew : IntKind.wrap .i64 ((atM m key : Int) + 1) = ((atM m key + 1 : Nat) : Int) := by rw [wrap_i64_small (by omega) (by omega)]; omega
      have hth : thereM m key = true → atM m key + 1 ≤ m.length := fun h => by
        unfold thereM at h
        rcases Nat.lt_or_ge (atM m key) m.length with h' | h'
        · exact h'
        · rw [List.getElem?_eq_none h'] at h; cases h
      have htl : (m.take (atM m key)).length = atM m key := by rw [List.length_take]; omega
      simp only [ew, Int.toNat_natCast]
      refine ⟨⟨by omega, by omega⟩, _, w3, hr3, _, _, _, rfl, fun hvpos => ?_, fun hv0 => ?_⟩
      · have hvne : v ≠ [] := by rintro rfl; simp at hvpos
        rw [if_neg hvne] at hpe
        have M23 : Vcg.Mod NoB w w3 := M2.trans (s3.mod (Q := fun k => w.heap.size ≤ k) (fun k hk hs => Nat.not_lt.1 fun hlt => (labK_old hlt).1 hs)) (fun i hi hq => by omega)
        generalize hL3 : ext (labK lab c w.heap.size) w2.heap.size 2 = L3 at *
        obtain ⟨o4, k4, w4, hr4, F4⟩ := copy_bytes' (k2 := kk) (ty := tSlU8) (Mod.refl w3) (hk.mod' M23) (by omega)
        obtain ⟨o5, k5, w5, hr5, F5⟩ := copy_bytes' (k2 := kv) (ty := tSlU8) (Mod.refl w4) (hv.mod' (M23.trans F4.mod (fun _ _ h => h))) (by omega)
        refine ⟨_, w4, hr4, _, _, _, rfl, _, w5, hr5, _, _, _, rfl, ?_⟩
        rintro d w6 ⟨rfl, rfl⟩
        have M6 := Mod.alloc (S := NoB) w5 (.cells #[.slice o4 key.length k4, .slice o5 v.length k5] 93)
        have N6 := Blk.new w5 93 #[.slice o4 key.length k4, .slice o5 v.length k5]
        have M36 := (F4.mod.trans F5.mod (fun _ _ h => h)).trans M6 (fun _ _ h => h)
        have s6 : Stp NoS w3 L3 (w5.alloc (.cells #[.slice o4 key.length k4, .slice o5 v.length k5] 93)) (ext L3 w3.heap.size 0) := Stp.of_nob M36 0
        have b4 : CBy (w5.alloc (.cells #[.slice o4 key.length k4, .slice o5 v.length k5] 93)) (ext L3 w3.heap.size 0) 0 o4 key := fresh_cby F4 (F5.mod.trans M6 (fun _ _ h => h))
        have b5 : CBy (w5.alloc (.cells #[.slice o4 key.length k4, .slice o5 v.length k5] 93)) (ext L3 w3.heap.size 0) 0 o5 v := fresh_cby (Fresh.from_ F5 F4.mod) M6
        generalize w5.alloc (.cells #[.slice o4 key.length k4, .slice o5 v.length k5] 93) = w6 at *
        have O6 := O3.stp s6 (fun h => h)
        have K6 := K2t.stp s6 (fun h => h)
        have hKone : KvCells w6 (ext L3 w3.heap.size 0) 0 [.slice o4 key.length k4, .slice o5 v.length k5] [(key, v)] := ⟨rfl, fun j hj => by
          obtain rfl : j = 0 := by simpa using hj
          exact ⟨o4, k4, o5, k5, rfl, b4, rfl, b5⟩⟩
        obtain ⟨o7, k7, w7, hr7, O7, s7⟩ := kv_push O6 (src_one und_slKv N6 rfl (by simp [Value.oneCell'])) (by omega)
        have s37 := ((s3.trans (s6.mono (fun _ h => h.elim))).trans s7)
        have K7 := (K6.append hKone).stp s7 (by decide)
        refine ⟨_, w7, hr7, _, _, _, rfl, fun hb => ?_, fun hb => ?_⟩
        · rw [hb, if_pos rfl] at hpe
          have := hth hb
          exact ⟨⟨by omega, by omega⟩, rest (atM m key + 1) this s37 O7 K7 (by rw [List.length_append, htl]; rfl) (by omega) hpe.symm⟩
        · rw [hb, if_neg (by simp)] at hpe
          exact ⟨⟨by omega, by omega⟩, rest (atM m key) hat s37 O7 K7 (by rw [List.length_append, htl]; rfl) (by omega) hpe.symm⟩
      · have hvnil : v = [] := List.eq_nil_of_length_eq_zero (by omega)
        rw [if_pos hvnil, List.append_nil] at hpe
        refine ⟨fun hb => ?_, fun hb => ?_⟩
        · rw [hb, if_pos rfl] at hpe
          have := hth hb
          exact ⟨⟨by omega, by omega⟩, rest (atM m key + 1) this s3 O3 K2t htl.symm (by omega) hpe.symm⟩
        · rw [hb, if_neg (by simp)] at hpe
          exact ⟨⟨by omega, by omega⟩, rest (atM m key) hat s3 O3 K2t htl.symm (by omega) hpe.symm⟩
end
end Go.Proofs.Ytfghidehlnfdiaa
end

section
set_option linter.unusedVariables false
set_option linter.unusedSimpArgs false
namespace Go.Trie
theorem nib_back (a : UInt8) : (a >>> 4) <<< 4 ||| (a &&& 15) = a := by
  have : ∀ n : Fin 256, ((UInt8.ofFin n >>> 4) <<< 4 ||| (UInt8.ofFin n &&& 15)) = UInt8.ofFin n := by decide +kernel
  exact this a.toFin
theorem nibbles_cons (a : UInt8) (k : By) : nibbles (a :: k) = (a >>> 4) :: (a &&& 15) :: nibbles k := rfl
theorem nibbles_inj : ∀ {a b : By}, nibbles a = nibbles b → a = b
  | [], [], _ => rfl
  | [], b :: q, h => by simp [nibbles_cons] at h; simp [nibbles] at h
  | a :: p, [], h => by simp [nibbles_cons] at h; simp [nibbles] at h
  | a :: p, b :: q, h => by
    rw [nibbles_cons, nibbles_cons] at h
    simp only [List.cons.injEq] at h
    rw [nibbles_inj h.2.2, ← nib_back a, ← nib_back b, h.1, h.2.1]
theorem nib_lt {a b : UInt8} (h : a < b) : a >>> 4 < b >>> 4 ∨ (a >>> 4 = b >>> 4 ∧ a &&& 15 < b &&& 15) := by
  have e1 : ∀ x : UInt8, (x >>> 4).toNat = x.toNat / 16 := fun x => by
    have : ∀ n : Fin 256, (UInt8.ofFin n >>> 4).toNat = (UInt8.ofFin n).toNat / 16 := by decide +kernel
    exact this x.toFin
  have e2 : ∀ x : UInt8, (x &&& 15).toNat = x.toNat % 16 := fun x => by
    have : ∀ n : Fin 256, (UInt8.ofFin n &&& 15).toNat = (UInt8.ofFin n).toNat % 16 := by decide +kernel
    exact this x.toFin
  have h' : a.toNat < b.toNat := UInt8.lt_iff_toNat_lt.1 h
  by_cases hq : a.toNat / 16 = b.toNat / 16
  · right
    refine ⟨UInt8.toNat_inj.1 (by rw [e1, e1, hq]), ?_⟩
    rw [UInt8.lt_iff_toNat_lt, e2, e2]; omega
  · left
    rw [UInt8.lt_iff_toNat_lt, e1, e1]; omega
theorem nibbles_lt : ∀ {a b : By}, ltB a b → ltB (nibbles a) (nibbles b)
  | p, [], h => (ltB_nil _ h).elim
  | [], b :: q, h => by rw [nibbles_cons]; trivial
  | a :: p, b :: q, h => by
    rw [nibbles_cons, nibbles_cons]
    rcases h with h | ⟨rfl, h⟩
    · rcases nib_lt h with h1 | ⟨h1, h2⟩
      · exact .inl h1
      · exact .inr ⟨h1, .inl h2⟩
    · exact .inr ⟨rfl, .inr ⟨rfl, nibbles_lt h⟩⟩
abbrev SortedM (m : List (By × By)) : Prop := m.Pairwise (fun x y => ltB x.1 y.1)
theorem ltB_total : ∀ (a b : By), ltB a b ∨ a = b ∨ ltB b a
  | [], [] => .inr (.inl rfl)
  | [], _ :: _ => .inl trivial
  | _ :: _, [] => .inr (.inr trivial)
  | a :: p, b :: q => by
    by_cases h : a < b
    · exact .inl (.inl h)
    · by_cases h' : b < a
      · exact .inr (.inr (.inl h'))
      · have e : a = b := UInt8.toNat_inj.1 (by rw [UInt8.lt_iff_toNat_lt] at h h'; omega)
        subst e
        rcases ltB_total p q with h1 | h1 | h1
        · exact .inl (.inr ⟨rfl, h1⟩)
        · exact .inr (.inl (by rw [h1]))
        · exact .inr (.inr (.inr ⟨rfl, h1⟩))
theorem mem_putM : ∀ {m : List (By × By)} {k v : By}, SortedM m → ∀ x, x ∈ putM m k v ↔ (x.1 = k ∧ x.2 = v ∧ v ≠ []) ∨ (x.1 ≠ k ∧ x ∈ m)
  | [], k, v, _, x => by
    simp only [putM]
    split
    · rename_i h; simp [h]
    · rename_i h
      simp only [List.mem_singleton, List.not_mem_nil, and_false, or_false]
      constructor
      · rintro rfl; exact ⟨rfl, rfl, h⟩
      · rintro ⟨h1, h2, _⟩; exact Prod.ext h1 h2
  | y :: r, k, v, hs, x => by
    rw [SortedM, List.pairwise_cons] at hs
    simp only [putM]
    by_cases hy : cmpB y.1 k < 0
    · rw [if_pos hy, List.mem_cons, mem_putM hs.2, List.mem_cons]
      have hne : y.1 ≠ k := fun e => by
        rw [cmpB_lt, e] at hy
        exact ltB_irrefl _ hy
      constructor
      · rintro (rfl | h | h)
        · exact .inr ⟨hne, .inl rfl⟩
        · exact .inl h
        · exact .inr ⟨h.1, .inr h.2⟩
      · rintro (h | ⟨h1, rfl | h2⟩)
        · exact .inr (.inl h)
        · exact .inl rfl
        · exact .inr (.inr ⟨h1, h2⟩)
    · rw [if_neg hy, List.mem_append]
      have hrest : ∀ z ∈ r, z.1 ≠ k := fun z hz e => by
        have h1 := hs.1 z hz
        rw [e] at h1
        exact hy (cmpB_lt.2 h1)
      have hnew : x ∈ (if v = [] then [] else [(k, v)]) ↔ x.1 = k ∧ x.2 = v ∧ v ≠ [] := by
        split
        · rename_i h; simp [h]
        · rename_i h
          rw [List.mem_singleton]
          constructor
          · rintro rfl; exact ⟨rfl, rfl, h⟩
          · rintro ⟨h1, h2, _⟩; exact Prod.ext h1 h2
      rw [hnew]
      by_cases hyk : y.1 = k
      · rw [if_pos hyk, List.mem_cons]
        constructor
        · rintro (h | h)
          · exact .inl h
          · exact .inr ⟨hrest x h, .inr h⟩
        · rintro (h | ⟨h1, rfl | h2⟩)
          · exact .inl h
          · exact (h1 hyk).elim
          · exact .inr h2
      · rw [if_neg hyk, List.mem_cons]
        constructor
        · rintro (h | rfl | h)
          · exact .inl h
          · exact .inr ⟨hyk, .inl rfl⟩
          · exact .inr ⟨hrest x h, .inr h⟩
        · rintro (h | ⟨h1, h2⟩)
          · exact .inl h
          · exact .inr h2
theorem sorted_putM : ∀ {m : List (By × By)} {k v : By}, SortedM m → SortedM (putM m k v)
  | [], k, v, _ => by
    simp only [putM]
    split
    · exact List.Pairwise.nil
    · exact List.pairwise_singleton _ _
  | y :: r, k, v, hs => by
    have hs0 := hs
    rw [SortedM, List.pairwise_cons] at hs
    by_cases hy : cmpB y.1 k < 0
    · have e : putM (y :: r) k v = y :: putM r k v := by simp only [putM]; rw [if_pos hy]
      rw [e, SortedM, List.pairwise_cons]
      refine ⟨fun z hz => ?_, sorted_putM hs.2⟩
      rcases (mem_putM hs.2 z).1 hz with ⟨h1, _⟩ | ⟨_, h2⟩
      · rw [h1]; exact cmpB_lt.1 hy
      · exact hs.1 z h2
    · have e : putM (y :: r) k v = (if v = [] then [] else [(k, v)]) ++ (if y.1 = k then r else y :: r) := by simp only [putM]; rw [if_neg hy]
      rw [e, SortedM, List.pairwise_append]
      have hkr : ∀ z ∈ r, ltB k z.1 := fun z hz => by
        have h1 := hs.1 z hz
        rcases ltB_total k y.1 with h | h | h
        · exact ltB_trans h h1
        · rw [h]; exact h1
        · exact (hy (cmpB_lt.2 h)).elim
      refine ⟨by split <;> simp, ?_, fun x hx z hz => ?_⟩
      · split
        · exact hs.2
        · exact hs0
      · have hxk : x.1 = k := by
          split at hx
          · cases hx
          · rw [List.mem_singleton] at hx; rw [hx]
        rw [hxk]
        split at hz
        · exact hkr z hz
        · rename_i hyk
          rcases List.mem_cons.1 hz with rfl | hz
          · rcases ltB_total k z.1 with h | h | h
            · exact h
            · exact (hyk h.symm).elim
            · exact (hy (cmpB_lt.2 h)).elim
          · exact hkr z hz
theorem sorted_key {m : List (By × By)} (hs : SortedM m) {x y : By × By} (hx : x ∈ m) (hy : y ∈ m) (h : x.1 = y.1) : x = y := by
  induction m with
  | nil => cases hx
  | cons z r ih =>
    rw [SortedM, List.pairwise_cons] at hs
    rcases List.mem_cons.1 hx with hxz | hx'
    · rcases List.mem_cons.1 hy with hyz | hy'
      · rw [hxz, hyz]
      · have := hs.1 y hy'; rw [← hxz, h] at this; exact (ltB_irrefl _ this).elim
    · rcases List.mem_cons.1 hy with hyz | hy'
      · have := hs.1 x hx'; rw [← hyz, h] at this; exact (ltB_irrefl _ this).elim
      · exact ih hs.2 hx' hy'
theorem findM_some : ∀ {m : List (By × By)} {k v : By}, SortedM m → (findM m k = some v ↔ (k, v) ∈ m)
  | [], k, v, _ => by simp [findM]
  | y :: r, k, v, hs => by
    have hs0 := hs
    rw [SortedM, List.pairwise_cons] at hs
    simp only [findM]
    by_cases hy : y.1 = k
    · rw [if_pos hy]
      constructor
      · intro h
        cases h
        rw [← hy]; exact List.mem_cons_self ..
      · intro h
        rw [sorted_key hs0 (List.mem_cons_self ..) h hy]
    · rw [if_neg hy, findM_some hs.2, List.mem_cons]
      constructor
      · exact .inr
      · rintro (h | h)
        · rw [← h] at hy; exact (hy rfl).elim
        · exact h
end Go.Trie
namespace Go.Proofs.Ytfghidehlnfdiaa
open Go Go.Vcg Go.Trie
theorem mem_paths {m : List (By × By)} {k v : By} : (nibbles k, v) ∈ pathsOf m ↔ (k, v) ∈ m := by
  unfold pathsOf
  rw [List.mem_map]
  constructor
  · rintro ⟨x, hx, he⟩
    have h1 := nibbles_inj (Prod.mk.inj he).1
    have h2 := (Prod.mk.inj he).2
    rw [← h1, ← h2]; exact hx
  · exact fun h => ⟨_, h, rfl⟩
theorem paths_sorted {m : List (By × By)} (hs : SortedM m) : (pathsOf m).Pairwise (fun x y => ltB x.1 y.1) := by
  unfold pathsOf
  rw [List.pairwise_map]
  exact hs.imp (fun h => nibbles_lt h)
theorem rep_of {m : List (By × By)} {n : Nd} (hs : SortedM m) (h : ∀ p v, Trie.get n p = some v ↔ (p, v) ∈ pathsOf m) : Rep (pathsOf m) n := ⟨paths_sorted hs, h⟩
theorem rep_put {m : List (By × By)} {n : Nd} {k v : By} (hr : Rep (pathsOf m) n) (hs : SortedM m) (hc : Canon n) (hv : v ≠ []) : Rep (pathsOf (putM m k v)) (Trie.put n (nibbles k) v) := by
  refine rep_of (sorted_putM hs) (fun p x => ?_)
  rw [(put_ok hc (nib_nibbles k) hv).2.2.2 p]
  by_cases hp : p = nibbles k
  · rw [if_pos hp, hp, mem_paths, mem_putM hs]
    constructor
    · intro h; cases h; exact .inl ⟨rfl, rfl, hv⟩
    · rintro (⟨_, h, _⟩ | ⟨h, _⟩)
      · exact congrArg some h.symm
      · exact (h rfl).elim
  · rw [if_neg hp, hr.2]
    unfold pathsOf
    rw [List.mem_map, List.mem_map]
    constructor
    · rintro ⟨y, hy, he⟩
      refine ⟨y, (mem_putM hs y).2 (.inr ⟨fun e => hp ?_, hy⟩), he⟩
      rw [← (Prod.mk.inj he).1, e]
    · rintro ⟨y, hy, he⟩
      rcases (mem_putM hs y).1 hy with ⟨h, _⟩ | ⟨_, h⟩
      · exact (hp (by rw [← (Prod.mk.inj he).1, h])).elim
      · exact ⟨y, h, he⟩
theorem rep_del {m : List (By × By)} {n : Nd} {k : By} (hr : Rep (pathsOf m) n) (hs : SortedM m) (hc : Canon n) : Rep (pathsOf (putM m k [])) (Trie.remove n (nibbles k)).1 := by
  refine rep_of (sorted_putM hs) (fun p x => ?_)
  rw [(remove_ok hc (nib_nibbles k)).2.2.1 p]
  by_cases hp : p = nibbles k
  · rw [if_pos hp, hp, mem_paths, mem_putM hs]
    constructor
    · intro h; cases h
    · rintro (⟨_, _, h⟩ | ⟨h, _⟩)
      · exact (h rfl).elim
      · exact (h rfl).elim
  · rw [if_neg hp, hr.2]
    unfold pathsOf
    rw [List.mem_map, List.mem_map]
    constructor
    · rintro ⟨y, hy, he⟩
      refine ⟨y, (mem_putM hs y).2 (.inr ⟨fun e => hp ?_, hy⟩), he⟩
      rw [← (Prod.mk.inj he).1, e]
    · rintro ⟨y, hy, he⟩
      rcases (mem_putM hs y).1 hy with ⟨h, _⟩ | ⟨_, h⟩
      · exact (hp (by rw [← (Prod.mk.inj he).1, h])).elim
      · exact ⟨y, h, he⟩
theorem rep_get {m : List (By × By)} {n : Nd} (hr : Rep (pathsOf m) n) (hs : SortedM m) (k : By) : Trie.get n (nibbles k) = findM m k := by
  cases hf : findM m k with
  | none =>
    cases hg : Trie.get n (nibbles k) with
    | none => rfl
    | some v =>
      have := (findM_some hs).2 (mem_paths.1 ((hr.2 _ _).1 hg))
      rw [hf] at this; cases this
  | some v => exact (hr.2 _ _).2 (mem_paths.2 ((findM_some hs).1 hf))
theorem rep_nil : Rep (pathsOf []) .nil := Rep.nil
theorem kvOk_put {m : List (By × By)} {k v : By} (h : KvOk m) (hs : SortedM m) (hk : k.length ≤ 64) (hv : v.length ≤ 1024) (hl : (putM m k v).length ≤ 2 ^ 20) : KvOk (putM m k v) := by
  refine ⟨hl, fun e he => ?_, fun e he => ?_⟩
  · rcases (mem_putM hs e).1 he with ⟨h1, _⟩ | ⟨_, h2⟩
    · rw [h1]; exact hk
    · exact h.keys e h2
  · rcases (mem_putM hs e).1 he with ⟨_, h1, _⟩ | ⟨_, h2⟩
    · rw [h1]; exact hv
    · exact h.vals e h2
end Go.Proofs.Ytfghidehlnfdiaa
end

section
set_option linter.unusedVariables false
set_option linter.unusedSimpArgs false
namespace Go.Proofs.Ytfghidehlnfdiaa
open Go Go.Vcg Go.Trie
section
variable {C C' : Type} {S : C → Prop} {w0 w w' : World} {lab : Nat → C} {lab' : Nat → C'} {lab2 : Nat → C} {c c1 : C} {c' : C'} {xs : List Value} {o : Option Addr}
/-- Bytes told as a string. -/
theorem toStr {w : World} {o : Option Addr} {k : Nat} {b : By} (h : RdB w o b) : Sem.run Try.prog (convert 22 9 (.slice o b.length k)) w = .ok (.string (strOf b)) w := run_toStr und_slU8 und_u8 und_str h
theorem hBytes_calls {o1 o2 : Option Addr} {k1 k2 : Nat} {a b : By} (h1 : RdB w o1 a) (h2 : RdB w o2 b) :
    Calls Try.prog morainehelp_Bytes.n #[.slice o1 a.length k1, .slice o2 b.length k2] w (fun e w' => e = .returned (.bool (decide (a = b))) ∧ w' = w) := by
  refine morainehelp_Bytes.vc _ _ _ _ _ _ _ _ ?_
  unfold morainehelp_Bytes.Vc
  refine ⟨_, toStr h1, _, rfl, _, toStr h2, _, rfl, ?_, rfl⟩
  rw [strB_strOf]
theorem strB_neq (a b : By) : strB .neq (strOf a) (strOf b) = decide (a ≠ b) := by
  have h := strB_strOf a b
  have : strB .neq (strOf a) (strOf b) = !strB .eql (strOf a) (strOf b) := by
    simp only [strB, bne]
  rw [this, h]
  by_cases hab : a = b <;> simp [hab]
/-- What Find says. -/
theorem Find_calls {m : List (By × By)} {k kk : Nat} {ok : Option Addr} {key : By} (h : KvR w lab c o m) (hk : RdB w ok key) (hlen : m.length ≤ 2 ^ 20) :
    Calls Try.prog moraineref14_Find.n #[.slice o m.length k, .slice ok key.length kk] w (fun e w' => ∃ o' k', e = .returned (.tuple #[.slice o' (says (findM m key)).1.length k', .bool (says (findM m key)).2]) ∧ Vcg.Mod NoB w w' ∧ CBy w lab c o' (says (findM m key)).1) := by
  refine calls_gen fun R hR => moraineref14_Find.vc _ _ _ _ _ _ _ _ ?_
  unfold moraineref14_Find.Vc
  have hrow := h.row
  refine ⟨fun n w' => ∃ j : Nat, n = (j : Int) ∧ j ≤ m.length ∧ Vcg.Mod NoB w w' ∧ findM m key = findM (m.drop j) key, fun n _ => ((m.length : Int) - n).toNat, ⟨0, rfl, Nat.zero_le _, Mod.refl w, rfl⟩, ?_⟩
  rintro _ _ w1 ⟨j, rfl, hj, M, hf⟩
  refine ⟨fun hlt => ?_, fun hge => ?_⟩
  · rintro _ rfl
    have hjl : j < m.length := by omega
    have M2 := M.step_drew
    obtain ⟨b, f, okk, kkk, ovv, kvv, rfl, e2, e3, e4, e5, e6, e7⟩ := hrow j hjl
    have hd : m.drop j = m[j] :: m.drop (j + 1) := List.drop_eq_getElem_cons hjl
    refine ⟨_, rfl, ⟨by omega, by omega⟩, _, _, _, by rw [add_at, Int.toNat_natCast]; exact (cell_mod M2 e2 (fun h => h)).trans e4, _, toStr (e5.rd.mod' M2), _, rfl, _, toStr (hk.mod' M2), _, rfl, fun he => ?_, fun he => ?_⟩
    · rw [strB_strOf] at he
      have e : findM m key = some m[j].2 := by rw [hf, hd]; simp only [findM]; rw [if_pos (of_decide_eq_true he)]
      rw [e] at hR
      refine ⟨_, rfl, ⟨by omega, by omega⟩, _, _, _, by rw [add_at, add_at, Int.toNat_natCast, Nat.add_assoc]; exact (cell_mod M2 e2 (fun h => h)).trans e6, hR _ _ ⟨_, _, rfl, M2, e7⟩⟩
    · rw [strB_strOf] at he
      refine ⟨⟨j + 1, by rw [wrap_i64_small (by omega) (by omega)]; omega, hjl, M2, ?_⟩, by dsimp only; rw [wrap_i64_small (by omega) (by omega)]; omega⟩
      rw [hf, hd]; simp only [findM]; rw [if_neg (of_decide_eq_false he)]
  · have e : findM m key = none := by rw [hf, List.drop_of_length_le (by omega)]; rfl
    rw [e] at hR
    exact hR _ _ ⟨none, 0, rfl, M, CBy.nil _ _ _ _⟩
/-- The reference's nodes, copied. -/
theorem rNodes_calls {l : List (By × By)} {k : Nat} (h : NdRow w lab c l o l.length) (hb : ∀ x ∈ l, x.2.length ≤ 2 ^ 20) (hlen : l.length ≤ 2 ^ 20) (cr : C) :
    Calls Try.prog moraineref14_Nodes.n #[.slice o l.length k] w (fun e w' => ∃ o' k', e = .returned (.slice o' l.length k') ∧ l.length ≤ k' ∧ Vcg.Mod NoB w w' ∧ NdRow w' (ext lab w.heap.size cr) cr l o' l.length) := by
  refine calls_gen fun R hR => moraineref14_Nodes.vc _ _ _ _ _ ?_
  unfold moraineref14_Nodes.Vc
  have inL : ∀ k, k < w.heap.size → lab k = c → labK lab c w.heap.size k = 0 := fun k _ hc => labK_in hc
  have h0 : NdRow w (labK lab c w.heap.size) 0 l o l.length := NdRow.re h inL
  refine ⟨fun o' n' k' i w' => ∃ (j : Nat) (L : Nat → Nat), i = (j : Int) ∧ j ≤ l.length ∧ n' = j ∧ Stp (· = 2) w (labK lab c w.heap.size) w' L ∧ NdOwn w' L 2 3 (l.take j) o' n' k', fun _ _ _ i _ => ((l.length : Int) - i).toNat,
    ⟨0, _, rfl, Nat.zero_le _, rfl, Stp.refl _ _ _, by rw [List.take_zero]; exact NdOwn.nil _ _ _ _⟩, ?_⟩
  rintro o1 j k1 _ _ w1 ⟨j', L1, rfl, hj, hjj, s1, O1⟩
  subst hjj
  obtain ⟨_, vs, hCR, hNC⟩ := h0
  refine ⟨fun hlt => ?_, fun hge => ?_⟩
  · rintro _ rfl
    have hjl : j < l.length := by omega
    have sD : Stp NoS w1 L1 w1.drew L1 := Stp.drew _ _ _
    have O2 := O1.stp sD (fun h => h) (fun h => h)
    have s2 := s1.trans (sD.mono (T := fun k => k = 2) (fun _ h => h.elim))
    generalize w1.drew = w2 at *
    have CR2 := hCR.stp s2 (by decide)
    have NC2 := hNC.stp s2 (by decide)
    obtain ⟨g, f, rfl, hg, hlg, hrow⟩ := NC2.hash CR2 hjl
    obtain ⟨g', f', hgf, _, ob, kb, hcell, hby⟩ := NC2.bytes CR2 hjl
    cases hgf
    have hlen32 := (NC2.2 j hjl).1
    have hbl := hb _ (List.getElem_mem hjl)
    obtain ⟨o3, k3, w3, hr3, F3⟩ := copy_bytes' (k2 := kb) (ty := tSlU8) (Mod.refl w2) hby.rd (by omega)
    have hrow' : ∀ w', Vcg.Mod NoB w2 w' → RowAt w' (Addr.add ⟨g, f, none⟩ (Int.toNat (j : Int) * 33)) 32 (hashA l[j].1) := fun w' M => by
      rw [add_at, Int.toNat_natCast]
      exact ⟨hrow.1, fun i hi => by rw [← hrow.2 i hi, add_at]; exact cell_mod M hg (fun h => h)⟩
    have hZ : nd0.size = 33 := rfl
    refine ⟨_, rfl, ⟨by omega, by omega⟩, _, hrow' _ (Mod.refl _), _, rfl, ⟨by omega, by omega⟩, _, _, _, by rw [add_at, add_at, Int.toNat_natCast, Nat.add_assoc]; exact hcell, _, w3, hr3, _, _, _, rfl, hrow' _ F3.mod, size_hashA _, by rw [size_setsAt]; unfold lputL; rw [size_setsAt, hZ], ?_⟩
    rw [nd_built hZ]
    rintro d w4 ⟨rfl, rfl⟩
    have M4 := Mod.alloc (S := NoB) w3 (.cells (ndA l[j].1 o3 l[j].2.length k3) tNd)
    have N4 := Blk.new w3 tNd (ndA l[j].1 o3 l[j].2.length k3)
    have M24 := F3.mod.trans M4 (fun _ _ h => h)
    have s4 : Stp NoS w2 L1 (w3.alloc (.cells (ndA l[j].1 o3 l[j].2.length k3) tNd)) (ext L1 w2.heap.size 3) := Stp.of_nob M24 3
    have b4 : CBy (w3.alloc (.cells (ndA l[j].1 o3 l[j].2.length k3) tNd)) (ext L1 w2.heap.size 3) 3 o3 l[j].2 := fresh_cby F3 M4
    show ∃ (v30 : Value) (w31 : World), Sem.run Try.prog (builtinV .append #[49, 49] 49 #[(.slice o1 j k1), (.slice (some ⟨w3.heap.size, 0, none⟩) 1 1)]) (w3.alloc (.cells (ndA l[j].1 o3 l[j].2.length k3) tNd)) = .ok v30 w31 ∧ _
    generalize w3.alloc (.cells (ndA l[j].1 o3 l[j].2.length k3) tNd) = w4 at *
    have O4 := O2.stp s4 (fun h => h) (fun h => h)
    have htl : (l.take j).length = j := by rw [List.length_take]; omega
    obtain ⟨o5, k5, w5, hr5, O5, s5⟩ := O4.push (by decide) N4 hlen32 b4 (by omega)
    have htk : l.take (j + 1) = l.take j ++ [(l[j].1, l[j].2)] := by rw [List.take_add_one, List.getElem?_eq_getElem hjl]; rfl
    refine ⟨_, w5, hr5, _, _, _, rfl, ⟨j + 1, _, by rw [wrap_i64_small (by omega) (by omega)]; omega, hjl, rfl, (s2.trans (s4.mono (fun _ h => h.elim))).trans s5, by rw [htk]; exact O5⟩, by dsimp only; rw [wrap_i64_small (by omega) (by omega)]; omega⟩
  · obtain rfl : j = l.length := by omega
    rw [List.take_length] at O1
    obtain ⟨_, us, hO, hC⟩ := O1
    have M1 : Vcg.Mod NoB w w1 := (s1.mod (Q := fun k => w.heap.size ≤ k) (fun k hk hs => Nat.not_lt.1 fun hlt => (labK_old hlt).1 hs)).mono (fun i hi h => by omega)
    have out : ∀ q, q = 2 ∨ q = 3 → ∀ z, z < w1.heap.size → L1 z = q → ext lab w.heap.size cr z = cr := fun q hq z hz he => by
      by_cases hlt : z < w.heap.size
      · rw [s1.lab z hlt] at he
        have : labK lab c w.heap.size z = 0 ∨ labK lab c w.heap.size z = 1 := by
          unfold labK
          rw [if_pos hlt]
          split
          · exact .inl rfl
          · exact .inr rfl
        rcases this with h | h <;> rw [h] at he <;> omega
      · exact ext_new (by omega)
    exact hR _ _ ⟨o1, k1, rfl, hO.own.cap.1, M1, rfl, us, CRow.re (COw.row hO) (out 2 (.inl rfl)), NdCells.re hC (out 3 (.inr rfl))⟩
/-- Two rows of nodes held against one another. -/
theorem hNodes_calls {l1 l2 : List (By × By)} {o1 o2 : Option Addr} {k1 k2 : Nat} (h1 : NdRow w lab c l1 o1 l1.length) (h2 : NdRow w lab c1 l2 o2 l2.length) (hlen : l1.length ≤ 2 ^ 20) :
    Calls Try.prog morainehelp_Nodes.n #[.slice o1 l1.length k1, .slice o2 l2.length k2] w (fun e w' => e = .returned (.bool (decide (l1 = l2))) ∧ Vcg.Mod NoB w w') := by
  refine calls_gen fun R hR => morainehelp_Nodes.vc _ _ _ _ _ _ _ _ ?_
  unfold morainehelp_Nodes.Vc
  obtain ⟨_, vs1, C1, N1⟩ := h1
  obtain ⟨_, vs2, C2, N2⟩ := h2
  have no : l1 ≠ l2 → ∀ w', Vcg.Mod NoB w w' → R (.returned (.bool false)) w' := fun hne w' M => hR _ _ ⟨by rw [decide_eq_false hne], M⟩
  refine ⟨fun hl => no (fun e => hl (by rw [e])) _ (Mod.refl w), fun hl => ?_⟩
  have hl' : l1.length = l2.length := by omega
  refine ⟨fun n w' => ∃ j : Nat, n = (j : Int) ∧ j ≤ l1.length ∧ Vcg.Mod NoB w w' ∧ l1.take j = l2.take j, fun n _ => ((l1.length : Int) - n).toNat, ⟨0, rfl, Nat.zero_le _, Mod.refl w, rfl⟩, ?_⟩
  rintro _ _ w1 ⟨j, rfl, hj, M, ht⟩
  refine ⟨fun hlt => ?_, fun hge => ?_⟩
  · rintro _ rfl
    have hj1 : j < l1.length := by omega
    have hj2 : j < l2.length := by omega
    have M2 := M.step_drew
    obtain ⟨g, f, rfl, hg, _, hrow⟩ := N1.hash C1 hj1
    obtain ⟨g', f', hgf, _, ob, kb, hcell, hby⟩ := N1.bytes C1 hj1
    cases hgf
    obtain ⟨p, q, rfl, hp, _, hrow2⟩ := N2.hash C2 hj2
    obtain ⟨p', q', hpq, _, ob2, kb2, hcell2, hby2⟩ := N2.bytes C2 hj2
    cases hpq
    have r1 : RowAt w1.drew (Addr.add ⟨g, f, none⟩ (Int.toNat (j : Int) * 33)) 32 (hashA l1[j].1) := by
      rw [add_at, Int.toNat_natCast]
      exact ⟨hrow.1, fun i hi => by rw [← hrow.2 i hi, add_at]; exact cell_mod M2 hg (fun h => h)⟩
    have r2 : RowAt w1.drew (Addr.add ⟨p, q, none⟩ (Int.toNat (j : Int) * 33)) 32 (hashA l2[j].1) := by
      rw [add_at, Int.toNat_natCast]
      exact ⟨hrow2.1, fun i hi => by rw [← hrow2.2 i hi, add_at]; exact cell_mod M2 hp (fun h => h)⟩
    have hdiff : l1[j] ≠ l2[j] → l1 ≠ l2 := fun h e => h (by simp only [e])
    refine ⟨_, rfl, ⟨by omega, by omega⟩, _, r1, _, rfl, ⟨by omega, by omega⟩, _, r2, _, hash_ne _ _ (N1.2 j hj1).1 (N2.2 j hj2).1, _, rfl, fun he => no (hdiff (fun e => of_decide_eq_true he (by rw [e]))) _ M2, fun he => ?_⟩
    have hh : l1[j].1 = l2[j].1 := Classical.not_not.1 (of_decide_eq_false he)
    refine ⟨_, rfl, ⟨by omega, by omega⟩, _, _, _, by rw [add_at, add_at, Int.toNat_natCast, Nat.add_assoc]; exact (cell_mod M2 hg (fun h => h)).trans hcell, _, toStr (hby.rd.mod' M2), _, rfl, _, rfl, ⟨by omega, by omega⟩, _, _, _, by rw [add_at, add_at, Int.toNat_natCast, Nat.add_assoc]; exact (cell_mod M2 hp (fun h => h)).trans hcell2, _, toStr (hby2.rd.mod' M2), _, rfl, fun hb => ?_, fun hb => ?_⟩
    · rw [strB_neq] at hb
      exact no (hdiff (fun e => of_decide_eq_true hb (by rw [e]))) _ M2
    · rw [strB_neq] at hb
      have hb' : l1[j].2 = l2[j].2 := Classical.not_not.1 (of_decide_eq_false hb)
      refine ⟨⟨j + 1, by rw [wrap_i64_small (by omega) (by omega)]; omega, hj1, M2, ?_⟩, by dsimp only; rw [wrap_i64_small (by omega) (by omega)]; omega⟩
      rw [List.take_add_one, List.take_add_one, ht, List.getElem?_eq_getElem hj1, List.getElem?_eq_getElem hj2, show l1[j] = l2[j] from Prod.ext hh hb']
  · have hjl : j = l1.length := by omega
    rw [hjl, List.take_length, hl', List.take_length] at ht
    exact hR _ _ ⟨by rw [decide_eq_true ht], M⟩
theorem COw.set {e : TypeId} {sz l k : Nat} {lab : Nat → C} (h : COw w lab c e sz o l k xs) {j : Nat} (hj : j < l * sz) {v : Value} (hv : v.oneCell' = true) :
    ∃ g, o = some ⟨g, 0, none⟩ ∧ CanSet w ⟨g, j, none⟩ v ∧ COw (w.setCell ⟨g, j, none⟩ v) lab c e sz o l k (xs.set j v) ∧ Stp (· = c) w lab (w.setCell ⟨g, j, none⟩ v) lab := by
  rcases h.own.2 with ⟨_, rfl, _⟩ | ⟨g, cur, rfl, hb, hlc, hcm, hcs, ht⟩
  · simp at hj
  · have hle : l * sz ≤ k * sz := Nat.mul_le_mul_right _ hlc
    have hg : lab g = c := h.clr g ⟨_, rfl, rfl⟩
    refine ⟨g, rfl, hb.canSet (by rw [hcs]; omega) hv, ⟨⟨by rw [List.length_set]; exact h.own.1, .inr ⟨g, _, rfl, hb.set j v, hlc, hcm, by simpa using hcs, ?_⟩⟩, h.clr⟩, Stp.setCell hg⟩
    rw [Array.toList_setIfInBounds, List.take_set, ht]
/-- Bytes of one's own that are written over. -/
theorem Spoil_calls {l k : Nat} (h : COw w lab c tU8 1 o l k xs) (hl : l ≤ 2 ^ 40) :
    Calls Try.prog morainehelp_Spoil.n #[.slice o l k] w (fun e w' => e = .returned (.tuple #[]) ∧ Stp (· = c) w lab w' lab) := by
  refine morainehelp_Spoil.vc _ _ _ _ _ ?_
  unfold morainehelp_Spoil.Vc
  refine ⟨fun n w' => ∃ (j : Nat) (ys : List Value), n = (j : Int) ∧ j ≤ l ∧ COw w' lab c tU8 1 o l k ys ∧ Stp (· = c) w lab w' lab, fun n _ => ((l : Int) - n).toNat, ⟨0, xs, rfl, Nat.zero_le _, h, Stp.refl _ _ _⟩, ?_⟩
  rintro _ _ w1 ⟨j, ys, rfl, hj, O, s⟩
  refine ⟨fun hlt => ?_, fun _ => ⟨rfl, s⟩⟩
  obtain ⟨g, rfl, hset, O2, s2⟩ := COw.set (v := .int .u8 238) O (j := j) (by omega) rfl
  refine ⟨_, rfl, ⟨by omega, by omega⟩, by rw [add_at, Int.toNat_natCast, Nat.zero_add]; exact hset, ?_⟩
  intro w2 hw2
  rw [add_at, Int.toNat_natCast, Nat.zero_add] at hw2
  cases hw2
  exact ⟨⟨j + 1, _, by rw [wrap_i64_small (by omega) (by omega)]; omega, by omega, O2, s.trans s2⟩, by dsimp only; rw [wrap_i64_small (by omega) (by omega)]; omega⟩
end
end Go.Proofs.Ytfghidehlnfdiaa
end

section
set_option linter.unusedVariables false
namespace Go.Proofs.Ytfghidehlnfdiaa
open Go Go.Vcg
/-! moraine/morainelaw14.known: 37 -/
abbrev morainelaw14_known.n : Nat := 37
def morainelaw14_known.Vc  (w : World) (R : Ending → World → Prop) : Prop :=
  Calls Try.prog 52 #[] w (fun e0 w1 =>
    ∃ L2 : Array Value, e0 = .returned (.agg L2) ∧
    Calls Try.prog 51 #[(.agg L2), (.slice none 0 0)] w1 (fun e3 w4 =>
      ∃ o5 : Option Addr, e3 = .returned (.pointer o5) ∧
      (((o5 = none →
        R (.returned (.bool false)) w4)) ∧
       ((o5 ≠ none →
        ∀ (d6 : Addr) (w7 : World), IsNew w4 5 #[(.int .u8 100), (.int .u8 111)] d6 w7 →
        ∃ (v8 : Value) (w9 : World), Sem.run Try.prog (convert 22 22 (.slice (some d6) 2 2)) w7 = .ok v8 w9 ∧
        ∃ o10 : Option Addr, ∃ l11 : Nat, ∃ l12 : Nat, v8 = (.slice o10 l11 l12) ∧
        ∀ (d13 : Addr) (w14 : World), IsNew w9 5 #[(.int .u8 118), (.int .u8 101), (.int .u8 114), (.int .u8 98)] d13 w14 →
        ∃ (v15 : Value) (w16 : World), Sem.run Try.prog (convert 22 22 (.slice (some d13) 4 4)) w14 = .ok v15 w16 ∧
        ∃ o17 : Option Addr, ∃ l18 : Nat, ∃ l19 : Nat, v15 = (.slice o17 l18 l19) ∧
        Calls Try.prog 55 #[(.pointer o5), (.slice o10 l11 l12), (.slice o17 l18 l19)] w16 (fun e20 w21 =>
          ∃ n22 : Int, e20 = .returned (.int .i64 n22) ∧
          (((n22 ≠ 0 →
            R (.returned (.bool false)) w21)) ∧
           ((n22 = 0 →
            ∀ (d23 : Addr) (w24 : World), IsNew w21 5 #[(.int .u8 100), (.int .u8 111), (.int .u8 103)] d23 w24 →
            ∃ (v25 : Value) (w26 : World), Sem.run Try.prog (convert 22 22 (.slice (some d23) 3 3)) w24 = .ok v25 w26 ∧
            ∃ o27 : Option Addr, ∃ l28 : Nat, ∃ l29 : Nat, v25 = (.slice o27 l28 l29) ∧
            ∀ (d30 : Addr) (w31 : World), IsNew w26 5 #[(.int .u8 112), (.int .u8 117), (.int .u8 112), (.int .u8 112), (.int .u8 121)] d30 w31 →
            ∃ (v32 : Value) (w33 : World), Sem.run Try.prog (convert 22 22 (.slice (some d30) 5 5)) w31 = .ok v32 w33 ∧
            ∃ o34 : Option Addr, ∃ l35 : Nat, ∃ l36 : Nat, v32 = (.slice o34 l35 l36) ∧
            Calls Try.prog 55 #[(.pointer o5), (.slice o27 l28 l29), (.slice o34 l35 l36)] w33 (fun e37 w38 =>
              ∃ n39 : Int, e37 = .returned (.int .i64 n39) ∧
              (((n39 ≠ 0 →
                R (.returned (.bool false)) w38)) ∧
               ((n39 = 0 →
                ∀ (d40 : Addr) (w41 : World), IsNew w38 5 #[(.int .u8 100), (.int .u8 111), (.int .u8 103), (.int .u8 101)] d40 w41 →
                ∃ (v42 : Value) (w43 : World), Sem.run Try.prog (convert 22 22 (.slice (some d40) 4 4)) w41 = .ok v42 w43 ∧
                ∃ o44 : Option Addr, ∃ l45 : Nat, ∃ l46 : Nat, v42 = (.slice o44 l45 l46) ∧
                ∀ (d47 : Addr) (w48 : World), IsNew w43 5 #[(.int .u8 99), (.int .u8 111), (.int .u8 105), (.int .u8 110)] d47 w48 →
                ∃ (v49 : Value) (w50 : World), Sem.run Try.prog (convert 22 22 (.slice (some d47) 4 4)) w48 = .ok v49 w50 ∧
                ∃ o51 : Option Addr, ∃ l52 : Nat, ∃ l53 : Nat, v49 = (.slice o51 l52 l53) ∧
                Calls Try.prog 55 #[(.pointer o5), (.slice o44 l45 l46), (.slice o51 l52 l53)] w50 (fun e54 w55 =>
                  ∃ n56 : Int, e54 = .returned (.int .i64 n56) ∧
                  (((n56 ≠ 0 →
                    R (.returned (.bool false)) w55)) ∧
                   ((n56 = 0 →
                    ∀ (d57 : Addr) (w58 : World), IsNew w55 5 #[(.int .u8 104), (.int .u8 111), (.int .u8 114), (.int .u8 115), (.int .u8 101)] d57 w58 →
                    ∃ (v59 : Value) (w60 : World), Sem.run Try.prog (convert 22 22 (.slice (some d57) 5 5)) w58 = .ok v59 w60 ∧
                    ∃ o61 : Option Addr, ∃ l62 : Nat, ∃ l63 : Nat, v59 = (.slice o61 l62 l63) ∧
                    ∀ (d64 : Addr) (w65 : World), IsNew w60 5 #[(.int .u8 115), (.int .u8 116), (.int .u8 97), (.int .u8 108), (.int .u8 108), (.int .u8 105), (.int .u8 111), (.int .u8 110)] d64 w65 →
                    ∃ (v66 : Value) (w67 : World), Sem.run Try.prog (convert 22 22 (.slice (some d64) 8 8)) w65 = .ok v66 w67 ∧
                    ∃ o68 : Option Addr, ∃ l69 : Nat, ∃ l70 : Nat, v66 = (.slice o68 l69 l70) ∧
                    Calls Try.prog 55 #[(.pointer o5), (.slice o61 l62 l63), (.slice o68 l69 l70)] w67 (fun e71 w72 =>
                      ∃ n73 : Int, e71 = .returned (.int .i64 n73) ∧
                      (((n73 ≠ 0 →
                        R (.returned (.bool false)) w72)) ∧
                       ((n73 = 0 →
                        Calls Try.prog 54 #[(.pointer o5)] w72 (fun e74 w75 =>
                          ∃ L76 : Array Value, e74 = .returned (.agg L76) ∧
                          ∀ (d77 : Addr) (w78 : World), IsNew w75 26 (Array.replicate 32 (.int .u8 0)) d77 w78 →
                          ∃ w79 : World, Sem.run Try.prog (Instr.storeAt 26 (.pointer (some d77)) (.agg L76)) w78 = .ok () w79 ∧
                          ∀ (d80 : Addr) (w81 : World), IsNew w79 5 #[(.int .u8 100), (.int .u8 111), (.int .u8 103)] d80 w81 →
                          ∃ (v82 : Value) (w83 : World), Sem.run Try.prog (convert 22 22 (.slice (some d80) 3 3)) w81 = .ok v82 w83 ∧
                          ∃ o84 : Option Addr, ∃ l85 : Nat, ∃ l86 : Nat, v82 = (.slice o84 l85 l86) ∧
                          Calls Try.prog 61 #[(.pointer o5), (.slice o84 l85 l86)] w83 (fun e87 w88 =>
                            ∃ o89 : Option Addr, ∃ l90 : Nat, ∃ l91 : Nat, ∃ b92 : Bool, ∃ n93 : Int, e87 = .returned (.tuple #[(.slice o89 l90 l91), (.bool b92), (.int .i64 n93)]) ∧
                            ∃ n94 : Int, World.cell? w88 d77 = some (.int .u8 n94) ∧
                            (((n94 = 89 →
                              ∃ n95 : Int, World.cell? w88 (Addr.add d77 1) = some (.int .u8 n95) ∧
                              (((n95 = 145 →
                                ∃ n96 : Int, World.cell? w88 (Addr.add d77 31) = some (.int .u8 n96) ∧
                                (((n96 = 132 →
                                  (((b92 = true →
                                    (((n93 = 0 →
                                      ∃ v97 : Value, Sem.run Try.prog (convert 22 9 (.slice o89 l90 l91)) w88 = .ok v97 w88 ∧
                                      ∃ s98 : ByteArray, v97 = (.string s98) ∧
                                      (((strB .eql s98 ⟨#[112, 117, 112, 112, 121]⟩ = true →
                                        Calls Try.prog 52 #[] w88 (fun e99 w100 =>
                                          ∃ L101 : Array Value, e99 = .returned (.agg L101) ∧
                                          Calls Try.prog 83 #[] w100 (fun e102 w103 =>
                                            ∃ L104 : Array Value, e102 = .returned (.agg L104) ∧
                                            ∃ v105 : Value, Sem.run Try.prog (semBin .eql 26 (.tmp 82) (.tmp 83) (.agg L101) (.agg L104)) w103 = .ok v105 w103 ∧
                                            ∃ b106 : Bool, v105 = (.bool b106) ∧
                                            R (.returned (.bool b106)) w103)))) ∧
                                       ((strB .eql s98 ⟨#[112, 117, 112, 112, 121]⟩ = false →
                                        R (.returned (.bool false)) w88))))) ∧
                                     ((n93 ≠ 0 →
                                      R (.returned (.bool false)) w88))))) ∧
                                   ((b92 = false →
                                    R (.returned (.bool false)) w88))))) ∧
                                 ((n96 ≠ 132 →
                                  R (.returned (.bool false)) w88))))) ∧
                               ((n95 ≠ 145 →
                                R (.returned (.bool false)) w88))))) ∧
                             ((n94 ≠ 89 →
                              R (.returned (.bool false)) w88))))))))))))))))))))))))))
theorem morainelaw14_known.vc  (w : World) (R : Ending → World → Prop) (h : morainelaw14_known.Vc w R) : Calls Try.prog 37 #[] w R :=
  execF_sound (ann := []) (args := []) Try.func37 mixed (Eq.mp (by kernel_rfl : morainelaw14_known.Vc w R = execF (pA Try.prog R) Try.prog [] Try.f37 [] w) h)

end Go.Proofs.Ytfghidehlnfdiaa
end

section
namespace Go.Vcg
def lk (l : List (BitVec 64)) : St := fun i => l.getD i 0
theorem rnd_congr {s r : St} (n : Nat) (h : ∀ i, i < 25 → s i = r i) : ∀ j, j < 25 → rnd n s j = rnd n r j := by
  have hp : ∀ x, x < 5 → par s x = par r x := fun x hx => by
    simp only [par, parK]
    rw [h (x + 5 * 0) (by omega), h (x + 5 * 1) (by omega), h (x + 5 * 2) (by omega), h (x + 5 * 3) (by omega), h (x + 5 * 4) (by omega)]
  have hb : ∀ j, j < 25 → bbK s j = bbK r j := fun j hj => by
    simp only [bbK, bbXY, ddK]
    rw [h _ (by omega), hp _ (by omega), hp _ (by omega)]
  have hc : ∀ j, j < 25 → chiK (bbK s) j = chiK (bbK r) j := fun j hj => by
    simp only [chiK]
    rw [hb _ (by omega), hb _ (by omega), hb _ (by omega)]
  intro j hj
  simp only [rnd]
  rw [hc 0 (by omega), hc j hj]
end Go.Vcg
end
