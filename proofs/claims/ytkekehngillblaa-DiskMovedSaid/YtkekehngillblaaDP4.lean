/- The program's disk: which file a call is about; how many bytes there are. -/
import Derived.Test.YtkekehngillblaaDP3
set_option linter.unusedVariables false
set_option linter.unusedSimpArgs false
namespace Go.Proofs.Ytkekehngillblaa
open Go Go.Vcg Go.Disk
section
variable {C : Type} {w w' : World} {lab : Nat → C} {γ : DC → C} {d : Nat} {σ : Dk}
variable {mN mS : Nat} {po : Option Addr} {pl pc : Nat} {fb : Nat → Nat} {names sure : List (Nm × Nat)} {pend : List Chg} {files : Nat} {fs : Nat → Fl}

/-- A file was found: v points to it. -/
def Opened (γ : DC → C) (d : Nat) (w : World) (lab : Nat → C) (w' : World) (σ : Dk) (f : Nat) (v : Value) : Prop :=
  ∃ lab' mN mS po pl pc fb, CB w' lab' (γ .disk) d tDisk (diskA σ.cap mN mS po pl pc σ.files σ.count σ.fail σ.halt σ.down) ∧ DRest w' lab' γ mN mS po pl pc fb σ.names σ.sure σ.pend σ.files σ.fs ∧ v = fileV fb f ∧ Stp (SD γ) w lab w' lab'
def chkN (σ : Dk) (s : Nm) (l : List Nm) : Int := if right s = true ∧ l.all right = true then (if (assoc s σ.names).isSome then 0 else 13) else 11
def chk (σ : Dk) (s : Nm) (l : List Nm) : Int := if (begins σ).2 = 0 then chkN (begins σ).1 s l else (begins σ).2
theorem chkN_nil (σ : Dk) (s : Nm) : chkN σ s [] = (named σ s).2 := by
  unfold chkN named
  by_cases h : right s = true
  · rw [if_pos ⟨h, rfl⟩, if_pos h]
    cases assoc s σ.names <;> rfl
  · rw [if_neg (fun g => h g.1), if_neg h]
theorem named_fst {σ : Dk} {s : Nm} {f : Nat} (h : right s = true) (hf : assoc s σ.names = some f) : (named σ s).1 = f := by
  unfold named; rw [if_pos h, hf]
theorem named_zero {σ : Dk} {s : Nm} (h : (named σ s).2 = 0) : right s = true ∧ assoc s σ.names = some (named σ s).1 := by
  unfold named at h ⊢
  split at h
  · rename_i hr
    split at h
    · rename_i f hf
      rw [if_pos hr, hf]
      exact ⟨hr, rfl⟩
    · cases h
  · cases h

/-- What a call that looks for a file answers. -/
def Found (γ : DC → C) (d : Nat) (w : World) (lab : Nat → C) (σ : Dk) (s : Nm) (n0 : Int) (e : Ending) (w' : World) : Prop :=
  ∃ o n, e = .returned (.tuple #[.pointer o, .int .i64 n]) ∧ n = n0 ∧ DRes γ d w lab w' σ ∧ (n = 0 → ∃ f, assoc s σ.names = some f ∧ right s = true ∧ Opened γ d w lab w' σ f (.pointer o))

theorem named_calls' (h : DAt w lab γ d σ) (s : Nm) {o : Option Addr} {c : Nat} (l : List Nm) (hl : Seconds w o l) :
    Calls Try.prog disk_Disk_named.n #[.pointer (some ⟨d, 0, none⟩), .string s, .slice o l.length c] w (Found γ d w lab σ s (chkN σ s l)) := by
  refine (named_calls h s l hl).mono ?_
  rintro e w' ⟨h1, h2, h3, h4⟩
  unfold chkN
  by_cases hr : right s = true ∧ l.all right = true
  · rw [if_pos hr]
    cases hf : assoc s σ.names with
    | none =>
      refine ⟨none, 13, h3 hr.1 hr.2 hf, rfl, h1, fun h => by cases h⟩
    | some f =>
      obtain ⟨mN, mS, po, pl, pc, fb, B, Rt, he, M⟩ := h2 hr.1 hr.2 f hf
      refine ⟨some ⟨fb f, 0, none⟩, 0, he, rfl, h1, fun _ => ⟨f, hf, hr.1, ?_⟩⟩
      have sN : Stp NoC w lab w' (ext lab w.heap.size (γ .froz)) := Stp.of_nob M _
      exact ⟨_, mN, mS, po, pl, pc, fb, B.stp sN (fun h => h), Rt.stp sN (fun _ _ h => h), rfl, sN.mono (fun _ h => h.elim)⟩
  · rw [if_neg hr]
    exact ⟨none, 11, h4 hr, rfl, h1, fun h => by cases h⟩

theorem Found.then {lab1 : Nat → C} {w'' : World} {s : Nm} {n0 : Int} {e : Ending} (st : Stp (SD γ) w lab w' lab1) (h : Found γ d w' lab1 σ s n0 e w'') : Found γ d w lab σ s n0 e w'' := by
  obtain ⟨o, n, he, hn, hD, hf⟩ := h
  refine ⟨o, n, he, hn, hD.then st, fun h0 => ?_⟩
  obtain ⟨f, h1, h2, lab2, mN, mS, po, pl, pc, fb, B, Rt, hv, s2⟩ := hf h0
  exact ⟨f, h1, h2, lab2, mN, mS, po, pl, pc, fb, B, Rt, hv, st.trans s2⟩

theorem changing_calls (hγ : ∀ a b, γ a = γ b → a = b) (h : DAt w lab γ d σ) (hn : Nums σ) (s : Nm) {o : Option Addr} {c : Nat} (l : List Nm) (hl : Seconds w o l) (hoff : ∀ x, o = some x → l ≠ [] → ¬ SD γ (lab x.block)) :
    Calls Try.prog disk_Disk_changing.n #[.pointer (some ⟨d, 0, none⟩), .string s, .slice o l.length c] w (Found γ d w lab (begins σ).1 s (chk σ s l)) := by
  refine disk_Disk_changing.vc _ _ _ _ _ _ _ ?_
  unfold disk_Disk_changing.Vc
  refine (begins_calls hγ h hn).mono ?_
  rintro _ w1 ⟨rfl, lab1, D1, s1⟩
  unfold chk
  refine ⟨_, rfl, fun hne => ?_, fun h0 => ?_⟩
  · rw [if_neg hne]
    exact ⟨none, _, rfl, rfl, ⟨lab1, D1, s1⟩, fun h => (hne h).elim⟩
  · rw [if_pos h0]
    have hl1 : Seconds w1 o l := by
      match l, hl with
      | [], _ => trivial
      | [x], ⟨b, t, ho, B⟩ =>
        have hc := hoff _ ho (by simp)
        exact ⟨b, t, ho, (s1.block b B.lt hc).trans B⟩
      | _ :: _ :: _, h => exact h.elim
    refine (named_calls' D1 s l hl1).mono ?_
    intro e w2 hF
    have hF' := hF.then s1
    obtain ⟨o, n, rfl, hn', hD, hf⟩ := hF'
    exact ⟨_, _, rfl, o, n, rfl, hn', hD, hf⟩

theorem asked_calls (h : DAt w lab γ d σ) (s : Nm) :
    Calls Try.prog disk_Disk_asked.n #[.pointer (some ⟨d, 0, none⟩), .string s] w (Found γ d w lab σ s (asked σ s).2) := by
  have h' := h
  obtain ⟨mN, mS, po, pl, pc, fb, B, Rt⟩ := h
  refine calls_gen fun R hR => disk_Disk_asked.vc _ _ _ _ ?_
  unfold disk_Disk_asked.Vc
  simp only [add_at, Nat.zero_add]
  refine ⟨_, B.blk.rd1 rfl, fun hd => hR _ _ ?_, fun hd => ?_⟩
  · unfold asked
    rw [if_pos hd]
    exact ⟨none, 17, rfl, rfl, h'.res (Mod.refl _), fun h => by cases h⟩
  · have hd' : ¬ σ.down = true := by rw [hd]; simp
    refine (named_calls' h' s (o := none) (c := 0) [] trivial).mono ?_
    intro e w2 hF
    rw [chkN_nil] at hF
    obtain ⟨o, n, rfl, hn', hD, hf⟩ := hF
    refine ⟨_, _, rfl, hR _ _ ?_⟩
    unfold asked
    rw [if_neg hd']
    exact ⟨o, n, rfl, hn', hD, hf⟩

/-! ### how many bytes -/
theorem nodup_lt : ∀ (n : Nat) (l : List Nat), l.Nodup → (∀ x ∈ l, x < n) → l.length ≤ n
  | 0, [], _, _ => Nat.le_refl _
  | 0, x :: _, _, h => absurd (h x (List.mem_cons_self ..)) (Nat.not_lt_zero _)
  | n + 1, l, hd, h => by
    have h1 := nodup_lt n (l.erase n) (hd.erase n) (fun x hx => by
      have h2 := (hd.mem_erase_iff).1 hx
      have := h x h2.2
      omega)
    have h2 : l.length ≤ (l.erase n).length + 1 := by rw [List.length_erase]; split <;> omega
    omega
theorem Used_calls (h : DAt w lab γ d σ) (hk : Ok σ) :
    Calls Try.prog disk_Disk_Used.n #[.pointer (some ⟨d, 0, none⟩)] w (fun e w' => e = .returned (.int .i64 (used σ : Int)) ∧ Vcg.Mod NoB w w') := by
  obtain ⟨mN, mS, po, pl, pc, fb, B, Rt⟩ := h
  refine calls_gen fun R hR => disk_Disk_Used.vc _ _ _ ?_
  unfold disk_Disk_Used.Vc
  simp only [add_at, Nat.zero_add]
  obtain ⟨es, hm, hp⟩ := Rt.names
  obtain ⟨e, he, hz⟩ := und_naming
  obtain ⟨ob, hr, hI⟩ := hm.map.range he
  refine ⟨_, B.blk.rd1 rfl, _, _, hr, ?_⟩
  have M1 := Mod.alloc (S := NoB) w ob
  generalize hw1 : w.alloc ob = w1 at *
  have hs1 : w1.heap.size = w.heap.size + 1 := by rw [← hw1]; simp
  generalize hit : w.heap.size = it at *
  -- the bytes of the entries that are left
  let rest : List (Nm × Nat) → Nat := fun t => (t.map fun x => (σ.fs x.2).bytes.length).sum
  have hlen : ∀ x ∈ σ.names, (σ.fs x.2).bytes.length ≤ most := fun x hx => (hk.size x.2 (hk.names.files x hx)).2
  have hcount : σ.names.length ≤ 1048576 := by
    have h1 := nodup_lt σ.files (σ.names.map Prod.snd) hk.names.vals (fun x hx => by obtain ⟨y, hy, rfl⟩ := List.mem_map.1 hx; exact hk.names.files y hy)
    rw [List.length_map] at h1
    have := hk.files; omega
  have hle : ∀ t : List (Nm × Nat), (∀ x ∈ t, x ∈ σ.names) → rest t ≤ t.length * 67108864 := by
    intro t ht
    induction t with
    | nil => simp [rest]
    | cons x t ih =>
      have h1 := ih (fun y hy => ht y (List.mem_cons_of_mem _ hy))
      have h2 := hlen x (ht x (List.mem_cons_self ..))
      simp only [most] at h2
      simp only [rest, List.map_cons, List.sum_cons, List.length_cons] at h1 ⊢
      omega
  have htot : rest σ.names ≤ 2 ^ 46 := by have := hle σ.names (fun _ h => h); omega
  refine ⟨fun n w' => ∃ (n' : Nat) (t : List (Nm × Nat)) (es' : List (Nm × Value)), n = (n' : Int) ∧ es'.Perm (t.map fun x => (x.1, fileV fb x.2)) ∧ IterAt Value.string w' it mN es' ∧ Vcg.Mod NoB w w' ∧ n' + rest t = rest σ.names ∧ ∀ x ∈ t, x ∈ σ.names,
    fun n w' => leftN w' mN it, ⟨0, σ.names, es, rfl, hp, hI, M1, by omega, fun _ h => h⟩, ?_⟩
  rintro _ _ w2 ⟨n', t, es', rfl, hp', hI', M', hsum, hmem⟩
  rcases hI'.next 0 with ⟨hnil, hrun⟩ | ⟨k, v, es2, w3, hperm, hrun, hI2, M3, hent⟩
  · subst hnil
    have ht : t = [] := by
      have := hp'.length_eq
      simp at this
      exact List.eq_nil_of_length_eq_zero this.symm
    subst ht
    refine ⟨_, _, hrun, .bool false, rfl, false, rfl, (fun h => by cases h), fun _ => hR _ _ ⟨?_, M'⟩⟩
    have : n' = used σ := by simp only [rest, List.map_nil, List.sum_nil, Nat.add_zero] at hsum; exact hsum
    rw [this]
  · refine ⟨_, _, hrun, .bool true, rfl, true, rfl, fun _ => ?_, (fun h => by cases h)⟩
    refine ⟨_, _, hent, _, rfl, ?_⟩
    -- the file that it is
    have hkv : (k, v) ∈ t.map fun x => (x.1, fileV fb x.2) := hp'.mem_iff.1 (hperm.mem_iff.2 (List.mem_cons_self ..))
    obtain ⟨j, hj, hjx⟩ := List.getElem_of_mem hkv
    have hjt : j < t.length := by simpa using hj
    have hx : (t[j].1, fileV fb t[j].2) = (k, v) := by rw [← hjx]; simp
    have htp := perm_erase t j hjt
    have hxm := hmem t[j] (List.getElem_mem hjt)
    have hfl := hk.names.files _ hxm
    generalize hxx : t[j] = x at *
    cases hx
    have hes2 : es2.Perm ((t.eraseIdx j).map fun x => (x.1, fileV fb x.2)) := by
      have h1 := hperm.symm.trans (hp'.trans (htp.map fun x => (x.1, fileV fb x.2)))
      exact List.Perm.cons_inv h1
    have hM3 : Vcg.Mod NoB w w3 := M'.trans M3 (fun i hi h => by simp only [hit] at hi; omega)
    have hF : ∃ o l k, w3.cell? ⟨fb x.2, 1, none⟩ = some (.slice o l k) ∧ l = (σ.fs x.2).bytes.length := by
      obtain ⟨o, l, k, so, sl, sc, po, pl, pc, vs, hf⟩ := Rt.files x.2 hfl
      exact ⟨o, l, k, (hf.cells.blk.mod' hM3).rd1 rfl, by have := hf.bytes.own.len; simpa using this.symm⟩
    obtain ⟨o, l, kk, hc, hl⟩ := hF
    have hrest : rest t = (σ.fs x.2).bytes.length + rest (t.eraseIdx j) := by
      have := (htp.map fun x => (σ.fs x.2).bytes.length).sum_nat
      simpa [rest] using this
    have h1 := hI2.left
    have h2 := hI'.left
    have h3 := hperm.length_eq
    have hb : n' + (σ.fs x.2).bytes.length ≤ 2 ^ 46 := by omega
    refine ⟨some ⟨fb x.2, 0, none⟩, rfl, _, rfl, o, l, kk, ?_, ⟨n' + (σ.fs x.2).bytes.length, t.eraseIdx j, es2, ?_, hes2, hI2, hM3, by omega, fun y hy => hmem y ((List.eraseIdx_sublist _ _).subset hy)⟩, ?_⟩
    · rw [add_at, Nat.zero_add]; exact hc
    · rw [hl, wrap_i64_small (by omega) (by omega)]; omega
    · show leftN w3 mN it < leftN w2 mN it
      rw [List.length_cons] at h3
      omega
end
end Go.Proofs.Ytkekehngillblaa
