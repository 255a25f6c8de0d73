/- Ways from a root down to a key, through nodes that are told by their hashes: plain Lean. -/
/- Functions with deferred calls: their condition, and that it is enough. -/
/- The verification conditions of some functions, printed by a program of ours (wip/PrintVc.lean). -/
import Derived.Test.YtfghidehlnfdiaaDD14
import Derived.Test.YtfghidehlnfdiaaTV
import Derived.Defers
import Derived.Test.YtfghidehlnfdiaaProg
import Derived.KernelRfl
set_option linter.unusedVariables false
set_option linter.unusedSimpArgs false
section
namespace Go.Proofs.Ytfghidehlnfdiaa
open Go Go.Vcg Go.Trie
theorem hd_err {b : By} {e : Int} (h : Trie.hd b = .error e) : e ≠ 0 := by
  unfold Trie.hd at h
  simp only at h
  split at h
  · cases h
  · generalize (if (b.getD 0 0).toNat ≥ 192 then 192 else 128) = base at *
    split at h
    · cases h
    · split at h
      · cases h; decide
      · split at h
        · cases h; decide
        · cases h
theorem err_0 : ∀ (f : Nat), (∀ d n b, 2 * b.length + 1 ≤ f → dcd f d n b ≠ .error 0) ∧ (∀ d n b, 2 * b.length + 2 ≤ f → dcds f d n b ≠ .error 0)
  | 0 => ⟨fun d n b h => absurd h (by omega), fun d n b h => absurd h (by omega)⟩
  | f + 1 => by
    have ih := err_0 f
    refine ⟨fun d n b hf he => ?_, fun d n b hf he => ?_⟩
    · by_cases hb : b = []
      · subst hb; rw [dcd_nil] at he; cases he
      · by_cases hd : d > 16 ∨ n = 4096
        · rw [dcd_deep hb hd] at he; cases he
        · rw [dcd_go hb hd] at he
          cases hh : Trie.hd b with
          | error e =>
            rw [hh] at he
            simp only at he
            cases he
            exact hd_err hh rfl
          | ok r =>
            obtain ⟨lst, a, k, ow⟩ := r
            rw [hh] at he
            simp only at he
            obtain ⟨g1, g2⟩ := hd_at hh hb
            split at he
            · cases he
            · rename_i hk
              split at he
              · split at he
                · cases he
                · cases he
              · rename_i hl
                have how : ow = false := by
                  cases ow with
                  | false => rfl
                  | true => exact absurd (g1 rfl).1 hl
                obtain ⟨ha, hal, _⟩ := g2 how
                have hlen : ((b.drop a).take k).length ≤ b.length - a := by rw [List.length_take, List.length_drop]; omega
                cases hs : dcds f (d + 1) (n + 1) ((b.drop a).take k) with
                | error e =>
                  rw [hs] at he
                  simp only at he
                  cases he
                  exact ih.2 _ _ _ (by omega) hs
                | ok r => rw [hs] at he; cases he
    · by_cases hb : b = []
      · subst hb; rw [dcds_nil] at he; cases he
      · rw [dcds_go hb] at he
        cases hx : dcd f d n b with
        | error e =>
          rw [hx] at he
          simp only at he
          cases he
          exact ih.1 _ _ _ (by omega) hx
        | ok r =>
          obtain ⟨x, k, m⟩ := r
          rw [hx] at he
          simp only at he
          obtain ⟨a1, a2, _⟩ := (dec_ok _ _ _ _).1 _ _ _ hx
          cases hs : dcds f d m (b.drop k) with
          | error e =>
            rw [hs] at he
            simp only at he
            cases he
            exact ih.2 _ _ _ (by rw [List.length_drop]; omega) hs
          | ok r => rw [hs] at he; cases he
theorem dec_err0 {b : By} {x : Int} (h : dcod b = .error x) : x ≠ 0 := by
  unfold dcod at h
  split at h
  · cases h; decide
  · cases hd : dcd (2 * b.length + 1) 1 0 b with
    | error e =>
      rw [hd] at h
      simp only at h
      cases h
      rintro rfl
      exact (err_0 _).1 _ _ _ (Nat.le_refl _) hd
    | ok r =>
      obtain ⟨y, k, m⟩ := r
      rw [hd] at h
      simp only at h
      split at h
      · cases h; decide
      · cases h
def itB : It → By
  | .s b => b
  | .l _ => []
def Good (x : It) : Prop := x = .s [] ∨ (∃ b, x = .s b ∧ b.length = 32) ∨ ∃ xs g, x = .l xs ∧ nodeN g xs = true ∧ Fine (.l xs)
theorem Good.nil : Good (.s []) := .inl rfl
theorem Good.hash {b : By} (h : b.length = 32) : Good (.s b) := .inr (.inl ⟨b, rfl, h⟩)
theorem Good.node {xs : List It} (h : Good (.l xs)) : ∃ g, nodeN (g + 1) xs = true ∧ Fine (.l xs) := by
  rcases h with h | ⟨b, h, _⟩ | ⟨ys, g, h, h1, h2⟩
  · cases h
  · cases h
  · cases h
    cases g with
    | zero => simp [nodeN] at h1
    | succ g => exact ⟨g, h1, h2⟩
theorem Good.str {b : By} (h : Good (.s b)) : b = [] ∨ b.length = 32 := by
  rcases h with h | ⟨b, h, h'⟩ | ⟨ys, g, h, h1, h2⟩
  · cases h; exact .inl rfl
  · cases h; exact .inr h'
  · cases h
theorem good_ref {g : Nat} {x : It} (h : refN g x = true) (hf : Fine x) : Good x ∧ isE x = false := by
  refine ⟨?_, ref_notE h⟩
  cases x with
  | s b => simp only [refN, decide_eq_true_eq] at h; exact .hash h
  | l xs =>
    simp only [refN, Bool.and_eq_true] at h
    exact .inr (.inr ⟨xs, g, rfl, h.2, hf⟩)
theorem Good.two {xs : List It} (h : Good (.l xs)) (h2 : xs.length = 2) : ∃ p lf, headIs (xs.getD 0 (.s [])) = some (p, lf) ∧ (lf = true → ∃ v, xs.getD 1 (.s []) = .s v ∧ v ≠ []) ∧ (lf = false → p ≠ [] ∧ Good (xs.getD 1 (.s [])) ∧ isE (xs.getD 1 (.s [])) = false) := by
  obtain ⟨g, hn, hf⟩ := h.node
  rw [nodeN_two h2] at hn
  have hm : xs.getD 1 (.s []) ∈ xs := by rw [getD_at (by omega)]; exact List.getElem_mem (by omega)
  split at hn
  · cases hn
  · rename_i p he
    refine ⟨p, true, he, fun _ => ?_, fun h => by cases h⟩
    generalize xs.getD 1 (.s []) = y at hn
    cases y with
    | l ys => cases hn
    | s v =>
      cases v with
      | nil => cases hn
      | cons a r => exact ⟨_, rfl, by simp⟩
  · rename_i p he
    simp only [Bool.and_eq_true, decide_eq_true_eq] at hn
    exact ⟨p, false, he, fun h => (by cases h), fun _ => ⟨hn.1, good_ref hn.2 (hf.mem hm)⟩⟩
theorem Good.many {xs : List It} (h : Good (.l xs)) (h2 : xs.length ≠ 2) : xs.length = 17 ∧ (∃ v, xs.getD 16 (.s []) = .s v) ∧ ∀ j, j < 16 → Good (xs.getD j (.s [])) := by
  obtain ⟨g, hn, hf⟩ := h.node
  have h17 : xs.length = 17 := by
    by_cases h17 : xs.length = 17
    · exact h17
    · rw [nodeN_no h2 h17] at hn; cases hn
  rw [nodeN_many h17] at hn
  split at hn
  · cases hn
  · rename_i v he
    rw [Bool.and_eq_true, List.all_eq_true] at hn
    refine ⟨h17, ⟨v, he⟩, fun j hj => ?_⟩
    rw [getD_at (by omega)]
    have hm : xs[j] ∈ xs := List.getElem_mem (by omega)
    have := hn.1 (xs[j]'(by omega)) (by rw [List.mem_take_iff_getElem]; exact ⟨j, by omega, rfl⟩)
    rw [Bool.or_eq_true] at this
    rcases this with h | h
    · generalize xs[j] = y at h
      cases y with
      | l ys => cases h
      | s b =>
        cases b with
        | nil => exact .nil
        | cons a r => cases h
    · exact (good_ref h (hf.mem hm)).1
theorem good_of {b : By} {x : It} (h : dcod b = .ok x) (hn : isN 17 x = true) : ∃ xs, x = .l xs ∧ Good x := by
  cases x with
  | s b => cases hn
  | l xs => exact ⟨xs, rfl, .inr (.inr ⟨xs, 17, rfl, hn, fine_of h⟩)⟩
theorem check_node {b : By} (h : checkOf b = 0) : ∃ xs, dcod b = .ok (.l xs) ∧ isN 17 (.l xs) = true ∧ Good (.l xs) := by
  unfold checkOf at h
  cases hd : dcod b with
  | error x =>
    rw [hd] at h
    simp only at h
    have := dec_err0 hd
    exact (this h).elim
  | ok x =>
    rw [hd] at h
    simp only at h
    by_cases hn : isN 17 x = true
    · obtain ⟨xs, rfl, hg⟩ := good_of hd hn
      exact ⟨xs, rfl, hn, hg⟩
    · rw [if_neg hn] at h; exact absurd h (by decide)
section
variable {σ : Type} (step : σ → By → σ × Except Int By)
def nodeW (go : σ → It → By → σ × Except Int By) (s : σ) (xs : List It) (path : By) : σ × Except Int By :=
  if xs.length = 2 then (match headIs (xs.getD 0 (.s [])) with
    | some (p, true) => (s, .ok (if p = path then itB (xs.getD 1 (.s [])) else []))
    | some (p, false) => if p.isPrefixOf path then go s (xs.getD 1 (.s [])) (path.drop p.length) else (s, .ok [])
    | none => (s, .ok []))
  else match path with
    | [] => (s, .ok (itB (xs.getD 16 (.s []))))
    | n :: r => go s (xs.getD n.toNat (.s [])) r
def wayR : Nat → σ → It → By → σ × Except Int By
  | 0, s, _, _ => (s, .ok [])
  | f + 1, s, .l xs, path => nodeW (wayR f) s xs path
  | f + 1, s, .s b, path => if b = [] then (s, .ok []) else match step s b with
    | (s', .error e) => (s', .error e)
    | (s', .ok c) => if checkOf c ≠ 0 then (s', .error 161) else match dcod c with
      | .ok (.l xs) => nodeW (wayR f) s' xs path
      | _ => (s', .error 161)
def way (s : σ) (x : It) (path : By) : σ × Except Int By := wayR step (path.length + 1) s x path
variable {step}
theorem nodeW_congr {go go' : σ → It → By → σ × Except Int By} {s : σ} {xs : List It} {path : By} (hg : Good (.l xs)) (h : ∀ (s : σ) (y : It) (q : By), Good y → q.length < path.length → go s y q = go' s y q) (hn : ∀ n ∈ path, n.toNat < 16) : nodeW go s xs path = nodeW go' s xs path := by
  unfold nodeW
  by_cases h2 : xs.length = 2
  · rw [if_pos h2, if_pos h2]
    obtain ⟨p, lf, he, h1, h3⟩ := hg.two h2
    rw [he]
    cases lf with
    | true => rfl
    | false =>
      obtain ⟨hp, hgy, _⟩ := h3 rfl
      simp only
      by_cases hpre : p.isPrefixOf path = true
      · rw [if_pos hpre, if_pos hpre]
        have hpl : 0 < p.length := List.length_pos_iff.2 hp
        have hle : p.length ≤ path.length := (List.isPrefixOf_iff_prefix.1 hpre).length_le
        exact h s _ _ hgy (by rw [List.length_drop]; omega)
      · rw [if_neg hpre, if_neg hpre]
  · rw [if_neg h2, if_neg h2]
    obtain ⟨h17, _, hk⟩ := hg.many h2
    cases path with
    | nil => rfl
    | cons n r => exact h s _ _ (hk _ (hn n (by simp))) (by simp)
theorem wayR_fuel : ∀ (m f f' : Nat) (s : σ) (x : It) (path : By), path.length ≤ m → path.length < f → path.length < f' → Good x → (∀ n ∈ path, n.toNat < 16) → wayR step f s x path = wayR step f' s x path := by
  intro m
  induction m with
  | zero =>
    intro f f' s x path hm hf hf' hg hn
    obtain ⟨f, rfl⟩ : ∃ g, f = g + 1 := ⟨f - 1, by omega⟩
    obtain ⟨f', rfl⟩ : ∃ g, f' = g + 1 := ⟨f' - 1, by omega⟩
    have key : ∀ (s : σ) (xs : List It), Good (.l xs) → nodeW (wayR step f) s xs path = nodeW (wayR step f') s xs path := fun s xs hg => nodeW_congr hg (fun s y q _ hq => absurd hq (by omega)) hn
    cases x with
    | l xs => exact key s xs hg
    | s b =>
      simp only [wayR]
      split
      · rfl
      · split
        · rfl
        · split
          · rfl
          · rename_i hc
            obtain ⟨xs, hd, _, hgx⟩ := check_node (Decidable.not_not.1 hc)
            rw [hd]; exact key _ xs hgx
  | succ m ih =>
    intro f f' s x path hm hf hf' hg hn
    obtain ⟨f, rfl⟩ : ∃ g, f = g + 1 := ⟨f - 1, by omega⟩
    obtain ⟨f', rfl⟩ : ∃ g, f' = g + 1 := ⟨f' - 1, by omega⟩
    have key : ∀ (s : σ) (xs : List It), Good (.l xs) → nodeW (wayR step f) s xs path = nodeW (wayR step f') s xs path := by
      intro s xs hg
      have hsub : ∀ (q : By), q <:+ path → ∀ n ∈ q, n.toNat < 16 := fun q hq n hnq => hn n (hq.subset hnq)
      unfold nodeW
      by_cases h2 : xs.length = 2
      · rw [if_pos h2, if_pos h2]
        obtain ⟨p, lf, he, h1, h3⟩ := hg.two h2
        rw [he]
        cases lf with
        | true => rfl
        | false =>
          obtain ⟨hp, hgy, _⟩ := h3 rfl
          simp only
          by_cases hpre : p.isPrefixOf path = true
          · rw [if_pos hpre, if_pos hpre]
            have hpl : 0 < p.length := List.length_pos_iff.2 hp
            have hle : p.length ≤ path.length := (List.isPrefixOf_iff_prefix.1 hpre).length_le
            have hl : (path.drop p.length).length = path.length - p.length := List.length_drop
            exact ih f f' s _ _ (by omega) (by omega) (by omega) hgy (hsub _ (List.drop_suffix _ _))
          · rw [if_neg hpre, if_neg hpre]
      · rw [if_neg h2, if_neg h2]
        obtain ⟨h17, _, hk⟩ := hg.many h2
        cases path with
        | nil => rfl
        | cons n r =>
          simp only [List.length_cons] at hm hf hf'
          exact ih f f' s _ _ (by omega) (by omega) (by omega) (hk _ (hn n (by simp))) (fun q hq => hn q (by simp [hq]))
    cases x with
    | l xs => exact key s xs hg
    | s b =>
      simp only [wayR]
      split
      · rfl
      · split
        · rfl
        · split
          · rfl
          · rename_i hc
            obtain ⟨xs, hd, _, hgx⟩ := check_node (Decidable.not_not.1 hc)
            rw [hd]; exact key _ xs hgx
theorem nodeW_way {f : Nat} {s : σ} {xs : List It} {path : By} (hg : Good (.l xs)) (hf : path.length ≤ f) (hn : ∀ n ∈ path, n.toNat < 16) : nodeW (wayR step f) s xs path = nodeW (way step) s xs path := by
  unfold nodeW
  by_cases h2 : xs.length = 2
  · rw [if_pos h2, if_pos h2]
    obtain ⟨p, lf, he, h1, h3⟩ := hg.two h2
    rw [he]
    cases lf with
    | true => rfl
    | false =>
      obtain ⟨hp, hgy, _⟩ := h3 rfl
      simp only
      by_cases hpre : p.isPrefixOf path = true
      · rw [if_pos hpre, if_pos hpre]
        have hpl : 0 < p.length := List.length_pos_iff.2 hp
        have hle : p.length ≤ path.length := (List.isPrefixOf_iff_prefix.1 hpre).length_le
        have hl : (path.drop p.length).length = path.length - p.length := List.length_drop
        exact wayR_fuel _ _ _ s _ _ (Nat.le_refl _) (by omega) (by omega) hgy (fun n hnq => hn n ((List.drop_suffix _ _).subset hnq))
      · rw [if_neg hpre, if_neg hpre]
  · rw [if_neg h2, if_neg h2]
    obtain ⟨h17, _, hk⟩ := hg.many h2
    cases path with
    | nil => rfl
    | cons n r =>
      simp only [List.length_cons] at hf
      exact wayR_fuel _ _ _ s _ _ (Nat.le_refl _) (by omega) (by omega) (hk _ (hn n (by simp))) (fun q hq => hn q (by simp [hq]))
theorem way_nil (s : σ) (path : By) : way step s (.s []) path = (s, .ok []) := by simp only [way, wayR, if_true]
theorem way_list {s : σ} {xs : List It} {path : By} (hg : Good (.l xs)) (hn : ∀ n ∈ path, n.toNat < 16) : way step s (.l xs) path = nodeW (way step) s xs path := nodeW_way hg (Nat.le_refl _) hn
theorem way_bad {s s' : σ} {b path : By} {e : Int} (hb : b ≠ []) (h : step s b = (s', .error e)) : way step s (.s b) path = (s', .error e) := by
  simp only [way, wayR]; rw [if_neg hb, h]
theorem way_form {s s' : σ} {b c path : By} (hb : b ≠ []) (h : step s b = (s', .ok c)) (hc : checkOf c ≠ 0) : way step s (.s b) path = (s', .error 161) := by
  simp only [way, wayR]; rw [if_neg hb, h]; simp only; rw [if_pos hc]
theorem way_hash {s s' : σ} {b c path : By} {xs : List It} (hb : b ≠ []) (h : step s b = (s', .ok c)) (hc : checkOf c = 0) (hd : dcod c = .ok (.l xs)) (hg : Good (.l xs)) (hn : ∀ n ∈ path, n.toNat < 16) : way step s (.s b) path = nodeW (way step) s' xs path := by
  simp only [way, wayR]; rw [if_neg hb, h]; simp only; rw [if_neg (by simp [hc]), hd]
  exact nodeW_way hg (Nat.le_refl _) hn
theorem node_leaf {go : σ → It → By → σ × Except Int By} {s : σ} {xs : List It} {path p : By} (h2 : xs.length = 2) (he : headIs (xs.getD 0 (.s [])) = some (p, true)) : nodeW go s xs path = (s, .ok (if p = path then itB (xs.getD 1 (.s [])) else [])) := by
  unfold nodeW; rw [if_pos h2, he]
theorem node_row {go : σ → It → By → σ × Except Int By} {s : σ} {xs : List It} {path p : By} (h2 : xs.length = 2) (he : headIs (xs.getD 0 (.s [])) = some (p, false)) : nodeW go s xs path = if p.isPrefixOf path then go s (xs.getD 1 (.s [])) (path.drop p.length) else (s, .ok []) := by
  unfold nodeW; rw [if_pos h2, he]
theorem node_end {go : σ → It → By → σ × Except Int By} {s : σ} {xs : List It} (h2 : xs.length ≠ 2) : nodeW go s xs [] = (s, .ok (itB (xs.getD 16 (.s [])))) := by
  unfold nodeW; rw [if_neg h2]
theorem node_kid {go : σ → It → By → σ × Except Int By} {s : σ} {xs : List It} {n : UInt8} {r : By} (h2 : xs.length ≠ 2) : nodeW go s xs (n :: r) = go s (xs.getD n.toNat (.s [])) r := by
  unfold nodeW; rw [if_neg h2]
def downR : Nat → It → By → By × By × By
  | 0, _, _ => ([], [], [])
  | _ + 1, .s b, path => ([], path, b)
  | f + 1, .l xs, path =>
    if xs.length = 2 then (match headIs (xs.getD 0 (.s [])) with
      | some (p, true) => (if p = path then itB (xs.getD 1 (.s [])) else [], [], [])
      | some (p, false) => if p.isPrefixOf path then downR f (xs.getD 1 (.s [])) (path.drop p.length) else ([], [], [])
      | none => ([], [], []))
    else match path with
      | [] => (itB (xs.getD 16 (.s [])), [], [])
      | n :: r => downR f (xs.getD n.toNat (.s [])) r
def afterD (s : σ) (t : By × By × By) : σ × Except Int By := match t.2.2 with
  | [] => (s, .ok t.1)
  | a :: r => way step s (.s (a :: r)) t.2.1
theorem downR_leaf {f : Nat} {xs : List It} {path p : By} (h2 : xs.length = 2) (he : headIs (xs.getD 0 (.s [])) = some (p, true)) : downR (f + 1) (.l xs) path = (if p = path then itB (xs.getD 1 (.s [])) else [], [], []) := by
  simp only [downR]; rw [if_pos h2, he]
theorem downR_row {f : Nat} {xs : List It} {path p : By} (h2 : xs.length = 2) (he : headIs (xs.getD 0 (.s [])) = some (p, false)) : downR (f + 1) (.l xs) path = if p.isPrefixOf path then downR f (xs.getD 1 (.s [])) (path.drop p.length) else ([], [], []) := by
  simp only [downR]; rw [if_pos h2, he]
theorem downR_end {f : Nat} {xs : List It} (h2 : xs.length ≠ 2) : downR (f + 1) (.l xs) [] = (itB (xs.getD 16 (.s [])), [], []) := by
  simp only [downR]; rw [if_neg h2]
theorem downR_kid {f : Nat} {xs : List It} {n : UInt8} {r : By} (h2 : xs.length ≠ 2) : downR (f + 1) (.l xs) (n :: r) = downR f (xs.getD n.toNat (.s [])) r := by
  simp only [downR]; rw [if_neg h2]
theorem down_way : ∀ (f : Nat) (s : σ) (x : It) (path : By), path.length < f → Good x → (∀ n ∈ path, n.toNat < 16) → way step s x path = afterD (step := step) s (downR f x path)
  | 0, _, _, _, h, _, _ => absurd h (by omega)
  | f + 1, s, .s b, path, h, hg, hn => by
    cases b with
    | nil => rw [way_nil]; rfl
    | cons a r => rfl
  | f + 1, s, .l xs, path, h, hg, hn => by
    rw [way_list hg hn]
    by_cases h2 : xs.length = 2
    · obtain ⟨p, lf, he, h1, h3⟩ := hg.two h2
      cases lf with
      | true => rw [node_leaf h2 he, downR_leaf h2 he]; rfl
      | false =>
        obtain ⟨hp, hgy, _⟩ := h3 rfl
        rw [node_row h2 he, downR_row h2 he]
        by_cases hpre : p.isPrefixOf path = true
        · rw [if_pos hpre, if_pos hpre]
          have hpl : 0 < p.length := List.length_pos_iff.2 hp
          have hle : p.length ≤ path.length := (List.isPrefixOf_iff_prefix.1 hpre).length_le
          have hl : (path.drop p.length).length = path.length - p.length := List.length_drop
          exact down_way f s _ _ (by omega) hgy (fun n hnq => hn n ((List.drop_suffix _ _).subset hnq))
        · rw [if_neg hpre, if_neg hpre]; rfl
    · obtain ⟨h17, _, hk⟩ := hg.many h2
      cases path with
      | nil => rw [node_end h2, downR_end h2]; rfl
      | cons n r =>
        rw [node_kid h2, downR_kid h2]
        simp only [List.length_cons] at h
        exact down_way f s _ _ (by omega) (hk _ (hn n (by simp))) (fun q hq => hn q (by simp [hq]))
theorem down_32 : ∀ (f : Nat) (x : It) (path : By), Good x → (∀ n ∈ path, n.toNat < 16) → (downR f x path).2.2 = [] ∨ (downR f x path).2.2.length = 32
  | 0, _, _, _, _ => .inl rfl
  | f + 1, .s b, path, hg, hn => by simp only [downR]; exact hg.str
  | f + 1, .l xs, path, hg, hn => by
    simp only [downR]
    by_cases h2 : xs.length = 2
    · obtain ⟨p, lf, he, h1, h3⟩ := hg.two h2
      rw [if_pos h2, he]
      cases lf with
      | true => exact .inl rfl
      | false =>
        obtain ⟨hp, hgy, _⟩ := h3 rfl
        simp only
        by_cases hpre : p.isPrefixOf path = true
        · rw [if_pos hpre]
          exact down_32 f _ _ hgy (fun n hnq => hn n ((List.drop_suffix _ _).subset hnq))
        · rw [if_neg hpre]; exact .inl rfl
    · obtain ⟨h17, _, hk⟩ := hg.many h2
      rw [if_neg h2]
      cases path with
      | nil => exact .inl rfl
      | cons n r => exact down_32 f _ _ (hk _ (hn n (by simp))) (fun q hq => hn q (by simp [hq]))
theorem down_rest : ∀ (f : Nat) (xs : List It) (path : By), Good (.l xs) → (∀ n ∈ path, n.toNat < 16) → (downR f (.l xs) path).2.2 ≠ [] → (downR f (.l xs) path).2.1.length < path.length ∧ ∀ n ∈ (downR f (.l xs) path).2.1, n.toNat < 16 := by
  have key : ∀ (f : Nat) (x : It) (path : By), Good x → (∀ n ∈ path, n.toNat < 16) → (downR f x path).2.2 ≠ [] → (downR f x path).2.1.length ≤ path.length ∧ (∀ n ∈ (downR f x path).2.1, n.toNat < 16) ∧ ((∃ xs, x = .l xs) → (downR f x path).2.1.length < path.length) := by
    intro f
    induction f with
    | zero => intro x path _ _ h; exact (h rfl).elim
    | succ f ih =>
      intro x path hg hn h
      cases x with
      | s b => exact ⟨Nat.le_refl _, hn, fun ⟨xs, h⟩ => by cases h⟩
      | l xs =>
        simp only [downR] at h ⊢
        by_cases h2 : xs.length = 2
        · obtain ⟨p, lf, he, h1, h3⟩ := hg.two h2
          rw [if_pos h2, he] at h ⊢
          cases lf with
          | true => exact (h rfl).elim
          | false =>
            obtain ⟨hp, hgy, _⟩ := h3 rfl
            simp only at h ⊢
            by_cases hpre : p.isPrefixOf path = true
            · rw [if_pos hpre] at h ⊢
              have hpl : 0 < p.length := List.length_pos_iff.2 hp
              have hle : p.length ≤ path.length := (List.isPrefixOf_iff_prefix.1 hpre).length_le
              have hl : (path.drop p.length).length = path.length - p.length := List.length_drop
              obtain ⟨k1, k2, _⟩ := ih _ _ hgy (fun n hnq => hn n ((List.drop_suffix _ _).subset hnq)) h
              exact ⟨by omega, k2, fun _ => by omega⟩
            · rw [if_neg hpre] at h; exact (h rfl).elim
        · obtain ⟨h17, _, hk⟩ := hg.many h2
          rw [if_neg h2] at h ⊢
          cases path with
          | nil => exact (h rfl).elim
          | cons n r =>
            simp only [List.length_cons] at h ⊢
            obtain ⟨k1, k2, _⟩ := ih _ _ (hk _ (hn n (by simp))) (fun q hq => hn q (by simp [hq])) h
            exact ⟨by omega, k2, fun _ => by omega⟩
  intro f xs path hg hn h
  obtain ⟨_, k2, k3⟩ := key f (.l xs) path hg hn h
  exact ⟨k3 ⟨xs, rfl⟩, k2⟩
end
theorem nib_lt (k : By) : ∀ n ∈ nibbles k, n.toNat < 16 := by
  intro n hn
  unfold nibbles at hn
  obtain ⟨c, _, hc⟩ := List.mem_flatMap.1 hn
  simp only [List.mem_cons, List.not_mem_nil, or_false] at hc
  have h1 : ∀ n : Fin 256, ((UInt8.ofFin n) >>> 4).toNat < 16 := by decide +kernel
  have h2 : ∀ n : Fin 256, ((UInt8.ofFin n) &&& 15).toNat < 16 := by decide +kernel
  rcases hc with rfl | rfl
  · exact h1 c.toFin
  · exact h2 c.toFin
end Go.Proofs.Ytfghidehlnfdiaa
end
section
namespace Go.Vcg
structure DefS (C : Car) where
  f : FuncId
  args : List (SV C)
def LeavV (P : Program) (rt : World → Prop) (R : Ending → World → Prop) : List (FuncId × Array Value) → FrameMode → World → Prop
  | [], .returning, w => rt w
  | [], .panicking chain, w => R (.panicked chain) w
  | [], .run, _ => False
  | (f, args) :: ds, u, w => u ≠ .run ∧ CallsD P f args u w fun
      | .returned _, u', w' => LeavV P rt R ds (settle u') w'
      | .panicked chain, u', w' => LeavV P rt R ds (raised u' chain) w'
      | .outgrown, _, w' => R .outgrown w'

section
variable {C : Car} (A : List (DefS C) → (C.W → C.R) → Alg C) (leav : List (DefS C) → (C.W → C.R) → C.W → C.R) (P : Program)
def pieces : Code → List Code
  | .seq a b => pieces a ++ pieces b
  | c => [c]
def deferOf : Code → Option (Array Oper × Oper × Call)
  | .region _ ops false => match ops.back? with
    | some o => match o.op with
      | .defer c => if o.guard.isNone && o.dst.isNone then some (ops, o, c) else none
      | _ => none
    | none => none
  | _ => none
def slotsOf (fn : Func) : List Tmp := fn.results.toList.map fun
  | .tmp t => t
  | .cell a _ => a
def clearOf (fn : Func) (rest : List Code) : Bool := rest.all fun c => (writesOf c).all fun t => !(slotsOf fn).contains t
def endD (fn : Func) (ds : List (DefS C)) (rt : C.W → C.R) (env : Env C) (w : C.W) : C.R := match ds with
  | [] => retS (A [] rt) P fn env w
  | ds => leav ds rt w
def execD (ann : List (Nat × List (Tmp × Shape1))) (fn : Func) : List Code → List (DefS C) → (C.W → C.R) → Env C → C.W → C.R
  | [], ds, rt, env, w => endD A leav P fn ds rt env w
  | c :: rest, ds, rt, env, w =>
    match deferOf c with
    | some (ops, o, call) => regionS (A ds rt) P ops (ops.toList.take (ops.size - 1)) env w fun env w =>
      match call.callee with
      | .value f => match ev (A ds rt) env f with
        | .func (.func g) first cap => if enters P g && clearOf fn rest then
            execD ann fn rest (⟨g, first ++ call.args.toList.map (ev (A ds rt) env) ++ cap⟩ :: ds) (match ds with | [] => fun w => retS (A ds rt) P fn env w | _ => rt) env w
          else (A ds rt).fail "defer"
        | _ => (A ds rt).fail "defer: what function?"
      | _ => (A ds rt).fail "defer"
    | none => exec (A ds rt) P ann c env w { nrm := fun env w => execD ann fn rest ds rt env w, exit := fun _ _ _ => (A ds rt).fail "exit", ret := fun env w => endD A leav P fn ds rt env w }
def execDF (ann : List (Nat × List (Tmp × Shape1))) (fn : Func) (args : List (SV C)) (fl : C.R) (w : C.W) : C.R :=
  match fn.body with
  | none => fl
  | some c => if args.length ≤ fn.ntmps ∧ slotsOk fn.ntmps c = true then execD A leav P ann fn (pieces c) [] (fun _ => fl) (numbered 0 args) w else fl
end

def dsV (ds : List (DefS pC)) : List (FuncId × Array Value) := ds.map fun d => (d.f, (toVs d.args).toArray)
def finD (P : Program) (R : Ending → World → Prop) (ds : List (DefS pC)) (rt : World → Prop) (e : Ending) (w : World) : Prop := match ds with
  | [] => R e w
  | d :: ds => match e with
    | .panicked ch => LeavV P rt R (dsV (d :: ds)) (.panicking ch) w
    | e => R e w
def aD (P : Program) (R : Ending → World → Prop) (ds : List (DefS pC)) (rt : World → Prop) : Alg pC := pA P ⟨finD P R ds rt, true⟩
def leavD (P : Program) (R : Ending → World → Prop) (ds : List (DefS pC)) (rt : World → Prop) (w : World) : Prop := LeavV P rt R (dsV ds) .returning w

section
variable {P : Program} {R : Ending → World → Prop}
def wpPieces (P : Program) : List Code → (Exit → Act → World → Prop) → Act → World → Prop
  | [], Q, a, w => Q .normal a w
  | c :: cs, Q, a, w => c.wp P (Exit.then (wpPieces P cs Q) Q) a w
theorem wpPieces_mono {Q Q' : Exit → Act → World → Prop} (hq : ∀ e a w, Q e a w → Q' e a w) : ∀ (cs : List Code) (a : Act) (w : World), wpPieces P cs Q a w → wpPieces P cs Q' a w
  | [], a, w, h => hq _ _ _ h
  | c :: cs, a, w, h => Code.wp_mono (fun e a w q => by cases e <;> first | exact wpPieces_mono hq cs _ _ q | exact hq _ _ _ q) h
theorem wpPieces_append : ∀ (xs ys : List Code) (Q : Exit → Act → World → Prop) (a : Act) (w : World), wpPieces P (xs ++ ys) Q a w → wpPieces P xs (Exit.then (wpPieces P ys Q) Q) a w
  | [], ys, Q, a, w, h => h
  | x :: xs, ys, Q, a, w, h => Code.wp_mono (fun e a w q => by cases e <;> first | exact wpPieces_append xs ys Q a w q | exact q) h
theorem wp_pieces : ∀ (c : Code) (Q : Exit → Act → World → Prop) (a : Act) (w : World), wpPieces P (pieces c) Q a w → c.wp P Q a w := by
  intro c
  induction c with
  | seq x y ihx ihy =>
    intro Q a w h
    unfold pieces at h
    refine wp_seq (ihx _ _ _ (wpPieces_mono (fun e a w q => ?_) _ _ _ (wpPieces_append _ _ _ _ _ h)))
    cases e <;> first | exact ihy _ _ _ q | exact q
  | _ =>
    intro Q a w h
    refine Code.wp_mono (fun e a w q => ?_) h
    cases e <;> exact q

theorem results_eq {fn : Func} {t t' : Array Value} (h : ∀ s ∈ slotsOf fn, t.getD s undef = t'.getD s undef) : results fn t = results fn t' := by
  unfold results
  have : ∀ (l : List ResultVar), (∀ s ∈ (l.map fun | ResultVar.tmp t => t | .cell a _ => a), t.getD s undef = t'.getD s undef) →
      (l.mapM fun r => (match r with
        | .tmp s => pure (t.getD s undef)
        | .cell a ty => do loadVar ty (← asAddr (t.getD a undef)) : Sem Value)) = l.mapM fun r => (match r with
        | .tmp s => pure (t'.getD s undef)
        | .cell a ty => do loadVar ty (← asAddr (t'.getD a undef)) : Sem Value) := by
    intro l
    induction l with
    | nil => intro _; rfl
    | cons r l ih =>
      intro h
      rw [List.mapM_cons, List.mapM_cons, ih (fun s hs => h s (by simp [hs]))]
      cases r with
      | tmp s => simp only [h s (by simp)]
      | cell a ty => simp only [h a (by simp)]
  have h1 := this fn.results.toList h
  rw [Array.mapM_eq_mapM_toList, Array.mapM_eq_mapM_toList]
  erw [h1]
  rfl

theorem wp_part {o : Oper} {a : Act} {w : World} {K : Act → World → Prop} {Q Q' : Exit → Act → World → Prop} (h : o.wp P a w K Q) (hp : ∀ ch a w, Q (.panic ch) a w → Q' (.panic ch) a w) (ho : LetsOut Q → LetsOut Q') : o.wp P a w K Q' := by
  unfold Oper.wp at *
  generalize (execOp a.eval o).run P w = r at *
  cases r with
  | ok n w' =>
    cases n <;> simp only [Oper.upon] at h ⊢ <;>
      first
        | exact h
        | exact Calls.mono h (fun e w'' he => by cases e <;> first | exact he | exact hp _ _ _ he | exact ho he)
  | halt x w' => cases x <;> simp only [Oper.upon] at h ⊢ <;> first | exact hp _ _ _ h | exact h
theorem wpList_append {ops : Array Oper} {Q : Exit → Act → World → Prop} : ∀ (xs ys : List Oper) (a : Act) (w : World), wpList P ops (Exit.then (wpList P ops Q ys) Q) xs a w → wpList P ops Q (xs ++ ys) a w
  | [], ys, a, w, h => h
  | x :: xs, ys, a, w, h => by
    rw [List.cons_append]
    unfold wpList at h ⊢
    split
    · rename_i hw
      rw [if_pos hw] at h
      rcases h with h | ⟨h1, h2⟩
      · exact .inl (wp_part (Oper.wp_mono (fun a w => wpList_append xs ys a w) h) (fun _ _ _ h => h) (fun ⟨a, w, h⟩ => ⟨a, w, h⟩))
      · exact .inr ⟨h1, by obtain ⟨a, w, h⟩ := h2; exact ⟨a, w, h⟩⟩
    · rename_i hw
      rw [if_neg hw] at h
      exact wpList_append xs ys _ w h
def DefsOK (P : Program) : List (FuncId × Array Value) → List Deferred → Prop
  | [], [] => True
  | (f, args) :: ds, d :: dd => (∃ fv cap, d.target = .fn fv cap ∧ ∀ w, (invoke d.target d.args).run P w = .ok (.enter f args) w) ∧ DefsOK P ds dd
  | _, _ => False
theorem leav_leaves {fn : Func} {tmps : Array Value} {rt : World → Prop} (hrt : ∀ w, rt w → ∃ v, (results fn tmps).run P w = .ok v w ∧ R (.returned v) w) : ∀ (ds : List (FuncId × Array Value)) (dd : List Deferred) (u : FrameMode) (w : World), DefsOK P ds dd →
    LeavV P rt R ds u w → Leaves P fn tmps R dd u w
  | [], [], u, w, _, h => by
    cases u with
    | run => exact h
    | returning => exact hrt w h
    | panicking ch => exact h
  | (f, args) :: ds, [], _, _, h, _ => h.elim
  | [], d :: dd, _, _, h, _ => h.elim
  | (f, args) :: ds, d :: dd, u, w, hd, h => by
    obtain ⟨⟨fv, cap, h1, h2⟩, h3⟩ := hd
    obtain ⟨hu, hc⟩ := h
    refine ⟨hu, fv, cap, f, args, h1, h2 w, hc.mono fun e u' w' he => ?_⟩
    cases e with
    | returned v => exact leav_leaves hrt ds dd _ _ h3 he
    | panicked ch => exact leav_leaves hrt ds dd _ _ h3 he
    | outgrown => exact he

theorem pieces_ok {n : Nat} : ∀ (c : Code), slotsOk n c = true → ∀ p ∈ pieces c, slotsOk n p = true := by
  intro c
  induction c with
  | seq x y ihx ihy =>
    intro h p hp
    simp only [slotsOk, Bool.and_eq_true] at h
    simp only [pieces, List.mem_append] at hp
    rcases hp with hp | hp
    · exact ihx h.1 p hp
    · exact ihy h.2 p hp
  | _ => intro h p hp; simp only [pieces, List.mem_singleton] at hp; subst hp; exact h

def RtOK (P : Program) (R : Ending → World → Prop) (fn : Func) (rt : World → Prop) (a : Act) : Prop := ∀ w, rt w → ∃ v, (results fn a.tmps).run P w = .ok v w ∧ R (.returned v) w

theorem execD_sound {ann : List (Nat × List (Tmp × Shape1))} (hm : P.follows .mixedOrders = true) {fn : Func} {n : Nat} : ∀ (cs : List Code) (ds : List (DefS pC)) (rt : World → Prop) (env : Env pC) (a : Act) (w : World),
    Rep env a → a.tmps.size = n → (∀ c ∈ cs, slotsOk n c = true) → DefsOK P (dsV ds) a.defers → (ds ≠ [] → RtOK P R fn rt a ∧ clearOf fn cs = true) →
    execD (aD P R) (leavD P R) P ann fn cs ds rt env w → wpPieces P cs (bodyPostD P fn R) a w := by
  have endS : ∀ (ds : List (DefS pC)) (rt : World → Prop) (env : Env pC) (a : Act) (w : World), Rep env a → DefsOK P (dsV ds) a.defers → (ds ≠ [] → RtOK P R fn rt a) → endD (aD P R) (leavD P R) P fn ds rt env w → Leaves P fn a.tmps R a.defers .returning w := by
    intro ds rt env a w hrep hdd hrt h
    cases ds with
    | nil =>
      have h : retS (pA P ⟨R, true⟩) P fn env w := h
      have he : a.defers = [] := by
        cases hq : a.defers with
        | nil => rfl
        | cons d dd => rw [hq] at hdd; exact hdd.elim
      rw [he]
      exact retS_sound hrep h
    | cons d ds => exact leav_leaves (hrt (by simp)) _ _ _ _ hdd h
  intro cs
  induction cs with
  | nil => intro ds rt env a w hrep hn hs hdd hrt h; exact endS ds rt env a w hrep hdd (fun hne => (hrt hne).1) h
  | cons c rest ih =>
    intro ds rt env a w hrep hn hs hdd hrt h
    unfold execD at h
    have hrest : ∀ c ∈ rest, slotsOk n c = true := fun c hc => hs c (by simp [hc])
    have hclr : clearOf fn (c :: rest) = true → clearOf fn rest = true ∧ ∀ t ∈ slotsOf fn, t ∉ writesOf c := by
      intro hc
      simp only [clearOf, List.all_cons, Bool.and_eq_true] at hc
      refine ⟨hc.2, fun t ht hw => ?_⟩
      have := List.all_eq_true.1 hc.1 t hw
      simp only [List.contains_eq_mem, decide_eq_true ht, Bool.not_true] at this
      cases this
    have keepRt : ∀ (a' : Act), (∀ t, t ∉ writesOf c → a'.tmps.getD t undef = a.tmps.getD t undef) → ds ≠ [] → RtOK P R fn rt a' := by
      intro a' hk hne w' hw
      obtain ⟨h1, h2⟩ := hrt hne
      have he : results fn a'.tmps = results fn a.tmps := results_eq fun s hsl => hk s ((hclr h2).2 s hsl)
      rw [he]
      exact h1 w' hw
    split at h
    · rename_i ops o call hdf
      -- a deferred call
      have hc : ∃ id, c = .region id ops false ∧ ops.back? = some o ∧ o.op = .defer call ∧ o.guard = none ∧ o.dst = none := by
        unfold deferOf at hdf
        split at hdf
        · rename_i id ops'
          split at hdf
          · rename_i o' ho
            split at hdf
            · rename_i c' hop
              split at hdf
              · rename_i hg
                simp only [Bool.and_eq_true, Option.isNone_iff_eq_none] at hg
                cases hdf
                exact ⟨id, rfl, ho, hop, hg.1, hg.2⟩
              · cases hdf
            · cases hdf
          · cases hdf
        · cases hdf
      obtain ⟨id, rfl, hback, hop, hguard, hdst⟩ := hc
      have hsc := hs (.region id ops false) (by simp)
      have hd : ∀ o ∈ ops.toList, dstOk n o := by
        intro o ho d hdst
        have := Array.all_eq_true_iff_forall_mem.1 hsc o (Array.mem_toList_iff.1 ho)
        simp only [hdst, decide_eq_true_eq] at this
        exact this
      have hW' : ∀ o ∈ ops.toList, ∀ d, o.dst = some d → d ∈ writesOf (.region id ops false) := by
        intro o ho d hdst
        simp only [writesOf, List.mem_filterMap]
        exact ⟨o, ho, hdst⟩
      have hsplit : ops.toList = ops.toList.take (ops.size - 1) ++ [o] := by
        have hl : ops.toList.length = ops.size := Array.length_toList
        have hb : ops.toList.getLast? = some o := by rw [Array.getLast?_toList]; exact hback
        obtain ⟨ys, hys⟩ := List.getLast?_eq_some_iff.1 hb
        have h1 : ops.size - 1 = ys.length := by rw [← hl, hys]; simp
        rw [h1, hys, List.take_left]
      refine wp_region_list ?_
      rw [hsplit]
      refine wpList_append _ _ _ _ (regionS_sound (W := writesOf (.region id ops false)) _ env a w _ hrep hn (fun o ho => hd o (List.mem_of_mem_take ho)) (fun o ho => hW' o (List.mem_of_mem_take ho)) h ?_ ?_)
      · -- a panic ahead of it
        intro ch a' w' hd' hk hf
        show Leaves P fn a'.tmps R a'.defers (.panicking ch) w'
        rw [hd']
        cases ds with
        | nil =>
          have he : a.defers = [] := by
            cases hq : a.defers with
            | nil => rfl
            | cons d dd => rw [hq] at hdd; exact hdd.elim
          rw [he]; exact hf
        | cons d ds => exact leav_leaves (keepRt a' hk (by simp)) _ _ _ _ hdd hf
      · intro env' a' w' hrep' hn' hd' hk h
        show wpList P ops (Exit.then (wpPieces P rest (bodyPostD P fn R)) (bodyPostD P fn R)) [o] a' w'
        split at h
        case h_2 => exact h.elim
        rename_i f hcal
        split at h
        case h_2 => exact h.elim
        rename_i g first cap hev
        split at h
        case isFalse => exact h.elim
        rename_i hg
        simp only [Bool.and_eq_true] at hg
        have hev' : a'.eval f = .func (.func g) (toVs first).toArray (toVs cap).toArray := by rw [hrep'.eval f]; erw [hev]; rfl
        have hargs : call.args.map a'.eval = (toVs (call.args.toList.map (ev (aD P R ds rt) env'))).toArray := by
          rw [toVs_eq, List.map_map]
          apply Array.ext'
          simp only [Array.toList_map]
          exact List.map_congr_left fun x _ => hrep'.eval x
        have hex : (execOp a'.eval o).run P w' = .ok (.defer { target := .fn (.func g) (toVs cap).toArray, args := (toVs first).toArray ++ call.args.map a'.eval }) w' := by
          simp [execOp, hop, resolve, hcal, Deferred.ofValue, hev']
        unfold wpList
        have hwant : Region.wanted o (yielded ops a'.tmps) = true := by simp [Region.wanted, hguard]
        rw [if_pos hwant]
        refine .inl ?_
        unfold Oper.wp
        rw [hex]
        rw [Oper.upon_defer]
        unfold wpList
        show wpPieces P rest (bodyPostD P fn R) _ w'
        rw [hdst]
        refine ih (⟨g, first ++ call.args.toList.map (ev (aD P R ds rt) env') ++ cap⟩ :: ds) _ env' _ w' hrep' hn' hrest (And.intro ⟨.func g, (toVs cap).toArray, rfl, fun w'' => ?_⟩ ?_) (fun _ => ⟨?_, hg.2⟩) h
        · show (callFunc g _).run P w'' = _
          rw [run_callFunc hg.1]
          congr 2
          rw [hargs]
          apply Array.ext'
          simp [toVs_eq]
        · show DefsOK P (dsV ds) a'.defers
          rw [hd']; exact hdd
        · intro w'' hw''
          cases ds with
          | nil => exact retS_sound (R := ⟨R, true⟩) hrep' hw''
          | cons d ds => exact keepRt a' hk (by simp) w'' hw''
    · refine Code.wp_mono (Q := fun e a' w' => Exit.then (wpPieces P rest (bodyPostD P fn R)) (bodyPostD P fn R) e a' w' ∧ (∀ ch, e = .panic ch → ds = [] → a'.defers = [])) (fun e a' w' hq => hq.1) ?_
      have hnil : ds = [] → a.defers = [] := by
        rintro rfl
        cases hq : a.defers with
        | nil => rfl
        | cons d dd => rw [hq] at hdd; exact hdd.elim
      refine exec_sound (R := ⟨finD P R ds rt, true⟩) hm c (writesOf c) env a w _ _ hrep hn (hs c (by simp)) (fun t ht => ht) ?_ ?_ h ?_
      · intro ch a1 a2 w' hd' hk ⟨h1, h2⟩
        refine ⟨?_, fun ch' _ hne => by rw [← hd']; exact h2 ch rfl hne⟩
        have h1 : Leaves P fn a1.tmps R a1.defers (.panicking ch) w' := h1
        show Leaves P fn a2.tmps R a2.defers (.panicking ch) w'
        rw [← hd']
        by_cases hne : ds = []
        · rw [h2 ch rfl hne] at h1 ⊢; exact h1
        · have he : results fn a1.tmps = results fn a2.tmps := results_eq fun s hsl => hk s ((hclr (hrt hne).2).2 s hsl)
          have cong : ∀ (dd : List Deferred) (u : FrameMode) (w : World), Leaves P fn a1.tmps R dd u w → Leaves P fn a2.tmps R dd u w := by
            intro dd
            induction dd with
            | nil =>
              intro u w hl
              cases u with
              | run => exact hl
              | returning => obtain ⟨v, hv⟩ := hl; exact ⟨v, by rw [← he]; exact hv⟩
              | panicking ch => exact hl
            | cons d dd ihd =>
              intro u w ⟨g1, fv, cap, f, args, g2, g3, g4⟩
              refine ⟨g1, fv, cap, f, args, g2, g3, g4.mono fun e u' w' hh => ?_⟩
              cases e with
              | returned v => exact ihd _ _ hh
              | panicked ch => exact ihd _ _ hh
              | outgrown => exact hh
          exact cong _ _ _ h1
      · intro ch a' w' hd' hk hf
        refine ⟨?_, fun ch' _ hne => by rw [hd']; exact hnil hne⟩
        show Leaves P fn a'.tmps R a'.defers (.panicking ch) w'
        rw [hd']
        cases ds with
        | nil => rw [hnil rfl]; exact hf
        | cons d ds => exact leav_leaves (keepRt a' hk (by simp)) _ _ _ _ hdd hf
      · exact {
          nrm := fun env' a' w' h1 h2 h3 h4 h5 => by
            refine ⟨?_, fun ch he => by cases he⟩
            show wpPieces P rest (bodyPostD P fn R) a' w'
            exact ih ds rt env' a' w' h1 h2 hrest (by rw [h3]; exact hdd) (fun hne => ⟨keepRt a' h4 hne, (hclr (hrt hne).2).1⟩) h5
          exit := fun i env' a' w' h1 h2 h3 h4 h5 => h5.elim
          ret := fun env' a' w' h1 h2 h3 h4 h5 => by
            refine ⟨?_, fun ch he => by cases he⟩
            show Leaves P fn a'.tmps R a'.defers .returning w'
            exact endS ds rt env' a' w' h1 (by rw [h3]; exact hdd) (fun hne => keepRt a' h4 hne) h5 }
theorem execDF_sound {ann : List (Nat × List (Tmp × Shape1))} {f : FuncId} {fn : Func} {args : List (SV pC)} {w : World} (hf : P.funcs[f]? = some fn) (hm : P.follows .mixedOrders = true)
    (h : execDF (aD P R) (leavD P R) P ann fn args False w) : Calls P f (toVs args).toArray w R := by
  unfold execDF at h
  split at h
  · exact h.elim
  · rename_i c hb
    split at h
    · rename_i hc
      refine calls_of_wp_defers hf hb (wp_pieces _ _ _ _ ?_)
      have hrep : Rep (numbered 0 args) ({ tmps := (toVs args).toArray ++ Array.replicate (fn.ntmps - (toVs args).toArray.size) undef, defers := [] } : Act) := numbered_rep
      exact execD_sound hm (pieces c) [] _ _ _ w hrep (by simp [toVs_length]; omega) (pieces_ok c hc.2) trivial (fun h => (h rfl).elim) h
    · exact h.elim
theorem execF_soundD {ann : List (Nat × List (Tmp × Shape1))} {f : FuncId} {fn : Func} {args : List (SV pC)} {u : FrameMode} {w : World} (hf : P.funcs[f]? = some fn) (hm : P.follows .mixedOrders = true)
    (h : execF (pA P ⟨R, false⟩) P ann fn args w) : CallsD P f (toVs args).toArray u w fun e u' w' => u' = u ∧ R e w' := by
  obtain ⟨c, hb, hw⟩ := execF_wp hm h
  exact callsD_of_wp hf hb hw
end
end Go.Vcg
end
section
namespace Go.Proofs.Ytfghidehlnfdiaa
open Go Go.Vcg
abbrev proof_stored.n : Nat := 72
def proof_stored.Vc (o0 : Option Addr) (l0 c0 : Nat) (b1 : Bool) (w : World) (R : Ending → World → Prop) : Prop :=
 ∀ d2 w3, IsNew w 126 #[(.map none), (.bool false)] d2 w3 →
 (((((l0 : Nat) : Int) > 4096 →
 CanSet w3 d2 (.map none) ∧ ∀ w4, IsSet w3 d2 (.map none) w4 →
 CanSet w4 (Addr.add d2 1) (.bool false) ∧ ∀ w5, IsSet w4 (Addr.add d2 1) (.bool false) w5 →
 ∃ m6 : Option Nat, ∃ b7, World.cell? w5 d2 = some (.map m6) ∧
 World.cell? w5 (Addr.add d2 1) = some (.bool b7) ∧
 R (.returned (.tuple #[(.agg #[(.map m6), (.bool b7)]), (.int .i64 162)])) w5)) ∧
 ((¬ ((l0 : Nat) : Int) > 4096 →
 ∃ v8 w9, Sem.run Try.prog (Instr.makeMap 124 none) w3 = .ok v8 w9 ∧
 ∃ m10 : Option Nat, v8 = (.map m10) ∧
 ∀ d11 w12, IsNew w9 126 #[(.map none), (.bool false)] d11 w12 →
 CanSet w12 d11 (.map m10) ∧ ∀ w13, IsSet w12 d11 (.map m10) w13 →
 CanSet w13 (Addr.add d11 1) (.bool b1) ∧ ∀ w14, IsSet w13 (Addr.add d11 1) (.bool b1) w14 →
 ∃ (I15 : Int → World → Prop) (μ15 : Int → World → Nat), I15 0 w14 ∧
 (∀ (n16 : Int) (j17 : Nat → Value) (w17 : World), I15 n16 w17 →
 (((n16 < ((l0 : Nat) : Int) →
 ∃ d18, o0 = some d18 ∧
 ((0 : Int) ≤ n16 ∧ n16 < ((l0 : Nat) : Int)) ∧
 ∃ L19, RowAt w17 (Addr.add d18 ((Int.toNat n16) * 33)) 33 L19 ∧
 ∀ d20 w21, IsNew w17 104 #[(.int .u8 0), (.int .u8 0), (.int .u8 0), (.int .u8 0), (.int .u8 0), (.int .u8 0), (.int .u8 0), (.int .u8 0), (.int .u8 0), (.int .u8 0), (.int .u8 0), (.int .u8 0), (.int .u8 0), (.int .u8 0), (.int .u8 0), (.int .u8 0), (.int .u8 0), (.int .u8 0), (.int .u8 0), (.int .u8 0), (.int .u8 0), (.int .u8 0), (.int .u8 0), (.int .u8 0), (.int .u8 0), (.int .u8 0), (.int .u8 0), (.int .u8 0), (.int .u8 0), (.int .u8 0), (.int .u8 0), (.int .u8 0), (.slice none 0 0)] d20 w21 →
 ∃ w22, Sem.run Try.prog (Instr.storeAt 104 (.pointer (some d20)) (.agg L19)) w21 = .ok () w22 ∧
 ∃ m23 : Option Nat, World.cell? w22 d11 = some (.map m23) ∧
 ∃ L24, RowAt w22 d20 32 L24 ∧
 ∃ v25, Sem.run Try.prog (Instr.lookup 124 (.map m23) (.agg L24) true) w22 = .ok v25 w22 ∧
 ∃ o26 l27 l28 b29, v25 = (.tuple #[(.slice o26 l27 l28), (.bool b29)]) ∧
 (((b29 = false →
 ∃ m30 : Option Nat, World.cell? w22 d11 = some (.map m30) ∧
 ∃ L31, RowAt w22 d20 32 L31 ∧
 ∃ o32 l33 l34, World.cell? w22 (Addr.add d20 32) = some (.slice o32 l33 l34) ∧
 ∃ w35, Sem.run Try.prog (Instr.mapUpdate 124 (.map m30) (.agg L31) (.slice o32 l33 l34)) w22 = .ok () w35 ∧
 I15 (IntKind.wrap .i64 (n16 + 1)) w35 ∧ μ15 (IntKind.wrap .i64 (n16 + 1)) w35 < μ15 n16 w17)) ∧
 ((b29 = true →
 I15 (IntKind.wrap .i64 (n16 + 1)) w22 ∧ μ15 (IntKind.wrap .i64 (n16 + 1)) w22 < μ15 n16 w17))))) ∧
 ((¬ n16 < ((l0 : Nat) : Int) →
 ∃ m36 : Option Nat, ∃ b37, World.cell? w17 d11 = some (.map m36) ∧
 World.cell? w17 (Addr.add d11 1) = some (.bool b37) ∧
 CanSet w17 d2 (.map m36) ∧ ∀ w38, IsSet w17 d2 (.map m36) w38 →
 CanSet w38 (Addr.add d2 1) (.bool b37) ∧ ∀ w39, IsSet w38 (Addr.add d2 1) (.bool b37) w39 →
 ∃ m40 : Option Nat, ∃ b41, World.cell? w39 d2 = some (.map m40) ∧
 World.cell? w39 (Addr.add d2 1) = some (.bool b41) ∧
 R (.returned (.tuple #[(.agg #[(.map m40), (.bool b41)]), (.int .i64 0)])) w39)))))))
theorem proof_stored.vc (o0 l0 c0 b1 w R) (h : proof_stored.Vc o0 l0 c0 b1 w R) : Calls Try.prog 72 #[(.slice o0 l0 c0), (.bool b1)] w R := xs [(5, [(20, .cell (.int .i64))])] [.slice o0 l0 c0, .bool (.var b1)] Try.func72 mixed (by kernel_rfl) h

abbrev proof_store_bytesOf.n : Nat := 77
def proof_store_bytesOf.Vc (m0 : Option Nat) (b1 : Bool) (L2 : Array Value) (w : World) (R : Ending → World → Prop) : Prop :=
 ∀ d3 w4, IsNew w 126 #[(.map m0), (.bool b1)] d3 w4 →
 ∀ d5 w6, IsNew w4 26 L2 d5 w6 →
 ∃ m7 : Option Nat, World.cell? w6 d3 = some (.map m7) ∧
 ∃ L8, RowAt w6 d5 32 L8 ∧
 ∃ v9, Sem.run Try.prog (Instr.lookup 124 (.map m7) (.agg L8) true) w6 = .ok v9 w6 ∧
 ∃ o10 l11 l12 b13, v9 = (.tuple #[(.slice o10 l11 l12), (.bool b13)]) ∧
 (((b13 = false →
 Calls Try.prog 82 #[(.int .i64 160)] w6 (fun e14 w15 =>
 ((∃ ch, e14 = .panicked ch ∧ R (.panicked ch) w15) ∨
 e14 = .returned (.tuple #[]) ∧
 R (.returned (.slice o10 l11 l12)) w15)))) ∧
 ((b13 = true →
 ∀ w16, IsDrew w6 w16 →
 ∃ b17, World.cell? w16 (Addr.add d3 1) = some (.bool b17) ∧
 (((b17 = true →
 ∃ L18, RowAt w16 d5 32 L18 ∧
 ∀ d19 w20, IsNew w16 22 #[(.slice o10 l11 l12)] d19 w20 →
 RowAt w20 d5 32 L18 ∧
 Calls Try.prog 19 #[(.slice (some d19) 1 1)] w20 (fun e21 w22 =>
 ((∃ ch, e21 = .panicked ch ∧ R (.panicked ch) w22) ∨
 ∃ L23, e21 = .returned (.agg L23) ∧
 RowAt w22 d5 32 L18 ∧
 ∃ v24, Sem.run Try.prog (semBin .neq 26 (.tmp 24) (.tmp 25) (.agg L23) (.agg L18)) w22 = .ok v24 w22 ∧
 ∃ b25, v24 = (.bool b25) ∧
 (((b25 = true →
 Calls Try.prog 82 #[(.int .i64 161)] w22 (fun e26 w27 =>
 ((∃ ch, e26 = .panicked ch ∧ R (.panicked ch) w27) ∨
 e26 = .returned (.tuple #[]) ∧
 R (.returned (.slice o10 l11 l12)) w27)))) ∧
 ((b25 = false →
 R (.returned (.slice o10 l11 l12)) w22))))))) ∧
 ((b17 = false →
 R (.returned (.slice o10 l11 l12)) w16))))))
theorem proof_store_bytesOf.vc (m0 : Option Nat) (b1 : Bool) (L2 : Array Value) (w : World) (R : Ending → World → Prop) (h : proof_store_bytesOf.Vc m0 b1 L2 w R) : Calls Try.prog 77 #[(.agg #[(.map m0), (.bool b1)]), (.agg L2)] w R :=
 execF_sound (R := ⟨R, true⟩) (ann := []) (args := [.agg [.map m0, .bool (.var b1)], .big 32 L2]) Try.func77 mixed (Eq.mp (by kernel_rfl : proof_store_bytesOf.Vc m0 b1 L2 w R = execF (pA Try.prog ⟨R, true⟩) Try.prog [] Try.f77 [.agg [.map m0, .bool (.var b1)], .big 32 L2] w) h)

abbrev proof_rootOf.n : Nat := 108
def proof_rootOf.Vc (L0 : Array Value) (w : World) (R : Ending → World → Prop) : Prop :=
 ∀ d1 w2, IsNew w 26 L0 d1 w2 →
 ∀ d3 w4, IsNew w2 193 #[(.int .u8 0), (.int .u8 0), (.int .u8 0), (.int .u8 0), (.int .u8 0), (.int .u8 0), (.int .u8 0), (.int .u8 0), (.int .u8 0), (.int .u8 0), (.int .u8 0), (.int .u8 0), (.int .u8 0), (.int .u8 0), (.int .u8 0), (.int .u8 0), (.int .u8 0), (.int .u8 0), (.int .u8 0), (.int .u8 0), (.int .u8 0), (.int .u8 0), (.int .u8 0), (.int .u8 0), (.int .u8 0), (.int .u8 0), (.int .u8 0), (.int .u8 0), (.int .u8 0), (.int .u8 0), (.int .u8 0), (.int .u8 0), (.pointer none), (.bool false)] d3 w4 →
 ∀ w5, IsDrew w4 w5 →
 ∃ L6, RowAt w5 d1 32 L6 ∧
 ∃ L7, RowAt w5 d1 32 L7 ∧
 Calls Try.prog 52 #[] w5 (fun e8 w9 =>
 ∃ L10, e8 = .returned (.agg L10) ∧
 RowAt w9 d1 32 L7 ∧
 RowAt w9 d1 32 L6 ∧
 ∃ v11, Sem.run Try.prog (semBin .neq 26 (.tmp 4) (.tmp 5) (.agg L7) (.agg L10)) w9 = .ok v11 w9 ∧
 ∃ b12, v11 = (.bool b12) ∧
 Array.size L6 = 32 ∧
 ∃ w13, Sem.run Try.prog (Instr.storeAt 193 (.pointer (some d3)) (.agg (setsAt (lputL #[(.int .u8 0), (.int .u8 0), (.int .u8 0), (.int .u8 0), (.int .u8 0), (.int .u8 0), (.int .u8 0), (.int .u8 0), (.int .u8 0), (.int .u8 0), (.int .u8 0), (.int .u8 0), (.int .u8 0), (.int .u8 0), (.int .u8 0), (.int .u8 0), (.int .u8 0), (.int .u8 0), (.int .u8 0), (.int .u8 0), (.int .u8 0), (.int .u8 0), (.int .u8 0), (.int .u8 0), (.int .u8 0), (.int .u8 0), (.int .u8 0), (.int .u8 0), (.int .u8 0), (.int .u8 0), (.int .u8 0), (.int .u8 0), (.pointer none), (.bool false)] 0 32 L6) 33 [(.bool b12)]))) w9 = .ok () w13 ∧
 ∃ L14, RowAt w13 d3 34 L14 ∧
 R (.returned (.agg L14)) w13)
theorem proof_rootOf.vc (L0 w R) (h : proof_rootOf.Vc L0 w R) : Calls Try.prog 108 #[(.agg L0)] w R := xs [] [.big 32 L0] Try.func108 mixed (by kernel_rfl) h

abbrev proof_nodeOf.n : Nat := 109
def proof_nodeOf.Vc (b0 : Bool) (o1 : Option Addr) (l1 c1 : Nat) (o2 : Option Addr) (l2 c2 : Nat) (w : World) (R : Ending → World → Prop) : Prop :=
 ∀ d3 w4, IsNew w 138 #[(.bool b0), (.slice o1 l1 c1), (.slice o2 l2 c2)] d3 w4 →
 ∀ d5 w6, IsNew w4 197 #[(.bool false), (.slice none 0 0), (.slice none 0 0), (.slice none 0 0)] d5 w6 →
 ∃ o7 l8 l9, World.cell? w6 (Addr.add d3 2) = some (.slice o7 l8 l9) ∧
 (((((l8 : Nat) : Int) = 2 →
 ∃ o10 l11 l12, World.cell? w6 (Addr.add d3 2) = some (.slice o10 l11 l12) ∧
 ∃ d13, o10 = some d13 ∧
 ((0 : Int) ≤ 0 ∧ 0 < ((l11 : Nat) : Int)) ∧
 ∃ o14 l15 l16, World.cell? w6 (Addr.add (Addr.add d13 0) 1) = some (.slice o14 l15 l16) ∧
 Calls Try.prog 42 #[(.slice o14 l15 l16)] w6 (fun e17 w18 =>
 ∃ o19 l20 l21 b22 n23, e17 = .returned (.tuple #[(.slice o19 l20 l21), (.bool b22), (.int .i64 n23)]) ∧
 (((b22 = true →
 ∃ o24 l25 l26, World.cell? w18 (Addr.add d3 2) = some (.slice o24 l25 l26) ∧
 ∃ d27, o24 = some d27 ∧
 ((0 : Int) ≤ 1 ∧ 1 < ((l25 : Nat) : Int)) ∧
 ∃ o28 l29 l30, World.cell? w18 (Addr.add (Addr.add d27 3) 1) = some (.slice o28 l29 l30) ∧
 CanSet w18 d5 (.bool true) ∧ ∀ w31, IsSet w18 d5 (.bool true) w31 →
 CanSet w31 (Addr.add d5 1) (.slice o19 l20 l21) ∧ ∀ w32, IsSet w31 (Addr.add d5 1) (.slice o19 l20 l21) w32 →
 CanSet w32 (Addr.add d5 2) (.slice none 0 0) ∧ ∀ w33, IsSet w32 (Addr.add d5 2) (.slice none 0 0) w33 →
 CanSet w33 (Addr.add d5 3) (.slice o28 l29 l30) ∧ ∀ w34, IsSet w33 (Addr.add d5 3) (.slice o28 l29 l30) w34 →
 ∃ b35 o36 l37 l38 o39 l40 l41 o42 l43 l44, World.cell? w34 d5 = some (.bool b35) ∧
 World.cell? w34 (Addr.add d5 1) = some (.slice o36 l37 l38) ∧
 World.cell? w34 (Addr.add d5 2) = some (.slice o39 l40 l41) ∧
 World.cell? w34 (Addr.add d5 3) = some (.slice o42 l43 l44) ∧
 R (.returned (.agg #[(.bool b35), (.slice o36 l37 l38), (.slice o39 l40 l41), (.slice o42 l43 l44)])) w34)) ∧
 ((b22 = false →
 ∃ o45 l46 l47, World.cell? w18 (Addr.add d3 2) = some (.slice o45 l46 l47) ∧
 ∃ d48, o45 = some d48 ∧
 ((0 : Int) ≤ 1 ∧ 1 < ((l46 : Nat) : Int)) ∧
 ∃ b49 o50 l51 l52 o53 l54 l55, World.cell? w18 (Addr.add d48 3) = some (.bool b49) ∧
 World.cell? w18 (Addr.add (Addr.add d48 3) 1) = some (.slice o50 l51 l52) ∧
 World.cell? w18 (Addr.add (Addr.add d48 3) 2) = some (.slice o53 l54 l55) ∧
 Calls Try.prog 128 #[(.agg #[(.bool b49), (.slice o50 l51 l52), (.slice o53 l54 l55)])] w18 (fun e56 w57 =>
 ∃ L58, e56 = .returned (.agg L58) ∧
 Array.size L58 = 34 ∧
 ∀ d59 w60, IsNew w57 193 (lputL #[(.int .u8 0), (.int .u8 0), (.int .u8 0), (.int .u8 0), (.int .u8 0), (.int .u8 0), (.int .u8 0), (.int .u8 0), (.int .u8 0), (.int .u8 0), (.int .u8 0), (.int .u8 0), (.int .u8 0), (.int .u8 0), (.int .u8 0), (.int .u8 0), (.int .u8 0), (.int .u8 0), (.int .u8 0), (.int .u8 0), (.int .u8 0), (.int .u8 0), (.int .u8 0), (.int .u8 0), (.int .u8 0), (.int .u8 0), (.int .u8 0), (.int .u8 0), (.int .u8 0), (.int .u8 0), (.int .u8 0), (.int .u8 0), (.pointer none), (.bool false)] 0 34 L58) d59 w60 →
 CanSet w60 d5 (.bool false) ∧ ∀ w61, IsSet w60 d5 (.bool false) w61 →
 CanSet w61 (Addr.add d5 1) (.slice o19 l20 l21) ∧ ∀ w62, IsSet w61 (Addr.add d5 1) (.slice o19 l20 l21) w62 →
 CanSet w62 (Addr.add d5 2) (.slice (some d59) 1 1) ∧ ∀ w63, IsSet w62 (Addr.add d5 2) (.slice (some d59) 1 1) w63 →
 CanSet w63 (Addr.add d5 3) (.slice none 0 0) ∧ ∀ w64, IsSet w63 (Addr.add d5 3) (.slice none 0 0) w64 →
 ∃ b65 o66 l67 l68 o69 l70 l71 o72 l73 l74, World.cell? w64 d5 = some (.bool b65) ∧
 World.cell? w64 (Addr.add d5 1) = some (.slice o66 l67 l68) ∧
 World.cell? w64 (Addr.add d5 2) = some (.slice o69 l70 l71) ∧
 World.cell? w64 (Addr.add d5 3) = some (.slice o72 l73 l74) ∧
 R (.returned (.agg #[(.bool b65), (.slice o66 l67 l68), (.slice o69 l70 l71), (.slice o72 l73 l74)])) w64))))))) ∧
 ((((l8 : Nat) : Int) ≠ 2 →
 ∃ o75 l76 l77, World.cell? w6 (Addr.add d3 2) = some (.slice o75 l76 l77) ∧
 ∃ d78, o75 = some d78 ∧
 ((0 : Int) ≤ 16 ∧ 16 < ((l76 : Nat) : Int)) ∧
 ∃ o79 l80 l81, World.cell? w6 (Addr.add (Addr.add d78 48) 1) = some (.slice o79 l80 l81) ∧
 ∀ d82 w83, IsNew w6 197 #[(.bool false), (.slice none 0 0), (.slice none 0 0), (.slice none 0 0)] d82 w83 →
 CanSet w83 d82 (.bool false) ∧ ∀ w84, IsSet w83 d82 (.bool false) w84 →
 CanSet w84 (Addr.add d82 1) (.slice none 0 0) ∧ ∀ w85, IsSet w84 (Addr.add d82 1) (.slice none 0 0) w85 →
 CanSet w85 (Addr.add d82 2) (.slice none 0 0) ∧ ∀ w86, IsSet w85 (Addr.add d82 2) (.slice none 0 0) w86 →
 CanSet w86 (Addr.add d82 3) (.slice o79 l80 l81) ∧ ∀ w87, IsSet w86 (Addr.add d82 3) (.slice o79 l80 l81) w87 →
 ∃ o88 l89 l90, World.cell? w87 (Addr.add d3 2) = some (.slice o88 l89 l90) ∧
 16 ≤ l90 ∧
 ∃ (I91 : Int → World → Prop) (μ91 : Int → World → Nat), I91 0 w87 ∧
 (∀ (n92 : Int) (j93 : Nat → Value) (w93 : World), I91 n92 w93 →
 (((n92 < ((16 : Nat) : Int) →
 ∃ d94, o88 = some d94 ∧
 ((0 : Int) ≤ n92 ∧ n92 < ((16 : Nat) : Int)) ∧
 ∃ b95 o96 l97 l98 o99 l100 l101, World.cell? w93 (Addr.add d94 ((Int.toNat n92) * 3)) = some (.bool b95) ∧
 World.cell? w93 (Addr.add (Addr.add d94 ((Int.toNat n92) * 3)) 1) = some (.slice o96 l97 l98) ∧
 World.cell? w93 (Addr.add (Addr.add d94 ((Int.toNat n92) * 3)) 2) = some (.slice o99 l100 l101) ∧
 ∀ d102 w103, IsNew w93 138 #[(.bool false), (.slice none 0 0), (.slice none 0 0)] d102 w103 →
 CanSet w103 d102 (.bool b95) ∧ ∀ w104, IsSet w103 d102 (.bool b95) w104 →
 CanSet w104 (Addr.add d102 1) (.slice o96 l97 l98) ∧ ∀ w105, IsSet w104 (Addr.add d102 1) (.slice o96 l97 l98) w105 →
 CanSet w105 (Addr.add d102 2) (.slice o99 l100 l101) ∧ ∀ w106, IsSet w105 (Addr.add d102 2) (.slice o99 l100 l101) w106 →
 ∀ w107, IsDrew w106 w107 →
 ∃ o108 l109 l110, World.cell? w107 (Addr.add d82 2) = some (.slice o108 l109 l110) ∧
 ∃ b111 o112 l113 l114 o115 l116 l117, World.cell? w107 d102 = some (.bool b111) ∧
 World.cell? w107 (Addr.add d102 1) = some (.slice o112 l113 l114) ∧
 World.cell? w107 (Addr.add d102 2) = some (.slice o115 l116 l117) ∧
 Calls Try.prog 128 #[(.agg #[(.bool b111), (.slice o112 l113 l114), (.slice o115 l116 l117)])] w107 (fun e118 w119 =>
 ∃ L120, e118 = .returned (.agg L120) ∧
 World.cell? w119 (Addr.add d82 2) = some (.slice o108 l109 l110) ∧
 Array.size L120 = 34 ∧
 ∀ d121 w122, IsNew w119 193 (lputL #[(.int .u8 0), (.int .u8 0), (.int .u8 0), (.int .u8 0), (.int .u8 0), (.int .u8 0), (.int .u8 0), (.int .u8 0), (.int .u8 0), (.int .u8 0), (.int .u8 0), (.int .u8 0), (.int .u8 0), (.int .u8 0), (.int .u8 0), (.int .u8 0), (.int .u8 0), (.int .u8 0), (.int .u8 0), (.int .u8 0), (.int .u8 0), (.int .u8 0), (.int .u8 0), (.int .u8 0), (.int .u8 0), (.int .u8 0), (.int .u8 0), (.int .u8 0), (.int .u8 0), (.int .u8 0), (.int .u8 0), (.int .u8 0), (.pointer none), (.bool false)] 0 34 L120) d121 w122 →
 World.cell? w122 (Addr.add d82 2) = some (.slice o108 l109 l110) ∧
 ∃ v123 w124, Sem.run Try.prog (builtinV .append #[195, 195] 195 #[(.slice o108 l109 l110), (.slice (some d121) 1 1)]) w122 = .ok v123 w124 ∧
 ∃ o125 l126 l127, v123 = (.slice o125 l126 l127) ∧
 CanSet w124 (Addr.add d82 2) (.slice o125 l126 l127) ∧ ∀ w128, IsSet w124 (Addr.add d82 2) (.slice o125 l126 l127) w128 →
 I91 (IntKind.wrap .i64 (n92 + 1)) w128 ∧ μ91 (IntKind.wrap .i64 (n92 + 1)) w128 < μ91 n92 w93))) ∧
 ((¬ n92 < ((16 : Nat) : Int) →
 ∃ b129 o130 l131 l132 o133 l134 l135 o136 l137 l138, World.cell? w93 d82 = some (.bool b129) ∧
 World.cell? w93 (Addr.add d82 1) = some (.slice o130 l131 l132) ∧
 World.cell? w93 (Addr.add d82 2) = some (.slice o133 l134 l135) ∧
 World.cell? w93 (Addr.add d82 3) = some (.slice o136 l137 l138) ∧
 CanSet w93 d5 (.bool b129) ∧ ∀ w139, IsSet w93 d5 (.bool b129) w139 →
 CanSet w139 (Addr.add d5 1) (.slice o130 l131 l132) ∧ ∀ w140, IsSet w139 (Addr.add d5 1) (.slice o130 l131 l132) w140 →
 CanSet w140 (Addr.add d5 2) (.slice o133 l134 l135) ∧ ∀ w141, IsSet w140 (Addr.add d5 2) (.slice o133 l134 l135) w141 →
 CanSet w141 (Addr.add d5 3) (.slice o136 l137 l138) ∧ ∀ w142, IsSet w141 (Addr.add d5 3) (.slice o136 l137 l138) w142 →
 ∃ b143 o144 l145 l146 o147 l148 l149 o150 l151 l152, World.cell? w142 d5 = some (.bool b143) ∧
 World.cell? w142 (Addr.add d5 1) = some (.slice o144 l145 l146) ∧
 World.cell? w142 (Addr.add d5 2) = some (.slice o147 l148 l149) ∧
 World.cell? w142 (Addr.add d5 3) = some (.slice o150 l151 l152) ∧
 R (.returned (.agg #[(.bool b143), (.slice o144 l145 l146), (.slice o147 l148 l149), (.slice o150 l151 l152)])) w142)))))))
theorem proof_nodeOf.vc (b0 o1 l1 c1 o2 l2 c2 w R) (h : proof_nodeOf.Vc b0 o1 l1 c1 o2 l2 c2 w R) : Calls Try.prog 109 #[(.agg #[(.bool b0), (.slice o1 l1 c1), (.slice o2 l2 c2)])] w R := xs [(8, [(49, .cell (.int .i64))])] [.agg [.bool (.var b0), .slice o1 l1 c1, .slice o2 l2 c2]] Try.func109 mixed (by kernel_rfl) h

abbrev proof_parsed.n : Nat := 110
def proof_parsed.Vc (o0 : Option Addr) (l0 c0 : Nat) (w : World) (R : Ending → World → Prop) : Prop :=
 ∀ d1 w2, IsNew w 197 #[(.bool false), (.slice none 0 0), (.slice none 0 0), (.slice none 0 0)] d1 w2 →
 Calls Try.prog 48 #[(.slice o0 l0 c0)] w2 (fun e3 w4 =>
 ∃ n5, e3 = .returned (.int .i64 n5) ∧
 (((n5 ≠ 0 →
 CanSet w4 d1 (.bool false) ∧ ∀ w6, IsSet w4 d1 (.bool false) w6 →
 CanSet w6 (Addr.add d1 1) (.slice none 0 0) ∧ ∀ w7, IsSet w6 (Addr.add d1 1) (.slice none 0 0) w7 →
 CanSet w7 (Addr.add d1 2) (.slice none 0 0) ∧ ∀ w8, IsSet w7 (Addr.add d1 2) (.slice none 0 0) w8 →
 CanSet w8 (Addr.add d1 3) (.slice none 0 0) ∧ ∀ w9, IsSet w8 (Addr.add d1 3) (.slice none 0 0) w9 →
 ∃ b10 o11 l12 l13 o14 l15 l16 o17 l18 l19, World.cell? w9 d1 = some (.bool b10) ∧
 World.cell? w9 (Addr.add d1 1) = some (.slice o11 l12 l13) ∧
 World.cell? w9 (Addr.add d1 2) = some (.slice o14 l15 l16) ∧
 World.cell? w9 (Addr.add d1 3) = some (.slice o17 l18 l19) ∧
 R (.returned (.tuple #[(.agg #[(.bool b10), (.slice o11 l12 l13), (.slice o14 l15 l16), (.slice o17 l18 l19)]), (.int .i64 161)])) w9)) ∧
 ((n5 = 0 →
 Calls Try.prog 116 #[(.slice o0 l0 c0)] w4 (fun e20 w21 =>
 ∃ b22 o23 l24 l25 o26 l27 l28 n29, e20 = .returned (.tuple #[(.agg #[(.bool b22), (.slice o23 l24 l25), (.slice o26 l27 l28)]), (.int .i64 n29)]) ∧
 ∀ d30 w31, IsNew w21 138 #[(.bool false), (.slice none 0 0), (.slice none 0 0)] d30 w31 →
 CanSet w31 d30 (.bool b22) ∧ ∀ w32, IsSet w31 d30 (.bool b22) w32 →
 CanSet w32 (Addr.add d30 1) (.slice o23 l24 l25) ∧ ∀ w33, IsSet w32 (Addr.add d30 1) (.slice o23 l24 l25) w33 →
 CanSet w33 (Addr.add d30 2) (.slice o26 l27 l28) ∧ ∀ w34, IsSet w33 (Addr.add d30 2) (.slice o26 l27 l28) w34 →
 ∃ b35 o36 l37 l38 o39 l40 l41, World.cell? w34 d30 = some (.bool b35) ∧
 World.cell? w34 (Addr.add d30 1) = some (.slice o36 l37 l38) ∧
 World.cell? w34 (Addr.add d30 2) = some (.slice o39 l40 l41) ∧
 Calls Try.prog 109 #[(.agg #[(.bool b35), (.slice o36 l37 l38), (.slice o39 l40 l41)])] w34 (fun e42 w43 =>
 ∃ b44 o45 l46 l47 o48 l49 l50 o51 l52 l53, e42 = .returned (.agg #[(.bool b44), (.slice o45 l46 l47), (.slice o48 l49 l50), (.slice o51 l52 l53)]) ∧
 CanSet w43 d1 (.bool b44) ∧ ∀ w54, IsSet w43 d1 (.bool b44) w54 →
 CanSet w54 (Addr.add d1 1) (.slice o45 l46 l47) ∧ ∀ w55, IsSet w54 (Addr.add d1 1) (.slice o45 l46 l47) w55 →
 CanSet w55 (Addr.add d1 2) (.slice o48 l49 l50) ∧ ∀ w56, IsSet w55 (Addr.add d1 2) (.slice o48 l49 l50) w56 →
 CanSet w56 (Addr.add d1 3) (.slice o51 l52 l53) ∧ ∀ w57, IsSet w56 (Addr.add d1 3) (.slice o51 l52 l53) w57 →
 ∃ b58 o59 l60 l61 o62 l63 l64 o65 l66 l67, World.cell? w57 d1 = some (.bool b58) ∧
 World.cell? w57 (Addr.add d1 1) = some (.slice o59 l60 l61) ∧
 World.cell? w57 (Addr.add d1 2) = some (.slice o62 l63 l64) ∧
 World.cell? w57 (Addr.add d1 3) = some (.slice o65 l66 l67) ∧
 R (.returned (.tuple #[(.agg #[(.bool b58), (.slice o59 l60 l61), (.slice o62 l63 l64), (.slice o65 l66 l67)]), (.int .i64 0)])) w57))))))
theorem proof_parsed.vc (o0 l0 c0 w R) (h : proof_parsed.Vc o0 l0 c0 w R) : Calls Try.prog 110 #[(.slice o0 l0 c0)] w R := xs [] [.slice o0 l0 c0] Try.func110 mixed (by kernel_rfl) h

abbrev proof_valueIf.n : Nat := 111
def proof_valueIf.Vc (o0 : Option Addr) (l0 c0 : Nat) (b1 : Bool) (w : World) (R : Ending → World → Prop) : Prop :=
 (((b1 = false →
 R (.returned (.tuple #[(.slice none 0 0), (.bool false)])) w)) ∧
 ((b1 = true →
 Calls Try.prog 78 #[(.slice o0 l0 c0)] w (fun e2 w3 =>
 ∃ o4 l5 l6, e2 = .returned (.slice o4 l5 l6) ∧
 R (.returned (.tuple #[(.slice o4 l5 l6), (.bool true)])) w3))))
theorem proof_valueIf.vc (o0 l0 c0 b1 w R) (h : proof_valueIf.Vc o0 l0 c0 b1 w R) : Calls Try.prog 111 #[(.slice o0 l0 c0), (.bool b1)] w R := xs [] [.slice o0 l0 c0, .bool (.var b1)] Try.func111 mixed (by kernel_rfl) h

abbrev proof_node_isBranch.n : Nat := 112
def proof_node_isBranch.Vc (b0 : Bool) (o1 : Option Addr) (l1 c1 : Nat) (o2 : Option Addr) (l2 c2 : Nat) (o3 : Option Addr) (l3 c3 : Nat) (w : World) (R : Ending → World → Prop) : Prop :=
 ∀ d4 w5, IsNew w 197 #[(.bool b0), (.slice o1 l1 c1), (.slice o2 l2 c2), (.slice o3 l3 c3)] d4 w5 →
 ∃ o6 l7 l8, World.cell? w5 (Addr.add d4 2) = some (.slice o6 l7 l8) ∧
 R (.returned (.bool (decide (((l7 : Nat) : Int) = 16)))) w5
theorem proof_node_isBranch.vc (b0 o1 l1 c1 o2 l2 c2 o3 l3 c3 w R) (h : proof_node_isBranch.Vc b0 o1 l1 c1 o2 l2 c2 o3 l3 c3 w R) : Calls Try.prog 112 #[(.agg #[(.bool b0), (.slice o1 l1 c1), (.slice o2 l2 c2), (.slice o3 l3 c3)])] w R := xs [] [.agg [.bool (.var b0), .slice o1 l1 c1, .slice o2 l2 c2, .slice o3 l3 c3]] Try.func112 mixed (by kernel_rfl) h

abbrev proof_refOf.n : Nat := 128
def proof_refOf.Vc (b0 : Bool) (o1 : Option Addr) (l1 c1 : Nat) (o2 : Option Addr) (l2 c2 : Nat) (w : World) (R : Ending → World → Prop) : Prop :=
 ∀ d3 w4, IsNew w 138 #[(.bool b0), (.slice o1 l1 c1), (.slice o2 l2 c2)] d3 w4 →
 ∀ d5 w6, IsNew w4 193 #[(.int .u8 0), (.int .u8 0), (.int .u8 0), (.int .u8 0), (.int .u8 0), (.int .u8 0), (.int .u8 0), (.int .u8 0), (.int .u8 0), (.int .u8 0), (.int .u8 0), (.int .u8 0), (.int .u8 0), (.int .u8 0), (.int .u8 0), (.int .u8 0), (.int .u8 0), (.int .u8 0), (.int .u8 0), (.int .u8 0), (.int .u8 0), (.int .u8 0), (.int .u8 0), (.int .u8 0), (.int .u8 0), (.int .u8 0), (.int .u8 0), (.int .u8 0), (.int .u8 0), (.int .u8 0), (.int .u8 0), (.int .u8 0), (.pointer none), (.bool false)] d5 w6 →
 ∃ b7, World.cell? w6 d3 = some (.bool b7) ∧
 (((b7 = true →
 ∃ w8, Sem.run Try.prog (Instr.storeAt 193 (.pointer (some d5)) (.agg (setsAt (setsAt #[(.int .u8 0), (.int .u8 0), (.int .u8 0), (.int .u8 0), (.int .u8 0), (.int .u8 0), (.int .u8 0), (.int .u8 0), (.int .u8 0), (.int .u8 0), (.int .u8 0), (.int .u8 0), (.int .u8 0), (.int .u8 0), (.int .u8 0), (.int .u8 0), (.int .u8 0), (.int .u8 0), (.int .u8 0), (.int .u8 0), (.int .u8 0), (.int .u8 0), (.int .u8 0), (.int .u8 0), (.int .u8 0), (.int .u8 0), (.int .u8 0), (.int .u8 0), (.int .u8 0), (.int .u8 0), (.int .u8 0), (.int .u8 0), (.pointer none), (.bool false)] 32 [(.pointer (some d3))]) 33 [(.bool true)]))) w6 = .ok () w8 ∧
 ∃ L9, RowAt w8 d5 34 L9 ∧
 R (.returned (.agg L9)) w8)) ∧
 ((b7 = false →
 ∃ o10 l11 l12, World.cell? w6 (Addr.add d3 1) = some (.slice o10 l11 l12) ∧
 (((((l11 : Nat) : Int) = 0 →
 ∃ w13, Sem.run Try.prog (Instr.storeAt 193 (.pointer (some d5)) (.agg #[(.int .u8 0), (.int .u8 0), (.int .u8 0), (.int .u8 0), (.int .u8 0), (.int .u8 0), (.int .u8 0), (.int .u8 0), (.int .u8 0), (.int .u8 0), (.int .u8 0), (.int .u8 0), (.int .u8 0), (.int .u8 0), (.int .u8 0), (.int .u8 0), (.int .u8 0), (.int .u8 0), (.int .u8 0), (.int .u8 0), (.int .u8 0), (.int .u8 0), (.int .u8 0), (.int .u8 0), (.int .u8 0), (.int .u8 0), (.int .u8 0), (.int .u8 0), (.int .u8 0), (.int .u8 0), (.int .u8 0), (.int .u8 0), (.pointer none), (.bool false)])) w6 = .ok () w13 ∧
 ∃ L14, RowAt w13 d5 34 L14 ∧
 R (.returned (.agg L14)) w13)) ∧
 ((((l11 : Nat) : Int) ≠ 0 →
 ∃ o15 l16 l17, World.cell? w6 (Addr.add d3 1) = some (.slice o15 l16 l17) ∧
 32 ≤ l16 ∧
 ∃ d18, o15 = some d18 ∧
 ∃ L19, RowAt w6 d18 32 L19 ∧
 Array.size L19 = 32 ∧
 ∃ w20, Sem.run Try.prog (Instr.storeAt 193 (.pointer (some d5)) (.agg (setsAt (lputL #[(.int .u8 0), (.int .u8 0), (.int .u8 0), (.int .u8 0), (.int .u8 0), (.int .u8 0), (.int .u8 0), (.int .u8 0), (.int .u8 0), (.int .u8 0), (.int .u8 0), (.int .u8 0), (.int .u8 0), (.int .u8 0), (.int .u8 0), (.int .u8 0), (.int .u8 0), (.int .u8 0), (.int .u8 0), (.int .u8 0), (.int .u8 0), (.int .u8 0), (.int .u8 0), (.int .u8 0), (.int .u8 0), (.int .u8 0), (.int .u8 0), (.int .u8 0), (.int .u8 0), (.int .u8 0), (.int .u8 0), (.int .u8 0), (.pointer none), (.bool false)] 0 32 L19) 33 [(.bool true)]))) w6 = .ok () w20 ∧
 ∃ L21, RowAt w20 d5 34 L21 ∧
 R (.returned (.agg L21)) w20))))))
theorem proof_refOf.vc (b0 o1 l1 c1 o2 l2 c2 w R) (h : proof_refOf.Vc b0 o1 l1 c1 o2 l2 c2 w R) : Calls Try.prog 128 #[(.agg #[(.bool b0), (.slice o1 l1 c1), (.slice o2 l2 c2)])] w R := xs [] [.agg [.bool (.var b0), .slice o1 l1 c1, .slice o2 l2 c2]] Try.func128 mixed (by kernel_rfl) h

abbrev proof_way.n : Nat := 75
def proof_way.Vc (L0 : Array Value) (o1 : Option Addr) (l1 c1 : Nat) (v2 : Value) (w : World) (R : Ending → World → Prop) : Prop :=
 ∀ d3 w4, IsNew w 26 L0 d3 w4 →
 Calls Try.prog 40 #[(.slice o1 l1 c1)] w4 (fun e5 w6 =>
 ((∃ ch, e5 = .panicked ch ∧ R (.panicked ch) w6) ∨
 ∃ o7 l8 l9, e5 = .returned (.slice o7 l8 l9) ∧
 ∃ L10, RowAt w6 d3 32 L10 ∧
 Calls Try.prog 108 #[(.agg L10)] w6 (fun e11 w12 =>
 ((∃ ch, e11 = .panicked ch ∧ R (.panicked ch) w12) ∨
 ∃ L13, e11 = .returned (.agg L13) ∧
 ∀ d14 w15, IsNew w12 193 #[(.int .u8 0), (.int .u8 0), (.int .u8 0), (.int .u8 0), (.int .u8 0), (.int .u8 0), (.int .u8 0), (.int .u8 0), (.int .u8 0), (.int .u8 0), (.int .u8 0), (.int .u8 0), (.int .u8 0), (.int .u8 0), (.int .u8 0), (.int .u8 0), (.int .u8 0), (.int .u8 0), (.int .u8 0), (.int .u8 0), (.int .u8 0), (.int .u8 0), (.int .u8 0), (.int .u8 0), (.int .u8 0), (.int .u8 0), (.int .u8 0), (.int .u8 0), (.int .u8 0), (.int .u8 0), (.int .u8 0), (.int .u8 0), (.pointer none), (.bool false)] d14 w15 →
 ∃ w16, Sem.run Try.prog (Instr.storeAt 193 (.pointer (some d14)) (.agg L13)) w15 = .ok () w16 ∧
 ∃ (I17 : Option Addr → Nat → Nat → Addr → World → Prop) (μ17 : Option Addr → Nat → Nat → Addr → World → Nat), I17 o7 l8 l9 d14 w16 ∧
 (∀ (o18 : Option Addr) (l18 : Nat) (c18 : Nat) (d19 : Addr) (j20 : Nat → Value) (w20 : World), I17 o18 l18 c18 d19 w20 →
 ∃ b21, World.cell? w20 (Addr.add d19 33) = some (.bool b21) ∧
 (((b21 = true →
 ∀ d22 w23, IsNew w20 197 #[(.bool false), (.slice none 0 0), (.slice none 0 0), (.slice none 0 0)] d22 w23 →
 ∃ (J24 : World → Prop), (∃ o25, World.cell? w23 (Addr.add d19 32) = some (.pointer o25) ∧
 (((o25 ≠ none →
 ∃ o26, World.cell? w23 (Addr.add d19 32) = some (.pointer o26) ∧
 ∃ d27, o26 = some d27 ∧
 ∃ b28 o29 l30 l31 o32 l33 l34, World.cell? w23 d27 = some (.bool b28) ∧
 World.cell? w23 (Addr.add d27 1) = some (.slice o29 l30 l31) ∧
 World.cell? w23 (Addr.add d27 2) = some (.slice o32 l33 l34) ∧
 Calls Try.prog 109 #[(.agg #[(.bool b28), (.slice o29 l30 l31), (.slice o32 l33 l34)])] w23 (fun e35 w36 =>
 ((∃ ch, e35 = .panicked ch ∧ R (.panicked ch) w36) ∨
 ∃ b37 o38 l39 l40 o41 l42 l43 o44 l45 l46, e35 = .returned (.agg #[(.bool b37), (.slice o38 l39 l40), (.slice o41 l42 l43), (.slice o44 l45 l46)]) ∧
 CanSet w36 d22 (.bool b37) ∧ ∀ w47, IsSet w36 d22 (.bool b37) w47 →
 CanSet w47 (Addr.add d22 1) (.slice o38 l39 l40) ∧ ∀ w48, IsSet w47 (Addr.add d22 1) (.slice o38 l39 l40) w48 →
 CanSet w48 (Addr.add d22 2) (.slice o41 l42 l43) ∧ ∀ w49, IsSet w48 (Addr.add d22 2) (.slice o41 l42 l43) w49 →
 CanSet w49 (Addr.add d22 3) (.slice o44 l45 l46) ∧ ∀ w50, IsSet w49 (Addr.add d22 3) (.slice o44 l45 l46) w50 →
 J24  w50)))) ∧
 ((o25 = none →
 ∃ L51, RowAt w23 d19 32 L51 ∧
 CallsV Try.prog v2 #[(.agg L51)] w23 (fun e52 w53 =>
 ((∃ ch, e52 = .panicked ch ∧ R (.panicked ch) w53) ∨
 ∃ o54 l55 l56, e52 = .returned (.slice o54 l55 l56) ∧
 Calls Try.prog 110 #[(.slice o54 l55 l56)] w53 (fun e57 w58 =>
 ((∃ ch, e57 = .panicked ch ∧ R (.panicked ch) w58) ∨
 ∃ b59 o60 l61 l62 o63 l64 l65 o66 l67 l68 n69, e57 = .returned (.tuple #[(.agg #[(.bool b59), (.slice o60 l61 l62), (.slice o63 l64 l65), (.slice o66 l67 l68)]), (.int .i64 n69)]) ∧
 CanSet w58 d22 (.bool b59) ∧ ∀ w70, IsSet w58 d22 (.bool b59) w70 →
 CanSet w70 (Addr.add d22 1) (.slice o60 l61 l62) ∧ ∀ w71, IsSet w70 (Addr.add d22 1) (.slice o60 l61 l62) w71 →
 CanSet w71 (Addr.add d22 2) (.slice o63 l64 l65) ∧ ∀ w72, IsSet w71 (Addr.add d22 2) (.slice o63 l64 l65) w72 →
 CanSet w72 (Addr.add d22 3) (.slice o66 l67 l68) ∧ ∀ w73, IsSet w72 (Addr.add d22 3) (.slice o66 l67 l68) w73 →
 Calls Try.prog 82 #[(.int .i64 n69)] w73 (fun e74 w75 =>
 ((∃ ch, e74 = .panicked ch ∧ R (.panicked ch) w75) ∨
 e74 = .returned (.tuple #[]) ∧
 J24  w75)))))))))) ∧
 (∀  (j76 : Nat → Value) (w76 : World), J24  w76 →
 ∃ b77, World.cell? w76 d22 = some (.bool b77) ∧
 (((b77 = true →
 ∃ o78 l79 l80, World.cell? w76 (Addr.add d22 1) = some (.slice o78 l79 l80) ∧
 Calls Try.prog 87 #[(.slice o78 l79 l80), (.slice o18 l18 c18)] w76 (fun e81 w82 =>
 ((∃ ch, e81 = .panicked ch ∧ R (.panicked ch) w82) ∨
 ∃ b83, e81 = .returned (.bool b83) ∧
 ∃ o84 l85 l86, World.cell? w82 (Addr.add d22 3) = some (.slice o84 l85 l86) ∧
 Calls Try.prog 111 #[(.slice o84 l85 l86), (.bool b83)] w82 (fun e87 w88 =>
 ((∃ ch, e87 = .panicked ch ∧ R (.panicked ch) w88) ∨
 ∃ o89 l90 l91 b92, e87 = .returned (.tuple #[(.slice o89 l90 l91), (.bool b92)]) ∧
 R (.returned (.tuple #[(.slice o89 l90 l91), (.bool b92)])) w88)))))) ∧
 ((b77 = false →
 ∃ b93 o94 l95 l96 o97 l98 l99 o100 l101 l102, World.cell? w76 d22 = some (.bool b93) ∧
 World.cell? w76 (Addr.add d22 1) = some (.slice o94 l95 l96) ∧
 World.cell? w76 (Addr.add d22 2) = some (.slice o97 l98 l99) ∧
 World.cell? w76 (Addr.add d22 3) = some (.slice o100 l101 l102) ∧
 Calls Try.prog 112 #[(.agg #[(.bool b93), (.slice o94 l95 l96), (.slice o97 l98 l99), (.slice o100 l101 l102)])] w76 (fun e103 w104 =>
 ((∃ ch, e103 = .panicked ch ∧ R (.panicked ch) w104) ∨
 ∃ b105, e103 = .returned (.bool b105) ∧
 (((b105 = false →
 ∃ o106 l107 l108, World.cell? w104 (Addr.add d22 1) = some (.slice o106 l107 l108) ∧
 Calls Try.prog 113 #[(.slice o18 l18 c18), (.slice o106 l107 l108)] w104 (fun e109 w110 =>
 ((∃ ch, e109 = .panicked ch ∧ R (.panicked ch) w110) ∨
 ∃ o111 l112 l113 b114, e109 = .returned (.tuple #[(.slice o111 l112 l113), (.bool b114)]) ∧
 (((b114 = false →
 R (.returned (.tuple #[(.slice none 0 0), (.bool false)])) w110)) ∧
 ((b114 = true →
 ∃ o115 l116 l117, World.cell? w110 (Addr.add d22 2) = some (.slice o115 l116 l117) ∧
 ∃ d118, o115 = some d118 ∧
 ((0 : Int) ≤ 0 ∧ 0 < ((l116 : Nat) : Int)) ∧
 ∃ L119, RowAt w110 (Addr.add d118 0) 34 L119 ∧
 ∃ w120, Sem.run Try.prog (Instr.storeAt 193 (.pointer (some d19)) (.agg L119)) w110 = .ok () w120 ∧
 ∃ L121, RowAt w120 d19 34 L121 ∧
 ∀ d122 w123, IsNew w120 193 #[(.int .u8 0), (.int .u8 0), (.int .u8 0), (.int .u8 0), (.int .u8 0), (.int .u8 0), (.int .u8 0), (.int .u8 0), (.int .u8 0), (.int .u8 0), (.int .u8 0), (.int .u8 0), (.int .u8 0), (.int .u8 0), (.int .u8 0), (.int .u8 0), (.int .u8 0), (.int .u8 0), (.int .u8 0), (.int .u8 0), (.int .u8 0), (.int .u8 0), (.int .u8 0), (.int .u8 0), (.int .u8 0), (.int .u8 0), (.int .u8 0), (.int .u8 0), (.int .u8 0), (.int .u8 0), (.int .u8 0), (.int .u8 0), (.pointer none), (.bool false)] d122 w123 →
 ∃ w124, Sem.run Try.prog (Instr.storeAt 193 (.pointer (some d122)) (.agg L121)) w123 = .ok () w124 ∧
 I17 o111 l112 l113 d122 w124 ∧ μ17 o111 l112 l113 d122 w124 < μ17 o18 l18 c18 d19 w20))))))) ∧
 ((b105 = true →
 (((((l18 : Nat) : Int) = 0 →
 ∃ o125 l126 l127, World.cell? w104 (Addr.add d22 3) = some (.slice o125 l126 l127) ∧
 ∃ o128 l129 l130, World.cell? w104 (Addr.add d22 3) = some (.slice o128 l129 l130) ∧
 Calls Try.prog 111 #[(.slice o125 l126 l127), (.bool (decide (((l129 : Nat) : Int) > 0)))] w104 (fun e131 w132 =>
 ((∃ ch, e131 = .panicked ch ∧ R (.panicked ch) w132) ∨
 ∃ o133 l134 l135 b136, e131 = .returned (.tuple #[(.slice o133 l134 l135), (.bool b136)]) ∧
 R (.returned (.tuple #[(.slice o133 l134 l135), (.bool b136)])) w132)))) ∧
 ((((l18 : Nat) : Int) ≠ 0 →
 ∀ w137, IsDrew w104 w137 →
 ∃ o138 l139 l140, World.cell? w137 (Addr.add d22 2) = some (.slice o138 l139 l140) ∧
 ∃ d141, o18 = some d141 ∧
 ((0 : Int) ≤ 0 ∧ 0 < ((l18 : Nat) : Int)) ∧
 ∃ n142, World.cell? w137 (Addr.add d141 0) = some (.int .u8 n142) ∧
 ∃ d143, o138 = some d143 ∧
 ((0 : Int) ≤ n142 ∧ n142 < ((l139 : Nat) : Int)) ∧
 ∃ L144, RowAt w137 (Addr.add d143 ((Int.toNat n142) * 34)) 34 L144 ∧
 1 ≤ l18 ∧
 ∃ w145, Sem.run Try.prog (Instr.storeAt 193 (.pointer (some d19)) (.agg L144)) w137 = .ok () w145 ∧
 ∃ L146, RowAt w145 d19 34 L146 ∧
 ∀ d147 w148, IsNew w145 193 #[(.int .u8 0), (.int .u8 0), (.int .u8 0), (.int .u8 0), (.int .u8 0), (.int .u8 0), (.int .u8 0), (.int .u8 0), (.int .u8 0), (.int .u8 0), (.int .u8 0), (.int .u8 0), (.int .u8 0), (.int .u8 0), (.int .u8 0), (.int .u8 0), (.int .u8 0), (.int .u8 0), (.int .u8 0), (.int .u8 0), (.int .u8 0), (.int .u8 0), (.int .u8 0), (.int .u8 0), (.int .u8 0), (.int .u8 0), (.int .u8 0), (.int .u8 0), (.int .u8 0), (.int .u8 0), (.int .u8 0), (.int .u8 0), (.pointer none), (.bool false)] d147 w148 →
 ∃ w149, Sem.run Try.prog (Instr.storeAt 193 (.pointer (some d147)) (.agg L146)) w148 = .ok () w149 ∧
 I17 (subO o18 c18 1 1) (l18 - 1) (c18 - 1) d147 w149 ∧ μ17 (subO o18 c18 1 1) (l18 - 1) (c18 - 1) d147 w149 < μ17 o18 l18 c18 d19 w20)))))))))))))) ∧
 ((b21 = false →
 R (.returned (.tuple #[(.slice none 0 0), (.bool false)])) w20))))))))
theorem proof_way.vc (L0 : Array Value) (o1 : Option Addr) (l1 : Nat) (c1 : Nat) (v2 : Value) (w : World) (R : Ending → World → Prop) (h : proof_way.Vc L0 o1 l1 c1 v2 w R) : Calls Try.prog 75 #[(.agg L0), (.slice o1 l1 c1), v2] w R :=
 execF_sound (R := ⟨R, true⟩) (ann := [(3, [(8, .cell (.slice)), (9, .cell (.addr))]), (1000011, [])]) (args := [.big 32 L0, .slice o1 l1 c1, .raw v2]) Try.func75 mixed (Eq.mp (by kernel_rfl : proof_way.Vc L0 o1 l1 c1 v2 w R = execF (pA Try.prog ⟨R, true⟩) Try.prog [(3, [(8, .cell (.slice)), (9, .cell (.addr))]), (1000011, [])] Try.f75 [.big 32 L0, .slice o1 l1 c1, .raw v2] w) h)

def proof_Prove_1.Vc (d0 d1 : Addr) (w : World) (R : Ending → World → Prop) : Prop :=
 ∃ n2, World.cell? w d0 = some (.int .i64 n2) ∧
 (((n2 ≠ 0 →
 CanSet w d1 (.slice none 0 0) ∧ ∀ w3, IsSet w d1 (.slice none 0 0) w3 →
 R (.returned (.tuple #[])) w3)) ∧
 ((n2 = 0 →
 R (.returned (.tuple #[])) w)))
theorem proof_Prove_1.vcd (u : FrameMode) (d0 : Addr) (d1 : Addr) (w : World) (R : Ending → World → Prop) (h : proof_Prove_1.Vc d0 d1 w R) : CallsD Try.prog 73 #[(.pointer (some d0)), (.pointer (some d1))] u w (fun e u' w' => u' = u ∧ R e w') :=
 execF_soundD (R := R) (ann := []) (args := [.addr d0, .addr d1]) Try.func73 mixed (Eq.mp (by kernel_rfl : proof_Prove_1.Vc d0 d1 w R = execF (pA Try.prog ⟨R, false⟩) Try.prog [] Try.f73 [.addr d0, .addr d1] w) h)

def proof_Prove_2.Vc (L0 : Array Value) (d1 d2 : Addr) (w : World) (R : Ending → World → Prop) : Prop :=
 ∀ d3 w4, IsNew w 26 L0 d3 w4 →
 ∃ m5 : Option Nat, ∃ b6, World.cell? w4 d1 = some (.map m5) ∧
 World.cell? w4 (Addr.add d1 1) = some (.bool b6) ∧
 ∃ L7, RowAt w4 d3 32 L7 ∧
 Calls Try.prog 77 #[(.agg #[(.map m5), (.bool b6)]), (.agg L7)] w4 (fun e8 w9 =>
 ((∃ ch, e8 = .panicked ch ∧ R (.panicked ch) w9) ∨
 ∃ o10 l11 l12, e8 = .returned (.slice o10 l11 l12) ∧
 ∀ w13, IsDrew w9 w13 →
 ∃ o14 l15 l16, World.cell? w13 d2 = some (.slice o14 l15 l16) ∧
 Calls Try.prog 78 #[(.slice o10 l11 l12)] w13 (fun e17 w18 =>
 ((∃ ch, e17 = .panicked ch ∧ R (.panicked ch) w18) ∨
 ∃ o19 l20 l21, e17 = .returned (.slice o19 l20 l21) ∧
 World.cell? w18 d2 = some (.slice o14 l15 l16) ∧
 ∀ d22 w23, IsNew w18 22 #[(.slice o19 l20 l21)] d22 w23 →
 World.cell? w23 d2 = some (.slice o14 l15 l16) ∧
 ∃ v24 w25, Sem.run Try.prog (builtinV .append #[31, 31] 31 #[(.slice o14 l15 l16), (.slice (some d22) 1 1)]) w23 = .ok v24 w25 ∧
 ∃ o26 l27 l28, v24 = (.slice o26 l27 l28) ∧
 CanSet w25 d2 (.slice o26 l27 l28) ∧ ∀ w29, IsSet w25 d2 (.slice o26 l27 l28) w29 →
 R (.returned (.slice o10 l11 l12)) w29))))
theorem proof_Prove_2.vc (L0 : Array Value) (d1 : Addr) (d2 : Addr) (w : World) (R : Ending → World → Prop) (h : proof_Prove_2.Vc L0 d1 d2 w R) : Calls Try.prog 76 #[(.agg L0), (.pointer (some d1)), (.pointer (some d2))] w R :=
 execF_sound (R := ⟨R, true⟩) (ann := []) (args := [.big 32 L0, .addr d1, .addr d2]) Try.func76 mixed (Eq.mp (by kernel_rfl : proof_Prove_2.Vc L0 d1 d2 w R = execF (pA Try.prog ⟨R, true⟩) Try.prog [] Try.f76 [.big 32 L0, .addr d1, .addr d2] w) h)

def proof_Verify_1.Vc (d0 d1 d2 : Addr) (w : World) (R : Ending → World → Prop) : Prop :=
 ∃ n3, World.cell? w d0 = some (.int .i64 n3) ∧
 (((n3 ≠ 0 →
 CanSet w d1 (.slice none 0 0) ∧ ∀ w4, IsSet w d1 (.slice none 0 0) w4 →
 CanSet w4 d2 (.bool false) ∧ ∀ w5, IsSet w4 d2 (.bool false) w5 →
 R (.returned (.tuple #[])) w5)) ∧
 ((n3 = 0 →
 R (.returned (.tuple #[])) w)))
theorem proof_Verify_1.vcd (u : FrameMode) (d0 : Addr) (d1 : Addr) (d2 : Addr) (w : World) (R : Ending → World → Prop) (h : proof_Verify_1.Vc d0 d1 d2 w R) : CallsD Try.prog 80 #[(.pointer (some d0)), (.pointer (some d1)), (.pointer (some d2))] u w (fun e u' w' => u' = u ∧ R e w') :=
 execF_soundD (R := R) (ann := []) (args := [.addr d0, .addr d1, .addr d2]) Try.func80 mixed (Eq.mp (by kernel_rfl : proof_Verify_1.Vc d0 d1 d2 w R = execF (pA Try.prog ⟨R, false⟩) Try.prog [] Try.f80 [.addr d0, .addr d1, .addr d2] w) h)

def proof_Verify_2.Vc (L0 : Array Value) (d1 d2 : Addr) (w : World) (R : Ending → World → Prop) : Prop :=
 ∀ d3 w4, IsNew w 26 L0 d3 w4 →
 ∃ (J5 : World → Prop), (∃ n6, World.cell? w4 d1 = some (.int .i64 n6) ∧
 ∃ o7 l8 l9, World.cell? w4 d2 = some (.slice o7 l8 l9) ∧
 (((n6 = ((l8 : Nat) : Int) →
 Calls Try.prog 82 #[(.int .i64 160)] w4 (fun e10 w11 =>
 ((∃ ch, e10 = .panicked ch ∧ R (.panicked ch) w11) ∨
 e10 = .returned (.tuple #[]) ∧
 J5  w11)))) ∧
 ((n6 ≠ ((l8 : Nat) : Int) →
 J5  w4)))) ∧
 (∀  (j12 : Nat → Value) (w12 : World), J5  w12 →
 ∃ o13 l14 l15, World.cell? w12 d2 = some (.slice o13 l14 l15) ∧
 ∃ n16, World.cell? w12 d1 = some (.int .i64 n16) ∧
 ∃ d17, o13 = some d17 ∧
 ((0 : Int) ≤ n16 ∧ n16 < ((l14 : Nat) : Int)) ∧
 ∃ o18 l19 l20, World.cell? w12 (Addr.add d17 (Int.toNat n16)) = some (.slice o18 l19 l20) ∧
 ∃ n21, World.cell? w12 d1 = some (.int .i64 n21) ∧
 CanSet w12 d1 (.int .i64 (IntKind.wrap .i64 (n21 + 1))) ∧ ∀ w22, IsSet w12 d1 (.int .i64 (IntKind.wrap .i64 (n21 + 1))) w22 →
 ∀ w23, IsDrew w22 w23 →
 ∃ L24, RowAt w23 d3 32 L24 ∧
 ∀ d25 w26, IsNew w23 22 #[(.slice o18 l19 l20)] d25 w26 →
 RowAt w26 d3 32 L24 ∧
 Calls Try.prog 19 #[(.slice (some d25) 1 1)] w26 (fun e27 w28 =>
 ((∃ ch, e27 = .panicked ch ∧ R (.panicked ch) w28) ∨
 ∃ L29, e27 = .returned (.agg L29) ∧
 RowAt w28 d3 32 L24 ∧
 ∃ v30, Sem.run Try.prog (semBin .neq 26 (.tmp 19) (.tmp 20) (.agg L29) (.agg L24)) w28 = .ok v30 w28 ∧
 ∃ b31, v30 = (.bool b31) ∧
 (((b31 = true →
 Calls Try.prog 82 #[(.int .i64 163)] w28 (fun e32 w33 =>
 ((∃ ch, e32 = .panicked ch ∧ R (.panicked ch) w33) ∨
 e32 = .returned (.tuple #[]) ∧
 R (.returned (.slice o18 l19 l20)) w33)))) ∧
 ((b31 = false →
 R (.returned (.slice o18 l19 l20)) w28))))))
theorem proof_Verify_2.vc (L0 : Array Value) (d1 : Addr) (d2 : Addr) (w : World) (R : Ending → World → Prop) (h : proof_Verify_2.Vc L0 d1 d2 w R) : Calls Try.prog 81 #[(.agg L0), (.pointer (some d1)), (.pointer (some d2))] w R :=
 execF_sound (R := ⟨R, true⟩) (ann := [(1000003, [])]) (args := [.big 32 L0, .addr d1, .addr d2]) Try.func81 mixed (Eq.mp (by kernel_rfl : proof_Verify_2.Vc L0 d1 d2 w R = execF (pA Try.prog ⟨R, true⟩) Try.prog [(1000003, [])] Try.f81 [.big 32 L0, .addr d1, .addr d2] w) h)

abbrev proof_Prove.n : Nat := 30
def proof_Prove.Vc (o0 : Option Addr) (l0 c0 : Nat) (L1 : Array Value) (o2 : Option Addr) (l2 c2 : Nat) (w : World) (R : Ending → World → Prop) : Prop :=
 ∀ d3 w4, IsNew w 26 L1 d3 w4 →
 ∀ d5 w6, IsNew w4 31 #[(.slice none 0 0)] d5 w6 →
 ∀ d7 w8, IsNew w6 52 #[(.int .i64 0)] d7 w8 →
 Calls Try.prog 72 #[(.slice o0 l0 c0), (.bool false)] w8 (fun e9 w10 =>
 ((∃ ch, e9 = .panicked ch ∧ R (.panicked ch) w10) ∨
 ∃ m11 : Option Nat, ∃ b12 n13, e9 = .returned (.tuple #[(.agg #[(.map m11), (.bool b12)]), (.int .i64 n13)]) ∧
 ∀ d14 w15, IsNew w10 126 #[(.map none), (.bool false)] d14 w15 →
 CanSet w15 d14 (.map m11) ∧ ∀ w16, IsSet w15 d14 (.map m11) w16 →
 CanSet w16 (Addr.add d14 1) (.bool b12) ∧ ∀ w17, IsSet w16 (Addr.add d14 1) (.bool b12) w17 →
 CanSet w17 d7 (.int .i64 n13) ∧ ∀ w18, IsSet w17 d7 (.int .i64 n13) w18 →
 ∃ n19, World.cell? w18 d7 = some (.int .i64 n19) ∧
 (((n19 ≠ 0 →
 ∀ w20, IsDrew w18 w20 →
 ∃ n21, World.cell? w20 d7 = some (.int .i64 n21) ∧
 CanSet w20 d5 (.slice none 0 0) ∧ ∀ w22, IsSet w20 d5 (.slice none 0 0) w22 →
 World.cell? w22 d7 = some (.int .i64 n21) ∧
 CanSet w22 d7 (.int .i64 n21) ∧ ∀ w23, IsSet w22 d7 (.int .i64 n21) w23 →
 ∃ o24 l25 l26, World.cell? w23 d5 = some (.slice o24 l25 l26) ∧
 ∃ n27, World.cell? w23 d7 = some (.int .i64 n27) ∧
 R (.returned (.tuple #[(.slice o24 l25 l26), (.int .i64 n27)])) w23)) ∧
 ((n19 = 0 →
 (((((l2 : Nat) : Int) > 64 →
 CanSet w18 d5 (.slice none 0 0) ∧ ∀ w28, IsSet w18 d5 (.slice none 0 0) w28 →
 CanSet w28 d7 (.int .i64 140) ∧ ∀ w29, IsSet w28 d7 (.int .i64 140) w29 →
 ∃ o30 l31 l32, World.cell? w29 d5 = some (.slice o30 l31 l32) ∧
 ∃ n33, World.cell? w29 d7 = some (.int .i64 n33) ∧
 R (.returned (.tuple #[(.slice o30 l31 l32), (.int .i64 n33)])) w29)) ∧
 ((¬ ((l2 : Nat) : Int) > 64 →
 ∃ L34, RowAt w18 d3 32 L34 ∧
 Calls Try.prog 75 #[(.agg L34), (.slice o2 l2 c2), (.func (.func 76) #[] #[(.pointer (some d14)), (.pointer (some d5))])] w18 (fun e35 w36 =>
 ((∃ ch, e35 = .panicked ch ∧ LeavV Try.prog (fun w37 =>
 ∃ o38 l39 l40, World.cell? w37 d5 = some (.slice o38 l39 l40) ∧
 ∃ n41, World.cell? w37 d7 = some (.int .i64 n41) ∧
 R (.returned (.tuple #[(.slice o38 l39 l40), (.int .i64 n41)])) w37) R [(74, #[(.pointer (some d7))]), (73, #[(.pointer (some d7)), (.pointer (some d5))])] (.panicking ch) w36) ∨
 ∃ o42 l43 l44 b45, e35 = .returned (.tuple #[(.slice o42 l43 l44), (.bool b45)]) ∧
 ∃ o46 l47 l48, World.cell? w36 d5 = some (.slice o46 l47 l48) ∧
 CanSet w36 d5 (.slice o46 l47 l48) ∧ ∀ w49, IsSet w36 d5 (.slice o46 l47 l48) w49 →
 CanSet w49 d7 (.int .i64 0) ∧ ∀ w50, IsSet w49 d7 (.int .i64 0) w50 →
 LeavV Try.prog (fun w51 =>
 ∃ o52 l53 l54, World.cell? w51 d5 = some (.slice o52 l53 l54) ∧
 ∃ n55, World.cell? w51 d7 = some (.int .i64 n55) ∧
 R (.returned (.tuple #[(.slice o52 l53 l54), (.int .i64 n55)])) w51) R [(74, #[(.pointer (some d7))]), (73, #[(.pointer (some d7)), (.pointer (some d5))])] .returning w50))))))))))
theorem proof_Prove.vc (o0 : Option Addr) (l0 : Nat) (c0 : Nat) (L1 : Array Value) (o2 : Option Addr) (l2 : Nat) (c2 : Nat) (w : World) (R : Ending → World → Prop) (h : proof_Prove.Vc o0 l0 c0 L1 o2 l2 c2 w R) : Calls Try.prog 30 #[(.slice o0 l0 c0), (.agg L1), (.slice o2 l2 c2)] w R :=
 execDF_sound (ann := []) (args := [.slice o0 l0 c0, .big 32 L1, .slice o2 l2 c2]) Try.func30 mixed (Eq.mp (by kernel_rfl : proof_Prove.Vc o0 l0 c0 L1 o2 l2 c2 w R = execDF (aD Try.prog R) (leavD Try.prog R) Try.prog [] Try.f30 [.slice o0 l0 c0, .big 32 L1, .slice o2 l2 c2] False w) h)

abbrev proof_Verify.n : Nat := 34
def proof_Verify.Vc (L0 : Array Value) (o1 : Option Addr) (l1 c1 : Nat) (o2 : Option Addr) (l2 c2 : Nat) (w : World) (R : Ending → World → Prop) : Prop :=
 ∀ d3 w4, IsNew w 26 L0 d3 w4 →
 ∀ d5 w6, IsNew w4 31 #[(.slice o2 l2 c2)] d5 w6 →
 ∀ d7 w8, IsNew w6 22 #[(.slice none 0 0)] d7 w8 →
 ∀ d9 w10, IsNew w8 4 #[(.bool false)] d9 w10 →
 ∀ d11 w12, IsNew w10 52 #[(.int .i64 0)] d11 w12 →
 ∃ o13 l14 l15, World.cell? w12 d5 = some (.slice o13 l14 l15) ∧
 (((((l14 : Nat) : Int) > 256 →
 CanSet w12 d7 (.slice none 0 0) ∧ ∀ w16, IsSet w12 d7 (.slice none 0 0) w16 →
 CanSet w16 d9 (.bool false) ∧ ∀ w17, IsSet w16 d9 (.bool false) w17 →
 CanSet w17 d11 (.int .i64 162) ∧ ∀ w18, IsSet w17 d11 (.int .i64 162) w18 →
 ∃ o19 l20 l21, World.cell? w18 d7 = some (.slice o19 l20 l21) ∧
 ∃ b22, World.cell? w18 d9 = some (.bool b22) ∧
 ∃ n23, World.cell? w18 d11 = some (.int .i64 n23) ∧
 R (.returned (.tuple #[(.slice o19 l20 l21), (.bool b22), (.int .i64 n23)])) w18)) ∧
 ((¬ ((l14 : Nat) : Int) > 256 →
 (((((l1 : Nat) : Int) > 64 →
 CanSet w12 d7 (.slice none 0 0) ∧ ∀ w24, IsSet w12 d7 (.slice none 0 0) w24 →
 CanSet w24 d9 (.bool false) ∧ ∀ w25, IsSet w24 d9 (.bool false) w25 →
 CanSet w25 d11 (.int .i64 140) ∧ ∀ w26, IsSet w25 d11 (.int .i64 140) w26 →
 ∃ o27 l28 l29, World.cell? w26 d7 = some (.slice o27 l28 l29) ∧
 ∃ b30, World.cell? w26 d9 = some (.bool b30) ∧
 ∃ n31, World.cell? w26 d11 = some (.int .i64 n31) ∧
 R (.returned (.tuple #[(.slice o27 l28 l29), (.bool b30), (.int .i64 n31)])) w26)) ∧
 ((¬ ((l1 : Nat) : Int) > 64 →
 ∀ d32 w33, IsNew w12 3 #[(.int .i64 0)] d32 w33 →
 CanSet w33 d32 (.int .i64 0) ∧ ∀ w34, IsSet w33 d32 (.int .i64 0) w34 →
 ∃ L35, RowAt w34 d3 32 L35 ∧
 Calls Try.prog 75 #[(.agg L35), (.slice o1 l1 c1), (.func (.func 81) #[] #[(.pointer (some d32)), (.pointer (some d5))])] w34 (fun e36 w37 =>
 ((∃ ch, e36 = .panicked ch ∧ LeavV Try.prog (fun w38 =>
 ∃ o39 l40 l41, World.cell? w38 d7 = some (.slice o39 l40 l41) ∧
 ∃ b42, World.cell? w38 d9 = some (.bool b42) ∧
 ∃ n43, World.cell? w38 d11 = some (.int .i64 n43) ∧
 R (.returned (.tuple #[(.slice o39 l40 l41), (.bool b42), (.int .i64 n43)])) w38) R [(74, #[(.pointer (some d11))]), (80, #[(.pointer (some d11)), (.pointer (some d7)), (.pointer (some d9))])] (.panicking ch) w37) ∨
 ∃ o44 l45 l46 b47, e36 = .returned (.tuple #[(.slice o44 l45 l46), (.bool b47)]) ∧
 CanSet w37 d7 (.slice o44 l45 l46) ∧ ∀ w48, IsSet w37 d7 (.slice o44 l45 l46) w48 →
 CanSet w48 d9 (.bool b47) ∧ ∀ w49, IsSet w48 d9 (.bool b47) w49 →
 ∃ n50, World.cell? w49 d32 = some (.int .i64 n50) ∧
 ∃ o51 l52 l53, World.cell? w49 d5 = some (.slice o51 l52 l53) ∧
 (((n50 < ((l52 : Nat) : Int) →
 Calls Try.prog 82 #[(.int .i64 162)] w49 (fun e54 w55 =>
 ((∃ ch, e54 = .panicked ch ∧ LeavV Try.prog (fun w56 =>
 ∃ o57 l58 l59, World.cell? w56 d7 = some (.slice o57 l58 l59) ∧
 ∃ b60, World.cell? w56 d9 = some (.bool b60) ∧
 ∃ n61, World.cell? w56 d11 = some (.int .i64 n61) ∧
 R (.returned (.tuple #[(.slice o57 l58 l59), (.bool b60), (.int .i64 n61)])) w56) R [(74, #[(.pointer (some d11))]), (80, #[(.pointer (some d11)), (.pointer (some d7)), (.pointer (some d9))])] (.panicking ch) w55) ∨
 e54 = .returned (.tuple #[]) ∧
 ∀ w62, IsDrew w55 w62 →
 ∃ o63 l64 l65, World.cell? w62 d7 = some (.slice o63 l64 l65) ∧
 ∃ b66, World.cell? w62 d9 = some (.bool b66) ∧
 CanSet w62 d7 (.slice o63 l64 l65) ∧ ∀ w67, IsSet w62 d7 (.slice o63 l64 l65) w67 →
 World.cell? w67 d9 = some (.bool b66) ∧
 CanSet w67 d9 (.bool b66) ∧ ∀ w68, IsSet w67 d9 (.bool b66) w68 →
 CanSet w68 d11 (.int .i64 0) ∧ ∀ w69, IsSet w68 d11 (.int .i64 0) w69 →
 LeavV Try.prog (fun w70 =>
 ∃ o71 l72 l73, World.cell? w70 d7 = some (.slice o71 l72 l73) ∧
 ∃ b74, World.cell? w70 d9 = some (.bool b74) ∧
 ∃ n75, World.cell? w70 d11 = some (.int .i64 n75) ∧
 R (.returned (.tuple #[(.slice o71 l72 l73), (.bool b74), (.int .i64 n75)])) w70) R [(74, #[(.pointer (some d11))]), (80, #[(.pointer (some d11)), (.pointer (some d7)), (.pointer (some d9))])] .returning w69)))) ∧
 ((¬ n50 < ((l52 : Nat) : Int) →
 ∀ w76, IsDrew w49 w76 →
 ∃ o77 l78 l79, World.cell? w76 d7 = some (.slice o77 l78 l79) ∧
 ∃ b80, World.cell? w76 d9 = some (.bool b80) ∧
 CanSet w76 d7 (.slice o77 l78 l79) ∧ ∀ w81, IsSet w76 d7 (.slice o77 l78 l79) w81 →
 World.cell? w81 d9 = some (.bool b80) ∧
 CanSet w81 d9 (.bool b80) ∧ ∀ w82, IsSet w81 d9 (.bool b80) w82 →
 CanSet w82 d11 (.int .i64 0) ∧ ∀ w83, IsSet w82 d11 (.int .i64 0) w83 →
 LeavV Try.prog (fun w84 =>
 ∃ o85 l86 l87, World.cell? w84 d7 = some (.slice o85 l86 l87) ∧
 ∃ b88, World.cell? w84 d9 = some (.bool b88) ∧
 ∃ n89, World.cell? w84 d11 = some (.int .i64 n89) ∧
 R (.returned (.tuple #[(.slice o85 l86 l87), (.bool b88), (.int .i64 n89)])) w84) R [(74, #[(.pointer (some d11))]), (80, #[(.pointer (some d11)), (.pointer (some d7)), (.pointer (some d9))])] .returning w83)))))))))))
theorem proof_Verify.vc (L0 : Array Value) (o1 : Option Addr) (l1 : Nat) (c1 : Nat) (o2 : Option Addr) (l2 : Nat) (c2 : Nat) (w : World) (R : Ending → World → Prop) (h : proof_Verify.Vc L0 o1 l1 c1 o2 l2 c2 w R) : Calls Try.prog 34 #[(.agg L0), (.slice o1 l1 c1), (.slice o2 l2 c2)] w R :=
 execDF_sound (ann := []) (args := [.big 32 L0, .slice o1 l1 c1, .slice o2 l2 c2]) Try.func34 mixed (Eq.mp (by kernel_rfl : proof_Verify.Vc L0 o1 l1 c1 o2 l2 c2 w R = execDF (aD Try.prog R) (leavD Try.prog R) Try.prog [] Try.f34 [.big 32 L0, .slice o1 l1 c1, .slice o2 l2 c2] False w) h)

abbrev proof_gives.n : Nat := 82
def proof_gives.Vc (n0 : Int) (w : World) (R : Ending → World → Prop) : Prop :=
 (((n0 ≠ 0 →
 R (.panicked (panOf (.iface 190 (.agg #[(.int .i64 n0)])))) w)) ∧
 ((n0 = 0 →
 R (.returned (.tuple #[])) w)))
theorem proof_gives.vc (n0 : Int) (w : World) (R : Ending → World → Prop) (h : proof_gives.Vc n0 w R) : Calls Try.prog 82 #[(.int .i64 n0)] w R :=
 execF_sound (R := ⟨R, true⟩) (ann := []) (args := [.int .i64 n0]) Try.func82 mixed (Eq.mp (by kernel_rfl : proof_gives.Vc n0 w R = execF (pA Try.prog ⟨R, true⟩) Try.prog [] Try.f82 [.int .i64 n0] w) h)

end Go.Proofs.Ytfghidehlnfdiaa
end
