/- Tries as plain Lean: what putting does. -/
/- Tries as plain Lean: what taking away does. -/
/- Rows that a call makes anew: copied, appended to, and handed on; rows of cells that are only read. -/
/- append(s, make([]byte, n)...): a slice grows by zeros. -/
/- Bytes as strings; slices that are made. -/
/- Contracts: bytes that are made anew; nibbles; packed paths. -/
/- Contracts: packed paths; what two paths share. -/
/- Contracts: bytes held against one another; heads of items. -/
/- Contracts: items in memory, and as bytes. -/
import Derived.Test.YtfghidehlnfdiaaTQ1
import Derived.Test.YtfghidehlnfdiaaXExec
import Derived.Laws.BytesString
import Derived.Laws.MakeOwn
import Derived.Test.YtfghidehlnfdiaaTV
section
set_option linter.unusedVariables false
set_option linter.unusedSimpArgs false
namespace Go.Trie
theorem Nib.left {p q : By} (h : Nib (p ++ q)) : Nib p := fun x hx => h x (List.mem_append_left _ hx)
theorem Nib.right {p q : By} (h : Nib (p ++ q)) : Nib q := fun x hx => h x (List.mem_append_right _ hx)
theorem Nib.append {p q : By} (h : Nib p) (k : Nib q) : Nib (p ++ q) := fun x hx => (List.mem_append.1 hx).elim (h x) (k x)
theorem Nib.drop {p : By} (h : Nib p) (n : Nat) : Nib (p.drop n) := fun x hx => h x (List.mem_of_mem_drop hx)
theorem Nib.take {p : By} (h : Nib p) (n : Nat) : Nib (p.take n) := fun x hx => h x (List.mem_of_mem_take hx)
/-- What lies behind a path. -/
def behind (p k : By) (n : Nd) : Option By := if p.isPrefixOf k then get n (k.drop p.length) else none
theorem behind_append (p r : By) (n : Nd) : behind p (p ++ r) n = get n r := by
  unfold behind
  rw [if_pos (List.isPrefixOf_iff_prefix.2 (List.prefix_append _ _)), List.drop_left]
theorem behind_none {p k : By} {n : Nd} (h : ¬ p <+: k) : behind p k n = none := by
  unfold behind
  rw [if_neg (fun hp => h (List.isPrefixOf_iff_prefix.1 hp))]
theorem get_row (p : By) (c : Nd) (k : By) : get (.row p c) k = behind p k c := by simp only [get, behind]
theorem get_rowed (p : By) (n : Nd) (k : By) : get (rowed p n) k = behind p k n := by
  unfold rowed
  split
  · rename_i h
    subst h
    unfold behind
    simp
  · cases n with
    | nil => exact get_row _ _ _
    | branch cs v => exact get_row _ _ _
    | leaf q v =>
      by_cases hp : p <+: k
      · obtain ⟨r, rfl⟩ := hp
        rw [behind_append]
        simp only [get, List.append_cancel_left_eq]
      · rw [behind_none hp]
        simp only [get]
        rw [if_neg (fun (e : p ++ q = k) => hp (by rw [← e]; exact List.prefix_append _ _))]
    | row q c =>
      by_cases hp : p <+: k
      · obtain ⟨r, rfl⟩ := hp
        rw [behind_append, get_row, get_row]
        by_cases hq : q <+: r
        · obtain ⟨s, rfl⟩ := hq
          rw [← List.append_assoc, behind_append, behind_append]
        · rw [behind_none hq, behind_none]
          rintro ⟨s, hs⟩
          rw [List.append_assoc] at hs
          exact hq ⟨s, List.append_cancel_left hs⟩
      · rw [behind_none hp]
        show get (.row (p ++ q) c) k = none
        rw [get_row, behind_none]
        rintro ⟨s, rfl⟩
        rw [List.append_assoc] at hp
        exact hp (List.prefix_append _ _)
theorem canon_rowed {p : By} {n : Nd} (hp : Nib p) (hn : Canon n) (h0 : n ≠ .nil) : Canon (rowed p n) ∧ rowed p n ≠ .nil := by
  unfold rowed
  split
  · exact ⟨hn, h0⟩
  · rename_i hne
    cases n with
    | nil => exact (h0 rfl).elim
    | leaf q v => exact ⟨⟨hp.append hn.1, hn.2⟩, by simp⟩
    | row q c => exact ⟨⟨by simp [hne], hp.append hn.2.1, hn.2.2⟩, by simp⟩
    | branch cs v => exact ⟨⟨hne, hp, trivial, hn⟩, by simp⟩
theorem get_branch_hd (cs : Fin 16 → Nd) (v : By) (a : UInt8) (r : By) : get (.branch cs v) (a :: r) = get (at_ cs a) r := by
  simp only [get, at_]
  split <;> simp [get]
theorem at_upd_same {cs : Fin 16 → Nd} {a : UInt8} {n : Nd} (h : a.toNat < 16) : at_ (upd cs a n) a = n := by
  unfold at_ upd
  rw [dif_pos h, if_pos rfl]
theorem at_upd_ne {cs : Fin 16 → Nd} {a b : UInt8} {n : Nd} (h : b ≠ a) : at_ (upd cs a n) b = at_ cs b := by
  unfold at_ upd
  split
  · rw [if_neg (fun e => h (UInt8.toNat_inj.1 e))]
  · rfl
theorem get_lay {cs : Fin 16 → Nd} {v p x : By} (hp : Nib p) (hx : x ≠ []) (h1 : p = [] → v = []) (h2 : ∀ a r, p = a :: r → at_ cs a = .nil) (k : By) : get (lay cs v p x) k = if k = p then some x else get (.branch cs v) k := by
  cases p with
  | nil =>
    show get (.branch cs x) k = _
    cases k with
    | nil => rw [get_branch_nil, if_neg hx, if_pos rfl]
    | cons b r => rw [if_neg (by simp), get_branch_hd, get_branch_hd]
  | cons a r =>
    show get (.branch (upd cs a (.leaf r x)) v) k = _
    have ha : a.toNat < 16 := hp a (by simp)
    cases k with
    | nil => rw [get_branch_nil, get_branch_nil, if_neg (show ¬ ([] : By) = a :: r by simp)]
    | cons b s =>
      rw [get_branch_hd, get_branch_hd]
      by_cases hb : b = a
      · subst hb
        rw [at_upd_same ha, h2 b r rfl]
        simp only [get, List.cons.injEq, true_and]
        by_cases hrs : r = s
        · rw [if_pos hrs, if_pos hrs.symm]
        · rw [if_neg hrs, if_neg (fun e => hrs e.symm)]
      · rw [at_upd_ne hb, if_neg (by simp [hb])]
theorem canon_upd {cs : Fin 16 → Nd} {a : UInt8} {n : Nd} (h : ∀ i, Canon (cs i)) (hn : Canon n) : ∀ i, Canon (upd cs a n i) := fun i => by
  unfold upd; split
  · exact hn
  · exact h i
theorem at_idx {cs : Fin 16 → Nd} {a : UInt8} (h : a.toNat < 16) : at_ cs a = cs ⟨a.toNat, h⟩ := dif_pos h
theorem at_none (a : UInt8) : at_ none16 a = .nil := by unfold at_; split <;> rfl
theorem get_none16 (k : By) : get (.branch none16 []) k = none := by
  cases k with
  | nil => rfl
  | cons a r => rw [get_branch_hd, at_none]; simp [get]
theorem idx_ne {a b : UInt8} (ha : a.toNat < 16) (hb : b.toNat < 16) (h : a ≠ b) : (⟨a.toNat, ha⟩ : Fin 16) ≠ ⟨b.toNat, hb⟩ := fun e => h (UInt8.toNat_inj.1 (Fin.mk.inj e))
/-- Two entries in a new branch. -/
theorem lay_two {q p v x : By} (hq : Nib q) (hp : Nib p) (hv : v ≠ []) (hx : x ≠ []) (hne : q ≠ p) (hh : ∀ a r s, ¬ (q = a :: r ∧ p = a :: s)) :
    Canon (lay2 (lay none16 [] q v) p x) ∧ IsBranch (lay2 (lay none16 [] q v) p x) ∧ ∀ k, get (lay2 (lay none16 [] q v) p x) k = if k = p then some x else if k = q then some v else none := by
  have g1 := fun k => get_lay (cs := none16) (v := []) (x := v) hq hv (fun _ => rfl) (fun a r _ => at_none a) k
  cases q with
  | nil =>
    cases p with
    | nil => exact (hne rfl).elim
    | cons b s =>
      have hb : b.toNat < 16 := hp b (by simp)
      refine ⟨⟨canon_upd (fun _ => trivial) ⟨fun y hy => hp y (by simp [hy]), hx⟩, .inl ⟨hv, ⟨b.toNat, hb⟩, by unfold upd; rw [if_pos rfl]; simp⟩⟩, trivial, fun k => ?_⟩
      have g2 := get_lay (cs := none16) (v := v) hp hx (fun h => by cases h) (fun a r _ => at_none a) k
      show get (lay none16 v (b :: s) x) k = _
      rw [g2]
      split
      · rfl
      · have := g1 k
        rw [get_none16] at this
        exact this
  | cons a r =>
    have ha : a.toNat < 16 := hq a (by simp)
    have e : lay none16 [] (a :: r) v = .branch (upd none16 a (.leaf r v)) [] := rfl
    rw [e] at g1 ⊢
    show Canon (lay (upd none16 a (.leaf r v)) [] p x) ∧ IsBranch (lay (upd none16 a (.leaf r v)) [] p x) ∧ ∀ k, get (lay (upd none16 a (.leaf r v)) [] p x) k = _
    have hc1 : ∀ i, Canon (upd none16 a (.leaf r v) i) := canon_upd (fun _ => trivial) ⟨fun y hy => hq y (by simp [hy]), hv⟩
    have hp2 : ∀ b s, p = b :: s → at_ (upd none16 a (.leaf r v)) b = .nil := fun b s h => by
      rw [at_upd_ne (fun h2 => hh a r s ⟨rfl, by rw [h, h2]⟩), at_none]
    refine ⟨?_, ?_, fun k => ?_⟩
    · cases p with
      | nil => exact ⟨hc1, .inl ⟨hx, ⟨a.toNat, ha⟩, by unfold upd; rw [if_pos rfl]; simp⟩⟩
      | cons b s =>
        have hb : b.toNat < 16 := hp b (by simp)
        have hab : a ≠ b := fun h => hh a r s ⟨rfl, by rw [h]⟩
        refine ⟨canon_upd hc1 ⟨fun y hy => hp y (by simp [hy]), hx⟩, .inr ⟨⟨a.toNat, ha⟩, ⟨b.toNat, hb⟩, idx_ne ha hb hab, ?_, ?_⟩⟩
        · unfold upd
          rw [if_neg (fun h => hab (UInt8.toNat_inj.1 h)), if_pos rfl]; simp
        · unfold upd
          rw [if_pos rfl]; simp
    · cases p <;> exact trivial
    · rw [get_lay hp hx (fun _ => rfl) hp2 k]
      split
      · rfl
      · have := g1 k
        rw [get_none16] at this
        exact this
theorem split_shared (q p : By) : ∃ t q' p', q = t ++ q' ∧ p = t ++ p' ∧ t = p.take (shared q p) ∧ q' = q.drop (shared q p) ∧ p' = p.drop (shared q p) ∧ t.length = shared q p ∧ ∀ a r s, ¬ (q' = a :: r ∧ p' = a :: s) := by
  have hl := shared_le q p
  refine ⟨p.take (shared q p), q.drop (shared q p), p.drop (shared q p), ?_, (List.take_append_drop _ _).symm, rfl, rfl, rfl, by rw [List.length_take]; omega, fun a r s h => ?_⟩
  · rw [← shared_take]; exact (List.take_append_drop _ _).symm
  · have h1 : shared q p < q.length := by
      have := congrArg List.length h.1
      rw [List.length_drop] at this; simp at this; omega
    have h2 : shared q p < p.length := by
      have := congrArg List.length h.2
      rw [List.length_drop] at this; simp at this; omega
    refine shared_ne q p h1 h2 ?_
    have e1 : q[shared q p] = a := by
      have := List.getElem_drop (xs := q) (i := shared q p) (j := 0) (h := by rw [List.length_drop]; omega)
      simp only [h.1, List.getElem_cons_zero, Nat.add_zero] at this
      exact this.symm
    have e2 : p[shared q p] = a := by
      have := List.getElem_drop (xs := p) (i := shared q p) (j := 0) (h := by rw [List.length_drop]; omega)
      simp only [h.2, List.getElem_cons_zero, Nat.add_zero] at this
      exact this.symm
    rw [e1, e2]

theorem put_ok : ∀ {n : Nd} {p x : By}, Canon n → Nib p → x ≠ [] → Canon (put n p x) ∧ put n p x ≠ .nil ∧ (IsBranch n → IsBranch (put n p x)) ∧ ∀ k, get (put n p x) k = if k = p then some x else get n k
  | .nil, p, x, hn, hp, hx => by
    refine ⟨⟨hp, hx⟩, by simp [put], fun h => h.elim, fun k => ?_⟩
    simp only [put, get]
    by_cases h : p = k
    · rw [if_pos h, if_pos h.symm]
    · rw [if_neg h, if_neg (fun e => h e.symm)]
  | .leaf q v, p, x, hn, hp, hx => by
    simp only [put]
    obtain ⟨t, q', p', hq, hpe, ht, hq', hp', htl, hh⟩ := split_shared q p
    split
    · rename_i hs
      have hqp : q = p := by
        have h1 := shared_take q p
        rw [hs.1, List.take_length] at h1
        have h2 : q.length = p.length := hs.1.symm.trans hs.2
        rw [h2, List.take_length] at h1
        exact h1
      subst hqp
      refine ⟨⟨hp, hx⟩, by simp, fun h => h.elim, fun k => ?_⟩
      simp only [get]
      by_cases h : q = k
      · rw [if_pos h, if_pos h.symm]
      · rw [if_neg h, if_neg (fun e => h e.symm), if_neg h]
    · rename_i hs
      have hne : q' ≠ p' := by
        rintro rfl
        cases q' with
        | nil =>
          simp only [List.append_nil] at hq hpe
          exact hs ⟨by rw [← htl, ← hq], by rw [← htl, ← hpe]⟩
        | cons a r => exact hh a r r ⟨rfl, rfl⟩
      have hnq : Nib q' := (hq ▸ hn.1 : Nib (t ++ q')).right
      have hnp : Nib p' := (hpe ▸ hp : Nib (t ++ p')).right
      have hnt : Nib t := (hpe ▸ hp : Nib (t ++ p')).left
      obtain ⟨hc, hb, hg⟩ := lay_two hnq hnp hn.2 hx hne hh
      rw [← ht, ← hq', ← hp']
      have hnz : lay2 (lay none16 [] q' v) p' x ≠ .nil := by intro e; rw [e] at hb; exact hb
      obtain ⟨h1, h2⟩ := canon_rowed hnt hc hnz
      refine ⟨h1, h2, fun h => h.elim, fun k => ?_⟩
      rw [get_rowed]
      simp only [get]
      by_cases hk : t <+: k
      · obtain ⟨k', rfl⟩ := hk
        rw [behind_append, hg, hpe, hq]
        simp only [List.append_cancel_left_eq]
        split
        · rfl
        · by_cases h : k' = q'
          · rw [if_pos h, if_pos h.symm]
          · rw [if_neg h, if_neg (fun e => h e.symm)]
      · rw [behind_none hk, if_neg (fun (e : k = p) => hk (by rw [e, hpe]; exact List.prefix_append _ _)), if_neg (fun (e : q = k) => hk (by rw [← e, hq]; exact List.prefix_append _ _))]
  | .row q c, p, x, hn, hp, hx => by
    simp only [put]
    obtain ⟨t, q', p', hq, hpe, ht, hq', hp', htl, hh⟩ := split_shared q p
    have hnp : Nib p' := (hpe ▸ hp : Nib (t ++ p')).right
    have hnt : Nib t := (hpe ▸ hp : Nib (t ++ p')).left
    split
    · rename_i hs
      have hq0 : q' = [] := by rw [hq', hs, List.drop_length]
      rw [hq0, List.append_nil] at hq
      subst hq
      rw [← hp']
      obtain ⟨h1, h2, h3, h4⟩ := put_ok (p := p') (x := x) hn.2.2.2 hnp hx
      refine ⟨⟨hn.1, hn.2.1, h3 hn.2.2.1, h1⟩, by simp, fun h => h.elim, fun k => ?_⟩
      rw [get_row, get_row]
      by_cases hk : q <+: k
      · obtain ⟨k', rfl⟩ := hk
        rw [behind_append, behind_append, h4, hpe]
        simp only [List.append_cancel_left_eq]
      · rw [behind_none hk, behind_none hk, if_neg (fun (e : k = p) => hk (by rw [e, hpe]; exact List.prefix_append _ _))]
    · rename_i hs
      have hlt : shared q p < q.length := by have := (shared_le q p).1; omega
      obtain ⟨a, q2, hq2⟩ : ∃ a q2, q' = a :: q2 := by
        cases h : q' with
        | nil => rw [hq', List.drop_eq_nil_iff] at h; omega
        | cons a r => exact ⟨a, r, rfl⟩
      have hga : q.getD (shared q p) 0 = a := by
        have h3 : q[t.length]? = some a := by rw [hq, List.getElem?_append_right (Nat.le_refl _), Nat.sub_self, hq2]; rfl
        rw [← htl, List.getD_eq_getElem?_getD, h3]; rfl
      have hgd : q.drop (shared q p + 1) = q2 := by
        rw [← List.drop_drop, ← hq', hq2]; rfl
      rw [hga, hgd, ← ht, ← hp']
      have hnq : Nib q' := (hq ▸ hn.2.1 : Nib (t ++ q')).right
      rw [hq2] at hnq
      have ha : a.toNat < 16 := hnq a (by simp)
      have hcn : c ≠ .nil := by intro e; rw [e] at hn; exact hn.2.2.1
      obtain ⟨r1, r2⟩ := canon_rowed (p := q2) (n := c) (fun y hy => hnq y (by simp [hy])) hn.2.2.2 hcn
      have hc1 : ∀ i, Canon (upd none16 a (rowed q2 c) i) := canon_upd (fun _ => trivial) r1
      have hp2 : ∀ b s, p' = b :: s → at_ (upd none16 a (rowed q2 c)) b = .nil := fun b s h => by
        rw [at_upd_ne (fun h2 => hh a q2 s ⟨hq2, by rw [h, h2]⟩), at_none]
      have hcl : Canon (lay (upd none16 a (rowed q2 c)) [] p' x) ∧ IsBranch (lay (upd none16 a (rowed q2 c)) [] p' x) := by
        cases hpp : p' with
        | nil => exact ⟨⟨hc1, .inl ⟨hx, ⟨a.toNat, ha⟩, by unfold upd; rw [if_pos rfl]; exact r2⟩⟩, trivial⟩
        | cons b s =>
          rw [hpp] at hnp
          have hb : b.toNat < 16 := hnp b (by simp)
          have hab : a ≠ b := fun h => hh a q2 s ⟨hq2, by rw [hpp, h]⟩
          refine ⟨⟨canon_upd hc1 ⟨fun y hy => hnp y (by simp [hy]), hx⟩, .inr ⟨⟨a.toNat, ha⟩, ⟨b.toNat, hb⟩, idx_ne ha hb hab, ?_, ?_⟩⟩, trivial⟩
          · unfold upd
            rw [if_neg (fun h => hab (UInt8.toNat_inj.1 h)), if_pos rfl]; exact r2
          · unfold upd
            rw [if_pos rfl]; simp
      have hnz : lay (upd none16 a (rowed q2 c)) [] p' x ≠ .nil := by intro e; rw [e] at hcl; exact hcl.2
      obtain ⟨h1, h2⟩ := canon_rowed hnt hcl.1 hnz
      refine ⟨h1, h2, fun h => h.elim, fun k => ?_⟩
      rw [get_rowed, get_row]
      by_cases hk : t <+: k
      · obtain ⟨k', rfl⟩ := hk
        rw [behind_append, get_lay hnp hx (fun _ => rfl) hp2, hpe, hq, hq2]
        simp only [List.append_cancel_left_eq]
        split
        · rfl
        · cases k' with
          | nil =>
            rw [get_branch_nil, if_pos rfl, List.append_nil, behind_none]
            intro hpre
            have := hpre.length_le
            simp at this
            omega
          | cons b s =>
            rw [get_branch_hd]
            by_cases hba : b = a
            · subst hba
              rw [at_upd_same ha, get_rowed]
              by_cases hqs : q2 <+: s
              · obtain ⟨u, rfl⟩ := hqs
                rw [behind_append, show t ++ b :: (q2 ++ u) = (t ++ b :: q2) ++ u by simp, behind_append]
              · rw [behind_none hqs, behind_none]
                rintro ⟨u, hu⟩
                rw [List.append_assoc] at hu
                have := List.append_cancel_left hu
                rw [List.cons_append] at this
                exact hqs ⟨u, (List.cons.inj this).2⟩
            · rw [at_upd_ne hba, at_none, behind_none]
              · simp [get]
              · rintro ⟨u, hu⟩
                rw [List.append_assoc] at hu
                have := List.append_cancel_left hu
                rw [List.cons_append] at this
                exact hba (List.cons.inj this).1.symm
      · rw [behind_none hk, if_neg (fun (e : k = p) => hk (by rw [e, hpe]; exact List.prefix_append _ _)), behind_none]
        rintro ⟨u, rfl⟩
        rw [hq, List.append_assoc] at hk
        exact hk (List.prefix_append _ _)
  | .branch cs v, [], x, hn, hp, hx => by
    refine ⟨⟨hn.1, ?_⟩, by simp [put], fun _ => trivial, fun k => ?_⟩
    · rcases hn.2 with ⟨_, h⟩ | h
      · exact .inl ⟨hx, h⟩
      · exact .inr h
    · simp only [put]
      cases k with
      | nil => rw [get_branch_nil, if_neg hx, if_pos rfl]
      | cons b r => rw [if_neg (by simp), get_branch_hd, get_branch_hd]
  | .branch cs v, a :: r, x, hn, hp, hx => by
    have ha : a.toNat < 16 := hp a (by simp)
    have hr : Nib r := fun y hy => hp y (by simp [hy])
    have ih := fun i => put_ok (n := cs i) (p := r) (x := x) (hn.1 i) hr hx
    simp only [put]
    refine ⟨⟨fun i => ?_, ?_⟩, by simp, fun _ => trivial, fun k => ?_⟩
    · dsimp only
      split
      · exact (ih i).1
      · exact hn.1 i
    · have keep : ∀ i, cs i ≠ .nil → (if i.val = a.toNat then put (cs i) r x else cs i) ≠ .nil := fun i hi => by
        split
        · exact (ih i).2.1
        · exact hi
      rcases hn.2 with ⟨hv, i, hi⟩ | ⟨i, j, hij, hi, hj⟩
      · exact .inl ⟨hv, i, keep i hi⟩
      · exact .inr ⟨i, j, hij, keep i hi, keep j hj⟩
    · cases k with
      | nil => rw [get_branch_nil, get_branch_nil, if_neg (show ¬ ([] : By) = a :: r by simp)]
      | cons b s =>
        rw [get_branch_hd, get_branch_hd]
        by_cases hb : b = a
        · subst hb
          rw [at_idx ha, at_idx ha, if_pos rfl, (ih _).2.2.2]
          simp only [List.cons.injEq, true_and]
        · rw [if_neg (by simp [hb])]
          unfold at_
          split
          · rename_i hb16
            dsimp only
            rw [if_neg (fun e => hb (UInt8.toNat_inj.1 e))]
          · rfl
end Go.Trie
end

section
set_option linter.unusedVariables false
set_option linter.unusedSimpArgs false
namespace Go.Trie
def isNil : Nd → Bool
  | .nil => true
  | _ => false
theorem isNil_iff {n : Nd} : isNil n = true ↔ n = .nil := by cases n <;> simp [isNil]
/-- The children that are there. -/
def there (cs : Fin 16 → Nd) : List (Fin 16) := (List.finRange 16).filter fun i => !isNil (cs i)
theorem mem_there {cs : Fin 16 → Nd} {i : Fin 16} : i ∈ there cs ↔ cs i ≠ .nil := by
  unfold there
  rw [List.mem_filter]
  simp only [List.mem_finRange, true_and, Bool.not_eq_true', ← Bool.not_eq_true, isNil_iff, ne_eq]
theorem nodup_there (cs : Fin 16 → Nd) : (there cs).Nodup := (List.nodup_finRange 16).filter _
def collapse (cs : Fin 16 → Nd) (v : By) : Nd := match there cs with
  | [] => .leaf [] v
  | [i] => if v = [] then rowed [UInt8.ofNat i.val] (cs i) else .branch cs v
  | _ => .branch cs v
def remove (n : Nd) (p : By) : Nd × Bool := match n with
  | .nil => (.nil, false)
  | .leaf q v => if q = p then (.nil, true) else (.leaf q v, false)
  | .row q c => if q.isPrefixOf p then
      (if (remove c (p.drop q.length)).2 then (if isNil (remove c (p.drop q.length)).1 then (.nil, true) else (rowed q (remove c (p.drop q.length)).1, true)) else (.row q c, false))
    else (.row q c, false)
  | .branch cs v => match p with
    | [] => if v = [] then (.branch cs v, false) else (collapse cs [], true)
    | a :: r => if h : a.toNat < 16 then
        (if (remove (cs ⟨a.toNat, h⟩) r).2 then (collapse (upd cs a (remove (cs ⟨a.toNat, h⟩) r).1) v, true) else (.branch cs v, false))
      else (.branch cs v, false)
theorem nib_one (i : Fin 16) : Nib [UInt8.ofNat i.val] := fun x hx => by
  simp at hx; subst hx
  rw [UInt8.toNat_ofNat']
  have := i.isLt; omega
theorem ofNat_toNat16 {b : UInt8} (h : b.toNat < 16) : UInt8.ofNat (⟨b.toNat, h⟩ : Fin 16).val = b := by
  apply UInt8.toNat_inj.1
  rw [UInt8.toNat_ofNat']
  show b.toNat % 256 = _
  omega
theorem collapse_ok {cs : Fin 16 → Nd} {v : By} (hc : ∀ i, Canon (cs i)) (h1 : v ≠ [] ∨ ∃ i, cs i ≠ .nil) : Canon (collapse cs v) ∧ collapse cs v ≠ .nil ∧ ∀ k, get (collapse cs v) k = get (.branch cs v) k := by
  unfold collapse
  split
  · rename_i h0
    have hn : ∀ i, cs i = .nil := fun i => by
      by_cases h : cs i = .nil
      · exact h
      · have := mem_there.2 h
        rw [h0] at this; cases this
    have hv : v ≠ [] := by
      rcases h1 with h | ⟨i, hi⟩
      · exact h
      · exact (hi (hn i)).elim
    refine ⟨⟨(fun x hx => by cases hx), hv⟩, by simp, fun k => ?_⟩
    cases k with
    | nil => rw [get_branch_nil, if_neg hv]; simp [get]
    | cons a r =>
      rw [get_branch_hd]
      have : at_ cs a = .nil := by unfold at_; split <;> simp [hn]
      rw [this]
      simp [get]
  · rename_i i h0
    have hi : cs i ≠ .nil := mem_there.1 (by rw [h0]; simp)
    have hj : ∀ j, j ≠ i → cs j = .nil := fun j hj => by
      by_cases h : cs j = .nil
      · exact h
      · have := mem_there.2 h
        rw [h0] at this
        simp at this
        exact (hj this).elim
    split
    · rename_i hv
      subst hv
      obtain ⟨r1, r2⟩ := canon_rowed (nib_one i) (hc i) hi
      refine ⟨r1, r2, fun k => ?_⟩
      rw [get_rowed]
      cases k with
      | nil => rw [behind_none (by simp)]; rfl
      | cons b s =>
        by_cases hb : b = UInt8.ofNat i.val
        · subst hb
          rw [get_branch_cons]
          exact behind_append [UInt8.ofNat i.val] s (cs i)
        · rw [behind_none (by
            rintro ⟨t, ht⟩
            exact hb (List.cons.inj ht).1.symm), get_branch_hd]
          have : at_ cs b = .nil := by
            unfold at_
            split
            · rename_i hb16
              refine hj _ (fun e => hb ?_)
              rw [← ofNat_toNat16 hb16, e]
            · rfl
          rw [this]
          simp [get]
    · rename_i hv
      exact ⟨⟨hc, .inl ⟨hv, i, hi⟩⟩, by simp, fun k => rfl⟩
  · rename_i h0 h2
    refine ⟨⟨hc, ?_⟩, by simp, fun k => rfl⟩
    have hnd := nodup_there cs
    match hl : there cs, h0, h2, hnd with
    | [], h0, _, _ => exact (h0 rfl).elim
    | [i], _, h2, _ => exact (h2 i rfl).elim
    | i :: j :: r, _, _, hnd =>
      refine .inr ⟨i, j, ?_, mem_there.1 (by rw [hl]; simp), mem_there.1 (by rw [hl]; simp)⟩
      rintro rfl
      rw [List.nodup_cons] at hnd
      exact hnd.1 (by simp)
theorem remove_ok : ∀ {n : Nd} {p : By}, Canon n → Nib p → Canon (remove n p).1 ∧ (IsBranch n → (remove n p).1 ≠ .nil) ∧ (∀ k, get (remove n p).1 k = if k = p then none else get n k) ∧ ((remove n p).2 = (get n p).isSome) ∧ ((remove n p).2 = false → (remove n p).1 = n)
  | .nil, p, hn, hp => ⟨trivial, fun h => h.elim, fun k => by simp [remove, get], by simp [remove, get], fun _ => rfl⟩
  | .leaf q v, p, hn, hp => by
    simp only [remove]
    split
    · rename_i h
      subst h
      refine ⟨trivial, fun h => h.elim, fun k => ?_, by simp [get], fun h => by cases h⟩
      simp only [get]
      by_cases h : q = k
      · rw [if_pos h.symm]
      · rw [if_neg h, ite_self]
    · rename_i h
      refine ⟨hn, fun h => h.elim, fun k => ?_, by simp [get, h], fun _ => rfl⟩
      simp only [get]
      by_cases h2 : k = p
      · rw [if_pos h2, if_neg (by rw [h2]; exact h)]
      · rw [if_neg h2]
  | .row q c, p, hn, hp => by
    simp only [remove]
    split
    · rename_i hpre
      obtain ⟨r, rfl⟩ := List.isPrefixOf_iff_prefix.1 hpre
      rw [List.drop_left]
      obtain ⟨h1, h2, h3, h4, h5⟩ := remove_ok (n := c) (p := r) hn.2.2.2 (Nib.right hp)
      have hg : (get (.row q c) (q ++ r)).isSome = (remove c r).2 := by rw [get_row_append]; exact h4.symm
      split
      · rename_i hgone
        have hnz := h2 hn.2.2.1
        rw [if_neg (by rw [isNil_iff]; exact hnz)]
        obtain ⟨r1, r2⟩ := canon_rowed hn.2.1 h1 hnz
        refine ⟨r1, fun h => h.elim, fun k => ?_, by rw [hg, hgone], fun h => by cases h⟩
        rw [get_rowed, get_row]
        by_cases hk : q <+: k
        · obtain ⟨k', rfl⟩ := hk
          rw [behind_append, behind_append, h3]
          simp only [List.append_cancel_left_eq]
        · rw [behind_none hk, behind_none hk, ite_self]
      · rename_i hgone
        have hg0 : (remove c r).2 = false := by simpa using hgone
        refine ⟨hn, fun h => h.elim, fun k => ?_, by rw [hg, hg0], fun _ => rfl⟩
        split
        · rename_i e
          subst e
          rw [hg0] at hg
          exact Option.not_isSome_iff_eq_none.1 (by rw [hg]; simp)
        · rfl
    · rename_i hpre
      have hnp : ¬ q <+: p := fun h => hpre (List.isPrefixOf_iff_prefix.2 h)
      refine ⟨hn, fun h => h.elim, fun k => ?_, by rw [get_row, behind_none hnp]; rfl, fun _ => rfl⟩
      split
      · rename_i e
        subst e
        rw [get_row, behind_none hnp]
      · rfl
  | .branch cs v, [], hn, hp => by
    simp only [remove]
    split
    · rename_i hv
      refine ⟨hn, fun _ => by simp, fun k => ?_, by rw [get_branch_nil, if_pos hv]; rfl, fun _ => rfl⟩
      split
      · rename_i e
        subst e
        rw [get_branch_nil, if_pos hv]
      · rfl
    · rename_i hv
      have hex : ∃ i, cs i ≠ .nil := by
        rcases hn.2 with ⟨_, h⟩ | ⟨i, _, _, h, _⟩
        · exact h
        · exact ⟨i, h⟩
      obtain ⟨h1, h2, h3⟩ := collapse_ok (v := []) hn.1 (.inr hex)
      refine ⟨h1, fun _ => h2, fun k => ?_, by rw [get_branch_nil, if_neg hv]; rfl, fun h => by cases h⟩
      rw [h3]
      cases k with
      | nil => rw [get_branch_nil, if_pos rfl, if_pos rfl]
      | cons b r => rw [if_neg (by simp), get_branch_hd, get_branch_hd]
  | .branch cs v, a :: r, hn, hp => by
    have ha : a.toNat < 16 := hp a (by simp)
    have hr : Nib r := fun y hy => hp y (by simp [hy])
    obtain ⟨h1, h2, h3, h4, h5⟩ := remove_ok (n := cs ⟨a.toNat, ha⟩) (p := r) (hn.1 _) hr
    have hg : (get (.branch cs v) (a :: r)).isSome = (remove (cs ⟨a.toNat, ha⟩) r).2 := by rw [get_branch_hd, at_idx ha]; exact h4.symm
    simp only [remove]
    rw [dif_pos ha]
    split
    · rename_i hgone
      have hex : v ≠ [] ∨ ∃ i, upd cs a (remove (cs ⟨a.toNat, ha⟩) r).1 i ≠ .nil := by
        rcases hn.2 with ⟨h, _⟩ | ⟨i, j, hij, hi, hj⟩
        · exact .inl h
        · by_cases hia : i.val = a.toNat
          · refine .inr ⟨j, ?_⟩
            unfold upd
            rw [if_neg (fun e => hij (Fin.ext (hia.trans e.symm)))]; exact hj
          · refine .inr ⟨i, ?_⟩
            unfold upd
            rw [if_neg hia]; exact hi
      obtain ⟨c1, c2, c3⟩ := collapse_ok (v := v) (canon_upd (a := a) hn.1 h1) hex
      refine ⟨c1, fun _ => c2, fun k => ?_, by rw [hg, hgone], fun h => by cases h⟩
      rw [c3]
      cases k with
      | nil => rw [get_branch_nil, get_branch_nil, if_neg (show ¬ ([] : By) = a :: r by simp)]
      | cons b s =>
        rw [get_branch_hd, get_branch_hd]
        by_cases hb : b = a
        · subst hb
          rw [at_upd_same ha, at_idx ha, h3]
          simp only [List.cons.injEq, true_and]
        · rw [at_upd_ne hb, if_neg (by simp [hb])]
    · rename_i hgone
      have hg0 : (remove (cs ⟨a.toNat, ha⟩) r).2 = false := by simpa using hgone
      refine ⟨hn, fun _ => by simp, fun k => ?_, by rw [hg, hg0], fun _ => rfl⟩
      split
      · rename_i e
        subst e
        rw [hg0] at hg
        exact Option.not_isSome_iff_eq_none.1 (by rw [hg]; simp)
      · rfl
end Go.Trie
end

section
set_option linter.unusedVariables false
namespace Go.Vcg

/-- A row made since w0, the rest as it was. -/
structure Fresh (w0 w : World) (e : TypeId) (sz : Nat) (o : Option Addr) (l c : Nat) (xs : List Value) : Prop where
  own : Own w e sz o l c xs
  mod : Mod NoB w0 w
  new : ∀ k, OB o k → w0.heap.size ≤ k
variable {P : Program} {w0 w w' : World} {e t tx ty : TypeId} {sz l c n : Nat} {o : Option Addr} {xs news : List Value} {x : Value} {i : TypeInfo} {z : Value}
theorem Fresh.nil (M : Mod NoB w0 w) (e : TypeId) (sz : Nat) : Fresh w0 w e sz none 0 0 [] := ⟨Own.nil w e sz, M, fun k h => (OB_none k h).elim⟩
theorem Fresh.mod' (h : Fresh w0 w e sz o l c xs) (M : Mod NoB w w') : Fresh w0 w' e sz o l c xs := ⟨h.own.mod' M, h.mod.trans M (fun _ _ h => h), h.new⟩
theorem Fresh.push (h : Fresh w0 w e sz o l c xs) (ht : P.underlying t = some (.slice e)) (hi : P.info? e = some i) (hz : i.zero = some z) (hs : i.size = sz) (hzs : z.cells.size = sz)
    (src : Src P sz tx x n news w) (h63 : l + n ≤ maxLen) (hb : (l + n) * i.bytes ≤ 140737488355328) :
    ∃ o' c' w', Sem.run P (builtinV .append #[t, tx] ty #[.slice o l c, x]) w = .ok (.slice o' (l + n) c') w' ∧ Fresh w0 w' e sz o' (l + n) c' (xs ++ news) := by
  obtain ⟨o', c', w', h1, h2, h3, h4⟩ := append_own (ty := ty) ht hi hz hs hzs h.own src h63 hb
  refine ⟨o', c', w', h1, h2, h.mod.trans h3 (fun k hk hob => absurd (h.new k hob) (by omega)), fun k hk => ?_⟩
  rcases h4 k hk with h5 | h5
  · exact h.new k h5
  · exact Nat.le_trans h.mod.size h5
theorem Fresh.set (h : Fresh w0 w e sz o l c xs) {j : Nat} (hj : j < l * sz) {v : Value} (hv : v.oneCell' = true) :
    ∃ g, o = some ⟨g, 0, none⟩ ∧ CanSet w ⟨g, j, none⟩ v ∧ Fresh w0 (w.setCell ⟨g, j, none⟩ v) e sz o l c (xs.set j v) := by
  rcases h.own.2 with ⟨_, rfl, _⟩ | ⟨g, cur, rfl, hb, hlc, hcm, hcs, ht⟩
  · simp at hj
  · have hle : l * sz ≤ c * sz := Nat.mul_le_mul_right _ hlc
    refine ⟨g, rfl, hb.canSet (by rw [hcs]; omega) hv, ⟨by rw [List.length_set]; exact h.own.1, .inr ⟨g, _, rfl, hb.set j v, hlc, hcm, by simpa using hcs, ?_⟩⟩, ?_, h.new⟩
    · rw [Array.toList_setIfInBounds, List.take_set, ht]
    · exact h.mod.step_set (fun hk => absurd (h.new g ⟨_, rfl, rfl⟩) (by show ¬ _ ≤ _; have : g < w0.heap.size := hk; omega))
section
variable {C : Type} {lab : Nat → C}
theorem Fresh.done (h : Fresh w0 w e sz o l c xs) (cl : C) : COw w (ext lab w0.heap.size cl) cl e sz o l c xs ∧ Stp (fun _ => False) w0 lab w (ext lab w0.heap.size cl) :=
  ⟨⟨h.own, fun k hk => ext_new (h.new k hk)⟩, Stp.of_nob h.mod cl⟩

/-- A row of cells that can be read. -/
def CRow (w : World) (lab : Nat → C) (c : C) (o : Option Addr) (xs : List Value) : Prop :=
  ∀ (j : Nat) (v : Value), xs[j]? = some v → ∃ b f, o = some ⟨b, f, none⟩ ∧ b < w.heap.size ∧ lab b = c ∧ w.cell? ⟨b, f + j, none⟩ = some v
variable {cl : C} {S : C → Prop} {lab' : Nat → C}
theorem CRow.nil (w : World) (lab : Nat → C) (cl : C) (o : Option Addr) : CRow w lab cl o [] := fun j v h => by simp at h
theorem CRow.stp (h : CRow w lab cl o xs) (s : Stp S w lab w' lab') (hs : ¬ S cl) : CRow w' lab' cl o xs := fun j v hv => by
  obtain ⟨b, f, ho, hb, hl, hc⟩ := h j v hv
  exact ⟨b, f, ho, Nat.lt_of_lt_of_le hb s.size, (s.lab b hb).trans hl, (World.cell?_of_block (s.block b hb (by rw [hl]; exact hs))).trans hc⟩
theorem COw.row (h : COw w lab cl e sz o l c xs) : CRow w lab cl o xs := fun j v hv => by
  obtain ⟨g, rfl, hc⟩ := h.own.cell hv
  exact ⟨g, 0, rfl, h.own.lt ⟨_, rfl, rfl⟩, h.clr _ ⟨_, rfl, rfl⟩, by rw [Nat.zero_add]; exact hc⟩
theorem CRow.src (h : CRow w lab cl o xs) (hk : P.underlying tx = some (.slice e)) (hl : xs.length = n * sz) (h1 : ∀ u ∈ xs, u.oneCell' = true) (c : Nat) (hz : 0 < sz) : Src P sz tx (.slice o n c) n xs w := by
  cases xs with
  | nil =>
    have : n = 0 := by
      have : n * sz = 0 := by simpa using hl.symm
      rcases Nat.mul_eq_zero.1 this with h | h <;> omega
    subst this
    cases o with
    | none => exact Src.ofNil w hk c
    | some a => exact Src.ofSlice w hk a 0 c [] hl (by simp) (by simp)
  | cons v r =>
    obtain ⟨b, f, rfl, _, _, _⟩ := h 0 v rfl
    refine Src.ofSlice w hk _ n c _ hl (fun j u hu => ?_) h1
    obtain ⟨b', f', ho, _, _, hc⟩ := h j u hu
    cases ho
    rw [add_at]; exact hc
/-- A full row that is only read: appending copies it. -/
theorem append_full {o : Option Addr} {news : List Value} {x : Value} {m : Nat} (h : CRow w lab cl o xs) (ht : P.underlying t = some (.slice e)) (hi : P.info? e = some i) (hz : i.zero = some z) (hs : i.size = sz) (hzs : z.cells.size = sz) (hsz : 0 < sz)
    (hl : xs.length = l * sz) (src : Src P sz tx x (m + 1) news w) (h63 : l + (m + 1) ≤ maxLen) (hb : (l + (m + 1)) * i.bytes ≤ 140737488355328) :
    ∃ o' c' w', Sem.run P (builtinV .append #[t, tx] ty #[.slice o l l, x]) w = .ok (.slice o' (l + (m + 1)) c') w' ∧ Fresh w w' e sz o' (l + (m + 1)) c' (xs ++ news) := by
  have hold : (Builtin.firstCells i.size l (.slice o l l)).run P w.drew = .ok xs.toArray w.drew := by
    subst hs
    cases o with
    | none =>
      have : xs = [] := by
        cases xs with
        | nil => rfl
        | cons v r => obtain ⟨b, f, ho, _⟩ := h 0 v rfl; cases ho
      subst this
      have : l = 0 := by
        have : l * i.size = 0 := by simpa using hl.symm
        rcases Nat.mul_eq_zero.1 this with h | h <;> omega
      subst this
      exact run_firstCells_none w.drew i.size 0 0 0
    | some a =>
      exact run_firstCells_some w.drew i.size l _ l l xs hl (fun j v hv => by
        obtain ⟨b, f, ho, _, _, hc⟩ := h j v hv
        cases ho
        rw [add_at]
        exact hc)
  have hr := run_append_grow_src (P := P) w t tx ty e i z ht hi hz o l l xs hold x (m + 1) news (hs ▸ src) (by omega) (by simp only [maxLen] at h63; omega) (growslice_fits (by omega) hb)
  have hlen : (xs ++ news).length = (l + (m + 1)) * sz := by rw [List.length_append, hl, src.newsLen, ← Nat.add_mul]
  have hge := grownCap_ge w (l + (m + 1)) l e
  have hcm : grownCap w (l + (m + 1)) l e ≤ maxLen := grownCap_le_maxLen w (l + (m + 1)) l e h63
  refine ⟨_, _, _, hr, ⟨hlen, .inr ⟨_, _, rfl, Blk.new w.drew e _, hge, hcm, ?_, ?_⟩⟩, ((Mod.drew w).step_alloc _), fun k hk => ?_⟩
  · rw [Array.size_append, List.size_toArray, hlen, size_zeroCells, hzs, ← Nat.add_mul]
    congr 1; omega
  · rw [Array.toList_append]
    show List.take _ ((xs ++ news) ++ _) = _
    rw [← hlen]
    exact List.take_left
  · obtain ⟨d, hd, rfl⟩ := hk
    cases hd
    exact Nat.le_refl _
theorem add_zero_map (o : Option Addr) (k : Nat) : Option.map (fun a => Addr.add a (0 * k)) o = o := by
  cases o with
  | none => rfl
  | some a => simp [Addr.add]
/-- `s[:h:m]` of a slice. -/
theorem run_slice3 {o : Option Addr} {l c h : Nat} (ht : P.underlying t = some (.slice e)) (hi : P.info? e = some i) (w : World) (hh : h ≤ c) :
    Sem.run P (Instr.sliceAt t (.slice o l c) none (some (.int .i64 (h : Int))) (some (.int .i64 (h : Int)))) w = .ok (.slice o h h) w := by
  have e1 : ∀ (y : Nat) (code : BoundsCode), h ≤ y → (Instr.sliceBound (.int .i64 (h : Int)) y code).run P w = .ok h w := by
    intro y code hy
    simp [Instr.sliceBound, asIntOf, hy]
  have e2 : (Instr.sliceBounds true l c none (some (.int .i64 (h : Int))) (some (.int .i64 (h : Int)))).run P w = .ok (0, h, h) w := by
    unfold Instr.sliceBounds
    simp only [Sem.run_bind, e1 c _ hh, Result.andThen_ok, e1 h _ (Nat.le_refl _), Sem.run_pure]
  unfold Instr.sliceAt
  simp only [Sem.run_bind, run_und ht, Result.andThen_ok]
  unfold Instr.slice
  simp only [Sem.run_bind, run_und ht, Result.andThen_ok, e2, run_sizeOf hi, Sem.run_pure, add_zero_map, ite_self, Nat.sub_zero]
end
end Go.Vcg
end

section
namespace Go.Vcg
theorem run_append_zeros {P : Program} {w : World} {t tx ty e : TypeId} {k : IntKind} {i : TypeInfo} {z : Value} (ht : P.underlying t = some (.slice e)) (hx : P.underlying tx = some (.int k)) (hi : P.info? e = some i) (hz : i.zero = some z)
    (hs : i.size = 1) (hib : i.bytes = 1) {base : Option Addr} {sLen sCap n : Nat} {olds : List Value}
    (hold : (Builtin.firstCells 1 sLen (.slice base sLen sCap)).run P w.drew = .ok olds.toArray w.drew) (hg : sCap < sLen + n) (hn : 0 < n) (hb : sLen + n ≤ 70368744177664) :
    (builtinV .append #[t, tx] ty #[.slice base sLen sCap, .int .i64 (n : Int)]).run P w =
      .ok (.slice (some ⟨w.heap.size, 0, none⟩) (sLen + n) (grownCap w (sLen + n) sCap e))
        (w.drew.alloc (.cells (olds.toArray ++ Builtin.zeroCells z.cells n ++ Builtin.zeroCells z.cells (grownCap w (sLen + n) sCap e - (sLen + n))) e)) := by
  have h1 : ¬ (sLen + n ≤ sCap) := by omega
  have hw : IntKind.wrap .i64 ((n : Int)) = (n : Int) := wrap_i64_small (by omega) (by omega)
  have h0 : ¬ ((n : Int) < 0) := by omega
  have h2 : ¬ ((281474976710656 : Int) < (n : Int)) := by omega
  have h63' : ¬ (9223372036854775807 < ((sLen : Int) + (n : Int))) := by omega
  have hfit : Builtin.nextslicecap (sLen + n) sCap * i.bytes ≤ 281474976710656 := growslice_fits (by omega) (by rw [hib]; omega)
  rw [hib, Nat.mul_one] at hfit
  have h48' : ¬ (281474976710656 < Builtin.nextslicecap (sLen + n) sCap) := by omega
  have hne : ¬ n = 0 := by omega
  simp only [builtinV]
  simp [Builtin.append_, run_underlying ht, run_underlying hx, sizeOf, typeInfo, zeroValue, hi, hz, hs, hib, asInt, asIntOf, hw, h0, h2, h1, h63', h48', Question.forced, hold, newRow, grownCap, hne]
end Go.Vcg
end

section
namespace Go.Vcg

def strOf (bs : List UInt8) : ByteArray := ⟨bs.toArray⟩
theorem run_toStr {P : Program} {w : World} {src dst e : TypeId} (hs : P.underlying src = some (.slice e)) (he : P.underlying e = some (.int .u8)) (hd : P.underlying dst = some .string) {o : Option Addr} {c : Nat} {bs : List UInt8} (h : RdB w o bs) :
    (convert src dst (.slice o bs.length c)).run P w = .ok (.string (strOf bs)) w := by
  rw [run_convert_bytes_string w src dst e o bs.length c hs he hd]
  cases o with
  | none =>
    have : bs = [] := by
      by_cases hne : bs = []
      · exact hne
      · obtain ⟨b, f, h, _⟩ := h hne; cases h
    subst this
    rfl
  | some a =>
    have hl : (loadCells a bs.length).run P w = .ok ((bs.map fun b => (b.toNat : Int)).map (Value.int .u8)).toArray w := by
      have h1 : (Builtin.firstCells 1 bs.length (.slice (some a) bs.length c)).run P w = .ok (bs.map bV).toArray w := by
        refine run_firstCells_some w 1 bs.length a _ c _ (by simp) (fun j v hv => ?_)
        rw [List.getElem?_map, Option.map_eq_some_iff] at hv
        obtain ⟨x, hx, rfl⟩ := hv
        obtain ⟨hj, rfl⟩ := List.getElem?_eq_some_iff.1 hx
        obtain ⟨b, f, ho, _, hc⟩ := h (by intro e; rw [e] at hj; simp at hj)
        cases ho
        rw [add_at, hc j hj]
        simp [List.getD_eq_getElem?_getD, hj]
      simp only [Builtin.firstCells, Nat.mul_one] at h1
      rw [h1, List.map_map]; rfl
    rw [run_bytesToString w a _ c _ hl]
    have key : ∀ (l : List UInt8) (s : ByteArray), (l.map fun b => (b.toNat : Int)).foldl (fun r n => r.push (UInt8.ofNat n.toNat)) s = ⟨s.data ++ l.toArray⟩ := by
      intro l
      induction l with
      | nil => intro s; simp
      | cons b l ih =>
        intro s
        rw [List.map_cons, List.foldl_cons, ih]
        have e1 : UInt8.ofNat ((b.toNat : Int)).toNat = b := by rw [Int.toNat_natCast, UInt8.ofNat_toNat]
        rw [e1]
        congr 1
        show s.data.push b ++ l.toArray = _
        rw [List.toArray_cons, ← Array.append_assoc]
        rfl
    rw [key]
    show Result.ok (Value.string ⟨#[] ++ bs.toArray⟩) w = _
    rw [Array.empty_append]; rfl
theorem strB_eql (a b : ByteArray) : strB .eql a b = decide (a.data.toList = b.data.toList) := by
  simp only [strB, ByteArray.toList_eq]
  by_cases h : a.data.toList = b.data.toList
  · rw [decide_eq_true h, h]; simp
  · rw [decide_eq_false h]; simpa using h
theorem strB_strOf (a b : List UInt8) : strB .eql (strOf a) (strOf b) = decide (a = b) := by
  rw [strB_eql]; rfl
end Go.Vcg
end

section
set_option linter.unusedVariables false
set_option linter.unusedSimpArgs false
namespace Go.Proofs.Ytfghidehlnfdiaa
open Go Go.Vcg Go.Trie

theorem calls_gen {P : Program} {f : FuncId} {args : Array Value} {w : World} {Q : Ending → World → Prop} (h : ∀ R : Ending → World → Prop, (∀ e w', Q e w' → R e w') → Calls P f args w R) : Calls P f args w Q :=
  h Q (fun _ _ h => h)
theorem info_of {t : TypeId} {z : Value} {s b : Nat} (h : (Try.prog.info? t).map (fun i => (i.zero, i.size, i.bytes)) = some (some z, s, b)) : ∃ i, Try.prog.info? t = some i ∧ i.zero = some z ∧ i.size = s ∧ i.bytes = b := by
  obtain ⟨i, hi, h1⟩ := Option.map_eq_some_iff.1 h
  simp only [Prod.mk.injEq] at h1
  exact ⟨i, hi, h1⟩
theorem push_bytes {w0 w : World} {o : Option Addr} {n k : Nat} {b : List UInt8} {ty : TypeId} (F : Fresh w0 w tU8 1 o n k (b.map bV)) {o2 : Option Addr} {c : List UInt8} {k2 : Nat} (hr : RdB w o2 c) (hn : n + c.length ≤ 2 ^ 40) :
    ∃ o' c' w', Sem.run Try.prog (builtinV .append #[tSlU8, tSlU8] ty #[.slice o n k, .slice o2 c.length k2]) w = .ok (.slice o' (n + c.length) c') w' ∧ Fresh w0 w' tU8 1 o' (n + c.length) c' ((b ++ c).map bV) := by
  obtain ⟨i, hi, hz, hs, hb⟩ := info_of info_u8
  rw [List.map_append]
  exact F.push und_slU8 hi hz hs rfl (src_bytes und_slU8 hr) (by simp only [maxLen]; omega) (by rw [hb]; omega)
theorem copy_bytes' {w0 w : World} (M : Vcg.Mod NoB w0 w) {o2 : Option Addr} {c : List UInt8} {k2 : Nat} {ty : TypeId} (hr : RdB w o2 c) (hn : c.length ≤ 2 ^ 40) :
    ∃ o' c' w', Sem.run Try.prog (builtinV .append #[tSlU8, tSlU8] ty #[.slice none 0 0, .slice o2 c.length k2]) w = .ok (.slice o' c.length c') w' ∧ Fresh w0 w' tU8 1 o' c.length c' (c.map bV) := by
  have := push_bytes (k2 := k2) (ty := ty) (b := []) (Fresh.nil M tU8 1) hr (by omega)
  simpa using this
theorem fresh_bytes {w0 w : World} {o : Option Addr} {l k : Nat} {bs : List UInt8} (F : Fresh w0 w tU8 1 o l k (bs.map bV)) : RdB w o bs := F.own.bytes
theorem rdb_get {w : World} {o : Option Addr} {bs : List UInt8} (h : RdB w o bs) {i : Nat} (hi : i < bs.length) : ∃ b f, o = some ⟨b, f, none⟩ ∧ b < w.heap.size ∧ w.cell? ⟨b, f + i, none⟩ = some (bV bs[i]) := by
  obtain ⟨b, f, ho, hb, hc⟩ := h (by intro e; rw [e] at hi; simp at hi)
  refine ⟨b, f, ho, hb, ?_⟩
  rw [hc i hi]
  simp [List.getD_eq_getElem?_getD, hi]
theorem two_bytes {w : World} (a b : UInt8) {n m : Int} (hn : n = (a.toNat : Int)) (hm : m = (b.toNat : Int)) : RdB (w.alloc (.cells #[.int .u8 n, .int .u8 m] 5)) (some ⟨w.heap.size, 0, none⟩) [a, b] := by
  subst hn hm
  exact RdB.of_blk (Blk.new w 5 #[bV a, bV b]) (fun i hi => by
    rcases i with _ | _ | i
    · rfl
    · rfl
    · exact absurd hi (by simp))
theorem hi_nib (b : UInt8) : Int.fdiv (b.toNat : Int) 16 = ((b >>> 4).toNat : Int) := by
  have : ∀ n : Fin 256, Int.fdiv ((UInt8.ofFin n).toNat : Int) 16 = ((UInt8.ofFin n >>> 4).toNat : Int) := by decide +kernel
  exact this b.toFin
theorem lo_nib (b : UInt8) : bitsI .and .u8 (b.toNat : Int) 15 = ((b &&& 15).toNat : Int) := by
  have : ∀ n : Fin 256, bitsI .and .u8 ((UInt8.ofFin n).toNat : Int) 15 = ((UInt8.ofFin n &&& 15).toNat : Int) := by decide +kernel
  exact this b.toFin
theorem nibbles_len (k : By) : (nibbles k).length = 2 * k.length := by
  induction k with
  | nil => rfl
  | cons a r ih =>
    show ([a >>> 4, a &&& 15] ++ nibbles r).length = _
    rw [List.length_append, ih]; simp; omega
theorem nibbles_snoc (k : By) (a : UInt8) : nibbles (k ++ [a]) = nibbles k ++ [a >>> 4, a &&& 15] := by
  unfold nibbles
  rw [List.flatMap_append]; rfl
theorem Nibbles_calls {w : World} {o : Option Addr} {k : Nat} {bs : List UInt8} (hr : RdB w o bs) (hl : bs.length ≤ 2 ^ 30) :
    Calls Try.prog trie_Nibbles.n #[.slice o bs.length k] w (fun e w' => ∃ o' k', e = .returned (.slice o' (nibbles bs).length k') ∧ Fresh w w' tU8 1 o' (nibbles bs).length k' ((nibbles bs).map bV)) := by
  refine trie_Nibbles.vc _ _ _ _ _ ?_
  unfold trie_Nibbles.Vc
  refine ⟨fun o' l' k' i w' => ∃ j : Nat, i = (j : Int) ∧ j ≤ bs.length ∧ l' = (nibbles (bs.take j)).length ∧ Fresh w w' tU8 1 o' l' k' ((nibbles (bs.take j)).map bV), fun _ _ _ i _ => ((bs.length : Int) - i).toNat,
    ⟨0, rfl, Nat.zero_le _, rfl, Fresh.nil (Mod.refl w) _ _⟩, ?_⟩
  rintro o' _ k' _ _ w1 ⟨j, rfl, hj, rfl, F⟩
  refine ⟨fun hlt => ?_, fun hge => ?_⟩
  · have hjl : j < bs.length := by omega
    obtain ⟨b, f, rfl, hb, hc⟩ := rdb_get hr hjl
    have htk : bs.take (j + 1) = bs.take j ++ [bs[j]] := by rw [List.take_add_one, List.getElem?_eq_getElem hjl]; rfl
    refine ⟨_, rfl, by omega, _, by rw [add_at, Int.toNat_natCast]; exact (cell_mod F.mod hb (fun h => h)).trans hc, ?_⟩
    rintro d w2 ⟨rfl, rfl⟩
    have hnl := nibbles_len (bs.take j)
    rw [List.length_take] at hnl
    obtain ⟨o3, k3, w3, hr3, F3⟩ := push_bytes (ty := tSlU8) (k2 := 2) (F.mod' (Mod.alloc _ _)) (two_bytes (w := w1) (bs[j] >>> 4) (bs[j] &&& 15) (hi_nib _) (lo_nib _)) (by simp; omega)
    refine ⟨_, w3, hr3, _, _, _, rfl, ⟨j + 1, by rw [wrap_i64_small (by omega) (by omega)]; omega, hjl, ?_, ?_⟩, ?_⟩
    · rw [htk, nibbles_snoc, List.length_append]
    · rw [htk, nibbles_snoc]; exact F3
    · dsimp only
      rw [wrap_i64_small (by omega) (by omega)]; omega
  · obtain rfl : j = bs.length := by omega
    rw [List.take_length] at F ⊢
    exact ⟨_, _, rfl, F⟩
/-- bytes.Clone. -/
theorem Clone_calls {w : World} {o : Option Addr} {k : Nat} {bs : List UInt8} (hr : RdB w o bs) (hl : bs.length ≤ 2 ^ 40) :
    Calls Try.prog bytes_Clone.n #[.slice o bs.length k] w (fun e w' => ∃ o' k', e = .returned (.slice o' bs.length k') ∧ Fresh w w' tU8 1 o' bs.length k' (bs.map bV)) := by
  refine bytes_Clone.vc _ _ _ _ _ ?_
  unfold bytes_Clone.Vc
  refine ⟨fun h => ?_, fun h => ?_⟩
  · subst h
    have : bs = [] := by
      by_cases hne : bs = []
      · exact hne
      · obtain ⟨b, f, ho, _⟩ := hr hne; cases ho
    subst this
    exact ⟨none, 0, rfl, Fresh.nil (Mod.refl w) _ _⟩
  · rintro d w2 ⟨rfl, rfl⟩
    have M2 := Mod.alloc (S := NoB) w (.cells #[] 5)
    have F : Fresh w (w.alloc (.cells #[] 5)) tU8 1 (some ⟨w.heap.size, 0, none⟩) 0 0 (([] : List UInt8).map bV) :=
      ⟨⟨rfl, .inr ⟨_, #[], rfl, Blk.new w 5 #[], Nat.le_refl _, by simp [maxLen], rfl, rfl⟩⟩, M2, fun k hk => by obtain ⟨d, hd, rfl⟩ := hk; cases hd; exact Nat.le_refl _⟩
    obtain ⟨o3, k3, w3, hr3, F3⟩ := push_bytes (ty := tSlU8) (k2 := k) F (hr.mod' M2) (by omega)
    rw [Nat.zero_add] at hr3 F3
    rw [List.nil_append] at F3
    exact ⟨_, w3, hr3, _, _, _, rfl, _, _, rfl, F3⟩
end Go.Proofs.Ytfghidehlnfdiaa
end

section
set_option linter.unusedVariables false
set_option linter.unusedSimpArgs false
namespace Go.Trie
theorem pairs_snoc : ∀ (n : Nat) (x : By) (a b : UInt8), x.length = 2 * n → pairs (x ++ [a, b]) = pairs x ++ [a <<< 4 ||| b]
  | 0, [], a, b, _ => rfl
  | 0, _ :: _, a, b, h => by simp at h
  | n + 1, [], a, b, h => by simp at h
  | n + 1, [_], a, b, h => by simp at h; omega
  | n + 1, c :: d :: r, a, b, h => by
    have := pairs_snoc n r a b (by simp at h; omega)
    show pairs (c :: d :: (r ++ [a, b])) = pairs (c :: d :: r) ++ _
    simp only [pairs, this, List.cons_append]
theorem pairs_len : ∀ (n : Nat) (x : By), x.length = 2 * n → (pairs x).length = n
  | 0, [], _ => rfl
  | 0, _ :: _, h => by simp at h
  | n + 1, [], h => by simp at h
  | n + 1, [_], h => by simp at h; omega
  | n + 1, c :: d :: r, h => by
    simp only [pairs, List.length_cons, pairs_len n r (by simp at h; omega)]
def headOf (p : By) (leaf : Bool) : By := if p.length % 2 = 1 then [flagOf leaf + 1] else [flagOf leaf, 0]
theorem headed_eq (p : By) (leaf : Bool) : headed p leaf = headOf p leaf ++ p := by
  unfold headed headOf; split <;> rfl
theorem headed_even (p : By) (leaf : Bool) : ∃ n, (headed p leaf).length = 2 * n := by
  unfold headed
  split
  · rename_i h; exact ⟨(p.length + 1) / 2, by rw [List.length_cons]; omega⟩
  · rename_i h; exact ⟨(p.length + 2) / 2, by rw [List.length_cons, List.length_cons]; omega⟩
theorem shared_take_add : ∀ (n : Nat) (p q : By), p.take n = q.take n → n ≤ p.length → n ≤ q.length → n ≤ shared p q
  | 0, p, q, _, _, _ => Nat.zero_le _
  | n + 1, a :: p, b :: q, h, h1, h2 => by
    simp only [List.take_succ_cons, List.cons.injEq] at h
    have := shared_take_add n p q h.2 (by simp at h1; omega) (by simp at h2; omega)
    simp only [shared, if_pos h.1]; omega
  | n + 1, [], q, _, h, _ => by simp at h
  | n + 1, _ :: _, [], _, _, h => by simp at h
theorem shared_eq {n : Nat} {p q : By} (h : p.take n = q.take n) (h1 : n ≤ p.length) (h2 : n ≤ q.length) (h3 : n = p.length ∨ n = q.length ∨ ∃ (x : n < p.length) (y : n < q.length), p[n] ≠ q[n]) : shared p q = n := by
  have ge := shared_take_add n p q h h1 h2
  obtain ⟨l1, l2⟩ := shared_le p q
  rcases h3 with rfl | rfl | ⟨x, y, hne⟩
  · omega
  · omega
  · by_cases hlt : n < shared p q
    · have ht := shared_take p q
      have e1 : (p.take (shared p q))[n]? = (q.take (shared p q))[n]? := by rw [ht]
      rw [List.getElem?_take, List.getElem?_take, if_pos hlt, if_pos hlt, List.getElem?_eq_getElem x, List.getElem?_eq_getElem y] at e1
      exact (hne (Option.some.inj e1)).elim
    · omega
end Go.Trie
namespace Go.Proofs.Ytfghidehlnfdiaa
open Go Go.Vcg Go.Trie
theorem maxOf_calls {w : World} {o : Option Addr} {k : Nat} {bs : List UInt8} (hr : RdB w o bs) (hl : bs.length ≤ 2 ^ 30) :
    Calls Try.prog trie_maxOf.n #[.slice o bs.length k] w (fun e w' => w' = w ∧ ∃ n, e = .returned (.int .u8 n) ∧ (n ≥ 16 ↔ ∃ x ∈ bs, x ≥ 16)) := by
  refine trie_maxOf.vc _ _ _ _ _ ?_
  unfold trie_maxOf.Vc
  refine ⟨fun n i w' => ∃ j : Nat, i = (j : Int) ∧ j ≤ bs.length ∧ w' = w ∧ (n ≥ 16 ↔ ∃ x ∈ bs.take j, x ≥ 16), fun _ i _ => ((bs.length : Int) - i).toNat, ⟨0, rfl, Nat.zero_le _, rfl, by simp⟩, ?_⟩
  rintro n _ _ _ ⟨j, rfl, hj, rfl, hn⟩
  refine ⟨fun hlt => ?_, fun hge => ?_⟩
  · have hjl : j < bs.length := by omega
    obtain ⟨b, f, rfl, hb, hc⟩ := rdb_get hr hjl
    have htk : bs.take (j + 1) = bs.take j ++ [bs[j]] := by rw [List.take_add_one, List.getElem?_eq_getElem hjl]; rfl
    refine ⟨_, rfl, by omega, _, by rw [add_at, Int.toNat_natCast]; exact hc, ⟨j + 1, by rw [wrap_i64_small (by omega) (by omega)]; omega, hjl, rfl, ?_⟩, ?_⟩
    · rw [htk]
      simp only [List.mem_append, List.mem_singleton]
      have hx : ((bs[j].toNat : Int) ≥ 16) ↔ bs[j] ≥ 16 := by
        have : bs[j] ≥ 16 ↔ (16 : UInt8).toNat ≤ bs[j].toNat := UInt8.le_iff_toNat_le
        rw [this]
        show _ ↔ 16 ≤ bs[j].toNat
        omega
      constructor
      · intro h
        by_cases h1 : n ≥ 16
        · obtain ⟨x, hx1, hx2⟩ := hn.1 h1
          exact ⟨x, .inl hx1, hx2⟩
        · exact ⟨_, .inr rfl, hx.1 (by omega)⟩
      · rintro ⟨x, hx1 | rfl, hx2⟩
        · have := hn.2 ⟨x, hx1, hx2⟩; omega
        · have := hx.2 hx2; omega
    · dsimp only
      rw [wrap_i64_small (by omega) (by omega)]; omega
  · obtain rfl : j = bs.length := by omega
    rw [List.take_length] at hn
    exact ⟨rfl, n, rfl, hn⟩
theorem shl4 (a : UInt8) : IntKind.wrap .u8 ((a.toNat : Int) * 16) = ((a <<< 4).toNat : Int) := by
  have : ∀ n : Fin 256, IntKind.wrap .u8 (((UInt8.ofFin n).toNat : Int) * 16) = ((UInt8.ofFin n <<< 4).toNat : Int) := by decide +kernel
  exact this a.toFin
theorem fresh_blk (w : World) (cs : List UInt8) (A : Array Value) (hA : A.toList = cs.map bV) (hl : cs.length ≤ maxLen) : Fresh w (w.alloc (.cells A 5)) tU8 1 (some ⟨w.heap.size, 0, none⟩) cs.length cs.length (cs.map bV) := by
  have hs : A.size = cs.length := by rw [← Array.length_toList, hA, List.length_map]
  refine ⟨⟨by simp, .inr ⟨_, A, rfl, Blk.new w 5 A, Nat.le_refl _, hl, by omega, ?_⟩⟩, Mod.alloc _ _, fun k hk => by obtain ⟨d, hd, rfl⟩ := hk; cases hd; exact Nat.le_refl _⟩
  rw [hA, List.take_of_length_le (by rw [List.length_map]; omega)]
theorem Fresh.from_ {w w0 w1 : World} {e : TypeId} {sz : Nat} {o : Option Addr} {l c : Nat} {xs : List Value} (h : Fresh w0 w1 e sz o l c xs) (M : Vcg.Mod NoB w w0) : Fresh w w1 e sz o l c xs :=
  ⟨h.own, M.trans h.mod (fun _ _ h => h), fun k hk => Nat.le_trans M.size (h.new k hk)⟩
theorem Pack_calls {w : World} {o : Option Addr} {k : Nat} {bs : List UInt8} (hr : RdB w o bs) (hl : bs.length ≤ 2 ^ 30) (leaf : Bool) :
    Calls Try.prog trie_Pack.n #[.slice o bs.length k, .bool leaf] w (fun e w' => ∃ o' k', e = .returned (.tuple #[.slice o' (pack bs leaf).1.length k', .int .i64 (pack bs leaf).2]) ∧ Fresh w w' tU8 1 o' (pack bs leaf).1.length k' ((pack bs leaf).1.map bV)) := by
  refine calls_gen fun R hR => trie_Pack.vc _ _ _ _ _ _ ?_
  unfold trie_Pack.Vc
  have bad : packBad bs → R (.returned (.tuple #[.slice none 0 0, .int .i64 140])) w := fun h => by
    refine hR _ _ ⟨none, 0, ?_, ?_⟩
    · unfold pack; rw [if_pos h]; rfl
    · unfold pack; rw [if_pos h]; exact Fresh.nil (Mod.refl w) _ _
  refine ⟨fun h => bad (.inl (by omega)), fun h128 => ?_⟩
  refine (maxOf_calls hr hl).mono ?_
  rintro _ w1 ⟨rfl, n, rfl, hn⟩
  refine ⟨_, rfl, fun h => bad (.inr (hn.1 h)), fun h16 => ?_⟩
  have hgood : ¬ packBad bs := by
    rintro (h | h)
    · omega
    · exact h16 (hn.2 h)
  have hpk : pack bs leaf = (pairs (headed bs leaf), 0) := by unfold pack; rw [if_neg hgood]
  rw [hpk] at hR
  refine ⟨fun m w' => m = ((flagOf leaf).toNat : Int) ∧ w' = w1, ⟨fun h => ⟨by rw [h]; rfl, rfl⟩, fun h => ⟨by rw [h]; rfl, rfl⟩⟩, ?_⟩
  rintro _ _ w7 ⟨rfl, rfl⟩
  rintro d8 w9 ⟨rfl, rfl⟩
  have hho : (headOf bs leaf).length ≤ 2 := by unfold headOf; split <;> simp
  refine ⟨fun o' l' k' w' => ∃ k0, k' = k0 ∧ l' = (headOf bs leaf).length ∧ Fresh w7 w' tU8 1 o' l' k' ((headOf bs leaf).map bV), ⟨fun hodd => ?_, fun hev => ?_⟩, ?_⟩
  · rintro d11 w12 ⟨rfl, rfl⟩
    have ho : bs.length % 2 = 1 := by
      have : Int.tmod ((bs.length : Nat) : Int) 2 = ((bs.length % 2 : Nat) : Int) := rfl
      omega
    have e : headOf bs leaf = [flagOf leaf + 1] := by unfold headOf; rw [if_pos ho]
    rw [e]
    have hw : IntKind.wrap .u8 (((flagOf leaf).toNat : Int) + 1) = ((flagOf leaf + 1).toNat : Int) := by cases leaf <;> decide
    rw [hw]
    exact ⟨_, rfl, rfl, Fresh.from_ (fresh_blk _ [flagOf leaf + 1] _ rfl (by simp [maxLen])) (Mod.alloc _ _)⟩
  · have ho : ¬ bs.length % 2 = 1 := by
      have : Int.tmod ((bs.length : Nat) : Int) 2 = ((bs.length % 2 : Nat) : Int) := rfl
      omega
    have e : headOf bs leaf = [flagOf leaf, 0] := by unfold headOf; rw [if_neg ho]
    rw [e]
    exact ⟨_, rfl, rfl, fresh_blk _ [flagOf leaf, 0] _ rfl (by simp [maxLen])⟩
  · rintro o13 _ _ _ w14 ⟨c13, rfl, rfl, F14⟩
    obtain ⟨o16, k16, w16, hr16, F16⟩ := push_bytes (ty := tSlU8) (k2 := k) F14 (hr.mod' F14.mod) (by omega)
    rw [← headed_eq] at F16
    have hlh : (headOf bs leaf).length + bs.length = (headed bs leaf).length := by rw [headed_eq, List.length_append]
    rw [hlh] at hr16 F16
    refine ⟨_, w16, hr16, _, _, _, rfl, ?_⟩
    obtain ⟨N, hN⟩ := headed_even bs leaf
    have hrh := fresh_bytes F16
    generalize headed bs leaf = H at *
    refine ⟨fun o' l' k' i w' => ∃ j : Nat, i = ((2 * j : Nat) : Int) ∧ j ≤ N ∧ l' = (pairs (H.take (2 * j))).length ∧ Fresh w16 w' tU8 1 o' l' k' ((pairs (H.take (2 * j))).map bV), fun _ _ _ i _ => ((H.length : Int) - i).toNat,
      ⟨0, rfl, Nat.zero_le _, rfl, Fresh.nil (Mod.refl w16) _ _⟩, ?_⟩
    rintro o' _ k' _ _ w23 ⟨j, rfl, hj, rfl, F⟩
    refine ⟨fun hlt => ?_, fun hge => ?_⟩
    · rintro _ rfl
      have h1 : 2 * j < H.length := by omega
      have h2 : 2 * j + 1 < H.length := by omega
      have F24 := F.mod' (Mod.drew (S := NoB) w23)
      obtain ⟨b, f, rfl, hb, hc1⟩ := rdb_get hrh h1
      obtain ⟨b', f', hb', _, hc2⟩ := rdb_get hrh h2
      cases hb'
      have e1 : IntKind.wrap .i64 (((2 * j : Nat) : Int) + 1) = ((2 * j + 1 : Nat) : Int) := by rw [wrap_i64_small (by omega) (by omega)]; omega
      have e2 : IntKind.wrap .i64 (((2 * j : Nat) : Int) + 2) = ((2 * (j + 1) : Nat) : Int) := by rw [wrap_i64_small (by omega) (by omega)]; omega
      rw [e1, e2]
      refine ⟨_, rfl, by omega, _, by rw [add_at, Int.toNat_natCast]; exact (cell_mod F24.mod hb (fun h => h)).trans hc1, _, rfl, by omega, _, by rw [add_at, Int.toNat_natCast]; exact (cell_mod F24.mod hb (fun h => h)).trans hc2, ?_⟩
      rw [shl4, bitsI_or_u8]
      rintro d29 w30 ⟨rfl, rfl⟩
      have htk : H.take (2 * (j + 1)) = H.take (2 * j) ++ [H[2 * j], H[2 * j + 1]] := by
        rw [show 2 * (j + 1) = 2 * j + 1 + 1 by omega, List.take_add_one, List.take_add_one, List.getElem?_eq_getElem h1, List.getElem?_eq_getElem h2, List.append_assoc]; rfl
      have htl : (H.take (2 * j)).length = 2 * j := by rw [List.length_take]; omega
      have hps := pairs_snoc j (H.take (2 * j)) H[2 * j] H[2 * j + 1] htl
      have hpl := pairs_len j (H.take (2 * j)) htl
      have one : RdB (w23.drew.alloc (.cells #[.int .u8 ((H[2 * j] <<< 4 ||| H[2 * j + 1]).toNat : Int)] 5)) (some ⟨w23.drew.heap.size, 0, none⟩) [H[2 * j] <<< 4 ||| H[2 * j + 1]] :=
        RdB.of_blk (Blk.new w23.drew 5 #[bV (H[2 * j] <<< 4 ||| H[2 * j + 1])]) (fun i hi => by
          obtain rfl : i = 0 := by simpa using hi
          rfl)
      obtain ⟨o31, k31, w31, hr31, F31⟩ := push_bytes (ty := tSlU8) (k2 := 1) (F24.mod' (Mod.alloc _ _)) one (by simp; omega)
      refine ⟨_, w31, hr31, _, _, _, rfl, ⟨j + 1, rfl, by omega, ?_, ?_⟩, by dsimp only; omega⟩
      · rw [htk, hps, List.length_append]
      · rw [htk, hps]; exact F31
    · obtain rfl : j = N := by omega
      rw [List.take_of_length_le (by omega)] at F ⊢
      exact hR _ _ ⟨_, _, rfl, Fresh.from_ F F16.mod⟩
end Go.Proofs.Ytfghidehlnfdiaa
end

section
set_option linter.unusedVariables false
set_option linter.unusedSimpArgs false
namespace Go.Trie
/-! ### items as bytes -/
def digitsF : Nat → Nat → By
  | 0, _ => []
  | f + 1, n => if n = 0 then [] else digitsF f (n / 256) ++ [UInt8.ofNat n]
def digits (n : Nat) : By := digitsF 8 n
def head (n base : Nat) : By := if n ≤ 55 then [UInt8.ofNat (base + n)] else UInt8.ofNat (base + 55 + (digits n).length) :: digits n
def own : By → Bool
  | [a] => decide (a < 128)
  | _ => false
mutual
def enc : It → By
  | .s b => if own b then b else head b.length 128 ++ b
  | .l xs => head (encs xs).length 192 ++ encs xs
def encs : List It → By
  | [] => []
  | x :: r => enc x ++ encs r
end
theorem digitsF_le : ∀ (f n : Nat), (digitsF f n).length ≤ f
  | 0, _ => by simp [digitsF]
  | f + 1, n => by
    have := digitsF_le f (n / 256)
    simp only [digitsF]
    split
    · simp
    · rw [List.length_append]; simp; omega
theorem digits_le (n : Nat) : (digits n).length ≤ 8 := digitsF_le 8 n
end Go.Trie
namespace Go.Proofs.Ytfghidehlnfdiaa
open Go Go.Vcg Go.Trie
theorem und_u8 : Try.prog.underlying 5 = some (.int .u8) := by kernel_rfl
theorem und_str : Try.prog.underlying 9 = some .string := by kernel_rfl
theorem Equal_calls {w : World} {o1 o2 : Option Addr} {k1 k2 : Nat} {a b : List UInt8} (h1 : RdB w o1 a) (h2 : RdB w o2 b) :
    Calls Try.prog bytes_Equal.n #[.slice o1 a.length k1, .slice o2 b.length k2] w (fun e w' => e = .returned (.bool (decide (a = b))) ∧ w' = w) := by
  refine bytes_Equal.vc _ _ _ _ _ _ _ _ ?_
  unfold bytes_Equal.Vc
  refine ⟨_, run_toStr und_slU8 und_u8 und_str h1, _, rfl, _, run_toStr und_slU8 und_u8 und_str h2, _, rfl, ?_, rfl⟩
  rw [strB_strOf]
theorem HasPrefix_calls {w : World} {o1 o2 : Option Addr} {k1 k2 : Nat} {a b : List UInt8} (h1 : RdB w o1 a) (hk : a.length ≤ k1) (h2 : RdB w o2 b) :
    Calls Try.prog bytes_HasPrefix.n #[.slice o1 a.length k1, .slice o2 b.length k2] w (fun e w' => e = .returned (.bool (b.isPrefixOf a)) ∧ w' = w) := by
  refine bytes_HasPrefix.vc _ _ _ _ _ _ _ _ ?_
  unfold bytes_HasPrefix.Vc
  refine ⟨fun hge => ⟨by omega, ?_⟩, fun hlt => ⟨?_, rfl⟩⟩
  · rw [Int.toNat_natCast]
    have hl : (a.take b.length).length = b.length := by rw [List.length_take]; omega
    have hc := Equal_calls (k1 := k1) (k2 := k2) (h1.take b.length) h2
    rw [hl] at hc
    refine hc.mono ?_
    rintro _ w' ⟨rfl, rfl⟩
    refine ⟨_, rfl, ?_, rfl⟩
    congr 2
    rw [Bool.eq_iff_iff, decide_eq_true_eq, List.isPrefixOf_iff_prefix, List.prefix_iff_eq_take]
    exact ⟨fun h => h.symm, fun h => h.symm⟩
  · congr 2
    symm
    rw [Bool.eq_false_iff]
    intro h
    have := (List.isPrefixOf_iff_prefix.1 h).length_le
    omega
/-- What follows a beginning. -/
theorem begins_calls {w : World} {o1 o2 : Option Addr} {k1 k2 : Nat} {a b : List UInt8} (h1 : RdB w o1 a) (hk : a.length ≤ k1) (h2 : RdB w o2 b) :
    Calls Try.prog trie_begins.n #[.slice o1 a.length k1, .slice o2 b.length k2] w (fun e w' => w' = w ∧
      if b.isPrefixOf a then e = .returned (.tuple #[.slice (subO o1 k1 b.length 1) (a.drop b.length).length (k1 - b.length), .bool true]) else e = .returned (.tuple #[.slice o1 a.length k1, .bool false])) := by
  refine trie_begins.vc _ _ _ _ _ _ _ _ ?_
  unfold trie_begins.Vc
  refine bytes_CutPrefix.vc _ _ _ _ _ _ _ _ ?_
  unfold bytes_CutPrefix.Vc
  refine (HasPrefix_calls h1 hk h2).mono ?_
  rintro _ w' ⟨rfl, rfl⟩
  refine ⟨_, rfl, fun hf => ⟨_, _, _, _, rfl, rfl, by rw [if_neg (by rw [hf]; simp)]⟩, fun ht => ?_⟩
  have hle := (List.isPrefixOf_iff_prefix.1 ht).length_le
  refine ⟨by omega, _, _, _, _, rfl, rfl, ?_⟩
  rw [if_pos ht, Int.toNat_natCast, List.length_drop]
theorem shared_calls {w : World} {o1 o2 : Option Addr} {k1 k2 : Nat} {a b : List UInt8} (h1 : RdB w o1 a) (h2 : RdB w o2 b) (hl : a.length ≤ 2 ^ 30) :
    Calls Try.prog trie_shared.n #[.slice o1 a.length k1, .slice o2 b.length k2] w (fun e w' => e = .returned (.int .i64 (shared a b : Int)) ∧ Vcg.Mod NoB w w') := by
  refine trie_shared.vc _ _ _ _ _ _ _ _ ?_
  unfold trie_shared.Vc
  refine ⟨fun i w' => ∃ j : Nat, i = (j : Int) ∧ j ≤ a.length ∧ j ≤ b.length ∧ a.take j = b.take j ∧ Vcg.Mod NoB w w', fun i _ => ((a.length : Int) - i).toNat, ⟨0, rfl, Nat.zero_le _, Nat.zero_le _, rfl, Mod.refl w⟩, ?_⟩
  rintro _ _ w1 ⟨j, rfl, hja, hjb, ht, M⟩
  rintro _ rfl
  have M2 := M.step_drew
  have fin : (j = a.length ∨ j = b.length ∨ ∃ (x : j < a.length) (y : j < b.length), a[j] ≠ b[j]) → (Ending.returned (Value.int .i64 (j : Int)) = .returned (.int .i64 (shared a b : Int)) ∧ Vcg.Mod NoB w w1.drew) := fun h =>
    ⟨by rw [shared_eq ht hja hjb h], M2⟩
  refine ⟨fun hla => ⟨fun hlb => ?_, fun hlb => fin (.inr (.inl (by omega)))⟩, fun hla => fin (.inl (by omega))⟩
  have ha : j < a.length := by omega
  have hb : j < b.length := by omega
  obtain ⟨ba, fa, rfl, hba, hca⟩ := rdb_get h1 ha
  obtain ⟨bb, fb, rfl, hbb, hcb⟩ := rdb_get h2 hb
  refine ⟨_, rfl, by omega, _, by rw [add_at, Int.toNat_natCast]; exact (cell_mod M2 hba (fun h => h)).trans hca, _, rfl, by omega, _, by rw [add_at, Int.toNat_natCast]; exact (cell_mod M2 hbb (fun h => h)).trans hcb, fun he => ?_, fun he => fin (.inr (.inr ⟨ha, hb, fun e => he (by rw [e])⟩))⟩
  have hab : a[j] = b[j] := UInt8.toNat_inj.1 (by exact_mod_cast he)
  refine ⟨⟨j + 1, by rw [wrap_i64_small (by omega) (by omega)]; omega, ha, hb, ?_, M2⟩, ?_⟩
  · rw [List.take_add_one, List.take_add_one, ht, List.getElem?_eq_getElem ha, List.getElem?_eq_getElem hb, hab]
  · dsimp only
    rw [wrap_i64_small (by omega) (by omega)]; omega
theorem own_calls {w : World} {o : Option Addr} {k : Nat} {b : List UInt8} (h : RdB w o b) :
    Calls Try.prog rlp_own.n #[.slice o b.length k] w (fun e w' => e = .returned (.bool (own b)) ∧ w' = w) := by
  refine rlp_own.vc _ _ _ _ _ ?_
  unfold rlp_own.Vc
  refine ⟨fun h1 => ?_, fun h1 => ⟨?_, rfl⟩⟩
  · obtain ⟨a, rfl⟩ : ∃ a, b = [a] := List.length_eq_one_iff.1 (by omega)
    obtain ⟨B, f, rfl, hB, hc⟩ := rdb_get h (i := 0) (by simp)
    have h2 : a < 128 ↔ a.toNat < 128 := by
      have : ∀ n : Fin 256, (UInt8.ofFin n < 128 ↔ (UInt8.ofFin n).toNat < 128) := by decide +kernel
      exact this a.toFin
    have h3 : decide ((a.toNat : Int) < 128) = own [a] := by
      show _ = decide (a < 128)
      rw [Bool.eq_iff_iff, decide_eq_true_eq, decide_eq_true_eq, h2]
      omega
    rw [← h3]
    exact ⟨_, rfl, by omega, _, by rw [add_at]; exact hc, rfl, rfl⟩
  · have : own b = false := by
      unfold own
      split
      · simp at h1
      · rfl
    rw [this]
theorem one_byte (w : World) (a : UInt8) {n : Int} (hn : n = (a.toNat : Int)) : Fresh w (w.alloc (.cells #[.int .u8 n] 5)) tU8 1 (some ⟨w.heap.size, 0, none⟩) 1 1 ([a].map bV) := by
  subst hn
  exact fresh_blk w [a] #[bV a] rfl (by simp [maxLen])
theorem wrap_u8_nat (n : Nat) : IntKind.wrap .u8 (n : Int) = ((UInt8.ofNat n).toNat : Int) := by
  rw [UInt8.toNat_ofNat']
  show (n : Int) % 256 = _
  omega
theorem digits_calls {w : World} (N : Nat) (hN : N < 2 ^ 63) :
    Calls Try.prog rlp_digits.n #[.int .u64 (N : Int)] w (fun e w' => ∃ o k, e = .returned (.slice o (digits N).length k) ∧ Fresh w w' tU8 1 o (digits N).length k ((digits N).map bV)) := by
  refine rlp_digits.vc _ _ _ ?_
  unfold rlp_digits.Vc
  refine ⟨fun n o l k w' => ∃ (f m : Nat) (row : By), n = (m : Int) ∧ m < 256 ^ f ∧ f ≤ 8 ∧ digits N = digitsF f m ++ row ∧ l = row.length ∧ Fresh w w' tU8 1 o l k (row.map bV), fun n _ _ _ _ => n.toNat,
    ⟨8, N, [], rfl, by omega, Nat.le_refl _, by rw [List.append_nil]; rfl, rfl, Fresh.nil (Mod.refl w) _ _⟩, ?_⟩
  rintro _ o _ k _ w1 ⟨f, m, row, rfl, hm, hf, hd, rfl, F⟩
  have hlen := digits_le N
  rw [hd, List.length_append] at hlen
  refine ⟨fun hpos => ?_, fun hz => ?_⟩
  · rintro d w2 ⟨rfl, rfl⟩
    cases f with
    | zero => simp at hm; omega
    | succ g =>
      have hM := Mod.alloc (S := NoB) w1 (.cells #[.int .u8 (IntKind.wrap .u8 (m : Int))] 5)
      have F1 := one_byte w1 (UInt8.ofNat m) (n := IntKind.wrap .u8 (m : Int)) (wrap_u8_nat m)
      obtain ⟨o3, k3, w3, hr3, F3⟩ := push_bytes (ty := tSlU8) (k2 := k) F1 ((fresh_bytes F).mod' hM) (by omega)
      have hstep : digitsF (g + 1) m = digitsF g (m / 256) ++ [UInt8.ofNat m] := by
        simp only [digitsF]; rw [if_neg (by omega)]
      have hfd : Int.fdiv (m : Int) 256 = ((m / 256 : Nat) : Int) := by
        rw [Int.fdiv_eq_ediv_of_nonneg _ (by omega)]; omega
      rw [hfd]
      refine ⟨_, w3, hr3, _, _, _, rfl, ⟨g, m / 256, UInt8.ofNat m :: row, rfl, ?_, by omega, ?_, ?_, ?_⟩, ?_⟩
      · rw [Nat.pow_succ] at hm
        exact Nat.div_lt_of_lt_mul (by rw [Nat.mul_comm]; exact hm)
      · rw [hd, hstep, List.append_assoc]; rfl
      · simp; omega
      · exact Fresh.from_ F3 F.mod
      · dsimp only; omega
  · have hm0 : m = 0 := by omega
    subst hm0
    have h0 : digitsF f 0 = [] := by cases f <;> simp [digitsF]
    rw [h0, List.nil_append] at hd
    rw [hd]
    exact ⟨_, _, rfl, F⟩
theorem head_calls {w : World} (n base : Nat) (hn : n < 2 ^ 31) (hb : base ≤ 192) :
    Calls Try.prog rlp_head.n #[.int .i64 (n : Int), .int .i64 (base : Int)] w (fun e w' => ∃ o k, e = .returned (.slice o (Trie.head n base).length k) ∧ Fresh w w' tU8 1 o (Trie.head n base).length k ((Trie.head n base).map bV)) := by
  refine rlp_head.vc _ _ _ _ ?_
  unfold rlp_head.Vc
  refine ⟨fun hs => ?_, fun hs => ?_⟩
  · rintro d w2 ⟨rfl, rfl⟩
    have e : Trie.head n base = [UInt8.ofNat (base + n)] := by unfold Trie.head; rw [if_pos (by omega)]
    have ew : IntKind.wrap .i64 ((base : Int) + (n : Int)) = ((base + n : Nat) : Int) := by rw [wrap_i64_small (by omega) (by omega)]; omega
    rw [e, ew]
    exact ⟨_, _, rfl, one_byte w _ (wrap_u8_nat _)⟩
  · have e : Trie.head n base = UInt8.ofNat (base + 55 + (digits n).length) :: digits n := by unfold Trie.head; rw [if_neg (by omega)]
    have ew : IntKind.wrap .u64 (n : Int) = (n : Int) := by
      show (n : Int) % 18446744073709551616 = _
      omega
    rw [ew]
    refine (digits_calls n (by omega)).mono ?_
    rintro _ w2 ⟨o, k, rfl, F⟩
    have hdl := digits_le n
    refine ⟨_, _, _, rfl, ?_⟩
    rintro d w3 ⟨rfl, rfl⟩
    have ew2 : IntKind.wrap .i64 (IntKind.wrap .i64 ((base : Int) + 55) + (((digits n).length : Nat) : Int)) = ((base + 55 + (digits n).length : Nat) : Int) := by
      rw [wrap_i64_small (n := (base : Int) + 55) (by omega) (by omega), wrap_i64_small (by omega) (by omega)]; omega
    rw [ew2]
    obtain ⟨o4, k4, w4, hr4, F4⟩ := push_bytes (ty := tSlU8) (k2 := k) (one_byte w2 _ (wrap_u8_nat (base + 55 + (digits n).length))) ((fresh_bytes F).mod' (Mod.alloc _ _)) (by omega)
    refine ⟨_, w4, hr4, _, _, _, rfl, o4, k4, ?_, ?_⟩
    · rw [e, List.length_cons, Nat.add_comm]
    · rw [e, List.length_cons, Nat.add_comm]
      exact Fresh.from_ F4 F.mod
end Go.Proofs.Ytfghidehlnfdiaa
end

section
set_option linter.unusedVariables false
set_option linter.unusedSimpArgs false
namespace Go.Proofs.Ytfghidehlnfdiaa
open Go Go.Vcg Go.Trie
abbrev tItem : TypeId := 138
abbrev tSlItem : TypeId := 136
theorem und_slItem : Try.prog.underlying tSlItem = some (.slice tItem) := by kernel_rfl
theorem info_item : (Try.prog.info? tItem).map (fun i => (i.zero, i.size, i.bytes)) = some (some (.agg #[.bool false, .slice none 0 0, .slice none 0 0]), 3, 56) := by kernel_rfl
mutual
/-- An item in three cells, off some blocks. -/
def ItC (A : Nat → Prop) (w : World) : It → Value → Value → Value → Prop
  | .s b, v1, v2, v3 => v1 = .bool false ∧ (∃ o c, v2 = .slice o b.length c ∧ RdB w o b ∧ (b ≠ [] → ∀ d, o = some d → ¬ A d.block)) ∧ v3 = .slice none 0 0
  | .l xs, v1, v2, v3 => v1 = .bool true ∧ v2 = .slice none 0 0 ∧ ∃ o c, v3 = .slice o xs.length c ∧ ItsC A w xs o 0
/-- Items in a row, from the k-th place on. -/
def ItsC (A : Nat → Prop) (w : World) : List It → Option Addr → Nat → Prop
  | [], _, _ => True
  | x :: r, o, k => (∃ b f v1 v2 v3, o = some ⟨b, f, none⟩ ∧ b < w.heap.size ∧ ¬ A b ∧ w.cell? ⟨b, f + k * 3, none⟩ = some v1 ∧ w.cell? ⟨b, f + k * 3 + 1, none⟩ = some v2 ∧ w.cell? ⟨b, f + k * 3 + 2, none⟩ = some v3 ∧ ItC A w x v1 v2 v3) ∧ ItsC A w r o (k + 1)
end
section
variable {A : Nat → Prop}
mutual
theorem ItC.modA {S : Nat → Prop} {w w' : World} (M : Vcg.Mod S w w') (hS : ∀ b, S b → A b) : ∀ (x : It) {v1 v2 v3 : Value}, ItC A w x v1 v2 v3 → ItC A w' x v1 v2 v3
  | .s b, _, _, _, h => by
    simp only [ItC] at h ⊢
    obtain ⟨h1, ⟨o, c, h2, h3, h5⟩, h4⟩ := h
    refine ⟨h1, ⟨o, c, h2, ?_, h5⟩, h4⟩
    intro hne
    obtain ⟨d, f, ho, hd, hc⟩ := h3 hne
    exact ⟨d, f, ho, Nat.lt_of_lt_of_le hd M.size, fun i hi => (cell_mod M hd (fun hh => h5 hne _ ho (hS _ hh))).trans (hc i hi)⟩
  | .l xs, _, _, _, h => by
    simp only [ItC] at h ⊢
    obtain ⟨h1, h2, o, c, h3, h4⟩ := h
    exact ⟨h1, h2, o, c, h3, ItsC.modA M hS xs h4⟩
theorem ItsC.modA {S : Nat → Prop} {w w' : World} (M : Vcg.Mod S w w') (hS : ∀ b, S b → A b) : ∀ (xs : List It) {o : Option Addr} {k : Nat}, ItsC A w xs o k → ItsC A w' xs o k
  | [], _, _, _ => by simp only [ItsC]
  | x :: r, _, _, h => by
    simp only [ItsC] at h ⊢
    obtain ⟨⟨b, f, v1, v2, v3, ho, hb, hA, h1, h2, h3, h4⟩, h5⟩ := h
    exact ⟨⟨b, f, v1, v2, v3, ho, Nat.lt_of_lt_of_le hb M.size, hA, (cell_mod M hb (fun h => hA (hS _ h))).trans h1, (cell_mod M hb (fun h => hA (hS _ h))).trans h2, (cell_mod M hb (fun h => hA (hS _ h))).trans h3, ItC.modA M hS x h4⟩, ItsC.modA M hS r h5⟩
end
theorem ItC.mod {w w' : World} (M : Vcg.Mod NoB w w') (x : It) {v1 v2 v3 : Value} (h : ItC A w x v1 v2 v3) : ItC A w' x v1 v2 v3 := ItC.modA M (fun _ h => h.elim) x h
theorem ItsC.mod {w w' : World} (M : Vcg.Mod NoB w w') (xs : List It) {o : Option Addr} {k : Nat} (h : ItsC A w xs o k) : ItsC A w' xs o k := ItsC.modA M (fun _ h => h.elim) xs h
mutual
theorem ItC.mono {A' : Nat → Prop} {w : World} (hA : ∀ b, A' b → A b) : ∀ (x : It) {v1 v2 v3 : Value}, ItC A w x v1 v2 v3 → ItC A' w x v1 v2 v3
  | .s b, _, _, _, h => by
    simp only [ItC] at h ⊢
    obtain ⟨h1, ⟨o, c, h2, h3, h5⟩, h4⟩ := h
    exact ⟨h1, ⟨o, c, h2, h3, fun hne d hd hh => h5 hne d hd (hA _ hh)⟩, h4⟩
  | .l xs, _, _, _, h => by
    simp only [ItC] at h ⊢
    obtain ⟨h1, h2, o, c, h3, h4⟩ := h
    exact ⟨h1, h2, o, c, h3, ItsC.mono hA xs h4⟩
theorem ItsC.mono {A' : Nat → Prop} {w : World} (hA : ∀ b, A' b → A b) : ∀ (xs : List It) {o : Option Addr} {k : Nat}, ItsC A w xs o k → ItsC A' w xs o k
  | [], _, _, _ => by simp only [ItsC]
  | x :: r, _, _, h => by
    simp only [ItsC] at h ⊢
    obtain ⟨⟨b, f, v1, v2, v3, ho, hb, hB, h1, h2, h3, h4⟩, h5⟩ := h
    exact ⟨⟨b, f, v1, v2, v3, ho, hb, fun hh => hB (hA _ hh), h1, h2, h3, ItC.mono hA x h4⟩, ItsC.mono hA r h5⟩
end
theorem ItsC.get {w : World} : ∀ {xs : List It} {o : Option Addr} {k : Nat}, ItsC A w xs o k → ∀ (j : Nat) (hj : j < xs.length), ∃ b f v1 v2 v3, o = some ⟨b, f, none⟩ ∧ b < w.heap.size ∧ w.cell? ⟨b, f + (k + j) * 3, none⟩ = some v1 ∧ w.cell? ⟨b, f + (k + j) * 3 + 1, none⟩ = some v2 ∧ w.cell? ⟨b, f + (k + j) * 3 + 2, none⟩ = some v3 ∧ ItC A w xs[j] v1 v2 v3
  | x :: r, o, k, h, 0, _ => by
    simp only [ItsC] at h
    obtain ⟨⟨b, f, v1, v2, v3, ho, hb, hB, hr⟩, _⟩ := h
    exact ⟨b, f, v1, v2, v3, ho, hb, hr⟩
  | x :: r, o, k, h, j + 1, hj => by
    simp only [ItsC] at h
    have := h.2.get j (by simpa using hj)
    rw [show k + 1 + j = k + (j + 1) by omega] at this
    exact this
theorem ItC.vals {w : World} {x : It} {v1 v2 v3 : Value} (h : ItC A w x v1 v2 v3) : ∃ b o1 l1 c1 o2 l2 c2, v1 = .bool b ∧ v2 = .slice o1 l1 c1 ∧ v3 = .slice o2 l2 c2 := by
  cases x with
  | s b =>
    simp only [ItC] at h
    obtain ⟨h1, ⟨o, c, h2, h3⟩, h4⟩ := h
    exact ⟨_, _, _, _, _, _, _, h1, h2, h4⟩
  | l xs =>
    simp only [ItC] at h
    obtain ⟨h1, h2, o, c, h3, h4⟩ := h
    exact ⟨_, _, _, _, _, _, _, h1, h2, h3⟩

theorem text_calls {w : World} {o : Option Addr} {k : Nat} {b : List UInt8} (h : RdB w o b) (hA : b ≠ [] → ∀ d, o = some d → ¬ A d.block) :
    Calls Try.prog trie_text.n #[.slice o b.length k] w (fun e w' => ∃ v1 v2 v3, e = .returned (.agg #[v1, v2, v3]) ∧ ItC A w' (.s b) v1 v2 v3 ∧ Vcg.Mod NoB w w') := by
  refine trie_text.vc _ _ _ _ _ ?_
  unfold trie_text.Vc
  rintro d w1 ⟨rfl, rfl⟩
  have X := Blk.new w 138 #[.bool false, .slice none 0 0, .slice none 0 0]
  have M := Mod.alloc (S := NoB) w (.cells #[.bool false, .slice none 0 0, .slice none 0 0] 138)
  simp only [add_at, Nat.zero_add]
  refine ⟨X.canSet (by simp) rfl, ?_⟩
  rintro _ rfl
  have X1 := X.set 0 (.bool false)
  have M1 := M.step_set (a := ⟨w.heap.size, 0, none⟩) (v := .bool false) (fun h => (Nat.lt_irrefl _ h).elim)
  refine ⟨X1.canSet (by simp) rfl, ?_⟩
  rintro _ rfl
  have X2 := X1.set 1 (.slice o b.length k)
  have M2 := M1.step_set (a := ⟨w.heap.size, 1, none⟩) (v := .slice o b.length k) (fun h => (Nat.lt_irrefl _ h).elim)
  refine ⟨X2.canSet (by simp) rfl, ?_⟩
  rintro _ rfl
  have X3 := X2.set 2 (.slice none 0 0)
  have M3 := M2.step_set (a := ⟨w.heap.size, 2, none⟩) (v := .slice none 0 0) (fun h => (Nat.lt_irrefl _ h).elim)
  refine ⟨_, _, _, _, _, _, _, X3.rd1 rfl, X3.rd1 rfl, X3.rd1 rfl, _, _, _, rfl, ?_, M3⟩
  simp only [ItC]
  exact ⟨trivial, ⟨o, k, rfl, h.mod' M3, hA⟩, trivial⟩
theorem list_calls {w : World} {o : Option Addr} {k : Nat} {xs : List It} (h : ItsC A w xs o 0) :
    Calls Try.prog trie_list.n #[.slice o xs.length k] w (fun e w' => ∃ v1 v2 v3, e = .returned (.agg #[v1, v2, v3]) ∧ ItC A w' (.l xs) v1 v2 v3 ∧ Vcg.Mod NoB w w') := by
  refine trie_list.vc _ _ _ _ _ ?_
  unfold trie_list.Vc
  rintro d w1 ⟨rfl, rfl⟩
  have X := Blk.new w 138 #[.bool false, .slice none 0 0, .slice none 0 0]
  have M := Mod.alloc (S := NoB) w (.cells #[.bool false, .slice none 0 0, .slice none 0 0] 138)
  simp only [add_at, Nat.zero_add]
  refine ⟨X.canSet (by simp) rfl, ?_⟩
  rintro _ rfl
  have X1 := X.set 0 (.bool true)
  have M1 := M.step_set (a := ⟨w.heap.size, 0, none⟩) (v := .bool true) (fun h => (Nat.lt_irrefl _ h).elim)
  refine ⟨X1.canSet (by simp) rfl, ?_⟩
  rintro _ rfl
  have X2 := X1.set 1 (.slice none 0 0)
  have M2 := M1.step_set (a := ⟨w.heap.size, 1, none⟩) (v := .slice none 0 0) (fun h => (Nat.lt_irrefl _ h).elim)
  refine ⟨X2.canSet (by simp) rfl, ?_⟩
  rintro _ rfl
  have X3 := X2.set 2 (.slice o xs.length k)
  have M3 := M2.step_set (a := ⟨w.heap.size, 2, none⟩) (v := .slice o xs.length k) (fun h => (Nat.lt_irrefl _ h).elim)
  refine ⟨_, _, _, _, _, _, _, X3.rd1 rfl, X3.rd1 rfl, X3.rd1 rfl, _, _, _, rfl, ?_, M3⟩
  simp only [ItC]
  exact ⟨trivial, trivial, o, k, rfl, ItsC.mod M3 xs h⟩
theorem encs_append : ∀ (xs ys : List It), encs (xs ++ ys) = encs xs ++ encs ys
  | [], ys => by simp only [encs, List.nil_append]
  | x :: r, ys => by simp only [encs, List.cons_append, encs_append r ys, List.append_assoc]
theorem encs_take_le (xs : List It) (j : Nat) : (encs (xs.take j)).length ≤ (encs xs).length := by
  have := congrArg List.length (congrArg encs (List.take_append_drop j xs))
  rw [encs_append, List.length_append] at this
  omega
theorem head_len (n b : Nat) : 1 ≤ (Trie.head n b).length ∧ (Trie.head n b).length ≤ 9 := by
  have := digits_le n
  unfold Trie.head
  split <;> simp <;> omega
theorem put_calls : ∀ (x : It) {w : World} {b : Bool} {o1 : Option Addr} {l1 c1 : Nat} {o2 : Option Addr} {l2 c2 : Nat}, ItC A w x (.bool b) (.slice o1 l1 c1) (.slice o2 l2 c2) → (enc x).length ≤ 2 ^ 20 →
    Calls Try.prog rlp_put.n #[.agg #[.bool b, .slice o1 l1 c1, .slice o2 l2 c2]] w (fun e w' => ∃ o k, e = .returned (.slice o (enc x).length k) ∧ Fresh w w' tU8 1 o (enc x).length k ((enc x).map bV))
  | .s bs, w, b, o1, l1, c1, o2, l2, c2, h, hlen => by
    simp only [ItC, Value.bool.injEq, Value.slice.injEq] at h
    obtain ⟨rfl, ⟨o, c, ⟨rfl, rfl, rfl⟩, hr, _⟩, rfl, rfl, rfl⟩ := h
    refine calls_gen fun R hR => rlp_put.vc _ _ _ _ _ _ _ _ _ ?_
    unfold rlp_put.Vc
    rintro d w1 ⟨rfl, rfl⟩
    have X := Blk.new w 138 #[.bool false, .slice o1 bs.length c1, .slice none 0 0]
    have M := Mod.alloc (S := NoB) w (.cells #[.bool false, .slice o1 bs.length c1, .slice none 0 0] 138)
    have hr1 := hr.mod' M
    generalize w.alloc (.cells #[.bool false, .slice o1 bs.length c1, .slice none 0 0] 138) = w1 at *
    simp only [add_at, Nat.zero_add]
    refine ⟨_, X.rd1 rfl, fun _ => ⟨_, _, _, X.rd1 rfl, ?_⟩, fun h => by cases h⟩
    refine (own_calls hr1).mono ?_
    rintro _ w2 ⟨rfl, rfl⟩
    simp only [enc] at hlen hR
    refine ⟨_, rfl, fun ho => ⟨_, _, _, X.rd1 rfl, ?_⟩, fun ho => ?_⟩
    · rw [if_pos ho] at hR hlen
      refine (Clone_calls hr1 (by omega)).mono ?_
      rintro _ w3 ⟨o3, k3, rfl, F3⟩
      exact ⟨_, _, _, rfl, hR _ _ ⟨o3, k3, rfl, Fresh.from_ F3 M⟩⟩
    · rw [if_neg (by rw [ho]; simp), List.length_append] at hlen
      rw [if_neg (by rw [ho]; simp)] at hR
      rintro _ rfl
      have MD := M.step_drew
      have X2 := X.mod' (Mod.drew (S := NoB) w2)
      have hr2 := hr1.mod' (Mod.drew (S := NoB) w2)
      generalize w2.drew = w3 at *
      refine ⟨_, _, _, X2.rd1 rfl, _, _, _, X2.rd1 rfl, ?_⟩
      refine (head_calls bs.length 128 (by omega) (by omega)).mono ?_
      rintro _ w4 ⟨o4, k4, rfl, F4⟩
      obtain ⟨o5, k5, w5, hr5, F5⟩ := push_bytes (ty := tSlU8) (k2 := c1) F4 (hr2.mod' F4.mod) (by omega)
      refine ⟨_, _, _, rfl, (X2.mod' F4.mod).rd1 rfl, _, w5, hr5, _, _, _, rfl, hR _ _ ⟨o5, k5, ?_, ?_⟩⟩
      · rw [List.length_append]
      · rw [List.length_append]; exact Fresh.from_ F5 MD
  | .l xs, w, b, o1, l1, c1, o2, l2, c2, h, hlen => by
    have ih : ∀ y ∈ xs, ∀ {w : World} {b : Bool} {o1 : Option Addr} {l1 c1 : Nat} {o2 : Option Addr} {l2 c2 : Nat}, ItC A w y (.bool b) (.slice o1 l1 c1) (.slice o2 l2 c2) → (enc y).length ≤ 2 ^ 20 →
      Calls Try.prog rlp_put.n #[.agg #[.bool b, .slice o1 l1 c1, .slice o2 l2 c2]] w (fun e w' => ∃ o k, e = .returned (.slice o (enc y).length k) ∧ Fresh w w' tU8 1 o (enc y).length k ((enc y).map bV)) :=
      fun y hy => put_calls y
    simp only [ItC, Value.bool.injEq, Value.slice.injEq] at h
    obtain ⟨rfl, ⟨rfl, rfl, rfl⟩, o, c, ⟨rfl, rfl, rfl⟩, hI⟩ := h
    refine calls_gen fun R hR => rlp_put.vc _ _ _ _ _ _ _ _ _ ?_
    unfold rlp_put.Vc
    rintro d w1 ⟨rfl, rfl⟩
    have X := Blk.new w 138 #[.bool true, .slice none 0 0, .slice o2 xs.length c2]
    have M := Mod.alloc (S := NoB) w (.cells #[.bool true, .slice none 0 0, .slice o2 xs.length c2] 138)
    have hI1 := ItsC.mod M xs hI
    generalize w.alloc (.cells #[.bool true, .slice none 0 0, .slice o2 xs.length c2] 138) = w1 at *
    simp only [add_at, Nat.zero_add]
    simp only [enc, List.length_append] at hlen
    simp only [enc] at hR
    refine ⟨_, X.rd1 rfl, fun h => (by cases h), fun _ => ⟨_, _, _, X.rd1 rfl, ?_⟩⟩
    refine ⟨fun o' l' k' i w' => ∃ j : Nat, i = (j : Int) ∧ j ≤ xs.length ∧ l' = (encs (xs.take j)).length ∧ Fresh w1 w' tU8 1 o' l' k' ((encs (xs.take j)).map bV), fun _ _ _ i _ => ((xs.length : Int) - i).toNat,
      ⟨0, rfl, Nat.zero_le _, by rw [List.take_zero]; simp only [encs]; rfl, by rw [List.take_zero]; simp only [encs]; exact Fresh.nil (Mod.refl w1) _ _⟩, ?_⟩
    have hxl : xs.length ≤ (encs xs).length := by
      clear hI hI1 hlen hR ih X M
      induction xs with
      | nil => simp
      | cons x r ihr =>
        have : 1 ≤ (enc x).length := by
          cases x with
          | s b =>
            simp only [enc]
            split
            · rename_i ho
              cases b with
              | nil => simp [own] at ho
              | cons a r => simp
            · rw [List.length_append]; have := (head_len b.length 128).1; omega
          | l ys => simp only [enc, List.length_append]; have := (head_len (encs ys).length 192).1; omega
        simp only [encs, List.length_append, List.length_cons]; omega
    rintro o' _ k' _ _ w2 ⟨j, rfl, hj, rfl, F⟩
    have hjle := encs_take_le xs j
    refine ⟨fun hlt => ?_, fun hge => ?_⟩
    · have hjl : j < xs.length := by omega
      obtain ⟨B, f, v1, v2, v3, rfl, hB, h1, h2, h3, hx⟩ := (ItsC.mod F.mod xs hI1).get j hjl
      obtain ⟨b, p1, q1, r1, p2, q2, r2, rfl, rfl, rfl⟩ := hx.vals
      have htk : encs (xs.take (j + 1)) = encs (xs.take j) ++ enc xs[j] := by
        rw [List.take_add_one, List.getElem?_eq_getElem hjl, encs_append]
        show _ ++ encs [xs[j]] = _
        simp only [encs, List.append_nil]
      have hle2 := encs_take_le xs (j + 1)
      rw [htk, List.length_append] at hle2
      rw [Nat.zero_add] at h1 h2 h3
      have ew : IntKind.wrap .i64 ((j : Int) + 1) = ((j + 1 : Nat) : Int) := by rw [wrap_i64_small (by omega) (by omega)]; omega
      rw [ew]
      refine ⟨_, rfl, by omega, _, _, _, _, _, _, _, by rw [add_at, Int.toNat_natCast]; exact h1, by rw [add_at, add_at, Int.toNat_natCast]; exact h2, by rw [add_at, add_at, Int.toNat_natCast]; exact h3, ?_⟩
      rintro d w3 ⟨rfl, rfl⟩
      have Y := Blk.new w2 138 #[.bool false, .slice none 0 0, .slice none 0 0]
      have N := Mod.alloc (S := NoB) w2 (.cells #[.bool false, .slice none 0 0, .slice none 0 0] 138)
      simp only [add_at, Nat.zero_add]
      refine ⟨Y.canSet (by simp) rfl, ?_⟩
      rintro _ rfl
      have Y1 := Y.set 0 (.bool b)
      have N1 := N.step_set (a := ⟨w2.heap.size, 0, none⟩) (v := .bool b) (fun h => (Nat.lt_irrefl _ h).elim)
      refine ⟨Y1.canSet (by simp) rfl, ?_⟩
      rintro _ rfl
      have Y2 := Y1.set 1 (.slice p1 q1 r1)
      have N2 := N1.step_set (a := ⟨w2.heap.size, 1, none⟩) (v := .slice p1 q1 r1) (fun h => (Nat.lt_irrefl _ h).elim)
      refine ⟨Y2.canSet (by simp) rfl, ?_⟩
      rintro _ rfl
      have Y3 := Y2.set 2 (.slice p2 q2 r2)
      have N3 := N2.step_set (a := ⟨w2.heap.size, 2, none⟩) (v := .slice p2 q2 r2) (fun h => (Nat.lt_irrefl _ h).elim)
      refine ⟨_, _, _, _, _, _, _, Y3.rd1 rfl, Y3.rd1 rfl, Y3.rd1 rfl, ?_⟩
      refine (ih _ (List.getElem_mem hjl) (ItC.mod N3 _ hx) (by omega)).mono ?_
      rintro _ w4 ⟨o4, k4, rfl, F4⟩
      obtain ⟨o5, k5, w5, hr5, F5⟩ := push_bytes (ty := tSlU8) (k2 := k4) ((F.mod' N3).mod' F4.mod) (fresh_bytes F4) (by omega)
      refine ⟨_, _, _, rfl, _, w5, hr5, _, _, _, rfl, ⟨j + 1, rfl, hjl, ?_, ?_⟩, by omega⟩
      · rw [htk, List.length_append]
      · rw [htk]; exact F5
    · obtain rfl : j = xs.length := by omega
      rw [List.take_length] at F ⊢
      refine (head_calls (encs xs).length 192 (by omega) (by omega)).mono ?_
      rintro _ w4 ⟨o4, k4, rfl, F4⟩
      have hhl := (head_len (encs xs).length 192).2
      obtain ⟨o5, k5, w5, hr5, F5⟩ := push_bytes (ty := tSlU8) (k2 := k') F4 ((fresh_bytes F).mod' F4.mod) (by omega)
      refine ⟨_, _, _, rfl, _, w5, hr5, _, _, _, rfl, hR _ _ ⟨o5, k5, ?_, ?_⟩⟩
      · rw [List.length_append]
      · rw [List.length_append]
        exact Fresh.from_ (Fresh.from_ F5 F.mod) M
  termination_by x => SizeOf.sizeOf x
  decreasing_by
    have := List.sizeOf_lt_of_mem hy
    simp; omega
end
end Go.Proofs.Ytfghidehlnfdiaa
end
