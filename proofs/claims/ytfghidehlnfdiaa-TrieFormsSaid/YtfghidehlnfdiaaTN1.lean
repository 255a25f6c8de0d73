/- Contracts: a node behind nibbles. -/
/- Contracts: items of nodes. -/
/- Contracts: a node's bytes, its reference; a row's item. -/
/- Contracts: a row's item. -/
/- Rows of items that grow; a branch's item. -/
/- Contracts: a branch's item; the items of all nodes. -/
/- Nodes in memory under other labels; contracts: Get. -/
/- Contracts: put. -/
/- Contracts: put. -/
/- The verification conditions of some functions, printed by a program of ours (wip/PrintVc.lean). -/
/- Contracts: collapsed. -/
/- Contracts: remove, pruned. -/
/- Hashes as keys of maps; rows of nodes with their hashes. -/
import Derived.Test.YtfghidehlnfdiaaTP8
import Derived.Test.YtfghidehlnfdiaaTV
import Derived.Test.YtfghidehlnfdiaaProg
import Derived.KernelRfl
import Derived.Test.YtfghidehlnfdiaaXGrow
import Derived.Maps.Keyed
import Derived.DeepKeys5
section
set_option linter.unusedVariables false
set_option linter.unusedSimpArgs false
namespace Go.Proofs.Ytfghidehlnfdiaa
open Go Go.Vcg Go.Trie
section
variable {C : Type} {S : C → Prop} {w w1 w' : World} {lab lab' : Nat → C} {c : C}
theorem fresh_cby {o : Option Addr} {l k : Nat} {bs : List UInt8} (F : Fresh w w1 tU8 1 o l k (bs.map bV)) (M : Vcg.Mod NoB w1 w') : CBy w' (ext lab w.heap.size c) c o bs :=
  ⟨F.own.bytes.mod' M, fun hne d hd => ext_new (F.new d.block ⟨d, hd, rfl⟩)⟩
theorem new_cb (M : Vcg.Mod NoB w w1) (t : TypeId) (cs : Array Value) : CB (w1.alloc (.cells cs t)) (ext lab w.heap.size c) c w1.heap.size t cs := ⟨Blk.new w1 t cs, ext_new M.size⟩
abbrev NoS {C : Type} : C → Prop := fun _ => False
/-- A path's length. -/
def plen : Nd → Nat
  | .leaf p _ => p.length
  | .row p _ => p.length
  | _ => 0
theorem plen_small {n : Nd} (h : Small n) : plen n ≤ 128 := by
  cases n with
  | nil => simp [plen]
  | leaf p v => exact h.1
  | row p k => exact h.1
  | branch cs v => simp [plen]
theorem rowed_calls {n : Nd} {v : Value} {o : Option Addr} {k : Nat} {p : By} (h : NodeAt w lab c n v) (hs : plen n ≤ 128) (hp : CBy w lab c o p) (hk : p.length ≤ k) (hl : p.length ≤ 2 ^ 30) :
    Calls Try.prog trie_rowed.n #[.slice o p.length k, v] w (fun e w' => ∃ v' lab', e = .returned v' ∧ Stp NoS w lab w' lab' ∧ NodeAt w' lab' c (rowed p n) v') := by
  refine calls_gen fun R hR => trie_rowed.vc _ _ _ _ _ _ ?_
  unfold trie_rowed.Vc
  refine ⟨fun h0 => ?_, fun h0 => ?_⟩
  · have hp0 : p = [] := List.eq_nil_of_length_eq_zero (by omega)
    subst hp0
    exact hR _ _ ⟨v, lab, rfl, Stp.refl _ _ _, by unfold rowed; rw [if_pos rfl]; exact h⟩
  have hpne : p ≠ [] := by rintro rfl; simp at h0
  have mkrow : v.oneCell' = true → (∀ v', NodeAt w lab c n v → rowed p n = .row p n) → R (.returned (.iface tPRow (.pointer (some ⟨w.heap.size, 0, none⟩)))) (w.alloc (.cells #[.slice o p.length k, v] tRow)) := fun _ hrow => by
    have M := Mod.alloc (S := NoB) w (.cells #[.slice o p.length k, v] tRow)
    have s : Stp NoS w lab (w.alloc (.cells #[.slice o p.length k, v] tRow)) (ext lab w.heap.size c) := Stp.of_nob M _
    refine hR _ _ ⟨_, _, rfl, s, ?_⟩
    rw [hrow v h]
    exact ⟨_, o, k, v, rfl, new_cb (Mod.refl w) _ _, hp.stp s (fun h => h), hk, h.stp s (fun h => h)⟩
  have hone := h.one
  cases n with
  | nil =>
    have h' := h
    cases h'
    refine ⟨_, ask_nil und_pleaf zero_pleaf w, _, _, rfl, fun h => (by cases h), fun _ => ⟨_, ask_nil und_prow zero_prow w, _, _, rfl, fun h => (by cases h), fun _ => ⟨hone, ?_⟩⟩⟩
    rintro d w2 ⟨rfl, rfl⟩
    exact mkrow hone (fun _ _ => by unfold rowed; rw [if_neg hpne])
  | branch cs x =>
    have h' := h
    obtain ⟨b, vs, ov, cv, rfl, _⟩ := h'
    refine ⟨_, ask_no und_pleaf zero_pleaf (by decide) w, _, _, rfl, fun h => (by cases h), fun _ => ⟨_, ask_no und_prow zero_prow (by decide) w, _, _, rfl, fun h => (by cases h), fun _ => ⟨hone, ?_⟩⟩⟩
    rintro d w2 ⟨rfl, rfl⟩
    exact mkrow hone (fun _ _ => by unfold rowed; rw [if_neg hpne])
  | leaf q x =>
    obtain ⟨b, oq, cq, ox, cx, rfl, B, hq, hqc, hx⟩ := h
    refine ⟨_, ask_yes und_pleaf w, _, _, rfl, fun _ => ?_, fun h => by cases h⟩
    rintro _ rfl
    have MD := Mod.drew (S := NoB) w
    have B1 := B.blk.mod' MD
    have hp1 := hp.rd.mod' MD
    have hq1 := hq.rd.mod' MD
    have hx1 := hx.rd.mod' MD
    generalize w.drew = w1 at *
    simp only [Option.some.injEq, exists_eq_left', add_at, Nat.zero_add]
    refine ⟨_, _, _, B1.rd1 rfl, _, _, _, B1.rd1 rfl, ?_⟩
    refine (Clone_calls hp1 (by omega)).mono ?_
    rintro _ w2 ⟨o2, k2, rfl, F2⟩
    have B2 := B1.mod' F2.mod
    have hsm : q.length ≤ 128 := hs
    obtain ⟨o3, k3, w3, hr3, F3⟩ := push_bytes (ty := tSlU8) (k2 := cq) F2 (hq1.mod' F2.mod) (by omega)
    have M3 := MD.trans F3.mod (fun _ _ h => h)
    have B3 : Blk w3 b tLeaf #[.slice oq q.length cq, .slice ox x.length cx] := B1.mod' F3.mod
    refine ⟨_, _, _, rfl, B2.rd1 rfl, B2.rd1 rfl, _, w3, hr3, _, _, _, rfl, B3.rd1 rfl, ?_⟩
    rintro d w4 ⟨rfl, rfl⟩
    have M4 := M3.step_alloc (.cells #[.slice o3 (p.length + q.length) k3, .slice ox x.length cx] 177)
    have s : Stp NoS w lab (w3.alloc (.cells #[.slice o3 (p.length + q.length) k3, .slice ox x.length cx] 177)) (ext lab w.heap.size c) := Stp.of_nob M4 _
    refine hR _ _ ⟨_, _, rfl, s, ?_⟩
    have hrw : rowed p (.leaf q x) = .leaf (p ++ q) x := by unfold rowed; rw [if_neg hpne]
    rw [hrw]
    have hcap := F3.own.cap.1
    refine ⟨w3.heap.size, o3, k3, ox, cx, rfl, ?_, fresh_cby (Fresh.from_ F3 MD) (Mod.alloc _ _), by rw [List.length_append]; exact hcap, hx.stp s (fun h => h)⟩
    rw [List.length_append]
    exact new_cb M3 _ _
  | row q kid =>
    obtain ⟨b, oq, cq, vk, rfl, B, hq, hqc, hkid⟩ := h
    have honek := hkid.one
    refine ⟨_, ask_no und_pleaf zero_pleaf (by decide) w, _, _, rfl, fun h => (by cases h), fun _ => ⟨_, ask_yes und_prow w, _, _, rfl, fun _ => ?_, fun h => by cases h⟩⟩
    rintro _ rfl
    have MD := Mod.drew (S := NoB) w
    have B1 := B.blk.mod' MD
    have hp1 := hp.rd.mod' MD
    have hq1 := hq.rd.mod' MD
    generalize w.drew = w1 at *
    simp only [Option.some.injEq, exists_eq_left', add_at, Nat.zero_add]
    refine ⟨_, _, _, B1.rd1 rfl, _, B1.rd1 rfl, ?_⟩
    refine (Clone_calls hp1 (by omega)).mono ?_
    rintro _ w2 ⟨o2, k2, rfl, F2⟩
    have B2 := B1.mod' F2.mod
    have hsm : q.length ≤ 128 := hs
    obtain ⟨o3, k3, w3, hr3, F3⟩ := push_bytes (ty := tSlU8) (k2 := cq) F2 (hq1.mod' F2.mod) (by omega)
    have M3 := MD.trans F3.mod (fun _ _ h => h)
    have B3 : Blk w3 b tRow #[.slice oq q.length cq, vk] := B1.mod' F3.mod
    refine ⟨_, _, _, rfl, B2.rd1 rfl, B2.rd1 rfl, _, w3, hr3, _, _, _, rfl, B3.rd1 rfl, honek, ?_⟩
    rintro d w4 ⟨rfl, rfl⟩
    have M4 := M3.step_alloc (.cells #[.slice o3 (p.length + q.length) k3, vk] 154)
    have s : Stp NoS w lab (w3.alloc (.cells #[.slice o3 (p.length + q.length) k3, vk] 154)) (ext lab w.heap.size c) := Stp.of_nob M4 _
    refine hR _ _ ⟨_, _, rfl, s, ?_⟩
    have hrw : rowed p (.row q kid) = .row (p ++ q) kid := by unfold rowed; rw [if_neg hpne]
    rw [hrw]
    have hcap := F3.own.cap.1
    refine ⟨w3.heap.size, o3, k3, vk, rfl, ?_, fresh_cby (Fresh.from_ F3 MD) (Mod.alloc _ _), by rw [List.length_append]; exact hcap, hkid.stp s (fun h => h)⟩
    rw [List.length_append]
    exact new_cb M3 _ _
end
end Go.Proofs.Ytfghidehlnfdiaa
end

section
set_option linter.unusedVariables false
set_option linter.unusedSimpArgs false
namespace Go.Proofs.Ytfghidehlnfdiaa
open Go Go.Vcg Go.Trie
/-- The blocks made from one world to another. -/
def Btw (w0 w : World) (b : Nat) : Prop := w0.heap.size ≤ b ∧ b < w.heap.size
section
variable {C : Type} {S : C → Prop} {w0 w w1 w' : World} {lab lab' : Nat → C} {c : C}
theorem off_old {w2 : World} {o : Option Addr} {b : By} (h : RdB w0 o b) : b ≠ [] → ∀ d, o = some d → ¬ Btw w0 w2 d.block := by
  intro hne d hd hh
  obtain ⟨e, f, ho, he, _⟩ := h hne
  rw [ho] at hd
  cases hd
  exact absurd hh.1 (Nat.not_le.2 he)
theorem off_new {w2 w3 : World} {ty : TypeId} {s : Nat} {o : Option Addr} {l k : Nat} {vs : List Value} (F : Fresh w2 w3 ty s o l k vs) {w1 : World} (h : w1.heap.size ≤ w2.heap.size) : ∀ d, o = some d → ¬ Btw w0 w1 d.block := by
  intro d hd hh
  have := F.new d.block ⟨d, hd, rfl⟩
  exact absurd hh.2 (by omega)
/-- An item handed over by way of the function's own three cells. -/
theorem ret3 {A A' : Nat → Prop} {N : Nat} {x : It} {v1 v2 v3 a b d : Value} {R : Ending → World → Prop} (X : Blk w N 138 #[a, b, d]) (hI : ItC A w x v1 v2 v3) (hN : A N) (hA : ∀ b, A' b → A b)
    (hR : ∀ w', Vcg.Mod (· = N) w w' → ItC A' w' x v1 v2 v3 → R (.returned (.agg #[v1, v2, v3])) w') :
    CanSet w ⟨N, 0, none⟩ v1 ∧ ∀ w1 : World, IsSet w ⟨N, 0, none⟩ v1 w1 → CanSet w1 ⟨N, 1, none⟩ v2 ∧ ∀ w2 : World, IsSet w1 ⟨N, 1, none⟩ v2 w2 → CanSet w2 ⟨N, 2, none⟩ v3 ∧ ∀ w3 : World, IsSet w2 ⟨N, 2, none⟩ v3 w3 →
      ∃ b6 : Bool, ∃ o7 : Option Addr, ∃ l8 : Nat, ∃ l9 : Nat, ∃ o10 : Option Addr, ∃ l11 : Nat, ∃ l12 : Nat, World.cell? w3 ⟨N, 0, none⟩ = some (.bool b6) ∧ World.cell? w3 ⟨N, 1, none⟩ = some (.slice o7 l8 l9) ∧ World.cell? w3 ⟨N, 2, none⟩ = some (.slice o10 l11 l12) ∧
      R (.returned (.agg #[(.bool b6), (.slice o7 l8 l9), (.slice o10 l11 l12)])) w3 := by
  obtain ⟨b7, p7, q7, r7, p8, q8, r8, rfl, rfl, rfl⟩ := hI.vals
  refine ⟨X.canSet (by simp) rfl, ?_⟩
  rintro _ rfl
  have X7 := X.set 0 (.bool b7)
  have Q7 : Vcg.Mod (· = N) w _ := Mod.setCell w ⟨N, 0, none⟩ (.bool b7)
  refine ⟨X7.canSet (by simp) rfl, ?_⟩
  rintro _ rfl
  have X8 := X7.set 1 (.slice p7 q7 r7)
  have Q8 := Q7.step_set (a := ⟨N, 1, none⟩) (v := .slice p7 q7 r7) (fun _ => rfl)
  refine ⟨X8.canSet (by simp) rfl, ?_⟩
  rintro _ rfl
  have X9 := X8.set 2 (.slice p8 q8 r8)
  have Q9 := Q8.step_set (a := ⟨N, 2, none⟩) (v := .slice p8 q8 r8) (fun _ => rfl)
  exact ⟨_, _, _, _, _, _, _, X9.rd1 rfl, X9.rd1 rfl, X9.rd1 rfl, hR _ Q9 (ItC.mono hA x (ItC.modA Q9 (fun b h => by subst h; exact hN) x hI))⟩
theorem packed_calls {o : Option Addr} {k : Nat} {p : By} (hp : RdB w o p) (hl : p.length ≤ 2 ^ 30) (leaf : Bool) :
    Calls Try.prog trie_packed.n #[.slice o p.length k, .bool leaf] w (fun e w' => ∃ o' k', e = .returned (.slice o' (packed p leaf).length k') ∧ Fresh w w' tU8 1 o' (packed p leaf).length k' ((packed p leaf).map bV)) := by
  refine trie_packed.vc _ _ _ _ _ _ ?_
  unfold trie_packed.Vc
  refine (Pack_calls hp hl leaf).mono ?_
  rintro _ w1 ⟨o', k', rfl, F⟩
  exact ⟨_, _, _, _, rfl, o', k', rfl, F⟩
theorem leaf_item_calls {b : Nat} {op : Option Addr} {cp : Nat} {ov : Option Addr} {cv : Nat} {p x : By} (B : Blk w0 b tLeaf #[.slice op p.length cp, .slice ov x.length cv]) (hp : RdB w0 op p) (hx : RdB w0 ov x) (hl : p.length ≤ 2 ^ 30) (M0 : Vcg.Mod NoB w0 w) :
    Calls Try.prog trie_leaf_item.n #[.pointer (some ⟨b, 0, none⟩)] w (fun e w' => ∃ v1 v2 v3, e = .returned (.agg #[v1, v2, v3]) ∧ ItC (Btw w0 w) w' (itemOf (.leaf p x)) v1 v2 v3 ∧ Vcg.Mod NoB w w') := by
  refine calls_gen fun R hR => trie_leaf_item.vc _ _ _ ?_
  unfold trie_leaf_item.Vc
  rintro d1 w1 ⟨rfl, rfl⟩
  rintro _ rfl
  have X := (Blk.new w 138 #[.bool false, .slice none 0 0, .slice none 0 0]).mod' (Mod.drew (S := NoB) _)
  have M1 := (Mod.alloc (S := NoB) w (.cells #[.bool false, .slice none 0 0, .slice none 0 0] 138)).step_drew
  have hN : w.heap.size < (w.alloc (.cells #[.bool false, .slice none 0 0, .slice none 0 0] 138)).drew.heap.size := X.lt
  generalize (w.alloc (.cells #[.bool false, .slice none 0 0, .slice none 0 0] 138)).drew = w1 at *
  have M01 := M0.trans M1 (fun _ _ h => h)
  have B1 := B.mod' M01
  simp only [add_at, Nat.zero_add]
  refine ⟨_, _, _, B1.rd1 rfl, _, _, _, B1.rd1 rfl, ?_⟩
  refine (packed_calls (hp.mod' M01) hl true).mono ?_
  rintro _ w2 ⟨o2, k2, rfl, F2⟩
  have M2 := F2.mod
  have B2 := B1.mod' M2
  have M02 := M01.trans M2 (fun _ _ h => h)
  refine ⟨_, _, _, rfl, B2.rd1 rfl, ?_⟩
  refine (text_calls (A := Btw w0 w1) (fresh_bytes F2) (fun _ => off_new F2 (Nat.le_refl _))).mono ?_
  rintro _ w3 ⟨v1, v2, v3, rfl, hI3, M3⟩
  have M03 := M02.trans M3 (fun _ _ h => h)
  obtain ⟨b1, p1, q1, r1, p2, q2, r2, rfl, rfl, rfl⟩ := hI3.vals
  refine ⟨_, _, _, _, _, _, _, rfl, (B2.mod' M3).rd1 rfl, ?_⟩
  refine (text_calls (A := Btw w0 w1) (hx.mod' M03) (off_old hx)).mono ?_
  rintro _ w4 ⟨v4, v5, v6, rfl, hI4, M4⟩
  have M14 : Vcg.Mod NoB w1 w4 := (M2.trans M3 (fun _ _ h => h)).trans M4 (fun _ _ h => h)
  obtain ⟨b4, p4, q4, r4, p5, q5, r5, rfl, rfl, rfl⟩ := hI4.vals
  refine ⟨_, _, _, _, _, _, _, rfl, ?_⟩
  rintro d33 w5 ⟨rfl, rfl⟩
  have Y := Blk.new w4 138 #[.bool b1, .slice p1 q1 r1, .slice p2 q2 r2, .bool b4, .slice p4 q4 r4, .slice p5 q5 r5]
  have M5 := Mod.alloc (S := NoB) w4 (.cells #[.bool b1, .slice p1 q1 r1, .slice p2 q2 r2, .bool b4, .slice p4 q4 r4, .slice p5 q5 r5] 138)
  have hI3' := ItC.mod (M4.trans M5 (fun _ _ h => h)) _ hI3
  have hI4' := ItC.mod M5 _ hI4
  have hY : ¬ Btw w0 w1 w4.heap.size := fun h => absurd h.2 (by have := M14.size; omega)
  have hIts : ItsC (Btw w0 w1) (w4.alloc (.cells #[.bool b1, .slice p1 q1 r1, .slice p2 q2 r2, .bool b4, .slice p4 q4 r4, .slice p5 q5 r5] 138)) [.s (packed p true), .s x] (some ⟨w4.heap.size, 0, none⟩) 0 := by
    simp only [ItsC]
    exact ⟨⟨_, 0, _, _, _, rfl, Y.lt, hY, Y.rd1 rfl, Y.rd1 rfl, Y.rd1 rfl, hI3'⟩, ⟨_, 0, _, _, _, rfl, Y.lt, hY, Y.rd1 rfl, Y.rd1 rfl, Y.rd1 rfl, hI4'⟩, trivial⟩
  refine (list_calls hIts (Nat.le_refl 2)).mono ?_
  rintro _ w6 ⟨v7, v8, v9, rfl, hI6, M6⟩
  have M16 : Vcg.Mod NoB w1 w6 := M14.trans (M5.trans M6 (fun _ _ h => h)) (fun _ _ h => h)
  have X6 := X.mod' M16
  have hret := ret3 (A' := Btw w0 w) (R := R) X6 hI6 ⟨M0.size, hN⟩ (fun b h => ⟨h.1, Nat.lt_trans h.2 hN⟩) (fun w7 Q hI7 => hR _ _ ⟨_, _, _, rfl, hI7, mod_of (M1.trans M16 (fun _ _ h => h)) Q (Nat.le_refl _)⟩)
  obtain ⟨b7, p7, q7, r7, p8, q8, r8, rfl, rfl, rfl⟩ := hI6.vals
  exact ⟨_, _, _, _, _, _, _, rfl, hret⟩
end
end Go.Proofs.Ytfghidehlnfdiaa
end

section
set_option linter.unusedVariables false
set_option linter.unusedSimpArgs false
namespace Go.Proofs.Ytfghidehlnfdiaa
open Go Go.Vcg Go.Trie
section
variable {C : Type} {S : C → Prop} {w0 w w1 w' : World} {lab lab' : Nat → C} {c : C}
/-- What a node's method 'item' is to do. -/
def ItemAt (lab : Nat → C) (c : C) (n : Nd) : Prop := ∀ (w0 w : World) (v : Value), NodeAt w0 lab c n v → Vcg.Mod NoB w0 w → v ≠ .nilIface →
  CallsM Try.prog v "moraine/trie.item" #[] w (fun e w' => ∃ v1 v2 v3, e = .returned (.agg #[v1, v2, v3]) ∧ ItC (Btw w0 w) w' (itemOf n) v1 v2 v3 ∧ Vcg.Mod NoB w w')
def RefAt (lab : Nat → C) (c : C) (n : Nd) : Prop := ∀ (w0 w : World) (v : Value), NodeAt w0 lab c n v → Vcg.Mod NoB w0 w →
  Calls Try.prog trie_reference.n #[v] w (fun e w' => ∃ v1 v2 v3, e = .returned (.agg #[v1, v2, v3]) ∧ ItC (Btw w0 w) w' (refOf n) v1 v2 v3 ∧ Vcg.Mod NoB w w')
theorem callsM_mono {P : Program} {v : Value} {m : String} {args : Array Value} {w : World} {R R' : Ending → World → Prop} (h : CallsM P v m args w R) (hR : ∀ e w', R e w' → R' e w') : CallsM P v m args w R' := by
  obtain ⟨t, x, f, recv, h1, h2, h3, h4⟩ := h
  exact ⟨t, x, f, recv, h1, h2, h3, h4.mono hR⟩
theorem encoded_of {n : Nd} (hI : ItemAt lab c n) (hc : Canon n) (hs : Small n) {v : Value} (h : NodeAt w0 lab c n v) (M : Vcg.Mod NoB w0 w) (hv : v ≠ .nilIface) :
    Calls Try.prog trie_encoded.n #[v] w (fun e w' => ∃ o k, e = .returned (.slice o (bytesOf n).length k) ∧ Fresh w w' tU8 1 o (bytesOf n).length k ((bytesOf n).map bV)) := by
  refine trie_encoded.vc _ _ _ ?_
  unfold trie_encoded.Vc
  refine callsM_mono (hI w0 w v h M hv) ?_
  rintro _ w1 ⟨v1, v2, v3, rfl, hI1, M1⟩
  have h1 := bytes_le hs
  have h2 := count_le_enc (itemOf n)
  have h3 := dep_item hc
  have hE := Encode_calls hI1 (by omega) (by simp only [bytesOf] at h1; omega) (by simp only [bytesOf] at h1; omega)
  obtain ⟨b4, p4, q4, r4, p5, q5, r5, rfl, rfl, rfl⟩ := hI1.vals
  refine ⟨_, _, _, _, _, _, _, rfl, hE.mono ?_⟩
  rintro _ w2 ⟨o, k, rfl, F⟩
  exact ⟨_, _, _, _, rfl, o, k, rfl, Fresh.from_ F M1⟩
theorem reference_of {n : Nd} (hI : n ≠ .nil → ItemAt lab c n) (hc : Canon n) (hs : Small n) : RefAt lab c n := by
  intro w0 w v h M0
  refine calls_gen fun R hR => trie_reference.vc _ _ _ ?_
  unfold trie_reference.Vc
  rintro d1 w1 ⟨rfl, rfl⟩
  have X := Blk.new w 138 #[.bool false, .slice none 0 0, .slice none 0 0]
  have M1 := Mod.alloc (S := NoB) w (.cells #[.bool false, .slice none 0 0, .slice none 0 0] 138)
  have hN : w.heap.size < (w.alloc (.cells #[.bool false, .slice none 0 0, .slice none 0 0] 138)).heap.size := X.lt
  generalize w.alloc (.cells #[.bool false, .slice none 0 0, .slice none 0 0] 138) = w1 at *
  have M01 := M0.trans M1 (fun _ _ h => h)
  simp only [add_at, Nat.zero_add]
  have fin : ∀ {w6 : World} {x : It} {v1 v2 v3 : Value}, x = refOf n → Vcg.Mod NoB w1 w6 → ItC (Btw w0 w1) w6 x v1 v2 v3 → CanSet w6 ⟨w.heap.size, 0, none⟩ v1 ∧ ∀ w2 : World, IsSet w6 ⟨w.heap.size, 0, none⟩ v1 w2 → CanSet w2 ⟨w.heap.size, 1, none⟩ v2 ∧ ∀ w3 : World, IsSet w2 ⟨w.heap.size, 1, none⟩ v2 w3 → CanSet w3 ⟨w.heap.size, 2, none⟩ v3 ∧ ∀ w4 : World, IsSet w3 ⟨w.heap.size, 2, none⟩ v3 w4 →
      ∃ b6 : Bool, ∃ o7 : Option Addr, ∃ l8 : Nat, ∃ l9 : Nat, ∃ o10 : Option Addr, ∃ l11 : Nat, ∃ l12 : Nat, World.cell? w4 ⟨w.heap.size, 0, none⟩ = some (.bool b6) ∧ World.cell? w4 ⟨w.heap.size, 1, none⟩ = some (.slice o7 l8 l9) ∧ World.cell? w4 ⟨w.heap.size, 2, none⟩ = some (.slice o10 l11 l12) ∧
      R (.returned (.agg #[(.bool b6), (.slice o7 l8 l9), (.slice o10 l11 l12)])) w4 := by
    intro w6 x v1 v2 v3 hx M6 hI6
    subst hx
    exact ret3 (A' := Btw w0 w) (R := R) (X.mod' M6) hI6 ⟨M0.size, hN⟩ (fun b h => ⟨h.1, Nat.lt_trans h.2 hN⟩) (fun w7 Q hI7 => hR _ _ ⟨_, _, _, rfl, hI7, mod_of (M1.trans M6 (fun _ _ h => h)) Q (Nat.le_refl _)⟩)
  by_cases hnil : n = .nil
  · subst hnil
    cases h
    left
    refine ⟨rfl, fin (x := .s []) (by unfold refOf wrapRef; rw [if_neg (by simp [itemOf, enc, own, Trie.head])]; rfl) (Mod.refl _) ?_⟩
    simp only [ItC]
    exact ⟨trivial, ⟨none, 0, rfl, RdB.nil _ _, fun h => (h rfl).elim⟩, trivial⟩
  · right
    have hI := hI hnil
    have hv : v ≠ .nilIface ∧ IsIface v ∧ ∃ r, Sem.run Try.prog (Instr.typeAssert v 145 149 true) w1 = .ok r w1 ∧ ∃ o, r = .tuple #[.pointer o, .bool false] := by
      cases n with
      | nil => exact (hnil rfl).elim
      | leaf p x =>
        obtain ⟨b, op, cp, ov, cv, rfl, _⟩ := h
        exact ⟨by simp, ⟨_, _, rfl⟩, _, ask_no und_phashed zero_phashed (by decide) w1, _, rfl⟩
      | row p k =>
        obtain ⟨b, op, cp, vk, rfl, _⟩ := h
        exact ⟨by simp, ⟨_, _, rfl⟩, _, ask_no und_phashed zero_phashed (by decide) w1, _, rfl⟩
      | branch cs x =>
        obtain ⟨b, vs, ov, cv, rfl, _⟩ := h
        exact ⟨by simp, ⟨_, _, rfl⟩, _, ask_no und_phashed zero_phashed (by decide) w1, _, rfl⟩
    obtain ⟨hv, hif, r, hr, o, rfl⟩ := hv
    refine ⟨hif, _, hr, _, _, rfl, fun h => (by cases h), fun _ => ?_⟩
    refine (encoded_of hI hc hs h M01 hv).mono ?_
    rintro _ w2 ⟨o2, k2, rfl, F2⟩
    have hbl := bytes_le hs
    refine ⟨_, _, _, rfl, fun h32 => ?_, fun h32 => ?_⟩
    · rintro d40 w3 ⟨rfl, rfl⟩
      have L := Blk.new w2 22 #[.slice o2 (bytesOf n).length k2]
      have M3 := Mod.alloc (S := NoB) w2 (.cells #[.slice o2 (bytesOf n).length k2] 22)
      refine (Sum_calls [bytesOf n] rfl (by simp) (RdBB.one L ((fresh_bytes F2).mod' M3)) (by simp; omega)).mono ?_
      rintro _ w4 ⟨rfl, M4⟩
      refine ⟨_, rfl, ?_⟩
      rintro d45 w5 ⟨rfl, rfl⟩
      have H := Blk.new w4 26 (Array.replicate 32 (.int .u8 0))
      have M14 : Vcg.Mod NoB w1 w4 := (F2.mod.trans M3 (fun _ _ h => h)).trans M4 (fun _ _ h => h)
      have M15 := M14.step_alloc (.cells (Array.replicate 32 (.int .u8 0)) 26)
      refine ⟨_, H.storeAll (L := hashA (sumOf [bytesOf n].flatten)) (by rw [size_hashA]; kernel_rfl) (by rw [size_hashA, Array.size_replicate]) (hashA_one _), ?_⟩
      have H2 := H.row_same (hashA (sumOf [bytesOf n].flatten))
      have M16 := M15.step_row (g := w4.heap.size) (cs := hashA (sumOf [bytesOf n].flatten)) (fun h => by have := M14.size; omega)
      have hrd : RdB _ (some ⟨w4.heap.size, 0, none⟩) (sumOf (bytesOf n)) := RdB.of_blk H2 (fun i hi => by
        rw [length_sumOf] at hi
        simp only [List.flatten_cons, List.flatten_nil, List.append_nil, Nat.zero_add, hashA]
        exact get_arrOf_lt hi)
      have hl32 : (sumOf (bytesOf n)).length = 32 := length_sumOf _
      have htx := text_calls (A := Btw w0 w1) (k := 32) hrd (fun _ d hd hh => by cases hd; exact absurd hh.2 (by have := M14.size; dsimp only; omega))
      rw [hl32] at htx
      refine htx.mono ?_
      rintro _ w7 ⟨v1, v2, v3, rfl, hI7, M7⟩
      have := fin (by unfold refOf wrapRef; rw [if_pos (by simp only [bytesOf] at h32; omega)]; rfl) (M16.trans M7 (fun _ _ h => h)) hI7
      obtain ⟨b4, p4, q4, r4, p5, q5, r5, rfl, rfl, rfl⟩ := hI7.vals
      exact ⟨_, _, _, _, _, _, _, rfl, this⟩
    · refine callsM_mono (hI w0 w2 v h (M01.trans F2.mod (fun _ _ h => h)) hv) ?_
      rintro _ w7 ⟨v1, v2, v3, rfl, hI7, M7⟩
      have h12 := F2.mod.size
      have := fin (by unfold refOf wrapRef; rw [if_neg (by simp only [bytesOf] at h32; omega)]) (F2.mod.trans M7 (fun _ _ h => h)) (ItC.mono (fun b h => ⟨h.1, Nat.lt_of_lt_of_le h.2 h12⟩) _ hI7)
      obtain ⟨b4, p4, q4, r4, p5, q5, r5, rfl, rfl, rfl⟩ := hI7.vals
      exact ⟨_, _, _, _, _, _, _, rfl, this⟩
end
end Go.Proofs.Ytfghidehlnfdiaa
end

section
set_option linter.unusedVariables false
set_option linter.unusedSimpArgs false
namespace Go.Proofs.Ytfghidehlnfdiaa
open Go Go.Vcg Go.Trie
section
variable {C : Type} {S : C → Prop} {w0 w w1 w' : World} {lab lab' : Nat → C} {c : C}
theorem row_item_calls {kid : Nd} (hK : RefAt lab c kid) {b : Nat} {op : Option Addr} {cp : Nat} {vk : Value} {p : By} (B : Blk w0 b tRow #[.slice op p.length cp, vk]) (hp : RdB w0 op p) (hl : p.length ≤ 2 ^ 30) (hk : NodeAt w0 lab c kid vk) (M0 : Vcg.Mod NoB w0 w) :
    Calls Try.prog trie_row_item.n #[.pointer (some ⟨b, 0, none⟩)] w (fun e w' => ∃ v1 v2 v3, e = .returned (.agg #[v1, v2, v3]) ∧ ItC (Btw w0 w) w' (itemOf (.row p kid)) v1 v2 v3 ∧ Vcg.Mod NoB w w') := by
  refine calls_gen fun R hR => trie_row_item.vc _ _ _ ?_
  unfold trie_row_item.Vc
  rintro d1 w1 ⟨rfl, rfl⟩
  rintro _ rfl
  have X := (Blk.new w 138 #[.bool false, .slice none 0 0, .slice none 0 0]).mod' (Mod.drew (S := NoB) _)
  have M1 := (Mod.alloc (S := NoB) w (.cells #[.bool false, .slice none 0 0, .slice none 0 0] 138)).step_drew
  have hN : w.heap.size < (w.alloc (.cells #[.bool false, .slice none 0 0, .slice none 0 0] 138)).drew.heap.size := X.lt
  generalize (w.alloc (.cells #[.bool false, .slice none 0 0, .slice none 0 0] 138)).drew = w1 at *
  have M01 := M0.trans M1 (fun _ _ h => h)
  have B1 := B.mod' M01
  simp only [add_at, Nat.zero_add]
  refine ⟨_, _, _, B1.rd1 rfl, _, B1.rd1 rfl, ?_⟩
  refine (packed_calls (hp.mod' M01) hl false).mono ?_
  rintro _ w2 ⟨o2, k2, rfl, F2⟩
  have M2 := F2.mod
  have B2 := B1.mod' M2
  have M02 := M01.trans M2 (fun _ _ h => h)
  refine ⟨_, _, _, rfl, B2.rd1 rfl, ?_⟩
  refine (text_calls (A := Btw w0 w1) (fresh_bytes F2) (fun _ => off_new F2 (Nat.le_refl _))).mono ?_
  rintro _ w3 ⟨v1, v2, v3, rfl, hI3, M3⟩
  have M03 := M02.trans M3 (fun _ _ h => h)
  have M13 := M2.trans M3 (fun _ _ h => h)
  obtain ⟨b1, p1, q1, r1, p2, q2, r2, rfl, rfl, rfl⟩ := hI3.vals
  refine ⟨_, _, _, _, _, _, _, rfl, (B2.mod' M3).rd1 rfl, ?_⟩
  refine (hK w0 w3 vk hk M03).mono ?_
  rintro _ w4 ⟨v4, v5, v6, rfl, hI4, M4⟩
  have M14 : Vcg.Mod NoB w1 w4 := M13.trans M4 (fun _ _ h => h)
  replace hI4 : ItC (Btw w0 w1) w4 _ _ _ _ := ItC.mono (fun b h => ⟨h.1, Nat.lt_of_lt_of_le h.2 M13.size⟩) _ hI4
  obtain ⟨b4, p4, q4, r4, p5, q5, r5, rfl, rfl, rfl⟩ := hI4.vals
  refine ⟨_, _, _, _, _, _, _, rfl, ?_⟩
  rintro d33 w5 ⟨rfl, rfl⟩
  have Y := Blk.new w4 138 #[.bool b1, .slice p1 q1 r1, .slice p2 q2 r2, .bool b4, .slice p4 q4 r4, .slice p5 q5 r5]
  have M5 := Mod.alloc (S := NoB) w4 (.cells #[.bool b1, .slice p1 q1 r1, .slice p2 q2 r2, .bool b4, .slice p4 q4 r4, .slice p5 q5 r5] 138)
  have hI3' := ItC.mod (M4.trans M5 (fun _ _ h => h)) _ hI3
  have hI4' := ItC.mod M5 _ hI4
  have hY : ¬ Btw w0 w1 w4.heap.size := fun h => absurd h.2 (by have := M14.size; omega)
  have hIts : ItsC (Btw w0 w1) (w4.alloc (.cells #[.bool b1, .slice p1 q1 r1, .slice p2 q2 r2, .bool b4, .slice p4 q4 r4, .slice p5 q5 r5] 138)) [.s (packed p false), refOf kid] (some ⟨w4.heap.size, 0, none⟩) 0 := by
    simp only [ItsC]
    exact ⟨⟨_, 0, _, _, _, rfl, Y.lt, hY, Y.rd1 rfl, Y.rd1 rfl, Y.rd1 rfl, hI3'⟩, ⟨_, 0, _, _, _, rfl, Y.lt, hY, Y.rd1 rfl, Y.rd1 rfl, Y.rd1 rfl, hI4'⟩, trivial⟩
  refine (list_calls hIts (Nat.le_refl 2)).mono ?_
  rintro _ w6 ⟨v7, v8, v9, rfl, hI6, M6⟩
  have M16 : Vcg.Mod NoB w1 w6 := M14.trans (M5.trans M6 (fun _ _ h => h)) (fun _ _ h => h)
  have X6 := X.mod' M16
  have hret := ret3 (A' := Btw w0 w) (R := R) X6 hI6 ⟨M0.size, hN⟩ (fun b h => ⟨h.1, Nat.lt_trans h.2 hN⟩) (fun w7 Q hI7 => hR _ _ ⟨_, _, _, rfl, hI7, mod_of (M1.trans M16 (fun _ _ h => h)) Q (Nat.le_refl _)⟩)
  obtain ⟨b7, p7, q7, r7, p8, q8, r8, rfl, rfl, rfl⟩ := hI6.vals
  exact ⟨_, _, _, _, _, _, _, rfl, hret⟩
theorem item_leaf (p x : By) (hl : p.length ≤ 2 ^ 30) : ItemAt lab c (.leaf p x) := by
  intro w0 w v h M0 _
  obtain ⟨b, op, cp, ov, cv, rfl, B, hp, hk, hx⟩ := h
  exact ⟨_, _, trie_leaf_item.n, _, rfl, by kernel_rfl, by kernel_rfl, leaf_item_calls B.blk hp.rd hx.rd hl M0⟩
theorem item_row {kid : Nd} (hK : RefAt lab c kid) (p : By) (hl : p.length ≤ 2 ^ 30) : ItemAt lab c (.row p kid) := by
  intro w0 w v h M0 _
  obtain ⟨b, op, cp, vk, rfl, B, hp, hk, hkid⟩ := h
  exact ⟨_, _, trie_row_item.n, _, rfl, by kernel_rfl, by kernel_rfl, row_item_calls hK B.blk hp.rd hl hkid M0⟩
end
end Go.Proofs.Ytfghidehlnfdiaa
end

section
set_option linter.unusedVariables false
set_option linter.unusedSimpArgs false
namespace Go.Proofs.Ytfghidehlnfdiaa
open Go Go.Vcg Go.Trie
section
variable {C : Type} {S : C → Prop} {A : Nat → Prop} {w0 w w1 w' : World} {lab lab' : Nat → C} {c : C}
mutual
/-- An item lies in blocks that are there. -/
theorem ItC.old {w : World} : ∀ (x : It) {v1 v2 v3 : Value}, ItC A w x v1 v2 v3 → ItC (fun b => A b ∨ w.heap.size ≤ b) w x v1 v2 v3
  | .s b, _, _, _, h => by
    simp only [ItC] at h ⊢
    obtain ⟨h1, ⟨o, c, h2, h3, h5⟩, h4⟩ := h
    refine ⟨h1, ⟨o, c, h2, h3, fun hne d hd hh => ?_⟩, h4⟩
    rcases hh with hh | hh
    · exact h5 hne d hd hh
    · obtain ⟨e, f, ho, he, _⟩ := h3 hne
      rw [ho] at hd; cases hd
      exact absurd he (Nat.not_lt.2 hh)
  | .l xs, _, _, _, h => by
    simp only [ItC] at h ⊢
    obtain ⟨h1, h2, o, c, h3, h4, h5⟩ := h
    exact ⟨h1, h2, o, c, h3, ItsC.old xs h4, h5⟩
theorem ItsC.old {w : World} : ∀ (xs : List It) {o : Option Addr} {k : Nat}, ItsC A w xs o k → ItsC (fun b => A b ∨ w.heap.size ≤ b) w xs o k
  | [], _, _, _ => by simp only [ItsC]
  | x :: r, _, _, h => by
    simp only [ItsC] at h ⊢
    obtain ⟨⟨b, f, v1, v2, v3, ho, hb, hB, h1, h2, h3, h4⟩, h5⟩ := h
    exact ⟨⟨b, f, v1, v2, v3, ho, hb, fun hh => hh.elim hB (fun hh => absurd hb (Nat.not_lt.2 hh)), h1, h2, h3, ItC.old x h4⟩, ItsC.old r h5⟩
end
/-- A row of items, made since w0. -/
def ItRow (A : Nat → Prop) (w0 w : World) (xs : List It) (o : Option Addr) (l k : Nat) : Prop :=
  l = xs.length ∧ ∃ vs, Fresh w0 w tItem 3 o l k vs ∧ ∀ j (hj : j < xs.length), ∃ v1 v2 v3, vs[j * 3]? = some v1 ∧ vs[j * 3 + 1]? = some v2 ∧ vs[j * 3 + 2]? = some v3 ∧ ItC (fun b => A b ∨ OB o b) w xs[j] v1 v2 v3
theorem ItRow.nil (M : Vcg.Mod NoB w0 w) : ItRow A w0 w [] none 0 0 := ⟨rfl, [], Fresh.nil M _ _, fun j hj => absurd hj (by simp)⟩
theorem ItRow.mod' {xs : List It} {o : Option Addr} {l k : Nat} (h : ItRow A w0 w xs o l k) (M : Vcg.Mod NoB w w') : ItRow A w0 w' xs o l k := by
  obtain ⟨h1, vs, F, h2⟩ := h
  refine ⟨h1, vs, F.mod' M, fun j hj => ?_⟩
  obtain ⟨v1, v2, v3, a, b, d, e⟩ := h2 j hj
  exact ⟨v1, v2, v3, a, b, d, ItC.mod M _ e⟩
theorem ItRow.fmod {xs : List It} {o : Option Addr} {l k : Nat} (h : ItRow A w0 w xs o l k) : Vcg.Mod NoB w0 w := by
  obtain ⟨h1, vs, F, h2⟩ := h
  exact F.mod
theorem ItRow.push {xs : List It} {o : Option Addr} {l k : Nat} (h : ItRow A w0 w xs o l k) {D : Nat} {x : It} {v1 v2 v3 : Value} (B : Blk w D tItem #[v1, v2, v3]) (hx : ItC (fun b => A b ∨ OB o b) w x v1 v2 v3) (hl : xs.length ≤ 2 ^ 20) :
    ∃ o' k' w', Sem.run Try.prog (builtinV .append #[136, 136] 136 #[.slice o l k, .slice (some ⟨D, 0, none⟩) 1 1]) w = .ok (.slice o' (l + 1) k') w' ∧ ItRow A w0 w' (xs ++ [x]) o' (l + 1) k' := by
  obtain ⟨rfl, vs, F, hv⟩ := h
  obtain ⟨i, hi, hz, hs, hb⟩ := info_of info_item
  obtain ⟨b, p1, q1, r1, p2, q2, r2, rfl, rfl, rfl⟩ := hx.vals
  obtain ⟨o', k', w', h1, h2, h3, h4⟩ := append_own (ty := 136) und_slItem hi hz hs rfl F.own (src_one und_slItem B rfl (by simp [Value.oneCell'])) (by simp only [maxLen]; omega) (by rw [hb]; omega)
  have hF : Fresh w0 w' tItem 3 o' (xs.length + 1) k' (vs ++ [.bool b, .slice p1 q1 r1, .slice p2 q2 r2]) := by
    refine ⟨h2, F.mod.trans h3 (fun k hk hob => absurd (F.new k hob) (by omega)), fun k hk => ?_⟩
    rcases h4 k hk with h5 | h5
    · exact F.new k h5
    · exact Nat.le_trans F.mod.size h5
  have hlen : vs.length = xs.length * 3 := F.own.1
  have step : ∀ {y : It} {v1 v2 v3 : Value}, ItC (fun b => A b ∨ OB o b) w y v1 v2 v3 → ItC (fun b => A b ∨ OB o' b) w' y v1 v2 v3 := fun hy =>
    ItC.mono (fun b hb => hb.elim (fun h => .inl (.inl h)) (fun h => (h4 b h).elim (fun h => .inl (.inr h)) .inr)) _ (ItC.modA h3 (fun b h => .inl (.inr h)) _ (ItC.old _ hy))
  refine ⟨o', k', w', h1, by simp, _, hF, fun j hj => ?_⟩
  rw [List.length_append, List.length_cons, List.length_nil] at hj
  by_cases hjx : j < xs.length
  · obtain ⟨v1, v2, v3, a, b, d, e⟩ := hv j hjx
    refine ⟨v1, v2, v3, ?_, ?_, ?_, ?_⟩
    · rw [List.getElem?_append_left (by omega)]; exact a
    · rw [List.getElem?_append_left (by omega)]; exact b
    · rw [List.getElem?_append_left (by omega)]; exact d
    · rw [List.getElem_append_left hjx]; exact step e
  · obtain rfl : j = xs.length := by omega
    refine ⟨.bool b, .slice p1 q1 r1, .slice p2 q2 r2, ?_, ?_, ?_, ?_⟩
    · rw [List.getElem?_append_right (by omega), hlen, Nat.sub_self]; rfl
    · rw [List.getElem?_append_right (by omega), hlen, show xs.length * 3 + 1 - xs.length * 3 = 1 by omega]; rfl
    · rw [List.getElem?_append_right (by omega), hlen, show xs.length * 3 + 2 - xs.length * 3 = 2 by omega]; rfl
    · rw [List.getElem_append_right (Nat.le_refl _)]
      simp only [Nat.sub_self, List.getElem_cons_zero]
      exact step hx
theorem its_of : ∀ (xs : List It) (k : Nat) {o : Option Addr}, (∀ j (hj : j < xs.length), ∃ g v1 v2 v3, o = some ⟨g, 0, none⟩ ∧ g < w.heap.size ∧ ¬ A g ∧ w.cell? ⟨g, (k + j) * 3, none⟩ = some v1 ∧ w.cell? ⟨g, (k + j) * 3 + 1, none⟩ = some v2 ∧ w.cell? ⟨g, (k + j) * 3 + 2, none⟩ = some v3 ∧ ItC A w xs[j] v1 v2 v3) → ItsC A w xs o k
  | [], _, _, _ => by simp only [ItsC]
  | x :: r, k, o, h => by
    simp only [ItsC]
    constructor
    · obtain ⟨g, v1, v2, v3, a, b, d, e, f, h5, h6⟩ := h 0 (by simp)
      rw [Nat.add_zero] at e f h5
      exact ⟨g, 0, v1, v2, v3, a, b, d, by rw [Nat.zero_add]; exact e, by rw [Nat.zero_add]; exact f, by rw [Nat.zero_add]; exact h5, h6⟩
    · refine its_of r (k + 1) (fun j hj => ?_)
      obtain ⟨g, v1, v2, v3, a, b, d, e, f, h5, h6⟩ := h (j + 1) (by simpa using hj)
      rw [show k + (j + 1) = k + 1 + j by omega] at e f h5
      exact ⟨g, v1, v2, v3, a, b, d, e, f, h5, h6⟩
theorem ItRow.its {xs : List It} {o : Option Addr} {l k : Nat} (h : ItRow A w0 w xs o l k) (hA : ∀ b, A b → b < w0.heap.size) : ItsC A w xs o 0 := by
  obtain ⟨rfl, vs, F, hv⟩ := h
  refine its_of xs 0 (fun j hj => ?_)
  obtain ⟨v1, v2, v3, a, b, d, e⟩ := hv j hj
  obtain ⟨g, ho, hc1⟩ := F.own.cell a
  obtain ⟨g', ho', hc2⟩ := F.own.cell b
  obtain ⟨g'', ho'', hc3⟩ := F.own.cell d
  rw [ho] at ho' ho''
  cases ho'; cases ho''
  rw [Nat.zero_add]
  exact ⟨g, v1, v2, v3, ho, F.own.lt ⟨_, ho, rfl⟩, fun h => absurd (hA _ h) (Nat.not_lt.2 (F.new g ⟨_, ho, rfl⟩)), hc1, hc2, hc3, ItC.mono (fun _ h => .inl h) _ e⟩
end
end Go.Proofs.Ytfghidehlnfdiaa
end

section
set_option linter.unusedVariables false
set_option linter.unusedSimpArgs false
namespace Go.Vcg
theorem run_index1 {P : Program} {t e : TypeId} {n j : Nat} {ie : TypeInfo} {cs : Array Value} {v : Value} (ht : P.underlying t = some (.array n e)) (hi : P.info? e = some ie) (hs : ie.size = 1)
    (ha : ∀ w, (isAgg e).run P w = .ok false w) (hj : j < n) (hv : cs[j]? = some v) (w : World) :
    Sem.run P (Instr.index t (.agg cs) (.int .i64 (j : Int))) w = .ok v w := by
  unfold Instr.index
  simp only [Sem.run_bind, asIntOf, Sem.run_pure, Result.andThen_ok, run_und ht]
  rw [if_pos (by omega)]
  have h1 : tsize P e = 1 := by unfold tsize; rw [hi]; exact hs
  simp only [Sem.run_bind, run_sizeOf hi, Result.andThen_ok, h1, Nat.mul_one, Int.toNat_natCast]
  unfold part
  simp only [Sem.run_bind, ha, Result.andThen_ok, Bool.false_eq_true, if_false, hv, Sem.run_pure]
end Go.Vcg
namespace Go.Proofs.Ytfghidehlnfdiaa
open Go Go.Vcg Go.Trie
abbrev tKids : TypeId := 156
theorem und_kids : Try.prog.underlying tKids = some (.array 16 tNode) := by kernel_rfl
theorem info_node : (Try.prog.info? tNode).map (fun i => (i.zero, i.size, i.bytes)) = some (some .nilIface, 1, 16) := by kernel_rfl
theorem agg_node (w : World) : (isAgg tNode).run Try.prog w = .ok false w := by kernel_rfl
section
variable {C : Type} {S : C → Prop} {w0 w w1 w' : World} {lab lab' : Nat → C} {c : C}
theorem branch_item_calls {kids : Fin 16 → Nd} (hK : ∀ i, RefAt lab c (kids i)) {b : Nat} {vs : Fin 16 → Value} {ov : Option Addr} {cv : Nat} {x : By} (B : Blk w0 b tBranch (brA vs ov x.length cv)) (hx : RdB w0 ov x) (hk : ∀ i, NodeAt w0 lab c (kids i) (vs i)) (M0 : Vcg.Mod NoB w0 w) :
    Calls Try.prog trie_branch_item.n #[.pointer (some ⟨b, 0, none⟩)] w (fun e w' => ∃ v1 v2 v3, e = .returned (.agg #[v1, v2, v3]) ∧ ItC (Btw w0 w) w' (itemOf (.branch kids x)) v1 v2 v3 ∧ Vcg.Mod NoB w w') := by
  refine calls_gen fun R hR => trie_branch_item.vc _ _ _ ?_
  unfold trie_branch_item.Vc
  rintro d1 w1 ⟨rfl, rfl⟩
  have X := Blk.new w 138 #[.bool false, .slice none 0 0, .slice none 0 0]
  have M1 := Mod.alloc (S := NoB) w (.cells #[.bool false, .slice none 0 0, .slice none 0 0] 138)
  have hN : w.heap.size < (w.alloc (.cells #[.bool false, .slice none 0 0, .slice none 0 0] 138)).heap.size := X.lt
  generalize w.alloc (.cells #[.bool false, .slice none 0 0, .slice none 0 0] 138) = w1 at *
  have M01 := M0.trans M1 (fun _ _ h => h)
  have B1 := B.mod' M01
  have hL : ∀ i, i < 16 → (brA vs ov x.length cv)[0 + i]? = (List.ofFn vs).toArray[i]? := by
    intro i hi
    rw [Nat.zero_add, brA_at vs ov x.length cv ⟨i, hi⟩, List.getElem?_toArray, List.getElem?_ofFn, dif_pos hi]
  refine ⟨(List.ofFn vs).toArray, B1.rowAt (by simp) hL, ?_⟩
  have hA : ∀ b, Btw w0 w1 b → b < w1.heap.size := fun b h => h.2
  let done : Nat → List It := fun j => ((List.finRange 16).take j).map fun i => wrapRef (itemOf (kids i))
  have hdl : ∀ j, j ≤ 16 → (done j).length = j := fun j hj => by simp only [done, List.length_map, List.length_take, List.length_finRange]; omega
  refine ⟨fun o l k i w' => ∃ j : Nat, i = (j : Int) ∧ j ≤ 16 ∧ ItRow (Btw w0 w1) w1 w' (done j) o l k, fun _ _ _ i _ => ((16 : Int) - i).toNat, ⟨0, rfl, Nat.zero_le _, ItRow.nil (Mod.refl w1)⟩, ?_⟩
  rintro o l k _ _ w2 ⟨j, rfl, hj, I⟩
  have hl := I.1
  rw [hdl j hj] at hl
  subst hl
  have M12 := I.fmod
  refine ⟨fun hlt => ?_, fun hge => ?_⟩
  · have hjl : l < 16 := by omega
    obtain ⟨ie, hie, hz, hs, hb⟩ := info_of info_node
    have hv : (List.ofFn vs).toArray[l]? = some (vs ⟨l, hjl⟩) := by rw [List.getElem?_toArray, List.getElem?_ofFn, dif_pos hjl]
    refine ⟨_, run_index1 und_kids hie hs agg_node hjl hv w2, _, rfl, ?_⟩
    refine (hK ⟨l, hjl⟩ w0 w2 _ (hk _) (M01.trans M12 (fun _ _ h => h))).mono ?_
    rintro _ w3 ⟨v1, v2, v3, rfl, hI, M3⟩
    obtain ⟨b4, p4, q4, r4, p5, q5, r5, rfl, rfl, rfl⟩ := hI.vals
    refine ⟨_, _, _, _, _, _, _, rfl, ?_⟩
    rintro d w4 ⟨rfl, rfl⟩
    have Y := Blk.new w3 138 #[.bool b4, .slice p4 q4 r4, .slice p5 q5 r5]
    have M4 := Mod.alloc (S := NoB) w3 (.cells #[.bool b4, .slice p4 q4 r4, .slice p5 q5 r5] 138)
    have I4 := (I.mod' M3).mod' M4
    have hob : ∀ b, OB o b → b < w2.heap.size := fun b hb => by obtain ⟨_, vs', F, _⟩ := I; exact F.own.lt hb
    have hI' : ItC (fun b => Btw w0 w1 b ∨ OB o b) w3 (refOf (kids ⟨l, hjl⟩)) (.bool b4) (.slice p4 q4 r4) (.slice p5 q5 r5) := ItC.mono (fun b h => h.elim (fun h => ⟨h.1, Nat.lt_of_lt_of_le h.2 M12.size⟩) (fun h => ⟨Nat.le_trans M01.size (by obtain ⟨_, vs', F, _⟩ := I; exact F.new b h), hob b h⟩)) _ hI
    obtain ⟨o5, k5, w5, hr5, I5⟩ := I4.push Y (ItC.mod M4 _ hI') (by rw [hdl l hj]; omega)
    refine ⟨_, w5, hr5, _, _, _, rfl, ⟨l + 1, by rw [wrap_i64_small (by omega) (by omega)]; omega, hjl, ?_⟩, by dsimp only; rw [wrap_i64_small (by omega) (by omega)]; omega⟩
    have e : done (l + 1) = done l ++ [refOf (kids ⟨l, hjl⟩)] := by
      simp only [done]
      rw [List.take_add_one, List.getElem?_eq_getElem (by simpa using hjl), List.map_append]
      simp [refOf]
    rw [e]
    exact I5
  · obtain rfl : l = 16 := by omega
    have B2 := B1.mod' M12
    refine ⟨_, _, _, by rw [add_at, Nat.zero_add]; exact B2.rd1 (brA_val vs ov x.length cv), ?_⟩
    have hob : ∀ b, OB o b → w1.heap.size ≤ b ∧ b < w2.heap.size := fun b hb => by obtain ⟨_, vs', F, _⟩ := I; exact ⟨F.new b hb, F.own.lt hb⟩
    refine (text_calls (A := fun b => Btw w0 w1 b ∨ OB o b) (hx.mod' (M01.trans M12 (fun _ _ h => h))) (fun hne d hd hh => by
      obtain ⟨e, f, ho, he, _⟩ := hx hne
      rw [ho] at hd; cases hd
      rcases hh with hh | hh
      · exact absurd hh.1 (Nat.not_le.2 he)
      · have := (hob _ hh).1
        have := M01.size
        exact absurd he (by dsimp only at *; omega))).mono ?_
    rintro _ w3 ⟨v1, v2, v3, rfl, hI3, M3⟩
    obtain ⟨b4, p4, q4, r4, p5, q5, r5, rfl, rfl, rfl⟩ := hI3.vals
    refine ⟨_, _, _, _, _, _, _, rfl, ?_⟩
    rintro d w4 ⟨rfl, rfl⟩
    have Y := Blk.new w3 138 #[.bool b4, .slice p4 q4 r4, .slice p5 q5 r5]
    have M4 := Mod.alloc (S := NoB) w3 (.cells #[.bool b4, .slice p4 q4 r4, .slice p5 q5 r5] 138)
    obtain ⟨o5, k5, w5, hr5, I5⟩ := ((I.mod' M3).mod' M4).push Y (ItC.mod M4 _ hI3) (by rw [hdl 16 hj]; omega)
    refine ⟨_, w5, hr5, _, _, _, rfl, ?_⟩
    have hl5 : (done 16 ++ [It.s x]).length = 17 := by rw [List.length_append, hdl 16 hj]; rfl
    have hIts := I5.its hA
    have hLc := list_calls (k := k5) hIts (by obtain ⟨h1, vs, F, _⟩ := I5; have := F.own.cap.1; omega)
    rw [hl5] at hLc
    refine hLc.mono ?_
    rintro _ w6 ⟨v7, v8, v9, rfl, hI6, M6⟩
    have M16 : Vcg.Mod NoB w1 w6 := I5.fmod.trans M6 (fun _ _ h => h)
    have X6 := X.mod' M16
    have e6 : It.l (done 16 ++ [It.s x]) = itemOf (.branch kids x) := by
      simp only [done, itemOf]
      rw [List.take_of_length_le (by simp)]
    rw [e6] at hI6
    have hret := ret3 (A' := Btw w0 w) (R := R) X6 hI6 ⟨M0.size, hN⟩ (fun b h => ⟨h.1, Nat.lt_trans h.2 hN⟩) (fun w7 Q hI7 => hR _ _ ⟨_, _, _, rfl, hI7, mod_of (M1.trans M16 (fun _ _ h => h)) Q (Nat.le_refl _)⟩)
    obtain ⟨b7, p7, q7, r7, p8, q8, r8, rfl, rfl, rfl⟩ := hI6.vals
    simp only [add_at, Nat.zero_add]
    exact ⟨_, _, _, _, _, _, _, rfl, hret⟩
theorem item_branch {kids : Fin 16 → Nd} (hK : ∀ i, RefAt lab c (kids i)) (x : By) : ItemAt lab c (.branch kids x) := by
  intro w0 w v h M0 _
  obtain ⟨b, vs, ov, cv, rfl, B, hx, hk⟩ := h
  exact ⟨_, _, trie_branch_item.n, _, rfl, by kernel_rfl, by kernel_rfl, branch_item_calls hK B.blk hx.rd hk M0⟩
theorem items_of : ∀ (n : Nd), Canon n → Small n → (n ≠ .nil → ItemAt lab c n) ∧ RefAt lab c n
  | .nil, hc, hs => ⟨fun h => (h rfl).elim, reference_of (fun h => (h rfl).elim) hc hs⟩
  | .leaf p x, hc, hs => by
    have hI : ItemAt lab c (.leaf p x) := item_leaf p x (by have := hs.1; omega)
    exact ⟨fun _ => hI, reference_of (fun _ => hI) hc hs⟩
  | .row p k, hc, hs => by
    have ih := items_of k hc.2.2.2 hs.2
    have hI : ItemAt lab c (.row p k) := item_row ih.2 p (by have := hs.1; omega)
    exact ⟨fun _ => hI, reference_of (fun _ => hI) hc hs⟩
  | .branch cs x, hc, hs => by
    have ih := fun i => items_of (cs i) (hc.1 i) (hs.2 i)
    have hI : ItemAt lab c (.branch cs x) := item_branch (fun i => (ih i).2) x
    exact ⟨fun _ => hI, reference_of (fun _ => hI) hc hs⟩
/-- A node's bytes. -/
theorem encoded_calls {n : Nd} (hc : Canon n) (hs : Small n) (hn : n ≠ .nil) {v : Value} (h : NodeAt w0 lab c n v) (M : Vcg.Mod NoB w0 w) :
    Calls Try.prog trie_encoded.n #[v] w (fun e w' => ∃ o k, e = .returned (.slice o (bytesOf n).length k) ∧ Fresh w w' tU8 1 o (bytesOf n).length k ((bytesOf n).map bV)) :=
  encoded_of ((items_of n hc hs).1 hn) hc hs h M (by
    intro e
    cases n with
    | nil => exact hn rfl
    | leaf p x => obtain ⟨b, op, cp, ov, cv, rfl, _⟩ := h; cases e
    | row p k => obtain ⟨b, op, cp, vk, rfl, _⟩ := h; cases e
    | branch cs x => obtain ⟨b, vs, ov, cv, rfl, _⟩ := h; cases e)
end
end Go.Proofs.Ytfghidehlnfdiaa
end

section
set_option linter.unusedVariables false
set_option linter.unusedSimpArgs false
namespace Go.Proofs.Ytfghidehlnfdiaa
open Go Go.Vcg Go.Trie
section
variable {C C' : Type} {S : C → Prop} {w0 w w1 w' : World} {lab lab2 : Nat → C} {lab' : Nat → C'} {c : C} {c' : C'}
theorem CB.re {b : Nat} {t : TypeId} {cs : Array Value} (h : CB w lab c b t cs) (hl : ∀ k, k < w.heap.size → lab k = c → lab' k = c') : CB w lab' c' b t cs :=
  ⟨h.blk, hl _ h.blk.lt h.clr⟩
theorem CBy.re {o : Option Addr} {bs : By} (h : CBy w lab c o bs) (hl : ∀ k, k < w.heap.size → lab k = c → lab' k = c') : CBy w lab' c' o bs := by
  refine ⟨h.rd, fun hne d hd => ?_⟩
  obtain ⟨b, f, ho, hb, _⟩ := h.rd hne
  rw [ho] at hd; cases hd
  exact hl _ hb (h.clr hne _ ho)
theorem NodeAt.re (hl : ∀ k, k < w.heap.size → lab k = c → lab' k = c') : ∀ {n : Nd} {v : Value}, NodeAt w lab c n v → NodeAt w lab' c' n v
  | .nil, _, h => h
  | .leaf p x, _, h => by
    obtain ⟨b, op, cp, ov, cv, h1, h2, h3, h4, h5⟩ := h
    exact ⟨b, op, cp, ov, cv, h1, CB.re h2 hl, CBy.re h3 hl, h4, CBy.re h5 hl⟩
  | .row p k, _, h => by
    obtain ⟨b, op, cp, vk, h1, h2, h3, h4, h5⟩ := h
    exact ⟨b, op, cp, vk, h1, CB.re h2 hl, CBy.re h3 hl, h4, NodeAt.re hl h5⟩
  | .branch cs x, _, h => by
    obtain ⟨b, vs, ov, cv, h1, h2, h3, h4⟩ := h
    exact ⟨b, vs, ov, cv, h1, CB.re h2 hl, CBy.re h3 hl, fun i => NodeAt.re hl (h4 i)⟩
/-- A node made since w, the rest as it was. -/
def Grown (w : World) (lab : Nat → C) (c : C) (w' : World) (n : Nd) (v : Value) : Prop := Vcg.Mod NoB w w' ∧ NodeAt w' (ext lab w.heap.size c) c n v
theorem Grown.stp {n : Nd} {v : Value} (h : Grown w lab c w' n v) : Stp NoS w lab w' (ext lab w.heap.size c) := Stp.of_nob h.1 c
theorem grown_of {n : Nd} {v : Value} (s : Stp NoS w lab w' lab2) (h : NodeAt w' lab2 c n v) : Grown w lab c w' n v := by
  refine ⟨s.nob (fun _ _ h => h), h.re (fun k hk hc => ?_)⟩
  by_cases hlt : k < w.heap.size
  · rw [ext_old hlt, ← s.lab k hlt]; exact hc
  · exact ext_new (by omega)
theorem found_calls {o : Option Addr} {k : Nat} {x : By} (hx : RdB w o x) (hl : x.length ≤ 2 ^ 40) (b : Bool) :
    Calls Try.prog trie_found.n #[.slice o x.length k, .bool b] w (fun e w' => ∃ o' k', e = .returned (.tuple #[.slice o' (if b then x else []).length k', .bool b, .int .i64 0]) ∧ Fresh w w' tU8 1 o' (if b then x else []).length k' ((if b then x else []).map bV)) := by
  refine trie_found.vc _ _ _ _ _ _ ?_
  unfold trie_found.Vc
  cases b with
  | false => exact ⟨fun _ => ⟨none, 0, rfl, Fresh.nil (Mod.refl w) _ _⟩, fun h => by cases h⟩
  | true =>
    refine ⟨fun h => (by cases h), fun _ => ?_⟩
    refine (Clone_calls hx hl).mono ?_
    rintro _ w1 ⟨o', k', rfl, F⟩
    exact ⟨_, _, _, rfl, o', k', rfl, F⟩
theorem nib_nibbles (k : By) : Nib (nibbles k) := by
  intro x hx
  obtain ⟨a, _, ha⟩ := List.mem_flatMap.1 hx
  have h1 : (a >>> 4).toNat < 16 := by
    have : ∀ n : Fin 256, (UInt8.ofFin n >>> 4).toNat < 16 := by decide +kernel
    exact this a.toFin
  have h2 : (a &&& 15).toNat < 16 := by
    have : ∀ n : Fin 256, (UInt8.ofFin n &&& 15).toNat < 16 := by decide +kernel
    exact this a.toFin
  simp only [List.mem_cons, List.mem_nil_iff, or_false] at ha
  rcases ha with rfl | rfl
  · exact h1
  · exact h2
/-- What Get says of a key. -/
def says (r : Option By) : By × Bool := match r with
  | some v => (v, true)
  | none => ([], false)
theorem Get_calls {n : Nd} {v : Value} {t : Nat} {gv : Value} {ty : TypeId} {o : Option Addr} {k : Nat} {key : By} (T : Blk w t ty #[v, gv]) (h : NodeAt w lab c n v) (hc : Canon n) (hs : Small n) (hk : RdB w o key) (hl : key.length ≤ 64) :
    Calls Try.prog trie_Trie_Get.n #[.pointer (some ⟨t, 0, none⟩), .slice o key.length k] w (fun e w' => ∃ o' k', e = .returned (.tuple #[.slice o' (says (get n (nibbles key))).1.length k', .bool (says (get n (nibbles key))).2, .int .i64 0]) ∧ Fresh w w' tU8 1 o' (says (get n (nibbles key))).1.length k' ((says (get n (nibbles key))).1.map bV)) := by
  refine calls_gen fun R hR => trie_Trie_Get.vc _ _ _ _ _ _ ?_
  unfold trie_Trie_Get.Vc
  refine ⟨fun h => by omega, fun _ => ?_⟩
  refine (Nibbles_calls hk (by omega)).mono ?_
  rintro _ w1 ⟨o1, k1, rfl, F1⟩
  have hnl := nibbles_len key
  have M1 := F1.mod
  refine ⟨_, _, _, rfl, v, (T.mod' M1).rd1 rfl, ?_⟩
  refine ⟨fun o2 l2 k2 v2 w' => ∃ (p : By) (m : Nd), l2 = p.length ∧ p.length ≤ k2 ∧ RdB w' o2 p ∧ Nib p ∧ Vcg.Mod NoB w w' ∧ NodeAt w lab c m v2 ∧ Canon m ∧ Small m ∧ get m p = get n (nibbles key), fun _ l2 _ _ _ => l2,
    ⟨nibbles key, n, rfl, F1.own.cap.1, fresh_bytes F1, nib_nibbles key, M1, h, hc, hs, rfl⟩, ?_⟩
  rintro o2 _ k2 v2 _ w2 ⟨p, m, rfl, hpk, hr, hnib, M2, hm, hcm, hsm, hg⟩
  have hm2 := hm.stp (S := NoS) (Stp.of_nob M2 c) (fun h => h)
  refine (seen_calls hm2 t).mono ?_
  rintro _ w3 ⟨rfl, rfl⟩
  refine ⟨_, _, rfl, fun h => (h rfl).elim, fun _ => ?_⟩
  have none_ : ∀ w4, Vcg.Mod NoB w3 w4 → get m p = none → R (.returned (.tuple #[.slice none 0 0, .bool false, .int .i64 0])) w4 := fun w4 M4 hn => by
    rw [← hg, hn] at hR
    exact hR _ _ ⟨none, 0, rfl, Fresh.nil (M2.trans M4 (fun _ _ h => h)) _ _⟩
  cases m with
  | nil =>
    cases hm
    exact ⟨_, ask_nil und_pleaf zero_pleaf w3, _, _, rfl, fun h => (by cases h), fun _ => ⟨_, ask_nil und_prow zero_prow w3, _, _, rfl, fun h => (by cases h), fun _ => ⟨_, ask_nil und_pbranch zero_pbranch w3, _, _, rfl, fun h => (by cases h), fun _ => none_ _ (Mod.refl _) (by simp [Trie.get])⟩⟩⟩
  | leaf q x =>
    obtain ⟨b, oq, cq, ox, cx, rfl, B, hq, hqc, hx⟩ := hm
    refine ⟨_, ask_yes und_pleaf w3, _, _, rfl, fun _ => ?_, fun h => by cases h⟩
    rintro _ rfl
    have MD := Mod.drew (S := NoB) w3
    have M3 := M2.trans MD (fun _ _ h => h)
    have B3 := B.blk.mod' M3
    simp only [Option.some.injEq, exists_eq_left', add_at, Nat.zero_add]
    refine ⟨_, _, _, B3.rd1 rfl, _, _, _, B3.rd1 rfl, ?_⟩
    refine (Equal_calls (hq.rd.mod' M3) (hr.mod' MD)).mono ?_
    rintro _ w4 ⟨rfl, rfl⟩
    refine ⟨_, rfl, B3.rd1 rfl, ?_⟩
    refine (found_calls (hx.rd.mod' M3) (by have := hsm.2; omega) _).mono ?_
    rintro _ w5 ⟨o5, k5, rfl, F5⟩
    refine ⟨_, _, _, _, _, rfl, ?_⟩
    have e : says (get n (nibbles key)) = ((if (decide (q = p)) = true then x else []), decide (q = p)) := by
      rw [← hg]
      by_cases hqp : q = p
      · simp [Trie.get, hqp, says]
      · simp [Trie.get, hqp, says]
    rw [e] at hR
    exact hR _ _ ⟨o5, k5, rfl, Fresh.from_ F5 M3⟩
  | row q m =>
    obtain ⟨b, oq, cq, vk, rfl, B, hq, hqc, hkid⟩ := hm
    have B3 := B.blk.mod' M2
    simp only [Option.some.injEq, exists_eq_left', add_at, Nat.zero_add]
    refine ⟨_, ask_no und_pleaf zero_pleaf (by decide) w3, _, _, rfl, fun h => (by cases h), fun _ => ⟨_, ask_yes und_prow w3, _, _, rfl, fun _ => ?_, fun h => by cases h⟩⟩
    simp only [Option.some.injEq, exists_eq_left', add_at, Nat.zero_add]
    refine ⟨_, _, _, B3.rd1 rfl, ?_⟩
    refine (begins_calls hr hpk (hq.rd.mod' M2)).mono ?_
    rintro e4 w4 ⟨rfl, he⟩
    split at he
    · rename_i hpre
      subst he
      refine ⟨_, _, _, _, rfl, fun h => (by cases h), fun _ => ⟨_, B3.rd1 rfl, ⟨p.drop q.length, m, rfl, by rw [List.length_drop]; omega, ?_, hnib.drop _, M2, hkid, hcm.2.2.2, hsm.2, ?_⟩, ?_⟩⟩
      · have := hr.sub (lo := q.length) (n := p.length - q.length) hpk
        rw [List.take_of_length_le (by rw [List.length_drop]; omega)] at this
        exact this
      · rw [← hg]; simp only [Trie.get]; rw [if_pos hpre]
      · have h1 : 1 ≤ q.length := List.length_pos_iff.2 hcm.1
        have h2 := (List.isPrefixOf_iff_prefix.1 hpre).length_le
        rw [List.length_drop]; omega
    · rename_i hpre
      subst he
      exact ⟨_, _, _, _, rfl, fun _ => none_ _ (Mod.refl _) (by simp only [Trie.get]; rw [if_neg hpre]), fun h => by cases h⟩
  | branch cs x =>
    obtain ⟨b, vs, ox, cx, rfl, B, hx, hkids⟩ := hm
    refine ⟨_, ask_no und_pleaf zero_pleaf (by decide) w3, _, _, rfl, fun h => (by cases h), fun _ => ⟨_, ask_no und_prow zero_prow (by decide) w3, _, _, rfl, fun h => (by cases h), fun _ => ⟨_, ask_yes und_pbranch w3, _, _, rfl, fun _ => ⟨fun h0 => ?_, fun h0 => ?_⟩, fun h => by cases h⟩⟩⟩
    all_goals
      rintro _ rfl
      have MD := Mod.drew (S := NoB) w3
      have M3 := M2.trans MD (fun _ _ h => h)
      have B3 := B.blk.mod' M3
      simp only [Option.some.injEq, exists_eq_left', add_at, Nat.zero_add]
    · have hp0 : p = [] := List.eq_nil_of_length_eq_zero (by omega)
      subst hp0
      refine ⟨_, _, _, B3.rd1 (brA_val _ _ _ _), _, _, _, B3.rd1 (brA_val _ _ _ _), ?_⟩
      have hxl := hsm.1
      refine (found_calls (hx.rd.mod' M3) (by omega) _).mono ?_
      rintro _ w5 ⟨o5, k5, rfl, F5⟩
      refine ⟨_, _, _, _, _, rfl, ?_⟩
      have e : says (get n (nibbles key)) = ((if (decide (((x.length : Nat) : Int) > 0)) = true then x else []), decide (((x.length : Nat) : Int) > 0)) := by
        rw [← hg]
        cases x with
        | nil => simp [Trie.get, says]
        | cons a r => simp [Trie.get, says]
      rw [e] at hR
      exact hR _ _ ⟨o5, k5, rfl, Fresh.from_ F5 M3⟩
    · cases p with
      | nil => simp at h0
      | cons a r =>
        have ha : a.toNat < 16 := hnib a (by simp)
        obtain ⟨pb, pf, rfl, hpb, hpc⟩ := rdb_get (hr.mod' MD) (i := 0) (by simp)
        simp only [Option.some.injEq, exists_eq_left', add_at, Nat.add_zero] at hpc ⊢
        simp only [List.getElem_cons_zero] at hpc
        refine ⟨by simp, _, hpc, by omega, vs ⟨a.toNat, ha⟩, ?_, by simp, ⟨r, cs ⟨a.toNat, ha⟩, by simp, by simp at hpk ⊢; omega, ?_, fun y hy => hnib y (by simp [hy]), M3, hkids _, hcm.1 _, hsm.2 _, ?_⟩, by simp⟩
        · rw [Int.toNat_natCast]
          exact B3.rd1 (brA_at vs ox x.length cx ⟨a.toNat, ha⟩)
        · have := (hr.mod' MD).sub (lo := 1) (n := r.length) hpk
          simpa using this
        · rw [← hg]; simp only [Trie.get]; rw [dif_pos ha]
end
end Go.Proofs.Ytfghidehlnfdiaa
end

section
set_option linter.unusedVariables false
set_option linter.unusedSimpArgs false
namespace Go.Trie
theorem lay_nil (cs : Fin 16 → Nd) (v x : By) : lay cs v [] x = .branch cs x := rfl
theorem lay_cons (cs : Fin 16 → Nd) (v x : By) (a : UInt8) (r : By) : lay cs v (a :: r) x = .branch (upd cs a (.leaf r x)) v := rfl
end Go.Trie
namespace Go.Proofs.Ytfghidehlnfdiaa
open Go Go.Vcg Go.Trie
section
variable {C : Type} {S : C → Prop} {w0 w w1 w' : World} {lab lab2 : Nat → C} {c : C}
/-- A branch that is being made: block D, all it refers to in the blocks of colour c. -/
structure BrAt (w : World) (lab : Nat → C) (c : C) (D : Nat) (cs : Fin 16 → Nd) (x : By) : Prop where
  mk :: (ex : ∃ vs ov cv, Blk w D tBranch (brA vs ov x.length cv) ∧ CBy w lab c ov x ∧ ∀ i, NodeAt w lab c (cs i) (vs i))
theorem BrAt.node {D : Nat} {cs : Fin 16 → Nd} {x : By} (h : BrAt w lab c D cs x) (hD : lab D = c) : NodeAt w lab c (.branch cs x) (.iface tPBranch (.pointer (some ⟨D, 0, none⟩))) := by
  obtain ⟨vs, ov, cv, h1, h2, h3⟩ := h.ex
  exact ⟨D, vs, ov, cv, rfl, ⟨h1, hD⟩, h2, h3⟩
theorem BrAt.stp {lab' : Nat → C} {D : Nat} {cs : Fin 16 → Nd} {x : By} (h : BrAt w lab c D cs x) (s : Stp S w lab w' lab') (hs : ¬ S c) (hD : ¬ S (lab D)) : BrAt w' lab' c D cs x := by
  obtain ⟨vs, ov, cv, h1, h2, h3⟩ := h.ex
  exact ⟨⟨vs, ov, cv, (s.block D h1.lt hD).trans h1, h2.stp s hs, fun i => (h3 i).stp s hs⟩⟩
theorem BrAt.re {C' : Type} {lab' : Nat → C'} {c' : C'} {D : Nat} {cs : Fin 16 → Nd} {x : By} (h : BrAt w lab c D cs x) (hl : ∀ k, k < w.heap.size → lab k = c → lab' k = c') : BrAt w lab' c' D cs x := by
  obtain ⟨vs, ov, cv, h1, h2, h3⟩ := h.ex
  exact ⟨⟨vs, ov, cv, h1, CBy.re h2 hl, fun i => NodeAt.re hl (h3 i)⟩⟩
/-- A new branch without children. -/
abbrev br0 : Array Value := #[.nilIface, .nilIface, .nilIface, .nilIface, .nilIface, .nilIface, .nilIface, .nilIface, .nilIface, .nilIface, .nilIface, .nilIface, .nilIface, .nilIface, .nilIface, .nilIface, (.slice none 0 0)]
theorem br0_eq : br0 = brA (fun _ => .nilIface) none 0 0 := by kernel_rfl
theorem BrAt.new (w : World) (lab : Nat → C) (c : C) : BrAt (w.alloc (.cells br0 tBranch)) lab c w.heap.size none16 [] := by
  refine ⟨⟨fun _ => .nilIface, none, 0, ?_, CBy.nil _ _ _ _, fun i => rfl⟩⟩
  have := Blk.new w tBranch br0
  rw [br0_eq] at this ⊢
  exact this
/-- A leaf laid into a branch that is being made: D of another colour than c. -/
theorem lay_at {D : Nat} {cs : Fin 16 → Nd} {v p x : By} {o ox : Option Addr} {k kx : Nat} (h : BrAt w lab c D cs v) (hD : lab D ≠ c) (hp : CBy w lab c o p) (hpk : p.length ≤ k) (hn : Nib p) (hx : CBy w lab c ox x) :
    Calls Try.prog trie_branch_lay.n #[.pointer (some ⟨D, 0, none⟩), .slice o p.length k, .slice ox x.length kx] w (fun e w' => e = .returned (.tuple #[]) ∧ Vcg.Mod (· = D) w w' ∧
      ∃ cs' v', lay cs v p x = .branch cs' v' ∧ BrAt w' (ext lab w.heap.size c) c D cs' v') := by
  obtain ⟨vs, ov, cv, h1, h2, h3⟩ := h.ex
  refine (lay_calls (kx := kx) h1 hp.rd hn).mono ?_
  rintro _ w1 ⟨rfl, M, hnil, hcons⟩
  have s : Stp (fun z => z ≠ c) w lab w1 (ext lab w.heap.size c) := Stp.of_mod M c (fun k hk e => by subst e; exact hD)
  refine ⟨rfl, M, ?_⟩
  cases p with
  | nil => exact ⟨cs, x, lay_nil _ _ _, ⟨⟨vs, ox, kx, hnil rfl, hx.stp s (fun h => h rfl), fun i => (h3 i).stp s (fun h => h rfl)⟩⟩⟩
  | cons a r =>
    obtain ⟨b, hb, hB, hD'⟩ := hcons a r rfl
    refine ⟨_, _, lay_cons _ _ _ _ _, ⟨⟨_, ov, cv, hD', h2.stp s (fun h => h rfl), fun i => ?_⟩⟩⟩
    unfold Trie.upd updV
    split
    · have hsub := hp.sub (lo := 1) (n := r.length) hpk
      simp only [List.drop_succ_cons, List.drop_zero, List.take_length] at hsub
      exact ⟨b, _, _, ox, kx, rfl, ⟨hB, ext_new hb⟩, hsub.stp s (fun h => h rfl), by simp at hpk ⊢; omega, hx.stp s (fun h => h rfl)⟩
    · exact (h3 i).stp s (fun h => h rfl)
end
end Go.Proofs.Ytfghidehlnfdiaa
end

section
set_option linter.unusedVariables false
set_option linter.unusedSimpArgs false
namespace Go.Trie
end Go.Trie
namespace Go.Trie
theorem put_branch_cons (cs : Fin 16 → Nd) (y : By) (a : UInt8) (r x : By) (ha : a.toNat < 16) : put (.branch cs y) (a :: r) x = .branch (fun i => if i.val = a.toNat then put (cs ⟨a.toNat, ha⟩) r x else cs i) y := by
  simp only [put]
  congr 1
  funext i
  by_cases hi : i.val = a.toNat
  · rw [if_pos hi, if_pos hi, show i = ⟨a.toNat, ha⟩ from Fin.ext hi]
  · rw [if_neg hi, if_neg hi]
end Go.Trie
namespace Go.Proofs.Ytfghidehlnfdiaa
open Go Go.Vcg Go.Trie
section
variable {C : Type} {S : C → Prop} {w0 w w1 w' : World} {lab lab2 : Nat → C} {c : C}
/-- What may be part of nodes, while block D is being made. -/
def mask (lab : Nat → C) (c : C) (N D : Nat) : Nat → Prop := fun k => k ≠ D ∧ (k < N → lab k = c)
theorem Stp.same {C : Type} {w w' : World} (M : Vcg.Mod NoB w w') (L : Nat → C) : Stp NoS w L w' L := ⟨M.os, M.tape, M.output, M.size, fun _ _ => rfl, fun k hk _ => M.block k hk (fun h => h)⟩
theorem mask_in {N D : Nat} (hN : w.heap.size ≤ N) (hD : N ≤ D) : ∀ k, k < w.heap.size → lab k = c → mask lab c N D k = True := fun k hk hc => eq_true ⟨by omega, fun _ => hc⟩
theorem mask_D {N D : Nat} : mask lab c N D D ≠ True := fun h => (of_eq_true h).1 rfl
theorem mask_hi {N D M : Nat} (hN : N ≤ M) (hD : D < M) : ∀ k, M ≤ k → mask lab c N D k = True := fun k hk => eq_true ⟨by omega, fun h => by omega⟩
theorem mask_out {N D : Nat} (w : World) : ∀ k, k < w.heap.size → mask lab c N D k = True → ext lab N c k = c := fun k _ h => by
  by_cases hk : k < N
  · rw [ext_old hk]; exact (of_eq_true h).2 hk
  · exact ext_new (by omega)
theorem unext {L : Nat → Prop} {M : Nat} (w : World) (h : ∀ k, M ≤ k → L k = True) : ∀ k, k < w.heap.size → ext L M True k = True → L k = True := fun k _ he => by
  by_cases hk : k < M
  · rw [ext_old hk] at he; exact he
  · exact h k (by omega)
theorem BrAt.kid {D a : Nat} {cs : Fin 16 → Nd} {x : By} {L : Nat → C} {n : Nd} {v : Value} (h : BrAt w L c D cs x) (hD : L D ≠ c) (ha : a < 16) (hn : NodeAt w L c n v) :
    CanSet w ⟨D, a, none⟩ v ∧ BrAt (w.setCell ⟨D, a, none⟩ v) L c D (fun i => if i.val = a then n else cs i) x := by
  obtain ⟨vs, ov, cv, h1, h2, h3⟩ := h.ex
  have B1 := h1.set a v
  rw [brA_set _ _ _ _ _ ha] at B1
  have s : Stp (fun z => z ≠ c) w L (w.setCell ⟨D, a, none⟩ v) L := Stp.setCell hD
  refine ⟨h1.canSet (by rw [brA_size]; omega) hn.one, ⟨⟨_, ov, cv, B1, h2.stp s (fun h => h rfl), fun i => ?_⟩⟩⟩
  unfold updV
  split
  · exact hn.stp s (fun h => h rfl)
  · exact (h3 i).stp s (fun h => h rfl)
theorem BrAt.val {D : Nat} {cs : Fin 16 → Nd} {x y : By} {L : Nat → C} {o : Option Addr} {k : Nat} (h : BrAt w L c D cs x) (hD : L D ≠ c) (hy : CBy w L c o y) :
    CanSet w ⟨D, 16, none⟩ (.slice o y.length k) ∧ BrAt (w.setCell ⟨D, 16, none⟩ (.slice o y.length k)) L c D cs y := by
  obtain ⟨vs, ov, cv, h1, h2, h3⟩ := h.ex
  have B1 := h1.set 16 (.slice o y.length k)
  rw [brA_setv] at B1
  have s : Stp (fun z => z ≠ c) w L (w.setCell ⟨D, 16, none⟩ (.slice o y.length k)) L := Stp.setCell hD
  exact ⟨h1.canSet (by rw [brA_size]; omega) rfl, ⟨⟨_, o, k, B1, hy.stp s (fun h => h rfl), fun i => (h3 i).stp s (fun h => h rfl)⟩⟩⟩
/-- A branch that is made: it may be one. -/
theorem BrAt.grown {N D : Nat} {cs : Fin 16 → Nd} {x : By} (h : BrAt w1 (mask lab c w.heap.size D) True D cs x) (M : Vcg.Mod NoB w w1) (hD : w.heap.size ≤ D) : Grown w lab c w1 (.branch cs x) (.iface tPBranch (.pointer (some ⟨D, 0, none⟩))) :=
  ⟨M, (BrAt.re h (mask_out w1)).node (ext_new hD)⟩
theorem Grown.rowed {w2 : World} {n : Nd} {v : Value} {o : Option Addr} {k : Nat} {p : By} (h : Grown w lab c w1 n v) (hs : plen n ≤ 128) (hp : CBy w lab c o p) (hk : p.length ≤ k) (hl : p.length ≤ 2 ^ 30) :
    Calls Try.prog trie_rowed.n #[.slice o p.length k, v] w1 (fun e w2 => ∃ v', e = .returned v' ∧ Grown w lab c w2 (rowed p n) v') := by
  refine (rowed_calls h.2 hs (hp.stp (S := NoS) h.stp (fun h => h)) hk hl).mono ?_
  rintro _ w2 ⟨v', lab', rfl, s, h'⟩
  exact ⟨v', rfl, grown_of (h.stp.trans s) h'⟩
end
theorem info_branch : (Try.prog.info? tBranch).map (·.size) = some 17 := by kernel_rfl
theorem node_brA_one {C : Type} {w : World} {lab : Nat → C} {c : C} {cs : Fin 16 → Nd} {vs : Fin 16 → Value} {o : Option Addr} {l k : Nat} (h : ∀ i, NodeAt w lab c (cs i) (vs i)) : ∀ v ∈ (brA vs o l k).toList, v.oneCell' = true := by
  intro v hv
  simp only [brA, List.mem_append, List.mem_ofFn, List.mem_singleton] at hv
  rcases hv with ⟨i, rfl⟩ | rfl
  · exact (h i).one
  · rfl
theorem tput_calls : ∀ (n : Nd) {C : Type} {w : World} {lab : Nat → C} {c : C} {v : Value} {o ox : Option Addr} {k kx t : Nat} {p x : By}, NodeAt w lab c n v → Canon n → Small n → CBy w lab c o p → p.length ≤ k → p.length ≤ 128 → Nib p → CBy w lab c ox x → x.length ≤ 1024 →
    Calls Try.prog trie_Trie_put.n #[.pointer (some ⟨t, 0, none⟩), v, .slice o p.length k, .slice ox x.length kx] w (fun e w' => ∃ v', e = .returned (.tuple #[v', .int .i64 0]) ∧ Grown w lab c w' (Trie.put n p x) v')
  | .nil, C, w, lab, c, v, o, ox, k, kx, t, p, x, h, hc, hs, hp, hk, hpl, hn, hx, hxl => by
    refine calls_gen fun R hR => trie_Trie_put.vc _ _ _ _ _ _ _ _ _ _ ?_
    unfold trie_Trie_put.Vc
    refine (seen_calls h t).mono ?_
    rintro _ w ⟨rfl, rfl⟩
    cases h
    refine ⟨_, _, rfl, fun h => (h rfl).elim, fun _ => ⟨_, ask_nil und_pleaf zero_pleaf _, _, _, rfl, fun h => (by cases h), fun _ => ⟨_, ask_nil und_prow zero_prow _, _, _, rfl, fun h => (by cases h), fun _ => ⟨_, ask_nil und_pbranch zero_pbranch _, _, _, rfl, fun h => (by cases h), fun _ => ?_⟩⟩⟩⟩
    rintro d w2 ⟨rfl, rfl⟩
    have M := Mod.alloc (S := NoB) w (.cells #[.slice o p.length k, .slice ox x.length kx] tLeaf)
    have s : Stp NoS w lab (w.alloc (.cells #[.slice o p.length k, .slice ox x.length kx] tLeaf)) (ext lab w.heap.size c) := Stp.of_nob M _
    exact hR _ _ ⟨_, rfl, M, _, o, k, ox, kx, rfl, new_cb (Mod.refl w) _ _, hp.stp s (fun h => h), hk, hx.stp s (fun h => h)⟩
  | .leaf q y, C, w, lab, c, v, o, ox, k, kx, t, p, x, h, hc, hs, hp, hk, hpl, hn, hx, hxl => by
    refine calls_gen fun R hR => trie_Trie_put.vc _ _ _ _ _ _ _ _ _ _ ?_
    unfold trie_Trie_put.Vc
    refine (seen_calls h t).mono ?_
    rintro _ w ⟨rfl, rfl⟩
    have h' := h
    obtain ⟨b, oq, cq, oy, cy, rfl, B, hq, hqc, hy⟩ := h'
    refine ⟨_, _, rfl, fun h => (h rfl).elim, fun _ => ⟨_, ask_yes und_pleaf _, _, _, rfl, fun _ => ?_, fun h => by cases h⟩⟩
    simp only [Option.some.injEq, exists_eq_left', add_at, Nat.zero_add]
    refine ⟨_, _, _, B.blk.rd1 rfl, ?_⟩
    refine (shared_calls hq.rd hp.rd (by have := hs.1; omega)).mono ?_
    rintro _ w1 ⟨rfl, M1⟩
    have B1 := B.blk.mod' M1
    obtain ⟨sl1, sl2⟩ := shared_le q p
    refine ⟨_, rfl, fun w' => w' = w1 ∧ ¬ (shared q p = q.length ∧ shared q p = p.length), ⟨_, _, _, B1.rd1 rfl, fun e1 => ⟨fun e2 => ?_, fun e2 => ⟨rfl, fun h => e2 (by rw [h.2])⟩⟩, fun e1 => ⟨rfl, fun h => e1 (by rw [h.1])⟩⟩, ?_⟩
    · rintro d w2 ⟨rfl, rfl⟩
      have M := M1.step_alloc (.cells #[.slice o p.length k, .slice ox x.length kx] tLeaf)
      have s : Stp NoS w lab (w1.alloc (.cells #[.slice o p.length k, .slice ox x.length kx] tLeaf)) (ext lab w.heap.size c) := Stp.of_nob M _
      refine hR _ _ ⟨_, rfl, ?_⟩
      simp only [Trie.put]
      rw [if_pos ⟨by omega, by omega⟩]
      exact ⟨M, _, o, k, ox, kx, rfl, new_cb M1 _ _, hp.stp s (fun h => h), hk, hx.stp s (fun h => h)⟩
    · rintro _ w1 ⟨rfl, hne⟩
      rintro d w2 ⟨rfl, rfl⟩ _ rfl
      have hsz := M1.size
      generalize hD : w1.heap.size = D at *
      have M2 : Vcg.Mod NoB w (w1.alloc (.cells br0 tBranch)).drew := (M1.step_alloc _).step_drew
      have Br := BrAt.new w1 (mask lab c w.heap.size D) True
      rw [hD] at Br
      replace Br := Br.stp (Stp.drew NoS _ _) (fun h => h) (fun h => h)
      have hsz2 : (w1.alloc (.cells br0 tBranch)).drew.heap.size = D + 1 := by rw [size_drew, size_alloc, hD]
      have B2 := B.blk.mod' M2
      generalize (w1.alloc (.cells br0 tBranch)).drew = w2 at *
      have inL := mask_in (lab := lab) (c := c) (w := w) (Nat.le_refl _) hsz
      have s2 := Stp.same M2 (mask lab c w.heap.size D)
      have hqL := (CBy.re hq inL).stp s2 (fun h => h)
      have hyL := (CBy.re hy inL).stp s2 (fun h => h)
      refine ⟨_, _, _, B2.rd1 rfl, ⟨by omega, by omega⟩, _, _, _, B2.rd1 rfl, ?_⟩
      have hqd := hqL.sub (lo := shared q p) (n := q.length - shared q p) hqc
      rw [List.take_of_length_le (by rw [List.length_drop]; omega)] at hqd
      have hlay := lay_at (k := cq - shared q p) (kx := cy) Br mask_D hqd (by rw [List.length_drop]; omega) (Nib.drop hc.1 _) hyL
      rw [List.length_drop] at hlay
      simp only [Int.toNat_natCast]
      refine hlay.mono ?_
      rintro _ w3 ⟨rfl, M3, cs3, v3, e3, Br3⟩
      have M03 := mod_of M2 M3 hsz
      replace Br3 := BrAt.re Br3 (unext w3 (mask_hi (by omega) (by omega)))
      have s3 := Stp.same M03 (mask lab c w.heap.size D)
      have hpL := (CBy.re hp inL).stp s3 (fun h => h)
      have hxL := (CBy.re hx inL).stp s3 (fun h => h)
      refine ⟨rfl, ⟨by omega, by omega⟩, ?_⟩
      have hpd := hpL.sub (lo := shared q p) (n := p.length - shared q p) hk
      rw [List.take_of_length_le (by rw [List.length_drop]; omega)] at hpd
      have hlay := lay_at (k := k - shared q p) (kx := kx) Br3 mask_D hpd (by rw [List.length_drop]; omega) (Nib.drop hn _) hxL
      rw [List.length_drop] at hlay
      refine hlay.mono ?_
      rintro _ w4 ⟨rfl, M4, cs4, v4, e4, Br4⟩
      have M04 := mod_of M03 M4 hsz
      have hsz3 := M3.size
      replace Br4 := BrAt.re Br4 (unext w4 (mask_hi (by omega) (by omega)))
      have G := BrAt.grown (N := 0) Br4 M04 hsz
      have htl : (p.take (shared q p)).length = shared q p := by rw [List.length_take]; omega
      have hrow := Grown.rowed (k := k) (w2 := w4) G (by simp [plen]) (hp.take (shared q p)) (by omega) (by omega)
      rw [htl] at hrow
      refine ⟨rfl, ⟨by omega, by omega⟩, hrow.mono ?_⟩
      rintro _ w5 ⟨v5, rfl, G5⟩
      refine ⟨_, rfl, hR _ _ ⟨v5, rfl, ?_⟩⟩
      simp only [Trie.put]
      rw [if_neg hne, e3]
      simp only [lay2]
      rw [e4]
      exact G5
  | .row q m, C, w, lab, c, v, o, ox, k, kx, t, p, x, h, hc, hs, hp, hk, hpl, hn, hx, hxl => by
    have ih := @tput_calls m
    refine calls_gen fun R hR => trie_Trie_put.vc _ _ _ _ _ _ _ _ _ _ ?_
    unfold trie_Trie_put.Vc
    refine (seen_calls h t).mono ?_
    rintro _ w ⟨rfl, rfl⟩
    have h' := h
    obtain ⟨b, oq, cq, vm, rfl, B, hq, hqc, hm⟩ := h'
    refine ⟨_, _, rfl, fun h => (h rfl).elim, fun _ => ⟨_, ask_no und_pleaf zero_pleaf (by decide) _, _, _, rfl, fun h => (by cases h), fun _ => ⟨_, ask_yes und_prow _, _, _, rfl, fun _ => ?_, fun h => by cases h⟩⟩⟩
    simp only [Option.some.injEq, exists_eq_left', add_at, Nat.zero_add]
    refine ⟨_, _, _, B.blk.rd1 rfl, ?_⟩
    refine (shared_calls hq.rd hp.rd (by have := hs.1; omega)).mono ?_
    rintro _ w1 ⟨rfl, M1⟩
    have B1 := B.blk.mod' M1
    obtain ⟨sl1, sl2⟩ := shared_le q p
    refine ⟨_, rfl, _, _, _, B1.rd1 rfl, fun e1 => ?_, fun e1 => ?_⟩
    · rintro _ rfl
      have M2 := M1.step_drew
      have s2 : Stp NoS w lab w1.drew (ext lab w.heap.size c) := Stp.of_nob M2 c
      have B2 := B.blk.mod' M2
      refine ⟨_, B2.rd1 rfl, ⟨by omega, by omega⟩, ?_⟩
      have hp2 := hp.stp s2 (fun h => h)
      have hpd := hp2.sub (lo := shared q p) (n := p.length - shared q p) hk
      rw [List.take_of_length_le (by rw [List.length_drop]; omega)] at hpd
      have hput := ih (k := k - shared q p) (kx := kx) (t := t) (hm.stp s2 (fun h => h)) hc.2.2.2 hs.2 hpd (by rw [List.length_drop]; omega) (by rw [List.length_drop]; omega) (hn.drop _) (hx.stp s2 (fun h => h)) hxl
      rw [List.length_drop] at hput
      simp only [Int.toNat_natCast]
      refine hput.mono ?_
      rintro _ w3 ⟨v3, rfl, G3⟩
      have M3 := M2.trans G3.1 (fun _ _ h => h)
      have B3 := B.blk.mod' M3
      refine ⟨_, _, rfl, fun h => (h rfl).elim, fun _ => ⟨_, _, _, B3.rd1 rfl, G3.2.one, ?_⟩⟩
      rintro d w4 ⟨rfl, rfl⟩
      have M4 := M3.step_alloc (.cells #[.slice oq q.length cq, v3] tRow)
      have s4 : Stp NoS w lab (w3.alloc (.cells #[.slice oq q.length cq, v3] tRow)) (ext lab w.heap.size c) := Stp.of_nob M4 c
      refine hR _ _ ⟨_, rfl, M4, ?_⟩
      simp only [Trie.put]
      rw [if_pos (by omega)]
      have hg := (grown_of (s2.trans G3.stp) G3.2).2
      exact ⟨_, oq, cq, v3, rfl, new_cb M3 _ _, hq.stp s4 (fun h => h), hqc, hg.stp (Stp.same (Mod.alloc w3 _) (ext lab w.heap.size c)) (fun h => h)⟩
    · have hlt : shared q p < q.length := by omega
      rintro d w2 ⟨rfl, rfl⟩ _ rfl
      have hsz := M1.size
      generalize hD : w1.heap.size = D at *
      have M2 : Vcg.Mod NoB w (w1.alloc (.cells br0 tBranch)).drew := (M1.step_alloc _).step_drew
      have Br := BrAt.new w1 (mask lab c w.heap.size D) True
      rw [hD] at Br
      replace Br := Br.stp (Stp.drew NoS _ _) (fun h => h) (fun h => h)
      have hsz2 : (w1.alloc (.cells br0 tBranch)).drew.heap.size = D + 1 := by rw [size_drew, size_alloc, hD]
      have B2 := B.blk.mod' M2
      generalize (w1.alloc (.cells br0 tBranch)).drew = w2 at *
      have inL := mask_in (lab := lab) (c := c) (w := w) (Nat.le_refl _) hsz
      have s2 := Stp.same M2 (mask lab c w.heap.size D)
      have hqL := (CBy.re hq inL).stp s2 (fun h => h)
      have hmL := (NodeAt.re inL hm).stp s2 (fun h => h)
      obtain ⟨qb, qf, rfl, hqb, hqcell⟩ := rdb_get hqL.rd hlt
      have hnq : (q[shared q p]).toNat < 16 := hc.2.1 _ (List.getElem_mem _)
      have ew : IntKind.wrap .i64 ((shared q p : Int) + 1) = ((shared q p + 1 : Nat) : Int) := by have := hs.1; rw [wrap_i64_small (by omega) (by omega)]; omega
      rw [ew]
      simp only [Option.some.injEq, exists_eq_left', add_at, Int.toNat_natCast]
      refine ⟨_, _, _, B2.rd1 rfl, _, rfl, ⟨by omega, by omega⟩, _, by rw [add_at]; exact hqcell, _, _, _, B2.rd1 rfl, ⟨by omega, by omega⟩, _, B2.rd1 rfl, ?_⟩
      have hqd := hqL.sub (lo := shared q p + 1) (n := q.length - (shared q p + 1)) hqc
      rw [List.take_of_length_le (by rw [List.length_drop]; omega)] at hqd
      have hrow := rowed_calls (k := cq - (shared q p + 1)) hmL (plen_small hs.2) hqd (by rw [List.length_drop]; omega) (by rw [List.length_drop]; have := hs.1; omega)
      rw [List.length_drop] at hrow
      refine hrow.mono ?_
      rintro _ w3 ⟨v3, lab3, rfl, s3, hn3⟩
      have G3 := grown_of s3 hn3
      have M03 := M2.trans G3.1 (fun _ _ h => h)
      have hn3 := NodeAt.re (unext w3 (mask_hi (by omega) (by omega))) G3.2
      have Br3 := Br.stp (Stp.same G3.1 _) (fun h => h) (fun h => h)
      have hsz3 := G3.1.size
      refine ⟨_, rfl, by rw [add_at]; exact (cell_mod G3.1 hqb (fun h => h)).trans hqcell, (B2.mod' G3.1).rd1 rfl, ⟨by omega, by omega⟩, ?_⟩
      obtain ⟨hset, Br4⟩ := Br3.kid mask_D hnq hn3
      simp only [Int.toNat_natCast, Nat.zero_add]
      refine ⟨hset, ?_⟩
      rintro _ rfl
      have M4 : Vcg.Mod (· = D) w3 (w3.setCell ⟨D, (q[shared q p]).toNat, none⟩ v3) := Mod.setCell w3 ⟨D, _, none⟩ _
      have M04 := mod_of M03 M4 hsz
      have hsz4 := M4.size
      generalize w3.setCell ⟨D, (q[shared q p]).toNat, none⟩ v3 = w4 at *
      have s4 := Stp.same M04 (mask lab c w.heap.size D)
      have hpL := (CBy.re hp inL).stp s4 (fun h => h)
      have hxL := (CBy.re hx inL).stp s4 (fun h => h)
      refine ⟨⟨by omega, by omega⟩, ?_⟩
      have hpd := hpL.sub (lo := shared q p) (n := p.length - shared q p) hk
      rw [List.take_of_length_le (by rw [List.length_drop]; omega)] at hpd
      have hlay := lay_at (k := k - shared q p) (kx := kx) Br4 mask_D hpd (by rw [List.length_drop]; omega) (Nib.drop hn _) hxL
      rw [List.length_drop] at hlay
      refine hlay.mono ?_
      rintro _ w5 ⟨rfl, M5, cs5, v5, e5, Br5⟩
      have M05 := mod_of M04 M5 hsz
      replace Br5 := BrAt.re Br5 (unext w5 (mask_hi (by omega) (by omega)))
      have G := BrAt.grown (N := 0) Br5 M05 hsz
      have eu : (fun i : Fin 16 => if i.val = (q[shared q p]).toNat then rowed (q.drop (shared q p + 1)) m else none16 i) = upd none16 (q[shared q p]) (rowed (q.drop (shared q p + 1)) m) := rfl
      rw [eu] at e5
      have htl : (p.take (shared q p)).length = shared q p := by rw [List.length_take]; omega
      have hrow := Grown.rowed (k := k) (w2 := w5) G (by simp [plen]) (hp.take (shared q p)) (by omega) (by omega)
      rw [htl] at hrow
      refine ⟨rfl, ⟨by omega, by omega⟩, hrow.mono ?_⟩
      rintro _ w6 ⟨v6, rfl, G6⟩
      refine ⟨_, rfl, hR _ _ ⟨v6, rfl, ?_⟩⟩
      simp only [Trie.put]
      rw [if_neg (by omega), List.getD_eq_getElem?_getD, List.getElem?_eq_getElem hlt]
      simp only [Option.getD_some]
      rw [e5]
      exact G6
  | .branch cs y, C, w, lab, c, v, o, ox, k, kx, t, p, x, h, hc, hs, hp, hk, hpl, hn, hx, hxl => by
    have ih := fun i => @tput_calls (cs i)
    refine calls_gen fun R hR => trie_Trie_put.vc _ _ _ _ _ _ _ _ _ _ ?_
    unfold trie_Trie_put.Vc
    refine (seen_calls h t).mono ?_
    rintro _ w ⟨rfl, rfl⟩
    have h' := h
    obtain ⟨b, vs, oy, cy, rfl, B, hy, hkids⟩ := h'
    refine ⟨_, _, rfl, fun h => (h rfl).elim, fun _ => ⟨_, ask_no und_pleaf zero_pleaf (by decide) _, _, _, rfl, fun h => (by cases h), fun _ => ⟨_, ask_no und_prow zero_prow (by decide) _, _, _, rfl, fun h => (by cases h), fun _ => ⟨_, ask_yes und_pbranch _, _, _, rfl, fun _ => ?_, fun h => by cases h⟩⟩⟩⟩
    simp only [Option.some.injEq, exists_eq_left', add_at, Nat.zero_add]
    refine ⟨_, B.blk.rowAll (brA_size _ _ _ _), ?_⟩
    rintro d w1 ⟨rfl, rfl⟩
    have D1 := Blk.new w tBranch br0
    have M1 := Mod.alloc (S := NoB) w (.cells br0 tBranch)
    have hst := D1.storeAll (P := Try.prog) (ty := tBranch) (L := brA vs oy y.length cy) (by rw [brA_size]; exact info_branch) (by rw [brA_size]; rfl) (node_brA_one hkids)
    refine ⟨_, hst, ?_⟩
    have D2 := D1.row_same (brA vs oy y.length cy)
    have M2 : Vcg.Mod NoB w ((w.alloc (.cells br0 tBranch)).setRow w.heap.size (brA vs oy y.length cy)) := M1.step_row (fun h => (Nat.lt_irrefl _ h).elim)
    have hsz2 : ((w.alloc (.cells br0 tBranch)).setRow w.heap.size (brA vs oy y.length cy)).heap.size = w.heap.size + 1 := by rw [size_setRow, size_alloc]
    have inL := mask_in (lab := lab) (c := c) (w := w) (Nat.le_refl _) (Nat.le_refl w.heap.size)
    have hD0 : w.heap.size ≤ w.heap.size := Nat.le_refl _
    generalize (w.alloc (.cells br0 tBranch)).setRow w.heap.size (brA vs oy y.length cy) = w2 at *
    have s2 := Stp.same M2 (mask lab c w.heap.size w.heap.size)
    have Br : BrAt w2 (mask lab c w.heap.size w.heap.size) True w.heap.size cs y := ⟨⟨vs, oy, cy, D2, (CBy.re hy inL).stp s2 (fun h => h), fun i => (NodeAt.re inL (hkids i)).stp s2 (fun h => h)⟩⟩
    have hpL := (CBy.re hp inL).stp s2 (fun h => h)
    have hxL := (CBy.re hx inL).stp s2 (fun h => h)
    refine ⟨fun h0 => ?_, fun h0 => ?_⟩
    · have hp0 : p = [] := List.eq_nil_of_length_eq_zero (by omega)
      subst hp0
      obtain ⟨hset, Br3⟩ := Br.val (k := kx) mask_D hxL
      refine ⟨hset, ?_⟩
      rintro _ rfl
      have M3 := mod_of M2 (Mod.setCell w2 ⟨w.heap.size, 16, none⟩ (.slice ox x.length kx)) hD0
      exact hR _ _ ⟨_, rfl, by simp only [Trie.put]; exact BrAt.grown (N := 0) Br3 M3 hD0⟩
    · rintro _ rfl
      cases p with
      | nil => simp at h0
      | cons a r =>
        have ha : a.toNat < 16 := hn a (by simp)
        have MD := Mod.drew (S := NoB) w2
        have s3 := Stp.same MD (mask lab c w.heap.size w.heap.size)
        replace Br := Br.stp s3 (fun h => h) (fun h => h)
        replace hpL := hpL.stp s3 (fun h => h)
        replace hxL := hxL.stp s3 (fun h => h)
        have M3 := M2.trans MD (fun _ _ h => h)
        have B3 := B.blk.mod' M3
        have hsz3 : w2.drew.heap.size = w.heap.size + 1 := hsz2
        generalize w2.drew = w3 at *
        obtain ⟨pb, pf, rfl, hpb, hpc⟩ := rdb_get hpL.rd (i := 0) (by simp)
        simp only [List.getElem_cons_zero, Nat.add_zero] at hpc
        simp only [Option.some.injEq, exists_eq_left', add_at, Nat.add_zero]
        have hkid := (NodeAt.re inL (hkids ⟨a.toNat, ha⟩)).stp (Stp.same M3 _) (fun h => h)
        refine ⟨by simp, _, hpc, by omega, vs ⟨a.toNat, ha⟩, by rw [Int.toNat_natCast]; exact B3.rd1 (brA_at vs oy y.length cy ⟨a.toNat, ha⟩), by simp, ?_⟩
        have hpr := hpL.sub (lo := 1) (n := r.length) hk
        simp only [List.drop_succ_cons, List.drop_zero, List.take_length] at hpr
        refine (ih ⟨a.toNat, ha⟩ (t := t) (k := k - 1) (kx := kx) hkid (hc.1 _) (hs.2 _) hpr (by simp at hk ⊢; omega) (by simp at hpl ⊢; omega) (fun z hz => hn z (by simp [hz])) hxL hxl).mono ?_
        rintro _ w4 ⟨v4, rfl, G4⟩
        have Br4 := Br.stp (Stp.same G4.1 _) (fun h => h) (fun h => h)
        have hn4 := NodeAt.re (unext w4 (mask_hi (by omega) (by omega))) G4.2
        have hpc4 := (cell_mod G4.1 hpb (fun h => h)).trans hpc
        obtain ⟨hset, Br5⟩ := Br4.kid mask_D ha hn4
        refine ⟨_, _, rfl, fun h => (h rfl).elim, fun _ => ⟨by simp, _, hpc4, by omega, ?_⟩⟩
        simp only [Int.toNat_natCast, Nat.zero_add]
        refine ⟨hset, ?_⟩
        rintro _ rfl
        have M5 := mod_of (M3.trans G4.1 (fun _ _ h => h)) (Mod.setCell w4 ⟨w.heap.size, a.toNat, none⟩ v4) hD0
        refine hR _ _ ⟨_, rfl, ?_⟩
        rw [put_branch_cons cs y a r x ha]
        exact BrAt.grown (N := 0) Br5 M5 hD0
end Go.Proofs.Ytfghidehlnfdiaa
end

section
set_option linter.unusedVariables false
namespace Go.Proofs.Ytfghidehlnfdiaa
open Go Go.Vcg







abbrev moraineref4_head.n : Nat := 101
def moraineref4_head.Vc (n0 : Int) (n1 : Int) (w : World) (R : Ending → World → Prop) : Prop :=
  (((n1 ≤ 55 →
    ∀ (d2 : Addr) (w3 : World), IsNew w 5 #[(.int .u8 (IntKind.wrap .u8 (IntKind.wrap .i64 (n0 + n1))))] d2 w3 →
    R (.returned (.slice (some d2) 1 1)) w3)) ∧
   ((¬ n1 ≤ 55 →
    ∃ (I4 : Option Addr → Nat → Nat → Int → World → Prop) (μ4 : Option Addr → Nat → Nat → Int → World → Nat), I4 none 0 0 n1 w ∧
    (∀ (o5 : Option Addr) (l5 : Nat) (c5 : Nat) (n6 : Int) (j7 : Nat → Value) (w7 : World), I4 o5 l5 c5 n6 w7 →
      (((n6 > 0 →
        ∀ (d8 : Addr) (w9 : World), IsNew w7 5 #[(.int .u8 (IntKind.wrap .u8 (Int.tmod n6 256)))] d8 w9 →
        ∃ (v10 : Value) (w11 : World), Sem.run Try.prog (builtinV .append #[22, 22] 22 #[(.slice (some d8) 1 1), (.slice o5 l5 c5)]) w9 = .ok v10 w11 ∧
        ∃ o12 : Option Addr, ∃ l13 : Nat, ∃ l14 : Nat, v10 = (.slice o12 l13 l14) ∧
        I4 o12 l13 l14 (IntKind.wrap .i64 (Int.tdiv n6 256)) w11 ∧ μ4 o12 l13 l14 (IntKind.wrap .i64 (Int.tdiv n6 256)) w11 < μ4 o5 l5 c5 n6 w7)) ∧
       ((¬ n6 > 0 →
        ∀ (d15 : Addr) (w16 : World), IsNew w7 5 #[(.int .u8 (IntKind.wrap .u8 (IntKind.wrap .i64 ((IntKind.wrap .i64 (n0 + 55)) + ((l5 : Nat) : Int)))))] d15 w16 →
        ∃ (v17 : Value) (w18 : World), Sem.run Try.prog (builtinV .append #[22, 22] 22 #[(.slice (some d15) 1 1), (.slice o5 l5 c5)]) w16 = .ok v17 w18 ∧
        ∃ o19 : Option Addr, ∃ l20 : Nat, ∃ l21 : Nat, v17 = (.slice o19 l20 l21) ∧
        R (.returned (.slice o19 l20 l21)) w18)))))))
theorem moraineref4_head.vc (n0 : Int) (n1 : Int) (w : World) (R : Ending → World → Prop) (h : moraineref4_head.Vc n0 n1 w R) : Calls Try.prog 101 #[(.int .i64 n0), (.int .i64 n1)] w R :=
  execF_sound (R := ⟨R, false⟩) (ann := [(5, [(5, .cell (.slice)), (6, .cell (.int .i64))])]) (args := [.int .i64 n0, .int .i64 n1]) Try.func101 mixed (Eq.mp (by kernel_rfl : moraineref4_head.Vc n0 n1 w R = execF (pA Try.prog ⟨R, false⟩) Try.prog [(5, [(5, .cell (.slice)), (6, .cell (.int .i64))])] Try.f101 [.int .i64 n0, .int .i64 n1] w) h)

abbrev moraineref4_Bytes.n : Nat := 64
def moraineref4_Bytes.Vc (o0 : Option Addr) (l0 : Nat) (c0 : Nat) (w : World) (R : Ending → World → Prop) : Prop :=
  (((((l0 : Nat) : Int) = 1 →
    ∃ d1 : Addr, o0 = some d1 ∧
    ((0 : Int) ≤ 0 ∧ 0 < ((l0 : Nat) : Int)) ∧
    ∃ n2 : Int, World.cell? w (Addr.add d1 0) = some (.int .u8 n2) ∧
    (((n2 < 128 →
      ∃ d3 : Addr, o0 = some d3 ∧
      ((0 : Int) ≤ 0 ∧ 0 < ((l0 : Nat) : Int)) ∧
      ∃ n4 : Int, World.cell? w (Addr.add d3 0) = some (.int .u8 n4) ∧
      ∀ (d5 : Addr) (w6 : World), IsNew w 5 #[(.int .u8 n4)] d5 w6 →
      R (.returned (.slice (some d5) 1 1)) w6)) ∧
     ((¬ n2 < 128 →
      Calls Try.prog 101 #[(.int .i64 128), (.int .i64 ((l0 : Nat) : Int))] w (fun e7 w8 =>
        ∃ o9 : Option Addr, ∃ l10 : Nat, ∃ l11 : Nat, e7 = .returned (.slice o9 l10 l11) ∧
        ∃ (v12 : Value) (w13 : World), Sem.run Try.prog (builtinV .append #[22, 22] 22 #[(.slice o9 l10 l11), (.slice o0 l0 c0)]) w8 = .ok v12 w13 ∧
        ∃ o14 : Option Addr, ∃ l15 : Nat, ∃ l16 : Nat, v12 = (.slice o14 l15 l16) ∧
        R (.returned (.slice o14 l15 l16)) w13)))))) ∧
   ((((l0 : Nat) : Int) ≠ 1 →
    Calls Try.prog 101 #[(.int .i64 128), (.int .i64 ((l0 : Nat) : Int))] w (fun e17 w18 =>
      ∃ o19 : Option Addr, ∃ l20 : Nat, ∃ l21 : Nat, e17 = .returned (.slice o19 l20 l21) ∧
      ∃ (v22 : Value) (w23 : World), Sem.run Try.prog (builtinV .append #[22, 22] 22 #[(.slice o19 l20 l21), (.slice o0 l0 c0)]) w18 = .ok v22 w23 ∧
      ∃ o24 : Option Addr, ∃ l25 : Nat, ∃ l26 : Nat, v22 = (.slice o24 l25 l26) ∧
      R (.returned (.slice o24 l25 l26)) w23))))
theorem moraineref4_Bytes.vc (o0 : Option Addr) (l0 : Nat) (c0 : Nat) (w : World) (R : Ending → World → Prop) (h : moraineref4_Bytes.Vc o0 l0 c0 w R) : Calls Try.prog 64 #[(.slice o0 l0 c0)] w R :=
  execF_sound (R := ⟨R, false⟩) (ann := []) (args := [.slice o0 l0 c0]) Try.func64 mixed (Eq.mp (by kernel_rfl : moraineref4_Bytes.Vc o0 l0 c0 w R = execF (pA Try.prog ⟨R, false⟩) Try.prog [] Try.f64 [.slice o0 l0 c0] w) h)

abbrev moraineref4_List.n : Nat := 63
def moraineref4_List.Vc (o0 : Option Addr) (l0 : Nat) (c0 : Nat) (w : World) (R : Ending → World → Prop) : Prop :=
  Calls Try.prog 101 #[(.int .i64 192), (.int .i64 ((l0 : Nat) : Int))] w (fun e1 w2 =>
    ∃ o3 : Option Addr, ∃ l4 : Nat, ∃ l5 : Nat, e1 = .returned (.slice o3 l4 l5) ∧
    ∃ (v6 : Value) (w7 : World), Sem.run Try.prog (builtinV .append #[22, 22] 22 #[(.slice o3 l4 l5), (.slice o0 l0 c0)]) w2 = .ok v6 w7 ∧
    ∃ o8 : Option Addr, ∃ l9 : Nat, ∃ l10 : Nat, v6 = (.slice o8 l9 l10) ∧
    R (.returned (.slice o8 l9 l10)) w7)
theorem moraineref4_List.vc (o0 : Option Addr) (l0 : Nat) (c0 : Nat) (w : World) (R : Ending → World → Prop) (h : moraineref4_List.Vc o0 l0 c0 w R) : Calls Try.prog 63 #[(.slice o0 l0 c0)] w R :=
  execF_sound (R := ⟨R, false⟩) (ann := []) (args := [.slice o0 l0 c0]) Try.func63 mixed (Eq.mp (by kernel_rfl : moraineref4_List.Vc o0 l0 c0 w R = execF (pA Try.prog ⟨R, false⟩) Try.prog [] Try.f63 [.slice o0 l0 c0] w) h)


abbrev moraineref14_Nibbles.n : Nat := 41
def moraineref14_Nibbles.Vc (o0 : Option Addr) (l0 : Nat) (c0 : Nat) (w : World) (R : Ending → World → Prop) : Prop :=
  ∃ (I1 : Option Addr → Nat → Nat → Int → World → Prop) (μ1 : Option Addr → Nat → Nat → Int → World → Nat), I1 none 0 0 0 w ∧
  (∀ (o2 : Option Addr) (l2 : Nat) (c2 : Nat) (n3 : Int) (j4 : Nat → Value) (w4 : World), I1 o2 l2 c2 n3 w4 →
    (((n3 < ((l0 : Nat) : Int) →
      ∀ w5 : World, IsDrew w4 w5 →
      ∃ d6 : Addr, o0 = some d6 ∧
      ((0 : Int) ≤ n3 ∧ n3 < ((l0 : Nat) : Int)) ∧
      ∃ n7 : Int, World.cell? w5 (Addr.add d6 (Int.toNat n3)) = some (.int .u8 n7) ∧
      ∃ d8 : Addr, o0 = some d8 ∧
      ((0 : Int) ≤ n3 ∧ n3 < ((l0 : Nat) : Int)) ∧
      ∃ n9 : Int, World.cell? w5 (Addr.add d8 (Int.toNat n3)) = some (.int .u8 n9) ∧
      ∀ (d10 : Addr) (w11 : World), IsNew w5 5 #[(.int .u8 (IntKind.wrap .u8 (Int.tdiv n7 16))), (.int .u8 (Int.tmod n9 16))] d10 w11 →
      ∃ (v12 : Value) (w13 : World), Sem.run Try.prog (builtinV .append #[22, 22] 22 #[(.slice o2 l2 c2), (.slice (some d10) 2 2)]) w11 = .ok v12 w13 ∧
      ∃ o14 : Option Addr, ∃ l15 : Nat, ∃ l16 : Nat, v12 = (.slice o14 l15 l16) ∧
      I1 o14 l15 l16 (IntKind.wrap .i64 (n3 + 1)) w13 ∧ μ1 o14 l15 l16 (IntKind.wrap .i64 (n3 + 1)) w13 < μ1 o2 l2 c2 n3 w4)) ∧
     ((¬ n3 < ((l0 : Nat) : Int) →
      R (.returned (.slice o2 l2 c2)) w4))))
theorem moraineref14_Nibbles.vc (o0 : Option Addr) (l0 : Nat) (c0 : Nat) (w : World) (R : Ending → World → Prop) (h : moraineref14_Nibbles.Vc o0 l0 c0 w R) : Calls Try.prog 41 #[(.slice o0 l0 c0)] w R :=
  execF_sound (R := ⟨R, false⟩) (ann := [(3, [(3, .cell (.slice)), (4, .cell (.int .i64))])]) (args := [.slice o0 l0 c0]) Try.func41 mixed (Eq.mp (by kernel_rfl : moraineref14_Nibbles.Vc o0 l0 c0 w R = execF (pA Try.prog ⟨R, false⟩) Try.prog [(3, [(3, .cell (.slice)), (4, .cell (.int .i64))])] Try.f41 [.slice o0 l0 c0] w) h)


abbrev moraineref14_Empty.n : Nat := 83
def moraineref14_Empty.Vc  (w : World) (R : Ending → World → Prop) : Prop :=
  ∀ (d0 : Addr) (w1 : World), IsNew w 26 (Array.replicate 32 (.int .u8 0)) d0 w1 →
  ∀ (d2 : Addr) (w3 : World), IsNew w1 5 #[(.int .u8 128)] d2 w3 →
  Calls Try.prog 18 #[(.slice (some d2) 1 1)] w3 (fun e4 w5 =>
    ∃ L6 : Array Value, e4 = .returned (.agg L6) ∧
    ∃ w7 : World, Sem.run Try.prog (Instr.storeAt 26 (.pointer (some d0)) (.agg L6)) w5 = .ok () w7 ∧
    ∃ L8 : Array Value, RowAt w7 d0 32 L8 ∧
    R (.returned (.agg L8)) w7)
theorem moraineref14_Empty.vc  (w : World) (R : Ending → World → Prop) (h : moraineref14_Empty.Vc w R) : Calls Try.prog 83 #[] w R :=
  execF_sound (R := ⟨R, false⟩) (ann := []) (args := []) Try.func83 mixed (Eq.mp (by kernel_rfl : moraineref14_Empty.Vc w R = execF (pA Try.prog ⟨R, false⟩) Try.prog [] Try.f83 [] w) h)












end Go.Proofs.Ytfghidehlnfdiaa
end

section
set_option linter.unusedVariables false
set_option linter.unusedSimpArgs false
namespace Go.Trie
end Go.Trie
namespace Go.Proofs.Ytfghidehlnfdiaa
open Go Go.Vcg Go.Trie
section
variable {C : Type} {S : C → Prop} {w0 w w1 w' : World} {lab lab2 : Nat → C} {c : C}
theorem node_iface {n : Nd} {v : Value} (h : NodeAt w lab c n v) : (v = .nilIface ∧ isNil n = true) ∨ (IsIface v ∧ isNil n = false) := by
  cases n with
  | nil => exact .inl ⟨h, rfl⟩
  | leaf p x => obtain ⟨b, op, cp, ov, cv, rfl, _⟩ := h; exact .inr ⟨⟨_, _, rfl⟩, rfl⟩
  | row p k => obtain ⟨b, op, cp, vk, rfl, _⟩ := h; exact .inr ⟨⟨_, _, rfl⟩, rfl⟩
  | branch cs x => obtain ⟨b, vs, ov, cv, rfl, _⟩ := h; exact .inr ⟨⟨_, _, rfl⟩, rfl⟩
end
end Go.Proofs.Ytfghidehlnfdiaa
end

section
set_option linter.unusedVariables false
set_option linter.unusedSimpArgs false
namespace Go.Trie
/-- All keys are of at most 128 nibbles, all values of at most 1024 bytes. -/
def Fits (n : Nd) : Prop := ∀ k v, get n k = some v → k.length ≤ 128 ∧ v.length ≤ 1024
theorem Fits.row {q : By} {c : Nd} (h : Fits (.row q c)) : Fits c := fun k v hg => by
  have := h (q ++ k) v (by rw [get_row_append]; exact hg)
  rw [List.length_append] at this
  exact ⟨by omega, this.2⟩
theorem Fits.kid {cs : Fin 16 → Nd} {x : By} (h : Fits (.branch cs x)) (i : Fin 16) : Fits (cs i) := fun k v hg => by
  have := h (UInt8.ofNat i.val :: k) v (by rw [get_branch_cons]; exact hg)
  simp only [List.length_cons] at this
  exact ⟨by omega, this.2⟩
theorem small_of : ∀ {n : Nd}, Canon n → Fits n → Small n
  | .nil, _, _ => trivial
  | .leaf p v, _, h => h p v (by simp [get])
  | .row p c, hc, h => by
    refine ⟨?_, small_of hc.2.2.2 h.row⟩
    obtain ⟨k, v, hk⟩ := has_key hc.2.2.2 (by rintro rfl; exact hc.2.2.1)
    have := (h (p ++ k) v (by rw [get_row_append]; exact hk)).1
    rw [List.length_append] at this; omega
  | .branch cs x, hc, h => by
    refine ⟨?_, fun i => small_of (hc.1 i) (h.kid i)⟩
    by_cases hx : x = []
    · simp [hx]
    · exact (h [] x (by rw [get_branch_nil, if_neg hx])).2
theorem Fits.put {n : Nd} {p x : By} (h : Fits n) (hc : Canon n) (hp : Nib p) (hx : x ≠ []) (hpl : p.length ≤ 128) (hxl : x.length ≤ 1024) : Fits (put n p x) := fun k v hg => by
  rw [(put_ok hc hp hx).2.2.2 k] at hg
  split at hg
  · rename_i hk
    cases hg
    exact ⟨by rw [hk]; exact hpl, hxl⟩
  · exact h k v hg
end Go.Trie
namespace Go.Proofs.Ytfghidehlnfdiaa
open Go Go.Vcg Go.Trie
end Go.Proofs.Ytfghidehlnfdiaa
end

section
set_option linter.unusedVariables false
set_option linter.unusedSimpArgs false
namespace Go.Proofs.Ytfghidehlnfdiaa
open Go Go.Vcg Go.Trie
abbrev H32 := {h : By // h.length = 32}
instance : DecidableEq H32 := fun a b => decidable_of_iff (a.1 = b.1) Subtype.ext_iff.symm
def encH (h : H32) : Value := .agg (hashA h.1)
theorem bV_inj {a b : UInt8} (h : bV a = bV b) : a = b := by
  simp only [bV, Value.int.injEq, true_and] at h
  exact UInt8.toNat_inj.1 (by exact_mod_cast h)
theorem hashA_inj {a b : By} (ha : a.length = 32) (hb : b.length = 32) (h : hashA a = hashA b) : a = b := by
  apply List.ext_getElem (by omega)
  intro i h1 h2
  have hi : i < 32 := by omega
  have e := congrArg (fun x : Array Value => x[i]?) h
  simp only [hashA, get_arrOf_lt hi, Option.some.injEq] at e
  have := bV_inj e
  simpa [List.getD_eq_getElem?_getD, h1, h2] using this
theorem laidOut : laidOutB Try.prog = true := by kernel_rfl
theorem und_hash : Try.prog.underlying tHash = some (.array 32 5) := by kernel_rfl

abbrev tNd : TypeId := 104
abbrev tSlNd : TypeId := 49
theorem und_slNd : Try.prog.underlying tSlNd = some (.slice tNd) := by kernel_rfl
def ndA (h : By) (o : Option Addr) (l k : Nat) : Array Value := ((hashA h).toList ++ [Value.slice o l k]).toArray
abbrev nd0 : Array Value := #[(.int .u8 0), (.int .u8 0), (.int .u8 0), (.int .u8 0), (.int .u8 0), (.int .u8 0), (.int .u8 0), (.int .u8 0), (.int .u8 0), (.int .u8 0), (.int .u8 0), (.int .u8 0), (.int .u8 0), (.int .u8 0), (.int .u8 0), (.int .u8 0), (.int .u8 0), (.int .u8 0), (.int .u8 0), (.int .u8 0), (.int .u8 0), (.int .u8 0), (.int .u8 0), (.int .u8 0), (.int .u8 0), (.int .u8 0), (.int .u8 0), (.int .u8 0), (.int .u8 0), (.int .u8 0), (.int .u8 0), (.int .u8 0), (.slice none 0 0)]
theorem info_nd : (Try.prog.info? tNd).map (fun i => (i.zero, i.size, i.bytes)) = some (some (.agg nd0), 33, 56) := by kernel_rfl
theorem size_ndA (h : By) (o : Option Addr) (l k : Nat) : (ndA h o l k).size = 33 := by simp [ndA, size_hashA]
theorem ndA_lo {h : By} {o : Option Addr} {l k i : Nat} (hi : i < 32) : (ndA h o l k)[i]? = some (bV (h.getD i 0)) := by
  unfold ndA
  rw [List.getElem?_toArray, List.getElem?_append_left (by rw [Array.length_toList, size_hashA]; exact hi), Array.getElem?_toList]
  exact get_arrOf_lt hi
theorem ndA_hi {h : By} {o : Option Addr} {l k : Nat} : (ndA h o l k)[32]? = some (.slice o l k) := by
  unfold ndA
  rw [List.getElem?_toArray, List.getElem?_append_right (by rw [Array.length_toList, size_hashA]; omega), Array.length_toList, size_hashA]
  rfl
theorem ndA_one (h : By) (o : Option Addr) (l k : Nat) : ∀ v ∈ (ndA h o l k).toList, v.oneCell' = true := by
  intro v hv
  simp only [ndA, List.mem_append, List.mem_singleton] at hv
  rcases hv with hv | rfl
  · exact hashA_one h v hv
  · rfl
section
variable {C : Type} {S : C → Prop} {w0 w w1 w' : World} {lab lab' : Nat → C} {c cb : C}
/-- Cells of nodes, one behind the other: hashes, and bytes in blocks of colour cb. -/
def NdCells (w : World) (lab : Nat → C) (cb : C) (vs : List Value) (l : List (By × By)) : Prop :=
  vs.length = l.length * 33 ∧ ∀ (j : Nat) (hj : j < l.length), l[j].1.length = 32 ∧ (∀ i, i < 32 → vs[j * 33 + i]? = some (bV (l[j].1.getD i 0))) ∧ ∃ ob kb, vs[j * 33 + 32]? = some (.slice ob l[j].2.length kb) ∧ CBy w lab cb ob l[j].2
theorem NdCells.nil (w : World) (lab : Nat → C) (cb : C) : NdCells w lab cb [] [] := ⟨rfl, fun j hj => absurd hj (by simp)⟩
theorem NdCells.stp {vs : List Value} {l : List (By × By)} (h : NdCells w lab cb vs l) (s : Stp S w lab w' lab') (hs : ¬ S cb) : NdCells w' lab' cb vs l :=
  ⟨h.1, fun j hj => by obtain ⟨h1, h2, ob, kb, h3, h4⟩ := h.2 j hj; exact ⟨h1, h2, ob, kb, h3, h4.stp s hs⟩⟩
theorem NdCells.push {vs : List Value} {l : List (By × By)} {h b : By} {ob : Option Addr} {kb : Nat} (H : NdCells w lab cb vs l) (hh : h.length = 32) (hb : CBy w lab cb ob b) :
    NdCells w lab cb (vs ++ (ndA h ob b.length kb).toList) (l ++ [(h, b)]) := by
  have hnl : (ndA h ob b.length kb).toList.length = 33 := by rw [Array.length_toList, size_ndA]
  refine ⟨by rw [List.length_append, hnl, H.1, List.length_append]; simp; omega, fun j hj => ?_⟩
  rw [List.length_append, List.length_singleton] at hj
  have hv := H.1
  by_cases hl : j < l.length
  · rw [List.getElem_append_left hl]
    obtain ⟨h1, h2, ob, kb, h3, h4⟩ := H.2 j hl
    exact ⟨h1, fun i hi => by rw [List.getElem?_append_left (by omega)]; exact h2 i hi, ob, kb, by rw [List.getElem?_append_left (by omega)]; exact h3, h4⟩
  · obtain rfl : j = l.length := by omega
    rw [List.getElem_append_right (Nat.le_refl _)]
    simp only [Nat.sub_self, List.getElem_cons_zero]
    refine ⟨hh, fun i hi => ?_, ob, kb, ?_, hb⟩
    · rw [List.getElem?_append_right (by omega), hv, show l.length * 33 + i - l.length * 33 = i by omega, Array.getElem?_toList]
      exact ndA_lo hi
    · rw [List.getElem?_append_right (by omega), hv, show l.length * 33 + 32 - l.length * 33 = 32 by omega, Array.getElem?_toList]
      exact ndA_hi
/-- A row of nodes of its own, in colour c. -/
def NdOwn (w : World) (lab : Nat → C) (c cb : C) (l : List (By × By)) (o : Option Addr) (n k : Nat) : Prop :=
  n = l.length ∧ ∃ vs, COw w lab c tNd 33 o n k vs ∧ NdCells w lab cb vs l
theorem NdOwn.nil (w : World) (lab : Nat → C) (c cb : C) : NdOwn w lab c cb [] none 0 0 := ⟨rfl, [], COw.nil w lab c _ _, NdCells.nil w lab cb⟩
theorem NdOwn.stp {l : List (By × By)} {o : Option Addr} {n k : Nat} (h : NdOwn w lab c cb l o n k) (s : Stp S w lab w' lab') (hs : ¬ S c) (hb : ¬ S cb) : NdOwn w' lab' c cb l o n k := by
  obtain ⟨h1, vs, h2, h3⟩ := h
  exact ⟨h1, vs, h2.stp s hs, h3.stp s hb⟩
theorem NdOwn.push {l : List (By × By)} {o : Option Addr} {n k D : Nat} {h b : By} {ob : Option Addr} {kb : Nat} (H : NdOwn w lab c cb l o n k) (hcb : cb ≠ c) (B : Blk w D tNd (ndA h ob b.length kb)) (hh : h.length = 32) (hb : CBy w lab cb ob b) (hl : l.length ≤ 2 ^ 20) :
    ∃ o' k' w', Sem.run Try.prog (builtinV .append #[tSlNd, tSlNd] tSlNd #[.slice o n k, .slice (some ⟨D, 0, none⟩) 1 1]) w = .ok (.slice o' (n + 1) k') w' ∧
      NdOwn w' (ext lab w.heap.size c) c cb (l ++ [(h, b)]) o' (n + 1) k' ∧ Stp (· = c) w lab w' (ext lab w.heap.size c) := by
  obtain ⟨rfl, vs, hO, hC⟩ := H
  obtain ⟨i, hi, hz, hs, hbt⟩ := info_of info_nd
  obtain ⟨o', k', w', h1, h2, h3⟩ := COw.append (ty := tSlNd) und_slNd hi hz hs (by rfl) hO (src_one und_slNd B (size_ndA _ _ _ _) (ndA_one _ _ _ _)) (by simp only [maxLen]; omega) (by rw [hbt]; omega)
  exact ⟨o', k', w', h1, ⟨by simp, _, h2, (hC.push hh hb).stp h3 hcb⟩, h3⟩
end
end Go.Proofs.Ytfghidehlnfdiaa
end
