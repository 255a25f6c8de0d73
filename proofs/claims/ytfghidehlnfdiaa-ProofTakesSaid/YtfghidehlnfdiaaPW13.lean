/- Contracts: stored, bytesOf, what Prove asks (package proof); lists of bytes. -/
/- Contracts: bytesOf, what Prove asks; lists of bytes in memory. -/
/- Contracts: caught (package proof), deferred; how Prove and Verify are left. -/
/- Contracts: Prove (package proof). -/
/- Contracts: the reference's Down, find (moraineref14). -/
/- Contracts: the reference's find, Get (moraineref14), Prove (moraineref16). -/
/- Contracts: what Verify asks, Verify (package proof). -/
/- Contracts: Verify (package proof). -/
import Derived.Test.YtfghidehlnfdiaaPW5
import Derived.Test.YtfghidehlnfdiaaTVX
import Derived.Recover
section
set_option linter.unusedVariables false
set_option linter.unusedSimpArgs false
namespace Go.Proofs.Ytfghidehlnfdiaa
open Go Go.Vcg Go.Trie
/-- The first node of a hash. -/
def findN : List (By × By) → By → Option By
  | [], _ => none
  | x :: r, h => if x.1 = h then some x.2 else findN r h
theorem findN_snoc : ∀ (l : List (By × By)) (x : By × By) (h : By), findN (l ++ [x]) h = (findN l h).or (if x.1 = h then some x.2 else none)
  | [], x, h => by simp [findN]
  | y :: r, x, h => by
    simp only [List.cons_append, findN]
    split
    · rfl
    · exact findN_snoc r x h
theorem assoc_upd {K V : Type} [DecidableEq K] {k k' : K} {v : V} : ∀ {es : List (K × V)}, assoc k' (Vcg.upd k v es) = if k = k' then some v else assoc k' es
  | [] => by simp [Vcg.upd, assoc]
  | x :: r => by
    simp only [Vcg.upd]
    by_cases hx : x.1 = k
    · rw [if_pos hx]
      simp only [assoc]
      by_cases hk : k = k'
      · rw [if_pos hk, if_pos hk]
      · rw [if_neg hk, if_neg hk, if_neg (by rw [hx]; exact hk)]
    · rw [if_neg hx]
      simp only [assoc]
      rw [assoc_upd]
      by_cases hk : k = k'
      · simp only [if_pos hk]; rw [if_neg (by rw [← hk]; exact hx)]
      · simp only [if_neg hk]
abbrev tStore : TypeId := 124
theorem und_store : Try.prog.underlying tStore = some (.map tHash tSlU8) := by kernel_rfl
theorem zero_slU8 (w : World) : (zeroValue tSlU8).run Try.prog w = .ok (.slice none 0 0) w := by kernel_rfl
section
variable {w w' : World} {lab lab' : Nat → Nat} {c : Nat}
/-- A map from hashes to the bytes of the first node. -/
def MapOf (w : World) (lab : Nat → Nat) (c : Nat) (l : List (By × By)) (es : List (H32 × Value)) : Prop :=
  ∀ k : H32, match findN l k.1 with
    | none => assoc k es = none
    | some b => ∃ o n, assoc k es = some (.slice o b.length n) ∧ CBy w lab c o b ∧ b.length ≤ n
theorem MapOf.stp {S : Nat → Prop} {l : List (By × By)} {es : List (H32 × Value)} (h : MapOf w lab c l es) (s : Stp S w lab w' lab') (hs : ¬ S c) : MapOf w' lab' c l es := fun k => by
  have := h k
  split at this
  · exact this
  · rename_i b he
    obtain ⟨o, n, h1, h2, h3⟩ := this
    exact ⟨o, n, h1, h2.stp s hs, h3⟩
/-- A store. -/
def SMap (w : World) (lab : Nat → Nat) (cm c : Nat) (l : List (By × By)) (m : Nat) : Prop :=
  ∃ es : List (H32 × Value), CM (fun _ => True) encH w lab cm m es ∧ MapOf w lab c l es
theorem SMap.stp {S : Nat → Prop} {cm m : Nat} {l : List (By × By)} (h : SMap w lab cm c l m) (s : Stp S w lab w' lab') (hm : ¬ S cm) (hs : ¬ S c) : SMap w' lab' cm c l m := by
  obtain ⟨es, h1, h2⟩ := h
  exact ⟨es, h1.stp s hm, h2.stp s hs⟩
theorem nd_row {o : Option Addr} {vs : List Value} {l : List (By × By)} (h : NdCells w lab c vs l) (hR : CRow w lab c o vs) {j : Nat} (hj : j < l.length) :
    ∃ g f ob kb, o = some ⟨g, f, none⟩ ∧ RowAt w ⟨g, f + j * 33, none⟩ 33 (ndA l[j].1 ob l[j].2.length kb) ∧ CBy w lab c ob l[j].2 ∧ l[j].2.length ≤ kb ∧ l[j].1.length = 32 := by
  obtain ⟨h1, h2, ob, kb, h3, h4, h5⟩ := h.2 j hj
  obtain ⟨g, f, ho, hg, hl, hc⟩ := hR _ _ h3
  refine ⟨g, f, ob, kb, ho, ⟨size_ndA _ _ _ _, fun i hi => ?_⟩, h4, h5, h1⟩
  by_cases h32 : i = 32
  · subst h32
    rw [add_at, show f + j * 33 + 32 = f + (j * 33 + 32) by omega, hc, ndA_hi]
  · obtain ⟨g', f', ho', _, _, hc'⟩ := hR _ _ (h2 i (by omega))
    rw [ho] at ho'; cases ho'
    rw [add_at, show f + j * 33 + i = f + (j * 33 + i) by omega, hc', ndA_lo (by omega)]
theorem size_nd : (Try.prog.info? tNd).map (·.size) = some 33 := by kernel_rfl
theorem stored_calls {o : Option Addr} {k : Nat} {l : List (By × By)} {held : Bool} (h : NdRow w lab 0 l o l.length) (hlen : l.length ≤ 2 ^ 40) :
    Calls Try.prog proof_stored.n #[.slice o l.length k, .bool held] w (fun e w' => Vcg.Mod NoB w w' ∧ (l.length > 4096 → e = .returned (.tuple #[.agg #[.map none, .bool false], .int .i64 162])) ∧
      (l.length ≤ 4096 → ∃ m, e = .returned (.tuple #[.agg #[.map (some m), .bool held], .int .i64 0]) ∧ SMap w' (ext lab w.heap.size 9) 9 0 l m)) := by
  refine calls_gen fun R hR => proof_stored.vc _ _ _ _ _ _ ?_
  unfold proof_stored.Vc
  rintro d2 w1 ⟨rfl, rfl⟩
  have M1 := Mod.alloc (S := NoB) w (.cells #[.map none, .bool false] 126)
  have B1 := Blk.new w 126 #[.map none, .bool false]
  have hs1 := size_alloc w (.cells #[.map none, .bool false] 126)
  generalize hD : w.heap.size = D at *
  generalize w.alloc (.cells #[.map none, .bool false] 126) = w1 at *
  -- two cells written and read
  have two : ∀ (w1 : World) (a b : Value) (m : Option Nat) (bb : Bool) (R' : Option Nat → Bool → World → Prop), Blk w1 D 126 #[a, b] → (∀ w2, Vcg.Mod (· = D) w1 w2 → R' m bb w2) →
      CanSet w1 ⟨D, 0, none⟩ (.map m) ∧ ∀ w4 : World, IsSet w1 ⟨D, 0, none⟩ (.map m) w4 → CanSet w4 (Addr.add ⟨D, 0, none⟩ 1) (.bool bb) ∧ ∀ w5 : World, IsSet w4 (Addr.add ⟨D, 0, none⟩ 1) (.bool bb) w5 →
      ∃ m6 : Option Nat, ∃ b7 : Bool, World.cell? w5 ⟨D, 0, none⟩ = some (.map m6) ∧ World.cell? w5 (Addr.add ⟨D, 0, none⟩ 1) = some (.bool b7) ∧ R' m6 b7 w5 := by
    intro w1 a b m bb R' B K
    refine ⟨B.canSet (by simp) rfl, ?_⟩
    rintro _ rfl
    have B2 := B.set 0 (.map m)
    have Q1 : Vcg.Mod (· = D) w1 _ := Mod.setCell w1 ⟨D, 0, none⟩ (.map m)
    rw [add_at, Nat.zero_add]
    refine ⟨B2.canSet (by simp) rfl, ?_⟩
    rintro _ rfl
    have B3 := B2.set 1 (.bool bb)
    have Q2 := Q1.step_set (a := ⟨D, 1, none⟩) (v := .bool bb) (fun _ => rfl)
    exact ⟨_, _, B3.rd1 rfl, B3.rd1 rfl, K _ Q2⟩
  refine ⟨fun hbig => ?_, fun hsmall => ?_⟩
  · exact two w1 _ _ none false (fun m6 b7 w5 => R (.returned (.tuple #[.agg #[.map m6, .bool b7], .int .i64 162])) w5) B1 (fun w2 Q => hR _ _ ⟨mod_of M1 Q (by omega), fun _ => rfl, fun h => absurd h (by omega)⟩)
  · have hlen' : l.length ≤ 4096 := by omega
    obtain ⟨w2, hr2, M2, hmap⟩ := run_makeMap und_store w1
    have B2 := B1.mod' M2
    have M02 := M1.none_trans M2
    refine ⟨_, w2, hr2, _, rfl, ?_⟩
    generalize hm : w1.heap.size = m at *
    have hs2 : m < w2.heap.size := (Array.getElem?_eq_some_iff.1 hmap).1
    rintro d11 w3 ⟨rfl, rfl⟩
    have M3 := Mod.alloc (S := NoB) w2 (.cells #[.map none, .bool false] 126)
    have E3 := Blk.new w2 126 #[.map none, .bool false]
    have hs3 := size_alloc w2 (.cells #[.map none, .bool false] 126)
    have B3 := B2.mod' M3
    have hmap3 := (M3.block m hs2 (fun h => h)).trans hmap
    have M03 := M02.none_trans M3
    generalize hE : w2.heap.size = E at *
    generalize w2.alloc (.cells #[.map none, .bool false] 126) = w3 at *
    refine ⟨E3.canSet (by simp) rfl, ?_⟩
    rintro _ rfl
    have E4 := E3.set 0 (.map (some m))
    have Q4 : Vcg.Mod (· = E) w3 _ := Mod.setCell w3 ⟨E, 0, none⟩ (.map (some m))
    rw [add_at, Nat.zero_add]
    refine ⟨E4.canSet (by simp) rfl, ?_⟩
    rintro _ rfl
    have E5 := E4.set 1 (.bool held)
    have Q5 := Q4.step_set (a := ⟨E, 1, none⟩) (v := .bool held) (fun _ => rfl)
    have M05 : Vcg.Mod NoB w _ := mod_of M03 Q5 (by omega)
    have B5 := B3.mod Q5 (by omega)
    have hmap5 := (Q5.block m (by omega) (by omega)).trans hmap3
    have hsz5 := Q5.size
    generalize ((w3.setCell ⟨E, 0, none⟩ (.map (some m))).setCell ⟨E, 1, none⟩ (.bool held)) = w5 at *
    obtain ⟨_, vs, hCR, hNC⟩ := h
    refine ⟨fun i w' => ∃ (j : Nat) (es : List (H32 × Value)), i = (j : Int) ∧ j ≤ l.length ∧ Vcg.Mod NoB w w' ∧ Blk w' D 126 #[.map none, .bool false] ∧ Blk w' E 126 #[.map (some m), .bool held] ∧ MapAt (fun _ => True) encH w' m es ∧ MapOf w' (ext lab D 9) 0 (l.take j) es,
      fun i _ => ((l.length : Int) - i).toNat, ⟨0, [], rfl, Nat.zero_le _, M05, B5, E5, ⟨#[], 0, hmap5, Go.MapKept.stamped_empty 0, rfl, fun _ h => by cases h⟩, fun k => by simp [findN, assoc]⟩, ?_⟩
    rintro _ _ w6 ⟨j, es, rfl, hj, M06, B6, E6, hA, hO⟩
    have s06 : Stp NoS w lab w6 (ext lab D 9) := hD ▸ Stp.of_nob M06 9
    have CR6 := hCR.stp s06 (fun h => h)
    have NC6 := hNC.stp s06 (fun h => h)
    refine ⟨fun hlt => ?_, fun hge => ?_⟩
    · have hjl : j < l.length := by omega
      obtain ⟨g, f, ob, kb, rfl, hrow, hby, hkb, h32⟩ := nd_row NC6 CR6 hjl
      refine ⟨_, rfl, ⟨by omega, by omega⟩, _, by rw [add_at, Int.toNat_natCast]; exact hrow, ?_⟩
      rintro d20 w7 ⟨rfl, rfl⟩
      have M7 := Mod.alloc (S := NoB) w6 (.cells nd0 104)
      have N7 := Blk.new w6 104 nd0
      have hE6 := E6.lt
      have hB6 := B6.lt
      have hm6 := hA.lt
      have hst := N7.storeAll (P := Try.prog) (ty := 104) (L := ndA l[j].1 ob l[j].2.length kb) (by rw [size_ndA]; exact size_nd) (by rw [size_ndA]; rfl) (ndA_one _ _ _ _)
      have N8 := N7.row_same (ndA l[j].1 ob l[j].2.length kb)
      have Q8 := Mod.setRow (w6.alloc (.cells nd0 104)) w6.heap.size (ndA l[j].1 ob l[j].2.length kb)
      have M68 : Vcg.Mod NoB w6 _ := mod_of M7 Q8 (Nat.le_refl _)
      refine ⟨_, hst, ?_⟩
      generalize ((w6.alloc (.cells nd0 104)).setRow w6.heap.size (ndA l[j].1 ob l[j].2.length kb)) = w8 at *
      have B8 := B6.mod' M68
      have E8 := E6.mod' M68
      have hA8 : MapAt (fun _ => True) encH w8 m es := hA.same (M68.block m hm6 (fun h => h))
      have M08 := M06.none_trans M68
      have hrow8 : RowAt w8 ⟨w6.heap.size, 0, none⟩ 32 (hashA l[j].1) := N8.rowAt (size_hashA _) (fun i hi => by
        rw [Nat.zero_add, ndA_lo hi]
        exact (get_arrOf_lt (f := fun i => bV (l[j].1.getD i 0)) hi).symm)
      have hlook := MapAt.look hA8 keyEncH und_store (zero_slU8 w8) (k := ⟨l[j].1, h32⟩) trivial true
      rw [if_pos rfl] at hlook
      have s68 : Stp NoS w6 (ext lab D 9) w8 (ext lab D 9) := by
        have s08 : Stp NoS w lab w8 (ext lab D 9) := hD ▸ Stp.of_nob M08 9
        exact ⟨M68.os, M68.tape, M68.output, M68.size, fun _ _ => rfl, fun q hq _ => M68.block q hq (fun h => h)⟩
      have hO8 := hO.stp s68 (fun h => h)
      have hby8 := hby.stp s68 (fun h => h)
      have hfound := hO8 ⟨l[j].1, h32⟩
      have htk : l.take (j + 1) = l.take j ++ [l[j]] := List.take_succ_eq_append_getElem hjl
      have ew : IntKind.wrap .i64 ((j : Int) + 1) = ((j + 1 : Nat) : Int) := by rw [wrap_i64_small (by omega) (by omega)]; omega
      rw [ew]
      cases hf : findN (l.take j) l[j].1 with
      | none =>
        rw [hf] at hfound
        simp only at hfound
        rw [hfound] at hlook
        obtain ⟨w9, hr9, hA9, Q9⟩ := MapAt.update hA8 keyEncH und_store (k := ⟨l[j].1, h32⟩) trivial (.slice ob l[j].2.length kb)
        have M09 := mod_of M08 Q9 (by omega)
        refine ⟨_, E8.rd1 rfl, _, hrow8, _, hlook, _, _, _, _, rfl, fun _ => ⟨_, E8.rd1 rfl, _, hrow8, _, _, _, by rw [add_at]; exact N8.rd1 ndA_hi, w9, hr9, ⟨j + 1, _, rfl, hjl, M09, B8.mod Q9 (by omega), E8.mod Q9 (by omega), hA9, ?_⟩, by dsimp only; omega⟩, fun h => (by cases h)⟩
        have s89 : Stp (· = 9) w8 (ext lab D 9) w9 (ext lab D 9) := ⟨Q9.os, Q9.tape, Q9.output, Q9.size, fun _ _ => rfl, fun q hq hn => Q9.block q hq (fun e => hn (by rw [e]; exact ext_new (by omega)))⟩
        have hO9 := hO8.stp s89 (by decide)
        have hby9 := hby8.stp s89 (by decide)
        intro k
        rw [htk, findN_snoc, assoc_upd]
        by_cases hk : l[j].1 = k.1
        · have hk' : (⟨l[j].1, h32⟩ : H32) = k := Subtype.ext hk
          rw [if_pos hk, if_pos hk', ← hk, hf]
          exact ⟨ob, kb, rfl, hby9, hkb⟩
        · have hk' : (⟨l[j].1, h32⟩ : H32) ≠ k := fun e => hk (by rw [← e])
          rw [if_neg hk, if_neg hk', Option.or_none]
          exact hO9 k
      | some b =>
        rw [hf] at hfound
        obtain ⟨ob', kb', hfa, _, _⟩ := hfound
        rw [hfa] at hlook
        refine ⟨_, E8.rd1 rfl, _, hrow8, _, hlook, _, _, _, _, rfl, fun h => (by cases h), fun _ => ⟨⟨j + 1, es, rfl, hjl, M08, B8, E8, hA8, ?_⟩, by dsimp only; omega⟩⟩
        intro k
        rw [htk, findN_snoc]
        by_cases hk : l[j].1 = k.1
        · have := hO8 k
          rw [← hk, hf] at this ⊢
          exact this
        · rw [if_neg hk, Option.or_none]
          exact hO8 k
    · obtain rfl : j = l.length := by omega
      rw [List.take_length] at hO
      refine ⟨_, _, E6.rd1 rfl, E6.rd1 rfl, ?_⟩
      have hm6 := hA.lt
      refine two w6 _ _ (some m) held (fun m6 b7 w5 => R (.returned (.tuple #[.agg #[.map m6, .bool b7], .int .i64 0])) w5) B6 (fun w7 Q7 => hR _ _ ⟨mod_of M06 Q7 (by omega), fun h => absurd h (by omega), fun _ => ⟨m, rfl, es, ⟨hA.same (Q7.block m hm6 (by omega)), ext_new (by omega)⟩, ?_⟩⟩)
      have s67 : Stp (· = 9) w6 (ext lab D 9) w7 (ext lab D 9) := ⟨Q7.os, Q7.tape, Q7.output, Q7.size, fun _ _ => rfl, fun q hq hn => Q7.block q hq (fun e => hn (by rw [e]; exact ext_new (by omega)))⟩
      exact hO.stp s67 (by decide)
end
end Go.Proofs.Ytfghidehlnfdiaa
end

section
set_option linter.unusedVariables false
set_option linter.unusedSimpArgs false
namespace Go.Proofs.Ytfghidehlnfdiaa
open Go Go.Vcg Go.Trie
abbrev tSlSl : TypeId := 31
section
variable {w w' : World} {lab lab' : Nat → Nat} {c cb : Nat}
/-- A list of bytes of its own. -/
def LsCells (w : World) (lab : Nat → Nat) (cb : Nat) (vs : List Value) (ls : List By) : Prop :=
  vs.length = ls.length ∧ ∀ (j : Nat) (hj : j < ls.length), ∃ ob kb, vs[j]? = some (.slice ob ls[j].length kb) ∧ CBy w lab cb ob ls[j] ∧ ls[j].length ≤ kb
theorem LsCells.stp {S : Nat → Prop} {vs : List Value} {ls : List By} (h : LsCells w lab cb vs ls) (s : Stp S w lab w' lab') (hs : ¬ S cb) : LsCells w' lab' cb vs ls :=
  ⟨h.1, fun j hj => by obtain ⟨ob, kb, h3, h4, h5⟩ := h.2 j hj; exact ⟨ob, kb, h3, h4.stp s hs, h5⟩⟩
theorem LsCells.push {vs : List Value} {ls : List By} {b : By} {ob : Option Addr} {kb : Nat} (H : LsCells w lab cb vs ls) (hb : CBy w lab cb ob b) (hk : b.length ≤ kb) : LsCells w lab cb (vs ++ [.slice ob b.length kb]) (ls ++ [b]) := by
  have hv := H.1
  refine ⟨by simp [hv], fun j hj => ?_⟩
  rw [List.length_append, List.length_singleton] at hj
  by_cases hl : j < ls.length
  · rw [List.getElem_append_left hl, List.getElem?_append_left (by omega)]
    exact H.2 j hl
  · obtain rfl : j = ls.length := by omega
    rw [List.getElem_append_right (Nat.le_refl _)]
    simp only [Nat.sub_self, List.getElem_cons_zero]
    refine ⟨ob, kb, ?_, hb, hk⟩
    rw [List.getElem?_append_right (by omega), hv, Nat.sub_self]; rfl
def LsOwn (w : World) (lab : Nat → Nat) (c cb : Nat) (ls : List By) (o : Option Addr) (n k : Nat) : Prop :=
  n = ls.length ∧ ∃ vs, COw w lab c tSlU8 1 o n k vs ∧ LsCells w lab cb vs ls
theorem LsOwn.nil (w : World) (lab : Nat → Nat) (c cb : Nat) : LsOwn w lab c cb [] none 0 0 := ⟨rfl, [], COw.nil w lab c _ _, rfl, fun j hj => absurd hj (by simp)⟩
theorem LsOwn.stp {S : Nat → Prop} {ls : List By} {o : Option Addr} {n k : Nat} (h : LsOwn w lab c cb ls o n k) (s : Stp S w lab w' lab') (hs : ¬ S c) (hb : ¬ S cb) : LsOwn w' lab' c cb ls o n k := by
  obtain ⟨h1, vs, h2, h3⟩ := h
  exact ⟨h1, vs, h2.stp s hs, h3.stp s hb⟩
theorem LsOwn.push {ls : List By} {o : Option Addr} {n k D : Nat} {b : By} {ob : Option Addr} {kb : Nat} (H : LsOwn w lab c cb ls o n k) (hcb : cb ≠ c) (B : Blk w D tSlU8 #[.slice ob b.length kb]) (hb : CBy w lab cb ob b) (hk : b.length ≤ kb) (hl : ls.length ≤ 2 ^ 20) :
    ∃ o' k' w', Sem.run Try.prog (builtinV .append #[tSlSl, tSlSl] tSlSl #[.slice o n k, .slice (some ⟨D, 0, none⟩) 1 1]) w = .ok (.slice o' (n + 1) k') w' ∧
      LsOwn w' (ext lab w.heap.size c) c cb (ls ++ [b]) o' (n + 1) k' ∧ Stp (· = c) w lab w' (ext lab w.heap.size c) := by
  obtain ⟨rfl, vs, hO, hC⟩ := H
  obtain ⟨i, hi, hz, hs, hbt⟩ := info_of info_slU8
  obtain ⟨o', k', w', h1, h2, h3⟩ := COw.append (ty := tSlSl) und_slSl hi hz hs (by rfl) hO (src_one und_slSl B rfl (by simp [Value.oneCell'])) (by simp only [maxLen]; omega) (by rw [hbt]; omega)
  exact ⟨o', k', w', h1, ⟨by simp, _, h2, (hC.push hb hk).stp h3 hcb⟩, h3⟩
theorem bytesOf_calls {m cm cl : Nat} {l : List (By × By)} {h : By} (hM : SMap w lab cm cl l m) (hh : h.length = 32) :
    Calls Try.prog proof_store_bytesOf.n #[.agg #[.map (some m), .bool false], .agg (hashA h)] w (fun e w' => Vcg.Mod NoB w w' ∧ (findN l h = none → e = .panicked (faultOf 160)) ∧
      (∀ b, findN l h = some b → ∃ o k, e = .returned (.slice o b.length k) ∧ CBy w lab cl o b ∧ b.length ≤ k)) := by
  refine calls_gen fun R hR => proof_store_bytesOf.vc _ _ _ _ _ ?_
  unfold proof_store_bytesOf.Vc
  obtain ⟨es, hA, hO⟩ := hM
  rintro d3 w1 ⟨rfl, rfl⟩
  have M1 := Mod.alloc (S := NoB) w (.cells #[.map (some m), .bool false] 126)
  have B1 := Blk.new w 126 #[.map (some m), .bool false]
  generalize w.heap.size = D at *
  generalize w.alloc (.cells #[.map (some m), .bool false] 126) = w1 at *
  rintro d5 w2 ⟨rfl, rfl⟩
  have M12 := Mod.alloc (S := NoB) w1 (.cells (hashA h) 26)
  have X2 := Blk.new w1 26 (hashA h)
  have B2 := B1.mod' M12
  have M2 := M1.none_trans M12
  generalize w1.heap.size = E at *
  generalize w1.alloc (.cells (hashA h) 26) = w2 at *
  have hA2 : MapAt (fun _ => True) encH w2 m es := hA.map.same (M2.block m hA.map.lt (fun h => h))
  have hlook := MapAt.look hA2 keyEncH und_store (zero_slU8 w2) (k := ⟨h, hh⟩) trivial true
  rw [if_pos rfl] at hlook
  have hf := hO ⟨h, hh⟩
  cases hn : findN l h with
  | none =>
    rw [hn] at hf
    simp only at hf
    rw [hf] at hlook
    refine ⟨_, B2.rd1 rfl, _, X2.rowAll (size_hashA _), _, hlook, _, _, _, _, rfl, fun _ => ?_, fun h => (by cases h)⟩
    refine (gives_calls w2 160).mono ?_
    rintro e w3 ⟨rfl, he⟩
    rw [if_neg (by decide)] at he
    subst he
    exact .inl ⟨_, rfl, hR _ _ ⟨M2, fun _ => rfl, fun b hb => (by rw [hn] at hb; cases hb)⟩⟩
  | some b =>
    rw [hn] at hf
    obtain ⟨ob, kb, hfa, hby, hkb⟩ := hf
    rw [hfa] at hlook
    refine ⟨_, B2.rd1 rfl, _, X2.rowAll (size_hashA _), _, hlook, _, _, _, _, rfl, fun h => (by cases h), fun _ => ?_⟩
    rintro _ rfl
    have B3 := B2.drew
    refine ⟨false, by rw [add_at]; exact B3.rd1 rfl, fun h => (by cases h), fun _ => hR _ _ ⟨M2.step_drew, fun h => (by rw [hn] at h; cases h), fun b' hb' => ?_⟩⟩
    rw [hn] at hb'
    cases hb'
    exact ⟨ob, kb, rfl, hby, hkb⟩
/-- What Prove asks, and has met. -/
def pStep (l : List (By × By)) (out : List By) (h : By) : List By × Except Int By := match findN l h with
  | none => (out, .error 160)
  | some b => (out ++ [b], .ok b)
def PInv (l : List (By × By)) (dS dO m : Nat) (w : World) (lab : Nat → Nat) (out : List By) : Prop :=
  CB w lab 1 dS 126 #[.map (some m), .bool false] ∧ SMap w lab 9 0 l m ∧ ∃ o n k, CB w lab 7 dO tSlSl #[.slice o n k] ∧ LsOwn w lab 8 9 out o n k
theorem PInv.stp {S : Nat → Prop} {l : List (By × By)} {dS dO m : Nat} {out : List By} (h : PInv l dS dO m w lab out) (s : Stp S w lab w' lab') (h0 : ¬ S 0) (hS1 : ¬ S 1) (h7 : ¬ S 7) (h8 : ¬ S 8) (h9 : ¬ S 9) : PInv l dS dO m w' lab' out := by
  obtain ⟨h1, h2, o, n, k, h3, h4⟩ := h
  exact ⟨h1.stp s hS1, h2.stp s h9 h0, o, n, k, h3.stp s h7, h4.stp s h8 h9⟩
theorem askP {l : List (By × By)} {dS dO m : Nat} (hb : ∀ x ∈ l, x.2.length ≤ 2 ^ 30) : AskOK (.func (.func 76) #[] #[.pointer (some ⟨dS, 0, none⟩), .pointer (some ⟨dO, 0, none⟩)]) (fun k => k = 7 ∨ k = 8) (PInv l dS dO m) (pStep l) (fun out n => out.length + n ≤ 2 ^ 20) where
  le h hm := by omega
  s5 := by decide
  s6 := by decide
  stp h s := h.stp s (by decide) (by decide) (by decide) (by decide) (by decide)
  run := by
    intro w lab out h n hI hcan hh
    refine ⟨76, #[], _, rfl, by kernel_rfl, ?_⟩
    refine calls_gen fun R hR => proof_Prove_2.vc _ _ _ _ _ ?_
    unfold proof_Prove_2.Vc
    rintro d3 w1 ⟨rfl, rfl⟩
    have s1 : Stp NoS w lab (w.alloc (.cells (hashA h) 26)) (ext lab w.heap.size 9) := Stp.alloc NoS w lab _ 9
    have X1 := Blk.new w 26 (hashA h)
    have I1 := hI.stp s1 (fun h => h) (fun h => h) (fun h => h) (fun h => h) (fun h => h)
    generalize w.heap.size = D3 at *
    generalize w.alloc (.cells (hashA h) 26) = w1 at *
    generalize ext lab D3 9 = lab1 at *
    obtain ⟨b1, hM, _⟩ := id I1
    refine ⟨_, _, b1.blk.rd1 rfl, by rw [add_at]; exact b1.blk.rd1 rfl, _, X1.rowAll (size_hashA _), ?_⟩
    refine (bytesOf_calls hM hh).mono ?_
    rintro e w2 ⟨M2, hnone, hsome⟩
    have s2 : Stp NoS w1 lab1 w2 (ext lab1 w1.heap.size 9) := Stp.of_nob M2 9
    have I2 := I1.stp s2 (fun h => h) (fun h => h) (fun h => h) (fun h => h) (fun h => h)
    cases hf : findN l h with
    | none =>
      have he := hnone hf
      subst he
      refine .inl ⟨_, rfl, hR _ _ ⟨_, (s1.trans s2).mono (fun _ h => h.elim), ?_, ?_, fun er her => ?_, fun b hb => ?_⟩⟩
      · unfold pStep; rw [hf]; exact I2
      · unfold pStep; rw [hf]; show out.length + n ≤ _; omega
      · unfold pStep at her; rw [hf] at her
        simp only [Except.error.injEq] at her
        subst her
        exact ⟨rfl, by decide⟩
      · unfold pStep at hb; rw [hf] at hb; cases hb
    | some b =>
      obtain ⟨ob, kb, rfl, hby, hkb⟩ := hsome b hf
      have hby2 := hby.stp s2 (fun h => h)
      have s02 := s1.trans s2
      generalize ext lab1 w1.heap.size 9 = lab2 at *
      refine .inr ⟨_, _, _, rfl, ?_⟩
      rintro _ rfl
      have s3 : Stp NoS w2 lab2 w2.drew lab2 := Stp.drew _ _ _
      have I3 := I2.stp s3 (fun h => h) (fun h => h) (fun h => h) (fun h => h) (fun h => h)
      have hby3 := hby2.stp s3 (fun h => h)
      have s03 := s02.trans s3
      generalize w2.drew = w3 at *
      obtain ⟨_, _, o, nn, k, bO, hO⟩ := id I3
      have hbl : b.length ≤ 2 ^ 30 := by
        have : ∀ (l : List (By × By)), (∀ x ∈ l, x.2.length ≤ 2 ^ 30) → findN l h = some b → b.length ≤ 2 ^ 30 := by
          intro l
          induction l with
          | nil => intro _ h; cases h
          | cons x r ih =>
            intro hb hf
            simp only [findN] at hf
            split at hf
            · cases hf; exact hb x (by simp)
            · exact ih (fun y hy => hb y (by simp [hy])) hf
        exact this l hb hf
      refine ⟨_, _, _, bO.blk.rd1 rfl, ?_⟩
      refine (Clone_calls hby3.rd (by omega)).mono ?_
      rintro _ w4 ⟨o4, k4, rfl, F4⟩
      have s4 : Stp NoS w3 lab2 w4 (ext lab2 w3.heap.size 9) := Stp.of_nob F4.mod 9
      have I4 := I3.stp s4 (fun h => h) (fun h => h) (fun h => h) (fun h => h) (fun h => h)
      have hby4 := hby3.stp s4 (fun h => h)
      have hcl4 : CBy w4 (ext lab2 w3.heap.size 9) 9 o4 b := fresh_cby F4 (Mod.refl _)
      have bO4 := bO.stp s4 (fun h => h)
      have s04 := s03.trans s4
      generalize ext lab2 w3.heap.size 9 = lab4 at *
      refine .inr ⟨_, _, _, rfl, bO4.blk.rd1 rfl, ?_⟩
      rintro d22 w5 ⟨rfl, rfl⟩
      have s5 : Stp NoS w4 lab4 (w4.alloc (.cells #[.slice o4 b.length k4] 22)) (ext lab4 w4.heap.size 9) := Stp.alloc NoS w4 lab4 _ 9
      have N5 := Blk.new w4 22 #[.slice o4 b.length k4]
      have I5 := I4.stp s5 (fun h => h) (fun h => h) (fun h => h) (fun h => h) (fun h => h)
      have hby5 := hby4.stp s5 (fun h => h)
      have hcl5 := hcl4.stp s5 (fun h => h)
      have bO5 := bO4.stp s5 (fun h => h)
      have hO5 := (hO.stp s4 (fun h => h) (fun h => h)).stp s5 (fun h => h) (fun h => h)
      have s05 := s04.trans s5
      generalize w4.heap.size = D5 at *
      generalize w4.alloc (.cells #[.slice o4 b.length k4] 22) = w5 at *
      generalize ext lab4 D5 9 = lab5 at *
      refine ⟨bO5.blk.rd1 rfl, ?_⟩
      obtain ⟨o6, k6, w6, hr6, hO6, s6⟩ := hO5.push (by decide) N5 hcl5 F4.own.cap.1 (by omega)
      have hby6 := hby5.stp s6 (by decide)
      have bO6 := bO5.stp s6 (by decide)
      obtain ⟨bS5, hM5, _⟩ := I5
      have bS6 := bS5.stp s6 (by decide)
      have hM6 := hM5.stp s6 (by decide) (by decide)
      generalize ext lab5 w5.heap.size 8 = lab6 at *
      refine ⟨_, w6, hr6, _, _, _, rfl, bO6.blk.canSet (by simp) rfl, ?_⟩
      rintro _ rfl
      have s7 : Stp (· = 7) w6 lab6 (w6.setCell ⟨dO, 0, none⟩ (.slice o6 (nn + 1) k6)) lab6 := Stp.setCell bO6.clr
      have hby7 := hby6.stp s7 (by decide)
      refine hR _ _ ⟨lab6, ((s05.mono (fun _ h => h.elim)).trans (s6.mono (fun _ h => .inr h))).trans (s7.mono (fun _ h => .inl h)), ?_, ?_, fun er her => ?_, fun b' hb' => ?_⟩
      · unfold pStep; rw [hf]
        exact ⟨bS6.stp s7 (by decide), hM6.stp s7 (by decide) (by decide), o6, nn + 1, k6, bO6.set 0 _, hO6.stp s7 (by decide) (by decide)⟩
      · unfold pStep; rw [hf]; show (out ++ [b]).length + n ≤ _; rw [List.length_append, List.length_singleton]; omega
      · unfold pStep at her; rw [hf] at her; cases her
      · unfold pStep at hb'; rw [hf] at hb'
        cases hb'
        exact ⟨ob, kb, rfl, hby7.rd, hkb⟩
end
end Go.Proofs.Ytfghidehlnfdiaa
end

section
set_option linter.unusedVariables false
set_option linter.unusedSimpArgs false
namespace Go.Proofs.Ytfghidehlnfdiaa
open Go Go.Vcg Go.Trie
def behind : Option Code → Code
  | some (.seq _ c) => c
  | _ => .skip
/-- The condition of what is done behind 'recover()' (printed by wip/PrintRest.lean). -/
def caught_fault (d0 : Addr) (n : Int) (w : World) (R : Ending → World → Prop) : Prop :=
  ∃ v10 : Value, Sem.run Try.prog (Instr.typeAssert (.iface 190 (.agg #[(.int .i64 n)])) 20 190 true) w = .ok v10 w ∧
  ∃ n11 : Int, ∃ b12 : Bool, v10 = (.tuple #[(.agg #[(.int .i64 n11)]), (.bool b12)]) ∧
  (((b12 = true →
    ∀ (d13 : Addr) (w14 : World), IsNew w 190 #[(.int .i64 0)] d13 w14 →
    CanSet w14 d13 (.int .i64 n11) ∧ ∀ w15 : World, IsSet w14 d13 (.int .i64 n11) w15 →
    ∃ n16 : Int, World.cell? w15 d13 = some (.int .i64 n16) ∧
    CanSet w15 d0 (.int .i64 n16) ∧ ∀ w17 : World, IsSet w15 d0 (.int .i64 n16) w17 →
    R (.returned (.tuple #[])) w17)) ∧
   ((b12 = false →
    R (.panicked (panOf (.iface 190 (.agg #[(.int .i64 n)])))) w)))
def caughtK (R : Ending → World → Prop) : Kont pC := { nrm := fun _ w => R (.returned (.tuple #[])) w, exit := fun _ _ _ => False, ret := fun _ w => R (.returned (.tuple #[])) w }
theorem caught_exec (d0 : Addr) (n : Int) (w : World) (R : Ending → World → Prop) : caught_fault d0 n w R = exec (pA Try.prog ⟨R, true⟩) Try.prog [] (behind Try.f74.body) (numbered 0 [.addr d0, .tup [], .tup [], .tup [], .tup [], .iface 190 (.agg [.int .i64 n])]) w (caughtK R) := by kernel_rfl
theorem caught_exec0 (d0 : Addr) (w : World) (R : Ending → World → Prop) : R (.returned (.tuple #[])) w = exec (pA Try.prog ⟨R, true⟩) Try.prog [] (behind Try.f74.body) (numbered 0 [.addr d0, .tup [], .tup [], .tup [], .tup [], .nilIface]) w (caughtK R) := by kernel_rfl
theorem caught_slots : slotsOk 15 (behind Try.f74.body) = true := by kernel_rfl
theorem ask_fault (n : Int) (w : World) : Sem.run Try.prog (Instr.typeAssert (.iface 190 (.agg #[(.int .i64 n)])) 20 190 true) w = .ok (.tuple #[.agg #[.int .i64 n], .bool true]) w := by kernel_rfl
def onRet (post : World → Prop) : Ending → World → Prop
  | .returned _, w' => post w'
  | .panicked _, _ => False
  | .outgrown, _ => False
theorem onRet_no {post : World → Prop} {ch : List PanicEntry} {w : World} {b : Prop} (h : onRet post (.panicked ch) w) : b := False.elim h
theorem goal_no {post : World → Prop} {ch : List PanicEntry} {w : World} {b : Prop} (h : (Goal.mk (onRet post) true).fin (.panicked ch) w) : b := onRet_no (post := post) (ch := ch) (w := w) h
theorem bodyPostS_panic {P : Program} {fn : Func} {c₀ : Frame} {cs cs' : List Frame} {R : Ending → FrameMode → World → Prop} {ch : List PanicEntry} {a a' : Act} {w : World} (hd : a.defers = a'.defers) (h : bodyPostS P fn c₀ cs R (.panic ch) a cs' w) : bodyPostS P fn c₀ cs R (.panic ch) a' cs' w := ⟨hd ▸ h.1, h.2⟩
theorem caught_results (tmps : Array Value) (w : World) : (results Try.f74 tmps).run Try.prog w = .ok (.tuple #[]) w := by
  simp [results, Try.results74]
theorem size15 {v0 v5 : Value} : (#[v0] ++ (Array.replicate 14 undef).setIfInBounds 4 v5).size = 15 := by
  rw [Array.size_append, Array.size_setIfInBounds, Array.size_replicate]; rfl
theorem rep15 {v0 v5 : Value} {sv0 sv5 : SV pC} (h0 : toV sv0 = v0) (h5 : toV sv5 = v5) : Rep (numbered 0 [sv0, .tup [], .tup [], .tup [], .tup [], sv5]) ({ tmps := #[v0] ++ (Array.replicate 14 undef).setIfInBounds 4 v5, defers := [] } : Act) := by
  intro k
  rw [numbered_get, if_pos (Nat.zero_le _), Nat.sub_zero]
  have e1 : toVs [sv0, .tup [], .tup [], .tup [], .tup [], sv5] = [v0, undef, undef, undef, undef, v5] := by
    simp only [toVs, h0, h5]; rfl
  have e2 : (#[v0] ++ (Array.replicate 14 undef).setIfInBounds 4 v5).toList = [v0, undef, undef, undef, undef, v5, undef, undef, undef, undef, undef, undef, undef, undef, undef] := by
    rw [Array.toList_append, Array.toList_setIfInBounds, Array.toList_replicate]; rfl
  rw [e1, Array.getD_eq_getD_getElem?, ← Array.getElem?_toList, e2, List.getD_eq_getElem?_getD]
  by_cases hk : k < 6
  · have : k = 0 ∨ k = 1 ∨ k = 2 ∨ k = 3 ∨ k = 4 ∨ k = 5 := by omega
    rcases this with rfl | rfl | rfl | rfl | rfl | rfl <;> rfl
  · have e3 : [v0, undef, undef, undef, undef, v5, undef, undef, undef, undef, undef, undef, undef, undef, undef] = [v0, undef, undef, undef, undef, v5] ++ List.replicate 9 undef := rfl
    have e4 : ([v0, undef, undef, undef, undef, v5] : List Value)[k]? = none := List.getElem?_eq_none (by simp only [List.length_cons, List.length_nil]; omega)
    rw [e4, e3, List.getElem?_append_right (by simp only [List.length_cons, List.length_nil]; omega), List.getElem?_replicate]
    split <;> rfl
theorem caught_wp {Q : Exit → Act → World → Prop} {D : Nat} {v5 : Value} {sv5 : SV pC} {post : World → Prop} {w : World} (h5 : toV sv5 = v5)
    (h : exec (pA Try.prog ⟨onRet post, true⟩) Try.prog [] (behind Try.f74.body) (numbered 0 [.addr ⟨D, 0, none⟩, .tup [], .tup [], .tup [], .tup [], sv5]) w (caughtK (onRet post)))
    (hQ : ∀ ch (a a' : Act) w, a.defers = a'.defers → Q (.panic ch) a w → Q (.panic ch) a' w) (h1 : ∀ (a' : Act) w', a'.defers = [] → post w' → Q .normal a' w') (h2 : ∀ (a' : Act) w', a'.defers = [] → post w' → Q .ret a' w') :
    (behind Try.f74.body).wp Try.prog Q { tmps := #[Value.pointer (some ⟨D, 0, none⟩)] ++ (Array.replicate 14 undef).setIfInBounds 4 v5, defers := [] } w :=
  exec_sound (R := ⟨onRet post, true⟩) (ann := []) mixed (n := 15) (behind Try.f74.body) (writesOf (behind Try.f74.body)) _ _ w (caughtK (onRet post)) Q (rep15 (sv0 := .addr ⟨D, 0, none⟩) (sv5 := sv5) rfl h5) size15 caught_slots (fun _ h => h) (fun ch a a' w hd _ hq => hQ ch a a' w hd hq) (fun ch a' w' hd hk hf => goal_no hf) h
    { nrm := fun env' a' w' _ _ h3 _ h5 => h1 a' w' h3 h5
      exit := fun i env' a' w' _ _ _ _ h5 => h5.elim
      ret := fun env' a' w' _ _ h3 _ h5 => h2 a' w' h3 h5 }
set_option maxRecDepth 20000 in
theorem caught_calls {D : Nat} {t : TypeId} {v : Value} {n : Int} {w : World} (B : Blk w D t #[v]) :
    CallsD Try.prog 74 #[.pointer (some ⟨D, 0, none⟩)] (.panicking (faultOf n)) w (fun e u' w' => e = .returned (.tuple #[]) ∧ u' = .panicking [{ v := .iface 190 (.agg #[.int .i64 n]), recovered := true }] ∧ Blk w' D t #[.int .i64 n] ∧ Vcg.Mod (· = D) w w') := by
  have hcf : caught_fault ⟨D, 0, none⟩ n w (onRet fun w' => Blk w' D t #[.int .i64 n] ∧ Vcg.Mod (· = D) w w') := by
    refine ⟨_, ask_fault n w, n, true, rfl, fun _ => ?_, fun h => (by cases h)⟩
    rintro d w1 ⟨rfl, rfl⟩
    have F := Blk.new w 190 #[.int .i64 0]
    have M1 := Mod.alloc (S := (· = D)) w (.cells #[.int .i64 0] 190)
    have hD := B.lt
    have B1 := B.mod (Mod.alloc (S := NoB) w (.cells #[.int .i64 0] 190)) (fun h => h)
    refine ⟨F.canSet (by simp) rfl, ?_⟩
    rintro _ rfl
    have F2 := F.set 0 (.int .i64 n)
    have B2 := B1.set_ne (a := ⟨w.heap.size, 0, none⟩) (v := .int .i64 n) (by show D ≠ w.heap.size; omega)
    have M2 : Vcg.Mod (· = D) w _ := M1.trans (Mod.setCell (w.alloc (.cells #[.int .i64 0] 190)) ⟨w.heap.size, 0, none⟩ (.int .i64 n)) (fun i hi e => by have he : i = w.heap.size := e; omega)
    refine ⟨n, F2.rd1 rfl, B2.canSet (by simp) rfl, ?_⟩
    rintro _ rfl
    exact ⟨B2.set 0 _, M2.step_set (a := ⟨D, 0, none⟩) (fun _ => rfl)⟩
  have h := Eq.mp (caught_exec ⟨D, 0, none⟩ n w _) hcf
  clear hcf
  refine callsD_of_wpS Try.func74 rfl fun c₀ cs hu => ?_
  apply wpS_seq
  apply wpS_region
  simp [wpOpsS, go_sem, recoverD, hu, Try.ntmps74, Exit.thenS]
  refine wpS_of_wp (caught_wp (post := fun w' => Blk w' D t #[.int .i64 n] ∧ Vcg.Mod (· = D) w w') (sv5 := .iface 190 (.agg [.int .i64 n])) rfl h (fun ch a a' w hd hq => bodyPostS_panic hd hq) ?_ ?_)
  · exact fun a' w' hd hr => ⟨hd, _, rfl, _, caught_results _ _, rfl, rfl, hr.1, hr.2⟩
  · exact fun a' w' hd hr => ⟨hd, _, rfl, _, caught_results _ _, rfl, rfl, hr.1, hr.2⟩
set_option maxRecDepth 20000 in
theorem caught_idle {D : Nat} {w : World} :
    CallsD Try.prog 74 #[.pointer (some ⟨D, 0, none⟩)] .returning w (fun e u' w' => e = .returned (.tuple #[]) ∧ u' = .returning ∧ w' = w) := by
  have h := Eq.mp (caught_exec0 ⟨D, 0, none⟩ w (onRet fun w' => w' = w)) rfl
  refine callsD_of_wpS Try.func74 rfl fun c₀ cs hu => ?_
  apply wpS_seq
  apply wpS_region
  simp [wpOpsS, go_sem, recoverD, hu, Try.ntmps74, Exit.thenS]
  refine wpS_of_wp (caught_wp (post := fun w' => w' = w) (sv5 := .nilIface) rfl h (fun ch a a' w hd hq => bodyPostS_panic hd hq) ?_ ?_)
  · exact fun a' w' hd hr => ⟨hd, .returning, by rw [← hu], _, caught_results _ _, rfl, rfl, hr⟩
  · exact fun a' w' hd hr => ⟨hd, .returning, by rw [← hu], _, caught_results _ _, rfl, rfl, hr⟩
end Go.Proofs.Ytfghidehlnfdiaa
end

section
set_option linter.unusedVariables false
set_option linter.unusedSimpArgs false
namespace Go.Proofs.Ytfghidehlnfdiaa
open Go Go.Vcg Go.Trie
/-- What Prove answers. -/
def proveR (l : List (By × By)) (root key : By) : Except Int (List By) :=
  if l.length > 4096 then .error 162 else if key.length > 64 then .error 140 else
  match way (pStep l) [] (rootIt root) (nibbles key) with
  | (out, .ok _) => .ok out
  | (_, .error e) => .error e
/-- What both functions named Prove hand back. -/
def ProveIs (l : List (By × By)) (root key : By) (w : World) (e : Ending) (w' : World) : Prop :=
  Vcg.Mod NoB w w' ∧ match proveR l root key with
    | .error er => er ≠ 0 ∧ e = .returned (.tuple #[.slice none 0 0, .int .i64 er])
    | .ok out => ∃ o n k, e = .returned (.tuple #[.slice o n k, .int .i64 0]) ∧ ∃ lab' c cb, LsOwn w' lab' c cb out o n k
def lab8 (N : Nat) : Nat → Nat := fun k => if k = N + 1 then 7 else if N ≤ k then 1 else 0
theorem lab8_old {N k : Nat} (h : k < N) : lab8 N k = 0 := by unfold lab8; rw [if_neg (by omega), if_neg (by omega)]
/-- How Prove is left: by a panic. -/
theorem leave_fault {R : Ending → World → Prop} {rt : World → Prop} {dE dO : Nat} {n n0 : Int} {o : Option Addr} {l k : Nat} {w : World} (hn : n ≠ 0) (hne : dE ≠ dO) (E : Blk w dE 52 #[.int .i64 n0]) (O : Blk w dO 31 #[.slice o l k])
    (K : ∀ w', Blk w' dE 52 #[.int .i64 n] → Blk w' dO 31 #[.slice none 0 0] → Vcg.Mod (fun b => b = dE ∨ b = dO) w w' → rt w') :
    LeavV Try.prog rt R [(74, #[.pointer (some ⟨dE, 0, none⟩)]), (73, #[.pointer (some ⟨dE, 0, none⟩), .pointer (some ⟨dO, 0, none⟩)])] (.panicking (faultOf n)) w := by
  refine ⟨fun h => (by cases h), (caught_calls E).mono ?_⟩
  rintro _ _ w1 ⟨rfl, rfl, E1, M1⟩
  have O1 := O.mod M1 (fun h => hne h.symm)
  refine ⟨fun h => (by cases h), ?_⟩
  refine (proof_Prove_1.vcd .returning _ _ w1 (fun e w' => e = .returned (.tuple #[]) ∧ Blk w' dE 52 #[.int .i64 n] ∧ Blk w' dO 31 #[.slice none 0 0] ∧ Vcg.Mod (· = dO) w1 w') ?_).mono ?_
  · unfold proof_Prove_1.Vc
    refine ⟨n, E1.rd1 rfl, fun _ => ⟨O1.canSet (by simp) rfl, ?_⟩, fun h => (hn h).elim⟩
    rintro _ rfl
    exact ⟨rfl, E1.set_ne (by exact hne), O1.set 0 _, Mod.setCell w1 ⟨dO, 0, none⟩ _⟩
  · rintro _ _ w2 ⟨rfl, rfl, E2, O2, M2⟩
    exact K w2 E2 O2 ((M1.mono (fun _ _ h => .inl h)).trans M2 (fun _ _ h => .inr h))
/-- .. in order. -/
theorem leave_well {R : Ending → World → Prop} {rt : World → Prop} {dE dO : Nat} {w : World} (E : Blk w dE 52 #[.int .i64 0]) (K : rt w) :
    LeavV Try.prog rt R [(74, #[.pointer (some ⟨dE, 0, none⟩)]), (73, #[.pointer (some ⟨dE, 0, none⟩), .pointer (some ⟨dO, 0, none⟩)])] .returning w := by
  refine ⟨fun h => (by cases h), caught_idle.mono ?_⟩
  rintro _ _ w1 ⟨rfl, rfl, rfl⟩
  refine ⟨fun h => (by cases h), ?_⟩
  refine (proof_Prove_1.vcd .returning _ _ w1 (fun e w' => e = .returned (.tuple #[]) ∧ w' = w1) ?_).mono ?_
  · unfold proof_Prove_1.Vc
    exact ⟨0, E.rd1 rfl, fun h => (h rfl).elim, fun _ => ⟨rfl, rfl⟩⟩
  · rintro _ _ w2 ⟨rfl, rfl, rfl⟩
    exact K
theorem Prove_calls {w : World} {lab : Nat → Nat} {c : Nat} {l : List (By × By)} {o ok : Option Addr} {k kk : Nat} {root key : By} (h : NdRow w lab c l o l.length) (hlen : l.length ≤ 2 ^ 40) (hb : ∀ x ∈ l, x.2.length ≤ 2 ^ 30) (hroot : root.length = 32) (hkey : RdB w ok key) :
    Calls Try.prog proof_Prove.n #[.slice o l.length k, .agg (hashA root), .slice ok key.length kk] w (ProveIs l root key w) := by
  refine calls_gen fun R hR => proof_Prove.vc _ _ _ _ _ _ _ _ _ ?_
  unfold proof_Prove.Vc
  have hN : NdRow w (lab8 w.heap.size) 0 l o l.length := NdRow.re h (fun k hk _ => lab8_old hk)
  rintro d3 w1 ⟨rfl, rfl⟩
  have M1 := Mod.alloc (S := NoB) w (.cells (hashA root) 26)
  have X1 := Blk.new w 26 (hashA root)
  have z1 := size_alloc w (.cells (hashA root) 26)
  generalize hNe : w.heap.size = N at *
  generalize w.alloc (.cells (hashA root) 26) = w1 at *
  rintro d5 w2 ⟨rfl, rfl⟩
  have M12 := Mod.alloc (S := NoB) w1 (.cells #[.slice none 0 0] 31)
  have O2 := Blk.new w1 31 #[.slice none 0 0]
  have z2 := size_alloc w1 (.cells #[.slice none 0 0] 31)
  have X2 := X1.mod' M12
  have M2 := M1.none_trans M12
  rw [z1] at O2 z2 ⊢
  generalize w1.alloc (.cells #[.slice none 0 0] 31) = w2 at *
  rintro d7 w3 ⟨rfl, rfl⟩
  have M23 := Mod.alloc (S := NoB) w2 (.cells #[.int .i64 0] 52)
  have E3 := Blk.new w2 52 #[.int .i64 0]
  have z3 := size_alloc w2 (.cells #[.int .i64 0] 52)
  have X3 := X2.mod' M23
  have O3 := O2.mod' M23
  have M3 := M2.none_trans M23
  rw [z2] at E3 z3 ⊢
  generalize w2.alloc (.cells #[.int .i64 0] 52) = w3 at *
  -- colours
  have s3 : Stp NoS w (lab8 N) w3 (lab8 N) := ⟨M3.os, M3.tape, M3.output, M3.size, fun _ _ => rfl, fun q hq _ => M3.block q hq (fun h => h)⟩
  have hN3 := hN.stp s3 (fun h => h)
  have lO : lab8 N (N + 1) = 7 := if_pos rfl
  have lX : lab8 N N = 1 := by unfold lab8; rw [if_neg (by omega), if_pos (Nat.le_refl _)]
  have lE : lab8 N (N + 1 + 1) = 1 := by unfold lab8; rw [if_neg (by omega), if_pos (by omega)]
  refine (stored_calls (k := k) (held := false) hN3 hlen).mono ?_
  rintro e w4 ⟨M4, hbig, hsmall⟩
  have s34 : Stp NoS w3 (lab8 N) w4 (ext (lab8 N) w3.heap.size 9) := Stp.of_nob M4 9
  have M04 := M3.none_trans M4
  have z4 := M4.size
  -- behind stored
  obtain ⟨m11, b12, n13, rfl, hcase⟩ : ∃ m11 b12 n13, e = .returned (.tuple #[.agg #[.map m11, .bool b12], .int .i64 n13]) ∧ ((n13 = 162 ∧ l.length > 4096) ∨ (n13 = 0 ∧ l.length ≤ 4096 ∧ b12 = false ∧ ∃ m, m11 = some m ∧ SMap w4 (ext (lab8 N) w3.heap.size 9) 9 0 l m)) := by
    by_cases hl : l.length > 4096
    · exact ⟨_, _, _, hbig hl, .inl ⟨rfl, hl⟩⟩
    · obtain ⟨m, he, hm⟩ := hsmall (by omega)
      exact ⟨_, _, _, he, .inr ⟨rfl, by omega, rfl, m, rfl, hm⟩⟩
  have X4 : CB w4 (ext (lab8 N) w3.heap.size 9) 1 N 26 (hashA root) := (CB.mk X3 lX).stp s34 (fun h => h)
  have O4 : CB w4 (ext (lab8 N) w3.heap.size 9) 7 (N + 1) 31 #[.slice none 0 0] := (CB.mk O3 lO).stp s34 (fun h => h)
  have E4 : CB w4 (ext (lab8 N) w3.heap.size 9) 1 (N + 1 + 1) 52 #[.int .i64 0] := (CB.mk E3 lE).stp s34 (fun h => h)
  have hlab4 : ∀ b, ext (lab8 N) w3.heap.size 9 b = 5 ∨ ext (lab8 N) w3.heap.size 9 b = 7 ∨ ext (lab8 N) w3.heap.size 9 b = 8 → N ≤ b := by
    intro b hb
    refine Nat.le_of_not_lt fun hlt => ?_
    rw [ext_old (by omega), lab8_old hlt] at hb
    omega
  clear hbig hsmall X3 O3 E3 hN3 s34 s3
  generalize ext (lab8 N) w3.heap.size 9 = lab4 at *
  refine .inr ⟨_, _, _, rfl, ?_⟩
  rintro d14 w5 ⟨rfl, rfl⟩
  have s45 : Stp NoS w4 lab4 (w4.alloc (.cells #[.map none, .bool false] 126)) (ext lab4 w4.heap.size 1) := Stp.alloc NoS w4 lab4 _ 1
  have M45 := Mod.alloc (S := NoB) w4 (.cells #[.map none, .bool false] 126)
  have D5 := CB.new w4 lab4 1 126 #[.map none, .bool false]
  have X5 := X4.stp s45 (fun h => h)
  have O5 := O4.stp s45 (fun h => h)
  have E5 := E4.stp s45 (fun h => h)
  have hlab5 : ∀ b, ext lab4 w4.heap.size 1 b = 5 ∨ ext lab4 w4.heap.size 1 b = 7 ∨ ext lab4 w4.heap.size 1 b = 8 → N ≤ b := by
    intro b hb
    by_cases hlt : b < w4.heap.size
    · rw [ext_old hlt] at hb; exact hlab4 b hb
    · omega
  have M05 := M04.none_trans M45
  have hD : N + 1 + 1 < w4.heap.size := by omega
  generalize w4.heap.size = D at *
  generalize w4.alloc (.cells #[.map none, .bool false] 126) = w5 at *
  generalize ext lab4 D 1 = lab5 at *
  refine ⟨D5.blk.canSet (by simp) rfl, ?_⟩
  rintro _ rfl
  have D6 := D5.set 0 (.map m11)
  have Q6 : Vcg.Mod (· = D) w5 _ := Mod.setCell w5 ⟨D, 0, none⟩ (.map m11)
  rw [add_at, Nat.zero_add]
  refine ⟨D6.blk.canSet (by simp) rfl, ?_⟩
  rintro _ rfl
  have D7 := D6.set 1 (.bool b12)
  have Q7 := Q6.step_set (a := ⟨D, 1, none⟩) (v := .bool b12) (fun _ => rfl)
  have s57 : Stp (· = 1) w5 lab5 _ lab5 := ⟨Q7.os, Q7.tape, Q7.output, Q7.size, fun _ _ => rfl, fun q hq hn => Q7.block q hq (fun e => hn (by rw [e]; exact D5.clr))⟩
  have E7 := E5.blk.mod Q7 (by omega)
  have X7 := X5.blk.mod Q7 (by omega)
  have O7 := O5.stp s57 (by decide)
  generalize ((w5.setCell ⟨D, 0, none⟩ (.map m11)).setCell ⟨D, 1, none⟩ (.bool b12)) = w7 at *
  refine ⟨E7.canSet (by simp) rfl, ?_⟩
  rintro _ rfl
  have E8 := E7.set 0 (.int .i64 n13)
  have Q8 : Vcg.Mod (· = N + 1 + 1) w7 _ := Mod.setCell w7 ⟨N + 1 + 1, 0, none⟩ (.int .i64 n13)
  have s78 : Stp (· = 1) w7 lab5 _ lab5 := ⟨Q8.os, Q8.tape, Q8.output, Q8.size, fun _ _ => rfl, fun q hq hn => Q8.block q hq (fun e => hn (by rw [e]; exact E5.clr))⟩
  have X8 := X7.mod Q8 (by omega)
  have O8 := O7.stp s78 (by decide)
  have D8 : CB (w7.setCell ⟨N + 1 + 1, 0, none⟩ (.int .i64 n13)) lab5 1 D 126 #[.map m11, .bool b12] := ⟨D7.blk.mod Q8 (by omega), D7.clr⟩
  have M08 : Vcg.Mod NoB w _ := mod_of (mod_of M05 Q7 (by omega)) Q8 (by omega)
  have E8c : CB (w7.setCell ⟨N + 1 + 1, 0, none⟩ (.int .i64 n13)) lab5 1 (N + 1 + 1) 52 #[.int .i64 n13] := ⟨E8, E5.clr⟩
  have s48 := (s45.mono (T := fun k => k = 1) (fun _ h => h.elim)).trans (s57.trans s78)
  generalize w7.setCell ⟨N + 1 + 1, 0, none⟩ (.int .i64 n13) = w8 at *
  refine ⟨_, E8.rd1 rfl, fun hne => ?_, fun h0 => ?_⟩
  · obtain ⟨rfl, hl⟩ := hcase.resolve_right (fun h => hne h.1)
    rintro _ rfl
    have E9 := E8.drew
    have O9 := O8.blk.drew
    have M09 := M08.step_drew
    refine ⟨_, E9.rd1 rfl, O9.canSet (by simp) rfl, ?_⟩
    rintro _ rfl
    have O10 := O9.set 0 (.slice none 0 0)
    have E10 := E9.set_ne (a := ⟨N + 1, 0, none⟩) (v := .slice none 0 0) (by show N + 1 + 1 ≠ N + 1; omega)
    have M10 : Vcg.Mod NoB w _ := mod_of M09 (Mod.setCell w8.drew ⟨N + 1, 0, none⟩ (.slice none 0 0)) (by show w.heap.size ≤ N + 1; omega)
    refine ⟨E10.rd1 rfl, E10.canSet (by simp) rfl, ?_⟩
    rintro _ rfl
    have E11 := E10.set 0 (.int .i64 162)
    have O11 := O10.set_ne (a := ⟨N + 1 + 1, 0, none⟩) (v := .int .i64 162) (by show N + 1 ≠ N + 1 + 1; omega)
    refine ⟨_, _, _, O11.rd1 rfl, _, E11.rd1 rfl, hR _ _ ⟨mod_of M10 (Mod.setCell _ ⟨N + 1 + 1, 0, none⟩ (.int .i64 162)) (by show w.heap.size ≤ N + 1 + 1; omega), ?_⟩⟩
    unfold proveR
    rw [if_pos hl]
    exact ⟨by decide, rfl⟩
  · obtain ⟨rfl, hl, rfl, m, rfl, hSM⟩ := hcase.resolve_left (fun h => by rw [h.1] at h0; exact absurd h0 (by decide))
    refine ⟨fun hk => ?_, fun hk => ?_⟩
    · refine ⟨O8.blk.canSet (by simp) rfl, ?_⟩
      rintro _ rfl
      have O10 := O8.blk.set 0 (.slice none 0 0)
      have E10 := E8.set_ne (a := ⟨N + 1, 0, none⟩) (v := .slice none 0 0) (by show N + 1 + 1 ≠ N + 1; omega)
      have M10 : Vcg.Mod NoB w _ := mod_of M08 (Mod.setCell w8 ⟨N + 1, 0, none⟩ (.slice none 0 0)) (by show w.heap.size ≤ N + 1; omega)
      refine ⟨E10.canSet (by simp) rfl, ?_⟩
      rintro _ rfl
      have E11 := E10.set 0 (.int .i64 140)
      have O11 := O10.set_ne (a := ⟨N + 1 + 1, 0, none⟩) (v := .int .i64 140) (by show N + 1 ≠ N + 1 + 1; omega)
      refine ⟨_, _, _, O11.rd1 rfl, _, E11.rd1 rfl, hR _ _ ⟨mod_of M10 (Mod.setCell _ ⟨N + 1 + 1, 0, none⟩ (.int .i64 140)) (by show w.heap.size ≤ N + 1 + 1; omega), ?_⟩⟩
      unfold proveR
      rw [if_neg (by omega), if_pos (by omega)]
      exact ⟨by decide, rfl⟩
    · refine ⟨_, X8.rowAll (size_hashA _), ?_⟩
      have hI : PInv l D (N + 1) m w8 lab5 [] := ⟨D8, hSM.stp s48 (by decide) (by decide), none, 0, 0, O8, LsOwn.nil _ _ _ _⟩
      refine (way_calls (askP (dS := D) (dO := N + 1) (m := m) hb) hI (by simp) hroot (hkey.mod' M08) (by omega)).mono ?_
      rintro e w9 ⟨lab9, s89, I9, hw⟩
      have hpr : proveR l root key = (match way (pStep l) [] (rootIt root) (nibbles key) with
          | (out, .ok _) => .ok out
          | (_, .error e) => .error e) := by
        unfold proveR; rw [if_neg (by omega), if_neg (by omega)]
      have E9 := E8c.stp s89 (by decide)
      obtain ⟨_, _, o9, n9, k9, O9, L9⟩ := I9
      have M89 : Vcg.Mod (fun b => N ≤ b) w8 w9 := s89.mod (fun q hq hs => hlab5 q hs)
      have M09 : Vcg.Mod NoB w w9 := M08.trans M89 (fun i hi h => by omega)
      generalize way (pStep l) [] (rootIt root) (nibbles key) = res at hw hpr L9
      obtain ⟨out, r⟩ := res
      cases r with
      | error er =>
        obtain ⟨rfl, hne⟩ := hw
        refine .inl ⟨_, rfl, leave_fault hne (by omega) E9.blk O9.blk (fun w10 E10 O10 M10 => ?_)⟩
        refine ⟨_, _, _, O10.rd1 rfl, _, E10.rd1 rfl, hR _ _ ⟨M09.trans M10 (fun i hi h => by omega), ?_⟩⟩
        rw [hpr]
        exact ⟨hne, rfl⟩
      | ok v =>
        obtain ⟨ov, kv, rfl, hv⟩ := hw
        refine .inr ⟨_, _, _, _, rfl, _, _, _, O9.blk.rd1 rfl, O9.blk.canSet (by simp) rfl, ?_⟩
        rintro _ rfl
        have O10 := O9.set 0 (.slice o9 n9 k9)
        have s910 : Stp (· = 7) w9 lab9 _ lab9 := Stp.setCell (a := ⟨N + 1, 0, none⟩) (v := .slice o9 n9 k9) O9.clr
        have L10 := L9.stp s910 (by decide) (by decide)
        have E10 := E9.stp s910 (by decide)
        have M10 : Vcg.Mod NoB w _ := mod_of M09 (Mod.setCell w9 ⟨N + 1, 0, none⟩ (.slice o9 n9 k9)) (by show w.heap.size ≤ N + 1; omega)
        refine ⟨E10.blk.canSet (by simp) rfl, ?_⟩
        rintro _ rfl
        have E11 := E10.set 0 (.int .i64 0)
        have s1011 : Stp (· = 1) (w9.setCell ⟨N + 1, 0, none⟩ (.slice o9 n9 k9)) lab9 _ lab9 := Stp.setCell (a := ⟨N + 1 + 1, 0, none⟩) (v := .int .i64 0) E10.clr
        have L11 := L10.stp s1011 (by decide) (by decide)
        have O11 := O10.stp s1011 (by decide)
        refine leave_well E11.blk ⟨_, _, _, O11.blk.rd1 rfl, _, E11.blk.rd1 rfl, hR _ _ ⟨mod_of M10 (Mod.setCell _ ⟨N + 1 + 1, 0, none⟩ (.int .i64 0)) (by show w.heap.size ≤ N + 1 + 1; omega), ?_⟩⟩
        rw [hpr]
        exact ⟨o9, n9, k9, rfl, lab9, 8, 9, L11⟩
end Go.Proofs.Ytfghidehlnfdiaa
end

section
set_option linter.unusedVariables false
set_option linter.unusedSimpArgs false
namespace Go.Proofs.Ytfghidehlnfdiaa
open Go Go.Vcg Go.Trie
theorem Good.dec {xs : List It} {j : Nat} (hg : Good (.l xs)) (hj : j < xs.length) {b : By} (h : xs[j] = .s b) : b.length ≤ 2 ^ 20 := by
  obtain ⟨g, _, hf⟩ := hg.node
  have hm := hf.mem (List.getElem_mem hj)
  rw [h] at hm
  have : b.length ≤ (enc (.s b)).length := by
    simp only [enc]
    split
    · exact Nat.le_refl _
    · rw [List.length_append]; omega
  have := hm.2.2
  omega
/-- What Down has answered. -/
def DownIs (A : Nat → Prop) (w : World) (t : By × By × By) (e : Ending) : Prop :=
  ∃ ov kv orr kr on kn, e = .returned (.tuple #[.slice ov t.1.length kv, .slice orr t.2.1.length kr, .agg #[.bool false, .slice on t.2.2.length kn, .slice none 0 0]]) ∧ RdA A w ov t.1 ∧ RdA A w orr t.2.1 ∧ t.2.1.length ≤ kr ∧ RdA A w on t.2.2
theorem Down_calls {w : World} {A : Nat → Prop} {x0 : It} {path0 : By} {v1 v2 v3 : Value} {op : Option Addr} {kp : Nat} (hg0 : Good x0) (hx0 : ItC A w x0 v1 v2 v3) (hr0 : RdA A w op path0) (hk0 : path0.length ≤ kp) (hn0 : ∀ n ∈ path0, n.toNat < 16) (hl0 : path0.length ≤ 128) :
    Calls Try.prog moraineref14_Down.n #[.agg #[v1, v2, v3], .slice op path0.length kp] w (fun e w' => Vcg.Mod NoB w w' ∧ DownIs A w (downR (path0.length + 1) x0 path0) e) := by
  obtain ⟨b, q1, l1, c1, q2, l2, c2, rfl, rfl, rfl⟩ := hx0.vals
  refine calls_gen fun R hR => moraineref14_Down.vc _ _ _ _ _ _ _ _ _ _ _ _ ?_
  unfold moraineref14_Down.Vc
  rintro d4 w1 ⟨rfl, rfl⟩
  have M1 := Mod.alloc (S := NoB) w (.cells #[.bool b, .slice q1 l1 c1, .slice q2 l2 c2] 138)
  have X1 := Blk.new w 138 #[.bool b, .slice q1 l1 c1, .slice q2 l2 c2]
  have z1 := size_alloc w (.cells #[.bool b, .slice q1 l1 c1, .slice q2 l2 c2] 138)
  generalize hD : w.heap.size = D at *
  generalize w.alloc (.cells #[.bool b, .slice q1 l1 c1, .slice q2 l2 c2] 138) = w1 at *
  rintro d6 w2 ⟨rfl, rfl⟩
  have M12 := Mod.alloc (S := NoB) w1 (.cells #[.bool false, .slice none 0 0, .slice none 0 0] 138)
  have E2 := Blk.new w1 138 #[.bool false, .slice none 0 0, .slice none 0 0]
  have X2 := X1.mod' M12
  have M2 := M1.none_trans M12
  generalize hE : w1.heap.size = E at *
  generalize w1.alloc (.cells #[.bool false, .slice none 0 0, .slice none 0 0] 138) = w2 at *
  have hDE : D ≠ E := by omega
  refine ⟨fun o l c w' => ∃ (f : Nat) (x : It) (path : By) (u1 u2 u3 : Value), l = path.length ∧ path.length ≤ c ∧ RdA A w o path ∧ (∀ n ∈ path, n.toNat < 16) ∧ path.length ≤ 128 ∧ Good x ∧ path.length < f ∧ downR f x path = downR (path0.length + 1) x0 path0 ∧ ItC A w x u1 u2 u3 ∧ Blk w' D 138 #[u1, u2, u3] ∧ Blk w' E 138 #[.bool false, .slice none 0 0, .slice none 0 0] ∧ Vcg.Mod NoB w w',
    fun _ l _ _ => l, ⟨path0.length + 1, x0, path0, _, _, _, rfl, hk0, hr0, hn0, hl0, hg0, Nat.lt_succ_self _, rfl, hx0, X2, E2, M2⟩, ?_⟩
  clear X2 E2 M2 M12 X1 M1 hx0 hr0
  rintro o l c _ w3 ⟨f, x, path, u1, u2, u3, rfl, hkp, hr, hn, hl, hg, hf, heq, hx, X3, E3, M3⟩
  obtain ⟨f, rfl⟩ : ∃ g, f = g + 1 := ⟨f - 1, by omega⟩
  obtain ⟨bb, p1, m1, k1, p2, m2, k2, rfl, rfl, rfl⟩ := hx.vals
  -- the end of a list
  have stop : ∀ (w4 : World) (ov : Option Addr) (kv : Nat) (v : By), downR (f + 1) x path = (v, [], []) → RdA A w ov v → Blk w4 E 138 #[.bool false, .slice none 0 0, .slice none 0 0] → Vcg.Mod NoB w w4 →
      CanSet w4 ⟨E, 0, none⟩ (.bool false) ∧ ∀ w40 : World, IsSet w4 ⟨E, 0, none⟩ (.bool false) w40 → CanSet w40 (Addr.add ⟨E, 0, none⟩ 1) (.slice none 0 0) ∧ ∀ w41 : World, IsSet w40 (Addr.add ⟨E, 0, none⟩ 1) (.slice none 0 0) w41 → CanSet w41 (Addr.add ⟨E, 0, none⟩ 2) (.slice none 0 0) ∧ ∀ w42 : World, IsSet w41 (Addr.add ⟨E, 0, none⟩ 2) (.slice none 0 0) w42 →
      ∃ b43 : Bool, ∃ o44 : Option Addr, ∃ l45 : Nat, ∃ l46 : Nat, ∃ o47 : Option Addr, ∃ l48 : Nat, ∃ l49 : Nat, World.cell? w42 ⟨E, 0, none⟩ = some (.bool b43) ∧ World.cell? w42 (Addr.add ⟨E, 0, none⟩ 1) = some (.slice o44 l45 l46) ∧ World.cell? w42 (Addr.add ⟨E, 0, none⟩ 2) = some (.slice o47 l48 l49) ∧
        R (.returned (.tuple #[.slice ov v.length kv, .slice none 0 0, .agg #[.bool b43, .slice o44 l45 l46, .slice o47 l48 l49]])) w42 := by
    intro w4 ov kv v hd hrv E4 M4
    rw [heq] at hd
    refine ret_3 (b1 := false) (o := none) (l := 0) (k := 0) (o2 := none) (l2 := 0) (k2 := 0) (R' := fun b43 o44 l45 l46 o47 l48 l49 w42 => R (.returned (.tuple #[.slice ov v.length kv, .slice none 0 0, .agg #[.bool b43, .slice o44 l45 l46, .slice o47 l48 l49]])) w42) E4 (fun w5 Q5 => hR _ _ ⟨mod_of M4 Q5 (by omega), ?_⟩)
    rw [hd]
    exact ⟨ov, kv, none, 0, none, 0, rfl, hrv, RdA.nil _ _ _, Nat.zero_le _, RdA.nil _ _ _⟩
  refine ⟨bb, X3.rd1 rfl, fun hb => ?_, fun hb => ?_⟩
  · cases x with
    | s b => simp only [ItC] at hx; cases hx.1; cases hb
    | l xs =>
      have hx' := hx
      simp only [ItC] at hx'
      obtain ⟨h1, h2, oi, ci, h3, h4, hcap⟩ := hx'
      cases h1; cases h2; cases h3
      have c2 : World.cell? w3 (Addr.add ⟨D, 0, none⟩ 2) = some (.slice p2 xs.length k2) := by rw [add_at]; exact X3.rd1 rfl
      refine ⟨_, _, _, c2, fun h2 => ?_, fun h2 => ?_⟩
      · have h2' : xs.length = 2 := by omega
        obtain ⟨pp, lf, he, hl1, hl2⟩ := hg.two h2'
        obtain ⟨g, f0, a1, a2, a3, rfl, hgs, e1, e2, e3, hi⟩ := (ItsC.mod M3 _ h4).get 0 (by omega)
        have h0e : xs.getD 0 (.s []) = xs[0] := getD_at (by omega)
        have h1e : xs.getD 1 (.s []) = xs[1] := getD_at (by omega)
        cases hq : xs[0] with
        | l ys => rw [h0e, hq] at he; simp [headIs] at he
        | s bs =>
          have hbl := hg.dec (by omega) hq
          rw [hq] at hi
          simp only [ItC] at hi
          obtain ⟨rfl, ⟨ox, cx, rfl, hrx, _⟩, rfl⟩ := hi
          refine ⟨_, _, _, c2, _, rfl, ⟨by decide, by omega⟩, _, _, _, by rw [add_at, add_at]; exact e2, ?_⟩
          refine (rUnpack_calls hrx hbl).mono ?_
          rintro _ w4 ⟨o', k', rfl, M4, R4, _⟩
          have M04 := M3.none_trans M4
          have X4 := X3.mod' M4
          have E4 := E3.mod' M4
          have he' := he
          rw [h0e, hq] at he'
          simp only [headIs] at he'
          have eu : upk bs = (pp, lf, 0) := by unfold upk; rw [he']
          rw [eu] at R4 ⊢
          obtain ⟨g', f0', t1, t2, t3, ho, hg', d1, d2, d3, hi'⟩ := (ItsC.mod M04 _ h4).get 1 (by omega)
          cases ho
          have c2' : World.cell? w4 (Addr.add ⟨D, 0, none⟩ 2) = some (.slice (some ⟨g, f0, none⟩) xs.length k2) := by rw [add_at]; exact X4.rd1 rfl
          refine ⟨_, _, _, _, _, rfl, fun hlf => ?_, fun hlf => ?_⟩
          · dsimp only at hlf; subst hlf
            obtain ⟨vs, hv1, hvn⟩ := hl1 rfl
            rw [h1e] at hv1
            rw [hv1] at hi'
            simp only [ItC] at hi'
            obtain ⟨rfl, ⟨oy, cy, rfl, hry, hay⟩, rfl⟩ := hi'
            have hry0 : RdA A w oy vs := by
              obtain ⟨g9, f9, s1, s2, s3, ho9, hg9, d19, d29, d39, hi0⟩ := h4.get 1 (by omega)
              cases ho9
              rw [hv1] at hi0
              simp only [ItC] at hi0
              obtain ⟨rfl, ⟨oz, cz, rfl, hrz, haz⟩, rfl⟩ := hi0
              have h5 : w4.cell? ⟨g, f0 + (0 + 1 * 3) + 1, none⟩ = w.cell? ⟨g, f0 + (0 + 1 * 3) + 1, none⟩ := cell_mod M04 hg9 (fun h => h)
              have hd2 : w4.cell? ⟨g, f0 + (0 + 1 * 3) + 1, none⟩ = some (.slice oy vs.length cy) := d2
              have hd29 : w.cell? ⟨g, f0 + (0 + 1 * 3) + 1, none⟩ = some (.slice oz vs.length cz) := d29
              rw [hd2, hd29] at h5
              cases h5
              exact ⟨hrz, haz⟩
            refine ⟨_, toStr R4, _, rfl, _, toStr (hr.1.mod' M04), _, rfl, fun hs => ?_, fun hs => ?_⟩
            · rw [strB_strOf, decide_eq_true_eq] at hs
              refine ⟨_, _, _, c2', _, rfl, ⟨by decide, by omega⟩, _, _, _, by rw [add_at, add_at]; exact d2, ?_⟩
              exact stop w4 oy cy vs (by rw [downR_leaf h2' he, if_pos hs, h1e, hv1]; rfl) hry0 E4 M04
            · rw [strB_strOf, decide_eq_false_iff_not] at hs
              exact stop w4 none 0 [] (by rw [downR_leaf h2' he, if_neg hs]) (RdA.nil _ _ _) E4 M04
          · dsimp only at hlf; subst hlf
            obtain ⟨hpn, hgy, _⟩ := hl2 rfl
            rintro _ rfl
            have M5 := M04.step_drew
            have X5 := X4.drew
            have E5 := E4.drew
            have R5 : RdB w4.drew o' pp := R4
            have d1' : w4.drew.cell? ⟨g, f0 + (0 + 1 * 3), none⟩ = some t1 := d1
            have d2' : w4.drew.cell? ⟨g, f0 + (0 + 1 * 3) + 1, none⟩ = some t2 := d2
            have d3' : w4.drew.cell? ⟨g, f0 + (0 + 1 * 3) + 2, none⟩ = some t3 := d3
            generalize w4.drew = w5 at *
            dsimp only
            refine ⟨fun hlt => ?_, fun hge => ?_⟩
            · exact stop w5 none 0 [] (by
                rw [downR_row h2' he, if_neg]
                intro hpre
                have := (List.isPrefixOf_iff_prefix.1 hpre).length_le
                omega) (RdA.nil _ _ _) E5 M5
            · have hle : pp.length ≤ path.length := by omega
              have htk : (path.take pp.length).length = pp.length := by rw [List.length_take]; omega
              have hstr := toStr (k := c) ((hr.1.mod' M5).take pp.length)
              rw [htk] at hstr
              refine ⟨⟨by omega, by omega⟩, _, by rw [Int.toNat_natCast]; exact hstr, _, rfl, _, toStr R5, _, rfl, fun hs => ?_, fun hs => ?_⟩
              · rw [strB_neq, decide_eq_true_eq] at hs
                exact stop w5 none 0 [] (by
                  rw [downR_row h2' he, if_neg]
                  intro hpre
                  exact hs (List.prefix_iff_eq_take.1 (List.isPrefixOf_iff_prefix.1 hpre)).symm) (RdA.nil _ _ _) E5 M5
              · rw [strB_neq, decide_eq_false_iff_not, ne_eq, Decidable.not_not] at hs
                have hpre : pp.isPrefixOf path = true := List.isPrefixOf_iff_prefix.2 (List.prefix_iff_eq_take.2 hs.symm)
                have c5 : World.cell? w5 (Addr.add ⟨D, 0, none⟩ 2) = some (.slice (some ⟨g, f0, none⟩) xs.length k2) := by rw [add_at]; exact X5.rd1 rfl
                obtain ⟨_, _, _, _, _, _, _, rfl, rfl, rfl⟩ := hi'.vals
                refine ⟨⟨by omega, by omega⟩, _, _, _, c5, _, rfl, ⟨by decide, by omega⟩, _, _, _, _, _, _, _, by rw [add_at]; exact d1', by rw [add_at, add_at]; exact d2', by rw [add_at, add_at]; exact d3', ?_⟩
                refine set3 X5 rfl rfl rfl (fun w6 X6 Q6 => ?_)
                have hppos : 0 < pp.length := List.length_pos_iff.2 hpn
                have hdl : (path.drop pp.length).length = path.length - pp.length := List.length_drop
                -- the item at the base
                obtain ⟨g9, f9, s1, s2, s3, ho9, hg9, d19, d29, d39, hi0⟩ := h4.get 1 (by omega)
                cases ho9
                have ev : ∀ {i : Nat} {a b : Value}, w5.cell? ⟨g, f0 + i, none⟩ = some a → w.cell? ⟨g, f0 + i, none⟩ = some b → a = b := fun {i a b} ha hb => by
                  rw [cell_mod M5 (by omega) (fun h => h), hb] at ha
                  exact (Option.some.inj ha).symm
                obtain rfl := ev (i := 0 + 1 * 3) d1' d19
                obtain rfl := ev (i := 0 + 1 * 3 + 1) d2' d29
                obtain rfl := ev (i := 0 + 1 * 3 + 2) d3' d39
                rw [Int.toNat_natCast]
                refine ⟨⟨f, xs[1], path.drop pp.length, _, _, _, hdl.symm, by omega, ?_, fun n hnq => hn n ((List.drop_suffix _ _).subset hnq), by omega, by rw [← h1e]; exact hgy, by omega, ?_, hi0, X6, E5.mod Q6 (by omega), mod_of M5 Q6 (by omega)⟩, by omega⟩
                · have := hr.sub (lo := pp.length) (n := path.length - pp.length) hkp
                  rwa [← hdl, List.take_length] at this
                · rw [← heq, downR_row h2' he, if_pos hpre, h1e]
      · obtain ⟨h17, ⟨v16, hv16⟩, hkids⟩ := hg.many (by omega)
        refine ⟨fun hl0 => ?_, fun hl0 => ?_⟩
        · have hp0 : path = [] := List.eq_nil_of_length_eq_zero (by omega)
          obtain ⟨g, f0, a1, a2, a3, rfl, hgs, e1, e2', e3, hi⟩ := h4.get 16 (by omega)
          have e2 : w3.cell? ⟨g, f0 + (0 + 16 * 3) + 1, none⟩ = some a2 := by rw [cell_mod M3 hgs (fun h => h)]; exact e2'
          have h16 := hv16
          rw [getD_at (by omega)] at h16
          rw [h16] at hi
          simp only [ItC] at hi
          obtain ⟨rfl, ⟨ov, cv, rfl, hrv, hav⟩, rfl⟩ := hi
          refine ⟨_, _, _, c2, _, rfl, ⟨by decide, by omega⟩, _, _, _, by rw [add_at, add_at]; exact e2, ?_⟩
          exact stop w3 ov cv v16 (by rw [hp0, downR_end (by omega), hv16]; rfl) ⟨hrv, hav⟩ E3 M3
        · cases path with
          | nil => exact (hl0 rfl).elim
          | cons n r =>
            obtain ⟨d, hod, hcn⟩ := head_cell (hr.1.mod' M3)
            have hn16 := hn n (by simp)
            have hjl : n.toNat < xs.length := by omega
            obtain ⟨g, f0, s1, s2, s3, rfl, hg9, d19, d29, d39, hi0⟩ := h4.get n.toNat hjl
            rw [Nat.zero_add] at d19 d29 d39
            have up : ∀ {i : Nat} {a : Value}, w.cell? ⟨g, i, none⟩ = some a → w3.cell? ⟨g, i, none⟩ = some a := fun h => by rw [cell_mod M3 hg9 (fun h => h)]; exact h
            obtain ⟨_, _, _, _, _, _, _, rfl, rfl, rfl⟩ := hi0.vals
            refine ⟨d, hod, ⟨by decide, by simp⟩, _, hcn, by simp, _, _, _, c2, _, rfl, ⟨by omega, by omega⟩, _, _, _, _, _, _, _, by rw [add_at, Int.toNat_natCast]; exact up d19, by rw [add_at, add_at, Int.toNat_natCast]; exact up d29, by rw [add_at, add_at, Int.toNat_natCast]; exact up d39, ?_⟩
            refine set3 X3 rfl rfl rfl (fun w6 X6 Q6 => ?_)
            simp only [List.length_cons] at hkp hl hf ⊢
            refine ⟨⟨f, xs[n.toNat], r, _, _, _, by omega, by omega, ?_, fun q hq => hn q (by simp [hq]), by omega, ?_, by omega, ?_, hi0, X6, E3.mod Q6 (by omega), mod_of M3 Q6 (by omega)⟩, by omega⟩
            · have := hr.sub (c := c) (lo := 1) (n := r.length) hkp
              simpa using this
            · have := hkids n.toNat hn16
              rwa [getD_at hjl] at this
            · rw [← heq, downR_kid (by omega), getD_at hjl]
  · cases x with
    | l xs => simp only [ItC] at hx; cases hx.1; cases hb
    | s b =>
      simp only [ItC] at hx
      obtain ⟨h1, ⟨ob, cb, h2, hrb, hab⟩, h3⟩ := hx
      cases h1; cases h2; cases h3
      rintro _ rfl
      refine get3 X3.drew ?_
      have M4 := M3.step_drew
      refine ret_3 E3.drew (fun w5 Q5 => hR _ _ ⟨mod_of M4 Q5 (by omega), ?_⟩)
      rw [← heq]
      exact ⟨none, 0, o, c, p1, k1, rfl, RdA.nil _ _ _, hr, hkp, hrb, hab⟩
end Go.Proofs.Ytfghidehlnfdiaa
end

section
set_option linter.unusedVariables false
set_option linter.unusedSimpArgs false
namespace Go.Proofs.Ytfghidehlnfdiaa
open Go Go.Vcg Go.Trie
theorem copy_hash {Z : Array Value} {b : By} (hZ : Z.size = 32) (hb : b.length = 32) : setsAt Z 0 ((b.take 32).map bV) = hashA b := by
  have ht : b.take 32 = b := List.take_of_length_le (by omega)
  rw [ht]
  apply Array.ext_getElem?
  intro i
  rw [get_setsAt _ _ _ _ (by simp [hb, hZ])]
  by_cases hi : i < 32
  · rw [if_pos ⟨Nat.zero_le _, by simp [hb]; exact hi⟩, Nat.sub_zero]
    simp only [hashA]
    rw [get_arrOf_lt hi]
    simp [List.getD_eq_getElem?_getD, hb, hi]
  · rw [if_neg (by simp [hb]; omega), Array.getElem?_eq_none (by omega), Array.getElem?_eq_none (by rw [size_hashA]; omega)]
section
variable {w : World} {lab : Nat → Nat} {c : Nat}
end
theorem proveR_way {l : List (By × By)} {root key : By} (h1 : ¬ l.length > 4096) (h2 : ¬ key.length > 64) : proveR l root key = (match way (pStep l) [] (rootIt root) (nibbles key) with
    | (out, .ok _) => .ok out
    | (_, .error e) => .error e) := by
  unfold proveR
  exact (if_neg h1).trans (if_neg h2)
end Go.Proofs.Ytfghidehlnfdiaa
end

section
set_option linter.unusedVariables false
set_option linter.unusedSimpArgs false
namespace Go.Proofs.Ytfghidehlnfdiaa
open Go Go.Vcg Go.Trie
/-- Lists of bytes that can be read. -/
def RdLs (w : World) (lab : Nat → Nat) (c : Nat) (ls : List By) (o : Option Addr) : Prop :=
  ∀ (j : Nat) (hj : j < ls.length), ∃ g f ob kb, o = some ⟨g, f, none⟩ ∧ g < w.heap.size ∧ lab g = c ∧ w.cell? ⟨g, f + j, none⟩ = some (.slice ob ls[j].length kb) ∧ CBy w lab c ob ls[j] ∧ ls[j].length ≤ kb
section
variable {w w' : World} {lab lab' : Nat → Nat} {c : Nat} {ls : List By} {o : Option Addr}
theorem RdLs.stp {S : Nat → Prop} (h : RdLs w lab c ls o) (s : Stp S w lab w' lab') (hs : ¬ S c) : RdLs w' lab' c ls o := fun j hj => by
  obtain ⟨g, f, ob, kb, h1, h2, h3, h4, h5, h6⟩ := h j hj
  exact ⟨g, f, ob, kb, h1, Nat.lt_of_lt_of_le h2 s.size, (s.lab g h2).trans h3, (World.cell?_of_block (s.block g h2 (by rw [h3]; exact hs))).trans h4, h5.stp s hs, h6⟩
theorem RdLs.re {c' : Nat} (h : RdLs w lab c ls o) (hl : ∀ k, k < w.heap.size → lab k = c → lab' k = c') : RdLs w lab' c' ls o := fun j hj => by
  obtain ⟨g, f, ob, kb, h1, h2, h3, h4, h5, h6⟩ := h j hj
  exact ⟨g, f, ob, kb, h1, h2, hl g h2 h3, h4, CBy.re h5 hl, h6⟩
theorem LsOwn.read {c cb n k : Nat} (h : LsOwn w lab c cb ls o n k) (hl : ∀ k, k < w.heap.size → lab k = c ∨ lab k = cb → lab' k = 0) : RdLs w lab' 0 ls o := fun j hj => by
  obtain ⟨rfl, vs, h1, h2, h3⟩ := h
  obtain ⟨ob, kb, e1, e2, e3⟩ := h3 j hj
  obtain ⟨g, hg, hc⟩ := h1.own.cell e1
  have hlt := h1.own.lt ⟨_, hg, rfl⟩
  exact ⟨g, 0, ob, kb, hg, hlt, hl g hlt (.inl (h1.clr g ⟨_, hg, rfl⟩)), by rw [Nat.zero_add]; exact hc, CBy.re e2 (fun k hk he => hl k hk (.inr he)), e3⟩
end
/-- What Verify asks: how many have been looked at. -/
def vStep (p : List By) (at_ : Nat) (h : By) : Nat × Except Int By := match p[at_]? with
  | none => (at_, .error 160)
  | some b => (at_ + 1, if sumOf b = h then .ok b else .error 163)
def VInv (p : List By) (o : Option Addr) (k : Nat) (dA dP : Nat) (w : World) (lab : Nat → Nat) (at_ : Nat) : Prop :=
  CB w lab 7 dA 3 #[.int .i64 (at_ : Int)] ∧ CB w lab 1 dP 31 #[.slice o p.length k] ∧ RdLs w lab 0 p o ∧ at_ ≤ p.length
theorem VInv.stp {S : Nat → Prop} {p : List By} {o : Option Addr} {k dA dP at_ : Nat} {w w' : World} {lab lab' : Nat → Nat} (h : VInv p o k dA dP w lab at_) (s : Stp S w lab w' lab') (h0 : ¬ S 0) (hS1 : ¬ S 1) (h7 : ¬ S 7) : VInv p o k dA dP w' lab' at_ := by
  obtain ⟨h1, h2, h3, h4⟩ := h
  exact ⟨h1.stp s h7, h2.stp s hS1, h3.stp s h0, h4⟩
theorem askV {p : List By} {o : Option Addr} {k dA dP : Nat} (hp : p.length ≤ 2 ^ 40) (hb : ∀ x ∈ p, x.length ≤ 2 ^ 30) : AskOK (.func (.func 81) #[] #[.pointer (some ⟨dA, 0, none⟩), .pointer (some ⟨dP, 0, none⟩)]) (fun q => q = 7) (VInv p o k dA dP) (vStep p) (fun _ _ => True) where
  le _ _ := trivial
  s5 := by decide
  s6 := by decide
  stp h s := h.stp s (by decide) (by decide) (by decide)
  run := by
    intro w lab at_ h n hI _ hh
    refine ⟨81, #[], _, rfl, by kernel_rfl, ?_⟩
    refine calls_gen fun R hR => proof_Verify_2.vc _ _ _ _ _ ?_
    unfold proof_Verify_2.Vc
    rintro d3 w1 ⟨rfl, rfl⟩
    have s1 : Stp NoS w lab (w.alloc (.cells (hashA h) 26)) (ext lab w.heap.size 9) := Stp.alloc NoS w lab _ 9
    have X1 := CB.new w lab 9 26 (hashA h)
    have I1 := hI.stp s1 (fun h => h) (fun h => h) (fun h => h)
    generalize w.heap.size = D3 at *
    generalize w.alloc (.cells (hashA h) 26) = w1 at *
    generalize ext lab D3 9 = lab1 at *
    obtain ⟨bA, bP, hL, hat⟩ := id I1
    refine ⟨fun w' => w' = w1 ∧ at_ < p.length, ⟨_, bA.blk.rd1 rfl, _, _, _, bP.blk.rd1 rfl, fun heq => ?_, fun hne => ⟨rfl, by omega⟩⟩, ?_⟩
    · have hn : p[at_]? = none := List.getElem?_eq_none (by omega)
      have hst : vStep p at_ h = (at_, .error 160) := by unfold vStep; rw [hn]
      rw [hst] at hR
      refine (gives_calls w1 160).mono ?_
      rintro e w2 ⟨rfl, he⟩
      rw [if_neg (by decide)] at he
      subst he
      refine .inl ⟨_, rfl, hR _ _ ⟨lab1, s1.mono (fun _ h => h.elim), I1, trivial, fun er her => ?_, fun b hb => by cases hb⟩⟩
      cases her; exact ⟨rfl, by decide⟩
    · rintro _ w2 ⟨rfl, hlt⟩
      obtain ⟨g, f, ob, kb, rfl, hg, hlg, hcell, hby, hkb⟩ := hL at_ hlt
      have ew : IntKind.wrap .i64 ((at_ : Int) + 1) = ((at_ + 1 : Nat) : Int) := by rw [wrap_i64_small (by omega) (by omega)]; omega
      have hsm : p[at_]? = some p[at_] := List.getElem?_eq_getElem hlt
      have hbl := hb _ (List.getElem_mem hlt)
      refine ⟨_, _, _, bP.blk.rd1 rfl, _, bA.blk.rd1 rfl, _, rfl, ⟨by omega, by omega⟩, _, _, _, by rw [add_at, Int.toNat_natCast]; exact hcell, _, bA.blk.rd1 rfl, bA.blk.canSet (by simp) rfl, ?_⟩
      rintro _ rfl
      rw [ew]
      have s2 : Stp (· = 7) w2 lab1 (w2.setCell ⟨dA, 0, none⟩ (.int .i64 ((at_ + 1 : Nat) : Int))) lab1 := Stp.setCell bA.clr
      have bA2 := bA.set 0 (.int .i64 ((at_ + 1 : Nat) : Int))
      have bP2 := bP.stp s2 (by decide)
      have hL2 := hL.stp s2 (by decide)
      have hby2 := hby.stp s2 (by decide)
      have X2 := X1.stp s2 (by decide)
      generalize w2.setCell ⟨dA, 0, none⟩ (.int .i64 ((at_ + 1 : Nat) : Int)) = w3 at *
      rintro _ rfl
      have s3 : Stp NoS w3 lab1 w3.drew lab1 := Stp.drew _ _ _
      have bA3 := bA2.stp s3 (fun h => h)
      have bP3 := bP2.stp s3 (fun h => h)
      have hL3 := hL2.stp s3 (fun h => h)
      have hby3 := hby2.stp s3 (fun h => h)
      have X3 := X2.stp s3 (fun h => h)
      generalize w3.drew = w4 at *
      refine ⟨_, X3.blk.rowAll (size_hashA _), ?_⟩
      rintro d25 w5 ⟨rfl, rfl⟩
      have s4 : Stp NoS w4 lab1 (w4.alloc (.cells #[.slice ob p[at_].length kb] 22)) (ext lab1 w4.heap.size 9) := Stp.alloc NoS w4 lab1 _ 9
      have N5 := Blk.new w4 22 #[.slice ob p[at_].length kb]
      have bA5 := bA3.stp s4 (fun h => h)
      have bP5 := bP3.stp s4 (fun h => h)
      have hL5 := hL3.stp s4 (fun h => h)
      have hby5 := hby3.stp s4 (fun h => h)
      have X5 := X3.stp s4 (fun h => h)
      have s05 : Stp (fun q => q = 7) w lab _ _ := (((s1.mono (T := fun q => q = 7) (fun _ h => h.elim)).trans s2).trans (s3.mono (fun _ h => h.elim))).trans (s4.mono (fun _ h => h.elim))
      generalize w4.heap.size = D5 at *
      generalize w4.alloc (.cells #[.slice ob p[at_].length kb] 22) = w5 at *
      generalize ext lab1 D5 9 = lab5 at *
      refine ⟨X5.blk.rowAll (size_hashA _), ?_⟩
      refine (Sum_calls [p[at_]] rfl (by simp) (RdBB.one N5 hby5.rd) (by simp; omega)).mono ?_
      rintro _ w6 ⟨rfl, M6⟩
      have s6 : Stp NoS w5 lab5 w6 (ext lab5 w5.heap.size 9) := Stp.of_nob M6 9
      have bA6 := bA5.stp s6 (fun h => h)
      have bP6 := bP5.stp s6 (fun h => h)
      have hL6 := hL5.stp s6 (fun h => h)
      have hby6 := hby5.stp s6 (fun h => h)
      have X6 := X5.stp s6 (fun h => h)
      have s06 := s05.trans (s6.mono (T := fun q => q = 7) (fun _ h => h.elim))
      generalize ext lab5 w5.heap.size 9 = lab6 at *
      have e2 : [p[at_]].flatten = p[at_] := by simp
      rw [e2]
      have I6 : VInv p (some ⟨g, f, none⟩) k dA dP w6 lab6 (at_ + 1) := ⟨bA6, bP6, hL6, hlt⟩
      refine .inr ⟨_, rfl, X6.blk.rowAll (size_hashA _), _, hash_ne _ _ (length_sumOf _) hh, _, rfl, fun hb' => ?_, fun hb' => ?_⟩
      · rw [decide_eq_true_eq] at hb'
        have hst : vStep p at_ h = (at_ + 1, .error 163) := by unfold vStep; rw [hsm]; simp only; rw [if_neg hb']
        rw [hst] at hR
        refine (gives_calls w6 163).mono ?_
        rintro e w7 ⟨rfl, he⟩
        rw [if_neg (by decide)] at he
        subst he
        refine .inl ⟨_, rfl, hR _ _ ⟨lab6, s06, I6, trivial, fun er her => ?_, fun b hb => by cases hb⟩⟩
        cases her; exact ⟨rfl, by decide⟩
      · rw [decide_eq_false_iff_not, ne_eq, Decidable.not_not] at hb'
        have hst : vStep p at_ h = (at_ + 1, .ok p[at_]) := by unfold vStep; rw [hsm]; simp only; rw [if_pos hb']
        rw [hst] at hR
        refine hR _ _ ⟨lab6, s06, I6, trivial, fun er her => (by cases her), fun b hb => ?_⟩
        cases hb
        exact ⟨ob, kb, rfl, hby6.rd, hkb⟩
/-- What Verify answers. -/
def verifyR (p : List By) (root key : By) : Except Int By :=
  if p.length > 256 then .error 162 else if key.length > 64 then .error 140 else
  match way (vStep p) 0 (rootIt root) (nibbles key) with
  | (at_, .ok v) => if at_ < p.length then .error 162 else .ok v
  | (_, .error e) => .error e
/-- What both functions named Verify hand back. -/
def VerifyIs (p : List By) (root key : By) (w : World) (e : Ending) (w' : World) : Prop :=
  Vcg.Mod NoB w w' ∧ match verifyR p root key with
    | .error er => er ≠ 0 ∧ e = .returned (.tuple #[.slice none 0 0, .bool false, .int .i64 er])
    | .ok v => ∃ o k, e = .returned (.tuple #[.slice o v.length k, .bool (decide (v ≠ [])), .int .i64 0]) ∧ RdB w' o v
/-- How Verify is left: by a panic. -/
theorem vleave_fault {R : Ending → World → Prop} {rt : World → Prop} {dE dV dB : Nat} {n n0 : Int} {o : Option Addr} {l k : Nat} {b : Bool} {w : World} (hn : n ≠ 0) (h1 : dE ≠ dV) (h2 : dE ≠ dB) (h3 : dV ≠ dB) (E : Blk w dE 52 #[.int .i64 n0]) (V : Blk w dV 22 #[.slice o l k]) (B : Blk w dB 4 #[.bool b])
    (K : ∀ w', Blk w' dE 52 #[.int .i64 n] → Blk w' dV 22 #[.slice none 0 0] → Blk w' dB 4 #[.bool false] → Vcg.Mod (fun b => b = dE ∨ b = dV ∨ b = dB) w w' → rt w') :
    LeavV Try.prog rt R [(74, #[.pointer (some ⟨dE, 0, none⟩)]), (80, #[.pointer (some ⟨dE, 0, none⟩), .pointer (some ⟨dV, 0, none⟩), .pointer (some ⟨dB, 0, none⟩)])] (.panicking (faultOf n)) w := by
  refine ⟨fun h => (by cases h), (caught_calls E).mono ?_⟩
  rintro _ _ w1 ⟨rfl, rfl, E1, M1⟩
  have V1 := V.mod M1 (fun h => h1 h.symm)
  have B1 := B.mod M1 (fun h => h2 h.symm)
  refine ⟨fun h => (by cases h), ?_⟩
  refine (proof_Verify_1.vcd .returning _ _ _ w1 (fun e w' => e = .returned (.tuple #[]) ∧ Blk w' dE 52 #[.int .i64 n] ∧ Blk w' dV 22 #[.slice none 0 0] ∧ Blk w' dB 4 #[.bool false] ∧ Vcg.Mod (fun b => b = dV ∨ b = dB) w1 w') ?_).mono ?_
  · unfold proof_Verify_1.Vc
    refine ⟨n, E1.rd1 rfl, fun _ => ⟨V1.canSet (by simp) rfl, ?_⟩, fun h => (hn h).elim⟩
    rintro _ rfl
    have V2 := V1.set 0 (.slice none 0 0)
    have B2 := B1.set_ne (a := ⟨dV, 0, none⟩) (v := .slice none 0 0) (fun e => h3 e.symm)
    have E2 := E1.set_ne (a := ⟨dV, 0, none⟩) (v := .slice none 0 0) h1
    refine ⟨B2.canSet (by simp) rfl, ?_⟩
    rintro _ rfl
    exact ⟨rfl, E2.set_ne h2, V2.set_ne h3, B2.set 0 _, ((Mod.setCell w1 ⟨dV, 0, none⟩ _).mono (fun _ _ h => .inl h)).trans (Mod.setCell _ ⟨dB, 0, none⟩ _) (fun _ _ h => .inr h)⟩
  · rintro _ _ w2 ⟨rfl, rfl, E2, V2, B2, M2⟩
    exact K w2 E2 V2 B2 ((M1.mono (fun _ _ h => .inl h)).trans M2 (fun _ _ h => .inr h))
theorem vleave_well {R : Ending → World → Prop} {rt : World → Prop} {dE dV dB : Nat} {w : World} (E : Blk w dE 52 #[.int .i64 0]) (K : rt w) :
    LeavV Try.prog rt R [(74, #[.pointer (some ⟨dE, 0, none⟩)]), (80, #[.pointer (some ⟨dE, 0, none⟩), .pointer (some ⟨dV, 0, none⟩), .pointer (some ⟨dB, 0, none⟩)])] .returning w := by
  refine ⟨fun h => (by cases h), caught_idle.mono ?_⟩
  rintro _ _ w1 ⟨rfl, rfl, rfl⟩
  refine ⟨fun h => (by cases h), ?_⟩
  refine (proof_Verify_1.vcd .returning _ _ _ w1 (fun e w' => e = .returned (.tuple #[]) ∧ w' = w1) ?_).mono ?_
  · unfold proof_Verify_1.Vc
    exact ⟨0, E.rd1 rfl, fun h => (h rfl).elim, fun _ => ⟨rfl, rfl⟩⟩
  · rintro _ _ w2 ⟨rfl, rfl, rfl⟩
    exact K
end Go.Proofs.Ytfghidehlnfdiaa
end

section
set_option linter.unusedVariables false
set_option linter.unusedSimpArgs false
namespace Go.Proofs.Ytfghidehlnfdiaa
open Go Go.Vcg Go.Trie
def labV (N : Nat) : Nat → Nat := fun k => if k = N + 5 then 7 else if N ≤ k then 1 else 0
theorem labV_old {N k : Nat} (h : k < N) : labV N k = 0 := by unfold labV; rw [if_neg (by omega), if_neg (by omega)]
theorem labV_1 {N k : Nat} (h : N ≤ k) (h5 : k ≠ N + 5) : labV N k = 1 := by unfold labV; rw [if_neg h5, if_pos h]
theorem labV_7 {N : Nat} : labV N (N + 5) = 7 := if_pos rfl
theorem verifyR_way {p : List By} {root key : By} (h1 : ¬ p.length > 256) (h2 : ¬ key.length > 64) : verifyR p root key = (match way (vStep p) 0 (rootIt root) (nibbles key) with
    | (at_, .ok v) => if at_ < p.length then .error 162 else .ok v
    | (_, .error e) => .error e) := by
  unfold verifyR
  exact (if_neg h1).trans (if_neg h2)
theorem Verify_calls {w : World} {lab : Nat → Nat} {c : Nat} {p : List By} {o ok : Option Addr} {k kk : Nat} {root key : By} (h : RdLs w lab c p o) (hlen : p.length ≤ 2 ^ 40) (hb : ∀ x ∈ p, x.length ≤ 2 ^ 30) (hroot : root.length = 32) (hkey : RdB w ok key) :
    Calls Try.prog proof_Verify.n #[.agg (hashA root), .slice ok key.length kk, .slice o p.length k] w (VerifyIs p root key w) := by
  refine calls_gen fun R hR => proof_Verify.vc _ _ _ _ _ _ _ _ _ ?_
  unfold proof_Verify.Vc
  have hL : RdLs w (labV w.heap.size) 0 p o := h.re (fun k hk _ => labV_old hk)
  rintro d3 w1 ⟨rfl, rfl⟩
  have M1 := Mod.alloc (S := NoB) w (.cells (hashA root) 26)
  have X1 := Blk.new w 26 (hashA root)
  have z1 := size_alloc w (.cells (hashA root) 26)
  generalize hNe : w.heap.size = N at *
  generalize w.alloc (.cells (hashA root) 26) = w1 at *
  rintro d5 w2 ⟨rfl, rfl⟩
  have M12 := Mod.alloc (S := NoB) w1 (.cells #[.slice o p.length k] 31)
  have P2 := Blk.new w1 31 #[.slice o p.length k]
  have z2 := size_alloc w1 (.cells #[.slice o p.length k] 31)
  have X2 := X1.mod' M12
  have M2 := M1.none_trans M12
  rw [z1] at P2 z2 ⊢
  generalize w1.alloc (.cells #[.slice o p.length k] 31) = w2 at *
  rintro d7 w3 ⟨rfl, rfl⟩
  have M23 := Mod.alloc (S := NoB) w2 (.cells #[.slice none 0 0] 22)
  have V3 := Blk.new w2 22 #[.slice none 0 0]
  have z3 := size_alloc w2 (.cells #[.slice none 0 0] 22)
  have X3 := X2.mod' M23
  have P3 := P2.mod' M23
  have M3 := M2.none_trans M23
  rw [z2] at V3 z3 ⊢
  generalize w2.alloc (.cells #[.slice none 0 0] 22) = w3 at *
  rintro d9 w4 ⟨rfl, rfl⟩
  have M34 := Mod.alloc (S := NoB) w3 (.cells #[.bool false] 4)
  have B4 := Blk.new w3 4 #[.bool false]
  have z4 := size_alloc w3 (.cells #[.bool false] 4)
  have X4 := X3.mod' M34
  have P4 := P3.mod' M34
  have V4 := V3.mod' M34
  have M4 := M3.none_trans M34
  rw [z3] at B4 z4 ⊢
  generalize w3.alloc (.cells #[.bool false] 4) = w4 at *
  rintro d11 w5 ⟨rfl, rfl⟩
  have M45 := Mod.alloc (S := NoB) w4 (.cells #[.int .i64 0] 52)
  have E5 := Blk.new w4 52 #[.int .i64 0]
  have z5 := size_alloc w4 (.cells #[.int .i64 0] 52)
  have X5 := X4.mod' M45
  have P5 := P4.mod' M45
  have V5 := V4.mod' M45
  have B5 := B4.mod' M45
  have M5 := M4.none_trans M45
  rw [z4] at E5 z5 ⊢
  generalize w4.alloc (.cells #[.int .i64 0] 52) = w5 at *
  clear X1 X2 X3 X4 P2 P3 P4 V3 V4 B4 M1 M12 M2 M23 M3 M34 M4 M45 z1 z2 z3 z4
  simp only [show N + 1 + 1 = N + 2 from rfl, show N + 2 + 1 = N + 3 from rfl, show N + 3 + 1 = N + 4 from rfl, show N + 4 + 1 = N + 5 from rfl] at *
  -- three results written
  have ret3 : ∀ (wa : World) (er : Int), er ≠ 0 → verifyR p root key = .error er → Blk wa (N + 2) 22 #[.slice none 0 0] → Blk wa (N + 3) 4 #[.bool false] → Blk wa (N + 4) 52 #[.int .i64 0] → Vcg.Mod NoB w wa →
      CanSet wa ⟨N + 2, 0, none⟩ (.slice none 0 0) ∧ ∀ w16 : World, IsSet wa ⟨N + 2, 0, none⟩ (.slice none 0 0) w16 →
      CanSet w16 ⟨N + 3, 0, none⟩ (.bool false) ∧ ∀ w17 : World, IsSet w16 ⟨N + 3, 0, none⟩ (.bool false) w17 →
      CanSet w17 ⟨N + 4, 0, none⟩ (.int .i64 er) ∧ ∀ w18 : World, IsSet w17 ⟨N + 4, 0, none⟩ (.int .i64 er) w18 →
      ∃ o19 : Option Addr, ∃ l20 : Nat, ∃ l21 : Nat, World.cell? w18 ⟨N + 2, 0, none⟩ = some (.slice o19 l20 l21) ∧
      ∃ b22 : Bool, World.cell? w18 ⟨N + 3, 0, none⟩ = some (.bool b22) ∧
      ∃ n23 : Int, World.cell? w18 ⟨N + 4, 0, none⟩ = some (.int .i64 n23) ∧ R (.returned (.tuple #[(.slice o19 l20 l21), (.bool b22), (.int .i64 n23)])) w18 := by
    intro wa er her hv Va Ba Ea Ma
    refine ⟨Va.canSet (by simp) rfl, ?_⟩
    rintro _ rfl
    have Vb := Va.set 0 (.slice none 0 0)
    have Bb := Ba.set_ne (a := ⟨N + 2, 0, none⟩) (v := .slice none 0 0) (by show N + 3 ≠ N + 2; omega)
    have Eb := Ea.set_ne (a := ⟨N + 2, 0, none⟩) (v := .slice none 0 0) (by show N + 4 ≠ N + 2; omega)
    have Mb : Vcg.Mod NoB w _ := mod_of Ma (Mod.setCell wa ⟨N + 2, 0, none⟩ (.slice none 0 0)) (by show w.heap.size ≤ N + 2; omega)
    refine ⟨Bb.canSet (by simp) rfl, ?_⟩
    rintro _ rfl
    have Vc := Vb.set_ne (a := ⟨N + 3, 0, none⟩) (v := .bool false) (by show N + 2 ≠ N + 3; omega)
    have Bc := Bb.set 0 (.bool false)
    have Ec := Eb.set_ne (a := ⟨N + 3, 0, none⟩) (v := .bool false) (by show N + 4 ≠ N + 3; omega)
    have Mc : Vcg.Mod NoB w _ := mod_of Mb (Mod.setCell _ ⟨N + 3, 0, none⟩ (.bool false)) (by show w.heap.size ≤ N + 3; omega)
    refine ⟨Ec.canSet (by simp) rfl, ?_⟩
    rintro _ rfl
    have Vd := Vc.set_ne (a := ⟨N + 4, 0, none⟩) (v := .int .i64 er) (by show N + 2 ≠ N + 4; omega)
    have Bd := Bc.set_ne (a := ⟨N + 4, 0, none⟩) (v := .int .i64 er) (by show N + 3 ≠ N + 4; omega)
    have Ed := Ec.set 0 (.int .i64 er)
    refine ⟨_, _, _, Vd.rd1 rfl, _, Bd.rd1 rfl, _, Ed.rd1 rfl, hR _ _ ⟨mod_of Mc (Mod.setCell _ ⟨N + 4, 0, none⟩ (.int .i64 er)) (by show w.heap.size ≤ N + 4; omega), ?_⟩⟩
    rw [hv]
    exact ⟨her, rfl⟩
  refine ⟨_, _, _, P5.rd1 rfl, fun hbig => ?_, fun hbig => ⟨fun hk => ?_, fun hk => ?_⟩⟩
  · exact ret3 w5 162 (by decide) (by unfold verifyR; rw [if_pos (by omega)]) V5 B5 E5 M5
  · exact ret3 w5 140 (by decide) (by unfold verifyR; rw [if_neg (by omega), if_pos (by omega)]) V5 B5 E5 M5
  · rintro d32 w6 ⟨rfl, rfl⟩
    have M56 := Mod.alloc (S := NoB) w5 (.cells #[.int .i64 0] 3)
    have A6 := Blk.new w5 3 #[.int .i64 0]
    have z6 := size_alloc w5 (.cells #[.int .i64 0] 3)
    have X6 := X5.mod' M56
    have P6 := P5.mod' M56
    have V6 := V5.mod' M56
    have B6 := B5.mod' M56
    have E6 := E5.mod' M56
    have M6 := M5.none_trans M56
    rw [z5] at A6 z6 ⊢
    generalize w5.alloc (.cells #[.int .i64 0] 3) = w6 at *
    refine ⟨A6.canSet (by simp) rfl, ?_⟩
    rintro _ rfl
    have A7 : Blk (w6.setCell ⟨N + 5, 0, none⟩ (.int .i64 0)) (N + 5) 3 #[.int .i64 0] := A6.set 0 (.int .i64 0)
    have Q7 : Vcg.Mod (· = N + 5) w6 _ := Mod.setCell w6 ⟨N + 5, 0, none⟩ (.int .i64 0)
    have X7 := X6.mod Q7 (by omega)
    have P7 := P6.mod Q7 (by omega)
    have V7 := V6.mod Q7 (by omega)
    have B7 := B6.mod Q7 (by omega)
    have E7 := E6.mod Q7 (by omega)
    have M7 : Vcg.Mod NoB w _ := mod_of M6 Q7 (by omega)
    generalize w6.setCell ⟨N + 5, 0, none⟩ (.int .i64 0) = w7 at *
    have s7 : Stp NoS w (labV N) w7 (labV N) := ⟨M7.os, M7.tape, M7.output, M7.size, fun _ _ => rfl, fun q hq _ => M7.block q hq (fun h => h)⟩
    have I7 : VInv p o k (N + 5) (N + 1) w7 (labV N) 0 := ⟨⟨A7, labV_7⟩, ⟨P7, labV_1 (by omega) (by omega)⟩, hL.stp s7 (fun h => h), Nat.zero_le _⟩
    have hlab : ∀ b, labV N b = 5 ∨ labV N b = 7 → N ≤ b := fun b hb => Nat.le_of_not_lt fun hlt => by rw [labV_old hlt] at hb; omega
    refine ⟨_, X7.rowAll (size_hashA _), ?_⟩
    refine (way_calls (askV (o := o) (k := k) (dA := N + 5) (dP := N + 1) hlen hb) I7 trivial hroot (hkey.mod' M7) (by omega)).mono ?_
    rintro e w8 ⟨lab8, s78, I8, hw⟩
    have V8 := (CB.mk V7 (labV_1 (N := N) (by omega) (by omega))).stp s78 (by decide)
    have B8 := (CB.mk B7 (labV_1 (N := N) (by omega) (by omega))).stp s78 (by decide)
    have E8 := (CB.mk E7 (labV_1 (N := N) (by omega) (by omega))).stp s78 (by decide)
    have M78 : Vcg.Mod (fun b => N ≤ b) w7 w8 := s78.mod (fun q hq hs => hlab q hs)
    have M8 : Vcg.Mod NoB w w8 := M7.trans M78 (fun i hi h => by omega)
    have hvr := verifyR_way (root := root) (p := p) (key := key) (by omega) (by omega)
    obtain ⟨A8, P8, _, hat⟩ := I8
    generalize way (vStep p) 0 (rootIt root) (nibbles key) = res at hw hvr A8 hat
    obtain ⟨at_, r⟩ := res
    dsimp only at A8 hat hvr
    -- the end, by a panic
    have bad : ∀ (wa : World) (er : Int) (oV : Option Addr) (lV kV : Nat) (bB : Bool), er ≠ 0 → verifyR p root key = .error er → Blk wa (N + 2) 22 #[.slice oV lV kV] → Blk wa (N + 3) 4 #[.bool bB] → Blk wa (N + 4) 52 #[.int .i64 0] → Vcg.Mod NoB w wa →
        LeavV Try.prog (fun w38 =>
          ∃ o39 : Option Addr, ∃ l40 : Nat, ∃ l41 : Nat, World.cell? w38 ⟨N + 2, 0, none⟩ = some (.slice o39 l40 l41) ∧
          ∃ b42 : Bool, World.cell? w38 ⟨N + 3, 0, none⟩ = some (.bool b42) ∧
          ∃ n43 : Int, World.cell? w38 ⟨N + 4, 0, none⟩ = some (.int .i64 n43) ∧
          R (.returned (.tuple #[(.slice o39 l40 l41), (.bool b42), (.int .i64 n43)])) w38) R [(74, #[(.pointer (some ⟨N + 4, 0, none⟩))]), (80, #[(.pointer (some ⟨N + 4, 0, none⟩)), (.pointer (some ⟨N + 2, 0, none⟩)), (.pointer (some ⟨N + 3, 0, none⟩))])] (.panicking (faultOf er)) wa := by
      intro wa er oV lV kV bB her hv Va Ba Ea Ma
      refine vleave_fault her (by omega) (by omega) (by omega) Ea Va Ba (fun w' E' V' B' M' => ?_)
      refine ⟨_, _, _, V'.rd1 rfl, _, B'.rd1 rfl, _, E'.rd1 rfl, hR _ _ ⟨Ma.trans M' (fun i hi h => by omega), ?_⟩⟩
      rw [hv]
      exact ⟨her, rfl⟩
    cases r with
    | error er =>
      obtain ⟨rfl, hne⟩ := hw
      exact .inl ⟨_, rfl, bad w8 er _ _ _ _ hne hvr V8.blk B8.blk E8.blk M8⟩
    | ok v =>
      obtain ⟨ov, kv, rfl, hv⟩ := hw
      refine .inr ⟨_, _, _, _, rfl, V8.blk.canSet (by simp) rfl, ?_⟩
      rintro _ rfl
      have V9 := V8.blk.set 0 (.slice ov v.length kv)
      have Q9 : Vcg.Mod (· = N + 2) w8 _ := Mod.setCell w8 ⟨N + 2, 0, none⟩ (.slice ov v.length kv)
      have s89 : Stp (· = 1) w8 lab8 _ lab8 := Stp.setCell (a := ⟨N + 2, 0, none⟩) (v := .slice ov v.length kv) V8.clr
      have B9 := B8.blk.mod Q9 (by omega)
      have E9 := E8.blk.mod Q9 (by omega)
      have A9 := A8.blk.mod Q9 (by omega)
      have P9 := P8.blk.mod Q9 (by omega)
      have hv9 := hv.stp s89 (by decide)
      have M9 : Vcg.Mod NoB w _ := mod_of M8 Q9 (by omega)
      generalize w8.setCell ⟨N + 2, 0, none⟩ (.slice ov v.length kv) = w9 at *
      refine ⟨B9.canSet (by simp) rfl, ?_⟩
      rintro _ rfl
      have B10 := B9.set 0 (.bool (decide (v ≠ [])))
      have Q10 : Vcg.Mod (· = N + 3) w9 _ := Mod.setCell w9 ⟨N + 3, 0, none⟩ (.bool (decide (v ≠ [])))
      have s910 : Stp (· = 1) w9 lab8 _ lab8 := Stp.setCell (a := ⟨N + 3, 0, none⟩) (v := .bool (decide (v ≠ []))) B8.clr
      have V10 := V9.mod Q10 (by omega)
      have E10 := E9.mod Q10 (by omega)
      have A10 := A9.mod Q10 (by omega)
      have P10 := P9.mod Q10 (by omega)
      have hv10 := hv9.stp s910 (by decide)
      have M10 : Vcg.Mod NoB w _ := mod_of M9 Q10 (by omega)
      generalize w9.setCell ⟨N + 3, 0, none⟩ (.bool (decide (v ≠ []))) = w10 at *
      refine ⟨_, A10.rd1 rfl, _, _, _, P10.rd1 rfl, fun hlt => ?_, fun hge => ?_⟩
      · simp only at hvr
        rw [if_pos (by omega)] at hvr
        refine (gives_calls w10 162).mono ?_
        rintro e w11 ⟨rfl, he⟩
        rw [if_neg (by decide)] at he
        subst he
        exact .inl ⟨_, rfl, bad _ 162 _ _ _ _ (by decide) hvr V10 B10 E10 M10⟩
      · simp only at hvr
        rw [if_neg (by omega)] at hvr
        rintro _ rfl
        have s11 : Stp NoS w10 lab8 w10.drew lab8 := Stp.drew _ _ _
        have V11 := V10.drew
        have B11 := B10.drew
        have E11 := E10.drew
        have hv11 := hv10.stp s11 (fun h => h)
        have M11 := M10.step_drew
        generalize w10.drew = w11 at *
        refine ⟨_, _, _, V11.rd1 rfl, _, B11.rd1 rfl, V11.canSet (by simp) rfl, ?_⟩
        rintro _ rfl
        have V12 := V11.set 0 (.slice ov v.length kv)
        have Q12 : Vcg.Mod (· = N + 2) w11 _ := Mod.setCell w11 ⟨N + 2, 0, none⟩ (.slice ov v.length kv)
        have s12 : Stp (· = 1) w11 lab8 _ lab8 := Stp.setCell (a := ⟨N + 2, 0, none⟩) (v := .slice ov v.length kv) V8.clr
        have B12 := B11.mod Q12 (by omega)
        have E12 := E11.mod Q12 (by omega)
        have hv12 := hv11.stp s12 (by decide)
        have M12 : Vcg.Mod NoB w _ := mod_of M11 Q12 (by omega)
        generalize w11.setCell ⟨N + 2, 0, none⟩ (.slice ov v.length kv) = w12 at *
        refine ⟨B12.rd1 rfl, B12.canSet (by simp) rfl, ?_⟩
        rintro _ rfl
        have B13 := B12.set 0 (.bool (decide (v ≠ [])))
        have Q13 : Vcg.Mod (· = N + 3) w12 _ := Mod.setCell w12 ⟨N + 3, 0, none⟩ (.bool (decide (v ≠ [])))
        have s13 : Stp (· = 1) w12 lab8 _ lab8 := Stp.setCell (a := ⟨N + 3, 0, none⟩) (v := .bool (decide (v ≠ []))) B8.clr
        have V13 := V12.mod Q13 (by omega)
        have E13 := E12.mod Q13 (by omega)
        have hv13 := hv12.stp s13 (by decide)
        have M13 : Vcg.Mod NoB w _ := mod_of M12 Q13 (by omega)
        generalize w12.setCell ⟨N + 3, 0, none⟩ (.bool (decide (v ≠ []))) = w13 at *
        refine ⟨E13.canSet (by simp) rfl, ?_⟩
        rintro _ rfl
        have E14 := E13.set 0 (.int .i64 0)
        have Q14 : Vcg.Mod (· = N + 4) w13 _ := Mod.setCell w13 ⟨N + 4, 0, none⟩ (.int .i64 0)
        have s14 : Stp (· = 1) w13 lab8 _ lab8 := Stp.setCell (a := ⟨N + 4, 0, none⟩) (v := .int .i64 0) E8.clr
        have V14 := V13.mod Q14 (by omega)
        have B14 := B13.mod Q14 (by omega)
        have hv14 := hv13.stp s14 (by decide)
        refine vleave_well E14 ⟨_, _, _, V14.rd1 rfl, _, B14.rd1 rfl, _, E14.rd1 rfl, hR _ _ ⟨mod_of M13 Q14 (by omega), ?_⟩⟩
        rw [hvr]
        exact ⟨ov, kv, rfl, hv14.rd⟩
end Go.Proofs.Ytfghidehlnfdiaa
end
