/- The law's own check of the document's proofs. -/
/- Contracts: few, turned (morainelaw16). -/
/- The walk of ProofMakes. -/
/- What is encoded is decoded: plain Lean. -/
/- A trie's nodes are whole: what Prove answers of it; another root's Verify: plain Lean. -/
/- The walk of ProofForeign. -/
/- Arguments: how long they can be. -/
/- Keys with values as arguments; how long what came in can be. -/
/- Entries as arguments. -/
import Derived.Test.YtfghidehlnfdiaaXK6
import Derived.Test.YtfghidehlnfdiaaPW2
import Derived.Test.YtfghidehlnfdiaaTL9
import Derived.Test.YtfghidehlnfdiaaTP3
import Derived.SizedLaws
import Derived.Test.YtfghidehlnfdiaaRows
set_option linter.unusedVariables false
set_option linter.unusedSimpArgs false
section
namespace Go.Proofs.Ytfghidehlnfdiaa
open Go Go.Vcg Go.Trie
theorem leaf_bytes : bytesOf (.leaf (nibbles [97]) [49]) = kGm := by kernel_rfl
theorem leaf_root : rootOf (.leaf (nibbles [97]) [49]) = kGh := (congrArg sumOf leaf_bytes).trans kG_sum
theorem trie_of (m : List (By × By)) (hs : SortedM m) (hk : ∀ e ∈ m, e.1.length ≤ 64) (hv : ∀ e ∈ m, e.2 ≠ [] ∧ e.2.length ≤ 1024) : ∃ n, Rep (pathsOf m) n ∧ Canon n ∧ Fits n ∧ cnt n ≤ 4 * m.length := by
  generalize hl : m.length = l
  induction l generalizing m with
  | zero =>
    obtain rfl := List.eq_nil_of_length_eq_zero hl
    exact ⟨.nil, rep_nil, trivial, fits_nil, by simp [cnt]⟩
  | succ l ih =>
    rcases List.eq_nil_or_concat m with rfl | ⟨m', x, rfl⟩
    · cases hl
    · rw [List.concat_eq_append] at *
      have hs' : SortedM m' := (List.pairwise_append.1 hs).1
      obtain ⟨n, h1, h2, h3, h4⟩ := ih m' hs' (fun e he => hk e (List.mem_append_left _ he)) (fun e he => hv e (List.mem_append_left _ he)) (by simpa using hl)
      have hx := hv x (by simp)
      have hxk := hk x (by simp)
      have hxl := nibbles_len x.1
      have hr := rep_put h1 hs' h2 hx.1 (k := x.1)
      rw [putM_snoc hs hx.1] at hr
      have := cnt_put n (nibbles x.1) x.2
      exact ⟨_, hr, (put_ok h2 (nib_nibbles _) hx.1).1, h3.put h2 (nib_nibbles _) hx.1 (by omega) hx.2, by omega⟩
theorem one_rep : Rep (pathsOf [([97], [49])]) (.leaf (nibbles [97]) [49]) ∧ Canon (.leaf (nibbles [97]) [49]) ∧ Small (.leaf (nibbles [97]) [49]) := by
  have e : Trie.put .nil (nibbles [97]) [49] = .leaf (nibbles [97]) [49] := by simp [Trie.put]
  have h1 := rep_put (k := [97]) (v := [49]) rep_nil List.Pairwise.nil trivial (by simp)
  have h2 := (put_ok (n := .nil) (p := nibbles [97]) (x := [49]) trivial (nib_nibbles _) (by simp)).1
  have h3 := Fits.put (p := nibbles [97]) (x := [49]) fits_nil trivial (nib_nibbles _) (by simp) (by decide) (by decide)
  rw [e] at h1 h2 h3
  exact ⟨h1, h2, small_of h2 h3⟩
theorem kGh_ne : kGh ≠ emptyH := by
  have : emptyH = kFh := kF_sum
  rw [this]; decide
theorem way_leaf {σ : Type} {step : σ → By → σ × Except Int By} {s s' : σ} {path : By} (hn : ∀ n ∈ path, n.toNat < 16) (h : step s kGh = (s', .ok kGm)) : way step s (.s kGh) path = (s', .ok (if [6, 1] = path then [49] else [])) := by
  have hc : checkOf kGm = 0 := by kernel_rfl
  have hd : dcod kGm = .ok (.l [.s [32, 97], .s [49]]) := by kernel_rfl
  obtain ⟨xs, hd', _, hg⟩ := check_node hc
  rw [hd] at hd'
  cases hd'
  have hh : headIs (.s [32, 97]) = some ([6, 1], true) := by kernel_rfl
  rw [way_hash (by decide) h hc hd hg hn, node_leaf (xs := [.s [32, 97], .s [49]]) rfl hh]
  rfl
theorem prove1 : proveR [(kGh, kGm)] kGh [97] = .ok [kGm] := by
  rw [proveR_way (by decide) (by decide)]
  have h : pStep [(kGh, kGm)] [] kGh = ([kGm], .ok kGm) := by kernel_rfl
  have hr : rootIt kGh = .s kGh := if_neg kGh_ne
  rw [hr, way_leaf (nib_lt _) h]
theorem verify1 (key : By) (hk : key.length ≤ 64) : verifyR [kGm] kGh key = .ok (if [6, 1] = nibbles key then [49] else []) := by
  rw [verifyR_way (by decide) (by omega)]
  have h : vStep [kGm] 0 kGh = (1, .ok kGm) := by
    unfold vStep
    simp only [List.getElem?_cons_zero, kG_sum, if_true]
  have hr : rootIt kGh = .s kGh := if_neg kGh_ne
  rw [hr, way_leaf (nib_lt _) h]
  rfl
theorem LsOwn.any {w w' : World} {lab : Nat → Nat} {c cb : Nat} {ls : List By} {o : Option Addr} {n k : Nat} (h : LsOwn w lab c cb ls o n k) (M : Vcg.Mod NoB w w') : n = ls.length ∧ RdLs w' (fun _ => 0) 0 ls o :=
  ⟨h.1, (h.stp (S := NoS) (Stp.of_nob M 0) (fun h => h) (fun h => h)).read (fun _ _ _ => rfl)⟩
theorem ProveIs.ok {l : List (By × By)} {root key : By} {out : List By} {w w' : World} {e : Ending} (h : ProveIs l root key w e w') (hr : proveR l root key = .ok out) : Vcg.Mod NoB w w' ∧ ∃ o n k, e = .returned (.tuple #[.slice o n k, .int .i64 0]) ∧ ∃ lab' c cb, LsOwn w' lab' c cb out o n k := by
  obtain ⟨h1, h2⟩ := h
  rw [hr] at h2
  exact ⟨h1, h2⟩
theorem VerifyIs.ok {p : List By} {root key v : By} {w w' : World} {e : Ending} (h : VerifyIs p root key w e w') (hr : verifyR p root key = .ok v) : Vcg.Mod NoB w w' ∧ ∃ o k, e = .returned (.tuple #[.slice o v.length k, .bool (decide (v ≠ [])), .int .i64 0]) ∧ RdB w' o v := by
  obtain ⟨h1, h2⟩ := h
  rw [hr] at h2
  exact ⟨h1, h2⟩
theorem verify1a : verifyR [kGm] kGh [97] = .ok [49] := by rw [verify1 _ (by decide), if_pos (by kernel_rfl)]
theorem verify1b : verifyR [kGm] kGh [98] = .ok [] := by rw [verify1 _ (by decide), if_neg (by decide)]
theorem known16_calls (w : World) : Calls Try.prog morainelaw16_known.n #[] w (fun e w' => e = .returned (.bool true) ∧ Vcg.Mod NoB w w') := by
  refine calls_gen fun Q hQ => morainelaw16_known.vc _ _ ?_
  have tail : ∀ {w30 : World} {D : Nat} {oN oK : Option Addr} {kN kK : Nat}, Vcg.Mod NoB w w30 → Blk w30 D 26 (hashA kGh) → NdRow w30 (fun _ => 0) 0 [(kGh, kGm)] oN 1 → RdB w30 oK [97] → ∀ (d22 : Addr), d22 = ⟨D, 0, none⟩ →
      Calls Try.prog 30 #[.slice oN 1 kN, .agg (hashA kGh), .slice oK 1 kK] w30 (fun e39 w40 =>
      ∃ o41 l42 l43 n44, e39 = .returned (.tuple #[(.slice o41 l42 l43), (.int .i64 n44)]) ∧
      ∃ L45, RowAt w40 d22 32 L45 ∧
      ∀ d46 w47, IsNew w40 5 #[(.int .u8 97)] d46 w47 →
      ∃ v48 w49, Sem.run Try.prog (convert 22 22 (.slice (some d46) 1 1)) w47 = .ok v48 w49 ∧
      ∃ o50 l51 l52, v48 = (.slice o50 l51 l52) ∧
      Calls Try.prog 34 #[(.agg L45), (.slice o50 l51 l52), (.slice o41 l42 l43)] w49 (fun e53 w54 =>
      ∃ o55 l56 l57 b58 n59, e53 = .returned (.tuple #[(.slice o55 l56 l57), (.bool b58), (.int .i64 n59)]) ∧
      ∃ L60, RowAt w54 d22 32 L60 ∧
      ∀ d61 w62, IsNew w54 5 #[(.int .u8 98)] d61 w62 →
      ∃ v63 w64, Sem.run Try.prog (convert 22 22 (.slice (some d61) 1 1)) w62 = .ok v63 w64 ∧
      ∃ o65 l66 l67, v63 = (.slice o65 l66 l67) ∧
      Calls Try.prog 34 #[(.agg L60), (.slice o65 l66 l67), (.slice o41 l42 l43)] w64 (fun e68 w69 =>
      ∃ o70 l71 l72 b73 n74, e68 = .returned (.tuple #[(.slice o70 l71 l72), (.bool b73), (.int .i64 n74)]) ∧
      (((n44 = 0 →
      (((n59 = 0 →
      (((n74 = 0 →
      (((b58 = true →
      (((b73 = false →
      (((((l42 : Nat) : Int) = 1 →
      ∃ v75, Sem.run Try.prog (convert 22 9 (.slice o55 l56 l57)) w69 = .ok v75 w69 ∧
      ∃ s76, v75 = (.string s76) ∧
      Q (.returned (.bool (strB .eql s76 ⟨#[49]⟩))) w69)) ∧
      ((((l42 : Nat) : Int) ≠ 1 →
      Q (.returned (.bool false)) w69))))) ∧
      ((b73 = true →
      Q (.returned (.bool false)) w69))))) ∧
      ((b58 = false →
      Q (.returned (.bool false)) w69))))) ∧
      ((n74 ≠ 0 →
      Q (.returned (.bool false)) w69))))) ∧
      ((n59 ≠ 0 →
      Q (.returned (.bool false)) w69))))) ∧
      ((n44 ≠ 0 →
      Q (.returned (.bool false)) w69)))))) := by
    rintro w30 D oN oK kN kK M H N r _ rfl
    refine (Prove_calls (l := [(kGh, kGm)]) (key := [97]) N (by decide) (by simp [kGm]) (by decide) r).mono ?_
    intro e w40 hp
    obtain ⟨M40, op, np, kp, rfl, labp, c, cb, hO⟩ := hp.ok prove1
    refine ⟨_, _, _, _, rfl, _, (H.mod' M40).rowAll (size_hashA _), ?_⟩
    rintro d w47 ⟨rfl, rfl⟩
    obtain ⟨w49, h49, M49, r49⟩ := lit_bytes w40 (bs := [97]) (A := #[(.int .u8 97)]) rfl 1 1
    obtain ⟨rfl, hL⟩ := hO.any M49
    refine ⟨_, w49, h49, _, _, _, rfl, ?_⟩
    refine (Verify_calls (p := [kGm]) (key := [97]) (root := kGh) hL (by decide) (by simp [kGm]) (by decide) r49).mono ?_
    intro e w54 hv
    obtain ⟨M54, ov, kv, rfl, hrv⟩ := hv.ok verify1a
    have M4054 := M49.none_trans M54
    refine ⟨_, _, _, _, _, rfl, _, ((H.mod' M40).mod' M4054).rowAll (size_hashA _), ?_⟩
    rintro d w62 ⟨rfl, rfl⟩
    obtain ⟨w64, h64, M64, r64⟩ := lit_bytes w54 (bs := [98]) (A := #[(.int .u8 98)]) rfl 1 1
    obtain ⟨_, hL2⟩ := hO.any (M4054.none_trans M64)
    refine ⟨_, w64, h64, _, _, _, rfl, ?_⟩
    refine (Verify_calls (p := [kGm]) (key := [98]) (root := kGh) hL2 (by decide) (by simp [kGm]) (by decide) r64).mono ?_
    intro e w69 hv2
    obtain ⟨M69, ov2, kv2, rfl, _⟩ := hv2.ok verify1b
    have Mall : Vcg.Mod NoB w w69 := ((M.none_trans M40).none_trans M4054).none_trans (M64.none_trans M69)
    refine ⟨_, _, _, _, _, rfl, fun _ => ⟨fun _ => ⟨fun _ => ⟨fun _ => ⟨fun _ => ⟨fun _ => ⟨_, toStr (hrv.mod' (M64.none_trans M69)), _, rfl, hQ _ _ ⟨?_, Mall⟩⟩, fun h => (h rfl).elim⟩, fun h => (by cases h)⟩, fun h => (by cases h)⟩, fun h => (h rfl).elim⟩, fun h => (h rfl).elim⟩, fun h => (h rfl).elim⟩
    have e : strB .eql (strOf [49]) ⟨#[49]⟩ = true := strB_strOf [49] [49]
    rw [e]
  unfold morainelaw16_known.Vc
  rintro d w1 ⟨rfl, rfl⟩
  obtain ⟨w2, h2, M2, r2⟩ := lit_bytes w (bs := [97]) (A := #[(.int .u8 97)]) rfl 1 1
  refine ⟨_, w2, h2, _, _, _, rfl, ?_⟩
  rintro d w3 ⟨rfl, rfl⟩
  obtain ⟨w4, h4, M4, r4⟩ := lit_bytes w2 (bs := [49]) (A := #[(.int .u8 49)]) rfl 1 1
  refine ⟨_, w4, h4, _, _, _, rfl, ?_⟩
  rintro d w5 ⟨rfl, rfl⟩
  have M5 := Mod.alloc (S := NoB) w4 (.cells #[(.slice (some ⟨w.heap.size, 0, none⟩) 1 1), (.slice (some ⟨w2.heap.size, 0, none⟩) 1 1)] 93)
  have B5 := Blk.new w4 93 #[(.slice (some ⟨w.heap.size, 0, none⟩) 1 1), (.slice (some ⟨w2.heap.size, 0, none⟩) 1 1)]
  have r2' := r2.mod' (M4.none_trans M5)
  have r4' := r4.mod' M5
  have M05 := (M2.none_trans M4).none_trans M5
  have hKv : KvRow _ (fun _ => 0) 0 (some ⟨w4.heap.size, 0, none⟩) [([97], [49])] := fun j hj => by
    obtain rfl : j = 0 := by simpa using hj
    exact ⟨_, _, _, _, _, _, rfl, B5.lt, rfl, B5.cell 0, ⟨r2', fun _ _ _ => rfl⟩, B5.cell 1, ⟨r4', fun _ _ _ => rfl⟩⟩
  obtain ⟨p1, p2, p3⟩ := one_rep
  generalize w4.alloc (.cells #[(.slice (some ⟨w.heap.size, 0, none⟩) 1 1), (.slice (some ⟨w2.heap.size, 0, none⟩) 1 1)] 93) = w6 at *
  refine (Of_calls hKv ⟨by decide, by simp, by simp⟩ p1 p2 p3 (by simp [cnt]) 0).mono ?_
  rintro _ w7 ⟨o7, k7, rfl, M7, N7⟩
  have hN7 : NdRow w7 (fun _ => 0) 0 [(kGh, kGm)] o7 1 := by
    rw [nodes_leaf, leaf_root, leaf_bytes] at N7
    exact N7.re (fun _ _ _ => rfl)
  have hlen : (nodesOf (.leaf (nibbles [97]) [49])).length = 1 := by rw [nodes_leaf]; rfl
  rw [hlen, leaf_root]
  refine ⟨_, _, _, _, rfl, ?_⟩
  rintro d w8 ⟨rfl, rfl⟩
  have H8 := Blk.new w7 26 (Array.replicate 32 (.int .u8 0))
  obtain ⟨g1, g2, g3⟩ := hash_store H8 (by simp) kGh
  have M8 := mod_of (Mod.alloc w7 (.cells (Array.replicate 32 (.int .u8 0)) 26)) g3 (Nat.le_refl _)
  refine ⟨_, g1, ?_⟩
  have M08 := (M05.none_trans M7).none_trans M8
  have N8 : NdRow _ (fun _ => 0) 0 [(kGh, kGm)] o7 1 := (hN7.stp (S := NoS) (Stp.of_nob M8 0) (fun h => h)).re (lab' := fun _ => 0) (c' := 0) (fun _ _ _ => rfl)
  generalize w7.heap.size = D at *
  generalize ((w7.alloc (.cells (Array.replicate 32 (.int .u8 0)) 26)).setRow D (hashA kGh)) = w8 at *
  rintro _ rfl
  have H9 := g2.drew
  have M09 := M08.step_drew
  have N9 : NdRow w8.drew (fun _ => 0) 0 [(kGh, kGm)] o7 1 := (N8.stp (S := NoS) (Stp.drew _ _ _) (fun h => h)).re (lab' := fun _ => 0) (c' := 0) (fun _ _ _ => rfl)
  generalize w8.drew = w9 at *
  refine ⟨_, H9.rowAll (size_hashA _), ?_, ?_⟩
  · refine (rNodes_calls (k := k7) N9 (by simp [kGm]) (by decide) 0).mono ?_
    rintro _ w10 ⟨o10, k10, rfl, _, M10, N10⟩
    refine ⟨_, _, _, rfl, (H9.mod' M10).rowAll (size_hashA _), ?_⟩
    rintro d w11 ⟨rfl, rfl⟩
    obtain ⟨w12, h12, M12, r12⟩ := lit_bytes w10 (bs := [97]) (A := #[(.int .u8 97)]) rfl 1 1
    have Ma := Mod.alloc (S := NoB) w10 (.cells #[(.int .u8 97)] 5)
    refine ⟨((H9.mod' M10).mod' Ma).rowAll (size_hashA _), _, w12, h12, _, _, _, rfl, ((H9.mod' M10).mod' M12).rowAll (size_hashA _), ?_⟩
    exact tail ((M09.none_trans M10).none_trans M12) ((H9.mod' M10).mod' M12) ((N10.stp (S := NoS) (Stp.of_nob M12 0) (fun h => h)).re (fun _ _ _ => rfl)) r12 _ rfl
  · rintro d w11 ⟨rfl, rfl⟩
    obtain ⟨w12, h12, M12, r12⟩ := lit_bytes w9 (bs := [97]) (A := #[(.int .u8 97)]) rfl 1 1
    have Ma := Mod.alloc (S := NoB) w9 (.cells #[(.int .u8 97)] 5)
    refine ⟨(H9.mod' Ma).rowAll (size_hashA _), ?_, ?_⟩
    · have Na : NdRow _ (fun _ => 0) 0 [(kGh, kGm)] o7 1 := (N9.stp (S := NoS) (Stp.of_nob Ma 0) (fun h => h)).re (lab' := fun _ => 0) (c' := 0) (fun _ _ _ => rfl)
      have Ba := Blk.new w9 5 #[(.int .u8 97)]
      have Ha := H9.mod' Ma
      have hDE := Nat.ne_of_lt H9.lt
      have hE : w9.heap.size ≤ w9.heap.size := Nat.le_refl _
      generalize hEe : w9.heap.size = E at Ba hDE h12 M12 r12 ⊢
      rw [hEe] at hE
      generalize w9.alloc (.cells #[(.int .u8 97)] 5) = wa at *
      refine (rNodes_calls (k := k7) (Na.re (lab' := fun _ => 1) (c' := 1) (fun _ _ _ => rfl)) (by simp [kGm]) (by decide) 0).mono ?_
      rintro _ w10 ⟨o10, k10, rfl, _, M10, N10⟩
      have B10 := Ba.mod' M10
      obtain ⟨wc, hc, Mc, hcc⟩ := convert_same (P := Try.prog) (t := tSlU8) (l := 1) (c := 1) und_slU8 (by kernel_rfl) B10
      have Hc := (Ha.mod' M10).mod Mc (by intro e; exact hDE e)
      have M9c : Vcg.Mod NoB w9 wc := mod_of (Ma.none_trans M10) Mc (Nat.le_of_eq hEe)
      have sc : Stp (· = 1) w10 (ext (fun _ => 1) wa.heap.size 0) wc (ext (ext (fun _ => 1) wa.heap.size 0) w10.heap.size 0) := Stp.of_mod Mc 0 (fun q _ e => by rw [e]; exact ext_old Ba.lt)
      refine ⟨_, _, _, rfl, (Ha.mod' M10).rowAll (size_hashA _), _, wc, hc, _, _, _, rfl, Hc.rowAll (size_hashA _), ?_⟩
      have rc : RdB wc (some ⟨E, 0, none⟩) [97] := fun hne => ⟨E, 0, rfl, Nat.lt_of_lt_of_le B10.lt Mc.size, fun i hi => by
        obtain rfl : i = 0 := by simpa using hi
        rw [hcc, B10.cell]; rfl⟩
      exact tail (M09.none_trans M9c) Hc ((N10.stp sc (by decide)).re (fun _ _ _ => rfl)) rc _ rfl
    · refine ⟨_, w12, h12, _, _, _, rfl, (H9.mod' M12).rowAll (size_hashA _), ?_⟩
      have N12 : NdRow w12 (fun _ => 0) 0 [(kGh, kGm)] o7 1 := (N9.stp (S := NoS) (Stp.of_nob M12 0) (fun h => h)).re (lab' := fun _ => 0) (c' := 0) (fun _ _ _ => rfl)
      refine (rNodes_calls (k := k7) N12 (by simp [kGm]) (by decide) 0).mono ?_
      rintro _ w13 ⟨o13, k13, rfl, _, M13, N13⟩
      refine ⟨_, _, _, rfl, ((H9.mod' M12).mod' M13).rowAll (size_hashA _), ?_⟩
      exact tail ((M09.none_trans M12).none_trans M13) ((H9.mod' M12).mod' M13) (N13.re (fun _ _ _ => rfl)) (r12.mod' M13) _ rfl
end Go.Proofs.Ytfghidehlnfdiaa
end
section
namespace Go.Proofs.Ytfghidehlnfdiaa
open Go Go.Vcg Go.Trie
structure FewOk (l : List (By × By)) : Prop where
  len : l.length ≤ 40
  keys : ∀ e ∈ l, e.1.length ≤ 64
  vals : ∀ e ∈ l, e.2 ≠ [] ∧ e.2.length ≤ 300
  srt : SortedM l
theorem sorted_snoc {l : List (By × By)} {j : Nat} (hj : j < l.length) (h : SortedM (l.take j)) (hl : 0 < j → ∃ h1 : j - 1 < l.length, ltB l[j - 1].1 l[j].1) : SortedM (l.take (j + 1)) := by
  rw [List.take_succ_eq_append_getElem hj]
  refine List.pairwise_append.2 ⟨h, List.pairwise_singleton _ _, fun x hx y hy => ?_⟩
  obtain rfl := List.mem_singleton.1 hy
  obtain ⟨q, hq, rfl⟩ := List.getElem_of_mem hx
  rw [List.length_take] at hq
  obtain ⟨h1, h2⟩ := hl (by omega)
  rw [List.getElem_take]
  by_cases he : q = j - 1
  · subst he; exact h2
  · have hp := List.pairwise_iff_getElem.1 h q (j - 1) (by rw [List.length_take]; omega) (by rw [List.length_take]; omega) (by omega)
    rw [List.getElem_take, List.getElem_take] at hp
    exact ltB_trans hp h2
theorem few16_calls {w : World} {o : Option Addr} {k : Nat} {l : List (By × By)} (h : StR w o l) :
    Calls Try.prog morainelaw16_few.n #[.slice o l.length k] w (fun e w' => ∃ b : Bool, e = .returned (.bool b) ∧ (b = true → FewOk l) ∧ Vcg.Mod NoB w w') := by
  refine morainelaw16_few.vc _ _ _ _ _ ?_
  unfold morainelaw16_few.Vc
  refine ⟨fun _ => ⟨false, rfl, fun h => (by cases h), Mod.refl w⟩, fun hl => ?_⟩
  have no : ∀ w', Vcg.Mod NoB w w' → ∃ b : Bool, Ending.returned (.bool false) = .returned (.bool b) ∧ (b = true → FewOk l) ∧ Vcg.Mod NoB w w' := fun w' M => ⟨false, rfl, fun h => (by cases h), M⟩
  refine ⟨fun i w' => ∃ j : Nat, i = (j : Int) ∧ j ≤ l.length ∧ Vcg.Mod NoB w w' ∧ SortedM (l.take j) ∧ ∀ q (hq : q < l.length), q < j → l[q].1.length ≤ 64 ∧ l[q].2 ≠ [] ∧ l[q].2.length ≤ 300, fun i _ => ((l.length : Int) - i).toNat, ⟨0, rfl, Nat.zero_le _, Mod.refl w, by rw [List.take_zero]; exact List.Pairwise.nil, fun q hq h => by omega⟩, ?_⟩
  rintro _ _ w1 ⟨j, rfl, hj, M, hs, hall⟩
  refine ⟨fun hlt => ?_, fun hge => ?_⟩
  · rintro _ rfl
    have hjl : j < l.length := by omega
    have M2 := M.step_drew
    generalize w1.drew = w2 at *
    obtain ⟨b, f, ok, kk, ov, kv, rfl, e2, e3, e4, e5, e6⟩ := h.mod' M2 j hjl
    have ck : w2.cell? (Addr.add ⟨b, f, none⟩ (Int.toNat (j : Int) * 2)) = some (.slice ok l[j].1.length kk) := by rw [add_at, Int.toNat_natCast]; exact e3
    have cv : w2.cell? (Addr.add (Addr.add ⟨b, f, none⟩ (Int.toNat (j : Int) * 2)) 1) = some (.slice ov l[j].2.length kv) := by rw [add_at, add_at, Int.toNat_natCast, Nat.add_assoc]; exact e5
    refine ⟨_, rfl, ⟨by omega, by omega⟩, _, _, _, ck, fun _ => no _ M2, fun h1 => ⟨_, rfl, ⟨by omega, by omega⟩, _, _, _, cv, fun _ => no _ M2, fun h2 => ⟨_, rfl, ⟨by omega, by omega⟩, _, _, _, cv, fun _ => no _ M2, fun h3 => ?_⟩⟩⟩
    have ew : IntKind.wrap .i64 ((j : Int) + 1) = ((j + 1 : Nat) : Int) := by rw [wrap_i64_small (by omega) (by omega)]; omega
    have hv : l[j].2 ≠ [] := by intro e; rw [e] at h2; simp at h2
    have hall' : ∀ q (hq : q < l.length), q < j + 1 → l[q].1.length ≤ 64 ∧ l[q].2 ≠ [] ∧ l[q].2.length ≤ 300 := fun q hq hqj => by
      by_cases hqe : q = j
      · subst hqe; exact ⟨by omega, hv, by omega⟩
      · exact hall q hq (by omega)
    refine ⟨fun hpos => ?_, fun hz => ?_⟩
    · have ew1 : IntKind.wrap .i64 ((j : Int) - 1) = ((j - 1 : Nat) : Int) := by rw [wrap_i64_small (by omega) (by omega)]; omega
      obtain ⟨b', f', ok', kk', ov', kv', hb', g2, g3, g4, g5, g6⟩ := h.mod' M2 (j - 1) (by omega)
      cases hb'
      refine ⟨_, rfl, by rw [ew1]; exact ⟨by omega, by omega⟩, _, _, _, by rw [add_at, ew1, Int.toNat_natCast]; exact g3, _, rfl, ⟨by omega, by omega⟩, _, _, _, ck, ?_⟩
      have hkl := (hall (j - 1) (by omega) (by omega)).1
      refine (cmp_calls g4 e4 (by omega)).mono ?_
      rintro _ w3 ⟨rfl, M3⟩
      have M23 := M2.none_trans M3
      refine ⟨_, rfl, fun _ => no _ M23, fun hneg => ?_⟩
      rw [ew]
      exact ⟨⟨j + 1, rfl, hjl, M23, sorted_snoc hjl hs (fun _ => ⟨by omega, cmpB_lt.1 (by omega)⟩), hall'⟩, by dsimp only; omega⟩
    · rw [ew]
      exact ⟨⟨j + 1, rfl, hjl, M2, sorted_snoc hjl hs (fun h => by omega), hall'⟩, by dsimp only; omega⟩
  · obtain rfl : j = l.length := by omega
    rw [List.take_of_length_le (Nat.le_refl _)] at hs
    refine ⟨true, rfl, fun _ => ⟨by omega, fun e he => ?_, fun e he => ?_, hs⟩, M⟩
    · obtain ⟨q, hq, rfl⟩ := List.getElem_of_mem he
      exact (hall q hq hq).1
    · obtain ⟨q, hq, rfl⟩ := List.getElem_of_mem he
      exact (hall q hq hq).2
section
variable {w w' : World} {lab : Nat → Nat} {c : Nat}
end
end Go.Proofs.Ytfghidehlnfdiaa
end
section
namespace Go.Proofs.Ytfghidehlnfdiaa
open Go Go.Vcg Go.Trie
theorem StR.kv {w : World} {o : Option Addr} {m : List (By × By)} (h : StR w o m) : KvRow w (fun _ => 0) 0 o m := fun j hj => by
  obtain ⟨b, f, ok, kk, ov, kv, e1, e2, e3, e4, e5, e6⟩ := h j hj
  exact ⟨b, f, ok, kk, ov, kv, e1, e2, rfl, e3, ⟨e4, fun _ _ _ => rfl⟩, e5, ⟨e6, fun _ _ _ => rfl⟩⟩
theorem FewOk.kv {m : List (By × By)} (h : FewOk m) : KvOk m := ⟨by have := h.len; omega, h.keys, fun e he => by have := (h.vals e he).2; omega⟩
theorem FewOk.trie {m : List (By × By)} (h : FewOk m) : ∃ n, Rep (pathsOf m) n ∧ Canon n ∧ Small n ∧ cnt n ≤ 160 := by
  obtain ⟨n, h1, h2, h3, h4⟩ := trie_of m h.srt h.keys (fun e he => ⟨(h.vals e he).1, by have := (h.vals e he).2; omega⟩)
  have := h.len
  exact ⟨n, h1, h2, small_of h2 h3, by omega⟩
end Go.Proofs.Ytfghidehlnfdiaa
end
section
namespace Go.Trie
theorem be_digitsF : ∀ (f q : Nat), q < 256 ^ f → be (digitsF f q) = q ∧ (q ≠ 0 → digitsF f q ≠ [] ∧ (digitsF f q).getD 0 0 ≠ 0)
  | 0, q, h => by simp at h; subst h; exact ⟨rfl, fun h => (h rfl).elim⟩
  | f + 1, q, h => by
    rw [Nat.pow_succ] at h
    simp only [digitsF]
    by_cases hq : q = 0
    · rw [if_pos hq, hq]; exact ⟨rfl, fun h => (h rfl).elim⟩
    · rw [if_neg hq]
      obtain ⟨h1, h2⟩ := be_digitsF f (q / 256) (by omega)
      have hb : (UInt8.ofNat q).toNat = q % 256 := UInt8.toNat_ofNat'
      refine ⟨by rw [be_snoc, h1, hb]; omega, fun _ => ⟨by simp, ?_⟩⟩
      by_cases hz : q / 256 = 0
      · have hd : digitsF f (q / 256) = [] := by rw [hz]; cases f <;> simp [digitsF]
        rw [hd]
        simp only [List.nil_append, List.getD_eq_getElem?_getD, List.getElem?_cons_zero, Option.getD_some]
        intro e
        have := congrArg UInt8.toNat e
        rw [hb] at this
        simp at this
        omega
      · obtain ⟨h3, h4⟩ := h2 hz
        obtain ⟨a, r, hr⟩ : ∃ a r, digitsF f (q / 256) = a :: r := by
          cases hdd : digitsF f (q / 256) with
          | nil => exact (h3 hdd).elim
          | cons a r => exact ⟨a, r, rfl⟩
        rw [hr] at h4 ⊢
        exact h4
theorem hd_head {N base : Nat} (hb : base = 128 ∨ base = 192) (hN : N ≤ 2147483648) (r : By) : hd (head N base ++ r) = .ok (decide (base = 192), (head N base).length, N, false) := by
  unfold head
  by_cases h : N ≤ 55
  · rw [if_pos h]
    have hc : (UInt8.ofNat (base + N)).toNat = base + N := by rw [UInt8.toNat_ofNat']; omega
    unfold hd
    simp only [List.cons_append, List.nil_append, List.getD_cons_zero, hc, List.length_singleton]
    have hbb : (if base + N ≥ 192 then 192 else 128) = base := by
      rcases hb with rfl | rfl
      · exact if_neg (by omega)
      · exact if_pos (by omega)
    have hdd : decide (base + N ≥ 192) = decide (base = 192) := by
      rcases hb with rfl | rfl
      · rw [decide_eq_false (by omega)]; rfl
      · rw [decide_eq_true (by omega)]; rfl
    simp only [hbb, hdd]
    rw [if_neg (by omega), if_pos (by omega), show base + N - base = N by omega]
  · rw [if_neg h]
    have hl := digits_le N
    obtain ⟨h1, h2⟩ := be_digitsF 8 N (Nat.lt_of_le_of_lt hN (by decide))
    obtain ⟨h3, h4⟩ := h2 (by omega)
    have e8 : digitsF 8 N = digits N := rfl
    rw [e8] at h1 h3 h4
    generalize digits N = ds at *
    have hpos : 1 ≤ ds.length := List.length_pos_iff.2 h3
    have hc : (UInt8.ofNat (base + 55 + ds.length)).toNat = base + 55 + ds.length := by rw [UInt8.toNat_ofNat']; omega
    have hk : ∀ b, b = 128 ∨ b = 192 → b = base → b + 55 + ds.length - b - 55 = ds.length := fun b _ _ => by omega
    have ht : ((UInt8.ofNat (base + 55 + ds.length) :: ds ++ r).drop 1).take ds.length = ds := by simp
    have hg : (UInt8.ofNat (base + 55 + ds.length) :: ds ++ r).getD 1 0 = ds.getD 0 0 := by
      obtain ⟨a, q, rfl⟩ : ∃ a q, ds = a :: q := by
        cases ds with
        | nil => exact (h3 rfl).elim
        | cons a q => exact ⟨a, q, rfl⟩
      rfl
    have hlen : (UInt8.ofNat (base + 55 + ds.length) :: ds ++ r).length = 1 + ds.length + r.length := by simp; omega
    have h0 : (UInt8.ofNat (base + 55 + ds.length) :: ds ++ r).getD 0 0 = UInt8.ofNat (base + 55 + ds.length) := rfl
    unfold hd
    have hbb : (if base + 55 + ds.length ≥ 192 then 192 else 128) = base := by
      rcases hb with rfl | rfl
      · exact if_neg (by omega)
      · exact if_pos (by omega)
    have hdd : decide (base + 55 + ds.length ≥ 192) = decide (base = 192) := by
      rcases hb with rfl | rfl
      · rw [decide_eq_false (by omega)]; rfl
      · rw [decide_eq_true (by omega)]; rfl
    simp only [h0, hc, hg, hlen, List.length_cons, hbb, hdd]
    rw [if_neg (by omega), if_neg (by omega), show base + 55 + ds.length - base - 55 = ds.length by omega, if_neg (by omega), ht, h1, if_neg (by rintro (h | h | h); exact h4 h; omega; omega)]
    simp only [Except.ok.injEq, Prod.mk.injEq, true_and, and_true]
    omega
theorem dcd_enc : ∀ (f d n : Nat), (∀ x r, 2 * (enc x).length + 1 ≤ f → dep x + d ≤ 17 → n + count x ≤ 4096 → (enc x).length ≤ 65536 → dcd f d n (enc x ++ r) = .ok (x, (enc x).length, n + count x)) ∧
    (∀ xs, 2 * (encs xs).length + 2 ≤ f → (xs = [] ∨ deps xs + d ≤ 17) → n + counts xs ≤ 4096 → (encs xs).length ≤ 65536 → dcds f d n (encs xs) = .ok (xs, n + counts xs))
  | 0, d, n => ⟨fun x r h => by omega, fun xs h => by omega⟩
  | f + 1, d, n => by
    refine ⟨fun x r hf hd hn hl => ?_, fun xs hf hd hn hl => ?_⟩
    · have hpos := enc_pos x
      have hne : enc x ++ r ≠ [] := fun e => by
        have := congrArg List.length e
        rw [List.length_append] at this
        simp at this
        rw [this.1] at hpos
        simp at hpos
      have hcp := count_pos x
      have hdp := dep_pos x
      rw [dcd, if_neg hne, if_neg (by omega)]
      cases x with
      | s b =>
        simp only [count]
        by_cases ho : own b = true
        · obtain ⟨a, rfl, ha⟩ : ∃ a, b = [a] ∧ a.toNat < 128 := by
            cases b with
            | nil => simp [own] at ho
            | cons a q => cases q with
              | nil => exact ⟨a, rfl, by simpa [own, UInt8.lt_iff_toNat_lt] using ho⟩
              | cons c q => simp [own] at ho
          have e : enc (.s [a]) = [a] := by simp only [enc]; rw [if_pos ho]
          rw [e]
          have hh : Go.Trie.hd ([a] ++ r) = .ok (false, 0, 1, true) := by
            unfold Go.Trie.hd
            simp only [List.cons_append, List.nil_append, List.getD_cons_zero]
            rw [if_pos ha]
          rw [hh]
          simp
        · have e : enc (.s b) = head b.length 128 ++ b := by simp only [enc]; rw [if_neg ho]
          rw [e] at hl hf ⊢
          rw [List.length_append] at hl hf
          have hh := hd_head (N := b.length) (base := 128) (.inl rfl) (by omega) (b ++ r)
          rw [List.append_assoc, hh]
          have hdrop : (head b.length 128 ++ (b ++ r)).drop (head b.length 128).length = b ++ r := List.drop_left
          have htake : (b ++ r).take b.length = b := List.take_left
          simp only [hdrop, htake, List.length_append]
          rw [if_neg (by omega), if_pos (by decide), if_neg (by rintro ⟨_, h⟩; exact ho h)]
      | l xs =>
        simp only [count]
        have e : enc (.l xs) = head (encs xs).length 192 ++ encs xs := by simp only [enc]
        have hhp := head_pos (encs xs).length 192
        rw [e] at hl hf ⊢
        rw [List.length_append] at hl hf
        have hh := hd_head (N := (encs xs).length) (base := 192) (.inr rfl) (by omega) (encs xs ++ r)
        rw [List.append_assoc, hh]
        have hdrop : (head (encs xs).length 192 ++ (encs xs ++ r)).drop (head (encs xs).length 192).length = encs xs ++ r := List.drop_left
        have htake : (encs xs ++ r).take (encs xs).length = encs xs := List.take_left
        simp only [hdrop, htake, List.length_append]
        rw [if_neg (by omega), if_neg (by decide)]
        simp only [dep] at hd
        simp only [count] at hn
        rw [(dcd_enc f (d + 1) (n + 1)).2 xs (by omega) (.inr (by omega)) (by omega) (by omega)]
        simp only [Except.ok.injEq, Prod.mk.injEq, true_and]
        omega
    · cases xs with
      | nil => simp [encs, dcds, counts]
      | cons x r =>
        have hdd := hd.resolve_left (by simp)
        simp only [deps] at hdd
        simp only [counts] at hn ⊢
        simp only [encs, List.length_append] at hf hl ⊢
        have hpos := enc_pos x
        have hne : enc x ++ encs r ≠ [] := fun e => by
          have := congrArg List.length e
          rw [List.length_append] at this
          simp at this
          rw [this.1] at hpos
          simp at hpos
        rw [dcds, if_neg hne, (dcd_enc f d n).1 x (encs r) (by omega) (by omega) (by omega) (by omega)]
        simp only
        rw [show (enc x ++ encs r).drop (enc x).length = encs r from List.drop_left, (dcd_enc f d (n + count x)).2 r (by omega) (by
          by_cases hr : r = []
          · exact .inl hr
          · exact .inr (by omega)) (by omega) (by omega)]
        simp only [Except.ok.injEq, Prod.mk.injEq, true_and]
        omega
theorem dcod_enc {x : It} (h1 : dep x ≤ 16) (h2 : count x ≤ 4096) (h3 : (enc x).length ≤ 65536) : dcod (enc x) = .ok x := by
  unfold dcod
  have h := (dcd_enc (2 * (enc x).length + 1) 1 0).1 x [] (Nat.le_refl _) (by omega) (by omega) h3
  rw [List.append_nil] at h
  rw [if_neg (by omega), h]
  simp
end Go.Trie
end
section
namespace Go.Proofs.Ytfghidehlnfdiaa
open Go Go.Vcg Go.Trie
theorem head_packed {p : By} (lf : Bool) (hn : Nib p) (hl : p.length ≤ 128) : headIs (.s (packed p lf)) = some (p, lf) :=
  unpack_pack (fun h => by have := (not_bad hn).1 h; omega)
theorem two_mem {α : Type} {l : List α} {a b : α} (ha : a ∈ l) (hb : b ∈ l) (h : a ≠ b) : 2 ≤ l.length := by
  match l with
  | [] => cases ha
  | [x] =>
    have h1 := List.mem_singleton.1 ha
    have h2 := List.mem_singleton.1 hb
    exact (h (h1.trans h2.symm)).elim
  | _ :: _ :: _ => simp
theorem wrap_nil : wrapRef (itemOf .nil) = .s [] := by
  unfold wrapRef
  rw [if_neg]
  · rfl
  · have : (enc (itemOf .nil)).length = 1 := by kernel_rfl
    omega
theorem ref_node {c : Nd} {g : Nat} (hne : c ≠ .nil) (ih : dep (itemOf c) ≤ g → ∃ ys, itemOf c = .l ys ∧ nodeN g ys = true) (hd : dep (wrapRef (itemOf c)) ≤ g) : refN g (wrapRef (itemOf c)) = true ∧ isE (wrapRef (itemOf c)) = false := by
  unfold wrapRef at hd ⊢
  by_cases hl : 32 ≤ (enc (itemOf c)).length
  · rw [if_pos hl]
    have h32 : (sumOf (enc (itemOf c))).length = 32 := length_sumOf _
    refine ⟨by simp only [refN]; exact decide_eq_true h32, ?_⟩
    cases hs : sumOf (enc (itemOf c)) with
    | nil => rw [hs] at h32; cases h32
    | cons a r => rfl
  · rw [if_neg hl] at hd ⊢
    obtain ⟨ys, h1, h2⟩ := ih hd
    rw [h1] at hl ⊢
    refine ⟨?_, rfl⟩
    simp only [refN, Bool.and_eq_true, decide_eq_true_eq]
    exact ⟨by omega, h2⟩
theorem nd_node : ∀ (m : Nd) (f : Nat), Canon m → Small m → m ≠ .nil → dep (itemOf m) ≤ f → ∃ xs, itemOf m = .l xs ∧ nodeN f xs = true
  | .nil, _, _, _, h, _ => (h rfl).elim
  | .leaf p v, f, hc, hs, _, hd => by
    simp only [itemOf, dep] at hd
    obtain ⟨g, rfl⟩ : ∃ g, f = g + 1 := ⟨f - 1, by omega⟩
    refine ⟨_, rfl, ?_⟩
    rw [nodeN_two rfl]
    have hh := head_packed true hc.1 hs.1
    simp only [List.getD_cons_zero, List.getD_cons_succ, hh]
    have hv := hc.2
    cases v with
    | nil => exact (hv rfl).elim
    | cons a r => rfl
  | .row p c, f, hc, hs, _, hd => by
    simp only [itemOf, dep, deps] at hd
    obtain ⟨g, rfl⟩ : ∃ g, f = g + 1 := ⟨f - 1, by omega⟩
    refine ⟨_, rfl, ?_⟩
    rw [nodeN_two rfl]
    have hh := head_packed false hc.2.1 hs.1
    have hcn : c ≠ .nil := by
      rintro rfl
      exact hc.2.2.1
    simp only [List.getD_cons_zero, List.getD_cons_succ, hh, Bool.and_eq_true, decide_eq_true_eq]
    exact ⟨hc.1, (ref_node hcn (nd_node c g hc.2.2.2 hs.2 hcn) (by omega)).1⟩
  | .branch cs v, f, hc, hs, _, hd => by
    simp only [itemOf, dep] at hd
    obtain ⟨g, rfl⟩ : ∃ g, f = g + 1 := ⟨f - 1, by omega⟩
    refine ⟨_, rfl, ?_⟩
    have hlen : (((List.finRange 16).map fun i => wrapRef (itemOf (cs i))) ++ [It.s v]).length = 17 := by simp
    rw [nodeN_many hlen]
    have h16 : (((List.finRange 16).map fun i => wrapRef (itemOf (cs i))) ++ [It.s v]).getD 16 (.s []) = .s v := by
      rw [List.getD_eq_getElem?_getD, List.getElem?_append_right (by simp)]
      simp
    have ht : (((List.finRange 16).map fun i => wrapRef (itemOf (cs i))) ++ [It.s v]).take 16 = (List.finRange 16).map fun i => wrapRef (itemOf (cs i)) := List.take_left' (by simp)
    have hk : ∀ i, dep (wrapRef (itemOf (cs i))) ≤ g := fun i => by
      have := dep_mem (xs := ((List.finRange 16).map fun i => wrapRef (itemOf (cs i))) ++ [It.s v]) (x := wrapRef (itemOf (cs i))) (List.mem_append_left _ (List.mem_map.2 ⟨i, List.mem_finRange i, rfl⟩))
      omega
    have href : ∀ i, cs i ≠ .nil → refN g (wrapRef (itemOf (cs i))) = true ∧ isE (wrapRef (itemOf (cs i))) = false := fun i hi => ref_node hi (nd_node (cs i) g (hc.1 i) (hs.2 i) hi) (hk i)
    rw [h16]
    simp only [ht, Bool.and_eq_true, decide_eq_true_eq]
    refine ⟨List.all_eq_true.2 fun x hx => ?_, ?_⟩
    · obtain ⟨i, _, rfl⟩ := List.mem_map.1 hx
      by_cases hi : cs i = .nil
      · rw [hi, wrap_nil]; rfl
      · rw [(href i hi).1, Bool.or_true]
    · rw [List.filter_map, List.length_map]
      have hm : ∀ i, cs i ≠ .nil → i ∈ (List.finRange 16).filter ((fun x => !isE x) ∘ fun i => wrapRef (itemOf (cs i))) := fun i hi => by
        rw [List.mem_filter]
        exact ⟨List.mem_finRange i, by simp only [Function.comp_apply, (href i hi).2, Bool.not_false]⟩
      rcases hc.2 with ⟨hv, i, hi⟩ | ⟨i, j, hij, hi, hj⟩
      · rw [if_neg hv]
        have := List.length_pos_of_mem (hm i hi)
        omega
      · have := two_mem (hm i hi) (hm j hj) hij
        omega
theorem nd_fine {m : Nd} (hc : Canon m) (hs : Small m) : Fine (itemOf m) := by
  have h1 := dep_item hc
  have h2 := bytes_le hs
  have h3 := count_le_enc (itemOf m)
  unfold bytesOf at h2
  exact ⟨by omega, by omega, by omega⟩
theorem nd_check {m : Nd} (hc : Canon m) (hs : Small m) (hne : m ≠ .nil) : dcod (bytesOf m) = .ok (itemOf m) ∧ checkOf (bytesOf m) = 0 := by
  obtain ⟨h1, h2, h3⟩ := nd_fine hc hs
  have hd : dcod (bytesOf m) = .ok (itemOf m) := dcod_enc h1 h2 h3
  refine ⟨hd, ?_⟩
  obtain ⟨xs, he, hn⟩ := nd_node m 17 hc hs hne (by omega)
  unfold checkOf
  rw [hd]
  simp only
  rw [if_pos (by rw [he]; exact hn)]
def HasN (l : List (By × By)) (c : Nd) : Prop := 32 ≤ (bytesOf c).length → ∃ b, (sumOf (bytesOf c), b) ∈ l
def ClN (l : List (By × By)) : Nd → Prop
  | .nil => True
  | .leaf _ _ => True
  | .row _ c => HasN l c ∧ ClN l c
  | .branch cs _ => ∀ i, HasN l (cs i) ∧ ClN l (cs i)
theorem HasN.mono {l l' : List (By × By)} {c : Nd} (h : HasN l c) (hs : ∀ x ∈ l, x ∈ l') : HasN l' c := fun h32 => by
  obtain ⟨b, hb⟩ := h h32
  exact ⟨b, hs _ hb⟩
theorem ClN.mono {l l' : List (By × By)} (hs : ∀ x ∈ l, x ∈ l') : ∀ {m : Nd}, ClN l m → ClN l' m
  | .nil, _ => trivial
  | .leaf _ _, _ => trivial
  | .row _ c, h => ⟨h.1.mono hs, ClN.mono hs h.2⟩
  | .branch cs _, h => fun i => ⟨(h i).1.mono hs, ClN.mono hs (h i).2⟩
def InvN (l : List (By × By)) : Prop := ∀ x ∈ l, ∃ m, x.2 = bytesOf m ∧ x.1 = sumOf x.2 ∧ Canon m ∧ Small m ∧ m ≠ .nil ∧ ClN l m
theorem put_inv {l : List (By × By)} {m : Nd} {top : Bool} (h : InvN l) (hc : Canon m) (hs : Small m) (hne : m ≠ .nil) (hcl : ClN l m) :
    InvN (putNode l top (bytesOf m)) ∧ (∀ x ∈ l, x ∈ putNode l top (bytesOf m)) ∧ ((top = true ∨ 32 ≤ (bytesOf m).length) → ∃ b, (sumOf (bytesOf m), b) ∈ putNode l top (bytesOf m)) := by
  unfold putNode
  by_cases hm : (met l (sumOf (bytesOf m)) || (!top && decide ((bytesOf m).length < 32))) = true
  · rw [if_pos hm]
    refine ⟨h, fun _ h => h, fun ht => ?_⟩
    rw [Bool.or_eq_true] at hm
    rcases hm with hm | hm
    · unfold met at hm
      obtain ⟨x, hx, he⟩ := List.any_eq_true.1 hm
      exact ⟨x.2, by rw [← of_decide_eq_true he]; exact hx⟩
    · rw [Bool.and_eq_true, Bool.not_eq_true', decide_eq_true_eq] at hm
      rcases ht with ht | ht
      · rw [ht] at hm; exact absurd hm.1 (by decide)
      · omega
  · rw [if_neg hm]
    have hsub : ∀ x ∈ l, x ∈ l ++ [(sumOf (bytesOf m), bytesOf m)] := fun x hx => List.mem_append_left _ hx
    refine ⟨fun x hx => ?_, hsub, fun _ => ⟨_, List.mem_append_right _ (List.mem_singleton.2 rfl)⟩⟩
    rcases List.mem_append.1 hx with hx | hx
    · obtain ⟨m', h1, h2, h3, h4, h5, h6⟩ := h x hx
      exact ⟨m', h1, h2, h3, h4, h5, h6.mono hsub⟩
    · obtain rfl := List.mem_singleton.1 hx
      exact ⟨m, rfl, rfl, hc, hs, hne, hcl.mono hsub⟩
theorem visit_inv : ∀ (m : Nd) (top : Bool) (l : List (By × By)), Canon m → Small m → InvN l →
    InvN (visitN m top l) ∧ (∀ x ∈ l, x ∈ visitN m top l) ∧ ClN (visitN m top l) m ∧ (m ≠ .nil → (top = true ∨ 32 ≤ (bytesOf m).length) → ∃ b, (sumOf (bytesOf m), b) ∈ visitN m top l)
  | .nil, top, l, _, _, h => ⟨h, fun _ h => h, trivial, fun h => (h rfl).elim⟩
  | .leaf p v, top, l, hc, hs, h => by
    obtain ⟨h1, h2, h3⟩ := put_inv (top := top) h hc hs (by simp) trivial
    exact ⟨h1, h2, trivial, fun _ => h3⟩
  | .row p c, top, l, hc, hs, h => by
    have hcn : c ≠ .nil := by rintro rfl; exact hc.2.2.1
    obtain ⟨a1, a2, a3, a4⟩ := visit_inv c false l hc.2.2.2 hs.2 h
    have hcl : ClN (visitN c false l) (.row p c) := ⟨fun h32 => a4 hcn (.inr h32), a3⟩
    obtain ⟨h1, h2, h3⟩ := put_inv (top := top) a1 hc hs (by simp) hcl
    exact ⟨h1, fun x hx => h2 x (a2 x hx), hcl.mono h2, fun _ => h3⟩
  | .branch cs v, top, l, hc, hs, h => by
    have key : ∀ (is : List (Fin 16)) (o : List (By × By)), InvN o → InvN (is.foldl (fun o i => visitN (cs i) false o) o) ∧ (∀ x ∈ o, x ∈ is.foldl (fun o i => visitN (cs i) false o) o) ∧ ∀ i ∈ is, HasN (is.foldl (fun o i => visitN (cs i) false o) o) (cs i) ∧ ClN (is.foldl (fun o i => visitN (cs i) false o) o) (cs i) := by
      intro is
      induction is with
      | nil => exact fun o ho => ⟨ho, fun _ h => h, fun i hi => by cases hi⟩
      | cons i r ih =>
        intro o ho
        obtain ⟨a1, a2, a3, a4⟩ := visit_inv (cs i) false o (hc.1 i) (hs.2 i) ho
        obtain ⟨b1, b2, b3⟩ := ih _ a1
        simp only [List.foldl_cons]
        refine ⟨b1, fun x hx => b2 x (a2 x hx), fun j hj => ?_⟩
        rcases List.mem_cons.1 hj with rfl | hj
        · refine ⟨?_, a3.mono b2⟩
          intro h32
          have hn : cs j ≠ .nil := by
            intro e
            rw [e] at h32
            have : (bytesOf .nil).length = 1 := by kernel_rfl
            omega
          obtain ⟨b, hb⟩ := a4 hn (.inr h32)
          exact ⟨b, b2 _ hb⟩
        · exact b3 j hj
    obtain ⟨a1, a2, a3⟩ := key (List.finRange 16) l h
    have hcl : ClN ((List.finRange 16).foldl (fun o i => visitN (cs i) false o) l) (.branch cs v) := fun i => a3 i (List.mem_finRange i)
    obtain ⟨h1, h2, h3⟩ := put_inv (top := top) a1 hc hs (by simp) hcl
    exact ⟨h1, fun x hx => h2 x (a2 x hx), hcl.mono h2, fun _ => h3⟩
theorem findN_mem : ∀ {l : List (By × By)} {h b : By}, findN l h = some b → (h, b) ∈ l
  | [], h, b, e => by simp [findN] at e
  | x :: r, h, b, e => by
    simp only [findN] at e
    split at e
    · rename_i hx
      cases e
      rw [← hx]
      exact List.mem_cons_self
    · exact List.mem_cons_of_mem _ (findN_mem e)
theorem findN_some : ∀ {l : List (By × By)} {h b : By}, (h, b) ∈ l → ∃ b', findN l h = some b'
  | x :: r, h, b, e => by
    simp only [findN]
    by_cases hx : x.1 = h
    · exact ⟨x.2, if_pos hx⟩
    · rw [if_neg hx]
      rcases List.mem_cons.1 e with e | e
      · exact (hx (by rw [← e])).elim
      · exact findN_some e
inductive OkI (l : List (By × By)) : It → Prop
  | nil : OkI l (.s [])
  | hash {h b : By} (h32 : h.length = 32) (hf : findN l h = some b) : OkI l (.s h)
  | node {xs : List It} (hg : Good (.l xs)) (h2 : xs.length = 2 → ∀ p, headIs (xs.getD 0 (.s [])) = some (p, false) → OkI l (xs.getD 1 (.s []))) (h17 : xs.length ≠ 2 → ∀ j, j < 16 → OkI l (xs.getD j (.s []))) : OkI l (.l xs)
theorem ok_item {l : List (By × By)} : ∀ (m : Nd), Canon m → Small m → m ≠ .nil → ClN l m → ∃ xs, itemOf m = .l xs ∧ OkI l (.l xs)
  | .nil, _, _, h, _ => (h rfl).elim
  | .leaf p v, hc, hs, hne, _ => by
    obtain ⟨xs, he, hn⟩ := nd_node _ 17 hc hs hne (by have := dep_item hc; omega)
    have hg : Good (.l xs) := .inr (.inr ⟨xs, 17, rfl, hn, by rw [← he]; exact nd_fine hc hs⟩)
    refine ⟨xs, he, .node hg (fun _ q hq => ?_) (fun h => ?_)⟩
    · simp only [itemOf] at he
      cases he
      have hh := head_packed true hc.1 hs.1
      rw [List.getD_cons_zero, hh] at hq
      cases hq
    · simp only [itemOf] at he
      cases he
      exact (h rfl).elim
  | .row p c, hc, hs, hne, hcl => by
    obtain ⟨xs, he, hn⟩ := nd_node _ 17 hc hs hne (by have := dep_item hc; omega)
    have hg : Good (.l xs) := .inr (.inr ⟨xs, 17, rfl, hn, by rw [← he]; exact nd_fine hc hs⟩)
    have hcn : c ≠ .nil := by rintro rfl; exact hc.2.2.1
    obtain ⟨ys, hy, hoy⟩ := ok_item c hc.2.2.2 hs.2 hcn hcl.2
    refine ⟨xs, he, .node hg (fun _ q hq => ?_) (fun h => ?_)⟩
    · simp only [itemOf] at he
      cases he
      rw [List.getD_cons_succ, List.getD_cons_zero]
      unfold wrapRef
      split
      · rename_i h32
        obtain ⟨b, hb⟩ := hcl.1 h32
        obtain ⟨b', hb'⟩ := findN_some hb
        exact .hash (length_sumOf _) hb'
      · rw [hy]; exact hoy
    · simp only [itemOf] at he
      cases he
      exact (h rfl).elim
  | .branch cs v, hc, hs, hne, hcl => by
    obtain ⟨xs, he, hn⟩ := nd_node _ 17 hc hs hne (by have := dep_item hc; omega)
    have hg : Good (.l xs) := .inr (.inr ⟨xs, 17, rfl, hn, by rw [← he]; exact nd_fine hc hs⟩)
    have ih : ∀ i, cs i ≠ .nil → ∃ ys, itemOf (cs i) = .l ys ∧ OkI l (.l ys) := fun i hi => ok_item (cs i) (hc.1 i) (hs.2 i) hi (hcl i).2
    refine ⟨xs, he, .node hg (fun h => ?_) (fun _ j hj => ?_)⟩
    · simp only [itemOf] at he
      cases he
      simp at h
    · simp only [itemOf] at he
      cases he
      have hget : (((List.finRange 16).map fun i => wrapRef (itemOf (cs i))) ++ [It.s v]).getD j (.s []) = wrapRef (itemOf (cs ⟨j, hj⟩)) := by
        rw [List.getD_eq_getElem?_getD, List.getElem?_append_left (by simp; exact hj), List.getElem?_map]
        have : (List.finRange 16)[j]? = some ⟨j, hj⟩ := by
          rw [List.getElem?_eq_getElem (by simp; exact hj)]; simp
        rw [this]; rfl
      rw [hget]
      by_cases hi : cs ⟨j, hj⟩ = .nil
      · rw [hi, wrap_nil]; exact .nil
      · obtain ⟨ys, hy, hoy⟩ := ih _ hi
        unfold wrapRef
        split
        · rename_i h32
          obtain ⟨b, hb⟩ := (hcl ⟨j, hj⟩).1 h32
          obtain ⟨b', hb'⟩ := findN_some hb
          exact .hash (length_sumOf _) hb'
        · rw [hy]; exact hoy
def ClosedL (l : List (By × By)) : Prop := ∀ h b, findN l h = some b → checkOf b = 0 ∧ ∃ xs, dcod b = .ok (.l xs) ∧ OkI l (.l xs)
theorem InvN.closed {l : List (By × By)} (h : InvN l) : ClosedL l := fun q b hf => by
  obtain ⟨m, h1, _, hc, hs, hne, hcl⟩ := h _ (findN_mem hf)
  simp only at h1
  obtain ⟨xs, he, ho⟩ := ok_item m hc hs hne hcl
  obtain ⟨hd, hk⟩ := nd_check hc hs hne
  rw [h1]
  exact ⟨hk, xs, by rw [hd, he], ho⟩
theorem OkI.good {l : List (By × By)} {xs : List It} (h : OkI l (.l xs)) : Good (.l xs) := by
  cases h with
  | node hg _ _ => exact hg
theorem way_ok {l : List (By × By)} (hl : ClosedL l) : ∀ (k : Nat) (path : By), path.length ≤ k → (∀ n ∈ path, n.toNat < 16) →
    (∀ s xs, OkI l (.l xs) → ∃ r v, nodeW (way (pStep l)) s xs path = (s ++ r, .ok v) ∧ r.length ≤ path.length ∧ ∀ b ∈ r, ∃ h, (h, b) ∈ l) ∧ (∀ s x, OkI l x → ∃ r v, way (pStep l) s x path = (s ++ r, .ok v) ∧ r.length ≤ path.length + 1 ∧ ∀ b ∈ r, ∃ h, (h, b) ∈ l)
  | k, path, hk, hn => by
    have hnode : ∀ s xs, OkI l (.l xs) → ∃ r v, nodeW (way (pStep l)) s xs path = (s ++ r, .ok v) ∧ r.length ≤ path.length ∧ ∀ b ∈ r, ∃ h, (h, b) ∈ l := by
      intro s xs ho
      cases ho with
      | node hg h2 h17 =>
        by_cases hx : xs.length = 2
        · obtain ⟨p, lf, he, hv, hp⟩ := hg.two hx
          cases lf with
          | true => exact ⟨[], _, by rw [node_leaf hx he, List.append_nil], Nat.zero_le _, fun b hb => by cases hb⟩
          | false =>
            obtain ⟨hpn, _, _⟩ := hp rfl
            rw [node_row hx he]
            by_cases hpre : p.isPrefixOf path = true
            · rw [if_pos hpre]
              have hpl : 0 < p.length := List.length_pos_iff.2 hpn
              have hle : p.length ≤ path.length := (List.isPrefixOf_iff_prefix.1 hpre).length_le
              have hkd : 0 < k := by omega
              obtain ⟨k', rfl⟩ : ∃ k', k = k' + 1 := ⟨k - 1, by omega⟩
              obtain ⟨r, v, e1, e2, e3⟩ := (way_ok hl k' (path.drop p.length) (by rw [List.length_drop]; omega) (fun n hm => hn n (List.mem_of_mem_drop hm))).2 s _ (h2 hx p he)
              rw [List.length_drop] at e2
              exact ⟨r, v, e1, by omega, e3⟩
            · rw [if_neg hpre]
              exact ⟨[], _, by rw [List.append_nil], Nat.zero_le _, fun b hb => by cases hb⟩
        · cases path with
          | nil => exact ⟨[], _, by rw [node_end hx, List.append_nil], Nat.zero_le _, fun b hb => by cases hb⟩
          | cons n r =>
            rw [node_kid hx]
            obtain ⟨k', rfl⟩ : ∃ k', k = k' + 1 := ⟨k - 1, by simp only [List.length_cons] at hk; omega⟩
            obtain ⟨r2, v, e1, e2, e3⟩ := (way_ok hl k' r (by simp only [List.length_cons] at hk; omega) (fun m hm => hn m (List.mem_cons_of_mem _ hm))).2 s _ (h17 hx n.toNat (hn n List.mem_cons_self))
            exact ⟨r2, v, e1, by simp only [List.length_cons]; omega, e3⟩
    refine ⟨hnode, fun s x ho => ?_⟩
    cases ho with
    | nil => exact ⟨[], [], by rw [way_nil, List.append_nil], Nat.zero_le _, fun b hb => by cases hb⟩
    | hash h32 hf =>
      rename_i h b
      obtain ⟨hk0, xs, hd, hox⟩ := hl _ _ hf
      have hhn : h ≠ [] := by rintro rfl; cases h32
      have hst : pStep l s h = (s ++ [b], .ok b) := by unfold pStep; rw [hf]
      rw [way_hash hhn hst hk0 hd hox.good hn]
      obtain ⟨r, v, hr, e2, e3⟩ := hnode (s ++ [b]) xs hox
      refine ⟨[b] ++ r, v, by rw [hr, List.append_assoc], by simp; omega, fun x hx => ?_⟩
      rcases List.mem_append.1 hx with hx | hx
      · obtain rfl := List.mem_singleton.1 hx
        exact ⟨_, findN_mem hf⟩
      · exact e3 x hx
    | node hg h2 h17 =>
      rw [way_list hg hn]
      obtain ⟨r, v, e1, e2, e3⟩ := hnode s _ (.node hg h2 h17)
      exact ⟨r, v, e1, by omega, e3⟩
theorem root_nil : rootOf .nil = emptyH := by
  have : bytesOf .nil = [128] := by kernel_rfl
  unfold rootOf emptyH
  rw [this]
theorem foreign {n : Nd} {key s : By} (hc : Canon n) (hs : Small n) (hl : (nodesOf n).length ≤ 4096) (hk : key.length ≤ 64) (h32 : s.length = 32) :
    ∃ p, proveR (nodesOf n) (rootOf n) key = .ok p ∧ p.length ≤ 200 ∧ (∀ b ∈ p, ∃ h, (h, b) ∈ nodesOf n) ∧ (rootOf n ≠ s → ∃ er, verifyR p s key = .error er) := by
  have hsn : s ≠ [] := by rintro rfl; cases h32
  rw [proveR_way (by omega) (by omega)]
  by_cases he : rootOf n = emptyH
  · have hr : rootIt (rootOf n) = .s [] := if_pos he
    rw [hr, way_nil]
    refine ⟨[], rfl, Nat.zero_le _, (fun b hb => by cases hb), fun hne => ?_⟩
    have hr2 : rootIt s = .s s := if_neg (fun e => hne (he.trans e.symm))
    rw [verifyR_way (by simp) (by omega), hr2, way_bad hsn (show vStep [] 0 s = (0, .error 160) from rfl)]
    exact ⟨160, rfl⟩
  · have hr : rootIt (rootOf n) = .s (rootOf n) := if_neg he
    have hnn : n ≠ .nil := by rintro rfl; exact he root_nil
    obtain ⟨h1, _, _, h4⟩ := visit_inv n true [] hc hs (fun x hx => by cases hx)
    have h1' : InvN (nodesOf n) := h1
    obtain ⟨b0, hb0⟩ := h4 hnn (.inl rfl)
    obtain ⟨b, hb⟩ := findN_some (l := nodesOf n) hb0
    obtain ⟨m, _, hsum, _⟩ := h1' _ (findN_mem hb)
    simp only at hsum
    have hcl := h1'.closed
    obtain ⟨hk0, xs, hd, hox⟩ := hcl _ _ hb
    have h32' : (rootOf n).length = 32 := length_sumOf _
    have hrn : rootOf n ≠ [] := by intro e; rw [e] at h32'; cases h32'
    have hst : pStep (nodesOf n) [] (rootOf n) = ([b], .ok b) := by
      unfold pStep
      have hb' : findN (nodesOf n) (rootOf n) = some b := hb
      rw [hb']; rfl
    have hnl := nibbles_len key
    obtain ⟨r, v, hw, e2, e3⟩ := (way_ok hcl _ (nibbles key) (Nat.le_refl _) (nib_lt key)).1 [b] xs hox
    rw [hr, way_hash hrn hst hk0 hd hox.good (nib_lt key), hw]
    refine ⟨[b] ++ r, rfl, by simp; omega, fun x hx => ?_, fun hne => ?_⟩
    · rcases List.mem_append.1 hx with hx | hx
      · obtain rfl := List.mem_singleton.1 hx
        exact ⟨_, findN_mem hb⟩
      · exact e3 x hx
    by_cases h256 : ([b] ++ r).length > 256
    · exact ⟨162, by unfold verifyR; rw [if_pos h256]⟩
    · rw [verifyR_way h256 (by omega)]
      by_cases hse : s = emptyH
      · have hr2 : rootIt s = .s [] := if_pos hse
        rw [hr2, way_nil]
        exact ⟨162, rfl⟩
      · have hr2 : rootIt s = .s s := if_neg hse
        have hst2 : vStep ([b] ++ r) 0 s = (1, .error 163) := by
          unfold vStep
          simp only [List.singleton_append, List.getElem?_cons_zero]
          rw [if_neg]
          intro e
          exact hne (hsum.trans e)
        rw [hr2, way_bad hsn hst2]
        exact ⟨163, rfl⟩
end Go.Proofs.Ytfghidehlnfdiaa
end
section
namespace Go.Proofs.Ytfghidehlnfdiaa
open Go Go.Vcg Go.Trie
theorem VerifyIs.error {p : List By} {root key : By} {er : Int} {w w' : World} {e : Ending} (h : VerifyIs p root key w e w') (hr : verifyR p root key = .error er) : Vcg.Mod NoB w w' ∧ er ≠ 0 ∧ e = .returned (.tuple #[.slice none 0 0, .bool false, .int .i64 er]) := by
  obtain ⟨h1, h2⟩ := h
  rw [hr] at h2
  exact ⟨h1, h2⟩
theorem Foreign_calls (w : World) {o o1 o2 : Option Addr} {k k1 k2 : Nat} {a b : List (By × By)} {key : By} (ha : StR w o a) (hb : StR w o1 b) (hkey : RdB w o2 key) :
    Calls Try.prog morainelaw16_ProofForeign.n #[.slice o a.length k, .slice o1 b.length k1, .slice o2 key.length k2] w (fun e w' => e = .returned (.bool true) ∧ Vcg.Mod NoB w w') := by
  refine morainelaw16_ProofForeign.vc _ _ _ _ _ _ _ _ _ _ _ ?_
  unfold morainelaw16_ProofForeign.Vc
  refine (known16_calls w).mono ?_
  rintro _ w1 ⟨rfl, M1⟩
  refine ⟨_, rfl, fun h => (by cases h), fun _ => ?_⟩
  refine (few16_calls (k := k) (ha.mod' M1)).mono ?_
  rintro _ w2 ⟨bf, rfl, hfew, M12⟩
  have M2 := M1.none_trans M12
  refine ⟨_, rfl, fun _ => ⟨rfl, M2⟩, fun hbf => ?_⟩
  refine (few16_calls (k := k1) (hb.mod' M2)).mono ?_
  rintro _ w3 ⟨bf2, rfl, hfew2, M23⟩
  have M3 := M2.none_trans M23
  refine ⟨_, rfl, fun _ => ⟨rfl, M3⟩, fun hbf2 => ⟨fun _ => ⟨rfl, M3⟩, fun hkl => ?_⟩⟩
  have hf := hfew hbf
  have hf2 := hfew2 hbf2
  obtain ⟨n, q1, q2, q3, q4⟩ := hf.trie
  obtain ⟨m, r1, r2, r3, r4⟩ := hf2.trie
  have hnl := nodes_len n
  have hnl2 := nodes_len m
  refine (Of_calls (k := k) (ha.mod' M3).kv hf.kv q1 q2 q3 (by omega) 0).mono ?_
  rintro _ w4 ⟨o4, k4, rfl, M34, N4⟩
  have M4 := M3.none_trans M34
  refine ⟨_, _, _, _, rfl, ?_⟩
  rintro d w5 ⟨rfl, rfl⟩
  have H5 := Blk.new w4 26 (Array.replicate 32 (.int .u8 0))
  obtain ⟨g1, g2, g3⟩ := hash_store H5 (by simp) (rootOf n)
  have M45 := mod_of (Mod.alloc w4 (.cells (Array.replicate 32 (.int .u8 0)) 26)) g3 (Nat.le_refl _)
  refine ⟨_, g1, ?_⟩
  have M5 := M4.none_trans M45
  have N5 : NdRow _ (fun _ => 0) 0 (nodesOf n) o4 (nodesOf n).length := (N4.stp (S := NoS) (Stp.of_nob M45 0) (fun h => h)).re (lab' := fun _ => 0) (c' := 0) (fun _ _ _ => rfl)
  generalize w4.heap.size = D at *
  generalize ((w4.alloc (.cells (Array.replicate 32 (.int .u8 0)) 26)).setRow D (hashA (rootOf n))) = w5 at *
  refine (Of_calls (k := k1) (hb.mod' M5).kv hf2.kv r1 r2 r3 (by omega) 0).mono ?_
  rintro _ w6 ⟨o6, k6, rfl, M56, _⟩
  have M6 := M5.none_trans M56
  have N6 : NdRow _ (fun _ => 0) 0 (nodesOf n) o4 (nodesOf n).length := (N5.stp (S := NoS) (Stp.of_nob M56 0) (fun h => h)).re (lab' := fun _ => 0) (c' := 0) (fun _ _ _ => rfl)
  have G6 := g2.mod' M56
  refine ⟨_, _, _, _, rfl, ?_⟩
  rintro d w7 ⟨rfl, rfl⟩
  have H7 := Blk.new w6 26 (Array.replicate 32 (.int .u8 0))
  obtain ⟨f1, f2, f3⟩ := hash_store H7 (by simp) (rootOf m)
  have M67 := mod_of (Mod.alloc w6 (.cells (Array.replicate 32 (.int .u8 0)) 26)) f3 (Nat.le_refl _)
  refine ⟨_, f1, ?_⟩
  rintro _ rfl
  have M68 := M67.step_drew
  have M8 := M6.none_trans M68
  have N8 : NdRow _ (fun _ => 0) 0 (nodesOf n) o4 (nodesOf n).length := (N6.stp (S := NoS) (Stp.of_nob M68 0) (fun h => h)).re (lab' := fun _ => 0) (c' := 0) (fun _ _ _ => rfl)
  have G8 := G6.mod' M68
  have F8 := f2.drew
  generalize w6.heap.size = E at *
  generalize ((w6.alloc (.cells (Array.replicate 32 (.int .u8 0)) 26)).setRow E (hashA (rootOf m))).drew = w8 at *
  refine ⟨_, G8.rowAll (size_hashA _), ?_⟩
  refine (rNodes_calls (k := k4) N8 (nodes_bytes q3) (by omega) 0).mono ?_
  rintro _ w9 ⟨o9, k9, rfl, _, M89, N9⟩
  have M9 := M8.none_trans M89
  have G9 := G8.mod' M89
  have F9 := F8.mod' M89
  refine ⟨_, _, _, rfl, G9.rowAll (size_hashA _), ?_⟩
  obtain ⟨p, hp, hp200, hpm, hfor⟩ := foreign (key := key) (s := rootOf m) q2 q3 (by omega) (by omega) (length_sumOf _)
  refine (Prove_calls (root := rootOf n) (k := k9) (kk := k2) N9 (by omega) (fun x hx => by have := nodes_bytes q3 x hx; omega) (length_sumOf _) (hkey.mod' M9)).mono ?_
  intro e10 w10 hp10
  obtain ⟨M910, o10, n10, k10, rfl, labp, c, cb, hO⟩ := hp10.ok hp
  have M10 := M9.none_trans M910
  have G10 := G9.mod' M910
  have F10 := F9.mod' M910
  refine ⟨_, _, _, _, rfl, fun h => (h rfl).elim, fun _ => ⟨_, G10.rowAll (size_hashA _), _, F10.rowAll (size_hashA _), _, hash_eq _ _ (length_sumOf _) (length_sumOf _), _, rfl, fun _ => ⟨rfl, M10⟩, fun hne => ?_⟩⟩
  have hne' := of_decide_eq_false hne
  obtain ⟨er, hver⟩ := hfor hne'
  refine ⟨_, F10.rowAll (size_hashA _), ?_⟩
  obtain ⟨rfl, hL⟩ := hO.any (Mod.refl w10)
  refine (Verify_calls (root := rootOf m) (k := k10) (kk := k2) hL (by omega) (fun x hx => ?_) (length_sumOf _) (hkey.mod' M10)).mono ?_
  · obtain ⟨h, hh⟩ := hpm x hx
    have := nodes_bytes q3 _ hh
    dsimp only at this
    omega
  intro e11 w11 hv
  obtain ⟨M11, her, rfl⟩ := hv.error hver
  exact ⟨_, _, _, _, _, rfl, by rw [decide_eq_false her]; rfl, M10.none_trans M11⟩
end Go.Proofs.Ytfghidehlnfdiaa
end
section
namespace Go.Vcg
open Go

theorem mapM_get {α β : Type} {f : α → Option β} : ∀ {l : List α} {ys : List β}, l.mapM f = some ys → ys.length = l.length ∧ ∀ (i : Nat) (x : α), l[i]? = some x → ∃ y, ys[i]? = some y ∧ f x = some y
  | [], ys, h => by
    rw [List.mapM_nil] at h
    cases h
    exact ⟨rfl, fun i x hx => by simp at hx⟩
  | a :: l, ys, h => by
    rw [List.mapM_cons] at h
    cases ha : f a with
    | none => simp [ha] at h
    | some b =>
      cases hl : l.mapM f with
      | none => simp [ha, hl] at h
      | some bs =>
        simp [ha, hl] at h
        subst h
        obtain ⟨h1, h2⟩ := mapM_get hl
        refine ⟨by simp [h1], fun i x hx => ?_⟩
        cases i with
        | zero => simp at hx; subst hx; exact ⟨b, rfl, ha⟩
        | succ i => simp at hx; exact h2 i x hx
section
variable {H : Type} {enc : TypeId × Value → H} {P : Program} {W : World} {sp : Nat → Bool} {held : Bool} {base : Nat}

theorem trod_slice2 {fuel : Nat} {t e : TypeId} {v : Value} {d : DataW H} {ps : List MemPlace} (ht : P.underlying t = some (.slice e)) (hce : P.cellsOf e = 1)
    (h : DataW.trod enc P W base sp held fuel t [v] = some (d, ps)) :
    ∃ o l c, v = .slice o l c ∧ l ≤ c ∧ c ≤ maxLen ∧ ((l = 0 ∧ d = .nil) ∨ ∃ elems spare, d = .slice elems spare ∧ elems.length = l ∧
      ∀ i, i < l → ∃ b f u d' ps' fuel', o = some ⟨b, f, none⟩ ∧ b < W.heap.size ∧ W.cell? ⟨b, f + i, none⟩ = some u ∧ DataW.trod enc P W base sp held fuel' e [u] = some (d', ps') ∧ elems[i]? = some d') := by
  obtain ⟨o, l, c, rfl, hlc, hcm, hall⟩ := trod_slice ht hce h
  refine ⟨o, l, c, rfl, hlc, hcm, ?_⟩
  cases fuel with
  | zero => simp [DataW.trod] at h
  | succ fuel =>
    cases o with
    | none =>
      left
      have : l = 0 ∧ c = 0 := by
        rcases l with _ | l <;> rcases c with _ | c <;> simp [DataW.trod, ht] at h ⊢
      obtain ⟨rfl, rfl⟩ := this
      simp [DataW.trod, ht] at h
      exact ⟨rfl, h.1.symm⟩
    | some a =>
      right
      simp only [DataW.trod, ht, hce, Nat.mul_one] at h
      split at h
      · obtain ⟨els, hm, h2⟩ := Option.bind_eq_some_iff.1 h
        obtain ⟨rest, _, h3⟩ := Option.map_eq_some_iff.1 h2
        cases h3
        obtain ⟨hl, hg⟩ := mapM_get hm
        rw [List.length_range] at hl
        refine ⟨_, _, rfl, by simp [hl], fun i hi => ?_⟩
        obtain ⟨b, f, u, d', ps', fuel', ho, hb, hu, hd⟩ := hall i hi
        cases ho
        obtain ⟨y, hy, hfy⟩ := hg i i (by rw [List.getElem?_range hi])
        obtain ⟨vs, hv, hd2⟩ := Option.bind_eq_some_iff.1 hfy
        obtain ⟨u2, rfl, hu2⟩ := cells1_some hv
        rw [add_at, hu] at hu2
        cases hu2
        exact ⟨b, f, u, y.1, y.2, fuel, rfl, hb, hu, hd2, by rw [List.getElem?_map, hy]; rfl⟩
      · cases h

theorem weights_slice {t e : TypeId} {elems spare : List (DataW H)} {n0 : Nat} (ht : P.underlying t = some (.slice e)) (h : ((DataW.slice elems spare).weights P t).all (· ≤ n0) = true) :
    elems.length * P.bytesOf e ≤ n0 ∧ ∀ d ∈ elems, (d.weights P e).all (· ≤ n0) = true := by
  simp only [DataW.weights, ht, List.all_cons, Bool.and_eq_true, List.all_append] at h
  refine ⟨?_, fun d hd => ?_⟩
  · have h1 : (elems.length + spare.length) * P.bytesOf e ≤ n0 := of_decide_eq_true h.1
    exact Nat.le_trans (Nat.mul_le_mul_right _ (Nat.le_add_right _ _)) h1
  · have h2 := h.2.1
    clear h
    induction elems with
    | nil => cases hd
    | cons x r ih =>
      simp only [DataW.weightsAll, List.all_append, Bool.and_eq_true] at h2
      rcases List.mem_cons.1 hd with rfl | hd
      · exact h2.1
      · exact ih hd h2.2

theorem trod_bytes2 {fuel : Nat} {t e : TypeId} {v : Value} {d : DataW H} {ps : List MemPlace} (ht : P.underlying t = some (.slice e)) (he : P.underlying e = some (.int .u8)) (hce : P.cellsOf e = 1)
    (h : DataW.trod enc P W base sp held fuel t [v] = some (d, ps)) : ∃ o c bs, v = .slice o bs.length c ∧ bs.length ≤ c ∧ c ≤ maxLen ∧ RdB W o bs ∧ ∀ n0, (d.weights P t).all (· ≤ n0) = true → bs.length * P.bytesOf e ≤ n0 := by
  obtain ⟨o, c, bs, rfl, h1, h2, h3⟩ := trod_bytes ht he hce h
  refine ⟨o, c, bs, rfl, h1, h2, h3, fun n0 hw => ?_⟩
  obtain ⟨o', l', c', hv, _, _, h4⟩ := trod_slice2 ht hce h
  cases hv
  rcases h4 with ⟨h5, _⟩ | ⟨elems, spare, rfl, h5, _⟩
  · rw [h5]; simp
  · rw [← h5]; exact (weights_slice ht hw).1
end
theorem weights_each {H : Type} {P : Program} {n0 : Nat} : ∀ {ts : List TypeId} {ds : List (DataW H)}, (DataW.weightsEach P ts ds).all (· ≤ n0) = true → ∀ (j : Nat) (t : TypeId) (d : DataW H), ts[j]? = some t → ds[j]? = some d → (d.weights P t).all (· ≤ n0) = true
  | t0 :: ts, d0 :: ds, h, 0, t, d, ht, hd => by
    simp at ht hd
    subst ht hd
    simp only [DataW.weightsEach, List.all_append, Bool.and_eq_true] at h
    exact h.1
  | t0 :: ts, d0 :: ds, h, j + 1, t, d, ht, hd => by
    simp only [DataW.weightsEach, List.all_append, Bool.and_eq_true] at h
    exact weights_each h.2 j t d (by simpa using ht) (by simpa using hd)
  | [], _, _, _, _, _, ht, _ => by simp at ht
  | _ :: _, [], _, _, _, _, _, hd => by simp at hd
end Go.Vcg
end
section
namespace Go.Vcg
section
variable {H : Type} {enc : TypeId × Value → H} {P : Program} {W : World} {sp : Nat → Bool} {held : Bool} {base : Nat}
theorem cells_some {a : Addr} {n : Nat} {vs : List Value} (h : W.cells? base a n = some vs) : vs.length = n ∧ ∀ j u, vs[j]? = some u → W.cell? (a.add j) = some u := by
  unfold World.cells? at h
  split at h
  · obtain ⟨hl, hg⟩ := mapM_get h
    rw [List.length_range] at hl
    refine ⟨hl, fun j u hu => ?_⟩
    have hj : j < n := by rw [← hl]; exact (List.getElem?_eq_some_iff.1 hu).1
    obtain ⟨y, hy, hc⟩ := hg j j (by rw [List.getElem?_range hj])
    rw [hy] at hu
    cases hu
    exact hc
  · cases h
theorem cell_spot {a : Addr} {u : Value} (h : W.cell? a = some u) : a.spot = none ∧ a.block < W.heap.size := by
  unfold World.cell? at h
  cases hs : a.spot with
  | none =>
    rw [hs] at h
    refine ⟨rfl, ?_⟩
    split at h
    · rename_i hb; exact (Array.getElem?_eq_some_iff.1 hb).1
    · cases h
  | some x =>
    rw [hs] at h
    split at h <;> simp at h
theorem trod_slice_el {fuel : Nat} {t e : TypeId} {v : Value} {d : DataW H} {ps : List MemPlace} {n : Nat} (ht : P.underlying t = some (.slice e)) (hce : P.cellsOf e = n) (hn : 0 < n)
    (h : DataW.trod enc P W base sp held fuel t [v] = some (d, ps)) :
    ∃ o l c, v = .slice o l c ∧ l ≤ c ∧ ((l = 0 ∧ d = .nil) ∨ ∃ elems spare, d = .slice elems spare ∧ elems.length = l ∧ ∀ i, i < l → ∃ b f us d' ps' fuel', o = some ⟨b, f, none⟩ ∧ b < W.heap.size ∧ us.length = n ∧ (∀ j u, us[j]? = some u → W.cell? ⟨b, f + i * n + j, none⟩ = some u) ∧ DataW.trod enc P W base sp held fuel' e us = some (d', ps') ∧ elems[i]? = some d') := by
  cases fuel with
  | zero => simp [DataW.trod] at h
  | succ fuel =>
    cases v with
    | slice o l c =>
      cases o with
      | none =>
        have : l = 0 ∧ c = 0 := by
          rcases l with _ | l <;> rcases c with _ | c <;> simp [DataW.trod, ht] at h ⊢
        obtain ⟨rfl, rfl⟩ := this
        simp [DataW.trod, ht] at h
        exact ⟨none, 0, 0, rfl, Nat.le_refl _, .inl ⟨rfl, h.1.symm⟩⟩
      | some a =>
        simp only [DataW.trod, ht, hce] at h
        split at h
        · rename_i hb0
          obtain ⟨els, hm, h2⟩ := Option.bind_eq_some_iff.1 h
          obtain ⟨rest, _, h3⟩ := Option.map_eq_some_iff.1 h2
          cases h3
          obtain ⟨hl, hg⟩ := mapM_get hm
          rw [List.length_range] at hl
          refine ⟨some a, l, c, rfl, hb0.2.1, .inr ⟨_, _, rfl, by simp [hl], fun i hi => ?_⟩⟩
          obtain ⟨y, hy1, hy⟩ := hg i i (by rw [List.getElem?_range hi])
          obtain ⟨vs, hv, hd⟩ := Option.bind_eq_some_iff.1 hy
          obtain ⟨hlv, hgv⟩ := cells_some hv
          obtain ⟨y0, _, hy0⟩ := hg 0 0 (by rw [List.getElem?_range (by omega)])
          obtain ⟨vs0, hv0, _⟩ := Option.bind_eq_some_iff.1 hy0
          obtain ⟨hl0, hg0⟩ := cells_some hv0
          obtain ⟨u, hu⟩ : ∃ u, vs0[0]? = some u := ⟨vs0[0]'(by omega), List.getElem?_eq_getElem (by omega)⟩
          obtain ⟨hs, hb⟩ := cell_spot (hg0 0 u hu)
          obtain ⟨b, f, spot⟩ := a
          have hs' : spot = none := by simpa [Addr.add] using hs
          have hb' : b < W.heap.size := by simpa [Addr.add] using hb
          subst hs'
          refine ⟨b, f, vs, y.1, y.2, fuel, rfl, hb', hlv, fun j u hu => ?_, hd, by rw [List.getElem?_map, hy1]; rfl⟩
          have := hgv j u hu
          rw [add_at, add_at] at this
          exact this
        · cases h
    | _ => simp [DataW.trod, ht] at h
theorem trod_parts {fuel : Nat} {t : TypeId} {fs : Array Field} {us : List Value} {d : DataW H} {ps : List MemPlace} (ht : P.underlying t = some (.struct fs)) (h : DataW.trod enc P W base sp held fuel t us = some (d, ps)) :
    us.length = P.cellsOf t ∧ ∃ parts, d = .agg parts ∧ ∀ (k : Nat) (f : Field), fs[k]? = some f → ∃ fuel' d' ps', DataW.trod enc P W base sp held fuel' f.type ((us.drop f.offset).take (P.cellsOf f.type)) = some (d', ps') ∧ parts[k]? = some d' := by
  cases fuel with
  | zero => simp [DataW.trod] at h
  | succ fuel =>
    simp only [DataW.trod, ht] at h
    split at h
    · rename_i hl
      obtain ⟨xs, hm, he⟩ := Option.map_eq_some_iff.1 h
      cases he
      refine ⟨hl, _, rfl, fun k f hf => ?_⟩
      obtain ⟨_, hg⟩ := mapM_get hm
      obtain ⟨y, hy1, hy⟩ := hg k f (by rw [Array.getElem?_toList]; exact hf)
      exact ⟨fuel, y.1, y.2, hy, by rw [List.getElem?_map, hy1]; rfl⟩
    · cases h
end
end Go.Vcg
namespace Go.Proofs.Ytfghidehlnfdiaa
open Go Go.Vcg Go.Trie
namespace Bulk
theorem one_le {H : Type} (d : DataW H) : 1 ≤ Rows.uptoBulk d := by
  cases d with
  | lit l => cases l <;> simp [Rows.uptoBulk]
  | nil => simp [Rows.uptoBulk]
  | ptr d => simp [Rows.uptoBulk]
  | slice elems spare => simp [Rows.uptoBulk]
  | agg parts => simp [Rows.uptoBulk]
  | iface t d => simp [Rows.uptoBulk]
  | map entries => simp [Rows.uptoBulk]
  | held h => simp [Rows.uptoBulk]
theorem part_le {H : Type} {d : DataW H} {l : List (DataW H)} (h : d ∈ l) : Rows.uptoBulk d ≤ Rows.uptoBulkAll l := by
  induction l with
  | nil => cases h
  | cons x r ih =>
    simp only [Rows.uptoBulkAll]
    cases List.mem_cons.1 h with
    | inl e => subst e; omega
    | inr e => have := ih e; omega
theorem length_le {H : Type} (l : List (DataW H)) : l.length ≤ Rows.uptoBulkAll l := by
  induction l with
  | nil => simp [Rows.uptoBulkAll]
  | cons x r ih => have := one_le x; simp only [Rows.uptoBulkAll, List.length_cons]; omega
theorem slice_elems {H : Type} (elems spare : List (DataW H)) : Rows.uptoBulkAll elems + 1 ≤ Rows.uptoBulk (.slice elems spare) := by
  simp only [Rows.uptoBulk]
  omega
theorem agg_parts {H : Type} (parts : List (DataW H)) : Rows.uptoBulkAll parts + 1 ≤ Rows.uptoBulk (.agg parts) := by
  simp only [Rows.uptoBulk]
  omega
theorem bound {H : Type} {l : List (DataW H)} (hk : Rows.uptoSmall H l = true) : Rows.uptoBulkAll l ≤ 1048576 := of_decide_eq_true hk
end Bulk
section
variable {H : Type} {enc : TypeId × Value → H} {W : World} {sp : Nat → Bool} {held : Bool} {base : Nat}
theorem open_bytesB {fuel : Nat} {v : Value} {d : DataW H} {ps : List MemPlace} (h : DataW.trod enc Try.prog W base sp held fuel 22 [v] = some (d, ps)) :
    ∃ o c bs, v = .slice o bs.length c ∧ bs.length ≤ c ∧ RdB W o bs ∧ bs.length ≤ Rows.uptoBulk d := by
  obtain ⟨o, c, bs, rfl, h1, h2, h3⟩ := trod_bytes und_slU8 und_u8 (by kernel_rfl) h
  refine ⟨o, c, bs, rfl, h1, h3, ?_⟩
  obtain ⟨o', l', c', hv, _, _, h4⟩ := trod_slice2 und_slU8 (by kernel_rfl) h
  cases hv
  rcases h4 with ⟨h5, _⟩ | ⟨elems, spare, rfl, h5, _⟩
  · rw [h5]; omega
  · rw [← h5]
    have h6 := Bulk.length_le elems
    have h7 := Bulk.slice_elems elems spare
    omega
theorem open_kvsB {fuel : Nat} {t e : TypeId} {fs : Array Field} {f0 f1 : Field} {v : Value} {d : DataW H} {ps : List MemPlace} (ht : Try.prog.underlying t = some (.slice e)) (hce : Try.prog.cellsOf e = 2) (he : Try.prog.underlying e = some (.struct fs))
    (h0 : fs[0]? = some f0) (h1 : fs[1]? = some f1) (t0 : f0.type = 22) (t1 : f1.type = 22) (o0 : f0.offset = 0) (o1 : f1.offset = 1) (h : DataW.trod enc Try.prog W base sp held fuel t [v] = some (d, ps)) :
    ∃ o c l, v = .slice o l.length c ∧ l.length ≤ c ∧ StR W o l ∧ ∀ x ∈ l, x.1.length ≤ Rows.uptoBulk d ∧ x.2.length ≤ Rows.uptoBulk d := by
  obtain ⟨o, l, c, rfl, hlc, h4⟩ := trod_slice_el ht hce (by omega) h
  rcases h4 with ⟨rfl, rfl⟩ | ⟨elems, spare, rfl, h5, h6⟩
  · exact ⟨o, c, [], rfl, hlc, fun j hj => absurd hj (by simp), fun x hx => by cases hx⟩
  · have hx : ∀ i, ∃ x : By × By, i < l → (∃ b f ok kk ov kv, o = some ⟨b, f, none⟩ ∧ b < W.heap.size ∧ W.cell? ⟨b, f + i * 2, none⟩ = some (.slice ok x.1.length kk) ∧ RdB W ok x.1 ∧ W.cell? ⟨b, f + (i * 2 + 1), none⟩ = some (.slice ov x.2.length kv) ∧ RdB W ov x.2) ∧ x.1.length ≤ Rows.uptoBulk (.slice elems spare) ∧ x.2.length ≤ Rows.uptoBulk (.slice elems spare) := fun i => by
      by_cases hi : i < l
      · obtain ⟨b, f, us, d', ps', fuel', ho, hb, hl, hg, hd, hel⟩ := h6 i hi
        obtain ⟨_, parts, rfl, hf⟩ := trod_parts he hd
        obtain ⟨u0, u1, rfl⟩ : ∃ u0 u1, us = [u0, u1] := by
          rcases us with _ | ⟨a, _ | ⟨b, _ | ⟨c, r⟩⟩⟩ <;> simp at hl ⊢
        obtain ⟨fa, da, pa, ha, hpa⟩ := hf 0 f0 h0
        obtain ⟨fb, db, pb, hb', hpb⟩ := hf 1 f1 h1
        rw [t0, o0, show Try.prog.cellsOf 22 = 1 from by kernel_rfl] at ha
        rw [t1, o1, show Try.prog.cellsOf 22 = 1 from by kernel_rfl] at hb'
        obtain ⟨ok, kk, key, rfl, _, hrk, hlk⟩ := open_bytesB ha
        obtain ⟨ov, kv, val, rfl, _, hrv, hlv⟩ := open_bytesB hb'
        have p1 := Bulk.part_le (List.mem_of_getElem? hpa)
        have p2 := Bulk.part_le (List.mem_of_getElem? hpb)
        have p3 := Bulk.agg_parts parts
        have p4 := Bulk.part_le (List.mem_of_getElem? hel)
        have p5 := Bulk.slice_elems elems spare
        exact ⟨(key, val), fun _ => ⟨⟨b, f, ok, kk, ov, kv, ho, hb, hg 0 _ rfl, hrk, hg 1 _ rfl, hrv⟩, by show key.length ≤ _; omega, by show val.length ≤ _; omega⟩⟩
      · exact ⟨([], []), fun h => (hi h).elim⟩
    have hl : ((List.range l).map (fun i => Classical.choose (hx i))).length = l := by simp
    refine ⟨o, c, (List.range l).map (fun i => Classical.choose (hx i)), by rw [hl], by rw [hl]; exact hlc, fun j hj => ?_, fun x hxm => ?_⟩
    · have hjl : j < l := by rw [← hl]; exact hj
      have := (Classical.choose_spec (hx j) hjl).1
      simp only [List.getElem_map, List.getElem_range]
      exact this
    · obtain ⟨i, hi, rfl⟩ := List.mem_map.1 hxm
      exact (Classical.choose_spec (hx i) (List.mem_range.1 hi)).2
end
end Go.Proofs.Ytfghidehlnfdiaa
end
section
namespace Go.Proofs.Ytfghidehlnfdiaa
open Go Go.Vcg Go.Trie
theorem open_kvs {H : Type} {enc : TypeId × Value → H} {W : World} {sp : Nat → Bool} {held : Bool} {base : Nat} {fuel : Nat} {v : Value} {d : DataW H} {ps : List MemPlace} (h : DataW.trod enc Try.prog W base sp held fuel 44 [v] = some (d, ps)) :
    ∃ o c l, v = .slice o l.length c ∧ l.length ≤ c ∧ StR W o l := by
  obtain ⟨o, c, l, h1, h2, h3, _⟩ := open_kvsB und_slKv (by kernel_rfl) Try.underlying93 rfl rfl rfl rfl rfl rfl h
  exact ⟨o, c, l, h1, h2, h3⟩
end Go.Proofs.Ytfghidehlnfdiaa
end
