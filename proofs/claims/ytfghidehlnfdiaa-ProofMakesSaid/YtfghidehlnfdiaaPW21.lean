/- The law's own check of the document's proofs. -/
/- Arguments: how long they can be. -/
/- Keys with values as arguments; how long what came in can be. -/
/- Contracts: few, turned (morainelaw16). -/
/- The walk of ProofMakes. -/
/- Entries as arguments. -/
import Derived.Test.YtfghidehlnfdiaaXK6
import Derived.Test.YtfghidehlnfdiaaPW4
import Derived.Test.YtfghidehlnfdiaaDD2
import Derived.Test.YtfghidehlnfdiaaTP2
import Derived.SizedLaws
import Derived.Test.YtfghidehlnfdiaaRows
set_option linter.unusedVariables false
set_option linter.unusedSimpArgs false
section
namespace Go.Proofs.Ytfghidehlnfdiaa
open Go Go.Vcg Go.Trie
theorem leaf_bytes : bytesOf (.leaf (nibbles [97]) [49]) = kGm := by kernel_rfl
theorem leaf_root : rootOf (.leaf (nibbles [97]) [49]) = kGh := (congrArg sumOf leaf_bytes).trans kG_sum
theorem trie_of (m : List (By × By)) (hs : SortedM m) (hk : ∀ e ∈ m, e.1.length ≤ 64) (hv : ∀ e ∈ m, e.2 ≠ [] ∧ e.2.length ≤ 1024) : ∃ n, Rep (pathsOf m) n ∧ Canon n ∧ Fits n ∧ cnt n ≤ 4 * m.length := by
  generalize hl : m.length = l
  induction l generalizing m with
  | zero =>
    obtain rfl := List.eq_nil_of_length_eq_zero hl
    exact ⟨.nil, rep_nil, trivial, fits_nil, by simp [cnt]⟩
  | succ l ih =>
    rcases List.eq_nil_or_concat m with rfl | ⟨m', x, rfl⟩
    · cases hl
    · rw [List.concat_eq_append] at *
      have hs' : SortedM m' := (List.pairwise_append.1 hs).1
      obtain ⟨n, h1, h2, h3, h4⟩ := ih m' hs' (fun e he => hk e (List.mem_append_left _ he)) (fun e he => hv e (List.mem_append_left _ he)) (by simpa using hl)
      have hx := hv x (by simp)
      have hxk := hk x (by simp)
      have hxl := nibbles_len x.1
      have hr := rep_put h1 hs' h2 hx.1 (k := x.1)
      rw [putM_snoc hs hx.1] at hr
      have := cnt_put n (nibbles x.1) x.2
      exact ⟨_, hr, (put_ok h2 (nib_nibbles _) hx.1).1, h3.put h2 (nib_nibbles _) hx.1 (by omega) hx.2, by omega⟩
theorem one_rep : Rep (pathsOf [([97], [49])]) (.leaf (nibbles [97]) [49]) ∧ Canon (.leaf (nibbles [97]) [49]) ∧ Small (.leaf (nibbles [97]) [49]) := by
  have e : Trie.put .nil (nibbles [97]) [49] = .leaf (nibbles [97]) [49] := by simp [Trie.put]
  have h1 := rep_put (k := [97]) (v := [49]) rep_nil List.Pairwise.nil trivial (by simp)
  have h2 := (put_ok (n := .nil) (p := nibbles [97]) (x := [49]) trivial (nib_nibbles _) (by simp)).1
  have h3 := Fits.put (p := nibbles [97]) (x := [49]) fits_nil trivial (nib_nibbles _) (by simp) (by decide) (by decide)
  rw [e] at h1 h2 h3
  exact ⟨h1, h2, small_of h2 h3⟩
theorem kGh_ne : kGh ≠ emptyH := by
  have : emptyH = kFh := kF_sum
  rw [this]; decide
theorem way_leaf {σ : Type} {step : σ → By → σ × Except Int By} {s s' : σ} {path : By} (hn : ∀ n ∈ path, n.toNat < 16) (h : step s kGh = (s', .ok kGm)) : way step s (.s kGh) path = (s', .ok (if [6, 1] = path then [49] else [])) := by
  have hc : checkOf kGm = 0 := by kernel_rfl
  have hd : dcod kGm = .ok (.l [.s [32, 97], .s [49]]) := by kernel_rfl
  obtain ⟨xs, hd', _, hg⟩ := check_node hc
  rw [hd] at hd'
  cases hd'
  have hh : headIs (.s [32, 97]) = some ([6, 1], true) := by kernel_rfl
  rw [way_hash (by decide) h hc hd hg hn, node_leaf (xs := [.s [32, 97], .s [49]]) rfl hh]
  rfl
theorem prove1 : proveR [(kGh, kGm)] kGh [97] = .ok [kGm] := by
  rw [proveR_way (by decide) (by decide)]
  have h : pStep [(kGh, kGm)] [] kGh = ([kGm], .ok kGm) := by kernel_rfl
  have hr : rootIt kGh = .s kGh := if_neg kGh_ne
  rw [hr, way_leaf (nib_lt _) h]
theorem verify1 (key : By) (hk : key.length ≤ 64) : verifyR [kGm] kGh key = .ok (if [6, 1] = nibbles key then [49] else []) := by
  rw [verifyR_way (by decide) (by omega)]
  have h : vStep [kGm] 0 kGh = (1, .ok kGm) := by
    unfold vStep
    simp only [List.getElem?_cons_zero, kG_sum, if_true]
  have hr : rootIt kGh = .s kGh := if_neg kGh_ne
  rw [hr, way_leaf (nib_lt _) h]
  rfl
theorem LsOwn.any {w w' : World} {lab : Nat → Nat} {c cb : Nat} {ls : List By} {o : Option Addr} {n k : Nat} (h : LsOwn w lab c cb ls o n k) (M : Vcg.Mod NoB w w') : n = ls.length ∧ RdLs w' (fun _ => 0) 0 ls o :=
  ⟨h.1, (h.stp (S := NoS) (Stp.of_nob M 0) (fun h => h) (fun h => h)).read (fun _ _ _ => rfl)⟩
theorem ProveIs.ok {l : List (By × By)} {root key : By} {out : List By} {w w' : World} {e : Ending} (h : ProveIs l root key w e w') (hr : proveR l root key = .ok out) : Vcg.Mod NoB w w' ∧ ∃ o n k, e = .returned (.tuple #[.slice o n k, .int .i64 0]) ∧ ∃ lab' c cb, LsOwn w' lab' c cb out o n k := by
  obtain ⟨h1, h2⟩ := h
  rw [hr] at h2
  exact ⟨h1, h2⟩
theorem VerifyIs.ok {p : List By} {root key v : By} {w w' : World} {e : Ending} (h : VerifyIs p root key w e w') (hr : verifyR p root key = .ok v) : Vcg.Mod NoB w w' ∧ ∃ o k, e = .returned (.tuple #[.slice o v.length k, .bool (decide (v ≠ [])), .int .i64 0]) ∧ RdB w' o v := by
  obtain ⟨h1, h2⟩ := h
  rw [hr] at h2
  exact ⟨h1, h2⟩
theorem verify1a : verifyR [kGm] kGh [97] = .ok [49] := by rw [verify1 _ (by decide), if_pos (by kernel_rfl)]
theorem verify1b : verifyR [kGm] kGh [98] = .ok [] := by rw [verify1 _ (by decide), if_neg (by decide)]
theorem known16_calls (w : World) : Calls Try.prog morainelaw16_known.n #[] w (fun e w' => e = .returned (.bool true) ∧ Vcg.Mod NoB w w') := by
  refine calls_gen fun Q hQ => morainelaw16_known.vc _ _ ?_
  have tail : ∀ {w30 : World} {D : Nat} {oN oK : Option Addr} {kN kK : Nat}, Vcg.Mod NoB w w30 → Blk w30 D 26 (hashA kGh) → NdRow w30 (fun _ => 0) 0 [(kGh, kGm)] oN 1 → RdB w30 oK [97] → ∀ (d22 : Addr), d22 = ⟨D, 0, none⟩ →
      Calls Try.prog 30 #[.slice oN 1 kN, .agg (hashA kGh), .slice oK 1 kK] w30 (fun e39 w40 =>
      ∃ o41 l42 l43 n44, e39 = .returned (.tuple #[(.slice o41 l42 l43), (.int .i64 n44)]) ∧
      ∃ L45, RowAt w40 d22 32 L45 ∧
      ∀ d46 w47, IsNew w40 5 #[(.int .u8 97)] d46 w47 →
      ∃ v48 w49, Sem.run Try.prog (convert 22 22 (.slice (some d46) 1 1)) w47 = .ok v48 w49 ∧
      ∃ o50 l51 l52, v48 = (.slice o50 l51 l52) ∧
      Calls Try.prog 34 #[(.agg L45), (.slice o50 l51 l52), (.slice o41 l42 l43)] w49 (fun e53 w54 =>
      ∃ o55 l56 l57 b58 n59, e53 = .returned (.tuple #[(.slice o55 l56 l57), (.bool b58), (.int .i64 n59)]) ∧
      ∃ L60, RowAt w54 d22 32 L60 ∧
      ∀ d61 w62, IsNew w54 5 #[(.int .u8 98)] d61 w62 →
      ∃ v63 w64, Sem.run Try.prog (convert 22 22 (.slice (some d61) 1 1)) w62 = .ok v63 w64 ∧
      ∃ o65 l66 l67, v63 = (.slice o65 l66 l67) ∧
      Calls Try.prog 34 #[(.agg L60), (.slice o65 l66 l67), (.slice o41 l42 l43)] w64 (fun e68 w69 =>
      ∃ o70 l71 l72 b73 n74, e68 = .returned (.tuple #[(.slice o70 l71 l72), (.bool b73), (.int .i64 n74)]) ∧
      (((n44 = 0 →
      (((n59 = 0 →
      (((n74 = 0 →
      (((b58 = true →
      (((b73 = false →
      (((((l42 : Nat) : Int) = 1 →
      ∃ v75, Sem.run Try.prog (convert 22 9 (.slice o55 l56 l57)) w69 = .ok v75 w69 ∧
      ∃ s76, v75 = (.string s76) ∧
      Q (.returned (.bool (strB .eql s76 ⟨#[49]⟩))) w69)) ∧
      ((((l42 : Nat) : Int) ≠ 1 →
      Q (.returned (.bool false)) w69))))) ∧
      ((b73 = true →
      Q (.returned (.bool false)) w69))))) ∧
      ((b58 = false →
      Q (.returned (.bool false)) w69))))) ∧
      ((n74 ≠ 0 →
      Q (.returned (.bool false)) w69))))) ∧
      ((n59 ≠ 0 →
      Q (.returned (.bool false)) w69))))) ∧
      ((n44 ≠ 0 →
      Q (.returned (.bool false)) w69)))))) := by
    rintro w30 D oN oK kN kK M H N r _ rfl
    refine (Prove_calls (l := [(kGh, kGm)]) (key := [97]) N (by decide) (by simp [kGm]) (by decide) r).mono ?_
    intro e w40 hp
    obtain ⟨M40, op, np, kp, rfl, labp, c, cb, hO⟩ := hp.ok prove1
    refine ⟨_, _, _, _, rfl, _, (H.mod' M40).rowAll (size_hashA _), ?_⟩
    rintro d w47 ⟨rfl, rfl⟩
    obtain ⟨w49, h49, M49, r49⟩ := lit_bytes w40 (bs := [97]) (A := #[(.int .u8 97)]) rfl 1 1
    obtain ⟨rfl, hL⟩ := hO.any M49
    refine ⟨_, w49, h49, _, _, _, rfl, ?_⟩
    refine (Verify_calls (p := [kGm]) (key := [97]) (root := kGh) hL (by decide) (by simp [kGm]) (by decide) r49).mono ?_
    intro e w54 hv
    obtain ⟨M54, ov, kv, rfl, hrv⟩ := hv.ok verify1a
    have M4054 := M49.none_trans M54
    refine ⟨_, _, _, _, _, rfl, _, ((H.mod' M40).mod' M4054).rowAll (size_hashA _), ?_⟩
    rintro d w62 ⟨rfl, rfl⟩
    obtain ⟨w64, h64, M64, r64⟩ := lit_bytes w54 (bs := [98]) (A := #[(.int .u8 98)]) rfl 1 1
    obtain ⟨_, hL2⟩ := hO.any (M4054.none_trans M64)
    refine ⟨_, w64, h64, _, _, _, rfl, ?_⟩
    refine (Verify_calls (p := [kGm]) (key := [98]) (root := kGh) hL2 (by decide) (by simp [kGm]) (by decide) r64).mono ?_
    intro e w69 hv2
    obtain ⟨M69, ov2, kv2, rfl, _⟩ := hv2.ok verify1b
    have Mall : Vcg.Mod NoB w w69 := ((M.none_trans M40).none_trans M4054).none_trans (M64.none_trans M69)
    refine ⟨_, _, _, _, _, rfl, fun _ => ⟨fun _ => ⟨fun _ => ⟨fun _ => ⟨fun _ => ⟨fun _ => ⟨_, toStr (hrv.mod' (M64.none_trans M69)), _, rfl, hQ _ _ ⟨?_, Mall⟩⟩, fun h => (h rfl).elim⟩, fun h => (by cases h)⟩, fun h => (by cases h)⟩, fun h => (h rfl).elim⟩, fun h => (h rfl).elim⟩, fun h => (h rfl).elim⟩
    have e : strB .eql (strOf [49]) ⟨#[49]⟩ = true := strB_strOf [49] [49]
    rw [e]
  unfold morainelaw16_known.Vc
  rintro d w1 ⟨rfl, rfl⟩
  obtain ⟨w2, h2, M2, r2⟩ := lit_bytes w (bs := [97]) (A := #[(.int .u8 97)]) rfl 1 1
  refine ⟨_, w2, h2, _, _, _, rfl, ?_⟩
  rintro d w3 ⟨rfl, rfl⟩
  obtain ⟨w4, h4, M4, r4⟩ := lit_bytes w2 (bs := [49]) (A := #[(.int .u8 49)]) rfl 1 1
  refine ⟨_, w4, h4, _, _, _, rfl, ?_⟩
  rintro d w5 ⟨rfl, rfl⟩
  have M5 := Mod.alloc (S := NoB) w4 (.cells #[(.slice (some ⟨w.heap.size, 0, none⟩) 1 1), (.slice (some ⟨w2.heap.size, 0, none⟩) 1 1)] 93)
  have B5 := Blk.new w4 93 #[(.slice (some ⟨w.heap.size, 0, none⟩) 1 1), (.slice (some ⟨w2.heap.size, 0, none⟩) 1 1)]
  have r2' := r2.mod' (M4.none_trans M5)
  have r4' := r4.mod' M5
  have M05 := (M2.none_trans M4).none_trans M5
  have hKv : KvRow _ (fun _ => 0) 0 (some ⟨w4.heap.size, 0, none⟩) [([97], [49])] := fun j hj => by
    obtain rfl : j = 0 := by simpa using hj
    exact ⟨_, _, _, _, _, _, rfl, B5.lt, rfl, B5.cell 0, ⟨r2', fun _ _ _ => rfl⟩, B5.cell 1, ⟨r4', fun _ _ _ => rfl⟩⟩
  obtain ⟨p1, p2, p3⟩ := one_rep
  generalize w4.alloc (.cells #[(.slice (some ⟨w.heap.size, 0, none⟩) 1 1), (.slice (some ⟨w2.heap.size, 0, none⟩) 1 1)] 93) = w6 at *
  refine (Of_calls hKv ⟨by decide, by simp, by simp⟩ p1 p2 p3 (by simp [cnt]) 0).mono ?_
  rintro _ w7 ⟨o7, k7, rfl, M7, N7⟩
  have hN7 : NdRow w7 (fun _ => 0) 0 [(kGh, kGm)] o7 1 := by
    rw [nodes_leaf, leaf_root, leaf_bytes] at N7
    exact N7.re (fun _ _ _ => rfl)
  have hlen : (nodesOf (.leaf (nibbles [97]) [49])).length = 1 := by rw [nodes_leaf]; rfl
  rw [hlen, leaf_root]
  refine ⟨_, _, _, _, rfl, ?_⟩
  rintro d w8 ⟨rfl, rfl⟩
  have H8 := Blk.new w7 26 (Array.replicate 32 (.int .u8 0))
  obtain ⟨g1, g2, g3⟩ := hash_store H8 (by simp) kGh
  have M8 := mod_of (Mod.alloc w7 (.cells (Array.replicate 32 (.int .u8 0)) 26)) g3 (Nat.le_refl _)
  refine ⟨_, g1, ?_⟩
  have M08 := (M05.none_trans M7).none_trans M8
  have N8 : NdRow _ (fun _ => 0) 0 [(kGh, kGm)] o7 1 := (hN7.stp (S := NoS) (Stp.of_nob M8 0) (fun h => h)).re (lab' := fun _ => 0) (c' := 0) (fun _ _ _ => rfl)
  generalize w7.heap.size = D at *
  generalize ((w7.alloc (.cells (Array.replicate 32 (.int .u8 0)) 26)).setRow D (hashA kGh)) = w8 at *
  rintro _ rfl
  have H9 := g2.drew
  have M09 := M08.step_drew
  have N9 : NdRow w8.drew (fun _ => 0) 0 [(kGh, kGm)] o7 1 := (N8.stp (S := NoS) (Stp.drew _ _ _) (fun h => h)).re (lab' := fun _ => 0) (c' := 0) (fun _ _ _ => rfl)
  generalize w8.drew = w9 at *
  refine ⟨_, H9.rowAll (size_hashA _), ?_, ?_⟩
  · refine (rNodes_calls (k := k7) N9 (by simp [kGm]) (by decide) 0).mono ?_
    rintro _ w10 ⟨o10, k10, rfl, _, M10, N10⟩
    refine ⟨_, _, _, rfl, (H9.mod' M10).rowAll (size_hashA _), ?_⟩
    rintro d w11 ⟨rfl, rfl⟩
    obtain ⟨w12, h12, M12, r12⟩ := lit_bytes w10 (bs := [97]) (A := #[(.int .u8 97)]) rfl 1 1
    have Ma := Mod.alloc (S := NoB) w10 (.cells #[(.int .u8 97)] 5)
    refine ⟨((H9.mod' M10).mod' Ma).rowAll (size_hashA _), _, w12, h12, _, _, _, rfl, ((H9.mod' M10).mod' M12).rowAll (size_hashA _), ?_⟩
    exact tail ((M09.none_trans M10).none_trans M12) ((H9.mod' M10).mod' M12) ((N10.stp (S := NoS) (Stp.of_nob M12 0) (fun h => h)).re (fun _ _ _ => rfl)) r12 _ rfl
  · rintro d w11 ⟨rfl, rfl⟩
    obtain ⟨w12, h12, M12, r12⟩ := lit_bytes w9 (bs := [97]) (A := #[(.int .u8 97)]) rfl 1 1
    have Ma := Mod.alloc (S := NoB) w9 (.cells #[(.int .u8 97)] 5)
    refine ⟨(H9.mod' Ma).rowAll (size_hashA _), ?_, ?_⟩
    · have Na : NdRow _ (fun _ => 0) 0 [(kGh, kGm)] o7 1 := (N9.stp (S := NoS) (Stp.of_nob Ma 0) (fun h => h)).re (lab' := fun _ => 0) (c' := 0) (fun _ _ _ => rfl)
      have Ba := Blk.new w9 5 #[(.int .u8 97)]
      have Ha := H9.mod' Ma
      have hDE := Nat.ne_of_lt H9.lt
      have hE : w9.heap.size ≤ w9.heap.size := Nat.le_refl _
      generalize hEe : w9.heap.size = E at Ba hDE h12 M12 r12 ⊢
      rw [hEe] at hE
      generalize w9.alloc (.cells #[(.int .u8 97)] 5) = wa at *
      refine (rNodes_calls (k := k7) (Na.re (lab' := fun _ => 1) (c' := 1) (fun _ _ _ => rfl)) (by simp [kGm]) (by decide) 0).mono ?_
      rintro _ w10 ⟨o10, k10, rfl, _, M10, N10⟩
      have B10 := Ba.mod' M10
      obtain ⟨wc, hc, Mc, hcc⟩ := convert_same (P := Try.prog) (t := tSlU8) (l := 1) (c := 1) und_slU8 (by kernel_rfl) B10
      have Hc := (Ha.mod' M10).mod Mc (by intro e; exact hDE e)
      have M9c : Vcg.Mod NoB w9 wc := mod_of (Ma.none_trans M10) Mc (Nat.le_of_eq hEe)
      have sc : Stp (· = 1) w10 (ext (fun _ => 1) wa.heap.size 0) wc (ext (ext (fun _ => 1) wa.heap.size 0) w10.heap.size 0) := Stp.of_mod Mc 0 (fun q _ e => by rw [e]; exact ext_old Ba.lt)
      refine ⟨_, _, _, rfl, (Ha.mod' M10).rowAll (size_hashA _), _, wc, hc, _, _, _, rfl, Hc.rowAll (size_hashA _), ?_⟩
      have rc : RdB wc (some ⟨E, 0, none⟩) [97] := fun hne => ⟨E, 0, rfl, Nat.lt_of_lt_of_le B10.lt Mc.size, fun i hi => by
        obtain rfl : i = 0 := by simpa using hi
        rw [hcc, B10.cell]; rfl⟩
      exact tail (M09.none_trans M9c) Hc ((N10.stp sc (by decide)).re (fun _ _ _ => rfl)) rc _ rfl
    · refine ⟨_, w12, h12, _, _, _, rfl, (H9.mod' M12).rowAll (size_hashA _), ?_⟩
      have N12 : NdRow w12 (fun _ => 0) 0 [(kGh, kGm)] o7 1 := (N9.stp (S := NoS) (Stp.of_nob M12 0) (fun h => h)).re (lab' := fun _ => 0) (c' := 0) (fun _ _ _ => rfl)
      refine (rNodes_calls (k := k7) N12 (by simp [kGm]) (by decide) 0).mono ?_
      rintro _ w13 ⟨o13, k13, rfl, _, M13, N13⟩
      refine ⟨_, _, _, rfl, ((H9.mod' M12).mod' M13).rowAll (size_hashA _), ?_⟩
      exact tail ((M09.none_trans M12).none_trans M13) ((H9.mod' M12).mod' M13) (N13.re (fun _ _ _ => rfl)) (r12.mod' M13) _ rfl
end Go.Proofs.Ytfghidehlnfdiaa
end
section
namespace Go.Vcg
open Go

theorem mapM_get {α β : Type} {f : α → Option β} : ∀ {l : List α} {ys : List β}, l.mapM f = some ys → ys.length = l.length ∧ ∀ (i : Nat) (x : α), l[i]? = some x → ∃ y, ys[i]? = some y ∧ f x = some y
  | [], ys, h => by
    rw [List.mapM_nil] at h
    cases h
    exact ⟨rfl, fun i x hx => by simp at hx⟩
  | a :: l, ys, h => by
    rw [List.mapM_cons] at h
    cases ha : f a with
    | none => simp [ha] at h
    | some b =>
      cases hl : l.mapM f with
      | none => simp [ha, hl] at h
      | some bs =>
        simp [ha, hl] at h
        subst h
        obtain ⟨h1, h2⟩ := mapM_get hl
        refine ⟨by simp [h1], fun i x hx => ?_⟩
        cases i with
        | zero => simp at hx; subst hx; exact ⟨b, rfl, ha⟩
        | succ i => simp at hx; exact h2 i x hx
section
variable {H : Type} {enc : TypeId × Value → H} {P : Program} {W : World} {sp : Nat → Bool} {held : Bool} {base : Nat}

theorem trod_slice2 {fuel : Nat} {t e : TypeId} {v : Value} {d : DataW H} {ps : List MemPlace} (ht : P.underlying t = some (.slice e)) (hce : P.cellsOf e = 1)
    (h : DataW.trod enc P W base sp held fuel t [v] = some (d, ps)) :
    ∃ o l c, v = .slice o l c ∧ l ≤ c ∧ c ≤ maxLen ∧ ((l = 0 ∧ d = .nil) ∨ ∃ elems spare, d = .slice elems spare ∧ elems.length = l ∧
      ∀ i, i < l → ∃ b f u d' ps' fuel', o = some ⟨b, f, none⟩ ∧ b < W.heap.size ∧ W.cell? ⟨b, f + i, none⟩ = some u ∧ DataW.trod enc P W base sp held fuel' e [u] = some (d', ps') ∧ elems[i]? = some d') := by
  obtain ⟨o, l, c, rfl, hlc, hcm, hall⟩ := trod_slice ht hce h
  refine ⟨o, l, c, rfl, hlc, hcm, ?_⟩
  cases fuel with
  | zero => simp [DataW.trod] at h
  | succ fuel =>
    cases o with
    | none =>
      left
      have : l = 0 ∧ c = 0 := by
        rcases l with _ | l <;> rcases c with _ | c <;> simp [DataW.trod, ht] at h ⊢
      obtain ⟨rfl, rfl⟩ := this
      simp [DataW.trod, ht] at h
      exact ⟨rfl, h.1.symm⟩
    | some a =>
      right
      simp only [DataW.trod, ht, hce, Nat.mul_one] at h
      split at h
      · obtain ⟨els, hm, h2⟩ := Option.bind_eq_some_iff.1 h
        obtain ⟨rest, _, h3⟩ := Option.map_eq_some_iff.1 h2
        cases h3
        obtain ⟨hl, hg⟩ := mapM_get hm
        rw [List.length_range] at hl
        refine ⟨_, _, rfl, by simp [hl], fun i hi => ?_⟩
        obtain ⟨b, f, u, d', ps', fuel', ho, hb, hu, hd⟩ := hall i hi
        cases ho
        obtain ⟨y, hy, hfy⟩ := hg i i (by rw [List.getElem?_range hi])
        obtain ⟨vs, hv, hd2⟩ := Option.bind_eq_some_iff.1 hfy
        obtain ⟨u2, rfl, hu2⟩ := cells1_some hv
        rw [add_at, hu] at hu2
        cases hu2
        exact ⟨b, f, u, y.1, y.2, fuel, rfl, hb, hu, hd2, by rw [List.getElem?_map, hy]; rfl⟩
      · cases h

theorem weights_slice {t e : TypeId} {elems spare : List (DataW H)} {n0 : Nat} (ht : P.underlying t = some (.slice e)) (h : ((DataW.slice elems spare).weights P t).all (· ≤ n0) = true) :
    elems.length * P.bytesOf e ≤ n0 ∧ ∀ d ∈ elems, (d.weights P e).all (· ≤ n0) = true := by
  simp only [DataW.weights, ht, List.all_cons, Bool.and_eq_true, List.all_append] at h
  refine ⟨?_, fun d hd => ?_⟩
  · have h1 : (elems.length + spare.length) * P.bytesOf e ≤ n0 := of_decide_eq_true h.1
    exact Nat.le_trans (Nat.mul_le_mul_right _ (Nat.le_add_right _ _)) h1
  · have h2 := h.2.1
    clear h
    induction elems with
    | nil => cases hd
    | cons x r ih =>
      simp only [DataW.weightsAll, List.all_append, Bool.and_eq_true] at h2
      rcases List.mem_cons.1 hd with rfl | hd
      · exact h2.1
      · exact ih hd h2.2

theorem trod_bytes2 {fuel : Nat} {t e : TypeId} {v : Value} {d : DataW H} {ps : List MemPlace} (ht : P.underlying t = some (.slice e)) (he : P.underlying e = some (.int .u8)) (hce : P.cellsOf e = 1)
    (h : DataW.trod enc P W base sp held fuel t [v] = some (d, ps)) : ∃ o c bs, v = .slice o bs.length c ∧ bs.length ≤ c ∧ c ≤ maxLen ∧ RdB W o bs ∧ ∀ n0, (d.weights P t).all (· ≤ n0) = true → bs.length * P.bytesOf e ≤ n0 := by
  obtain ⟨o, c, bs, rfl, h1, h2, h3⟩ := trod_bytes ht he hce h
  refine ⟨o, c, bs, rfl, h1, h2, h3, fun n0 hw => ?_⟩
  obtain ⟨o', l', c', hv, _, _, h4⟩ := trod_slice2 ht hce h
  cases hv
  rcases h4 with ⟨h5, _⟩ | ⟨elems, spare, rfl, h5, _⟩
  · rw [h5]; simp
  · rw [← h5]; exact (weights_slice ht hw).1
end
theorem weights_each {H : Type} {P : Program} {n0 : Nat} : ∀ {ts : List TypeId} {ds : List (DataW H)}, (DataW.weightsEach P ts ds).all (· ≤ n0) = true → ∀ (j : Nat) (t : TypeId) (d : DataW H), ts[j]? = some t → ds[j]? = some d → (d.weights P t).all (· ≤ n0) = true
  | t0 :: ts, d0 :: ds, h, 0, t, d, ht, hd => by
    simp at ht hd
    subst ht hd
    simp only [DataW.weightsEach, List.all_append, Bool.and_eq_true] at h
    exact h.1
  | t0 :: ts, d0 :: ds, h, j + 1, t, d, ht, hd => by
    simp only [DataW.weightsEach, List.all_append, Bool.and_eq_true] at h
    exact weights_each h.2 j t d (by simpa using ht) (by simpa using hd)
  | [], _, _, _, _, _, ht, _ => by simp at ht
  | _ :: _, [], _, _, _, _, _, hd => by simp at hd
end Go.Vcg
end
section
namespace Go.Vcg
section
variable {H : Type} {enc : TypeId × Value → H} {P : Program} {W : World} {sp : Nat → Bool} {held : Bool} {base : Nat}
theorem cells_some {a : Addr} {n : Nat} {vs : List Value} (h : W.cells? base a n = some vs) : vs.length = n ∧ ∀ j u, vs[j]? = some u → W.cell? (a.add j) = some u := by
  unfold World.cells? at h
  split at h
  · obtain ⟨hl, hg⟩ := mapM_get h
    rw [List.length_range] at hl
    refine ⟨hl, fun j u hu => ?_⟩
    have hj : j < n := by rw [← hl]; exact (List.getElem?_eq_some_iff.1 hu).1
    obtain ⟨y, hy, hc⟩ := hg j j (by rw [List.getElem?_range hj])
    rw [hy] at hu
    cases hu
    exact hc
  · cases h
theorem cell_spot {a : Addr} {u : Value} (h : W.cell? a = some u) : a.spot = none ∧ a.block < W.heap.size := by
  unfold World.cell? at h
  cases hs : a.spot with
  | none =>
    rw [hs] at h
    refine ⟨rfl, ?_⟩
    split at h
    · rename_i hb; exact (Array.getElem?_eq_some_iff.1 hb).1
    · cases h
  | some x =>
    rw [hs] at h
    split at h <;> simp at h
theorem trod_slice_el {fuel : Nat} {t e : TypeId} {v : Value} {d : DataW H} {ps : List MemPlace} {n : Nat} (ht : P.underlying t = some (.slice e)) (hce : P.cellsOf e = n) (hn : 0 < n)
    (h : DataW.trod enc P W base sp held fuel t [v] = some (d, ps)) :
    ∃ o l c, v = .slice o l c ∧ l ≤ c ∧ ((l = 0 ∧ d = .nil) ∨ ∃ elems spare, d = .slice elems spare ∧ elems.length = l ∧ ∀ i, i < l → ∃ b f us d' ps' fuel', o = some ⟨b, f, none⟩ ∧ b < W.heap.size ∧ us.length = n ∧ (∀ j u, us[j]? = some u → W.cell? ⟨b, f + i * n + j, none⟩ = some u) ∧ DataW.trod enc P W base sp held fuel' e us = some (d', ps') ∧ elems[i]? = some d') := by
  cases fuel with
  | zero => simp [DataW.trod] at h
  | succ fuel =>
    cases v with
    | slice o l c =>
      cases o with
      | none =>
        have : l = 0 ∧ c = 0 := by
          rcases l with _ | l <;> rcases c with _ | c <;> simp [DataW.trod, ht] at h ⊢
        obtain ⟨rfl, rfl⟩ := this
        simp [DataW.trod, ht] at h
        exact ⟨none, 0, 0, rfl, Nat.le_refl _, .inl ⟨rfl, h.1.symm⟩⟩
      | some a =>
        simp only [DataW.trod, ht, hce] at h
        split at h
        · rename_i hb0
          obtain ⟨els, hm, h2⟩ := Option.bind_eq_some_iff.1 h
          obtain ⟨rest, _, h3⟩ := Option.map_eq_some_iff.1 h2
          cases h3
          obtain ⟨hl, hg⟩ := mapM_get hm
          rw [List.length_range] at hl
          refine ⟨some a, l, c, rfl, hb0.2.1, .inr ⟨_, _, rfl, by simp [hl], fun i hi => ?_⟩⟩
          obtain ⟨y, hy1, hy⟩ := hg i i (by rw [List.getElem?_range hi])
          obtain ⟨vs, hv, hd⟩ := Option.bind_eq_some_iff.1 hy
          obtain ⟨hlv, hgv⟩ := cells_some hv
          obtain ⟨y0, _, hy0⟩ := hg 0 0 (by rw [List.getElem?_range (by omega)])
          obtain ⟨vs0, hv0, _⟩ := Option.bind_eq_some_iff.1 hy0
          obtain ⟨hl0, hg0⟩ := cells_some hv0
          obtain ⟨u, hu⟩ : ∃ u, vs0[0]? = some u := ⟨vs0[0]'(by omega), List.getElem?_eq_getElem (by omega)⟩
          obtain ⟨hs, hb⟩ := cell_spot (hg0 0 u hu)
          obtain ⟨b, f, spot⟩ := a
          have hs' : spot = none := by simpa [Addr.add] using hs
          have hb' : b < W.heap.size := by simpa [Addr.add] using hb
          subst hs'
          refine ⟨b, f, vs, y.1, y.2, fuel, rfl, hb', hlv, fun j u hu => ?_, hd, by rw [List.getElem?_map, hy1]; rfl⟩
          have := hgv j u hu
          rw [add_at, add_at] at this
          exact this
        · cases h
    | _ => simp [DataW.trod, ht] at h
theorem trod_parts {fuel : Nat} {t : TypeId} {fs : Array Field} {us : List Value} {d : DataW H} {ps : List MemPlace} (ht : P.underlying t = some (.struct fs)) (h : DataW.trod enc P W base sp held fuel t us = some (d, ps)) :
    us.length = P.cellsOf t ∧ ∃ parts, d = .agg parts ∧ ∀ (k : Nat) (f : Field), fs[k]? = some f → ∃ fuel' d' ps', DataW.trod enc P W base sp held fuel' f.type ((us.drop f.offset).take (P.cellsOf f.type)) = some (d', ps') ∧ parts[k]? = some d' := by
  cases fuel with
  | zero => simp [DataW.trod] at h
  | succ fuel =>
    simp only [DataW.trod, ht] at h
    split at h
    · rename_i hl
      obtain ⟨xs, hm, he⟩ := Option.map_eq_some_iff.1 h
      cases he
      refine ⟨hl, _, rfl, fun k f hf => ?_⟩
      obtain ⟨_, hg⟩ := mapM_get hm
      obtain ⟨y, hy1, hy⟩ := hg k f (by rw [Array.getElem?_toList]; exact hf)
      exact ⟨fuel, y.1, y.2, hy, by rw [List.getElem?_map, hy1]; rfl⟩
    · cases h
end
end Go.Vcg
namespace Go.Proofs.Ytfghidehlnfdiaa
open Go Go.Vcg Go.Trie
namespace Bulk
theorem one_le {H : Type} (d : DataW H) : 1 ≤ Rows.uptoBulk d := by
  cases d with
  | lit l => cases l <;> simp [Rows.uptoBulk]
  | nil => simp [Rows.uptoBulk]
  | ptr d => simp [Rows.uptoBulk]
  | slice elems spare => simp [Rows.uptoBulk]
  | agg parts => simp [Rows.uptoBulk]
  | iface t d => simp [Rows.uptoBulk]
  | map entries => simp [Rows.uptoBulk]
  | held h => simp [Rows.uptoBulk]
theorem part_le {H : Type} {d : DataW H} {l : List (DataW H)} (h : d ∈ l) : Rows.uptoBulk d ≤ Rows.uptoBulkAll l := by
  induction l with
  | nil => cases h
  | cons x r ih =>
    simp only [Rows.uptoBulkAll]
    cases List.mem_cons.1 h with
    | inl e => subst e; omega
    | inr e => have := ih e; omega
theorem length_le {H : Type} (l : List (DataW H)) : l.length ≤ Rows.uptoBulkAll l := by
  induction l with
  | nil => simp [Rows.uptoBulkAll]
  | cons x r ih => have := one_le x; simp only [Rows.uptoBulkAll, List.length_cons]; omega
theorem slice_elems {H : Type} (elems spare : List (DataW H)) : Rows.uptoBulkAll elems + 1 ≤ Rows.uptoBulk (.slice elems spare) := by
  simp only [Rows.uptoBulk]
  omega
theorem agg_parts {H : Type} (parts : List (DataW H)) : Rows.uptoBulkAll parts + 1 ≤ Rows.uptoBulk (.agg parts) := by
  simp only [Rows.uptoBulk]
  omega
theorem bound {H : Type} {l : List (DataW H)} (hk : Rows.uptoSmall H l = true) : Rows.uptoBulkAll l ≤ 1048576 := of_decide_eq_true hk
end Bulk
section
variable {H : Type} {enc : TypeId × Value → H} {W : World} {sp : Nat → Bool} {held : Bool} {base : Nat}
theorem open_bytesB {fuel : Nat} {v : Value} {d : DataW H} {ps : List MemPlace} (h : DataW.trod enc Try.prog W base sp held fuel 22 [v] = some (d, ps)) :
    ∃ o c bs, v = .slice o bs.length c ∧ bs.length ≤ c ∧ RdB W o bs ∧ bs.length ≤ Rows.uptoBulk d := by
  obtain ⟨o, c, bs, rfl, h1, h2, h3⟩ := trod_bytes und_slU8 und_u8 (by kernel_rfl) h
  refine ⟨o, c, bs, rfl, h1, h3, ?_⟩
  obtain ⟨o', l', c', hv, _, _, h4⟩ := trod_slice2 und_slU8 (by kernel_rfl) h
  cases hv
  rcases h4 with ⟨h5, _⟩ | ⟨elems, spare, rfl, h5, _⟩
  · rw [h5]; omega
  · rw [← h5]
    have h6 := Bulk.length_le elems
    have h7 := Bulk.slice_elems elems spare
    omega
theorem open_kvsB {fuel : Nat} {t e : TypeId} {fs : Array Field} {f0 f1 : Field} {v : Value} {d : DataW H} {ps : List MemPlace} (ht : Try.prog.underlying t = some (.slice e)) (hce : Try.prog.cellsOf e = 2) (he : Try.prog.underlying e = some (.struct fs))
    (h0 : fs[0]? = some f0) (h1 : fs[1]? = some f1) (t0 : f0.type = 22) (t1 : f1.type = 22) (o0 : f0.offset = 0) (o1 : f1.offset = 1) (h : DataW.trod enc Try.prog W base sp held fuel t [v] = some (d, ps)) :
    ∃ o c l, v = .slice o l.length c ∧ l.length ≤ c ∧ StR W o l ∧ ∀ x ∈ l, x.1.length ≤ Rows.uptoBulk d ∧ x.2.length ≤ Rows.uptoBulk d := by
  obtain ⟨o, l, c, rfl, hlc, h4⟩ := trod_slice_el ht hce (by omega) h
  rcases h4 with ⟨rfl, rfl⟩ | ⟨elems, spare, rfl, h5, h6⟩
  · exact ⟨o, c, [], rfl, hlc, fun j hj => absurd hj (by simp), fun x hx => by cases hx⟩
  · have hx : ∀ i, ∃ x : By × By, i < l → (∃ b f ok kk ov kv, o = some ⟨b, f, none⟩ ∧ b < W.heap.size ∧ W.cell? ⟨b, f + i * 2, none⟩ = some (.slice ok x.1.length kk) ∧ RdB W ok x.1 ∧ W.cell? ⟨b, f + (i * 2 + 1), none⟩ = some (.slice ov x.2.length kv) ∧ RdB W ov x.2) ∧ x.1.length ≤ Rows.uptoBulk (.slice elems spare) ∧ x.2.length ≤ Rows.uptoBulk (.slice elems spare) := fun i => by
      by_cases hi : i < l
      · obtain ⟨b, f, us, d', ps', fuel', ho, hb, hl, hg, hd, hel⟩ := h6 i hi
        obtain ⟨_, parts, rfl, hf⟩ := trod_parts he hd
        obtain ⟨u0, u1, rfl⟩ : ∃ u0 u1, us = [u0, u1] := by
          rcases us with _ | ⟨a, _ | ⟨b, _ | ⟨c, r⟩⟩⟩ <;> simp at hl ⊢
        obtain ⟨fa, da, pa, ha, hpa⟩ := hf 0 f0 h0
        obtain ⟨fb, db, pb, hb', hpb⟩ := hf 1 f1 h1
        rw [t0, o0, show Try.prog.cellsOf 22 = 1 from by kernel_rfl] at ha
        rw [t1, o1, show Try.prog.cellsOf 22 = 1 from by kernel_rfl] at hb'
        obtain ⟨ok, kk, key, rfl, _, hrk, hlk⟩ := open_bytesB ha
        obtain ⟨ov, kv, val, rfl, _, hrv, hlv⟩ := open_bytesB hb'
        have p1 := Bulk.part_le (List.mem_of_getElem? hpa)
        have p2 := Bulk.part_le (List.mem_of_getElem? hpb)
        have p3 := Bulk.agg_parts parts
        have p4 := Bulk.part_le (List.mem_of_getElem? hel)
        have p5 := Bulk.slice_elems elems spare
        exact ⟨(key, val), fun _ => ⟨⟨b, f, ok, kk, ov, kv, ho, hb, hg 0 _ rfl, hrk, hg 1 _ rfl, hrv⟩, by show key.length ≤ _; omega, by show val.length ≤ _; omega⟩⟩
      · exact ⟨([], []), fun h => (hi h).elim⟩
    have hl : ((List.range l).map (fun i => Classical.choose (hx i))).length = l := by simp
    refine ⟨o, c, (List.range l).map (fun i => Classical.choose (hx i)), by rw [hl], by rw [hl]; exact hlc, fun j hj => ?_, fun x hxm => ?_⟩
    · have hjl : j < l := by rw [← hl]; exact hj
      have := (Classical.choose_spec (hx j) hjl).1
      simp only [List.getElem_map, List.getElem_range]
      exact this
    · obtain ⟨i, hi, rfl⟩ := List.mem_map.1 hxm
      exact (Classical.choose_spec (hx i) (List.mem_range.1 hi)).2
end
end Go.Proofs.Ytfghidehlnfdiaa
end
section
namespace Go.Proofs.Ytfghidehlnfdiaa
open Go Go.Vcg Go.Trie
structure FewOk (l : List (By × By)) : Prop where
  len : l.length ≤ 40
  keys : ∀ e ∈ l, e.1.length ≤ 64
  vals : ∀ e ∈ l, e.2 ≠ [] ∧ e.2.length ≤ 300
  srt : SortedM l
theorem sorted_snoc {l : List (By × By)} {j : Nat} (hj : j < l.length) (h : SortedM (l.take j)) (hl : 0 < j → ∃ h1 : j - 1 < l.length, ltB l[j - 1].1 l[j].1) : SortedM (l.take (j + 1)) := by
  rw [List.take_succ_eq_append_getElem hj]
  refine List.pairwise_append.2 ⟨h, List.pairwise_singleton _ _, fun x hx y hy => ?_⟩
  obtain rfl := List.mem_singleton.1 hy
  obtain ⟨q, hq, rfl⟩ := List.getElem_of_mem hx
  rw [List.length_take] at hq
  obtain ⟨h1, h2⟩ := hl (by omega)
  rw [List.getElem_take]
  by_cases he : q = j - 1
  · subst he; exact h2
  · have hp := List.pairwise_iff_getElem.1 h q (j - 1) (by rw [List.length_take]; omega) (by rw [List.length_take]; omega) (by omega)
    rw [List.getElem_take, List.getElem_take] at hp
    exact ltB_trans hp h2
theorem few16_calls {w : World} {o : Option Addr} {k : Nat} {l : List (By × By)} (h : StR w o l) :
    Calls Try.prog morainelaw16_few.n #[.slice o l.length k] w (fun e w' => ∃ b : Bool, e = .returned (.bool b) ∧ (b = true → FewOk l) ∧ Vcg.Mod NoB w w') := by
  refine morainelaw16_few.vc _ _ _ _ _ ?_
  unfold morainelaw16_few.Vc
  refine ⟨fun _ => ⟨false, rfl, fun h => (by cases h), Mod.refl w⟩, fun hl => ?_⟩
  have no : ∀ w', Vcg.Mod NoB w w' → ∃ b : Bool, Ending.returned (.bool false) = .returned (.bool b) ∧ (b = true → FewOk l) ∧ Vcg.Mod NoB w w' := fun w' M => ⟨false, rfl, fun h => (by cases h), M⟩
  refine ⟨fun i w' => ∃ j : Nat, i = (j : Int) ∧ j ≤ l.length ∧ Vcg.Mod NoB w w' ∧ SortedM (l.take j) ∧ ∀ q (hq : q < l.length), q < j → l[q].1.length ≤ 64 ∧ l[q].2 ≠ [] ∧ l[q].2.length ≤ 300, fun i _ => ((l.length : Int) - i).toNat, ⟨0, rfl, Nat.zero_le _, Mod.refl w, by rw [List.take_zero]; exact List.Pairwise.nil, fun q hq h => by omega⟩, ?_⟩
  rintro _ _ w1 ⟨j, rfl, hj, M, hs, hall⟩
  refine ⟨fun hlt => ?_, fun hge => ?_⟩
  · rintro _ rfl
    have hjl : j < l.length := by omega
    have M2 := M.step_drew
    generalize w1.drew = w2 at *
    obtain ⟨b, f, ok, kk, ov, kv, rfl, e2, e3, e4, e5, e6⟩ := h.mod' M2 j hjl
    have ck : w2.cell? (Addr.add ⟨b, f, none⟩ (Int.toNat (j : Int) * 2)) = some (.slice ok l[j].1.length kk) := by rw [add_at, Int.toNat_natCast]; exact e3
    have cv : w2.cell? (Addr.add (Addr.add ⟨b, f, none⟩ (Int.toNat (j : Int) * 2)) 1) = some (.slice ov l[j].2.length kv) := by rw [add_at, add_at, Int.toNat_natCast, Nat.add_assoc]; exact e5
    refine ⟨_, rfl, ⟨by omega, by omega⟩, _, _, _, ck, fun _ => no _ M2, fun h1 => ⟨_, rfl, ⟨by omega, by omega⟩, _, _, _, cv, fun _ => no _ M2, fun h2 => ⟨_, rfl, ⟨by omega, by omega⟩, _, _, _, cv, fun _ => no _ M2, fun h3 => ?_⟩⟩⟩
    have ew : IntKind.wrap .i64 ((j : Int) + 1) = ((j + 1 : Nat) : Int) := by rw [wrap_i64_small (by omega) (by omega)]; omega
    have hv : l[j].2 ≠ [] := by intro e; rw [e] at h2; simp at h2
    have hall' : ∀ q (hq : q < l.length), q < j + 1 → l[q].1.length ≤ 64 ∧ l[q].2 ≠ [] ∧ l[q].2.length ≤ 300 := fun q hq hqj => by
      by_cases hqe : q = j
      · subst hqe; exact ⟨by omega, hv, by omega⟩
      · exact hall q hq (by omega)
    refine ⟨fun hpos => ?_, fun hz => ?_⟩
    · have ew1 : IntKind.wrap .i64 ((j : Int) - 1) = ((j - 1 : Nat) : Int) := by rw [wrap_i64_small (by omega) (by omega)]; omega
      obtain ⟨b', f', ok', kk', ov', kv', hb', g2, g3, g4, g5, g6⟩ := h.mod' M2 (j - 1) (by omega)
      cases hb'
      refine ⟨_, rfl, by rw [ew1]; exact ⟨by omega, by omega⟩, _, _, _, by rw [add_at, ew1, Int.toNat_natCast]; exact g3, _, rfl, ⟨by omega, by omega⟩, _, _, _, ck, ?_⟩
      have hkl := (hall (j - 1) (by omega) (by omega)).1
      refine (cmp_calls g4 e4 (by omega)).mono ?_
      rintro _ w3 ⟨rfl, M3⟩
      have M23 := M2.none_trans M3
      refine ⟨_, rfl, fun _ => no _ M23, fun hneg => ?_⟩
      rw [ew]
      exact ⟨⟨j + 1, rfl, hjl, M23, sorted_snoc hjl hs (fun _ => ⟨by omega, cmpB_lt.1 (by omega)⟩), hall'⟩, by dsimp only; omega⟩
    · rw [ew]
      exact ⟨⟨j + 1, rfl, hjl, M2, sorted_snoc hjl hs (fun h => by omega), hall'⟩, by dsimp only; omega⟩
  · obtain rfl : j = l.length := by omega
    rw [List.take_of_length_le (Nat.le_refl _)] at hs
    refine ⟨true, rfl, fun _ => ⟨by omega, fun e he => ?_, fun e he => ?_, hs⟩, M⟩
    · obtain ⟨q, hq, rfl⟩ := List.getElem_of_mem he
      exact (hall q hq hq).1
    · obtain ⟨q, hq, rfl⟩ := List.getElem_of_mem he
      exact (hall q hq hq).2
section
variable {w w' : World} {lab : Nat → Nat} {c : Nat}
theorem NdCells.take {vs : List Value} {l : List (By × By)} (h : NdCells w lab c vs l) {n : Nat} (hn : n ≤ l.length) : NdCells w lab c (vs.take (n * 33)) (l.take n) := by
  refine ⟨by rw [List.length_take, List.length_take, h.1]; omega, fun j hj => ?_⟩
  rw [List.length_take] at hj
  obtain ⟨a, b, ob, kb, d, e⟩ := h.2 j (by omega)
  rw [List.getElem_take]
  exact ⟨a, fun i hi => by rw [List.getElem?_take, if_pos (by omega)]; exact b i hi, ob, kb, by rw [List.getElem?_take, if_pos (by omega)]; exact d, e⟩
theorem NdCells.drop {vs : List Value} {l : List (By × By)} (h : NdCells w lab c vs l) {n : Nat} (hn : n ≤ l.length) : NdCells w lab c (vs.drop (n * 33)) (l.drop n) := by
  refine ⟨by rw [List.length_drop, List.length_drop, h.1]; omega, fun j hj => ?_⟩
  rw [List.length_drop] at hj
  obtain ⟨a, b, ob, kb, d, e⟩ := h.2 (n + j) (by omega)
  rw [List.getElem_drop]
  exact ⟨a, fun i hi => by rw [List.getElem?_drop, show n * 33 + (j * 33 + i) = (n + j) * 33 + i by omega]; exact b i hi, ob, kb, by rw [List.getElem?_drop, show n * 33 + (j * 33 + 32) = (n + j) * 33 + 32 by omega]; exact d, e⟩
theorem NdCells.append {vs us : List Value} {l m : List (By × By)} (h : NdCells w lab c vs l) (k : NdCells w lab c us m) : NdCells w lab c (vs ++ us) (l ++ m) := by
  have h1 := h.1
  have k1 := k.1
  refine ⟨by rw [List.length_append, List.length_append, h1, k1]; omega, fun j hj => ?_⟩
  rw [List.length_append] at hj
  by_cases hl : j < l.length
  · rw [List.getElem_append_left hl]
    obtain ⟨a, b, ob, kb, d, e⟩ := h.2 j hl
    exact ⟨a, fun i hi => by rw [List.getElem?_append_left (by omega)]; exact b i hi, ob, kb, by rw [List.getElem?_append_left (by omega)]; exact d, e⟩
  · rw [List.getElem_append_right (by omega)]
    obtain ⟨a, b, ob, kb, d, e⟩ := k.2 (j - l.length) (by omega)
    exact ⟨a, fun i hi => by rw [List.getElem?_append_right (by omega), h1, show j * 33 + i - l.length * 33 = (j - l.length) * 33 + i by omega]; exact b i hi, ob, kb, by rw [List.getElem?_append_right (by omega), h1, show j * 33 + 32 - l.length * 33 = (j - l.length) * 33 + 32 by omega]; exact d, e⟩
theorem NdCells.setB {vs : List Value} {l : List (By × By)} (h : NdCells w lab c vs l) {g : Nat} (hg : g < l.length) {ob : Option Addr} {bad : By} {kb : Nat} (hb : CBy w lab c ob bad) (hk : bad.length ≤ kb) :
    NdCells w lab c (vs.set (g * 33 + 32) (.slice ob bad.length kb)) (l.set g (l[g].1, bad)) := by
  have h1 := h.1
  refine ⟨by rw [List.length_set, List.length_set, h1], fun j hj => ?_⟩
  rw [List.length_set] at hj
  obtain ⟨a, b, ob', kb', d, e⟩ := h.2 j hj
  by_cases hjg : j = g
  · subst hjg
    rw [List.getElem_set_self]
    exact ⟨a, fun i hi => by rw [List.getElem?_set_ne (by omega)]; exact b i hi, ob, kb, by rw [List.getElem?_set_self (by omega)], hb, hk⟩
  · rw [List.getElem_set_ne (fun e => hjg e.symm)]
    exact ⟨a, fun i hi => by rw [List.getElem?_set_ne (by omega)]; exact b i hi, ob', kb', by rw [List.getElem?_set_ne (by omega)]; exact d, e⟩
theorem NdCells.one {vs : List Value} {l : List (By × By)} (h : NdCells w lab c vs l) : ∀ u ∈ vs, u.oneCell' = true := fun u hu => by
  obtain ⟨q, hq, rfl⟩ := List.getElem_of_mem hu
  have h1 := h.1
  obtain ⟨a, b, ob, kb, d, e⟩ := h.2 (q / 33) (by omega)
  by_cases h32 : q % 33 = 32
  · rw [show q / 33 * 33 + 32 = q by omega, List.getElem?_eq_getElem hq] at d
    rw [Option.some.inj d]; rfl
  · have := b (q % 33) (by omega)
    rw [show q / 33 * 33 + q % 33 = q by omega, List.getElem?_eq_getElem hq] at this
    rw [Option.some.inj this]; rfl
end
theorem append_zeroN {w : World} {g f l c : Nat} {x : Value} (src : Src Try.prog 33 tSlNd x 0 [] w) (hl : l ≤ c) :
    Sem.run Try.prog (builtinV .append #[tSlNd, tSlNd] tSlNd #[.slice (some ⟨g, f, none⟩) l c, x]) w = .ok (.slice (some ⟨g, f, none⟩) l c) w := by
  obtain ⟨i, hi, hz, hs, hb⟩ := info_of info_nd
  exact run_append_room_src (P := Try.prog) w tSlNd tSlNd tSlNd tNd i und_slNd hi g f l c x 0 [] (hs ▸ src) (by omega) (fun j hj => by simp at hj) (fun j hj => by simp at hj)
def turnL (l : List (By × By)) (gone : Int) (bad : By) : List (By × By) :=
  if gone < 0 ∨ gone ≥ l.length then l else if bad = [] then l.take gone.toNat ++ l.drop (gone.toNat + 1) else match l[gone.toNat]? with
    | some x => l.set gone.toNat (x.1, bad)
    | none => l
theorem turned_calls {w : World} {lab : Nat → Nat} {c : Nat} {l : List (By × By)} {o o2 : Option Addr} {k k2 : Nat} {gone : Int} {bad : By} (h : NdRow w lab c l o l.length) (hlen : l.length ≤ 2 ^ 20) (hbad : RdB w o2 bad) (hk : bad.length ≤ k2) :
    Calls Try.prog morainelaw16_turned.n #[.slice o l.length k, .int .i64 gone, .slice o2 bad.length k2] w (fun e w' => ∃ o' k', e = .returned (.slice o' (turnL l gone bad).length k') ∧ Vcg.Mod NoB w w' ∧ NdRow w' (fun _ => 0) 0 (turnL l gone bad) o' (turnL l gone bad).length) := by
  refine calls_gen fun R hR => morainelaw16_turned.vc _ _ _ _ _ _ _ _ _ ?_
  unfold morainelaw16_turned.Vc
  have h0 : NdRow w (fun _ => 0) 0 l o l.length := h.re (fun _ _ _ => rfl)
  have same : gone < 0 ∨ gone ≥ l.length → R (.returned (.slice o l.length k)) w := fun hg => by
    have e : turnL l gone bad = l := by unfold turnL; rw [if_pos hg]
    rw [e] at hR
    exact hR _ _ ⟨o, k, rfl, Mod.refl w, h0⟩
  refine ⟨fun hg => same (.inl hg), fun hg => ⟨fun hg2 => same (.inr hg2), fun hg2 => ?_⟩⟩
  obtain ⟨g, rfl⟩ : ∃ g : Nat, gone = (g : Int) := ⟨gone.toNat, by omega⟩
  have hgl : g < l.length := by omega
  have hno : ¬ ((g : Int) < 0 ∨ (g : Int) ≥ l.length) := by omega
  obtain ⟨_, vs, hCR, hNC⟩ := h0
  have hvl := hNC.1
  obtain ⟨i, hi, hz, hs, hbt⟩ := info_of info_nd
  have src : Src Try.prog 33 tSlNd (.slice o l.length k) l.length vs w := CRow.src hCR und_slNd hvl hNC.one k (by omega)
  obtain ⟨o4, k4, w4, hr4, F4⟩ := (Fresh.nil (Mod.refl w) tNd 33).push (ty := tSlNd) und_slNd hi hz hs rfl src (by simp only [maxLen]; omega) (by rw [hbt]; omega)
  rw [Nat.zero_add] at hr4 F4
  rw [List.nil_append] at F4
  have hcap := F4.own.cap.1
  have read : ∀ {wx : World} {l' : List (By × By)} {vs' : List Value} {ox : Option Addr} {nx kx : Nat}, Fresh w wx tNd 33 ox nx kx vs' → NdCells wx (fun _ => 0) 0 vs' l' → NdRow wx (fun _ => 0) 0 l' ox l'.length := fun F N => ⟨rfl, _, CRow.re (F.done (lab := fun _ => (0 : Nat)) 0).1.row (fun _ _ _ => rfl), N⟩
  have keepN : ∀ {wx : World} {l' : List (By × By)} {vs' : List Value}, Vcg.Mod NoB w wx → NdCells w (fun _ => (0 : Nat)) 0 vs' l' → NdCells wx (fun _ => 0) 0 vs' l' := fun M N => NdCells.re (N.stp (S := NoS) (Stp.of_nob M 0) (fun h => h)) (fun _ _ _ => rfl)
  refine ⟨_, w4, hr4, _, _, _, rfl, fun hb0 => ?_, fun hb1 => ?_⟩
  · have hbn : bad = [] := List.eq_nil_of_length_eq_zero (by omega)
    have e : turnL l (g : Int) bad = l.take g ++ l.drop (g + 1) := by unfold turnL; rw [if_neg hno, if_pos hbn, Int.toNat_natCast]
    rw [e] at hR
    rintro _ rfl
    have ew : IntKind.wrap .i64 ((g : Int) + 1) = ((g + 1 : Nat) : Int) := by rw [wrap_i64_small (by omega) (by omega)]; omega
    have F5 := F4.mod' (Mod.drew (S := NoB) w4)
    generalize w4.drew = w5 at *
    refine ⟨_, run_slice3 und_slNd hi w5 (by omega), _, _, _, rfl, by rw [ew]; exact ⟨by omega, by omega⟩, ?_⟩
    rw [ew, Int.toNat_natCast]
    have C5 : CRow w5 (fun _ => (0 : Nat)) 0 o4 vs := CRow.re (F5.done (lab := fun _ => (0 : Nat)) 0).1.row (fun _ _ _ => rfl)
    have N5 := keepN F5.mod hNC
    have T1 := CRow.take C5 (g * 33)
    have T2 := CRow.drop C5 (cap := k4) (n := g + 1) (sz := 33) (by rw [hvl]; omega)
    have K1 := N5.take (n := g) (by omega)
    have K2 := N5.drop (n := g + 1) (by omega)
    have hl1 : (l.take g ++ l.drop (g + 1)).length = g + (l.length - (g + 1)) := by rw [List.length_append, List.length_take, List.length_drop]; omega
    have src2 : Src Try.prog 33 tSlNd (.slice (subO o4 k4 (g + 1) 33) (l.length - (g + 1)) (k4 - (g + 1))) (l.length - (g + 1)) (vs.drop ((g + 1) * 33)) w5 := CRow.src T2 und_slNd (by rw [List.length_drop, hvl]; omega) K2.one _ (by omega)
    rcases Nat.eq_zero_or_pos (l.length - (g + 1)) with hq | hq
    · have hd : vs.drop ((g + 1) * 33) = [] := List.drop_eq_nil_of_le (by omega)
      have hdl : l.drop (g + 1) = [] := List.drop_eq_nil_of_le (by omega)
      rw [hd, hq] at src2
      rw [hq]
      have hne : ∃ b f, o4 = some ⟨b, f, none⟩ := by
        obtain ⟨b, f, ho, _⟩ := C5 0 (vs[0]'(by omega)) (List.getElem?_eq_getElem _)
        exact ⟨b, f, ho⟩
      obtain ⟨b, f, rfl⟩ := hne
      refine ⟨_, w5, append_zeroN src2 (Nat.le_refl _), _, _, _, rfl, hR _ _ ⟨some ⟨b, f, none⟩, g, ?_, F5.mod, ?_⟩⟩
      · rw [hl1, hq]; rfl
      · rw [hdl, List.append_nil]
        exact ⟨rfl, _, T1, K1⟩
    · obtain ⟨q, hq2⟩ : ∃ q, l.length - (g + 1) = q + 1 := ⟨l.length - (g + 1) - 1, by omega⟩
      rw [hq2] at src2 hl1 ⊢
      obtain ⟨o', c', w6, hr, F⟩ := append_full (tx := tSlNd) (ty := tSlNd) T1 und_slNd hi hz hs rfl (by decide) (l := g) (by rw [List.length_take, hvl]; omega) src2 (by simp only [maxLen]; omega) (by rw [hbt]; omega)
      have M6 := F5.mod.none_trans F.mod
      refine ⟨_, w6, hr, _, _, _, rfl, hR _ _ ⟨o', c', by rw [hl1], M6, ?_⟩⟩
      exact ⟨rfl, _, CRow.re (F.done (lab := fun _ => (0 : Nat)) 0).1.row (fun _ _ _ => rfl), keepN M6 ((hNC.take (n := g) (by omega)).append (hNC.drop (n := g + 1) (by omega)))⟩
  · have hbn : bad ≠ [] := by rintro rfl; exact hb1 rfl
    have e : turnL l (g : Int) bad = l.set g (l[g].1, bad) := by
      unfold turnL
      rw [if_neg hno, if_neg hbn, Int.toNat_natCast, List.getElem?_eq_getElem hgl]
    rw [e] at hR
    obtain ⟨G, rfl, hcs, F5⟩ := F4.set (j := g * 33 + 32) (v := .slice o2 bad.length k2) (by omega) rfl
    refine ⟨_, rfl, ⟨by omega, by omega⟩, ?_⟩
    simp only [add_at, Int.toNat_natCast, Nat.zero_add]
    refine ⟨hcs, ?_⟩
    rintro _ rfl
    refine hR _ _ ⟨_, k4, by rw [List.length_set], F5.mod, ?_⟩
    refine read F5 ?_
    exact NdCells.setB (keepN F5.mod hNC) hgl ⟨hbad.mod' F5.mod, fun _ _ _ => rfl⟩ hk
end Go.Proofs.Ytfghidehlnfdiaa
end
section
namespace Go.Proofs.Ytfghidehlnfdiaa
open Go Go.Vcg Go.Trie
theorem mem_turnL {l : List (By × By)} {gone : Int} {bad : By} {x : By × By} (h : x ∈ turnL l gone bad) : x ∈ l ∨ x.2 = bad := by
  unfold turnL at h
  split at h
  · exact .inl h
  · split at h
    · rcases List.mem_append.1 h with h | h
      · exact .inl (List.mem_of_mem_take h)
      · exact .inl (List.mem_of_mem_drop h)
    · split at h
      · rcases List.mem_or_eq_of_mem_set h with h | rfl
        · exact .inl h
        · exact .inr rfl
      · exact .inl h
theorem turnL_len (l : List (By × By)) (gone : Int) (bad : By) : (turnL l gone bad).length ≤ l.length := by
  unfold turnL
  split
  · exact Nat.le_refl _
  · split
    · rw [List.length_append, List.length_take, List.length_drop]; omega
    · split
      · rw [List.length_set]; exact Nat.le_refl _
      · exact Nat.le_refl _
def pAns : Except Int (List By) → List By × Int
  | .error er => ([], er)
  | .ok l => (l, 0)
theorem ProveIs.ans {l : List (By × By)} {root key : By} {w w' : World} {e : Ending} (h : ProveIs l root key w e w') : Vcg.Mod NoB w w' ∧ ∃ o k lab c cb, e = .returned (.tuple #[.slice o (pAns (proveR l root key)).1.length k, .int .i64 (pAns (proveR l root key)).2]) ∧ LsOwn w' lab c cb (pAns (proveR l root key)).1 o (pAns (proveR l root key)).1.length k := by
  obtain ⟨M, h⟩ := h
  refine ⟨M, ?_⟩
  generalize proveR l root key = r at h
  cases r with
  | error er => exact ⟨none, 0, fun _ => 0, 0, 0, h.2, LsOwn.nil _ _ _ _⟩
  | ok v =>
    obtain ⟨o, n, k, rfl, lab, c, cb, hO⟩ := h
    obtain ⟨rfl, h2⟩ := id hO
    exact ⟨o, k, lab, c, cb, rfl, hO⟩
theorem StR.kv {w : World} {o : Option Addr} {m : List (By × By)} (h : StR w o m) : KvRow w (fun _ => 0) 0 o m := fun j hj => by
  obtain ⟨b, f, ok, kk, ov, kv, e1, e2, e3, e4, e5, e6⟩ := h j hj
  exact ⟨b, f, ok, kk, ov, kv, e1, e2, rfl, e3, ⟨e4, fun _ _ _ => rfl⟩, e5, ⟨e6, fun _ _ _ => rfl⟩⟩
theorem FewOk.kv {m : List (By × By)} (h : FewOk m) : KvOk m := ⟨by have := h.len; omega, h.keys, fun e he => by have := (h.vals e he).2; omega⟩
theorem FewOk.trie {m : List (By × By)} (h : FewOk m) : ∃ n, Rep (pathsOf m) n ∧ Canon n ∧ Small n ∧ cnt n ≤ 160 := by
  obtain ⟨n, h1, h2, h3, h4⟩ := trie_of m h.srt h.keys (fun e he => ⟨(h.vals e he).1, by have := (h.vals e he).2; omega⟩)
  have := h.len
  exact ⟨n, h1, h2, small_of h2 h3, by omega⟩
theorem Makes_calls (w : World) {o o2 o3 : Option Addr} {k k2 k3 : Nat} {m : List (By × By)} {gone : Int} {bad key : By} (hm : StR w o m) (hbad : RdB w o2 bad) (hbk : bad.length ≤ k2) (hkey : RdB w o3 key) :
    Calls Try.prog morainelaw16_ProofMakes.n #[.slice o m.length k, .int .i64 gone, .slice o2 bad.length k2, .slice o3 key.length k3] w (fun e w' => e = .returned (.bool true) ∧ Vcg.Mod NoB w w') := by
  refine morainelaw16_ProofMakes.vc _ _ _ _ _ _ _ _ _ _ _ _ ?_
  unfold morainelaw16_ProofMakes.Vc
  refine (known16_calls w).mono ?_
  rintro _ w1 ⟨rfl, M1⟩
  refine ⟨_, rfl, fun h => (by cases h), fun _ => ?_⟩
  refine (few16_calls (k := k) (hm.mod' M1)).mono ?_
  rintro _ w2 ⟨bf, rfl, hfew, M12⟩
  have M2 := M1.none_trans M12
  refine ⟨_, rfl, fun _ => ⟨rfl, M2⟩, fun hbf => ⟨fun _ => ⟨rfl, M2⟩, fun hbl => ?_⟩⟩
  have hf := hfew hbf
  obtain ⟨n, q1, q2, q3, q4⟩ := hf.trie
  have hnl := nodes_len n
  refine (Of_calls (k := k) (hm.mod' M2).kv hf.kv q1 q2 q3 (by omega) 0).mono ?_
  rintro _ w3 ⟨o3', k3', rfl, M23, N3⟩
  have M3 := M2.none_trans M23
  refine ⟨_, _, _, _, rfl, ?_⟩
  rintro d w4 ⟨rfl, rfl⟩
  have H4 := Blk.new w3 26 (Array.replicate 32 (.int .u8 0))
  obtain ⟨g1, g2, g3⟩ := hash_store H4 (by simp) (rootOf n)
  have M34 := mod_of (Mod.alloc w3 (.cells (Array.replicate 32 (.int .u8 0)) 26)) g3 (Nat.le_refl _)
  refine ⟨_, g1, ?_⟩
  have M4 := M3.none_trans M34
  have N4 : NdRow _ (fun _ => 0) 0 (nodesOf n) o3' (nodesOf n).length := (N3.stp (S := NoS) (Stp.of_nob M34 0) (fun h => h)).re (lab' := fun _ => 0) (c' := 0) (fun _ _ _ => rfl)
  generalize w3.heap.size = D at *
  generalize ((w3.alloc (.cells (Array.replicate 32 (.int .u8 0)) 26)).setRow D (hashA (rootOf n))) = w4 at *
  refine (rNodes_calls (k := k3') N4 (nodes_bytes q3) (by omega) 0).mono ?_
  rintro _ w5 ⟨o5, k5, rfl, _, M45, N5⟩
  have M5 := M4.none_trans M45
  refine ⟨_, _, _, rfl, ?_⟩
  refine (turned_calls (k := k5) (gone := gone) N5 (by omega) (hbad.mod' M5) hbk).mono ?_
  rintro _ w6 ⟨o6, k6, rfl, M56, N6⟩
  have M6 := M5.none_trans M56
  have H6 := (g2.mod' M45).mod' M56
  have htl := turnL_len (nodesOf n) gone bad
  refine ⟨_, _, _, rfl, _, H6.rowAll (size_hashA _), ?_⟩
  refine (Prove_calls (root := rootOf n) (k := k6) (kk := k3) N6 (by omega) (fun x hx => ?_) (length_sumOf _) (hkey.mod' M6)).mono ?_
  · rcases mem_turnL hx with h | h
    · have := nodes_bytes q3 x h; omega
    · rw [h]; omega
  intro e7 w7 hp7
  obtain ⟨M67, o7, k7, l7, c7, cb7, rfl, hO7⟩ := hp7.ans
  have M7 := M6.none_trans M67
  refine ⟨_, _, _, _, rfl, _, (H6.mod' M67).rowAll (size_hashA _), ?_⟩
  refine (rProve_calls (root := rootOf n) (k := k6) (kk := k3) (N6.stp (S := NoS) (Stp.of_nob M67 0) (fun h => h)) (by omega) (length_sumOf _) (hkey.mod' M7)).mono ?_
  intro e8 w8 hp8
  obtain ⟨M78, o8, k8, l8, c8, cb8, rfl, hO8⟩ := hp8.ans
  have M8 := M7.none_trans M78
  obtain ⟨_, hL7⟩ := hO7.any M78
  obtain ⟨_, hL8⟩ := hO8.any (Mod.refl w8)
  refine ⟨_, _, _, _, rfl, fun _ => ?_, fun h => (h rfl).elim⟩
  have hlen : (pAns (proveR (turnL (nodesOf n) gone bad) (rootOf n) key)).1.length ≤ 2 ^ 63 - 1 := by
    obtain ⟨_, vs, hh, hl⟩ := hO7
    have h1 := hh.own.cap
    simp only [maxLen] at h1
    omega
  refine (Lists_calls (k := k7) (k2 := k8) hL7 hL8 hlen).mono ?_
  rintro _ w9 ⟨rfl, M9⟩
  exact ⟨_, rfl, by rw [decide_eq_true rfl], M8.none_trans M9⟩
end Go.Proofs.Ytfghidehlnfdiaa
end
section
namespace Go.Proofs.Ytfghidehlnfdiaa
open Go Go.Vcg Go.Trie
theorem open_kvs {H : Type} {enc : TypeId × Value → H} {W : World} {sp : Nat → Bool} {held : Bool} {base : Nat} {fuel : Nat} {v : Value} {d : DataW H} {ps : List MemPlace} (h : DataW.trod enc Try.prog W base sp held fuel 44 [v] = some (d, ps)) :
    ∃ o c l, v = .slice o l.length c ∧ l.length ≤ c ∧ StR W o l := by
  obtain ⟨o, c, l, h1, h2, h3, _⟩ := open_kvsB und_slKv (by kernel_rfl) Try.underlying93 rfl rfl rfl rfl rfl rfl h
  exact ⟨o, c, l, h1, h2, h3⟩
end Go.Proofs.Ytfghidehlnfdiaa
end
