/- Contracts: way (package proof). -/
/- Contracts: stored, bytesOf, what Prove asks (package proof); lists of bytes. -/
/- Contracts: bytesOf, what Prove asks; lists of bytes in memory. -/
/- Contracts: caught (package proof), deferred; how Prove and Verify are left. -/
/- Contracts: Prove (package proof). -/
/- Contracts: the reference's Down, find (moraineref14). -/
import Derived.Test.YtfghidehlnfdiaaPW4
import Derived.Test.YtfghidehlnfdiaaTVW
import Derived.Recover
set_option linter.unusedVariables false
set_option linter.unusedSimpArgs false
section
namespace Go.Proofs.Ytfghidehlnfdiaa
open Go Go.Vcg Go.Trie
structure RVar (w : World) (lab : Nat → Nat) (D : Nat) (x : It) : Prop where
  lab5 : lab D = 5
  at_ : ∃ L, Blk w D tRef L ∧ RfC (fun b => lab b ≠ 6) w x L
theorem RVar.stp {S : Nat → Prop} {w w' : World} {lab lab' : Nat → Nat} {D : Nat} {x : It} (h : RVar w lab D x) (s : Stp S w lab w' lab') (h5 : ¬ S 5) (h6 : ¬ S 6) : RVar w' lab' D x := by
  obtain ⟨h1, L, h2, h3⟩ := h
  exact ⟨(s.lab D h2.lt).trans h1, L, ⟨(s.block D h2.lt (by rw [h1]; exact h5)).trans h2, h3.stp s h6⟩⟩
theorem rvar_new {w : World} {lab : Nat → Nat} {x : It} {L : Array Value} (h : RfC (fun b => lab b ≠ 6) w x L) :
    ∃ w', Sem.run Try.prog (Instr.storeAt tRef (.pointer (some ⟨w.heap.size, 0, none⟩)) (.agg L)) (w.alloc (.cells (rfA zeros32 none false) 193)) = .ok () w' ∧ RVar w' (ext lab w.heap.size 5) w.heap.size x ∧ Stp NoS w lab w' (ext lab w.heap.size 5) := by
  have M1 := Mod.alloc (S := NoB) w (.cells (rfA zeros32 none false) 193)
  have H1 := Blk.new w 193 (rfA zeros32 none false)
  obtain ⟨w2, hr2, H2, Q2⟩ := ref_store (x := x) (A := fun _ => False) (w0 := w) H1 (size_rfA rfl _ _) h.size h.one
  have M2 : Vcg.Mod NoB w w2 := mod_of M1 Q2 (Nat.le_refl _)
  have s : Stp NoS w lab w2 (ext lab w.heap.size 5) := Stp.of_nob M2 5
  exact ⟨w2, hr2, ⟨ext_new (Nat.le_refl _), L, H2, h.stp s (fun h => h)⟩, s⟩
theorem RVar.set {w w' : World} {lab lab' : Nat → Nat} {D N : Nat} {x : It} (h : RVar w lab D x) (Q : Vcg.Mod (· = N) w w') (s : Stp (· = 5) w lab w' lab') (hne : D ≠ N) : RVar w' lab' D x := by
  obtain ⟨h1, L, h2, h3⟩ := h
  exact ⟨(s.lab D h2.lt).trans h1, L, h2.mod Q hne, h3.stp s (by decide)⟩
theorem next_ref {w : World} {lab : Nat → Nat} {D : Nat} {x y : It} {L : Array Value} {P : Addr → World → Prop} (V : RVar w lab D x) (hL : RfC (fun b => lab b ≠ 6) w y L) (K : ∀ w' lab' D', Stp (· = 5) w lab w' lab' → RVar w' lab' D' y → P ⟨D', 0, none⟩ w') :
    ∃ w120 : World, Sem.run Try.prog (Instr.storeAt 193 (.pointer (some ⟨D, 0, none⟩)) (.agg L)) w = .ok () w120 ∧
      ∃ L121 : Array Value, RowAt w120 ⟨D, 0, none⟩ 34 L121 ∧
      ∀ (d122 : Addr) (w123 : World), IsNew w120 193 #[(.int .u8 0), (.int .u8 0), (.int .u8 0), (.int .u8 0), (.int .u8 0), (.int .u8 0), (.int .u8 0), (.int .u8 0), (.int .u8 0), (.int .u8 0), (.int .u8 0), (.int .u8 0), (.int .u8 0), (.int .u8 0), (.int .u8 0), (.int .u8 0), (.int .u8 0), (.int .u8 0), (.int .u8 0), (.int .u8 0), (.int .u8 0), (.int .u8 0), (.int .u8 0), (.int .u8 0), (.int .u8 0), (.int .u8 0), (.int .u8 0), (.int .u8 0), (.int .u8 0), (.int .u8 0), (.int .u8 0), (.int .u8 0), (.pointer none), (.bool false)] d122 w123 →
      ∃ w124 : World, Sem.run Try.prog (Instr.storeAt 193 (.pointer (some d122)) (.agg L121)) w123 = .ok () w124 ∧ P d122 w124 := by
  obtain ⟨h5, L0, B, hr⟩ := V
  obtain ⟨w1, hr1, B1, Q1⟩ := ref_store (x := y) (A := fun _ => False) (w0 := w) B hr.size hL.size hL.one
  have s1 : Stp (· = 5) w lab w1 (ext lab w.heap.size 5) := Stp.of_mod Q1 5 (fun k _ e => by rw [e]; exact h5)
  have hL1 := hL.stp s1 (by decide)
  refine ⟨w1, hr1, L, B1.rowAll hL.size, ?_⟩
  rintro d w2 ⟨rfl, rfl⟩
  rw [ref0_eq]
  obtain ⟨w3, hr3, V3, s3⟩ := rvar_new hL1
  exact ⟨w3, hr3, K w3 _ _ (s1.trans (s3.mono (fun _ h => h.elim))) V3⟩
theorem setN {w : World} {lab : Nat → Nat} {N : Nat} {a b c d : Value} {b1 : Bool} {s1 s2 s3 : Option Addr × Nat × Nat} {R' : World → Prop} (X : CB w lab 5 N 197 #[a, b, c, d]) (K : ∀ w' lab', Vcg.Mod (· = N) w w' → Stp (· = 5) w lab w' lab' → CB w' lab' 5 N 197 #[.bool b1, .slice s1.1 s1.2.1 s1.2.2, .slice s2.1 s2.2.1 s2.2.2, .slice s3.1 s3.2.1 s3.2.2] → R' w') :
    CanSet w ⟨N, 0, none⟩ (.bool b1) ∧ ∀ w1 : World, IsSet w ⟨N, 0, none⟩ (.bool b1) w1 → CanSet w1 (Addr.add ⟨N, 0, none⟩ 1) (.slice s1.1 s1.2.1 s1.2.2) ∧ ∀ w2 : World, IsSet w1 (Addr.add ⟨N, 0, none⟩ 1) (.slice s1.1 s1.2.1 s1.2.2) w2 → CanSet w2 (Addr.add ⟨N, 0, none⟩ 2) (.slice s2.1 s2.2.1 s2.2.2) ∧ ∀ w3 : World, IsSet w2 (Addr.add ⟨N, 0, none⟩ 2) (.slice s2.1 s2.2.1 s2.2.2) w3 →
      CanSet w3 (Addr.add ⟨N, 0, none⟩ 3) (.slice s3.1 s3.2.1 s3.2.2) ∧ ∀ w4 : World, IsSet w3 (Addr.add ⟨N, 0, none⟩ 3) (.slice s3.1 s3.2.1 s3.2.2) w4 → R' w4 :=
  set4 X.blk rfl rfl rfl rfl (fun w' B' Q => K w' _ Q (Stp.of_mod Q 5 (fun k _ e => by rw [e]; exact X.clr)) ⟨B', (ext_old X.blk.lt).trans X.clr⟩)
theorem val_len {xs : List It} {v : By} {j : Nat} (hg : Good (.l xs)) (hj : j < xs.length) (h : xs.getD j (.s []) = .s v) : v.length ≤ 2 ^ 40 := by
  obtain ⟨g, _, hf⟩ := hg.node
  rw [getD_at hj] at h
  have hm := hf.mem (List.getElem_mem hj)
  rw [h] at hm
  have : v.length ≤ (enc (.s v)).length := by
    simp only [enc]
    split
    · exact Nat.le_refl _
    · rw [List.length_append]; omega
  have := hm.2.2
  omega
def WayIs (r : Except Int By) (w' : World) (lab' : Nat → Nat) (e : Ending) : Prop := match r with
  | .error er => e = .panicked (faultOf er) ∧ er ≠ 0
  | .ok v => ∃ o k, e = .returned (.tuple #[.slice o v.length k, .bool (decide (v ≠ []))]) ∧ CBy w' lab' 6 o v
section
variable {σ : Type} {ask : Value} {T : Nat → Prop} {Inv : World → (Nat → Nat) → σ → Prop} {step : σ → By → σ × Except Int By} {can : σ → Nat → Prop}
theorem way_calls (ok : AskOK ask T Inv step can) {w0 : World} {lab0 : Nat → Nat} {s0 : σ} {h key : By} {o : Option Addr} {k : Nat} (hI : Inv w0 lab0 s0) (hcan : can s0 129) (hh : h.length = 32) (hr : RdB w0 o key) (hkl : key.length ≤ 64) :
    Calls Try.prog proof_way.n #[.agg (hashA h), .slice o key.length k, ask] w0 (fun e w' => ∃ lab', Stp (fun c => c = 5 ∨ T c) w0 lab0 w' lab' ∧ Inv w' lab' (way step s0 (rootIt h) (nibbles key)).1 ∧ WayIs (way step s0 (rootIt h) (nibbles key)).2 w' lab' e) := by
  have hT : ∀ w w' lab lab' s, Inv w lab s → Stp NoS w lab w' lab' → Inv w' lab' s := fun w w' lab lab' s hI st => ok.stp hI (st.mono (fun _ h => h.elim))
  refine calls_gen fun R hR => proof_way.vc _ _ _ _ _ _ _ ?_
  unfold proof_way.Vc
  rintro d3 w1 ⟨rfl, rfl⟩
  have M1 := Mod.alloc (S := NoB) w0 (.cells (hashA h) 26)
  have X1 := Blk.new w0 26 (hashA h)
  have hr1 := hr.mod' M1
  generalize w0.heap.size = D3 at *
  generalize w0.alloc (.cells (hashA h) 26) = w1 at *
  refine (Nibbles_calls (k := k) hr1 (by omega)).mono ?_
  rintro _ w2 ⟨op, kp, rfl, F2⟩
  have X2 := X1.mod' F2.mod
  have M2 := M1.none_trans F2.mod
  refine .inr ⟨_, _, _, rfl, hashA h, X2.rowAll (size_hashA _), ?_⟩
  have hnl := nibbles_len key
  have hpc := F2.own.cap.1
  -- what is made so far
  have s02 : Stp NoS w0 lab0 w2 (ext lab0 w0.heap.size 6) := Stp.of_nob M2 6
  have I2 := hT _ _ _ _ _ hI s02
  have P2 : CBy w2 (ext lab0 w0.heap.size 6) 6 op (nibbles key) := ⟨F2.own.bytes, fun _ d hd => ext_new (by have := F2.new d.block ⟨d, hd, rfl⟩; have := M1.size; omega)⟩
  generalize ext lab0 w0.heap.size 6 = lab2 at *
  refine (rootOf_calls (A := fun b => ext lab2 w2.heap.size 6 b ≠ 6) hh).mono ?_
  rintro _ w3 ⟨L, rfl, M3, hL⟩
  have s23 : Stp NoS w2 lab2 w3 (ext lab2 w2.heap.size 6) := Stp.of_nob M3 6
  have I3 := hT _ _ _ _ _ I2 s23
  have P3 := P2.stp s23 (fun h => h)
  have s03 := s02.trans s23
  generalize ext lab2 w2.heap.size 6 = lab3 at *
  refine .inr ⟨L, rfl, ?_⟩
  rintro d14 w4 ⟨rfl, rfl⟩
  rw [ref0_eq]
  obtain ⟨w5, hr5, V5, s35⟩ := rvar_new hL
  have I5 := hT _ _ _ _ _ I3 s35
  have P5 := P3.stp s35 (fun h => h)
  have s05 := s03.trans s35
  generalize ext lab3 w3.heap.size 5 = lab5 at *
  refine ⟨w5, hr5, fun o l c d w' => ∃ (lab : Nat → Nat) (s : σ) (x : It) (path : By) (D : Nat), d = ⟨D, 0, none⟩ ∧ Stp (fun c => c = 5 ∨ T c) w0 lab0 w' lab ∧ Inv w' lab s ∧ can s (path.length + 1) ∧ RVar w' lab D x ∧ Good x ∧ CBy w' lab 6 o path ∧ l = path.length ∧ path.length ≤ c ∧ path.length ≤ 128 ∧ (∀ n ∈ path, n.toNat < 16) ∧ way step s x path = way step s0 (rootIt h) (nibbles key),
    fun _ l _ _ _ => l, ⟨lab5, s0, rootIt h, nibbles key, _, rfl, s05.mono (fun _ h => h.elim), I5, ok.le hcan (by omega), V5, good_root hh, P5, rfl, hpc, by omega, nib_lt key, rfl⟩, ?_⟩
  clear I5 V5 P5 s05 hr5 s35 I3 P3 s03 hL M3 s23 I2 P2 s02 X2 M2 F2 X1 M1 hr1
  rintro o l c d _ w6 ⟨lab6, s, x, path, D, rfl, s06, I6, hc6, V6, hg, P6, rfl, hpc, hpl, hnib, heq⟩
  have h5 : ¬ T 5 := ok.s5
  have h6 : ¬ T 6 := ok.s6
  -- the end
  have done : ∀ (w' : World) (lab' : Nat → Nat) (s' : σ) (r : Except Int By) (e : Ending), Stp (fun c => c = 5 ∨ T c) w6 lab6 w' lab' → Inv w' lab' s' → way step s x path = (s', r) → WayIs r w' lab' e → R e w' := by
    intro w' lab' s' r e st hI' hw hi
    rw [hw] at heq
    rw [← heq] at hR
    exact hR e w' ⟨lab', s06.trans st, hI', hi⟩
  obtain ⟨hl5, L6, B6, hrf⟩ := id V6
  have cell33 : ∀ {v : Value}, L6[33]? = some v → World.cell? w6 (Addr.add ⟨D, 0, none⟩ 33) = some v := fun hv => by rw [add_at]; exact B6.rd1 hv
  refine ⟨!isE x, ?_, fun hb => ?_, fun hb => ?_⟩
  · refine cell33 ?_
    cases x with
    | s b =>
      rcases hrf with ⟨rfl, h', hh', _, rfl⟩ | ⟨hb32, rfl⟩
      · exact rfA_33 hh'
      · cases b with
        | nil => cases hb32
        | cons a r => exact rfA_33 (hashL_len _)
    | l xs => obtain ⟨Dx, v1, v2, v3, rfl, _⟩ := hrf; exact rfA_33 rfl
  · -- a node is there
    rintro d22 w7 ⟨rfl, rfl⟩
    have s67 : Stp NoS w6 lab6 (w6.alloc (.cells #[.bool false, .slice none 0 0, .slice none 0 0, .slice none 0 0] 197)) (ext lab6 w6.heap.size 5) := Stp.alloc NoS w6 lab6 _ 5
    have N7 := CB.new w6 lab6 5 197 #[.bool false, .slice none 0 0, .slice none 0 0, .slice none 0 0]
    have I7 := hT _ _ _ _ _ I6 s67
    have V7 := V6.stp s67 (fun h => h) (fun h => h)
    have P7 := P6.stp s67 (fun h => h)
    have hDlt := B6.lt
    generalize w6.heap.size = N at *
    generalize w6.alloc (.cells #[.bool false, .slice none 0 0, .slice none 0 0, .slice none 0 0] 197) = w7 at *
    generalize ext lab6 N 5 = lab7 at *
    refine ⟨fun w' => ∃ (lab' : Nat → Nat) (s' : σ) (xs : List It) (b : Bool) (s1 s2 s3 : Option Addr × Nat × Nat), Stp (fun c => c = 5 ∨ T c) w7 lab7 w' lab' ∧ Inv w' lab' s' ∧ can s' path.length ∧ RVar w' lab' D x ∧ CBy w' lab' 6 o path ∧
      CB w' lab' 5 N 197 #[.bool b, .slice s1.1 s1.2.1 s1.2.2, .slice s2.1 s2.2.1 s2.2.2, .slice s3.1 s3.2.1 s3.2.2] ∧ NvC (fun b => lab' b ≠ 6) w' xs b s1 s2 s3 ∧ Good (.l xs) ∧ way step s x path = nodeW (way step) s' xs path, ?_, ?_⟩
    · -- how the node is got
      obtain ⟨hl7, L7, B7, hrf7⟩ := id V7
      cases x with
      | l xs =>
        obtain ⟨Dx, v1, v2, v3, rfl, hADx, BDx, hit⟩ := hrf7
        obtain ⟨b, p1, q1, r1, p2, q2, r2, rfl, rfl, rfl⟩ := hit.vals
        have hcell : World.cell? w7 (Addr.add ⟨D, 0, none⟩ 32) = some (.pointer (some ⟨Dx, 0, none⟩)) := by rw [add_at]; exact B7.rd1 (rfA_32 rfl)
        refine ⟨_, hcell, fun _ => ⟨_, hcell, _, rfl, get3 BDx ?_⟩, fun h => (by cases h)⟩
        refine (nodeOf_calls (A := fun b => ext lab7 w7.heap.size 6 b ≠ 6) hg (fun b hb h => h (ext_new hb)) (ItC.restr (fun b hb h => by rwa [ext_old hb] at h) hit)).mono ?_
        rintro _ w8 ⟨bb, s1, s2, s3, rfl, M8, hn8⟩
        have s78 : Stp NoS w7 lab7 w8 (ext lab7 w7.heap.size 6) := Stp.of_nob M8 6
        have I8 := hT _ _ _ _ _ I7 s78
        have V8 := V7.stp s78 (fun h => h) (fun h => h)
        have P8 := P7.stp s78 (fun h => h)
        have N8 := N7.stp s78 (fun h => h)
        generalize ext lab7 w7.heap.size 6 = lab8 at *
        refine .inr ⟨_, _, _, _, _, _, _, _, _, _, rfl, ?_⟩
        refine setN (b1 := bb) (s1 := s1) (s2 := s2) (s3 := s3) N8 (fun w9 lab9 Q9 s89 N9 => ?_)
        have hne : D ≠ N := by omega
        exact ⟨lab9, s, xs, bb, s1, s2, s3, (s78.mono (fun _ h => h.elim)).trans (s89.mono (fun _ h => .inl h)), ok.stp I8 s89, ok.le hc6 (by omega), V8.set Q9 s89 hne, P8.stp s89 (by decide), N9, hn8.stp s89 (by decide), hg, way_list hg hnib⟩
      | s b =>
        rcases hrf7 with ⟨rfl, _⟩ | ⟨hb32, rfl⟩
        · cases hb
        have hbn : b ≠ [] := by rintro rfl; cases hb32
        have hcell : World.cell? w7 (Addr.add ⟨D, 0, none⟩ 32) = some (.pointer none) := by rw [add_at]; exact B7.rd1 (rfA_32 (hashL_len _))
        refine ⟨_, hcell, fun h => (h rfl).elim, fun _ => ⟨hashA b, B7.rowAt (size_hashA b) (fun i hi => by rw [Nat.zero_add, rfA_lo (hashL_len _) hi, Array.getElem?_toList]), ?_⟩⟩
        refine CallsV.mono (ok.run I7 hc6 hb32) ?_
        rintro e w8 ⟨lab8, s78, I8, hc8, herr, hok⟩
        have V8 := V7.stp s78 h5 h6
        have P8 := P7.stp s78 h6
        have N8 := N7.stp s78 h5
        have st68 : Stp (fun c => c = 5 ∨ T c) w6 lab6 w8 lab8 := (s67.mono (fun _ h => h.elim)).trans (s78.mono (fun _ h => .inr h))
        cases hst : step s b with
        | mk s' r =>
          rw [hst] at I8 hc8 herr hok
          cases r with
          | error er =>
            obtain ⟨rfl, hne⟩ := herr er rfl
            exact .inl ⟨_, rfl, done w8 lab8 s' _ _ st68 I8 (way_bad hbn hst) ⟨rfl, hne⟩⟩
          | ok bs =>
            obtain ⟨ob, kb, rfl, hr8, hk8⟩ := hok bs rfl
            refine .inr ⟨_, _, _, rfl, ?_⟩
            refine (parsed_calls (A := fun b => ext lab8 w8.heap.size 6 b ≠ 6) (fun b hb h => h (ext_new hb)) hr8 hk8).mono ?_
            rintro e w9 ⟨M9, h0, hne⟩
            have s89 : Stp NoS w8 lab8 w9 (ext lab8 w8.heap.size 6) := Stp.of_nob M9 6
            have I9 := hT _ _ _ _ _ I8 s89
            have V9 := V8.stp s89 (fun h => h) (fun h => h)
            have P9 := P8.stp s89 (fun h => h)
            have N9 := N8.stp s89 (fun h => h)
            generalize ext lab8 w8.heap.size 6 = lab9 at *
            have hDN : D ≠ N := by omega
            by_cases hck : checkOf bs = 0
            · obtain ⟨xs, bb, s1, s2, s3, hdc, hgx, rfl, hn9⟩ := h0 hck
              refine .inr ⟨_, _, _, _, _, _, _, _, _, _, _, rfl, ?_⟩
              refine setN (b1 := bb) (s1 := s1) (s2 := s2) (s3 := s3) N9 (fun w10 lab10 Q10 s910 N10 => ?_)
              refine (gives_calls w10 0).mono ?_
              rintro e w11 ⟨rfl, he⟩
              rw [if_pos rfl] at he
              exact .inr ⟨he, lab10, s', xs, bb, s1, s2, s3, ((s78.mono (fun _ h => .inr h)).trans (s89.mono (fun _ h => h.elim))).trans (s910.mono (fun _ h => .inl h)), ok.stp I9 s910, hc8, V9.set Q10 s910 hDN, P9.stp s910 (by decide), N10, hn9.stp s910 (by decide), hgx, way_hash hbn hst hck hdc hgx hnib⟩
            · have he := hne hck
              subst he
              refine .inr ⟨_, _, _, _, _, _, _, _, _, _, _, rfl, ?_⟩
              refine setN (b1 := false) (s1 := (none, 0, 0)) (s2 := (none, 0, 0)) (s3 := (none, 0, 0)) N9 (fun w10 lab10 Q10 s910 N10 => ?_)
              refine (gives_calls w10 161).mono ?_
              rintro e w11 ⟨rfl, he⟩
              rw [if_neg (by decide)] at he
              subst he
              exact .inl ⟨_, rfl, done _ lab10 s' _ _ ((st68.trans (s89.mono (fun _ h => h.elim))).trans (s910.mono (fun _ h => .inl h))) (ok.stp I9 s910) (way_form hbn hst hck) ⟨rfl, by decide⟩⟩
    · -- what is done with the node
      rintro _ w8 ⟨lab8, s', xs, b, s1, s2, s3, s78, I8, hc8, V8, P8, N8, hn, hgx, hway⟩
      have st68 : Stp (fun c => c = 5 ∨ T c) w6 lab6 w8 lab8 := (s67.mono (fun _ h => h.elim)).trans s78
      have c1 : World.cell? w8 (Addr.add ⟨N, 0, none⟩ 1) = some (.slice s1.1 s1.2.1 s1.2.2) := by rw [add_at]; exact N8.blk.rd1 rfl
      have c2 : World.cell? w8 (Addr.add ⟨N, 0, none⟩ 2) = some (.slice s2.1 s2.2.1 s2.2.2) := by rw [add_at]; exact N8.blk.rd1 rfl
      have c3 : World.cell? w8 (Addr.add ⟨N, 0, none⟩ 3) = some (.slice s3.1 s3.2.1 s3.2.2) := by rw [add_at]; exact N8.blk.rd1 rfl
      have none_ : ∀ (w' : World) (lab' : Nat → Nat), Stp NoS w8 lab8 w' lab' → way step s x path = (s', .ok []) → R (.returned (.tuple #[.slice none 0 0, .bool false])) w' := fun w' lab' st hw =>
        done w' lab' s' _ _ (st68.trans (st.mono (fun _ h => h.elim))) (hT _ _ _ _ _ I8 st) hw ⟨none, 0, rfl, CBy.nil _ _ _ _⟩
      refine ⟨b, N8.blk.rd1 rfl, fun hbt => ?_, fun hbf => ?_⟩
      · -- a leaf
        subst hbt
        rcases hn with ⟨p, v, hx2, he, hv1, _, hp1, hpr, _, hv3, hvr⟩ | ⟨p, D', L, _, _, hf, _⟩ | ⟨g, v, _, _, hf, _⟩
        · obtain ⟨o1, l1, k1⟩ := s1
          obtain ⟨o3, l3, k3⟩ := s3
          dsimp only at hp1 hv3 hpr hvr c1 c3
          subst hp1 hv3
          refine ⟨_, _, _, c1, ?_⟩
          refine (Equal_calls hpr.1 P8.rd).mono ?_
          rintro _ w9 ⟨rfl, rfl⟩
          refine .inr ⟨_, rfl, _, _, _, c3, ?_⟩
          obtain ⟨p', lf, he', hlv, _⟩ := hgx.two hx2
          rw [he] at he'
          cases he'
          obtain ⟨v', hv', hvn⟩ := hlv rfl
          rw [hv1] at hv'
          cases hv'
          refine (valueIf_calls (ok := decide (p = path)) hvr.1 (val_len hgx (by omega) hv1)).mono ?_
          rintro _ w10 ⟨o', k', rfl, M10, R10, N10⟩
          have s810 : Stp NoS w9 lab8 w10 (ext lab8 w9.heap.size 6) := Stp.of_nob M10 6
          refine .inr ⟨_, _, _, _, rfl, ?_⟩
          have hres : way step s x path = (s', .ok (if decide (p = path) = true then v else [])) := by
            rw [hway, node_leaf hx2 he, hv1]
            simp only [decide_eq_true_eq]; rfl
          refine done w10 _ s' _ _ (st68.trans (s810.mono (fun _ h => h.elim))) (hT _ _ _ _ _ I8 s810) hres ⟨o', k', ?_, R10, fun _ d hd => ext_new (N10 d hd)⟩
          congr 4
          by_cases hpp : p = path
          · simp [hpp, hvn]
          · simp [hpp]
        · cases hf
        · cases hf
      · subst hbf
        refine get4 N8.blk ?_
        refine isBranch_calls.mono ?_
        rintro _ w9 ⟨rfl, M9⟩
        have s89 : Stp NoS w8 lab8 w9 (ext lab8 w8.heap.size 6) := Stp.of_nob M9 6
        have I9 := hT _ _ _ _ _ I8 s89
        have V9 := V8.stp s89 (fun h => h) (fun h => h)
        have P9 := P8.stp s89 (fun h => h)
        have N9 := N8.stp s89 (fun h => h)
        have hn9 := hn.stp s89 (fun h => h)
        have st69 := st68.trans (s89.mono (fun _ h => h.elim))
        generalize ext lab8 w8.heap.size 6 = lab9 at *
        have none9 : ∀ (w' : World) (lab' : Nat → Nat), Stp NoS w9 lab9 w' lab' → way step s x path = (s', .ok []) → R (.returned (.tuple #[.slice none 0 0, .bool false])) w' := fun w' lab' st hw =>
          done w' lab' s' _ _ (st69.trans (st.mono (fun _ h => h.elim))) (hT _ _ _ _ _ I9 st) hw ⟨none, 0, rfl, CBy.nil _ _ _ _⟩
        clear none_ c1 c2 c3 hn N8 P8 V8 I8 M9
        have c1 : World.cell? w9 (Addr.add ⟨N, 0, none⟩ 1) = some (.slice s1.1 s1.2.1 s1.2.2) := by rw [add_at]; exact N9.blk.rd1 rfl
        have c2 : World.cell? w9 (Addr.add ⟨N, 0, none⟩ 2) = some (.slice s2.1 s2.2.1 s2.2.2) := by rw [add_at]; exact N9.blk.rd1 rfl
        have c3 : World.cell? w9 (Addr.add ⟨N, 0, none⟩ 3) = some (.slice s3.1 s3.2.1 s3.2.2) := by rw [add_at]; exact N9.blk.rd1 rfl
        rcases hn9 with ⟨p, v, _, _, _, hf, _⟩ | ⟨p, D', L, hx2, he, _, hp1, hpr, hs2, hAD', BD', hrL, hs3⟩ | ⟨g, v, hx17, hv16, _, hs1, hs2, hs2l, hgl, hAg, hkids, hv3, hvr⟩
        · cases hf
        · -- a row
          obtain ⟨o1, l1, k1⟩ := s1
          dsimp only at hp1 hpr c1
          subst hp1 hs2 hs3
          dsimp only at c2
          refine .inr ⟨_, rfl, fun _ => ⟨_, _, _, c1, ?_⟩, fun h => (by simp at h)⟩
          refine (CutPrefix_calls P9.rd hpc hpr.1).mono ?_
          rintro e w10 ⟨rfl, hcut⟩
          obtain ⟨p', lf, he', _, hrow⟩ := hgx.two hx2
          rw [he] at he'
          cases he'
          obtain ⟨hpn, hgy, _⟩ := hrow rfl
          by_cases hpre : p.isPrefixOf path = true
          · rw [if_pos hpre] at hcut
            subst hcut
            have hle : p.length ≤ path.length := (List.isPrefixOf_iff_prefix.1 hpre).length_le
            have hppos : 0 < p.length := List.length_pos_iff.2 hpn
            refine .inr ⟨_, _, _, _, rfl, fun h => (by cases h), fun _ => ⟨_, _, _, c2, _, rfl, ⟨by decide, by decide⟩, L, by rw [add_at]; exact BD'.rowAll hrL.size, ?_⟩⟩
            refine next_ref V9 hrL (fun w11 lab11 D11 s911 V11 => ?_)
            have P11 := P9.stp s911 (by decide)
            have hdl : (path.drop p.length).length = path.length - p.length := List.length_drop
            have P12 : CBy w11 lab11 6 (subO o c p.length 1) (path.drop p.length) := by
              have := P11.sub (cap := c) (lo := p.length) (n := path.length - p.length) hpc
              rwa [← hdl, List.take_length] at this
            refine ⟨⟨lab11, s', _, path.drop p.length, D11, rfl, (s06.trans st69).trans (s911.mono (fun _ h => .inl h)), ok.stp I9 s911, ok.le hc8 (by omega), V11, hgy, P12, hdl.symm, by omega, by omega, fun n hnq => hnib n ((List.drop_suffix _ _).subset hnq), ?_⟩, by dsimp only; omega⟩
            rw [← heq, hway, node_row hx2 he, if_pos hpre]
          · rw [if_neg hpre] at hcut
            subst hcut
            refine .inr ⟨_, _, _, _, rfl, fun _ => ?_, fun h => (by cases h)⟩
            exact none9 _ _ (Stp.refl _ _ _) (by rw [hway, node_row hx2 he, if_neg hpre])
        · -- a branch
          obtain ⟨o2, l2, k2⟩ := s2
          obtain ⟨o3, l3, k3⟩ := s3
          dsimp only at hs2 hs2l hv3 hvr c2 c3
          subst hs2 hs2l hv3
          refine .inr ⟨_, rfl, fun h => (by simp at h), fun _ => ⟨fun hl0 => ?_, fun hl0 => ?_⟩⟩
          · have hp0 : path = [] := List.eq_nil_of_length_eq_zero (by omega)
            refine ⟨_, _, _, c3, _, _, _, c3, ?_⟩
            refine (valueIf_calls (ok := decide (((v.length : Nat) : Int) > 0)) hvr.1 (val_len hgx (by omega) hv16)).mono ?_
            rintro _ w10 ⟨o', k', rfl, M10, R10, N10⟩
            have s910 : Stp NoS w9 lab9 w10 (ext lab9 w9.heap.size 6) := Stp.of_nob M10 6
            refine .inr ⟨_, _, _, _, rfl, ?_⟩
            have hvv : (if decide (((v.length : Nat) : Int) > 0) = true then v else []) = v := by
              cases v with
              | nil => simp
              | cons a r => rw [if_pos (by simp)]
            rw [hvv] at R10 ⊢
            have hres : way step s x path = (s', .ok v) := by
              rw [hway, hp0, node_end (by omega), hv16]; rfl
            refine done w10 _ s' _ _ (st69.trans (s910.mono (fun _ h => h.elim))) (hT _ _ _ _ _ I9 s910) hres ⟨o', k', ?_, R10, fun _ d hd => ext_new (N10 d hd)⟩
            congr 4
            cases v with
            | nil => rfl
            | cons a r => rw [decide_eq_true (by simp), decide_eq_true (by simp)]
          · cases path with
            | nil => exact (hl0 rfl).elim
            | cons n r =>
              rintro _ rfl
              have s910 : Stp NoS w9 lab9 w9.drew lab9 := Stp.drew NoS w9 lab9
              have MD := Mod.drew (S := NoB) w9
              have I10 := hT _ _ _ _ _ I9 s910
              have V10 := V9.stp s910 (fun h => h) (fun h => h)
              have P10 := P9.stp s910 (fun h => h)
              have st610 := st69.trans (s910.mono (fun _ h => h.elim))
              have c2' : World.cell? w9.drew (Addr.add ⟨N, 0, none⟩ 2) = some (.slice (some ⟨g, 0, none⟩) 16 k2) := c2
              obtain ⟨d, hod, hcn⟩ := head_cell P10.rd
              have hn16 := hnib n (by simp)
              obtain ⟨L, hrow, hrL⟩ := hkids n.toNat hn16
              have hrow' : RowAt w9.drew ⟨g, n.toNat * 34, none⟩ 34 L := hrow
              have hrL' := hrL.stp s910 (fun h => h)
              refine ⟨_, _, _, c2', d, hod, ⟨by decide, by simp⟩, _, hcn, _, rfl, ⟨by omega, by omega⟩, L, by rw [add_at, Nat.zero_add, Int.toNat_natCast]; exact hrow', by simp, ?_⟩
              refine next_ref V10 hrL' (fun w11 lab11 D11 s1011 V11 => ?_)
              have P11 := P10.stp s1011 (by decide)
              have P12 : CBy w11 lab11 6 (subO o c 1 1) r := by
                have := P11.sub (cap := c) (lo := 1) (n := r.length) hpc
                simpa using this
              simp only [List.length_cons] at hpc hpl ⊢
              refine ⟨⟨lab11, s', _, r, D11, rfl, (s06.trans st610).trans (s1011.mono (fun _ h => .inl h)), ok.stp I10 s1011, ok.le hc8 (by simp only [List.length_cons]; omega), V11, (hgx.many (by omega)).2.2 _ hn16, P12, by omega, by omega, by omega, fun q hq => hnib q (by simp [hq]), ?_⟩, by omega⟩
              rw [← heq, hway, node_kid (by omega)]
  · -- nothing is there
    cases x with
    | l xs => cases hb
    | s b =>
      cases b with
      | cons a r => cases hb
      | nil => exact done w6 lab6 s _ _ (Stp.refl _ _ _) I6 (way_nil s path) ⟨none, 0, rfl, CBy.nil _ _ _ _⟩
end
end Go.Proofs.Ytfghidehlnfdiaa
end
section
namespace Go.Proofs.Ytfghidehlnfdiaa
open Go Go.Vcg Go.Trie
def findN : List (By × By) → By → Option By
  | [], _ => none
  | x :: r, h => if x.1 = h then some x.2 else findN r h
theorem findN_snoc : ∀ (l : List (By × By)) (x : By × By) (h : By), findN (l ++ [x]) h = (findN l h).or (if x.1 = h then some x.2 else none)
  | [], x, h => by simp [findN]
  | y :: r, x, h => by
    simp only [List.cons_append, findN]
    split
    · rfl
    · exact findN_snoc r x h
theorem assoc_upd {K V : Type} [DecidableEq K] {k k' : K} {v : V} : ∀ {es : List (K × V)}, assoc k' (Vcg.upd k v es) = if k = k' then some v else assoc k' es
  | [] => by simp [Vcg.upd, assoc]
  | x :: r => by
    simp only [Vcg.upd]
    by_cases hx : x.1 = k
    · rw [if_pos hx]
      simp only [assoc]
      by_cases hk : k = k'
      · rw [if_pos hk, if_pos hk]
      · rw [if_neg hk, if_neg hk, if_neg (by rw [hx]; exact hk)]
    · rw [if_neg hx]
      simp only [assoc]
      rw [assoc_upd]
      by_cases hk : k = k'
      · simp only [if_pos hk]; rw [if_neg (by rw [← hk]; exact hx)]
      · simp only [if_neg hk]
abbrev tStore : TypeId := 124
theorem und_store : Try.prog.underlying tStore = some (.map tHash tSlU8) := by kernel_rfl
theorem zero_slU8 (w : World) : (zeroValue tSlU8).run Try.prog w = .ok (.slice none 0 0) w := by kernel_rfl
section
variable {w w' : World} {lab lab' : Nat → Nat} {c : Nat}
def MapOf (w : World) (lab : Nat → Nat) (c : Nat) (l : List (By × By)) (es : List (H32 × Value)) : Prop :=
  ∀ k : H32, match findN l k.1 with
    | none => assoc k es = none
    | some b => ∃ o n, assoc k es = some (.slice o b.length n) ∧ CBy w lab c o b ∧ b.length ≤ n
theorem MapOf.stp {S : Nat → Prop} {l : List (By × By)} {es : List (H32 × Value)} (h : MapOf w lab c l es) (s : Stp S w lab w' lab') (hs : ¬ S c) : MapOf w' lab' c l es := fun k => by
  have := h k
  split at this
  · exact this
  · rename_i b he
    obtain ⟨o, n, h1, h2, h3⟩ := this
    exact ⟨o, n, h1, h2.stp s hs, h3⟩
def SMap (w : World) (lab : Nat → Nat) (cm c : Nat) (l : List (By × By)) (m : Nat) : Prop :=
  ∃ es : List (H32 × Value), CM (fun _ => True) encH w lab cm m es ∧ MapOf w lab c l es
theorem SMap.stp {S : Nat → Prop} {cm m : Nat} {l : List (By × By)} (h : SMap w lab cm c l m) (s : Stp S w lab w' lab') (hm : ¬ S cm) (hs : ¬ S c) : SMap w' lab' cm c l m := by
  obtain ⟨es, h1, h2⟩ := h
  exact ⟨es, h1.stp s hm, h2.stp s hs⟩
theorem nd_row {o : Option Addr} {vs : List Value} {l : List (By × By)} (h : NdCells w lab c vs l) (hR : CRow w lab c o vs) {j : Nat} (hj : j < l.length) :
    ∃ g f ob kb, o = some ⟨g, f, none⟩ ∧ RowAt w ⟨g, f + j * 33, none⟩ 33 (ndA l[j].1 ob l[j].2.length kb) ∧ CBy w lab c ob l[j].2 ∧ l[j].2.length ≤ kb ∧ l[j].1.length = 32 := by
  obtain ⟨h1, h2, ob, kb, h3, h4, h5⟩ := h.2 j hj
  obtain ⟨g, f, ho, hg, hl, hc⟩ := hR _ _ h3
  refine ⟨g, f, ob, kb, ho, ⟨size_ndA _ _ _ _, fun i hi => ?_⟩, h4, h5, h1⟩
  by_cases h32 : i = 32
  · subst h32
    rw [add_at, show f + j * 33 + 32 = f + (j * 33 + 32) by omega, hc, ndA_hi]
  · obtain ⟨g', f', ho', _, _, hc'⟩ := hR _ _ (h2 i (by omega))
    rw [ho] at ho'; cases ho'
    rw [add_at, show f + j * 33 + i = f + (j * 33 + i) by omega, hc', ndA_lo (by omega)]
theorem size_nd : (Try.prog.info? tNd).map (·.size) = some 33 := by kernel_rfl
theorem stored_calls {o : Option Addr} {k : Nat} {l : List (By × By)} {held : Bool} (h : NdRow w lab 0 l o l.length) (hlen : l.length ≤ 2 ^ 40) :
    Calls Try.prog proof_stored.n #[.slice o l.length k, .bool held] w (fun e w' => Vcg.Mod NoB w w' ∧ (l.length > 4096 → e = .returned (.tuple #[.agg #[.map none, .bool false], .int .i64 162])) ∧
      (l.length ≤ 4096 → ∃ m, e = .returned (.tuple #[.agg #[.map (some m), .bool held], .int .i64 0]) ∧ SMap w' (ext lab w.heap.size 9) 9 0 l m)) := by
  refine calls_gen fun R hR => proof_stored.vc _ _ _ _ _ _ ?_
  unfold proof_stored.Vc
  rintro d2 w1 ⟨rfl, rfl⟩
  have M1 := Mod.alloc (S := NoB) w (.cells #[.map none, .bool false] 126)
  have B1 := Blk.new w 126 #[.map none, .bool false]
  have hs1 := size_alloc w (.cells #[.map none, .bool false] 126)
  generalize hD : w.heap.size = D at *
  generalize w.alloc (.cells #[.map none, .bool false] 126) = w1 at *
  -- two cells written and read
  have two : ∀ (w1 : World) (a b : Value) (m : Option Nat) (bb : Bool) (R' : Option Nat → Bool → World → Prop), Blk w1 D 126 #[a, b] → (∀ w2, Vcg.Mod (· = D) w1 w2 → R' m bb w2) →
      CanSet w1 ⟨D, 0, none⟩ (.map m) ∧ ∀ w4 : World, IsSet w1 ⟨D, 0, none⟩ (.map m) w4 → CanSet w4 (Addr.add ⟨D, 0, none⟩ 1) (.bool bb) ∧ ∀ w5 : World, IsSet w4 (Addr.add ⟨D, 0, none⟩ 1) (.bool bb) w5 →
      ∃ m6 : Option Nat, ∃ b7 : Bool, World.cell? w5 ⟨D, 0, none⟩ = some (.map m6) ∧ World.cell? w5 (Addr.add ⟨D, 0, none⟩ 1) = some (.bool b7) ∧ R' m6 b7 w5 := by
    intro w1 a b m bb R' B K
    refine ⟨B.canSet (by simp) rfl, ?_⟩
    rintro _ rfl
    have B2 := B.set 0 (.map m)
    have Q1 : Vcg.Mod (· = D) w1 _ := Mod.setCell w1 ⟨D, 0, none⟩ (.map m)
    rw [add_at, Nat.zero_add]
    refine ⟨B2.canSet (by simp) rfl, ?_⟩
    rintro _ rfl
    have B3 := B2.set 1 (.bool bb)
    have Q2 := Q1.step_set (a := ⟨D, 1, none⟩) (v := .bool bb) (fun _ => rfl)
    exact ⟨_, _, B3.rd1 rfl, B3.rd1 rfl, K _ Q2⟩
  refine ⟨fun hbig => ?_, fun hsmall => ?_⟩
  · exact two w1 _ _ none false (fun m6 b7 w5 => R (.returned (.tuple #[.agg #[.map m6, .bool b7], .int .i64 162])) w5) B1 (fun w2 Q => hR _ _ ⟨mod_of M1 Q (by omega), fun _ => rfl, fun h => absurd h (by omega)⟩)
  · have hlen' : l.length ≤ 4096 := by omega
    obtain ⟨w2, hr2, M2, hmap⟩ := run_makeMap und_store w1
    have B2 := B1.mod' M2
    have M02 := M1.none_trans M2
    refine ⟨_, w2, hr2, _, rfl, ?_⟩
    generalize hm : w1.heap.size = m at *
    have hs2 : m < w2.heap.size := (Array.getElem?_eq_some_iff.1 hmap).1
    rintro d11 w3 ⟨rfl, rfl⟩
    have M3 := Mod.alloc (S := NoB) w2 (.cells #[.map none, .bool false] 126)
    have E3 := Blk.new w2 126 #[.map none, .bool false]
    have hs3 := size_alloc w2 (.cells #[.map none, .bool false] 126)
    have B3 := B2.mod' M3
    have hmap3 := (M3.block m hs2 (fun h => h)).trans hmap
    have M03 := M02.none_trans M3
    generalize hE : w2.heap.size = E at *
    generalize w2.alloc (.cells #[.map none, .bool false] 126) = w3 at *
    refine ⟨E3.canSet (by simp) rfl, ?_⟩
    rintro _ rfl
    have E4 := E3.set 0 (.map (some m))
    have Q4 : Vcg.Mod (· = E) w3 _ := Mod.setCell w3 ⟨E, 0, none⟩ (.map (some m))
    rw [add_at, Nat.zero_add]
    refine ⟨E4.canSet (by simp) rfl, ?_⟩
    rintro _ rfl
    have E5 := E4.set 1 (.bool held)
    have Q5 := Q4.step_set (a := ⟨E, 1, none⟩) (v := .bool held) (fun _ => rfl)
    have M05 : Vcg.Mod NoB w _ := mod_of M03 Q5 (by omega)
    have B5 := B3.mod Q5 (by omega)
    have hmap5 := (Q5.block m (by omega) (by omega)).trans hmap3
    have hsz5 := Q5.size
    generalize ((w3.setCell ⟨E, 0, none⟩ (.map (some m))).setCell ⟨E, 1, none⟩ (.bool held)) = w5 at *
    obtain ⟨_, vs, hCR, hNC⟩ := h
    refine ⟨fun i w' => ∃ (j : Nat) (es : List (H32 × Value)), i = (j : Int) ∧ j ≤ l.length ∧ Vcg.Mod NoB w w' ∧ Blk w' D 126 #[.map none, .bool false] ∧ Blk w' E 126 #[.map (some m), .bool held] ∧ MapAt (fun _ => True) encH w' m es ∧ MapOf w' (ext lab D 9) 0 (l.take j) es,
      fun i _ => ((l.length : Int) - i).toNat, ⟨0, [], rfl, Nat.zero_le _, M05, B5, E5, ⟨#[], 0, hmap5, Go.MapKept.stamped_empty 0, rfl, fun _ h => by cases h⟩, fun k => by simp [findN, assoc]⟩, ?_⟩
    rintro _ _ w6 ⟨j, es, rfl, hj, M06, B6, E6, hA, hO⟩
    have s06 : Stp NoS w lab w6 (ext lab D 9) := hD ▸ Stp.of_nob M06 9
    have CR6 := hCR.stp s06 (fun h => h)
    have NC6 := hNC.stp s06 (fun h => h)
    refine ⟨fun hlt => ?_, fun hge => ?_⟩
    · have hjl : j < l.length := by omega
      obtain ⟨g, f, ob, kb, rfl, hrow, hby, hkb, h32⟩ := nd_row NC6 CR6 hjl
      refine ⟨_, rfl, ⟨by omega, by omega⟩, _, by rw [add_at, Int.toNat_natCast]; exact hrow, ?_⟩
      rintro d20 w7 ⟨rfl, rfl⟩
      have M7 := Mod.alloc (S := NoB) w6 (.cells nd0 104)
      have N7 := Blk.new w6 104 nd0
      have hE6 := E6.lt
      have hB6 := B6.lt
      have hm6 := hA.lt
      have hst := N7.storeAll (P := Try.prog) (ty := 104) (L := ndA l[j].1 ob l[j].2.length kb) (by rw [size_ndA]; exact size_nd) (by rw [size_ndA]; rfl) (ndA_one _ _ _ _)
      have N8 := N7.row_same (ndA l[j].1 ob l[j].2.length kb)
      have Q8 := Mod.setRow (w6.alloc (.cells nd0 104)) w6.heap.size (ndA l[j].1 ob l[j].2.length kb)
      have M68 : Vcg.Mod NoB w6 _ := mod_of M7 Q8 (Nat.le_refl _)
      refine ⟨_, hst, ?_⟩
      generalize ((w6.alloc (.cells nd0 104)).setRow w6.heap.size (ndA l[j].1 ob l[j].2.length kb)) = w8 at *
      have B8 := B6.mod' M68
      have E8 := E6.mod' M68
      have hA8 : MapAt (fun _ => True) encH w8 m es := hA.same (M68.block m hm6 (fun h => h))
      have M08 := M06.none_trans M68
      have hrow8 : RowAt w8 ⟨w6.heap.size, 0, none⟩ 32 (hashA l[j].1) := N8.rowAt (size_hashA _) (fun i hi => by
        rw [Nat.zero_add, ndA_lo hi]
        exact (get_arrOf_lt (f := fun i => bV (l[j].1.getD i 0)) hi).symm)
      have hlook := MapAt.look hA8 keyEncH und_store (zero_slU8 w8) (k := ⟨l[j].1, h32⟩) trivial true
      rw [if_pos rfl] at hlook
      have s68 : Stp NoS w6 (ext lab D 9) w8 (ext lab D 9) := by
        have s08 : Stp NoS w lab w8 (ext lab D 9) := hD ▸ Stp.of_nob M08 9
        exact ⟨M68.os, M68.tape, M68.output, M68.size, fun _ _ => rfl, fun q hq _ => M68.block q hq (fun h => h)⟩
      have hO8 := hO.stp s68 (fun h => h)
      have hby8 := hby.stp s68 (fun h => h)
      have hfound := hO8 ⟨l[j].1, h32⟩
      have htk : l.take (j + 1) = l.take j ++ [l[j]] := List.take_succ_eq_append_getElem hjl
      have ew : IntKind.wrap .i64 ((j : Int) + 1) = ((j + 1 : Nat) : Int) := by rw [wrap_i64_small (by omega) (by omega)]; omega
      rw [ew]
      cases hf : findN (l.take j) l[j].1 with
      | none =>
        rw [hf] at hfound
        simp only at hfound
        rw [hfound] at hlook
        obtain ⟨w9, hr9, hA9, Q9⟩ := MapAt.update hA8 keyEncH und_store (k := ⟨l[j].1, h32⟩) trivial (.slice ob l[j].2.length kb)
        have M09 := mod_of M08 Q9 (by omega)
        refine ⟨_, E8.rd1 rfl, _, hrow8, _, hlook, _, _, _, _, rfl, fun _ => ⟨_, E8.rd1 rfl, _, hrow8, _, _, _, by rw [add_at]; exact N8.rd1 ndA_hi, w9, hr9, ⟨j + 1, _, rfl, hjl, M09, B8.mod Q9 (by omega), E8.mod Q9 (by omega), hA9, ?_⟩, by dsimp only; omega⟩, fun h => (by cases h)⟩
        have s89 : Stp (· = 9) w8 (ext lab D 9) w9 (ext lab D 9) := ⟨Q9.os, Q9.tape, Q9.output, Q9.size, fun _ _ => rfl, fun q hq hn => Q9.block q hq (fun e => hn (by rw [e]; exact ext_new (by omega)))⟩
        have hO9 := hO8.stp s89 (by decide)
        have hby9 := hby8.stp s89 (by decide)
        intro k
        rw [htk, findN_snoc, assoc_upd]
        by_cases hk : l[j].1 = k.1
        · have hk' : (⟨l[j].1, h32⟩ : H32) = k := Subtype.ext hk
          rw [if_pos hk, if_pos hk', ← hk, hf]
          exact ⟨ob, kb, rfl, hby9, hkb⟩
        · have hk' : (⟨l[j].1, h32⟩ : H32) ≠ k := fun e => hk (by rw [← e])
          rw [if_neg hk, if_neg hk', Option.or_none]
          exact hO9 k
      | some b =>
        rw [hf] at hfound
        obtain ⟨ob', kb', hfa, _, _⟩ := hfound
        rw [hfa] at hlook
        refine ⟨_, E8.rd1 rfl, _, hrow8, _, hlook, _, _, _, _, rfl, fun h => (by cases h), fun _ => ⟨⟨j + 1, es, rfl, hjl, M08, B8, E8, hA8, ?_⟩, by dsimp only; omega⟩⟩
        intro k
        rw [htk, findN_snoc]
        by_cases hk : l[j].1 = k.1
        · have := hO8 k
          rw [← hk, hf] at this ⊢
          exact this
        · rw [if_neg hk, Option.or_none]
          exact hO8 k
    · obtain rfl : j = l.length := by omega
      rw [List.take_length] at hO
      refine ⟨_, _, E6.rd1 rfl, E6.rd1 rfl, ?_⟩
      have hm6 := hA.lt
      refine two w6 _ _ (some m) held (fun m6 b7 w5 => R (.returned (.tuple #[.agg #[.map m6, .bool b7], .int .i64 0])) w5) B6 (fun w7 Q7 => hR _ _ ⟨mod_of M06 Q7 (by omega), fun h => absurd h (by omega), fun _ => ⟨m, rfl, es, ⟨hA.same (Q7.block m hm6 (by omega)), ext_new (by omega)⟩, ?_⟩⟩)
      have s67 : Stp (· = 9) w6 (ext lab D 9) w7 (ext lab D 9) := ⟨Q7.os, Q7.tape, Q7.output, Q7.size, fun _ _ => rfl, fun q hq hn => Q7.block q hq (fun e => hn (by rw [e]; exact ext_new (by omega)))⟩
      exact hO.stp s67 (by decide)
end
end Go.Proofs.Ytfghidehlnfdiaa
end
section
namespace Go.Proofs.Ytfghidehlnfdiaa
open Go Go.Vcg Go.Trie
abbrev tSlSl : TypeId := 31
section
variable {w w' : World} {lab lab' : Nat → Nat} {c cb : Nat}
def LsCells (w : World) (lab : Nat → Nat) (cb : Nat) (vs : List Value) (ls : List By) : Prop :=
  vs.length = ls.length ∧ ∀ (j : Nat) (hj : j < ls.length), ∃ ob kb, vs[j]? = some (.slice ob ls[j].length kb) ∧ CBy w lab cb ob ls[j] ∧ ls[j].length ≤ kb
theorem LsCells.stp {S : Nat → Prop} {vs : List Value} {ls : List By} (h : LsCells w lab cb vs ls) (s : Stp S w lab w' lab') (hs : ¬ S cb) : LsCells w' lab' cb vs ls :=
  ⟨h.1, fun j hj => by obtain ⟨ob, kb, h3, h4, h5⟩ := h.2 j hj; exact ⟨ob, kb, h3, h4.stp s hs, h5⟩⟩
theorem LsCells.push {vs : List Value} {ls : List By} {b : By} {ob : Option Addr} {kb : Nat} (H : LsCells w lab cb vs ls) (hb : CBy w lab cb ob b) (hk : b.length ≤ kb) : LsCells w lab cb (vs ++ [.slice ob b.length kb]) (ls ++ [b]) := by
  have hv := H.1
  refine ⟨by simp [hv], fun j hj => ?_⟩
  rw [List.length_append, List.length_singleton] at hj
  by_cases hl : j < ls.length
  · rw [List.getElem_append_left hl, List.getElem?_append_left (by omega)]
    exact H.2 j hl
  · obtain rfl : j = ls.length := by omega
    rw [List.getElem_append_right (Nat.le_refl _)]
    simp only [Nat.sub_self, List.getElem_cons_zero]
    refine ⟨ob, kb, ?_, hb, hk⟩
    rw [List.getElem?_append_right (by omega), hv, Nat.sub_self]; rfl
def LsOwn (w : World) (lab : Nat → Nat) (c cb : Nat) (ls : List By) (o : Option Addr) (n k : Nat) : Prop :=
  n = ls.length ∧ ∃ vs, COw w lab c tSlU8 1 o n k vs ∧ LsCells w lab cb vs ls
theorem LsOwn.nil (w : World) (lab : Nat → Nat) (c cb : Nat) : LsOwn w lab c cb [] none 0 0 := ⟨rfl, [], COw.nil w lab c _ _, rfl, fun j hj => absurd hj (by simp)⟩
theorem LsOwn.stp {S : Nat → Prop} {ls : List By} {o : Option Addr} {n k : Nat} (h : LsOwn w lab c cb ls o n k) (s : Stp S w lab w' lab') (hs : ¬ S c) (hb : ¬ S cb) : LsOwn w' lab' c cb ls o n k := by
  obtain ⟨h1, vs, h2, h3⟩ := h
  exact ⟨h1, vs, h2.stp s hs, h3.stp s hb⟩
theorem LsOwn.push {ls : List By} {o : Option Addr} {n k D : Nat} {b : By} {ob : Option Addr} {kb : Nat} (H : LsOwn w lab c cb ls o n k) (hcb : cb ≠ c) (B : Blk w D tSlU8 #[.slice ob b.length kb]) (hb : CBy w lab cb ob b) (hk : b.length ≤ kb) (hl : ls.length ≤ 2 ^ 20) :
    ∃ o' k' w', Sem.run Try.prog (builtinV .append #[tSlSl, tSlSl] tSlSl #[.slice o n k, .slice (some ⟨D, 0, none⟩) 1 1]) w = .ok (.slice o' (n + 1) k') w' ∧
      LsOwn w' (ext lab w.heap.size c) c cb (ls ++ [b]) o' (n + 1) k' ∧ Stp (· = c) w lab w' (ext lab w.heap.size c) := by
  obtain ⟨rfl, vs, hO, hC⟩ := H
  obtain ⟨i, hi, hz, hs, hbt⟩ := info_of info_slU8
  obtain ⟨o', k', w', h1, h2, h3⟩ := COw.append (ty := tSlSl) und_slSl hi hz hs (by rfl) hO (src_one und_slSl B rfl (by simp [Value.oneCell'])) (by simp only [maxLen]; omega) (by rw [hbt]; omega)
  exact ⟨o', k', w', h1, ⟨by simp, _, h2, (hC.push hb hk).stp h3 hcb⟩, h3⟩
theorem bytesOf_calls {m cm cl : Nat} {l : List (By × By)} {h : By} (hM : SMap w lab cm cl l m) (hh : h.length = 32) :
    Calls Try.prog proof_store_bytesOf.n #[.agg #[.map (some m), .bool false], .agg (hashA h)] w (fun e w' => Vcg.Mod NoB w w' ∧ (findN l h = none → e = .panicked (faultOf 160)) ∧
      (∀ b, findN l h = some b → ∃ o k, e = .returned (.slice o b.length k) ∧ CBy w lab cl o b ∧ b.length ≤ k)) := by
  refine calls_gen fun R hR => proof_store_bytesOf.vc _ _ _ _ _ ?_
  unfold proof_store_bytesOf.Vc
  obtain ⟨es, hA, hO⟩ := hM
  rintro d3 w1 ⟨rfl, rfl⟩
  have M1 := Mod.alloc (S := NoB) w (.cells #[.map (some m), .bool false] 126)
  have B1 := Blk.new w 126 #[.map (some m), .bool false]
  generalize w.heap.size = D at *
  generalize w.alloc (.cells #[.map (some m), .bool false] 126) = w1 at *
  rintro d5 w2 ⟨rfl, rfl⟩
  have M12 := Mod.alloc (S := NoB) w1 (.cells (hashA h) 26)
  have X2 := Blk.new w1 26 (hashA h)
  have B2 := B1.mod' M12
  have M2 := M1.none_trans M12
  generalize w1.heap.size = E at *
  generalize w1.alloc (.cells (hashA h) 26) = w2 at *
  have hA2 : MapAt (fun _ => True) encH w2 m es := hA.map.same (M2.block m hA.map.lt (fun h => h))
  have hlook := MapAt.look hA2 keyEncH und_store (zero_slU8 w2) (k := ⟨h, hh⟩) trivial true
  rw [if_pos rfl] at hlook
  have hf := hO ⟨h, hh⟩
  cases hn : findN l h with
  | none =>
    rw [hn] at hf
    simp only at hf
    rw [hf] at hlook
    refine ⟨_, B2.rd1 rfl, _, X2.rowAll (size_hashA _), _, hlook, _, _, _, _, rfl, fun _ => ?_, fun h => (by cases h)⟩
    refine (gives_calls w2 160).mono ?_
    rintro e w3 ⟨rfl, he⟩
    rw [if_neg (by decide)] at he
    subst he
    exact .inl ⟨_, rfl, hR _ _ ⟨M2, fun _ => rfl, fun b hb => (by rw [hn] at hb; cases hb)⟩⟩
  | some b =>
    rw [hn] at hf
    obtain ⟨ob, kb, hfa, hby, hkb⟩ := hf
    rw [hfa] at hlook
    refine ⟨_, B2.rd1 rfl, _, X2.rowAll (size_hashA _), _, hlook, _, _, _, _, rfl, fun h => (by cases h), fun _ => ?_⟩
    rintro _ rfl
    have B3 := B2.drew
    refine ⟨false, by rw [add_at]; exact B3.rd1 rfl, fun h => (by cases h), fun _ => hR _ _ ⟨M2.step_drew, fun h => (by rw [hn] at h; cases h), fun b' hb' => ?_⟩⟩
    rw [hn] at hb'
    cases hb'
    exact ⟨ob, kb, rfl, hby, hkb⟩
def pStep (l : List (By × By)) (out : List By) (h : By) : List By × Except Int By := match findN l h with
  | none => (out, .error 160)
  | some b => (out ++ [b], .ok b)
def PInv (l : List (By × By)) (dS dO m : Nat) (w : World) (lab : Nat → Nat) (out : List By) : Prop :=
  CB w lab 1 dS 126 #[.map (some m), .bool false] ∧ SMap w lab 9 0 l m ∧ ∃ o n k, CB w lab 7 dO tSlSl #[.slice o n k] ∧ LsOwn w lab 8 9 out o n k
theorem PInv.stp {S : Nat → Prop} {l : List (By × By)} {dS dO m : Nat} {out : List By} (h : PInv l dS dO m w lab out) (s : Stp S w lab w' lab') (h0 : ¬ S 0) (hS1 : ¬ S 1) (h7 : ¬ S 7) (h8 : ¬ S 8) (h9 : ¬ S 9) : PInv l dS dO m w' lab' out := by
  obtain ⟨h1, h2, o, n, k, h3, h4⟩ := h
  exact ⟨h1.stp s hS1, h2.stp s h9 h0, o, n, k, h3.stp s h7, h4.stp s h8 h9⟩
theorem askP {l : List (By × By)} {dS dO m : Nat} (hb : ∀ x ∈ l, x.2.length ≤ 2 ^ 30) : AskOK (.func (.func 76) #[] #[.pointer (some ⟨dS, 0, none⟩), .pointer (some ⟨dO, 0, none⟩)]) (fun k => k = 7 ∨ k = 8) (PInv l dS dO m) (pStep l) (fun out n => out.length + n ≤ 2 ^ 20) where
  le h hm := by omega
  s5 := by decide
  s6 := by decide
  stp h s := h.stp s (by decide) (by decide) (by decide) (by decide) (by decide)
  run := by
    intro w lab out h n hI hcan hh
    refine ⟨76, #[], _, rfl, by kernel_rfl, ?_⟩
    refine calls_gen fun R hR => proof_Prove_2.vc _ _ _ _ _ ?_
    unfold proof_Prove_2.Vc
    rintro d3 w1 ⟨rfl, rfl⟩
    have s1 : Stp NoS w lab (w.alloc (.cells (hashA h) 26)) (ext lab w.heap.size 9) := Stp.alloc NoS w lab _ 9
    have X1 := Blk.new w 26 (hashA h)
    have I1 := hI.stp s1 (fun h => h) (fun h => h) (fun h => h) (fun h => h) (fun h => h)
    generalize w.heap.size = D3 at *
    generalize w.alloc (.cells (hashA h) 26) = w1 at *
    generalize ext lab D3 9 = lab1 at *
    obtain ⟨b1, hM, _⟩ := id I1
    refine ⟨_, _, b1.blk.rd1 rfl, by rw [add_at]; exact b1.blk.rd1 rfl, _, X1.rowAll (size_hashA _), ?_⟩
    refine (bytesOf_calls hM hh).mono ?_
    rintro e w2 ⟨M2, hnone, hsome⟩
    have s2 : Stp NoS w1 lab1 w2 (ext lab1 w1.heap.size 9) := Stp.of_nob M2 9
    have I2 := I1.stp s2 (fun h => h) (fun h => h) (fun h => h) (fun h => h) (fun h => h)
    cases hf : findN l h with
    | none =>
      have he := hnone hf
      subst he
      refine .inl ⟨_, rfl, hR _ _ ⟨_, (s1.trans s2).mono (fun _ h => h.elim), ?_, ?_, fun er her => ?_, fun b hb => ?_⟩⟩
      · unfold pStep; rw [hf]; exact I2
      · unfold pStep; rw [hf]; show out.length + n ≤ _; omega
      · unfold pStep at her; rw [hf] at her
        simp only [Except.error.injEq] at her
        subst her
        exact ⟨rfl, by decide⟩
      · unfold pStep at hb; rw [hf] at hb; cases hb
    | some b =>
      obtain ⟨ob, kb, rfl, hby, hkb⟩ := hsome b hf
      have hby2 := hby.stp s2 (fun h => h)
      have s02 := s1.trans s2
      generalize ext lab1 w1.heap.size 9 = lab2 at *
      refine .inr ⟨_, _, _, rfl, ?_⟩
      rintro _ rfl
      have s3 : Stp NoS w2 lab2 w2.drew lab2 := Stp.drew _ _ _
      have I3 := I2.stp s3 (fun h => h) (fun h => h) (fun h => h) (fun h => h) (fun h => h)
      have hby3 := hby2.stp s3 (fun h => h)
      have s03 := s02.trans s3
      generalize w2.drew = w3 at *
      obtain ⟨_, _, o, nn, k, bO, hO⟩ := id I3
      have hbl : b.length ≤ 2 ^ 30 := by
        have : ∀ (l : List (By × By)), (∀ x ∈ l, x.2.length ≤ 2 ^ 30) → findN l h = some b → b.length ≤ 2 ^ 30 := by
          intro l
          induction l with
          | nil => intro _ h; cases h
          | cons x r ih =>
            intro hb hf
            simp only [findN] at hf
            split at hf
            · cases hf; exact hb x (by simp)
            · exact ih (fun y hy => hb y (by simp [hy])) hf
        exact this l hb hf
      refine ⟨_, _, _, bO.blk.rd1 rfl, ?_⟩
      refine (Clone_calls hby3.rd (by omega)).mono ?_
      rintro _ w4 ⟨o4, k4, rfl, F4⟩
      have s4 : Stp NoS w3 lab2 w4 (ext lab2 w3.heap.size 9) := Stp.of_nob F4.mod 9
      have I4 := I3.stp s4 (fun h => h) (fun h => h) (fun h => h) (fun h => h) (fun h => h)
      have hby4 := hby3.stp s4 (fun h => h)
      have hcl4 : CBy w4 (ext lab2 w3.heap.size 9) 9 o4 b := fresh_cby F4 (Mod.refl _)
      have bO4 := bO.stp s4 (fun h => h)
      have s04 := s03.trans s4
      generalize ext lab2 w3.heap.size 9 = lab4 at *
      refine .inr ⟨_, _, _, rfl, bO4.blk.rd1 rfl, ?_⟩
      rintro d22 w5 ⟨rfl, rfl⟩
      have s5 : Stp NoS w4 lab4 (w4.alloc (.cells #[.slice o4 b.length k4] 22)) (ext lab4 w4.heap.size 9) := Stp.alloc NoS w4 lab4 _ 9
      have N5 := Blk.new w4 22 #[.slice o4 b.length k4]
      have I5 := I4.stp s5 (fun h => h) (fun h => h) (fun h => h) (fun h => h) (fun h => h)
      have hby5 := hby4.stp s5 (fun h => h)
      have hcl5 := hcl4.stp s5 (fun h => h)
      have bO5 := bO4.stp s5 (fun h => h)
      have hO5 := (hO.stp s4 (fun h => h) (fun h => h)).stp s5 (fun h => h) (fun h => h)
      have s05 := s04.trans s5
      generalize w4.heap.size = D5 at *
      generalize w4.alloc (.cells #[.slice o4 b.length k4] 22) = w5 at *
      generalize ext lab4 D5 9 = lab5 at *
      refine ⟨bO5.blk.rd1 rfl, ?_⟩
      obtain ⟨o6, k6, w6, hr6, hO6, s6⟩ := hO5.push (by decide) N5 hcl5 F4.own.cap.1 (by omega)
      have hby6 := hby5.stp s6 (by decide)
      have bO6 := bO5.stp s6 (by decide)
      obtain ⟨bS5, hM5, _⟩ := I5
      have bS6 := bS5.stp s6 (by decide)
      have hM6 := hM5.stp s6 (by decide) (by decide)
      generalize ext lab5 w5.heap.size 8 = lab6 at *
      refine ⟨_, w6, hr6, _, _, _, rfl, bO6.blk.canSet (by simp) rfl, ?_⟩
      rintro _ rfl
      have s7 : Stp (· = 7) w6 lab6 (w6.setCell ⟨dO, 0, none⟩ (.slice o6 (nn + 1) k6)) lab6 := Stp.setCell bO6.clr
      have hby7 := hby6.stp s7 (by decide)
      refine hR _ _ ⟨lab6, ((s05.mono (fun _ h => h.elim)).trans (s6.mono (fun _ h => .inr h))).trans (s7.mono (fun _ h => .inl h)), ?_, ?_, fun er her => ?_, fun b' hb' => ?_⟩
      · unfold pStep; rw [hf]
        exact ⟨bS6.stp s7 (by decide), hM6.stp s7 (by decide) (by decide), o6, nn + 1, k6, bO6.set 0 _, hO6.stp s7 (by decide) (by decide)⟩
      · unfold pStep; rw [hf]; show (out ++ [b]).length + n ≤ _; rw [List.length_append, List.length_singleton]; omega
      · unfold pStep at her; rw [hf] at her; cases her
      · unfold pStep at hb'; rw [hf] at hb'
        cases hb'
        exact ⟨ob, kb, rfl, hby7.rd, hkb⟩
end
end Go.Proofs.Ytfghidehlnfdiaa
end
section
namespace Go.Proofs.Ytfghidehlnfdiaa
open Go Go.Vcg Go.Trie
def behind : Option Code → Code
  | some (.seq _ c) => c
  | _ => .skip
def caught_fault (d0 : Addr) (n : Int) (w : World) (R : Ending → World → Prop) : Prop :=
  ∃ v10 : Value, Sem.run Try.prog (Instr.typeAssert (.iface 190 (.agg #[(.int .i64 n)])) 20 190 true) w = .ok v10 w ∧
  ∃ n11 : Int, ∃ b12 : Bool, v10 = (.tuple #[(.agg #[(.int .i64 n11)]), (.bool b12)]) ∧
  (((b12 = true →
    ∀ (d13 : Addr) (w14 : World), IsNew w 190 #[(.int .i64 0)] d13 w14 →
    CanSet w14 d13 (.int .i64 n11) ∧ ∀ w15 : World, IsSet w14 d13 (.int .i64 n11) w15 →
    ∃ n16 : Int, World.cell? w15 d13 = some (.int .i64 n16) ∧
    CanSet w15 d0 (.int .i64 n16) ∧ ∀ w17 : World, IsSet w15 d0 (.int .i64 n16) w17 →
    R (.returned (.tuple #[])) w17)) ∧
   ((b12 = false →
    R (.panicked (panOf (.iface 190 (.agg #[(.int .i64 n)])))) w)))
def caughtK (R : Ending → World → Prop) : Kont pC := { nrm := fun _ w => R (.returned (.tuple #[])) w, exit := fun _ _ _ => False, ret := fun _ w => R (.returned (.tuple #[])) w }
theorem caught_exec (d0 : Addr) (n : Int) (w : World) (R : Ending → World → Prop) : caught_fault d0 n w R = exec (pA Try.prog ⟨R, true⟩) Try.prog [] (behind Try.f74.body) (numbered 0 [.addr d0, .tup [], .tup [], .tup [], .tup [], .iface 190 (.agg [.int .i64 n])]) w (caughtK R) := by kernel_rfl
theorem caught_exec0 (d0 : Addr) (w : World) (R : Ending → World → Prop) : R (.returned (.tuple #[])) w = exec (pA Try.prog ⟨R, true⟩) Try.prog [] (behind Try.f74.body) (numbered 0 [.addr d0, .tup [], .tup [], .tup [], .tup [], .nilIface]) w (caughtK R) := by kernel_rfl
theorem caught_slots : slotsOk 15 (behind Try.f74.body) = true := by kernel_rfl
theorem ask_fault (n : Int) (w : World) : Sem.run Try.prog (Instr.typeAssert (.iface 190 (.agg #[(.int .i64 n)])) 20 190 true) w = .ok (.tuple #[.agg #[.int .i64 n], .bool true]) w := by kernel_rfl
def onRet (post : World → Prop) : Ending → World → Prop
  | .returned _, w' => post w'
  | .panicked _, _ => False
  | .outgrown, _ => False
theorem onRet_no {post : World → Prop} {ch : List PanicEntry} {w : World} {b : Prop} (h : onRet post (.panicked ch) w) : b := False.elim h
theorem goal_no {post : World → Prop} {ch : List PanicEntry} {w : World} {b : Prop} (h : (Goal.mk (onRet post) true).fin (.panicked ch) w) : b := onRet_no (post := post) (ch := ch) (w := w) h
theorem bodyPostS_panic {P : Program} {fn : Func} {c₀ : Frame} {cs cs' : List Frame} {R : Ending → FrameMode → World → Prop} {ch : List PanicEntry} {a a' : Act} {w : World} (hd : a.defers = a'.defers) (h : bodyPostS P fn c₀ cs R (.panic ch) a cs' w) : bodyPostS P fn c₀ cs R (.panic ch) a' cs' w := ⟨hd ▸ h.1, h.2⟩
theorem caught_results (tmps : Array Value) (w : World) : (results Try.f74 tmps).run Try.prog w = .ok (.tuple #[]) w := by
  simp [results, Try.results74]
theorem size15 {v0 v5 : Value} : (#[v0] ++ (Array.replicate 14 undef).setIfInBounds 4 v5).size = 15 := by
  rw [Array.size_append, Array.size_setIfInBounds, Array.size_replicate]; rfl
theorem rep15 {v0 v5 : Value} {sv0 sv5 : SV pC} (h0 : toV sv0 = v0) (h5 : toV sv5 = v5) : Rep (numbered 0 [sv0, .tup [], .tup [], .tup [], .tup [], sv5]) ({ tmps := #[v0] ++ (Array.replicate 14 undef).setIfInBounds 4 v5, defers := [] } : Act) := by
  intro k
  rw [numbered_get, if_pos (Nat.zero_le _), Nat.sub_zero]
  have e1 : toVs [sv0, .tup [], .tup [], .tup [], .tup [], sv5] = [v0, undef, undef, undef, undef, v5] := by
    simp only [toVs, h0, h5]; rfl
  have e2 : (#[v0] ++ (Array.replicate 14 undef).setIfInBounds 4 v5).toList = [v0, undef, undef, undef, undef, v5, undef, undef, undef, undef, undef, undef, undef, undef, undef] := by
    rw [Array.toList_append, Array.toList_setIfInBounds, Array.toList_replicate]; rfl
  rw [e1, Array.getD_eq_getD_getElem?, ← Array.getElem?_toList, e2, List.getD_eq_getElem?_getD]
  by_cases hk : k < 6
  · have : k = 0 ∨ k = 1 ∨ k = 2 ∨ k = 3 ∨ k = 4 ∨ k = 5 := by omega
    rcases this with rfl | rfl | rfl | rfl | rfl | rfl <;> rfl
  · have e3 : [v0, undef, undef, undef, undef, v5, undef, undef, undef, undef, undef, undef, undef, undef, undef] = [v0, undef, undef, undef, undef, v5] ++ List.replicate 9 undef := rfl
    have e4 : ([v0, undef, undef, undef, undef, v5] : List Value)[k]? = none := List.getElem?_eq_none (by simp only [List.length_cons, List.length_nil]; omega)
    rw [e4, e3, List.getElem?_append_right (by simp only [List.length_cons, List.length_nil]; omega), List.getElem?_replicate]
    split <;> rfl
theorem caught_wp {Q : Exit → Act → World → Prop} {D : Nat} {v5 : Value} {sv5 : SV pC} {post : World → Prop} {w : World} (h5 : toV sv5 = v5)
    (h : exec (pA Try.prog ⟨onRet post, true⟩) Try.prog [] (behind Try.f74.body) (numbered 0 [.addr ⟨D, 0, none⟩, .tup [], .tup [], .tup [], .tup [], sv5]) w (caughtK (onRet post)))
    (hQ : ∀ ch (a a' : Act) w, a.defers = a'.defers → Q (.panic ch) a w → Q (.panic ch) a' w) (h1 : ∀ (a' : Act) w', a'.defers = [] → post w' → Q .normal a' w') (h2 : ∀ (a' : Act) w', a'.defers = [] → post w' → Q .ret a' w') :
    (behind Try.f74.body).wp Try.prog Q { tmps := #[Value.pointer (some ⟨D, 0, none⟩)] ++ (Array.replicate 14 undef).setIfInBounds 4 v5, defers := [] } w :=
  exec_sound (R := ⟨onRet post, true⟩) (ann := []) mixed (n := 15) (behind Try.f74.body) (writesOf (behind Try.f74.body)) _ _ w (caughtK (onRet post)) Q (rep15 (sv0 := .addr ⟨D, 0, none⟩) (sv5 := sv5) rfl h5) size15 caught_slots (fun _ h => h) (fun ch a a' w hd _ hq => hQ ch a a' w hd hq) (fun ch a' w' hd hk hf => goal_no hf) h
    { nrm := fun env' a' w' _ _ h3 _ h5 => h1 a' w' h3 h5
      exit := fun i env' a' w' _ _ _ _ h5 => h5.elim
      ret := fun env' a' w' _ _ h3 _ h5 => h2 a' w' h3 h5 }
set_option maxRecDepth 20000 in
theorem caught_calls {D : Nat} {t : TypeId} {v : Value} {n : Int} {w : World} (B : Blk w D t #[v]) :
    CallsD Try.prog 74 #[.pointer (some ⟨D, 0, none⟩)] (.panicking (faultOf n)) w (fun e u' w' => e = .returned (.tuple #[]) ∧ u' = .panicking [{ v := .iface 190 (.agg #[.int .i64 n]), recovered := true }] ∧ Blk w' D t #[.int .i64 n] ∧ Vcg.Mod (· = D) w w') := by
  have hcf : caught_fault ⟨D, 0, none⟩ n w (onRet fun w' => Blk w' D t #[.int .i64 n] ∧ Vcg.Mod (· = D) w w') := by
    refine ⟨_, ask_fault n w, n, true, rfl, fun _ => ?_, fun h => (by cases h)⟩
    rintro d w1 ⟨rfl, rfl⟩
    have F := Blk.new w 190 #[.int .i64 0]
    have M1 := Mod.alloc (S := (· = D)) w (.cells #[.int .i64 0] 190)
    have hD := B.lt
    have B1 := B.mod (Mod.alloc (S := NoB) w (.cells #[.int .i64 0] 190)) (fun h => h)
    refine ⟨F.canSet (by simp) rfl, ?_⟩
    rintro _ rfl
    have F2 := F.set 0 (.int .i64 n)
    have B2 := B1.set_ne (a := ⟨w.heap.size, 0, none⟩) (v := .int .i64 n) (by show D ≠ w.heap.size; omega)
    have M2 : Vcg.Mod (· = D) w _ := M1.trans (Mod.setCell (w.alloc (.cells #[.int .i64 0] 190)) ⟨w.heap.size, 0, none⟩ (.int .i64 n)) (fun i hi e => by have he : i = w.heap.size := e; omega)
    refine ⟨n, F2.rd1 rfl, B2.canSet (by simp) rfl, ?_⟩
    rintro _ rfl
    exact ⟨B2.set 0 _, M2.step_set (a := ⟨D, 0, none⟩) (fun _ => rfl)⟩
  have h := Eq.mp (caught_exec ⟨D, 0, none⟩ n w _) hcf
  clear hcf
  refine callsD_of_wpS Try.func74 rfl fun c₀ cs hu => ?_
  apply wpS_seq
  apply wpS_region
  simp [wpOpsS, go_sem, recoverD, hu, Try.ntmps74, Exit.thenS]
  refine wpS_of_wp (caught_wp (post := fun w' => Blk w' D t #[.int .i64 n] ∧ Vcg.Mod (· = D) w w') (sv5 := .iface 190 (.agg [.int .i64 n])) rfl h (fun ch a a' w hd hq => bodyPostS_panic hd hq) ?_ ?_)
  · exact fun a' w' hd hr => ⟨hd, _, rfl, _, caught_results _ _, rfl, rfl, hr.1, hr.2⟩
  · exact fun a' w' hd hr => ⟨hd, _, rfl, _, caught_results _ _, rfl, rfl, hr.1, hr.2⟩
set_option maxRecDepth 20000 in
theorem caught_idle {D : Nat} {w : World} :
    CallsD Try.prog 74 #[.pointer (some ⟨D, 0, none⟩)] .returning w (fun e u' w' => e = .returned (.tuple #[]) ∧ u' = .returning ∧ w' = w) := by
  have h := Eq.mp (caught_exec0 ⟨D, 0, none⟩ w (onRet fun w' => w' = w)) rfl
  refine callsD_of_wpS Try.func74 rfl fun c₀ cs hu => ?_
  apply wpS_seq
  apply wpS_region
  simp [wpOpsS, go_sem, recoverD, hu, Try.ntmps74, Exit.thenS]
  refine wpS_of_wp (caught_wp (post := fun w' => w' = w) (sv5 := .nilIface) rfl h (fun ch a a' w hd hq => bodyPostS_panic hd hq) ?_ ?_)
  · exact fun a' w' hd hr => ⟨hd, .returning, by rw [← hu], _, caught_results _ _, rfl, rfl, hr⟩
  · exact fun a' w' hd hr => ⟨hd, .returning, by rw [← hu], _, caught_results _ _, rfl, rfl, hr⟩
end Go.Proofs.Ytfghidehlnfdiaa
end
section
namespace Go.Proofs.Ytfghidehlnfdiaa
open Go Go.Vcg Go.Trie
def proveR (l : List (By × By)) (root key : By) : Except Int (List By) :=
  if l.length > 4096 then .error 162 else if key.length > 64 then .error 140 else
  match way (pStep l) [] (rootIt root) (nibbles key) with
  | (out, .ok _) => .ok out
  | (_, .error e) => .error e
def ProveIs (l : List (By × By)) (root key : By) (w : World) (e : Ending) (w' : World) : Prop :=
  Vcg.Mod NoB w w' ∧ match proveR l root key with
    | .error er => er ≠ 0 ∧ e = .returned (.tuple #[.slice none 0 0, .int .i64 er])
    | .ok out => ∃ o n k, e = .returned (.tuple #[.slice o n k, .int .i64 0]) ∧ ∃ lab' c cb, LsOwn w' lab' c cb out o n k
def lab8 (N : Nat) : Nat → Nat := fun k => if k = N + 1 then 7 else if N ≤ k then 1 else 0
theorem lab8_old {N k : Nat} (h : k < N) : lab8 N k = 0 := by unfold lab8; rw [if_neg (by omega), if_neg (by omega)]
theorem leave_fault {R : Ending → World → Prop} {rt : World → Prop} {dE dO : Nat} {n n0 : Int} {o : Option Addr} {l k : Nat} {w : World} (hn : n ≠ 0) (hne : dE ≠ dO) (E : Blk w dE 52 #[.int .i64 n0]) (O : Blk w dO 31 #[.slice o l k])
    (K : ∀ w', Blk w' dE 52 #[.int .i64 n] → Blk w' dO 31 #[.slice none 0 0] → Vcg.Mod (fun b => b = dE ∨ b = dO) w w' → rt w') :
    LeavV Try.prog rt R [(74, #[.pointer (some ⟨dE, 0, none⟩)]), (73, #[.pointer (some ⟨dE, 0, none⟩), .pointer (some ⟨dO, 0, none⟩)])] (.panicking (faultOf n)) w := by
  refine ⟨fun h => (by cases h), (caught_calls E).mono ?_⟩
  rintro _ _ w1 ⟨rfl, rfl, E1, M1⟩
  have O1 := O.mod M1 (fun h => hne h.symm)
  refine ⟨fun h => (by cases h), ?_⟩
  refine (proof_Prove_1.vcd .returning _ _ w1 (fun e w' => e = .returned (.tuple #[]) ∧ Blk w' dE 52 #[.int .i64 n] ∧ Blk w' dO 31 #[.slice none 0 0] ∧ Vcg.Mod (· = dO) w1 w') ?_).mono ?_
  · unfold proof_Prove_1.Vc
    refine ⟨n, E1.rd1 rfl, fun _ => ⟨O1.canSet (by simp) rfl, ?_⟩, fun h => (hn h).elim⟩
    rintro _ rfl
    exact ⟨rfl, E1.set_ne (by exact hne), O1.set 0 _, Mod.setCell w1 ⟨dO, 0, none⟩ _⟩
  · rintro _ _ w2 ⟨rfl, rfl, E2, O2, M2⟩
    exact K w2 E2 O2 ((M1.mono (fun _ _ h => .inl h)).trans M2 (fun _ _ h => .inr h))
theorem leave_well {R : Ending → World → Prop} {rt : World → Prop} {dE dO : Nat} {w : World} (E : Blk w dE 52 #[.int .i64 0]) (K : rt w) :
    LeavV Try.prog rt R [(74, #[.pointer (some ⟨dE, 0, none⟩)]), (73, #[.pointer (some ⟨dE, 0, none⟩), .pointer (some ⟨dO, 0, none⟩)])] .returning w := by
  refine ⟨fun h => (by cases h), caught_idle.mono ?_⟩
  rintro _ _ w1 ⟨rfl, rfl, rfl⟩
  refine ⟨fun h => (by cases h), ?_⟩
  refine (proof_Prove_1.vcd .returning _ _ w1 (fun e w' => e = .returned (.tuple #[]) ∧ w' = w1) ?_).mono ?_
  · unfold proof_Prove_1.Vc
    exact ⟨0, E.rd1 rfl, fun h => (h rfl).elim, fun _ => ⟨rfl, rfl⟩⟩
  · rintro _ _ w2 ⟨rfl, rfl, rfl⟩
    exact K
theorem Prove_calls {w : World} {lab : Nat → Nat} {c : Nat} {l : List (By × By)} {o ok : Option Addr} {k kk : Nat} {root key : By} (h : NdRow w lab c l o l.length) (hlen : l.length ≤ 2 ^ 40) (hb : ∀ x ∈ l, x.2.length ≤ 2 ^ 30) (hroot : root.length = 32) (hkey : RdB w ok key) :
    Calls Try.prog proof_Prove.n #[.slice o l.length k, .agg (hashA root), .slice ok key.length kk] w (ProveIs l root key w) := by
  refine calls_gen fun R hR => proof_Prove.vc _ _ _ _ _ _ _ _ _ ?_
  unfold proof_Prove.Vc
  have hN : NdRow w (lab8 w.heap.size) 0 l o l.length := NdRow.re h (fun k hk _ => lab8_old hk)
  rintro d3 w1 ⟨rfl, rfl⟩
  have M1 := Mod.alloc (S := NoB) w (.cells (hashA root) 26)
  have X1 := Blk.new w 26 (hashA root)
  have z1 := size_alloc w (.cells (hashA root) 26)
  generalize hNe : w.heap.size = N at *
  generalize w.alloc (.cells (hashA root) 26) = w1 at *
  rintro d5 w2 ⟨rfl, rfl⟩
  have M12 := Mod.alloc (S := NoB) w1 (.cells #[.slice none 0 0] 31)
  have O2 := Blk.new w1 31 #[.slice none 0 0]
  have z2 := size_alloc w1 (.cells #[.slice none 0 0] 31)
  have X2 := X1.mod' M12
  have M2 := M1.none_trans M12
  rw [z1] at O2 z2 ⊢
  generalize w1.alloc (.cells #[.slice none 0 0] 31) = w2 at *
  rintro d7 w3 ⟨rfl, rfl⟩
  have M23 := Mod.alloc (S := NoB) w2 (.cells #[.int .i64 0] 52)
  have E3 := Blk.new w2 52 #[.int .i64 0]
  have z3 := size_alloc w2 (.cells #[.int .i64 0] 52)
  have X3 := X2.mod' M23
  have O3 := O2.mod' M23
  have M3 := M2.none_trans M23
  rw [z2] at E3 z3 ⊢
  generalize w2.alloc (.cells #[.int .i64 0] 52) = w3 at *
  -- colours
  have s3 : Stp NoS w (lab8 N) w3 (lab8 N) := ⟨M3.os, M3.tape, M3.output, M3.size, fun _ _ => rfl, fun q hq _ => M3.block q hq (fun h => h)⟩
  have hN3 := hN.stp s3 (fun h => h)
  have lO : lab8 N (N + 1) = 7 := if_pos rfl
  have lX : lab8 N N = 1 := by unfold lab8; rw [if_neg (by omega), if_pos (Nat.le_refl _)]
  have lE : lab8 N (N + 1 + 1) = 1 := by unfold lab8; rw [if_neg (by omega), if_pos (by omega)]
  refine (stored_calls (k := k) (held := false) hN3 hlen).mono ?_
  rintro e w4 ⟨M4, hbig, hsmall⟩
  have s34 : Stp NoS w3 (lab8 N) w4 (ext (lab8 N) w3.heap.size 9) := Stp.of_nob M4 9
  have M04 := M3.none_trans M4
  have z4 := M4.size
  -- behind stored
  obtain ⟨m11, b12, n13, rfl, hcase⟩ : ∃ m11 b12 n13, e = .returned (.tuple #[.agg #[.map m11, .bool b12], .int .i64 n13]) ∧ ((n13 = 162 ∧ l.length > 4096) ∨ (n13 = 0 ∧ l.length ≤ 4096 ∧ b12 = false ∧ ∃ m, m11 = some m ∧ SMap w4 (ext (lab8 N) w3.heap.size 9) 9 0 l m)) := by
    by_cases hl : l.length > 4096
    · exact ⟨_, _, _, hbig hl, .inl ⟨rfl, hl⟩⟩
    · obtain ⟨m, he, hm⟩ := hsmall (by omega)
      exact ⟨_, _, _, he, .inr ⟨rfl, by omega, rfl, m, rfl, hm⟩⟩
  have X4 : CB w4 (ext (lab8 N) w3.heap.size 9) 1 N 26 (hashA root) := (CB.mk X3 lX).stp s34 (fun h => h)
  have O4 : CB w4 (ext (lab8 N) w3.heap.size 9) 7 (N + 1) 31 #[.slice none 0 0] := (CB.mk O3 lO).stp s34 (fun h => h)
  have E4 : CB w4 (ext (lab8 N) w3.heap.size 9) 1 (N + 1 + 1) 52 #[.int .i64 0] := (CB.mk E3 lE).stp s34 (fun h => h)
  have hlab4 : ∀ b, ext (lab8 N) w3.heap.size 9 b = 5 ∨ ext (lab8 N) w3.heap.size 9 b = 7 ∨ ext (lab8 N) w3.heap.size 9 b = 8 → N ≤ b := by
    intro b hb
    refine Nat.le_of_not_lt fun hlt => ?_
    rw [ext_old (by omega), lab8_old hlt] at hb
    omega
  clear hbig hsmall X3 O3 E3 hN3 s34 s3
  generalize ext (lab8 N) w3.heap.size 9 = lab4 at *
  refine .inr ⟨_, _, _, rfl, ?_⟩
  rintro d14 w5 ⟨rfl, rfl⟩
  have s45 : Stp NoS w4 lab4 (w4.alloc (.cells #[.map none, .bool false] 126)) (ext lab4 w4.heap.size 1) := Stp.alloc NoS w4 lab4 _ 1
  have M45 := Mod.alloc (S := NoB) w4 (.cells #[.map none, .bool false] 126)
  have D5 := CB.new w4 lab4 1 126 #[.map none, .bool false]
  have X5 := X4.stp s45 (fun h => h)
  have O5 := O4.stp s45 (fun h => h)
  have E5 := E4.stp s45 (fun h => h)
  have hlab5 : ∀ b, ext lab4 w4.heap.size 1 b = 5 ∨ ext lab4 w4.heap.size 1 b = 7 ∨ ext lab4 w4.heap.size 1 b = 8 → N ≤ b := by
    intro b hb
    by_cases hlt : b < w4.heap.size
    · rw [ext_old hlt] at hb; exact hlab4 b hb
    · omega
  have M05 := M04.none_trans M45
  have hD : N + 1 + 1 < w4.heap.size := by omega
  generalize w4.heap.size = D at *
  generalize w4.alloc (.cells #[.map none, .bool false] 126) = w5 at *
  generalize ext lab4 D 1 = lab5 at *
  refine ⟨D5.blk.canSet (by simp) rfl, ?_⟩
  rintro _ rfl
  have D6 := D5.set 0 (.map m11)
  have Q6 : Vcg.Mod (· = D) w5 _ := Mod.setCell w5 ⟨D, 0, none⟩ (.map m11)
  rw [add_at, Nat.zero_add]
  refine ⟨D6.blk.canSet (by simp) rfl, ?_⟩
  rintro _ rfl
  have D7 := D6.set 1 (.bool b12)
  have Q7 := Q6.step_set (a := ⟨D, 1, none⟩) (v := .bool b12) (fun _ => rfl)
  have s57 : Stp (· = 1) w5 lab5 _ lab5 := ⟨Q7.os, Q7.tape, Q7.output, Q7.size, fun _ _ => rfl, fun q hq hn => Q7.block q hq (fun e => hn (by rw [e]; exact D5.clr))⟩
  have E7 := E5.blk.mod Q7 (by omega)
  have X7 := X5.blk.mod Q7 (by omega)
  have O7 := O5.stp s57 (by decide)
  generalize ((w5.setCell ⟨D, 0, none⟩ (.map m11)).setCell ⟨D, 1, none⟩ (.bool b12)) = w7 at *
  refine ⟨E7.canSet (by simp) rfl, ?_⟩
  rintro _ rfl
  have E8 := E7.set 0 (.int .i64 n13)
  have Q8 : Vcg.Mod (· = N + 1 + 1) w7 _ := Mod.setCell w7 ⟨N + 1 + 1, 0, none⟩ (.int .i64 n13)
  have s78 : Stp (· = 1) w7 lab5 _ lab5 := ⟨Q8.os, Q8.tape, Q8.output, Q8.size, fun _ _ => rfl, fun q hq hn => Q8.block q hq (fun e => hn (by rw [e]; exact E5.clr))⟩
  have X8 := X7.mod Q8 (by omega)
  have O8 := O7.stp s78 (by decide)
  have D8 : CB (w7.setCell ⟨N + 1 + 1, 0, none⟩ (.int .i64 n13)) lab5 1 D 126 #[.map m11, .bool b12] := ⟨D7.blk.mod Q8 (by omega), D7.clr⟩
  have M08 : Vcg.Mod NoB w _ := mod_of (mod_of M05 Q7 (by omega)) Q8 (by omega)
  have E8c : CB (w7.setCell ⟨N + 1 + 1, 0, none⟩ (.int .i64 n13)) lab5 1 (N + 1 + 1) 52 #[.int .i64 n13] := ⟨E8, E5.clr⟩
  have s48 := (s45.mono (T := fun k => k = 1) (fun _ h => h.elim)).trans (s57.trans s78)
  generalize w7.setCell ⟨N + 1 + 1, 0, none⟩ (.int .i64 n13) = w8 at *
  refine ⟨_, E8.rd1 rfl, fun hne => ?_, fun h0 => ?_⟩
  · obtain ⟨rfl, hl⟩ := hcase.resolve_right (fun h => hne h.1)
    rintro _ rfl
    have E9 := E8.drew
    have O9 := O8.blk.drew
    have M09 := M08.step_drew
    refine ⟨_, E9.rd1 rfl, O9.canSet (by simp) rfl, ?_⟩
    rintro _ rfl
    have O10 := O9.set 0 (.slice none 0 0)
    have E10 := E9.set_ne (a := ⟨N + 1, 0, none⟩) (v := .slice none 0 0) (by show N + 1 + 1 ≠ N + 1; omega)
    have M10 : Vcg.Mod NoB w _ := mod_of M09 (Mod.setCell w8.drew ⟨N + 1, 0, none⟩ (.slice none 0 0)) (by show w.heap.size ≤ N + 1; omega)
    refine ⟨E10.rd1 rfl, E10.canSet (by simp) rfl, ?_⟩
    rintro _ rfl
    have E11 := E10.set 0 (.int .i64 162)
    have O11 := O10.set_ne (a := ⟨N + 1 + 1, 0, none⟩) (v := .int .i64 162) (by show N + 1 ≠ N + 1 + 1; omega)
    refine ⟨_, _, _, O11.rd1 rfl, _, E11.rd1 rfl, hR _ _ ⟨mod_of M10 (Mod.setCell _ ⟨N + 1 + 1, 0, none⟩ (.int .i64 162)) (by show w.heap.size ≤ N + 1 + 1; omega), ?_⟩⟩
    unfold proveR
    rw [if_pos hl]
    exact ⟨by decide, rfl⟩
  · obtain ⟨rfl, hl, rfl, m, rfl, hSM⟩ := hcase.resolve_left (fun h => by rw [h.1] at h0; exact absurd h0 (by decide))
    refine ⟨fun hk => ?_, fun hk => ?_⟩
    · refine ⟨O8.blk.canSet (by simp) rfl, ?_⟩
      rintro _ rfl
      have O10 := O8.blk.set 0 (.slice none 0 0)
      have E10 := E8.set_ne (a := ⟨N + 1, 0, none⟩) (v := .slice none 0 0) (by show N + 1 + 1 ≠ N + 1; omega)
      have M10 : Vcg.Mod NoB w _ := mod_of M08 (Mod.setCell w8 ⟨N + 1, 0, none⟩ (.slice none 0 0)) (by show w.heap.size ≤ N + 1; omega)
      refine ⟨E10.canSet (by simp) rfl, ?_⟩
      rintro _ rfl
      have E11 := E10.set 0 (.int .i64 140)
      have O11 := O10.set_ne (a := ⟨N + 1 + 1, 0, none⟩) (v := .int .i64 140) (by show N + 1 ≠ N + 1 + 1; omega)
      refine ⟨_, _, _, O11.rd1 rfl, _, E11.rd1 rfl, hR _ _ ⟨mod_of M10 (Mod.setCell _ ⟨N + 1 + 1, 0, none⟩ (.int .i64 140)) (by show w.heap.size ≤ N + 1 + 1; omega), ?_⟩⟩
      unfold proveR
      rw [if_neg (by omega), if_pos (by omega)]
      exact ⟨by decide, rfl⟩
    · refine ⟨_, X8.rowAll (size_hashA _), ?_⟩
      have hI : PInv l D (N + 1) m w8 lab5 [] := ⟨D8, hSM.stp s48 (by decide) (by decide), none, 0, 0, O8, LsOwn.nil _ _ _ _⟩
      refine (way_calls (askP (dS := D) (dO := N + 1) (m := m) hb) hI (by simp) hroot (hkey.mod' M08) (by omega)).mono ?_
      rintro e w9 ⟨lab9, s89, I9, hw⟩
      have hpr : proveR l root key = (match way (pStep l) [] (rootIt root) (nibbles key) with
          | (out, .ok _) => .ok out
          | (_, .error e) => .error e) := by
        unfold proveR; rw [if_neg (by omega), if_neg (by omega)]
      have E9 := E8c.stp s89 (by decide)
      obtain ⟨_, _, o9, n9, k9, O9, L9⟩ := I9
      have M89 : Vcg.Mod (fun b => N ≤ b) w8 w9 := s89.mod (fun q hq hs => hlab5 q hs)
      have M09 : Vcg.Mod NoB w w9 := M08.trans M89 (fun i hi h => by omega)
      generalize way (pStep l) [] (rootIt root) (nibbles key) = res at hw hpr L9
      obtain ⟨out, r⟩ := res
      cases r with
      | error er =>
        obtain ⟨rfl, hne⟩ := hw
        refine .inl ⟨_, rfl, leave_fault hne (by omega) E9.blk O9.blk (fun w10 E10 O10 M10 => ?_)⟩
        refine ⟨_, _, _, O10.rd1 rfl, _, E10.rd1 rfl, hR _ _ ⟨M09.trans M10 (fun i hi h => by omega), ?_⟩⟩
        rw [hpr]
        exact ⟨hne, rfl⟩
      | ok v =>
        obtain ⟨ov, kv, rfl, hv⟩ := hw
        refine .inr ⟨_, _, _, _, rfl, _, _, _, O9.blk.rd1 rfl, O9.blk.canSet (by simp) rfl, ?_⟩
        rintro _ rfl
        have O10 := O9.set 0 (.slice o9 n9 k9)
        have s910 : Stp (· = 7) w9 lab9 _ lab9 := Stp.setCell (a := ⟨N + 1, 0, none⟩) (v := .slice o9 n9 k9) O9.clr
        have L10 := L9.stp s910 (by decide) (by decide)
        have E10 := E9.stp s910 (by decide)
        have M10 : Vcg.Mod NoB w _ := mod_of M09 (Mod.setCell w9 ⟨N + 1, 0, none⟩ (.slice o9 n9 k9)) (by show w.heap.size ≤ N + 1; omega)
        refine ⟨E10.blk.canSet (by simp) rfl, ?_⟩
        rintro _ rfl
        have E11 := E10.set 0 (.int .i64 0)
        have s1011 : Stp (· = 1) (w9.setCell ⟨N + 1, 0, none⟩ (.slice o9 n9 k9)) lab9 _ lab9 := Stp.setCell (a := ⟨N + 1 + 1, 0, none⟩) (v := .int .i64 0) E10.clr
        have L11 := L10.stp s1011 (by decide) (by decide)
        have O11 := O10.stp s1011 (by decide)
        refine leave_well E11.blk ⟨_, _, _, O11.blk.rd1 rfl, _, E11.blk.rd1 rfl, hR _ _ ⟨mod_of M10 (Mod.setCell _ ⟨N + 1 + 1, 0, none⟩ (.int .i64 0)) (by show w.heap.size ≤ N + 1 + 1; omega), ?_⟩⟩
        rw [hpr]
        exact ⟨o9, n9, k9, rfl, lab9, 8, 9, L11⟩
end Go.Proofs.Ytfghidehlnfdiaa
end
section
namespace Go.Proofs.Ytfghidehlnfdiaa
open Go Go.Vcg Go.Trie
theorem Good.dec {xs : List It} {j : Nat} (hg : Good (.l xs)) (hj : j < xs.length) {b : By} (h : xs[j] = .s b) : b.length ≤ 2 ^ 20 := by
  obtain ⟨g, _, hf⟩ := hg.node
  have hm := hf.mem (List.getElem_mem hj)
  rw [h] at hm
  have : b.length ≤ (enc (.s b)).length := by
    simp only [enc]
    split
    · exact Nat.le_refl _
    · rw [List.length_append]; omega
  have := hm.2.2
  omega
def DownIs (A : Nat → Prop) (w : World) (t : By × By × By) (e : Ending) : Prop :=
  ∃ ov kv orr kr on kn, e = .returned (.tuple #[.slice ov t.1.length kv, .slice orr t.2.1.length kr, .agg #[.bool false, .slice on t.2.2.length kn, .slice none 0 0]]) ∧ RdA A w ov t.1 ∧ RdA A w orr t.2.1 ∧ t.2.1.length ≤ kr ∧ RdA A w on t.2.2
theorem Down_calls {w : World} {A : Nat → Prop} {x0 : It} {path0 : By} {v1 v2 v3 : Value} {op : Option Addr} {kp : Nat} (hg0 : Good x0) (hx0 : ItC A w x0 v1 v2 v3) (hr0 : RdA A w op path0) (hk0 : path0.length ≤ kp) (hn0 : ∀ n ∈ path0, n.toNat < 16) (hl0 : path0.length ≤ 128) :
    Calls Try.prog moraineref14_Down.n #[.agg #[v1, v2, v3], .slice op path0.length kp] w (fun e w' => Vcg.Mod NoB w w' ∧ DownIs A w (downR (path0.length + 1) x0 path0) e) := by
  obtain ⟨b, q1, l1, c1, q2, l2, c2, rfl, rfl, rfl⟩ := hx0.vals
  refine calls_gen fun R hR => moraineref14_Down.vc _ _ _ _ _ _ _ _ _ _ _ _ ?_
  unfold moraineref14_Down.Vc
  rintro d4 w1 ⟨rfl, rfl⟩
  have M1 := Mod.alloc (S := NoB) w (.cells #[.bool b, .slice q1 l1 c1, .slice q2 l2 c2] 138)
  have X1 := Blk.new w 138 #[.bool b, .slice q1 l1 c1, .slice q2 l2 c2]
  have z1 := size_alloc w (.cells #[.bool b, .slice q1 l1 c1, .slice q2 l2 c2] 138)
  generalize hD : w.heap.size = D at *
  generalize w.alloc (.cells #[.bool b, .slice q1 l1 c1, .slice q2 l2 c2] 138) = w1 at *
  rintro d6 w2 ⟨rfl, rfl⟩
  have M12 := Mod.alloc (S := NoB) w1 (.cells #[.bool false, .slice none 0 0, .slice none 0 0] 138)
  have E2 := Blk.new w1 138 #[.bool false, .slice none 0 0, .slice none 0 0]
  have X2 := X1.mod' M12
  have M2 := M1.none_trans M12
  generalize hE : w1.heap.size = E at *
  generalize w1.alloc (.cells #[.bool false, .slice none 0 0, .slice none 0 0] 138) = w2 at *
  have hDE : D ≠ E := by omega
  refine ⟨fun o l c w' => ∃ (f : Nat) (x : It) (path : By) (u1 u2 u3 : Value), l = path.length ∧ path.length ≤ c ∧ RdA A w o path ∧ (∀ n ∈ path, n.toNat < 16) ∧ path.length ≤ 128 ∧ Good x ∧ path.length < f ∧ downR f x path = downR (path0.length + 1) x0 path0 ∧ ItC A w x u1 u2 u3 ∧ Blk w' D 138 #[u1, u2, u3] ∧ Blk w' E 138 #[.bool false, .slice none 0 0, .slice none 0 0] ∧ Vcg.Mod NoB w w',
    fun _ l _ _ => l, ⟨path0.length + 1, x0, path0, _, _, _, rfl, hk0, hr0, hn0, hl0, hg0, Nat.lt_succ_self _, rfl, hx0, X2, E2, M2⟩, ?_⟩
  clear X2 E2 M2 M12 X1 M1 hx0 hr0
  rintro o l c _ w3 ⟨f, x, path, u1, u2, u3, rfl, hkp, hr, hn, hl, hg, hf, heq, hx, X3, E3, M3⟩
  obtain ⟨f, rfl⟩ : ∃ g, f = g + 1 := ⟨f - 1, by omega⟩
  obtain ⟨bb, p1, m1, k1, p2, m2, k2, rfl, rfl, rfl⟩ := hx.vals
  -- the end of a list
  have stop : ∀ (w4 : World) (ov : Option Addr) (kv : Nat) (v : By), downR (f + 1) x path = (v, [], []) → RdA A w ov v → Blk w4 E 138 #[.bool false, .slice none 0 0, .slice none 0 0] → Vcg.Mod NoB w w4 →
      CanSet w4 ⟨E, 0, none⟩ (.bool false) ∧ ∀ w40 : World, IsSet w4 ⟨E, 0, none⟩ (.bool false) w40 → CanSet w40 (Addr.add ⟨E, 0, none⟩ 1) (.slice none 0 0) ∧ ∀ w41 : World, IsSet w40 (Addr.add ⟨E, 0, none⟩ 1) (.slice none 0 0) w41 → CanSet w41 (Addr.add ⟨E, 0, none⟩ 2) (.slice none 0 0) ∧ ∀ w42 : World, IsSet w41 (Addr.add ⟨E, 0, none⟩ 2) (.slice none 0 0) w42 →
      ∃ b43 : Bool, ∃ o44 : Option Addr, ∃ l45 : Nat, ∃ l46 : Nat, ∃ o47 : Option Addr, ∃ l48 : Nat, ∃ l49 : Nat, World.cell? w42 ⟨E, 0, none⟩ = some (.bool b43) ∧ World.cell? w42 (Addr.add ⟨E, 0, none⟩ 1) = some (.slice o44 l45 l46) ∧ World.cell? w42 (Addr.add ⟨E, 0, none⟩ 2) = some (.slice o47 l48 l49) ∧
        R (.returned (.tuple #[.slice ov v.length kv, .slice none 0 0, .agg #[.bool b43, .slice o44 l45 l46, .slice o47 l48 l49]])) w42 := by
    intro w4 ov kv v hd hrv E4 M4
    rw [heq] at hd
    refine ret_3 (b1 := false) (o := none) (l := 0) (k := 0) (o2 := none) (l2 := 0) (k2 := 0) (R' := fun b43 o44 l45 l46 o47 l48 l49 w42 => R (.returned (.tuple #[.slice ov v.length kv, .slice none 0 0, .agg #[.bool b43, .slice o44 l45 l46, .slice o47 l48 l49]])) w42) E4 (fun w5 Q5 => hR _ _ ⟨mod_of M4 Q5 (by omega), ?_⟩)
    rw [hd]
    exact ⟨ov, kv, none, 0, none, 0, rfl, hrv, RdA.nil _ _ _, Nat.zero_le _, RdA.nil _ _ _⟩
  refine ⟨bb, X3.rd1 rfl, fun hb => ?_, fun hb => ?_⟩
  · cases x with
    | s b => simp only [ItC] at hx; cases hx.1; cases hb
    | l xs =>
      have hx' := hx
      simp only [ItC] at hx'
      obtain ⟨h1, h2, oi, ci, h3, h4, hcap⟩ := hx'
      cases h1; cases h2; cases h3
      have c2 : World.cell? w3 (Addr.add ⟨D, 0, none⟩ 2) = some (.slice p2 xs.length k2) := by rw [add_at]; exact X3.rd1 rfl
      refine ⟨_, _, _, c2, fun h2 => ?_, fun h2 => ?_⟩
      · have h2' : xs.length = 2 := by omega
        obtain ⟨pp, lf, he, hl1, hl2⟩ := hg.two h2'
        obtain ⟨g, f0, a1, a2, a3, rfl, hgs, e1, e2, e3, hi⟩ := (ItsC.mod M3 _ h4).get 0 (by omega)
        have h0e : xs.getD 0 (.s []) = xs[0] := getD_at (by omega)
        have h1e : xs.getD 1 (.s []) = xs[1] := getD_at (by omega)
        cases hq : xs[0] with
        | l ys => rw [h0e, hq] at he; simp [headIs] at he
        | s bs =>
          have hbl := hg.dec (by omega) hq
          rw [hq] at hi
          simp only [ItC] at hi
          obtain ⟨rfl, ⟨ox, cx, rfl, hrx, _⟩, rfl⟩ := hi
          refine ⟨_, _, _, c2, _, rfl, ⟨by decide, by omega⟩, _, _, _, by rw [add_at, add_at]; exact e2, ?_⟩
          refine (rUnpack_calls hrx hbl).mono ?_
          rintro _ w4 ⟨o', k', rfl, M4, R4, _⟩
          have M04 := M3.none_trans M4
          have X4 := X3.mod' M4
          have E4 := E3.mod' M4
          have he' := he
          rw [h0e, hq] at he'
          simp only [headIs] at he'
          have eu : upk bs = (pp, lf, 0) := by unfold upk; rw [he']
          rw [eu] at R4 ⊢
          obtain ⟨g', f0', t1, t2, t3, ho, hg', d1, d2, d3, hi'⟩ := (ItsC.mod M04 _ h4).get 1 (by omega)
          cases ho
          have c2' : World.cell? w4 (Addr.add ⟨D, 0, none⟩ 2) = some (.slice (some ⟨g, f0, none⟩) xs.length k2) := by rw [add_at]; exact X4.rd1 rfl
          refine ⟨_, _, _, _, _, rfl, fun hlf => ?_, fun hlf => ?_⟩
          · dsimp only at hlf; subst hlf
            obtain ⟨vs, hv1, hvn⟩ := hl1 rfl
            rw [h1e] at hv1
            rw [hv1] at hi'
            simp only [ItC] at hi'
            obtain ⟨rfl, ⟨oy, cy, rfl, hry, hay⟩, rfl⟩ := hi'
            have hry0 : RdA A w oy vs := by
              obtain ⟨g9, f9, s1, s2, s3, ho9, hg9, d19, d29, d39, hi0⟩ := h4.get 1 (by omega)
              cases ho9
              rw [hv1] at hi0
              simp only [ItC] at hi0
              obtain ⟨rfl, ⟨oz, cz, rfl, hrz, haz⟩, rfl⟩ := hi0
              have h5 : w4.cell? ⟨g, f0 + (0 + 1 * 3) + 1, none⟩ = w.cell? ⟨g, f0 + (0 + 1 * 3) + 1, none⟩ := cell_mod M04 hg9 (fun h => h)
              have hd2 : w4.cell? ⟨g, f0 + (0 + 1 * 3) + 1, none⟩ = some (.slice oy vs.length cy) := d2
              have hd29 : w.cell? ⟨g, f0 + (0 + 1 * 3) + 1, none⟩ = some (.slice oz vs.length cz) := d29
              rw [hd2, hd29] at h5
              cases h5
              exact ⟨hrz, haz⟩
            refine ⟨_, toStr R4, _, rfl, _, toStr (hr.1.mod' M04), _, rfl, fun hs => ?_, fun hs => ?_⟩
            · rw [strB_strOf, decide_eq_true_eq] at hs
              refine ⟨_, _, _, c2', _, rfl, ⟨by decide, by omega⟩, _, _, _, by rw [add_at, add_at]; exact d2, ?_⟩
              exact stop w4 oy cy vs (by rw [downR_leaf h2' he, if_pos hs, h1e, hv1]; rfl) hry0 E4 M04
            · rw [strB_strOf, decide_eq_false_iff_not] at hs
              exact stop w4 none 0 [] (by rw [downR_leaf h2' he, if_neg hs]) (RdA.nil _ _ _) E4 M04
          · dsimp only at hlf; subst hlf
            obtain ⟨hpn, hgy, _⟩ := hl2 rfl
            rintro _ rfl
            have M5 := M04.step_drew
            have X5 := X4.drew
            have E5 := E4.drew
            have R5 : RdB w4.drew o' pp := R4
            have d1' : w4.drew.cell? ⟨g, f0 + (0 + 1 * 3), none⟩ = some t1 := d1
            have d2' : w4.drew.cell? ⟨g, f0 + (0 + 1 * 3) + 1, none⟩ = some t2 := d2
            have d3' : w4.drew.cell? ⟨g, f0 + (0 + 1 * 3) + 2, none⟩ = some t3 := d3
            generalize w4.drew = w5 at *
            dsimp only
            refine ⟨fun hlt => ?_, fun hge => ?_⟩
            · exact stop w5 none 0 [] (by
                rw [downR_row h2' he, if_neg]
                intro hpre
                have := (List.isPrefixOf_iff_prefix.1 hpre).length_le
                omega) (RdA.nil _ _ _) E5 M5
            · have hle : pp.length ≤ path.length := by omega
              have htk : (path.take pp.length).length = pp.length := by rw [List.length_take]; omega
              have hstr := toStr (k := c) ((hr.1.mod' M5).take pp.length)
              rw [htk] at hstr
              refine ⟨⟨by omega, by omega⟩, _, by rw [Int.toNat_natCast]; exact hstr, _, rfl, _, toStr R5, _, rfl, fun hs => ?_, fun hs => ?_⟩
              · rw [strB_neq, decide_eq_true_eq] at hs
                exact stop w5 none 0 [] (by
                  rw [downR_row h2' he, if_neg]
                  intro hpre
                  exact hs (List.prefix_iff_eq_take.1 (List.isPrefixOf_iff_prefix.1 hpre)).symm) (RdA.nil _ _ _) E5 M5
              · rw [strB_neq, decide_eq_false_iff_not, ne_eq, Decidable.not_not] at hs
                have hpre : pp.isPrefixOf path = true := List.isPrefixOf_iff_prefix.2 (List.prefix_iff_eq_take.2 hs.symm)
                have c5 : World.cell? w5 (Addr.add ⟨D, 0, none⟩ 2) = some (.slice (some ⟨g, f0, none⟩) xs.length k2) := by rw [add_at]; exact X5.rd1 rfl
                obtain ⟨_, _, _, _, _, _, _, rfl, rfl, rfl⟩ := hi'.vals
                refine ⟨⟨by omega, by omega⟩, _, _, _, c5, _, rfl, ⟨by decide, by omega⟩, _, _, _, _, _, _, _, by rw [add_at]; exact d1', by rw [add_at, add_at]; exact d2', by rw [add_at, add_at]; exact d3', ?_⟩
                refine set3 X5 rfl rfl rfl (fun w6 X6 Q6 => ?_)
                have hppos : 0 < pp.length := List.length_pos_iff.2 hpn
                have hdl : (path.drop pp.length).length = path.length - pp.length := List.length_drop
                -- the item at the base
                obtain ⟨g9, f9, s1, s2, s3, ho9, hg9, d19, d29, d39, hi0⟩ := h4.get 1 (by omega)
                cases ho9
                have ev : ∀ {i : Nat} {a b : Value}, w5.cell? ⟨g, f0 + i, none⟩ = some a → w.cell? ⟨g, f0 + i, none⟩ = some b → a = b := fun {i a b} ha hb => by
                  rw [cell_mod M5 (by omega) (fun h => h), hb] at ha
                  exact (Option.some.inj ha).symm
                obtain rfl := ev (i := 0 + 1 * 3) d1' d19
                obtain rfl := ev (i := 0 + 1 * 3 + 1) d2' d29
                obtain rfl := ev (i := 0 + 1 * 3 + 2) d3' d39
                rw [Int.toNat_natCast]
                refine ⟨⟨f, xs[1], path.drop pp.length, _, _, _, hdl.symm, by omega, ?_, fun n hnq => hn n ((List.drop_suffix _ _).subset hnq), by omega, by rw [← h1e]; exact hgy, by omega, ?_, hi0, X6, E5.mod Q6 (by omega), mod_of M5 Q6 (by omega)⟩, by omega⟩
                · have := hr.sub (lo := pp.length) (n := path.length - pp.length) hkp
                  rwa [← hdl, List.take_length] at this
                · rw [← heq, downR_row h2' he, if_pos hpre, h1e]
      · obtain ⟨h17, ⟨v16, hv16⟩, hkids⟩ := hg.many (by omega)
        refine ⟨fun hl0 => ?_, fun hl0 => ?_⟩
        · have hp0 : path = [] := List.eq_nil_of_length_eq_zero (by omega)
          obtain ⟨g, f0, a1, a2, a3, rfl, hgs, e1, e2', e3, hi⟩ := h4.get 16 (by omega)
          have e2 : w3.cell? ⟨g, f0 + (0 + 16 * 3) + 1, none⟩ = some a2 := by rw [cell_mod M3 hgs (fun h => h)]; exact e2'
          have h16 := hv16
          rw [getD_at (by omega)] at h16
          rw [h16] at hi
          simp only [ItC] at hi
          obtain ⟨rfl, ⟨ov, cv, rfl, hrv, hav⟩, rfl⟩ := hi
          refine ⟨_, _, _, c2, _, rfl, ⟨by decide, by omega⟩, _, _, _, by rw [add_at, add_at]; exact e2, ?_⟩
          exact stop w3 ov cv v16 (by rw [hp0, downR_end (by omega), hv16]; rfl) ⟨hrv, hav⟩ E3 M3
        · cases path with
          | nil => exact (hl0 rfl).elim
          | cons n r =>
            obtain ⟨d, hod, hcn⟩ := head_cell (hr.1.mod' M3)
            have hn16 := hn n (by simp)
            have hjl : n.toNat < xs.length := by omega
            obtain ⟨g, f0, s1, s2, s3, rfl, hg9, d19, d29, d39, hi0⟩ := h4.get n.toNat hjl
            rw [Nat.zero_add] at d19 d29 d39
            have up : ∀ {i : Nat} {a : Value}, w.cell? ⟨g, i, none⟩ = some a → w3.cell? ⟨g, i, none⟩ = some a := fun h => by rw [cell_mod M3 hg9 (fun h => h)]; exact h
            obtain ⟨_, _, _, _, _, _, _, rfl, rfl, rfl⟩ := hi0.vals
            refine ⟨d, hod, ⟨by decide, by simp⟩, _, hcn, by simp, _, _, _, c2, _, rfl, ⟨by omega, by omega⟩, _, _, _, _, _, _, _, by rw [add_at, Int.toNat_natCast]; exact up d19, by rw [add_at, add_at, Int.toNat_natCast]; exact up d29, by rw [add_at, add_at, Int.toNat_natCast]; exact up d39, ?_⟩
            refine set3 X3 rfl rfl rfl (fun w6 X6 Q6 => ?_)
            simp only [List.length_cons] at hkp hl hf ⊢
            refine ⟨⟨f, xs[n.toNat], r, _, _, _, by omega, by omega, ?_, fun q hq => hn q (by simp [hq]), by omega, ?_, by omega, ?_, hi0, X6, E3.mod Q6 (by omega), mod_of M3 Q6 (by omega)⟩, by omega⟩
            · have := hr.sub (c := c) (lo := 1) (n := r.length) hkp
              simpa using this
            · have := hkids n.toNat hn16
              rwa [getD_at hjl] at this
            · rw [← heq, downR_kid (by omega), getD_at hjl]
  · cases x with
    | l xs => simp only [ItC] at hx; cases hx.1; cases hb
    | s b =>
      simp only [ItC] at hx
      obtain ⟨h1, ⟨ob, cb, h2, hrb, hab⟩, h3⟩ := hx
      cases h1; cases h2; cases h3
      rintro _ rfl
      refine get3 X3.drew ?_
      have M4 := M3.step_drew
      refine ret_3 E3.drew (fun w5 Q5 => hR _ _ ⟨mod_of M4 Q5 (by omega), ?_⟩)
      rw [← heq]
      exact ⟨none, 0, o, c, p1, k1, rfl, RdA.nil _ _ _, hr, hkp, hrb, hab⟩
end Go.Proofs.Ytfghidehlnfdiaa
end
