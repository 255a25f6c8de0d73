/- The program's disk: the other calls on a file's bytes; reading. -/
import Derived.Test.YtkekehngillblaaDP6
set_option linter.unusedVariables false
set_option linter.unusedSimpArgs false
namespace Go.Proofs.Ytkekehngillblaa
open Go Go.Vcg Go.Disk
section
variable {C : Type} {w w' : World} {lab lab' : Nat → C} {γ : DC → C} {d : Nat} {σ : Dk}
variable {mN mS : Nat} {po : Option Addr} {pl pc : Nat} {fb : Nat → Nat} {names sure : List (Nm × Nat)} {pend : List Chg} {files : Nat} {fs : Nat → Fl}

theorem WriteAt_calls (hγ : ∀ a b, γ a = γ b → a = b) (h : DAt w lab γ d σ) (hn : Nums σ) (hk : Ok (begins σ).1) (s : Nm) (at_ : Int) {o3 : Option Addr} {c3 : Nat} {by_ : List UInt8} {cb : C} (hby : CBy w lab cb o3 by_) (hcb : ¬ SD γ cb) (hb : by_.length ≤ 2 ^ 60) :
    Calls Try.prog disk_Disk_WriteAt.n #[.pointer (some ⟨d, 0, none⟩), .string s, .int .i64 at_, .slice o3 by_.length c3] w (fun e w' => e = .returned (.int .i64 (writeAt σ s at_ by_).2) ∧ DRes γ d w lab w' (writeAt σ s at_ by_).1) := by
  refine calls_gen fun R hR => disk_Disk_WriteAt.vc _ _ _ _ _ _ _ _ ?_
  unfold disk_Disk_WriteAt.Vc
  refine (changing_calls hγ h hn s (o := none) (c := 0) [] trivial (fun x hx => by cases hx)).mono ?_
  rintro _ w1 ⟨o, n, rfl, rfl, hD, hf⟩
  have hon := @chk_onFile σ s (fun d f => if at_ < 0 ∨ at_ > (d.fs f).bytes.length then (d, 14) else write d f at_.toNat by_)
  refine ⟨_, _, rfl, fun hne => hR _ _ ?_, fun h0 => ?_⟩
  · unfold writeAt
    rw [hon.1 hne]
    exact ⟨rfl, hD⟩
  · obtain ⟨f, hf1, hr1, lab1, mN, mS, po, pl, pc, fb, B, Rt, hv, s1⟩ := hf h0
    cases hv
    have hin : f < _ := hk.names.files _ (assoc_some hf1)
    obtain ⟨fo, l, k, so, sl, sc, fpo, fpl, fpc, vs, hF⟩ := Rt.files f hin
    have hbl : l = ((begins σ).1.fs f).bytes.length := by have := hF.bytes.own.len; simpa using this.symm
    have bad : at_ < 0 ∨ at_ > ((begins σ).1.fs f).bytes.length → R (.returned (.int .i64 14)) w1 := fun hb => hR _ _ (by
      unfold writeAt
      rw [hon.2 h0 f hf1, if_pos hb]
      exact ⟨rfl, hD⟩)
    refine ⟨fun h => bad (.inl h), fun h1 => ⟨_, rfl, ?_⟩⟩
    simp only [add_at, Nat.zero_add]
    refine ⟨_, _, _, hF.cells.blk.rd1 rfl, fun h => bad (.inr (by omega)), fun h2 => ?_⟩
    refine (write_calls hγ B Rt hk (begins_count hn) hin ⟨s, hf1⟩ (at_ := at_.toNat) (by omega) (by omega) (hby.stp s1 hcb) hcb hb).mono ?_
    rintro _ w2 ⟨rfl, lab2, D2, s2⟩
    refine ⟨_, rfl, hR _ _ ?_⟩
    unfold writeAt
    rw [hon.2 h0 f hf1, if_neg (by omega)]
    exact ⟨rfl, lab2, D2, s1.trans s2⟩

theorem Truncate_calls (hγ : ∀ a b, γ a = γ b → a = b) (h : DAt w lab γ d σ) (hn : Nums σ) (hk : Ok (begins σ).1) (s : Nm) (n : Int) :
    Calls Try.prog disk_Disk_Truncate.n #[.pointer (some ⟨d, 0, none⟩), .string s, .int .i64 n] w (fun e w' => e = .returned (.int .i64 (truncate σ s n).2) ∧ DRes γ d w lab w' (truncate σ s n).1) := by
  have ne : ∀ {x y : DC}, x ≠ y → ¬ γ x = γ y := fun h e => h (hγ _ _ e)
  refine calls_gen fun R hR => disk_Disk_Truncate.vc _ _ _ _ _ ?_
  unfold disk_Disk_Truncate.Vc
  refine (changing_calls hγ h hn s (o := none) (c := 0) [] trivial (fun x hx => by cases hx)).mono ?_
  rintro _ w1 ⟨o, nn, rfl, rfl, hD, hf⟩
  have hon := @chk_onFile σ s (fun d f => if n < 0 ∨ n > (d.fs f).bytes.length then (d, 14)
    else if n < (d.fs f).bytes.length then (Disk.setF d f { d.fs f with bytes := (d.fs f).bytes.take n.toNat, pend := (d.fs f).pend ++ [.cut n.toNat] }, 0)
    else (d, 0))
  refine ⟨_, _, rfl, fun hne => hR _ _ ?_, fun h0 => ?_⟩
  · unfold truncate
    rw [hon.1 hne]
    exact ⟨rfl, hD⟩
  · obtain ⟨f, hf1, hr1, lab1, mN, mS, po, pl, pc, fb, B, Rt, hv, s1⟩ := hf h0
    cases hv
    have hin : f < _ := hk.names.files _ (assoc_some hf1)
    obtain ⟨fo, l, k, so, sl, sc, fpo, fpl, fpc, vs, hF⟩ := Rt.files f hin
    have hbl : l = ((begins σ).1.fs f).bytes.length := by have := hF.bytes.own.len; simpa using this.symm
    have hlk := hF.bytes.own.cap
    have bad : n < 0 ∨ n > ((begins σ).1.fs f).bytes.length → R (.returned (.int .i64 14)) w1 := fun hb => hR _ _ (by
      unfold truncate
      rw [hon.2 h0 f hf1, if_pos hb]
      exact ⟨rfl, hD⟩)
    refine ⟨fun h => bad (.inl h), fun h1 => ⟨_, rfl, ?_⟩⟩
    simp only [add_at, Nat.zero_add]
    refine ⟨_, _, _, hF.cells.blk.rd1 rfl, fun h => bad (.inr (by omega)), fun h2 => ⟨_, rfl, ?_⟩⟩
    simp only [add_at, Nat.zero_add]
    refine ⟨_, _, _, hF.cells.blk.rd1 rfl, fun h3 => ?_, fun h3 => hR _ _ ?_⟩
    · refine ⟨_, rfl, ?_⟩
      simp only [add_at, Nat.zero_add]
      refine ⟨_, _, _, hF.cells.blk.rd1 rfl, by omega, _, rfl, ?_⟩
      simp only [add_at, Nat.zero_add]
      refine ⟨hF.cells.blk.canSet (by simp) rfl, ?_⟩
      rintro _ rfl
      have sA : Stp (· = γ (.file f)) w1 lab1 (w1.setCell ⟨fb f, 1, none⟩ (.slice fo n.toNat k)) lab1 := Stp.setCell hF.cells.clr
      have CA := hF.cells.set 1 (.slice fo n.toNat k)
      have byA : COw (w1.setCell ⟨fb f, 1, none⟩ (.slice fo n.toNat k)) lab1 (γ (.bytes f)) tU8 1 fo n.toNat k ((((begins σ).1.fs f).bytes.take n.toNat).map bV) := by
        have h5 := hF.bytes.stp sA (ne (by simp))
        refine ⟨⟨by rw [List.length_map, List.length_take]; omega, ?_⟩, h5.clr⟩
        rcases h5.own.2 with ⟨rfl, rfl, rfl⟩ | ⟨g, cur, rfl, hB, hlc, hcm, hcs, htk⟩
        · omega
        · refine .inr ⟨g, cur, rfl, hB, by omega, hcm, hcs, ?_⟩
          rw [List.map_take, ← htk, List.take_take]
          congr 1; omega
      have SA := hF.sure.stp sA (ne (by simp))
      have PA := hF.pend.stp sA (ne (by simp))
      have TA := hF.pts.stp sA (ne (by simp))
      generalize w1.setCell ⟨fb f, 1, none⟩ (.slice fo n.toNat k) = wA at *
      refine ⟨_, rfl, ?_⟩
      simp only [add_at, Nat.zero_add]
      refine ⟨_, _, _, CA.blk.rd1 rfl, ?_⟩
      rintro d25 wB ⟨rfl, rfl⟩
      have sN : Stp NoC wA lab1 (wA.alloc (.cells #[.iface tCut (.agg #[.int .i64 n])] tPatch)) (ext lab1 wA.heap.size (γ .froz)) := Stp.alloc _ _ _ _ _
      have BB := Blk.new wA tPatch #[.iface tCut (.agg #[.int .i64 n])]
      generalize wA.alloc (.cells #[.iface tCut (.agg #[.int .i64 n])] tPatch) = wB at *
      have CB' := CA.stp sN (fun h => h)
      have byB := byA.stp sN (fun h => h)
      have SB := SA.stp sN (fun h => h)
      have PB := PA.stp sN (fun h => h)
      have TB := TA.stp sN (fun h => h)
      have s0B := (sA.mono (T := Fs γ f) (fun c h => .inl h)).trans (sN.mono (T := Fs γ f) (fun c h => h.elim))
      generalize ext lab1 wA.heap.size (γ .froz) = labB at *
      have hsrc := src_one (P := Try.prog) (tx := tSlPatch) und_slPatch BB (sz := 1) rfl (by intro v hv; simp at hv; subst hv; rfl)
      have hpl : fpl = ((begins σ).1.fs f).pend.length := by have := PB.own.1; rw [← TB.len]; simpa using this.symm
      have hpe := hk.pends f hin
      have hct := begins_count hn
      obtain ⟨o9, k9, w9, h9, P9, s9⟩ := cow_patch PB hsrc (by omega)
      have C9 := CB'.stp s9 (ne (by simp))
      have by9 := byB.stp s9 (ne (by simp))
      have S9 := SB.stp s9 (ne (by simp))
      have T9 := TB.stp s9 (ne (by simp))
      have s09 := s0B.trans (s9.mono (T := Fs γ f) (fun c h => .inr (.inr h)))
      generalize ext labB wB.heap.size (γ (.fpend f)) = lab9 at *
      refine ⟨_, w9, h9, _, _, _, rfl, _, rfl, ?_⟩
      simp only [add_at, Nat.zero_add]
      refine ⟨C9.blk.canSet (by simp) rfl, ?_⟩
      rintro _ rfl
      have sE : Stp (· = γ (.file f)) w9 lab9 (w9.setCell ⟨fb f, 3, none⟩ (.slice o9 (fpl + 1) k9)) lab9 := Stp.setCell C9.clr
      refine hR _ _ ?_
      have hFA : FAt (w9.setCell ⟨fb f, 3, none⟩ (.slice o9 (fpl + 1) k9)) lab9 γ f (fb f) { (begins σ).1.fs f with bytes := ((begins σ).1.fs f).bytes.take n.toNat, pend := ((begins σ).1.fs f).pend ++ [.cut n.toNat] } :=
        ⟨fo, _, k, so, sl, sc, o9, fpl + 1, k9, vs ++ [.iface tCut (.agg #[.int .i64 n])], C9.set 3 (.slice o9 (fpl + 1) k9), by9.stp sE (ne (by simp)), S9.stp sE (ne (by simp)), hF.slen, P9.stp sE (ne (by simp)),
          (T9.stp sE (ne (by simp))).snoc (by show _ = _; rw [show ((n.toNat : Nat) : Int) = n by omega])⟩
      have s0E := s09.trans (sE.mono (T := Fs γ f) (fun c h => .inl h))
      have hDA := DAt.setF hγ B Rt s0E hFA
      unfold truncate
      rw [hon.2 h0 f hf1, if_neg (by omega), if_pos (by omega)]
      exact ⟨rfl, lab9, hDA, s1.trans (s0E.mono (fun c h => h.sd))⟩
    · unfold truncate
      rw [hon.2 h0 f hf1, if_neg (by omega), if_neg (by omega)]
      exact ⟨rfl, hD⟩

theorem Sync_calls (hγ : ∀ a b, γ a = γ b → a = b) (h : DAt w lab γ d σ) (hn : Nums σ) (hk : Ok (begins σ).1) (s : Nm) :
    Calls Try.prog disk_Disk_Sync.n #[.pointer (some ⟨d, 0, none⟩), .string s] w (fun e w' => e = .returned (.int .i64 (sync σ s).2) ∧ DRes γ d w lab w' (sync σ s).1) := by
  have ne : ∀ {x y : DC}, x ≠ y → ¬ γ x = γ y := fun h e => h (hγ _ _ e)
  refine calls_gen fun R hR => disk_Disk_Sync.vc _ _ _ _ ?_
  unfold disk_Disk_Sync.Vc
  refine (changing_calls hγ h hn s (o := none) (c := 0) [] trivial (fun x hx => by cases hx)).mono ?_
  rintro _ w1 ⟨o, nn, rfl, rfl, hD, hf⟩
  have hon := @chk_onFile σ s (fun d f => (Disk.setF d f { d.fs f with sure := (d.fs f).bytes, pend := [] }, 0))
  refine ⟨_, _, rfl, fun hne => hR _ _ ?_, fun h0 => ?_⟩
  · unfold sync
    rw [hon.1 hne]
    exact ⟨rfl, hD⟩
  · obtain ⟨f, hf1, hr1, lab1, mN, mS, po, pl, pc, fb, B, Rt, hv, s1⟩ := hf h0
    cases hv
    have hin : f < _ := hk.names.files _ (assoc_some hf1)
    obtain ⟨fo, l, k, so, sl, sc, fpo, fpl, fpc, vs, hF⟩ := Rt.files f hin
    have hbl : l = ((begins σ).1.fs f).bytes.length := by have := hF.bytes.own.len; simpa using this.symm
    have hsz := (hk.size f hin).2
    simp only [most] at hsz
    -- what is left to be shown of the world behind
    have fin : ∀ w2 lab2, FAt w2 lab2 γ f (fb f) { (begins σ).1.fs f with sure := ((begins σ).1.fs f).bytes, pend := [] } → Stp (Fs γ f) w1 lab1 w2 lab2 → R (.returned (.int .i64 0)) w2 := by
      intro w2 lab2 hFA s2
      refine hR _ _ ?_
      have hDA := DAt.setF hγ B Rt s2 hFA
      unfold sync
      rw [hon.2 h0 f hf1]
      exact ⟨rfl, lab2, hDA, s1.trans (s2.mono (fun c h => h.sd))⟩
    refine Calls.mono (R := fun e w2 => e = .returned (.tuple #[]) ∧ ∃ lab2, FAt w2 lab2 γ f (fb f) { (begins σ).1.fs f with sure := ((begins σ).1.fs f).bytes, pend := [] } ∧ Stp (Fs γ f) w1 lab1 w2 lab2) ?_ ?_
    · refine calls_gen fun R hR => disk_file_settle.vc ⟨fb f, 0, none⟩ _ _ ?_
      unfold disk_file_settle.Vc
      simp only [add_at, Nat.zero_add]
      refine ⟨_, _, _, hF.cells.blk.rd1 rfl, fun hgt => ?_, fun hle => hR _ _ ⟨rfl, lab1, ?_, Stp.refl _ _ _⟩⟩
      · refine ⟨_, _, _, hF.cells.blk.rd1 rfl, ?_⟩
        have hC := Clone_calls (c := k) hF.bytes.bytes.rd (by omega)
        rw [← hbl] at hC
        refine hC.mono ?_
        rintro _ w2 ⟨o2, k2, rfl, ow2, M2, hF2⟩
        refine ⟨_, _, _, rfl, ?_⟩
        have sN : Stp NoC w1 lab1 w2 (ext lab1 w1.heap.size (γ .froz)) := Stp.of_nob M2 _
        have c2 : CBy w2 (ext lab1 w1.heap.size (γ .froz)) (γ .froz) o2 ((begins σ).1.fs f).bytes := ⟨ow2.bytes, fun _ x hx => ext_new (hF2 _ ⟨x, hx, rfl⟩)⟩
        have C2 := hF.cells.stp sN (fun h => h)
        have by2 := hF.bytes.stp sN (fun h => h)
        generalize ext lab1 w1.heap.size (γ .froz) = lab2 at *
        refine ⟨C2.blk.canSet (by simp) rfl, ?_⟩
        rintro _ rfl
        have s3 : Stp (· = γ (.file f)) w2 lab2 (w2.setCell ⟨fb f, 2, none⟩ (.slice o2 l k2)) lab2 := Stp.setCell C2.clr
        have C3 := C2.set 2 (.slice o2 l k2)
        have by3 := by2.stp s3 (ne (by simp))
        have c3 := c2.stp s3 (ne (by simp))
        generalize w2.setCell ⟨fb f, 2, none⟩ (.slice o2 l k2) = w3 at *
        refine ⟨C3.blk.canSet (by simp) rfl, ?_⟩
        rintro _ rfl
        have s4 : Stp (· = γ (.file f)) w3 lab2 (w3.setCell ⟨fb f, 3, none⟩ (.slice none 0 0)) lab2 := Stp.setCell C3.clr
        refine hR _ _ ⟨rfl, lab2, ⟨fo, l, k, o2, l, k2, none, 0, 0, [], C3.set 3 (.slice none 0 0), by3.stp s4 (ne (by simp)), c3.stp s4 (ne (by simp)), hbl, COw.nil _ _ _ _ _, Pts.nil⟩, ?_⟩
        exact (sN.mono (T := Fs γ f) (fun c h => h.elim)).trans ((s3.mono (T := Fs γ f) (fun c h => .inl h)).trans (s4.mono (T := Fs γ f) (fun c h => .inl h)))
      · have hp0 : ((begins σ).1.fs f).pend = [] := by
          have h1 := hF.pend.own.len
          have h2 := hF.pts.len
          exact List.eq_nil_of_length_eq_zero (by omega)
        have hpt := hk.pts f hin
        rw [hp0] at hpt
        have hsb : ((begins σ).1.fs f).sure = ((begins σ).1.fs f).bytes := hpt
        have e1 : ({ (begins σ).1.fs f with sure := ((begins σ).1.fs f).bytes, pend := [] } : Fl) = (begins σ).1.fs f := by
          rw [← hsb, ← hp0]
        rw [e1]
        exact ⟨fo, l, k, so, sl, sc, fpo, fpl, fpc, vs, hF⟩
    · rintro _ w2 ⟨rfl, lab2, hFA, s2⟩
      exact ⟨rfl, fin w2 lab2 hFA s2⟩

/-! ### reading -/
theorem Read_calls (h : DAt w lab γ d σ) (hk : Ok σ) (s : Nm) (c : C) :
    Calls Try.prog disk_Disk_Read.n #[.pointer (some ⟨d, 0, none⟩), .string s] w (fun e w' => ∃ o k, e = .returned (.tuple #[.slice o (Disk.read σ s).1.length k, .int .i64 (Disk.read σ s).2]) ∧
      ∃ lab', DAt w' lab' γ d σ ∧ COw w' lab' c tU8 1 o (Disk.read σ s).1.length k ((Disk.read σ s).1.map bV) ∧ Stp (SD γ) w lab w' lab') := by
  refine calls_gen fun R hR => disk_Disk_Read.vc _ _ _ _ ?_
  unfold disk_Disk_Read.Vc
  refine (asked_calls h s).mono ?_
  rintro _ w1 ⟨o, nn, rfl, rfl, hD, hf⟩
  unfold Disk.read at *
  refine ⟨_, _, rfl, fun hne => hR _ _ ?_, fun h0 => ?_⟩
  · obtain ⟨lab1, D1, s1⟩ := hD
    rw [if_neg hne]
    exact ⟨none, 0, rfl, lab1, D1, COw.nil _ _ _ _ _, s1⟩
  · obtain ⟨f, hf1, hr1, lab1, mN, mS, po, pl, pc, fb, B, Rt, hv, s1⟩ := hf h0
    cases hv
    rw [if_pos h0] at hR
    have hfn : (asked σ s).1 = f := by
      unfold asked at h0 ⊢
      split at h0
      · cases h0
      · rename_i hd
        rw [if_neg hd]
        exact named_fst hr1 hf1
    rw [hfn] at hR
    have hin : f < _ := hk.names.files _ (assoc_some hf1)
    have DW : DAt w1 lab1 γ d σ := ⟨mN, mS, po, pl, pc, fb, B, Rt⟩
    obtain ⟨fo, l, k, so, sl, sc, fpo, fpl, fpc, vs, hF⟩ := Rt.files f hin
    have hbl : l = (σ.fs f).bytes.length := by have := hF.bytes.own.len; simpa using this.symm
    have hsz := (hk.size f hin).2
    simp only [most] at hsz
    refine ⟨_, rfl, ?_⟩
    simp only [add_at, Nat.zero_add]
    refine ⟨_, _, _, hF.cells.blk.rd1 rfl, ?_⟩
    have hC := Clone_calls (c := k) hF.bytes.bytes.rd (by omega)
    rw [← hbl] at hC
    refine hC.mono ?_
    rintro _ w2 ⟨o2, k2, rfl, ow2, M2, hF2⟩
    refine ⟨_, _, _, rfl, hR _ _ ?_⟩
    have sN : Stp NoC w1 lab1 w2 (ext lab1 w1.heap.size c) := Stp.of_nob M2 _
    refine ⟨o2, k2, by rw [hbl], _, DW.stp sN (fun _ h => h), ⟨by rw [← hbl]; exact ow2, fun k hk => ext_new (hF2 k hk)⟩, s1.trans (sN.mono (fun _ h => h.elim))⟩
end
end Go.Proofs.Ytkekehngillblaa
