/- The program's disk: calls on names; a new disk. -/
import Derived.Test.YtkekehngillblaaDP8
set_option linter.unusedVariables false
set_option linter.unusedSimpArgs false
namespace Go.Proofs.Ytkekehngillblaa
open Go Go.Vcg Go.Disk
section
variable {C : Type} {w w' : World} {lab lab' : Nat → C} {γ : DC → C} {d : Nat} {σ : Dk} {c : C} {m : Nat}
variable {mN mS : Nat} {po : Option Addr} {pl pc : Nat} {fb : Nat → Nat} {names sure l : List (Nm × Nat)} {pend : List Chg} {files files0 : Nat} {fs : Nat → Fl}

theorem okM (fb : Nat → Nat) (ch : Chg) : OkM Try.prog (chgV fb ch) "moraine/disk.on" := by
  cases ch with
  | made n f => exact ⟨_, _, rfl, fun w => n_made w n _⟩
  | ren a b => exact ⟨_, _, rfl, fun w => n_ren w a b⟩
  | rem n => exact ⟨_, _, rfl, fun w => n_rem w n⟩
theorem chgV_one (fb : Nat → Nat) (ch : Chg) : (chgV fb ch).oneCell' = true := by cases ch <;> rfl

theorem does_calls (hγ : ∀ a b, γ a = γ b → a = b) {cap : Int} {count : Nat} {fail halt : Int} {down : Bool} (B : CB w lab (γ .disk) d tDisk (diskA cap mN mS po pl pc files0 count fail halt down)) (Rt : DRest w lab γ mN mS po pl pc fb names sure pend files fs)
    {ch : Chg} (hch : ChgOk files names ch) (hp : pend.length < 2 ^ 40) :
    Calls Try.prog disk_Disk_does.n #[.pointer (some ⟨d, 0, none⟩), chgV fb ch] w (fun e w' => e = .returned (.tuple #[]) ∧ ∃ lab' po' pl' pc', CB w' lab' (γ .disk) d tDisk (diskA cap mN mS po' pl' pc' files0 count fail halt down) ∧
      DRest w' lab' γ mN mS po' pl' pc' fb (ch.on names) sure (pend ++ [ch]) files fs ∧ Stp (SD γ) w lab w' lab') := by
  have ne : ∀ {x y : DC}, x ≠ y → ¬ γ x = γ y := fun h e => h (hγ _ _ e)
  refine calls_gen fun R hR => disk_Disk_does.vc _ _ _ _ ?_
  unfold disk_Disk_does.Vc
  rintro _ rfl
  have sD : Stp NoC w lab w.drew lab := Stp.drew _ _ _
  have B1 := B.stp sD (fun h => h)
  have R1 := Rt.stp sD (fun _ _ h => h)
  have s1 : Stp (SD γ) w lab w.drew lab := sD.mono (fun _ h => h.elim)
  generalize w.drew = w1 at *
  simp only [add_at, Nat.zero_add]
  refine ⟨_, B1.blk.rd1 rfl, okM fb ch, ?_⟩
  obtain ⟨t, x, f, recv, hv, hm, he, hcall⟩ := on_calls R1.names hch
  refine ⟨t, x, f, recv, hv, hm, he, hcall.mono ?_⟩
  rintro _ w2 ⟨rfl, lab2, N2, s2⟩
  have B2 := B1.stp s2 (ne (by simp))
  have P2 := R1.pend.stp s2 (ne (by simp))
  have S2 := R1.sure.stp s2 (ne (by simp))
  have F2 : ∀ n, n < files → FAt w2 lab2 γ n (fb n) (fs n) := fun n hn => (R1.files n hn).stp s2 (ne (by simp)) (ne (by simp)) (ne (by simp)) (ne (by simp))
  have s02 := s1.trans (s2.mono (T := SD γ) (fun c h => h ▸ SD.of (by simp)))
  refine ⟨rfl, _, _, _, B2.blk.rd1 rfl, chgV_one fb ch, ?_⟩
  rintro d11 w3 ⟨rfl, rfl⟩
  have BB := Blk.new w2 tChange #[chgV fb ch]
  have sN : Stp NoC w2 lab2 (w2.alloc (.cells #[chgV fb ch] tChange)) (ext lab2 w2.heap.size (γ .froz)) := Stp.alloc _ _ _ _ _
  have hpl : pl = pend.length := by have := P2.own.1; simpa using this.symm
  generalize w2.alloc (.cells #[chgV fb ch] tChange) = w3 at *
  have B3 := B2.stp sN (fun h => h)
  have P3 := P2.stp sN (fun h => h)
  have S3 := S2.stp sN (fun h => h)
  have N3 := N2.stp sN (fun h => h)
  have F3 : ∀ n, n < files → FAt w3 _ γ n (fb n) (fs n) := fun n hn => (F2 n hn).stp sN (fun h => h) (fun h => h) (fun h => h) (fun h => h)
  have s03 := s02.trans (sN.mono (T := SD γ) (fun c h => h.elim))
  generalize ext lab2 w2.heap.size (γ .froz) = lab3 at *
  have hsrc := src_one (P := Try.prog) (tx := tSlChange) und_slChange BB (sz := 1) rfl (by intro v hv; simp at hv; subst hv; exact chgV_one fb ch)
  obtain ⟨o4, k4, w4, h4, P4, s4⟩ := cow_change P3 hsrc (by omega)
  have B4 := B3.stp s4 (ne (by simp))
  have S4 := S3.stp s4 (ne (by simp))
  have N4 := N3.stp s4 (ne (by simp))
  have F4 : ∀ n, n < files → FAt w4 _ γ n (fb n) (fs n) := fun n hn => (F3 n hn).stp s4 (ne (by simp)) (ne (by simp)) (ne (by simp)) (ne (by simp))
  have s04 := s03.trans (s4.mono (T := SD γ) (fun c h => h ▸ SD.of (by simp)))
  generalize ext lab3 w3.heap.size (γ .pend) = lab4 at *
  refine ⟨_, w4, h4, _, _, _, rfl, B4.blk.canSet (by simp [diskA]) rfl, ?_⟩
  rintro _ rfl
  have s5 : Stp (· = γ .disk) w4 lab4 (w4.setCell ⟨d, 3, none⟩ (.slice o4 (pl + 1) k4)) lab4 := Stp.setCell B4.clr
  refine hR _ _ ⟨rfl, lab4, o4, pl + 1, k4, B4.set 3 (.slice o4 (pl + 1) k4), ⟨N4.stp s5 (ne (by simp)), S4.stp s5 (ne (by simp)), ?_, fun n hn => (F4 n hn).stp s5 (ne (by simp)) (ne (by simp)) (ne (by simp)) (ne (by simp))⟩, s04.trans (s5.mono (fun c h => h ▸ SD.of (by simp)))⟩
  have := P4.stp s5 (ne (by simp))
  simpa using this

theorem chgs_made {files : Nat} : ∀ {l l' : List (Nm × Nat)} {p : List Chg}, ChgsOk files l p l' → ∀ n f, Chg.made n f ∈ p → f < files
  | _, _, [], _, _, _, h => by cases h
  | l, l', c :: r, h, n, f, hm => by
    rcases List.mem_cons.1 hm with rfl | hm
    · exact h.1.2.1
    · exact chgs_made h.2 n f hm

theorem Create_calls (hγ : ∀ a b, γ a = γ b → a = b) (h : DAt w lab γ d σ) (hn : Nums σ) (hk : Ok (begins σ).1) (s : Nm) :
    Calls Try.prog disk_Disk_Create.n #[.pointer (some ⟨d, 0, none⟩), .string s] w (fun e w' => e = .returned (.int .i64 (create σ s).2) ∧ DRes γ d w lab w' (create σ s).1) := by
  have ne : ∀ {x y : DC}, x ≠ y → ¬ γ x = γ y := fun h e => h (hγ _ _ e)
  refine calls_gen fun R hR => disk_Disk_Create.vc _ _ _ _ ?_
  unfold disk_Disk_Create.Vc
  refine (changing_calls hγ h hn s (o := none) (c := 0) [] trivial (fun x hx => by cases hx)).mono ?_
  rintro _ w1 ⟨o, nn, rfl, rfl, hD, hf⟩
  have hcr : create σ s = (if chk σ s [] = 0 then ((begins σ).1, 12) else if chk σ s [] = 13 ∧ (begins σ).2 = 0 then (if (begins σ).1.files = 1048576 then ((begins σ).1, 15) else ({ Disk.does (Disk.setF (begins σ).1 (begins σ).1.files Disk.fresh) (.made s (begins σ).1.files) with files := (begins σ).1.files + 1 }, 0)) else ((begins σ).1, chk σ s [])) := by
    unfold create chk
    simp only
    by_cases h0 : (begins σ).2 = 0
    · rw [if_pos h0, if_pos h0, chkN_nil]
      by_cases h1 : (named (begins σ).1 s).2 = 0
      · rw [if_pos h1, if_pos h1]
      · rw [if_neg h1, if_neg h1]
        by_cases h2 : (named (begins σ).1 s).2 = 13
        · rw [if_pos h2, if_pos (And.intro h2 h0)]
        · rw [if_neg h2, if_neg (fun g => h2 g.1)]
    · rw [if_neg h0, if_neg h0, if_neg h0, if_neg (fun g => h0 g.2)]
  have hb13 : (begins σ).2 ≠ 13 := by
    unfold begins
    split
    · simp
    · split
      · simp
      · simp only; split <;> simp
  refine ⟨_, _, rfl, fun h0 => hR _ _ ?_, fun h0 => ⟨fun h13 => hR _ _ ?_, fun h13 => ?_⟩⟩
  · rw [hcr, if_pos h0]
    exact ⟨rfl, hD⟩
  · rw [hcr, if_neg h0, if_neg (fun g => h13 g.1)]
    exact ⟨rfl, hD⟩
  · have hb0 : (begins σ).2 = 0 := by
      unfold chk at h13
      split at h13
      · assumption
      · exact absurd h13 hb13
    rw [if_neg h0, if_pos ⟨h13, hb0⟩] at hcr
    have hnone : right s = true ∧ assoc s (begins σ).1.names = none := by
      unfold chk at h13
      rw [if_pos hb0, chkN_nil] at h13
      unfold named at h13
      split at h13
      · rename_i hr
        split at h13
        · cases h13
        · rename_i hf; exact ⟨hr, hf⟩
      · cases h13
    have hct := begins_count hn
    clear hf
    generalize (begins σ).1 = τ at *
    obtain ⟨lab1, ⟨mN, mS, po, pl, pc, fb, B, Rt⟩, s1⟩ := hD
    simp only [add_at, Nat.zero_add]
    refine ⟨_, B.blk.rd1 rfl, fun hfull => hR _ _ ?_, fun hfull => ⟨_, B.blk.rd1 rfl, ?_⟩⟩
    · rw [hcr, if_pos (by omega)]
      exact ⟨rfl, lab1, ⟨mN, mS, po, pl, pc, fb, B, Rt⟩, s1⟩
    · rw [if_neg (by omega)] at hcr
      rintro d8 w2 ⟨rfl, rfl⟩
      have BF := CB.new w1 lab1 (γ (.file τ.files)) tFile #[.int .i64 (τ.files : Int), .slice none 0 0, .slice none 0 0, .slice none 0 0]
      have sN : Stp NoC w1 lab1 (w1.alloc (.cells #[.int .i64 (τ.files : Int), .slice none 0 0, .slice none 0 0, .slice none 0 0] tFile)) (ext lab1 w1.heap.size (γ (.file τ.files))) := Stp.alloc _ _ _ _ _
      generalize w1.alloc (.cells #[.int .i64 (τ.files : Int), .slice none 0 0, .slice none 0 0, .slice none 0 0] tFile) = w2 at *
      have B2 := B.stp sN (fun h => h)
      have R2 := Rt.stp sN (fun _ _ h => h)
      have s02 := s1.trans (sN.mono (T := SD γ) (fun c h => h.elim))
      generalize ext lab1 w1.heap.size (γ (.file τ.files)) = lab2 at *
      generalize w1.heap.size = D at *
      let fb2 : Nat → Nat := fun k => if k = τ.files then D else fb k
      have efb : ∀ k, k < τ.files → fb2 k = fb k := fun k hk => if_neg (by omega)
      have enames : ∀ l : List (Nm × Nat), (∀ x ∈ l, x.2 < τ.files) → (l.map fun x => (x.1, fileV fb2 x.2)) = l.map fun x => (x.1, fileV fb x.2) := fun l hl => List.map_congr_left (fun x hx => by simp only [fileV, efb _ (hl x hx)])
      have R3 : DRest w2 lab2 γ mN mS po pl pc fb2 τ.names τ.sure τ.pend (τ.files + 1) (fun k => if k = τ.files then Disk.fresh else τ.fs k) := by
        refine ⟨?_, ?_, ?_, fun k hk2 => ?_⟩
        · obtain ⟨es, h1, h2⟩ := R2.names
          exact ⟨es, h1, by rw [enames _ hk.names.files]; exact h2⟩
        · obtain ⟨es, h1, h2⟩ := R2.sure
          exact ⟨es, h1, by rw [enames _ hk.sure.files]; exact h2⟩
        · have e : τ.pend.map (chgV fb2) = τ.pend.map (chgV fb) := List.map_congr_left (fun x hx => by
            cases x with
            | made n f => simp only [chgV, fileV, efb _ (chgs_made hk.chgs n f hx)]
            | ren a b => rfl
            | rem n => rfl)
          rw [e]; exact R2.pend
        · by_cases hkf : k = τ.files
          · subst hkf
            simp only [if_true, fb2]
            exact ⟨none, 0, 0, none, 0, 0, none, 0, 0, [], BF, COw.nil _ _ _ _ _, CBy.nil _ _ _ _, rfl, COw.nil _ _ _ _ _, Pts.nil⟩
          · rw [efb k (by omega), if_neg hkf]
            exact R2.files k (by omega)
      have hch : ChgOk (τ.files + 1) τ.names (.made s τ.files) := by
        refine ⟨hnone.1, by omega, fun hm => ?_, fun hm => ?_⟩
        · obtain ⟨x, hx, hxe⟩ := List.mem_map.1 hm
          have := hk.names.files x hx
          omega
        · obtain ⟨f, hf⟩ := assoc_mem hm
          rw [hnone.2] at hf; cases hf
      have hpe := hk.pend
      have hdo := does_calls hγ B2 R3 hch (by omega)
      have e1 : chgV fb2 (.made s τ.files) = .iface tMade (.agg #[.string s, .pointer (some ⟨D, 0, none⟩)]) := by simp [chgV, fileV, fb2]
      rw [e1] at hdo
      refine hdo.mono ?_
      rintro _ w3 ⟨rfl, lab3, po3, pl3, pc3, B3, R4, s3⟩
      refine ⟨rfl, _, B3.blk.rd1 rfl, B3.blk.canSet (by simp [diskA]) rfl, ?_⟩
      rintro _ rfl
      have hfl := hk.files
      obtain ⟨B5, R5, s5⟩ := dset hγ B3 R4 4 (.int .i64 (IntKind.wrap .i64 ((τ.files : Int) + 1))) (cs' := diskA τ.cap mN mS po3 pl3 pc3 (τ.files + 1) τ.count τ.fail τ.halt τ.down) (by rw [wrap_i64_small (by omega) (by omega)]; rfl)
      refine hR _ _ ?_
      rw [hcr]
      exact ⟨rfl, lab3, ⟨mN, mS, po3, pl3, pc3, fb2, B5, R5⟩, (s02.trans s3).trans s5⟩

theorem strB_neq (a b : ByteArray) : strB .neq a b = decide (a ≠ b) := by
  have e : a = b ↔ a.data.toList = b.data.toList := ⟨fun h => by rw [h], fun h => by
    cases a; cases b
    simp only at h
    congr 1
    exact Array.ext' h⟩
  simp only [strB, ByteArray.toList_eq]
  by_cases h : a = b
  · subst h; simp
  · rw [decide_eq_true h]
    have : (a.data.toList == b.data.toList) = false := by simpa using fun g => h (e.2 g)
    rw [this]; rfl

theorem Rename_calls (hγ : ∀ a b, γ a = γ b → a = b) (h : DAt w lab γ d σ) (hn : Nums σ) (hk : Ok (begins σ).1) (a b : Nm) :
    Calls Try.prog disk_Disk_Rename.n #[.pointer (some ⟨d, 0, none⟩), .string a, .string b] w (fun e w' => e = .returned (.int .i64 (rename σ a b).2) ∧ DRes γ d w lab w' (rename σ a b).1) := by
  refine calls_gen fun R hR => disk_Disk_Rename.vc _ _ _ _ _ ?_
  unfold disk_Disk_Rename.Vc
  rintro d3 w1 ⟨rfl, rfl⟩
  have B1 := Blk.new w tStr #[.string b]
  have sN : Stp NoC w lab (w.alloc (.cells #[.string b] tStr)) (ext lab w.heap.size (γ .froz)) := Stp.alloc _ _ _ _ _
  have D1 := h.stp sN (fun _ h => h)
  have s1 : Stp (SD γ) w lab _ _ := sN.mono (fun _ h => h.elim)
  have hl1 : (ext lab w.heap.size (γ .froz)) w.heap.size = γ .froz := ext_new (Nat.le_refl _)
  generalize w.alloc (.cells #[.string b] tStr) = w1 at *
  generalize ext lab w.heap.size (γ .froz) = lab1 at *
  refine (changing_calls hγ D1 hn a (c := 1) [b] ⟨_, _, rfl, B1⟩ (fun x hx _ hsd => ?_)).mono ?_
  · cases hx
    rw [hl1] at hsd
    obtain ⟨y, hy, he⟩ := hsd
    exact hy (hγ _ _ he).symm
  rintro _ w2 hF
  obtain ⟨o, nn, rfl, rfl, hD, hf⟩ := hF.then s1
  have hrn : rename σ a b = (if chk σ a [b] = 0 then (if a = b then (begins σ).1 else Disk.does (begins σ).1 (.ren a b), 0) else ((begins σ).1, chk σ a [b])) := by
    unfold rename chk chkN
    simp only
    by_cases h0 : (begins σ).2 = 0
    · rw [if_pos h0, if_pos h0]
      by_cases hr : right a = true ∧ right b = true
      · have hr2 : right a = true ∧ ([b] : List Nm).all right = true := ⟨hr.1, by simp [hr.2]⟩
        rw [if_pos hr2, if_pos (by simp [hr.1, hr.2])]
        cases hf : assoc a (begins σ).1.names with
        | none => simp
        | some f => simp
      · have hr2 : ¬ (right a = true ∧ ([b] : List Nm).all right = true) := fun g => hr ⟨g.1, by simpa using g.2⟩
        rw [if_neg hr2, if_neg (by simpa using hr)]
        simp
    · rw [if_neg h0, if_neg h0, if_neg h0]
  refine ⟨_, _, rfl, fun hne => hR _ _ ?_, fun h0 => ?_⟩
  · rw [hrn, if_neg hne]
    exact ⟨rfl, hD⟩
  · rw [if_pos h0] at hrn
    rw [strB_neq]
    refine ⟨fun hab => ?_, fun hab => hR _ _ ?_⟩
    · have hab : a ≠ b := by simpa using hab
      rw [if_neg hab] at hrn
      obtain ⟨f, hf1, hr1, lab2, mN, mS, po, pl, pc, fb, B, Rt, hv, s2⟩ := hf h0
      have hpe := hk.pend
      have hct := begins_count hn
      have hrb : right b = true := by
        have h5 := h0
        unfold chk chkN at h5
        split at h5
        · split at h5
          · rename_i hh; simpa using hh.2
          · cases h5
        · rename_i hh; exact (hh h5).elim
      have hch : ChgOk (begins σ).1.files (begins σ).1.names (.ren a b) := ⟨hr1, hrb, hab, List.mem_map_of_mem (f := Prod.fst) (assoc_some hf1)⟩
      refine (does_calls hγ B Rt hch (by omega)).mono ?_
      rintro _ w3 ⟨rfl, lab3, po3, pl3, pc3, B3, R3, s3⟩
      refine ⟨rfl, hR _ _ ?_⟩
      rw [hrn]
      exact ⟨rfl, lab3, ⟨mN, mS, po3, pl3, pc3, fb, B3, R3⟩, s2.trans s3⟩
    · have hab : a = b := by simpa using hab
      rw [if_pos hab] at hrn
      rw [hrn]
      exact ⟨rfl, hD⟩
theorem Remove_calls (hγ : ∀ a b, γ a = γ b → a = b) (h : DAt w lab γ d σ) (hn : Nums σ) (hk : Ok (begins σ).1) (s : Nm) :
    Calls Try.prog disk_Disk_Remove.n #[.pointer (some ⟨d, 0, none⟩), .string s] w (fun e w' => e = .returned (.int .i64 (remove σ s).2) ∧ DRes γ d w lab w' (remove σ s).1) := by
  refine calls_gen fun R hR => disk_Disk_Remove.vc _ _ _ _ ?_
  unfold disk_Disk_Remove.Vc
  refine (changing_calls hγ h hn s (o := none) (c := 0) [] trivial (fun x hx => by cases hx)).mono ?_
  rintro _ w1 ⟨o, nn, rfl, rfl, hD, hf⟩
  have hon := @chk_onFile σ s (fun d _ => (Disk.does d (.rem s), 0))
  refine ⟨_, _, rfl, fun hne => hR _ _ ?_, fun h0 => ?_⟩
  · unfold remove
    rw [hon.1 hne]
    exact ⟨rfl, hD⟩
  · obtain ⟨f, hf1, hr1, lab1, mN, mS, po, pl, pc, fb, B, Rt, hv, s1⟩ := hf h0
    have hpe := hk.pend
    have hct := begins_count hn
    refine (does_calls hγ B Rt (ch := .rem s) hr1 (by omega)).mono ?_
    rintro _ w2 ⟨rfl, lab2, po2, pl2, pc2, B2, R2, s2⟩
    refine ⟨rfl, hR _ _ ?_⟩
    unfold remove
    rw [hon.2 h0 f hf1]
    exact ⟨rfl, lab2, ⟨mN, mS, po2, pl2, pc2, fb, B2, R2⟩, s1.trans s2⟩
theorem SyncDir_calls (hγ : ∀ a b, γ a = γ b → a = b) (h : DAt w lab γ d σ) (hn : Nums σ) :
    Calls Try.prog disk_Disk_SyncDir.n #[.pointer (some ⟨d, 0, none⟩)] w (fun e w' => e = .returned (.int .i64 (syncDir σ).2) ∧ DRes γ d w lab w' (syncDir σ).1) := by
  have ne : ∀ {x y : DC}, x ≠ y → ¬ γ x = γ y := fun h e => h (hγ _ _ e)
  refine calls_gen fun R hR => disk_Disk_SyncDir.vc _ _ _ ?_
  unfold disk_Disk_SyncDir.Vc
  refine (begins_calls hγ h hn).mono ?_
  rintro _ w1 ⟨rfl, lab1, D1, s1⟩
  unfold syncDir at *
  simp only at *
  refine ⟨_, rfl, fun hne => hR _ _ ?_, fun h0 => ?_⟩
  · rw [if_neg hne]
    exact ⟨rfl, lab1, D1, s1⟩
  · rw [if_pos h0] at hR
    generalize (begins σ).1 = τ at *
    obtain ⟨mN, mS, po, pl, pc, fb, B, Rt⟩ := D1
    simp only [add_at, Nat.zero_add]
    refine ⟨_, B.blk.rd1 rfl, (CloneMap_calls Rt.names (γ .sure)).mono ?_⟩
    rintro _ w2 ⟨m2, lab2, rfl, N2, sN⟩
    have B2 := B.stp sN (fun h => h)
    have R2 := Rt.stp sN (fun _ _ h => h)
    have s02 := s1.trans (sN.mono (T := SD γ) (fun c h => h.elim))
    have R2' : DRest w2 lab2 γ mN m2 po pl pc fb τ.names τ.names τ.pend τ.files τ.fs := ⟨R2.names, N2, R2.pend, R2.files⟩
    refine ⟨_, rfl, B2.blk.canSet (by simp [diskA]) rfl, ?_⟩
    rintro _ rfl
    obtain ⟨B3, R3, s3⟩ := dset hγ B2 R2' 2 (.map (some m2)) (cs' := diskA τ.cap mN m2 po pl pc τ.files τ.count τ.fail τ.halt τ.down) rfl
    generalize w2.setCell ⟨d, 2, none⟩ (.map (some m2)) = w3 at *
    refine ⟨B3.blk.canSet (by simp [diskA]) rfl, ?_⟩
    rintro _ rfl
    obtain ⟨B4, R4, s4⟩ := dset hγ B3 R3 3 (.slice none 0 0) (cs' := diskA τ.cap mN m2 none 0 0 τ.files τ.count τ.fail τ.halt τ.down) rfl
    exact hR _ _ ⟨rfl, lab2, ⟨mN, m2, none, 0, 0, fb, B4, ⟨R4.names, R4.sure, COw.nil _ _ _ _ _, R4.files⟩⟩, (s02.trans s3).trans s4⟩
end
end Go.Proofs.Ytkekehngillblaa
