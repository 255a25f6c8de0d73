/- The program's disk: calls on names; a new disk. -/
/- The program's disk: a new one; parts of files; what survives. -/
/- The program's disk: a restart. -/
/- The disk as plain Lean: what holds of every disk stays. -/
/- Bytes as strings; slices that are made. -/
/- The disk's laws: what lies beside; the known answer. -/
import Derived.Test.YtkekehngillblaaGreatDP8
import Derived.Test.YtkekehngillblaaGreatDP1
import Derived.Laws.BytesString
import Derived.Laws.MakeOwn
section
set_option linter.unusedVariables false
set_option linter.unusedSimpArgs false
namespace Go.Proofs.YtkekehngillblaaGreat
open Go Go.Vcg Go.Disk
section
variable {C : Type} {w w' : World} {lab lab' : Nat → C} {γ : DC → C} {d : Nat} {σ : Dk} {c : C} {m : Nat}
variable {mN mS : Nat} {po : Option Addr} {pl pc : Nat} {fb : Nat → Nat} {names sure l : List (Nm × Nat)} {pend : List Chg} {files files0 : Nat} {fs : Nat → Fl}

theorem okM (fb : Nat → Nat) (ch : Chg) : OkM Tryz.prog (chgV fb ch) "moraine/disk.on" := by
  cases ch with
  | made n f => exact ⟨_, _, rfl, fun w => n_made w n _⟩
  | ren a b => exact ⟨_, _, rfl, fun w => n_ren w a b⟩
  | rem n => exact ⟨_, _, rfl, fun w => n_rem w n⟩
theorem chgV_one (fb : Nat → Nat) (ch : Chg) : (chgV fb ch).oneCell' = true := by cases ch <;> rfl

theorem does_calls (hγ : ∀ a b, γ a = γ b → a = b) {cap : Int} {count : Nat} {fail halt : Int} {down : Bool} (B : CB w lab (γ .disk) d tDisk (diskA cap mN mS po pl pc files0 count fail halt down)) (Rt : DRest w lab γ mN mS po pl pc fb names sure pend files fs)
    {ch : Chg} (hch : ChgOk files names ch) (hp : pend.length < 2 ^ 40) :
    Calls Tryz.prog disk_Disk_does.n #[.pointer (some ⟨d, 0, none⟩), chgV fb ch] w (fun e w' => e = .returned (.tuple #[]) ∧ ∃ lab' po' pl' pc', CB w' lab' (γ .disk) d tDisk (diskA cap mN mS po' pl' pc' files0 count fail halt down) ∧
      DRest w' lab' γ mN mS po' pl' pc' fb (ch.on names) sure (pend ++ [ch]) files fs ∧ Stp (SD γ) w lab w' lab') := by
  have ne : ∀ {x y : DC}, x ≠ y → ¬ γ x = γ y := fun h e => h (hγ _ _ e)
  refine calls_gen fun R hR => disk_Disk_does.vc _ _ _ _ ?_
  unfold disk_Disk_does.Vc
  rintro _ rfl
  have sD : Stp NoC w lab w.drew lab := Stp.drew _ _ _
  have B1 := B.stp sD (fun h => h)
  have R1 := Rt.stp sD (fun _ _ h => h)
  have s1 : Stp (SD γ) w lab w.drew lab := sD.mono (fun _ h => h.elim)
  generalize w.drew = w1 at *
  simp only [add_at, Nat.zero_add]
  refine ⟨_, B1.blk.rd1 rfl, okM fb ch, ?_⟩
  obtain ⟨t, x, f, recv, hv, hm, he, hcall⟩ := on_calls R1.names hch
  refine ⟨t, x, f, recv, hv, hm, he, hcall.mono ?_⟩
  rintro _ w2 ⟨rfl, lab2, N2, s2⟩
  have B2 := B1.stp s2 (ne (by simp))
  have P2 := R1.pend.stp s2 (ne (by simp))
  have S2 := R1.sure.stp s2 (ne (by simp))
  have F2 : ∀ n, n < files → FAt w2 lab2 γ n (fb n) (fs n) := fun n hn => (R1.files n hn).stp s2 (ne (by simp)) (ne (by simp)) (ne (by simp)) (ne (by simp))
  have s02 := s1.trans (s2.mono (T := SD γ) (fun c h => h ▸ SD.of (by simp)))
  refine ⟨rfl, _, _, _, B2.blk.rd1 rfl, chgV_one fb ch, ?_⟩
  rintro d11 w3 ⟨rfl, rfl⟩
  have BB := Blk.new w2 tChange #[chgV fb ch]
  have sN : Stp NoC w2 lab2 (w2.alloc (.cells #[chgV fb ch] tChange)) (ext lab2 w2.heap.size (γ .froz)) := Stp.alloc _ _ _ _ _
  have hpl : pl = pend.length := by have := P2.own.1; simpa using this.symm
  generalize w2.alloc (.cells #[chgV fb ch] tChange) = w3 at *
  have B3 := B2.stp sN (fun h => h)
  have P3 := P2.stp sN (fun h => h)
  have S3 := S2.stp sN (fun h => h)
  have N3 := N2.stp sN (fun h => h)
  have F3 : ∀ n, n < files → FAt w3 _ γ n (fb n) (fs n) := fun n hn => (F2 n hn).stp sN (fun h => h) (fun h => h) (fun h => h) (fun h => h)
  have s03 := s02.trans (sN.mono (T := SD γ) (fun c h => h.elim))
  generalize ext lab2 w2.heap.size (γ .froz) = lab3 at *
  have hsrc := src_one (P := Tryz.prog) (tx := tSlChange) und_slChange BB (sz := 1) rfl (by intro v hv; simp at hv; subst hv; exact chgV_one fb ch)
  obtain ⟨o4, k4, w4, h4, P4, s4⟩ := cow_change P3 hsrc (by omega)
  have B4 := B3.stp s4 (ne (by simp))
  have S4 := S3.stp s4 (ne (by simp))
  have N4 := N3.stp s4 (ne (by simp))
  have F4 : ∀ n, n < files → FAt w4 _ γ n (fb n) (fs n) := fun n hn => (F3 n hn).stp s4 (ne (by simp)) (ne (by simp)) (ne (by simp)) (ne (by simp))
  have s04 := s03.trans (s4.mono (T := SD γ) (fun c h => h ▸ SD.of (by simp)))
  generalize ext lab3 w3.heap.size (γ .pend) = lab4 at *
  refine ⟨_, w4, h4, _, _, _, rfl, B4.blk.canSet (by simp [diskA]) rfl, ?_⟩
  rintro _ rfl
  have s5 : Stp (· = γ .disk) w4 lab4 (w4.setCell ⟨d, 3, none⟩ (.slice o4 (pl + 1) k4)) lab4 := Stp.setCell B4.clr
  refine hR _ _ ⟨rfl, lab4, o4, pl + 1, k4, B4.set 3 (.slice o4 (pl + 1) k4), ⟨N4.stp s5 (ne (by simp)), S4.stp s5 (ne (by simp)), ?_, fun n hn => (F4 n hn).stp s5 (ne (by simp)) (ne (by simp)) (ne (by simp)) (ne (by simp))⟩, s04.trans (s5.mono (fun c h => h ▸ SD.of (by simp)))⟩
  have := P4.stp s5 (ne (by simp))
  simpa using this

theorem chgs_made {files : Nat} : ∀ {l l' : List (Nm × Nat)} {p : List Chg}, ChgsOk files l p l' → ∀ n f, Chg.made n f ∈ p → f < files
  | _, _, [], _, _, _, h => by cases h
  | l, l', c :: r, h, n, f, hm => by
    rcases List.mem_cons.1 hm with rfl | hm
    · exact h.1.2.1
    · exact chgs_made h.2 n f hm

theorem Create_calls (hγ : ∀ a b, γ a = γ b → a = b) (h : DAt w lab γ d σ) (hn : Nums σ) (hk : Ok (begins σ).1) (s : Nm) :
    Calls Tryz.prog disk_Disk_Create.n #[.pointer (some ⟨d, 0, none⟩), .string s] w (fun e w' => e = .returned (.int .i64 (create σ s).2) ∧ DRes γ d w lab w' (create σ s).1) := by
  have ne : ∀ {x y : DC}, x ≠ y → ¬ γ x = γ y := fun h e => h (hγ _ _ e)
  refine calls_gen fun R hR => disk_Disk_Create.vc _ _ _ _ ?_
  unfold disk_Disk_Create.Vc
  refine (changing_calls hγ h hn s (o := none) (c := 0) [] trivial (fun x hx => by cases hx)).mono ?_
  rintro _ w1 ⟨o, nn, rfl, rfl, hD, hf⟩
  have hcr : create σ s = (if chk σ s [] = 0 then ((begins σ).1, 12) else if chk σ s [] = 13 ∧ (begins σ).2 = 0 then (if (begins σ).1.files = 1048576 then ((begins σ).1, 15) else ({ Disk.does (Disk.setF (begins σ).1 (begins σ).1.files Disk.fresh) (.made s (begins σ).1.files) with files := (begins σ).1.files + 1 }, 0)) else ((begins σ).1, chk σ s [])) := by
    unfold create chk
    simp only
    by_cases h0 : (begins σ).2 = 0
    · rw [if_pos h0, if_pos h0, chkN_nil]
      by_cases h1 : (named (begins σ).1 s).2 = 0
      · rw [if_pos h1, if_pos h1]
      · rw [if_neg h1, if_neg h1]
        by_cases h2 : (named (begins σ).1 s).2 = 13
        · rw [if_pos h2, if_pos (And.intro h2 h0)]
        · rw [if_neg h2, if_neg (fun g => h2 g.1)]
    · rw [if_neg h0, if_neg h0, if_neg h0, if_neg (fun g => h0 g.2)]
  have hb13 : (begins σ).2 ≠ 13 := by
    unfold begins
    split
    · simp
    · split
      · simp
      · simp only; split <;> simp
  refine ⟨_, _, rfl, fun h0 => hR _ _ ?_, fun h0 => ⟨fun h13 => hR _ _ ?_, fun h13 => ?_⟩⟩
  · rw [hcr, if_pos h0]
    exact ⟨rfl, hD⟩
  · rw [hcr, if_neg h0, if_neg (fun g => h13 g.1)]
    exact ⟨rfl, hD⟩
  · have hb0 : (begins σ).2 = 0 := by
      unfold chk at h13
      split at h13
      · assumption
      · exact absurd h13 hb13
    rw [if_neg h0, if_pos ⟨h13, hb0⟩] at hcr
    have hnone : right s = true ∧ assoc s (begins σ).1.names = none := by
      unfold chk at h13
      rw [if_pos hb0, chkN_nil] at h13
      unfold named at h13
      split at h13
      · rename_i hr
        split at h13
        · cases h13
        · rename_i hf; exact ⟨hr, hf⟩
      · cases h13
    have hct := begins_count hn
    clear hf
    generalize (begins σ).1 = τ at *
    obtain ⟨lab1, ⟨mN, mS, po, pl, pc, fb, B, Rt⟩, s1⟩ := hD
    simp only [add_at, Nat.zero_add]
    refine ⟨_, B.blk.rd1 rfl, fun hfull => hR _ _ ?_, fun hfull => ⟨_, B.blk.rd1 rfl, ?_⟩⟩
    · rw [hcr, if_pos (by omega)]
      exact ⟨rfl, lab1, ⟨mN, mS, po, pl, pc, fb, B, Rt⟩, s1⟩
    · rw [if_neg (by omega)] at hcr
      rintro d8 w2 ⟨rfl, rfl⟩
      have BF := CB.new w1 lab1 (γ (.file τ.files)) tFile #[.int .i64 (τ.files : Int), .slice none 0 0, .slice none 0 0, .slice none 0 0]
      have sN : Stp NoC w1 lab1 (w1.alloc (.cells #[.int .i64 (τ.files : Int), .slice none 0 0, .slice none 0 0, .slice none 0 0] tFile)) (ext lab1 w1.heap.size (γ (.file τ.files))) := Stp.alloc _ _ _ _ _
      generalize w1.alloc (.cells #[.int .i64 (τ.files : Int), .slice none 0 0, .slice none 0 0, .slice none 0 0] tFile) = w2 at *
      have B2 := B.stp sN (fun h => h)
      have R2 := Rt.stp sN (fun _ _ h => h)
      have s02 := s1.trans (sN.mono (T := SD γ) (fun c h => h.elim))
      generalize ext lab1 w1.heap.size (γ (.file τ.files)) = lab2 at *
      generalize w1.heap.size = D at *
      let fb2 : Nat → Nat := fun k => if k = τ.files then D else fb k
      have efb : ∀ k, k < τ.files → fb2 k = fb k := fun k hk => if_neg (by omega)
      have enames : ∀ l : List (Nm × Nat), (∀ x ∈ l, x.2 < τ.files) → (l.map fun x => (x.1, fileV fb2 x.2)) = l.map fun x => (x.1, fileV fb x.2) := fun l hl => List.map_congr_left (fun x hx => by simp only [fileV, efb _ (hl x hx)])
      have R3 : DRest w2 lab2 γ mN mS po pl pc fb2 τ.names τ.sure τ.pend (τ.files + 1) (fun k => if k = τ.files then Disk.fresh else τ.fs k) := by
        refine ⟨?_, ?_, ?_, fun k hk2 => ?_⟩
        · obtain ⟨es, h1, h2⟩ := R2.names
          exact ⟨es, h1, by rw [enames _ hk.names.files]; exact h2⟩
        · obtain ⟨es, h1, h2⟩ := R2.sure
          exact ⟨es, h1, by rw [enames _ hk.sure.files]; exact h2⟩
        · have e : τ.pend.map (chgV fb2) = τ.pend.map (chgV fb) := List.map_congr_left (fun x hx => by
            cases x with
            | made n f => simp only [chgV, fileV, efb _ (chgs_made hk.chgs n f hx)]
            | ren a b => rfl
            | rem n => rfl)
          rw [e]; exact R2.pend
        · by_cases hkf : k = τ.files
          · subst hkf
            simp only [if_true, fb2]
            exact ⟨none, 0, 0, none, 0, 0, none, 0, 0, [], BF, COw.nil _ _ _ _ _, CBy.nil _ _ _ _, rfl, COw.nil _ _ _ _ _, Pts.nil⟩
          · rw [efb k (by omega), if_neg hkf]
            exact R2.files k (by omega)
      have hch : ChgOk (τ.files + 1) τ.names (.made s τ.files) := by
        refine ⟨hnone.1, by omega, fun hm => ?_, fun hm => ?_⟩
        · obtain ⟨x, hx, hxe⟩ := List.mem_map.1 hm
          have := hk.names.files x hx
          omega
        · obtain ⟨f, hf⟩ := assoc_mem hm
          rw [hnone.2] at hf; cases hf
      have hpe := hk.pend
      have hdo := does_calls hγ B2 R3 hch (by omega)
      have e1 : chgV fb2 (.made s τ.files) = .iface tMade (.agg #[.string s, .pointer (some ⟨D, 0, none⟩)]) := by simp [chgV, fileV, fb2]
      rw [e1] at hdo
      refine hdo.mono ?_
      rintro _ w3 ⟨rfl, lab3, po3, pl3, pc3, B3, R4, s3⟩
      refine ⟨rfl, _, B3.blk.rd1 rfl, B3.blk.canSet (by simp [diskA]) rfl, ?_⟩
      rintro _ rfl
      have hfl := hk.files
      obtain ⟨B5, R5, s5⟩ := dset hγ B3 R4 4 (.int .i64 (IntKind.wrap .i64 ((τ.files : Int) + 1))) (cs' := diskA τ.cap mN mS po3 pl3 pc3 (τ.files + 1) τ.count τ.fail τ.halt τ.down) (by rw [wrap_i64_small (by omega) (by omega)]; rfl)
      refine hR _ _ ?_
      rw [hcr]
      exact ⟨rfl, lab3, ⟨mN, mS, po3, pl3, pc3, fb2, B5, R5⟩, (s02.trans s3).trans s5⟩

theorem strB_neq (a b : ByteArray) : strB .neq a b = decide (a ≠ b) := by
  have e : a = b ↔ a.data.toList = b.data.toList := ⟨fun h => by rw [h], fun h => by
    cases a; cases b
    simp only at h
    congr 1
    exact Array.ext' h⟩
  simp only [strB, ByteArray.toList_eq]
  by_cases h : a = b
  · subst h; simp
  · rw [decide_eq_true h]
    have : (a.data.toList == b.data.toList) = false := by simpa using fun g => h (e.2 g)
    rw [this]; rfl

theorem Rename_calls (hγ : ∀ a b, γ a = γ b → a = b) (h : DAt w lab γ d σ) (hn : Nums σ) (hk : Ok (begins σ).1) (a b : Nm) :
    Calls Tryz.prog disk_Disk_Rename.n #[.pointer (some ⟨d, 0, none⟩), .string a, .string b] w (fun e w' => e = .returned (.int .i64 (rename σ a b).2) ∧ DRes γ d w lab w' (rename σ a b).1) := by
  refine calls_gen fun R hR => disk_Disk_Rename.vc _ _ _ _ _ ?_
  unfold disk_Disk_Rename.Vc
  rintro d3 w1 ⟨rfl, rfl⟩
  have B1 := Blk.new w tStr #[.string b]
  have sN : Stp NoC w lab (w.alloc (.cells #[.string b] tStr)) (ext lab w.heap.size (γ .froz)) := Stp.alloc _ _ _ _ _
  have D1 := h.stp sN (fun _ h => h)
  have s1 : Stp (SD γ) w lab _ _ := sN.mono (fun _ h => h.elim)
  have hl1 : (ext lab w.heap.size (γ .froz)) w.heap.size = γ .froz := ext_new (Nat.le_refl _)
  generalize w.alloc (.cells #[.string b] tStr) = w1 at *
  generalize ext lab w.heap.size (γ .froz) = lab1 at *
  refine (changing_calls hγ D1 hn a (c := 1) [b] ⟨_, _, rfl, B1⟩ (fun x hx _ hsd => ?_)).mono ?_
  · cases hx
    rw [hl1] at hsd
    obtain ⟨y, hy, he⟩ := hsd
    exact hy (hγ _ _ he).symm
  rintro _ w2 hF
  obtain ⟨o, nn, rfl, rfl, hD, hf⟩ := hF.then s1
  have hrn : rename σ a b = (if chk σ a [b] = 0 then (if a = b then (begins σ).1 else Disk.does (begins σ).1 (.ren a b), 0) else ((begins σ).1, chk σ a [b])) := by
    unfold rename chk chkN
    simp only
    by_cases h0 : (begins σ).2 = 0
    · rw [if_pos h0, if_pos h0]
      by_cases hr : right a = true ∧ right b = true
      · have hr2 : right a = true ∧ ([b] : List Nm).all right = true := ⟨hr.1, by simp [hr.2]⟩
        rw [if_pos hr2, if_pos (by simp [hr.1, hr.2])]
        cases hf : assoc a (begins σ).1.names with
        | none => simp
        | some f => simp
      · have hr2 : ¬ (right a = true ∧ ([b] : List Nm).all right = true) := fun g => hr ⟨g.1, by simpa using g.2⟩
        rw [if_neg hr2, if_neg (by simpa using hr)]
        simp
    · rw [if_neg h0, if_neg h0, if_neg h0]
  refine ⟨_, _, rfl, fun hne => hR _ _ ?_, fun h0 => ?_⟩
  · rw [hrn, if_neg hne]
    exact ⟨rfl, hD⟩
  · rw [if_pos h0] at hrn
    rw [strB_neq]
    refine ⟨fun hab => ?_, fun hab => hR _ _ ?_⟩
    · have hab : a ≠ b := by simpa using hab
      rw [if_neg hab] at hrn
      obtain ⟨f, hf1, hr1, lab2, mN, mS, po, pl, pc, fb, B, Rt, hv, s2⟩ := hf h0
      have hpe := hk.pend
      have hct := begins_count hn
      have hrb : right b = true := by
        have h5 := h0
        unfold chk chkN at h5
        split at h5
        · split at h5
          · rename_i hh; simpa using hh.2
          · cases h5
        · rename_i hh; exact (hh h5).elim
      have hch : ChgOk (begins σ).1.files (begins σ).1.names (.ren a b) := ⟨hr1, hrb, hab, List.mem_map_of_mem (f := Prod.fst) (assoc_some hf1)⟩
      refine (does_calls hγ B Rt hch (by omega)).mono ?_
      rintro _ w3 ⟨rfl, lab3, po3, pl3, pc3, B3, R3, s3⟩
      refine ⟨rfl, hR _ _ ?_⟩
      rw [hrn]
      exact ⟨rfl, lab3, ⟨mN, mS, po3, pl3, pc3, fb, B3, R3⟩, s2.trans s3⟩
    · have hab : a = b := by simpa using hab
      rw [if_pos hab] at hrn
      rw [hrn]
      exact ⟨rfl, hD⟩
theorem Remove_calls (hγ : ∀ a b, γ a = γ b → a = b) (h : DAt w lab γ d σ) (hn : Nums σ) (hk : Ok (begins σ).1) (s : Nm) :
    Calls Tryz.prog disk_Disk_Remove.n #[.pointer (some ⟨d, 0, none⟩), .string s] w (fun e w' => e = .returned (.int .i64 (remove σ s).2) ∧ DRes γ d w lab w' (remove σ s).1) := by
  refine calls_gen fun R hR => disk_Disk_Remove.vc _ _ _ _ ?_
  unfold disk_Disk_Remove.Vc
  refine (changing_calls hγ h hn s (o := none) (c := 0) [] trivial (fun x hx => by cases hx)).mono ?_
  rintro _ w1 ⟨o, nn, rfl, rfl, hD, hf⟩
  have hon := @chk_onFile σ s (fun d _ => (Disk.does d (.rem s), 0))
  refine ⟨_, _, rfl, fun hne => hR _ _ ?_, fun h0 => ?_⟩
  · unfold remove
    rw [hon.1 hne]
    exact ⟨rfl, hD⟩
  · obtain ⟨f, hf1, hr1, lab1, mN, mS, po, pl, pc, fb, B, Rt, hv, s1⟩ := hf h0
    have hpe := hk.pend
    have hct := begins_count hn
    refine (does_calls hγ B Rt (ch := .rem s) hr1 (by omega)).mono ?_
    rintro _ w2 ⟨rfl, lab2, po2, pl2, pc2, B2, R2, s2⟩
    refine ⟨rfl, hR _ _ ?_⟩
    unfold remove
    rw [hon.2 h0 f hf1]
    exact ⟨rfl, lab2, ⟨mN, mS, po2, pl2, pc2, fb, B2, R2⟩, s1.trans s2⟩
theorem SyncDir_calls (hγ : ∀ a b, γ a = γ b → a = b) (h : DAt w lab γ d σ) (hn : Nums σ) :
    Calls Tryz.prog disk_Disk_SyncDir.n #[.pointer (some ⟨d, 0, none⟩)] w (fun e w' => e = .returned (.int .i64 (syncDir σ).2) ∧ DRes γ d w lab w' (syncDir σ).1) := by
  have ne : ∀ {x y : DC}, x ≠ y → ¬ γ x = γ y := fun h e => h (hγ _ _ e)
  refine calls_gen fun R hR => disk_Disk_SyncDir.vc _ _ _ ?_
  unfold disk_Disk_SyncDir.Vc
  refine (begins_calls hγ h hn).mono ?_
  rintro _ w1 ⟨rfl, lab1, D1, s1⟩
  unfold syncDir at *
  simp only at *
  refine ⟨_, rfl, fun hne => hR _ _ ?_, fun h0 => ?_⟩
  · rw [if_neg hne]
    exact ⟨rfl, lab1, D1, s1⟩
  · rw [if_pos h0] at hR
    generalize (begins σ).1 = τ at *
    obtain ⟨mN, mS, po, pl, pc, fb, B, Rt⟩ := D1
    simp only [add_at, Nat.zero_add]
    refine ⟨_, B.blk.rd1 rfl, (CloneMap_calls Rt.names (γ .sure)).mono ?_⟩
    rintro _ w2 ⟨m2, lab2, rfl, N2, sN⟩
    have B2 := B.stp sN (fun h => h)
    have R2 := Rt.stp sN (fun _ _ h => h)
    have s02 := s1.trans (sN.mono (T := SD γ) (fun c h => h.elim))
    have R2' : DRest w2 lab2 γ mN m2 po pl pc fb τ.names τ.names τ.pend τ.files τ.fs := ⟨R2.names, N2, R2.pend, R2.files⟩
    refine ⟨_, rfl, B2.blk.canSet (by simp [diskA]) rfl, ?_⟩
    rintro _ rfl
    obtain ⟨B3, R3, s3⟩ := dset hγ B2 R2' 2 (.map (some m2)) (cs' := diskA τ.cap mN m2 po pl pc τ.files τ.count τ.fail τ.halt τ.down) rfl
    generalize w2.setCell ⟨d, 2, none⟩ (.map (some m2)) = w3 at *
    refine ⟨B3.blk.canSet (by simp [diskA]) rfl, ?_⟩
    rintro _ rfl
    obtain ⟨B4, R4, s4⟩ := dset hγ B3 R3 3 (.slice none 0 0) (cs' := diskA τ.cap mN m2 none 0 0 τ.files τ.count τ.fail τ.halt τ.down) rfl
    exact hR _ _ ⟨rfl, lab2, ⟨mN, m2, none, 0, 0, fb, B4, ⟨R4.names, R4.sure, COw.nil _ _ _ _ _, R4.files⟩⟩, (s02.trans s3).trans s4⟩
end
end Go.Proofs.YtkekehngillblaaGreat
end

section
set_option linter.unusedVariables false
set_option linter.unusedSimpArgs false
namespace Go.Disk
def stepPt (b : List UInt8) (left : Int) : Pt → List UInt8 × Int
  | .wr a c => if (c.length : Int) > left then (lay b a (c.take left.toNat), -1) else (lay b a c, left - c.length)
  | .cut n => if left < 1 then (b, -1) else (b.take n, left - 1)
theorem survive_step (b : List UInt8) (p : Pt) (r : List Pt) (left : Int) (h : 0 ≤ left) : survive b (p :: r) left = if (stepPt b left p).2 < 0 then (stepPt b left p).1 else survive (stepPt b left p).1 r (stepPt b left p).2 := by
  cases p with
  | wr a c =>
    by_cases hc : (c.length : Int) > left
    · have e : stepPt b left (.wr a c) = (lay b a (c.take left.toNat), -1) := by simp only [stepPt, if_pos hc]
      rw [e, survive, if_pos hc, if_pos (show (-1 : Int) < 0 by omega)]
    · have e : stepPt b left (.wr a c) = (lay b a c, left - c.length) := by simp only [stepPt, if_neg hc]
      rw [e, survive, if_neg hc, if_neg (show ¬ left - (c.length : Int) < 0 by omega)]
  | cut n =>
    by_cases hc : left < 1
    · have e : stepPt b left (.cut n) = (b, -1) := by simp only [stepPt, if_pos hc]
      rw [e, survive, if_pos hc, if_pos (show (-1 : Int) < 0 by omega)]
    · have e : stepPt b left (.cut n) = (b.take n, left - 1) := by simp only [stepPt, if_neg hc]
      rw [e, survive, if_neg hc, if_neg (show ¬ left - 1 < 0 by omega)]
end Go.Disk
namespace Go.Proofs.YtkekehngillblaaGreat
open Go Go.Vcg Go.Disk
section
variable {C : Type} {w w' : World} {lab lab' : Nat → C} {γ : DC → C} {d : Nat} {σ : Dk} {c : C} {m : Nat}
variable {mN mS : Nat} {po : Option Addr} {pl pc : Nat} {fb : Nat → Nat} {names sure l : List (Nm × Nat)} {pend : List Chg} {files files0 : Nat} {fs : Nat → Fl}

theorem New_calls (w : World) (lab : Nat → C) (γ : DC → C) (cap : Int) :
    Calls Tryz.prog disk_New.n #[.int .i64 cap] w (fun e w' => ((cap < 0 ∨ cap > 67108864) ∧ e = .returned (.tuple #[.pointer none, .int .i64 10]) ∧ w' = w) ∨
      (¬ (cap < 0 ∨ cap > 67108864) ∧ ∃ d lab', e = .returned (.tuple #[.pointer (some ⟨d, 0, none⟩), .int .i64 0]) ∧ DAt w' lab' γ d (Disk.new cap) ∧ Stp NoC w lab w' lab')) := by
  refine disk_New.vc _ _ _ ?_
  unfold disk_New.Vc
  refine ⟨fun h => .inl ⟨.inl h, rfl, rfl⟩, fun h1 => ⟨fun h => .inl ⟨.inr h, rfl, rfl⟩, fun h2 => ?_⟩⟩
  have hmk : ∀ w : World, Sem.run Tryz.prog (Instr.makeMap tNaming none) w = .ok (.map (some w.heap.size)) (w.alloc (.map #[] 0)) := fun _ => rfl
  refine ⟨_, _, hmk w, _, rfl, _, _, hmk _, _, rfl, ?_⟩
  have s1 : Stp NoC w lab (w.alloc (.map #[] 0)) (ext lab w.heap.size (γ .names)) := Stp.alloc _ _ _ _ _
  have N1 : NamesAt (w.alloc (.map #[] 0)) (ext lab w.heap.size (γ .names)) (γ .names) w.heap.size (fun _ => 0) [] := ⟨[], ⟨MapAt.made w, ext_new (Nat.le_refl _)⟩, List.Perm.refl _⟩
  generalize w.heap.size = mN at *
  generalize w.alloc (.map #[] 0) = w1 at *
  generalize ext lab mN (γ .names) = lab1 at *
  have s2 : Stp NoC w1 lab1 (w1.alloc (.map #[] 0)) (ext lab1 w1.heap.size (γ .sure)) := Stp.alloc _ _ _ _ _
  have N2 : NamesAt (w1.alloc (.map #[] 0)) (ext lab1 w1.heap.size (γ .sure)) (γ .sure) w1.heap.size (fun _ => 0) [] := ⟨[], ⟨MapAt.made w1, ext_new (Nat.le_refl _)⟩, List.Perm.refl _⟩
  have N1 := N1.stp s2 (fun h => h)
  generalize w1.heap.size = mS at *
  generalize w1.alloc (.map #[] 0) = w2 at *
  generalize ext lab1 mS (γ .sure) = lab2 at *
  rintro d w3 ⟨rfl, rfl⟩
  have e : setsAt (setsAt (setsAt (setsAt #[(.int .i64 0), (.map none), (.map none), (.slice none 0 0), (.int .i64 0), (.int .i64 0), (.int .i64 0), (.int .i64 0), (.bool false)] 0 [(.int .i64 cap)]) 1 [(.map (some mN))]) 2 [(.map (some mS))]) 7 [(.int .i64 (-1))] = diskA cap mN mS none 0 0 0 0 0 (-1) false := rfl
  rw [e]
  have s3 : Stp NoC w2 lab2 (w2.alloc (.cells (diskA cap mN mS none 0 0 0 0 0 (-1) false) tDisk)) (ext lab2 w2.heap.size (γ .disk)) := Stp.alloc _ _ _ _ _
  refine .inr ⟨fun h => h.elim h1 h2, w2.heap.size, _, rfl, ⟨mN, mS, none, 0, 0, fun _ => 0, CB.new w2 lab2 (γ .disk) tDisk _, ⟨N1.stp s3 (fun h => h), N2.stp s3 (fun h => h), COw.nil _ _ _ _ _, fun n hn => absurd hn (Nat.not_lt_zero _)⟩⟩, (s1.trans s2).trans s3⟩

theorem subO_sub {o : Option Addr} {c lo : Nat} : subO o c lo 1 = subO o c lo 1 := rfl
theorem ReadAt_calls (h : DAt w lab γ d σ) (hk : Ok σ) (s : Nm) (at_ n : Int) (hn : n < 2 ^ 62) (c : C) :
    Calls Tryz.prog disk_Disk_ReadAt.n #[.pointer (some ⟨d, 0, none⟩), .string s, .int .i64 at_, .int .i64 n] w (fun e w' => ∃ o k, e = .returned (.tuple #[.slice o (Disk.readAt σ s at_ n).1.length k, .int .i64 (Disk.readAt σ s at_ n).2]) ∧
      ∃ lab', DAt w' lab' γ d σ ∧ COw w' lab' c tU8 1 o (Disk.readAt σ s at_ n).1.length k ((Disk.readAt σ s at_ n).1.map bV) ∧ Stp (SD γ) w lab w' lab') := by
  refine calls_gen fun R hR => disk_Disk_ReadAt.vc _ _ _ _ _ _ ?_
  unfold disk_Disk_ReadAt.Vc
  refine (asked_calls h s).mono ?_
  rintro _ w1 ⟨o, nn, rfl, rfl, hD, hf⟩
  have bad : ∀ er, Disk.readAt σ s at_ n = ([], er) → R (.returned (.tuple #[.slice none 0 0, .int .i64 er])) w1 := by
    intro er he
    refine hR _ _ ?_
    rw [he]
    obtain ⟨lab1, D1, s1⟩ := hD
    exact ⟨none, 0, rfl, lab1, D1, COw.nil _ _ _ _ _, s1⟩
  refine ⟨_, _, rfl, fun hne => bad _ ?_, fun h0 => ?_⟩
  · unfold Disk.readAt Disk.read
    rw [if_neg (show ¬ (asked σ s).2 = 0 from hne), if_neg (show ¬ ((([] : List UInt8), (asked σ s).2).2 = 0) from hne)]
  · obtain ⟨f, hf1, hr1, lab1, mN, mS, po, pl, pc, fb, B, Rt, hv, s1⟩ := hf h0
    cases hv
    have hfn : (asked σ s).1 = f := by
      unfold asked at h0 ⊢
      split at h0
      · cases h0
      · rename_i hd
        rw [if_neg hd]
        exact named_fst hr1 hf1
    have hrd : Disk.read σ s = ((σ.fs f).bytes, 0) := by unfold Disk.read; rw [if_pos h0, hfn]
    have hra : Disk.readAt σ s at_ n = if at_ < 0 ∨ n < 0 ∨ at_ > (σ.fs f).bytes.length ∨ n > (σ.fs f).bytes.length - at_ then ([], 14) else (((σ.fs f).bytes.drop at_.toNat).take n.toNat, 0) := by
      unfold Disk.readAt; rw [hrd]; simp only [if_true]
    have hin : f < _ := hk.names.files _ (assoc_some hf1)
    have DW : DAt w1 lab1 γ d σ := ⟨mN, mS, po, pl, pc, fb, B, Rt⟩
    obtain ⟨fo, l, k, so, sl, sc, fpo, fpl, fpc, vs, hF⟩ := Rt.files f hin
    have hbl : l = (σ.fs f).bytes.length := by have := hF.bytes.own.len; simpa using this.symm
    have hlk := hF.bytes.own.cap
    have hsz := (hk.size f hin).2
    simp only [most] at hsz
    refine ⟨fun h => bad _ (by rw [hra, if_pos (.inl h)]), fun h1 => ⟨fun h => bad _ (by rw [hra, if_pos (.inr (.inl h))]), fun h2 => ⟨_, rfl, ?_⟩⟩⟩
    simp only [add_at, Nat.zero_add]
    refine ⟨_, _, _, hF.cells.blk.rd1 rfl, fun h => bad _ (by rw [hra, if_pos (.inr (.inr (.inl (by omega))))]), fun h3 => ⟨_, rfl, ?_⟩⟩
    simp only [add_at, Nat.zero_add]
    refine ⟨_, _, _, hF.cells.blk.rd1 rfl, ?_⟩
    rw [show IntKind.wrap .i64 (((l : Nat) : Int) - at_) = (l : Int) - at_ from wrap_i64_small (by omega) (by omega)]
    refine ⟨fun h => bad _ (by rw [hra, if_pos (.inr (.inr (.inr (by omega))))]), fun h4 => ⟨_, rfl, ?_⟩⟩
    simp only [add_at, Nat.zero_add]
    rw [show IntKind.wrap .i64 (at_ + n) = at_ + n from wrap_i64_small (by omega) (by omega)]
    refine ⟨_, _, _, hF.cells.blk.rd1 rfl, by omega, by omega, ?_⟩
    have hlen : (((σ.fs f).bytes.drop at_.toNat).take n.toNat).length = (at_ + n).toNat - at_.toNat := by rw [List.length_take, List.length_drop]; omega
    have hC := Clone_calls (c := k - at_.toNat) (hF.bytes.bytes.rd.sub (lo := at_.toNat) (n := n.toNat) (c := k) (by omega)) (by rw [hlen]; omega)
    rw [hlen] at hC
    refine hC.mono ?_
    rintro _ w2 ⟨o2, k2, rfl, ow2, M2, hF2⟩
    refine ⟨_, _, _, rfl, hR _ _ ?_⟩
    have sN : Stp NoC w1 lab1 w2 (ext lab1 w1.heap.size c) := Stp.of_nob M2 _
    rw [hra, if_neg (by omega)]
    refine ⟨o2, k2, by rw [hlen], _, DW.stp sN (fun _ h => h), ⟨by rw [hlen]; exact ow2, fun k hk => ext_new (hF2 k hk)⟩, s1.trans (sN.mono (fun _ h => h.elim))⟩

/-! ### what survives -/
/-- A pending change of bytes is done, as far as it is. -/
theorem onPt_calls {v : Value} {p : Pt} {cf cB : C} (hv : PtV w lab cf v p) (hcf : cf ≠ cB) {o : Option Addr} {l k : Nat} {bs : List UInt8} (hb : COw w lab cB tU8 1 o l k (bs.map bV)) {left : Int} (h0 : 0 ≤ left) (hl : left < 9223372036854775808) {r : List Pt} {b' : List UInt8} (hok : PtsOk bs (p :: r) b')
    (hsz : bs.length ≤ most) :
    CallsM Tryz.prog v "moraine/disk.on" #[.slice o l k, .int .i64 left] w (fun e w' => ∃ o' l' k' lab', e = .returned (.tuple #[.slice o' l' k', .int .i64 (stepPt bs left p).2]) ∧ COw w' lab' cB tU8 1 o' l' k' ((stepPt bs left p).1.map bV) ∧ Stp (· = cB) w lab w' lab') := by
  simp only [most] at hsz
  have hbl : bs.length = l := by have := hb.own.len; simpa using this
  have hlk := hb.own.cap
  cases p with
  | wr a by_ =>
    obtain ⟨wo, wk, rfl, hwk, hby⟩ := hv
    obtain ⟨hat, hlen, _⟩ := hok
    rw [length_lay hat] at hlen
    simp only [most] at hlen
    refine ⟨_, _, _, _, rfl, m_wr w _ _ _ _, by kernel_rfl, ?_⟩
    refine calls_gen fun R hR => disk_written_on.vc _ _ _ _ _ _ _ _ w _ ?_
    unfold disk_written_on.Vc
    rintro d4 w1 ⟨rfl, rfl⟩
    have B := Blk.new w tWritten #[.int .i64 (a : Int), .slice wo by_.length wk]
    have s1 : Stp NoC w lab (w.alloc (.cells #[.int .i64 (a : Int), .slice wo by_.length wk] tWritten)) (ext lab w.heap.size cf) := Stp.alloc _ _ _ _ _
    have BC := CB.new w lab cf tWritten #[.int .i64 (a : Int), .slice wo by_.length wk]
    have hb1 := hb.stp s1 (fun h => h)
    have hby1 := hby.stp s1 (fun h => h)
    generalize w.alloc (.cells #[.int .i64 (a : Int), .slice wo by_.length wk] tWritten) = w1 at *
    generalize ext lab w.heap.size cf = lab1 at *
    generalize w.heap.size = D at *
    simp only [add_at, Nat.zero_add]
    -- bytes are laid
    have lays : ∀ (w2 : World) (S2 : Stp NoC w1 lab1 w2 lab1) (by2 : List UInt8) (hr2 : RdB w2 wo by2) (hl2 : by2.length ≤ 2 ^ 38) (k2 : Nat), Calls Tryz.prog disk_laid.n #[.slice o l k, .int .i64 (a : Int), .slice wo by2.length k2] w2 (fun e w' => ∃ o' l' k' lab', e = .returned (.slice o' l' k') ∧ COw w' lab' cB tU8 1 o' l' k' ((lay bs a by2).map bV) ∧ CB w' lab' cf D tWritten #[.int .i64 (a : Int), .slice wo by_.length wk] ∧ Stp (· = cB) w1 lab1 w' lab') := by
      intro w2 S2 by2 hr2 hl2 k2
      have hb2 := hb1.stp S2 (fun h => h)
      refine (laid_calls hb2.own hr2 rfl (by omega) (by omega) hl2).mono ?_
      rintro _ w3 ⟨o3, k3, rfl, ow3, M3, hF3⟩
      have s3 : Stp (· = cB) w2 lab1 w3 (ext lab1 w2.heap.size cB) := Stp.of_mod M3 _ (fun k _ hk => hb2.clr k hk)
      refine ⟨o3, _, k3, _, rfl, ⟨ow3, fun k hk => ?_⟩, (BC.stp S2 (fun h => h)).stp s3 hcf, (S2.mono (fun _ h => h.elim)).trans s3⟩
      by_cases hlt : k < w2.heap.size
      · rw [ext_old hlt]
        rcases hF3 k hk with h | h
        · exact hb2.clr k h
        · omega
      · exact ext_new (by omega)
    have s1' : Stp (· = cB) w lab w1 lab1 := s1.mono (fun _ h => h.elim)
    refine ⟨_, _, _, B.rd1 rfl, fun hgt => ?_, fun hle => ?_⟩
    · rintro _ rfl
      have hlt : left.toNat ≤ by_.length := by omega
      refine ⟨_, B.drew.rd1 rfl, _, _, _, B.drew.rd1 rfl, by omega, ?_⟩
      have hL := lays w1.drew (Stp.drew _ _ _) (by_.take left.toNat) ((hby1.rd.mod' (Mod.drew w1)).take _) (by rw [List.length_take]; omega) wk
      rw [List.length_take, Nat.min_eq_left hlt] at hL
      refine hL.mono ?_
      rintro _ w3 ⟨o3, l3, k3, lab3, rfl, h3, _, s3⟩
      refine ⟨_, _, _, rfl, hR _ _ ⟨o3, l3, k3, lab3, ?_, ?_, s1'.trans s3⟩⟩
      · simp only [stepPt, if_pos hgt]
      · simp only [stepPt, if_pos hgt]; exact h3
    · rintro _ rfl
      refine ⟨_, B.drew.rd1 rfl, _, _, _, B.drew.rd1 rfl, _, _, _, B.drew.rd1 rfl, ?_⟩
      refine (lays w1.drew (Stp.drew _ _ _) by_ (hby1.rd.mod' (Mod.drew w1)) (by omega) wk).mono ?_
      rintro _ w3 ⟨o3, l3, k3, lab3, rfl, h3, B3, s3⟩
      refine ⟨_, _, _, rfl, B3.blk.rd1 rfl, hR _ _ ⟨o3, l3, k3, lab3, ?_, ?_, s1'.trans s3⟩⟩
      · simp only [stepPt, if_neg hle]
        rw [wrap_i64_small (by omega) (by omega)]
      · simp only [stepPt, if_neg hle]; exact h3
  | cut n =>
    obtain rfl : v = _ := hv
    obtain ⟨hn, _⟩ := hok
    refine ⟨_, _, _, _, rfl, m_cut w _, by kernel_rfl, ?_⟩
    refine calls_gen fun R hR => disk_cut_on.vc _ _ _ _ _ w _ ?_
    unfold disk_cut_on.Vc
    rintro d3 w1 ⟨rfl, rfl⟩
    have B := Blk.new w tCut #[.int .i64 (n : Int)]
    have s1 : Stp NoC w lab (w.alloc (.cells #[.int .i64 (n : Int)] tCut)) (ext lab w.heap.size cf) := Stp.alloc _ _ _ _ _
    have hb1 := hb.stp s1 (fun h => h)
    have s1' : Stp (· = cB) w lab _ _ := s1.mono (fun _ h => h.elim)
    generalize w.alloc (.cells #[.int .i64 (n : Int)] tCut) = w1 at *
    generalize ext lab w.heap.size cf = lab1 at *
    refine ⟨fun h1 => hR _ _ ⟨o, l, k, lab1, ?_, ?_, s1'⟩, fun h1 => ⟨_, B.rd1 rfl, by omega, hR _ _ ⟨o, n, k, lab1, ?_, ?_, s1'⟩⟩⟩
    · simp only [stepPt, if_pos h1]
    · simp only [stepPt, if_pos h1]; exact hb1
    · simp only [stepPt, if_neg h1, Int.toNat_natCast]
      rw [wrap_i64_small (by omega) (by omega)]
    · simp only [stepPt, if_neg h1]
      refine ⟨⟨by rw [List.length_map, List.length_take]; omega, ?_⟩, hb1.clr⟩
      rcases hb1.own.2 with ⟨rfl, rfl, rfl⟩ | ⟨g, cur, rfl, hB, hlc, hcm, hcs, htk⟩
      · exact .inl ⟨rfl, by omega, rfl⟩
      · refine .inr ⟨g, cur, rfl, hB, by omega, hcm, hcs, ?_⟩
        rw [List.map_take, ← htk, List.take_take]
        congr 1; omega

/-- The end of 'survives'. -/
def SurvTail (d0 : Addr) (o22 : Option Addr) (l23 l24 : Nat) (w21 : World) (R : Ending → World → Prop) : Prop :=
  CanSet w21 (Addr.add d0 1) (.slice o22 l23 l24) ∧ ∀ w26 : World, IsSet w21 (Addr.add d0 1) (.slice o22 l23 l24) w26 →
  CanSet w26 (Addr.add d0 3) (.slice none 0 0) ∧ ∀ w27 : World, IsSet w26 (Addr.add d0 3) (.slice none 0 0) w27 →
  Calls Tryz.prog slices_Clone_byte_byte.n #[(.slice o22 l23 l24)] w27 (fun e28 w29 =>
    ∃ o30 : Option Addr, ∃ l31 : Nat, ∃ l32 : Nat, e28 = .returned (.slice o30 l31 l32) ∧
    CanSet w29 (Addr.add d0 2) (.slice o30 l31 l32) ∧ ∀ w33 : World, IsSet w29 (Addr.add d0 2) (.slice o30 l31 l32) w33 →
    R (.returned (.tuple #[])) w33)

theorem survives_calls (hγ : ∀ a b, γ a = γ b → a = b) {n b : Nat} {f : Fl} (hF : FAt w lab γ n b f) (hok : PtsOk f.sure f.pend f.bytes) (hs : f.sure.length ≤ most) {left : Int} (h0 : 0 ≤ left) (hl : left < 9223372036854775808) (hp : f.pend.length < 2 ^ 40) :
    Calls Tryz.prog disk_file_survives.n #[.pointer (some ⟨b, 0, none⟩), .int .i64 left] w (fun e w' => e = .returned (.tuple #[]) ∧ ∃ lab', FAt w' lab' γ n b ⟨survive f.sure f.pend left, survive f.sure f.pend left, []⟩ ∧ Stp (Fs γ n) w lab w' lab') := by
  have ne : ∀ {x y : DC}, x ≠ y → ¬ γ x = γ y := fun h e => h (hγ _ _ e)
  obtain ⟨o, l, k, so, sl, sc, po, pl, pc, vs, hF⟩ := hF
  have hpl : pl = f.pend.length := by have := hF.pend.own.1; rw [← hF.pts.len]; simpa using this.symm
  have hs' := hs
  simp only [most] at hs
  refine calls_gen fun R hR => disk_file_survives.vc _ _ _ _ ?_
  unfold disk_file_survives.Vc
  -- the end
  have tail : ∀ (w1 : World) (lab1 : Nat → C) (so sl sc : _) (o1 : Option Addr) (l1 k1 : Nat) (bs : List UInt8) (c1 : Value), CB w1 lab1 (γ (.file n)) b tFile #[.int .i64 (n : Int), c1, .slice so sl sc, .slice po pl pc] → COw w1 lab1 (γ (.bytes n)) tU8 1 o1 l1 k1 (bs.map bV) → Stp (Fs γ n) w lab w1 lab1 →
      bs = survive f.sure f.pend left → bs.length ≤ 2 ^ 38 → SurvTail ⟨b, 0, none⟩ o1 l1 k1 w1 R := by
    intro w1 lab1 so sl sc o1 l1 k1 bs c1 C1 b1 s1 hbs hlen
    unfold SurvTail
    simp only [add_at, Nat.zero_add]
    have hbl : l1 = bs.length := by have := b1.own.len; simpa using this.symm
    refine ⟨C1.blk.canSet (by simp) rfl, ?_⟩
    rintro _ rfl
    have s2 : Stp (· = γ (.file n)) w1 lab1 (w1.setCell ⟨b, 1, none⟩ (.slice o1 l1 k1)) lab1 := Stp.setCell C1.clr
    have C2 := C1.set 1 (.slice o1 l1 k1)
    have b2 := b1.stp s2 (ne (by simp))
    generalize w1.setCell ⟨b, 1, none⟩ (.slice o1 l1 k1) = w2 at *
    refine ⟨C2.blk.canSet (by simp) rfl, ?_⟩
    rintro _ rfl
    have s3 : Stp (· = γ (.file n)) w2 lab1 (w2.setCell ⟨b, 3, none⟩ (.slice none 0 0)) lab1 := Stp.setCell C2.clr
    have C3 := C2.set 3 (.slice none 0 0)
    have b3 := b2.stp s3 (ne (by simp))
    generalize w2.setCell ⟨b, 3, none⟩ (.slice none 0 0) = w3 at *
    have hC := Clone_calls (c := k1) b3.bytes.rd (by omega)
    rw [← hbl] at hC
    refine hC.mono ?_
    rintro _ w4 ⟨o4, k4, rfl, ow4, M4, hF4⟩
    refine ⟨_, _, _, rfl, ?_⟩
    have sN : Stp NoC w3 lab1 w4 (ext lab1 w3.heap.size (γ .froz)) := Stp.of_nob M4 _
    have c4 : CBy w4 (ext lab1 w3.heap.size (γ .froz)) (γ .froz) o4 bs := ⟨ow4.bytes, fun _ x hx => ext_new (hF4 _ ⟨x, hx, rfl⟩)⟩
    have C4 := C3.stp sN (fun h => h)
    have b4 := b3.stp sN (fun h => h)
    generalize ext lab1 w3.heap.size (γ .froz) = lab4 at *
    refine ⟨C4.blk.canSet (by simp) rfl, ?_⟩
    rintro _ rfl
    have s5 : Stp (· = γ (.file n)) w4 lab4 (w4.setCell ⟨b, 2, none⟩ (.slice o4 l1 k4)) lab4 := Stp.setCell C4.clr
    refine hR _ _ ⟨rfl, lab4, ⟨o1, l1, k1, o4, l1, k4, none, 0, 0, [], C4.set 2 (.slice o4 l1 k4), ?_, ?_, by rw [← hbs]; exact hbl, COw.nil _ _ _ _ _, Pts.nil⟩, ?_⟩
    · rw [← hbs]; exact b4.stp s5 (ne (by simp))
    · rw [← hbs]; exact c4.stp s5 (ne (by simp))
    · exact ((((s1.trans (s2.mono (fun c h => .inl h))).trans (s3.mono (fun c h => .inl h))).trans (sN.mono (fun c h => h.elim))).trans (s5.mono (fun c h => .inl h)))
  simp only [add_at, Nat.zero_add]
  refine ⟨_, _, _, hF.cells.blk.rd1 rfl, ?_⟩
  have hC := Clone_calls (c := sc) hF.sure.rd (by omega)
  rw [← hF.slen] at hC
  refine hC.mono ?_
  rintro _ w1 ⟨o1, k1, rfl, ow1, M1, hF1⟩
  refine ⟨_, _, _, rfl, ?_⟩
  have sN : Stp NoC w lab w1 (ext lab w.heap.size (γ (.bytes n))) := Stp.of_nob M1 _
  have b1 : COw w1 (ext lab w.heap.size (γ (.bytes n))) (γ (.bytes n)) tU8 1 o1 sl k1 (f.sure.map bV) := ⟨ow1, fun k hk => ext_new (hF1 k hk)⟩
  have C1 := hF.cells.stp sN (fun h => h)
  have S1 := hF.sure.stp sN (fun h => h)
  have P1 := hF.pend.stp sN (fun h => h)
  have T1 := hF.pts.stp sN (fun h => h)
  have s01 : Stp (Fs γ n) w lab w1 _ := sN.mono (fun _ h => h.elim)
  generalize ext lab w.heap.size (γ (.bytes n)) = lab1 at *
  refine ⟨_, _, _, C1.blk.rd1 rfl, ?_⟩
  refine ⟨fun left' o' l' k' i w' => ∃ (j : Nat) (lab' : Nat → C) (bs : List UInt8), i = (j : Int) ∧ j ≤ f.pend.length ∧ 0 ≤ left' ∧ left' < 9223372036854775808 ∧ COw w' lab' (γ (.bytes n)) tU8 1 o' l' k' (bs.map bV) ∧ bs.length ≤ most ∧ PtsOk bs (f.pend.drop j) f.bytes ∧
      survive f.sure f.pend left = survive bs (f.pend.drop j) left' ∧ CB w' lab' (γ (.file n)) b tFile #[.int .i64 (n : Int), .slice o l k, .slice so sl sc, .slice po pl pc] ∧ COw w' lab' (γ (.fpend n)) tPatch 1 po pl pc vs ∧ Pts w' lab' (γ .froz) vs f.pend ∧ Stp (Fs γ n) w lab w' lab',
    fun _ _ _ _ i _ => ((f.pend.length : Int) - i).toNat, ⟨0, lab1, f.sure, rfl, Nat.zero_le _, h0, hl, b1, hs', hok, rfl, C1, P1, T1, s01⟩, ?_⟩
  rintro left' o' l' k' _ _ w2 ⟨j, lab2, bs, rfl, hj, hl0, hl1, b2, hsz, hok2, hsv, C2, P2, T2, s2⟩
  have hsz' := hsz
  simp only [most] at hsz'
  refine ⟨fun hlt => ?_, fun hge => ?_⟩
  · have hjl : j < f.pend.length := by omega
    obtain ⟨v, hv, hpv⟩ := T2.at_ j (f.pend[j]) (List.getElem?_eq_getElem hjl)
    obtain ⟨g, rfl, hcell⟩ := P2.own.cell hv
    refine ⟨_, rfl, by omega, v, ?_, ?_⟩
    · rw [Int.toNat_natCast, add_at, Nat.zero_add]; exact hcell
    · have hdrop : f.pend.drop j = f.pend[j] :: f.pend.drop (j + 1) := List.drop_eq_getElem_cons hjl
      rw [hdrop] at hok2 hsv
      obtain ⟨t, x, ff, recv, hve, hm, he, hcall⟩ := onPt_calls hpv (ne (by simp)) b2 hl0 hl1 hok2 hsz
      refine ⟨t, x, ff, recv, hve, hm, he, hcall.mono ?_⟩
      rintro _ w3 ⟨o3, l3, k3, lab3, rfl, b3, s3⟩
      have C3 := C2.stp s3 (ne (by simp))
      have P3 := P2.stp s3 (ne (by simp))
      have T3 := T2.stp s3 (ne (by simp))
      have s03 := s2.trans (s3.mono (T := Fs γ n) (fun c h => .inr (.inl h)))
      rw [survive_step _ _ _ _ hl0] at hsv
      refine ⟨_, _, _, _, rfl, fun hneg => ?_, fun hnn => ?_⟩
      · rw [if_pos hneg] at hsv
        have hlen : (stepPt bs left' f.pend[j]).1.length ≤ 2 ^ 38 := by
          generalize f.pend[j] = p at *
          cases p with
          | wr a by_ =>
            obtain ⟨hat, hlen, _⟩ := hok2
            rw [length_lay hat] at hlen
            simp only [most] at hlen
            simp only [stepPt]
            split
            · simp only; rw [length_lay hat, List.length_take]; omega
            · simp only; rw [length_lay hat]; omega
          | cut m =>
            simp only [stepPt]
            split
            · simp only; omega
            · simp only; rw [List.length_take]; omega
        exact tail w3 lab3 so sl sc o3 l3 k3 _ _ C3 b3 s03 hsv.symm hlen
      · rw [if_neg hnn] at hsv
        have hnext : (stepPt bs left' f.pend[j]).1.length ≤ most ∧ PtsOk (stepPt bs left' f.pend[j]).1 (f.pend.drop (j + 1)) f.bytes ∧ (stepPt bs left' f.pend[j]).2 < 9223372036854775808 := by
          generalize f.pend[j] = p at *
          cases p with
          | wr a by_ =>
            obtain ⟨hat, hlen, hrest⟩ := hok2
            simp only [stepPt] at hnn ⊢
            split at hnn
            · simp at hnn
            · rename_i hle
              rw [if_neg hle]
              exact ⟨hlen, hrest, by simp only; omega⟩
          | cut m =>
            obtain ⟨hm, hrest⟩ := hok2
            simp only [stepPt] at hnn ⊢
            split at hnn
            · simp at hnn
            · rename_i hle
              rw [if_neg hle]
              refine ⟨?_, hrest, by simp only; omega⟩
              simp only; rw [List.length_take]; simp only [most]; omega
        have e1 : IntKind.wrap .i64 ((j : Int) + 1) = ((j + 1 : Nat) : Int) := by rw [wrap_i64_small (by omega) (by omega)]; omega
        rw [e1]
        exact ⟨⟨j + 1, lab3, _, rfl, by omega, by omega, hnext.2.2, b3, hnext.1, hnext.2.1, hsv, C3, P3, T3, s03⟩, by dsimp only; omega⟩
  · have hjl : j = f.pend.length := by omega
    subst hjl
    rw [List.drop_length] at hsv hok2
    exact tail w2 lab2 so sl sc o' l' k' bs _ C2 b2 s2 hsv.symm (by omega)
end
end Go.Proofs.YtkekehngillblaaGreat
end

section
set_option linter.unusedVariables false
set_option linter.unusedSimpArgs false
namespace Go.Disk
theorem chgs_take {files : Nat} : ∀ {l l' : List (Nm × Nat)} {p : List Chg} (j : Nat) (h : j < p.length), ChgsOk files l p l' → ChgOk files ((p.take j).foldl Chg.on l) p[j]
  | l, l', c :: r, 0, _, h => h.1
  | l, l', c :: r, j + 1, hj, h => by
    rw [List.take_succ_cons, List.foldl_cons, List.getElem_cons_succ]
    exact chgs_take j (by simpa using hj) h.2
theorem foldl_take_succ (l : List (Nm × Nat)) (p : List Chg) (j : Nat) (h : j < p.length) : (p.take (j + 1)).foldl Chg.on l = p[j].on ((p.take j).foldl Chg.on l) := by
  rw [List.take_add_one, List.foldl_append, List.getElem?_eq_getElem h]; rfl
theorem keys_without {V : Type} (k : Nm) (l : List (Nm × V)) : (without k l).map Prod.fst = (l.map Prod.fst).filter (fun x => decide (x ≠ k)) := by
  unfold without
  rw [List.filter_map]; rfl
theorem NamesOk.without {files : Nat} {l : List (Nm × Nat)} (h : NamesOk files l) (k : Nm) : NamesOk files (without k l) := by
  refine ⟨?_, ?_, fun x hx => h.rights x ((List.mem_filter.1 hx).1), fun x hx => h.files x ((List.mem_filter.1 hx).1)⟩
  · exact h.keys.sublist ((List.filter_sublist).map _)
  · exact h.vals.sublist ((List.filter_sublist).map _)
theorem mem_without {V : Type} {k : Nm} {l : List (Nm × V)} {x : Nm × V} : x ∈ Disk.without k l ↔ x ∈ l ∧ x.1 ≠ k := by
  unfold Disk.without
  rw [List.mem_filter]; simp
theorem NamesOk.put {files : Nat} {l : List (Nm × Nat)} (h : NamesOk files l) {k : Nm} {f : Nat} (hk : right k = true) (hf : f < files) (hn : f ∉ l.map Prod.snd) : NamesOk files (put k f l) := by
  have hw := h.without k
  unfold Disk.put
  refine ⟨?_, ?_, fun x hx => ?_, fun x hx => ?_⟩
  · rw [List.map_append, List.nodup_append]
    refine ⟨hw.keys, by simp, fun a ha b hb e => ?_⟩
    simp at hb
    subst hb
    obtain ⟨x, hx, rfl⟩ := List.mem_map.1 ha
    exact (mem_without.1 hx).2 e
  · rw [List.map_append, List.nodup_append]
    refine ⟨hw.vals, by simp, fun a ha b hb e => ?_⟩
    simp at hb
    subst hb
    obtain ⟨x, hx, rfl⟩ := List.mem_map.1 ha
    exact hn (e ▸ List.mem_map_of_mem (mem_without.1 hx).1)
  · rcases List.mem_append.1 hx with hx | hx
    · exact hw.rights x hx
    · simp at hx; subst hx; exact hk
  · rcases List.mem_append.1 hx with hx | hx
    · exact hw.files x hx
    · simp at hx; subst hx; exact hf
theorem NamesOk.on {files : Nat} {l : List (Nm × Nat)} (h : NamesOk files l) {c : Chg} (hc : ChgOk files l c) : NamesOk files (c.on l) := by
  cases c with
  | made n f => exact h.put hc.1 hc.2.1 hc.2.2.1
  | rem n => exact h.without n
  | ren a b =>
    simp only [Chg.on]
    cases hf : Go.Vcg.assoc a l with
    | none => exact h
    | some f =>
      have hm := Go.Proofs.YtkekehngillblaaGreat.assoc_some hf
      refine (h.without a).put hc.2.1 (h.files _ hm) ?_
      intro hin
      obtain ⟨x, hx, he⟩ := List.mem_map.1 hin
      obtain ⟨hx1, hx2⟩ := mem_without.1 hx
      -- two entries of one file
      have : x = (a, f) := by
        obtain ⟨i, hi, hix⟩ := List.getElem_of_mem hx1
        obtain ⟨j, hj, hjx⟩ := List.getElem_of_mem hm
        have hij : i = j := (List.getElem_inj (xs := l.map Prod.snd) (h₀ := by simpa using hi) (h₁ := by simpa using hj) h.vals).1 (by simp [hix, hjx, he])
        subst hij
        rw [← hix, hjx]
      rw [this] at hx2
      exact hx2 rfl
theorem NamesOk.fold {files : Nat} : ∀ {l l' : List (Nm × Nat)} {p : List Chg} (j : Nat), NamesOk files l → ChgsOk files l p l' → NamesOk files ((p.take j).foldl Chg.on l)
  | l, l', [], j, h, _ => by simpa using h
  | l, l', c :: r, 0, h, _ => h
  | l, l', c :: r, j + 1, h, hc => by
    rw [List.take_succ_cons, List.foldl_cons]
    exact NamesOk.fold j (h.on hc.1) hc.2
end Go.Disk
namespace Go.Proofs.YtkekehngillblaaGreat
open Go Go.Vcg Go.Disk
section
variable {C : Type} {w w' : World} {lab lab' : Nat → C} {γ : DC → C} {d : Nat} {σ : Dk} {c : C} {m : Nat}
variable {mN mS : Nat} {po : Option Addr} {pl pc : Nat} {fb : Nat → Nat} {names sure l : List (Nm × Nat)} {pend : List Chg} {files files0 : Nat} {fs : Nat → Fl}

/-- Whole numbers that are read. -/
def CInts (w : World) (lab : Nat → C) (c : C) (o : Option Addr) (is : List Int) : Prop :=
  ∀ i, i < is.length → ∃ b g, o = some ⟨b, g, none⟩ ∧ b < w.heap.size ∧ lab b = c ∧ w.cell? ⟨b, g + i, none⟩ = some (.int .i64 (is.getD i 0))
theorem CInts.stp {S : C → Prop} {o : Option Addr} {is : List Int} (h : CInts w lab c o is) (s : Stp S w lab w' lab') (hs : ¬ S c) : CInts w' lab' c o is := fun i hi => by
  obtain ⟨b, g, ho, hb, hl, hc⟩ := h i hi
  exact ⟨b, g, ho, Nat.lt_of_lt_of_le hb s.size, (s.lab b hb).trans hl, (World.cell?_of_block (s.block b hb (by rw [hl]; exact hs))).trans hc⟩

theorem Restart_calls (hγ : ∀ a b, γ a = γ b → a = b) (h : DAt w lab γ d σ) (hk : Ok σ) (hcnt : σ.count < 2 ^ 40) (n1 : Int) {o2 : Option Addr} {c2 : Nat} {is : List Int} {cb : C} (hi : CInts w lab cb o2 is) (hcb : ¬ SD γ cb) (hil : ∀ x ∈ is, x < 9223372036854775808) (hlen : is.length < 2 ^ 62) :
    Calls Tryz.prog disk_Disk_Restart.n #[.pointer (some ⟨d, 0, none⟩), .agg #[.int .i64 n1, .slice o2 is.length c2]] w (fun e w' => e = .returned (.tuple #[]) ∧ DRes γ d w lab w' (restart σ n1 is)) := by
  have ne : ∀ {x y : DC}, x ≠ y → ¬ γ x = γ y := fun h e => h (hγ _ _ e)
  have sd : ∀ {x : DC}, x ≠ .froz → ∀ c, c = γ x → SD γ c := fun h c e => e ▸ SD.of h
  have hcb' : ∀ {x : DC}, x ≠ .froz → ¬ cb = γ x := fun h e => hcb (e ▸ SD.of h)
  obtain ⟨mN, mS, po, pl, pc, fb, B, Rt⟩ := h
  have hpl : pl = σ.pend.length := by have := Rt.pend.own.1; simpa using this.symm
  have hpe := hk.pend
  refine calls_gen fun R hR => disk_Disk_Restart.vc _ _ _ _ _ _ _ ?_
  unfold disk_Disk_Restart.Vc
  rintro d3 w1 ⟨rfl, rfl⟩
  have X := CB.new w lab (γ .froz) tCrash #[.int .i64 n1, .slice o2 is.length c2]
  have s1 : Stp NoC w lab (w.alloc (.cells #[.int .i64 n1, .slice o2 is.length c2] tCrash)) (ext lab w.heap.size (γ .froz)) := Stp.alloc _ _ _ _ _
  generalize w.alloc (.cells #[.int .i64 n1, .slice o2 is.length c2] tCrash) = w1 at *
  generalize ext lab w.heap.size (γ .froz) = lab1 at *
  generalize w.heap.size = D3 at *
  replace B := B.stp s1 (fun h => h)
  replace Rt := Rt.stp s1 (fun _ _ h => h)
  replace hi := hi.stp s1 (fun h => h)
  replace s1 : Stp (SD γ) w lab w1 lab1 := s1.mono (fun _ h => h.elim)
  simp only [add_at, Nat.zero_add]
  refine ⟨_, B.blk.rd1 rfl, (CloneMap_calls Rt.sure (γ .names)).mono ?_⟩
  rintro _ w2 ⟨m8, lab2, rfl, N, s2⟩
  refine ⟨_, rfl, ?_⟩
  rintro _ rfl
  have s2 : Stp NoC w1 lab1 w2.drew lab2 := s2.trans (Stp.drew _ _ _)
  have N : NamesAt w2.drew lab2 (γ .names) m8 fb σ.sure := N.stp (Stp.drew NoC _ _) (fun h => h)
  generalize w2.drew = w3 at *
  replace B := B.stp s2 (fun h => h)
  replace Rt := Rt.stp s2 (fun _ _ h => h)
  replace hi := hi.stp s2 (fun h => h)
  replace X := X.stp s2 (fun h => h)
  replace s1 := s1.trans (s2.mono (T := SD γ) (fun _ h => h.elim))
  clear s2
  have P := Rt.pend
  have F := Rt.files
  clear Rt
  refine ⟨_, _, _, B.blk.rd1 rfl, _, X.blk.rd1 rfl, _, _, _, B.blk.rd1 rfl, ?_⟩
  have hlc := P.own.cap
  refine ⟨by omega, ?_⟩
  have hK : (min (max n1 0) ((pl : Nat) : Int)).toNat ≤ σ.pend.length := by omega
  have hKe : (min (max n1 0) ((pl : Nat) : Int)).toNat = (min (max n1 0) σ.pend.length).toNat := by rw [hpl]
  generalize hKK : (min (max n1 0) ((pl : Nat) : Int)).toNat = Kn at *
  -- what holds all along
  let All : Nat → World → (Nat → C) → Prop := fun j w' lab' => NamesAt w' lab' (γ .names) m8 fb ((σ.pend.take j).foldl Chg.on σ.sure) ∧ CB w' lab' (γ .disk) d tDisk (diskA σ.cap mN mS po pl pc σ.files σ.count σ.fail σ.halt σ.down) ∧
    (∀ n, n < σ.files → FAt w' lab' γ n (fb n) (σ.fs n)) ∧ COw w' lab' (γ .pend) tChange 1 po pl pc (σ.pend.map (chgV fb)) ∧ CInts w' lab' cb o2 is ∧ CB w' lab' (γ .froz) D3 tCrash #[.int .i64 n1, .slice o2 is.length c2] ∧ Stp (SD γ) w lab w' lab'
  refine ⟨UpTo Kn (fun j w' => ∃ lab', All j w' lab'), Vcg.Left Kn, ⟨0, rfl, Nat.zero_le _, lab2, N, B, F, P, hi, X, s1⟩, ?_⟩
  clear N B F P hi X s1
  rintro _ _ w4 ⟨j, rfl, hj, lab4, N, B, F, P, hi, X, s1⟩
  refine ⟨fun hlt => ?_, fun hge => ?_⟩
  · have hjl : j < σ.pend.length := by omega
    have hv : (σ.pend.map (chgV fb))[j]? = some (chgV fb σ.pend[j]) := by rw [List.getElem?_map, List.getElem?_eq_getElem hjl]; rfl
    obtain ⟨g, rfl, hcell⟩ := P.own.cell hv
    refine ⟨_, rfl, by omega, chgV fb σ.pend[j], ?_, ?_⟩
    · rw [Int.toNat_natCast, add_at, Nat.zero_add]; exact hcell
    obtain ⟨t, x, f, recv, hve, hm, he, hcall⟩ := on_calls N (chgs_take j hjl hk.chgs)
    refine ⟨t, x, f, recv, hve, hm, he, hcall.mono ?_⟩
    rintro _ w5 ⟨rfl, lab5, N5, s5⟩
    refine ⟨rfl, UpTo.next (by rw [wrap_i64_small (by omega) (by omega)]; omega) (by omega) ⟨lab5, ?_, B.stp s5 (ne (by simp)), fun n hn => (F n hn).stp s5 (ne (by simp)) (ne (by simp)) (ne (by simp)) (ne (by simp)), P.stp s5 (ne (by simp)), hi.stp s5 (hcb' (by simp)), X.stp s5 (ne (by simp)), s1.trans (s5.mono (sd (by simp)))⟩⟩
    rw [foldl_take_succ _ _ _ hjl]; exact N5
  · have hjK : j = Kn := by omega
    subst hjK
    clear hlc hge
    have hL := NamesOk.fold j hk.sure hk.chgs
    rw [hKe] at N hL
    clear P
    -- the names behind the restart
    have hrs : restart σ n1 is = { σ with names := (σ.pend.take (min (max n1 0) σ.pend.length).toNat).foldl Chg.on σ.sure, sure := (σ.pend.take (min (max n1 0) σ.pend.length).toNat).foldl Chg.on σ.sure, pend := [], fail := 0, halt := -1, down := false, fs := fun n => if n ∈ ((σ.pend.take (min (max n1 0) σ.pend.length).toNat).foldl Chg.on σ.sure).map Prod.snd then ⟨survive (σ.fs n).sure (σ.fs n).pend (Disk.left is n), survive (σ.fs n).sure (σ.fs n).pend (Disk.left is n), []⟩ else σ.fs n } := rfl
    generalize (σ.pend.take (min (max n1 0) σ.pend.length).toNat).foldl Chg.on σ.sure = L at *
    let sv : Nat → Fl := fun n => ⟨survive (σ.fs n).sure (σ.fs n).pend (Disk.left is n), survive (σ.fs n).sure (σ.fs n).pend (Disk.left is n), []⟩
    obtain ⟨es, hm8, hp⟩ := N
    obtain ⟨e, he, hz⟩ := und_naming
    obtain ⟨ob, hrng, hI⟩ := hm8.map.range he
    refine ⟨_, _, hrng, ?_⟩
    have s5 : Stp NoC w4 lab4 (w4.alloc ob) (ext lab4 w4.heap.size (γ .pend)) := Stp.alloc _ _ _ _ _
    have hit : (ext lab4 w4.heap.size (γ .pend)) w4.heap.size = γ .pend := ext_new (Nat.le_refl _)
    generalize w4.alloc ob = w5 at *
    generalize ext lab4 w4.heap.size (γ .pend) = lab5 at *
    generalize w4.heap.size = it at *
    replace B := B.stp s5 (fun h => h)
    replace X := X.stp s5 (fun h => h)
    replace hi := hi.stp s5 (fun h => h)
    replace hm8 := hm8.stp s5 (fun h => h)
    replace F : ∀ n, n < σ.files → FAt w5 lab5 γ n (fb n) (σ.fs n) := fun n hn => (F n hn).stp s5 (fun h => h) (fun h => h) (fun h => h) (fun h => h)
    replace s1 := s1.trans (s5.mono (T := SD γ) (fun _ h => h.elim))
    clear s5
    refine ⟨fun w' => ∃ (lab' : Nat → C) (t : List (Nm × Nat)) (es' : List (Nm × Value)), es'.Perm (t.map fun x => (x.1, fileV fb x.2)) ∧ IterAt Value.string w' it m8 es' ∧ CM NmGood Value.string w' lab' (γ .names) m8 es ∧ lab' it = γ .pend ∧ (∀ x ∈ t, x ∈ L) ∧ (t.map Prod.snd).Nodup ∧
        CB w' lab' (γ .disk) d tDisk (diskA σ.cap mN mS po pl pc σ.files σ.count σ.fail σ.halt σ.down) ∧ CB w' lab' (γ .froz) D3 tCrash #[.int .i64 n1, .slice o2 is.length c2] ∧ CInts w' lab' cb o2 is ∧ (∀ n, n < σ.files → FAt w' lab' γ n (fb n) (if n ∈ L.map Prod.snd ∧ n ∉ t.map Prod.snd then sv n else σ.fs n)) ∧ Stp (SD γ) w lab w' lab',
      fun w' => leftN w' m8 it, ⟨lab5, L, es, hp, hI, hm8, hit, fun _ h => h, hL.vals, B, X, hi, fun n hn => by rw [if_neg (fun h => h.2 h.1)]; exact F n hn, s1⟩, ?_⟩
    clear hI hm8 hit B X hi F s1
    rintro _ w6 ⟨lab6, t, es', hp', hI, hm8, hit, hmem, hnd, B, X, hi, F, s1⟩
    rcases hI.next 0 with ⟨hnil, hrun⟩ | ⟨k, v, es2, w7, hperm, hrun, hI2, M7, hent⟩
    · subst hnil
      have ht : t = [] := by
        have := hp'.length_eq
        simp at this
        exact List.eq_nil_of_length_eq_zero this.symm
      subst ht
      refine ⟨_, _, hrun, .bool false, rfl, false, rfl, (fun h => by cases h), fun _ => ?_⟩
      have N6 : NamesAt w6 lab6 (γ .names) m8 fb L := ⟨es, hm8, hp⟩
      refine (CloneMap_calls N6 (γ .sure)).mono ?_
      rintro _ w8 ⟨m9, lab8, rfl, N9, s8⟩
      have B8 := B.stp s8 (fun h => h)
      have R8 : DRest w8 lab8 γ m8 m9 none 0 0 fb L L [] σ.files (fun n => if n ∈ L.map Prod.snd then sv n else σ.fs n) :=
        ⟨N6.stp s8 (fun h => h), N9, COw.nil _ _ _ _ _, fun n hn => by
          have := (F n hn).stp s8 (fun h => h) (fun h => h) (fun h => h) (fun h => h)
          have e9 : (n ∈ L.map Prod.snd ∧ n ∉ ([] : List (Nm × Nat)).map Prod.snd) ↔ n ∈ L.map Prod.snd := ⟨And.left, fun h => ⟨h, by simp⟩⟩
          simpa only [e9] using this⟩
      have s08 := s1.trans (s8.mono (T := SD γ) (fun _ h => h.elim))
      refine ⟨_, rfl, B8.blk.canSet (by simp [diskA]) rfl, ?_⟩
      rintro _ rfl
      obtain ⟨Ba, Ra, sa⟩ := dset hγ B8 R8 1 (.map (some m8)) (cs' := diskA σ.cap m8 mS po pl pc σ.files σ.count σ.fail σ.halt σ.down) rfl
      generalize w8.setCell ⟨d, 1, none⟩ (.map (some m8)) = wa at *
      refine ⟨Ba.blk.canSet (by simp [diskA]) rfl, ?_⟩
      rintro _ rfl
      obtain ⟨Bb, Rb, sb⟩ := dset hγ Ba Ra 2 (.map (some m9)) (cs' := diskA σ.cap m8 m9 po pl pc σ.files σ.count σ.fail σ.halt σ.down) rfl
      generalize wa.setCell ⟨d, 2, none⟩ (.map (some m9)) = wb at *
      refine ⟨Bb.blk.canSet (by simp [diskA]) rfl, ?_⟩
      rintro _ rfl
      obtain ⟨Bc, Rc, sc⟩ := dset hγ Bb Rb 3 (.slice none 0 0) (cs' := diskA σ.cap m8 m9 none 0 0 σ.files σ.count σ.fail σ.halt σ.down) rfl
      generalize wb.setCell ⟨d, 3, none⟩ (.slice none 0 0) = wc at *
      refine ⟨Bc.blk.canSet (by simp [diskA]) rfl, ?_⟩
      rintro _ rfl
      obtain ⟨Bd, Rd, sd'⟩ := dset hγ Bc Rc 6 (.int .i64 0) (cs' := diskA σ.cap m8 m9 none 0 0 σ.files σ.count 0 σ.halt σ.down) rfl
      generalize wc.setCell ⟨d, 6, none⟩ (.int .i64 0) = wd at *
      refine ⟨Bd.blk.canSet (by simp [diskA]) rfl, ?_⟩
      rintro _ rfl
      obtain ⟨Be, Re, se⟩ := dset hγ Bd Rd 7 (.int .i64 (-1)) (cs' := diskA σ.cap m8 m9 none 0 0 σ.files σ.count 0 (-1) σ.down) rfl
      generalize wd.setCell ⟨d, 7, none⟩ (.int .i64 (-1)) = we at *
      refine ⟨Be.blk.canSet (by simp [diskA]) rfl, ?_⟩
      rintro _ rfl
      obtain ⟨Bf, Rf, sf⟩ := dset hγ Be Re 8 (.bool false) (cs' := diskA σ.cap m8 m9 none 0 0 σ.files σ.count 0 (-1) false) rfl
      refine hR _ _ ⟨rfl, ?_⟩
      rw [hrs]
      exact ⟨lab8, ⟨m8, m9, none, 0, 0, fb, Bf, Rf⟩, (((((s08.trans sa).trans sb).trans sc).trans sd').trans se).trans sf⟩
    · refine ⟨_, _, hrun, .bool true, rfl, true, rfl, fun _ => ?_, (fun h => by cases h)⟩
      refine ⟨_, _, hent, _, rfl, ?_⟩
      have hkv : (k, v) ∈ t.map fun x => (x.1, fileV fb x.2) := hp'.mem_iff.1 (hperm.mem_iff.2 (List.mem_cons_self ..))
      obtain ⟨j', hj', hjx⟩ := List.getElem_of_mem hkv
      have hjt : j' < t.length := by simpa using hj'
      have hx : (t[j'].1, fileV fb t[j'].2) = (k, v) := by rw [← hjx]; simp
      have htp := perm_erase t j' hjt
      have hxm := hmem t[j'] (List.getElem_mem hjt)
      have hfl := hL.files _ hxm
      generalize hxx : t[j'] = x at *
      cases hx
      have hes2 : es2.Perm ((t.eraseIdx j').map fun x => (x.1, fileV fb x.2)) :=
        List.Perm.cons_inv (hperm.symm.trans (hp'.trans (htp.map fun x => (x.1, fileV fb x.2))))
      have hndp : (x.2 :: (t.eraseIdx j').map Prod.snd).Nodup := ((htp.map Prod.snd).nodup_iff).1 hnd
      have hxin : x.2 ∈ t.map Prod.snd := List.mem_map_of_mem (htp.mem_iff.2 (List.mem_cons_self ..))
      have s7 : Stp (· = γ .pend) w6 lab6 w7 lab6 := ⟨M7.os, M7.tape, M7.output, M7.size, fun _ _ => rfl, fun i hi hn => M7.block i hi (fun e => hn (e ▸ hit))⟩
      have Fx : FAt w7 lab6 γ x.2 (fb x.2) (σ.fs x.2) := by
        have := (F x.2 hfl).stp s7 (ne (by simp)) (ne (by simp)) (ne (by simp)) (ne (by simp))
        rw [if_neg (fun h => h.2 hxin)] at this
        exact this
      have B7 := B.stp s7 (ne (by simp))
      have X7 := X.stp s7 (ne (by simp))
      have hi7 := hi.stp s7 (hcb' (by simp))
      have m7 := hm8.stp s7 (ne (by simp))
      have F7 : ∀ n, n < σ.files → FAt w7 lab6 γ n (fb n) (if n ∈ L.map Prod.snd ∧ n ∉ t.map Prod.snd then sv n else σ.fs n) := fun n hn => (F n hn).stp s7 (ne (by simp)) (ne (by simp)) (ne (by simp)) (ne (by simp))
      have s07 := s1.trans (s7.mono (sd (by simp)))
      have hlenx := hperm.length_eq
      have hl1 := hI2.left
      have hl2 := hI.left
      -- the file survives with so many bytes to spend
      have go : ∀ (w8 : World) (_ : Stp NoC w7 lab6 w8 lab6), Calls Tryz.prog disk_file_survives.n #[.pointer (some ⟨fb x.2, 0, none⟩), .int .i64 (Disk.left is x.2)] w8 (fun e w9 => e = .returned (.tuple #[]) ∧
          (∃ (lab' : Nat → C) (t : List (Nm × Nat)) (es' : List (Nm × Value)), es'.Perm (t.map fun x => (x.1, fileV fb x.2)) ∧ IterAt Value.string w9 it m8 es' ∧ CM NmGood Value.string w9 lab' (γ .names) m8 es ∧ lab' it = γ .pend ∧ (∀ x ∈ t, x ∈ L) ∧ (t.map Prod.snd).Nodup ∧
        CB w9 lab' (γ .disk) d tDisk (diskA σ.cap mN mS po pl pc σ.files σ.count σ.fail σ.halt σ.down) ∧ CB w9 lab' (γ .froz) D3 tCrash #[.int .i64 n1, .slice o2 is.length c2] ∧ CInts w9 lab' cb o2 is ∧ (∀ n, n < σ.files → FAt w9 lab' γ n (fb n) (if n ∈ L.map Prod.snd ∧ n ∉ t.map Prod.snd then sv n else σ.fs n)) ∧ Stp (SD γ) w lab w9 lab') ∧ leftN w9 m8 it < leftN w6 m8 it) := by
        intro w8 s8
        have hpe2 := hk.pends x.2 hfl
        have hl0 : 0 ≤ Disk.left is x.2 ∧ Disk.left is x.2 < 9223372036854775808 := by
          unfold Disk.left
          split
          · rename_i hlt
            have := hil (is.getD x.2 0) (by rw [List.getD_eq_getElem?_getD, List.getElem?_eq_getElem hlt]; exact List.getElem_mem hlt)
            omega
          · omega
        refine (survives_calls hγ (Fx.stp s8 (fun h => h) (fun h => h) (fun h => h) (fun h => h)) (hk.pts x.2 hfl) (hk.size x.2 hfl).1 hl0.1 hl0.2 (by omega)).mono ?_
        rintro _ w9 ⟨rfl, lab9, F9, s9⟩
        have nf : ∀ {y : DC}, y ≠ .file x.2 → y ≠ .bytes x.2 → y ≠ .fpend x.2 → ¬ Fs γ x.2 (γ y) := fun h1 h2 h3 h => by
          rcases h with h | h | h
          · exact h1 (hγ _ _ h)
          · exact h2 (hγ _ _ h)
          · exact h3 (hγ _ _ h)
        have s89 : Stp (Fs γ x.2) w7 lab6 w9 lab9 := (s8.mono (fun _ h => h.elim)).trans s9
        have m9 := m7.stp s89 (nf (by simp) (by simp) (by simp))
        have hlt7 := hI2.lt
        have hI9 : IterAt Value.string w9 it m8 es2 := hI2.same (s89.block m8 hlt7.1 (by rw [m7.clr]; exact nf (by simp) (by simp) (by simp))) (s89.block it hlt7.2 (by rw [hit]; exact nf (by simp) (by simp) (by simp)))
        have hl9 := hI9.left
        refine ⟨rfl, ⟨lab9, t.eraseIdx j', es2, hes2, hI9, m9, by rw [s89.lab it hlt7.2]; exact hit, fun y hy => hmem y ((List.eraseIdx_sublist _ _).subset hy), (List.nodup_cons.1 hndp).2, B7.stp s89 (nf (by simp) (by simp) (by simp)), X7.stp s89 (nf (by simp) (by simp) (by simp)), hi7.stp s89 (fun h => hcb h.sd), fun n hn => ?_, s07.trans (s89.mono (fun c h => h.sd))⟩, ?_⟩
        · by_cases hnx : n = x.2
          · subst hnx
            rw [if_pos ⟨List.mem_map_of_mem hxm, (List.nodup_cons.1 hndp).1⟩]
            exact F9
          · have := (F7 n hn).stp s89 (nf (by simp [hnx]) (by simp) (by simp)) (nf (by simp) (by simp [hnx]) (by simp)) (nf (by simp) (by simp) (by simp [hnx])) (nf (by simp) (by simp) (by simp))
            have e2 : n ∈ (t.eraseIdx j').map Prod.snd ↔ n ∈ t.map Prod.snd := by
              rw [(htp.map Prod.snd).mem_iff, List.map_cons, List.mem_cons]
              exact ⟨.inr, fun h => h.resolve_left hnx⟩
            simpa only [e2] using this
        · rw [List.length_cons] at hlenx
          omega
      refine ⟨some ⟨fb x.2, 0, none⟩, rfl, ?_⟩
      rintro _ rfl
      have C := Fx
      obtain ⟨fo, l, k, so, sl, sc, fpo, fpl, fpc, vs, hF⟩ := C
      refine ⟨_, rfl, _, hF.cells.blk.drew.rd1 rfl, _, _, _, X7.blk.drew.rd1 rfl, fun hlt => ?_, fun hge => ?_⟩
      · rintro _ rfl
        refine ⟨_, _, _, X7.blk.drew.drew.rd1 rfl, _, rfl, _, hF.cells.blk.drew.drew.rd1 rfl, ?_⟩
        obtain ⟨ib, ig, rfl, hib, _, hic⟩ := hi7 x.2 (by omega)
        refine ⟨_, rfl, by omega, is.getD x.2 0, ?_, ?_⟩
        · rw [Int.toNat_natCast, add_at]; exact hic
        have e3 : max (is.getD x.2 0) 0 = Disk.left is x.2 := by unfold Disk.left; rw [if_pos (by omega)]
        rw [e3]
        refine (go w7.drew.drew ((Stp.drew _ _ _).trans (Stp.drew _ _ _))).mono ?_
        rintro _ w9 ⟨rfl, h1, h2⟩
        exact ⟨rfl, h1, h2⟩
      · have e3 : (0 : Int) = Disk.left is x.2 := by unfold Disk.left; rw [if_neg (by omega)]
        rw [e3]
        refine (go w7.drew (Stp.drew _ _ _)).mono ?_
        rintro _ w9 ⟨rfl, h1, h2⟩
        exact ⟨rfl, h1, h2⟩
end
end Go.Proofs.YtkekehngillblaaGreat
end

section
set_option linter.unusedVariables false
namespace Go.Disk
open Go.Vcg

theorem new_ok {cap : Int} (h : ¬ (cap < 0 ∨ cap > 67108864)) : Ok (new cap) where
  cap := by simp only [new, most]; omega
  files := by simp [new]
  names := ⟨by simp [new], by simp [new], (fun x h => by cases h), (fun x h => by cases h)⟩
  sure := ⟨by simp [new], by simp [new], (fun x h => by cases h), (fun x h => by cases h)⟩
  chgs := rfl
  pts := fun n hn => by simp [new] at hn
  size := fun n hn => by simp [new] at hn
  fail := by simp [new]
  halt := by simp [new]
  pend := by simp [new]
  pends := fun n hn => by simp [new] at hn
theorem Ok.scalars {d d' : Dk} (h : Ok d) (h1 : d'.cap = d.cap) (h2 : d'.names = d.names) (h3 : d'.sure = d.sure) (h4 : d'.pend = d.pend) (h5 : d'.files = d.files) (h6 : d'.fs = d.fs) (h7 : d.count ≤ d'.count)
    (h8 : 0 ≤ d'.fail ∧ d'.fail < 9223372036854775808) (h9 : -1 ≤ d'.halt ∧ d'.halt < 9223372036854775808) : Ok d' where
  cap := h1 ▸ h.cap
  files := h5 ▸ h.files
  names := by rw [h5, h2]; exact h.names
  sure := by rw [h5, h3]; exact h.sure
  chgs := by rw [h5, h3, h4, h2]; exact h.chgs
  pts := by rw [h5, h6]; exact h.pts
  size := by rw [h5, h6]; exact h.size
  fail := h8
  halt := h9
  pend := by rw [h4]; exact Nat.le_trans h.pend h7
  pends := fun n hn => by rw [h6]; rw [h5] at hn; exact Nat.le_trans (h.pends n hn) h7
theorem begins_ok {d : Dk} (h : Ok d) : Ok (begins d).1 := by
  have h1 := h.fail
  have h2 := h.halt
  unfold begins
  split
  · exact h.scalars rfl rfl rfl rfl rfl rfl (Nat.le_succ _) (by simp only; omega) h2
  · split
    · exact h.scalars rfl rfl rfl rfl rfl rfl (Nat.le_succ _) (by simp only; omega) h2
    · exact h.scalars rfl rfl rfl rfl rfl rfl (Nat.le_succ _) (by simp only; omega) (by simp only; omega)
theorem begins_eq (d : Dk) : (begins d).1.cap = d.cap ∧ (begins d).1.names = d.names ∧ (begins d).1.sure = d.sure ∧ (begins d).1.pend = d.pend ∧ (begins d).1.files = d.files ∧ (begins d).1.fs = d.fs ∧ (begins d).1.count = d.count + 1 := by
  unfold begins
  split
  · exact ⟨rfl, rfl, rfl, rfl, rfl, rfl, rfl⟩
  · split <;> exact ⟨rfl, rfl, rfl, rfl, rfl, rfl, rfl⟩
theorem failAt_ok {d : Dk} (h : Ok d) (n : Int) (hn : n < 9223372036854775808) : Ok (failAt d n) :=
  h.scalars rfl rfl rfl rfl rfl rfl (Nat.le_refl _) (by simp only [failAt]; omega) h.halt
theorem haltAt_ok {d : Dk} (h : Ok d) (n : Int) (hn : n < 9223372036854775808) : Ok (haltAt d n) :=
  h.scalars rfl rfl rfl rfl rfl rfl (Nat.le_refl _) h.fail (by simp only [haltAt]; omega)

theorem PtsOk.snoc {p : Pt} : ∀ {a b b' : List UInt8} {l : List Pt}, PtsOk a l b → PtsOk b [p] b' → PtsOk a (l ++ [p]) b'
  | a, b, b', [], h, h' => by
    obtain rfl : a = b := h
    exact h'
  | a, b, b', .wr x c :: r, h, h' => ⟨h.1, h.2.1, PtsOk.snoc h.2.2 h'⟩
  | a, b, b', .cut n :: r, h, h' => ⟨h.1, PtsOk.snoc h.2 h'⟩
theorem ChgsOk.snoc {files : Nat} {c : Chg} : ∀ {a b : List (Nm × Nat)} {l : List Chg}, ChgsOk files a l b → ChgOk files b c → ChgsOk files a (l ++ [c]) (c.on b)
  | a, b, [], h, h' => by
    obtain rfl : a = b := h
    exact ⟨h', rfl⟩
  | a, b, x :: r, h, h' => ⟨h.1, ChgsOk.snoc h.2 h'⟩
theorem ChgOk.mono {files files' : Nat} (hf : files ≤ files') {l : List (Nm × Nat)} {c : Chg} (h : ChgOk files l c) : ChgOk files' l c := by
  cases c with
  | made n f => exact ⟨h.1, Nat.lt_of_lt_of_le h.2.1 hf, h.2.2⟩
  | ren a b => exact h
  | rem n => exact h
theorem ChgsOk.mono {files files' : Nat} (hf : files ≤ files') : ∀ {a b : List (Nm × Nat)} {l : List Chg}, ChgsOk files a l b → ChgsOk files' a l b
  | _, _, [], h => h
  | _, _, x :: r, h => ⟨h.1.mono hf, ChgsOk.mono hf h.2⟩
theorem NamesOk.mono {files files' : Nat} (hf : files ≤ files') {l : List (Nm × Nat)} (h : NamesOk files l) : NamesOk files' l :=
  ⟨h.keys, h.vals, h.rights, fun x hx => Nat.lt_of_lt_of_le (h.files x hx) hf⟩

/-- A file is in another state. -/
theorem Ok.setF {d : Dk} (h : Ok d) {n : Nat} {f : Fl} (hn : n < d.files) (hp : PtsOk f.sure f.pend f.bytes) (hs : f.sure.length ≤ most ∧ f.bytes.length ≤ most) (hl : f.pend.length ≤ d.count) : Ok (Disk.setF d n f) where
  cap := h.cap
  files := h.files
  names := h.names
  sure := h.sure
  chgs := h.chgs
  pts := fun k hk => by
    simp only [Disk.setF]
    split
    · exact hp
    · exact h.pts k hk
  size := fun k hk => by
    simp only [Disk.setF]
    split
    · exact hs
    · exact h.size k hk
  fail := h.fail
  halt := h.halt
  pend := h.pend
  pends := fun k hk => by
    simp only [Disk.setF]
    split
    · exact hl
    · exact h.pends k hk
theorem Ok.does {d : Dk} (h : Ok d) {c : Chg} (hc : ChgOk d.files d.names c) (hl : d.pend.length < d.count) : Ok (Disk.does d c) where
  cap := h.cap
  files := h.files
  names := h.names.on hc
  sure := h.sure
  chgs := h.chgs.snoc hc
  pts := h.pts
  size := h.size
  fail := h.fail
  halt := h.halt
  pend := by simp only [Disk.does, List.length_append, List.length_singleton]; omega
  pends := h.pends

/-- Behind 'begins' there is room for one more pending change. -/
structure Ok1 (d : Dk) : Prop where
  ok : Ok d
  pend : d.pend.length < d.count
  pends : ∀ n, n < d.files → (d.fs n).pend.length < d.count
theorem begins_ok1 {d : Dk} (h : Ok d) : Ok1 (begins d).1 := by
  obtain ⟨e1, e2, e3, e4, e5, e6, e7⟩ := begins_eq d
  refine ⟨begins_ok h, ?_, fun n hn => ?_⟩
  · rw [e4, e7]; exact Nat.lt_succ_of_le h.pend
  · rw [e6, e7]; rw [e5] at hn; exact Nat.lt_succ_of_le (h.pends n hn)

theorem onFile_ok {d : Dk} (h : Ok d) {s : Nm} {k : Dk → Nat → Dk × Int} (hk : ∀ d f, Ok1 d → assoc s d.names = some f → right s = true → f < d.files → Ok (k d f).1) : Ok (onFile d s k).1 := by
  have h1 := begins_ok1 h
  unfold onFile
  simp only
  generalize (begins d).1 = d1 at *
  split
  · split
    · rename_i h0
      have hn : right s = true ∧ assoc s d1.names = some (named d1 s).1 := by
        have h0' := h0
        unfold named at h0' ⊢
        split at h0'
        · rename_i hr
          split at h0'
          · rename_i f hf
            rw [if_pos hr, hf]; exact ⟨hr, rfl⟩
          · cases h0'
        · cases h0'
      exact hk d1 _ h1 hn.2 hn.1 (h1.ok.names.files _ (Go.Proofs.YtkekehngillblaaGreat.assoc_some hn.2))
    · exact h1.ok
  · exact begins_ok h

theorem onFile_count {d : Dk} {s : Nm} {k : Dk → Nat → Dk × Int} (hk : ∀ d f, (k d f).1.count = d.count) : (onFile d s k).1.count = d.count + 1 := by
  have e := (begins_eq d).2.2.2.2.2.2
  unfold onFile
  simp only
  split
  · split
    · rw [hk, e]
    · exact e
  · exact e
theorem mem_len_le {l : List (Nm × Nat)} {g : Nat → Nat} {s : Nm} {f : Nat} (h : assoc s l = some f) : g f ≤ (l.map fun x => g x.2).sum := by
  have hm := Go.Proofs.YtkekehngillblaaGreat.assoc_some h
  clear h
  induction l with
  | nil => cases hm
  | cons x r ih =>
    simp only [List.map_cons, List.sum_cons]
    rcases List.mem_cons.1 hm with rfl | hm
    · exact Nat.le_add_right _ _
    · have := ih hm; omega
theorem write_ok {d : Dk} (h : Ok1 d) {s : Nm} {f : Nat} (hf : assoc s d.names = some f) (hlt : f < d.files) {at_ : Nat} (hat : at_ ≤ (d.fs f).bytes.length) (b : List UInt8) : Ok (write d f at_ b).1 := by
  unfold write
  simp only
  split
  · exact h.ok
  · rename_i hn
    split
    · exact h.ok
    · have hl : (lay (d.fs f).bytes at_ b).length ≤ most := by
        have h1 := (h.ok.size f hlt).2
        have h2 := h.ok.cap
        have h3 : (d.fs f).bytes.length ≤ used d := mem_len_le (g := fun n => (d.fs n).bytes.length) hf
        have h4 : (lay (d.fs f).bytes at_ b).length = max (d.fs f).bytes.length (at_ + b.length) := by
          rw [lay, List.length_append, List.length_append, List.length_take, List.length_drop]; omega
        rw [h4]
        simp only [most] at *
        omega
      refine h.ok.setF hlt ((h.ok.pts f hlt).snoc ⟨hat, hl, rfl⟩) ⟨(h.ok.size f hlt).1, hl⟩ ?_
      have := h.pends f hlt
      simp only [List.length_append, List.length_singleton]; omega
theorem write_count (d : Dk) (f at_ : Nat) (b : List UInt8) : (write d f at_ b).1.count = d.count := by
  unfold write
  simp only
  split
  · rfl
  · split <;> rfl
theorem append_ok {d : Dk} (h : Ok d) (s : Nm) (b : List UInt8) : Ok (append d s b).1 :=
  onFile_ok h fun d f h1 hf hr hlt => write_ok h1 hf hlt (Nat.le_refl _) b
theorem append_count (d : Dk) (s : Nm) (b : List UInt8) : (append d s b).1.count = d.count + 1 := onFile_count fun d f => write_count _ _ _ _
theorem writeAt_ok {d : Dk} (h : Ok d) (s : Nm) (a : Int) (b : List UInt8) : Ok (writeAt d s a b).1 :=
  onFile_ok h fun d f h1 hf hr hlt => by
    split
    · exact h1.ok
    · exact write_ok h1 hf hlt (by omega) b
theorem writeAt_count (d : Dk) (s : Nm) (a : Int) (b : List UInt8) : (writeAt d s a b).1.count = d.count + 1 := onFile_count fun d f => by
  split
  · rfl
  · exact write_count _ _ _ _
theorem truncate_ok {d : Dk} (h : Ok d) (s : Nm) (n : Int) : Ok (truncate d s n).1 :=
  onFile_ok h fun d f h1 hf hr hlt => by
    split
    · exact h1.ok
    · split
      · have h2 := h1.ok.size f hlt
        refine h1.ok.setF hlt ((h1.ok.pts f hlt).snoc ⟨by omega, rfl⟩) ⟨h2.1, by rw [List.length_take]; omega⟩ ?_
        have := h1.pends f hlt
        simp only [List.length_append, List.length_singleton]; omega
      · exact h1.ok
theorem truncate_count (d : Dk) (s : Nm) (n : Int) : (truncate d s n).1.count = d.count + 1 := onFile_count fun d f => by
  split
  · rfl
  · split <;> rfl
theorem sync_ok {d : Dk} (h : Ok d) (s : Nm) : Ok (sync d s).1 :=
  onFile_ok h fun d f h1 hf hr hlt => h1.ok.setF hlt rfl ⟨(h1.ok.size f hlt).2, (h1.ok.size f hlt).2⟩ (Nat.zero_le _)
theorem sync_count (d : Dk) (s : Nm) : (sync d s).1.count = d.count + 1 := onFile_count fun d f => rfl
theorem remove_ok {d : Dk} (h : Ok d) (s : Nm) : Ok (remove d s).1 :=
  onFile_ok h fun d f h1 hf hr hlt => h1.ok.does (c := .rem s) hr h1.pend
theorem remove_count (d : Dk) (s : Nm) : (remove d s).1.count = d.count + 1 := onFile_count fun d f => rfl
theorem syncDir_ok {d : Dk} (h : Ok d) : Ok (syncDir d).1 := by
  have h1 := begins_ok h
  unfold syncDir
  simp only
  split
  · exact ⟨h1.cap, h1.files, h1.names, h1.names, rfl, h1.pts, h1.size, h1.fail, h1.halt, Nat.zero_le _, h1.pends⟩
  · exact h1
theorem syncDir_count (d : Dk) : (syncDir d).1.count = d.count + 1 := by
  have e := (begins_eq d).2.2.2.2.2.2
  unfold syncDir
  simp only
  split <;> exact e
theorem rename_ok {d : Dk} (h : Ok d) (a b : Nm) : Ok (rename d a b).1 := by
  have h1 := begins_ok1 h
  unfold rename
  simp only
  generalize (begins d).1 = d1 at *
  split
  · split
    · rename_i hr
      split
      · rename_i f hf
        split
        · exact h1.ok
        · rename_i hab
          simp only [Bool.and_eq_true] at hr
          exact h1.ok.does (c := .ren a b) ⟨hr.1, hr.2, hab, List.mem_map_of_mem (f := Prod.fst) (Go.Proofs.YtkekehngillblaaGreat.assoc_some hf)⟩ h1.pend
      · exact h1.ok
    · exact h1.ok
  · exact begins_ok h
theorem rename_count (d : Dk) (a b : Nm) : (rename d a b).1.count = d.count + 1 := by
  have e := (begins_eq d).2.2.2.2.2.2
  unfold rename
  simp only
  split
  · split
    · split
      · split <;> exact e
      · exact e
    · exact e
  · exact e
theorem create_ok {d : Dk} (h : Ok d) (s : Nm) : Ok (create d s).1 := by
  have h1 := begins_ok1 h
  unfold create
  simp only
  generalize (begins d).1 = d1 at *
  split
  · split
    · exact h1.ok
    · split
      · rename_i h13
        split
        · exact h1.ok
        · rename_i hful
          have hnone : right s = true ∧ assoc s d1.names = none := by
            unfold named at h13
            split at h13
            · rename_i hr
              split at h13
              · cases h13
              · rename_i hf; exact ⟨hr, hf⟩
            · cases h13
          have hk := h1.ok
          have hfl := hk.files
          have hch : ChgOk (d1.files + 1) d1.names (.made s d1.files) := by
            refine ⟨hnone.1, by omega, fun hm => ?_, fun hm => ?_⟩
            · obtain ⟨x, hx, hxe⟩ := List.mem_map.1 hm
              have := hk.names.files x hx
              omega
            · obtain ⟨f, hf⟩ := assoc_mem hm
              rw [hnone.2] at hf; cases hf
          refine ⟨hk.cap, by simp only; omega, (hk.names.mono (Nat.le_succ _)).on hch, hk.sure.mono (Nat.le_succ _), (hk.chgs.mono (Nat.le_succ _)).snoc hch, fun n hn => ?_, fun n hn => ?_, hk.fail, hk.halt, ?_, fun n hn => ?_⟩
          · simp only [Disk.does, Disk.setF]
            split
            · rfl
            · exact hk.pts n (by simp only at hn; omega)
          · simp only [Disk.does, Disk.setF]
            split
            · simp [fresh]
            · exact hk.size n (by simp only at hn; omega)
          · have := h1.pend
            simp only [Disk.does, Disk.setF, List.length_append, List.length_singleton]; omega
          · simp only [Disk.does, Disk.setF]
            split
            · simp [fresh]
            · exact hk.pends n (by simp only at hn; omega)
      · exact h1.ok
  · exact begins_ok h
theorem create_count (d : Dk) (s : Nm) : (create d s).1.count = d.count + 1 := by
  have e := (begins_eq d).2.2.2.2.2.2
  unfold create
  simp only
  split
  · split
    · exact e
    · split
      · split
        · exact e
        · exact e
      · exact e
  · exact e
theorem survive_len : ∀ {l : List Pt} {a b : List UInt8} (left : Int), PtsOk a l b → a.length ≤ most → 0 ≤ left → (survive a l left).length ≤ most
  | [], a, b, left, h, ha, h0 => ha
  | .wr x c :: r, a, b, left, h, ha, h0 => by
    rw [survive]
    have h4 : ∀ c, (lay a x c).length = max a.length (x + c.length) := fun c => by
      have := h.1
      rw [lay, List.length_append, List.length_append, List.length_take, List.length_drop]; omega
    split
    · have := h.2.1
      rw [h4] at this ⊢
      rw [List.length_take]; omega
    · exact survive_len _ h.2.2 h.2.1 (by omega)
  | .cut n :: r, a, b, left, h, ha, h0 => by
    rw [survive]
    split
    · exact ha
    · exact survive_len _ h.2 (by rw [List.length_take]; omega) (by omega)
theorem left_nn (c : List Int) (n : Nat) : 0 ≤ left c n := by unfold left; split <;> omega
theorem restart_ok {d : Dk} (h : Ok d) (n : Int) (c : List Int) : Ok (restart d n c) := by
  have hL := NamesOk.fold (min (max n 0) d.pend.length).toNat h.sure h.chgs
  refine ⟨h.cap, h.files, hL, hL, rfl, fun k hk => ?_, fun k hk => ?_, by simp [restart], by simp [restart], Nat.zero_le _, fun k hk => ?_⟩
  · simp only [restart]
    split
    · rfl
    · exact h.pts k hk
  · simp only [restart]
    split
    · have := survive_len _ (h.pts k hk) (h.size k hk).1 (left_nn c k)
      exact ⟨this, this⟩
    · exact h.size k hk
  · simp only [restart]
    split
    · exact Nat.zero_le _
    · exact h.pends k hk
end Go.Disk
end

section
namespace Go.Vcg

def strOf (bs : List UInt8) : ByteArray := ⟨bs.toArray⟩
theorem run_toStr {P : Program} {w : World} {src dst e : TypeId} (hs : P.underlying src = some (.slice e)) (he : P.underlying e = some (.int .u8)) (hd : P.underlying dst = some .string) {o : Option Addr} {c : Nat} {bs : List UInt8} (h : RdB w o bs) :
    (convert src dst (.slice o bs.length c)).run P w = .ok (.string (strOf bs)) w := by
  rw [run_convert_bytes_string w src dst e o bs.length c hs he hd]
  cases o with
  | none =>
    have : bs = [] := by
      by_cases hne : bs = []
      · exact hne
      · obtain ⟨b, f, h, _⟩ := h hne; cases h
    subst this
    rfl
  | some a =>
    have hl : (loadCells a bs.length).run P w = .ok ((bs.map fun b => (b.toNat : Int)).map (Value.int .u8)).toArray w := by
      have h1 : (Builtin.firstCells 1 bs.length (.slice (some a) bs.length c)).run P w = .ok (bs.map bV).toArray w := by
        refine run_firstCells_some w 1 bs.length a _ c _ (by simp) (fun j v hv => ?_)
        rw [List.getElem?_map, Option.map_eq_some_iff] at hv
        obtain ⟨x, hx, rfl⟩ := hv
        obtain ⟨hj, rfl⟩ := List.getElem?_eq_some_iff.1 hx
        obtain ⟨b, f, ho, _, hc⟩ := h (by intro e; rw [e] at hj; simp at hj)
        cases ho
        rw [add_at, hc j hj]
        simp [List.getD_eq_getElem?_getD, hj]
      simp only [Builtin.firstCells, Nat.mul_one] at h1
      rw [h1, List.map_map]; rfl
    rw [run_bytesToString w a _ c _ hl]
    have key : ∀ (l : List UInt8) (s : ByteArray), (l.map fun b => (b.toNat : Int)).foldl (fun r n => r.push (UInt8.ofNat n.toNat)) s = ⟨s.data ++ l.toArray⟩ := by
      intro l
      induction l with
      | nil => intro s; simp
      | cons b l ih =>
        intro s
        rw [List.map_cons, List.foldl_cons, ih]
        have e1 : UInt8.ofNat ((b.toNat : Int)).toNat = b := by rw [Int.toNat_natCast, UInt8.ofNat_toNat]
        rw [e1]
        congr 1
        show s.data.push b ++ l.toArray = _
        rw [List.toArray_cons, ← Array.append_assoc]
        rfl
    rw [key]
    show Result.ok (Value.string ⟨#[] ++ bs.toArray⟩) w = _
    rw [Array.empty_append]; rfl
theorem strB_eql (a b : ByteArray) : strB .eql a b = decide (a.data.toList = b.data.toList) := by
  simp only [strB, ByteArray.toList_eq]
  by_cases h : a.data.toList = b.data.toList
  · rw [decide_eq_true h, h]; simp
  · rw [decide_eq_false h]; simpa using h
theorem strB_strOf (a b : List UInt8) : strB .eql (strOf a) (strOf b) = decide (a = b) := by
  rw [strB_eql]; rfl
end Go.Vcg
end

section
set_option linter.unusedVariables false
set_option linter.unusedSimpArgs false
namespace Go.Proofs.YtkekehngillblaaGreat
open Go Go.Vcg Go.Disk

theorem cell_mod {S : Nat → Prop} {w w' : World} (m : Vcg.Mod S w w') {b i : Nat} (hb : b < w.heap.size) (hs : ¬ S b) : w'.cell? ⟨b, i, none⟩ = w.cell? ⟨b, i, none⟩ :=
  World.cell?_of_block (m.block b hb hs)
/-- Colours of a law: the disk's, what was there ahead, what the law itself makes. -/
inductive LC where
  | d (x : DC) | out | tmp
theorem LC.inj : ∀ a b, LC.d a = LC.d b → a = b := fun a b h => by cases h; rfl
/-- A disk in a law, behind at most n changing calls. -/
structure LD (w0 w : World) (lab : Nat → LC) (d : Nat) (σ : Dk) (n : Nat) : Prop where
  M : Stp (· ≠ LC.out) w0 (fun _ => LC.out) w lab
  D : DAt w lab LC.d d σ
  ok : Ok σ
  cnt : σ.count ≤ n
variable {w0 w w' : World} {lab : Nat → LC} {d : Nat} {σ σ' : Dk} {n : Nat}
theorem LD.nob (h : LD w0 w lab d σ n) : Vcg.Mod NoB w0 w := h.M.nob (fun k _ hk => hk rfl)
theorem out_sd : ¬ SD LC.d LC.out := by rintro ⟨x, _, h⟩; cases h
theorem tmp_sd : ¬ SD LC.d LC.tmp := by rintro ⟨x, _, h⟩; cases h
theorem LD.bytes (h : LD w0 w lab d σ n) {o : Option Addr} {bs : List UInt8} (hr : RdB w0 o bs) : CBy w lab .out o bs :=
  (CBy.mk (w := w0) (lab := fun _ => LC.out) hr (fun _ _ _ => rfl)).stp h.M (fun h => h rfl)
theorem LD.then (h : LD w0 w lab d σ n) (hr : DRes LC.d d w lab w' σ') (hok : Ok σ') {m : Nat} (hc : σ'.count ≤ m) : ∃ lab', LD w0 w' lab' d σ' m := by
  obtain ⟨lab', D, s⟩ := hr
  exact ⟨lab', h.M.trans (s.mono (fun c ⟨x, _, e⟩ => by rw [e]; simp)), D, hok, hc⟩
theorem LD.step (h : LD w0 w lab d σ n) {lab' : Nat → LC} (s : Stp NoC w lab w' lab') : LD w0 w' lab' d σ n :=
  ⟨h.M.trans (s.mono (fun _ h => h.elim)), h.D.stp s (fun _ h => h), h.ok, h.cnt⟩
theorem LD.nums (h : LD w0 w lab d σ n) (hn : n < 2 ^ 39) : Nums σ := ⟨Nat.lt_of_le_of_lt h.cnt hn, h.ok.fail, h.ok.halt⟩

section
variable (h : LD w0 w lab d σ n) (hn : n < 2 ^ 39)
include h hn
theorem LD.create (s : Nm) : Calls Tryz.prog disk_Disk_Create.n #[.pointer (some ⟨d, 0, none⟩), .string s] w (fun e w' => e = .returned (.int .i64 (Disk.create σ s).2) ∧ ∃ lab', LD w0 w' lab' d (Disk.create σ s).1 (n + 1)) :=
  (Create_calls LC.inj h.D (h.nums hn) (begins_ok h.ok) s).mono fun e w' ⟨he, hr⟩ => ⟨he, h.then hr (create_ok h.ok s) (by rw [create_count]; have := h.cnt; omega)⟩
theorem LD.append (s : Nm) {o : Option Addr} {c : Nat} {bs : List UInt8} {cb : LC} (hb : CBy w lab cb o bs) (hc : ¬ SD LC.d cb) (hl : bs.length ≤ 2 ^ 60) : Calls Tryz.prog disk_Disk_Append.n #[.pointer (some ⟨d, 0, none⟩), .string s, .slice o bs.length c] w (fun e w' => e = .returned (.int .i64 (Disk.append σ s bs).2) ∧ ∃ lab', LD w0 w' lab' d (Disk.append σ s bs).1 (n + 1)) :=
  (Append_calls LC.inj h.D (h.nums hn) (begins_ok h.ok) s hb hc hl).mono fun e w' ⟨he, hr⟩ => ⟨he, h.then hr (append_ok h.ok s bs) (by rw [append_count]; have := h.cnt; omega)⟩
theorem LD.sync (s : Nm) : Calls Tryz.prog disk_Disk_Sync.n #[.pointer (some ⟨d, 0, none⟩), .string s] w (fun e w' => e = .returned (.int .i64 (Disk.sync σ s).2) ∧ ∃ lab', LD w0 w' lab' d (Disk.sync σ s).1 (n + 1)) :=
  (Sync_calls LC.inj h.D (h.nums hn) (begins_ok h.ok) s).mono fun e w' ⟨he, hr⟩ => ⟨he, h.then hr (sync_ok h.ok s) (by rw [sync_count]; have := h.cnt; omega)⟩
theorem LD.rename (a b : Nm) : Calls Tryz.prog disk_Disk_Rename.n #[.pointer (some ⟨d, 0, none⟩), .string a, .string b] w (fun e w' => e = .returned (.int .i64 (Disk.rename σ a b).2) ∧ ∃ lab', LD w0 w' lab' d (Disk.rename σ a b).1 (n + 1)) :=
  (Rename_calls LC.inj h.D (h.nums hn) (begins_ok h.ok) a b).mono fun e w' ⟨he, hr⟩ => ⟨he, h.then hr (rename_ok h.ok a b) (by rw [rename_count]; have := h.cnt; omega)⟩
theorem LD.syncDir : Calls Tryz.prog disk_Disk_SyncDir.n #[.pointer (some ⟨d, 0, none⟩)] w (fun e w' => e = .returned (.int .i64 (Disk.syncDir σ).2) ∧ ∃ lab', LD w0 w' lab' d (Disk.syncDir σ).1 (n + 1)) :=
  (SyncDir_calls LC.inj h.D (h.nums hn)).mono fun e w' ⟨he, hr⟩ => ⟨he, h.then hr (syncDir_ok h.ok) (by rw [syncDir_count]; have := h.cnt; omega)⟩
theorem LD.restart (k : Int) {o : Option Addr} {c : Nat} {is : List Int} {cb : LC} (hi : CInts w lab cb o is) (hc : ¬ SD LC.d cb) (hil : ∀ x ∈ is, x < 9223372036854775808) (hlen : is.length < 2 ^ 62) : Calls Tryz.prog disk_Disk_Restart.n #[.pointer (some ⟨d, 0, none⟩), .agg #[.int .i64 k, .slice o is.length c]] w (fun e w' => e = .returned (.tuple #[]) ∧ ∃ lab', LD w0 w' lab' d (Disk.restart σ k is) n) :=
  (Restart_calls LC.inj h.D h.ok (Nat.lt_of_le_of_lt h.cnt (by omega)) k hi hc hil hlen).mono fun e w' ⟨he, hr⟩ => ⟨he, h.then hr (restart_ok h.ok k is) h.cnt⟩
end
theorem LD.used (h : LD w0 w lab d σ n) : Calls Tryz.prog disk_Disk_Used.n #[.pointer (some ⟨d, 0, none⟩)] w (fun e w' => e = .returned (.int .i64 (Disk.used σ : Int)) ∧ ∃ lab', LD w0 w' lab' d σ n) :=
  (Used_calls h.D h.ok).mono fun e w' ⟨he, M⟩ => ⟨he, _, h.step (Stp.of_nob M LC.tmp)⟩
theorem LD.read (h : LD w0 w lab d σ n) (s : Nm) : Calls Tryz.prog disk_Disk_Read.n #[.pointer (some ⟨d, 0, none⟩), .string s] w (fun e w' => ∃ o k, e = .returned (.tuple #[.slice o (Disk.read σ s).1.length k, .int .i64 (Disk.read σ s).2]) ∧
      ∃ lab', LD w0 w' lab' d σ n ∧ COw w' lab' LC.tmp tU8 1 o (Disk.read σ s).1.length k ((Disk.read σ s).1.map bV)) :=
  (Read_calls h.D h.ok s LC.tmp).mono fun e w' ⟨o, k, he, lab', D, hc, s⟩ => ⟨o, k, he, lab', ⟨h.M.trans (s.mono (fun c ⟨x, _, e⟩ => by rw [e]; simp)), D, h.ok, h.cnt⟩, hc⟩
theorem LD.new (w0 w : World) (M : Vcg.Mod NoB w0 w) (cap : Int) (hc : ¬ (cap < 0 ∨ cap > 67108864)) : Calls Tryz.prog disk_New.n #[.int .i64 cap] w (fun e w' => ∃ d lab', e = .returned (.tuple #[.pointer (some ⟨d, 0, none⟩), .int .i64 0]) ∧ LD w0 w' lab' d (Disk.new cap) 0) := by
  have s0 : Stp (· ≠ LC.out) w0 (fun _ => LC.out) w (ext (fun _ => LC.out) w0.heap.size LC.tmp) := Stp.of_nob M _
  refine (New_calls w (ext (fun _ => LC.out) w0.heap.size LC.tmp) LC.d cap).mono ?_
  rintro e w' (⟨h, _⟩ | ⟨_, d, lab', he, D, s⟩)
  · exact absurd h hc
  · exact ⟨d, lab', he, s0.trans (s.mono (fun _ h => h.elim)), D, new_ok hc, Nat.le_refl _⟩

theorem Bytes_calls {w : World} {o1 o2 : Option Addr} {c1 c2 : Nat} {a b : List UInt8} (h1 : RdB w o1 a) (h2 : RdB w o2 b) :
    Calls Tryz.prog morainehelp_Bytes.n #[.slice o1 a.length c1, .slice o2 b.length c2] w (fun e w' => e = .returned (.bool (decide (a = b))) ∧ w' = w) := by
  refine morainehelp_Bytes.vc _ _ _ _ _ _ _ _ ?_
  unfold morainehelp_Bytes.Vc
  have hu : Tryz.prog.underlying tU8 = some (.int .u8) := by kernel_rfl
  refine ⟨_, run_toStr und_slU8 hu und_str h1, _, rfl, _, run_toStr und_slU8 hu und_str h2, _, rfl, ?_, rfl⟩
  rw [strB_strOf]

abbrev nmA : Nm := ⟨#[97]⟩
abbrev k1 : Dk := (Disk.create (Disk.new 10) nmA).1
abbrev k2 : Dk := (Disk.syncDir k1).1
abbrev k3 : Dk := (Disk.append k2 nmA [1, 2, 3]).1
abbrev k4 : Dk := Disk.restart k3 0 [2]
theorem known_calls (w : World) : Calls Tryz.prog morainelaw1_known.n #[] w (fun e w' => e = .returned (.bool true) ∧ Vcg.Mod NoB w w') := by
  refine morainelaw1_known.vc _ _ ?_
  unfold morainelaw1_known.Vc
  refine (LD.new w w (Mod.refl w) 10 (by omega)).mono ?_
  rintro _ w1 ⟨d, lab1, rfl, h1⟩
  refine ⟨_, _, rfl, fun h => (by cases h), fun _ => ⟨fun h => (h rfl).elim, fun _ => ?_⟩⟩
  refine (h1.create (by omega) nmA).mono ?_
  rintro _ w2 ⟨rfl, lab2, h2⟩
  refine ⟨_, rfl, fun h => (h (by decide +kernel)).elim, fun _ => ?_⟩
  refine (h2.syncDir (by omega)).mono ?_
  rintro _ w3 ⟨rfl, lab3, h3⟩
  refine ⟨_, rfl, fun h => (h (by decide +kernel)).elim, fun _ => ?_⟩
  rintro d10 w4 ⟨rfl, rfl⟩
  have B4 := Blk.new w3 tU8 #[(.int .u8 1), (.int .u8 2), (.int .u8 3)]
  have h4 := h3.step (Stp.alloc NoC w3 lab3 (.cells #[(.int .u8 1), (.int .u8 2), (.int .u8 3)] tU8) LC.tmp)
  have c4 : CBy _ (ext lab3 w3.heap.size LC.tmp) LC.tmp (some ⟨w3.heap.size, 0, none⟩) [1, 2, 3] := ⟨RdB.of_blk B4 (fun i hi => by
    rcases i with _ | _ | _ | i
    · rfl
    · rfl
    · rfl
    · exact absurd hi (by simp)), fun _ x hx => by cases hx; exact ext_new (Nat.le_refl _)⟩
  generalize w3.alloc (.cells #[(.int .u8 1), (.int .u8 2), (.int .u8 3)] tU8) = w4 at *
  refine (h4.append (by omega) nmA c4 tmp_sd (by decide)).mono ?_
  rintro _ w5 ⟨rfl, lab5, h5⟩
  refine ⟨_, rfl, fun h => (h (by decide +kernel)).elim, fun _ => ?_⟩
  rintro d15 w6 ⟨rfl, rfl⟩
  have B6 := CB.new w5 lab5 LC.tmp 3 #[(.int .i64 2)]
  have h6 := h5.step (Stp.alloc NoC w5 lab5 (.cells #[(.int .i64 2)] 3) LC.tmp)
  generalize w5.alloc (.cells #[(.int .i64 2)] 3) = w6 at *
  have c6 : CInts w6 (ext lab5 w5.heap.size LC.tmp) LC.tmp (some ⟨w5.heap.size, 0, none⟩) [2] := fun i hi => by
    obtain rfl : i = 0 := by simpa using hi
    exact ⟨_, 0, rfl, B6.blk.lt, B6.clr, B6.blk.rd1 rfl⟩
  refine (h6.restart (by omega) 0 c6 tmp_sd (by decide) (by decide)).mono ?_
  rintro _ w7 ⟨rfl, lab7, h7⟩
  refine ⟨rfl, ?_⟩
  refine (h7.read nmA).mono ?_
  rintro _ w8 ⟨o8, c8, rfl, lab8, h8, ow8⟩
  have er : Disk.read (Disk.restart (Disk.append (Disk.syncDir (Disk.create (Disk.new 10) nmA).1).1 nmA [1, 2, 3]).1 0 [2]) nmA = ([1, 2], 0) := by decide +kernel
  rw [er] at ow8 ⊢
  refine ⟨_, _, _, _, rfl, fun _ => ?_, fun h => (h rfl).elim⟩
  have hu : Tryz.prog.underlying tU8 = some (.int .u8) := by kernel_rfl
  refine ⟨_, run_toStr und_slU8 hu und_str ow8.bytes.rd, _, rfl, fun _ => ?_, fun h => (by rw [show (⟨#[1, 2]⟩ : ByteArray) = Go.Vcg.strOf [1, 2] from rfl, strB_strOf] at h; simp at h)⟩
  obtain ⟨i, hi, hi1⟩ := Option.map_eq_some_iff.1 info_u8
  simp only [Prod.mk.injEq] at hi1
  have hmk := run_makeSlice (P := Tryz.prog) w8 tSlU8 tU8 i (.int .u8 0) und_slU8 hi hi1.1 .i64 .i64 9 9 (by omega) (by omega) (by rw [hi1.2.1]; decide) (by rw [hi1.2.2]; omega) (by omega)
  refine ⟨_, _, hmk, _, _, _, rfl, ?_⟩
  rw [hi1.2.1]
  have B9 := Blk.new w8 tU8 (madeCells (Value.int .u8 0).cells (Int.toNat 9 * 1))
  have h9 := h8.step (Stp.alloc NoC w8 lab8 (.cells (madeCells (Value.int .u8 0).cells (Int.toNat 9 * 1)) tU8) LC.tmp)
  have c9 : CBy _ (ext lab8 w8.heap.size LC.tmp) LC.tmp (some ⟨w8.heap.size, 0, none⟩) [0, 0, 0, 0, 0, 0, 0, 0, 0] := ⟨RdB.of_blk B9 (fun i hi => by
    have : madeCells (Value.int .u8 0).cells (Int.toNat 9 * 1) = #[bV 0, bV 0, bV 0, bV 0, bV 0, bV 0, bV 0, bV 0, bV 0] := by kernel_rfl
    rw [this]
    have hi : i < 9 := hi
    match i, hi with
    | 0, _ | 1, _ | 2, _ | 3, _ | 4, _ | 5, _ | 6, _ | 7, _ | 8, _ => rfl), fun _ x hx => by cases hx; exact ext_new (Nat.le_refl _)⟩
  generalize w8.alloc (.cells (madeCells (Value.int .u8 0).cells (Int.toNat 9 * 1)) tU8) = w9 at *
  refine (h9.append (by omega) nmA c9 tmp_sd (by decide)).mono ?_
  rintro _ w10 ⟨rfl, lab10, h10⟩
  refine ⟨_, rfl, ?_, h10.nob⟩
  congr 2
end Go.Proofs.YtkekehngillblaaGreat
end
