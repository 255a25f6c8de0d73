/- The reference's disk: calls that change a file. -/
/- The reference's disk: calls that change names. -/
/- The reference's disk: a new file. -/
/- The reference's disk: what survives of a file. -/
/- The reference's disk: a restart. -/
/- The disk's laws with the reference beside: a step of both. -/
import Derived.Test.YtkekehngillblaaGreatRP5
section
set_option linter.unusedVariables false
set_option linter.unusedSimpArgs false
namespace Go.Disk
theorem onFile_bad (σ : Dk) (s : Nm) (k : Dk → Nat → Dk × Int) {n : Int} (hn : n = if (begins σ).2 = 0 then (named (begins σ).1 s).2 else (begins σ).2) (h0 : n ≠ 0) : onFile σ s k = ((begins σ).1, n) := by
  unfold onFile
  by_cases hb : (begins σ).2 = 0
  · rw [if_pos hb] at hn
    simp only [if_pos hb]
    rw [← hn, if_neg h0]
  · rw [if_neg hb] at hn
    simp only [if_neg hb]
    rw [hn]
theorem onFile_good (σ : Dk) (s : Nm) (k : Dk → Nat → Dk × Int) {n : Int} (hn : n = if (begins σ).2 = 0 then (named (begins σ).1 s).2 else (begins σ).2) (h0 : n = 0) : (named (begins σ).1 s).2 = 0 ∧ onFile σ s k = k (begins σ).1 (named (begins σ).1 s).1 := by
  have hb : (begins σ).2 = 0 := by
    by_cases hb : (begins σ).2 = 0
    · exact hb
    · rw [if_neg hb] at hn; exact (hb (hn ▸ h0)).elim
  rw [if_pos hb] at hn
  have h2 : (named (begins σ).1 s).2 = 0 := hn ▸ h0
  refine ⟨h2, ?_⟩
  unfold onFile
  simp only [if_pos hb, if_pos h2]
end Go.Disk
namespace Go.Proofs.YtkekehngillblaaGreat
open Go Go.Vcg Go.Disk
section
variable {C : Type} {w w' : World} {lab lab' : Nat → C} {c : C} {γ : RC → C} {d : Nat} {σ τ : Dk}
theorem names_few (hk : Ok σ) : σ.names.length ≤ 1048576 := names_len hk.names hk.files

variable {on os om : Option Addr} {cn cs cm : Nat} {fb : Nat → Nat} {h : Int}
theorem RAsked (hγ : ∀ a b, γ a = γ b → a = b) (H : RAt w lab γ d σ) (hn : Nums σ) (hk : Ok (begins σ).1) (s : Nm) :
    Calls Tryz.prog moraineref1_Disk_asked.n #[.pointer (some ⟨d, 0, none⟩), .string s] w (fun e w' => ∃ lab' on cn os cs om cm fb h, RIn w' lab' γ d (begins σ).1 on cn os cs om cm fb h ∧ Stp (SR γ) w lab w' lab' ∧
      ∃ o n, e = .returned (.tuple #[.pointer o, .int .i64 n]) ∧ (n = if (begins σ).2 = 0 then (named (begins σ).1 s).2 else (begins σ).2) ∧ (n = 0 → o = some ⟨fb (named (begins σ).1 s).1, 0, none⟩)) :=
  asked_calls' hγ H hn (by have h := names_few hk; have e : (begins σ).1.names = σ.names := (begins_eq σ).2.1; rw [e] at h; omega) s

theorem RAppend_calls (hγ : ∀ a b, γ a = γ b → a = b) (H : RAt w lab γ d σ) (hn : Nums σ) (hk : Ok (begins σ).1) (s : Nm) {o : Option Addr} {k : Nat} {b : List UInt8} {cb : C} (hb : CBy w lab cb o b) (hcb : ¬ SR γ cb) (hbl : b.length ≤ 2 ^ 60) :
    Calls Tryz.prog moraineref1_Disk_Append.n #[.pointer (some ⟨d, 0, none⟩), .string s, .slice o b.length k] w (fun e w' => e = .returned (.int .i64 (Disk.append σ s b).2) ∧ RRes γ d w lab w' (Disk.append σ s b).1) := by
  refine calls_gen fun R hR => moraineref1_Disk_Append.vc _ _ _ _ _ _ _ ?_
  unfold moraineref1_Disk_Append.Vc
  refine (RAsked hγ H hn hk s).mono ?_
  rintro _ w1 ⟨lab1, on, cn, os, cs, om, cm, fb, h, H1, s1, o1, n1, rfl, hn1, ho⟩
  refine ⟨_, _, rfl, fun h0 => hR _ _ ?_, fun h0 => ?_⟩
  · unfold Disk.append
    rw [onFile_bad σ s _ hn1 h0]
    exact ⟨rfl, lab1, H1.at, s1⟩
  · obtain ⟨hf0, hon⟩ := onFile_good σ s (fun d f => Disk.write d f (d.fs f).bytes.length b) hn1 h0
    have hlt := named_file hk hf0
    obtain rfl := ho h0
    obtain ⟨o1, c1, o2, c2, o3, c3, ts, FC⟩ := H1.R.files _ hlt
    simp only [Option.some.injEq, exists_eq_left', add_at, Nat.zero_add]
    refine ⟨_, _, _, FC.cells.blk.rd1 rfl, ?_⟩
    refine (write_calls' hγ H1 hk (names_few hk) (begins_count hn) hlt _ (Nat.le_refl _) (hb.stp s1 hcb) hcb hbl).mono ?_
    rintro _ w2 ⟨rfl, hD⟩
    refine ⟨_, rfl, hR _ _ ?_⟩
    unfold Disk.append
    rw [hon]
    exact ⟨rfl, hD.then s1⟩
theorem RWriteAt_calls (hγ : ∀ a b, γ a = γ b → a = b) (H : RAt w lab γ d σ) (hn : Nums σ) (hk : Ok (begins σ).1) (s : Nm) (a : Int) {o : Option Addr} {k : Nat} {b : List UInt8} {cb : C} (hb : CBy w lab cb o b) (hcb : ¬ SR γ cb) (hbl : b.length ≤ 2 ^ 60) :
    Calls Tryz.prog moraineref1_Disk_WriteAt.n #[.pointer (some ⟨d, 0, none⟩), .string s, .int .i64 a, .slice o b.length k] w (fun e w' => e = .returned (.int .i64 (Disk.writeAt σ s a b).2) ∧ RRes γ d w lab w' (Disk.writeAt σ s a b).1) := by
  refine calls_gen fun R hR => moraineref1_Disk_WriteAt.vc _ _ _ _ _ _ _ _ ?_
  unfold moraineref1_Disk_WriteAt.Vc
  refine (RAsked hγ H hn hk s).mono ?_
  rintro _ w1 ⟨lab1, on, cn, os, cs, om, cm, fb, h, H1, s1, o1, n1, rfl, hn1, ho⟩
  refine ⟨_, _, rfl, fun h0 => hR _ _ ?_, fun h0 => ?_⟩
  · unfold Disk.writeAt
    rw [onFile_bad σ s _ hn1 h0]
    exact ⟨rfl, lab1, H1.at, s1⟩
  · obtain ⟨hf0, hon⟩ := onFile_good σ s (fun d f => if a < 0 ∨ a > (d.fs f).bytes.length then (d, 14) else Disk.write d f a.toNat b) hn1 h0
    have hlt := named_file hk hf0
    obtain rfl := ho h0
    obtain ⟨o1, c1, o2, c2, o3, c3, ts, FC⟩ := H1.R.files _ hlt
    simp only [Option.some.injEq, exists_eq_left', add_at, Nat.zero_add]
    have bad : (a < 0 ∨ a > ((begins σ).1.fs (named (begins σ).1 s).1).bytes.length) → R (.returned (.int .i64 14)) w1 := fun h => by
      refine hR _ _ ?_
      unfold Disk.writeAt
      rw [hon, if_pos h]
      exact ⟨rfl, lab1, H1.at, s1⟩
    refine ⟨fun h1 => bad (.inl h1), fun h1 => ⟨_, _, _, FC.cells.blk.rd1 rfl, fun h2 => bad (.inr h2), fun h2 => ?_⟩⟩
    obtain ⟨A, rfl⟩ : ∃ A : Nat, a = (A : Int) := ⟨a.toNat, by omega⟩
    refine (write_calls' hγ H1 hk (names_few hk) (begins_count hn) hlt A (by omega) (hb.stp s1 hcb) hcb hbl).mono ?_
    rintro _ w2 ⟨rfl, hD⟩
    refine ⟨_, rfl, hR _ _ ?_⟩
    unfold Disk.writeAt
    rw [hon, if_neg (by omega), Int.toNat_natCast]
    exact ⟨rfl, hD.then s1⟩

theorem RSync_calls (hγ : ∀ a b, γ a = γ b → a = b) (H : RAt w lab γ d σ) (hn : Nums σ) (hk : Ok (begins σ).1) (s : Nm) :
    Calls Tryz.prog moraineref1_Disk_Sync.n #[.pointer (some ⟨d, 0, none⟩), .string s] w (fun e w' => e = .returned (.int .i64 (Disk.sync σ s).2) ∧ RRes γ d w lab w' (Disk.sync σ s).1) := by
  refine calls_gen fun R hR => moraineref1_Disk_Sync.vc _ _ _ _ ?_
  unfold moraineref1_Disk_Sync.Vc
  refine (RAsked hγ H hn hk s).mono ?_
  rintro _ w1 ⟨lab1, on, cn, os, cs, om, cm, fb, h, H1, s1, o1, n1, rfl, hn1, ho⟩
  refine ⟨_, _, rfl, fun h0 => hR _ _ ?_, fun h0 => ?_⟩
  · unfold Disk.sync
    rw [onFile_bad σ s _ hn1 h0]
    exact ⟨rfl, lab1, H1.at, s1⟩
  · obtain ⟨hf0, hon⟩ := onFile_good σ s (fun d f => (setF d f { d.fs f with sure := (d.fs f).bytes, pend := [] }, (0 : Int))) hn1 h0
    have hlt := named_file hk hf0
    obtain rfl := ho h0
    have hsz := (hk.size _ hlt).2
    simp only [most] at hsz
    generalize (named (begins σ).1 s).1 = n at *
    have hR' : ∀ w', RRes γ d w lab w' (setF (begins σ).1 n { (begins σ).1.fs n with sure := ((begins σ).1.fs n).bytes, pend := [] }) → R (.returned (.int .i64 0)) w' := fun w' h => by
      refine hR _ _ ?_
      unfold Disk.sync
      rw [hon]
      exact ⟨rfl, h⟩
    generalize (begins σ).1 = τ at *
    obtain ⟨o1, c1, o2, c2, o3, c3, ts, FC⟩ := H1.R.files _ hlt
    obtain ⟨f1, f2, f3, f4, f5, f6⟩ := FC
    simp only [Option.some.injEq, exists_eq_left', add_at, Nat.zero_add]
    refine ⟨_, _, _, f1.blk.rd1 rfl, ?_⟩
    obtain ⟨o11, k11, w11, hr11, F11⟩ := copy_bytes' (k2 := c1) (ty := tSlU8) (Mod.refl w1) f3.rd (by omega)
    refine ⟨_, w11, hr11, _, _, _, rfl, ?_⟩
    obtain ⟨C11, s11⟩ := F11.done (lab := lab1) (γ .froz)
    replace C11 := C11.bytes
    replace f1 := f1.stp s11 (fun h => h)
    replace f3 := f3.stp s11 (fun h => h)
    have s0 : Stp (TF γ n) w1 lab1 w11 (ext lab1 w1.heap.size (γ .froz)) := s11.mono (fun _ h => h.elim)
    generalize ext lab1 w1.heap.size (γ .froz) = lab11 at *
    refine ⟨f1.blk.canSet (by simp) rfl, ?_⟩
    rintro _ rfl
    obtain ⟨g1, s12⟩ := rset f1 s0 (.inl rfl) 2 (.slice o11 (τ.fs n).bytes.length k11) rfl
    refine ⟨g1.blk.canSet (by simp) rfl, ?_⟩
    rintro _ rfl
    obtain ⟨g2, s13⟩ := rset g1 s12 (.inl rfl) 3 (.slice none 0 0) rfl
    have nF : ∀ {x : RC}, x ≠ .file n → ¬ γ x = γ (.file n) := fun h e => h (hγ _ _ e)
    have t1 := rset f1 (Stp.refl (· = γ (.file n)) w11 lab11) rfl 2 (.slice o11 (τ.fs n).bytes.length k11) rfl
    have t2 := rset g1 t1.2 rfl 3 (.slice none 0 0) rfl
    replace f3 := f3.stp t2.2 (nF (by simp))
    replace C11 := C11.stp t2.2 (nF (by simp))
    refine hR' _ (RRes.then s1 ⟨lab11, (H1.putF hγ s13 ?_).at, s13.mono TF.sr⟩)
    exact ⟨o1, c1, o11, k11, none, 0, [], g2, f2, f3, C11, COw.nil _ _ _ _ _, Pgs.nil⟩
theorem RTruncate_calls (hγ : ∀ a b, γ a = γ b → a = b) (H : RAt w lab γ d σ) (hn : Nums σ) (hk : Ok (begins σ).1) (s : Nm) (a : Int) :
    Calls Tryz.prog moraineref1_Disk_Truncate.n #[.pointer (some ⟨d, 0, none⟩), .string s, .int .i64 a] w (fun e w' => e = .returned (.int .i64 (Disk.truncate σ s a).2) ∧ RRes γ d w lab w' (Disk.truncate σ s a).1) := by
  refine calls_gen fun R hR => moraineref1_Disk_Truncate.vc _ _ _ _ _ ?_
  unfold moraineref1_Disk_Truncate.Vc
  refine (RAsked hγ H hn hk s).mono ?_
  rintro _ w1 ⟨lab1, on, cn, os, cs, om, cm, fb, h, H1, s1, o1, n1, rfl, hn1, ho⟩
  refine ⟨_, _, rfl, fun h0 => hR _ _ ?_, fun h0 => ?_⟩
  · unfold Disk.truncate
    rw [onFile_bad σ s _ hn1 h0]
    exact ⟨rfl, lab1, H1.at, s1⟩
  · obtain ⟨hf0, hon⟩ := onFile_good σ s (fun d f => if a < 0 ∨ a > (d.fs f).bytes.length then (d, (14 : Int)) else if a < (d.fs f).bytes.length then (setF d f { d.fs f with bytes := (d.fs f).bytes.take a.toNat, pend := (d.fs f).pend ++ [.cut a.toNat] }, 0) else (d, 0)) hn1 h0
    have hlt := named_file hk hf0
    obtain rfl := ho h0
    have hsz := (hk.size _ hlt).2
    have hpl := hk.pends _ hlt
    have hct := begins_count hn
    simp only [most] at hsz
    generalize (named (begins σ).1 s).1 = n at *
    have hR' : ∀ w' (r : Dk × Int), r = (if a < 0 ∨ a > ((begins σ).1.fs n).bytes.length then ((begins σ).1, (14 : Int)) else if a < ((begins σ).1.fs n).bytes.length then (setF (begins σ).1 n { (begins σ).1.fs n with bytes := ((begins σ).1.fs n).bytes.take a.toNat, pend := ((begins σ).1.fs n).pend ++ [.cut a.toNat] }, 0) else ((begins σ).1, 0)) →
        RRes γ d w lab w' r.1 → R (.returned (.int .i64 r.2)) w' := fun w' r hr h => by
      subst hr
      refine hR _ _ ?_
      unfold Disk.truncate
      rw [hon]
      exact ⟨rfl, h⟩
    generalize (begins σ).1 = τ at *
    obtain ⟨o1, c1, o2, c2, o3, c3, ts, FC⟩ := H1.R.files _ hlt
    obtain ⟨f1, f2, f3, f4, f5, f6⟩ := FC
    simp only [Option.some.injEq, exists_eq_left', add_at, Nat.zero_add]
    refine ⟨fun h1 => hR' w1 (τ, 14) (by rw [if_pos (.inl h1)]) ⟨lab1, H1.at, s1⟩, fun h1 => ⟨_, _, _, f1.blk.rd1 rfl, fun h2 => hR' w1 (τ, 14) (by rw [if_pos (.inr h2)]) ⟨lab1, H1.at, s1⟩, fun h2 =>
      ⟨_, _, _, f1.blk.rd1 rfl, fun h3 => ?_, fun h3 => hR' w1 (τ, 0) (by rw [if_neg (by omega), if_neg h3]) ⟨lab1, H1.at, s1⟩⟩⟩⟩
    obtain ⟨A, rfl⟩ : ∃ A : Nat, a = (A : Int) := ⟨a.toNat, by omega⟩
    rw [if_neg (by omega), if_pos h3] at hR'
    rw [Int.toNat_natCast] at *
    refine ⟨_, _, _, f1.blk.rd1 rfl, by omega, ?_⟩
    have hlA : ((τ.fs n).bytes.take A).length = A := by rw [List.length_take]; omega
    obtain ⟨o11, k11, w11, hr11, F11⟩ := copy_bytes' (k2 := c1) (ty := tSlU8) (Mod.refl w1) (f3.rd.take A) (by omega)
    rw [hlA] at hr11 F11
    refine ⟨_, w11, hr11, _, _, _, rfl, ?_⟩
    have hk11 := F11.own.cap.1
    obtain ⟨C11, s11⟩ := F11.done (lab := lab1) (γ .froz)
    replace C11 := C11.bytes
    have nF : ∀ {x : RC}, x ≠ .file n → ¬ γ x = γ (.file n) := fun h e => h (hγ _ _ e)
    have nP : ∀ {x : RC}, x ≠ .pend n → ¬ γ x = γ (.pend n) := fun h e => h (hγ _ _ e)
    replace f1 := f1.stp s11 (fun h => h)
    replace f4 := f4.stp s11 (fun h => h)
    replace f5 := f5.stp s11 (fun h => h)
    replace f6 := f6.stp s11 (fun h => h)
    have s0 : Stp (TF γ n) w1 lab1 w11 (ext lab1 w1.heap.size (γ .froz)) := s11.mono (fun _ h => h.elim)
    generalize ext lab1 w1.heap.size (γ .froz) = lab11 at *
    refine ⟨f1.blk.canSet (by simp) rfl, ?_⟩
    rintro _ rfl
    obtain ⟨g1, t1⟩ := rset f1 (Stp.refl (· = γ (.file n)) w11 lab11) rfl 1 (.slice o11 A k11) rfl
    replace f4 := f4.stp t1 (nF (by simp))
    replace f5 := f5.stp t1 (nF (by simp))
    replace f6 := f6.stp t1 (nF (by simp))
    replace C11 := C11.stp t1 (nF (by simp))
    replace s0 := s0.trans (t1.mono (T := TF γ n) (fun c h => .inl h))
    generalize w11.setCell ⟨fb n, 1, none⟩ (.slice o11 A k11) = w25 at *
    refine ⟨_, _, _, g1.blk.rd1 rfl, ?_⟩
    rintro d30 w31 ⟨rfl, rfl⟩
    have X := Blk.new w25 tCg #[.int .i64 (-1), .slice none 0 0, .int .i64 (A : Int)]
    have s31 : Stp NoC w25 lab11 (w25.alloc (.cells #[.int .i64 (-1), .slice none 0 0, .int .i64 (A : Int)] tCg)) (ext lab11 w25.heap.size (γ .froz)) := Stp.alloc _ _ _ _ _
    replace g1 := g1.stp s31 (fun h => h)
    replace f4 := f4.stp s31 (fun h => h)
    replace f5 := f5.stp s31 (fun h => h)
    replace f6 := f6.stp s31 (fun h => h)
    replace C11 := C11.stp s31 (fun h => h)
    replace s0 := s0.trans (s31.mono (T := TF γ n) (fun _ h => h.elim))
    change ∃ v w35, Sem.run Tryz.prog _ (w25.alloc (.cells #[.int .i64 (-1), .slice none 0 0, .int .i64 (A : Int)] tCg)) = _ ∧ _
    generalize w25.alloc (.cells #[.int .i64 (-1), .slice none 0 0, .int .i64 (A : Int)] tCg) = w31 at *
    generalize ext lab11 w25.heap.size (γ .froz) = lab31 at *
    obtain ⟨o35, k35, w35, hr35, p35, s35⟩ := push_cg (n := 0) f5 (t := (.int .i64 (-1), .slice none 0 0, .int .i64 (A : Int))) X ⟨rfl, rfl, rfl⟩ (by omega)
    refine ⟨_, w35, hr35, _, _, _, rfl, ?_⟩
    replace g1 := g1.stp s35 (nP (by simp))
    replace f4 := f4.stp s35 (nP (by simp))
    replace f6 := f6.stp s35 (nP (by simp))
    replace C11 := C11.stp s35 (nP (by simp))
    replace s0 := s0.trans (s35.mono (T := TF γ n) (fun c h => .inr h))
    generalize ext lab31 w31.heap.size (γ (.pend n)) = lab35 at *
    refine ⟨g1.blk.canSet (by simp) rfl, ?_⟩
    rintro _ rfl
    obtain ⟨g2, s39⟩ := rset g1 (Stp.refl (· = γ (.file n)) w35 lab35) rfl 3 (.slice o35 ((τ.fs n).pend.length + 1) k35) rfl
    replace f4 := f4.stp s39 (nF (by simp))
    replace f6 := f6.stp s39 (nF (by simp))
    replace p35 := p35.stp s39 (nF (by simp))
    replace C11 := C11.stp s39 (nF (by simp))
    replace s0 := s0.trans (s39.mono (T := TF γ n) (fun c h => .inl h))
    refine hR' _ _ rfl (RRes.then s1 ⟨lab35, (H1.putF hγ s0 ?_).at, s0.mono TF.sr⟩)
    have e2 : ((τ.fs n).pend ++ [Pt.cut A]).length = (τ.fs n).pend.length + 1 := by simp
    refine ⟨o11, k11, o2, c2, o35, k35, ts ++ [(.int .i64 (-1), .slice none 0 0, .int .i64 (A : Int))], ?_, ?_, C11, f4, ?_, f6.snoc (p := .cut A) (by unfold PgV; rfl)⟩
    · simp only [e2, hlA]; exact g2
    · simp only [hlA]; exact hk11
    · simp only [e2]; exact p35
end
end Go.Proofs.YtkekehngillblaaGreat
end

section
set_option linter.unusedVariables false
set_option linter.unusedSimpArgs false
namespace Go.Proofs.YtkekehngillblaaGreat
open Go Go.Vcg Go.Disk
section
variable {C : Type} {w w' : World} {lab lab' : Nat → C} {c : C} {γ : RC → C} {d : Nat} {σ τ : Dk}
variable {on os om : Option Addr} {cn cs cm : Nat} {fb : Nat → Nat} {h : Int}

/-- The colours of a change of names. -/
def TM (γ : RC → C) (c : C) : Prop := c = γ .disk ∨ c = γ .moves
theorem TM.sr : ∀ c, TM γ c → SR γ c := fun c h => by rcases h with rfl | rfl <;> exact SR.of (by simp)
theorem TM.ne (hγ : ∀ a b, γ a = γ b → a = b) {x : RC} (h1 : x ≠ .disk) (h2 : x ≠ .moves) : ¬ TM γ (γ x) := by
  rintro (h | h)
  · exact h1 (hγ _ _ h)
  · exact h2 (hγ _ _ h)
theorem RIn.moved (hγ : ∀ a b, γ a = γ b → a = b) (H : RIn w lab γ d τ on cn os cs om cm fb h) (ch : Chg) (s : Stp (TM γ) w lab w' lab') {on' om' : Option Addr} {cn' cm' : Nat}
    (B : CB w' lab' (γ .disk) d tRDisk (rdiskA τ.cap on' (ch.on τ.names).length cn' os τ.sure.length cs om' (τ.pend.length + 1) cm' τ.files τ.count τ.fail h τ.down))
    (hn : CRow w' lab' (γ .now) on' (nmC fb (ch.on τ.names))) (hc : (ch.on τ.names).length ≤ cn')
    (hm : COw w' lab' (γ .moves) tMv 3 om' (τ.pend.length + 1) cm' (cells3 ((τ.pend ++ [ch]).map (mvT fb)))) : RIn w' lab' γ d (Disk.does τ ch) on' cn' os cs om' cm' fb h := by
  have ne : ∀ {x : RC}, x ≠ .disk → x ≠ .moves → ¬ TM γ (γ x) := TM.ne hγ
  have e : (τ.pend ++ [ch]).length = τ.pend.length + 1 := by simp
  refine ⟨H.halt, ?_, ⟨hc, hn, H.R.sure.stp s (ne (by simp) (by simp)), ?_, fun n hn => (H.R.files n hn).stp s (ne (by simp) (by simp)) (ne (by simp) (by simp)) (ne (by simp) (by simp))⟩⟩
  · simp only [Disk.does, e]; exact B
  · simp only [Disk.does, e]; exact hm
/-- One more change of names. -/
theorem push_mv {o : Option Addr} {l k : Nat} {ts : List (Value × Value × Value)} {t : Value × Value × Value} (h : COw w lab c tMv 3 o l k (cells3 ts)) {b ty : Nat} (B : Blk w b ty #[t.1, t.2.1, t.2.2]) (h1 : t.1.oneCell' = true ∧ t.2.1.oneCell' = true ∧ t.2.2.oneCell' = true) (hl : l < 2 ^ 40) :
    ∃ o' c' w', Sem.run Tryz.prog (builtinV .append #[tSlMv, tSlMv] tSlMv #[.slice o l k, .slice (some ⟨b, 0, none⟩) 1 1]) w = .ok (.slice o' (l + 1) c') w' ∧ COw w' (ext lab w.heap.size c) c tMv 3 o' (l + 1) c' (cells3 (ts ++ [t])) ∧ Stp (· = c) w lab w' (ext lab w.heap.size c) := by
  obtain ⟨i, hi, hz, hs, hb⟩ := info_of info_mv
  rw [cells3_append]
  exact h.append und_slMv hi hz hs rfl (src_one und_slMv B rfl (by simp [h1])) (by simp only [maxLen]; omega) (by rw [hb]; omega)
theorem RRes.of_in {σ' : Dk} {w'' : World} (H : RIn w' lab' γ d σ' on cn os cs om cm fb h) (s : Stp (SR γ) w lab w' lab') : RRes γ d w lab w' σ' := ⟨lab', H.at, s⟩

theorem RSyncDir_calls (hγ : ∀ a b, γ a = γ b → a = b) (H : RAt w lab γ d σ) (hn : Nums σ) (hk : Ok (begins σ).1) :
    Calls Tryz.prog moraineref1_Disk_SyncDir.n #[.pointer (some ⟨d, 0, none⟩)] w (fun e w' => e = .returned (.int .i64 (Disk.syncDir σ).2) ∧ RRes γ d w lab w' (Disk.syncDir σ).1) := by
  refine calls_gen fun R hR => moraineref1_Disk_SyncDir.vc _ _ _ ?_
  unfold moraineref1_Disk_SyncDir.Vc
  refine (call_calls hγ H hn).mono ?_
  rintro _ w1 ⟨rfl, lab1, H1, s1⟩
  refine ⟨_, rfl, fun h0 => hR _ _ (by unfold Disk.syncDir; rw [if_neg h0]; exact ⟨rfl, lab1, H1, s1⟩), fun h0 => ?_⟩
  have hR' : ∀ w', RRes γ d w lab w' { (begins σ).1 with sure := (begins σ).1.names, pend := [] } → R (.returned (.int .i64 0)) w' := fun w' h => hR _ _ (by unfold Disk.syncDir; rw [if_pos h0]; exact ⟨rfl, h⟩)
  have hnl := names_few hk
  generalize (begins σ).1 = τ at *
  obtain ⟨on, cn, os, cs, om, cm, fb, h, H1⟩ := H1.in
  simp only [add_at, Nat.zero_add]
  refine ⟨_, _, _, H1.B.blk.rd1 rfl, ?_⟩
  obtain ⟨i, hi, hz, hs, hb⟩ := info_of info_nm
  obtain ⟨o8, k8, w8, hr8, F8⟩ := (Fresh.nil (Mod.refl w1) tNm 2).push (ty := 51) und_slNm hi hz hs rfl (H1.R.names.src und_slNm (nmC_len fb τ.names) (nmC_one fb τ.names) cn (by omega)) (by simp only [maxLen]; omega) (by rw [hb]; omega)
  rw [Nat.zero_add, List.nil_append] at F8
  rw [Nat.zero_add] at hr8
  refine ⟨_, w8, hr8, _, _, _, rfl, ?_⟩
  obtain ⟨C8, s8⟩ := F8.done (lab := lab1) (γ .froz)
  have H8 := H1.stp s8 (fun _ h => h)
  replace C8 := C8.row
  have s0 := s1.trans (s8.mono (T := SR γ) (fun _ h => h.elim))
  generalize ext lab1 w1.heap.size (γ .froz) = lab8 at *
  refine ⟨H8.B.blk.canSet (by simp [rdiskA]) rfl, ?_⟩
  rintro _ rfl
  obtain ⟨B9, t9⟩ := rset H8.B (Stp.refl (· = γ .disk) w8 lab8) rfl 2 (.slice o8 τ.names.length k8) (cs' := rdiskA τ.cap on τ.names.length cn o8 τ.names.length k8 om τ.pend.length cm τ.files τ.count τ.fail h τ.down) rfl
  refine ⟨B9.blk.canSet (by simp [rdiskA]) rfl, ?_⟩
  rintro _ rfl
  obtain ⟨B10, t10⟩ := rset B9 t9 rfl 3 (.slice none 0 0) (cs' := rdiskA τ.cap on τ.names.length cn o8 τ.names.length k8 none 0 0 τ.files τ.count τ.fail h τ.down) rfl
  have nd : ∀ {x : RC}, x ≠ .disk → ¬ γ x = γ .disk := fun h e => h (hγ _ _ e)
  refine hR' _ ⟨lab8, ⟨on, cn, o8, k8, none, 0, fb, h, H8.halt, B10, ⟨H8.R.ncap, H8.R.names.stp t10 (nd (by simp)), C8.stp t10 (nd (by simp)), COw.nil _ _ _ _ _, fun n hn => (H8.R.files n hn).stp t10 (nd (by simp)) (nd (by simp)) (nd (by simp))⟩⟩, s0.trans (t10.mono (fun c e => e ▸ SR.of (by simp)))⟩

theorem RNew_calls (w : World) (lab : Nat → C) (γ : RC → C) (cap : Int) :
    Calls Tryz.prog moraineref1_New.n #[.int .i64 cap] w (fun e w' => ∃ d lab', e = .returned (.pointer (some ⟨d, 0, none⟩)) ∧ RAt w' lab' γ d (Disk.new cap) ∧ Stp NoC w lab w' lab') := by
  refine moraineref1_New.vc _ _ _ ?_
  unfold moraineref1_New.Vc
  rintro d w1 ⟨rfl, rfl⟩
  refine ⟨_, _, rfl, ⟨none, 0, none, 0, none, 0, fun _ => 0, -1, ⟨by omega, fun _ => rfl⟩, CB.new w lab (γ .disk) tRDisk (rdiskA cap none 0 0 none 0 0 none 0 0 0 0 0 (-1) false), ⟨Nat.le_refl _, CRow.nil _ _ _ _, CRow.nil _ _ _ _, COw.nil _ _ _ _ _, fun n hn => absurd hn (Nat.not_lt_zero _)⟩⟩, Stp.alloc _ _ _ _ _⟩

/-- What follows behind a move's own block D: the names change, the move is kept. -/
def MoveTail (d D : Nat) (w23 : World) (R : Ending → World → Prop) : Prop :=
  ∃ o24 : Option Addr, ∃ l25 : Nat, ∃ l26 : Nat, World.cell? w23 ⟨d, 1, none⟩ = some (.slice o24 l25 l26) ∧
  ∃ s27 : ByteArray, ∃ s28 : ByteArray, ∃ o29 : Option Addr, World.cell? w23 ⟨D, 0, none⟩ = some (.string s27) ∧
  World.cell? w23 ⟨D, 1, none⟩ = some (.string s28) ∧
  World.cell? w23 ⟨D, 2, none⟩ = some (.pointer o29) ∧
  Calls Tryz.prog 49 #[(.slice o24 l25 l26), (.agg #[(.string s27), (.string s28), (.pointer o29)])] w23 (fun e30 w31 =>
    ∃ o32 : Option Addr, ∃ l33 : Nat, ∃ l34 : Nat, e30 = .returned (.slice o32 l33 l34) ∧
    CanSet w31 ⟨d, 1, none⟩ (.slice o32 l33 l34) ∧ ∀ w35 : World, IsSet w31 ⟨d, 1, none⟩ (.slice o32 l33 l34) w35 →
    ∀ w36 : World, IsDrew w35 w36 →
    ∃ o37 : Option Addr, ∃ l38 : Nat, ∃ l39 : Nat, World.cell? w36 ⟨d, 3, none⟩ = some (.slice o37 l38 l39) ∧
    ∃ s40 : ByteArray, ∃ s41 : ByteArray, ∃ o42 : Option Addr, World.cell? w36 ⟨D, 0, none⟩ = some (.string s40) ∧
    World.cell? w36 ⟨D, 1, none⟩ = some (.string s41) ∧
    World.cell? w36 ⟨D, 2, none⟩ = some (.pointer o42) ∧
    ∀ (d43 : Addr) (w44 : World), IsNew w36 90 #[(.string s40), (.string s41), (.pointer o42)] d43 w44 →
    World.cell? w44 ⟨d, 3, none⟩ = some (.slice o37 l38 l39) ∧
    ∃ (v45 : Value) (w46 : World), Sem.run Tryz.prog (builtinV .append #[52, 52] 52 #[(.slice o37 l38 l39), (.slice (some d43) 1 1)]) w44 = .ok v45 w46 ∧
    ∃ o47 : Option Addr, ∃ l48 : Nat, ∃ l49 : Nat, v45 = (.slice o47 l48 l49) ∧
    CanSet w46 ⟨d, 3, none⟩ (.slice o47 l48 l49) ∧ ∀ w50 : World, IsSet w46 ⟨d, 3, none⟩ (.slice o47 l48 l49) w50 →
    R (.returned (.int .i64 0)) w50)
theorem move_tail (hγ : ∀ a b, γ a = γ b → a = b) (H : RIn w lab γ d τ on cn os cs om cm fb h) (hl : τ.names.length ≤ 1048576) (hp : τ.pend.length < 2 ^ 40) {D : Nat} (ch : Chg) (hb : ∀ a b, ch = .ren a b → b ≠ ⟨#[]⟩)
    {s1 s2 : Nm} {o3 : Option Addr} (hmv : mvT fb ch = (.string s1, .string s2, .pointer o3)) (X : CB w lab (γ .froz) D 90 #[.string s1, .string s2, .pointer o3]) {R : Ending → World → Prop}
    (hR : ∀ w', RRes γ d w lab w' (Disk.does τ ch) → R (.returned (.int .i64 0)) w') : MoveTail d D w R := by
  unfold MoveTail
  refine ⟨_, _, _, H.B.blk.rd1 rfl, _, _, _, X.blk.rd1 rfl, X.blk.rd1 rfl, X.blk.rd1 rfl, ?_⟩
  have hd := done_calls H.R.names (by omega) H.R.ncap ch hb
  rw [hmv] at hd
  refine hd.mono ?_
  rintro _ w7 ⟨o7, k7, rfl, hk7, M7, C7⟩
  refine ⟨_, _, _, rfl, ?_⟩
  have s7 : Stp NoC w lab w7 (ext lab w.heap.size (γ .now)) := Stp.of_nob M7 _
  have H7 := H.stp s7 (fun _ h => h)
  replace X := X.stp s7 (fun h => h)
  have s0 := s7.mono (T := SR γ) (fun _ h => h.elim)
  generalize ext lab w.heap.size (γ .now) = lab7 at *
  have nf : ¬ TM γ (γ .froz) := TM.ne hγ (by simp) (by simp)
  have nd : ∀ {x : RC}, x ≠ .disk → ¬ γ x = γ .disk := fun h e => h (hγ _ _ e)
  have nm : ∀ {x : RC}, x ≠ .moves → ¬ γ x = γ .moves := fun h e => h (hγ _ _ e)
  refine ⟨H7.B.blk.canSet (by simp [rdiskA]) rfl, ?_⟩
  rintro _ rfl
  obtain ⟨B8, t8⟩ := rset H7.B (Stp.refl (· = γ .disk) w7 lab7) rfl 1 (.slice o7 (ch.on τ.names).length k7) (cs' := rdiskA τ.cap o7 (ch.on τ.names).length k7 os τ.sure.length cs om τ.pend.length cm τ.files τ.count τ.fail h τ.down) rfl
  generalize w7.setCell ⟨d, 1, none⟩ (.slice o7 (ch.on τ.names).length k7) = w8 at *
  rintro _ rfl
  have sD : Stp NoC w8 lab7 w8.drew lab7 := Stp.drew _ _ _
  replace B8 := B8.stp sD (fun h => h)
  replace t8 := t8.trans (sD.mono (T := (· = γ .disk)) (fun _ h => h.elim))
  generalize w8.drew = w9 at *
  replace X := X.stp t8 (nd (by simp))
  have P := H7.R.pend.stp t8 (nd (by simp))
  replace C7 := C7.stp t8 (nd (by simp))
  replace t8 := t8.mono (T := TM γ) (fun c h => .inl h)
  refine ⟨_, _, _, B8.blk.rd1 rfl, _, _, _, X.blk.rd1 rfl, X.blk.rd1 rfl, X.blk.rd1 rfl, ?_⟩
  rintro d43 w10 ⟨rfl, rfl⟩
  have Y := Blk.new w9 90 #[.string s1, .string s2, .pointer o3]
  have s10 : Stp NoC w9 lab7 (w9.alloc (.cells #[.string s1, .string s2, .pointer o3] 90)) (ext lab7 w9.heap.size (γ .froz)) := Stp.alloc _ _ _ _ _
  replace B8 := B8.stp s10 (fun h => h)
  replace P := P.stp s10 (fun h => h)
  replace C7 := C7.stp s10 (fun h => h)
  replace t8 := t8.trans (s10.mono (T := TM γ) (fun _ h => h.elim))
  refine ⟨B8.blk.rd1 rfl, ?_⟩
  change ∃ v w46, Sem.run Tryz.prog _ (w9.alloc (.cells #[.string s1, .string s2, .pointer o3] 90)) = _ ∧ _
  generalize w9.alloc (.cells #[.string s1, .string s2, .pointer o3] 90) = w10 at *
  generalize ext lab7 w9.heap.size (γ .froz) = lab10 at *
  obtain ⟨o11, k11, w11, hr11, P11, s11⟩ := push_mv P (t := (.string s1, .string s2, .pointer o3)) Y ⟨rfl, rfl, rfl⟩ hp
  refine ⟨_, w11, hr11, _, _, _, rfl, ?_⟩
  replace B8 := B8.stp s11 (nm (by simp))
  replace C7 := C7.stp s11 (nm (by simp))
  replace t8 := t8.trans (s11.mono (T := TM γ) (fun c h => .inr h))
  generalize ext lab10 w10.heap.size (γ .moves) = lab11 at *
  refine ⟨B8.blk.canSet (by simp [rdiskA]) rfl, ?_⟩
  rintro _ rfl
  obtain ⟨B12, t12⟩ := rset B8 (Stp.refl (· = γ .disk) w11 lab11) rfl 3 (.slice o11 (τ.pend.length + 1) k11) (cs' := rdiskA τ.cap o7 (ch.on τ.names).length k7 os τ.sure.length cs o11 (τ.pend.length + 1) k11 τ.files τ.count τ.fail h τ.down) rfl
  replace P11 := P11.stp t12 (nd (by simp))
  replace C7 := C7.stp t12 (nd (by simp))
  replace t8 := t8.trans (t12.mono (T := TM γ) (fun c h => .inl h))
  refine hR _ ⟨lab11, (H7.moved hγ ch t8 B12 C7 hk7 ?_).at, s0.trans (t8.mono TM.sr)⟩
  rw [List.map_append, List.map_cons, List.map_nil, hmv]
  exact P11
theorem move_block {lab1 : Nat → C} {w1 : World} (H : RIn w1 lab1 γ d τ on cn os cs om cm fb h) (a b : Nm) {G : World → Prop}
    (hG : ∀ w' lab' D, RIn w' lab' γ d τ on cn os cs om cm fb h → Stp NoC w1 lab1 w' lab' → CB w' lab' (γ .froz) D 90 #[.string a, .string b, .pointer none] → D = w1.heap.size → G w') :
    G ((((w1.alloc (.cells #[.string ⟨#[]⟩, .string ⟨#[]⟩, .pointer none] 90)).setCell ⟨w1.heap.size, 0, none⟩ (.string a)).setCell ⟨w1.heap.size, 1, none⟩ (.string b)).setCell ⟨w1.heap.size, 2, none⟩ (.pointer none)).drew := by
  have X0 := Blk.new w1 90 #[.string ⟨#[]⟩, .string ⟨#[]⟩, .pointer none]
  have M0 : Vcg.Mod NoB w1 (w1.alloc (.cells #[.string ⟨#[]⟩, .string ⟨#[]⟩, .pointer none] 90)) := Mod.alloc _ _
  have X1 := X0.set 0 (.string a)
  have M1 := M0.step_set (a := ⟨w1.heap.size, 0, none⟩) (v := .string a) (fun h => (Nat.lt_irrefl _ h).elim)
  have X2 := X1.set 1 (.string b)
  have M2 := M1.step_set (a := ⟨w1.heap.size, 1, none⟩) (v := .string b) (fun h => (Nat.lt_irrefl _ h).elim)
  have X3 := X2.set 2 (.pointer none)
  have M3 := M2.step_set (a := ⟨w1.heap.size, 2, none⟩) (v := .pointer none) (fun h => (Nat.lt_irrefl _ h).elim)
  have X4 := X3.mod' (Mod.drew (S := NoB) _)
  have M4 := M3.step_drew
  have s6 : Stp NoC w1 lab1 _ (ext lab1 w1.heap.size (γ .froz)) := Stp.of_nob M4 _
  exact hG _ _ _ (H.stp s6 (fun _ h => h)) s6 ⟨X4, ext_new (Nat.le_refl _)⟩ rfl

theorem RRename_calls (hγ : ∀ a b, γ a = γ b → a = b) (H : RAt w lab γ d σ) (hn : Nums σ) (hk : Ok (begins σ).1) (a b : Nm) :
    Calls Tryz.prog moraineref1_Disk_Rename.n #[.pointer (some ⟨d, 0, none⟩), .string a, .string b] w (fun e w' => e = .returned (.int .i64 (Disk.rename σ a b).2) ∧ RRes γ d w lab w' (Disk.rename σ a b).1) := by
  refine calls_gen fun R hR => moraineref1_Disk_Rename.vc _ _ _ _ _ ?_
  unfold moraineref1_Disk_Rename.Vc
  refine (call_calls hγ H hn).mono ?_
  rintro _ w1 ⟨rfl, lab1, H1, s1⟩
  have hct := begins_count hn
  refine ⟨_, rfl, fun h0 => hR _ _ (by unfold Disk.rename; rw [if_neg h0]; exact ⟨rfl, lab1, H1, s1⟩), fun h0 => ?_⟩
  have hR' : ∀ w' (r : Dk × Int), r = (if right a && right b then match assoc a (begins σ).1.names with | some _ => (if a = b then (begins σ).1 else Disk.does (begins σ).1 (.ren a b), (0 : Int)) | none => ((begins σ).1, 13) else ((begins σ).1, 11)) → RRes γ d w lab w' r.1 → R (.returned (.int .i64 r.2)) w' := fun w' r hr h => by
    subst hr
    refine hR _ _ ?_
    unfold Disk.rename; rw [if_pos h0]; exact ⟨rfl, h⟩
  have hnl := names_few hk
  have hpe := hk.pend
  generalize (begins σ).1 = τ at *
  obtain ⟨on, cn, os, cs, om, cm, fb, h, H1⟩ := H1.in
  refine (Name_calls w1 a).mono ?_
  rintro _ w1 ⟨rfl, rfl⟩
  refine ⟨_, rfl, fun hr => hR' _ (τ, 11) (by rw [hr]; rfl) ⟨lab1, H1.at, s1⟩, fun hra => ?_⟩
  refine (Name_calls w1 b).mono ?_
  rintro _ w1 ⟨rfl, rfl⟩
  refine ⟨_, rfl, fun hr => hR' _ (τ, 11) (by rw [hr, Bool.and_false]; rfl) ⟨lab1, H1.at, s1⟩, fun hrb => ?_⟩
  simp only [add_at, Nat.zero_add]
  refine ⟨_, _, _, H1.B.blk.rd1 rfl, ?_⟩
  refine (find_calls (k := cn) H1.R.names (by omega) a).mono ?_
  rintro _ w1 ⟨rfl, i, rfl, hF⟩
  refine ⟨_, rfl, fun hn => ?_, fun hn => ?_⟩
  · rcases hF with ⟨_, ha⟩ | ⟨j, x, rfl, _⟩
    · exact hR' _ (τ, 13) (by rw [hra, hrb]; simp only [ha]; rfl) ⟨lab1, H1.at, s1⟩
    · omega
  · rcases hF with ⟨rfl, _⟩ | ⟨j, x, rfl, hj, hx, ha, hxs⟩
    · omega
    rw [strB_neq]
    refine ⟨fun hne => ?_, fun he => ?_⟩
    · have hne' : a ≠ b := of_decide_eq_true hne
      rintro d18 w19 ⟨rfl, rfl⟩
      have X0 := Blk.new w1 90 #[.string ⟨#[]⟩, .string ⟨#[]⟩, .pointer none]
      refine ⟨X0.canSet (by simp) rfl, ?_⟩
      rintro _ rfl
      refine ⟨(X0.set 0 (.string a)).canSet (by simp) rfl, ?_⟩
      rintro _ rfl
      refine ⟨((X0.set 0 (.string a)).set 1 (.string b)).canSet (by simp) rfl, ?_⟩
      rintro _ rfl
      rintro _ rfl
      refine move_block H1 a b (G := fun w' => MoveTail d w1.heap.size w' R) ?_
      rintro w6 lab6 D H6 s6 X6 rfl
      have hb0 : ∀ a' b' : Nm, Chg.ren a b = .ren a' b' → b' ≠ ⟨#[]⟩ := by
        rintro _ _ h
        cases h
        rintro rfl
        exact absurd hrb (by decide +kernel)
      refine move_tail hγ H6 hnl (by omega) (.ren a b) hb0 rfl X6 fun w' hr => ?_
      refine hR' w' (Disk.does τ (.ren a b), 0) (by rw [hra, hrb]; simp only [ha, if_neg hne']; rfl) (hr.then (s1.trans (s6.mono (fun _ h => h.elim))))
    · have he' : a = b := Classical.not_not.1 (of_decide_eq_false he)
      exact hR' _ (τ, 0) (by rw [hra, hrb]; simp only [ha, if_pos he']; rfl) ⟨lab1, H1.at, s1⟩
theorem RRemove_calls (hγ : ∀ a b, γ a = γ b → a = b) (H : RAt w lab γ d σ) (hn : Nums σ) (hk : Ok (begins σ).1) (s : Nm) :
    Calls Tryz.prog moraineref1_Disk_Remove.n #[.pointer (some ⟨d, 0, none⟩), .string s] w (fun e w' => e = .returned (.int .i64 (Disk.remove σ s).2) ∧ RRes γ d w lab w' (Disk.remove σ s).1) := by
  refine calls_gen fun R hR => moraineref1_Disk_Remove.vc _ _ _ _ ?_
  unfold moraineref1_Disk_Remove.Vc
  refine (RAsked hγ H hn hk s).mono ?_
  rintro _ w1 ⟨lab1, on, cn, os, cs, om, cm, fb, h, H1, s1, o1, n1, rfl, hn1, ho⟩
  refine ⟨_, _, rfl, fun h0 => hR _ _ ?_, fun h0 => ?_⟩
  · unfold Disk.remove
    rw [onFile_bad σ s _ hn1 h0]
    exact ⟨rfl, lab1, H1.at, s1⟩
  · obtain ⟨hf0, hon⟩ := onFile_good σ s (fun d _ => (Disk.does d (.rem s), (0 : Int))) hn1 h0
    have hnl := names_few hk
    have hpe := hk.pend
    have hct := begins_count hn
    have hR' : ∀ w', RRes γ d w lab w' (Disk.does (begins σ).1 (.rem s)) → R (.returned (.int .i64 0)) w' := fun w' h => by
      refine hR _ _ ?_
      unfold Disk.remove
      rw [hon]
      exact ⟨rfl, h⟩
    generalize (begins σ).1 = τ at *
    simp only [add_at, Nat.zero_add]
    rintro d18 w19 ⟨rfl, rfl⟩
    have X0 := Blk.new w1 90 #[.string ⟨#[]⟩, .string ⟨#[]⟩, .pointer none]
    refine ⟨X0.canSet (by simp) rfl, ?_⟩
    rintro _ rfl
    refine ⟨(X0.set 0 (.string s)).canSet (by simp) rfl, ?_⟩
    rintro _ rfl
    refine ⟨((X0.set 0 (.string s)).set 1 (.string ⟨#[]⟩)).canSet (by simp) rfl, ?_⟩
    rintro _ rfl
    rintro _ rfl
    refine move_block H1 s ⟨#[]⟩ (G := fun w' => MoveTail d w1.heap.size w' R) ?_
    rintro w6 lab6 D H6 s6 X6 rfl
    exact move_tail hγ H6 hnl (by omega) (.rem s) (fun _ _ h => by cases h) rfl X6 fun w' hr => hR' w' (hr.then (s1.trans (s6.mono (fun _ h => h.elim))))
end
end Go.Proofs.YtkekehngillblaaGreat
end

section
set_option linter.unusedVariables false
set_option linter.unusedSimpArgs false
namespace Go.Proofs.YtkekehngillblaaGreat
open Go Go.Vcg Go.Disk
section
variable {C : Type} {w w' : World} {lab lab' : Nat → C} {c : C} {γ : RC → C} {d : Nat} {σ τ : Dk}
variable {on os om : Option Addr} {cn cs cm : Nat} {fb : Nat → Nat} {h : Int}
theorem nmC_congr {fb fb' : Nat → Nat} {l : List (Nm × Nat)} (h : ∀ x ∈ l, fb' x.2 = fb x.2) : nmC fb' l = nmC fb l := by
  induction l with
  | nil => rfl
  | cons x r ih =>
    show [.string x.1, fileV fb' x.2] ++ nmC fb' r = [.string x.1, fileV fb x.2] ++ nmC fb r
    rw [ih (fun y hy => h y (List.mem_cons_of_mem _ hy))]
    simp only [fileV, h x (List.mem_cons_self ..)]

theorem RCreate_calls (hγ : ∀ a b, γ a = γ b → a = b) (H : RAt w lab γ d σ) (hn : Nums σ) (hk : Ok (begins σ).1) (s : Nm) :
    Calls Tryz.prog moraineref1_Disk_Create.n #[.pointer (some ⟨d, 0, none⟩), .string s] w (fun e w' => e = .returned (.int .i64 (Disk.create σ s).2) ∧ RRes γ d w lab w' (Disk.create σ s).1) := by
  refine calls_gen fun R hR => moraineref1_Disk_Create.vc _ _ _ _ ?_
  unfold moraineref1_Disk_Create.Vc
  refine (call_calls hγ H hn).mono ?_
  rintro _ w1 ⟨rfl, lab1, H1, s1⟩
  have hct := begins_count hn
  refine ⟨_, rfl, fun h0 => hR _ _ (by unfold Disk.create; simp only [if_neg h0]; exact ⟨trivial, lab1, H1, s1⟩), fun h0 => ?_⟩
  have hR' : ∀ w' (r : Dk × Int), r = (if (named (begins σ).1 s).2 = 0 then ((begins σ).1, (12 : Int)) else if (named (begins σ).1 s).2 = 13 then
      if (begins σ).1.files = 1048576 then ((begins σ).1, 15)
      else ({ Disk.does (setF (begins σ).1 (begins σ).1.files fresh) (.made s (begins σ).1.files) with files := (begins σ).1.files + 1 }, 0)
    else ((begins σ).1, (named (begins σ).1 s).2)) → RRes γ d w lab w' r.1 → R (.returned (.int .i64 r.2)) w' := fun w' r hr h => by
    subst hr
    refine hR _ _ ?_
    unfold Disk.create; simp only [if_pos h0]; exact ⟨trivial, h⟩
  have hnl := names_few hk
  have hpe := hk.pend
  have hfl := hk.files
  generalize (begins σ).1 = τ at *
  obtain ⟨on, cn, os, cs, om, cm, fb, h, H1⟩ := H1.in
  refine (Name_calls w1 s).mono ?_
  rintro _ w1 ⟨rfl, rfl⟩
  refine ⟨_, rfl, fun hr => hR' _ (τ, 11) (by rw [named_bad hr]; rfl) ⟨lab1, H1.at, s1⟩, fun hra => ?_⟩
  simp only [add_at, Nat.zero_add]
  refine ⟨_, _, _, H1.B.blk.rd1 rfl, ?_⟩
  refine (find_calls (k := cn) H1.R.names (by omega) s).mono ?_
  rintro _ w1 ⟨rfl, i, rfl, hF⟩
  refine ⟨_, rfl, fun hn => ?_, fun hn => ?_⟩
  · rcases hF with ⟨rfl, _⟩ | ⟨j, x, rfl, hj, hx, ha, hxs⟩
    · omega
    exact hR' _ (τ, 12) (by rw [named_yes hra ha]; rfl) ⟨lab1, H1.at, s1⟩
  have ha : assoc s τ.names = none := by
    rcases hF with ⟨_, ha⟩ | ⟨j, x, rfl, _⟩
    · exact ha
    · omega
  rw [named_no hra ha, if_neg (by decide), if_pos rfl] at hR'
  refine ⟨_, H1.B.blk.rd1 rfl, fun hfull => hR' _ (τ, 15) (by rw [if_pos (by omega)]) ⟨lab1, H1.at, s1⟩, fun hfull => ⟨_, H1.B.blk.rd1 rfl, ?_⟩⟩
  rw [if_neg (by omega)] at hR'
  rintro d16 w2 ⟨rfl, rfl⟩
  have BF := CB.new w1 lab1 (γ (.file τ.files)) tRFile #[.int .i64 (τ.files : Int), .slice none 0 0, .slice none 0 0, .slice none 0 0]
  have sN : Stp NoC w1 lab1 (w1.alloc (.cells #[.int .i64 (τ.files : Int), .slice none 0 0, .slice none 0 0, .slice none 0 0] tRFile)) (ext lab1 w1.heap.size (γ (.file τ.files))) := Stp.alloc _ _ _ _ _
  have H2 := H1.stp sN (fun _ h => h)
  have s02 := s1.trans (sN.mono (T := SR γ) (fun c h => h.elim))
  refine ⟨_, H2.B.blk.rd1 rfl, H2.B.blk.canSet (by simp [rdiskA]) rfl, ?_⟩
  generalize w1.alloc (.cells #[.int .i64 (τ.files : Int), .slice none 0 0, .slice none 0 0, .slice none 0 0] tRFile) = w2 at *
  generalize ext lab1 w1.heap.size (γ (.file τ.files)) = lab2 at *
  generalize w1.heap.size = D at *
  clear H1 s1 sN
  rintro _ rfl
  have ew : IntKind.wrap .i64 ((τ.files : Int) + 1) = ((τ.files + 1 : Nat) : Int) := by rw [wrap_i64_small (by omega) (by omega)]; omega
  rw [ew]
  have nd : ∀ {x : RC}, x ≠ .disk → ¬ γ x = γ .disk := fun h e => h (hγ _ _ e)
  have nm : ∀ {x : RC}, x ≠ .moves → ¬ γ x = γ .moves := fun h e => h (hγ _ _ e)
  obtain ⟨B3, t3⟩ := rset H2.B (Stp.refl (· = γ .disk) w2 lab2) rfl 4 (.int .i64 ((τ.files + 1 : Nat) : Int)) (cs' := rdiskA τ.cap on τ.names.length cn os τ.sure.length cs om τ.pend.length cm (τ.files + 1) τ.count τ.fail h τ.down) rfl
  rintro _ rfl
  generalize w2.setCell ⟨d, 4, none⟩ (.int .i64 ((τ.files + 1 : Nat) : Int)) = w3 at *
  have sD : Stp NoC w3 lab2 w3.drew lab2 := Stp.drew _ _ _
  replace B3 := B3.stp sD (fun h => h)
  replace t3 := t3.trans (sD.mono (T := (· = γ .disk)) (fun _ h => h.elim))
  generalize w3.drew = w4 at *
  let fb2 : Nat → Nat := fun k => if k = τ.files then D else fb k
  have efb : ∀ k, k < τ.files → fb2 k = fb k := fun k hk => if_neg (by omega)
  have hD : fileV fb2 τ.files = .pointer (some ⟨D, 0, none⟩) := by simp [fileV, fb2]
  have H4 : RIn w4 lab2 γ d { setF τ τ.files fresh with files := τ.files + 1 } on cn os cs om cm fb2 h := by
    refine ⟨H2.halt, B3, ⟨H2.R.ncap, ?_, ?_, ?_, fun k hk2 => ?_⟩⟩
    · show CRow w4 lab2 (γ .now) on (nmC fb2 τ.names)
      rw [nmC_congr (fun x hx => efb _ (hk.names.files x hx))]
      exact H2.R.names.stp t3 (nd (by simp))
    · show CRow w4 lab2 (γ .froz) os (nmC fb2 τ.sure)
      rw [nmC_congr (fun x hx => efb _ (hk.sure.files x hx))]
      exact H2.R.sure.stp t3 (nd (by simp))
    · show COw w4 lab2 (γ .moves) tMv 3 om τ.pend.length cm (cells3 (τ.pend.map (mvT fb2)))
      have e : τ.pend.map (mvT fb2) = τ.pend.map (mvT fb) := List.map_congr_left (fun x hx => by
        cases x with
        | made n f => simp only [mvT, fileV, efb _ (chgs_made hk.chgs n f hx)]
        | ren a b => rfl
        | rem n => rfl)
      rw [e]
      exact H2.R.pend.stp t3 (nd (by simp))
    · show RFAt w4 lab2 γ k (fb2 k) (if k = τ.files then fresh else τ.fs k)
      by_cases hkf : k = τ.files
      · subst hkf
        rw [if_pos rfl, show fb2 τ.files = D from if_pos rfl]
        exact ⟨none, 0, none, 0, none, 0, [], BF.stp t3 (nd (by simp)), Nat.le_refl _, CBy.nil _ _ _ _, CBy.nil _ _ _ _, COw.nil _ _ _ _ _, Pgs.nil⟩
      · have hk2' : k < τ.files + 1 := hk2
        rw [if_neg hkf, efb k (by omega)]
        exact (H2.R.files k (by omega)).stp t3 (nd (by simp)) (nd (by simp)) (nd (by simp))
  replace s02 := s02.trans (t3.mono (T := SR γ) (fun c e => e ▸ SR.of (by simp)))
  clear H2 t3 sD BF
  -- the name's entry
  obtain ⟨i, hi, hz, hs, hb⟩ := info_of info_nm
  refine ⟨_, _, _, B3.blk.rd1 rfl, _, _, _, B3.blk.rd1 rfl, _, _, _, B3.blk.rd1 rfl, _, run_slice3 und_slNm hi w4 H4.R.ncap, _, _, _, rfl, ?_⟩
  rintro d34 w5 ⟨rfl, rfl⟩
  have X5 := Blk.new w4 tNm #[.string s, fileV fb2 τ.files]
  have s5 : Stp NoC w4 lab2 (w4.alloc (.cells #[.string s, fileV fb2 τ.files] tNm)) (ext lab2 w4.heap.size (γ .froz)) := Stp.alloc _ _ _ _ _
  have H5 := H4.stp s5 (fun _ h => h)
  rw [hD] at X5 s5 H5
  change Sem.run Tryz.prog _ (w4.alloc (.cells #[.string s, .pointer (some ⟨D, 0, none⟩)] tNm)) = _ ∧ _
  replace s02 := s02.trans (s5.mono (T := SR γ) (fun c h => h.elim))
  clear s5 B3
  generalize w4.alloc (.cells #[.string s, .pointer (some ⟨D, 0, none⟩)] tNm) = w5 at *
  generalize ext lab2 w4.heap.size (γ .froz) = lab5 at *
  rw [← hD] at X5
  refine ⟨run_slice3 und_slNm hi w5 H4.R.ncap, H5.B.blk.rd1 rfl, H5.B.blk.rd1 rfl, H5.B.blk.rd1 rfl, ?_⟩
  obtain ⟨o6, k6, w6, hr6, F6⟩ := append_full (tx := tSlNm) (ty := tSlNm) (m := 0) H5.R.names und_slNm hi hz hs rfl (by omega) (nmC_len fb2 τ.names) (src_one und_slNm X5 rfl (by simp [fileV]; exact ⟨rfl, rfl⟩)) (by simp only [maxLen]; omega) (by rw [hb]; omega)
  refine ⟨_, w6, hr6, _, _, _, rfl, ?_⟩
  have hk6 := F6.own.cap.1
  obtain ⟨C6, s6⟩ := F6.done (lab := lab5) (γ .now)
  have H6 := H5.stp s6 (fun _ h => h)
  replace C6 := C6.row
  replace s02 := s02.trans (s6.mono (T := SR γ) (fun c h => h.elim))
  generalize ext lab5 w5.heap.size (γ .now) = lab6 at *
  clear s6 F6 H5 X5
  have hon : (Chg.made s τ.files).on τ.names = τ.names ++ [(s, τ.files)] := by
    show put s τ.files τ.names = _
    unfold put
    rw [without_none ha]
  have hrow : nmC fb2 (τ.names ++ [(s, τ.files)]) = nmC fb2 τ.names ++ (#[.string s, fileV fb2 τ.files] : Array Value).toList := by rw [nmC_append]; rfl
  replace C6 : CRow w6 lab6 (γ .now) o6 (nmC fb2 (τ.names ++ [(s, τ.files)])) := by rw [hrow]; exact C6
  refine ⟨H6.B.blk.canSet (by simp [rdiskA]) rfl, ?_⟩
  rintro _ rfl
  obtain ⟨B7, t7⟩ := rset H6.B (Stp.refl (· = γ .disk) w6 lab6) rfl 1 (.slice o6 (τ.names.length + (0 + 1)) k6) (cs' := rdiskA τ.cap o6 (τ.names.length + 1) k6 os τ.sure.length cs om τ.pend.length cm (τ.files + 1) τ.count τ.fail h τ.down) rfl
  have P7 := H6.R.pend.stp t7 (nd (by simp))
  replace C6 := C6.stp t7 (nd (by simp))
  replace t7 := t7.mono (T := TM γ) (fun c h => .inl h)
  generalize w6.setCell ⟨d, 1, none⟩ (.slice o6 (τ.names.length + (0 + 1)) k6) = w7 at *
  refine ⟨_, _, _, B7.blk.rd1 rfl, ?_⟩
  rintro d45 w8 ⟨rfl, rfl⟩
  have Y := Blk.new w7 90 #[.string s, .string ⟨#[]⟩, fileV fb2 τ.files]
  have s8 : Stp NoC w7 lab6 (w7.alloc (.cells #[.string s, .string ⟨#[]⟩, fileV fb2 τ.files] 90)) (ext lab6 w7.heap.size (γ .froz)) := Stp.alloc _ _ _ _ _
  replace B7 := B7.stp s8 (fun h => h)
  replace P7 := P7.stp s8 (fun h => h)
  replace C6 := C6.stp s8 (fun h => h)
  replace t7 := t7.trans (s8.mono (T := TM γ) (fun _ h => h.elim))
  rw [hD] at Y B7 P7 C6 t7
  change ∃ v w46, Sem.run Tryz.prog _ (w7.alloc (.cells #[.string s, .string ⟨#[]⟩, .pointer (some ⟨D, 0, none⟩)] 90)) = _ ∧ _
  clear s8
  generalize w7.alloc (.cells #[.string s, .string ⟨#[]⟩, .pointer (some ⟨D, 0, none⟩)] 90) = w8 at *
  generalize ext lab6 w7.heap.size (γ .froz) = lab8 at *
  have hpp : τ.pend.length < 2 ^ 40 := by omega
  obtain ⟨o9, k9, w9, hr9, P9, s9⟩ := push_mv P7 (t := (.string s, .string ⟨#[]⟩, .pointer (some ⟨D, 0, none⟩))) Y ⟨rfl, rfl, rfl⟩ hpp
  refine ⟨_, w9, hr9, _, _, _, rfl, ?_⟩
  replace B7 := B7.stp s9 (nm (by simp))
  replace C6 := C6.stp s9 (nm (by simp))
  replace t7 := t7.trans (s9.mono (T := TM γ) (fun c h => .inr h))
  generalize ext lab8 w8.heap.size (γ .moves) = lab9 at *
  refine ⟨B7.blk.canSet (by simp [rdiskA]) rfl, ?_⟩
  rintro _ rfl
  obtain ⟨B10, t10⟩ := rset B7 (Stp.refl (· = γ .disk) w9 lab9) rfl 3 (.slice o9 (τ.pend.length + 1) k9) (cs' := rdiskA τ.cap o6 (τ.names.length + 1) k6 os τ.sure.length cs o9 (τ.pend.length + 1) k9 (τ.files + 1) τ.count τ.fail h τ.down) rfl
  replace P9 := P9.stp t10 (nd (by simp))
  replace C6 := C6.stp t10 (nd (by simp))
  replace t7 := t7.trans (t10.mono (T := TM γ) (fun c h => .inl h))
  have hlen : ((Chg.made s τ.files).on τ.names).length = τ.names.length + 1 := by rw [hon]; simp
  refine hR' _ _ rfl (RRes.then s02 ⟨lab9, (H6.moved hγ (.made s τ.files) t7 (on' := o6) (cn' := k6) (om' := o9) (cm' := k9) ?_ ?_ ?_ ?_).at, t7.mono TM.sr⟩)
  · show CB _ lab9 (γ .disk) d tRDisk (rdiskA τ.cap o6 ((Chg.made s τ.files).on τ.names).length k6 os τ.sure.length cs o9 (τ.pend.length + 1) k9 (τ.files + 1) τ.count τ.fail h τ.down)
    rw [hlen]; exact B10
  · show CRow _ lab9 (γ .now) o6 (nmC fb2 ((Chg.made s τ.files).on τ.names))
    rw [hon]; exact C6
  · show ((Chg.made s τ.files).on τ.names).length ≤ k6
    rw [hlen]; exact hk6
  · show COw _ lab9 (γ .moves) tMv 3 o9 (τ.pend.length + 1) k9 (cells3 ((τ.pend ++ [Chg.made s τ.files]).map (mvT fb2)))
    rw [List.map_append, List.map_cons, List.map_nil]
    show COw _ lab9 (γ .moves) tMv 3 o9 (τ.pend.length + 1) k9 (cells3 (τ.pend.map (mvT fb2) ++ [(.string s, .string ⟨#[]⟩, fileV fb2 τ.files)]))
    rw [hD]; exact P9
end
end Go.Proofs.YtkekehngillblaaGreat
end

section
set_option linter.unusedVariables false
set_option linter.unusedSimpArgs false
namespace Go.Proofs.YtkekehngillblaaGreat
open Go Go.Vcg Go.Disk
section
variable {C : Type} {w w' : World} {lab lab' : Nat → C} {c : C} {γ : RC → C} {d : Nat} {σ τ : Dk}

theorem Rsurvives_calls {n B : Nat} {f : Fl} (FA : RFAt w lab γ n B f) (hk : PtsOk f.sure f.pend f.bytes) (hs : f.sure.length ≤ most) (hp : f.pend.length < 2 ^ 40) (L : Int) (hL : 0 ≤ L ∧ L < 9223372036854775808) :
    Calls Tryz.prog moraineref1_survives.n #[.pointer (some ⟨B, 0, none⟩), .int .i64 L] w (fun e w' => ∃ o k, e = .returned (.slice o (survive f.sure f.pend L).length k) ∧ Fresh w w' tU8 1 o (survive f.sure f.pend L).length k ((survive f.sure f.pend L).map bV) ∧ (survive f.sure f.pend L).length ≤ most) := by
  obtain ⟨o1, c1, o2, c2, o3, c3, ts, FC⟩ := FA
  simp only [most] at hs
  refine calls_gen fun R hR => moraineref1_survives.vc _ _ _ _ ?_
  unfold moraineref1_survives.Vc
  simp only [add_at, Nat.zero_add]
  refine ⟨_, _, _, FC.cells.blk.rd1 rfl, ?_⟩
  obtain ⟨o5, k5, w5, hr5, F5⟩ := copy_bytes' (k2 := c2) (ty := tSlU8) (Mod.refl w) FC.sure.rd (by omega)
  refine ⟨_, w5, hr5, _, _, _, rfl, ?_⟩
  refine ⟨fun left o l k i w' => ∃ (j : Nat) (bs : List UInt8), i = (j : Int) ∧ j ≤ f.pend.length ∧ l = bs.length ∧ Fresh w w' tU8 1 o l k (bs.map bV) ∧ (0 ≤ left ∧ left ≤ L) ∧ survive bs (f.pend.drop j) left = survive f.sure f.pend L ∧ PtsOk bs (f.pend.drop j) f.bytes ∧ bs.length ≤ most,
    fun _ _ _ _ i _ => ((f.pend.length : Int) - i).toNat, ⟨0, f.sure, rfl, Nat.zero_le _, rfl, F5, ⟨hL.1, Int.le_refl _⟩, rfl, hk, hs⟩, ?_⟩
  clear F5 hr5
  rintro left o _ k _ _ w6 ⟨j, bs, rfl, hj, rfl, F, hleft, hsv, hok, hbs⟩
  simp only [most] at hbs
  have fin : ∀ {w' : World} {o' : Option Addr} {k' : Nat} {bs' : List UInt8}, Fresh w w' tU8 1 o' bs'.length k' (bs'.map bV) → bs' = survive f.sure f.pend L → bs'.length ≤ most → R (.returned (.slice o' bs'.length k')) w' := by
    intro w' o' k' bs' F' he hm
    subst he
    exact hR _ _ ⟨o', k', rfl, F', hm⟩
  have rest : ∀ {w' : World}, Vcg.Mod NoB w w' → RFCells w' (ext lab w.heap.size (γ .froz)) γ n B o1 c1 o2 c2 o3 c3 ts f := fun M =>
    have s : Stp NoC w lab _ (ext lab w.heap.size (γ .froz)) := Stp.of_nob M _
    ⟨FC.cells.stp s (fun h => h), FC.cap, FC.bytes.stp s (fun h => h), FC.sure.stp s (fun h => h), FC.pend.stp s (fun h => h), FC.pgs.stp s (fun h => h)⟩
  have FC6 := rest F.mod
  refine ⟨_, _, _, FC6.cells.blk.rd1 rfl, fun hlt => ?_, fun hge => ?_⟩
  · have hjl : j < f.pend.length := by omega
    have hdrop : f.pend.drop j = f.pend[j] :: f.pend.drop (j + 1) := List.drop_eq_getElem_cons hjl
    rw [hdrop] at hsv hok
    obtain ⟨t, ht, hPg⟩ := FC6.pgs.at_ j _ (List.getElem?_eq_getElem hjl)
    obtain ⟨h1, h2, h3⟩ := cells3_at ts j t ht
    obtain ⟨b, g, rfl, _, _, hc1⟩ := FC6.pend.row _ _ h1
    obtain ⟨b', g', hb', _, _, hc2⟩ := FC6.pend.row _ _ h2
    cases hb'
    obtain ⟨b', g', hb', _, _, hc3⟩ := FC6.pend.row _ _ h3
    cases hb'
    have ew : IntKind.wrap .i64 ((j : Int) + 1) = ((j + 1 : Nat) : Int) := by rw [wrap_i64_small (by omega) (by omega)]; omega
    rw [ew]
    generalize hpj : f.pend[j] = p at *
    -- the three cells, copied into a block
    have cp : ∀ (v1 v2 v3 : Value), Vcg.Mod NoB w6 ((((w6.alloc (.cells #[.int .i64 0, .slice none 0 0, .int .i64 0] 113)).setCell ⟨w6.heap.size, 0, none⟩ v1).setCell ⟨w6.heap.size, 1, none⟩ v2).setCell ⟨w6.heap.size, 2, none⟩ v3) ∧
        Blk ((((w6.alloc (.cells #[.int .i64 0, .slice none 0 0, .int .i64 0] 113)).setCell ⟨w6.heap.size, 0, none⟩ v1).setCell ⟨w6.heap.size, 1, none⟩ v2).setCell ⟨w6.heap.size, 2, none⟩ v3) w6.heap.size tCg #[v1, v2, v3] := by
      intro v1 v2 v3
      have X0 := Blk.new w6 113 #[.int .i64 0, .slice none 0 0, .int .i64 0]
      have M0 : Vcg.Mod NoB w6 (w6.alloc (.cells #[.int .i64 0, .slice none 0 0, .int .i64 0] 113)) := Mod.alloc _ _
      have M1 := M0.step_set (a := ⟨w6.heap.size, 0, none⟩) (v := v1) (fun h => (Nat.lt_irrefl _ h).elim)
      have M2 := M1.step_set (a := ⟨w6.heap.size, 1, none⟩) (v := v2) (fun h => (Nat.lt_irrefl _ h).elim)
      have M3 := M2.step_set (a := ⟨w6.heap.size, 2, none⟩) (v := v3) (fun h => (Nat.lt_irrefl _ h).elim)
      exact ⟨M3, ((X0.set 0 v1).set 1 v2).set 2 v3⟩
    have X0 := Blk.new w6 tCg #[.int .i64 0, .slice none 0 0, .int .i64 0]
    have cs := fun (v : Value) (hv : v.oneCell' = true) => X0.canSet (i := 0) (v := v) (by simp) hv
    refine ⟨_, _, _, FC6.cells.blk.rd1 rfl, _, rfl, by omega, ?_⟩
    simp only [add_at, Int.toNat_natCast]
    cases p with
    | cut m =>
      have ht' : t = (.int .i64 (-1), .slice none 0 0, .int .i64 (m : Int)) := hPg
      subst ht'
      refine ⟨_, _, _, _, _, hc1, by rw [Nat.add_assoc]; exact hc2, by rw [Nat.add_assoc]; exact hc3, ?_⟩
      rintro d27 w28 ⟨rfl, rfl⟩
      simp only [add_at, Nat.zero_add]
      refine ⟨X0.canSet (by simp) rfl, ?_⟩
      rintro _ rfl
      refine ⟨(X0.set 0 (.int .i64 (-1))).canSet (by simp) rfl, ?_⟩
      rintro _ rfl
      refine ⟨((X0.set 0 (.int .i64 (-1))).set 1 (.slice none 0 0)).canSet (by simp) rfl, ?_⟩
      rintro _ rfl
      obtain ⟨M31, X31⟩ := cp (.int .i64 (-1)) (.slice none 0 0) (.int .i64 (m : Int))
      generalize ((((w6.alloc (.cells #[.int .i64 0, .slice none 0 0, .int .i64 0] 113)).setCell ⟨w6.heap.size, 0, none⟩ (.int .i64 (-1))).setCell ⟨w6.heap.size, 1, none⟩ (.slice none 0 0)).setCell ⟨w6.heap.size, 2, none⟩ (.int .i64 (m : Int))) = w31 at *
      have F31 := F.mod' M31
      refine ⟨_, X31.rd1 rfl, fun _ => ⟨fun h1 => ?_, fun h1 => ⟨_, X31.rd1 rfl, ?_⟩⟩, fun h => absurd h (by decide)⟩
      · have : survive bs (.cut m :: f.pend.drop (j + 1)) left = bs := by rw [survive, if_pos h1]
        exact fin F31 (this.symm.trans hsv) (by simp only [most]; exact hbs)
      · have hm : m ≤ bs.length := hok.1
        have hcap := F31.own.cap.1
        refine ⟨by omega, ?_⟩
        rw [Int.toNat_natCast]
        have hlm : (bs.take m).length = m := by rw [List.length_take]; omega
        obtain ⟨o35, k35, w35, hr35, F35⟩ := copy_bytes' (k2 := k) (ty := tSlU8) F31.mod (F31.own.bytes.take m) (by omega)
        rw [hlm] at hr35
        refine ⟨_, w35, hr35, _, _, _, rfl, ⟨j + 1, bs.take m, rfl, hjl, hlm.symm, by rw [hlm] at F35; exact F35, ?_, ?_, hok.2, by rw [hlm]; simp only [most]; omega⟩, by omega⟩
        · rw [wrap_i64_small (by omega) (by omega)]; omega
        · rw [survive, if_neg h1] at hsv
          rw [wrap_i64_small (by omega) (by omega)]; exact hsv
    | wr a b =>
      obtain ⟨oo, kk, ht', hbk, hby⟩ := hPg
      subst ht'
      refine ⟨_, _, _, _, _, hc1, by rw [Nat.add_assoc]; exact hc2, by rw [Nat.add_assoc]; exact hc3, ?_⟩
      rintro d27 w28 ⟨rfl, rfl⟩
      simp only [add_at, Nat.zero_add]
      refine ⟨X0.canSet (by simp) rfl, ?_⟩
      rintro _ rfl
      refine ⟨(X0.set 0 (.int .i64 (a : Int))).canSet (by simp) rfl, ?_⟩
      rintro _ rfl
      refine ⟨((X0.set 0 (.int .i64 (a : Int))).set 1 (.slice oo b.length kk)).canSet (by simp) rfl, ?_⟩
      rintro _ rfl
      obtain ⟨M31, X31⟩ := cp (.int .i64 (a : Int)) (.slice oo b.length kk) (.int .i64 0)
      generalize ((((w6.alloc (.cells #[.int .i64 0, .slice none 0 0, .int .i64 0] 113)).setCell ⟨w6.heap.size, 0, none⟩ (.int .i64 (a : Int))).setCell ⟨w6.heap.size, 1, none⟩ (.slice oo b.length kk)).setCell ⟨w6.heap.size, 2, none⟩ (.int .i64 0)) = w31 at *
      have F31 := F.mod' M31
      refine ⟨_, X31.rd1 rfl, fun h => absurd h (by omega), fun _ => ⟨_, _, _, X31.rd1 rfl, ?_⟩⟩
      rintro _ rfl
      have MD := Mod.drew (S := NoB) w31
      have X42 := X31.mod' MD
      have F42 := F31.mod' MD
      have hby42 : RdB w31.drew oo b := (hby.rd.mod' M31).mod' MD
      generalize w31.drew = w42 at *
      obtain ⟨ha, hlay, hrest⟩ := hok
      simp only [most] at hlay
      rw [length_lay ha] at hlay
      obtain ⟨m, hm⟩ : ∃ m : Nat, min ((b.length : Nat) : Int) left = (m : Int) := ⟨(min ((b.length : Nat) : Int) left).toNat, by omega⟩
      rw [hm, Int.toNat_natCast]
      refine ⟨_, X42.rd1 rfl, _, _, _, X42.rd1 rfl, by omega, ?_⟩
      have hlm : (b.take m).length = m := by rw [List.length_take]; omega
      have hcl := lay_calls (k := k) (k2 := kk) F42.own.bytes (hby42.take m) a ha (by omega) (by omega)
      rw [hlm] at hcl
      refine hcl.mono ?_
      rintro _ w48 ⟨o49, k49, rfl, F48⟩
      have X48 := X42.mod' F48.mod
      have F48' := F48.from' F42.mod
      have hll : (lay bs a (b.take m)).length ≤ 67108864 := by rw [length_lay ha, hlm]; omega
      refine ⟨_, _, _, rfl, _, _, _, X48.rd1 rfl, fun hlt2 => ?_, fun hge2 => ?_⟩
      · have : survive bs (.wr a b :: f.pend.drop (j + 1)) left = lay bs a (b.take left.toNat) := by rw [survive, if_pos (by omega)]
        refine fin F48' ?_ hll
        rw [← hsv, this, show left.toNat = m by omega]
      · have hmb : m = b.length := by omega
        have : survive bs (.wr a b :: f.pend.drop (j + 1)) left = survive (lay bs a b) (f.pend.drop (j + 1)) (left - b.length) := by rw [survive, if_neg (by omega)]
        rw [this] at hsv
        have htb : b.take m = b := List.take_of_length_le (by omega)
        rw [htb] at F48' hll ⊢
        refine ⟨⟨j + 1, lay bs a b, rfl, hjl, rfl, F48', ?_, ?_, hrest, hll⟩, by omega⟩
        · rw [wrap_i64_small (by omega) (by omega)]; omega
        · rw [wrap_i64_small (by omega) (by omega), hmb]; exact hsv
  · obtain rfl : j = f.pend.length := by omega
    rw [List.drop_length] at hsv
    exact fin F hsv hbs
end
end Go.Proofs.YtkekehngillblaaGreat
end

section
set_option linter.unusedVariables false
set_option linter.unusedSimpArgs false
namespace Go.Proofs.YtkekehngillblaaGreat
open Go Go.Vcg Go.Disk
section
variable {C : Type} {w w' : World} {lab lab' : Nat → C} {c : C} {γ : RC → C} {d : Nat} {σ τ : Dk}

theorem push_now {fb : Nat → Nat} {l : List (Nm × Nat)} {o : Option Addr} {k : Nat} (h : COw w lab c tNm 2 o l.length k (nmC fb l)) {b ty : Nat} {s : Nm} {f : Nat} (B : Blk w b ty #[.string s, fileV fb f]) (hl : l.length < 2 ^ 40) :
    ∃ o' c' w', Sem.run Tryz.prog (builtinV .append #[tSlNm, tSlNm] tSlNm #[.slice o l.length k, .slice (some ⟨b, 0, none⟩) 1 1]) w = .ok (.slice o' (l.length + 1) c') w' ∧ COw w' (ext lab w.heap.size c) c tNm 2 o' (l.length + 1) c' (nmC fb (l ++ [(s, f)])) ∧ Stp (· = c) w lab w' (ext lab w.heap.size c) := by
  obtain ⟨i, hi, hz, hs, hb⟩ := info_of info_nm
  rw [nmC_append]
  exact h.append und_slNm hi hz hs rfl (src_one und_slNm B rfl (by simp [fileV]; exact ⟨rfl, rfl⟩)) (by simp only [maxLen]; omega) (by rw [hb]; omega)
theorem copy_names {fb : Nat → Nat} {l : List (Nm × Nat)} {o : Option Addr} {k : Nat} {ty : TypeId} (h : CRow w lab c o (nmC fb l)) (hl : l.length < 2 ^ 40) :
    ∃ o' c' w', Sem.run Tryz.prog (builtinV .append #[tSlNm, tSlNm] ty #[.slice none 0 0, .slice o l.length k]) w = .ok (.slice o' l.length c') w' ∧ Fresh w w' tNm 2 o' l.length c' (nmC fb l) := by
  obtain ⟨i, hi, hz, hs, hb⟩ := info_of info_nm
  have := (Fresh.nil (Mod.refl w) tNm 2).push (ty := ty) und_slNm hi hz hs rfl (h.src und_slNm (nmC_len fb l) (nmC_one fb l) k (by omega)) (by simp only [maxLen]; omega) (by rw [hb]; omega)
  simpa using this

/-- The colours of a restart's second half. -/
def TN (γ : RC → C) (c : C) : Prop := c = γ .disk ∨ c = γ .now
theorem TN.sr : ∀ c, TN γ c → SR γ c := fun c h => by rcases h with rfl | rfl <;> exact SR.of (by simp)

theorem RRestart_calls (hγ : ∀ a b, γ a = γ b → a = b) (H : RAt w lab γ d σ) (hk : Ok σ) (hcnt : σ.count < 2 ^ 40) (n1 : Int) {o2 : Option Addr} {c2 : Nat} {is : List Int} {cb : C} (hi : CInts w lab cb o2 is) (hcb : ¬ SR γ cb) (hil : ∀ x ∈ is, x < 9223372036854775808) (hlen : is.length < 2 ^ 62) :
    Calls Tryz.prog moraineref1_Disk_Restart.n #[.pointer (some ⟨d, 0, none⟩), .agg #[.int .i64 n1, .slice o2 is.length c2]] w (fun e w' => e = .returned (.tuple #[]) ∧ RRes γ d w lab w' (restart σ n1 is)) := by
  obtain ⟨on, cn, os, cs, om, cm, fb, h, H⟩ := H.in
  have hpe := hk.pend
  have hnl := names_len hk.sure hk.files
  refine calls_gen fun R hR => moraineref1_Disk_Restart.vc _ _ _ _ _ _ _ ?_
  unfold moraineref1_Disk_Restart.Vc
  rintro d3 w1 ⟨rfl, rfl⟩
  have X := CB.new w lab (γ .froz) 35 #[.int .i64 n1, .slice o2 is.length c2]
  have s1 : Stp NoC w lab (w.alloc (.cells #[.int .i64 n1, .slice o2 is.length c2] 35)) (ext lab w.heap.size (γ .froz)) := Stp.alloc _ _ _ _ _
  generalize w.alloc (.cells #[.int .i64 n1, .slice o2 is.length c2] 35) = w1 at *
  generalize ext lab w.heap.size (γ .froz) = lab1 at *
  generalize w.heap.size = D3 at *
  replace H := H.stp s1 (fun _ h => h)
  replace hi := hi.stp s1 (fun h => h)
  replace s1 : Stp (SR γ) w lab w1 lab1 := s1.mono (fun _ h => h.elim)
  simp only [add_at, Nat.zero_add]
  refine ⟨_, _, _, H.B.blk.rd1 rfl, ?_⟩
  obtain ⟨o9, k9, w2, hr9, F9⟩ := copy_names (k := cs) (ty := 51) H.R.sure (by omega)
  refine ⟨_, w2, hr9, _, _, _, rfl, ?_⟩
  have hk9 := F9.own.cap.1
  obtain ⟨C2, s2⟩ := F9.done (lab := lab1) (γ .froz)
  replace C2 := C2.row
  generalize ext lab1 w1.heap.size (γ .froz) = lab2 at *
  have hLn : ∀ j, ((σ.pend.take j).foldl Chg.on σ.sure).length ≤ 1048576 := fun j => names_len (NamesOk.fold j hk.sure hk.chgs) hk.files
  generalize hK : (min (max n1 0) (σ.pend.length : Int)).toNat = K
  have hKl : K ≤ σ.pend.length := by omega
  have hrs : restart σ n1 is = { σ with names := (σ.pend.take K).foldl Chg.on σ.sure, sure := (σ.pend.take K).foldl Chg.on σ.sure, pend := [], fail := 0, halt := -1, down := false, fs := fun n => if n ∈ ((σ.pend.take K).foldl Chg.on σ.sure).map Prod.snd then ⟨survive (σ.fs n).sure (σ.fs n).pend (Disk.left is n), survive (σ.fs n).sure (σ.fs n).pend (Disk.left is n), []⟩ else σ.fs n } := by
    rw [← hK]; rfl
  refine ⟨fun o l k w' => ∃ lab', l = ((σ.pend.take K).foldl Chg.on σ.sure).length ∧ CRow w' lab' (γ .froz) o (nmC fb ((σ.pend.take K).foldl Chg.on σ.sure)) ∧ Stp NoC w1 lab1 w' lab', ?_, ?_⟩
  · refine ⟨fun o l k i w' => ∃ (j : Nat) (lab' : Nat → C), i = (j : Int) ∧ j ≤ K ∧ l = ((σ.pend.take j).foldl Chg.on σ.sure).length ∧ l ≤ k ∧ CRow w' lab' (γ .froz) o (nmC fb ((σ.pend.take j).foldl Chg.on σ.sure)) ∧ Stp NoC w1 lab1 w' lab',
      fun _ _ _ i _ => ((K : Int) - i).toNat, ⟨0, lab2, rfl, Nat.zero_le _, rfl, hk9, C2, s2⟩, ?_⟩
    clear C2 s2 hk9 F9 hr9
    rintro o _ k _ _ w3 ⟨j, lab3, rfl, hj, rfl, hlk, C3, s3⟩
    have H3 := H.stp s3 (fun _ h => h)
    have X3 := X.stp s3 (fun h => h)
    have done' : ¬ ((j : Int) < K) → ∃ lab', ((σ.pend.take j).foldl Chg.on σ.sure).length = ((σ.pend.take K).foldl Chg.on σ.sure).length ∧ CRow w3 lab' (γ .froz) o (nmC fb ((σ.pend.take K).foldl Chg.on σ.sure)) ∧ Stp NoC w1 lab1 w3 lab' := fun hge => by
      obtain rfl : j = K := by omega
      exact ⟨lab3, rfl, C3, s3⟩
    refine ⟨_, _, _, H3.B.blk.rd1 rfl, fun hlt => ⟨_, X3.blk.rd1 rfl, fun hlt2 => ?_, fun hge2 => done' (by omega)⟩, fun hge => done' (by omega)⟩
    have hjl : j < σ.pend.length := by omega
    have hjK : j < K := by omega
    have hv : (σ.pend.map (mvT fb))[j]? = some (mvT fb σ.pend[j]) := by rw [List.getElem?_map, List.getElem?_eq_getElem hjl]; rfl
    obtain ⟨h1, h2, h3⟩ := cells3_at _ j _ hv
    obtain ⟨b, g, rfl, _, _, hc1⟩ := H3.R.pend.row _ _ h1
    obtain ⟨b', g', hb', _, _, hc2⟩ := H3.R.pend.row _ _ h2
    cases hb'
    obtain ⟨b', g', hb', _, _, hc3⟩ := H3.R.pend.row _ _ h3
    cases hb'
    have hch := chgs_take j hjl hk.chgs
    have hb0 : ∀ a b, σ.pend[j] = .ren a b → b ≠ ⟨#[]⟩ := by
      intro a b he
      rw [he] at hch
      rintro rfl
      exact absurd hch.2.1 (by decide +kernel)
    have hLj := hLn j
    have hd := done_calls (k := k) C3 (by omega) hlk σ.pend[j] hb0
    refine ⟨_, _, _, H3.B.blk.rd1 rfl, _, rfl, by omega, ?_⟩
    simp only [add_at, Int.toNat_natCast]
    have ew : IntKind.wrap .i64 ((j : Int) + 1) = ((j + 1 : Nat) : Int) := by rw [wrap_i64_small (by omega) (by omega)]; omega
    rw [ew]
    obtain ⟨v1, v2, o3, hmv⟩ : ∃ (v1 v2 : Nm) (o3 : Option Addr), mvT fb σ.pend[j] = (.string v1, .string v2, .pointer o3) := by
      cases σ.pend[j] with
      | made n f => exact ⟨_, _, _, rfl⟩
      | ren a b => exact ⟨_, _, _, rfl⟩
      | rem n => exact ⟨_, _, _, rfl⟩
    rw [hmv] at hc1 hc2 hc3 hd
    refine ⟨_, _, _, hc1, by rw [Nat.add_assoc]; exact hc2, by rw [Nat.add_assoc]; exact hc3, ?_⟩
    refine hd.mono ?_
    rintro _ w4 ⟨o4, k4, rfl, hk4, M4, C4⟩
    have s4 : Stp NoC w3 lab3 w4 (ext lab3 w3.heap.size (γ .froz)) := Stp.of_nob M4 _
    have hst := foldl_take_succ σ.sure σ.pend j hjl
    rw [← hst] at C4 hk4 ⊢
    exact ⟨_, _, _, rfl, ⟨j + 1, _, rfl, hjK, rfl, hk4, C4, s3.trans s4⟩, by omega⟩
  clear C2 s2 hk9 F9 hr9
  rintro o34 _ c34 _ w3 ⟨lab3, rfl, C3, s3⟩
  have hL := NamesOk.fold K hk.sure hk.chgs
  have hLl := hLn K
  generalize (σ.pend.take K).foldl Chg.on σ.sure = L at *
  replace H := H.stp s3 (fun _ h => h)
  replace X := X.stp s3 (fun h => h)
  replace hi := hi.stp s3 (fun h => h)
  replace s1 := s1.trans (s3.mono (T := SR γ) (fun _ h => h.elim))
  clear s3
  refine ⟨H.B.blk.canSet (by simp [rdiskA]) rfl, ?_⟩
  rintro _ rfl
  have nd : ∀ {x : RC}, x ≠ .disk → ¬ γ x = γ .disk := fun h e => h (hγ _ _ e)
  have nn : ∀ {x : RC}, x ≠ .now → ¬ γ x = γ .now := fun h e => h (hγ _ _ e)
  have cd : ∀ {x : RC}, x ≠ .froz → ¬ cb = γ x := fun h e => hcb (e ▸ SR.of h)
  obtain ⟨B4, t4⟩ := rset H.B (Stp.refl (· = γ .disk) w3 lab3) rfl 1 (.slice none 0 0) (cs' := rdiskA σ.cap none 0 0 os σ.sure.length cs om σ.pend.length cm σ.files σ.count σ.fail h σ.down) rfl
  replace X := X.stp t4 (nd (by simp))
  replace hi := hi.stp t4 (cd (by simp))
  replace C3 := C3.stp t4 (nd (by simp))
  have F4 : ∀ n, n < σ.files → RFAt (w3.setCell ⟨d, 1, none⟩ (.slice none 0 0)) lab3 γ n (fb n) (σ.fs n) := fun n hn => (H.R.files n hn).stp t4 (nd (by simp)) (nd (by simp)) (nd (by simp))
  replace s1 := s1.trans (t4.mono (T := SR γ) (fun c e => e ▸ SR.of (by simp)))
  generalize w3.setCell ⟨d, 1, none⟩ (.slice none 0 0) = w4 at *
  have hhalt := H.halt
  clear H t4
  let sv : Nat → Fl := fun n => ⟨survive (σ.fs n).sure (σ.fs n).pend (Disk.left is n), survive (σ.fs n).sure (σ.fs n).pend (Disk.left is n), []⟩
  refine ⟨fun i w' => ∃ (j : Nat) (lab' : Nat → C) (fb' : Nat → Nat) (on' : Option Addr) (cn' : Nat), i = (j : Int) ∧ j ≤ L.length ∧
      CB w' lab' (γ .disk) d tRDisk (rdiskA σ.cap on' (L.take j).length cn' os σ.sure.length cs om σ.pend.length cm σ.files σ.count σ.fail h σ.down) ∧
      COw w' lab' (γ .now) tNm 2 on' (L.take j).length cn' (nmC fb' (L.take j)) ∧
      (∀ n, n < σ.files → RFAt w' lab' γ n (fb' n) (if n ∈ (L.take j).map Prod.snd then sv n else σ.fs n)) ∧ (∀ n, n ∉ (L.take j).map Prod.snd → fb' n = fb n) ∧
      CRow w' lab' (γ .froz) o34 (nmC fb L) ∧ CB w' lab' (γ .froz) D3 35 #[.int .i64 n1, .slice o2 is.length c2] ∧ CInts w' lab' cb o2 is ∧ Stp (SR γ) w lab w' lab',
    fun i _ => ((L.length : Int) - i).toNat,
    ⟨0, lab3, fb, none, 0, rfl, Nat.zero_le _, B4, COw.nil _ _ _ _ _, fun n hn => by rw [if_neg (by simp)]; exact F4 n hn, fun _ _ => rfl, C3, X, hi, s1⟩, ?_⟩
  clear B4 F4 C3 X hi s1
  rintro _ _ w5 ⟨j, lab5, fb', on', cn', rfl, hj, B, N, F, hfb, Cl, X, hi, s5⟩
  refine ⟨fun hlt => ?_, fun hge => ?_⟩
  · have hjl : j < L.length := by omega
    have hx := List.getElem?_eq_getElem hjl
    have hxm : L[j] ∈ L := List.getElem_mem hjl
    have htk : L.take (j + 1) = L.take j ++ [L[j]] := by rw [List.take_add_one, hx]; rfl
    have hxn : L[j].2 ∉ (L.take j).map Prod.snd := by
      have hnd := hL.vals
      have : (L.take (j + 1)).map Prod.snd = (L.take j).map Prod.snd ++ [L[j].2] := by rw [htk, List.map_append]; rfl
      have hnd2 : ((L.take (j + 1)).map Prod.snd).Nodup := hnd.sublist ((List.take_sublist _ _).map _)
      rw [this, List.nodup_append] at hnd2
      exact fun hm => hnd2.2.2 _ hm _ (by simp) rfl
    have hfl := hL.files _ hxm
    obtain ⟨b, g, rfl, _, hc1, hc2⟩ := row_name Cl hx
    have ew : IntKind.wrap .i64 ((j : Int) + 1) = ((j + 1 : Nat) : Int) := by rw [wrap_i64_small (by omega) (by omega)]; omega
    generalize hxx : L[j] = x at *
    obtain ⟨xn, xf⟩ := x
    simp only at hxn hfl hc1 hc2
    have hfx := F xf hfl
    rw [if_neg hxn, hfb xf hxn] at hfx
    rw [ew]
    simp only [add_at, Int.toNat_natCast]
    refine ⟨_, rfl, by omega, _, by rw [add_at, add_at]; exact hc2, ?_⟩
    have hl0 : 0 ≤ Disk.left is xf ∧ Disk.left is xf < 9223372036854775808 := by
      unfold Disk.left
      split
      · rename_i hlt3
        have := hil (is.getD xf 0) (by rw [List.getD_eq_getElem?_getD, List.getElem?_eq_getElem hlt3]; exact List.getElem_mem _)
        omega
      · omega
    refine ⟨fun n w' => n = Disk.left is xf ∧ Stp NoC w5 lab5 w' lab5, ?_, ?_⟩
    · rintro _ rfl
      have sA : Stp NoC w5 lab5 w5.drew lab5 := Stp.drew _ _ _
      obtain ⟨o1, c1, q2, r2, o3, c3, ts, FC⟩ := hfx.stp sA (fun h => h) (fun h => h) (fun h => h)
      have XA := X.stp sA (fun h => h)
      have iA := hi.stp sA (fun h => h)
      refine ⟨_, rfl, _, FC.cells.blk.rd1 rfl, _, _, _, XA.blk.rd1 rfl, fun hlt4 => ?_, fun hge4 => ⟨?_, sA⟩⟩
      · rintro _ rfl
        have sB : Stp NoC w5.drew lab5 w5.drew.drew lab5 := Stp.drew _ _ _
        have hx4 : xf < is.length := by omega
        obtain ⟨bi, gi, rfl, _, _, hci⟩ := (iA.stp sB (fun h => h)) xf hx4
        have FCB := FC.cells.stp sB (fun h => h)
        refine ⟨_, _, _, (XA.stp sB (fun h => h)).blk.rd1 rfl, _, rfl, _, FCB.blk.rd1 rfl, _, rfl, by omega, _, by rw [add_at, Int.toNat_natCast]; exact hci, ?_, sA.trans sB⟩
        unfold Disk.left; rw [if_pos hx4]
      · unfold Disk.left; rw [if_neg (by omega)]
    · rintro _ _ w6 ⟨rfl, s6⟩
      have B6 := B.stp s6 (fun h => h)
      have N6 := N.stp s6 (fun h => h)
      have hfx6 := hfx.stp s6 (fun h => h) (fun h => h) (fun h => h)
      have Cl6 := Cl.stp s6 (fun h => h)
      have hsz := (hk.size xf hfl).1
      have hpx := hk.pends xf hfl
      refine (Rsurvives_calls hfx6 (hk.pts xf hfl) hsz (by omega) _ hl0).mono ?_
      rintro _ w7 ⟨o7, k7, rfl, F7, hmost⟩
      refine ⟨_, _, _, rfl, ?_⟩
      generalize hsu : survive (σ.fs xf).sure (σ.fs xf).pend (Disk.left is xf) = bs at *
      simp only [most] at hmost
      have hk7 := F7.own.cap.1
      obtain ⟨C7, s7⟩ := F7.done (lab := lab5) (γ .froz)
      replace C7 := C7.bytes
      have s57 := s6.trans s7
      generalize ext lab5 w6.heap.size (γ .froz) = lab7 at *
      rintro _ rfl
      have sD : Stp NoC w7 lab7 w7.drew lab7 := Stp.drew _ _ _
      replace C7 := C7.stp sD (fun h => h)
      replace s57 := s57.trans sD
      generalize w7.drew = w8 at *
      have B8 := B.stp s57 (fun h => h)
      have N8 := N.stp s57 (fun h => h)
      have Cl8 := Cl.stp s57 (fun h => h)
      obtain ⟨b8, g8, hb8, _, hc8, _⟩ := row_name Cl8 hx
      cases hb8
      simp only at hc8
      obtain ⟨o1, c1, q2, r2, o3, c3, ts, FC8⟩ := hfx.stp s57 (fun h => h) (fun h => h) (fun h => h)
      refine ⟨_, _, _, B8.blk.rd1 rfl, _, rfl, by omega, _, by rw [add_at]; exact hc8, _, rfl, _, FC8.cells.blk.rd1 rfl, ?_⟩
      obtain ⟨o9, k9, w9, hr9, F9⟩ := copy_bytes' (k2 := k7) (ty := tSlU8) (Mod.refl w8) C7.rd (by omega)
      refine ⟨_, w9, hr9, _, _, _, rfl, ?_⟩
      obtain ⟨C9, s9⟩ := F9.done (lab := lab7) (γ .froz)
      replace C9 := C9.bytes
      replace C7 := C7.stp s9 (fun h => h)
      have s59 := s57.trans s9
      generalize ext lab7 w8.heap.size (γ .froz) = lab9 at *
      have B9 := B.stp s59 (fun h => h)
      have Cl9 := Cl.stp s59 (fun h => h)
      obtain ⟨b9, g9, hb9, _, hc9, _⟩ := row_name Cl9 hx
      cases hb9
      simp only at hc9
      refine ⟨(FC8.cells.stp s9 (fun h => h)).blk.rd1 rfl, by rw [add_at]; exact hc9, B9.blk.rd1 rfl, ?_⟩
      rintro d77 w10 ⟨rfl, rfl⟩
      have BF := CB.new w9 lab9 (γ (.file xf)) tRFile #[.int .i64 (xf : Int), .slice o7 bs.length k7, .slice o9 bs.length k9, .slice none 0 0]
      have s10 : Stp NoC w9 lab9 (w9.alloc (.cells #[.int .i64 (xf : Int), .slice o7 bs.length k7, .slice o9 bs.length k9, .slice none 0 0] tRFile)) (ext lab9 w9.heap.size (γ (.file xf))) := Stp.alloc _ _ _ _ _
      replace C7 := C7.stp s10 (fun h => h)
      replace C9 := C9.stp s10 (fun h => h)
      have s510 := s59.trans s10
      change World.cell? (w9.alloc (.cells #[.int .i64 (xf : Int), .slice o7 bs.length k7, .slice o9 bs.length k9, .slice none 0 0] tRFile)) _ = _ ∧ World.cell? (w9.alloc (.cells #[.int .i64 (xf : Int), .slice o7 bs.length k7, .slice o9 bs.length k9, .slice none 0 0] tRFile)) _ = _ ∧ ∀ (d79 : Addr) (w80 : World), IsNew (w9.alloc (.cells #[.int .i64 (xf : Int), .slice o7 bs.length k7, .slice o9 bs.length k9, .slice none 0 0] tRFile)) tNm _ _ _ → _
      generalize w9.alloc (.cells #[.int .i64 (xf : Int), .slice o7 bs.length k7, .slice o9 bs.length k9, .slice none 0 0] tRFile) = w10 at *
      generalize ext lab9 w9.heap.size (γ (.file xf)) = lab10 at *
      generalize w9.heap.size = D at *
      have B10 := B.stp s510 (fun h => h)
      have Cl10 := Cl.stp s510 (fun h => h)
      obtain ⟨b10, g10, hb10, _, hc10, _⟩ := row_name Cl10 hx
      cases hb10
      simp only at hc10
      refine ⟨by rw [add_at]; exact hc10, B10.blk.rd1 rfl, ?_⟩
      let fb2 : Nat → Nat := fun k => if k = xf then D else fb' k
      have efb : ∀ k, k ≠ xf → fb2 k = fb' k := fun k hk => if_neg hk
      have hD : fileV fb2 xf = .pointer (some ⟨D, 0, none⟩) := by simp [fileV, fb2]
      rintro d79 w11 ⟨rfl, rfl⟩
      have Y := Blk.new w10 92 #[.string xn, .pointer (some ⟨D, 0, none⟩)]
      have s11 : Stp NoC w10 lab10 (w10.alloc (.cells #[.string xn, .pointer (some ⟨D, 0, none⟩)] 92)) (ext lab10 w10.heap.size (γ .froz)) := Stp.alloc _ _ _ _ _
      replace C7 := C7.stp s11 (fun h => h)
      replace C9 := C9.stp s11 (fun h => h)
      replace BF := BF.stp s11 (fun h => h)
      have s511 := s510.trans s11
      generalize w10.alloc (.cells #[.string xn, .pointer (some ⟨D, 0, none⟩)] 92) = w11 at *
      generalize ext lab10 w10.heap.size (γ .froz) = lab11 at *
      have B11 := B.stp s511 (fun h => h)
      have N11 := N.stp s511 (fun h => h)
      have X11 := X.stp s511 (fun h => h)
      have i11 := hi.stp s511 (fun h => h)
      have Cl11 := Cl.stp s511 (fun h => h)
      have F11 : ∀ n, n < σ.files → RFAt w11 lab11 γ n (fb' n) (if n ∈ (L.take j).map Prod.snd then sv n else σ.fs n) := fun n hn => (F n hn).stp s511 (fun h => h) (fun h => h) (fun h => h)
      refine ⟨B11.blk.rd1 rfl, ?_⟩
      have hrow : nmC fb2 (L.take j) = nmC fb' (L.take j) := nmC_congr (fun y hy => efb _ (fun e => hxn (e ▸ List.mem_map_of_mem hy)))
      rw [← hD] at Y
      rw [← hrow] at N11
      have hjt : (L.take j).length ≤ 1048576 := by rw [List.length_take]; omega
      obtain ⟨o12, k12, w12, hr12, N12, s12⟩ := push_now N11 Y (by omega)
      refine ⟨_, w12, hr12, _, _, _, rfl, ?_⟩
      have B12 := B11.stp s12 (nn (by simp))
      have X12 := X11.stp s12 (nn (by simp))
      have i12 := i11.stp s12 (cd (by simp))
      have Cl12 := Cl11.stp s12 (nn (by simp))
      replace C7 := C7.stp s12 (nn (by simp))
      replace C9 := C9.stp s12 (nn (by simp))
      replace BF := BF.stp s12 (nn (by simp))
      have F12 : ∀ n, n < σ.files → RFAt w12 (ext lab11 w11.heap.size (γ .now)) γ n (fb' n) (if n ∈ (L.take j).map Prod.snd then sv n else σ.fs n) := fun n hn => (F11 n hn).stp s12 (nn (by simp)) (nn (by simp)) (nn (by simp))
      have S12 := (s5.trans (s511.mono (T := SR γ) (fun _ h => h.elim))).trans (s12.mono (fun c e => e ▸ SR.of (by simp)))
      generalize ext lab11 w11.heap.size (γ .now) = lab12 at *
      refine ⟨B12.blk.canSet (by simp [rdiskA]) rfl, ?_⟩
      rintro _ rfl
      obtain ⟨B13, t13⟩ := rset B12 (Stp.refl (· = γ .disk) w12 lab12) rfl 1 (.slice o12 ((L.take j).length + 1) k12) (cs' := rdiskA σ.cap o12 ((L.take j).length + 1) k12 os σ.sure.length cs om σ.pend.length cm σ.files σ.count σ.fail h σ.down) rfl
      have hl1 : (L.take (j + 1)).length = (L.take j).length + 1 := by rw [htk]; simp
      refine ⟨⟨j + 1, lab12, fb2, o12, k12, rfl, hjl, by rw [hl1]; exact B13, ?_, fun n hn => ?_, fun n hn => ?_, Cl12.stp t13 (nd (by simp)), X12.stp t13 (nd (by simp)), i12.stp t13 (cd (by simp)), S12.trans (t13.mono (fun c e => e ▸ SR.of (by simp)))⟩, by omega⟩
      · rw [hl1, htk]; exact N12.stp t13 (nd (by simp))
      · rw [htk, List.map_append]
        by_cases hnx : n = xf
        · subst hnx
          rw [if_pos (by simp), show fb2 n = D from if_pos rfl]
          refine ⟨o7, k7, o9, k9, none, 0, [], ?_, ?_, ?_, ?_, COw.nil _ _ _ _ _, Pgs.nil⟩
          · simp only [sv, hsu]; exact BF.stp t13 (nd (by simp))
          · simp only [sv, hsu]; exact hk7
          · simp only [sv, hsu]; exact C7.stp t13 (nd (by simp))
          · simp only [sv, hsu]; exact C9.stp t13 (nd (by simp))
        · have e : (n ∈ (L.take j).map Prod.snd ++ [(xn, xf)].map Prod.snd) ↔ n ∈ (L.take j).map Prod.snd := by simp [hnx]
          rw [efb n hnx]
          simp only [e]
          exact (F12 n hn).stp t13 (nd (by simp)) (nd (by simp)) (nd (by simp))
      · rw [htk, List.map_append] at hn
        simp only [List.mem_append, not_or, List.map_cons, List.map_nil, List.mem_singleton] at hn
        rw [efb n hn.2]
        exact hfb n hn.1
  · obtain rfl : j = L.length := by omega
    rw [List.take_length] at B N F hfb
    refine ⟨_, _, _, B.blk.rd1 rfl, ?_⟩
    obtain ⟨o9, k9, w6, hr9, F9⟩ := copy_names (k := cn') (ty := 51) N.row (by omega)
    refine ⟨_, w6, hr9, _, _, _, rfl, ?_⟩
    obtain ⟨C6, s6⟩ := F9.done (lab := lab5) (γ .froz)
    replace C6 := C6.row
    replace B := B.stp s6 (fun h => h)
    have hcap := N.own.cap.1
    replace N := (N.stp s6 (fun h => h)).row
    replace F : ∀ n, n < σ.files → RFAt w6 (ext lab5 w5.heap.size (γ .froz)) γ n (fb' n) (if n ∈ L.map Prod.snd then sv n else σ.fs n) := fun n hn => (F n hn).stp s6 (fun h => h) (fun h => h) (fun h => h)
    replace s5 := s5.trans (s6.mono (T := SR γ) (fun _ h => h.elim))
    generalize ext lab5 w5.heap.size (γ .froz) = lab6 at *
    refine ⟨B.blk.canSet (by simp [rdiskA]) rfl, ?_⟩
    rintro _ rfl
    obtain ⟨B1, t1⟩ := rset B (Stp.refl (· = γ .disk) w6 lab6) rfl 2 (.slice o9 L.length k9) (cs' := rdiskA σ.cap on' L.length cn' o9 L.length k9 om σ.pend.length cm σ.files σ.count σ.fail h σ.down) rfl
    refine ⟨B1.blk.canSet (by simp [rdiskA]) rfl, ?_⟩
    rintro _ rfl
    obtain ⟨B2, t2⟩ := rset B1 t1 rfl 3 (.slice none 0 0) (cs' := rdiskA σ.cap on' L.length cn' o9 L.length k9 none 0 0 σ.files σ.count σ.fail h σ.down) rfl
    refine ⟨B2.blk.canSet (by simp [rdiskA]) rfl, ?_⟩
    rintro _ rfl
    obtain ⟨B3, t3⟩ := rset B2 t2 rfl 6 (.int .i64 0) (cs' := rdiskA σ.cap on' L.length cn' o9 L.length k9 none 0 0 σ.files σ.count 0 h σ.down) rfl
    refine ⟨B3.blk.canSet (by simp [rdiskA]) rfl, ?_⟩
    rintro _ rfl
    obtain ⟨B4, t4⟩ := rset B3 t3 rfl 7 (.int .i64 (-1)) (cs' := rdiskA σ.cap on' L.length cn' o9 L.length k9 none 0 0 σ.files σ.count 0 (-1) σ.down) rfl
    refine ⟨B4.blk.canSet (by simp [rdiskA]) rfl, ?_⟩
    rintro _ rfl
    obtain ⟨B5, t5⟩ := rset B4 t4 rfl 8 (.bool false) (cs' := rdiskA σ.cap on' L.length cn' o9 L.length k9 none 0 0 σ.files σ.count 0 (-1) false) rfl
    refine hR _ _ ⟨rfl, ?_⟩
    rw [hrs]
    exact ⟨lab6, ⟨on', cn', o9, k9, none, 0, fb', -1, ⟨by omega, fun _ => rfl⟩, B5, ⟨hcap, N.stp t5 (nd (by simp)), C6.stp t5 (nd (by simp)), COw.nil _ _ _ _ _, fun n hn => (F n hn).stp t5 (nd (by simp)) (nd (by simp)) (nd (by simp))⟩⟩, s5.trans (t5.mono (fun c e => e ▸ SR.of (by simp)))⟩
end
end Go.Proofs.YtkekehngillblaaGreat
end

section
set_option linter.unusedVariables false
set_option linter.unusedSimpArgs false
namespace Go.Disk
open Go.Vcg
/-- A step of a law. -/
structure Sp where
  what : Int
  a : Nm
  b : Nm
  at_ : Int
  bytes : List UInt8
  names : Int
  ints : List Int
def step (σ : Dk) (s : Sp) : Dk :=
  if s.what = 0 then (create σ s.a).1
  else if s.what = 1 then (append σ s.a s.bytes).1
  else if s.what = 2 then (writeAt σ s.a s.at_ s.bytes).1
  else if s.what = 3 then (truncate σ s.a s.at_).1
  else if s.what = 4 then (sync σ s.a).1
  else if s.what = 5 then (rename σ s.a s.b).1
  else if s.what = 6 then (remove σ s.a).1
  else if s.what = 7 then (syncDir σ).1
  else if s.what = 8 then failAt σ s.at_
  else if s.what = 9 then haltAt σ s.at_
  else if s.what = 10 then restart σ s.names s.ints
  else σ
theorem step_ok {σ : Dk} (h : Ok σ) (s : Sp) (hs : s.at_ < 9223372036854775808) : Ok (step σ s) ∧ (step σ s).count ≤ σ.count + 1 := by
  unfold step
  split
  · exact ⟨create_ok h _, Nat.le_of_eq (create_count _ _)⟩
  split
  · exact ⟨append_ok h _ _, Nat.le_of_eq (append_count _ _ _)⟩
  split
  · exact ⟨writeAt_ok h _ _ _, Nat.le_of_eq (writeAt_count _ _ _ _)⟩
  split
  · exact ⟨truncate_ok h _ _, Nat.le_of_eq (truncate_count _ _ _)⟩
  split
  · exact ⟨sync_ok h _, Nat.le_of_eq (sync_count _ _)⟩
  split
  · exact ⟨rename_ok h _ _, Nat.le_of_eq (rename_count _ _ _)⟩
  split
  · exact ⟨remove_ok h _, Nat.le_of_eq (remove_count _ _)⟩
  split
  · exact ⟨syncDir_ok h, Nat.le_of_eq (syncDir_count _)⟩
  split
  · exact ⟨failAt_ok h _ hs, Nat.le_succ _⟩
  split
  · exact ⟨haltAt_ok h _ hs, Nat.le_succ _⟩
  split
  · exact ⟨restart_ok h _ _, Nat.le_succ _⟩
  · exact ⟨h, Nat.le_succ _⟩
end Go.Disk
namespace Go.Vcg
section
variable {C : Type} {w w' : World} {lab : Nat → C} {cl : C} {e : TypeId} {sz l c : Nat} {o : Option Addr} {xs : List Value}
theorem COw.set (h : COw w lab cl e sz o l c xs) {j : Nat} (hj : j < l * sz) {v : Value} (hv : v.oneCell' = true) :
    ∃ g, o = some ⟨g, 0, none⟩ ∧ CanSet w ⟨g, j, none⟩ v ∧ COw (w.setCell ⟨g, j, none⟩ v) lab cl e sz o l c (xs.set j v) ∧ Stp (· = cl) w lab (w.setCell ⟨g, j, none⟩ v) lab := by
  rcases h.own.2 with ⟨_, rfl, _⟩ | ⟨g, cur, rfl, hb, hlc, hcm, hcs, ht⟩
  · simp at hj
  · have hle : l * sz ≤ c * sz := Nat.mul_le_mul_right _ hlc
    have hcl : lab g = cl := h.clr g ⟨_, rfl, rfl⟩
    refine ⟨g, rfl, hb.canSet (by rw [hcs]; omega) hv, ⟨⟨by rw [List.length_set]; exact h.own.1, .inr ⟨g, _, rfl, hb.set j v, hlc, hcm, by simpa using hcs, ?_⟩⟩, h.clr⟩, Stp.setCell hcl⟩
    rw [Array.toList_setIfInBounds, List.take_set, ht]
end
end Go.Vcg
namespace Go.Proofs.YtkekehngillblaaGreat
open Go Go.Vcg Go.Disk
section
variable {C : Type} {w w' : World} {lab lab' : Nat → C} {c : C}
/-- Bytes are spoilt. -/
theorem Spoil_calls {o : Option Addr} {l k : Nat} {xs : List Value} (h : COw w lab c tU8 1 o l k xs) (hl : l < 2 ^ 62) :
    Calls Tryz.prog morainehelp_Spoil.n #[.slice o l k] w (fun e w' => e = .returned (.tuple #[]) ∧ Stp (· = c) w lab w' lab) := by
  refine morainehelp_Spoil.vc _ _ _ _ _ ?_
  unfold morainehelp_Spoil.Vc
  refine ⟨UpTo l (fun i w' => Stp (· = c) w lab w' lab ∧ ∃ xs', COw w' lab c tU8 1 o l k xs'), Vcg.Left l, ⟨0, rfl, Nat.zero_le _, Stp.refl _ _ _, xs, h⟩, ?_⟩
  rintro _ _ w1 ⟨i, rfl, hi, s1, ys, h1⟩
  refine ⟨fun hlt => ?_, fun hge => ⟨rfl, s1⟩⟩
  obtain ⟨g, rfl, hcs, h2, s2⟩ := h1.set (j := i) (by omega) (v := .int .u8 238) rfl
  refine ⟨_, rfl, by omega, ?_⟩
  rw [Int.toNat_natCast, add_at, Nat.zero_add]
  refine ⟨hcs, ?_⟩
  rintro _ rfl
  exact UpTo.next (by rw [wrap_i64_small (by omega) (by omega)]; omega) (by omega) ⟨s1.trans s2, _, h2⟩
end

/-- Whole numbers that lie somewhere. -/
def RdI (w : World) (o : Option Addr) (is : List Int) : Prop :=
  ∀ i, i < is.length → ∃ b g, o = some ⟨b, g, none⟩ ∧ b < w.heap.size ∧ w.cell? ⟨b, g + i, none⟩ = some (.int .i64 (is.getD i 0))
section
variable {C : Type}
/-- The colours of a pair of disks: the program's, the reference's, what stays, what is spoilt. -/
structure Pal (C : Type) where
  d : DC → C
  r : RC → C
  out : C
  tmp : C
  dinj : ∀ a b, d a = d b → a = b
  rinj : ∀ a b, r a = r b → a = b
  dr : ∀ x y, d x ≠ r y
  dout : ∀ x, d x ≠ out
  dtmp : ∀ x, d x ≠ tmp
  rout : ∀ x, r x ≠ out
  rtmp : ∀ x, r x ≠ tmp
  ot : out ≠ tmp
/-- What a pair's calls may change. -/
def Pal.T (P : Pal C) (c : C) : Prop := SD P.d c ∨ SR P.r c ∨ c = P.tmp
structure G2 (P : Pal C) (w0 : World) (lab0 : Nat → C) (w : World) (lab : Nat → C) (d r : Nat) (σ τ : Dk) : Prop where
  M : Stp P.T w0 lab0 w lab
  D : DAt w lab P.d d σ
  R : RAt w lab P.r r τ
variable {P : Pal C} {w0 w w' : World} {lab0 lab lab' : Nat → C} {d r : Nat} {σ τ σ' τ' : Dk}
theorem Pal.sd_out (P : Pal C) : ¬ SD P.d P.out := by rintro ⟨x, _, h⟩; exact P.dout x h.symm
theorem Pal.sd_tmp (P : Pal C) : ¬ SD P.d P.tmp := by rintro ⟨x, _, h⟩; exact P.dtmp x h.symm
theorem Pal.sd_r (P : Pal C) (x : RC) : ¬ SD P.d (P.r x) := by rintro ⟨y, _, h⟩; exact P.dr y x h.symm
theorem Pal.sr_out (P : Pal C) : ¬ SR P.r P.out := by rintro ⟨x, _, h⟩; exact P.rout x h.symm
theorem Pal.sr_tmp (P : Pal C) : ¬ SR P.r P.tmp := by rintro ⟨x, _, h⟩; exact P.rtmp x h.symm
theorem Pal.sr_d (P : Pal C) (x : DC) : ¬ SR P.r (P.d x) := by rintro ⟨y, _, h⟩; exact P.dr x y h
theorem Pal.t_out (P : Pal C) : ¬ P.T P.out := by
  rintro (h | h | h)
  · exact P.sd_out h
  · exact P.sr_out h
  · exact P.ot h
theorem G2.p (h : G2 P w0 lab0 w lab d r σ τ) (hr : DRes P.d d w lab w' σ') : ∃ lab', G2 P w0 lab0 w' lab' d r σ' τ ∧ Stp (SD P.d) w lab w' lab' := by
  obtain ⟨lab', D, s⟩ := hr
  exact ⟨lab', ⟨h.M.trans (s.mono (fun c h => .inl h)), D, h.R.stp s P.sd_r⟩, s⟩
theorem G2.q (h : G2 P w0 lab0 w lab d r σ τ) (hr : RRes P.r r w lab w' τ') : ∃ lab', G2 P w0 lab0 w' lab' d r σ τ' ∧ Stp (SR P.r) w lab w' lab' := by
  obtain ⟨lab', R, s⟩ := hr
  exact ⟨lab', ⟨h.M.trans (s.mono (fun c h => .inr (.inl h))), h.D.stp s P.sr_d, R⟩, s⟩
theorem G2.t (h : G2 P w0 lab0 w lab d r σ τ) (s : Stp (· = P.tmp) w lab w' lab') : G2 P w0 lab0 w' lab' d r σ τ :=
  ⟨h.M.trans (s.mono (fun c h => .inr (.inr h))), h.D.stp s P.dtmp, h.R.stp s P.rtmp⟩
theorem G2.z (h : G2 P w0 lab0 w lab d r σ τ) (s : Stp NoC w lab w' lab') : G2 P w0 lab0 w' lab' d r σ τ := h.t (s.mono (fun _ h => h.elim))
theorem G2.bytes (h : G2 P w0 lab0 w lab d r σ τ) {o : Option Addr} {bs : List UInt8} (hr : CBy w0 lab0 P.out o bs) : CBy w lab P.out o bs := hr.stp h.M P.t_out
theorem G2.ints (h : G2 P w0 lab0 w lab d r σ τ) {o : Option Addr} {is : List Int} (hr : CInts w0 lab0 P.out o is) : CInts w lab P.out o is := hr.stp h.M P.t_out

theorem does_calls2 (h : G2 P w0 lab0 w lab d r σ σ) (hk : Ok σ) (hc : σ.count < 2 ^ 39) (s : Sp) (hat : s.at_ < 9223372036854775808) (hbl : s.bytes.length ≤ 200) (hil : s.ints.length ≤ 200) (hiv : ∀ x ∈ s.ints, x < 9223372036854775808)
    {o : Option Addr} {k : Nat} (hb : CBy w0 lab0 P.out o s.bytes) {oi : Option Addr} {ki : Nat} (hi : CInts w0 lab0 P.out oi s.ints) :
    Calls Tryz.prog morainelaw1_does.n #[.pointer (some ⟨d, 0, none⟩), .pointer (some ⟨r, 0, none⟩), .agg #[.int .i64 s.what, .string s.a, .string s.b, .int .i64 s.at_, .slice o s.bytes.length k, .int .i64 s.names, .slice oi s.ints.length ki]] w
      (fun e w' => e = .returned (.bool true) ∧ ∃ lab', G2 P w0 lab0 w' lab' d r (Disk.step σ s) (Disk.step σ s)) := by
  have hn : Nums σ := ⟨hc, hk.fail, hk.halt⟩
  have hkb := begins_ok hk
  have hnl := names_few hk
  refine calls_gen fun R hR => morainelaw1_does.vc _ _ _ _ _ _ _ _ _ _ _ _ _ _ _ ?_
  unfold morainelaw1_does.Vc
  rintro d9 w1 ⟨rfl, rfl⟩
  have X := CB.new w lab P.out 37 #[.int .i64 s.what, .string s.a, .string s.b, .int .i64 s.at_, .slice o s.bytes.length k, .int .i64 s.names, .slice oi s.ints.length ki]
  have s1 : Stp NoC w lab (w.alloc (.cells #[.int .i64 s.what, .string s.a, .string s.b, .int .i64 s.at_, .slice o s.bytes.length k, .int .i64 s.names, .slice oi s.ints.length ki] 37)) (ext lab w.heap.size P.out) := Stp.alloc _ _ _ _ _
  replace h := h.z s1
  clear s1
  generalize w.alloc (.cells #[.int .i64 s.what, .string s.a, .string s.b, .int .i64 s.at_, .slice o s.bytes.length k, .int .i64 s.names, .slice oi s.ints.length ki] 37) = w1 at *
  generalize ext lab w.heap.size P.out = lab1 at *
  generalize w.heap.size = D at *
  simp only [add_at, Nat.zero_add]
  have dr : ∀ {w : World} {lab : Nat → C} {t cs}, G2 P w0 lab0 w lab d r σ σ → CB w lab P.out D t cs → G2 P w0 lab0 w.drew lab d r σ σ ∧ CB w.drew lab P.out D t cs := fun h X => ⟨h.z (Stp.drew _ _ _), X.stp (Stp.drew NoC _ _) (fun h => h)⟩
  refine ⟨_, X.blk.rd1 rfl, fun h0 => ?_, fun n0 => ⟨fun h1 => ?_, fun n1 => ⟨fun h2 => ?_, fun n2 => ⟨fun h3 => ?_, fun n3 => ⟨fun h4 => ?_, fun n4 => ⟨fun h5 => ?_, fun n5 => ⟨fun h6 => ?_, fun n6 => ⟨fun h7 => ?_, fun n7 => ⟨fun h8 => ?_, fun n8 => ⟨fun h9 => ?_, fun n9 => ⟨fun h10 => ?_, fun n10 => ⟨fun h11 => ?_, fun n11 => ?_⟩⟩⟩⟩⟩⟩⟩⟩⟩⟩⟩⟩
  · -- create
    have hst : Disk.step σ s = (create σ s.a).1 := by unfold Disk.step; rw [if_pos h0]
    rintro _ rfl
    obtain ⟨h, X⟩ := dr h X
    refine ⟨_, X.blk.rd1 rfl, _, X.blk.rd1 rfl, (Create_calls P.dinj h.D hn hkb s.a).mono ?_⟩
    rintro _ w3 ⟨rfl, hd⟩
    obtain ⟨lab3, h, s3⟩ := h.p hd
    have X := X.stp s3 P.sd_out
    refine ⟨_, rfl, X.blk.rd1 rfl, (RCreate_calls P.rinj h.R hn hkb s.a).mono ?_⟩
    rintro _ w4 ⟨rfl, hd⟩
    obtain ⟨lab4, h, s4⟩ := h.q hd
    exact ⟨_, rfl, hR _ _ ⟨by simp, lab4, by rw [hst]; exact h⟩⟩
  · -- append
    have hst : Disk.step σ s = (append σ s.a s.bytes).1 := by unfold Disk.step; rw [if_neg n0, if_pos h1]
    have hB := h.bytes hb
    refine ⟨_, _, _, X.blk.rd1 rfl, ?_⟩
    obtain ⟨o2, k2, w2, hr2, F2⟩ := copy_bytes' (k2 := k) (ty := tSlU8) (Mod.refl w1) hB.rd (by omega)
    refine ⟨_, w2, hr2, _, _, _, rfl, ?_⟩
    obtain ⟨C2, s2⟩ := F2.done (lab := lab1) P.tmp
    have h := h.z s2
    have X := X.stp s2 (fun h => h)
    generalize ext lab1 w1.heap.size P.tmp = lab2 at *
    rintro _ rfl
    obtain ⟨h, X⟩ := dr h X
    replace C2 := C2.stp (Stp.drew NoC _ _) (fun h => h)
    refine ⟨_, X.blk.rd1 rfl, _, X.blk.rd1 rfl, _, _, _, X.blk.rd1 rfl, (Append_calls P.dinj h.D hn hkb s.a C2.bytes P.sd_tmp (by omega)).mono ?_⟩
    rintro _ w3 ⟨rfl, hd⟩
    obtain ⟨lab3, h, s3⟩ := h.p hd
    have X := X.stp s3 P.sd_out
    replace C2 := C2.stp s3 P.sd_tmp
    refine ⟨_, rfl, X.blk.rd1 rfl, X.blk.rd1 rfl, (RAppend_calls P.rinj h.R hn hkb s.a (h.bytes hb) P.sr_out (by omega)).mono ?_⟩
    rintro _ w4 ⟨rfl, hd⟩
    obtain ⟨lab4, h, s4⟩ := h.q hd
    replace C2 := C2.stp s4 P.sr_tmp
    refine ⟨_, rfl, (Spoil_calls C2 (by omega)).mono ?_⟩
    rintro _ w5 ⟨rfl, s5⟩
    exact ⟨rfl, hR _ _ ⟨by simp, lab4, by rw [hst]; exact h.t s5⟩⟩
  · -- write
    have hst : Disk.step σ s = (writeAt σ s.a s.at_ s.bytes).1 := by unfold Disk.step; rw [if_neg n0, if_neg n1, if_pos h2]
    have hB := h.bytes hb
    refine ⟨_, _, _, X.blk.rd1 rfl, ?_⟩
    obtain ⟨o2, k2, w2, hr2, F2⟩ := copy_bytes' (k2 := k) (ty := tSlU8) (Mod.refl w1) hB.rd (by omega)
    refine ⟨_, w2, hr2, _, _, _, rfl, ?_⟩
    obtain ⟨C2, s2⟩ := F2.done (lab := lab1) P.tmp
    have h := h.z s2
    have X := X.stp s2 (fun h => h)
    generalize ext lab1 w1.heap.size P.tmp = lab2 at *
    rintro _ rfl
    obtain ⟨h, X⟩ := dr h X
    replace C2 := C2.stp (Stp.drew NoC _ _) (fun h => h)
    refine ⟨_, X.blk.rd1 rfl, _, X.blk.rd1 rfl, _, X.blk.rd1 rfl, _, X.blk.rd1 rfl, _, _, _, X.blk.rd1 rfl, (WriteAt_calls P.dinj h.D hn hkb s.a s.at_ C2.bytes P.sd_tmp (by omega)).mono ?_⟩
    rintro _ w3 ⟨rfl, hd⟩
    obtain ⟨lab3, h, s3⟩ := h.p hd
    have X := X.stp s3 P.sd_out
    replace C2 := C2.stp s3 P.sd_tmp
    refine ⟨_, rfl, X.blk.rd1 rfl, X.blk.rd1 rfl, X.blk.rd1 rfl, (RWriteAt_calls P.rinj h.R hn hkb s.a s.at_ (h.bytes hb) P.sr_out (by omega)).mono ?_⟩
    rintro _ w4 ⟨rfl, hd⟩
    obtain ⟨lab4, h, s4⟩ := h.q hd
    replace C2 := C2.stp s4 P.sr_tmp
    refine ⟨_, rfl, (Spoil_calls C2 (by omega)).mono ?_⟩
    rintro _ w5 ⟨rfl, s5⟩
    exact ⟨rfl, hR _ _ ⟨by simp, lab4, by rw [hst]; exact h.t s5⟩⟩
  · -- truncate
    have hst : Disk.step σ s = (truncate σ s.a s.at_).1 := by unfold Disk.step; rw [if_neg n0, if_neg n1, if_neg n2, if_pos h3]
    rintro _ rfl
    obtain ⟨h, X⟩ := dr h X
    refine ⟨_, X.blk.rd1 rfl, _, X.blk.rd1 rfl, _, X.blk.rd1 rfl, _, X.blk.rd1 rfl, (Truncate_calls P.dinj h.D hn hkb s.a s.at_).mono ?_⟩
    rintro _ w3 ⟨rfl, hd⟩
    obtain ⟨lab3, h, s3⟩ := h.p hd
    have X := X.stp s3 P.sd_out
    refine ⟨_, rfl, X.blk.rd1 rfl, X.blk.rd1 rfl, (RTruncate_calls P.rinj h.R hn hkb s.a s.at_).mono ?_⟩
    rintro _ w4 ⟨rfl, hd⟩
    obtain ⟨lab4, h, s4⟩ := h.q hd
    exact ⟨_, rfl, hR _ _ ⟨by simp, lab4, by rw [hst]; exact h⟩⟩
  · -- sync
    have hst : Disk.step σ s = (sync σ s.a).1 := by unfold Disk.step; rw [if_neg n0, if_neg n1, if_neg n2, if_neg n3, if_pos h4]
    rintro _ rfl
    obtain ⟨h, X⟩ := dr h X
    refine ⟨_, X.blk.rd1 rfl, _, X.blk.rd1 rfl, (Sync_calls P.dinj h.D hn hkb s.a).mono ?_⟩
    rintro _ w3 ⟨rfl, hd⟩
    obtain ⟨lab3, h, s3⟩ := h.p hd
    have X := X.stp s3 P.sd_out
    refine ⟨_, rfl, X.blk.rd1 rfl, (RSync_calls P.rinj h.R hn hkb s.a).mono ?_⟩
    rintro _ w4 ⟨rfl, hd⟩
    obtain ⟨lab4, h, s4⟩ := h.q hd
    exact ⟨_, rfl, hR _ _ ⟨by simp, lab4, by rw [hst]; exact h⟩⟩
  · -- rename
    have hst : Disk.step σ s = (rename σ s.a s.b).1 := by unfold Disk.step; rw [if_neg n0, if_neg n1, if_neg n2, if_neg n3, if_neg n4, if_pos h5]
    rintro _ rfl
    obtain ⟨h, X⟩ := dr h X
    refine ⟨_, X.blk.rd1 rfl, _, X.blk.rd1 rfl, _, X.blk.rd1 rfl, _, X.blk.rd1 rfl, (Rename_calls P.dinj h.D hn hkb s.a s.b).mono ?_⟩
    rintro _ w3 ⟨rfl, hd⟩
    obtain ⟨lab3, h, s3⟩ := h.p hd
    have X := X.stp s3 P.sd_out
    refine ⟨_, rfl, X.blk.rd1 rfl, X.blk.rd1 rfl, (RRename_calls P.rinj h.R hn hkb s.a s.b).mono ?_⟩
    rintro _ w4 ⟨rfl, hd⟩
    obtain ⟨lab4, h, s4⟩ := h.q hd
    exact ⟨_, rfl, hR _ _ ⟨by simp, lab4, by rw [hst]; exact h⟩⟩
  · -- remove
    have hst : Disk.step σ s = (remove σ s.a).1 := by unfold Disk.step; rw [if_neg n0, if_neg n1, if_neg n2, if_neg n3, if_neg n4, if_neg n5, if_pos h6]
    rintro _ rfl
    obtain ⟨h, X⟩ := dr h X
    refine ⟨_, X.blk.rd1 rfl, _, X.blk.rd1 rfl, (Remove_calls P.dinj h.D hn hkb s.a).mono ?_⟩
    rintro _ w3 ⟨rfl, hd⟩
    obtain ⟨lab3, h, s3⟩ := h.p hd
    have X := X.stp s3 P.sd_out
    refine ⟨_, rfl, X.blk.rd1 rfl, (RRemove_calls P.rinj h.R hn hkb s.a).mono ?_⟩
    rintro _ w4 ⟨rfl, hd⟩
    obtain ⟨lab4, h, s4⟩ := h.q hd
    exact ⟨_, rfl, hR _ _ ⟨by simp, lab4, by rw [hst]; exact h⟩⟩
  · -- syncDir
    have hst : Disk.step σ s = (syncDir σ).1 := by unfold Disk.step; rw [if_neg n0, if_neg n1, if_neg n2, if_neg n3, if_neg n4, if_neg n5, if_neg n6, if_pos h7]
    refine (SyncDir_calls P.dinj h.D hn).mono ?_
    rintro _ w3 ⟨rfl, hd⟩
    obtain ⟨lab3, h, s3⟩ := h.p hd
    refine ⟨_, rfl, (RSyncDir_calls P.rinj h.R hn hkb).mono ?_⟩
    rintro _ w4 ⟨rfl, hd⟩
    obtain ⟨lab4, h, s4⟩ := h.q hd
    exact ⟨_, rfl, hR _ _ ⟨by simp, lab4, by rw [hst]; exact h⟩⟩
  · -- fail
    have hst : Disk.step σ s = failAt σ s.at_ := by unfold Disk.step; rw [if_neg n0, if_neg n1, if_neg n2, if_neg n3, if_neg n4, if_neg n5, if_neg n6, if_neg n7, if_pos h8]
    refine ⟨_, X.blk.rd1 rfl, (Fail_calls P.dinj h.D s.at_).mono ?_⟩
    rintro _ w3 ⟨rfl, hd⟩
    obtain ⟨lab3, h, s3⟩ := h.p hd
    have X := X.stp s3 P.sd_out
    refine ⟨rfl, _, X.blk.rd1 rfl, (RFail_calls P.rinj h.R s.at_).mono ?_⟩
    rintro _ w4 ⟨rfl, hd⟩
    obtain ⟨lab4, h, s4⟩ := h.q hd
    exact ⟨rfl, hR _ _ ⟨rfl, lab4, by rw [hst]; exact h⟩⟩
  · -- halt
    have hst : Disk.step σ s = haltAt σ s.at_ := by unfold Disk.step; rw [if_neg n0, if_neg n1, if_neg n2, if_neg n3, if_neg n4, if_neg n5, if_neg n6, if_neg n7, if_neg n8, if_pos h9]
    refine ⟨_, X.blk.rd1 rfl, (Halt_calls P.dinj h.D s.at_).mono ?_⟩
    rintro _ w3 ⟨rfl, hd⟩
    obtain ⟨lab3, h, s3⟩ := h.p hd
    have X := X.stp s3 P.sd_out
    refine ⟨rfl, _, X.blk.rd1 rfl, (RHalt_calls P.rinj h.R s.at_ hat).mono ?_⟩
    rintro _ w4 ⟨rfl, hd⟩
    obtain ⟨lab4, h, s4⟩ := h.q hd
    exact ⟨rfl, hR _ _ ⟨rfl, lab4, by rw [hst]; exact h⟩⟩
  · -- restart
    have hst : Disk.step σ s = restart σ s.names s.ints := by unfold Disk.step; rw [if_neg n0, if_neg n1, if_neg n2, if_neg n3, if_neg n4, if_neg n5, if_neg n6, if_neg n7, if_neg n8, if_neg n9, if_pos h10]
    refine ⟨_, _, _, _, X.blk.rd1 rfl, X.blk.rd1 rfl, (Restart_calls P.dinj h.D hk (by omega) s.names (h.ints hi) P.sd_out hiv (by omega)).mono ?_⟩
    rintro _ w3 ⟨rfl, hd⟩
    obtain ⟨lab3, h, s3⟩ := h.p hd
    have X := X.stp s3 P.sd_out
    refine ⟨rfl, _, _, _, _, X.blk.rd1 rfl, X.blk.rd1 rfl, (RRestart_calls P.rinj h.R hk (by omega) s.names (h.ints hi) P.sr_out hiv (by omega)).mono ?_⟩
    rintro _ w4 ⟨rfl, hd⟩
    obtain ⟨lab4, h, s4⟩ := h.q hd
    exact ⟨rfl, hR _ _ ⟨rfl, lab4, by rw [hst]; exact h⟩⟩
  · -- read
    have hst : Disk.step σ s = σ := by unfold Disk.step; rw [if_neg n0, if_neg n1, if_neg n2, if_neg n3, if_neg n4, if_neg n5, if_neg n6, if_neg n7, if_neg n8, if_neg n9, if_neg n10]
    refine ⟨_, X.blk.rd1 rfl, _, X.blk.rd1 rfl, _, _, _, X.blk.rd1 rfl, (ReadAt_calls h.D hk s.a s.at_ _ (by omega) P.tmp).mono ?_⟩
    rintro _ w3 ⟨o3, k3, rfl, lab3, D3, C3, s3⟩
    obtain ⟨lab3', h, s3'⟩ : ∃ lab', G2 P w0 lab0 w3 lab' d r σ σ ∧ lab' = lab3 := ⟨lab3, ⟨h.M.trans (s3.mono (fun c h => .inl h)), D3, h.R.stp s3 P.sd_r⟩, rfl⟩
    subst s3'
    have X := X.stp s3 P.sd_out
    refine ⟨_, _, _, _, rfl, _, X.blk.rd1 rfl, _, X.blk.rd1 rfl, _, _, _, X.blk.rd1 rfl, ?_⟩
    obtain ⟨on, cn, os, cs, om, cm, fb, hh, H⟩ := h.R.in
    have hlen : (Disk.readAt σ s.a s.at_ ((s.bytes.length : Nat) : Int)).1.length < 2 ^ 62 := by
      have hcap := C3.own.cap
      simp only [maxLen] at hcap
      have : (Disk.readAt σ s.a s.at_ ((s.bytes.length : Nat) : Int)).1.length ≤ 200 := by
        unfold Disk.readAt
        split
        · split
          · simp
          · simp only [List.length_take]; omega
        · simp
      omega
    refine (RReadAt_calls H hk hnl s.a s.at_ _ (by omega)).mono ?_
    rintro _ w4 ⟨rfl, o4, k4, rfl, hB4⟩
    refine ⟨_, _, _, _, rfl, fun _ => ?_, fun hne => (hne rfl).elim⟩
    refine (Bytes_calls C3.bytes.rd hB4.rd).mono ?_
    rintro _ w5 ⟨rfl, rfl⟩
    refine ⟨_, rfl, (Spoil_calls C3 hlen).mono ?_⟩
    rintro _ w6 ⟨rfl, s6⟩
    exact ⟨rfl, hR _ _ ⟨by simp, lab3', by rw [hst]; exact h.t s6⟩⟩
  · have hst : Disk.step σ s = σ := by unfold Disk.step; rw [if_neg n0, if_neg n1, if_neg n2, if_neg n3, if_neg n4, if_neg n5, if_neg n6, if_neg n7, if_neg n8, if_neg n9, if_neg n10]
    exact hR _ _ ⟨rfl, lab1, by rw [hst]; exact h⟩
end
end Go.Proofs.YtkekehngillblaaGreat
end
