/- The program's disk: a new one; parts of files; what survives. -/
import Derived.Test.YtkekehngillblaaDP9
set_option linter.unusedVariables false
set_option linter.unusedSimpArgs false
namespace Go.Disk
def stepPt (b : List UInt8) (left : Int) : Pt → List UInt8 × Int
  | .wr a c => if (c.length : Int) > left then (lay b a (c.take left.toNat), -1) else (lay b a c, left - c.length)
  | .cut n => if left < 1 then (b, -1) else (b.take n, left - 1)
theorem survive_step (b : List UInt8) (p : Pt) (r : List Pt) (left : Int) (h : 0 ≤ left) : survive b (p :: r) left = if (stepPt b left p).2 < 0 then (stepPt b left p).1 else survive (stepPt b left p).1 r (stepPt b left p).2 := by
  cases p with
  | wr a c =>
    by_cases hc : (c.length : Int) > left
    · have e : stepPt b left (.wr a c) = (lay b a (c.take left.toNat), -1) := by simp only [stepPt, if_pos hc]
      rw [e, survive, if_pos hc, if_pos (show (-1 : Int) < 0 by omega)]
    · have e : stepPt b left (.wr a c) = (lay b a c, left - c.length) := by simp only [stepPt, if_neg hc]
      rw [e, survive, if_neg hc, if_neg (show ¬ left - (c.length : Int) < 0 by omega)]
  | cut n =>
    by_cases hc : left < 1
    · have e : stepPt b left (.cut n) = (b, -1) := by simp only [stepPt, if_pos hc]
      rw [e, survive, if_pos hc, if_pos (show (-1 : Int) < 0 by omega)]
    · have e : stepPt b left (.cut n) = (b.take n, left - 1) := by simp only [stepPt, if_neg hc]
      rw [e, survive, if_neg hc, if_neg (show ¬ left - 1 < 0 by omega)]
end Go.Disk
namespace Go.Proofs.Ytkekehngillblaa
open Go Go.Vcg Go.Disk
section
variable {C : Type} {w w' : World} {lab lab' : Nat → C} {γ : DC → C} {d : Nat} {σ : Dk} {c : C} {m : Nat}
variable {mN mS : Nat} {po : Option Addr} {pl pc : Nat} {fb : Nat → Nat} {names sure l : List (Nm × Nat)} {pend : List Chg} {files files0 : Nat} {fs : Nat → Fl}

theorem New_calls (w : World) (lab : Nat → C) (γ : DC → C) (cap : Int) :
    Calls Try.prog disk_New.n #[.int .i64 cap] w (fun e w' => ((cap < 0 ∨ cap > 67108864) ∧ e = .returned (.tuple #[.pointer none, .int .i64 10]) ∧ w' = w) ∨
      (¬ (cap < 0 ∨ cap > 67108864) ∧ ∃ d lab', e = .returned (.tuple #[.pointer (some ⟨d, 0, none⟩), .int .i64 0]) ∧ DAt w' lab' γ d (Disk.new cap) ∧ Stp NoC w lab w' lab')) := by
  refine disk_New.vc _ _ _ ?_
  unfold disk_New.Vc
  refine ⟨fun h => .inl ⟨.inl h, rfl, rfl⟩, fun h1 => ⟨fun h => .inl ⟨.inr h, rfl, rfl⟩, fun h2 => ?_⟩⟩
  have hmk : ∀ w : World, Sem.run Try.prog (Instr.makeMap tNaming none) w = .ok (.map (some w.heap.size)) (w.alloc (.map #[] 0)) := fun _ => rfl
  refine ⟨_, _, hmk w, _, rfl, _, _, hmk _, _, rfl, ?_⟩
  have s1 : Stp NoC w lab (w.alloc (.map #[] 0)) (ext lab w.heap.size (γ .names)) := Stp.alloc _ _ _ _ _
  have N1 : NamesAt (w.alloc (.map #[] 0)) (ext lab w.heap.size (γ .names)) (γ .names) w.heap.size (fun _ => 0) [] := ⟨[], ⟨MapAt.made w, ext_new (Nat.le_refl _)⟩, List.Perm.refl _⟩
  generalize w.heap.size = mN at *
  generalize w.alloc (.map #[] 0) = w1 at *
  generalize ext lab mN (γ .names) = lab1 at *
  have s2 : Stp NoC w1 lab1 (w1.alloc (.map #[] 0)) (ext lab1 w1.heap.size (γ .sure)) := Stp.alloc _ _ _ _ _
  have N2 : NamesAt (w1.alloc (.map #[] 0)) (ext lab1 w1.heap.size (γ .sure)) (γ .sure) w1.heap.size (fun _ => 0) [] := ⟨[], ⟨MapAt.made w1, ext_new (Nat.le_refl _)⟩, List.Perm.refl _⟩
  have N1 := N1.stp s2 (fun h => h)
  generalize w1.heap.size = mS at *
  generalize w1.alloc (.map #[] 0) = w2 at *
  generalize ext lab1 mS (γ .sure) = lab2 at *
  rintro d w3 ⟨rfl, rfl⟩
  have e : setsAt (setsAt (setsAt (setsAt #[(.int .i64 0), (.map none), (.map none), (.slice none 0 0), (.int .i64 0), (.int .i64 0), (.int .i64 0), (.int .i64 0), (.bool false)] 0 [(.int .i64 cap)]) 1 [(.map (some mN))]) 2 [(.map (some mS))]) 7 [(.int .i64 (-1))] = diskA cap mN mS none 0 0 0 0 0 (-1) false := rfl
  rw [e]
  have s3 : Stp NoC w2 lab2 (w2.alloc (.cells (diskA cap mN mS none 0 0 0 0 0 (-1) false) tDisk)) (ext lab2 w2.heap.size (γ .disk)) := Stp.alloc _ _ _ _ _
  refine .inr ⟨fun h => h.elim h1 h2, w2.heap.size, _, rfl, ⟨mN, mS, none, 0, 0, fun _ => 0, CB.new w2 lab2 (γ .disk) tDisk _, ⟨N1.stp s3 (fun h => h), N2.stp s3 (fun h => h), COw.nil _ _ _ _ _, fun n hn => absurd hn (Nat.not_lt_zero _)⟩⟩, (s1.trans s2).trans s3⟩

theorem subO_sub {o : Option Addr} {c lo : Nat} : subO o c lo 1 = subO o c lo 1 := rfl
theorem ReadAt_calls (h : DAt w lab γ d σ) (hk : Ok σ) (s : Nm) (at_ n : Int) (hn : n < 2 ^ 62) (c : C) :
    Calls Try.prog disk_Disk_ReadAt.n #[.pointer (some ⟨d, 0, none⟩), .string s, .int .i64 at_, .int .i64 n] w (fun e w' => ∃ o k, e = .returned (.tuple #[.slice o (Disk.readAt σ s at_ n).1.length k, .int .i64 (Disk.readAt σ s at_ n).2]) ∧
      ∃ lab', DAt w' lab' γ d σ ∧ COw w' lab' c tU8 1 o (Disk.readAt σ s at_ n).1.length k ((Disk.readAt σ s at_ n).1.map bV) ∧ Stp (SD γ) w lab w' lab') := by
  refine calls_gen fun R hR => disk_Disk_ReadAt.vc _ _ _ _ _ _ ?_
  unfold disk_Disk_ReadAt.Vc
  refine (asked_calls h s).mono ?_
  rintro _ w1 ⟨o, nn, rfl, rfl, hD, hf⟩
  have bad : ∀ er, Disk.readAt σ s at_ n = ([], er) → R (.returned (.tuple #[.slice none 0 0, .int .i64 er])) w1 := by
    intro er he
    refine hR _ _ ?_
    rw [he]
    obtain ⟨lab1, D1, s1⟩ := hD
    exact ⟨none, 0, rfl, lab1, D1, COw.nil _ _ _ _ _, s1⟩
  refine ⟨_, _, rfl, fun hne => bad _ ?_, fun h0 => ?_⟩
  · unfold Disk.readAt Disk.read
    rw [if_neg (show ¬ (asked σ s).2 = 0 from hne), if_neg (show ¬ ((([] : List UInt8), (asked σ s).2).2 = 0) from hne)]
  · obtain ⟨f, hf1, hr1, lab1, mN, mS, po, pl, pc, fb, B, Rt, hv, s1⟩ := hf h0
    cases hv
    have hfn : (asked σ s).1 = f := by
      unfold asked at h0 ⊢
      split at h0
      · cases h0
      · rename_i hd
        rw [if_neg hd]
        exact named_fst hr1 hf1
    have hrd : Disk.read σ s = ((σ.fs f).bytes, 0) := by unfold Disk.read; rw [if_pos h0, hfn]
    have hra : Disk.readAt σ s at_ n = if at_ < 0 ∨ n < 0 ∨ at_ > (σ.fs f).bytes.length ∨ n > (σ.fs f).bytes.length - at_ then ([], 14) else (((σ.fs f).bytes.drop at_.toNat).take n.toNat, 0) := by
      unfold Disk.readAt; rw [hrd]; simp only [if_true]
    have hin : f < _ := hk.names.files _ (assoc_some hf1)
    have DW : DAt w1 lab1 γ d σ := ⟨mN, mS, po, pl, pc, fb, B, Rt⟩
    obtain ⟨fo, l, k, so, sl, sc, fpo, fpl, fpc, vs, hF⟩ := Rt.files f hin
    have hbl : l = (σ.fs f).bytes.length := by have := hF.bytes.own.len; simpa using this.symm
    have hlk := hF.bytes.own.cap
    have hsz := (hk.size f hin).2
    simp only [most] at hsz
    refine ⟨fun h => bad _ (by rw [hra, if_pos (.inl h)]), fun h1 => ⟨fun h => bad _ (by rw [hra, if_pos (.inr (.inl h))]), fun h2 => ⟨_, rfl, ?_⟩⟩⟩
    simp only [add_at, Nat.zero_add]
    refine ⟨_, _, _, hF.cells.blk.rd1 rfl, fun h => bad _ (by rw [hra, if_pos (.inr (.inr (.inl (by omega))))]), fun h3 => ⟨_, rfl, ?_⟩⟩
    simp only [add_at, Nat.zero_add]
    refine ⟨_, _, _, hF.cells.blk.rd1 rfl, ?_⟩
    rw [show IntKind.wrap .i64 (((l : Nat) : Int) - at_) = (l : Int) - at_ from wrap_i64_small (by omega) (by omega)]
    refine ⟨fun h => bad _ (by rw [hra, if_pos (.inr (.inr (.inr (by omega))))]), fun h4 => ⟨_, rfl, ?_⟩⟩
    simp only [add_at, Nat.zero_add]
    rw [show IntKind.wrap .i64 (at_ + n) = at_ + n from wrap_i64_small (by omega) (by omega)]
    refine ⟨_, _, _, hF.cells.blk.rd1 rfl, by omega, by omega, ?_⟩
    have hlen : (((σ.fs f).bytes.drop at_.toNat).take n.toNat).length = (at_ + n).toNat - at_.toNat := by rw [List.length_take, List.length_drop]; omega
    have hC := Clone_calls (c := k - at_.toNat) (hF.bytes.bytes.rd.sub (lo := at_.toNat) (n := n.toNat) (c := k) (by omega)) (by rw [hlen]; omega)
    rw [hlen] at hC
    refine hC.mono ?_
    rintro _ w2 ⟨o2, k2, rfl, ow2, M2, hF2⟩
    refine ⟨_, _, _, rfl, hR _ _ ?_⟩
    have sN : Stp NoC w1 lab1 w2 (ext lab1 w1.heap.size c) := Stp.of_nob M2 _
    rw [hra, if_neg (by omega)]
    refine ⟨o2, k2, by rw [hlen], _, DW.stp sN (fun _ h => h), ⟨by rw [hlen]; exact ow2, fun k hk => ext_new (hF2 k hk)⟩, s1.trans (sN.mono (fun _ h => h.elim))⟩

/-! ### what survives -/
/-- A pending change of bytes is done, as far as it is. -/
theorem onPt_calls {v : Value} {p : Pt} {cf cB : C} (hv : PtV w lab cf v p) (hcf : cf ≠ cB) {o : Option Addr} {l k : Nat} {bs : List UInt8} (hb : COw w lab cB tU8 1 o l k (bs.map bV)) {left : Int} (h0 : 0 ≤ left) (hl : left < 9223372036854775808) {r : List Pt} {b' : List UInt8} (hok : PtsOk bs (p :: r) b')
    (hsz : bs.length ≤ most) :
    CallsM Try.prog v "moraine/disk.on" #[.slice o l k, .int .i64 left] w (fun e w' => ∃ o' l' k' lab', e = .returned (.tuple #[.slice o' l' k', .int .i64 (stepPt bs left p).2]) ∧ COw w' lab' cB tU8 1 o' l' k' ((stepPt bs left p).1.map bV) ∧ Stp (· = cB) w lab w' lab') := by
  simp only [most] at hsz
  have hbl : bs.length = l := by have := hb.own.len; simpa using this
  have hlk := hb.own.cap
  cases p with
  | wr a by_ =>
    obtain ⟨wo, wk, rfl, hwk, hby⟩ := hv
    obtain ⟨hat, hlen, _⟩ := hok
    rw [length_lay hat] at hlen
    simp only [most] at hlen
    refine ⟨_, _, _, _, rfl, m_wr w _ _ _ _, by kernel_rfl, ?_⟩
    refine calls_gen fun R hR => disk_written_on.vc _ _ _ _ _ _ _ _ w _ ?_
    unfold disk_written_on.Vc
    rintro d4 w1 ⟨rfl, rfl⟩
    have B := Blk.new w tWritten #[.int .i64 (a : Int), .slice wo by_.length wk]
    have s1 : Stp NoC w lab (w.alloc (.cells #[.int .i64 (a : Int), .slice wo by_.length wk] tWritten)) (ext lab w.heap.size cf) := Stp.alloc _ _ _ _ _
    have BC := CB.new w lab cf tWritten #[.int .i64 (a : Int), .slice wo by_.length wk]
    have hb1 := hb.stp s1 (fun h => h)
    have hby1 := hby.stp s1 (fun h => h)
    generalize w.alloc (.cells #[.int .i64 (a : Int), .slice wo by_.length wk] tWritten) = w1 at *
    generalize ext lab w.heap.size cf = lab1 at *
    generalize w.heap.size = D at *
    simp only [add_at, Nat.zero_add]
    -- bytes are laid
    have lays : ∀ (w2 : World) (S2 : Stp NoC w1 lab1 w2 lab1) (by2 : List UInt8) (hr2 : RdB w2 wo by2) (hl2 : by2.length ≤ 2 ^ 38) (k2 : Nat), Calls Try.prog disk_laid.n #[.slice o l k, .int .i64 (a : Int), .slice wo by2.length k2] w2 (fun e w' => ∃ o' l' k' lab', e = .returned (.slice o' l' k') ∧ COw w' lab' cB tU8 1 o' l' k' ((lay bs a by2).map bV) ∧ CB w' lab' cf D tWritten #[.int .i64 (a : Int), .slice wo by_.length wk] ∧ Stp (· = cB) w1 lab1 w' lab') := by
      intro w2 S2 by2 hr2 hl2 k2
      have hb2 := hb1.stp S2 (fun h => h)
      refine (laid_calls hb2.own hr2 rfl (by omega) (by omega) hl2).mono ?_
      rintro _ w3 ⟨o3, k3, rfl, ow3, M3, hF3⟩
      have s3 : Stp (· = cB) w2 lab1 w3 (ext lab1 w2.heap.size cB) := Stp.of_mod M3 _ (fun k _ hk => hb2.clr k hk)
      refine ⟨o3, _, k3, _, rfl, ⟨ow3, fun k hk => ?_⟩, (BC.stp S2 (fun h => h)).stp s3 hcf, (S2.mono (fun _ h => h.elim)).trans s3⟩
      by_cases hlt : k < w2.heap.size
      · rw [ext_old hlt]
        rcases hF3 k hk with h | h
        · exact hb2.clr k h
        · omega
      · exact ext_new (by omega)
    have s1' : Stp (· = cB) w lab w1 lab1 := s1.mono (fun _ h => h.elim)
    refine ⟨_, _, _, B.rd1 rfl, fun hgt => ?_, fun hle => ?_⟩
    · rintro _ rfl
      have hlt : left.toNat ≤ by_.length := by omega
      refine ⟨_, B.drew.rd1 rfl, _, _, _, B.drew.rd1 rfl, by omega, ?_⟩
      have hL := lays w1.drew (Stp.drew _ _ _) (by_.take left.toNat) ((hby1.rd.mod' (Mod.drew w1)).take _) (by rw [List.length_take]; omega) wk
      rw [List.length_take, Nat.min_eq_left hlt] at hL
      refine hL.mono ?_
      rintro _ w3 ⟨o3, l3, k3, lab3, rfl, h3, _, s3⟩
      refine ⟨_, _, _, rfl, hR _ _ ⟨o3, l3, k3, lab3, ?_, ?_, s1'.trans s3⟩⟩
      · simp only [stepPt, if_pos hgt]
      · simp only [stepPt, if_pos hgt]; exact h3
    · rintro _ rfl
      refine ⟨_, B.drew.rd1 rfl, _, _, _, B.drew.rd1 rfl, _, _, _, B.drew.rd1 rfl, ?_⟩
      refine (lays w1.drew (Stp.drew _ _ _) by_ (hby1.rd.mod' (Mod.drew w1)) (by omega) wk).mono ?_
      rintro _ w3 ⟨o3, l3, k3, lab3, rfl, h3, B3, s3⟩
      refine ⟨_, _, _, rfl, B3.blk.rd1 rfl, hR _ _ ⟨o3, l3, k3, lab3, ?_, ?_, s1'.trans s3⟩⟩
      · simp only [stepPt, if_neg hle]
        rw [wrap_i64_small (by omega) (by omega)]
      · simp only [stepPt, if_neg hle]; exact h3
  | cut n =>
    obtain rfl : v = _ := hv
    obtain ⟨hn, _⟩ := hok
    refine ⟨_, _, _, _, rfl, m_cut w _, by kernel_rfl, ?_⟩
    refine calls_gen fun R hR => disk_cut_on.vc _ _ _ _ _ w _ ?_
    unfold disk_cut_on.Vc
    rintro d3 w1 ⟨rfl, rfl⟩
    have B := Blk.new w tCut #[.int .i64 (n : Int)]
    have s1 : Stp NoC w lab (w.alloc (.cells #[.int .i64 (n : Int)] tCut)) (ext lab w.heap.size cf) := Stp.alloc _ _ _ _ _
    have hb1 := hb.stp s1 (fun h => h)
    have s1' : Stp (· = cB) w lab _ _ := s1.mono (fun _ h => h.elim)
    generalize w.alloc (.cells #[.int .i64 (n : Int)] tCut) = w1 at *
    generalize ext lab w.heap.size cf = lab1 at *
    refine ⟨fun h1 => hR _ _ ⟨o, l, k, lab1, ?_, ?_, s1'⟩, fun h1 => ⟨_, B.rd1 rfl, by omega, hR _ _ ⟨o, n, k, lab1, ?_, ?_, s1'⟩⟩⟩
    · simp only [stepPt, if_pos h1]
    · simp only [stepPt, if_pos h1]; exact hb1
    · simp only [stepPt, if_neg h1, Int.toNat_natCast]
      rw [wrap_i64_small (by omega) (by omega)]
    · simp only [stepPt, if_neg h1]
      refine ⟨⟨by rw [List.length_map, List.length_take]; omega, ?_⟩, hb1.clr⟩
      rcases hb1.own.2 with ⟨rfl, rfl, rfl⟩ | ⟨g, cur, rfl, hB, hlc, hcm, hcs, htk⟩
      · exact .inl ⟨rfl, by omega, rfl⟩
      · refine .inr ⟨g, cur, rfl, hB, by omega, hcm, hcs, ?_⟩
        rw [List.map_take, ← htk, List.take_take]
        congr 1; omega

/-- The end of 'survives'. -/
def SurvTail (d0 : Addr) (o22 : Option Addr) (l23 l24 : Nat) (w21 : World) (R : Ending → World → Prop) : Prop :=
  CanSet w21 (Addr.add d0 1) (.slice o22 l23 l24) ∧ ∀ w26 : World, IsSet w21 (Addr.add d0 1) (.slice o22 l23 l24) w26 →
  CanSet w26 (Addr.add d0 3) (.slice none 0 0) ∧ ∀ w27 : World, IsSet w26 (Addr.add d0 3) (.slice none 0 0) w27 →
  Calls Try.prog slices_Clone_byte_byte.n #[(.slice o22 l23 l24)] w27 (fun e28 w29 =>
    ∃ o30 : Option Addr, ∃ l31 : Nat, ∃ l32 : Nat, e28 = .returned (.slice o30 l31 l32) ∧
    CanSet w29 (Addr.add d0 2) (.slice o30 l31 l32) ∧ ∀ w33 : World, IsSet w29 (Addr.add d0 2) (.slice o30 l31 l32) w33 →
    R (.returned (.tuple #[])) w33)

theorem survives_calls (hγ : ∀ a b, γ a = γ b → a = b) {n b : Nat} {f : Fl} (hF : FAt w lab γ n b f) (hok : PtsOk f.sure f.pend f.bytes) (hs : f.sure.length ≤ most) {left : Int} (h0 : 0 ≤ left) (hl : left < 9223372036854775808) (hp : f.pend.length < 2 ^ 40) :
    Calls Try.prog disk_file_survives.n #[.pointer (some ⟨b, 0, none⟩), .int .i64 left] w (fun e w' => e = .returned (.tuple #[]) ∧ ∃ lab', FAt w' lab' γ n b ⟨survive f.sure f.pend left, survive f.sure f.pend left, []⟩ ∧ Stp (Fs γ n) w lab w' lab') := by
  have ne : ∀ {x y : DC}, x ≠ y → ¬ γ x = γ y := fun h e => h (hγ _ _ e)
  obtain ⟨o, l, k, so, sl, sc, po, pl, pc, vs, hF⟩ := hF
  have hpl : pl = f.pend.length := by have := hF.pend.own.1; rw [← hF.pts.len]; simpa using this.symm
  have hs' := hs
  simp only [most] at hs
  refine calls_gen fun R hR => disk_file_survives.vc _ _ _ _ ?_
  unfold disk_file_survives.Vc
  -- the end
  have tail : ∀ (w1 : World) (lab1 : Nat → C) (so sl sc : _) (o1 : Option Addr) (l1 k1 : Nat) (bs : List UInt8) (c1 : Value), CB w1 lab1 (γ (.file n)) b tFile #[.int .i64 (n : Int), c1, .slice so sl sc, .slice po pl pc] → COw w1 lab1 (γ (.bytes n)) tU8 1 o1 l1 k1 (bs.map bV) → Stp (Fs γ n) w lab w1 lab1 →
      bs = survive f.sure f.pend left → bs.length ≤ 2 ^ 38 → SurvTail ⟨b, 0, none⟩ o1 l1 k1 w1 R := by
    intro w1 lab1 so sl sc o1 l1 k1 bs c1 C1 b1 s1 hbs hlen
    unfold SurvTail
    simp only [add_at, Nat.zero_add]
    have hbl : l1 = bs.length := by have := b1.own.len; simpa using this.symm
    refine ⟨C1.blk.canSet (by simp) rfl, ?_⟩
    rintro _ rfl
    have s2 : Stp (· = γ (.file n)) w1 lab1 (w1.setCell ⟨b, 1, none⟩ (.slice o1 l1 k1)) lab1 := Stp.setCell C1.clr
    have C2 := C1.set 1 (.slice o1 l1 k1)
    have b2 := b1.stp s2 (ne (by simp))
    generalize w1.setCell ⟨b, 1, none⟩ (.slice o1 l1 k1) = w2 at *
    refine ⟨C2.blk.canSet (by simp) rfl, ?_⟩
    rintro _ rfl
    have s3 : Stp (· = γ (.file n)) w2 lab1 (w2.setCell ⟨b, 3, none⟩ (.slice none 0 0)) lab1 := Stp.setCell C2.clr
    have C3 := C2.set 3 (.slice none 0 0)
    have b3 := b2.stp s3 (ne (by simp))
    generalize w2.setCell ⟨b, 3, none⟩ (.slice none 0 0) = w3 at *
    have hC := Clone_calls (c := k1) b3.bytes.rd (by omega)
    rw [← hbl] at hC
    refine hC.mono ?_
    rintro _ w4 ⟨o4, k4, rfl, ow4, M4, hF4⟩
    refine ⟨_, _, _, rfl, ?_⟩
    have sN : Stp NoC w3 lab1 w4 (ext lab1 w3.heap.size (γ .froz)) := Stp.of_nob M4 _
    have c4 : CBy w4 (ext lab1 w3.heap.size (γ .froz)) (γ .froz) o4 bs := ⟨ow4.bytes, fun _ x hx => ext_new (hF4 _ ⟨x, hx, rfl⟩)⟩
    have C4 := C3.stp sN (fun h => h)
    have b4 := b3.stp sN (fun h => h)
    generalize ext lab1 w3.heap.size (γ .froz) = lab4 at *
    refine ⟨C4.blk.canSet (by simp) rfl, ?_⟩
    rintro _ rfl
    have s5 : Stp (· = γ (.file n)) w4 lab4 (w4.setCell ⟨b, 2, none⟩ (.slice o4 l1 k4)) lab4 := Stp.setCell C4.clr
    refine hR _ _ ⟨rfl, lab4, ⟨o1, l1, k1, o4, l1, k4, none, 0, 0, [], C4.set 2 (.slice o4 l1 k4), ?_, ?_, by rw [← hbs]; exact hbl, COw.nil _ _ _ _ _, Pts.nil⟩, ?_⟩
    · rw [← hbs]; exact b4.stp s5 (ne (by simp))
    · rw [← hbs]; exact c4.stp s5 (ne (by simp))
    · exact ((((s1.trans (s2.mono (fun c h => .inl h))).trans (s3.mono (fun c h => .inl h))).trans (sN.mono (fun c h => h.elim))).trans (s5.mono (fun c h => .inl h)))
  simp only [add_at, Nat.zero_add]
  refine ⟨_, _, _, hF.cells.blk.rd1 rfl, ?_⟩
  have hC := Clone_calls (c := sc) hF.sure.rd (by omega)
  rw [← hF.slen] at hC
  refine hC.mono ?_
  rintro _ w1 ⟨o1, k1, rfl, ow1, M1, hF1⟩
  refine ⟨_, _, _, rfl, ?_⟩
  have sN : Stp NoC w lab w1 (ext lab w.heap.size (γ (.bytes n))) := Stp.of_nob M1 _
  have b1 : COw w1 (ext lab w.heap.size (γ (.bytes n))) (γ (.bytes n)) tU8 1 o1 sl k1 (f.sure.map bV) := ⟨ow1, fun k hk => ext_new (hF1 k hk)⟩
  have C1 := hF.cells.stp sN (fun h => h)
  have S1 := hF.sure.stp sN (fun h => h)
  have P1 := hF.pend.stp sN (fun h => h)
  have T1 := hF.pts.stp sN (fun h => h)
  have s01 : Stp (Fs γ n) w lab w1 _ := sN.mono (fun _ h => h.elim)
  generalize ext lab w.heap.size (γ (.bytes n)) = lab1 at *
  refine ⟨_, _, _, C1.blk.rd1 rfl, ?_⟩
  refine ⟨fun left' o' l' k' i w' => ∃ (j : Nat) (lab' : Nat → C) (bs : List UInt8), i = (j : Int) ∧ j ≤ f.pend.length ∧ 0 ≤ left' ∧ left' < 9223372036854775808 ∧ COw w' lab' (γ (.bytes n)) tU8 1 o' l' k' (bs.map bV) ∧ bs.length ≤ most ∧ PtsOk bs (f.pend.drop j) f.bytes ∧
      survive f.sure f.pend left = survive bs (f.pend.drop j) left' ∧ CB w' lab' (γ (.file n)) b tFile #[.int .i64 (n : Int), .slice o l k, .slice so sl sc, .slice po pl pc] ∧ COw w' lab' (γ (.fpend n)) tPatch 1 po pl pc vs ∧ Pts w' lab' (γ .froz) vs f.pend ∧ Stp (Fs γ n) w lab w' lab',
    fun _ _ _ _ i _ => ((f.pend.length : Int) - i).toNat, ⟨0, lab1, f.sure, rfl, Nat.zero_le _, h0, hl, b1, hs', hok, rfl, C1, P1, T1, s01⟩, ?_⟩
  rintro left' o' l' k' _ _ w2 ⟨j, lab2, bs, rfl, hj, hl0, hl1, b2, hsz, hok2, hsv, C2, P2, T2, s2⟩
  have hsz' := hsz
  simp only [most] at hsz'
  refine ⟨fun hlt => ?_, fun hge => ?_⟩
  · have hjl : j < f.pend.length := by omega
    obtain ⟨v, hv, hpv⟩ := T2.at_ j (f.pend[j]) (List.getElem?_eq_getElem hjl)
    obtain ⟨g, rfl, hcell⟩ := P2.own.cell hv
    refine ⟨_, rfl, by omega, v, ?_, ?_⟩
    · rw [Int.toNat_natCast, add_at, Nat.zero_add]; exact hcell
    · have hdrop : f.pend.drop j = f.pend[j] :: f.pend.drop (j + 1) := List.drop_eq_getElem_cons hjl
      rw [hdrop] at hok2 hsv
      obtain ⟨t, x, ff, recv, hve, hm, he, hcall⟩ := onPt_calls hpv (ne (by simp)) b2 hl0 hl1 hok2 hsz
      refine ⟨t, x, ff, recv, hve, hm, he, hcall.mono ?_⟩
      rintro _ w3 ⟨o3, l3, k3, lab3, rfl, b3, s3⟩
      have C3 := C2.stp s3 (ne (by simp))
      have P3 := P2.stp s3 (ne (by simp))
      have T3 := T2.stp s3 (ne (by simp))
      have s03 := s2.trans (s3.mono (T := Fs γ n) (fun c h => .inr (.inl h)))
      rw [survive_step _ _ _ _ hl0] at hsv
      refine ⟨_, _, _, _, rfl, fun hneg => ?_, fun hnn => ?_⟩
      · rw [if_pos hneg] at hsv
        have hlen : (stepPt bs left' f.pend[j]).1.length ≤ 2 ^ 38 := by
          generalize f.pend[j] = p at *
          cases p with
          | wr a by_ =>
            obtain ⟨hat, hlen, _⟩ := hok2
            rw [length_lay hat] at hlen
            simp only [most] at hlen
            simp only [stepPt]
            split
            · simp only; rw [length_lay hat, List.length_take]; omega
            · simp only; rw [length_lay hat]; omega
          | cut m =>
            simp only [stepPt]
            split
            · simp only; omega
            · simp only; rw [List.length_take]; omega
        exact tail w3 lab3 so sl sc o3 l3 k3 _ _ C3 b3 s03 hsv.symm hlen
      · rw [if_neg hnn] at hsv
        have hnext : (stepPt bs left' f.pend[j]).1.length ≤ most ∧ PtsOk (stepPt bs left' f.pend[j]).1 (f.pend.drop (j + 1)) f.bytes ∧ (stepPt bs left' f.pend[j]).2 < 9223372036854775808 := by
          generalize f.pend[j] = p at *
          cases p with
          | wr a by_ =>
            obtain ⟨hat, hlen, hrest⟩ := hok2
            simp only [stepPt] at hnn ⊢
            split at hnn
            · simp at hnn
            · rename_i hle
              rw [if_neg hle]
              exact ⟨hlen, hrest, by simp only; omega⟩
          | cut m =>
            obtain ⟨hm, hrest⟩ := hok2
            simp only [stepPt] at hnn ⊢
            split at hnn
            · simp at hnn
            · rename_i hle
              rw [if_neg hle]
              refine ⟨?_, hrest, by simp only; omega⟩
              simp only; rw [List.length_take]; simp only [most]; omega
        have e1 : IntKind.wrap .i64 ((j : Int) + 1) = ((j + 1 : Nat) : Int) := by rw [wrap_i64_small (by omega) (by omega)]; omega
        rw [e1]
        exact ⟨⟨j + 1, lab3, _, rfl, by omega, by omega, hnext.2.2, b3, hnext.1, hnext.2.1, hsv, C3, P3, T3, s03⟩, by dsimp only; omega⟩
  · have hjl : j = f.pend.length := by omega
    subst hjl
    rw [List.drop_length] at hsv hok2
    exact tail w2 lab2 so sl sc o' l' k' bs _ C2 b2 s2 hsv.symm (by omega)
end
end Go.Proofs.Ytkekehngillblaa
