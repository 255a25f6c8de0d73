/- The walk of DiskWhole: a restart at which everything survives changes nothing. -/
import Derived.Test.YtkekehngillblaaDL8
section
set_option linter.unusedVariables false
set_option linter.unusedSimpArgs false
namespace Go.Disk
open Go.Vcg
theorem onFile_files {d : Dk} {s : Nm} {k : Dk → Nat → Dk × Int} (hk : ∀ d f, (k d f).1.files = d.files) : (onFile d s k).1.files = d.files := by
  have e := (begins_eq d).2.2.2.2.1
  unfold onFile
  simp only
  split
  · split
    · rw [hk, e]
    · exact e
  · exact e
theorem write_files (d : Dk) (f a : Nat) (b : List UInt8) : (write d f a b).1.files = d.files := by
  unfold write
  simp only
  split
  · rfl
  · split <;> rfl
theorem step_files (σ : Dk) (s : Sp) : (step σ s).files ≤ σ.files + 1 := by
  have e := (begins_eq σ).2.2.2.2.1
  unfold step
  split
  · unfold create
    simp only
    split
    · split
      · show (begins σ).1.files ≤ _; omega
      · split
        · split
          · show (begins σ).1.files ≤ _; omega
          · show (begins σ).1.files + 1 ≤ _; omega
        · show (begins σ).1.files ≤ _; omega
    · show (begins σ).1.files ≤ _; omega
  split
  · have := onFile_files (d := σ) (s := s.a) (k := fun d f => write d f (d.fs f).bytes.length s.bytes) (fun d f => write_files _ _ _ _)
    unfold append; omega
  split
  · have := onFile_files (d := σ) (s := s.a) (k := fun d f => if s.at_ < 0 ∨ s.at_ > (d.fs f).bytes.length then (d, 14) else write d f s.at_.toNat s.bytes) (fun d f => by
      try simp only
      split
      · rfl
      · exact write_files _ _ _ _)
    unfold writeAt; omega
  split
  · have := onFile_files (d := σ) (s := s.a) (k := fun d f => if s.at_ < 0 ∨ s.at_ > (d.fs f).bytes.length then (d, (14 : Int)) else if s.at_ < (d.fs f).bytes.length then (setF d f { d.fs f with bytes := (d.fs f).bytes.take s.at_.toNat, pend := (d.fs f).pend ++ [.cut s.at_.toNat] }, 0) else (d, 0)) (fun d f => by
      try simp only
      split
      · rfl
      · split <;> rfl)
    unfold truncate; omega
  split
  · have := onFile_files (d := σ) (s := s.a) (k := fun d f => (setF d f { d.fs f with sure := (d.fs f).bytes, pend := [] }, (0 : Int))) (fun d f => rfl)
    unfold sync; omega
  split
  · unfold rename
    simp only
    split
    · split
      · split
        · show (if s.a = s.b then (begins σ).1 else does (begins σ).1 (.ren s.a s.b)).files ≤ _
          split
          · omega
          · show (begins σ).1.files ≤ _; omega
        · show (begins σ).1.files ≤ _; omega
      · show (begins σ).1.files ≤ _; omega
    · show (begins σ).1.files ≤ _; omega
  split
  · have := onFile_files (d := σ) (s := s.a) (k := fun d _ => (does d (.rem s.a), (0 : Int))) (fun d f => rfl)
    unfold remove; omega
  split
  · unfold syncDir
    simp only
    split
    · show (begins σ).1.files ≤ _; omega
    · show (begins σ).1.files ≤ _; omega
  split
  · exact Nat.le_succ _
  split
  · exact Nat.le_succ _
  split
  · exact Nat.le_succ _
  · exact Nat.le_succ _
theorem runs_files : ∀ (ss : List Sp) (σ : Dk), (runs σ ss).files ≤ σ.files + ss.length
  | [], σ => Nat.le_refl _
  | s :: r, σ => by
    have h1 := runs_files r (step σ s)
    have h2 := step_files σ s
    show (runs (step σ s) r).files ≤ _
    rw [List.length_cons]; omega
/-- How many bytes it takes to keep everything. -/
def budget : List Pt → Nat
  | [] => 0
  | .wr _ c :: r => c.length + budget r
  | .cut _ :: r => 1 + budget r
theorem survive_all : ∀ (ps : List Pt) (b b' : List UInt8) (L : Int), PtsOk b ps b' → (budget ps : Int) ≤ L → survive b ps L = b'
  | [], b, b', L, h, _ => h
  | .wr a c :: r, b, b', L, h, hL => by
    rw [budget] at hL
    rw [survive, if_neg (by omega)]
    exact survive_all r _ _ _ h.2.2 (by omega)
  | .cut n :: r, b, b', L, h, hL => by
    rw [budget] at hL
    rw [survive, if_neg (by omega)]
    exact survive_all r _ _ _ h.2 (by omega)
theorem budget_le : ∀ (ps : List Pt) (b b' : List UInt8), PtsOk b ps b' → budget ps ≤ ps.length * most
  | [], _, _, _ => Nat.zero_le _
  | .wr a c :: r, b, b', h => by
    have h1 := budget_le r _ _ h.2.2
    have h2 := h.2.1
    rw [length_lay h.1] at h2
    rw [budget, List.length_cons, Nat.succ_mul]
    generalize most = m at *
    omega
  | .cut n :: r, b, b', h => by
    have h1 := budget_le r _ _ h.2
    have h2 : 1 ≤ most := by decide
    rw [budget, List.length_cons, Nat.succ_mul]
    generalize most = m at *
    omega
theorem chgs_fold {files : Nat} : ∀ {l l' : List (Nm × Nat)} {p : List Chg}, ChgsOk files l p l' → p.foldl Chg.on l = l'
  | l, l', [], h => h
  | l, l', c :: r, h => by rw [List.foldl_cons]; exact chgs_fold h.2
theorem whole_same {σ : Dk} (hk : Ok σ) (hf : σ.files ≤ 60) (hc : σ.count ≤ 60) : Same σ (restart σ 1000 (List.replicate 100 1099511627776)) := by
  have hp := hk.pend
  have ht : (min (max 1000 0) (σ.pend.length : Int)).toNat = σ.pend.length := by omega
  have hL : (σ.pend.take (min (max 1000 0) (σ.pend.length : Int)).toNat).foldl Chg.on σ.sure = σ.names := by
    rw [ht, List.take_length]; exact chgs_fold hk.chgs
  refine ⟨rfl, hL, fun x hx => ?_⟩
  have hxf := hk.names.files x hx
  show (if x.2 ∈ ((σ.pend.take (min (max 1000 0) (σ.pend.length : Int)).toNat).foldl Chg.on σ.sure).map Prod.snd then (⟨survive (σ.fs x.2).sure (σ.fs x.2).pend (left (List.replicate 100 1099511627776) x.2), survive (σ.fs x.2).sure (σ.fs x.2).pend (left (List.replicate 100 1099511627776) x.2), []⟩ : Fl) else σ.fs x.2).bytes = _
  rw [hL, if_pos (List.mem_map_of_mem hx)]
  have hl : left (List.replicate 100 1099511627776) x.2 = 1099511627776 := by
    unfold left
    rw [if_pos (by simp; omega), List.getD_eq_getElem?_getD, List.getElem?_replicate, if_pos (by omega)]
    rfl
  rw [hl]
  have hpp := hk.pends x.2 hxf
  have hbl := budget_le _ _ _ (hk.pts x.2 hxf)
  have hmul : (σ.fs x.2).pend.length * most ≤ 60 * most := Nat.mul_le_mul_right _ (by omega)
  have h60 : 60 * most = 4026531840 := by decide
  exact survive_all _ _ _ _ (hk.pts x.2 hxf) (by omega)
theorem Same.used {σ σ' : Dk} (h : Same σ σ') : used σ' = used σ := by
  unfold Disk.used
  rw [h.names]
  congr 1
  exact List.map_congr_left (fun x hx => by rw [h.bytes x hx])
end Go.Disk
namespace Go.Proofs.Ytkekehngillblaa
open Go Go.Vcg Go.Disk
theorem info_int : (Try.prog.info? 3).map (fun i => (i.zero, i.size, i.bytes)) = some (some (.int .i64 0), 1, 8) := by kernel_rfl

theorem Whole_calls (w0 : World) {o0 : Option Addr} {c0 : Nat} {ss : List Sp} (hs : RdSps w0 o0 ss) :
    Calls Try.prog morainelaw1_DiskWhole.n #[.slice o0 ss.length c0] w0 (fun e w' => e = .returned (.bool true) ∧ Vcg.Mod NoB w0 w') := by
  refine calls_gen fun R hR => morainelaw1_DiskWhole.vc _ _ _ _ _ ?_
  unfold morainelaw1_DiskWhole.Vc
  have hR' : ∀ w', Vcg.Mod NoB w0 w' → R (.returned (.bool true)) w' := fun w' M => hR _ _ ⟨rfl, M⟩
  clear hR
  refine (known_calls w0).mono ?_
  rintro _ w1 ⟨rfl, M1⟩
  refine ⟨_, rfl, fun h => (by cases h), fun _ => ?_⟩
  have s1 : Stp (· ≠ LC2.out) w0 (fun _ => LC2.out) w1 (ext (fun _ => LC2.out) w0.heap.size LC2.tmp) := Stp.of_nob M1 _
  refine (New_calls w1 (ext (fun _ => LC2.out) w0.heap.size LC2.tmp) LC2.d 4000).mono ?_
  rintro e w2 (⟨h, _⟩ | ⟨_, d, lab2, rfl, D2, s2⟩)
  · omega
  have hok := new_ok (cap := 4000) (by omega)
  have s02 := s1.trans (s2.mono (fun _ h => h.elim))
  have M02 : Vcg.Mod NoB w0 w2 := s02.nob (fun k _ hk => hk rfl)
  refine ⟨_, _, rfl, fun h => (h rfl).elim, fun _ => ⟨fun h => (by cases h), fun _ => ?_⟩⟩
  refine (few_calls (hs.mod M02)).mono ?_
  rintro _ w2 ⟨rfl, b, rfl, hfew⟩
  refine ⟨_, rfl, fun _ => ⟨fun _ => hR' _ M02, fun h => (h rfl).elim⟩, fun hb => ?_⟩
  have hfew := hfew hb
  refine (RNew_calls w2 lab2 LC2.r 4000).mono ?_
  rintro _ w3 ⟨r, lab3, rfl, R3, s3⟩
  refine ⟨_, rfl, ?_⟩
  have h3 : L2 w0 w3 lab3 d r (Disk.new 4000) (Disk.new 4000) := ⟨s02.trans (s3.mono (fun _ h => h.elim)), D2.stp s3 (fun _ h => h), R3⟩
  have hfl := runs_files ss (Disk.new 4000)
  have h60 := hfew.1
  refine step_loop h3 hok rfl hs hfew ?_
  clear h3 R3 s3 M02 s02 s2 D2 s1 M1
  intro w4 lab4 h4 hk hc
  have hf60 : (runs (Disk.new 4000) ss).files ≤ 60 := by
    have : (Disk.new 4000).files = 0 := rfl
    omega
  generalize runs (Disk.new 4000) ss = σ at *
  clear hfl
  by_cases hdn : σ.down = true
  · refine (Names_calls h4.D hk).mono ?_
    rintro e w7 ⟨o, k, M, he⟩
    rw [if_pos hdn] at he
    subst he
    exact ⟨_, _, _, _, rfl, fun _ => hR' _ ((h4.M.nob (fun k _ hk => hk rfl)).trans M (fun _ _ h => h)), fun h => by cases h⟩
  have hdn' : σ.down = false := by simpa using hdn
  refine (h4.names hk hdn').mono ?_
  rintro _ w7 ⟨o7, k7, rfl, lab7, h7, hrow, s7⟩
  refine ⟨_, _, _, _, rfl, fun h => (h rfl).elim, fun _ => ?_⟩
  clear s7 h4
  have hnl : (namesOf σ).length ≤ 1048576 := by
    have := names_few hk
    unfold namesOf inOrder
    rw [(List.mergeSort_perm _ _).length_eq, List.length_map]; exact this
  refine ⟨fun o l k i w' => ∃ (j : Nat) (lab' : Nat → LC2), i = (j : Int) ∧ j ≤ (namesOf σ).length ∧ l = (((namesOf σ).take j).map fun ns => (Disk.read σ (nmOf ns)).1).length ∧ L2 w0 w' lab' d r σ σ ∧
      CRow w' lab' LC2.out o7 ((namesOf σ).map Go.Proofs.encStr) ∧ Was w' lab' o k (((namesOf σ).take j).map fun ns => (Disk.read σ (nmOf ns)).1), fun _ _ _ i _ => (((namesOf σ).length : Int) - i).toNat,
    ⟨0, lab7, rfl, Nat.zero_le _, rfl, h7, hrow, Was.nil _ _⟩, ?_⟩
  clear hrow h7
  rintro o _ k _ _ w8 ⟨j, lab8, rfl, hj, rfl, h8, hrow, hw⟩
  refine ⟨fun hlt => ?_, fun hge => ?_⟩
  · have hjl : j < (namesOf σ).length := by omega
    obtain ⟨b, f, rfl, hcell⟩ := row_str hrow hjl
    refine ⟨_, rfl, by omega, _, by rw [add_at, Int.toNat_natCast]; exact hcell, ?_⟩
    refine (h8.read hk (nmOf (namesOf σ)[j])).mono ?_
    rintro _ w9 ⟨o9, k9, rfl, lab9, h9, hb9, s9⟩
    have hrow9 := hrow.stp s9 sd_out
    have hw9 := hw.stp s9 sd_tmp sd_out
    refine ⟨_, _, _, _, rfl, ?_⟩
    rintro d66 w11 ⟨rfl, rfl⟩
    have Y := Blk.new w9 30 #[.slice o9 (Disk.read σ (nmOf (namesOf σ)[j])).1.length k9]
    have s11 : Stp NoC w9 lab9 (w9.alloc (.cells #[.slice o9 (Disk.read σ (nmOf (namesOf σ)[j])).1.length k9] 30)) (ext lab9 w9.heap.size LC2.out) := Stp.alloc _ _ _ _ _
    have h11 := h9.z s11
    have hrow11 := hrow9.stp s11 (fun h => h)
    have hw11 := hw9.stp s11 (fun h => h) (fun h => h)
    have hb11 := hb9.stp s11 (fun h => h)
    change ∃ v w69, Sem.run Try.prog _ (w9.alloc (.cells #[.slice o9 (Disk.read σ (nmOf (namesOf σ)[j])).1.length k9] 30)) = _ ∧ _
    generalize w9.alloc (.cells #[.slice o9 (Disk.read σ (nmOf (namesOf σ)[j])).1.length k9] 30) = w11 at *
    generalize ext lab9 w9.heap.size LC2.out = lab11 at *
    obtain ⟨o12, k12, w12, hr12, hw12, s12⟩ := hw11.push hb11 Y (by rw [List.length_map, List.length_take]; omega)
    have htk : ((namesOf σ).take (j + 1)) = (namesOf σ).take j ++ [(namesOf σ)[j]] := by rw [List.take_add_one, List.getElem?_eq_getElem hjl]; rfl
    refine ⟨_, w12, hr12, _, _, _, rfl, ⟨j + 1, _, by rw [wrap_i64_small (by omega) (by omega)]; omega, hjl, by rw [htk, List.map_append]; simp, h11.t s12, hrow11.stp s12 (by simp), by rw [htk, List.map_append]; exact hw12⟩, ?_⟩
    dsimp only
    rw [wrap_i64_small (by omega) (by omega)]; omega
  · obtain rfl : j = (namesOf σ).length := by omega
    rw [List.take_length] at hw ⊢
    -- the crash
    rintro d57 w9 ⟨rfl, rfl⟩
    have X9 := CB.new w8 lab8 LC2.tm2 37 #[.int .i64 0, .slice none 0 0]
    have s9 : Stp NoC w8 lab8 (w8.alloc (.cells #[.int .i64 0, .slice none 0 0] 37)) (ext lab8 w8.heap.size LC2.tm2) := Stp.alloc _ _ _ _ _
    have h9 := h8.z s9
    have hrow9 := hrow.stp s9 (fun h => h)
    have hw9 := hw.stp s9 (fun h => h) (fun h => h)
    simp only [add_at, Nat.zero_add]
    refine ⟨X9.blk.canSet (by simp) rfl, ?_⟩
    rintro _ rfl
    obtain ⟨X10, s10⟩ := rset X9 (Stp.refl (· = LC2.tm2) _ _) rfl 0 (.int .i64 1000) rfl
    refine ⟨X10.blk.canSet (by simp) rfl, ?_⟩
    rintro _ rfl
    obtain ⟨X11, s11⟩ := rset X10 s10 rfl 1 (.slice none 0 0) rfl
    have h11 := h9.t2 s11
    have hrow11 := hrow9.stp s11 (by simp)
    have hw11 := hw9.stp s11 (by simp) (by simp)
    generalize w8.heap.size = D at *
    change ∃ (I61 : Int → World → Prop) (μ61 : Int → World → Nat), _
    have start : ∃ lab', L2 w0 (((w8.alloc (.cells #[.int .i64 0, .slice none 0 0] 37)).setCell ⟨D, 0, none⟩ (.int .i64 1000)).setCell ⟨D, 1, none⟩ (.slice none 0 0)) lab' d r σ σ ∧
        CRow (((w8.alloc (.cells #[.int .i64 0, .slice none 0 0] 37)).setCell ⟨D, 0, none⟩ (.int .i64 1000)).setCell ⟨D, 1, none⟩ (.slice none 0 0)) lab' LC2.out o7 ((namesOf σ).map Go.Proofs.encStr) ∧
        Was (((w8.alloc (.cells #[.int .i64 0, .slice none 0 0] 37)).setCell ⟨D, 0, none⟩ (.int .i64 1000)).setCell ⟨D, 1, none⟩ (.slice none 0 0)) lab' o k ((namesOf σ).map fun ns => (Disk.read σ (nmOf ns)).1) ∧
        CB (((w8.alloc (.cells #[.int .i64 0, .slice none 0 0] 37)).setCell ⟨D, 0, none⟩ (.int .i64 1000)).setCell ⟨D, 1, none⟩ (.slice none 0 0)) lab' LC2.tm2 D 37 #[.int .i64 1000, .slice none 0 0] := ⟨_, h11, hrow11, hw11, X11⟩
    clear h11 hrow11 hw11 X11 s11 X10 s10 h9 hrow9 hw9 s9 X9 h8 hrow hw
    generalize ((w8.alloc (.cells #[.int .i64 0, .slice none 0 0] 37)).setCell ⟨D, 0, none⟩ (.int .i64 1000)).setCell ⟨D, 1, none⟩ (.slice none 0 0) = w11 at *
    obtain ⟨lab11, h11, hrow11, hw11, X11⟩ := start
    refine ⟨UpTo 100 (fun i w' => ∃ lab' oi ki, L2 w0 w' lab' d r σ σ ∧ CRow w' lab' LC2.out o7 ((namesOf σ).map Go.Proofs.encStr) ∧ Was w' lab' o k ((namesOf σ).map fun ns => (Disk.read σ (nmOf ns)).1) ∧
        CB w' lab' LC2.tm2 D 37 #[.int .i64 1000, .slice oi i ki] ∧ COw w' lab' LC2.tm3 3 1 oi i ki (List.replicate i (.int .i64 1099511627776))), Vcg.Left 100, ⟨0, rfl, Nat.zero_le _, lab11, none, 0, h11, hrow11, hw11, X11, COw.nil _ _ _ _ _⟩, ?_⟩
    clear h11 hrow11 hw11 X11
    rintro _ _ w12 ⟨i, rfl, hi, lab12, oi, ki, h12, hrow12, hw12, X12, I12⟩
    refine ⟨fun hlt => ?_, fun hge => ?_⟩
    · refine ⟨_, _, _, X12.blk.rd1 rfl, ?_⟩
      rintro d67 w13 ⟨rfl, rfl⟩
      have Y := Blk.new w12 3 #[.int .i64 1099511627776]
      have s13 : Stp NoC w12 lab12 (w12.alloc (.cells #[.int .i64 1099511627776] 3)) (ext lab12 w12.heap.size LC2.out) := Stp.alloc _ _ _ _ _
      have h13 := h12.z s13
      have hrow13 := hrow12.stp s13 (fun h => h)
      have hw13 := hw12.stp s13 (fun h => h) (fun h => h)
      have X13 := X12.stp s13 (fun h => h)
      have I13 := I12.stp s13 (fun h => h)
      change ∃ v w69, Sem.run Try.prog _ (w12.alloc (.cells #[.int .i64 1099511627776] 3)) = _ ∧ _
      generalize w12.alloc (.cells #[.int .i64 1099511627776] 3) = w13 at *
      generalize ext lab12 w12.heap.size LC2.out = lab13 at *
      obtain ⟨inf, hinf, hz, hsz, hbb⟩ := info_of info_int
      obtain ⟨o14, k14, w14, hr14, I14, s14⟩ := I13.append (tx := 35) (ty := 35) und_ints hinf hz hsz rfl (src_one und_ints Y rfl (by simp; rfl)) (by simp only [maxLen]; omega) (by rw [hbb]; omega)
      refine ⟨_, w14, hr14, _, _, _, rfl, ?_⟩
      have h14 := h13.t3 s14
      have hrow14 := hrow13.stp s14 (by simp)
      have hw14 := hw13.stp s14 (by simp) (by simp)
      have X14 := X13.stp s14 (by simp)
      generalize ext lab13 w13.heap.size LC2.tm3 = lab14 at *
      refine ⟨X14.blk.canSet (by simp) rfl, ?_⟩
      rintro _ rfl
      obtain ⟨X15, s15⟩ := rset X14 (Stp.refl (· = LC2.tm2) _ _) rfl 1 (.slice o14 (i + 1) k14) rfl
      refine UpTo.next (by rw [wrap_i64_small (by omega) (by omega)]; omega) (by omega) ⟨lab14, o14, k14, h14.t2 s15, hrow14.stp s15 (by simp), hw14.stp s15 (by simp) (by simp), X15, ?_⟩
      have := I14.stp s15 (by simp)
      rw [List.replicate_succ']
      exact this
    · obtain rfl : i = 100 := by omega
      refine (Used_calls h12.D hk).mono ?_
      rintro _ w13 ⟨rfl, M13⟩
      have s13 : Stp NoC w12 lab12 w13 (ext lab12 w12.heap.size LC2.out) := Stp.of_nob M13 _
      have h13 := h12.z s13
      have hrow13 := hrow12.stp s13 (fun h => h)
      have hw13 := hw12.stp s13 (fun h => h) (fun h => h)
      have X13 := X12.stp s13 (fun h => h)
      have I13 := I12.stp s13 (fun h => h)
      generalize ext lab12 w12.heap.size LC2.out = lab13 at *
      have hSame := whole_same hk hf60 hc
      have hlr : (List.replicate 100 (1099511627776 : Int)).length = 100 := List.length_replicate
      have hci : CInts w13 lab13 LC2.tm3 oi (List.replicate 100 1099511627776) := fun j hj => by
        rw [hlr] at hj
        obtain ⟨g, rfl, hcx⟩ := I13.own.cell (i := j) (v := .int .i64 1099511627776) (by rw [List.getElem?_replicate, if_pos hj])
        refine ⟨g, 0, rfl, I13.own.lt ⟨_, rfl, rfl⟩, I13.clr _ ⟨_, rfl, rfl⟩, ?_⟩
        rw [Nat.zero_add, hcx, List.getD_eq_getElem?_getD, List.getElem?_replicate, if_pos hj]; rfl
      have hrs := Restart_calls LC2.dinj h13.D hk (by omega) 1000 (c2 := ki) hci sd_tm3 (fun x hx => by rw [List.eq_of_mem_replicate hx]; decide) (by rw [hlr]; omega)
      rw [hlr] at hrs
      refine ⟨_, rfl, _, _, _, _, X13.blk.rd1 rfl, X13.blk.rd1 rfl, hrs.mono ?_⟩
      rintro _ w14 ⟨rfl, hd⟩
      obtain ⟨lab14, h14, s14⟩ := h13.p hd
      have hrow14 := hrow13.stp s14 sd_out
      have hw14 := hw13.stp s14 sd_tmp sd_out
      have hk14 := restart_ok hk 1000 (List.replicate 100 1099511627776)
      generalize Disk.restart σ 1000 (List.replicate 100 1099511627776) = σ1 at *
      refine ⟨rfl, (h14.names hk14 hSame.down).mono ?_⟩
      rw [hSame.namesOf]
      rintro _ w15 ⟨o15, k15, rfl, lab15, h15, hrow15, s15⟩
      have hrow15' := hrow14.stp s15 (fun h => h)
      have hw15 := hw14.stp s15 (fun h => h) (fun h => h)
      refine ⟨_, _, _, _, rfl, fun h => (h rfl).elim, fun _ => ?_⟩
      refine (Texts_calls hrow15' hrow15 (by omega)).mono ?_
      rintro _ w16 ⟨rfl, M16⟩
      have s16 : Stp NoC w15 lab15 w16 (ext lab15 w15.heap.size LC2.out) := Stp.of_nob M16 _
      refine ⟨_, rfl, fun h => (by cases h), fun _ => ?_⟩
      have h16 := h15.z s16
      refine (Used_calls h16.D hk14).mono ?_
      rintro _ w17 ⟨rfl, M17⟩
      have s17 : Stp NoC w16 (ext lab15 w15.heap.size LC2.out) w17 (ext (ext lab15 w15.heap.size LC2.out) w16.heap.size LC2.out) := Stp.of_nob M17 _
      have s157 := s16.trans s17
      refine ⟨_, rfl, fun hne => (hne (by rw [hSame.used])).elim, fun _ => ?_⟩
      exact cmp_loop (h15.z s157) hk hk14 hdn' hSame (hrow15'.stp s157 (fun h => h)) (hw15.stp s157 (fun h => h) (fun h => h)) hR'
end Go.Proofs.Ytkekehngillblaa
end
