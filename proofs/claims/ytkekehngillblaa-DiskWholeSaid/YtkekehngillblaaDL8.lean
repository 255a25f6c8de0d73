/- The reference's disk: a restart. -/
/- The disk's laws with the reference beside: a step of both. -/
/- The disk's laws: names and bytes held against one another. -/
/- The walk of DiskSynced: what was synced outlives every fall of power. -/
/- Arguments: how long they can be. -/
/- Steps as arguments. -/
import Derived.Test.YtkekehngillblaaRP9
import Derived.Test.YtkekehngillblaaRP2
import Derived.Test.YtkekehngillblaaDS
import Derived.SizedLaws
section
set_option linter.unusedVariables false
set_option linter.unusedSimpArgs false
namespace Go.Proofs.Ytkekehngillblaa
open Go Go.Vcg Go.Disk
section
variable {C : Type} {w w' : World} {lab lab' : Nat → C} {c : C} {γ : RC → C} {d : Nat} {σ τ : Dk}

theorem push_now {fb : Nat → Nat} {l : List (Nm × Nat)} {o : Option Addr} {k : Nat} (h : COw w lab c tNm 2 o l.length k (nmC fb l)) {b ty : Nat} {s : Nm} {f : Nat} (B : Blk w b ty #[.string s, fileV fb f]) (hl : l.length < 2 ^ 40) :
    ∃ o' c' w', Sem.run Try.prog (builtinV .append #[tSlNm, tSlNm] tSlNm #[.slice o l.length k, .slice (some ⟨b, 0, none⟩) 1 1]) w = .ok (.slice o' (l.length + 1) c') w' ∧ COw w' (ext lab w.heap.size c) c tNm 2 o' (l.length + 1) c' (nmC fb (l ++ [(s, f)])) ∧ Stp (· = c) w lab w' (ext lab w.heap.size c) := by
  obtain ⟨i, hi, hz, hs, hb⟩ := info_of info_nm
  rw [nmC_append]
  exact h.append und_slNm hi hz hs rfl (src_one und_slNm B rfl (by simp [fileV]; exact ⟨rfl, rfl⟩)) (by simp only [maxLen]; omega) (by rw [hb]; omega)
theorem copy_names {fb : Nat → Nat} {l : List (Nm × Nat)} {o : Option Addr} {k : Nat} {ty : TypeId} (h : CRow w lab c o (nmC fb l)) (hl : l.length < 2 ^ 40) :
    ∃ o' c' w', Sem.run Try.prog (builtinV .append #[tSlNm, tSlNm] ty #[.slice none 0 0, .slice o l.length k]) w = .ok (.slice o' l.length c') w' ∧ Fresh w w' tNm 2 o' l.length c' (nmC fb l) := by
  obtain ⟨i, hi, hz, hs, hb⟩ := info_of info_nm
  have := (Fresh.nil (Mod.refl w) tNm 2).push (ty := ty) und_slNm hi hz hs rfl (h.src und_slNm (nmC_len fb l) (nmC_one fb l) k (by omega)) (by simp only [maxLen]; omega) (by rw [hb]; omega)
  simpa using this

/-- The colours of a restart's second half. -/
def TN (γ : RC → C) (c : C) : Prop := c = γ .disk ∨ c = γ .now
theorem TN.sr : ∀ c, TN γ c → SR γ c := fun c h => by rcases h with rfl | rfl <;> exact SR.of (by simp)

theorem RRestart_calls (hγ : ∀ a b, γ a = γ b → a = b) (H : RAt w lab γ d σ) (hk : Ok σ) (hcnt : σ.count < 2 ^ 40) (n1 : Int) {o2 : Option Addr} {c2 : Nat} {is : List Int} {cb : C} (hi : CInts w lab cb o2 is) (hcb : ¬ SR γ cb) (hil : ∀ x ∈ is, x < 9223372036854775808) (hlen : is.length < 2 ^ 62) :
    Calls Try.prog moraineref1_Disk_Restart.n #[.pointer (some ⟨d, 0, none⟩), .agg #[.int .i64 n1, .slice o2 is.length c2]] w (fun e w' => e = .returned (.tuple #[]) ∧ RRes γ d w lab w' (restart σ n1 is)) := by
  obtain ⟨on, cn, os, cs, om, cm, fb, h, H⟩ := H.in
  have hpe := hk.pend
  have hnl := names_len hk.sure hk.files
  refine calls_gen fun R hR => moraineref1_Disk_Restart.vc _ _ _ _ _ _ _ ?_
  unfold moraineref1_Disk_Restart.Vc
  rintro d3 w1 ⟨rfl, rfl⟩
  have X := CB.new w lab (γ .froz) 37 #[.int .i64 n1, .slice o2 is.length c2]
  have s1 : Stp NoC w lab (w.alloc (.cells #[.int .i64 n1, .slice o2 is.length c2] 37)) (ext lab w.heap.size (γ .froz)) := Stp.alloc _ _ _ _ _
  generalize w.alloc (.cells #[.int .i64 n1, .slice o2 is.length c2] 37) = w1 at *
  generalize ext lab w.heap.size (γ .froz) = lab1 at *
  generalize w.heap.size = D3 at *
  replace H := H.stp s1 (fun _ h => h)
  replace hi := hi.stp s1 (fun h => h)
  replace s1 : Stp (SR γ) w lab w1 lab1 := s1.mono (fun _ h => h.elim)
  simp only [add_at, Nat.zero_add]
  refine ⟨_, _, _, H.B.blk.rd1 rfl, ?_⟩
  obtain ⟨o9, k9, w2, hr9, F9⟩ := copy_names (k := cs) (ty := 84) H.R.sure (by omega)
  refine ⟨_, w2, hr9, _, _, _, rfl, ?_⟩
  have hk9 := F9.own.cap.1
  obtain ⟨C2, s2⟩ := F9.done (lab := lab1) (γ .froz)
  replace C2 := C2.row
  generalize ext lab1 w1.heap.size (γ .froz) = lab2 at *
  have hLn : ∀ j, ((σ.pend.take j).foldl Chg.on σ.sure).length ≤ 1048576 := fun j => names_len (NamesOk.fold j hk.sure hk.chgs) hk.files
  generalize hK : (min (max n1 0) (σ.pend.length : Int)).toNat = K
  have hKl : K ≤ σ.pend.length := by omega
  have hrs : restart σ n1 is = { σ with names := (σ.pend.take K).foldl Chg.on σ.sure, sure := (σ.pend.take K).foldl Chg.on σ.sure, pend := [], fail := 0, halt := -1, down := false, fs := fun n => if n ∈ ((σ.pend.take K).foldl Chg.on σ.sure).map Prod.snd then ⟨survive (σ.fs n).sure (σ.fs n).pend (Disk.left is n), survive (σ.fs n).sure (σ.fs n).pend (Disk.left is n), []⟩ else σ.fs n } := by
    rw [← hK]; rfl
  refine ⟨fun o l k w' => ∃ lab', l = ((σ.pend.take K).foldl Chg.on σ.sure).length ∧ CRow w' lab' (γ .froz) o (nmC fb ((σ.pend.take K).foldl Chg.on σ.sure)) ∧ Stp NoC w1 lab1 w' lab', ?_, ?_⟩
  · refine ⟨fun o l k i w' => ∃ (j : Nat) (lab' : Nat → C), i = (j : Int) ∧ j ≤ K ∧ l = ((σ.pend.take j).foldl Chg.on σ.sure).length ∧ l ≤ k ∧ CRow w' lab' (γ .froz) o (nmC fb ((σ.pend.take j).foldl Chg.on σ.sure)) ∧ Stp NoC w1 lab1 w' lab',
      fun _ _ _ i _ => ((K : Int) - i).toNat, ⟨0, lab2, rfl, Nat.zero_le _, rfl, hk9, C2, s2⟩, ?_⟩
    clear C2 s2 hk9 F9 hr9
    rintro o _ k _ _ w3 ⟨j, lab3, rfl, hj, rfl, hlk, C3, s3⟩
    have H3 := H.stp s3 (fun _ h => h)
    have X3 := X.stp s3 (fun h => h)
    have done' : ¬ ((j : Int) < K) → ∃ lab', ((σ.pend.take j).foldl Chg.on σ.sure).length = ((σ.pend.take K).foldl Chg.on σ.sure).length ∧ CRow w3 lab' (γ .froz) o (nmC fb ((σ.pend.take K).foldl Chg.on σ.sure)) ∧ Stp NoC w1 lab1 w3 lab' := fun hge => by
      obtain rfl : j = K := by omega
      exact ⟨lab3, rfl, C3, s3⟩
    refine ⟨_, _, _, H3.B.blk.rd1 rfl, fun hlt => ⟨_, X3.blk.rd1 rfl, fun hlt2 => ?_, fun hge2 => done' (by omega)⟩, fun hge => done' (by omega)⟩
    have hjl : j < σ.pend.length := by omega
    have hjK : j < K := by omega
    have hv : (σ.pend.map (mvT fb))[j]? = some (mvT fb σ.pend[j]) := by rw [List.getElem?_map, List.getElem?_eq_getElem hjl]; rfl
    obtain ⟨h1, h2, h3⟩ := cells3_at _ j _ hv
    obtain ⟨b, g, rfl, _, _, hc1⟩ := H3.R.pend.row _ _ h1
    obtain ⟨b', g', hb', _, _, hc2⟩ := H3.R.pend.row _ _ h2
    cases hb'
    obtain ⟨b', g', hb', _, _, hc3⟩ := H3.R.pend.row _ _ h3
    cases hb'
    have hch := chgs_take j hjl hk.chgs
    have hb0 : ∀ a b, σ.pend[j] = .ren a b → b ≠ ⟨#[]⟩ := by
      intro a b he
      rw [he] at hch
      rintro rfl
      exact absurd hch.2.1 (by decide +kernel)
    have hLj := hLn j
    have hd := done_calls (k := k) C3 (by omega) hlk σ.pend[j] hb0
    refine ⟨_, _, _, H3.B.blk.rd1 rfl, _, rfl, by omega, ?_⟩
    simp only [add_at, Int.toNat_natCast]
    have ew : IntKind.wrap .i64 ((j : Int) + 1) = ((j + 1 : Nat) : Int) := by rw [wrap_i64_small (by omega) (by omega)]; omega
    rw [ew]
    obtain ⟨v1, v2, o3, hmv⟩ : ∃ (v1 v2 : Nm) (o3 : Option Addr), mvT fb σ.pend[j] = (.string v1, .string v2, .pointer o3) := by
      cases σ.pend[j] with
      | made n f => exact ⟨_, _, _, rfl⟩
      | ren a b => exact ⟨_, _, _, rfl⟩
      | rem n => exact ⟨_, _, _, rfl⟩
    rw [hmv] at hc1 hc2 hc3 hd
    refine ⟨_, _, _, hc1, by rw [Nat.add_assoc]; exact hc2, by rw [Nat.add_assoc]; exact hc3, ?_⟩
    refine hd.mono ?_
    rintro _ w4 ⟨o4, k4, rfl, hk4, M4, C4⟩
    have s4 : Stp NoC w3 lab3 w4 (ext lab3 w3.heap.size (γ .froz)) := Stp.of_nob M4 _
    have hst := foldl_take_succ σ.sure σ.pend j hjl
    rw [← hst] at C4 hk4 ⊢
    exact ⟨_, _, _, rfl, ⟨j + 1, _, rfl, hjK, rfl, hk4, C4, s3.trans s4⟩, by omega⟩
  clear C2 s2 hk9 F9 hr9
  rintro o34 _ c34 _ w3 ⟨lab3, rfl, C3, s3⟩
  have hL := NamesOk.fold K hk.sure hk.chgs
  have hLl := hLn K
  generalize (σ.pend.take K).foldl Chg.on σ.sure = L at *
  replace H := H.stp s3 (fun _ h => h)
  replace X := X.stp s3 (fun h => h)
  replace hi := hi.stp s3 (fun h => h)
  replace s1 := s1.trans (s3.mono (T := SR γ) (fun _ h => h.elim))
  clear s3
  refine ⟨H.B.blk.canSet (by simp [rdiskA]) rfl, ?_⟩
  rintro _ rfl
  have nd : ∀ {x : RC}, x ≠ .disk → ¬ γ x = γ .disk := fun h e => h (hγ _ _ e)
  have nn : ∀ {x : RC}, x ≠ .now → ¬ γ x = γ .now := fun h e => h (hγ _ _ e)
  have cd : ∀ {x : RC}, x ≠ .froz → ¬ cb = γ x := fun h e => hcb (e ▸ SR.of h)
  obtain ⟨B4, t4⟩ := rset H.B (Stp.refl (· = γ .disk) w3 lab3) rfl 1 (.slice none 0 0) (cs' := rdiskA σ.cap none 0 0 os σ.sure.length cs om σ.pend.length cm σ.files σ.count σ.fail h σ.down) rfl
  replace X := X.stp t4 (nd (by simp))
  replace hi := hi.stp t4 (cd (by simp))
  replace C3 := C3.stp t4 (nd (by simp))
  have F4 : ∀ n, n < σ.files → RFAt (w3.setCell ⟨d, 1, none⟩ (.slice none 0 0)) lab3 γ n (fb n) (σ.fs n) := fun n hn => (H.R.files n hn).stp t4 (nd (by simp)) (nd (by simp)) (nd (by simp))
  replace s1 := s1.trans (t4.mono (T := SR γ) (fun c e => e ▸ SR.of (by simp)))
  generalize w3.setCell ⟨d, 1, none⟩ (.slice none 0 0) = w4 at *
  have hhalt := H.halt
  clear H t4
  let sv : Nat → Fl := fun n => ⟨survive (σ.fs n).sure (σ.fs n).pend (Disk.left is n), survive (σ.fs n).sure (σ.fs n).pend (Disk.left is n), []⟩
  refine ⟨fun i w' => ∃ (j : Nat) (lab' : Nat → C) (fb' : Nat → Nat) (on' : Option Addr) (cn' : Nat), i = (j : Int) ∧ j ≤ L.length ∧
      CB w' lab' (γ .disk) d tRDisk (rdiskA σ.cap on' (L.take j).length cn' os σ.sure.length cs om σ.pend.length cm σ.files σ.count σ.fail h σ.down) ∧
      COw w' lab' (γ .now) tNm 2 on' (L.take j).length cn' (nmC fb' (L.take j)) ∧
      (∀ n, n < σ.files → RFAt w' lab' γ n (fb' n) (if n ∈ (L.take j).map Prod.snd then sv n else σ.fs n)) ∧ (∀ n, n ∉ (L.take j).map Prod.snd → fb' n = fb n) ∧
      CRow w' lab' (γ .froz) o34 (nmC fb L) ∧ CB w' lab' (γ .froz) D3 37 #[.int .i64 n1, .slice o2 is.length c2] ∧ CInts w' lab' cb o2 is ∧ Stp (SR γ) w lab w' lab',
    fun i _ => ((L.length : Int) - i).toNat,
    ⟨0, lab3, fb, none, 0, rfl, Nat.zero_le _, B4, COw.nil _ _ _ _ _, fun n hn => by rw [if_neg (by simp)]; exact F4 n hn, fun _ _ => rfl, C3, X, hi, s1⟩, ?_⟩
  clear B4 F4 C3 X hi s1
  rintro _ _ w5 ⟨j, lab5, fb', on', cn', rfl, hj, B, N, F, hfb, Cl, X, hi, s5⟩
  refine ⟨fun hlt => ?_, fun hge => ?_⟩
  · have hjl : j < L.length := by omega
    have hx := List.getElem?_eq_getElem hjl
    have hxm : L[j] ∈ L := List.getElem_mem hjl
    have htk : L.take (j + 1) = L.take j ++ [L[j]] := by rw [List.take_add_one, hx]; rfl
    have hxn : L[j].2 ∉ (L.take j).map Prod.snd := by
      have hnd := hL.vals
      have : (L.take (j + 1)).map Prod.snd = (L.take j).map Prod.snd ++ [L[j].2] := by rw [htk, List.map_append]; rfl
      have hnd2 : ((L.take (j + 1)).map Prod.snd).Nodup := hnd.sublist ((List.take_sublist _ _).map _)
      rw [this, List.nodup_append] at hnd2
      exact fun hm => hnd2.2.2 _ hm _ (by simp) rfl
    have hfl := hL.files _ hxm
    obtain ⟨b, g, rfl, _, hc1, hc2⟩ := row_name Cl hx
    have ew : IntKind.wrap .i64 ((j : Int) + 1) = ((j + 1 : Nat) : Int) := by rw [wrap_i64_small (by omega) (by omega)]; omega
    generalize hxx : L[j] = x at *
    obtain ⟨xn, xf⟩ := x
    simp only at hxn hfl hc1 hc2
    have hfx := F xf hfl
    rw [if_neg hxn, hfb xf hxn] at hfx
    rw [ew]
    simp only [add_at, Int.toNat_natCast]
    refine ⟨_, rfl, by omega, _, by rw [add_at, add_at]; exact hc2, ?_⟩
    have hl0 : 0 ≤ Disk.left is xf ∧ Disk.left is xf < 9223372036854775808 := by
      unfold Disk.left
      split
      · rename_i hlt3
        have := hil (is.getD xf 0) (by rw [List.getD_eq_getElem?_getD, List.getElem?_eq_getElem hlt3]; exact List.getElem_mem _)
        omega
      · omega
    refine ⟨fun n w' => n = Disk.left is xf ∧ Stp NoC w5 lab5 w' lab5, ?_, ?_⟩
    · rintro _ rfl
      have sA : Stp NoC w5 lab5 w5.drew lab5 := Stp.drew _ _ _
      obtain ⟨o1, c1, q2, r2, o3, c3, ts, FC⟩ := hfx.stp sA (fun h => h) (fun h => h) (fun h => h)
      have XA := X.stp sA (fun h => h)
      have iA := hi.stp sA (fun h => h)
      refine ⟨_, rfl, _, FC.cells.blk.rd1 rfl, _, _, _, XA.blk.rd1 rfl, fun hlt4 => ?_, fun hge4 => ⟨?_, sA⟩⟩
      · rintro _ rfl
        have sB : Stp NoC w5.drew lab5 w5.drew.drew lab5 := Stp.drew _ _ _
        have hx4 : xf < is.length := by omega
        obtain ⟨bi, gi, rfl, _, _, hci⟩ := (iA.stp sB (fun h => h)) xf hx4
        have FCB := FC.cells.stp sB (fun h => h)
        refine ⟨_, _, _, (XA.stp sB (fun h => h)).blk.rd1 rfl, _, rfl, _, FCB.blk.rd1 rfl, _, rfl, by omega, _, by rw [add_at, Int.toNat_natCast]; exact hci, ?_, sA.trans sB⟩
        unfold Disk.left; rw [if_pos hx4]
      · unfold Disk.left; rw [if_neg (by omega)]
    · rintro _ _ w6 ⟨rfl, s6⟩
      have B6 := B.stp s6 (fun h => h)
      have N6 := N.stp s6 (fun h => h)
      have hfx6 := hfx.stp s6 (fun h => h) (fun h => h) (fun h => h)
      have Cl6 := Cl.stp s6 (fun h => h)
      have hsz := (hk.size xf hfl).1
      have hpx := hk.pends xf hfl
      refine (Rsurvives_calls hfx6 (hk.pts xf hfl) hsz (by omega) _ hl0).mono ?_
      rintro _ w7 ⟨o7, k7, rfl, F7, hmost⟩
      refine ⟨_, _, _, rfl, ?_⟩
      generalize hsu : survive (σ.fs xf).sure (σ.fs xf).pend (Disk.left is xf) = bs at *
      simp only [most] at hmost
      have hk7 := F7.own.cap.1
      obtain ⟨C7, s7⟩ := F7.done (lab := lab5) (γ .froz)
      replace C7 := C7.bytes
      have s57 := s6.trans s7
      generalize ext lab5 w6.heap.size (γ .froz) = lab7 at *
      rintro _ rfl
      have sD : Stp NoC w7 lab7 w7.drew lab7 := Stp.drew _ _ _
      replace C7 := C7.stp sD (fun h => h)
      replace s57 := s57.trans sD
      generalize w7.drew = w8 at *
      have B8 := B.stp s57 (fun h => h)
      have N8 := N.stp s57 (fun h => h)
      have Cl8 := Cl.stp s57 (fun h => h)
      obtain ⟨b8, g8, hb8, _, hc8, _⟩ := row_name Cl8 hx
      cases hb8
      simp only at hc8
      obtain ⟨o1, c1, q2, r2, o3, c3, ts, FC8⟩ := hfx.stp s57 (fun h => h) (fun h => h) (fun h => h)
      refine ⟨_, _, _, B8.blk.rd1 rfl, _, rfl, by omega, _, by rw [add_at]; exact hc8, _, rfl, _, FC8.cells.blk.rd1 rfl, ?_⟩
      obtain ⟨o9, k9, w9, hr9, F9⟩ := copy_bytes' (k2 := k7) (ty := tSlU8) (Mod.refl w8) C7.rd (by omega)
      refine ⟨_, w9, hr9, _, _, _, rfl, ?_⟩
      obtain ⟨C9, s9⟩ := F9.done (lab := lab7) (γ .froz)
      replace C9 := C9.bytes
      replace C7 := C7.stp s9 (fun h => h)
      have s59 := s57.trans s9
      generalize ext lab7 w8.heap.size (γ .froz) = lab9 at *
      have B9 := B.stp s59 (fun h => h)
      have Cl9 := Cl.stp s59 (fun h => h)
      obtain ⟨b9, g9, hb9, _, hc9, _⟩ := row_name Cl9 hx
      cases hb9
      simp only at hc9
      refine ⟨(FC8.cells.stp s9 (fun h => h)).blk.rd1 rfl, by rw [add_at]; exact hc9, B9.blk.rd1 rfl, ?_⟩
      rintro d77 w10 ⟨rfl, rfl⟩
      have BF := CB.new w9 lab9 (γ (.file xf)) tRFile #[.int .i64 (xf : Int), .slice o7 bs.length k7, .slice o9 bs.length k9, .slice none 0 0]
      have s10 : Stp NoC w9 lab9 (w9.alloc (.cells #[.int .i64 (xf : Int), .slice o7 bs.length k7, .slice o9 bs.length k9, .slice none 0 0] tRFile)) (ext lab9 w9.heap.size (γ (.file xf))) := Stp.alloc _ _ _ _ _
      replace C7 := C7.stp s10 (fun h => h)
      replace C9 := C9.stp s10 (fun h => h)
      have s510 := s59.trans s10
      change World.cell? (w9.alloc (.cells #[.int .i64 (xf : Int), .slice o7 bs.length k7, .slice o9 bs.length k9, .slice none 0 0] tRFile)) _ = _ ∧ World.cell? (w9.alloc (.cells #[.int .i64 (xf : Int), .slice o7 bs.length k7, .slice o9 bs.length k9, .slice none 0 0] tRFile)) _ = _ ∧ ∀ (d79 : Addr) (w80 : World), IsNew (w9.alloc (.cells #[.int .i64 (xf : Int), .slice o7 bs.length k7, .slice o9 bs.length k9, .slice none 0 0] tRFile)) 114 _ _ _ → _
      generalize w9.alloc (.cells #[.int .i64 (xf : Int), .slice o7 bs.length k7, .slice o9 bs.length k9, .slice none 0 0] tRFile) = w10 at *
      generalize ext lab9 w9.heap.size (γ (.file xf)) = lab10 at *
      generalize w9.heap.size = D at *
      have B10 := B.stp s510 (fun h => h)
      have Cl10 := Cl.stp s510 (fun h => h)
      obtain ⟨b10, g10, hb10, _, hc10, _⟩ := row_name Cl10 hx
      cases hb10
      simp only at hc10
      refine ⟨by rw [add_at]; exact hc10, B10.blk.rd1 rfl, ?_⟩
      let fb2 : Nat → Nat := fun k => if k = xf then D else fb' k
      have efb : ∀ k, k ≠ xf → fb2 k = fb' k := fun k hk => if_neg hk
      have hD : fileV fb2 xf = .pointer (some ⟨D, 0, none⟩) := by simp [fileV, fb2]
      rintro d79 w11 ⟨rfl, rfl⟩
      have Y := Blk.new w10 114 #[.string xn, .pointer (some ⟨D, 0, none⟩)]
      have s11 : Stp NoC w10 lab10 (w10.alloc (.cells #[.string xn, .pointer (some ⟨D, 0, none⟩)] 114)) (ext lab10 w10.heap.size (γ .froz)) := Stp.alloc _ _ _ _ _
      replace C7 := C7.stp s11 (fun h => h)
      replace C9 := C9.stp s11 (fun h => h)
      replace BF := BF.stp s11 (fun h => h)
      have s511 := s510.trans s11
      generalize w10.alloc (.cells #[.string xn, .pointer (some ⟨D, 0, none⟩)] 114) = w11 at *
      generalize ext lab10 w10.heap.size (γ .froz) = lab11 at *
      have B11 := B.stp s511 (fun h => h)
      have N11 := N.stp s511 (fun h => h)
      have X11 := X.stp s511 (fun h => h)
      have i11 := hi.stp s511 (fun h => h)
      have Cl11 := Cl.stp s511 (fun h => h)
      have F11 : ∀ n, n < σ.files → RFAt w11 lab11 γ n (fb' n) (if n ∈ (L.take j).map Prod.snd then sv n else σ.fs n) := fun n hn => (F n hn).stp s511 (fun h => h) (fun h => h) (fun h => h)
      refine ⟨B11.blk.rd1 rfl, ?_⟩
      have hrow : nmC fb2 (L.take j) = nmC fb' (L.take j) := nmC_congr (fun y hy => efb _ (fun e => hxn (e ▸ List.mem_map_of_mem hy)))
      rw [← hD] at Y
      rw [← hrow] at N11
      have hjt : (L.take j).length ≤ 1048576 := by rw [List.length_take]; omega
      obtain ⟨o12, k12, w12, hr12, N12, s12⟩ := push_now N11 Y (by omega)
      refine ⟨_, w12, hr12, _, _, _, rfl, ?_⟩
      have B12 := B11.stp s12 (nn (by simp))
      have X12 := X11.stp s12 (nn (by simp))
      have i12 := i11.stp s12 (cd (by simp))
      have Cl12 := Cl11.stp s12 (nn (by simp))
      replace C7 := C7.stp s12 (nn (by simp))
      replace C9 := C9.stp s12 (nn (by simp))
      replace BF := BF.stp s12 (nn (by simp))
      have F12 : ∀ n, n < σ.files → RFAt w12 (ext lab11 w11.heap.size (γ .now)) γ n (fb' n) (if n ∈ (L.take j).map Prod.snd then sv n else σ.fs n) := fun n hn => (F11 n hn).stp s12 (nn (by simp)) (nn (by simp)) (nn (by simp))
      have S12 := (s5.trans (s511.mono (T := SR γ) (fun _ h => h.elim))).trans (s12.mono (fun c e => e ▸ SR.of (by simp)))
      generalize ext lab11 w11.heap.size (γ .now) = lab12 at *
      refine ⟨B12.blk.canSet (by simp [rdiskA]) rfl, ?_⟩
      rintro _ rfl
      obtain ⟨B13, t13⟩ := rset B12 (Stp.refl (· = γ .disk) w12 lab12) rfl 1 (.slice o12 ((L.take j).length + 1) k12) (cs' := rdiskA σ.cap o12 ((L.take j).length + 1) k12 os σ.sure.length cs om σ.pend.length cm σ.files σ.count σ.fail h σ.down) rfl
      have hl1 : (L.take (j + 1)).length = (L.take j).length + 1 := by rw [htk]; simp
      refine ⟨⟨j + 1, lab12, fb2, o12, k12, rfl, hjl, by rw [hl1]; exact B13, ?_, fun n hn => ?_, fun n hn => ?_, Cl12.stp t13 (nd (by simp)), X12.stp t13 (nd (by simp)), i12.stp t13 (cd (by simp)), S12.trans (t13.mono (fun c e => e ▸ SR.of (by simp)))⟩, by omega⟩
      · rw [hl1, htk]; exact N12.stp t13 (nd (by simp))
      · rw [htk, List.map_append]
        by_cases hnx : n = xf
        · subst hnx
          rw [if_pos (by simp), show fb2 n = D from if_pos rfl]
          refine ⟨o7, k7, o9, k9, none, 0, [], ?_, ?_, ?_, ?_, COw.nil _ _ _ _ _, Pgs.nil⟩
          · simp only [sv, hsu]; exact BF.stp t13 (nd (by simp))
          · simp only [sv, hsu]; exact hk7
          · simp only [sv, hsu]; exact C7.stp t13 (nd (by simp))
          · simp only [sv, hsu]; exact C9.stp t13 (nd (by simp))
        · have e : (n ∈ (L.take j).map Prod.snd ++ [(xn, xf)].map Prod.snd) ↔ n ∈ (L.take j).map Prod.snd := by simp [hnx]
          rw [efb n hnx]
          simp only [e]
          exact (F12 n hn).stp t13 (nd (by simp)) (nd (by simp)) (nd (by simp))
      · rw [htk, List.map_append] at hn
        simp only [List.mem_append, not_or, List.map_cons, List.map_nil, List.mem_singleton] at hn
        rw [efb n hn.2]
        exact hfb n hn.1
  · obtain rfl : j = L.length := by omega
    rw [List.take_length] at B N F hfb
    refine ⟨_, _, _, B.blk.rd1 rfl, ?_⟩
    obtain ⟨o9, k9, w6, hr9, F9⟩ := copy_names (k := cn') (ty := 84) N.row (by omega)
    refine ⟨_, w6, hr9, _, _, _, rfl, ?_⟩
    obtain ⟨C6, s6⟩ := F9.done (lab := lab5) (γ .froz)
    replace C6 := C6.row
    replace B := B.stp s6 (fun h => h)
    have hcap := N.own.cap.1
    replace N := (N.stp s6 (fun h => h)).row
    replace F : ∀ n, n < σ.files → RFAt w6 (ext lab5 w5.heap.size (γ .froz)) γ n (fb' n) (if n ∈ L.map Prod.snd then sv n else σ.fs n) := fun n hn => (F n hn).stp s6 (fun h => h) (fun h => h) (fun h => h)
    replace s5 := s5.trans (s6.mono (T := SR γ) (fun _ h => h.elim))
    generalize ext lab5 w5.heap.size (γ .froz) = lab6 at *
    refine ⟨B.blk.canSet (by simp [rdiskA]) rfl, ?_⟩
    rintro _ rfl
    obtain ⟨B1, t1⟩ := rset B (Stp.refl (· = γ .disk) w6 lab6) rfl 2 (.slice o9 L.length k9) (cs' := rdiskA σ.cap on' L.length cn' o9 L.length k9 om σ.pend.length cm σ.files σ.count σ.fail h σ.down) rfl
    refine ⟨B1.blk.canSet (by simp [rdiskA]) rfl, ?_⟩
    rintro _ rfl
    obtain ⟨B2, t2⟩ := rset B1 t1 rfl 3 (.slice none 0 0) (cs' := rdiskA σ.cap on' L.length cn' o9 L.length k9 none 0 0 σ.files σ.count σ.fail h σ.down) rfl
    refine ⟨B2.blk.canSet (by simp [rdiskA]) rfl, ?_⟩
    rintro _ rfl
    obtain ⟨B3, t3⟩ := rset B2 t2 rfl 6 (.int .i64 0) (cs' := rdiskA σ.cap on' L.length cn' o9 L.length k9 none 0 0 σ.files σ.count 0 h σ.down) rfl
    refine ⟨B3.blk.canSet (by simp [rdiskA]) rfl, ?_⟩
    rintro _ rfl
    obtain ⟨B4, t4⟩ := rset B3 t3 rfl 7 (.int .i64 (-1)) (cs' := rdiskA σ.cap on' L.length cn' o9 L.length k9 none 0 0 σ.files σ.count 0 (-1) σ.down) rfl
    refine ⟨B4.blk.canSet (by simp [rdiskA]) rfl, ?_⟩
    rintro _ rfl
    obtain ⟨B5, t5⟩ := rset B4 t4 rfl 8 (.bool false) (cs' := rdiskA σ.cap on' L.length cn' o9 L.length k9 none 0 0 σ.files σ.count 0 (-1) false) rfl
    refine hR _ _ ⟨rfl, ?_⟩
    rw [hrs]
    exact ⟨lab6, ⟨on', cn', o9, k9, none, 0, fb', -1, ⟨by omega, fun _ => rfl⟩, B5, ⟨hcap, N.stp t5 (nd (by simp)), C6.stp t5 (nd (by simp)), COw.nil _ _ _ _ _, fun n hn => (F n hn).stp t5 (nd (by simp)) (nd (by simp)) (nd (by simp))⟩⟩, s5.trans (t5.mono (fun c e => e ▸ SR.of (by simp)))⟩
end
end Go.Proofs.Ytkekehngillblaa
end

section
set_option linter.unusedVariables false
set_option linter.unusedSimpArgs false
namespace Go.Disk
open Go.Vcg
/-- A step of a law. -/
structure Sp where
  what : Int
  a : Nm
  b : Nm
  at_ : Int
  bytes : List UInt8
  names : Int
  ints : List Int
def step (σ : Dk) (s : Sp) : Dk :=
  if s.what = 0 then (create σ s.a).1
  else if s.what = 1 then (append σ s.a s.bytes).1
  else if s.what = 2 then (writeAt σ s.a s.at_ s.bytes).1
  else if s.what = 3 then (truncate σ s.a s.at_).1
  else if s.what = 4 then (sync σ s.a).1
  else if s.what = 5 then (rename σ s.a s.b).1
  else if s.what = 6 then (remove σ s.a).1
  else if s.what = 7 then (syncDir σ).1
  else if s.what = 8 then failAt σ s.at_
  else if s.what = 9 then haltAt σ s.at_
  else if s.what = 10 then restart σ s.names s.ints
  else σ
theorem step_ok {σ : Dk} (h : Ok σ) (s : Sp) (hs : s.at_ < 9223372036854775808) : Ok (step σ s) ∧ (step σ s).count ≤ σ.count + 1 := by
  unfold step
  split
  · exact ⟨create_ok h _, Nat.le_of_eq (create_count _ _)⟩
  split
  · exact ⟨append_ok h _ _, Nat.le_of_eq (append_count _ _ _)⟩
  split
  · exact ⟨writeAt_ok h _ _ _, Nat.le_of_eq (writeAt_count _ _ _ _)⟩
  split
  · exact ⟨truncate_ok h _ _, Nat.le_of_eq (truncate_count _ _ _)⟩
  split
  · exact ⟨sync_ok h _, Nat.le_of_eq (sync_count _ _)⟩
  split
  · exact ⟨rename_ok h _ _, Nat.le_of_eq (rename_count _ _ _)⟩
  split
  · exact ⟨remove_ok h _, Nat.le_of_eq (remove_count _ _)⟩
  split
  · exact ⟨syncDir_ok h, Nat.le_of_eq (syncDir_count _)⟩
  split
  · exact ⟨failAt_ok h _ hs, Nat.le_succ _⟩
  split
  · exact ⟨haltAt_ok h _ hs, Nat.le_succ _⟩
  split
  · exact ⟨restart_ok h _ _, Nat.le_succ _⟩
  · exact ⟨h, Nat.le_succ _⟩
end Go.Disk
namespace Go.Vcg
section
variable {C : Type} {w w' : World} {lab : Nat → C} {cl : C} {e : TypeId} {sz l c : Nat} {o : Option Addr} {xs : List Value}
theorem COw.set (h : COw w lab cl e sz o l c xs) {j : Nat} (hj : j < l * sz) {v : Value} (hv : v.oneCell' = true) :
    ∃ g, o = some ⟨g, 0, none⟩ ∧ CanSet w ⟨g, j, none⟩ v ∧ COw (w.setCell ⟨g, j, none⟩ v) lab cl e sz o l c (xs.set j v) ∧ Stp (· = cl) w lab (w.setCell ⟨g, j, none⟩ v) lab := by
  rcases h.own.2 with ⟨_, rfl, _⟩ | ⟨g, cur, rfl, hb, hlc, hcm, hcs, ht⟩
  · simp at hj
  · have hle : l * sz ≤ c * sz := Nat.mul_le_mul_right _ hlc
    have hcl : lab g = cl := h.clr g ⟨_, rfl, rfl⟩
    refine ⟨g, rfl, hb.canSet (by rw [hcs]; omega) hv, ⟨⟨by rw [List.length_set]; exact h.own.1, .inr ⟨g, _, rfl, hb.set j v, hlc, hcm, by simpa using hcs, ?_⟩⟩, h.clr⟩, Stp.setCell hcl⟩
    rw [Array.toList_setIfInBounds, List.take_set, ht]
end
end Go.Vcg
namespace Go.Proofs.Ytkekehngillblaa
open Go Go.Vcg Go.Disk
section
variable {C : Type} {w w' : World} {lab lab' : Nat → C} {c : C}
/-- Bytes are spoilt. -/
theorem Spoil_calls {o : Option Addr} {l k : Nat} {xs : List Value} (h : COw w lab c tU8 1 o l k xs) (hl : l < 2 ^ 62) :
    Calls Try.prog morainehelp_Spoil.n #[.slice o l k] w (fun e w' => e = .returned (.tuple #[]) ∧ Stp (· = c) w lab w' lab) := by
  refine morainehelp_Spoil.vc _ _ _ _ _ ?_
  unfold morainehelp_Spoil.Vc
  refine ⟨UpTo l (fun i w' => Stp (· = c) w lab w' lab ∧ ∃ xs', COw w' lab c tU8 1 o l k xs'), Vcg.Left l, ⟨0, rfl, Nat.zero_le _, Stp.refl _ _ _, xs, h⟩, ?_⟩
  rintro _ _ w1 ⟨i, rfl, hi, s1, ys, h1⟩
  refine ⟨fun hlt => ?_, fun hge => ⟨rfl, s1⟩⟩
  obtain ⟨g, rfl, hcs, h2, s2⟩ := h1.set (j := i) (by omega) (v := .int .u8 238) rfl
  refine ⟨_, rfl, by omega, ?_⟩
  rw [Int.toNat_natCast, add_at, Nat.zero_add]
  refine ⟨hcs, ?_⟩
  rintro _ rfl
  exact UpTo.next (by rw [wrap_i64_small (by omega) (by omega)]; omega) (by omega) ⟨s1.trans s2, _, h2⟩
end

/-- Colours of a law with both disks. -/
inductive LC2 where
  | d (x : DC) | r (x : RC) | out | tmp | tm2 | tm3
theorem LC2.dinj : ∀ a b, LC2.d a = LC2.d b → a = b := fun a b h => by cases h; rfl
theorem LC2.rinj : ∀ a b, LC2.r a = LC2.r b → a = b := fun a b h => by cases h; rfl
/-- Whole numbers that lie somewhere. -/
def RdI (w : World) (o : Option Addr) (is : List Int) : Prop :=
  ∀ i, i < is.length → ∃ b g, o = some ⟨b, g, none⟩ ∧ b < w.heap.size ∧ w.cell? ⟨b, g + i, none⟩ = some (.int .i64 (is.getD i 0))
/-- The program's disk with state σ, the reference's with τ. -/
structure L2 (w0 w : World) (lab : Nat → LC2) (d r : Nat) (σ τ : Dk) : Prop where
  M : Stp (· ≠ LC2.out) w0 (fun _ => LC2.out) w lab
  D : DAt w lab LC2.d d σ
  R : RAt w lab LC2.r r τ
variable {w0 w w' : World} {lab lab' : Nat → LC2} {d r : Nat} {σ τ σ' τ' : Dk}
theorem sd_out : ¬ SD LC2.d LC2.out := by rintro ⟨x, _, h⟩; cases h
theorem sd_tmp : ¬ SD LC2.d LC2.tmp := by rintro ⟨x, _, h⟩; cases h
theorem sd_tm2 : ¬ SD LC2.d LC2.tm2 := by rintro ⟨x, _, h⟩; cases h
theorem sd_tm3 : ¬ SD LC2.d LC2.tm3 := by rintro ⟨x, _, h⟩; cases h
theorem sd_r (x : RC) : ¬ SD LC2.d (LC2.r x) := by rintro ⟨x, _, h⟩; cases h
theorem sr_out : ¬ SR LC2.r LC2.out := by rintro ⟨x, _, h⟩; cases h
theorem sr_tmp : ¬ SR LC2.r LC2.tmp := by rintro ⟨x, _, h⟩; cases h
theorem sr_d (x : DC) : ¬ SR LC2.r (LC2.d x) := by rintro ⟨x, _, h⟩; cases h
theorem L2.p (h : L2 w0 w lab d r σ τ) (hr : DRes LC2.d d w lab w' σ') : ∃ lab', L2 w0 w' lab' d r σ' τ ∧ Stp (SD LC2.d) w lab w' lab' := by
  obtain ⟨lab', D, s⟩ := hr
  exact ⟨lab', ⟨h.M.trans (s.mono (fun c ⟨x, _, e⟩ => by rw [e]; simp)), D, h.R.stp s sd_r⟩, s⟩
theorem L2.q (h : L2 w0 w lab d r σ τ) (hr : RRes LC2.r r w lab w' τ') : ∃ lab', L2 w0 w' lab' d r σ τ' ∧ Stp (SR LC2.r) w lab w' lab' := by
  obtain ⟨lab', R, s⟩ := hr
  exact ⟨lab', ⟨h.M.trans (s.mono (fun c ⟨x, _, e⟩ => by rw [e]; simp)), h.D.stp s sr_d, R⟩, s⟩
theorem L2.t (h : L2 w0 w lab d r σ τ) (s : Stp (· = LC2.tmp) w lab w' lab') : L2 w0 w' lab' d r σ τ :=
  ⟨h.M.trans (s.mono (fun c e => by rw [e]; simp)), h.D.stp s (fun x e => by cases e), h.R.stp s (fun x e => by cases e)⟩
theorem L2.t2 (h : L2 w0 w lab d r σ τ) (s : Stp (· = LC2.tm2) w lab w' lab') : L2 w0 w' lab' d r σ τ :=
  ⟨h.M.trans (s.mono (fun c e => by rw [e]; simp)), h.D.stp s (fun x e => by cases e), h.R.stp s (fun x e => by cases e)⟩
theorem L2.t3 (h : L2 w0 w lab d r σ τ) (s : Stp (· = LC2.tm3) w lab w' lab') : L2 w0 w' lab' d r σ τ :=
  ⟨h.M.trans (s.mono (fun c e => by rw [e]; simp)), h.D.stp s (fun x e => by cases e), h.R.stp s (fun x e => by cases e)⟩
theorem L2.z (h : L2 w0 w lab d r σ τ) (s : Stp NoC w lab w' lab') : L2 w0 w' lab' d r σ τ := h.t (s.mono (fun _ h => h.elim))
theorem L2.bytes (h : L2 w0 w lab d r σ τ) {o : Option Addr} {bs : List UInt8} (hr : RdB w0 o bs) : CBy w lab .out o bs :=
  (CBy.mk (w := w0) (lab := fun _ => LC2.out) hr (fun _ _ _ => rfl)).stp h.M (fun h => h rfl)
theorem L2.ints (h : L2 w0 w lab d r σ τ) {o : Option Addr} {is : List Int} (hr : RdI w0 o is) : CInts w lab .out o is := fun i hi => by
  obtain ⟨b, g, ho, hb, hc⟩ := hr i hi
  exact ⟨b, g, ho, Nat.lt_of_lt_of_le hb h.M.size, h.M.lab b hb, (World.cell?_of_block (h.M.block b hb (fun h => h rfl))).trans hc⟩

theorem does_calls2 (h : L2 w0 w lab d r σ σ) (hk : Ok σ) (hc : σ.count < 2 ^ 39) (s : Sp) (hat : s.at_ < 9223372036854775808) (hbl : s.bytes.length ≤ 200) (hil : s.ints.length ≤ 200) (hiv : ∀ x ∈ s.ints, x < 9223372036854775808)
    {o : Option Addr} {k : Nat} (hb : RdB w0 o s.bytes) {oi : Option Addr} {ki : Nat} (hi : RdI w0 oi s.ints) :
    Calls Try.prog morainelaw1_does.n #[.pointer (some ⟨d, 0, none⟩), .pointer (some ⟨r, 0, none⟩), .agg #[.int .i64 s.what, .string s.a, .string s.b, .int .i64 s.at_, .slice o s.bytes.length k, .int .i64 s.names, .slice oi s.ints.length ki]] w
      (fun e w' => e = .returned (.bool true) ∧ ∃ lab', L2 w0 w' lab' d r (Disk.step σ s) (Disk.step σ s)) := by
  have hn : Nums σ := ⟨hc, hk.fail, hk.halt⟩
  have hkb := begins_ok hk
  have hnl := names_few hk
  refine calls_gen fun R hR => morainelaw1_does.vc _ _ _ _ _ _ _ _ _ _ _ _ _ _ _ ?_
  unfold morainelaw1_does.Vc
  rintro d9 w1 ⟨rfl, rfl⟩
  have X := CB.new w lab LC2.out 53 #[.int .i64 s.what, .string s.a, .string s.b, .int .i64 s.at_, .slice o s.bytes.length k, .int .i64 s.names, .slice oi s.ints.length ki]
  have s1 : Stp NoC w lab (w.alloc (.cells #[.int .i64 s.what, .string s.a, .string s.b, .int .i64 s.at_, .slice o s.bytes.length k, .int .i64 s.names, .slice oi s.ints.length ki] 53)) (ext lab w.heap.size LC2.out) := Stp.alloc _ _ _ _ _
  replace h := h.z s1
  clear s1
  generalize w.alloc (.cells #[.int .i64 s.what, .string s.a, .string s.b, .int .i64 s.at_, .slice o s.bytes.length k, .int .i64 s.names, .slice oi s.ints.length ki] 53) = w1 at *
  generalize ext lab w.heap.size LC2.out = lab1 at *
  generalize w.heap.size = D at *
  simp only [add_at, Nat.zero_add]
  have dr : ∀ {w : World} {lab : Nat → LC2} {cs}, L2 w0 w lab d r σ σ → CB w lab LC2.out D 53 cs → L2 w0 w.drew lab d r σ σ ∧ CB w.drew lab LC2.out D 53 cs := fun h X => ⟨h.z (Stp.drew _ _ _), X.stp (Stp.drew NoC _ _) (fun h => h)⟩
  refine ⟨_, X.blk.rd1 rfl, fun h0 => ?_, fun n0 => ⟨fun h1 => ?_, fun n1 => ⟨fun h2 => ?_, fun n2 => ⟨fun h3 => ?_, fun n3 => ⟨fun h4 => ?_, fun n4 => ⟨fun h5 => ?_, fun n5 => ⟨fun h6 => ?_, fun n6 => ⟨fun h7 => ?_, fun n7 => ⟨fun h8 => ?_, fun n8 => ⟨fun h9 => ?_, fun n9 => ⟨fun h10 => ?_, fun n10 => ⟨fun h11 => ?_, fun n11 => ?_⟩⟩⟩⟩⟩⟩⟩⟩⟩⟩⟩⟩
  · -- create
    have hst : Disk.step σ s = (create σ s.a).1 := by unfold Disk.step; rw [if_pos h0]
    rintro _ rfl
    obtain ⟨h, X⟩ := dr h X
    refine ⟨_, X.blk.rd1 rfl, _, X.blk.rd1 rfl, (Create_calls LC2.dinj h.D hn hkb s.a).mono ?_⟩
    rintro _ w3 ⟨rfl, hd⟩
    obtain ⟨lab3, h, s3⟩ := h.p hd
    have X := X.stp s3 sd_out
    refine ⟨_, rfl, X.blk.rd1 rfl, (RCreate_calls LC2.rinj h.R hn hkb s.a).mono ?_⟩
    rintro _ w4 ⟨rfl, hd⟩
    obtain ⟨lab4, h, s4⟩ := h.q hd
    exact ⟨_, rfl, hR _ _ ⟨by simp, lab4, by rw [hst]; exact h⟩⟩
  · -- append
    have hst : Disk.step σ s = (append σ s.a s.bytes).1 := by unfold Disk.step; rw [if_neg n0, if_pos h1]
    have hB := h.bytes hb
    refine ⟨_, _, _, X.blk.rd1 rfl, ?_⟩
    obtain ⟨o2, k2, w2, hr2, F2⟩ := copy_bytes' (k2 := k) (ty := tSlU8) (Mod.refl w1) hB.rd (by omega)
    refine ⟨_, w2, hr2, _, _, _, rfl, ?_⟩
    obtain ⟨C2, s2⟩ := F2.done (lab := lab1) LC2.tmp
    have h := h.z s2
    have X := X.stp s2 (fun h => h)
    generalize ext lab1 w1.heap.size LC2.tmp = lab2 at *
    rintro _ rfl
    obtain ⟨h, X⟩ := dr h X
    replace C2 := C2.stp (Stp.drew NoC _ _) (fun h => h)
    refine ⟨_, X.blk.rd1 rfl, _, X.blk.rd1 rfl, _, _, _, X.blk.rd1 rfl, (Append_calls LC2.dinj h.D hn hkb s.a C2.bytes sd_tmp (by omega)).mono ?_⟩
    rintro _ w3 ⟨rfl, hd⟩
    obtain ⟨lab3, h, s3⟩ := h.p hd
    have X := X.stp s3 sd_out
    replace C2 := C2.stp s3 sd_tmp
    refine ⟨_, rfl, X.blk.rd1 rfl, X.blk.rd1 rfl, (RAppend_calls LC2.rinj h.R hn hkb s.a (h.bytes hb) sr_out (by omega)).mono ?_⟩
    rintro _ w4 ⟨rfl, hd⟩
    obtain ⟨lab4, h, s4⟩ := h.q hd
    replace C2 := C2.stp s4 sr_tmp
    refine ⟨_, rfl, (Spoil_calls C2 (by omega)).mono ?_⟩
    rintro _ w5 ⟨rfl, s5⟩
    exact ⟨rfl, hR _ _ ⟨by simp, lab4, by rw [hst]; exact h.t s5⟩⟩
  · -- write
    have hst : Disk.step σ s = (writeAt σ s.a s.at_ s.bytes).1 := by unfold Disk.step; rw [if_neg n0, if_neg n1, if_pos h2]
    have hB := h.bytes hb
    refine ⟨_, _, _, X.blk.rd1 rfl, ?_⟩
    obtain ⟨o2, k2, w2, hr2, F2⟩ := copy_bytes' (k2 := k) (ty := tSlU8) (Mod.refl w1) hB.rd (by omega)
    refine ⟨_, w2, hr2, _, _, _, rfl, ?_⟩
    obtain ⟨C2, s2⟩ := F2.done (lab := lab1) LC2.tmp
    have h := h.z s2
    have X := X.stp s2 (fun h => h)
    generalize ext lab1 w1.heap.size LC2.tmp = lab2 at *
    rintro _ rfl
    obtain ⟨h, X⟩ := dr h X
    replace C2 := C2.stp (Stp.drew NoC _ _) (fun h => h)
    refine ⟨_, X.blk.rd1 rfl, _, X.blk.rd1 rfl, _, X.blk.rd1 rfl, _, X.blk.rd1 rfl, _, _, _, X.blk.rd1 rfl, (WriteAt_calls LC2.dinj h.D hn hkb s.a s.at_ C2.bytes sd_tmp (by omega)).mono ?_⟩
    rintro _ w3 ⟨rfl, hd⟩
    obtain ⟨lab3, h, s3⟩ := h.p hd
    have X := X.stp s3 sd_out
    replace C2 := C2.stp s3 sd_tmp
    refine ⟨_, rfl, X.blk.rd1 rfl, X.blk.rd1 rfl, X.blk.rd1 rfl, (RWriteAt_calls LC2.rinj h.R hn hkb s.a s.at_ (h.bytes hb) sr_out (by omega)).mono ?_⟩
    rintro _ w4 ⟨rfl, hd⟩
    obtain ⟨lab4, h, s4⟩ := h.q hd
    replace C2 := C2.stp s4 sr_tmp
    refine ⟨_, rfl, (Spoil_calls C2 (by omega)).mono ?_⟩
    rintro _ w5 ⟨rfl, s5⟩
    exact ⟨rfl, hR _ _ ⟨by simp, lab4, by rw [hst]; exact h.t s5⟩⟩
  · -- truncate
    have hst : Disk.step σ s = (truncate σ s.a s.at_).1 := by unfold Disk.step; rw [if_neg n0, if_neg n1, if_neg n2, if_pos h3]
    rintro _ rfl
    obtain ⟨h, X⟩ := dr h X
    refine ⟨_, X.blk.rd1 rfl, _, X.blk.rd1 rfl, _, X.blk.rd1 rfl, _, X.blk.rd1 rfl, (Truncate_calls LC2.dinj h.D hn hkb s.a s.at_).mono ?_⟩
    rintro _ w3 ⟨rfl, hd⟩
    obtain ⟨lab3, h, s3⟩ := h.p hd
    have X := X.stp s3 sd_out
    refine ⟨_, rfl, X.blk.rd1 rfl, X.blk.rd1 rfl, (RTruncate_calls LC2.rinj h.R hn hkb s.a s.at_).mono ?_⟩
    rintro _ w4 ⟨rfl, hd⟩
    obtain ⟨lab4, h, s4⟩ := h.q hd
    exact ⟨_, rfl, hR _ _ ⟨by simp, lab4, by rw [hst]; exact h⟩⟩
  · -- sync
    have hst : Disk.step σ s = (sync σ s.a).1 := by unfold Disk.step; rw [if_neg n0, if_neg n1, if_neg n2, if_neg n3, if_pos h4]
    rintro _ rfl
    obtain ⟨h, X⟩ := dr h X
    refine ⟨_, X.blk.rd1 rfl, _, X.blk.rd1 rfl, (Sync_calls LC2.dinj h.D hn hkb s.a).mono ?_⟩
    rintro _ w3 ⟨rfl, hd⟩
    obtain ⟨lab3, h, s3⟩ := h.p hd
    have X := X.stp s3 sd_out
    refine ⟨_, rfl, X.blk.rd1 rfl, (RSync_calls LC2.rinj h.R hn hkb s.a).mono ?_⟩
    rintro _ w4 ⟨rfl, hd⟩
    obtain ⟨lab4, h, s4⟩ := h.q hd
    exact ⟨_, rfl, hR _ _ ⟨by simp, lab4, by rw [hst]; exact h⟩⟩
  · -- rename
    have hst : Disk.step σ s = (rename σ s.a s.b).1 := by unfold Disk.step; rw [if_neg n0, if_neg n1, if_neg n2, if_neg n3, if_neg n4, if_pos h5]
    rintro _ rfl
    obtain ⟨h, X⟩ := dr h X
    refine ⟨_, X.blk.rd1 rfl, _, X.blk.rd1 rfl, _, X.blk.rd1 rfl, _, X.blk.rd1 rfl, (Rename_calls LC2.dinj h.D hn hkb s.a s.b).mono ?_⟩
    rintro _ w3 ⟨rfl, hd⟩
    obtain ⟨lab3, h, s3⟩ := h.p hd
    have X := X.stp s3 sd_out
    refine ⟨_, rfl, X.blk.rd1 rfl, X.blk.rd1 rfl, (RRename_calls LC2.rinj h.R hn hkb s.a s.b).mono ?_⟩
    rintro _ w4 ⟨rfl, hd⟩
    obtain ⟨lab4, h, s4⟩ := h.q hd
    exact ⟨_, rfl, hR _ _ ⟨by simp, lab4, by rw [hst]; exact h⟩⟩
  · -- remove
    have hst : Disk.step σ s = (remove σ s.a).1 := by unfold Disk.step; rw [if_neg n0, if_neg n1, if_neg n2, if_neg n3, if_neg n4, if_neg n5, if_pos h6]
    rintro _ rfl
    obtain ⟨h, X⟩ := dr h X
    refine ⟨_, X.blk.rd1 rfl, _, X.blk.rd1 rfl, (Remove_calls LC2.dinj h.D hn hkb s.a).mono ?_⟩
    rintro _ w3 ⟨rfl, hd⟩
    obtain ⟨lab3, h, s3⟩ := h.p hd
    have X := X.stp s3 sd_out
    refine ⟨_, rfl, X.blk.rd1 rfl, (RRemove_calls LC2.rinj h.R hn hkb s.a).mono ?_⟩
    rintro _ w4 ⟨rfl, hd⟩
    obtain ⟨lab4, h, s4⟩ := h.q hd
    exact ⟨_, rfl, hR _ _ ⟨by simp, lab4, by rw [hst]; exact h⟩⟩
  · -- syncDir
    have hst : Disk.step σ s = (syncDir σ).1 := by unfold Disk.step; rw [if_neg n0, if_neg n1, if_neg n2, if_neg n3, if_neg n4, if_neg n5, if_neg n6, if_pos h7]
    refine (SyncDir_calls LC2.dinj h.D hn).mono ?_
    rintro _ w3 ⟨rfl, hd⟩
    obtain ⟨lab3, h, s3⟩ := h.p hd
    refine ⟨_, rfl, (RSyncDir_calls LC2.rinj h.R hn hkb).mono ?_⟩
    rintro _ w4 ⟨rfl, hd⟩
    obtain ⟨lab4, h, s4⟩ := h.q hd
    exact ⟨_, rfl, hR _ _ ⟨by simp, lab4, by rw [hst]; exact h⟩⟩
  · -- fail
    have hst : Disk.step σ s = failAt σ s.at_ := by unfold Disk.step; rw [if_neg n0, if_neg n1, if_neg n2, if_neg n3, if_neg n4, if_neg n5, if_neg n6, if_neg n7, if_pos h8]
    refine ⟨_, X.blk.rd1 rfl, (Fail_calls LC2.dinj h.D s.at_).mono ?_⟩
    rintro _ w3 ⟨rfl, hd⟩
    obtain ⟨lab3, h, s3⟩ := h.p hd
    have X := X.stp s3 sd_out
    refine ⟨rfl, _, X.blk.rd1 rfl, (RFail_calls LC2.rinj h.R s.at_).mono ?_⟩
    rintro _ w4 ⟨rfl, hd⟩
    obtain ⟨lab4, h, s4⟩ := h.q hd
    exact ⟨rfl, hR _ _ ⟨rfl, lab4, by rw [hst]; exact h⟩⟩
  · -- halt
    have hst : Disk.step σ s = haltAt σ s.at_ := by unfold Disk.step; rw [if_neg n0, if_neg n1, if_neg n2, if_neg n3, if_neg n4, if_neg n5, if_neg n6, if_neg n7, if_neg n8, if_pos h9]
    refine ⟨_, X.blk.rd1 rfl, (Halt_calls LC2.dinj h.D s.at_).mono ?_⟩
    rintro _ w3 ⟨rfl, hd⟩
    obtain ⟨lab3, h, s3⟩ := h.p hd
    have X := X.stp s3 sd_out
    refine ⟨rfl, _, X.blk.rd1 rfl, (RHalt_calls LC2.rinj h.R s.at_ hat).mono ?_⟩
    rintro _ w4 ⟨rfl, hd⟩
    obtain ⟨lab4, h, s4⟩ := h.q hd
    exact ⟨rfl, hR _ _ ⟨rfl, lab4, by rw [hst]; exact h⟩⟩
  · -- restart
    have hst : Disk.step σ s = restart σ s.names s.ints := by unfold Disk.step; rw [if_neg n0, if_neg n1, if_neg n2, if_neg n3, if_neg n4, if_neg n5, if_neg n6, if_neg n7, if_neg n8, if_neg n9, if_pos h10]
    refine ⟨_, _, _, _, X.blk.rd1 rfl, X.blk.rd1 rfl, (Restart_calls LC2.dinj h.D hk (by omega) s.names (h.ints hi) sd_out hiv (by omega)).mono ?_⟩
    rintro _ w3 ⟨rfl, hd⟩
    obtain ⟨lab3, h, s3⟩ := h.p hd
    have X := X.stp s3 sd_out
    refine ⟨rfl, _, _, _, _, X.blk.rd1 rfl, X.blk.rd1 rfl, (RRestart_calls LC2.rinj h.R hk (by omega) s.names (h.ints hi) sr_out hiv (by omega)).mono ?_⟩
    rintro _ w4 ⟨rfl, hd⟩
    obtain ⟨lab4, h, s4⟩ := h.q hd
    exact ⟨rfl, hR _ _ ⟨rfl, lab4, by rw [hst]; exact h⟩⟩
  · -- read
    have hst : Disk.step σ s = σ := by unfold Disk.step; rw [if_neg n0, if_neg n1, if_neg n2, if_neg n3, if_neg n4, if_neg n5, if_neg n6, if_neg n7, if_neg n8, if_neg n9, if_neg n10]
    refine ⟨_, X.blk.rd1 rfl, _, X.blk.rd1 rfl, _, _, _, X.blk.rd1 rfl, (ReadAt_calls h.D hk s.a s.at_ _ (by omega) LC2.tmp).mono ?_⟩
    rintro _ w3 ⟨o3, k3, rfl, lab3, D3, C3, s3⟩
    obtain ⟨lab3', h, s3'⟩ : ∃ lab', L2 w0 w3 lab' d r σ σ ∧ lab' = lab3 := ⟨lab3, ⟨h.M.trans (s3.mono (fun c ⟨x, _, e⟩ => by rw [e]; simp)), D3, h.R.stp s3 sd_r⟩, rfl⟩
    subst s3'
    have X := X.stp s3 sd_out
    refine ⟨_, _, _, _, rfl, _, X.blk.rd1 rfl, _, X.blk.rd1 rfl, _, _, _, X.blk.rd1 rfl, ?_⟩
    obtain ⟨on, cn, os, cs, om, cm, fb, hh, H⟩ := h.R.in
    have hlen : (Disk.readAt σ s.a s.at_ ((s.bytes.length : Nat) : Int)).1.length < 2 ^ 62 := by
      have hcap := C3.own.cap
      simp only [maxLen] at hcap
      have : (Disk.readAt σ s.a s.at_ ((s.bytes.length : Nat) : Int)).1.length ≤ 200 := by
        unfold Disk.readAt
        split
        · split
          · simp
          · simp only [List.length_take]; omega
        · simp
      omega
    refine (RReadAt_calls H hk hnl s.a s.at_ _ (by omega)).mono ?_
    rintro _ w4 ⟨rfl, o4, k4, rfl, hB4⟩
    refine ⟨_, _, _, _, rfl, fun _ => ?_, fun hne => (hne rfl).elim⟩
    refine (Bytes_calls C3.bytes.rd hB4.rd).mono ?_
    rintro _ w5 ⟨rfl, rfl⟩
    refine ⟨_, rfl, (Spoil_calls C3 hlen).mono ?_⟩
    rintro _ w6 ⟨rfl, s6⟩
    exact ⟨rfl, hR _ _ ⟨by simp, lab3', by rw [hst]; exact h.t s6⟩⟩
  · have hst : Disk.step σ s = σ := by unfold Disk.step; rw [if_neg n0, if_neg n1, if_neg n2, if_neg n3, if_neg n4, if_neg n5, if_neg n6, if_neg n7, if_neg n8, if_neg n9, if_neg n10]
    exact hR _ _ ⟨rfl, lab1, by rw [hst]; exact h⟩
end Go.Proofs.Ytkekehngillblaa
end

section
set_option linter.unusedVariables false
set_option linter.unusedSimpArgs false
namespace Go.Disk
open Go.Vcg
theorem assoc_in {s : Nm} {f : Nat} : ∀ {l : List (Nm × Nat)}, (l.map Prod.fst).Nodup → (s, f) ∈ l → assoc s l = some f
  | y :: r, hn, h => by
    rw [assoc]
    rcases List.mem_cons.1 h with rfl | h
    · rw [if_pos rfl]
    · rw [if_neg ?_]
      · exact assoc_in (List.nodup_cons.1 hn).2 h
      · intro e
        exact (List.nodup_cons.1 hn).1 (List.mem_map.2 ⟨(s, f), h, e.symm⟩)
/-- The name of a row of bytes. -/
abbrev nmOf (ns : List UInt8) : Nm := ⟨ns.toArray⟩
theorem names_in {σ : Dk} (hk : Ok σ) {ns : List UInt8} (h : ns ∈ namesOf σ) : ∃ f, (nmOf ns, f) ∈ σ.names ∧ assoc (nmOf ns) σ.names = some f ∧ right (nmOf ns) = true ∧ f < σ.files := by
  have h1 := (List.mergeSort_perm _ _).mem_iff.1 h
  obtain ⟨x, hx, rfl⟩ := List.mem_map.1 h1
  have e : nmOf x.1.data.toList = x.1 := by
    obtain ⟨⟨a⟩, f⟩ := x; rfl
  rw [e]
  exact ⟨x.2, hx, assoc_in hk.names.keys hx, hk.names.rights x hx, hk.names.files x hx⟩
theorem named_in {σ : Dk} {s : Nm} {f : Nat} (hr : right s = true) (hf : assoc s σ.names = some f) : named σ s = (f, 0) := by simp only [named, hr, if_true, hf]
theorem read_in {σ : Dk} {s : Nm} {f : Nat} (hd : σ.down = false) (hr : right s = true) (hf : assoc s σ.names = some f) : read σ s = ((σ.fs f).bytes, 0) := by
  have : asked σ s = (f, 0) := by unfold asked; rw [if_neg (by rw [hd]; simp)]; exact named_in hr hf
  unfold read
  rw [this, if_pos rfl]
/-- The same names, the same bytes. -/
structure Same (σ σ' : Dk) : Prop where
  down : σ'.down = false
  names : σ'.names = σ.names
  bytes : ∀ x ∈ σ.names, (σ'.fs x.2).bytes = (σ.fs x.2).bytes
theorem Same.namesOf {σ σ' : Dk} (h : Same σ σ') : namesOf σ' = namesOf σ := by unfold Disk.namesOf; rw [h.names]
theorem Same.read {σ σ' : Dk} (h : Same σ σ') (hk : Ok σ) (hd : σ.down = false) {ns : List UInt8} (hn : ns ∈ Disk.namesOf σ) : Disk.read σ' (nmOf ns) = Disk.read σ (nmOf ns) ∧ (Disk.read σ (nmOf ns)).2 = 0 := by
  obtain ⟨f, hm, hf, hr, _⟩ := names_in hk hn
  rw [read_in hd hr hf, read_in h.down hr (by rw [h.names]; exact hf), h.bytes _ hm]
  exact ⟨rfl, rfl⟩
end Go.Disk
namespace Go.Proofs.Ytkekehngillblaa
open Go Go.Vcg Go.Disk Go.Maps
section
variable {C : Type} {w w' : World} {lab lab' : Nat → C} {γ : DC → C} {d : Nat} {σ : Dk} {c : C}
theorem row_names {base : Nat} {v : Value} {n : Nat} {ls : List (List UInt8)} (h : w.ownsRow base tStr 1 v n (ls.map Go.Proofs.encStr)) (hb : ∀ k, base ≤ k → lab k = c) : ∃ o c', v = .slice o ls.length c' ∧ CRow w lab c o (ls.map Go.Proofs.encStr) := by
  obtain ⟨h1, h2⟩ := h
  have hn : ls.length = n := by simpa using h1
  subst hn
  rcases h2 with ⟨rfl, h0⟩ | ⟨g, cap, cur, rfl, hbg, hblk, hc, hm, hs, ht⟩
  · have : ls = [] := List.eq_nil_of_length_eq_zero h0
    subst this
    exact ⟨none, 0, rfl, CRow.nil _ _ _ _⟩
  · refine ⟨_, _, rfl, fun i v hv => ⟨g, 0, rfl, (Array.getElem?_eq_some_iff.1 hblk).1, hb g hbg, ?_⟩⟩
    rw [Blk.cell (t := tStr) (cs := cur) hblk, Nat.zero_add]
    have hi : i < ls.length := by have := (List.getElem?_eq_some_iff.1 hv).1; simpa using this
    rw [← ht, List.getElem?_take, if_pos (by omega)] at hv
    simpa using hv
theorem Names_calls2 (h : DAt w lab γ d σ) (hk : Ok σ) (hd : σ.down = false) (c : C) :
    Calls Try.prog disk_Disk_Names.n #[.pointer (some ⟨d, 0, none⟩)] w (fun e w' => ∃ o k, Vcg.Mod NoB w w' ∧ e = .returned (.tuple #[.slice o (namesOf σ).length k, .int .i64 0]) ∧ CRow w' (ext lab w.heap.size c) c o ((namesOf σ).map Go.Proofs.encStr)) := by
  obtain ⟨mN, mS, po, pl, pc, fb, B, Rt⟩ := h
  refine calls_gen fun R hR => disk_Disk_Names.vc _ _ _ ?_
  unfold disk_Disk_Names.Vc
  simp only [add_at, Nat.zero_add]
  refine ⟨_, B.blk.rd1 rfl, fun h => (by rw [hd] at h; cases h), fun _ => ⟨_, B.blk.rd1 rfl, ?_⟩⟩
  obtain ⟨es, hm, hp⟩ := Rt.names
  have hl : es.length ≤ 1048576 := by rw [hp.length_eq, List.length_map]; exact names_len hk.names hk.files
  obtain ⟨D, hD, hperm, hsz⟩ := names_own hm (by simp only [maxLen]; omega)
  refine (maps_Keys_calls _ _).mono ?_
  rintro _ w1 ⟨rfl, rfl⟩
  refine ⟨_, rfl, ?_⟩
  refine (slices_Sorted_keys_calls _ _ D _ w hD (by rw [hsz]; simp only [maxLen]; omega) (by rw [hsz]; omega)).mono ?_
  rintro _ w2 ⟨v, ss, rfl, hss, hrow, _, hb⟩
  have hss' : ss.mergeSort (fun x y => decide (x ≤ y)) = namesOf σ := by
    refine inOrder_perm (hss.trans (hperm.trans ?_))
    have := hp.map (fun x : Nm × Value => x.1.data.toList)
    rwa [List.map_map] at this
  rw [hss'] at hrow
  have M1 := Mod.alloc (S := NoB) w (.cells #[.map (some mN)] 58)
  have M2 : Vcg.Mod NoB (w.alloc (.cells #[.map (some mN)] 58)) w2 := ⟨hb.os, hb.tape, hb.output, hb.size, fun k hk _ => hb.block k hk⟩
  obtain ⟨o, c', rfl, hr⟩ := row_names (lab := ext lab w.heap.size c) (c := c) hrow (fun k hk => ext_new (Nat.le_trans M1.size hk))
  exact ⟨_, _, _, rfl, hR _ _ ⟨o, c', M1.trans M2 (fun _ _ h => h), rfl, hr⟩⟩
theorem row_str {o : Option Addr} {ls : List (List UInt8)} (h : CRow w lab c o (ls.map Go.Proofs.encStr)) {i : Nat} (hi : i < ls.length) : ∃ b f, o = some ⟨b, f, none⟩ ∧ w.cell? ⟨b, f + i, none⟩ = some (.string (nmOf ls[i])) := by
  obtain ⟨b, f, ho, _, _, hc⟩ := h i (Go.Proofs.encStr ls[i]) (by rw [List.getElem?_map, List.getElem?_eq_getElem hi]; rfl)
  exact ⟨b, f, ho, hc⟩
theorem Texts_calls {o1 o2 : Option Addr} {k1 k2 : Nat} {ls : List (List UInt8)} {lab1 lab2 : Nat → C} {c1 c2 : C} (h1 : CRow w lab1 c1 o1 (ls.map Go.Proofs.encStr)) (h2 : CRow w lab2 c2 o2 (ls.map Go.Proofs.encStr)) (hl : ls.length < 2 ^ 62) :
    Calls Try.prog morainehelp_Texts.n #[.slice o1 ls.length k1, .slice o2 ls.length k2] w (fun e w' => e = .returned (.bool true) ∧ Vcg.Mod NoB w w') := by
  refine morainehelp_Texts.vc _ _ _ _ _ _ _ _ ?_
  unfold morainehelp_Texts.Vc
  refine ⟨fun h => (h rfl).elim, fun _ => ?_⟩
  refine ⟨UpTo ls.length (fun i w' => Vcg.Mod NoB w w' ∧ Stp NoC w lab1 w' (ext lab1 w.heap.size c1) ∧ Stp NoC w lab2 w' (ext lab2 w.heap.size c2)), Vcg.Left ls.length, ⟨0, rfl, Nat.zero_le _, Mod.refl w, Stp.of_nob (Mod.refl w) _, Stp.of_nob (Mod.refl w) _⟩, ?_⟩
  rintro _ _ w1 ⟨i, rfl, hi, M, s1, s2⟩
  refine ⟨fun hlt => ?_, fun hge => ⟨rfl, M⟩⟩
  rintro _ rfl
  have M2 := M.step_drew
  have t1 : Stp NoC w lab1 w1.drew (ext lab1 w.heap.size c1) := Stp.of_nob M2 _
  have t2 : Stp NoC w lab2 w1.drew (ext lab2 w.heap.size c2) := Stp.of_nob M2 _
  have hil : i < ls.length := by omega
  obtain ⟨b1, f1, rfl, hc1⟩ := row_str (h1.stp t1 (fun h => h)) hil
  obtain ⟨b2, f2, rfl, hc2⟩ := row_str (h2.stp t2 (fun h => h)) hil
  refine ⟨_, rfl, by omega, _, by rw [add_at, Int.toNat_natCast]; exact hc1, _, rfl, by omega, _, by rw [add_at, Int.toNat_natCast]; exact hc2, fun he => ?_, fun _ => ?_⟩
  · rw [strB_neq] at he
    exact absurd rfl (of_decide_eq_true he)
  · exact UpTo.next (by rw [wrap_i64_small (by omega) (by omega)]; omega) hil ⟨M2, t1, t2⟩
end

/-- Rows of bytes, kept. -/
def Was (w : World) (lab : Nat → LC2) (o : Option Addr) (k : Nat) (bs : List (List UInt8)) : Prop :=
  ∃ xs : List Value, COw w lab LC2.tmp 30 1 o bs.length k xs ∧ ∀ i, i < bs.length → ∃ oi ki, xs[i]? = some (.slice oi (bs.getD i []).length ki) ∧ CBy w lab LC2.out oi (bs.getD i [])
theorem Was.nil (w : World) (lab : Nat → LC2) : Was w lab none 0 [] := ⟨[], COw.nil _ _ _ _ _, fun i h => by simp at h⟩
theorem Was.stp {w w' : World} {lab lab' : Nat → LC2} {o : Option Addr} {k : Nat} {bs : List (List UInt8)} {S : LC2 → Prop} (h : Was w lab o k bs) (s : Stp S w lab w' lab') (h1 : ¬ S .tmp) (h2 : ¬ S .out) : Was w' lab' o k bs := by
  obtain ⟨xs, h3, h4⟩ := h
  exact ⟨xs, h3.stp s h1, fun i hi => by obtain ⟨oi, ki, e, hb⟩ := h4 i hi; exact ⟨oi, ki, e, hb.stp s h2⟩⟩
theorem und_slsl : Try.prog.underlying 22 = some (.slice 30) := by kernel_rfl
theorem info_sl : (Try.prog.info? 30).map (fun i => (i.zero, i.size, i.bytes)) = some (some (.slice none 0 0), 1, 24) := by kernel_rfl
theorem Was.push {w : World} {lab : Nat → LC2} {o : Option Addr} {k : Nat} {bs : List (List UInt8)} (h : Was w lab o k bs) {b : List UInt8} {ob : Option Addr} {kb : Nat} (hb : CBy w lab LC2.out ob b) {B ty : Nat} (X : Blk w B ty #[.slice ob b.length kb]) (hl : bs.length < 2 ^ 40) :
    ∃ o' k' w', Sem.run Try.prog (builtinV .append #[22, 22] 22 #[.slice o bs.length k, .slice (some ⟨B, 0, none⟩) 1 1]) w = .ok (.slice o' (bs.length + 1) k') w' ∧ Was w' (ext lab w.heap.size LC2.tmp) o' k' (bs ++ [b]) ∧ Stp (· = LC2.tmp) w lab w' (ext lab w.heap.size LC2.tmp) := by
  obtain ⟨xs, h3, h4⟩ := h
  obtain ⟨i, hi, hz, hs, hbb⟩ := info_of info_sl
  obtain ⟨o', k', w', hr, ho, s⟩ := h3.append (tx := 22) (ty := 22) und_slsl hi hz hs rfl (src_one und_slsl X rfl (by simp; rfl)) (by simp only [maxLen]; omega) (by rw [hbb]; omega)
  have hxl : xs.length = bs.length := h3.own.len
  refine ⟨o', k', w', hr, ⟨_, by rw [List.length_append]; exact ho, fun j hj => ?_⟩, s⟩
  by_cases hjl : j < bs.length
  · obtain ⟨oi, ki, e, hb2⟩ := h4 j hjl
    have hg : (bs ++ [b]).getD j [] = bs.getD j [] := by
      rw [List.getD_eq_getElem?_getD, List.getD_eq_getElem?_getD, List.getElem?_append_left hjl]
    rw [hg]
    exact ⟨oi, ki, by rw [List.getElem?_append_left (by omega)]; exact e, hb2.stp s (by simp)⟩
  · have hje : j = bs.length := by simp at hj; omega
    subst hje
    have hg : (bs ++ [b]).getD bs.length [] = b := by
      rw [List.getD_eq_getElem?_getD, List.getElem?_append_right (Nat.le_refl _)]; simp
    rw [hg]
    exact ⟨ob, kb, by rw [List.getElem?_append_right (by omega), hxl]; simp, hb.stp s (by simp)⟩

variable {w0 w w' : World} {lab lab' : Nat → LC2} {d r : Nat} {σ τ σ' τ' : Dk}
theorem L2.read (h : L2 w0 w lab d r σ τ) (hk : Ok σ) (s : Nm) : Calls Try.prog disk_Disk_Read.n #[.pointer (some ⟨d, 0, none⟩), .string s] w (fun e w' => ∃ o k, e = .returned (.tuple #[.slice o (Disk.read σ s).1.length k, .int .i64 (Disk.read σ s).2]) ∧
      ∃ lab', L2 w0 w' lab' d r σ τ ∧ CBy w' lab' LC2.out o (Disk.read σ s).1 ∧ Stp (SD LC2.d) w lab w' lab') :=
  (Read_calls h.D hk s LC2.out).mono fun e w' ⟨o, k, he, lab', D, hc, s⟩ => ⟨o, k, he, lab', ⟨h.M.trans (s.mono (fun c ⟨x, _, e⟩ => by rw [e]; simp)), D, h.R.stp s sd_r⟩, hc.bytes, s⟩
theorem L2.names (h : L2 w0 w lab d r σ τ) (hk : Ok σ) (hd : σ.down = false) : Calls Try.prog disk_Disk_Names.n #[.pointer (some ⟨d, 0, none⟩)] w (fun e w' => ∃ o k, e = .returned (.tuple #[.slice o (namesOf σ).length k, .int .i64 0]) ∧
      ∃ lab', L2 w0 w' lab' d r σ τ ∧ CRow w' lab' LC2.out o ((namesOf σ).map Go.Proofs.encStr) ∧ Stp NoC w lab w' lab') :=
  (Names_calls2 h.D hk hd LC2.out).mono fun e w' ⟨o, k, M, he, hr⟩ => ⟨o, k, he, _, h.z (Stp.of_nob M LC2.out), hr, Stp.of_nob M LC2.out⟩

/-- The last loop: what is read is what was read. -/
def CmpLoop (d : Nat) (o45 : Option Addr) (l46 : Nat) (o50 : Option Addr) (l50 : Nat) (w89 : World) (R : Ending → World → Prop) : Prop :=
  ∃ (I91 : Int → World → Prop) (μ91 : Int → World → Nat), I91 0 w89 ∧
  (∀ (n92 : Int) (j93 : Nat → Value) (w93 : World), I91 n92 w93 →
    (((n92 < ((l46 : Nat) : Int) →
      ∃ d94 : Addr, o45 = some d94 ∧
      ((0 : Int) ≤ n92 ∧ n92 < ((l46 : Nat) : Int)) ∧
      ∃ s95 : ByteArray, World.cell? w93 (Addr.add d94 (Int.toNat n92)) = some (.string s95) ∧
      Calls Try.prog 16 #[(.pointer (some ⟨d, 0, none⟩)), (.string s95)] w93 (fun e96 w97 =>
        ∃ o98 : Option Addr, ∃ l99 : Nat, ∃ l100 : Nat, ∃ n101 : Int, e96 = .returned (.tuple #[(.slice o98 l99 l100), (.int .i64 n101)]) ∧
        (((n101 ≠ 0 →
          R (.returned (.bool false)) w97)) ∧
         ((n101 = 0 →
          ∃ d102 : Addr, o50 = some d102 ∧
          ((0 : Int) ≤ n92 ∧ n92 < ((l50 : Nat) : Int)) ∧
          ∃ o103 : Option Addr, ∃ l104 : Nat, ∃ l105 : Nat, World.cell? w97 (Addr.add d102 (Int.toNat n92)) = some (.slice o103 l104 l105) ∧
          Calls Try.prog 17 #[(.slice o98 l99 l100), (.slice o103 l104 l105)] w97 (fun e106 w107 =>
            ∃ b108 : Bool, e106 = .returned (.bool b108) ∧
            (((b108 = false →
              R (.returned (.bool false)) w107)) ∧
             ((b108 = true →
              I91 (IntKind.wrap .i64 (n92 + 1)) w107 ∧ μ91 (IntKind.wrap .i64 (n92 + 1)) w107 < μ91 n92 w93)))))))))) ∧
     ((¬ n92 < ((l46 : Nat) : Int) →
      R (.returned (.bool true)) w93))))
theorem cmp_loop (h : L2 w0 w lab d r σ' τ) (hk : Ok σ) (hk' : Ok σ') (hd : σ.down = false) (hS : Same σ σ') {o ow : Option Addr} {kw : Nat} (hrow : CRow w lab LC2.out o ((namesOf σ).map Go.Proofs.encStr))
    (hw : Was w lab ow kw ((namesOf σ).map fun ns => (Disk.read σ (nmOf ns)).1)) {R : Ending → World → Prop} (hR : ∀ w', Vcg.Mod NoB w0 w' → R (.returned (.bool true)) w') :
    CmpLoop d o (namesOf σ).length ow ((namesOf σ).map fun ns => (Disk.read σ (nmOf ns)).1).length w R := by
  have hnl : (namesOf σ).length ≤ 1048576 := by
    have := names_few hk
    unfold namesOf inOrder
    rw [(List.mergeSort_perm _ _).length_eq, List.length_map]; exact this
  unfold CmpLoop
  refine ⟨UpTo (namesOf σ).length (fun i w' => ∃ lab', L2 w0 w' lab' d r σ' τ ∧ CRow w' lab' LC2.out o ((namesOf σ).map Go.Proofs.encStr) ∧ Was w' lab' ow kw ((namesOf σ).map fun ns => (Disk.read σ (nmOf ns)).1)), Vcg.Left (namesOf σ).length, ⟨0, rfl, Nat.zero_le _, lab, h, hrow, hw⟩, ?_⟩
  clear h hrow hw
  rintro _ _ w1 ⟨i, rfl, hi, lab1, h, hrow, hw⟩
  refine ⟨fun hlt => ?_, fun hge => hR _ (h.M.nob (fun k _ hk => hk rfl))⟩
  have hil : i < (namesOf σ).length := by omega
  obtain ⟨b, f, rfl, hc⟩ := row_str hrow hil
  have hin : (namesOf σ)[i] ∈ namesOf σ := List.getElem_mem hil
  obtain ⟨hre, hr0⟩ := hS.read hk hd hin
  refine ⟨_, rfl, by omega, _, by rw [add_at, Int.toNat_natCast]; exact hc, ?_⟩
  refine (h.read hk' (nmOf (namesOf σ)[i])).mono ?_
  rw [hre]
  rintro _ w2 ⟨o2, k2, rfl, lab2, h2, hb2, s2⟩
  have hrow2 := hrow.stp s2 sd_out
  have hw2 := hw.stp s2 sd_tmp sd_out
  refine ⟨_, _, _, _, rfl, fun hne => (hne hr0).elim, fun _ => ?_⟩
  have hw3 := hw2
  obtain ⟨xs, hx, hxs⟩ := hw2
  obtain ⟨oi, ki, hxi, hbi⟩ := hxs i (by simpa using hil)
  have hgd : ((namesOf σ).map fun ns => (Disk.read σ (nmOf ns)).1).getD i [] = (Disk.read σ (nmOf (namesOf σ)[i])).1 := by
    rw [List.getD_eq_getElem?_getD, List.getElem?_map, List.getElem?_eq_getElem hil]; rfl
  rw [hgd] at hxi hbi
  obtain ⟨g, rfl, hcx⟩ := hx.own.cell hxi
  refine ⟨_, rfl, by rw [List.length_map]; omega, _, _, _, by rw [add_at, Int.toNat_natCast, Nat.zero_add]; exact hcx, ?_⟩
  refine (Bytes_calls hb2.rd hbi.rd).mono ?_
  rintro _ w3 ⟨rfl, rfl⟩
  refine ⟨_, rfl, fun hf => ?_, fun _ => ?_⟩
  · simp at hf
  · exact UpTo.next (by rw [wrap_i64_small (by omega) (by omega)]; omega) hil ⟨lab2, h2, hrow2, hw3⟩
end Go.Proofs.Ytkekehngillblaa
end

section
set_option linter.unusedVariables false
set_option linter.unusedSimpArgs false
namespace Go.Disk
open Go.Vcg
def runs (σ : Dk) (ss : List Sp) : Dk := ss.foldl step σ
theorem runs_take {σ : Dk} {ss : List Sp} {j : Nat} (h : j < ss.length) : runs σ (ss.take (j + 1)) = step (runs σ (ss.take j)) ss[j] := by
  unfold runs
  rw [List.take_add_one, List.foldl_append, List.getElem?_eq_getElem h]; rfl
theorem sync_quiet {σ : Dk} (hq : Quiet σ) {s : Nm} {f : Nat} (hr : right s = true) (hf : assoc s σ.names = some f) : sync σ s = (setF { σ with count := σ.count + 1 } f { σ.fs f with sure := (σ.fs f).bytes, pend := [] }, 0) := by
  unfold sync onFile
  rw [begins_quiet hq]
  have hn : named { σ with count := σ.count + 1 } s = (f, 0) := named_in hr hf
  simp only [hn, if_true]
structure Syn (σ0 σ : Dk) (n : List (List UInt8)) : Prop where
  quiet : Quiet σ
  names : σ.names = σ0.names
  bytes : ∀ f, (σ.fs f).bytes = (σ0.fs f).bytes
  syn : ∀ ns ∈ n, ∀ f, assoc (nmOf ns) σ0.names = some f → (σ.fs f).sure = (σ.fs f).bytes ∧ (σ.fs f).pend = []
theorem Syn.read {σ0 σ : Dk} {n : List (List UInt8)} (h : Syn σ0 σ n) (hk : Ok σ0) (hd : σ0.down = false) {ns : List UInt8} (hn : ns ∈ namesOf σ0) : Disk.read σ (nmOf ns) = Disk.read σ0 (nmOf ns) ∧ (Disk.read σ0 (nmOf ns)).2 = 0 := by
  obtain ⟨f, hm, hf, hr, _⟩ := names_in hk hn
  rw [read_in hd hr hf, read_in h.quiet.down hr (by rw [h.names]; exact hf), h.bytes]
  exact ⟨rfl, rfl⟩
theorem Syn.step {σ0 σ : Dk} {n : List (List UInt8)} (h : Syn σ0 σ n) (hk : Ok σ0) {ns : List UInt8} (hn : ns ∈ namesOf σ0) : (sync σ (nmOf ns)).2 = 0 ∧ Syn σ0 (sync σ (nmOf ns)).1 (n ++ [ns]) := by
  obtain ⟨f, hm, hf, hr, _⟩ := names_in hk hn
  rw [sync_quiet h.quiet hr (by rw [h.names]; exact hf)]
  refine ⟨rfl, ⟨h.quiet.fail, h.quiet.halt, h.quiet.down⟩, h.names, fun g => ?_, fun ms hms g hg => ?_⟩
  · show (if g = f then (⟨(σ.fs f).bytes, (σ.fs f).bytes, []⟩ : Fl) else σ.fs g).bytes = _
    by_cases hgf : g = f
    · subst hgf; rw [if_pos rfl]; exact h.bytes g
    · rw [if_neg hgf]; exact h.bytes g
  · show (if g = f then (⟨(σ.fs f).bytes, (σ.fs f).bytes, []⟩ : Fl) else σ.fs g).sure = (if g = f then (⟨(σ.fs f).bytes, (σ.fs f).bytes, []⟩ : Fl) else σ.fs g).bytes ∧ (if g = f then (⟨(σ.fs f).bytes, (σ.fs f).bytes, []⟩ : Fl) else σ.fs g).pend = []
    by_cases hgf : g = f
    · subst hgf; rw [if_pos rfl]; exact ⟨rfl, rfl⟩
    · rw [if_neg hgf]
      rcases List.mem_append.1 hms with hms | hms
      · exact h.syn ms hms g hg
      · simp at hms; subst hms
        rw [hf] at hg; cases hg; exact (hgf rfl).elim
theorem Syn.end {σ0 σ : Dk} (h : Syn σ0 σ (namesOf σ0)) (hk : Ok σ0) (n : Int) (is : List Int) : (syncDir σ).2 = 0 ∧ Same σ0 (restart (syncDir σ).1 n is) := by
  have e : syncDir σ = ({ σ with count := σ.count + 1, sure := σ.names, pend := [] }, 0) := by
    unfold syncDir
    rw [begins_quiet h.quiet]; rfl
  rw [e]
  refine ⟨rfl, rfl, ?_, fun x hx => ?_⟩
  · show (([] : List Chg).take _).foldl Chg.on σ.names = _
    rw [List.take_nil]; exact h.names
  · have hm : x.1.data.toList ∈ namesOf σ0 := (List.mergeSort_perm _ _).mem_iff.2 (List.mem_map.2 ⟨x, hx, rfl⟩)
    have hnm : nmOf x.1.data.toList = x.1 := by obtain ⟨⟨a⟩, f⟩ := x; rfl
    have hs := h.syn _ hm x.2 (by rw [hnm]; exact assoc_in hk.names.keys hx)
    show (if x.2 ∈ ((([] : List Chg).take _).foldl Chg.on σ.names).map Prod.snd then (⟨survive (σ.fs x.2).sure (σ.fs x.2).pend _, survive (σ.fs x.2).sure (σ.fs x.2).pend _, []⟩ : Fl) else σ.fs x.2).bytes = _
    rw [List.take_nil, List.foldl_nil, if_pos (by rw [h.names]; exact List.mem_map_of_mem hx)]
    show survive (σ.fs x.2).sure (σ.fs x.2).pend _ = _
    rw [hs.2, survive, hs.1, h.bytes]
end Go.Disk
namespace Go.Proofs.Ytkekehngillblaa
open Go Go.Vcg Go.Disk

theorem RdI.mod {w w' : World} {o : Option Addr} {is : List Int} (h : RdI w o is) (M : Vcg.Mod NoB w w') : RdI w' o is := fun i hi => by
  obtain ⟨b, g, ho, hb, hc⟩ := h i hi
  exact ⟨b, g, ho, Nat.lt_of_lt_of_le hb M.size, (cell_mod M hb (fun h => h)).trans hc⟩
/-- A step that lies somewhere. -/
structure SpAt (w : World) (b g : Nat) (s : Sp) (o1 : Option Addr) (c1 : Nat) (oi : Option Addr) (ci : Nat) : Prop where
  lt : b < w.heap.size
  what : w.cell? ⟨b, g, none⟩ = some (.int .i64 s.what)
  na : w.cell? ⟨b, g + 1, none⟩ = some (.string s.a)
  nb : w.cell? ⟨b, g + 2, none⟩ = some (.string s.b)
  at_ : w.cell? ⟨b, g + 3, none⟩ = some (.int .i64 s.at_)
  bytes : w.cell? ⟨b, g + 4, none⟩ = some (.slice o1 s.bytes.length c1)
  names : w.cell? ⟨b, g + 5, none⟩ = some (.int .i64 s.names)
  ints : w.cell? ⟨b, g + 6, none⟩ = some (.slice oi s.ints.length ci)
  rb : RdB w o1 s.bytes
  ri : RdI w oi s.ints
  ra : s.at_ < 9223372036854775808
  rs : ∀ x ∈ s.ints, x < 9223372036854775808
theorem SpAt.mod {w w' : World} {b g : Nat} {s : Sp} {o1 : Option Addr} {c1 : Nat} {oi : Option Addr} {ci : Nat} (h : SpAt w b g s o1 c1 oi ci) (M : Vcg.Mod NoB w w') : SpAt w' b g s o1 c1 oi ci := by
  have e : ∀ i, w'.cell? ⟨b, i, none⟩ = w.cell? ⟨b, i, none⟩ := fun i => cell_mod M h.lt (fun h => h)
  exact ⟨Nat.lt_of_lt_of_le h.lt M.size, (e _).trans h.what, (e _).trans h.na, (e _).trans h.nb, (e _).trans h.at_, (e _).trans h.bytes, (e _).trans h.names, (e _).trans h.ints, h.rb.mod' M, h.ri.mod M, h.ra, h.rs⟩
/-- Steps that lie somewhere. -/
def RdSps (w : World) (o : Option Addr) (ss : List Sp) : Prop := ∀ (i : Nat) (s : Sp), ss[i]? = some s → ∃ b g o1 c1 oi ci, o = some ⟨b, g, none⟩ ∧ SpAt w b (g + i * 7) s o1 c1 oi ci
theorem RdSps.mod {w w' : World} {o : Option Addr} {ss : List Sp} (h : RdSps w o ss) (M : Vcg.Mod NoB w w') : RdSps w' o ss := fun i s hs => by
  obtain ⟨b, g, o1, c1, oi, ci, ho, hA⟩ := h i s hs
  exact ⟨b, g, o1, c1, oi, ci, ho, hA.mod M⟩
/-- Steps that are looked at. -/
def Few (ss : List Sp) : Prop := ss.length ≤ 60 ∧ ∀ s ∈ ss, s.bytes.length ≤ 200 ∧ s.ints.length ≤ 200
theorem few_calls {w : World} {o : Option Addr} {k : Nat} {ss : List Sp} (h : RdSps w o ss) :
    Calls Try.prog morainelaw1_few.n #[.slice o ss.length k] w (fun e w' => w' = w ∧ ∃ b, e = .returned (.bool b) ∧ (b = true → Few ss)) := by
  refine morainelaw1_few.vc _ _ _ _ _ ?_
  unfold morainelaw1_few.Vc
  refine ⟨fun _ => ⟨rfl, false, rfl, fun h => by cases h⟩, fun h60 => ?_⟩
  refine ⟨UpTo ss.length (fun i w' => w' = w ∧ ∀ s ∈ ss.take i, s.bytes.length ≤ 200 ∧ s.ints.length ≤ 200), Vcg.Left ss.length, ⟨0, rfl, Nat.zero_le _, rfl, by simp⟩, ?_⟩
  rintro _ _ _ ⟨i, rfl, hi, rfl, hs⟩
  refine ⟨fun hlt => ?_, fun hge => ?_⟩
  · have hil : i < ss.length := by omega
    have hx := List.getElem?_eq_getElem hil
    obtain ⟨b, g, o1, c1, oi, ci, rfl, hA⟩ := h i _ hx
    refine ⟨_, rfl, by omega, _, _, _, by rw [add_at, add_at, Int.toNat_natCast]; exact hA.bytes, fun _ => ⟨rfl, false, rfl, fun h => by cases h⟩, fun hb =>
      ⟨_, rfl, by omega, _, _, _, by rw [add_at, add_at, add_at, Int.toNat_natCast]; exact hA.ints, fun _ => ⟨rfl, false, rfl, fun h => by cases h⟩, fun hi2 => ?_⟩⟩
    refine UpTo.next (by rw [wrap_i64_small (by omega) (by omega)]; omega) hil ⟨rfl, fun s hm => ?_⟩
    rw [List.take_add_one, hx] at hm
    rcases List.mem_append.1 hm with hm | hm
    · exact hs s hm
    · simp at hm; subst hm; omega
  · obtain rfl : i = ss.length := by omega
    rw [List.take_length] at hs
    exact ⟨rfl, true, rfl, fun _ => ⟨by omega, hs⟩⟩

variable {w0 w w' : World} {lab lab' : Nat → LC2} {d r : Nat} {σ τ σ' τ' : Dk}
/-- The loop that steps on both disks. -/
@[reducible] def StepLoop (d r : Nat) (o0 : Option Addr) (l0 : Nat) (w19 : World) (K : World → Prop) : Prop :=
  ∃ (I21 : Int → World → Prop) (μ21 : Int → World → Nat), I21 0 w19 ∧
  (∀ (n22 : Int) (j23 : Nat → Value) (w23 : World), I21 n22 w23 →
    (((n22 < ((l0 : Nat) : Int) →
      ∃ d24 : Addr, o0 = some d24 ∧
      ((0 : Int) ≤ n22 ∧ n22 < ((l0 : Nat) : Int)) ∧
      ∃ n25 : Int, ∃ s26 : ByteArray, ∃ s27 : ByteArray, ∃ n28 : Int, ∃ o29 : Option Addr, ∃ l30 : Nat, ∃ l31 : Nat, ∃ n32 : Int, ∃ o33 : Option Addr, ∃ l34 : Nat, ∃ l35 : Nat, World.cell? w23 (Addr.add d24 ((Int.toNat n22) * 7)) = some (.int .i64 n25) ∧
      World.cell? w23 (Addr.add (Addr.add d24 ((Int.toNat n22) * 7)) 1) = some (.string s26) ∧
      World.cell? w23 (Addr.add (Addr.add d24 ((Int.toNat n22) * 7)) 2) = some (.string s27) ∧
      World.cell? w23 (Addr.add (Addr.add d24 ((Int.toNat n22) * 7)) 3) = some (.int .i64 n28) ∧
      World.cell? w23 (Addr.add (Addr.add d24 ((Int.toNat n22) * 7)) 4) = some (.slice o29 l30 l31) ∧
      World.cell? w23 (Addr.add (Addr.add d24 ((Int.toNat n22) * 7)) 5) = some (.int .i64 n32) ∧
      World.cell? w23 (Addr.add (Addr.add d24 ((Int.toNat n22) * 7)) 6) = some (.slice o33 l34 l35) ∧
      Calls Try.prog 22 #[(.pointer (some ⟨d, 0, none⟩)), (.pointer (some ⟨r, 0, none⟩)), (.agg #[(.int .i64 n25), (.string s26), (.string s27), (.int .i64 n28), (.slice o29 l30 l31), (.int .i64 n32), (.slice o33 l34 l35)])] w23 (fun e36 w37 =>
        ∃ b38 : Bool, e36 = .returned (.bool b38) ∧
        I21 (IntKind.wrap .i64 (n22 + 1)) w37 ∧ μ21 (IntKind.wrap .i64 (n22 + 1)) w37 < μ21 n22 w23))) ∧
     ((¬ n22 < ((l0 : Nat) : Int) →
      K w23))))
theorem step_loop (h : L2 w0 w lab d r σ σ) (hk : Ok σ) (hc : σ.count = 0) {o : Option Addr} {ss : List Sp} (hs : RdSps w0 o ss) (hf : Few ss) {K : World → Prop}
    (hK : ∀ w' lab', L2 w0 w' lab' d r (runs σ ss) (runs σ ss) → Ok (runs σ ss) → (runs σ ss).count ≤ 60 → K w') : StepLoop d r o ss.length w K := by
  have h60 := hf.1
  refine ⟨fun i w' => ∃ (j : Nat) (lab' : Nat → LC2), i = (j : Int) ∧ j ≤ ss.length ∧ L2 w0 w' lab' d r (runs σ (ss.take j)) (runs σ (ss.take j)) ∧ Ok (runs σ (ss.take j)) ∧ (runs σ (ss.take j)).count ≤ j, fun i _ => ((ss.length : Int) - i).toNat,
    ⟨0, lab, rfl, Nat.zero_le _, h, hk, Nat.le_of_eq hc⟩, ?_⟩
  rintro _ _ w1 ⟨j, lab1, rfl, hj, h, hk, hc⟩
  refine ⟨fun hlt => ?_, fun hge => ?_⟩
  · have hjl : j < ss.length := by omega
    have hx := List.getElem?_eq_getElem hjl
    have hM : Vcg.Mod NoB w0 w1 := h.M.nob (fun k _ hk => hk rfl)
    obtain ⟨b, g, o1, c1, oi, ci, rfl, hA0⟩ := hs j _ hx
    have hA := hA0.mod hM
    obtain ⟨hb2, hi2⟩ := hf.2 _ (List.getElem_mem hjl)
    have hst := step_ok hk ss[j] hA0.ra
    have hrt := runs_take (σ := σ) hjl
    refine ⟨_, rfl, by omega, _, _, _, _, _, _, _, _, _, _, _, by rw [add_at, Int.toNat_natCast]; exact hA.what, by rw [add_at, add_at, Int.toNat_natCast]; exact hA.na, by rw [add_at, add_at, Int.toNat_natCast]; exact hA.nb, by rw [add_at, add_at, Int.toNat_natCast]; exact hA.at_,
      by rw [add_at, add_at, Int.toNat_natCast]; exact hA.bytes, by rw [add_at, add_at, Int.toNat_natCast]; exact hA.names, by rw [add_at, add_at, Int.toNat_natCast]; exact hA.ints, ?_⟩
    refine (does_calls2 h hk (by omega) ss[j] hA0.ra hb2 hi2 hA0.rs hA0.rb hA0.ri).mono ?_
    rintro _ w2 ⟨rfl, lab2, h2⟩
    refine ⟨_, rfl, ⟨j + 1, lab2, by rw [wrap_i64_small (by omega) (by omega)]; omega, hjl, by rw [hrt]; exact h2, by rw [hrt]; exact hst.1, by rw [hrt]; omega⟩, ?_⟩
    dsimp only
    rw [wrap_i64_small (by omega) (by omega)]; omega
  · obtain rfl : j = ss.length := by omega
    rw [List.take_length] at h hk hc
    exact hK w1 lab1 h hk (by omega)

theorem Synced_calls (w : World) {o0 : Option Addr} {c0 : Nat} {ss : List Sp} (hs : RdSps w o0 ss) (n1 : Int) {o2 : Option Addr} {c2 : Nat} {is : List Int} (hi : RdI w o2 is) (hiv : ∀ x ∈ is, x < 9223372036854775808) :
    Calls Try.prog morainelaw1_DiskSynced.n #[.slice o0 ss.length c0, .agg #[.int .i64 n1, .slice o2 is.length c2]] w (fun e w' => e = .returned (.bool true) ∧ Vcg.Mod NoB w w') := by
  refine calls_gen fun R hR => morainelaw1_DiskSynced.vc _ _ _ _ _ _ _ _ _ ?_
  unfold morainelaw1_DiskSynced.Vc
  rintro d3 w0 ⟨rfl, rfl⟩
  have X := Blk.new w 37 #[.int .i64 n1, .slice o2 is.length c2]
  have M0 : Vcg.Mod NoB w (w.alloc (.cells #[.int .i64 n1, .slice o2 is.length c2] 37)) := Mod.alloc _ _
  replace hs := hs.mod M0
  replace hi := hi.mod M0
  generalize w.alloc (.cells #[.int .i64 n1, .slice o2 is.length c2] 37) = w0 at *
  generalize w.heap.size = D3 at *
  have X0 : CB w0 (fun _ => LC2.out) LC2.out D3 37 #[.int .i64 n1, .slice o2 is.length c2] := ⟨X, rfl⟩
  have hR' : ∀ w', Vcg.Mod NoB w0 w' → R (.returned (.bool true)) w' := fun w' M => hR _ _ ⟨rfl, M0.trans M (fun _ _ h => h)⟩
  clear hR X M0
  simp only [add_at, Nat.zero_add]
  refine (known_calls w0).mono ?_
  rintro _ w1 ⟨rfl, M1⟩
  refine ⟨_, rfl, fun h => (by cases h), fun _ => ?_⟩
  have s1 : Stp (· ≠ LC2.out) w0 (fun _ => LC2.out) w1 (ext (fun _ => LC2.out) w0.heap.size LC2.tmp) := Stp.of_nob M1 _
  refine (New_calls w1 (ext (fun _ => LC2.out) w0.heap.size LC2.tmp) LC2.d 4000).mono ?_
  rintro e w2 (⟨h, _⟩ | ⟨_, d, lab2, rfl, D2, s2⟩)
  · omega
  have hok := new_ok (cap := 4000) (by omega)
  have s02 := s1.trans (s2.mono (fun _ h => h.elim))
  have M02 : Vcg.Mod NoB w0 w2 := s02.nob (fun k _ hk => hk rfl)
  refine ⟨_, _, rfl, fun h => (h rfl).elim, fun _ => ⟨fun h => (by cases h), fun _ => ?_⟩⟩
  refine (few_calls (hs.mod M02)).mono ?_
  rintro _ w2 ⟨rfl, b, rfl, hfew⟩
  refine ⟨_, rfl, fun _ => ⟨fun _ => hR' _ M02, fun h => (h rfl).elim⟩, fun hb => ?_⟩
  have hfew := hfew hb
  have X2 := X0.stp s02 (fun h => h rfl)
  refine ⟨_, _, _, X2.blk.rd1 rfl, fun _ => ⟨fun _ => hR' _ M02, fun h => (h rfl).elim⟩, fun h200 => ?_⟩
  refine (RNew_calls w2 lab2 LC2.r 4000).mono ?_
  rintro _ w3 ⟨r, lab3, rfl, R3, s3⟩
  refine ⟨_, rfl, ?_⟩
  have h3 : L2 w0 w3 lab3 d r (Disk.new 4000) (Disk.new 4000) := ⟨s02.trans (s3.mono (fun _ h => h.elim)), D2.stp s3 (fun _ h => h), R3⟩
  refine step_loop h3 hok rfl hs hfew ?_
  clear h3 R3 s3 X2 M02 s02 s2 D2 s1 M1
  intro w4 lab4 h4 hk hc
  generalize runs (Disk.new 4000) ss = σ at *
  -- failures end
  refine (Fail_calls LC2.dinj h4.D 0).mono ?_
  rintro _ w5 ⟨rfl, hd⟩
  obtain ⟨lab5, h5, _⟩ := h4.p hd
  refine ⟨rfl, (Halt_calls LC2.dinj h5.D (-1)).mono ?_⟩
  rintro _ w6 ⟨rfl, hd⟩
  obtain ⟨lab6, h6, _⟩ := h5.p hd
  refine ⟨rfl, ?_⟩
  have hk6 : Ok (haltAt (failAt σ 0) (-1)) := haltAt_ok (failAt_ok hk 0 (by omega)) (-1) (by omega)
  have hc6 : (haltAt (failAt σ 0) (-1)).count ≤ 60 := hc
  have hqu : (haltAt (failAt σ 0) (-1)).down = false → Quiet (haltAt (failAt σ 0) (-1)) := fun h => ⟨rfl, rfl, h⟩
  generalize haltAt (failAt σ 0) (-1) = τ0 at *
  by_cases hdn : τ0.down = true
  · refine (Names_calls h6.D hk6).mono ?_
    rintro e w7 ⟨o, k, M, he⟩
    rw [if_pos hdn] at he
    subst he
    exact ⟨_, _, _, _, rfl, fun _ => hR' _ ((h6.M.nob (fun k _ hk => hk rfl)).trans M (fun _ _ h => h)), fun h => by cases h⟩
  have hdn' : τ0.down = false := by simpa using hdn
  have hq := hqu hdn'
  refine (h6.names hk6 hdn').mono ?_
  rintro _ w7 ⟨o7, k7, rfl, lab7, h7, hrow, s7⟩
  refine ⟨_, _, _, _, rfl, fun h => (h rfl).elim, fun _ => ?_⟩
  clear s7 h6 h5 h4
  have hnl : (namesOf τ0).length ≤ 1048576 := by
    have := names_few hk6
    unfold namesOf inOrder
    rw [(List.mergeSort_perm _ _).length_eq, List.length_map]; exact this
  refine ⟨fun o l k i w' => ∃ (j : Nat) (lab' : Nat → LC2) (σ' : Dk), i = (j : Int) ∧ j ≤ (namesOf τ0).length ∧ l = (((namesOf τ0).take j).map fun ns => (Disk.read τ0 (nmOf ns)).1).length ∧ L2 w0 w' lab' d r σ' σ ∧ Ok σ' ∧ σ'.count ≤ 60 + j ∧ Syn τ0 σ' ((namesOf τ0).take j) ∧
      CRow w' lab' LC2.out o7 ((namesOf τ0).map Go.Proofs.encStr) ∧ Was w' lab' o k (((namesOf τ0).take j).map fun ns => (Disk.read τ0 (nmOf ns)).1), fun _ _ _ i _ => (((namesOf τ0).length : Int) - i).toNat,
    ⟨0, lab7, τ0, rfl, Nat.zero_le _, rfl, h7, hk6, by omega, ⟨hq, rfl, fun _ => rfl, fun _ h => by simp at h⟩, hrow, Was.nil _ _⟩, ?_⟩
  clear hrow h7
  rintro o _ k _ _ w8 ⟨j, lab8, σ', rfl, hj, rfl, h8, hk8, hc8, hS, hrow, hw⟩
  refine ⟨fun hlt => ?_, fun hge => ?_⟩
  · have hjl : j < (namesOf τ0).length := by omega
    have hin : (namesOf τ0)[j] ∈ namesOf τ0 := List.getElem_mem hjl
    obtain ⟨b, f, rfl, hcell⟩ := row_str hrow hjl
    obtain ⟨hre, hr0⟩ := hS.read hk6 hdn' hin
    obtain ⟨hs0, hS'⟩ := hS.step hk6 hin
    refine ⟨_, rfl, by omega, _, by rw [add_at, Int.toNat_natCast]; exact hcell, ?_⟩
    refine (h8.read hk8 (nmOf (namesOf τ0)[j])).mono ?_
    rw [hre]
    rintro _ w9 ⟨o9, k9, rfl, lab9, h9, hb9, s9⟩
    have hrow9 := hrow.stp s9 sd_out
    have hw9 := hw.stp s9 sd_tmp sd_out
    obtain ⟨b', f', hbe, hcell9⟩ := row_str hrow9 hjl
    cases hbe
    refine ⟨_, _, _, _, rfl, fun hne => (hne hr0).elim, fun _ => ⟨_, rfl, by omega, _, by rw [add_at, Int.toNat_natCast]; exact hcell9, ?_⟩⟩
    refine (Sync_calls LC2.dinj h9.D ⟨by omega, hk8.fail, hk8.halt⟩ (begins_ok hk8) (nmOf (namesOf τ0)[j])).mono ?_
    rintro _ w10 ⟨rfl, hd⟩
    obtain ⟨lab10, h10, s10⟩ := h9.p hd
    have hrow10 := hrow9.stp s10 sd_out
    have hw10 := hw9.stp s10 sd_tmp sd_out
    have hb10 := hb9.stp s10 sd_out
    refine ⟨_, rfl, fun hne => (hne hs0).elim, fun _ => ?_⟩
    rintro d66 w11 ⟨rfl, rfl⟩
    have Y := Blk.new w10 30 #[.slice o9 (Disk.read τ0 (nmOf (namesOf τ0)[j])).1.length k9]
    have s11 : Stp NoC w10 lab10 (w10.alloc (.cells #[.slice o9 (Disk.read τ0 (nmOf (namesOf τ0)[j])).1.length k9] 30)) (ext lab10 w10.heap.size LC2.out) := Stp.alloc _ _ _ _ _
    have h11 := h10.z s11
    have hrow11 := hrow10.stp s11 (fun h => h)
    have hw11 := hw10.stp s11 (fun h => h) (fun h => h)
    have hb11 := hb10.stp s11 (fun h => h)
    change ∃ v w69, Sem.run Try.prog _ (w10.alloc (.cells #[.slice o9 (Disk.read τ0 (nmOf (namesOf τ0)[j])).1.length k9] 30)) = _ ∧ _
    generalize w10.alloc (.cells #[.slice o9 (Disk.read τ0 (nmOf (namesOf τ0)[j])).1.length k9] 30) = w11 at *
    generalize ext lab10 w10.heap.size LC2.out = lab11 at *
    obtain ⟨o12, k12, w12, hr12, hw12, s12⟩ := hw11.push hb11 Y (by rw [List.length_map, List.length_take]; omega)
    have htk : ((namesOf τ0).take (j + 1)) = (namesOf τ0).take j ++ [(namesOf τ0)[j]] := by rw [List.take_add_one, List.getElem?_eq_getElem hjl]; rfl
    have hct := sync_count σ' (nmOf (namesOf τ0)[j])
    refine ⟨_, w12, hr12, _, _, _, rfl, ⟨j + 1, _, _, by rw [wrap_i64_small (by omega) (by omega)]; omega, hjl, by rw [htk, List.map_append]; simp, h11.t s12, sync_ok hk8 _, by omega, by rw [htk]; exact hS', hrow11.stp s12 (by simp), by rw [htk, List.map_append]; exact hw12⟩, ?_⟩
    dsimp only
    rw [wrap_i64_small (by omega) (by omega)]; omega
  · obtain rfl : j = (namesOf τ0).length := by omega
    rw [List.take_length] at hS hw ⊢
    obtain ⟨hsd, hSame⟩ := hS.end hk6 n1 is
    refine (SyncDir_calls LC2.dinj h8.D ⟨by omega, hk8.fail, hk8.halt⟩).mono ?_
    rintro _ w9 ⟨rfl, hd⟩
    obtain ⟨lab9, h9, s9⟩ := h8.p hd
    have hrow9 := hrow.stp s9 sd_out
    have hw9 := hw.stp s9 sd_tmp sd_out
    have X9 := X0.stp h9.M (fun h => h rfl)
    have hk9 := syncDir_ok hk8
    have hc9 := syncDir_count σ'
    refine ⟨_, rfl, fun hne => (hne hsd).elim, fun _ => ⟨_, _, _, _, X9.blk.rd1 rfl, X9.blk.rd1 rfl, ?_⟩⟩
    refine (Restart_calls LC2.dinj h9.D hk9 (by omega) n1 (h9.ints hi) sd_out hiv (by omega)).mono ?_
    rintro _ w10 ⟨rfl, hd⟩
    obtain ⟨lab10, h10, s10⟩ := h9.p hd
    have hrow10 := hrow9.stp s10 sd_out
    have hw10 := hw9.stp s10 sd_tmp sd_out
    have hk10 := restart_ok hk9 n1 is
    generalize Disk.restart (Disk.syncDir σ').1 n1 is = σ1 at *
    refine ⟨rfl, (h10.names hk10 hSame.down).mono ?_⟩
    rw [hSame.namesOf]
    rintro _ w11 ⟨o11, k11, rfl, lab11, h11, hrow11, s11⟩
    have hrow10' := hrow10.stp s11 (fun h => h)
    have hw11 := hw10.stp s11 (fun h => h) (fun h => h)
    refine ⟨_, _, _, _, rfl, fun h => (h rfl).elim, fun _ => ?_⟩
    refine (Texts_calls hrow10' hrow11 (by omega)).mono ?_
    rintro _ w12 ⟨rfl, M12⟩
    have s12 : Stp NoC w11 lab11 w12 (ext lab11 w11.heap.size LC2.out) := Stp.of_nob M12 _
    refine ⟨_, rfl, fun h => (by cases h), fun _ => ?_⟩
    exact cmp_loop (h11.z s12) hk6 hk10 hdn' hSame (hrow10'.stp s12 (fun h => h)) (hw11.stp s12 (fun h => h) (fun h => h)) hR'
end Go.Proofs.Ytkekehngillblaa
end

section
namespace Go.Vcg
open Go

theorem mapM_get {α β : Type} {f : α → Option β} : ∀ {l : List α} {ys : List β}, l.mapM f = some ys → ys.length = l.length ∧ ∀ (i : Nat) (x : α), l[i]? = some x → ∃ y, ys[i]? = some y ∧ f x = some y
  | [], ys, h => by
    rw [List.mapM_nil] at h
    cases h
    exact ⟨rfl, fun i x hx => by simp at hx⟩
  | a :: l, ys, h => by
    rw [List.mapM_cons] at h
    cases ha : f a with
    | none => simp [ha] at h
    | some b =>
      cases hl : l.mapM f with
      | none => simp [ha, hl] at h
      | some bs =>
        simp [ha, hl] at h
        subst h
        obtain ⟨h1, h2⟩ := mapM_get hl
        refine ⟨by simp [h1], fun i x hx => ?_⟩
        cases i with
        | zero => simp at hx; subst hx; exact ⟨b, rfl, ha⟩
        | succ i => simp at hx; exact h2 i x hx
section
variable {H : Type} {enc : TypeId × Value → H} {P : Program} {W : World} {sp : Nat → Bool} {held : Bool} {base : Nat}

/-- What a reading of a slice tells of its elements, one cell each, and of the datum. -/
theorem trod_slice2 {fuel : Nat} {t e : TypeId} {v : Value} {d : DataW H} {ps : List MemPlace} (ht : P.underlying t = some (.slice e)) (hce : P.cellsOf e = 1)
    (h : DataW.trod enc P W base sp held fuel t [v] = some (d, ps)) :
    ∃ o l c, v = .slice o l c ∧ l ≤ c ∧ c ≤ maxLen ∧ ((l = 0 ∧ d = .nil) ∨ ∃ elems spare, d = .slice elems spare ∧ elems.length = l ∧
      ∀ i, i < l → ∃ b f u d' ps' fuel', o = some ⟨b, f, none⟩ ∧ b < W.heap.size ∧ W.cell? ⟨b, f + i, none⟩ = some u ∧ DataW.trod enc P W base sp held fuel' e [u] = some (d', ps') ∧ elems[i]? = some d') := by
  obtain ⟨o, l, c, rfl, hlc, hcm, hall⟩ := trod_slice ht hce h
  refine ⟨o, l, c, rfl, hlc, hcm, ?_⟩
  cases fuel with
  | zero => simp [DataW.trod] at h
  | succ fuel =>
    cases o with
    | none =>
      left
      have : l = 0 ∧ c = 0 := by
        rcases l with _ | l <;> rcases c with _ | c <;> simp [DataW.trod, ht] at h ⊢
      obtain ⟨rfl, rfl⟩ := this
      simp [DataW.trod, ht] at h
      exact ⟨rfl, h.1.symm⟩
    | some a =>
      right
      simp only [DataW.trod, ht, hce, Nat.mul_one] at h
      split at h
      · obtain ⟨els, hm, h2⟩ := Option.bind_eq_some_iff.1 h
        obtain ⟨rest, _, h3⟩ := Option.map_eq_some_iff.1 h2
        cases h3
        obtain ⟨hl, hg⟩ := mapM_get hm
        rw [List.length_range] at hl
        refine ⟨_, _, rfl, by simp [hl], fun i hi => ?_⟩
        obtain ⟨b, f, u, d', ps', fuel', ho, hb, hu, hd⟩ := hall i hi
        cases ho
        obtain ⟨y, hy, hfy⟩ := hg i i (by rw [List.getElem?_range hi])
        obtain ⟨vs, hv, hd2⟩ := Option.bind_eq_some_iff.1 hfy
        obtain ⟨u2, rfl, hu2⟩ := cells1_some hv
        rw [add_at, hu] at hu2
        cases hu2
        exact ⟨b, f, u, y.1, y.2, fuel, rfl, hb, hu, hd2, by rw [List.getElem?_map, hy]; rfl⟩
      · cases h

theorem weights_slice {t e : TypeId} {elems spare : List (DataW H)} {n0 : Nat} (ht : P.underlying t = some (.slice e)) (h : ((DataW.slice elems spare).weights P t).all (· ≤ n0) = true) :
    elems.length * P.bytesOf e ≤ n0 ∧ ∀ d ∈ elems, (d.weights P e).all (· ≤ n0) = true := by
  simp only [DataW.weights, ht, List.all_cons, Bool.and_eq_true, List.all_append] at h
  refine ⟨?_, fun d hd => ?_⟩
  · have h1 : (elems.length + spare.length) * P.bytesOf e ≤ n0 := of_decide_eq_true h.1
    exact Nat.le_trans (Nat.mul_le_mul_right _ (Nat.le_add_right _ _)) h1
  · have h2 := h.2.1
    clear h
    induction elems with
    | nil => cases hd
    | cons x r ih =>
      simp only [DataW.weightsAll, List.all_append, Bool.and_eq_true] at h2
      rcases List.mem_cons.1 hd with rfl | hd
      · exact h2.1
      · exact ih hd h2.2

/-- Bytes, and how many there can be. -/
theorem trod_bytes2 {fuel : Nat} {t e : TypeId} {v : Value} {d : DataW H} {ps : List MemPlace} (ht : P.underlying t = some (.slice e)) (he : P.underlying e = some (.int .u8)) (hce : P.cellsOf e = 1)
    (h : DataW.trod enc P W base sp held fuel t [v] = some (d, ps)) : ∃ o c bs, v = .slice o bs.length c ∧ bs.length ≤ c ∧ c ≤ maxLen ∧ RdB W o bs ∧ ∀ n0, (d.weights P t).all (· ≤ n0) = true → bs.length * P.bytesOf e ≤ n0 := by
  obtain ⟨o, c, bs, rfl, h1, h2, h3⟩ := trod_bytes ht he hce h
  refine ⟨o, c, bs, rfl, h1, h2, h3, fun n0 hw => ?_⟩
  obtain ⟨o', l', c', hv, _, _, h4⟩ := trod_slice2 ht hce h
  cases hv
  rcases h4 with ⟨h5, _⟩ | ⟨elems, spare, rfl, h5, _⟩
  · rw [h5]; simp
  · rw [← h5]; exact (weights_slice ht hw).1
/-- Lists of bytes, and how long each of them can be. -/
theorem trod_bytess2 {fuel : Nat} {t e e2 : TypeId} {v : Value} {d : DataW H} {ps : List MemPlace} (ht : P.underlying t = some (.slice e)) (he : P.underlying e = some (.slice e2)) (he2 : P.underlying e2 = some (.int .u8)) (hce : P.cellsOf e = 1) (hce2 : P.cellsOf e2 = 1)
    (h : DataW.trod enc P W base sp held fuel t [v] = some (d, ps)) : ∃ o c ls, v = .slice o ls.length c ∧ ls.length ≤ c ∧ c ≤ maxLen ∧ RdBB W o ls ∧ ∀ n0, (d.weights P t).all (· ≤ n0) = true → ls.length * P.bytesOf e ≤ n0 ∧ ∀ b ∈ ls, b.length * P.bytesOf e2 ≤ n0 := by
  obtain ⟨o, c, ls, rfl, h1, h2, h3, h3'⟩ := trod_bytess ht he he2 hce hce2 h
  refine ⟨o, c, ls, rfl, h1, h2, h3, fun n0 hw => ?_⟩
  obtain ⟨o', l', c', hv, _, _, h4⟩ := trod_slice2 ht hce h
  cases hv
  rcases h4 with ⟨h5, _⟩ | ⟨elems, spare, rfl, h5, h6⟩
  · rw [h5]
    exact ⟨by simp, fun b hb => by rw [List.eq_nil_of_length_eq_zero h5] at hb; cases hb⟩
  · obtain ⟨h7, h8⟩ := weights_slice ht hw
    refine ⟨by rw [← h5]; exact h7, fun b hb => ?_⟩
    obtain ⟨i, hi, rfl⟩ := List.getElem_of_mem hb
    obtain ⟨bk, f, u, d', ps', fuel', ho, hbk, hu, hd, hel⟩ := h6 i hi
    obtain ⟨bk2, f2, oi, ci, ho2, _, hc2, hr2⟩ := h3 i hi
    rw [ho] at ho2
    cases ho2
    rw [hu] at hc2
    cases hc2
    obtain ⟨o3, c3, bs3, hv3, _, _, _, hw3⟩ := trod_bytes2 he he2 hce2 hd
    have e1 : ls.getD i [] = ls[i] := by simp [List.getD_eq_getElem?_getD, hi]
    have h9 := hw3 n0 (h8 d' (List.mem_of_getElem? hel))
    have h10 : (ls.getD i []).length = bs3.length := by injection hv3
    rw [← h10, e1] at h9
    exact h9
end
theorem i64_range {n : Int} (h : (Lit.int .i64 n).wf = true) : -9223372036854775808 ≤ n ∧ n < 9223372036854775808 := by
  simp only [Lit.wf, Bool.and_eq_true, decide_eq_true_eq] at h
  have h1 : IntKind.min .i64 = -9223372036854775808 := by decide
  have h2 : IntKind.max .i64 = 9223372036854775807 := by decide
  omega
/-- What is told of all arguments is told of each. -/
theorem weights_each {H : Type} {P : Program} {n0 : Nat} : ∀ {ts : List TypeId} {ds : List (DataW H)}, (DataW.weightsEach P ts ds).all (· ≤ n0) = true → ∀ (j : Nat) (t : TypeId) (d : DataW H), ts[j]? = some t → ds[j]? = some d → (d.weights P t).all (· ≤ n0) = true
  | t0 :: ts, d0 :: ds, h, 0, t, d, ht, hd => by
    simp at ht hd
    subst ht hd
    simp only [DataW.weightsEach, List.all_append, Bool.and_eq_true] at h
    exact h.1
  | t0 :: ts, d0 :: ds, h, j + 1, t, d, ht, hd => by
    simp only [DataW.weightsEach, List.all_append, Bool.and_eq_true] at h
    exact weights_each h.2 j t d (by simpa using ht) (by simpa using hd)
  | [], _, _, _, _, _, ht, _ => by simp at ht
  | _ :: _, [], _, _, _, _, _, hd => by simp at hd
end Go.Vcg
end

section
set_option linter.unusedVariables false
set_option linter.unusedSimpArgs false
namespace Go.Vcg
section
variable {H : Type} {enc : TypeId × Value → H} {P : Program} {W : World} {sp : Nat → Bool} {held : Bool} {base : Nat}
theorem cells_some {a : Addr} {n : Nat} {vs : List Value} (h : W.cells? base a n = some vs) : vs.length = n ∧ ∀ j u, vs[j]? = some u → W.cell? (a.add j) = some u := by
  unfold World.cells? at h
  split at h
  · obtain ⟨hl, hg⟩ := mapM_get h
    rw [List.length_range] at hl
    refine ⟨hl, fun j u hu => ?_⟩
    have hj : j < n := by rw [← hl]; exact (List.getElem?_eq_some_iff.1 hu).1
    obtain ⟨y, hy, hc⟩ := hg j j (by rw [List.getElem?_range hj])
    rw [hy] at hu
    cases hu
    exact hc
  · cases h
theorem cell_spot {a : Addr} {u : Value} (h : W.cell? a = some u) : a.spot = none ∧ a.block < W.heap.size := by
  unfold World.cell? at h
  cases hs : a.spot with
  | none =>
    rw [hs] at h
    refine ⟨rfl, ?_⟩
    split at h
    · rename_i hb; exact (Array.getElem?_eq_some_iff.1 hb).1
    · cases h
  | some x =>
    rw [hs] at h
    split at h <;> simp at h
/-- What a reading of a slice tells of its elements, n cells each. -/
theorem trod_slice_n {fuel : Nat} {t e : TypeId} {v : Value} {d : DataW H} {ps : List MemPlace} {n : Nat} (ht : P.underlying t = some (.slice e)) (hce : P.cellsOf e = n) (hn : 0 < n)
    (h : DataW.trod enc P W base sp held fuel t [v] = some (d, ps)) :
    ∃ o l c, v = .slice o l c ∧ ∀ i, i < l → ∃ b f us d' ps' fuel', o = some ⟨b, f, none⟩ ∧ b < W.heap.size ∧ us.length = n ∧ (∀ j u, us[j]? = some u → W.cell? ⟨b, f + i * n + j, none⟩ = some u) ∧ DataW.trod enc P W base sp held fuel' e us = some (d', ps') := by
  cases fuel with
  | zero => simp [DataW.trod] at h
  | succ fuel =>
    cases v with
    | slice o l c =>
      cases o with
      | none =>
        have : l = 0 ∧ c = 0 := by
          rcases l with _ | l <;> rcases c with _ | c <;> simp [DataW.trod, ht] at h ⊢
        obtain ⟨rfl, rfl⟩ := this
        exact ⟨none, 0, 0, rfl, fun i hi => (Nat.not_lt_zero _ hi).elim⟩
      | some a =>
        simp only [DataW.trod, ht, hce] at h
        split at h
        · refine ⟨some a, l, c, rfl, fun i hi => ?_⟩
          obtain ⟨els, hm, _⟩ := Option.bind_eq_some_iff.1 h
          obtain ⟨y, hy⟩ := mapM_all hm i (List.mem_range.2 hi)
          obtain ⟨vs, hv, hd⟩ := Option.bind_eq_some_iff.1 hy
          obtain ⟨hl, hg⟩ := cells_some hv
          obtain ⟨y0, hy0⟩ := mapM_all hm 0 (List.mem_range.2 (by omega))
          obtain ⟨vs0, hv0, _⟩ := Option.bind_eq_some_iff.1 hy0
          obtain ⟨hl0, hg0⟩ := cells_some hv0
          have h0 : ∃ u, vs0[0]? = some u := ⟨vs0[0]'(by omega), List.getElem?_eq_getElem (by omega)⟩
          obtain ⟨u, hu⟩ := h0
          obtain ⟨hs, hb⟩ := cell_spot (hg0 0 u hu)
          obtain ⟨b, f, spot⟩ := a
          have hs' : spot = none := by simpa [Addr.add] using hs
          have hb' : b < W.heap.size := by simpa [Addr.add] using hb
          subst hs'
          refine ⟨b, f, vs, y.1, y.2, fuel, rfl, hb', hl, fun j u hu => ?_, hd⟩
          have := hg j u hu
          rw [add_at, add_at] at this
          exact this
        · cases h
    | _ => simp [DataW.trod, ht] at h
theorem trod_str {fuel : Nat} {e : TypeId} {u : Value} {d : DataW H} {ps : List MemPlace} (he : P.underlying e = some .string) (h : DataW.trod enc P W base sp held fuel e [u] = some (d, ps)) : ∃ s, u = .string s := by
  cases fuel with
  | zero => simp [DataW.trod] at h
  | succ fuel =>
    simp only [DataW.trod, he] at h
    cases u with
    | string s => exact ⟨s, rfl⟩
    | _ => simp at h
theorem trod_field {fuel : Nat} {t : TypeId} {fs : Array Field} {us : List Value} {d : DataW H} {ps : List MemPlace} (ht : P.underlying t = some (.struct fs)) (h : DataW.trod enc P W base sp held fuel t us = some (d, ps)) :
    us.length = P.cellsOf t ∧ ∀ (k : Nat) (f : Field), fs[k]? = some f → ∃ fuel' d' ps', DataW.trod enc P W base sp held fuel' f.type ((us.drop f.offset).take (P.cellsOf f.type)) = some (d', ps') := by
  cases fuel with
  | zero => simp [DataW.trod] at h
  | succ fuel =>
    simp only [DataW.trod, ht] at h
    split at h
    · rename_i hl
      obtain ⟨xs, hm, _⟩ := Option.map_eq_some_iff.1 h
      refine ⟨hl, fun k f hf => ?_⟩
      obtain ⟨_, hg⟩ := mapM_get hm
      obtain ⟨y, _, hy⟩ := hg k f (by rw [Array.getElem?_toList]; exact hf)
      exact ⟨fuel, y.1, y.2, hy⟩
    · cases h
end
end Go.Vcg
namespace Go.Proofs.Ytkekehngillblaa
open Go Go.Vcg Go.Disk
section
variable {H : Type} {enc : TypeId × Value → H} {W : World} {sp : Nat → Bool} {held : Bool} {base : Nat}
theorem und_ints : Try.prog.underlying 35 = some (.slice 3) := by kernel_rfl
theorem und_i64 : Try.prog.underlying 3 = some (.int .i64) := by kernel_rfl
theorem len2 {α : Type} {us : List α} (h : us.length = 2) : ∃ a b, us = [a, b] := by
  rcases us with _ | ⟨a, _ | ⟨b, _ | ⟨c, r⟩⟩⟩ <;> simp at h ⊢
theorem len7 {α : Type} {us : List α} (h : us.length = 7) : ∃ a b c d e f g, us = [a, b, c, d, e, f, g] := by
  rcases us with _ | ⟨a, _ | ⟨b, _ | ⟨c, _ | ⟨d, _ | ⟨e, _ | ⟨f, _ | ⟨g, _ | ⟨x, r⟩⟩⟩⟩⟩⟩⟩⟩ <;> simp at h ⊢
/-- Whole numbers as an argument. -/
theorem open_ints {fuel : Nat} {v : Value} {d : DataW H} {ps : List MemPlace} (h : DataW.trod enc Try.prog W base sp held fuel 35 [v] = some (d, ps)) :
    ∃ o c is, v = .slice o is.length c ∧ RdI W o is ∧ ∀ x ∈ is, x < 9223372036854775808 := by
  obtain ⟨o, l, c, rfl, _, _, f, hf, hb⟩ := trod_ints und_ints und_i64 (by kernel_rfl) h
  have hl : ((List.range l).map f).length = l := by simp
  refine ⟨o, c, (List.range l).map f, by rw [hl], fun i hi => ?_, fun x hx => ?_⟩
  · rw [hl] at hi
    obtain ⟨b, g, ho, hb, hc⟩ := hf i hi
    refine ⟨b, g, ho, hb, ?_⟩
    rw [hc]
    simp [List.getD_eq_getElem?_getD, hi]
  · obtain ⟨i, hi, rfl⟩ := List.mem_map.1 hx
    exact (hb i (List.mem_range.1 hi)).2
/-- A crash as an argument. -/
theorem open_crash {fuel : Nat} {us : List Value} {d : DataW H} {ps : List MemPlace} (h : DataW.trod enc Try.prog W base sp held fuel 37 us = some (d, ps)) :
    ∃ n o c is, us = [.int .i64 n, .slice o is.length c] ∧ RdI W o is ∧ ∀ x ∈ is, x < 9223372036854775808 := by
  obtain ⟨hl, hf⟩ := trod_field Try.underlying37 h
  rw [show Try.prog.cellsOf 37 = 2 from by kernel_rfl] at hl
  obtain ⟨u0, u1, rfl⟩ := len2 hl
  obtain ⟨f0, d0, p0, h0⟩ := hf 0 ⟨ "Names", 3, 0, false, "", "", 0⟩ rfl
  obtain ⟨f1, d1, p1, h1⟩ := hf 1 ⟨ "Bytes", 35, 1, false, "", "", 8⟩ rfl
  dsimp only at h0 h1
  rw [show Try.prog.cellsOf 3 = 1 from by kernel_rfl] at h0
  rw [show Try.prog.cellsOf 35 = 1 from by kernel_rfl] at h1
  obtain ⟨m, rfl, _⟩ := trod_i64 und_i64 h0
  obtain ⟨o, c, is, rfl, hi, hv⟩ := open_ints h1
  exact ⟨m, o, c, is, rfl, hi, hv⟩
/-- Steps as an argument. -/
theorem open_steps {fuel : Nat} {v : Value} {d : DataW H} {ps : List MemPlace} (h : DataW.trod enc Try.prog W base sp held fuel 47 [v] = some (d, ps)) :
    ∃ o c ss, v = .slice o ss.length c ∧ RdSps W o ss := by
  obtain ⟨o, l, c, rfl, hall⟩ := trod_slice_n (n := 7) (show Try.prog.underlying 47 = some (.slice 53) by kernel_rfl) (by kernel_rfl) (by omega) h
  have hx : ∀ i, ∃ s : Sp, i < l → ∃ b g o1 c1 oi ci, o = some ⟨b, g, none⟩ ∧ SpAt W b (g + i * 7) s o1 c1 oi ci := fun i => by
    by_cases hi : i < l
    · obtain ⟨b, f, us, d', ps', fuel', ho, hb, hl, hg, hd⟩ := hall i hi
      obtain ⟨_, hf⟩ := trod_field Try.underlying53 hd
      obtain ⟨u0, u1, u2, u3, u4, u5, u6, rfl⟩ := len7 hl
      obtain ⟨f0, d0, p0, h0⟩ := hf 0 ⟨ "What", 3, 0, false, "", "", 0⟩ rfl
      obtain ⟨f1, d1, p1, h1⟩ := hf 1 ⟨ "A", 9, 1, false, "", "", 8⟩ rfl
      obtain ⟨f2, d2, p2, h2⟩ := hf 2 ⟨ "B", 9, 2, false, "", "", 24⟩ rfl
      obtain ⟨f3, d3, p3, h3⟩ := hf 3 ⟨ "At", 3, 3, false, "", "", 40⟩ rfl
      obtain ⟨f4, d4, p4, h4⟩ := hf 4 ⟨ "Bytes", 30, 4, false, "", "", 48⟩ rfl
      obtain ⟨f5, d5, p5, h5⟩ := hf 5 ⟨ "Crash", 37, 5, false, "", "", 72⟩ rfl
      dsimp only at h0 h1 h2 h3 h4 h5
      rw [show Try.prog.cellsOf 3 = 1 from by kernel_rfl] at h0 h3
      rw [show Try.prog.cellsOf 9 = 1 from by kernel_rfl] at h1 h2
      rw [show Try.prog.cellsOf 30 = 1 from by kernel_rfl] at h4
      rw [show Try.prog.cellsOf 37 = 2 from by kernel_rfl] at h5
      obtain ⟨what, rfl, _⟩ := trod_i64 und_i64 h0
      obtain ⟨a, rfl⟩ := trod_str und_str h1
      obtain ⟨b2, rfl⟩ := trod_str und_str h2
      obtain ⟨at_, rfl, _, hat⟩ := trod_i64 und_i64 h3
      obtain ⟨o1, c1, bytes, rfl, _, _, hr, _⟩ := trod_bytes2 und_slU8 (show Try.prog.underlying tU8 = some (.int .u8) by kernel_rfl) (by kernel_rfl) h4
      obtain ⟨names, oi, ci, ints, he, hri, hv⟩ := open_crash h5
      simp only [List.drop_succ_cons, List.drop_zero, List.take_succ_cons, List.take_zero, List.cons.injEq, and_true] at he
      obtain ⟨rfl, rfl⟩ := he
      exact ⟨⟨what, a, b2, at_, bytes, names, ints⟩, fun _ => ⟨b, f, o1, c1, oi, ci, ho, ⟨hb, hg 0 _ rfl, hg 1 _ rfl, hg 2 _ rfl, hg 3 _ rfl, hg 4 _ rfl, hg 5 _ rfl, hg 6 _ rfl, hr, hri, hat, hv⟩⟩⟩
    · exact ⟨⟨0, ⟨#[]⟩, ⟨#[]⟩, 0, [], 0, []⟩, fun h => (hi h).elim⟩
  have hl : ((List.range l).map (fun i => Classical.choose (hx i))).length = l := by simp
  refine ⟨o, c, (List.range l).map (fun i => Classical.choose (hx i)), by rw [hl], fun i s hs => ?_⟩
  have hi : i < l := by rw [← hl]; exact (List.getElem?_eq_some_iff.1 hs).1
  have hsp := Classical.choose_spec (hx i) hi
  have he : s = Classical.choose (hx i) := by
    rw [List.getElem?_map, List.getElem?_range hi] at hs
    simpa using hs.symm
  rw [he]
  exact hsp
end
end Go.Proofs.Ytkekehngillblaa
end
