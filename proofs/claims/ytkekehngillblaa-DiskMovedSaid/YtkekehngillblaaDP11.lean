/- The program's disk: a restart. -/
import Derived.Test.YtkekehngillblaaDP10
set_option linter.unusedVariables false
set_option linter.unusedSimpArgs false
namespace Go.Disk
theorem chgs_take {files : Nat} : ∀ {l l' : List (Nm × Nat)} {p : List Chg} (j : Nat) (h : j < p.length), ChgsOk files l p l' → ChgOk files ((p.take j).foldl Chg.on l) p[j]
  | l, l', c :: r, 0, _, h => h.1
  | l, l', c :: r, j + 1, hj, h => by
    rw [List.take_succ_cons, List.foldl_cons, List.getElem_cons_succ]
    exact chgs_take j (by simpa using hj) h.2
theorem foldl_take_succ (l : List (Nm × Nat)) (p : List Chg) (j : Nat) (h : j < p.length) : (p.take (j + 1)).foldl Chg.on l = p[j].on ((p.take j).foldl Chg.on l) := by
  rw [List.take_add_one, List.foldl_append, List.getElem?_eq_getElem h]; rfl
theorem keys_without {V : Type} (k : Nm) (l : List (Nm × V)) : (without k l).map Prod.fst = (l.map Prod.fst).filter (fun x => decide (x ≠ k)) := by
  unfold without
  rw [List.filter_map]; rfl
theorem NamesOk.without {files : Nat} {l : List (Nm × Nat)} (h : NamesOk files l) (k : Nm) : NamesOk files (without k l) := by
  refine ⟨?_, ?_, fun x hx => h.rights x ((List.mem_filter.1 hx).1), fun x hx => h.files x ((List.mem_filter.1 hx).1)⟩
  · exact h.keys.sublist ((List.filter_sublist).map _)
  · exact h.vals.sublist ((List.filter_sublist).map _)
theorem mem_without {V : Type} {k : Nm} {l : List (Nm × V)} {x : Nm × V} : x ∈ Disk.without k l ↔ x ∈ l ∧ x.1 ≠ k := by
  unfold Disk.without
  rw [List.mem_filter]; simp
theorem NamesOk.put {files : Nat} {l : List (Nm × Nat)} (h : NamesOk files l) {k : Nm} {f : Nat} (hk : right k = true) (hf : f < files) (hn : f ∉ l.map Prod.snd) : NamesOk files (put k f l) := by
  have hw := h.without k
  unfold Disk.put
  refine ⟨?_, ?_, fun x hx => ?_, fun x hx => ?_⟩
  · rw [List.map_append, List.nodup_append]
    refine ⟨hw.keys, by simp, fun a ha b hb e => ?_⟩
    simp at hb
    subst hb
    obtain ⟨x, hx, rfl⟩ := List.mem_map.1 ha
    exact (mem_without.1 hx).2 e
  · rw [List.map_append, List.nodup_append]
    refine ⟨hw.vals, by simp, fun a ha b hb e => ?_⟩
    simp at hb
    subst hb
    obtain ⟨x, hx, rfl⟩ := List.mem_map.1 ha
    exact hn (e ▸ List.mem_map_of_mem (mem_without.1 hx).1)
  · rcases List.mem_append.1 hx with hx | hx
    · exact hw.rights x hx
    · simp at hx; subst hx; exact hk
  · rcases List.mem_append.1 hx with hx | hx
    · exact hw.files x hx
    · simp at hx; subst hx; exact hf
theorem NamesOk.on {files : Nat} {l : List (Nm × Nat)} (h : NamesOk files l) {c : Chg} (hc : ChgOk files l c) : NamesOk files (c.on l) := by
  cases c with
  | made n f => exact h.put hc.1 hc.2.1 hc.2.2.1
  | rem n => exact h.without n
  | ren a b =>
    simp only [Chg.on]
    cases hf : Go.Vcg.assoc a l with
    | none => exact h
    | some f =>
      have hm := Go.Proofs.Ytkekehngillblaa.assoc_some hf
      refine (h.without a).put hc.2.1 (h.files _ hm) ?_
      intro hin
      obtain ⟨x, hx, he⟩ := List.mem_map.1 hin
      obtain ⟨hx1, hx2⟩ := mem_without.1 hx
      -- two entries of one file
      have : x = (a, f) := by
        obtain ⟨i, hi, hix⟩ := List.getElem_of_mem hx1
        obtain ⟨j, hj, hjx⟩ := List.getElem_of_mem hm
        have hij : i = j := (List.getElem_inj (xs := l.map Prod.snd) (h₀ := by simpa using hi) (h₁ := by simpa using hj) h.vals).1 (by simp [hix, hjx, he])
        subst hij
        rw [← hix, hjx]
      rw [this] at hx2
      exact hx2 rfl
theorem NamesOk.fold {files : Nat} : ∀ {l l' : List (Nm × Nat)} {p : List Chg} (j : Nat), NamesOk files l → ChgsOk files l p l' → NamesOk files ((p.take j).foldl Chg.on l)
  | l, l', [], j, h, _ => by simpa using h
  | l, l', c :: r, 0, h, _ => h
  | l, l', c :: r, j + 1, h, hc => by
    rw [List.take_succ_cons, List.foldl_cons]
    exact NamesOk.fold j (h.on hc.1) hc.2
end Go.Disk
namespace Go.Proofs.Ytkekehngillblaa
open Go Go.Vcg Go.Disk
section
variable {C : Type} {w w' : World} {lab lab' : Nat → C} {γ : DC → C} {d : Nat} {σ : Dk} {c : C} {m : Nat}
variable {mN mS : Nat} {po : Option Addr} {pl pc : Nat} {fb : Nat → Nat} {names sure l : List (Nm × Nat)} {pend : List Chg} {files files0 : Nat} {fs : Nat → Fl}

/-- Whole numbers that are read. -/
def CInts (w : World) (lab : Nat → C) (c : C) (o : Option Addr) (is : List Int) : Prop :=
  ∀ i, i < is.length → ∃ b g, o = some ⟨b, g, none⟩ ∧ b < w.heap.size ∧ lab b = c ∧ w.cell? ⟨b, g + i, none⟩ = some (.int .i64 (is.getD i 0))
theorem CInts.stp {S : C → Prop} {o : Option Addr} {is : List Int} (h : CInts w lab c o is) (s : Stp S w lab w' lab') (hs : ¬ S c) : CInts w' lab' c o is := fun i hi => by
  obtain ⟨b, g, ho, hb, hl, hc⟩ := h i hi
  exact ⟨b, g, ho, Nat.lt_of_lt_of_le hb s.size, (s.lab b hb).trans hl, (World.cell?_of_block (s.block b hb (by rw [hl]; exact hs))).trans hc⟩

theorem Restart_calls (hγ : ∀ a b, γ a = γ b → a = b) (h : DAt w lab γ d σ) (hk : Ok σ) (hcnt : σ.count < 2 ^ 40) (n1 : Int) {o2 : Option Addr} {c2 : Nat} {is : List Int} {cb : C} (hi : CInts w lab cb o2 is) (hcb : ¬ SD γ cb) (hil : ∀ x ∈ is, x < 9223372036854775808) (hlen : is.length < 2 ^ 62) :
    Calls Try.prog disk_Disk_Restart.n #[.pointer (some ⟨d, 0, none⟩), .agg #[.int .i64 n1, .slice o2 is.length c2]] w (fun e w' => e = .returned (.tuple #[]) ∧ DRes γ d w lab w' (restart σ n1 is)) := by
  have ne : ∀ {x y : DC}, x ≠ y → ¬ γ x = γ y := fun h e => h (hγ _ _ e)
  have sd : ∀ {x : DC}, x ≠ .froz → ∀ c, c = γ x → SD γ c := fun h c e => e ▸ SD.of h
  have hcb' : ∀ {x : DC}, x ≠ .froz → ¬ cb = γ x := fun h e => hcb (e ▸ SD.of h)
  obtain ⟨mN, mS, po, pl, pc, fb, B, Rt⟩ := h
  have hpl : pl = σ.pend.length := by have := Rt.pend.own.1; simpa using this.symm
  have hpe := hk.pend
  refine calls_gen fun R hR => disk_Disk_Restart.vc _ _ _ _ _ _ _ ?_
  unfold disk_Disk_Restart.Vc
  rintro d3 w1 ⟨rfl, rfl⟩
  have X := CB.new w lab (γ .froz) tCrash #[.int .i64 n1, .slice o2 is.length c2]
  have s1 : Stp NoC w lab (w.alloc (.cells #[.int .i64 n1, .slice o2 is.length c2] tCrash)) (ext lab w.heap.size (γ .froz)) := Stp.alloc _ _ _ _ _
  generalize w.alloc (.cells #[.int .i64 n1, .slice o2 is.length c2] tCrash) = w1 at *
  generalize ext lab w.heap.size (γ .froz) = lab1 at *
  generalize w.heap.size = D3 at *
  replace B := B.stp s1 (fun h => h)
  replace Rt := Rt.stp s1 (fun _ _ h => h)
  replace hi := hi.stp s1 (fun h => h)
  replace s1 : Stp (SD γ) w lab w1 lab1 := s1.mono (fun _ h => h.elim)
  simp only [add_at, Nat.zero_add]
  refine ⟨_, B.blk.rd1 rfl, (CloneMap_calls Rt.sure (γ .names)).mono ?_⟩
  rintro _ w2 ⟨m8, lab2, rfl, N, s2⟩
  refine ⟨_, rfl, ?_⟩
  rintro _ rfl
  have s2 : Stp NoC w1 lab1 w2.drew lab2 := s2.trans (Stp.drew _ _ _)
  have N : NamesAt w2.drew lab2 (γ .names) m8 fb σ.sure := N.stp (Stp.drew NoC _ _) (fun h => h)
  generalize w2.drew = w3 at *
  replace B := B.stp s2 (fun h => h)
  replace Rt := Rt.stp s2 (fun _ _ h => h)
  replace hi := hi.stp s2 (fun h => h)
  replace X := X.stp s2 (fun h => h)
  replace s1 := s1.trans (s2.mono (T := SD γ) (fun _ h => h.elim))
  clear s2
  have P := Rt.pend
  have F := Rt.files
  clear Rt
  refine ⟨_, _, _, B.blk.rd1 rfl, _, X.blk.rd1 rfl, _, _, _, B.blk.rd1 rfl, ?_⟩
  have hlc := P.own.cap
  refine ⟨by omega, ?_⟩
  have hK : (min (max n1 0) ((pl : Nat) : Int)).toNat ≤ σ.pend.length := by omega
  have hKe : (min (max n1 0) ((pl : Nat) : Int)).toNat = (min (max n1 0) σ.pend.length).toNat := by rw [hpl]
  generalize hKK : (min (max n1 0) ((pl : Nat) : Int)).toNat = Kn at *
  -- what holds all along
  let All : Nat → World → (Nat → C) → Prop := fun j w' lab' => NamesAt w' lab' (γ .names) m8 fb ((σ.pend.take j).foldl Chg.on σ.sure) ∧ CB w' lab' (γ .disk) d tDisk (diskA σ.cap mN mS po pl pc σ.files σ.count σ.fail σ.halt σ.down) ∧
    (∀ n, n < σ.files → FAt w' lab' γ n (fb n) (σ.fs n)) ∧ COw w' lab' (γ .pend) tChange 1 po pl pc (σ.pend.map (chgV fb)) ∧ CInts w' lab' cb o2 is ∧ CB w' lab' (γ .froz) D3 tCrash #[.int .i64 n1, .slice o2 is.length c2] ∧ Stp (SD γ) w lab w' lab'
  refine ⟨UpTo Kn (fun j w' => ∃ lab', All j w' lab'), Vcg.Left Kn, ⟨0, rfl, Nat.zero_le _, lab2, N, B, F, P, hi, X, s1⟩, ?_⟩
  clear N B F P hi X s1
  rintro _ _ w4 ⟨j, rfl, hj, lab4, N, B, F, P, hi, X, s1⟩
  refine ⟨fun hlt => ?_, fun hge => ?_⟩
  · have hjl : j < σ.pend.length := by omega
    have hv : (σ.pend.map (chgV fb))[j]? = some (chgV fb σ.pend[j]) := by rw [List.getElem?_map, List.getElem?_eq_getElem hjl]; rfl
    obtain ⟨g, rfl, hcell⟩ := P.own.cell hv
    refine ⟨_, rfl, by omega, chgV fb σ.pend[j], ?_, ?_⟩
    · rw [Int.toNat_natCast, add_at, Nat.zero_add]; exact hcell
    obtain ⟨t, x, f, recv, hve, hm, he, hcall⟩ := on_calls N (chgs_take j hjl hk.chgs)
    refine ⟨t, x, f, recv, hve, hm, he, hcall.mono ?_⟩
    rintro _ w5 ⟨rfl, lab5, N5, s5⟩
    refine ⟨rfl, UpTo.next (by rw [wrap_i64_small (by omega) (by omega)]; omega) (by omega) ⟨lab5, ?_, B.stp s5 (ne (by simp)), fun n hn => (F n hn).stp s5 (ne (by simp)) (ne (by simp)) (ne (by simp)) (ne (by simp)), P.stp s5 (ne (by simp)), hi.stp s5 (hcb' (by simp)), X.stp s5 (ne (by simp)), s1.trans (s5.mono (sd (by simp)))⟩⟩
    rw [foldl_take_succ _ _ _ hjl]; exact N5
  · have hjK : j = Kn := by omega
    subst hjK
    clear hlc hge
    have hL := NamesOk.fold j hk.sure hk.chgs
    rw [hKe] at N hL
    clear P
    -- the names behind the restart
    have hrs : restart σ n1 is = { σ with names := (σ.pend.take (min (max n1 0) σ.pend.length).toNat).foldl Chg.on σ.sure, sure := (σ.pend.take (min (max n1 0) σ.pend.length).toNat).foldl Chg.on σ.sure, pend := [], fail := 0, halt := -1, down := false, fs := fun n => if n ∈ ((σ.pend.take (min (max n1 0) σ.pend.length).toNat).foldl Chg.on σ.sure).map Prod.snd then ⟨survive (σ.fs n).sure (σ.fs n).pend (Disk.left is n), survive (σ.fs n).sure (σ.fs n).pend (Disk.left is n), []⟩ else σ.fs n } := rfl
    generalize (σ.pend.take (min (max n1 0) σ.pend.length).toNat).foldl Chg.on σ.sure = L at *
    let sv : Nat → Fl := fun n => ⟨survive (σ.fs n).sure (σ.fs n).pend (Disk.left is n), survive (σ.fs n).sure (σ.fs n).pend (Disk.left is n), []⟩
    obtain ⟨es, hm8, hp⟩ := N
    obtain ⟨e, he, hz⟩ := und_naming
    obtain ⟨ob, hrng, hI⟩ := hm8.map.range he
    refine ⟨_, _, hrng, ?_⟩
    have s5 : Stp NoC w4 lab4 (w4.alloc ob) (ext lab4 w4.heap.size (γ .pend)) := Stp.alloc _ _ _ _ _
    have hit : (ext lab4 w4.heap.size (γ .pend)) w4.heap.size = γ .pend := ext_new (Nat.le_refl _)
    generalize w4.alloc ob = w5 at *
    generalize ext lab4 w4.heap.size (γ .pend) = lab5 at *
    generalize w4.heap.size = it at *
    replace B := B.stp s5 (fun h => h)
    replace X := X.stp s5 (fun h => h)
    replace hi := hi.stp s5 (fun h => h)
    replace hm8 := hm8.stp s5 (fun h => h)
    replace F : ∀ n, n < σ.files → FAt w5 lab5 γ n (fb n) (σ.fs n) := fun n hn => (F n hn).stp s5 (fun h => h) (fun h => h) (fun h => h) (fun h => h)
    replace s1 := s1.trans (s5.mono (T := SD γ) (fun _ h => h.elim))
    clear s5
    refine ⟨fun w' => ∃ (lab' : Nat → C) (t : List (Nm × Nat)) (es' : List (Nm × Value)), es'.Perm (t.map fun x => (x.1, fileV fb x.2)) ∧ IterAt Value.string w' it m8 es' ∧ CM NmGood Value.string w' lab' (γ .names) m8 es ∧ lab' it = γ .pend ∧ (∀ x ∈ t, x ∈ L) ∧ (t.map Prod.snd).Nodup ∧
        CB w' lab' (γ .disk) d tDisk (diskA σ.cap mN mS po pl pc σ.files σ.count σ.fail σ.halt σ.down) ∧ CB w' lab' (γ .froz) D3 tCrash #[.int .i64 n1, .slice o2 is.length c2] ∧ CInts w' lab' cb o2 is ∧ (∀ n, n < σ.files → FAt w' lab' γ n (fb n) (if n ∈ L.map Prod.snd ∧ n ∉ t.map Prod.snd then sv n else σ.fs n)) ∧ Stp (SD γ) w lab w' lab',
      fun w' => leftN w' m8 it, ⟨lab5, L, es, hp, hI, hm8, hit, fun _ h => h, hL.vals, B, X, hi, fun n hn => by rw [if_neg (fun h => h.2 h.1)]; exact F n hn, s1⟩, ?_⟩
    clear hI hm8 hit B X hi F s1
    rintro _ w6 ⟨lab6, t, es', hp', hI, hm8, hit, hmem, hnd, B, X, hi, F, s1⟩
    rcases hI.next 0 with ⟨hnil, hrun⟩ | ⟨k, v, es2, w7, hperm, hrun, hI2, M7, hent⟩
    · subst hnil
      have ht : t = [] := by
        have := hp'.length_eq
        simp at this
        exact List.eq_nil_of_length_eq_zero this.symm
      subst ht
      refine ⟨_, _, hrun, .bool false, rfl, false, rfl, (fun h => by cases h), fun _ => ?_⟩
      have N6 : NamesAt w6 lab6 (γ .names) m8 fb L := ⟨es, hm8, hp⟩
      refine (CloneMap_calls N6 (γ .sure)).mono ?_
      rintro _ w8 ⟨m9, lab8, rfl, N9, s8⟩
      have B8 := B.stp s8 (fun h => h)
      have R8 : DRest w8 lab8 γ m8 m9 none 0 0 fb L L [] σ.files (fun n => if n ∈ L.map Prod.snd then sv n else σ.fs n) :=
        ⟨N6.stp s8 (fun h => h), N9, COw.nil _ _ _ _ _, fun n hn => by
          have := (F n hn).stp s8 (fun h => h) (fun h => h) (fun h => h) (fun h => h)
          have e9 : (n ∈ L.map Prod.snd ∧ n ∉ ([] : List (Nm × Nat)).map Prod.snd) ↔ n ∈ L.map Prod.snd := ⟨And.left, fun h => ⟨h, by simp⟩⟩
          simpa only [e9] using this⟩
      have s08 := s1.trans (s8.mono (T := SD γ) (fun _ h => h.elim))
      refine ⟨_, rfl, B8.blk.canSet (by simp [diskA]) rfl, ?_⟩
      rintro _ rfl
      obtain ⟨Ba, Ra, sa⟩ := dset hγ B8 R8 1 (.map (some m8)) (cs' := diskA σ.cap m8 mS po pl pc σ.files σ.count σ.fail σ.halt σ.down) rfl
      generalize w8.setCell ⟨d, 1, none⟩ (.map (some m8)) = wa at *
      refine ⟨Ba.blk.canSet (by simp [diskA]) rfl, ?_⟩
      rintro _ rfl
      obtain ⟨Bb, Rb, sb⟩ := dset hγ Ba Ra 2 (.map (some m9)) (cs' := diskA σ.cap m8 m9 po pl pc σ.files σ.count σ.fail σ.halt σ.down) rfl
      generalize wa.setCell ⟨d, 2, none⟩ (.map (some m9)) = wb at *
      refine ⟨Bb.blk.canSet (by simp [diskA]) rfl, ?_⟩
      rintro _ rfl
      obtain ⟨Bc, Rc, sc⟩ := dset hγ Bb Rb 3 (.slice none 0 0) (cs' := diskA σ.cap m8 m9 none 0 0 σ.files σ.count σ.fail σ.halt σ.down) rfl
      generalize wb.setCell ⟨d, 3, none⟩ (.slice none 0 0) = wc at *
      refine ⟨Bc.blk.canSet (by simp [diskA]) rfl, ?_⟩
      rintro _ rfl
      obtain ⟨Bd, Rd, sd'⟩ := dset hγ Bc Rc 6 (.int .i64 0) (cs' := diskA σ.cap m8 m9 none 0 0 σ.files σ.count 0 σ.halt σ.down) rfl
      generalize wc.setCell ⟨d, 6, none⟩ (.int .i64 0) = wd at *
      refine ⟨Bd.blk.canSet (by simp [diskA]) rfl, ?_⟩
      rintro _ rfl
      obtain ⟨Be, Re, se⟩ := dset hγ Bd Rd 7 (.int .i64 (-1)) (cs' := diskA σ.cap m8 m9 none 0 0 σ.files σ.count 0 (-1) σ.down) rfl
      generalize wd.setCell ⟨d, 7, none⟩ (.int .i64 (-1)) = we at *
      refine ⟨Be.blk.canSet (by simp [diskA]) rfl, ?_⟩
      rintro _ rfl
      obtain ⟨Bf, Rf, sf⟩ := dset hγ Be Re 8 (.bool false) (cs' := diskA σ.cap m8 m9 none 0 0 σ.files σ.count 0 (-1) false) rfl
      refine hR _ _ ⟨rfl, ?_⟩
      rw [hrs]
      exact ⟨lab8, ⟨m8, m9, none, 0, 0, fb, Bf, Rf⟩, (((((s08.trans sa).trans sb).trans sc).trans sd').trans se).trans sf⟩
    · refine ⟨_, _, hrun, .bool true, rfl, true, rfl, fun _ => ?_, (fun h => by cases h)⟩
      refine ⟨_, _, hent, _, rfl, ?_⟩
      have hkv : (k, v) ∈ t.map fun x => (x.1, fileV fb x.2) := hp'.mem_iff.1 (hperm.mem_iff.2 (List.mem_cons_self ..))
      obtain ⟨j', hj', hjx⟩ := List.getElem_of_mem hkv
      have hjt : j' < t.length := by simpa using hj'
      have hx : (t[j'].1, fileV fb t[j'].2) = (k, v) := by rw [← hjx]; simp
      have htp := perm_erase t j' hjt
      have hxm := hmem t[j'] (List.getElem_mem hjt)
      have hfl := hL.files _ hxm
      generalize hxx : t[j'] = x at *
      cases hx
      have hes2 : es2.Perm ((t.eraseIdx j').map fun x => (x.1, fileV fb x.2)) :=
        List.Perm.cons_inv (hperm.symm.trans (hp'.trans (htp.map fun x => (x.1, fileV fb x.2))))
      have hndp : (x.2 :: (t.eraseIdx j').map Prod.snd).Nodup := ((htp.map Prod.snd).nodup_iff).1 hnd
      have hxin : x.2 ∈ t.map Prod.snd := List.mem_map_of_mem (htp.mem_iff.2 (List.mem_cons_self ..))
      have s7 : Stp (· = γ .pend) w6 lab6 w7 lab6 := ⟨M7.os, M7.tape, M7.output, M7.size, fun _ _ => rfl, fun i hi hn => M7.block i hi (fun e => hn (e ▸ hit))⟩
      have Fx : FAt w7 lab6 γ x.2 (fb x.2) (σ.fs x.2) := by
        have := (F x.2 hfl).stp s7 (ne (by simp)) (ne (by simp)) (ne (by simp)) (ne (by simp))
        rw [if_neg (fun h => h.2 hxin)] at this
        exact this
      have B7 := B.stp s7 (ne (by simp))
      have X7 := X.stp s7 (ne (by simp))
      have hi7 := hi.stp s7 (hcb' (by simp))
      have m7 := hm8.stp s7 (ne (by simp))
      have F7 : ∀ n, n < σ.files → FAt w7 lab6 γ n (fb n) (if n ∈ L.map Prod.snd ∧ n ∉ t.map Prod.snd then sv n else σ.fs n) := fun n hn => (F n hn).stp s7 (ne (by simp)) (ne (by simp)) (ne (by simp)) (ne (by simp))
      have s07 := s1.trans (s7.mono (sd (by simp)))
      have hlenx := hperm.length_eq
      have hl1 := hI2.left
      have hl2 := hI.left
      -- the file survives with so many bytes to spend
      have go : ∀ (w8 : World) (_ : Stp NoC w7 lab6 w8 lab6), Calls Try.prog disk_file_survives.n #[.pointer (some ⟨fb x.2, 0, none⟩), .int .i64 (Disk.left is x.2)] w8 (fun e w9 => e = .returned (.tuple #[]) ∧
          (∃ (lab' : Nat → C) (t : List (Nm × Nat)) (es' : List (Nm × Value)), es'.Perm (t.map fun x => (x.1, fileV fb x.2)) ∧ IterAt Value.string w9 it m8 es' ∧ CM NmGood Value.string w9 lab' (γ .names) m8 es ∧ lab' it = γ .pend ∧ (∀ x ∈ t, x ∈ L) ∧ (t.map Prod.snd).Nodup ∧
        CB w9 lab' (γ .disk) d tDisk (diskA σ.cap mN mS po pl pc σ.files σ.count σ.fail σ.halt σ.down) ∧ CB w9 lab' (γ .froz) D3 tCrash #[.int .i64 n1, .slice o2 is.length c2] ∧ CInts w9 lab' cb o2 is ∧ (∀ n, n < σ.files → FAt w9 lab' γ n (fb n) (if n ∈ L.map Prod.snd ∧ n ∉ t.map Prod.snd then sv n else σ.fs n)) ∧ Stp (SD γ) w lab w9 lab') ∧ leftN w9 m8 it < leftN w6 m8 it) := by
        intro w8 s8
        have hpe2 := hk.pends x.2 hfl
        have hl0 : 0 ≤ Disk.left is x.2 ∧ Disk.left is x.2 < 9223372036854775808 := by
          unfold Disk.left
          split
          · rename_i hlt
            have := hil (is.getD x.2 0) (by rw [List.getD_eq_getElem?_getD, List.getElem?_eq_getElem hlt]; exact List.getElem_mem hlt)
            omega
          · omega
        refine (survives_calls hγ (Fx.stp s8 (fun h => h) (fun h => h) (fun h => h) (fun h => h)) (hk.pts x.2 hfl) (hk.size x.2 hfl).1 hl0.1 hl0.2 (by omega)).mono ?_
        rintro _ w9 ⟨rfl, lab9, F9, s9⟩
        have nf : ∀ {y : DC}, y ≠ .file x.2 → y ≠ .bytes x.2 → y ≠ .fpend x.2 → ¬ Fs γ x.2 (γ y) := fun h1 h2 h3 h => by
          rcases h with h | h | h
          · exact h1 (hγ _ _ h)
          · exact h2 (hγ _ _ h)
          · exact h3 (hγ _ _ h)
        have s89 : Stp (Fs γ x.2) w7 lab6 w9 lab9 := (s8.mono (fun _ h => h.elim)).trans s9
        have m9 := m7.stp s89 (nf (by simp) (by simp) (by simp))
        have hlt7 := hI2.lt
        have hI9 : IterAt Value.string w9 it m8 es2 := hI2.same (s89.block m8 hlt7.1 (by rw [m7.clr]; exact nf (by simp) (by simp) (by simp))) (s89.block it hlt7.2 (by rw [hit]; exact nf (by simp) (by simp) (by simp)))
        have hl9 := hI9.left
        refine ⟨rfl, ⟨lab9, t.eraseIdx j', es2, hes2, hI9, m9, by rw [s89.lab it hlt7.2]; exact hit, fun y hy => hmem y ((List.eraseIdx_sublist _ _).subset hy), (List.nodup_cons.1 hndp).2, B7.stp s89 (nf (by simp) (by simp) (by simp)), X7.stp s89 (nf (by simp) (by simp) (by simp)), hi7.stp s89 (fun h => hcb h.sd), fun n hn => ?_, s07.trans (s89.mono (fun c h => h.sd))⟩, ?_⟩
        · by_cases hnx : n = x.2
          · subst hnx
            rw [if_pos ⟨List.mem_map_of_mem hxm, (List.nodup_cons.1 hndp).1⟩]
            exact F9
          · have := (F7 n hn).stp s89 (nf (by simp [hnx]) (by simp) (by simp)) (nf (by simp) (by simp [hnx]) (by simp)) (nf (by simp) (by simp) (by simp [hnx])) (nf (by simp) (by simp) (by simp))
            have e2 : n ∈ (t.eraseIdx j').map Prod.snd ↔ n ∈ t.map Prod.snd := by
              rw [(htp.map Prod.snd).mem_iff, List.map_cons, List.mem_cons]
              exact ⟨.inr, fun h => h.resolve_left hnx⟩
            simpa only [e2] using this
        · rw [List.length_cons] at hlenx
          omega
      refine ⟨some ⟨fb x.2, 0, none⟩, rfl, ?_⟩
      rintro _ rfl
      have C := Fx
      obtain ⟨fo, l, k, so, sl, sc, fpo, fpl, fpc, vs, hF⟩ := C
      refine ⟨_, rfl, _, hF.cells.blk.drew.rd1 rfl, _, _, _, X7.blk.drew.rd1 rfl, fun hlt => ?_, fun hge => ?_⟩
      · rintro _ rfl
        refine ⟨_, _, _, X7.blk.drew.drew.rd1 rfl, _, rfl, _, hF.cells.blk.drew.drew.rd1 rfl, ?_⟩
        obtain ⟨ib, ig, rfl, hib, _, hic⟩ := hi7 x.2 (by omega)
        refine ⟨_, rfl, by omega, is.getD x.2 0, ?_, ?_⟩
        · rw [Int.toNat_natCast, add_at]; exact hic
        have e3 : max (is.getD x.2 0) 0 = Disk.left is x.2 := by unfold Disk.left; rw [if_pos (by omega)]
        rw [e3]
        refine (go w7.drew.drew ((Stp.drew _ _ _).trans (Stp.drew _ _ _))).mono ?_
        rintro _ w9 ⟨rfl, h1, h2⟩
        exact ⟨rfl, h1, h2⟩
      · have e3 : (0 : Int) = Disk.left is x.2 := by unfold Disk.left; rw [if_neg (by omega)]
        rw [e3]
        refine (go w7.drew (Stp.drew _ _ _)).mono ?_
        rintro _ w9 ⟨rfl, h1, h2⟩
        exact ⟨rfl, h1, h2⟩
end
end Go.Proofs.Ytkekehngillblaa
