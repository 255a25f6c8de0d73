/- The walk of TrieOrder: its calls. -/
/- Arguments: how long they can be. -/
/- Keys with values as arguments; how long what came in can be. -/
import Derived.Test.YtfghidehlnfdiaaTL7
import Derived.Test.YtfghidehlnfdiaaTQ1
import Derived.SizedLaws
import Derived.Test.YtfghidehlnfdiaaRows
section
set_option linter.unusedVariables false
set_option linter.unusedSimpArgs false
namespace Go.Proofs.Ytfghidehlnfdiaa
open Go Go.Vcg Go.Trie
theorem turn_in {z : Int} {n : Nat} (hn : 0 < n) (hb : n ≤ 2 ^ 20) : ∃ a : Nat, Int.tmod (IntKind.wrap .i64 (Int.tmod z (n : Int) + (n : Int))) (n : Int) = (a : Int) ∧ a < n := by
  have h1 := Int.tmod_lt_of_pos z (b := (n : Int)) (by omega)
  have h2 := Int.lt_tmod_of_pos z (b := (n : Int)) (by omega)
  rw [wrap_i64_small (by omega) (by omega)]
  have h3 : 0 ≤ Int.tmod z (n : Int) + (n : Int) := by omega
  generalize Int.tmod z (n : Int) + (n : Int) = y at *
  have h4 := Int.tmod_lt_of_pos y (b := (n : Int)) (by omega)
  have h5 := Int.tmod_nonneg (n : Int) h3
  exact ⟨(Int.tmod y n).toNat, by omega, by omega⟩
theorem Order_calls (w : World) {o oi o2 : Option Addr} {k ki k2 li : Nat} {l l2 : List (By × By)} {f : Nat → Int} (hl : StR w o l) (hi : ∀ i, i < li → ∃ b g, oi = some ⟨b, g, none⟩ ∧ b < w.heap.size ∧ w.cell? ⟨b, g + i, none⟩ = some (.int .i64 (f i))) (hl2 : StR w o2 l2) :
    Calls Try.prog morainelaw14_TrieOrder.n #[.slice o l.length k, .slice oi li ki, .slice o2 l2.length k2] w (fun e w' => e = .returned (.bool true) ∧ Vcg.Mod NoB w w') := by
  refine morainelaw14_TrieOrder.vc _ _ _ _ _ _ _ _ _ _ _ ?_
  unfold morainelaw14_TrieOrder.Vc
  refine (known14_calls w).mono ?_
  rintro _ w1 ⟨rfl, M1⟩
  refine ⟨_, rfl, fun h => (by cases h), fun _ => ?_⟩
  refine (few14_calls (k := k) (hl.mod' M1)).mono ?_
  rintro _ w2 ⟨bf, rfl, hfew, M2⟩
  have M02 := M1.trans M2 (fun _ _ h => h)
  refine ⟨_, rfl, fun _ => ⟨rfl, M02⟩, fun hbf => ?_⟩
  have hl40 := hfew hbf
  refine (few14_calls (k := k2) (hl2.mod' M02)).mono ?_
  rintro _ w3 ⟨bf2, rfl, hfew2, M3⟩
  have M03 := M02.trans M3 (fun _ _ h => h)
  refine ⟨_, rfl, fun _ => ⟨rfl, M03⟩, fun hbf2 => ?_⟩
  have hl240 := hfew2 hbf2
  clear hfew hfew2 hbf hbf2
  refine ⟨fun o' n' k' i w' => ∃ (j : Nat) (m : List (By × By)) (L : Nat → Nat), i = (j : Int) ∧ j ≤ l.length ∧ n' = m.length ∧ MS w w' L o' k' m j, fun _ _ _ i _ => ((l.length : Int) - i).toNat, ⟨0, [], fun _ => 0, rfl, Nat.zero_le _, rfl, ⟨M03, fun _ _ => rfl, KvR.nil _ _ _ _, Nat.le_refl _, List.Pairwise.nil, (fun e he => by cases he), (fun e he => by cases he), (fun e he => by cases he), Nat.zero_le _⟩⟩, ?_⟩
  rintro o4 _ k4 _ _ w4 ⟨j, m, L4, rfl, hj, rfl, S4⟩
  refine ⟨fun hlt => ?_, fun hge => ?_⟩
  · have hjl : j < l.length := by omega
    have ew : IntKind.wrap .i64 ((j : Int) + 1) = ((j + 1 : Nat) : Int) := by rw [wrap_i64_small (by omega) (by omega)]; omega
    rw [ew]
    obtain ⟨b, g, ok, kk, ov, kv, rfl, e2, e3, e4, e5, e6⟩ := hl j hjl
    refine ⟨fun b w' => w' = w4 ∧ (b = true ↔ l[j].1.length ≤ 64 ∧ l[j].2.length ≤ 1024), ⟨_, rfl, ⟨by omega, by omega⟩, _, _, _, by rw [add_at, Int.toNat_natCast]; exact (cell_mod S4.mod e2 (fun h => h)).trans e3, fun h1 => ⟨_, rfl, ⟨by omega, by omega⟩, _, _, _, by rw [add_at, add_at, Int.toNat_natCast, Nat.add_assoc]; exact (cell_mod S4.mod e2 (fun h => h)).trans e5, rfl, ?_⟩, fun h1 => ⟨rfl, ?_⟩⟩, ?_⟩
    · rw [decide_eq_true_eq]; omega
    · simp only [Bool.false_eq_true, false_iff]; omega
    · rintro bj _ w4 ⟨rfl, hbj⟩
      refine ⟨fun hb => ?_, fun hb => ⟨⟨j + 1, m, L4, rfl, hjl, rfl, ⟨S4.mod, S4.old, S4.row, S4.cap, S4.srt, S4.keys, S4.vals, S4.ne, Nat.le_succ_of_le S4.len⟩⟩, by dsimp only; omega⟩⟩
      rintro _ rfl
      obtain ⟨hkl, hvl⟩ := hbj.1 hb
      have M5 := (Mod.refl (S := NoB) w4).step_drew
      have R5 := S4.row.stp (S := NoS) (Stp.of_nob M5 0) (fun h => h)
      have M05 := S4.mod.trans M5 (fun _ _ h => h)
      have old5 := ext_zero (q := 0) S4.mod.size S4.old
      generalize ext L4 w4.heap.size 0 = L5 at *
      generalize w4.drew = w5 at *
      refine ⟨_, rfl, ⟨by omega, by omega⟩, _, _, _, by rw [add_at, Int.toNat_natCast]; exact (cell_mod M05 e2 (fun h => h)).trans e3, _, rfl, ⟨by omega, by omega⟩, _, _, _, by rw [add_at, add_at, Int.toNat_natCast, Nat.add_assoc]; exact (cell_mod M05 e2 (fun h => h)).trans e5, ?_⟩
      have hln := S4.len
      refine (rPut_calls (k := k4) (kk := kk) (kv := kv) R5 ⟨by omega, S4.keys, S4.vals⟩ S4.cap (e4.mod' M05) (e6.mod' M05) hkl hvl (by omega)).mono ?_
      rintro _ w6 ⟨o6, k6, rfl, hk6, M6, R6⟩
      refine ⟨_, _, _, rfl, ⟨j + 1, _, ext L5 w5.heap.size 3, rfl, hjl, rfl, ⟨M05.trans M6 (fun _ _ h => h), ext_zero M05.size old5, R6, hk6, sorted_putM S4.srt, fun e he => ?_, fun e he => ?_, fun e he => ?_, ?_⟩⟩, by dsimp only; omega⟩
      · rcases (mem_putM S4.srt e).1 he with ⟨h1, _⟩ | ⟨_, h2⟩
        · rw [h1]; exact hkl
        · exact S4.keys e h2
      · rcases (mem_putM S4.srt e).1 he with ⟨_, h1, _⟩ | ⟨_, h2⟩
        · rw [h1]; exact hvl
        · exact S4.vals e h2
      · rcases (mem_putM S4.srt e).1 he with ⟨_, h1, h3⟩ | ⟨_, h2⟩
        · rw [h1]; exact h3
        · exact S4.ne e h2
      · have := putM_len m l[j].1 l[j].2
        omega
  · have hml : m.length ≤ 40 := by have := S4.len; omega
    have hms := S4.srt
    refine (Empty_calls w4).mono ?_
    rintro _ w5 ⟨rfl, M5⟩
    refine ⟨_, rfl, (tNew_calls w5 0).mono ?_⟩
    rintro _ w6 ⟨ta, gv, rfl, M6, hta, T⟩
    refine ⟨_, rfl, (Empty_calls w6).mono ?_⟩
    rintro _ w7 ⟨rfl, M7⟩
    refine ⟨_, rfl, (tNew_calls w7 0).mono ?_⟩
    rintro _ w8 ⟨tb, gv2, rfl, M8, htb, T2⟩
    refine ⟨_, rfl, ?_⟩
    have S8 : ∃ L, OS w w8 L ta tb .nil .nil o4 m := by
      have s5 : Stp NoS w4 L4 w5 (ext L4 w4.heap.size 0) := Stp.of_nob M5 0
      have s6 : Stp NoS w5 (ext L4 w4.heap.size 0) w6 (ext (ext L4 w4.heap.size 0) w5.heap.size 1) := Stp.of_nob M6 1
      have A6 : TrieAt w6 (ext (ext L4 w4.heap.size 0) w5.heap.size 1) 1 2 ta .nil := ⟨_, gv, ⟨T, ext_new hta⟩, rfl, trivial, fits_nil⟩
      have R6 := (S4.row.stp s5 (fun h => h)).stp s6 (fun h => h)
      have M06 := (S4.mod.trans M5 (fun _ _ h => h)).trans M6 (fun _ _ h => h)
      have old6 := ext_zero (q := 1) (S4.mod.trans M5 (fun _ _ h => h)).size (ext_zero (q := 0) S4.mod.size S4.old)
      generalize ext (ext L4 w4.heap.size 0) w5.heap.size 1 = L6 at *
      have s7 : Stp NoS w6 L6 w7 (ext L6 w6.heap.size 0) := Stp.of_nob M7 0
      have s8 : Stp NoS w7 (ext L6 w6.heap.size 0) w8 (ext (ext L6 w6.heap.size 0) w7.heap.size 4) := Stp.of_nob M8 4
      have A8 : TrieAt w8 (ext (ext L6 w6.heap.size 0) w7.heap.size 4) 4 5 tb .nil := ⟨_, gv2, ⟨T2, ext_new htb⟩, rfl, trivial, fits_nil⟩
      exact ⟨_, (M06.trans M7 (fun _ _ h => h)).trans M8 (fun _ _ h => h), ext_zero (M06.trans M7 (fun _ _ h => h)).size (ext_zero M06.size old6), (A6.stp s7 (fun h => h) (fun h => h)).stp s8 (fun h => h) (fun h => h), A8, (R6.stp s7 (fun h => h)).stp s8 (fun h => h)⟩
    obtain ⟨L8, S8⟩ := S8
    obtain ⟨vs, hR, hC⟩ := S8.row
    have hC1 := hC.1
    obtain ⟨o9, k9, w9, hr9, O9, s9⟩ := kv_push (L := L8) (q := 7) (k2 := k4) (COw.nil w8 L8 7 tKv 2) (CRow.src hR und_slKv hC1 (KvCells.one hC) k4 (by decide)) (by omega)
    rw [Nat.zero_add] at hr9 O9
    have S9 := S8.stp s9 (by decide) (by decide) (by decide) (by decide) (by decide) (by decide)
    have F9 : LeftR w9 (ext L8 w8.heap.size 7) o9 m := ⟨_, O9.row, hC.stp s9 (by decide)⟩
    have hk9 := O9.own.cap.1
    generalize ext L8 w8.heap.size 7 = L9 at *
    refine ⟨_, w9, hr9, _, _, _, rfl, ?_⟩
    clear hR hC hr9 O9 S8 s9 T T2 hta htb M5 M6 M7 M8
    let SB : Nat → By → Prop := fun j y => y.length ≤ 64 ∧ ∃ (q : Nat) (h : q < l2.length), j ≤ q ∧ l2[q].1 = y
    refine ⟨fun o' n' k' i w' => ∃ (j : Nat) (lf : List (By × By)) (na nb : Nd) (L : Nat → Nat), i = (j : Int) ∧ j ≤ m.length ∧ n' = lf.length ∧ lf.length = m.length - j ∧ lf.length ≤ k' ∧ (∀ x ∈ lf, x ∈ m) ∧ OS w w' L ta tb na nb o4 m ∧ LeftR w' L o' lf ∧ Rep (pathsOf (m.take j)) na ∧ Trie.cnt na ≤ 4 * j ∧ Bt m lf (SB 0) nb, fun _ _ _ i _ => ((m.length : Int) - i).toNat, ⟨0, m, .nil, .nil, L9, rfl, Nat.zero_le _, rfl, rfl, hk9, fun _ h => h, S9, F9, rep_nil, by simp [Trie.cnt], Bt.nil hms _⟩, ?_⟩
    rintro oA _ kA _ _ wA ⟨i, lf, na, nb, LA, rfl, him, rfl, hlf, hkA, hin, SA, FA, RA, CA, BA⟩
    refine ⟨fun hlt => ?_, fun hge => ?_⟩
    · have himl : i < m.length := by omega
      rintro _ rfl
      have MB := (Mod.refl (S := NoB) wA).step_drew
      have sB : Stp NoS wA LA wA.drew (ext LA wA.heap.size 0) := Stp.of_nob MB 0
      have SB' := SA.mod' MB 0
      have FB := FA.stp sB (fun h => h) (fun h => h)
      clear SA FA sB MB
      generalize ext LA wA.heap.size 0 = LB at *
      generalize wA.drew = wB at *
      obtain ⟨b, g, ok, kk, ov, kv, ho4, hb, hc, e4, e5, e6, e7⟩ := SB'.row.row i himl
      have hmem := List.getElem_mem himl
      have hk1 := S4.keys _ hmem
      have hv1 := S4.vals _ hmem
      have hv0 := S4.ne _ hmem
      refine ⟨_, ho4, ⟨by omega, by omega⟩, _, _, _, by rw [add_at, Int.toNat_natCast]; exact e4, _, ho4, ⟨by omega, by omega⟩, _, _, _, by rw [add_at, add_at, Int.toNat_natCast, Nat.add_assoc]; exact e6, ?_⟩
      refine (Put_calls (k := kk) (kx := kv) SB'.ta (by decide) e5.rd e7.rd).mono ?_
      rintro _ wC ⟨rfl, sC, AC⟩
      have hput : putT na m[i].1 m[i].2 = (0, Trie.put na (nibbles m[i].1) m[i].2) := by
        unfold putT
        rw [if_neg (by omega), if_neg]
        rintro (h | h)
        · exact hv0 h
        · omega
      rw [hput] at AC
      have SC := SB'.doA sC AC
      have FC := FB.stp sC (by decide) (by decide)
      have hcanA := tAt_canon SB'.ta
      have hsn : m.take (i + 1) = m.take i ++ [m[i]] := by rw [List.take_succ_eq_append_getElem himl]
      have hpm : putM (m.take i) m[i].1 m[i].2 = m.take (i + 1) := by
        rw [hsn]
        refine putM_snoc ?_ hv0
        rw [← hsn]
        exact List.Pairwise.sublist (List.take_sublist _ _) hms
      have RC := rep_put (k := m[i].1) RA (List.Pairwise.sublist (List.take_sublist _ _) hms) hcanA hv0
      rw [hpm] at RC
      have CC : Trie.cnt (Trie.put na (nibbles m[i].1) m[i].2) ≤ 4 * (i + 1) := by
        have := cnt_put na (nibbles m[i].1) m[i].2
        omega
      clear hput hpm RA CA AC SB' FB hcanA
      generalize ext LB wB.heap.size 2 = LC at *
      generalize Trie.put na (nibbles m[i].1) m[i].2 = na' at *
      refine ⟨_, rfl, fun w' => ∃ nb' L, OS w w' L ta tb na' nb' o4 m ∧ LeftR w' L oA lf ∧ Bt m lf (SB 0) nb', ⟨fun h2 => ?_, fun _ => ⟨nb, LC, SC, FC, BA⟩⟩, ?_⟩
      · have hi2 : i < l2.length := by omega
        rintro _ rfl
        have MD := (Mod.refl (S := NoB) wC).step_drew
        have sD : Stp NoS wC LC wC.drew (ext LC wC.heap.size 0) := Stp.of_nob MD 0
        have SD := SC.mod' MD 0
        have FD := FC.stp sD (fun h => h) (fun h => h)
        generalize ext LC wC.heap.size 0 = LD at *
        generalize wC.drew = wD at *
        obtain ⟨b, g, ok, kk, ov, kv, rfl, e2, e3, e4, e5, e6⟩ := hl2 i hi2
        refine ⟨_, rfl, ⟨by omega, by omega⟩, _, _, _, by rw [add_at, Int.toNat_natCast]; exact (cell_mod SD.mod e2 (fun h => h)).trans e3, _, rfl, ⟨by omega, by omega⟩, _, _, _, by rw [add_at, add_at, Int.toNat_natCast, Nat.add_assoc]; exact (cell_mod SD.mod e2 (fun h => h)).trans e5, ?_⟩
        refine (Put_calls (k := kk) (kx := kv) SD.tb (by decide) (e4.mod' SD.mod) (e6.mod' SD.mod)).mono ?_
        rintro _ wE ⟨rfl, sE, AE⟩
        refine ⟨_, rfl, _, _, SD.doB sE AE, FD.stp sE (by decide) (by decide), ?_⟩
        unfold putT
        split
        · exact BA
        · split
          · exact BA
          · rename_i h64 hbad
            exact BA.put (tAt_canon SD.tb) hms (fun h => hbad (.inl h)) (.inr ⟨by omega, i, hi2, Nat.zero_le _, rfl⟩) (fun y hy => .inr hy) (fun y hy => .inr hy)
      · rintro _ wE ⟨nbE, LE, SE, FE, BE⟩
        clear SC FC BA
        refine ⟨fun n w' => w' = wE ∧ ∃ a : Nat, n = (a : Int) ∧ a < lf.length, ⟨fun h1 => ?_, fun _ => ⟨rfl, 0, rfl, by omega⟩⟩, ?_⟩
        · have hil : i < li := by omega
          obtain ⟨b, g, rfl, hb, hcell⟩ := hi i hil
          refine ⟨_, rfl, ⟨by omega, by omega⟩, f i, by rw [add_at, Int.toNat_natCast]; exact (cell_mod SE.mod hb (fun h => h)).trans hcell, by omega, by omega, rfl, turn_in (by omega) (by omega)⟩
        · rintro _ _ wE ⟨rfl, a, rfl, ha⟩
          rintro _ rfl
          have MG := (Mod.refl (S := NoB) wE).step_drew
          have sG : Stp NoS wE LE wE.drew (ext LE wE.heap.size 0) := Stp.of_nob MG 0
          have SG := SE.mod' MG 0
          have FG := FE.stp sG (fun h => h) (fun h => h)
          clear SE FE sG MG
          generalize ext LE wE.heap.size 0 = LG at *
          generalize wE.drew = wG at *
          obtain ⟨b, g, ok, kk, ov, kv, rfl, e3, e4, e5, e6⟩ := FG.at ha
          have hma := hin _ (List.getElem_mem ha)
          have hka := S4.keys _ hma
          have hva := S4.vals _ hma
          have hna := S4.ne _ hma
          refine ⟨_, rfl, ⟨by omega, by omega⟩, _, _, _, by rw [add_at, Int.toNat_natCast]; exact e3, _, rfl, ⟨by omega, by omega⟩, _, _, _, by rw [add_at, add_at, Int.toNat_natCast, Nat.add_assoc]; exact e5, ?_⟩
          refine (Put_calls (k := kk) (kx := kv) SG.tb (by decide) e4 e6).mono ?_
          rintro _ wH ⟨rfl, sH, AH⟩
          have hput : putT nbE lf[a].1 lf[a].2 = (0, Trie.put nbE (nibbles lf[a].1) lf[a].2) := by
            unfold putT
            rw [if_neg (by omega), if_neg]
            rintro (h | h)
            · exact hna h
            · omega
          rw [hput] at AH
          have SH := SG.doB sH AH
          have FH := FG.stp sH (by decide) (by decide)
          have hsplit : lf = lf.take a ++ lf[a] :: lf.drop (a + 1) := by rw [← List.drop_eq_getElem_cons ha, List.take_append_drop]
          have BH := BE.put (lf' := lf.take a ++ lf.drop (a + 1)) (S' := SB 0) (k := lf[a].1) (v := lf[a].2) (tAt_canon SG.tb) hms hna (.inl hma) (fun y hy => by
            rw [hsplit] at hy
            rcases List.mem_append.1 hy with h | h
            · exact .inr (List.mem_append_left _ h)
            · rcases List.mem_cons.1 h with h | h
              · exact .inl (by rw [h])
              · exact .inr (List.mem_append_right _ h)) (fun y hy => .inr hy)
          clear hput AH SG FG BE
          generalize ext LG wG.heap.size 5 = LH at *
          refine ⟨_, rfl, ?_⟩
          rintro _ rfl
          have MI := (Mod.refl (S := NoB) wH).step_drew
          have sI : Stp NoS wH LH wH.drew (ext LH wH.heap.size 0) := Stp.of_nob MI 0
          have SI := SH.mod' MI 0
          have FI := FH.stp sI (fun h => h) (fun h => h)
          clear SH FH sI MI
          generalize ext LH wH.heap.size 0 = LI at *
          generalize wH.drew = wI at *
          obtain ⟨ii, hii, hz, hs, hbb⟩ := kv_info
          have ew : IntKind.wrap .i64 ((a : Int) + 1) = ((a + 1 : Nat) : Int) := by rw [wrap_i64_small (by omega) (by omega)]; omega
          have ew2 : IntKind.wrap .i64 ((i : Int) + 1) = ((i + 1 : Nat) : Int) := by rw [wrap_i64_small (by omega) (by omega)]; omega
          rw [ew, ew2]
          refine ⟨_, run_slice3 und_slKv hii wI (by omega), _, _, _, rfl, ⟨by omega, by omega⟩, ?_⟩
          obtain ⟨oJ, cJ, wJ, hrJ, hcJ, sJ, FJ⟩ := cut_left (c := kA) FI ha hkA (by omega)
          have SJ := SI.stp sJ (fun h => h) (fun h => h) (fun h => h) (fun h => h) (fun h => h) (fun h => h)
          rw [Int.toNat_natCast]
          refine ⟨_, wJ, hrJ, _, _, _, rfl, ⟨i + 1, _, na', _, _, rfl, himl, ?_, ?_, ?_, ?_, SJ, FJ, RC, CC, BH⟩, by dsimp only; omega⟩
          · rw [List.length_append, List.length_take, List.length_drop]; omega
          · rw [List.length_append, List.length_take, List.length_drop]; omega
          · rw [List.length_append, List.length_take, List.length_drop]; omega
          · intro x hx
            rcases List.mem_append.1 hx with h | h
            · exact hin x (List.mem_of_mem_take h)
            · exact hin x (List.mem_of_mem_drop h)
    · obtain rfl : lf = [] := List.eq_nil_of_length_eq_zero (by omega)
      obtain rfl : i = m.length := by omega
      rw [List.take_length] at RA
      clear FA
      refine ⟨fun n w' => ∃ (j : Nat) (nb' : Nd) (L : Nat → Nat), n = (j : Int) ∧ j ≤ l2.length ∧ OS w w' L ta tb na nb' o4 m ∧ Bt m [] (SB j) nb', fun n _ => ((l2.length : Int) - n).toNat, ⟨0, nb, LA, rfl, Nat.zero_le _, SA, BA⟩, ?_⟩
      rintro _ _ wB ⟨j, nbB, LB, rfl, hj2, SB', BB⟩
      refine ⟨fun h2 => ?_, fun h2 => ?_⟩
      · have hj2l : j < l2.length := by omega
        obtain ⟨b, g, ok, kk, ov, kv, rfl, e2, e3, e4, e5, e6⟩ := hl2 j hj2l
        refine ⟨_, rfl, ⟨by omega, by omega⟩, _, _, _, by rw [add_at, Int.toNat_natCast]; exact (cell_mod SB'.mod e2 (fun h => h)).trans e3, ?_⟩
        refine (Find_calls (k := k4) (kk := kk) SB'.row (e4.mod' SB'.mod) (by omega)).mono ?_
        rintro _ wC ⟨oC, kC, rfl, MC, cC⟩
        have SC := SB'.mod' MC 0
        have cC' := cC.stp (S := NoS) (Stp.of_nob MC 0) (fun h => h)
        generalize ext LB wB.heap.size 0 = LC at *
        have ew : IntKind.wrap .i64 ((j : Int) + 1) = ((j + 1 : Nat) : Int) := by rw [wrap_i64_small (by omega) (by omega)]; omega
        rw [ew]
        have hSB : ∀ y, SB j y → y = l2[j].1 ∨ SB (j + 1) y := by
          rintro y ⟨h1, q, hq, h3, h4⟩
          rcases Nat.eq_or_lt_of_le h3 with rfl | h3
          · exact .inl h4.symm
          · exact .inr ⟨h1, q, hq, h3, h4⟩
        have hSB64 : 64 < l2[j].1.length → ∀ y, SB j y → SB (j + 1) y := fun h y hy => by
          rcases hSB y hy with rfl | h5
          · exact absurd hy.1 (by omega)
          · exact h5
        refine ⟨_, _, _, _, rfl, fun hf => ?_, fun hf => ?_⟩
        · obtain ⟨v, hv⟩ : ∃ v, findM m l2[j].1 = some v := by
            cases h : findM m l2[j].1 with
            | none => rw [h] at hf; cases hf
            | some v => exact ⟨v, rfl⟩
          rw [hv] at cC' ⊢
          have hmem := (findM_some hms).1 hv
          have hk1 := S4.keys _ hmem
          have hv1 := S4.vals _ hmem
          have hv0 := S4.ne _ hmem
          dsimp only at hk1 hv1 hv0
          refine ⟨_, rfl, ⟨by omega, by omega⟩, _, _, _, by rw [add_at, Int.toNat_natCast]; exact (cell_mod SC.mod e2 (fun h => h)).trans e3, ?_⟩
          refine (Put_calls (k := kk) (kx := kC) SC.tb (by decide) (e4.mod' SC.mod) cC'.rd).mono ?_
          rintro _ wD ⟨rfl, sD, AD⟩
          have hput : putT nbB l2[j].1 v = (0, Trie.put nbB (nibbles l2[j].1) v) := by
            unfold putT
            rw [if_neg (by omega), if_neg]
            rintro (h | h)
            · exact hv0 h
            · omega
          have AD' : TrieAt wD (ext LC wC.heap.size 5) 4 5 tb (putT nbB l2[j].1 v).2 := AD
          rw [hput] at AD'
          exact ⟨_, rfl, ⟨j + 1, _, _, rfl, hj2l, SC.doB sD AD', BB.put (tAt_canon SC.tb) hms hv0 (.inl hmem) (fun y hy => .inr hy) hSB⟩, by dsimp only; omega⟩
        · have hn : findM m l2[j].1 = none := by
            cases h : findM m l2[j].1 with
            | none => rfl
            | some v => rw [h] at hf; cases hf
          refine ⟨_, rfl, ⟨by omega, by omega⟩, _, _, _, by rw [add_at, Int.toNat_natCast]; exact (cell_mod SC.mod e2 (fun h => h)).trans e3, ?_⟩
          refine (Delete_calls (k := kk) SC.tb (by decide) (e4.mod' SC.mod)).mono ?_
          rintro _ wD ⟨rfl, sD, AD⟩
          refine ⟨_, rfl, ⟨j + 1, _, _, rfl, hj2l, SC.doB sD AD, ?_⟩, by dsimp only; omega⟩
          unfold delT
          split
          · rename_i h64
            exact BB.mono (hSB64 h64)
          · exact BB.del (tAt_canon SC.tb) hms hn hSB
      · have BC : Bt m [] (fun _ => False) nbB := BB.mono (fun y ⟨_, q, hq, h3, _⟩ => by omega)
        have hab := BC.same hms (tAt_canon SB'.tb) (tAt_canon SB'.ta) RA
        subst hab
        refine (Root_calls SB'.ta).mono ?_
        rintro _ wC ⟨rfl, MC⟩
        have SC := SB'.mod' MC 0
        generalize ext LB wB.heap.size 0 = LC at *
        refine ⟨_, rfl, (Root_calls SC.tb).mono ?_⟩
        rintro _ wD ⟨rfl, MD⟩
        have SD := SC.mod' MD 0
        generalize ext LC wC.heap.size 0 = LD at *
        refine ⟨_, rfl, _, hash_eq _ _ (length_sumOf _) (length_sumOf _), _, rfl, fun _ => ?_, fun h => by simp at h⟩
        refine (Nodes_calls SD.ta (by omega) 6).mono ?_
        rintro _ wE ⟨oE, kE, rfl, ME, NE⟩
        have SE := SD.mod' ME 6
        generalize ext LD wD.heap.size 6 = LE at *
        refine ⟨_, _, _, rfl, (Nodes_calls SE.tb (by omega) 8).mono ?_⟩
        rintro _ wF ⟨oF, kF, rfl, MF, NF⟩
        have SF := SE.mod' MF 8
        have NE' := NE.stp (S := NoS) (Stp.of_nob MF 8) (fun h => h)
        generalize ext LE wE.heap.size 8 = LF at *
        refine ⟨_, _, _, rfl, (hNodes_calls (k1 := kE) (k2 := kF) NE' NF (by have := nodes_len na; omega)).mono ?_⟩
        rintro _ wG ⟨rfl, MG⟩
        rw [decide_eq_true rfl]
        exact ⟨_, rfl, rfl, (SF.mod' MG 0).mod⟩
end Go.Proofs.Ytfghidehlnfdiaa
end

section
namespace Go.Vcg
open Go

theorem mapM_get {α β : Type} {f : α → Option β} : ∀ {l : List α} {ys : List β}, l.mapM f = some ys → ys.length = l.length ∧ ∀ (i : Nat) (x : α), l[i]? = some x → ∃ y, ys[i]? = some y ∧ f x = some y
  | [], ys, h => by
    rw [List.mapM_nil] at h
    cases h
    exact ⟨rfl, fun i x hx => by simp at hx⟩
  | a :: l, ys, h => by
    rw [List.mapM_cons] at h
    cases ha : f a with
    | none => simp [ha] at h
    | some b =>
      cases hl : l.mapM f with
      | none => simp [ha, hl] at h
      | some bs =>
        simp [ha, hl] at h
        subst h
        obtain ⟨h1, h2⟩ := mapM_get hl
        refine ⟨by simp [h1], fun i x hx => ?_⟩
        cases i with
        | zero => simp at hx; subst hx; exact ⟨b, rfl, ha⟩
        | succ i => simp at hx; exact h2 i x hx
section
variable {H : Type} {enc : TypeId × Value → H} {P : Program} {W : World} {sp : Nat → Bool} {held : Bool} {base : Nat}

/-- What a reading of a slice tells of its elements, one cell each, and of the datum. -/
theorem trod_slice2 {fuel : Nat} {t e : TypeId} {v : Value} {d : DataW H} {ps : List MemPlace} (ht : P.underlying t = some (.slice e)) (hce : P.cellsOf e = 1)
    (h : DataW.trod enc P W base sp held fuel t [v] = some (d, ps)) :
    ∃ o l c, v = .slice o l c ∧ l ≤ c ∧ c ≤ maxLen ∧ ((l = 0 ∧ d = .nil) ∨ ∃ elems spare, d = .slice elems spare ∧ elems.length = l ∧
      ∀ i, i < l → ∃ b f u d' ps' fuel', o = some ⟨b, f, none⟩ ∧ b < W.heap.size ∧ W.cell? ⟨b, f + i, none⟩ = some u ∧ DataW.trod enc P W base sp held fuel' e [u] = some (d', ps') ∧ elems[i]? = some d') := by
  obtain ⟨o, l, c, rfl, hlc, hcm, hall⟩ := trod_slice ht hce h
  refine ⟨o, l, c, rfl, hlc, hcm, ?_⟩
  cases fuel with
  | zero => simp [DataW.trod] at h
  | succ fuel =>
    cases o with
    | none =>
      left
      have : l = 0 ∧ c = 0 := by
        rcases l with _ | l <;> rcases c with _ | c <;> simp [DataW.trod, ht] at h ⊢
      obtain ⟨rfl, rfl⟩ := this
      simp [DataW.trod, ht] at h
      exact ⟨rfl, h.1.symm⟩
    | some a =>
      right
      simp only [DataW.trod, ht, hce, Nat.mul_one] at h
      split at h
      · obtain ⟨els, hm, h2⟩ := Option.bind_eq_some_iff.1 h
        obtain ⟨rest, _, h3⟩ := Option.map_eq_some_iff.1 h2
        cases h3
        obtain ⟨hl, hg⟩ := mapM_get hm
        rw [List.length_range] at hl
        refine ⟨_, _, rfl, by simp [hl], fun i hi => ?_⟩
        obtain ⟨b, f, u, d', ps', fuel', ho, hb, hu, hd⟩ := hall i hi
        cases ho
        obtain ⟨y, hy, hfy⟩ := hg i i (by rw [List.getElem?_range hi])
        obtain ⟨vs, hv, hd2⟩ := Option.bind_eq_some_iff.1 hfy
        obtain ⟨u2, rfl, hu2⟩ := cells1_some hv
        rw [add_at, hu] at hu2
        cases hu2
        exact ⟨b, f, u, y.1, y.2, fuel, rfl, hb, hu, hd2, by rw [List.getElem?_map, hy]; rfl⟩
      · cases h

theorem weights_slice {t e : TypeId} {elems spare : List (DataW H)} {n0 : Nat} (ht : P.underlying t = some (.slice e)) (h : ((DataW.slice elems spare).weights P t).all (· ≤ n0) = true) :
    elems.length * P.bytesOf e ≤ n0 ∧ ∀ d ∈ elems, (d.weights P e).all (· ≤ n0) = true := by
  simp only [DataW.weights, ht, List.all_cons, Bool.and_eq_true, List.all_append] at h
  refine ⟨?_, fun d hd => ?_⟩
  · have h1 : (elems.length + spare.length) * P.bytesOf e ≤ n0 := of_decide_eq_true h.1
    exact Nat.le_trans (Nat.mul_le_mul_right _ (Nat.le_add_right _ _)) h1
  · have h2 := h.2.1
    clear h
    induction elems with
    | nil => cases hd
    | cons x r ih =>
      simp only [DataW.weightsAll, List.all_append, Bool.and_eq_true] at h2
      rcases List.mem_cons.1 hd with rfl | hd
      · exact h2.1
      · exact ih hd h2.2

/-- Bytes, and how many there can be. -/
theorem trod_bytes2 {fuel : Nat} {t e : TypeId} {v : Value} {d : DataW H} {ps : List MemPlace} (ht : P.underlying t = some (.slice e)) (he : P.underlying e = some (.int .u8)) (hce : P.cellsOf e = 1)
    (h : DataW.trod enc P W base sp held fuel t [v] = some (d, ps)) : ∃ o c bs, v = .slice o bs.length c ∧ bs.length ≤ c ∧ c ≤ maxLen ∧ RdB W o bs ∧ ∀ n0, (d.weights P t).all (· ≤ n0) = true → bs.length * P.bytesOf e ≤ n0 := by
  obtain ⟨o, c, bs, rfl, h1, h2, h3⟩ := trod_bytes ht he hce h
  refine ⟨o, c, bs, rfl, h1, h2, h3, fun n0 hw => ?_⟩
  obtain ⟨o', l', c', hv, _, _, h4⟩ := trod_slice2 ht hce h
  cases hv
  rcases h4 with ⟨h5, _⟩ | ⟨elems, spare, rfl, h5, _⟩
  · rw [h5]; simp
  · rw [← h5]; exact (weights_slice ht hw).1
/-- Lists of bytes, and how long each of them can be. -/
theorem trod_bytess2 {fuel : Nat} {t e e2 : TypeId} {v : Value} {d : DataW H} {ps : List MemPlace} (ht : P.underlying t = some (.slice e)) (he : P.underlying e = some (.slice e2)) (he2 : P.underlying e2 = some (.int .u8)) (hce : P.cellsOf e = 1) (hce2 : P.cellsOf e2 = 1)
    (h : DataW.trod enc P W base sp held fuel t [v] = some (d, ps)) : ∃ o c ls, v = .slice o ls.length c ∧ ls.length ≤ c ∧ c ≤ maxLen ∧ RdBB W o ls ∧ ∀ n0, (d.weights P t).all (· ≤ n0) = true → ls.length * P.bytesOf e ≤ n0 ∧ ∀ b ∈ ls, b.length * P.bytesOf e2 ≤ n0 := by
  obtain ⟨o, c, ls, rfl, h1, h2, h3, h3'⟩ := trod_bytess ht he he2 hce hce2 h
  refine ⟨o, c, ls, rfl, h1, h2, h3, fun n0 hw => ?_⟩
  obtain ⟨o', l', c', hv, _, _, h4⟩ := trod_slice2 ht hce h
  cases hv
  rcases h4 with ⟨h5, _⟩ | ⟨elems, spare, rfl, h5, h6⟩
  · rw [h5]
    exact ⟨by simp, fun b hb => by rw [List.eq_nil_of_length_eq_zero h5] at hb; cases hb⟩
  · obtain ⟨h7, h8⟩ := weights_slice ht hw
    refine ⟨by rw [← h5]; exact h7, fun b hb => ?_⟩
    obtain ⟨i, hi, rfl⟩ := List.getElem_of_mem hb
    obtain ⟨bk, f, u, d', ps', fuel', ho, hbk, hu, hd, hel⟩ := h6 i hi
    obtain ⟨bk2, f2, oi, ci, ho2, _, hc2, hr2⟩ := h3 i hi
    rw [ho] at ho2
    cases ho2
    rw [hu] at hc2
    cases hc2
    obtain ⟨o3, c3, bs3, hv3, _, _, _, hw3⟩ := trod_bytes2 he he2 hce2 hd
    have e1 : ls.getD i [] = ls[i] := by simp [List.getD_eq_getElem?_getD, hi]
    have h9 := hw3 n0 (h8 d' (List.mem_of_getElem? hel))
    have h10 : (ls.getD i []).length = bs3.length := by injection hv3
    rw [← h10, e1] at h9
    exact h9
end
theorem i64_range {n : Int} (h : (Lit.int .i64 n).wf = true) : -9223372036854775808 ≤ n ∧ n < 9223372036854775808 := by
  simp only [Lit.wf, Bool.and_eq_true, decide_eq_true_eq] at h
  have h1 : IntKind.min .i64 = -9223372036854775808 := by decide
  have h2 : IntKind.max .i64 = 9223372036854775807 := by decide
  omega
/-- What is told of all arguments is told of each. -/
theorem weights_each {H : Type} {P : Program} {n0 : Nat} : ∀ {ts : List TypeId} {ds : List (DataW H)}, (DataW.weightsEach P ts ds).all (· ≤ n0) = true → ∀ (j : Nat) (t : TypeId) (d : DataW H), ts[j]? = some t → ds[j]? = some d → (d.weights P t).all (· ≤ n0) = true
  | t0 :: ts, d0 :: ds, h, 0, t, d, ht, hd => by
    simp at ht hd
    subst ht hd
    simp only [DataW.weightsEach, List.all_append, Bool.and_eq_true] at h
    exact h.1
  | t0 :: ts, d0 :: ds, h, j + 1, t, d, ht, hd => by
    simp only [DataW.weightsEach, List.all_append, Bool.and_eq_true] at h
    exact weights_each h.2 j t d (by simpa using ht) (by simpa using hd)
  | [], _, _, _, _, _, ht, _ => by simp at ht
  | _ :: _, [], _, _, _, _, _, hd => by simp at hd
end Go.Vcg
end

section
set_option linter.unusedVariables false
set_option linter.unusedSimpArgs false
namespace Go.Vcg
section
variable {H : Type} {enc : TypeId × Value → H} {P : Program} {W : World} {sp : Nat → Bool} {held : Bool} {base : Nat}
theorem cells_some {a : Addr} {n : Nat} {vs : List Value} (h : W.cells? base a n = some vs) : vs.length = n ∧ ∀ j u, vs[j]? = some u → W.cell? (a.add j) = some u := by
  unfold World.cells? at h
  split at h
  · obtain ⟨hl, hg⟩ := mapM_get h
    rw [List.length_range] at hl
    refine ⟨hl, fun j u hu => ?_⟩
    have hj : j < n := by rw [← hl]; exact (List.getElem?_eq_some_iff.1 hu).1
    obtain ⟨y, hy, hc⟩ := hg j j (by rw [List.getElem?_range hj])
    rw [hy] at hu
    cases hu
    exact hc
  · cases h
theorem cell_spot {a : Addr} {u : Value} (h : W.cell? a = some u) : a.spot = none ∧ a.block < W.heap.size := by
  unfold World.cell? at h
  cases hs : a.spot with
  | none =>
    rw [hs] at h
    refine ⟨rfl, ?_⟩
    split at h
    · rename_i hb; exact (Array.getElem?_eq_some_iff.1 hb).1
    · cases h
  | some x =>
    rw [hs] at h
    split at h <;> simp at h
/-- What a reading of a slice tells of its elements, n cells each, and of the datum. -/
theorem trod_slice_el {fuel : Nat} {t e : TypeId} {v : Value} {d : DataW H} {ps : List MemPlace} {n : Nat} (ht : P.underlying t = some (.slice e)) (hce : P.cellsOf e = n) (hn : 0 < n)
    (h : DataW.trod enc P W base sp held fuel t [v] = some (d, ps)) :
    ∃ o l c, v = .slice o l c ∧ l ≤ c ∧ ((l = 0 ∧ d = .nil) ∨ ∃ elems spare, d = .slice elems spare ∧ elems.length = l ∧ ∀ i, i < l → ∃ b f us d' ps' fuel', o = some ⟨b, f, none⟩ ∧ b < W.heap.size ∧ us.length = n ∧ (∀ j u, us[j]? = some u → W.cell? ⟨b, f + i * n + j, none⟩ = some u) ∧ DataW.trod enc P W base sp held fuel' e us = some (d', ps') ∧ elems[i]? = some d') := by
  cases fuel with
  | zero => simp [DataW.trod] at h
  | succ fuel =>
    cases v with
    | slice o l c =>
      cases o with
      | none =>
        have : l = 0 ∧ c = 0 := by
          rcases l with _ | l <;> rcases c with _ | c <;> simp [DataW.trod, ht] at h ⊢
        obtain ⟨rfl, rfl⟩ := this
        simp [DataW.trod, ht] at h
        exact ⟨none, 0, 0, rfl, Nat.le_refl _, .inl ⟨rfl, h.1.symm⟩⟩
      | some a =>
        simp only [DataW.trod, ht, hce] at h
        split at h
        · rename_i hb0
          obtain ⟨els, hm, h2⟩ := Option.bind_eq_some_iff.1 h
          obtain ⟨rest, _, h3⟩ := Option.map_eq_some_iff.1 h2
          cases h3
          obtain ⟨hl, hg⟩ := mapM_get hm
          rw [List.length_range] at hl
          refine ⟨some a, l, c, rfl, hb0.2.1, .inr ⟨_, _, rfl, by simp [hl], fun i hi => ?_⟩⟩
          obtain ⟨y, hy1, hy⟩ := hg i i (by rw [List.getElem?_range hi])
          obtain ⟨vs, hv, hd⟩ := Option.bind_eq_some_iff.1 hy
          obtain ⟨hlv, hgv⟩ := cells_some hv
          obtain ⟨y0, _, hy0⟩ := hg 0 0 (by rw [List.getElem?_range (by omega)])
          obtain ⟨vs0, hv0, _⟩ := Option.bind_eq_some_iff.1 hy0
          obtain ⟨hl0, hg0⟩ := cells_some hv0
          obtain ⟨u, hu⟩ : ∃ u, vs0[0]? = some u := ⟨vs0[0]'(by omega), List.getElem?_eq_getElem (by omega)⟩
          obtain ⟨hs, hb⟩ := cell_spot (hg0 0 u hu)
          obtain ⟨b, f, spot⟩ := a
          have hs' : spot = none := by simpa [Addr.add] using hs
          have hb' : b < W.heap.size := by simpa [Addr.add] using hb
          subst hs'
          refine ⟨b, f, vs, y.1, y.2, fuel, rfl, hb', hlv, fun j u hu => ?_, hd, by rw [List.getElem?_map, hy1]; rfl⟩
          have := hgv j u hu
          rw [add_at, add_at] at this
          exact this
        · cases h
    | _ => simp [DataW.trod, ht] at h
theorem trod_parts {fuel : Nat} {t : TypeId} {fs : Array Field} {us : List Value} {d : DataW H} {ps : List MemPlace} (ht : P.underlying t = some (.struct fs)) (h : DataW.trod enc P W base sp held fuel t us = some (d, ps)) :
    us.length = P.cellsOf t ∧ ∃ parts, d = .agg parts ∧ ∀ (k : Nat) (f : Field), fs[k]? = some f → ∃ fuel' d' ps', DataW.trod enc P W base sp held fuel' f.type ((us.drop f.offset).take (P.cellsOf f.type)) = some (d', ps') ∧ parts[k]? = some d' := by
  cases fuel with
  | zero => simp [DataW.trod] at h
  | succ fuel =>
    simp only [DataW.trod, ht] at h
    split at h
    · rename_i hl
      obtain ⟨xs, hm, he⟩ := Option.map_eq_some_iff.1 h
      cases he
      refine ⟨hl, _, rfl, fun k f hf => ?_⟩
      obtain ⟨_, hg⟩ := mapM_get hm
      obtain ⟨y, hy1, hy⟩ := hg k f (by rw [Array.getElem?_toList]; exact hf)
      exact ⟨fuel, y.1, y.2, hy, by rw [List.getElem?_map, hy1]; rfl⟩
    · cases h
end
end Go.Vcg
namespace Go.Proofs.Ytfghidehlnfdiaa
open Go Go.Vcg Go.Trie
namespace Bulk
theorem one_le {H : Type} (d : DataW H) : 1 ≤ Rows.uptoBulk d := by
  cases d with
  | lit l => cases l <;> simp [Rows.uptoBulk]
  | nil => simp [Rows.uptoBulk]
  | ptr d => simp [Rows.uptoBulk]
  | slice elems spare => simp [Rows.uptoBulk]
  | agg parts => simp [Rows.uptoBulk]
  | iface t d => simp [Rows.uptoBulk]
  | map entries => simp [Rows.uptoBulk]
  | held h => simp [Rows.uptoBulk]
theorem part_le {H : Type} {d : DataW H} {l : List (DataW H)} (h : d ∈ l) : Rows.uptoBulk d ≤ Rows.uptoBulkAll l := by
  induction l with
  | nil => cases h
  | cons x r ih =>
    simp only [Rows.uptoBulkAll]
    cases List.mem_cons.1 h with
    | inl e => subst e; omega
    | inr e => have := ih e; omega
theorem length_le {H : Type} (l : List (DataW H)) : l.length ≤ Rows.uptoBulkAll l := by
  induction l with
  | nil => simp [Rows.uptoBulkAll]
  | cons x r ih => have := one_le x; simp only [Rows.uptoBulkAll, List.length_cons]; omega
theorem slice_elems {H : Type} (elems spare : List (DataW H)) : Rows.uptoBulkAll elems + 1 ≤ Rows.uptoBulk (.slice elems spare) := by
  simp only [Rows.uptoBulk]
  omega
theorem agg_parts {H : Type} (parts : List (DataW H)) : Rows.uptoBulkAll parts + 1 ≤ Rows.uptoBulk (.agg parts) := by
  simp only [Rows.uptoBulk]
  omega
theorem bound {H : Type} {l : List (DataW H)} (hk : Rows.uptoSmall H l = true) : Rows.uptoBulkAll l ≤ 1048576 := of_decide_eq_true hk
end Bulk
section
variable {H : Type} {enc : TypeId × Value → H} {W : World} {sp : Nat → Bool} {held : Bool} {base : Nat}
theorem open_bytesB {fuel : Nat} {v : Value} {d : DataW H} {ps : List MemPlace} (h : DataW.trod enc Try.prog W base sp held fuel 22 [v] = some (d, ps)) :
    ∃ o c bs, v = .slice o bs.length c ∧ bs.length ≤ c ∧ RdB W o bs ∧ bs.length ≤ Rows.uptoBulk d := by
  obtain ⟨o, c, bs, rfl, h1, h2, h3⟩ := trod_bytes und_slU8 und_u8 (by kernel_rfl) h
  refine ⟨o, c, bs, rfl, h1, h3, ?_⟩
  obtain ⟨o', l', c', hv, _, _, h4⟩ := trod_slice2 und_slU8 (by kernel_rfl) h
  cases hv
  rcases h4 with ⟨h5, _⟩ | ⟨elems, spare, rfl, h5, _⟩
  · rw [h5]; omega
  · rw [← h5]
    have h6 := Bulk.length_le elems
    have h7 := Bulk.slice_elems elems spare
    omega
/-- Keys with values, as a slice of structs. -/
theorem open_kvsB {fuel : Nat} {t e : TypeId} {fs : Array Field} {f0 f1 : Field} {v : Value} {d : DataW H} {ps : List MemPlace} (ht : Try.prog.underlying t = some (.slice e)) (hce : Try.prog.cellsOf e = 2) (he : Try.prog.underlying e = some (.struct fs))
    (h0 : fs[0]? = some f0) (h1 : fs[1]? = some f1) (t0 : f0.type = 22) (t1 : f1.type = 22) (o0 : f0.offset = 0) (o1 : f1.offset = 1) (h : DataW.trod enc Try.prog W base sp held fuel t [v] = some (d, ps)) :
    ∃ o c l, v = .slice o l.length c ∧ l.length ≤ c ∧ StR W o l ∧ ∀ x ∈ l, x.1.length ≤ Rows.uptoBulk d ∧ x.2.length ≤ Rows.uptoBulk d := by
  obtain ⟨o, l, c, rfl, hlc, h4⟩ := trod_slice_el ht hce (by omega) h
  rcases h4 with ⟨rfl, rfl⟩ | ⟨elems, spare, rfl, h5, h6⟩
  · exact ⟨o, c, [], rfl, hlc, fun j hj => absurd hj (by simp), fun x hx => by cases hx⟩
  · have hx : ∀ i, ∃ x : By × By, i < l → (∃ b f ok kk ov kv, o = some ⟨b, f, none⟩ ∧ b < W.heap.size ∧ W.cell? ⟨b, f + i * 2, none⟩ = some (.slice ok x.1.length kk) ∧ RdB W ok x.1 ∧ W.cell? ⟨b, f + (i * 2 + 1), none⟩ = some (.slice ov x.2.length kv) ∧ RdB W ov x.2) ∧ x.1.length ≤ Rows.uptoBulk (.slice elems spare) ∧ x.2.length ≤ Rows.uptoBulk (.slice elems spare) := fun i => by
      by_cases hi : i < l
      · obtain ⟨b, f, us, d', ps', fuel', ho, hb, hl, hg, hd, hel⟩ := h6 i hi
        obtain ⟨_, parts, rfl, hf⟩ := trod_parts he hd
        obtain ⟨u0, u1, rfl⟩ : ∃ u0 u1, us = [u0, u1] := by
          rcases us with _ | ⟨a, _ | ⟨b, _ | ⟨c, r⟩⟩⟩ <;> simp at hl ⊢
        obtain ⟨fa, da, pa, ha, hpa⟩ := hf 0 f0 h0
        obtain ⟨fb, db, pb, hb', hpb⟩ := hf 1 f1 h1
        rw [t0, o0, show Try.prog.cellsOf 22 = 1 from by kernel_rfl] at ha
        rw [t1, o1, show Try.prog.cellsOf 22 = 1 from by kernel_rfl] at hb'
        obtain ⟨ok, kk, key, rfl, _, hrk, hlk⟩ := open_bytesB ha
        obtain ⟨ov, kv, val, rfl, _, hrv, hlv⟩ := open_bytesB hb'
        have p1 := Bulk.part_le (List.mem_of_getElem? hpa)
        have p2 := Bulk.part_le (List.mem_of_getElem? hpb)
        have p3 := Bulk.agg_parts parts
        have p4 := Bulk.part_le (List.mem_of_getElem? hel)
        have p5 := Bulk.slice_elems elems spare
        exact ⟨(key, val), fun _ => ⟨⟨b, f, ok, kk, ov, kv, ho, hb, hg 0 _ rfl, hrk, hg 1 _ rfl, hrv⟩, by show key.length ≤ _; omega, by show val.length ≤ _; omega⟩⟩
      · exact ⟨([], []), fun h => (hi h).elim⟩
    have hl : ((List.range l).map (fun i => Classical.choose (hx i))).length = l := by simp
    refine ⟨o, c, (List.range l).map (fun i => Classical.choose (hx i)), by rw [hl], by rw [hl]; exact hlc, fun j hj => ?_, fun x hxm => ?_⟩
    · have hjl : j < l := by rw [← hl]; exact hj
      have := (Classical.choose_spec (hx j) hjl).1
      simp only [List.getElem_map, List.getElem_range]
      exact this
    · obtain ⟨i, hi, rfl⟩ := List.mem_map.1 hxm
      exact (Classical.choose_spec (hx i) (List.mem_range.1 hi)).2
theorem open_stepsB {fuel : Nat} {v : Value} {d : DataW H} {ps : List MemPlace} (h : DataW.trod enc Try.prog W base sp held fuel 84 [v] = some (d, ps)) :
    ∃ o c l, v = .slice o l.length c ∧ l.length ≤ c ∧ StR W o l ∧ ∀ x ∈ l, x.1.length ≤ Rows.uptoBulk d ∧ x.2.length ≤ Rows.uptoBulk d :=
  open_kvsB (show Try.prog.underlying 84 = some (.slice 91) by kernel_rfl) (by kernel_rfl) Try.underlying91 rfl rfl rfl rfl rfl rfl h
theorem open_bytessB {fuel : Nat} {v : Value} {d : DataW H} {ps : List MemPlace} (h : DataW.trod enc Try.prog W base sp held fuel 31 [v] = some (d, ps)) :
    ∃ o c ls, v = .slice o ls.length c ∧ RdBB W o ls ∧ ∀ b ∈ ls, b.length ≤ Rows.uptoBulk d := by
  obtain ⟨o, c, ls, rfl, h1, h2, h3, h3'⟩ := trod_bytess und_slSl und_slU8 und_u8 (by kernel_rfl) (by kernel_rfl) h
  refine ⟨o, c, ls, rfl, h3, fun b hb => ?_⟩
  obtain ⟨o', l', c', hv, _, _, h4⟩ := trod_slice2 und_slSl (by kernel_rfl) h
  cases hv
  rcases h4 with ⟨h5, _⟩ | ⟨elems, spare, rfl, h5, h6⟩
  · rw [List.eq_nil_of_length_eq_zero h5] at hb; cases hb
  · obtain ⟨i, hi, rfl⟩ := List.getElem_of_mem hb
    obtain ⟨bk, f, u, d', ps', fuel', ho, hbk, hu, hd, hel⟩ := h6 i hi
    obtain ⟨bk2, f2, oi, ci, ho2, _, hc2, hr2⟩ := h3 i hi
    rw [ho] at ho2
    cases ho2
    rw [hu] at hc2
    cases hc2
    obtain ⟨o3, c3, bs3, hv3, _, _, hlb⟩ := open_bytesB hd
    have e1 : ls.getD i [] = ls[i] := by simp [List.getD_eq_getElem?_getD, hi]
    have h10 : (ls.getD i []).length = bs3.length := by injection hv3
    rw [e1] at h10
    have p4 := Bulk.part_le (List.mem_of_getElem? hel)
    have p5 := Bulk.slice_elems elems spare
    omega
end
end Go.Proofs.Ytfghidehlnfdiaa
end
