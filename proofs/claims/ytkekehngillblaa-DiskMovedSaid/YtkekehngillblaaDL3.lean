/- The walk and the law of DiskTorn: of rows of bytes appended behind a sync just the first so many survive. -/
import Derived.Test.YtkekehngillblaaDL2
set_option linter.unusedVariables false
set_option linter.unusedSimpArgs false
namespace Go.Disk
open Go.Vcg
/-- Patches that lay F behind S. -/
def Behind (S F : List UInt8) (pend : List Pt) : Prop := ∀ (m : Int) (r : List Pt), 0 ≤ m →
  survive S (pend ++ r) m = if (F.length : Int) ≤ m then survive (S ++ F) r (m - F.length) else S ++ F.take m.toNat
theorem Behind.nil (S : List UInt8) : Behind S [] [] := fun m r hm => by
  rw [if_pos (by simpa using hm)]; simp
theorem lay_end (b c : List UInt8) : lay b b.length c = b ++ c := by
  rw [lay, List.take_length, List.drop_eq_nil_of_le (by omega), List.append_nil]
theorem Behind.snoc {S F : List UInt8} {pend : List Pt} (h : Behind S F pend) (b : List UInt8) : Behind S (F ++ b) (pend ++ [.wr (S ++ F).length b]) := fun m r hm => by
  have e : (F ++ b).length = F.length + b.length := List.length_append
  rw [List.append_assoc, h m _ hm, e]
  by_cases h1 : (F.length : Int) ≤ m
  · rw [if_pos h1]
    show survive (S ++ F) (.wr (S ++ F).length b :: r) (m - F.length) = _
    rw [survive]
    by_cases h2 : (b.length : Int) > m - F.length
    · rw [if_pos h2, if_neg (by omega), lay_end, List.append_assoc, List.take_append]
      congr 2
      · rw [List.take_of_length_le (by omega)]
      · congr 1; omega
    · rw [if_neg h2, if_pos (by omega), lay_end, List.append_assoc]
      congr 1; omega
  · rw [if_neg h1, if_neg (by omega), List.take_append_of_le_length (by omega)]
structure Torn (S F : List UInt8) (d : Dk) : Prop where
  quiet : Quiet d
  cap : d.cap = 1048576
  names : d.names = [(nmX, 0)]
  sure : d.sure = [(nmX, 0)]
  pend : d.pend = []
  fsure : (d.fs 0).sure = S
  bytes : (d.fs 0).bytes = S ++ F
  behind : Behind S F (d.fs 0).pend
theorem append_quiet {d : Dk} (hq : Quiet d) {s : Nm} {f : Nat} (hr : right s = true) (hf : assoc s d.names = some f) (b : List UInt8) : append d s b = write { d with count := d.count + 1 } f (d.fs f).bytes.length b := by
  unfold Disk.append onFile
  rw [begins_quiet hq]
  have hn : named { d with count := d.count + 1 } s = (f, 0) := by
    unfold named
    rw [if_pos hr]
    show (match assoc s d.names with | some f => (f, (0 : Int)) | none => (0, 13)) = _
    rw [hf]
  simp only [hn, if_true]
theorem Torn.app {S F : List UInt8} {d : Dk} (h : Torn S F d) (b : List UInt8) (hl : S.length + F.length + b.length ≤ 1048576) : (append d nmX b).2 = 0 ∧ Torn S (F ++ b) (append d nmX b).1 := by
  have hf : assoc nmX d.names = some 0 := by rw [h.names]; rfl
  rw [append_quiet h.quiet (by decide +kernel) hf]
  have hu : Disk.used { d with count := d.count + 1 } = S.length + F.length := by
    unfold Disk.used
    show ((d.names.map fun x => (d.fs x.2).bytes.length).sum) = _
    rw [h.names]
    simp [h.bytes]
  unfold write
  simp only [hu]
  have hcap := h.cap
  rw [if_neg (by simp only [hcap]; omega)]
  by_cases hb : b = []
  · rw [if_pos hb]
    subst hb
    rw [List.append_nil]
    exact ⟨rfl, ⟨h.quiet.fail, h.quiet.halt, h.quiet.down⟩, h.cap, h.names, h.sure, h.pend, h.fsure, h.bytes, h.behind⟩
  · rw [if_neg hb]
    refine ⟨rfl, ⟨h.quiet.fail, h.quiet.halt, h.quiet.down⟩, h.cap, h.names, h.sure, h.pend, h.fsure, ?_, ?_⟩
    · show lay (d.fs 0).bytes (d.fs 0).bytes.length b = _
      rw [lay_end, h.bytes, List.append_assoc]
    · show Behind S (F ++ b) ((d.fs 0).pend ++ [.wr (d.fs 0).bytes.length b])
      rw [h.bytes]
      exact h.behind.snoc b
theorem Torn.end {S F : List UInt8} {d : Dk} (h : Torn S F d) (n : Int) : read (restart d 0 [n]) nmX = ((S ++ F).take (S.length + (max 0 (min n F.length)).toNat), 0) := by
  have h1 : (restart d 0 [n]).names = [(nmX, 0)] := by
    show (d.pend.take _).foldl Chg.on d.sure = _
    rw [h.pend, h.sure]; rfl
  have h2 : (restart d 0 [n]).down = false := rfl
  have h3 : ((restart d 0 [n]).fs 0).bytes = survive S (d.fs 0).pend (max n 0) := by
    show (if 0 ∈ ((d.pend.take _).foldl Chg.on d.sure).map Prod.snd then (⟨survive (d.fs 0).sure (d.fs 0).pend (left [n] 0), survive (d.fs 0).sure (d.fs 0).pend (left [n] 0), []⟩ : Fl) else d.fs 0).bytes = _
    rw [h.pend, h.sure]
    rw [if_pos (by simp)]
    show survive (d.fs 0).sure (d.fs 0).pend (left [n] 0) = _
    rw [h.fsure]; rfl
  have h4 := h.behind (max n 0) [] (by omega)
  rw [List.append_nil] at h4
  have hn : named (restart d 0 [n]) nmX = (0, 0) := by
    unfold named
    rw [if_pos (by decide +kernel), h1]; rfl
  have ha : asked (restart d 0 [n]) nmX = (0, 0) := by
    unfold asked
    rw [if_neg (by rw [h2]; simp), hn]
  unfold read
  rw [ha, if_pos rfl]
  show (((restart d 0 [n]).fs 0).bytes, (0 : Int)) = _
  rw [h3, h4]
  by_cases hc : (F.length : Int) ≤ max n 0
  · rw [if_pos hc]
    show (S ++ F, (0 : Int)) = _
    have hm : F.length ≤ (max 0 (min n F.length)).toNat := by omega
    rw [List.take_of_length_le (by rw [List.length_append]; omega)]
  · rw [if_neg hc, List.take_append, List.take_of_length_le (l := S) (by omega)]
    have hm : (max n 0).toNat = S.length + (max 0 (min n F.length)).toNat - S.length := by omega
    rw [hm]
theorem Torn.start (S : List UInt8) (hS : S.length ≤ 500) : (create (new 1048576) nmX).2 = 0 ∧ (append (create (new 1048576) nmX).1 nmX S).2 = 0 ∧ (sync (append (create (new 1048576) nmX).1 nmX S).1 nmX).2 = 0 ∧
    (syncDir (sync (append (create (new 1048576) nmX).1 nmX S).1 nmX).1).2 = 0 ∧ Torn S [] (syncDir (sync (append (create (new 1048576) nmX).1 nmX S).1 nmX).1).1 := by
  have q1 : Quiet (create (new 1048576) nmX).1 := ⟨rfl, rfl, rfl⟩
  have f1 : assoc nmX (create (new 1048576) nmX).1.names = some 0 := rfl
  have e2 : append (create (new 1048576) nmX).1 nmX S = (if S = [] then ({ (create (new 1048576) nmX).1 with count := 2 }, 0) else (setF { (create (new 1048576) nmX).1 with count := 2 } 0 ⟨S, [], [.wr 0 S]⟩, 0)) := by
    rw [append_quiet q1 (by decide +kernel) f1]
    unfold write
    simp only
    have hu : Disk.used { (create (new 1048576) nmX).1 with count := (create (new 1048576) nmX).1.count + 1 } = 0 := rfl
    rw [hu]
    have hc : ({ (create (new 1048576) nmX).1 with count := (create (new 1048576) nmX).1.count + 1 } : Dk).cap = 1048576 := rfl
    have hb0 : ((create (new 1048576) nmX).1.fs 0).bytes = [] := rfl
    rw [hc, hb0]
    rw [if_neg (by simp; omega)]
    split
    · rfl
    · congr 2
      show (⟨lay [] 0 S, [], [] ++ [.wr 0 S]⟩ : Fl) = _
      rw [show lay [] 0 S = S from by simp [lay]]; rfl
  have hcr : (create (new 1048576) nmX).2 = 0 := rfl
  refine ⟨hcr, ?_⟩
  rw [e2]
  by_cases hS0 : S = []
  · subst hS0
    rw [if_pos rfl]
    exact ⟨rfl, rfl, rfl, ⟨rfl, rfl, rfl⟩, rfl, rfl, rfl, rfl, rfl, rfl, Behind.nil _⟩
  · rw [if_neg hS0]
    exact ⟨rfl, rfl, rfl, ⟨rfl, rfl, rfl⟩, rfl, rfl, rfl, rfl, rfl, (List.append_nil S).symm, Behind.nil _⟩
end Go.Disk
namespace Go.Proofs.Ytkekehngillblaa
open Go Go.Vcg Go.Disk

theorem cow_bytes {C : Type} {w : World} {lab : Nat → C} {c : C} {o o2 : Option Addr} {l cap c2 : Nat} {a b : List UInt8} {ty : TypeId} (h : COw w lab c tU8 1 o l cap (a.map bV)) (hr : RdB w o2 b) (hb : l + b.length ≤ 2 ^ 40) :
    ∃ o' c' w', Sem.run Try.prog (builtinV .append #[tSlU8, tSlU8] ty #[.slice o l cap, .slice o2 b.length c2]) w = .ok (.slice o' (l + b.length) c') w' ∧ COw w' (ext lab w.heap.size c) c tU8 1 o' (l + b.length) c' ((a ++ b).map bV) ∧ Stp (· = c) w lab w' (ext lab w.heap.size c) := by
  obtain ⟨i, hi, h1⟩ := Option.map_eq_some_iff.1 info_u8
  simp only [Prod.mk.injEq] at h1
  rw [List.map_append]
  exact h.append und_slU8 hi h1.1 h1.2.1 rfl (src_bytes und_slU8 hr) (by simp only [maxLen]; omega) (by rw [h1.2.2]; omega)
theorem tmp_ne : ∀ x : DC, ¬ (LC.d x = LC.tmp) := fun x h => by cases h
theorem LD.tmp {w0 w w' : World} {lab lab' : Nat → LC} {d : Nat} {σ : Dk} {n : Nat} (h : LD w0 w lab d σ n) (s : Stp (· = LC.tmp) w lab w' lab') : LD w0 w' lab' d σ n :=
  ⟨h.M.trans (s.mono (fun c e => by rw [e]; simp)), h.D.stp s (fun x => tmp_ne x), h.ok, h.cnt⟩

theorem Torn_calls (w : World) {o0 o1 : Option Addr} {c0 c1 : Nat} (S : List UInt8) (hS : RdB w o0 S) (ls : List (List UInt8)) (hr : RdBB w o1 ls) (n : Int) (hn : -9223372036854775808 ≤ n ∧ n < 9223372036854775808) :
    Calls Try.prog morainelaw1_DiskTorn.n #[.slice o0 S.length c0, .slice o1 ls.length c1, .int .i64 n] w (fun e w' => e = .returned (.bool true) ∧ Vcg.Mod NoB w w') := by
  refine morainelaw1_DiskTorn.vc _ _ _ _ _ _ _ _ _ ?_
  unfold morainelaw1_DiskTorn.Vc
  refine (known_calls w).mono ?_
  rintro _ w1 ⟨rfl, M1⟩
  refine ⟨_, rfl, fun h => (by cases h), fun _ => ⟨fun _ => ⟨rfl, M1⟩, fun h500 => ⟨fun _ => ⟨rfl, M1⟩, fun h20 => ?_⟩⟩⟩
  refine (LD.new w w1 M1 1048576 (by omega)).mono ?_
  rintro _ w2 ⟨d, lab2, rfl, h2⟩
  refine ⟨_, _, rfl, ?_⟩
  obtain ⟨e1, e2, e3, e4, hT⟩ := Torn.start S (by omega)
  refine (h2.create (by omega) nmX).mono ?_
  rintro _ w3 ⟨rfl, lab3, h3⟩
  refine ⟨_, rfl, fun h => (h e1).elim, fun _ => ?_⟩
  refine (h3.append (by omega) nmX (h3.bytes hS) out_sd (by omega)).mono ?_
  rintro _ w4 ⟨rfl, lab4, h4⟩
  refine ⟨_, rfl, fun h => (h e2).elim, fun _ => ?_⟩
  refine (h4.sync (by omega) nmX).mono ?_
  rintro _ w5 ⟨rfl, lab5, h5⟩
  refine ⟨_, rfl, fun h => (h e3).elim, fun _ => ?_⟩
  refine (h5.syncDir (by omega)).mono ?_
  rintro _ w6 ⟨rfl, lab6, h6⟩
  refine ⟨_, rfl, fun h => (h e4).elim, fun _ => ?_⟩
  obtain ⟨o7, c7, w7, hap, ow7, s7⟩ := cow_bytes (c2 := c0) (ty := tSlU8) (a := []) (COw.nil w6 lab6 LC.tmp tU8 1) (hS.mod' h6.nob) (by omega)
  rw [Nat.zero_add, List.nil_append] at ow7
  rw [Nat.zero_add] at hap
  have h7 := h6.tmp s7
  refine ⟨_, w7, hap, _, _, _, rfl, ?_⟩
  generalize ext lab6 w6.heap.size LC.tmp = lab7 at *
  refine ⟨fun o l c i w' => ∃ (j : Nat) (lab' : Nat → LC) (σ : Dk) (F : List UInt8), i = (j : Int) ∧ j ≤ ls.length ∧ F.length ≤ 300 * j ∧ l = S.length + F.length ∧ LD w w' lab' d σ (4 + j) ∧ Torn S F σ ∧ COw w' lab' LC.tmp tU8 1 o l c ((S ++ F).map bV), fun _ _ _ i _ => ((ls.length : Int) - i).toNat,
    ⟨0, lab7, _, [], rfl, Nat.zero_le _, by simp, rfl, h7, hT, by rw [List.append_nil]; exact ow7⟩, ?_⟩
  clear ow7 hT h7 h6 hap s7
  rintro o l c _ _ w8 ⟨j, lab8, σ, F, rfl, hj, hF, rfl, h8, hT, ow8⟩
  refine ⟨fun hlt => ?_, fun hge => ?_⟩
  · have hjl : j < ls.length := by omega
    obtain ⟨b, f, oi, ci, rfl, hbl, hc, hri⟩ := hr j hjl
    generalize ls.getD j [] = x at *
    have cell : ∀ {w' : World}, Vcg.Mod NoB w w' → w'.cell? (Addr.add ⟨b, f, none⟩ (Int.toNat (j : Int))) = some (.slice oi x.length ci) := fun M => by
      rw [Int.toNat_natCast, add_at]; exact (cell_mod M hbl (fun h => h)).trans hc
    refine ⟨_, rfl, by omega, _, _, _, cell h8.nob, fun h300 => ⟨_, rfl, by omega, _, _, _, cell h8.nob, by rw [decide_eq_true h300], h8.nob⟩, fun h300 => ⟨_, rfl, by omega, _, _, _, cell h8.nob, ?_⟩⟩
    obtain ⟨ea, hT'⟩ := hT.app x (by omega)
    -- the row that is kept is beside the disk
    refine (Append_calls LC.inj h8.D (h8.nums (by omega)) (begins_ok h8.ok) nmX (h8.bytes hri) out_sd (by omega)).mono ?_
    rintro _ w9 ⟨rfl, hres⟩
    have hres' := hres
    obtain ⟨lab9, D9, s9⟩ := hres
    have h9 : LD w w9 lab9 d (Disk.append σ nmX x).1 (4 + j + 1) := ⟨h8.M.trans (s9.mono (fun c ⟨y, _, e⟩ => by rw [e]; simp)), D9, append_ok h8.ok nmX x, by rw [append_count]; have := h8.cnt; omega⟩
    have ow9 := ow8.stp s9 tmp_sd
    refine ⟨_, rfl, fun h => (h ea).elim, fun _ => ⟨_, rfl, by omega, _, _, _, cell h9.nob, ?_⟩⟩
    obtain ⟨o10, c10, w10, hap, ow10, s10⟩ := cow_bytes (c2 := ci) (ty := tSlU8) ow9 (hri.mod' h9.nob) (by omega)
    refine ⟨_, w10, hap, _, _, _, rfl, ?_⟩
    rw [show IntKind.wrap .i64 ((j : Int) + 1) = ((j + 1 : Nat) : Int) by rw [wrap_i64_small (by omega) (by omega)]; omega]
    refine ⟨⟨j + 1, _, _, F ++ x, rfl, hjl, by rw [List.length_append]; omega, by rw [List.length_append]; omega, h9.tmp s10, hT', by rw [← List.append_assoc]; exact ow10⟩, by dsimp only; omega⟩
  · rintro d59 w9 ⟨rfl, rfl⟩
    have B9 := CB.new w8 lab8 LC.tmp 3 #[.int .i64 n]
    have s9 : Stp NoC w8 lab8 (w8.alloc (.cells #[.int .i64 n] 3)) (ext lab8 w8.heap.size LC.tmp) := Stp.alloc _ _ _ _ _
    have h9 := h8.step s9
    have ow9 := ow8.stp s9 (fun h => h)
    generalize w8.alloc (.cells #[.int .i64 n] 3) = w9 at *
    have c9 : CInts w9 (ext lab8 w8.heap.size LC.tmp) LC.tmp (some ⟨w8.heap.size, 0, none⟩) [n] := fun i hi => by
      obtain rfl : i = 0 := by simpa using hi
      exact ⟨_, 0, rfl, B9.blk.lt, B9.clr, B9.blk.rd1 rfl⟩
    generalize ext lab8 w8.heap.size LC.tmp = lab9 at *
    refine (Restart_calls LC.inj h9.D h9.ok (Nat.lt_of_le_of_lt h9.cnt (by omega)) 0 c9 tmp_sd (by intro x hx; simp at hx; omega) (by simp)).mono ?_
    rintro _ w10 ⟨rfl, lab10, D10, s10⟩
    have h10 : LD w w10 lab10 d (Disk.restart σ 0 [n]) (4 + j) := ⟨h9.M.trans (s10.mono (fun c ⟨y, _, e⟩ => by rw [e]; simp)), D10, restart_ok h9.ok 0 [n], h9.cnt⟩
    have ow10 := ow9.stp s10 tmp_sd
    refine ⟨rfl, ?_⟩
    refine (Read_calls h10.D h10.ok nmX LC.out).mono ?_
    rintro _ w11 ⟨o11, c11, rfl, lab11, D11, ow11, s11⟩
    have hal := ow10.stp s11 tmp_sd
    rw [hT.end n] at ow11 ⊢
    refine ⟨_, _, _, _, rfl, fun _ => ?_, fun h => (h rfl).elim⟩
    have hll := hal.own.cap
    simp only [maxLen] at hll
    have e1 : IntKind.wrap .i64 (((S.length + F.length : Nat) : Int) - ((S.length : Nat) : Int)) = (F.length : Int) := by rw [wrap_i64_small (by omega) (by omega)]; omega
    have e2 : IntKind.wrap .i64 (((S.length : Nat) : Int) + max 0 (min n (F.length : Int))) = ((S.length + (max 0 (min n (F.length : Int))).toNat : Nat) : Int) := by rw [wrap_i64_small (by omega) (by omega)]; omega
    rw [e1, e2, Int.toNat_natCast]
    generalize hK : S.length + (max 0 (min n (F.length : Int))).toNat = K at *
    have hKl : K ≤ S.length + F.length := by omega
    refine ⟨by omega, ?_⟩
    have hr2 := hal.bytes.rd.take K
    have hlen : ((S ++ F).take K).length = K := by rw [List.length_take, List.length_append]; omega
    have hB := Bytes_calls (c1 := c11) (c2 := c) ow11.bytes.rd hr2
    simp only at hB
    rw [hlen] at hB ⊢
    refine hB.mono ?_
    rintro _ _ ⟨rfl, rfl⟩
    exact ⟨_, rfl, by simp, (h10.M.trans (s11.mono (fun c ⟨y, _, e⟩ => by rw [e]; simp))).nob (fun k _ hk => hk rfl)⟩
end Go.Proofs.Ytkekehngillblaa
