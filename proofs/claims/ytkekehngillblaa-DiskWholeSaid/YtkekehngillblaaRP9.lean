/- The reference's disk: bytes laid, copied; what a file's name asks for; how much is used. -/
/- The reference's disk: a change of names. -/
/- The reference's disk: a file that changes. -/
/- The reference's disk: calls that change a file. -/
/- The reference's disk: calls that change names. -/
/- The reference's disk: a new file. -/
/- The reference's disk: what survives of a file. -/
import Derived.Test.YtkekehngillblaaRP2
import Derived.Test.YtkekehngillblaaXStr
section
set_option linter.unusedVariables false
set_option linter.unusedSimpArgs false
namespace Go.Disk
theorem lay_set {b c : List UInt8} {a j : Nat} (ha : a ≤ b.length) (hj : j < c.length) (hl : a + j < (lay b a (c.take j)).length) : (lay b a (c.take j)).set (a + j) c[j] = lay b a (c.take (j + 1)) := by
  have ht : (c.take j).length = j := by rw [List.length_take]; omega
  have ht1 : (c.take (j + 1)).length = j + 1 := by rw [List.length_take]; omega
  rw [length_lay ha, ht] at hl
  apply List.ext_getElem?
  intro i
  rw [List.getElem?_set, get_lay ha, get_lay ha, ht, ht1, length_lay ha, ht]
  by_cases h1 : a + j = i
  · subst h1
    rw [if_pos rfl, if_pos hl, if_pos (by omega), List.getElem?_take, if_pos (by omega), show a + j - a = j by omega, List.getElem?_eq_getElem hj]
  · rw [if_neg h1]
    by_cases h2 : a ≤ i ∧ i < a + j
    · rw [if_pos h2, if_pos (by omega), List.getElem?_take, List.getElem?_take, if_pos (by omega), if_pos (by omega)]
    · rw [if_neg h2, if_neg (by omega)]
theorem lay_push {b c : List UInt8} {a j : Nat} (ha : a ≤ b.length) (hj : j < c.length) (hl : ¬ a + j < (lay b a (c.take j)).length) : lay b a (c.take j) ++ [c[j]] = lay b a (c.take (j + 1)) := by
  have ht : (c.take j).length = j := by rw [List.length_take]; omega
  have ht1 : (c.take (j + 1)).length = j + 1 := by rw [List.length_take]; omega
  rw [length_lay ha, ht] at hl
  have hll : (lay b a (c.take j)).length = a + j := by rw [length_lay ha, ht]; omega
  apply List.ext_getElem?
  intro i
  rw [List.getElem?_append, hll, get_lay ha, get_lay ha, ht, ht1]
  by_cases h1 : i < a + j
  · rw [if_pos h1]
    by_cases h2 : a ≤ i
    · rw [if_pos ⟨h2, h1⟩, if_pos (by omega), List.getElem?_take, List.getElem?_take, if_pos (by omega), if_pos (by omega)]
    · rw [if_neg (by omega), if_neg (by omega)]
  · rw [if_neg h1]
    by_cases h2 : i = a + j
    · subst h2
      rw [if_pos (by omega), List.getElem?_take, if_pos (by omega), show a + j - a = j by omega, List.getElem?_eq_getElem hj]; simp
    · rw [if_neg (by omega), List.getElem?_eq_none (by simp; omega), List.getElem?_eq_none (by omega)]
theorem lay_nil (b : List UInt8) (a : Nat) : lay b a [] = b := by simp [lay]
end Go.Disk
namespace Go.Proofs.Ytkekehngillblaa
open Go Go.Vcg Go.Disk
section
variable {C : Type} {w w' : World} {lab lab' : Nat → C} {c : C} {γ : RC → C} {d : Nat} {σ : Dk}
variable {on os om : Option Addr} {cn cs cm : Nat} {fb : Nat → Nat} {h : Int}

theorem info_u8' : ∃ i, Try.prog.info? tU8 = some i ∧ i.zero = some (.int .u8 0) ∧ i.size = 1 ∧ i.bytes = 1 := info_of info_u8
theorem push_bytes {w0 : World} {o : Option Addr} {n k : Nat} {b : List UInt8} {ty : TypeId} (F : Fresh w0 w tU8 1 o n k (b.map bV)) {o2 : Option Addr} {c : List UInt8} {k2 : Nat} (hr : RdB w o2 c) (hn : n + c.length ≤ 2 ^ 40) :
    ∃ o' c' w', Sem.run Try.prog (builtinV .append #[tSlU8, tSlU8] ty #[.slice o n k, .slice o2 c.length k2]) w = .ok (.slice o' (n + c.length) c') w' ∧ Fresh w0 w' tU8 1 o' (n + c.length) c' ((b ++ c).map bV) := by
  obtain ⟨i, hi, hz, hs, hb⟩ := info_u8'
  rw [List.map_append]
  exact F.push und_slU8 hi hz hs rfl (src_bytes und_slU8 hr) (by simp only [maxLen]; omega) (by rw [hb]; omega)
theorem copy_bytes' {w0 : World} (M : Vcg.Mod NoB w0 w) {o2 : Option Addr} {c : List UInt8} {k2 : Nat} {ty : TypeId} (hr : RdB w o2 c) (hn : c.length ≤ 2 ^ 40) :
    ∃ o' c' w', Sem.run Try.prog (builtinV .append #[tSlU8, tSlU8] ty #[.slice none 0 0, .slice o2 c.length k2]) w = .ok (.slice o' c.length c') w' ∧ Fresh w0 w' tU8 1 o' c.length c' (c.map bV) := by
  have := push_bytes (k2 := k2) (ty := ty) (b := []) (Fresh.nil M tU8 1) hr (by omega)
  simpa using this
theorem lay_calls {o o2 : Option Addr} {k k2 : Nat} {b c : List UInt8} (hb : RdB w o b) (hc : RdB w o2 c) (a : Nat) (ha : a ≤ b.length) (h1 : b.length ≤ 2 ^ 39) (h2 : a + c.length ≤ 2 ^ 39) :
    Calls Try.prog moraineref1_lay.n #[.slice o b.length k, .int .i64 (a : Int), .slice o2 c.length k2] w (fun e w' => ∃ o' k', e = .returned (.slice o' (lay b a c).length k') ∧ Fresh w w' tU8 1 o' (lay b a c).length k' ((lay b a c).map bV)) := by
  refine moraineref1_lay.vc _ _ _ _ _ _ _ _ _ ?_
  unfold moraineref1_lay.Vc
  obtain ⟨o3, c3, w3, hr3, F3⟩ := copy_bytes' (k2 := k) (ty := tSlU8) (Mod.refl w) hb (by omega)
  refine ⟨_, w3, hr3, _, _, _, rfl, ?_⟩
  refine ⟨fun o' n' k' i w' => ∃ j : Nat, i = (j : Int) ∧ j ≤ c.length ∧ n' = (lay b a (c.take j)).length ∧ Fresh w w' tU8 1 o' n' k' ((lay b a (c.take j)).map bV), fun _ _ _ i _ => ((c.length : Int) - i).toNat,
    ⟨0, rfl, Nat.zero_le _, by rw [List.take_zero, lay_nil], by rw [List.take_zero, lay_nil]; exact F3⟩, ?_⟩
  clear F3 hr3
  rintro o' _ k' _ _ w4 ⟨j, rfl, hj, rfl, F⟩
  have hll : (lay b a (c.take j)).length = max b.length (a + j) := by rw [length_lay ha, List.length_take, Nat.min_eq_left hj]
  refine ⟨fun hlt => ?_, fun hge => ?_⟩
  · have hjc : j < c.length := by omega
    have e1 : IntKind.wrap .i64 ((a : Int) + (j : Int)) = ((a + j : Nat) : Int) := by rw [wrap_i64_small (by omega) (by omega)]; omega
    have e2 : IntKind.wrap .i64 ((j : Int) + 1) = ((j + 1 : Nat) : Int) := by rw [wrap_i64_small (by omega) (by omega)]; omega
    rw [e1, e2]
    obtain ⟨B, f, rfl, hB, hcell⟩ := hc (by intro h; rw [h] at hjc; simp at hjc)
    have hcl : w4.cell? (Addr.add ⟨B, f, none⟩ (Int.toNat (j : Int))) = some (bV c[j]) := by
      rw [Int.toNat_natCast, add_at, World.cell?_of_block (F.mod.block B hB (fun h => h)), hcell j hjc]
      simp [List.getD_eq_getElem?_getD, hjc]
    refine ⟨fun hin => ?_, fun hout => ?_⟩
    · have hin' : a + j < (lay b a (c.take j)).length := by omega
      obtain ⟨g, rfl, hcs, F'⟩ := F.set (j := a + j) (by omega) (v := bV c[j]) rfl
      refine ⟨_, rfl, by omega, _, hcl, _, rfl, by omega, by rw [Int.toNat_natCast, add_at, Nat.zero_add]; exact hcs, ?_⟩
      rintro w5 hw5
      have hw : w5 = w4.setCell ⟨g, a + j, none⟩ (bV c[j]) := by
        rw [Int.toNat_natCast, add_at, Nat.zero_add] at hw5; exact hw5
      subst hw
      have hls := lay_set ha hjc hin'
      refine ⟨⟨j + 1, rfl, hjc, ?_, ?_⟩, by dsimp only; omega⟩
      · rw [← hls, List.length_set]
      · rw [← hls, List.map_set]; exact F'
    · have hout' : ¬ a + j < (lay b a (c.take j)).length := by omega
      refine ⟨_, rfl, by omega, _, hcl, ?_⟩
      rintro d5 w5 ⟨rfl, rfl⟩
      have F5 := F.mod' (Mod.alloc (S := NoB) w4 (.cells #[bV c[j]] 5))
      have B5 := Blk.new w4 tU8 #[bV c[j]]
      obtain ⟨o6, c6, w6, hr6, F6⟩ := push_bytes (ty := tSlU8) (o2 := some ⟨w4.heap.size, 0, none⟩) (c := [c[j]]) (k2 := 1) F5 (RdB.of_blk B5 (fun i hi => by
        obtain rfl : i = 0 := by simpa using hi
        rfl)) (by simp; omega)
      have hls := lay_push ha hjc hout'
      refine ⟨_, w6, hr6, _, _, _, rfl, ⟨j + 1, rfl, hjc, ?_, ?_⟩, by dsimp only; omega⟩
      · rw [← hls, List.length_append]
      · rw [← hls]; exact F6
  · obtain rfl : j = c.length := by omega
    rw [List.take_length] at F ⊢
    exact ⟨_, _, rfl, F⟩

/-- A reference disk, its parts in sight. -/
structure RIn (w : World) (lab : Nat → C) (γ : RC → C) (d : Nat) (σ : Dk) (on : Option Addr) (cn : Nat) (os : Option Addr) (cs : Nat) (om : Option Addr) (cm : Nat) (fb : Nat → Nat) (h : Int) : Prop where
  halt : HaltAs σ h
  B : CB w lab (γ .disk) d tRDisk (rdiskA σ.cap on σ.names.length cn os σ.sure.length cs om σ.pend.length cm σ.files σ.count σ.fail h σ.down)
  R : RRest w lab γ on cn os om cm fb σ.names σ.sure σ.pend σ.files σ.fs
theorem RIn.at (H : RIn w lab γ d σ on cn os cs om cm fb h) : RAt w lab γ d σ := ⟨on, cn, os, cs, om, cm, fb, h, H.halt, H.B, H.R⟩
theorem RAt.in (H : RAt w lab γ d σ) : ∃ on cn os cs om cm fb h, RIn w lab γ d σ on cn os cs om cm fb h := by
  obtain ⟨on, cn, os, cs, om, cm, fb, h, h1, h2, h3⟩ := H
  exact ⟨on, cn, os, cs, om, cm, fb, h, h1, h2, h3⟩
theorem RIn.stp {S : C → Prop} (H : RIn w lab γ d σ on cn os cs om cm fb h) (s : Stp S w lab w' lab') (hs : ∀ x, ¬ S (γ x)) : RIn w' lab' γ d σ on cn os cs om cm fb h :=
  ⟨H.halt, H.B.stp s (hs _), H.R.stp s (fun x _ => hs x)⟩

theorem named_yes {s : Nm} {f : Nat} (hr : right s = true) (hf : assoc s σ.names = some f) : named σ s = (f, 0) := by simp only [named, hr, if_true, hf]
theorem named_no {s : Nm} (hr : right s = true) (hf : assoc s σ.names = none) : named σ s = (0, 13) := by simp only [named, hr, if_true, hf]
theorem named_bad {s : Nm} (hr : right s = false) : named σ s = (0, 11) := by simp [named, hr]
theorem named_file {s : Nm} (hk : Ok σ) (h0 : (named σ s).2 = 0) : (named σ s).1 < σ.files := by
  cases hr : right s with
  | false => rw [named_bad hr] at h0; cases h0
  | true =>
    cases hf : assoc s σ.names with
    | none => rw [named_no hr hf] at h0; cases h0
    | some f => rw [named_yes hr hf]; exact hk.names.files _ (assoc_some hf)
theorem file_calls (H : RIn w lab γ d σ on cn os cs om cm fb h) (hl : σ.names.length < 2 ^ 40) (s : Nm) :
    Calls Try.prog moraineref1_Disk_file.n #[.pointer (some ⟨d, 0, none⟩), .string s] w (fun e w' => w' = w ∧ ∃ o, e = .returned (.tuple #[.pointer o, .int .i64 (named σ s).2]) ∧ ((named σ s).2 = 0 → o = some ⟨fb (named σ s).1, 0, none⟩)) := by
  refine calls_gen fun R hR => moraineref1_Disk_file.vc _ _ _ _ ?_
  unfold moraineref1_Disk_file.Vc
  simp only [add_at, Nat.zero_add]
  refine (Name_calls w s).mono ?_
  rintro _ w1 ⟨rfl, rfl⟩
  refine ⟨_, rfl, fun hr => hR _ _ ⟨rfl, none, ?_, ?_⟩, fun hr => ⟨_, _, _, H.B.blk.rd1 rfl, ?_⟩⟩
  · rw [named_bad hr]
  · rw [named_bad hr]; intro h0; cases h0
  refine (find_calls H.R.names (by omega) s).mono ?_
  rintro _ w2 ⟨rfl, i, rfl, hF⟩
  refine ⟨_, rfl, fun hn => ?_, fun hn => ?_⟩
  · rcases hF with ⟨_, ha⟩ | ⟨j, x, rfl, _⟩
    · exact hR _ _ ⟨rfl, none, by rw [named_no hr ha], fun h0 => by rw [named_no hr ha] at h0; cases h0⟩
    · omega
  · rcases hF with ⟨rfl, ha⟩ | ⟨j, x, rfl, hj, hx, ha, hs⟩
    · omega
    · obtain ⟨b, f, rfl, _, _, hc⟩ := row_name H.R.names hx
      refine ⟨_, _, _, H.B.blk.rd1 rfl, _, rfl, by omega, _, by rw [add_at, add_at, Int.toNat_natCast]; exact hc, hR _ _ ⟨rfl, some ⟨fb x.2, 0, none⟩, ?_, ?_⟩⟩
      · rw [named_yes hr ha]
      · intro _; rw [named_yes hr ha]

theorem asked_calls' (hγ : ∀ a b, γ a = γ b → a = b) (H : RAt w lab γ d σ) (hn : Nums σ) (hl : σ.names.length < 2 ^ 40) (s : Nm) :
    Calls Try.prog moraineref1_Disk_asked.n #[.pointer (some ⟨d, 0, none⟩), .string s] w (fun e w' => ∃ lab' on cn os cs om cm fb h, RIn w' lab' γ d (begins σ).1 on cn os cs om cm fb h ∧ Stp (SR γ) w lab w' lab' ∧
      ∃ o n, e = .returned (.tuple #[.pointer o, .int .i64 n]) ∧ (n = if (begins σ).2 = 0 then (named (begins σ).1 s).2 else (begins σ).2) ∧ (n = 0 → o = some ⟨fb (named (begins σ).1 s).1, 0, none⟩)) := by
  refine calls_gen fun R hR => moraineref1_Disk_asked.vc _ _ _ _ ?_
  unfold moraineref1_Disk_asked.Vc
  refine (call_calls hγ H hn).mono ?_
  rintro _ w1 ⟨rfl, lab1, H1, s1⟩
  obtain ⟨on, cn, os, cs, om, cm, fb, h, H1⟩ := H1.in
  refine ⟨_, rfl, fun h0 => hR _ _ ⟨lab1, on, cn, os, cs, om, cm, fb, h, H1, s1, none, _, rfl, by rw [if_neg h0], fun h => (h0 h).elim⟩, fun h0 => ?_⟩
  have hb : (begins σ).1.names = σ.names := by
    unfold begins
    split
    · rfl
    · split <;> rfl
  refine (file_calls H1 (by rw [hb]; exact hl) s).mono ?_
  rintro _ w2 ⟨rfl, o, rfl, ho⟩
  exact ⟨_, _, rfl, hR _ _ ⟨lab1, on, cn, os, cs, om, cm, fb, h, H1, s1, o, _, rfl, by rw [if_pos h0], ho⟩⟩

theorem RUsed_calls (H : RIn w lab γ d σ on cn os cs om cm fb h) (hk : Ok σ) (hl : σ.names.length ≤ 1048576) :
    Calls Try.prog moraineref1_Disk_Used.n #[.pointer (some ⟨d, 0, none⟩)] w (fun e w' => e = .returned (.int .i64 (used σ : Int)) ∧ w' = w) := by
  refine calls_gen fun R hR => moraineref1_Disk_Used.vc _ _ _ ?_
  unfold moraineref1_Disk_Used.Vc
  simp only [add_at, Nat.zero_add]
  have bound : ∀ (l : List (Nm × Nat)), (∀ x ∈ l, (σ.fs x.2).bytes.length ≤ 67108864) → (l.map fun x => (σ.fs x.2).bytes.length).sum ≤ l.length * 67108864 := by
    intro l
    induction l with
    | nil => intro _; exact Nat.zero_le _
    | cons x r ih =>
      intro hx
      have h1 := hx x (List.mem_cons_self ..)
      have h2 := ih (fun y hy => hx y (List.mem_cons_of_mem _ hy))
      rw [List.map_cons, List.sum_cons, List.length_cons]
      omega
  replace bound : ∀ j, j ≤ σ.names.length → ((σ.names.take j).map fun x => (σ.fs x.2).bytes.length).sum ≤ j * 67108864 := fun j hj => by
    have := bound (σ.names.take j) (fun x hx => (hk.size x.2 (hk.names.files _ (List.mem_of_mem_take hx))).2)
    rwa [List.length_take, Nat.min_eq_left hj] at this
  refine ⟨fun u i w' => ∃ j : Nat, i = (j : Int) ∧ j ≤ σ.names.length ∧ w' = w ∧ u = ((((σ.names.take j).map fun x => (σ.fs x.2).bytes.length).sum : Nat) : Int), fun _ i _ => ((σ.names.length : Int) - i).toNat, ⟨0, rfl, Nat.zero_le _, rfl, rfl⟩, ?_⟩
  rintro _ _ _ _ ⟨j, rfl, hj, rfl, rfl⟩
  refine ⟨_, _, _, H.B.blk.rd1 rfl, fun hlt => ?_, fun hge => ?_⟩
  · have hjl : j < σ.names.length := by omega
    have hx := List.getElem?_eq_getElem hjl
    obtain ⟨b, f, rfl, _, _, hc⟩ := row_name H.R.names hx
    obtain ⟨o1, c1, o2, c2, o3, c3, ts, FC⟩ := H.R.files _ (hk.names.files _ (List.getElem_mem hjl))
    have hb := bound j (by omega)
    have hb1 := bound (j + 1) (by omega)
    have hst : ((σ.names.take (j + 1)).map fun x => (σ.fs x.2).bytes.length).sum = ((σ.names.take j).map fun x => (σ.fs x.2).bytes.length).sum + (σ.fs σ.names[j].2).bytes.length := by
      rw [List.take_add_one, List.map_append, List.sum_append, hx]; simp
    rw [hst] at hb1
    refine ⟨_, _, _, H.B.blk.rd1 rfl, _, rfl, by omega, _, by rw [add_at, add_at, Int.toNat_natCast]; exact hc, _, rfl, _, _, _, by rw [add_at, Nat.zero_add]; exact FC.cells.blk.rd1 rfl, ⟨j + 1, ?_, by omega, rfl, ?_⟩, ?_⟩
    · rw [wrap_i64_small (by omega) (by omega)]; omega
    · rw [hst, wrap_i64_small (by omega) (by omega)]; omega
    · dsimp only; rw [wrap_i64_small (by omega) (by omega)]; omega
  · obtain rfl : j = σ.names.length := by omega
    refine hR _ _ ⟨?_, rfl⟩
    rw [List.take_length]; rfl
theorem RRead_calls (H : RIn w lab γ d σ on cn os cs om cm fb h) (hk : Ok σ) (hl : σ.names.length ≤ 1048576) (s : Nm) :
    Calls Try.prog moraineref1_Disk_Read.n #[.pointer (some ⟨d, 0, none⟩), .string s] w (fun e w' => w' = w ∧ ∃ o k, e = .returned (.tuple #[.slice o (Disk.read σ s).1.length k, .int .i64 (Disk.read σ s).2]) ∧ (Disk.read σ s).1.length ≤ k ∧ CBy w lab (γ .froz) o (Disk.read σ s).1) := by
  refine calls_gen fun R hR => moraineref1_Disk_Read.vc _ _ _ _ ?_
  unfold moraineref1_Disk_Read.Vc
  simp only [add_at, Nat.zero_add]
  refine ⟨_, H.B.blk.rd1 rfl, fun hd => hR _ _ ⟨rfl, none, 0, ?_, ?_, ?_⟩, fun hd => ?_⟩
  · simp [Disk.read, Disk.asked, hd]
  · simp [Disk.read, Disk.asked, hd]
  · simp [Disk.read, Disk.asked, hd, CBy.nil]
  refine (file_calls H (by omega) s).mono ?_
  rintro _ w1 ⟨rfl, o, rfl, ho⟩
  have ha : Disk.asked σ s = named σ s := by simp [Disk.asked, hd]
  refine ⟨_, _, rfl, fun h0 => hR _ _ ⟨rfl, none, 0, ?_, ?_, ?_⟩, fun h0 => ?_⟩
  · simp [Disk.read, ha, h0]
  · simp [Disk.read, ha, h0]
  · simp [Disk.read, ha, h0, CBy.nil]
  · obtain ⟨o1, c1, o2, c2, o3, c3, ts, FC⟩ := H.R.files _ (named_file hk h0)
    refine ⟨_, ho h0, _, _, _, by rw [add_at, Nat.zero_add]; exact FC.cells.blk.rd1 rfl, hR _ _ ⟨rfl, o1, c1, ?_, ?_, ?_⟩⟩
    · simp only [Disk.read, ha, if_pos h0]
    · simp only [Disk.read, ha, if_pos h0]; exact FC.cap
    · simp only [Disk.read, ha, if_pos h0]; exact FC.bytes
theorem RReadAt_calls (H : RIn w lab γ d σ on cn os cs om cm fb h) (hk : Ok σ) (hl : σ.names.length ≤ 1048576) (s : Nm) (at_ n : Int) (hn : n < 2 ^ 62) :
    Calls Try.prog moraineref1_Disk_ReadAt.n #[.pointer (some ⟨d, 0, none⟩), .string s, .int .i64 at_, .int .i64 n] w (fun e w' => w' = w ∧ ∃ o k, e = .returned (.tuple #[.slice o (Disk.readAt σ s at_ n).1.length k, .int .i64 (Disk.readAt σ s at_ n).2]) ∧ CBy w lab (γ .froz) o (Disk.readAt σ s at_ n).1) := by
  refine calls_gen fun R hR => moraineref1_Disk_ReadAt.vc _ _ _ _ _ _ ?_
  unfold moraineref1_Disk_ReadAt.Vc
  refine (RRead_calls H hk hl s).mono ?_
  rintro _ w1 ⟨rfl, o, k, rfl, hk', hB⟩
  have hsz : (Disk.read σ s).1.length ≤ 67108864 := by
    unfold Disk.read
    split
    · rename_i h0
      have hlt : (Disk.asked σ s).1 < σ.files := by
        unfold Disk.asked at *
        split at h0
        · cases h0
        · rename_i hd
          simp only [if_neg hd]
          exact named_file hk h0
      exact (hk.size _ hlt).2
    · simp
  have bad : ∀ er, Disk.readAt σ s at_ n = ([], er) → R (.returned (.tuple #[.slice none 0 0, .int .i64 er])) w1 := by
    intro er he
    refine hR _ _ ⟨rfl, none, 0, ?_, ?_⟩
    · rw [he]; rfl
    · rw [he]; exact CBy.nil _ _ _ _
  refine ⟨_, _, _, _, rfl, fun h0 => bad _ (by unfold Disk.readAt; rw [if_neg h0]), fun h0 => ?_⟩
  have hp : ∀ (hc : at_ < 0 ∨ n < 0 ∨ at_ > (Disk.read σ s).1.length ∨ n > (Disk.read σ s).1.length - at_), R (.returned (.tuple #[.slice none 0 0, .int .i64 14])) w1 := fun hc =>
    bad _ (by unfold Disk.readAt; rw [if_pos h0, if_pos hc])
  refine ⟨fun h1 => hp (.inl h1), fun h1 => ⟨fun h2 => hp (.inr (.inl h2)), fun h2 => ⟨fun h3 => hp (.inr (.inr (.inl h3))), fun h3 => ?_⟩⟩⟩
  rw [show IntKind.wrap .i64 (((Disk.read σ s).1.length : Nat) - at_) = ((Disk.read σ s).1.length : Int) - at_ from wrap_i64_small (by omega) (by omega)]
  refine ⟨fun h4 => hp (.inr (.inr (.inr h4))), fun h4 => ?_⟩
  rw [show IntKind.wrap .i64 (at_ + n) = at_ + n from wrap_i64_small (by omega) (by omega)]
  refine ⟨by omega, by omega, hR _ _ ?_⟩
  have he : Disk.readAt σ s at_ n = (((Disk.read σ s).1.drop at_.toNat).take n.toNat, 0) := by
    unfold Disk.readAt
    rw [if_pos h0, if_neg (by omega)]
  have hlen : (at_ + n).toNat - at_.toNat = (((Disk.read σ s).1.drop at_.toNat).take n.toNat).length := by
    rw [List.length_take, List.length_drop]; omega
  refine ⟨rfl, subO o k at_.toNat 1, k - at_.toNat, ?_, ?_⟩
  · rw [he, hlen]
  · rw [he]; exact hB.sub hk'
end
end Go.Proofs.Ytkekehngillblaa
end

section
set_option linter.unusedVariables false
set_option linter.unusedSimpArgs false
namespace Go.Vcg
theorem Fresh.from' {w w0 w1 : World} {e : TypeId} {sz : Nat} {o : Option Addr} {l c : Nat} {xs : List Value} (h : Fresh w0 w1 e sz o l c xs) (M : Mod NoB w w0) : Fresh w w1 e sz o l c xs :=
  ⟨h.own, M.trans h.mod (fun _ _ h => h), fun k hk => Nat.le_trans M.size (h.new k hk)⟩
end Go.Vcg
namespace Go.Disk
open Go.Vcg
theorem without_none {l : List (Nm × Nat)} {s : Nm} (h : assoc s l = none) : without s l = l := by
  unfold without
  rw [List.filter_eq_self]
  intro x hx
  induction l with
  | nil => cases hx
  | cons y r ih =>
    rw [assoc] at h
    split at h
    · cases h
    · rename_i hne
      rcases List.mem_cons.1 hx with rfl | hx
      · simpa using hne
      · exact ih h hx
theorem without_le (l : List (Nm × Nat)) (s : Nm) : (without s l).length ≤ l.length := List.length_filter_le _ _
end Go.Disk
namespace Go.Proofs.Ytkekehngillblaa
open Go Go.Vcg Go.Disk
section
variable {C : Type} {w w' : World} {lab lab' : Nat → C} {c : C} {fb : Nat → Nat} {l : List (Nm × Nat)} {o : Option Addr} {k : Nat}

theorem done_calls (h : CRow w lab c o (nmC fb l)) (hl : l.length < 2 ^ 39) (hk : l.length ≤ k) (ch : Chg) (hren : ∀ a b, ch = .ren a b → b ≠ ⟨#[]⟩) :
    Calls Try.prog moraineref1_done.n #[.slice o l.length k, .agg #[(mvT fb ch).1, (mvT fb ch).2.1, (mvT fb ch).2.2]] w (fun e w' => ∃ o' k', e = .returned (.slice o' (ch.on l).length k') ∧ (ch.on l).length ≤ k' ∧ Vcg.Mod NoB w w' ∧ CRow w' (ext lab w.heap.size c) c o' (nmC fb (ch.on l))) := by
  have key : ∀ (s1 s2 : Nm) (o3 : Option Addr), (mvT fb ch) = (.string s1, .string s2, .pointer o3) →
      Calls Try.prog moraineref1_done.n #[.slice o l.length k, .agg #[.string s1, .string s2, .pointer o3]] w (fun e w' => ∃ o' k', e = .returned (.slice o' (ch.on l).length k') ∧ (ch.on l).length ≤ k' ∧ Vcg.Mod NoB w w' ∧ CRow w' (ext lab w.heap.size c) c o' (nmC fb (ch.on l))) := by
    intro s1 s2 o3 hmv
    refine calls_gen fun R hR => moraineref1_done.vc _ _ _ _ _ _ _ _ ?_
    unfold moraineref1_done.Vc
    rintro d4 w1 ⟨rfl, rfl⟩
    have X1 := Blk.new w 116 #[.string s1, .string s2, .pointer o3]
    have M1 : Vcg.Mod NoB w (w.alloc (.cells #[.string s1, .string s2, .pointer o3] 116)) := Mod.alloc _ _
    generalize w.alloc (.cells #[.string s1, .string s2, .pointer o3] 116) = w1 at *
    generalize w.heap.size = D4 at X1
    simp only [add_at, Nat.zero_add]
    have row : ∀ {w' : World}, Vcg.Mod NoB w w' → CRow w' (ext lab w.heap.size c) c o (nmC fb l) := fun M => h.stp (Stp.of_nob (S := fun _ => False) M c) (fun h => h)
    have fin : ∀ {w' : World} {o' : Option Addr} {n k' : Nat} {l' : List (Nm × Nat)}, Fresh w w' tNm 2 o' n k' (nmC fb l') → n = l'.length → l' = ch.on l → R (.returned (.slice o' n k')) w' := by
      intro w' o' n k' l' F hn hl'
      subst hl' hn
      exact hR _ _ ⟨o', k', rfl, F.own.cap.1, F.mod, (F.done c).1.row⟩
    refine ⟨_, X1.rd1 rfl, fun hp => ?_, fun hp => ?_⟩
    · -- a file: it is made
      obtain ⟨n, f, rfl⟩ : ∃ n f, ch = .made n f := by
        cases ch with
        | made n f => exact ⟨n, f, rfl⟩
        | ren a b => simp only [mvT, Prod.mk.injEq, Value.pointer.injEq] at hmv; exact (hp hmv.2.2.symm).elim
        | rem a => simp only [mvT, Prod.mk.injEq, Value.pointer.injEq] at hmv; exact (hp hmv.2.2.symm).elim
      simp only [mvT, fileV, Prod.mk.injEq, Value.pointer.injEq, Value.string.injEq] at hmv
      obtain ⟨rfl, rfl, rfl⟩ := hmv
      rintro _ rfl
      have X2 := X1.mod' (Mod.drew (S := NoB) w1)
      have M2 := M1.step_drew
      generalize w1.drew = w2 at *
      have hwl := without_le l n
      refine ⟨_, X2.rd1 rfl, _, X2.rd1 rfl, _, X2.rd1 rfl, ?_, ?_⟩
      · refine (without_calls (k := k) (row M2) (by omega) n).mono ?_
        rintro _ w3 ⟨o3, k3, rfl, F3⟩
        have X3 := X2.mod' F3.mod
        refine ⟨_, _, _, rfl, X3.rd1 rfl, X3.rd1 rfl, ?_⟩
        rintro d w4 ⟨rfl, rfl⟩
        obtain ⟨o5, c5, w5, hr5, F5⟩ := push_name (o' := none) (F3.mod' (Mod.alloc (S := NoB) w3 (.cells #[.string n, fileV fb f] 114))) (Blk.new w3 114 #[.string n, fileV fb f]) (by omega)
        refine ⟨_, w5, hr5, _, _, _, rfl, fin (l' := put n f l) (F5.from' M2 |> fun F => ?_) ?_ rfl⟩
        · unfold put; rw [nmC_append]; exact F
        · unfold put; rw [List.length_append]; rfl
      · rintro d w3 ⟨rfl, rfl⟩
        have B3 := Blk.new w2 114 #[.string n, fileV fb f]
        have M23 := Mod.alloc (S := NoB) w2 (.cells #[.string n, fileV fb f] 114)
        have M3 := M2.trans M23 (fun _ _ h => h)
        have X3 := X2.mod' M23
        refine ⟨X3.rd1 rfl, ?_⟩
        change Calls Try.prog 78 _ (w2.alloc (.cells #[.string n, fileV fb f] 114)) _
        generalize w2.alloc (.cells #[.string n, fileV fb f] 114) = w3 at *
        refine (without_calls (k := k) (row M3) (by omega) n).mono ?_
        rintro _ w4 ⟨o4, k4, rfl, F4⟩
        obtain ⟨o5, c5, w5, hr5, F5⟩ := push_name (o' := none) F4 (B3.mod' F4.mod) (by omega)
        refine ⟨_, _, _, rfl, _, w5, hr5, _, _, _, rfl, fin (l' := put n f l) (F5.from' M3 |> fun F => ?_) ?_ rfl⟩
        · unfold put; rw [nmC_append]; exact F
        · unfold put; rw [List.length_append]; rfl
    · -- no file: a new name, or none
      subst hp
      refine ⟨_, X1.rd1 rfl, ?_⟩
      refine (find_calls (k := k) (row M1) (by omega) s1).mono ?_
      rintro _ w2 ⟨rfl, i, rfl, hF⟩
      refine ⟨_, rfl, fun hn => ?_, fun hn => ?_⟩
      · rcases hF with ⟨_, ha⟩ | ⟨j, x, rfl, _⟩
        · have hon : ch.on l = l := by
            cases ch with
            | made n f => simp only [mvT, fileV, Prod.mk.injEq, Value.pointer.injEq] at hmv; cases hmv.2.2
            | ren a b =>
              simp only [mvT, Prod.mk.injEq, Value.string.injEq] at hmv
              obtain ⟨rfl, rfl, _⟩ := hmv
              simp only [Chg.on, ha]
            | rem a =>
              simp only [mvT, Prod.mk.injEq, Value.string.injEq] at hmv
              obtain ⟨rfl, _⟩ := hmv
              exact without_none ha
          exact hR _ _ ⟨o, k, by rw [hon], by rw [hon]; exact hk, M1, by rw [hon]; exact row M1⟩
        · omega
      · rcases hF with ⟨rfl, _⟩ | ⟨j, x, rfl, hj, hx, ha, hxs⟩
        · omega
        obtain ⟨b, f, rfl, _, _, hc⟩ := row_name (row M1) hx
        refine ⟨_, rfl, by omega, _, by rw [add_at, add_at, Int.toNat_natCast]; exact hc, _, X1.rd1 rfl, ?_⟩
        have hwl := without_le l s1
        refine (without_calls (k := k) (row M1) (by omega) s1).mono ?_
        rintro _ w3 ⟨o3, k3, rfl, F3⟩
        have X3 := X1.mod' F3.mod
        have M3 := M1.trans F3.mod (fun _ _ h => h)
        refine ⟨_, _, _, rfl, _, X3.rd1 rfl, fun he => ?_, fun he => ?_⟩
        · -- a new name
          have hs2 : s2 ≠ ⟨#[]⟩ := by
            rintro rfl
            simp [strB] at he
          obtain ⟨rfl⟩ : ch = .ren s1 s2 := by
            cases ch with
            | made n f => simp only [mvT, fileV, Prod.mk.injEq, Value.pointer.injEq] at hmv; cases hmv.2.2
            | ren a b =>
              simp only [mvT, Prod.mk.injEq, Value.string.injEq] at hmv
              obtain ⟨rfl, rfl, _⟩ := hmv
              rfl
            | rem a =>
              simp only [mvT, Prod.mk.injEq, Value.string.injEq] at hmv
              exact (hs2 hmv.2.1.symm).elim
          have hon : Chg.on l (.ren s1 s2) = put s2 x.2 (Disk.without s1 l) := by simp only [Chg.on, ha]
          have hwl2 := without_le (Disk.without s1 l) s2
          rintro _ rfl
          have X4 := X3.mod' (Mod.drew (S := NoB) w3)
          have M4 := M3.step_drew
          have F4 := (F3.from' M1).mod' (Mod.drew (S := NoB) w3)
          have row4 := ((F4.done (lab := lab) c).1).row
          generalize w3.drew = w4 at *
          refine ⟨_, X4.rd1 rfl, _, X4.rd1 rfl, ?_, ?_⟩
          · refine (without_calls (k := k3) row4 (by omega) s2).mono ?_
            rintro _ w5 ⟨o5, k5, rfl, F5⟩
            have X5 := X4.mod' F5.mod
            refine ⟨_, _, _, rfl, X5.rd1 rfl, ?_⟩
            rintro d w6 ⟨rfl, rfl⟩
            obtain ⟨o7, c7, w7, hr7, F7⟩ := push_name (o' := none) (F5.mod' (Mod.alloc (S := NoB) w5 (.cells #[.string s2, fileV fb x.2] 114))) (Blk.new w5 114 #[.string s2, fileV fb x.2]) (by omega)
            refine ⟨_, w7, hr7, _, _, _, rfl, fin (l' := put s2 x.2 (Disk.without s1 l)) (F7.from' M4 |> fun F => ?_) ?_ hon.symm⟩
            · unfold put; rw [nmC_append]; exact F
            · unfold put; rw [List.length_append]; rfl
          · rintro d w5 ⟨rfl, rfl⟩
            have B5 := Blk.new w4 114 #[.string s2, fileV fb x.2]
            have M45 := Mod.alloc (S := NoB) w4 (.cells #[.string s2, fileV fb x.2] 114)
            have M5 := M4.trans M45 (fun _ _ h => h)
            have X5 := X4.mod' M45
            have row5 := row4.stp (Stp.of_nob (S := fun _ => False) M45 c) (fun h => h)
            refine ⟨X5.rd1 rfl, ?_⟩
            change Calls Try.prog 78 _ (w4.alloc (.cells #[.string s2, fileV fb x.2] 114)) _
            generalize w4.alloc (.cells #[.string s2, fileV fb x.2] 114) = w5 at *
            refine (without_calls (k := k3) row5 (by omega) s2).mono ?_
            rintro _ w6 ⟨o6, k6, rfl, F6⟩
            obtain ⟨o7, c7, w7, hr7, F7⟩ := push_name (o' := none) F6 (B5.mod' F6.mod) (by omega)
            refine ⟨_, _, _, rfl, _, w7, hr7, _, _, _, rfl, fin (l' := put s2 x.2 (Disk.without s1 l)) (F7.from' M5 |> fun F => ?_) ?_ hon.symm⟩
            · unfold put; rw [nmC_append]; exact F
            · unfold put; rw [List.length_append]; rfl
        · have hs2 : s2 = ⟨#[]⟩ := by
            have h1 : strB .neq s2 ⟨#[]⟩ = !(strB .eql s2 ⟨#[]⟩) := by simp [strB]
            rw [h1, strB_eql] at he
            exact (nm_eq _ _).1 (of_decide_eq_true (Bool.not_eq_false' .. ▸ he))
          obtain ⟨rfl⟩ : ch = .rem s1 := by
            cases ch with
            | made n f => simp only [mvT, fileV, Prod.mk.injEq, Value.pointer.injEq] at hmv; cases hmv.2.2
            | ren a b =>
              simp only [mvT, Prod.mk.injEq, Value.string.injEq] at hmv
              exact (hren a b rfl (hmv.2.1.trans hs2)).elim
            | rem a =>
              simp only [mvT, Prod.mk.injEq, Value.string.injEq] at hmv
              obtain ⟨rfl, _⟩ := hmv; rfl
          exact fin (F3.from' M1) rfl rfl
  cases ch with
  | made n f => exact key _ _ _ rfl
  | ren a b => exact key _ _ _ rfl
  | rem a => exact key _ _ _ rfl
end
end Go.Proofs.Ytkekehngillblaa
end

section
set_option linter.unusedVariables false
set_option linter.unusedSimpArgs false
namespace Go.Proofs.Ytkekehngillblaa
open Go Go.Vcg Go.Disk
section
variable {C : Type} {w w' : World} {lab lab' : Nat → C} {c : C} {γ : RC → C} {d : Nat} {σ τ : Dk}
variable {on os om : Option Addr} {cn cs cm : Nat} {fb : Nat → Nat} {h : Int}

/-- The colours of one file. -/
def TF (γ : RC → C) (n : Nat) (c : C) : Prop := c = γ (.file n) ∨ c = γ (.pend n)
theorem TF.sr {n : Nat} : ∀ c, TF γ n c → SR γ c := fun c h => by rcases h with rfl | rfl <;> exact SR.of (by simp)
theorem TF.ne (hγ : ∀ a b, γ a = γ b → a = b) {n : Nat} {x : RC} (h1 : x ≠ .file n) (h2 : x ≠ .pend n) : ¬ TF γ n (γ x) := by
  rintro (h | h)
  · exact h1 (hγ _ _ h)
  · exact h2 (hγ _ _ h)
theorem RIn.putF (hγ : ∀ a b, γ a = γ b → a = b) (H : RIn w lab γ d τ on cn os cs om cm fb h) {n : Nat} (s : Stp (TF γ n) w lab w' lab') {f : Fl} (hf : RFAt w' lab' γ n (fb n) f) : RIn w' lab' γ d (setF τ n f) on cn os cs om cm fb h := by
  have ne : ∀ {x : RC}, x ≠ .file n → x ≠ .pend n → ¬ TF γ n (γ x) := TF.ne hγ
  refine ⟨H.halt, H.B.stp s (ne (by simp) (by simp)), ⟨H.R.ncap, H.R.names.stp s (ne (by simp) (by simp)), H.R.sure.stp s (ne (by simp) (by simp)), H.R.pend.stp s (ne (by simp) (by simp)), fun k hk => ?_⟩⟩
  show RFAt w' lab' γ k (fb k) (if k = n then f else τ.fs k)
  by_cases hkn : k = n
  · subst hkn; rw [if_pos rfl]; exact hf
  · rw [if_neg hkn]
    exact (H.R.files k hk).stp s (ne (by simpa using hkn) (by simp)) (ne (by simp) (by simpa using hkn)) (ne (by simp) (by simp))
/-- One more change that is pending. -/
theorem push_cg {n : Nat} {o : Option Addr} {l k : Nat} {ts : List (Value × Value × Value)} {t : Value × Value × Value} (h : COw w lab c tCg 3 o l k (cells3 ts)) {b ty : Nat} (B : Blk w b ty #[t.1, t.2.1, t.2.2]) (h1 : t.1.oneCell' = true ∧ t.2.1.oneCell' = true ∧ t.2.2.oneCell' = true) (hl : l < 2 ^ 40) :
    ∃ o' c' w', Sem.run Try.prog (builtinV .append #[tSlCg, tSlCg] tSlCg #[.slice o l k, .slice (some ⟨b, 0, none⟩) 1 1]) w = .ok (.slice o' (l + 1) c') w' ∧ COw w' (ext lab w.heap.size c) c tCg 3 o' (l + 1) c' (cells3 (ts ++ [t])) ∧ Stp (· = c) w lab w' (ext lab w.heap.size c) := by
  obtain ⟨i, hi, hz, hs, hb⟩ := info_of info_cg
  rw [cells3_append]
  exact h.append und_slCg hi hz hs rfl (src_one und_slCg B rfl (by simp [h1])) (by simp only [maxLen]; omega) (by rw [hb]; omega)

theorem write_calls' (hγ : ∀ a b, γ a = γ b → a = b) (H : RIn w lab γ d τ on cn os cs om cm fb h) (hk : Ok τ) (hl : τ.names.length ≤ 1048576) (hc : τ.count < 2 ^ 40) {n : Nat} (hn : n < τ.files) (a : Nat) (ha : a ≤ (τ.fs n).bytes.length)
    {o : Option Addr} {k : Nat} {b : List UInt8} {cb : C} (hb : CBy w lab cb o b) (hcb : ¬ SR γ cb) (hbl : b.length ≤ 2 ^ 60) :
    Calls Try.prog moraineref1_Disk_write.n #[.pointer (some ⟨d, 0, none⟩), .pointer (some ⟨fb n, 0, none⟩), .int .i64 (a : Int), .slice o b.length k] w (fun e w' => e = .returned (.int .i64 (Disk.write τ n a b).2) ∧ RRes γ d w lab w' (Disk.write τ n a b).1) := by
  have hsz := (hk.size n hn).2
  have hcap := hk.cap
  have hu := used_le hk
  have hpl := hk.pends n hn
  simp only [most] at hsz hcap
  refine calls_gen fun R hR => moraineref1_Disk_write.vc _ _ _ _ _ _ _ _ ?_
  unfold moraineref1_Disk_write.Vc
  simp only [add_at, Nat.zero_add]
  obtain ⟨o1, c1, o2, c2, o3, c3, ts, FC⟩ := H.R.files n hn
  refine ⟨_, _, _, FC.cells.blk.rd1 rfl, ?_⟩
  have e1 : IntKind.wrap .i64 ((a : Int) + ((b.length : Nat) : Int)) = ((a + b.length : Nat) : Int) := by rw [wrap_i64_small (by omega) (by omega)]; omega
  rw [e1]
  generalize hmore : IntKind.wrap .i64 (((a + b.length : Nat) : Int) - (((τ.fs n).bytes.length : Nat) : Int)) = more
  have hmore' : more = (a : Int) + b.length - (τ.fs n).bytes.length := by rw [← hmore, wrap_i64_small (by omega) (by omega)]; omega
  clear hmore e1
  have hw : Disk.write τ n a b = (if more > 0 ∧ more > τ.cap - used τ then (τ, 15) else if b = [] then (τ, 0) else (setF τ n { τ.fs n with bytes := lay (τ.fs n).bytes a b, pend := (τ.fs n).pend ++ [.wr a b] }, 0)) := by
    unfold Disk.write; rw [hmore']
  refine ⟨fun w' => w' = w.drew ∧ ¬ (more > 0 ∧ more > τ.cap - used τ), ?_, ?_⟩
  · rintro _ rfl
    have H8 := H.stp (Stp.drew NoC w lab) (fun _ h => h)
    refine ⟨fun h0 => ⟨_, H8.B.blk.rd1 rfl, ?_⟩, fun h0 => ⟨rfl, fun h => h0 h.1⟩⟩
    refine (RUsed_calls H8 hk hl).mono ?_
    rintro _ w2 ⟨rfl, rfl⟩
    refine ⟨_, rfl, H8.B.blk.rd1 rfl, ?_⟩
    rw [show IntKind.wrap .i64 ((used τ : Int) + more) = used τ + more from wrap_i64_small (by omega) (by omega)]
    refine ⟨fun h1 => hR _ _ ?_, fun h1 => ⟨rfl, fun h => by omega⟩⟩
    rw [hw, if_pos ⟨h0, by omega⟩]
    exact ⟨rfl, H.at.res (Mod.drew w)⟩
  · rintro _ w8 ⟨rfl, hno⟩
    have s0 : Stp (TF γ n) w lab w.drew lab := Stp.drew _ _ _
    refine ⟨fun h0 => hR _ _ ?_, fun h0 => ?_⟩
    · have : b = [] := List.eq_nil_of_length_eq_zero (by omega)
      rw [hw, if_neg hno, if_pos this]
      exact ⟨rfl, H.at.res (Mod.drew w)⟩
    have hbne : b ≠ [] := by rintro rfl; simp at h0
    rw [hw, if_neg hno, if_neg hbne] at hR
    clear hw
    have sN : Stp NoC w lab w.drew lab := Stp.drew _ _ _
    obtain ⟨f1, f2, f3, f4, f5, f6⟩ := FC
    replace f1 := f1.stp sN (fun h => h)
    replace f3 := f3.stp sN (fun h => h)
    replace f4 := f4.stp sN (fun h => h)
    replace f5 := f5.stp sN (fun h => h)
    replace f6 := f6.stp sN (fun h => h)
    replace hb := hb.stp sN (fun h => h)
    clear sN
    have H0 := H
    generalize w.drew = w8 at *
    refine ⟨_, _, _, f1.blk.rd1 rfl, ?_⟩
    refine (lay_calls (k2 := k) f3.rd hb.rd a ha (by omega) (by omega)).mono ?_
    rintro _ w18 ⟨o18, k18, rfl, F18⟩
    have hk18 := F18.own.cap.1
    obtain ⟨C18, s18⟩ := F18.done (lab := lab) (γ .froz)
    replace C18 := C18.bytes
    have nf : ∀ {x : RC}, x ≠ .file n → x ≠ .pend n → ¬ TF γ n (γ x) := TF.ne hγ
    have ncb : ¬ TF γ n cb := fun h => hcb (TF.sr _ h)
    replace f1 := f1.stp s18 (fun h => h)
    replace f4 := f4.stp s18 (fun h => h)
    replace f5 := f5.stp s18 (fun h => h)
    replace f6 := f6.stp s18 (fun h => h)
    replace hb := hb.stp s18 (fun h => h)
    replace s0 := s0.trans (s18.mono (T := TF γ n) (fun _ h => h.elim))
    generalize ext lab w8.heap.size (γ .froz) = lab18 at *
    clear F18 s18 f3
    refine ⟨_, _, _, rfl, f1.blk.canSet (by simp) rfl, ?_⟩
    rintro _ rfl
    obtain ⟨g1, s22⟩ := rset f1 (Stp.refl (· = γ (.file n)) w18 lab18) rfl 1 (.slice o18 (lay (τ.fs n).bytes a b).length k18) rfl
    have nF : ∀ {x : RC}, x ≠ .file n → ¬ γ x = γ (.file n) := fun h e => h (hγ _ _ e)
    replace f4 := f4.stp s22 (nF (by simp))
    replace f5 := f5.stp s22 (nF (by simp))
    replace f6 := f6.stp s22 (nF (by simp))
    replace C18 := C18.stp s22 (nF (by simp))
    replace hb := hb.stp s22 (fun e => ncb (.inl e))
    replace s0 := s0.trans (s22.mono (T := TF γ n) (fun c h => .inl h))
    generalize w18.setCell ⟨fb n, 1, none⟩ (.slice o18 (lay (τ.fs n).bytes a b).length k18) = w22 at *
    clear s22 f1
    rintro _ rfl
    have sD : Stp NoC w22 lab18 w22.drew lab18 := Stp.drew _ _ _
    replace g1 := g1.stp sD (fun h => h)
    replace f4 := f4.stp sD (fun h => h)
    replace f5 := f5.stp sD (fun h => h)
    replace f6 := f6.stp sD (fun h => h)
    replace C18 := C18.stp sD (fun h => h)
    replace hb := hb.stp sD (fun h => h)
    replace s0 := s0.trans (sD.mono (T := TF γ n) (fun _ h => h.elim))
    generalize w22.drew = w23 at *
    clear sD
    refine ⟨_, _, _, g1.blk.rd1 rfl, ?_⟩
    obtain ⟨o28, k28, w28, hr28, F28⟩ := copy_bytes' (k2 := k) (ty := tSlU8) (Mod.refl w23) hb.rd (by omega)
    refine ⟨_, w28, hr28, _, _, _, rfl, ?_⟩
    have hk28 := F28.own.cap.1
    obtain ⟨C28, s28⟩ := F28.done (lab := lab18) (γ .froz)
    replace C28 := C28.bytes
    replace g1 := g1.stp s28 (fun h => h)
    replace f4 := f4.stp s28 (fun h => h)
    replace f5 := f5.stp s28 (fun h => h)
    replace f6 := f6.stp s28 (fun h => h)
    replace C18 := C18.stp s28 (fun h => h)
    replace s0 := s0.trans (s28.mono (T := TF γ n) (fun _ h => h.elim))
    generalize ext lab18 w23.heap.size (γ .froz) = lab28 at *
    clear F28 s28
    refine ⟨g1.blk.rd1 rfl, ?_⟩
    rintro d32 w33 ⟨rfl, rfl⟩
    have X := Blk.new w28 tCg #[.int .i64 (a : Int), .slice o28 b.length k28, .int .i64 0]
    have s33 : Stp NoC w28 lab28 (w28.alloc (.cells #[.int .i64 (a : Int), .slice o28 b.length k28, .int .i64 0] tCg)) (ext lab28 w28.heap.size (γ .froz)) := Stp.alloc _ _ _ _ _
    replace g1 := g1.stp s33 (fun h => h)
    replace f4 := f4.stp s33 (fun h => h)
    replace f5 := f5.stp s33 (fun h => h)
    replace f6 := f6.stp s33 (fun h => h)
    replace C18 := C18.stp s33 (fun h => h)
    replace C28 := C28.stp s33 (fun h => h)
    replace s0 := s0.trans (s33.mono (T := TF γ n) (fun _ h => h.elim))
    refine ⟨g1.blk.rd1 rfl, ?_⟩
    change ∃ v w35, Sem.run Try.prog _ (w28.alloc (.cells #[.int .i64 (a : Int), .slice o28 b.length k28, .int .i64 0] tCg)) = _ ∧ _
    generalize w28.alloc (.cells #[.int .i64 (a : Int), .slice o28 b.length k28, .int .i64 0] tCg) = w33 at *
    generalize ext lab28 w28.heap.size (γ .froz) = lab33 at *
    clear s33
    obtain ⟨o35, k35, w35, hr35, p35, s35⟩ := push_cg (n := 0) f5 (t := (.int .i64 (a : Int), .slice o28 b.length k28, .int .i64 0)) X ⟨rfl, rfl, rfl⟩ (by omega)
    refine ⟨_, w35, hr35, _, _, _, rfl, ?_⟩
    have nP : ∀ {x : RC}, x ≠ .pend n → ¬ γ x = γ (.pend n) := fun h e => h (hγ _ _ e)
    replace g1 := g1.stp s35 (nP (by simp))
    replace f4 := f4.stp s35 (nP (by simp))
    replace f6 := f6.stp s35 (nP (by simp))
    replace C18 := C18.stp s35 (nP (by simp))
    replace C28 := C28.stp s35 (nP (by simp))
    replace s0 := s0.trans (s35.mono (T := TF γ n) (fun c h => .inr h))
    generalize ext lab33 w33.heap.size (γ (.pend n)) = lab35 at *
    clear s35 X f5
    refine ⟨g1.blk.canSet (by simp) rfl, ?_⟩
    rintro _ rfl
    obtain ⟨g2, s39⟩ := rset g1 (Stp.refl (· = γ (.file n)) w35 lab35) rfl 3 (.slice o35 ((τ.fs n).pend.length + 1) k35) rfl
    replace f4 := f4.stp s39 (nF (by simp))
    replace f6 := f6.stp s39 (nF (by simp))
    replace p35 := p35.stp s39 (nF (by simp))
    replace C18 := C18.stp s39 (nF (by simp))
    replace C28 := C28.stp s39 (nF (by simp))
    replace s0 := s0.trans (s39.mono (T := TF γ n) (fun c h => .inl h))
    refine hR _ _ ⟨rfl, lab35, (H0.putF hγ s0 ?_).at, s0.mono TF.sr⟩
    have e2 : ((τ.fs n).pend ++ [Pt.wr a b]).length = (τ.fs n).pend.length + 1 := by simp
    refine ⟨o18, k18, o2, c2, o35, k35, ts ++ [(.int .i64 (a : Int), .slice o28 b.length k28, .int .i64 0)], ?_, hk18, C18, f4, ?_, f6.snoc ⟨o28, k28, rfl, hk28, C28⟩⟩
    · simp only [e2]; exact g2
    · simp only [e2]; exact p35
end
end Go.Proofs.Ytkekehngillblaa
end

section
set_option linter.unusedVariables false
set_option linter.unusedSimpArgs false
namespace Go.Disk
theorem onFile_bad (σ : Dk) (s : Nm) (k : Dk → Nat → Dk × Int) {n : Int} (hn : n = if (begins σ).2 = 0 then (named (begins σ).1 s).2 else (begins σ).2) (h0 : n ≠ 0) : onFile σ s k = ((begins σ).1, n) := by
  unfold onFile
  by_cases hb : (begins σ).2 = 0
  · rw [if_pos hb] at hn
    simp only [if_pos hb]
    rw [← hn, if_neg h0]
  · rw [if_neg hb] at hn
    simp only [if_neg hb]
    rw [hn]
theorem onFile_good (σ : Dk) (s : Nm) (k : Dk → Nat → Dk × Int) {n : Int} (hn : n = if (begins σ).2 = 0 then (named (begins σ).1 s).2 else (begins σ).2) (h0 : n = 0) : (named (begins σ).1 s).2 = 0 ∧ onFile σ s k = k (begins σ).1 (named (begins σ).1 s).1 := by
  have hb : (begins σ).2 = 0 := by
    by_cases hb : (begins σ).2 = 0
    · exact hb
    · rw [if_neg hb] at hn; exact (hb (hn ▸ h0)).elim
  rw [if_pos hb] at hn
  have h2 : (named (begins σ).1 s).2 = 0 := hn ▸ h0
  refine ⟨h2, ?_⟩
  unfold onFile
  simp only [if_pos hb, if_pos h2]
end Go.Disk
namespace Go.Proofs.Ytkekehngillblaa
open Go Go.Vcg Go.Disk
section
variable {C : Type} {w w' : World} {lab lab' : Nat → C} {c : C} {γ : RC → C} {d : Nat} {σ τ : Dk}
theorem names_few (hk : Ok σ) : σ.names.length ≤ 1048576 := names_len hk.names hk.files

variable {on os om : Option Addr} {cn cs cm : Nat} {fb : Nat → Nat} {h : Int}
theorem RAsked (hγ : ∀ a b, γ a = γ b → a = b) (H : RAt w lab γ d σ) (hn : Nums σ) (hk : Ok (begins σ).1) (s : Nm) :
    Calls Try.prog moraineref1_Disk_asked.n #[.pointer (some ⟨d, 0, none⟩), .string s] w (fun e w' => ∃ lab' on cn os cs om cm fb h, RIn w' lab' γ d (begins σ).1 on cn os cs om cm fb h ∧ Stp (SR γ) w lab w' lab' ∧
      ∃ o n, e = .returned (.tuple #[.pointer o, .int .i64 n]) ∧ (n = if (begins σ).2 = 0 then (named (begins σ).1 s).2 else (begins σ).2) ∧ (n = 0 → o = some ⟨fb (named (begins σ).1 s).1, 0, none⟩)) :=
  asked_calls' hγ H hn (by have h := names_few hk; have e : (begins σ).1.names = σ.names := (begins_eq σ).2.1; rw [e] at h; omega) s

theorem RAppend_calls (hγ : ∀ a b, γ a = γ b → a = b) (H : RAt w lab γ d σ) (hn : Nums σ) (hk : Ok (begins σ).1) (s : Nm) {o : Option Addr} {k : Nat} {b : List UInt8} {cb : C} (hb : CBy w lab cb o b) (hcb : ¬ SR γ cb) (hbl : b.length ≤ 2 ^ 60) :
    Calls Try.prog moraineref1_Disk_Append.n #[.pointer (some ⟨d, 0, none⟩), .string s, .slice o b.length k] w (fun e w' => e = .returned (.int .i64 (Disk.append σ s b).2) ∧ RRes γ d w lab w' (Disk.append σ s b).1) := by
  refine calls_gen fun R hR => moraineref1_Disk_Append.vc _ _ _ _ _ _ _ ?_
  unfold moraineref1_Disk_Append.Vc
  refine (RAsked hγ H hn hk s).mono ?_
  rintro _ w1 ⟨lab1, on, cn, os, cs, om, cm, fb, h, H1, s1, o1, n1, rfl, hn1, ho⟩
  refine ⟨_, _, rfl, fun h0 => hR _ _ ?_, fun h0 => ?_⟩
  · unfold Disk.append
    rw [onFile_bad σ s _ hn1 h0]
    exact ⟨rfl, lab1, H1.at, s1⟩
  · obtain ⟨hf0, hon⟩ := onFile_good σ s (fun d f => Disk.write d f (d.fs f).bytes.length b) hn1 h0
    have hlt := named_file hk hf0
    obtain rfl := ho h0
    obtain ⟨o1, c1, o2, c2, o3, c3, ts, FC⟩ := H1.R.files _ hlt
    simp only [Option.some.injEq, exists_eq_left', add_at, Nat.zero_add]
    refine ⟨_, _, _, FC.cells.blk.rd1 rfl, ?_⟩
    refine (write_calls' hγ H1 hk (names_few hk) (begins_count hn) hlt _ (Nat.le_refl _) (hb.stp s1 hcb) hcb hbl).mono ?_
    rintro _ w2 ⟨rfl, hD⟩
    refine ⟨_, rfl, hR _ _ ?_⟩
    unfold Disk.append
    rw [hon]
    exact ⟨rfl, hD.then s1⟩
theorem RWriteAt_calls (hγ : ∀ a b, γ a = γ b → a = b) (H : RAt w lab γ d σ) (hn : Nums σ) (hk : Ok (begins σ).1) (s : Nm) (a : Int) {o : Option Addr} {k : Nat} {b : List UInt8} {cb : C} (hb : CBy w lab cb o b) (hcb : ¬ SR γ cb) (hbl : b.length ≤ 2 ^ 60) :
    Calls Try.prog moraineref1_Disk_WriteAt.n #[.pointer (some ⟨d, 0, none⟩), .string s, .int .i64 a, .slice o b.length k] w (fun e w' => e = .returned (.int .i64 (Disk.writeAt σ s a b).2) ∧ RRes γ d w lab w' (Disk.writeAt σ s a b).1) := by
  refine calls_gen fun R hR => moraineref1_Disk_WriteAt.vc _ _ _ _ _ _ _ _ ?_
  unfold moraineref1_Disk_WriteAt.Vc
  refine (RAsked hγ H hn hk s).mono ?_
  rintro _ w1 ⟨lab1, on, cn, os, cs, om, cm, fb, h, H1, s1, o1, n1, rfl, hn1, ho⟩
  refine ⟨_, _, rfl, fun h0 => hR _ _ ?_, fun h0 => ?_⟩
  · unfold Disk.writeAt
    rw [onFile_bad σ s _ hn1 h0]
    exact ⟨rfl, lab1, H1.at, s1⟩
  · obtain ⟨hf0, hon⟩ := onFile_good σ s (fun d f => if a < 0 ∨ a > (d.fs f).bytes.length then (d, 14) else Disk.write d f a.toNat b) hn1 h0
    have hlt := named_file hk hf0
    obtain rfl := ho h0
    obtain ⟨o1, c1, o2, c2, o3, c3, ts, FC⟩ := H1.R.files _ hlt
    simp only [Option.some.injEq, exists_eq_left', add_at, Nat.zero_add]
    have bad : (a < 0 ∨ a > ((begins σ).1.fs (named (begins σ).1 s).1).bytes.length) → R (.returned (.int .i64 14)) w1 := fun h => by
      refine hR _ _ ?_
      unfold Disk.writeAt
      rw [hon, if_pos h]
      exact ⟨rfl, lab1, H1.at, s1⟩
    refine ⟨fun h1 => bad (.inl h1), fun h1 => ⟨_, _, _, FC.cells.blk.rd1 rfl, fun h2 => bad (.inr h2), fun h2 => ?_⟩⟩
    obtain ⟨A, rfl⟩ : ∃ A : Nat, a = (A : Int) := ⟨a.toNat, by omega⟩
    refine (write_calls' hγ H1 hk (names_few hk) (begins_count hn) hlt A (by omega) (hb.stp s1 hcb) hcb hbl).mono ?_
    rintro _ w2 ⟨rfl, hD⟩
    refine ⟨_, rfl, hR _ _ ?_⟩
    unfold Disk.writeAt
    rw [hon, if_neg (by omega), Int.toNat_natCast]
    exact ⟨rfl, hD.then s1⟩

theorem RSync_calls (hγ : ∀ a b, γ a = γ b → a = b) (H : RAt w lab γ d σ) (hn : Nums σ) (hk : Ok (begins σ).1) (s : Nm) :
    Calls Try.prog moraineref1_Disk_Sync.n #[.pointer (some ⟨d, 0, none⟩), .string s] w (fun e w' => e = .returned (.int .i64 (Disk.sync σ s).2) ∧ RRes γ d w lab w' (Disk.sync σ s).1) := by
  refine calls_gen fun R hR => moraineref1_Disk_Sync.vc _ _ _ _ ?_
  unfold moraineref1_Disk_Sync.Vc
  refine (RAsked hγ H hn hk s).mono ?_
  rintro _ w1 ⟨lab1, on, cn, os, cs, om, cm, fb, h, H1, s1, o1, n1, rfl, hn1, ho⟩
  refine ⟨_, _, rfl, fun h0 => hR _ _ ?_, fun h0 => ?_⟩
  · unfold Disk.sync
    rw [onFile_bad σ s _ hn1 h0]
    exact ⟨rfl, lab1, H1.at, s1⟩
  · obtain ⟨hf0, hon⟩ := onFile_good σ s (fun d f => (setF d f { d.fs f with sure := (d.fs f).bytes, pend := [] }, (0 : Int))) hn1 h0
    have hlt := named_file hk hf0
    obtain rfl := ho h0
    have hsz := (hk.size _ hlt).2
    simp only [most] at hsz
    generalize (named (begins σ).1 s).1 = n at *
    have hR' : ∀ w', RRes γ d w lab w' (setF (begins σ).1 n { (begins σ).1.fs n with sure := ((begins σ).1.fs n).bytes, pend := [] }) → R (.returned (.int .i64 0)) w' := fun w' h => by
      refine hR _ _ ?_
      unfold Disk.sync
      rw [hon]
      exact ⟨rfl, h⟩
    generalize (begins σ).1 = τ at *
    obtain ⟨o1, c1, o2, c2, o3, c3, ts, FC⟩ := H1.R.files _ hlt
    obtain ⟨f1, f2, f3, f4, f5, f6⟩ := FC
    simp only [Option.some.injEq, exists_eq_left', add_at, Nat.zero_add]
    refine ⟨_, _, _, f1.blk.rd1 rfl, ?_⟩
    obtain ⟨o11, k11, w11, hr11, F11⟩ := copy_bytes' (k2 := c1) (ty := tSlU8) (Mod.refl w1) f3.rd (by omega)
    refine ⟨_, w11, hr11, _, _, _, rfl, ?_⟩
    obtain ⟨C11, s11⟩ := F11.done (lab := lab1) (γ .froz)
    replace C11 := C11.bytes
    replace f1 := f1.stp s11 (fun h => h)
    replace f3 := f3.stp s11 (fun h => h)
    have s0 : Stp (TF γ n) w1 lab1 w11 (ext lab1 w1.heap.size (γ .froz)) := s11.mono (fun _ h => h.elim)
    generalize ext lab1 w1.heap.size (γ .froz) = lab11 at *
    refine ⟨f1.blk.canSet (by simp) rfl, ?_⟩
    rintro _ rfl
    obtain ⟨g1, s12⟩ := rset f1 s0 (.inl rfl) 2 (.slice o11 (τ.fs n).bytes.length k11) rfl
    refine ⟨g1.blk.canSet (by simp) rfl, ?_⟩
    rintro _ rfl
    obtain ⟨g2, s13⟩ := rset g1 s12 (.inl rfl) 3 (.slice none 0 0) rfl
    have nF : ∀ {x : RC}, x ≠ .file n → ¬ γ x = γ (.file n) := fun h e => h (hγ _ _ e)
    have t1 := rset f1 (Stp.refl (· = γ (.file n)) w11 lab11) rfl 2 (.slice o11 (τ.fs n).bytes.length k11) rfl
    have t2 := rset g1 t1.2 rfl 3 (.slice none 0 0) rfl
    replace f3 := f3.stp t2.2 (nF (by simp))
    replace C11 := C11.stp t2.2 (nF (by simp))
    refine hR' _ (RRes.then s1 ⟨lab11, (H1.putF hγ s13 ?_).at, s13.mono TF.sr⟩)
    exact ⟨o1, c1, o11, k11, none, 0, [], g2, f2, f3, C11, COw.nil _ _ _ _ _, Pgs.nil⟩
theorem RTruncate_calls (hγ : ∀ a b, γ a = γ b → a = b) (H : RAt w lab γ d σ) (hn : Nums σ) (hk : Ok (begins σ).1) (s : Nm) (a : Int) :
    Calls Try.prog moraineref1_Disk_Truncate.n #[.pointer (some ⟨d, 0, none⟩), .string s, .int .i64 a] w (fun e w' => e = .returned (.int .i64 (Disk.truncate σ s a).2) ∧ RRes γ d w lab w' (Disk.truncate σ s a).1) := by
  refine calls_gen fun R hR => moraineref1_Disk_Truncate.vc _ _ _ _ _ ?_
  unfold moraineref1_Disk_Truncate.Vc
  refine (RAsked hγ H hn hk s).mono ?_
  rintro _ w1 ⟨lab1, on, cn, os, cs, om, cm, fb, h, H1, s1, o1, n1, rfl, hn1, ho⟩
  refine ⟨_, _, rfl, fun h0 => hR _ _ ?_, fun h0 => ?_⟩
  · unfold Disk.truncate
    rw [onFile_bad σ s _ hn1 h0]
    exact ⟨rfl, lab1, H1.at, s1⟩
  · obtain ⟨hf0, hon⟩ := onFile_good σ s (fun d f => if a < 0 ∨ a > (d.fs f).bytes.length then (d, (14 : Int)) else if a < (d.fs f).bytes.length then (setF d f { d.fs f with bytes := (d.fs f).bytes.take a.toNat, pend := (d.fs f).pend ++ [.cut a.toNat] }, 0) else (d, 0)) hn1 h0
    have hlt := named_file hk hf0
    obtain rfl := ho h0
    have hsz := (hk.size _ hlt).2
    have hpl := hk.pends _ hlt
    have hct := begins_count hn
    simp only [most] at hsz
    generalize (named (begins σ).1 s).1 = n at *
    have hR' : ∀ w' (r : Dk × Int), r = (if a < 0 ∨ a > ((begins σ).1.fs n).bytes.length then ((begins σ).1, (14 : Int)) else if a < ((begins σ).1.fs n).bytes.length then (setF (begins σ).1 n { (begins σ).1.fs n with bytes := ((begins σ).1.fs n).bytes.take a.toNat, pend := ((begins σ).1.fs n).pend ++ [.cut a.toNat] }, 0) else ((begins σ).1, 0)) →
        RRes γ d w lab w' r.1 → R (.returned (.int .i64 r.2)) w' := fun w' r hr h => by
      subst hr
      refine hR _ _ ?_
      unfold Disk.truncate
      rw [hon]
      exact ⟨rfl, h⟩
    generalize (begins σ).1 = τ at *
    obtain ⟨o1, c1, o2, c2, o3, c3, ts, FC⟩ := H1.R.files _ hlt
    obtain ⟨f1, f2, f3, f4, f5, f6⟩ := FC
    simp only [Option.some.injEq, exists_eq_left', add_at, Nat.zero_add]
    refine ⟨fun h1 => hR' w1 (τ, 14) (by rw [if_pos (.inl h1)]) ⟨lab1, H1.at, s1⟩, fun h1 => ⟨_, _, _, f1.blk.rd1 rfl, fun h2 => hR' w1 (τ, 14) (by rw [if_pos (.inr h2)]) ⟨lab1, H1.at, s1⟩, fun h2 =>
      ⟨_, _, _, f1.blk.rd1 rfl, fun h3 => ?_, fun h3 => hR' w1 (τ, 0) (by rw [if_neg (by omega), if_neg h3]) ⟨lab1, H1.at, s1⟩⟩⟩⟩
    obtain ⟨A, rfl⟩ : ∃ A : Nat, a = (A : Int) := ⟨a.toNat, by omega⟩
    rw [if_neg (by omega), if_pos h3] at hR'
    rw [Int.toNat_natCast] at *
    refine ⟨_, _, _, f1.blk.rd1 rfl, by omega, ?_⟩
    have hlA : ((τ.fs n).bytes.take A).length = A := by rw [List.length_take]; omega
    obtain ⟨o11, k11, w11, hr11, F11⟩ := copy_bytes' (k2 := c1) (ty := tSlU8) (Mod.refl w1) (f3.rd.take A) (by omega)
    rw [hlA] at hr11 F11
    refine ⟨_, w11, hr11, _, _, _, rfl, ?_⟩
    have hk11 := F11.own.cap.1
    obtain ⟨C11, s11⟩ := F11.done (lab := lab1) (γ .froz)
    replace C11 := C11.bytes
    have nF : ∀ {x : RC}, x ≠ .file n → ¬ γ x = γ (.file n) := fun h e => h (hγ _ _ e)
    have nP : ∀ {x : RC}, x ≠ .pend n → ¬ γ x = γ (.pend n) := fun h e => h (hγ _ _ e)
    replace f1 := f1.stp s11 (fun h => h)
    replace f4 := f4.stp s11 (fun h => h)
    replace f5 := f5.stp s11 (fun h => h)
    replace f6 := f6.stp s11 (fun h => h)
    have s0 : Stp (TF γ n) w1 lab1 w11 (ext lab1 w1.heap.size (γ .froz)) := s11.mono (fun _ h => h.elim)
    generalize ext lab1 w1.heap.size (γ .froz) = lab11 at *
    refine ⟨f1.blk.canSet (by simp) rfl, ?_⟩
    rintro _ rfl
    obtain ⟨g1, t1⟩ := rset f1 (Stp.refl (· = γ (.file n)) w11 lab11) rfl 1 (.slice o11 A k11) rfl
    replace f4 := f4.stp t1 (nF (by simp))
    replace f5 := f5.stp t1 (nF (by simp))
    replace f6 := f6.stp t1 (nF (by simp))
    replace C11 := C11.stp t1 (nF (by simp))
    replace s0 := s0.trans (t1.mono (T := TF γ n) (fun c h => .inl h))
    generalize w11.setCell ⟨fb n, 1, none⟩ (.slice o11 A k11) = w25 at *
    refine ⟨_, _, _, g1.blk.rd1 rfl, ?_⟩
    rintro d30 w31 ⟨rfl, rfl⟩
    have X := Blk.new w25 tCg #[.int .i64 (-1), .slice none 0 0, .int .i64 (A : Int)]
    have s31 : Stp NoC w25 lab11 (w25.alloc (.cells #[.int .i64 (-1), .slice none 0 0, .int .i64 (A : Int)] tCg)) (ext lab11 w25.heap.size (γ .froz)) := Stp.alloc _ _ _ _ _
    replace g1 := g1.stp s31 (fun h => h)
    replace f4 := f4.stp s31 (fun h => h)
    replace f5 := f5.stp s31 (fun h => h)
    replace f6 := f6.stp s31 (fun h => h)
    replace C11 := C11.stp s31 (fun h => h)
    replace s0 := s0.trans (s31.mono (T := TF γ n) (fun _ h => h.elim))
    change ∃ v w35, Sem.run Try.prog _ (w25.alloc (.cells #[.int .i64 (-1), .slice none 0 0, .int .i64 (A : Int)] tCg)) = _ ∧ _
    generalize w25.alloc (.cells #[.int .i64 (-1), .slice none 0 0, .int .i64 (A : Int)] tCg) = w31 at *
    generalize ext lab11 w25.heap.size (γ .froz) = lab31 at *
    obtain ⟨o35, k35, w35, hr35, p35, s35⟩ := push_cg (n := 0) f5 (t := (.int .i64 (-1), .slice none 0 0, .int .i64 (A : Int))) X ⟨rfl, rfl, rfl⟩ (by omega)
    refine ⟨_, w35, hr35, _, _, _, rfl, ?_⟩
    replace g1 := g1.stp s35 (nP (by simp))
    replace f4 := f4.stp s35 (nP (by simp))
    replace f6 := f6.stp s35 (nP (by simp))
    replace C11 := C11.stp s35 (nP (by simp))
    replace s0 := s0.trans (s35.mono (T := TF γ n) (fun c h => .inr h))
    generalize ext lab31 w31.heap.size (γ (.pend n)) = lab35 at *
    refine ⟨g1.blk.canSet (by simp) rfl, ?_⟩
    rintro _ rfl
    obtain ⟨g2, s39⟩ := rset g1 (Stp.refl (· = γ (.file n)) w35 lab35) rfl 3 (.slice o35 ((τ.fs n).pend.length + 1) k35) rfl
    replace f4 := f4.stp s39 (nF (by simp))
    replace f6 := f6.stp s39 (nF (by simp))
    replace p35 := p35.stp s39 (nF (by simp))
    replace C11 := C11.stp s39 (nF (by simp))
    replace s0 := s0.trans (s39.mono (T := TF γ n) (fun c h => .inl h))
    refine hR' _ _ rfl (RRes.then s1 ⟨lab35, (H1.putF hγ s0 ?_).at, s0.mono TF.sr⟩)
    have e2 : ((τ.fs n).pend ++ [Pt.cut A]).length = (τ.fs n).pend.length + 1 := by simp
    refine ⟨o11, k11, o2, c2, o35, k35, ts ++ [(.int .i64 (-1), .slice none 0 0, .int .i64 (A : Int))], ?_, ?_, C11, f4, ?_, f6.snoc (p := .cut A) (by unfold PgV; rfl)⟩
    · simp only [e2, hlA]; exact g2
    · simp only [hlA]; exact hk11
    · simp only [e2]; exact p35
end
end Go.Proofs.Ytkekehngillblaa
end

section
set_option linter.unusedVariables false
set_option linter.unusedSimpArgs false
namespace Go.Proofs.Ytkekehngillblaa
open Go Go.Vcg Go.Disk
section
variable {C : Type} {w w' : World} {lab lab' : Nat → C} {c : C} {γ : RC → C} {d : Nat} {σ τ : Dk}
variable {on os om : Option Addr} {cn cs cm : Nat} {fb : Nat → Nat} {h : Int}

/-- The colours of a change of names. -/
def TM (γ : RC → C) (c : C) : Prop := c = γ .disk ∨ c = γ .moves
theorem TM.sr : ∀ c, TM γ c → SR γ c := fun c h => by rcases h with rfl | rfl <;> exact SR.of (by simp)
theorem TM.ne (hγ : ∀ a b, γ a = γ b → a = b) {x : RC} (h1 : x ≠ .disk) (h2 : x ≠ .moves) : ¬ TM γ (γ x) := by
  rintro (h | h)
  · exact h1 (hγ _ _ h)
  · exact h2 (hγ _ _ h)
theorem RIn.moved (hγ : ∀ a b, γ a = γ b → a = b) (H : RIn w lab γ d τ on cn os cs om cm fb h) (ch : Chg) (s : Stp (TM γ) w lab w' lab') {on' om' : Option Addr} {cn' cm' : Nat}
    (B : CB w' lab' (γ .disk) d tRDisk (rdiskA τ.cap on' (ch.on τ.names).length cn' os τ.sure.length cs om' (τ.pend.length + 1) cm' τ.files τ.count τ.fail h τ.down))
    (hn : CRow w' lab' (γ .now) on' (nmC fb (ch.on τ.names))) (hc : (ch.on τ.names).length ≤ cn')
    (hm : COw w' lab' (γ .moves) tMv 3 om' (τ.pend.length + 1) cm' (cells3 ((τ.pend ++ [ch]).map (mvT fb)))) : RIn w' lab' γ d (Disk.does τ ch) on' cn' os cs om' cm' fb h := by
  have ne : ∀ {x : RC}, x ≠ .disk → x ≠ .moves → ¬ TM γ (γ x) := TM.ne hγ
  have e : (τ.pend ++ [ch]).length = τ.pend.length + 1 := by simp
  refine ⟨H.halt, ?_, ⟨hc, hn, H.R.sure.stp s (ne (by simp) (by simp)), ?_, fun n hn => (H.R.files n hn).stp s (ne (by simp) (by simp)) (ne (by simp) (by simp)) (ne (by simp) (by simp))⟩⟩
  · simp only [Disk.does, e]; exact B
  · simp only [Disk.does, e]; exact hm
/-- One more change of names. -/
theorem push_mv {o : Option Addr} {l k : Nat} {ts : List (Value × Value × Value)} {t : Value × Value × Value} (h : COw w lab c tMv 3 o l k (cells3 ts)) {b ty : Nat} (B : Blk w b ty #[t.1, t.2.1, t.2.2]) (h1 : t.1.oneCell' = true ∧ t.2.1.oneCell' = true ∧ t.2.2.oneCell' = true) (hl : l < 2 ^ 40) :
    ∃ o' c' w', Sem.run Try.prog (builtinV .append #[tSlMv, tSlMv] tSlMv #[.slice o l k, .slice (some ⟨b, 0, none⟩) 1 1]) w = .ok (.slice o' (l + 1) c') w' ∧ COw w' (ext lab w.heap.size c) c tMv 3 o' (l + 1) c' (cells3 (ts ++ [t])) ∧ Stp (· = c) w lab w' (ext lab w.heap.size c) := by
  obtain ⟨i, hi, hz, hs, hb⟩ := info_of info_mv
  rw [cells3_append]
  exact h.append und_slMv hi hz hs rfl (src_one und_slMv B rfl (by simp [h1])) (by simp only [maxLen]; omega) (by rw [hb]; omega)
theorem RRes.of_in {σ' : Dk} {w'' : World} (H : RIn w' lab' γ d σ' on cn os cs om cm fb h) (s : Stp (SR γ) w lab w' lab') : RRes γ d w lab w' σ' := ⟨lab', H.at, s⟩

theorem RSyncDir_calls (hγ : ∀ a b, γ a = γ b → a = b) (H : RAt w lab γ d σ) (hn : Nums σ) (hk : Ok (begins σ).1) :
    Calls Try.prog moraineref1_Disk_SyncDir.n #[.pointer (some ⟨d, 0, none⟩)] w (fun e w' => e = .returned (.int .i64 (Disk.syncDir σ).2) ∧ RRes γ d w lab w' (Disk.syncDir σ).1) := by
  refine calls_gen fun R hR => moraineref1_Disk_SyncDir.vc _ _ _ ?_
  unfold moraineref1_Disk_SyncDir.Vc
  refine (call_calls hγ H hn).mono ?_
  rintro _ w1 ⟨rfl, lab1, H1, s1⟩
  refine ⟨_, rfl, fun h0 => hR _ _ (by unfold Disk.syncDir; rw [if_neg h0]; exact ⟨rfl, lab1, H1, s1⟩), fun h0 => ?_⟩
  have hR' : ∀ w', RRes γ d w lab w' { (begins σ).1 with sure := (begins σ).1.names, pend := [] } → R (.returned (.int .i64 0)) w' := fun w' h => hR _ _ (by unfold Disk.syncDir; rw [if_pos h0]; exact ⟨rfl, h⟩)
  have hnl := names_few hk
  generalize (begins σ).1 = τ at *
  obtain ⟨on, cn, os, cs, om, cm, fb, h, H1⟩ := H1.in
  simp only [add_at, Nat.zero_add]
  refine ⟨_, _, _, H1.B.blk.rd1 rfl, ?_⟩
  obtain ⟨i, hi, hz, hs, hb⟩ := info_of info_nm
  obtain ⟨o8, k8, w8, hr8, F8⟩ := (Fresh.nil (Mod.refl w1) tNm 2).push (ty := 84) und_slNm hi hz hs rfl (H1.R.names.src und_slNm (nmC_len fb τ.names) (nmC_one fb τ.names) cn (by omega)) (by simp only [maxLen]; omega) (by rw [hb]; omega)
  rw [Nat.zero_add, List.nil_append] at F8
  rw [Nat.zero_add] at hr8
  refine ⟨_, w8, hr8, _, _, _, rfl, ?_⟩
  obtain ⟨C8, s8⟩ := F8.done (lab := lab1) (γ .froz)
  have H8 := H1.stp s8 (fun _ h => h)
  replace C8 := C8.row
  have s0 := s1.trans (s8.mono (T := SR γ) (fun _ h => h.elim))
  generalize ext lab1 w1.heap.size (γ .froz) = lab8 at *
  refine ⟨H8.B.blk.canSet (by simp [rdiskA]) rfl, ?_⟩
  rintro _ rfl
  obtain ⟨B9, t9⟩ := rset H8.B (Stp.refl (· = γ .disk) w8 lab8) rfl 2 (.slice o8 τ.names.length k8) (cs' := rdiskA τ.cap on τ.names.length cn o8 τ.names.length k8 om τ.pend.length cm τ.files τ.count τ.fail h τ.down) rfl
  refine ⟨B9.blk.canSet (by simp [rdiskA]) rfl, ?_⟩
  rintro _ rfl
  obtain ⟨B10, t10⟩ := rset B9 t9 rfl 3 (.slice none 0 0) (cs' := rdiskA τ.cap on τ.names.length cn o8 τ.names.length k8 none 0 0 τ.files τ.count τ.fail h τ.down) rfl
  have nd : ∀ {x : RC}, x ≠ .disk → ¬ γ x = γ .disk := fun h e => h (hγ _ _ e)
  refine hR' _ ⟨lab8, ⟨on, cn, o8, k8, none, 0, fb, h, H8.halt, B10, ⟨H8.R.ncap, H8.R.names.stp t10 (nd (by simp)), C8.stp t10 (nd (by simp)), COw.nil _ _ _ _ _, fun n hn => (H8.R.files n hn).stp t10 (nd (by simp)) (nd (by simp)) (nd (by simp))⟩⟩, s0.trans (t10.mono (fun c e => e ▸ SR.of (by simp)))⟩

theorem RNew_calls (w : World) (lab : Nat → C) (γ : RC → C) (cap : Int) :
    Calls Try.prog moraineref1_New.n #[.int .i64 cap] w (fun e w' => ∃ d lab', e = .returned (.pointer (some ⟨d, 0, none⟩)) ∧ RAt w' lab' γ d (Disk.new cap) ∧ Stp NoC w lab w' lab') := by
  refine moraineref1_New.vc _ _ _ ?_
  unfold moraineref1_New.Vc
  rintro d w1 ⟨rfl, rfl⟩
  refine ⟨_, _, rfl, ⟨none, 0, none, 0, none, 0, fun _ => 0, -1, ⟨by omega, fun _ => rfl⟩, CB.new w lab (γ .disk) tRDisk (rdiskA cap none 0 0 none 0 0 none 0 0 0 0 0 (-1) false), ⟨Nat.le_refl _, CRow.nil _ _ _ _, CRow.nil _ _ _ _, COw.nil _ _ _ _ _, fun n hn => absurd hn (Nat.not_lt_zero _)⟩⟩, Stp.alloc _ _ _ _ _⟩

/-- What follows behind a move's own block D: the names change, the move is kept. -/
def MoveTail (d D : Nat) (w23 : World) (R : Ending → World → Prop) : Prop :=
  ∃ o24 : Option Addr, ∃ l25 : Nat, ∃ l26 : Nat, World.cell? w23 ⟨d, 1, none⟩ = some (.slice o24 l25 l26) ∧
  ∃ s27 : ByteArray, ∃ s28 : ByteArray, ∃ o29 : Option Addr, World.cell? w23 ⟨D, 0, none⟩ = some (.string s27) ∧
  World.cell? w23 ⟨D, 1, none⟩ = some (.string s28) ∧
  World.cell? w23 ⟨D, 2, none⟩ = some (.pointer o29) ∧
  Calls Try.prog 65 #[(.slice o24 l25 l26), (.agg #[(.string s27), (.string s28), (.pointer o29)])] w23 (fun e30 w31 =>
    ∃ o32 : Option Addr, ∃ l33 : Nat, ∃ l34 : Nat, e30 = .returned (.slice o32 l33 l34) ∧
    CanSet w31 ⟨d, 1, none⟩ (.slice o32 l33 l34) ∧ ∀ w35 : World, IsSet w31 ⟨d, 1, none⟩ (.slice o32 l33 l34) w35 →
    ∀ w36 : World, IsDrew w35 w36 →
    ∃ o37 : Option Addr, ∃ l38 : Nat, ∃ l39 : Nat, World.cell? w36 ⟨d, 3, none⟩ = some (.slice o37 l38 l39) ∧
    ∃ s40 : ByteArray, ∃ s41 : ByteArray, ∃ o42 : Option Addr, World.cell? w36 ⟨D, 0, none⟩ = some (.string s40) ∧
    World.cell? w36 ⟨D, 1, none⟩ = some (.string s41) ∧
    World.cell? w36 ⟨D, 2, none⟩ = some (.pointer o42) ∧
    ∀ (d43 : Addr) (w44 : World), IsNew w36 116 #[(.string s40), (.string s41), (.pointer o42)] d43 w44 →
    World.cell? w44 ⟨d, 3, none⟩ = some (.slice o37 l38 l39) ∧
    ∃ (v45 : Value) (w46 : World), Sem.run Try.prog (builtinV .append #[85, 85] 85 #[(.slice o37 l38 l39), (.slice (some d43) 1 1)]) w44 = .ok v45 w46 ∧
    ∃ o47 : Option Addr, ∃ l48 : Nat, ∃ l49 : Nat, v45 = (.slice o47 l48 l49) ∧
    CanSet w46 ⟨d, 3, none⟩ (.slice o47 l48 l49) ∧ ∀ w50 : World, IsSet w46 ⟨d, 3, none⟩ (.slice o47 l48 l49) w50 →
    R (.returned (.int .i64 0)) w50)
theorem move_tail (hγ : ∀ a b, γ a = γ b → a = b) (H : RIn w lab γ d τ on cn os cs om cm fb h) (hl : τ.names.length ≤ 1048576) (hp : τ.pend.length < 2 ^ 40) {D : Nat} (ch : Chg) (hb : ∀ a b, ch = .ren a b → b ≠ ⟨#[]⟩)
    {s1 s2 : Nm} {o3 : Option Addr} (hmv : mvT fb ch = (.string s1, .string s2, .pointer o3)) (X : CB w lab (γ .froz) D 116 #[.string s1, .string s2, .pointer o3]) {R : Ending → World → Prop}
    (hR : ∀ w', RRes γ d w lab w' (Disk.does τ ch) → R (.returned (.int .i64 0)) w') : MoveTail d D w R := by
  unfold MoveTail
  refine ⟨_, _, _, H.B.blk.rd1 rfl, _, _, _, X.blk.rd1 rfl, X.blk.rd1 rfl, X.blk.rd1 rfl, ?_⟩
  have hd := done_calls H.R.names (by omega) H.R.ncap ch hb
  rw [hmv] at hd
  refine hd.mono ?_
  rintro _ w7 ⟨o7, k7, rfl, hk7, M7, C7⟩
  refine ⟨_, _, _, rfl, ?_⟩
  have s7 : Stp NoC w lab w7 (ext lab w.heap.size (γ .now)) := Stp.of_nob M7 _
  have H7 := H.stp s7 (fun _ h => h)
  replace X := X.stp s7 (fun h => h)
  have s0 := s7.mono (T := SR γ) (fun _ h => h.elim)
  generalize ext lab w.heap.size (γ .now) = lab7 at *
  have nf : ¬ TM γ (γ .froz) := TM.ne hγ (by simp) (by simp)
  have nd : ∀ {x : RC}, x ≠ .disk → ¬ γ x = γ .disk := fun h e => h (hγ _ _ e)
  have nm : ∀ {x : RC}, x ≠ .moves → ¬ γ x = γ .moves := fun h e => h (hγ _ _ e)
  refine ⟨H7.B.blk.canSet (by simp [rdiskA]) rfl, ?_⟩
  rintro _ rfl
  obtain ⟨B8, t8⟩ := rset H7.B (Stp.refl (· = γ .disk) w7 lab7) rfl 1 (.slice o7 (ch.on τ.names).length k7) (cs' := rdiskA τ.cap o7 (ch.on τ.names).length k7 os τ.sure.length cs om τ.pend.length cm τ.files τ.count τ.fail h τ.down) rfl
  generalize w7.setCell ⟨d, 1, none⟩ (.slice o7 (ch.on τ.names).length k7) = w8 at *
  rintro _ rfl
  have sD : Stp NoC w8 lab7 w8.drew lab7 := Stp.drew _ _ _
  replace B8 := B8.stp sD (fun h => h)
  replace t8 := t8.trans (sD.mono (T := (· = γ .disk)) (fun _ h => h.elim))
  generalize w8.drew = w9 at *
  replace X := X.stp t8 (nd (by simp))
  have P := H7.R.pend.stp t8 (nd (by simp))
  replace C7 := C7.stp t8 (nd (by simp))
  replace t8 := t8.mono (T := TM γ) (fun c h => .inl h)
  refine ⟨_, _, _, B8.blk.rd1 rfl, _, _, _, X.blk.rd1 rfl, X.blk.rd1 rfl, X.blk.rd1 rfl, ?_⟩
  rintro d43 w10 ⟨rfl, rfl⟩
  have Y := Blk.new w9 116 #[.string s1, .string s2, .pointer o3]
  have s10 : Stp NoC w9 lab7 (w9.alloc (.cells #[.string s1, .string s2, .pointer o3] 116)) (ext lab7 w9.heap.size (γ .froz)) := Stp.alloc _ _ _ _ _
  replace B8 := B8.stp s10 (fun h => h)
  replace P := P.stp s10 (fun h => h)
  replace C7 := C7.stp s10 (fun h => h)
  replace t8 := t8.trans (s10.mono (T := TM γ) (fun _ h => h.elim))
  refine ⟨B8.blk.rd1 rfl, ?_⟩
  change ∃ v w46, Sem.run Try.prog _ (w9.alloc (.cells #[.string s1, .string s2, .pointer o3] 116)) = _ ∧ _
  generalize w9.alloc (.cells #[.string s1, .string s2, .pointer o3] 116) = w10 at *
  generalize ext lab7 w9.heap.size (γ .froz) = lab10 at *
  obtain ⟨o11, k11, w11, hr11, P11, s11⟩ := push_mv P (t := (.string s1, .string s2, .pointer o3)) Y ⟨rfl, rfl, rfl⟩ hp
  refine ⟨_, w11, hr11, _, _, _, rfl, ?_⟩
  replace B8 := B8.stp s11 (nm (by simp))
  replace C7 := C7.stp s11 (nm (by simp))
  replace t8 := t8.trans (s11.mono (T := TM γ) (fun c h => .inr h))
  generalize ext lab10 w10.heap.size (γ .moves) = lab11 at *
  refine ⟨B8.blk.canSet (by simp [rdiskA]) rfl, ?_⟩
  rintro _ rfl
  obtain ⟨B12, t12⟩ := rset B8 (Stp.refl (· = γ .disk) w11 lab11) rfl 3 (.slice o11 (τ.pend.length + 1) k11) (cs' := rdiskA τ.cap o7 (ch.on τ.names).length k7 os τ.sure.length cs o11 (τ.pend.length + 1) k11 τ.files τ.count τ.fail h τ.down) rfl
  replace P11 := P11.stp t12 (nd (by simp))
  replace C7 := C7.stp t12 (nd (by simp))
  replace t8 := t8.trans (t12.mono (T := TM γ) (fun c h => .inl h))
  refine hR _ ⟨lab11, (H7.moved hγ ch t8 B12 C7 hk7 ?_).at, s0.trans (t8.mono TM.sr)⟩
  rw [List.map_append, List.map_cons, List.map_nil, hmv]
  exact P11
theorem move_block {lab1 : Nat → C} {w1 : World} (H : RIn w1 lab1 γ d τ on cn os cs om cm fb h) (a b : Nm) {G : World → Prop}
    (hG : ∀ w' lab' D, RIn w' lab' γ d τ on cn os cs om cm fb h → Stp NoC w1 lab1 w' lab' → CB w' lab' (γ .froz) D 116 #[.string a, .string b, .pointer none] → D = w1.heap.size → G w') :
    G ((((w1.alloc (.cells #[.string ⟨#[]⟩, .string ⟨#[]⟩, .pointer none] 116)).setCell ⟨w1.heap.size, 0, none⟩ (.string a)).setCell ⟨w1.heap.size, 1, none⟩ (.string b)).setCell ⟨w1.heap.size, 2, none⟩ (.pointer none)).drew := by
  have X0 := Blk.new w1 116 #[.string ⟨#[]⟩, .string ⟨#[]⟩, .pointer none]
  have M0 : Vcg.Mod NoB w1 (w1.alloc (.cells #[.string ⟨#[]⟩, .string ⟨#[]⟩, .pointer none] 116)) := Mod.alloc _ _
  have X1 := X0.set 0 (.string a)
  have M1 := M0.step_set (a := ⟨w1.heap.size, 0, none⟩) (v := .string a) (fun h => (Nat.lt_irrefl _ h).elim)
  have X2 := X1.set 1 (.string b)
  have M2 := M1.step_set (a := ⟨w1.heap.size, 1, none⟩) (v := .string b) (fun h => (Nat.lt_irrefl _ h).elim)
  have X3 := X2.set 2 (.pointer none)
  have M3 := M2.step_set (a := ⟨w1.heap.size, 2, none⟩) (v := .pointer none) (fun h => (Nat.lt_irrefl _ h).elim)
  have X4 := X3.mod' (Mod.drew (S := NoB) _)
  have M4 := M3.step_drew
  have s6 : Stp NoC w1 lab1 _ (ext lab1 w1.heap.size (γ .froz)) := Stp.of_nob M4 _
  exact hG _ _ _ (H.stp s6 (fun _ h => h)) s6 ⟨X4, ext_new (Nat.le_refl _)⟩ rfl

theorem RRename_calls (hγ : ∀ a b, γ a = γ b → a = b) (H : RAt w lab γ d σ) (hn : Nums σ) (hk : Ok (begins σ).1) (a b : Nm) :
    Calls Try.prog moraineref1_Disk_Rename.n #[.pointer (some ⟨d, 0, none⟩), .string a, .string b] w (fun e w' => e = .returned (.int .i64 (Disk.rename σ a b).2) ∧ RRes γ d w lab w' (Disk.rename σ a b).1) := by
  refine calls_gen fun R hR => moraineref1_Disk_Rename.vc _ _ _ _ _ ?_
  unfold moraineref1_Disk_Rename.Vc
  refine (call_calls hγ H hn).mono ?_
  rintro _ w1 ⟨rfl, lab1, H1, s1⟩
  have hct := begins_count hn
  refine ⟨_, rfl, fun h0 => hR _ _ (by unfold Disk.rename; rw [if_neg h0]; exact ⟨rfl, lab1, H1, s1⟩), fun h0 => ?_⟩
  have hR' : ∀ w' (r : Dk × Int), r = (if right a && right b then match assoc a (begins σ).1.names with | some _ => (if a = b then (begins σ).1 else Disk.does (begins σ).1 (.ren a b), (0 : Int)) | none => ((begins σ).1, 13) else ((begins σ).1, 11)) → RRes γ d w lab w' r.1 → R (.returned (.int .i64 r.2)) w' := fun w' r hr h => by
    subst hr
    refine hR _ _ ?_
    unfold Disk.rename; rw [if_pos h0]; exact ⟨rfl, h⟩
  have hnl := names_few hk
  have hpe := hk.pend
  generalize (begins σ).1 = τ at *
  obtain ⟨on, cn, os, cs, om, cm, fb, h, H1⟩ := H1.in
  refine (Name_calls w1 a).mono ?_
  rintro _ w1 ⟨rfl, rfl⟩
  refine ⟨_, rfl, fun hr => hR' _ (τ, 11) (by rw [hr]; rfl) ⟨lab1, H1.at, s1⟩, fun hra => ?_⟩
  refine (Name_calls w1 b).mono ?_
  rintro _ w1 ⟨rfl, rfl⟩
  refine ⟨_, rfl, fun hr => hR' _ (τ, 11) (by rw [hr, Bool.and_false]; rfl) ⟨lab1, H1.at, s1⟩, fun hrb => ?_⟩
  simp only [add_at, Nat.zero_add]
  refine ⟨_, _, _, H1.B.blk.rd1 rfl, ?_⟩
  refine (find_calls (k := cn) H1.R.names (by omega) a).mono ?_
  rintro _ w1 ⟨rfl, i, rfl, hF⟩
  refine ⟨_, rfl, fun hn => ?_, fun hn => ?_⟩
  · rcases hF with ⟨_, ha⟩ | ⟨j, x, rfl, _⟩
    · exact hR' _ (τ, 13) (by rw [hra, hrb]; simp only [ha]; rfl) ⟨lab1, H1.at, s1⟩
    · omega
  · rcases hF with ⟨rfl, _⟩ | ⟨j, x, rfl, hj, hx, ha, hxs⟩
    · omega
    rw [strB_neq]
    refine ⟨fun hne => ?_, fun he => ?_⟩
    · have hne' : a ≠ b := of_decide_eq_true hne
      rintro d18 w19 ⟨rfl, rfl⟩
      have X0 := Blk.new w1 116 #[.string ⟨#[]⟩, .string ⟨#[]⟩, .pointer none]
      refine ⟨X0.canSet (by simp) rfl, ?_⟩
      rintro _ rfl
      refine ⟨(X0.set 0 (.string a)).canSet (by simp) rfl, ?_⟩
      rintro _ rfl
      refine ⟨((X0.set 0 (.string a)).set 1 (.string b)).canSet (by simp) rfl, ?_⟩
      rintro _ rfl
      rintro _ rfl
      refine move_block H1 a b (G := fun w' => MoveTail d w1.heap.size w' R) ?_
      rintro w6 lab6 D H6 s6 X6 rfl
      have hb0 : ∀ a' b' : Nm, Chg.ren a b = .ren a' b' → b' ≠ ⟨#[]⟩ := by
        rintro _ _ h
        cases h
        rintro rfl
        exact absurd hrb (by decide +kernel)
      refine move_tail hγ H6 hnl (by omega) (.ren a b) hb0 rfl X6 fun w' hr => ?_
      refine hR' w' (Disk.does τ (.ren a b), 0) (by rw [hra, hrb]; simp only [ha, if_neg hne']; rfl) (hr.then (s1.trans (s6.mono (fun _ h => h.elim))))
    · have he' : a = b := Classical.not_not.1 (of_decide_eq_false he)
      exact hR' _ (τ, 0) (by rw [hra, hrb]; simp only [ha, if_pos he']; rfl) ⟨lab1, H1.at, s1⟩
theorem RRemove_calls (hγ : ∀ a b, γ a = γ b → a = b) (H : RAt w lab γ d σ) (hn : Nums σ) (hk : Ok (begins σ).1) (s : Nm) :
    Calls Try.prog moraineref1_Disk_Remove.n #[.pointer (some ⟨d, 0, none⟩), .string s] w (fun e w' => e = .returned (.int .i64 (Disk.remove σ s).2) ∧ RRes γ d w lab w' (Disk.remove σ s).1) := by
  refine calls_gen fun R hR => moraineref1_Disk_Remove.vc _ _ _ _ ?_
  unfold moraineref1_Disk_Remove.Vc
  refine (RAsked hγ H hn hk s).mono ?_
  rintro _ w1 ⟨lab1, on, cn, os, cs, om, cm, fb, h, H1, s1, o1, n1, rfl, hn1, ho⟩
  refine ⟨_, _, rfl, fun h0 => hR _ _ ?_, fun h0 => ?_⟩
  · unfold Disk.remove
    rw [onFile_bad σ s _ hn1 h0]
    exact ⟨rfl, lab1, H1.at, s1⟩
  · obtain ⟨hf0, hon⟩ := onFile_good σ s (fun d _ => (Disk.does d (.rem s), (0 : Int))) hn1 h0
    have hnl := names_few hk
    have hpe := hk.pend
    have hct := begins_count hn
    have hR' : ∀ w', RRes γ d w lab w' (Disk.does (begins σ).1 (.rem s)) → R (.returned (.int .i64 0)) w' := fun w' h => by
      refine hR _ _ ?_
      unfold Disk.remove
      rw [hon]
      exact ⟨rfl, h⟩
    generalize (begins σ).1 = τ at *
    simp only [add_at, Nat.zero_add]
    rintro d18 w19 ⟨rfl, rfl⟩
    have X0 := Blk.new w1 116 #[.string ⟨#[]⟩, .string ⟨#[]⟩, .pointer none]
    refine ⟨X0.canSet (by simp) rfl, ?_⟩
    rintro _ rfl
    refine ⟨(X0.set 0 (.string s)).canSet (by simp) rfl, ?_⟩
    rintro _ rfl
    refine ⟨((X0.set 0 (.string s)).set 1 (.string ⟨#[]⟩)).canSet (by simp) rfl, ?_⟩
    rintro _ rfl
    rintro _ rfl
    refine move_block H1 s ⟨#[]⟩ (G := fun w' => MoveTail d w1.heap.size w' R) ?_
    rintro w6 lab6 D H6 s6 X6 rfl
    exact move_tail hγ H6 hnl (by omega) (.rem s) (fun _ _ h => by cases h) rfl X6 fun w' hr => hR' w' (hr.then (s1.trans (s6.mono (fun _ h => h.elim))))
end
end Go.Proofs.Ytkekehngillblaa
end

section
set_option linter.unusedVariables false
set_option linter.unusedSimpArgs false
namespace Go.Proofs.Ytkekehngillblaa
open Go Go.Vcg Go.Disk
section
variable {C : Type} {w w' : World} {lab lab' : Nat → C} {c : C} {γ : RC → C} {d : Nat} {σ τ : Dk}
variable {on os om : Option Addr} {cn cs cm : Nat} {fb : Nat → Nat} {h : Int}
theorem nmC_congr {fb fb' : Nat → Nat} {l : List (Nm × Nat)} (h : ∀ x ∈ l, fb' x.2 = fb x.2) : nmC fb' l = nmC fb l := by
  induction l with
  | nil => rfl
  | cons x r ih =>
    show [.string x.1, fileV fb' x.2] ++ nmC fb' r = [.string x.1, fileV fb x.2] ++ nmC fb r
    rw [ih (fun y hy => h y (List.mem_cons_of_mem _ hy))]
    simp only [fileV, h x (List.mem_cons_self ..)]

theorem RCreate_calls (hγ : ∀ a b, γ a = γ b → a = b) (H : RAt w lab γ d σ) (hn : Nums σ) (hk : Ok (begins σ).1) (s : Nm) :
    Calls Try.prog moraineref1_Disk_Create.n #[.pointer (some ⟨d, 0, none⟩), .string s] w (fun e w' => e = .returned (.int .i64 (Disk.create σ s).2) ∧ RRes γ d w lab w' (Disk.create σ s).1) := by
  refine calls_gen fun R hR => moraineref1_Disk_Create.vc _ _ _ _ ?_
  unfold moraineref1_Disk_Create.Vc
  refine (call_calls hγ H hn).mono ?_
  rintro _ w1 ⟨rfl, lab1, H1, s1⟩
  have hct := begins_count hn
  refine ⟨_, rfl, fun h0 => hR _ _ (by unfold Disk.create; simp only [if_neg h0]; exact ⟨trivial, lab1, H1, s1⟩), fun h0 => ?_⟩
  have hR' : ∀ w' (r : Dk × Int), r = (if (named (begins σ).1 s).2 = 0 then ((begins σ).1, (12 : Int)) else if (named (begins σ).1 s).2 = 13 then
      if (begins σ).1.files = 1048576 then ((begins σ).1, 15)
      else ({ Disk.does (setF (begins σ).1 (begins σ).1.files fresh) (.made s (begins σ).1.files) with files := (begins σ).1.files + 1 }, 0)
    else ((begins σ).1, (named (begins σ).1 s).2)) → RRes γ d w lab w' r.1 → R (.returned (.int .i64 r.2)) w' := fun w' r hr h => by
    subst hr
    refine hR _ _ ?_
    unfold Disk.create; simp only [if_pos h0]; exact ⟨trivial, h⟩
  have hnl := names_few hk
  have hpe := hk.pend
  have hfl := hk.files
  generalize (begins σ).1 = τ at *
  obtain ⟨on, cn, os, cs, om, cm, fb, h, H1⟩ := H1.in
  refine (Name_calls w1 s).mono ?_
  rintro _ w1 ⟨rfl, rfl⟩
  refine ⟨_, rfl, fun hr => hR' _ (τ, 11) (by rw [named_bad hr]; rfl) ⟨lab1, H1.at, s1⟩, fun hra => ?_⟩
  simp only [add_at, Nat.zero_add]
  refine ⟨_, _, _, H1.B.blk.rd1 rfl, ?_⟩
  refine (find_calls (k := cn) H1.R.names (by omega) s).mono ?_
  rintro _ w1 ⟨rfl, i, rfl, hF⟩
  refine ⟨_, rfl, fun hn => ?_, fun hn => ?_⟩
  · rcases hF with ⟨rfl, _⟩ | ⟨j, x, rfl, hj, hx, ha, hxs⟩
    · omega
    exact hR' _ (τ, 12) (by rw [named_yes hra ha]; rfl) ⟨lab1, H1.at, s1⟩
  have ha : assoc s τ.names = none := by
    rcases hF with ⟨_, ha⟩ | ⟨j, x, rfl, _⟩
    · exact ha
    · omega
  rw [named_no hra ha, if_neg (by decide), if_pos rfl] at hR'
  refine ⟨_, H1.B.blk.rd1 rfl, fun hfull => hR' _ (τ, 15) (by rw [if_pos (by omega)]) ⟨lab1, H1.at, s1⟩, fun hfull => ⟨_, H1.B.blk.rd1 rfl, ?_⟩⟩
  rw [if_neg (by omega)] at hR'
  rintro d16 w2 ⟨rfl, rfl⟩
  have BF := CB.new w1 lab1 (γ (.file τ.files)) tRFile #[.int .i64 (τ.files : Int), .slice none 0 0, .slice none 0 0, .slice none 0 0]
  have sN : Stp NoC w1 lab1 (w1.alloc (.cells #[.int .i64 (τ.files : Int), .slice none 0 0, .slice none 0 0, .slice none 0 0] tRFile)) (ext lab1 w1.heap.size (γ (.file τ.files))) := Stp.alloc _ _ _ _ _
  have H2 := H1.stp sN (fun _ h => h)
  have s02 := s1.trans (sN.mono (T := SR γ) (fun c h => h.elim))
  refine ⟨_, H2.B.blk.rd1 rfl, H2.B.blk.canSet (by simp [rdiskA]) rfl, ?_⟩
  generalize w1.alloc (.cells #[.int .i64 (τ.files : Int), .slice none 0 0, .slice none 0 0, .slice none 0 0] tRFile) = w2 at *
  generalize ext lab1 w1.heap.size (γ (.file τ.files)) = lab2 at *
  generalize w1.heap.size = D at *
  clear H1 s1 sN
  rintro _ rfl
  have ew : IntKind.wrap .i64 ((τ.files : Int) + 1) = ((τ.files + 1 : Nat) : Int) := by rw [wrap_i64_small (by omega) (by omega)]; omega
  rw [ew]
  have nd : ∀ {x : RC}, x ≠ .disk → ¬ γ x = γ .disk := fun h e => h (hγ _ _ e)
  have nm : ∀ {x : RC}, x ≠ .moves → ¬ γ x = γ .moves := fun h e => h (hγ _ _ e)
  obtain ⟨B3, t3⟩ := rset H2.B (Stp.refl (· = γ .disk) w2 lab2) rfl 4 (.int .i64 ((τ.files + 1 : Nat) : Int)) (cs' := rdiskA τ.cap on τ.names.length cn os τ.sure.length cs om τ.pend.length cm (τ.files + 1) τ.count τ.fail h τ.down) rfl
  rintro _ rfl
  generalize w2.setCell ⟨d, 4, none⟩ (.int .i64 ((τ.files + 1 : Nat) : Int)) = w3 at *
  have sD : Stp NoC w3 lab2 w3.drew lab2 := Stp.drew _ _ _
  replace B3 := B3.stp sD (fun h => h)
  replace t3 := t3.trans (sD.mono (T := (· = γ .disk)) (fun _ h => h.elim))
  generalize w3.drew = w4 at *
  let fb2 : Nat → Nat := fun k => if k = τ.files then D else fb k
  have efb : ∀ k, k < τ.files → fb2 k = fb k := fun k hk => if_neg (by omega)
  have hD : fileV fb2 τ.files = .pointer (some ⟨D, 0, none⟩) := by simp [fileV, fb2]
  have H4 : RIn w4 lab2 γ d { setF τ τ.files fresh with files := τ.files + 1 } on cn os cs om cm fb2 h := by
    refine ⟨H2.halt, B3, ⟨H2.R.ncap, ?_, ?_, ?_, fun k hk2 => ?_⟩⟩
    · show CRow w4 lab2 (γ .now) on (nmC fb2 τ.names)
      rw [nmC_congr (fun x hx => efb _ (hk.names.files x hx))]
      exact H2.R.names.stp t3 (nd (by simp))
    · show CRow w4 lab2 (γ .froz) os (nmC fb2 τ.sure)
      rw [nmC_congr (fun x hx => efb _ (hk.sure.files x hx))]
      exact H2.R.sure.stp t3 (nd (by simp))
    · show COw w4 lab2 (γ .moves) tMv 3 om τ.pend.length cm (cells3 (τ.pend.map (mvT fb2)))
      have e : τ.pend.map (mvT fb2) = τ.pend.map (mvT fb) := List.map_congr_left (fun x hx => by
        cases x with
        | made n f => simp only [mvT, fileV, efb _ (chgs_made hk.chgs n f hx)]
        | ren a b => rfl
        | rem n => rfl)
      rw [e]
      exact H2.R.pend.stp t3 (nd (by simp))
    · show RFAt w4 lab2 γ k (fb2 k) (if k = τ.files then fresh else τ.fs k)
      by_cases hkf : k = τ.files
      · subst hkf
        rw [if_pos rfl, show fb2 τ.files = D from if_pos rfl]
        exact ⟨none, 0, none, 0, none, 0, [], BF.stp t3 (nd (by simp)), Nat.le_refl _, CBy.nil _ _ _ _, CBy.nil _ _ _ _, COw.nil _ _ _ _ _, Pgs.nil⟩
      · have hk2' : k < τ.files + 1 := hk2
        rw [if_neg hkf, efb k (by omega)]
        exact (H2.R.files k (by omega)).stp t3 (nd (by simp)) (nd (by simp)) (nd (by simp))
  replace s02 := s02.trans (t3.mono (T := SR γ) (fun c e => e ▸ SR.of (by simp)))
  clear H2 t3 sD BF
  -- the name's entry
  obtain ⟨i, hi, hz, hs, hb⟩ := info_of info_nm
  refine ⟨_, _, _, B3.blk.rd1 rfl, _, _, _, B3.blk.rd1 rfl, _, _, _, B3.blk.rd1 rfl, _, run_slice3 und_slNm hi w4 H4.R.ncap, _, _, _, rfl, ?_⟩
  rintro d34 w5 ⟨rfl, rfl⟩
  have X5 := Blk.new w4 tNm #[.string s, fileV fb2 τ.files]
  have s5 : Stp NoC w4 lab2 (w4.alloc (.cells #[.string s, fileV fb2 τ.files] tNm)) (ext lab2 w4.heap.size (γ .froz)) := Stp.alloc _ _ _ _ _
  have H5 := H4.stp s5 (fun _ h => h)
  rw [hD] at X5 s5 H5
  change Sem.run Try.prog _ (w4.alloc (.cells #[.string s, .pointer (some ⟨D, 0, none⟩)] tNm)) = _ ∧ _
  replace s02 := s02.trans (s5.mono (T := SR γ) (fun c h => h.elim))
  clear s5 B3
  generalize w4.alloc (.cells #[.string s, .pointer (some ⟨D, 0, none⟩)] tNm) = w5 at *
  generalize ext lab2 w4.heap.size (γ .froz) = lab5 at *
  rw [← hD] at X5
  refine ⟨run_slice3 und_slNm hi w5 H4.R.ncap, H5.B.blk.rd1 rfl, H5.B.blk.rd1 rfl, H5.B.blk.rd1 rfl, ?_⟩
  obtain ⟨o6, k6, w6, hr6, F6⟩ := append_full (tx := tSlNm) (ty := tSlNm) (m := 0) H5.R.names und_slNm hi hz hs rfl (by omega) (nmC_len fb2 τ.names) (src_one und_slNm X5 rfl (by simp [fileV]; exact ⟨rfl, rfl⟩)) (by simp only [maxLen]; omega) (by rw [hb]; omega)
  refine ⟨_, w6, hr6, _, _, _, rfl, ?_⟩
  have hk6 := F6.own.cap.1
  obtain ⟨C6, s6⟩ := F6.done (lab := lab5) (γ .now)
  have H6 := H5.stp s6 (fun _ h => h)
  replace C6 := C6.row
  replace s02 := s02.trans (s6.mono (T := SR γ) (fun c h => h.elim))
  generalize ext lab5 w5.heap.size (γ .now) = lab6 at *
  clear s6 F6 H5 X5
  have hon : (Chg.made s τ.files).on τ.names = τ.names ++ [(s, τ.files)] := by
    show put s τ.files τ.names = _
    unfold put
    rw [without_none ha]
  have hrow : nmC fb2 (τ.names ++ [(s, τ.files)]) = nmC fb2 τ.names ++ (#[.string s, fileV fb2 τ.files] : Array Value).toList := by rw [nmC_append]; rfl
  replace C6 : CRow w6 lab6 (γ .now) o6 (nmC fb2 (τ.names ++ [(s, τ.files)])) := by rw [hrow]; exact C6
  refine ⟨H6.B.blk.canSet (by simp [rdiskA]) rfl, ?_⟩
  rintro _ rfl
  obtain ⟨B7, t7⟩ := rset H6.B (Stp.refl (· = γ .disk) w6 lab6) rfl 1 (.slice o6 (τ.names.length + (0 + 1)) k6) (cs' := rdiskA τ.cap o6 (τ.names.length + 1) k6 os τ.sure.length cs om τ.pend.length cm (τ.files + 1) τ.count τ.fail h τ.down) rfl
  have P7 := H6.R.pend.stp t7 (nd (by simp))
  replace C6 := C6.stp t7 (nd (by simp))
  replace t7 := t7.mono (T := TM γ) (fun c h => .inl h)
  generalize w6.setCell ⟨d, 1, none⟩ (.slice o6 (τ.names.length + (0 + 1)) k6) = w7 at *
  refine ⟨_, _, _, B7.blk.rd1 rfl, ?_⟩
  rintro d45 w8 ⟨rfl, rfl⟩
  have Y := Blk.new w7 116 #[.string s, .string ⟨#[]⟩, fileV fb2 τ.files]
  have s8 : Stp NoC w7 lab6 (w7.alloc (.cells #[.string s, .string ⟨#[]⟩, fileV fb2 τ.files] 116)) (ext lab6 w7.heap.size (γ .froz)) := Stp.alloc _ _ _ _ _
  replace B7 := B7.stp s8 (fun h => h)
  replace P7 := P7.stp s8 (fun h => h)
  replace C6 := C6.stp s8 (fun h => h)
  replace t7 := t7.trans (s8.mono (T := TM γ) (fun _ h => h.elim))
  rw [hD] at Y B7 P7 C6 t7
  change ∃ v w46, Sem.run Try.prog _ (w7.alloc (.cells #[.string s, .string ⟨#[]⟩, .pointer (some ⟨D, 0, none⟩)] 116)) = _ ∧ _
  clear s8
  generalize w7.alloc (.cells #[.string s, .string ⟨#[]⟩, .pointer (some ⟨D, 0, none⟩)] 116) = w8 at *
  generalize ext lab6 w7.heap.size (γ .froz) = lab8 at *
  have hpp : τ.pend.length < 2 ^ 40 := by omega
  obtain ⟨o9, k9, w9, hr9, P9, s9⟩ := push_mv P7 (t := (.string s, .string ⟨#[]⟩, .pointer (some ⟨D, 0, none⟩))) Y ⟨rfl, rfl, rfl⟩ hpp
  refine ⟨_, w9, hr9, _, _, _, rfl, ?_⟩
  replace B7 := B7.stp s9 (nm (by simp))
  replace C6 := C6.stp s9 (nm (by simp))
  replace t7 := t7.trans (s9.mono (T := TM γ) (fun c h => .inr h))
  generalize ext lab8 w8.heap.size (γ .moves) = lab9 at *
  refine ⟨B7.blk.canSet (by simp [rdiskA]) rfl, ?_⟩
  rintro _ rfl
  obtain ⟨B10, t10⟩ := rset B7 (Stp.refl (· = γ .disk) w9 lab9) rfl 3 (.slice o9 (τ.pend.length + 1) k9) (cs' := rdiskA τ.cap o6 (τ.names.length + 1) k6 os τ.sure.length cs o9 (τ.pend.length + 1) k9 (τ.files + 1) τ.count τ.fail h τ.down) rfl
  replace P9 := P9.stp t10 (nd (by simp))
  replace C6 := C6.stp t10 (nd (by simp))
  replace t7 := t7.trans (t10.mono (T := TM γ) (fun c h => .inl h))
  have hlen : ((Chg.made s τ.files).on τ.names).length = τ.names.length + 1 := by rw [hon]; simp
  refine hR' _ _ rfl (RRes.then s02 ⟨lab9, (H6.moved hγ (.made s τ.files) t7 (on' := o6) (cn' := k6) (om' := o9) (cm' := k9) ?_ ?_ ?_ ?_).at, t7.mono TM.sr⟩)
  · show CB _ lab9 (γ .disk) d tRDisk (rdiskA τ.cap o6 ((Chg.made s τ.files).on τ.names).length k6 os τ.sure.length cs o9 (τ.pend.length + 1) k9 (τ.files + 1) τ.count τ.fail h τ.down)
    rw [hlen]; exact B10
  · show CRow _ lab9 (γ .now) o6 (nmC fb2 ((Chg.made s τ.files).on τ.names))
    rw [hon]; exact C6
  · show ((Chg.made s τ.files).on τ.names).length ≤ k6
    rw [hlen]; exact hk6
  · show COw _ lab9 (γ .moves) tMv 3 o9 (τ.pend.length + 1) k9 (cells3 ((τ.pend ++ [Chg.made s τ.files]).map (mvT fb2)))
    rw [List.map_append, List.map_cons, List.map_nil]
    show COw _ lab9 (γ .moves) tMv 3 o9 (τ.pend.length + 1) k9 (cells3 (τ.pend.map (mvT fb2) ++ [(.string s, .string ⟨#[]⟩, fileV fb2 τ.files)]))
    rw [hD]; exact P9
end
end Go.Proofs.Ytkekehngillblaa
end

section
set_option linter.unusedVariables false
set_option linter.unusedSimpArgs false
namespace Go.Proofs.Ytkekehngillblaa
open Go Go.Vcg Go.Disk
section
variable {C : Type} {w w' : World} {lab lab' : Nat → C} {c : C} {γ : RC → C} {d : Nat} {σ τ : Dk}

theorem Rsurvives_calls {n B : Nat} {f : Fl} (FA : RFAt w lab γ n B f) (hk : PtsOk f.sure f.pend f.bytes) (hs : f.sure.length ≤ most) (hp : f.pend.length < 2 ^ 40) (L : Int) (hL : 0 ≤ L ∧ L < 9223372036854775808) :
    Calls Try.prog moraineref1_survives.n #[.pointer (some ⟨B, 0, none⟩), .int .i64 L] w (fun e w' => ∃ o k, e = .returned (.slice o (survive f.sure f.pend L).length k) ∧ Fresh w w' tU8 1 o (survive f.sure f.pend L).length k ((survive f.sure f.pend L).map bV) ∧ (survive f.sure f.pend L).length ≤ most) := by
  obtain ⟨o1, c1, o2, c2, o3, c3, ts, FC⟩ := FA
  simp only [most] at hs
  refine calls_gen fun R hR => moraineref1_survives.vc _ _ _ _ ?_
  unfold moraineref1_survives.Vc
  simp only [add_at, Nat.zero_add]
  refine ⟨_, _, _, FC.cells.blk.rd1 rfl, ?_⟩
  obtain ⟨o5, k5, w5, hr5, F5⟩ := copy_bytes' (k2 := c2) (ty := tSlU8) (Mod.refl w) FC.sure.rd (by omega)
  refine ⟨_, w5, hr5, _, _, _, rfl, ?_⟩
  refine ⟨fun left o l k i w' => ∃ (j : Nat) (bs : List UInt8), i = (j : Int) ∧ j ≤ f.pend.length ∧ l = bs.length ∧ Fresh w w' tU8 1 o l k (bs.map bV) ∧ (0 ≤ left ∧ left ≤ L) ∧ survive bs (f.pend.drop j) left = survive f.sure f.pend L ∧ PtsOk bs (f.pend.drop j) f.bytes ∧ bs.length ≤ most,
    fun _ _ _ _ i _ => ((f.pend.length : Int) - i).toNat, ⟨0, f.sure, rfl, Nat.zero_le _, rfl, F5, ⟨hL.1, Int.le_refl _⟩, rfl, hk, hs⟩, ?_⟩
  clear F5 hr5
  rintro left o _ k _ _ w6 ⟨j, bs, rfl, hj, rfl, F, hleft, hsv, hok, hbs⟩
  simp only [most] at hbs
  have fin : ∀ {w' : World} {o' : Option Addr} {k' : Nat} {bs' : List UInt8}, Fresh w w' tU8 1 o' bs'.length k' (bs'.map bV) → bs' = survive f.sure f.pend L → bs'.length ≤ most → R (.returned (.slice o' bs'.length k')) w' := by
    intro w' o' k' bs' F' he hm
    subst he
    exact hR _ _ ⟨o', k', rfl, F', hm⟩
  have rest : ∀ {w' : World}, Vcg.Mod NoB w w' → RFCells w' (ext lab w.heap.size (γ .froz)) γ n B o1 c1 o2 c2 o3 c3 ts f := fun M =>
    have s : Stp NoC w lab _ (ext lab w.heap.size (γ .froz)) := Stp.of_nob M _
    ⟨FC.cells.stp s (fun h => h), FC.cap, FC.bytes.stp s (fun h => h), FC.sure.stp s (fun h => h), FC.pend.stp s (fun h => h), FC.pgs.stp s (fun h => h)⟩
  have FC6 := rest F.mod
  refine ⟨_, _, _, FC6.cells.blk.rd1 rfl, fun hlt => ?_, fun hge => ?_⟩
  · have hjl : j < f.pend.length := by omega
    have hdrop : f.pend.drop j = f.pend[j] :: f.pend.drop (j + 1) := List.drop_eq_getElem_cons hjl
    rw [hdrop] at hsv hok
    obtain ⟨t, ht, hPg⟩ := FC6.pgs.at_ j _ (List.getElem?_eq_getElem hjl)
    obtain ⟨h1, h2, h3⟩ := cells3_at ts j t ht
    obtain ⟨b, g, rfl, _, _, hc1⟩ := FC6.pend.row _ _ h1
    obtain ⟨b', g', hb', _, _, hc2⟩ := FC6.pend.row _ _ h2
    cases hb'
    obtain ⟨b', g', hb', _, _, hc3⟩ := FC6.pend.row _ _ h3
    cases hb'
    have ew : IntKind.wrap .i64 ((j : Int) + 1) = ((j + 1 : Nat) : Int) := by rw [wrap_i64_small (by omega) (by omega)]; omega
    rw [ew]
    generalize hpj : f.pend[j] = p at *
    -- the three cells, copied into a block
    have cp : ∀ (v1 v2 v3 : Value), Vcg.Mod NoB w6 ((((w6.alloc (.cells #[.int .i64 0, .slice none 0 0, .int .i64 0] 123)).setCell ⟨w6.heap.size, 0, none⟩ v1).setCell ⟨w6.heap.size, 1, none⟩ v2).setCell ⟨w6.heap.size, 2, none⟩ v3) ∧
        Blk ((((w6.alloc (.cells #[.int .i64 0, .slice none 0 0, .int .i64 0] 123)).setCell ⟨w6.heap.size, 0, none⟩ v1).setCell ⟨w6.heap.size, 1, none⟩ v2).setCell ⟨w6.heap.size, 2, none⟩ v3) w6.heap.size tCg #[v1, v2, v3] := by
      intro v1 v2 v3
      have X0 := Blk.new w6 123 #[.int .i64 0, .slice none 0 0, .int .i64 0]
      have M0 : Vcg.Mod NoB w6 (w6.alloc (.cells #[.int .i64 0, .slice none 0 0, .int .i64 0] 123)) := Mod.alloc _ _
      have M1 := M0.step_set (a := ⟨w6.heap.size, 0, none⟩) (v := v1) (fun h => (Nat.lt_irrefl _ h).elim)
      have M2 := M1.step_set (a := ⟨w6.heap.size, 1, none⟩) (v := v2) (fun h => (Nat.lt_irrefl _ h).elim)
      have M3 := M2.step_set (a := ⟨w6.heap.size, 2, none⟩) (v := v3) (fun h => (Nat.lt_irrefl _ h).elim)
      exact ⟨M3, ((X0.set 0 v1).set 1 v2).set 2 v3⟩
    have X0 := Blk.new w6 tCg #[.int .i64 0, .slice none 0 0, .int .i64 0]
    have cs := fun (v : Value) (hv : v.oneCell' = true) => X0.canSet (i := 0) (v := v) (by simp) hv
    refine ⟨_, _, _, FC6.cells.blk.rd1 rfl, _, rfl, by omega, ?_⟩
    simp only [add_at, Int.toNat_natCast]
    cases p with
    | cut m =>
      have ht' : t = (.int .i64 (-1), .slice none 0 0, .int .i64 (m : Int)) := hPg
      subst ht'
      refine ⟨_, _, _, _, _, hc1, by rw [Nat.add_assoc]; exact hc2, by rw [Nat.add_assoc]; exact hc3, ?_⟩
      rintro d27 w28 ⟨rfl, rfl⟩
      simp only [add_at, Nat.zero_add]
      refine ⟨X0.canSet (by simp) rfl, ?_⟩
      rintro _ rfl
      refine ⟨(X0.set 0 (.int .i64 (-1))).canSet (by simp) rfl, ?_⟩
      rintro _ rfl
      refine ⟨((X0.set 0 (.int .i64 (-1))).set 1 (.slice none 0 0)).canSet (by simp) rfl, ?_⟩
      rintro _ rfl
      obtain ⟨M31, X31⟩ := cp (.int .i64 (-1)) (.slice none 0 0) (.int .i64 (m : Int))
      generalize ((((w6.alloc (.cells #[.int .i64 0, .slice none 0 0, .int .i64 0] 123)).setCell ⟨w6.heap.size, 0, none⟩ (.int .i64 (-1))).setCell ⟨w6.heap.size, 1, none⟩ (.slice none 0 0)).setCell ⟨w6.heap.size, 2, none⟩ (.int .i64 (m : Int))) = w31 at *
      have F31 := F.mod' M31
      refine ⟨_, X31.rd1 rfl, fun _ => ⟨fun h1 => ?_, fun h1 => ⟨_, X31.rd1 rfl, ?_⟩⟩, fun h => absurd h (by decide)⟩
      · have : survive bs (.cut m :: f.pend.drop (j + 1)) left = bs := by rw [survive, if_pos h1]
        exact fin F31 (this.symm.trans hsv) (by simp only [most]; exact hbs)
      · have hm : m ≤ bs.length := hok.1
        have hcap := F31.own.cap.1
        refine ⟨by omega, ?_⟩
        rw [Int.toNat_natCast]
        have hlm : (bs.take m).length = m := by rw [List.length_take]; omega
        obtain ⟨o35, k35, w35, hr35, F35⟩ := copy_bytes' (k2 := k) (ty := tSlU8) F31.mod (F31.own.bytes.take m) (by omega)
        rw [hlm] at hr35
        refine ⟨_, w35, hr35, _, _, _, rfl, ⟨j + 1, bs.take m, rfl, hjl, hlm.symm, by rw [hlm] at F35; exact F35, ?_, ?_, hok.2, by rw [hlm]; simp only [most]; omega⟩, by omega⟩
        · rw [wrap_i64_small (by omega) (by omega)]; omega
        · rw [survive, if_neg h1] at hsv
          rw [wrap_i64_small (by omega) (by omega)]; exact hsv
    | wr a b =>
      obtain ⟨oo, kk, ht', hbk, hby⟩ := hPg
      subst ht'
      refine ⟨_, _, _, _, _, hc1, by rw [Nat.add_assoc]; exact hc2, by rw [Nat.add_assoc]; exact hc3, ?_⟩
      rintro d27 w28 ⟨rfl, rfl⟩
      simp only [add_at, Nat.zero_add]
      refine ⟨X0.canSet (by simp) rfl, ?_⟩
      rintro _ rfl
      refine ⟨(X0.set 0 (.int .i64 (a : Int))).canSet (by simp) rfl, ?_⟩
      rintro _ rfl
      refine ⟨((X0.set 0 (.int .i64 (a : Int))).set 1 (.slice oo b.length kk)).canSet (by simp) rfl, ?_⟩
      rintro _ rfl
      obtain ⟨M31, X31⟩ := cp (.int .i64 (a : Int)) (.slice oo b.length kk) (.int .i64 0)
      generalize ((((w6.alloc (.cells #[.int .i64 0, .slice none 0 0, .int .i64 0] 123)).setCell ⟨w6.heap.size, 0, none⟩ (.int .i64 (a : Int))).setCell ⟨w6.heap.size, 1, none⟩ (.slice oo b.length kk)).setCell ⟨w6.heap.size, 2, none⟩ (.int .i64 0)) = w31 at *
      have F31 := F.mod' M31
      refine ⟨_, X31.rd1 rfl, fun h => absurd h (by omega), fun _ => ⟨_, _, _, X31.rd1 rfl, ?_⟩⟩
      rintro _ rfl
      have MD := Mod.drew (S := NoB) w31
      have X42 := X31.mod' MD
      have F42 := F31.mod' MD
      have hby42 : RdB w31.drew oo b := (hby.rd.mod' M31).mod' MD
      generalize w31.drew = w42 at *
      obtain ⟨ha, hlay, hrest⟩ := hok
      simp only [most] at hlay
      rw [length_lay ha] at hlay
      obtain ⟨m, hm⟩ : ∃ m : Nat, min ((b.length : Nat) : Int) left = (m : Int) := ⟨(min ((b.length : Nat) : Int) left).toNat, by omega⟩
      rw [hm, Int.toNat_natCast]
      refine ⟨_, X42.rd1 rfl, _, _, _, X42.rd1 rfl, by omega, ?_⟩
      have hlm : (b.take m).length = m := by rw [List.length_take]; omega
      have hcl := lay_calls (k := k) (k2 := kk) F42.own.bytes (hby42.take m) a ha (by omega) (by omega)
      rw [hlm] at hcl
      refine hcl.mono ?_
      rintro _ w48 ⟨o49, k49, rfl, F48⟩
      have X48 := X42.mod' F48.mod
      have F48' := F48.from' F42.mod
      have hll : (lay bs a (b.take m)).length ≤ 67108864 := by rw [length_lay ha, hlm]; omega
      refine ⟨_, _, _, rfl, _, _, _, X48.rd1 rfl, fun hlt2 => ?_, fun hge2 => ?_⟩
      · have : survive bs (.wr a b :: f.pend.drop (j + 1)) left = lay bs a (b.take left.toNat) := by rw [survive, if_pos (by omega)]
        refine fin F48' ?_ hll
        rw [← hsv, this, show left.toNat = m by omega]
      · have hmb : m = b.length := by omega
        have : survive bs (.wr a b :: f.pend.drop (j + 1)) left = survive (lay bs a b) (f.pend.drop (j + 1)) (left - b.length) := by rw [survive, if_neg (by omega)]
        rw [this] at hsv
        have htb : b.take m = b := List.take_of_length_le (by omega)
        rw [htb] at F48' hll ⊢
        refine ⟨⟨j + 1, lay bs a b, rfl, hjl, rfl, F48', ?_, ?_, hrest, hll⟩, by omega⟩
        · rw [wrap_i64_small (by omega) (by omega)]; omega
        · rw [wrap_i64_small (by omega) (by omega), hmb]; exact hsv
  · obtain rfl : j = f.pend.length := by omega
    rw [List.drop_length] at hsv
    exact fin F hsv hbs
end
end Go.Proofs.Ytkekehngillblaa
end
