/- The disk's laws: what lies beside; the known answer. -/
import Derived.Test.YtkekehngillblaaDQ1
import Derived.Test.YtkekehngillblaaXStr
set_option linter.unusedVariables false
set_option linter.unusedSimpArgs false
namespace Go.Proofs.Ytkekehngillblaa
open Go Go.Vcg Go.Disk

theorem cell_mod {S : Nat → Prop} {w w' : World} (m : Vcg.Mod S w w') {b i : Nat} (hb : b < w.heap.size) (hs : ¬ S b) : w'.cell? ⟨b, i, none⟩ = w.cell? ⟨b, i, none⟩ :=
  World.cell?_of_block (m.block b hb hs)
/-- Colours of a law: the disk's, what was there ahead, what the law itself makes. -/
inductive LC where
  | d (x : DC) | out | tmp
theorem LC.inj : ∀ a b, LC.d a = LC.d b → a = b := fun a b h => by cases h; rfl
/-- A disk in a law, behind at most n changing calls. -/
structure LD (w0 w : World) (lab : Nat → LC) (d : Nat) (σ : Dk) (n : Nat) : Prop where
  M : Stp (· ≠ LC.out) w0 (fun _ => LC.out) w lab
  D : DAt w lab LC.d d σ
  ok : Ok σ
  cnt : σ.count ≤ n
variable {w0 w w' : World} {lab : Nat → LC} {d : Nat} {σ σ' : Dk} {n : Nat}
theorem LD.nob (h : LD w0 w lab d σ n) : Vcg.Mod NoB w0 w := h.M.nob (fun k _ hk => hk rfl)
theorem out_sd : ¬ SD LC.d LC.out := by rintro ⟨x, _, h⟩; cases h
theorem tmp_sd : ¬ SD LC.d LC.tmp := by rintro ⟨x, _, h⟩; cases h
theorem LD.bytes (h : LD w0 w lab d σ n) {o : Option Addr} {bs : List UInt8} (hr : RdB w0 o bs) : CBy w lab .out o bs :=
  (CBy.mk (w := w0) (lab := fun _ => LC.out) hr (fun _ _ _ => rfl)).stp h.M (fun h => h rfl)
theorem LD.then (h : LD w0 w lab d σ n) (hr : DRes LC.d d w lab w' σ') (hok : Ok σ') {m : Nat} (hc : σ'.count ≤ m) : ∃ lab', LD w0 w' lab' d σ' m := by
  obtain ⟨lab', D, s⟩ := hr
  exact ⟨lab', h.M.trans (s.mono (fun c ⟨x, _, e⟩ => by rw [e]; simp)), D, hok, hc⟩
theorem LD.step (h : LD w0 w lab d σ n) {lab' : Nat → LC} (s : Stp NoC w lab w' lab') : LD w0 w' lab' d σ n :=
  ⟨h.M.trans (s.mono (fun _ h => h.elim)), h.D.stp s (fun _ h => h), h.ok, h.cnt⟩
theorem LD.nums (h : LD w0 w lab d σ n) (hn : n < 2 ^ 39) : Nums σ := ⟨Nat.lt_of_le_of_lt h.cnt hn, h.ok.fail, h.ok.halt⟩

section
variable (h : LD w0 w lab d σ n) (hn : n < 2 ^ 39)
include h hn
theorem LD.create (s : Nm) : Calls Try.prog disk_Disk_Create.n #[.pointer (some ⟨d, 0, none⟩), .string s] w (fun e w' => e = .returned (.int .i64 (Disk.create σ s).2) ∧ ∃ lab', LD w0 w' lab' d (Disk.create σ s).1 (n + 1)) :=
  (Create_calls LC.inj h.D (h.nums hn) (begins_ok h.ok) s).mono fun e w' ⟨he, hr⟩ => ⟨he, h.then hr (create_ok h.ok s) (by rw [create_count]; have := h.cnt; omega)⟩
theorem LD.append (s : Nm) {o : Option Addr} {c : Nat} {bs : List UInt8} {cb : LC} (hb : CBy w lab cb o bs) (hc : ¬ SD LC.d cb) (hl : bs.length ≤ 2 ^ 60) : Calls Try.prog disk_Disk_Append.n #[.pointer (some ⟨d, 0, none⟩), .string s, .slice o bs.length c] w (fun e w' => e = .returned (.int .i64 (Disk.append σ s bs).2) ∧ ∃ lab', LD w0 w' lab' d (Disk.append σ s bs).1 (n + 1)) :=
  (Append_calls LC.inj h.D (h.nums hn) (begins_ok h.ok) s hb hc hl).mono fun e w' ⟨he, hr⟩ => ⟨he, h.then hr (append_ok h.ok s bs) (by rw [append_count]; have := h.cnt; omega)⟩
theorem LD.sync (s : Nm) : Calls Try.prog disk_Disk_Sync.n #[.pointer (some ⟨d, 0, none⟩), .string s] w (fun e w' => e = .returned (.int .i64 (Disk.sync σ s).2) ∧ ∃ lab', LD w0 w' lab' d (Disk.sync σ s).1 (n + 1)) :=
  (Sync_calls LC.inj h.D (h.nums hn) (begins_ok h.ok) s).mono fun e w' ⟨he, hr⟩ => ⟨he, h.then hr (sync_ok h.ok s) (by rw [sync_count]; have := h.cnt; omega)⟩
theorem LD.rename (a b : Nm) : Calls Try.prog disk_Disk_Rename.n #[.pointer (some ⟨d, 0, none⟩), .string a, .string b] w (fun e w' => e = .returned (.int .i64 (Disk.rename σ a b).2) ∧ ∃ lab', LD w0 w' lab' d (Disk.rename σ a b).1 (n + 1)) :=
  (Rename_calls LC.inj h.D (h.nums hn) (begins_ok h.ok) a b).mono fun e w' ⟨he, hr⟩ => ⟨he, h.then hr (rename_ok h.ok a b) (by rw [rename_count]; have := h.cnt; omega)⟩
theorem LD.syncDir : Calls Try.prog disk_Disk_SyncDir.n #[.pointer (some ⟨d, 0, none⟩)] w (fun e w' => e = .returned (.int .i64 (Disk.syncDir σ).2) ∧ ∃ lab', LD w0 w' lab' d (Disk.syncDir σ).1 (n + 1)) :=
  (SyncDir_calls LC.inj h.D (h.nums hn)).mono fun e w' ⟨he, hr⟩ => ⟨he, h.then hr (syncDir_ok h.ok) (by rw [syncDir_count]; have := h.cnt; omega)⟩
theorem LD.restart (k : Int) {o : Option Addr} {c : Nat} {is : List Int} {cb : LC} (hi : CInts w lab cb o is) (hc : ¬ SD LC.d cb) (hil : ∀ x ∈ is, x < 9223372036854775808) (hlen : is.length < 2 ^ 62) : Calls Try.prog disk_Disk_Restart.n #[.pointer (some ⟨d, 0, none⟩), .agg #[.int .i64 k, .slice o is.length c]] w (fun e w' => e = .returned (.tuple #[]) ∧ ∃ lab', LD w0 w' lab' d (Disk.restart σ k is) n) :=
  (Restart_calls LC.inj h.D h.ok (Nat.lt_of_le_of_lt h.cnt (by omega)) k hi hc hil hlen).mono fun e w' ⟨he, hr⟩ => ⟨he, h.then hr (restart_ok h.ok k is) h.cnt⟩
end
theorem LD.used (h : LD w0 w lab d σ n) : Calls Try.prog disk_Disk_Used.n #[.pointer (some ⟨d, 0, none⟩)] w (fun e w' => e = .returned (.int .i64 (Disk.used σ : Int)) ∧ ∃ lab', LD w0 w' lab' d σ n) :=
  (Used_calls h.D h.ok).mono fun e w' ⟨he, M⟩ => ⟨he, _, h.step (Stp.of_nob M LC.tmp)⟩
theorem LD.read (h : LD w0 w lab d σ n) (s : Nm) : Calls Try.prog disk_Disk_Read.n #[.pointer (some ⟨d, 0, none⟩), .string s] w (fun e w' => ∃ o k, e = .returned (.tuple #[.slice o (Disk.read σ s).1.length k, .int .i64 (Disk.read σ s).2]) ∧
      ∃ lab', LD w0 w' lab' d σ n ∧ COw w' lab' LC.tmp tU8 1 o (Disk.read σ s).1.length k ((Disk.read σ s).1.map bV)) :=
  (Read_calls h.D h.ok s LC.tmp).mono fun e w' ⟨o, k, he, lab', D, hc, s⟩ => ⟨o, k, he, lab', ⟨h.M.trans (s.mono (fun c ⟨x, _, e⟩ => by rw [e]; simp)), D, h.ok, h.cnt⟩, hc⟩
theorem LD.new (w0 w : World) (M : Vcg.Mod NoB w0 w) (cap : Int) (hc : ¬ (cap < 0 ∨ cap > 67108864)) : Calls Try.prog disk_New.n #[.int .i64 cap] w (fun e w' => ∃ d lab', e = .returned (.tuple #[.pointer (some ⟨d, 0, none⟩), .int .i64 0]) ∧ LD w0 w' lab' d (Disk.new cap) 0) := by
  have s0 : Stp (· ≠ LC.out) w0 (fun _ => LC.out) w (ext (fun _ => LC.out) w0.heap.size LC.tmp) := Stp.of_nob M _
  refine (New_calls w (ext (fun _ => LC.out) w0.heap.size LC.tmp) LC.d cap).mono ?_
  rintro e w' (⟨h, _⟩ | ⟨_, d, lab', he, D, s⟩)
  · exact absurd h hc
  · exact ⟨d, lab', he, s0.trans (s.mono (fun _ h => h.elim)), D, new_ok hc, Nat.le_refl _⟩

theorem Bytes_calls {w : World} {o1 o2 : Option Addr} {c1 c2 : Nat} {a b : List UInt8} (h1 : RdB w o1 a) (h2 : RdB w o2 b) :
    Calls Try.prog morainehelp_Bytes.n #[.slice o1 a.length c1, .slice o2 b.length c2] w (fun e w' => e = .returned (.bool (decide (a = b))) ∧ w' = w) := by
  refine morainehelp_Bytes.vc _ _ _ _ _ _ _ _ ?_
  unfold morainehelp_Bytes.Vc
  have hu : Try.prog.underlying tU8 = some (.int .u8) := by kernel_rfl
  refine ⟨_, run_toStr und_slU8 hu und_str h1, _, rfl, _, run_toStr und_slU8 hu und_str h2, _, rfl, ?_, rfl⟩
  rw [strB_strOf]

abbrev nmA : Nm := ⟨#[97]⟩
abbrev k1 : Dk := (Disk.create (Disk.new 10) nmA).1
abbrev k2 : Dk := (Disk.syncDir k1).1
abbrev k3 : Dk := (Disk.append k2 nmA [1, 2, 3]).1
abbrev k4 : Dk := Disk.restart k3 0 [2]
theorem known_calls (w : World) : Calls Try.prog morainelaw1_known.n #[] w (fun e w' => e = .returned (.bool true) ∧ Vcg.Mod NoB w w') := by
  refine morainelaw1_known.vc _ _ ?_
  unfold morainelaw1_known.Vc
  refine (LD.new w w (Mod.refl w) 10 (by omega)).mono ?_
  rintro _ w1 ⟨d, lab1, rfl, h1⟩
  refine ⟨_, _, rfl, fun h => (by cases h), fun _ => ⟨fun h => (h rfl).elim, fun _ => ?_⟩⟩
  refine (h1.create (by omega) nmA).mono ?_
  rintro _ w2 ⟨rfl, lab2, h2⟩
  refine ⟨_, rfl, fun h => (h (by decide +kernel)).elim, fun _ => ?_⟩
  refine (h2.syncDir (by omega)).mono ?_
  rintro _ w3 ⟨rfl, lab3, h3⟩
  refine ⟨_, rfl, fun h => (h (by decide +kernel)).elim, fun _ => ?_⟩
  rintro d10 w4 ⟨rfl, rfl⟩
  have B4 := Blk.new w3 tU8 #[(.int .u8 1), (.int .u8 2), (.int .u8 3)]
  have h4 := h3.step (Stp.alloc NoC w3 lab3 (.cells #[(.int .u8 1), (.int .u8 2), (.int .u8 3)] tU8) LC.tmp)
  have c4 : CBy _ (ext lab3 w3.heap.size LC.tmp) LC.tmp (some ⟨w3.heap.size, 0, none⟩) [1, 2, 3] := ⟨RdB.of_blk B4 (fun i hi => by
    rcases i with _ | _ | _ | i
    · rfl
    · rfl
    · rfl
    · exact absurd hi (by simp)), fun _ x hx => by cases hx; exact ext_new (Nat.le_refl _)⟩
  generalize w3.alloc (.cells #[(.int .u8 1), (.int .u8 2), (.int .u8 3)] tU8) = w4 at *
  refine (h4.append (by omega) nmA c4 tmp_sd (by decide)).mono ?_
  rintro _ w5 ⟨rfl, lab5, h5⟩
  refine ⟨_, rfl, fun h => (h (by decide +kernel)).elim, fun _ => ?_⟩
  rintro d15 w6 ⟨rfl, rfl⟩
  have B6 := CB.new w5 lab5 LC.tmp 3 #[(.int .i64 2)]
  have h6 := h5.step (Stp.alloc NoC w5 lab5 (.cells #[(.int .i64 2)] 3) LC.tmp)
  generalize w5.alloc (.cells #[(.int .i64 2)] 3) = w6 at *
  have c6 : CInts w6 (ext lab5 w5.heap.size LC.tmp) LC.tmp (some ⟨w5.heap.size, 0, none⟩) [2] := fun i hi => by
    obtain rfl : i = 0 := by simpa using hi
    exact ⟨_, 0, rfl, B6.blk.lt, B6.clr, B6.blk.rd1 rfl⟩
  refine (h6.restart (by omega) 0 c6 tmp_sd (by decide) (by decide)).mono ?_
  rintro _ w7 ⟨rfl, lab7, h7⟩
  refine ⟨rfl, ?_⟩
  refine (h7.read nmA).mono ?_
  rintro _ w8 ⟨o8, c8, rfl, lab8, h8, ow8⟩
  have er : Disk.read (Disk.restart (Disk.append (Disk.syncDir (Disk.create (Disk.new 10) nmA).1).1 nmA [1, 2, 3]).1 0 [2]) nmA = ([1, 2], 0) := by decide +kernel
  rw [er] at ow8 ⊢
  refine ⟨_, _, _, _, rfl, fun _ => ?_, fun h => (h rfl).elim⟩
  have hu : Try.prog.underlying tU8 = some (.int .u8) := by kernel_rfl
  refine ⟨_, run_toStr und_slU8 hu und_str ow8.bytes.rd, _, rfl, fun _ => ?_, fun h => (by rw [show (⟨#[1, 2]⟩ : ByteArray) = strOf [1, 2] from rfl, strB_strOf] at h; simp at h)⟩
  obtain ⟨i, hi, hi1⟩ := Option.map_eq_some_iff.1 info_u8
  simp only [Prod.mk.injEq] at hi1
  have hmk := run_makeSlice (P := Try.prog) w8 tSlU8 tU8 i (.int .u8 0) und_slU8 hi hi1.1 .i64 .i64 9 9 (by omega) (by omega) (by rw [hi1.2.1]; decide) (by rw [hi1.2.2]; omega) (by omega)
  refine ⟨_, _, hmk, _, _, _, rfl, ?_⟩
  rw [hi1.2.1]
  have B9 := Blk.new w8 tU8 (madeCells (Value.int .u8 0).cells (Int.toNat 9 * 1))
  have h9 := h8.step (Stp.alloc NoC w8 lab8 (.cells (madeCells (Value.int .u8 0).cells (Int.toNat 9 * 1)) tU8) LC.tmp)
  have c9 : CBy _ (ext lab8 w8.heap.size LC.tmp) LC.tmp (some ⟨w8.heap.size, 0, none⟩) [0, 0, 0, 0, 0, 0, 0, 0, 0] := ⟨RdB.of_blk B9 (fun i hi => by
    have : madeCells (Value.int .u8 0).cells (Int.toNat 9 * 1) = #[bV 0, bV 0, bV 0, bV 0, bV 0, bV 0, bV 0, bV 0, bV 0] := by kernel_rfl
    rw [this]
    have hi : i < 9 := hi
    match i, hi with
    | 0, _ | 1, _ | 2, _ | 3, _ | 4, _ | 5, _ | 6, _ | 7, _ | 8, _ => rfl), fun _ x hx => by cases hx; exact ext_new (Nat.le_refl _)⟩
  generalize w8.alloc (.cells (madeCells (Value.int .u8 0).cells (Int.toNat 9 * 1)) tU8) = w9 at *
  refine (h9.append (by omega) nmA c9 tmp_sd (by decide)).mono ?_
  rintro _ w10 ⟨rfl, lab10, h10⟩
  refine ⟨_, rfl, ?_, h10.nob⟩
  congr 2
end Go.Proofs.Ytkekehngillblaa
