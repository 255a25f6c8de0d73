/- The disk's laws: what lies beside; the known answer. -/
/- The walk and the law of DiskRoom: a disk never holds more than its capacity. -/
/- The walk and the law of DiskTorn: of rows of bytes appended behind a sync just the first so many survive. -/
/- The disk as plain Lean: names that move; what is synced; what survives whole. -/
/- slices.Sorted(maps.Keys(m)) at this program: the shelf's contracts, laid. -/
/- The program's disk in memory: the names in order. -/
/- The walk of DiskMoved: one name behind the other. -/
/- Rows that a call makes anew: copied, appended to, and handed on; rows of cells that are only read. -/
/- The reference's disk: rows of names; what is a name. -/
/- The reference's disk in memory; what each changing call does first; what is asked. -/
import Derived.Test.YtkekehngillblaaXStr
import Derived.Shelf.SlIter.Nil
import Derived.Shelf.SortM.Plain
import Derived.Shelf.SortM.SortNone
import Derived.Test.YtkekehngillblaaProg
import Derived.KernelRfl
import Derived.Test.YtkekehngillblaaDS
import Derived.Test.YtkekehngillblaaXExec
import Derived.Test.YtkekehngillblaaRV
import Derived.Test.YtkekehngillblaaDP7
section
set_option linter.unusedVariables false
set_option linter.unusedSimpArgs false
namespace Go.Proofs.Ytkekehngillblaa
open Go Go.Vcg Go.Disk

theorem cell_mod {S : Nat → Prop} {w w' : World} (m : Vcg.Mod S w w') {b i : Nat} (hb : b < w.heap.size) (hs : ¬ S b) : w'.cell? ⟨b, i, none⟩ = w.cell? ⟨b, i, none⟩ :=
  World.cell?_of_block (m.block b hb hs)
/-- Colours of a law: the disk's, what was there ahead, what the law itself makes. -/
inductive LC where
  | d (x : DC) | out | tmp
theorem LC.inj : ∀ a b, LC.d a = LC.d b → a = b := fun a b h => by cases h; rfl
/-- A disk in a law, behind at most n changing calls. -/
structure LD (w0 w : World) (lab : Nat → LC) (d : Nat) (σ : Dk) (n : Nat) : Prop where
  M : Stp (· ≠ LC.out) w0 (fun _ => LC.out) w lab
  D : DAt w lab LC.d d σ
  ok : Ok σ
  cnt : σ.count ≤ n
variable {w0 w w' : World} {lab : Nat → LC} {d : Nat} {σ σ' : Dk} {n : Nat}
theorem LD.nob (h : LD w0 w lab d σ n) : Vcg.Mod NoB w0 w := h.M.nob (fun k _ hk => hk rfl)
theorem out_sd : ¬ SD LC.d LC.out := by rintro ⟨x, _, h⟩; cases h
theorem tmp_sd : ¬ SD LC.d LC.tmp := by rintro ⟨x, _, h⟩; cases h
theorem LD.bytes (h : LD w0 w lab d σ n) {o : Option Addr} {bs : List UInt8} (hr : RdB w0 o bs) : CBy w lab .out o bs :=
  (CBy.mk (w := w0) (lab := fun _ => LC.out) hr (fun _ _ _ => rfl)).stp h.M (fun h => h rfl)
theorem LD.then (h : LD w0 w lab d σ n) (hr : DRes LC.d d w lab w' σ') (hok : Ok σ') {m : Nat} (hc : σ'.count ≤ m) : ∃ lab', LD w0 w' lab' d σ' m := by
  obtain ⟨lab', D, s⟩ := hr
  exact ⟨lab', h.M.trans (s.mono (fun c ⟨x, _, e⟩ => by rw [e]; simp)), D, hok, hc⟩
theorem LD.step (h : LD w0 w lab d σ n) {lab' : Nat → LC} (s : Stp NoC w lab w' lab') : LD w0 w' lab' d σ n :=
  ⟨h.M.trans (s.mono (fun _ h => h.elim)), h.D.stp s (fun _ h => h), h.ok, h.cnt⟩
theorem LD.nums (h : LD w0 w lab d σ n) (hn : n < 2 ^ 39) : Nums σ := ⟨Nat.lt_of_le_of_lt h.cnt hn, h.ok.fail, h.ok.halt⟩

section
variable (h : LD w0 w lab d σ n) (hn : n < 2 ^ 39)
include h hn
theorem LD.create (s : Nm) : Calls Try.prog disk_Disk_Create.n #[.pointer (some ⟨d, 0, none⟩), .string s] w (fun e w' => e = .returned (.int .i64 (Disk.create σ s).2) ∧ ∃ lab', LD w0 w' lab' d (Disk.create σ s).1 (n + 1)) :=
  (Create_calls LC.inj h.D (h.nums hn) (begins_ok h.ok) s).mono fun e w' ⟨he, hr⟩ => ⟨he, h.then hr (create_ok h.ok s) (by rw [create_count]; have := h.cnt; omega)⟩
theorem LD.append (s : Nm) {o : Option Addr} {c : Nat} {bs : List UInt8} {cb : LC} (hb : CBy w lab cb o bs) (hc : ¬ SD LC.d cb) (hl : bs.length ≤ 2 ^ 60) : Calls Try.prog disk_Disk_Append.n #[.pointer (some ⟨d, 0, none⟩), .string s, .slice o bs.length c] w (fun e w' => e = .returned (.int .i64 (Disk.append σ s bs).2) ∧ ∃ lab', LD w0 w' lab' d (Disk.append σ s bs).1 (n + 1)) :=
  (Append_calls LC.inj h.D (h.nums hn) (begins_ok h.ok) s hb hc hl).mono fun e w' ⟨he, hr⟩ => ⟨he, h.then hr (append_ok h.ok s bs) (by rw [append_count]; have := h.cnt; omega)⟩
theorem LD.sync (s : Nm) : Calls Try.prog disk_Disk_Sync.n #[.pointer (some ⟨d, 0, none⟩), .string s] w (fun e w' => e = .returned (.int .i64 (Disk.sync σ s).2) ∧ ∃ lab', LD w0 w' lab' d (Disk.sync σ s).1 (n + 1)) :=
  (Sync_calls LC.inj h.D (h.nums hn) (begins_ok h.ok) s).mono fun e w' ⟨he, hr⟩ => ⟨he, h.then hr (sync_ok h.ok s) (by rw [sync_count]; have := h.cnt; omega)⟩
theorem LD.rename (a b : Nm) : Calls Try.prog disk_Disk_Rename.n #[.pointer (some ⟨d, 0, none⟩), .string a, .string b] w (fun e w' => e = .returned (.int .i64 (Disk.rename σ a b).2) ∧ ∃ lab', LD w0 w' lab' d (Disk.rename σ a b).1 (n + 1)) :=
  (Rename_calls LC.inj h.D (h.nums hn) (begins_ok h.ok) a b).mono fun e w' ⟨he, hr⟩ => ⟨he, h.then hr (rename_ok h.ok a b) (by rw [rename_count]; have := h.cnt; omega)⟩
theorem LD.syncDir : Calls Try.prog disk_Disk_SyncDir.n #[.pointer (some ⟨d, 0, none⟩)] w (fun e w' => e = .returned (.int .i64 (Disk.syncDir σ).2) ∧ ∃ lab', LD w0 w' lab' d (Disk.syncDir σ).1 (n + 1)) :=
  (SyncDir_calls LC.inj h.D (h.nums hn)).mono fun e w' ⟨he, hr⟩ => ⟨he, h.then hr (syncDir_ok h.ok) (by rw [syncDir_count]; have := h.cnt; omega)⟩
theorem LD.restart (k : Int) {o : Option Addr} {c : Nat} {is : List Int} {cb : LC} (hi : CInts w lab cb o is) (hc : ¬ SD LC.d cb) (hil : ∀ x ∈ is, x < 9223372036854775808) (hlen : is.length < 2 ^ 62) : Calls Try.prog disk_Disk_Restart.n #[.pointer (some ⟨d, 0, none⟩), .agg #[.int .i64 k, .slice o is.length c]] w (fun e w' => e = .returned (.tuple #[]) ∧ ∃ lab', LD w0 w' lab' d (Disk.restart σ k is) n) :=
  (Restart_calls LC.inj h.D h.ok (Nat.lt_of_le_of_lt h.cnt (by omega)) k hi hc hil hlen).mono fun e w' ⟨he, hr⟩ => ⟨he, h.then hr (restart_ok h.ok k is) h.cnt⟩
end
theorem LD.used (h : LD w0 w lab d σ n) : Calls Try.prog disk_Disk_Used.n #[.pointer (some ⟨d, 0, none⟩)] w (fun e w' => e = .returned (.int .i64 (Disk.used σ : Int)) ∧ ∃ lab', LD w0 w' lab' d σ n) :=
  (Used_calls h.D h.ok).mono fun e w' ⟨he, M⟩ => ⟨he, _, h.step (Stp.of_nob M LC.tmp)⟩
theorem LD.read (h : LD w0 w lab d σ n) (s : Nm) : Calls Try.prog disk_Disk_Read.n #[.pointer (some ⟨d, 0, none⟩), .string s] w (fun e w' => ∃ o k, e = .returned (.tuple #[.slice o (Disk.read σ s).1.length k, .int .i64 (Disk.read σ s).2]) ∧
      ∃ lab', LD w0 w' lab' d σ n ∧ COw w' lab' LC.tmp tU8 1 o (Disk.read σ s).1.length k ((Disk.read σ s).1.map bV)) :=
  (Read_calls h.D h.ok s LC.tmp).mono fun e w' ⟨o, k, he, lab', D, hc, s⟩ => ⟨o, k, he, lab', ⟨h.M.trans (s.mono (fun c ⟨x, _, e⟩ => by rw [e]; simp)), D, h.ok, h.cnt⟩, hc⟩
theorem LD.new (w0 w : World) (M : Vcg.Mod NoB w0 w) (cap : Int) (hc : ¬ (cap < 0 ∨ cap > 67108864)) : Calls Try.prog disk_New.n #[.int .i64 cap] w (fun e w' => ∃ d lab', e = .returned (.tuple #[.pointer (some ⟨d, 0, none⟩), .int .i64 0]) ∧ LD w0 w' lab' d (Disk.new cap) 0) := by
  have s0 : Stp (· ≠ LC.out) w0 (fun _ => LC.out) w (ext (fun _ => LC.out) w0.heap.size LC.tmp) := Stp.of_nob M _
  refine (New_calls w (ext (fun _ => LC.out) w0.heap.size LC.tmp) LC.d cap).mono ?_
  rintro e w' (⟨h, _⟩ | ⟨_, d, lab', he, D, s⟩)
  · exact absurd h hc
  · exact ⟨d, lab', he, s0.trans (s.mono (fun _ h => h.elim)), D, new_ok hc, Nat.le_refl _⟩

theorem Bytes_calls {w : World} {o1 o2 : Option Addr} {c1 c2 : Nat} {a b : List UInt8} (h1 : RdB w o1 a) (h2 : RdB w o2 b) :
    Calls Try.prog morainehelp_Bytes.n #[.slice o1 a.length c1, .slice o2 b.length c2] w (fun e w' => e = .returned (.bool (decide (a = b))) ∧ w' = w) := by
  refine morainehelp_Bytes.vc _ _ _ _ _ _ _ _ ?_
  unfold morainehelp_Bytes.Vc
  have hu : Try.prog.underlying tU8 = some (.int .u8) := by kernel_rfl
  refine ⟨_, run_toStr und_slU8 hu und_str h1, _, rfl, _, run_toStr und_slU8 hu und_str h2, _, rfl, ?_, rfl⟩
  rw [strB_strOf]

abbrev nmA : Nm := ⟨#[97]⟩
abbrev k1 : Dk := (Disk.create (Disk.new 10) nmA).1
abbrev k2 : Dk := (Disk.syncDir k1).1
abbrev k3 : Dk := (Disk.append k2 nmA [1, 2, 3]).1
abbrev k4 : Dk := Disk.restart k3 0 [2]
theorem known_calls (w : World) : Calls Try.prog morainelaw1_known.n #[] w (fun e w' => e = .returned (.bool true) ∧ Vcg.Mod NoB w w') := by
  refine morainelaw1_known.vc _ _ ?_
  unfold morainelaw1_known.Vc
  refine (LD.new w w (Mod.refl w) 10 (by omega)).mono ?_
  rintro _ w1 ⟨d, lab1, rfl, h1⟩
  refine ⟨_, _, rfl, fun h => (by cases h), fun _ => ⟨fun h => (h rfl).elim, fun _ => ?_⟩⟩
  refine (h1.create (by omega) nmA).mono ?_
  rintro _ w2 ⟨rfl, lab2, h2⟩
  refine ⟨_, rfl, fun h => (h (by decide +kernel)).elim, fun _ => ?_⟩
  refine (h2.syncDir (by omega)).mono ?_
  rintro _ w3 ⟨rfl, lab3, h3⟩
  refine ⟨_, rfl, fun h => (h (by decide +kernel)).elim, fun _ => ?_⟩
  rintro d10 w4 ⟨rfl, rfl⟩
  have B4 := Blk.new w3 tU8 #[(.int .u8 1), (.int .u8 2), (.int .u8 3)]
  have h4 := h3.step (Stp.alloc NoC w3 lab3 (.cells #[(.int .u8 1), (.int .u8 2), (.int .u8 3)] tU8) LC.tmp)
  have c4 : CBy _ (ext lab3 w3.heap.size LC.tmp) LC.tmp (some ⟨w3.heap.size, 0, none⟩) [1, 2, 3] := ⟨RdB.of_blk B4 (fun i hi => by
    rcases i with _ | _ | _ | i
    · rfl
    · rfl
    · rfl
    · exact absurd hi (by simp)), fun _ x hx => by cases hx; exact ext_new (Nat.le_refl _)⟩
  generalize w3.alloc (.cells #[(.int .u8 1), (.int .u8 2), (.int .u8 3)] tU8) = w4 at *
  refine (h4.append (by omega) nmA c4 tmp_sd (by decide)).mono ?_
  rintro _ w5 ⟨rfl, lab5, h5⟩
  refine ⟨_, rfl, fun h => (h (by decide +kernel)).elim, fun _ => ?_⟩
  rintro d15 w6 ⟨rfl, rfl⟩
  have B6 := CB.new w5 lab5 LC.tmp 3 #[(.int .i64 2)]
  have h6 := h5.step (Stp.alloc NoC w5 lab5 (.cells #[(.int .i64 2)] 3) LC.tmp)
  generalize w5.alloc (.cells #[(.int .i64 2)] 3) = w6 at *
  have c6 : CInts w6 (ext lab5 w5.heap.size LC.tmp) LC.tmp (some ⟨w5.heap.size, 0, none⟩) [2] := fun i hi => by
    obtain rfl : i = 0 := by simpa using hi
    exact ⟨_, 0, rfl, B6.blk.lt, B6.clr, B6.blk.rd1 rfl⟩
  refine (h6.restart (by omega) 0 c6 tmp_sd (by decide) (by decide)).mono ?_
  rintro _ w7 ⟨rfl, lab7, h7⟩
  refine ⟨rfl, ?_⟩
  refine (h7.read nmA).mono ?_
  rintro _ w8 ⟨o8, c8, rfl, lab8, h8, ow8⟩
  have er : Disk.read (Disk.restart (Disk.append (Disk.syncDir (Disk.create (Disk.new 10) nmA).1).1 nmA [1, 2, 3]).1 0 [2]) nmA = ([1, 2], 0) := by decide +kernel
  rw [er] at ow8 ⊢
  refine ⟨_, _, _, _, rfl, fun _ => ?_, fun h => (h rfl).elim⟩
  have hu : Try.prog.underlying tU8 = some (.int .u8) := by kernel_rfl
  refine ⟨_, run_toStr und_slU8 hu und_str ow8.bytes.rd, _, rfl, fun _ => ?_, fun h => (by rw [show (⟨#[1, 2]⟩ : ByteArray) = Go.Vcg.strOf [1, 2] from rfl, strB_strOf] at h; simp at h)⟩
  obtain ⟨i, hi, hi1⟩ := Option.map_eq_some_iff.1 info_u8
  simp only [Prod.mk.injEq] at hi1
  have hmk := run_makeSlice (P := Try.prog) w8 tSlU8 tU8 i (.int .u8 0) und_slU8 hi hi1.1 .i64 .i64 9 9 (by omega) (by omega) (by rw [hi1.2.1]; decide) (by rw [hi1.2.2]; omega) (by omega)
  refine ⟨_, _, hmk, _, _, _, rfl, ?_⟩
  rw [hi1.2.1]
  have B9 := Blk.new w8 tU8 (madeCells (Value.int .u8 0).cells (Int.toNat 9 * 1))
  have h9 := h8.step (Stp.alloc NoC w8 lab8 (.cells (madeCells (Value.int .u8 0).cells (Int.toNat 9 * 1)) tU8) LC.tmp)
  have c9 : CBy _ (ext lab8 w8.heap.size LC.tmp) LC.tmp (some ⟨w8.heap.size, 0, none⟩) [0, 0, 0, 0, 0, 0, 0, 0, 0] := ⟨RdB.of_blk B9 (fun i hi => by
    have : madeCells (Value.int .u8 0).cells (Int.toNat 9 * 1) = #[bV 0, bV 0, bV 0, bV 0, bV 0, bV 0, bV 0, bV 0, bV 0] := by kernel_rfl
    rw [this]
    have hi : i < 9 := hi
    match i, hi with
    | 0, _ | 1, _ | 2, _ | 3, _ | 4, _ | 5, _ | 6, _ | 7, _ | 8, _ => rfl), fun _ x hx => by cases hx; exact ext_new (Nat.le_refl _)⟩
  generalize w8.alloc (.cells (madeCells (Value.int .u8 0).cells (Int.toNat 9 * 1)) tU8) = w9 at *
  refine (h9.append (by omega) nmA c9 tmp_sd (by decide)).mono ?_
  rintro _ w10 ⟨rfl, lab10, h10⟩
  refine ⟨_, rfl, ?_, h10.nob⟩
  congr 2
end Go.Proofs.Ytkekehngillblaa
end

section
set_option linter.unusedVariables false
set_option linter.unusedSimpArgs false
namespace Go.Disk
open Go.Vcg
structure Quiet (d : Dk) : Prop where
  fail : d.fail = 0
  halt : d.halt = -1
  down : d.down = false
theorem begins_quiet {d : Dk} (h : Quiet d) : begins d = ({ d with count := d.count + 1 }, 0) := by
  unfold begins
  rw [if_neg (by rw [h.halt]; omega), if_neg (by rw [h.down]; simp), h.fail, h.halt]
  cases d
  simp only at *
  have h1 := h.fail; have h2 := h.halt
  simp only at h1 h2
  subst h1 h2
  simp
  decide
theorem used_setF {d : Dk} {f : Nat} {g : Fl} : ∀ {l : List (Nm × Nat)} {s : Nm}, (l.map Prod.snd).Nodup → assoc s l = some f →
    (l.map fun x => (if x.2 = f then g else d.fs x.2).bytes.length).sum + (d.fs f).bytes.length = (l.map fun x => (d.fs x.2).bytes.length).sum + g.bytes.length
  | [], _, _, h => by cases h
  | x :: r, s, hn, h => by
    rw [List.map_cons, List.nodup_cons] at hn
    simp only [List.map_cons, List.sum_cons]
    rw [assoc] at h
    split at h
    · cases h
      have hr : (r.map fun y => (if y.2 = x.2 then g else d.fs y.2).bytes.length) = r.map fun y => (d.fs y.2).bytes.length := List.map_congr_left (fun y hy => by
        rw [if_neg (fun e => hn.1 (by rw [← e]; exact List.mem_map_of_mem hy))])
      rw [hr, if_pos rfl]
      omega
    · have ih := used_setF (d := d) (g := g) hn.2 h
      have hx : x.2 ≠ f := fun e => hn.1 (by rw [e]; exact List.mem_map_of_mem (f := Prod.snd) (Go.Proofs.Ytkekehngillblaa.assoc_some h))
      rw [if_neg hx]
      omega
abbrev nmX : Nm := ⟨#[120]⟩
abbrev nmY : Nm := ⟨#[121]⟩
structure Room (cap : Int) (u : Nat) (d : Dk) : Prop where
  quiet : Quiet d
  cap : d.cap = cap
  there : ∀ s, s = nmX ∨ s = nmY → ∃ f, assoc s d.names = some f
  used : used d = u
theorem Room.app {cap : Int} {u : Nat} {d : Dk} (h : Room cap u d) (hok : Ok d) {s : Nm} (hs : s = nmX ∨ s = nmY) (b : List UInt8) :
    ((b.length : Int) > 0 ∧ (u : Int) + b.length > cap → (Disk.append d s b).2 = 15 ∧ Room cap u (Disk.append d s b).1) ∧ (¬ ((b.length : Int) > 0 ∧ (u : Int) + b.length > cap) → (Disk.append d s b).2 = 0 ∧ Room cap (u + b.length) (Disk.append d s b).1) := by
  have hcap := h.cap
  subst hcap
  obtain ⟨f, hf⟩ := h.there s hs
  have hr : right s = true := by rcases hs with rfl | rfl <;> decide +kernel
  have e : Disk.append d s b = write { d with count := d.count + 1 } f (d.fs f).bytes.length b := by
    unfold Disk.append onFile
    rw [begins_quiet h.quiet]
    have hn : named { d with count := d.count + 1 } s = (f, 0) := by
      unfold named
      rw [if_pos hr]
      show (match assoc s d.names with | some f => (f, (0 : Int)) | none => (0, 13)) = _
      rw [hf]
    simp only [hn, if_true]
  rw [e]
  have hlon : (((d.fs f).bytes.length : Int) + b.length - (d.fs f).bytes.length) = b.length := by omega
  have hu : Disk.used { d with count := d.count + 1 } = u := h.used
  unfold write
  simp only [hlon, hu]
  refine ⟨fun h1 => ?_, fun h1 => ?_⟩
  · rw [if_pos ⟨h1.1, by omega⟩]
    exact ⟨rfl, ⟨h.quiet.fail, h.quiet.halt, h.quiet.down⟩, h.cap, h.there, h.used⟩
  · rw [if_neg (fun g => h1 ⟨g.1, by omega⟩)]
    by_cases hb : b = []
    · rw [if_pos hb]
      subst hb
      exact ⟨rfl, ⟨h.quiet.fail, h.quiet.halt, h.quiet.down⟩, h.cap, h.there, h.used⟩
    · rw [if_neg hb]
      refine ⟨rfl, ⟨h.quiet.fail, h.quiet.halt, h.quiet.down⟩, h.cap, h.there, ?_⟩
      have hl : (lay (d.fs f).bytes (d.fs f).bytes.length b).length = (d.fs f).bytes.length + b.length := by
        rw [lay, List.length_append, List.length_append, List.length_take, List.length_drop]; omega
      have := used_setF (d := d) (f := f) (g := { d.fs f with bytes := lay (d.fs f).bytes (d.fs f).bytes.length b, pend := (d.fs f).pend ++ [.wr (d.fs f).bytes.length b] }) hok.names.vals hf
      simp only [hl] at this
      have h2 := h.used
      unfold Disk.used at h2 ⊢
      simp only [setF]
      omega
theorem Room.start {cap : Int} : Room cap 0 (create (create (new cap) nmX).1 nmY).1 ∧ (create (new cap) nmX).2 = 0 ∧ (create (create (new cap) nmX).1 nmY).2 = 0 :=
  ⟨⟨⟨rfl, rfl, rfl⟩, rfl, fun s hs => by
    rcases hs with rfl | rfl
    · exact ⟨0, rfl⟩
    · exact ⟨1, rfl⟩, rfl⟩, rfl, rfl⟩
end Go.Disk
namespace Go.Proofs.Ytkekehngillblaa
open Go Go.Vcg Go.Disk

theorem Room_calls (w : World) (cap : Int) {o1 : Option Addr} {c1 : Nat} (ls : List (List UInt8)) (hr : RdBB w o1 ls) (hb : ∀ b ∈ ls, b.length ≤ 2 ^ 60) :
    Calls Try.prog morainelaw1_DiskRoom.n #[.int .i64 cap, .slice o1 ls.length c1] w (fun e w' => e = .returned (.bool true) ∧ Vcg.Mod NoB w w') := by
  refine morainelaw1_DiskRoom.vc _ _ _ _ _ _ ?_
  unfold morainelaw1_DiskRoom.Vc
  refine (known_calls w).mono ?_
  rintro _ w1 ⟨rfl, M1⟩
  refine ⟨_, rfl, fun h => (by cases h), fun _ => ⟨fun _ => ⟨rfl, M1⟩, fun h0 => ⟨fun _ => ⟨rfl, M1⟩, fun h2000 => ⟨fun _ => ⟨rfl, M1⟩, fun h40 => ?_⟩⟩⟩⟩
  refine (LD.new w w1 M1 cap (by omega)).mono ?_
  rintro _ w2 ⟨d, lab2, rfl, h2⟩
  refine ⟨_, _, rfl, ?_⟩
  obtain ⟨hst, hx, hy⟩ := Room.start (cap := cap)
  refine (h2.create (by omega) nmX).mono ?_
  rintro _ w3 ⟨rfl, lab3, h3⟩
  refine ⟨_, rfl, fun h => (h hx).elim, fun _ => ?_⟩
  refine (h3.create (by omega) nmY).mono ?_
  rintro _ w4 ⟨rfl, lab4, h4⟩
  refine ⟨_, rfl, fun h => (h hy).elim, fun _ => ?_⟩
  refine ⟨fun u i w' => ∃ (u' j : Nat) (lab' : Nat → LC) (σ : Dk), u = (u' : Int) ∧ i = (j : Int) ∧ j ≤ ls.length ∧ LD w w' lab' d σ (2 + j) ∧ Room cap u' σ, fun _ i _ => ((ls.length : Int) - i).toNat,
    ⟨0, 0, lab4, _, rfl, rfl, Nat.zero_le _, h4, hst⟩, ?_⟩
  rintro _ _ _ w5 ⟨u, j, lab5, σ, rfl, rfl, hj, h5, hroom⟩
  refine ⟨fun hlt => ?_, fun hge => ⟨rfl, h5.nob⟩⟩
  have hjl : j < ls.length := by omega
  obtain ⟨b, f, oi, ci, rfl, hbl, hc, hri⟩ := hr j hjl
  have hlen := hb (ls.getD j []) (by rw [List.getD_eq_getElem?_getD, List.getElem?_eq_getElem hjl]; exact List.getElem_mem hjl)
  generalize ls.getD j [] = x at *
  have et : Int.tmod (j : Int) 2 = ((j % 2 : Nat) : Int) := by rw [Int.tmod_eq_emod_of_nonneg (by omega)]; omega
  have ew : IntKind.wrap .i64 (((j % 2 : Nat) : Int) + 1) = ((j % 2 + 1 : Nat) : Int) := by rw [wrap_i64_small (by omega) (by omega)]; omega
  rw [et, ew]
  simp only [Int.toNat_natCast]
  have hnm : ∃ s, (s = nmX ∨ s = nmY) ∧ ByteArray.extract ⟨#[120, 121]⟩ (j % 2) (j % 2 + 1) = s := by
    have : j % 2 = 0 ∨ j % 2 = 1 := by omega
    rcases this with h | h
    · exact ⟨nmX, .inl rfl, by rw [h]; rfl⟩
    · exact ⟨nmY, .inr rfl, by rw [h]; rfl⟩
  obtain ⟨s, hs, hse⟩ := hnm
  rw [hse]
  have hsz : (ByteArray.size ⟨#[120, 121]⟩) = 2 := rfl
  rw [hsz]
  have cell : ∀ {w' : World}, Vcg.Mod NoB w w' → w'.cell? (Addr.add ⟨b, f, none⟩ j) = some (.slice oi x.length ci) := fun M => by
    rw [add_at]; exact (cell_mod M hbl (fun h => h)).trans hc
  refine ⟨by omega, by omega, _, rfl, by omega, _, _, _, cell h5.nob, ?_⟩
  refine (h5.append (by omega) s (h5.bytes hri) out_sd hlen).mono ?_
  rintro _ w6 ⟨rfl, lab6, h6⟩
  have hap := hroom.app h5.ok hs x
  have h6u : (u : Int) ≤ 2 ^ 47 := by
    have h1 := used_le h5.ok
    rw [hroom.used] at h1; omega
  have eu : IntKind.wrap .i64 ((u : Int) + ((x.length : Nat) : Int)) = ((u + x.length : Nat) : Int) := by rw [wrap_i64_small (by omega) (by omega)]; omega
  have ej : IntKind.wrap .i64 ((j : Int) + 1) = ((j + 1 : Nat) : Int) := by rw [wrap_i64_small (by omega) (by omega)]; omega
  refine ⟨_, rfl, _, rfl, by omega, _, _, _, cell h6.nob, ?_⟩
  rw [eu, ej]
  -- how much there is behind it
  have tail : ∀ (u' : Nat), Room cap u' (Disk.append σ s x).1 → Calls Try.prog disk_Disk_Used.n #[.pointer (some ⟨d, 0, none⟩)] w6 (fun e w' => e = .returned (.int .i64 (u' : Int)) ∧ ∃ (u'' j' : Nat) (lab' : Nat → LC) (σ : Dk), ((u' : Int)) = (u'' : Int) ∧ ((j + 1 : Nat) : Int) = (j' : Int) ∧ j' ≤ ls.length ∧ LD w w' lab' d σ (2 + j') ∧ Room cap u'' σ) := by
    intro u' hr'
    refine h6.used.mono ?_
    rintro _ w7 ⟨rfl, lab7, h7⟩
    exact ⟨by rw [hr'.used], u', j + 1, lab7, _, rfl, rfl, hjl, h7, hr'⟩
  refine ⟨fun hgt => ⟨_, rfl, by omega, _, _, _, cell h6.nob, fun hpos => ?_, fun hnp => ?_⟩, fun hle => ?_⟩
  · obtain ⟨h15, hr'⟩ := hap.1 ⟨hpos, by omega⟩
    refine ⟨fun h => (h h15).elim, fun _ => (tail u hr').mono ?_⟩
    rintro _ w7 ⟨rfl, hI⟩
    exact ⟨_, rfl, fun h => (h rfl).elim, fun _ => ⟨hI, by omega⟩⟩
  · obtain ⟨h15, hr'⟩ := hap.2 (fun g => hnp g.1)
    refine ⟨fun h => (h h15).elim, fun _ => ⟨_, rfl, by omega, _, _, _, cell h6.nob, (tail _ hr').mono ?_⟩⟩
    rw [eu]
    rintro _ w7 ⟨rfl, hI⟩
    exact ⟨_, rfl, fun h => (h rfl).elim, fun _ => ⟨hI, by omega⟩⟩
  · obtain ⟨h15, hr'⟩ := hap.2 (fun g => hle (by omega))
    refine ⟨fun h => (h h15).elim, fun _ => ⟨_, rfl, by omega, _, _, _, cell h6.nob, (tail _ hr').mono ?_⟩⟩
    rw [eu]
    rintro _ w7 ⟨rfl, hI⟩
    exact ⟨_, rfl, fun h => (h rfl).elim, fun _ => ⟨hI, by omega⟩⟩
end Go.Proofs.Ytkekehngillblaa
end

section
set_option linter.unusedVariables false
set_option linter.unusedSimpArgs false
namespace Go.Disk
open Go.Vcg
/-- Patches that lay F behind S. -/
def Behind (S F : List UInt8) (pend : List Pt) : Prop := ∀ (m : Int) (r : List Pt), 0 ≤ m →
  survive S (pend ++ r) m = if (F.length : Int) ≤ m then survive (S ++ F) r (m - F.length) else S ++ F.take m.toNat
theorem Behind.nil (S : List UInt8) : Behind S [] [] := fun m r hm => by
  rw [if_pos (by simpa using hm)]; simp
theorem lay_end (b c : List UInt8) : lay b b.length c = b ++ c := by
  rw [lay, List.take_length, List.drop_eq_nil_of_le (by omega), List.append_nil]
theorem Behind.snoc {S F : List UInt8} {pend : List Pt} (h : Behind S F pend) (b : List UInt8) : Behind S (F ++ b) (pend ++ [.wr (S ++ F).length b]) := fun m r hm => by
  have e : (F ++ b).length = F.length + b.length := List.length_append
  rw [List.append_assoc, h m _ hm, e]
  by_cases h1 : (F.length : Int) ≤ m
  · rw [if_pos h1]
    show survive (S ++ F) (.wr (S ++ F).length b :: r) (m - F.length) = _
    rw [survive]
    by_cases h2 : (b.length : Int) > m - F.length
    · rw [if_pos h2, if_neg (by omega), lay_end, List.append_assoc, List.take_append]
      congr 2
      · rw [List.take_of_length_le (by omega)]
      · congr 1; omega
    · rw [if_neg h2, if_pos (by omega), lay_end, List.append_assoc]
      congr 1; omega
  · rw [if_neg h1, if_neg (by omega), List.take_append_of_le_length (by omega)]
structure Torn (S F : List UInt8) (d : Dk) : Prop where
  quiet : Quiet d
  cap : d.cap = 1048576
  names : d.names = [(nmX, 0)]
  sure : d.sure = [(nmX, 0)]
  pend : d.pend = []
  fsure : (d.fs 0).sure = S
  bytes : (d.fs 0).bytes = S ++ F
  behind : Behind S F (d.fs 0).pend
theorem append_quiet {d : Dk} (hq : Quiet d) {s : Nm} {f : Nat} (hr : right s = true) (hf : assoc s d.names = some f) (b : List UInt8) : append d s b = write { d with count := d.count + 1 } f (d.fs f).bytes.length b := by
  unfold Disk.append onFile
  rw [begins_quiet hq]
  have hn : named { d with count := d.count + 1 } s = (f, 0) := by
    unfold named
    rw [if_pos hr]
    show (match assoc s d.names with | some f => (f, (0 : Int)) | none => (0, 13)) = _
    rw [hf]
  simp only [hn, if_true]
theorem Torn.app {S F : List UInt8} {d : Dk} (h : Torn S F d) (b : List UInt8) (hl : S.length + F.length + b.length ≤ 1048576) : (append d nmX b).2 = 0 ∧ Torn S (F ++ b) (append d nmX b).1 := by
  have hf : assoc nmX d.names = some 0 := by rw [h.names]; rfl
  rw [append_quiet h.quiet (by decide +kernel) hf]
  have hu : Disk.used { d with count := d.count + 1 } = S.length + F.length := by
    unfold Disk.used
    show ((d.names.map fun x => (d.fs x.2).bytes.length).sum) = _
    rw [h.names]
    simp [h.bytes]
  unfold write
  simp only [hu]
  have hcap := h.cap
  rw [if_neg (by simp only [hcap]; omega)]
  by_cases hb : b = []
  · rw [if_pos hb]
    subst hb
    rw [List.append_nil]
    exact ⟨rfl, ⟨h.quiet.fail, h.quiet.halt, h.quiet.down⟩, h.cap, h.names, h.sure, h.pend, h.fsure, h.bytes, h.behind⟩
  · rw [if_neg hb]
    refine ⟨rfl, ⟨h.quiet.fail, h.quiet.halt, h.quiet.down⟩, h.cap, h.names, h.sure, h.pend, h.fsure, ?_, ?_⟩
    · show lay (d.fs 0).bytes (d.fs 0).bytes.length b = _
      rw [lay_end, h.bytes, List.append_assoc]
    · show Behind S (F ++ b) ((d.fs 0).pend ++ [.wr (d.fs 0).bytes.length b])
      rw [h.bytes]
      exact h.behind.snoc b
theorem Torn.end {S F : List UInt8} {d : Dk} (h : Torn S F d) (n : Int) : read (restart d 0 [n]) nmX = ((S ++ F).take (S.length + (max 0 (min n F.length)).toNat), 0) := by
  have h1 : (restart d 0 [n]).names = [(nmX, 0)] := by
    show (d.pend.take _).foldl Chg.on d.sure = _
    rw [h.pend, h.sure]; rfl
  have h2 : (restart d 0 [n]).down = false := rfl
  have h3 : ((restart d 0 [n]).fs 0).bytes = survive S (d.fs 0).pend (max n 0) := by
    show (if 0 ∈ ((d.pend.take _).foldl Chg.on d.sure).map Prod.snd then (⟨survive (d.fs 0).sure (d.fs 0).pend (left [n] 0), survive (d.fs 0).sure (d.fs 0).pend (left [n] 0), []⟩ : Fl) else d.fs 0).bytes = _
    rw [h.pend, h.sure]
    rw [if_pos (by simp)]
    show survive (d.fs 0).sure (d.fs 0).pend (left [n] 0) = _
    rw [h.fsure]; rfl
  have h4 := h.behind (max n 0) [] (by omega)
  rw [List.append_nil] at h4
  have hn : named (restart d 0 [n]) nmX = (0, 0) := by
    unfold named
    rw [if_pos (by decide +kernel), h1]; rfl
  have ha : asked (restart d 0 [n]) nmX = (0, 0) := by
    unfold asked
    rw [if_neg (by rw [h2]; simp), hn]
  unfold read
  rw [ha, if_pos rfl]
  show (((restart d 0 [n]).fs 0).bytes, (0 : Int)) = _
  rw [h3, h4]
  by_cases hc : (F.length : Int) ≤ max n 0
  · rw [if_pos hc]
    show (S ++ F, (0 : Int)) = _
    have hm : F.length ≤ (max 0 (min n F.length)).toNat := by omega
    rw [List.take_of_length_le (by rw [List.length_append]; omega)]
  · rw [if_neg hc, List.take_append, List.take_of_length_le (l := S) (by omega)]
    have hm : (max n 0).toNat = S.length + (max 0 (min n F.length)).toNat - S.length := by omega
    rw [hm]
theorem Torn.start (S : List UInt8) (hS : S.length ≤ 500) : (create (new 1048576) nmX).2 = 0 ∧ (append (create (new 1048576) nmX).1 nmX S).2 = 0 ∧ (sync (append (create (new 1048576) nmX).1 nmX S).1 nmX).2 = 0 ∧
    (syncDir (sync (append (create (new 1048576) nmX).1 nmX S).1 nmX).1).2 = 0 ∧ Torn S [] (syncDir (sync (append (create (new 1048576) nmX).1 nmX S).1 nmX).1).1 := by
  have q1 : Quiet (create (new 1048576) nmX).1 := ⟨rfl, rfl, rfl⟩
  have f1 : assoc nmX (create (new 1048576) nmX).1.names = some 0 := rfl
  have e2 : append (create (new 1048576) nmX).1 nmX S = (if S = [] then ({ (create (new 1048576) nmX).1 with count := 2 }, 0) else (setF { (create (new 1048576) nmX).1 with count := 2 } 0 ⟨S, [], [.wr 0 S]⟩, 0)) := by
    rw [append_quiet q1 (by decide +kernel) f1]
    unfold write
    simp only
    have hu : Disk.used { (create (new 1048576) nmX).1 with count := (create (new 1048576) nmX).1.count + 1 } = 0 := rfl
    rw [hu]
    have hc : ({ (create (new 1048576) nmX).1 with count := (create (new 1048576) nmX).1.count + 1 } : Dk).cap = 1048576 := rfl
    have hb0 : ((create (new 1048576) nmX).1.fs 0).bytes = [] := rfl
    rw [hc, hb0]
    rw [if_neg (by simp; omega)]
    split
    · rfl
    · congr 2
      show (⟨lay [] 0 S, [], [] ++ [.wr 0 S]⟩ : Fl) = _
      rw [show lay [] 0 S = S from by simp [lay]]; rfl
  have hcr : (create (new 1048576) nmX).2 = 0 := rfl
  refine ⟨hcr, ?_⟩
  rw [e2]
  by_cases hS0 : S = []
  · subst hS0
    rw [if_pos rfl]
    exact ⟨rfl, rfl, rfl, ⟨rfl, rfl, rfl⟩, rfl, rfl, rfl, rfl, rfl, rfl, Behind.nil _⟩
  · rw [if_neg hS0]
    exact ⟨rfl, rfl, rfl, ⟨rfl, rfl, rfl⟩, rfl, rfl, rfl, rfl, rfl, (List.append_nil S).symm, Behind.nil _⟩
end Go.Disk
namespace Go.Proofs.Ytkekehngillblaa
open Go Go.Vcg Go.Disk

theorem cow_bytes {C : Type} {w : World} {lab : Nat → C} {c : C} {o o2 : Option Addr} {l cap c2 : Nat} {a b : List UInt8} {ty : TypeId} (h : COw w lab c tU8 1 o l cap (a.map bV)) (hr : RdB w o2 b) (hb : l + b.length ≤ 2 ^ 40) :
    ∃ o' c' w', Sem.run Try.prog (builtinV .append #[tSlU8, tSlU8] ty #[.slice o l cap, .slice o2 b.length c2]) w = .ok (.slice o' (l + b.length) c') w' ∧ COw w' (ext lab w.heap.size c) c tU8 1 o' (l + b.length) c' ((a ++ b).map bV) ∧ Stp (· = c) w lab w' (ext lab w.heap.size c) := by
  obtain ⟨i, hi, h1⟩ := Option.map_eq_some_iff.1 info_u8
  simp only [Prod.mk.injEq] at h1
  rw [List.map_append]
  exact h.append und_slU8 hi h1.1 h1.2.1 rfl (src_bytes und_slU8 hr) (by simp only [maxLen]; omega) (by rw [h1.2.2]; omega)
theorem tmp_ne : ∀ x : DC, ¬ (LC.d x = LC.tmp) := fun x h => by cases h
theorem LD.tmp {w0 w w' : World} {lab lab' : Nat → LC} {d : Nat} {σ : Dk} {n : Nat} (h : LD w0 w lab d σ n) (s : Stp (· = LC.tmp) w lab w' lab') : LD w0 w' lab' d σ n :=
  ⟨h.M.trans (s.mono (fun c e => by rw [e]; simp)), h.D.stp s (fun x => tmp_ne x), h.ok, h.cnt⟩

theorem Torn_calls (w : World) {o0 o1 : Option Addr} {c0 c1 : Nat} (S : List UInt8) (hS : RdB w o0 S) (ls : List (List UInt8)) (hr : RdBB w o1 ls) (n : Int) (hn : -9223372036854775808 ≤ n ∧ n < 9223372036854775808) :
    Calls Try.prog morainelaw1_DiskTorn.n #[.slice o0 S.length c0, .slice o1 ls.length c1, .int .i64 n] w (fun e w' => e = .returned (.bool true) ∧ Vcg.Mod NoB w w') := by
  refine morainelaw1_DiskTorn.vc _ _ _ _ _ _ _ _ _ ?_
  unfold morainelaw1_DiskTorn.Vc
  refine (known_calls w).mono ?_
  rintro _ w1 ⟨rfl, M1⟩
  refine ⟨_, rfl, fun h => (by cases h), fun _ => ⟨fun _ => ⟨rfl, M1⟩, fun h500 => ⟨fun _ => ⟨rfl, M1⟩, fun h20 => ?_⟩⟩⟩
  refine (LD.new w w1 M1 1048576 (by omega)).mono ?_
  rintro _ w2 ⟨d, lab2, rfl, h2⟩
  refine ⟨_, _, rfl, ?_⟩
  obtain ⟨e1, e2, e3, e4, hT⟩ := Torn.start S (by omega)
  refine (h2.create (by omega) nmX).mono ?_
  rintro _ w3 ⟨rfl, lab3, h3⟩
  refine ⟨_, rfl, fun h => (h e1).elim, fun _ => ?_⟩
  refine (h3.append (by omega) nmX (h3.bytes hS) out_sd (by omega)).mono ?_
  rintro _ w4 ⟨rfl, lab4, h4⟩
  refine ⟨_, rfl, fun h => (h e2).elim, fun _ => ?_⟩
  refine (h4.sync (by omega) nmX).mono ?_
  rintro _ w5 ⟨rfl, lab5, h5⟩
  refine ⟨_, rfl, fun h => (h e3).elim, fun _ => ?_⟩
  refine (h5.syncDir (by omega)).mono ?_
  rintro _ w6 ⟨rfl, lab6, h6⟩
  refine ⟨_, rfl, fun h => (h e4).elim, fun _ => ?_⟩
  obtain ⟨o7, c7, w7, hap, ow7, s7⟩ := cow_bytes (c2 := c0) (ty := tSlU8) (a := []) (COw.nil w6 lab6 LC.tmp tU8 1) (hS.mod' h6.nob) (by omega)
  rw [Nat.zero_add, List.nil_append] at ow7
  rw [Nat.zero_add] at hap
  have h7 := h6.tmp s7
  refine ⟨_, w7, hap, _, _, _, rfl, ?_⟩
  generalize ext lab6 w6.heap.size LC.tmp = lab7 at *
  refine ⟨fun o l c i w' => ∃ (j : Nat) (lab' : Nat → LC) (σ : Dk) (F : List UInt8), i = (j : Int) ∧ j ≤ ls.length ∧ F.length ≤ 300 * j ∧ l = S.length + F.length ∧ LD w w' lab' d σ (4 + j) ∧ Torn S F σ ∧ COw w' lab' LC.tmp tU8 1 o l c ((S ++ F).map bV), fun _ _ _ i _ => ((ls.length : Int) - i).toNat,
    ⟨0, lab7, _, [], rfl, Nat.zero_le _, by simp, rfl, h7, hT, by rw [List.append_nil]; exact ow7⟩, ?_⟩
  clear ow7 hT h7 h6 hap s7
  rintro o l c _ _ w8 ⟨j, lab8, σ, F, rfl, hj, hF, rfl, h8, hT, ow8⟩
  refine ⟨fun hlt => ?_, fun hge => ?_⟩
  · have hjl : j < ls.length := by omega
    obtain ⟨b, f, oi, ci, rfl, hbl, hc, hri⟩ := hr j hjl
    generalize ls.getD j [] = x at *
    have cell : ∀ {w' : World}, Vcg.Mod NoB w w' → w'.cell? (Addr.add ⟨b, f, none⟩ (Int.toNat (j : Int))) = some (.slice oi x.length ci) := fun M => by
      rw [Int.toNat_natCast, add_at]; exact (cell_mod M hbl (fun h => h)).trans hc
    refine ⟨_, rfl, by omega, _, _, _, cell h8.nob, fun h300 => ⟨_, rfl, by omega, _, _, _, cell h8.nob, by rw [decide_eq_true h300], h8.nob⟩, fun h300 => ⟨_, rfl, by omega, _, _, _, cell h8.nob, ?_⟩⟩
    obtain ⟨ea, hT'⟩ := hT.app x (by omega)
    -- the row that is kept is beside the disk
    refine (Append_calls LC.inj h8.D (h8.nums (by omega)) (begins_ok h8.ok) nmX (h8.bytes hri) out_sd (by omega)).mono ?_
    rintro _ w9 ⟨rfl, hres⟩
    have hres' := hres
    obtain ⟨lab9, D9, s9⟩ := hres
    have h9 : LD w w9 lab9 d (Disk.append σ nmX x).1 (4 + j + 1) := ⟨h8.M.trans (s9.mono (fun c ⟨y, _, e⟩ => by rw [e]; simp)), D9, append_ok h8.ok nmX x, by rw [append_count]; have := h8.cnt; omega⟩
    have ow9 := ow8.stp s9 tmp_sd
    refine ⟨_, rfl, fun h => (h ea).elim, fun _ => ⟨_, rfl, by omega, _, _, _, cell h9.nob, ?_⟩⟩
    obtain ⟨o10, c10, w10, hap, ow10, s10⟩ := cow_bytes (c2 := ci) (ty := tSlU8) ow9 (hri.mod' h9.nob) (by omega)
    refine ⟨_, w10, hap, _, _, _, rfl, ?_⟩
    rw [show IntKind.wrap .i64 ((j : Int) + 1) = ((j + 1 : Nat) : Int) by rw [wrap_i64_small (by omega) (by omega)]; omega]
    refine ⟨⟨j + 1, _, _, F ++ x, rfl, hjl, by rw [List.length_append]; omega, by rw [List.length_append]; omega, h9.tmp s10, hT', by rw [← List.append_assoc]; exact ow10⟩, by dsimp only; omega⟩
  · rintro d59 w9 ⟨rfl, rfl⟩
    have B9 := CB.new w8 lab8 LC.tmp 3 #[.int .i64 n]
    have s9 : Stp NoC w8 lab8 (w8.alloc (.cells #[.int .i64 n] 3)) (ext lab8 w8.heap.size LC.tmp) := Stp.alloc _ _ _ _ _
    have h9 := h8.step s9
    have ow9 := ow8.stp s9 (fun h => h)
    generalize w8.alloc (.cells #[.int .i64 n] 3) = w9 at *
    have c9 : CInts w9 (ext lab8 w8.heap.size LC.tmp) LC.tmp (some ⟨w8.heap.size, 0, none⟩) [n] := fun i hi => by
      obtain rfl : i = 0 := by simpa using hi
      exact ⟨_, 0, rfl, B9.blk.lt, B9.clr, B9.blk.rd1 rfl⟩
    generalize ext lab8 w8.heap.size LC.tmp = lab9 at *
    refine (Restart_calls LC.inj h9.D h9.ok (Nat.lt_of_le_of_lt h9.cnt (by omega)) 0 c9 tmp_sd (by intro x hx; simp at hx; omega) (by simp)).mono ?_
    rintro _ w10 ⟨rfl, lab10, D10, s10⟩
    have h10 : LD w w10 lab10 d (Disk.restart σ 0 [n]) (4 + j) := ⟨h9.M.trans (s10.mono (fun c ⟨y, _, e⟩ => by rw [e]; simp)), D10, restart_ok h9.ok 0 [n], h9.cnt⟩
    have ow10 := ow9.stp s10 tmp_sd
    refine ⟨rfl, ?_⟩
    refine (Read_calls h10.D h10.ok nmX LC.out).mono ?_
    rintro _ w11 ⟨o11, c11, rfl, lab11, D11, ow11, s11⟩
    have hal := ow10.stp s11 tmp_sd
    rw [hT.end n] at ow11 ⊢
    refine ⟨_, _, _, _, rfl, fun _ => ?_, fun h => (h rfl).elim⟩
    have hll := hal.own.cap
    simp only [maxLen] at hll
    have e1 : IntKind.wrap .i64 (((S.length + F.length : Nat) : Int) - ((S.length : Nat) : Int)) = (F.length : Int) := by rw [wrap_i64_small (by omega) (by omega)]; omega
    have e2 : IntKind.wrap .i64 (((S.length : Nat) : Int) + max 0 (min n (F.length : Int))) = ((S.length + (max 0 (min n (F.length : Int))).toNat : Nat) : Int) := by rw [wrap_i64_small (by omega) (by omega)]; omega
    rw [e1, e2, Int.toNat_natCast]
    generalize hK : S.length + (max 0 (min n (F.length : Int))).toNat = K at *
    have hKl : K ≤ S.length + F.length := by omega
    refine ⟨by omega, ?_⟩
    have hr2 := hal.bytes.rd.take K
    have hlen : ((S ++ F).take K).length = K := by rw [List.length_take, List.length_append]; omega
    have hB := Bytes_calls (c1 := c11) (c2 := c) ow11.bytes.rd hr2
    simp only at hB
    rw [hlen] at hB ⊢
    refine hB.mono ?_
    rintro _ _ ⟨rfl, rfl⟩
    exact ⟨_, rfl, by simp, (h10.M.trans (s11.mono (fun c ⟨y, _, e⟩ => by rw [e]; simp))).nob (fun k _ hk => hk rfl)⟩
end Go.Proofs.Ytkekehngillblaa
end

section
set_option linter.unusedVariables false
set_option linter.unusedSimpArgs false
namespace Go.Disk
open Go.Vcg
/-! ### one name behind the other -/
def chr (i : Nat) : Nm := ⟨#[UInt8.ofNat (97 + i)]⟩
structure Moved (k : Nat) (d : Dk) : Prop where
  quiet : Quiet d
  names : d.names = [(chr k, 0)]
  sure : d.sure = [(chr 0, 0)]
  pend : d.pend = (List.range k).map fun i => Chg.ren (chr i) (chr (i + 1))
theorem chr_right : ∀ i : Fin 26, right (chr i) = true := by decide +kernel
theorem chr_ne : ∀ i : Fin 25, chr i ≠ chr (i + 1) := by decide +kernel
theorem ren_one {k : Nat} (hk : k < 25) : Chg.on [(chr k, 0)] (.ren (chr k) (chr (k + 1))) = [(chr (k + 1), 0)] := by
  have h := chr_ne ⟨k, hk⟩
  simp [Chg.on, assoc, put, without]
theorem Moved.step {k : Nat} {d : Dk} (h : Moved k d) (hk : k < 25) : (rename d (chr k) (chr (k + 1))).2 = 0 ∧ Moved (k + 1) (rename d (chr k) (chr (k + 1))).1 := by
  have e : rename d (chr k) (chr (k + 1)) = (does { d with count := d.count + 1 } (.ren (chr k) (chr (k + 1))), 0) := by
    unfold rename
    rw [begins_quiet h.quiet]
    have h1 : right (chr k) = true := chr_right ⟨k, by omega⟩
    have h2 : right (chr (k + 1)) = true := chr_right ⟨k + 1, by omega⟩
    have h3 : assoc (chr k) d.names = some 0 := by rw [h.names]; simp [assoc]
    have h4 : chr k ≠ chr (k + 1) := chr_ne ⟨k, hk⟩
    simp only [if_true, h1, h2, Bool.and_self, h3, if_neg h4]
  rw [e]
  refine ⟨rfl, ⟨h.quiet.fail, h.quiet.halt, h.quiet.down⟩, ?_, h.sure, ?_⟩
  · show Chg.on d.names (.ren (chr k) (chr (k + 1))) = _
    rw [h.names, ren_one hk]
  · show d.pend ++ [Chg.ren (chr k) (chr (k + 1))] = _
    rw [h.pend, List.range_succ, List.map_append]; rfl
theorem moved_fold {k : Nat} (hk : k ≤ 25) : ∀ m, m ≤ k → (((List.range k).map fun i => Chg.ren (chr i) (chr (i + 1))).take m).foldl Chg.on [(chr 0, 0)] = [(chr m, 0)]
  | 0, _ => rfl
  | m + 1, h => by
    rw [foldl_take_succ _ _ _ (by simp; omega), moved_fold hk m (by omega)]
    simp only [List.getElem_map, List.getElem_range]
    exact ren_one (by omega)
theorem Moved.end {k : Nat} {d : Dk} (h : Moved k d) (hk : k ≤ 25) (n : Int) : (restart d n []).names = [(chr (max 0 (min n k)).toNat, 0)] ∧ (restart d n []).down = false := by
  refine ⟨?_, rfl⟩
  show (d.pend.take (min (max n 0) d.pend.length).toNat).foldl Chg.on d.sure = _
  have hl : d.pend.length = k := by rw [h.pend]; simp
  rw [hl, h.pend, h.sure, moved_fold hk _ (by omega)]
  congr 3
  omega
theorem Moved.start : (create (new 100) (chr 0)).2 = 0 ∧ (syncDir (create (new 100) (chr 0)).1).2 = 0 ∧ Moved 0 (syncDir (create (new 100) (chr 0)).1).1 :=
  ⟨rfl, rfl, ⟨rfl, rfl, rfl⟩, rfl, rfl, rfl⟩
end Go.Disk
end

section
namespace Go.Proofs.Ytkekehngillblaa
open Go Go.Proofs Go.RowKit Go.Maps Go.Sort Go.Shelf
def Try.keys36_ren : Go.Shelf.Ren := ⟨fun | 7 => 36 | 10 => 59 | n => n, fun | 23 => 58 | 26 => 9 | 3 => 62 | 28 => 82 | 0 => 0 | 27 => 81 | 33 => 107 | 4 => 4 | n => n, fun | n => n⟩
theorem Try.keys36 : Go.Proofs.SlLaysZ.n7 Try.prog Try.keys36_ren where
  mixed := by kernel_rfl
  f7 := ⟨ "maps.Keys[moraine/disk.naming,string,*moraine/disk.file]", by decide, Try.func36.trans (congrArg some (by kernel_rfl))⟩
  f10 := ⟨ "maps.Keys[moraine/disk.naming,string,*moraine/disk.file]$1", by decide, Try.func59.trans (congrArg some (by kernel_rfl))⟩
  t0 := Try.underlying0
  a0 := Try.isAgg0
  z0 := Try.sizeOf0
  v0 := Try.zeroValue0
  t4 := Try.underlying4
  a4 := Try.isAgg4
  z4 := Try.sizeOf4
  v4 := Try.zeroValue4
  t23 := Try.underlying58
  a23 := Try.isAgg58
  z23 := Try.sizeOf58
  v23 := Try.zeroValue58
  t26 := Try.underlying9
  a26 := Try.isAgg9
  z26 := Try.sizeOf9
  v26 := Try.zeroValue9
  t27 := Try.underlying81
  a27 := Try.isAgg81
  z27 := Try.sizeOf81
  v27 := Try.zeroValue81
  t28 := Try.underlying82
  a28 := Try.isAgg82
  z28 := Try.sizeOf82
  v28 := Try.zeroValue82
  t33 := Try.underlying107
  a33 := Try.isAgg107
  z33 := Try.sizeOf107
  v33 := Try.zeroValue107
def Try.sorted35_ren : Go.Shelf.Ren := ⟨fun | 6 => 35 | 8 => 57 | 9 => 58 | 11 => 72 | 13 => 74 | 12 => 73 | 23 => 90 | 24 => 91 | 14 => 81 | 15 => 82 | 16 => 83 | 17 => 84 | 18 => 85 | 19 => 86 | 20 => 87 | 21 => 88 | 22 => 89 | 25 => 92 | 26 => 93 | 27 => 94 | 28 => 95 | 29 => 96 | 30 => 97 | 31 => 98 | n => n, fun | 26 => 9 | 28 => 82 | 24 => 43 | 0 => 0 | 3 => 3 | 37 => 135 | 48 => 149 | 50 => 151 | 4 => 4 | 40 => 141 | 39 => 140 | 45 => 146 | 5 => 5 | 9 => 9 | 51 => 152 | 55 => 156 | 57 => 158 | 58 => 159 | 33 => 107 | n => n, fun | n => n⟩
theorem Try.sorted35 : Go.Proofs.SlLaysZ.n6 Try.prog Try.sorted35_ren where
  mixed := by kernel_rfl
  f6 := ⟨ "slices.Sorted[string]", by decide, Try.func35.trans (congrArg some (by kernel_rfl))⟩
  f8 := ⟨ "slices.Collect[string]", by decide, Try.func57.trans (congrArg some (by kernel_rfl))⟩
  f11 := ⟨ "slices.AppendSeq[[]string,string]", by decide, Try.func72.trans (congrArg some (by kernel_rfl))⟩
  t0 := Try.underlying0
  a0 := Try.isAgg0
  z0 := Try.sizeOf0
  v0 := Try.zeroValue0
  t24 := Try.underlying43
  a24 := Try.isAgg43
  z24 := Try.sizeOf43
  v24 := Try.zeroValue43
  t26 := Try.underlying9
  a26 := Try.isAgg9
  z26 := Try.sizeOf9
  v26 := Try.zeroValue9
  t28 := Try.underlying82
  a28 := Try.isAgg82
  z28 := Try.sizeOf82
  v28 := Try.zeroValue82
  i26 := by kernel_rfl
def Try.sort58_ren : Go.Shelf.Ren := ⟨fun | 6 => 58 | 8 => 74 | 9 => 73 | 19 => 90 | 20 => 91 | 21 => 81 | 22 => 82 | 23 => 83 | 24 => 84 | 25 => 85 | 26 => 86 | 27 => 87 | 28 => 88 | 29 => 89 | 36 => 92 | 31 => 93 | 32 => 94 | 37 => 95 | 38 => 96 | 39 => 97 | 41 => 98 | n => n, fun | 27 => 43 | 29 => 9 | 3 => 3 | 32 => 135 | 26 => 43 | 0 => 0 | 44 => 149 | 46 => 151 | 4 => 4 | 36 => 141 | 35 => 140 | 41 => 146 | 5 => 5 | 9 => 9 | 53 => 152 | 57 => 156 | 63 => 158 | 64 => 159 | n => n, fun | n => n⟩
theorem Try.sort58 : Go.Proofs.SlLaysM.n6 Try.prog Try.sort58_ren where
  mixed := by kernel_rfl
  f6 := ⟨ "slices.Sort[[]string,string]", by decide, Try.func58.trans (congrArg some (by kernel_rfl))⟩
  f8 := Try.func74.trans (congrArg some (by kernel_rfl))
  f9 := ⟨ "slices.pdqsortOrdered[string]", by decide, Try.func73.trans (congrArg some (by kernel_rfl))⟩
  f19 := Try.func90.trans (congrArg some (by kernel_rfl))
  f20 := Try.func91.trans (congrArg some (by kernel_rfl))
  f21 := ⟨ "slices.insertionSortOrdered[string]", by decide, Try.func81.trans (congrArg some (by kernel_rfl))⟩
  f22 := ⟨ "slices.heapSortOrdered[string]", by decide, Try.func82.trans (congrArg some (by kernel_rfl))⟩
  f23 := ⟨ "slices.breakPatternsOrdered[string]", by decide, Try.func83.trans (congrArg some (by kernel_rfl))⟩
  f24 := ⟨ "slices.choosePivotOrdered[string]", by decide, Try.func84.trans (congrArg some (by kernel_rfl))⟩
  f25 := ⟨ "slices.reverseRangeOrdered[string]", by decide, Try.func85.trans (congrArg some (by kernel_rfl))⟩
  f26 := ⟨ "slices.partialInsertionSortOrdered[string]", by decide, Try.func86.trans (congrArg some (by kernel_rfl))⟩
  f27 := ⟨ "cmp.Less[string]", by decide, Try.func87.trans (congrArg some (by kernel_rfl))⟩
  f28 := ⟨ "slices.partitionEqualOrdered[string]", by decide, Try.func88.trans (congrArg some (by kernel_rfl))⟩
  f29 := ⟨ "slices.partitionOrdered[string]", by decide, Try.func89.trans (congrArg some (by kernel_rfl))⟩
  f31 := Try.func93.trans (congrArg some (by kernel_rfl))
  f32 := Try.func94.trans (congrArg some (by kernel_rfl))
  f36 := ⟨ "slices.siftDownOrdered[string]", by decide, Try.func92.trans (congrArg some (by kernel_rfl))⟩
  f37 := ⟨ "slices.medianAdjacentOrdered[string]", by decide, Try.func95.trans (congrArg some (by kernel_rfl))⟩
  f38 := ⟨ "slices.medianOrdered[string]", by decide, Try.func96.trans (congrArg some (by kernel_rfl))⟩
  f39 := ⟨ "cmp.isNaN[string]", by decide, Try.func97.trans (congrArg some (by kernel_rfl))⟩
  f41 := ⟨ "slices.order2Ordered[string]", by decide, Try.func98.trans (congrArg some (by kernel_rfl))⟩
  t0 := Try.underlying0
  a0 := Try.isAgg0
  z0 := Try.sizeOf0
  v0 := Try.zeroValue0
  t3 := Try.underlying3
  a3 := Try.isAgg3
  z3 := Try.sizeOf3
  v3 := Try.zeroValue3
  t4 := Try.underlying4
  a4 := Try.isAgg4
  z4 := Try.sizeOf4
  v4 := Try.zeroValue4
  t5 := Try.underlying5
  a5 := Try.isAgg5
  z5 := Try.sizeOf5
  v5 := Try.zeroValue5
  t9 := Try.underlying9
  a9 := Try.isAgg9
  z9 := Try.sizeOf9
  v9 := Try.zeroValue9
  t26 := Try.underlying43
  a26 := Try.isAgg43
  z26 := Try.sizeOf43
  v26 := Try.zeroValue43
  t27 := Try.underlying43
  a27 := Try.isAgg43
  z27 := Try.sizeOf43
  v27 := Try.zeroValue43
  t29 := Try.underlying9
  a29 := Try.isAgg9
  z29 := Try.sizeOf9
  v29 := Try.zeroValue9
  t32 := Try.underlying135
  a32 := Try.isAgg135
  z32 := Try.sizeOf135
  v32 := Try.zeroValue135
  t35 := Try.underlying140
  a35 := Try.isAgg140
  z35 := Try.sizeOf140
  v35 := Try.zeroValue140
  t36 := Try.underlying141
  a36 := Try.isAgg141
  z36 := Try.sizeOf141
  v36 := Try.zeroValue141
  t41 := Try.underlying146
  a41 := Try.isAgg146
  z41 := Try.sizeOf146
  v41 := Try.zeroValue146
  t44 := Try.underlying149
  a44 := Try.isAgg149
  z44 := Try.sizeOf149
  v44 := Try.zeroValue149
  t46 := Try.underlying151
  a46 := Try.isAgg151
  z46 := Try.sizeOf151
  v46 := Try.zeroValue151
  t53 := Try.underlying152
  a53 := Try.isAgg152
  z53 := Try.sizeOf152
  v53 := Try.zeroValue152
  t57 := Try.underlying156
  a57 := Try.isAgg156
  z57 := Try.sizeOf156
  v57 := Try.zeroValue156
  t63 := Try.underlying158
  a63 := Try.isAgg158
  z63 := Try.sizeOf158
  v63 := Try.zeroValue158
  t64 := Try.underlying159
  a64 := Try.isAgg159
  z64 := Try.sizeOf159
  v64 := Try.zeroValue159

theorem Try.sorts35 (m : Nat) : AnyZ.SortsIn Try.prog Try.sorted35_ren Fence.wide m :=
  ⟨fun blk off cap ss W hH hblk hsz => callsIn_wide.2 (AnyM.slices_Sort_string Try.sort58 blk off cap ss W hH hblk hsz),
   fun p cap W => callsIn_wide.2 (AnyM.slices_Sort_string_none Try.sort58 p cap W)⟩

theorem maps_Keys_calls (mb : Option Nat) (W : World) : Calls Try.prog 36 #[.map mb] W fun e w' => e = .returned (.func (.func 59) #[] #[.pointer (some ⟨W.heap.size, 0, none⟩)]) ∧ w' = W.alloc (.cells #[.map mb] 58) :=
  (callsIn_wide (n := 5)).1 (AnyZ.keys_in Try.keys36 Fence.wide 5 trivial rfl mb W)

set_option maxHeartbeats 1000000 in
/-- `slices.Sorted(maps.Keys(m))`: the names in order. -/
theorem slices_Sorted_keys_calls {H : Type} (b nn : Nat) (D0 : DataW H) (R : Value → Option (DataW H × List MemPlace)) (w : World) (hown : w.ownsMap Try.prog 9 R b nn D0) (hmax : Maps.size D0 ≤ maxLen) (hbytes : Maps.size D0 * 16 ≤ 140737488355328) :
    Calls Try.prog 35 #[.func (.func 59) #[] #[.pointer (some ⟨w.heap.size, 0, none⟩)]] (w.alloc (.cells #[.map (some b)] 58)) fun e w' => ∃ (v : Value) (ss : List (List UInt8)), e = .returned v ∧ ss.Perm (strKeys D0) ∧
      w'.ownsRow (w.alloc (.cells #[.map (some b)] 58)).heap.size 9 1 v ss.length ((ss.mergeSort (fun x y => decide (x ≤ y))).map encStr) ∧ (v = .slice none 0 0 ↔ ss = []) ∧ Below (w.alloc (.cells #[.map (some b)] 58)).heap.size (w.alloc (.cells #[.map (some b)] 58)) w' := by
  have hbl := hown.lt
  have hseq : SeqGives Fence.wide 2 Try.prog 59 #[.pointer (some ⟨w.heap.size, 0, none⟩)] encStr (fun ss => ss.Perm (strKeys D0)) (Maps.size D0) (w.alloc (.cells #[.map (some b)] 58)) :=
    AnyZ.keys_gives (ρ := Try.keys36_ren) { Try.keys36 with } Fence.wide _ trivial rfl (by omega) w.heap.size b nn D0 _ (by simp) (by simp) (by
      obtain ⟨es, clock, hb, Ft, hs, hD⟩ := hown
      exact ⟨es, clock, (Below.heap_alloc _ _ b hbl).trans hb, Ft, hs, hD⟩)
  exact (callsIn_wide (n := 5)).1 (AnyZ.sorted_in Try.sorted35 Fence.wide 5 trivial trivial trivial trivial rfl (by omega) (Try.sorts35 _) (enters_of Try.func58 (by kernel_rfl) rfl) 59 #[.pointer (some ⟨w.heap.size, 0, none⟩)] trivial (enters_of Try.func59 (by kernel_rfl) rfl) _ _ hmax hbytes _ hseq)
end Go.Proofs.Ytkekehngillblaa
end

section
set_option linter.unusedVariables false
set_option linter.unusedSimpArgs false
namespace Go.Disk
open Go.Vcg
/-- Names in order. -/
def inOrder (l : List (List UInt8)) : List (List UInt8) := l.mergeSort (fun x y => decide (x ≤ y))
def namesOf (d : Dk) : List (List UInt8) := inOrder (d.names.map fun x => x.1.data.toList)
theorem leB_trans (a b c : List UInt8) (h1 : decide (a ≤ b) = true) (h2 : decide (b ≤ c) = true) : decide (a ≤ c) = true := by
  simp only [decide_eq_true_eq] at *
  exact List.le_trans h1 h2
theorem leB_total (a b : List UInt8) : (decide (a ≤ b) || decide (b ≤ a)) = true := by
  simp only [Bool.or_eq_true, decide_eq_true_eq]
  exact List.le_total a b
theorem inOrder_perm {l l' : List (List UInt8)} (h : l.Perm l') : inOrder l = inOrder l' := by
  refine List.Perm.eq_of_pairwise (le := fun x y => decide (x ≤ y) = true) ?_ (List.pairwise_mergeSort leB_trans leB_total l) (List.pairwise_mergeSort leB_trans leB_total l') ?_
  · intro a b _ _ h1 h2
    simp only [decide_eq_true_eq] at h1 h2
    exact List.le_antisymm h1 h2
  · exact ((List.mergeSort_perm _ _).trans h).trans (List.mergeSort_perm _ _).symm
end Go.Disk
namespace Go.Proofs.Ytkekehngillblaa
open Go Go.Vcg Go.Disk Go.Maps
open Go.WideElems (Fit rd rg rd_mk rg_of)

section
variable {C : Type} {w w' : World} {lab lab' : Nat → C} {γ : DC → C} {d : Nat} {σ : Dk} {c : C}
/-- A map of names, to the shelf's eyes. -/
theorem names_own {m : Nat} {es : List (Nm × Value)} (h : CM NmGood Value.string w lab c m es) (hl : es.length ≤ maxLen) :
    ∃ D : DataW Unit, w.ownsMap Try.prog tStr (fun _ => some (.lit (.bool true), [])) m es.length D ∧ (strKeys D).Perm (es.map fun x => x.1.data.toList) ∧ Maps.size D = es.length := by
  obtain ⟨A, clock, h1, h2, h3, h4⟩ := h.map
  have hA : A.size = es.length := by
    have := congrArg List.length h3
    simpa using this
  have hr : ∀ x ∈ A.toList, ∃ s : Nm, x.key = .string s ∧ rd (H := Unit) Try.prog tStr (fun _ => some (.lit (.bool true), [])) x = some (.string s.data.toList, .lit (.bool true)) := by
    intro x hx
    have hm : cellE x ∈ es.map (dec Value.string) := by rw [← h3]; exact List.mem_map_of_mem hx
    obtain ⟨y, hy, he⟩ := List.mem_map.1 hm
    have hk : x.key = .string y.1 := (congrArg Prod.fst he).symm
    refine ⟨y.1, hk, ?_⟩
    obtain ⟨k, v, b⟩ := x
    simp only at hk
    subst hk
    exact rd_mk (yv := (.lit (.bool true), [])) (Go.WideMaps.keyOf_string_mk und_str (h4 y hy)) rfl
  refine ⟨_, ⟨A, clock, h1, ⟨by rw [hA]; exact hl, h2, fun x hx => let ⟨_, _, e⟩ := hr x hx; ⟨_, e⟩⟩, Nat.le_of_eq hA, rfl⟩, ?_, ?_⟩
  · have p := (Go.WideShapes.sorted_perm (A.toList.map (rg (H := Unit) Try.prog tStr (fun _ => some (.lit (.bool true), [])))))
    refine (p.map fun q => strOf q.1).trans (List.Perm.of_eq ?_)
    have e : (A.toList.map cellE).map (fun q => strOf ((keyOf Try.prog tStr q.1).getD (.bool false))) = (es.map (dec Value.string)).map (fun q => strOf ((keyOf Try.prog tStr q.1).getD (.bool false))) := by rw [h3]
    rw [List.map_map, List.map_map] at e
    rw [List.map_map]
    rw [show es.map (fun x => x.1.data.toList) = es.map ((fun q : Value × Value => strOf ((keyOf Try.prog tStr q.1).getD (.bool false))) ∘ dec Value.string) from ?_, ← e]
    · refine List.map_congr_left fun x hx => ?_
      obtain ⟨s, hk, hs⟩ := hr x hx
      simp only [Function.comp, rg_of hs, cellE, Go.WideElems.rd_key hs, Option.getD_some]
    · refine List.map_congr_left fun x hx => ?_
      simp only [Function.comp, dec, Go.WideMaps.keyOf_string_mk und_str (h4 x hx), Option.getD_some, strOf]
  · show List.length _ = _
    rw [(Go.WideShapes.sorted_perm _).length_eq, List.length_map, Array.length_toList, hA]

/-- A row of strings that can be read. -/
def RdT (w : World) (o : Option Addr) (ls : List (List UInt8)) : Prop :=
  ∀ i, i < ls.length → ∃ b f, o = some ⟨b, f, none⟩ ∧ b < w.heap.size ∧ w.cell? ⟨b, f + i, none⟩ = some (.string ⟨(ls.getD i []).toArray⟩)
theorem RdT.mod {o : Option Addr} {ls : List (List UInt8)} (h : RdT w o ls) (m : Vcg.Mod NoB w w') : RdT w' o ls := by
  intro i hi
  obtain ⟨b, f, e, hl, hc⟩ := h i hi
  exact ⟨b, f, e, Nat.lt_of_lt_of_le hl m.size, (cell_mod m hl (fun h => h)).trans hc⟩
theorem RdT.of_row {base : Nat} {v : Value} {n : Nat} {ls : List (List UInt8)} (h : w.ownsRow base tStr 1 v n (ls.map Go.Proofs.encStr)) : ∃ o c, v = .slice o ls.length c ∧ n = ls.length ∧ RdT w o ls := by
  obtain ⟨h1, h2⟩ := h
  have hn : ls.length = n := by simpa using h1
  subst hn
  rcases h2 with ⟨rfl, h0⟩ | ⟨g, cap, cur, rfl, hb, hblk, hc, hm, hs, ht⟩
  · exact ⟨none, 0, by rw [h0], rfl, fun i hi => by omega⟩
  · refine ⟨_, _, rfl, rfl, fun i hi => ⟨g, 0, rfl, (Array.getElem?_eq_some_iff.1 hblk).1, ?_⟩⟩
    rw [Blk.cell (t := tStr) (cs := cur) hblk, Nat.zero_add]
    have : (ls.map Go.Proofs.encStr)[i]? = some (.string ⟨(ls.getD i []).toArray⟩) := by
      rw [List.getElem?_map, List.getElem?_eq_getElem hi]
      simp [Go.Proofs.encStr, List.getD_eq_getElem?_getD, hi]
    rw [← ht, List.getElem?_take, if_pos (by omega)] at this
    simpa using this

theorem nodup_le : ∀ (n : Nat) (l : List Nat), l.Nodup → (∀ x ∈ l, x < n) → l.length ≤ n
  | 0, l, _, h => by cases l with | nil => simp | cons a r => exact absurd (h a (by simp)) (by omega)
  | n + 1, l, hn, h => by
    have h1 := nodup_le n (l.erase n) (hn.erase n) (fun x hx => by
      have h2 := h x (List.mem_of_mem_erase hx)
      have h3 : x ≠ n := ((hn.mem_erase_iff).1 hx).1
      omega)
    have h2 := List.length_erase (a := n) (l := l)
    split at h2 <;> omega
theorem names_len {files : Nat} {l : List (Nm × Nat)} (h : NamesOk files l) (hf : files ≤ 1048576) : l.length ≤ 1048576 := by
  have h1 := nodup_le files (l.map Prod.snd) h.vals (fun x hx => by obtain ⟨y, hy, rfl⟩ := List.mem_map.1 hx; exact h.files y hy)
  simp at h1
  omega

theorem Names_calls (h : DAt w lab γ d σ) (hk : Ok σ) :
    Calls Try.prog disk_Disk_Names.n #[.pointer (some ⟨d, 0, none⟩)] w (fun e w' => ∃ o k, Vcg.Mod NoB w w' ∧
      (if σ.down then e = .returned (.tuple #[.slice none 0 0, .int .i64 17]) else e = .returned (.tuple #[.slice o (namesOf σ).length k, .int .i64 0]) ∧ RdT w' o (namesOf σ))) := by
  obtain ⟨mN, mS, po, pl, pc, fb, B, Rt⟩ := h
  refine calls_gen fun R hR => disk_Disk_Names.vc _ _ _ ?_
  unfold disk_Disk_Names.Vc
  simp only [add_at, Nat.zero_add]
  refine ⟨_, B.blk.rd1 rfl, fun hd => hR _ _ ⟨none, 0, Mod.refl _, by rw [if_pos hd]⟩, fun hd => ⟨_, B.blk.rd1 rfl, ?_⟩⟩
  obtain ⟨es, hm, hp⟩ := Rt.names
  have hl : es.length ≤ 1048576 := by rw [hp.length_eq, List.length_map]; exact names_len hk.names hk.files
  obtain ⟨D, hD, hperm, hsz⟩ := names_own hm (by simp only [maxLen]; omega)
  refine (maps_Keys_calls _ _).mono ?_
  rintro _ w1 ⟨rfl, rfl⟩
  refine ⟨_, rfl, ?_⟩
  refine (slices_Sorted_keys_calls _ _ D _ w hD (by rw [hsz]; simp only [maxLen]; omega) (by rw [hsz]; omega)).mono ?_
  rintro _ w2 ⟨v, ss, rfl, hss, hrow, _, hb⟩
  have hss' : ss.mergeSort (fun x y => decide (x ≤ y)) = namesOf σ := by
    refine inOrder_perm (hss.trans (hperm.trans ?_))
    have := hp.map (fun x : Nm × Value => x.1.data.toList)
    rwa [List.map_map] at this
  rw [hss'] at hrow
  obtain ⟨o, c, rfl, hn, hr⟩ := RdT.of_row hrow
  refine ⟨_, _, _, rfl, hR _ _ ⟨o, c, ?_, by rw [if_neg (by rw [hd]; simp)]; exact ⟨rfl, hr⟩⟩⟩
  have M1 := Mod.alloc (S := NoB) w (.cells #[.map (some mN)] 58)
  have M2 : Vcg.Mod NoB (w.alloc (.cells #[.map (some mN)] 58)) w2 := ⟨hb.os, hb.tape, hb.output, hb.size, fun k hk _ => hb.block k hk⟩
  exact M1.trans M2 (fun _ _ h => h)
end
end Go.Proofs.Ytkekehngillblaa
end

section
set_option linter.unusedVariables false
set_option linter.unusedSimpArgs false
namespace Go.Proofs.Ytkekehngillblaa
open Go Go.Vcg Go.Disk

theorem LD.names {w0 w : World} {lab : Nat → LC} {d : Nat} {σ : Dk} {n : Nat} (h : LD w0 w lab d σ n) (hd : σ.down = false) : Calls Try.prog disk_Disk_Names.n #[.pointer (some ⟨d, 0, none⟩)] w (fun e w' => ∃ o k,
    e = .returned (.tuple #[.slice o (namesOf σ).length k, .int .i64 0]) ∧ RdT w' o (namesOf σ) ∧ ∃ lab', LD w0 w' lab' d σ n) :=
  (Names_calls h.D h.ok).mono fun e w' ⟨o, k, M, hx⟩ => by
    rw [if_neg (by rw [hd]; simp)] at hx
    exact ⟨o, k, hx.1, hx.2, _, h.step (Stp.of_nob M LC.tmp)⟩
abbrev abc : Nm := ⟨#[97, 98, 99, 100, 101, 102, 103, 104, 105, 106, 107, 108, 109, 110, 111, 112, 113, 114, 115, 116, 117, 118, 119, 120, 121, 122]⟩
theorem abc_chr' : ∀ i : Fin 26, (ByteArray.extract abc i.val (i.val + 1)).data.toList = (chr i.val).data.toList := by decide +kernel
theorem abc_chr {i a b : Nat} (h : i < 26) (ha : a = i) (hb : b = i + 1) : ByteArray.extract abc a b = chr i := by
  subst ha hb
  have := abc_chr' ⟨a, h⟩
  have h2 : (ByteArray.extract abc a (a + 1)).data = (chr a).data := Array.toList_inj.1 this
  cases h1 : ByteArray.extract abc a (a + 1)
  rw [h1] at h2
  simp only at h2
  rw [h2]
theorem mini (a b : Int) : ((max 0 (min a b) : Int)).toNat = (max 0 (min a b)).toNat := rfl

theorem Moved_calls (w : World) (k n : Int) (hn : -9223372036854775808 ≤ n ∧ n < 9223372036854775808) :
    Calls Try.prog morainelaw1_DiskMoved.n #[.int .i64 k, .int .i64 n] w (fun e w' => e = .returned (.bool true) ∧ Vcg.Mod NoB w w') := by
  refine calls_gen fun R hR => morainelaw1_DiskMoved.vc _ _ _ _ ?_
  unfold morainelaw1_DiskMoved.Vc
  refine (known_calls w).mono ?_
  rintro _ w1 ⟨rfl, M1⟩
  refine ⟨_, rfl, fun h => (by cases h), fun _ => ⟨fun _ => hR _ _ ⟨rfl, M1⟩, fun hk1 => ⟨fun _ => hR _ _ ⟨rfl, M1⟩, fun hk20 => ?_⟩⟩⟩
  obtain ⟨K, rfl⟩ : ∃ K : Nat, k = ((K + 1 : Nat) : Int) := ⟨(k - 1).toNat, by omega⟩
  have hK : K < 20 := by omega
  refine (LD.new w w1 M1 100 (by omega)).mono ?_
  rintro _ w2 ⟨d, lab2, rfl, h2⟩
  refine ⟨_, _, rfl, ?_⟩
  obtain ⟨e1, e2, hT⟩ := Moved.start
  refine (h2.create (by omega) (chr 0)).mono ?_
  rintro _ w3 ⟨rfl, lab3, h3⟩
  refine ⟨_, rfl, fun h => (h e1).elim, fun _ => ?_⟩
  refine (h3.syncDir (by omega)).mono ?_
  rintro _ w4 ⟨rfl, lab4, h4⟩
  refine ⟨_, rfl, fun h => (h e2).elim, fun _ => ?_⟩
  refine ⟨fun i w' => ∃ (j : Nat) (lab' : Nat → LC) (σ : Dk), i = ((j + 1 : Nat) : Int) ∧ j ≤ K ∧ LD w w' lab' d σ (2 + j) ∧ Moved j σ, fun i _ => (((K + 1 : Nat) : Int) - i).toNat,
    ⟨0, lab4, _, rfl, Nat.zero_le _, h4, hT⟩, ?_⟩
  clear hT h4 h3 h2
  rintro _ _ w5 ⟨j, lab5, σ, rfl, hj, h5, hT⟩
  have ew1 : IntKind.wrap .i64 (((j + 1 : Nat) : Int) - 1) = (j : Int) := by rw [wrap_i64_small (by omega) (by omega)]; omega
  have ew2 : IntKind.wrap .i64 (((j + 1 : Nat) : Int) + 1) = ((j + 1 + 1 : Nat) : Int) := by rw [wrap_i64_small (by omega) (by omega)]; omega
  have hsz : (((ByteArray.size abc) : Nat) : Int) = 26 := rfl
  refine ⟨fun hlt => ?_, fun hge => ?_⟩
  · rintro w6 rfl
    have h6 : LD w w5.drew lab5 d σ (2 + j) := h5.step (Stp.drew NoC w5 lab5)
    rw [ew1, ew2, hsz]
    refine ⟨by omega, by omega, by omega, by omega, ?_⟩
    rw [abc_chr (i := j) (by omega) (by omega) (by omega), abc_chr (i := j + 1) (by omega) (by omega) (by omega)]
    obtain ⟨er, hT'⟩ := hT.step (by omega)
    refine (h6.rename (by omega) (chr j) (chr (j + 1))).mono ?_
    rintro _ w7 ⟨rfl, lab7, h7⟩
    refine ⟨_, rfl, fun h => (h er).elim, fun _ => ⟨⟨j + 1, lab7, _, rfl, by omega, h7, hT'⟩, by dsimp only; omega⟩⟩
  · obtain rfl : j = K := by omega
    obtain ⟨en, ed⟩ := hT.end (by omega) n
    refine (h5.restart (by omega) n (o := none) (c := 0) (is := []) (cb := LC.tmp) (fun i hi => by simp at hi) tmp_sd (by simp) (by simp)).mono ?_
    rintro _ w7 ⟨rfl, lab7, h7⟩
    refine ⟨rfl, ?_⟩
    refine (h7.names ed).mono ?_
    rintro _ w8 ⟨o, c, rfl, hr, lab8, h8⟩
    refine ⟨_, _, _, _, rfl, ?_⟩
    rintro w9 rfl
    have h9 : LD w w8.drew lab8 d _ (2 + j) := h8.step (Stp.drew NoC w8 lab8)
    have hr9 := hr.mod (Mod.drew (S := NoB) w8)
    have enm : namesOf (Disk.restart σ n []) = [(chr (max 0 (min n (j : Int))).toNat).data.toList] := by
      unfold namesOf
      rw [en]; exact List.mergeSort_singleton _
    generalize Disk.restart σ n [] = τ at *
    rw [enm] at hr9
    rw [enm]
    obtain ⟨b, f, rfl, hb, hc⟩ := hr9 0 (by simp)
    refine ⟨fun _ => ⟨fun _ => ⟨_, rfl, by simp, _, by rw [add_at]; exact hc, ?_⟩, fun h => (h rfl).elim⟩, fun h => (h rfl).elim⟩
    have ew3 : IntKind.wrap .i64 (((j + 1 : Nat) : Int) - 1) = (j : Int) := ew1
    rw [ew3]
    generalize hu : max 0 (min n (j : Int)) = u
    have hu1 : 0 ≤ u ∧ u ≤ j := by omega
    have ew4 : IntKind.wrap .i64 (u + 1) = u + 1 := wrap_i64_small (by omega) (by omega)
    rw [ew4, hsz]
    refine ⟨by omega, by omega, hR _ _ ⟨?_, h9.nob⟩⟩
    rw [abc_chr (i := u.toNat) (by omega) rfl (by omega), strB_eql]
    simp
end Go.Proofs.Ytkekehngillblaa
end

section
set_option linter.unusedVariables false
namespace Go.Vcg

/-- A row made since w0, the rest as it was. -/
structure Fresh (w0 w : World) (e : TypeId) (sz : Nat) (o : Option Addr) (l c : Nat) (xs : List Value) : Prop where
  own : Own w e sz o l c xs
  mod : Mod NoB w0 w
  new : ∀ k, OB o k → w0.heap.size ≤ k
variable {P : Program} {w0 w w' : World} {e t tx ty : TypeId} {sz l c n : Nat} {o : Option Addr} {xs news : List Value} {x : Value} {i : TypeInfo} {z : Value}
theorem Fresh.nil (M : Mod NoB w0 w) (e : TypeId) (sz : Nat) : Fresh w0 w e sz none 0 0 [] := ⟨Own.nil w e sz, M, fun k h => (OB_none k h).elim⟩
theorem Fresh.mod' (h : Fresh w0 w e sz o l c xs) (M : Mod NoB w w') : Fresh w0 w' e sz o l c xs := ⟨h.own.mod' M, h.mod.trans M (fun _ _ h => h), h.new⟩
theorem Fresh.push (h : Fresh w0 w e sz o l c xs) (ht : P.underlying t = some (.slice e)) (hi : P.info? e = some i) (hz : i.zero = some z) (hs : i.size = sz) (hzs : z.cells.size = sz)
    (src : Src P sz tx x n news w) (h63 : l + n ≤ maxLen) (hb : (l + n) * i.bytes ≤ 140737488355328) :
    ∃ o' c' w', Sem.run P (builtinV .append #[t, tx] ty #[.slice o l c, x]) w = .ok (.slice o' (l + n) c') w' ∧ Fresh w0 w' e sz o' (l + n) c' (xs ++ news) := by
  obtain ⟨o', c', w', h1, h2, h3, h4⟩ := append_own (ty := ty) ht hi hz hs hzs h.own src h63 hb
  refine ⟨o', c', w', h1, h2, h.mod.trans h3 (fun k hk hob => absurd (h.new k hob) (by omega)), fun k hk => ?_⟩
  rcases h4 k hk with h5 | h5
  · exact h.new k h5
  · exact Nat.le_trans h.mod.size h5
theorem Fresh.set (h : Fresh w0 w e sz o l c xs) {j : Nat} (hj : j < l * sz) {v : Value} (hv : v.oneCell' = true) :
    ∃ g, o = some ⟨g, 0, none⟩ ∧ CanSet w ⟨g, j, none⟩ v ∧ Fresh w0 (w.setCell ⟨g, j, none⟩ v) e sz o l c (xs.set j v) := by
  rcases h.own.2 with ⟨_, rfl, _⟩ | ⟨g, cur, rfl, hb, hlc, hcm, hcs, ht⟩
  · simp at hj
  · have hle : l * sz ≤ c * sz := Nat.mul_le_mul_right _ hlc
    refine ⟨g, rfl, hb.canSet (by rw [hcs]; omega) hv, ⟨by rw [List.length_set]; exact h.own.1, .inr ⟨g, _, rfl, hb.set j v, hlc, hcm, by simpa using hcs, ?_⟩⟩, ?_, h.new⟩
    · rw [Array.toList_setIfInBounds, List.take_set, ht]
    · exact h.mod.step_set (fun hk => absurd (h.new g ⟨_, rfl, rfl⟩) (by show ¬ _ ≤ _; have : g < w0.heap.size := hk; omega))
section
variable {C : Type} {lab : Nat → C}
theorem Fresh.done (h : Fresh w0 w e sz o l c xs) (cl : C) : COw w (ext lab w0.heap.size cl) cl e sz o l c xs ∧ Stp (fun _ => False) w0 lab w (ext lab w0.heap.size cl) :=
  ⟨⟨h.own, fun k hk => ext_new (h.new k hk)⟩, Stp.of_nob h.mod cl⟩

/-- A row of cells that can be read. -/
def CRow (w : World) (lab : Nat → C) (c : C) (o : Option Addr) (xs : List Value) : Prop :=
  ∀ (j : Nat) (v : Value), xs[j]? = some v → ∃ b f, o = some ⟨b, f, none⟩ ∧ b < w.heap.size ∧ lab b = c ∧ w.cell? ⟨b, f + j, none⟩ = some v
variable {cl : C} {S : C → Prop} {lab' : Nat → C}
theorem CRow.nil (w : World) (lab : Nat → C) (cl : C) (o : Option Addr) : CRow w lab cl o [] := fun j v h => by simp at h
theorem CRow.stp (h : CRow w lab cl o xs) (s : Stp S w lab w' lab') (hs : ¬ S cl) : CRow w' lab' cl o xs := fun j v hv => by
  obtain ⟨b, f, ho, hb, hl, hc⟩ := h j v hv
  exact ⟨b, f, ho, Nat.lt_of_lt_of_le hb s.size, (s.lab b hb).trans hl, (World.cell?_of_block (s.block b hb (by rw [hl]; exact hs))).trans hc⟩
theorem COw.row (h : COw w lab cl e sz o l c xs) : CRow w lab cl o xs := fun j v hv => by
  obtain ⟨g, rfl, hc⟩ := h.own.cell hv
  exact ⟨g, 0, rfl, h.own.lt ⟨_, rfl, rfl⟩, h.clr _ ⟨_, rfl, rfl⟩, by rw [Nat.zero_add]; exact hc⟩
theorem CRow.src (h : CRow w lab cl o xs) (hk : P.underlying tx = some (.slice e)) (hl : xs.length = n * sz) (h1 : ∀ u ∈ xs, u.oneCell' = true) (c : Nat) (hz : 0 < sz) : Src P sz tx (.slice o n c) n xs w := by
  cases xs with
  | nil =>
    have : n = 0 := by
      have : n * sz = 0 := by simpa using hl.symm
      rcases Nat.mul_eq_zero.1 this with h | h <;> omega
    subst this
    cases o with
    | none => exact Src.ofNil w hk c
    | some a => exact Src.ofSlice w hk a 0 c [] hl (by simp) (by simp)
  | cons v r =>
    obtain ⟨b, f, rfl, _, _, _⟩ := h 0 v rfl
    refine Src.ofSlice w hk _ n c _ hl (fun j u hu => ?_) h1
    obtain ⟨b', f', ho, _, _, hc⟩ := h j u hu
    cases ho
    rw [add_at]; exact hc
/-- A full row that is only read: appending copies it. -/
theorem append_full {o : Option Addr} {news : List Value} {x : Value} {m : Nat} (h : CRow w lab cl o xs) (ht : P.underlying t = some (.slice e)) (hi : P.info? e = some i) (hz : i.zero = some z) (hs : i.size = sz) (hzs : z.cells.size = sz) (hsz : 0 < sz)
    (hl : xs.length = l * sz) (src : Src P sz tx x (m + 1) news w) (h63 : l + (m + 1) ≤ maxLen) (hb : (l + (m + 1)) * i.bytes ≤ 140737488355328) :
    ∃ o' c' w', Sem.run P (builtinV .append #[t, tx] ty #[.slice o l l, x]) w = .ok (.slice o' (l + (m + 1)) c') w' ∧ Fresh w w' e sz o' (l + (m + 1)) c' (xs ++ news) := by
  have hold : (Builtin.firstCells i.size l (.slice o l l)).run P w.drew = .ok xs.toArray w.drew := by
    subst hs
    cases o with
    | none =>
      have : xs = [] := by
        cases xs with
        | nil => rfl
        | cons v r => obtain ⟨b, f, ho, _⟩ := h 0 v rfl; cases ho
      subst this
      have : l = 0 := by
        have : l * i.size = 0 := by simpa using hl.symm
        rcases Nat.mul_eq_zero.1 this with h | h <;> omega
      subst this
      exact run_firstCells_none w.drew i.size 0 0 0
    | some a =>
      exact run_firstCells_some w.drew i.size l _ l l xs hl (fun j v hv => by
        obtain ⟨b, f, ho, _, _, hc⟩ := h j v hv
        cases ho
        rw [add_at]
        exact hc)
  have hr := run_append_grow_src (P := P) w t tx ty e i z ht hi hz o l l xs hold x (m + 1) news (hs ▸ src) (by omega) (by simp only [maxLen] at h63; omega) (growslice_fits (by omega) hb)
  have hlen : (xs ++ news).length = (l + (m + 1)) * sz := by rw [List.length_append, hl, src.newsLen, ← Nat.add_mul]
  have hge := grownCap_ge w (l + (m + 1)) l e
  have hcm : grownCap w (l + (m + 1)) l e ≤ maxLen := grownCap_le_maxLen w (l + (m + 1)) l e h63
  refine ⟨_, _, _, hr, ⟨hlen, .inr ⟨_, _, rfl, Blk.new w.drew e _, hge, hcm, ?_, ?_⟩⟩, ((Mod.drew w).step_alloc _), fun k hk => ?_⟩
  · rw [Array.size_append, List.size_toArray, hlen, size_zeroCells, hzs, ← Nat.add_mul]
    congr 1; omega
  · rw [Array.toList_append]
    show List.take _ ((xs ++ news) ++ _) = _
    rw [← hlen]
    exact List.take_left
  · obtain ⟨d, hd, rfl⟩ := hk
    cases hd
    exact Nat.le_refl _
theorem add_zero_map (o : Option Addr) (k : Nat) : Option.map (fun a => Addr.add a (0 * k)) o = o := by
  cases o with
  | none => rfl
  | some a => simp [Addr.add]
/-- `s[:h:m]` of a slice. -/
theorem run_slice3 {o : Option Addr} {l c h : Nat} (ht : P.underlying t = some (.slice e)) (hi : P.info? e = some i) (w : World) (hh : h ≤ c) :
    Sem.run P (Instr.sliceAt t (.slice o l c) none (some (.int .i64 (h : Int))) (some (.int .i64 (h : Int)))) w = .ok (.slice o h h) w := by
  have e1 : ∀ (y : Nat) (code : BoundsCode), h ≤ y → (Instr.sliceBound (.int .i64 (h : Int)) y code).run P w = .ok h w := by
    intro y code hy
    simp [Instr.sliceBound, asIntOf, hy]
  have e2 : (Instr.sliceBounds true l c none (some (.int .i64 (h : Int))) (some (.int .i64 (h : Int)))).run P w = .ok (0, h, h) w := by
    unfold Instr.sliceBounds
    simp only [Sem.run_bind, e1 c _ hh, Result.andThen_ok, e1 h _ (Nat.le_refl _), Sem.run_pure]
  unfold Instr.sliceAt
  simp only [Sem.run_bind, run_und ht, Result.andThen_ok]
  unfold Instr.slice
  simp only [Sem.run_bind, run_und ht, Result.andThen_ok, e2, run_sizeOf hi, Sem.run_pure, add_zero_map, ite_self, Nat.sub_zero]
end
end Go.Vcg
end

section
set_option linter.unusedVariables false
set_option linter.unusedSimpArgs false
namespace Go.Proofs.Ytkekehngillblaa
open Go Go.Vcg Go.Disk

abbrev tNm : TypeId := 114
abbrev tSlNm : TypeId := 84
abbrev tMv : TypeId := 116
abbrev tSlMv : TypeId := 85
abbrev tCg : TypeId := 123
abbrev tSlCg : TypeId := 110
abbrev tRDisk : TypeId := 87
abbrev tRFile : TypeId := 112
theorem und_slNm : Try.prog.underlying tSlNm = some (.slice tNm) := by kernel_rfl
theorem und_slMv : Try.prog.underlying tSlMv = some (.slice tMv) := by kernel_rfl
theorem und_slCg : Try.prog.underlying tSlCg = some (.slice tCg) := by kernel_rfl
theorem info_nm : (Try.prog.info? tNm).map (fun i => (i.zero, i.size, i.bytes)) = some (some (.agg #[.string ⟨#[]⟩, .pointer none]), 2, 24) := by kernel_rfl
theorem info_mv : (Try.prog.info? tMv).map (fun i => (i.zero, i.size, i.bytes)) = some (some (.agg #[.string ⟨#[]⟩, .string ⟨#[]⟩, .pointer none]), 3, 40) := by kernel_rfl
theorem info_cg : (Try.prog.info? tCg).map (fun i => (i.zero, i.size, i.bytes)) = some (some (.agg #[.int .i64 0, .slice none 0 0, .int .i64 0]), 3, 40) := by kernel_rfl
theorem info_of {t : TypeId} {z : Value} {s b : Nat} (h : (Try.prog.info? t).map (fun i => (i.zero, i.size, i.bytes)) = some (some z, s, b)) : ∃ i, Try.prog.info? t = some i ∧ i.zero = some z ∧ i.size = s ∧ i.bytes = b := by
  obtain ⟨i, hi, h1⟩ := Option.map_eq_some_iff.1 h
  simp only [Prod.mk.injEq] at h1
  exact ⟨i, hi, h1⟩

theorem Name_calls (w : World) (s : ByteArray) : Calls Try.prog moraineref1_Name.n #[.string s] w (fun e w' => e = .returned (.bool (right s)) ∧ w' = w) := by
  refine moraineref1_Name.vc _ _ _ ?_
  unfold moraineref1_Name.Vc
  refine ⟨fun h => ⟨?_, rfl⟩, fun h1 => ⟨fun h => ⟨?_, rfl⟩, fun h2 => ?_⟩⟩
  · simp only [right]; rw [decide_eq_false (show ¬ 1 ≤ s.size by omega)]; rfl
  · simp only [right]; rw [decide_eq_false (show ¬ s.size ≤ 64 by omega)]; simp
  · have hl : s.data.toList.length = s.size := by simp
    have hr : right s = s.data.toList.all okChar := by
      simp only [right]; rw [decide_eq_true (show 1 ≤ s.size by omega), decide_eq_true (show s.size ≤ 64 by omega)]; rfl
    rw [hr]
    refine ⟨UpTo s.size (fun i w' => w' = w ∧ (s.data.toList.take i).all okChar = true), Vcg.Left s.size, ⟨0, rfl, Nat.zero_le _, rfl, rfl⟩, ?_⟩
    rintro _ _ w' ⟨i, rfl, hi, rfl, ha⟩
    refine ⟨fun hlt => ⟨by omega, ?_⟩, fun hge => ⟨?_, rfl⟩⟩
    · have hi' : i < s.size := by omega
      rw [Int.toNat_natCast]
      have hst := strAt_get hi'
      have hok := okChar_iff (s.data.toList.getD i 0)
      rw [← hst] at hok
      have hs : (s.data.toList.take (i + 1)).all okChar = ((s.data.toList.take i).all okChar && okChar (s.data.toList.getD i 0)) := by
        rw [List.take_add_one, List.all_append, List.getElem?_eq_getElem (by rw [hl]; exact hi'), List.getD_eq_getElem?_getD, List.getElem?_eq_getElem (by rw [hl]; exact hi')]
        simp
      rw [ha, Bool.true_and] at hs
      generalize strAt s i = c at *
      have ew : IntKind.wrap .i64 ((i : Int) + 1) = ((i + 1 : Nat) : Int) := by rw [wrap_i64_small (by omega) (by omega)]; omega
      have good : (97 ≤ c ∧ c ≤ 122 ∨ 48 ≤ c ∧ c ≤ 57 ∨ c = 46 ∨ c = 45 ∨ c = 95) → UpTo s.size (fun i w'' => w'' = w' ∧ (s.data.toList.take i).all okChar = true) (IntKind.wrap .i64 ((i : Int) + 1)) w' ∧ Vcg.Left s.size (IntKind.wrap .i64 ((i : Int) + 1)) w' < Vcg.Left s.size (i : Int) w' := fun h => by
        refine UpTo.next ew hi' ⟨rfl, ?_⟩
        rw [hs, hok]
        rcases h with h | h | h | h | h <;> simp [h]
      have bad : ¬ (97 ≤ c ∧ c ≤ 122 ∨ 48 ≤ c ∧ c ≤ 57 ∨ c = 46 ∨ c = 45 ∨ c = 95) → (Ending.returned (Value.bool false) = .returned (.bool (s.data.toList.all okChar)) ∧ w' = w') := fun h => by
        have hn : okChar (s.data.toList.getD i 0) = false := by
          rw [hok]
          simp only [not_or] at h
          simp only [Bool.or_eq_false_iff, decide_eq_false_iff_not]
          exact ⟨⟨⟨⟨h.1, h.2.1⟩, h.2.2.1⟩, h.2.2.2.1⟩, h.2.2.2.2⟩
        refine ⟨?_, rfl⟩
        congr 2
        symm
        rw [Bool.eq_false_iff]
        intro hall
        have := List.all_eq_true.1 hall (s.data.toList.getD i 0) (by
          rw [List.getD_eq_getElem?_getD, List.getElem?_eq_getElem (by rw [hl]; exact hi')]
          exact List.getElem_mem _)
        rw [hn] at this; cases this
      clear hs hok hst ha
      repeat' first | exact good (by omega) | exact bad (by omega) | refine And.intro ?_ ?_ | intro _
    · obtain rfl : i = s.size := by omega
      rw [List.take_of_length_le (by omega)] at ha
      rw [ha]

/-! ### rows of names -/
def nmC (fb : Nat → Nat) (l : List (Nm × Nat)) : List Value := l.flatMap fun x => [.string x.1, fileV fb x.2]
theorem nmC_len (fb : Nat → Nat) : ∀ l : List (Nm × Nat), (nmC fb l).length = l.length * 2
  | [] => rfl
  | x :: r => by
    show ([.string x.1, fileV fb x.2] ++ nmC fb r).length = _
    rw [List.length_append, nmC_len fb r]; simp; omega
theorem nmC_at (fb : Nat → Nat) : ∀ (l : List (Nm × Nat)) (i : Nat) (x : Nm × Nat), l[i]? = some x → (nmC fb l)[i * 2]? = some (.string x.1) ∧ (nmC fb l)[i * 2 + 1]? = some (fileV fb x.2)
  | [], i, x, h => by simp at h
  | y :: r, 0, x, h => by
    simp at h; subst h
    exact ⟨rfl, rfl⟩
  | y :: r, i + 1, x, h => by
    have := nmC_at fb r i x (by simpa using h)
    show ([.string y.1, fileV fb y.2] ++ nmC fb r)[(i + 1) * 2]? = _ ∧ ([.string y.1, fileV fb y.2] ++ nmC fb r)[(i + 1) * 2 + 1]? = _
    rw [List.getElem?_append_right (by simp; omega), List.getElem?_append_right (by simp; omega)]
    simp only [List.length_cons, List.length_nil]
    rw [show (i + 1) * 2 - (0 + 1 + 1) = i * 2 by omega, show (i + 1) * 2 + 1 - (0 + 1 + 1) = i * 2 + 1 by omega]
    exact this
theorem nmC_append (fb : Nat → Nat) (l l' : List (Nm × Nat)) : nmC fb (l ++ l') = nmC fb l ++ nmC fb l' := List.flatMap_append
theorem nmC_one (fb : Nat → Nat) (l : List (Nm × Nat)) : ∀ u ∈ nmC fb l, u.oneCell' = true := by
  intro u hu
  obtain ⟨x, _, hx⟩ := List.mem_flatMap.1 hu
  simp only [List.mem_cons, List.not_mem_nil, or_false] at hx
  rcases hx with rfl | rfl <;> rfl

section
variable {C : Type} {w w' : World} {lab lab' : Nat → C} {c : C} {fb : Nat → Nat} {l : List (Nm × Nat)} {o : Option Addr} {k : Nat}
theorem row_name (h : CRow w lab c o (nmC fb l)) {i : Nat} {x : Nm × Nat} (hx : l[i]? = some x) :
    ∃ b f, o = some ⟨b, f, none⟩ ∧ b < w.heap.size ∧ w.cell? ⟨b, f + i * 2, none⟩ = some (.string x.1) ∧ w.cell? ⟨b, f + i * 2 + 1, none⟩ = some (fileV fb x.2) := by
  obtain ⟨h1, h2⟩ := nmC_at fb l i x hx
  obtain ⟨b, f, rfl, hb, _, hc⟩ := h _ _ h1
  obtain ⟨b', f', ho, _, _, hc'⟩ := h _ _ h2
  cases ho
  exact ⟨b, f, rfl, hb, hc, by rw [Nat.add_assoc]; exact hc'⟩

/-- Where a name stands. -/
def RFound (l : List (Nm × Nat)) (s : Nm) (i : Int) : Prop :=
  (i = -1 ∧ assoc s l = none) ∨ ∃ (j : Nat) (x : Nm × Nat), i = (j : Int) ∧ j < l.length ∧ l[j]? = some x ∧ assoc s l = some x.2 ∧ x.1 = s
theorem assoc_first {s : Nm} : ∀ {l : List (Nm × Nat)} {j : Nat} {x : Nm × Nat}, l[j]? = some x → (∀ y ∈ l.take j, y.1 ≠ s) → x.1 = s → assoc s l = some x.2
  | y :: r, 0, x, h, _, hs => by simp at h; subst h; rw [assoc, if_pos hs]
  | y :: r, j + 1, x, h, hn, hs => by
    rw [assoc, if_neg (hn y (by simp))]
    exact assoc_first (by simpa using h) (fun z hz => hn z (by simp [hz])) hs
theorem nm_eq (a b : Nm) : (a.data.toList = b.data.toList) ↔ a = b := by
  constructor
  · intro h
    cases a; cases b
    simp only [ByteArray.mk.injEq]
    exact Array.toList_inj.1 h
  · rintro rfl; rfl
theorem find_calls (h : CRow w lab c o (nmC fb l)) (hl : l.length < 2 ^ 62) (s : Nm) :
    Calls Try.prog moraineref1_find.n #[.slice o l.length k, .string s] w (fun e w' => w' = w ∧ ∃ i, e = .returned (.int .i64 i) ∧ RFound l s i) := by
  refine moraineref1_find.vc _ _ _ _ _ _ ?_
  unfold moraineref1_find.Vc
  refine ⟨UpTo l.length (fun i w' => w' = w ∧ ∀ y ∈ l.take i, y.1 ≠ s), Vcg.Left l.length, ⟨0, rfl, Nat.zero_le _, rfl, by simp⟩, ?_⟩
  rintro _ _ _ ⟨i, rfl, hi, rfl, hn⟩
  refine ⟨fun hlt => ?_, fun hge => ?_⟩
  · have hil : i < l.length := by omega
    have hx := List.getElem?_eq_getElem hil
    obtain ⟨b, f, rfl, hb, hc, _⟩ := row_name h hx
    refine ⟨_, rfl, by omega, _, by rw [add_at, Int.toNat_natCast]; exact hc, fun he => ?_, fun he => ?_⟩
    · rw [strB_eql, decide_eq_true_eq, nm_eq] at he
      exact ⟨rfl, _, rfl, .inr ⟨i, _, rfl, hil, hx, assoc_first hx hn he, he⟩⟩
    · rw [strB_eql, decide_eq_false_iff_not, nm_eq] at he
      refine UpTo.next (by rw [wrap_i64_small (by omega) (by omega)]; omega) hil ⟨rfl, fun y hy => ?_⟩
      rw [List.take_add_one, hx] at hy
      rcases List.mem_append.1 hy with hy | hy
      · exact hn y hy
      · simp at hy; subst hy; exact he
  · obtain rfl : i = l.length := by omega
    rw [List.take_length] at hn
    exact ⟨rfl, _, rfl, .inl ⟨rfl, assoc_none hn⟩⟩
theorem push_name {w0 : World} {o' : Option Addr} {n k' : Nat} {xs : List Value} (F : Fresh w0 w tNm 2 o n k' xs) {b t : Nat} {s : Nm} {f : Nat} (B : Blk w b t #[.string s, fileV fb f]) (hn : n < 2 ^ 40) :
    ∃ o' c' w', Sem.run Try.prog (builtinV .append #[tSlNm, tSlNm] tSlNm #[.slice o n k', .slice (some ⟨b, 0, none⟩) 1 1]) w = .ok (.slice o' (n + 1) c') w' ∧ Fresh w0 w' tNm 2 o' (n + 1) c' (xs ++ [.string s, fileV fb f]) := by
  obtain ⟨i, hi, hz, hs, hb⟩ := info_of info_nm
  exact F.push und_slNm hi hz hs rfl (src_one und_slNm B rfl (by simp [fileV]; exact ⟨rfl, rfl⟩)) (by simp only [maxLen]; omega) (by rw [hb]; omega)
theorem without_calls (h : CRow w lab c o (nmC fb l)) (hl : l.length < 2 ^ 40) (s : Nm) :
    Calls Try.prog moraineref1_without.n #[.slice o l.length k, .string s] w (fun e w' => ∃ o' k', e = .returned (.slice o' (Disk.without s l).length k') ∧ Fresh w w' tNm 2 o' (Disk.without s l).length k' (nmC fb (Disk.without s l))) := by
  refine moraineref1_without.vc _ _ _ _ _ _ ?_
  unfold moraineref1_without.Vc
  refine ⟨fun o' n' k' i w' => ∃ j : Nat, i = (j : Int) ∧ j ≤ l.length ∧ n' = (Disk.without s (l.take j)).length ∧ Fresh w w' tNm 2 o' n' k' (nmC fb (Disk.without s (l.take j))), fun _ _ _ i _ => ((l.length : Int) - i).toNat,
    ⟨0, rfl, Nat.zero_le _, rfl, Fresh.nil (Mod.refl w) _ _⟩, ?_⟩
  rintro o' _ k' _ _ w1 ⟨i, rfl, hi, rfl, F⟩
  refine ⟨fun hlt => ?_, fun hge => ?_⟩
  · have hil : i < l.length := by omega
    have hx := List.getElem?_eq_getElem hil
    obtain ⟨b, f, rfl, hb, hc, hc2⟩ := row_name h hx
    have cell : ∀ {w' : World}, Vcg.Mod NoB w w' → ∀ j, w'.cell? ⟨b, j, none⟩ = w.cell? ⟨b, j, none⟩ := fun M j => World.cell?_of_block (M.block b hb (fun h => h))
    have hwl : (Disk.without s (l.take i)).length ≤ i := by
      have := List.length_filter_le (fun x : Nm × Nat => decide (x.1 ≠ s)) (l.take i)
      unfold Disk.without
      rw [List.length_take] at this
      omega
    have ew : IntKind.wrap .i64 ((i : Int) + 1) = ((i + 1 : Nat) : Int) := by rw [wrap_i64_small (by omega) (by omega)]; omega
    have hst : Disk.without s (l.take (i + 1)) = Disk.without s (l.take i) ++ (if l[i].1 ≠ s then [l[i]] else []) := by
      unfold Disk.without
      rw [List.take_add_one, hx, List.filter_append]
      congr 1
      by_cases h0 : l[i].1 = s <;> simp [h0]
    rw [ew, Int.toNat_natCast]
    refine ⟨_, rfl, by omega, _, by rw [add_at]; exact (cell F.mod _).trans hc, fun he => ?_, fun he => ?_⟩
    · have he' : l[i].1 ≠ s := by
        intro h0
        rw [h0] at he
        simp [strB] at he
      refine ⟨_, rfl, by omega, _, _, by rw [add_at]; exact (cell F.mod _).trans hc, by rw [add_at, add_at]; exact (cell F.mod _).trans hc2, ?_⟩
      rintro d w2 ⟨rfl, rfl⟩
      have F2 := F.mod' (Mod.alloc (S := NoB) w1 (.cells #[.string l[i].1, fileV fb l[i].2] tNm))
      have B2 := Blk.new w1 tNm #[.string l[i].1, fileV fb l[i].2]
      obtain ⟨o3, c3, w3, hr, F3⟩ := push_name (o' := none) F2 B2 (by omega)
      refine ⟨_, w3, hr, _, _, _, rfl, ⟨i + 1, rfl, by omega, ?_, ?_⟩, by dsimp only; omega⟩
      · rw [hst, if_pos he', List.length_append]; rfl
      · rw [hst, if_pos he', nmC_append]; exact F3
    · have he' : l[i].1 = s := by
        have h1 : strB .neq l[i].1 s = !(strB .eql l[i].1 s) := by simp [strB]
        rw [h1, strB_eql] at he
        exact (nm_eq _ _).1 (of_decide_eq_true (Bool.not_eq_false' .. ▸ he))
      refine ⟨⟨i + 1, rfl, by omega, ?_, ?_⟩, by dsimp only; omega⟩
      · rw [hst, if_neg (by simp [he']), List.append_nil]
      · rw [hst, if_neg (by simp [he']), List.append_nil]; exact F
  · obtain rfl : i = l.length := by omega
    rw [List.take_length] at F ⊢
    exact ⟨_, _, rfl, F⟩
end
end Go.Proofs.Ytkekehngillblaa
end

section
set_option linter.unusedVariables false
set_option linter.unusedSimpArgs false
namespace Go.Proofs.Ytkekehngillblaa
open Go Go.Vcg Go.Disk

inductive RC where
  | disk | now | moves | file (n : Nat) | pend (n : Nat) | froz
  deriving DecidableEq

section
variable {C : Type}
/-- What a reference disk's calls may change. -/
def SR (γ : RC → C) (c : C) : Prop := ∃ x, x ≠ RC.froz ∧ c = γ x
theorem SR.of {γ : RC → C} {x : RC} (h : x ≠ .froz) : SR γ (γ x) := ⟨x, h, rfl⟩
variable {S : C → Prop} {w w' : World} {lab lab' : Nat → C} {c : C} {γ : RC → C}

def PgV (w : World) (lab : Nat → C) (c : C) (t : Value × Value × Value) : Pt → Prop
  | .wr a b => ∃ o k, t = (.int .i64 (a : Int), .slice o b.length k, .int .i64 0) ∧ b.length ≤ k ∧ CBy w lab c o b
  | .cut n => t = (.int .i64 (-1), .slice none 0 0, .int .i64 (n : Int))
structure Pgs (w : World) (lab : Nat → C) (c : C) (ts : List (Value × Value × Value)) (ps : List Pt) : Prop where
  len : ts.length = ps.length
  at_ : ∀ (i : Nat) (p : Pt), ps[i]? = some p → ∃ t, ts[i]? = some t ∧ PgV w lab c t p
theorem PgV.stp {t : Value × Value × Value} {p : Pt} (h : PgV w lab c t p) (s : Stp S w lab w' lab') (hs : ¬ S c) : PgV w' lab' c t p := by
  cases p with
  | wr a b => obtain ⟨o, k, h1, h2, h3⟩ := h; exact ⟨o, k, h1, h2, h3.stp s hs⟩
  | cut n => exact h
theorem Pgs.stp {ts : List (Value × Value × Value)} {ps : List Pt} (h : Pgs w lab c ts ps) (s : Stp S w lab w' lab') (hs : ¬ S c) : Pgs w' lab' c ts ps :=
  ⟨h.len, fun i p hp => by obtain ⟨v, h1, h2⟩ := h.at_ i p hp; exact ⟨v, h1, h2.stp s hs⟩⟩
theorem Pgs.nil : Pgs w lab c [] [] := ⟨rfl, fun i p h => by simp at h⟩
theorem Pgs.snoc {ts : List (Value × Value × Value)} {ps : List Pt} (h : Pgs w lab c ts ps) {t : Value × Value × Value} {p : Pt} (hv : PgV w lab c t p) : Pgs w lab c (ts ++ [t]) (ps ++ [p]) := by
  refine ⟨by simp [h.len], fun i q hq => ?_⟩
  by_cases hi : i < ps.length
  · rw [List.getElem?_append_left hi] at hq
    obtain ⟨u, h1, h2⟩ := h.at_ i q hq
    exact ⟨u, by rw [List.getElem?_append_left (by rw [h.len]; exact hi)]; exact h1, h2⟩
  · rw [List.getElem?_append_right (by omega)] at hq
    have : i - ps.length = 0 := by
      have := (List.getElem?_eq_some_iff.1 hq).1
      simp at this; omega
    rw [this] at hq
    simp at hq; subst hq
    exact ⟨t, by rw [List.getElem?_append_right (by rw [h.len]; omega), h.len, this]; rfl, hv⟩

/-- Cells of triples. -/
def cells3 (ts : List (Value × Value × Value)) : List Value := ts.flatMap fun t => [t.1, t.2.1, t.2.2]
theorem cells3_len : ∀ ts : List (Value × Value × Value), (cells3 ts).length = ts.length * 3
  | [] => rfl
  | x :: r => by
    show ([x.1, x.2.1, x.2.2] ++ cells3 r).length = _
    rw [List.length_append, cells3_len r]; simp; omega
theorem cells3_at : ∀ (l : List (Value × Value × Value)) (i : Nat) (x : Value × Value × Value), l[i]? = some x → (cells3 l)[i * 3]? = some x.1 ∧ (cells3 l)[i * 3 + 1]? = some x.2.1 ∧ (cells3 l)[i * 3 + 2]? = some x.2.2
  | [], i, x, h => by simp at h
  | y :: r, 0, x, h => by
    simp at h; subst h
    exact ⟨rfl, rfl, rfl⟩
  | y :: r, i + 1, x, h => by
    have := cells3_at r i x (by simpa using h)
    show ([y.1, y.2.1, y.2.2] ++ cells3 r)[(i + 1) * 3]? = _ ∧ ([y.1, y.2.1, y.2.2] ++ cells3 r)[(i + 1) * 3 + 1]? = _ ∧ ([y.1, y.2.1, y.2.2] ++ cells3 r)[(i + 1) * 3 + 2]? = _
    rw [List.getElem?_append_right (by simp; omega), List.getElem?_append_right (by simp; omega), List.getElem?_append_right (by simp; omega)]
    simp only [List.length_cons, List.length_nil]
    rw [show (i + 1) * 3 - (0 + 1 + 1 + 1) = i * 3 by omega, show (i + 1) * 3 + 1 - (0 + 1 + 1 + 1) = i * 3 + 1 by omega, show (i + 1) * 3 + 2 - (0 + 1 + 1 + 1) = i * 3 + 2 by omega]
    exact this
theorem cells3_append (l l' : List (Value × Value × Value)) : cells3 (l ++ l') = cells3 l ++ cells3 l' := List.flatMap_append
def mvT (fb : Nat → Nat) : Chg → Value × Value × Value
  | .made n f => (.string n, .string ⟨#[]⟩, fileV fb f)
  | .ren a b => (.string a, .string b, .pointer none)
  | .rem n => (.string n, .string ⟨#[]⟩, .pointer none)

structure RFCells (w : World) (lab : Nat → C) (γ : RC → C) (n b : Nat) (o1 : Option Addr) (c1 : Nat) (o2 : Option Addr) (c2 : Nat) (o3 : Option Addr) (c3 : Nat) (ts : List (Value × Value × Value)) (f : Fl) : Prop where
  cells : CB w lab (γ (.file n)) b tRFile #[.int .i64 (n : Int), .slice o1 f.bytes.length c1, .slice o2 f.sure.length c2, .slice o3 f.pend.length c3]
  cap : f.bytes.length ≤ c1
  bytes : CBy w lab (γ .froz) o1 f.bytes
  sure : CBy w lab (γ .froz) o2 f.sure
  pend : COw w lab (γ (.pend n)) tCg 3 o3 f.pend.length c3 (cells3 ts)
  pgs : Pgs w lab (γ .froz) ts f.pend
def RFAt (w : World) (lab : Nat → C) (γ : RC → C) (n b : Nat) (f : Fl) : Prop := ∃ o1 c1 o2 c2 o3 c3 ts, RFCells w lab γ n b o1 c1 o2 c2 o3 c3 ts f
theorem RFAt.stp {n b : Nat} {f : Fl} (h : RFAt w lab γ n b f) (s : Stp S w lab w' lab') (h1 : ¬ S (γ (.file n))) (h2 : ¬ S (γ (.pend n))) (h3 : ¬ S (γ .froz)) : RFAt w' lab' γ n b f := by
  obtain ⟨o1, c1, o2, c2, o3, c3, ts, h⟩ := h
  exact ⟨o1, c1, o2, c2, o3, c3, ts, h.cells.stp s h1, h.cap, h.bytes.stp s h3, h.sure.stp s h3, h.pend.stp s h2, h.pgs.stp s h3⟩

/-- Everything but the disk's own block. -/
structure RRest (w : World) (lab : Nat → C) (γ : RC → C) (on : Option Addr) (cn : Nat) (os : Option Addr) (om : Option Addr) (cm : Nat) (fb : Nat → Nat) (names sure : List (Nm × Nat)) (pend : List Chg) (files : Nat) (fs : Nat → Fl) : Prop where
  ncap : names.length ≤ cn
  names : CRow w lab (γ .now) on (nmC fb names)
  sure : CRow w lab (γ .froz) os (nmC fb sure)
  pend : COw w lab (γ .moves) tMv 3 om pend.length cm (cells3 (pend.map (mvT fb)))
  files : ∀ n, n < files → RFAt w lab γ n (fb n) (fs n)
variable {on os om : Option Addr} {cn cs cm : Nat} {fb : Nat → Nat} {names sure : List (Nm × Nat)} {pend : List Chg} {files : Nat} {fs : Nat → Fl}
theorem RRest.stp (h : RRest w lab γ on cn os om cm fb names sure pend files fs) (s : Stp S w lab w' lab') (hs : ∀ x, x ≠ RC.disk → ¬ S (γ x)) : RRest w' lab' γ on cn os om cm fb names sure pend files fs :=
  ⟨h.ncap, h.names.stp s (hs _ (by simp)), h.sure.stp s (hs _ (by simp)), h.pend.stp s (hs _ (by simp)), fun n hn => (h.files n hn).stp s (hs _ (by simp)) (hs _ (by simp)) (hs _ (by simp))⟩
def rdiskA (cap : Int) (on : Option Addr) (ln cn : Nat) (os : Option Addr) (ls cs : Nat) (om : Option Addr) (lm cm files count : Nat) (fail halt : Int) (down : Bool) : Array Value :=
  #[.int .i64 cap, .slice on ln cn, .slice os ls cs, .slice om lm cm, .int .i64 (files : Int), .int .i64 (count : Int), .int .i64 fail, .int .i64 halt, .bool down]
/-- The halt that the reference counts down. -/
def HaltAs (σ : Dk) (h : Int) : Prop := (-1 ≤ h ∧ h < 9223372036854775808) ∧ (σ.down = false → h = σ.halt)
def RAt (w : World) (lab : Nat → C) (γ : RC → C) (d : Nat) (σ : Dk) : Prop :=
  ∃ on cn os cs om cm fb h, HaltAs σ h ∧ CB w lab (γ .disk) d tRDisk (rdiskA σ.cap on σ.names.length cn os σ.sure.length cs om σ.pend.length cm σ.files σ.count σ.fail h σ.down) ∧ RRest w lab γ on cn os om cm fb σ.names σ.sure σ.pend σ.files σ.fs
theorem RAt.stp {d : Nat} {σ : Dk} (h : RAt w lab γ d σ) (s : Stp S w lab w' lab') (hs : ∀ x, ¬ S (γ x)) : RAt w' lab' γ d σ := by
  obtain ⟨on, cn, os, cs, om, cm, fb, hh, h1, h2, h3⟩ := h
  exact ⟨on, cn, os, cs, om, cm, fb, hh, h1, h2.stp s (hs _), h3.stp s (fun x _ => hs x)⟩
def RRes (γ : RC → C) (d : Nat) (w : World) (lab : Nat → C) (w' : World) (σ : Dk) : Prop := ∃ lab', RAt w' lab' γ d σ ∧ Stp (SR γ) w lab w' lab'
theorem RRes.then {d : Nat} {σ' : Dk} {w'' : World} {lab1 : Nat → C} (s : Stp (SR γ) w lab w' lab1) (h : RRes γ d w' lab1 w'' σ') : RRes γ d w lab w'' σ' := by
  obtain ⟨lab', h1, h2⟩ := h
  exact ⟨lab', h1, s.trans h2⟩
theorem RAt.res {d : Nat} {σ : Dk} (h : RAt w lab γ d σ) (M : Vcg.Mod NoB w w') : RRes γ d w lab w' σ := by
  have s : Stp NoC w lab w' (ext lab w.heap.size (γ .froz)) := Stp.of_nob M _
  exact ⟨_, h.stp s (fun _ h => h), s.mono (fun _ h => h.elim)⟩
theorem rset {d : Nat} {t : TypeId} {w0 : World} {lab0 : Nat → C} {c : C} {cs cs' : Array Value} (B : CB w lab c d t cs) (s : Stp S w0 lab0 w lab) (hS : S c) (i : Nat) (v : Value) (he : cs.setIfInBounds i v = cs') :
    CB (w.setCell ⟨d, i, none⟩ v) lab c d t cs' ∧ Stp S w0 lab0 (w.setCell ⟨d, i, none⟩ v) lab := by
  refine ⟨he ▸ B.set i v, s.trans (Stp.setCell ?_)⟩
  show S (lab d)
  rw [B.clr]; exact hS

variable {d : Nat} {σ : Dk}
theorem call_calls (hγ : ∀ a b, γ a = γ b → a = b) (h : RAt w lab γ d σ) (hn : Nums σ) :
    Calls Try.prog moraineref1_Disk_call.n #[.pointer (some ⟨d, 0, none⟩)] w (fun e w' => e = .returned (.int .i64 (begins σ).2) ∧ RRes γ d w lab w' (begins σ).1) := by
  obtain ⟨on, cn, os, cs, om, cm, fb, h, ⟨hh, hd⟩, B, Rt⟩ := h
  have hc := hn.count
  have hf := hn.fail
  have ht := hn.halt
  refine calls_gen fun R hR => moraineref1_Disk_call.vc _ _ _ ?_
  unfold moraineref1_Disk_call.Vc
  simp only [add_at, Nat.zero_add]
  refine ⟨_, B.blk.rd1 rfl, B.blk.canSet (by simp [rdiskA]) rfl, ?_⟩
  rintro _ rfl
  have s0 : Stp (· = γ .disk) w lab w lab := Stp.refl _ _ _
  obtain ⟨B1, s1⟩ := rset B s0 rfl 5 (.int .i64 (IntKind.wrap .i64 ((σ.count : Int) + 1))) (cs' := rdiskA σ.cap on σ.names.length cn os σ.sure.length cs om σ.pend.length cm σ.files (σ.count + 1) σ.fail h σ.down) (by
    rw [wrap_i64_small (by omega) (by omega)]; rfl)
  generalize w.setCell ⟨d, 5, none⟩ (.int .i64 (IntKind.wrap .i64 ((σ.count : Int) + 1))) = w1 at *
  refine ⟨fun w' => CB w' lab (γ .disk) d tRDisk (rdiskA σ.cap on σ.names.length cn os σ.sure.length cs om σ.pend.length cm σ.files (σ.count + 1) σ.fail h (σ.down || decide (h = 0))) ∧ Stp (· = γ .disk) w lab w' lab, ⟨_, B1.blk.rd1 rfl, fun h0 => ⟨B1.blk.canSet (by simp [rdiskA]) rfl, ?_⟩, fun h0 => ?_⟩, ?_⟩
  · rintro _ rfl
    exact rset B1 s1 rfl 8 (.bool true) (by simp [h0, rdiskA])
  · refine ⟨?_, s1⟩
    rw [decide_eq_false h0, Bool.or_false]; exact B1
  clear B1 s1 s0
  rintro _ w2 ⟨B2, s2⟩
  generalize hdn : (σ.down || decide (h = 0)) = dn at *
  refine ⟨fun w' => CB w' lab (γ .disk) d tRDisk (rdiskA σ.cap on σ.names.length cn os σ.sure.length cs om σ.pend.length cm σ.files (σ.count + 1) σ.fail (if h > 0 then h - 1 else h) dn) ∧ Stp (· = γ .disk) w lab w' lab, ⟨_, B2.blk.rd1 rfl, fun h0 => ⟨_, B2.blk.rd1 rfl, B2.blk.canSet (by simp [rdiskA]) rfl, ?_⟩, fun h0 => ?_⟩, ?_⟩
  · rintro _ rfl
    refine rset B2 s2 rfl 7 _ ?_
    rw [wrap_i64_small (by omega) (by omega), if_pos h0]; rfl
  · rw [if_neg h0]; exact ⟨B2, s2⟩
  clear B2 s2
  rintro _ w3 ⟨B3, s3⟩
  generalize hh' : (if h > 0 then h - 1 else h) = h' at *
  have hr' : -1 ≤ h' ∧ h' < 9223372036854775808 := by rw [← hh']; split <;> omega
  have fin : ∀ (w4 : World) (fl : Int), CB w4 lab (γ .disk) d tRDisk (rdiskA σ.cap on σ.names.length cn os σ.sure.length cs om σ.pend.length cm σ.files (σ.count + 1) fl h' dn) → Stp (· = γ .disk) w lab w4 lab → fl = max (σ.fail - 1) 0 →
      ∀ r, r = (if dn then (17 : Int) else if σ.fail = 1 then 16 else 0) → R (.returned (.int .i64 r)) w4 := by
    rintro w4 _ B4 s4 rfl r rfl
    refine hR _ _ ?_
    have R4 := Rt.stp s4 (fun x hx e => hx (hγ _ _ e))
    have S4 : Stp (SR γ) w lab w4 lab := s4.mono (fun c e => e ▸ SR.of (by simp))
    by_cases hdd : σ.down = true
    · have : dn = true := by rw [← hdn, hdd]; rfl
      subst this
      by_cases h0 : σ.halt = 0
      · exact ⟨by simp only [begins, if_pos h0, if_true], lab, by simp only [begins, if_pos h0]; exact ⟨_, _, _, _, _, _, _, h', ⟨hr', fun h => by cases h⟩, B4, R4⟩, S4⟩
      · exact ⟨by simp only [begins, if_neg h0, if_pos hdd, if_true], lab, by simp only [begins, if_neg h0, if_pos hdd]; exact ⟨_, _, _, _, _, _, _, h', ⟨hr', fun h => by simp only [hdd] at h; cases h⟩, by simp only [hdd]; exact B4, R4⟩, S4⟩
    · have hd1 : σ.down = false := by simpa using hdd
      have hhh := hd hd1
      subst hhh
      by_cases h0 : σ.halt = 0
      · have : dn = true := by rw [← hdn, decide_eq_true h0, Bool.or_true]
        subst this
        exact ⟨by simp only [begins, if_pos h0, if_true], lab, by simp only [begins, if_pos h0]; exact ⟨_, _, _, _, _, _, _, h', ⟨hr', fun h => by cases h⟩, B4, R4⟩, S4⟩
      · have : dn = false := by rw [← hdn, decide_eq_false h0, hd1]; rfl
        subst this
        have hm : h' = max (σ.halt - 1) (-1) := by rw [← hh']; split <;> omega
        exact ⟨by simp only [begins, if_neg h0, if_neg hdd]; rfl, lab, by simp only [begins, if_neg h0, if_neg hdd]; exact ⟨_, _, _, _, _, _, _, h', ⟨hr', fun _ => hm⟩, by simp only [hd1]; exact B4, R4⟩, S4⟩
  clear hdn hh'
  have fin2 : ∀ (w4 : World) (fl : Int), CB w4 lab (γ .disk) d tRDisk (rdiskA σ.cap on σ.names.length cn os σ.sure.length cs om σ.pend.length cm σ.files (σ.count + 1) fl h' dn) → Stp (· = γ .disk) w lab w4 lab → fl = max (σ.fail - 1) 0 → σ.fail ≠ 1 →
      ∃ b : Bool, World.cell? w4 ⟨d, 8, none⟩ = some (.bool b) ∧ (b = true → R (.returned (.int .i64 17)) w4) ∧ (b = false → R (.returned (.int .i64 0)) w4) := fun w4 fl B4 s4 hfl h1 =>
    ⟨_, B4.blk.rd1 rfl, fun hb => fin w4 fl B4 s4 hfl _ (by rw [if_pos hb]), fun hb => fin w4 fl B4 s4 hfl _ (by rw [if_neg (by rw [hb]; simp), if_neg h1])⟩
  refine ⟨_, B3.blk.rd1 rfl, fun h0 => ⟨_, B3.blk.rd1 rfl, B3.blk.canSet (by simp [rdiskA]) rfl, ?_⟩, fun h0 => ?_⟩
  · rintro _ rfl
    have ew : IntKind.wrap .i64 (σ.fail - 1) = σ.fail - 1 := wrap_i64_small (by omega) (by omega)
    rw [ew]
    obtain ⟨B4, s4⟩ := rset B3 s3 rfl 6 (.int .i64 (σ.fail - 1)) (cs' := rdiskA σ.cap on σ.names.length cn os σ.sure.length cs om σ.pend.length cm σ.files (σ.count + 1) (σ.fail - 1) h' dn) rfl
    generalize w3.setCell ⟨d, 6, none⟩ (.int .i64 (σ.fail - 1)) = w4 at *
    refine ⟨_, B4.blk.rd1 rfl, fun h1 => ⟨_, B4.blk.rd1 rfl, fun hb => fin w4 _ B4 s4 (by omega) _ (by rw [if_neg (by rw [hb]; simp), if_pos (by omega)]), fun hb => ⟨_, B4.blk.rd1 rfl, fun _ => fin w4 _ B4 s4 (by omega) _ (by rw [if_pos hb]), fun hb2 => ?_⟩⟩, fun h1 => fin2 w4 _ B4 s4 (by omega) (by omega)⟩
    rw [hb] at hb2; cases hb2
  · exact fin2 w3 _ B3 s3 (by omega) (by omega)

theorem RFail_calls (hγ : ∀ a b, γ a = γ b → a = b) (h : RAt w lab γ d σ) (n : Int) :
    Calls Try.prog moraineref1_Disk_Fail.n #[.pointer (some ⟨d, 0, none⟩), .int .i64 n] w (fun e w' => e = .returned (.tuple #[]) ∧ RRes γ d w lab w' (failAt σ n)) := by
  obtain ⟨on, cn, os, cs, om, cm, fb, h, hh, B, Rt⟩ := h
  refine calls_gen fun R hR => moraineref1_Disk_Fail.vc _ _ _ _ ?_
  unfold moraineref1_Disk_Fail.Vc
  simp only [add_at, Nat.zero_add]
  refine ⟨B.blk.canSet (by simp [rdiskA]) rfl, ?_⟩
  rintro _ rfl
  obtain ⟨B1, s1⟩ := rset B (Stp.refl (· = γ .disk) w lab) rfl 6 (.int .i64 (max n 0)) rfl
  exact hR _ _ ⟨rfl, lab, ⟨_, _, _, _, _, _, _, h, hh, B1, Rt.stp s1 (fun x hx e => hx (hγ _ _ e))⟩, s1.mono (fun c e => e ▸ SR.of (by simp))⟩
theorem RHalt_calls (hγ : ∀ a b, γ a = γ b → a = b) (h : RAt w lab γ d σ) (n : Int) (hn : n < 9223372036854775808) :
    Calls Try.prog moraineref1_Disk_Halt.n #[.pointer (some ⟨d, 0, none⟩), .int .i64 n] w (fun e w' => e = .returned (.tuple #[]) ∧ RRes γ d w lab w' (haltAt σ n)) := by
  obtain ⟨on, cn, os, cs, om, cm, fb, h, hh, B, Rt⟩ := h
  refine calls_gen fun R hR => moraineref1_Disk_Halt.vc _ _ _ _ ?_
  unfold moraineref1_Disk_Halt.Vc
  simp only [add_at, Nat.zero_add]
  refine ⟨B.blk.canSet (by simp [rdiskA]) rfl, ?_⟩
  rintro _ rfl
  obtain ⟨B1, s1⟩ := rset B (Stp.refl (· = γ .disk) w lab) rfl 7 (.int .i64 (max n (-1))) rfl
  exact hR _ _ ⟨rfl, lab, ⟨_, _, _, _, _, _, _, max n (-1), ⟨by omega, fun _ => rfl⟩, B1, Rt.stp s1 (fun x hx e => hx (hγ _ _ e))⟩, s1.mono (fun c e => e ▸ SR.of (by simp))⟩
end
end Go.Proofs.Ytkekehngillblaa
end
