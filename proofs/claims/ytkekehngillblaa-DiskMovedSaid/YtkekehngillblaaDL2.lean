/- The walk and the law of DiskRoom: a disk never holds more than its capacity. -/
import Derived.Test.YtkekehngillblaaDL1
set_option linter.unusedVariables false
set_option linter.unusedSimpArgs false
namespace Go.Disk
open Go.Vcg
structure Quiet (d : Dk) : Prop where
  fail : d.fail = 0
  halt : d.halt = -1
  down : d.down = false
theorem begins_quiet {d : Dk} (h : Quiet d) : begins d = ({ d with count := d.count + 1 }, 0) := by
  unfold begins
  rw [if_neg (by rw [h.halt]; omega), if_neg (by rw [h.down]; simp), h.fail, h.halt]
  cases d
  simp only at *
  have h1 := h.fail; have h2 := h.halt
  simp only at h1 h2
  subst h1 h2
  simp
  decide
theorem used_setF {d : Dk} {f : Nat} {g : Fl} : ∀ {l : List (Nm × Nat)} {s : Nm}, (l.map Prod.snd).Nodup → assoc s l = some f →
    (l.map fun x => (if x.2 = f then g else d.fs x.2).bytes.length).sum + (d.fs f).bytes.length = (l.map fun x => (d.fs x.2).bytes.length).sum + g.bytes.length
  | [], _, _, h => by cases h
  | x :: r, s, hn, h => by
    rw [List.map_cons, List.nodup_cons] at hn
    simp only [List.map_cons, List.sum_cons]
    rw [assoc] at h
    split at h
    · cases h
      have hr : (r.map fun y => (if y.2 = x.2 then g else d.fs y.2).bytes.length) = r.map fun y => (d.fs y.2).bytes.length := List.map_congr_left (fun y hy => by
        rw [if_neg (fun e => hn.1 (by rw [← e]; exact List.mem_map_of_mem hy))])
      rw [hr, if_pos rfl]
      omega
    · have ih := used_setF (d := d) (g := g) hn.2 h
      have hx : x.2 ≠ f := fun e => hn.1 (by rw [e]; exact List.mem_map_of_mem (f := Prod.snd) (Go.Proofs.Ytkekehngillblaa.assoc_some h))
      rw [if_neg hx]
      omega
abbrev nmX : Nm := ⟨#[120]⟩
abbrev nmY : Nm := ⟨#[121]⟩
structure Room (cap : Int) (u : Nat) (d : Dk) : Prop where
  quiet : Quiet d
  cap : d.cap = cap
  there : ∀ s, s = nmX ∨ s = nmY → ∃ f, assoc s d.names = some f
  used : used d = u
theorem Room.app {cap : Int} {u : Nat} {d : Dk} (h : Room cap u d) (hok : Ok d) {s : Nm} (hs : s = nmX ∨ s = nmY) (b : List UInt8) :
    ((b.length : Int) > 0 ∧ (u : Int) + b.length > cap → (Disk.append d s b).2 = 15 ∧ Room cap u (Disk.append d s b).1) ∧ (¬ ((b.length : Int) > 0 ∧ (u : Int) + b.length > cap) → (Disk.append d s b).2 = 0 ∧ Room cap (u + b.length) (Disk.append d s b).1) := by
  have hcap := h.cap
  subst hcap
  obtain ⟨f, hf⟩ := h.there s hs
  have hr : right s = true := by rcases hs with rfl | rfl <;> decide +kernel
  have e : Disk.append d s b = write { d with count := d.count + 1 } f (d.fs f).bytes.length b := by
    unfold Disk.append onFile
    rw [begins_quiet h.quiet]
    have hn : named { d with count := d.count + 1 } s = (f, 0) := by
      unfold named
      rw [if_pos hr]
      show (match assoc s d.names with | some f => (f, (0 : Int)) | none => (0, 13)) = _
      rw [hf]
    simp only [hn, if_true]
  rw [e]
  have hlon : (((d.fs f).bytes.length : Int) + b.length - (d.fs f).bytes.length) = b.length := by omega
  have hu : Disk.used { d with count := d.count + 1 } = u := h.used
  unfold write
  simp only [hlon, hu]
  refine ⟨fun h1 => ?_, fun h1 => ?_⟩
  · rw [if_pos ⟨h1.1, by omega⟩]
    exact ⟨rfl, ⟨h.quiet.fail, h.quiet.halt, h.quiet.down⟩, h.cap, h.there, h.used⟩
  · rw [if_neg (fun g => h1 ⟨g.1, by omega⟩)]
    by_cases hb : b = []
    · rw [if_pos hb]
      subst hb
      exact ⟨rfl, ⟨h.quiet.fail, h.quiet.halt, h.quiet.down⟩, h.cap, h.there, h.used⟩
    · rw [if_neg hb]
      refine ⟨rfl, ⟨h.quiet.fail, h.quiet.halt, h.quiet.down⟩, h.cap, h.there, ?_⟩
      have hl : (lay (d.fs f).bytes (d.fs f).bytes.length b).length = (d.fs f).bytes.length + b.length := by
        rw [lay, List.length_append, List.length_append, List.length_take, List.length_drop]; omega
      have := used_setF (d := d) (f := f) (g := { d.fs f with bytes := lay (d.fs f).bytes (d.fs f).bytes.length b, pend := (d.fs f).pend ++ [.wr (d.fs f).bytes.length b] }) hok.names.vals hf
      simp only [hl] at this
      have h2 := h.used
      unfold Disk.used at h2 ⊢
      simp only [setF]
      omega
theorem Room.start {cap : Int} : Room cap 0 (create (create (new cap) nmX).1 nmY).1 ∧ (create (new cap) nmX).2 = 0 ∧ (create (create (new cap) nmX).1 nmY).2 = 0 :=
  ⟨⟨⟨rfl, rfl, rfl⟩, rfl, fun s hs => by
    rcases hs with rfl | rfl
    · exact ⟨0, rfl⟩
    · exact ⟨1, rfl⟩, rfl⟩, rfl, rfl⟩
end Go.Disk
namespace Go.Proofs.Ytkekehngillblaa
open Go Go.Vcg Go.Disk

theorem Room_calls (w : World) (cap : Int) {o1 : Option Addr} {c1 : Nat} (ls : List (List UInt8)) (hr : RdBB w o1 ls) (hb : ∀ b ∈ ls, b.length ≤ 2 ^ 60) :
    Calls Try.prog morainelaw1_DiskRoom.n #[.int .i64 cap, .slice o1 ls.length c1] w (fun e w' => e = .returned (.bool true) ∧ Vcg.Mod NoB w w') := by
  refine morainelaw1_DiskRoom.vc _ _ _ _ _ _ ?_
  unfold morainelaw1_DiskRoom.Vc
  refine (known_calls w).mono ?_
  rintro _ w1 ⟨rfl, M1⟩
  refine ⟨_, rfl, fun h => (by cases h), fun _ => ⟨fun _ => ⟨rfl, M1⟩, fun h0 => ⟨fun _ => ⟨rfl, M1⟩, fun h2000 => ⟨fun _ => ⟨rfl, M1⟩, fun h40 => ?_⟩⟩⟩⟩
  refine (LD.new w w1 M1 cap (by omega)).mono ?_
  rintro _ w2 ⟨d, lab2, rfl, h2⟩
  refine ⟨_, _, rfl, ?_⟩
  obtain ⟨hst, hx, hy⟩ := Room.start (cap := cap)
  refine (h2.create (by omega) nmX).mono ?_
  rintro _ w3 ⟨rfl, lab3, h3⟩
  refine ⟨_, rfl, fun h => (h hx).elim, fun _ => ?_⟩
  refine (h3.create (by omega) nmY).mono ?_
  rintro _ w4 ⟨rfl, lab4, h4⟩
  refine ⟨_, rfl, fun h => (h hy).elim, fun _ => ?_⟩
  refine ⟨fun u i w' => ∃ (u' j : Nat) (lab' : Nat → LC) (σ : Dk), u = (u' : Int) ∧ i = (j : Int) ∧ j ≤ ls.length ∧ LD w w' lab' d σ (2 + j) ∧ Room cap u' σ, fun _ i _ => ((ls.length : Int) - i).toNat,
    ⟨0, 0, lab4, _, rfl, rfl, Nat.zero_le _, h4, hst⟩, ?_⟩
  rintro _ _ _ w5 ⟨u, j, lab5, σ, rfl, rfl, hj, h5, hroom⟩
  refine ⟨fun hlt => ?_, fun hge => ⟨rfl, h5.nob⟩⟩
  have hjl : j < ls.length := by omega
  obtain ⟨b, f, oi, ci, rfl, hbl, hc, hri⟩ := hr j hjl
  have hlen := hb (ls.getD j []) (by rw [List.getD_eq_getElem?_getD, List.getElem?_eq_getElem hjl]; exact List.getElem_mem hjl)
  generalize ls.getD j [] = x at *
  have et : Int.tmod (j : Int) 2 = ((j % 2 : Nat) : Int) := by rw [Int.tmod_eq_emod_of_nonneg (by omega)]; omega
  have ew : IntKind.wrap .i64 (((j % 2 : Nat) : Int) + 1) = ((j % 2 + 1 : Nat) : Int) := by rw [wrap_i64_small (by omega) (by omega)]; omega
  rw [et, ew]
  simp only [Int.toNat_natCast]
  have hnm : ∃ s, (s = nmX ∨ s = nmY) ∧ ByteArray.extract ⟨#[120, 121]⟩ (j % 2) (j % 2 + 1) = s := by
    have : j % 2 = 0 ∨ j % 2 = 1 := by omega
    rcases this with h | h
    · exact ⟨nmX, .inl rfl, by rw [h]; rfl⟩
    · exact ⟨nmY, .inr rfl, by rw [h]; rfl⟩
  obtain ⟨s, hs, hse⟩ := hnm
  rw [hse]
  have hsz : (ByteArray.size ⟨#[120, 121]⟩) = 2 := rfl
  rw [hsz]
  have cell : ∀ {w' : World}, Vcg.Mod NoB w w' → w'.cell? (Addr.add ⟨b, f, none⟩ j) = some (.slice oi x.length ci) := fun M => by
    rw [add_at]; exact (cell_mod M hbl (fun h => h)).trans hc
  refine ⟨by omega, by omega, _, rfl, by omega, _, _, _, cell h5.nob, ?_⟩
  refine (h5.append (by omega) s (h5.bytes hri) out_sd hlen).mono ?_
  rintro _ w6 ⟨rfl, lab6, h6⟩
  have hap := hroom.app h5.ok hs x
  have h6u : (u : Int) ≤ 2 ^ 47 := by
    have h1 := used_le h5.ok
    rw [hroom.used] at h1; omega
  have eu : IntKind.wrap .i64 ((u : Int) + ((x.length : Nat) : Int)) = ((u + x.length : Nat) : Int) := by rw [wrap_i64_small (by omega) (by omega)]; omega
  have ej : IntKind.wrap .i64 ((j : Int) + 1) = ((j + 1 : Nat) : Int) := by rw [wrap_i64_small (by omega) (by omega)]; omega
  refine ⟨_, rfl, _, rfl, by omega, _, _, _, cell h6.nob, ?_⟩
  rw [eu, ej]
  -- how much there is behind it
  have tail : ∀ (u' : Nat), Room cap u' (Disk.append σ s x).1 → Calls Try.prog disk_Disk_Used.n #[.pointer (some ⟨d, 0, none⟩)] w6 (fun e w' => e = .returned (.int .i64 (u' : Int)) ∧ ∃ (u'' j' : Nat) (lab' : Nat → LC) (σ : Dk), ((u' : Int)) = (u'' : Int) ∧ ((j + 1 : Nat) : Int) = (j' : Int) ∧ j' ≤ ls.length ∧ LD w w' lab' d σ (2 + j') ∧ Room cap u'' σ) := by
    intro u' hr'
    refine h6.used.mono ?_
    rintro _ w7 ⟨rfl, lab7, h7⟩
    exact ⟨by rw [hr'.used], u', j + 1, lab7, _, rfl, rfl, hjl, h7, hr'⟩
  refine ⟨fun hgt => ⟨_, rfl, by omega, _, _, _, cell h6.nob, fun hpos => ?_, fun hnp => ?_⟩, fun hle => ?_⟩
  · obtain ⟨h15, hr'⟩ := hap.1 ⟨hpos, by omega⟩
    refine ⟨fun h => (h h15).elim, fun _ => (tail u hr').mono ?_⟩
    rintro _ w7 ⟨rfl, hI⟩
    exact ⟨_, rfl, fun h => (h rfl).elim, fun _ => ⟨hI, by omega⟩⟩
  · obtain ⟨h15, hr'⟩ := hap.2 (fun g => hnp g.1)
    refine ⟨fun h => (h h15).elim, fun _ => ⟨_, rfl, by omega, _, _, _, cell h6.nob, (tail _ hr').mono ?_⟩⟩
    rw [eu]
    rintro _ w7 ⟨rfl, hI⟩
    exact ⟨_, rfl, fun h => (h rfl).elim, fun _ => ⟨hI, by omega⟩⟩
  · obtain ⟨h15, hr'⟩ := hap.2 (fun g => hle (by omega))
    refine ⟨fun h => (h h15).elim, fun _ => ⟨_, rfl, by omega, _, _, _, cell h6.nob, (tail _ hr').mono ?_⟩⟩
    rw [eu]
    rintro _ w7 ⟨rfl, hI⟩
    exact ⟨_, rfl, fun h => (h rfl).elim, fun _ => ⟨hI, by omega⟩⟩
end Go.Proofs.Ytkekehngillblaa
