/- The program's disk: the calls on a file's bytes. -/
import Derived.Test.YtkekehngillblaaDP5
set_option linter.unusedVariables false
set_option linter.unusedSimpArgs false
namespace Go.Proofs.Ytkekehngillblaa
open Go Go.Vcg Go.Disk
section
variable {C : Type} {w w' : World} {lab lab' : Nat → C} {γ : DC → C} {d : Nat} {σ : Dk}
variable {mN mS : Nat} {po : Option Addr} {pl pc : Nat} {fb : Nat → Nat} {names sure : List (Nm × Nat)} {pend : List Chg} {files : Nat} {fs : Nat → Fl}

theorem used_le (hk : Ok σ) : used σ ≤ 2 ^ 46 := by
  have hcount : σ.names.length ≤ 1048576 := by
    have h1 := nodup_lt σ.files (σ.names.map Prod.snd) hk.names.vals (fun x hx => by obtain ⟨y, hy, rfl⟩ := List.mem_map.1 hx; exact hk.names.files y hy)
    rw [List.length_map] at h1
    have := hk.files; omega
  have hle : ∀ t : List (Nm × Nat), (∀ x ∈ t, x ∈ σ.names) → (t.map fun x => (σ.fs x.2).bytes.length).sum ≤ t.length * 67108864 := by
    intro t ht
    induction t with
    | nil => simp
    | cons x t ih =>
      have h1 := ih (fun y hy => ht y (List.mem_cons_of_mem _ hy))
      have h2 := (hk.size x.2 (hk.names.files x (ht x (List.mem_cons_self ..)))).2
      simp only [most] at h2
      simp only [List.map_cons, List.sum_cons, List.length_cons] at h1 ⊢
      omega
  have := hle σ.names (fun _ h => h)
  unfold used
  omega

theorem write_calls (hγ : ∀ a b, γ a = γ b → a = b) (B : CB w lab (γ .disk) d tDisk (diskA σ.cap mN mS po pl pc σ.files σ.count σ.fail σ.halt σ.down)) (Rt : DRest w lab γ mN mS po pl pc fb σ.names σ.sure σ.pend σ.files σ.fs)
    (hk : Ok σ) (hc : σ.count < 2 ^ 40) {n : Nat} (hn : n < σ.files) (hin : ∃ s, assoc s σ.names = some n) {at_ : Nat} {a : Int} (ha : a = (at_ : Int)) (hat : at_ ≤ (σ.fs n).bytes.length) {o3 : Option Addr} {c3 : Nat} {by_ : List UInt8} {cb : C} (hby : CBy w lab cb o3 by_) (hcb : ¬ SD γ cb) (hb : by_.length ≤ 2 ^ 60) :
    Calls Try.prog disk_Disk_write.n #[.pointer (some ⟨d, 0, none⟩), fileV fb n, .int .i64 a, .slice o3 by_.length c3] w (fun e w' => e = .returned (.int .i64 (write σ n at_ by_).2) ∧ DRes γ d w lab w' (write σ n at_ by_).1) := by
  subst ha
  have hr := hby.rd
  have hoff : ∀ x, o3 = some x → by_ ≠ [] → ¬ SD γ (lab x.block) := fun x hx hne h => hcb (by rw [← hby.clr hne x hx]; exact h)
  obtain ⟨o, l, k, so, sl, sc, fo, fl, fc, vs, hF⟩ := Rt.files n hn
  have hbl : l = (σ.fs n).bytes.length := by have := hF.bytes.own.len; simpa using this.symm
  have hsz := (hk.size n hn).2
  have hcap := hk.cap
  have hus := used_le hk
  have hpe := hk.pends n hn
  simp only [most] at hsz hcap
  have hoff' : ∀ (w1 : World) (M : Vcg.Mod NoB w w1), ∀ x, o3 = some x → by_ ≠ [] → ¬ Fs γ n (ext lab w.heap.size (γ .froz) x.block) := fun w1 M x hx hne h => by
    obtain ⟨b', f', ho, hlt, _⟩ := hr hne
    rw [hx] at ho
    cases ho
    rw [ext_old hlt] at h
    exact hoff _ hx hne h.sd
  have DW : DAt w lab γ d σ := ⟨mN, mS, po, pl, pc, fb, B, Rt⟩
  refine calls_gen fun R hR => disk_Disk_write.vc ⟨d, 0, none⟩ ⟨fb n, 0, none⟩ _ _ _ _ _ _ ?_
  unfold disk_Disk_write.Vc
  have el : IntKind.wrap .i64 (IntKind.wrap .i64 ((at_ : Int) + ((by_.length : Nat) : Int)) - ((l : Nat) : Int)) = (at_ : Int) + by_.length - l := by
    have e1 : IntKind.wrap .i64 ((at_ : Int) + ((by_.length : Nat) : Int)) = (at_ : Int) + ((by_.length : Nat) : Int) := wrap_i64_small (by omega) (by omega)
    rw [e1, wrap_i64_small (by omega) (by omega)]
  -- the end, from whatever world
  have tail : ∀ w1, Vcg.Mod NoB w w1 → ¬ ((at_ : Int) + by_.length - l > 0 ∧ (at_ : Int) + by_.length - l > σ.cap - used σ) → by_ ≠ [] → WriteTail ⟨fb n, 0, none⟩ (at_ : Int) o3 by_.length c3 w1 R := by
    intro w1 M hnot hne
    have sN : Stp NoC w lab w1 (ext lab w.heap.size (γ .froz)) := Stp.of_nob M _
    have hlen : by_.length ≤ 2 ^ 27 := by omega
    refine write_tail hγ (hF.stp sN (fun h => h) (fun h => h) (fun h => h) (fun h => h)) (hr.mod' M) (hoff' w1 M) hat (by omega) (by omega) (by omega) ?_
    intro w2 lab2 hf s2
    refine hR _ _ ?_
    have h1 := DAt.setF hγ (B.stp sN (fun h => h)) (Rt.stp sN (fun _ _ h => h)) s2 hf
    have e1 : write σ n at_ by_ = (Disk.setF σ n { σ.fs n with bytes := lay (σ.fs n).bytes at_ by_, pend := (σ.fs n).pend ++ [.wr at_ by_] }, 0) := by
      unfold write
      simp only
      rw [hbl] at hnot
      rw [if_neg hnot, if_neg hne]
    rw [e1]
    exact ⟨rfl, lab2, h1, (sN.mono (fun _ h => h.elim)).trans (s2.mono (fun c h => h.sd))⟩
  -- nothing to write
  have idle : ∀ w1, Vcg.Mod NoB w w1 → ¬ ((at_ : Int) + by_.length - l > 0 ∧ (at_ : Int) + by_.length - l > σ.cap - used σ) → by_ = [] → R (.returned (.int .i64 0)) w1 := by
    intro w1 M hnot hne
    refine hR _ _ ?_
    have e1 : write σ n at_ by_ = (σ, 0) := by
      unfold write
      simp only
      rw [hbl] at hnot
      rw [if_neg hnot, if_pos hne]
    rw [e1]
    exact ⟨rfl, DW.res M⟩
  simp only [add_at, Nat.zero_add]
  refine ⟨_, _, _, hF.cells.blk.rd1 rfl, ?_⟩
  rintro _ rfl
  rw [el]
  have Bd := B.blk.drew
  refine ⟨fun hgt => ?_, fun hle => ?_⟩
  · refine ⟨_, Bd.rd1 rfl, ?_⟩
    have sD : Stp NoC w lab w.drew lab := Stp.drew _ _ _
    refine (Used_calls (DW.stp sD (fun _ h => h)) hk).mono ?_
    rintro _ w1 ⟨rfl, M1⟩
    have M : Vcg.Mod NoB w w1 := (Mod.drew w).none_trans M1
    refine ⟨_, rfl, (B.blk.mod' M).rd1 rfl, ?_⟩
    have ec : IntKind.wrap .i64 (σ.cap - (used σ : Int)) = σ.cap - (used σ : Int) := wrap_i64_small (by omega) (by omega)
    rw [ec]
    refine ⟨fun h2 => hR _ _ ?_, fun h2 => ⟨fun h0 => idle w1 M (fun h => h2 h.2) (List.eq_nil_of_length_eq_zero (by omega)), fun h0 => tail w1 M (fun h => h2 h.2) (fun e => by rw [e] at h0; simp at h0)⟩⟩
    have e1 : write σ n at_ by_ = (σ, 15) := by
      unfold write
      simp only
      rw [← hbl, if_pos ⟨hgt, h2⟩]
    rw [e1]
    exact ⟨rfl, DW.res M⟩
  · have M : Vcg.Mod NoB w w.drew := Mod.drew w
    exact ⟨fun h0 => idle _ M (fun h => hle h.1) (List.eq_nil_of_length_eq_zero (by omega)), fun h0 => tail _ M (fun h => hle h.1) (fun e => by rw [e] at h0; simp at h0)⟩

/-- A call that opens a file and goes on. -/
theorem Found.zero {s : Nm} {n0 : Int} {e : Ending} (h : Found γ d w lab σ s n0 e w') : ∃ o n, e = .returned (.tuple #[.pointer o, .int .i64 n]) ∧ n = n0 := by
  obtain ⟨o, n, he, hn, _⟩ := h; exact ⟨o, n, he, hn⟩

theorem chk_onFile {σ : Dk} {s : Nm} {k : Dk → Nat → Dk × Int} : (chk σ s [] ≠ 0 → onFile σ s k = ((begins σ).1, chk σ s [])) ∧ (chk σ s [] = 0 → ∀ f, assoc s (begins σ).1.names = some f → onFile σ s k = k (begins σ).1 f) := by
  unfold chk onFile
  simp only
  by_cases h0 : (begins σ).2 = 0
  · rw [if_pos h0, if_pos h0, chkN_nil]
    refine ⟨fun h => ?_, fun h f hf => ?_⟩
    · rw [if_neg h]
    · rw [if_pos h]
      have := named_zero h
      rw [hf] at this
      cases this.2
      rfl
  · rw [if_neg h0, if_neg h0]
    exact ⟨fun _ => rfl, fun h => (h0 h).elim⟩

theorem begins_count (hn : Nums σ) : (begins σ).1.count < 2 ^ 40 := by
  have := hn.count
  unfold begins
  split
  · simp only; omega
  · split <;> simp only <;> omega
theorem Append_calls (hγ : ∀ a b, γ a = γ b → a = b) (h : DAt w lab γ d σ) (hn : Nums σ) (hk : Ok (begins σ).1) (s : Nm) {o3 : Option Addr} {c3 : Nat} {by_ : List UInt8} {cb : C} (hby : CBy w lab cb o3 by_) (hcb : ¬ SD γ cb) (hb : by_.length ≤ 2 ^ 60) :
    Calls Try.prog disk_Disk_Append.n #[.pointer (some ⟨d, 0, none⟩), .string s, .slice o3 by_.length c3] w (fun e w' => e = .returned (.int .i64 (append σ s by_).2) ∧ DRes γ d w lab w' (append σ s by_).1) := by
  refine calls_gen fun R hR => disk_Disk_Append.vc _ _ _ _ _ _ _ ?_
  unfold disk_Disk_Append.Vc
  refine (changing_calls hγ h hn s (o := none) (c := 0) [] trivial (fun x hx => by cases hx)).mono ?_
  rintro _ w1 ⟨o, n, rfl, rfl, hD, hf⟩
  have hon := @chk_onFile σ s (fun d f => write d f (d.fs f).bytes.length by_)
  refine ⟨_, _, rfl, fun hne => hR _ _ ?_, fun h0 => ?_⟩
  · unfold append
    rw [hon.1 hne]
    exact ⟨rfl, hD⟩
  · obtain ⟨f, hf1, hr1, lab1, mN, mS, po, pl, pc, fb, B, Rt, hv, s1⟩ := hf h0
    cases hv
    have hin : f < _ := hk.names.files _ (assoc_some hf1)
    obtain ⟨fo, l, k, so, sl, sc, fpo, fpl, fpc, vs, hF⟩ := Rt.files f hin
    have hbl : l = ((begins σ).1.fs f).bytes.length := by have := hF.bytes.own.len; simpa using this.symm
    refine ⟨_, rfl, ?_⟩
    simp only [add_at, Nat.zero_add]
    refine ⟨_, _, _, hF.cells.blk.rd1 rfl, ?_⟩
    refine (write_calls hγ B Rt hk (begins_count hn) hin ⟨s, hf1⟩ (by rw [hbl]) (Nat.le_refl _) (hby.stp s1 hcb) hcb hb).mono ?_
    rintro _ w2 ⟨rfl, lab2, D2, s2⟩
    refine ⟨_, rfl, hR _ _ ?_⟩
    unfold append
    rw [hon.2 h0 f hf1]
    exact ⟨rfl, lab2, D2, s1.trans s2⟩
end
end Go.Proofs.Ytkekehngillblaa
