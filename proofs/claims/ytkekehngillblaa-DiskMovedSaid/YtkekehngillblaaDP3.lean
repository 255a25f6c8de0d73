/- The program's disk: what its calls do first; names. -/
import Derived.Test.YtkekehngillblaaDP2
set_option linter.unusedVariables false
set_option linter.unusedSimpArgs false
namespace Go.Proofs.Ytkekehngillblaa
open Go Go.Vcg Go.Disk
theorem calls_gen {P : Program} {f : FuncId} {args : Array Value} {w : World} {Post : Ending → World → Prop} (H : ∀ R : Ending → World → Prop, (∀ e w', Post e w' → R e w') → Calls P f args w R) : Calls P f args w Post := H _ fun _ _ h => h
section
variable {C : Type} {w w' : World} {lab : Nat → C} {γ : DC → C} {d : Nat} {σ : Dk}
variable {mN mS : Nat} {po : Option Addr} {pl pc : Nat} {fb : Nat → Nat} {names sure : List (Nm × Nat)} {pend : List Chg} {files : Nat} {fs : Nat → Fl}

theorem dset (hγ : ∀ a b, γ a = γ b → a = b) {cs : Array Value} (B : CB w lab (γ .disk) d tDisk cs) (Rt : DRest w lab γ mN mS po pl pc fb names sure pend files fs) (i : Nat) (v : Value) {cs' : Array Value} (h : cs.setIfInBounds i v = cs') :
    CB (w.setCell ⟨d, i, none⟩ v) lab (γ .disk) d tDisk cs' ∧ DRest (w.setCell ⟨d, i, none⟩ v) lab γ mN mS po pl pc fb names sure pend files fs ∧ Stp (SD γ) w lab (w.setCell ⟨d, i, none⟩ v) lab := by
  subst h
  have s1 : Stp (· = γ .disk) w lab (w.setCell ⟨d, i, none⟩ v) lab := Stp.setCell B.clr
  exact ⟨B.set i v, Rt.stp s1 (fun x hx h => hx (hγ _ _ h)), s1.mono (fun c h => h ▸ SD.of (by simp))⟩

/-- Numbers that a disk counts with. -/
structure Nums (σ : Dk) : Prop where
  count : σ.count < 2 ^ 39
  fail : 0 ≤ σ.fail ∧ σ.fail < 9223372036854775808
  halt : -1 ≤ σ.halt ∧ σ.halt < 9223372036854775808

theorem begins_calls (hγ : ∀ a b, γ a = γ b → a = b) (h : DAt w lab γ d σ) (hn : Nums σ) :
    Calls Try.prog disk_Disk_begins.n #[.pointer (some ⟨d, 0, none⟩)] w (fun e w' => e = .returned (.int .i64 (begins σ).2) ∧ DRes γ d w lab w' (begins σ).1) := by
  obtain ⟨mN, mS, po, pl, pc, fb, B, Rt⟩ := h
  have hc := hn.count
  have hf := hn.fail
  have hh := hn.halt
  refine calls_gen fun R hR => disk_Disk_begins.vc _ _ _ ?_
  unfold disk_Disk_begins.Vc
  simp only [add_at, Nat.zero_add]
  refine ⟨_, B.blk.rd1 rfl, B.blk.canSet (by simp [diskA]) rfl, ?_⟩
  rintro _ rfl
  obtain ⟨B1, R1, S1⟩ := dset hγ B Rt 5 (.int .i64 (IntKind.wrap .i64 ((σ.count : Int) + 1))) (cs' := diskA σ.cap mN mS po pl pc σ.files (σ.count + 1) σ.fail σ.halt σ.down) (by
    rw [wrap_i64_small (by omega) (by omega)]; rfl)
  generalize w.setCell ⟨d, 5, none⟩ (.int .i64 (IntKind.wrap .i64 ((σ.count : Int) + 1))) = w1 at *
  refine ⟨_, B1.blk.rd1 rfl, _, B1.blk.rd1 rfl, B1.blk.canSet (by simp [diskA]) rfl, ?_⟩
  rintro _ rfl
  rw [show IntKind.wrap .i64 (σ.fail - 1) = σ.fail - 1 from wrap_i64_small (by omega) (by omega)]
  obtain ⟨B2, R2, S2⟩ := dset hγ B1 R1 6 (.int .i64 (max (σ.fail - 1) 0)) (cs' := diskA σ.cap mN mS po pl pc σ.files (σ.count + 1) (max (σ.fail - 1) 0) σ.halt σ.down) rfl
  have S02 := S1.trans S2
  generalize w1.setCell ⟨d, 6, none⟩ (.int .i64 (max (σ.fail - 1) 0)) = w2 at *
  refine ⟨_, B2.blk.rd1 rfl, fun h0 => ?_, fun h0 => ?_⟩
  · refine ⟨B2.blk.canSet (by simp [diskA]) rfl, ?_⟩
    rintro _ rfl
    obtain ⟨B3, R3, S3⟩ := dset hγ B2 R2 8 (.bool true) (cs' := diskA σ.cap mN mS po pl pc σ.files (σ.count + 1) (max (σ.fail - 1) 0) σ.halt true) rfl
    exact hR _ _ ⟨by simp only [begins, if_pos h0], lab, by simp only [begins, if_pos h0]; exact ⟨_, _, _, _, _, _, B3, R3⟩, S02.trans S3⟩
  · refine ⟨_, B2.blk.rd1 rfl, fun hd => ?_, fun hd => ?_⟩
    · exact hR _ _ ⟨by simp only [begins, if_neg h0, if_pos hd], lab, by simp only [begins, if_neg h0, if_pos hd]; exact ⟨_, _, _, _, _, _, B2, R2⟩, S02⟩
    · have hd' : ¬ σ.down = true := by rw [hd]; simp
      refine ⟨fun h1 => ?_, fun h1 => ?_⟩ <;> refine ⟨_, B2.blk.rd1 rfl, B2.blk.canSet (by simp [diskA]) rfl, ?_⟩ <;> rintro _ rfl <;>
        rw [show IntKind.wrap .i64 (σ.halt - 1) = σ.halt - 1 from wrap_i64_small (by omega) (by omega)] <;>
        obtain ⟨B3, R3, S3⟩ := dset hγ B2 R2 7 (.int .i64 (max (σ.halt - 1) (-1))) (cs' := diskA σ.cap mN mS po pl pc σ.files (σ.count + 1) (max (σ.fail - 1) 0) (max (σ.halt - 1) (-1)) σ.down) rfl
      · exact hR _ _ ⟨by simp only [begins, if_neg h0, if_neg hd', if_pos h1], lab, by simp only [begins, if_neg h0, if_neg hd']; exact ⟨_, _, _, _, _, _, B3, R3⟩, S02.trans S3⟩
      · exact hR _ _ ⟨by simp only [begins, if_neg h0, if_neg hd', if_neg h1], lab, by simp only [begins, if_neg h0, if_neg hd']; exact ⟨_, _, _, _, _, _, B3, R3⟩, S02.trans S3⟩

theorem Fail_calls (hγ : ∀ a b, γ a = γ b → a = b) (h : DAt w lab γ d σ) (n : Int) :
    Calls Try.prog disk_Disk_Fail.n #[.pointer (some ⟨d, 0, none⟩), .int .i64 n] w (fun e w' => e = .returned (.tuple #[]) ∧ DRes γ d w lab w' (failAt σ n)) := by
  obtain ⟨mN, mS, po, pl, pc, fb, B, Rt⟩ := h
  refine calls_gen fun R hR => disk_Disk_Fail.vc _ _ _ _ ?_
  unfold disk_Disk_Fail.Vc
  simp only [add_at, Nat.zero_add]
  refine ⟨B.blk.canSet (by simp [diskA]) rfl, ?_⟩
  rintro _ rfl
  obtain ⟨B1, R1, S1⟩ := dset hγ B Rt 6 (.int .i64 (max n 0)) (cs' := diskA σ.cap mN mS po pl pc σ.files σ.count (max n 0) σ.halt σ.down) rfl
  exact hR _ _ ⟨rfl, lab, ⟨_, _, _, _, _, _, B1, R1⟩, S1⟩
theorem Halt_calls (hγ : ∀ a b, γ a = γ b → a = b) (h : DAt w lab γ d σ) (n : Int) :
    Calls Try.prog disk_Disk_Halt.n #[.pointer (some ⟨d, 0, none⟩), .int .i64 n] w (fun e w' => e = .returned (.tuple #[]) ∧ DRes γ d w lab w' (haltAt σ n)) := by
  obtain ⟨mN, mS, po, pl, pc, fb, B, Rt⟩ := h
  refine calls_gen fun R hR => disk_Disk_Halt.vc _ _ _ _ ?_
  unfold disk_Disk_Halt.Vc
  simp only [add_at, Nat.zero_add]
  refine ⟨B.blk.canSet (by simp [diskA]) rfl, ?_⟩
  rintro _ rfl
  obtain ⟨B1, R1, S1⟩ := dset hγ B Rt 7 (.int .i64 (max n (-1))) (cs' := diskA σ.cap mN mS po pl pc σ.files σ.count σ.fail (max n (-1)) σ.down) rfl
  exact hR _ _ ⟨rfl, lab, ⟨_, _, _, _, _, _, B1, R1⟩, S1⟩

/-! ### names -/
theorem assoc_perm {K V : Type} [DecidableEq K] {k : K} {l l' : List (K × V)} (hp : l.Perm l') (hn : (l.map Prod.fst).Nodup) : assoc k l = assoc k l' := by
  have hn' : (l'.map Prod.fst).Nodup := ((hp.map Prod.fst).nodup_iff).1 hn
  by_cases h : ∃ x ∈ l', x.1 = k
  · obtain ⟨x, hx, hk⟩ := h
    obtain ⟨j, hj⟩ := List.getElem?_of_mem hx
    obtain ⟨i, hi⟩ := List.getElem?_of_mem (hp.mem_iff.2 hx)
    rw [assoc_at hn hi hk, assoc_at hn' hj hk]
  · have h2 : ∀ x ∈ l', x.1 ≠ k := fun x hx e => h ⟨x, hx, e⟩
    rw [assoc_none (fun x hx => h2 x (hp.mem_iff.1 hx)), assoc_none h2]
theorem assoc_map {K V W : Type} [DecidableEq K] {k : K} (f : V → W) : ∀ (l : List (K × V)), assoc k (l.map fun x => (x.1, f x.2)) = (assoc k l).map f
  | [] => rfl
  | x :: r => by
    simp only [List.map_cons, assoc]
    split
    · rfl
    · exact assoc_map f r
theorem assoc_some {K V : Type} [DecidableEq K] {k : K} {v : V} : ∀ {l : List (K × V)}, assoc k l = some v → (k, v) ∈ l
  | [], h => by cases h
  | x :: r, h => by
    rw [assoc] at h
    split at h
    · rename_i hk
      cases h
      rw [← hk]
      exact List.mem_cons_self ..
    · exact List.mem_cons_of_mem _ (assoc_some h)

theorem NamesAt.look {m : Nat} {c : C} {l : List (Nm × Nat)} (h : NamesAt w lab c m fb l) {s : Nm} (hs : NmGood s) (ok : Bool) :
    (Instr.lookup tNaming (.map (some m)) (.string s) ok).run Try.prog w = .ok (if ok then .tuple #[((assoc s l).map (fileV fb)).getD (.pointer none), .bool (assoc s l).isSome] else ((assoc s l).map (fileV fb)).getD (.pointer none)) w := by
  obtain ⟨es, h1, h2⟩ := h
  obtain ⟨e, he, hz⟩ := und_naming
  have h3 := h1.map.look keyEnc he (hz w) hs ok
  have h4 : assoc s es = (assoc s l).map (fileV fb) := by rw [assoc_perm h2 h1.map.nodup, assoc_map (fileV fb) l]
  rw [h4] at h3
  rw [h3]
  cases assoc s l <;> rfl

theorem named_calls (h : DAt w lab γ d σ) (s : Nm) {o : Option Addr} {c : Nat} (l : List Nm) (hl : Seconds w o l) :
    Calls Try.prog disk_Disk_named.n #[.pointer (some ⟨d, 0, none⟩), .string s, .slice o l.length c] w (fun e w' => DRes γ d w lab w' σ ∧
      ((right s = true → l.all right = true → ∀ f, assoc s σ.names = some f → ∃ mN mS po pl pc fb, CB w lab (γ .disk) d tDisk (diskA σ.cap mN mS po pl pc σ.files σ.count σ.fail σ.halt σ.down) ∧ DRest w lab γ mN mS po pl pc fb σ.names σ.sure σ.pend σ.files σ.fs ∧ e = .returned (.tuple #[fileV fb f, .int .i64 0]) ∧ Vcg.Mod NoB w w') ∧
       (right s = true → l.all right = true → assoc s σ.names = none → e = .returned (.tuple #[.pointer none, .int .i64 13])) ∧
       (¬ (right s = true ∧ l.all right = true) → e = .returned (.tuple #[.pointer none, .int .i64 11])))) := by
  have h' := h
  obtain ⟨mN, mS, po, pl, pc, fb, B, Rt⟩ := h
  refine calls_gen fun R hR => disk_Disk_named.vc _ _ _ _ _ _ _ ?_
  unfold disk_Disk_named.Vc
  simp only [add_at, Nat.zero_add]
  refine (right_calls w s).mono ?_
  rintro _ w1 ⟨rfl, M1⟩
  refine ⟨_, rfl, fun hr => hR _ _ ⟨h'.res M1, fun h _ => (by rw [h] at hr; cases hr), fun h _ => (by rw [h] at hr; cases hr), fun _ => rfl⟩, fun hr => ?_⟩
  refine (contains_calls w1 l (hl.mod M1)).mono ?_
  rintro _ w2 ⟨rfl, M2⟩
  have M := M1.none_trans M2
  refine ⟨_, rfl, fun ha => ?_, fun ha => ?_⟩
  · have ha : l.all right = false := by simpa using ha
    exact hR _ _ ⟨h'.res M, fun _ h => (by rw [h] at ha; cases ha), fun _ h => (by rw [h] at ha; cases ha), fun _ => rfl⟩
  · have ha : l.all right = true := by simpa using ha
    have sN : Stp NoC w lab w2 (ext lab w.heap.size (γ .froz)) := Stp.of_nob M _
    have B2 := B.stp sN (fun h => h)
    have R2 := Rt.stp sN (fun _ _ h => h)
    refine ⟨_, B2.blk.rd1 rfl, _, R2.names.look (right_good hr) true, ?_⟩
    simp only [if_true]
    cases hf : assoc s σ.names with
    | none =>
      refine ⟨none, false, rfl, fun _ => hR _ _ ⟨h'.res M, fun _ _ f hf' => (by rw [hf] at hf'; cases hf'), fun _ _ _ => rfl, fun h => (h ⟨hr, ha⟩).elim⟩, fun h => by cases h⟩
    | some f =>
      refine ⟨some ⟨fb f, 0, none⟩, true, rfl, (fun h => by cases h), fun _ => hR _ _ ⟨h'.res M, fun _ _ f' hf' => ?_, fun _ _ h => (by rw [hf] at h; cases h), fun h => (h ⟨hr, ha⟩).elim⟩⟩
      rw [hf] at hf'
      cases hf'
      exact ⟨mN, mS, po, pl, pc, fb, B, Rt, rfl, M⟩
end
end Go.Proofs.Ytkekehngillblaa
