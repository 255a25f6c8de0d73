/- The program's disk: changes of names. -/
import Derived.Test.YtkekehngillblaaDP7
import Derived.Laws.Externs
set_option linter.unusedVariables false
set_option linter.unusedSimpArgs false
namespace Go.Disk
open Go.Vcg
theorem upd_perm {V : Type} {k : Nm} {v : V} : ∀ {l : List (Nm × V)}, (l.map Prod.fst).Nodup → (upd k v l).Perm (put k v l)
  | [], _ => List.Perm.refl _
  | x :: r, hn => by
    rw [List.map_cons, List.nodup_cons] at hn
    by_cases h : x.1 = k
    · have hr : without k r = r := by
        unfold without
        rw [List.filter_eq_self]
        intro y hy
        have : y.1 ≠ k := fun e => hn.1 (h ▸ e ▸ List.mem_map_of_mem hy)
        simpa using this
      rw [upd, if_pos h, put, without, List.filter_cons_of_neg (by simp [h]), ← without, hr]
      exact (List.perm_append_singleton _ _).symm
    · rw [upd, if_neg h, put, without, List.filter_cons_of_pos (by simp [h])]
      exact (upd_perm hn.2).cons x
theorem del_without {V : Type} {k : Nm} : ∀ {l : List (Nm × V)}, (l.map Prod.fst).Nodup → del k l = without k l
  | [], _ => rfl
  | x :: r, hn => by
    rw [List.map_cons, List.nodup_cons] at hn
    by_cases h : x.1 = k
    · rw [del, if_pos h, without, List.filter_cons_of_neg (by simp [h])]
      symm
      rw [List.filter_eq_self]
      intro y hy
      have : y.1 ≠ k := fun e => hn.1 (h ▸ e ▸ List.mem_map_of_mem hy)
      simpa using this
    · rw [del, if_neg h, without, List.filter_cons_of_pos (by simp [h]), del_without hn.2]; rfl
theorem without_map {V W : Type} (g : V → W) (k : Nm) (l : List (Nm × V)) : without k (l.map fun x => (x.1, g x.2)) = (without k l).map fun x => (x.1, g x.2) := by
  unfold without
  rw [List.filter_map]; rfl
theorem put_map {V W : Type} (g : V → W) (k : Nm) (v : V) (l : List (Nm × V)) : put k (g v) (l.map fun x => (x.1, g x.2)) = (put k v l).map fun x => (x.1, g x.2) := by
  unfold put
  rw [without_map, List.map_append]; rfl
theorem without_perm {V : Type} {k : Nm} {l l' : List (Nm × V)} (h : l.Perm l') : (without k l).Perm (without k l') := h.filter _
theorem put_perm {V : Type} {k : Nm} {v : V} {l l' : List (Nm × V)} (h : l.Perm l') : (put k v l).Perm (put k v l') := (without_perm h).append_right _
theorem without_comm {V : Type} {a b : Nm} (l : List (Nm × V)) : without a (without b l) = without b (without a l) := by
  unfold without
  rw [List.filter_filter, List.filter_filter]
  congr 1; funext x; rw [Bool.and_comm]
theorem without_put {V : Type} {a b : Nm} {v : V} (h : a ≠ b) (l : List (Nm × V)) : without a (put b v l) = put b v (without a l) := by
  unfold put
  rw [without_comm (a := b) (b := a) l]
  simp [without, List.filter_append, Ne.symm h]
theorem assoc_mem {V : Type} {a : Nm} : ∀ {l : List (Nm × V)}, a ∈ l.map Prod.fst → ∃ f, assoc a l = some f
  | [], h => by cases h
  | x :: r, h => by
    rw [assoc]
    by_cases hx : x.1 = a
    · exact ⟨x.2, by rw [if_pos hx]⟩
    · rw [if_neg hx]
      rw [List.map_cons, List.mem_cons] at h
      exact assoc_mem (h.resolve_left (fun e => hx e.symm))
end Go.Disk
namespace Go.Proofs.Ytkekehngillblaa
open Go Go.Vcg Go.Disk
section
variable {C : Type} {w w' : World} {lab lab' : Nat → C} {γ : DC → C} {d : Nat} {σ : Dk} {c : C} {m : Nat}
variable {mN mS : Nat} {po : Option Addr} {pl pc : Nat} {fb : Nat → Nat} {names sure l : List (Nm × Nat)} {pend : List Chg} {files : Nat} {fs : Nat → Fl}

theorem NamesAt.update (h : NamesAt w lab c m fb l) {s : Nm} (hs : NmGood s) (f : Nat) :
    ∃ w', (Instr.mapUpdate tNaming (.map (some m)) (.string s) (fileV fb f)).run Try.prog w = .ok () w' ∧ NamesAt w' lab c m fb (put s f l) ∧ Stp (· = c) w lab w' lab ∧ Vcg.Mod (· = m) w w' := by
  obtain ⟨es, h1, h2⟩ := h
  obtain ⟨e, he, hz⟩ := und_naming
  obtain ⟨w', h3, h4, h5⟩ := h1.map.update keyEnc he hs (fileV fb f)
  refine ⟨w', h3, ⟨_, ⟨h4, h1.clr⟩, ?_⟩, ⟨h5.os, h5.tape, h5.output, h5.size, fun _ _ => rfl, fun k hk hn => h5.block k hk (fun e => hn (e ▸ h1.clr))⟩, h5⟩
  rw [← put_map (fileV fb)]
  exact (upd_perm h1.map.nodup).trans (put_perm h2)
theorem NamesAt.delete (h : NamesAt w lab c m fb l) {s : Nm} (hs : NmGood s) (ty : TypeId) :
    ∃ w', (builtinV .delete #[tNaming, tStr] ty #[.map (some m), .string s]).run Try.prog w = .ok (.tuple #[]) w' ∧ NamesAt w' lab c m fb (without s l) ∧ Stp (· = c) w lab w' lab := by
  obtain ⟨es, h1, h2⟩ := h
  obtain ⟨e, he, hz⟩ := und_naming
  obtain ⟨w', h3, h4, h5⟩ := h1.map.delete (ty := ty) keyEnc he hs
  refine ⟨w', h3, ⟨_, ⟨h4, h1.clr⟩, ?_⟩, ⟨h5.os, h5.tape, h5.output, h5.size, fun _ _ => rfl, fun k hk hn => h5.block k hk (fun e => hn (e ▸ h1.clr))⟩⟩
  rw [del_without h1.map.nodup, ← without_map (fileV fb)]
  exact without_perm h2
theorem NamesAt.clone (h : NamesAt w lab c m fb l) (c' : C) :
    ∃ o, (callFunc fMapsClone #[.iface tNaming (.map (some m))]).run Try.prog w = .ok (.value (.iface tNaming (.map (some w.heap.size)))) (w.alloc o) ∧ NamesAt (w.alloc o) (ext lab w.heap.size c') c' w.heap.size fb l := by
  obtain ⟨es, ⟨⟨A, clock, hb, hs, he, hg⟩, hc⟩, h2⟩ := h
  obtain ⟨fn, f1, f2, f3, f4, f5⟩ := clone_fn
  refine ⟨.map A clock, ?_, es, ⟨⟨A, clock, heap_alloc_new w _, hs, he, hg⟩, ext_new (Nat.le_refl _)⟩, h2⟩
  have hrun : (Extern.MapsClone.clone #[.iface tNaming (.map (some m))]).run Try.prog w = .ok (.iface tNaming (.map (some w.heap.size))) (w.alloc (.map A clock)) := by
    have e : Extern.MapsClone.clone #[.iface tNaming (.map (some m))] = (getObj m >>= fun o => match o with
      | .map entries clock => (newObj (.map entries clock) >>= fun n => pure (.iface tNaming (.map (some n))))
      | _ => stuck "maps.clone: a map expected") := rfl
    rw [e]
    simp [MapKept.run_getObj_map hb, Result.andThen]
  rw [run_callFunc_extern f1 f2 f3 f4 f5, hrun]; rfl
theorem CloneMap_calls (h : NamesAt w lab c m fb l) (c' : C) :
    Calls Try.prog maps_Clone_disk_naming_string_disk_file.n #[.map (some m)] w (fun e w' => ∃ m' lab', e = .returned (.map (some m')) ∧ NamesAt w' lab' c' m' fb l ∧ Stp NoC w lab w' lab') := by
  refine calls_gen fun R hR => maps_Clone_disk_naming_string_disk_file.vc _ _ _ ?_
  unfold maps_Clone_disk_naming_string_disk_file.Vc
  refine ⟨fun h => by simp at h, fun _ => ?_⟩
  obtain ⟨o, h1, h2⟩ := h.clone c'
  obtain ⟨e, he, _⟩ := und_naming
  have ht : (Instr.typeAssert (.iface tNaming (.map (some w.heap.size))) tAny tNaming false).run Try.prog (w.alloc o) = .ok (.map (some w.heap.size)) (w.alloc o) := by
    simp [Instr.typeAssert, run_underlying he, Result.andThen]
  refine ⟨_, _, h1, _, rfl, _, ht, _, rfl, hR _ _ ⟨_, _, rfl, h2, Stp.alloc _ _ _ _ _⟩⟩

/-- A change of names is done. -/
theorem on_calls (h : NamesAt w lab c m fb l) {ch : Chg} (hc : ChgOk files l ch) :
    CallsM Try.prog (chgV fb ch) "moraine/disk.on" #[.map (some m)] w (fun e w' => e = .returned (.tuple #[]) ∧ ∃ lab', NamesAt w' lab' c m fb (ch.on l) ∧ Stp (· = c) w lab w' lab') := by
  cases ch with
  | made n f =>
    refine ⟨_, _, _, _, rfl, m_made w n _, by kernel_rfl, ?_⟩
    refine calls_gen fun R hR => disk_made_on.vc n (some ⟨fb f, 0, none⟩) (some m) w _ ?_
    unfold disk_made_on.Vc
    rintro d3 w4 ⟨rfl, rfl⟩
    have B := Blk.new w tMade #[.string n, .pointer (some ⟨fb f, 0, none⟩)]
    have s1 : Stp NoC w lab (w.alloc (.cells #[.string n, .pointer (some ⟨fb f, 0, none⟩)] tMade)) (ext lab w.heap.size c) := Stp.alloc _ _ _ _ _
    have h1 := h.stp s1 (fun h => h)
    generalize w.alloc (.cells #[.string n, .pointer (some ⟨fb f, 0, none⟩)] tMade) = w1 at *
    simp only [add_at, Nat.zero_add]
    obtain ⟨w2, h2, h3, s2, _⟩ := h1.update (right_good hc.1) f
    exact ⟨_, B.rd1 rfl, _, B.rd1 rfl, w2, h2, hR _ _ ⟨rfl, _, h3, (s1.mono (T := (· = c)) (fun _ h => h.elim)).trans s2⟩⟩
  | ren a b =>
    refine ⟨_, _, _, _, rfl, m_ren w a b, by kernel_rfl, ?_⟩
    refine calls_gen fun R hR => disk_renamed_on.vc a b (some m) w _ ?_
    unfold disk_renamed_on.Vc
    rintro d3 w4 ⟨rfl, rfl⟩
    have B := Blk.new w tRenamed #[.string a, .string b]
    have s1 : Stp NoC w lab (w.alloc (.cells #[.string a, .string b] tRenamed)) (ext lab w.heap.size c) := Stp.alloc _ _ _ _ _
    have h1 := h.stp s1 (fun h => h)
    have hmb : m ≠ w.heap.size := by
      obtain ⟨es, ⟨hm, _⟩, _⟩ := h
      have := hm.lt; omega
    generalize w.alloc (.cells #[.string a, .string b] tRenamed) = w1 at *
    generalize w.heap.size = D at *
    simp only [add_at, Nat.zero_add]
    obtain ⟨hra, hrb, hab, hin⟩ := hc
    obtain ⟨f, hf⟩ := assoc_mem hin
    have hlook := h1.look (right_good hra) false
    rw [hf] at hlook
    obtain ⟨w2, h2, h3, s2, M2⟩ := h1.update (right_good hrb) f
    have B2 := B.mod M2 (fun e => hmb e.symm)
    obtain ⟨w3, h4, h5, s3⟩ := h3.delete (right_good hra) 0
    have e : without a (put b f l) = Chg.on l (.ren a b) := by
      simp only [Chg.on, hf]
      exact without_put hab l
    rw [e] at h5
    exact ⟨_, B.rd1 rfl, _, B.rd1 rfl, _, hlook, _, rfl, w2, h2, _, B2.rd1 rfl, _, w3, h4, rfl, hR _ _ ⟨rfl, _, h5, (s1.mono (T := (· = c)) (fun _ h => h.elim)).trans (s2.trans s3)⟩⟩
  | rem n =>
    refine ⟨_, _, _, _, rfl, m_rem w n, by kernel_rfl, ?_⟩
    refine calls_gen fun R hR => disk_removed_on.vc n (some m) w _ ?_
    unfold disk_removed_on.Vc
    rintro d3 w4 ⟨rfl, rfl⟩
    have B := Blk.new w tRemoved #[.string n]
    have s1 : Stp NoC w lab (w.alloc (.cells #[.string n] tRemoved)) (ext lab w.heap.size c) := Stp.alloc _ _ _ _ _
    have h1 := h.stp s1 (fun h => h)
    generalize w.alloc (.cells #[.string n] tRemoved) = w1 at *
    obtain ⟨w2, h2, h3, s2⟩ := h1.delete (right_good hc) 0
    exact ⟨_, B.rd1 rfl, _, w2, h2, rfl, hR _ _ ⟨rfl, _, h3, (s1.mono (T := (· = c)) (fun _ h => h.elim)).trans s2⟩⟩
end
end Go.Proofs.Ytkekehngillblaa
