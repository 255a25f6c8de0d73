/- The disk as plain Lean: what holds of every disk stays. -/
import Derived.Test.YtkekehngillblaaDP11
set_option linter.unusedVariables false
namespace Go.Disk
open Go.Vcg

theorem new_ok {cap : Int} (h : ¬ (cap < 0 ∨ cap > 67108864)) : Ok (new cap) where
  cap := by simp only [new, most]; omega
  files := by simp [new]
  names := ⟨by simp [new], by simp [new], (fun x h => by cases h), (fun x h => by cases h)⟩
  sure := ⟨by simp [new], by simp [new], (fun x h => by cases h), (fun x h => by cases h)⟩
  chgs := rfl
  pts := fun n hn => by simp [new] at hn
  size := fun n hn => by simp [new] at hn
  fail := by simp [new]
  halt := by simp [new]
  pend := by simp [new]
  pends := fun n hn => by simp [new] at hn
theorem Ok.scalars {d d' : Dk} (h : Ok d) (h1 : d'.cap = d.cap) (h2 : d'.names = d.names) (h3 : d'.sure = d.sure) (h4 : d'.pend = d.pend) (h5 : d'.files = d.files) (h6 : d'.fs = d.fs) (h7 : d.count ≤ d'.count)
    (h8 : 0 ≤ d'.fail ∧ d'.fail < 9223372036854775808) (h9 : -1 ≤ d'.halt ∧ d'.halt < 9223372036854775808) : Ok d' where
  cap := h1 ▸ h.cap
  files := h5 ▸ h.files
  names := by rw [h5, h2]; exact h.names
  sure := by rw [h5, h3]; exact h.sure
  chgs := by rw [h5, h3, h4, h2]; exact h.chgs
  pts := by rw [h5, h6]; exact h.pts
  size := by rw [h5, h6]; exact h.size
  fail := h8
  halt := h9
  pend := by rw [h4]; exact Nat.le_trans h.pend h7
  pends := fun n hn => by rw [h6]; rw [h5] at hn; exact Nat.le_trans (h.pends n hn) h7
theorem begins_ok {d : Dk} (h : Ok d) : Ok (begins d).1 := by
  have h1 := h.fail
  have h2 := h.halt
  unfold begins
  split
  · exact h.scalars rfl rfl rfl rfl rfl rfl (Nat.le_succ _) (by simp only; omega) h2
  · split
    · exact h.scalars rfl rfl rfl rfl rfl rfl (Nat.le_succ _) (by simp only; omega) h2
    · exact h.scalars rfl rfl rfl rfl rfl rfl (Nat.le_succ _) (by simp only; omega) (by simp only; omega)
theorem begins_eq (d : Dk) : (begins d).1.cap = d.cap ∧ (begins d).1.names = d.names ∧ (begins d).1.sure = d.sure ∧ (begins d).1.pend = d.pend ∧ (begins d).1.files = d.files ∧ (begins d).1.fs = d.fs ∧ (begins d).1.count = d.count + 1 := by
  unfold begins
  split
  · exact ⟨rfl, rfl, rfl, rfl, rfl, rfl, rfl⟩
  · split <;> exact ⟨rfl, rfl, rfl, rfl, rfl, rfl, rfl⟩
theorem failAt_ok {d : Dk} (h : Ok d) (n : Int) (hn : n < 9223372036854775808) : Ok (failAt d n) :=
  h.scalars rfl rfl rfl rfl rfl rfl (Nat.le_refl _) (by simp only [failAt]; omega) h.halt
theorem haltAt_ok {d : Dk} (h : Ok d) (n : Int) (hn : n < 9223372036854775808) : Ok (haltAt d n) :=
  h.scalars rfl rfl rfl rfl rfl rfl (Nat.le_refl _) h.fail (by simp only [haltAt]; omega)

theorem PtsOk.snoc {p : Pt} : ∀ {a b b' : List UInt8} {l : List Pt}, PtsOk a l b → PtsOk b [p] b' → PtsOk a (l ++ [p]) b'
  | a, b, b', [], h, h' => by
    obtain rfl : a = b := h
    exact h'
  | a, b, b', .wr x c :: r, h, h' => ⟨h.1, h.2.1, PtsOk.snoc h.2.2 h'⟩
  | a, b, b', .cut n :: r, h, h' => ⟨h.1, PtsOk.snoc h.2 h'⟩
theorem ChgsOk.snoc {files : Nat} {c : Chg} : ∀ {a b : List (Nm × Nat)} {l : List Chg}, ChgsOk files a l b → ChgOk files b c → ChgsOk files a (l ++ [c]) (c.on b)
  | a, b, [], h, h' => by
    obtain rfl : a = b := h
    exact ⟨h', rfl⟩
  | a, b, x :: r, h, h' => ⟨h.1, ChgsOk.snoc h.2 h'⟩
theorem ChgOk.mono {files files' : Nat} (hf : files ≤ files') {l : List (Nm × Nat)} {c : Chg} (h : ChgOk files l c) : ChgOk files' l c := by
  cases c with
  | made n f => exact ⟨h.1, Nat.lt_of_lt_of_le h.2.1 hf, h.2.2⟩
  | ren a b => exact h
  | rem n => exact h
theorem ChgsOk.mono {files files' : Nat} (hf : files ≤ files') : ∀ {a b : List (Nm × Nat)} {l : List Chg}, ChgsOk files a l b → ChgsOk files' a l b
  | _, _, [], h => h
  | _, _, x :: r, h => ⟨h.1.mono hf, ChgsOk.mono hf h.2⟩
theorem NamesOk.mono {files files' : Nat} (hf : files ≤ files') {l : List (Nm × Nat)} (h : NamesOk files l) : NamesOk files' l :=
  ⟨h.keys, h.vals, h.rights, fun x hx => Nat.lt_of_lt_of_le (h.files x hx) hf⟩

/-- A file is in another state. -/
theorem Ok.setF {d : Dk} (h : Ok d) {n : Nat} {f : Fl} (hn : n < d.files) (hp : PtsOk f.sure f.pend f.bytes) (hs : f.sure.length ≤ most ∧ f.bytes.length ≤ most) (hl : f.pend.length ≤ d.count) : Ok (Disk.setF d n f) where
  cap := h.cap
  files := h.files
  names := h.names
  sure := h.sure
  chgs := h.chgs
  pts := fun k hk => by
    simp only [Disk.setF]
    split
    · exact hp
    · exact h.pts k hk
  size := fun k hk => by
    simp only [Disk.setF]
    split
    · exact hs
    · exact h.size k hk
  fail := h.fail
  halt := h.halt
  pend := h.pend
  pends := fun k hk => by
    simp only [Disk.setF]
    split
    · exact hl
    · exact h.pends k hk
theorem Ok.does {d : Dk} (h : Ok d) {c : Chg} (hc : ChgOk d.files d.names c) (hl : d.pend.length < d.count) : Ok (Disk.does d c) where
  cap := h.cap
  files := h.files
  names := h.names.on hc
  sure := h.sure
  chgs := h.chgs.snoc hc
  pts := h.pts
  size := h.size
  fail := h.fail
  halt := h.halt
  pend := by simp only [Disk.does, List.length_append, List.length_singleton]; omega
  pends := h.pends

/-- Behind 'begins' there is room for one more pending change. -/
structure Ok1 (d : Dk) : Prop where
  ok : Ok d
  pend : d.pend.length < d.count
  pends : ∀ n, n < d.files → (d.fs n).pend.length < d.count
theorem begins_ok1 {d : Dk} (h : Ok d) : Ok1 (begins d).1 := by
  obtain ⟨e1, e2, e3, e4, e5, e6, e7⟩ := begins_eq d
  refine ⟨begins_ok h, ?_, fun n hn => ?_⟩
  · rw [e4, e7]; exact Nat.lt_succ_of_le h.pend
  · rw [e6, e7]; rw [e5] at hn; exact Nat.lt_succ_of_le (h.pends n hn)

theorem onFile_ok {d : Dk} (h : Ok d) {s : Nm} {k : Dk → Nat → Dk × Int} (hk : ∀ d f, Ok1 d → assoc s d.names = some f → right s = true → f < d.files → Ok (k d f).1) : Ok (onFile d s k).1 := by
  have h1 := begins_ok1 h
  unfold onFile
  simp only
  generalize (begins d).1 = d1 at *
  split
  · split
    · rename_i h0
      have hn : right s = true ∧ assoc s d1.names = some (named d1 s).1 := by
        have h0' := h0
        unfold named at h0' ⊢
        split at h0'
        · rename_i hr
          split at h0'
          · rename_i f hf
            rw [if_pos hr, hf]; exact ⟨hr, rfl⟩
          · cases h0'
        · cases h0'
      exact hk d1 _ h1 hn.2 hn.1 (h1.ok.names.files _ (Go.Proofs.Ytkekehngillblaa.assoc_some hn.2))
    · exact h1.ok
  · exact begins_ok h

theorem onFile_count {d : Dk} {s : Nm} {k : Dk → Nat → Dk × Int} (hk : ∀ d f, (k d f).1.count = d.count) : (onFile d s k).1.count = d.count + 1 := by
  have e := (begins_eq d).2.2.2.2.2.2
  unfold onFile
  simp only
  split
  · split
    · rw [hk, e]
    · exact e
  · exact e
theorem mem_len_le {l : List (Nm × Nat)} {g : Nat → Nat} {s : Nm} {f : Nat} (h : assoc s l = some f) : g f ≤ (l.map fun x => g x.2).sum := by
  have hm := Go.Proofs.Ytkekehngillblaa.assoc_some h
  clear h
  induction l with
  | nil => cases hm
  | cons x r ih =>
    simp only [List.map_cons, List.sum_cons]
    rcases List.mem_cons.1 hm with rfl | hm
    · exact Nat.le_add_right _ _
    · have := ih hm; omega
theorem write_ok {d : Dk} (h : Ok1 d) {s : Nm} {f : Nat} (hf : assoc s d.names = some f) (hlt : f < d.files) {at_ : Nat} (hat : at_ ≤ (d.fs f).bytes.length) (b : List UInt8) : Ok (write d f at_ b).1 := by
  unfold write
  simp only
  split
  · exact h.ok
  · rename_i hn
    split
    · exact h.ok
    · have hl : (lay (d.fs f).bytes at_ b).length ≤ most := by
        have h1 := (h.ok.size f hlt).2
        have h2 := h.ok.cap
        have h3 : (d.fs f).bytes.length ≤ used d := mem_len_le (g := fun n => (d.fs n).bytes.length) hf
        have h4 : (lay (d.fs f).bytes at_ b).length = max (d.fs f).bytes.length (at_ + b.length) := by
          rw [lay, List.length_append, List.length_append, List.length_take, List.length_drop]; omega
        rw [h4]
        simp only [most] at *
        omega
      refine h.ok.setF hlt ((h.ok.pts f hlt).snoc ⟨hat, hl, rfl⟩) ⟨(h.ok.size f hlt).1, hl⟩ ?_
      have := h.pends f hlt
      simp only [List.length_append, List.length_singleton]; omega
theorem write_count (d : Dk) (f at_ : Nat) (b : List UInt8) : (write d f at_ b).1.count = d.count := by
  unfold write
  simp only
  split
  · rfl
  · split <;> rfl
theorem append_ok {d : Dk} (h : Ok d) (s : Nm) (b : List UInt8) : Ok (append d s b).1 :=
  onFile_ok h fun d f h1 hf hr hlt => write_ok h1 hf hlt (Nat.le_refl _) b
theorem append_count (d : Dk) (s : Nm) (b : List UInt8) : (append d s b).1.count = d.count + 1 := onFile_count fun d f => write_count _ _ _ _
theorem writeAt_ok {d : Dk} (h : Ok d) (s : Nm) (a : Int) (b : List UInt8) : Ok (writeAt d s a b).1 :=
  onFile_ok h fun d f h1 hf hr hlt => by
    split
    · exact h1.ok
    · exact write_ok h1 hf hlt (by omega) b
theorem writeAt_count (d : Dk) (s : Nm) (a : Int) (b : List UInt8) : (writeAt d s a b).1.count = d.count + 1 := onFile_count fun d f => by
  split
  · rfl
  · exact write_count _ _ _ _
theorem truncate_ok {d : Dk} (h : Ok d) (s : Nm) (n : Int) : Ok (truncate d s n).1 :=
  onFile_ok h fun d f h1 hf hr hlt => by
    split
    · exact h1.ok
    · split
      · have h2 := h1.ok.size f hlt
        refine h1.ok.setF hlt ((h1.ok.pts f hlt).snoc ⟨by omega, rfl⟩) ⟨h2.1, by rw [List.length_take]; omega⟩ ?_
        have := h1.pends f hlt
        simp only [List.length_append, List.length_singleton]; omega
      · exact h1.ok
theorem truncate_count (d : Dk) (s : Nm) (n : Int) : (truncate d s n).1.count = d.count + 1 := onFile_count fun d f => by
  split
  · rfl
  · split <;> rfl
theorem sync_ok {d : Dk} (h : Ok d) (s : Nm) : Ok (sync d s).1 :=
  onFile_ok h fun d f h1 hf hr hlt => h1.ok.setF hlt rfl ⟨(h1.ok.size f hlt).2, (h1.ok.size f hlt).2⟩ (Nat.zero_le _)
theorem sync_count (d : Dk) (s : Nm) : (sync d s).1.count = d.count + 1 := onFile_count fun d f => rfl
theorem remove_ok {d : Dk} (h : Ok d) (s : Nm) : Ok (remove d s).1 :=
  onFile_ok h fun d f h1 hf hr hlt => h1.ok.does (c := .rem s) hr h1.pend
theorem remove_count (d : Dk) (s : Nm) : (remove d s).1.count = d.count + 1 := onFile_count fun d f => rfl
theorem syncDir_ok {d : Dk} (h : Ok d) : Ok (syncDir d).1 := by
  have h1 := begins_ok h
  unfold syncDir
  simp only
  split
  · exact ⟨h1.cap, h1.files, h1.names, h1.names, rfl, h1.pts, h1.size, h1.fail, h1.halt, Nat.zero_le _, h1.pends⟩
  · exact h1
theorem syncDir_count (d : Dk) : (syncDir d).1.count = d.count + 1 := by
  have e := (begins_eq d).2.2.2.2.2.2
  unfold syncDir
  simp only
  split <;> exact e
theorem rename_ok {d : Dk} (h : Ok d) (a b : Nm) : Ok (rename d a b).1 := by
  have h1 := begins_ok1 h
  unfold rename
  simp only
  generalize (begins d).1 = d1 at *
  split
  · split
    · rename_i hr
      split
      · rename_i f hf
        split
        · exact h1.ok
        · rename_i hab
          simp only [Bool.and_eq_true] at hr
          exact h1.ok.does (c := .ren a b) ⟨hr.1, hr.2, hab, List.mem_map_of_mem (f := Prod.fst) (Go.Proofs.Ytkekehngillblaa.assoc_some hf)⟩ h1.pend
      · exact h1.ok
    · exact h1.ok
  · exact begins_ok h
theorem rename_count (d : Dk) (a b : Nm) : (rename d a b).1.count = d.count + 1 := by
  have e := (begins_eq d).2.2.2.2.2.2
  unfold rename
  simp only
  split
  · split
    · split
      · split <;> exact e
      · exact e
    · exact e
  · exact e
theorem create_ok {d : Dk} (h : Ok d) (s : Nm) : Ok (create d s).1 := by
  have h1 := begins_ok1 h
  unfold create
  simp only
  generalize (begins d).1 = d1 at *
  split
  · split
    · exact h1.ok
    · split
      · rename_i h13
        split
        · exact h1.ok
        · rename_i hful
          have hnone : right s = true ∧ assoc s d1.names = none := by
            unfold named at h13
            split at h13
            · rename_i hr
              split at h13
              · cases h13
              · rename_i hf; exact ⟨hr, hf⟩
            · cases h13
          have hk := h1.ok
          have hfl := hk.files
          have hch : ChgOk (d1.files + 1) d1.names (.made s d1.files) := by
            refine ⟨hnone.1, by omega, fun hm => ?_, fun hm => ?_⟩
            · obtain ⟨x, hx, hxe⟩ := List.mem_map.1 hm
              have := hk.names.files x hx
              omega
            · obtain ⟨f, hf⟩ := assoc_mem hm
              rw [hnone.2] at hf; cases hf
          refine ⟨hk.cap, by simp only; omega, (hk.names.mono (Nat.le_succ _)).on hch, hk.sure.mono (Nat.le_succ _), (hk.chgs.mono (Nat.le_succ _)).snoc hch, fun n hn => ?_, fun n hn => ?_, hk.fail, hk.halt, ?_, fun n hn => ?_⟩
          · simp only [Disk.does, Disk.setF]
            split
            · rfl
            · exact hk.pts n (by simp only at hn; omega)
          · simp only [Disk.does, Disk.setF]
            split
            · simp [fresh]
            · exact hk.size n (by simp only at hn; omega)
          · have := h1.pend
            simp only [Disk.does, Disk.setF, List.length_append, List.length_singleton]; omega
          · simp only [Disk.does, Disk.setF]
            split
            · simp [fresh]
            · exact hk.pends n (by simp only at hn; omega)
      · exact h1.ok
  · exact begins_ok h
theorem create_count (d : Dk) (s : Nm) : (create d s).1.count = d.count + 1 := by
  have e := (begins_eq d).2.2.2.2.2.2
  unfold create
  simp only
  split
  · split
    · exact e
    · split
      · split
        · exact e
        · exact e
      · exact e
  · exact e
theorem survive_len : ∀ {l : List Pt} {a b : List UInt8} (left : Int), PtsOk a l b → a.length ≤ most → 0 ≤ left → (survive a l left).length ≤ most
  | [], a, b, left, h, ha, h0 => ha
  | .wr x c :: r, a, b, left, h, ha, h0 => by
    rw [survive]
    have h4 : ∀ c, (lay a x c).length = max a.length (x + c.length) := fun c => by
      have := h.1
      rw [lay, List.length_append, List.length_append, List.length_take, List.length_drop]; omega
    split
    · have := h.2.1
      rw [h4] at this ⊢
      rw [List.length_take]; omega
    · exact survive_len _ h.2.2 h.2.1 (by omega)
  | .cut n :: r, a, b, left, h, ha, h0 => by
    rw [survive]
    split
    · exact ha
    · exact survive_len _ h.2 (by rw [List.length_take]; omega) (by omega)
theorem left_nn (c : List Int) (n : Nat) : 0 ≤ left c n := by unfold left; split <;> omega
theorem restart_ok {d : Dk} (h : Ok d) (n : Int) (c : List Int) : Ok (restart d n c) := by
  have hL := NamesOk.fold (min (max n 0) d.pend.length).toNat h.sure h.chgs
  refine ⟨h.cap, h.files, hL, hL, rfl, fun k hk => ?_, fun k hk => ?_, by simp [restart], by simp [restart], Nat.zero_le _, fun k hk => ?_⟩
  · simp only [restart]
    split
    · rfl
    · exact h.pts k hk
  · simp only [restart]
    split
    · have := survive_len _ (h.pts k hk) (h.size k hk).1 (left_nn c k)
      exact ⟨this, this⟩
    · exact h.size k hk
  · simp only [restart]
    split
    · exact Nat.zero_le _
    · exact h.pends k hk
end Go.Disk
