/- The program's disk: bytes that are written, cut, settled. -/
import Derived.Test.YtkekehngillblaaDP4
set_option linter.unusedVariables false
set_option linter.unusedSimpArgs false
namespace Go.Proofs.Ytkekehngillblaa
open Go Go.Vcg Go.Disk
section
variable {C : Type} {w w' : World} {lab lab' : Nat → C} {γ : DC → C} {d : Nat} {σ : Dk}
variable {mN mS : Nat} {po : Option Addr} {pl pc : Nat} {fb : Nat → Nat} {names sure : List (Nm × Nat)} {pend : List Chg} {files : Nat} {fs : Nat → Fl}

/-- The colours of one file. -/
def Fs (γ : DC → C) (n : Nat) (c : C) : Prop := c = γ (.file n) ∨ c = γ (.bytes n) ∨ c = γ (.fpend n)
theorem Fs.sd {n : Nat} {c : C} (h : Fs γ n c) : SD γ c := by
  rcases h with rfl | rfl | rfl <;> exact SD.of (by simp)
theorem DRest.setF (hγ : ∀ a b, γ a = γ b → a = b) {n : Nat} {f : Fl} (Rt : DRest w lab γ mN mS po pl pc fb names sure pend files fs) (s : Stp (Fs γ n) w lab w' lab') (hf : FAt w' lab' γ n (fb n) f) :
    DRest w' lab' γ mN mS po pl pc fb names sure pend files (fun k => if k = n then f else fs k) := by
  have hn : ∀ x, x ≠ DC.file n → x ≠ DC.bytes n → x ≠ DC.fpend n → ¬ Fs γ n (γ x) := by
    rintro x h1 h2 h3 (h | h | h)
    · exact h1 (hγ _ _ h)
    · exact h2 (hγ _ _ h)
    · exact h3 (hγ _ _ h)
  refine ⟨Rt.names.stp s (hn _ (by simp) (by simp) (by simp)), Rt.sure.stp s (hn _ (by simp) (by simp) (by simp)), Rt.pend.stp s (hn _ (by simp) (by simp) (by simp)), fun k hk => ?_⟩
  by_cases h : k = n
  · subst h; simp only [if_true]; exact hf
  · simp only [h, if_false]
    exact (Rt.files k hk).stp s (hn _ (by simp [h]) (by simp) (by simp)) (hn _ (by simp) (by simp [h]) (by simp)) (hn _ (by simp) (by simp) (by simp [h])) (hn _ (by simp) (by simp) (by simp))
theorem DAt.setF (hγ : ∀ a b, γ a = γ b → a = b) {n : Nat} {f : Fl} (B : CB w lab (γ .disk) d tDisk (diskA σ.cap mN mS po pl pc σ.files σ.count σ.fail σ.halt σ.down)) (Rt : DRest w lab γ mN mS po pl pc fb σ.names σ.sure σ.pend σ.files σ.fs)
    (s : Stp (Fs γ n) w lab w' lab') (hf : FAt w' lab' γ n (fb n) f) : DAt w' lab' γ d (Disk.setF σ n f) := by
  refine ⟨mN, mS, po, pl, pc, fb, B.stp s ?_, Rt.setF hγ s hf⟩
  rintro (h | h | h) <;> exact absurd (hγ _ _ h) (by simp)

/-- The end of a writing call. -/
def WriteTail (d1 : Addr) (n2 : Int) (o3 : Option Addr) (l3 c3 : Nat) (w10 : World) (R : Ending → World → Prop) : Prop :=
  Calls Try.prog slices_Clone_byte_byte.n #[(.slice o3 l3 c3)] w10 (fun e12 w13 =>
    ∃ o14 : Option Addr, ∃ l15 : Nat, ∃ l16 : Nat, e12 = .returned (.slice o14 l15 l16) ∧
    ∀ (d17 : Addr) (w18 : World), IsNew w13 tWritten #[(.int .i64 0), (.slice none 0 0)] d17 w18 →
    CanSet w18 d17 (.int .i64 n2) ∧ ∀ w19 : World, IsSet w18 d17 (.int .i64 n2) w19 →
    CanSet w19 (Addr.add d17 1) (.slice o14 l15 l16) ∧ ∀ w20 : World, IsSet w19 (Addr.add d17 1) (.slice o14 l15 l16) w20 →
    ∃ o21 : Option Addr, ∃ l22 : Nat, ∃ l23 : Nat, World.cell? w20 (Addr.add d1 1) = some (.slice o21 l22 l23) ∧
    Calls Try.prog disk_laid.n #[(.slice o21 l22 l23), (.int .i64 n2), (.slice o3 l3 c3)] w20 (fun e24 w25 =>
      ∃ o26 : Option Addr, ∃ l27 : Nat, ∃ l28 : Nat, e24 = .returned (.slice o26 l27 l28) ∧
      CanSet w25 (Addr.add d1 1) (.slice o26 l27 l28) ∧ ∀ w29 : World, IsSet w25 (Addr.add d1 1) (.slice o26 l27 l28) w29 →
      ∀ w30 : World, IsDrew w29 w30 →
      ∃ o31 : Option Addr, ∃ l32 : Nat, ∃ l33 : Nat, World.cell? w30 (Addr.add d1 3) = some (.slice o31 l32 l33) ∧
      ∃ n34 : Int, ∃ o35 : Option Addr, ∃ l36 : Nat, ∃ l37 : Nat, World.cell? w30 d17 = some (.int .i64 n34) ∧
      World.cell? w30 (Addr.add d17 1) = some (.slice o35 l36 l37) ∧
      ∀ (d38 : Addr) (w39 : World), IsNew w30 tPatch #[(.iface tWritten (.agg #[(.int .i64 n34), (.slice o35 l36 l37)]))] d38 w39 →
      World.cell? w39 (Addr.add d1 3) = some (.slice o31 l32 l33) ∧
      ∃ (v40 : Value) (w41 : World), Sem.run Try.prog (builtinV .append #[tSlPatch, tSlPatch] tSlPatch #[(.slice o31 l32 l33), (.slice (some d38) 1 1)]) w39 = .ok v40 w41 ∧
      ∃ o42 : Option Addr, ∃ l43 : Nat, ∃ l44 : Nat, v40 = (.slice o42 l43 l44) ∧
      CanSet w41 (Addr.add d1 3) (.slice o42 l43 l44) ∧ ∀ w45 : World, IsSet w41 (Addr.add d1 3) (.slice o42 l43 l44) w45 →
      R (.returned (.int .i64 0)) w45))

theorem cow_patch {c : C} {o : Option Addr} {l cap : Nat} {xs : List Value} {x : Value} {n : Nat} {news : List Value} (h : COw w lab c tPatch 1 o l cap xs) (src : Src Try.prog 1 tSlPatch x n news w) (hb : l + n ≤ 2 ^ 41) :
    ∃ o' c' w', Sem.run Try.prog (builtinV .append #[tSlPatch, tSlPatch] tSlPatch #[.slice o l cap, x]) w = .ok (.slice o' (l + n) c') w' ∧ COw w' (ext lab w.heap.size c) c tPatch 1 o' (l + n) c' (xs ++ news) ∧ Stp (· = c) w lab w' (ext lab w.heap.size c) := by
  obtain ⟨i, hi, h1⟩ := Option.map_eq_some_iff.1 info_patch
  simp only [Prod.mk.injEq] at h1
  exact h.append und_slPatch hi h1.1 h1.2.1 rfl src (by simp only [maxLen]; omega) (by rw [h1.2.2]; omega)
theorem cow_change {c : C} {o : Option Addr} {l cap : Nat} {xs : List Value} {x : Value} {n : Nat} {news : List Value} (h : COw w lab c tChange 1 o l cap xs) (src : Src Try.prog 1 tSlChange x n news w) (hb : l + n ≤ 2 ^ 41) :
    ∃ o' c' w', Sem.run Try.prog (builtinV .append #[tSlChange, tSlChange] tSlChange #[.slice o l cap, x]) w = .ok (.slice o' (l + n) c') w' ∧ COw w' (ext lab w.heap.size c) c tChange 1 o' (l + n) c' (xs ++ news) ∧ Stp (· = c) w lab w' (ext lab w.heap.size c) := by
  obtain ⟨i, hi, h1⟩ := Option.map_eq_some_iff.1 info_change
  simp only [Prod.mk.injEq] at h1
  exact h.append und_slChange hi h1.1 h1.2.1 rfl src (by simp only [maxLen]; omega) (by rw [h1.2.2]; omega)

theorem write_tail (hγ : ∀ a b, γ a = γ b → a = b) {n b : Nat} {o : Option Addr} {l k : Nat} {so : Option Addr} {sl sc : Nat} {vs : List Value} {f : Fl} (hF : FCells w lab γ n b o l k so sl sc po pl pc vs f) {o3 : Option Addr} {c3 at_ : Nat} {by_ : List UInt8}
    (hr : RdB w o3 by_) (hoff : ∀ x, o3 = some x → by_ ≠ [] → ¬ Fs γ n (lab x.block)) (hat : at_ ≤ f.bytes.length) (hb1 : f.bytes.length ≤ 2 ^ 38) (hb2 : by_.length ≤ 2 ^ 38) (hp : f.pend.length < 2 ^ 40) {R : Ending → World → Prop}
    (hR : ∀ w' lab', FAt w' lab' γ n b { f with bytes := lay f.bytes at_ by_, pend := f.pend ++ [.wr at_ by_] } → Stp (Fs γ n) w lab w' lab' → R (.returned (.int .i64 0)) w') :
    WriteTail ⟨b, 0, none⟩ (at_ : Int) o3 by_.length c3 w R := by
  have ne : ∀ {x y : DC}, x ≠ y → ¬ γ x = γ y := fun h e => h (hγ _ _ e)
  unfold WriteTail
  simp only [add_at, Nat.zero_add]
  refine (Clone_calls hr (by omega)).mono ?_
  rintro _ w1 ⟨o1, k1, rfl, ow1, M1, hF1⟩
  refine ⟨_, _, _, rfl, ?_⟩
  rintro d17 w2 ⟨rfl, rfl⟩
  have B2 := Blk.new w1 tWritten #[.int .i64 0, .slice none 0 0]
  refine ⟨B2.canSet (by simp) rfl, ?_⟩
  rintro _ rfl
  have B3 := B2.set 0 (.int .i64 (at_ : Int))
  simp only [add_at, Nat.zero_add]
  refine ⟨B3.canSet (by simp) rfl, ?_⟩
  rintro _ rfl
  have B4 := B3.set 1 (.slice o1 by_.length k1)
  have hs1 := M1.size
  have M4 : Vcg.Mod NoB w1 (((w1.alloc (.cells #[.int .i64 0, .slice none 0 0] tWritten)).setCell ⟨w1.heap.size, 0, none⟩ (.int .i64 (at_ : Int))).setCell ⟨w1.heap.size, 1, none⟩ (.slice o1 by_.length k1)) :=
    ((Mod.alloc w1 _).step_set (fun h => absurd h (Nat.lt_irrefl _))).step_set (fun h => absurd h (Nat.lt_irrefl _))
  have hs4 : (((w1.alloc (.cells #[.int .i64 0, .slice none 0 0] tWritten)).setCell ⟨w1.heap.size, 0, none⟩ (.int .i64 (at_ : Int))).setCell ⟨w1.heap.size, 1, none⟩ (.slice o1 by_.length k1)).heap.size = w1.heap.size + 1 := by
    rw [size_setCell, size_setCell, size_alloc]
  generalize (((w1.alloc (.cells #[.int .i64 0, .slice none 0 0] tWritten)).setCell ⟨w1.heap.size, 0, none⟩ (.int .i64 (at_ : Int))).setCell ⟨w1.heap.size, 1, none⟩ (.slice o1 by_.length k1)) = w4 at *
  generalize hD17 : w1.heap.size = D17 at *
  have B4' : Blk w4 D17 tWritten #[.int .i64 (at_ : Int), .slice o1 by_.length k1] := B4
  clear B4 B3 B2
  have M04 := M1.none_trans M4
  have s4 : Stp (Fs γ n) w lab w4 (ext lab w.heap.size (γ .froz)) := Stp.of_nob M04 _
  have s4' : Stp NoC w lab w4 (ext lab w.heap.size (γ .froz)) := Stp.of_nob M04 _
  have F4 := hF.stp s4' (fun h => h) (fun h => h) (fun h => h) (fun h => h)
  have c4 : CBy w4 (ext lab w.heap.size (γ .froz)) (γ .froz) o1 by_ := ⟨(ow1.mod' M4).bytes, fun _ x hx => ext_new (hF1 _ ⟨x, hx, rfl⟩)⟩
  have l4 : (ext lab w.heap.size (γ .froz)) D17 = γ .froz := ext_new (by omega)
  have r4 := hr.mod' M04
  generalize ext lab w.heap.size (γ .froz) = lab4 at *
  refine ⟨_, _, _, F4.cells.blk.rd1 rfl, ?_⟩
  have hbl : l = f.bytes.length := by have := F4.bytes.own.len; simpa using this.symm
  refine (laid_calls F4.bytes.own r4 rfl (by omega) (by omega) hb2).mono ?_
  rintro _ w5 ⟨o5, k5, rfl, ow5, M5, hF5⟩
  refine ⟨_, _, _, rfl, ?_⟩
  have s5 : Stp (· = γ (.bytes n)) w4 lab4 w5 (ext lab4 w4.heap.size (γ (.bytes n))) := Stp.of_mod M5 _ (fun k _ hk => F4.bytes.clr k hk)
  have by5 : COw w5 (ext lab4 w4.heap.size (γ (.bytes n))) (γ (.bytes n)) tU8 1 o5 (max l (at_ + by_.length)) k5 ((lay f.bytes at_ by_).map bV) := ⟨ow5, fun k hk => by
    by_cases hlt : k < w4.heap.size
    · rw [ext_old hlt]
      rcases hF5 k hk with h | h
      · exact F4.bytes.clr k h
      · omega
    · exact ext_new (by omega)⟩
  have C5 := F4.cells.stp s5 (ne (by simp))
  have S5 := F4.sure.stp s5 (ne (by simp))
  have P5 := F4.pend.stp s5 (ne (by simp))
  have T5 := F4.pts.stp s5 (ne (by simp))
  have c5 := c4.stp s5 (ne (by simp))
  have B5 : CB w5 (ext lab4 w4.heap.size (γ (.bytes n))) (γ .froz) D17 tWritten #[.int .i64 (at_ : Int), .slice o1 by_.length k1] := (CB.mk B4' l4).stp s5 (ne (by simp))
  have s05 := s4.trans (s5.mono (T := Fs γ n) (fun c h => .inr (.inl h)))
  generalize ext lab4 w4.heap.size (γ (.bytes n)) = lab5 at *
  refine ⟨C5.blk.canSet (by simp) rfl, ?_⟩
  rintro _ rfl
  have s6 : Stp (· = γ (.file n)) w5 lab5 (w5.setCell ⟨b, 1, none⟩ (.slice o5 (max l (at_ + by_.length)) k5)) lab5 := Stp.setCell C5.clr
  have C6 := C5.set 1 (.slice o5 (max l (at_ + by_.length)) k5)
  have by6 := by5.stp s6 (ne (by simp))
  have S6 := S5.stp s6 (ne (by simp))
  have P6 := P5.stp s6 (ne (by simp))
  have T6 := T5.stp s6 (ne (by simp))
  have c6 := c5.stp s6 (ne (by simp))
  have B6 := B5.stp s6 (ne (by simp))
  have s06 := s05.trans (s6.mono (T := Fs γ n) (fun c h => .inl h))
  generalize w5.setCell ⟨b, 1, none⟩ (.slice o5 (max l (at_ + by_.length)) k5) = w6 at *
  rintro _ rfl
  refine ⟨_, _, _, C6.blk.drew.rd1 rfl, _, _, _, _, B6.blk.drew.rd1 rfl, B6.blk.drew.rd1 rfl, ?_⟩
  rintro d38 w8 ⟨rfl, rfl⟩
  have sD : Stp NoC w6 lab5 (w6.drew.alloc (.cells #[.iface tWritten (.agg #[.int .i64 (at_ : Int), .slice o1 by_.length k1])] tPatch)) (ext lab5 w6.drew.heap.size (γ .froz)) := (Stp.drew _ _ _).trans (Stp.alloc _ _ _ _ _)
  have B8 := Blk.new w6.drew tPatch #[.iface tWritten (.agg #[.int .i64 (at_ : Int), .slice o1 by_.length k1])]
  generalize hw8 : w6.drew.alloc (.cells #[.iface tWritten (.agg #[.int .i64 (at_ : Int), .slice o1 by_.length k1])] tPatch) = w8 at *
  have C8 := C6.stp sD (fun h => h)
  have by8 := by6.stp sD (fun h => h)
  have S8 := S6.stp sD (fun h => h)
  have P8 := P6.stp sD (fun h => h)
  have T8 := T6.stp sD (fun h => h)
  have c8 := c6.stp sD (fun h => h)
  have s08 := s06.trans (sD.mono (T := Fs γ n) (fun c h => h.elim))
  generalize ext lab5 w6.drew.heap.size (γ .froz) = lab8 at *
  refine ⟨C8.blk.rd1 rfl, ?_⟩
  have hsrc := src_one (P := Try.prog) (tx := tSlPatch) und_slPatch B8 (sz := 1) rfl (by intro v hv; simp at hv; subst hv; rfl)
  have hpl : pl = f.pend.length := by have := P8.own.1; rw [← T8.len]; simpa using this.symm
  obtain ⟨o9, k9, w9, h9, P9, s9⟩ := cow_patch P8 hsrc (by omega)
  have C9 := C8.stp s9 (ne (by simp))
  have by9 := by8.stp s9 (ne (by simp))
  have S9 := S8.stp s9 (ne (by simp))
  have T9 := T8.stp s9 (ne (by simp))
  have c9 := c8.stp s9 (ne (by simp))
  have s09 := s08.trans (s9.mono (T := Fs γ n) (fun c h => .inr (.inr h)))
  generalize ext lab8 w8.heap.size (γ (.fpend n)) = lab9 at *
  refine ⟨_, w9, h9, _, _, _, rfl, C9.blk.canSet (by simp) rfl, ?_⟩
  rintro _ rfl
  have sE : Stp (· = γ (.file n)) w9 lab9 (w9.setCell ⟨b, 3, none⟩ (.slice o9 (pl + 1) k9)) lab9 := Stp.setCell C9.clr
  refine hR _ lab9 ⟨o5, _, k5, so, sl, sc, o9, pl + 1, k9, vs ++ [.iface tWritten (.agg #[.int .i64 (at_ : Int), .slice o1 by_.length k1])], ?_, by9.stp sE (ne (by simp)), S9.stp sE (ne (by simp)), F4.slen, P9.stp sE (ne (by simp)), ?_⟩ (s09.trans (sE.mono (T := Fs γ n) (fun c h => .inl h)))
  · exact C9.set 3 (.slice o9 (pl + 1) k9)
  · refine (T9.stp sE (ne (by simp))).snoc ⟨o1, k1, rfl, ?_, c9.stp sE (ne (by simp))⟩
    have := (ow1.cap).1
    exact this
end
end Go.Proofs.Ytkekehngillblaa
