/- The law's walk: every message has the document's hash, in whatever pieces. -/
import Derived.Test.YtmnhdppcphficaaKL3
set_option linter.unusedVariables false
set_option linter.unusedSimpArgs false
namespace Go.Proofs.Ytmnhdppcphficaa
open Go Go.Vcg

abbrev tSlSl : TypeId := 31
theorem und_slsl : Try.prog.underlying tSlSl = some (.slice tSlU8) := by kernel_rfl
theorem info_slu8 : (Try.prog.info? tSlU8).map (fun i => (i.zero, i.size, i.bytes)) = some (some (.slice none 0 0), 1, 24) := by kernel_rfl
theorem append_slu8 {w : World} {o : Option Addr} {l c : Nat} {xs : List Value} {x : Value} {tx ty : TypeId} {n : Nat} {news : List Value} (h : Own w tSlU8 1 o l c xs) (src : Src Try.prog 1 tx x n news w) (hb : l + n ≤ 2 ^ 40) :
    ∃ o' c' w', Sem.run Try.prog (builtinV .append #[tSlSl, tx] ty #[.slice o l c, x]) w = .ok (.slice o' (l + n) c') w' ∧ Own w' tSlU8 1 o' (l + n) c' (xs ++ news) ∧ Vcg.Mod (OB o) w w' ∧ (∀ k, OB o' k → OB o k ∨ w.heap.size ≤ k) := by
  obtain ⟨i, hi, h1⟩ := Option.map_eq_some_iff.1 info_slu8
  simp only [Prod.mk.injEq] at h1
  exact append_own und_slsl hi h1.1 h1.2.1 rfl h src (by simp only [maxLen]; omega) (by rw [h1.2.2]; omega)

/-- One piece is handed over: the program's text behind the choice of its length E. -/
def SumsPiece (o0 : Option Addr) (c0 : Nat) (o22 : Option Addr) (n25 E n26 : Int) (o24 : Option Addr) (l24 c24 : Nat) (w27 : World)
    (I23 : Option Addr → Nat → Nat → Int → Int → World → Prop) (μ23 : Option Addr → Nat → Nat → Int → Int → World → Nat) (R : Ending → World → Prop) : Prop :=
  (0 ≤ (IntKind.wrap .i64 (n25 + E)) ∧ (IntKind.wrap .i64 (n25 + E)) ≤ ((c0 : Nat) : Int)) ∧
  (0 ≤ n25 ∧ n25 ≤ (((Int.toNat (IntKind.wrap .i64 (n25 + E))) : Nat) : Int)) ∧
  ∃ (v30 : Value) (w31 : World), Sem.run Try.prog (builtinV .append #[tSlU8, tSlU8] tSlU8 #[(.slice none 0 0), (.slice (subO o0 c0 (Int.toNat n25) 1) ((Int.toNat (IntKind.wrap .i64 (n25 + E))) - (Int.toNat n25)) (c0 - (Int.toNat n25)))]) w27 = .ok v30 w31 ∧
  ∃ o32 : Option Addr, ∃ l33 : Nat, ∃ l34 : Nat, v30 = (.slice o32 l33 l34) ∧
  ∃ (v35 : Value) (w36 : World), Sem.run Try.prog (builtinV .append #[tSlU8, tSlU8] tSlU8 #[(.slice none 0 0), (.slice o32 l33 l34)]) w31 = .ok v35 w36 ∧
  ∃ o37 : Option Addr, ∃ l38 : Nat, ∃ l39 : Nat, v35 = (.slice o37 l38 l39) ∧
  ∀ (d40 : Addr) (w41 : World), IsNew w36 tSlU8 #[(.slice o37 l38 l39)] d40 w41 →
  ∃ (v42 : Value) (w43 : World), Sem.run Try.prog (builtinV .append #[tSlSl, tSlSl] tSlSl #[(.slice o24 l24 c24), (.slice (some d40) 1 1)]) w41 = .ok v42 w43 ∧
  ∃ o44 : Option Addr, ∃ l45 : Nat, ∃ l46 : Nat, v42 = (.slice o44 l45 l46) ∧
  Calls Try.prog keccak_Sponge_Write.n #[(.pointer o22), (.slice o32 l33 l34)] w43 (fun e47 w48 =>
    e47 = .returned (.tuple #[]) ∧
    ∃ (I49 : Int → World → Prop) (μ49 : Int → World → Nat), I49 0 w48 ∧
    (∀ (n50 : Int) (j51 : Nat → Value) (w51 : World), I49 n50 w51 →
      (((n50 < ((l33 : Nat) : Int) →
        ∃ d52 : Addr, o32 = some d52 ∧
        (0 ≤ n50 ∧ n50 < ((l33 : Nat) : Int)) ∧
        CanSet w51 (Addr.add d52 (Int.toNat n50)) (.int .u8 238) ∧ ∀ w53 : World, IsSet w51 (Addr.add d52 (Int.toNat n50)) (.int .u8 238) w53 →
        I49 (IntKind.wrap .i64 (n50 + 1)) w53 ∧ μ49 (IntKind.wrap .i64 (n50 + 1)) w53 < μ49 n50 w51)) ∧
       ((¬ n50 < ((l33 : Nat) : Int) →
        ∀ w54 : World, IsDrew w51 w54 →
        (0 ≤ (IntKind.wrap .i64 (n25 + E)) ∧ (IntKind.wrap .i64 (n25 + E)) ≤ ((c0 : Nat) : Int)) ∧
        Calls Try.prog keccak_Sponge_Sum.n #[(.pointer o22)] w54 (fun e55 w56 =>
          ∃ L57 : Array Value, e55 = .returned (.agg L57) ∧
          Calls Try.prog moraineref3_Sum.n #[(.slice o0 (Int.toNat (IntKind.wrap .i64 (n25 + E))) c0)] w56 (fun e58 w59 =>
            ∃ L60 : Array Value, e58 = .returned (.agg L60) ∧
            ∃ v61 : Value, Sem.run Try.prog (semBin .neq tHash (.tmp 80) (.tmp 84) (.agg L57) (.agg L60)) w59 = .ok v61 w59 ∧
            ∃ b62 : Bool, v61 = (.bool b62) ∧
            (((b62 = true →
              R (.returned (.bool false)) w59)) ∧
             ((b62 = false →
              I23 o44 l45 l46 (IntKind.wrap .i64 (n25 + E)) (IntKind.wrap .i64 (n26 + 1)) w59 ∧ μ23 o44 l45 l46 (IntKind.wrap .i64 (n25 + E)) (IntKind.wrap .i64 (n26 + 1)) w59 < μ23 o24 l24 c24 n25 n26 w27))))))))))

/-- What holds between the pieces. -/
structure SumsInv (w0 : World) (b X : Nat) (h : List UInt8) (m : List UInt8) (ls : List (List UInt8)) (lab : Nat → Nat) (p : Option Addr) (o : Option Addr) (l c : Nat) (vs : List Value) (w : World) : Prop where
  M : Vcg.Mod NoB w0 w
  BX : Blk w X tHash (hashA h)
  sp : SpongeAt w b p m
  ow : Own w tSlU8 1 o l c vs
  fl : ls.flatten = m
  ll : ls.length = l
  pc : ∀ i, i < ls.length → ∃ oi ci, vs[i]? = some (.slice oi (ls.getD i []).length ci) ∧ RdB w oi (ls.getD i []) ∧ ∀ k, OB oi k → lab k = 2 ∧ w0.heap.size ≤ k ∧ k < w.heap.size
  lX : lab X = 3
  hX : w0.heap.size ≤ X
  lF : ∀ k, SpB b p k → lab k = 0 ∧ w0.heap.size ≤ k
  lG : ∀ k, OB o k → lab k = 1 ∧ w0.heap.size ≤ k

theorem SumsInv.bb {w0 w : World} {b X : Nat} {h m : List UInt8} {ls : List (List UInt8)} {lab : Nat → Nat} {p o : Option Addr} {l c : Nat} {vs : List Value} (I : SumsInv w0 b X h m ls lab p o l c vs w) : RdBB w o ls := by
  intro i hi
  obtain ⟨oi, ci, hv, hr, _⟩ := I.pc i hi
  obtain ⟨g, ho, hc⟩ := I.ow.cell hv
  exact ⟨g, 0, oi, ci, ho, I.ow.lt ⟨_, ho, rfl⟩, by rw [Nat.zero_add]; exact hc, hr⟩

theorem take_add_drop'' {m pe : List UInt8} {a e : Nat} (h : (m.drop a).take e = pe) : m.take (a + e) = m.take a ++ pe := by
  rw [← h, List.take_add]

theorem SumsInv.piece {w0 w : World} {b X : Nat} {h m : List UInt8} {ls : List (List UInt8)} {lab : Nat → Nat} {p o : Option Addr} {l c : Nat} {vs : List Value} {a e i : Nat} {n25 E n26 : Int}
    (I : SumsInv w0 b X h (m.take a) ls lab p o l c vs w) (hae : a + e ≤ m.length) (hm : m.length ≤ 1000) (hl : l ≤ 1000) {o0 : Option Addr} {c0 : Nat} (hc0 : m.length ≤ c0) (hr : RdB w0 o0 m)
    (h25 : n25 = (a : Int)) (hE : E = (e : Int)) {I23 : Option Addr → Nat → Nat → Int → Int → World → Prop} {μ23 : Option Addr → Nat → Nat → Int → Int → World → Nat} {R : Ending → World → Prop}
    (hI : ∀ ls' lab' p' o' c' vs' w', SumsInv w0 b X h (m.take (a + e)) ls' lab' p' o' (l + 1) c' vs' w' →
      I23 o' (l + 1) c' ((a + e : Nat) : Int) (IntKind.wrap .i64 (n26 + 1)) w' ∧ μ23 o' (l + 1) c' ((a + e : Nat) : Int) (IntKind.wrap .i64 (n26 + 1)) w' < μ23 o l c n25 n26 w) :
    SumsPiece o0 c0 (some ⟨b, 0, none⟩) n25 E n26 o l c w I23 μ23 R := by
  subst h25 hE
  unfold SumsPiece
  have ew : IntKind.wrap .i64 ((a : Int) + (e : Int)) = ((a + e : Nat) : Int) := by rw [wrap_i64_small (by omega) (by omega)]; omega
  simp only [ew, Int.toNat_natCast]
  refine ⟨by omega, by omega, ?_⟩
  have hsz := I.M.size
  have hpl : ((m.drop a).take e).length = e := by rw [List.length_take, List.length_drop]; omega
  generalize hpe : (m.drop a).take e = pe at *
  have hr1 : RdB w (subO o0 c0 a 1) pe := by rw [← hpe]; exact (hr.mod' I.M).sub hc0
  obtain ⟨o1, c1, w1, h1, hO1, M1, hF1⟩ := append_u8 (ty := tSlU8) (Own.nil w tU8 1) (src_bytes (c := c0 - a) und_slU8 hr1) (by omega)
  have M1' : Vcg.Mod NoB w w1 := M1.mono (fun k _ h => OB_none k h)
  have hF1' : ∀ k, OB o1 k → w.heap.size ≤ k := fun k hk => (hF1 k hk).elim (fun h => (OB_none k h).elim) id
  rw [Nat.zero_add, hpl] at h1 hO1
  rw [List.nil_append] at hO1
  rw [show a + e - a = e by omega]
  refine ⟨_, w1, h1, _, _, _, rfl, ?_⟩
  obtain ⟨o2, c2, w2, h2, hO2, M2, hF2⟩ := append_u8 (ty := tSlU8) (Own.nil w1 tU8 1) (src_bytes (c := c1) und_slU8 hO1.bytes) (by omega)
  have M2' : Vcg.Mod NoB w1 w2 := M2.mono (fun k _ h => OB_none k h)
  have hF2' : ∀ k, OB o2 k → w1.heap.size ≤ k := fun k hk => (hF2 k hk).elim (fun h => (OB_none k h).elim) id
  rw [Nat.zero_add, hpl] at h2 hO2
  rw [List.nil_append] at hO2
  refine ⟨_, w2, h2, _, _, _, rfl, ?_⟩
  rintro d40 w41 ⟨rfl, rfl⟩
  have B3 := Blk.new w2 tSlU8 #[(.slice o2 e c2)]
  have M3 := Mod.alloc (S := NoB) w2 (.cells #[(.slice o2 e c2)] tSlU8)
  generalize w2.alloc (.cells #[(.slice o2 e c2)] tSlU8) = w3 at *
  have M03 : Vcg.Mod NoB w w3 := (M1'.none_trans M2').none_trans M3
  have s1 := M1'.size
  have s2 := M2'.size
  have s3 := M3.size
  have hsrc := src_one (P := Try.prog) (tx := tSlSl) und_slsl B3 (sz := 1) rfl (by intro v hv; simp at hv; subst hv; rfl)
  obtain ⟨o4, c4, w4, h4, hO4, M4, hF4⟩ := append_slu8 (ty := tSlSl) (I.ow.mod' M03) hsrc (by omega)
  have s4 := M4.size
  refine ⟨_, w4, h4, _, _, _, rfl, ?_⟩
  have hOBl : ∀ k, OB o k → k < w.heap.size := fun k hk => I.ow.lt hk
  have hSl : ∀ k, SpB b p k → k < w.heap.size := fun k hk => I.sp.lt hk
  have hFG : ∀ k, SpB b p k → ¬ OB o k := fun k h1 h2 => by have := (I.lF k h1).1; have := (I.lG k h2).1; omega
  have S4 := ((I.sp.mod M03 (fun k _ h => h)).mod M4 hFG)
  have hO1' := ((hO1.mod' M2').mod' M3).mod M4 (fun k hk h => by have := hOBl k h; have := hF1' k hk; omega)
  refine (Write_calls S4 hO1'.bytes hpl.symm (by omega)).mono ?_
  rintro _ w5 ⟨rfl, p', S5, M5, hF5⟩
  have s5 := M5.size
  refine ⟨rfl, ?_⟩
  have hO1l : ∀ k, OB o1 k → k < w1.heap.size := fun k hk => hO1.lt hk
  have h1S : ∀ k, OB o1 k → ¬ SpB b p k := fun k hk h => by have := hSl k h; have := hF1' k hk; omega
  have hO15 := hO1'.mod M5 h1S
  -- the copy that was handed over is overwritten
  refine loopN e (fun n w' => Vcg.Mod (OB o1) w5 w' ∧ ∃ xs, Own w' tU8 1 o1 e c1 xs) rfl ⟨Mod.refl _, _, hO15⟩ ?_ ?_
  · rintro n _ w6 hn ⟨M6, xs, hO6⟩
    rcases hO6.2 with ⟨_, h0, _⟩ | ⟨g, cur, rfl, hB, hlc, hcm, hcs, htk⟩
    · omega
    · refine ⟨_, rfl, by omega, hB.canSet0 (by omega) rfl, fun w7 h7 => ?_⟩
      rw [h7.at]
      refine UpTo.next (by rw [wrap_i64_small (by omega) (by omega)]; omega) hn ⟨M6.trans (Mod.setCell w6 ⟨g, n, none⟩ (.int .u8 238)) (fun k _ hk => ⟨_, rfl, hk.symm⟩), (cur.setIfInBounds n (.int .u8 238)).toList.take (e * 1), ?_, .inr ⟨g, _, rfl, hB.set n _, hlc, hcm, by simpa using hcs, rfl⟩⟩
      rw [List.length_take]; simp; omega
  · rintro _ w6 ⟨M6, xs, hO6⟩
    have s6 := M6.size
    rintro _ rfl
    refine ⟨by omega, ?_⟩
    have S6 := (S5.mod M6 (fun k hk h => by
      rcases hk with rfl | hk
      · exact h1S _ h (.inl rfl)
      · rcases hF5 k hk with h3 | h3
        · exact h1S k h (.inr h3)
        · have := hO1l k h; omega)).mod (Mod.drew w6) (fun k _ (h : False) => h)
    rw [← take_add_drop'' hpe] at S6
    refine (SpSum_calls S6).mono ?_
    rintro _ w7 ⟨rfl, M7⟩
    refine ⟨_, rfl, ?_⟩
    have s7 := M7.size
    have hs6d : w6.drew.heap.size = w6.heap.size := rfl
    -- from the start to here
    have Mall : Vcg.Mod NoB w0 w7 := ((((I.M.none_trans M03).trans M4 (fun k hk h => by have := (I.lG k h).2; omega)).trans M5 (fun k hk h => by have := (I.lF k h).2; omega)).trans M6 (fun k hk h => by have := hF1' k h; omega)).step_drew.none_trans M7
    refine (refSum_calls (m.take (a + e)) (by rw [List.length_take]; omega) (by rw [List.length_take]; omega) ((hr.mod' Mall).take (a + e))).mono ?_
    rintro _ w8 ⟨rfl, M8⟩
    refine ⟨_, rfl, _, hash_ne _ _ _, _, rfl, (fun h => by cases h), fun _ => ?_⟩
    have s8 := M8.size
    have keepB : ∀ k, k < w.heap.size → ¬ OB o k → ¬ SpB b p k → w8.heap[k]? = w.heap[k]? := fun k hk g1 g2 => by
      have e1 := M03.block k hk (fun h => h)
      have e2 := M4.block k (by omega) g1
      have e3 := M5.block k (by omega) g2
      have e4 := M6.block k (by omega) (fun h => by have := hF1' k h; omega)
      have e5 := M7.block k (by rw [hs6d]; omega) (fun h => h)
      have e6 := M8.block k (by omega) (fun h => h)
      exact e6.trans (e5.trans (e4.trans (e3.trans (e2.trans e1))))
    have Mw : Vcg.Mod (fun k => OB o k ∨ SpB b p k) w w8 := ⟨M8.os.trans (M7.os.trans (M6.os.trans (M5.os.trans (M4.os.trans M03.os)))), M8.tape.trans (M7.tape.trans (M6.tape.trans (M5.tape.trans (M4.tape.trans M03.tape)))),
      M8.output.trans (M7.output.trans (M6.output.trans (M5.output.trans (M4.output.trans M03.output)))), by omega, fun k hk hn => keepB k hk (fun h => hn (.inl h)) (fun h => hn (.inr h))⟩
    have M28 : Vcg.Mod (fun k => OB o k ∨ SpB b p k ∨ OB o1 k) w2 w8 := ((((M3.mono (fun k _ (h : False) => h.elim)).trans M4 (fun k _ h => .inl h)).trans M5 (fun k _ h => .inr (.inl h))).trans M6 (fun k _ h => .inr (.inr h))).step_drew.none_trans (M7.none_trans M8)
    have hO4l : ∀ k, OB o4 k → k < w4.heap.size := fun k hk => hO4.lt hk
    have hO2l : ∀ k, OB o2 k → k < w2.heap.size := fun k hk => hO2.lt hk
    refine hI (ls ++ [pe]) (fun k => if k < w.heap.size then lab k else if k < w2.heap.size then 2 else if k < w4.heap.size then 1 else 0) p' o4 c4 (vs ++ #[(.slice o2 e c2)].toList) w8 ⟨Mall.none_trans M8, I.BX.mod Mw ?_, ?_, ?_, ?_, ?_, ?_, ?_, I.hX, ?_, ?_⟩
    · rintro (h | h)
      · have := (I.lG _ h).1; have := I.lX; omega
      · have := (I.lF _ h).1; have := I.lX; omega
    · exact (S6.mod M7 (fun k _ h => h)).mod M8 (fun k _ h => h)
    · exact (((hO4.mod M5 (fun k hk h => by
        rcases hF4 k hk with h3 | h3
        · exact hFG k h h3
        · have := hSl k h; omega)).mod M6 (fun k hk h => by
        rcases hF4 k hk with h3 | h3
        · have := hOBl k h3; have := hF1' k h; omega
        · have := hO1l k h; omega)).mod' (Mod.drew w6)).mod' (M7.none_trans M8)
    · rw [List.flatten_append, I.fl, take_add_drop'' hpe]; simp
    · rw [List.length_append, I.ll]; rfl
    · intro j hj
      rw [List.length_append, List.length_singleton] at hj
      have hvl : vs.length = ls.length := by rw [I.ow.len, I.ll]
      by_cases hjl : j < ls.length
      · obtain ⟨oi, ci, hv, hri, hlab⟩ := I.pc j hjl
        have eg : (ls ++ [pe]).getD j [] = ls.getD j [] := by simp only [List.getD_eq_getElem?_getD]; rw [List.getElem?_append_left hjl]
        rw [eg]
        refine ⟨oi, ci, by rw [List.getElem?_append_left (by omega)]; exact hv, hri.mod Mw ?_, ?_⟩
        · rintro d rfl (h | h)
          · have := (hlab d.block ⟨_, rfl, rfl⟩).1; have := (I.lG _ h).1; omega
          · have := (hlab d.block ⟨_, rfl, rfl⟩).1; have := (I.lF _ h).1; omega
        · intro k hk
          obtain ⟨g1, g2, g3⟩ := hlab k hk
          rw [if_pos g3]
          exact ⟨g1, g2, by omega⟩
      · obtain rfl : j = ls.length := by omega
        have eg : (ls ++ [pe]).getD ls.length [] = pe := by simp [List.getD_eq_getElem?_getD]
        rw [eg, hpl]
        refine ⟨o2, c2, by rw [List.getElem?_append_right (by omega), hvl, Nat.sub_self]; rfl, hO2.bytes.mod M28 ?_, ?_⟩
        · rintro d rfl (h | h | h)
          · have := hOBl _ h; have := hF2' d.block ⟨_, rfl, rfl⟩; omega
          · have := hSl _ h; have := hF2' d.block ⟨_, rfl, rfl⟩; omega
          · have := hO1l _ h; have := hF2' d.block ⟨_, rfl, rfl⟩; omega
        · intro k hk
          have g1 := hF2' k hk
          have g2 := hO2l k hk
          rw [if_neg (by omega), if_pos g2]
          exact ⟨rfl, by omega, by omega⟩
    · have := I.BX.lt
      rw [if_pos this]; exact I.lX
    · rintro k (rfl | hk)
      · have g := hSl k (.inl rfl)
        rw [if_pos g]; exact I.lF k (.inl rfl)
      · rcases hF5 k hk with h3 | h3
        · have g := hSl k (.inr h3)
          rw [if_pos g]; exact I.lF k (.inr h3)
        · rw [if_neg (by omega), if_neg (by omega), if_neg (by omega)]
          exact ⟨rfl, by omega⟩
    · intro k hk
      rcases hF4 k hk with h3 | h3
      · have g := hOBl k h3
        rw [if_pos g]; exact I.lG k h3
      · have g := hO4l k hk
        rw [if_neg (by omega), if_neg (by omega), if_pos g]
        exact ⟨rfl, by omega⟩

theorem Sums_calls (w : World) {o0 o1 : Option Addr} {l0 c0 l1 c1 : Nat} (m : List UInt8) (hl : l0 = m.length) (hc0 : l0 ≤ c0) (hcm : c0 < 2 ^ 63) (hr : RdB w o0 m)
    (f : Nat → Int) (hl1 : l1 < 2 ^ 63) (hcut : ∀ i, i < l1 → ∃ b g, o1 = some ⟨b, g, none⟩ ∧ b < w.heap.size ∧ w.cell? ⟨b, g + i, none⟩ = some (.int .i64 (f i))) (hf : ∀ i, i < l1 → -9223372036854775808 ≤ f i ∧ f i < 9223372036854775808) :
    Calls Try.prog morainelaw3_KeccakSums.n #[.slice o0 l0 c0, .slice o1 l1 c1] w (fun e w' => e = .returned (.bool true) ∧ Vcg.Mod NoB w w') := by
  subst hl
  refine morainelaw3_KeccakSums.vc _ _ _ _ _ _ _ _ ?_
  unfold morainelaw3_KeccakSums.Vc
  refine (known_calls _).mono ?_
  rintro _ w2 ⟨rfl, M2⟩
  refine ⟨true, rfl, (fun h => by cases h), fun _ => ⟨fun _ => ⟨rfl, M2⟩, fun h1000 => ⟨fun _ => ⟨rfl, M2⟩, fun h20 => ?_⟩⟩⟩
  refine (refSum_calls m rfl (by omega) (hr.mod' M2)).mono ?_
  rintro _ w3 ⟨rfl, M3⟩
  refine ⟨_, rfl, ?_⟩
  have M23 := M2.none_trans M3
  rintro d8 w9 ⟨rfl, rfl⟩
  have B8 := Blk.new w3 tHash (Array.replicate 32 (.int .u8 0))
  have s3 := M23.size
  have B8' := B8.row_same (hashA (sumOf m))
  have M8 := (M23.step_alloc (.cells (Array.replicate 32 (.int .u8 0)) tHash)).step_row (g := w3.heap.size) (cs := hashA (sumOf m)) (fun h => by omega)
  refine ⟨_, B8.storeAll (L := hashA (sumOf m)) (by rw [size_hashA]; kernel_rfl) (by rw [size_hashA, Array.size_replicate]) (hashA_one _), ?_⟩
  generalize (w3.alloc (.cells (Array.replicate 32 (.int .u8 0)) tHash)).setRow w3.heap.size (hashA (sumOf m)) = w4 at *
  generalize w3.heap.size = X at *
  rintro _ rfl
  have B8d := B8'.drew
  have M8d := M8.step_drew
  generalize w4.drew = w5 at *
  refine ⟨_, B8d.rowAll (size_hashA _), ?_⟩
  rintro d13 w14 ⟨rfl, rfl⟩
  have B9 := B8d.alloc (.cells #[(.slice o0 m.length c0)] tSlU8)
  have B13 := Blk.new w5 tSlU8 #[(.slice o0 m.length c0)]
  have M9 := M8d.step_alloc (.cells #[(.slice o0 m.length c0)] tSlU8)
  generalize w5.alloc (.cells #[(.slice o0 m.length c0)] tSlU8) = w6 at *
  generalize w5.heap.size = Y at *
  refine ⟨B9.rowAll (size_hashA _), (Sum_calls [m] rfl (by simp) (RdBB.one B13 (hr.mod' M9)) (by simp; omega)).mono ?_⟩
  rintro _ w7 ⟨rfl, M10⟩
  have em : [m].flatten = m := by simp
  rw [em]
  have B10 := B9.mod' M10
  have M11 := M9.none_trans M10
  refine ⟨_, rfl, B10.rowAll (size_hashA _), _, hash_ne _ _ _, _, rfl, (fun h => by cases h), fun _ => ?_⟩
  refine (New_calls _).mono ?_
  rintro _ w8 ⟨b, rfl, S0, M12, hb⟩
  refine ⟨_, rfl, ?_⟩
  have B12 := B10.mod' M12
  have M13 := M11.none_trans M12
  have hXl := B10.lt
  have s11 := M11.size
  have I0 : SumsInv w b X (sumOf m) (m.take 0) [] (fun k => if k = X then 3 else 0) none none 0 0 [] w8 :=
    ⟨M13, B12, S0, Own.nil _ _ _, rfl, rfl, fun i hi => (Nat.not_lt_zero _ hi).elim, by simp, by omega, fun k hk => hk.elim (fun h => by subst h; rw [if_neg (by omega)]; exact ⟨rfl, by omega⟩) (fun h => (OB_none k h).elim), fun k hk => (OB_none k hk).elim⟩
  refine ⟨fun o l c n25 n26 w' => ∃ (i a : Nat), n25 = (a : Int) ∧ n26 = (i : Int) ∧ i ≤ l1 + 1 ∧ a ≤ m.length ∧ i = l ∧ (i = l1 + 1 → a = m.length) ∧ ∃ ls lab p vs, SumsInv w b X (sumOf m) (m.take a) ls lab p o l c vs w',
    fun _ _ _ _ n _ => ((l1 : Int) + 1 - n).toNat, ⟨0, 0, rfl, rfl, by omega, by omega, rfl, by omega, _, _, _, _, I0⟩, ?_⟩
  clear I0 B12 M13 B10 B9 B8d B8' B8 S0
  rintro o l c _ _ _ w' ⟨i, a, rfl, rfl, hi, ha, rfl, hlast, ls, lab, p, vs, I⟩
  have eL : IntKind.wrap .i64 (((m.length : Nat) : Int) - (a : Int)) = ((m.length - a : Nat) : Int) := by rw [wrap_i64_small (by omega) (by omega)]; omega
  rw [eL]
  have piece : ∀ (E : Int) (e : Nat), E = (e : Int) → a + e ≤ m.length → i ≤ l1 → (i = l1 → a + e = m.length) → SumsPiece o0 c0 (some ⟨b, 0, none⟩) (a : Int) E (i : Int) o i c w'
      (fun o l c n25 n26 w' => ∃ (i a : Nat), n25 = (a : Int) ∧ n26 = (i : Int) ∧ i ≤ l1 + 1 ∧ a ≤ m.length ∧ i = l ∧ (i = l1 + 1 → a = m.length) ∧ ∃ ls lab p vs, SumsInv w b X (sumOf m) (m.take a) ls lab p o l c vs w')
      (fun _ _ _ _ n _ => ((l1 : Int) + 1 - n).toNat) (fun e w' => e = .returned (.bool true) ∧ Vcg.Mod NoB w w') := by
    intro E e hE hae hil hl'
    refine I.piece (i := i) hae (by omega) (by omega) (by omega) hr rfl hE (fun ls' lab' p' o' c' vs' w'' I' => ?_)
    have e1 : IntKind.wrap .i64 ((i : Int) + 1) = ((i + 1 : Nat) : Int) := by rw [wrap_i64_small (by omega) (by omega)]; omega
    rw [e1]
    exact ⟨⟨i + 1, a + e, rfl, rfl, by omega, hae, rfl, fun h => hl' (by omega), ls', lab', p', vs', I'⟩, by omega⟩
  refine ⟨fun hle => ⟨fun hlt => ?_, fun hge => ?_⟩, fun hgt => ?_⟩
  · obtain ⟨bb, g, rfl, hbl, hc⟩ := hcut i (by omega)
    have hfi := hf i (by omega)
    refine ⟨_, rfl, by omega, f i, ?_, ?_⟩
    · rw [add_at, Int.toNat_natCast]; exact (cell_mod I.M hbl (fun h => h)).trans hc
    · refine ⟨fun h1 => ⟨fun h2 => ?_, fun h2 => ?_⟩, fun h1 => ⟨fun h2 => ?_, fun h2 => ?_⟩⟩
      · exact piece _ (m.length - a) rfl (by omega) (by omega) (by omega)
      · exact piece _ 0 rfl (by omega) (by omega) (by omega)
      · exact piece _ (f i).toNat (by omega) (by omega) (by omega) (by omega)
      · exact piece _ 0 rfl (by omega) (by omega) (by omega)
  · exact piece _ (m.length - a) rfl (by omega) (by omega) (by omega)
  · obtain rfl : i = l1 + 1 := by omega
    obtain rfl : a = m.length := hlast rfl
    rw [List.take_length] at I
    rintro _ rfl
    have ID := I.BX.drew
    refine ⟨_, ID.rowAll (size_hashA _), (SpSum_calls (I.sp.mod (Mod.drew w') (fun k _ (h : False) => h))).mono ?_⟩
    rintro _ w9 ⟨rfl, M9'⟩
    have ID2 := ID.mod' M9'
    refine ⟨_, rfl, ID2.rowAll (size_hashA _), _, hash_eq _ _ _, _, rfl, fun _ => ?_, fun h => by cases h⟩
    have hm' := I.ll
    refine ⟨_, ID2.rowAll (size_hashA _), (Sum_calls ls I.ll.symm (by omega) ((I.bb.mod' (Mod.drew w')).mod' M9') (fun x hx => ?_)).mono ?_⟩
    · have h1 : x.length ≤ m.length := by
        rw [← I.fl]
        exact (List.sublist_flatten_of_mem hx).length_le
      omega
    · rintro _ w10 ⟨rfl, M10'⟩
      rw [I.fl]
      exact ⟨_, rfl, (ID2.mod' M10').rowAll (size_hashA _), _, hash_eq _ _ _, _, rfl, rfl, ((I.M.step_drew).none_trans M9').none_trans M10'⟩

end Go.Proofs.Ytmnhdppcphficaa
