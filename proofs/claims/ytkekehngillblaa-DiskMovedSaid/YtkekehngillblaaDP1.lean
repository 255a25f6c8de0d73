/- The program's disk in memory; names; bytes that are copied, grown, laid. -/
import Derived.Test.YtkekehngillblaaDT
import Derived.Test.YtkekehngillblaaXGrow
set_option linter.unusedVariables false
set_option linter.unusedSimpArgs false
namespace Go.Proofs.Ytkekehngillblaa
open Go Go.Vcg Go.Disk

theorem keyEnc : KeyEnc Try.prog tStr Value.string NmGood where
  keyed := Go.Maps.string_keyed und_str
  ok k hk := ⟨_, Go.WideMaps.keyOf_string_mk und_str hk⟩
  inj a b h := by cases h; rfl
theorem right_good {s : Nm} (h : right s = true) : NmGood s := by
  simp only [right, Bool.and_eq_true, decide_eq_true_eq] at h
  simp only [NmGood, maxLen]; omega

/-! ### names -/
theorem right1_calls {w : World} {b : Nat} {t : TypeId} {n : Int} (B : Blk w b t #[.int .u8 n]) (lo hi : Int) :
    Calls Try.prog disk_right_1.n #[.int .u8 lo, .int .u8 hi, .pointer (some ⟨b, 0, none⟩)] w (fun e w' => e = .returned (.bool (decide (lo ≤ n ∧ n ≤ hi))) ∧ w' = w) := by
  refine disk_right_1.vc _ _ _ _ _ ?_
  unfold disk_right_1.Vc
  refine ⟨n, B.rd1 rfl, fun h => ⟨n, B.rd1 rfl, ?_, rfl⟩, fun h => ⟨?_, rfl⟩⟩
  · congr 2
    simp [h]
  · congr 2
    simp [h]

theorem strAt_get {s : ByteArray} {i : Nat} (h : i < s.size) : strAt s i = ((s.data.toList.getD i 0).toNat : Int) := by
  have h' : i < s.data.size := h
  have e : s[i]? = some s.data[i] := by
    rw [getElem?_pos s i h]; rfl
  simp only [strAt, e, Option.map_some, Option.getD_some]
  congr 2
  rw [List.getD_eq_getElem?_getD, Array.getElem?_toList, Array.getElem?_eq_getElem h']; rfl

theorem okChar_iff (c : UInt8) : okChar c = (decide (97 ≤ (c.toNat : Int) ∧ (c.toNat : Int) ≤ 122) || decide (48 ≤ (c.toNat : Int) ∧ (c.toNat : Int) ≤ 57) || decide ((c.toNat : Int) = 46) || decide ((c.toNat : Int) = 45) || decide ((c.toNat : Int) = 95)) := by
  revert c
  have : ∀ n : Fin 256, okChar (UInt8.ofFin n) = (decide (97 ≤ (n.val : Int) ∧ (n.val : Int) ≤ 122) || decide (48 ≤ (n.val : Int) ∧ (n.val : Int) ≤ 57) || decide ((n.val : Int) = 46) || decide ((n.val : Int) = 45) || decide ((n.val : Int) = 95)) := by decide +kernel
  intro c
  exact this c.toFin

theorem right_calls (w : World) (s : ByteArray) : Calls Try.prog disk_right.n #[.string s] w (fun e w' => e = .returned (.bool (right s)) ∧ Vcg.Mod NoB w w') := by
  refine disk_right.vc _ _ _ ?_
  unfold disk_right.Vc
  refine ⟨fun h => ⟨?_, Mod.refl _⟩, fun h1 => ⟨fun h => ⟨?_, Mod.refl _⟩, fun h2 => ?_⟩⟩
  · simp only [right]; rw [decide_eq_false (show ¬ 1 ≤ s.size by omega)]; rfl
  · simp only [right]; rw [decide_eq_false (show ¬ s.size ≤ 64 by omega)]; simp
  · have hl : s.data.toList.length = s.size := by simp
    have hr : right s = s.data.toList.all okChar := by
      simp only [right]; rw [decide_eq_true (show 1 ≤ s.size by omega), decide_eq_true (show s.size ≤ 64 by omega)]; rfl
    rw [hr]
    refine ⟨UpTo s.size (fun i w' => Vcg.Mod NoB w w' ∧ (s.data.toList.take i).all okChar = true), Vcg.Left s.size, ⟨0, rfl, Nat.zero_le _, Mod.refl _, rfl⟩, ?_⟩
    rintro _ _ w' ⟨i, rfl, hi, M, ha⟩
    refine ⟨fun hlt => ⟨by omega, ?_⟩, fun hge => ⟨?_, M⟩⟩
    · have hi' : i < s.size := by omega
      have hs : (s.data.toList.take (i + 1)).all okChar = ((s.data.toList.take i).all okChar && okChar (s.data.toList.getD i 0)) := by
        rw [List.take_add_one, List.all_append, List.getElem?_eq_getElem (by omega)]
        simp [List.getD_eq_getElem?_getD, hi', show i < s.data.size from hi']
      rw [ha, Bool.true_and] at hs
      rw [Int.toNat_natCast, strAt_get hi']
      generalize hc : s.data.toList.getD i 0 = c at *
      rintro d4 w5 ⟨rfl, rfl⟩
      have B := Blk.new w' 5 #[.int .u8 0]
      refine ⟨B.canSet (by simp) rfl, ?_⟩
      rintro _ rfl
      have B1 := B.set 0 (.int .u8 (c.toNat : Int))
      have M1 := (M.step_alloc (.cells #[.int .u8 0] 5)).step_set (a := ⟨w'.heap.size, 0, none⟩) (v := .int .u8 (c.toNat : Int)) (fun h => by have := M.size; simp at h; omega)
      generalize (w'.alloc (.cells #[.int .u8 0] 5)).setCell ⟨w'.heap.size, 0, none⟩ (.int .u8 (c.toNat : Int)) = w6 at *
      generalize w'.heap.size = b at *
      rw [okChar_iff] at hs
      have nxt : (s.data.toList.take (i + 1)).all okChar = true → UpTo s.size (fun i w' => Vcg.Mod NoB w w' ∧ (s.data.toList.take i).all okChar = true) (IntKind.wrap .i64 ((i : Int) + 1)) w6 ∧ Vcg.Left s.size (IntKind.wrap .i64 ((i : Int) + 1)) w6 < Vcg.Left s.size (i : Int) w' := fun h =>
        UpTo.next (by rw [wrap_i64_small (by omega) (by omega)]; omega) hi' ⟨M1, h⟩
      refine (right1_calls B1 97 122).mono ?_
      rintro _ _ ⟨rfl, rfl⟩
      refine ⟨_, rfl, fun h97 => ?_, fun h97 => nxt (by rw [hs, h97]; simp)⟩
      refine (right1_calls B1 48 57).mono ?_
      rintro _ _ ⟨rfl, rfl⟩
      refine ⟨_, rfl, fun h48 => ?_, fun h48 => nxt (by rw [hs, h48]; simp)⟩
      refine ⟨_, B1.rd1 rfl, fun h46 => ⟨_, B1.rd1 rfl, fun h45 => ⟨_, B1.rd1 rfl, fun h95 => ⟨?_, M1⟩, fun h95 => nxt ?_⟩, fun h45 => nxt ?_⟩, fun h46 => nxt ?_⟩
      · rw [h97, h48] at hs
        have hf : ((s.data.toList.take (i + 1)).all okChar) = false := by rw [hs]; simp [h46, h45, h95]
        have : s.data.toList.all okChar = false := by
          rw [← List.take_append_drop (i + 1) s.data.toList, List.all_append, hf]; rfl
        rw [this]
      · rw [hs]; simp [h95]
      · rw [hs]; simp [h45]
      · rw [hs]; simp [h46]
    · have : i = s.size := by omega
      subst this
      rw [List.take_of_length_le (by omega)] at ha
      rw [ha]

theorem named1_calls (w : World) (s : ByteArray) : Calls Try.prog disk_Disk_named_1.n #[.string s] w (fun e w' => e = .returned (.bool (!right s)) ∧ Vcg.Mod NoB w w') := by
  refine disk_Disk_named_1.vc _ _ _ ?_
  unfold disk_Disk_named_1.Vc
  refine (right_calls w s).mono ?_
  rintro _ w' ⟨rfl, M⟩
  exact ⟨_, rfl, rfl, M⟩

/-- The second names: none, or one. -/
def Seconds (w : World) (o : Option Addr) : List Nm → Prop
  | [] => True
  | [s] => ∃ b t, o = some ⟨b, 0, none⟩ ∧ Blk w b t #[.string s]
  | _ => False
theorem Seconds.mod {w w' : World} {o : Option Addr} : ∀ {l : List Nm}, Seconds w o l → Vcg.Mod NoB w w' → Seconds w' o l
  | [], _, _ => trivial
  | [_], ⟨b, t, ho, B⟩, M => ⟨b, t, ho, B.mod' M⟩
  | _ :: _ :: _, h, _ => h.elim
theorem contains_calls (w : World) {o : Option Addr} {c : Nat} (l : List Nm) (h : Seconds w o l) :
    Calls Try.prog slices_ContainsFunc_string_string.n #[.slice o l.length c, .func (.func disk_Disk_named_1.n) #[] #[]] w (fun e w' => e = .returned (.bool (!l.all right)) ∧ Vcg.Mod NoB w w') := by
  refine slices_ContainsFunc_string_string.vc _ _ _ _ _ _ ?_
  unfold slices_ContainsFunc_string_string.Vc
  refine Calls.mono (R := fun e w' => e = .returned (.int .i64 (if l.all right then -1 else 0)) ∧ Vcg.Mod NoB w w') ?_ ?_
  · refine slices_IndexFunc_string_string.vc _ _ _ _ _ _ ?_
    unfold slices_IndexFunc_string_string.Vc
    rcases l with _ | ⟨s, _ | ⟨_, _⟩⟩
    · refine ⟨fun n w' => n = 0 ∧ w' = w, fun _ _ => 0, ⟨rfl, rfl⟩, ?_⟩
      rintro _ _ _ ⟨rfl, rfl⟩
      exact ⟨fun h => by simp at h, fun _ => ⟨rfl, Mod.refl _⟩⟩
    · obtain ⟨b, t, rfl, B⟩ := h
      refine ⟨UpTo 1 (fun i w' => Vcg.Mod NoB w w' ∧ (i = 1 → right s = true)), Vcg.Left 1, ⟨0, rfl, by omega, Mod.refl _, fun h => by omega⟩, ?_⟩
      rintro _ _ w1 ⟨i, rfl, hi, M, hr⟩
      refine ⟨fun hlt => ?_, fun hge => ⟨?_, M⟩⟩
      · have hlt : (i : Int) < (([s] : List Nm).length : Int) := hlt
        obtain rfl : i = 0 := by simp at hlt; omega
        refine ⟨_, rfl, by simp, s, ?_, ?_⟩
        · rw [add_at]; exact (B.mod' M).rd1 rfl
        refine ⟨_, _, _, rfl, by kernel_rfl, ?_⟩
        refine (named1_calls w1 s).mono ?_
        rintro _ w2 ⟨rfl, M2⟩
        refine ⟨_, rfl, fun h => ⟨?_, M.none_trans M2⟩, fun h => UpTo.next rfl (by omega) ⟨M.none_trans M2, fun _ => by simpa using h⟩⟩
        have : right s = false := by simpa using h
        simp [this]
      · have hge : ¬ (i : Int) < (([s] : List Nm).length : Int) := hge
        simp at hge
        have : i = 1 := by omega
        simp [hr this]
    · exact h.elim
  · rintro _ w' ⟨rfl, M⟩
    refine ⟨_, rfl, ?_, M⟩
    cases l.all right <;> rfl

/-! ### bytes -/
theorem append_u8 {w : World} {o : Option Addr} {l c : Nat} {xs : List Value} {x : Value} {tx ty : TypeId} {n : Nat} {news : List Value} (h : Own w tU8 1 o l c xs) (src : Src Try.prog 1 tx x n news w) (hb : l + n ≤ 2 ^ 40) :
    ∃ o' c' w', Sem.run Try.prog (builtinV .append #[tSlU8, tx] ty #[.slice o l c, x]) w = .ok (.slice o' (l + n) c') w' ∧ Own w' tU8 1 o' (l + n) c' (xs ++ news) ∧ Vcg.Mod (OB o) w w' ∧ (∀ k, OB o' k → OB o k ∨ w.heap.size ≤ k) := by
  obtain ⟨i, hi, h1⟩ := Option.map_eq_some_iff.1 info_u8
  simp only [Prod.mk.injEq] at h1
  exact append_own und_slU8 hi h1.1 h1.2.1 rfl h src (by simp only [maxLen]; omega) (by rw [h1.2.2]; omega)

theorem Clone_calls {w : World} {o : Option Addr} {c : Nat} {bs : List UInt8} (hr : RdB w o bs) (hb : bs.length ≤ 2 ^ 40) :
    Calls Try.prog slices_Clone_byte_byte.n #[.slice o bs.length c] w (fun e w' => ∃ o' c', e = .returned (.slice o' bs.length c') ∧ Own w' tU8 1 o' bs.length c' (bs.map bV) ∧ Vcg.Mod NoB w w' ∧ ∀ k, OB o' k → w.heap.size ≤ k) := by
  refine slices_Clone_byte_byte.vc _ _ _ _ _ ?_
  unfold slices_Clone_byte_byte.Vc
  refine ⟨fun h => ?_, fun h => ?_⟩
  · subst h
    have hbs : bs = [] := by
      by_cases hne : bs = []
      · exact hne
      · obtain ⟨b, f, h, _⟩ := hr hne; cases h
    subst hbs
    exact ⟨none, 0, rfl, Own.nil _ _ _, Mod.refl _, fun k hk => (OB_none k hk).elim⟩
  · rintro d1 w2 ⟨rfl, rfl⟩
    have B := Blk.new w tU8 #[]
    have M := Mod.alloc (S := NoB) w (.cells #[] tU8)
    have ow : Own (w.alloc (.cells #[] tU8)) tU8 1 (some ⟨w.heap.size, 0, none⟩) 0 0 [] := ⟨rfl, .inr ⟨_, _, rfl, B, Nat.le_refl _, Nat.zero_le _, rfl, rfl⟩⟩
    obtain ⟨o', c', w', h1, h2, h3, h4⟩ := append_u8 (ty := tSlU8) ow (src_bytes (c := c) und_slU8 (hr.mod' M)) (by omega)
    rw [Nat.zero_add] at h1 h2
    refine ⟨_, w', h1, _, _, _, rfl, o', c', rfl, h2, ?_, fun k hk => ?_⟩
    · refine M.trans h3 (fun k hk hob => ?_)
      obtain ⟨d, hd, rfl⟩ := hob
      cases hd
      exact absurd hk (Nat.lt_irrefl _)
    · rcases h4 k hk with ⟨d, hd, rfl⟩ | h5
      · cases hd; exact Nat.le_refl _
      · rw [size_alloc] at h5; omega

theorem Grow_calls {w : World} {o : Option Addr} {l c : Nat} {xs : List Value} {n : Nat} {m : Int} (h : Own w tU8 1 o l c xs) (hm : m = (n : Int)) (hb : l + n ≤ 2 ^ 40) :
    Calls Try.prog slices_Grow_byte_byte.n #[.slice o l c, .int .i64 m] w (fun e w' => ∃ o' c', e = .returned (.slice o' l c') ∧ Own w' tU8 1 o' l c' xs ∧ l + n ≤ c' ∧ Vcg.Mod NoB w w' ∧ ∀ k, OB o' k → OB o k ∨ w.heap.size ≤ k) := by
  subst hm
  have hcap := h.cap
  simp only [maxLen] at hcap
  refine slices_Grow_byte_byte.vc _ _ _ _ _ _ ?_
  unfold slices_Grow_byte_byte.Vc
  refine ⟨fun h => by omega, fun _ => ?_⟩
  have e1 : IntKind.wrap .i64 (((c : Nat) : Int) - ((l : Nat) : Int)) = ((c - l : Nat) : Int) := by rw [wrap_i64_small (by omega) (by omega)]; omega
  have e2 : IntKind.wrap .i64 ((n : Int) - ((c - l : Nat) : Int)) = (n : Int) - ((c - l : Nat) : Int) := by rw [wrap_i64_small (by omega) (by omega)]
  rw [e1, e2]
  refine ⟨fun hgt => ?_, fun hle => ⟨o, c, rfl, h, by omega, Mod.refl _, fun k hk => .inl hk⟩⟩
  have e3 : (n : Int) - ((c - l : Nat) : Int) = ((n - (c - l) : Nat) : Int) := by omega
  rw [e3]
  refine ⟨by omega, ?_⟩
  obtain ⟨i, hi, h1⟩ := Option.map_eq_some_iff.1 info_u8
  simp only [Prod.mk.injEq] at h1
  have hold : ∃ olds, (Builtin.firstCells 1 c (.slice o c c)).run Try.prog w.drew = .ok (olds : List Value).toArray w.drew ∧ olds.length = c ∧ olds.take l = xs := by
    rcases h.2 with ⟨rfl, rfl, rfl⟩ | ⟨g, cur, rfl, hB, hlc, hcm, hcs, htk⟩
    · refine ⟨[], run_firstCells_none w.drew 1 0 0 0, rfl, ?_⟩
      have := h.1
      simp at this
      rw [this]; rfl
    · refine ⟨cur.toList, run_firstCells_some w.drew 1 c _ c c cur.toList (by simp [hcs]) (fun j v hv => ?_), by simp [hcs], by rw [← htk]; simp⟩
      rw [add_at, Nat.zero_add]
      show w.cell? _ = _
      rw [hB.cell]; simpa using hv
  obtain ⟨olds, ho, hol, hot⟩ := hold
  have hrun := run_append_zeros (P := Try.prog) (w := w) (ty := 30) (tx := 3) (n := n - (c - l)) (sLen := c) (sCap := c) (base := o) und_slU8 (show Try.prog.underlying 3 = some (.int .i64) by kernel_rfl) hi h1.1 h1.2.1 h1.2.2 ho (by omega) (by omega) (by omega)
  have hge := grownCap_ge w (c + (n - (c - l))) c tU8
  have hcm : grownCap w (c + (n - (c - l))) c tU8 ≤ maxLen := grownCap_le_maxLen w _ c tU8 (by simp only [maxLen]; omega)
  generalize grownCap w (c + (n - (c - l))) c tU8 = G at *
  have hz : ∀ k, (Builtin.zeroCells (Value.int .u8 0).cells k).size = k := fun k => by rw [size_zeroCells]; show k * 1 = k; omega
  refine ⟨_, _, hrun, _, _, _, rfl, by omega, _, _, rfl, ⟨?_, .inr ⟨_, _, rfl, Blk.new w.drew tU8 _, by omega, hcm, ?_, ?_⟩⟩, by omega, (Mod.drew w).step_alloc _, fun k hk => .inr ?_⟩
  · have := h.1; simpa using this
  · simp only [Array.size_append, hz, List.size_toArray, hol]; omega
  · simp only [Array.toList_append, Int.toNat_natCast, Nat.mul_one]
    rw [List.append_assoc, List.take_append_of_le_length (by omega), hot]
  · obtain ⟨d, hd, rfl⟩ := hk
    cases hd
    exact Nat.le_refl _
end Go.Proofs.Ytkekehngillblaa
