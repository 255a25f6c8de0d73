/- The program's disk in memory. -/
import Derived.Test.YtkekehngillblaaDP1
set_option linter.unusedVariables false
set_option linter.unusedSimpArgs false
namespace Go.Disk
theorem get_lay {b c : List UInt8} {a : Nat} (h : a ≤ b.length) (j : Nat) : (lay b a c)[j]? = if a ≤ j ∧ j < a + c.length then c[j - a]? else b[j]? := by
  rw [lay, List.getElem?_append, List.length_append, List.length_take, Nat.min_eq_left h]
  by_cases h1 : j < a + c.length
  · rw [if_pos h1, List.getElem?_append, List.length_take, Nat.min_eq_left h]
    by_cases h2 : j < a
    · rw [if_pos h2, if_neg (by omega), List.getElem?_take, if_pos h2]
    · rw [if_neg h2, if_pos ⟨by omega, h1⟩]
  · rw [if_neg h1, if_neg (by omega), List.getElem?_drop]
    congr 1; omega
theorem length_lay {b c : List UInt8} {a : Nat} (h : a ≤ b.length) : (lay b a c).length = max b.length (a + c.length) := by
  rw [lay, List.length_append, List.length_append, List.length_take, List.length_drop]; omega
end Go.Disk
namespace Go.Proofs.Ytkekehngillblaa
open Go Go.Vcg Go.Disk

theorem laid_calls {w : World} {o o2 : Option Addr} {l c c2 at_ : Nat} {a : Int} {b by_ : List UInt8} (h : Own w tU8 1 o l c (b.map bV)) (hr : RdB w o2 by_) (ha : a = (at_ : Int)) (hat : at_ ≤ l)
    (hb : l ≤ 2 ^ 38) (hb2 : by_.length ≤ 2 ^ 38) :
    Calls Try.prog disk_laid.n #[.slice o l c, .int .i64 a, .slice o2 by_.length c2] w (fun e w' => ∃ o' c', e = .returned (.slice o' (max l (at_ + by_.length)) c') ∧ Own w' tU8 1 o' (max l (at_ + by_.length)) c' ((lay b at_ by_).map bV) ∧
      Vcg.Mod (OB o) w w' ∧ ∀ k, OB o' k → OB o k ∨ w.heap.size ≤ k) := by
  subst ha
  have hbl : b.length = l := by have := h.len; simpa using this
  refine disk_laid.vc _ _ _ _ _ _ _ _ _ ?_
  unfold disk_laid.Vc
  have e1 : IntKind.wrap .i64 ((at_ : Int) + ((by_.length : Nat) : Int)) = ((at_ + by_.length : Nat) : Int) := by rw [wrap_i64_small (by omega) (by omega)]; omega
  have e2 : max 0 (IntKind.wrap .i64 (((at_ + by_.length : Nat) : Int) - ((l : Nat) : Int))) = ((at_ + by_.length - l : Nat) : Int) := by rw [wrap_i64_small (by omega) (by omega)]; omega
  have e3 : max ((l : Nat) : Int) ((at_ + by_.length : Nat) : Int) = ((max l (at_ + by_.length) : Nat) : Int) := by omega
  rw [e1, e2, e3]
  refine (Grow_calls h rfl (by omega)).mono ?_
  rintro _ w1 ⟨o1, c1, rfl, ow, hge, M1, hF1⟩
  refine ⟨_, _, _, rfl, by omega, by omega, ?_⟩
  simp only [Int.toNat_natCast]
  have hr1 := hr.mod' M1
  have hlen := length_lay (c := by_) (show at_ ≤ b.length by omega)
  rcases ow.2 with ⟨rfl, rfl, rfl⟩ | ⟨g, cur, rfl, hB, hlc, hcm, hcs, htk⟩
  · have h0 : at_ = 0 := by omega
    have hby : by_ = [] := List.eq_nil_of_length_eq_zero (by omega)
    subst h0 hby
    have hbn : b = [] := List.eq_nil_of_length_eq_zero (by omega)
    subst hbn
    obtain ⟨i, hi1, hi2⟩ := Option.map_eq_some_iff.1 info_u8_size
    refine ⟨.int .i64 0, w1, ?_, 0, rfl, none, 0, rfl, Own.nil _ _ _, M1.mono (fun _ _ h => h.elim), fun k hk => (OB_none k hk).elim⟩
    cases o2 with
    | none => simp [builtinV, Builtin.copy_, run_underlying und_slU8, Builtin.lenOf, sizeOf, typeInfo, hi1, Builtin.firstCells, subO, goInt]
    | some d =>
      have hcells : (Builtin.firstCells 1 0 (.slice (some d) 0 c2)).run Try.prog w1 = .ok #[] w1 := run_firstCells_some w1 1 0 d 0 c2 [] (by simp) (by simp)
      simp [builtinV, Builtin.copy_, run_underlying und_slU8, Builtin.lenOf, sizeOf, typeInfo, hi1, hi2, hcells, subO, goInt]
  · have hsub : ∃ off, subO (some ⟨g, 0, none⟩) c1 at_ 1 = some ⟨g, off, none⟩ ∧ (by_ ≠ [] → off = at_) ∧ off + by_.length ≤ cur.size ∧ off ≤ at_ := by
      rw [subO_one]
      by_cases hca : c1 = at_
      · rw [if_pos hca]
        have hby : by_ = [] := List.eq_nil_of_length_eq_zero (by omega)
        exact ⟨0, rfl, fun h => (h hby).elim, by rw [hby]; simp, Nat.zero_le _⟩
      · rw [if_neg hca]
        exact ⟨at_, by rw [Option.map_some, add_at, Nat.zero_add], fun _ => rfl, by omega, Nat.le_refl _⟩
    obtain ⟨off, hs, hoffat, hfit, _⟩ := hsub
    rw [hs]
    obtain ⟨w2, h1, h2, h3⟩ := copy_blk (P := Try.prog) (ty := 3) (tx := tSlU8) (dLen := max l (at_ + by_.length) - at_) (dCap := c1 - at_) (n := by_.length) (o := off) (c := c2) und_slU8 info_u8_size hB hr1
      (by rw [show Nat.min by_.length (max l (at_ + by_.length) - at_) = min by_.length (max l (at_ + by_.length) - at_) from rfl]; omega) hfit
    rw [List.take_length] at h2
    refine ⟨_, w2, h1, _, rfl, _, _, rfl, ⟨?_, .inr ⟨g, _, rfl, h2, by omega, hcm, by rw [size_setsAt, hcs], ?_⟩⟩, ?_, hF1⟩
    · rw [List.length_map, hlen]; omega
    · apply List.ext_getElem?
      intro j
      rw [List.getElem?_take, Nat.mul_one, Array.getElem?_toList, get_setsAt _ _ _ _ (by rw [List.length_map]; exact hfit), List.length_map, List.getElem?_map, List.getElem?_map, get_lay (by omega)]
      have hcur : ∀ j, j < l → cur[j]? = (b[j]?).map bV := fun j hj => by
        rw [← List.getElem?_map, ← htk, List.getElem?_take, if_pos (by omega), Array.getElem?_toList]
      by_cases hj : j < max l (at_ + by_.length)
      · rw [if_pos hj]
        by_cases hby : by_ = []
        · rw [if_neg (by rw [hby]; simp), if_neg (by rw [hby]; simp)]
          refine hcur j ?_
          rw [hby] at hj; simp at hj; omega
        · rw [hoffat hby]
          by_cases h5 : at_ ≤ j ∧ j < at_ + by_.length
          · rw [if_pos h5, if_pos h5]
          · rw [if_neg h5, if_neg h5]
            exact hcur j (by omega)
      · rw [if_neg hj, if_neg (by omega), List.getElem?_eq_none (by omega)]; rfl
    · refine ⟨h3.os.trans M1.os, h3.tape.trans M1.tape, h3.output.trans M1.output, Nat.le_trans M1.size h3.size, fun k hk hn => ?_⟩
      refine (h3.block k (Nat.lt_of_lt_of_le hk M1.size) (fun e => ?_)).trans (M1.block k hk (fun h => h))
      subst e
      rcases hF1 k ⟨_, rfl, rfl⟩ with h5 | h5
      · exact hn h5
      · omega

/-! ### colours -/
inductive DC where
  | disk | names | sure | pend | file (n : Nat) | bytes (n : Nat) | fpend (n : Nat) | froz
  deriving DecidableEq

section
variable {C : Type}
/-- What a disk's calls may change. -/
def SD (γ : DC → C) (c : C) : Prop := ∃ x, x ≠ DC.froz ∧ c = γ x
def NoC : C → Prop := fun _ => False
def fileV (fb : Nat → Nat) (n : Nat) : Value := .pointer (some ⟨fb n, 0, none⟩)
def chgV (fb : Nat → Nat) : Chg → Value
  | .made n f => .iface tMade (.agg #[.string n, fileV fb f])
  | .ren a b => .iface tRenamed (.agg #[.string a, .string b])
  | .rem n => .iface tRemoved (.agg #[.string n])
def PtV (w : World) (lab : Nat → C) (c : C) (v : Value) : Pt → Prop
  | .wr a b => ∃ o k, v = .iface tWritten (.agg #[.int .i64 (a : Int), .slice o b.length k]) ∧ b.length ≤ k ∧ CBy w lab c o b
  | .cut n => v = .iface tCut (.agg #[.int .i64 (n : Int)])
structure Pts (w : World) (lab : Nat → C) (c : C) (vs : List Value) (ps : List Pt) : Prop where
  len : vs.length = ps.length
  at_ : ∀ (i : Nat) (p : Pt), ps[i]? = some p → ∃ v, vs[i]? = some v ∧ PtV w lab c v p
variable {S : C → Prop} {w w' : World} {lab lab' : Nat → C} {c : C}
theorem PtV.stp {v : Value} {p : Pt} (h : PtV w lab c v p) (s : Stp S w lab w' lab') (hs : ¬ S c) : PtV w' lab' c v p := by
  cases p with
  | wr a b => obtain ⟨o, k, h1, h2, h3⟩ := h; exact ⟨o, k, h1, h2, h3.stp s hs⟩
  | cut n => exact h
theorem Pts.stp {vs : List Value} {ps : List Pt} (h : Pts w lab c vs ps) (s : Stp S w lab w' lab') (hs : ¬ S c) : Pts w' lab' c vs ps :=
  ⟨h.len, fun i p hp => by obtain ⟨v, h1, h2⟩ := h.at_ i p hp; exact ⟨v, h1, h2.stp s hs⟩⟩
theorem Pts.nil : Pts w lab c [] [] := ⟨rfl, fun i p h => by simp at h⟩
theorem Pts.snoc {vs : List Value} {ps : List Pt} (h : Pts w lab c vs ps) {v : Value} {p : Pt} (hv : PtV w lab c v p) : Pts w lab c (vs ++ [v]) (ps ++ [p]) := by
  refine ⟨by simp [h.len], fun i q hq => ?_⟩
  by_cases hi : i < ps.length
  · rw [List.getElem?_append_left hi] at hq
    obtain ⟨u, h1, h2⟩ := h.at_ i q hq
    exact ⟨u, by rw [List.getElem?_append_left (by rw [h.len]; exact hi)]; exact h1, h2⟩
  · rw [List.getElem?_append_right (by omega)] at hq
    have : i - ps.length = 0 := by
      have := (List.getElem?_eq_some_iff.1 hq).1
      simp at this; omega
    rw [this] at hq
    cases hq
    refine ⟨v, ?_, hv⟩
    rw [List.getElem?_append_right (by rw [h.len]; omega), h.len, this]; rfl

/-- A file. -/
structure FCells (w : World) (lab : Nat → C) (γ : DC → C) (n b : Nat) (o : Option Addr) (l k : Nat) (so : Option Addr) (sl sc : Nat) (po : Option Addr) (pl pc : Nat) (vs : List Value) (f : Fl) : Prop where
  cells : CB w lab (γ (.file n)) b tFile #[.int .i64 (n : Int), .slice o l k, .slice so sl sc, .slice po pl pc]
  bytes : COw w lab (γ (.bytes n)) tU8 1 o l k (f.bytes.map bV)
  sure : CBy w lab (γ .froz) so f.sure
  slen : sl = f.sure.length
  pend : COw w lab (γ (.fpend n)) tPatch 1 po pl pc vs
  pts : Pts w lab (γ .froz) vs f.pend
def FAt (w : World) (lab : Nat → C) (γ : DC → C) (n b : Nat) (f : Fl) : Prop := ∃ o l k so sl sc po pl pc vs, FCells w lab γ n b o l k so sl sc po pl pc vs f
variable {γ : DC → C}
theorem FCells.stp {n b : Nat} {o : Option Addr} {l k : Nat} {so : Option Addr} {sl sc : Nat} {po : Option Addr} {pl pc : Nat} {vs : List Value} {f : Fl} (h : FCells w lab γ n b o l k so sl sc po pl pc vs f) (s : Stp S w lab w' lab')
    (h1 : ¬ S (γ (.file n))) (h2 : ¬ S (γ (.bytes n))) (h3 : ¬ S (γ (.fpend n))) (h4 : ¬ S (γ .froz)) : FCells w' lab' γ n b o l k so sl sc po pl pc vs f :=
  ⟨h.cells.stp s h1, h.bytes.stp s h2, h.sure.stp s h4, h.slen, h.pend.stp s h3, h.pts.stp s h4⟩
theorem FAt.stp {n b : Nat} {f : Fl} (h : FAt w lab γ n b f) (s : Stp S w lab w' lab') (h1 : ¬ S (γ (.file n))) (h2 : ¬ S (γ (.bytes n))) (h3 : ¬ S (γ (.fpend n))) (h4 : ¬ S (γ .froz)) : FAt w' lab' γ n b f := by
  obtain ⟨o, l, k, so, sl, sc, po, pl, pc, vs, h⟩ := h
  exact ⟨o, l, k, so, sl, sc, po, pl, pc, vs, h.stp s h1 h2 h3 h4⟩
def NamesAt (w : World) (lab : Nat → C) (c : C) (m : Nat) (fb : Nat → Nat) (l : List (Nm × Nat)) : Prop :=
  ∃ es, CM NmGood Value.string w lab c m es ∧ es.Perm (l.map fun x => (x.1, fileV fb x.2))
theorem NamesAt.stp {m : Nat} {fb : Nat → Nat} {l : List (Nm × Nat)} (h : NamesAt w lab c m fb l) (s : Stp S w lab w' lab') (hs : ¬ S c) : NamesAt w' lab' c m fb l := by
  obtain ⟨es, h1, h2⟩ := h
  exact ⟨es, h1.stp s hs, h2⟩

/-- The disk but for its own block. -/
structure DRest (w : World) (lab : Nat → C) (γ : DC → C) (mN mS : Nat) (po : Option Addr) (pl pc : Nat) (fb : Nat → Nat) (names sure : List (Nm × Nat)) (pend : List Chg) (files : Nat) (fs : Nat → Fl) : Prop where
  names : NamesAt w lab (γ .names) mN fb names
  sure : NamesAt w lab (γ .sure) mS fb sure
  pend : COw w lab (γ .pend) tChange 1 po pl pc (pend.map (chgV fb))
  files : ∀ n, n < files → FAt w lab γ n (fb n) (fs n)
theorem DRest.stp {mN mS : Nat} {po : Option Addr} {pl pc : Nat} {fb : Nat → Nat} {names sure : List (Nm × Nat)} {pend : List Chg} {files : Nat} {fs : Nat → Fl} (h : DRest w lab γ mN mS po pl pc fb names sure pend files fs)
    (s : Stp S w lab w' lab') (hs : ∀ x, x ≠ DC.disk → ¬ S (γ x)) : DRest w' lab' γ mN mS po pl pc fb names sure pend files fs :=
  ⟨h.names.stp s (hs _ (by simp)), h.sure.stp s (hs _ (by simp)), h.pend.stp s (hs _ (by simp)), fun n hn => (h.files n hn).stp s (hs _ (by simp)) (hs _ (by simp)) (hs _ (by simp)) (hs _ (by simp))⟩
def diskA (cap : Int) (mN mS : Nat) (po : Option Addr) (pl pc files count : Nat) (fail halt : Int) (down : Bool) : Array Value :=
  #[.int .i64 cap, .map (some mN), .map (some mS), .slice po pl pc, .int .i64 (files : Int), .int .i64 (count : Int), .int .i64 fail, .int .i64 halt, .bool down]
def DAt (w : World) (lab : Nat → C) (γ : DC → C) (d : Nat) (σ : Dk) : Prop :=
  ∃ mN mS po pl pc fb, CB w lab (γ .disk) d tDisk (diskA σ.cap mN mS po pl pc σ.files σ.count σ.fail σ.halt σ.down) ∧ DRest w lab γ mN mS po pl pc fb σ.names σ.sure σ.pend σ.files σ.fs
theorem DAt.stp {d : Nat} {σ : Dk} (h : DAt w lab γ d σ) (s : Stp S w lab w' lab') (hs : ∀ x, ¬ S (γ x)) : DAt w' lab' γ d σ := by
  obtain ⟨mN, mS, po, pl, pc, fb, h1, h2⟩ := h
  exact ⟨mN, mS, po, pl, pc, fb, h1.stp s (hs _), h2.stp s (fun x _ => hs x)⟩
/-- What a call leaves: a disk in a state, and what lies beside it untouched. -/
def DRes (γ : DC → C) (d : Nat) (w : World) (lab : Nat → C) (w' : World) (σ : Dk) : Prop := ∃ lab', DAt w' lab' γ d σ ∧ Stp (SD γ) w lab w' lab'
theorem DAt.res {d : Nat} {σ : Dk} (h : DAt w lab γ d σ) (M : Vcg.Mod NoB w w') : DRes γ d w lab w' σ := by
  have s : Stp NoC w lab w' (ext lab w.heap.size (γ .froz)) := Stp.of_nob M _
  exact ⟨_, h.stp s (fun _ h => h), s.mono (fun _ h => h.elim)⟩
theorem DRes.then {d : Nat} {σ' : Dk} {w'' : World} {lab1 : Nat → C} (s : Stp (SD γ) w lab w' lab1) (h : DRes γ d w' lab1 w'' σ') : DRes γ d w lab w'' σ' := by
  obtain ⟨lab', h1, h2⟩ := h
  exact ⟨lab', h1, s.trans h2⟩
theorem SD.of {x : DC} (h : x ≠ .froz) : SD γ (γ x) := ⟨x, h, rfl⟩
end
end Go.Proofs.Ytkekehngillblaa
