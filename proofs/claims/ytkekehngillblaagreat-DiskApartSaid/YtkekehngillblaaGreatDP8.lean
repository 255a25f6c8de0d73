/- The program's disk in memory. -/
/- The program's disk: what its calls do first; names. -/
/- The program's disk: which file a call is about; how many bytes there are. -/
/- The program's disk: bytes that are written, cut, settled. -/
/- The program's disk: the calls on a file's bytes. -/
/- The program's disk: the other calls on a file's bytes; reading. -/
/- The program's disk: changes of names. -/
import Derived.Test.YtkekehngillblaaGreatDP1
import Derived.Laws.Externs
section
set_option linter.unusedVariables false
set_option linter.unusedSimpArgs false
namespace Go.Disk
theorem get_lay {b c : List UInt8} {a : Nat} (h : a ≤ b.length) (j : Nat) : (lay b a c)[j]? = if a ≤ j ∧ j < a + c.length then c[j - a]? else b[j]? := by
  rw [lay, List.getElem?_append, List.length_append, List.length_take, Nat.min_eq_left h]
  by_cases h1 : j < a + c.length
  · rw [if_pos h1, List.getElem?_append, List.length_take, Nat.min_eq_left h]
    by_cases h2 : j < a
    · rw [if_pos h2, if_neg (by omega), List.getElem?_take, if_pos h2]
    · rw [if_neg h2, if_pos ⟨by omega, h1⟩]
  · rw [if_neg h1, if_neg (by omega), List.getElem?_drop]
    congr 1; omega
theorem length_lay {b c : List UInt8} {a : Nat} (h : a ≤ b.length) : (lay b a c).length = max b.length (a + c.length) := by
  rw [lay, List.length_append, List.length_append, List.length_take, List.length_drop]; omega
end Go.Disk
namespace Go.Proofs.YtkekehngillblaaGreat
open Go Go.Vcg Go.Disk

theorem laid_calls {w : World} {o o2 : Option Addr} {l c c2 at_ : Nat} {a : Int} {b by_ : List UInt8} (h : Own w tU8 1 o l c (b.map bV)) (hr : RdB w o2 by_) (ha : a = (at_ : Int)) (hat : at_ ≤ l)
    (hb : l ≤ 2 ^ 38) (hb2 : by_.length ≤ 2 ^ 38) :
    Calls Tryz.prog disk_laid.n #[.slice o l c, .int .i64 a, .slice o2 by_.length c2] w (fun e w' => ∃ o' c', e = .returned (.slice o' (max l (at_ + by_.length)) c') ∧ Own w' tU8 1 o' (max l (at_ + by_.length)) c' ((lay b at_ by_).map bV) ∧
      Vcg.Mod (OB o) w w' ∧ ∀ k, OB o' k → OB o k ∨ w.heap.size ≤ k) := by
  subst ha
  have hbl : b.length = l := by have := h.len; simpa using this
  refine disk_laid.vc _ _ _ _ _ _ _ _ _ ?_
  unfold disk_laid.Vc
  have e1 : IntKind.wrap .i64 ((at_ : Int) + ((by_.length : Nat) : Int)) = ((at_ + by_.length : Nat) : Int) := by rw [wrap_i64_small (by omega) (by omega)]; omega
  have e2 : max 0 (IntKind.wrap .i64 (((at_ + by_.length : Nat) : Int) - ((l : Nat) : Int))) = ((at_ + by_.length - l : Nat) : Int) := by rw [wrap_i64_small (by omega) (by omega)]; omega
  have e3 : max ((l : Nat) : Int) ((at_ + by_.length : Nat) : Int) = ((max l (at_ + by_.length) : Nat) : Int) := by omega
  rw [e1, e2, e3]
  refine (Grow_calls h rfl (by omega)).mono ?_
  rintro _ w1 ⟨o1, c1, rfl, ow, hge, M1, hF1⟩
  refine ⟨_, _, _, rfl, by omega, by omega, ?_⟩
  simp only [Int.toNat_natCast]
  have hr1 := hr.mod' M1
  have hlen := length_lay (c := by_) (show at_ ≤ b.length by omega)
  rcases ow.2 with ⟨rfl, rfl, rfl⟩ | ⟨g, cur, rfl, hB, hlc, hcm, hcs, htk⟩
  · have h0 : at_ = 0 := by omega
    have hby : by_ = [] := List.eq_nil_of_length_eq_zero (by omega)
    subst h0 hby
    have hbn : b = [] := List.eq_nil_of_length_eq_zero (by omega)
    subst hbn
    obtain ⟨i, hi1, hi2⟩ := Option.map_eq_some_iff.1 info_u8_size
    refine ⟨.int .i64 0, w1, ?_, 0, rfl, none, 0, rfl, Own.nil _ _ _, M1.mono (fun _ _ h => h.elim), fun k hk => (OB_none k hk).elim⟩
    cases o2 with
    | none => simp [builtinV, Builtin.copy_, run_underlying und_slU8, Builtin.lenOf, sizeOf, typeInfo, hi1, Builtin.firstCells, subO, goInt]
    | some d =>
      have hcells : (Builtin.firstCells 1 0 (.slice (some d) 0 c2)).run Tryz.prog w1 = .ok #[] w1 := run_firstCells_some w1 1 0 d 0 c2 [] (by simp) (by simp)
      simp [builtinV, Builtin.copy_, run_underlying und_slU8, Builtin.lenOf, sizeOf, typeInfo, hi1, hi2, hcells, subO, goInt]
  · have hsub : ∃ off, subO (some ⟨g, 0, none⟩) c1 at_ 1 = some ⟨g, off, none⟩ ∧ (by_ ≠ [] → off = at_) ∧ off + by_.length ≤ cur.size ∧ off ≤ at_ := by
      rw [subO_one]
      by_cases hca : c1 = at_
      · rw [if_pos hca]
        have hby : by_ = [] := List.eq_nil_of_length_eq_zero (by omega)
        exact ⟨0, rfl, fun h => (h hby).elim, by rw [hby]; simp, Nat.zero_le _⟩
      · rw [if_neg hca]
        exact ⟨at_, by rw [Option.map_some, add_at, Nat.zero_add], fun _ => rfl, by omega, Nat.le_refl _⟩
    obtain ⟨off, hs, hoffat, hfit, _⟩ := hsub
    rw [hs]
    obtain ⟨w2, h1, h2, h3⟩ := copy_blk (P := Tryz.prog) (ty := 3) (tx := tSlU8) (dLen := max l (at_ + by_.length) - at_) (dCap := c1 - at_) (n := by_.length) (o := off) (c := c2) und_slU8 info_u8_size hB hr1
      (by rw [show Nat.min by_.length (max l (at_ + by_.length) - at_) = min by_.length (max l (at_ + by_.length) - at_) from rfl]; omega) hfit
    rw [List.take_length] at h2
    refine ⟨_, w2, h1, _, rfl, _, _, rfl, ⟨?_, .inr ⟨g, _, rfl, h2, by omega, hcm, by rw [size_setsAt, hcs], ?_⟩⟩, ?_, hF1⟩
    · rw [List.length_map, hlen]; omega
    · apply List.ext_getElem?
      intro j
      rw [List.getElem?_take, Nat.mul_one, Array.getElem?_toList, get_setsAt _ _ _ _ (by rw [List.length_map]; exact hfit), List.length_map, List.getElem?_map, List.getElem?_map, get_lay (by omega)]
      have hcur : ∀ j, j < l → cur[j]? = (b[j]?).map bV := fun j hj => by
        rw [← List.getElem?_map, ← htk, List.getElem?_take, if_pos (by omega), Array.getElem?_toList]
      by_cases hj : j < max l (at_ + by_.length)
      · rw [if_pos hj]
        by_cases hby : by_ = []
        · rw [if_neg (by rw [hby]; simp), if_neg (by rw [hby]; simp)]
          refine hcur j ?_
          rw [hby] at hj; simp at hj; omega
        · rw [hoffat hby]
          by_cases h5 : at_ ≤ j ∧ j < at_ + by_.length
          · rw [if_pos h5, if_pos h5]
          · rw [if_neg h5, if_neg h5]
            exact hcur j (by omega)
      · rw [if_neg hj, if_neg (by omega), List.getElem?_eq_none (by omega)]; rfl
    · refine ⟨h3.os.trans M1.os, h3.tape.trans M1.tape, h3.output.trans M1.output, Nat.le_trans M1.size h3.size, fun k hk hn => ?_⟩
      refine (h3.block k (Nat.lt_of_lt_of_le hk M1.size) (fun e => ?_)).trans (M1.block k hk (fun h => h))
      subst e
      rcases hF1 k ⟨_, rfl, rfl⟩ with h5 | h5
      · exact hn h5
      · omega

/-! ### colours -/
inductive DC where
  | disk | names | sure | pend | file (n : Nat) | bytes (n : Nat) | fpend (n : Nat) | froz
  deriving DecidableEq

section
variable {C : Type}
/-- What a disk's calls may change. -/
def SD (γ : DC → C) (c : C) : Prop := ∃ x, x ≠ DC.froz ∧ c = γ x
def NoC : C → Prop := fun _ => False
def fileV (fb : Nat → Nat) (n : Nat) : Value := .pointer (some ⟨fb n, 0, none⟩)
def chgV (fb : Nat → Nat) : Chg → Value
  | .made n f => .iface tMade (.agg #[.string n, fileV fb f])
  | .ren a b => .iface tRenamed (.agg #[.string a, .string b])
  | .rem n => .iface tRemoved (.agg #[.string n])
def PtV (w : World) (lab : Nat → C) (c : C) (v : Value) : Pt → Prop
  | .wr a b => ∃ o k, v = .iface tWritten (.agg #[.int .i64 (a : Int), .slice o b.length k]) ∧ b.length ≤ k ∧ CBy w lab c o b
  | .cut n => v = .iface tCut (.agg #[.int .i64 (n : Int)])
structure Pts (w : World) (lab : Nat → C) (c : C) (vs : List Value) (ps : List Pt) : Prop where
  len : vs.length = ps.length
  at_ : ∀ (i : Nat) (p : Pt), ps[i]? = some p → ∃ v, vs[i]? = some v ∧ PtV w lab c v p
variable {S : C → Prop} {w w' : World} {lab lab' : Nat → C} {c : C}
theorem PtV.stp {v : Value} {p : Pt} (h : PtV w lab c v p) (s : Stp S w lab w' lab') (hs : ¬ S c) : PtV w' lab' c v p := by
  cases p with
  | wr a b => obtain ⟨o, k, h1, h2, h3⟩ := h; exact ⟨o, k, h1, h2, h3.stp s hs⟩
  | cut n => exact h
theorem Pts.stp {vs : List Value} {ps : List Pt} (h : Pts w lab c vs ps) (s : Stp S w lab w' lab') (hs : ¬ S c) : Pts w' lab' c vs ps :=
  ⟨h.len, fun i p hp => by obtain ⟨v, h1, h2⟩ := h.at_ i p hp; exact ⟨v, h1, h2.stp s hs⟩⟩
theorem Pts.nil : Pts w lab c [] [] := ⟨rfl, fun i p h => by simp at h⟩
theorem Pts.snoc {vs : List Value} {ps : List Pt} (h : Pts w lab c vs ps) {v : Value} {p : Pt} (hv : PtV w lab c v p) : Pts w lab c (vs ++ [v]) (ps ++ [p]) := by
  refine ⟨by simp [h.len], fun i q hq => ?_⟩
  by_cases hi : i < ps.length
  · rw [List.getElem?_append_left hi] at hq
    obtain ⟨u, h1, h2⟩ := h.at_ i q hq
    exact ⟨u, by rw [List.getElem?_append_left (by rw [h.len]; exact hi)]; exact h1, h2⟩
  · rw [List.getElem?_append_right (by omega)] at hq
    have : i - ps.length = 0 := by
      have := (List.getElem?_eq_some_iff.1 hq).1
      simp at this; omega
    rw [this] at hq
    cases hq
    refine ⟨v, ?_, hv⟩
    rw [List.getElem?_append_right (by rw [h.len]; omega), h.len, this]; rfl

/-- A file. -/
structure FCells (w : World) (lab : Nat → C) (γ : DC → C) (n b : Nat) (o : Option Addr) (l k : Nat) (so : Option Addr) (sl sc : Nat) (po : Option Addr) (pl pc : Nat) (vs : List Value) (f : Fl) : Prop where
  cells : CB w lab (γ (.file n)) b tFile #[.int .i64 (n : Int), .slice o l k, .slice so sl sc, .slice po pl pc]
  bytes : COw w lab (γ (.bytes n)) tU8 1 o l k (f.bytes.map bV)
  sure : CBy w lab (γ .froz) so f.sure
  slen : sl = f.sure.length
  pend : COw w lab (γ (.fpend n)) tPatch 1 po pl pc vs
  pts : Pts w lab (γ .froz) vs f.pend
def FAt (w : World) (lab : Nat → C) (γ : DC → C) (n b : Nat) (f : Fl) : Prop := ∃ o l k so sl sc po pl pc vs, FCells w lab γ n b o l k so sl sc po pl pc vs f
variable {γ : DC → C}
theorem FCells.stp {n b : Nat} {o : Option Addr} {l k : Nat} {so : Option Addr} {sl sc : Nat} {po : Option Addr} {pl pc : Nat} {vs : List Value} {f : Fl} (h : FCells w lab γ n b o l k so sl sc po pl pc vs f) (s : Stp S w lab w' lab')
    (h1 : ¬ S (γ (.file n))) (h2 : ¬ S (γ (.bytes n))) (h3 : ¬ S (γ (.fpend n))) (h4 : ¬ S (γ .froz)) : FCells w' lab' γ n b o l k so sl sc po pl pc vs f :=
  ⟨h.cells.stp s h1, h.bytes.stp s h2, h.sure.stp s h4, h.slen, h.pend.stp s h3, h.pts.stp s h4⟩
theorem FAt.stp {n b : Nat} {f : Fl} (h : FAt w lab γ n b f) (s : Stp S w lab w' lab') (h1 : ¬ S (γ (.file n))) (h2 : ¬ S (γ (.bytes n))) (h3 : ¬ S (γ (.fpend n))) (h4 : ¬ S (γ .froz)) : FAt w' lab' γ n b f := by
  obtain ⟨o, l, k, so, sl, sc, po, pl, pc, vs, h⟩ := h
  exact ⟨o, l, k, so, sl, sc, po, pl, pc, vs, h.stp s h1 h2 h3 h4⟩
def NamesAt (w : World) (lab : Nat → C) (c : C) (m : Nat) (fb : Nat → Nat) (l : List (Nm × Nat)) : Prop :=
  ∃ es, CM NmGood Value.string w lab c m es ∧ es.Perm (l.map fun x => (x.1, fileV fb x.2))
theorem NamesAt.stp {m : Nat} {fb : Nat → Nat} {l : List (Nm × Nat)} (h : NamesAt w lab c m fb l) (s : Stp S w lab w' lab') (hs : ¬ S c) : NamesAt w' lab' c m fb l := by
  obtain ⟨es, h1, h2⟩ := h
  exact ⟨es, h1.stp s hs, h2⟩

/-- The disk but for its own block. -/
structure DRest (w : World) (lab : Nat → C) (γ : DC → C) (mN mS : Nat) (po : Option Addr) (pl pc : Nat) (fb : Nat → Nat) (names sure : List (Nm × Nat)) (pend : List Chg) (files : Nat) (fs : Nat → Fl) : Prop where
  names : NamesAt w lab (γ .names) mN fb names
  sure : NamesAt w lab (γ .sure) mS fb sure
  pend : COw w lab (γ .pend) tChange 1 po pl pc (pend.map (chgV fb))
  files : ∀ n, n < files → FAt w lab γ n (fb n) (fs n)
theorem DRest.stp {mN mS : Nat} {po : Option Addr} {pl pc : Nat} {fb : Nat → Nat} {names sure : List (Nm × Nat)} {pend : List Chg} {files : Nat} {fs : Nat → Fl} (h : DRest w lab γ mN mS po pl pc fb names sure pend files fs)
    (s : Stp S w lab w' lab') (hs : ∀ x, x ≠ DC.disk → ¬ S (γ x)) : DRest w' lab' γ mN mS po pl pc fb names sure pend files fs :=
  ⟨h.names.stp s (hs _ (by simp)), h.sure.stp s (hs _ (by simp)), h.pend.stp s (hs _ (by simp)), fun n hn => (h.files n hn).stp s (hs _ (by simp)) (hs _ (by simp)) (hs _ (by simp)) (hs _ (by simp))⟩
def diskA (cap : Int) (mN mS : Nat) (po : Option Addr) (pl pc files count : Nat) (fail halt : Int) (down : Bool) : Array Value :=
  #[.int .i64 cap, .map (some mN), .map (some mS), .slice po pl pc, .int .i64 (files : Int), .int .i64 (count : Int), .int .i64 fail, .int .i64 halt, .bool down]
def DAt (w : World) (lab : Nat → C) (γ : DC → C) (d : Nat) (σ : Dk) : Prop :=
  ∃ mN mS po pl pc fb, CB w lab (γ .disk) d tDisk (diskA σ.cap mN mS po pl pc σ.files σ.count σ.fail σ.halt σ.down) ∧ DRest w lab γ mN mS po pl pc fb σ.names σ.sure σ.pend σ.files σ.fs
theorem DAt.stp {d : Nat} {σ : Dk} (h : DAt w lab γ d σ) (s : Stp S w lab w' lab') (hs : ∀ x, ¬ S (γ x)) : DAt w' lab' γ d σ := by
  obtain ⟨mN, mS, po, pl, pc, fb, h1, h2⟩ := h
  exact ⟨mN, mS, po, pl, pc, fb, h1.stp s (hs _), h2.stp s (fun x _ => hs x)⟩
/-- What a call leaves: a disk in a state, and what lies beside it untouched. -/
def DRes (γ : DC → C) (d : Nat) (w : World) (lab : Nat → C) (w' : World) (σ : Dk) : Prop := ∃ lab', DAt w' lab' γ d σ ∧ Stp (SD γ) w lab w' lab'
theorem DAt.res {d : Nat} {σ : Dk} (h : DAt w lab γ d σ) (M : Vcg.Mod NoB w w') : DRes γ d w lab w' σ := by
  have s : Stp NoC w lab w' (ext lab w.heap.size (γ .froz)) := Stp.of_nob M _
  exact ⟨_, h.stp s (fun _ h => h), s.mono (fun _ h => h.elim)⟩
theorem DRes.then {d : Nat} {σ' : Dk} {w'' : World} {lab1 : Nat → C} (s : Stp (SD γ) w lab w' lab1) (h : DRes γ d w' lab1 w'' σ') : DRes γ d w lab w'' σ' := by
  obtain ⟨lab', h1, h2⟩ := h
  exact ⟨lab', h1, s.trans h2⟩
theorem SD.of {x : DC} (h : x ≠ .froz) : SD γ (γ x) := ⟨x, h, rfl⟩
end
end Go.Proofs.YtkekehngillblaaGreat
end

section
set_option linter.unusedVariables false
set_option linter.unusedSimpArgs false
namespace Go.Proofs.YtkekehngillblaaGreat
open Go Go.Vcg Go.Disk
theorem calls_gen {P : Program} {f : FuncId} {args : Array Value} {w : World} {Post : Ending → World → Prop} (H : ∀ R : Ending → World → Prop, (∀ e w', Post e w' → R e w') → Calls P f args w R) : Calls P f args w Post := H _ fun _ _ h => h
section
variable {C : Type} {w w' : World} {lab : Nat → C} {γ : DC → C} {d : Nat} {σ : Dk}
variable {mN mS : Nat} {po : Option Addr} {pl pc : Nat} {fb : Nat → Nat} {names sure : List (Nm × Nat)} {pend : List Chg} {files : Nat} {fs : Nat → Fl}

theorem dset (hγ : ∀ a b, γ a = γ b → a = b) {cs : Array Value} (B : CB w lab (γ .disk) d tDisk cs) (Rt : DRest w lab γ mN mS po pl pc fb names sure pend files fs) (i : Nat) (v : Value) {cs' : Array Value} (h : cs.setIfInBounds i v = cs') :
    CB (w.setCell ⟨d, i, none⟩ v) lab (γ .disk) d tDisk cs' ∧ DRest (w.setCell ⟨d, i, none⟩ v) lab γ mN mS po pl pc fb names sure pend files fs ∧ Stp (SD γ) w lab (w.setCell ⟨d, i, none⟩ v) lab := by
  subst h
  have s1 : Stp (· = γ .disk) w lab (w.setCell ⟨d, i, none⟩ v) lab := Stp.setCell B.clr
  exact ⟨B.set i v, Rt.stp s1 (fun x hx h => hx (hγ _ _ h)), s1.mono (fun c h => h ▸ SD.of (by simp))⟩

/-- Numbers that a disk counts with. -/
structure Nums (σ : Dk) : Prop where
  count : σ.count < 2 ^ 39
  fail : 0 ≤ σ.fail ∧ σ.fail < 9223372036854775808
  halt : -1 ≤ σ.halt ∧ σ.halt < 9223372036854775808

theorem begins_calls (hγ : ∀ a b, γ a = γ b → a = b) (h : DAt w lab γ d σ) (hn : Nums σ) :
    Calls Tryz.prog disk_Disk_begins.n #[.pointer (some ⟨d, 0, none⟩)] w (fun e w' => e = .returned (.int .i64 (begins σ).2) ∧ DRes γ d w lab w' (begins σ).1) := by
  obtain ⟨mN, mS, po, pl, pc, fb, B, Rt⟩ := h
  have hc := hn.count
  have hf := hn.fail
  have hh := hn.halt
  refine calls_gen fun R hR => disk_Disk_begins.vc _ _ _ ?_
  unfold disk_Disk_begins.Vc
  simp only [add_at, Nat.zero_add]
  refine ⟨_, B.blk.rd1 rfl, B.blk.canSet (by simp [diskA]) rfl, ?_⟩
  rintro _ rfl
  obtain ⟨B1, R1, S1⟩ := dset hγ B Rt 5 (.int .i64 (IntKind.wrap .i64 ((σ.count : Int) + 1))) (cs' := diskA σ.cap mN mS po pl pc σ.files (σ.count + 1) σ.fail σ.halt σ.down) (by
    rw [wrap_i64_small (by omega) (by omega)]; rfl)
  generalize w.setCell ⟨d, 5, none⟩ (.int .i64 (IntKind.wrap .i64 ((σ.count : Int) + 1))) = w1 at *
  refine ⟨_, B1.blk.rd1 rfl, _, B1.blk.rd1 rfl, B1.blk.canSet (by simp [diskA]) rfl, ?_⟩
  rintro _ rfl
  rw [show IntKind.wrap .i64 (σ.fail - 1) = σ.fail - 1 from wrap_i64_small (by omega) (by omega)]
  obtain ⟨B2, R2, S2⟩ := dset hγ B1 R1 6 (.int .i64 (max (σ.fail - 1) 0)) (cs' := diskA σ.cap mN mS po pl pc σ.files (σ.count + 1) (max (σ.fail - 1) 0) σ.halt σ.down) rfl
  have S02 := S1.trans S2
  generalize w1.setCell ⟨d, 6, none⟩ (.int .i64 (max (σ.fail - 1) 0)) = w2 at *
  refine ⟨_, B2.blk.rd1 rfl, fun h0 => ?_, fun h0 => ?_⟩
  · refine ⟨B2.blk.canSet (by simp [diskA]) rfl, ?_⟩
    rintro _ rfl
    obtain ⟨B3, R3, S3⟩ := dset hγ B2 R2 8 (.bool true) (cs' := diskA σ.cap mN mS po pl pc σ.files (σ.count + 1) (max (σ.fail - 1) 0) σ.halt true) rfl
    exact hR _ _ ⟨by simp only [begins, if_pos h0], lab, by simp only [begins, if_pos h0]; exact ⟨_, _, _, _, _, _, B3, R3⟩, S02.trans S3⟩
  · refine ⟨_, B2.blk.rd1 rfl, fun hd => ?_, fun hd => ?_⟩
    · exact hR _ _ ⟨by simp only [begins, if_neg h0, if_pos hd], lab, by simp only [begins, if_neg h0, if_pos hd]; exact ⟨_, _, _, _, _, _, B2, R2⟩, S02⟩
    · have hd' : ¬ σ.down = true := by rw [hd]; simp
      refine ⟨fun h1 => ?_, fun h1 => ?_⟩ <;> refine ⟨_, B2.blk.rd1 rfl, B2.blk.canSet (by simp [diskA]) rfl, ?_⟩ <;> rintro _ rfl <;>
        rw [show IntKind.wrap .i64 (σ.halt - 1) = σ.halt - 1 from wrap_i64_small (by omega) (by omega)] <;>
        obtain ⟨B3, R3, S3⟩ := dset hγ B2 R2 7 (.int .i64 (max (σ.halt - 1) (-1))) (cs' := diskA σ.cap mN mS po pl pc σ.files (σ.count + 1) (max (σ.fail - 1) 0) (max (σ.halt - 1) (-1)) σ.down) rfl
      · exact hR _ _ ⟨by simp only [begins, if_neg h0, if_neg hd', if_pos h1], lab, by simp only [begins, if_neg h0, if_neg hd']; exact ⟨_, _, _, _, _, _, B3, R3⟩, S02.trans S3⟩
      · exact hR _ _ ⟨by simp only [begins, if_neg h0, if_neg hd', if_neg h1], lab, by simp only [begins, if_neg h0, if_neg hd']; exact ⟨_, _, _, _, _, _, B3, R3⟩, S02.trans S3⟩

theorem Fail_calls (hγ : ∀ a b, γ a = γ b → a = b) (h : DAt w lab γ d σ) (n : Int) :
    Calls Tryz.prog disk_Disk_Fail.n #[.pointer (some ⟨d, 0, none⟩), .int .i64 n] w (fun e w' => e = .returned (.tuple #[]) ∧ DRes γ d w lab w' (failAt σ n)) := by
  obtain ⟨mN, mS, po, pl, pc, fb, B, Rt⟩ := h
  refine calls_gen fun R hR => disk_Disk_Fail.vc _ _ _ _ ?_
  unfold disk_Disk_Fail.Vc
  simp only [add_at, Nat.zero_add]
  refine ⟨B.blk.canSet (by simp [diskA]) rfl, ?_⟩
  rintro _ rfl
  obtain ⟨B1, R1, S1⟩ := dset hγ B Rt 6 (.int .i64 (max n 0)) (cs' := diskA σ.cap mN mS po pl pc σ.files σ.count (max n 0) σ.halt σ.down) rfl
  exact hR _ _ ⟨rfl, lab, ⟨_, _, _, _, _, _, B1, R1⟩, S1⟩
theorem Halt_calls (hγ : ∀ a b, γ a = γ b → a = b) (h : DAt w lab γ d σ) (n : Int) :
    Calls Tryz.prog disk_Disk_Halt.n #[.pointer (some ⟨d, 0, none⟩), .int .i64 n] w (fun e w' => e = .returned (.tuple #[]) ∧ DRes γ d w lab w' (haltAt σ n)) := by
  obtain ⟨mN, mS, po, pl, pc, fb, B, Rt⟩ := h
  refine calls_gen fun R hR => disk_Disk_Halt.vc _ _ _ _ ?_
  unfold disk_Disk_Halt.Vc
  simp only [add_at, Nat.zero_add]
  refine ⟨B.blk.canSet (by simp [diskA]) rfl, ?_⟩
  rintro _ rfl
  obtain ⟨B1, R1, S1⟩ := dset hγ B Rt 7 (.int .i64 (max n (-1))) (cs' := diskA σ.cap mN mS po pl pc σ.files σ.count σ.fail (max n (-1)) σ.down) rfl
  exact hR _ _ ⟨rfl, lab, ⟨_, _, _, _, _, _, B1, R1⟩, S1⟩

/-! ### names -/
theorem assoc_perm {K V : Type} [DecidableEq K] {k : K} {l l' : List (K × V)} (hp : l.Perm l') (hn : (l.map Prod.fst).Nodup) : assoc k l = assoc k l' := by
  have hn' : (l'.map Prod.fst).Nodup := ((hp.map Prod.fst).nodup_iff).1 hn
  by_cases h : ∃ x ∈ l', x.1 = k
  · obtain ⟨x, hx, hk⟩ := h
    obtain ⟨j, hj⟩ := List.getElem?_of_mem hx
    obtain ⟨i, hi⟩ := List.getElem?_of_mem (hp.mem_iff.2 hx)
    rw [assoc_at hn hi hk, assoc_at hn' hj hk]
  · have h2 : ∀ x ∈ l', x.1 ≠ k := fun x hx e => h ⟨x, hx, e⟩
    rw [assoc_none (fun x hx => h2 x (hp.mem_iff.1 hx)), assoc_none h2]
theorem assoc_map {K V W : Type} [DecidableEq K] {k : K} (f : V → W) : ∀ (l : List (K × V)), assoc k (l.map fun x => (x.1, f x.2)) = (assoc k l).map f
  | [] => rfl
  | x :: r => by
    simp only [List.map_cons, assoc]
    split
    · rfl
    · exact assoc_map f r
theorem assoc_some {K V : Type} [DecidableEq K] {k : K} {v : V} : ∀ {l : List (K × V)}, assoc k l = some v → (k, v) ∈ l
  | [], h => by cases h
  | x :: r, h => by
    rw [assoc] at h
    split at h
    · rename_i hk
      cases h
      rw [← hk]
      exact List.mem_cons_self ..
    · exact List.mem_cons_of_mem _ (assoc_some h)

theorem NamesAt.look {m : Nat} {c : C} {l : List (Nm × Nat)} (h : NamesAt w lab c m fb l) {s : Nm} (hs : NmGood s) (ok : Bool) :
    (Instr.lookup tNaming (.map (some m)) (.string s) ok).run Tryz.prog w = .ok (if ok then .tuple #[((assoc s l).map (fileV fb)).getD (.pointer none), .bool (assoc s l).isSome] else ((assoc s l).map (fileV fb)).getD (.pointer none)) w := by
  obtain ⟨es, h1, h2⟩ := h
  obtain ⟨e, he, hz⟩ := und_naming
  have h3 := h1.map.look keyEnc he (hz w) hs ok
  have h4 : assoc s es = (assoc s l).map (fileV fb) := by rw [assoc_perm h2 h1.map.nodup, assoc_map (fileV fb) l]
  rw [h4] at h3
  rw [h3]
  cases assoc s l <;> rfl

theorem named_calls (h : DAt w lab γ d σ) (s : Nm) {o : Option Addr} {c : Nat} (l : List Nm) (hl : Seconds w o l) :
    Calls Tryz.prog disk_Disk_named.n #[.pointer (some ⟨d, 0, none⟩), .string s, .slice o l.length c] w (fun e w' => DRes γ d w lab w' σ ∧
      ((right s = true → l.all right = true → ∀ f, assoc s σ.names = some f → ∃ mN mS po pl pc fb, CB w lab (γ .disk) d tDisk (diskA σ.cap mN mS po pl pc σ.files σ.count σ.fail σ.halt σ.down) ∧ DRest w lab γ mN mS po pl pc fb σ.names σ.sure σ.pend σ.files σ.fs ∧ e = .returned (.tuple #[fileV fb f, .int .i64 0]) ∧ Vcg.Mod NoB w w') ∧
       (right s = true → l.all right = true → assoc s σ.names = none → e = .returned (.tuple #[.pointer none, .int .i64 13])) ∧
       (¬ (right s = true ∧ l.all right = true) → e = .returned (.tuple #[.pointer none, .int .i64 11])))) := by
  have h' := h
  obtain ⟨mN, mS, po, pl, pc, fb, B, Rt⟩ := h
  refine calls_gen fun R hR => disk_Disk_named.vc _ _ _ _ _ _ _ ?_
  unfold disk_Disk_named.Vc
  simp only [add_at, Nat.zero_add]
  refine (right_calls w s).mono ?_
  rintro _ w1 ⟨rfl, M1⟩
  refine ⟨_, rfl, fun hr => hR _ _ ⟨h'.res M1, fun h _ => (by rw [h] at hr; cases hr), fun h _ => (by rw [h] at hr; cases hr), fun _ => rfl⟩, fun hr => ?_⟩
  refine (contains_calls w1 l (hl.mod M1)).mono ?_
  rintro _ w2 ⟨rfl, M2⟩
  have M := M1.none_trans M2
  refine ⟨_, rfl, fun ha => ?_, fun ha => ?_⟩
  · have ha : l.all right = false := by simpa using ha
    exact hR _ _ ⟨h'.res M, fun _ h => (by rw [h] at ha; cases ha), fun _ h => (by rw [h] at ha; cases ha), fun _ => rfl⟩
  · have ha : l.all right = true := by simpa using ha
    have sN : Stp NoC w lab w2 (ext lab w.heap.size (γ .froz)) := Stp.of_nob M _
    have B2 := B.stp sN (fun h => h)
    have R2 := Rt.stp sN (fun _ _ h => h)
    refine ⟨_, B2.blk.rd1 rfl, _, R2.names.look (right_good hr) true, ?_⟩
    simp only [if_true]
    cases hf : assoc s σ.names with
    | none =>
      refine ⟨none, false, rfl, fun _ => hR _ _ ⟨h'.res M, fun _ _ f hf' => (by rw [hf] at hf'; cases hf'), fun _ _ _ => rfl, fun h => (h ⟨hr, ha⟩).elim⟩, fun h => by cases h⟩
    | some f =>
      refine ⟨some ⟨fb f, 0, none⟩, true, rfl, (fun h => by cases h), fun _ => hR _ _ ⟨h'.res M, fun _ _ f' hf' => ?_, fun _ _ h => (by rw [hf] at h; cases h), fun h => (h ⟨hr, ha⟩).elim⟩⟩
      rw [hf] at hf'
      cases hf'
      exact ⟨mN, mS, po, pl, pc, fb, B, Rt, rfl, M⟩
end
end Go.Proofs.YtkekehngillblaaGreat
end

section
set_option linter.unusedVariables false
set_option linter.unusedSimpArgs false
namespace Go.Proofs.YtkekehngillblaaGreat
open Go Go.Vcg Go.Disk
section
variable {C : Type} {w w' : World} {lab : Nat → C} {γ : DC → C} {d : Nat} {σ : Dk}
variable {mN mS : Nat} {po : Option Addr} {pl pc : Nat} {fb : Nat → Nat} {names sure : List (Nm × Nat)} {pend : List Chg} {files : Nat} {fs : Nat → Fl}

/-- A file was found: v points to it. -/
def Opened (γ : DC → C) (d : Nat) (w : World) (lab : Nat → C) (w' : World) (σ : Dk) (f : Nat) (v : Value) : Prop :=
  ∃ lab' mN mS po pl pc fb, CB w' lab' (γ .disk) d tDisk (diskA σ.cap mN mS po pl pc σ.files σ.count σ.fail σ.halt σ.down) ∧ DRest w' lab' γ mN mS po pl pc fb σ.names σ.sure σ.pend σ.files σ.fs ∧ v = fileV fb f ∧ Stp (SD γ) w lab w' lab'
def chkN (σ : Dk) (s : Nm) (l : List Nm) : Int := if right s = true ∧ l.all right = true then (if (assoc s σ.names).isSome then 0 else 13) else 11
def chk (σ : Dk) (s : Nm) (l : List Nm) : Int := if (begins σ).2 = 0 then chkN (begins σ).1 s l else (begins σ).2
theorem chkN_nil (σ : Dk) (s : Nm) : chkN σ s [] = (named σ s).2 := by
  unfold chkN named
  by_cases h : right s = true
  · rw [if_pos ⟨h, rfl⟩, if_pos h]
    cases assoc s σ.names <;> rfl
  · rw [if_neg (fun g => h g.1), if_neg h]
theorem named_fst {σ : Dk} {s : Nm} {f : Nat} (h : right s = true) (hf : assoc s σ.names = some f) : (named σ s).1 = f := by
  unfold named; rw [if_pos h, hf]
theorem named_zero {σ : Dk} {s : Nm} (h : (named σ s).2 = 0) : right s = true ∧ assoc s σ.names = some (named σ s).1 := by
  unfold named at h ⊢
  split at h
  · rename_i hr
    split at h
    · rename_i f hf
      rw [if_pos hr, hf]
      exact ⟨hr, rfl⟩
    · cases h
  · cases h

/-- What a call that looks for a file answers. -/
def Found (γ : DC → C) (d : Nat) (w : World) (lab : Nat → C) (σ : Dk) (s : Nm) (n0 : Int) (e : Ending) (w' : World) : Prop :=
  ∃ o n, e = .returned (.tuple #[.pointer o, .int .i64 n]) ∧ n = n0 ∧ DRes γ d w lab w' σ ∧ (n = 0 → ∃ f, assoc s σ.names = some f ∧ right s = true ∧ Opened γ d w lab w' σ f (.pointer o))

theorem named_calls' (h : DAt w lab γ d σ) (s : Nm) {o : Option Addr} {c : Nat} (l : List Nm) (hl : Seconds w o l) :
    Calls Tryz.prog disk_Disk_named.n #[.pointer (some ⟨d, 0, none⟩), .string s, .slice o l.length c] w (Found γ d w lab σ s (chkN σ s l)) := by
  refine (named_calls h s l hl).mono ?_
  rintro e w' ⟨h1, h2, h3, h4⟩
  unfold chkN
  by_cases hr : right s = true ∧ l.all right = true
  · rw [if_pos hr]
    cases hf : assoc s σ.names with
    | none =>
      refine ⟨none, 13, h3 hr.1 hr.2 hf, rfl, h1, fun h => by cases h⟩
    | some f =>
      obtain ⟨mN, mS, po, pl, pc, fb, B, Rt, he, M⟩ := h2 hr.1 hr.2 f hf
      refine ⟨some ⟨fb f, 0, none⟩, 0, he, rfl, h1, fun _ => ⟨f, hf, hr.1, ?_⟩⟩
      have sN : Stp NoC w lab w' (ext lab w.heap.size (γ .froz)) := Stp.of_nob M _
      exact ⟨_, mN, mS, po, pl, pc, fb, B.stp sN (fun h => h), Rt.stp sN (fun _ _ h => h), rfl, sN.mono (fun _ h => h.elim)⟩
  · rw [if_neg hr]
    exact ⟨none, 11, h4 hr, rfl, h1, fun h => by cases h⟩

theorem Found.then {lab1 : Nat → C} {w'' : World} {s : Nm} {n0 : Int} {e : Ending} (st : Stp (SD γ) w lab w' lab1) (h : Found γ d w' lab1 σ s n0 e w'') : Found γ d w lab σ s n0 e w'' := by
  obtain ⟨o, n, he, hn, hD, hf⟩ := h
  refine ⟨o, n, he, hn, hD.then st, fun h0 => ?_⟩
  obtain ⟨f, h1, h2, lab2, mN, mS, po, pl, pc, fb, B, Rt, hv, s2⟩ := hf h0
  exact ⟨f, h1, h2, lab2, mN, mS, po, pl, pc, fb, B, Rt, hv, st.trans s2⟩

theorem changing_calls (hγ : ∀ a b, γ a = γ b → a = b) (h : DAt w lab γ d σ) (hn : Nums σ) (s : Nm) {o : Option Addr} {c : Nat} (l : List Nm) (hl : Seconds w o l) (hoff : ∀ x, o = some x → l ≠ [] → ¬ SD γ (lab x.block)) :
    Calls Tryz.prog disk_Disk_changing.n #[.pointer (some ⟨d, 0, none⟩), .string s, .slice o l.length c] w (Found γ d w lab (begins σ).1 s (chk σ s l)) := by
  refine disk_Disk_changing.vc _ _ _ _ _ _ _ ?_
  unfold disk_Disk_changing.Vc
  refine (begins_calls hγ h hn).mono ?_
  rintro _ w1 ⟨rfl, lab1, D1, s1⟩
  unfold chk
  refine ⟨_, rfl, fun hne => ?_, fun h0 => ?_⟩
  · rw [if_neg hne]
    exact ⟨none, _, rfl, rfl, ⟨lab1, D1, s1⟩, fun h => (hne h).elim⟩
  · rw [if_pos h0]
    have hl1 : Seconds w1 o l := by
      match l, hl with
      | [], _ => trivial
      | [x], ⟨b, t, ho, B⟩ =>
        have hc := hoff _ ho (by simp)
        exact ⟨b, t, ho, (s1.block b B.lt hc).trans B⟩
      | _ :: _ :: _, h => exact h.elim
    refine (named_calls' D1 s l hl1).mono ?_
    intro e w2 hF
    have hF' := hF.then s1
    obtain ⟨o, n, rfl, hn', hD, hf⟩ := hF'
    exact ⟨_, _, rfl, o, n, rfl, hn', hD, hf⟩

theorem asked_calls (h : DAt w lab γ d σ) (s : Nm) :
    Calls Tryz.prog disk_Disk_asked.n #[.pointer (some ⟨d, 0, none⟩), .string s] w (Found γ d w lab σ s (asked σ s).2) := by
  have h' := h
  obtain ⟨mN, mS, po, pl, pc, fb, B, Rt⟩ := h
  refine calls_gen fun R hR => disk_Disk_asked.vc _ _ _ _ ?_
  unfold disk_Disk_asked.Vc
  simp only [add_at, Nat.zero_add]
  refine ⟨_, B.blk.rd1 rfl, fun hd => hR _ _ ?_, fun hd => ?_⟩
  · unfold asked
    rw [if_pos hd]
    exact ⟨none, 17, rfl, rfl, h'.res (Mod.refl _), fun h => by cases h⟩
  · have hd' : ¬ σ.down = true := by rw [hd]; simp
    refine (named_calls' h' s (o := none) (c := 0) [] trivial).mono ?_
    intro e w2 hF
    rw [chkN_nil] at hF
    obtain ⟨o, n, rfl, hn', hD, hf⟩ := hF
    refine ⟨_, _, rfl, hR _ _ ?_⟩
    unfold asked
    rw [if_neg hd']
    exact ⟨o, n, rfl, hn', hD, hf⟩

/-! ### how many bytes -/
theorem nodup_lt : ∀ (n : Nat) (l : List Nat), l.Nodup → (∀ x ∈ l, x < n) → l.length ≤ n
  | 0, [], _, _ => Nat.le_refl _
  | 0, x :: _, _, h => absurd (h x (List.mem_cons_self ..)) (Nat.not_lt_zero _)
  | n + 1, l, hd, h => by
    have h1 := nodup_lt n (l.erase n) (hd.erase n) (fun x hx => by
      have h2 := (hd.mem_erase_iff).1 hx
      have := h x h2.2
      omega)
    have h2 : l.length ≤ (l.erase n).length + 1 := by rw [List.length_erase]; split <;> omega
    omega
theorem Used_calls (h : DAt w lab γ d σ) (hk : Ok σ) :
    Calls Tryz.prog disk_Disk_Used.n #[.pointer (some ⟨d, 0, none⟩)] w (fun e w' => e = .returned (.int .i64 (used σ : Int)) ∧ Vcg.Mod NoB w w') := by
  obtain ⟨mN, mS, po, pl, pc, fb, B, Rt⟩ := h
  refine calls_gen fun R hR => disk_Disk_Used.vc _ _ _ ?_
  unfold disk_Disk_Used.Vc
  simp only [add_at, Nat.zero_add]
  obtain ⟨es, hm, hp⟩ := Rt.names
  obtain ⟨e, he, hz⟩ := und_naming
  obtain ⟨ob, hr, hI⟩ := hm.map.range he
  refine ⟨_, B.blk.rd1 rfl, _, _, hr, ?_⟩
  have M1 := Mod.alloc (S := NoB) w ob
  generalize hw1 : w.alloc ob = w1 at *
  have hs1 : w1.heap.size = w.heap.size + 1 := by rw [← hw1]; simp
  generalize hit : w.heap.size = it at *
  -- the bytes of the entries that are left
  let rest : List (Nm × Nat) → Nat := fun t => (t.map fun x => (σ.fs x.2).bytes.length).sum
  have hlen : ∀ x ∈ σ.names, (σ.fs x.2).bytes.length ≤ most := fun x hx => (hk.size x.2 (hk.names.files x hx)).2
  have hcount : σ.names.length ≤ 1048576 := by
    have h1 := nodup_lt σ.files (σ.names.map Prod.snd) hk.names.vals (fun x hx => by obtain ⟨y, hy, rfl⟩ := List.mem_map.1 hx; exact hk.names.files y hy)
    rw [List.length_map] at h1
    have := hk.files; omega
  have hle : ∀ t : List (Nm × Nat), (∀ x ∈ t, x ∈ σ.names) → rest t ≤ t.length * 67108864 := by
    intro t ht
    induction t with
    | nil => simp [rest]
    | cons x t ih =>
      have h1 := ih (fun y hy => ht y (List.mem_cons_of_mem _ hy))
      have h2 := hlen x (ht x (List.mem_cons_self ..))
      simp only [most] at h2
      simp only [rest, List.map_cons, List.sum_cons, List.length_cons] at h1 ⊢
      omega
  have htot : rest σ.names ≤ 2 ^ 46 := by have := hle σ.names (fun _ h => h); omega
  refine ⟨fun n w' => ∃ (n' : Nat) (t : List (Nm × Nat)) (es' : List (Nm × Value)), n = (n' : Int) ∧ es'.Perm (t.map fun x => (x.1, fileV fb x.2)) ∧ IterAt Value.string w' it mN es' ∧ Vcg.Mod NoB w w' ∧ n' + rest t = rest σ.names ∧ ∀ x ∈ t, x ∈ σ.names,
    fun n w' => leftN w' mN it, ⟨0, σ.names, es, rfl, hp, hI, M1, by omega, fun _ h => h⟩, ?_⟩
  rintro _ _ w2 ⟨n', t, es', rfl, hp', hI', M', hsum, hmem⟩
  rcases hI'.next 0 with ⟨hnil, hrun⟩ | ⟨k, v, es2, w3, hperm, hrun, hI2, M3, hent⟩
  · subst hnil
    have ht : t = [] := by
      have := hp'.length_eq
      simp at this
      exact List.eq_nil_of_length_eq_zero this.symm
    subst ht
    refine ⟨_, _, hrun, .bool false, rfl, false, rfl, (fun h => by cases h), fun _ => hR _ _ ⟨?_, M'⟩⟩
    have : n' = used σ := by simp only [rest, List.map_nil, List.sum_nil, Nat.add_zero] at hsum; exact hsum
    rw [this]
  · refine ⟨_, _, hrun, .bool true, rfl, true, rfl, fun _ => ?_, (fun h => by cases h)⟩
    refine ⟨_, _, hent, _, rfl, ?_⟩
    -- the file that it is
    have hkv : (k, v) ∈ t.map fun x => (x.1, fileV fb x.2) := hp'.mem_iff.1 (hperm.mem_iff.2 (List.mem_cons_self ..))
    obtain ⟨j, hj, hjx⟩ := List.getElem_of_mem hkv
    have hjt : j < t.length := by simpa using hj
    have hx : (t[j].1, fileV fb t[j].2) = (k, v) := by rw [← hjx]; simp
    have htp := perm_erase t j hjt
    have hxm := hmem t[j] (List.getElem_mem hjt)
    have hfl := hk.names.files _ hxm
    generalize hxx : t[j] = x at *
    cases hx
    have hes2 : es2.Perm ((t.eraseIdx j).map fun x => (x.1, fileV fb x.2)) := by
      have h1 := hperm.symm.trans (hp'.trans (htp.map fun x => (x.1, fileV fb x.2)))
      exact List.Perm.cons_inv h1
    have hM3 : Vcg.Mod NoB w w3 := M'.trans M3 (fun i hi h => by simp only [hit] at hi; omega)
    have hF : ∃ o l k, w3.cell? ⟨fb x.2, 1, none⟩ = some (.slice o l k) ∧ l = (σ.fs x.2).bytes.length := by
      obtain ⟨o, l, k, so, sl, sc, po, pl, pc, vs, hf⟩ := Rt.files x.2 hfl
      exact ⟨o, l, k, (hf.cells.blk.mod' hM3).rd1 rfl, by have := hf.bytes.own.len; simpa using this.symm⟩
    obtain ⟨o, l, kk, hc, hl⟩ := hF
    have hrest : rest t = (σ.fs x.2).bytes.length + rest (t.eraseIdx j) := by
      have := (htp.map fun x => (σ.fs x.2).bytes.length).sum_nat
      simpa [rest] using this
    have h1 := hI2.left
    have h2 := hI'.left
    have h3 := hperm.length_eq
    have hb : n' + (σ.fs x.2).bytes.length ≤ 2 ^ 46 := by omega
    refine ⟨some ⟨fb x.2, 0, none⟩, rfl, _, rfl, o, l, kk, ?_, ⟨n' + (σ.fs x.2).bytes.length, t.eraseIdx j, es2, ?_, hes2, hI2, hM3, by omega, fun y hy => hmem y ((List.eraseIdx_sublist _ _).subset hy)⟩, ?_⟩
    · rw [add_at, Nat.zero_add]; exact hc
    · rw [hl, wrap_i64_small (by omega) (by omega)]; omega
    · show leftN w3 mN it < leftN w2 mN it
      rw [List.length_cons] at h3
      omega
end
end Go.Proofs.YtkekehngillblaaGreat
end

section
set_option linter.unusedVariables false
set_option linter.unusedSimpArgs false
namespace Go.Proofs.YtkekehngillblaaGreat
open Go Go.Vcg Go.Disk
section
variable {C : Type} {w w' : World} {lab lab' : Nat → C} {γ : DC → C} {d : Nat} {σ : Dk}
variable {mN mS : Nat} {po : Option Addr} {pl pc : Nat} {fb : Nat → Nat} {names sure : List (Nm × Nat)} {pend : List Chg} {files : Nat} {fs : Nat → Fl}

/-- The colours of one file. -/
def Fs (γ : DC → C) (n : Nat) (c : C) : Prop := c = γ (.file n) ∨ c = γ (.bytes n) ∨ c = γ (.fpend n)
theorem Fs.sd {n : Nat} {c : C} (h : Fs γ n c) : SD γ c := by
  rcases h with rfl | rfl | rfl <;> exact SD.of (by simp)
theorem DRest.setF (hγ : ∀ a b, γ a = γ b → a = b) {n : Nat} {f : Fl} (Rt : DRest w lab γ mN mS po pl pc fb names sure pend files fs) (s : Stp (Fs γ n) w lab w' lab') (hf : FAt w' lab' γ n (fb n) f) :
    DRest w' lab' γ mN mS po pl pc fb names sure pend files (fun k => if k = n then f else fs k) := by
  have hn : ∀ x, x ≠ DC.file n → x ≠ DC.bytes n → x ≠ DC.fpend n → ¬ Fs γ n (γ x) := by
    rintro x h1 h2 h3 (h | h | h)
    · exact h1 (hγ _ _ h)
    · exact h2 (hγ _ _ h)
    · exact h3 (hγ _ _ h)
  refine ⟨Rt.names.stp s (hn _ (by simp) (by simp) (by simp)), Rt.sure.stp s (hn _ (by simp) (by simp) (by simp)), Rt.pend.stp s (hn _ (by simp) (by simp) (by simp)), fun k hk => ?_⟩
  by_cases h : k = n
  · subst h; simp only [if_true]; exact hf
  · simp only [h, if_false]
    exact (Rt.files k hk).stp s (hn _ (by simp [h]) (by simp) (by simp)) (hn _ (by simp) (by simp [h]) (by simp)) (hn _ (by simp) (by simp) (by simp [h])) (hn _ (by simp) (by simp) (by simp))
theorem DAt.setF (hγ : ∀ a b, γ a = γ b → a = b) {n : Nat} {f : Fl} (B : CB w lab (γ .disk) d tDisk (diskA σ.cap mN mS po pl pc σ.files σ.count σ.fail σ.halt σ.down)) (Rt : DRest w lab γ mN mS po pl pc fb σ.names σ.sure σ.pend σ.files σ.fs)
    (s : Stp (Fs γ n) w lab w' lab') (hf : FAt w' lab' γ n (fb n) f) : DAt w' lab' γ d (Disk.setF σ n f) := by
  refine ⟨mN, mS, po, pl, pc, fb, B.stp s ?_, Rt.setF hγ s hf⟩
  rintro (h | h | h) <;> exact absurd (hγ _ _ h) (by simp)

/-- The end of a writing call. -/
def WriteTail (d1 : Addr) (n2 : Int) (o3 : Option Addr) (l3 c3 : Nat) (w10 : World) (R : Ending → World → Prop) : Prop :=
  Calls Tryz.prog slices_Clone_byte_byte.n #[(.slice o3 l3 c3)] w10 (fun e12 w13 =>
    ∃ o14 : Option Addr, ∃ l15 : Nat, ∃ l16 : Nat, e12 = .returned (.slice o14 l15 l16) ∧
    ∀ (d17 : Addr) (w18 : World), IsNew w13 tWritten #[(.int .i64 0), (.slice none 0 0)] d17 w18 →
    CanSet w18 d17 (.int .i64 n2) ∧ ∀ w19 : World, IsSet w18 d17 (.int .i64 n2) w19 →
    CanSet w19 (Addr.add d17 1) (.slice o14 l15 l16) ∧ ∀ w20 : World, IsSet w19 (Addr.add d17 1) (.slice o14 l15 l16) w20 →
    ∃ o21 : Option Addr, ∃ l22 : Nat, ∃ l23 : Nat, World.cell? w20 (Addr.add d1 1) = some (.slice o21 l22 l23) ∧
    Calls Tryz.prog disk_laid.n #[(.slice o21 l22 l23), (.int .i64 n2), (.slice o3 l3 c3)] w20 (fun e24 w25 =>
      ∃ o26 : Option Addr, ∃ l27 : Nat, ∃ l28 : Nat, e24 = .returned (.slice o26 l27 l28) ∧
      CanSet w25 (Addr.add d1 1) (.slice o26 l27 l28) ∧ ∀ w29 : World, IsSet w25 (Addr.add d1 1) (.slice o26 l27 l28) w29 →
      ∀ w30 : World, IsDrew w29 w30 →
      ∃ o31 : Option Addr, ∃ l32 : Nat, ∃ l33 : Nat, World.cell? w30 (Addr.add d1 3) = some (.slice o31 l32 l33) ∧
      ∃ n34 : Int, ∃ o35 : Option Addr, ∃ l36 : Nat, ∃ l37 : Nat, World.cell? w30 d17 = some (.int .i64 n34) ∧
      World.cell? w30 (Addr.add d17 1) = some (.slice o35 l36 l37) ∧
      ∀ (d38 : Addr) (w39 : World), IsNew w30 tPatch #[(.iface tWritten (.agg #[(.int .i64 n34), (.slice o35 l36 l37)]))] d38 w39 →
      World.cell? w39 (Addr.add d1 3) = some (.slice o31 l32 l33) ∧
      ∃ (v40 : Value) (w41 : World), Sem.run Tryz.prog (builtinV .append #[tSlPatch, tSlPatch] tSlPatch #[(.slice o31 l32 l33), (.slice (some d38) 1 1)]) w39 = .ok v40 w41 ∧
      ∃ o42 : Option Addr, ∃ l43 : Nat, ∃ l44 : Nat, v40 = (.slice o42 l43 l44) ∧
      CanSet w41 (Addr.add d1 3) (.slice o42 l43 l44) ∧ ∀ w45 : World, IsSet w41 (Addr.add d1 3) (.slice o42 l43 l44) w45 →
      R (.returned (.int .i64 0)) w45))

theorem cow_patch {c : C} {o : Option Addr} {l cap : Nat} {xs : List Value} {x : Value} {n : Nat} {news : List Value} (h : COw w lab c tPatch 1 o l cap xs) (src : Src Tryz.prog 1 tSlPatch x n news w) (hb : l + n ≤ 2 ^ 41) :
    ∃ o' c' w', Sem.run Tryz.prog (builtinV .append #[tSlPatch, tSlPatch] tSlPatch #[.slice o l cap, x]) w = .ok (.slice o' (l + n) c') w' ∧ COw w' (ext lab w.heap.size c) c tPatch 1 o' (l + n) c' (xs ++ news) ∧ Stp (· = c) w lab w' (ext lab w.heap.size c) := by
  obtain ⟨i, hi, h1⟩ := Option.map_eq_some_iff.1 info_patch
  simp only [Prod.mk.injEq] at h1
  exact h.append und_slPatch hi h1.1 h1.2.1 rfl src (by simp only [maxLen]; omega) (by rw [h1.2.2]; omega)
theorem cow_change {c : C} {o : Option Addr} {l cap : Nat} {xs : List Value} {x : Value} {n : Nat} {news : List Value} (h : COw w lab c tChange 1 o l cap xs) (src : Src Tryz.prog 1 tSlChange x n news w) (hb : l + n ≤ 2 ^ 41) :
    ∃ o' c' w', Sem.run Tryz.prog (builtinV .append #[tSlChange, tSlChange] tSlChange #[.slice o l cap, x]) w = .ok (.slice o' (l + n) c') w' ∧ COw w' (ext lab w.heap.size c) c tChange 1 o' (l + n) c' (xs ++ news) ∧ Stp (· = c) w lab w' (ext lab w.heap.size c) := by
  obtain ⟨i, hi, h1⟩ := Option.map_eq_some_iff.1 info_change
  simp only [Prod.mk.injEq] at h1
  exact h.append und_slChange hi h1.1 h1.2.1 rfl src (by simp only [maxLen]; omega) (by rw [h1.2.2]; omega)

theorem write_tail (hγ : ∀ a b, γ a = γ b → a = b) {n b : Nat} {o : Option Addr} {l k : Nat} {so : Option Addr} {sl sc : Nat} {vs : List Value} {f : Fl} (hF : FCells w lab γ n b o l k so sl sc po pl pc vs f) {o3 : Option Addr} {c3 at_ : Nat} {by_ : List UInt8}
    (hr : RdB w o3 by_) (hoff : ∀ x, o3 = some x → by_ ≠ [] → ¬ Fs γ n (lab x.block)) (hat : at_ ≤ f.bytes.length) (hb1 : f.bytes.length ≤ 2 ^ 38) (hb2 : by_.length ≤ 2 ^ 38) (hp : f.pend.length < 2 ^ 40) {R : Ending → World → Prop}
    (hR : ∀ w' lab', FAt w' lab' γ n b { f with bytes := lay f.bytes at_ by_, pend := f.pend ++ [.wr at_ by_] } → Stp (Fs γ n) w lab w' lab' → R (.returned (.int .i64 0)) w') :
    WriteTail ⟨b, 0, none⟩ (at_ : Int) o3 by_.length c3 w R := by
  have ne : ∀ {x y : DC}, x ≠ y → ¬ γ x = γ y := fun h e => h (hγ _ _ e)
  unfold WriteTail
  simp only [add_at, Nat.zero_add]
  refine (Clone_calls hr (by omega)).mono ?_
  rintro _ w1 ⟨o1, k1, rfl, ow1, M1, hF1⟩
  refine ⟨_, _, _, rfl, ?_⟩
  rintro d17 w2 ⟨rfl, rfl⟩
  have B2 := Blk.new w1 tWritten #[.int .i64 0, .slice none 0 0]
  refine ⟨B2.canSet (by simp) rfl, ?_⟩
  rintro _ rfl
  have B3 := B2.set 0 (.int .i64 (at_ : Int))
  simp only [add_at, Nat.zero_add]
  refine ⟨B3.canSet (by simp) rfl, ?_⟩
  rintro _ rfl
  have B4 := B3.set 1 (.slice o1 by_.length k1)
  have hs1 := M1.size
  have M4 : Vcg.Mod NoB w1 (((w1.alloc (.cells #[.int .i64 0, .slice none 0 0] tWritten)).setCell ⟨w1.heap.size, 0, none⟩ (.int .i64 (at_ : Int))).setCell ⟨w1.heap.size, 1, none⟩ (.slice o1 by_.length k1)) :=
    ((Mod.alloc w1 _).step_set (fun h => absurd h (Nat.lt_irrefl _))).step_set (fun h => absurd h (Nat.lt_irrefl _))
  have hs4 : (((w1.alloc (.cells #[.int .i64 0, .slice none 0 0] tWritten)).setCell ⟨w1.heap.size, 0, none⟩ (.int .i64 (at_ : Int))).setCell ⟨w1.heap.size, 1, none⟩ (.slice o1 by_.length k1)).heap.size = w1.heap.size + 1 := by
    rw [size_setCell, size_setCell, size_alloc]
  generalize (((w1.alloc (.cells #[.int .i64 0, .slice none 0 0] tWritten)).setCell ⟨w1.heap.size, 0, none⟩ (.int .i64 (at_ : Int))).setCell ⟨w1.heap.size, 1, none⟩ (.slice o1 by_.length k1)) = w4 at *
  generalize hD17 : w1.heap.size = D17 at *
  have B4' : Blk w4 D17 tWritten #[.int .i64 (at_ : Int), .slice o1 by_.length k1] := B4
  clear B4 B3 B2
  have M04 := M1.none_trans M4
  have s4 : Stp (Fs γ n) w lab w4 (ext lab w.heap.size (γ .froz)) := Stp.of_nob M04 _
  have s4' : Stp NoC w lab w4 (ext lab w.heap.size (γ .froz)) := Stp.of_nob M04 _
  have F4 := hF.stp s4' (fun h => h) (fun h => h) (fun h => h) (fun h => h)
  have c4 : CBy w4 (ext lab w.heap.size (γ .froz)) (γ .froz) o1 by_ := ⟨(ow1.mod' M4).bytes, fun _ x hx => ext_new (hF1 _ ⟨x, hx, rfl⟩)⟩
  have l4 : (ext lab w.heap.size (γ .froz)) D17 = γ .froz := ext_new (by omega)
  have r4 := hr.mod' M04
  generalize ext lab w.heap.size (γ .froz) = lab4 at *
  refine ⟨_, _, _, F4.cells.blk.rd1 rfl, ?_⟩
  have hbl : l = f.bytes.length := by have := F4.bytes.own.len; simpa using this.symm
  refine (laid_calls F4.bytes.own r4 rfl (by omega) (by omega) hb2).mono ?_
  rintro _ w5 ⟨o5, k5, rfl, ow5, M5, hF5⟩
  refine ⟨_, _, _, rfl, ?_⟩
  have s5 : Stp (· = γ (.bytes n)) w4 lab4 w5 (ext lab4 w4.heap.size (γ (.bytes n))) := Stp.of_mod M5 _ (fun k _ hk => F4.bytes.clr k hk)
  have by5 : COw w5 (ext lab4 w4.heap.size (γ (.bytes n))) (γ (.bytes n)) tU8 1 o5 (max l (at_ + by_.length)) k5 ((lay f.bytes at_ by_).map bV) := ⟨ow5, fun k hk => by
    by_cases hlt : k < w4.heap.size
    · rw [ext_old hlt]
      rcases hF5 k hk with h | h
      · exact F4.bytes.clr k h
      · omega
    · exact ext_new (by omega)⟩
  have C5 := F4.cells.stp s5 (ne (by simp))
  have S5 := F4.sure.stp s5 (ne (by simp))
  have P5 := F4.pend.stp s5 (ne (by simp))
  have T5 := F4.pts.stp s5 (ne (by simp))
  have c5 := c4.stp s5 (ne (by simp))
  have B5 : CB w5 (ext lab4 w4.heap.size (γ (.bytes n))) (γ .froz) D17 tWritten #[.int .i64 (at_ : Int), .slice o1 by_.length k1] := (CB.mk B4' l4).stp s5 (ne (by simp))
  have s05 := s4.trans (s5.mono (T := Fs γ n) (fun c h => .inr (.inl h)))
  generalize ext lab4 w4.heap.size (γ (.bytes n)) = lab5 at *
  refine ⟨C5.blk.canSet (by simp) rfl, ?_⟩
  rintro _ rfl
  have s6 : Stp (· = γ (.file n)) w5 lab5 (w5.setCell ⟨b, 1, none⟩ (.slice o5 (max l (at_ + by_.length)) k5)) lab5 := Stp.setCell C5.clr
  have C6 := C5.set 1 (.slice o5 (max l (at_ + by_.length)) k5)
  have by6 := by5.stp s6 (ne (by simp))
  have S6 := S5.stp s6 (ne (by simp))
  have P6 := P5.stp s6 (ne (by simp))
  have T6 := T5.stp s6 (ne (by simp))
  have c6 := c5.stp s6 (ne (by simp))
  have B6 := B5.stp s6 (ne (by simp))
  have s06 := s05.trans (s6.mono (T := Fs γ n) (fun c h => .inl h))
  generalize w5.setCell ⟨b, 1, none⟩ (.slice o5 (max l (at_ + by_.length)) k5) = w6 at *
  rintro _ rfl
  refine ⟨_, _, _, C6.blk.drew.rd1 rfl, _, _, _, _, B6.blk.drew.rd1 rfl, B6.blk.drew.rd1 rfl, ?_⟩
  rintro d38 w8 ⟨rfl, rfl⟩
  have sD : Stp NoC w6 lab5 (w6.drew.alloc (.cells #[.iface tWritten (.agg #[.int .i64 (at_ : Int), .slice o1 by_.length k1])] tPatch)) (ext lab5 w6.drew.heap.size (γ .froz)) := (Stp.drew _ _ _).trans (Stp.alloc _ _ _ _ _)
  have B8 := Blk.new w6.drew tPatch #[.iface tWritten (.agg #[.int .i64 (at_ : Int), .slice o1 by_.length k1])]
  generalize hw8 : w6.drew.alloc (.cells #[.iface tWritten (.agg #[.int .i64 (at_ : Int), .slice o1 by_.length k1])] tPatch) = w8 at *
  have C8 := C6.stp sD (fun h => h)
  have by8 := by6.stp sD (fun h => h)
  have S8 := S6.stp sD (fun h => h)
  have P8 := P6.stp sD (fun h => h)
  have T8 := T6.stp sD (fun h => h)
  have c8 := c6.stp sD (fun h => h)
  have s08 := s06.trans (sD.mono (T := Fs γ n) (fun c h => h.elim))
  generalize ext lab5 w6.drew.heap.size (γ .froz) = lab8 at *
  refine ⟨C8.blk.rd1 rfl, ?_⟩
  have hsrc := src_one (P := Tryz.prog) (tx := tSlPatch) und_slPatch B8 (sz := 1) rfl (by intro v hv; simp at hv; subst hv; rfl)
  have hpl : pl = f.pend.length := by have := P8.own.1; rw [← T8.len]; simpa using this.symm
  obtain ⟨o9, k9, w9, h9, P9, s9⟩ := cow_patch P8 hsrc (by omega)
  have C9 := C8.stp s9 (ne (by simp))
  have by9 := by8.stp s9 (ne (by simp))
  have S9 := S8.stp s9 (ne (by simp))
  have T9 := T8.stp s9 (ne (by simp))
  have c9 := c8.stp s9 (ne (by simp))
  have s09 := s08.trans (s9.mono (T := Fs γ n) (fun c h => .inr (.inr h)))
  generalize ext lab8 w8.heap.size (γ (.fpend n)) = lab9 at *
  refine ⟨_, w9, h9, _, _, _, rfl, C9.blk.canSet (by simp) rfl, ?_⟩
  rintro _ rfl
  have sE : Stp (· = γ (.file n)) w9 lab9 (w9.setCell ⟨b, 3, none⟩ (.slice o9 (pl + 1) k9)) lab9 := Stp.setCell C9.clr
  refine hR _ lab9 ⟨o5, _, k5, so, sl, sc, o9, pl + 1, k9, vs ++ [.iface tWritten (.agg #[.int .i64 (at_ : Int), .slice o1 by_.length k1])], ?_, by9.stp sE (ne (by simp)), S9.stp sE (ne (by simp)), F4.slen, P9.stp sE (ne (by simp)), ?_⟩ (s09.trans (sE.mono (T := Fs γ n) (fun c h => .inl h)))
  · exact C9.set 3 (.slice o9 (pl + 1) k9)
  · refine (T9.stp sE (ne (by simp))).snoc ⟨o1, k1, rfl, ?_, c9.stp sE (ne (by simp))⟩
    have := (ow1.cap).1
    exact this
end
end Go.Proofs.YtkekehngillblaaGreat
end

section
set_option linter.unusedVariables false
set_option linter.unusedSimpArgs false
namespace Go.Proofs.YtkekehngillblaaGreat
open Go Go.Vcg Go.Disk
section
variable {C : Type} {w w' : World} {lab lab' : Nat → C} {γ : DC → C} {d : Nat} {σ : Dk}
variable {mN mS : Nat} {po : Option Addr} {pl pc : Nat} {fb : Nat → Nat} {names sure : List (Nm × Nat)} {pend : List Chg} {files : Nat} {fs : Nat → Fl}

theorem used_le (hk : Ok σ) : used σ ≤ 2 ^ 46 := by
  have hcount : σ.names.length ≤ 1048576 := by
    have h1 := nodup_lt σ.files (σ.names.map Prod.snd) hk.names.vals (fun x hx => by obtain ⟨y, hy, rfl⟩ := List.mem_map.1 hx; exact hk.names.files y hy)
    rw [List.length_map] at h1
    have := hk.files; omega
  have hle : ∀ t : List (Nm × Nat), (∀ x ∈ t, x ∈ σ.names) → (t.map fun x => (σ.fs x.2).bytes.length).sum ≤ t.length * 67108864 := by
    intro t ht
    induction t with
    | nil => simp
    | cons x t ih =>
      have h1 := ih (fun y hy => ht y (List.mem_cons_of_mem _ hy))
      have h2 := (hk.size x.2 (hk.names.files x (ht x (List.mem_cons_self ..)))).2
      simp only [most] at h2
      simp only [List.map_cons, List.sum_cons, List.length_cons] at h1 ⊢
      omega
  have := hle σ.names (fun _ h => h)
  unfold used
  omega

theorem write_calls (hγ : ∀ a b, γ a = γ b → a = b) (B : CB w lab (γ .disk) d tDisk (diskA σ.cap mN mS po pl pc σ.files σ.count σ.fail σ.halt σ.down)) (Rt : DRest w lab γ mN mS po pl pc fb σ.names σ.sure σ.pend σ.files σ.fs)
    (hk : Ok σ) (hc : σ.count < 2 ^ 40) {n : Nat} (hn : n < σ.files) (hin : ∃ s, assoc s σ.names = some n) {at_ : Nat} {a : Int} (ha : a = (at_ : Int)) (hat : at_ ≤ (σ.fs n).bytes.length) {o3 : Option Addr} {c3 : Nat} {by_ : List UInt8} {cb : C} (hby : CBy w lab cb o3 by_) (hcb : ¬ SD γ cb) (hb : by_.length ≤ 2 ^ 60) :
    Calls Tryz.prog disk_Disk_write.n #[.pointer (some ⟨d, 0, none⟩), fileV fb n, .int .i64 a, .slice o3 by_.length c3] w (fun e w' => e = .returned (.int .i64 (write σ n at_ by_).2) ∧ DRes γ d w lab w' (write σ n at_ by_).1) := by
  subst ha
  have hr := hby.rd
  have hoff : ∀ x, o3 = some x → by_ ≠ [] → ¬ SD γ (lab x.block) := fun x hx hne h => hcb (by rw [← hby.clr hne x hx]; exact h)
  obtain ⟨o, l, k, so, sl, sc, fo, fl, fc, vs, hF⟩ := Rt.files n hn
  have hbl : l = (σ.fs n).bytes.length := by have := hF.bytes.own.len; simpa using this.symm
  have hsz := (hk.size n hn).2
  have hcap := hk.cap
  have hus := used_le hk
  have hpe := hk.pends n hn
  simp only [most] at hsz hcap
  have hoff' : ∀ (w1 : World) (M : Vcg.Mod NoB w w1), ∀ x, o3 = some x → by_ ≠ [] → ¬ Fs γ n (ext lab w.heap.size (γ .froz) x.block) := fun w1 M x hx hne h => by
    obtain ⟨b', f', ho, hlt, _⟩ := hr hne
    rw [hx] at ho
    cases ho
    rw [ext_old hlt] at h
    exact hoff _ hx hne h.sd
  have DW : DAt w lab γ d σ := ⟨mN, mS, po, pl, pc, fb, B, Rt⟩
  refine calls_gen fun R hR => disk_Disk_write.vc ⟨d, 0, none⟩ ⟨fb n, 0, none⟩ _ _ _ _ _ _ ?_
  unfold disk_Disk_write.Vc
  have el : IntKind.wrap .i64 (IntKind.wrap .i64 ((at_ : Int) + ((by_.length : Nat) : Int)) - ((l : Nat) : Int)) = (at_ : Int) + by_.length - l := by
    have e1 : IntKind.wrap .i64 ((at_ : Int) + ((by_.length : Nat) : Int)) = (at_ : Int) + ((by_.length : Nat) : Int) := wrap_i64_small (by omega) (by omega)
    rw [e1, wrap_i64_small (by omega) (by omega)]
  -- the end, from whatever world
  have tail : ∀ w1, Vcg.Mod NoB w w1 → ¬ ((at_ : Int) + by_.length - l > 0 ∧ (at_ : Int) + by_.length - l > σ.cap - used σ) → by_ ≠ [] → WriteTail ⟨fb n, 0, none⟩ (at_ : Int) o3 by_.length c3 w1 R := by
    intro w1 M hnot hne
    have sN : Stp NoC w lab w1 (ext lab w.heap.size (γ .froz)) := Stp.of_nob M _
    have hlen : by_.length ≤ 2 ^ 27 := by omega
    refine write_tail hγ (hF.stp sN (fun h => h) (fun h => h) (fun h => h) (fun h => h)) (hr.mod' M) (hoff' w1 M) hat (by omega) (by omega) (by omega) ?_
    intro w2 lab2 hf s2
    refine hR _ _ ?_
    have h1 := DAt.setF hγ (B.stp sN (fun h => h)) (Rt.stp sN (fun _ _ h => h)) s2 hf
    have e1 : write σ n at_ by_ = (Disk.setF σ n { σ.fs n with bytes := lay (σ.fs n).bytes at_ by_, pend := (σ.fs n).pend ++ [.wr at_ by_] }, 0) := by
      unfold write
      simp only
      rw [hbl] at hnot
      rw [if_neg hnot, if_neg hne]
    rw [e1]
    exact ⟨rfl, lab2, h1, (sN.mono (fun _ h => h.elim)).trans (s2.mono (fun c h => h.sd))⟩
  -- nothing to write
  have idle : ∀ w1, Vcg.Mod NoB w w1 → ¬ ((at_ : Int) + by_.length - l > 0 ∧ (at_ : Int) + by_.length - l > σ.cap - used σ) → by_ = [] → R (.returned (.int .i64 0)) w1 := by
    intro w1 M hnot hne
    refine hR _ _ ?_
    have e1 : write σ n at_ by_ = (σ, 0) := by
      unfold write
      simp only
      rw [hbl] at hnot
      rw [if_neg hnot, if_pos hne]
    rw [e1]
    exact ⟨rfl, DW.res M⟩
  simp only [add_at, Nat.zero_add]
  refine ⟨_, _, _, hF.cells.blk.rd1 rfl, ?_⟩
  rintro _ rfl
  rw [el]
  have Bd := B.blk.drew
  refine ⟨fun hgt => ?_, fun hle => ?_⟩
  · refine ⟨_, Bd.rd1 rfl, ?_⟩
    have sD : Stp NoC w lab w.drew lab := Stp.drew _ _ _
    refine (Used_calls (DW.stp sD (fun _ h => h)) hk).mono ?_
    rintro _ w1 ⟨rfl, M1⟩
    have M : Vcg.Mod NoB w w1 := (Mod.drew w).none_trans M1
    refine ⟨_, rfl, (B.blk.mod' M).rd1 rfl, ?_⟩
    have ec : IntKind.wrap .i64 (σ.cap - (used σ : Int)) = σ.cap - (used σ : Int) := wrap_i64_small (by omega) (by omega)
    rw [ec]
    refine ⟨fun h2 => hR _ _ ?_, fun h2 => ⟨fun h0 => idle w1 M (fun h => h2 h.2) (List.eq_nil_of_length_eq_zero (by omega)), fun h0 => tail w1 M (fun h => h2 h.2) (fun e => by rw [e] at h0; simp at h0)⟩⟩
    have e1 : write σ n at_ by_ = (σ, 15) := by
      unfold write
      simp only
      rw [← hbl, if_pos ⟨hgt, h2⟩]
    rw [e1]
    exact ⟨rfl, DW.res M⟩
  · have M : Vcg.Mod NoB w w.drew := Mod.drew w
    exact ⟨fun h0 => idle _ M (fun h => hle h.1) (List.eq_nil_of_length_eq_zero (by omega)), fun h0 => tail _ M (fun h => hle h.1) (fun e => by rw [e] at h0; simp at h0)⟩

/-- A call that opens a file and goes on. -/
theorem Found.zero {s : Nm} {n0 : Int} {e : Ending} (h : Found γ d w lab σ s n0 e w') : ∃ o n, e = .returned (.tuple #[.pointer o, .int .i64 n]) ∧ n = n0 := by
  obtain ⟨o, n, he, hn, _⟩ := h; exact ⟨o, n, he, hn⟩

theorem chk_onFile {σ : Dk} {s : Nm} {k : Dk → Nat → Dk × Int} : (chk σ s [] ≠ 0 → onFile σ s k = ((begins σ).1, chk σ s [])) ∧ (chk σ s [] = 0 → ∀ f, assoc s (begins σ).1.names = some f → onFile σ s k = k (begins σ).1 f) := by
  unfold chk onFile
  simp only
  by_cases h0 : (begins σ).2 = 0
  · rw [if_pos h0, if_pos h0, chkN_nil]
    refine ⟨fun h => ?_, fun h f hf => ?_⟩
    · rw [if_neg h]
    · rw [if_pos h]
      have := named_zero h
      rw [hf] at this
      cases this.2
      rfl
  · rw [if_neg h0, if_neg h0]
    exact ⟨fun _ => rfl, fun h => (h0 h).elim⟩

theorem begins_count (hn : Nums σ) : (begins σ).1.count < 2 ^ 40 := by
  have := hn.count
  unfold begins
  split
  · simp only; omega
  · split <;> simp only <;> omega
theorem Append_calls (hγ : ∀ a b, γ a = γ b → a = b) (h : DAt w lab γ d σ) (hn : Nums σ) (hk : Ok (begins σ).1) (s : Nm) {o3 : Option Addr} {c3 : Nat} {by_ : List UInt8} {cb : C} (hby : CBy w lab cb o3 by_) (hcb : ¬ SD γ cb) (hb : by_.length ≤ 2 ^ 60) :
    Calls Tryz.prog disk_Disk_Append.n #[.pointer (some ⟨d, 0, none⟩), .string s, .slice o3 by_.length c3] w (fun e w' => e = .returned (.int .i64 (append σ s by_).2) ∧ DRes γ d w lab w' (append σ s by_).1) := by
  refine calls_gen fun R hR => disk_Disk_Append.vc _ _ _ _ _ _ _ ?_
  unfold disk_Disk_Append.Vc
  refine (changing_calls hγ h hn s (o := none) (c := 0) [] trivial (fun x hx => by cases hx)).mono ?_
  rintro _ w1 ⟨o, n, rfl, rfl, hD, hf⟩
  have hon := @chk_onFile σ s (fun d f => write d f (d.fs f).bytes.length by_)
  refine ⟨_, _, rfl, fun hne => hR _ _ ?_, fun h0 => ?_⟩
  · unfold append
    rw [hon.1 hne]
    exact ⟨rfl, hD⟩
  · obtain ⟨f, hf1, hr1, lab1, mN, mS, po, pl, pc, fb, B, Rt, hv, s1⟩ := hf h0
    cases hv
    have hin : f < _ := hk.names.files _ (assoc_some hf1)
    obtain ⟨fo, l, k, so, sl, sc, fpo, fpl, fpc, vs, hF⟩ := Rt.files f hin
    have hbl : l = ((begins σ).1.fs f).bytes.length := by have := hF.bytes.own.len; simpa using this.symm
    refine ⟨_, rfl, ?_⟩
    simp only [add_at, Nat.zero_add]
    refine ⟨_, _, _, hF.cells.blk.rd1 rfl, ?_⟩
    refine (write_calls hγ B Rt hk (begins_count hn) hin ⟨s, hf1⟩ (by rw [hbl]) (Nat.le_refl _) (hby.stp s1 hcb) hcb hb).mono ?_
    rintro _ w2 ⟨rfl, lab2, D2, s2⟩
    refine ⟨_, rfl, hR _ _ ?_⟩
    unfold append
    rw [hon.2 h0 f hf1]
    exact ⟨rfl, lab2, D2, s1.trans s2⟩
end
end Go.Proofs.YtkekehngillblaaGreat
end

section
set_option linter.unusedVariables false
set_option linter.unusedSimpArgs false
namespace Go.Proofs.YtkekehngillblaaGreat
open Go Go.Vcg Go.Disk
section
variable {C : Type} {w w' : World} {lab lab' : Nat → C} {γ : DC → C} {d : Nat} {σ : Dk}
variable {mN mS : Nat} {po : Option Addr} {pl pc : Nat} {fb : Nat → Nat} {names sure : List (Nm × Nat)} {pend : List Chg} {files : Nat} {fs : Nat → Fl}

theorem WriteAt_calls (hγ : ∀ a b, γ a = γ b → a = b) (h : DAt w lab γ d σ) (hn : Nums σ) (hk : Ok (begins σ).1) (s : Nm) (at_ : Int) {o3 : Option Addr} {c3 : Nat} {by_ : List UInt8} {cb : C} (hby : CBy w lab cb o3 by_) (hcb : ¬ SD γ cb) (hb : by_.length ≤ 2 ^ 60) :
    Calls Tryz.prog disk_Disk_WriteAt.n #[.pointer (some ⟨d, 0, none⟩), .string s, .int .i64 at_, .slice o3 by_.length c3] w (fun e w' => e = .returned (.int .i64 (writeAt σ s at_ by_).2) ∧ DRes γ d w lab w' (writeAt σ s at_ by_).1) := by
  refine calls_gen fun R hR => disk_Disk_WriteAt.vc _ _ _ _ _ _ _ _ ?_
  unfold disk_Disk_WriteAt.Vc
  refine (changing_calls hγ h hn s (o := none) (c := 0) [] trivial (fun x hx => by cases hx)).mono ?_
  rintro _ w1 ⟨o, n, rfl, rfl, hD, hf⟩
  have hon := @chk_onFile σ s (fun d f => if at_ < 0 ∨ at_ > (d.fs f).bytes.length then (d, 14) else write d f at_.toNat by_)
  refine ⟨_, _, rfl, fun hne => hR _ _ ?_, fun h0 => ?_⟩
  · unfold writeAt
    rw [hon.1 hne]
    exact ⟨rfl, hD⟩
  · obtain ⟨f, hf1, hr1, lab1, mN, mS, po, pl, pc, fb, B, Rt, hv, s1⟩ := hf h0
    cases hv
    have hin : f < _ := hk.names.files _ (assoc_some hf1)
    obtain ⟨fo, l, k, so, sl, sc, fpo, fpl, fpc, vs, hF⟩ := Rt.files f hin
    have hbl : l = ((begins σ).1.fs f).bytes.length := by have := hF.bytes.own.len; simpa using this.symm
    have bad : at_ < 0 ∨ at_ > ((begins σ).1.fs f).bytes.length → R (.returned (.int .i64 14)) w1 := fun hb => hR _ _ (by
      unfold writeAt
      rw [hon.2 h0 f hf1, if_pos hb]
      exact ⟨rfl, hD⟩)
    refine ⟨fun h => bad (.inl h), fun h1 => ⟨_, rfl, ?_⟩⟩
    simp only [add_at, Nat.zero_add]
    refine ⟨_, _, _, hF.cells.blk.rd1 rfl, fun h => bad (.inr (by omega)), fun h2 => ?_⟩
    refine (write_calls hγ B Rt hk (begins_count hn) hin ⟨s, hf1⟩ (at_ := at_.toNat) (by omega) (by omega) (hby.stp s1 hcb) hcb hb).mono ?_
    rintro _ w2 ⟨rfl, lab2, D2, s2⟩
    refine ⟨_, rfl, hR _ _ ?_⟩
    unfold writeAt
    rw [hon.2 h0 f hf1, if_neg (by omega)]
    exact ⟨rfl, lab2, D2, s1.trans s2⟩

theorem Truncate_calls (hγ : ∀ a b, γ a = γ b → a = b) (h : DAt w lab γ d σ) (hn : Nums σ) (hk : Ok (begins σ).1) (s : Nm) (n : Int) :
    Calls Tryz.prog disk_Disk_Truncate.n #[.pointer (some ⟨d, 0, none⟩), .string s, .int .i64 n] w (fun e w' => e = .returned (.int .i64 (truncate σ s n).2) ∧ DRes γ d w lab w' (truncate σ s n).1) := by
  have ne : ∀ {x y : DC}, x ≠ y → ¬ γ x = γ y := fun h e => h (hγ _ _ e)
  refine calls_gen fun R hR => disk_Disk_Truncate.vc _ _ _ _ _ ?_
  unfold disk_Disk_Truncate.Vc
  refine (changing_calls hγ h hn s (o := none) (c := 0) [] trivial (fun x hx => by cases hx)).mono ?_
  rintro _ w1 ⟨o, nn, rfl, rfl, hD, hf⟩
  have hon := @chk_onFile σ s (fun d f => if n < 0 ∨ n > (d.fs f).bytes.length then (d, 14)
    else if n < (d.fs f).bytes.length then (Disk.setF d f { d.fs f with bytes := (d.fs f).bytes.take n.toNat, pend := (d.fs f).pend ++ [.cut n.toNat] }, 0)
    else (d, 0))
  refine ⟨_, _, rfl, fun hne => hR _ _ ?_, fun h0 => ?_⟩
  · unfold truncate
    rw [hon.1 hne]
    exact ⟨rfl, hD⟩
  · obtain ⟨f, hf1, hr1, lab1, mN, mS, po, pl, pc, fb, B, Rt, hv, s1⟩ := hf h0
    cases hv
    have hin : f < _ := hk.names.files _ (assoc_some hf1)
    obtain ⟨fo, l, k, so, sl, sc, fpo, fpl, fpc, vs, hF⟩ := Rt.files f hin
    have hbl : l = ((begins σ).1.fs f).bytes.length := by have := hF.bytes.own.len; simpa using this.symm
    have hlk := hF.bytes.own.cap
    have bad : n < 0 ∨ n > ((begins σ).1.fs f).bytes.length → R (.returned (.int .i64 14)) w1 := fun hb => hR _ _ (by
      unfold truncate
      rw [hon.2 h0 f hf1, if_pos hb]
      exact ⟨rfl, hD⟩)
    refine ⟨fun h => bad (.inl h), fun h1 => ⟨_, rfl, ?_⟩⟩
    simp only [add_at, Nat.zero_add]
    refine ⟨_, _, _, hF.cells.blk.rd1 rfl, fun h => bad (.inr (by omega)), fun h2 => ⟨_, rfl, ?_⟩⟩
    simp only [add_at, Nat.zero_add]
    refine ⟨_, _, _, hF.cells.blk.rd1 rfl, fun h3 => ?_, fun h3 => hR _ _ ?_⟩
    · refine ⟨_, rfl, ?_⟩
      simp only [add_at, Nat.zero_add]
      refine ⟨_, _, _, hF.cells.blk.rd1 rfl, by omega, _, rfl, ?_⟩
      simp only [add_at, Nat.zero_add]
      refine ⟨hF.cells.blk.canSet (by simp) rfl, ?_⟩
      rintro _ rfl
      have sA : Stp (· = γ (.file f)) w1 lab1 (w1.setCell ⟨fb f, 1, none⟩ (.slice fo n.toNat k)) lab1 := Stp.setCell hF.cells.clr
      have CA := hF.cells.set 1 (.slice fo n.toNat k)
      have byA : COw (w1.setCell ⟨fb f, 1, none⟩ (.slice fo n.toNat k)) lab1 (γ (.bytes f)) tU8 1 fo n.toNat k ((((begins σ).1.fs f).bytes.take n.toNat).map bV) := by
        have h5 := hF.bytes.stp sA (ne (by simp))
        refine ⟨⟨by rw [List.length_map, List.length_take]; omega, ?_⟩, h5.clr⟩
        rcases h5.own.2 with ⟨rfl, rfl, rfl⟩ | ⟨g, cur, rfl, hB, hlc, hcm, hcs, htk⟩
        · omega
        · refine .inr ⟨g, cur, rfl, hB, by omega, hcm, hcs, ?_⟩
          rw [List.map_take, ← htk, List.take_take]
          congr 1; omega
      have SA := hF.sure.stp sA (ne (by simp))
      have PA := hF.pend.stp sA (ne (by simp))
      have TA := hF.pts.stp sA (ne (by simp))
      generalize w1.setCell ⟨fb f, 1, none⟩ (.slice fo n.toNat k) = wA at *
      refine ⟨_, rfl, ?_⟩
      simp only [add_at, Nat.zero_add]
      refine ⟨_, _, _, CA.blk.rd1 rfl, ?_⟩
      rintro d25 wB ⟨rfl, rfl⟩
      have sN : Stp NoC wA lab1 (wA.alloc (.cells #[.iface tCut (.agg #[.int .i64 n])] tPatch)) (ext lab1 wA.heap.size (γ .froz)) := Stp.alloc _ _ _ _ _
      have BB := Blk.new wA tPatch #[.iface tCut (.agg #[.int .i64 n])]
      generalize wA.alloc (.cells #[.iface tCut (.agg #[.int .i64 n])] tPatch) = wB at *
      have CB' := CA.stp sN (fun h => h)
      have byB := byA.stp sN (fun h => h)
      have SB := SA.stp sN (fun h => h)
      have PB := PA.stp sN (fun h => h)
      have TB := TA.stp sN (fun h => h)
      have s0B := (sA.mono (T := Fs γ f) (fun c h => .inl h)).trans (sN.mono (T := Fs γ f) (fun c h => h.elim))
      generalize ext lab1 wA.heap.size (γ .froz) = labB at *
      have hsrc := src_one (P := Tryz.prog) (tx := tSlPatch) und_slPatch BB (sz := 1) rfl (by intro v hv; simp at hv; subst hv; rfl)
      have hpl : fpl = ((begins σ).1.fs f).pend.length := by have := PB.own.1; rw [← TB.len]; simpa using this.symm
      have hpe := hk.pends f hin
      have hct := begins_count hn
      obtain ⟨o9, k9, w9, h9, P9, s9⟩ := cow_patch PB hsrc (by omega)
      have C9 := CB'.stp s9 (ne (by simp))
      have by9 := byB.stp s9 (ne (by simp))
      have S9 := SB.stp s9 (ne (by simp))
      have T9 := TB.stp s9 (ne (by simp))
      have s09 := s0B.trans (s9.mono (T := Fs γ f) (fun c h => .inr (.inr h)))
      generalize ext labB wB.heap.size (γ (.fpend f)) = lab9 at *
      refine ⟨_, w9, h9, _, _, _, rfl, _, rfl, ?_⟩
      simp only [add_at, Nat.zero_add]
      refine ⟨C9.blk.canSet (by simp) rfl, ?_⟩
      rintro _ rfl
      have sE : Stp (· = γ (.file f)) w9 lab9 (w9.setCell ⟨fb f, 3, none⟩ (.slice o9 (fpl + 1) k9)) lab9 := Stp.setCell C9.clr
      refine hR _ _ ?_
      have hFA : FAt (w9.setCell ⟨fb f, 3, none⟩ (.slice o9 (fpl + 1) k9)) lab9 γ f (fb f) { (begins σ).1.fs f with bytes := ((begins σ).1.fs f).bytes.take n.toNat, pend := ((begins σ).1.fs f).pend ++ [.cut n.toNat] } :=
        ⟨fo, _, k, so, sl, sc, o9, fpl + 1, k9, vs ++ [.iface tCut (.agg #[.int .i64 n])], C9.set 3 (.slice o9 (fpl + 1) k9), by9.stp sE (ne (by simp)), S9.stp sE (ne (by simp)), hF.slen, P9.stp sE (ne (by simp)),
          (T9.stp sE (ne (by simp))).snoc (by show _ = _; rw [show ((n.toNat : Nat) : Int) = n by omega])⟩
      have s0E := s09.trans (sE.mono (T := Fs γ f) (fun c h => .inl h))
      have hDA := DAt.setF hγ B Rt s0E hFA
      unfold truncate
      rw [hon.2 h0 f hf1, if_neg (by omega), if_pos (by omega)]
      exact ⟨rfl, lab9, hDA, s1.trans (s0E.mono (fun c h => h.sd))⟩
    · unfold truncate
      rw [hon.2 h0 f hf1, if_neg (by omega), if_neg (by omega)]
      exact ⟨rfl, hD⟩

theorem Sync_calls (hγ : ∀ a b, γ a = γ b → a = b) (h : DAt w lab γ d σ) (hn : Nums σ) (hk : Ok (begins σ).1) (s : Nm) :
    Calls Tryz.prog disk_Disk_Sync.n #[.pointer (some ⟨d, 0, none⟩), .string s] w (fun e w' => e = .returned (.int .i64 (sync σ s).2) ∧ DRes γ d w lab w' (sync σ s).1) := by
  have ne : ∀ {x y : DC}, x ≠ y → ¬ γ x = γ y := fun h e => h (hγ _ _ e)
  refine calls_gen fun R hR => disk_Disk_Sync.vc _ _ _ _ ?_
  unfold disk_Disk_Sync.Vc
  refine (changing_calls hγ h hn s (o := none) (c := 0) [] trivial (fun x hx => by cases hx)).mono ?_
  rintro _ w1 ⟨o, nn, rfl, rfl, hD, hf⟩
  have hon := @chk_onFile σ s (fun d f => (Disk.setF d f { d.fs f with sure := (d.fs f).bytes, pend := [] }, 0))
  refine ⟨_, _, rfl, fun hne => hR _ _ ?_, fun h0 => ?_⟩
  · unfold sync
    rw [hon.1 hne]
    exact ⟨rfl, hD⟩
  · obtain ⟨f, hf1, hr1, lab1, mN, mS, po, pl, pc, fb, B, Rt, hv, s1⟩ := hf h0
    cases hv
    have hin : f < _ := hk.names.files _ (assoc_some hf1)
    obtain ⟨fo, l, k, so, sl, sc, fpo, fpl, fpc, vs, hF⟩ := Rt.files f hin
    have hbl : l = ((begins σ).1.fs f).bytes.length := by have := hF.bytes.own.len; simpa using this.symm
    have hsz := (hk.size f hin).2
    simp only [most] at hsz
    -- what is left to be shown of the world behind
    have fin : ∀ w2 lab2, FAt w2 lab2 γ f (fb f) { (begins σ).1.fs f with sure := ((begins σ).1.fs f).bytes, pend := [] } → Stp (Fs γ f) w1 lab1 w2 lab2 → R (.returned (.int .i64 0)) w2 := by
      intro w2 lab2 hFA s2
      refine hR _ _ ?_
      have hDA := DAt.setF hγ B Rt s2 hFA
      unfold sync
      rw [hon.2 h0 f hf1]
      exact ⟨rfl, lab2, hDA, s1.trans (s2.mono (fun c h => h.sd))⟩
    refine Calls.mono (R := fun e w2 => e = .returned (.tuple #[]) ∧ ∃ lab2, FAt w2 lab2 γ f (fb f) { (begins σ).1.fs f with sure := ((begins σ).1.fs f).bytes, pend := [] } ∧ Stp (Fs γ f) w1 lab1 w2 lab2) ?_ ?_
    · refine calls_gen fun R hR => disk_file_settle.vc ⟨fb f, 0, none⟩ _ _ ?_
      unfold disk_file_settle.Vc
      simp only [add_at, Nat.zero_add]
      refine ⟨_, _, _, hF.cells.blk.rd1 rfl, fun hgt => ?_, fun hle => hR _ _ ⟨rfl, lab1, ?_, Stp.refl _ _ _⟩⟩
      · refine ⟨_, _, _, hF.cells.blk.rd1 rfl, ?_⟩
        have hC := Clone_calls (c := k) hF.bytes.bytes.rd (by omega)
        rw [← hbl] at hC
        refine hC.mono ?_
        rintro _ w2 ⟨o2, k2, rfl, ow2, M2, hF2⟩
        refine ⟨_, _, _, rfl, ?_⟩
        have sN : Stp NoC w1 lab1 w2 (ext lab1 w1.heap.size (γ .froz)) := Stp.of_nob M2 _
        have c2 : CBy w2 (ext lab1 w1.heap.size (γ .froz)) (γ .froz) o2 ((begins σ).1.fs f).bytes := ⟨ow2.bytes, fun _ x hx => ext_new (hF2 _ ⟨x, hx, rfl⟩)⟩
        have C2 := hF.cells.stp sN (fun h => h)
        have by2 := hF.bytes.stp sN (fun h => h)
        generalize ext lab1 w1.heap.size (γ .froz) = lab2 at *
        refine ⟨C2.blk.canSet (by simp) rfl, ?_⟩
        rintro _ rfl
        have s3 : Stp (· = γ (.file f)) w2 lab2 (w2.setCell ⟨fb f, 2, none⟩ (.slice o2 l k2)) lab2 := Stp.setCell C2.clr
        have C3 := C2.set 2 (.slice o2 l k2)
        have by3 := by2.stp s3 (ne (by simp))
        have c3 := c2.stp s3 (ne (by simp))
        generalize w2.setCell ⟨fb f, 2, none⟩ (.slice o2 l k2) = w3 at *
        refine ⟨C3.blk.canSet (by simp) rfl, ?_⟩
        rintro _ rfl
        have s4 : Stp (· = γ (.file f)) w3 lab2 (w3.setCell ⟨fb f, 3, none⟩ (.slice none 0 0)) lab2 := Stp.setCell C3.clr
        refine hR _ _ ⟨rfl, lab2, ⟨fo, l, k, o2, l, k2, none, 0, 0, [], C3.set 3 (.slice none 0 0), by3.stp s4 (ne (by simp)), c3.stp s4 (ne (by simp)), hbl, COw.nil _ _ _ _ _, Pts.nil⟩, ?_⟩
        exact (sN.mono (T := Fs γ f) (fun c h => h.elim)).trans ((s3.mono (T := Fs γ f) (fun c h => .inl h)).trans (s4.mono (T := Fs γ f) (fun c h => .inl h)))
      · have hp0 : ((begins σ).1.fs f).pend = [] := by
          have h1 := hF.pend.own.len
          have h2 := hF.pts.len
          exact List.eq_nil_of_length_eq_zero (by omega)
        have hpt := hk.pts f hin
        rw [hp0] at hpt
        have hsb : ((begins σ).1.fs f).sure = ((begins σ).1.fs f).bytes := hpt
        have e1 : ({ (begins σ).1.fs f with sure := ((begins σ).1.fs f).bytes, pend := [] } : Fl) = (begins σ).1.fs f := by
          rw [← hsb, ← hp0]
        rw [e1]
        exact ⟨fo, l, k, so, sl, sc, fpo, fpl, fpc, vs, hF⟩
    · rintro _ w2 ⟨rfl, lab2, hFA, s2⟩
      exact ⟨rfl, fin w2 lab2 hFA s2⟩

/-! ### reading -/
theorem Read_calls (h : DAt w lab γ d σ) (hk : Ok σ) (s : Nm) (c : C) :
    Calls Tryz.prog disk_Disk_Read.n #[.pointer (some ⟨d, 0, none⟩), .string s] w (fun e w' => ∃ o k, e = .returned (.tuple #[.slice o (Disk.read σ s).1.length k, .int .i64 (Disk.read σ s).2]) ∧
      ∃ lab', DAt w' lab' γ d σ ∧ COw w' lab' c tU8 1 o (Disk.read σ s).1.length k ((Disk.read σ s).1.map bV) ∧ Stp (SD γ) w lab w' lab') := by
  refine calls_gen fun R hR => disk_Disk_Read.vc _ _ _ _ ?_
  unfold disk_Disk_Read.Vc
  refine (asked_calls h s).mono ?_
  rintro _ w1 ⟨o, nn, rfl, rfl, hD, hf⟩
  unfold Disk.read at *
  refine ⟨_, _, rfl, fun hne => hR _ _ ?_, fun h0 => ?_⟩
  · obtain ⟨lab1, D1, s1⟩ := hD
    rw [if_neg hne]
    exact ⟨none, 0, rfl, lab1, D1, COw.nil _ _ _ _ _, s1⟩
  · obtain ⟨f, hf1, hr1, lab1, mN, mS, po, pl, pc, fb, B, Rt, hv, s1⟩ := hf h0
    cases hv
    rw [if_pos h0] at hR
    have hfn : (asked σ s).1 = f := by
      unfold asked at h0 ⊢
      split at h0
      · cases h0
      · rename_i hd
        rw [if_neg hd]
        exact named_fst hr1 hf1
    rw [hfn] at hR
    have hin : f < _ := hk.names.files _ (assoc_some hf1)
    have DW : DAt w1 lab1 γ d σ := ⟨mN, mS, po, pl, pc, fb, B, Rt⟩
    obtain ⟨fo, l, k, so, sl, sc, fpo, fpl, fpc, vs, hF⟩ := Rt.files f hin
    have hbl : l = (σ.fs f).bytes.length := by have := hF.bytes.own.len; simpa using this.symm
    have hsz := (hk.size f hin).2
    simp only [most] at hsz
    refine ⟨_, rfl, ?_⟩
    simp only [add_at, Nat.zero_add]
    refine ⟨_, _, _, hF.cells.blk.rd1 rfl, ?_⟩
    have hC := Clone_calls (c := k) hF.bytes.bytes.rd (by omega)
    rw [← hbl] at hC
    refine hC.mono ?_
    rintro _ w2 ⟨o2, k2, rfl, ow2, M2, hF2⟩
    refine ⟨_, _, _, rfl, hR _ _ ?_⟩
    have sN : Stp NoC w1 lab1 w2 (ext lab1 w1.heap.size c) := Stp.of_nob M2 _
    refine ⟨o2, k2, by rw [hbl], _, DW.stp sN (fun _ h => h), ⟨by rw [← hbl]; exact ow2, fun k hk => ext_new (hF2 k hk)⟩, s1.trans (sN.mono (fun _ h => h.elim))⟩
end
end Go.Proofs.YtkekehngillblaaGreat
end

section
set_option linter.unusedVariables false
set_option linter.unusedSimpArgs false
namespace Go.Disk
open Go.Vcg
theorem upd_perm {V : Type} {k : Nm} {v : V} : ∀ {l : List (Nm × V)}, (l.map Prod.fst).Nodup → (upd k v l).Perm (put k v l)
  | [], _ => List.Perm.refl _
  | x :: r, hn => by
    rw [List.map_cons, List.nodup_cons] at hn
    by_cases h : x.1 = k
    · have hr : without k r = r := by
        unfold without
        rw [List.filter_eq_self]
        intro y hy
        have : y.1 ≠ k := fun e => hn.1 (h ▸ e ▸ List.mem_map_of_mem hy)
        simpa using this
      rw [upd, if_pos h, put, without, List.filter_cons_of_neg (by simp [h]), ← without, hr]
      exact (List.perm_append_singleton _ _).symm
    · rw [upd, if_neg h, put, without, List.filter_cons_of_pos (by simp [h])]
      exact (upd_perm hn.2).cons x
theorem del_without {V : Type} {k : Nm} : ∀ {l : List (Nm × V)}, (l.map Prod.fst).Nodup → del k l = without k l
  | [], _ => rfl
  | x :: r, hn => by
    rw [List.map_cons, List.nodup_cons] at hn
    by_cases h : x.1 = k
    · rw [del, if_pos h, without, List.filter_cons_of_neg (by simp [h])]
      symm
      rw [List.filter_eq_self]
      intro y hy
      have : y.1 ≠ k := fun e => hn.1 (h ▸ e ▸ List.mem_map_of_mem hy)
      simpa using this
    · rw [del, if_neg h, without, List.filter_cons_of_pos (by simp [h]), del_without hn.2]; rfl
theorem without_map {V W : Type} (g : V → W) (k : Nm) (l : List (Nm × V)) : without k (l.map fun x => (x.1, g x.2)) = (without k l).map fun x => (x.1, g x.2) := by
  unfold without
  rw [List.filter_map]; rfl
theorem put_map {V W : Type} (g : V → W) (k : Nm) (v : V) (l : List (Nm × V)) : put k (g v) (l.map fun x => (x.1, g x.2)) = (put k v l).map fun x => (x.1, g x.2) := by
  unfold put
  rw [without_map, List.map_append]; rfl
theorem without_perm {V : Type} {k : Nm} {l l' : List (Nm × V)} (h : l.Perm l') : (without k l).Perm (without k l') := h.filter _
theorem put_perm {V : Type} {k : Nm} {v : V} {l l' : List (Nm × V)} (h : l.Perm l') : (put k v l).Perm (put k v l') := (without_perm h).append_right _
theorem without_comm {V : Type} {a b : Nm} (l : List (Nm × V)) : without a (without b l) = without b (without a l) := by
  unfold without
  rw [List.filter_filter, List.filter_filter]
  congr 1; funext x; rw [Bool.and_comm]
theorem without_put {V : Type} {a b : Nm} {v : V} (h : a ≠ b) (l : List (Nm × V)) : without a (put b v l) = put b v (without a l) := by
  unfold put
  rw [without_comm (a := b) (b := a) l]
  simp [without, List.filter_append, Ne.symm h]
theorem assoc_mem {V : Type} {a : Nm} : ∀ {l : List (Nm × V)}, a ∈ l.map Prod.fst → ∃ f, assoc a l = some f
  | [], h => by cases h
  | x :: r, h => by
    rw [assoc]
    by_cases hx : x.1 = a
    · exact ⟨x.2, by rw [if_pos hx]⟩
    · rw [if_neg hx]
      rw [List.map_cons, List.mem_cons] at h
      exact assoc_mem (h.resolve_left (fun e => hx e.symm))
end Go.Disk
namespace Go.Proofs.YtkekehngillblaaGreat
open Go Go.Vcg Go.Disk
section
variable {C : Type} {w w' : World} {lab lab' : Nat → C} {γ : DC → C} {d : Nat} {σ : Dk} {c : C} {m : Nat}
variable {mN mS : Nat} {po : Option Addr} {pl pc : Nat} {fb : Nat → Nat} {names sure l : List (Nm × Nat)} {pend : List Chg} {files : Nat} {fs : Nat → Fl}

theorem NamesAt.update (h : NamesAt w lab c m fb l) {s : Nm} (hs : NmGood s) (f : Nat) :
    ∃ w', (Instr.mapUpdate tNaming (.map (some m)) (.string s) (fileV fb f)).run Tryz.prog w = .ok () w' ∧ NamesAt w' lab c m fb (put s f l) ∧ Stp (· = c) w lab w' lab ∧ Vcg.Mod (· = m) w w' := by
  obtain ⟨es, h1, h2⟩ := h
  obtain ⟨e, he, hz⟩ := und_naming
  obtain ⟨w', h3, h4, h5⟩ := h1.map.update keyEnc he hs (fileV fb f)
  refine ⟨w', h3, ⟨_, ⟨h4, h1.clr⟩, ?_⟩, ⟨h5.os, h5.tape, h5.output, h5.size, fun _ _ => rfl, fun k hk hn => h5.block k hk (fun e => hn (e ▸ h1.clr))⟩, h5⟩
  rw [← put_map (fileV fb)]
  exact (upd_perm h1.map.nodup).trans (put_perm h2)
theorem NamesAt.delete (h : NamesAt w lab c m fb l) {s : Nm} (hs : NmGood s) (ty : TypeId) :
    ∃ w', (builtinV .delete #[tNaming, tStr] ty #[.map (some m), .string s]).run Tryz.prog w = .ok (.tuple #[]) w' ∧ NamesAt w' lab c m fb (without s l) ∧ Stp (· = c) w lab w' lab := by
  obtain ⟨es, h1, h2⟩ := h
  obtain ⟨e, he, hz⟩ := und_naming
  obtain ⟨w', h3, h4, h5⟩ := h1.map.delete (ty := ty) keyEnc he hs
  refine ⟨w', h3, ⟨_, ⟨h4, h1.clr⟩, ?_⟩, ⟨h5.os, h5.tape, h5.output, h5.size, fun _ _ => rfl, fun k hk hn => h5.block k hk (fun e => hn (e ▸ h1.clr))⟩⟩
  rw [del_without h1.map.nodup, ← without_map (fileV fb)]
  exact without_perm h2
theorem NamesAt.clone (h : NamesAt w lab c m fb l) (c' : C) :
    ∃ o, (callFunc fMapsClone #[.iface tNaming (.map (some m))]).run Tryz.prog w = .ok (.value (.iface tNaming (.map (some w.heap.size)))) (w.alloc o) ∧ NamesAt (w.alloc o) (ext lab w.heap.size c') c' w.heap.size fb l := by
  obtain ⟨es, ⟨⟨A, clock, hb, hs, he, hg⟩, hc⟩, h2⟩ := h
  obtain ⟨fn, f1, f2, f3, f4, f5⟩ := clone_fn
  refine ⟨.map A clock, ?_, es, ⟨⟨A, clock, heap_alloc_new w _, hs, he, hg⟩, ext_new (Nat.le_refl _)⟩, h2⟩
  have hrun : (Extern.MapsClone.clone #[.iface tNaming (.map (some m))]).run Tryz.prog w = .ok (.iface tNaming (.map (some w.heap.size))) (w.alloc (.map A clock)) := by
    have e : Extern.MapsClone.clone #[.iface tNaming (.map (some m))] = (getObj m >>= fun o => match o with
      | .map entries clock => (newObj (.map entries clock) >>= fun n => pure (.iface tNaming (.map (some n))))
      | _ => stuck "maps.clone: a map expected") := rfl
    rw [e]
    simp [MapKept.run_getObj_map hb, Result.andThen]
  rw [run_callFunc_extern f1 f2 f3 f4 f5, hrun]; rfl
theorem CloneMap_calls (h : NamesAt w lab c m fb l) (c' : C) :
    Calls Tryz.prog maps_Clone_disk_naming_string_disk_file.n #[.map (some m)] w (fun e w' => ∃ m' lab', e = .returned (.map (some m')) ∧ NamesAt w' lab' c' m' fb l ∧ Stp NoC w lab w' lab') := by
  refine calls_gen fun R hR => maps_Clone_disk_naming_string_disk_file.vc _ _ _ ?_
  unfold maps_Clone_disk_naming_string_disk_file.Vc
  refine ⟨fun h => by simp at h, fun _ => ?_⟩
  obtain ⟨o, h1, h2⟩ := h.clone c'
  obtain ⟨e, he, _⟩ := und_naming
  have ht : (Instr.typeAssert (.iface tNaming (.map (some w.heap.size))) tAny tNaming false).run Tryz.prog (w.alloc o) = .ok (.map (some w.heap.size)) (w.alloc o) := by
    simp [Instr.typeAssert, run_underlying he, Result.andThen]
  refine ⟨_, _, h1, _, rfl, _, ht, _, rfl, hR _ _ ⟨_, _, rfl, h2, Stp.alloc _ _ _ _ _⟩⟩

/-- A change of names is done. -/
theorem on_calls (h : NamesAt w lab c m fb l) {ch : Chg} (hc : ChgOk files l ch) :
    CallsM Tryz.prog (chgV fb ch) "moraine/disk.on" #[.map (some m)] w (fun e w' => e = .returned (.tuple #[]) ∧ ∃ lab', NamesAt w' lab' c m fb (ch.on l) ∧ Stp (· = c) w lab w' lab') := by
  cases ch with
  | made n f =>
    refine ⟨_, _, _, _, rfl, m_made w n _, by kernel_rfl, ?_⟩
    refine calls_gen fun R hR => disk_made_on.vc n (some ⟨fb f, 0, none⟩) (some m) w _ ?_
    unfold disk_made_on.Vc
    rintro d3 w4 ⟨rfl, rfl⟩
    have B := Blk.new w tMade #[.string n, .pointer (some ⟨fb f, 0, none⟩)]
    have s1 : Stp NoC w lab (w.alloc (.cells #[.string n, .pointer (some ⟨fb f, 0, none⟩)] tMade)) (ext lab w.heap.size c) := Stp.alloc _ _ _ _ _
    have h1 := h.stp s1 (fun h => h)
    generalize w.alloc (.cells #[.string n, .pointer (some ⟨fb f, 0, none⟩)] tMade) = w1 at *
    simp only [add_at, Nat.zero_add]
    obtain ⟨w2, h2, h3, s2, _⟩ := h1.update (right_good hc.1) f
    exact ⟨_, B.rd1 rfl, _, B.rd1 rfl, w2, h2, hR _ _ ⟨rfl, _, h3, (s1.mono (T := (· = c)) (fun _ h => h.elim)).trans s2⟩⟩
  | ren a b =>
    refine ⟨_, _, _, _, rfl, m_ren w a b, by kernel_rfl, ?_⟩
    refine calls_gen fun R hR => disk_renamed_on.vc a b (some m) w _ ?_
    unfold disk_renamed_on.Vc
    rintro d3 w4 ⟨rfl, rfl⟩
    have B := Blk.new w tRenamed #[.string a, .string b]
    have s1 : Stp NoC w lab (w.alloc (.cells #[.string a, .string b] tRenamed)) (ext lab w.heap.size c) := Stp.alloc _ _ _ _ _
    have h1 := h.stp s1 (fun h => h)
    have hmb : m ≠ w.heap.size := by
      obtain ⟨es, ⟨hm, _⟩, _⟩ := h
      have := hm.lt; omega
    generalize w.alloc (.cells #[.string a, .string b] tRenamed) = w1 at *
    generalize w.heap.size = D at *
    simp only [add_at, Nat.zero_add]
    obtain ⟨hra, hrb, hab, hin⟩ := hc
    obtain ⟨f, hf⟩ := assoc_mem hin
    have hlook := h1.look (right_good hra) false
    rw [hf] at hlook
    obtain ⟨w2, h2, h3, s2, M2⟩ := h1.update (right_good hrb) f
    have B2 := B.mod M2 (fun e => hmb e.symm)
    obtain ⟨w3, h4, h5, s3⟩ := h3.delete (right_good hra) 0
    have e : without a (put b f l) = Chg.on l (.ren a b) := by
      simp only [Chg.on, hf]
      exact without_put hab l
    rw [e] at h5
    exact ⟨_, B.rd1 rfl, _, B.rd1 rfl, _, hlook, _, rfl, w2, h2, _, B2.rd1 rfl, _, w3, h4, rfl, hR _ _ ⟨rfl, _, h5, (s1.mono (T := (· = c)) (fun _ h => h.elim)).trans (s2.trans s3)⟩⟩
  | rem n =>
    refine ⟨_, _, _, _, rfl, m_rem w n, by kernel_rfl, ?_⟩
    refine calls_gen fun R hR => disk_removed_on.vc n (some m) w _ ?_
    unfold disk_removed_on.Vc
    rintro d3 w4 ⟨rfl, rfl⟩
    have B := Blk.new w tRemoved #[.string n]
    have s1 : Stp NoC w lab (w.alloc (.cells #[.string n] tRemoved)) (ext lab w.heap.size c) := Stp.alloc _ _ _ _ _
    have h1 := h.stp s1 (fun h => h)
    generalize w.alloc (.cells #[.string n] tRemoved) = w1 at *
    obtain ⟨w2, h2, h3, s2⟩ := h1.delete (right_good hc) 0
    exact ⟨_, B.rd1 rfl, _, w2, h2, rfl, hR _ _ ⟨rfl, _, h3, (s1.mono (T := (· = c)) (fun _ h => h.elim)).trans s2⟩⟩
end
end Go.Proofs.YtkekehngillblaaGreat
end
