/- The verification conditions of some functions, printed by a program of ours (wip/PrintVc.lean). -/
/- Contracts: few, does. -/
/- The verification conditions of some functions, printed by a program of ours (wip/PrintVc.lean). -/
/- The walk of TrieRoots. -/
/- The verification conditions of some functions, printed by a program of ours (wip/PrintVc.lean). -/
/- The walk of TrieIdle. -/
/- The verification conditions of some functions, printed by a program of ours (wip/PrintVc.lean). -/
/- The walk of TrieOrder. -/
import Derived.Test.YtfghidehlnfdiaaXLk
import Derived.Test.YtfghidehlnfdiaaProg
import Derived.KernelRfl
import Derived.Test.YtfghidehlnfdiaaTL2
section
set_option linter.unusedVariables false
namespace Go.Proofs.Ytfghidehlnfdiaa
open Go Go.Vcg
/-! moraine/morainelaw14.few: 50 -/
abbrev morainelaw14_few.n : Nat := 50
def morainelaw14_few.Vc (o0 : Option Addr) (l0 : Nat) (c0 : Nat) (w : World) (R : Ending → World → Prop) : Prop :=
  (((((l0 : Nat) : Int) > 40 →
    R (.returned (.bool false)) w)) ∧
   ((¬ ((l0 : Nat) : Int) > 40 →
    ∃ (I1 : Int → Int → World → Prop) (μ1 : Int → Int → World → Nat), I1 0 0 w ∧
    (∀ (n2 : Int) (n3 : Int) (j4 : Nat → Value) (w4 : World), I1 n2 n3 w4 →
      (((n3 < ((l0 : Nat) : Int) →
        ∀ w5 : World, IsDrew w4 w5 →
        ∃ d6 : Addr, o0 = some d6 ∧
        ((0 : Int) ≤ n3 ∧ n3 < ((l0 : Nat) : Int)) ∧
        ∃ o7 : Option Addr, ∃ l8 : Nat, ∃ l9 : Nat, World.cell? w5 (Addr.add d6 ((Int.toNat n3) * 2)) = some (.slice o7 l8 l9) ∧
        ∃ d10 : Addr, o0 = some d10 ∧
        ((0 : Int) ≤ n3 ∧ n3 < ((l0 : Nat) : Int)) ∧
        ∃ o11 : Option Addr, ∃ l12 : Nat, ∃ l13 : Nat, World.cell? w5 (Addr.add (Addr.add d10 ((Int.toNat n3) * 2)) 1) = some (.slice o11 l12 l13) ∧
        I1 (IntKind.wrap .i64 ((IntKind.wrap .i64 (n2 + (min ((l8 : Nat) : Int) 65))) + (min ((l12 : Nat) : Int) 1025))) (IntKind.wrap .i64 (n3 + 1)) w5 ∧ μ1 (IntKind.wrap .i64 ((IntKind.wrap .i64 (n2 + (min ((l8 : Nat) : Int) 65))) + (min ((l12 : Nat) : Int) 1025))) (IntKind.wrap .i64 (n3 + 1)) w5 < μ1 n2 n3 w4)) ∧
       ((¬ n3 < ((l0 : Nat) : Int) →
        R (.returned (.bool (decide (n2 ≤ 6000)))) w4)))))))
theorem morainelaw14_few.vc (o0 : Option Addr) (l0 : Nat) (c0 : Nat) (w : World) (R : Ending → World → Prop) (h : morainelaw14_few.Vc o0 l0 c0 w R) : Calls Try.prog 50 #[(.slice o0 l0 c0)] w R :=
  execF_sound (ann := [(5, [(3, .cell (.int .i64)), (4, .cell (.int .i64))])]) (args := [.slice o0 l0 c0]) Try.func50 mixed (Eq.mp (by kernel_rfl : morainelaw14_few.Vc o0 l0 c0 w R = execF (pA Try.prog R) Try.prog [(5, [(3, .cell (.int .i64)), (4, .cell (.int .i64))])] Try.f50 [.slice o0 l0 c0] w) h)

/-! moraine/morainelaw14.does: 53 -/
abbrev morainelaw14_does.n : Nat := 53
def morainelaw14_does.Vc (d0 : Addr) (o1 : Option Addr) (l1 : Nat) (c1 : Nat) (o2 : Option Addr) (l2 : Nat) (c2 : Nat) (o3 : Option Addr) (l3 : Nat) (c3 : Nat) (w : World) (R : Ending → World → Prop) : Prop :=
  ∀ (d4 : Addr) (w5 : World), IsNew w 91 #[(.slice o2 l2 c2), (.slice o3 l3 c3)] d4 w5 →
  ∀ w6 : World, IsDrew w5 w6 →
  ∃ o7 : Option Addr, ∃ l8 : Nat, ∃ l9 : Nat, World.cell? w6 d4 = some (.slice o7 l8 l9) ∧
  ∃ o10 : Option Addr, ∃ l11 : Nat, ∃ l12 : Nat, World.cell? w6 (Addr.add d4 1) = some (.slice o10 l11 l12) ∧
  ∃ (v13 : Value) (w14 : World), Sem.run Try.prog (builtinV .append #[22, 22] 22 #[(.slice none 0 0), (.slice o7 l8 l9)]) w6 = .ok v13 w14 ∧
  ∃ o15 : Option Addr, ∃ l16 : Nat, ∃ l17 : Nat, v13 = (.slice o15 l16 l17) ∧
  World.cell? w14 (Addr.add d4 1) = some (.slice o10 l11 l12) ∧
  ∃ (v18 : Value) (w19 : World), Sem.run Try.prog (builtinV .append #[22, 22] 22 #[(.slice none 0 0), (.slice o10 l11 l12)]) w14 = .ok v18 w19 ∧
  ∃ o20 : Option Addr, ∃ l21 : Nat, ∃ l22 : Nat, v18 = (.slice o20 l21 l22) ∧
  ∃ (J23 : Int → Int → World → Prop), (∃ o24 : Option Addr, ∃ l25 : Nat, ∃ l26 : Nat, World.cell? w19 (Addr.add d4 1) = some (.slice o24 l25 l26) ∧
   (((((l25 : Nat) : Int) = 0 →
     Calls Try.prog 57 #[(.pointer (some d0)), (.slice o15 l16 l17)] w19 (fun e27 w28 =>
       ∃ n29 : Int, e27 = .returned (.int .i64 n29) ∧
       J23 n29 0 w28))) ∧
    ((((l25 : Nat) : Int) ≠ 0 →
     Calls Try.prog 55 #[(.pointer (some d0)), (.slice o15 l16 l17), (.slice o20 l21 l22)] w19 (fun e30 w31 =>
       ∃ n32 : Int, e30 = .returned (.int .i64 n32) ∧
       ∃ o33 : Option Addr, ∃ l34 : Nat, ∃ l35 : Nat, World.cell? w31 (Addr.add d4 1) = some (.slice o33 l34 l35) ∧
       (((((l34 : Nat) : Int) > 1024 →
         J23 n32 141 w31)) ∧
        ((¬ ((l34 : Nat) : Int) > 1024 →
         J23 n32 0 w31)))))))) ∧
  (∀ (n36 : Int) (n37 : Int) (j38 : Nat → Value) (w38 : World), J23 n36 n37 w38 →
    ∃ (J39 : Int → World → Prop), (∃ o40 : Option Addr, ∃ l41 : Nat, ∃ l42 : Nat, World.cell? w38 d4 = some (.slice o40 l41 l42) ∧
     (((((l41 : Nat) : Int) > 64 →
       J39 140 w38)) ∧
      ((¬ ((l41 : Nat) : Int) > 64 →
       J39 n37 w38)))) ∧
    (∀ (n43 : Int) (j44 : Nat → Value) (w44 : World), J39 n43 w44 →
      Calls Try.prog 62 #[(.slice o15 l16 l17)] w44 (fun e45 w46 =>
        e45 = .returned (.tuple #[]) ∧
        Calls Try.prog 62 #[(.slice o20 l21 l22)] w46 (fun e47 w48 =>
          e47 = .returned (.tuple #[]) ∧
          (((n43 = 0 →
            ∃ o49 : Option Addr, ∃ l50 : Nat, ∃ l51 : Nat, World.cell? w48 d4 = some (.slice o49 l50 l51) ∧
            ∃ o52 : Option Addr, ∃ l53 : Nat, ∃ l54 : Nat, World.cell? w48 (Addr.add d4 1) = some (.slice o52 l53 l54) ∧
            Calls Try.prog 58 #[(.slice o1 l1 c1), (.slice o49 l50 l51), (.slice o52 l53 l54)] w48 (fun e55 w56 =>
              ∃ o57 : Option Addr, ∃ l58 : Nat, ∃ l59 : Nat, e55 = .returned (.slice o57 l58 l59) ∧
              R (.returned (.tuple #[(.bool (decide (n36 = n43))), (.slice o57 l58 l59)])) w56))) ∧
           ((n43 ≠ 0 →
            R (.returned (.tuple #[(.bool (decide (n36 = n43))), (.slice o1 l1 c1)])) w48)))))))
theorem morainelaw14_does.vc (d0 : Addr) (o1 : Option Addr) (l1 : Nat) (c1 : Nat) (o2 : Option Addr) (l2 : Nat) (c2 : Nat) (o3 : Option Addr) (l3 : Nat) (c3 : Nat) (w : World) (R : Ending → World → Prop) (h : morainelaw14_does.Vc d0 o1 l1 c1 o2 l2 c2 o3 l3 c3 w R) : Calls Try.prog 53 #[(.pointer (some d0)), (.slice o1 l1 c1), (.agg #[(.slice o2 l2 c2), (.slice o3 l3 c3)])] w R :=
  execF_sound (ann := [(1000009, [(10, .cell (.int .i64)), (11, .cell (.int .i64))]), (1000011, [(11, .cell (.int .i64))])]) (args := [.addr d0, .slice o1 l1 c1, .agg [.slice o2 l2 c2, .slice o3 l3 c3]]) Try.func53 mixed (Eq.mp (by kernel_rfl : morainelaw14_does.Vc d0 o1 l1 c1 o2 l2 c2 o3 l3 c3 w R = execF (pA Try.prog R) Try.prog [(1000009, [(10, .cell (.int .i64)), (11, .cell (.int .i64))]), (1000011, [(11, .cell (.int .i64))])] Try.f53 [.addr d0, .slice o1 l1 c1, .agg [.slice o2 l2 c2, .slice o3 l3 c3]] w) h)

end Go.Proofs.Ytfghidehlnfdiaa
end

section
set_option linter.unusedVariables false
set_option linter.unusedSimpArgs false
namespace Go.Trie
/-- A step on the map. -/
def stepM (m : List (By × By)) (k v : By) : List (By × By) := if 64 < k.length ∨ 1024 < v.length then m else putM m k v
def stepN (n : Nd) (k v : By) : Nd := if v = [] then (delT n k).2 else (putT n k v).2
def stepsM (m : List (By × By)) (l : List (By × By)) : List (By × By) := l.foldl (fun m s => stepM m s.1 s.2) m
end Go.Trie
namespace Go.Proofs.Ytfghidehlnfdiaa
open Go Go.Vcg Go.Trie
theorem LS.arg {w0 w : World} {L : Nat → Nat} {t k b : Nat} {n : Nd} {o oa : Option Addr} {m : List (By × By)} {bs : By} (h : LS w0 w L t n o k m b) (r : RdB w0 oa bs) : CBy w L 0 oa bs :=
  ⟨r.mod' h.mod, fun hne d hd => by obtain ⟨g, f, ho, hg, _⟩ := r hne; rw [ho] at hd; cases hd; exact h.old _ hg⟩
/-- Steps that can be read. -/
def StR (w : World) (o : Option Addr) (l : List (By × By)) : Prop :=
  ∀ (j : Nat) (hj : j < l.length), ∃ b f ok kk ov kv, o = some ⟨b, f, none⟩ ∧ b < w.heap.size ∧ w.cell? ⟨b, f + j * 2, none⟩ = some (.slice ok l[j].1.length kk) ∧ RdB w ok l[j].1 ∧ w.cell? ⟨b, f + (j * 2 + 1), none⟩ = some (.slice ov l[j].2.length kv) ∧ RdB w ov l[j].2
theorem StR.mod' {w w' : World} {o : Option Addr} {l : List (By × By)} (h : StR w o l) (M : Vcg.Mod NoB w w') : StR w' o l := fun j hj => by
  obtain ⟨b, f, ok, kk, ov, kv, e1, e2, e3, e4, e5, e6⟩ := h j hj
  exact ⟨b, f, ok, kk, ov, kv, e1, Nat.lt_of_lt_of_le e2 M.size, (cell_mod M e2 (fun h => h)).trans e3, e4.mod' M, (cell_mod M e2 (fun h => h)).trans e5, e6.mod' M⟩
theorem few14_calls {w : World} {o : Option Addr} {k : Nat} {l : List (By × By)} (h : StR w o l) :
    Calls Try.prog morainelaw14_few.n #[.slice o l.length k] w (fun e w' => ∃ b : Bool, e = .returned (.bool b) ∧ (b = true → l.length ≤ 40) ∧ Vcg.Mod NoB w w') := by
  refine morainelaw14_few.vc _ _ _ _ _ ?_
  unfold morainelaw14_few.Vc
  refine ⟨fun _ => ⟨false, rfl, fun h => (by cases h), Mod.refl w⟩, fun hl => ?_⟩
  refine ⟨fun _ i w' => ∃ j : Nat, i = (j : Int) ∧ j ≤ l.length ∧ Vcg.Mod NoB w w', fun _ i _ => ((l.length : Int) - i).toNat, ⟨0, rfl, Nat.zero_le _, Mod.refl w⟩, ?_⟩
  rintro s _ _ w1 ⟨j, rfl, hj, M⟩
  refine ⟨fun hlt => ?_, fun _ => ⟨_, rfl, fun _ => by omega, M⟩⟩
  rintro _ rfl
  have M2 := M.step_drew
  obtain ⟨b, f, ok, kk, ov, kv, rfl, e2, e3, e4, e5, e6⟩ := h.mod' M2 j (by omega)
  exact ⟨_, rfl, ⟨by omega, by omega⟩, _, _, _, by rw [add_at, Int.toNat_natCast]; exact e3, _, rfl, ⟨by omega, by omega⟩, _, _, _, by rw [add_at, add_at, Int.toNat_natCast, Nat.add_assoc]; exact e5, ⟨j + 1, by rw [wrap_i64_small (by omega) (by omega)]; omega, by omega, M2⟩, by dsimp only; rw [wrap_i64_small (by omega) (by omega)]; omega⟩
theorem Get_big {w : World} {t : Addr} {o : Option Addr} {l k : Nat} (hl : 64 < l) :
    Calls Try.prog trie_Trie_Get.n #[.pointer (some t), .slice o l k] w (fun e w' => e = .returned (.tuple #[.slice none 0 0, .bool false, .int .i64 140]) ∧ w' = w) := by
  refine trie_Trie_Get.vc _ _ _ _ _ _ ?_
  unfold trie_Trie_Get.Vc
  exact ⟨fun _ => ⟨rfl, rfl⟩, fun h => by omega⟩
/-- What a step must answer. -/
def wantOf (k v : By) : Int := if 64 < k.length then 140 else if 1024 < v.length then 141 else 0
theorem does_calls {w0 w : World} {L : Nat → Nat} {t k b : Nat} {n : Nd} {o ok ov : Option Addr} {m : List (By × By)} {kk kv : Nat} {key v : By} (h : LS w0 w L t n o k m b) (hb : b ≤ 2 ^ 16) (rk : CBy w L 0 ok key) (rv : CBy w L 0 ov v) (hk : key.length ≤ 2 ^ 40) (hv : v.length ≤ 2 ^ 40) :
    Calls Try.prog morainelaw14_does.n #[.pointer (some ⟨t, 0, none⟩), .slice o m.length k, .agg #[.slice ok key.length kk, .slice ov v.length kv]] w (fun e w' => ∃ o' k' L', e = .returned (.tuple #[.bool true, .slice o' (stepM m key v).length k']) ∧ Stp (fun q => q = 1 ∨ q = 4 ∨ q = 5) w L w' L' ∧ LS w0 w' L' t (stepN n key v) o' k' (stepM m key v) (b + 1)) := by
  refine calls_gen fun R hR => morainelaw14_does.vc _ _ _ _ _ _ _ _ _ _ _ _ ?_
  unfold morainelaw14_does.Vc
  rintro d4 w1 ⟨rfl, rfl⟩ _ rfl
  have M1 := (Mod.alloc (S := NoB) w (.cells #[.slice ok key.length kk, .slice ov v.length kv] 91)).step_drew
  have D1 : CB (w.alloc (.cells #[.slice ok key.length kk, .slice ov v.length kv] 91)).drew (ext L w.heap.size 0) 0 w.heap.size 91 #[.slice ok key.length kk, .slice ov v.length kv] := ⟨(Blk.new w 91 _).drew, ext_new (Nat.le_refl _)⟩
  have S1 := h.mod' M1 0
  have s1 : Stp (fun q => q = 1 ∨ q = 4 ∨ q = 5) w L (w.alloc (.cells #[.slice ok key.length kk, .slice ov v.length kv] 91)).drew (ext L w.heap.size 0) := (Stp.of_nob M1 0).mono (S := NoS) (fun _ h => h.elim)
  have rk1 := rk.stp s1 (by decide)
  have rv1 := rv.stp s1 (by decide)
  generalize hD : w.heap.size = D at *
  generalize (w.alloc (.cells #[.slice ok key.length kk, .slice ov v.length kv] 91)).drew = w1 at *
  generalize ext L D 0 = L1 at *
  simp only [add_at, Nat.zero_add]
  refine ⟨_, _, _, D1.blk.rd1 rfl, _, _, _, D1.blk.rd1 rfl, ?_⟩
  obtain ⟨o2, k2, w2, hr2, F2⟩ := copy_bytes' (k2 := kk) (ty := tSlU8) (Mod.refl w1) rk1.rd hk
  obtain ⟨O2, s2⟩ := F2.done (lab := L1) (4 : Nat)
  have S2 := S1.stp s2 (fun h => h) (fun h => h) (fun h => h) (fun h => h)
  have D2 := D1.stp s2 (fun h => h)
  have rk2 := rk1.stp s2 (fun h => h)
  have rv2 := rv1.stp s2 (fun h => h)
  generalize ext L1 w1.heap.size 4 = L2 at *
  refine ⟨_, w2, hr2, _, _, _, rfl, D2.blk.rd1 rfl, ?_⟩
  obtain ⟨o3, k3, w3, hr3, F3⟩ := copy_bytes' (k2 := kv) (ty := tSlU8) (Mod.refl w2) rv2.rd hv
  obtain ⟨O3, s3⟩ := F3.done (lab := L2) (5 : Nat)
  have S3 := S2.stp s3 (fun h => h) (fun h => h) (fun h => h) (fun h => h)
  have D3 := D2.stp s3 (fun h => h)
  have rk3 := rk2.stp s3 (fun h => h)
  have rv3 := rv2.stp s3 (fun h => h)
  have O2' := O2.stp s3 (fun h => h)
  generalize ext L2 w2.heap.size 5 = L3 at *
  have s03 : Stp (fun q => q = 1 ∨ q = 4 ∨ q = 5) w L w3 L3 := (s1.trans (s2.mono (fun _ h => h.elim))).trans (s3.mono (fun _ h => h.elim))
  refine ⟨_, w3, hr3, _, _, _, rfl, ?_⟩
  -- what the trie has become, and what it answered
  refine ⟨fun x y w' => x = wantOf key v ∧ (¬ 64 < key.length → y = wantOf key v) ∧ ∃ L', Stp (· = 1) w3 L3 w' L' ∧ TrieAt w' L' 1 2 t (stepN n key v), ?_, ?_⟩
  · refine ⟨_, _, _, D3.blk.rd1 rfl, fun hv0 => ?_, fun hv0 => ?_⟩
    · have hvn : v = [] := List.eq_nil_of_length_eq_zero (by omega)
      subst hvn
      refine (Delete_calls (k := k2) S3.trie (by decide) O2'.bytes.rd).mono ?_
      rintro _ w4 ⟨rfl, s4, A4⟩
      refine ⟨_, rfl, ?_, fun h => ?_, _, s4, ?_⟩
      · simp only [delT, wantOf, gt_iff_lt]
        by_cases hk64 : 64 < key.length <;> simp [hk64]
      · unfold wantOf; rw [if_neg h]; simp
      · unfold stepN; rw [if_pos rfl]; exact A4
    · have hvn : v ≠ [] := by rintro rfl; simp at hv0
      refine (Put_calls (k := k2) (kx := k3) S3.trie (by decide) O2'.bytes.rd O3.bytes.rd).mono ?_
      rintro _ w4 ⟨rfl, s4, A4⟩
      have D4 := D3.stp s4 (by decide)
      have e1 : (putT n key v).1 = wantOf key v := by
        simp only [putT, wantOf, gt_iff_lt]
        by_cases hk64 : 64 < key.length
        · simp [hk64]
        · by_cases hv1 : 1024 < v.length <;> simp [hk64, hv1, hvn]
      have e2 : (putT n key v).2 = stepN n key v := by unfold stepN; rw [if_neg hvn]
      rw [e2] at A4
      refine ⟨_, rfl, _, _, _, D4.blk.rd1 rfl, fun hbig => ⟨e1, fun h => ?_, _, s4, A4⟩, fun hsm => ⟨e1, fun h => ?_, _, s4, A4⟩⟩
      · unfold wantOf; rw [if_neg h, if_pos (by omega)]
      · unfold wantOf; rw [if_neg h, if_neg (by omega)]
  · rintro _ y _ w4 ⟨rfl, hy, L4, s4, A4⟩
    have D4 := D3.stp s4 (by decide)
    have O24 := O2'.stp s4 (by decide)
    have O34 := O3.stp s4 (by decide)
    have rk4 := rk3.stp s4 (by decide)
    have rv4 := rv3.stp s4 (by decide)
    have R4 := S3.row.stp s4 (by decide)
    refine ⟨fun z w' => z = wantOf key v ∧ w' = w4, ⟨_, _, _, D4.blk.rd1 rfl, fun hbig => ⟨by unfold wantOf; rw [if_pos (by omega)], rfl⟩, fun hsm => ⟨hy (by omega), rfl⟩⟩, ?_⟩
    rintro _ _ w4 ⟨rfl, rfl⟩
    refine (Spoil_calls O24 hk).mono ?_
    rintro _ w5 ⟨rfl, s5⟩
    have D5 := D4.stp s5 (by decide)
    have rk5 := rk4.stp s5 (by decide)
    have rv5 := rv4.stp s5 (by decide)
    have R5 := R4.stp s5 (by decide)
    have A5 := A4.stp s5 (by decide) (by decide)
    refine ⟨rfl, ?_⟩
    have O35 := O34.stp s5 (by decide)
    refine (Spoil_calls O35 hv).mono ?_
    rintro _ w6 ⟨rfl, s6⟩
    have D6 := D5.stp s6 (by decide)
    have rk6 := rk5.stp s6 (by decide)
    have rv6 := rv5.stp s6 (by decide)
    have R6 := R5.stp s6 (by decide)
    have A6 := A5.stp s6 (by decide) (by decide)
    have s46 : Stp (fun q => q = 1 ∨ q = 4 ∨ q = 5) w4 L4 w6 L4 := (s5.mono (fun _ h => .inr (.inl h))).trans (s6.mono (fun _ h => .inr (.inr h)))
    have s06 := (s03.trans (s4.mono (T := fun q => q = 1 ∨ q = 4 ∨ q = 5) (fun _ h => .inl h))).trans s46
    have S6' : ∀ k, k < w0.heap.size → L4 k = 0 := fun k hk => by rw [s4.lab k (Nat.lt_of_lt_of_le hk S3.mod.size)]; exact S3.old k hk
    have M06 : Vcg.Mod NoB w0 w6 := h.mod.trans (s06.mod (Q := fun k => w0.heap.size ≤ k) (fun k hk hs => Nat.not_lt.1 fun hlt => by
      rw [h.old k hlt] at hs; omega)) (fun i hi hq => by omega)
    have hcn := h.cnt
    refine ⟨rfl, fun hz => ?_, fun hz => ?_⟩
    · have hsm : ¬ (64 < key.length ∨ 1024 < v.length) := by
        rintro (h1 | h1)
        · simp [wantOf, h1] at hz
        · by_cases h2 : 64 < key.length <;> simp [wantOf, h1, h2] at hz
      have hkl : key.length ≤ 64 := by omega
      have hvl : v.length ≤ 1024 := by omega
      have em : stepM m key v = putM m key v := by unfold stepM; rw [if_neg hsm]
      rw [em] at hR
      refine ⟨_, _, _, D6.blk.rd1 rfl, _, _, _, D6.blk.rd1 rfl, ?_⟩
      refine (rPut_calls (k := k) (kk := kk) (kv := kv) R6 (h.kv (by omega)) h.cap rk6.rd rv6.rd hkl hvl (by have := h.len; omega)).mono ?_
      rintro _ w7 ⟨o7, k7, rfl, hk7, M7, R7⟩
      have hrep : Rep (pathsOf (putM m key v)) (stepN n key v) ∧ Trie.cnt (stepN n key v) ≤ Trie.cnt n + 4 := by
        unfold stepN
        split
        · rename_i hv0
          rw [hv0]
          obtain ⟨e1, e2, e3⟩ := h.del hkl
          rw [e1]; exact ⟨e2, e3⟩
        · rename_i hv0
          obtain ⟨e1, e2, e3⟩ := h.put hkl hv0 hvl
          rw [e1]; exact ⟨e2, e3⟩
      have s7 : Stp NoS w6 L4 w7 (ext L4 w6.heap.size 3) := Stp.of_nob M7 3
      refine ⟨_, _, _, rfl, hR _ _ ⟨o7, k7, _, ?_, s06.trans (s7.mono (fun _ h => h.elim)), ?_⟩⟩
      · simp
      · refine ⟨M06.trans M7 (fun _ _ h => h), ext_zero M06.size S6', tAt_mod A6 M7 3, R7, hk7, hrep.1, sorted_putM h.srt, fun e he => ?_, fun e he => ?_, ?_, by have := hrep.2; omega⟩
        · rcases (mem_putM h.srt e).1 he with ⟨h1, _⟩ | ⟨_, h2⟩
          · rw [h1]; exact hkl
          · exact h.keys e h2
        · rcases (mem_putM h.srt e).1 he with ⟨_, h1, _⟩ | ⟨_, h2⟩
          · rw [h1]; exact hvl
          · exact h.vals e h2
        · have := putM_len m key v
          have := h.len
          omega
    · have hbig : 64 < key.length ∨ 1024 < v.length := by
        by_cases h1 : 64 < key.length
        · exact .inl h1
        · by_cases h2 : 1024 < v.length
          · exact .inr h2
          · simp [wantOf, h1, h2] at hz
      have em : stepM m key v = m := by unfold stepM; rw [if_pos hbig]
      have en : stepN n key v = n := by
        unfold stepN
        split
        · rename_i hv0
          subst hv0
          have : 64 < key.length := by simpa using hbig
          unfold delT; rw [if_pos this]
        · rename_i hv0
          unfold putT
          split
          · rfl
          · rw [if_pos (.inr (by rcases hbig with h | h <;> omega))]
      rw [em, en] at hR
      rw [en] at A6
      exact hR _ _ ⟨o, k, L4, by simp, s06, M06, S6', A6, R6, h.cap, h.rep, h.srt, h.keys, h.vals, by have := h.len; omega, by omega⟩
end Go.Proofs.Ytfghidehlnfdiaa
end

section
set_option linter.unusedVariables false
namespace Go.Proofs.Ytfghidehlnfdiaa
open Go Go.Vcg
/-! moraine/morainelaw14.TrieRoots: 14 -/
abbrev morainelaw14_TrieRoots.n : Nat := 14
def morainelaw14_TrieRoots.Vc (o0 : Option Addr) (l0 : Nat) (c0 : Nat) (o1 : Option Addr) (l1 : Nat) (c1 : Nat) (w : World) (R : Ending → World → Prop) : Prop :=
  Calls Try.prog 37 #[] w (fun e2 w3 =>
    ∃ b4 : Bool, e2 = .returned (.bool b4) ∧
    (((b4 = false →
      R (.returned (.bool false)) w3)) ∧
     ((b4 = true →
      Calls Try.prog 50 #[(.slice o0 l0 c0)] w3 (fun e5 w6 =>
        ∃ b7 : Bool, e5 = .returned (.bool b7) ∧
        (((b7 = false →
          R (.returned (.bool true)) w6)) ∧
         ((b7 = true →
          (((((l1 : Nat) : Int) > 40 →
            R (.returned (.bool true)) w6)) ∧
           ((¬ ((l1 : Nat) : Int) > 40 →
            Calls Try.prog 52 #[] w6 (fun e8 w9 =>
              ∃ L10 : Array Value, e8 = .returned (.agg L10) ∧
              Calls Try.prog 51 #[(.agg L10), (.slice none 0 0)] w9 (fun e11 w12 =>
                ∃ o13 : Option Addr, e11 = .returned (.pointer o13) ∧
                ∀ (d14 : Addr) (w15 : World), IsNew w12 5 #[(.int .u8 97)] d14 w15 →
                ∃ (v16 : Value) (w17 : World), Sem.run Try.prog (convert 22 22 (.slice (some d14) 1 1)) w15 = .ok v16 w17 ∧
                ∃ o18 : Option Addr, ∃ l19 : Nat, ∃ l20 : Nat, v16 = (.slice o18 l19 l20) ∧
                Calls Try.prog 55 #[(.pointer o13), (.slice o18 l19 l20), (.slice none 0 0)] w17 (fun e21 w22 =>
                  ∃ n23 : Int, e21 = .returned (.int .i64 n23) ∧
                  (((n23 ≠ 141 →
                    R (.returned (.bool false)) w22)) ∧
                   ((n23 = 141 →
                    ∃ (I24 : Option Addr → Nat → Nat → Int → World → Prop) (μ24 : Option Addr → Nat → Nat → Int → World → Nat), I24 none 0 0 0 w22 ∧
                    (∀ (o25 : Option Addr) (l25 : Nat) (c25 : Nat) (n26 : Int) (j27 : Nat → Value) (w27 : World), I24 o25 l25 c25 n26 w27 →
                      (((n26 < ((l0 : Nat) : Int) →
                        ∃ d28 : Addr, o0 = some d28 ∧
                        ((0 : Int) ≤ n26 ∧ n26 < ((l0 : Nat) : Int)) ∧
                        ∃ o29 : Option Addr, ∃ l30 : Nat, ∃ l31 : Nat, ∃ o32 : Option Addr, ∃ l33 : Nat, ∃ l34 : Nat, World.cell? w27 (Addr.add d28 ((Int.toNat n26) * 2)) = some (.slice o29 l30 l31) ∧
                        World.cell? w27 (Addr.add (Addr.add d28 ((Int.toNat n26) * 2)) 1) = some (.slice o32 l33 l34) ∧
                        Calls Try.prog 53 #[(.pointer o13), (.slice o25 l25 c25), (.agg #[(.slice o29 l30 l31), (.slice o32 l33 l34)])] w27 (fun e35 w36 =>
                          ∃ b37 : Bool, ∃ o38 : Option Addr, ∃ l39 : Nat, ∃ l40 : Nat, e35 = .returned (.tuple #[(.bool b37), (.slice o38 l39 l40)]) ∧
                          Calls Try.prog 27 #[(.slice o38 l39 l40)] w36 (fun e41 w42 =>
                            ∃ L43 : Array Value, ∃ o44 : Option Addr, ∃ l45 : Nat, ∃ l46 : Nat, e41 = .returned (.tuple #[(.agg L43), (.slice o44 l45 l46)]) ∧
                            ∀ (d47 : Addr) (w48 : World), IsNew w42 26 (Array.replicate 32 (.int .u8 0)) d47 w48 →
                            ∃ w49 : World, Sem.run Try.prog (Instr.storeAt 26 (.pointer (some d47)) (.agg L43)) w48 = .ok () w49 ∧
                            ∀ w50 : World, IsDrew w49 w50 →
                            (((b37 = false →
                              R (.returned (.bool false)) w50)) ∧
                             ((b37 = true →
                              ∃ L51 : Array Value, RowAt w50 d47 32 L51 ∧
                              Calls Try.prog 54 #[(.pointer o13)] w50 (fun e52 w53 =>
                                ∃ L54 : Array Value, e52 = .returned (.agg L54) ∧
                                RowAt w53 d47 32 L51 ∧
                                ∃ v55 : Value, Sem.run Try.prog (semBin .neq 26 (.tmp 64) (.tmp 65) (.agg L54) (.agg L51)) w53 = .ok v55 w53 ∧
                                ∃ b56 : Bool, v55 = (.bool b56) ∧
                                (((b56 = true →
                                  R (.returned (.bool false)) w53)) ∧
                                 ((b56 = false →
                                  ((((Int.tmod n26 4) = 3 →
                                    Calls Try.prog 60 #[(.pointer o13)] w53 (fun e57 w58 =>
                                      ∃ o59 : Option Addr, ∃ l60 : Nat, ∃ l61 : Nat, e57 = .returned (.slice o59 l60 l61) ∧
                                      Calls Try.prog 29 #[(.slice o44 l45 l46)] w58 (fun e62 w63 =>
                                        ∃ o64 : Option Addr, ∃ l65 : Nat, ∃ l66 : Nat, e62 = .returned (.slice o64 l65 l66) ∧
                                        Calls Try.prog 59 #[(.slice o59 l60 l61), (.slice o64 l65 l66)] w63 (fun e67 w68 =>
                                          ∃ b69 : Bool, e67 = .returned (.bool b69) ∧
                                          (((b69 = false →
                                            R (.returned (.bool false)) w68)) ∧
                                           ((b69 = true →
                                            I24 o38 l39 l40 (IntKind.wrap .i64 (n26 + 1)) w68 ∧ μ24 o38 l39 l40 (IntKind.wrap .i64 (n26 + 1)) w68 < μ24 o25 l25 c25 n26 w27)))))))) ∧
                                   (((Int.tmod n26 4) ≠ 3 →
                                    I24 o38 l39 l40 (IntKind.wrap .i64 (n26 + 1)) w53 ∧ μ24 o38 l39 l40 (IntKind.wrap .i64 (n26 + 1)) w53 < μ24 o25 l25 c25 n26 w27)))))))))))))) ∧
                       ((¬ n26 < ((l0 : Nat) : Int) →
                        ∃ (I70 : Int → World → Prop) (μ70 : Int → World → Nat), I70 0 w27 ∧
                        (∀ (n71 : Int) (j72 : Nat → Value) (w72 : World), I70 n71 w72 →
                          (((n71 < (IntKind.wrap .i64 (((l0 : Nat) : Int) + ((l1 : Nat) : Int))) →
                            ∃ (J73 : Option Addr → Nat → Nat → World → Prop), ((((n71 < ((l0 : Nat) : Int) →
                               ∃ d74 : Addr, o0 = some d74 ∧
                               ((0 : Int) ≤ n71 ∧ n71 < ((l0 : Nat) : Int)) ∧
                               ∃ o75 : Option Addr, ∃ l76 : Nat, ∃ l77 : Nat, World.cell? w72 (Addr.add d74 ((Int.toNat n71) * 2)) = some (.slice o75 l76 l77) ∧
                               J73 o75 l76 l77 w72)) ∧
                              ((¬ n71 < ((l0 : Nat) : Int) →
                               ∃ d78 : Addr, o1 = some d78 ∧
                               ((0 : Int) ≤ (IntKind.wrap .i64 (n71 - ((l0 : Nat) : Int))) ∧ (IntKind.wrap .i64 (n71 - ((l0 : Nat) : Int))) < ((l1 : Nat) : Int)) ∧
                               ∃ o79 : Option Addr, ∃ l80 : Nat, ∃ l81 : Nat, World.cell? w72 (Addr.add d78 (Int.toNat (IntKind.wrap .i64 (n71 - ((l0 : Nat) : Int))))) = some (.slice o79 l80 l81) ∧
                               J73 o79 l80 l81 w72)))) ∧
                            (∀ (o82 : Option Addr) (l82 : Nat) (c82 : Nat) (j83 : Nat → Value) (w83 : World), J73 o82 l82 c82 w83 →
                              Calls Try.prog 61 #[(.pointer o13), (.slice o82 l82 c82)] w83 (fun e84 w85 =>
                                ∃ o86 : Option Addr, ∃ l87 : Nat, ∃ l88 : Nat, ∃ b89 : Bool, ∃ n90 : Int, e84 = .returned (.tuple #[(.slice o86 l87 l88), (.bool b89), (.int .i64 n90)]) ∧
                                (((((l82 : Nat) : Int) > 64 →
                                  (((n90 ≠ 140 →
                                    R (.returned (.bool false)) w85)) ∧
                                   ((n90 = 140 →
                                    (((b89 = true →
                                      R (.returned (.bool false)) w85)) ∧
                                     ((b89 = false →
                                      I70 (IntKind.wrap .i64 (n71 + 1)) w85 ∧ μ70 (IntKind.wrap .i64 (n71 + 1)) w85 < μ70 n71 w72)))))))) ∧
                                 ((¬ ((l82 : Nat) : Int) > 64 →
                                  Calls Try.prog 56 #[(.slice o25 l25 c25), (.slice o82 l82 c82)] w85 (fun e91 w92 =>
                                    ∃ o93 : Option Addr, ∃ l94 : Nat, ∃ l95 : Nat, ∃ b96 : Bool, e91 = .returned (.tuple #[(.slice o93 l94 l95), (.bool b96)]) ∧
                                    (((n90 ≠ 0 →
                                      R (.returned (.bool false)) w92)) ∧
                                     ((n90 = 0 →
                                      ∃ v97 : Value, Sem.run Try.prog (semBin .neq 4 (.tmp 130) (.tmp 131) (.bool b89) (.bool b96)) w92 = .ok v97 w92 ∧
                                      ∃ b98 : Bool, v97 = (.bool b98) ∧
                                      (((b98 = true →
                                        R (.returned (.bool false)) w92)) ∧
                                       ((b98 = false →
                                        Calls Try.prog 36 #[(.slice o86 l87 l88), (.slice o93 l94 l95)] w92 (fun e99 w100 =>
                                          ∃ b101 : Bool, e99 = .returned (.bool b101) ∧
                                          (((b101 = false →
                                            R (.returned (.bool false)) w100)) ∧
                                           ((b101 = true →
                                            Calls Try.prog 62 #[(.slice o86 l87 l88)] w100 (fun e102 w103 =>
                                              e102 = .returned (.tuple #[]) ∧
                                              I70 (IntKind.wrap .i64 (n71 + 1)) w103 ∧ μ70 (IntKind.wrap .i64 (n71 + 1)) w103 < μ70 n71 w72))))))))))))))))))) ∧
                           ((¬ n71 < (IntKind.wrap .i64 (((l0 : Nat) : Int) + ((l1 : Nat) : Int))) →
                            Calls Try.prog 27 #[(.slice o25 l25 c25)] w72 (fun e104 w105 =>
                              ∃ L106 : Array Value, ∃ o107 : Option Addr, ∃ l108 : Nat, ∃ l109 : Nat, e104 = .returned (.tuple #[(.agg L106), (.slice o107 l108 l109)]) ∧
                              ∀ (d110 : Addr) (w111 : World), IsNew w105 26 (Array.replicate 32 (.int .u8 0)) d110 w111 →
                              ∃ w112 : World, Sem.run Try.prog (Instr.storeAt 26 (.pointer (some d110)) (.agg L106)) w111 = .ok () w112 ∧
                              ∀ w113 : World, IsDrew w112 w113 →
                              ∃ L114 : Array Value, RowAt w113 d110 32 L114 ∧
                              Calls Try.prog 54 #[(.pointer o13)] w113 (fun e115 w116 =>
                                ∃ L117 : Array Value, e115 = .returned (.agg L117) ∧
                                RowAt w116 d110 32 L114 ∧
                                ∃ v118 : Value, Sem.run Try.prog (semBin .eql 26 (.tmp 148) (.tmp 149) (.agg L117) (.agg L114)) w116 = .ok v118 w116 ∧
                                ∃ b119 : Bool, v118 = (.bool b119) ∧
                                (((b119 = true →
                                  Calls Try.prog 60 #[(.pointer o13)] w116 (fun e120 w121 =>
                                    ∃ o122 : Option Addr, ∃ l123 : Nat, ∃ l124 : Nat, e120 = .returned (.slice o122 l123 l124) ∧
                                    Calls Try.prog 29 #[(.slice o107 l108 l109)] w121 (fun e125 w126 =>
                                      ∃ o127 : Option Addr, ∃ l128 : Nat, ∃ l129 : Nat, e125 = .returned (.slice o127 l128 l129) ∧
                                      Calls Try.prog 59 #[(.slice o122 l123 l124), (.slice o127 l128 l129)] w126 (fun e130 w131 =>
                                        ∃ b132 : Bool, e130 = .returned (.bool b132) ∧
                                        R (.returned (.bool b132)) w131))))) ∧
                                 ((b119 = false →
                                  R (.returned (.bool false)) w116))))))))))))))))))))))))))))))
theorem morainelaw14_TrieRoots.vc (o0 : Option Addr) (l0 : Nat) (c0 : Nat) (o1 : Option Addr) (l1 : Nat) (c1 : Nat) (w : World) (R : Ending → World → Prop) (h : morainelaw14_TrieRoots.Vc o0 l0 c0 o1 l1 c1 w R) : Calls Try.prog 14 #[(.slice o0 l0 c0), (.slice o1 l1 c1)] w R :=
  execF_sound (ann := [(10, [(6, .cell (.slice)), (7, .cell (.int .i64))]), (18, [(12, .cell (.int .i64))]), (1000024, [(13, .cell (.slice))])]) (args := [.slice o0 l0 c0, .slice o1 l1 c1]) Try.func14 mixed (Eq.mp (by kernel_rfl : morainelaw14_TrieRoots.Vc o0 l0 c0 o1 l1 c1 w R = execF (pA Try.prog R) Try.prog [(10, [(6, .cell (.slice)), (7, .cell (.int .i64))]), (18, [(12, .cell (.int .i64))]), (1000024, [(13, .cell (.slice))])] Try.f14 [.slice o0 l0 c0, .slice o1 l1 c1] w) h)

end Go.Proofs.Ytfghidehlnfdiaa
end

section
set_option linter.unusedVariables false
set_option linter.unusedSimpArgs false
namespace Go.Trie
theorem visit_bytes : ∀ {n : Nd}, Small n → ∀ (top : Bool) (out : List (By × By)), (∀ x ∈ out, x.2.length ≤ 2000) → ∀ x ∈ visitN n top out, x.2.length ≤ 2000 := by
  have put : ∀ {m : Nd} (out : List (By × By)) (top : Bool), Small m → (∀ x ∈ out, x.2.length ≤ 2000) → ∀ x ∈ putNode out top (bytesOf m), x.2.length ≤ 2000 := by
    intro m out top hm ho x hx
    unfold putNode at hx
    split at hx
    · exact ho x hx
    · rcases List.mem_append.1 hx with hx | hx
      · exact ho x hx
      · simp only [List.mem_singleton] at hx
        rw [hx]; exact bytes_le hm
  intro n
  induction n with
  | nil => intro hs top out ho x hx; exact ho x hx
  | leaf p v => intro hs top out ho x hx; exact put out top hs ho x hx
  | row p c ih => intro hs top out ho x hx; exact put _ top hs (ih hs.2 false out ho) x hx
  | branch cs v ih =>
    intro hs top out ho x hx
    have hf : ∀ (l : List (Fin 16)) (o : List (By × By)), (∀ x ∈ o, x.2.length ≤ 2000) → ∀ x ∈ l.foldl (fun o i => visitN (cs i) false o) o, x.2.length ≤ 2000 := by
      intro l
      induction l with
      | nil => intro o ho x hx; exact ho x hx
      | cons i r ihr => intro o ho x hx; exact ihr _ (ih i (hs.2 i) false o ho) x hx
    exact put _ top hs (hf _ out ho) x hx
theorem nodes_bytes {n : Nd} (hs : Small n) : ∀ x ∈ nodesOf n, x.2.length ≤ 2 ^ 20 := fun x hx => by
  have := visit_bytes hs true [] (fun _ h => by cases h) x hx
  omega
theorem nodes_len (n : Nd) : (nodesOf n).length ≤ cnt n := by
  have := visitN_len n true []
  simpa [nodesOf] using this
end Go.Trie
namespace Go.Proofs.Ytfghidehlnfdiaa
open Go Go.Vcg Go.Trie
theorem hash_ne_row {w : World} (x y : Operand) {a b : By} (ha : a.length = 32) (hb : b.length = 32) (h : a = b) : Sem.run Try.prog (semBin .neq tHash x y (.agg (hashA a)) (.agg (hashA b))) w = .ok (.bool false) w := by
  rw [hash_ne x y ha hb]; simp [h]
theorem ne_bool {w : World} (x y : Operand) (a : Bool) : Sem.run Try.prog (semBin .neq 4 x y (.bool a) (.bool a)) w = .ok (.bool false) w := by
  cases a <;> kernel_rfl
theorem putT_nil (n : Nd) (k : By) (h : k.length ≤ 64) : putT n k [] = (141, n) := by
  unfold putT; rw [if_neg (by omega), if_pos (.inl rfl)]
/-- Root and nodes of both held against one another. -/
theorem nodes_same {w0 w : World} {L : Nat → Nat} {t k b : Nat} {n : Nd} {o oN : Option Addr} {m : List (By × By)} {kN : Nat} (h : LS w0 w L t n o k m b) (hb : b ≤ 2 ^ 16) (hN : NdRow w L 6 (nodesOf n) oN (nodesOf n).length) {R : Ending → World → Prop}
    (K : ∀ w' L', LS w0 w' L' t n o k m b → R (.returned (.bool true)) w') :
    Calls Try.prog 60 #[(.pointer (some ⟨t, 0, none⟩))] w (fun e57 w58 =>
      ∃ o59 : Option Addr, ∃ l60 : Nat, ∃ l61 : Nat, e57 = .returned (.slice o59 l60 l61) ∧
      Calls Try.prog 29 #[(.slice oN (nodesOf n).length kN)] w58 (fun e62 w63 =>
        ∃ o64 : Option Addr, ∃ l65 : Nat, ∃ l66 : Nat, e62 = .returned (.slice o64 l65 l66) ∧
        Calls Try.prog 59 #[(.slice o59 l60 l61), (.slice o64 l65 l66)] w63 R)) := by
  have hcn := h.cnt
  have hnl := nodes_len n
  refine (Nodes_calls h.trie (by omega) 7).mono ?_
  rintro _ w1 ⟨o1, k1, rfl, M1, N1⟩
  have S1 := h.mod' M1 7
  have hN1 := hN.stp (S := NoS) (Stp.of_nob M1 7) (fun h => h)
  generalize ext L w.heap.size 7 = L1 at *
  refine ⟨_, _, _, rfl, (rNodes_calls hN1 (nodes_bytes h.small) (by omega) 6).mono ?_⟩
  rintro _ w2 ⟨o2, k2, rfl, _, M2, N2⟩
  have S2 := S1.mod' M2 6
  have N1' := N1.stp (S := NoS) (Stp.of_nob M2 6) (fun h => h)
  generalize ext L1 w1.heap.size 6 = L2 at *
  refine ⟨_, _, _, rfl, (hNodes_calls (k1 := k1) (k2 := k2) N1' N2 (by omega)).mono ?_⟩
  rintro _ w3 ⟨rfl, M3⟩
  rw [decide_eq_true rfl]
  exact K _ _ (S2.mod' M3 0)
theorem Roots_calls (w : World) {o oa : Option Addr} {k ka : Nat} {l : List (By × By)} {ls : List By} (hl : StR w o l) (hll : ∀ e ∈ l, e.1.length ≤ 2 ^ 40 ∧ e.2.length ≤ 2 ^ 40) (ha : RdBB w oa ls) (hal : ∀ b ∈ ls, b.length ≤ 2 ^ 40) :
    Calls Try.prog morainelaw14_TrieRoots.n #[.slice o l.length k, .slice oa ls.length ka] w (fun e w' => e = .returned (.bool true) ∧ Vcg.Mod NoB w w') := by
  refine morainelaw14_TrieRoots.vc _ _ _ _ _ _ _ _ ?_
  unfold morainelaw14_TrieRoots.Vc
  refine (known14_calls w).mono ?_
  rintro _ w1 ⟨rfl, M1⟩
  refine ⟨_, rfl, fun h => (by cases h), fun _ => ?_⟩
  refine (few14_calls (k := k) (hl.mod' M1)).mono ?_
  rintro _ w2 ⟨bf, rfl, hfew, M2⟩
  have M02 := M1.trans M2 (fun _ _ h => h)
  refine ⟨_, rfl, fun _ => ⟨rfl, M02⟩, fun hbf => ⟨fun _ => ⟨rfl, M02⟩, fun hls => ?_⟩⟩
  have hl40 := hfew hbf
  refine (Empty_calls w2).mono ?_
  rintro _ w3 ⟨rfl, M3⟩
  refine ⟨_, rfl, (tNew_calls w3 0).mono ?_⟩
  rintro _ w4 ⟨t, gv, rfl, M4, ht, T⟩
  have S4 := LS.new (M02.trans M3 (fun _ _ h => h)) M4 ht T
  generalize ext (fun _ => 0) w3.heap.size 1 = L4 at *
  refine ⟨_, rfl, ?_⟩
  rintro d w5 ⟨rfl, rfl⟩
  obtain ⟨w6, h6, M6, r6⟩ := lit_bytes w4 (bs := [97]) (A := #[(.int .u8 97)]) rfl 1 1
  have S6 := S4.mod' M6 0
  generalize ext L4 w4.heap.size 0 = L6 at *
  have hP := Put_calls (k := 1) (kx := 0) (ox := none) (x := []) S6.trie (by decide) r6 (RdB.nil _ _)
  rw [putT_nil _ _ (by decide)] at hP
  refine ⟨_, w6, h6, _, _, _, rfl, hP.mono ?_⟩
  rintro _ w7 ⟨rfl, s7, A7⟩
  have S7 : LS w w7 (ext L6 w6.heap.size 2) t .nil none 0 [] 0 := by
    have M07 : Vcg.Mod NoB w w7 := S6.mod.trans (s7.mod (Q := fun k => w.heap.size ≤ k) (fun k hk hs => Nat.not_lt.1 fun hlt => by rw [S6.old k hlt] at hs; cases hs)) (fun i hi hq => by omega)
    exact ⟨M07, ext_zero S6.mod.size S6.old, A7, KvR.nil _ _ _ _, Nat.le_refl _, rep_nil, List.Pairwise.nil, (fun e he => by cases he), (fun e he => by cases he), Nat.zero_le _, by simp [Trie.cnt]⟩
  generalize ext L6 w6.heap.size 2 = L7 at *
  refine ⟨_, rfl, fun h => (h rfl).elim, fun _ => ?_⟩
  refine ⟨fun o' n' k' i w' => ∃ (j : Nat) (m : List (By × By)) (n : Nd) (L : Nat → Nat), i = (j : Int) ∧ j ≤ l.length ∧ n' = m.length ∧ LS w w' L t n o' k' m j, fun _ _ _ i _ => ((l.length : Int) - i).toNat, ⟨0, [], .nil, L7, rfl, Nat.zero_le _, rfl, S7⟩, ?_⟩
  rintro o8 _ k8 _ _ w8 ⟨j, m, n, L8, rfl, hj, rfl, S8⟩
  refine ⟨fun hlt => ?_, fun hge => ?_⟩
  · have hjl : j < l.length := by omega
    obtain ⟨b, f, ok, kk, ov, kv, rfl, e2, e3, e4, e5, e6⟩ := hl j hjl
    obtain ⟨hk1, hv1⟩ := hll _ (List.getElem_mem hjl)
    have c3 := (cell_mod S8.mod e2 (fun h => h)).trans e3
    have c5 := (cell_mod S8.mod e2 (fun h => h)).trans e5
    refine ⟨_, rfl, ⟨by omega, by omega⟩, _, _, _, _, _, _, by rw [add_at, Int.toNat_natCast]; exact c3, by rw [add_at, add_at, Int.toNat_natCast, Nat.add_assoc]; exact c5, ?_⟩
    refine (does_calls (kk := kk) (kv := kv) S8 (by omega) (S8.arg e4) (S8.arg e6) hk1 hv1).mono ?_
    rintro _ w9 ⟨o9, k9, L9, rfl, s9, S9⟩
    refine ⟨_, _, _, _, rfl, ?_⟩
    generalize stepM m l[j].1 l[j].2 = m9 at *
    generalize stepN n l[j].1 l[j].2 = n9 at *
    have hcn := S9.cnt
    refine (Of_calls (k := k9) S9.row.row (S9.kv (by omega)) S9.rep S9.canon S9.small (by omega) 6).mono ?_
    rintro _ wa ⟨oa', ka', rfl, Ma, Na⟩
    have Sa := S9.mod' Ma 6
    generalize ext L9 w9.heap.size 6 = La at *
    refine ⟨_, _, _, _, rfl, ?_⟩
    rintro d wb ⟨rfl, rfl⟩
    have Hb := Blk.new wa 26 (Array.replicate 32 (.int .u8 0))
    obtain ⟨g1, g2, g3⟩ := hash_store Hb (by simp) (rootOf n9)
    refine ⟨_, g1, ?_⟩
    rintro _ rfl
    have Mb := (mod_of (Mod.alloc (S := NoB) wa (.cells (Array.replicate 32 (.int .u8 0)) 26)) g3 (Nat.le_refl _)).step_drew
    have Sb := Sa.mod' Mb 0
    have Nb := Na.stp (S := NoS) (Stp.of_nob Mb 0) (fun h => h)
    have Db := g2.drew
    generalize ext La wa.heap.size 0 = Lb at *
    generalize ((wa.alloc (.cells (Array.replicate 32 (.int .u8 0)) 26)).setRow wa.heap.size (hashA (rootOf n9))).drew = wb at *
    refine ⟨fun h => (by cases h), fun _ => ⟨_, Db.rowAll (size_hashA _), (Root_calls Sb.trie).mono ?_⟩⟩
    rintro _ wc ⟨rfl, Mc⟩
    have Sc := Sb.mod' Mc 0
    have Nc := Nb.stp (S := NoS) (Stp.of_nob Mc 0) (fun h => h)
    generalize ext Lb wb.heap.size 0 = Lc at *
    refine ⟨_, rfl, (Db.mod' Mc).rowAll (size_hashA _), _, hash_ne_row _ _ (length_sumOf _) (length_sumOf _) rfl, _, rfl, fun h => (by cases h), fun _ => ?_⟩
    have ew : IntKind.wrap .i64 ((j : Int) + 1) = ((j + 1 : Nat) : Int) := by rw [wrap_i64_small (by omega) (by omega)]; omega
    rw [ew]
    refine ⟨fun _ => ?_, fun _ => ⟨⟨j + 1, m9, n9, Lc, rfl, hjl, rfl, Sc⟩, by dsimp only; omega⟩⟩
    refine nodes_same Sc (by omega) Nc (fun wd Ld Sd => ?_)
    exact ⟨_, rfl, fun h => (by cases h), fun _ => ⟨⟨j + 1, m9, n9, Ld, rfl, hjl, rfl, Sd⟩, by dsimp only; omega⟩⟩
  · have S8' := S8.widen (b' := 40) (by omega)
    clear S8
    have hmr := S8'.rep
    have hms := S8'.srt
    have ew0 : IntKind.wrap .i64 (((l.length : Nat) : Int) + ((ls.length : Nat) : Int)) = ((l.length + ls.length : Nat) : Int) := by rw [wrap_i64_small (by omega) (by omega)]; omega
    rw [ew0]
    refine ⟨fun i w' => ∃ (j : Nat) (L : Nat → Nat), i = (j : Int) ∧ j ≤ l.length + ls.length ∧ LS w w' L t n o8 k8 m 40, fun i _ => (((l.length + ls.length : Nat) : Int) - i).toNat, ⟨0, L8, rfl, Nat.zero_le _, S8'⟩, ?_⟩
    rintro _ _ w9 ⟨i, L9, rfl, hi, S9⟩
    refine ⟨fun hlt => ?_, fun hge => ?_⟩
    · refine ⟨fun o' n' k' w' => w' = w9 ∧ ∃ key : By, n' = key.length ∧ key.length ≤ 2 ^ 40 ∧ RdB w o' key, ⟨fun h1 => ?_, fun h1 => ?_⟩, ?_⟩
      · have hjl : i < l.length := by omega
        obtain ⟨b, f, ok, kk, ov, kv, rfl, e2, e3, e4, e5, e6⟩ := hl i hjl
        exact ⟨_, rfl, ⟨by omega, by omega⟩, _, _, _, by rw [add_at, Int.toNat_natCast]; exact (cell_mod S9.mod e2 (fun h => h)).trans e3, rfl, _, rfl, (hll _ (List.getElem_mem hjl)).1, e4⟩
      · have hjl : i - l.length < ls.length := by omega
        have ei : IntKind.wrap .i64 ((i : Int) - ((l.length : Nat) : Int)) = ((i - l.length : Nat) : Int) := by rw [wrap_i64_small (by omega) (by omega)]; omega
        rw [ei]
        obtain ⟨b, f, oi, ci, rfl, e2, e3, e4⟩ := ha (i - l.length) hjl
        have eg : ls.getD (i - l.length) [] = ls[i - l.length] := by simp [List.getD_eq_getElem?_getD, hjl]
        rw [eg] at e3 e4
        exact ⟨_, rfl, ⟨by omega, by omega⟩, _, _, _, by rw [add_at, Int.toNat_natCast]; exact (cell_mod S9.mod e2 (fun h => h)).trans e3, rfl, _, rfl, hal _ (List.getElem_mem hjl), e4⟩
      · rintro ok _ kk _ w9 ⟨rfl, key, rfl, hkl, rk⟩
        have ew : IntKind.wrap .i64 ((i : Int) + 1) = ((i + 1 : Nat) : Int) := by rw [wrap_i64_small (by omega) (by omega)]; omega
        rw [ew]
        by_cases hbig : 64 < key.length
        · refine (Get_big hbig).mono ?_
          rintro _ w9 ⟨rfl, rfl⟩
          exact ⟨_, _, _, _, _, rfl, fun _ => ⟨fun h => (h rfl).elim, fun _ => ⟨fun h => (by cases h), fun _ => ⟨⟨i + 1, L9, rfl, by omega, S9⟩, by dsimp only; omega⟩⟩⟩, fun h => absurd (by omega) h⟩
        · obtain ⟨nv, ng, T9, N9, C9, F9⟩ := S9.trie
          refine (Get_calls (k := kk) T9.blk N9 C9 (small_of C9 F9) (rk.mod' S9.mod) (by omega)).mono ?_
          rintro _ wa ⟨oa', ka', rfl, Fa⟩
          obtain ⟨Oa, sa⟩ := Fa.done (lab := L9) (4 : Nat)
          have Sa := S9.stp sa (fun h => h) (fun h => h) (fun h => h) (fun h => h)
          generalize ext L9 w9.heap.size 4 = La at *
          refine ⟨_, _, _, _, _, rfl, fun h => absurd h (by omega), fun _ => ?_⟩
          rw [rep_get hmr hms] at Oa ⊢
          refine (Find_calls (k := k8) (kk := kk) Sa.row (rk.mod' Sa.mod) (by have := Sa.len; omega)).mono ?_
          rintro _ wb ⟨ob, kb, rfl, Mb, cb⟩
          have sb : Stp NoS wa La wb (ext La wa.heap.size 0) := Stp.of_nob Mb 0
          have Sb := Sa.mod' Mb 0
          have Ob := Oa.stp sb (fun h => h)
          have cb' := cb.stp sb (fun h => h)
          generalize ext La wa.heap.size 0 = Lb at *
          have hvl : (says (findM m key)).1.length ≤ 2 ^ 40 := by
            cases hf : findM m key with
            | none => simp [says]
            | some v =>
              have := S9.vals _ ((findM_some hms).1 hf)
              simp only [says]
              simp only at this
              omega
          refine ⟨_, _, _, _, rfl, fun h => (h rfl).elim, fun _ => ⟨_, ne_bool _ _ _, _, rfl, fun h => (by cases h), fun _ => ?_⟩⟩
          refine (hBytes_calls (k1 := ka') (k2 := kb) Ob.bytes.rd cb'.rd).mono ?_
          rintro _ wb ⟨rfl, rfl⟩
          refine ⟨_, rfl, fun h => by simp at h, fun _ => (Spoil_calls Ob hvl).mono ?_⟩
          rintro _ wc ⟨rfl, sc⟩
          exact ⟨rfl, ⟨i + 1, Lb, rfl, by omega, Sb.stp sc (by decide) (by decide) (by decide) (by decide)⟩, by dsimp only; omega⟩
    · have hcn := S9.cnt
      refine (Of_calls (k := k8) S9.row.row (S9.kv (by omega)) S9.rep S9.canon S9.small (by omega) 6).mono ?_
      rintro _ wa ⟨oa', ka', rfl, Ma, Na⟩
      have Sa := S9.mod' Ma 6
      generalize ext L9 w9.heap.size 6 = La at *
      refine ⟨_, _, _, _, rfl, ?_⟩
      rintro d wb ⟨rfl, rfl⟩
      have Hb := Blk.new wa 26 (Array.replicate 32 (.int .u8 0))
      obtain ⟨g1, g2, g3⟩ := hash_store Hb (by simp) (rootOf n)
      refine ⟨_, g1, ?_⟩
      rintro _ rfl
      have Mb := (mod_of (Mod.alloc (S := NoB) wa (.cells (Array.replicate 32 (.int .u8 0)) 26)) g3 (Nat.le_refl _)).step_drew
      have Sb := Sa.mod' Mb 0
      have Nb := Na.stp (S := NoS) (Stp.of_nob Mb 0) (fun h => h)
      have Db := g2.drew
      generalize ext La wa.heap.size 0 = Lb at *
      generalize ((wa.alloc (.cells (Array.replicate 32 (.int .u8 0)) 26)).setRow wa.heap.size (hashA (rootOf n))).drew = wb at *
      refine ⟨_, Db.rowAll (size_hashA _), (Root_calls Sb.trie).mono ?_⟩
      rintro _ wc ⟨rfl, Mc⟩
      have Sc := Sb.mod' Mc 0
      have Nc := Nb.stp (S := NoS) (Stp.of_nob Mc 0) (fun h => h)
      generalize ext Lb wb.heap.size 0 = Lc at *
      refine ⟨_, rfl, (Db.mod' Mc).rowAll (size_hashA _), _, hash_eq _ _ (length_sumOf _) (length_sumOf _), _, rfl, fun _ => nodes_same Sc (by omega) Nc (fun wd Ld Sd => ⟨_, rfl, rfl, Sd.mod⟩), fun h => by simp at h⟩
end Go.Proofs.Ytfghidehlnfdiaa
end

section
set_option linter.unusedVariables false
namespace Go.Proofs.Ytfghidehlnfdiaa
open Go Go.Vcg
/-! moraine/morainelaw14.TrieIdle: 12 -/
abbrev morainelaw14_TrieIdle.n : Nat := 12
def morainelaw14_TrieIdle.Vc (o0 : Option Addr) (l0 : Nat) (c0 : Nat) (o1 : Option Addr) (l1 : Nat) (c1 : Nat) (w : World) (R : Ending → World → Prop) : Prop :=
  Calls Try.prog 37 #[] w (fun e2 w3 =>
    ∃ b4 : Bool, e2 = .returned (.bool b4) ∧
    (((b4 = false →
      R (.returned (.bool false)) w3)) ∧
     ((b4 = true →
      Calls Try.prog 50 #[(.slice o0 l0 c0)] w3 (fun e5 w6 =>
        ∃ b7 : Bool, e5 = .returned (.bool b7) ∧
        (((b7 = false →
          R (.returned (.bool true)) w6)) ∧
         ((b7 = true →
          Calls Try.prog 52 #[] w6 (fun e8 w9 =>
            ∃ L10 : Array Value, e8 = .returned (.agg L10) ∧
            Calls Try.prog 51 #[(.agg L10), (.slice none 0 0)] w9 (fun e11 w12 =>
              ∃ o13 : Option Addr, e11 = .returned (.pointer o13) ∧
              ∃ (I14 : Option Addr → Nat → Nat → Int → World → Prop) (μ14 : Option Addr → Nat → Nat → Int → World → Nat), I14 none 0 0 0 w12 ∧
              (∀ (o15 : Option Addr) (l15 : Nat) (c15 : Nat) (n16 : Int) (j17 : Nat → Value) (w17 : World), I14 o15 l15 c15 n16 w17 →
                (((n16 < ((l0 : Nat) : Int) →
                  ∃ d18 : Addr, o0 = some d18 ∧
                  ((0 : Int) ≤ n16 ∧ n16 < ((l0 : Nat) : Int)) ∧
                  ∃ o19 : Option Addr, ∃ l20 : Nat, ∃ l21 : Nat, ∃ o22 : Option Addr, ∃ l23 : Nat, ∃ l24 : Nat, World.cell? w17 (Addr.add d18 ((Int.toNat n16) * 2)) = some (.slice o19 l20 l21) ∧
                  World.cell? w17 (Addr.add (Addr.add d18 ((Int.toNat n16) * 2)) 1) = some (.slice o22 l23 l24) ∧
                  Calls Try.prog 53 #[(.pointer o13), (.slice o15 l15 c15), (.agg #[(.slice o19 l20 l21), (.slice o22 l23 l24)])] w17 (fun e25 w26 =>
                    ∃ b27 : Bool, ∃ o28 : Option Addr, ∃ l29 : Nat, ∃ l30 : Nat, e25 = .returned (.tuple #[(.bool b27), (.slice o28 l29 l30)]) ∧
                    I14 o28 l29 l30 (IntKind.wrap .i64 (n16 + 1)) w26 ∧ μ14 o28 l29 l30 (IntKind.wrap .i64 (n16 + 1)) w26 < μ14 o15 l15 c15 n16 w17))) ∧
                 ((¬ n16 < ((l0 : Nat) : Int) →
                  Calls Try.prog 54 #[(.pointer o13)] w17 (fun e31 w32 =>
                    ∃ L33 : Array Value, e31 = .returned (.agg L33) ∧
                    ∀ (d34 : Addr) (w35 : World), IsNew w32 26 (Array.replicate 32 (.int .u8 0)) d34 w35 →
                    ∃ w36 : World, Sem.run Try.prog (Instr.storeAt 26 (.pointer (some d34)) (.agg L33)) w35 = .ok () w36 ∧
                    ∃ (I37 : Int → World → Prop) (μ37 : Int → World → Nat), I37 0 w36 ∧
                    (∀ (n38 : Int) (j39 : Nat → Value) (w39 : World), I37 n38 w39 →
                      (((n38 < ((l15 : Nat) : Int) →
                        ∀ w40 : World, IsDrew w39 w40 →
                        ∃ d41 : Addr, o15 = some d41 ∧
                        ((0 : Int) ≤ n38 ∧ n38 < ((l15 : Nat) : Int)) ∧
                        ∃ o42 : Option Addr, ∃ l43 : Nat, ∃ l44 : Nat, World.cell? w40 (Addr.add d41 ((Int.toNat n38) * 2)) = some (.slice o42 l43 l44) ∧
                        ∃ d45 : Addr, o15 = some d45 ∧
                        ((0 : Int) ≤ n38 ∧ n38 < ((l15 : Nat) : Int)) ∧
                        ∃ o46 : Option Addr, ∃ l47 : Nat, ∃ l48 : Nat, World.cell? w40 (Addr.add (Addr.add d45 ((Int.toNat n38) * 2)) 1) = some (.slice o46 l47 l48) ∧
                        Calls Try.prog 55 #[(.pointer o13), (.slice o42 l43 l44), (.slice o46 l47 l48)] w40 (fun e49 w50 =>
                          ∃ n51 : Int, e49 = .returned (.int .i64 n51) ∧
                          (((n51 ≠ 0 →
                            R (.returned (.bool false)) w50)) ∧
                           ((n51 = 0 →
                            ∃ L52 : Array Value, RowAt w50 d34 32 L52 ∧
                            Calls Try.prog 54 #[(.pointer o13)] w50 (fun e53 w54 =>
                              ∃ L55 : Array Value, e53 = .returned (.agg L55) ∧
                              RowAt w54 d34 32 L52 ∧
                              ∃ v56 : Value, Sem.run Try.prog (semBin .neq 26 (.tmp 58) (.tmp 59) (.agg L55) (.agg L52)) w54 = .ok v56 w54 ∧
                              ∃ b57 : Bool, v56 = (.bool b57) ∧
                              (((b57 = true →
                                R (.returned (.bool false)) w54)) ∧
                               ((b57 = false →
                                I37 (IntKind.wrap .i64 (n38 + 1)) w54 ∧ μ37 (IntKind.wrap .i64 (n38 + 1)) w54 < μ37 n38 w39)))))))))) ∧
                       ((¬ n38 < ((l15 : Nat) : Int) →
                        Calls Try.prog 56 #[(.slice o15 l15 c15), (.slice o1 l1 c1)] w39 (fun e58 w59 =>
                          ∃ o60 : Option Addr, ∃ l61 : Nat, ∃ l62 : Nat, ∃ b63 : Bool, e58 = .returned (.tuple #[(.slice o60 l61 l62), (.bool b63)]) ∧
                          ∃ (J64 : World → Prop), ((((b63 = false →
                             Calls Try.prog 57 #[(.pointer o13), (.slice o1 l1 c1)] w59 (fun e65 w66 =>
                               ∃ n67 : Int, e65 = .returned (.int .i64 n67) ∧
                               (((n67 ≠ 0 →
                                 (((((l1 : Nat) : Int) ≤ 64 →
                                   R (.returned (.bool false)) w66)) ∧
                                  ((¬ ((l1 : Nat) : Int) ≤ 64 →
                                   J64  w66))))) ∧
                                ((n67 = 0 →
                                 J64  w66)))))) ∧
                            ((b63 = true →
                             J64  w59)))) ∧
                          (∀  (j68 : Nat → Value) (w68 : World), J64  w68 →
                            ∀ w69 : World, IsDrew w68 w69 →
                            ∃ L70 : Array Value, RowAt w69 d34 32 L70 ∧
                            Calls Try.prog 54 #[(.pointer o13)] w69 (fun e71 w72 =>
                              ∃ L73 : Array Value, e71 = .returned (.agg L73) ∧
                              RowAt w72 d34 32 L70 ∧
                              ∃ v74 : Value, Sem.run Try.prog (semBin .eql 26 (.tmp 82) (.tmp 83) (.agg L73) (.agg L70)) w72 = .ok v74 w72 ∧
                              ∃ b75 : Bool, v74 = (.bool b75) ∧
                              (((b75 = true →
                                R (.returned (.bool true)) w72)) ∧
                               ((b75 = false →
                                R (.returned (.bool b63)) w72)))))))))))))))))))))))))
theorem morainelaw14_TrieIdle.vc (o0 : Option Addr) (l0 : Nat) (c0 : Nat) (o1 : Option Addr) (l1 : Nat) (c1 : Nat) (w : World) (R : Ending → World → Prop) (h : morainelaw14_TrieIdle.Vc o0 l0 c0 o1 l1 c1 w R) : Calls Try.prog 12 #[(.slice o0 l0 c0), (.slice o1 l1 c1)] w R :=
  execF_sound (ann := [(8, [(6, .cell (.slice)), (7, .cell (.int .i64))]), (13, [(9, .cell (.int .i64))]), (1000020, [])]) (args := [.slice o0 l0 c0, .slice o1 l1 c1]) Try.func12 mixed (Eq.mp (by kernel_rfl : morainelaw14_TrieIdle.Vc o0 l0 c0 o1 l1 c1 w R = execF (pA Try.prog R) Try.prog [(8, [(6, .cell (.slice)), (7, .cell (.int .i64))]), (13, [(9, .cell (.int .i64))]), (1000020, [])] Try.f12 [.slice o0 l0 c0, .slice o1 l1 c1] w) h)

end Go.Proofs.Ytfghidehlnfdiaa
end

section
set_option linter.unusedVariables false
set_option linter.unusedSimpArgs false
namespace Go.Proofs.Ytfghidehlnfdiaa
open Go Go.Vcg Go.Trie
theorem rep_put_same {m : List (By × By)} {n : Nd} {k v : By} (hr : Rep (pathsOf m) n) (hs : SortedM m) (hc : Canon n) (hm : (k, v) ∈ m) : v ≠ [] ∧ Trie.put n (nibbles k) v = n := by
  have hg : Trie.get n (nibbles k) = some v := (hr.2 _ _).2 (mem_paths.2 hm)
  have hv := get_ne hc hg
  obtain ⟨h1, _, _, h4⟩ := put_ok hc (nib_nibbles k) hv
  refine ⟨hv, uniq h1 hc (fun p => ?_)⟩
  rw [h4]
  split
  · rename_i h; rw [h, hg]
  · rfl
theorem rep_del_none {m : List (By × By)} {n : Nd} {k : By} (hr : Rep (pathsOf m) n) (hs : SortedM m) (hc : Canon n) (hm : findM m k = none) : (Trie.remove n (nibbles k)).1 = n := by
  have hg : Trie.get n (nibbles k) = none := (rep_get hr hs k).trans hm
  obtain ⟨_, _, _, h4, h5⟩ := remove_ok hc (nib_nibbles k)
  exact h5 (by rw [h4, hg]; rfl)
/-- The trie did something and is what it was. -/
theorem LS.again {w0 w w' : World} {L : Nat → Nat} {t k b q : Nat} {n : Nd} {o : Option Addr} {m : List (By × By)} (h : LS w0 w L t n o k m b) (s : Stp (· = 1) w L w' (ext L w.heap.size q)) (A : TrieAt w' (ext L w.heap.size q) 1 2 t n) : LS w0 w' (ext L w.heap.size q) t n o k m b :=
  ⟨h.mod.trans (s.mod (Q := fun k => w0.heap.size ≤ k) (fun k hk hs => Nat.not_lt.1 fun hlt => by rw [h.old k hlt] at hs; cases hs)) (fun i hi hq => by omega), ext_zero h.mod.size h.old, A, h.row.stp s (by decide), h.cap, h.rep, h.srt, h.keys, h.vals, h.len, h.cnt⟩
theorem Idle_calls (w : World) {o ok : Option Addr} {k kk : Nat} {l : List (By × By)} {key : By} (hl : StR w o l) (hll : ∀ e ∈ l, e.1.length ≤ 2 ^ 40 ∧ e.2.length ≤ 2 ^ 40) (hk : RdB w ok key) :
    Calls Try.prog morainelaw14_TrieIdle.n #[.slice o l.length k, .slice ok key.length kk] w (fun e w' => e = .returned (.bool true) ∧ Vcg.Mod NoB w w') := by
  refine morainelaw14_TrieIdle.vc _ _ _ _ _ _ _ _ ?_
  unfold morainelaw14_TrieIdle.Vc
  refine (known14_calls w).mono ?_
  rintro _ w1 ⟨rfl, M1⟩
  refine ⟨_, rfl, fun h => (by cases h), fun _ => ?_⟩
  refine (few14_calls (k := k) (hl.mod' M1)).mono ?_
  rintro _ w2 ⟨bf, rfl, hfew, M2⟩
  have M02 := M1.trans M2 (fun _ _ h => h)
  refine ⟨_, rfl, fun _ => ⟨rfl, M02⟩, fun hbf => ?_⟩
  have hl40 := hfew hbf
  refine (Empty_calls w2).mono ?_
  rintro _ w3 ⟨rfl, M3⟩
  refine ⟨_, rfl, (tNew_calls w3 0).mono ?_⟩
  rintro _ w4 ⟨t, gv, rfl, M4, ht, T⟩
  have S4 := LS.new (M02.trans M3 (fun _ _ h => h)) M4 ht T
  generalize ext (fun _ => 0) w3.heap.size 1 = L4 at *
  refine ⟨_, rfl, ?_⟩
  refine ⟨fun o' n' k' i w' => ∃ (j : Nat) (m : List (By × By)) (n : Nd) (L : Nat → Nat), i = (j : Int) ∧ j ≤ l.length ∧ n' = m.length ∧ LS w w' L t n o' k' m j, fun _ _ _ i _ => ((l.length : Int) - i).toNat, ⟨0, [], .nil, L4, rfl, Nat.zero_le _, rfl, S4⟩, ?_⟩
  rintro o8 _ k8 _ _ w8 ⟨j, m, n, L8, rfl, hj, rfl, S8⟩
  refine ⟨fun hlt => ?_, fun hge => ?_⟩
  · have hjl : j < l.length := by omega
    obtain ⟨b, f, ok, kk, ov, kv, rfl, e2, e3, e4, e5, e6⟩ := hl j hjl
    obtain ⟨hk1, hv1⟩ := hll _ (List.getElem_mem hjl)
    have c3 := (cell_mod S8.mod e2 (fun h => h)).trans e3
    have c5 := (cell_mod S8.mod e2 (fun h => h)).trans e5
    refine ⟨_, rfl, ⟨by omega, by omega⟩, _, _, _, _, _, _, by rw [add_at, Int.toNat_natCast]; exact c3, by rw [add_at, add_at, Int.toNat_natCast, Nat.add_assoc]; exact c5, ?_⟩
    refine (does_calls (kk := kk) (kv := kv) S8 (by omega) (S8.arg e4) (S8.arg e6) hk1 hv1).mono ?_
    rintro _ w9 ⟨o9, k9, L9, rfl, s9, S9⟩
    have ew : IntKind.wrap .i64 ((j : Int) + 1) = ((j + 1 : Nat) : Int) := by rw [wrap_i64_small (by omega) (by omega)]; omega
    rw [ew]
    exact ⟨_, _, _, _, rfl, ⟨j + 1, _, _, L9, rfl, hjl, rfl, S9⟩, by dsimp only; omega⟩
  · have S8' := S8.widen (b' := 40) (by omega)
    clear S8
    refine (Root_calls S8'.trie).mono ?_
    rintro _ wa ⟨rfl, Ma⟩
    have Sa := S8'.mod' Ma 0
    generalize ext L8 w8.heap.size 0 = La at *
    refine ⟨_, rfl, ?_⟩
    rintro d wb ⟨rfl, rfl⟩
    have Hb := Blk.new wa 26 (Array.replicate 32 (.int .u8 0))
    obtain ⟨g1, g2, g3⟩ := hash_store Hb (by simp) (rootOf n)
    refine ⟨_, g1, ?_⟩
    have Mb := mod_of (Mod.alloc (S := NoB) wa (.cells (Array.replicate 32 (.int .u8 0)) 26)) g3 (Nat.le_refl _)
    have Sb := Sa.mod' Mb 0
    have Db : CB _ (ext La wa.heap.size 0) 0 wa.heap.size _ _ := ⟨g2, ext_new (Nat.le_refl _)⟩
    generalize ext La wa.heap.size 0 = Lb at *
    generalize (wa.alloc (.cells (Array.replicate 32 (.int .u8 0)) 26)).setRow wa.heap.size (hashA (rootOf n)) = wb at *
    generalize wa.heap.size = D at *
    refine ⟨fun i w' => ∃ (j : Nat) (L : Nat → Nat), i = (j : Int) ∧ j ≤ m.length ∧ LS w w' L t n o8 k8 m 40 ∧ CB w' L 0 D 26 (hashA (rootOf n)), fun i _ => ((m.length : Int) - i).toNat, ⟨0, Lb, rfl, Nat.zero_le _, Sb, Db⟩, ?_⟩
    rintro _ _ wc ⟨i, Lc, rfl, hi, Sc, Dc⟩
    refine ⟨fun hlt => ?_, fun hge => ?_⟩
    · rintro _ rfl
      have him : i < m.length := by omega
      have Md := (Mod.refl (S := NoB) wc).step_drew
      have Sd := Sc.mod' Md 0
      have Dd := Dc.stp (S := NoS) (Stp.of_nob Md 0) (fun h => h)
      generalize ext Lc wc.heap.size 0 = Ld at *
      generalize wc.drew = wd at *
      obtain ⟨b, f, ok', kk', ov', kv', rfl, hb, hc, e4, e5, e6, e7⟩ := Sd.row.row i him
      refine ⟨_, rfl, ⟨by omega, by omega⟩, _, _, _, by rw [add_at, Int.toNat_natCast]; exact e4, _, rfl, ⟨by omega, by omega⟩, _, _, _, by rw [add_at, add_at, Int.toNat_natCast, Nat.add_assoc]; exact e6, ?_⟩
      have hmem := List.getElem_mem him
      obtain ⟨hv0, hps⟩ := rep_put_same Sd.rep Sd.srt Sd.canon hmem
      have hpt : putT n m[i].1 m[i].2 = (0, n) := by
        refine ((Sd.put (Sd.keys _ hmem) hv0 (Sd.vals _ hmem)).1).trans (congrArg (Prod.mk (0 : Int)) hps)
      have hP := Put_calls (k := kk') (kx := kv') Sd.trie (by decide) e5.rd e7.rd
      rw [hpt] at hP
      refine hP.mono ?_
      rintro _ we ⟨rfl, se, Ae⟩
      have Se := Sd.again se Ae
      have De := Dd.stp se (by decide)
      generalize ext Ld wd.heap.size 2 = Le at *
      refine ⟨_, rfl, fun h => (h rfl).elim, fun _ => ⟨_, De.blk.rowAll (size_hashA _), (Root_calls Se.trie).mono ?_⟩⟩
      rintro _ wf ⟨rfl, Mf⟩
      have Sf := Se.mod' Mf 0
      have Df := De.stp (S := NoS) (Stp.of_nob Mf 0) (fun h => h)
      have ew : IntKind.wrap .i64 ((i : Int) + 1) = ((i + 1 : Nat) : Int) := by have := Sf.len; rw [wrap_i64_small (by omega) (by omega)]; omega
      rw [ew]
      exact ⟨_, rfl, Df.blk.rowAll (size_hashA _), _, hash_ne_row _ _ (length_sumOf _) (length_sumOf _) rfl, _, rfl, fun h => (by cases h), fun _ => ⟨⟨i + 1, _, rfl, him, Sf, Df⟩, by dsimp only; omega⟩⟩
    · refine (Find_calls (k := k8) (kk := kk) Sc.row (hk.mod' Sc.mod) (by have := Sc.len; omega)).mono ?_
      rintro _ wd ⟨od, kd, rfl, Md, cd⟩
      have Sd := Sc.mod' Md 0
      have Dd := Dc.stp (S := NoS) (Stp.of_nob Md 0) (fun h => h)
      generalize ext Lc wc.heap.size 0 = Ld at *
      refine ⟨_, _, _, _, rfl, fun w' => ∃ L, LS w w' L t n o8 k8 m 40 ∧ CB w' L 0 D 26 (hashA (rootOf n)), ⟨fun hf => ?_, fun _ => ⟨Ld, Sd, Dd⟩⟩, ?_⟩
      · have hfm : findM m key = none := by
          cases h : findM m key with
          | none => rfl
          | some v => rw [h] at hf; cases hf
        have hP := Delete_calls (k := kk) Sd.trie (by decide) (hk.mod' Sd.mod)
        have hn : (delT n key).2 = n := by
          unfold delT
          split
          · rfl
          · exact rep_del_none Sd.rep Sd.srt Sd.canon hfm
        rw [hn] at hP
        refine hP.mono ?_
        rintro _ we ⟨rfl, se, Ae⟩
        have Se := Sd.again se Ae
        have De := Dd.stp se (by decide)
        refine ⟨_, rfl, fun h0 => ⟨fun hle => ?_, fun _ => ⟨_, Se, De⟩⟩, fun _ => ⟨_, Se, De⟩⟩
        refine (h0 ?_).elim
        unfold delT
        rw [if_neg (by omega)]
      · rintro _ we ⟨Le, Se, De⟩
        rintro _ rfl
        have Mf := (Mod.refl (S := NoB) we).step_drew
        have Sf := Se.mod' Mf 0
        have Df := De.stp (S := NoS) (Stp.of_nob Mf 0) (fun h => h)
        refine ⟨_, Df.blk.rowAll (size_hashA _), (Root_calls Sf.trie).mono ?_⟩
        rintro _ wg ⟨rfl, Mg⟩
        have Sg := Sf.mod' Mg 0
        have Dg := Df.stp (S := NoS) (Stp.of_nob Mg 0) (fun h => h)
        refine ⟨_, rfl, Dg.blk.rowAll (size_hashA _), _, hash_eq _ _ (length_sumOf _) (length_sumOf _), _, rfl, fun _ => ⟨rfl, Sg.mod⟩, fun h => by simp at h⟩
end Go.Proofs.Ytfghidehlnfdiaa
end

section
set_option linter.unusedVariables false
namespace Go.Proofs.Ytfghidehlnfdiaa
open Go Go.Vcg
/-! moraine/morainelaw14.TrieOrder: 15 -/
abbrev morainelaw14_TrieOrder.n : Nat := 15
def morainelaw14_TrieOrder.Vc (o0 : Option Addr) (l0 : Nat) (c0 : Nat) (o1 : Option Addr) (l1 : Nat) (c1 : Nat) (o2 : Option Addr) (l2 : Nat) (c2 : Nat) (w : World) (R : Ending → World → Prop) : Prop :=
  Calls Try.prog 37 #[] w (fun e3 w4 =>
    ∃ b5 : Bool, e3 = .returned (.bool b5) ∧
    (((b5 = false →
      R (.returned (.bool false)) w4)) ∧
     ((b5 = true →
      Calls Try.prog 50 #[(.slice o0 l0 c0)] w4 (fun e6 w7 =>
        ∃ b8 : Bool, e6 = .returned (.bool b8) ∧
        (((b8 = false →
          R (.returned (.bool true)) w7)) ∧
         ((b8 = true →
          Calls Try.prog 50 #[(.slice o2 l2 c2)] w7 (fun e9 w10 =>
            ∃ b11 : Bool, e9 = .returned (.bool b11) ∧
            (((b11 = false →
              R (.returned (.bool true)) w10)) ∧
             ((b11 = true →
              ∃ (I12 : Option Addr → Nat → Nat → Int → World → Prop) (μ12 : Option Addr → Nat → Nat → Int → World → Nat), I12 none 0 0 0 w10 ∧
              (∀ (o13 : Option Addr) (l13 : Nat) (c13 : Nat) (n14 : Int) (j15 : Nat → Value) (w15 : World), I12 o13 l13 c13 n14 w15 →
                (((n14 < ((l0 : Nat) : Int) →
                  ∃ (J16 : Bool → World → Prop), (∃ d17 : Addr, o0 = some d17 ∧
                   ((0 : Int) ≤ n14 ∧ n14 < ((l0 : Nat) : Int)) ∧
                   ∃ o18 : Option Addr, ∃ l19 : Nat, ∃ l20 : Nat, World.cell? w15 (Addr.add d17 ((Int.toNat n14) * 2)) = some (.slice o18 l19 l20) ∧
                   (((((l19 : Nat) : Int) ≤ 64 →
                     ∃ d21 : Addr, o0 = some d21 ∧
                     ((0 : Int) ≤ n14 ∧ n14 < ((l0 : Nat) : Int)) ∧
                     ∃ o22 : Option Addr, ∃ l23 : Nat, ∃ l24 : Nat, World.cell? w15 (Addr.add (Addr.add d21 ((Int.toNat n14) * 2)) 1) = some (.slice o22 l23 l24) ∧
                     J16 (decide (((l23 : Nat) : Int) ≤ 1024)) w15)) ∧
                    ((¬ ((l19 : Nat) : Int) ≤ 64 →
                     J16 false w15)))) ∧
                  (∀ (b25 : Bool) (j26 : Nat → Value) (w26 : World), J16 b25 w26 →
                    (((b25 = true →
                      ∀ w27 : World, IsDrew w26 w27 →
                      ∃ d28 : Addr, o0 = some d28 ∧
                      ((0 : Int) ≤ n14 ∧ n14 < ((l0 : Nat) : Int)) ∧
                      ∃ o29 : Option Addr, ∃ l30 : Nat, ∃ l31 : Nat, World.cell? w27 (Addr.add d28 ((Int.toNat n14) * 2)) = some (.slice o29 l30 l31) ∧
                      ∃ d32 : Addr, o0 = some d32 ∧
                      ((0 : Int) ≤ n14 ∧ n14 < ((l0 : Nat) : Int)) ∧
                      ∃ o33 : Option Addr, ∃ l34 : Nat, ∃ l35 : Nat, World.cell? w27 (Addr.add (Addr.add d32 ((Int.toNat n14) * 2)) 1) = some (.slice o33 l34 l35) ∧
                      Calls Try.prog 58 #[(.slice o13 l13 c13), (.slice o29 l30 l31), (.slice o33 l34 l35)] w27 (fun e36 w37 =>
                        ∃ o38 : Option Addr, ∃ l39 : Nat, ∃ l40 : Nat, e36 = .returned (.slice o38 l39 l40) ∧
                        I12 o38 l39 l40 (IntKind.wrap .i64 (n14 + 1)) w37 ∧ μ12 o38 l39 l40 (IntKind.wrap .i64 (n14 + 1)) w37 < μ12 o13 l13 c13 n14 w15))) ∧
                     ((b25 = false →
                      I12 o13 l13 c13 (IntKind.wrap .i64 (n14 + 1)) w26 ∧ μ12 o13 l13 c13 (IntKind.wrap .i64 (n14 + 1)) w26 < μ12 o13 l13 c13 n14 w15)))))) ∧
                 ((¬ n14 < ((l0 : Nat) : Int) →
                  Calls Try.prog 52 #[] w15 (fun e41 w42 =>
                    ∃ L43 : Array Value, e41 = .returned (.agg L43) ∧
                    Calls Try.prog 51 #[(.agg L43), (.slice none 0 0)] w42 (fun e44 w45 =>
                      ∃ o46 : Option Addr, e44 = .returned (.pointer o46) ∧
                      Calls Try.prog 52 #[] w45 (fun e47 w48 =>
                        ∃ L49 : Array Value, e47 = .returned (.agg L49) ∧
                        Calls Try.prog 51 #[(.agg L49), (.slice none 0 0)] w48 (fun e50 w51 =>
                          ∃ o52 : Option Addr, e50 = .returned (.pointer o52) ∧
                          ∃ (v53 : Value) (w54 : World), Sem.run Try.prog (builtinV .append #[44, 44] 44 #[(.slice none 0 0), (.slice o13 l13 c13)]) w51 = .ok v53 w54 ∧
                          ∃ o55 : Option Addr, ∃ l56 : Nat, ∃ l57 : Nat, v53 = (.slice o55 l56 l57) ∧
                          ∃ (I58 : Option Addr → Nat → Nat → Int → World → Prop) (μ58 : Option Addr → Nat → Nat → Int → World → Nat), I58 o55 l56 l57 0 w54 ∧
                          (∀ (o59 : Option Addr) (l59 : Nat) (c59 : Nat) (n60 : Int) (j61 : Nat → Value) (w61 : World), I58 o59 l59 c59 n60 w61 →
                            (((n60 < ((l13 : Nat) : Int) →
                              ∀ w62 : World, IsDrew w61 w62 →
                              ∃ d63 : Addr, o13 = some d63 ∧
                              ((0 : Int) ≤ n60 ∧ n60 < ((l13 : Nat) : Int)) ∧
                              ∃ o64 : Option Addr, ∃ l65 : Nat, ∃ l66 : Nat, World.cell? w62 (Addr.add d63 ((Int.toNat n60) * 2)) = some (.slice o64 l65 l66) ∧
                              ∃ d67 : Addr, o13 = some d67 ∧
                              ((0 : Int) ≤ n60 ∧ n60 < ((l13 : Nat) : Int)) ∧
                              ∃ o68 : Option Addr, ∃ l69 : Nat, ∃ l70 : Nat, World.cell? w62 (Addr.add (Addr.add d67 ((Int.toNat n60) * 2)) 1) = some (.slice o68 l69 l70) ∧
                              Calls Try.prog 55 #[(.pointer o46), (.slice o64 l65 l66), (.slice o68 l69 l70)] w62 (fun e71 w72 =>
                                ∃ n73 : Int, e71 = .returned (.int .i64 n73) ∧
                                ∃ (J74 : World → Prop), ((((n60 < ((l2 : Nat) : Int) →
                                   ∀ w75 : World, IsDrew w72 w75 →
                                   ∃ d76 : Addr, o2 = some d76 ∧
                                   ((0 : Int) ≤ n60 ∧ n60 < ((l2 : Nat) : Int)) ∧
                                   ∃ o77 : Option Addr, ∃ l78 : Nat, ∃ l79 : Nat, World.cell? w75 (Addr.add d76 ((Int.toNat n60) * 2)) = some (.slice o77 l78 l79) ∧
                                   ∃ d80 : Addr, o2 = some d80 ∧
                                   ((0 : Int) ≤ n60 ∧ n60 < ((l2 : Nat) : Int)) ∧
                                   ∃ o81 : Option Addr, ∃ l82 : Nat, ∃ l83 : Nat, World.cell? w75 (Addr.add (Addr.add d80 ((Int.toNat n60) * 2)) 1) = some (.slice o81 l82 l83) ∧
                                   Calls Try.prog 55 #[(.pointer o52), (.slice o77 l78 l79), (.slice o81 l82 l83)] w75 (fun e84 w85 =>
                                     ∃ n86 : Int, e84 = .returned (.int .i64 n86) ∧
                                     J74  w85))) ∧
                                  ((¬ n60 < ((l2 : Nat) : Int) →
                                   J74  w72)))) ∧
                                (∀  (j87 : Nat → Value) (w87 : World), J74  w87 →
                                  ∃ (J88 : Int → World → Prop), ((((n60 < ((l1 : Nat) : Int) →
                                     ∃ d89 : Addr, o1 = some d89 ∧
                                     ((0 : Int) ≤ n60 ∧ n60 < ((l1 : Nat) : Int)) ∧
                                     ∃ n90 : Int, World.cell? w87 (Addr.add d89 (Int.toNat n60)) = some (.int .i64 n90) ∧
                                     ((l59 : Nat) : Int) ≠ (0 : Int) ∧
                                     ((l59 : Nat) : Int) ≠ (0 : Int) ∧
                                     J88 (Int.tmod (IntKind.wrap .i64 ((Int.tmod n90 ((l59 : Nat) : Int)) + ((l59 : Nat) : Int))) ((l59 : Nat) : Int)) w87)) ∧
                                    ((¬ n60 < ((l1 : Nat) : Int) →
                                     J88 0 w87)))) ∧
                                  (∀ (n91 : Int) (j92 : Nat → Value) (w92 : World), J88 n91 w92 →
                                    ∀ w93 : World, IsDrew w92 w93 →
                                    ∃ d94 : Addr, o59 = some d94 ∧
                                    ((0 : Int) ≤ n91 ∧ n91 < ((l59 : Nat) : Int)) ∧
                                    ∃ o95 : Option Addr, ∃ l96 : Nat, ∃ l97 : Nat, World.cell? w93 (Addr.add d94 ((Int.toNat n91) * 2)) = some (.slice o95 l96 l97) ∧
                                    ∃ d98 : Addr, o59 = some d98 ∧
                                    ((0 : Int) ≤ n91 ∧ n91 < ((l59 : Nat) : Int)) ∧
                                    ∃ o99 : Option Addr, ∃ l100 : Nat, ∃ l101 : Nat, World.cell? w93 (Addr.add (Addr.add d98 ((Int.toNat n91) * 2)) 1) = some (.slice o99 l100 l101) ∧
                                    Calls Try.prog 55 #[(.pointer o52), (.slice o95 l96 l97), (.slice o99 l100 l101)] w93 (fun e102 w103 =>
                                      ∃ n104 : Int, e102 = .returned (.int .i64 n104) ∧
                                      ∀ w105 : World, IsDrew w103 w105 →
                                      ∃ v106 : Value, Sem.run Try.prog (Instr.sliceAt 44 (.slice o59 l59 c59) none (some (.int .i64 n91)) (some (.int .i64 n91))) w105 = .ok v106 w105 ∧
                                      ∃ o107 : Option Addr, ∃ l108 : Nat, ∃ l109 : Nat, v106 = (.slice o107 l108 l109) ∧
                                      ((0 : Int) ≤ (IntKind.wrap .i64 (n91 + 1)) ∧ (IntKind.wrap .i64 (n91 + 1)) ≤ ((l59 : Nat) : Int)) ∧
                                      ∃ (v110 : Value) (w111 : World), Sem.run Try.prog (builtinV .append #[44, 44] 44 #[(.slice o107 l108 l109), (.slice (subO o59 c59 (Int.toNat (IntKind.wrap .i64 (n91 + 1))) 2) (l59 - (Int.toNat (IntKind.wrap .i64 (n91 + 1)))) (c59 - (Int.toNat (IntKind.wrap .i64 (n91 + 1)))))]) w105 = .ok v110 w111 ∧
                                      ∃ o112 : Option Addr, ∃ l113 : Nat, ∃ l114 : Nat, v110 = (.slice o112 l113 l114) ∧
                                      I58 o112 l113 l114 (IntKind.wrap .i64 (n60 + 1)) w111 ∧ μ58 o112 l113 l114 (IntKind.wrap .i64 (n60 + 1)) w111 < μ58 o59 l59 c59 n60 w61)))))) ∧
                             ((¬ n60 < ((l13 : Nat) : Int) →
                              ∃ (I115 : Int → World → Prop) (μ115 : Int → World → Nat), I115 0 w61 ∧
                              (∀ (n116 : Int) (j117 : Nat → Value) (w117 : World), I115 n116 w117 →
                                (((n116 < ((l2 : Nat) : Int) →
                                  ∃ d118 : Addr, o2 = some d118 ∧
                                  ((0 : Int) ≤ n116 ∧ n116 < ((l2 : Nat) : Int)) ∧
                                  ∃ o119 : Option Addr, ∃ l120 : Nat, ∃ l121 : Nat, World.cell? w117 (Addr.add d118 ((Int.toNat n116) * 2)) = some (.slice o119 l120 l121) ∧
                                  Calls Try.prog 56 #[(.slice o13 l13 c13), (.slice o119 l120 l121)] w117 (fun e122 w123 =>
                                    ∃ o124 : Option Addr, ∃ l125 : Nat, ∃ l126 : Nat, ∃ b127 : Bool, e122 = .returned (.tuple #[(.slice o124 l125 l126), (.bool b127)]) ∧
                                    (((b127 = true →
                                      ∃ d128 : Addr, o2 = some d128 ∧
                                      ((0 : Int) ≤ n116 ∧ n116 < ((l2 : Nat) : Int)) ∧
                                      ∃ o129 : Option Addr, ∃ l130 : Nat, ∃ l131 : Nat, World.cell? w123 (Addr.add d128 ((Int.toNat n116) * 2)) = some (.slice o129 l130 l131) ∧
                                      Calls Try.prog 55 #[(.pointer o52), (.slice o129 l130 l131), (.slice o124 l125 l126)] w123 (fun e132 w133 =>
                                        ∃ n134 : Int, e132 = .returned (.int .i64 n134) ∧
                                        I115 (IntKind.wrap .i64 (n116 + 1)) w133 ∧ μ115 (IntKind.wrap .i64 (n116 + 1)) w133 < μ115 n116 w117))) ∧
                                     ((b127 = false →
                                      ∃ d135 : Addr, o2 = some d135 ∧
                                      ((0 : Int) ≤ n116 ∧ n116 < ((l2 : Nat) : Int)) ∧
                                      ∃ o136 : Option Addr, ∃ l137 : Nat, ∃ l138 : Nat, World.cell? w123 (Addr.add d135 ((Int.toNat n116) * 2)) = some (.slice o136 l137 l138) ∧
                                      Calls Try.prog 57 #[(.pointer o52), (.slice o136 l137 l138)] w123 (fun e139 w140 =>
                                        ∃ n141 : Int, e139 = .returned (.int .i64 n141) ∧
                                        I115 (IntKind.wrap .i64 (n116 + 1)) w140 ∧ μ115 (IntKind.wrap .i64 (n116 + 1)) w140 < μ115 n116 w117))))))) ∧
                                 ((¬ n116 < ((l2 : Nat) : Int) →
                                  Calls Try.prog 54 #[(.pointer o46)] w117 (fun e142 w143 =>
                                    ∃ L144 : Array Value, e142 = .returned (.agg L144) ∧
                                    Calls Try.prog 54 #[(.pointer o52)] w143 (fun e145 w146 =>
                                      ∃ L147 : Array Value, e145 = .returned (.agg L147) ∧
                                      ∃ v148 : Value, Sem.run Try.prog (semBin .eql 26 (.tmp 172) (.tmp 174) (.agg L144) (.agg L147)) w146 = .ok v148 w146 ∧
                                      ∃ b149 : Bool, v148 = (.bool b149) ∧
                                      (((b149 = true →
                                        Calls Try.prog 60 #[(.pointer o46)] w146 (fun e150 w151 =>
                                          ∃ o152 : Option Addr, ∃ l153 : Nat, ∃ l154 : Nat, e150 = .returned (.slice o152 l153 l154) ∧
                                          Calls Try.prog 60 #[(.pointer o52)] w151 (fun e155 w156 =>
                                            ∃ o157 : Option Addr, ∃ l158 : Nat, ∃ l159 : Nat, e155 = .returned (.slice o157 l158 l159) ∧
                                            Calls Try.prog 59 #[(.slice o152 l153 l154), (.slice o157 l158 l159)] w156 (fun e160 w161 =>
                                              ∃ b162 : Bool, e160 = .returned (.bool b162) ∧
                                              R (.returned (.bool b162)) w161))))) ∧
                                       ((b149 = false →
                                        R (.returned (.bool false)) w146)))))))))))))))))))))))))))))))))
theorem morainelaw14_TrieOrder.vc (o0 : Option Addr) (l0 : Nat) (c0 : Nat) (o1 : Option Addr) (l1 : Nat) (c1 : Nat) (o2 : Option Addr) (l2 : Nat) (c2 : Nat) (w : World) (R : Ending → World → Prop) (h : morainelaw14_TrieOrder.Vc o0 l0 c0 o1 l1 c1 o2 l2 c2 w R) : Calls Try.prog 15 #[(.slice o0 l0 c0), (.slice o1 l1 c1), (.slice o2 l2 c2)] w R :=
  execF_sound (ann := [(7, [(7, .cell (.slice)), (8, .cell (.int .i64))]), (1000010, [(48, .cell (.bool))]), (14, [(11, .cell (.slice)), (12, .cell (.int .i64))]), (1000019, []), (1000022, [(13, .cell (.int .i64))]), (25, [(14, .cell (.int .i64))])]) (args := [.slice o0 l0 c0, .slice o1 l1 c1, .slice o2 l2 c2]) Try.func15 mixed (Eq.mp (by kernel_rfl : morainelaw14_TrieOrder.Vc o0 l0 c0 o1 l1 c1 o2 l2 c2 w R = execF (pA Try.prog R) Try.prog [(7, [(7, .cell (.slice)), (8, .cell (.int .i64))]), (1000010, [(48, .cell (.bool))]), (14, [(11, .cell (.slice)), (12, .cell (.int .i64))]), (1000019, []), (1000022, [(13, .cell (.int .i64))]), (25, [(14, .cell (.int .i64))])] Try.f15 [.slice o0 l0 c0, .slice o1 l1 c1, .slice o2 l2 c2] w) h)

end Go.Proofs.Ytfghidehlnfdiaa
end

section
set_option linter.unusedVariables false
set_option linter.unusedSimpArgs false
namespace Go.Trie
theorem putM_snoc : ∀ {m : List (By × By)} {x : By × By}, SortedM (m ++ [x]) → x.2 ≠ [] → putM m x.1 x.2 = m ++ [x]
  | [], x, _, hv => by simp only [putM]; rw [if_neg hv]; rfl
  | y :: r, x, hs, hv => by
    rw [SortedM, List.cons_append, List.pairwise_cons] at hs
    simp only [putM]
    rw [if_pos (cmpB_lt.2 (hs.1 x (by simp))), putM_snoc hs.2 hv]
    rfl
end Go.Trie
namespace Go.Proofs.Ytfghidehlnfdiaa
open Go Go.Vcg Go.Trie
/-- What the map says of a path. -/
def gm (m : List (By × By)) (p : By) : Option By := findM (pathsOf m) p
theorem gm_some {m : List (By × By)} (hs : SortedM m) {p v : By} : gm m p = some v ↔ (p, v) ∈ pathsOf m := findM_some (paths_sorted hs)
theorem gm_rep {m : List (By × By)} {n : Nd} (hs : SortedM m) (h : Rep (pathsOf m) n) (p : By) : Trie.get n p = gm m p := by
  cases hg : gm m p with
  | none =>
    cases hq : Trie.get n p with
    | none => rfl
    | some v => have := (gm_some hs).2 ((h.2 _ _).1 hq); rw [hg] at this; cases this
  | some v => exact (h.2 _ _).2 ((gm_some hs).1 hg)
theorem gm_find {m : List (By × By)} (hs : SortedM m) (k : By) : gm m (nibbles k) = findM m k := by
  cases hg : findM m k with
  | none =>
    cases hq : gm m (nibbles k) with
    | none => rfl
    | some v => have := (findM_some hs).2 (mem_paths.1 ((gm_some hs).1 hq)); rw [hg] at this; cases this
  | some v => exact (gm_some hs).2 (mem_paths.2 ((findM_some hs).1 hg))
/-- A trie that says what the map says, but for the keys left and the keys S. -/
def Bt (m lf : List (By × By)) (S : By → Prop) (b : Nd) : Prop := ∀ p, Trie.get b p = gm m p ∨ (∃ x ∈ lf, p = nibbles x.1) ∨ ∃ k, S k ∧ p = nibbles k
theorem Bt.nil {m : List (By × By)} (hs : SortedM m) (S : By → Prop) : Bt m m S .nil := fun p => by
  cases hg : gm m p with
  | none => exact .inl rfl
  | some v =>
    have := (gm_some hs).1 hg
    unfold pathsOf at this
    obtain ⟨x, hx, he⟩ := List.mem_map.1 this
    exact .inr (.inl ⟨x, hx, (Prod.mk.inj he).1.symm⟩)
theorem Bt.put {m lf lf' : List (By × By)} {S S' : By → Prop} {b : Nd} {k v : By} (h : Bt m lf S b) (hc : Canon b) (hs : SortedM m) (hv : v ≠ []) (hm : (k, v) ∈ m ∨ S' k) (hl : ∀ y ∈ lf, y.1 = k ∨ y ∈ lf') (hS : ∀ y, S y → y = k ∨ S' y) : Bt m lf' S' (Trie.put b (nibbles k) v) := fun p => by
  rw [(put_ok hc (nib_nibbles k) hv).2.2.2 p]
  by_cases hp : p = nibbles k
  · rw [if_pos hp]
    rcases hm with hm | hm
    · exact .inl ((gm_some hs).2 (hp ▸ mem_paths.2 hm)).symm
    · exact .inr (.inr ⟨k, hm, hp⟩)
  · rw [if_neg hp]
    rcases h p with h1 | ⟨x, hx, h1⟩ | ⟨x, hx, h1⟩
    · exact .inl h1
    · rcases hl x hx with h2 | h2
      · exact (hp (by rw [h1, h2])).elim
      · exact .inr (.inl ⟨x, h2, h1⟩)
    · rcases hS x hx with h2 | h2
      · exact (hp (by rw [h1, h2])).elim
      · exact .inr (.inr ⟨x, h2, h1⟩)
theorem Bt.del {m lf : List (By × By)} {S S' : By → Prop} {b : Nd} {k : By} (h : Bt m lf S b) (hc : Canon b) (hs : SortedM m) (hf : findM m k = none) (hS : ∀ y, S y → y = k ∨ S' y) : Bt m lf S' (Trie.remove b (nibbles k)).1 := fun p => by
  rw [(remove_ok hc (nib_nibbles k)).2.2.1 p]
  by_cases hp : p = nibbles k
  · rw [if_pos hp, hp, gm_find hs, hf]
    exact .inl rfl
  · rw [if_neg hp]
    rcases h p with h1 | h1 | ⟨x, hx, h1⟩
    · exact .inl h1
    · exact .inr (.inl h1)
    · rcases hS x hx with h2 | h2
      · exact (hp (by rw [h1, h2])).elim
      · exact .inr (.inr ⟨x, h2, h1⟩)
theorem Bt.mono {m lf : List (By × By)} {S S' : By → Prop} {b : Nd} (h : Bt m lf S b) (hS : ∀ y, S y → S' y) : Bt m lf S' b := fun p => by
  rcases h p with h1 | h1 | ⟨x, hx, h1⟩
  · exact .inl h1
  · exact .inr (.inl h1)
  · exact .inr (.inr ⟨x, hS x hx, h1⟩)
theorem Bt.same {m : List (By × By)} {a b : Nd} (h : Bt m [] (fun _ => False) b) (hs : SortedM m) (hb : Canon b) (ha : Canon a) (hr : Rep (pathsOf m) a) : a = b :=
  uniq ha hb (fun p => by
    rw [gm_rep hs hr]
    rcases h p with h1 | ⟨x, hx, _⟩ | ⟨x, hx, _⟩
    · exact h1.symm
    · cases hx
    · exact hx.elim)
/-- A map that is made. -/
structure MS (w0 w : World) (L : Nat → Nat) (o : Option Addr) (k : Nat) (m : List (By × By)) (b : Nat) : Prop where
  mod : Vcg.Mod NoB w0 w
  old : ∀ k, k < w0.heap.size → L k = 0
  row : KvR w L 3 o m
  cap : m.length ≤ k
  srt : SortedM m
  keys : ∀ e ∈ m, e.1.length ≤ 64
  vals : ∀ e ∈ m, e.2.length ≤ 1024
  ne : ∀ e ∈ m, e.2 ≠ []
  len : m.length ≤ b
/-- Two tries beside their map. Colours: 1, 2 the one's, 4, 5 the other's, 3 the map's, 7 what is left of it. -/
structure OS (w0 w : World) (L : Nat → Nat) (ta tb : Nat) (na nb : Nd) (o : Option Addr) (m : List (By × By)) : Prop where
  mod : Vcg.Mod NoB w0 w
  old : ∀ k, k < w0.heap.size → L k = 0
  ta : TrieAt w L 1 2 ta na
  tb : TrieAt w L 4 5 tb nb
  row : KvR w L 3 o m
section
variable {w0 w w' : World} {L L' : Nat → Nat} {ta tb : Nat} {na nb n' : Nd} {o : Option Addr} {m : List (By × By)}
theorem tAt_canon {L : Nat → Nat} {a b t : Nat} {n : Nd} (h : TrieAt w L a b t n) : Canon n := by obtain ⟨_, _, _, _, hc, _⟩ := h; exact hc
theorem mod_stp {S : Nat → Prop} (hm : Vcg.Mod NoB w0 w) (ho : ∀ k, k < w0.heap.size → L k = 0) (s : Stp S w L w' L') (h0 : ¬ S 0) : Vcg.Mod NoB w0 w' :=
  hm.trans (s.mod (Q := fun k => w0.heap.size ≤ k) (fun k hk hs => Nat.not_lt.1 fun hlt => h0 (by rw [← ho k hlt]; exact hs))) (fun i hi hq => by omega)
theorem OS.stp {S : Nat → Prop} (h : OS w0 w L ta tb na nb o m) (s : Stp S w L w' L') (h0 : ¬ S 0) (h1 : ¬ S 1) (h2 : ¬ S 2) (h3 : ¬ S 3) (h4 : ¬ S 4) (h5 : ¬ S 5) : OS w0 w' L' ta tb na nb o m :=
  ⟨mod_stp h.mod h.old s h0, fun k hk => by rw [s.lab k (Nat.lt_of_lt_of_le hk h.mod.size)]; exact h.old k hk, h.ta.stp s h1 h2, h.tb.stp s h4 h5, h.row.stp s h3⟩
theorem OS.mod' (h : OS w0 w L ta tb na nb o m) (M : Vcg.Mod NoB w w') (q : Nat) : OS w0 w' (ext L w.heap.size q) ta tb na nb o m :=
  h.stp (S := NoS) (Stp.of_nob M q) (fun h => h) (fun h => h) (fun h => h) (fun h => h) (fun h => h) (fun h => h)
theorem OS.doA (h : OS w0 w L ta tb na nb o m) (s : Stp (· = 1) w L w' (ext L w.heap.size 2)) (A : TrieAt w' (ext L w.heap.size 2) 1 2 ta n') : OS w0 w' (ext L w.heap.size 2) ta tb n' nb o m :=
  ⟨mod_stp h.mod h.old s (by decide), ext_zero h.mod.size h.old, A, h.tb.stp s (by decide) (by decide), h.row.stp s (by decide)⟩
theorem OS.doB (h : OS w0 w L ta tb na nb o m) (s : Stp (· = 4) w L w' (ext L w.heap.size 5)) (A : TrieAt w' (ext L w.heap.size 5) 4 5 tb n') : OS w0 w' (ext L w.heap.size 5) ta tb na n' o m :=
  ⟨mod_stp h.mod h.old s (by decide), ext_zero h.mod.size h.old, h.ta.stp s (by decide) (by decide), A, h.row.stp s (by decide)⟩
/-- What is left of the map. -/
def LeftR (w : World) (L : Nat → Nat) (o : Option Addr) (lf : List (By × By)) : Prop := ∃ vs, CRow w L 7 o vs ∧ KvCells w L 3 vs lf
theorem LeftR.stp {S : Nat → Prop} {lf : List (By × By)} (h : LeftR w L o lf) (s : Stp S w L w' L') (h3 : ¬ S 3) (h7 : ¬ S 7) : LeftR w' L' o lf := by
  obtain ⟨vs, a, b⟩ := h
  exact ⟨vs, a.stp s h7, b.stp s h3⟩
theorem LeftR.at {lf : List (By × By)} (h : LeftR w L o lf) {j : Nat} (hj : j < lf.length) : ∃ b f ok kk ov kv, o = some ⟨b, f, none⟩ ∧ w.cell? ⟨b, f + j * 2, none⟩ = some (.slice ok lf[j].1.length kk) ∧ RdB w ok lf[j].1 ∧ w.cell? ⟨b, f + (j * 2 + 1), none⟩ = some (.slice ov lf[j].2.length kv) ∧ RdB w ov lf[j].2 := by
  obtain ⟨vs, hR, hC⟩ := h
  obtain ⟨ok, kk, ov, kv, a, b, d, e⟩ := hC.2 j hj
  obtain ⟨g, f, ho, hg, hl, hc⟩ := hR _ _ a
  obtain ⟨g', f', ho', _, _, hc'⟩ := hR _ _ d
  rw [ho] at ho'; cases ho'
  exact ⟨g, f, ok, kk, ov, kv, ho, hc, b.rd, hc', e.rd⟩
theorem kv_info : ∃ i, Try.prog.info? tKv = some i ∧ i.zero = some (.agg #[.slice none 0 0, .slice none 0 0]) ∧ i.size = 2 ∧ i.bytes = 48 := info_of info_kv
theorem append_zero {g f l c : Nat} {x : Value} (src : Src Try.prog 2 tSlKv x 0 [] w) (hl : l ≤ c) :
    Sem.run Try.prog (builtinV .append #[tSlKv, tSlKv] tSlKv #[.slice (some ⟨g, f, none⟩) l c, x]) w = .ok (.slice (some ⟨g, f, none⟩) l c) w := by
  obtain ⟨i, hi, hz, hs, hb⟩ := kv_info
  have hr := run_append_room_src (P := Try.prog) w tSlKv tSlKv tSlKv tKv i und_slKv hi g f l c x 0 [] (hs ▸ src) (by omega) (fun j hj => by simp at hj) (fun j hj => by simp at hj)
  exact hr
/-- An entry is taken out of what is left. -/
theorem cut_left {lf : List (By × By)} {c a : Nat} (h : LeftR w L o lf) (ha : a < lf.length) (hc : lf.length ≤ c) (hb : lf.length ≤ 2 ^ 20) :
    ∃ o' c' w', Sem.run Try.prog (builtinV .append #[44, 44] 44 #[.slice o a a, .slice (subO o c (a + 1) 2) (lf.length - (a + 1)) (c - (a + 1))]) w = .ok (.slice o' (lf.length - 1) c') w' ∧ lf.length - 1 ≤ c' ∧
      Stp NoS w L w' (ext L w.heap.size 7) ∧ LeftR w' (ext L w.heap.size 7) o' (lf.take a ++ lf.drop (a + 1)) := by
  obtain ⟨vs, hR, hC⟩ := h
  have hl := hC.1
  obtain ⟨i, hi, hz, hs, hbb⟩ := kv_info
  have T1 := CRow.take hR (a * 2)
  have T2 := CRow.drop hR (cap := c) (n := a + 1) (sz := 2) (by omega)
  have K1 := hC.take (n := a) (by omega)
  have K2 := hC.drop (n := a + 1) (by omega)
  have src : Src Try.prog 2 tSlKv (.slice (subO o c (a + 1) 2) (lf.length - (a + 1)) (c - (a + 1))) (lf.length - (a + 1)) (vs.drop ((a + 1) * 2)) w :=
    CRow.src T2 und_slKv (by rw [List.length_drop, hl]; omega) (fun u hu => KvCells.one hC u (List.mem_of_mem_drop hu)) _ (by decide)
  by_cases h1 : a + 1 = lf.length
  · obtain ⟨v, hv⟩ : ∃ v, vs[0]? = some v := ⟨vs[0]'(by omega), List.getElem?_eq_getElem (by omega)⟩
    obtain ⟨g, f, rfl, _, _, _⟩ := hR 0 v hv
    have hd : vs.drop ((a + 1) * 2) = [] := List.drop_eq_nil_of_le (by omega)
    rw [hd, show lf.length - (a + 1) = 0 by omega] at src
    refine ⟨some ⟨g, f, none⟩, a, w, ?_, by omega, ?_, ?_⟩
    · rw [show lf.length - (a + 1) = 0 by omega, show lf.length - 1 = a by omega]
      exact append_zero src (Nat.le_refl _)
    · exact Stp.of_nob (Mod.refl w) 7
    · have s : Stp NoS w L w (ext L w.heap.size 7) := Stp.of_nob (Mod.refl w) 7
      rw [show lf.drop (a + 1) = [] from List.drop_eq_nil_of_le (by omega), List.append_nil]
      exact ⟨_, T1.stp s (fun h => h), K1.stp s (fun h => h)⟩
  · obtain ⟨q, hq⟩ : ∃ q, lf.length - (a + 1) = q + 1 := ⟨lf.length - (a + 1) - 1, by omega⟩
    rw [hq] at src ⊢
    obtain ⟨o', c', w', hr, F⟩ := append_full (tx := tSlKv) (ty := tSlKv) T1 und_slKv hi hz hs rfl (by decide) (l := a) (by rw [List.length_take, hl]; omega) src (by simp only [maxLen]; omega) (by rw [hbb]; omega)
    obtain ⟨O, s⟩ := F.done (lab := L) (7 : Nat)
    refine ⟨o', c', w', ?_, ?_, s, _, O.row, (K1.stp s (fun h => h)).append (K2.stp s (fun h => h))⟩
    · rw [show lf.length - 1 = a + (q + 1) by omega]; exact hr
    · have := O.own.cap.1; omega
end
end Go.Proofs.Ytfghidehlnfdiaa
end
