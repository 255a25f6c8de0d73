/- The verification conditions of some functions, printed by a program of ours (wip/PrintVc.lean). -/
/- The walk of TrieMany. -/
/- Arguments: how long they can be. -/
import Derived.Test.YtfghidehlnfdiaaXLk
import Derived.Test.YtfghidehlnfdiaaProg
import Derived.KernelRfl
import Derived.Test.YtfghidehlnfdiaaTL2
import Derived.Test.YtfghidehlnfdiaaTQ1
import Derived.SizedLaws
section
set_option linter.unusedVariables false
namespace Go.Proofs.Ytfghidehlnfdiaa
open Go Go.Vcg
/-! moraine/trie.Secure: 44 -/
abbrev trie_Secure.n : Nat := 44
def trie_Secure.Vc (o0 : Option Addr) (l0 : Nat) (c0 : Nat) (w : World) (R : Ending → World → Prop) : Prop :=
  ∀ (d1 : Addr) (w2 : World), IsNew w 22 #[(.slice o0 l0 c0)] d1 w2 →
  Calls Try.prog 19 #[(.slice (some d1) 1 1)] w2 (fun e3 w4 =>
    ∃ L5 : Array Value, e3 = .returned (.agg L5) ∧
    ∀ (d6 : Addr) (w7 : World), IsNew w4 26 (Array.replicate 32 (.int .u8 0)) d6 w7 →
    ∃ w8 : World, Sem.run Try.prog (Instr.storeAt 26 (.pointer (some d6)) (.agg L5)) w7 = .ok () w8 ∧
    R (.returned (.slice (some d6) 32 32)) w8)
theorem trie_Secure.vc (o0 : Option Addr) (l0 : Nat) (c0 : Nat) (w : World) (R : Ending → World → Prop) (h : trie_Secure.Vc o0 l0 c0 w R) : Calls Try.prog 44 #[(.slice o0 l0 c0)] w R :=
  execF_sound (ann := []) (args := [.slice o0 l0 c0]) Try.func44 mixed (Eq.mp (by kernel_rfl : trie_Secure.Vc o0 l0 c0 w R = execF (pA Try.prog R) Try.prog [] Try.f44 [.slice o0 l0 c0] w) h)

/-! moraine/morainelaw14.TrieMany: 13 -/
abbrev morainelaw14_TrieMany.n : Nat := 13
def morainelaw14_TrieMany.Vc (n0 : Int) (n1 : Int) (n2 : Int) (w : World) (R : Ending → World → Prop) : Prop :=
  Calls Try.prog 37 #[] w (fun e3 w4 =>
    ∃ b5 : Bool, e3 = .returned (.bool b5) ∧
    (((b5 = false →
      R (.returned (.bool false)) w4)) ∧
     ((b5 = true →
      (((n0 < 1 →
        R (.returned (.bool true)) w4)) ∧
       ((¬ n0 < 1 →
        (((n0 > 60 →
          R (.returned (.bool true)) w4)) ∧
         ((¬ n0 > 60 →
          (((n1 < 1 →
            R (.returned (.bool true)) w4)) ∧
           ((¬ n1 < 1 →
            (((n1 > 60 →
              R (.returned (.bool true)) w4)) ∧
             ((¬ n1 > 60 →
              (((n2 < 1 →
                R (.returned (.bool true)) w4)) ∧
               ((¬ n2 < 1 →
                (((n2 > 60 →
                  R (.returned (.bool true)) w4)) ∧
                 ((¬ n2 > 60 →
                  Calls Try.prog 52 #[] w4 (fun e6 w7 =>
                    ∃ L8 : Array Value, e6 = .returned (.agg L8) ∧
                    Calls Try.prog 51 #[(.agg L8), (.slice none 0 0)] w7 (fun e9 w10 =>
                      ∃ o11 : Option Addr, e9 = .returned (.pointer o11) ∧
                      ∃ (I12 : Option Addr → Nat → Nat → Int → World → Prop) (μ12 : Option Addr → Nat → Nat → Int → World → Nat), I12 none 0 0 0 w10 ∧
                      (∀ (o13 : Option Addr) (l13 : Nat) (c13 : Nat) (n14 : Int) (j15 : Nat → Value) (w15 : World), I12 o13 l13 c13 n14 w15 →
                        (((n14 < n0 →
                          ∀ (d16 : Addr) (w17 : World), IsNew w15 5 #[(.int .u8 (IntKind.wrap .u8 (Int.tmod (IntKind.wrap .i64 (n14 * n1)) 61)))] d16 w17 →
                          Calls Try.prog 44 #[(.slice (some d16) 1 1)] w17 (fun e18 w19 =>
                            ∃ o20 : Option Addr, ∃ l21 : Nat, ∃ l22 : Nat, e18 = .returned (.slice o20 l21 l22) ∧
                            ∀ (d23 : Addr) (w24 : World), IsNew w19 5 #[(.int .u8 (IntKind.wrap .u8 n14)), (.int .u8 1)] d23 w24 →
                            Calls Try.prog 55 #[(.pointer o11), (.slice o20 l21 l22), (.slice (some d23) 2 2)] w24 (fun e25 w26 =>
                              ∃ n27 : Int, e25 = .returned (.int .i64 n27) ∧
                              (((n27 ≠ 0 →
                                R (.returned (.bool false)) w26)) ∧
                               ((n27 = 0 →
                                Calls Try.prog 58 #[(.slice o13 l13 c13), (.slice o20 l21 l22), (.slice (some d23) 2 2)] w26 (fun e28 w29 =>
                                  ∃ o30 : Option Addr, ∃ l31 : Nat, ∃ l32 : Nat, e28 = .returned (.slice o30 l31 l32) ∧
                                  I12 o30 l31 l32 (IntKind.wrap .i64 (n14 + 1)) w29 ∧ μ12 o30 l31 l32 (IntKind.wrap .i64 (n14 + 1)) w29 < μ12 o13 l13 c13 n14 w15)))))))) ∧
                         ((¬ n14 < n0 →
                          Calls Try.prog 27 #[(.slice o13 l13 c13)] w15 (fun e33 w34 =>
                            ∃ L35 : Array Value, ∃ o36 : Option Addr, ∃ l37 : Nat, ∃ l38 : Nat, e33 = .returned (.tuple #[(.agg L35), (.slice o36 l37 l38)]) ∧
                            ∀ (d39 : Addr) (w40 : World), IsNew w34 26 (Array.replicate 32 (.int .u8 0)) d39 w40 →
                            ∃ w41 : World, Sem.run Try.prog (Instr.storeAt 26 (.pointer (some d39)) (.agg L35)) w40 = .ok () w41 ∧
                            ∀ w42 : World, IsDrew w41 w42 →
                            ∃ L43 : Array Value, RowAt w42 d39 32 L43 ∧
                            Calls Try.prog 54 #[(.pointer o11)] w42 (fun e44 w45 =>
                              ∃ L46 : Array Value, e44 = .returned (.agg L46) ∧
                              RowAt w45 d39 32 L43 ∧
                              ∃ v47 : Value, Sem.run Try.prog (semBin .neq 26 (.tmp 72) (.tmp 73) (.agg L46) (.agg L43)) w45 = .ok v47 w45 ∧
                              ∃ b48 : Bool, v47 = (.bool b48) ∧
                              (((b48 = true →
                                R (.returned (.bool false)) w45)) ∧
                               ((b48 = false →
                                ∃ (I49 : Option Addr → Nat → Nat → Int → World → Prop) (μ49 : Option Addr → Nat → Nat → Int → World → Nat), I49 o13 l13 c13 0 w45 ∧
                                (∀ (o50 : Option Addr) (l50 : Nat) (c50 : Nat) (n51 : Int) (j52 : Nat → Value) (w52 : World), I49 o50 l50 c50 n51 w52 →
                                  (((n51 < 61 →
                                    ∀ (d53 : Addr) (w54 : World), IsNew w52 5 #[(.int .u8 (IntKind.wrap .u8 n51))] d53 w54 →
                                    Calls Try.prog 44 #[(.slice (some d53) 1 1)] w54 (fun e55 w56 =>
                                      ∃ o57 : Option Addr, ∃ l58 : Nat, ∃ l59 : Nat, e55 = .returned (.slice o57 l58 l59) ∧
                                      Calls Try.prog 57 #[(.pointer o11), (.slice o57 l58 l59)] w56 (fun e60 w61 =>
                                        ∃ n62 : Int, e60 = .returned (.int .i64 n62) ∧
                                        (((n62 ≠ 0 →
                                          R (.returned (.bool false)) w61)) ∧
                                         ((n62 = 0 →
                                          Calls Try.prog 58 #[(.slice o50 l50 c50), (.slice o57 l58 l59), (.slice none 0 0)] w61 (fun e63 w64 =>
                                            ∃ o65 : Option Addr, ∃ l66 : Nat, ∃ l67 : Nat, e63 = .returned (.slice o65 l66 l67) ∧
                                            I49 o65 l66 l67 (IntKind.wrap .i64 (n51 + n2)) w64 ∧ μ49 o65 l66 l67 (IntKind.wrap .i64 (n51 + n2)) w64 < μ49 o50 l50 c50 n51 w52)))))))) ∧
                                   ((¬ n51 < 61 →
                                    Calls Try.prog 27 #[(.slice o50 l50 c50)] w52 (fun e68 w69 =>
                                      ∃ L70 : Array Value, ∃ o71 : Option Addr, ∃ l72 : Nat, ∃ l73 : Nat, e68 = .returned (.tuple #[(.agg L70), (.slice o71 l72 l73)]) ∧
                                      ∃ w74 : World, Sem.run Try.prog (Instr.storeAt 26 (.pointer (some d39)) (.agg L70)) w69 = .ok () w74 ∧
                                      ∀ w75 : World, IsDrew w74 w75 →
                                      ∃ L76 : Array Value, RowAt w75 d39 32 L76 ∧
                                      Calls Try.prog 54 #[(.pointer o11)] w75 (fun e77 w78 =>
                                        ∃ L79 : Array Value, e77 = .returned (.agg L79) ∧
                                        RowAt w78 d39 32 L76 ∧
                                        ∃ v80 : Value, Sem.run Try.prog (semBin .eql 26 (.tmp 97) (.tmp 98) (.agg L79) (.agg L76)) w78 = .ok v80 w78 ∧
                                        ∃ b81 : Bool, v80 = (.bool b81) ∧
                                        (((b81 = true →
                                          (((((l50 : Nat) : Int) > 0 →
                                            R (.returned (.bool true)) w78)) ∧
                                           ((¬ ((l50 : Nat) : Int) > 0 →
                                            ∃ L82 : Array Value, RowAt w78 d39 32 L82 ∧
                                            Calls Try.prog 52 #[] w78 (fun e83 w84 =>
                                              ∃ L85 : Array Value, e83 = .returned (.agg L85) ∧
                                              RowAt w84 d39 32 L82 ∧
                                              ∃ v86 : Value, Sem.run Try.prog (semBin .eql 26 (.tmp 105) (.tmp 106) (.agg L82) (.agg L85)) w84 = .ok v86 w84 ∧
                                              ∃ b87 : Bool, v86 = (.bool b87) ∧
                                              R (.returned (.bool b87)) w84)))))) ∧
                                         ((b81 = false →
                                          R (.returned (.bool false)) w78))))))))))))))))))))))))))))))))))))))))))
theorem morainelaw14_TrieMany.vc (n0 : Int) (n1 : Int) (n2 : Int) (w : World) (R : Ending → World → Prop) (h : morainelaw14_TrieMany.Vc n0 n1 n2 w R) : Calls Try.prog 13 #[(.int .i64 n0), (.int .i64 n1), (.int .i64 n2)] w R :=
  execF_sound (ann := [(8, [(8, .cell (.slice)), (9, .cell (.int .i64))]), (19, [(8, .cell (.slice)), (14, .cell (.int .i64))])]) (args := [.int .i64 n0, .int .i64 n1, .int .i64 n2]) Try.func13 mixed (Eq.mp (by kernel_rfl : morainelaw14_TrieMany.Vc n0 n1 n2 w R = execF (pA Try.prog R) Try.prog [(8, [(8, .cell (.slice)), (9, .cell (.int .i64))]), (19, [(8, .cell (.slice)), (14, .cell (.int .i64))])] Try.f13 [.int .i64 n0, .int .i64 n1, .int .i64 n2] w) h)

end Go.Proofs.Ytfghidehlnfdiaa
end

section
set_option linter.unusedVariables false
set_option linter.unusedSimpArgs false
namespace Go.Proofs.Ytfghidehlnfdiaa
open Go Go.Vcg Go.Trie
theorem Secure_calls {w : World} {o : Option Addr} {k : Nat} {key : By} (hk : RdB w o key) (hl : key.length ≤ 2 ^ 40) :
    Calls Try.prog trie_Secure.n #[.slice o key.length k] w (fun e w' => ∃ b, e = .returned (.slice (some ⟨b, 0, none⟩) 32 32) ∧ w.heap.size ≤ b ∧ Vcg.Mod NoB w w' ∧ RdB w' (some ⟨b, 0, none⟩) (sumOf key)) := by
  refine trie_Secure.vc _ _ _ _ _ ?_
  unfold trie_Secure.Vc
  rintro d w1 ⟨rfl, rfl⟩
  have B1 := Blk.new w 22 #[.slice o key.length k]
  have M1 := Mod.alloc (S := NoB) w (.cells #[.slice o key.length k] 22)
  refine (Sum_calls [key] rfl (by simp) (RdBB.one B1 (hk.mod' M1)) (by simpa using hl)).mono ?_
  rintro _ w2 ⟨rfl, M2⟩
  have e : [key].flatten = key := by simp
  rw [e]
  refine ⟨_, rfl, ?_⟩
  rintro d w3 ⟨rfl, rfl⟩
  have H3 := Blk.new w2 26 (Array.replicate 32 (.int .u8 0))
  obtain ⟨g1, g2, g3⟩ := hash_store H3 (by simp) (sumOf key)
  have M02 := M1.trans M2 (fun _ _ h => h)
  refine ⟨_, g1, _, rfl, M02.size, mod_of (M02.step_alloc _) g3 M02.size, RdB.of_blk g2 (fun j hj => ?_)⟩
  rw [length_sumOf] at hj
  simp only [Nat.zero_add, hashA]
  exact get_arrOf_lt hj
theorem hash_ne_row {w : World} (x y : Operand) {a b : By} (ha : a.length = 32) (hb : b.length = 32) (h : a = b) : Sem.run Try.prog (semBin .neq tHash x y (.agg (hashA a)) (.agg (hashA b))) w = .ok (.bool false) w := by
  rw [hash_ne x y ha hb]; simp [h]
theorem root_empty {n : Nd} (hc : Canon n) (h : Rep (pathsOf []) n) : rootOf n = emptyH := by
  rw [h.nil_inv hc, Trie.rootOf, bytes_nil]; rfl
theorem Many_calls (w : World) (a0 a1 a2 : Int) :
    Calls Try.prog morainelaw14_TrieMany.n #[.int .i64 a0, .int .i64 a1, .int .i64 a2] w (fun e w' => e = .returned (.bool true) ∧ Vcg.Mod NoB w w') := by
  refine morainelaw14_TrieMany.vc _ _ _ _ _ ?_
  unfold morainelaw14_TrieMany.Vc
  refine (known14_calls w).mono ?_
  rintro _ w1 ⟨rfl, M1⟩
  refine ⟨_, rfl, fun h => (by cases h), fun _ => ⟨fun _ => ⟨rfl, M1⟩, fun h1 => ⟨fun _ => ⟨rfl, M1⟩, fun h2 => ⟨fun _ => ⟨rfl, M1⟩, fun h3 => ⟨fun _ => ⟨rfl, M1⟩, fun h4 => ⟨fun _ => ⟨rfl, M1⟩, fun h5 => ⟨fun _ => ⟨rfl, M1⟩, fun h6 => ?_⟩⟩⟩⟩⟩⟩⟩
  refine (Empty_calls w1).mono ?_
  rintro _ w2 ⟨rfl, M2⟩
  refine ⟨_, rfl, (tNew_calls w2 0).mono ?_⟩
  rintro _ w3 ⟨t, gv, rfl, M3, ht, T⟩
  have S3 := LS.new (M1.trans M2 (fun _ _ h => h)) M3 ht T
  generalize ext (fun _ => 0) w2.heap.size 1 = L3 at *
  refine ⟨_, rfl, ?_⟩
  refine ⟨fun o l k i w' => ∃ (j : Nat) (m : List (By × By)) (n : Nd) (L : Nat → Nat), i = (j : Int) ∧ i ≤ a0 ∧ l = m.length ∧ LS w w' L t n o k m j, fun _ _ _ i _ => (a0 - i).toNat, ⟨0, [], .nil, L3, rfl, by omega, rfl, S3⟩, ?_⟩
  rintro o4 _ k4 _ _ w4 ⟨j, m, n, L4, rfl, hj, rfl, S4⟩
  refine ⟨fun hlt => ?_, fun hge => ?_⟩
  · rintro d w5 ⟨rfl, rfl⟩
    obtain ⟨x, hx⟩ := wrap_u8_byte (Int.tmod (IntKind.wrap .i64 ((j : Int) * a1)) 61)
    rw [hx]
    have r5 : RdB (w4.alloc (.cells #[.int .u8 (x.toNat : Int)] 5)) (some ⟨w4.heap.size, 0, none⟩) [x] := cells_bytes rfl
    have M5 := Mod.alloc (S := NoB) w4 (.cells #[.int .u8 (x.toNat : Int)] 5)
    have z5 := M5.size
    refine (Secure_calls (k := 1) r5 (by simp)).mono ?_
    rintro _ w6 ⟨b6, rfl, hb6, M6, r6⟩
    refine ⟨_, _, _, rfl, ?_⟩
    rintro d w7 ⟨rfl, rfl⟩
    obtain ⟨y, hy⟩ := wrap_u8_byte (j : Int)
    rw [hy]
    have r7 : RdB (w6.alloc (.cells #[.int .u8 (y.toNat : Int), .int .u8 1] 5)) (some ⟨w6.heap.size, 0, none⟩) [y, 1] := cells_bytes rfl
    have M7 := Mod.alloc (S := NoB) w6 (.cells #[.int .u8 (y.toNat : Int), .int .u8 1] 5)
    have M46 := M5.trans M6 (fun _ _ h => h)
    have S7 := S4.mod' (M46.trans M7 (fun _ _ h => h)) 0
    have z6 := M46.size
    have b6' : CBy (w6.alloc (.cells #[.int .u8 (y.toNat : Int), .int .u8 1] 5)) (ext L4 w4.heap.size 0) 0 (some ⟨b6, 0, none⟩) (sumOf [x]) := ⟨r6.mod' M7, fun _ d hd => by cases hd; exact ext_new (by dsimp only; omega)⟩
    have b7 : CBy (w6.alloc (.cells #[.int .u8 (y.toNat : Int), .int .u8 1] 5)) (ext L4 w4.heap.size 0) 0 (some ⟨w6.heap.size, 0, none⟩) [y, 1] := ⟨r7, fun _ d hd => by cases hd; exact ext_new z6⟩
    generalize w6.alloc (.cells #[.int .u8 (y.toNat : Int), .int .u8 1] 5) = w7 at *
    generalize ext L4 w4.heap.size 0 = L7 at *
    have hsl : (sumOf [x]).length = 32 := length_sumOf _
    obtain ⟨e1, e2, e3⟩ := S7.put (key := sumOf [x]) (v := [y, 1]) (by omega) (by simp) (by simp)
    have hP := Put_calls (k := 32) (kx := 2) S7.trie (by decide) b6'.rd b7.rd
    rw [e1, hsl] at hP
    refine hP.mono ?_
    rintro _ w8 ⟨rfl, s8, A8⟩
    generalize ext L7 w7.heap.size 2 = L8 at *
    have R8 := S7.row.stp s8 (by decide)
    have b68 := b6'.stp s8 (by decide)
    have b78 := b7.stp s8 (by decide)
    have hR8 := rPut_calls (k := k4) (kk := 32) (kv := 2) R8 (S4.kv (by omega)) S4.cap b68.rd b78.rd (by omega) (by simp) (by have := S4.len; omega)
    rw [hsl] at hR8
    refine ⟨_, rfl, fun h => (h rfl).elim, fun _ => hR8.mono ?_⟩
    rintro _ w9 ⟨o9, k9, rfl, hk9, M9, R9⟩
    have S9 := S7.next s8 A8 M9 R9 hk9 e2 (by omega) (by simp) e3
    exact ⟨_, _, _, rfl, ⟨j + 1, _, _, _, by rw [wrap_i64_small (by omega) (by omega)]; omega, by rw [wrap_i64_small (by omega) (by omega)]; omega, rfl, S9⟩, by dsimp only; rw [wrap_i64_small (by omega) (by omega)]; omega⟩
  · have hj60 : j ≤ 60 := by omega
    refine (Of_calls (k := k4) S4.row.row (S4.kv (by omega)) S4.rep S4.canon S4.small (by have := S4.cnt; omega) 0).mono ?_
    rintro _ w5 ⟨o5, k5, rfl, M5, _⟩
    refine ⟨_, _, _, _, rfl, ?_⟩
    rintro d w6 ⟨rfl, rfl⟩
    have H6 := Blk.new w5 26 (Array.replicate 32 (.int .u8 0))
    obtain ⟨g1, g2, g3⟩ := hash_store H6 (by simp) (rootOf n)
    have M6 := mod_of (M5.step_alloc (.cells (Array.replicate 32 (.int .u8 0)) 26)) g3 M5.size
    refine ⟨_, g1, ?_⟩
    rintro _ rfl
    have M7 := M6.step_drew
    have D7 : Blk (((w5.alloc (.cells (Array.replicate 32 (.int .u8 0)) 26)).setRow w5.heap.size (hashA (rootOf n))).drew) w5.heap.size tHash (hashA (rootOf n)) := g2.drew
    have hge := M5.size
    have S7 := S4.mod' M7 5
    have D7c : CB (((w5.alloc (.cells (Array.replicate 32 (.int .u8 0)) 26)).setRow w5.heap.size (hashA (rootOf n))).drew) (ext L4 w4.heap.size 5) 5 w5.heap.size tHash (hashA (rootOf n)) := ⟨D7, ext_new hge⟩
    generalize w5.heap.size = D at *
    generalize (((w5.alloc (.cells (Array.replicate 32 (.int .u8 0)) 26)).setRow D (hashA (rootOf n))).drew) = w7 at *
    generalize ext L4 w4.heap.size 5 = L7 at *
    refine ⟨_, D7c.blk.rowAll (size_hashA _), (Root_calls S7.trie).mono ?_⟩
    rintro _ w8 ⟨rfl, M8⟩
    have S8 := S7.mod' M8 0
    have D8 := D7c.stp (S := NoS) (Stp.of_nob M8 0) (fun h => h)
    generalize ext L7 w7.heap.size 0 = L8 at *
    refine ⟨_, rfl, D8.blk.rowAll (size_hashA _), _, hash_ne_row _ _ (length_sumOf _) (length_sumOf _) rfl, _, rfl, fun h => (by cases h), fun _ => ?_⟩
    refine ⟨fun o l k i w' => ∃ (j : Nat) (m : List (By × By)) (n : Nd) (L : Nat → Nat) (cs : Array Value), i = (j : Int) ∧ j ≤ 121 ∧ l = m.length ∧ LS w w' L t n o k m (60 + j) ∧ CB w' L 5 D tHash cs ∧ cs.size = 32, fun _ _ _ i _ => (61 - i).toNat, ⟨0, m, n, L8, _, rfl, by omega, rfl, S8.widen (by omega), D8, size_hashA _⟩, ?_⟩
    rintro o9 _ k9 _ _ w9 ⟨j, m, n, L9, cs, rfl, hj, rfl, S9, D9, hcs⟩
    refine ⟨fun hlt => ?_, fun hge => ?_⟩
    · rintro d wa ⟨rfl, rfl⟩
      obtain ⟨x, hx⟩ := wrap_u8_byte (j : Int)
      rw [hx]
      have ra : RdB (w9.alloc (.cells #[.int .u8 (x.toNat : Int)] 5)) (some ⟨w9.heap.size, 0, none⟩) [x] := cells_bytes rfl
      have Ma := Mod.alloc (S := NoB) w9 (.cells #[.int .u8 (x.toNat : Int)] 5)
      have za := Ma.size
      refine (Secure_calls (k := 1) ra (by simp)).mono ?_
      rintro _ wb ⟨bb, rfl, hbb, Mb, rb⟩
      have Mab := Ma.trans Mb (fun _ _ h => h)
      have Sb := S9.mod' Mab 0
      have Db := D9.stp (S := NoS) (Stp.of_nob Mab 0) (fun h => h)
      have cb : CBy wb (ext L9 w9.heap.size 0) 0 (some ⟨bb, 0, none⟩) (sumOf [x]) := ⟨rb, fun _ d hd => by cases hd; exact ext_new (by dsimp only; omega)⟩
      generalize ext L9 w9.heap.size 0 = Lb at *
      have hsl : (sumOf [x]).length = 32 := length_sumOf _
      obtain ⟨e1, e2, e3⟩ := Sb.del (key := sumOf [x]) (by omega)
      have hD := Delete_calls (k := 32) Sb.trie (by decide) cb.rd
      rw [e1, hsl] at hD
      refine ⟨_, _, _, rfl, hD.mono ?_⟩
      rintro _ wc ⟨rfl, sc, Ac⟩
      generalize ext Lb wb.heap.size 2 = Lc at *
      have Rc := Sb.row.stp sc (by decide)
      have cc := cb.stp sc (by decide)
      have Dc := Db.stp sc (by decide)
      have hRc := rPut_calls (k := k9) (kk := 32) (kv := 0) (ov := none) (v := []) Rc (S9.kv (by omega)) S9.cap cc.rd (RdB.nil _ _) (by omega) (by simp) (by have := S9.len; omega)
      rw [hsl] at hRc
      refine ⟨_, rfl, fun h => (h rfl).elim, fun _ => hRc.mono ?_⟩
      rintro _ wd ⟨od, kd, rfl, hkd, Md, Rd⟩
      have Sd := Sb.next sc Ac Md Rd hkd e2 (by omega) (by simp) e3
      have Dd := Dc.stp (S := NoS) (Stp.of_nob Md 3) (fun h => h)
      have ew : IntKind.wrap .i64 ((j : Int) + a2) = ((j + a2.toNat : Nat) : Int) := by rw [wrap_i64_small (by omega) (by omega)]; omega
      rw [ew]
      exact ⟨_, _, _, rfl, ⟨j + a2.toNat, _, _, _, cs, rfl, by omega, rfl, Sd.widen (by omega), Dd, hcs⟩, by dsimp only; omega⟩
    · refine (Of_calls (k := k9) S9.row.row (S9.kv (by omega)) S9.rep S9.canon S9.small (by have := S9.cnt; omega) 0).mono ?_
      rintro _ wa ⟨oa, ka, rfl, Ma, _⟩
      have Sa := S9.mod' Ma 0
      have Da := D9.stp (S := NoS) (Stp.of_nob Ma 0) (fun h => h)
      generalize ext L9 w9.heap.size 0 = La at *
      obtain ⟨g1, g2, g3⟩ := hash_store Da.blk hcs (rootOf n)
      refine ⟨_, _, _, _, rfl, _, g1, ?_⟩
      rintro _ rfl
      have sb : Stp (fun k => k = 5) wa La (wa.setRow D (hashA (rootOf n))) La := ⟨g3.os, g3.tape, g3.output, g3.size, fun _ _ => rfl, fun k hk hn => g3.block k hk (fun e => hn (by subst e; exact Da.clr))⟩
      have Sb := (Sa.stp sb (by decide) (by decide) (by decide) (by decide)).stp (Stp.drew NoS _ _) (fun h => h) (fun h => h) (fun h => h) (fun h => h)
      have Db := g2.drew
      generalize (wa.setRow D (hashA (rootOf n))).drew = wb at *
      refine ⟨_, Db.rowAll (size_hashA _), (Root_calls Sb.trie).mono ?_⟩
      rintro _ wc ⟨rfl, Mc⟩
      have Dc := Db.mod' Mc
      have M0c : Vcg.Mod NoB w wc := Sb.mod.trans Mc (fun _ _ h => h)
      refine ⟨_, rfl, Dc.rowAll (size_hashA _), _, hash_eq _ _ (length_sumOf _) (length_sumOf _), _, rfl, fun _ => ⟨fun _ => ⟨rfl, M0c⟩, fun hm0 => ⟨_, Dc.rowAll (size_hashA _), ?_⟩⟩, fun h => by simp at h⟩
      refine (Empty_calls wc).mono ?_
      rintro _ wd ⟨rfl, Md⟩
      have hm : m = [] := List.eq_nil_of_length_eq_zero (by omega)
      subst hm
      have hre := root_empty S9.canon S9.rep
      refine ⟨_, rfl, (Dc.mod' Md).rowAll (size_hashA _), _, hash_eq _ _ (length_sumOf _) (length_sumOf _), _, rfl, by rw [hre]; simp, M0c.trans Md (fun _ _ h => h)⟩
end Go.Proofs.Ytfghidehlnfdiaa
end

section
namespace Go.Vcg
open Go

theorem mapM_get {α β : Type} {f : α → Option β} : ∀ {l : List α} {ys : List β}, l.mapM f = some ys → ys.length = l.length ∧ ∀ (i : Nat) (x : α), l[i]? = some x → ∃ y, ys[i]? = some y ∧ f x = some y
  | [], ys, h => by
    rw [List.mapM_nil] at h
    cases h
    exact ⟨rfl, fun i x hx => by simp at hx⟩
  | a :: l, ys, h => by
    rw [List.mapM_cons] at h
    cases ha : f a with
    | none => simp [ha] at h
    | some b =>
      cases hl : l.mapM f with
      | none => simp [ha, hl] at h
      | some bs =>
        simp [ha, hl] at h
        subst h
        obtain ⟨h1, h2⟩ := mapM_get hl
        refine ⟨by simp [h1], fun i x hx => ?_⟩
        cases i with
        | zero => simp at hx; subst hx; exact ⟨b, rfl, ha⟩
        | succ i => simp at hx; exact h2 i x hx
section
variable {H : Type} {enc : TypeId × Value → H} {P : Program} {W : World} {sp : Nat → Bool} {held : Bool} {base : Nat}

/-- What a reading of a slice tells of its elements, one cell each, and of the datum. -/
theorem trod_slice2 {fuel : Nat} {t e : TypeId} {v : Value} {d : DataW H} {ps : List MemPlace} (ht : P.underlying t = some (.slice e)) (hce : P.cellsOf e = 1)
    (h : DataW.trod enc P W base sp held fuel t [v] = some (d, ps)) :
    ∃ o l c, v = .slice o l c ∧ l ≤ c ∧ c ≤ maxLen ∧ ((l = 0 ∧ d = .nil) ∨ ∃ elems spare, d = .slice elems spare ∧ elems.length = l ∧
      ∀ i, i < l → ∃ b f u d' ps' fuel', o = some ⟨b, f, none⟩ ∧ b < W.heap.size ∧ W.cell? ⟨b, f + i, none⟩ = some u ∧ DataW.trod enc P W base sp held fuel' e [u] = some (d', ps') ∧ elems[i]? = some d') := by
  obtain ⟨o, l, c, rfl, hlc, hcm, hall⟩ := trod_slice ht hce h
  refine ⟨o, l, c, rfl, hlc, hcm, ?_⟩
  cases fuel with
  | zero => simp [DataW.trod] at h
  | succ fuel =>
    cases o with
    | none =>
      left
      have : l = 0 ∧ c = 0 := by
        rcases l with _ | l <;> rcases c with _ | c <;> simp [DataW.trod, ht] at h ⊢
      obtain ⟨rfl, rfl⟩ := this
      simp [DataW.trod, ht] at h
      exact ⟨rfl, h.1.symm⟩
    | some a =>
      right
      simp only [DataW.trod, ht, hce, Nat.mul_one] at h
      split at h
      · obtain ⟨els, hm, h2⟩ := Option.bind_eq_some_iff.1 h
        obtain ⟨rest, _, h3⟩ := Option.map_eq_some_iff.1 h2
        cases h3
        obtain ⟨hl, hg⟩ := mapM_get hm
        rw [List.length_range] at hl
        refine ⟨_, _, rfl, by simp [hl], fun i hi => ?_⟩
        obtain ⟨b, f, u, d', ps', fuel', ho, hb, hu, hd⟩ := hall i hi
        cases ho
        obtain ⟨y, hy, hfy⟩ := hg i i (by rw [List.getElem?_range hi])
        obtain ⟨vs, hv, hd2⟩ := Option.bind_eq_some_iff.1 hfy
        obtain ⟨u2, rfl, hu2⟩ := cells1_some hv
        rw [add_at, hu] at hu2
        cases hu2
        exact ⟨b, f, u, y.1, y.2, fuel, rfl, hb, hu, hd2, by rw [List.getElem?_map, hy]; rfl⟩
      · cases h

theorem weights_slice {t e : TypeId} {elems spare : List (DataW H)} {n0 : Nat} (ht : P.underlying t = some (.slice e)) (h : ((DataW.slice elems spare).weights P t).all (· ≤ n0) = true) :
    elems.length * P.bytesOf e ≤ n0 ∧ ∀ d ∈ elems, (d.weights P e).all (· ≤ n0) = true := by
  simp only [DataW.weights, ht, List.all_cons, Bool.and_eq_true, List.all_append] at h
  refine ⟨?_, fun d hd => ?_⟩
  · have h1 : (elems.length + spare.length) * P.bytesOf e ≤ n0 := of_decide_eq_true h.1
    exact Nat.le_trans (Nat.mul_le_mul_right _ (Nat.le_add_right _ _)) h1
  · have h2 := h.2.1
    clear h
    induction elems with
    | nil => cases hd
    | cons x r ih =>
      simp only [DataW.weightsAll, List.all_append, Bool.and_eq_true] at h2
      rcases List.mem_cons.1 hd with rfl | hd
      · exact h2.1
      · exact ih hd h2.2

/-- Bytes, and how many there can be. -/
theorem trod_bytes2 {fuel : Nat} {t e : TypeId} {v : Value} {d : DataW H} {ps : List MemPlace} (ht : P.underlying t = some (.slice e)) (he : P.underlying e = some (.int .u8)) (hce : P.cellsOf e = 1)
    (h : DataW.trod enc P W base sp held fuel t [v] = some (d, ps)) : ∃ o c bs, v = .slice o bs.length c ∧ bs.length ≤ c ∧ c ≤ maxLen ∧ RdB W o bs ∧ ∀ n0, (d.weights P t).all (· ≤ n0) = true → bs.length * P.bytesOf e ≤ n0 := by
  obtain ⟨o, c, bs, rfl, h1, h2, h3⟩ := trod_bytes ht he hce h
  refine ⟨o, c, bs, rfl, h1, h2, h3, fun n0 hw => ?_⟩
  obtain ⟨o', l', c', hv, _, _, h4⟩ := trod_slice2 ht hce h
  cases hv
  rcases h4 with ⟨h5, _⟩ | ⟨elems, spare, rfl, h5, _⟩
  · rw [h5]; simp
  · rw [← h5]; exact (weights_slice ht hw).1
/-- Lists of bytes, and how long each of them can be. -/
theorem trod_bytess2 {fuel : Nat} {t e e2 : TypeId} {v : Value} {d : DataW H} {ps : List MemPlace} (ht : P.underlying t = some (.slice e)) (he : P.underlying e = some (.slice e2)) (he2 : P.underlying e2 = some (.int .u8)) (hce : P.cellsOf e = 1) (hce2 : P.cellsOf e2 = 1)
    (h : DataW.trod enc P W base sp held fuel t [v] = some (d, ps)) : ∃ o c ls, v = .slice o ls.length c ∧ ls.length ≤ c ∧ c ≤ maxLen ∧ RdBB W o ls ∧ ∀ n0, (d.weights P t).all (· ≤ n0) = true → ls.length * P.bytesOf e ≤ n0 ∧ ∀ b ∈ ls, b.length * P.bytesOf e2 ≤ n0 := by
  obtain ⟨o, c, ls, rfl, h1, h2, h3, h3'⟩ := trod_bytess ht he he2 hce hce2 h
  refine ⟨o, c, ls, rfl, h1, h2, h3, fun n0 hw => ?_⟩
  obtain ⟨o', l', c', hv, _, _, h4⟩ := trod_slice2 ht hce h
  cases hv
  rcases h4 with ⟨h5, _⟩ | ⟨elems, spare, rfl, h5, h6⟩
  · rw [h5]
    exact ⟨by simp, fun b hb => by rw [List.eq_nil_of_length_eq_zero h5] at hb; cases hb⟩
  · obtain ⟨h7, h8⟩ := weights_slice ht hw
    refine ⟨by rw [← h5]; exact h7, fun b hb => ?_⟩
    obtain ⟨i, hi, rfl⟩ := List.getElem_of_mem hb
    obtain ⟨bk, f, u, d', ps', fuel', ho, hbk, hu, hd, hel⟩ := h6 i hi
    obtain ⟨bk2, f2, oi, ci, ho2, _, hc2, hr2⟩ := h3 i hi
    rw [ho] at ho2
    cases ho2
    rw [hu] at hc2
    cases hc2
    obtain ⟨o3, c3, bs3, hv3, _, _, _, hw3⟩ := trod_bytes2 he he2 hce2 hd
    have e1 : ls.getD i [] = ls[i] := by simp [List.getD_eq_getElem?_getD, hi]
    have h9 := hw3 n0 (h8 d' (List.mem_of_getElem? hel))
    have h10 : (ls.getD i []).length = bs3.length := by injection hv3
    rw [← h10, e1] at h9
    exact h9
end
theorem i64_range {n : Int} (h : (Lit.int .i64 n).wf = true) : -9223372036854775808 ≤ n ∧ n < 9223372036854775808 := by
  simp only [Lit.wf, Bool.and_eq_true, decide_eq_true_eq] at h
  have h1 : IntKind.min .i64 = -9223372036854775808 := by decide
  have h2 : IntKind.max .i64 = 9223372036854775807 := by decide
  omega
/-- What is told of all arguments is told of each. -/
theorem weights_each {H : Type} {P : Program} {n0 : Nat} : ∀ {ts : List TypeId} {ds : List (DataW H)}, (DataW.weightsEach P ts ds).all (· ≤ n0) = true → ∀ (j : Nat) (t : TypeId) (d : DataW H), ts[j]? = some t → ds[j]? = some d → (d.weights P t).all (· ≤ n0) = true
  | t0 :: ts, d0 :: ds, h, 0, t, d, ht, hd => by
    simp at ht hd
    subst ht hd
    simp only [DataW.weightsEach, List.all_append, Bool.and_eq_true] at h
    exact h.1
  | t0 :: ts, d0 :: ds, h, j + 1, t, d, ht, hd => by
    simp only [DataW.weightsEach, List.all_append, Bool.and_eq_true] at h
    exact weights_each h.2 j t d (by simpa using ht) (by simpa using hd)
  | [], _, _, _, _, _, ht, _ => by simp at ht
  | _ :: _, [], _, _, _, _, _, hd => by simp at hd
end Go.Vcg
end
