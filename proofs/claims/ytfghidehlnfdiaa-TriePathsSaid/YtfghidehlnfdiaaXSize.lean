/- The verification conditions of some functions, printed by a program of ours (wip/PrintVc.lean). -/
/- Unpacking a path, both ways. -/
/- The walk of TriePaths. -/
/- Arguments: how long they can be. -/
import Derived.Test.YtfghidehlnfdiaaXLk
import Derived.Test.YtfghidehlnfdiaaProg
import Derived.KernelRfl
import Derived.Test.YtfghidehlnfdiaaTK1
import Derived.Test.YtfghidehlnfdiaaTQ1
import Derived.SizedLaws
section
set_option linter.unusedVariables false
namespace Go.Proofs.Ytfghidehlnfdiaa
open Go Go.Vcg
/-! moraine/trie.Secure: 44 -/
abbrev trie_Secure.n : Nat := 44
def trie_Secure.Vc (o0 : Option Addr) (l0 : Nat) (c0 : Nat) (w : World) (R : Ending → World → Prop) : Prop :=
  ∀ (d1 : Addr) (w2 : World), IsNew w 22 #[(.slice o0 l0 c0)] d1 w2 →
  Calls Try.prog 19 #[(.slice (some d1) 1 1)] w2 (fun e3 w4 =>
    ∃ L5 : Array Value, e3 = .returned (.agg L5) ∧
    ∀ (d6 : Addr) (w7 : World), IsNew w4 26 (Array.replicate 32 (.int .u8 0)) d6 w7 →
    ∃ w8 : World, Sem.run Try.prog (Instr.storeAt 26 (.pointer (some d6)) (.agg L5)) w7 = .ok () w8 ∧
    R (.returned (.slice (some d6) 32 32)) w8)
theorem trie_Secure.vc (o0 : Option Addr) (l0 : Nat) (c0 : Nat) (w : World) (R : Ending → World → Prop) (h : trie_Secure.Vc o0 l0 c0 w R) : Calls Try.prog 44 #[(.slice o0 l0 c0)] w R :=
  execF_sound (ann := []) (args := [.slice o0 l0 c0]) Try.func44 mixed (Eq.mp (by kernel_rfl : trie_Secure.Vc o0 l0 c0 w R = execF (pA Try.prog R) Try.prog [] Try.f44 [.slice o0 l0 c0] w) h)

/-! moraine/trie.Unpack: 42 -/
abbrev trie_Unpack.n : Nat := 42
def trie_Unpack.Vc (o0 : Option Addr) (l0 : Nat) (c0 : Nat) (w : World) (R : Ending → World → Prop) : Prop :=
  Calls Try.prog 40 #[(.slice o0 l0 c0)] w (fun e1 w2 =>
    ∃ o3 : Option Addr, ∃ l4 : Nat, ∃ l5 : Nat, e1 = .returned (.slice o3 l4 l5) ∧
    (((((l4 : Nat) : Int) = 0 →
      R (.returned (.tuple #[(.slice none 0 0), (.bool false), (.int .i64 143)])) w2)) ∧
     ((((l4 : Nat) : Int) ≠ 0 →
      ∃ d6 : Addr, o3 = some d6 ∧
      ((0 : Int) ≤ 0 ∧ 0 < ((l4 : Nat) : Int)) ∧
      ∃ n7 : Int, World.cell? w2 (Addr.add d6 0) = some (.int .u8 n7) ∧
      (((n7 > 3 →
        R (.returned (.tuple #[(.slice none 0 0), (.bool false), (.int .i64 143)])) w2)) ∧
       ((¬ n7 > 3 →
        (((((l4 : Nat) : Int) > 130 →
          R (.returned (.tuple #[(.slice none 0 0), (.bool false), (.int .i64 143)])) w2)) ∧
         ((¬ ((l4 : Nat) : Int) > 130 →
          ∃ d8 : Addr, o3 = some d8 ∧
          ((0 : Int) ≤ 0 ∧ 0 < ((l4 : Nat) : Int)) ∧
          ∃ n9 : Int, World.cell? w2 (Addr.add d8 0) = some (.int .u8 n9) ∧
          1 ≤ l4 ∧
          ∃ (J10 : Option Addr → Nat → Nat → World → Prop), (∃ d11 : Addr, o3 = some d11 ∧
           ((0 : Int) ≤ 0 ∧ 0 < ((l4 : Nat) : Int)) ∧
           ∃ n12 : Int, World.cell? w2 (Addr.add d11 0) = some (.int .u8 n12) ∧
           ((((Int.tmod n12 2) = 0 →
             2 ≤ l4 ∧
             J10 (subO o3 l5 2 1) (l4 - 2) (l5 - 2) w2)) ∧
            (((Int.tmod n12 2) ≠ 0 →
             J10 (subO o3 l5 1 1) (l4 - 1) (l5 - 1) w2)))) ∧
          (∀ (o13 : Option Addr) (l13 : Nat) (c13 : Nat) (j14 : Nat → Value) (w14 : World), J10 o13 l13 c13 w14 →
            Calls Try.prog 38 #[(.slice o13 l13 c13), (.bool (decide (n9 > 1)))] w14 (fun e15 w16 =>
              ∃ o17 : Option Addr, ∃ l18 : Nat, ∃ l19 : Nat, ∃ n20 : Int, e15 = .returned (.tuple #[(.slice o17 l18 l19), (.int .i64 n20)]) ∧
              (((n20 ≠ 0 →
                R (.returned (.tuple #[(.slice none 0 0), (.bool false), (.int .i64 143)])) w16)) ∧
               ((n20 = 0 →
                Calls Try.prog 87 #[(.slice o17 l18 l19), (.slice o0 l0 c0)] w16 (fun e21 w22 =>
                  ∃ b23 : Bool, e21 = .returned (.bool b23) ∧
                  (((b23 = false →
                    R (.returned (.tuple #[(.slice none 0 0), (.bool false), (.int .i64 143)])) w22)) ∧
                   ((b23 = true →
                    R (.returned (.tuple #[(.slice o13 l13 c13), (.bool (decide (n9 > 1))), (.int .i64 0)])) w22)))))))))))))))))))
theorem trie_Unpack.vc (o0 : Option Addr) (l0 : Nat) (c0 : Nat) (w : World) (R : Ending → World → Prop) (h : trie_Unpack.Vc o0 l0 c0 w R) : Calls Try.prog 42 #[(.slice o0 l0 c0)] w R :=
  execF_sound (ann := [(1000008, [(7, .cell (.slice))])]) (args := [.slice o0 l0 c0]) Try.func42 mixed (Eq.mp (by kernel_rfl : trie_Unpack.Vc o0 l0 c0 w R = execF (pA Try.prog R) Try.prog [(1000008, [(7, .cell (.slice))])] Try.f42 [.slice o0 l0 c0] w) h)

/-! moraine/moraineref14.Unpack: 43 -/
abbrev moraineref14_Unpack.n : Nat := 43
def moraineref14_Unpack.Vc (o0 : Option Addr) (l0 : Nat) (c0 : Nat) (w : World) (R : Ending → World → Prop) : Prop :=
  (((((l0 : Nat) : Int) = 0 →
    R (.returned (.tuple #[(.slice none 0 0), (.bool false), (.int .i64 143)])) w)) ∧
   ((((l0 : Nat) : Int) ≠ 0 →
    (((((l0 : Nat) : Int) > 65 →
      R (.returned (.tuple #[(.slice none 0 0), (.bool false), (.int .i64 143)])) w)) ∧
     ((¬ ((l0 : Nat) : Int) > 65 →
      Calls Try.prog 41 #[(.slice o0 l0 c0)] w (fun e1 w2 =>
        ∃ o3 : Option Addr, ∃ l4 : Nat, ∃ l5 : Nat, e1 = .returned (.slice o3 l4 l5) ∧
        ∃ d6 : Addr, o3 = some d6 ∧
        ((0 : Int) ≤ 0 ∧ 0 < ((l4 : Nat) : Int)) ∧
        ∃ n7 : Int, World.cell? w2 (Addr.add d6 0) = some (.int .u8 n7) ∧
        (((n7 > 3 →
          R (.returned (.tuple #[(.slice none 0 0), (.bool false), (.int .i64 143)])) w2)) ∧
         ((¬ n7 > 3 →
          ((((Int.tmod n7 2) = 0 →
            ∃ d8 : Addr, o3 = some d8 ∧
            ((0 : Int) ≤ 1 ∧ 1 < ((l4 : Nat) : Int)) ∧
            ∃ n9 : Int, World.cell? w2 (Addr.add d8 1) = some (.int .u8 n9) ∧
            (((n9 ≠ 0 →
              R (.returned (.tuple #[(.slice none 0 0), (.bool false), (.int .i64 143)])) w2)) ∧
             ((n9 = 0 →
              ((0 : Int) ≤ (IntKind.wrap .u8 (2 - (Int.tmod n7 2))) ∧ (IntKind.wrap .u8 (2 - (Int.tmod n7 2))) ≤ ((l4 : Nat) : Int)) ∧
              ((((((l4 - (Int.toNat (IntKind.wrap .u8 (2 - (Int.tmod n7 2))))) : Nat) : Int) > 128 →
                R (.returned (.tuple #[(.slice none 0 0), (.bool false), (.int .i64 143)])) w2)) ∧
               ((¬ (((l4 - (Int.toNat (IntKind.wrap .u8 (2 - (Int.tmod n7 2))))) : Nat) : Int) > 128 →
                R (.returned (.tuple #[(.slice (subO o3 l5 (Int.toNat (IntKind.wrap .u8 (2 - (Int.tmod n7 2)))) 1) (l4 - (Int.toNat (IntKind.wrap .u8 (2 - (Int.tmod n7 2))))) (l5 - (Int.toNat (IntKind.wrap .u8 (2 - (Int.tmod n7 2)))))), (.bool (decide (n7 > 1))), (.int .i64 0)])) w2)))))))) ∧
           (((Int.tmod n7 2) ≠ 0 →
            ((0 : Int) ≤ (IntKind.wrap .u8 (2 - (Int.tmod n7 2))) ∧ (IntKind.wrap .u8 (2 - (Int.tmod n7 2))) ≤ ((l4 : Nat) : Int)) ∧
            ((((((l4 - (Int.toNat (IntKind.wrap .u8 (2 - (Int.tmod n7 2))))) : Nat) : Int) > 128 →
              R (.returned (.tuple #[(.slice none 0 0), (.bool false), (.int .i64 143)])) w2)) ∧
             ((¬ (((l4 - (Int.toNat (IntKind.wrap .u8 (2 - (Int.tmod n7 2))))) : Nat) : Int) > 128 →
              R (.returned (.tuple #[(.slice (subO o3 l5 (Int.toNat (IntKind.wrap .u8 (2 - (Int.tmod n7 2)))) 1) (l4 - (Int.toNat (IntKind.wrap .u8 (2 - (Int.tmod n7 2))))) (l5 - (Int.toNat (IntKind.wrap .u8 (2 - (Int.tmod n7 2)))))), (.bool (decide (n7 > 1))), (.int .i64 0)])) w2))))))))))))))))
theorem moraineref14_Unpack.vc (o0 : Option Addr) (l0 : Nat) (c0 : Nat) (w : World) (R : Ending → World → Prop) (h : moraineref14_Unpack.Vc o0 l0 c0 w R) : Calls Try.prog 43 #[(.slice o0 l0 c0)] w R :=
  execF_sound (ann := []) (args := [.slice o0 l0 c0]) Try.func43 mixed (Eq.mp (by kernel_rfl : moraineref14_Unpack.Vc o0 l0 c0 w R = execF (pA Try.prog R) Try.prog [] Try.f43 [.slice o0 l0 c0] w) h)

/-! moraine/morainelaw14.TriePaths: 10 -/
abbrev morainelaw14_TriePaths.n : Nat := 10
def morainelaw14_TriePaths.Vc (o0 : Option Addr) (l0 : Nat) (c0 : Nat) (b1 : Bool) (o2 : Option Addr) (l2 : Nat) (c2 : Nat) (o3 : Option Addr) (l3 : Nat) (c3 : Nat) (w : World) (R : Ending → World → Prop) : Prop :=
  Calls Try.prog 37 #[] w (fun e4 w5 =>
    ∃ b6 : Bool, e4 = .returned (.bool b6) ∧
    (((b6 = false →
      R (.returned (.bool false)) w5)) ∧
     ((b6 = true →
      (((((l0 : Nat) : Int) > 300 →
        R (.returned (.bool true)) w5)) ∧
       ((¬ ((l0 : Nat) : Int) > 300 →
        (((((l2 : Nat) : Int) > 300 →
          R (.returned (.bool true)) w5)) ∧
         ((¬ ((l2 : Nat) : Int) > 300 →
          (((((l3 : Nat) : Int) > 300 →
            R (.returned (.bool true)) w5)) ∧
           ((¬ ((l3 : Nat) : Int) > 300 →
            Calls Try.prog 38 #[(.slice o0 l0 c0), (.bool b1)] w5 (fun e7 w8 =>
              ∃ o9 : Option Addr, ∃ l10 : Nat, ∃ l11 : Nat, ∃ n12 : Int, e7 = .returned (.tuple #[(.slice o9 l10 l11), (.int .i64 n12)]) ∧
              Calls Try.prog 39 #[(.slice o0 l0 c0), (.bool b1)] w8 (fun e13 w14 =>
                ∃ o15 : Option Addr, ∃ l16 : Nat, ∃ l17 : Nat, ∃ n18 : Int, e13 = .returned (.tuple #[(.slice o15 l16 l17), (.int .i64 n18)]) ∧
                (((n12 ≠ n18 →
                  R (.returned (.bool false)) w14)) ∧
                 ((n12 = n18 →
                  Calls Try.prog 36 #[(.slice o9 l10 l11), (.slice o15 l16 l17)] w14 (fun e19 w20 =>
                    ∃ b21 : Bool, e19 = .returned (.bool b21) ∧
                    (((b21 = false →
                      R (.returned (.bool false)) w20)) ∧
                     ((b21 = true →
                      Calls Try.prog 40 #[(.slice o3 l3 c3)] w20 (fun e22 w23 =>
                        ∃ o24 : Option Addr, ∃ l25 : Nat, ∃ l26 : Nat, e22 = .returned (.slice o24 l25 l26) ∧
                        Calls Try.prog 41 #[(.slice o3 l3 c3)] w23 (fun e27 w28 =>
                          ∃ o29 : Option Addr, ∃ l30 : Nat, ∃ l31 : Nat, e27 = .returned (.slice o29 l30 l31) ∧
                          Calls Try.prog 36 #[(.slice o24 l25 l26), (.slice o29 l30 l31)] w28 (fun e32 w33 =>
                            ∃ b34 : Bool, e32 = .returned (.bool b34) ∧
                            (((b34 = false →
                              R (.returned (.bool false)) w33)) ∧
                             ((b34 = true →
                              ∃ (J35 : World → Prop), ((((n12 = 0 →
                                 Calls Try.prog 42 #[(.slice o9 l10 l11)] w33 (fun e36 w37 =>
                                   ∃ o38 : Option Addr, ∃ l39 : Nat, ∃ l40 : Nat, ∃ b41 : Bool, ∃ n42 : Int, e36 = .returned (.tuple #[(.slice o38 l39 l40), (.bool b41), (.int .i64 n42)]) ∧
                                   (((n42 ≠ 0 →
                                     R (.returned (.bool false)) w37)) ∧
                                    ((n42 = 0 →
                                     ∃ v43 : Value, Sem.run Try.prog (semBin .neq 4 (.tmp 78) (.tmp 79) (.bool b41) (.bool b1)) w37 = .ok v43 w37 ∧
                                     ∃ b44 : Bool, v43 = (.bool b44) ∧
                                     (((b44 = true →
                                       R (.returned (.bool false)) w37)) ∧
                                      ((b44 = false →
                                       Calls Try.prog 36 #[(.slice o38 l39 l40), (.slice o0 l0 c0)] w37 (fun e45 w46 =>
                                         ∃ b47 : Bool, e45 = .returned (.bool b47) ∧
                                         (((b47 = false →
                                           R (.returned (.bool false)) w46)) ∧
                                          ((b47 = true →
                                           J35  w46))))))))))))) ∧
                                ((n12 ≠ 0 →
                                 J35  w33)))) ∧
                              (∀  (j48 : Nat → Value) (w48 : World), J35  w48 →
                                Calls Try.prog 42 #[(.slice o2 l2 c2)] w48 (fun e49 w50 =>
                                  ∃ o51 : Option Addr, ∃ l52 : Nat, ∃ l53 : Nat, ∃ b54 : Bool, ∃ n55 : Int, e49 = .returned (.tuple #[(.slice o51 l52 l53), (.bool b54), (.int .i64 n55)]) ∧
                                  Calls Try.prog 43 #[(.slice o2 l2 c2)] w50 (fun e56 w57 =>
                                    ∃ o58 : Option Addr, ∃ l59 : Nat, ∃ l60 : Nat, ∃ b61 : Bool, ∃ n62 : Int, e56 = .returned (.tuple #[(.slice o58 l59 l60), (.bool b61), (.int .i64 n62)]) ∧
                                    Calls Try.prog 18 #[(.slice o3 l3 c3)] w57 (fun e63 w64 =>
                                      ∃ L65 : Array Value, e63 = .returned (.agg L65) ∧
                                      ∀ (d66 : Addr) (w67 : World), IsNew w64 26 (Array.replicate 32 (.int .u8 0)) d66 w67 →
                                      ∃ w68 : World, Sem.run Try.prog (Instr.storeAt 26 (.pointer (some d66)) (.agg L65)) w67 = .ok () w68 ∧
                                      ∀ w69 : World, IsDrew w68 w69 →
                                      (((n55 = n62 →
                                        ∃ v70 : Value, Sem.run Try.prog (semBin .eql 4 (.tmp 106) (.tmp 107) (.bool b54) (.bool b61)) w69 = .ok v70 w69 ∧
                                        ∃ b71 : Bool, v70 = (.bool b71) ∧
                                        (((b71 = true →
                                          Calls Try.prog 36 #[(.slice o51 l52 l53), (.slice o58 l59 l60)] w69 (fun e72 w73 =>
                                            ∃ b74 : Bool, e72 = .returned (.bool b74) ∧
                                            (((b74 = true →
                                              Calls Try.prog 44 #[(.slice o3 l3 c3)] w73 (fun e75 w76 =>
                                                ∃ o77 : Option Addr, ∃ l78 : Nat, ∃ l79 : Nat, e75 = .returned (.slice o77 l78 l79) ∧
                                                Calls Try.prog 36 #[(.slice o77 l78 l79), (.slice (some d66) 32 32)] w76 (fun e80 w81 =>
                                                  ∃ b82 : Bool, e80 = .returned (.bool b82) ∧
                                                  R (.returned (.bool b82)) w81)))) ∧
                                             ((b74 = false →
                                              R (.returned (.bool false)) w73)))))) ∧
                                         ((b71 = false →
                                          R (.returned (.bool false)) w69))))) ∧
                                       ((n55 ≠ n62 →
                                        R (.returned (.bool false)) w69)))))))))))))))))))))))))))))))))))
theorem morainelaw14_TriePaths.vc (o0 : Option Addr) (l0 : Nat) (c0 : Nat) (b1 : Bool) (o2 : Option Addr) (l2 : Nat) (c2 : Nat) (o3 : Option Addr) (l3 : Nat) (c3 : Nat) (w : World) (R : Ending → World → Prop) (h : morainelaw14_TriePaths.Vc o0 l0 c0 b1 o2 l2 c2 o3 l3 c3 w R) : Calls Try.prog 10 #[(.slice o0 l0 c0), (.bool b1), (.slice o2 l2 c2), (.slice o3 l3 c3)] w R :=
  execF_sound (ann := [(1000013, [])]) (args := [.slice o0 l0 c0, .bool (.var b1), .slice o2 l2 c2, .slice o3 l3 c3]) Try.func10 mixed (Eq.mp (by kernel_rfl : morainelaw14_TriePaths.Vc o0 l0 c0 b1 o2 l2 c2 o3 l3 c3 w R = execF (pA Try.prog R) Try.prog [(1000013, [])] Try.f10 [.slice o0 l0 c0, .bool (.var b1), .slice o2 l2 c2, .slice o3 l3 c3] w) h)

end Go.Proofs.Ytfghidehlnfdiaa
end

section
set_option linter.unusedVariables false
set_option linter.unusedSimpArgs false
namespace Go.Proofs.Ytfghidehlnfdiaa
open Go Go.Vcg Go.Trie
/-- A packed path, and whether it is a leaf's. -/
def unpack : By → Option (By × Bool)
  | [] => none
  | a :: r =>
    if 65 < r.length + 1 ∨ 3 < (a >>> 4).toNat then none
    else if (a >>> 4).toNat % 2 = 0 then (if (a &&& 15).toNat ≠ 0 then none else some (nibbles r, decide ((a >>> 4).toNat > 1)))
    else if 64 ≤ r.length then none else some ((a &&& 15) :: nibbles r, decide ((a >>> 4).toNat > 1))
theorem pairs_nibbles : ∀ (r : By), pairs (nibbles r) = r
  | [] => rfl
  | a :: r => by
    rw [nibbles_cons]
    simp only [pairs]
    rw [nib_back, pairs_nibbles r]
theorem nib_hi {a : UInt8} (h : a.toNat < 16) (b : UInt8) (hb : b.toNat < 16) : ((a <<< 4 ||| b) >>> 4) = a ∧ ((a <<< 4 ||| b) &&& 15) = b := by
  have : ∀ x y : Fin 16, ((UInt8.ofNat x.val <<< 4 ||| UInt8.ofNat y.val) >>> 4) = UInt8.ofNat x.val ∧ ((UInt8.ofNat x.val <<< 4 ||| UInt8.ofNat y.val) &&& 15) = UInt8.ofNat y.val := by decide +kernel
  have h1 := this ⟨a.toNat, h⟩ ⟨b.toNat, hb⟩
  have ea : UInt8.ofNat a.toNat = a := UInt8.toNat_inj.1 (by rw [UInt8.toNat_ofNat']; omega)
  have eb : UInt8.ofNat b.toNat = b := UInt8.toNat_inj.1 (by rw [UInt8.toNat_ofNat']; omega)
  simp only [ea, eb] at h1
  exact h1
theorem nibbles_pairs : ∀ {p : By}, p.length % 2 = 0 → Nib p → nibbles (pairs p) = p
  | [], _, _ => rfl
  | [a], h, _ => by simp at h
  | a :: b :: r, h, hn => by
    have ha := hn a (by simp)
    have hb := hn b (by simp)
    obtain ⟨h1, h2⟩ := nib_hi ha b hb
    simp only [pairs]
    rw [nibbles_cons, h1, h2, nibbles_pairs (by simp only [List.length_cons] at h; omega) (fun x hx => hn x (by simp [hx]))]
theorem pairs_half : ∀ {p : By}, (pairs p).length = p.length / 2
  | [] => rfl
  | [a] => by simp [pairs]
  | a :: b :: r => by simp only [pairs, List.length_cons]; rw [pairs_half]; omega
theorem unpack_pack {p : By} {leaf : Bool} (h : ¬ packBad p) : unpack (pack p leaf).1 = some (p, leaf) := by
  unfold pack
  rw [if_neg h]
  unfold packBad at h
  have hn : Nib p := fun x hx => by
    refine Nat.not_le.1 fun hc => h (.inr ⟨x, hx, UInt8.le_iff_toNat_le.2 ?_⟩)
    simpa using hc
  have hl : p.length ≤ 128 := Nat.not_lt.1 fun hc => h (.inl hc)
  unfold headed
  by_cases ho : p.length % 2 = 1
  · rw [if_pos ho]
    cases p with
    | nil => simp at ho
    | cons x r =>
      simp only [List.length_cons] at ho hl
      have hx := hn x (by simp)
      have hr : Nib r := fun y hy => hn y (by simp [hy])
      simp only [pairs, unpack]
      obtain ⟨h1, h2⟩ := nib_hi (a := flagOf leaf + 1) (by cases leaf <;> decide) x hx
      rw [h1, h2, pairs_half, nibbles_pairs (by omega) hr]
      have e1 : (flagOf leaf + 1).toNat % 2 ≠ 0 := by cases leaf <;> decide
      have e2 : ¬ 3 < (flagOf leaf + 1).toNat := by cases leaf <;> decide
      have e3 : decide ((flagOf leaf + 1).toNat > 1) = leaf := by cases leaf <;> decide
      rw [if_neg (by omega), if_neg e1, if_neg (by omega), e3]
  · rw [if_neg ho]
    simp only [pairs, unpack]
    obtain ⟨h1, h2⟩ := nib_hi (a := flagOf leaf) (by cases leaf <;> decide) 0 (by decide)
    rw [h1, h2, pairs_half, nibbles_pairs (by omega) hn]
    have e1 : (flagOf leaf).toNat % 2 = 0 := by cases leaf <;> decide
    have e2 : ¬ 3 < (flagOf leaf).toNat := by cases leaf <;> decide
    have e3 : decide ((flagOf leaf).toNat > 1) = leaf := by cases leaf <;> decide
    rw [if_neg (by omega), if_pos e1, if_neg (by decide), e3]
theorem not_bad {p : By} (h : Nib p) : packBad p ↔ 128 < p.length := by
  unfold packBad
  constructor
  · rintro (h1 | ⟨x, hx, h1⟩)
    · exact h1
    · have := h x hx
      have h2 := UInt8.le_iff_toNat_le.1 h1
      simp at h2
      omega
  · exact .inl
/-- The odd path of a packed one is packed again. -/
theorem pack_odd {a : UInt8} {r : By} (h3 : ¬ 3 < (a >>> 4).toNat) (ho : (a >>> 4).toNat % 2 ≠ 0) : (pack ((a &&& 15) :: nibbles r) (decide ((a >>> 4).toNat > 1))) = if 64 ≤ r.length then ([], 140) else (a :: r, 0) := by
  have hn : Nib ((a &&& 15) :: nibbles r) := fun x hx => nib_nibbles (a :: r) x (by rw [nibbles_cons]; exact List.mem_cons_of_mem _ hx)
  unfold pack
  have hl : ((a &&& 15) :: nibbles r).length = 1 + 2 * r.length := by rw [List.length_cons, nibbles_len]; omega
  rw [show (if packBad _ then ((([] : By), (140 : Int))) else _) = _ from ite_congr (propext (not_bad hn)) (fun _ => rfl) (fun _ => rfl), hl]
  by_cases h : 64 ≤ r.length
  · rw [if_pos (by omega), if_pos h]
  · rw [if_neg (by omega), if_neg h]
    unfold headed
    rw [if_pos (by omega)]
    simp only [pairs]
    rw [pairs_nibbles]
    have : flagOf (decide ((a >>> 4).toNat > 1)) + (1 : UInt8) = a >>> 4 := by
      have : ∀ n : Fin 256, ¬ 3 < (UInt8.ofFin n >>> 4).toNat → (UInt8.ofFin n >>> 4).toNat % 2 ≠ 0 → flagOf (decide ((UInt8.ofFin n >>> 4).toNat > 1)) + (1 : UInt8) = UInt8.ofFin n >>> 4 := by decide +kernel
      exact this a.toFin h3 ho
    rw [this, nib_back]
theorem pack_even {a : UInt8} {r : By} (h3 : ¬ 3 < (a >>> 4).toNat) (he : (a >>> 4).toNat % 2 = 0) : (pack (nibbles r) (decide ((a >>> 4).toNat > 1))) = if 64 < r.length then ([], (140 : Int)) else ((a >>> 4) <<< 4 :: r, (0 : Int)) := by
  have hn : Nib (nibbles r) := nib_nibbles r
  unfold pack
  have hl : (nibbles r).length = 2 * r.length := by rw [nibbles_len]
  rw [show (if packBad _ then ((([] : By), (140 : Int))) else _) = _ from ite_congr (propext (not_bad hn)) (fun _ => rfl) (fun _ => rfl), hl]
  by_cases h : 64 < r.length
  · rw [if_pos (by omega), if_pos h]
  · rw [if_neg (by omega), if_neg h]
    unfold headed
    rw [if_neg (by omega)]
    simp only [pairs]
    rw [pairs_nibbles]
    have : flagOf (decide ((a >>> 4).toNat > 1)) = a >>> 4 := by
      have : ∀ n : Fin 256, ¬ 3 < (UInt8.ofFin n >>> 4).toNat → (UInt8.ofFin n >>> 4).toNat % 2 = 0 → flagOf (decide ((UInt8.ofFin n >>> 4).toNat > 1)) = UInt8.ofFin n >>> 4 := by decide +kernel
      exact this a.toFin h3 he
    rw [this]
    congr 2
    exact UInt8.or_zero
theorem low_zero (a : UInt8) : (a >>> 4) <<< 4 = a ↔ (a &&& 15).toNat = 0 := by
  have : ∀ n : Fin 256, ((UInt8.ofFin n >>> 4) <<< 4 = UInt8.ofFin n ↔ (UInt8.ofFin n &&& 15).toNat = 0) := by decide +kernel
  exact this a.toFin
theorem tmod_two (h : Nat) : Int.tmod (h : Int) 2 = ((h % 2 : Nat) : Int) := (Int.ofNat_tmod h 2).symm
/-- What Unpack answers. -/
def upk (b : By) : By × Bool × Int := match unpack b with
  | none => ([], false, 143)
  | some (p, l) => (p, l, 0)
section
variable {w : World} {o : Option Addr} {k : Nat} {bs : By}
theorem head_cell {a : UInt8} {r : By} (h : RdB w o (a :: r)) : ∃ d, o = some d ∧ w.cell? (Addr.add d 0) = some (.int .u8 (a.toNat : Int)) := by
  obtain ⟨b, f, rfl, hb, hc⟩ := h (by simp)
  exact ⟨_, rfl, by rw [add_at]; exact hc 0 (by simp)⟩
theorem subO_new {o : Option Addr} {c n N : Nat} (h : ∀ k, OB o k → N ≤ k) : ∀ d, subO o c n 1 = some d → N ≤ d.block := by
  intro d hd
  unfold subO at hd
  split at hd
  · exact h _ ⟨d, hd, rfl⟩
  · cases o with
    | none => simp at hd
    | some a =>
      simp only [Option.map_some, Option.some.injEq] at hd
      rw [← hd]
      have e : (a.add (n * 1)).block = a.block := by
        obtain ⟨b, f, s⟩ := a
        simp only [Addr.add]
        split <;> rfl
      rw [e]
      exact h a.block ⟨a, rfl, rfl⟩
theorem sub_drop {c n : Nat} (h : RdB w o bs) (hl : bs.length ≤ c) : RdB w (subO o c n 1) (bs.drop n) := by
  have := h.sub (c := c) (lo := n) (n := bs.length) hl
  rwa [List.take_of_length_le (by simp)] at this
theorem Unpack_calls (hr : RdB w o bs) (hl : bs.length ≤ 2 ^ 20) :
    Calls Try.prog trie_Unpack.n #[.slice o bs.length k] w (fun e w' => ∃ o' k', e = .returned (.tuple #[.slice o' (upk bs).1.length k', .bool (upk bs).2.1, .int .i64 (upk bs).2.2]) ∧ Vcg.Mod NoB w w' ∧ RdB w' o' (upk bs).1 ∧ ∀ d, o' = some d → w.heap.size ≤ d.block) := by
  refine calls_gen fun R hR => trie_Unpack.vc _ _ _ _ _ ?_
  unfold trie_Unpack.Vc
  refine (Nibbles_calls hr (by omega)).mono ?_
  rintro _ w1 ⟨o1, k1, rfl, F⟩
  have bad : ∀ w', unpack bs = none → Vcg.Mod NoB w w' → R (.returned (.tuple #[.slice none 0 0, .bool false, .int .i64 143])) w' := fun w' h M => by
    refine hR _ _ ⟨none, 0, ?_, M, ?_, fun d h => by cases h⟩
    · unfold upk; rw [h]; rfl
    · unfold upk; rw [h]; exact RdB.nil _ _
  refine ⟨_, _, _, rfl, fun h0 => ?_, fun h0 => ?_⟩
  · refine bad _ ?_ F.mod
    have : bs = [] := List.eq_nil_of_length_eq_zero (by rw [nibbles_len] at h0; omega)
    rw [this]; rfl
  · cases bs with
    | nil => simp [nibbles_len] at h0
    | cons a r =>
      have hR1 := F.own.bytes
      rw [nibbles_cons] at hR1
      obtain ⟨d, rfl, hc⟩ := head_cell hR1
      have hlen : (nibbles (a :: r)).length = 2 * (r.length + 1) := by rw [nibbles_len, List.length_cons]
      have hcap := F.own.cap.1
      rw [hlen] at *
      refine ⟨_, rfl, ⟨by omega, by omega⟩, _, hc, fun h3 => bad _ ?_ F.mod, fun h3 => ⟨fun h65 => bad _ ?_ F.mod, fun h65 => ?_⟩⟩
      · simp only [unpack]; rw [if_pos (.inr (by omega))]
      · simp only [unpack]; rw [if_pos (.inl (by omega))]
      refine ⟨_, rfl, ⟨by omega, by omega⟩, _, hc, by omega, ?_⟩
      have hn3 : ¬ 3 < (a >>> 4).toNat := by omega
      have edec : decide (((a >>> 4).toNat : Int) > 1) = decide ((a >>> 4).toNat > 1) := by rw [Bool.eq_iff_iff, decide_eq_true_eq, decide_eq_true_eq]; omega
      rw [edec]
      let path : By := if (a >>> 4).toNat % 2 = 0 then nibbles r else (a &&& 15) :: nibbles r
      have hpl : path.length ≤ 2 ^ 30 := by
        simp only [path]
        simp only [List.length_cons] at hl
        split
        · rw [nibbles_len]; omega
        · rw [List.length_cons, nibbles_len]; omega
      refine ⟨fun o' n' c' w' => w' = w1 ∧ n' = path.length ∧ RdB w1 o' path ∧ ∀ d, o' = some d → w.heap.size ≤ d.block, ?_, ?_⟩
      · refine ⟨_, rfl, ⟨by omega, by omega⟩, _, hc, fun he => ?_, fun he => ?_⟩
        · rw [tmod_two] at he
          have he' : (a >>> 4).toNat % 2 = 0 := by omega
          refine ⟨by omega, rfl, ?_, ?_, subO_new F.new⟩
          · simp only [path, if_pos he', nibbles_len]; omega
          · simp only [path, if_pos he']
            exact sub_drop (n := 2) hR1 (by simp only [List.length_cons, nibbles_len]; omega)
        · rw [tmod_two] at he
          have he' : ¬ (a >>> 4).toNat % 2 = 0 := by omega
          refine ⟨rfl, ?_, ?_, subO_new F.new⟩
          · simp only [path, if_neg he', List.length_cons, nibbles_len]; omega
          · simp only [path, if_neg he']
            exact sub_drop (n := 1) hR1 (by simp only [List.length_cons, nibbles_len]; omega)
      · rintro o3 _ c3 _ w1 ⟨rfl, rfl, h3, hnew⟩
        refine (Pack_calls (k := c3) h3 hpl _).mono ?_
        rintro _ w2 ⟨o4, k4, rfl, F4⟩
        have M02 := F.mod.trans F4.mod (fun _ _ h => h)
        refine ⟨_, _, _, _, rfl, fun hn => bad _ ?_ M02, fun hz => ?_⟩
        · simp only [path] at hn
          simp only [unpack]
          rw [if_neg (by omega)]
          by_cases he : (a >>> 4).toNat % 2 = 0
          · rw [if_pos he, pack_even hn3 he, if_neg (by omega)] at hn
            exact (hn rfl).elim
          · rw [if_neg he, pack_odd hn3 he] at hn
            rw [if_neg he]
            by_cases h64 : 64 ≤ r.length
            · rw [if_pos h64]
            · rw [if_neg h64] at hn; exact (hn rfl).elim
        · have hq := (Equal_calls (k1 := k4) (k2 := k) F4.own.bytes (hr.mod' M02))
          refine hq.mono ?_
          rintro _ w2 ⟨rfl, rfl⟩
          refine ⟨_, rfl, fun hf => bad _ ?_ M02, fun ht => ?_⟩
          · have hf := of_decide_eq_false hf
            simp only [path] at hf hz
            simp only [unpack]
            rw [if_neg (by omega)]
            by_cases he : (a >>> 4).toNat % 2 = 0
            · rw [if_pos he, pack_even hn3 he, if_neg (by omega)] at hf
              rw [if_pos he, if_pos (fun h => hf ?_)]
              show (a >>> 4) <<< 4 :: r = a :: r
              rw [(low_zero a).2 h]
            · rw [if_neg he, pack_odd hn3 he] at hf hz
              by_cases h64 : 64 ≤ r.length
              · rw [if_pos h64] at hz; exact absurd hz (by decide)
              · rw [if_neg h64] at hf; exact (hf rfl).elim
          · have ht := of_decide_eq_true ht
            have hu : unpack (a :: r) = some (path, decide ((a >>> 4).toNat > 1)) := by
              simp only [path] at ht hz ⊢
              simp only [unpack]
              rw [if_neg (by omega)]
              by_cases he : (a >>> 4).toNat % 2 = 0
              · rw [if_pos he, pack_even hn3 he, if_neg (by omega)] at ht
                simp only [List.cons.injEq, and_true] at ht
                rw [if_pos he, if_neg (fun h => h ((low_zero a).1 ht)), if_pos he]
              · rw [if_neg he, pack_odd hn3 he] at hz
                rw [if_neg he]
                by_cases h64 : 64 ≤ r.length
                · rw [if_pos h64] at hz; exact absurd hz (by decide)
                · rw [if_neg h64, if_neg he]
            refine hR _ _ ⟨o3, c3, ?_, M02, ?_, hnew⟩
            · unfold upk; rw [hu]
            · unfold upk; rw [hu]; exact h3.mod' F4.mod
theorem rUnpack_calls (hr : RdB w o bs) (hl : bs.length ≤ 2 ^ 20) :
    Calls Try.prog moraineref14_Unpack.n #[.slice o bs.length k] w (fun e w' => ∃ o' k', e = .returned (.tuple #[.slice o' (upk bs).1.length k', .bool (upk bs).2.1, .int .i64 (upk bs).2.2]) ∧ Vcg.Mod NoB w w' ∧ RdB w' o' (upk bs).1 ∧ ∀ d, o' = some d → w.heap.size ≤ d.block) := by
  refine calls_gen fun R hR => moraineref14_Unpack.vc _ _ _ _ _ ?_
  unfold moraineref14_Unpack.Vc
  have bad : ∀ w', unpack bs = none → Vcg.Mod NoB w w' → R (.returned (.tuple #[.slice none 0 0, .bool false, .int .i64 143])) w' := fun w' h M => by
    refine hR _ _ ⟨none, 0, ?_, M, ?_, fun d h => by cases h⟩
    · unfold upk; rw [h]; rfl
    · unfold upk; rw [h]; exact RdB.nil _ _
  refine ⟨fun h0 => ?_, fun h0 => ⟨fun h65 => ?_, fun h65 => ?_⟩⟩
  · refine bad _ ?_ (Mod.refl w)
    have : bs = [] := List.eq_nil_of_length_eq_zero (by omega)
    rw [this]; rfl
  · cases bs with
    | nil => simp at h0
    | cons a r =>
      simp only [List.length_cons] at h65
      refine bad _ ?_ (Mod.refl w)
      simp only [unpack]; rw [if_pos (.inl (by omega))]
  · refine (rNibbles_calls hr (by omega)).mono ?_
    rintro _ w1 ⟨o1, k1, rfl, F⟩
    cases bs with
    | nil => simp at h0
    | cons a r =>
      simp only [List.length_cons] at h65
      have hR1 := F.own.bytes
      rw [nibbles_cons] at hR1
      have hlen : (nibbles (a :: r)).length = 2 * (r.length + 1) := by rw [nibbles_len, List.length_cons]
      have hcap : 2 * (r.length + 1) ≤ k1 := by have := F.own.cap.1; rwa [hlen] at this
      rw [hlen]
      obtain ⟨b, f, rfl, hb, hcs⟩ := hR1 (by simp)
      have c0 := hcs 0 (by simp)
      have c1 := hcs 1 (by simp)
      refine ⟨_, _, _, rfl, _, rfl, ⟨by omega, by omega⟩, ((a >>> 4).toNat : Int), by rw [add_at]; exact c0, fun h3 => bad _ ?_ F.mod, fun h3 => ?_⟩
      · simp only [unpack]; rw [if_pos (.inr (by omega))]
      · rw [tmod_two]
        have hn3 : ¬ 3 < (a >>> 4).toNat := by omega
        have edec : decide (((a >>> 4).toNat : Int) > 1) = decide ((a >>> 4).toNat > 1) := by rw [Bool.eq_iff_iff, decide_eq_true_eq, decide_eq_true_eq]; omega
        rw [edec]
        refine ⟨fun he => ?_, fun he => ?_⟩
        · have he' : (a >>> 4).toNat % 2 = 0 := by omega
          refine ⟨_, rfl, ⟨by omega, by omega⟩, ((a &&& 15).toNat : Int), by rw [add_at]; exact c1, fun hn => bad _ ?_ F.mod, fun hz => ?_⟩
          · simp only [unpack]
            rw [if_neg (by omega), if_pos he', if_pos (by omega)]
          · have ew : IntKind.wrap .u8 ((2 : Int) - (((a >>> 4).toNat % 2 : Nat) : Int)) = 2 := by rw [he']; decide
            rw [ew]
            have hu : unpack (a :: r) = some (nibbles r, decide ((a >>> 4).toNat > 1)) := by
              simp only [unpack]
              rw [if_neg (by omega), if_pos he', if_neg (by omega)]
            refine ⟨⟨by omega, by omega⟩, fun h => absurd h (by simp only [show Int.toNat 2 = 2 from rfl]; omega), fun h => hR _ _ ⟨subO (some ⟨b, f, none⟩) k1 2 1, k1 - 2, ?_, F.mod, ?_, ?_⟩⟩
            · unfold upk; rw [hu]
              simp only [show Int.toNat 2 = 2 from rfl, nibbles_len]
              rw [show 2 * (r.length + 1) - 2 = 2 * r.length by omega]
            · unfold upk; rw [hu]
              exact sub_drop (n := 2) hR1 (by simp only [List.length_cons, nibbles_len]; omega)
            · exact subO_new F.new
        · have he' : (a >>> 4).toNat % 2 = 1 := by omega
          have ew : IntKind.wrap .u8 ((2 : Int) - (((a >>> 4).toNat % 2 : Nat) : Int)) = 1 := by rw [he']; decide
          rw [ew]
          refine ⟨⟨by omega, by omega⟩, fun h => bad _ ?_ F.mod, fun h => ?_⟩
          · simp only [show Int.toNat 1 = 1 from rfl] at h
            simp only [unpack]
            rw [if_neg (by omega), if_neg (by omega), if_pos (by omega)]
          · simp only [show Int.toNat 1 = 1 from rfl] at h ⊢
            have hu : unpack (a :: r) = some ((a &&& 15) :: nibbles r, decide ((a >>> 4).toNat > 1)) := by
              simp only [unpack]
              rw [if_neg (by omega), if_neg (by omega), if_neg (by omega)]
            refine hR _ _ ⟨subO (some ⟨b, f, none⟩) k1 1 1, k1 - 1, ?_, F.mod, ?_, ?_⟩
            · unfold upk; rw [hu]
              simp only [List.length_cons, nibbles_len]
              rw [show 2 * (r.length + 1) - 1 = 2 * r.length + 1 by omega]
            · unfold upk; rw [hu]
              exact sub_drop (n := 1) hR1 (by simp only [List.length_cons, nibbles_len]; omega)
            · exact subO_new F.new
end
end Go.Proofs.Ytfghidehlnfdiaa
end

section
set_option linter.unusedVariables false
set_option linter.unusedSimpArgs false
namespace Go.Proofs.Ytfghidehlnfdiaa
open Go Go.Vcg Go.Trie
theorem Secure_calls {w : World} {o : Option Addr} {k : Nat} {key : By} (hk : RdB w o key) (hl : key.length ≤ 2 ^ 40) :
    Calls Try.prog trie_Secure.n #[.slice o key.length k] w (fun e w' => ∃ b, e = .returned (.slice (some ⟨b, 0, none⟩) 32 32) ∧ w.heap.size ≤ b ∧ Vcg.Mod NoB w w' ∧ RdB w' (some ⟨b, 0, none⟩) (sumOf key)) := by
  refine trie_Secure.vc _ _ _ _ _ ?_
  unfold trie_Secure.Vc
  rintro d w1 ⟨rfl, rfl⟩
  have B1 := Blk.new w 22 #[.slice o key.length k]
  have M1 := Mod.alloc (S := NoB) w (.cells #[.slice o key.length k] 22)
  refine (Sum_calls [key] rfl (by simp) (RdBB.one B1 (hk.mod' M1)) (by simpa using hl)).mono ?_
  rintro _ w2 ⟨rfl, M2⟩
  have e : [key].flatten = key := by simp
  rw [e]
  refine ⟨_, rfl, ?_⟩
  rintro d w3 ⟨rfl, rfl⟩
  have H3 := Blk.new w2 26 (Array.replicate 32 (.int .u8 0))
  obtain ⟨g1, g2, g3⟩ := hash_store H3 (by simp) (sumOf key)
  have M02 := M1.trans M2 (fun _ _ h => h)
  refine ⟨_, g1, _, rfl, M02.size, mod_of (M02.step_alloc _) g3 M02.size, RdB.of_blk g2 (fun j hj => ?_)⟩
  rw [length_sumOf] at hj
  simp only [Nat.zero_add, hashA]
  exact get_arrOf_lt hj
theorem ne_bool {w : World} (x y : Operand) (a : Bool) : Sem.run Try.prog (semBin .neq 4 x y (.bool a) (.bool a)) w = .ok (.bool false) w := by
  cases a <;> kernel_rfl
theorem eq_bool {w : World} (x y : Operand) (a : Bool) : Sem.run Try.prog (semBin .eql 4 x y (.bool a) (.bool a)) w = .ok (.bool true) w := by
  cases a <;> kernel_rfl
theorem Paths_calls (w : World) {o ob ok : Option Addr} {k kb kk : Nat} {p bs key : By} {leaf : Bool} (hp : RdB w o p) (hb : RdB w ob bs) (hk : RdB w ok key) :
    Calls Try.prog morainelaw14_TriePaths.n #[.slice o p.length k, .bool leaf, .slice ob bs.length kb, .slice ok key.length kk] w (fun e w' => e = .returned (.bool true) ∧ Vcg.Mod NoB w w') := by
  refine morainelaw14_TriePaths.vc _ _ _ _ _ _ _ _ _ _ _ _ ?_
  unfold morainelaw14_TriePaths.Vc
  refine (known14_calls w).mono ?_
  rintro _ w1 ⟨rfl, M1⟩
  refine ⟨_, rfl, fun h => (by cases h), fun _ => ⟨fun _ => ⟨rfl, M1⟩, fun h1 => ⟨fun _ => ⟨rfl, M1⟩, fun h2 => ⟨fun _ => ⟨rfl, M1⟩, fun h3 => ?_⟩⟩⟩⟩
  have hpl : p.length ≤ 300 := by omega
  have hbl : bs.length ≤ 300 := by omega
  have hkl : key.length ≤ 300 := by omega
  refine (Pack_calls (k := k) (hp.mod' M1) (by omega) leaf).mono ?_
  rintro _ w2 ⟨o2, k2, rfl, F2⟩
  have M2 := M1.trans F2.mod (fun _ _ h => h)
  refine ⟨_, _, _, _, rfl, (rPack_calls (k := k) (hp.mod' M2) (by omega) leaf).mono ?_⟩
  rintro _ w3 ⟨o3, k3, rfl, F3⟩
  have M3 := M2.trans F3.mod (fun _ _ h => h)
  refine ⟨_, _, _, _, rfl, fun h => (h rfl).elim, fun _ => ?_⟩
  refine (hBytes_calls (k1 := k2) (k2 := k3) (F2.own.bytes.mod' F3.mod) F3.own.bytes).mono ?_
  rintro _ w3 ⟨rfl, rfl⟩
  refine ⟨_, rfl, fun h => by simp at h, fun _ => ?_⟩
  refine (Nibbles_calls (k := kk) (hk.mod' M3) (by omega)).mono ?_
  rintro _ w4 ⟨o4, k4, rfl, F4⟩
  have M4 := M3.trans F4.mod (fun _ _ h => h)
  refine ⟨_, _, _, rfl, (rNibbles_calls (k := kk) (hk.mod' M4) (by omega)).mono ?_⟩
  rintro _ w5 ⟨o5, k5, rfl, F5⟩
  have M5 := M4.trans F5.mod (fun _ _ h => h)
  refine ⟨_, _, _, rfl, (hBytes_calls (k1 := k4) (k2 := k5) (F4.own.bytes.mod' F5.mod) F5.own.bytes).mono ?_⟩
  rintro _ w5 ⟨rfl, rfl⟩
  refine ⟨_, rfl, fun h => by simp at h, fun _ => ?_⟩
  refine ⟨fun w' => Vcg.Mod NoB w w', ⟨fun hz => ?_, fun _ => M5⟩, ?_⟩
  · have hgood : ¬ packBad p := fun hbad => by
      unfold pack at hz
      rw [if_pos hbad] at hz
      exact absurd hz (by decide)
    have hR := F2.own.bytes.mod' ((F3.mod.trans F4.mod (fun _ _ h => h)).trans F5.mod (fun _ _ h => h))
    have hlen : (pack p leaf).1.length ≤ 2 ^ 20 := by
      have hn : p.length ≤ 128 := Nat.not_lt.1 fun hc => hgood (.inl hc)
      unfold pack
      rw [if_neg hgood]
      simp only
      rw [pairs_half]
      unfold headed
      split <;> simp only [List.length_cons] <;> omega
    refine (Unpack_calls (k := k2) hR hlen).mono ?_
    rintro _ w6 ⟨o6, k6, rfl, M6, R6, _⟩
    have hu : upk (pack p leaf).1 = (p, leaf, 0) := by unfold upk; rw [unpack_pack hgood]
    rw [hu] at R6 ⊢
    have M06 := M5.trans M6 (fun _ _ h => h)
    refine ⟨_, _, _, _, _, rfl, fun h => (h rfl).elim, fun _ => ⟨_, ne_bool _ _ _, _, rfl, fun h => (by cases h), fun _ => ?_⟩⟩
    refine (hBytes_calls (k1 := k6) (k2 := k) R6 (hp.mod' M06)).mono ?_
    rintro _ w6 ⟨rfl, rfl⟩
    exact ⟨_, rfl, fun h => by simp at h, fun _ => M06⟩
  · rintro _ w6 M6
    refine (Unpack_calls (k := kb) (hb.mod' M6) (by omega)).mono ?_
    rintro _ w7 ⟨o7, k7, rfl, M7, R7, _⟩
    have M07 := M6.trans M7 (fun _ _ h => h)
    refine ⟨_, _, _, _, _, rfl, (rUnpack_calls (k := kb) (hb.mod' M07) (by omega)).mono ?_⟩
    rintro _ w8 ⟨o8, k8, rfl, M8, R8, _⟩
    have M08 := M07.trans M8 (fun _ _ h => h)
    refine ⟨_, _, _, _, _, rfl, (refSum_calls (c0 := kk) key rfl (by omega) (hk.mod' M08)).mono ?_⟩
    rintro _ w9 ⟨rfl, M9⟩
    refine ⟨_, rfl, ?_⟩
    rintro d wa ⟨rfl, rfl⟩
    have Ha := Blk.new w9 26 (Array.replicate 32 (.int .u8 0))
    obtain ⟨g1, g2, g3⟩ := hash_store Ha (by simp) (sumOf key)
    refine ⟨_, g1, ?_⟩
    rintro _ rfl
    have Mb := (mod_of (Mod.alloc (S := NoB) w9 (.cells (Array.replicate 32 (.int .u8 0)) 26)) g3 (Nat.le_refl _)).step_drew
    have Db := g2.drew
    generalize ((w9.alloc (.cells (Array.replicate 32 (.int .u8 0)) 26)).setRow w9.heap.size (hashA (sumOf key))).drew = wb at *
    have M8b := M9.trans Mb (fun _ _ h => h)
    have M0b := M08.trans M8b (fun _ _ h => h)
    refine ⟨fun _ => ⟨_, eq_bool _ _ _, _, rfl, fun _ => ?_, fun h => (by cases h)⟩, fun h => (h rfl).elim⟩
    refine (hBytes_calls (k1 := k7) (k2 := k8) (R7.mod' (M8.trans M8b (fun _ _ h => h))) (R8.mod' M8b)).mono ?_
    rintro _ wb ⟨rfl, rfl⟩
    refine ⟨_, rfl, fun _ => ?_, fun h => by simp at h⟩
    refine (Secure_calls (k := kk) (hk.mod' M0b) (by omega)).mono ?_
    rintro _ wc ⟨b, rfl, _, Mc, Rc⟩
    have hRd : RdB wc (some ⟨w9.heap.size, 0, none⟩) (sumOf key) := RdB.of_blk (Db.mod' Mc) (fun j hj => by
      rw [length_sumOf] at hj
      simp only [Nat.zero_add, hashA]
      exact get_arrOf_lt hj)
    have hq := hBytes_calls (k1 := 32) (k2 := 32) Rc hRd
    rw [length_sumOf] at hq
    refine ⟨_, _, _, rfl, hq.mono ?_⟩
    rintro _ wc ⟨rfl, rfl⟩
    rw [decide_eq_true rfl]
    exact ⟨_, rfl, rfl, M0b.trans Mc (fun _ _ h => h)⟩
end Go.Proofs.Ytfghidehlnfdiaa
end

section
namespace Go.Vcg
open Go

theorem mapM_get {α β : Type} {f : α → Option β} : ∀ {l : List α} {ys : List β}, l.mapM f = some ys → ys.length = l.length ∧ ∀ (i : Nat) (x : α), l[i]? = some x → ∃ y, ys[i]? = some y ∧ f x = some y
  | [], ys, h => by
    rw [List.mapM_nil] at h
    cases h
    exact ⟨rfl, fun i x hx => by simp at hx⟩
  | a :: l, ys, h => by
    rw [List.mapM_cons] at h
    cases ha : f a with
    | none => simp [ha] at h
    | some b =>
      cases hl : l.mapM f with
      | none => simp [ha, hl] at h
      | some bs =>
        simp [ha, hl] at h
        subst h
        obtain ⟨h1, h2⟩ := mapM_get hl
        refine ⟨by simp [h1], fun i x hx => ?_⟩
        cases i with
        | zero => simp at hx; subst hx; exact ⟨b, rfl, ha⟩
        | succ i => simp at hx; exact h2 i x hx
section
variable {H : Type} {enc : TypeId × Value → H} {P : Program} {W : World} {sp : Nat → Bool} {held : Bool} {base : Nat}

/-- What a reading of a slice tells of its elements, one cell each, and of the datum. -/
theorem trod_slice2 {fuel : Nat} {t e : TypeId} {v : Value} {d : DataW H} {ps : List MemPlace} (ht : P.underlying t = some (.slice e)) (hce : P.cellsOf e = 1)
    (h : DataW.trod enc P W base sp held fuel t [v] = some (d, ps)) :
    ∃ o l c, v = .slice o l c ∧ l ≤ c ∧ c ≤ maxLen ∧ ((l = 0 ∧ d = .nil) ∨ ∃ elems spare, d = .slice elems spare ∧ elems.length = l ∧
      ∀ i, i < l → ∃ b f u d' ps' fuel', o = some ⟨b, f, none⟩ ∧ b < W.heap.size ∧ W.cell? ⟨b, f + i, none⟩ = some u ∧ DataW.trod enc P W base sp held fuel' e [u] = some (d', ps') ∧ elems[i]? = some d') := by
  obtain ⟨o, l, c, rfl, hlc, hcm, hall⟩ := trod_slice ht hce h
  refine ⟨o, l, c, rfl, hlc, hcm, ?_⟩
  cases fuel with
  | zero => simp [DataW.trod] at h
  | succ fuel =>
    cases o with
    | none =>
      left
      have : l = 0 ∧ c = 0 := by
        rcases l with _ | l <;> rcases c with _ | c <;> simp [DataW.trod, ht] at h ⊢
      obtain ⟨rfl, rfl⟩ := this
      simp [DataW.trod, ht] at h
      exact ⟨rfl, h.1.symm⟩
    | some a =>
      right
      simp only [DataW.trod, ht, hce, Nat.mul_one] at h
      split at h
      · obtain ⟨els, hm, h2⟩ := Option.bind_eq_some_iff.1 h
        obtain ⟨rest, _, h3⟩ := Option.map_eq_some_iff.1 h2
        cases h3
        obtain ⟨hl, hg⟩ := mapM_get hm
        rw [List.length_range] at hl
        refine ⟨_, _, rfl, by simp [hl], fun i hi => ?_⟩
        obtain ⟨b, f, u, d', ps', fuel', ho, hb, hu, hd⟩ := hall i hi
        cases ho
        obtain ⟨y, hy, hfy⟩ := hg i i (by rw [List.getElem?_range hi])
        obtain ⟨vs, hv, hd2⟩ := Option.bind_eq_some_iff.1 hfy
        obtain ⟨u2, rfl, hu2⟩ := cells1_some hv
        rw [add_at, hu] at hu2
        cases hu2
        exact ⟨b, f, u, y.1, y.2, fuel, rfl, hb, hu, hd2, by rw [List.getElem?_map, hy]; rfl⟩
      · cases h

theorem weights_slice {t e : TypeId} {elems spare : List (DataW H)} {n0 : Nat} (ht : P.underlying t = some (.slice e)) (h : ((DataW.slice elems spare).weights P t).all (· ≤ n0) = true) :
    elems.length * P.bytesOf e ≤ n0 ∧ ∀ d ∈ elems, (d.weights P e).all (· ≤ n0) = true := by
  simp only [DataW.weights, ht, List.all_cons, Bool.and_eq_true, List.all_append] at h
  refine ⟨?_, fun d hd => ?_⟩
  · have h1 : (elems.length + spare.length) * P.bytesOf e ≤ n0 := of_decide_eq_true h.1
    exact Nat.le_trans (Nat.mul_le_mul_right _ (Nat.le_add_right _ _)) h1
  · have h2 := h.2.1
    clear h
    induction elems with
    | nil => cases hd
    | cons x r ih =>
      simp only [DataW.weightsAll, List.all_append, Bool.and_eq_true] at h2
      rcases List.mem_cons.1 hd with rfl | hd
      · exact h2.1
      · exact ih hd h2.2

/-- Bytes, and how many there can be. -/
theorem trod_bytes2 {fuel : Nat} {t e : TypeId} {v : Value} {d : DataW H} {ps : List MemPlace} (ht : P.underlying t = some (.slice e)) (he : P.underlying e = some (.int .u8)) (hce : P.cellsOf e = 1)
    (h : DataW.trod enc P W base sp held fuel t [v] = some (d, ps)) : ∃ o c bs, v = .slice o bs.length c ∧ bs.length ≤ c ∧ c ≤ maxLen ∧ RdB W o bs ∧ ∀ n0, (d.weights P t).all (· ≤ n0) = true → bs.length * P.bytesOf e ≤ n0 := by
  obtain ⟨o, c, bs, rfl, h1, h2, h3⟩ := trod_bytes ht he hce h
  refine ⟨o, c, bs, rfl, h1, h2, h3, fun n0 hw => ?_⟩
  obtain ⟨o', l', c', hv, _, _, h4⟩ := trod_slice2 ht hce h
  cases hv
  rcases h4 with ⟨h5, _⟩ | ⟨elems, spare, rfl, h5, _⟩
  · rw [h5]; simp
  · rw [← h5]; exact (weights_slice ht hw).1
/-- Lists of bytes, and how long each of them can be. -/
theorem trod_bytess2 {fuel : Nat} {t e e2 : TypeId} {v : Value} {d : DataW H} {ps : List MemPlace} (ht : P.underlying t = some (.slice e)) (he : P.underlying e = some (.slice e2)) (he2 : P.underlying e2 = some (.int .u8)) (hce : P.cellsOf e = 1) (hce2 : P.cellsOf e2 = 1)
    (h : DataW.trod enc P W base sp held fuel t [v] = some (d, ps)) : ∃ o c ls, v = .slice o ls.length c ∧ ls.length ≤ c ∧ c ≤ maxLen ∧ RdBB W o ls ∧ ∀ n0, (d.weights P t).all (· ≤ n0) = true → ls.length * P.bytesOf e ≤ n0 ∧ ∀ b ∈ ls, b.length * P.bytesOf e2 ≤ n0 := by
  obtain ⟨o, c, ls, rfl, h1, h2, h3, h3'⟩ := trod_bytess ht he he2 hce hce2 h
  refine ⟨o, c, ls, rfl, h1, h2, h3, fun n0 hw => ?_⟩
  obtain ⟨o', l', c', hv, _, _, h4⟩ := trod_slice2 ht hce h
  cases hv
  rcases h4 with ⟨h5, _⟩ | ⟨elems, spare, rfl, h5, h6⟩
  · rw [h5]
    exact ⟨by simp, fun b hb => by rw [List.eq_nil_of_length_eq_zero h5] at hb; cases hb⟩
  · obtain ⟨h7, h8⟩ := weights_slice ht hw
    refine ⟨by rw [← h5]; exact h7, fun b hb => ?_⟩
    obtain ⟨i, hi, rfl⟩ := List.getElem_of_mem hb
    obtain ⟨bk, f, u, d', ps', fuel', ho, hbk, hu, hd, hel⟩ := h6 i hi
    obtain ⟨bk2, f2, oi, ci, ho2, _, hc2, hr2⟩ := h3 i hi
    rw [ho] at ho2
    cases ho2
    rw [hu] at hc2
    cases hc2
    obtain ⟨o3, c3, bs3, hv3, _, _, _, hw3⟩ := trod_bytes2 he he2 hce2 hd
    have e1 : ls.getD i [] = ls[i] := by simp [List.getD_eq_getElem?_getD, hi]
    have h9 := hw3 n0 (h8 d' (List.mem_of_getElem? hel))
    have h10 : (ls.getD i []).length = bs3.length := by injection hv3
    rw [← h10, e1] at h9
    exact h9
end
theorem i64_range {n : Int} (h : (Lit.int .i64 n).wf = true) : -9223372036854775808 ≤ n ∧ n < 9223372036854775808 := by
  simp only [Lit.wf, Bool.and_eq_true, decide_eq_true_eq] at h
  have h1 : IntKind.min .i64 = -9223372036854775808 := by decide
  have h2 : IntKind.max .i64 = 9223372036854775807 := by decide
  omega
/-- What is told of all arguments is told of each. -/
theorem weights_each {H : Type} {P : Program} {n0 : Nat} : ∀ {ts : List TypeId} {ds : List (DataW H)}, (DataW.weightsEach P ts ds).all (· ≤ n0) = true → ∀ (j : Nat) (t : TypeId) (d : DataW H), ts[j]? = some t → ds[j]? = some d → (d.weights P t).all (· ≤ n0) = true
  | t0 :: ts, d0 :: ds, h, 0, t, d, ht, hd => by
    simp at ht hd
    subst ht hd
    simp only [DataW.weightsEach, List.all_append, Bool.and_eq_true] at h
    exact h.1
  | t0 :: ts, d0 :: ds, h, j + 1, t, d, ht, hd => by
    simp only [DataW.weightsEach, List.all_append, Bool.and_eq_true] at h
    exact weights_each h.2 j t d (by simpa using ht) (by simpa using hd)
  | [], _, _, _, _, _, ht, _ => by simp at ht
  | _ :: _, [], _, _, _, _, _, hd => by simp at hd
end Go.Vcg
end
