/- The verification conditions of some functions, printed by a program of ours (wip/PrintVc.lean). -/
import Derived.Test.YtkekehngillblaaXFun
import Derived.Test.YtkekehngillblaaProg
import Derived.KernelRfl
section
set_option linter.unusedVariables false
namespace Go.Proofs.Ytkekehngillblaa
open Go Go.Vcg
theorem mixed : Try.prog.follows .mixedOrders = true := by kernel_rfl
/-! moraine/morainelaw1.DiskRoom: 3 -/
abbrev morainelaw1_DiskRoom.n : Nat := 3
def morainelaw1_DiskRoom.Vc (n0 : Int) (o1 : Option Addr) (l1 : Nat) (c1 : Nat) (w : World) (R : Ending → World → Prop) : Prop :=
  Calls Try.prog 8 #[] w (fun e2 w3 =>
    ∃ b4 : Bool, e2 = .returned (.bool b4) ∧
    (((b4 = false →
      R (.returned (.bool false)) w3)) ∧
     ((b4 = true →
      (((n0 < 0 →
        R (.returned (.bool true)) w3)) ∧
       ((¬ n0 < 0 →
        (((n0 > 2000 →
          R (.returned (.bool true)) w3)) ∧
         ((¬ n0 > 2000 →
          (((((l1 : Nat) : Int) > 40 →
            R (.returned (.bool true)) w3)) ∧
           ((¬ ((l1 : Nat) : Int) > 40 →
            Calls Try.prog 9 #[(.int .i64 n0)] w3 (fun e5 w6 =>
              ∃ o7 : Option Addr, ∃ n8 : Int, e5 = .returned (.tuple #[(.pointer o7), (.int .i64 n8)]) ∧
              Calls Try.prog 10 #[(.pointer o7), (.string ⟨#[120]⟩)] w6 (fun e9 w10 =>
                ∃ n11 : Int, e9 = .returned (.int .i64 n11) ∧
                (((n11 ≠ 0 →
                  R (.returned (.bool false)) w10)) ∧
                 ((n11 = 0 →
                  Calls Try.prog 10 #[(.pointer o7), (.string ⟨#[121]⟩)] w10 (fun e12 w13 =>
                    ∃ n14 : Int, e12 = .returned (.int .i64 n14) ∧
                    (((n14 ≠ 0 →
                      R (.returned (.bool false)) w13)) ∧
                     ((n14 = 0 →
                      ∃ (I15 : Int → Int → World → Prop) (μ15 : Int → Int → World → Nat), I15 0 0 w13 ∧
                      (∀ (n16 : Int) (n17 : Int) (j18 : Nat → Value) (w18 : World), I15 n16 n17 w18 →
                        (((n17 < ((l1 : Nat) : Int) →
                          ((0 : Int) ≤ (IntKind.wrap .i64 ((Int.tmod n17 2) + 1)) ∧ (IntKind.wrap .i64 ((Int.tmod n17 2) + 1)) ≤ (((ByteArray.size ⟨#[120, 121]⟩) : Nat) : Int)) ∧
                          ((0 : Int) ≤ (Int.tmod n17 2) ∧ (Int.tmod n17 2) ≤ (((Int.toNat (IntKind.wrap .i64 ((Int.tmod n17 2) + 1))) : Nat) : Int)) ∧
                          ∃ d19 : Addr, o1 = some d19 ∧
                          ((0 : Int) ≤ n17 ∧ n17 < ((l1 : Nat) : Int)) ∧
                          ∃ o20 : Option Addr, ∃ l21 : Nat, ∃ l22 : Nat, World.cell? w18 (Addr.add d19 (Int.toNat n17)) = some (.slice o20 l21 l22) ∧
                          Calls Try.prog 11 #[(.pointer o7), (.string (ByteArray.extract ⟨#[120, 121]⟩ (Int.toNat (Int.tmod n17 2)) (Int.toNat (IntKind.wrap .i64 ((Int.tmod n17 2) + 1))))), (.slice o20 l21 l22)] w18 (fun e23 w24 =>
                            ∃ n25 : Int, e23 = .returned (.int .i64 n25) ∧
                            ∃ d26 : Addr, o1 = some d26 ∧
                            ((0 : Int) ≤ n17 ∧ n17 < ((l1 : Nat) : Int)) ∧
                            ∃ o27 : Option Addr, ∃ l28 : Nat, ∃ l29 : Nat, World.cell? w24 (Addr.add d26 (Int.toNat n17)) = some (.slice o27 l28 l29) ∧
                            ((((IntKind.wrap .i64 (n16 + ((l28 : Nat) : Int))) > n0 →
                              ∃ d30 : Addr, o1 = some d30 ∧
                              ((0 : Int) ≤ n17 ∧ n17 < ((l1 : Nat) : Int)) ∧
                              ∃ o31 : Option Addr, ∃ l32 : Nat, ∃ l33 : Nat, World.cell? w24 (Addr.add d30 (Int.toNat n17)) = some (.slice o31 l32 l33) ∧
                              (((((l32 : Nat) : Int) > 0 →
                                (((n25 ≠ 15 →
                                  R (.returned (.bool false)) w24)) ∧
                                 ((n25 = 15 →
                                  Calls Try.prog 12 #[(.pointer o7)] w24 (fun e34 w35 =>
                                    ∃ n36 : Int, e34 = .returned (.int .i64 n36) ∧
                                    (((n36 ≠ n16 →
                                      R (.returned (.bool false)) w35)) ∧
                                     ((n36 = n16 →
                                      I15 n16 (IntKind.wrap .i64 (n17 + 1)) w35 ∧ μ15 n16 (IntKind.wrap .i64 (n17 + 1)) w35 < μ15 n16 n17 w18))))))))) ∧
                               ((¬ ((l32 : Nat) : Int) > 0 →
                                (((n25 ≠ 0 →
                                  R (.returned (.bool false)) w24)) ∧
                                 ((n25 = 0 →
                                  ∃ d37 : Addr, o1 = some d37 ∧
                                  ((0 : Int) ≤ n17 ∧ n17 < ((l1 : Nat) : Int)) ∧
                                  ∃ o38 : Option Addr, ∃ l39 : Nat, ∃ l40 : Nat, World.cell? w24 (Addr.add d37 (Int.toNat n17)) = some (.slice o38 l39 l40) ∧
                                  Calls Try.prog 12 #[(.pointer o7)] w24 (fun e41 w42 =>
                                    ∃ n43 : Int, e41 = .returned (.int .i64 n43) ∧
                                    (((n43 ≠ (IntKind.wrap .i64 (n16 + ((l39 : Nat) : Int))) →
                                      R (.returned (.bool false)) w42)) ∧
                                     ((n43 = (IntKind.wrap .i64 (n16 + ((l39 : Nat) : Int))) →
                                      I15 (IntKind.wrap .i64 (n16 + ((l39 : Nat) : Int))) (IntKind.wrap .i64 (n17 + 1)) w42 ∧ μ15 (IntKind.wrap .i64 (n16 + ((l39 : Nat) : Int))) (IntKind.wrap .i64 (n17 + 1)) w42 < μ15 n16 n17 w18)))))))))))) ∧
                             ((¬ (IntKind.wrap .i64 (n16 + ((l28 : Nat) : Int))) > n0 →
                              (((n25 ≠ 0 →
                                R (.returned (.bool false)) w24)) ∧
                               ((n25 = 0 →
                                ∃ d44 : Addr, o1 = some d44 ∧
                                ((0 : Int) ≤ n17 ∧ n17 < ((l1 : Nat) : Int)) ∧
                                ∃ o45 : Option Addr, ∃ l46 : Nat, ∃ l47 : Nat, World.cell? w24 (Addr.add d44 (Int.toNat n17)) = some (.slice o45 l46 l47) ∧
                                Calls Try.prog 12 #[(.pointer o7)] w24 (fun e48 w49 =>
                                  ∃ n50 : Int, e48 = .returned (.int .i64 n50) ∧
                                  (((n50 ≠ (IntKind.wrap .i64 (n16 + ((l46 : Nat) : Int))) →
                                    R (.returned (.bool false)) w49)) ∧
                                   ((n50 = (IntKind.wrap .i64 (n16 + ((l46 : Nat) : Int))) →
                                    I15 (IntKind.wrap .i64 (n16 + ((l46 : Nat) : Int))) (IntKind.wrap .i64 (n17 + 1)) w49 ∧ μ15 (IntKind.wrap .i64 (n16 + ((l46 : Nat) : Int))) (IntKind.wrap .i64 (n17 + 1)) w49 < μ15 n16 n17 w18))))))))))))) ∧
                         ((¬ n17 < ((l1 : Nat) : Int) →
                          R (.returned (.bool true)) w18))))))))))))))))))))))))))
theorem morainelaw1_DiskRoom.vc (n0 : Int) (o1 : Option Addr) (l1 : Nat) (c1 : Nat) (w : World) (R : Ending → World → Prop) (h : morainelaw1_DiskRoom.Vc n0 o1 l1 c1 w R) : Calls Try.prog 3 #[(.int .i64 n0), (.slice o1 l1 c1)] w R :=
  execF_sound (ann := [(10, [(7, .cell (.int .i64)), (8, .cell (.int .i64))])]) (args := [.int .i64 n0, .slice o1 l1 c1]) Try.func3 mixed (Eq.mp (by kernel_rfl : morainelaw1_DiskRoom.Vc n0 o1 l1 c1 w R = execF (pA Try.prog R) Try.prog [(10, [(7, .cell (.int .i64)), (8, .cell (.int .i64))])] Try.f3 [.int .i64 n0, .slice o1 l1 c1] w) h)

/-! moraine/morainelaw1.DiskTorn: 4 -/
abbrev morainelaw1_DiskTorn.n : Nat := 4
def morainelaw1_DiskTorn.Vc (o0 : Option Addr) (l0 : Nat) (c0 : Nat) (o1 : Option Addr) (l1 : Nat) (c1 : Nat) (n2 : Int) (w : World) (R : Ending → World → Prop) : Prop :=
  Calls Try.prog 8 #[] w (fun e3 w4 =>
    ∃ b5 : Bool, e3 = .returned (.bool b5) ∧
    (((b5 = false →
      R (.returned (.bool false)) w4)) ∧
     ((b5 = true →
      (((((l0 : Nat) : Int) > 500 →
        R (.returned (.bool true)) w4)) ∧
       ((¬ ((l0 : Nat) : Int) > 500 →
        (((((l1 : Nat) : Int) > 20 →
          R (.returned (.bool true)) w4)) ∧
         ((¬ ((l1 : Nat) : Int) > 20 →
          Calls Try.prog 9 #[(.int .i64 1048576)] w4 (fun e6 w7 =>
            ∃ o8 : Option Addr, ∃ n9 : Int, e6 = .returned (.tuple #[(.pointer o8), (.int .i64 n9)]) ∧
            Calls Try.prog 10 #[(.pointer o8), (.string ⟨#[120]⟩)] w7 (fun e10 w11 =>
              ∃ n12 : Int, e10 = .returned (.int .i64 n12) ∧
              (((n12 ≠ 0 →
                R (.returned (.bool false)) w11)) ∧
               ((n12 = 0 →
                Calls Try.prog 11 #[(.pointer o8), (.string ⟨#[120]⟩), (.slice o0 l0 c0)] w11 (fun e13 w14 =>
                  ∃ n15 : Int, e13 = .returned (.int .i64 n15) ∧
                  (((n15 ≠ 0 →
                    R (.returned (.bool false)) w14)) ∧
                   ((n15 = 0 →
                    Calls Try.prog 13 #[(.pointer o8), (.string ⟨#[120]⟩)] w14 (fun e16 w17 =>
                      ∃ n18 : Int, e16 = .returned (.int .i64 n18) ∧
                      (((n18 ≠ 0 →
                        R (.returned (.bool false)) w17)) ∧
                       ((n18 = 0 →
                        Calls Try.prog 14 #[(.pointer o8)] w17 (fun e19 w20 =>
                          ∃ n21 : Int, e19 = .returned (.int .i64 n21) ∧
                          (((n21 ≠ 0 →
                            R (.returned (.bool false)) w20)) ∧
                           ((n21 = 0 →
                            ∃ (v22 : Value) (w23 : World), Sem.run Try.prog (builtinV .append #[30, 30] 30 #[(.slice none 0 0), (.slice o0 l0 c0)]) w20 = .ok v22 w23 ∧
                            ∃ o24 : Option Addr, ∃ l25 : Nat, ∃ l26 : Nat, v22 = (.slice o24 l25 l26) ∧
                            ∃ (I27 : Option Addr → Nat → Nat → Int → World → Prop) (μ27 : Option Addr → Nat → Nat → Int → World → Nat), I27 o24 l25 l26 0 w23 ∧
                            (∀ (o28 : Option Addr) (l28 : Nat) (c28 : Nat) (n29 : Int) (j30 : Nat → Value) (w30 : World), I27 o28 l28 c28 n29 w30 →
                              (((n29 < ((l1 : Nat) : Int) →
                                ∃ d31 : Addr, o1 = some d31 ∧
                                ((0 : Int) ≤ n29 ∧ n29 < ((l1 : Nat) : Int)) ∧
                                ∃ o32 : Option Addr, ∃ l33 : Nat, ∃ l34 : Nat, World.cell? w30 (Addr.add d31 (Int.toNat n29)) = some (.slice o32 l33 l34) ∧
                                (((((l33 : Nat) : Int) > 300 →
                                  ∃ d35 : Addr, o1 = some d35 ∧
                                  ((0 : Int) ≤ n29 ∧ n29 < ((l1 : Nat) : Int)) ∧
                                  ∃ o36 : Option Addr, ∃ l37 : Nat, ∃ l38 : Nat, World.cell? w30 (Addr.add d35 (Int.toNat n29)) = some (.slice o36 l37 l38) ∧
                                  R (.returned (.bool (decide (((l37 : Nat) : Int) > 300)))) w30)) ∧
                                 ((¬ ((l33 : Nat) : Int) > 300 →
                                  ∃ d39 : Addr, o1 = some d39 ∧
                                  ((0 : Int) ≤ n29 ∧ n29 < ((l1 : Nat) : Int)) ∧
                                  ∃ o40 : Option Addr, ∃ l41 : Nat, ∃ l42 : Nat, World.cell? w30 (Addr.add d39 (Int.toNat n29)) = some (.slice o40 l41 l42) ∧
                                  Calls Try.prog 11 #[(.pointer o8), (.string ⟨#[120]⟩), (.slice o40 l41 l42)] w30 (fun e43 w44 =>
                                    ∃ n45 : Int, e43 = .returned (.int .i64 n45) ∧
                                    (((n45 ≠ 0 →
                                      ∃ d46 : Addr, o1 = some d46 ∧
                                      ((0 : Int) ≤ n29 ∧ n29 < ((l1 : Nat) : Int)) ∧
                                      ∃ o47 : Option Addr, ∃ l48 : Nat, ∃ l49 : Nat, World.cell? w44 (Addr.add d46 (Int.toNat n29)) = some (.slice o47 l48 l49) ∧
                                      R (.returned (.bool (decide (((l48 : Nat) : Int) > 300)))) w44)) ∧
                                     ((n45 = 0 →
                                      ∃ d50 : Addr, o1 = some d50 ∧
                                      ((0 : Int) ≤ n29 ∧ n29 < ((l1 : Nat) : Int)) ∧
                                      ∃ o51 : Option Addr, ∃ l52 : Nat, ∃ l53 : Nat, World.cell? w44 (Addr.add d50 (Int.toNat n29)) = some (.slice o51 l52 l53) ∧
                                      ∃ (v54 : Value) (w55 : World), Sem.run Try.prog (builtinV .append #[30, 30] 30 #[(.slice o28 l28 c28), (.slice o51 l52 l53)]) w44 = .ok v54 w55 ∧
                                      ∃ o56 : Option Addr, ∃ l57 : Nat, ∃ l58 : Nat, v54 = (.slice o56 l57 l58) ∧
                                      I27 o56 l57 l58 (IntKind.wrap .i64 (n29 + 1)) w55 ∧ μ27 o56 l57 l58 (IntKind.wrap .i64 (n29 + 1)) w55 < μ27 o28 l28 c28 n29 w30))))))))) ∧
                               ((¬ n29 < ((l1 : Nat) : Int) →
                                ∀ (d59 : Addr) (w60 : World), IsNew w30 3 #[(.int .i64 n2)] d59 w60 →
                                Calls Try.prog 15 #[(.pointer o8), (.agg #[(.int .i64 0), (.slice (some d59) 1 1)])] w60 (fun e61 w62 =>
                                  e61 = .returned (.tuple #[]) ∧
                                  Calls Try.prog 16 #[(.pointer o8), (.string ⟨#[120]⟩)] w62 (fun e63 w64 =>
                                    ∃ o65 : Option Addr, ∃ l66 : Nat, ∃ l67 : Nat, ∃ n68 : Int, e63 = .returned (.tuple #[(.slice o65 l66 l67), (.int .i64 n68)]) ∧
                                    (((n68 = 0 →
                                      ((0 : Int) ≤ (IntKind.wrap .i64 (((l0 : Nat) : Int) + (max 0 (min n2 (IntKind.wrap .i64 (((l28 : Nat) : Int) - ((l0 : Nat) : Int))))))) ∧ (IntKind.wrap .i64 (((l0 : Nat) : Int) + (max 0 (min n2 (IntKind.wrap .i64 (((l28 : Nat) : Int) - ((l0 : Nat) : Int))))))) ≤ ((c28 : Nat) : Int)) ∧
                                      Calls Try.prog 17 #[(.slice o65 l66 l67), (.slice o28 (Int.toNat (IntKind.wrap .i64 (((l0 : Nat) : Int) + (max 0 (min n2 (IntKind.wrap .i64 (((l28 : Nat) : Int) - ((l0 : Nat) : Int)))))))) c28)] w64 (fun e69 w70 =>
                                        ∃ b71 : Bool, e69 = .returned (.bool b71) ∧
                                        R (.returned (.bool b71)) w70))) ∧
                                     ((n68 ≠ 0 →
                                      R (.returned (.bool false)) w64))))))))))))))))))))))))))))))))))))
theorem morainelaw1_DiskTorn.vc (o0 : Option Addr) (l0 : Nat) (c0 : Nat) (o1 : Option Addr) (l1 : Nat) (c1 : Nat) (n2 : Int) (w : World) (R : Ending → World → Prop) (h : morainelaw1_DiskTorn.Vc o0 l0 c0 o1 l1 c1 n2 w R) : Calls Try.prog 4 #[(.slice o0 l0 c0), (.slice o1 l1 c1), (.int .i64 n2)] w R :=
  execF_sound (ann := [(10, [(9, .cell (.slice)), (10, .cell (.int .i64))])]) (args := [.slice o0 l0 c0, .slice o1 l1 c1, .int .i64 n2]) Try.func4 mixed (Eq.mp (by kernel_rfl : morainelaw1_DiskTorn.Vc o0 l0 c0 o1 l1 c1 n2 w R = execF (pA Try.prog R) Try.prog [(10, [(9, .cell (.slice)), (10, .cell (.int .i64))])] Try.f4 [.slice o0 l0 c0, .slice o1 l1 c1, .int .i64 n2] w) h)

/-! moraine/morainelaw1.DiskMoved: 5 -/
abbrev morainelaw1_DiskMoved.n : Nat := 5
def morainelaw1_DiskMoved.Vc (n0 : Int) (n1 : Int) (w : World) (R : Ending → World → Prop) : Prop :=
  Calls Try.prog 8 #[] w (fun e2 w3 =>
    ∃ b4 : Bool, e2 = .returned (.bool b4) ∧
    (((b4 = false →
      R (.returned (.bool false)) w3)) ∧
     ((b4 = true →
      (((n0 < 1 →
        R (.returned (.bool true)) w3)) ∧
       ((¬ n0 < 1 →
        (((n0 > 20 →
          R (.returned (.bool true)) w3)) ∧
         ((¬ n0 > 20 →
          Calls Try.prog 9 #[(.int .i64 100)] w3 (fun e5 w6 =>
            ∃ o7 : Option Addr, ∃ n8 : Int, e5 = .returned (.tuple #[(.pointer o7), (.int .i64 n8)]) ∧
            Calls Try.prog 10 #[(.pointer o7), (.string ⟨#[97]⟩)] w6 (fun e9 w10 =>
              ∃ n11 : Int, e9 = .returned (.int .i64 n11) ∧
              (((n11 ≠ 0 →
                R (.returned (.bool false)) w10)) ∧
               ((n11 = 0 →
                Calls Try.prog 14 #[(.pointer o7)] w10 (fun e12 w13 =>
                  ∃ n14 : Int, e12 = .returned (.int .i64 n14) ∧
                  (((n14 ≠ 0 →
                    R (.returned (.bool false)) w13)) ∧
                   ((n14 = 0 →
                    ∃ (I15 : Int → World → Prop) (μ15 : Int → World → Nat), I15 1 w13 ∧
                    (∀ (n16 : Int) (j17 : Nat → Value) (w17 : World), I15 n16 w17 →
                      (((n16 < n0 →
                        ∀ w18 : World, IsDrew w17 w18 →
                        ((0 : Int) ≤ n16 ∧ n16 ≤ (((ByteArray.size ⟨#[97, 98, 99, 100, 101, 102, 103, 104, 105, 106, 107, 108, 109, 110, 111, 112, 113, 114, 115, 116, 117, 118, 119, 120, 121, 122]⟩) : Nat) : Int)) ∧
                        ((0 : Int) ≤ (IntKind.wrap .i64 (n16 - 1)) ∧ (IntKind.wrap .i64 (n16 - 1)) ≤ (((Int.toNat n16) : Nat) : Int)) ∧
                        ((0 : Int) ≤ (IntKind.wrap .i64 (n16 + 1)) ∧ (IntKind.wrap .i64 (n16 + 1)) ≤ (((ByteArray.size ⟨#[97, 98, 99, 100, 101, 102, 103, 104, 105, 106, 107, 108, 109, 110, 111, 112, 113, 114, 115, 116, 117, 118, 119, 120, 121, 122]⟩) : Nat) : Int)) ∧
                        ((0 : Int) ≤ n16 ∧ n16 ≤ (((Int.toNat (IntKind.wrap .i64 (n16 + 1))) : Nat) : Int)) ∧
                        Calls Try.prog 18 #[(.pointer o7), (.string (ByteArray.extract ⟨#[97, 98, 99, 100, 101, 102, 103, 104, 105, 106, 107, 108, 109, 110, 111, 112, 113, 114, 115, 116, 117, 118, 119, 120, 121, 122]⟩ (Int.toNat (IntKind.wrap .i64 (n16 - 1))) (Int.toNat n16))), (.string (ByteArray.extract ⟨#[97, 98, 99, 100, 101, 102, 103, 104, 105, 106, 107, 108, 109, 110, 111, 112, 113, 114, 115, 116, 117, 118, 119, 120, 121, 122]⟩ (Int.toNat n16) (Int.toNat (IntKind.wrap .i64 (n16 + 1)))))] w18 (fun e19 w20 =>
                          ∃ n21 : Int, e19 = .returned (.int .i64 n21) ∧
                          (((n21 ≠ 0 →
                            R (.returned (.bool false)) w20)) ∧
                           ((n21 = 0 →
                            I15 (IntKind.wrap .i64 (n16 + 1)) w20 ∧ μ15 (IntKind.wrap .i64 (n16 + 1)) w20 < μ15 n16 w17)))))) ∧
                       ((¬ n16 < n0 →
                        Calls Try.prog 15 #[(.pointer o7), (.agg #[(.int .i64 n1), (.slice none 0 0)])] w17 (fun e22 w23 =>
                          e22 = .returned (.tuple #[]) ∧
                          Calls Try.prog 19 #[(.pointer o7)] w23 (fun e24 w25 =>
                            ∃ o26 : Option Addr, ∃ l27 : Nat, ∃ l28 : Nat, ∃ n29 : Int, e24 = .returned (.tuple #[(.slice o26 l27 l28), (.int .i64 n29)]) ∧
                            ∀ w30 : World, IsDrew w25 w30 →
                            (((n29 = 0 →
                              (((((l27 : Nat) : Int) = 1 →
                                ∃ d31 : Addr, o26 = some d31 ∧
                                ((0 : Int) ≤ 0 ∧ 0 < ((l27 : Nat) : Int)) ∧
                                ∃ s32 : ByteArray, World.cell? w30 (Addr.add d31 0) = some (.string s32) ∧
                                ((0 : Int) ≤ (IntKind.wrap .i64 ((max 0 (min n1 (IntKind.wrap .i64 (n0 - 1)))) + 1)) ∧ (IntKind.wrap .i64 ((max 0 (min n1 (IntKind.wrap .i64 (n0 - 1)))) + 1)) ≤ (((ByteArray.size ⟨#[97, 98, 99, 100, 101, 102, 103, 104, 105, 106, 107, 108, 109, 110, 111, 112, 113, 114, 115, 116, 117, 118, 119, 120, 121, 122]⟩) : Nat) : Int)) ∧
                                ((0 : Int) ≤ (max 0 (min n1 (IntKind.wrap .i64 (n0 - 1)))) ∧ (max 0 (min n1 (IntKind.wrap .i64 (n0 - 1)))) ≤ (((Int.toNat (IntKind.wrap .i64 ((max 0 (min n1 (IntKind.wrap .i64 (n0 - 1)))) + 1))) : Nat) : Int)) ∧
                                R (.returned (.bool (strB .eql s32 (ByteArray.extract ⟨#[97, 98, 99, 100, 101, 102, 103, 104, 105, 106, 107, 108, 109, 110, 111, 112, 113, 114, 115, 116, 117, 118, 119, 120, 121, 122]⟩ (Int.toNat (max 0 (min n1 (IntKind.wrap .i64 (n0 - 1))))) (Int.toNat (IntKind.wrap .i64 ((max 0 (min n1 (IntKind.wrap .i64 (n0 - 1)))) + 1))))))) w30)) ∧
                               ((((l27 : Nat) : Int) ≠ 1 →
                                R (.returned (.bool false)) w30))))) ∧
                             ((n29 ≠ 0 →
                              R (.returned (.bool false)) w30))))))))))))))))))))))))))))
theorem morainelaw1_DiskMoved.vc (n0 : Int) (n1 : Int) (w : World) (R : Ending → World → Prop) (h : morainelaw1_DiskMoved.Vc n0 n1 w R) : Calls Try.prog 5 #[(.int .i64 n0), (.int .i64 n1)] w R :=
  execF_sound (ann := [(10, [(8, .cell (.int .i64))])]) (args := [.int .i64 n0, .int .i64 n1]) Try.func5 mixed (Eq.mp (by kernel_rfl : morainelaw1_DiskMoved.Vc n0 n1 w R = execF (pA Try.prog R) Try.prog [(10, [(8, .cell (.int .i64))])] Try.f5 [.int .i64 n0, .int .i64 n1] w) h)

/-! moraine/morainelaw1.known: 8 -/
abbrev morainelaw1_known.n : Nat := 8
def morainelaw1_known.Vc  (w : World) (R : Ending → World → Prop) : Prop :=
  Calls Try.prog 9 #[(.int .i64 10)] w (fun e0 w1 =>
    ∃ o2 : Option Addr, ∃ n3 : Int, e0 = .returned (.tuple #[(.pointer o2), (.int .i64 n3)]) ∧
    (((o2 = none →
      R (.returned (.bool false)) w1)) ∧
     ((o2 ≠ none →
      (((n3 ≠ 0 →
        R (.returned (.bool false)) w1)) ∧
       ((n3 = 0 →
        Calls Try.prog 10 #[(.pointer o2), (.string ⟨#[97]⟩)] w1 (fun e4 w5 =>
          ∃ n6 : Int, e4 = .returned (.int .i64 n6) ∧
          (((n6 ≠ 0 →
            R (.returned (.bool false)) w5)) ∧
           ((n6 = 0 →
            Calls Try.prog 14 #[(.pointer o2)] w5 (fun e7 w8 =>
              ∃ n9 : Int, e7 = .returned (.int .i64 n9) ∧
              (((n9 ≠ 0 →
                R (.returned (.bool false)) w8)) ∧
               ((n9 = 0 →
                ∀ (d10 : Addr) (w11 : World), IsNew w8 5 #[(.int .u8 1), (.int .u8 2), (.int .u8 3)] d10 w11 →
                Calls Try.prog 11 #[(.pointer o2), (.string ⟨#[97]⟩), (.slice (some d10) 3 3)] w11 (fun e12 w13 =>
                  ∃ n14 : Int, e12 = .returned (.int .i64 n14) ∧
                  (((n14 ≠ 0 →
                    R (.returned (.bool false)) w13)) ∧
                   ((n14 = 0 →
                    ∀ (d15 : Addr) (w16 : World), IsNew w13 3 #[(.int .i64 2)] d15 w16 →
                    Calls Try.prog 15 #[(.pointer o2), (.agg #[(.int .i64 0), (.slice (some d15) 1 1)])] w16 (fun e17 w18 =>
                      e17 = .returned (.tuple #[]) ∧
                      Calls Try.prog 16 #[(.pointer o2), (.string ⟨#[97]⟩)] w18 (fun e19 w20 =>
                        ∃ o21 : Option Addr, ∃ l22 : Nat, ∃ l23 : Nat, ∃ n24 : Int, e19 = .returned (.tuple #[(.slice o21 l22 l23), (.int .i64 n24)]) ∧
                        (((n24 = 0 →
                          ∃ v25 : Value, Sem.run Try.prog (convert 30 9 (.slice o21 l22 l23)) w20 = .ok v25 w20 ∧
                          ∃ s26 : ByteArray, v25 = (.string s26) ∧
                          (((strB .eql s26 ⟨#[1, 2]⟩ = true →
                            ∃ (v27 : Value) (w28 : World), Sem.run Try.prog (Instr.makeSlice 30 (.int .i64 9) (.int .i64 9)) w20 = .ok v27 w28 ∧
                            ∃ o29 : Option Addr, ∃ l30 : Nat, ∃ l31 : Nat, v27 = (.slice o29 l30 l31) ∧
                            Calls Try.prog 11 #[(.pointer o2), (.string ⟨#[97]⟩), (.slice o29 l30 l31)] w28 (fun e32 w33 =>
                              ∃ n34 : Int, e32 = .returned (.int .i64 n34) ∧
                              R (.returned (.bool (decide (n34 = 15)))) w33))) ∧
                           ((strB .eql s26 ⟨#[1, 2]⟩ = false →
                            R (.returned (.bool false)) w20))))) ∧
                         ((n24 ≠ 0 →
                          R (.returned (.bool false)) w20))))))))))))))))))))))))
theorem morainelaw1_known.vc  (w : World) (R : Ending → World → Prop) (h : morainelaw1_known.Vc w R) : Calls Try.prog 8 #[] w R :=
  execF_sound (ann := []) (args := []) Try.func8 mixed (Eq.mp (by kernel_rfl : morainelaw1_known.Vc w R = execF (pA Try.prog R) Try.prog [] Try.f8 [] w) h)

/-! moraine/disk.New: 9 -/
abbrev disk_New.n : Nat := 9
def disk_New.Vc (n0 : Int) (w : World) (R : Ending → World → Prop) : Prop :=
  (((n0 < 0 →
    R (.returned (.tuple #[(.pointer none), (.int .i64 10)])) w)) ∧
   ((¬ n0 < 0 →
    (((n0 > 67108864 →
      R (.returned (.tuple #[(.pointer none), (.int .i64 10)])) w)) ∧
     ((¬ n0 > 67108864 →
      ∃ (v1 : Value) (w2 : World), Sem.run Try.prog (Instr.makeMap 58 none) w = .ok v1 w2 ∧
      ∃ m3 : Option Nat, v1 = (.map m3) ∧
      ∃ (v4 : Value) (w5 : World), Sem.run Try.prog (Instr.makeMap 58 none) w2 = .ok v4 w5 ∧
      ∃ m6 : Option Nat, v4 = (.map m6) ∧
      ∀ (d7 : Addr) (w8 : World), IsNew w5 61 (setsAt (setsAt (setsAt (setsAt #[(.int .i64 0), (.map none), (.map none), (.slice none 0 0), (.int .i64 0), (.int .i64 0), (.int .i64 0), (.int .i64 0), (.bool false)] 0 [(.int .i64 n0)]) 1 [(.map m3)]) 2 [(.map m6)]) 7 [(.int .i64 (-1))]) d7 w8 →
      R (.returned (.tuple #[(.pointer (some d7)), (.int .i64 0)])) w8))))))
theorem disk_New.vc (n0 : Int) (w : World) (R : Ending → World → Prop) (h : disk_New.Vc n0 w R) : Calls Try.prog 9 #[(.int .i64 n0)] w R :=
  execF_sound (ann := []) (args := [.int .i64 n0]) Try.func9 mixed (Eq.mp (by kernel_rfl : disk_New.Vc n0 w R = execF (pA Try.prog R) Try.prog [] Try.f9 [.int .i64 n0] w) h)

/-! (*moraine/disk.Disk).Create: 10 -/
abbrev disk_Disk_Create.n : Nat := 10
def disk_Disk_Create.Vc (d0 : Addr) (s1 : ByteArray) (w : World) (R : Ending → World → Prop) : Prop :=
  Calls Try.prog 26 #[(.pointer (some d0)), (.string s1), (.slice none 0 0)] w (fun e2 w3 =>
    ∃ o4 : Option Addr, ∃ n5 : Int, e2 = .returned (.tuple #[(.pointer o4), (.int .i64 n5)]) ∧
    (((n5 = 0 →
      R (.returned (.int .i64 12)) w3)) ∧
     ((n5 ≠ 0 →
      (((n5 ≠ 13 →
        R (.returned (.int .i64 n5)) w3)) ∧
       ((n5 = 13 →
        ∃ n6 : Int, World.cell? w3 (Addr.add d0 4) = some (.int .i64 n6) ∧
        (((n6 = 1048576 →
          R (.returned (.int .i64 15)) w3)) ∧
         ((n6 ≠ 1048576 →
          ∃ n7 : Int, World.cell? w3 (Addr.add d0 4) = some (.int .i64 n7) ∧
          ∀ (d8 : Addr) (w9 : World), IsNew w3 68 #[(.int .i64 n7), (.slice none 0 0), (.slice none 0 0), (.slice none 0 0)] d8 w9 →
          Calls Try.prog 27 #[(.pointer (some d0)), (.iface 70 (.agg #[(.string s1), (.pointer (some d8))]))] w9 (fun e10 w11 =>
            e10 = .returned (.tuple #[]) ∧
            ∃ n12 : Int, World.cell? w11 (Addr.add d0 4) = some (.int .i64 n12) ∧
            CanSet w11 (Addr.add d0 4) (.int .i64 (IntKind.wrap .i64 (n12 + 1))) ∧ ∀ w13 : World, IsSet w11 (Addr.add d0 4) (.int .i64 (IntKind.wrap .i64 (n12 + 1))) w13 →
            R (.returned (.int .i64 0)) w13)))))))))))
theorem disk_Disk_Create.vc (d0 : Addr) (s1 : ByteArray) (w : World) (R : Ending → World → Prop) (h : disk_Disk_Create.Vc d0 s1 w R) : Calls Try.prog 10 #[(.pointer (some d0)), (.string s1)] w R :=
  execF_sound (ann := []) (args := [.addr d0, .str s1]) Try.func10 mixed (Eq.mp (by kernel_rfl : disk_Disk_Create.Vc d0 s1 w R = execF (pA Try.prog R) Try.prog [] Try.f10 [.addr d0, .str s1] w) h)

/-! (*moraine/disk.Disk).Append: 11 -/
abbrev disk_Disk_Append.n : Nat := 11
def disk_Disk_Append.Vc (d0 : Addr) (s1 : ByteArray) (o2 : Option Addr) (l2 : Nat) (c2 : Nat) (w : World) (R : Ending → World → Prop) : Prop :=
  Calls Try.prog 26 #[(.pointer (some d0)), (.string s1), (.slice none 0 0)] w (fun e3 w4 =>
    ∃ o5 : Option Addr, ∃ n6 : Int, e3 = .returned (.tuple #[(.pointer o5), (.int .i64 n6)]) ∧
    (((n6 ≠ 0 →
      R (.returned (.int .i64 n6)) w4)) ∧
     ((n6 = 0 →
      ∃ d7 : Addr, o5 = some d7 ∧
      ∃ o8 : Option Addr, ∃ l9 : Nat, ∃ l10 : Nat, World.cell? w4 (Addr.add d7 1) = some (.slice o8 l9 l10) ∧
      Calls Try.prog 28 #[(.pointer (some d0)), (.pointer o5), (.int .i64 ((l9 : Nat) : Int)), (.slice o2 l2 c2)] w4 (fun e11 w12 =>
        ∃ n13 : Int, e11 = .returned (.int .i64 n13) ∧
        R (.returned (.int .i64 n13)) w12)))))
theorem disk_Disk_Append.vc (d0 : Addr) (s1 : ByteArray) (o2 : Option Addr) (l2 : Nat) (c2 : Nat) (w : World) (R : Ending → World → Prop) (h : disk_Disk_Append.Vc d0 s1 o2 l2 c2 w R) : Calls Try.prog 11 #[(.pointer (some d0)), (.string s1), (.slice o2 l2 c2)] w R :=
  execF_sound (ann := []) (args := [.addr d0, .str s1, .slice o2 l2 c2]) Try.func11 mixed (Eq.mp (by kernel_rfl : disk_Disk_Append.Vc d0 s1 o2 l2 c2 w R = execF (pA Try.prog R) Try.prog [] Try.f11 [.addr d0, .str s1, .slice o2 l2 c2] w) h)

/-! (*moraine/disk.Disk).Used: 12 -/
abbrev disk_Disk_Used.n : Nat := 12
def disk_Disk_Used.Vc (d0 : Addr) (w : World) (R : Ending → World → Prop) : Prop :=
  ∃ m1 : Option Nat, World.cell? w (Addr.add d0 1) = some (.map m1) ∧
  ∃ (v2 : Value) (w3 : World), Sem.run Try.prog (Instr.range 58 (.map m1)) w = .ok v2 w3 ∧
  ∃ (I4 : Int → World → Prop) (μ4 : Int → World → Nat), I4 0 w3 ∧
  (∀ (n5 : Int) (j6 : Nat → Value) (w6 : World), I4 n5 w6 →
    ∃ (v7 : Value) (w8 : World), Sem.run Try.prog (Instr.next v2 false 0) w6 = .ok v7 w8 ∧
    ∃ v9 : Value, Sem.run Try.prog (Instr.extract v7 0) w8 = .ok v9 w8 ∧
    ∃ b10 : Bool, v9 = (.bool b10) ∧
    (((b10 = true →
      ∃ (v11 : Value) (w12 : World), Sem.run Try.prog (Instr.entry v2) w8 = .ok v11 w12 ∧
      ∃ v13 : Value, Sem.run Try.prog (Instr.extract v11 1) w12 = .ok v13 w12 ∧
      ∃ o14 : Option Addr, v13 = (.pointer o14) ∧
      ∃ d15 : Addr, o14 = some d15 ∧
      ∃ o16 : Option Addr, ∃ l17 : Nat, ∃ l18 : Nat, World.cell? w12 (Addr.add d15 1) = some (.slice o16 l17 l18) ∧
      I4 (IntKind.wrap .i64 (n5 + ((l17 : Nat) : Int))) w12 ∧ μ4 (IntKind.wrap .i64 (n5 + ((l17 : Nat) : Int))) w12 < μ4 n5 w6)) ∧
     ((b10 = false →
      R (.returned (.int .i64 n5)) w8))))
theorem disk_Disk_Used.vc (d0 : Addr) (w : World) (R : Ending → World → Prop) (h : disk_Disk_Used.Vc d0 w R) : Calls Try.prog 12 #[(.pointer (some d0))] w R :=
  execF_sound (ann := [(3, [(3, .cell (.int .i64))])]) (args := [.addr d0]) Try.func12 mixed (Eq.mp (by kernel_rfl : disk_Disk_Used.Vc d0 w R = execF (pA Try.prog R) Try.prog [(3, [(3, .cell (.int .i64))])] Try.f12 [.addr d0] w) h)

/-! (*moraine/disk.Disk).Sync: 13 -/
abbrev disk_Disk_Sync.n : Nat := 13
def disk_Disk_Sync.Vc (d0 : Addr) (s1 : ByteArray) (w : World) (R : Ending → World → Prop) : Prop :=
  Calls Try.prog 26 #[(.pointer (some d0)), (.string s1), (.slice none 0 0)] w (fun e2 w3 =>
    ∃ o4 : Option Addr, ∃ n5 : Int, e2 = .returned (.tuple #[(.pointer o4), (.int .i64 n5)]) ∧
    (((n5 ≠ 0 →
      R (.returned (.int .i64 n5)) w3)) ∧
     ((n5 = 0 →
      Calls Try.prog 29 #[(.pointer o4)] w3 (fun e6 w7 =>
        e6 = .returned (.tuple #[]) ∧
        R (.returned (.int .i64 0)) w7)))))
theorem disk_Disk_Sync.vc (d0 : Addr) (s1 : ByteArray) (w : World) (R : Ending → World → Prop) (h : disk_Disk_Sync.Vc d0 s1 w R) : Calls Try.prog 13 #[(.pointer (some d0)), (.string s1)] w R :=
  execF_sound (ann := []) (args := [.addr d0, .str s1]) Try.func13 mixed (Eq.mp (by kernel_rfl : disk_Disk_Sync.Vc d0 s1 w R = execF (pA Try.prog R) Try.prog [] Try.f13 [.addr d0, .str s1] w) h)

/-! (*moraine/disk.Disk).SyncDir: 14 -/
abbrev disk_Disk_SyncDir.n : Nat := 14
def disk_Disk_SyncDir.Vc (d0 : Addr) (w : World) (R : Ending → World → Prop) : Prop :=
  Calls Try.prog 30 #[(.pointer (some d0))] w (fun e1 w2 =>
    ∃ n3 : Int, e1 = .returned (.int .i64 n3) ∧
    (((n3 ≠ 0 →
      R (.returned (.int .i64 n3)) w2)) ∧
     ((n3 = 0 →
      ∃ m4 : Option Nat, World.cell? w2 (Addr.add d0 1) = some (.map m4) ∧
      Calls Try.prog 31 #[(.map m4)] w2 (fun e5 w6 =>
        ∃ m7 : Option Nat, e5 = .returned (.map m7) ∧
        CanSet w6 (Addr.add d0 2) (.map m7) ∧ ∀ w8 : World, IsSet w6 (Addr.add d0 2) (.map m7) w8 →
        CanSet w8 (Addr.add d0 3) (.slice none 0 0) ∧ ∀ w9 : World, IsSet w8 (Addr.add d0 3) (.slice none 0 0) w9 →
        R (.returned (.int .i64 0)) w9)))))
theorem disk_Disk_SyncDir.vc (d0 : Addr) (w : World) (R : Ending → World → Prop) (h : disk_Disk_SyncDir.Vc d0 w R) : Calls Try.prog 14 #[(.pointer (some d0))] w R :=
  execF_sound (ann := []) (args := [.addr d0]) Try.func14 mixed (Eq.mp (by kernel_rfl : disk_Disk_SyncDir.Vc d0 w R = execF (pA Try.prog R) Try.prog [] Try.f14 [.addr d0] w) h)

/-! (*moraine/disk.Disk).Restart: 15 -/
abbrev disk_Disk_Restart.n : Nat := 15
def disk_Disk_Restart.Vc (d0 : Addr) (n1 : Int) (o2 : Option Addr) (l2 : Nat) (c2 : Nat) (w : World) (R : Ending → World → Prop) : Prop :=
  ∀ (d3 : Addr) (w4 : World), IsNew w 37 #[(.int .i64 n1), (.slice o2 l2 c2)] d3 w4 →
  ∃ m5 : Option Nat, World.cell? w4 (Addr.add d0 2) = some (.map m5) ∧
  Calls Try.prog 31 #[(.map m5)] w4 (fun e6 w7 =>
    ∃ m8 : Option Nat, e6 = .returned (.map m8) ∧
    ∀ w9 : World, IsDrew w7 w9 →
    ∃ o10 : Option Addr, ∃ l11 : Nat, ∃ l12 : Nat, World.cell? w9 (Addr.add d0 3) = some (.slice o10 l11 l12) ∧
    ∃ n13 : Int, World.cell? w9 d3 = some (.int .i64 n13) ∧
    ∃ o14 : Option Addr, ∃ l15 : Nat, ∃ l16 : Nat, World.cell? w9 (Addr.add d0 3) = some (.slice o14 l15 l16) ∧
    ((0 : Int) ≤ (min (max n13 0) ((l15 : Nat) : Int)) ∧ (min (max n13 0) ((l15 : Nat) : Int)) ≤ ((l12 : Nat) : Int)) ∧
    ∃ (I17 : Int → World → Prop) (μ17 : Int → World → Nat), I17 0 w9 ∧
    (∀ (n18 : Int) (j19 : Nat → Value) (w19 : World), I17 n18 w19 →
      (((n18 < (((Int.toNat (min (max n13 0) ((l15 : Nat) : Int))) : Nat) : Int) →
        ∃ d20 : Addr, o10 = some d20 ∧
        ((0 : Int) ≤ n18 ∧ n18 < (((Int.toNat (min (max n13 0) ((l15 : Nat) : Int))) : Nat) : Int)) ∧
        ∃ v21 : Value, World.cell? w19 (Addr.add d20 (Int.toNat n18)) = some v21 ∧
        CallsM Try.prog v21 "moraine/disk.on" #[(.map m8)] w19 (fun e22 w23 =>
          e22 = .returned (.tuple #[]) ∧
          I17 (IntKind.wrap .i64 (n18 + 1)) w23 ∧ μ17 (IntKind.wrap .i64 (n18 + 1)) w23 < μ17 n18 w19))) ∧
       ((¬ n18 < (((Int.toNat (min (max n13 0) ((l15 : Nat) : Int))) : Nat) : Int) →
        ∃ (v24 : Value) (w25 : World), Sem.run Try.prog (Instr.range 58 (.map m8)) w19 = .ok v24 w25 ∧
        ∃ (I26 : World → Prop) (μ26 : World → Nat), I26  w25 ∧
        (∀  (j27 : Nat → Value) (w27 : World), I26  w27 →
          ∃ (v28 : Value) (w29 : World), Sem.run Try.prog (Instr.next v24 false 0) w27 = .ok v28 w29 ∧
          ∃ v30 : Value, Sem.run Try.prog (Instr.extract v28 0) w29 = .ok v30 w29 ∧
          ∃ b31 : Bool, v30 = (.bool b31) ∧
          (((b31 = true →
            ∃ (v32 : Value) (w33 : World), Sem.run Try.prog (Instr.entry v24) w29 = .ok v32 w33 ∧
            ∃ v34 : Value, Sem.run Try.prog (Instr.extract v32 1) w33 = .ok v34 w33 ∧
            ∃ o35 : Option Addr, v34 = (.pointer o35) ∧
            ∀ w36 : World, IsDrew w33 w36 →
            ∃ d37 : Addr, o35 = some d37 ∧
            ∃ n38 : Int, World.cell? w36 d37 = some (.int .i64 n38) ∧
            ∃ o39 : Option Addr, ∃ l40 : Nat, ∃ l41 : Nat, World.cell? w36 (Addr.add d3 1) = some (.slice o39 l40 l41) ∧
            (((n38 < ((l40 : Nat) : Int) →
              ∀ w42 : World, IsDrew w36 w42 →
              ∃ o43 : Option Addr, ∃ l44 : Nat, ∃ l45 : Nat, World.cell? w42 (Addr.add d3 1) = some (.slice o43 l44 l45) ∧
              ∃ d46 : Addr, o35 = some d46 ∧
              ∃ n47 : Int, World.cell? w42 d46 = some (.int .i64 n47) ∧
              ∃ d48 : Addr, o43 = some d48 ∧
              ((0 : Int) ≤ n47 ∧ n47 < ((l44 : Nat) : Int)) ∧
              ∃ n49 : Int, World.cell? w42 (Addr.add d48 (Int.toNat n47)) = some (.int .i64 n49) ∧
              Calls Try.prog 32 #[(.pointer o35), (.int .i64 (max n49 0))] w42 (fun e50 w51 =>
                e50 = .returned (.tuple #[]) ∧
                I26  w51 ∧ μ26  w51 < μ26  w27))) ∧
             ((¬ n38 < ((l40 : Nat) : Int) →
              Calls Try.prog 32 #[(.pointer o35), (.int .i64 0)] w36 (fun e52 w53 =>
                e52 = .returned (.tuple #[]) ∧
                I26  w53 ∧ μ26  w53 < μ26  w27)))))) ∧
           ((b31 = false →
            Calls Try.prog 31 #[(.map m8)] w29 (fun e54 w55 =>
              ∃ m56 : Option Nat, e54 = .returned (.map m56) ∧
              CanSet w55 (Addr.add d0 1) (.map m8) ∧ ∀ w57 : World, IsSet w55 (Addr.add d0 1) (.map m8) w57 →
              CanSet w57 (Addr.add d0 2) (.map m56) ∧ ∀ w58 : World, IsSet w57 (Addr.add d0 2) (.map m56) w58 →
              CanSet w58 (Addr.add d0 3) (.slice none 0 0) ∧ ∀ w59 : World, IsSet w58 (Addr.add d0 3) (.slice none 0 0) w59 →
              CanSet w59 (Addr.add d0 6) (.int .i64 0) ∧ ∀ w60 : World, IsSet w59 (Addr.add d0 6) (.int .i64 0) w60 →
              CanSet w60 (Addr.add d0 7) (.int .i64 (-1)) ∧ ∀ w61 : World, IsSet w60 (Addr.add d0 7) (.int .i64 (-1)) w61 →
              CanSet w61 (Addr.add d0 8) (.bool false) ∧ ∀ w62 : World, IsSet w61 (Addr.add d0 8) (.bool false) w62 →
              R (.returned (.tuple #[])) w62))))))))))
theorem disk_Disk_Restart.vc (d0 : Addr) (n1 : Int) (o2 : Option Addr) (l2 : Nat) (c2 : Nat) (w : World) (R : Ending → World → Prop) (h : disk_Disk_Restart.Vc d0 n1 o2 l2 c2 w R) : Calls Try.prog 15 #[(.pointer (some d0)), (.agg #[(.int .i64 n1), (.slice o2 l2 c2)])] w R :=
  execF_sound (ann := [(3, [(30, .cell (.int .i64))]), (8, [])]) (args := [.addr d0, .agg [.int .i64 n1, .slice o2 l2 c2]]) Try.func15 mixed (Eq.mp (by kernel_rfl : disk_Disk_Restart.Vc d0 n1 o2 l2 c2 w R = execF (pA Try.prog R) Try.prog [(3, [(30, .cell (.int .i64))]), (8, [])] Try.f15 [.addr d0, .agg [.int .i64 n1, .slice o2 l2 c2]] w) h)

/-! (*moraine/disk.Disk).Read: 16 -/
abbrev disk_Disk_Read.n : Nat := 16
def disk_Disk_Read.Vc (d0 : Addr) (s1 : ByteArray) (w : World) (R : Ending → World → Prop) : Prop :=
  Calls Try.prog 33 #[(.pointer (some d0)), (.string s1)] w (fun e2 w3 =>
    ∃ o4 : Option Addr, ∃ n5 : Int, e2 = .returned (.tuple #[(.pointer o4), (.int .i64 n5)]) ∧
    (((n5 ≠ 0 →
      R (.returned (.tuple #[(.slice none 0 0), (.int .i64 n5)])) w3)) ∧
     ((n5 = 0 →
      ∃ d6 : Addr, o4 = some d6 ∧
      ∃ o7 : Option Addr, ∃ l8 : Nat, ∃ l9 : Nat, World.cell? w3 (Addr.add d6 1) = some (.slice o7 l8 l9) ∧
      Calls Try.prog 34 #[(.slice o7 l8 l9)] w3 (fun e10 w11 =>
        ∃ o12 : Option Addr, ∃ l13 : Nat, ∃ l14 : Nat, e10 = .returned (.slice o12 l13 l14) ∧
        R (.returned (.tuple #[(.slice o12 l13 l14), (.int .i64 0)])) w11)))))
theorem disk_Disk_Read.vc (d0 : Addr) (s1 : ByteArray) (w : World) (R : Ending → World → Prop) (h : disk_Disk_Read.Vc d0 s1 w R) : Calls Try.prog 16 #[(.pointer (some d0)), (.string s1)] w R :=
  execF_sound (ann := []) (args := [.addr d0, .str s1]) Try.func16 mixed (Eq.mp (by kernel_rfl : disk_Disk_Read.Vc d0 s1 w R = execF (pA Try.prog R) Try.prog [] Try.f16 [.addr d0, .str s1] w) h)

/-! moraine/morainehelp.Bytes: 17 -/
abbrev morainehelp_Bytes.n : Nat := 17
def morainehelp_Bytes.Vc (o0 : Option Addr) (l0 : Nat) (c0 : Nat) (o1 : Option Addr) (l1 : Nat) (c1 : Nat) (w : World) (R : Ending → World → Prop) : Prop :=
  ∃ v2 : Value, Sem.run Try.prog (convert 30 9 (.slice o0 l0 c0)) w = .ok v2 w ∧
  ∃ s3 : ByteArray, v2 = (.string s3) ∧
  ∃ v4 : Value, Sem.run Try.prog (convert 30 9 (.slice o1 l1 c1)) w = .ok v4 w ∧
  ∃ s5 : ByteArray, v4 = (.string s5) ∧
  R (.returned (.bool (strB .eql s3 s5))) w
theorem morainehelp_Bytes.vc (o0 : Option Addr) (l0 : Nat) (c0 : Nat) (o1 : Option Addr) (l1 : Nat) (c1 : Nat) (w : World) (R : Ending → World → Prop) (h : morainehelp_Bytes.Vc o0 l0 c0 o1 l1 c1 w R) : Calls Try.prog 17 #[(.slice o0 l0 c0), (.slice o1 l1 c1)] w R :=
  execF_sound (ann := []) (args := [.slice o0 l0 c0, .slice o1 l1 c1]) Try.func17 mixed (Eq.mp (by kernel_rfl : morainehelp_Bytes.Vc o0 l0 c0 o1 l1 c1 w R = execF (pA Try.prog R) Try.prog [] Try.f17 [.slice o0 l0 c0, .slice o1 l1 c1] w) h)

/-! (*moraine/disk.Disk).Rename: 18 -/
abbrev disk_Disk_Rename.n : Nat := 18
def disk_Disk_Rename.Vc (d0 : Addr) (s1 : ByteArray) (s2 : ByteArray) (w : World) (R : Ending → World → Prop) : Prop :=
  ∀ (d3 : Addr) (w4 : World), IsNew w 9 #[(.string s2)] d3 w4 →
  Calls Try.prog 26 #[(.pointer (some d0)), (.string s1), (.slice (some d3) 1 1)] w4 (fun e5 w6 =>
    ∃ o7 : Option Addr, ∃ n8 : Int, e5 = .returned (.tuple #[(.pointer o7), (.int .i64 n8)]) ∧
    (((n8 ≠ 0 →
      R (.returned (.int .i64 n8)) w6)) ∧
     ((n8 = 0 →
      (((strB .neq s1 s2 = true →
        Calls Try.prog 27 #[(.pointer (some d0)), (.iface 79 (.agg #[(.string s1), (.string s2)]))] w6 (fun e9 w10 =>
          e9 = .returned (.tuple #[]) ∧
          R (.returned (.int .i64 0)) w10))) ∧
       ((strB .neq s1 s2 = false →
        R (.returned (.int .i64 0)) w6)))))))
theorem disk_Disk_Rename.vc (d0 : Addr) (s1 : ByteArray) (s2 : ByteArray) (w : World) (R : Ending → World → Prop) (h : disk_Disk_Rename.Vc d0 s1 s2 w R) : Calls Try.prog 18 #[(.pointer (some d0)), (.string s1), (.string s2)] w R :=
  execF_sound (ann := []) (args := [.addr d0, .str s1, .str s2]) Try.func18 mixed (Eq.mp (by kernel_rfl : disk_Disk_Rename.Vc d0 s1 s2 w R = execF (pA Try.prog R) Try.prog [] Try.f18 [.addr d0, .str s1, .str s2] w) h)

/-! (*moraine/disk.Disk).Names: 19 -/
abbrev disk_Disk_Names.n : Nat := 19
def disk_Disk_Names.Vc (d0 : Addr) (w : World) (R : Ending → World → Prop) : Prop :=
  ∃ b1 : Bool, World.cell? w (Addr.add d0 8) = some (.bool b1) ∧
  (((b1 = true →
    R (.returned (.tuple #[(.slice none 0 0), (.int .i64 17)])) w)) ∧
   ((b1 = false →
    ∃ m2 : Option Nat, World.cell? w (Addr.add d0 1) = some (.map m2) ∧
    Calls Try.prog 36 #[(.map m2)] w (fun e3 w4 =>
      ∃ v5 : Value, e3 = .returned v5 ∧
      Calls Try.prog 35 #[v5] w4 (fun e6 w7 =>
        ∃ o8 : Option Addr, ∃ l9 : Nat, ∃ l10 : Nat, e6 = .returned (.slice o8 l9 l10) ∧
        R (.returned (.tuple #[(.slice o8 l9 l10), (.int .i64 0)])) w7)))))
theorem disk_Disk_Names.vc (d0 : Addr) (w : World) (R : Ending → World → Prop) (h : disk_Disk_Names.Vc d0 w R) : Calls Try.prog 19 #[(.pointer (some d0))] w R :=
  execF_sound (ann := []) (args := [.addr d0]) Try.func19 mixed (Eq.mp (by kernel_rfl : disk_Disk_Names.Vc d0 w R = execF (pA Try.prog R) Try.prog [] Try.f19 [.addr d0] w) h)

/-! (*moraine/disk.Disk).Fail: 23 -/
abbrev disk_Disk_Fail.n : Nat := 23
def disk_Disk_Fail.Vc (d0 : Addr) (n1 : Int) (w : World) (R : Ending → World → Prop) : Prop :=
  CanSet w (Addr.add d0 6) (.int .i64 (max n1 0)) ∧ ∀ w2 : World, IsSet w (Addr.add d0 6) (.int .i64 (max n1 0)) w2 →
  R (.returned (.tuple #[])) w2
theorem disk_Disk_Fail.vc (d0 : Addr) (n1 : Int) (w : World) (R : Ending → World → Prop) (h : disk_Disk_Fail.Vc d0 n1 w R) : Calls Try.prog 23 #[(.pointer (some d0)), (.int .i64 n1)] w R :=
  execF_sound (ann := []) (args := [.addr d0, .int .i64 n1]) Try.func23 mixed (Eq.mp (by kernel_rfl : disk_Disk_Fail.Vc d0 n1 w R = execF (pA Try.prog R) Try.prog [] Try.f23 [.addr d0, .int .i64 n1] w) h)

/-! (*moraine/disk.Disk).Halt: 24 -/
abbrev disk_Disk_Halt.n : Nat := 24
def disk_Disk_Halt.Vc (d0 : Addr) (n1 : Int) (w : World) (R : Ending → World → Prop) : Prop :=
  CanSet w (Addr.add d0 7) (.int .i64 (max n1 (-1))) ∧ ∀ w2 : World, IsSet w (Addr.add d0 7) (.int .i64 (max n1 (-1))) w2 →
  R (.returned (.tuple #[])) w2
theorem disk_Disk_Halt.vc (d0 : Addr) (n1 : Int) (w : World) (R : Ending → World → Prop) (h : disk_Disk_Halt.Vc d0 n1 w R) : Calls Try.prog 24 #[(.pointer (some d0)), (.int .i64 n1)] w R :=
  execF_sound (ann := []) (args := [.addr d0, .int .i64 n1]) Try.func24 mixed (Eq.mp (by kernel_rfl : disk_Disk_Halt.Vc d0 n1 w R = execF (pA Try.prog R) Try.prog [] Try.f24 [.addr d0, .int .i64 n1] w) h)

/-! moraine/morainehelp.Texts: 25 -/
abbrev morainehelp_Texts.n : Nat := 25
def morainehelp_Texts.Vc (o0 : Option Addr) (l0 : Nat) (c0 : Nat) (o1 : Option Addr) (l1 : Nat) (c1 : Nat) (w : World) (R : Ending → World → Prop) : Prop :=
  (((((l0 : Nat) : Int) ≠ ((l1 : Nat) : Int) →
    R (.returned (.bool false)) w)) ∧
   ((((l0 : Nat) : Int) = ((l1 : Nat) : Int) →
    ∃ (I2 : Int → World → Prop) (μ2 : Int → World → Nat), I2 0 w ∧
    (∀ (n3 : Int) (j4 : Nat → Value) (w4 : World), I2 n3 w4 →
      (((n3 < ((l0 : Nat) : Int) →
        ∀ w5 : World, IsDrew w4 w5 →
        ∃ d6 : Addr, o0 = some d6 ∧
        ((0 : Int) ≤ n3 ∧ n3 < ((l0 : Nat) : Int)) ∧
        ∃ s7 : ByteArray, World.cell? w5 (Addr.add d6 (Int.toNat n3)) = some (.string s7) ∧
        ∃ d8 : Addr, o1 = some d8 ∧
        ((0 : Int) ≤ n3 ∧ n3 < ((l1 : Nat) : Int)) ∧
        ∃ s9 : ByteArray, World.cell? w5 (Addr.add d8 (Int.toNat n3)) = some (.string s9) ∧
        (((strB .neq s7 s9 = true →
          R (.returned (.bool false)) w5)) ∧
         ((strB .neq s7 s9 = false →
          I2 (IntKind.wrap .i64 (n3 + 1)) w5 ∧ μ2 (IntKind.wrap .i64 (n3 + 1)) w5 < μ2 n3 w4))))) ∧
       ((¬ n3 < ((l0 : Nat) : Int) →
        R (.returned (.bool true)) w4)))))))
theorem morainehelp_Texts.vc (o0 : Option Addr) (l0 : Nat) (c0 : Nat) (o1 : Option Addr) (l1 : Nat) (c1 : Nat) (w : World) (R : Ending → World → Prop) (h : morainehelp_Texts.Vc o0 l0 c0 o1 l1 c1 w R) : Calls Try.prog 25 #[(.slice o0 l0 c0), (.slice o1 l1 c1)] w R :=
  execF_sound (ann := [(4, [(5, .cell (.int .i64))])]) (args := [.slice o0 l0 c0, .slice o1 l1 c1]) Try.func25 mixed (Eq.mp (by kernel_rfl : morainehelp_Texts.Vc o0 l0 c0 o1 l1 c1 w R = execF (pA Try.prog R) Try.prog [(4, [(5, .cell (.int .i64))])] Try.f25 [.slice o0 l0 c0, .slice o1 l1 c1] w) h)

/-! (*moraine/disk.Disk).changing: 26 -/
abbrev disk_Disk_changing.n : Nat := 26
def disk_Disk_changing.Vc (d0 : Addr) (s1 : ByteArray) (o2 : Option Addr) (l2 : Nat) (c2 : Nat) (w : World) (R : Ending → World → Prop) : Prop :=
  Calls Try.prog 30 #[(.pointer (some d0))] w (fun e3 w4 =>
    ∃ n5 : Int, e3 = .returned (.int .i64 n5) ∧
    (((n5 ≠ 0 →
      R (.returned (.tuple #[(.pointer none), (.int .i64 n5)])) w4)) ∧
     ((n5 = 0 →
      Calls Try.prog 54 #[(.pointer (some d0)), (.string s1), (.slice o2 l2 c2)] w4 (fun e6 w7 =>
        ∃ o8 : Option Addr, ∃ n9 : Int, e6 = .returned (.tuple #[(.pointer o8), (.int .i64 n9)]) ∧
        R (.returned (.tuple #[(.pointer o8), (.int .i64 n9)])) w7)))))
theorem disk_Disk_changing.vc (d0 : Addr) (s1 : ByteArray) (o2 : Option Addr) (l2 : Nat) (c2 : Nat) (w : World) (R : Ending → World → Prop) (h : disk_Disk_changing.Vc d0 s1 o2 l2 c2 w R) : Calls Try.prog 26 #[(.pointer (some d0)), (.string s1), (.slice o2 l2 c2)] w R :=
  execF_sound (ann := []) (args := [.addr d0, .str s1, .slice o2 l2 c2]) Try.func26 mixed (Eq.mp (by kernel_rfl : disk_Disk_changing.Vc d0 s1 o2 l2 c2 w R = execF (pA Try.prog R) Try.prog [] Try.f26 [.addr d0, .str s1, .slice o2 l2 c2] w) h)

/-! (*moraine/disk.Disk).does: 27 -/
abbrev disk_Disk_does.n : Nat := 27
def disk_Disk_does.Vc (d0 : Addr) (v1 : Value) (w : World) (R : Ending → World → Prop) : Prop :=
  ∀ w2 : World, IsDrew w w2 →
  ∃ m3 : Option Nat, World.cell? w2 (Addr.add d0 1) = some (.map m3) ∧
  OkM Try.prog v1 "moraine/disk.on" ∧
  CallsM Try.prog v1 "moraine/disk.on" #[(.map m3)] w2 (fun e4 w5 =>
    e4 = .returned (.tuple #[]) ∧
    ∃ o6 : Option Addr, ∃ l7 : Nat, ∃ l8 : Nat, World.cell? w5 (Addr.add d0 3) = some (.slice o6 l7 l8) ∧
    Value.oneCell' v1 = true ∧
    ∀ (d9 : Addr) (w10 : World), IsNew w5 74 #[v1] d9 w10 →
    ∃ (v11 : Value) (w12 : World), Sem.run Try.prog (builtinV .append #[59, 59] 59 #[(.slice o6 l7 l8), (.slice (some d9) 1 1)]) w10 = .ok v11 w12 ∧
    ∃ o13 : Option Addr, ∃ l14 : Nat, ∃ l15 : Nat, v11 = (.slice o13 l14 l15) ∧
    CanSet w12 (Addr.add d0 3) (.slice o13 l14 l15) ∧ ∀ w16 : World, IsSet w12 (Addr.add d0 3) (.slice o13 l14 l15) w16 →
    R (.returned (.tuple #[])) w16)
theorem disk_Disk_does.vc (d0 : Addr) (v1 : Value) (w : World) (R : Ending → World → Prop) (h : disk_Disk_does.Vc d0 v1 w R) : Calls Try.prog 27 #[(.pointer (some d0)), v1] w R :=
  execF_sound (ann := []) (args := [.addr d0, .raw v1]) Try.func27 mixed (Eq.mp (by kernel_rfl : disk_Disk_does.Vc d0 v1 w R = execF (pA Try.prog R) Try.prog [] Try.f27 [.addr d0, .raw v1] w) h)

/-! (*moraine/disk.Disk).write: 28 -/
abbrev disk_Disk_write.n : Nat := 28
def disk_Disk_write.Vc (d0 : Addr) (d1 : Addr) (n2 : Int) (o3 : Option Addr) (l3 : Nat) (c3 : Nat) (w : World) (R : Ending → World → Prop) : Prop :=
  ∃ o4 : Option Addr, ∃ l5 : Nat, ∃ l6 : Nat, World.cell? w (Addr.add d1 1) = some (.slice o4 l5 l6) ∧
  ∀ w7 : World, IsDrew w w7 →
  ((((IntKind.wrap .i64 ((IntKind.wrap .i64 (n2 + ((l3 : Nat) : Int))) - ((l5 : Nat) : Int))) > 0 →
    ∃ n8 : Int, World.cell? w7 d0 = some (.int .i64 n8) ∧
    Calls Try.prog 12 #[(.pointer (some d0))] w7 (fun e9 w10 =>
      ∃ n11 : Int, e9 = .returned (.int .i64 n11) ∧
      World.cell? w10 d0 = some (.int .i64 n8) ∧
      ((((IntKind.wrap .i64 ((IntKind.wrap .i64 (n2 + ((l3 : Nat) : Int))) - ((l5 : Nat) : Int))) > (IntKind.wrap .i64 (n8 - n11)) →
        R (.returned (.int .i64 15)) w10)) ∧
       ((¬ (IntKind.wrap .i64 ((IntKind.wrap .i64 (n2 + ((l3 : Nat) : Int))) - ((l5 : Nat) : Int))) > (IntKind.wrap .i64 (n8 - n11)) →
        (((((l3 : Nat) : Int) = 0 →
          R (.returned (.int .i64 0)) w10)) ∧
         ((((l3 : Nat) : Int) ≠ 0 →
          Calls Try.prog 34 #[(.slice o3 l3 c3)] w10 (fun e12 w13 =>
            ∃ o14 : Option Addr, ∃ l15 : Nat, ∃ l16 : Nat, e12 = .returned (.slice o14 l15 l16) ∧
            ∀ (d17 : Addr) (w18 : World), IsNew w13 100 #[(.int .i64 0), (.slice none 0 0)] d17 w18 →
            CanSet w18 d17 (.int .i64 n2) ∧ ∀ w19 : World, IsSet w18 d17 (.int .i64 n2) w19 →
            CanSet w19 (Addr.add d17 1) (.slice o14 l15 l16) ∧ ∀ w20 : World, IsSet w19 (Addr.add d17 1) (.slice o14 l15 l16) w20 →
            ∃ o21 : Option Addr, ∃ l22 : Nat, ∃ l23 : Nat, World.cell? w20 (Addr.add d1 1) = some (.slice o21 l22 l23) ∧
            Calls Try.prog 55 #[(.slice o21 l22 l23), (.int .i64 n2), (.slice o3 l3 c3)] w20 (fun e24 w25 =>
              ∃ o26 : Option Addr, ∃ l27 : Nat, ∃ l28 : Nat, e24 = .returned (.slice o26 l27 l28) ∧
              CanSet w25 (Addr.add d1 1) (.slice o26 l27 l28) ∧ ∀ w29 : World, IsSet w25 (Addr.add d1 1) (.slice o26 l27 l28) w29 →
              ∀ w30 : World, IsDrew w29 w30 →
              ∃ o31 : Option Addr, ∃ l32 : Nat, ∃ l33 : Nat, World.cell? w30 (Addr.add d1 3) = some (.slice o31 l32 l33) ∧
              ∃ n34 : Int, ∃ o35 : Option Addr, ∃ l36 : Nat, ∃ l37 : Nat, World.cell? w30 d17 = some (.int .i64 n34) ∧
              World.cell? w30 (Addr.add d17 1) = some (.slice o35 l36 l37) ∧
              ∀ (d38 : Addr) (w39 : World), IsNew w30 104 #[(.iface 100 (.agg #[(.int .i64 n34), (.slice o35 l36 l37)]))] d38 w39 →
              World.cell? w39 (Addr.add d1 3) = some (.slice o31 l32 l33) ∧
              ∃ (v40 : Value) (w41 : World), Sem.run Try.prog (builtinV .append #[66, 66] 66 #[(.slice o31 l32 l33), (.slice (some d38) 1 1)]) w39 = .ok v40 w41 ∧
              ∃ o42 : Option Addr, ∃ l43 : Nat, ∃ l44 : Nat, v40 = (.slice o42 l43 l44) ∧
              CanSet w41 (Addr.add d1 3) (.slice o42 l43 l44) ∧ ∀ w45 : World, IsSet w41 (Addr.add d1 3) (.slice o42 l43 l44) w45 →
              R (.returned (.int .i64 0)) w45))))))))))) ∧
   ((¬ (IntKind.wrap .i64 ((IntKind.wrap .i64 (n2 + ((l3 : Nat) : Int))) - ((l5 : Nat) : Int))) > 0 →
    (((((l3 : Nat) : Int) = 0 →
      R (.returned (.int .i64 0)) w7)) ∧
     ((((l3 : Nat) : Int) ≠ 0 →
      Calls Try.prog 34 #[(.slice o3 l3 c3)] w7 (fun e46 w47 =>
        ∃ o48 : Option Addr, ∃ l49 : Nat, ∃ l50 : Nat, e46 = .returned (.slice o48 l49 l50) ∧
        ∀ (d51 : Addr) (w52 : World), IsNew w47 100 #[(.int .i64 0), (.slice none 0 0)] d51 w52 →
        CanSet w52 d51 (.int .i64 n2) ∧ ∀ w53 : World, IsSet w52 d51 (.int .i64 n2) w53 →
        CanSet w53 (Addr.add d51 1) (.slice o48 l49 l50) ∧ ∀ w54 : World, IsSet w53 (Addr.add d51 1) (.slice o48 l49 l50) w54 →
        ∃ o55 : Option Addr, ∃ l56 : Nat, ∃ l57 : Nat, World.cell? w54 (Addr.add d1 1) = some (.slice o55 l56 l57) ∧
        Calls Try.prog 55 #[(.slice o55 l56 l57), (.int .i64 n2), (.slice o3 l3 c3)] w54 (fun e58 w59 =>
          ∃ o60 : Option Addr, ∃ l61 : Nat, ∃ l62 : Nat, e58 = .returned (.slice o60 l61 l62) ∧
          CanSet w59 (Addr.add d1 1) (.slice o60 l61 l62) ∧ ∀ w63 : World, IsSet w59 (Addr.add d1 1) (.slice o60 l61 l62) w63 →
          ∀ w64 : World, IsDrew w63 w64 →
          ∃ o65 : Option Addr, ∃ l66 : Nat, ∃ l67 : Nat, World.cell? w64 (Addr.add d1 3) = some (.slice o65 l66 l67) ∧
          ∃ n68 : Int, ∃ o69 : Option Addr, ∃ l70 : Nat, ∃ l71 : Nat, World.cell? w64 d51 = some (.int .i64 n68) ∧
          World.cell? w64 (Addr.add d51 1) = some (.slice o69 l70 l71) ∧
          ∀ (d72 : Addr) (w73 : World), IsNew w64 104 #[(.iface 100 (.agg #[(.int .i64 n68), (.slice o69 l70 l71)]))] d72 w73 →
          World.cell? w73 (Addr.add d1 3) = some (.slice o65 l66 l67) ∧
          ∃ (v74 : Value) (w75 : World), Sem.run Try.prog (builtinV .append #[66, 66] 66 #[(.slice o65 l66 l67), (.slice (some d72) 1 1)]) w73 = .ok v74 w75 ∧
          ∃ o76 : Option Addr, ∃ l77 : Nat, ∃ l78 : Nat, v74 = (.slice o76 l77 l78) ∧
          CanSet w75 (Addr.add d1 3) (.slice o76 l77 l78) ∧ ∀ w79 : World, IsSet w75 (Addr.add d1 3) (.slice o76 l77 l78) w79 →
          R (.returned (.int .i64 0)) w79))))))))
theorem disk_Disk_write.vc (d0 : Addr) (d1 : Addr) (n2 : Int) (o3 : Option Addr) (l3 : Nat) (c3 : Nat) (w : World) (R : Ending → World → Prop) (h : disk_Disk_write.Vc d0 d1 n2 o3 l3 c3 w R) : Calls Try.prog 28 #[(.pointer (some d0)), (.pointer (some d1)), (.int .i64 n2), (.slice o3 l3 c3)] w R :=
  execF_sound (ann := []) (args := [.addr d0, .addr d1, .int .i64 n2, .slice o3 l3 c3]) Try.func28 mixed (Eq.mp (by kernel_rfl : disk_Disk_write.Vc d0 d1 n2 o3 l3 c3 w R = execF (pA Try.prog R) Try.prog [] Try.f28 [.addr d0, .addr d1, .int .i64 n2, .slice o3 l3 c3] w) h)

/-! (*moraine/disk.file).settle: 29 -/
abbrev disk_file_settle.n : Nat := 29
def disk_file_settle.Vc (d0 : Addr) (w : World) (R : Ending → World → Prop) : Prop :=
  ∃ o1 : Option Addr, ∃ l2 : Nat, ∃ l3 : Nat, World.cell? w (Addr.add d0 3) = some (.slice o1 l2 l3) ∧
  (((((l2 : Nat) : Int) > 0 →
    ∃ o4 : Option Addr, ∃ l5 : Nat, ∃ l6 : Nat, World.cell? w (Addr.add d0 1) = some (.slice o4 l5 l6) ∧
    Calls Try.prog 34 #[(.slice o4 l5 l6)] w (fun e7 w8 =>
      ∃ o9 : Option Addr, ∃ l10 : Nat, ∃ l11 : Nat, e7 = .returned (.slice o9 l10 l11) ∧
      CanSet w8 (Addr.add d0 2) (.slice o9 l10 l11) ∧ ∀ w12 : World, IsSet w8 (Addr.add d0 2) (.slice o9 l10 l11) w12 →
      CanSet w12 (Addr.add d0 3) (.slice none 0 0) ∧ ∀ w13 : World, IsSet w12 (Addr.add d0 3) (.slice none 0 0) w13 →
      R (.returned (.tuple #[])) w13))) ∧
   ((¬ ((l2 : Nat) : Int) > 0 →
    R (.returned (.tuple #[])) w)))
theorem disk_file_settle.vc (d0 : Addr) (w : World) (R : Ending → World → Prop) (h : disk_file_settle.Vc d0 w R) : Calls Try.prog 29 #[(.pointer (some d0))] w R :=
  execF_sound (ann := []) (args := [.addr d0]) Try.func29 mixed (Eq.mp (by kernel_rfl : disk_file_settle.Vc d0 w R = execF (pA Try.prog R) Try.prog [] Try.f29 [.addr d0] w) h)

/-! (*moraine/disk.Disk).begins: 30 -/
abbrev disk_Disk_begins.n : Nat := 30
def disk_Disk_begins.Vc (d0 : Addr) (w : World) (R : Ending → World → Prop) : Prop :=
  ∃ n1 : Int, World.cell? w (Addr.add d0 5) = some (.int .i64 n1) ∧
  CanSet w (Addr.add d0 5) (.int .i64 (IntKind.wrap .i64 (n1 + 1))) ∧ ∀ w2 : World, IsSet w (Addr.add d0 5) (.int .i64 (IntKind.wrap .i64 (n1 + 1))) w2 →
  ∃ n3 : Int, World.cell? w2 (Addr.add d0 6) = some (.int .i64 n3) ∧
  ∃ n4 : Int, World.cell? w2 (Addr.add d0 6) = some (.int .i64 n4) ∧
  CanSet w2 (Addr.add d0 6) (.int .i64 (max (IntKind.wrap .i64 (n4 - 1)) 0)) ∧ ∀ w5 : World, IsSet w2 (Addr.add d0 6) (.int .i64 (max (IntKind.wrap .i64 (n4 - 1)) 0)) w5 →
  ∃ n6 : Int, World.cell? w5 (Addr.add d0 7) = some (.int .i64 n6) ∧
  (((n6 = 0 →
    CanSet w5 (Addr.add d0 8) (.bool true) ∧ ∀ w7 : World, IsSet w5 (Addr.add d0 8) (.bool true) w7 →
    R (.returned (.int .i64 17)) w7)) ∧
   ((n6 ≠ 0 →
    ∃ b8 : Bool, World.cell? w5 (Addr.add d0 8) = some (.bool b8) ∧
    (((b8 = true →
      R (.returned (.int .i64 17)) w5)) ∧
     ((b8 = false →
      (((n3 = 1 →
        ∃ n9 : Int, World.cell? w5 (Addr.add d0 7) = some (.int .i64 n9) ∧
        CanSet w5 (Addr.add d0 7) (.int .i64 (max (IntKind.wrap .i64 (n9 - 1)) (-1))) ∧ ∀ w10 : World, IsSet w5 (Addr.add d0 7) (.int .i64 (max (IntKind.wrap .i64 (n9 - 1)) (-1))) w10 →
        R (.returned (.int .i64 16)) w10)) ∧
       ((n3 ≠ 1 →
        ∃ n11 : Int, World.cell? w5 (Addr.add d0 7) = some (.int .i64 n11) ∧
        CanSet w5 (Addr.add d0 7) (.int .i64 (max (IntKind.wrap .i64 (n11 - 1)) (-1))) ∧ ∀ w12 : World, IsSet w5 (Addr.add d0 7) (.int .i64 (max (IntKind.wrap .i64 (n11 - 1)) (-1))) w12 →
        R (.returned (.int .i64 0)) w12)))))))))
theorem disk_Disk_begins.vc (d0 : Addr) (w : World) (R : Ending → World → Prop) (h : disk_Disk_begins.Vc d0 w R) : Calls Try.prog 30 #[(.pointer (some d0))] w R :=
  execF_sound (ann := []) (args := [.addr d0]) Try.func30 mixed (Eq.mp (by kernel_rfl : disk_Disk_begins.Vc d0 w R = execF (pA Try.prog R) Try.prog [] Try.f30 [.addr d0] w) h)

/-! maps.Clone[moraine/disk.naming,string,*moraine/disk.file]: 31 -/
abbrev maps_Clone_disk_naming_string_disk_file.n : Nat := 31
def maps_Clone_disk_naming_string_disk_file.Vc (m0 : Option Nat) (w : World) (R : Ending → World → Prop) : Prop :=
  (((m0 = none →
    R (.returned (.map none)) w)) ∧
   ((m0 ≠ none →
    ∃ (v1 : Value) (w2 : World), Sem.run Try.prog (callFunc 56 #[(.iface 58 (.map m0))]) w = .ok (.value v1) w2 ∧
    ∃ v3 : Value, v1 = v3 ∧
    ∃ v4 : Value, Sem.run Try.prog (Instr.typeAssert v3 20 58 false) w2 = .ok v4 w2 ∧
    ∃ m5 : Option Nat, v4 = (.map m5) ∧
    R (.returned (.map m5)) w2)))
theorem maps_Clone_disk_naming_string_disk_file.vc (m0 : Option Nat) (w : World) (R : Ending → World → Prop) (h : maps_Clone_disk_naming_string_disk_file.Vc m0 w R) : Calls Try.prog 31 #[(.map m0)] w R :=
  execF_sound (ann := []) (args := [.map m0]) Try.func31 mixed (Eq.mp (by kernel_rfl : maps_Clone_disk_naming_string_disk_file.Vc m0 w R = execF (pA Try.prog R) Try.prog [] Try.f31 [.map m0] w) h)

/-! (*moraine/disk.file).survives: 32 -/
abbrev disk_file_survives.n : Nat := 32
def disk_file_survives.Vc (d0 : Addr) (n1 : Int) (w : World) (R : Ending → World → Prop) : Prop :=
  ∃ o2 : Option Addr, ∃ l3 : Nat, ∃ l4 : Nat, World.cell? w (Addr.add d0 2) = some (.slice o2 l3 l4) ∧
  Calls Try.prog 34 #[(.slice o2 l3 l4)] w (fun e5 w6 =>
    ∃ o7 : Option Addr, ∃ l8 : Nat, ∃ l9 : Nat, e5 = .returned (.slice o7 l8 l9) ∧
    ∃ o10 : Option Addr, ∃ l11 : Nat, ∃ l12 : Nat, World.cell? w6 (Addr.add d0 3) = some (.slice o10 l11 l12) ∧
    ∃ (I13 : Int → Option Addr → Nat → Nat → Int → World → Prop) (μ13 : Int → Option Addr → Nat → Nat → Int → World → Nat), I13 n1 o7 l8 l9 0 w6 ∧
    (∀ (n14 : Int) (o15 : Option Addr) (l15 : Nat) (c15 : Nat) (n16 : Int) (j17 : Nat → Value) (w17 : World), I13 n14 o15 l15 c15 n16 w17 →
      (((n16 < ((l11 : Nat) : Int) →
        ∃ d18 : Addr, o10 = some d18 ∧
        ((0 : Int) ≤ n16 ∧ n16 < ((l11 : Nat) : Int)) ∧
        ∃ v19 : Value, World.cell? w17 (Addr.add d18 (Int.toNat n16)) = some v19 ∧
        CallsM Try.prog v19 "moraine/disk.on" #[(.slice o15 l15 c15), (.int .i64 n14)] w17 (fun e20 w21 =>
          ∃ o22 : Option Addr, ∃ l23 : Nat, ∃ l24 : Nat, ∃ n25 : Int, e20 = .returned (.tuple #[(.slice o22 l23 l24), (.int .i64 n25)]) ∧
          (((n25 < 0 →
            CanSet w21 (Addr.add d0 1) (.slice o22 l23 l24) ∧ ∀ w26 : World, IsSet w21 (Addr.add d0 1) (.slice o22 l23 l24) w26 →
            CanSet w26 (Addr.add d0 3) (.slice none 0 0) ∧ ∀ w27 : World, IsSet w26 (Addr.add d0 3) (.slice none 0 0) w27 →
            Calls Try.prog 34 #[(.slice o22 l23 l24)] w27 (fun e28 w29 =>
              ∃ o30 : Option Addr, ∃ l31 : Nat, ∃ l32 : Nat, e28 = .returned (.slice o30 l31 l32) ∧
              CanSet w29 (Addr.add d0 2) (.slice o30 l31 l32) ∧ ∀ w33 : World, IsSet w29 (Addr.add d0 2) (.slice o30 l31 l32) w33 →
              R (.returned (.tuple #[])) w33))) ∧
           ((¬ n25 < 0 →
            I13 n25 o22 l23 l24 (IntKind.wrap .i64 (n16 + 1)) w21 ∧ μ13 n25 o22 l23 l24 (IntKind.wrap .i64 (n16 + 1)) w21 < μ13 n14 o15 l15 c15 n16 w17)))))) ∧
       ((¬ n16 < ((l11 : Nat) : Int) →
        CanSet w17 (Addr.add d0 1) (.slice o15 l15 c15) ∧ ∀ w34 : World, IsSet w17 (Addr.add d0 1) (.slice o15 l15 c15) w34 →
        CanSet w34 (Addr.add d0 3) (.slice none 0 0) ∧ ∀ w35 : World, IsSet w34 (Addr.add d0 3) (.slice none 0 0) w35 →
        Calls Try.prog 34 #[(.slice o15 l15 c15)] w35 (fun e36 w37 =>
          ∃ o38 : Option Addr, ∃ l39 : Nat, ∃ l40 : Nat, e36 = .returned (.slice o38 l39 l40) ∧
          CanSet w37 (Addr.add d0 2) (.slice o38 l39 l40) ∧ ∀ w41 : World, IsSet w37 (Addr.add d0 2) (.slice o38 l39 l40) w41 →
          R (.returned (.tuple #[])) w41))))))
theorem disk_file_survives.vc (d0 : Addr) (n1 : Int) (w : World) (R : Ending → World → Prop) (h : disk_file_survives.Vc d0 n1 w R) : Calls Try.prog 32 #[(.pointer (some d0)), (.int .i64 n1)] w R :=
  execF_sound (ann := [(2, [(1, .cell (.int .i64)), (4, .cell (.slice)), (17, .cell (.int .i64))])]) (args := [.addr d0, .int .i64 n1]) Try.func32 mixed (Eq.mp (by kernel_rfl : disk_file_survives.Vc d0 n1 w R = execF (pA Try.prog R) Try.prog [(2, [(1, .cell (.int .i64)), (4, .cell (.slice)), (17, .cell (.int .i64))])] Try.f32 [.addr d0, .int .i64 n1] w) h)

/-! (*moraine/disk.Disk).asked: 33 -/
abbrev disk_Disk_asked.n : Nat := 33
def disk_Disk_asked.Vc (d0 : Addr) (s1 : ByteArray) (w : World) (R : Ending → World → Prop) : Prop :=
  ∃ b2 : Bool, World.cell? w (Addr.add d0 8) = some (.bool b2) ∧
  (((b2 = true →
    R (.returned (.tuple #[(.pointer none), (.int .i64 17)])) w)) ∧
   ((b2 = false →
    Calls Try.prog 54 #[(.pointer (some d0)), (.string s1), (.slice none 0 0)] w (fun e3 w4 =>
      ∃ o5 : Option Addr, ∃ n6 : Int, e3 = .returned (.tuple #[(.pointer o5), (.int .i64 n6)]) ∧
      R (.returned (.tuple #[(.pointer o5), (.int .i64 n6)])) w4))))
theorem disk_Disk_asked.vc (d0 : Addr) (s1 : ByteArray) (w : World) (R : Ending → World → Prop) (h : disk_Disk_asked.Vc d0 s1 w R) : Calls Try.prog 33 #[(.pointer (some d0)), (.string s1)] w R :=
  execF_sound (ann := []) (args := [.addr d0, .str s1]) Try.func33 mixed (Eq.mp (by kernel_rfl : disk_Disk_asked.Vc d0 s1 w R = execF (pA Try.prog R) Try.prog [] Try.f33 [.addr d0, .str s1] w) h)

/-! slices.Clone[[]byte,byte]: 34 -/
abbrev slices_Clone_byte_byte.n : Nat := 34
def slices_Clone_byte_byte.Vc (o0 : Option Addr) (l0 : Nat) (c0 : Nat) (w : World) (R : Ending → World → Prop) : Prop :=
  (((o0 = none →
    R (.returned (.slice none 0 0)) w)) ∧
   ((o0 ≠ none →
    ∀ (d1 : Addr) (w2 : World), IsNew w 5 #[] d1 w2 →
    ∃ (v3 : Value) (w4 : World), Sem.run Try.prog (builtinV .append #[30, 30] 30 #[(.slice (some d1) 0 0), (.slice o0 l0 c0)]) w2 = .ok v3 w4 ∧
    ∃ o5 : Option Addr, ∃ l6 : Nat, ∃ l7 : Nat, v3 = (.slice o5 l6 l7) ∧
    R (.returned (.slice o5 l6 l7)) w4)))
theorem slices_Clone_byte_byte.vc (o0 : Option Addr) (l0 : Nat) (c0 : Nat) (w : World) (R : Ending → World → Prop) (h : slices_Clone_byte_byte.Vc o0 l0 c0 w R) : Calls Try.prog 34 #[(.slice o0 l0 c0)] w R :=
  execF_sound (ann := []) (args := [.slice o0 l0 c0]) Try.func34 mixed (Eq.mp (by kernel_rfl : slices_Clone_byte_byte.Vc o0 l0 c0 w R = execF (pA Try.prog R) Try.prog [] Try.f34 [.slice o0 l0 c0] w) h)

/-! maps.Keys[moraine/disk.naming,string,*moraine/disk.file]: 36 -/
abbrev maps_Keys_disk_naming_string_disk_file.n : Nat := 36
def maps_Keys_disk_naming_string_disk_file.Vc (m0 : Option Nat) (w : World) (R : Ending → World → Prop) : Prop :=
  ∀ (d1 : Addr) (w2 : World), IsNew w 58 #[(.map m0)] d1 w2 →
  R (.returned (.func (.func 59) #[] #[(.pointer (some d1))])) w2
theorem maps_Keys_disk_naming_string_disk_file.vc (m0 : Option Nat) (w : World) (R : Ending → World → Prop) (h : maps_Keys_disk_naming_string_disk_file.Vc m0 w R) : Calls Try.prog 36 #[(.map m0)] w R :=
  execF_sound (ann := []) (args := [.map m0]) Try.func36 mixed (Eq.mp (by kernel_rfl : maps_Keys_disk_naming_string_disk_file.Vc m0 w R = execF (pA Try.prog R) Try.prog [] Try.f36 [.map m0] w) h)

/-! moraine/morainehelp.Spoil: 39 -/
abbrev morainehelp_Spoil.n : Nat := 39
def morainehelp_Spoil.Vc (o0 : Option Addr) (l0 : Nat) (c0 : Nat) (w : World) (R : Ending → World → Prop) : Prop :=
  ∃ (I1 : Int → World → Prop) (μ1 : Int → World → Nat), I1 0 w ∧
  (∀ (n2 : Int) (j3 : Nat → Value) (w3 : World), I1 n2 w3 →
    (((n2 < ((l0 : Nat) : Int) →
      ∃ d4 : Addr, o0 = some d4 ∧
      ((0 : Int) ≤ n2 ∧ n2 < ((l0 : Nat) : Int)) ∧
      CanSet w3 (Addr.add d4 (Int.toNat n2)) (.int .u8 238) ∧ ∀ w5 : World, IsSet w3 (Addr.add d4 (Int.toNat n2)) (.int .u8 238) w5 →
      I1 (IntKind.wrap .i64 (n2 + 1)) w5 ∧ μ1 (IntKind.wrap .i64 (n2 + 1)) w5 < μ1 n2 w3)) ∧
     ((¬ n2 < ((l0 : Nat) : Int) →
      R (.returned (.tuple #[])) w3))))
theorem morainehelp_Spoil.vc (o0 : Option Addr) (l0 : Nat) (c0 : Nat) (w : World) (R : Ending → World → Prop) (h : morainehelp_Spoil.Vc o0 l0 c0 w R) : Calls Try.prog 39 #[(.slice o0 l0 c0)] w R :=
  execF_sound (ann := [(1, [(2, .cell (.int .i64))])]) (args := [.slice o0 l0 c0]) Try.func39 mixed (Eq.mp (by kernel_rfl : morainehelp_Spoil.Vc o0 l0 c0 w R = execF (pA Try.prog R) Try.prog [(1, [(2, .cell (.int .i64))])] Try.f39 [.slice o0 l0 c0] w) h)

/-! (*moraine/disk.Disk).WriteAt: 40 -/
abbrev disk_Disk_WriteAt.n : Nat := 40
def disk_Disk_WriteAt.Vc (d0 : Addr) (s1 : ByteArray) (n2 : Int) (o3 : Option Addr) (l3 : Nat) (c3 : Nat) (w : World) (R : Ending → World → Prop) : Prop :=
  Calls Try.prog 26 #[(.pointer (some d0)), (.string s1), (.slice none 0 0)] w (fun e4 w5 =>
    ∃ o6 : Option Addr, ∃ n7 : Int, e4 = .returned (.tuple #[(.pointer o6), (.int .i64 n7)]) ∧
    (((n7 ≠ 0 →
      R (.returned (.int .i64 n7)) w5)) ∧
     ((n7 = 0 →
      (((n2 < 0 →
        R (.returned (.int .i64 14)) w5)) ∧
       ((¬ n2 < 0 →
        ∃ d8 : Addr, o6 = some d8 ∧
        ∃ o9 : Option Addr, ∃ l10 : Nat, ∃ l11 : Nat, World.cell? w5 (Addr.add d8 1) = some (.slice o9 l10 l11) ∧
        (((n2 > ((l10 : Nat) : Int) →
          R (.returned (.int .i64 14)) w5)) ∧
         ((¬ n2 > ((l10 : Nat) : Int) →
          Calls Try.prog 28 #[(.pointer (some d0)), (.pointer o6), (.int .i64 n2), (.slice o3 l3 c3)] w5 (fun e12 w13 =>
            ∃ n14 : Int, e12 = .returned (.int .i64 n14) ∧
            R (.returned (.int .i64 n14)) w13)))))))))))
theorem disk_Disk_WriteAt.vc (d0 : Addr) (s1 : ByteArray) (n2 : Int) (o3 : Option Addr) (l3 : Nat) (c3 : Nat) (w : World) (R : Ending → World → Prop) (h : disk_Disk_WriteAt.Vc d0 s1 n2 o3 l3 c3 w R) : Calls Try.prog 40 #[(.pointer (some d0)), (.string s1), (.int .i64 n2), (.slice o3 l3 c3)] w R :=
  execF_sound (ann := []) (args := [.addr d0, .str s1, .int .i64 n2, .slice o3 l3 c3]) Try.func40 mixed (Eq.mp (by kernel_rfl : disk_Disk_WriteAt.Vc d0 s1 n2 o3 l3 c3 w R = execF (pA Try.prog R) Try.prog [] Try.f40 [.addr d0, .str s1, .int .i64 n2, .slice o3 l3 c3] w) h)

/-! (*moraine/disk.Disk).Truncate: 42 -/
abbrev disk_Disk_Truncate.n : Nat := 42
def disk_Disk_Truncate.Vc (d0 : Addr) (s1 : ByteArray) (n2 : Int) (w : World) (R : Ending → World → Prop) : Prop :=
  Calls Try.prog 26 #[(.pointer (some d0)), (.string s1), (.slice none 0 0)] w (fun e3 w4 =>
    ∃ o5 : Option Addr, ∃ n6 : Int, e3 = .returned (.tuple #[(.pointer o5), (.int .i64 n6)]) ∧
    (((n6 ≠ 0 →
      R (.returned (.int .i64 n6)) w4)) ∧
     ((n6 = 0 →
      (((n2 < 0 →
        R (.returned (.int .i64 14)) w4)) ∧
       ((¬ n2 < 0 →
        ∃ d7 : Addr, o5 = some d7 ∧
        ∃ o8 : Option Addr, ∃ l9 : Nat, ∃ l10 : Nat, World.cell? w4 (Addr.add d7 1) = some (.slice o8 l9 l10) ∧
        (((n2 > ((l9 : Nat) : Int) →
          R (.returned (.int .i64 14)) w4)) ∧
         ((¬ n2 > ((l9 : Nat) : Int) →
          ∃ d11 : Addr, o5 = some d11 ∧
          ∃ o12 : Option Addr, ∃ l13 : Nat, ∃ l14 : Nat, World.cell? w4 (Addr.add d11 1) = some (.slice o12 l13 l14) ∧
          (((n2 < ((l13 : Nat) : Int) →
            ∃ d15 : Addr, o5 = some d15 ∧
            ∃ o16 : Option Addr, ∃ l17 : Nat, ∃ l18 : Nat, World.cell? w4 (Addr.add d15 1) = some (.slice o16 l17 l18) ∧
            ((0 : Int) ≤ n2 ∧ n2 ≤ ((l18 : Nat) : Int)) ∧
            ∃ d19 : Addr, o5 = some d19 ∧
            CanSet w4 (Addr.add d19 1) (.slice o16 (Int.toNat n2) l18) ∧ ∀ w20 : World, IsSet w4 (Addr.add d19 1) (.slice o16 (Int.toNat n2) l18) w20 →
            ∃ d21 : Addr, o5 = some d21 ∧
            ∃ o22 : Option Addr, ∃ l23 : Nat, ∃ l24 : Nat, World.cell? w20 (Addr.add d21 3) = some (.slice o22 l23 l24) ∧
            ∀ (d25 : Addr) (w26 : World), IsNew w20 104 #[(.iface 121 (.agg #[(.int .i64 n2)]))] d25 w26 →
            ∃ (v27 : Value) (w28 : World), Sem.run Try.prog (builtinV .append #[66, 66] 66 #[(.slice o22 l23 l24), (.slice (some d25) 1 1)]) w26 = .ok v27 w28 ∧
            ∃ o29 : Option Addr, ∃ l30 : Nat, ∃ l31 : Nat, v27 = (.slice o29 l30 l31) ∧
            ∃ d32 : Addr, o5 = some d32 ∧
            CanSet w28 (Addr.add d32 3) (.slice o29 l30 l31) ∧ ∀ w33 : World, IsSet w28 (Addr.add d32 3) (.slice o29 l30 l31) w33 →
            R (.returned (.int .i64 0)) w33)) ∧
           ((¬ n2 < ((l13 : Nat) : Int) →
            R (.returned (.int .i64 0)) w4)))))))))))))
theorem disk_Disk_Truncate.vc (d0 : Addr) (s1 : ByteArray) (n2 : Int) (w : World) (R : Ending → World → Prop) (h : disk_Disk_Truncate.Vc d0 s1 n2 w R) : Calls Try.prog 42 #[(.pointer (some d0)), (.string s1), (.int .i64 n2)] w R :=
  execF_sound (ann := []) (args := [.addr d0, .str s1, .int .i64 n2]) Try.func42 mixed (Eq.mp (by kernel_rfl : disk_Disk_Truncate.Vc d0 s1 n2 w R = execF (pA Try.prog R) Try.prog [] Try.f42 [.addr d0, .str s1, .int .i64 n2] w) h)

/-! (*moraine/disk.Disk).Remove: 46 -/
abbrev disk_Disk_Remove.n : Nat := 46
def disk_Disk_Remove.Vc (d0 : Addr) (s1 : ByteArray) (w : World) (R : Ending → World → Prop) : Prop :=
  Calls Try.prog 26 #[(.pointer (some d0)), (.string s1), (.slice none 0 0)] w (fun e2 w3 =>
    ∃ o4 : Option Addr, ∃ n5 : Int, e2 = .returned (.tuple #[(.pointer o4), (.int .i64 n5)]) ∧
    (((n5 ≠ 0 →
      R (.returned (.int .i64 n5)) w3)) ∧
     ((n5 = 0 →
      Calls Try.prog 27 #[(.pointer (some d0)), (.iface 126 (.agg #[(.string s1)]))] w3 (fun e6 w7 =>
        e6 = .returned (.tuple #[]) ∧
        R (.returned (.int .i64 0)) w7)))))
theorem disk_Disk_Remove.vc (d0 : Addr) (s1 : ByteArray) (w : World) (R : Ending → World → Prop) (h : disk_Disk_Remove.Vc d0 s1 w R) : Calls Try.prog 46 #[(.pointer (some d0)), (.string s1)] w R :=
  execF_sound (ann := []) (args := [.addr d0, .str s1]) Try.func46 mixed (Eq.mp (by kernel_rfl : disk_Disk_Remove.Vc d0 s1 w R = execF (pA Try.prog R) Try.prog [] Try.f46 [.addr d0, .str s1] w) h)

/-! (*moraine/disk.Disk).ReadAt: 52 -/
abbrev disk_Disk_ReadAt.n : Nat := 52
def disk_Disk_ReadAt.Vc (d0 : Addr) (s1 : ByteArray) (n2 : Int) (n3 : Int) (w : World) (R : Ending → World → Prop) : Prop :=
  Calls Try.prog 33 #[(.pointer (some d0)), (.string s1)] w (fun e4 w5 =>
    ∃ o6 : Option Addr, ∃ n7 : Int, e4 = .returned (.tuple #[(.pointer o6), (.int .i64 n7)]) ∧
    (((n7 ≠ 0 →
      R (.returned (.tuple #[(.slice none 0 0), (.int .i64 n7)])) w5)) ∧
     ((n7 = 0 →
      (((n2 < 0 →
        R (.returned (.tuple #[(.slice none 0 0), (.int .i64 14)])) w5)) ∧
       ((¬ n2 < 0 →
        (((n3 < 0 →
          R (.returned (.tuple #[(.slice none 0 0), (.int .i64 14)])) w5)) ∧
         ((¬ n3 < 0 →
          ∃ d8 : Addr, o6 = some d8 ∧
          ∃ o9 : Option Addr, ∃ l10 : Nat, ∃ l11 : Nat, World.cell? w5 (Addr.add d8 1) = some (.slice o9 l10 l11) ∧
          (((n2 > ((l10 : Nat) : Int) →
            R (.returned (.tuple #[(.slice none 0 0), (.int .i64 14)])) w5)) ∧
           ((¬ n2 > ((l10 : Nat) : Int) →
            ∃ d12 : Addr, o6 = some d12 ∧
            ∃ o13 : Option Addr, ∃ l14 : Nat, ∃ l15 : Nat, World.cell? w5 (Addr.add d12 1) = some (.slice o13 l14 l15) ∧
            (((n3 > (IntKind.wrap .i64 (((l14 : Nat) : Int) - n2)) →
              R (.returned (.tuple #[(.slice none 0 0), (.int .i64 14)])) w5)) ∧
             ((¬ n3 > (IntKind.wrap .i64 (((l14 : Nat) : Int) - n2)) →
              ∃ d16 : Addr, o6 = some d16 ∧
              ∃ o17 : Option Addr, ∃ l18 : Nat, ∃ l19 : Nat, World.cell? w5 (Addr.add d16 1) = some (.slice o17 l18 l19) ∧
              ((0 : Int) ≤ (IntKind.wrap .i64 (n2 + n3)) ∧ (IntKind.wrap .i64 (n2 + n3)) ≤ ((l19 : Nat) : Int)) ∧
              ((0 : Int) ≤ n2 ∧ n2 ≤ (((Int.toNat (IntKind.wrap .i64 (n2 + n3))) : Nat) : Int)) ∧
              Calls Try.prog 34 #[(.slice (subO o17 l19 (Int.toNat n2) 1) ((Int.toNat (IntKind.wrap .i64 (n2 + n3))) - (Int.toNat n2)) (l19 - (Int.toNat n2)))] w5 (fun e20 w21 =>
                ∃ o22 : Option Addr, ∃ l23 : Nat, ∃ l24 : Nat, e20 = .returned (.slice o22 l23 l24) ∧
                R (.returned (.tuple #[(.slice o22 l23 l24), (.int .i64 0)])) w21)))))))))))))))))
theorem disk_Disk_ReadAt.vc (d0 : Addr) (s1 : ByteArray) (n2 : Int) (n3 : Int) (w : World) (R : Ending → World → Prop) (h : disk_Disk_ReadAt.Vc d0 s1 n2 n3 w R) : Calls Try.prog 52 #[(.pointer (some d0)), (.string s1), (.int .i64 n2), (.int .i64 n3)] w R :=
  execF_sound (ann := []) (args := [.addr d0, .str s1, .int .i64 n2, .int .i64 n3]) Try.func52 mixed (Eq.mp (by kernel_rfl : disk_Disk_ReadAt.Vc d0 s1 n2 n3 w R = execF (pA Try.prog R) Try.prog [] Try.f52 [.addr d0, .str s1, .int .i64 n2, .int .i64 n3] w) h)

/-! (*moraine/disk.Disk).named: 54 -/
abbrev disk_Disk_named.n : Nat := 54
def disk_Disk_named.Vc (d0 : Addr) (s1 : ByteArray) (o2 : Option Addr) (l2 : Nat) (c2 : Nat) (w : World) (R : Ending → World → Prop) : Prop :=
  Calls Try.prog 68 #[(.string s1)] w (fun e3 w4 =>
    ∃ b5 : Bool, e3 = .returned (.bool b5) ∧
    (((b5 = false →
      R (.returned (.tuple #[(.pointer none), (.int .i64 11)])) w4)) ∧
     ((b5 = true →
      Calls Try.prog 69 #[(.slice o2 l2 c2), (.func (.func 70) #[] #[])] w4 (fun e6 w7 =>
        ∃ b8 : Bool, e6 = .returned (.bool b8) ∧
        (((b8 = true →
          R (.returned (.tuple #[(.pointer none), (.int .i64 11)])) w7)) ∧
         ((b8 = false →
          ∃ m9 : Option Nat, World.cell? w7 (Addr.add d0 1) = some (.map m9) ∧
          ∃ v10 : Value, Sem.run Try.prog (Instr.lookup 58 (.map m9) (.string s1) true) w7 = .ok v10 w7 ∧
          ∃ o11 : Option Addr, ∃ b12 : Bool, v10 = (.tuple #[(.pointer o11), (.bool b12)]) ∧
          (((b12 = false →
            R (.returned (.tuple #[(.pointer none), (.int .i64 13)])) w7)) ∧
           ((b12 = true →
            R (.returned (.tuple #[(.pointer o11), (.int .i64 0)])) w7)))))))))))
theorem disk_Disk_named.vc (d0 : Addr) (s1 : ByteArray) (o2 : Option Addr) (l2 : Nat) (c2 : Nat) (w : World) (R : Ending → World → Prop) (h : disk_Disk_named.Vc d0 s1 o2 l2 c2 w R) : Calls Try.prog 54 #[(.pointer (some d0)), (.string s1), (.slice o2 l2 c2)] w R :=
  execF_sound (ann := []) (args := [.addr d0, .str s1, .slice o2 l2 c2]) Try.func54 mixed (Eq.mp (by kernel_rfl : disk_Disk_named.Vc d0 s1 o2 l2 c2 w R = execF (pA Try.prog R) Try.prog [] Try.f54 [.addr d0, .str s1, .slice o2 l2 c2] w) h)

/-! moraine/disk.laid: 55 -/
abbrev disk_laid.n : Nat := 55
def disk_laid.Vc (o0 : Option Addr) (l0 : Nat) (c0 : Nat) (n1 : Int) (o2 : Option Addr) (l2 : Nat) (c2 : Nat) (w : World) (R : Ending → World → Prop) : Prop :=
  Calls Try.prog 71 #[(.slice o0 l0 c0), (.int .i64 (max 0 (IntKind.wrap .i64 ((IntKind.wrap .i64 (n1 + ((l2 : Nat) : Int))) - ((l0 : Nat) : Int)))))] w (fun e3 w4 =>
    ∃ o5 : Option Addr, ∃ l6 : Nat, ∃ l7 : Nat, e3 = .returned (.slice o5 l6 l7) ∧
    ((0 : Int) ≤ (max ((l0 : Nat) : Int) (IntKind.wrap .i64 (n1 + ((l2 : Nat) : Int)))) ∧ (max ((l0 : Nat) : Int) (IntKind.wrap .i64 (n1 + ((l2 : Nat) : Int)))) ≤ ((l7 : Nat) : Int)) ∧
    ((0 : Int) ≤ n1 ∧ n1 ≤ (((Int.toNat (max ((l0 : Nat) : Int) (IntKind.wrap .i64 (n1 + ((l2 : Nat) : Int))))) : Nat) : Int)) ∧
    ∃ (v8 : Value) (w9 : World), Sem.run Try.prog (builtinV .copy #[30, 30] 3 #[(.slice (subO o5 l7 (Int.toNat n1) 1) ((Int.toNat (max ((l0 : Nat) : Int) (IntKind.wrap .i64 (n1 + ((l2 : Nat) : Int))))) - (Int.toNat n1)) (l7 - (Int.toNat n1))), (.slice o2 l2 c2)]) w4 = .ok v8 w9 ∧
    ∃ n10 : Int, v8 = (.int .i64 n10) ∧
    R (.returned (.slice o5 (Int.toNat (max ((l0 : Nat) : Int) (IntKind.wrap .i64 (n1 + ((l2 : Nat) : Int))))) l7)) w9)
theorem disk_laid.vc (o0 : Option Addr) (l0 : Nat) (c0 : Nat) (n1 : Int) (o2 : Option Addr) (l2 : Nat) (c2 : Nat) (w : World) (R : Ending → World → Prop) (h : disk_laid.Vc o0 l0 c0 n1 o2 l2 c2 w R) : Calls Try.prog 55 #[(.slice o0 l0 c0), (.int .i64 n1), (.slice o2 l2 c2)] w R :=
  execF_sound (ann := []) (args := [.slice o0 l0 c0, .int .i64 n1, .slice o2 l2 c2]) Try.func55 mixed (Eq.mp (by kernel_rfl : disk_laid.Vc o0 l0 c0 n1 o2 l2 c2 w R = execF (pA Try.prog R) Try.prog [] Try.f55 [.slice o0 l0 c0, .int .i64 n1, .slice o2 l2 c2] w) h)

/-! moraine/disk.right: 68 -/
abbrev disk_right.n : Nat := 68
def disk_right.Vc (s0 : ByteArray) (w : World) (R : Ending → World → Prop) : Prop :=
  ((((((ByteArray.size s0) : Nat) : Int) < 1 →
    R (.returned (.bool false)) w)) ∧
   ((¬ (((ByteArray.size s0) : Nat) : Int) < 1 →
    ((((((ByteArray.size s0) : Nat) : Int) > 64 →
      R (.returned (.bool false)) w)) ∧
     ((¬ (((ByteArray.size s0) : Nat) : Int) > 64 →
      ∃ (I1 : Int → World → Prop) (μ1 : Int → World → Nat), I1 0 w ∧
      (∀ (n2 : Int) (j3 : Nat → Value) (w3 : World), I1 n2 w3 →
        (((n2 < (((ByteArray.size s0) : Nat) : Int) →
          ((0 : Int) ≤ n2 ∧ n2 < (((ByteArray.size s0) : Nat) : Int)) ∧
          ∀ (d4 : Addr) (w5 : World), IsNew w3 5 #[(.int .u8 0)] d4 w5 →
          CanSet w5 d4 (.int .u8 (strAt s0 (Int.toNat n2))) ∧ ∀ w6 : World, IsSet w5 d4 (.int .u8 (strAt s0 (Int.toNat n2))) w6 →
          Calls Try.prog 79 #[(.int .u8 97), (.int .u8 122), (.pointer (some d4))] w6 (fun e7 w8 =>
            ∃ b9 : Bool, e7 = .returned (.bool b9) ∧
            (((b9 = false →
              Calls Try.prog 79 #[(.int .u8 48), (.int .u8 57), (.pointer (some d4))] w8 (fun e10 w11 =>
                ∃ b12 : Bool, e10 = .returned (.bool b12) ∧
                (((b12 = false →
                  ∃ n13 : Int, World.cell? w11 d4 = some (.int .u8 n13) ∧
                  (((n13 ≠ 46 →
                    ∃ n14 : Int, World.cell? w11 d4 = some (.int .u8 n14) ∧
                    (((n14 ≠ 45 →
                      ∃ n15 : Int, World.cell? w11 d4 = some (.int .u8 n15) ∧
                      (((n15 ≠ 95 →
                        R (.returned (.bool false)) w11)) ∧
                       ((n15 = 95 →
                        I1 (IntKind.wrap .i64 (n2 + 1)) w11 ∧ μ1 (IntKind.wrap .i64 (n2 + 1)) w11 < μ1 n2 w3))))) ∧
                     ((n14 = 45 →
                      I1 (IntKind.wrap .i64 (n2 + 1)) w11 ∧ μ1 (IntKind.wrap .i64 (n2 + 1)) w11 < μ1 n2 w3))))) ∧
                   ((n13 = 46 →
                    I1 (IntKind.wrap .i64 (n2 + 1)) w11 ∧ μ1 (IntKind.wrap .i64 (n2 + 1)) w11 < μ1 n2 w3))))) ∧
                 ((b12 = true →
                  I1 (IntKind.wrap .i64 (n2 + 1)) w11 ∧ μ1 (IntKind.wrap .i64 (n2 + 1)) w11 < μ1 n2 w3)))))) ∧
             ((b9 = true →
              I1 (IntKind.wrap .i64 (n2 + 1)) w8 ∧ μ1 (IntKind.wrap .i64 (n2 + 1)) w8 < μ1 n2 w3)))))) ∧
         ((¬ n2 < (((ByteArray.size s0) : Nat) : Int) →
          R (.returned (.bool true)) w3))))))))))
theorem disk_right.vc (s0 : ByteArray) (w : World) (R : Ending → World → Prop) (h : disk_right.Vc s0 w R) : Calls Try.prog 68 #[(.string s0)] w R :=
  execF_sound (ann := [(4, [(16, .cell (.int .i64))])]) (args := [.str s0]) Try.func68 mixed (Eq.mp (by kernel_rfl : disk_right.Vc s0 w R = execF (pA Try.prog R) Try.prog [(4, [(16, .cell (.int .i64))])] Try.f68 [.str s0] w) h)

/-! slices.ContainsFunc[[]string,string]: 69 -/
abbrev slices_ContainsFunc_string_string.n : Nat := 69
def slices_ContainsFunc_string_string.Vc (o0 : Option Addr) (l0 : Nat) (c0 : Nat) (v1 : Value) (w : World) (R : Ending → World → Prop) : Prop :=
  Calls Try.prog 80 #[(.slice o0 l0 c0), v1] w (fun e2 w3 =>
    ∃ n4 : Int, e2 = .returned (.int .i64 n4) ∧
    R (.returned (.bool (decide (n4 ≥ 0)))) w3)
theorem slices_ContainsFunc_string_string.vc (o0 : Option Addr) (l0 : Nat) (c0 : Nat) (v1 : Value) (w : World) (R : Ending → World → Prop) (h : slices_ContainsFunc_string_string.Vc o0 l0 c0 v1 w R) : Calls Try.prog 69 #[(.slice o0 l0 c0), v1] w R :=
  execF_sound (ann := []) (args := [.slice o0 l0 c0, .raw v1]) Try.func69 mixed (Eq.mp (by kernel_rfl : slices_ContainsFunc_string_string.Vc o0 l0 c0 v1 w R = execF (pA Try.prog R) Try.prog [] Try.f69 [.slice o0 l0 c0, .raw v1] w) h)

/-! slices.IndexFunc[[]string,string]: 80 -/
abbrev slices_IndexFunc_string_string.n : Nat := 80
def slices_IndexFunc_string_string.Vc (o0 : Option Addr) (l0 : Nat) (c0 : Nat) (v1 : Value) (w : World) (R : Ending → World → Prop) : Prop :=
  ∃ (I2 : Int → World → Prop) (μ2 : Int → World → Nat), I2 0 w ∧
  (∀ (n3 : Int) (j4 : Nat → Value) (w4 : World), I2 n3 w4 →
    (((n3 < ((l0 : Nat) : Int) →
      ∃ d5 : Addr, o0 = some d5 ∧
      ((0 : Int) ≤ n3 ∧ n3 < ((l0 : Nat) : Int)) ∧
      ∃ s6 : ByteArray, World.cell? w4 (Addr.add d5 (Int.toNat n3)) = some (.string s6) ∧
      CallsV Try.prog v1 #[(.string s6)] w4 (fun e7 w8 =>
        ∃ b9 : Bool, e7 = .returned (.bool b9) ∧
        (((b9 = true →
          R (.returned (.int .i64 n3)) w8)) ∧
         ((b9 = false →
          I2 (IntKind.wrap .i64 (n3 + 1)) w8 ∧ μ2 (IntKind.wrap .i64 (n3 + 1)) w8 < μ2 n3 w4)))))) ∧
     ((¬ n3 < ((l0 : Nat) : Int) →
      R (.returned (.int .i64 (-1))) w4))))
theorem slices_IndexFunc_string_string.vc (o0 : Option Addr) (l0 : Nat) (c0 : Nat) (v1 : Value) (w : World) (R : Ending → World → Prop) (h : slices_IndexFunc_string_string.Vc o0 l0 c0 v1 w R) : Calls Try.prog 80 #[(.slice o0 l0 c0), v1] w R :=
  execF_sound (ann := [(2, [(8, .cell (.int .i64))])]) (args := [.slice o0 l0 c0, .raw v1]) Try.func80 mixed (Eq.mp (by kernel_rfl : slices_IndexFunc_string_string.Vc o0 l0 c0 v1 w R = execF (pA Try.prog R) Try.prog [(2, [(8, .cell (.int .i64))])] Try.f80 [.slice o0 l0 c0, .raw v1] w) h)

/-! (*moraine/disk.Disk).named$1: 70 -/
abbrev disk_Disk_named_1.n : Nat := 70
def disk_Disk_named_1.Vc (s0 : ByteArray) (w : World) (R : Ending → World → Prop) : Prop :=
  Calls Try.prog 68 #[(.string s0)] w (fun e1 w2 =>
    ∃ b3 : Bool, e1 = .returned (.bool b3) ∧
    R (.returned (.bool (!b3))) w2)
theorem disk_Disk_named_1.vc (s0 : ByteArray) (w : World) (R : Ending → World → Prop) (h : disk_Disk_named_1.Vc s0 w R) : Calls Try.prog 70 #[(.string s0)] w R :=
  execF_sound (ann := []) (args := [.str s0]) Try.func70 mixed (Eq.mp (by kernel_rfl : disk_Disk_named_1.Vc s0 w R = execF (pA Try.prog R) Try.prog [] Try.f70 [.str s0] w) h)

/-! slices.Grow[[]byte,byte]: 71 -/
abbrev slices_Grow_byte_byte.n : Nat := 71
def slices_Grow_byte_byte.Vc (o0 : Option Addr) (l0 : Nat) (c0 : Nat) (n1 : Int) (w : World) (R : Ending → World → Prop) : Prop :=
  (((n1 < 0 →
    False /- no such operation -/)) ∧
   ((¬ n1 < 0 →
    ((((IntKind.wrap .i64 (n1 - (IntKind.wrap .i64 (((c0 : Nat) : Int) - ((l0 : Nat) : Int))))) > 0 →
      ((0 : Int) ≤ ((c0 : Nat) : Int) ∧ ((c0 : Nat) : Int) ≤ ((c0 : Nat) : Int)) ∧
      ∃ (v2 : Value) (w3 : World), Sem.run Try.prog (builtinV .append #[30, 3] 30 #[(.slice o0 (Int.toNat ((c0 : Nat) : Int)) c0), (.int .i64 (IntKind.wrap .i64 (n1 - (IntKind.wrap .i64 (((c0 : Nat) : Int) - ((l0 : Nat) : Int))))))]) w = .ok v2 w3 ∧
      ∃ o4 : Option Addr, ∃ l5 : Nat, ∃ l6 : Nat, v2 = (.slice o4 l5 l6) ∧
      ((0 : Int) ≤ ((l0 : Nat) : Int) ∧ ((l0 : Nat) : Int) ≤ ((l6 : Nat) : Int)) ∧
      R (.returned (.slice o4 (Int.toNat ((l0 : Nat) : Int)) l6)) w3)) ∧
     ((¬ (IntKind.wrap .i64 (n1 - (IntKind.wrap .i64 (((c0 : Nat) : Int) - ((l0 : Nat) : Int))))) > 0 →
      R (.returned (.slice o0 l0 c0)) w))))))
theorem slices_Grow_byte_byte.vc (o0 : Option Addr) (l0 : Nat) (c0 : Nat) (n1 : Int) (w : World) (R : Ending → World → Prop) (h : slices_Grow_byte_byte.Vc o0 l0 c0 n1 w R) : Calls Try.prog 71 #[(.slice o0 l0 c0), (.int .i64 n1)] w R :=
  execF_sound (ann := []) (args := [.slice o0 l0 c0, .int .i64 n1]) Try.func71 mixed (Eq.mp (by kernel_rfl : slices_Grow_byte_byte.Vc o0 l0 c0 n1 w R = execF (pA Try.prog R) Try.prog [] Try.f71 [.slice o0 l0 c0, .int .i64 n1] w) h)

/-! moraine/disk.right$1: 79 -/
abbrev disk_right_1.n : Nat := 79
def disk_right_1.Vc (n0 : Int) (n1 : Int) (d2 : Addr) (w : World) (R : Ending → World → Prop) : Prop :=
  ∃ n3 : Int, World.cell? w d2 = some (.int .u8 n3) ∧
  (((n0 ≤ n3 →
    ∃ n4 : Int, World.cell? w d2 = some (.int .u8 n4) ∧
    R (.returned (.bool (decide (n4 ≤ n1)))) w)) ∧
   ((¬ n0 ≤ n3 →
    R (.returned (.bool false)) w)))
theorem disk_right_1.vc (n0 : Int) (n1 : Int) (d2 : Addr) (w : World) (R : Ending → World → Prop) (h : disk_right_1.Vc n0 n1 d2 w R) : Calls Try.prog 79 #[(.int .u8 n0), (.int .u8 n1), (.pointer (some d2))] w R :=
  execF_sound (ann := []) (args := [.int .u8 n0, .int .u8 n1, .addr d2]) Try.func79 mixed (Eq.mp (by kernel_rfl : disk_right_1.Vc n0 n1 d2 w R = execF (pA Try.prog R) Try.prog [] Try.f79 [.int .u8 n0, .int .u8 n1, .addr d2] w) h)

/-! (moraine/disk.made).on: 117 -/
abbrev disk_made_on.n : Nat := 117
def disk_made_on.Vc (s0 : ByteArray) (o1 : Option Addr) (m2 : Option Nat) (w : World) (R : Ending → World → Prop) : Prop :=
  ∀ (d3 : Addr) (w4 : World), IsNew w 70 #[(.string s0), (.pointer o1)] d3 w4 →
  ∃ s5 : ByteArray, World.cell? w4 d3 = some (.string s5) ∧
  ∃ o6 : Option Addr, World.cell? w4 (Addr.add d3 1) = some (.pointer o6) ∧
  ∃ w7 : World, Sem.run Try.prog (Instr.mapUpdate 58 (.map m2) (.string s5) (.pointer o6)) w4 = .ok () w7 ∧
  R (.returned (.tuple #[])) w7
theorem disk_made_on.vc (s0 : ByteArray) (o1 : Option Addr) (m2 : Option Nat) (w : World) (R : Ending → World → Prop) (h : disk_made_on.Vc s0 o1 m2 w R) : Calls Try.prog 117 #[(.agg #[(.string s0), (.pointer o1)]), (.map m2)] w R :=
  execF_sound (ann := []) (args := [.agg [.str s0, .ptr o1], .map m2]) Try.func117 mixed (Eq.mp (by kernel_rfl : disk_made_on.Vc s0 o1 m2 w R = execF (pA Try.prog R) Try.prog [] Try.f117 [.agg [.str s0, .ptr o1], .map m2] w) h)

/-! (moraine/disk.renamed).on: 118 -/
abbrev disk_renamed_on.n : Nat := 118
def disk_renamed_on.Vc (s0 : ByteArray) (s1 : ByteArray) (m2 : Option Nat) (w : World) (R : Ending → World → Prop) : Prop :=
  ∀ (d3 : Addr) (w4 : World), IsNew w 79 #[(.string s0), (.string s1)] d3 w4 →
  ∃ s5 : ByteArray, World.cell? w4 (Addr.add d3 1) = some (.string s5) ∧
  ∃ s6 : ByteArray, World.cell? w4 d3 = some (.string s6) ∧
  ∃ v7 : Value, Sem.run Try.prog (Instr.lookup 58 (.map m2) (.string s6) false) w4 = .ok v7 w4 ∧
  ∃ o8 : Option Addr, v7 = (.pointer o8) ∧
  ∃ w9 : World, Sem.run Try.prog (Instr.mapUpdate 58 (.map m2) (.string s5) (.pointer o8)) w4 = .ok () w9 ∧
  ∃ s10 : ByteArray, World.cell? w9 d3 = some (.string s10) ∧
  ∃ (v11 : Value) (w12 : World), Sem.run Try.prog (builtinV .delete #[58, 9] 0 #[(.map m2), (.string s10)]) w9 = .ok v11 w12 ∧
  v11 = (.tuple #[]) ∧
  R (.returned (.tuple #[])) w12
theorem disk_renamed_on.vc (s0 : ByteArray) (s1 : ByteArray) (m2 : Option Nat) (w : World) (R : Ending → World → Prop) (h : disk_renamed_on.Vc s0 s1 m2 w R) : Calls Try.prog 118 #[(.agg #[(.string s0), (.string s1)]), (.map m2)] w R :=
  execF_sound (ann := []) (args := [.agg [.str s0, .str s1], .map m2]) Try.func118 mixed (Eq.mp (by kernel_rfl : disk_renamed_on.Vc s0 s1 m2 w R = execF (pA Try.prog R) Try.prog [] Try.f118 [.agg [.str s0, .str s1], .map m2] w) h)

/-! (moraine/disk.written).on: 119 -/
abbrev disk_written_on.n : Nat := 119
def disk_written_on.Vc (n0 : Int) (o1 : Option Addr) (l1 : Nat) (c1 : Nat) (o2 : Option Addr) (l2 : Nat) (c2 : Nat) (n3 : Int) (w : World) (R : Ending → World → Prop) : Prop :=
  ∀ (d4 : Addr) (w5 : World), IsNew w 100 #[(.int .i64 n0), (.slice o1 l1 c1)] d4 w5 →
  ∃ o6 : Option Addr, ∃ l7 : Nat, ∃ l8 : Nat, World.cell? w5 (Addr.add d4 1) = some (.slice o6 l7 l8) ∧
  (((((l7 : Nat) : Int) > n3 →
    ∀ w9 : World, IsDrew w5 w9 →
    ∃ n10 : Int, World.cell? w9 d4 = some (.int .i64 n10) ∧
    ∃ o11 : Option Addr, ∃ l12 : Nat, ∃ l13 : Nat, World.cell? w9 (Addr.add d4 1) = some (.slice o11 l12 l13) ∧
    ((0 : Int) ≤ n3 ∧ n3 ≤ ((l13 : Nat) : Int)) ∧
    Calls Try.prog 55 #[(.slice o2 l2 c2), (.int .i64 n10), (.slice o11 (Int.toNat n3) l13)] w9 (fun e14 w15 =>
      ∃ o16 : Option Addr, ∃ l17 : Nat, ∃ l18 : Nat, e14 = .returned (.slice o16 l17 l18) ∧
      R (.returned (.tuple #[(.slice o16 l17 l18), (.int .i64 (-1))])) w15))) ∧
   ((¬ ((l7 : Nat) : Int) > n3 →
    ∀ w19 : World, IsDrew w5 w19 →
    ∃ n20 : Int, World.cell? w19 d4 = some (.int .i64 n20) ∧
    ∃ o21 : Option Addr, ∃ l22 : Nat, ∃ l23 : Nat, World.cell? w19 (Addr.add d4 1) = some (.slice o21 l22 l23) ∧
    ∃ o24 : Option Addr, ∃ l25 : Nat, ∃ l26 : Nat, World.cell? w19 (Addr.add d4 1) = some (.slice o24 l25 l26) ∧
    Calls Try.prog 55 #[(.slice o2 l2 c2), (.int .i64 n20), (.slice o21 l22 l23)] w19 (fun e27 w28 =>
      ∃ o29 : Option Addr, ∃ l30 : Nat, ∃ l31 : Nat, e27 = .returned (.slice o29 l30 l31) ∧
      World.cell? w28 (Addr.add d4 1) = some (.slice o24 l25 l26) ∧
      R (.returned (.tuple #[(.slice o29 l30 l31), (.int .i64 (IntKind.wrap .i64 (n3 - ((l25 : Nat) : Int))))])) w28))))
theorem disk_written_on.vc (n0 : Int) (o1 : Option Addr) (l1 : Nat) (c1 : Nat) (o2 : Option Addr) (l2 : Nat) (c2 : Nat) (n3 : Int) (w : World) (R : Ending → World → Prop) (h : disk_written_on.Vc n0 o1 l1 c1 o2 l2 c2 n3 w R) : Calls Try.prog 119 #[(.agg #[(.int .i64 n0), (.slice o1 l1 c1)]), (.slice o2 l2 c2), (.int .i64 n3)] w R :=
  execF_sound (ann := []) (args := [.agg [.int .i64 n0, .slice o1 l1 c1], .slice o2 l2 c2, .int .i64 n3]) Try.func119 mixed (Eq.mp (by kernel_rfl : disk_written_on.Vc n0 o1 l1 c1 o2 l2 c2 n3 w R = execF (pA Try.prog R) Try.prog [] Try.f119 [.agg [.int .i64 n0, .slice o1 l1 c1], .slice o2 l2 c2, .int .i64 n3] w) h)

/-! (moraine/disk.cut).on: 120 -/
abbrev disk_cut_on.n : Nat := 120
def disk_cut_on.Vc (n0 : Int) (o1 : Option Addr) (l1 : Nat) (c1 : Nat) (n2 : Int) (w : World) (R : Ending → World → Prop) : Prop :=
  ∀ (d3 : Addr) (w4 : World), IsNew w 121 #[(.int .i64 n0)] d3 w4 →
  (((n2 < 1 →
    R (.returned (.tuple #[(.slice o1 l1 c1), (.int .i64 (-1))])) w4)) ∧
   ((¬ n2 < 1 →
    ∃ n5 : Int, World.cell? w4 d3 = some (.int .i64 n5) ∧
    ((0 : Int) ≤ n5 ∧ n5 ≤ ((c1 : Nat) : Int)) ∧
    R (.returned (.tuple #[(.slice o1 (Int.toNat n5) c1), (.int .i64 (IntKind.wrap .i64 (n2 - 1)))])) w4)))
theorem disk_cut_on.vc (n0 : Int) (o1 : Option Addr) (l1 : Nat) (c1 : Nat) (n2 : Int) (w : World) (R : Ending → World → Prop) (h : disk_cut_on.Vc n0 o1 l1 c1 n2 w R) : Calls Try.prog 120 #[(.agg #[(.int .i64 n0)]), (.slice o1 l1 c1), (.int .i64 n2)] w R :=
  execF_sound (ann := []) (args := [.agg [.int .i64 n0], .slice o1 l1 c1, .int .i64 n2]) Try.func120 mixed (Eq.mp (by kernel_rfl : disk_cut_on.Vc n0 o1 l1 c1 n2 w R = execF (pA Try.prog R) Try.prog [] Try.f120 [.agg [.int .i64 n0], .slice o1 l1 c1, .int .i64 n2] w) h)

/-! (moraine/disk.removed).on: 121 -/
abbrev disk_removed_on.n : Nat := 121
def disk_removed_on.Vc (s0 : ByteArray) (m1 : Option Nat) (w : World) (R : Ending → World → Prop) : Prop :=
  ∀ (d2 : Addr) (w3 : World), IsNew w 126 #[(.string s0)] d2 w3 →
  ∃ s4 : ByteArray, World.cell? w3 d2 = some (.string s4) ∧
  ∃ (v5 : Value) (w6 : World), Sem.run Try.prog (builtinV .delete #[58, 9] 0 #[(.map m1), (.string s4)]) w3 = .ok v5 w6 ∧
  v5 = (.tuple #[]) ∧
  R (.returned (.tuple #[])) w6
theorem disk_removed_on.vc (s0 : ByteArray) (m1 : Option Nat) (w : World) (R : Ending → World → Prop) (h : disk_removed_on.Vc s0 m1 w R) : Calls Try.prog 121 #[(.agg #[(.string s0)]), (.map m1)] w R :=
  execF_sound (ann := []) (args := [.agg [.str s0], .map m1]) Try.func121 mixed (Eq.mp (by kernel_rfl : disk_removed_on.Vc s0 m1 w R = execF (pA Try.prog R) Try.prog [] Try.f121 [.agg [.str s0], .map m1] w) h)

end Go.Proofs.Ytkekehngillblaa
end
