/- The verification conditions of some functions, printed by a program of ours (wip/PrintVc.lean). -/
import Derived.Test.YtkekehngillblaaXFun
import Derived.Test.YtkekehngillblaaProg
import Derived.KernelRfl
section
set_option linter.unusedVariables false
namespace Go.Proofs.Ytkekehngillblaa
open Go Go.Vcg
theorem mixed : Try.prog.follows .mixedOrders = true := by kernel_rfl
/-! moraine/morainelaw1.DiskSynced: 6 -/
abbrev morainelaw1_DiskSynced.n : Nat := 6
def morainelaw1_DiskSynced.Vc (o0 : Option Addr) (l0 : Nat) (c0 : Nat) (n1 : Int) (o2 : Option Addr) (l2 : Nat) (c2 : Nat) (w : World) (R : Ending → World → Prop) : Prop :=
  ∀ (d3 : Addr) (w4 : World), IsNew w 37 #[(.int .i64 n1), (.slice o2 l2 c2)] d3 w4 →
  Calls Try.prog 8 #[] w4 (fun e5 w6 =>
    ∃ b7 : Bool, e5 = .returned (.bool b7) ∧
    (((b7 = false →
      R (.returned (.bool false)) w6)) ∧
     ((b7 = true →
      Calls Try.prog 9 #[(.int .i64 4000)] w6 (fun e8 w9 =>
        ∃ o10 : Option Addr, ∃ n11 : Int, e8 = .returned (.tuple #[(.pointer o10), (.int .i64 n11)]) ∧
        (((n11 ≠ 0 →
          (((n11 = 0 →
            R (.returned (.bool (!(Option.isNone o10)))) w9)) ∧
           ((n11 ≠ 0 →
            R (.returned (.bool false)) w9))))) ∧
         ((n11 = 0 →
          (((o10 = none →
            (((n11 = 0 →
              R (.returned (.bool (!(Option.isNone o10)))) w9)) ∧
             ((n11 ≠ 0 →
              R (.returned (.bool false)) w9))))) ∧
           ((o10 ≠ none →
            Calls Try.prog 20 #[(.slice o0 l0 c0)] w9 (fun e12 w13 =>
              ∃ b14 : Bool, e12 = .returned (.bool b14) ∧
              (((b14 = false →
                (((n11 = 0 →
                  R (.returned (.bool (!(Option.isNone o10)))) w13)) ∧
                 ((n11 ≠ 0 →
                  R (.returned (.bool false)) w13))))) ∧
               ((b14 = true →
                ∃ o15 : Option Addr, ∃ l16 : Nat, ∃ l17 : Nat, World.cell? w13 (Addr.add d3 1) = some (.slice o15 l16 l17) ∧
                (((((l16 : Nat) : Int) > 200 →
                  (((n11 = 0 →
                    R (.returned (.bool (!(Option.isNone o10)))) w13)) ∧
                   ((n11 ≠ 0 →
                    R (.returned (.bool false)) w13))))) ∧
                 ((¬ ((l16 : Nat) : Int) > 200 →
                  Calls Try.prog 21 #[(.int .i64 4000)] w13 (fun e18 w19 =>
                    ∃ o20 : Option Addr, e18 = .returned (.pointer o20) ∧
                    ∃ (I21 : Int → World → Prop) (μ21 : Int → World → Nat), I21 0 w19 ∧
                    (∀ (n22 : Int) (j23 : Nat → Value) (w23 : World), I21 n22 w23 →
                      (((n22 < ((l0 : Nat) : Int) →
                        ∃ d24 : Addr, o0 = some d24 ∧
                        ((0 : Int) ≤ n22 ∧ n22 < ((l0 : Nat) : Int)) ∧
                        ∃ n25 : Int, ∃ s26 : ByteArray, ∃ s27 : ByteArray, ∃ n28 : Int, ∃ o29 : Option Addr, ∃ l30 : Nat, ∃ l31 : Nat, ∃ n32 : Int, ∃ o33 : Option Addr, ∃ l34 : Nat, ∃ l35 : Nat, World.cell? w23 (Addr.add d24 ((Int.toNat n22) * 7)) = some (.int .i64 n25) ∧
                        World.cell? w23 (Addr.add (Addr.add d24 ((Int.toNat n22) * 7)) 1) = some (.string s26) ∧
                        World.cell? w23 (Addr.add (Addr.add d24 ((Int.toNat n22) * 7)) 2) = some (.string s27) ∧
                        World.cell? w23 (Addr.add (Addr.add d24 ((Int.toNat n22) * 7)) 3) = some (.int .i64 n28) ∧
                        World.cell? w23 (Addr.add (Addr.add d24 ((Int.toNat n22) * 7)) 4) = some (.slice o29 l30 l31) ∧
                        World.cell? w23 (Addr.add (Addr.add d24 ((Int.toNat n22) * 7)) 5) = some (.int .i64 n32) ∧
                        World.cell? w23 (Addr.add (Addr.add d24 ((Int.toNat n22) * 7)) 6) = some (.slice o33 l34 l35) ∧
                        Calls Try.prog 22 #[(.pointer o10), (.pointer o20), (.agg #[(.int .i64 n25), (.string s26), (.string s27), (.int .i64 n28), (.slice o29 l30 l31), (.int .i64 n32), (.slice o33 l34 l35)])] w23 (fun e36 w37 =>
                          ∃ b38 : Bool, e36 = .returned (.bool b38) ∧
                          I21 (IntKind.wrap .i64 (n22 + 1)) w37 ∧ μ21 (IntKind.wrap .i64 (n22 + 1)) w37 < μ21 n22 w23))) ∧
                       ((¬ n22 < ((l0 : Nat) : Int) →
                        Calls Try.prog 23 #[(.pointer o10), (.int .i64 0)] w23 (fun e39 w40 =>
                          e39 = .returned (.tuple #[]) ∧
                          Calls Try.prog 24 #[(.pointer o10), (.int .i64 (-1))] w40 (fun e41 w42 =>
                            e41 = .returned (.tuple #[]) ∧
                            Calls Try.prog 19 #[(.pointer o10)] w42 (fun e43 w44 =>
                              ∃ o45 : Option Addr, ∃ l46 : Nat, ∃ l47 : Nat, ∃ n48 : Int, e43 = .returned (.tuple #[(.slice o45 l46 l47), (.int .i64 n48)]) ∧
                              (((n48 ≠ 0 →
                                R (.returned (.bool (decide (n48 = 17)))) w44)) ∧
                               ((n48 = 0 →
                                ∃ (I49 : Option Addr → Nat → Nat → Int → World → Prop) (μ49 : Option Addr → Nat → Nat → Int → World → Nat), I49 none 0 0 0 w44 ∧
                                (∀ (o50 : Option Addr) (l50 : Nat) (c50 : Nat) (n51 : Int) (j52 : Nat → Value) (w52 : World), I49 o50 l50 c50 n51 w52 →
                                  (((n51 < ((l46 : Nat) : Int) →
                                    ∃ d53 : Addr, o45 = some d53 ∧
                                    ((0 : Int) ≤ n51 ∧ n51 < ((l46 : Nat) : Int)) ∧
                                    ∃ s54 : ByteArray, World.cell? w52 (Addr.add d53 (Int.toNat n51)) = some (.string s54) ∧
                                    Calls Try.prog 16 #[(.pointer o10), (.string s54)] w52 (fun e55 w56 =>
                                      ∃ o57 : Option Addr, ∃ l58 : Nat, ∃ l59 : Nat, ∃ n60 : Int, e55 = .returned (.tuple #[(.slice o57 l58 l59), (.int .i64 n60)]) ∧
                                      (((n60 ≠ 0 →
                                        R (.returned (.bool false)) w56)) ∧
                                       ((n60 = 0 →
                                        ∃ d61 : Addr, o45 = some d61 ∧
                                        ((0 : Int) ≤ n51 ∧ n51 < ((l46 : Nat) : Int)) ∧
                                        ∃ s62 : ByteArray, World.cell? w56 (Addr.add d61 (Int.toNat n51)) = some (.string s62) ∧
                                        Calls Try.prog 13 #[(.pointer o10), (.string s62)] w56 (fun e63 w64 =>
                                          ∃ n65 : Int, e63 = .returned (.int .i64 n65) ∧
                                          (((n65 ≠ 0 →
                                            R (.returned (.bool false)) w64)) ∧
                                           ((n65 = 0 →
                                            ∀ (d66 : Addr) (w67 : World), IsNew w64 30 #[(.slice o57 l58 l59)] d66 w67 →
                                            ∃ (v68 : Value) (w69 : World), Sem.run Try.prog (builtinV .append #[22, 22] 22 #[(.slice o50 l50 c50), (.slice (some d66) 1 1)]) w67 = .ok v68 w69 ∧
                                            ∃ o70 : Option Addr, ∃ l71 : Nat, ∃ l72 : Nat, v68 = (.slice o70 l71 l72) ∧
                                            I49 o70 l71 l72 (IntKind.wrap .i64 (n51 + 1)) w69 ∧ μ49 o70 l71 l72 (IntKind.wrap .i64 (n51 + 1)) w69 < μ49 o50 l50 c50 n51 w52)))))))))) ∧
                                   ((¬ n51 < ((l46 : Nat) : Int) →
                                    Calls Try.prog 14 #[(.pointer o10)] w52 (fun e73 w74 =>
                                      ∃ n75 : Int, e73 = .returned (.int .i64 n75) ∧
                                      (((n75 ≠ 0 →
                                        R (.returned (.bool false)) w74)) ∧
                                       ((n75 = 0 →
                                        ∃ n76 : Int, ∃ o77 : Option Addr, ∃ l78 : Nat, ∃ l79 : Nat, World.cell? w74 d3 = some (.int .i64 n76) ∧
                                        World.cell? w74 (Addr.add d3 1) = some (.slice o77 l78 l79) ∧
                                        Calls Try.prog 15 #[(.pointer o10), (.agg #[(.int .i64 n76), (.slice o77 l78 l79)])] w74 (fun e80 w81 =>
                                          e80 = .returned (.tuple #[]) ∧
                                          Calls Try.prog 19 #[(.pointer o10)] w81 (fun e82 w83 =>
                                            ∃ o84 : Option Addr, ∃ l85 : Nat, ∃ l86 : Nat, ∃ n87 : Int, e82 = .returned (.tuple #[(.slice o84 l85 l86), (.int .i64 n87)]) ∧
                                            (((n87 ≠ 0 →
                                              R (.returned (.bool false)) w83)) ∧
                                             ((n87 = 0 →
                                              Calls Try.prog 25 #[(.slice o45 l46 l47), (.slice o84 l85 l86)] w83 (fun e88 w89 =>
                                                ∃ b90 : Bool, e88 = .returned (.bool b90) ∧
                                                (((b90 = false →
                                                  R (.returned (.bool false)) w89)) ∧
                                                 ((b90 = true →
                                                  ∃ (I91 : Int → World → Prop) (μ91 : Int → World → Nat), I91 0 w89 ∧
                                                  (∀ (n92 : Int) (j93 : Nat → Value) (w93 : World), I91 n92 w93 →
                                                    (((n92 < ((l46 : Nat) : Int) →
                                                      ∃ d94 : Addr, o45 = some d94 ∧
                                                      ((0 : Int) ≤ n92 ∧ n92 < ((l46 : Nat) : Int)) ∧
                                                      ∃ s95 : ByteArray, World.cell? w93 (Addr.add d94 (Int.toNat n92)) = some (.string s95) ∧
                                                      Calls Try.prog 16 #[(.pointer o10), (.string s95)] w93 (fun e96 w97 =>
                                                        ∃ o98 : Option Addr, ∃ l99 : Nat, ∃ l100 : Nat, ∃ n101 : Int, e96 = .returned (.tuple #[(.slice o98 l99 l100), (.int .i64 n101)]) ∧
                                                        (((n101 ≠ 0 →
                                                          R (.returned (.bool false)) w97)) ∧
                                                         ((n101 = 0 →
                                                          ∃ d102 : Addr, o50 = some d102 ∧
                                                          ((0 : Int) ≤ n92 ∧ n92 < ((l50 : Nat) : Int)) ∧
                                                          ∃ o103 : Option Addr, ∃ l104 : Nat, ∃ l105 : Nat, World.cell? w97 (Addr.add d102 (Int.toNat n92)) = some (.slice o103 l104 l105) ∧
                                                          Calls Try.prog 17 #[(.slice o98 l99 l100), (.slice o103 l104 l105)] w97 (fun e106 w107 =>
                                                            ∃ b108 : Bool, e106 = .returned (.bool b108) ∧
                                                            (((b108 = false →
                                                              R (.returned (.bool false)) w107)) ∧
                                                             ((b108 = true →
                                                              I91 (IntKind.wrap .i64 (n92 + 1)) w107 ∧ μ91 (IntKind.wrap .i64 (n92 + 1)) w107 < μ91 n92 w93)))))))))) ∧
                                                     ((¬ n92 < ((l46 : Nat) : Int) →
                                                      R (.returned (.bool true)) w93))))))))))))))))))))))))))))))))))))))))))))))))))
theorem morainelaw1_DiskSynced.vc (o0 : Option Addr) (l0 : Nat) (c0 : Nat) (n1 : Int) (o2 : Option Addr) (l2 : Nat) (c2 : Nat) (w : World) (R : Ending → World → Prop) (h : morainelaw1_DiskSynced.Vc o0 l0 c0 n1 o2 l2 c2 w R) : Calls Try.prog 6 #[(.slice o0 l0 c0), (.agg #[(.int .i64 n1), (.slice o2 l2 c2)])] w R :=
  execF_sound (ann := [(8, [(8, .cell (.int .i64))]), (18, [(10, .cell (.slice)), (11, .cell (.int .i64))]), (31, [(15, .cell (.int .i64))])]) (args := [.slice o0 l0 c0, .agg [.int .i64 n1, .slice o2 l2 c2]]) Try.func6 mixed (Eq.mp (by kernel_rfl : morainelaw1_DiskSynced.Vc o0 l0 c0 n1 o2 l2 c2 w R = execF (pA Try.prog R) Try.prog [(8, [(8, .cell (.int .i64))]), (18, [(10, .cell (.slice)), (11, .cell (.int .i64))]), (31, [(15, .cell (.int .i64))])] Try.f6 [.slice o0 l0 c0, .agg [.int .i64 n1, .slice o2 l2 c2]] w) h)

/-! moraine/morainelaw1.DiskWhole: 7 -/
abbrev morainelaw1_DiskWhole.n : Nat := 7
def morainelaw1_DiskWhole.Vc (o0 : Option Addr) (l0 : Nat) (c0 : Nat) (w : World) (R : Ending → World → Prop) : Prop :=
  Calls Try.prog 8 #[] w (fun e1 w2 =>
    ∃ b3 : Bool, e1 = .returned (.bool b3) ∧
    (((b3 = false →
      R (.returned (.bool false)) w2)) ∧
     ((b3 = true →
      Calls Try.prog 9 #[(.int .i64 4000)] w2 (fun e4 w5 =>
        ∃ o6 : Option Addr, ∃ n7 : Int, e4 = .returned (.tuple #[(.pointer o6), (.int .i64 n7)]) ∧
        (((n7 ≠ 0 →
          (((n7 = 0 →
            R (.returned (.bool (!(Option.isNone o6)))) w5)) ∧
           ((n7 ≠ 0 →
            R (.returned (.bool false)) w5))))) ∧
         ((n7 = 0 →
          (((o6 = none →
            (((n7 = 0 →
              R (.returned (.bool (!(Option.isNone o6)))) w5)) ∧
             ((n7 ≠ 0 →
              R (.returned (.bool false)) w5))))) ∧
           ((o6 ≠ none →
            Calls Try.prog 20 #[(.slice o0 l0 c0)] w5 (fun e8 w9 =>
              ∃ b10 : Bool, e8 = .returned (.bool b10) ∧
              (((b10 = false →
                (((n7 = 0 →
                  R (.returned (.bool (!(Option.isNone o6)))) w9)) ∧
                 ((n7 ≠ 0 →
                  R (.returned (.bool false)) w9))))) ∧
               ((b10 = true →
                Calls Try.prog 21 #[(.int .i64 4000)] w9 (fun e11 w12 =>
                  ∃ o13 : Option Addr, e11 = .returned (.pointer o13) ∧
                  ∃ (I14 : Int → World → Prop) (μ14 : Int → World → Nat), I14 0 w12 ∧
                  (∀ (n15 : Int) (j16 : Nat → Value) (w16 : World), I14 n15 w16 →
                    (((n15 < ((l0 : Nat) : Int) →
                      ∃ d17 : Addr, o0 = some d17 ∧
                      ((0 : Int) ≤ n15 ∧ n15 < ((l0 : Nat) : Int)) ∧
                      ∃ n18 : Int, ∃ s19 : ByteArray, ∃ s20 : ByteArray, ∃ n21 : Int, ∃ o22 : Option Addr, ∃ l23 : Nat, ∃ l24 : Nat, ∃ n25 : Int, ∃ o26 : Option Addr, ∃ l27 : Nat, ∃ l28 : Nat, World.cell? w16 (Addr.add d17 ((Int.toNat n15) * 7)) = some (.int .i64 n18) ∧
                      World.cell? w16 (Addr.add (Addr.add d17 ((Int.toNat n15) * 7)) 1) = some (.string s19) ∧
                      World.cell? w16 (Addr.add (Addr.add d17 ((Int.toNat n15) * 7)) 2) = some (.string s20) ∧
                      World.cell? w16 (Addr.add (Addr.add d17 ((Int.toNat n15) * 7)) 3) = some (.int .i64 n21) ∧
                      World.cell? w16 (Addr.add (Addr.add d17 ((Int.toNat n15) * 7)) 4) = some (.slice o22 l23 l24) ∧
                      World.cell? w16 (Addr.add (Addr.add d17 ((Int.toNat n15) * 7)) 5) = some (.int .i64 n25) ∧
                      World.cell? w16 (Addr.add (Addr.add d17 ((Int.toNat n15) * 7)) 6) = some (.slice o26 l27 l28) ∧
                      Calls Try.prog 22 #[(.pointer o6), (.pointer o13), (.agg #[(.int .i64 n18), (.string s19), (.string s20), (.int .i64 n21), (.slice o22 l23 l24), (.int .i64 n25), (.slice o26 l27 l28)])] w16 (fun e29 w30 =>
                        ∃ b31 : Bool, e29 = .returned (.bool b31) ∧
                        I14 (IntKind.wrap .i64 (n15 + 1)) w30 ∧ μ14 (IntKind.wrap .i64 (n15 + 1)) w30 < μ14 n15 w16))) ∧
                     ((¬ n15 < ((l0 : Nat) : Int) →
                      Calls Try.prog 19 #[(.pointer o6)] w16 (fun e32 w33 =>
                        ∃ o34 : Option Addr, ∃ l35 : Nat, ∃ l36 : Nat, ∃ n37 : Int, e32 = .returned (.tuple #[(.slice o34 l35 l36), (.int .i64 n37)]) ∧
                        (((n37 ≠ 0 →
                          R (.returned (.bool (decide (n37 = 17)))) w33)) ∧
                         ((n37 = 0 →
                          ∃ (I38 : Option Addr → Nat → Nat → Int → World → Prop) (μ38 : Option Addr → Nat → Nat → Int → World → Nat), I38 none 0 0 0 w33 ∧
                          (∀ (o39 : Option Addr) (l39 : Nat) (c39 : Nat) (n40 : Int) (j41 : Nat → Value) (w41 : World), I38 o39 l39 c39 n40 w41 →
                            (((n40 < ((l35 : Nat) : Int) →
                              ∃ d42 : Addr, o34 = some d42 ∧
                              ((0 : Int) ≤ n40 ∧ n40 < ((l35 : Nat) : Int)) ∧
                              ∃ s43 : ByteArray, World.cell? w41 (Addr.add d42 (Int.toNat n40)) = some (.string s43) ∧
                              Calls Try.prog 16 #[(.pointer o6), (.string s43)] w41 (fun e44 w45 =>
                                ∃ o46 : Option Addr, ∃ l47 : Nat, ∃ l48 : Nat, ∃ n49 : Int, e44 = .returned (.tuple #[(.slice o46 l47 l48), (.int .i64 n49)]) ∧
                                ∀ (d50 : Addr) (w51 : World), IsNew w45 30 #[(.slice o46 l47 l48)] d50 w51 →
                                ∃ (v52 : Value) (w53 : World), Sem.run Try.prog (builtinV .append #[22, 22] 22 #[(.slice o39 l39 c39), (.slice (some d50) 1 1)]) w51 = .ok v52 w53 ∧
                                ∃ o54 : Option Addr, ∃ l55 : Nat, ∃ l56 : Nat, v52 = (.slice o54 l55 l56) ∧
                                I38 o54 l55 l56 (IntKind.wrap .i64 (n40 + 1)) w53 ∧ μ38 o54 l55 l56 (IntKind.wrap .i64 (n40 + 1)) w53 < μ38 o39 l39 c39 n40 w41))) ∧
                             ((¬ n40 < ((l35 : Nat) : Int) →
                              ∀ (d57 : Addr) (w58 : World), IsNew w41 37 #[(.int .i64 0), (.slice none 0 0)] d57 w58 →
                              CanSet w58 d57 (.int .i64 1000) ∧ ∀ w59 : World, IsSet w58 d57 (.int .i64 1000) w59 →
                              CanSet w59 (Addr.add d57 1) (.slice none 0 0) ∧ ∀ w60 : World, IsSet w59 (Addr.add d57 1) (.slice none 0 0) w60 →
                              ∃ (I61 : Int → World → Prop) (μ61 : Int → World → Nat), I61 0 w60 ∧
                              (∀ (n62 : Int) (j63 : Nat → Value) (w63 : World), I61 n62 w63 →
                                (((n62 < 100 →
                                  ∃ o64 : Option Addr, ∃ l65 : Nat, ∃ l66 : Nat, World.cell? w63 (Addr.add d57 1) = some (.slice o64 l65 l66) ∧
                                  ∀ (d67 : Addr) (w68 : World), IsNew w63 3 #[(.int .i64 1099511627776)] d67 w68 →
                                  ∃ (v69 : Value) (w70 : World), Sem.run Try.prog (builtinV .append #[35, 35] 35 #[(.slice o64 l65 l66), (.slice (some d67) 1 1)]) w68 = .ok v69 w70 ∧
                                  ∃ o71 : Option Addr, ∃ l72 : Nat, ∃ l73 : Nat, v69 = (.slice o71 l72 l73) ∧
                                  CanSet w70 (Addr.add d57 1) (.slice o71 l72 l73) ∧ ∀ w74 : World, IsSet w70 (Addr.add d57 1) (.slice o71 l72 l73) w74 →
                                  I61 (IntKind.wrap .i64 (n62 + 1)) w74 ∧ μ61 (IntKind.wrap .i64 (n62 + 1)) w74 < μ61 n62 w63)) ∧
                                 ((¬ n62 < 100 →
                                  Calls Try.prog 12 #[(.pointer o6)] w63 (fun e75 w76 =>
                                    ∃ n77 : Int, e75 = .returned (.int .i64 n77) ∧
                                    ∃ n78 : Int, ∃ o79 : Option Addr, ∃ l80 : Nat, ∃ l81 : Nat, World.cell? w76 d57 = some (.int .i64 n78) ∧
                                    World.cell? w76 (Addr.add d57 1) = some (.slice o79 l80 l81) ∧
                                    Calls Try.prog 15 #[(.pointer o6), (.agg #[(.int .i64 n78), (.slice o79 l80 l81)])] w76 (fun e82 w83 =>
                                      e82 = .returned (.tuple #[]) ∧
                                      Calls Try.prog 19 #[(.pointer o6)] w83 (fun e84 w85 =>
                                        ∃ o86 : Option Addr, ∃ l87 : Nat, ∃ l88 : Nat, ∃ n89 : Int, e84 = .returned (.tuple #[(.slice o86 l87 l88), (.int .i64 n89)]) ∧
                                        (((n89 ≠ 0 →
                                          R (.returned (.bool false)) w85)) ∧
                                         ((n89 = 0 →
                                          Calls Try.prog 25 #[(.slice o34 l35 l36), (.slice o86 l87 l88)] w85 (fun e90 w91 =>
                                            ∃ b92 : Bool, e90 = .returned (.bool b92) ∧
                                            (((b92 = false →
                                              R (.returned (.bool false)) w91)) ∧
                                             ((b92 = true →
                                              Calls Try.prog 12 #[(.pointer o6)] w91 (fun e93 w94 =>
                                                ∃ n95 : Int, e93 = .returned (.int .i64 n95) ∧
                                                (((n95 ≠ n77 →
                                                  R (.returned (.bool false)) w94)) ∧
                                                 ((n95 = n77 →
                                                  ∃ (I96 : Int → World → Prop) (μ96 : Int → World → Nat), I96 0 w94 ∧
                                                  (∀ (n97 : Int) (j98 : Nat → Value) (w98 : World), I96 n97 w98 →
                                                    (((n97 < ((l35 : Nat) : Int) →
                                                      ∃ d99 : Addr, o34 = some d99 ∧
                                                      ((0 : Int) ≤ n97 ∧ n97 < ((l35 : Nat) : Int)) ∧
                                                      ∃ s100 : ByteArray, World.cell? w98 (Addr.add d99 (Int.toNat n97)) = some (.string s100) ∧
                                                      Calls Try.prog 16 #[(.pointer o6), (.string s100)] w98 (fun e101 w102 =>
                                                        ∃ o103 : Option Addr, ∃ l104 : Nat, ∃ l105 : Nat, ∃ n106 : Int, e101 = .returned (.tuple #[(.slice o103 l104 l105), (.int .i64 n106)]) ∧
                                                        (((n106 ≠ 0 →
                                                          R (.returned (.bool false)) w102)) ∧
                                                         ((n106 = 0 →
                                                          ∃ d107 : Addr, o39 = some d107 ∧
                                                          ((0 : Int) ≤ n97 ∧ n97 < ((l39 : Nat) : Int)) ∧
                                                          ∃ o108 : Option Addr, ∃ l109 : Nat, ∃ l110 : Nat, World.cell? w102 (Addr.add d107 (Int.toNat n97)) = some (.slice o108 l109 l110) ∧
                                                          Calls Try.prog 17 #[(.slice o103 l104 l105), (.slice o108 l109 l110)] w102 (fun e111 w112 =>
                                                            ∃ b113 : Bool, e111 = .returned (.bool b113) ∧
                                                            (((b113 = false →
                                                              R (.returned (.bool false)) w112)) ∧
                                                             ((b113 = true →
                                                              I96 (IntKind.wrap .i64 (n97 + 1)) w112 ∧ μ96 (IntKind.wrap .i64 (n97 + 1)) w112 < μ96 n97 w98)))))))))) ∧
                                                     ((¬ n97 < ((l35 : Nat) : Int) →
                                                      R (.returned (.bool true)) w98))))))))))))))))))))))))))))))))))))))))))))))))))
theorem morainelaw1_DiskWhole.vc (o0 : Option Addr) (l0 : Nat) (c0 : Nat) (w : World) (R : Ending → World → Prop) (h : morainelaw1_DiskWhole.Vc o0 l0 c0 w R) : Calls Try.prog 7 #[(.slice o0 l0 c0)] w R :=
  execF_sound (ann := [(8, [(6, .cell (.int .i64))]), (16, [(8, .cell (.slice)), (9, .cell (.int .i64))]), (22, [(13, .cell (.int .i64))]), (31, [(16, .cell (.int .i64))])]) (args := [.slice o0 l0 c0]) Try.func7 mixed (Eq.mp (by kernel_rfl : morainelaw1_DiskWhole.Vc o0 l0 c0 w R = execF (pA Try.prog R) Try.prog [(8, [(6, .cell (.int .i64))]), (16, [(8, .cell (.slice)), (9, .cell (.int .i64))]), (22, [(13, .cell (.int .i64))]), (31, [(16, .cell (.int .i64))])] Try.f7 [.slice o0 l0 c0] w) h)

/-! moraine/morainelaw1.few: 20 -/
abbrev morainelaw1_few.n : Nat := 20
def morainelaw1_few.Vc (o0 : Option Addr) (l0 : Nat) (c0 : Nat) (w : World) (R : Ending → World → Prop) : Prop :=
  (((((l0 : Nat) : Int) > 60 →
    R (.returned (.bool false)) w)) ∧
   ((¬ ((l0 : Nat) : Int) > 60 →
    ∃ (I1 : Int → World → Prop) (μ1 : Int → World → Nat), I1 0 w ∧
    (∀ (n2 : Int) (j3 : Nat → Value) (w3 : World), I1 n2 w3 →
      (((n2 < ((l0 : Nat) : Int) →
        ∃ d4 : Addr, o0 = some d4 ∧
        ((0 : Int) ≤ n2 ∧ n2 < ((l0 : Nat) : Int)) ∧
        ∃ o5 : Option Addr, ∃ l6 : Nat, ∃ l7 : Nat, World.cell? w3 (Addr.add (Addr.add d4 ((Int.toNat n2) * 7)) 4) = some (.slice o5 l6 l7) ∧
        (((((l6 : Nat) : Int) > 200 →
          R (.returned (.bool false)) w3)) ∧
         ((¬ ((l6 : Nat) : Int) > 200 →
          ∃ d8 : Addr, o0 = some d8 ∧
          ((0 : Int) ≤ n2 ∧ n2 < ((l0 : Nat) : Int)) ∧
          ∃ o9 : Option Addr, ∃ l10 : Nat, ∃ l11 : Nat, World.cell? w3 (Addr.add (Addr.add (Addr.add d8 ((Int.toNat n2) * 7)) 5) 1) = some (.slice o9 l10 l11) ∧
          (((((l10 : Nat) : Int) > 200 →
            R (.returned (.bool false)) w3)) ∧
           ((¬ ((l10 : Nat) : Int) > 200 →
            I1 (IntKind.wrap .i64 (n2 + 1)) w3 ∧ μ1 (IntKind.wrap .i64 (n2 + 1)) w3 < μ1 n2 w3)))))))) ∧
       ((¬ n2 < ((l0 : Nat) : Int) →
        R (.returned (.bool true)) w3)))))))
theorem morainelaw1_few.vc (o0 : Option Addr) (l0 : Nat) (c0 : Nat) (w : World) (R : Ending → World → Prop) (h : morainelaw1_few.Vc o0 l0 c0 w R) : Calls Try.prog 20 #[(.slice o0 l0 c0)] w R :=
  execF_sound (ann := [(4, [(3, .cell (.int .i64))])]) (args := [.slice o0 l0 c0]) Try.func20 mixed (Eq.mp (by kernel_rfl : morainelaw1_few.Vc o0 l0 c0 w R = execF (pA Try.prog R) Try.prog [(4, [(3, .cell (.int .i64))])] Try.f20 [.slice o0 l0 c0] w) h)

/-! moraine/moraineref1.New: 21 -/
abbrev moraineref1_New.n : Nat := 21
def moraineref1_New.Vc (n0 : Int) (w : World) (R : Ending → World → Prop) : Prop :=
  ∀ (d1 : Addr) (w2 : World), IsNew w 87 (setsAt (setsAt #[(.int .i64 0), (.slice none 0 0), (.slice none 0 0), (.slice none 0 0), (.int .i64 0), (.int .i64 0), (.int .i64 0), (.int .i64 0), (.bool false)] 0 [(.int .i64 n0)]) 7 [(.int .i64 (-1))]) d1 w2 →
  R (.returned (.pointer (some d1))) w2
theorem moraineref1_New.vc (n0 : Int) (w : World) (R : Ending → World → Prop) (h : moraineref1_New.Vc n0 w R) : Calls Try.prog 21 #[(.int .i64 n0)] w R :=
  execF_sound (ann := []) (args := [.int .i64 n0]) Try.func21 mixed (Eq.mp (by kernel_rfl : moraineref1_New.Vc n0 w R = execF (pA Try.prog R) Try.prog [] Try.f21 [.int .i64 n0] w) h)

/-! moraine/morainelaw1.does: 22 -/
abbrev morainelaw1_does.n : Nat := 22
def morainelaw1_does.Vc (d0 : Addr) (d1 : Addr) (n2 : Int) (s3 : ByteArray) (s4 : ByteArray) (n5 : Int) (o6 : Option Addr) (l6 : Nat) (c6 : Nat) (n7 : Int) (o8 : Option Addr) (l8 : Nat) (c8 : Nat) (w : World) (R : Ending → World → Prop) : Prop :=
  ∀ (d9 : Addr) (w10 : World), IsNew w 53 #[(.int .i64 n2), (.string s3), (.string s4), (.int .i64 n5), (.slice o6 l6 c6), (.int .i64 n7), (.slice o8 l8 c8)] d9 w10 →
  ∃ n11 : Int, World.cell? w10 d9 = some (.int .i64 n11) ∧
  (((n11 = 0 →
    ∀ w12 : World, IsDrew w10 w12 →
    ∃ s13 : ByteArray, World.cell? w12 (Addr.add d9 1) = some (.string s13) ∧
    ∃ s14 : ByteArray, World.cell? w12 (Addr.add d9 1) = some (.string s14) ∧
    Calls Try.prog 10 #[(.pointer (some d0)), (.string s13)] w12 (fun e15 w16 =>
      ∃ n17 : Int, e15 = .returned (.int .i64 n17) ∧
      World.cell? w16 (Addr.add d9 1) = some (.string s14) ∧
      Calls Try.prog 37 #[(.pointer (some d1)), (.string s14)] w16 (fun e18 w19 =>
        ∃ n20 : Int, e18 = .returned (.int .i64 n20) ∧
        R (.returned (.bool (decide (n17 = n20)))) w19)))) ∧
   ((n11 ≠ 0 →
    (((n11 = 1 →
      ∃ o21 : Option Addr, ∃ l22 : Nat, ∃ l23 : Nat, World.cell? w10 (Addr.add d9 4) = some (.slice o21 l22 l23) ∧
      ∃ (v24 : Value) (w25 : World), Sem.run Try.prog (builtinV .append #[30, 30] 30 #[(.slice none 0 0), (.slice o21 l22 l23)]) w10 = .ok v24 w25 ∧
      ∃ o26 : Option Addr, ∃ l27 : Nat, ∃ l28 : Nat, v24 = (.slice o26 l27 l28) ∧
      ∀ w29 : World, IsDrew w25 w29 →
      ∃ s30 : ByteArray, World.cell? w29 (Addr.add d9 1) = some (.string s30) ∧
      ∃ s31 : ByteArray, World.cell? w29 (Addr.add d9 1) = some (.string s31) ∧
      ∃ o32 : Option Addr, ∃ l33 : Nat, ∃ l34 : Nat, World.cell? w29 (Addr.add d9 4) = some (.slice o32 l33 l34) ∧
      Calls Try.prog 11 #[(.pointer (some d0)), (.string s30), (.slice o26 l27 l28)] w29 (fun e35 w36 =>
        ∃ n37 : Int, e35 = .returned (.int .i64 n37) ∧
        World.cell? w36 (Addr.add d9 4) = some (.slice o32 l33 l34) ∧
        World.cell? w36 (Addr.add d9 1) = some (.string s31) ∧
        Calls Try.prog 38 #[(.pointer (some d1)), (.string s31), (.slice o32 l33 l34)] w36 (fun e38 w39 =>
          ∃ n40 : Int, e38 = .returned (.int .i64 n40) ∧
          Calls Try.prog 39 #[(.slice o26 l27 l28)] w39 (fun e41 w42 =>
            e41 = .returned (.tuple #[]) ∧
            R (.returned (.bool (decide (n37 = n40)))) w42))))) ∧
     ((n11 ≠ 1 →
      (((n11 = 2 →
        ∃ o43 : Option Addr, ∃ l44 : Nat, ∃ l45 : Nat, World.cell? w10 (Addr.add d9 4) = some (.slice o43 l44 l45) ∧
        ∃ (v46 : Value) (w47 : World), Sem.run Try.prog (builtinV .append #[30, 30] 30 #[(.slice none 0 0), (.slice o43 l44 l45)]) w10 = .ok v46 w47 ∧
        ∃ o48 : Option Addr, ∃ l49 : Nat, ∃ l50 : Nat, v46 = (.slice o48 l49 l50) ∧
        ∀ w51 : World, IsDrew w47 w51 →
        ∃ s52 : ByteArray, World.cell? w51 (Addr.add d9 1) = some (.string s52) ∧
        ∃ n53 : Int, World.cell? w51 (Addr.add d9 3) = some (.int .i64 n53) ∧
        ∃ s54 : ByteArray, World.cell? w51 (Addr.add d9 1) = some (.string s54) ∧
        ∃ n55 : Int, World.cell? w51 (Addr.add d9 3) = some (.int .i64 n55) ∧
        ∃ o56 : Option Addr, ∃ l57 : Nat, ∃ l58 : Nat, World.cell? w51 (Addr.add d9 4) = some (.slice o56 l57 l58) ∧
        Calls Try.prog 40 #[(.pointer (some d0)), (.string s52), (.int .i64 n53), (.slice o48 l49 l50)] w51 (fun e59 w60 =>
          ∃ n61 : Int, e59 = .returned (.int .i64 n61) ∧
          World.cell? w60 (Addr.add d9 4) = some (.slice o56 l57 l58) ∧
          World.cell? w60 (Addr.add d9 3) = some (.int .i64 n55) ∧
          World.cell? w60 (Addr.add d9 1) = some (.string s54) ∧
          Calls Try.prog 41 #[(.pointer (some d1)), (.string s54), (.int .i64 n55), (.slice o56 l57 l58)] w60 (fun e62 w63 =>
            ∃ n64 : Int, e62 = .returned (.int .i64 n64) ∧
            Calls Try.prog 39 #[(.slice o48 l49 l50)] w63 (fun e65 w66 =>
              e65 = .returned (.tuple #[]) ∧
              R (.returned (.bool (decide (n61 = n64)))) w66))))) ∧
       ((n11 ≠ 2 →
        (((n11 = 3 →
          ∀ w67 : World, IsDrew w10 w67 →
          ∃ s68 : ByteArray, World.cell? w67 (Addr.add d9 1) = some (.string s68) ∧
          ∃ n69 : Int, World.cell? w67 (Addr.add d9 3) = some (.int .i64 n69) ∧
          ∃ s70 : ByteArray, World.cell? w67 (Addr.add d9 1) = some (.string s70) ∧
          ∃ n71 : Int, World.cell? w67 (Addr.add d9 3) = some (.int .i64 n71) ∧
          Calls Try.prog 42 #[(.pointer (some d0)), (.string s68), (.int .i64 n69)] w67 (fun e72 w73 =>
            ∃ n74 : Int, e72 = .returned (.int .i64 n74) ∧
            World.cell? w73 (Addr.add d9 3) = some (.int .i64 n71) ∧
            World.cell? w73 (Addr.add d9 1) = some (.string s70) ∧
            Calls Try.prog 43 #[(.pointer (some d1)), (.string s70), (.int .i64 n71)] w73 (fun e75 w76 =>
              ∃ n77 : Int, e75 = .returned (.int .i64 n77) ∧
              R (.returned (.bool (decide (n74 = n77)))) w76)))) ∧
         ((n11 ≠ 3 →
          (((n11 = 4 →
            ∀ w78 : World, IsDrew w10 w78 →
            ∃ s79 : ByteArray, World.cell? w78 (Addr.add d9 1) = some (.string s79) ∧
            ∃ s80 : ByteArray, World.cell? w78 (Addr.add d9 1) = some (.string s80) ∧
            Calls Try.prog 13 #[(.pointer (some d0)), (.string s79)] w78 (fun e81 w82 =>
              ∃ n83 : Int, e81 = .returned (.int .i64 n83) ∧
              World.cell? w82 (Addr.add d9 1) = some (.string s80) ∧
              Calls Try.prog 44 #[(.pointer (some d1)), (.string s80)] w82 (fun e84 w85 =>
                ∃ n86 : Int, e84 = .returned (.int .i64 n86) ∧
                R (.returned (.bool (decide (n83 = n86)))) w85)))) ∧
           ((n11 ≠ 4 →
            (((n11 = 5 →
              ∀ w87 : World, IsDrew w10 w87 →
              ∃ s88 : ByteArray, World.cell? w87 (Addr.add d9 1) = some (.string s88) ∧
              ∃ s89 : ByteArray, World.cell? w87 (Addr.add d9 2) = some (.string s89) ∧
              ∃ s90 : ByteArray, World.cell? w87 (Addr.add d9 1) = some (.string s90) ∧
              ∃ s91 : ByteArray, World.cell? w87 (Addr.add d9 2) = some (.string s91) ∧
              Calls Try.prog 18 #[(.pointer (some d0)), (.string s88), (.string s89)] w87 (fun e92 w93 =>
                ∃ n94 : Int, e92 = .returned (.int .i64 n94) ∧
                World.cell? w93 (Addr.add d9 2) = some (.string s91) ∧
                World.cell? w93 (Addr.add d9 1) = some (.string s90) ∧
                Calls Try.prog 45 #[(.pointer (some d1)), (.string s90), (.string s91)] w93 (fun e95 w96 =>
                  ∃ n97 : Int, e95 = .returned (.int .i64 n97) ∧
                  R (.returned (.bool (decide (n94 = n97)))) w96)))) ∧
             ((n11 ≠ 5 →
              (((n11 = 6 →
                ∀ w98 : World, IsDrew w10 w98 →
                ∃ s99 : ByteArray, World.cell? w98 (Addr.add d9 1) = some (.string s99) ∧
                ∃ s100 : ByteArray, World.cell? w98 (Addr.add d9 1) = some (.string s100) ∧
                Calls Try.prog 46 #[(.pointer (some d0)), (.string s99)] w98 (fun e101 w102 =>
                  ∃ n103 : Int, e101 = .returned (.int .i64 n103) ∧
                  World.cell? w102 (Addr.add d9 1) = some (.string s100) ∧
                  Calls Try.prog 47 #[(.pointer (some d1)), (.string s100)] w102 (fun e104 w105 =>
                    ∃ n106 : Int, e104 = .returned (.int .i64 n106) ∧
                    R (.returned (.bool (decide (n103 = n106)))) w105)))) ∧
               ((n11 ≠ 6 →
                (((n11 = 7 →
                  Calls Try.prog 14 #[(.pointer (some d0))] w10 (fun e107 w108 =>
                    ∃ n109 : Int, e107 = .returned (.int .i64 n109) ∧
                    Calls Try.prog 48 #[(.pointer (some d1))] w108 (fun e110 w111 =>
                      ∃ n112 : Int, e110 = .returned (.int .i64 n112) ∧
                      R (.returned (.bool (decide (n109 = n112)))) w111)))) ∧
                 ((n11 ≠ 7 →
                  (((n11 = 8 →
                    ∃ n113 : Int, World.cell? w10 (Addr.add d9 3) = some (.int .i64 n113) ∧
                    Calls Try.prog 23 #[(.pointer (some d0)), (.int .i64 n113)] w10 (fun e114 w115 =>
                      e114 = .returned (.tuple #[]) ∧
                      ∃ n116 : Int, World.cell? w115 (Addr.add d9 3) = some (.int .i64 n116) ∧
                      Calls Try.prog 49 #[(.pointer (some d1)), (.int .i64 n116)] w115 (fun e117 w118 =>
                        e117 = .returned (.tuple #[]) ∧
                        R (.returned (.bool true)) w118)))) ∧
                   ((n11 ≠ 8 →
                    (((n11 = 9 →
                      ∃ n119 : Int, World.cell? w10 (Addr.add d9 3) = some (.int .i64 n119) ∧
                      Calls Try.prog 24 #[(.pointer (some d0)), (.int .i64 n119)] w10 (fun e120 w121 =>
                        e120 = .returned (.tuple #[]) ∧
                        ∃ n122 : Int, World.cell? w121 (Addr.add d9 3) = some (.int .i64 n122) ∧
                        Calls Try.prog 50 #[(.pointer (some d1)), (.int .i64 n122)] w121 (fun e123 w124 =>
                          e123 = .returned (.tuple #[]) ∧
                          R (.returned (.bool true)) w124)))) ∧
                     ((n11 ≠ 9 →
                      (((n11 = 10 →
                        ∃ n125 : Int, ∃ o126 : Option Addr, ∃ l127 : Nat, ∃ l128 : Nat, World.cell? w10 (Addr.add d9 5) = some (.int .i64 n125) ∧
                        World.cell? w10 (Addr.add (Addr.add d9 5) 1) = some (.slice o126 l127 l128) ∧
                        Calls Try.prog 15 #[(.pointer (some d0)), (.agg #[(.int .i64 n125), (.slice o126 l127 l128)])] w10 (fun e129 w130 =>
                          e129 = .returned (.tuple #[]) ∧
                          ∃ n131 : Int, ∃ o132 : Option Addr, ∃ l133 : Nat, ∃ l134 : Nat, World.cell? w130 (Addr.add d9 5) = some (.int .i64 n131) ∧
                          World.cell? w130 (Addr.add (Addr.add d9 5) 1) = some (.slice o132 l133 l134) ∧
                          Calls Try.prog 51 #[(.pointer (some d1)), (.agg #[(.int .i64 n131), (.slice o132 l133 l134)])] w130 (fun e135 w136 =>
                            e135 = .returned (.tuple #[]) ∧
                            R (.returned (.bool true)) w136)))) ∧
                       ((n11 ≠ 10 →
                        (((n11 = 11 →
                          ∃ s137 : ByteArray, World.cell? w10 (Addr.add d9 1) = some (.string s137) ∧
                          ∃ n138 : Int, World.cell? w10 (Addr.add d9 3) = some (.int .i64 n138) ∧
                          ∃ o139 : Option Addr, ∃ l140 : Nat, ∃ l141 : Nat, World.cell? w10 (Addr.add d9 4) = some (.slice o139 l140 l141) ∧
                          Calls Try.prog 52 #[(.pointer (some d0)), (.string s137), (.int .i64 n138), (.int .i64 ((l140 : Nat) : Int))] w10 (fun e142 w143 =>
                            ∃ o144 : Option Addr, ∃ l145 : Nat, ∃ l146 : Nat, ∃ n147 : Int, e142 = .returned (.tuple #[(.slice o144 l145 l146), (.int .i64 n147)]) ∧
                            ∃ s148 : ByteArray, World.cell? w143 (Addr.add d9 1) = some (.string s148) ∧
                            ∃ n149 : Int, World.cell? w143 (Addr.add d9 3) = some (.int .i64 n149) ∧
                            ∃ o150 : Option Addr, ∃ l151 : Nat, ∃ l152 : Nat, World.cell? w143 (Addr.add d9 4) = some (.slice o150 l151 l152) ∧
                            Calls Try.prog 53 #[(.pointer (some d1)), (.string s148), (.int .i64 n149), (.int .i64 ((l151 : Nat) : Int))] w143 (fun e153 w154 =>
                              ∃ o155 : Option Addr, ∃ l156 : Nat, ∃ l157 : Nat, ∃ n158 : Int, e153 = .returned (.tuple #[(.slice o155 l156 l157), (.int .i64 n158)]) ∧
                              (((n147 = n158 →
                                Calls Try.prog 17 #[(.slice o144 l145 l146), (.slice o155 l156 l157)] w154 (fun e159 w160 =>
                                  ∃ b161 : Bool, e159 = .returned (.bool b161) ∧
                                  Calls Try.prog 39 #[(.slice o144 l145 l146)] w160 (fun e162 w163 =>
                                    e162 = .returned (.tuple #[]) ∧
                                    R (.returned (.bool b161)) w163)))) ∧
                               ((n147 ≠ n158 →
                                Calls Try.prog 39 #[(.slice o144 l145 l146)] w154 (fun e164 w165 =>
                                  e164 = .returned (.tuple #[]) ∧
                                  R (.returned (.bool false)) w165)))))))) ∧
                         ((n11 ≠ 11 →
                          R (.returned (.bool true)) w10))))))))))))))))))))))))))))))))))))
theorem morainelaw1_does.vc (d0 : Addr) (d1 : Addr) (n2 : Int) (s3 : ByteArray) (s4 : ByteArray) (n5 : Int) (o6 : Option Addr) (l6 : Nat) (c6 : Nat) (n7 : Int) (o8 : Option Addr) (l8 : Nat) (c8 : Nat) (w : World) (R : Ending → World → Prop) (h : morainelaw1_does.Vc d0 d1 n2 s3 s4 n5 o6 l6 c6 n7 o8 l8 c8 w R) : Calls Try.prog 22 #[(.pointer (some d0)), (.pointer (some d1)), (.agg #[(.int .i64 n2), (.string s3), (.string s4), (.int .i64 n5), (.slice o6 l6 c6), (.int .i64 n7), (.slice o8 l8 c8)])] w R :=
  execF_sound (ann := []) (args := [.addr d0, .addr d1, .agg [.int .i64 n2, .str s3, .str s4, .int .i64 n5, .slice o6 l6 c6, .int .i64 n7, .slice o8 l8 c8]]) Try.func22 mixed (Eq.mp (by kernel_rfl : morainelaw1_does.Vc d0 d1 n2 s3 s4 n5 o6 l6 c6 n7 o8 l8 c8 w R = execF (pA Try.prog R) Try.prog [] Try.f22 [.addr d0, .addr d1, .agg [.int .i64 n2, .str s3, .str s4, .int .i64 n5, .slice o6 l6 c6, .int .i64 n7, .slice o8 l8 c8]] w) h)

/-! (*moraine/moraineref1.Disk).Create: 37 -/
abbrev moraineref1_Disk_Create.n : Nat := 37
def moraineref1_Disk_Create.Vc (d0 : Addr) (s1 : ByteArray) (w : World) (R : Ending → World → Prop) : Prop :=
  Calls Try.prog 60 #[(.pointer (some d0))] w (fun e2 w3 =>
    ∃ n4 : Int, e2 = .returned (.int .i64 n4) ∧
    (((n4 ≠ 0 →
      R (.returned (.int .i64 n4)) w3)) ∧
     ((n4 = 0 →
      Calls Try.prog 61 #[(.string s1)] w3 (fun e5 w6 =>
        ∃ b7 : Bool, e5 = .returned (.bool b7) ∧
        (((b7 = false →
          R (.returned (.int .i64 11)) w6)) ∧
         ((b7 = true →
          ∃ o8 : Option Addr, ∃ l9 : Nat, ∃ l10 : Nat, World.cell? w6 (Addr.add d0 1) = some (.slice o8 l9 l10) ∧
          Calls Try.prog 62 #[(.slice o8 l9 l10), (.string s1)] w6 (fun e11 w12 =>
            ∃ n13 : Int, e11 = .returned (.int .i64 n13) ∧
            (((n13 ≥ 0 →
              R (.returned (.int .i64 12)) w12)) ∧
             ((¬ n13 ≥ 0 →
              ∃ n14 : Int, World.cell? w12 (Addr.add d0 4) = some (.int .i64 n14) ∧
              (((n14 = 1048576 →
                R (.returned (.int .i64 15)) w12)) ∧
               ((n14 ≠ 1048576 →
                ∃ n15 : Int, World.cell? w12 (Addr.add d0 4) = some (.int .i64 n15) ∧
                ∀ (d16 : Addr) (w17 : World), IsNew w12 112 #[(.int .i64 n15), (.slice none 0 0), (.slice none 0 0), (.slice none 0 0)] d16 w17 →
                ∃ n18 : Int, World.cell? w17 (Addr.add d0 4) = some (.int .i64 n18) ∧
                CanSet w17 (Addr.add d0 4) (.int .i64 (IntKind.wrap .i64 (n18 + 1))) ∧ ∀ w19 : World, IsSet w17 (Addr.add d0 4) (.int .i64 (IntKind.wrap .i64 (n18 + 1))) w19 →
                ∀ w20 : World, IsDrew w19 w20 →
                ∃ o21 : Option Addr, ∃ l22 : Nat, ∃ l23 : Nat, World.cell? w20 (Addr.add d0 1) = some (.slice o21 l22 l23) ∧
                ∃ o24 : Option Addr, ∃ l25 : Nat, ∃ l26 : Nat, World.cell? w20 (Addr.add d0 1) = some (.slice o24 l25 l26) ∧
                ∃ o27 : Option Addr, ∃ l28 : Nat, ∃ l29 : Nat, World.cell? w20 (Addr.add d0 1) = some (.slice o27 l28 l29) ∧
                ∃ v30 : Value, Sem.run Try.prog (Instr.sliceAt 84 (.slice o21 l22 l23) none (some (.int .i64 ((l25 : Nat) : Int))) (some (.int .i64 ((l28 : Nat) : Int)))) w20 = .ok v30 w20 ∧
                ∃ o31 : Option Addr, ∃ l32 : Nat, ∃ l33 : Nat, v30 = (.slice o31 l32 l33) ∧
                ∀ (d34 : Addr) (w35 : World), IsNew w20 114 #[(.string s1), (.pointer (some d16))] d34 w35 →
                Sem.run Try.prog (Instr.sliceAt 84 (.slice o21 l22 l23) none (some (.int .i64 ((l25 : Nat) : Int))) (some (.int .i64 ((l28 : Nat) : Int)))) w35 = .ok (.slice o31 l32 l33) w35 ∧
                World.cell? w35 (Addr.add d0 1) = some (.slice o27 l28 l29) ∧
                World.cell? w35 (Addr.add d0 1) = some (.slice o24 l25 l26) ∧
                World.cell? w35 (Addr.add d0 1) = some (.slice o21 l22 l23) ∧
                ∃ (v36 : Value) (w37 : World), Sem.run Try.prog (builtinV .append #[84, 84] 84 #[(.slice o31 l32 l33), (.slice (some d34) 1 1)]) w35 = .ok v36 w37 ∧
                ∃ o38 : Option Addr, ∃ l39 : Nat, ∃ l40 : Nat, v36 = (.slice o38 l39 l40) ∧
                CanSet w37 (Addr.add d0 1) (.slice o38 l39 l40) ∧ ∀ w41 : World, IsSet w37 (Addr.add d0 1) (.slice o38 l39 l40) w41 →
                ∃ o42 : Option Addr, ∃ l43 : Nat, ∃ l44 : Nat, World.cell? w41 (Addr.add d0 3) = some (.slice o42 l43 l44) ∧
                ∀ (d45 : Addr) (w46 : World), IsNew w41 116 #[(.string s1), (.string ⟨#[]⟩), (.pointer (some d16))] d45 w46 →
                ∃ (v47 : Value) (w48 : World), Sem.run Try.prog (builtinV .append #[85, 85] 85 #[(.slice o42 l43 l44), (.slice (some d45) 1 1)]) w46 = .ok v47 w48 ∧
                ∃ o49 : Option Addr, ∃ l50 : Nat, ∃ l51 : Nat, v47 = (.slice o49 l50 l51) ∧
                CanSet w48 (Addr.add d0 3) (.slice o49 l50 l51) ∧ ∀ w52 : World, IsSet w48 (Addr.add d0 3) (.slice o49 l50 l51) w52 →
                R (.returned (.int .i64 0)) w52)))))))))))))))
theorem moraineref1_Disk_Create.vc (d0 : Addr) (s1 : ByteArray) (w : World) (R : Ending → World → Prop) (h : moraineref1_Disk_Create.Vc d0 s1 w R) : Calls Try.prog 37 #[(.pointer (some d0)), (.string s1)] w R :=
  execF_sound (ann := []) (args := [.addr d0, .str s1]) Try.func37 mixed (Eq.mp (by kernel_rfl : moraineref1_Disk_Create.Vc d0 s1 w R = execF (pA Try.prog R) Try.prog [] Try.f37 [.addr d0, .str s1] w) h)

/-! (*moraine/moraineref1.Disk).Append: 38 -/
abbrev moraineref1_Disk_Append.n : Nat := 38
def moraineref1_Disk_Append.Vc (d0 : Addr) (s1 : ByteArray) (o2 : Option Addr) (l2 : Nat) (c2 : Nat) (w : World) (R : Ending → World → Prop) : Prop :=
  Calls Try.prog 63 #[(.pointer (some d0)), (.string s1)] w (fun e3 w4 =>
    ∃ o5 : Option Addr, ∃ n6 : Int, e3 = .returned (.tuple #[(.pointer o5), (.int .i64 n6)]) ∧
    (((n6 ≠ 0 →
      R (.returned (.int .i64 n6)) w4)) ∧
     ((n6 = 0 →
      ∃ d7 : Addr, o5 = some d7 ∧
      ∃ o8 : Option Addr, ∃ l9 : Nat, ∃ l10 : Nat, World.cell? w4 (Addr.add d7 1) = some (.slice o8 l9 l10) ∧
      Calls Try.prog 64 #[(.pointer (some d0)), (.pointer o5), (.int .i64 ((l9 : Nat) : Int)), (.slice o2 l2 c2)] w4 (fun e11 w12 =>
        ∃ n13 : Int, e11 = .returned (.int .i64 n13) ∧
        R (.returned (.int .i64 n13)) w12)))))
theorem moraineref1_Disk_Append.vc (d0 : Addr) (s1 : ByteArray) (o2 : Option Addr) (l2 : Nat) (c2 : Nat) (w : World) (R : Ending → World → Prop) (h : moraineref1_Disk_Append.Vc d0 s1 o2 l2 c2 w R) : Calls Try.prog 38 #[(.pointer (some d0)), (.string s1), (.slice o2 l2 c2)] w R :=
  execF_sound (ann := []) (args := [.addr d0, .str s1, .slice o2 l2 c2]) Try.func38 mixed (Eq.mp (by kernel_rfl : moraineref1_Disk_Append.Vc d0 s1 o2 l2 c2 w R = execF (pA Try.prog R) Try.prog [] Try.f38 [.addr d0, .str s1, .slice o2 l2 c2] w) h)

/-! (*moraine/moraineref1.Disk).WriteAt: 41 -/
abbrev moraineref1_Disk_WriteAt.n : Nat := 41
def moraineref1_Disk_WriteAt.Vc (d0 : Addr) (s1 : ByteArray) (n2 : Int) (o3 : Option Addr) (l3 : Nat) (c3 : Nat) (w : World) (R : Ending → World → Prop) : Prop :=
  Calls Try.prog 63 #[(.pointer (some d0)), (.string s1)] w (fun e4 w5 =>
    ∃ o6 : Option Addr, ∃ n7 : Int, e4 = .returned (.tuple #[(.pointer o6), (.int .i64 n7)]) ∧
    (((n7 ≠ 0 →
      R (.returned (.int .i64 n7)) w5)) ∧
     ((n7 = 0 →
      (((n2 < 0 →
        R (.returned (.int .i64 14)) w5)) ∧
       ((¬ n2 < 0 →
        ∃ d8 : Addr, o6 = some d8 ∧
        ∃ o9 : Option Addr, ∃ l10 : Nat, ∃ l11 : Nat, World.cell? w5 (Addr.add d8 1) = some (.slice o9 l10 l11) ∧
        (((n2 > ((l10 : Nat) : Int) →
          R (.returned (.int .i64 14)) w5)) ∧
         ((¬ n2 > ((l10 : Nat) : Int) →
          Calls Try.prog 64 #[(.pointer (some d0)), (.pointer o6), (.int .i64 n2), (.slice o3 l3 c3)] w5 (fun e12 w13 =>
            ∃ n14 : Int, e12 = .returned (.int .i64 n14) ∧
            R (.returned (.int .i64 n14)) w13)))))))))))
theorem moraineref1_Disk_WriteAt.vc (d0 : Addr) (s1 : ByteArray) (n2 : Int) (o3 : Option Addr) (l3 : Nat) (c3 : Nat) (w : World) (R : Ending → World → Prop) (h : moraineref1_Disk_WriteAt.Vc d0 s1 n2 o3 l3 c3 w R) : Calls Try.prog 41 #[(.pointer (some d0)), (.string s1), (.int .i64 n2), (.slice o3 l3 c3)] w R :=
  execF_sound (ann := []) (args := [.addr d0, .str s1, .int .i64 n2, .slice o3 l3 c3]) Try.func41 mixed (Eq.mp (by kernel_rfl : moraineref1_Disk_WriteAt.Vc d0 s1 n2 o3 l3 c3 w R = execF (pA Try.prog R) Try.prog [] Try.f41 [.addr d0, .str s1, .int .i64 n2, .slice o3 l3 c3] w) h)

/-! (*moraine/moraineref1.Disk).Truncate: 43 -/
abbrev moraineref1_Disk_Truncate.n : Nat := 43
def moraineref1_Disk_Truncate.Vc (d0 : Addr) (s1 : ByteArray) (n2 : Int) (w : World) (R : Ending → World → Prop) : Prop :=
  Calls Try.prog 63 #[(.pointer (some d0)), (.string s1)] w (fun e3 w4 =>
    ∃ o5 : Option Addr, ∃ n6 : Int, e3 = .returned (.tuple #[(.pointer o5), (.int .i64 n6)]) ∧
    (((n6 ≠ 0 →
      R (.returned (.int .i64 n6)) w4)) ∧
     ((n6 = 0 →
      (((n2 < 0 →
        R (.returned (.int .i64 14)) w4)) ∧
       ((¬ n2 < 0 →
        ∃ d7 : Addr, o5 = some d7 ∧
        ∃ o8 : Option Addr, ∃ l9 : Nat, ∃ l10 : Nat, World.cell? w4 (Addr.add d7 1) = some (.slice o8 l9 l10) ∧
        (((n2 > ((l9 : Nat) : Int) →
          R (.returned (.int .i64 14)) w4)) ∧
         ((¬ n2 > ((l9 : Nat) : Int) →
          ∃ d11 : Addr, o5 = some d11 ∧
          ∃ o12 : Option Addr, ∃ l13 : Nat, ∃ l14 : Nat, World.cell? w4 (Addr.add d11 1) = some (.slice o12 l13 l14) ∧
          (((n2 < ((l13 : Nat) : Int) →
            ∃ d15 : Addr, o5 = some d15 ∧
            ∃ o16 : Option Addr, ∃ l17 : Nat, ∃ l18 : Nat, World.cell? w4 (Addr.add d15 1) = some (.slice o16 l17 l18) ∧
            ((0 : Int) ≤ n2 ∧ n2 ≤ ((l18 : Nat) : Int)) ∧
            ∃ (v19 : Value) (w20 : World), Sem.run Try.prog (builtinV .append #[30, 30] 30 #[(.slice none 0 0), (.slice o16 (Int.toNat n2) l18)]) w4 = .ok v19 w20 ∧
            ∃ o21 : Option Addr, ∃ l22 : Nat, ∃ l23 : Nat, v19 = (.slice o21 l22 l23) ∧
            ∃ d24 : Addr, o5 = some d24 ∧
            CanSet w20 (Addr.add d24 1) (.slice o21 l22 l23) ∧ ∀ w25 : World, IsSet w20 (Addr.add d24 1) (.slice o21 l22 l23) w25 →
            ∃ d26 : Addr, o5 = some d26 ∧
            ∃ o27 : Option Addr, ∃ l28 : Nat, ∃ l29 : Nat, World.cell? w25 (Addr.add d26 3) = some (.slice o27 l28 l29) ∧
            ∀ (d30 : Addr) (w31 : World), IsNew w25 123 #[(.int .i64 (-1)), (.slice none 0 0), (.int .i64 n2)] d30 w31 →
            ∃ (v32 : Value) (w33 : World), Sem.run Try.prog (builtinV .append #[110, 110] 110 #[(.slice o27 l28 l29), (.slice (some d30) 1 1)]) w31 = .ok v32 w33 ∧
            ∃ o34 : Option Addr, ∃ l35 : Nat, ∃ l36 : Nat, v32 = (.slice o34 l35 l36) ∧
            ∃ d37 : Addr, o5 = some d37 ∧
            CanSet w33 (Addr.add d37 3) (.slice o34 l35 l36) ∧ ∀ w38 : World, IsSet w33 (Addr.add d37 3) (.slice o34 l35 l36) w38 →
            R (.returned (.int .i64 0)) w38)) ∧
           ((¬ n2 < ((l13 : Nat) : Int) →
            R (.returned (.int .i64 0)) w4)))))))))))))
theorem moraineref1_Disk_Truncate.vc (d0 : Addr) (s1 : ByteArray) (n2 : Int) (w : World) (R : Ending → World → Prop) (h : moraineref1_Disk_Truncate.Vc d0 s1 n2 w R) : Calls Try.prog 43 #[(.pointer (some d0)), (.string s1), (.int .i64 n2)] w R :=
  execF_sound (ann := []) (args := [.addr d0, .str s1, .int .i64 n2]) Try.func43 mixed (Eq.mp (by kernel_rfl : moraineref1_Disk_Truncate.Vc d0 s1 n2 w R = execF (pA Try.prog R) Try.prog [] Try.f43 [.addr d0, .str s1, .int .i64 n2] w) h)

/-! (*moraine/moraineref1.Disk).Sync: 44 -/
abbrev moraineref1_Disk_Sync.n : Nat := 44
def moraineref1_Disk_Sync.Vc (d0 : Addr) (s1 : ByteArray) (w : World) (R : Ending → World → Prop) : Prop :=
  Calls Try.prog 63 #[(.pointer (some d0)), (.string s1)] w (fun e2 w3 =>
    ∃ o4 : Option Addr, ∃ n5 : Int, e2 = .returned (.tuple #[(.pointer o4), (.int .i64 n5)]) ∧
    (((n5 ≠ 0 →
      R (.returned (.int .i64 n5)) w3)) ∧
     ((n5 = 0 →
      ∃ d6 : Addr, o4 = some d6 ∧
      ∃ o7 : Option Addr, ∃ l8 : Nat, ∃ l9 : Nat, World.cell? w3 (Addr.add d6 1) = some (.slice o7 l8 l9) ∧
      ∃ (v10 : Value) (w11 : World), Sem.run Try.prog (builtinV .append #[30, 30] 30 #[(.slice none 0 0), (.slice o7 l8 l9)]) w3 = .ok v10 w11 ∧
      ∃ o12 : Option Addr, ∃ l13 : Nat, ∃ l14 : Nat, v10 = (.slice o12 l13 l14) ∧
      ∃ d15 : Addr, o4 = some d15 ∧
      CanSet w11 (Addr.add d15 2) (.slice o12 l13 l14) ∧ ∀ w16 : World, IsSet w11 (Addr.add d15 2) (.slice o12 l13 l14) w16 →
      ∃ d17 : Addr, o4 = some d17 ∧
      CanSet w16 (Addr.add d17 3) (.slice none 0 0) ∧ ∀ w18 : World, IsSet w16 (Addr.add d17 3) (.slice none 0 0) w18 →
      R (.returned (.int .i64 0)) w18))))
theorem moraineref1_Disk_Sync.vc (d0 : Addr) (s1 : ByteArray) (w : World) (R : Ending → World → Prop) (h : moraineref1_Disk_Sync.Vc d0 s1 w R) : Calls Try.prog 44 #[(.pointer (some d0)), (.string s1)] w R :=
  execF_sound (ann := []) (args := [.addr d0, .str s1]) Try.func44 mixed (Eq.mp (by kernel_rfl : moraineref1_Disk_Sync.Vc d0 s1 w R = execF (pA Try.prog R) Try.prog [] Try.f44 [.addr d0, .str s1] w) h)

/-! (*moraine/moraineref1.Disk).Rename: 45 -/
abbrev moraineref1_Disk_Rename.n : Nat := 45
def moraineref1_Disk_Rename.Vc (d0 : Addr) (s1 : ByteArray) (s2 : ByteArray) (w : World) (R : Ending → World → Prop) : Prop :=
  Calls Try.prog 60 #[(.pointer (some d0))] w (fun e3 w4 =>
    ∃ n5 : Int, e3 = .returned (.int .i64 n5) ∧
    (((n5 ≠ 0 →
      R (.returned (.int .i64 n5)) w4)) ∧
     ((n5 = 0 →
      Calls Try.prog 61 #[(.string s1)] w4 (fun e6 w7 =>
        ∃ b8 : Bool, e6 = .returned (.bool b8) ∧
        (((b8 = false →
          R (.returned (.int .i64 11)) w7)) ∧
         ((b8 = true →
          Calls Try.prog 61 #[(.string s2)] w7 (fun e9 w10 =>
            ∃ b11 : Bool, e9 = .returned (.bool b11) ∧
            (((b11 = false →
              R (.returned (.int .i64 11)) w10)) ∧
             ((b11 = true →
              ∃ o12 : Option Addr, ∃ l13 : Nat, ∃ l14 : Nat, World.cell? w10 (Addr.add d0 1) = some (.slice o12 l13 l14) ∧
              Calls Try.prog 62 #[(.slice o12 l13 l14), (.string s1)] w10 (fun e15 w16 =>
                ∃ n17 : Int, e15 = .returned (.int .i64 n17) ∧
                (((n17 < 0 →
                  R (.returned (.int .i64 13)) w16)) ∧
                 ((¬ n17 < 0 →
                  (((strB .neq s1 s2 = true →
                    ∀ (d18 : Addr) (w19 : World), IsNew w16 116 #[(.string ⟨#[]⟩), (.string ⟨#[]⟩), (.pointer none)] d18 w19 →
                    CanSet w19 d18 (.string s1) ∧ ∀ w20 : World, IsSet w19 d18 (.string s1) w20 →
                    CanSet w20 (Addr.add d18 1) (.string s2) ∧ ∀ w21 : World, IsSet w20 (Addr.add d18 1) (.string s2) w21 →
                    CanSet w21 (Addr.add d18 2) (.pointer none) ∧ ∀ w22 : World, IsSet w21 (Addr.add d18 2) (.pointer none) w22 →
                    ∀ w23 : World, IsDrew w22 w23 →
                    ∃ o24 : Option Addr, ∃ l25 : Nat, ∃ l26 : Nat, World.cell? w23 (Addr.add d0 1) = some (.slice o24 l25 l26) ∧
                    ∃ s27 : ByteArray, ∃ s28 : ByteArray, ∃ o29 : Option Addr, World.cell? w23 d18 = some (.string s27) ∧
                    World.cell? w23 (Addr.add d18 1) = some (.string s28) ∧
                    World.cell? w23 (Addr.add d18 2) = some (.pointer o29) ∧
                    Calls Try.prog 65 #[(.slice o24 l25 l26), (.agg #[(.string s27), (.string s28), (.pointer o29)])] w23 (fun e30 w31 =>
                      ∃ o32 : Option Addr, ∃ l33 : Nat, ∃ l34 : Nat, e30 = .returned (.slice o32 l33 l34) ∧
                      CanSet w31 (Addr.add d0 1) (.slice o32 l33 l34) ∧ ∀ w35 : World, IsSet w31 (Addr.add d0 1) (.slice o32 l33 l34) w35 →
                      ∀ w36 : World, IsDrew w35 w36 →
                      ∃ o37 : Option Addr, ∃ l38 : Nat, ∃ l39 : Nat, World.cell? w36 (Addr.add d0 3) = some (.slice o37 l38 l39) ∧
                      ∃ s40 : ByteArray, ∃ s41 : ByteArray, ∃ o42 : Option Addr, World.cell? w36 d18 = some (.string s40) ∧
                      World.cell? w36 (Addr.add d18 1) = some (.string s41) ∧
                      World.cell? w36 (Addr.add d18 2) = some (.pointer o42) ∧
                      ∀ (d43 : Addr) (w44 : World), IsNew w36 116 #[(.string s40), (.string s41), (.pointer o42)] d43 w44 →
                      World.cell? w44 (Addr.add d0 3) = some (.slice o37 l38 l39) ∧
                      ∃ (v45 : Value) (w46 : World), Sem.run Try.prog (builtinV .append #[85, 85] 85 #[(.slice o37 l38 l39), (.slice (some d43) 1 1)]) w44 = .ok v45 w46 ∧
                      ∃ o47 : Option Addr, ∃ l48 : Nat, ∃ l49 : Nat, v45 = (.slice o47 l48 l49) ∧
                      CanSet w46 (Addr.add d0 3) (.slice o47 l48 l49) ∧ ∀ w50 : World, IsSet w46 (Addr.add d0 3) (.slice o47 l48 l49) w50 →
                      R (.returned (.int .i64 0)) w50))) ∧
                   ((strB .neq s1 s2 = false →
                    R (.returned (.int .i64 0)) w16)))))))))))))))))))
theorem moraineref1_Disk_Rename.vc (d0 : Addr) (s1 : ByteArray) (s2 : ByteArray) (w : World) (R : Ending → World → Prop) (h : moraineref1_Disk_Rename.Vc d0 s1 s2 w R) : Calls Try.prog 45 #[(.pointer (some d0)), (.string s1), (.string s2)] w R :=
  execF_sound (ann := []) (args := [.addr d0, .str s1, .str s2]) Try.func45 mixed (Eq.mp (by kernel_rfl : moraineref1_Disk_Rename.Vc d0 s1 s2 w R = execF (pA Try.prog R) Try.prog [] Try.f45 [.addr d0, .str s1, .str s2] w) h)

/-! (*moraine/moraineref1.Disk).Remove: 47 -/
abbrev moraineref1_Disk_Remove.n : Nat := 47
def moraineref1_Disk_Remove.Vc (d0 : Addr) (s1 : ByteArray) (w : World) (R : Ending → World → Prop) : Prop :=
  Calls Try.prog 63 #[(.pointer (some d0)), (.string s1)] w (fun e2 w3 =>
    ∃ o4 : Option Addr, ∃ n5 : Int, e2 = .returned (.tuple #[(.pointer o4), (.int .i64 n5)]) ∧
    (((n5 ≠ 0 →
      R (.returned (.int .i64 n5)) w3)) ∧
     ((n5 = 0 →
      ∀ (d6 : Addr) (w7 : World), IsNew w3 116 #[(.string ⟨#[]⟩), (.string ⟨#[]⟩), (.pointer none)] d6 w7 →
      CanSet w7 d6 (.string s1) ∧ ∀ w8 : World, IsSet w7 d6 (.string s1) w8 →
      CanSet w8 (Addr.add d6 1) (.string ⟨#[]⟩) ∧ ∀ w9 : World, IsSet w8 (Addr.add d6 1) (.string ⟨#[]⟩) w9 →
      CanSet w9 (Addr.add d6 2) (.pointer none) ∧ ∀ w10 : World, IsSet w9 (Addr.add d6 2) (.pointer none) w10 →
      ∀ w11 : World, IsDrew w10 w11 →
      ∃ o12 : Option Addr, ∃ l13 : Nat, ∃ l14 : Nat, World.cell? w11 (Addr.add d0 1) = some (.slice o12 l13 l14) ∧
      ∃ s15 : ByteArray, ∃ s16 : ByteArray, ∃ o17 : Option Addr, World.cell? w11 d6 = some (.string s15) ∧
      World.cell? w11 (Addr.add d6 1) = some (.string s16) ∧
      World.cell? w11 (Addr.add d6 2) = some (.pointer o17) ∧
      Calls Try.prog 65 #[(.slice o12 l13 l14), (.agg #[(.string s15), (.string s16), (.pointer o17)])] w11 (fun e18 w19 =>
        ∃ o20 : Option Addr, ∃ l21 : Nat, ∃ l22 : Nat, e18 = .returned (.slice o20 l21 l22) ∧
        CanSet w19 (Addr.add d0 1) (.slice o20 l21 l22) ∧ ∀ w23 : World, IsSet w19 (Addr.add d0 1) (.slice o20 l21 l22) w23 →
        ∀ w24 : World, IsDrew w23 w24 →
        ∃ o25 : Option Addr, ∃ l26 : Nat, ∃ l27 : Nat, World.cell? w24 (Addr.add d0 3) = some (.slice o25 l26 l27) ∧
        ∃ s28 : ByteArray, ∃ s29 : ByteArray, ∃ o30 : Option Addr, World.cell? w24 d6 = some (.string s28) ∧
        World.cell? w24 (Addr.add d6 1) = some (.string s29) ∧
        World.cell? w24 (Addr.add d6 2) = some (.pointer o30) ∧
        ∀ (d31 : Addr) (w32 : World), IsNew w24 116 #[(.string s28), (.string s29), (.pointer o30)] d31 w32 →
        World.cell? w32 (Addr.add d0 3) = some (.slice o25 l26 l27) ∧
        ∃ (v33 : Value) (w34 : World), Sem.run Try.prog (builtinV .append #[85, 85] 85 #[(.slice o25 l26 l27), (.slice (some d31) 1 1)]) w32 = .ok v33 w34 ∧
        ∃ o35 : Option Addr, ∃ l36 : Nat, ∃ l37 : Nat, v33 = (.slice o35 l36 l37) ∧
        CanSet w34 (Addr.add d0 3) (.slice o35 l36 l37) ∧ ∀ w38 : World, IsSet w34 (Addr.add d0 3) (.slice o35 l36 l37) w38 →
        R (.returned (.int .i64 0)) w38)))))
theorem moraineref1_Disk_Remove.vc (d0 : Addr) (s1 : ByteArray) (w : World) (R : Ending → World → Prop) (h : moraineref1_Disk_Remove.Vc d0 s1 w R) : Calls Try.prog 47 #[(.pointer (some d0)), (.string s1)] w R :=
  execF_sound (ann := []) (args := [.addr d0, .str s1]) Try.func47 mixed (Eq.mp (by kernel_rfl : moraineref1_Disk_Remove.Vc d0 s1 w R = execF (pA Try.prog R) Try.prog [] Try.f47 [.addr d0, .str s1] w) h)

/-! (*moraine/moraineref1.Disk).SyncDir: 48 -/
abbrev moraineref1_Disk_SyncDir.n : Nat := 48
def moraineref1_Disk_SyncDir.Vc (d0 : Addr) (w : World) (R : Ending → World → Prop) : Prop :=
  Calls Try.prog 60 #[(.pointer (some d0))] w (fun e1 w2 =>
    ∃ n3 : Int, e1 = .returned (.int .i64 n3) ∧
    (((n3 ≠ 0 →
      R (.returned (.int .i64 n3)) w2)) ∧
     ((n3 = 0 →
      ∃ o4 : Option Addr, ∃ l5 : Nat, ∃ l6 : Nat, World.cell? w2 (Addr.add d0 1) = some (.slice o4 l5 l6) ∧
      ∃ (v7 : Value) (w8 : World), Sem.run Try.prog (builtinV .append #[84, 84] 84 #[(.slice none 0 0), (.slice o4 l5 l6)]) w2 = .ok v7 w8 ∧
      ∃ o9 : Option Addr, ∃ l10 : Nat, ∃ l11 : Nat, v7 = (.slice o9 l10 l11) ∧
      CanSet w8 (Addr.add d0 2) (.slice o9 l10 l11) ∧ ∀ w12 : World, IsSet w8 (Addr.add d0 2) (.slice o9 l10 l11) w12 →
      CanSet w12 (Addr.add d0 3) (.slice none 0 0) ∧ ∀ w13 : World, IsSet w12 (Addr.add d0 3) (.slice none 0 0) w13 →
      R (.returned (.int .i64 0)) w13))))
theorem moraineref1_Disk_SyncDir.vc (d0 : Addr) (w : World) (R : Ending → World → Prop) (h : moraineref1_Disk_SyncDir.Vc d0 w R) : Calls Try.prog 48 #[(.pointer (some d0))] w R :=
  execF_sound (ann := []) (args := [.addr d0]) Try.func48 mixed (Eq.mp (by kernel_rfl : moraineref1_Disk_SyncDir.Vc d0 w R = execF (pA Try.prog R) Try.prog [] Try.f48 [.addr d0] w) h)

/-! (*moraine/moraineref1.Disk).Fail: 49 -/
abbrev moraineref1_Disk_Fail.n : Nat := 49
def moraineref1_Disk_Fail.Vc (d0 : Addr) (n1 : Int) (w : World) (R : Ending → World → Prop) : Prop :=
  CanSet w (Addr.add d0 6) (.int .i64 (max n1 0)) ∧ ∀ w2 : World, IsSet w (Addr.add d0 6) (.int .i64 (max n1 0)) w2 →
  R (.returned (.tuple #[])) w2
theorem moraineref1_Disk_Fail.vc (d0 : Addr) (n1 : Int) (w : World) (R : Ending → World → Prop) (h : moraineref1_Disk_Fail.Vc d0 n1 w R) : Calls Try.prog 49 #[(.pointer (some d0)), (.int .i64 n1)] w R :=
  execF_sound (ann := []) (args := [.addr d0, .int .i64 n1]) Try.func49 mixed (Eq.mp (by kernel_rfl : moraineref1_Disk_Fail.Vc d0 n1 w R = execF (pA Try.prog R) Try.prog [] Try.f49 [.addr d0, .int .i64 n1] w) h)

/-! (*moraine/moraineref1.Disk).Halt: 50 -/
abbrev moraineref1_Disk_Halt.n : Nat := 50
def moraineref1_Disk_Halt.Vc (d0 : Addr) (n1 : Int) (w : World) (R : Ending → World → Prop) : Prop :=
  CanSet w (Addr.add d0 7) (.int .i64 (max n1 (-1))) ∧ ∀ w2 : World, IsSet w (Addr.add d0 7) (.int .i64 (max n1 (-1))) w2 →
  R (.returned (.tuple #[])) w2
theorem moraineref1_Disk_Halt.vc (d0 : Addr) (n1 : Int) (w : World) (R : Ending → World → Prop) (h : moraineref1_Disk_Halt.Vc d0 n1 w R) : Calls Try.prog 50 #[(.pointer (some d0)), (.int .i64 n1)] w R :=
  execF_sound (ann := []) (args := [.addr d0, .int .i64 n1]) Try.func50 mixed (Eq.mp (by kernel_rfl : moraineref1_Disk_Halt.Vc d0 n1 w R = execF (pA Try.prog R) Try.prog [] Try.f50 [.addr d0, .int .i64 n1] w) h)

/-! (*moraine/moraineref1.Disk).Restart: 51 -/
abbrev moraineref1_Disk_Restart.n : Nat := 51
def moraineref1_Disk_Restart.Vc (d0 : Addr) (n1 : Int) (o2 : Option Addr) (l2 : Nat) (c2 : Nat) (w : World) (R : Ending → World → Prop) : Prop :=
  ∀ (d3 : Addr) (w4 : World), IsNew w 37 #[(.int .i64 n1), (.slice o2 l2 c2)] d3 w4 →
  ∃ o5 : Option Addr, ∃ l6 : Nat, ∃ l7 : Nat, World.cell? w4 (Addr.add d0 2) = some (.slice o5 l6 l7) ∧
  ∃ (v8 : Value) (w9 : World), Sem.run Try.prog (builtinV .append #[84, 84] 84 #[(.slice none 0 0), (.slice o5 l6 l7)]) w4 = .ok v8 w9 ∧
  ∃ o10 : Option Addr, ∃ l11 : Nat, ∃ l12 : Nat, v8 = (.slice o10 l11 l12) ∧
  ∃ (J13 : Option Addr → Nat → Nat → World → Prop), (∃ (I14 : Option Addr → Nat → Nat → Int → World → Prop) (μ14 : Option Addr → Nat → Nat → Int → World → Nat), I14 o10 l11 l12 0 w9 ∧
   (∀ (o15 : Option Addr) (l15 : Nat) (c15 : Nat) (n16 : Int) (j17 : Nat → Value) (w17 : World), I14 o15 l15 c15 n16 w17 →
     ∃ o18 : Option Addr, ∃ l19 : Nat, ∃ l20 : Nat, World.cell? w17 (Addr.add d0 3) = some (.slice o18 l19 l20) ∧
     (((n16 < ((l19 : Nat) : Int) →
       ∃ n21 : Int, World.cell? w17 d3 = some (.int .i64 n21) ∧
       (((n16 < n21 →
         ∃ o22 : Option Addr, ∃ l23 : Nat, ∃ l24 : Nat, World.cell? w17 (Addr.add d0 3) = some (.slice o22 l23 l24) ∧
         ∃ d25 : Addr, o22 = some d25 ∧
         ((0 : Int) ≤ n16 ∧ n16 < ((l23 : Nat) : Int)) ∧
         ∃ s26 : ByteArray, ∃ s27 : ByteArray, ∃ o28 : Option Addr, World.cell? w17 (Addr.add d25 ((Int.toNat n16) * 3)) = some (.string s26) ∧
         World.cell? w17 (Addr.add (Addr.add d25 ((Int.toNat n16) * 3)) 1) = some (.string s27) ∧
         World.cell? w17 (Addr.add (Addr.add d25 ((Int.toNat n16) * 3)) 2) = some (.pointer o28) ∧
         Calls Try.prog 65 #[(.slice o15 l15 c15), (.agg #[(.string s26), (.string s27), (.pointer o28)])] w17 (fun e29 w30 =>
           ∃ o31 : Option Addr, ∃ l32 : Nat, ∃ l33 : Nat, e29 = .returned (.slice o31 l32 l33) ∧
           I14 o31 l32 l33 (IntKind.wrap .i64 (n16 + 1)) w30 ∧ μ14 o31 l32 l33 (IntKind.wrap .i64 (n16 + 1)) w30 < μ14 o15 l15 c15 n16 w17))) ∧
        ((¬ n16 < n21 →
         J13 o15 l15 c15 w17))))) ∧
      ((¬ n16 < ((l19 : Nat) : Int) →
       J13 o15 l15 c15 w17))))) ∧
  (∀ (o34 : Option Addr) (l34 : Nat) (c34 : Nat) (j35 : Nat → Value) (w35 : World), J13 o34 l34 c34 w35 →
    CanSet w35 (Addr.add d0 1) (.slice none 0 0) ∧ ∀ w36 : World, IsSet w35 (Addr.add d0 1) (.slice none 0 0) w36 →
    ∃ (I37 : Int → World → Prop) (μ37 : Int → World → Nat), I37 0 w36 ∧
    (∀ (n38 : Int) (j39 : Nat → Value) (w39 : World), I37 n38 w39 →
      (((n38 < ((l34 : Nat) : Int) →
        ∃ d40 : Addr, o34 = some d40 ∧
        ((0 : Int) ≤ n38 ∧ n38 < ((l34 : Nat) : Int)) ∧
        ∃ o41 : Option Addr, World.cell? w39 (Addr.add (Addr.add d40 ((Int.toNat n38) * 2)) 1) = some (.pointer o41) ∧
        ∃ (J42 : Int → World → Prop), (∀ w43 : World, IsDrew w39 w43 →
         ∃ d44 : Addr, o41 = some d44 ∧
         ∃ n45 : Int, World.cell? w43 d44 = some (.int .i64 n45) ∧
         ∃ o46 : Option Addr, ∃ l47 : Nat, ∃ l48 : Nat, World.cell? w43 (Addr.add d3 1) = some (.slice o46 l47 l48) ∧
         (((n45 < ((l47 : Nat) : Int) →
           ∀ w49 : World, IsDrew w43 w49 →
           ∃ o50 : Option Addr, ∃ l51 : Nat, ∃ l52 : Nat, World.cell? w49 (Addr.add d3 1) = some (.slice o50 l51 l52) ∧
           ∃ d53 : Addr, o41 = some d53 ∧
           ∃ n54 : Int, World.cell? w49 d53 = some (.int .i64 n54) ∧
           ∃ d55 : Addr, o50 = some d55 ∧
           ((0 : Int) ≤ n54 ∧ n54 < ((l51 : Nat) : Int)) ∧
           ∃ n56 : Int, World.cell? w49 (Addr.add d55 (Int.toNat n54)) = some (.int .i64 n56) ∧
           J42 (max n56 0) w49)) ∧
          ((¬ n45 < ((l47 : Nat) : Int) →
           J42 0 w43)))) ∧
        (∀ (n57 : Int) (j58 : Nat → Value) (w58 : World), J42 n57 w58 →
          Calls Try.prog 66 #[(.pointer o41), (.int .i64 n57)] w58 (fun e59 w60 =>
            ∃ o61 : Option Addr, ∃ l62 : Nat, ∃ l63 : Nat, e59 = .returned (.slice o61 l62 l63) ∧
            ∀ w64 : World, IsDrew w60 w64 →
            ∃ o65 : Option Addr, ∃ l66 : Nat, ∃ l67 : Nat, World.cell? w64 (Addr.add d0 1) = some (.slice o65 l66 l67) ∧
            ∃ d68 : Addr, o34 = some d68 ∧
            ((0 : Int) ≤ n38 ∧ n38 < ((l34 : Nat) : Int)) ∧
            ∃ s69 : ByteArray, World.cell? w64 (Addr.add d68 ((Int.toNat n38) * 2)) = some (.string s69) ∧
            ∃ d70 : Addr, o41 = some d70 ∧
            ∃ n71 : Int, World.cell? w64 d70 = some (.int .i64 n71) ∧
            ∃ (v72 : Value) (w73 : World), Sem.run Try.prog (builtinV .append #[30, 30] 30 #[(.slice none 0 0), (.slice o61 l62 l63)]) w64 = .ok v72 w73 ∧
            ∃ o74 : Option Addr, ∃ l75 : Nat, ∃ l76 : Nat, v72 = (.slice o74 l75 l76) ∧
            World.cell? w73 d70 = some (.int .i64 n71) ∧
            World.cell? w73 (Addr.add d68 ((Int.toNat n38) * 2)) = some (.string s69) ∧
            World.cell? w73 (Addr.add d0 1) = some (.slice o65 l66 l67) ∧
            ∀ (d77 : Addr) (w78 : World), IsNew w73 112 #[(.int .i64 n71), (.slice o61 l62 l63), (.slice o74 l75 l76), (.slice none 0 0)] d77 w78 →
            World.cell? w78 (Addr.add d68 ((Int.toNat n38) * 2)) = some (.string s69) ∧
            World.cell? w78 (Addr.add d0 1) = some (.slice o65 l66 l67) ∧
            ∀ (d79 : Addr) (w80 : World), IsNew w78 114 #[(.string s69), (.pointer (some d77))] d79 w80 →
            World.cell? w80 (Addr.add d0 1) = some (.slice o65 l66 l67) ∧
            ∃ (v81 : Value) (w82 : World), Sem.run Try.prog (builtinV .append #[84, 84] 84 #[(.slice o65 l66 l67), (.slice (some d79) 1 1)]) w80 = .ok v81 w82 ∧
            ∃ o83 : Option Addr, ∃ l84 : Nat, ∃ l85 : Nat, v81 = (.slice o83 l84 l85) ∧
            CanSet w82 (Addr.add d0 1) (.slice o83 l84 l85) ∧ ∀ w86 : World, IsSet w82 (Addr.add d0 1) (.slice o83 l84 l85) w86 →
            I37 (IntKind.wrap .i64 (n38 + 1)) w86 ∧ μ37 (IntKind.wrap .i64 (n38 + 1)) w86 < μ37 n38 w39)))) ∧
       ((¬ n38 < ((l34 : Nat) : Int) →
        ∃ o87 : Option Addr, ∃ l88 : Nat, ∃ l89 : Nat, World.cell? w39 (Addr.add d0 1) = some (.slice o87 l88 l89) ∧
        ∃ (v90 : Value) (w91 : World), Sem.run Try.prog (builtinV .append #[84, 84] 84 #[(.slice none 0 0), (.slice o87 l88 l89)]) w39 = .ok v90 w91 ∧
        ∃ o92 : Option Addr, ∃ l93 : Nat, ∃ l94 : Nat, v90 = (.slice o92 l93 l94) ∧
        CanSet w91 (Addr.add d0 2) (.slice o92 l93 l94) ∧ ∀ w95 : World, IsSet w91 (Addr.add d0 2) (.slice o92 l93 l94) w95 →
        CanSet w95 (Addr.add d0 3) (.slice none 0 0) ∧ ∀ w96 : World, IsSet w95 (Addr.add d0 3) (.slice none 0 0) w96 →
        CanSet w96 (Addr.add d0 6) (.int .i64 0) ∧ ∀ w97 : World, IsSet w96 (Addr.add d0 6) (.int .i64 0) w97 →
        CanSet w97 (Addr.add d0 7) (.int .i64 (-1)) ∧ ∀ w98 : World, IsSet w97 (Addr.add d0 7) (.int .i64 (-1)) w98 →
        CanSet w98 (Addr.add d0 8) (.bool false) ∧ ∀ w99 : World, IsSet w98 (Addr.add d0 8) (.bool false) w99 →
        R (.returned (.tuple #[])) w99)))))
theorem moraineref1_Disk_Restart.vc (d0 : Addr) (n1 : Int) (o2 : Option Addr) (l2 : Nat) (c2 : Nat) (w : World) (R : Ending → World → Prop) (h : moraineref1_Disk_Restart.Vc d0 n1 o2 l2 c2 w R) : Calls Try.prog 51 #[(.pointer (some d0)), (.agg #[(.int .i64 n1), (.slice o2 l2 c2)])] w R :=
  execF_sound (ann := [(1000006, [(4, .cell (.slice))]), (3, [(4, .cell (.slice)), (5, .cell (.int .i64))]), (8, [(6, .cell (.int .i64))]), (1000014, [(8, .cell (.int .i64))])]) (args := [.addr d0, .agg [.int .i64 n1, .slice o2 l2 c2]]) Try.func51 mixed (Eq.mp (by kernel_rfl : moraineref1_Disk_Restart.Vc d0 n1 o2 l2 c2 w R = execF (pA Try.prog R) Try.prog [(1000006, [(4, .cell (.slice))]), (3, [(4, .cell (.slice)), (5, .cell (.int .i64))]), (8, [(6, .cell (.int .i64))]), (1000014, [(8, .cell (.int .i64))])] Try.f51 [.addr d0, .agg [.int .i64 n1, .slice o2 l2 c2]] w) h)

/-! (*moraine/moraineref1.Disk).ReadAt: 53 -/
abbrev moraineref1_Disk_ReadAt.n : Nat := 53
def moraineref1_Disk_ReadAt.Vc (d0 : Addr) (s1 : ByteArray) (n2 : Int) (n3 : Int) (w : World) (R : Ending → World → Prop) : Prop :=
  Calls Try.prog 67 #[(.pointer (some d0)), (.string s1)] w (fun e4 w5 =>
    ∃ o6 : Option Addr, ∃ l7 : Nat, ∃ l8 : Nat, ∃ n9 : Int, e4 = .returned (.tuple #[(.slice o6 l7 l8), (.int .i64 n9)]) ∧
    (((n9 ≠ 0 →
      R (.returned (.tuple #[(.slice none 0 0), (.int .i64 n9)])) w5)) ∧
     ((n9 = 0 →
      (((n2 < 0 →
        R (.returned (.tuple #[(.slice none 0 0), (.int .i64 14)])) w5)) ∧
       ((¬ n2 < 0 →
        (((n3 < 0 →
          R (.returned (.tuple #[(.slice none 0 0), (.int .i64 14)])) w5)) ∧
         ((¬ n3 < 0 →
          (((n2 > ((l7 : Nat) : Int) →
            R (.returned (.tuple #[(.slice none 0 0), (.int .i64 14)])) w5)) ∧
           ((¬ n2 > ((l7 : Nat) : Int) →
            (((n3 > (IntKind.wrap .i64 (((l7 : Nat) : Int) - n2)) →
              R (.returned (.tuple #[(.slice none 0 0), (.int .i64 14)])) w5)) ∧
             ((¬ n3 > (IntKind.wrap .i64 (((l7 : Nat) : Int) - n2)) →
              ((0 : Int) ≤ (IntKind.wrap .i64 (n2 + n3)) ∧ (IntKind.wrap .i64 (n2 + n3)) ≤ ((l8 : Nat) : Int)) ∧
              ((0 : Int) ≤ n2 ∧ n2 ≤ (((Int.toNat (IntKind.wrap .i64 (n2 + n3))) : Nat) : Int)) ∧
              R (.returned (.tuple #[(.slice (subO o6 l8 (Int.toNat n2) 1) ((Int.toNat (IntKind.wrap .i64 (n2 + n3))) - (Int.toNat n2)) (l8 - (Int.toNat n2))), (.int .i64 0)])) w5))))))))))))))))
theorem moraineref1_Disk_ReadAt.vc (d0 : Addr) (s1 : ByteArray) (n2 : Int) (n3 : Int) (w : World) (R : Ending → World → Prop) (h : moraineref1_Disk_ReadAt.Vc d0 s1 n2 n3 w R) : Calls Try.prog 53 #[(.pointer (some d0)), (.string s1), (.int .i64 n2), (.int .i64 n3)] w R :=
  execF_sound (ann := []) (args := [.addr d0, .str s1, .int .i64 n2, .int .i64 n3]) Try.func53 mixed (Eq.mp (by kernel_rfl : moraineref1_Disk_ReadAt.Vc d0 s1 n2 n3 w R = execF (pA Try.prog R) Try.prog [] Try.f53 [.addr d0, .str s1, .int .i64 n2, .int .i64 n3] w) h)

/-! (*moraine/moraineref1.Disk).call: 60 -/
abbrev moraineref1_Disk_call.n : Nat := 60
def moraineref1_Disk_call.Vc (d0 : Addr) (w : World) (R : Ending → World → Prop) : Prop :=
  ∃ n1 : Int, World.cell? w (Addr.add d0 5) = some (.int .i64 n1) ∧
  CanSet w (Addr.add d0 5) (.int .i64 (IntKind.wrap .i64 (n1 + 1))) ∧ ∀ w2 : World, IsSet w (Addr.add d0 5) (.int .i64 (IntKind.wrap .i64 (n1 + 1))) w2 →
  ∃ (J3 : World → Prop), (∃ n4 : Int, World.cell? w2 (Addr.add d0 7) = some (.int .i64 n4) ∧
   (((n4 = 0 →
     CanSet w2 (Addr.add d0 8) (.bool true) ∧ ∀ w5 : World, IsSet w2 (Addr.add d0 8) (.bool true) w5 →
     J3  w5)) ∧
    ((n4 ≠ 0 →
     J3  w2)))) ∧
  (∀  (j6 : Nat → Value) (w6 : World), J3  w6 →
    ∃ (J7 : World → Prop), (∃ n8 : Int, World.cell? w6 (Addr.add d0 7) = some (.int .i64 n8) ∧
     (((n8 > 0 →
       ∃ n9 : Int, World.cell? w6 (Addr.add d0 7) = some (.int .i64 n9) ∧
       CanSet w6 (Addr.add d0 7) (.int .i64 (IntKind.wrap .i64 (n9 - 1))) ∧ ∀ w10 : World, IsSet w6 (Addr.add d0 7) (.int .i64 (IntKind.wrap .i64 (n9 - 1))) w10 →
       J7  w10)) ∧
      ((¬ n8 > 0 →
       J7  w6)))) ∧
    (∀  (j11 : Nat → Value) (w11 : World), J7  w11 →
      ∃ n12 : Int, World.cell? w11 (Addr.add d0 6) = some (.int .i64 n12) ∧
      (((n12 > 0 →
        ∃ n13 : Int, World.cell? w11 (Addr.add d0 6) = some (.int .i64 n13) ∧
        CanSet w11 (Addr.add d0 6) (.int .i64 (IntKind.wrap .i64 (n13 - 1))) ∧ ∀ w14 : World, IsSet w11 (Addr.add d0 6) (.int .i64 (IntKind.wrap .i64 (n13 - 1))) w14 →
        ∃ n15 : Int, World.cell? w14 (Addr.add d0 6) = some (.int .i64 n15) ∧
        (((n15 = 0 →
          ∃ b16 : Bool, World.cell? w14 (Addr.add d0 8) = some (.bool b16) ∧
          (((b16 = false →
            R (.returned (.int .i64 16)) w14)) ∧
           ((b16 = true →
            ∃ b17 : Bool, World.cell? w14 (Addr.add d0 8) = some (.bool b17) ∧
            (((b17 = true →
              R (.returned (.int .i64 17)) w14)) ∧
             ((b17 = false →
              R (.returned (.int .i64 0)) w14)))))))) ∧
         ((n15 ≠ 0 →
          ∃ b18 : Bool, World.cell? w14 (Addr.add d0 8) = some (.bool b18) ∧
          (((b18 = true →
            R (.returned (.int .i64 17)) w14)) ∧
           ((b18 = false →
            R (.returned (.int .i64 0)) w14)))))))) ∧
       ((¬ n12 > 0 →
        ∃ b19 : Bool, World.cell? w11 (Addr.add d0 8) = some (.bool b19) ∧
        (((b19 = true →
          R (.returned (.int .i64 17)) w11)) ∧
         ((b19 = false →
          R (.returned (.int .i64 0)) w11))))))))
theorem moraineref1_Disk_call.vc (d0 : Addr) (w : World) (R : Ending → World → Prop) (h : moraineref1_Disk_call.Vc d0 w R) : Calls Try.prog 60 #[(.pointer (some d0))] w R :=
  execF_sound (ann := [(1000004, []), (1000006, [])]) (args := [.addr d0]) Try.func60 mixed (Eq.mp (by kernel_rfl : moraineref1_Disk_call.Vc d0 w R = execF (pA Try.prog R) Try.prog [(1000004, []), (1000006, [])] Try.f60 [.addr d0] w) h)

/-! moraine/moraineref1.Name: 61 -/
abbrev moraineref1_Name.n : Nat := 61
def moraineref1_Name.Vc (s0 : ByteArray) (w : World) (R : Ending → World → Prop) : Prop :=
  ((((((ByteArray.size s0) : Nat) : Int) < 1 →
    R (.returned (.bool false)) w)) ∧
   ((¬ (((ByteArray.size s0) : Nat) : Int) < 1 →
    ((((((ByteArray.size s0) : Nat) : Int) > 64 →
      R (.returned (.bool false)) w)) ∧
     ((¬ (((ByteArray.size s0) : Nat) : Int) > 64 →
      ∃ (I1 : Int → World → Prop) (μ1 : Int → World → Nat), I1 0 w ∧
      (∀ (n2 : Int) (j3 : Nat → Value) (w3 : World), I1 n2 w3 →
        (((n2 < (((ByteArray.size s0) : Nat) : Int) →
          ((0 : Int) ≤ n2 ∧ n2 < (((ByteArray.size s0) : Nat) : Int)) ∧
          ((((strAt s0 (Int.toNat n2)) ≥ 97 →
            ((((strAt s0 (Int.toNat n2)) ≤ 122 →
              I1 (IntKind.wrap .i64 (n2 + 1)) w3 ∧ μ1 (IntKind.wrap .i64 (n2 + 1)) w3 < μ1 n2 w3)) ∧
             ((¬ (strAt s0 (Int.toNat n2)) ≤ 122 →
              ((((strAt s0 (Int.toNat n2)) ≥ 48 →
                ((((strAt s0 (Int.toNat n2)) ≤ 57 →
                  I1 (IntKind.wrap .i64 (n2 + 1)) w3 ∧ μ1 (IntKind.wrap .i64 (n2 + 1)) w3 < μ1 n2 w3)) ∧
                 ((¬ (strAt s0 (Int.toNat n2)) ≤ 57 →
                  ((((strAt s0 (Int.toNat n2)) = 46 →
                    I1 (IntKind.wrap .i64 (n2 + 1)) w3 ∧ μ1 (IntKind.wrap .i64 (n2 + 1)) w3 < μ1 n2 w3)) ∧
                   (((strAt s0 (Int.toNat n2)) ≠ 46 →
                    ((((strAt s0 (Int.toNat n2)) = 45 →
                      I1 (IntKind.wrap .i64 (n2 + 1)) w3 ∧ μ1 (IntKind.wrap .i64 (n2 + 1)) w3 < μ1 n2 w3)) ∧
                     (((strAt s0 (Int.toNat n2)) ≠ 45 →
                      ((((strAt s0 (Int.toNat n2)) ≠ 95 →
                        R (.returned (.bool false)) w3)) ∧
                       (((strAt s0 (Int.toNat n2)) = 95 →
                        I1 (IntKind.wrap .i64 (n2 + 1)) w3 ∧ μ1 (IntKind.wrap .i64 (n2 + 1)) w3 < μ1 n2 w3)))))))))))))) ∧
               ((¬ (strAt s0 (Int.toNat n2)) ≥ 48 →
                ((((strAt s0 (Int.toNat n2)) = 46 →
                  I1 (IntKind.wrap .i64 (n2 + 1)) w3 ∧ μ1 (IntKind.wrap .i64 (n2 + 1)) w3 < μ1 n2 w3)) ∧
                 (((strAt s0 (Int.toNat n2)) ≠ 46 →
                  ((((strAt s0 (Int.toNat n2)) = 45 →
                    I1 (IntKind.wrap .i64 (n2 + 1)) w3 ∧ μ1 (IntKind.wrap .i64 (n2 + 1)) w3 < μ1 n2 w3)) ∧
                   (((strAt s0 (Int.toNat n2)) ≠ 45 →
                    ((((strAt s0 (Int.toNat n2)) ≠ 95 →
                      R (.returned (.bool false)) w3)) ∧
                     (((strAt s0 (Int.toNat n2)) = 95 →
                      I1 (IntKind.wrap .i64 (n2 + 1)) w3 ∧ μ1 (IntKind.wrap .i64 (n2 + 1)) w3 < μ1 n2 w3))))))))))))))))) ∧
           ((¬ (strAt s0 (Int.toNat n2)) ≥ 97 →
            ((((strAt s0 (Int.toNat n2)) ≥ 48 →
              ((((strAt s0 (Int.toNat n2)) ≤ 57 →
                I1 (IntKind.wrap .i64 (n2 + 1)) w3 ∧ μ1 (IntKind.wrap .i64 (n2 + 1)) w3 < μ1 n2 w3)) ∧
               ((¬ (strAt s0 (Int.toNat n2)) ≤ 57 →
                ((((strAt s0 (Int.toNat n2)) = 46 →
                  I1 (IntKind.wrap .i64 (n2 + 1)) w3 ∧ μ1 (IntKind.wrap .i64 (n2 + 1)) w3 < μ1 n2 w3)) ∧
                 (((strAt s0 (Int.toNat n2)) ≠ 46 →
                  ((((strAt s0 (Int.toNat n2)) = 45 →
                    I1 (IntKind.wrap .i64 (n2 + 1)) w3 ∧ μ1 (IntKind.wrap .i64 (n2 + 1)) w3 < μ1 n2 w3)) ∧
                   (((strAt s0 (Int.toNat n2)) ≠ 45 →
                    ((((strAt s0 (Int.toNat n2)) ≠ 95 →
                      R (.returned (.bool false)) w3)) ∧
                     (((strAt s0 (Int.toNat n2)) = 95 →
                      I1 (IntKind.wrap .i64 (n2 + 1)) w3 ∧ μ1 (IntKind.wrap .i64 (n2 + 1)) w3 < μ1 n2 w3)))))))))))))) ∧
             ((¬ (strAt s0 (Int.toNat n2)) ≥ 48 →
              ((((strAt s0 (Int.toNat n2)) = 46 →
                I1 (IntKind.wrap .i64 (n2 + 1)) w3 ∧ μ1 (IntKind.wrap .i64 (n2 + 1)) w3 < μ1 n2 w3)) ∧
               (((strAt s0 (Int.toNat n2)) ≠ 46 →
                ((((strAt s0 (Int.toNat n2)) = 45 →
                  I1 (IntKind.wrap .i64 (n2 + 1)) w3 ∧ μ1 (IntKind.wrap .i64 (n2 + 1)) w3 < μ1 n2 w3)) ∧
                 (((strAt s0 (Int.toNat n2)) ≠ 45 →
                  ((((strAt s0 (Int.toNat n2)) ≠ 95 →
                    R (.returned (.bool false)) w3)) ∧
                   (((strAt s0 (Int.toNat n2)) = 95 →
                    I1 (IntKind.wrap .i64 (n2 + 1)) w3 ∧ μ1 (IntKind.wrap .i64 (n2 + 1)) w3 < μ1 n2 w3))))))))))))))))) ∧
         ((¬ n2 < (((ByteArray.size s0) : Nat) : Int) →
          R (.returned (.bool true)) w3))))))))))
theorem moraineref1_Name.vc (s0 : ByteArray) (w : World) (R : Ending → World → Prop) (h : moraineref1_Name.Vc s0 w R) : Calls Try.prog 61 #[(.string s0)] w R :=
  execF_sound (ann := [(4, [(3, .cell (.int .i64))])]) (args := [.str s0]) Try.func61 mixed (Eq.mp (by kernel_rfl : moraineref1_Name.Vc s0 w R = execF (pA Try.prog R) Try.prog [(4, [(3, .cell (.int .i64))])] Try.f61 [.str s0] w) h)

/-! moraine/moraineref1.find: 62 -/
abbrev moraineref1_find.n : Nat := 62
def moraineref1_find.Vc (o0 : Option Addr) (l0 : Nat) (c0 : Nat) (s1 : ByteArray) (w : World) (R : Ending → World → Prop) : Prop :=
  ∃ (I2 : Int → World → Prop) (μ2 : Int → World → Nat), I2 0 w ∧
  (∀ (n3 : Int) (j4 : Nat → Value) (w4 : World), I2 n3 w4 →
    (((n3 < ((l0 : Nat) : Int) →
      ∃ d5 : Addr, o0 = some d5 ∧
      ((0 : Int) ≤ n3 ∧ n3 < ((l0 : Nat) : Int)) ∧
      ∃ s6 : ByteArray, World.cell? w4 (Addr.add d5 ((Int.toNat n3) * 2)) = some (.string s6) ∧
      (((strB .eql s6 s1 = true →
        R (.returned (.int .i64 n3)) w4)) ∧
       ((strB .eql s6 s1 = false →
        I2 (IntKind.wrap .i64 (n3 + 1)) w4 ∧ μ2 (IntKind.wrap .i64 (n3 + 1)) w4 < μ2 n3 w4))))) ∧
     ((¬ n3 < ((l0 : Nat) : Int) →
      R (.returned (.int .i64 (-1))) w4))))
theorem moraineref1_find.vc (o0 : Option Addr) (l0 : Nat) (c0 : Nat) (s1 : ByteArray) (w : World) (R : Ending → World → Prop) (h : moraineref1_find.Vc o0 l0 c0 s1 w R) : Calls Try.prog 62 #[(.slice o0 l0 c0), (.string s1)] w R :=
  execF_sound (ann := [(2, [(5, .cell (.int .i64))])]) (args := [.slice o0 l0 c0, .str s1]) Try.func62 mixed (Eq.mp (by kernel_rfl : moraineref1_find.Vc o0 l0 c0 s1 w R = execF (pA Try.prog R) Try.prog [(2, [(5, .cell (.int .i64))])] Try.f62 [.slice o0 l0 c0, .str s1] w) h)

/-! (*moraine/moraineref1.Disk).asked: 63 -/
abbrev moraineref1_Disk_asked.n : Nat := 63
def moraineref1_Disk_asked.Vc (d0 : Addr) (s1 : ByteArray) (w : World) (R : Ending → World → Prop) : Prop :=
  Calls Try.prog 60 #[(.pointer (some d0))] w (fun e2 w3 =>
    ∃ n4 : Int, e2 = .returned (.int .i64 n4) ∧
    (((n4 ≠ 0 →
      R (.returned (.tuple #[(.pointer none), (.int .i64 n4)])) w3)) ∧
     ((n4 = 0 →
      Calls Try.prog 75 #[(.pointer (some d0)), (.string s1)] w3 (fun e5 w6 =>
        ∃ o7 : Option Addr, ∃ n8 : Int, e5 = .returned (.tuple #[(.pointer o7), (.int .i64 n8)]) ∧
        R (.returned (.tuple #[(.pointer o7), (.int .i64 n8)])) w6)))))
theorem moraineref1_Disk_asked.vc (d0 : Addr) (s1 : ByteArray) (w : World) (R : Ending → World → Prop) (h : moraineref1_Disk_asked.Vc d0 s1 w R) : Calls Try.prog 63 #[(.pointer (some d0)), (.string s1)] w R :=
  execF_sound (ann := []) (args := [.addr d0, .str s1]) Try.func63 mixed (Eq.mp (by kernel_rfl : moraineref1_Disk_asked.Vc d0 s1 w R = execF (pA Try.prog R) Try.prog [] Try.f63 [.addr d0, .str s1] w) h)

/-! (*moraine/moraineref1.Disk).write: 64 -/
abbrev moraineref1_Disk_write.n : Nat := 64
def moraineref1_Disk_write.Vc (d0 : Addr) (d1 : Addr) (n2 : Int) (o3 : Option Addr) (l3 : Nat) (c3 : Nat) (w : World) (R : Ending → World → Prop) : Prop :=
  ∃ o4 : Option Addr, ∃ l5 : Nat, ∃ l6 : Nat, World.cell? w (Addr.add d1 1) = some (.slice o4 l5 l6) ∧
  ∃ (J7 : World → Prop), (∀ w8 : World, IsDrew w w8 →
   ((((IntKind.wrap .i64 ((IntKind.wrap .i64 (n2 + ((l3 : Nat) : Int))) - ((l5 : Nat) : Int))) > 0 →
     ∃ n9 : Int, World.cell? w8 d0 = some (.int .i64 n9) ∧
     Calls Try.prog 76 #[(.pointer (some d0))] w8 (fun e10 w11 =>
       ∃ n12 : Int, e10 = .returned (.int .i64 n12) ∧
       World.cell? w11 d0 = some (.int .i64 n9) ∧
       ((((IntKind.wrap .i64 (n12 + (IntKind.wrap .i64 ((IntKind.wrap .i64 (n2 + ((l3 : Nat) : Int))) - ((l5 : Nat) : Int))))) > n9 →
         R (.returned (.int .i64 15)) w11)) ∧
        ((¬ (IntKind.wrap .i64 (n12 + (IntKind.wrap .i64 ((IntKind.wrap .i64 (n2 + ((l3 : Nat) : Int))) - ((l5 : Nat) : Int))))) > n9 →
         J7  w11)))))) ∧
    ((¬ (IntKind.wrap .i64 ((IntKind.wrap .i64 (n2 + ((l3 : Nat) : Int))) - ((l5 : Nat) : Int))) > 0 →
     J7  w8)))) ∧
  (∀  (j13 : Nat → Value) (w13 : World), J7  w13 →
    (((((l3 : Nat) : Int) = 0 →
      R (.returned (.int .i64 0)) w13)) ∧
     ((((l3 : Nat) : Int) ≠ 0 →
      ∃ o14 : Option Addr, ∃ l15 : Nat, ∃ l16 : Nat, World.cell? w13 (Addr.add d1 1) = some (.slice o14 l15 l16) ∧
      Calls Try.prog 77 #[(.slice o14 l15 l16), (.int .i64 n2), (.slice o3 l3 c3)] w13 (fun e17 w18 =>
        ∃ o19 : Option Addr, ∃ l20 : Nat, ∃ l21 : Nat, e17 = .returned (.slice o19 l20 l21) ∧
        CanSet w18 (Addr.add d1 1) (.slice o19 l20 l21) ∧ ∀ w22 : World, IsSet w18 (Addr.add d1 1) (.slice o19 l20 l21) w22 →
        ∀ w23 : World, IsDrew w22 w23 →
        ∃ o24 : Option Addr, ∃ l25 : Nat, ∃ l26 : Nat, World.cell? w23 (Addr.add d1 3) = some (.slice o24 l25 l26) ∧
        ∃ (v27 : Value) (w28 : World), Sem.run Try.prog (builtinV .append #[30, 30] 30 #[(.slice none 0 0), (.slice o3 l3 c3)]) w23 = .ok v27 w28 ∧
        ∃ o29 : Option Addr, ∃ l30 : Nat, ∃ l31 : Nat, v27 = (.slice o29 l30 l31) ∧
        World.cell? w28 (Addr.add d1 3) = some (.slice o24 l25 l26) ∧
        ∀ (d32 : Addr) (w33 : World), IsNew w28 123 #[(.int .i64 n2), (.slice o29 l30 l31), (.int .i64 0)] d32 w33 →
        World.cell? w33 (Addr.add d1 3) = some (.slice o24 l25 l26) ∧
        ∃ (v34 : Value) (w35 : World), Sem.run Try.prog (builtinV .append #[110, 110] 110 #[(.slice o24 l25 l26), (.slice (some d32) 1 1)]) w33 = .ok v34 w35 ∧
        ∃ o36 : Option Addr, ∃ l37 : Nat, ∃ l38 : Nat, v34 = (.slice o36 l37 l38) ∧
        CanSet w35 (Addr.add d1 3) (.slice o36 l37 l38) ∧ ∀ w39 : World, IsSet w35 (Addr.add d1 3) (.slice o36 l37 l38) w39 →
        R (.returned (.int .i64 0)) w39)))))
theorem moraineref1_Disk_write.vc (d0 : Addr) (d1 : Addr) (n2 : Int) (o3 : Option Addr) (l3 : Nat) (c3 : Nat) (w : World) (R : Ending → World → Prop) (h : moraineref1_Disk_write.Vc d0 d1 n2 o3 l3 c3 w R) : Calls Try.prog 64 #[(.pointer (some d0)), (.pointer (some d1)), (.int .i64 n2), (.slice o3 l3 c3)] w R :=
  execF_sound (ann := [(1000004, [])]) (args := [.addr d0, .addr d1, .int .i64 n2, .slice o3 l3 c3]) Try.func64 mixed (Eq.mp (by kernel_rfl : moraineref1_Disk_write.Vc d0 d1 n2 o3 l3 c3 w R = execF (pA Try.prog R) Try.prog [(1000004, [])] Try.f64 [.addr d0, .addr d1, .int .i64 n2, .slice o3 l3 c3] w) h)

/-! moraine/moraineref1.done: 65 -/
abbrev moraineref1_done.n : Nat := 65
def moraineref1_done.Vc (o0 : Option Addr) (l0 : Nat) (c0 : Nat) (s1 : ByteArray) (s2 : ByteArray) (o3 : Option Addr) (w : World) (R : Ending → World → Prop) : Prop :=
  ∀ (d4 : Addr) (w5 : World), IsNew w 116 #[(.string s1), (.string s2), (.pointer o3)] d4 w5 →
  ∃ o6 : Option Addr, World.cell? w5 (Addr.add d4 2) = some (.pointer o6) ∧
  (((o6 ≠ none →
    ∀ w7 : World, IsDrew w5 w7 →
    ∃ s8 : ByteArray, World.cell? w7 d4 = some (.string s8) ∧
    ∃ s9 : ByteArray, World.cell? w7 d4 = some (.string s9) ∧
    ∃ o10 : Option Addr, World.cell? w7 (Addr.add d4 2) = some (.pointer o10) ∧
    ((Calls Try.prog 78 #[(.slice o0 l0 c0), (.string s8)] w7 (fun e11 w12 =>
       ∃ o13 : Option Addr, ∃ l14 : Nat, ∃ l15 : Nat, e11 = .returned (.slice o13 l14 l15) ∧
       World.cell? w12 (Addr.add d4 2) = some (.pointer o10) ∧
       World.cell? w12 d4 = some (.string s9) ∧
       ∀ (d16 : Addr) (w17 : World), IsNew w12 114 #[(.string s9), (.pointer o10)] d16 w17 →
       ∃ (v18 : Value) (w19 : World), Sem.run Try.prog (builtinV .append #[84, 84] 84 #[(.slice o13 l14 l15), (.slice (some d16) 1 1)]) w17 = .ok v18 w19 ∧
       ∃ o20 : Option Addr, ∃ l21 : Nat, ∃ l22 : Nat, v18 = (.slice o20 l21 l22) ∧
       R (.returned (.slice o20 l21 l22)) w19)) ∧
     (∀ (d23 : Addr) (w24 : World), IsNew w7 114 #[(.string s9), (.pointer o10)] d23 w24 →
     World.cell? w24 d4 = some (.string s8) ∧
     Calls Try.prog 78 #[(.slice o0 l0 c0), (.string s8)] w24 (fun e25 w26 =>
       ∃ o27 : Option Addr, ∃ l28 : Nat, ∃ l29 : Nat, e25 = .returned (.slice o27 l28 l29) ∧
       ∃ (v30 : Value) (w31 : World), Sem.run Try.prog (builtinV .append #[84, 84] 84 #[(.slice o27 l28 l29), (.slice (some d23) 1 1)]) w26 = .ok v30 w31 ∧
       ∃ o32 : Option Addr, ∃ l33 : Nat, ∃ l34 : Nat, v30 = (.slice o32 l33 l34) ∧
       R (.returned (.slice o32 l33 l34)) w31))))) ∧
   ((o6 = none →
    ∃ s35 : ByteArray, World.cell? w5 d4 = some (.string s35) ∧
    Calls Try.prog 62 #[(.slice o0 l0 c0), (.string s35)] w5 (fun e36 w37 =>
      ∃ n38 : Int, e36 = .returned (.int .i64 n38) ∧
      (((n38 < 0 →
        R (.returned (.slice o0 l0 c0)) w37)) ∧
       ((¬ n38 < 0 →
        ∃ d39 : Addr, o0 = some d39 ∧
        ((0 : Int) ≤ n38 ∧ n38 < ((l0 : Nat) : Int)) ∧
        ∃ o40 : Option Addr, World.cell? w37 (Addr.add (Addr.add d39 ((Int.toNat n38) * 2)) 1) = some (.pointer o40) ∧
        ∃ s41 : ByteArray, World.cell? w37 d4 = some (.string s41) ∧
        Calls Try.prog 78 #[(.slice o0 l0 c0), (.string s41)] w37 (fun e42 w43 =>
          ∃ o44 : Option Addr, ∃ l45 : Nat, ∃ l46 : Nat, e42 = .returned (.slice o44 l45 l46) ∧
          ∃ s47 : ByteArray, World.cell? w43 (Addr.add d4 1) = some (.string s47) ∧
          (((strB .neq s47 ⟨#[]⟩ = true →
            ∀ w48 : World, IsDrew w43 w48 →
            ∃ s49 : ByteArray, World.cell? w48 (Addr.add d4 1) = some (.string s49) ∧
            ∃ s50 : ByteArray, World.cell? w48 (Addr.add d4 1) = some (.string s50) ∧
            ((Calls Try.prog 78 #[(.slice o44 l45 l46), (.string s49)] w48 (fun e51 w52 =>
               ∃ o53 : Option Addr, ∃ l54 : Nat, ∃ l55 : Nat, e51 = .returned (.slice o53 l54 l55) ∧
               World.cell? w52 (Addr.add d4 1) = some (.string s50) ∧
               ∀ (d56 : Addr) (w57 : World), IsNew w52 114 #[(.string s50), (.pointer o40)] d56 w57 →
               ∃ (v58 : Value) (w59 : World), Sem.run Try.prog (builtinV .append #[84, 84] 84 #[(.slice o53 l54 l55), (.slice (some d56) 1 1)]) w57 = .ok v58 w59 ∧
               ∃ o60 : Option Addr, ∃ l61 : Nat, ∃ l62 : Nat, v58 = (.slice o60 l61 l62) ∧
               R (.returned (.slice o60 l61 l62)) w59)) ∧
             (∀ (d63 : Addr) (w64 : World), IsNew w48 114 #[(.string s50), (.pointer o40)] d63 w64 →
             World.cell? w64 (Addr.add d4 1) = some (.string s49) ∧
             Calls Try.prog 78 #[(.slice o44 l45 l46), (.string s49)] w64 (fun e65 w66 =>
               ∃ o67 : Option Addr, ∃ l68 : Nat, ∃ l69 : Nat, e65 = .returned (.slice o67 l68 l69) ∧
               ∃ (v70 : Value) (w71 : World), Sem.run Try.prog (builtinV .append #[84, 84] 84 #[(.slice o67 l68 l69), (.slice (some d63) 1 1)]) w66 = .ok v70 w71 ∧
               ∃ o72 : Option Addr, ∃ l73 : Nat, ∃ l74 : Nat, v70 = (.slice o72 l73 l74) ∧
               R (.returned (.slice o72 l73 l74)) w71))))) ∧
           ((strB .neq s47 ⟨#[]⟩ = false →
            R (.returned (.slice o44 l45 l46)) w43)))))))))))
theorem moraineref1_done.vc (o0 : Option Addr) (l0 : Nat) (c0 : Nat) (s1 : ByteArray) (s2 : ByteArray) (o3 : Option Addr) (w : World) (R : Ending → World → Prop) (h : moraineref1_done.Vc o0 l0 c0 s1 s2 o3 w R) : Calls Try.prog 65 #[(.slice o0 l0 c0), (.agg #[(.string s1), (.string s2), (.pointer o3)])] w R :=
  execF_sound (ann := []) (args := [.slice o0 l0 c0, .agg [.str s1, .str s2, .ptr o3]]) Try.func65 mixed (Eq.mp (by kernel_rfl : moraineref1_done.Vc o0 l0 c0 s1 s2 o3 w R = execF (pA Try.prog R) Try.prog [] Try.f65 [.slice o0 l0 c0, .agg [.str s1, .str s2, .ptr o3]] w) h)

/-! moraine/moraineref1.survives: 66 -/
abbrev moraineref1_survives.n : Nat := 66
def moraineref1_survives.Vc (d0 : Addr) (n1 : Int) (w : World) (R : Ending → World → Prop) : Prop :=
  ∃ o2 : Option Addr, ∃ l3 : Nat, ∃ l4 : Nat, World.cell? w (Addr.add d0 2) = some (.slice o2 l3 l4) ∧
  ∃ (v5 : Value) (w6 : World), Sem.run Try.prog (builtinV .append #[30, 30] 30 #[(.slice none 0 0), (.slice o2 l3 l4)]) w = .ok v5 w6 ∧
  ∃ o7 : Option Addr, ∃ l8 : Nat, ∃ l9 : Nat, v5 = (.slice o7 l8 l9) ∧
  ∃ (I10 : Int → Option Addr → Nat → Nat → Int → World → Prop) (μ10 : Int → Option Addr → Nat → Nat → Int → World → Nat), I10 n1 o7 l8 l9 0 w6 ∧
  (∀ (n11 : Int) (o12 : Option Addr) (l12 : Nat) (c12 : Nat) (n13 : Int) (j14 : Nat → Value) (w14 : World), I10 n11 o12 l12 c12 n13 w14 →
    ∃ o15 : Option Addr, ∃ l16 : Nat, ∃ l17 : Nat, World.cell? w14 (Addr.add d0 3) = some (.slice o15 l16 l17) ∧
    (((n13 < ((l16 : Nat) : Int) →
      ∃ o18 : Option Addr, ∃ l19 : Nat, ∃ l20 : Nat, World.cell? w14 (Addr.add d0 3) = some (.slice o18 l19 l20) ∧
      ∃ d21 : Addr, o18 = some d21 ∧
      ((0 : Int) ≤ n13 ∧ n13 < ((l19 : Nat) : Int)) ∧
      ∃ n22 : Int, ∃ o23 : Option Addr, ∃ l24 : Nat, ∃ l25 : Nat, ∃ n26 : Int, World.cell? w14 (Addr.add d21 ((Int.toNat n13) * 3)) = some (.int .i64 n22) ∧
      World.cell? w14 (Addr.add (Addr.add d21 ((Int.toNat n13) * 3)) 1) = some (.slice o23 l24 l25) ∧
      World.cell? w14 (Addr.add (Addr.add d21 ((Int.toNat n13) * 3)) 2) = some (.int .i64 n26) ∧
      ∀ (d27 : Addr) (w28 : World), IsNew w14 123 #[(.int .i64 0), (.slice none 0 0), (.int .i64 0)] d27 w28 →
      CanSet w28 d27 (.int .i64 n22) ∧ ∀ w29 : World, IsSet w28 d27 (.int .i64 n22) w29 →
      CanSet w29 (Addr.add d27 1) (.slice o23 l24 l25) ∧ ∀ w30 : World, IsSet w29 (Addr.add d27 1) (.slice o23 l24 l25) w30 →
      CanSet w30 (Addr.add d27 2) (.int .i64 n26) ∧ ∀ w31 : World, IsSet w30 (Addr.add d27 2) (.int .i64 n26) w31 →
      ∃ n32 : Int, World.cell? w31 d27 = some (.int .i64 n32) ∧
      (((n32 < 0 →
        (((n11 < 1 →
          R (.returned (.slice o12 l12 c12)) w31)) ∧
         ((¬ n11 < 1 →
          ∃ n33 : Int, World.cell? w31 (Addr.add d27 2) = some (.int .i64 n33) ∧
          ((0 : Int) ≤ n33 ∧ n33 ≤ ((c12 : Nat) : Int)) ∧
          ∃ (v34 : Value) (w35 : World), Sem.run Try.prog (builtinV .append #[30, 30] 30 #[(.slice none 0 0), (.slice o12 (Int.toNat n33) c12)]) w31 = .ok v34 w35 ∧
          ∃ o36 : Option Addr, ∃ l37 : Nat, ∃ l38 : Nat, v34 = (.slice o36 l37 l38) ∧
          I10 (IntKind.wrap .i64 (n11 - 1)) o36 l37 l38 (IntKind.wrap .i64 (n13 + 1)) w35 ∧ μ10 (IntKind.wrap .i64 (n11 - 1)) o36 l37 l38 (IntKind.wrap .i64 (n13 + 1)) w35 < μ10 n11 o12 l12 c12 n13 w14))))) ∧
       ((¬ n32 < 0 →
        ∃ o39 : Option Addr, ∃ l40 : Nat, ∃ l41 : Nat, World.cell? w31 (Addr.add d27 1) = some (.slice o39 l40 l41) ∧
        ∀ w42 : World, IsDrew w31 w42 →
        ∃ n43 : Int, World.cell? w42 d27 = some (.int .i64 n43) ∧
        ∃ o44 : Option Addr, ∃ l45 : Nat, ∃ l46 : Nat, World.cell? w42 (Addr.add d27 1) = some (.slice o44 l45 l46) ∧
        ((0 : Int) ≤ (min ((l40 : Nat) : Int) n11) ∧ (min ((l40 : Nat) : Int) n11) ≤ ((l46 : Nat) : Int)) ∧
        Calls Try.prog 77 #[(.slice o12 l12 c12), (.int .i64 n43), (.slice o44 (Int.toNat (min ((l40 : Nat) : Int) n11)) l46)] w42 (fun e47 w48 =>
          ∃ o49 : Option Addr, ∃ l50 : Nat, ∃ l51 : Nat, e47 = .returned (.slice o49 l50 l51) ∧
          ∃ o52 : Option Addr, ∃ l53 : Nat, ∃ l54 : Nat, World.cell? w48 (Addr.add d27 1) = some (.slice o52 l53 l54) ∧
          ((((min ((l40 : Nat) : Int) n11) < ((l53 : Nat) : Int) →
            R (.returned (.slice o49 l50 l51)) w48)) ∧
           ((¬ (min ((l40 : Nat) : Int) n11) < ((l53 : Nat) : Int) →
            I10 (IntKind.wrap .i64 (n11 - (min ((l40 : Nat) : Int) n11))) o49 l50 l51 (IntKind.wrap .i64 (n13 + 1)) w48 ∧ μ10 (IntKind.wrap .i64 (n11 - (min ((l40 : Nat) : Int) n11))) o49 l50 l51 (IntKind.wrap .i64 (n13 + 1)) w48 < μ10 n11 o12 l12 c12 n13 w14))))))))) ∧
     ((¬ n13 < ((l16 : Nat) : Int) →
      R (.returned (.slice o12 l12 c12)) w14))))
theorem moraineref1_survives.vc (d0 : Addr) (n1 : Int) (w : World) (R : Ending → World → Prop) (h : moraineref1_survives.Vc d0 n1 w R) : Calls Try.prog 66 #[(.pointer (some d0)), (.int .i64 n1)] w R :=
  execF_sound (ann := [(3, [(1, .cell (.int .i64)), (5, .cell (.slice)), (6, .cell (.int .i64))])]) (args := [.addr d0, .int .i64 n1]) Try.func66 mixed (Eq.mp (by kernel_rfl : moraineref1_survives.Vc d0 n1 w R = execF (pA Try.prog R) Try.prog [(3, [(1, .cell (.int .i64)), (5, .cell (.slice)), (6, .cell (.int .i64))])] Try.f66 [.addr d0, .int .i64 n1] w) h)

/-! (*moraine/moraineref1.Disk).Read: 67 -/
abbrev moraineref1_Disk_Read.n : Nat := 67
def moraineref1_Disk_Read.Vc (d0 : Addr) (s1 : ByteArray) (w : World) (R : Ending → World → Prop) : Prop :=
  ∃ b2 : Bool, World.cell? w (Addr.add d0 8) = some (.bool b2) ∧
  (((b2 = true →
    R (.returned (.tuple #[(.slice none 0 0), (.int .i64 17)])) w)) ∧
   ((b2 = false →
    Calls Try.prog 75 #[(.pointer (some d0)), (.string s1)] w (fun e3 w4 =>
      ∃ o5 : Option Addr, ∃ n6 : Int, e3 = .returned (.tuple #[(.pointer o5), (.int .i64 n6)]) ∧
      (((n6 ≠ 0 →
        R (.returned (.tuple #[(.slice none 0 0), (.int .i64 n6)])) w4)) ∧
       ((n6 = 0 →
        ∃ d7 : Addr, o5 = some d7 ∧
        ∃ o8 : Option Addr, ∃ l9 : Nat, ∃ l10 : Nat, World.cell? w4 (Addr.add d7 1) = some (.slice o8 l9 l10) ∧
        R (.returned (.tuple #[(.slice o8 l9 l10), (.int .i64 0)])) w4)))))))
theorem moraineref1_Disk_Read.vc (d0 : Addr) (s1 : ByteArray) (w : World) (R : Ending → World → Prop) (h : moraineref1_Disk_Read.Vc d0 s1 w R) : Calls Try.prog 67 #[(.pointer (some d0)), (.string s1)] w R :=
  execF_sound (ann := []) (args := [.addr d0, .str s1]) Try.func67 mixed (Eq.mp (by kernel_rfl : moraineref1_Disk_Read.Vc d0 s1 w R = execF (pA Try.prog R) Try.prog [] Try.f67 [.addr d0, .str s1] w) h)

/-! (*moraine/moraineref1.Disk).file: 75 -/
abbrev moraineref1_Disk_file.n : Nat := 75
def moraineref1_Disk_file.Vc (d0 : Addr) (s1 : ByteArray) (w : World) (R : Ending → World → Prop) : Prop :=
  Calls Try.prog 61 #[(.string s1)] w (fun e2 w3 =>
    ∃ b4 : Bool, e2 = .returned (.bool b4) ∧
    (((b4 = false →
      R (.returned (.tuple #[(.pointer none), (.int .i64 11)])) w3)) ∧
     ((b4 = true →
      ∃ o5 : Option Addr, ∃ l6 : Nat, ∃ l7 : Nat, World.cell? w3 (Addr.add d0 1) = some (.slice o5 l6 l7) ∧
      Calls Try.prog 62 #[(.slice o5 l6 l7), (.string s1)] w3 (fun e8 w9 =>
        ∃ n10 : Int, e8 = .returned (.int .i64 n10) ∧
        (((n10 < 0 →
          R (.returned (.tuple #[(.pointer none), (.int .i64 13)])) w9)) ∧
         ((¬ n10 < 0 →
          ∃ o11 : Option Addr, ∃ l12 : Nat, ∃ l13 : Nat, World.cell? w9 (Addr.add d0 1) = some (.slice o11 l12 l13) ∧
          ∃ d14 : Addr, o11 = some d14 ∧
          ((0 : Int) ≤ n10 ∧ n10 < ((l12 : Nat) : Int)) ∧
          ∃ o15 : Option Addr, World.cell? w9 (Addr.add (Addr.add d14 ((Int.toNat n10) * 2)) 1) = some (.pointer o15) ∧
          R (.returned (.tuple #[(.pointer o15), (.int .i64 0)])) w9))))))))
theorem moraineref1_Disk_file.vc (d0 : Addr) (s1 : ByteArray) (w : World) (R : Ending → World → Prop) (h : moraineref1_Disk_file.Vc d0 s1 w R) : Calls Try.prog 75 #[(.pointer (some d0)), (.string s1)] w R :=
  execF_sound (ann := []) (args := [.addr d0, .str s1]) Try.func75 mixed (Eq.mp (by kernel_rfl : moraineref1_Disk_file.Vc d0 s1 w R = execF (pA Try.prog R) Try.prog [] Try.f75 [.addr d0, .str s1] w) h)

/-! (*moraine/moraineref1.Disk).Used: 76 -/
abbrev moraineref1_Disk_Used.n : Nat := 76
def moraineref1_Disk_Used.Vc (d0 : Addr) (w : World) (R : Ending → World → Prop) : Prop :=
  ∃ (I1 : Int → Int → World → Prop) (μ1 : Int → Int → World → Nat), I1 0 0 w ∧
  (∀ (n2 : Int) (n3 : Int) (j4 : Nat → Value) (w4 : World), I1 n2 n3 w4 →
    ∃ o5 : Option Addr, ∃ l6 : Nat, ∃ l7 : Nat, World.cell? w4 (Addr.add d0 1) = some (.slice o5 l6 l7) ∧
    (((n3 < ((l6 : Nat) : Int) →
      ∃ o8 : Option Addr, ∃ l9 : Nat, ∃ l10 : Nat, World.cell? w4 (Addr.add d0 1) = some (.slice o8 l9 l10) ∧
      ∃ d11 : Addr, o8 = some d11 ∧
      ((0 : Int) ≤ n3 ∧ n3 < ((l9 : Nat) : Int)) ∧
      ∃ o12 : Option Addr, World.cell? w4 (Addr.add (Addr.add d11 ((Int.toNat n3) * 2)) 1) = some (.pointer o12) ∧
      ∃ d13 : Addr, o12 = some d13 ∧
      ∃ o14 : Option Addr, ∃ l15 : Nat, ∃ l16 : Nat, World.cell? w4 (Addr.add d13 1) = some (.slice o14 l15 l16) ∧
      I1 (IntKind.wrap .i64 (n2 + ((l15 : Nat) : Int))) (IntKind.wrap .i64 (n3 + 1)) w4 ∧ μ1 (IntKind.wrap .i64 (n2 + ((l15 : Nat) : Int))) (IntKind.wrap .i64 (n3 + 1)) w4 < μ1 n2 n3 w4)) ∧
     ((¬ n3 < ((l6 : Nat) : Int) →
      R (.returned (.int .i64 n2)) w4))))
theorem moraineref1_Disk_Used.vc (d0 : Addr) (w : World) (R : Ending → World → Prop) (h : moraineref1_Disk_Used.Vc d0 w R) : Calls Try.prog 76 #[(.pointer (some d0))] w R :=
  execF_sound (ann := [(3, [(3, .cell (.int .i64)), (4, .cell (.int .i64))])]) (args := [.addr d0]) Try.func76 mixed (Eq.mp (by kernel_rfl : moraineref1_Disk_Used.Vc d0 w R = execF (pA Try.prog R) Try.prog [(3, [(3, .cell (.int .i64)), (4, .cell (.int .i64))])] Try.f76 [.addr d0] w) h)

/-! moraine/moraineref1.lay: 77 -/
abbrev moraineref1_lay.n : Nat := 77
def moraineref1_lay.Vc (o0 : Option Addr) (l0 : Nat) (c0 : Nat) (n1 : Int) (o2 : Option Addr) (l2 : Nat) (c2 : Nat) (w : World) (R : Ending → World → Prop) : Prop :=
  ∃ (v3 : Value) (w4 : World), Sem.run Try.prog (builtinV .append #[30, 30] 30 #[(.slice none 0 0), (.slice o0 l0 c0)]) w = .ok v3 w4 ∧
  ∃ o5 : Option Addr, ∃ l6 : Nat, ∃ l7 : Nat, v3 = (.slice o5 l6 l7) ∧
  ∃ (I8 : Option Addr → Nat → Nat → Int → World → Prop) (μ8 : Option Addr → Nat → Nat → Int → World → Nat), I8 o5 l6 l7 0 w4 ∧
  (∀ (o9 : Option Addr) (l9 : Nat) (c9 : Nat) (n10 : Int) (j11 : Nat → Value) (w11 : World), I8 o9 l9 c9 n10 w11 →
    (((n10 < ((l2 : Nat) : Int) →
      ((((IntKind.wrap .i64 (n1 + n10)) < ((l9 : Nat) : Int) →
        ∃ d12 : Addr, o2 = some d12 ∧
        ((0 : Int) ≤ n10 ∧ n10 < ((l2 : Nat) : Int)) ∧
        ∃ n13 : Int, World.cell? w11 (Addr.add d12 (Int.toNat n10)) = some (.int .u8 n13) ∧
        ∃ d14 : Addr, o9 = some d14 ∧
        ((0 : Int) ≤ (IntKind.wrap .i64 (n1 + n10)) ∧ (IntKind.wrap .i64 (n1 + n10)) < ((l9 : Nat) : Int)) ∧
        CanSet w11 (Addr.add d14 (Int.toNat (IntKind.wrap .i64 (n1 + n10)))) (.int .u8 n13) ∧ ∀ w15 : World, IsSet w11 (Addr.add d14 (Int.toNat (IntKind.wrap .i64 (n1 + n10)))) (.int .u8 n13) w15 →
        I8 o9 l9 c9 (IntKind.wrap .i64 (n10 + 1)) w15 ∧ μ8 o9 l9 c9 (IntKind.wrap .i64 (n10 + 1)) w15 < μ8 o9 l9 c9 n10 w11)) ∧
       ((¬ (IntKind.wrap .i64 (n1 + n10)) < ((l9 : Nat) : Int) →
        ∃ d16 : Addr, o2 = some d16 ∧
        ((0 : Int) ≤ n10 ∧ n10 < ((l2 : Nat) : Int)) ∧
        ∃ n17 : Int, World.cell? w11 (Addr.add d16 (Int.toNat n10)) = some (.int .u8 n17) ∧
        ∀ (d18 : Addr) (w19 : World), IsNew w11 5 #[(.int .u8 n17)] d18 w19 →
        ∃ (v20 : Value) (w21 : World), Sem.run Try.prog (builtinV .append #[30, 30] 30 #[(.slice o9 l9 c9), (.slice (some d18) 1 1)]) w19 = .ok v20 w21 ∧
        ∃ o22 : Option Addr, ∃ l23 : Nat, ∃ l24 : Nat, v20 = (.slice o22 l23 l24) ∧
        I8 o22 l23 l24 (IntKind.wrap .i64 (n10 + 1)) w21 ∧ μ8 o22 l23 l24 (IntKind.wrap .i64 (n10 + 1)) w21 < μ8 o9 l9 c9 n10 w11))))) ∧
     ((¬ n10 < ((l2 : Nat) : Int) →
      R (.returned (.slice o9 l9 c9)) w11))))
theorem moraineref1_lay.vc (o0 : Option Addr) (l0 : Nat) (c0 : Nat) (n1 : Int) (o2 : Option Addr) (l2 : Nat) (c2 : Nat) (w : World) (R : Ending → World → Prop) (h : moraineref1_lay.Vc o0 l0 c0 n1 o2 l2 c2 w R) : Calls Try.prog 77 #[(.slice o0 l0 c0), (.int .i64 n1), (.slice o2 l2 c2)] w R :=
  execF_sound (ann := [(3, [(7, .cell (.slice)), (8, .cell (.int .i64))])]) (args := [.slice o0 l0 c0, .int .i64 n1, .slice o2 l2 c2]) Try.func77 mixed (Eq.mp (by kernel_rfl : moraineref1_lay.Vc o0 l0 c0 n1 o2 l2 c2 w R = execF (pA Try.prog R) Try.prog [(3, [(7, .cell (.slice)), (8, .cell (.int .i64))])] Try.f77 [.slice o0 l0 c0, .int .i64 n1, .slice o2 l2 c2] w) h)

/-! moraine/moraineref1.without: 78 -/
abbrev moraineref1_without.n : Nat := 78
def moraineref1_without.Vc (o0 : Option Addr) (l0 : Nat) (c0 : Nat) (s1 : ByteArray) (w : World) (R : Ending → World → Prop) : Prop :=
  ∃ (I2 : Option Addr → Nat → Nat → Int → World → Prop) (μ2 : Option Addr → Nat → Nat → Int → World → Nat), I2 none 0 0 0 w ∧
  (∀ (o3 : Option Addr) (l3 : Nat) (c3 : Nat) (n4 : Int) (j5 : Nat → Value) (w5 : World), I2 o3 l3 c3 n4 w5 →
    (((n4 < ((l0 : Nat) : Int) →
      ∃ d6 : Addr, o0 = some d6 ∧
      ((0 : Int) ≤ n4 ∧ n4 < ((l0 : Nat) : Int)) ∧
      ∃ s7 : ByteArray, World.cell? w5 (Addr.add d6 ((Int.toNat n4) * 2)) = some (.string s7) ∧
      (((strB .neq s7 s1 = true →
        ∃ d8 : Addr, o0 = some d8 ∧
        ((0 : Int) ≤ n4 ∧ n4 < ((l0 : Nat) : Int)) ∧
        ∃ s9 : ByteArray, ∃ o10 : Option Addr, World.cell? w5 (Addr.add d8 ((Int.toNat n4) * 2)) = some (.string s9) ∧
        World.cell? w5 (Addr.add (Addr.add d8 ((Int.toNat n4) * 2)) 1) = some (.pointer o10) ∧
        ∀ (d11 : Addr) (w12 : World), IsNew w5 114 #[(.string s9), (.pointer o10)] d11 w12 →
        ∃ (v13 : Value) (w14 : World), Sem.run Try.prog (builtinV .append #[84, 84] 84 #[(.slice o3 l3 c3), (.slice (some d11) 1 1)]) w12 = .ok v13 w14 ∧
        ∃ o15 : Option Addr, ∃ l16 : Nat, ∃ l17 : Nat, v13 = (.slice o15 l16 l17) ∧
        I2 o15 l16 l17 (IntKind.wrap .i64 (n4 + 1)) w14 ∧ μ2 o15 l16 l17 (IntKind.wrap .i64 (n4 + 1)) w14 < μ2 o3 l3 c3 n4 w5)) ∧
       ((strB .neq s7 s1 = false →
        I2 o3 l3 c3 (IntKind.wrap .i64 (n4 + 1)) w5 ∧ μ2 o3 l3 c3 (IntKind.wrap .i64 (n4 + 1)) w5 < μ2 o3 l3 c3 n4 w5))))) ∧
     ((¬ n4 < ((l0 : Nat) : Int) →
      R (.returned (.slice o3 l3 c3)) w5))))
theorem moraineref1_without.vc (o0 : Option Addr) (l0 : Nat) (c0 : Nat) (s1 : ByteArray) (w : World) (R : Ending → World → Prop) (h : moraineref1_without.Vc o0 l0 c0 s1 w R) : Calls Try.prog 78 #[(.slice o0 l0 c0), (.string s1)] w R :=
  execF_sound (ann := [(3, [(5, .cell (.slice)), (6, .cell (.int .i64))])]) (args := [.slice o0 l0 c0, .str s1]) Try.func78 mixed (Eq.mp (by kernel_rfl : moraineref1_without.Vc o0 l0 c0 s1 w R = execF (pA Try.prog R) Try.prog [(3, [(5, .cell (.slice)), (6, .cell (.int .i64))])] Try.f78 [.slice o0 l0 c0, .str s1] w) h)

end Go.Proofs.Ytkekehngillblaa
end
