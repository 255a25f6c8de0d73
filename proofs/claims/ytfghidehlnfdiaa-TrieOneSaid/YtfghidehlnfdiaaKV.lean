/- The verification conditions of some functions, printed by a program of ours (wip/PrintVc.lean). -/
import Derived.Test.YtfghidehlnfdiaaXFun
import Derived.Test.YtfghidehlnfdiaaProg
import Derived.KernelRfl
section
set_option linter.unusedVariables false
namespace Go.Proofs.Ytfghidehlnfdiaa
open Go Go.Vcg
theorem mixed : Try.prog.follows .mixedOrders = true := by kernel_rfl
/-! moraine/morainelaw3.KeccakSums: 3 -/
abbrev morainelaw3_KeccakSums.n : Nat := 3
def morainelaw3_KeccakSums.Vc (o0 : Option Addr) (l0 : Nat) (c0 : Nat) (o1 : Option Addr) (l1 : Nat) (c1 : Nat) (w : World) (R : Ending → World → Prop) : Prop :=
  Calls Try.prog 17 #[] w (fun e2 w3 =>
    ∃ b4 : Bool, e2 = .returned (.bool b4) ∧
    (((b4 = false →
      R (.returned (.bool false)) w3)) ∧
     ((b4 = true →
      (((((l0 : Nat) : Int) > 1000 →
        R (.returned (.bool true)) w3)) ∧
       ((¬ ((l0 : Nat) : Int) > 1000 →
        (((((l1 : Nat) : Int) > 20 →
          R (.returned (.bool true)) w3)) ∧
         ((¬ ((l1 : Nat) : Int) > 20 →
          Calls Try.prog 18 #[(.slice o0 l0 c0)] w3 (fun e5 w6 =>
            ∃ L7 : Array Value, e5 = .returned (.agg L7) ∧
            ∀ (d8 : Addr) (w9 : World), IsNew w6 26 (Array.replicate 32 (.int .u8 0)) d8 w9 →
            ∃ w10 : World, Sem.run Try.prog (Instr.storeAt 26 (.pointer (some d8)) (.agg L7)) w9 = .ok () w10 ∧
            ∀ w11 : World, IsDrew w10 w11 →
            ∃ L12 : Array Value, RowAt w11 d8 32 L12 ∧
            ∀ (d13 : Addr) (w14 : World), IsNew w11 22 #[(.slice o0 l0 c0)] d13 w14 →
            RowAt w14 d8 32 L12 ∧
            Calls Try.prog 19 #[(.slice (some d13) 1 1)] w14 (fun e15 w16 =>
              ∃ L17 : Array Value, e15 = .returned (.agg L17) ∧
              RowAt w16 d8 32 L12 ∧
              ∃ v18 : Value, Sem.run Try.prog (semBin .neq 26 (.tmp 27) (.tmp 28) (.agg L17) (.agg L12)) w16 = .ok v18 w16 ∧
              ∃ b19 : Bool, v18 = (.bool b19) ∧
              (((b19 = true →
                R (.returned (.bool false)) w16)) ∧
               ((b19 = false →
                Calls Try.prog 20 #[] w16 (fun e20 w21 =>
                  ∃ o22 : Option Addr, e20 = .returned (.pointer o22) ∧
                  ∃ (I23 : Option Addr → Nat → Nat → Int → Int → World → Prop) (μ23 : Option Addr → Nat → Nat → Int → Int → World → Nat), I23 none 0 0 0 0 w21 ∧
                  (∀ (o24 : Option Addr) (l24 : Nat) (c24 : Nat) (n25 : Int) (n26 : Int) (j27 : Nat → Value) (w27 : World), I23 o24 l24 c24 n25 n26 w27 →
                    (((n26 ≤ ((l1 : Nat) : Int) →
                      (((n26 < ((l1 : Nat) : Int) →
                        ∃ d28 : Addr, o1 = some d28 ∧
                        ((0 : Int) ≤ n26 ∧ n26 < ((l1 : Nat) : Int)) ∧
                        ∃ n29 : Int, World.cell? w27 (Addr.add d28 (Int.toNat n26)) = some (.int .i64 n29) ∧
                        ((0 : Int) ≤ (IntKind.wrap .i64 (n25 + (max 0 (min n29 (IntKind.wrap .i64 (((l0 : Nat) : Int) - n25)))))) ∧ (IntKind.wrap .i64 (n25 + (max 0 (min n29 (IntKind.wrap .i64 (((l0 : Nat) : Int) - n25)))))) ≤ ((c0 : Nat) : Int)) ∧
                        ((0 : Int) ≤ n25 ∧ n25 ≤ (((Int.toNat (IntKind.wrap .i64 (n25 + (max 0 (min n29 (IntKind.wrap .i64 (((l0 : Nat) : Int) - n25))))))) : Nat) : Int)) ∧
                        ∃ (v30 : Value) (w31 : World), Sem.run Try.prog (builtinV .append #[22, 22] 22 #[(.slice none 0 0), (.slice (subO o0 c0 (Int.toNat n25) 1) ((Int.toNat (IntKind.wrap .i64 (n25 + (max 0 (min n29 (IntKind.wrap .i64 (((l0 : Nat) : Int) - n25))))))) - (Int.toNat n25)) (c0 - (Int.toNat n25)))]) w27 = .ok v30 w31 ∧
                        ∃ o32 : Option Addr, ∃ l33 : Nat, ∃ l34 : Nat, v30 = (.slice o32 l33 l34) ∧
                        ∃ (v35 : Value) (w36 : World), Sem.run Try.prog (builtinV .append #[22, 22] 22 #[(.slice none 0 0), (.slice o32 l33 l34)]) w31 = .ok v35 w36 ∧
                        ∃ o37 : Option Addr, ∃ l38 : Nat, ∃ l39 : Nat, v35 = (.slice o37 l38 l39) ∧
                        ∀ (d40 : Addr) (w41 : World), IsNew w36 22 #[(.slice o37 l38 l39)] d40 w41 →
                        ∃ (v42 : Value) (w43 : World), Sem.run Try.prog (builtinV .append #[31, 31] 31 #[(.slice o24 l24 c24), (.slice (some d40) 1 1)]) w41 = .ok v42 w43 ∧
                        ∃ o44 : Option Addr, ∃ l45 : Nat, ∃ l46 : Nat, v42 = (.slice o44 l45 l46) ∧
                        Calls Try.prog 21 #[(.pointer o22), (.slice o32 l33 l34)] w43 (fun e47 w48 =>
                          e47 = .returned (.tuple #[]) ∧
                          ∃ (I49 : Int → World → Prop) (μ49 : Int → World → Nat), I49 0 w48 ∧
                          (∀ (n50 : Int) (j51 : Nat → Value) (w51 : World), I49 n50 w51 →
                            (((n50 < ((l33 : Nat) : Int) →
                              ∃ d52 : Addr, o32 = some d52 ∧
                              ((0 : Int) ≤ n50 ∧ n50 < ((l33 : Nat) : Int)) ∧
                              CanSet w51 (Addr.add d52 (Int.toNat n50)) (.int .u8 238) ∧ ∀ w53 : World, IsSet w51 (Addr.add d52 (Int.toNat n50)) (.int .u8 238) w53 →
                              I49 (IntKind.wrap .i64 (n50 + 1)) w53 ∧ μ49 (IntKind.wrap .i64 (n50 + 1)) w53 < μ49 n50 w51)) ∧
                             ((¬ n50 < ((l33 : Nat) : Int) →
                              ∀ w54 : World, IsDrew w51 w54 →
                              ((0 : Int) ≤ (IntKind.wrap .i64 (n25 + (max 0 (min n29 (IntKind.wrap .i64 (((l0 : Nat) : Int) - n25)))))) ∧ (IntKind.wrap .i64 (n25 + (max 0 (min n29 (IntKind.wrap .i64 (((l0 : Nat) : Int) - n25)))))) ≤ ((c0 : Nat) : Int)) ∧
                              Calls Try.prog 22 #[(.pointer o22)] w54 (fun e55 w56 =>
                                ∃ L57 : Array Value, e55 = .returned (.agg L57) ∧
                                Calls Try.prog 18 #[(.slice o0 (Int.toNat (IntKind.wrap .i64 (n25 + (max 0 (min n29 (IntKind.wrap .i64 (((l0 : Nat) : Int) - n25))))))) c0)] w56 (fun e58 w59 =>
                                  ∃ L60 : Array Value, e58 = .returned (.agg L60) ∧
                                  ∃ v61 : Value, Sem.run Try.prog (semBin .neq 26 (.tmp 80) (.tmp 84) (.agg L57) (.agg L60)) w59 = .ok v61 w59 ∧
                                  ∃ b62 : Bool, v61 = (.bool b62) ∧
                                  (((b62 = true →
                                    R (.returned (.bool false)) w59)) ∧
                                   ((b62 = false →
                                    I23 o44 l45 l46 (IntKind.wrap .i64 (n25 + (max 0 (min n29 (IntKind.wrap .i64 (((l0 : Nat) : Int) - n25)))))) (IntKind.wrap .i64 (n26 + 1)) w59 ∧ μ23 o44 l45 l46 (IntKind.wrap .i64 (n25 + (max 0 (min n29 (IntKind.wrap .i64 (((l0 : Nat) : Int) - n25)))))) (IntKind.wrap .i64 (n26 + 1)) w59 < μ23 o24 l24 c24 n25 n26 w27)))))))))))) ∧
                       ((¬ n26 < ((l1 : Nat) : Int) →
                        ((0 : Int) ≤ (IntKind.wrap .i64 (n25 + (IntKind.wrap .i64 (((l0 : Nat) : Int) - n25)))) ∧ (IntKind.wrap .i64 (n25 + (IntKind.wrap .i64 (((l0 : Nat) : Int) - n25)))) ≤ ((c0 : Nat) : Int)) ∧
                        ((0 : Int) ≤ n25 ∧ n25 ≤ (((Int.toNat (IntKind.wrap .i64 (n25 + (IntKind.wrap .i64 (((l0 : Nat) : Int) - n25))))) : Nat) : Int)) ∧
                        ∃ (v63 : Value) (w64 : World), Sem.run Try.prog (builtinV .append #[22, 22] 22 #[(.slice none 0 0), (.slice (subO o0 c0 (Int.toNat n25) 1) ((Int.toNat (IntKind.wrap .i64 (n25 + (IntKind.wrap .i64 (((l0 : Nat) : Int) - n25))))) - (Int.toNat n25)) (c0 - (Int.toNat n25)))]) w27 = .ok v63 w64 ∧
                        ∃ o65 : Option Addr, ∃ l66 : Nat, ∃ l67 : Nat, v63 = (.slice o65 l66 l67) ∧
                        ∃ (v68 : Value) (w69 : World), Sem.run Try.prog (builtinV .append #[22, 22] 22 #[(.slice none 0 0), (.slice o65 l66 l67)]) w64 = .ok v68 w69 ∧
                        ∃ o70 : Option Addr, ∃ l71 : Nat, ∃ l72 : Nat, v68 = (.slice o70 l71 l72) ∧
                        ∀ (d73 : Addr) (w74 : World), IsNew w69 22 #[(.slice o70 l71 l72)] d73 w74 →
                        ∃ (v75 : Value) (w76 : World), Sem.run Try.prog (builtinV .append #[31, 31] 31 #[(.slice o24 l24 c24), (.slice (some d73) 1 1)]) w74 = .ok v75 w76 ∧
                        ∃ o77 : Option Addr, ∃ l78 : Nat, ∃ l79 : Nat, v75 = (.slice o77 l78 l79) ∧
                        Calls Try.prog 21 #[(.pointer o22), (.slice o65 l66 l67)] w76 (fun e80 w81 =>
                          e80 = .returned (.tuple #[]) ∧
                          ∃ (I82 : Int → World → Prop) (μ82 : Int → World → Nat), I82 0 w81 ∧
                          (∀ (n83 : Int) (j84 : Nat → Value) (w84 : World), I82 n83 w84 →
                            (((n83 < ((l66 : Nat) : Int) →
                              ∃ d85 : Addr, o65 = some d85 ∧
                              ((0 : Int) ≤ n83 ∧ n83 < ((l66 : Nat) : Int)) ∧
                              CanSet w84 (Addr.add d85 (Int.toNat n83)) (.int .u8 238) ∧ ∀ w86 : World, IsSet w84 (Addr.add d85 (Int.toNat n83)) (.int .u8 238) w86 →
                              I82 (IntKind.wrap .i64 (n83 + 1)) w86 ∧ μ82 (IntKind.wrap .i64 (n83 + 1)) w86 < μ82 n83 w84)) ∧
                             ((¬ n83 < ((l66 : Nat) : Int) →
                              ∀ w87 : World, IsDrew w84 w87 →
                              ((0 : Int) ≤ (IntKind.wrap .i64 (n25 + (IntKind.wrap .i64 (((l0 : Nat) : Int) - n25)))) ∧ (IntKind.wrap .i64 (n25 + (IntKind.wrap .i64 (((l0 : Nat) : Int) - n25)))) ≤ ((c0 : Nat) : Int)) ∧
                              Calls Try.prog 22 #[(.pointer o22)] w87 (fun e88 w89 =>
                                ∃ L90 : Array Value, e88 = .returned (.agg L90) ∧
                                Calls Try.prog 18 #[(.slice o0 (Int.toNat (IntKind.wrap .i64 (n25 + (IntKind.wrap .i64 (((l0 : Nat) : Int) - n25))))) c0)] w89 (fun e91 w92 =>
                                  ∃ L93 : Array Value, e91 = .returned (.agg L93) ∧
                                  ∃ v94 : Value, Sem.run Try.prog (semBin .neq 26 (.tmp 80) (.tmp 84) (.agg L90) (.agg L93)) w92 = .ok v94 w92 ∧
                                  ∃ b95 : Bool, v94 = (.bool b95) ∧
                                  (((b95 = true →
                                    R (.returned (.bool false)) w92)) ∧
                                   ((b95 = false →
                                    I23 o77 l78 l79 (IntKind.wrap .i64 (n25 + (IntKind.wrap .i64 (((l0 : Nat) : Int) - n25)))) (IntKind.wrap .i64 (n26 + 1)) w92 ∧ μ23 o77 l78 l79 (IntKind.wrap .i64 (n25 + (IntKind.wrap .i64 (((l0 : Nat) : Int) - n25)))) (IntKind.wrap .i64 (n26 + 1)) w92 < μ23 o24 l24 c24 n25 n26 w27))))))))))))))) ∧
                     ((¬ n26 ≤ ((l1 : Nat) : Int) →
                      ∀ w96 : World, IsDrew w27 w96 →
                      ∃ L97 : Array Value, RowAt w96 d8 32 L97 ∧
                      Calls Try.prog 22 #[(.pointer o22)] w96 (fun e98 w99 =>
                        ∃ L100 : Array Value, e98 = .returned (.agg L100) ∧
                        RowAt w99 d8 32 L97 ∧
                        ∃ v101 : Value, Sem.run Try.prog (semBin .eql 26 (.tmp 87) (.tmp 88) (.agg L100) (.agg L97)) w99 = .ok v101 w99 ∧
                        ∃ b102 : Bool, v101 = (.bool b102) ∧
                        (((b102 = true →
                          ∃ L103 : Array Value, RowAt w99 d8 32 L103 ∧
                          Calls Try.prog 19 #[(.slice o24 l24 c24)] w99 (fun e104 w105 =>
                            ∃ L106 : Array Value, e104 = .returned (.agg L106) ∧
                            RowAt w105 d8 32 L103 ∧
                            ∃ v107 : Value, Sem.run Try.prog (semBin .eql 26 (.tmp 92) (.tmp 93) (.agg L106) (.agg L103)) w105 = .ok v107 w105 ∧
                            ∃ b108 : Bool, v107 = (.bool b108) ∧
                            R (.returned (.bool b108)) w105))) ∧
                         ((b102 = false →
                          R (.returned (.bool false)) w99))))))))))))))))))))))))
theorem morainelaw3_KeccakSums.vc (o0 : Option Addr) (l0 : Nat) (c0 : Nat) (o1 : Option Addr) (l1 : Nat) (c1 : Nat) (w : World) (R : Ending → World → Prop) (h : morainelaw3_KeccakSums.Vc o0 l0 c0 o1 l1 c1 w R) : Calls Try.prog 3 #[(.slice o0 l0 c0), (.slice o1 l1 c1)] w R :=
  execF_sound (ann := [(12, [(7, .cell (.slice)), (8, .cell (.int .i64)), (9, .cell (.int .i64))]), (21, [(12, .cell (.int .i64))])]) (args := [.slice o0 l0 c0, .slice o1 l1 c1]) Try.func3 mixed (Eq.mp (by kernel_rfl : morainelaw3_KeccakSums.Vc o0 l0 c0 o1 l1 c1 w R = execF (pA Try.prog R) Try.prog [(12, [(7, .cell (.slice)), (8, .cell (.int .i64)), (9, .cell (.int .i64))]), (21, [(12, .cell (.int .i64))])] Try.f3 [.slice o0 l0 c0, .slice o1 l1 c1] w) h)

/-! moraine/morainelaw3.KeccakTwo: 4 -/
abbrev morainelaw3_KeccakTwo.n : Nat := 4
def morainelaw3_KeccakTwo.Vc (o0 : Option Addr) (l0 : Nat) (c0 : Nat) (w : World) (R : Ending → World → Prop) : Prop :=
  Calls Try.prog 17 #[] w (fun e1 w2 =>
    ∃ b3 : Bool, e1 = .returned (.bool b3) ∧
    (((b3 = false →
      R (.returned (.bool false)) w2)) ∧
     ((b3 = true →
      (((((l0 : Nat) : Int) > 12 →
        R (.returned (.bool true)) w2)) ∧
       ((¬ ((l0 : Nat) : Int) > 12 →
        Calls Try.prog 20 #[] w2 (fun e4 w5 =>
          ∃ o6 : Option Addr, e4 = .returned (.pointer o6) ∧
          Calls Try.prog 20 #[] w5 (fun e7 w8 =>
            ∃ o9 : Option Addr, e7 = .returned (.pointer o9) ∧
            ∀ (d10 : Addr) (w11 : World), IsNew w8 35 #[(.pointer none), (.pointer none)] d10 w11 →
            CanSet w11 d10 (.pointer o6) ∧ ∀ w12 : World, IsSet w11 d10 (.pointer o6) w12 →
            CanSet w12 (Addr.add d10 1) (.pointer o9) ∧ ∀ w13 : World, IsSet w12 (Addr.add d10 1) (.pointer o9) w13 →
            ∀ (d14 : Addr) (w15 : World), IsNew w13 36 #[(.slice none 0 0), (.slice none 0 0)] d14 w15 →
            ∃ (I16 : Int → World → Prop) (μ16 : Int → World → Nat), I16 0 w15 ∧
            (∀ (n17 : Int) (j18 : Nat → Value) (w18 : World), I16 n17 w18 →
              (((n17 < ((l0 : Nat) : Int) →
                ∃ d19 : Addr, o0 = some d19 ∧
                ((0 : Int) ≤ n17 ∧ n17 < ((l0 : Nat) : Int)) ∧
                ∃ o20 : Option Addr, ∃ l21 : Nat, ∃ l22 : Nat, World.cell? w18 (Addr.add d19 (Int.toNat n17)) = some (.slice o20 l21 l22) ∧
                (((((l21 : Nat) : Int) > 200 →
                  R (.returned (.bool true)) w18)) ∧
                 ((¬ ((l21 : Nat) : Int) > 200 →
                  ∀ w23 : World, IsDrew w18 w23 →
                  ((0 : Int) ≤ (Int.tmod n17 2) ∧ (Int.tmod n17 2) < ((2 : Nat) : Int)) ∧
                  ∃ o24 : Option Addr, World.cell? w23 (Addr.add d10 (Int.toNat (Int.tmod n17 2))) = some (.pointer o24) ∧
                  ∃ d25 : Addr, o0 = some d25 ∧
                  ((0 : Int) ≤ n17 ∧ n17 < ((l0 : Nat) : Int)) ∧
                  ∃ o26 : Option Addr, ∃ l27 : Nat, ∃ l28 : Nat, World.cell? w23 (Addr.add d25 (Int.toNat n17)) = some (.slice o26 l27 l28) ∧
                  ∃ (v29 : Value) (w30 : World), Sem.run Try.prog (builtinV .append #[22, 22] 22 #[(.slice none 0 0), (.slice o26 l27 l28)]) w23 = .ok v29 w30 ∧
                  ∃ o31 : Option Addr, ∃ l32 : Nat, ∃ l33 : Nat, v29 = (.slice o31 l32 l33) ∧
                  World.cell? w30 (Addr.add d10 (Int.toNat (Int.tmod n17 2))) = some (.pointer o24) ∧
                  Calls Try.prog 21 #[(.pointer o24), (.slice o31 l32 l33)] w30 (fun e34 w35 =>
                    e34 = .returned (.tuple #[]) ∧
                    ∀ w36 : World, IsDrew w35 w36 →
                    ((0 : Int) ≤ (Int.tmod n17 2) ∧ (Int.tmod n17 2) < ((2 : Nat) : Int)) ∧
                    ∃ o37 : Option Addr, ∃ l38 : Nat, ∃ l39 : Nat, World.cell? w36 (Addr.add d14 (Int.toNat (Int.tmod n17 2))) = some (.slice o37 l38 l39) ∧
                    ∃ d40 : Addr, o0 = some d40 ∧
                    ((0 : Int) ≤ n17 ∧ n17 < ((l0 : Nat) : Int)) ∧
                    ∃ o41 : Option Addr, ∃ l42 : Nat, ∃ l43 : Nat, World.cell? w36 (Addr.add d40 (Int.toNat n17)) = some (.slice o41 l42 l43) ∧
                    ∃ (v44 : Value) (w45 : World), Sem.run Try.prog (builtinV .append #[22, 22] 22 #[(.slice o37 l38 l39), (.slice o41 l42 l43)]) w36 = .ok v44 w45 ∧
                    ∃ o46 : Option Addr, ∃ l47 : Nat, ∃ l48 : Nat, v44 = (.slice o46 l47 l48) ∧
                    ((0 : Int) ≤ (Int.tmod n17 2) ∧ (Int.tmod n17 2) < ((2 : Nat) : Int)) ∧
                    CanSet w45 (Addr.add d14 (Int.toNat (Int.tmod n17 2))) (.slice o46 l47 l48) ∧ ∀ w49 : World, IsSet w45 (Addr.add d14 (Int.toNat (Int.tmod n17 2))) (.slice o46 l47 l48) w49 →
                    I16 (IntKind.wrap .i64 (n17 + 1)) w49 ∧ μ16 (IntKind.wrap .i64 (n17 + 1)) w49 < μ16 n17 w18)))))) ∧
               ((¬ n17 < ((l0 : Nat) : Int) →
                ∀ (d50 : Addr) (w51 : World), IsNew w18 37 (Array.replicate 64 (.int .u8 0)) d50 w51 →
                ∃ (I52 : Int → World → Prop) (μ52 : Int → World → Nat), I52 0 w51 ∧
                (∀ (n53 : Int) (j54 : Nat → Value) (w54 : World), I52 n53 w54 →
                  (((n53 < 2 →
                    ((0 : Int) ≤ n53 ∧ n53 < ((2 : Nat) : Int)) ∧
                    ∃ o55 : Option Addr, ∃ l56 : Nat, ∃ l57 : Nat, World.cell? w54 (Addr.add d14 (Int.toNat n53)) = some (.slice o55 l56 l57) ∧
                    Calls Try.prog 18 #[(.slice o55 l56 l57)] w54 (fun e58 w59 =>
                      ∃ L60 : Array Value, e58 = .returned (.agg L60) ∧
                      ((0 : Int) ≤ n53 ∧ n53 < ((2 : Nat) : Int)) ∧
                      ∃ w61 : World, Sem.run Try.prog (Instr.storeAt 26 (.pointer (some (Addr.add d50 ((Int.toNat n53) * 32)))) (.agg L60)) w59 = .ok () w61 ∧
                      I52 (IntKind.wrap .i64 (n53 + 1)) w61 ∧ μ52 (IntKind.wrap .i64 (n53 + 1)) w61 < μ52 n53 w54))) ∧
                   ((¬ n53 < 2 →
                    ∀ w62 : World, IsDrew w54 w62 →
                    ∃ o63 : Option Addr, World.cell? w62 d10 = some (.pointer o63) ∧
                    ∃ L64 : Array Value, RowAt w62 d50 32 L64 ∧
                    Calls Try.prog 22 #[(.pointer o63)] w62 (fun e65 w66 =>
                      ∃ L67 : Array Value, e65 = .returned (.agg L67) ∧
                      RowAt w66 d50 32 L64 ∧
                      ∃ v68 : Value, Sem.run Try.prog (semBin .eql 26 (.tmp 62) (.tmp 64) (.agg L67) (.agg L64)) w66 = .ok v68 w66 ∧
                      ∃ b69 : Bool, v68 = (.bool b69) ∧
                      (((b69 = true →
                        ∃ o70 : Option Addr, World.cell? w66 (Addr.add d10 1) = some (.pointer o70) ∧
                        ∃ L71 : Array Value, RowAt w66 (Addr.add d50 32) 32 L71 ∧
                        Calls Try.prog 22 #[(.pointer o70)] w66 (fun e72 w73 =>
                          ∃ L74 : Array Value, e72 = .returned (.agg L74) ∧
                          RowAt w73 (Addr.add d50 32) 32 L71 ∧
                          ∃ v75 : Value, Sem.run Try.prog (semBin .eql 26 (.tmp 69) (.tmp 71) (.agg L74) (.agg L71)) w73 = .ok v75 w73 ∧
                          ∃ b76 : Bool, v75 = (.bool b76) ∧
                          (((b76 = true →
                            ∃ o77 : Option Addr, World.cell? w73 d10 = some (.pointer o77) ∧
                            ∃ L78 : Array Value, RowAt w73 d50 32 L78 ∧
                            Calls Try.prog 22 #[(.pointer o77)] w73 (fun e79 w80 =>
                              ∃ L81 : Array Value, e79 = .returned (.agg L81) ∧
                              RowAt w80 d50 32 L78 ∧
                              ∃ v82 : Value, Sem.run Try.prog (semBin .eql 26 (.tmp 77) (.tmp 79) (.agg L81) (.agg L78)) w80 = .ok v82 w80 ∧
                              ∃ b83 : Bool, v82 = (.bool b83) ∧
                              R (.returned (.bool b83)) w80))) ∧
                           ((b76 = false →
                            R (.returned (.bool false)) w73)))))) ∧
                       ((b69 = false →
                        R (.returned (.bool false)) w66)))))))))))))))))))))
theorem morainelaw3_KeccakTwo.vc (o0 : Option Addr) (l0 : Nat) (c0 : Nat) (w : World) (R : Ending → World → Prop) (h : morainelaw3_KeccakTwo.Vc o0 l0 c0 w R) : Calls Try.prog 4 #[(.slice o0 l0 c0)] w R :=
  execF_sound (ann := [(8, [(5, .cell (.int .i64))]), (16, [(7, .cell (.int .i64))])]) (args := [.slice o0 l0 c0]) Try.func4 mixed (Eq.mp (by kernel_rfl : morainelaw3_KeccakTwo.Vc o0 l0 c0 w R = execF (pA Try.prog R) Try.prog [(8, [(5, .cell (.int .i64))]), (16, [(7, .cell (.int .i64))])] Try.f4 [.slice o0 l0 c0] w) h)

/-! moraine/morainelaw3.KeccakPermutes: 5 -/
abbrev morainelaw3_KeccakPermutes.n : Nat := 5
def morainelaw3_KeccakPermutes.Vc (L0 : Array Value) (w : World) (R : Ending → World → Prop) : Prop :=
  ∀ (d1 : Addr) (w2 : World), IsNew w 40 L0 d1 w2 →
  ∀ w3 : World, IsDrew w2 w3 →
  Calls Try.prog 17 #[] w3 (fun e4 w5 =>
    ∃ b6 : Bool, e4 = .returned (.bool b6) ∧
    (((b6 = true →
      ∃ L7 : Array Value, RowAt w5 d1 25 L7 ∧
      ∃ L8 : Array Value, RowAt w5 d1 25 L8 ∧
      Calls Try.prog 23 #[(.agg L7)] w5 (fun e9 w10 =>
        ∃ L11 : Array Value, e9 = .returned (.agg L11) ∧
        RowAt w10 d1 25 L8 ∧
        Calls Try.prog 24 #[(.agg L8)] w10 (fun e12 w13 =>
          ∃ L14 : Array Value, e12 = .returned (.agg L14) ∧
          ∃ v15 : Value, Sem.run Try.prog (semBin .eql 40 (.tmp 6) (.tmp 8) (.agg L11) (.agg L14)) w13 = .ok v15 w13 ∧
          ∃ b16 : Bool, v15 = (.bool b16) ∧
          R (.returned (.bool b16)) w13)))) ∧
     ((b6 = false →
      R (.returned (.bool false)) w5))))
theorem morainelaw3_KeccakPermutes.vc (L0 : Array Value) (w : World) (R : Ending → World → Prop) (h : morainelaw3_KeccakPermutes.Vc L0 w R) : Calls Try.prog 5 #[(.agg L0)] w R :=
  execF_sound (ann := []) (args := [.big 25 L0]) Try.func5 mixed (Eq.mp (by kernel_rfl : morainelaw3_KeccakPermutes.Vc L0 w R = execF (pA Try.prog R) Try.prog [] Try.f5 [.big 25 L0] w) h)

/-! moraine/morainelaw3.KeccakApart: 6 -/
abbrev morainelaw3_KeccakApart.n : Nat := 6
def morainelaw3_KeccakApart.Vc (L0 : Array Value) (n1 : Int) (n2 : Int) (w : World) (R : Ending → World → Prop) : Prop :=
  ∀ (d3 : Addr) (w4 : World), IsNew w 40 L0 d3 w4 →
  Calls Try.prog 17 #[] w4 (fun e5 w6 =>
    ∃ b7 : Bool, e5 = .returned (.bool b7) ∧
    (((b7 = false →
      R (.returned (.bool false)) w6)) ∧
     ((b7 = true →
      (((n1 < 0 →
        R (.returned (.bool true)) w6)) ∧
       ((¬ n1 < 0 →
        (((n1 > 24 →
          R (.returned (.bool true)) w6)) ∧
         ((¬ n1 > 24 →
          (((n2 = 0 →
            R (.returned (.bool true)) w6)) ∧
           ((n2 ≠ 0 →
            ∃ L8 : Array Value, RowAt w6 d3 25 L8 ∧
            ∀ (d9 : Addr) (w10 : World), IsNew w6 40 (Array.replicate 25 (.int .u64 0)) d9 w10 →
            ∃ w11 : World, Sem.run Try.prog (Instr.storeAt 40 (.pointer (some d9)) (.agg L8)) w10 = .ok () w11 ∧
            ((0 : Int) ≤ n1 ∧ n1 < ((25 : Nat) : Int)) ∧
            ∃ n12 : Int, World.cell? w11 (Addr.add d9 (Int.toNat n1)) = some (.int .u64 n12) ∧
            ((0 : Int) ≤ n1 ∧ n1 < ((25 : Nat) : Int)) ∧
            CanSet w11 (Addr.add d9 (Int.toNat n1)) (.int .u64 (bitsI .xor .u64 n12 n2)) ∧ ∀ w13 : World, IsSet w11 (Addr.add d9 (Int.toNat n1)) (.int .u64 (bitsI .xor .u64 n12 n2)) w13 →
            ∀ w14 : World, IsDrew w13 w14 →
            ∃ L15 : Array Value, RowAt w14 d3 25 L15 ∧
            ∃ L16 : Array Value, RowAt w14 d9 25 L16 ∧
            Calls Try.prog 23 #[(.agg L15)] w14 (fun e17 w18 =>
              ∃ L19 : Array Value, e17 = .returned (.agg L19) ∧
              RowAt w18 d9 25 L16 ∧
              Calls Try.prog 23 #[(.agg L16)] w18 (fun e20 w21 =>
                ∃ L22 : Array Value, e20 = .returned (.agg L22) ∧
                ∃ v23 : Value, Sem.run Try.prog (semBin .neq 40 (.tmp 29) (.tmp 31) (.agg L19) (.agg L22)) w21 = .ok v23 w21 ∧
                ∃ b24 : Bool, v23 = (.bool b24) ∧
                R (.returned (.bool b24)) w21)))))))))))))))
theorem morainelaw3_KeccakApart.vc (L0 : Array Value) (n1 : Int) (n2 : Int) (w : World) (R : Ending → World → Prop) (h : morainelaw3_KeccakApart.Vc L0 n1 n2 w R) : Calls Try.prog 6 #[(.agg L0), (.int .i64 n1), (.int .u64 n2)] w R :=
  execF_sound (ann := []) (args := [.big 25 L0, .int .i64 n1, .int .u64 n2]) Try.func6 mixed (Eq.mp (by kernel_rfl : morainelaw3_KeccakApart.Vc L0 n1 n2 w R = execF (pA Try.prog R) Try.prog [] Try.f6 [.big 25 L0, .int .i64 n1, .int .u64 n2] w) h)

/-! moraine/morainelaw3.known: 17 -/
abbrev morainelaw3_known.n : Nat := 17
def morainelaw3_known.Vc  (w : World) (R : Ending → World → Prop) : Prop :=
  ∀ (d0 : Addr) (w1 : World), IsNew w 5 #[(.int .u8 97), (.int .u8 98), (.int .u8 99)] d0 w1 →
  ∃ (v2 : Value) (w3 : World), Sem.run Try.prog (convert 22 22 (.slice (some d0) 3 3)) w1 = .ok v2 w3 ∧
  ∃ o4 : Option Addr, ∃ l5 : Nat, ∃ l6 : Nat, v2 = (.slice o4 l5 l6) ∧
  ∀ (d7 : Addr) (w8 : World), IsNew w3 22 #[(.slice o4 l5 l6)] d7 w8 →
  Calls Try.prog 19 #[(.slice (some d7) 1 1)] w8 (fun e9 w10 =>
    ∃ L11 : Array Value, e9 = .returned (.agg L11) ∧
    ∀ (d12 : Addr) (w13 : World), IsNew w10 26 (Array.replicate 32 (.int .u8 0)) d12 w13 →
    ∃ w14 : World, Sem.run Try.prog (Instr.storeAt 26 (.pointer (some d12)) (.agg L11)) w13 = .ok () w14 ∧
    ∃ n15 : Int, World.cell? w14 d12 = some (.int .u8 n15) ∧
    (((n15 = 78 →
      ∃ n16 : Int, World.cell? w14 (Addr.add d12 31) = some (.int .u8 n16) ∧
      R (.returned (.bool (decide (n16 = 69)))) w14)) ∧
     ((n15 ≠ 78 →
      R (.returned (.bool false)) w14))))
theorem morainelaw3_known.vc  (w : World) (R : Ending → World → Prop) (h : morainelaw3_known.Vc w R) : Calls Try.prog 17 #[] w R :=
  execF_sound (ann := []) (args := []) Try.func17 mixed (Eq.mp (by kernel_rfl : morainelaw3_known.Vc w R = execF (pA Try.prog R) Try.prog [] Try.f17 [] w) h)

/-! moraine/moraineref3.Sum: 18 -/
abbrev moraineref3_Sum.n : Nat := 18
def moraineref3_Sum.Vc (o0 : Option Addr) (l0 : Nat) (c0 : Nat) (w : World) (R : Ending → World → Prop) : Prop :=
  ∀ (d1 : Addr) (w2 : World), IsNew w 26 (Array.replicate 32 (.int .u8 0)) d1 w2 →
  ∀ (d3 : Addr) (w4 : World), IsNew w2 40 (Array.replicate 25 (.int .u64 0)) d3 w4 →
  ∃ (I5 : Int → World → Prop) (μ5 : Int → World → Nat), I5 0 w4 ∧
  (∀ (n6 : Int) (j7 : Nat → Value) (w7 : World), I5 n6 w7 →
    (((n6 ≤ ((l0 : Nat) : Int) →
      ∃ (I8 : Int → World → Prop) (μ8 : Int → World → Nat), I8 0 w7 ∧
      (∀ (n9 : Int) (j10 : Nat → Value) (w10 : World), I8 n9 w10 →
        (((n9 < 136 →
          ((((IntKind.wrap .i64 (n6 + n9)) < ((l0 : Nat) : Int) →
            ∃ d11 : Addr, o0 = some d11 ∧
            ((0 : Int) ≤ (IntKind.wrap .i64 (n6 + n9)) ∧ (IntKind.wrap .i64 (n6 + n9)) < ((l0 : Nat) : Int)) ∧
            ∃ n12 : Int, World.cell? w10 (Addr.add d11 (Int.toNat (IntKind.wrap .i64 (n6 + n9)))) = some (.int .u8 n12) ∧
            (((n9 = 135 →
              ((((IntKind.wrap .i64 (n6 + 136)) > ((l0 : Nat) : Int) →
                ∀ w13 : World, IsDrew w10 w13 →
                ((0 : Int) ≤ (IntKind.wrap .i64 (Int.tdiv n9 8)) ∧ (IntKind.wrap .i64 (Int.tdiv n9 8)) < ((25 : Nat) : Int)) ∧
                ∃ n14 : Int, World.cell? w13 (Addr.add d3 (Int.toNat (IntKind.wrap .i64 (Int.tdiv n9 8)))) = some (.int .u64 n14) ∧
                (0 : Int) ≤ (IntKind.wrap .i64 (8 * (Int.tmod n9 8))) ∧
                ((0 : Int) ≤ (IntKind.wrap .i64 (Int.tdiv n9 8)) ∧ (IntKind.wrap .i64 (Int.tdiv n9 8)) < ((25 : Nat) : Int)) ∧
                CanSet w13 (Addr.add d3 (Int.toNat (IntKind.wrap .i64 (Int.tdiv n9 8)))) (.int .u64 (bitsI .xor .u64 n14 (shlI .u64 (IntKind.wrap .u64 (bitsI .or .u8 n12 128)) (IntKind.wrap .i64 (8 * (Int.tmod n9 8)))))) ∧ ∀ w15 : World, IsSet w13 (Addr.add d3 (Int.toNat (IntKind.wrap .i64 (Int.tdiv n9 8)))) (.int .u64 (bitsI .xor .u64 n14 (shlI .u64 (IntKind.wrap .u64 (bitsI .or .u8 n12 128)) (IntKind.wrap .i64 (8 * (Int.tmod n9 8)))))) w15 →
                I8 (IntKind.wrap .i64 (n9 + 1)) w15 ∧ μ8 (IntKind.wrap .i64 (n9 + 1)) w15 < μ8 n9 w10)) ∧
               ((¬ (IntKind.wrap .i64 (n6 + 136)) > ((l0 : Nat) : Int) →
                ∀ w16 : World, IsDrew w10 w16 →
                ((0 : Int) ≤ (IntKind.wrap .i64 (Int.tdiv n9 8)) ∧ (IntKind.wrap .i64 (Int.tdiv n9 8)) < ((25 : Nat) : Int)) ∧
                ∃ n17 : Int, World.cell? w16 (Addr.add d3 (Int.toNat (IntKind.wrap .i64 (Int.tdiv n9 8)))) = some (.int .u64 n17) ∧
                (0 : Int) ≤ (IntKind.wrap .i64 (8 * (Int.tmod n9 8))) ∧
                ((0 : Int) ≤ (IntKind.wrap .i64 (Int.tdiv n9 8)) ∧ (IntKind.wrap .i64 (Int.tdiv n9 8)) < ((25 : Nat) : Int)) ∧
                CanSet w16 (Addr.add d3 (Int.toNat (IntKind.wrap .i64 (Int.tdiv n9 8)))) (.int .u64 (bitsI .xor .u64 n17 (shlI .u64 (IntKind.wrap .u64 n12) (IntKind.wrap .i64 (8 * (Int.tmod n9 8)))))) ∧ ∀ w18 : World, IsSet w16 (Addr.add d3 (Int.toNat (IntKind.wrap .i64 (Int.tdiv n9 8)))) (.int .u64 (bitsI .xor .u64 n17 (shlI .u64 (IntKind.wrap .u64 n12) (IntKind.wrap .i64 (8 * (Int.tmod n9 8)))))) w18 →
                I8 (IntKind.wrap .i64 (n9 + 1)) w18 ∧ μ8 (IntKind.wrap .i64 (n9 + 1)) w18 < μ8 n9 w10))))) ∧
             ((n9 ≠ 135 →
              ∀ w19 : World, IsDrew w10 w19 →
              ((0 : Int) ≤ (IntKind.wrap .i64 (Int.tdiv n9 8)) ∧ (IntKind.wrap .i64 (Int.tdiv n9 8)) < ((25 : Nat) : Int)) ∧
              ∃ n20 : Int, World.cell? w19 (Addr.add d3 (Int.toNat (IntKind.wrap .i64 (Int.tdiv n9 8)))) = some (.int .u64 n20) ∧
              (0 : Int) ≤ (IntKind.wrap .i64 (8 * (Int.tmod n9 8))) ∧
              ((0 : Int) ≤ (IntKind.wrap .i64 (Int.tdiv n9 8)) ∧ (IntKind.wrap .i64 (Int.tdiv n9 8)) < ((25 : Nat) : Int)) ∧
              CanSet w19 (Addr.add d3 (Int.toNat (IntKind.wrap .i64 (Int.tdiv n9 8)))) (.int .u64 (bitsI .xor .u64 n20 (shlI .u64 (IntKind.wrap .u64 n12) (IntKind.wrap .i64 (8 * (Int.tmod n9 8)))))) ∧ ∀ w21 : World, IsSet w19 (Addr.add d3 (Int.toNat (IntKind.wrap .i64 (Int.tdiv n9 8)))) (.int .u64 (bitsI .xor .u64 n20 (shlI .u64 (IntKind.wrap .u64 n12) (IntKind.wrap .i64 (8 * (Int.tmod n9 8)))))) w21 →
              I8 (IntKind.wrap .i64 (n9 + 1)) w21 ∧ μ8 (IntKind.wrap .i64 (n9 + 1)) w21 < μ8 n9 w10))))) ∧
           ((¬ (IntKind.wrap .i64 (n6 + n9)) < ((l0 : Nat) : Int) →
            ((((IntKind.wrap .i64 (n6 + n9)) = ((l0 : Nat) : Int) →
              (((n9 = 135 →
                ((((IntKind.wrap .i64 (n6 + 136)) > ((l0 : Nat) : Int) →
                  ∃ v22 : Value, Sem.run Try.prog (semBin .or 5 (.tmp 45) (.const (.int .u8 128)) (.int .u8 1) (.int .u8 128)) w10 = .ok v22 w10 ∧
                  ∃ n23 : Int, v22 = (.int .u8 n23) ∧
                  ∀ w24 : World, IsDrew w10 w24 →
                  ((0 : Int) ≤ (IntKind.wrap .i64 (Int.tdiv n9 8)) ∧ (IntKind.wrap .i64 (Int.tdiv n9 8)) < ((25 : Nat) : Int)) ∧
                  ∃ n25 : Int, World.cell? w24 (Addr.add d3 (Int.toNat (IntKind.wrap .i64 (Int.tdiv n9 8)))) = some (.int .u64 n25) ∧
                  (0 : Int) ≤ (IntKind.wrap .i64 (8 * (Int.tmod n9 8))) ∧
                  ((0 : Int) ≤ (IntKind.wrap .i64 (Int.tdiv n9 8)) ∧ (IntKind.wrap .i64 (Int.tdiv n9 8)) < ((25 : Nat) : Int)) ∧
                  CanSet w24 (Addr.add d3 (Int.toNat (IntKind.wrap .i64 (Int.tdiv n9 8)))) (.int .u64 (bitsI .xor .u64 n25 (shlI .u64 (IntKind.wrap .u64 n23) (IntKind.wrap .i64 (8 * (Int.tmod n9 8)))))) ∧ ∀ w26 : World, IsSet w24 (Addr.add d3 (Int.toNat (IntKind.wrap .i64 (Int.tdiv n9 8)))) (.int .u64 (bitsI .xor .u64 n25 (shlI .u64 (IntKind.wrap .u64 n23) (IntKind.wrap .i64 (8 * (Int.tmod n9 8)))))) w26 →
                  I8 (IntKind.wrap .i64 (n9 + 1)) w26 ∧ μ8 (IntKind.wrap .i64 (n9 + 1)) w26 < μ8 n9 w10)) ∧
                 ((¬ (IntKind.wrap .i64 (n6 + 136)) > ((l0 : Nat) : Int) →
                  ∀ w27 : World, IsDrew w10 w27 →
                  ((0 : Int) ≤ (IntKind.wrap .i64 (Int.tdiv n9 8)) ∧ (IntKind.wrap .i64 (Int.tdiv n9 8)) < ((25 : Nat) : Int)) ∧
                  ∃ n28 : Int, World.cell? w27 (Addr.add d3 (Int.toNat (IntKind.wrap .i64 (Int.tdiv n9 8)))) = some (.int .u64 n28) ∧
                  (0 : Int) ≤ (IntKind.wrap .i64 (8 * (Int.tmod n9 8))) ∧
                  ((0 : Int) ≤ (IntKind.wrap .i64 (Int.tdiv n9 8)) ∧ (IntKind.wrap .i64 (Int.tdiv n9 8)) < ((25 : Nat) : Int)) ∧
                  CanSet w27 (Addr.add d3 (Int.toNat (IntKind.wrap .i64 (Int.tdiv n9 8)))) (.int .u64 (bitsI .xor .u64 n28 (shlI .u64 1 (IntKind.wrap .i64 (8 * (Int.tmod n9 8)))))) ∧ ∀ w29 : World, IsSet w27 (Addr.add d3 (Int.toNat (IntKind.wrap .i64 (Int.tdiv n9 8)))) (.int .u64 (bitsI .xor .u64 n28 (shlI .u64 1 (IntKind.wrap .i64 (8 * (Int.tmod n9 8)))))) w29 →
                  I8 (IntKind.wrap .i64 (n9 + 1)) w29 ∧ μ8 (IntKind.wrap .i64 (n9 + 1)) w29 < μ8 n9 w10))))) ∧
               ((n9 ≠ 135 →
                ∀ w30 : World, IsDrew w10 w30 →
                ((0 : Int) ≤ (IntKind.wrap .i64 (Int.tdiv n9 8)) ∧ (IntKind.wrap .i64 (Int.tdiv n9 8)) < ((25 : Nat) : Int)) ∧
                ∃ n31 : Int, World.cell? w30 (Addr.add d3 (Int.toNat (IntKind.wrap .i64 (Int.tdiv n9 8)))) = some (.int .u64 n31) ∧
                (0 : Int) ≤ (IntKind.wrap .i64 (8 * (Int.tmod n9 8))) ∧
                ((0 : Int) ≤ (IntKind.wrap .i64 (Int.tdiv n9 8)) ∧ (IntKind.wrap .i64 (Int.tdiv n9 8)) < ((25 : Nat) : Int)) ∧
                CanSet w30 (Addr.add d3 (Int.toNat (IntKind.wrap .i64 (Int.tdiv n9 8)))) (.int .u64 (bitsI .xor .u64 n31 (shlI .u64 1 (IntKind.wrap .i64 (8 * (Int.tmod n9 8)))))) ∧ ∀ w32 : World, IsSet w30 (Addr.add d3 (Int.toNat (IntKind.wrap .i64 (Int.tdiv n9 8)))) (.int .u64 (bitsI .xor .u64 n31 (shlI .u64 1 (IntKind.wrap .i64 (8 * (Int.tmod n9 8)))))) w32 →
                I8 (IntKind.wrap .i64 (n9 + 1)) w32 ∧ μ8 (IntKind.wrap .i64 (n9 + 1)) w32 < μ8 n9 w10))))) ∧
             (((IntKind.wrap .i64 (n6 + n9)) ≠ ((l0 : Nat) : Int) →
              (((n9 = 135 →
                ((((IntKind.wrap .i64 (n6 + 136)) > ((l0 : Nat) : Int) →
                  ∃ v33 : Value, Sem.run Try.prog (semBin .or 5 (.tmp 45) (.const (.int .u8 128)) (.int .u8 0) (.int .u8 128)) w10 = .ok v33 w10 ∧
                  ∃ n34 : Int, v33 = (.int .u8 n34) ∧
                  ∀ w35 : World, IsDrew w10 w35 →
                  ((0 : Int) ≤ (IntKind.wrap .i64 (Int.tdiv n9 8)) ∧ (IntKind.wrap .i64 (Int.tdiv n9 8)) < ((25 : Nat) : Int)) ∧
                  ∃ n36 : Int, World.cell? w35 (Addr.add d3 (Int.toNat (IntKind.wrap .i64 (Int.tdiv n9 8)))) = some (.int .u64 n36) ∧
                  (0 : Int) ≤ (IntKind.wrap .i64 (8 * (Int.tmod n9 8))) ∧
                  ((0 : Int) ≤ (IntKind.wrap .i64 (Int.tdiv n9 8)) ∧ (IntKind.wrap .i64 (Int.tdiv n9 8)) < ((25 : Nat) : Int)) ∧
                  CanSet w35 (Addr.add d3 (Int.toNat (IntKind.wrap .i64 (Int.tdiv n9 8)))) (.int .u64 (bitsI .xor .u64 n36 (shlI .u64 (IntKind.wrap .u64 n34) (IntKind.wrap .i64 (8 * (Int.tmod n9 8)))))) ∧ ∀ w37 : World, IsSet w35 (Addr.add d3 (Int.toNat (IntKind.wrap .i64 (Int.tdiv n9 8)))) (.int .u64 (bitsI .xor .u64 n36 (shlI .u64 (IntKind.wrap .u64 n34) (IntKind.wrap .i64 (8 * (Int.tmod n9 8)))))) w37 →
                  I8 (IntKind.wrap .i64 (n9 + 1)) w37 ∧ μ8 (IntKind.wrap .i64 (n9 + 1)) w37 < μ8 n9 w10)) ∧
                 ((¬ (IntKind.wrap .i64 (n6 + 136)) > ((l0 : Nat) : Int) →
                  ∀ w38 : World, IsDrew w10 w38 →
                  ((0 : Int) ≤ (IntKind.wrap .i64 (Int.tdiv n9 8)) ∧ (IntKind.wrap .i64 (Int.tdiv n9 8)) < ((25 : Nat) : Int)) ∧
                  ∃ n39 : Int, World.cell? w38 (Addr.add d3 (Int.toNat (IntKind.wrap .i64 (Int.tdiv n9 8)))) = some (.int .u64 n39) ∧
                  (0 : Int) ≤ (IntKind.wrap .i64 (8 * (Int.tmod n9 8))) ∧
                  ((0 : Int) ≤ (IntKind.wrap .i64 (Int.tdiv n9 8)) ∧ (IntKind.wrap .i64 (Int.tdiv n9 8)) < ((25 : Nat) : Int)) ∧
                  CanSet w38 (Addr.add d3 (Int.toNat (IntKind.wrap .i64 (Int.tdiv n9 8)))) (.int .u64 (bitsI .xor .u64 n39 (shlI .u64 0 (IntKind.wrap .i64 (8 * (Int.tmod n9 8)))))) ∧ ∀ w40 : World, IsSet w38 (Addr.add d3 (Int.toNat (IntKind.wrap .i64 (Int.tdiv n9 8)))) (.int .u64 (bitsI .xor .u64 n39 (shlI .u64 0 (IntKind.wrap .i64 (8 * (Int.tmod n9 8)))))) w40 →
                  I8 (IntKind.wrap .i64 (n9 + 1)) w40 ∧ μ8 (IntKind.wrap .i64 (n9 + 1)) w40 < μ8 n9 w10))))) ∧
               ((n9 ≠ 135 →
                ∀ w41 : World, IsDrew w10 w41 →
                ((0 : Int) ≤ (IntKind.wrap .i64 (Int.tdiv n9 8)) ∧ (IntKind.wrap .i64 (Int.tdiv n9 8)) < ((25 : Nat) : Int)) ∧
                ∃ n42 : Int, World.cell? w41 (Addr.add d3 (Int.toNat (IntKind.wrap .i64 (Int.tdiv n9 8)))) = some (.int .u64 n42) ∧
                (0 : Int) ≤ (IntKind.wrap .i64 (8 * (Int.tmod n9 8))) ∧
                ((0 : Int) ≤ (IntKind.wrap .i64 (Int.tdiv n9 8)) ∧ (IntKind.wrap .i64 (Int.tdiv n9 8)) < ((25 : Nat) : Int)) ∧
                CanSet w41 (Addr.add d3 (Int.toNat (IntKind.wrap .i64 (Int.tdiv n9 8)))) (.int .u64 (bitsI .xor .u64 n42 (shlI .u64 0 (IntKind.wrap .i64 (8 * (Int.tmod n9 8)))))) ∧ ∀ w43 : World, IsSet w41 (Addr.add d3 (Int.toNat (IntKind.wrap .i64 (Int.tdiv n9 8)))) (.int .u64 (bitsI .xor .u64 n42 (shlI .u64 0 (IntKind.wrap .i64 (8 * (Int.tmod n9 8)))))) w43 →
                I8 (IntKind.wrap .i64 (n9 + 1)) w43 ∧ μ8 (IntKind.wrap .i64 (n9 + 1)) w43 < μ8 n9 w10))))))))))) ∧
         ((¬ n9 < 136 →
          ∃ L44 : Array Value, RowAt w10 d3 25 L44 ∧
          Calls Try.prog 24 #[(.agg L44)] w10 (fun e45 w46 =>
            ∃ L47 : Array Value, e45 = .returned (.agg L47) ∧
            ∃ w48 : World, Sem.run Try.prog (Instr.storeAt 40 (.pointer (some d3)) (.agg L47)) w46 = .ok () w48 ∧
            I5 (IntKind.wrap .i64 (n6 + 136)) w48 ∧ μ5 (IntKind.wrap .i64 (n6 + 136)) w48 < μ5 n6 w7))))))) ∧
     ((¬ n6 ≤ ((l0 : Nat) : Int) →
      ∀ (d49 : Addr) (w50 : World), IsNew w7 26 (Array.replicate 32 (.int .u8 0)) d49 w50 →
      ∃ (I51 : Int → World → Prop) (μ51 : Int → World → Nat), I51 0 w50 ∧
      (∀ (n52 : Int) (j53 : Nat → Value) (w53 : World), I51 n52 w53 →
        (((n52 < 32 →
          ((0 : Int) ≤ (IntKind.wrap .i64 (Int.tdiv n52 8)) ∧ (IntKind.wrap .i64 (Int.tdiv n52 8)) < ((25 : Nat) : Int)) ∧
          ∃ n54 : Int, World.cell? w53 (Addr.add d3 (Int.toNat (IntKind.wrap .i64 (Int.tdiv n52 8)))) = some (.int .u64 n54) ∧
          (0 : Int) ≤ (IntKind.wrap .i64 (8 * (Int.tmod n52 8))) ∧
          ((0 : Int) ≤ n52 ∧ n52 < ((32 : Nat) : Int)) ∧
          CanSet w53 (Addr.add d49 (Int.toNat n52)) (.int .u8 (IntKind.wrap .u8 (shrI .u64 n54 (IntKind.wrap .i64 (8 * (Int.tmod n52 8)))))) ∧ ∀ w55 : World, IsSet w53 (Addr.add d49 (Int.toNat n52)) (.int .u8 (IntKind.wrap .u8 (shrI .u64 n54 (IntKind.wrap .i64 (8 * (Int.tmod n52 8)))))) w55 →
          I51 (IntKind.wrap .i64 (n52 + 1)) w55 ∧ μ51 (IntKind.wrap .i64 (n52 + 1)) w55 < μ51 n52 w53)) ∧
         ((¬ n52 < 32 →
          ∃ L56 : Array Value, RowAt w53 d49 32 L56 ∧
          ∃ w57 : World, Sem.run Try.prog (Instr.storeAt 26 (.pointer (some d1)) (.agg L56)) w53 = .ok () w57 ∧
          ∃ L58 : Array Value, RowAt w57 d1 32 L58 ∧
          R (.returned (.agg L58)) w57))))))))
theorem moraineref3_Sum.vc (o0 : Option Addr) (l0 : Nat) (c0 : Nat) (w : World) (R : Ending → World → Prop) (h : moraineref3_Sum.Vc o0 l0 c0 w R) : Calls Try.prog 18 #[(.slice o0 l0 c0)] w R :=
  execF_sound (ann := [(4, [(5, .cell (.int .i64))]), (7, [(6, .cell (.int .i64))]), (20, [(9, .cell (.int .i64))])]) (args := [.slice o0 l0 c0]) Try.func18 mixed (Eq.mp (by kernel_rfl : moraineref3_Sum.Vc o0 l0 c0 w R = execF (pA Try.prog R) Try.prog [(4, [(5, .cell (.int .i64))]), (7, [(6, .cell (.int .i64))]), (20, [(9, .cell (.int .i64))])] Try.f18 [.slice o0 l0 c0] w) h)

/-! moraine/keccak.Sum: 19 -/
abbrev keccak_Sum.n : Nat := 19
def keccak_Sum.Vc (o0 : Option Addr) (l0 : Nat) (c0 : Nat) (w : World) (R : Ending → World → Prop) : Prop :=
  ∀ (d1 : Addr) (w2 : World), IsNew w 26 (Array.replicate 32 (.int .u8 0)) d1 w2 →
  Calls Try.prog 20 #[] w2 (fun e3 w4 =>
    ∃ o5 : Option Addr, e3 = .returned (.pointer o5) ∧
    ∃ (I6 : Int → World → Prop) (μ6 : Int → World → Nat), I6 0 w4 ∧
    (∀ (n7 : Int) (j8 : Nat → Value) (w8 : World), I6 n7 w8 →
      (((n7 < ((l0 : Nat) : Int) →
        ∃ d9 : Addr, o0 = some d9 ∧
        ((0 : Int) ≤ n7 ∧ n7 < ((l0 : Nat) : Int)) ∧
        ∃ o10 : Option Addr, ∃ l11 : Nat, ∃ l12 : Nat, World.cell? w8 (Addr.add d9 (Int.toNat n7)) = some (.slice o10 l11 l12) ∧
        Calls Try.prog 21 #[(.pointer o5), (.slice o10 l11 l12)] w8 (fun e13 w14 =>
          e13 = .returned (.tuple #[]) ∧
          I6 (IntKind.wrap .i64 (n7 + 1)) w14 ∧ μ6 (IntKind.wrap .i64 (n7 + 1)) w14 < μ6 n7 w8))) ∧
       ((¬ n7 < ((l0 : Nat) : Int) →
        Calls Try.prog 22 #[(.pointer o5)] w8 (fun e15 w16 =>
          ∃ L17 : Array Value, e15 = .returned (.agg L17) ∧
          ∃ w18 : World, Sem.run Try.prog (Instr.storeAt 26 (.pointer (some d1)) (.agg L17)) w16 = .ok () w18 ∧
          ∃ L19 : Array Value, RowAt w18 d1 32 L19 ∧
          R (.returned (.agg L19)) w18))))))
theorem keccak_Sum.vc (o0 : Option Addr) (l0 : Nat) (c0 : Nat) (w : World) (R : Ending → World → Prop) (h : keccak_Sum.Vc o0 l0 c0 w R) : Calls Try.prog 19 #[(.slice o0 l0 c0)] w R :=
  execF_sound (ann := [(3, [(9, .cell (.int .i64))])]) (args := [.slice o0 l0 c0]) Try.func19 mixed (Eq.mp (by kernel_rfl : keccak_Sum.Vc o0 l0 c0 w R = execF (pA Try.prog R) Try.prog [(3, [(9, .cell (.int .i64))])] Try.f19 [.slice o0 l0 c0] w) h)

/-! moraine/keccak.New: 20 -/
abbrev keccak_New.n : Nat := 20
def keccak_New.Vc  (w : World) (R : Ending → World → Prop) : Prop :=
  Calls Try.prog 65 #[] w (fun e0 w1 =>
    ∃ L2 : Array Value, e0 = .returned (.agg L2) ∧
    Array.size L2 = 49 ∧
    ∀ (d3 : Addr) (w4 : World), IsNew w1 112 (lputL #[(.int .u64 0), (.int .u64 0), (.int .u64 0), (.int .u64 0), (.int .u64 0), (.int .u64 0), (.int .u64 0), (.int .u64 0), (.int .u64 0), (.int .u64 0), (.int .u64 0), (.int .u64 0), (.int .u64 0), (.int .u64 0), (.int .u64 0), (.int .u64 0), (.int .u64 0), (.int .u64 0), (.int .u64 0), (.int .u64 0), (.int .u64 0), (.int .u64 0), (.int .u64 0), (.int .u64 0), (.int .i64 0), (.int .i64 0), (.int .i64 0), (.int .i64 0), (.int .i64 0), (.int .i64 0), (.int .i64 0), (.int .i64 0), (.int .i64 0), (.int .i64 0), (.int .i64 0), (.int .i64 0), (.int .i64 0), (.int .i64 0), (.int .i64 0), (.int .i64 0), (.int .i64 0), (.int .i64 0), (.int .i64 0), (.int .i64 0), (.int .i64 0), (.int .i64 0), (.int .i64 0), (.int .i64 0), (.int .i64 0), (.int .u64 0), (.int .u64 0), (.int .u64 0), (.int .u64 0), (.int .u64 0), (.int .u64 0), (.int .u64 0), (.int .u64 0), (.int .u64 0), (.int .u64 0), (.int .u64 0), (.int .u64 0), (.int .u64 0), (.int .u64 0), (.int .u64 0), (.int .u64 0), (.int .u64 0), (.int .u64 0), (.int .u64 0), (.int .u64 0), (.int .u64 0), (.int .u64 0), (.int .u64 0), (.int .u64 0), (.int .u64 0), (.slice none 0 0)] 0 49 L2) d3 w4 →
    R (.returned (.pointer (some d3))) w4)
theorem keccak_New.vc  (w : World) (R : Ending → World → Prop) (h : keccak_New.Vc w R) : Calls Try.prog 20 #[] w R :=
  execF_sound (ann := []) (args := []) Try.func20 mixed (Eq.mp (by kernel_rfl : keccak_New.Vc w R = execF (pA Try.prog R) Try.prog [] Try.f20 [] w) h)

/-! (*moraine/keccak.Sponge).Write: 21 -/
abbrev keccak_Sponge_Write.n : Nat := 21
def keccak_Sponge_Write.Vc (d0 : Addr) (o1 : Option Addr) (l1 : Nat) (c1 : Nat) (w : World) (R : Ending → World → Prop) : Prop :=
  ∃ o2 : Option Addr, ∃ l3 : Nat, ∃ l4 : Nat, World.cell? w (Addr.add d0 74) = some (.slice o2 l3 l4) ∧
  ∃ (v5 : Value) (w6 : World), Sem.run Try.prog (builtinV .append #[22, 22] 22 #[(.slice o2 l3 l4), (.slice o1 l1 c1)]) w = .ok v5 w6 ∧
  ∃ o7 : Option Addr, ∃ l8 : Nat, ∃ l9 : Nat, v5 = (.slice o7 l8 l9) ∧
  CanSet w6 (Addr.add d0 74) (.slice o7 l8 l9) ∧ ∀ w10 : World, IsSet w6 (Addr.add d0 74) (.slice o7 l8 l9) w10 →
  ∃ (I11 : Int → World → Prop) (μ11 : Int → World → Nat), I11 0 w10 ∧
  (∀ (n12 : Int) (j13 : Nat → Value) (w13 : World), I11 n12 w13 →
    ∃ o14 : Option Addr, ∃ l15 : Nat, ∃ l16 : Nat, World.cell? w13 (Addr.add d0 74) = some (.slice o14 l15 l16) ∧
    ((((IntKind.wrap .i64 (((l15 : Nat) : Int) - n12)) ≥ 136 →
      ∀ w17 : World, IsDrew w13 w17 →
      ∃ L18 : Array Value, RowAt w17 (Addr.add d0 49) 25 L18 ∧
      ∃ o19 : Option Addr, ∃ l20 : Nat, ∃ l21 : Nat, World.cell? w17 (Addr.add d0 74) = some (.slice o19 l20 l21) ∧
      ((0 : Int) ≤ (IntKind.wrap .i64 (n12 + 136)) ∧ (IntKind.wrap .i64 (n12 + 136)) ≤ ((l21 : Nat) : Int)) ∧
      ((0 : Int) ≤ n12 ∧ n12 ≤ (((Int.toNat (IntKind.wrap .i64 (n12 + 136))) : Nat) : Int)) ∧
      Calls Try.prog 66 #[(.agg L18), (.pointer (some d0)), (.slice (subO o19 l21 (Int.toNat n12) 1) ((Int.toNat (IntKind.wrap .i64 (n12 + 136))) - (Int.toNat n12)) (l21 - (Int.toNat n12)))] w17 (fun e22 w23 =>
        ∃ L24 : Array Value, e22 = .returned (.agg L24) ∧
        ∃ w25 : World, Sem.run Try.prog (Instr.storeAt 110 (.pointer (some (Addr.add d0 49))) (.agg L24)) w23 = .ok () w25 ∧
        I11 (IntKind.wrap .i64 (n12 + 136)) w25 ∧ μ11 (IntKind.wrap .i64 (n12 + 136)) w25 < μ11 n12 w13))) ∧
     ((¬ (IntKind.wrap .i64 (((l15 : Nat) : Int) - n12)) ≥ 136 →
      ∀ w26 : World, IsDrew w13 w26 →
      ∃ o27 : Option Addr, ∃ l28 : Nat, ∃ l29 : Nat, World.cell? w26 (Addr.add d0 74) = some (.slice o27 l28 l29) ∧
      ∃ o30 : Option Addr, ∃ l31 : Nat, ∃ l32 : Nat, World.cell? w26 (Addr.add d0 74) = some (.slice o30 l31 l32) ∧
      ∃ o33 : Option Addr, ∃ l34 : Nat, ∃ l35 : Nat, World.cell? w26 (Addr.add d0 74) = some (.slice o33 l34 l35) ∧
      ((0 : Int) ≤ n12 ∧ n12 ≤ ((l34 : Nat) : Int)) ∧
      ∃ (v36 : Value) (w37 : World), Sem.run Try.prog (builtinV .copy #[22, 22] 3 #[(.slice o30 l31 l32), (.slice (subO o33 l35 (Int.toNat n12) 1) (l34 - (Int.toNat n12)) (l35 - (Int.toNat n12)))]) w26 = .ok v36 w37 ∧
      ∃ n38 : Int, v36 = (.int .i64 n38) ∧
      World.cell? w37 (Addr.add d0 74) = some (.slice o27 l28 l29) ∧
      ((0 : Int) ≤ n38 ∧ n38 ≤ ((l29 : Nat) : Int)) ∧
      CanSet w37 (Addr.add d0 74) (.slice o27 (Int.toNat n38) l29) ∧ ∀ w39 : World, IsSet w37 (Addr.add d0 74) (.slice o27 (Int.toNat n38) l29) w39 →
      R (.returned (.tuple #[])) w39))))
theorem keccak_Sponge_Write.vc (d0 : Addr) (o1 : Option Addr) (l1 : Nat) (c1 : Nat) (w : World) (R : Ending → World → Prop) (h : keccak_Sponge_Write.Vc d0 o1 l1 c1 w R) : Calls Try.prog 21 #[(.pointer (some d0)), (.slice o1 l1 c1)] w R :=
  execF_sound (ann := [(2, [(4, .cell (.int .i64))])]) (args := [.addr d0, .slice o1 l1 c1]) Try.func21 mixed (Eq.mp (by kernel_rfl : keccak_Sponge_Write.Vc d0 o1 l1 c1 w R = execF (pA Try.prog R) Try.prog [(2, [(4, .cell (.int .i64))])] Try.f21 [.addr d0, .slice o1 l1 c1] w) h)

/-! (*moraine/keccak.Sponge).Sum: 22 -/
abbrev keccak_Sponge_Sum.n : Nat := 22
def keccak_Sponge_Sum.Vc (d0 : Addr) (w : World) (R : Ending → World → Prop) : Prop :=
  ∀ (d1 : Addr) (w2 : World), IsNew w 26 (Array.replicate 32 (.int .u8 0)) d1 w2 →
  ∀ (d3 : Addr) (w4 : World), IsNew w2 115 (Array.replicate 136 (.int .u8 0)) d3 w4 →
  ∀ w5 : World, IsDrew w4 w5 →
  ∃ o6 : Option Addr, ∃ l7 : Nat, ∃ l8 : Nat, World.cell? w5 (Addr.add d0 74) = some (.slice o6 l7 l8) ∧
  ∃ (v9 : Value) (w10 : World), Sem.run Try.prog (builtinV .copy #[22, 22] 3 #[(.slice (some d3) 136 136), (.slice o6 l7 l8)]) w5 = .ok v9 w10 ∧
  ∃ n11 : Int, v9 = (.int .i64 n11) ∧
  ((0 : Int) ≤ n11 ∧ n11 < ((136 : Nat) : Int)) ∧
  CanSet w10 (Addr.add d3 (Int.toNat n11)) (.int .u8 1) ∧ ∀ w12 : World, IsSet w10 (Addr.add d3 (Int.toNat n11)) (.int .u8 1) w12 →
  ∃ n13 : Int, World.cell? w12 (Addr.add d3 135) = some (.int .u8 n13) ∧
  CanSet w12 (Addr.add d3 135) (.int .u8 (bitsI .or .u8 n13 128)) ∧ ∀ w14 : World, IsSet w12 (Addr.add d3 135) (.int .u8 (bitsI .or .u8 n13 128)) w14 →
  ∀ w15 : World, IsDrew w14 w15 →
  ∃ L16 : Array Value, RowAt w15 (Addr.add d0 49) 25 L16 ∧
  ((Calls Try.prog 66 #[(.agg L16), (.pointer (some d0)), (.slice (some d3) 136 136)] w15 (fun e17 w18 =>
     ∃ L19 : Array Value, e17 = .returned (.agg L19) ∧
     ∀ (d20 : Addr) (w21 : World), IsNew w18 110 (Array.replicate 25 (.int .u64 0)) d20 w21 →
     ∃ w22 : World, Sem.run Try.prog (Instr.storeAt 110 (.pointer (some d20)) (.agg L19)) w21 = .ok () w22 ∧
     ∀ (d23 : Addr) (w24 : World), IsNew w22 26 (Array.replicate 32 (.int .u8 0)) d23 w24 →
     ∃ (I25 : Int → World → Prop) (μ25 : Int → World → Nat), I25 0 w24 ∧
     (∀ (n26 : Int) (j27 : Nat → Value) (w27 : World), I25 n26 w27 →
       (((n26 < 4 →
         ∀ w28 : World, IsDrew w27 w28 →
         ((0 : Int) ≤ (IntKind.wrap .i64 (8 * n26)) ∧ (IntKind.wrap .i64 (8 * n26)) ≤ ((32 : Nat) : Int)) ∧
         ((0 : Int) ≤ n26 ∧ n26 < ((25 : Nat) : Int)) ∧
         ∃ n29 : Int, World.cell? w28 (Addr.add d20 (Int.toNat n26)) = some (.int .u64 n29) ∧
         Calls Try.prog 67 #[(.slice none 0 0), (.int .u64 n29), (.int .i64 8)] w28 (fun e30 w31 =>
           ∃ o32 : Option Addr, ∃ l33 : Nat, ∃ l34 : Nat, e30 = .returned (.slice o32 l33 l34) ∧
           ∃ (v35 : Value) (w36 : World), Sem.run Try.prog (builtinV .copy #[22, 22] 3 #[(.slice (some (subD d23 32 (Int.toNat (IntKind.wrap .i64 (8 * n26))) 1)) (32 - (Int.toNat (IntKind.wrap .i64 (8 * n26)))) (32 - (Int.toNat (IntKind.wrap .i64 (8 * n26))))), (.slice o32 l33 l34)]) w31 = .ok v35 w36 ∧
           ∃ n37 : Int, v35 = (.int .i64 n37) ∧
           I25 (IntKind.wrap .i64 (n26 + 1)) w36 ∧ μ25 (IntKind.wrap .i64 (n26 + 1)) w36 < μ25 n26 w27))) ∧
        ((¬ n26 < 4 →
         ∃ L38 : Array Value, RowAt w27 d23 32 L38 ∧
         ∃ w39 : World, Sem.run Try.prog (Instr.storeAt 26 (.pointer (some d1)) (.agg L38)) w27 = .ok () w39 ∧
         ∃ L40 : Array Value, RowAt w39 d1 32 L40 ∧
         R (.returned (.agg L40)) w39)))))) ∧
   (∀ (d41 : Addr) (w42 : World), IsNew w15 110 (Array.replicate 25 (.int .u64 0)) d41 w42 →
   RowAt w42 (Addr.add d0 49) 25 L16 ∧
   Calls Try.prog 66 #[(.agg L16), (.pointer (some d0)), (.slice (some d3) 136 136)] w42 (fun e43 w44 =>
     ∃ L45 : Array Value, e43 = .returned (.agg L45) ∧
     ∃ w46 : World, Sem.run Try.prog (Instr.storeAt 110 (.pointer (some d41)) (.agg L45)) w44 = .ok () w46 ∧
     ∀ (d47 : Addr) (w48 : World), IsNew w46 26 (Array.replicate 32 (.int .u8 0)) d47 w48 →
     ∃ (I49 : Int → World → Prop) (μ49 : Int → World → Nat), I49 0 w48 ∧
     (∀ (n50 : Int) (j51 : Nat → Value) (w51 : World), I49 n50 w51 →
       (((n50 < 4 →
         ∀ w52 : World, IsDrew w51 w52 →
         ((0 : Int) ≤ (IntKind.wrap .i64 (8 * n50)) ∧ (IntKind.wrap .i64 (8 * n50)) ≤ ((32 : Nat) : Int)) ∧
         ((0 : Int) ≤ n50 ∧ n50 < ((25 : Nat) : Int)) ∧
         ∃ n53 : Int, World.cell? w52 (Addr.add d41 (Int.toNat n50)) = some (.int .u64 n53) ∧
         Calls Try.prog 67 #[(.slice none 0 0), (.int .u64 n53), (.int .i64 8)] w52 (fun e54 w55 =>
           ∃ o56 : Option Addr, ∃ l57 : Nat, ∃ l58 : Nat, e54 = .returned (.slice o56 l57 l58) ∧
           ∃ (v59 : Value) (w60 : World), Sem.run Try.prog (builtinV .copy #[22, 22] 3 #[(.slice (some (subD d47 32 (Int.toNat (IntKind.wrap .i64 (8 * n50))) 1)) (32 - (Int.toNat (IntKind.wrap .i64 (8 * n50)))) (32 - (Int.toNat (IntKind.wrap .i64 (8 * n50))))), (.slice o56 l57 l58)]) w55 = .ok v59 w60 ∧
           ∃ n61 : Int, v59 = (.int .i64 n61) ∧
           I49 (IntKind.wrap .i64 (n50 + 1)) w60 ∧ μ49 (IntKind.wrap .i64 (n50 + 1)) w60 < μ49 n50 w51))) ∧
        ((¬ n50 < 4 →
         ∃ L62 : Array Value, RowAt w51 d47 32 L62 ∧
         ∃ w63 : World, Sem.run Try.prog (Instr.storeAt 26 (.pointer (some d1)) (.agg L62)) w51 = .ok () w63 ∧
         ∃ L64 : Array Value, RowAt w63 d1 32 L64 ∧
         R (.returned (.agg L64)) w63)))))))
theorem keccak_Sponge_Sum.vc (d0 : Addr) (w : World) (R : Ending → World → Prop) (h : keccak_Sponge_Sum.Vc d0 w R) : Calls Try.prog 22 #[(.pointer (some d0))] w R :=
  execF_sound (ann := [(8, [(29, .cell (.int .i64))])]) (args := [.addr d0]) Try.func22 mixed (Eq.mp (by kernel_rfl : keccak_Sponge_Sum.Vc d0 w R = execF (pA Try.prog R) Try.prog [(8, [(29, .cell (.int .i64))])] Try.f22 [.addr d0] w) h)

/-! moraine/keccak.Permute: 23 -/
abbrev keccak_Permute.n : Nat := 23
def keccak_Permute.Vc (L0 : Array Value) (w : World) (R : Ending → World → Prop) : Prop :=
  ∀ (d1 : Addr) (w2 : World), IsNew w 40 L0 d1 w2 →
  ∀ (d3 : Addr) (w4 : World), IsNew w2 40 (Array.replicate 25 (.int .u64 0)) d3 w4 →
  Calls Try.prog 65 #[] w4 (fun e5 w6 =>
    ∃ L7 : Array Value, e5 = .returned (.agg L7) ∧
    ∀ (d8 : Addr) (w9 : World), IsNew w6 108 #[(.int .u64 0), (.int .u64 0), (.int .u64 0), (.int .u64 0), (.int .u64 0), (.int .u64 0), (.int .u64 0), (.int .u64 0), (.int .u64 0), (.int .u64 0), (.int .u64 0), (.int .u64 0), (.int .u64 0), (.int .u64 0), (.int .u64 0), (.int .u64 0), (.int .u64 0), (.int .u64 0), (.int .u64 0), (.int .u64 0), (.int .u64 0), (.int .u64 0), (.int .u64 0), (.int .u64 0), (.int .i64 0), (.int .i64 0), (.int .i64 0), (.int .i64 0), (.int .i64 0), (.int .i64 0), (.int .i64 0), (.int .i64 0), (.int .i64 0), (.int .i64 0), (.int .i64 0), (.int .i64 0), (.int .i64 0), (.int .i64 0), (.int .i64 0), (.int .i64 0), (.int .i64 0), (.int .i64 0), (.int .i64 0), (.int .i64 0), (.int .i64 0), (.int .i64 0), (.int .i64 0), (.int .i64 0), (.int .i64 0)] d8 w9 →
    ∃ w10 : World, Sem.run Try.prog (Instr.storeAt 108 (.pointer (some d8)) (.agg L7)) w9 = .ok () w10 ∧
    ∃ L11 : Array Value, RowAt w10 d1 25 L11 ∧
    Calls Try.prog 68 #[(.agg L11), (.pointer (some d8))] w10 (fun e12 w13 =>
      ∃ L14 : Array Value, e12 = .returned (.agg L14) ∧
      ∃ w15 : World, Sem.run Try.prog (Instr.storeAt 40 (.pointer (some d3)) (.agg L14)) w13 = .ok () w15 ∧
      ∃ L16 : Array Value, RowAt w15 d3 25 L16 ∧
      R (.returned (.agg L16)) w15))
theorem keccak_Permute.vc (L0 : Array Value) (w : World) (R : Ending → World → Prop) (h : keccak_Permute.Vc L0 w R) : Calls Try.prog 23 #[(.agg L0)] w R :=
  execF_sound (ann := []) (args := [.big 25 L0]) Try.func23 mixed (Eq.mp (by kernel_rfl : keccak_Permute.Vc L0 w R = execF (pA Try.prog R) Try.prog [] Try.f23 [.big 25 L0] w) h)

/-! moraine/moraineref3.Permute: 24 -/
abbrev moraineref3_Permute.n : Nat := 24
def moraineref3_Permute.Vc (L0 : Array Value) (w : World) (R : Ending → World → Prop) : Prop :=
  ∀ (d1 : Addr) (w2 : World), IsNew w 40 L0 d1 w2 →
  ∀ (d3 : Addr) (w4 : World), IsNew w2 40 (Array.replicate 25 (.int .u64 0)) d3 w4 →
  ∀ (d5 : Addr) (w6 : World), IsNew w4 106 (Array.replicate 25 (.int .i64 0)) d5 w6 →
  ∃ w7 : World, Sem.run Try.prog (Instr.storeAt 106 (.pointer (some d5)) (.agg (Array.replicate 25 (.int .i64 0)))) w6 = .ok () w7 ∧
  ∃ (I8 : Int → Int → Int → World → Prop) (μ8 : Int → Int → Int → World → Nat), I8 1 0 0 w7 ∧
  (∀ (n9 : Int) (n10 : Int) (n11 : Int) (j12 : Nat → Value) (w12 : World), I8 n9 n10 n11 w12 →
    (((n11 < 24 →
      ((0 : Int) ≤ (IntKind.wrap .i64 (n9 + (IntKind.wrap .i64 (5 * n10)))) ∧ (IntKind.wrap .i64 (n9 + (IntKind.wrap .i64 (5 * n10)))) < ((25 : Nat) : Int)) ∧
      CanSet w12 (Addr.add d5 (Int.toNat (IntKind.wrap .i64 (n9 + (IntKind.wrap .i64 (5 * n10)))))) (.int .i64 (Int.tmod (IntKind.wrap .i64 (Int.tdiv (IntKind.wrap .i64 ((IntKind.wrap .i64 (n11 + 1)) * (IntKind.wrap .i64 (n11 + 2)))) 2)) 64)) ∧ ∀ w13 : World, IsSet w12 (Addr.add d5 (Int.toNat (IntKind.wrap .i64 (n9 + (IntKind.wrap .i64 (5 * n10)))))) (.int .i64 (Int.tmod (IntKind.wrap .i64 (Int.tdiv (IntKind.wrap .i64 ((IntKind.wrap .i64 (n11 + 1)) * (IntKind.wrap .i64 (n11 + 2)))) 2)) 64)) w13 →
      I8 n10 (Int.tmod (IntKind.wrap .i64 ((IntKind.wrap .i64 (2 * n9)) + (IntKind.wrap .i64 (3 * n10)))) 5) (IntKind.wrap .i64 (n11 + 1)) w13 ∧ μ8 n10 (Int.tmod (IntKind.wrap .i64 ((IntKind.wrap .i64 (2 * n9)) + (IntKind.wrap .i64 (3 * n10)))) 5) (IntKind.wrap .i64 (n11 + 1)) w13 < μ8 n9 n10 n11 w12)) ∧
     ((¬ n11 < 24 →
      ∃ (I14 : Int → Int → World → Prop) (μ14 : Int → Int → World → Nat), I14 1 0 w12 ∧
      (∀ (n15 : Int) (n16 : Int) (j17 : Nat → Value) (w17 : World), I14 n15 n16 w17 →
        (((n16 < 24 →
          ∀ (d18 : Addr) (w19 : World), IsNew w17 118 #[(.int .u64 0), (.int .u64 0), (.int .u64 0), (.int .u64 0), (.int .u64 0)] d18 w19 →
          ∃ (I20 : Int → World → Prop) (μ20 : Int → World → Nat), I20 0 w19 ∧
          (∀ (n21 : Int) (j22 : Nat → Value) (w22 : World), I20 n21 w22 →
            (((n21 < 5 →
              ∀ w23 : World, IsDrew w22 w23 →
              ((0 : Int) ≤ n21 ∧ n21 < ((25 : Nat) : Int)) ∧
              ∃ n24 : Int, World.cell? w23 (Addr.add d1 (Int.toNat n21)) = some (.int .u64 n24) ∧
              ((0 : Int) ≤ (IntKind.wrap .i64 (n21 + 5)) ∧ (IntKind.wrap .i64 (n21 + 5)) < ((25 : Nat) : Int)) ∧
              ∃ n25 : Int, World.cell? w23 (Addr.add d1 (Int.toNat (IntKind.wrap .i64 (n21 + 5)))) = some (.int .u64 n25) ∧
              ((0 : Int) ≤ (IntKind.wrap .i64 (n21 + 10)) ∧ (IntKind.wrap .i64 (n21 + 10)) < ((25 : Nat) : Int)) ∧
              ∃ n26 : Int, World.cell? w23 (Addr.add d1 (Int.toNat (IntKind.wrap .i64 (n21 + 10)))) = some (.int .u64 n26) ∧
              ((0 : Int) ≤ (IntKind.wrap .i64 (n21 + 15)) ∧ (IntKind.wrap .i64 (n21 + 15)) < ((25 : Nat) : Int)) ∧
              ∃ n27 : Int, World.cell? w23 (Addr.add d1 (Int.toNat (IntKind.wrap .i64 (n21 + 15)))) = some (.int .u64 n27) ∧
              ((0 : Int) ≤ (IntKind.wrap .i64 (n21 + 20)) ∧ (IntKind.wrap .i64 (n21 + 20)) < ((25 : Nat) : Int)) ∧
              ∃ n28 : Int, World.cell? w23 (Addr.add d1 (Int.toNat (IntKind.wrap .i64 (n21 + 20)))) = some (.int .u64 n28) ∧
              ((0 : Int) ≤ n21 ∧ n21 < ((5 : Nat) : Int)) ∧
              CanSet w23 (Addr.add d18 (Int.toNat n21)) (.int .u64 (bitsI .xor .u64 (bitsI .xor .u64 (bitsI .xor .u64 (bitsI .xor .u64 n24 n25) n26) n27) n28)) ∧ ∀ w29 : World, IsSet w23 (Addr.add d18 (Int.toNat n21)) (.int .u64 (bitsI .xor .u64 (bitsI .xor .u64 (bitsI .xor .u64 (bitsI .xor .u64 n24 n25) n26) n27) n28)) w29 →
              I20 (IntKind.wrap .i64 (n21 + 1)) w29 ∧ μ20 (IntKind.wrap .i64 (n21 + 1)) w29 < μ20 n21 w22)) ∧
             ((¬ n21 < 5 →
              ∀ (d30 : Addr) (w31 : World), IsNew w22 40 (Array.replicate 25 (.int .u64 0)) d30 w31 →
              ∃ (I32 : Int → World → Prop) (μ32 : Int → World → Nat), I32 0 w31 ∧
              (∀ (n33 : Int) (j34 : Nat → Value) (w34 : World), I32 n33 w34 →
                (((n33 < 5 →
                  ∃ (I35 : Int → World → Prop) (μ35 : Int → World → Nat), I35 0 w34 ∧
                  (∀ (n36 : Int) (j37 : Nat → Value) (w37 : World), I35 n36 w37 →
                    (((n36 < 5 →
                      ∀ w38 : World, IsDrew w37 w38 →
                      ((0 : Int) ≤ (IntKind.wrap .i64 (n33 + (IntKind.wrap .i64 (5 * n36)))) ∧ (IntKind.wrap .i64 (n33 + (IntKind.wrap .i64 (5 * n36)))) < ((25 : Nat) : Int)) ∧
                      ∃ n39 : Int, World.cell? w38 (Addr.add d1 (Int.toNat (IntKind.wrap .i64 (n33 + (IntKind.wrap .i64 (5 * n36)))))) = some (.int .u64 n39) ∧
                      ((0 : Int) ≤ (Int.tmod (IntKind.wrap .i64 (n33 + 4)) 5) ∧ (Int.tmod (IntKind.wrap .i64 (n33 + 4)) 5) < ((5 : Nat) : Int)) ∧
                      ∃ n40 : Int, World.cell? w38 (Addr.add d18 (Int.toNat (Int.tmod (IntKind.wrap .i64 (n33 + 4)) 5))) = some (.int .u64 n40) ∧
                      ((0 : Int) ≤ (Int.tmod (IntKind.wrap .i64 (n33 + 1)) 5) ∧ (Int.tmod (IntKind.wrap .i64 (n33 + 1)) 5) < ((5 : Nat) : Int)) ∧
                      ∃ n41 : Int, World.cell? w38 (Addr.add d18 (Int.toNat (Int.tmod (IntKind.wrap .i64 (n33 + 1)) 5))) = some (.int .u64 n41) ∧
                      Calls Try.prog 69 #[(.int .u64 n41), (.int .i64 1)] w38 (fun e42 w43 =>
                        ∃ n44 : Int, e42 = .returned (.int .u64 n44) ∧
                        World.cell? w43 (Addr.add d18 (Int.toNat (Int.tmod (IntKind.wrap .i64 (n33 + 4)) 5))) = some (.int .u64 n40) ∧
                        World.cell? w43 (Addr.add d1 (Int.toNat (IntKind.wrap .i64 (n33 + (IntKind.wrap .i64 (5 * n36)))))) = some (.int .u64 n39) ∧
                        ((0 : Int) ≤ (IntKind.wrap .i64 (n33 + (IntKind.wrap .i64 (5 * n36)))) ∧ (IntKind.wrap .i64 (n33 + (IntKind.wrap .i64 (5 * n36)))) < ((25 : Nat) : Int)) ∧
                        ∃ n45 : Int, World.cell? w43 (Addr.add d5 (Int.toNat (IntKind.wrap .i64 (n33 + (IntKind.wrap .i64 (5 * n36)))))) = some (.int .i64 n45) ∧
                        Calls Try.prog 69 #[(.int .u64 (bitsI .xor .u64 (bitsI .xor .u64 n39 n40) n44)), (.int .i64 n45)] w43 (fun e46 w47 =>
                          ∃ n48 : Int, e46 = .returned (.int .u64 n48) ∧
                          ((0 : Int) ≤ (IntKind.wrap .i64 (n36 + (IntKind.wrap .i64 (5 * (Int.tmod (IntKind.wrap .i64 ((IntKind.wrap .i64 (2 * n33)) + (IntKind.wrap .i64 (3 * n36)))) 5))))) ∧ (IntKind.wrap .i64 (n36 + (IntKind.wrap .i64 (5 * (Int.tmod (IntKind.wrap .i64 ((IntKind.wrap .i64 (2 * n33)) + (IntKind.wrap .i64 (3 * n36)))) 5))))) < ((25 : Nat) : Int)) ∧
                          CanSet w47 (Addr.add d30 (Int.toNat (IntKind.wrap .i64 (n36 + (IntKind.wrap .i64 (5 * (Int.tmod (IntKind.wrap .i64 ((IntKind.wrap .i64 (2 * n33)) + (IntKind.wrap .i64 (3 * n36)))) 5))))))) (.int .u64 n48) ∧ ∀ w49 : World, IsSet w47 (Addr.add d30 (Int.toNat (IntKind.wrap .i64 (n36 + (IntKind.wrap .i64 (5 * (Int.tmod (IntKind.wrap .i64 ((IntKind.wrap .i64 (2 * n33)) + (IntKind.wrap .i64 (3 * n36)))) 5))))))) (.int .u64 n48) w49 →
                          I35 (IntKind.wrap .i64 (n36 + 1)) w49 ∧ μ35 (IntKind.wrap .i64 (n36 + 1)) w49 < μ35 n36 w37)))) ∧
                     ((¬ n36 < 5 →
                      I32 (IntKind.wrap .i64 (n33 + 1)) w37 ∧ μ32 (IntKind.wrap .i64 (n33 + 1)) w37 < μ32 n33 w34)))))) ∧
                 ((¬ n33 < 5 →
                  ∃ (I50 : Int → World → Prop) (μ50 : Int → World → Nat), I50 0 w34 ∧
                  (∀ (n51 : Int) (j52 : Nat → Value) (w52 : World), I50 n51 w52 →
                    (((n51 < 5 →
                      ∃ (I53 : Int → World → Prop) (μ53 : Int → World → Nat), I53 0 w52 ∧
                      (∀ (n54 : Int) (j55 : Nat → Value) (w55 : World), I53 n54 w55 →
                        (((n54 < 5 →
                          ∀ w56 : World, IsDrew w55 w56 →
                          ((0 : Int) ≤ (IntKind.wrap .i64 (n51 + (IntKind.wrap .i64 (5 * n54)))) ∧ (IntKind.wrap .i64 (n51 + (IntKind.wrap .i64 (5 * n54)))) < ((25 : Nat) : Int)) ∧
                          ∃ n57 : Int, World.cell? w56 (Addr.add d30 (Int.toNat (IntKind.wrap .i64 (n51 + (IntKind.wrap .i64 (5 * n54)))))) = some (.int .u64 n57) ∧
                          ((0 : Int) ≤ (IntKind.wrap .i64 ((Int.tmod (IntKind.wrap .i64 (n51 + 1)) 5) + (IntKind.wrap .i64 (5 * n54)))) ∧ (IntKind.wrap .i64 ((Int.tmod (IntKind.wrap .i64 (n51 + 1)) 5) + (IntKind.wrap .i64 (5 * n54)))) < ((25 : Nat) : Int)) ∧
                          ∃ n58 : Int, World.cell? w56 (Addr.add d30 (Int.toNat (IntKind.wrap .i64 ((Int.tmod (IntKind.wrap .i64 (n51 + 1)) 5) + (IntKind.wrap .i64 (5 * n54)))))) = some (.int .u64 n58) ∧
                          ((0 : Int) ≤ (IntKind.wrap .i64 ((Int.tmod (IntKind.wrap .i64 (n51 + 2)) 5) + (IntKind.wrap .i64 (5 * n54)))) ∧ (IntKind.wrap .i64 ((Int.tmod (IntKind.wrap .i64 (n51 + 2)) 5) + (IntKind.wrap .i64 (5 * n54)))) < ((25 : Nat) : Int)) ∧
                          ∃ n59 : Int, World.cell? w56 (Addr.add d30 (Int.toNat (IntKind.wrap .i64 ((Int.tmod (IntKind.wrap .i64 (n51 + 2)) 5) + (IntKind.wrap .i64 (5 * n54)))))) = some (.int .u64 n59) ∧
                          ((0 : Int) ≤ (IntKind.wrap .i64 (n51 + (IntKind.wrap .i64 (5 * n54)))) ∧ (IntKind.wrap .i64 (n51 + (IntKind.wrap .i64 (5 * n54)))) < ((25 : Nat) : Int)) ∧
                          CanSet w56 (Addr.add d1 (Int.toNat (IntKind.wrap .i64 (n51 + (IntKind.wrap .i64 (5 * n54)))))) (.int .u64 (bitsI .xor .u64 n57 (bitsI .and .u64 (bitsI .xor .u64 18446744073709551615 n58) n59))) ∧ ∀ w60 : World, IsSet w56 (Addr.add d1 (Int.toNat (IntKind.wrap .i64 (n51 + (IntKind.wrap .i64 (5 * n54)))))) (.int .u64 (bitsI .xor .u64 n57 (bitsI .and .u64 (bitsI .xor .u64 18446744073709551615 n58) n59))) w60 →
                          I53 (IntKind.wrap .i64 (n54 + 1)) w60 ∧ μ53 (IntKind.wrap .i64 (n54 + 1)) w60 < μ53 n54 w55)) ∧
                         ((¬ n54 < 5 →
                          I50 (IntKind.wrap .i64 (n51 + 1)) w55 ∧ μ50 (IntKind.wrap .i64 (n51 + 1)) w55 < μ50 n51 w52)))))) ∧
                     ((¬ n51 < 5 →
                      ∃ (I61 : Int → Int → World → Prop) (μ61 : Int → Int → World → Nat), I61 n15 0 w52 ∧
                      (∀ (n62 : Int) (n63 : Int) (j64 : Nat → Value) (w64 : World), I61 n62 n63 w64 →
                        (((n63 < 7 →
                          ((((Int.tmod n62 2) = 1 →
                            ∀ w65 : World, IsDrew w64 w65 →
                            ∃ n66 : Int, World.cell? w65 d1 = some (.int .u64 n66) ∧
                            (0 : Int) ≤ n63 ∧
                            (0 : Int) ≤ (IntKind.wrap .u64 ((shlI .u64 1 n63) - 1)) ∧
                            CanSet w65 d1 (.int .u64 (bitsI .xor .u64 n66 (shlI .u64 1 (IntKind.wrap .u64 ((shlI .u64 1 n63) - 1))))) ∧ ∀ w67 : World, IsSet w65 d1 (.int .u64 (bitsI .xor .u64 n66 (shlI .u64 1 (IntKind.wrap .u64 ((shlI .u64 1 n63) - 1))))) w67 →
                            ((((IntKind.wrap .i64 (2 * n62)) ≥ 256 →
                              I61 (bitsI .xor .i64 (IntKind.wrap .i64 ((IntKind.wrap .i64 (2 * n62)) - 256)) 113) (IntKind.wrap .i64 (n63 + 1)) w67 ∧ μ61 (bitsI .xor .i64 (IntKind.wrap .i64 ((IntKind.wrap .i64 (2 * n62)) - 256)) 113) (IntKind.wrap .i64 (n63 + 1)) w67 < μ61 n62 n63 w64)) ∧
                             ((¬ (IntKind.wrap .i64 (2 * n62)) ≥ 256 →
                              I61 (IntKind.wrap .i64 (2 * n62)) (IntKind.wrap .i64 (n63 + 1)) w67 ∧ μ61 (IntKind.wrap .i64 (2 * n62)) (IntKind.wrap .i64 (n63 + 1)) w67 < μ61 n62 n63 w64))))) ∧
                           (((Int.tmod n62 2) ≠ 1 →
                            ((((IntKind.wrap .i64 (2 * n62)) ≥ 256 →
                              I61 (bitsI .xor .i64 (IntKind.wrap .i64 ((IntKind.wrap .i64 (2 * n62)) - 256)) 113) (IntKind.wrap .i64 (n63 + 1)) w64 ∧ μ61 (bitsI .xor .i64 (IntKind.wrap .i64 ((IntKind.wrap .i64 (2 * n62)) - 256)) 113) (IntKind.wrap .i64 (n63 + 1)) w64 < μ61 n62 n63 w64)) ∧
                             ((¬ (IntKind.wrap .i64 (2 * n62)) ≥ 256 →
                              I61 (IntKind.wrap .i64 (2 * n62)) (IntKind.wrap .i64 (n63 + 1)) w64 ∧ μ61 (IntKind.wrap .i64 (2 * n62)) (IntKind.wrap .i64 (n63 + 1)) w64 < μ61 n62 n63 w64)))))))) ∧
                         ((¬ n63 < 7 →
                          I14 n62 (IntKind.wrap .i64 (n16 + 1)) w64 ∧ μ14 n62 (IntKind.wrap .i64 (n16 + 1)) w64 < μ14 n15 n16 w17)))))))))))))))))) ∧
         ((¬ n16 < 24 →
          ∃ L68 : Array Value, RowAt w17 d1 25 L68 ∧
          ∃ w69 : World, Sem.run Try.prog (Instr.storeAt 40 (.pointer (some d3)) (.agg L68)) w17 = .ok () w69 ∧
          ∃ L70 : Array Value, RowAt w69 d3 25 L70 ∧
          R (.returned (.agg L70)) w69))))))))
theorem moraineref3_Permute.vc (L0 : Array Value) (w : World) (R : Ending → World → Prop) (h : moraineref3_Permute.Vc L0 w R) : Calls Try.prog 24 #[(.agg L0)] w R :=
  execF_sound (ann := [(4, [(4, .cell (.int .i64)), (5, .cell (.int .i64)), (6, .cell (.int .i64))]), (10, [(7, .cell (.int .i64)), (8, .cell (.int .i64))]), (14, [(10, .cell (.int .i64))]), (19, [(12, .cell (.int .i64))]), (22, [(13, .cell (.int .i64))]), (27, [(15, .cell (.int .i64))]), (30, [(16, .cell (.int .i64))]), (34, [(7, .cell (.int .i64)), (17, .cell (.int .i64))])]) (args := [.big 25 L0]) Try.func24 mixed (Eq.mp (by kernel_rfl : moraineref3_Permute.Vc L0 w R = execF (pA Try.prog R) Try.prog [(4, [(4, .cell (.int .i64)), (5, .cell (.int .i64)), (6, .cell (.int .i64))]), (10, [(7, .cell (.int .i64)), (8, .cell (.int .i64))]), (14, [(10, .cell (.int .i64))]), (19, [(12, .cell (.int .i64))]), (22, [(13, .cell (.int .i64))]), (27, [(15, .cell (.int .i64))]), (30, [(16, .cell (.int .i64))]), (34, [(7, .cell (.int .i64)), (17, .cell (.int .i64))])] Try.f24 [.big 25 L0] w) h)

/-! moraine/keccak.planned: 65 -/
abbrev keccak_planned.n : Nat := 65
def keccak_planned.Vc  (w : World) (R : Ending → World → Prop) : Prop :=
  ∀ (d0 : Addr) (w1 : World), IsNew w 108 #[(.int .u64 0), (.int .u64 0), (.int .u64 0), (.int .u64 0), (.int .u64 0), (.int .u64 0), (.int .u64 0), (.int .u64 0), (.int .u64 0), (.int .u64 0), (.int .u64 0), (.int .u64 0), (.int .u64 0), (.int .u64 0), (.int .u64 0), (.int .u64 0), (.int .u64 0), (.int .u64 0), (.int .u64 0), (.int .u64 0), (.int .u64 0), (.int .u64 0), (.int .u64 0), (.int .u64 0), (.int .i64 0), (.int .i64 0), (.int .i64 0), (.int .i64 0), (.int .i64 0), (.int .i64 0), (.int .i64 0), (.int .i64 0), (.int .i64 0), (.int .i64 0), (.int .i64 0), (.int .i64 0), (.int .i64 0), (.int .i64 0), (.int .i64 0), (.int .i64 0), (.int .i64 0), (.int .i64 0), (.int .i64 0), (.int .i64 0), (.int .i64 0), (.int .i64 0), (.int .i64 0), (.int .i64 0), (.int .i64 0)] d0 w1 →
  Calls Try.prog 102 #[] w1 (fun e2 w3 =>
    ∃ L4 : Array Value, e2 = .returned (.agg L4) ∧
    Calls Try.prog 103 #[] w3 (fun e5 w6 =>
      ∃ L7 : Array Value, e5 = .returned (.agg L7) ∧
      Array.size L4 = 24 ∧
      Array.size L7 = 25 ∧
      ∃ w8 : World, Sem.run Try.prog (Instr.storeAt 108 (.pointer (some d0)) (.agg (lputL (lputL #[(.int .u64 0), (.int .u64 0), (.int .u64 0), (.int .u64 0), (.int .u64 0), (.int .u64 0), (.int .u64 0), (.int .u64 0), (.int .u64 0), (.int .u64 0), (.int .u64 0), (.int .u64 0), (.int .u64 0), (.int .u64 0), (.int .u64 0), (.int .u64 0), (.int .u64 0), (.int .u64 0), (.int .u64 0), (.int .u64 0), (.int .u64 0), (.int .u64 0), (.int .u64 0), (.int .u64 0), (.int .i64 0), (.int .i64 0), (.int .i64 0), (.int .i64 0), (.int .i64 0), (.int .i64 0), (.int .i64 0), (.int .i64 0), (.int .i64 0), (.int .i64 0), (.int .i64 0), (.int .i64 0), (.int .i64 0), (.int .i64 0), (.int .i64 0), (.int .i64 0), (.int .i64 0), (.int .i64 0), (.int .i64 0), (.int .i64 0), (.int .i64 0), (.int .i64 0), (.int .i64 0), (.int .i64 0), (.int .i64 0)] 0 24 L4) 24 25 L7))) w6 = .ok () w8 ∧
      ∃ L9 : Array Value, RowAt w8 d0 49 L9 ∧
      R (.returned (.agg L9)) w8))
theorem keccak_planned.vc  (w : World) (R : Ending → World → Prop) (h : keccak_planned.Vc w R) : Calls Try.prog 65 #[] w R :=
  execF_sound (ann := []) (args := []) Try.func65 mixed (Eq.mp (by kernel_rfl : keccak_planned.Vc w R = execF (pA Try.prog R) Try.prog [] Try.f65 [] w) h)

/-! (moraine/keccak.state).absorb: 66 -/
abbrev keccak_state_absorb.n : Nat := 66
def keccak_state_absorb.Vc (L0 : Array Value) (d1 : Addr) (o2 : Option Addr) (l2 : Nat) (c2 : Nat) (w : World) (R : Ending → World → Prop) : Prop :=
  ∀ (d3 : Addr) (w4 : World), IsNew w 110 L0 d3 w4 →
  ∀ (d5 : Addr) (w6 : World), IsNew w4 110 (Array.replicate 25 (.int .u64 0)) d5 w6 →
  ∃ (I7 : Int → World → Prop) (μ7 : Int → World → Nat), I7 0 w6 ∧
  (∀ (n8 : Int) (j9 : Nat → Value) (w9 : World), I7 n8 w9 →
    (((n8 < 17 →
      ∀ w10 : World, IsDrew w9 w10 →
      ((0 : Int) ≤ n8 ∧ n8 < ((25 : Nat) : Int)) ∧
      ∃ n11 : Int, World.cell? w10 (Addr.add d3 (Int.toNat n8)) = some (.int .u64 n11) ∧
      ((0 : Int) ≤ (IntKind.wrap .i64 ((IntKind.wrap .i64 (8 * n8)) + 8)) ∧ (IntKind.wrap .i64 ((IntKind.wrap .i64 (8 * n8)) + 8)) ≤ ((c2 : Nat) : Int)) ∧
      ((0 : Int) ≤ (IntKind.wrap .i64 (8 * n8)) ∧ (IntKind.wrap .i64 (8 * n8)) ≤ (((Int.toNat (IntKind.wrap .i64 ((IntKind.wrap .i64 (8 * n8)) + 8))) : Nat) : Int)) ∧
      Calls Try.prog 104 #[(.slice (subO o2 c2 (Int.toNat (IntKind.wrap .i64 (8 * n8))) 1) ((Int.toNat (IntKind.wrap .i64 ((IntKind.wrap .i64 (8 * n8)) + 8))) - (Int.toNat (IntKind.wrap .i64 (8 * n8)))) (c2 - (Int.toNat (IntKind.wrap .i64 (8 * n8)))))] w10 (fun e12 w13 =>
        ∃ n14 : Int, e12 = .returned (.int .u64 n14) ∧
        World.cell? w13 (Addr.add d3 (Int.toNat n8)) = some (.int .u64 n11) ∧
        ((0 : Int) ≤ n8 ∧ n8 < ((25 : Nat) : Int)) ∧
        CanSet w13 (Addr.add d3 (Int.toNat n8)) (.int .u64 (bitsI .xor .u64 n11 n14)) ∧ ∀ w15 : World, IsSet w13 (Addr.add d3 (Int.toNat n8)) (.int .u64 (bitsI .xor .u64 n11 n14)) w15 →
        I7 (IntKind.wrap .i64 (n8 + 1)) w15 ∧ μ7 (IntKind.wrap .i64 (n8 + 1)) w15 < μ7 n8 w9))) ∧
     ((¬ n8 < 17 →
      ∃ L16 : Array Value, RowAt w9 d3 25 L16 ∧
      Calls Try.prog 68 #[(.agg L16), (.pointer (some d1))] w9 (fun e17 w18 =>
        ∃ L19 : Array Value, e17 = .returned (.agg L19) ∧
        ∃ w20 : World, Sem.run Try.prog (Instr.storeAt 110 (.pointer (some d5)) (.agg L19)) w18 = .ok () w20 ∧
        ∃ L21 : Array Value, RowAt w20 d5 25 L21 ∧
        R (.returned (.agg L21)) w20)))))
theorem keccak_state_absorb.vc (L0 : Array Value) (d1 : Addr) (o2 : Option Addr) (l2 : Nat) (c2 : Nat) (w : World) (R : Ending → World → Prop) (h : keccak_state_absorb.Vc L0 d1 o2 l2 c2 w R) : Calls Try.prog 66 #[(.agg L0), (.pointer (some d1)), (.slice o2 l2 c2)] w R :=
  execF_sound (ann := [(2, [(8, .cell (.int .i64))])]) (args := [.big 25 L0, .addr d1, .slice o2 l2 c2]) Try.func66 mixed (Eq.mp (by kernel_rfl : keccak_state_absorb.Vc L0 d1 o2 l2 c2 w R = execF (pA Try.prog R) Try.prog [(2, [(8, .cell (.int .i64))])] Try.f66 [.big 25 L0, .addr d1, .slice o2 l2 c2] w) h)

/-! moraine/plain.Little: 67 -/
abbrev plain_Little.n : Nat := 67
def plain_Little.Vc (o0 : Option Addr) (l0 : Nat) (c0 : Nat) (n1 : Int) (n2 : Int) (w : World) (R : Ending → World → Prop) : Prop :=
  ∃ (I3 : Option Addr → Nat → Nat → Int → World → Prop) (μ3 : Option Addr → Nat → Nat → Int → World → Nat), I3 o0 l0 c0 0 w ∧
  (∀ (o4 : Option Addr) (l4 : Nat) (c4 : Nat) (n5 : Int) (j6 : Nat → Value) (w6 : World), I3 o4 l4 c4 n5 w6 →
    (((n5 < n2 →
      (0 : Int) ≤ (IntKind.wrap .i64 (8 * n5)) ∧
      ∀ (d7 : Addr) (w8 : World), IsNew w6 5 #[(.int .u8 (IntKind.wrap .u8 (shrI .u64 n1 (IntKind.wrap .i64 (8 * n5)))))] d7 w8 →
      ∃ (v9 : Value) (w10 : World), Sem.run Try.prog (builtinV .append #[22, 22] 22 #[(.slice o4 l4 c4), (.slice (some d7) 1 1)]) w8 = .ok v9 w10 ∧
      ∃ o11 : Option Addr, ∃ l12 : Nat, ∃ l13 : Nat, v9 = (.slice o11 l12 l13) ∧
      I3 o11 l12 l13 (IntKind.wrap .i64 (n5 + 1)) w10 ∧ μ3 o11 l12 l13 (IntKind.wrap .i64 (n5 + 1)) w10 < μ3 o4 l4 c4 n5 w6)) ∧
     ((¬ n5 < n2 →
      R (.returned (.slice o4 l4 c4)) w6))))
theorem plain_Little.vc (o0 : Option Addr) (l0 : Nat) (c0 : Nat) (n1 : Int) (n2 : Int) (w : World) (R : Ending → World → Prop) (h : plain_Little.Vc o0 l0 c0 n1 n2 w R) : Calls Try.prog 67 #[(.slice o0 l0 c0), (.int .u64 n1), (.int .i64 n2)] w R :=
  execF_sound (ann := [(2, [(0, .cell (.slice)), (9, .cell (.int .i64))])]) (args := [.slice o0 l0 c0, .int .u64 n1, .int .i64 n2]) Try.func67 mixed (Eq.mp (by kernel_rfl : plain_Little.Vc o0 l0 c0 n1 n2 w R = execF (pA Try.prog R) Try.prog [(2, [(0, .cell (.slice)), (9, .cell (.int .i64))])] Try.f67 [.slice o0 l0 c0, .int .u64 n1, .int .i64 n2] w) h)

/-! (moraine/keccak.state).permuted: 68 -/
abbrev keccak_state_permuted.n : Nat := 68
def keccak_state_permuted.Vc (L0 : Array Value) (d1 : Addr) (w : World) (R : Ending → World → Prop) : Prop :=
  ∀ (d2 : Addr) (w3 : World), IsNew w 110 L0 d2 w3 →
  ∀ (d4 : Addr) (w5 : World), IsNew w3 110 (Array.replicate 25 (.int .u64 0)) d4 w5 →
  ∃ (I6 : Int → World → Prop) (μ6 : Int → World → Nat), I6 0 w5 ∧
  (∀ (n7 : Int) (j8 : Nat → Value) (w8 : World), I6 n7 w8 →
    (((n7 < 24 →
      ∃ L9 : Array Value, RowAt w8 d2 25 L9 ∧
      Calls Try.prog 105 #[(.agg L9), (.pointer (some d1)), (.int .i64 n7)] w8 (fun e10 w11 =>
        ∃ L12 : Array Value, e10 = .returned (.agg L12) ∧
        ∃ w13 : World, Sem.run Try.prog (Instr.storeAt 110 (.pointer (some d2)) (.agg L12)) w11 = .ok () w13 ∧
        I6 (IntKind.wrap .i64 (n7 + 1)) w13 ∧ μ6 (IntKind.wrap .i64 (n7 + 1)) w13 < μ6 n7 w8))) ∧
     ((¬ n7 < 24 →
      ∃ L14 : Array Value, RowAt w8 d2 25 L14 ∧
      ∃ w15 : World, Sem.run Try.prog (Instr.storeAt 110 (.pointer (some d4)) (.agg L14)) w8 = .ok () w15 ∧
      ∃ L16 : Array Value, RowAt w15 d4 25 L16 ∧
      R (.returned (.agg L16)) w15))))
theorem keccak_state_permuted.vc (L0 : Array Value) (d1 : Addr) (w : World) (R : Ending → World → Prop) (h : keccak_state_permuted.Vc L0 d1 w R) : Calls Try.prog 68 #[(.agg L0), (.pointer (some d1))] w R :=
  execF_sound (ann := [(2, [(6, .cell (.int .i64))])]) (args := [.big 25 L0, .addr d1]) Try.func68 mixed (Eq.mp (by kernel_rfl : keccak_state_permuted.Vc L0 d1 w R = execF (pA Try.prog R) Try.prog [(2, [(6, .cell (.int .i64))])] Try.f68 [.big 25 L0, .addr d1] w) h)

/-! moraine/moraineref3.left: 69 -/
abbrev moraineref3_left.n : Nat := 69
def moraineref3_left.Vc (n0 : Int) (n1 : Int) (w : World) (R : Ending → World → Prop) : Prop :=
  (((n1 = 0 →
    R (.returned (.int .u64 n0)) w)) ∧
   ((n1 ≠ 0 →
    ∀ w2 : World, IsDrew w w2 →
    (0 : Int) ≤ n1 ∧
    (0 : Int) ≤ (IntKind.wrap .i64 (64 - n1)) ∧
    R (.returned (.int .u64 (bitsI .or .u64 (shlI .u64 n0 n1) (shrI .u64 n0 (IntKind.wrap .i64 (64 - n1)))))) w2)))
theorem moraineref3_left.vc (n0 : Int) (n1 : Int) (w : World) (R : Ending → World → Prop) (h : moraineref3_left.Vc n0 n1 w R) : Calls Try.prog 69 #[(.int .u64 n0), (.int .i64 n1)] w R :=
  execF_sound (ann := []) (args := [.int .u64 n0, .int .i64 n1]) Try.func69 mixed (Eq.mp (by kernel_rfl : moraineref3_left.Vc n0 n1 w R = execF (pA Try.prog R) Try.prog [] Try.f69 [.int .u64 n0, .int .i64 n1] w) h)

/-! moraine/keccak.constants: 102 -/
abbrev keccak_constants.n : Nat := 102
def keccak_constants.Vc  (w : World) (R : Ending → World → Prop) : Prop :=
  ∀ (d0 : Addr) (w1 : World), IsNew w 105 (Array.replicate 24 (.int .u64 0)) d0 w1 →
  ∀ (d2 : Addr) (w3 : World), IsNew w1 105 (Array.replicate 24 (.int .u64 0)) d2 w3 →
  ∃ (I4 : Int → Int → World → Prop) (μ4 : Int → Int → World → Nat), I4 1 0 w3 ∧
  (∀ (n5 : Int) (n6 : Int) (j7 : Nat → Value) (w7 : World), I4 n5 n6 w7 →
    (((n6 < 24 →
      ∃ (I8 : Int → Int → World → Prop) (μ8 : Int → Int → World → Nat), I8 n5 0 w7 ∧
      (∀ (n9 : Int) (n10 : Int) (j11 : Nat → Value) (w11 : World), I8 n9 n10 w11 →
        (((n10 < 7 →
          ∀ w12 : World, IsDrew w11 w12 →
          ((0 : Int) ≤ n6 ∧ n6 < ((24 : Nat) : Int)) ∧
          ∃ n13 : Int, World.cell? w12 (Addr.add d2 (Int.toNat n6)) = some (.int .u64 n13) ∧
          (0 : Int) ≤ n10 ∧
          (0 : Int) ≤ (IntKind.wrap .u64 ((shlI .u64 1 n10) - 1)) ∧
          ((0 : Int) ≤ n6 ∧ n6 < ((24 : Nat) : Int)) ∧
          CanSet w12 (Addr.add d2 (Int.toNat n6)) (.int .u64 (bitsI .or .u64 n13 (shlI .u64 (IntKind.wrap .u64 (bitsI .and .i64 n9 1)) (IntKind.wrap .u64 ((shlI .u64 1 n10) - 1))))) ∧ ∀ w14 : World, IsSet w12 (Addr.add d2 (Int.toNat n6)) (.int .u64 (bitsI .or .u64 n13 (shlI .u64 (IntKind.wrap .u64 (bitsI .and .i64 n9 1)) (IntKind.wrap .u64 ((shlI .u64 1 n10) - 1))))) w14 →
          ((((IntKind.wrap .i64 (n9 * 2)) > 255 →
            I8 (bitsI .xor .i64 (IntKind.wrap .i64 ((IntKind.wrap .i64 (n9 * 2)) - 256)) 113) (IntKind.wrap .i64 (n10 + 1)) w14 ∧ μ8 (bitsI .xor .i64 (IntKind.wrap .i64 ((IntKind.wrap .i64 (n9 * 2)) - 256)) 113) (IntKind.wrap .i64 (n10 + 1)) w14 < μ8 n9 n10 w11)) ∧
           ((¬ (IntKind.wrap .i64 (n9 * 2)) > 255 →
            I8 (IntKind.wrap .i64 (n9 * 2)) (IntKind.wrap .i64 (n10 + 1)) w14 ∧ μ8 (IntKind.wrap .i64 (n9 * 2)) (IntKind.wrap .i64 (n10 + 1)) w14 < μ8 n9 n10 w11))))) ∧
         ((¬ n10 < 7 →
          I4 n9 (IntKind.wrap .i64 (n6 + 1)) w11 ∧ μ4 n9 (IntKind.wrap .i64 (n6 + 1)) w11 < μ4 n5 n6 w7)))))) ∧
     ((¬ n6 < 24 →
      ∃ L15 : Array Value, RowAt w7 d2 24 L15 ∧
      ∃ w16 : World, Sem.run Try.prog (Instr.storeAt 105 (.pointer (some d0)) (.agg L15)) w7 = .ok () w16 ∧
      ∃ L17 : Array Value, RowAt w16 d0 24 L17 ∧
      R (.returned (.agg L17)) w16))))
theorem keccak_constants.vc  (w : World) (R : Ending → World → Prop) (h : keccak_constants.Vc w R) : Calls Try.prog 102 #[] w R :=
  execF_sound (ann := [(4, [(2, .cell (.int .i64)), (5, .cell (.int .i64))]), (7, [(2, .cell (.int .i64)), (8, .cell (.int .i64))])]) (args := []) Try.func102 mixed (Eq.mp (by kernel_rfl : keccak_constants.Vc w R = execF (pA Try.prog R) Try.prog [(4, [(2, .cell (.int .i64)), (5, .cell (.int .i64))]), (7, [(2, .cell (.int .i64)), (8, .cell (.int .i64))])] Try.f102 [] w) h)

/-! moraine/keccak.turns: 103 -/
abbrev keccak_turns.n : Nat := 103
def keccak_turns.Vc  (w : World) (R : Ending → World → Prop) : Prop :=
  ∀ (d0 : Addr) (w1 : World), IsNew w 106 (Array.replicate 25 (.int .i64 0)) d0 w1 →
  ∀ (d2 : Addr) (w3 : World), IsNew w1 106 (Array.replicate 25 (.int .i64 0)) d2 w3 →
  ∃ (I4 : Int → Int → Int → World → Prop) (μ4 : Int → Int → Int → World → Nat), I4 1 0 0 w3 ∧
  (∀ (n5 : Int) (n6 : Int) (n7 : Int) (j8 : Nat → Value) (w8 : World), I4 n5 n6 n7 w8 →
    (((n7 < 24 →
      Calls Try.prog 124 #[(.int .i64 n5), (.int .i64 n6)] w8 (fun e9 w10 =>
        ∃ n11 : Int, e9 = .returned (.int .i64 n11) ∧
        ((0 : Int) ≤ n11 ∧ n11 < ((25 : Nat) : Int)) ∧
        CanSet w10 (Addr.add d2 (Int.toNat n11)) (.int .i64 (Int.tmod (IntKind.wrap .i64 (Int.tdiv (IntKind.wrap .i64 ((IntKind.wrap .i64 (n7 + 1)) * (IntKind.wrap .i64 (n7 + 2)))) 2)) 64)) ∧ ∀ w12 : World, IsSet w10 (Addr.add d2 (Int.toNat n11)) (.int .i64 (Int.tmod (IntKind.wrap .i64 (Int.tdiv (IntKind.wrap .i64 ((IntKind.wrap .i64 (n7 + 1)) * (IntKind.wrap .i64 (n7 + 2)))) 2)) 64)) w12 →
        I4 n6 (Int.tmod (IntKind.wrap .i64 ((IntKind.wrap .i64 (2 * n5)) + (IntKind.wrap .i64 (3 * n6)))) 5) (IntKind.wrap .i64 (n7 + 1)) w12 ∧ μ4 n6 (Int.tmod (IntKind.wrap .i64 ((IntKind.wrap .i64 (2 * n5)) + (IntKind.wrap .i64 (3 * n6)))) 5) (IntKind.wrap .i64 (n7 + 1)) w12 < μ4 n5 n6 n7 w8))) ∧
     ((¬ n7 < 24 →
      ∃ L13 : Array Value, RowAt w8 d2 25 L13 ∧
      ∃ w14 : World, Sem.run Try.prog (Instr.storeAt 106 (.pointer (some d0)) (.agg L13)) w8 = .ok () w14 ∧
      ∃ L15 : Array Value, RowAt w14 d0 25 L15 ∧
      R (.returned (.agg L15)) w14))))
theorem keccak_turns.vc  (w : World) (R : Ending → World → Prop) (h : keccak_turns.Vc w R) : Calls Try.prog 103 #[] w R :=
  execF_sound (ann := [(4, [(2, .cell (.int .i64)), (3, .cell (.int .i64)), (5, .cell (.int .i64))])]) (args := []) Try.func103 mixed (Eq.mp (by kernel_rfl : keccak_turns.Vc w R = execF (pA Try.prog R) Try.prog [(4, [(2, .cell (.int .i64)), (3, .cell (.int .i64)), (5, .cell (.int .i64))])] Try.f103 [] w) h)

/-! moraine/plain.Unlittle: 104 -/
abbrev plain_Unlittle.n : Nat := 104
def plain_Unlittle.Vc (o0 : Option Addr) (l0 : Nat) (c0 : Nat) (w : World) (R : Ending → World → Prop) : Prop :=
  ∃ (I1 : Int → Int → World → Prop) (μ1 : Int → Int → World → Nat), I1 0 0 w ∧
  (∀ (n2 : Int) (n3 : Int) (j4 : Nat → Value) (w4 : World), I1 n2 n3 w4 →
    (((n3 < ((l0 : Nat) : Int) →
      ∃ d5 : Addr, o0 = some d5 ∧
      ((0 : Int) ≤ n3 ∧ n3 < ((l0 : Nat) : Int)) ∧
      ∃ n6 : Int, World.cell? w4 (Addr.add d5 (Int.toNat n3)) = some (.int .u8 n6) ∧
      (0 : Int) ≤ (IntKind.wrap .i64 (8 * n3)) ∧
      I1 (bitsI .or .u64 n2 (shlI .u64 (IntKind.wrap .u64 n6) (IntKind.wrap .i64 (8 * n3)))) (IntKind.wrap .i64 (n3 + 1)) w4 ∧ μ1 (bitsI .or .u64 n2 (shlI .u64 (IntKind.wrap .u64 n6) (IntKind.wrap .i64 (8 * n3)))) (IntKind.wrap .i64 (n3 + 1)) w4 < μ1 n2 n3 w4)) ∧
     ((¬ n3 < ((l0 : Nat) : Int) →
      R (.returned (.int .u64 n2)) w4))))
theorem plain_Unlittle.vc (o0 : Option Addr) (l0 : Nat) (c0 : Nat) (w : World) (R : Ending → World → Prop) (h : plain_Unlittle.Vc o0 l0 c0 w R) : Calls Try.prog 104 #[(.slice o0 l0 c0)] w R :=
  execF_sound (ann := [(3, [(3, .cell (.int .u64)), (8, .cell (.int .i64))])]) (args := [.slice o0 l0 c0]) Try.func104 mixed (Eq.mp (by kernel_rfl : plain_Unlittle.Vc o0 l0 c0 w R = execF (pA Try.prog R) Try.prog [(3, [(3, .cell (.int .u64)), (8, .cell (.int .i64))])] Try.f104 [.slice o0 l0 c0] w) h)

/-! (moraine/keccak.state).round: 105 -/
abbrev keccak_state_round.n : Nat := 105
def keccak_state_round.Vc (L0 : Array Value) (d1 : Addr) (n2 : Int) (w : World) (R : Ending → World → Prop) : Prop :=
  ∀ (d3 : Addr) (w4 : World), IsNew w 110 L0 d3 w4 →
  ∀ (d5 : Addr) (w6 : World), IsNew w4 110 (Array.replicate 25 (.int .u64 0)) d5 w6 →
  ∀ (d7 : Addr) (w8 : World), IsNew w6 118 #[(.int .u64 0), (.int .u64 0), (.int .u64 0), (.int .u64 0), (.int .u64 0)] d7 w8 →
  ∃ (I9 : Int → World → Prop) (μ9 : Int → World → Nat), I9 0 w8 ∧
  (∀ (n10 : Int) (j11 : Nat → Value) (w11 : World), I9 n10 w11 →
    (((n10 < 5 →
      ∃ (I12 : Int → World → Prop) (μ12 : Int → World → Nat), I12 0 w11 ∧
      (∀ (n13 : Int) (j14 : Nat → Value) (w14 : World), I12 n13 w14 →
        (((n13 < 5 →
          ∀ w15 : World, IsDrew w14 w15 →
          ((0 : Int) ≤ n10 ∧ n10 < ((5 : Nat) : Int)) ∧
          ∃ n16 : Int, World.cell? w15 (Addr.add d7 (Int.toNat n10)) = some (.int .u64 n16) ∧
          Calls Try.prog 124 #[(.int .i64 n10), (.int .i64 n13)] w15 (fun e17 w18 =>
            ∃ n19 : Int, e17 = .returned (.int .i64 n19) ∧
            World.cell? w18 (Addr.add d7 (Int.toNat n10)) = some (.int .u64 n16) ∧
            ((0 : Int) ≤ n19 ∧ n19 < ((25 : Nat) : Int)) ∧
            ∃ n20 : Int, World.cell? w18 (Addr.add d3 (Int.toNat n19)) = some (.int .u64 n20) ∧
            ((0 : Int) ≤ n10 ∧ n10 < ((5 : Nat) : Int)) ∧
            CanSet w18 (Addr.add d7 (Int.toNat n10)) (.int .u64 (bitsI .xor .u64 n16 n20)) ∧ ∀ w21 : World, IsSet w18 (Addr.add d7 (Int.toNat n10)) (.int .u64 (bitsI .xor .u64 n16 n20)) w21 →
            I12 (IntKind.wrap .i64 (n13 + 1)) w21 ∧ μ12 (IntKind.wrap .i64 (n13 + 1)) w21 < μ12 n13 w14))) ∧
         ((¬ n13 < 5 →
          I9 (IntKind.wrap .i64 (n10 + 1)) w14 ∧ μ9 (IntKind.wrap .i64 (n10 + 1)) w14 < μ9 n10 w11)))))) ∧
     ((¬ n10 < 5 →
      ∀ (d22 : Addr) (w23 : World), IsNew w11 110 (Array.replicate 25 (.int .u64 0)) d22 w23 →
      ∃ (I24 : Int → World → Prop) (μ24 : Int → World → Nat), I24 0 w23 ∧
      (∀ (n25 : Int) (j26 : Nat → Value) (w26 : World), I24 n25 w26 →
        (((n25 < 5 →
          ∀ w27 : World, IsDrew w26 w27 →
          ((0 : Int) ≤ (Int.tmod (IntKind.wrap .i64 ((IntKind.wrap .i64 (n25 + 5)) - 1)) 5) ∧ (Int.tmod (IntKind.wrap .i64 ((IntKind.wrap .i64 (n25 + 5)) - 1)) 5) < ((5 : Nat) : Int)) ∧
          ∃ n28 : Int, World.cell? w27 (Addr.add d7 (Int.toNat (Int.tmod (IntKind.wrap .i64 ((IntKind.wrap .i64 (n25 + 5)) - 1)) 5))) = some (.int .u64 n28) ∧
          ((0 : Int) ≤ (Int.tmod (IntKind.wrap .i64 (n25 + 1)) 5) ∧ (Int.tmod (IntKind.wrap .i64 (n25 + 1)) 5) < ((5 : Nat) : Int)) ∧
          ∃ n29 : Int, World.cell? w27 (Addr.add d7 (Int.toNat (Int.tmod (IntKind.wrap .i64 (n25 + 1)) 5))) = some (.int .u64 n29) ∧
          Calls Try.prog 125 #[(.int .u64 n29), (.int .i64 1)] w27 (fun e30 w31 =>
            ∃ n32 : Int, e30 = .returned (.int .u64 n32) ∧
            World.cell? w31 (Addr.add d7 (Int.toNat (Int.tmod (IntKind.wrap .i64 ((IntKind.wrap .i64 (n25 + 5)) - 1)) 5))) = some (.int .u64 n28) ∧
            ∃ (I33 : Int → World → Prop) (μ33 : Int → World → Nat), I33 0 w31 ∧
            (∀ (n34 : Int) (j35 : Nat → Value) (w35 : World), I33 n34 w35 →
              (((n34 < 5 →
                ∀ w36 : World, IsDrew w35 w36 →
                Calls Try.prog 124 #[(.int .i64 n34), (.int .i64 (IntKind.wrap .i64 ((IntKind.wrap .i64 (2 * n25)) + (IntKind.wrap .i64 (3 * n34)))))] w36 (fun e37 w38 =>
                  ∃ n39 : Int, e37 = .returned (.int .i64 n39) ∧
                  Calls Try.prog 124 #[(.int .i64 n25), (.int .i64 n34)] w38 (fun e40 w41 =>
                    ∃ n42 : Int, e40 = .returned (.int .i64 n42) ∧
                    ((0 : Int) ≤ n42 ∧ n42 < ((25 : Nat) : Int)) ∧
                    ∃ n43 : Int, World.cell? w41 (Addr.add d3 (Int.toNat n42)) = some (.int .u64 n43) ∧
                    Calls Try.prog 124 #[(.int .i64 n25), (.int .i64 n34)] w41 (fun e44 w45 =>
                      ∃ n46 : Int, e44 = .returned (.int .i64 n46) ∧
                      World.cell? w45 (Addr.add d3 (Int.toNat n42)) = some (.int .u64 n43) ∧
                      ((0 : Int) ≤ n46 ∧ n46 < ((25 : Nat) : Int)) ∧
                      ∃ n47 : Int, World.cell? w45 (Addr.add (Addr.add d1 24) (Int.toNat n46)) = some (.int .i64 n47) ∧
                      Calls Try.prog 125 #[(.int .u64 (bitsI .xor .u64 n43 (bitsI .xor .u64 n28 n32))), (.int .i64 n47)] w45 (fun e48 w49 =>
                        ∃ n50 : Int, e48 = .returned (.int .u64 n50) ∧
                        ((0 : Int) ≤ n39 ∧ n39 < ((25 : Nat) : Int)) ∧
                        CanSet w49 (Addr.add d22 (Int.toNat n39)) (.int .u64 n50) ∧ ∀ w51 : World, IsSet w49 (Addr.add d22 (Int.toNat n39)) (.int .u64 n50) w51 →
                        I33 (IntKind.wrap .i64 (n34 + 1)) w51 ∧ μ33 (IntKind.wrap .i64 (n34 + 1)) w51 < μ33 n34 w35)))))) ∧
               ((¬ n34 < 5 →
                I24 (IntKind.wrap .i64 (n25 + 1)) w35 ∧ μ24 (IntKind.wrap .i64 (n25 + 1)) w35 < μ24 n25 w26))))))) ∧
         ((¬ n25 < 5 →
          ∀ (d52 : Addr) (w53 : World), IsNew w26 110 (Array.replicate 25 (.int .u64 0)) d52 w53 →
          ∃ (I54 : Int → World → Prop) (μ54 : Int → World → Nat), I54 0 w53 ∧
          (∀ (n55 : Int) (j56 : Nat → Value) (w56 : World), I54 n55 w56 →
            (((n55 < 5 →
              ∃ (I57 : Int → World → Prop) (μ57 : Int → World → Nat), I57 0 w56 ∧
              (∀ (n58 : Int) (j59 : Nat → Value) (w59 : World), I57 n58 w59 →
                (((n58 < 5 →
                  ∀ w60 : World, IsDrew w59 w60 →
                  Calls Try.prog 124 #[(.int .i64 n55), (.int .i64 n58)] w60 (fun e61 w62 =>
                    ∃ n63 : Int, e61 = .returned (.int .i64 n63) ∧
                    Calls Try.prog 124 #[(.int .i64 n55), (.int .i64 n58)] w62 (fun e64 w65 =>
                      ∃ n66 : Int, e64 = .returned (.int .i64 n66) ∧
                      ((0 : Int) ≤ n66 ∧ n66 < ((25 : Nat) : Int)) ∧
                      ∃ n67 : Int, World.cell? w65 (Addr.add d22 (Int.toNat n66)) = some (.int .u64 n67) ∧
                      Calls Try.prog 124 #[(.int .i64 (IntKind.wrap .i64 (n55 + 1))), (.int .i64 n58)] w65 (fun e68 w69 =>
                        ∃ n70 : Int, e68 = .returned (.int .i64 n70) ∧
                        World.cell? w69 (Addr.add d22 (Int.toNat n66)) = some (.int .u64 n67) ∧
                        ((0 : Int) ≤ n70 ∧ n70 < ((25 : Nat) : Int)) ∧
                        ∃ n71 : Int, World.cell? w69 (Addr.add d22 (Int.toNat n70)) = some (.int .u64 n71) ∧
                        Calls Try.prog 124 #[(.int .i64 (IntKind.wrap .i64 (n55 + 2))), (.int .i64 n58)] w69 (fun e72 w73 =>
                          ∃ n74 : Int, e72 = .returned (.int .i64 n74) ∧
                          World.cell? w73 (Addr.add d22 (Int.toNat n70)) = some (.int .u64 n71) ∧
                          World.cell? w73 (Addr.add d22 (Int.toNat n66)) = some (.int .u64 n67) ∧
                          ((0 : Int) ≤ n74 ∧ n74 < ((25 : Nat) : Int)) ∧
                          ∃ n75 : Int, World.cell? w73 (Addr.add d22 (Int.toNat n74)) = some (.int .u64 n75) ∧
                          ((0 : Int) ≤ n63 ∧ n63 < ((25 : Nat) : Int)) ∧
                          CanSet w73 (Addr.add d52 (Int.toNat n63)) (.int .u64 (bitsI .xor .u64 n67 (bitsI .and .u64 (bitsI .xor .u64 18446744073709551615 n71) n75))) ∧ ∀ w76 : World, IsSet w73 (Addr.add d52 (Int.toNat n63)) (.int .u64 (bitsI .xor .u64 n67 (bitsI .and .u64 (bitsI .xor .u64 18446744073709551615 n71) n75))) w76 →
                          I57 (IntKind.wrap .i64 (n58 + 1)) w76 ∧ μ57 (IntKind.wrap .i64 (n58 + 1)) w76 < μ57 n58 w59)))))) ∧
                 ((¬ n58 < 5 →
                  I54 (IntKind.wrap .i64 (n55 + 1)) w59 ∧ μ54 (IntKind.wrap .i64 (n55 + 1)) w59 < μ54 n55 w56)))))) ∧
             ((¬ n55 < 5 →
              ∀ w77 : World, IsDrew w56 w77 →
              ∃ n78 : Int, World.cell? w77 d52 = some (.int .u64 n78) ∧
              ((0 : Int) ≤ n2 ∧ n2 < ((24 : Nat) : Int)) ∧
              ∃ n79 : Int, World.cell? w77 (Addr.add d1 (Int.toNat n2)) = some (.int .u64 n79) ∧
              CanSet w77 d52 (.int .u64 (bitsI .xor .u64 n78 n79)) ∧ ∀ w80 : World, IsSet w77 d52 (.int .u64 (bitsI .xor .u64 n78 n79)) w80 →
              ∃ L81 : Array Value, RowAt w80 d52 25 L81 ∧
              ∃ w82 : World, Sem.run Try.prog (Instr.storeAt 110 (.pointer (some d5)) (.agg L81)) w80 = .ok () w82 ∧
              ∃ L83 : Array Value, RowAt w82 d5 25 L83 ∧
              R (.returned (.agg L83)) w82))))))))))))
theorem keccak_state_round.vc (L0 : Array Value) (d1 : Addr) (n2 : Int) (w : World) (R : Ending → World → Prop) (h : keccak_state_round.Vc L0 d1 n2 w R) : Calls Try.prog 105 #[(.agg L0), (.pointer (some d1)), (.int .i64 n2)] w R :=
  execF_sound (ann := [(3, [(17, .cell (.int .i64))]), (6, [(20, .cell (.int .i64))]), (13, [(35, .cell (.int .i64))]), (17, [(51, .cell (.int .i64))]), (24, [(80, .cell (.int .i64))]), (27, [(83, .cell (.int .i64))])]) (args := [.big 25 L0, .addr d1, .int .i64 n2]) Try.func105 mixed (Eq.mp (by kernel_rfl : keccak_state_round.Vc L0 d1 n2 w R = execF (pA Try.prog R) Try.prog [(3, [(17, .cell (.int .i64))]), (6, [(20, .cell (.int .i64))]), (13, [(35, .cell (.int .i64))]), (17, [(51, .cell (.int .i64))]), (24, [(80, .cell (.int .i64))]), (27, [(83, .cell (.int .i64))])] Try.f105 [.big 25 L0, .addr d1, .int .i64 n2] w) h)

/-! moraine/keccak.at: 124 -/
abbrev keccak_at.n : Nat := 124
def keccak_at.Vc (n0 : Int) (n1 : Int) (w : World) (R : Ending → World → Prop) : Prop :=
  R (.returned (.int .i64 (IntKind.wrap .i64 ((Int.tmod n0 5) + (IntKind.wrap .i64 (5 * (Int.tmod n1 5))))))) w
theorem keccak_at.vc (n0 : Int) (n1 : Int) (w : World) (R : Ending → World → Prop) (h : keccak_at.Vc n0 n1 w R) : Calls Try.prog 124 #[(.int .i64 n0), (.int .i64 n1)] w R :=
  execF_sound (ann := []) (args := [.int .i64 n0, .int .i64 n1]) Try.func124 mixed (Eq.mp (by kernel_rfl : keccak_at.Vc n0 n1 w R = execF (pA Try.prog R) Try.prog [] Try.f124 [.int .i64 n0, .int .i64 n1] w) h)

/-! math/bits.RotateLeft64: 125 -/
abbrev math_bits_RotateLeft64.n : Nat := 125
def math_bits_RotateLeft64.Vc (n0 : Int) (n1 : Int) (w : World) (R : Ending → World → Prop) : Prop :=
  (0 : Int) ≤ (bitsI .and .u64 (IntKind.wrap .u64 n1) 63) ∧
  (0 : Int) ≤ (IntKind.wrap .u64 (64 - (bitsI .and .u64 (IntKind.wrap .u64 n1) 63))) ∧
  R (.returned (.int .u64 (bitsI .or .u64 (shlI .u64 n0 (bitsI .and .u64 (IntKind.wrap .u64 n1) 63)) (shrI .u64 n0 (IntKind.wrap .u64 (64 - (bitsI .and .u64 (IntKind.wrap .u64 n1) 63))))))) w
theorem math_bits_RotateLeft64.vc (n0 : Int) (n1 : Int) (w : World) (R : Ending → World → Prop) (h : math_bits_RotateLeft64.Vc n0 n1 w R) : Calls Try.prog 125 #[(.int .u64 n0), (.int .i64 n1)] w R :=
  execF_sound (ann := []) (args := [.int .u64 n0, .int .i64 n1]) Try.func125 mixed (Eq.mp (by kernel_rfl : math_bits_RotateLeft64.Vc n0 n1 w R = execF (pA Try.prog R) Try.prog [] Try.f125 [.int .u64 n0, .int .i64 n1] w) h)

end Go.Proofs.Ytfghidehlnfdiaa
end
