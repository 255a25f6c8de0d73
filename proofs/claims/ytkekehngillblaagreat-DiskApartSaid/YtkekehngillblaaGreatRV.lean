/- The verification conditions of some functions, printed by a program of ours (wip/PrintVc.lean). -/
import Derived.Test.YtkekehngillblaaGreatXFun
import Derived.Test.YtkekehngillblaaGreatProg
import Derived.KernelRfl
section
set_option linter.unusedVariables false
namespace Go.Proofs.YtkekehngillblaaGreat
open Go Go.Vcg
theorem mixed : Tryz.prog.follows .mixedOrders = true := by kernel_rfl
/-! moraine/morainelaw1.DiskApart: 3 -/
abbrev morainelaw1_DiskApart.n : Nat := 3
def morainelaw1_DiskApart.Vc (o0 : Option Addr) (l0 : Nat) (c0 : Nat) (w : World) (R : Ending → World → Prop) : Prop :=
  Calls Tryz.prog 5 #[] w (fun e1 w2 =>
    ∃ b3 : Bool, e1 = .returned (.bool b3) ∧
    (((b3 = false →
      R (.returned (.bool false)) w2)) ∧
     ((b3 = true →
      Calls Tryz.prog 6 #[(.slice o0 l0 c0)] w2 (fun e4 w5 =>
        ∃ b6 : Bool, e4 = .returned (.bool b6) ∧
        (((b6 = false →
          R (.returned (.bool true)) w5)) ∧
         ((b6 = true →
          Calls Tryz.prog 7 #[(.int .i64 300)] w5 (fun e7 w8 =>
            ∃ o9 : Option Addr, ∃ n10 : Int, e7 = .returned (.tuple #[(.pointer o9), (.int .i64 n10)]) ∧
            Calls Tryz.prog 7 #[(.int .i64 500)] w8 (fun e11 w12 =>
              ∃ o13 : Option Addr, ∃ n14 : Int, e11 = .returned (.tuple #[(.pointer o13), (.int .i64 n14)]) ∧
              (((n10 ≠ 0 →
                R (.returned (.bool false)) w12)) ∧
               ((n10 = 0 →
                (((n14 ≠ 0 →
                  R (.returned (.bool false)) w12)) ∧
                 ((n14 = 0 →
                  (((o9 = none →
                    R (.returned (.bool false)) w12)) ∧
                   ((o9 ≠ none →
                    (((o13 = none →
                      R (.returned (.bool false)) w12)) ∧
                     ((o13 ≠ none →
                      Calls Tryz.prog 8 #[(.int .i64 300)] w12 (fun e15 w16 =>
                        ∃ o17 : Option Addr, e15 = .returned (.pointer o17) ∧
                        Calls Tryz.prog 8 #[(.int .i64 500)] w16 (fun e18 w19 =>
                          ∃ o20 : Option Addr, e18 = .returned (.pointer o20) ∧
                          ∃ (I21 : Int → World → Prop) (μ21 : Int → World → Nat), I21 0 w19 ∧
                          (∀ (n22 : Int) (j23 : Nat → Value) (w23 : World), I21 n22 w23 →
                            (((n22 < ((l0 : Nat) : Int) →
                              ∃ (J24 : Bool → World → Prop), (((((Int.tmod n22 2) = 0 →
                                 ∃ d25 : Addr, o0 = some d25 ∧
                                 ((0 : Int) ≤ n22 ∧ n22 < ((l0 : Nat) : Int)) ∧
                                 ∃ n26 : Int, ∃ s27 : ByteArray, ∃ s28 : ByteArray, ∃ n29 : Int, ∃ o30 : Option Addr, ∃ l31 : Nat, ∃ l32 : Nat, ∃ n33 : Int, ∃ o34 : Option Addr, ∃ l35 : Nat, ∃ l36 : Nat, World.cell? w23 (Addr.add d25 ((Int.toNat n22) * 7)) = some (.int .i64 n26) ∧
                                 World.cell? w23 (Addr.add (Addr.add d25 ((Int.toNat n22) * 7)) 1) = some (.string s27) ∧
                                 World.cell? w23 (Addr.add (Addr.add d25 ((Int.toNat n22) * 7)) 2) = some (.string s28) ∧
                                 World.cell? w23 (Addr.add (Addr.add d25 ((Int.toNat n22) * 7)) 3) = some (.int .i64 n29) ∧
                                 World.cell? w23 (Addr.add (Addr.add d25 ((Int.toNat n22) * 7)) 4) = some (.slice o30 l31 l32) ∧
                                 World.cell? w23 (Addr.add (Addr.add d25 ((Int.toNat n22) * 7)) 5) = some (.int .i64 n33) ∧
                                 World.cell? w23 (Addr.add (Addr.add d25 ((Int.toNat n22) * 7)) 6) = some (.slice o34 l35 l36) ∧
                                 Calls Tryz.prog 9 #[(.pointer o9), (.pointer o17), (.agg #[(.int .i64 n26), (.string s27), (.string s28), (.int .i64 n29), (.slice o30 l31 l32), (.int .i64 n33), (.slice o34 l35 l36)])] w23 (fun e37 w38 =>
                                   ∃ b39 : Bool, e37 = .returned (.bool b39) ∧
                                   J24 b39 w38))) ∧
                                (((Int.tmod n22 2) ≠ 0 →
                                 ∃ d40 : Addr, o0 = some d40 ∧
                                 ((0 : Int) ≤ n22 ∧ n22 < ((l0 : Nat) : Int)) ∧
                                 ∃ n41 : Int, ∃ s42 : ByteArray, ∃ s43 : ByteArray, ∃ n44 : Int, ∃ o45 : Option Addr, ∃ l46 : Nat, ∃ l47 : Nat, ∃ n48 : Int, ∃ o49 : Option Addr, ∃ l50 : Nat, ∃ l51 : Nat, World.cell? w23 (Addr.add d40 ((Int.toNat n22) * 7)) = some (.int .i64 n41) ∧
                                 World.cell? w23 (Addr.add (Addr.add d40 ((Int.toNat n22) * 7)) 1) = some (.string s42) ∧
                                 World.cell? w23 (Addr.add (Addr.add d40 ((Int.toNat n22) * 7)) 2) = some (.string s43) ∧
                                 World.cell? w23 (Addr.add (Addr.add d40 ((Int.toNat n22) * 7)) 3) = some (.int .i64 n44) ∧
                                 World.cell? w23 (Addr.add (Addr.add d40 ((Int.toNat n22) * 7)) 4) = some (.slice o45 l46 l47) ∧
                                 World.cell? w23 (Addr.add (Addr.add d40 ((Int.toNat n22) * 7)) 5) = some (.int .i64 n48) ∧
                                 World.cell? w23 (Addr.add (Addr.add d40 ((Int.toNat n22) * 7)) 6) = some (.slice o49 l50 l51) ∧
                                 Calls Tryz.prog 9 #[(.pointer o13), (.pointer o20), (.agg #[(.int .i64 n41), (.string s42), (.string s43), (.int .i64 n44), (.slice o45 l46 l47), (.int .i64 n48), (.slice o49 l50 l51)])] w23 (fun e52 w53 =>
                                   ∃ b54 : Bool, e52 = .returned (.bool b54) ∧
                                   J24 b54 w53))))) ∧
                              (∀ (b55 : Bool) (j56 : Nat → Value) (w56 : World), J24 b55 w56 →
                                (((b55 = false →
                                  R (.returned (.bool false)) w56)) ∧
                                 ((b55 = true →
                                  Calls Tryz.prog 10 #[(.pointer o9), (.pointer o17)] w56 (fun e57 w58 =>
                                    ∃ b59 : Bool, e57 = .returned (.bool b59) ∧
                                    (((b59 = false →
                                      R (.returned (.bool false)) w58)) ∧
                                     ((b59 = true →
                                      Calls Tryz.prog 10 #[(.pointer o13), (.pointer o20)] w58 (fun e60 w61 =>
                                        ∃ b62 : Bool, e60 = .returned (.bool b62) ∧
                                        (((b62 = false →
                                          R (.returned (.bool false)) w61)) ∧
                                         ((b62 = true →
                                          I21 (IntKind.wrap .i64 (n22 + 1)) w61 ∧ μ21 (IntKind.wrap .i64 (n22 + 1)) w61 < μ21 n22 w23)))))))))))))) ∧
                             ((¬ n22 < ((l0 : Nat) : Int) →
                              Calls Tryz.prog 11 #[(.pointer o9), (.agg #[(.int .i64 1), (.slice none 0 0)])] w23 (fun e63 w64 =>
                                e63 = .returned (.tuple #[]) ∧
                                Calls Tryz.prog 12 #[(.pointer o17), (.agg #[(.int .i64 1), (.slice none 0 0)])] w64 (fun e65 w66 =>
                                  e65 = .returned (.tuple #[]) ∧
                                  Calls Tryz.prog 10 #[(.pointer o9), (.pointer o17)] w66 (fun e67 w68 =>
                                    ∃ b69 : Bool, e67 = .returned (.bool b69) ∧
                                    (((b69 = true →
                                      Calls Tryz.prog 10 #[(.pointer o13), (.pointer o20)] w68 (fun e70 w71 =>
                                        ∃ b72 : Bool, e70 = .returned (.bool b72) ∧
                                        R (.returned (.bool b72)) w71))) ∧
                                     ((b69 = false →
                                      R (.returned (.bool false)) w68))))))))))))))))))))))))))))))))))
theorem morainelaw1_DiskApart.vc (o0 : Option Addr) (l0 : Nat) (c0 : Nat) (w : World) (R : Ending → World → Prop) (h : morainelaw1_DiskApart.Vc o0 l0 c0 w R) : Calls Tryz.prog 3 #[(.slice o0 l0 c0)] w R :=
  execF_sound (ann := [(11, [(9, .cell (.int .i64))]), (1000017, [(10, .cell (.bool))])]) (args := [.slice o0 l0 c0]) Tryz.func3 mixed (Eq.mp (by kernel_rfl : morainelaw1_DiskApart.Vc o0 l0 c0 w R = execF (pA Tryz.prog R) Tryz.prog [(11, [(9, .cell (.int .i64))]), (1000017, [(10, .cell (.bool))])] Tryz.f3 [.slice o0 l0 c0] w) h)

/-! moraine/morainelaw1.DiskPlays: 4 -/
abbrev morainelaw1_DiskPlays.n : Nat := 4
def morainelaw1_DiskPlays.Vc (n0 : Int) (o1 : Option Addr) (l1 : Nat) (c1 : Nat) (w : World) (R : Ending → World → Prop) : Prop :=
  Calls Tryz.prog 5 #[] w (fun e2 w3 =>
    ∃ b4 : Bool, e2 = .returned (.bool b4) ∧
    (((b4 = false →
      R (.returned (.bool false)) w3)) ∧
     ((b4 = true →
      Calls Tryz.prog 7 #[(.int .i64 n0)] w3 (fun e5 w6 =>
        ∃ o7 : Option Addr, ∃ n8 : Int, e5 = .returned (.tuple #[(.pointer o7), (.int .i64 n8)]) ∧
        (((n0 < 0 →
          (((n8 = 10 →
            R (.returned (.bool (Option.isNone o7))) w6)) ∧
           ((n8 ≠ 10 →
            R (.returned (.bool false)) w6))))) ∧
         ((¬ n0 < 0 →
          (((n0 > 67108864 →
            (((n8 = 10 →
              R (.returned (.bool (Option.isNone o7))) w6)) ∧
             ((n8 ≠ 10 →
              R (.returned (.bool false)) w6))))) ∧
           ((¬ n0 > 67108864 →
            (((n8 ≠ 0 →
              (((n8 = 0 →
                R (.returned (.bool (!(Option.isNone o7)))) w6)) ∧
               ((n8 ≠ 0 →
                R (.returned (.bool false)) w6))))) ∧
             ((n8 = 0 →
              (((o7 = none →
                (((n8 = 0 →
                  R (.returned (.bool (!(Option.isNone o7)))) w6)) ∧
                 ((n8 ≠ 0 →
                  R (.returned (.bool false)) w6))))) ∧
               ((o7 ≠ none →
                Calls Tryz.prog 6 #[(.slice o1 l1 c1)] w6 (fun e9 w10 =>
                  ∃ b11 : Bool, e9 = .returned (.bool b11) ∧
                  (((b11 = false →
                    (((n8 = 0 →
                      R (.returned (.bool (!(Option.isNone o7)))) w10)) ∧
                     ((n8 ≠ 0 →
                      R (.returned (.bool false)) w10))))) ∧
                   ((b11 = true →
                    Calls Tryz.prog 8 #[(.int .i64 n0)] w10 (fun e12 w13 =>
                      ∃ o14 : Option Addr, e12 = .returned (.pointer o14) ∧
                      ∃ (I15 : Int → World → Prop) (μ15 : Int → World → Nat), I15 0 w13 ∧
                      (∀ (n16 : Int) (j17 : Nat → Value) (w17 : World), I15 n16 w17 →
                        (((n16 < ((l1 : Nat) : Int) →
                          ∃ d18 : Addr, o1 = some d18 ∧
                          ((0 : Int) ≤ n16 ∧ n16 < ((l1 : Nat) : Int)) ∧
                          ∃ n19 : Int, ∃ s20 : ByteArray, ∃ s21 : ByteArray, ∃ n22 : Int, ∃ o23 : Option Addr, ∃ l24 : Nat, ∃ l25 : Nat, ∃ n26 : Int, ∃ o27 : Option Addr, ∃ l28 : Nat, ∃ l29 : Nat, World.cell? w17 (Addr.add d18 ((Int.toNat n16) * 7)) = some (.int .i64 n19) ∧
                          World.cell? w17 (Addr.add (Addr.add d18 ((Int.toNat n16) * 7)) 1) = some (.string s20) ∧
                          World.cell? w17 (Addr.add (Addr.add d18 ((Int.toNat n16) * 7)) 2) = some (.string s21) ∧
                          World.cell? w17 (Addr.add (Addr.add d18 ((Int.toNat n16) * 7)) 3) = some (.int .i64 n22) ∧
                          World.cell? w17 (Addr.add (Addr.add d18 ((Int.toNat n16) * 7)) 4) = some (.slice o23 l24 l25) ∧
                          World.cell? w17 (Addr.add (Addr.add d18 ((Int.toNat n16) * 7)) 5) = some (.int .i64 n26) ∧
                          World.cell? w17 (Addr.add (Addr.add d18 ((Int.toNat n16) * 7)) 6) = some (.slice o27 l28 l29) ∧
                          Calls Tryz.prog 9 #[(.pointer o7), (.pointer o14), (.agg #[(.int .i64 n19), (.string s20), (.string s21), (.int .i64 n22), (.slice o23 l24 l25), (.int .i64 n26), (.slice o27 l28 l29)])] w17 (fun e30 w31 =>
                            ∃ b32 : Bool, e30 = .returned (.bool b32) ∧
                            (((b32 = false →
                              R (.returned (.bool false)) w31)) ∧
                             ((b32 = true →
                              Calls Tryz.prog 10 #[(.pointer o7), (.pointer o14)] w31 (fun e33 w34 =>
                                ∃ b35 : Bool, e33 = .returned (.bool b35) ∧
                                (((b35 = false →
                                  R (.returned (.bool false)) w34)) ∧
                                 ((b35 = true →
                                  I15 (IntKind.wrap .i64 (n16 + 1)) w34 ∧ μ15 (IntKind.wrap .i64 (n16 + 1)) w34 < μ15 n16 w17)))))))))) ∧
                         ((¬ n16 < ((l1 : Nat) : Int) →
                          R (.returned (.bool true)) w17))))))))))))))))))))))))))
theorem morainelaw1_DiskPlays.vc (n0 : Int) (o1 : Option Addr) (l1 : Nat) (c1 : Nat) (w : World) (R : Ending → World → Prop) (h : morainelaw1_DiskPlays.Vc n0 o1 l1 c1 w R) : Calls Tryz.prog 4 #[(.int .i64 n0), (.slice o1 l1 c1)] w R :=
  execF_sound (ann := [(10, [(8, .cell (.int .i64))])]) (args := [.int .i64 n0, .slice o1 l1 c1]) Tryz.func4 mixed (Eq.mp (by kernel_rfl : morainelaw1_DiskPlays.Vc n0 o1 l1 c1 w R = execF (pA Tryz.prog R) Tryz.prog [(10, [(8, .cell (.int .i64))])] Tryz.f4 [.int .i64 n0, .slice o1 l1 c1] w) h)

/-! moraine/morainelaw1.alike: 10 -/
abbrev morainelaw1_alike.n : Nat := 10
def morainelaw1_alike.Vc (d0 : Addr) (d1 : Addr) (w : World) (R : Ending → World → Prop) : Prop :=
  Calls Tryz.prog 38 #[(.pointer (some d0))] w (fun e2 w3 =>
    ∃ o4 : Option Addr, ∃ l5 : Nat, ∃ l6 : Nat, ∃ n7 : Int, e2 = .returned (.tuple #[(.slice o4 l5 l6), (.int .i64 n7)]) ∧
    Calls Tryz.prog 39 #[(.pointer (some d1))] w3 (fun e8 w9 =>
      ∃ o10 : Option Addr, ∃ l11 : Nat, ∃ l12 : Nat, ∃ n13 : Int, e8 = .returned (.tuple #[(.slice o10 l11 l12), (.int .i64 n13)]) ∧
      (((n7 ≠ n13 →
        R (.returned (.bool false)) w9)) ∧
       ((n7 = n13 →
        Calls Tryz.prog 40 #[(.slice o4 l5 l6), (.slice o10 l11 l12)] w9 (fun e14 w15 =>
          ∃ b16 : Bool, e14 = .returned (.bool b16) ∧
          (((b16 = false →
            R (.returned (.bool false)) w15)) ∧
           ((b16 = true →
            Calls Tryz.prog 41 #[(.pointer (some d0))] w15 (fun e17 w18 =>
              ∃ n19 : Int, e17 = .returned (.int .i64 n19) ∧
              Calls Tryz.prog 42 #[(.pointer (some d1))] w18 (fun e20 w21 =>
                ∃ n22 : Int, e20 = .returned (.int .i64 n22) ∧
                (((n19 ≠ n22 →
                  R (.returned (.bool false)) w21)) ∧
                 ((n19 = n22 →
                  Calls Tryz.prog 43 #[(.pointer (some d0))] w21 (fun e23 w24 =>
                    ∃ n25 : Int, e23 = .returned (.int .i64 n25) ∧
                    Calls Tryz.prog 44 #[(.pointer (some d1))] w24 (fun e26 w27 =>
                      ∃ n28 : Int, e26 = .returned (.int .i64 n28) ∧
                      (((n25 ≠ n28 →
                        R (.returned (.bool false)) w27)) ∧
                       ((n25 = n28 →
                        ∃ (I29 : Int → World → Prop) (μ29 : Int → World → Nat), I29 0 w27 ∧
                        (∀ (n30 : Int) (j31 : Nat → Value) (w31 : World), I29 n30 w31 →
                          (((n30 < ((l5 : Nat) : Int) →
                            ∃ d32 : Addr, o4 = some d32 ∧
                            ((0 : Int) ≤ n30 ∧ n30 < ((l5 : Nat) : Int)) ∧
                            ∃ s33 : ByteArray, World.cell? w31 (Addr.add d32 (Int.toNat n30)) = some (.string s33) ∧
                            Calls Tryz.prog 16 #[(.pointer (some d0)), (.string s33)] w31 (fun e34 w35 =>
                              ∃ o36 : Option Addr, ∃ l37 : Nat, ∃ l38 : Nat, ∃ n39 : Int, e34 = .returned (.tuple #[(.slice o36 l37 l38), (.int .i64 n39)]) ∧
                              ∃ d40 : Addr, o4 = some d40 ∧
                              ((0 : Int) ≤ n30 ∧ n30 < ((l5 : Nat) : Int)) ∧
                              ∃ s41 : ByteArray, World.cell? w35 (Addr.add d40 (Int.toNat n30)) = some (.string s41) ∧
                              Calls Tryz.prog 45 #[(.pointer (some d1)), (.string s41)] w35 (fun e42 w43 =>
                                ∃ o44 : Option Addr, ∃ l45 : Nat, ∃ l46 : Nat, ∃ n47 : Int, e42 = .returned (.tuple #[(.slice o44 l45 l46), (.int .i64 n47)]) ∧
                                ∃ d48 : Addr, o4 = some d48 ∧
                                ((0 : Int) ≤ n30 ∧ n30 < ((l5 : Nat) : Int)) ∧
                                ∃ s49 : ByteArray, World.cell? w43 (Addr.add d48 (Int.toNat n30)) = some (.string s49) ∧
                                Calls Tryz.prog 46 #[(.pointer (some d0)), (.string s49)] w43 (fun e50 w51 =>
                                  ∃ n52 : Int, ∃ n53 : Int, e50 = .returned (.tuple #[(.int .i64 n52), (.int .i64 n53)]) ∧
                                  (((n39 ≠ n47 →
                                    R (.returned (.bool false)) w51)) ∧
                                   ((n39 = n47 →
                                    (((n53 ≠ n47 →
                                      R (.returned (.bool false)) w51)) ∧
                                     ((n53 = n47 →
                                      Calls Tryz.prog 37 #[(.slice o36 l37 l38), (.slice o44 l45 l46)] w51 (fun e54 w55 =>
                                        ∃ b56 : Bool, e54 = .returned (.bool b56) ∧
                                        (((b56 = false →
                                          R (.returned (.bool false)) w55)) ∧
                                         ((b56 = true →
                                          (((n52 ≠ ((l45 : Nat) : Int) →
                                            R (.returned (.bool false)) w55)) ∧
                                           ((n52 = ((l45 : Nat) : Int) →
                                            I29 (IntKind.wrap .i64 (n30 + 1)) w55 ∧ μ29 (IntKind.wrap .i64 (n30 + 1)) w55 < μ29 n30 w31)))))))))))))))))) ∧
                           ((¬ n30 < ((l5 : Nat) : Int) →
                            R (.returned (.bool true)) w31)))))))))))))))))))))))
theorem morainelaw1_alike.vc (d0 : Addr) (d1 : Addr) (w : World) (R : Ending → World → Prop) (h : morainelaw1_alike.Vc d0 d1 w R) : Calls Tryz.prog 10 #[(.pointer (some d0)), (.pointer (some d1))] w R :=
  execF_sound (ann := [(6, [(9, .cell (.int .i64))])]) (args := [.addr d0, .addr d1]) Tryz.func10 mixed (Eq.mp (by kernel_rfl : morainelaw1_alike.Vc d0 d1 w R = execF (pA Tryz.prog R) Tryz.prog [(6, [(9, .cell (.int .i64))])] Tryz.f10 [.addr d0, .addr d1] w) h)

/-! (*moraine/disk.Disk).Count: 43 -/
abbrev disk_Disk_Count.n : Nat := 43
def disk_Disk_Count.Vc (d0 : Addr) (w : World) (R : Ending → World → Prop) : Prop :=
  ∃ n1 : Int, World.cell? w (Addr.add d0 5) = some (.int .i64 n1) ∧
  R (.returned (.int .i64 n1)) w
theorem disk_Disk_Count.vc (d0 : Addr) (w : World) (R : Ending → World → Prop) (h : disk_Disk_Count.Vc d0 w R) : Calls Tryz.prog 43 #[(.pointer (some d0))] w R :=
  execF_sound (ann := []) (args := [.addr d0]) Tryz.func43 mixed (Eq.mp (by kernel_rfl : disk_Disk_Count.Vc d0 w R = execF (pA Tryz.prog R) Tryz.prog [] Tryz.f43 [.addr d0] w) h)

/-! (*moraine/disk.Disk).Size: 46 -/
abbrev disk_Disk_Size.n : Nat := 46
def disk_Disk_Size.Vc (d0 : Addr) (s1 : ByteArray) (w : World) (R : Ending → World → Prop) : Prop :=
  Calls Tryz.prog 55 #[(.pointer (some d0)), (.string s1)] w (fun e2 w3 =>
    ∃ o4 : Option Addr, ∃ n5 : Int, e2 = .returned (.tuple #[(.pointer o4), (.int .i64 n5)]) ∧
    (((n5 ≠ 0 →
      R (.returned (.tuple #[(.int .i64 0), (.int .i64 n5)])) w3)) ∧
     ((n5 = 0 →
      ∃ d6 : Addr, o4 = some d6 ∧
      ∃ o7 : Option Addr, ∃ l8 : Nat, ∃ l9 : Nat, World.cell? w3 (Addr.add d6 1) = some (.slice o7 l8 l9) ∧
      R (.returned (.tuple #[(.int .i64 ((l8 : Nat) : Int)), (.int .i64 0)])) w3))))
theorem disk_Disk_Size.vc (d0 : Addr) (s1 : ByteArray) (w : World) (R : Ending → World → Prop) (h : disk_Disk_Size.Vc d0 s1 w R) : Calls Tryz.prog 46 #[(.pointer (some d0)), (.string s1)] w R :=
  execF_sound (ann := []) (args := [.addr d0, .str s1]) Tryz.func46 mixed (Eq.mp (by kernel_rfl : disk_Disk_Size.Vc d0 s1 w R = execF (pA Tryz.prog R) Tryz.prog [] Tryz.f46 [.addr d0, .str s1] w) h)

/-! (*moraine/moraineref1.Disk).Names: 39 -/
abbrev moraineref1_Disk_Names.n : Nat := 39
def moraineref1_Disk_Names.Vc (d0 : Addr) (w : World) (R : Ending → World → Prop) : Prop :=
  ∃ b1 : Bool, World.cell? w (Addr.add d0 8) = some (.bool b1) ∧
  (((b1 = true →
    R (.returned (.tuple #[(.slice none 0 0), (.int .i64 17)])) w)) ∧
   ((b1 = false →
    ∃ (I2 : Option Addr → Nat → Nat → Int → World → Prop) (μ2 : Option Addr → Nat → Nat → Int → World → Nat), I2 none 0 0 0 w ∧
    (∀ (o3 : Option Addr) (l3 : Nat) (c3 : Nat) (n4 : Int) (j5 : Nat → Value) (w5 : World), I2 o3 l3 c3 n4 w5 →
      ∃ o6 : Option Addr, ∃ l7 : Nat, ∃ l8 : Nat, World.cell? w5 (Addr.add d0 1) = some (.slice o6 l7 l8) ∧
      (((n4 < ((l7 : Nat) : Int) →
        ∃ (J9 : Int → World → Prop), (∃ (I10 : Int → World → Prop) (μ10 : Int → World → Nat), I10 0 w5 ∧
         (∀ (n11 : Int) (j12 : Nat → Value) (w12 : World), I10 n11 w12 →
           ∀ w13 : World, IsDrew w12 w13 →
           (((n11 < ((l3 : Nat) : Int) →
             ∃ d14 : Addr, o3 = some d14 ∧
             ((0 : Int) ≤ n11 ∧ n11 < ((l3 : Nat) : Int)) ∧
             ∃ s15 : ByteArray, World.cell? w13 (Addr.add d14 (Int.toNat n11)) = some (.string s15) ∧
             ∃ o16 : Option Addr, ∃ l17 : Nat, ∃ l18 : Nat, World.cell? w13 (Addr.add d0 1) = some (.slice o16 l17 l18) ∧
             ∃ d19 : Addr, o16 = some d19 ∧
             ((0 : Int) ≤ n4 ∧ n4 < ((l17 : Nat) : Int)) ∧
             ∃ s20 : ByteArray, World.cell? w13 (Addr.add d19 ((Int.toNat n4) * 2)) = some (.string s20) ∧
             (((strB .lss s15 s20 = true →
               I10 (IntKind.wrap .i64 (n11 + 1)) w13 ∧ μ10 (IntKind.wrap .i64 (n11 + 1)) w13 < μ10 n11 w12)) ∧
              ((strB .lss s15 s20 = false →
               J9 n11 w13))))) ∧
            ((¬ n11 < ((l3 : Nat) : Int) →
             J9 n11 w13))))) ∧
        (∀ (n21 : Int) (j22 : Nat → Value) (w22 : World), J9 n21 w22 →
          ∀ (d23 : Addr) (w24 : World), IsNew w22 9 #[(.string ⟨#[]⟩)] d23 w24 →
          ∃ (v25 : Value) (w26 : World), Sem.run Tryz.prog (builtinV .append #[70, 70] 70 #[(.slice o3 l3 c3), (.slice (some d23) 1 1)]) w24 = .ok v25 w26 ∧
          ∃ o27 : Option Addr, ∃ l28 : Nat, ∃ l29 : Nat, v25 = (.slice o27 l28 l29) ∧
          ∀ w30 : World, IsDrew w26 w30 →
          ((0 : Int) ≤ (IntKind.wrap .i64 (n21 + 1)) ∧ (IntKind.wrap .i64 (n21 + 1)) ≤ ((l28 : Nat) : Int)) ∧
          ((0 : Int) ≤ n21 ∧ n21 ≤ ((l28 : Nat) : Int)) ∧
          ∃ (v31 : Value) (w32 : World), Sem.run Tryz.prog (builtinV .copy #[70, 70] 3 #[(.slice (subO o27 l29 (Int.toNat (IntKind.wrap .i64 (n21 + 1))) 1) (l28 - (Int.toNat (IntKind.wrap .i64 (n21 + 1)))) (l29 - (Int.toNat (IntKind.wrap .i64 (n21 + 1))))), (.slice (subO o27 l29 (Int.toNat n21) 1) (l28 - (Int.toNat n21)) (l29 - (Int.toNat n21)))]) w30 = .ok v31 w32 ∧
          ∃ n33 : Int, v31 = (.int .i64 n33) ∧
          ∃ o34 : Option Addr, ∃ l35 : Nat, ∃ l36 : Nat, World.cell? w32 (Addr.add d0 1) = some (.slice o34 l35 l36) ∧
          ∃ d37 : Addr, o34 = some d37 ∧
          ((0 : Int) ≤ n4 ∧ n4 < ((l35 : Nat) : Int)) ∧
          ∃ s38 : ByteArray, World.cell? w32 (Addr.add d37 ((Int.toNat n4) * 2)) = some (.string s38) ∧
          ∃ d39 : Addr, o27 = some d39 ∧
          ((0 : Int) ≤ n21 ∧ n21 < ((l28 : Nat) : Int)) ∧
          CanSet w32 (Addr.add d39 (Int.toNat n21)) (.string s38) ∧ ∀ w40 : World, IsSet w32 (Addr.add d39 (Int.toNat n21)) (.string s38) w40 →
          I2 o27 l28 l29 (IntKind.wrap .i64 (n4 + 1)) w40 ∧ μ2 o27 l28 l29 (IntKind.wrap .i64 (n4 + 1)) w40 < μ2 o3 l3 c3 n4 w5))) ∧
       ((¬ n4 < ((l7 : Nat) : Int) →
        R (.returned (.tuple #[(.slice o3 l3 c3), (.int .i64 0)])) w5)))))))
theorem moraineref1_Disk_Names.vc (d0 : Addr) (w : World) (R : Ending → World → Prop) (h : moraineref1_Disk_Names.Vc d0 w R) : Calls Tryz.prog 39 #[(.pointer (some d0))] w R :=
  execF_sound (ann := [(5, [(4, .cell (.slice)), (5, .cell (.int .i64))]), (1000010, [(6, .cell (.int .i64))]), (8, [(6, .cell (.int .i64))])]) (args := [.addr d0]) Tryz.func39 mixed (Eq.mp (by kernel_rfl : moraineref1_Disk_Names.Vc d0 w R = execF (pA Tryz.prog R) Tryz.prog [(5, [(4, .cell (.slice)), (5, .cell (.int .i64))]), (1000010, [(6, .cell (.int .i64))]), (8, [(6, .cell (.int .i64))])] Tryz.f39 [.addr d0] w) h)

/-! (*moraine/moraineref1.Disk).Count: 44 -/
abbrev moraineref1_Disk_Count.n : Nat := 44
def moraineref1_Disk_Count.Vc (d0 : Addr) (w : World) (R : Ending → World → Prop) : Prop :=
  ∃ n1 : Int, World.cell? w (Addr.add d0 5) = some (.int .i64 n1) ∧
  R (.returned (.int .i64 n1)) w
theorem moraineref1_Disk_Count.vc (d0 : Addr) (w : World) (R : Ending → World → Prop) (h : moraineref1_Disk_Count.Vc d0 w R) : Calls Tryz.prog 44 #[(.pointer (some d0))] w R :=
  execF_sound (ann := []) (args := [.addr d0]) Tryz.func44 mixed (Eq.mp (by kernel_rfl : moraineref1_Disk_Count.Vc d0 w R = execF (pA Tryz.prog R) Tryz.prog [] Tryz.f44 [.addr d0] w) h)

/-! moraine/morainelaw1.few: 6 -/
abbrev morainelaw1_few.n : Nat := 6
def morainelaw1_few.Vc (o0 : Option Addr) (l0 : Nat) (c0 : Nat) (w : World) (R : Ending → World → Prop) : Prop :=
  (((((l0 : Nat) : Int) > 60 →
    R (.returned (.bool false)) w)) ∧
   ((¬ ((l0 : Nat) : Int) > 60 →
    ∃ (I1 : Int → World → Prop) (μ1 : Int → World → Nat), I1 0 w ∧
    (∀ (n2 : Int) (j3 : Nat → Value) (w3 : World), I1 n2 w3 →
      (((n2 < ((l0 : Nat) : Int) →
        ∃ d4 : Addr, o0 = some d4 ∧
        ((0 : Int) ≤ n2 ∧ n2 < ((l0 : Nat) : Int)) ∧
        ∃ o5 : Option Addr, ∃ l6 : Nat, ∃ l7 : Nat, World.cell? w3 (Addr.add (Addr.add d4 ((Int.toNat n2) * 7)) 4) = some (.slice o5 l6 l7) ∧
        (((((l6 : Nat) : Int) > 200 →
          R (.returned (.bool false)) w3)) ∧
         ((¬ ((l6 : Nat) : Int) > 200 →
          ∃ d8 : Addr, o0 = some d8 ∧
          ((0 : Int) ≤ n2 ∧ n2 < ((l0 : Nat) : Int)) ∧
          ∃ o9 : Option Addr, ∃ l10 : Nat, ∃ l11 : Nat, World.cell? w3 (Addr.add (Addr.add (Addr.add d8 ((Int.toNat n2) * 7)) 5) 1) = some (.slice o9 l10 l11) ∧
          (((((l10 : Nat) : Int) > 200 →
            R (.returned (.bool false)) w3)) ∧
           ((¬ ((l10 : Nat) : Int) > 200 →
            I1 (IntKind.wrap .i64 (n2 + 1)) w3 ∧ μ1 (IntKind.wrap .i64 (n2 + 1)) w3 < μ1 n2 w3)))))))) ∧
       ((¬ n2 < ((l0 : Nat) : Int) →
        R (.returned (.bool true)) w3)))))))
theorem morainelaw1_few.vc (o0 : Option Addr) (l0 : Nat) (c0 : Nat) (w : World) (R : Ending → World → Prop) (h : morainelaw1_few.Vc o0 l0 c0 w R) : Calls Tryz.prog 6 #[(.slice o0 l0 c0)] w R :=
  execF_sound (ann := [(4, [(3, .cell (.int .i64))])]) (args := [.slice o0 l0 c0]) Tryz.func6 mixed (Eq.mp (by kernel_rfl : morainelaw1_few.Vc o0 l0 c0 w R = execF (pA Tryz.prog R) Tryz.prog [(4, [(3, .cell (.int .i64))])] Tryz.f6 [.slice o0 l0 c0] w) h)

/-! moraine/moraineref1.New: 8 -/
abbrev moraineref1_New.n : Nat := 8
def moraineref1_New.Vc (n0 : Int) (w : World) (R : Ending → World → Prop) : Prop :=
  ∀ (d1 : Addr) (w2 : World), IsNew w 54 (setsAt (setsAt #[(.int .i64 0), (.slice none 0 0), (.slice none 0 0), (.slice none 0 0), (.int .i64 0), (.int .i64 0), (.int .i64 0), (.int .i64 0), (.bool false)] 0 [(.int .i64 n0)]) 7 [(.int .i64 (-1))]) d1 w2 →
  R (.returned (.pointer (some d1))) w2
theorem moraineref1_New.vc (n0 : Int) (w : World) (R : Ending → World → Prop) (h : moraineref1_New.Vc n0 w R) : Calls Tryz.prog 8 #[(.int .i64 n0)] w R :=
  execF_sound (ann := []) (args := [.int .i64 n0]) Tryz.func8 mixed (Eq.mp (by kernel_rfl : moraineref1_New.Vc n0 w R = execF (pA Tryz.prog R) Tryz.prog [] Tryz.f8 [.int .i64 n0] w) h)

/-! moraine/morainelaw1.does: 9 -/
abbrev morainelaw1_does.n : Nat := 9
def morainelaw1_does.Vc (d0 : Addr) (d1 : Addr) (n2 : Int) (s3 : ByteArray) (s4 : ByteArray) (n5 : Int) (o6 : Option Addr) (l6 : Nat) (c6 : Nat) (n7 : Int) (o8 : Option Addr) (l8 : Nat) (c8 : Nat) (w : World) (R : Ending → World → Prop) : Prop :=
  ∀ (d9 : Addr) (w10 : World), IsNew w 37 #[(.int .i64 n2), (.string s3), (.string s4), (.int .i64 n5), (.slice o6 l6 c6), (.int .i64 n7), (.slice o8 l8 c8)] d9 w10 →
  ∃ n11 : Int, World.cell? w10 d9 = some (.int .i64 n11) ∧
  (((n11 = 0 →
    ∀ w12 : World, IsDrew w10 w12 →
    ∃ s13 : ByteArray, World.cell? w12 (Addr.add d9 1) = some (.string s13) ∧
    ∃ s14 : ByteArray, World.cell? w12 (Addr.add d9 1) = some (.string s14) ∧
    Calls Tryz.prog 13 #[(.pointer (some d0)), (.string s13)] w12 (fun e15 w16 =>
      ∃ n17 : Int, e15 = .returned (.int .i64 n17) ∧
      World.cell? w16 (Addr.add d9 1) = some (.string s14) ∧
      Calls Tryz.prog 17 #[(.pointer (some d1)), (.string s14)] w16 (fun e18 w19 =>
        ∃ n20 : Int, e18 = .returned (.int .i64 n20) ∧
        R (.returned (.bool (decide (n17 = n20)))) w19)))) ∧
   ((n11 ≠ 0 →
    (((n11 = 1 →
      ∃ o21 : Option Addr, ∃ l22 : Nat, ∃ l23 : Nat, World.cell? w10 (Addr.add d9 4) = some (.slice o21 l22 l23) ∧
      ∃ (v24 : Value) (w25 : World), Sem.run Tryz.prog (builtinV .append #[32, 32] 32 #[(.slice none 0 0), (.slice o21 l22 l23)]) w10 = .ok v24 w25 ∧
      ∃ o26 : Option Addr, ∃ l27 : Nat, ∃ l28 : Nat, v24 = (.slice o26 l27 l28) ∧
      ∀ w29 : World, IsDrew w25 w29 →
      ∃ s30 : ByteArray, World.cell? w29 (Addr.add d9 1) = some (.string s30) ∧
      ∃ s31 : ByteArray, World.cell? w29 (Addr.add d9 1) = some (.string s31) ∧
      ∃ o32 : Option Addr, ∃ l33 : Nat, ∃ l34 : Nat, World.cell? w29 (Addr.add d9 4) = some (.slice o32 l33 l34) ∧
      Calls Tryz.prog 15 #[(.pointer (some d0)), (.string s30), (.slice o26 l27 l28)] w29 (fun e35 w36 =>
        ∃ n37 : Int, e35 = .returned (.int .i64 n37) ∧
        World.cell? w36 (Addr.add d9 4) = some (.slice o32 l33 l34) ∧
        World.cell? w36 (Addr.add d9 1) = some (.string s31) ∧
        Calls Tryz.prog 18 #[(.pointer (some d1)), (.string s31), (.slice o32 l33 l34)] w36 (fun e38 w39 =>
          ∃ n40 : Int, e38 = .returned (.int .i64 n40) ∧
          Calls Tryz.prog 19 #[(.slice o26 l27 l28)] w39 (fun e41 w42 =>
            e41 = .returned (.tuple #[]) ∧
            R (.returned (.bool (decide (n37 = n40)))) w42))))) ∧
     ((n11 ≠ 1 →
      (((n11 = 2 →
        ∃ o43 : Option Addr, ∃ l44 : Nat, ∃ l45 : Nat, World.cell? w10 (Addr.add d9 4) = some (.slice o43 l44 l45) ∧
        ∃ (v46 : Value) (w47 : World), Sem.run Tryz.prog (builtinV .append #[32, 32] 32 #[(.slice none 0 0), (.slice o43 l44 l45)]) w10 = .ok v46 w47 ∧
        ∃ o48 : Option Addr, ∃ l49 : Nat, ∃ l50 : Nat, v46 = (.slice o48 l49 l50) ∧
        ∀ w51 : World, IsDrew w47 w51 →
        ∃ s52 : ByteArray, World.cell? w51 (Addr.add d9 1) = some (.string s52) ∧
        ∃ n53 : Int, World.cell? w51 (Addr.add d9 3) = some (.int .i64 n53) ∧
        ∃ s54 : ByteArray, World.cell? w51 (Addr.add d9 1) = some (.string s54) ∧
        ∃ n55 : Int, World.cell? w51 (Addr.add d9 3) = some (.int .i64 n55) ∧
        ∃ o56 : Option Addr, ∃ l57 : Nat, ∃ l58 : Nat, World.cell? w51 (Addr.add d9 4) = some (.slice o56 l57 l58) ∧
        Calls Tryz.prog 20 #[(.pointer (some d0)), (.string s52), (.int .i64 n53), (.slice o48 l49 l50)] w51 (fun e59 w60 =>
          ∃ n61 : Int, e59 = .returned (.int .i64 n61) ∧
          World.cell? w60 (Addr.add d9 4) = some (.slice o56 l57 l58) ∧
          World.cell? w60 (Addr.add d9 3) = some (.int .i64 n55) ∧
          World.cell? w60 (Addr.add d9 1) = some (.string s54) ∧
          Calls Tryz.prog 21 #[(.pointer (some d1)), (.string s54), (.int .i64 n55), (.slice o56 l57 l58)] w60 (fun e62 w63 =>
            ∃ n64 : Int, e62 = .returned (.int .i64 n64) ∧
            Calls Tryz.prog 19 #[(.slice o48 l49 l50)] w63 (fun e65 w66 =>
              e65 = .returned (.tuple #[]) ∧
              R (.returned (.bool (decide (n61 = n64)))) w66))))) ∧
       ((n11 ≠ 2 →
        (((n11 = 3 →
          ∀ w67 : World, IsDrew w10 w67 →
          ∃ s68 : ByteArray, World.cell? w67 (Addr.add d9 1) = some (.string s68) ∧
          ∃ n69 : Int, World.cell? w67 (Addr.add d9 3) = some (.int .i64 n69) ∧
          ∃ s70 : ByteArray, World.cell? w67 (Addr.add d9 1) = some (.string s70) ∧
          ∃ n71 : Int, World.cell? w67 (Addr.add d9 3) = some (.int .i64 n71) ∧
          Calls Tryz.prog 22 #[(.pointer (some d0)), (.string s68), (.int .i64 n69)] w67 (fun e72 w73 =>
            ∃ n74 : Int, e72 = .returned (.int .i64 n74) ∧
            World.cell? w73 (Addr.add d9 3) = some (.int .i64 n71) ∧
            World.cell? w73 (Addr.add d9 1) = some (.string s70) ∧
            Calls Tryz.prog 23 #[(.pointer (some d1)), (.string s70), (.int .i64 n71)] w73 (fun e75 w76 =>
              ∃ n77 : Int, e75 = .returned (.int .i64 n77) ∧
              R (.returned (.bool (decide (n74 = n77)))) w76)))) ∧
         ((n11 ≠ 3 →
          (((n11 = 4 →
            ∀ w78 : World, IsDrew w10 w78 →
            ∃ s79 : ByteArray, World.cell? w78 (Addr.add d9 1) = some (.string s79) ∧
            ∃ s80 : ByteArray, World.cell? w78 (Addr.add d9 1) = some (.string s80) ∧
            Calls Tryz.prog 24 #[(.pointer (some d0)), (.string s79)] w78 (fun e81 w82 =>
              ∃ n83 : Int, e81 = .returned (.int .i64 n83) ∧
              World.cell? w82 (Addr.add d9 1) = some (.string s80) ∧
              Calls Tryz.prog 25 #[(.pointer (some d1)), (.string s80)] w82 (fun e84 w85 =>
                ∃ n86 : Int, e84 = .returned (.int .i64 n86) ∧
                R (.returned (.bool (decide (n83 = n86)))) w85)))) ∧
           ((n11 ≠ 4 →
            (((n11 = 5 →
              ∀ w87 : World, IsDrew w10 w87 →
              ∃ s88 : ByteArray, World.cell? w87 (Addr.add d9 1) = some (.string s88) ∧
              ∃ s89 : ByteArray, World.cell? w87 (Addr.add d9 2) = some (.string s89) ∧
              ∃ s90 : ByteArray, World.cell? w87 (Addr.add d9 1) = some (.string s90) ∧
              ∃ s91 : ByteArray, World.cell? w87 (Addr.add d9 2) = some (.string s91) ∧
              Calls Tryz.prog 26 #[(.pointer (some d0)), (.string s88), (.string s89)] w87 (fun e92 w93 =>
                ∃ n94 : Int, e92 = .returned (.int .i64 n94) ∧
                World.cell? w93 (Addr.add d9 2) = some (.string s91) ∧
                World.cell? w93 (Addr.add d9 1) = some (.string s90) ∧
                Calls Tryz.prog 27 #[(.pointer (some d1)), (.string s90), (.string s91)] w93 (fun e95 w96 =>
                  ∃ n97 : Int, e95 = .returned (.int .i64 n97) ∧
                  R (.returned (.bool (decide (n94 = n97)))) w96)))) ∧
             ((n11 ≠ 5 →
              (((n11 = 6 →
                ∀ w98 : World, IsDrew w10 w98 →
                ∃ s99 : ByteArray, World.cell? w98 (Addr.add d9 1) = some (.string s99) ∧
                ∃ s100 : ByteArray, World.cell? w98 (Addr.add d9 1) = some (.string s100) ∧
                Calls Tryz.prog 28 #[(.pointer (some d0)), (.string s99)] w98 (fun e101 w102 =>
                  ∃ n103 : Int, e101 = .returned (.int .i64 n103) ∧
                  World.cell? w102 (Addr.add d9 1) = some (.string s100) ∧
                  Calls Tryz.prog 29 #[(.pointer (some d1)), (.string s100)] w102 (fun e104 w105 =>
                    ∃ n106 : Int, e104 = .returned (.int .i64 n106) ∧
                    R (.returned (.bool (decide (n103 = n106)))) w105)))) ∧
               ((n11 ≠ 6 →
                (((n11 = 7 →
                  Calls Tryz.prog 14 #[(.pointer (some d0))] w10 (fun e107 w108 =>
                    ∃ n109 : Int, e107 = .returned (.int .i64 n109) ∧
                    Calls Tryz.prog 30 #[(.pointer (some d1))] w108 (fun e110 w111 =>
                      ∃ n112 : Int, e110 = .returned (.int .i64 n112) ∧
                      R (.returned (.bool (decide (n109 = n112)))) w111)))) ∧
                 ((n11 ≠ 7 →
                  (((n11 = 8 →
                    ∃ n113 : Int, World.cell? w10 (Addr.add d9 3) = some (.int .i64 n113) ∧
                    Calls Tryz.prog 31 #[(.pointer (some d0)), (.int .i64 n113)] w10 (fun e114 w115 =>
                      e114 = .returned (.tuple #[]) ∧
                      ∃ n116 : Int, World.cell? w115 (Addr.add d9 3) = some (.int .i64 n116) ∧
                      Calls Tryz.prog 32 #[(.pointer (some d1)), (.int .i64 n116)] w115 (fun e117 w118 =>
                        e117 = .returned (.tuple #[]) ∧
                        R (.returned (.bool true)) w118)))) ∧
                   ((n11 ≠ 8 →
                    (((n11 = 9 →
                      ∃ n119 : Int, World.cell? w10 (Addr.add d9 3) = some (.int .i64 n119) ∧
                      Calls Tryz.prog 33 #[(.pointer (some d0)), (.int .i64 n119)] w10 (fun e120 w121 =>
                        e120 = .returned (.tuple #[]) ∧
                        ∃ n122 : Int, World.cell? w121 (Addr.add d9 3) = some (.int .i64 n122) ∧
                        Calls Tryz.prog 34 #[(.pointer (some d1)), (.int .i64 n122)] w121 (fun e123 w124 =>
                          e123 = .returned (.tuple #[]) ∧
                          R (.returned (.bool true)) w124)))) ∧
                     ((n11 ≠ 9 →
                      (((n11 = 10 →
                        ∃ n125 : Int, ∃ o126 : Option Addr, ∃ l127 : Nat, ∃ l128 : Nat, World.cell? w10 (Addr.add d9 5) = some (.int .i64 n125) ∧
                        World.cell? w10 (Addr.add (Addr.add d9 5) 1) = some (.slice o126 l127 l128) ∧
                        Calls Tryz.prog 11 #[(.pointer (some d0)), (.agg #[(.int .i64 n125), (.slice o126 l127 l128)])] w10 (fun e129 w130 =>
                          e129 = .returned (.tuple #[]) ∧
                          ∃ n131 : Int, ∃ o132 : Option Addr, ∃ l133 : Nat, ∃ l134 : Nat, World.cell? w130 (Addr.add d9 5) = some (.int .i64 n131) ∧
                          World.cell? w130 (Addr.add (Addr.add d9 5) 1) = some (.slice o132 l133 l134) ∧
                          Calls Tryz.prog 12 #[(.pointer (some d1)), (.agg #[(.int .i64 n131), (.slice o132 l133 l134)])] w130 (fun e135 w136 =>
                            e135 = .returned (.tuple #[]) ∧
                            R (.returned (.bool true)) w136)))) ∧
                       ((n11 ≠ 10 →
                        (((n11 = 11 →
                          ∃ s137 : ByteArray, World.cell? w10 (Addr.add d9 1) = some (.string s137) ∧
                          ∃ n138 : Int, World.cell? w10 (Addr.add d9 3) = some (.int .i64 n138) ∧
                          ∃ o139 : Option Addr, ∃ l140 : Nat, ∃ l141 : Nat, World.cell? w10 (Addr.add d9 4) = some (.slice o139 l140 l141) ∧
                          Calls Tryz.prog 35 #[(.pointer (some d0)), (.string s137), (.int .i64 n138), (.int .i64 ((l140 : Nat) : Int))] w10 (fun e142 w143 =>
                            ∃ o144 : Option Addr, ∃ l145 : Nat, ∃ l146 : Nat, ∃ n147 : Int, e142 = .returned (.tuple #[(.slice o144 l145 l146), (.int .i64 n147)]) ∧
                            ∃ s148 : ByteArray, World.cell? w143 (Addr.add d9 1) = some (.string s148) ∧
                            ∃ n149 : Int, World.cell? w143 (Addr.add d9 3) = some (.int .i64 n149) ∧
                            ∃ o150 : Option Addr, ∃ l151 : Nat, ∃ l152 : Nat, World.cell? w143 (Addr.add d9 4) = some (.slice o150 l151 l152) ∧
                            Calls Tryz.prog 36 #[(.pointer (some d1)), (.string s148), (.int .i64 n149), (.int .i64 ((l151 : Nat) : Int))] w143 (fun e153 w154 =>
                              ∃ o155 : Option Addr, ∃ l156 : Nat, ∃ l157 : Nat, ∃ n158 : Int, e153 = .returned (.tuple #[(.slice o155 l156 l157), (.int .i64 n158)]) ∧
                              (((n147 = n158 →
                                Calls Tryz.prog 37 #[(.slice o144 l145 l146), (.slice o155 l156 l157)] w154 (fun e159 w160 =>
                                  ∃ b161 : Bool, e159 = .returned (.bool b161) ∧
                                  Calls Tryz.prog 19 #[(.slice o144 l145 l146)] w160 (fun e162 w163 =>
                                    e162 = .returned (.tuple #[]) ∧
                                    R (.returned (.bool b161)) w163)))) ∧
                               ((n147 ≠ n158 →
                                Calls Tryz.prog 19 #[(.slice o144 l145 l146)] w154 (fun e164 w165 =>
                                  e164 = .returned (.tuple #[]) ∧
                                  R (.returned (.bool false)) w165)))))))) ∧
                         ((n11 ≠ 11 →
                          R (.returned (.bool true)) w10))))))))))))))))))))))))))))))))))))
theorem morainelaw1_does.vc (d0 : Addr) (d1 : Addr) (n2 : Int) (s3 : ByteArray) (s4 : ByteArray) (n5 : Int) (o6 : Option Addr) (l6 : Nat) (c6 : Nat) (n7 : Int) (o8 : Option Addr) (l8 : Nat) (c8 : Nat) (w : World) (R : Ending → World → Prop) (h : morainelaw1_does.Vc d0 d1 n2 s3 s4 n5 o6 l6 c6 n7 o8 l8 c8 w R) : Calls Tryz.prog 9 #[(.pointer (some d0)), (.pointer (some d1)), (.agg #[(.int .i64 n2), (.string s3), (.string s4), (.int .i64 n5), (.slice o6 l6 c6), (.int .i64 n7), (.slice o8 l8 c8)])] w R :=
  execF_sound (ann := []) (args := [.addr d0, .addr d1, .agg [.int .i64 n2, .str s3, .str s4, .int .i64 n5, .slice o6 l6 c6, .int .i64 n7, .slice o8 l8 c8]]) Tryz.func9 mixed (Eq.mp (by kernel_rfl : morainelaw1_does.Vc d0 d1 n2 s3 s4 n5 o6 l6 c6 n7 o8 l8 c8 w R = execF (pA Tryz.prog R) Tryz.prog [] Tryz.f9 [.addr d0, .addr d1, .agg [.int .i64 n2, .str s3, .str s4, .int .i64 n5, .slice o6 l6 c6, .int .i64 n7, .slice o8 l8 c8]] w) h)

/-! (*moraine/moraineref1.Disk).Create: 17 -/
abbrev moraineref1_Disk_Create.n : Nat := 17
def moraineref1_Disk_Create.Vc (d0 : Addr) (s1 : ByteArray) (w : World) (R : Ending → World → Prop) : Prop :=
  Calls Tryz.prog 57 #[(.pointer (some d0))] w (fun e2 w3 =>
    ∃ n4 : Int, e2 = .returned (.int .i64 n4) ∧
    (((n4 ≠ 0 →
      R (.returned (.int .i64 n4)) w3)) ∧
     ((n4 = 0 →
      Calls Tryz.prog 58 #[(.string s1)] w3 (fun e5 w6 =>
        ∃ b7 : Bool, e5 = .returned (.bool b7) ∧
        (((b7 = false →
          R (.returned (.int .i64 11)) w6)) ∧
         ((b7 = true →
          ∃ o8 : Option Addr, ∃ l9 : Nat, ∃ l10 : Nat, World.cell? w6 (Addr.add d0 1) = some (.slice o8 l9 l10) ∧
          Calls Tryz.prog 59 #[(.slice o8 l9 l10), (.string s1)] w6 (fun e11 w12 =>
            ∃ n13 : Int, e11 = .returned (.int .i64 n13) ∧
            (((n13 ≥ 0 →
              R (.returned (.int .i64 12)) w12)) ∧
             ((¬ n13 ≥ 0 →
              ∃ n14 : Int, World.cell? w12 (Addr.add d0 4) = some (.int .i64 n14) ∧
              (((n14 = 1048576 →
                R (.returned (.int .i64 15)) w12)) ∧
               ((n14 ≠ 1048576 →
                ∃ n15 : Int, World.cell? w12 (Addr.add d0 4) = some (.int .i64 n15) ∧
                ∀ (d16 : Addr) (w17 : World), IsNew w12 95 #[(.int .i64 n15), (.slice none 0 0), (.slice none 0 0), (.slice none 0 0)] d16 w17 →
                ∃ n18 : Int, World.cell? w17 (Addr.add d0 4) = some (.int .i64 n18) ∧
                CanSet w17 (Addr.add d0 4) (.int .i64 (IntKind.wrap .i64 (n18 + 1))) ∧ ∀ w19 : World, IsSet w17 (Addr.add d0 4) (.int .i64 (IntKind.wrap .i64 (n18 + 1))) w19 →
                ∀ w20 : World, IsDrew w19 w20 →
                ∃ o21 : Option Addr, ∃ l22 : Nat, ∃ l23 : Nat, World.cell? w20 (Addr.add d0 1) = some (.slice o21 l22 l23) ∧
                ∃ o24 : Option Addr, ∃ l25 : Nat, ∃ l26 : Nat, World.cell? w20 (Addr.add d0 1) = some (.slice o24 l25 l26) ∧
                ∃ o27 : Option Addr, ∃ l28 : Nat, ∃ l29 : Nat, World.cell? w20 (Addr.add d0 1) = some (.slice o27 l28 l29) ∧
                ∃ v30 : Value, Sem.run Tryz.prog (Instr.sliceAt 51 (.slice o21 l22 l23) none (some (.int .i64 ((l25 : Nat) : Int))) (some (.int .i64 ((l28 : Nat) : Int)))) w20 = .ok v30 w20 ∧
                ∃ o31 : Option Addr, ∃ l32 : Nat, ∃ l33 : Nat, v30 = (.slice o31 l32 l33) ∧
                ∀ (d34 : Addr) (w35 : World), IsNew w20 92 #[(.string s1), (.pointer (some d16))] d34 w35 →
                Sem.run Tryz.prog (Instr.sliceAt 51 (.slice o21 l22 l23) none (some (.int .i64 ((l25 : Nat) : Int))) (some (.int .i64 ((l28 : Nat) : Int)))) w35 = .ok (.slice o31 l32 l33) w35 ∧
                World.cell? w35 (Addr.add d0 1) = some (.slice o27 l28 l29) ∧
                World.cell? w35 (Addr.add d0 1) = some (.slice o24 l25 l26) ∧
                World.cell? w35 (Addr.add d0 1) = some (.slice o21 l22 l23) ∧
                ∃ (v36 : Value) (w37 : World), Sem.run Tryz.prog (builtinV .append #[51, 51] 51 #[(.slice o31 l32 l33), (.slice (some d34) 1 1)]) w35 = .ok v36 w37 ∧
                ∃ o38 : Option Addr, ∃ l39 : Nat, ∃ l40 : Nat, v36 = (.slice o38 l39 l40) ∧
                CanSet w37 (Addr.add d0 1) (.slice o38 l39 l40) ∧ ∀ w41 : World, IsSet w37 (Addr.add d0 1) (.slice o38 l39 l40) w41 →
                ∃ o42 : Option Addr, ∃ l43 : Nat, ∃ l44 : Nat, World.cell? w41 (Addr.add d0 3) = some (.slice o42 l43 l44) ∧
                ∀ (d45 : Addr) (w46 : World), IsNew w41 90 #[(.string s1), (.string ⟨#[]⟩), (.pointer (some d16))] d45 w46 →
                ∃ (v47 : Value) (w48 : World), Sem.run Tryz.prog (builtinV .append #[52, 52] 52 #[(.slice o42 l43 l44), (.slice (some d45) 1 1)]) w46 = .ok v47 w48 ∧
                ∃ o49 : Option Addr, ∃ l50 : Nat, ∃ l51 : Nat, v47 = (.slice o49 l50 l51) ∧
                CanSet w48 (Addr.add d0 3) (.slice o49 l50 l51) ∧ ∀ w52 : World, IsSet w48 (Addr.add d0 3) (.slice o49 l50 l51) w52 →
                R (.returned (.int .i64 0)) w52)))))))))))))))
theorem moraineref1_Disk_Create.vc (d0 : Addr) (s1 : ByteArray) (w : World) (R : Ending → World → Prop) (h : moraineref1_Disk_Create.Vc d0 s1 w R) : Calls Tryz.prog 17 #[(.pointer (some d0)), (.string s1)] w R :=
  execF_sound (ann := []) (args := [.addr d0, .str s1]) Tryz.func17 mixed (Eq.mp (by kernel_rfl : moraineref1_Disk_Create.Vc d0 s1 w R = execF (pA Tryz.prog R) Tryz.prog [] Tryz.f17 [.addr d0, .str s1] w) h)

/-! (*moraine/moraineref1.Disk).Append: 18 -/
abbrev moraineref1_Disk_Append.n : Nat := 18
def moraineref1_Disk_Append.Vc (d0 : Addr) (s1 : ByteArray) (o2 : Option Addr) (l2 : Nat) (c2 : Nat) (w : World) (R : Ending → World → Prop) : Prop :=
  Calls Tryz.prog 60 #[(.pointer (some d0)), (.string s1)] w (fun e3 w4 =>
    ∃ o5 : Option Addr, ∃ n6 : Int, e3 = .returned (.tuple #[(.pointer o5), (.int .i64 n6)]) ∧
    (((n6 ≠ 0 →
      R (.returned (.int .i64 n6)) w4)) ∧
     ((n6 = 0 →
      ∃ d7 : Addr, o5 = some d7 ∧
      ∃ o8 : Option Addr, ∃ l9 : Nat, ∃ l10 : Nat, World.cell? w4 (Addr.add d7 1) = some (.slice o8 l9 l10) ∧
      Calls Tryz.prog 61 #[(.pointer (some d0)), (.pointer o5), (.int .i64 ((l9 : Nat) : Int)), (.slice o2 l2 c2)] w4 (fun e11 w12 =>
        ∃ n13 : Int, e11 = .returned (.int .i64 n13) ∧
        R (.returned (.int .i64 n13)) w12)))))
theorem moraineref1_Disk_Append.vc (d0 : Addr) (s1 : ByteArray) (o2 : Option Addr) (l2 : Nat) (c2 : Nat) (w : World) (R : Ending → World → Prop) (h : moraineref1_Disk_Append.Vc d0 s1 o2 l2 c2 w R) : Calls Tryz.prog 18 #[(.pointer (some d0)), (.string s1), (.slice o2 l2 c2)] w R :=
  execF_sound (ann := []) (args := [.addr d0, .str s1, .slice o2 l2 c2]) Tryz.func18 mixed (Eq.mp (by kernel_rfl : moraineref1_Disk_Append.Vc d0 s1 o2 l2 c2 w R = execF (pA Tryz.prog R) Tryz.prog [] Tryz.f18 [.addr d0, .str s1, .slice o2 l2 c2] w) h)

/-! (*moraine/moraineref1.Disk).WriteAt: 21 -/
abbrev moraineref1_Disk_WriteAt.n : Nat := 21
def moraineref1_Disk_WriteAt.Vc (d0 : Addr) (s1 : ByteArray) (n2 : Int) (o3 : Option Addr) (l3 : Nat) (c3 : Nat) (w : World) (R : Ending → World → Prop) : Prop :=
  Calls Tryz.prog 60 #[(.pointer (some d0)), (.string s1)] w (fun e4 w5 =>
    ∃ o6 : Option Addr, ∃ n7 : Int, e4 = .returned (.tuple #[(.pointer o6), (.int .i64 n7)]) ∧
    (((n7 ≠ 0 →
      R (.returned (.int .i64 n7)) w5)) ∧
     ((n7 = 0 →
      (((n2 < 0 →
        R (.returned (.int .i64 14)) w5)) ∧
       ((¬ n2 < 0 →
        ∃ d8 : Addr, o6 = some d8 ∧
        ∃ o9 : Option Addr, ∃ l10 : Nat, ∃ l11 : Nat, World.cell? w5 (Addr.add d8 1) = some (.slice o9 l10 l11) ∧
        (((n2 > ((l10 : Nat) : Int) →
          R (.returned (.int .i64 14)) w5)) ∧
         ((¬ n2 > ((l10 : Nat) : Int) →
          Calls Tryz.prog 61 #[(.pointer (some d0)), (.pointer o6), (.int .i64 n2), (.slice o3 l3 c3)] w5 (fun e12 w13 =>
            ∃ n14 : Int, e12 = .returned (.int .i64 n14) ∧
            R (.returned (.int .i64 n14)) w13)))))))))))
theorem moraineref1_Disk_WriteAt.vc (d0 : Addr) (s1 : ByteArray) (n2 : Int) (o3 : Option Addr) (l3 : Nat) (c3 : Nat) (w : World) (R : Ending → World → Prop) (h : moraineref1_Disk_WriteAt.Vc d0 s1 n2 o3 l3 c3 w R) : Calls Tryz.prog 21 #[(.pointer (some d0)), (.string s1), (.int .i64 n2), (.slice o3 l3 c3)] w R :=
  execF_sound (ann := []) (args := [.addr d0, .str s1, .int .i64 n2, .slice o3 l3 c3]) Tryz.func21 mixed (Eq.mp (by kernel_rfl : moraineref1_Disk_WriteAt.Vc d0 s1 n2 o3 l3 c3 w R = execF (pA Tryz.prog R) Tryz.prog [] Tryz.f21 [.addr d0, .str s1, .int .i64 n2, .slice o3 l3 c3] w) h)

/-! (*moraine/moraineref1.Disk).Truncate: 23 -/
abbrev moraineref1_Disk_Truncate.n : Nat := 23
def moraineref1_Disk_Truncate.Vc (d0 : Addr) (s1 : ByteArray) (n2 : Int) (w : World) (R : Ending → World → Prop) : Prop :=
  Calls Tryz.prog 60 #[(.pointer (some d0)), (.string s1)] w (fun e3 w4 =>
    ∃ o5 : Option Addr, ∃ n6 : Int, e3 = .returned (.tuple #[(.pointer o5), (.int .i64 n6)]) ∧
    (((n6 ≠ 0 →
      R (.returned (.int .i64 n6)) w4)) ∧
     ((n6 = 0 →
      (((n2 < 0 →
        R (.returned (.int .i64 14)) w4)) ∧
       ((¬ n2 < 0 →
        ∃ d7 : Addr, o5 = some d7 ∧
        ∃ o8 : Option Addr, ∃ l9 : Nat, ∃ l10 : Nat, World.cell? w4 (Addr.add d7 1) = some (.slice o8 l9 l10) ∧
        (((n2 > ((l9 : Nat) : Int) →
          R (.returned (.int .i64 14)) w4)) ∧
         ((¬ n2 > ((l9 : Nat) : Int) →
          ∃ d11 : Addr, o5 = some d11 ∧
          ∃ o12 : Option Addr, ∃ l13 : Nat, ∃ l14 : Nat, World.cell? w4 (Addr.add d11 1) = some (.slice o12 l13 l14) ∧
          (((n2 < ((l13 : Nat) : Int) →
            ∃ d15 : Addr, o5 = some d15 ∧
            ∃ o16 : Option Addr, ∃ l17 : Nat, ∃ l18 : Nat, World.cell? w4 (Addr.add d15 1) = some (.slice o16 l17 l18) ∧
            ((0 : Int) ≤ n2 ∧ n2 ≤ ((l18 : Nat) : Int)) ∧
            ∃ (v19 : Value) (w20 : World), Sem.run Tryz.prog (builtinV .append #[32, 32] 32 #[(.slice none 0 0), (.slice o16 (Int.toNat n2) l18)]) w4 = .ok v19 w20 ∧
            ∃ o21 : Option Addr, ∃ l22 : Nat, ∃ l23 : Nat, v19 = (.slice o21 l22 l23) ∧
            ∃ d24 : Addr, o5 = some d24 ∧
            CanSet w20 (Addr.add d24 1) (.slice o21 l22 l23) ∧ ∀ w25 : World, IsSet w20 (Addr.add d24 1) (.slice o21 l22 l23) w25 →
            ∃ d26 : Addr, o5 = some d26 ∧
            ∃ o27 : Option Addr, ∃ l28 : Nat, ∃ l29 : Nat, World.cell? w25 (Addr.add d26 3) = some (.slice o27 l28 l29) ∧
            ∀ (d30 : Addr) (w31 : World), IsNew w25 113 #[(.int .i64 (-1)), (.slice none 0 0), (.int .i64 n2)] d30 w31 →
            ∃ (v32 : Value) (w33 : World), Sem.run Tryz.prog (builtinV .append #[93, 93] 93 #[(.slice o27 l28 l29), (.slice (some d30) 1 1)]) w31 = .ok v32 w33 ∧
            ∃ o34 : Option Addr, ∃ l35 : Nat, ∃ l36 : Nat, v32 = (.slice o34 l35 l36) ∧
            ∃ d37 : Addr, o5 = some d37 ∧
            CanSet w33 (Addr.add d37 3) (.slice o34 l35 l36) ∧ ∀ w38 : World, IsSet w33 (Addr.add d37 3) (.slice o34 l35 l36) w38 →
            R (.returned (.int .i64 0)) w38)) ∧
           ((¬ n2 < ((l13 : Nat) : Int) →
            R (.returned (.int .i64 0)) w4)))))))))))))
theorem moraineref1_Disk_Truncate.vc (d0 : Addr) (s1 : ByteArray) (n2 : Int) (w : World) (R : Ending → World → Prop) (h : moraineref1_Disk_Truncate.Vc d0 s1 n2 w R) : Calls Tryz.prog 23 #[(.pointer (some d0)), (.string s1), (.int .i64 n2)] w R :=
  execF_sound (ann := []) (args := [.addr d0, .str s1, .int .i64 n2]) Tryz.func23 mixed (Eq.mp (by kernel_rfl : moraineref1_Disk_Truncate.Vc d0 s1 n2 w R = execF (pA Tryz.prog R) Tryz.prog [] Tryz.f23 [.addr d0, .str s1, .int .i64 n2] w) h)

/-! (*moraine/moraineref1.Disk).Sync: 25 -/
abbrev moraineref1_Disk_Sync.n : Nat := 25
def moraineref1_Disk_Sync.Vc (d0 : Addr) (s1 : ByteArray) (w : World) (R : Ending → World → Prop) : Prop :=
  Calls Tryz.prog 60 #[(.pointer (some d0)), (.string s1)] w (fun e2 w3 =>
    ∃ o4 : Option Addr, ∃ n5 : Int, e2 = .returned (.tuple #[(.pointer o4), (.int .i64 n5)]) ∧
    (((n5 ≠ 0 →
      R (.returned (.int .i64 n5)) w3)) ∧
     ((n5 = 0 →
      ∃ d6 : Addr, o4 = some d6 ∧
      ∃ o7 : Option Addr, ∃ l8 : Nat, ∃ l9 : Nat, World.cell? w3 (Addr.add d6 1) = some (.slice o7 l8 l9) ∧
      ∃ (v10 : Value) (w11 : World), Sem.run Tryz.prog (builtinV .append #[32, 32] 32 #[(.slice none 0 0), (.slice o7 l8 l9)]) w3 = .ok v10 w11 ∧
      ∃ o12 : Option Addr, ∃ l13 : Nat, ∃ l14 : Nat, v10 = (.slice o12 l13 l14) ∧
      ∃ d15 : Addr, o4 = some d15 ∧
      CanSet w11 (Addr.add d15 2) (.slice o12 l13 l14) ∧ ∀ w16 : World, IsSet w11 (Addr.add d15 2) (.slice o12 l13 l14) w16 →
      ∃ d17 : Addr, o4 = some d17 ∧
      CanSet w16 (Addr.add d17 3) (.slice none 0 0) ∧ ∀ w18 : World, IsSet w16 (Addr.add d17 3) (.slice none 0 0) w18 →
      R (.returned (.int .i64 0)) w18))))
theorem moraineref1_Disk_Sync.vc (d0 : Addr) (s1 : ByteArray) (w : World) (R : Ending → World → Prop) (h : moraineref1_Disk_Sync.Vc d0 s1 w R) : Calls Tryz.prog 25 #[(.pointer (some d0)), (.string s1)] w R :=
  execF_sound (ann := []) (args := [.addr d0, .str s1]) Tryz.func25 mixed (Eq.mp (by kernel_rfl : moraineref1_Disk_Sync.Vc d0 s1 w R = execF (pA Tryz.prog R) Tryz.prog [] Tryz.f25 [.addr d0, .str s1] w) h)

/-! (*moraine/moraineref1.Disk).Rename: 27 -/
abbrev moraineref1_Disk_Rename.n : Nat := 27
def moraineref1_Disk_Rename.Vc (d0 : Addr) (s1 : ByteArray) (s2 : ByteArray) (w : World) (R : Ending → World → Prop) : Prop :=
  Calls Tryz.prog 57 #[(.pointer (some d0))] w (fun e3 w4 =>
    ∃ n5 : Int, e3 = .returned (.int .i64 n5) ∧
    (((n5 ≠ 0 →
      R (.returned (.int .i64 n5)) w4)) ∧
     ((n5 = 0 →
      Calls Tryz.prog 58 #[(.string s1)] w4 (fun e6 w7 =>
        ∃ b8 : Bool, e6 = .returned (.bool b8) ∧
        (((b8 = false →
          R (.returned (.int .i64 11)) w7)) ∧
         ((b8 = true →
          Calls Tryz.prog 58 #[(.string s2)] w7 (fun e9 w10 =>
            ∃ b11 : Bool, e9 = .returned (.bool b11) ∧
            (((b11 = false →
              R (.returned (.int .i64 11)) w10)) ∧
             ((b11 = true →
              ∃ o12 : Option Addr, ∃ l13 : Nat, ∃ l14 : Nat, World.cell? w10 (Addr.add d0 1) = some (.slice o12 l13 l14) ∧
              Calls Tryz.prog 59 #[(.slice o12 l13 l14), (.string s1)] w10 (fun e15 w16 =>
                ∃ n17 : Int, e15 = .returned (.int .i64 n17) ∧
                (((n17 < 0 →
                  R (.returned (.int .i64 13)) w16)) ∧
                 ((¬ n17 < 0 →
                  (((strB .neq s1 s2 = true →
                    ∀ (d18 : Addr) (w19 : World), IsNew w16 90 #[(.string ⟨#[]⟩), (.string ⟨#[]⟩), (.pointer none)] d18 w19 →
                    CanSet w19 d18 (.string s1) ∧ ∀ w20 : World, IsSet w19 d18 (.string s1) w20 →
                    CanSet w20 (Addr.add d18 1) (.string s2) ∧ ∀ w21 : World, IsSet w20 (Addr.add d18 1) (.string s2) w21 →
                    CanSet w21 (Addr.add d18 2) (.pointer none) ∧ ∀ w22 : World, IsSet w21 (Addr.add d18 2) (.pointer none) w22 →
                    ∀ w23 : World, IsDrew w22 w23 →
                    ∃ o24 : Option Addr, ∃ l25 : Nat, ∃ l26 : Nat, World.cell? w23 (Addr.add d0 1) = some (.slice o24 l25 l26) ∧
                    ∃ s27 : ByteArray, ∃ s28 : ByteArray, ∃ o29 : Option Addr, World.cell? w23 d18 = some (.string s27) ∧
                    World.cell? w23 (Addr.add d18 1) = some (.string s28) ∧
                    World.cell? w23 (Addr.add d18 2) = some (.pointer o29) ∧
                    Calls Tryz.prog 49 #[(.slice o24 l25 l26), (.agg #[(.string s27), (.string s28), (.pointer o29)])] w23 (fun e30 w31 =>
                      ∃ o32 : Option Addr, ∃ l33 : Nat, ∃ l34 : Nat, e30 = .returned (.slice o32 l33 l34) ∧
                      CanSet w31 (Addr.add d0 1) (.slice o32 l33 l34) ∧ ∀ w35 : World, IsSet w31 (Addr.add d0 1) (.slice o32 l33 l34) w35 →
                      ∀ w36 : World, IsDrew w35 w36 →
                      ∃ o37 : Option Addr, ∃ l38 : Nat, ∃ l39 : Nat, World.cell? w36 (Addr.add d0 3) = some (.slice o37 l38 l39) ∧
                      ∃ s40 : ByteArray, ∃ s41 : ByteArray, ∃ o42 : Option Addr, World.cell? w36 d18 = some (.string s40) ∧
                      World.cell? w36 (Addr.add d18 1) = some (.string s41) ∧
                      World.cell? w36 (Addr.add d18 2) = some (.pointer o42) ∧
                      ∀ (d43 : Addr) (w44 : World), IsNew w36 90 #[(.string s40), (.string s41), (.pointer o42)] d43 w44 →
                      World.cell? w44 (Addr.add d0 3) = some (.slice o37 l38 l39) ∧
                      ∃ (v45 : Value) (w46 : World), Sem.run Tryz.prog (builtinV .append #[52, 52] 52 #[(.slice o37 l38 l39), (.slice (some d43) 1 1)]) w44 = .ok v45 w46 ∧
                      ∃ o47 : Option Addr, ∃ l48 : Nat, ∃ l49 : Nat, v45 = (.slice o47 l48 l49) ∧
                      CanSet w46 (Addr.add d0 3) (.slice o47 l48 l49) ∧ ∀ w50 : World, IsSet w46 (Addr.add d0 3) (.slice o47 l48 l49) w50 →
                      R (.returned (.int .i64 0)) w50))) ∧
                   ((strB .neq s1 s2 = false →
                    R (.returned (.int .i64 0)) w16)))))))))))))))))))
theorem moraineref1_Disk_Rename.vc (d0 : Addr) (s1 : ByteArray) (s2 : ByteArray) (w : World) (R : Ending → World → Prop) (h : moraineref1_Disk_Rename.Vc d0 s1 s2 w R) : Calls Tryz.prog 27 #[(.pointer (some d0)), (.string s1), (.string s2)] w R :=
  execF_sound (ann := []) (args := [.addr d0, .str s1, .str s2]) Tryz.func27 mixed (Eq.mp (by kernel_rfl : moraineref1_Disk_Rename.Vc d0 s1 s2 w R = execF (pA Tryz.prog R) Tryz.prog [] Tryz.f27 [.addr d0, .str s1, .str s2] w) h)

/-! (*moraine/moraineref1.Disk).Remove: 29 -/
abbrev moraineref1_Disk_Remove.n : Nat := 29
def moraineref1_Disk_Remove.Vc (d0 : Addr) (s1 : ByteArray) (w : World) (R : Ending → World → Prop) : Prop :=
  Calls Tryz.prog 60 #[(.pointer (some d0)), (.string s1)] w (fun e2 w3 =>
    ∃ o4 : Option Addr, ∃ n5 : Int, e2 = .returned (.tuple #[(.pointer o4), (.int .i64 n5)]) ∧
    (((n5 ≠ 0 →
      R (.returned (.int .i64 n5)) w3)) ∧
     ((n5 = 0 →
      ∀ (d6 : Addr) (w7 : World), IsNew w3 90 #[(.string ⟨#[]⟩), (.string ⟨#[]⟩), (.pointer none)] d6 w7 →
      CanSet w7 d6 (.string s1) ∧ ∀ w8 : World, IsSet w7 d6 (.string s1) w8 →
      CanSet w8 (Addr.add d6 1) (.string ⟨#[]⟩) ∧ ∀ w9 : World, IsSet w8 (Addr.add d6 1) (.string ⟨#[]⟩) w9 →
      CanSet w9 (Addr.add d6 2) (.pointer none) ∧ ∀ w10 : World, IsSet w9 (Addr.add d6 2) (.pointer none) w10 →
      ∀ w11 : World, IsDrew w10 w11 →
      ∃ o12 : Option Addr, ∃ l13 : Nat, ∃ l14 : Nat, World.cell? w11 (Addr.add d0 1) = some (.slice o12 l13 l14) ∧
      ∃ s15 : ByteArray, ∃ s16 : ByteArray, ∃ o17 : Option Addr, World.cell? w11 d6 = some (.string s15) ∧
      World.cell? w11 (Addr.add d6 1) = some (.string s16) ∧
      World.cell? w11 (Addr.add d6 2) = some (.pointer o17) ∧
      Calls Tryz.prog 49 #[(.slice o12 l13 l14), (.agg #[(.string s15), (.string s16), (.pointer o17)])] w11 (fun e18 w19 =>
        ∃ o20 : Option Addr, ∃ l21 : Nat, ∃ l22 : Nat, e18 = .returned (.slice o20 l21 l22) ∧
        CanSet w19 (Addr.add d0 1) (.slice o20 l21 l22) ∧ ∀ w23 : World, IsSet w19 (Addr.add d0 1) (.slice o20 l21 l22) w23 →
        ∀ w24 : World, IsDrew w23 w24 →
        ∃ o25 : Option Addr, ∃ l26 : Nat, ∃ l27 : Nat, World.cell? w24 (Addr.add d0 3) = some (.slice o25 l26 l27) ∧
        ∃ s28 : ByteArray, ∃ s29 : ByteArray, ∃ o30 : Option Addr, World.cell? w24 d6 = some (.string s28) ∧
        World.cell? w24 (Addr.add d6 1) = some (.string s29) ∧
        World.cell? w24 (Addr.add d6 2) = some (.pointer o30) ∧
        ∀ (d31 : Addr) (w32 : World), IsNew w24 90 #[(.string s28), (.string s29), (.pointer o30)] d31 w32 →
        World.cell? w32 (Addr.add d0 3) = some (.slice o25 l26 l27) ∧
        ∃ (v33 : Value) (w34 : World), Sem.run Tryz.prog (builtinV .append #[52, 52] 52 #[(.slice o25 l26 l27), (.slice (some d31) 1 1)]) w32 = .ok v33 w34 ∧
        ∃ o35 : Option Addr, ∃ l36 : Nat, ∃ l37 : Nat, v33 = (.slice o35 l36 l37) ∧
        CanSet w34 (Addr.add d0 3) (.slice o35 l36 l37) ∧ ∀ w38 : World, IsSet w34 (Addr.add d0 3) (.slice o35 l36 l37) w38 →
        R (.returned (.int .i64 0)) w38)))))
theorem moraineref1_Disk_Remove.vc (d0 : Addr) (s1 : ByteArray) (w : World) (R : Ending → World → Prop) (h : moraineref1_Disk_Remove.Vc d0 s1 w R) : Calls Tryz.prog 29 #[(.pointer (some d0)), (.string s1)] w R :=
  execF_sound (ann := []) (args := [.addr d0, .str s1]) Tryz.func29 mixed (Eq.mp (by kernel_rfl : moraineref1_Disk_Remove.Vc d0 s1 w R = execF (pA Tryz.prog R) Tryz.prog [] Tryz.f29 [.addr d0, .str s1] w) h)

/-! (*moraine/moraineref1.Disk).SyncDir: 30 -/
abbrev moraineref1_Disk_SyncDir.n : Nat := 30
def moraineref1_Disk_SyncDir.Vc (d0 : Addr) (w : World) (R : Ending → World → Prop) : Prop :=
  Calls Tryz.prog 57 #[(.pointer (some d0))] w (fun e1 w2 =>
    ∃ n3 : Int, e1 = .returned (.int .i64 n3) ∧
    (((n3 ≠ 0 →
      R (.returned (.int .i64 n3)) w2)) ∧
     ((n3 = 0 →
      ∃ o4 : Option Addr, ∃ l5 : Nat, ∃ l6 : Nat, World.cell? w2 (Addr.add d0 1) = some (.slice o4 l5 l6) ∧
      ∃ (v7 : Value) (w8 : World), Sem.run Tryz.prog (builtinV .append #[51, 51] 51 #[(.slice none 0 0), (.slice o4 l5 l6)]) w2 = .ok v7 w8 ∧
      ∃ o9 : Option Addr, ∃ l10 : Nat, ∃ l11 : Nat, v7 = (.slice o9 l10 l11) ∧
      CanSet w8 (Addr.add d0 2) (.slice o9 l10 l11) ∧ ∀ w12 : World, IsSet w8 (Addr.add d0 2) (.slice o9 l10 l11) w12 →
      CanSet w12 (Addr.add d0 3) (.slice none 0 0) ∧ ∀ w13 : World, IsSet w12 (Addr.add d0 3) (.slice none 0 0) w13 →
      R (.returned (.int .i64 0)) w13))))
theorem moraineref1_Disk_SyncDir.vc (d0 : Addr) (w : World) (R : Ending → World → Prop) (h : moraineref1_Disk_SyncDir.Vc d0 w R) : Calls Tryz.prog 30 #[(.pointer (some d0))] w R :=
  execF_sound (ann := []) (args := [.addr d0]) Tryz.func30 mixed (Eq.mp (by kernel_rfl : moraineref1_Disk_SyncDir.Vc d0 w R = execF (pA Tryz.prog R) Tryz.prog [] Tryz.f30 [.addr d0] w) h)

/-! (*moraine/moraineref1.Disk).Fail: 32 -/
abbrev moraineref1_Disk_Fail.n : Nat := 32
def moraineref1_Disk_Fail.Vc (d0 : Addr) (n1 : Int) (w : World) (R : Ending → World → Prop) : Prop :=
  CanSet w (Addr.add d0 6) (.int .i64 (max n1 0)) ∧ ∀ w2 : World, IsSet w (Addr.add d0 6) (.int .i64 (max n1 0)) w2 →
  R (.returned (.tuple #[])) w2
theorem moraineref1_Disk_Fail.vc (d0 : Addr) (n1 : Int) (w : World) (R : Ending → World → Prop) (h : moraineref1_Disk_Fail.Vc d0 n1 w R) : Calls Tryz.prog 32 #[(.pointer (some d0)), (.int .i64 n1)] w R :=
  execF_sound (ann := []) (args := [.addr d0, .int .i64 n1]) Tryz.func32 mixed (Eq.mp (by kernel_rfl : moraineref1_Disk_Fail.Vc d0 n1 w R = execF (pA Tryz.prog R) Tryz.prog [] Tryz.f32 [.addr d0, .int .i64 n1] w) h)

/-! (*moraine/moraineref1.Disk).Halt: 34 -/
abbrev moraineref1_Disk_Halt.n : Nat := 34
def moraineref1_Disk_Halt.Vc (d0 : Addr) (n1 : Int) (w : World) (R : Ending → World → Prop) : Prop :=
  CanSet w (Addr.add d0 7) (.int .i64 (max n1 (-1))) ∧ ∀ w2 : World, IsSet w (Addr.add d0 7) (.int .i64 (max n1 (-1))) w2 →
  R (.returned (.tuple #[])) w2
theorem moraineref1_Disk_Halt.vc (d0 : Addr) (n1 : Int) (w : World) (R : Ending → World → Prop) (h : moraineref1_Disk_Halt.Vc d0 n1 w R) : Calls Tryz.prog 34 #[(.pointer (some d0)), (.int .i64 n1)] w R :=
  execF_sound (ann := []) (args := [.addr d0, .int .i64 n1]) Tryz.func34 mixed (Eq.mp (by kernel_rfl : moraineref1_Disk_Halt.Vc d0 n1 w R = execF (pA Tryz.prog R) Tryz.prog [] Tryz.f34 [.addr d0, .int .i64 n1] w) h)

/-! (*moraine/moraineref1.Disk).Restart: 12 -/
abbrev moraineref1_Disk_Restart.n : Nat := 12
def moraineref1_Disk_Restart.Vc (d0 : Addr) (n1 : Int) (o2 : Option Addr) (l2 : Nat) (c2 : Nat) (w : World) (R : Ending → World → Prop) : Prop :=
  ∀ (d3 : Addr) (w4 : World), IsNew w 35 #[(.int .i64 n1), (.slice o2 l2 c2)] d3 w4 →
  ∃ o5 : Option Addr, ∃ l6 : Nat, ∃ l7 : Nat, World.cell? w4 (Addr.add d0 2) = some (.slice o5 l6 l7) ∧
  ∃ (v8 : Value) (w9 : World), Sem.run Tryz.prog (builtinV .append #[51, 51] 51 #[(.slice none 0 0), (.slice o5 l6 l7)]) w4 = .ok v8 w9 ∧
  ∃ o10 : Option Addr, ∃ l11 : Nat, ∃ l12 : Nat, v8 = (.slice o10 l11 l12) ∧
  ∃ (J13 : Option Addr → Nat → Nat → World → Prop), (∃ (I14 : Option Addr → Nat → Nat → Int → World → Prop) (μ14 : Option Addr → Nat → Nat → Int → World → Nat), I14 o10 l11 l12 0 w9 ∧
   (∀ (o15 : Option Addr) (l15 : Nat) (c15 : Nat) (n16 : Int) (j17 : Nat → Value) (w17 : World), I14 o15 l15 c15 n16 w17 →
     ∃ o18 : Option Addr, ∃ l19 : Nat, ∃ l20 : Nat, World.cell? w17 (Addr.add d0 3) = some (.slice o18 l19 l20) ∧
     (((n16 < ((l19 : Nat) : Int) →
       ∃ n21 : Int, World.cell? w17 d3 = some (.int .i64 n21) ∧
       (((n16 < n21 →
         ∃ o22 : Option Addr, ∃ l23 : Nat, ∃ l24 : Nat, World.cell? w17 (Addr.add d0 3) = some (.slice o22 l23 l24) ∧
         ∃ d25 : Addr, o22 = some d25 ∧
         ((0 : Int) ≤ n16 ∧ n16 < ((l23 : Nat) : Int)) ∧
         ∃ s26 : ByteArray, ∃ s27 : ByteArray, ∃ o28 : Option Addr, World.cell? w17 (Addr.add d25 ((Int.toNat n16) * 3)) = some (.string s26) ∧
         World.cell? w17 (Addr.add (Addr.add d25 ((Int.toNat n16) * 3)) 1) = some (.string s27) ∧
         World.cell? w17 (Addr.add (Addr.add d25 ((Int.toNat n16) * 3)) 2) = some (.pointer o28) ∧
         Calls Tryz.prog 49 #[(.slice o15 l15 c15), (.agg #[(.string s26), (.string s27), (.pointer o28)])] w17 (fun e29 w30 =>
           ∃ o31 : Option Addr, ∃ l32 : Nat, ∃ l33 : Nat, e29 = .returned (.slice o31 l32 l33) ∧
           I14 o31 l32 l33 (IntKind.wrap .i64 (n16 + 1)) w30 ∧ μ14 o31 l32 l33 (IntKind.wrap .i64 (n16 + 1)) w30 < μ14 o15 l15 c15 n16 w17))) ∧
        ((¬ n16 < n21 →
         J13 o15 l15 c15 w17))))) ∧
      ((¬ n16 < ((l19 : Nat) : Int) →
       J13 o15 l15 c15 w17))))) ∧
  (∀ (o34 : Option Addr) (l34 : Nat) (c34 : Nat) (j35 : Nat → Value) (w35 : World), J13 o34 l34 c34 w35 →
    CanSet w35 (Addr.add d0 1) (.slice none 0 0) ∧ ∀ w36 : World, IsSet w35 (Addr.add d0 1) (.slice none 0 0) w36 →
    ∃ (I37 : Int → World → Prop) (μ37 : Int → World → Nat), I37 0 w36 ∧
    (∀ (n38 : Int) (j39 : Nat → Value) (w39 : World), I37 n38 w39 →
      (((n38 < ((l34 : Nat) : Int) →
        ∃ d40 : Addr, o34 = some d40 ∧
        ((0 : Int) ≤ n38 ∧ n38 < ((l34 : Nat) : Int)) ∧
        ∃ o41 : Option Addr, World.cell? w39 (Addr.add (Addr.add d40 ((Int.toNat n38) * 2)) 1) = some (.pointer o41) ∧
        ∃ (J42 : Int → World → Prop), (∀ w43 : World, IsDrew w39 w43 →
         ∃ d44 : Addr, o41 = some d44 ∧
         ∃ n45 : Int, World.cell? w43 d44 = some (.int .i64 n45) ∧
         ∃ o46 : Option Addr, ∃ l47 : Nat, ∃ l48 : Nat, World.cell? w43 (Addr.add d3 1) = some (.slice o46 l47 l48) ∧
         (((n45 < ((l47 : Nat) : Int) →
           ∀ w49 : World, IsDrew w43 w49 →
           ∃ o50 : Option Addr, ∃ l51 : Nat, ∃ l52 : Nat, World.cell? w49 (Addr.add d3 1) = some (.slice o50 l51 l52) ∧
           ∃ d53 : Addr, o41 = some d53 ∧
           ∃ n54 : Int, World.cell? w49 d53 = some (.int .i64 n54) ∧
           ∃ d55 : Addr, o50 = some d55 ∧
           ((0 : Int) ≤ n54 ∧ n54 < ((l51 : Nat) : Int)) ∧
           ∃ n56 : Int, World.cell? w49 (Addr.add d55 (Int.toNat n54)) = some (.int .i64 n56) ∧
           J42 (max n56 0) w49)) ∧
          ((¬ n45 < ((l47 : Nat) : Int) →
           J42 0 w43)))) ∧
        (∀ (n57 : Int) (j58 : Nat → Value) (w58 : World), J42 n57 w58 →
          Calls Tryz.prog 50 #[(.pointer o41), (.int .i64 n57)] w58 (fun e59 w60 =>
            ∃ o61 : Option Addr, ∃ l62 : Nat, ∃ l63 : Nat, e59 = .returned (.slice o61 l62 l63) ∧
            ∀ w64 : World, IsDrew w60 w64 →
            ∃ o65 : Option Addr, ∃ l66 : Nat, ∃ l67 : Nat, World.cell? w64 (Addr.add d0 1) = some (.slice o65 l66 l67) ∧
            ∃ d68 : Addr, o34 = some d68 ∧
            ((0 : Int) ≤ n38 ∧ n38 < ((l34 : Nat) : Int)) ∧
            ∃ s69 : ByteArray, World.cell? w64 (Addr.add d68 ((Int.toNat n38) * 2)) = some (.string s69) ∧
            ∃ d70 : Addr, o41 = some d70 ∧
            ∃ n71 : Int, World.cell? w64 d70 = some (.int .i64 n71) ∧
            ∃ (v72 : Value) (w73 : World), Sem.run Tryz.prog (builtinV .append #[32, 32] 32 #[(.slice none 0 0), (.slice o61 l62 l63)]) w64 = .ok v72 w73 ∧
            ∃ o74 : Option Addr, ∃ l75 : Nat, ∃ l76 : Nat, v72 = (.slice o74 l75 l76) ∧
            World.cell? w73 d70 = some (.int .i64 n71) ∧
            World.cell? w73 (Addr.add d68 ((Int.toNat n38) * 2)) = some (.string s69) ∧
            World.cell? w73 (Addr.add d0 1) = some (.slice o65 l66 l67) ∧
            ∀ (d77 : Addr) (w78 : World), IsNew w73 95 #[(.int .i64 n71), (.slice o61 l62 l63), (.slice o74 l75 l76), (.slice none 0 0)] d77 w78 →
            World.cell? w78 (Addr.add d68 ((Int.toNat n38) * 2)) = some (.string s69) ∧
            World.cell? w78 (Addr.add d0 1) = some (.slice o65 l66 l67) ∧
            ∀ (d79 : Addr) (w80 : World), IsNew w78 92 #[(.string s69), (.pointer (some d77))] d79 w80 →
            World.cell? w80 (Addr.add d0 1) = some (.slice o65 l66 l67) ∧
            ∃ (v81 : Value) (w82 : World), Sem.run Tryz.prog (builtinV .append #[51, 51] 51 #[(.slice o65 l66 l67), (.slice (some d79) 1 1)]) w80 = .ok v81 w82 ∧
            ∃ o83 : Option Addr, ∃ l84 : Nat, ∃ l85 : Nat, v81 = (.slice o83 l84 l85) ∧
            CanSet w82 (Addr.add d0 1) (.slice o83 l84 l85) ∧ ∀ w86 : World, IsSet w82 (Addr.add d0 1) (.slice o83 l84 l85) w86 →
            I37 (IntKind.wrap .i64 (n38 + 1)) w86 ∧ μ37 (IntKind.wrap .i64 (n38 + 1)) w86 < μ37 n38 w39)))) ∧
       ((¬ n38 < ((l34 : Nat) : Int) →
        ∃ o87 : Option Addr, ∃ l88 : Nat, ∃ l89 : Nat, World.cell? w39 (Addr.add d0 1) = some (.slice o87 l88 l89) ∧
        ∃ (v90 : Value) (w91 : World), Sem.run Tryz.prog (builtinV .append #[51, 51] 51 #[(.slice none 0 0), (.slice o87 l88 l89)]) w39 = .ok v90 w91 ∧
        ∃ o92 : Option Addr, ∃ l93 : Nat, ∃ l94 : Nat, v90 = (.slice o92 l93 l94) ∧
        CanSet w91 (Addr.add d0 2) (.slice o92 l93 l94) ∧ ∀ w95 : World, IsSet w91 (Addr.add d0 2) (.slice o92 l93 l94) w95 →
        CanSet w95 (Addr.add d0 3) (.slice none 0 0) ∧ ∀ w96 : World, IsSet w95 (Addr.add d0 3) (.slice none 0 0) w96 →
        CanSet w96 (Addr.add d0 6) (.int .i64 0) ∧ ∀ w97 : World, IsSet w96 (Addr.add d0 6) (.int .i64 0) w97 →
        CanSet w97 (Addr.add d0 7) (.int .i64 (-1)) ∧ ∀ w98 : World, IsSet w97 (Addr.add d0 7) (.int .i64 (-1)) w98 →
        CanSet w98 (Addr.add d0 8) (.bool false) ∧ ∀ w99 : World, IsSet w98 (Addr.add d0 8) (.bool false) w99 →
        R (.returned (.tuple #[])) w99)))))
theorem moraineref1_Disk_Restart.vc (d0 : Addr) (n1 : Int) (o2 : Option Addr) (l2 : Nat) (c2 : Nat) (w : World) (R : Ending → World → Prop) (h : moraineref1_Disk_Restart.Vc d0 n1 o2 l2 c2 w R) : Calls Tryz.prog 12 #[(.pointer (some d0)), (.agg #[(.int .i64 n1), (.slice o2 l2 c2)])] w R :=
  execF_sound (ann := [(1000006, [(4, .cell (.slice))]), (3, [(4, .cell (.slice)), (5, .cell (.int .i64))]), (8, [(6, .cell (.int .i64))]), (1000014, [(8, .cell (.int .i64))])]) (args := [.addr d0, .agg [.int .i64 n1, .slice o2 l2 c2]]) Tryz.func12 mixed (Eq.mp (by kernel_rfl : moraineref1_Disk_Restart.Vc d0 n1 o2 l2 c2 w R = execF (pA Tryz.prog R) Tryz.prog [(1000006, [(4, .cell (.slice))]), (3, [(4, .cell (.slice)), (5, .cell (.int .i64))]), (8, [(6, .cell (.int .i64))]), (1000014, [(8, .cell (.int .i64))])] Tryz.f12 [.addr d0, .agg [.int .i64 n1, .slice o2 l2 c2]] w) h)

/-! (*moraine/moraineref1.Disk).ReadAt: 36 -/
abbrev moraineref1_Disk_ReadAt.n : Nat := 36
def moraineref1_Disk_ReadAt.Vc (d0 : Addr) (s1 : ByteArray) (n2 : Int) (n3 : Int) (w : World) (R : Ending → World → Prop) : Prop :=
  Calls Tryz.prog 45 #[(.pointer (some d0)), (.string s1)] w (fun e4 w5 =>
    ∃ o6 : Option Addr, ∃ l7 : Nat, ∃ l8 : Nat, ∃ n9 : Int, e4 = .returned (.tuple #[(.slice o6 l7 l8), (.int .i64 n9)]) ∧
    (((n9 ≠ 0 →
      R (.returned (.tuple #[(.slice none 0 0), (.int .i64 n9)])) w5)) ∧
     ((n9 = 0 →
      (((n2 < 0 →
        R (.returned (.tuple #[(.slice none 0 0), (.int .i64 14)])) w5)) ∧
       ((¬ n2 < 0 →
        (((n3 < 0 →
          R (.returned (.tuple #[(.slice none 0 0), (.int .i64 14)])) w5)) ∧
         ((¬ n3 < 0 →
          (((n2 > ((l7 : Nat) : Int) →
            R (.returned (.tuple #[(.slice none 0 0), (.int .i64 14)])) w5)) ∧
           ((¬ n2 > ((l7 : Nat) : Int) →
            (((n3 > (IntKind.wrap .i64 (((l7 : Nat) : Int) - n2)) →
              R (.returned (.tuple #[(.slice none 0 0), (.int .i64 14)])) w5)) ∧
             ((¬ n3 > (IntKind.wrap .i64 (((l7 : Nat) : Int) - n2)) →
              ((0 : Int) ≤ (IntKind.wrap .i64 (n2 + n3)) ∧ (IntKind.wrap .i64 (n2 + n3)) ≤ ((l8 : Nat) : Int)) ∧
              ((0 : Int) ≤ n2 ∧ n2 ≤ (((Int.toNat (IntKind.wrap .i64 (n2 + n3))) : Nat) : Int)) ∧
              R (.returned (.tuple #[(.slice (subO o6 l8 (Int.toNat n2) 1) ((Int.toNat (IntKind.wrap .i64 (n2 + n3))) - (Int.toNat n2)) (l8 - (Int.toNat n2))), (.int .i64 0)])) w5))))))))))))))))
theorem moraineref1_Disk_ReadAt.vc (d0 : Addr) (s1 : ByteArray) (n2 : Int) (n3 : Int) (w : World) (R : Ending → World → Prop) (h : moraineref1_Disk_ReadAt.Vc d0 s1 n2 n3 w R) : Calls Tryz.prog 36 #[(.pointer (some d0)), (.string s1), (.int .i64 n2), (.int .i64 n3)] w R :=
  execF_sound (ann := []) (args := [.addr d0, .str s1, .int .i64 n2, .int .i64 n3]) Tryz.func36 mixed (Eq.mp (by kernel_rfl : moraineref1_Disk_ReadAt.Vc d0 s1 n2 n3 w R = execF (pA Tryz.prog R) Tryz.prog [] Tryz.f36 [.addr d0, .str s1, .int .i64 n2, .int .i64 n3] w) h)

/-! (*moraine/moraineref1.Disk).call: 57 -/
abbrev moraineref1_Disk_call.n : Nat := 57
def moraineref1_Disk_call.Vc (d0 : Addr) (w : World) (R : Ending → World → Prop) : Prop :=
  ∃ n1 : Int, World.cell? w (Addr.add d0 5) = some (.int .i64 n1) ∧
  CanSet w (Addr.add d0 5) (.int .i64 (IntKind.wrap .i64 (n1 + 1))) ∧ ∀ w2 : World, IsSet w (Addr.add d0 5) (.int .i64 (IntKind.wrap .i64 (n1 + 1))) w2 →
  ∃ (J3 : World → Prop), (∃ n4 : Int, World.cell? w2 (Addr.add d0 7) = some (.int .i64 n4) ∧
   (((n4 = 0 →
     CanSet w2 (Addr.add d0 8) (.bool true) ∧ ∀ w5 : World, IsSet w2 (Addr.add d0 8) (.bool true) w5 →
     J3  w5)) ∧
    ((n4 ≠ 0 →
     J3  w2)))) ∧
  (∀  (j6 : Nat → Value) (w6 : World), J3  w6 →
    ∃ (J7 : World → Prop), (∃ n8 : Int, World.cell? w6 (Addr.add d0 7) = some (.int .i64 n8) ∧
     (((n8 > 0 →
       ∃ n9 : Int, World.cell? w6 (Addr.add d0 7) = some (.int .i64 n9) ∧
       CanSet w6 (Addr.add d0 7) (.int .i64 (IntKind.wrap .i64 (n9 - 1))) ∧ ∀ w10 : World, IsSet w6 (Addr.add d0 7) (.int .i64 (IntKind.wrap .i64 (n9 - 1))) w10 →
       J7  w10)) ∧
      ((¬ n8 > 0 →
       J7  w6)))) ∧
    (∀  (j11 : Nat → Value) (w11 : World), J7  w11 →
      ∃ n12 : Int, World.cell? w11 (Addr.add d0 6) = some (.int .i64 n12) ∧
      (((n12 > 0 →
        ∃ n13 : Int, World.cell? w11 (Addr.add d0 6) = some (.int .i64 n13) ∧
        CanSet w11 (Addr.add d0 6) (.int .i64 (IntKind.wrap .i64 (n13 - 1))) ∧ ∀ w14 : World, IsSet w11 (Addr.add d0 6) (.int .i64 (IntKind.wrap .i64 (n13 - 1))) w14 →
        ∃ n15 : Int, World.cell? w14 (Addr.add d0 6) = some (.int .i64 n15) ∧
        (((n15 = 0 →
          ∃ b16 : Bool, World.cell? w14 (Addr.add d0 8) = some (.bool b16) ∧
          (((b16 = false →
            R (.returned (.int .i64 16)) w14)) ∧
           ((b16 = true →
            ∃ b17 : Bool, World.cell? w14 (Addr.add d0 8) = some (.bool b17) ∧
            (((b17 = true →
              R (.returned (.int .i64 17)) w14)) ∧
             ((b17 = false →
              R (.returned (.int .i64 0)) w14)))))))) ∧
         ((n15 ≠ 0 →
          ∃ b18 : Bool, World.cell? w14 (Addr.add d0 8) = some (.bool b18) ∧
          (((b18 = true →
            R (.returned (.int .i64 17)) w14)) ∧
           ((b18 = false →
            R (.returned (.int .i64 0)) w14)))))))) ∧
       ((¬ n12 > 0 →
        ∃ b19 : Bool, World.cell? w11 (Addr.add d0 8) = some (.bool b19) ∧
        (((b19 = true →
          R (.returned (.int .i64 17)) w11)) ∧
         ((b19 = false →
          R (.returned (.int .i64 0)) w11))))))))
theorem moraineref1_Disk_call.vc (d0 : Addr) (w : World) (R : Ending → World → Prop) (h : moraineref1_Disk_call.Vc d0 w R) : Calls Tryz.prog 57 #[(.pointer (some d0))] w R :=
  execF_sound (ann := [(1000004, []), (1000006, [])]) (args := [.addr d0]) Tryz.func57 mixed (Eq.mp (by kernel_rfl : moraineref1_Disk_call.Vc d0 w R = execF (pA Tryz.prog R) Tryz.prog [(1000004, []), (1000006, [])] Tryz.f57 [.addr d0] w) h)

/-! moraine/moraineref1.Name: 58 -/
abbrev moraineref1_Name.n : Nat := 58
def moraineref1_Name.Vc (s0 : ByteArray) (w : World) (R : Ending → World → Prop) : Prop :=
  ((((((ByteArray.size s0) : Nat) : Int) < 1 →
    R (.returned (.bool false)) w)) ∧
   ((¬ (((ByteArray.size s0) : Nat) : Int) < 1 →
    ((((((ByteArray.size s0) : Nat) : Int) > 64 →
      R (.returned (.bool false)) w)) ∧
     ((¬ (((ByteArray.size s0) : Nat) : Int) > 64 →
      ∃ (I1 : Int → World → Prop) (μ1 : Int → World → Nat), I1 0 w ∧
      (∀ (n2 : Int) (j3 : Nat → Value) (w3 : World), I1 n2 w3 →
        (((n2 < (((ByteArray.size s0) : Nat) : Int) →
          ((0 : Int) ≤ n2 ∧ n2 < (((ByteArray.size s0) : Nat) : Int)) ∧
          ((((strAt s0 (Int.toNat n2)) ≥ 97 →
            ((((strAt s0 (Int.toNat n2)) ≤ 122 →
              I1 (IntKind.wrap .i64 (n2 + 1)) w3 ∧ μ1 (IntKind.wrap .i64 (n2 + 1)) w3 < μ1 n2 w3)) ∧
             ((¬ (strAt s0 (Int.toNat n2)) ≤ 122 →
              ((((strAt s0 (Int.toNat n2)) ≥ 48 →
                ((((strAt s0 (Int.toNat n2)) ≤ 57 →
                  I1 (IntKind.wrap .i64 (n2 + 1)) w3 ∧ μ1 (IntKind.wrap .i64 (n2 + 1)) w3 < μ1 n2 w3)) ∧
                 ((¬ (strAt s0 (Int.toNat n2)) ≤ 57 →
                  ((((strAt s0 (Int.toNat n2)) = 46 →
                    I1 (IntKind.wrap .i64 (n2 + 1)) w3 ∧ μ1 (IntKind.wrap .i64 (n2 + 1)) w3 < μ1 n2 w3)) ∧
                   (((strAt s0 (Int.toNat n2)) ≠ 46 →
                    ((((strAt s0 (Int.toNat n2)) = 45 →
                      I1 (IntKind.wrap .i64 (n2 + 1)) w3 ∧ μ1 (IntKind.wrap .i64 (n2 + 1)) w3 < μ1 n2 w3)) ∧
                     (((strAt s0 (Int.toNat n2)) ≠ 45 →
                      ((((strAt s0 (Int.toNat n2)) ≠ 95 →
                        R (.returned (.bool false)) w3)) ∧
                       (((strAt s0 (Int.toNat n2)) = 95 →
                        I1 (IntKind.wrap .i64 (n2 + 1)) w3 ∧ μ1 (IntKind.wrap .i64 (n2 + 1)) w3 < μ1 n2 w3)))))))))))))) ∧
               ((¬ (strAt s0 (Int.toNat n2)) ≥ 48 →
                ((((strAt s0 (Int.toNat n2)) = 46 →
                  I1 (IntKind.wrap .i64 (n2 + 1)) w3 ∧ μ1 (IntKind.wrap .i64 (n2 + 1)) w3 < μ1 n2 w3)) ∧
                 (((strAt s0 (Int.toNat n2)) ≠ 46 →
                  ((((strAt s0 (Int.toNat n2)) = 45 →
                    I1 (IntKind.wrap .i64 (n2 + 1)) w3 ∧ μ1 (IntKind.wrap .i64 (n2 + 1)) w3 < μ1 n2 w3)) ∧
                   (((strAt s0 (Int.toNat n2)) ≠ 45 →
                    ((((strAt s0 (Int.toNat n2)) ≠ 95 →
                      R (.returned (.bool false)) w3)) ∧
                     (((strAt s0 (Int.toNat n2)) = 95 →
                      I1 (IntKind.wrap .i64 (n2 + 1)) w3 ∧ μ1 (IntKind.wrap .i64 (n2 + 1)) w3 < μ1 n2 w3))))))))))))))))) ∧
           ((¬ (strAt s0 (Int.toNat n2)) ≥ 97 →
            ((((strAt s0 (Int.toNat n2)) ≥ 48 →
              ((((strAt s0 (Int.toNat n2)) ≤ 57 →
                I1 (IntKind.wrap .i64 (n2 + 1)) w3 ∧ μ1 (IntKind.wrap .i64 (n2 + 1)) w3 < μ1 n2 w3)) ∧
               ((¬ (strAt s0 (Int.toNat n2)) ≤ 57 →
                ((((strAt s0 (Int.toNat n2)) = 46 →
                  I1 (IntKind.wrap .i64 (n2 + 1)) w3 ∧ μ1 (IntKind.wrap .i64 (n2 + 1)) w3 < μ1 n2 w3)) ∧
                 (((strAt s0 (Int.toNat n2)) ≠ 46 →
                  ((((strAt s0 (Int.toNat n2)) = 45 →
                    I1 (IntKind.wrap .i64 (n2 + 1)) w3 ∧ μ1 (IntKind.wrap .i64 (n2 + 1)) w3 < μ1 n2 w3)) ∧
                   (((strAt s0 (Int.toNat n2)) ≠ 45 →
                    ((((strAt s0 (Int.toNat n2)) ≠ 95 →
                      R (.returned (.bool false)) w3)) ∧
                     (((strAt s0 (Int.toNat n2)) = 95 →
                      I1 (IntKind.wrap .i64 (n2 + 1)) w3 ∧ μ1 (IntKind.wrap .i64 (n2 + 1)) w3 < μ1 n2 w3)))))))))))))) ∧
             ((¬ (strAt s0 (Int.toNat n2)) ≥ 48 →
              ((((strAt s0 (Int.toNat n2)) = 46 →
                I1 (IntKind.wrap .i64 (n2 + 1)) w3 ∧ μ1 (IntKind.wrap .i64 (n2 + 1)) w3 < μ1 n2 w3)) ∧
               (((strAt s0 (Int.toNat n2)) ≠ 46 →
                ((((strAt s0 (Int.toNat n2)) = 45 →
                  I1 (IntKind.wrap .i64 (n2 + 1)) w3 ∧ μ1 (IntKind.wrap .i64 (n2 + 1)) w3 < μ1 n2 w3)) ∧
                 (((strAt s0 (Int.toNat n2)) ≠ 45 →
                  ((((strAt s0 (Int.toNat n2)) ≠ 95 →
                    R (.returned (.bool false)) w3)) ∧
                   (((strAt s0 (Int.toNat n2)) = 95 →
                    I1 (IntKind.wrap .i64 (n2 + 1)) w3 ∧ μ1 (IntKind.wrap .i64 (n2 + 1)) w3 < μ1 n2 w3))))))))))))))))) ∧
         ((¬ n2 < (((ByteArray.size s0) : Nat) : Int) →
          R (.returned (.bool true)) w3))))))))))
theorem moraineref1_Name.vc (s0 : ByteArray) (w : World) (R : Ending → World → Prop) (h : moraineref1_Name.Vc s0 w R) : Calls Tryz.prog 58 #[(.string s0)] w R :=
  execF_sound (ann := [(4, [(3, .cell (.int .i64))])]) (args := [.str s0]) Tryz.func58 mixed (Eq.mp (by kernel_rfl : moraineref1_Name.Vc s0 w R = execF (pA Tryz.prog R) Tryz.prog [(4, [(3, .cell (.int .i64))])] Tryz.f58 [.str s0] w) h)

/-! moraine/moraineref1.find: 59 -/
abbrev moraineref1_find.n : Nat := 59
def moraineref1_find.Vc (o0 : Option Addr) (l0 : Nat) (c0 : Nat) (s1 : ByteArray) (w : World) (R : Ending → World → Prop) : Prop :=
  ∃ (I2 : Int → World → Prop) (μ2 : Int → World → Nat), I2 0 w ∧
  (∀ (n3 : Int) (j4 : Nat → Value) (w4 : World), I2 n3 w4 →
    (((n3 < ((l0 : Nat) : Int) →
      ∃ d5 : Addr, o0 = some d5 ∧
      ((0 : Int) ≤ n3 ∧ n3 < ((l0 : Nat) : Int)) ∧
      ∃ s6 : ByteArray, World.cell? w4 (Addr.add d5 ((Int.toNat n3) * 2)) = some (.string s6) ∧
      (((strB .eql s6 s1 = true →
        R (.returned (.int .i64 n3)) w4)) ∧
       ((strB .eql s6 s1 = false →
        I2 (IntKind.wrap .i64 (n3 + 1)) w4 ∧ μ2 (IntKind.wrap .i64 (n3 + 1)) w4 < μ2 n3 w4))))) ∧
     ((¬ n3 < ((l0 : Nat) : Int) →
      R (.returned (.int .i64 (-1))) w4))))
theorem moraineref1_find.vc (o0 : Option Addr) (l0 : Nat) (c0 : Nat) (s1 : ByteArray) (w : World) (R : Ending → World → Prop) (h : moraineref1_find.Vc o0 l0 c0 s1 w R) : Calls Tryz.prog 59 #[(.slice o0 l0 c0), (.string s1)] w R :=
  execF_sound (ann := [(2, [(5, .cell (.int .i64))])]) (args := [.slice o0 l0 c0, .str s1]) Tryz.func59 mixed (Eq.mp (by kernel_rfl : moraineref1_find.Vc o0 l0 c0 s1 w R = execF (pA Tryz.prog R) Tryz.prog [(2, [(5, .cell (.int .i64))])] Tryz.f59 [.slice o0 l0 c0, .str s1] w) h)

/-! (*moraine/moraineref1.Disk).asked: 60 -/
abbrev moraineref1_Disk_asked.n : Nat := 60
def moraineref1_Disk_asked.Vc (d0 : Addr) (s1 : ByteArray) (w : World) (R : Ending → World → Prop) : Prop :=
  Calls Tryz.prog 57 #[(.pointer (some d0))] w (fun e2 w3 =>
    ∃ n4 : Int, e2 = .returned (.int .i64 n4) ∧
    (((n4 ≠ 0 →
      R (.returned (.tuple #[(.pointer none), (.int .i64 n4)])) w3)) ∧
     ((n4 = 0 →
      Calls Tryz.prog 65 #[(.pointer (some d0)), (.string s1)] w3 (fun e5 w6 =>
        ∃ o7 : Option Addr, ∃ n8 : Int, e5 = .returned (.tuple #[(.pointer o7), (.int .i64 n8)]) ∧
        R (.returned (.tuple #[(.pointer o7), (.int .i64 n8)])) w6)))))
theorem moraineref1_Disk_asked.vc (d0 : Addr) (s1 : ByteArray) (w : World) (R : Ending → World → Prop) (h : moraineref1_Disk_asked.Vc d0 s1 w R) : Calls Tryz.prog 60 #[(.pointer (some d0)), (.string s1)] w R :=
  execF_sound (ann := []) (args := [.addr d0, .str s1]) Tryz.func60 mixed (Eq.mp (by kernel_rfl : moraineref1_Disk_asked.Vc d0 s1 w R = execF (pA Tryz.prog R) Tryz.prog [] Tryz.f60 [.addr d0, .str s1] w) h)

/-! (*moraine/moraineref1.Disk).write: 61 -/
abbrev moraineref1_Disk_write.n : Nat := 61
def moraineref1_Disk_write.Vc (d0 : Addr) (d1 : Addr) (n2 : Int) (o3 : Option Addr) (l3 : Nat) (c3 : Nat) (w : World) (R : Ending → World → Prop) : Prop :=
  ∃ o4 : Option Addr, ∃ l5 : Nat, ∃ l6 : Nat, World.cell? w (Addr.add d1 1) = some (.slice o4 l5 l6) ∧
  ∃ (J7 : World → Prop), (∀ w8 : World, IsDrew w w8 →
   ((((IntKind.wrap .i64 ((IntKind.wrap .i64 (n2 + ((l3 : Nat) : Int))) - ((l5 : Nat) : Int))) > 0 →
     ∃ n9 : Int, World.cell? w8 d0 = some (.int .i64 n9) ∧
     Calls Tryz.prog 42 #[(.pointer (some d0))] w8 (fun e10 w11 =>
       ∃ n12 : Int, e10 = .returned (.int .i64 n12) ∧
       World.cell? w11 d0 = some (.int .i64 n9) ∧
       ((((IntKind.wrap .i64 (n12 + (IntKind.wrap .i64 ((IntKind.wrap .i64 (n2 + ((l3 : Nat) : Int))) - ((l5 : Nat) : Int))))) > n9 →
         R (.returned (.int .i64 15)) w11)) ∧
        ((¬ (IntKind.wrap .i64 (n12 + (IntKind.wrap .i64 ((IntKind.wrap .i64 (n2 + ((l3 : Nat) : Int))) - ((l5 : Nat) : Int))))) > n9 →
         J7  w11)))))) ∧
    ((¬ (IntKind.wrap .i64 ((IntKind.wrap .i64 (n2 + ((l3 : Nat) : Int))) - ((l5 : Nat) : Int))) > 0 →
     J7  w8)))) ∧
  (∀  (j13 : Nat → Value) (w13 : World), J7  w13 →
    (((((l3 : Nat) : Int) = 0 →
      R (.returned (.int .i64 0)) w13)) ∧
     ((((l3 : Nat) : Int) ≠ 0 →
      ∃ o14 : Option Addr, ∃ l15 : Nat, ∃ l16 : Nat, World.cell? w13 (Addr.add d1 1) = some (.slice o14 l15 l16) ∧
      Calls Tryz.prog 68 #[(.slice o14 l15 l16), (.int .i64 n2), (.slice o3 l3 c3)] w13 (fun e17 w18 =>
        ∃ o19 : Option Addr, ∃ l20 : Nat, ∃ l21 : Nat, e17 = .returned (.slice o19 l20 l21) ∧
        CanSet w18 (Addr.add d1 1) (.slice o19 l20 l21) ∧ ∀ w22 : World, IsSet w18 (Addr.add d1 1) (.slice o19 l20 l21) w22 →
        ∀ w23 : World, IsDrew w22 w23 →
        ∃ o24 : Option Addr, ∃ l25 : Nat, ∃ l26 : Nat, World.cell? w23 (Addr.add d1 3) = some (.slice o24 l25 l26) ∧
        ∃ (v27 : Value) (w28 : World), Sem.run Tryz.prog (builtinV .append #[32, 32] 32 #[(.slice none 0 0), (.slice o3 l3 c3)]) w23 = .ok v27 w28 ∧
        ∃ o29 : Option Addr, ∃ l30 : Nat, ∃ l31 : Nat, v27 = (.slice o29 l30 l31) ∧
        World.cell? w28 (Addr.add d1 3) = some (.slice o24 l25 l26) ∧
        ∀ (d32 : Addr) (w33 : World), IsNew w28 113 #[(.int .i64 n2), (.slice o29 l30 l31), (.int .i64 0)] d32 w33 →
        World.cell? w33 (Addr.add d1 3) = some (.slice o24 l25 l26) ∧
        ∃ (v34 : Value) (w35 : World), Sem.run Tryz.prog (builtinV .append #[93, 93] 93 #[(.slice o24 l25 l26), (.slice (some d32) 1 1)]) w33 = .ok v34 w35 ∧
        ∃ o36 : Option Addr, ∃ l37 : Nat, ∃ l38 : Nat, v34 = (.slice o36 l37 l38) ∧
        CanSet w35 (Addr.add d1 3) (.slice o36 l37 l38) ∧ ∀ w39 : World, IsSet w35 (Addr.add d1 3) (.slice o36 l37 l38) w39 →
        R (.returned (.int .i64 0)) w39)))))
theorem moraineref1_Disk_write.vc (d0 : Addr) (d1 : Addr) (n2 : Int) (o3 : Option Addr) (l3 : Nat) (c3 : Nat) (w : World) (R : Ending → World → Prop) (h : moraineref1_Disk_write.Vc d0 d1 n2 o3 l3 c3 w R) : Calls Tryz.prog 61 #[(.pointer (some d0)), (.pointer (some d1)), (.int .i64 n2), (.slice o3 l3 c3)] w R :=
  execF_sound (ann := [(1000004, [])]) (args := [.addr d0, .addr d1, .int .i64 n2, .slice o3 l3 c3]) Tryz.func61 mixed (Eq.mp (by kernel_rfl : moraineref1_Disk_write.Vc d0 d1 n2 o3 l3 c3 w R = execF (pA Tryz.prog R) Tryz.prog [(1000004, [])] Tryz.f61 [.addr d0, .addr d1, .int .i64 n2, .slice o3 l3 c3] w) h)

/-! moraine/moraineref1.done: 49 -/
abbrev moraineref1_done.n : Nat := 49
def moraineref1_done.Vc (o0 : Option Addr) (l0 : Nat) (c0 : Nat) (s1 : ByteArray) (s2 : ByteArray) (o3 : Option Addr) (w : World) (R : Ending → World → Prop) : Prop :=
  ∀ (d4 : Addr) (w5 : World), IsNew w 90 #[(.string s1), (.string s2), (.pointer o3)] d4 w5 →
  ∃ o6 : Option Addr, World.cell? w5 (Addr.add d4 2) = some (.pointer o6) ∧
  (((o6 ≠ none →
    ∀ w7 : World, IsDrew w5 w7 →
    ∃ s8 : ByteArray, World.cell? w7 d4 = some (.string s8) ∧
    ∃ s9 : ByteArray, World.cell? w7 d4 = some (.string s9) ∧
    ∃ o10 : Option Addr, World.cell? w7 (Addr.add d4 2) = some (.pointer o10) ∧
    ((Calls Tryz.prog 67 #[(.slice o0 l0 c0), (.string s8)] w7 (fun e11 w12 =>
       ∃ o13 : Option Addr, ∃ l14 : Nat, ∃ l15 : Nat, e11 = .returned (.slice o13 l14 l15) ∧
       World.cell? w12 (Addr.add d4 2) = some (.pointer o10) ∧
       World.cell? w12 d4 = some (.string s9) ∧
       ∀ (d16 : Addr) (w17 : World), IsNew w12 92 #[(.string s9), (.pointer o10)] d16 w17 →
       ∃ (v18 : Value) (w19 : World), Sem.run Tryz.prog (builtinV .append #[51, 51] 51 #[(.slice o13 l14 l15), (.slice (some d16) 1 1)]) w17 = .ok v18 w19 ∧
       ∃ o20 : Option Addr, ∃ l21 : Nat, ∃ l22 : Nat, v18 = (.slice o20 l21 l22) ∧
       R (.returned (.slice o20 l21 l22)) w19)) ∧
     (∀ (d23 : Addr) (w24 : World), IsNew w7 92 #[(.string s9), (.pointer o10)] d23 w24 →
     World.cell? w24 d4 = some (.string s8) ∧
     Calls Tryz.prog 67 #[(.slice o0 l0 c0), (.string s8)] w24 (fun e25 w26 =>
       ∃ o27 : Option Addr, ∃ l28 : Nat, ∃ l29 : Nat, e25 = .returned (.slice o27 l28 l29) ∧
       ∃ (v30 : Value) (w31 : World), Sem.run Tryz.prog (builtinV .append #[51, 51] 51 #[(.slice o27 l28 l29), (.slice (some d23) 1 1)]) w26 = .ok v30 w31 ∧
       ∃ o32 : Option Addr, ∃ l33 : Nat, ∃ l34 : Nat, v30 = (.slice o32 l33 l34) ∧
       R (.returned (.slice o32 l33 l34)) w31))))) ∧
   ((o6 = none →
    ∃ s35 : ByteArray, World.cell? w5 d4 = some (.string s35) ∧
    Calls Tryz.prog 59 #[(.slice o0 l0 c0), (.string s35)] w5 (fun e36 w37 =>
      ∃ n38 : Int, e36 = .returned (.int .i64 n38) ∧
      (((n38 < 0 →
        R (.returned (.slice o0 l0 c0)) w37)) ∧
       ((¬ n38 < 0 →
        ∃ d39 : Addr, o0 = some d39 ∧
        ((0 : Int) ≤ n38 ∧ n38 < ((l0 : Nat) : Int)) ∧
        ∃ o40 : Option Addr, World.cell? w37 (Addr.add (Addr.add d39 ((Int.toNat n38) * 2)) 1) = some (.pointer o40) ∧
        ∃ s41 : ByteArray, World.cell? w37 d4 = some (.string s41) ∧
        Calls Tryz.prog 67 #[(.slice o0 l0 c0), (.string s41)] w37 (fun e42 w43 =>
          ∃ o44 : Option Addr, ∃ l45 : Nat, ∃ l46 : Nat, e42 = .returned (.slice o44 l45 l46) ∧
          ∃ s47 : ByteArray, World.cell? w43 (Addr.add d4 1) = some (.string s47) ∧
          (((strB .neq s47 ⟨#[]⟩ = true →
            ∀ w48 : World, IsDrew w43 w48 →
            ∃ s49 : ByteArray, World.cell? w48 (Addr.add d4 1) = some (.string s49) ∧
            ∃ s50 : ByteArray, World.cell? w48 (Addr.add d4 1) = some (.string s50) ∧
            ((Calls Tryz.prog 67 #[(.slice o44 l45 l46), (.string s49)] w48 (fun e51 w52 =>
               ∃ o53 : Option Addr, ∃ l54 : Nat, ∃ l55 : Nat, e51 = .returned (.slice o53 l54 l55) ∧
               World.cell? w52 (Addr.add d4 1) = some (.string s50) ∧
               ∀ (d56 : Addr) (w57 : World), IsNew w52 92 #[(.string s50), (.pointer o40)] d56 w57 →
               ∃ (v58 : Value) (w59 : World), Sem.run Tryz.prog (builtinV .append #[51, 51] 51 #[(.slice o53 l54 l55), (.slice (some d56) 1 1)]) w57 = .ok v58 w59 ∧
               ∃ o60 : Option Addr, ∃ l61 : Nat, ∃ l62 : Nat, v58 = (.slice o60 l61 l62) ∧
               R (.returned (.slice o60 l61 l62)) w59)) ∧
             (∀ (d63 : Addr) (w64 : World), IsNew w48 92 #[(.string s50), (.pointer o40)] d63 w64 →
             World.cell? w64 (Addr.add d4 1) = some (.string s49) ∧
             Calls Tryz.prog 67 #[(.slice o44 l45 l46), (.string s49)] w64 (fun e65 w66 =>
               ∃ o67 : Option Addr, ∃ l68 : Nat, ∃ l69 : Nat, e65 = .returned (.slice o67 l68 l69) ∧
               ∃ (v70 : Value) (w71 : World), Sem.run Tryz.prog (builtinV .append #[51, 51] 51 #[(.slice o67 l68 l69), (.slice (some d63) 1 1)]) w66 = .ok v70 w71 ∧
               ∃ o72 : Option Addr, ∃ l73 : Nat, ∃ l74 : Nat, v70 = (.slice o72 l73 l74) ∧
               R (.returned (.slice o72 l73 l74)) w71))))) ∧
           ((strB .neq s47 ⟨#[]⟩ = false →
            R (.returned (.slice o44 l45 l46)) w43)))))))))))
theorem moraineref1_done.vc (o0 : Option Addr) (l0 : Nat) (c0 : Nat) (s1 : ByteArray) (s2 : ByteArray) (o3 : Option Addr) (w : World) (R : Ending → World → Prop) (h : moraineref1_done.Vc o0 l0 c0 s1 s2 o3 w R) : Calls Tryz.prog 49 #[(.slice o0 l0 c0), (.agg #[(.string s1), (.string s2), (.pointer o3)])] w R :=
  execF_sound (ann := []) (args := [.slice o0 l0 c0, .agg [.str s1, .str s2, .ptr o3]]) Tryz.func49 mixed (Eq.mp (by kernel_rfl : moraineref1_done.Vc o0 l0 c0 s1 s2 o3 w R = execF (pA Tryz.prog R) Tryz.prog [] Tryz.f49 [.slice o0 l0 c0, .agg [.str s1, .str s2, .ptr o3]] w) h)

/-! moraine/moraineref1.survives: 50 -/
abbrev moraineref1_survives.n : Nat := 50
def moraineref1_survives.Vc (d0 : Addr) (n1 : Int) (w : World) (R : Ending → World → Prop) : Prop :=
  ∃ o2 : Option Addr, ∃ l3 : Nat, ∃ l4 : Nat, World.cell? w (Addr.add d0 2) = some (.slice o2 l3 l4) ∧
  ∃ (v5 : Value) (w6 : World), Sem.run Tryz.prog (builtinV .append #[32, 32] 32 #[(.slice none 0 0), (.slice o2 l3 l4)]) w = .ok v5 w6 ∧
  ∃ o7 : Option Addr, ∃ l8 : Nat, ∃ l9 : Nat, v5 = (.slice o7 l8 l9) ∧
  ∃ (I10 : Int → Option Addr → Nat → Nat → Int → World → Prop) (μ10 : Int → Option Addr → Nat → Nat → Int → World → Nat), I10 n1 o7 l8 l9 0 w6 ∧
  (∀ (n11 : Int) (o12 : Option Addr) (l12 : Nat) (c12 : Nat) (n13 : Int) (j14 : Nat → Value) (w14 : World), I10 n11 o12 l12 c12 n13 w14 →
    ∃ o15 : Option Addr, ∃ l16 : Nat, ∃ l17 : Nat, World.cell? w14 (Addr.add d0 3) = some (.slice o15 l16 l17) ∧
    (((n13 < ((l16 : Nat) : Int) →
      ∃ o18 : Option Addr, ∃ l19 : Nat, ∃ l20 : Nat, World.cell? w14 (Addr.add d0 3) = some (.slice o18 l19 l20) ∧
      ∃ d21 : Addr, o18 = some d21 ∧
      ((0 : Int) ≤ n13 ∧ n13 < ((l19 : Nat) : Int)) ∧
      ∃ n22 : Int, ∃ o23 : Option Addr, ∃ l24 : Nat, ∃ l25 : Nat, ∃ n26 : Int, World.cell? w14 (Addr.add d21 ((Int.toNat n13) * 3)) = some (.int .i64 n22) ∧
      World.cell? w14 (Addr.add (Addr.add d21 ((Int.toNat n13) * 3)) 1) = some (.slice o23 l24 l25) ∧
      World.cell? w14 (Addr.add (Addr.add d21 ((Int.toNat n13) * 3)) 2) = some (.int .i64 n26) ∧
      ∀ (d27 : Addr) (w28 : World), IsNew w14 113 #[(.int .i64 0), (.slice none 0 0), (.int .i64 0)] d27 w28 →
      CanSet w28 d27 (.int .i64 n22) ∧ ∀ w29 : World, IsSet w28 d27 (.int .i64 n22) w29 →
      CanSet w29 (Addr.add d27 1) (.slice o23 l24 l25) ∧ ∀ w30 : World, IsSet w29 (Addr.add d27 1) (.slice o23 l24 l25) w30 →
      CanSet w30 (Addr.add d27 2) (.int .i64 n26) ∧ ∀ w31 : World, IsSet w30 (Addr.add d27 2) (.int .i64 n26) w31 →
      ∃ n32 : Int, World.cell? w31 d27 = some (.int .i64 n32) ∧
      (((n32 < 0 →
        (((n11 < 1 →
          R (.returned (.slice o12 l12 c12)) w31)) ∧
         ((¬ n11 < 1 →
          ∃ n33 : Int, World.cell? w31 (Addr.add d27 2) = some (.int .i64 n33) ∧
          ((0 : Int) ≤ n33 ∧ n33 ≤ ((c12 : Nat) : Int)) ∧
          ∃ (v34 : Value) (w35 : World), Sem.run Tryz.prog (builtinV .append #[32, 32] 32 #[(.slice none 0 0), (.slice o12 (Int.toNat n33) c12)]) w31 = .ok v34 w35 ∧
          ∃ o36 : Option Addr, ∃ l37 : Nat, ∃ l38 : Nat, v34 = (.slice o36 l37 l38) ∧
          I10 (IntKind.wrap .i64 (n11 - 1)) o36 l37 l38 (IntKind.wrap .i64 (n13 + 1)) w35 ∧ μ10 (IntKind.wrap .i64 (n11 - 1)) o36 l37 l38 (IntKind.wrap .i64 (n13 + 1)) w35 < μ10 n11 o12 l12 c12 n13 w14))))) ∧
       ((¬ n32 < 0 →
        ∃ o39 : Option Addr, ∃ l40 : Nat, ∃ l41 : Nat, World.cell? w31 (Addr.add d27 1) = some (.slice o39 l40 l41) ∧
        ∀ w42 : World, IsDrew w31 w42 →
        ∃ n43 : Int, World.cell? w42 d27 = some (.int .i64 n43) ∧
        ∃ o44 : Option Addr, ∃ l45 : Nat, ∃ l46 : Nat, World.cell? w42 (Addr.add d27 1) = some (.slice o44 l45 l46) ∧
        ((0 : Int) ≤ (min ((l40 : Nat) : Int) n11) ∧ (min ((l40 : Nat) : Int) n11) ≤ ((l46 : Nat) : Int)) ∧
        Calls Tryz.prog 68 #[(.slice o12 l12 c12), (.int .i64 n43), (.slice o44 (Int.toNat (min ((l40 : Nat) : Int) n11)) l46)] w42 (fun e47 w48 =>
          ∃ o49 : Option Addr, ∃ l50 : Nat, ∃ l51 : Nat, e47 = .returned (.slice o49 l50 l51) ∧
          ∃ o52 : Option Addr, ∃ l53 : Nat, ∃ l54 : Nat, World.cell? w48 (Addr.add d27 1) = some (.slice o52 l53 l54) ∧
          ((((min ((l40 : Nat) : Int) n11) < ((l53 : Nat) : Int) →
            R (.returned (.slice o49 l50 l51)) w48)) ∧
           ((¬ (min ((l40 : Nat) : Int) n11) < ((l53 : Nat) : Int) →
            I10 (IntKind.wrap .i64 (n11 - (min ((l40 : Nat) : Int) n11))) o49 l50 l51 (IntKind.wrap .i64 (n13 + 1)) w48 ∧ μ10 (IntKind.wrap .i64 (n11 - (min ((l40 : Nat) : Int) n11))) o49 l50 l51 (IntKind.wrap .i64 (n13 + 1)) w48 < μ10 n11 o12 l12 c12 n13 w14))))))))) ∧
     ((¬ n13 < ((l16 : Nat) : Int) →
      R (.returned (.slice o12 l12 c12)) w14))))
theorem moraineref1_survives.vc (d0 : Addr) (n1 : Int) (w : World) (R : Ending → World → Prop) (h : moraineref1_survives.Vc d0 n1 w R) : Calls Tryz.prog 50 #[(.pointer (some d0)), (.int .i64 n1)] w R :=
  execF_sound (ann := [(3, [(1, .cell (.int .i64)), (5, .cell (.slice)), (6, .cell (.int .i64))])]) (args := [.addr d0, .int .i64 n1]) Tryz.func50 mixed (Eq.mp (by kernel_rfl : moraineref1_survives.Vc d0 n1 w R = execF (pA Tryz.prog R) Tryz.prog [(3, [(1, .cell (.int .i64)), (5, .cell (.slice)), (6, .cell (.int .i64))])] Tryz.f50 [.addr d0, .int .i64 n1] w) h)

/-! (*moraine/moraineref1.Disk).Read: 45 -/
abbrev moraineref1_Disk_Read.n : Nat := 45
def moraineref1_Disk_Read.Vc (d0 : Addr) (s1 : ByteArray) (w : World) (R : Ending → World → Prop) : Prop :=
  ∃ b2 : Bool, World.cell? w (Addr.add d0 8) = some (.bool b2) ∧
  (((b2 = true →
    R (.returned (.tuple #[(.slice none 0 0), (.int .i64 17)])) w)) ∧
   ((b2 = false →
    Calls Tryz.prog 65 #[(.pointer (some d0)), (.string s1)] w (fun e3 w4 =>
      ∃ o5 : Option Addr, ∃ n6 : Int, e3 = .returned (.tuple #[(.pointer o5), (.int .i64 n6)]) ∧
      (((n6 ≠ 0 →
        R (.returned (.tuple #[(.slice none 0 0), (.int .i64 n6)])) w4)) ∧
       ((n6 = 0 →
        ∃ d7 : Addr, o5 = some d7 ∧
        ∃ o8 : Option Addr, ∃ l9 : Nat, ∃ l10 : Nat, World.cell? w4 (Addr.add d7 1) = some (.slice o8 l9 l10) ∧
        R (.returned (.tuple #[(.slice o8 l9 l10), (.int .i64 0)])) w4)))))))
theorem moraineref1_Disk_Read.vc (d0 : Addr) (s1 : ByteArray) (w : World) (R : Ending → World → Prop) (h : moraineref1_Disk_Read.Vc d0 s1 w R) : Calls Tryz.prog 45 #[(.pointer (some d0)), (.string s1)] w R :=
  execF_sound (ann := []) (args := [.addr d0, .str s1]) Tryz.func45 mixed (Eq.mp (by kernel_rfl : moraineref1_Disk_Read.Vc d0 s1 w R = execF (pA Tryz.prog R) Tryz.prog [] Tryz.f45 [.addr d0, .str s1] w) h)

/-! (*moraine/moraineref1.Disk).file: 65 -/
abbrev moraineref1_Disk_file.n : Nat := 65
def moraineref1_Disk_file.Vc (d0 : Addr) (s1 : ByteArray) (w : World) (R : Ending → World → Prop) : Prop :=
  Calls Tryz.prog 58 #[(.string s1)] w (fun e2 w3 =>
    ∃ b4 : Bool, e2 = .returned (.bool b4) ∧
    (((b4 = false →
      R (.returned (.tuple #[(.pointer none), (.int .i64 11)])) w3)) ∧
     ((b4 = true →
      ∃ o5 : Option Addr, ∃ l6 : Nat, ∃ l7 : Nat, World.cell? w3 (Addr.add d0 1) = some (.slice o5 l6 l7) ∧
      Calls Tryz.prog 59 #[(.slice o5 l6 l7), (.string s1)] w3 (fun e8 w9 =>
        ∃ n10 : Int, e8 = .returned (.int .i64 n10) ∧
        (((n10 < 0 →
          R (.returned (.tuple #[(.pointer none), (.int .i64 13)])) w9)) ∧
         ((¬ n10 < 0 →
          ∃ o11 : Option Addr, ∃ l12 : Nat, ∃ l13 : Nat, World.cell? w9 (Addr.add d0 1) = some (.slice o11 l12 l13) ∧
          ∃ d14 : Addr, o11 = some d14 ∧
          ((0 : Int) ≤ n10 ∧ n10 < ((l12 : Nat) : Int)) ∧
          ∃ o15 : Option Addr, World.cell? w9 (Addr.add (Addr.add d14 ((Int.toNat n10) * 2)) 1) = some (.pointer o15) ∧
          R (.returned (.tuple #[(.pointer o15), (.int .i64 0)])) w9))))))))
theorem moraineref1_Disk_file.vc (d0 : Addr) (s1 : ByteArray) (w : World) (R : Ending → World → Prop) (h : moraineref1_Disk_file.Vc d0 s1 w R) : Calls Tryz.prog 65 #[(.pointer (some d0)), (.string s1)] w R :=
  execF_sound (ann := []) (args := [.addr d0, .str s1]) Tryz.func65 mixed (Eq.mp (by kernel_rfl : moraineref1_Disk_file.Vc d0 s1 w R = execF (pA Tryz.prog R) Tryz.prog [] Tryz.f65 [.addr d0, .str s1] w) h)

/-! (*moraine/moraineref1.Disk).Used: 42 -/
abbrev moraineref1_Disk_Used.n : Nat := 42
def moraineref1_Disk_Used.Vc (d0 : Addr) (w : World) (R : Ending → World → Prop) : Prop :=
  ∃ (I1 : Int → Int → World → Prop) (μ1 : Int → Int → World → Nat), I1 0 0 w ∧
  (∀ (n2 : Int) (n3 : Int) (j4 : Nat → Value) (w4 : World), I1 n2 n3 w4 →
    ∃ o5 : Option Addr, ∃ l6 : Nat, ∃ l7 : Nat, World.cell? w4 (Addr.add d0 1) = some (.slice o5 l6 l7) ∧
    (((n3 < ((l6 : Nat) : Int) →
      ∃ o8 : Option Addr, ∃ l9 : Nat, ∃ l10 : Nat, World.cell? w4 (Addr.add d0 1) = some (.slice o8 l9 l10) ∧
      ∃ d11 : Addr, o8 = some d11 ∧
      ((0 : Int) ≤ n3 ∧ n3 < ((l9 : Nat) : Int)) ∧
      ∃ o12 : Option Addr, World.cell? w4 (Addr.add (Addr.add d11 ((Int.toNat n3) * 2)) 1) = some (.pointer o12) ∧
      ∃ d13 : Addr, o12 = some d13 ∧
      ∃ o14 : Option Addr, ∃ l15 : Nat, ∃ l16 : Nat, World.cell? w4 (Addr.add d13 1) = some (.slice o14 l15 l16) ∧
      I1 (IntKind.wrap .i64 (n2 + ((l15 : Nat) : Int))) (IntKind.wrap .i64 (n3 + 1)) w4 ∧ μ1 (IntKind.wrap .i64 (n2 + ((l15 : Nat) : Int))) (IntKind.wrap .i64 (n3 + 1)) w4 < μ1 n2 n3 w4)) ∧
     ((¬ n3 < ((l6 : Nat) : Int) →
      R (.returned (.int .i64 n2)) w4))))
theorem moraineref1_Disk_Used.vc (d0 : Addr) (w : World) (R : Ending → World → Prop) (h : moraineref1_Disk_Used.Vc d0 w R) : Calls Tryz.prog 42 #[(.pointer (some d0))] w R :=
  execF_sound (ann := [(3, [(3, .cell (.int .i64)), (4, .cell (.int .i64))])]) (args := [.addr d0]) Tryz.func42 mixed (Eq.mp (by kernel_rfl : moraineref1_Disk_Used.Vc d0 w R = execF (pA Tryz.prog R) Tryz.prog [(3, [(3, .cell (.int .i64)), (4, .cell (.int .i64))])] Tryz.f42 [.addr d0] w) h)

/-! moraine/moraineref1.lay: 68 -/
abbrev moraineref1_lay.n : Nat := 68
def moraineref1_lay.Vc (o0 : Option Addr) (l0 : Nat) (c0 : Nat) (n1 : Int) (o2 : Option Addr) (l2 : Nat) (c2 : Nat) (w : World) (R : Ending → World → Prop) : Prop :=
  ∃ (v3 : Value) (w4 : World), Sem.run Tryz.prog (builtinV .append #[32, 32] 32 #[(.slice none 0 0), (.slice o0 l0 c0)]) w = .ok v3 w4 ∧
  ∃ o5 : Option Addr, ∃ l6 : Nat, ∃ l7 : Nat, v3 = (.slice o5 l6 l7) ∧
  ∃ (I8 : Option Addr → Nat → Nat → Int → World → Prop) (μ8 : Option Addr → Nat → Nat → Int → World → Nat), I8 o5 l6 l7 0 w4 ∧
  (∀ (o9 : Option Addr) (l9 : Nat) (c9 : Nat) (n10 : Int) (j11 : Nat → Value) (w11 : World), I8 o9 l9 c9 n10 w11 →
    (((n10 < ((l2 : Nat) : Int) →
      ((((IntKind.wrap .i64 (n1 + n10)) < ((l9 : Nat) : Int) →
        ∃ d12 : Addr, o2 = some d12 ∧
        ((0 : Int) ≤ n10 ∧ n10 < ((l2 : Nat) : Int)) ∧
        ∃ n13 : Int, World.cell? w11 (Addr.add d12 (Int.toNat n10)) = some (.int .u8 n13) ∧
        ∃ d14 : Addr, o9 = some d14 ∧
        ((0 : Int) ≤ (IntKind.wrap .i64 (n1 + n10)) ∧ (IntKind.wrap .i64 (n1 + n10)) < ((l9 : Nat) : Int)) ∧
        CanSet w11 (Addr.add d14 (Int.toNat (IntKind.wrap .i64 (n1 + n10)))) (.int .u8 n13) ∧ ∀ w15 : World, IsSet w11 (Addr.add d14 (Int.toNat (IntKind.wrap .i64 (n1 + n10)))) (.int .u8 n13) w15 →
        I8 o9 l9 c9 (IntKind.wrap .i64 (n10 + 1)) w15 ∧ μ8 o9 l9 c9 (IntKind.wrap .i64 (n10 + 1)) w15 < μ8 o9 l9 c9 n10 w11)) ∧
       ((¬ (IntKind.wrap .i64 (n1 + n10)) < ((l9 : Nat) : Int) →
        ∃ d16 : Addr, o2 = some d16 ∧
        ((0 : Int) ≤ n10 ∧ n10 < ((l2 : Nat) : Int)) ∧
        ∃ n17 : Int, World.cell? w11 (Addr.add d16 (Int.toNat n10)) = some (.int .u8 n17) ∧
        ∀ (d18 : Addr) (w19 : World), IsNew w11 5 #[(.int .u8 n17)] d18 w19 →
        ∃ (v20 : Value) (w21 : World), Sem.run Tryz.prog (builtinV .append #[32, 32] 32 #[(.slice o9 l9 c9), (.slice (some d18) 1 1)]) w19 = .ok v20 w21 ∧
        ∃ o22 : Option Addr, ∃ l23 : Nat, ∃ l24 : Nat, v20 = (.slice o22 l23 l24) ∧
        I8 o22 l23 l24 (IntKind.wrap .i64 (n10 + 1)) w21 ∧ μ8 o22 l23 l24 (IntKind.wrap .i64 (n10 + 1)) w21 < μ8 o9 l9 c9 n10 w11))))) ∧
     ((¬ n10 < ((l2 : Nat) : Int) →
      R (.returned (.slice o9 l9 c9)) w11))))
theorem moraineref1_lay.vc (o0 : Option Addr) (l0 : Nat) (c0 : Nat) (n1 : Int) (o2 : Option Addr) (l2 : Nat) (c2 : Nat) (w : World) (R : Ending → World → Prop) (h : moraineref1_lay.Vc o0 l0 c0 n1 o2 l2 c2 w R) : Calls Tryz.prog 68 #[(.slice o0 l0 c0), (.int .i64 n1), (.slice o2 l2 c2)] w R :=
  execF_sound (ann := [(3, [(7, .cell (.slice)), (8, .cell (.int .i64))])]) (args := [.slice o0 l0 c0, .int .i64 n1, .slice o2 l2 c2]) Tryz.func68 mixed (Eq.mp (by kernel_rfl : moraineref1_lay.Vc o0 l0 c0 n1 o2 l2 c2 w R = execF (pA Tryz.prog R) Tryz.prog [(3, [(7, .cell (.slice)), (8, .cell (.int .i64))])] Tryz.f68 [.slice o0 l0 c0, .int .i64 n1, .slice o2 l2 c2] w) h)

/-! moraine/moraineref1.without: 67 -/
abbrev moraineref1_without.n : Nat := 67
def moraineref1_without.Vc (o0 : Option Addr) (l0 : Nat) (c0 : Nat) (s1 : ByteArray) (w : World) (R : Ending → World → Prop) : Prop :=
  ∃ (I2 : Option Addr → Nat → Nat → Int → World → Prop) (μ2 : Option Addr → Nat → Nat → Int → World → Nat), I2 none 0 0 0 w ∧
  (∀ (o3 : Option Addr) (l3 : Nat) (c3 : Nat) (n4 : Int) (j5 : Nat → Value) (w5 : World), I2 o3 l3 c3 n4 w5 →
    (((n4 < ((l0 : Nat) : Int) →
      ∃ d6 : Addr, o0 = some d6 ∧
      ((0 : Int) ≤ n4 ∧ n4 < ((l0 : Nat) : Int)) ∧
      ∃ s7 : ByteArray, World.cell? w5 (Addr.add d6 ((Int.toNat n4) * 2)) = some (.string s7) ∧
      (((strB .neq s7 s1 = true →
        ∃ d8 : Addr, o0 = some d8 ∧
        ((0 : Int) ≤ n4 ∧ n4 < ((l0 : Nat) : Int)) ∧
        ∃ s9 : ByteArray, ∃ o10 : Option Addr, World.cell? w5 (Addr.add d8 ((Int.toNat n4) * 2)) = some (.string s9) ∧
        World.cell? w5 (Addr.add (Addr.add d8 ((Int.toNat n4) * 2)) 1) = some (.pointer o10) ∧
        ∀ (d11 : Addr) (w12 : World), IsNew w5 92 #[(.string s9), (.pointer o10)] d11 w12 →
        ∃ (v13 : Value) (w14 : World), Sem.run Tryz.prog (builtinV .append #[51, 51] 51 #[(.slice o3 l3 c3), (.slice (some d11) 1 1)]) w12 = .ok v13 w14 ∧
        ∃ o15 : Option Addr, ∃ l16 : Nat, ∃ l17 : Nat, v13 = (.slice o15 l16 l17) ∧
        I2 o15 l16 l17 (IntKind.wrap .i64 (n4 + 1)) w14 ∧ μ2 o15 l16 l17 (IntKind.wrap .i64 (n4 + 1)) w14 < μ2 o3 l3 c3 n4 w5)) ∧
       ((strB .neq s7 s1 = false →
        I2 o3 l3 c3 (IntKind.wrap .i64 (n4 + 1)) w5 ∧ μ2 o3 l3 c3 (IntKind.wrap .i64 (n4 + 1)) w5 < μ2 o3 l3 c3 n4 w5))))) ∧
     ((¬ n4 < ((l0 : Nat) : Int) →
      R (.returned (.slice o3 l3 c3)) w5))))
theorem moraineref1_without.vc (o0 : Option Addr) (l0 : Nat) (c0 : Nat) (s1 : ByteArray) (w : World) (R : Ending → World → Prop) (h : moraineref1_without.Vc o0 l0 c0 s1 w R) : Calls Tryz.prog 67 #[(.slice o0 l0 c0), (.string s1)] w R :=
  execF_sound (ann := [(3, [(5, .cell (.slice)), (6, .cell (.int .i64))])]) (args := [.slice o0 l0 c0, .str s1]) Tryz.func67 mixed (Eq.mp (by kernel_rfl : moraineref1_without.Vc o0 l0 c0 s1 w R = execF (pA Tryz.prog R) Tryz.prog [(3, [(5, .cell (.slice)), (6, .cell (.int .i64))])] Tryz.f67 [.slice o0 l0 c0, .str s1] w) h)

end Go.Proofs.YtkekehngillblaaGreat
end
