/- The verification conditions of some functions, printed by a program of ours (wip/PrintVc.lean). -/
/- Memory laws: blocks of cells, and which blocks a step changes. -/
/- Keccak in plain Lean: lanes as functions, the round, the permutation. -/
import Derived.Test.YtkekehngillblaaGreatXFun
import Derived.Test.YtkekehngillblaaGreatProg
import Derived.KernelRfl
import Derived.Deep.AppendSrc
import Derived.Laws.CopyRow
import Derived.Laws.AppendOwn
import Derived.Below
section
set_option linter.unusedVariables false
namespace Go.Proofs.YtkekehngillblaaGreat
open Go Go.Vcg
theorem mixed : Tryz.prog.follows .mixedOrders = true := by kernel_rfl
/-! moraine/morainelaw1.known: 5 -/
abbrev morainelaw1_known.n : Nat := 5
def morainelaw1_known.Vc  (w : World) (R : Ending → World → Prop) : Prop :=
  Calls Tryz.prog 7 #[(.int .i64 10)] w (fun e0 w1 =>
    ∃ o2 : Option Addr, ∃ n3 : Int, e0 = .returned (.tuple #[(.pointer o2), (.int .i64 n3)]) ∧
    (((o2 = none →
      R (.returned (.bool false)) w1)) ∧
     ((o2 ≠ none →
      (((n3 ≠ 0 →
        R (.returned (.bool false)) w1)) ∧
       ((n3 = 0 →
        Calls Tryz.prog 13 #[(.pointer o2), (.string ⟨#[97]⟩)] w1 (fun e4 w5 =>
          ∃ n6 : Int, e4 = .returned (.int .i64 n6) ∧
          (((n6 ≠ 0 →
            R (.returned (.bool false)) w5)) ∧
           ((n6 = 0 →
            Calls Tryz.prog 14 #[(.pointer o2)] w5 (fun e7 w8 =>
              ∃ n9 : Int, e7 = .returned (.int .i64 n9) ∧
              (((n9 ≠ 0 →
                R (.returned (.bool false)) w8)) ∧
               ((n9 = 0 →
                ∀ (d10 : Addr) (w11 : World), IsNew w8 5 #[(.int .u8 1), (.int .u8 2), (.int .u8 3)] d10 w11 →
                Calls Tryz.prog 15 #[(.pointer o2), (.string ⟨#[97]⟩), (.slice (some d10) 3 3)] w11 (fun e12 w13 =>
                  ∃ n14 : Int, e12 = .returned (.int .i64 n14) ∧
                  (((n14 ≠ 0 →
                    R (.returned (.bool false)) w13)) ∧
                   ((n14 = 0 →
                    ∀ (d15 : Addr) (w16 : World), IsNew w13 3 #[(.int .i64 2)] d15 w16 →
                    Calls Tryz.prog 11 #[(.pointer o2), (.agg #[(.int .i64 0), (.slice (some d15) 1 1)])] w16 (fun e17 w18 =>
                      e17 = .returned (.tuple #[]) ∧
                      Calls Tryz.prog 16 #[(.pointer o2), (.string ⟨#[97]⟩)] w18 (fun e19 w20 =>
                        ∃ o21 : Option Addr, ∃ l22 : Nat, ∃ l23 : Nat, ∃ n24 : Int, e19 = .returned (.tuple #[(.slice o21 l22 l23), (.int .i64 n24)]) ∧
                        (((n24 = 0 →
                          ∃ v25 : Value, Sem.run Tryz.prog (convert 32 9 (.slice o21 l22 l23)) w20 = .ok v25 w20 ∧
                          ∃ s26 : ByteArray, v25 = (.string s26) ∧
                          (((strB .eql s26 ⟨#[1, 2]⟩ = true →
                            ∃ (v27 : Value) (w28 : World), Sem.run Tryz.prog (Instr.makeSlice 32 (.int .i64 9) (.int .i64 9)) w20 = .ok v27 w28 ∧
                            ∃ o29 : Option Addr, ∃ l30 : Nat, ∃ l31 : Nat, v27 = (.slice o29 l30 l31) ∧
                            Calls Tryz.prog 15 #[(.pointer o2), (.string ⟨#[97]⟩), (.slice o29 l30 l31)] w28 (fun e32 w33 =>
                              ∃ n34 : Int, e32 = .returned (.int .i64 n34) ∧
                              R (.returned (.bool (decide (n34 = 15)))) w33))) ∧
                           ((strB .eql s26 ⟨#[1, 2]⟩ = false →
                            R (.returned (.bool false)) w20))))) ∧
                         ((n24 ≠ 0 →
                          R (.returned (.bool false)) w20))))))))))))))))))))))))
theorem morainelaw1_known.vc  (w : World) (R : Ending → World → Prop) (h : morainelaw1_known.Vc w R) : Calls Tryz.prog 5 #[] w R :=
  execF_sound (ann := []) (args := []) Tryz.func5 mixed (Eq.mp (by kernel_rfl : morainelaw1_known.Vc w R = execF (pA Tryz.prog R) Tryz.prog [] Tryz.f5 [] w) h)

/-! moraine/disk.New: 7 -/
abbrev disk_New.n : Nat := 7
def disk_New.Vc (n0 : Int) (w : World) (R : Ending → World → Prop) : Prop :=
  (((n0 < 0 →
    R (.returned (.tuple #[(.pointer none), (.int .i64 10)])) w)) ∧
   ((¬ n0 < 0 →
    (((n0 > 67108864 →
      R (.returned (.tuple #[(.pointer none), (.int .i64 10)])) w)) ∧
     ((¬ n0 > 67108864 →
      ∃ (v1 : Value) (w2 : World), Sem.run Tryz.prog (Instr.makeMap 47 none) w = .ok v1 w2 ∧
      ∃ m3 : Option Nat, v1 = (.map m3) ∧
      ∃ (v4 : Value) (w5 : World), Sem.run Tryz.prog (Instr.makeMap 47 none) w2 = .ok v4 w5 ∧
      ∃ m6 : Option Nat, v4 = (.map m6) ∧
      ∀ (d7 : Addr) (w8 : World), IsNew w5 50 (setsAt (setsAt (setsAt (setsAt #[(.int .i64 0), (.map none), (.map none), (.slice none 0 0), (.int .i64 0), (.int .i64 0), (.int .i64 0), (.int .i64 0), (.bool false)] 0 [(.int .i64 n0)]) 1 [(.map m3)]) 2 [(.map m6)]) 7 [(.int .i64 (-1))]) d7 w8 →
      R (.returned (.tuple #[(.pointer (some d7)), (.int .i64 0)])) w8))))))
theorem disk_New.vc (n0 : Int) (w : World) (R : Ending → World → Prop) (h : disk_New.Vc n0 w R) : Calls Tryz.prog 7 #[(.int .i64 n0)] w R :=
  execF_sound (ann := []) (args := [.int .i64 n0]) Tryz.func7 mixed (Eq.mp (by kernel_rfl : disk_New.Vc n0 w R = execF (pA Tryz.prog R) Tryz.prog [] Tryz.f7 [.int .i64 n0] w) h)

/-! (*moraine/disk.Disk).Create: 13 -/
abbrev disk_Disk_Create.n : Nat := 13
def disk_Disk_Create.Vc (d0 : Addr) (s1 : ByteArray) (w : World) (R : Ending → World → Prop) : Prop :=
  Calls Tryz.prog 51 #[(.pointer (some d0)), (.string s1), (.slice none 0 0)] w (fun e2 w3 =>
    ∃ o4 : Option Addr, ∃ n5 : Int, e2 = .returned (.tuple #[(.pointer o4), (.int .i64 n5)]) ∧
    (((n5 = 0 →
      R (.returned (.int .i64 12)) w3)) ∧
     ((n5 ≠ 0 →
      (((n5 ≠ 13 →
        R (.returned (.int .i64 n5)) w3)) ∧
       ((n5 = 13 →
        ∃ n6 : Int, World.cell? w3 (Addr.add d0 4) = some (.int .i64 n6) ∧
        (((n6 = 1048576 →
          R (.returned (.int .i64 15)) w3)) ∧
         ((n6 ≠ 1048576 →
          ∃ n7 : Int, World.cell? w3 (Addr.add d0 4) = some (.int .i64 n7) ∧
          ∀ (d8 : Addr) (w9 : World), IsNew w3 86 #[(.int .i64 n7), (.slice none 0 0), (.slice none 0 0), (.slice none 0 0)] d8 w9 →
          Calls Tryz.prog 52 #[(.pointer (some d0)), (.iface 101 (.agg #[(.string s1), (.pointer (some d8))]))] w9 (fun e10 w11 =>
            e10 = .returned (.tuple #[]) ∧
            ∃ n12 : Int, World.cell? w11 (Addr.add d0 4) = some (.int .i64 n12) ∧
            CanSet w11 (Addr.add d0 4) (.int .i64 (IntKind.wrap .i64 (n12 + 1))) ∧ ∀ w13 : World, IsSet w11 (Addr.add d0 4) (.int .i64 (IntKind.wrap .i64 (n12 + 1))) w13 →
            R (.returned (.int .i64 0)) w13)))))))))))
theorem disk_Disk_Create.vc (d0 : Addr) (s1 : ByteArray) (w : World) (R : Ending → World → Prop) (h : disk_Disk_Create.Vc d0 s1 w R) : Calls Tryz.prog 13 #[(.pointer (some d0)), (.string s1)] w R :=
  execF_sound (ann := []) (args := [.addr d0, .str s1]) Tryz.func13 mixed (Eq.mp (by kernel_rfl : disk_Disk_Create.Vc d0 s1 w R = execF (pA Tryz.prog R) Tryz.prog [] Tryz.f13 [.addr d0, .str s1] w) h)

/-! (*moraine/disk.Disk).Append: 15 -/
abbrev disk_Disk_Append.n : Nat := 15
def disk_Disk_Append.Vc (d0 : Addr) (s1 : ByteArray) (o2 : Option Addr) (l2 : Nat) (c2 : Nat) (w : World) (R : Ending → World → Prop) : Prop :=
  Calls Tryz.prog 51 #[(.pointer (some d0)), (.string s1), (.slice none 0 0)] w (fun e3 w4 =>
    ∃ o5 : Option Addr, ∃ n6 : Int, e3 = .returned (.tuple #[(.pointer o5), (.int .i64 n6)]) ∧
    (((n6 ≠ 0 →
      R (.returned (.int .i64 n6)) w4)) ∧
     ((n6 = 0 →
      ∃ d7 : Addr, o5 = some d7 ∧
      ∃ o8 : Option Addr, ∃ l9 : Nat, ∃ l10 : Nat, World.cell? w4 (Addr.add d7 1) = some (.slice o8 l9 l10) ∧
      Calls Tryz.prog 54 #[(.pointer (some d0)), (.pointer o5), (.int .i64 ((l9 : Nat) : Int)), (.slice o2 l2 c2)] w4 (fun e11 w12 =>
        ∃ n13 : Int, e11 = .returned (.int .i64 n13) ∧
        R (.returned (.int .i64 n13)) w12)))))
theorem disk_Disk_Append.vc (d0 : Addr) (s1 : ByteArray) (o2 : Option Addr) (l2 : Nat) (c2 : Nat) (w : World) (R : Ending → World → Prop) (h : disk_Disk_Append.Vc d0 s1 o2 l2 c2 w R) : Calls Tryz.prog 15 #[(.pointer (some d0)), (.string s1), (.slice o2 l2 c2)] w R :=
  execF_sound (ann := []) (args := [.addr d0, .str s1, .slice o2 l2 c2]) Tryz.func15 mixed (Eq.mp (by kernel_rfl : disk_Disk_Append.Vc d0 s1 o2 l2 c2 w R = execF (pA Tryz.prog R) Tryz.prog [] Tryz.f15 [.addr d0, .str s1, .slice o2 l2 c2] w) h)

/-! (*moraine/disk.Disk).Used: 41 -/
abbrev disk_Disk_Used.n : Nat := 41
def disk_Disk_Used.Vc (d0 : Addr) (w : World) (R : Ending → World → Prop) : Prop :=
  ∃ m1 : Option Nat, World.cell? w (Addr.add d0 1) = some (.map m1) ∧
  ∃ (v2 : Value) (w3 : World), Sem.run Tryz.prog (Instr.range 47 (.map m1)) w = .ok v2 w3 ∧
  ∃ (I4 : Int → World → Prop) (μ4 : Int → World → Nat), I4 0 w3 ∧
  (∀ (n5 : Int) (j6 : Nat → Value) (w6 : World), I4 n5 w6 →
    ∃ (v7 : Value) (w8 : World), Sem.run Tryz.prog (Instr.next v2 false 0) w6 = .ok v7 w8 ∧
    ∃ v9 : Value, Sem.run Tryz.prog (Instr.extract v7 0) w8 = .ok v9 w8 ∧
    ∃ b10 : Bool, v9 = (.bool b10) ∧
    (((b10 = true →
      ∃ (v11 : Value) (w12 : World), Sem.run Tryz.prog (Instr.entry v2) w8 = .ok v11 w12 ∧
      ∃ v13 : Value, Sem.run Tryz.prog (Instr.extract v11 1) w12 = .ok v13 w12 ∧
      ∃ o14 : Option Addr, v13 = (.pointer o14) ∧
      ∃ d15 : Addr, o14 = some d15 ∧
      ∃ o16 : Option Addr, ∃ l17 : Nat, ∃ l18 : Nat, World.cell? w12 (Addr.add d15 1) = some (.slice o16 l17 l18) ∧
      I4 (IntKind.wrap .i64 (n5 + ((l17 : Nat) : Int))) w12 ∧ μ4 (IntKind.wrap .i64 (n5 + ((l17 : Nat) : Int))) w12 < μ4 n5 w6)) ∧
     ((b10 = false →
      R (.returned (.int .i64 n5)) w8))))
theorem disk_Disk_Used.vc (d0 : Addr) (w : World) (R : Ending → World → Prop) (h : disk_Disk_Used.Vc d0 w R) : Calls Tryz.prog 41 #[(.pointer (some d0))] w R :=
  execF_sound (ann := [(3, [(3, .cell (.int .i64))])]) (args := [.addr d0]) Tryz.func41 mixed (Eq.mp (by kernel_rfl : disk_Disk_Used.Vc d0 w R = execF (pA Tryz.prog R) Tryz.prog [(3, [(3, .cell (.int .i64))])] Tryz.f41 [.addr d0] w) h)

/-! (*moraine/disk.Disk).Sync: 24 -/
abbrev disk_Disk_Sync.n : Nat := 24
def disk_Disk_Sync.Vc (d0 : Addr) (s1 : ByteArray) (w : World) (R : Ending → World → Prop) : Prop :=
  Calls Tryz.prog 51 #[(.pointer (some d0)), (.string s1), (.slice none 0 0)] w (fun e2 w3 =>
    ∃ o4 : Option Addr, ∃ n5 : Int, e2 = .returned (.tuple #[(.pointer o4), (.int .i64 n5)]) ∧
    (((n5 ≠ 0 →
      R (.returned (.int .i64 n5)) w3)) ∧
     ((n5 = 0 →
      Calls Tryz.prog 62 #[(.pointer o4)] w3 (fun e6 w7 =>
        e6 = .returned (.tuple #[]) ∧
        R (.returned (.int .i64 0)) w7)))))
theorem disk_Disk_Sync.vc (d0 : Addr) (s1 : ByteArray) (w : World) (R : Ending → World → Prop) (h : disk_Disk_Sync.Vc d0 s1 w R) : Calls Tryz.prog 24 #[(.pointer (some d0)), (.string s1)] w R :=
  execF_sound (ann := []) (args := [.addr d0, .str s1]) Tryz.func24 mixed (Eq.mp (by kernel_rfl : disk_Disk_Sync.Vc d0 s1 w R = execF (pA Tryz.prog R) Tryz.prog [] Tryz.f24 [.addr d0, .str s1] w) h)

/-! (*moraine/disk.Disk).SyncDir: 14 -/
abbrev disk_Disk_SyncDir.n : Nat := 14
def disk_Disk_SyncDir.Vc (d0 : Addr) (w : World) (R : Ending → World → Prop) : Prop :=
  Calls Tryz.prog 53 #[(.pointer (some d0))] w (fun e1 w2 =>
    ∃ n3 : Int, e1 = .returned (.int .i64 n3) ∧
    (((n3 ≠ 0 →
      R (.returned (.int .i64 n3)) w2)) ∧
     ((n3 = 0 →
      ∃ m4 : Option Nat, World.cell? w2 (Addr.add d0 1) = some (.map m4) ∧
      Calls Tryz.prog 47 #[(.map m4)] w2 (fun e5 w6 =>
        ∃ m7 : Option Nat, e5 = .returned (.map m7) ∧
        CanSet w6 (Addr.add d0 2) (.map m7) ∧ ∀ w8 : World, IsSet w6 (Addr.add d0 2) (.map m7) w8 →
        CanSet w8 (Addr.add d0 3) (.slice none 0 0) ∧ ∀ w9 : World, IsSet w8 (Addr.add d0 3) (.slice none 0 0) w9 →
        R (.returned (.int .i64 0)) w9)))))
theorem disk_Disk_SyncDir.vc (d0 : Addr) (w : World) (R : Ending → World → Prop) (h : disk_Disk_SyncDir.Vc d0 w R) : Calls Tryz.prog 14 #[(.pointer (some d0))] w R :=
  execF_sound (ann := []) (args := [.addr d0]) Tryz.func14 mixed (Eq.mp (by kernel_rfl : disk_Disk_SyncDir.Vc d0 w R = execF (pA Tryz.prog R) Tryz.prog [] Tryz.f14 [.addr d0] w) h)

/-! (*moraine/disk.Disk).Restart: 11 -/
abbrev disk_Disk_Restart.n : Nat := 11
def disk_Disk_Restart.Vc (d0 : Addr) (n1 : Int) (o2 : Option Addr) (l2 : Nat) (c2 : Nat) (w : World) (R : Ending → World → Prop) : Prop :=
  ∀ (d3 : Addr) (w4 : World), IsNew w 35 #[(.int .i64 n1), (.slice o2 l2 c2)] d3 w4 →
  ∃ m5 : Option Nat, World.cell? w4 (Addr.add d0 2) = some (.map m5) ∧
  Calls Tryz.prog 47 #[(.map m5)] w4 (fun e6 w7 =>
    ∃ m8 : Option Nat, e6 = .returned (.map m8) ∧
    ∀ w9 : World, IsDrew w7 w9 →
    ∃ o10 : Option Addr, ∃ l11 : Nat, ∃ l12 : Nat, World.cell? w9 (Addr.add d0 3) = some (.slice o10 l11 l12) ∧
    ∃ n13 : Int, World.cell? w9 d3 = some (.int .i64 n13) ∧
    ∃ o14 : Option Addr, ∃ l15 : Nat, ∃ l16 : Nat, World.cell? w9 (Addr.add d0 3) = some (.slice o14 l15 l16) ∧
    ((0 : Int) ≤ (min (max n13 0) ((l15 : Nat) : Int)) ∧ (min (max n13 0) ((l15 : Nat) : Int)) ≤ ((l12 : Nat) : Int)) ∧
    ∃ (I17 : Int → World → Prop) (μ17 : Int → World → Nat), I17 0 w9 ∧
    (∀ (n18 : Int) (j19 : Nat → Value) (w19 : World), I17 n18 w19 →
      (((n18 < (((Int.toNat (min (max n13 0) ((l15 : Nat) : Int))) : Nat) : Int) →
        ∃ d20 : Addr, o10 = some d20 ∧
        ((0 : Int) ≤ n18 ∧ n18 < (((Int.toNat (min (max n13 0) ((l15 : Nat) : Int))) : Nat) : Int)) ∧
        ∃ v21 : Value, World.cell? w19 (Addr.add d20 (Int.toNat n18)) = some v21 ∧
        CallsM Tryz.prog v21 "moraine/disk.on" #[(.map m8)] w19 (fun e22 w23 =>
          e22 = .returned (.tuple #[]) ∧
          I17 (IntKind.wrap .i64 (n18 + 1)) w23 ∧ μ17 (IntKind.wrap .i64 (n18 + 1)) w23 < μ17 n18 w19))) ∧
       ((¬ n18 < (((Int.toNat (min (max n13 0) ((l15 : Nat) : Int))) : Nat) : Int) →
        ∃ (v24 : Value) (w25 : World), Sem.run Tryz.prog (Instr.range 47 (.map m8)) w19 = .ok v24 w25 ∧
        ∃ (I26 : World → Prop) (μ26 : World → Nat), I26  w25 ∧
        (∀  (j27 : Nat → Value) (w27 : World), I26  w27 →
          ∃ (v28 : Value) (w29 : World), Sem.run Tryz.prog (Instr.next v24 false 0) w27 = .ok v28 w29 ∧
          ∃ v30 : Value, Sem.run Tryz.prog (Instr.extract v28 0) w29 = .ok v30 w29 ∧
          ∃ b31 : Bool, v30 = (.bool b31) ∧
          (((b31 = true →
            ∃ (v32 : Value) (w33 : World), Sem.run Tryz.prog (Instr.entry v24) w29 = .ok v32 w33 ∧
            ∃ v34 : Value, Sem.run Tryz.prog (Instr.extract v32 1) w33 = .ok v34 w33 ∧
            ∃ o35 : Option Addr, v34 = (.pointer o35) ∧
            ∀ w36 : World, IsDrew w33 w36 →
            ∃ d37 : Addr, o35 = some d37 ∧
            ∃ n38 : Int, World.cell? w36 d37 = some (.int .i64 n38) ∧
            ∃ o39 : Option Addr, ∃ l40 : Nat, ∃ l41 : Nat, World.cell? w36 (Addr.add d3 1) = some (.slice o39 l40 l41) ∧
            (((n38 < ((l40 : Nat) : Int) →
              ∀ w42 : World, IsDrew w36 w42 →
              ∃ o43 : Option Addr, ∃ l44 : Nat, ∃ l45 : Nat, World.cell? w42 (Addr.add d3 1) = some (.slice o43 l44 l45) ∧
              ∃ d46 : Addr, o35 = some d46 ∧
              ∃ n47 : Int, World.cell? w42 d46 = some (.int .i64 n47) ∧
              ∃ d48 : Addr, o43 = some d48 ∧
              ((0 : Int) ≤ n47 ∧ n47 < ((l44 : Nat) : Int)) ∧
              ∃ n49 : Int, World.cell? w42 (Addr.add d48 (Int.toNat n47)) = some (.int .i64 n49) ∧
              Calls Tryz.prog 48 #[(.pointer o35), (.int .i64 (max n49 0))] w42 (fun e50 w51 =>
                e50 = .returned (.tuple #[]) ∧
                I26  w51 ∧ μ26  w51 < μ26  w27))) ∧
             ((¬ n38 < ((l40 : Nat) : Int) →
              Calls Tryz.prog 48 #[(.pointer o35), (.int .i64 0)] w36 (fun e52 w53 =>
                e52 = .returned (.tuple #[]) ∧
                I26  w53 ∧ μ26  w53 < μ26  w27)))))) ∧
           ((b31 = false →
            Calls Tryz.prog 47 #[(.map m8)] w29 (fun e54 w55 =>
              ∃ m56 : Option Nat, e54 = .returned (.map m56) ∧
              CanSet w55 (Addr.add d0 1) (.map m8) ∧ ∀ w57 : World, IsSet w55 (Addr.add d0 1) (.map m8) w57 →
              CanSet w57 (Addr.add d0 2) (.map m56) ∧ ∀ w58 : World, IsSet w57 (Addr.add d0 2) (.map m56) w58 →
              CanSet w58 (Addr.add d0 3) (.slice none 0 0) ∧ ∀ w59 : World, IsSet w58 (Addr.add d0 3) (.slice none 0 0) w59 →
              CanSet w59 (Addr.add d0 6) (.int .i64 0) ∧ ∀ w60 : World, IsSet w59 (Addr.add d0 6) (.int .i64 0) w60 →
              CanSet w60 (Addr.add d0 7) (.int .i64 (-1)) ∧ ∀ w61 : World, IsSet w60 (Addr.add d0 7) (.int .i64 (-1)) w61 →
              CanSet w61 (Addr.add d0 8) (.bool false) ∧ ∀ w62 : World, IsSet w61 (Addr.add d0 8) (.bool false) w62 →
              R (.returned (.tuple #[])) w62))))))))))
theorem disk_Disk_Restart.vc (d0 : Addr) (n1 : Int) (o2 : Option Addr) (l2 : Nat) (c2 : Nat) (w : World) (R : Ending → World → Prop) (h : disk_Disk_Restart.Vc d0 n1 o2 l2 c2 w R) : Calls Tryz.prog 11 #[(.pointer (some d0)), (.agg #[(.int .i64 n1), (.slice o2 l2 c2)])] w R :=
  execF_sound (ann := [(3, [(30, .cell (.int .i64))]), (8, [])]) (args := [.addr d0, .agg [.int .i64 n1, .slice o2 l2 c2]]) Tryz.func11 mixed (Eq.mp (by kernel_rfl : disk_Disk_Restart.Vc d0 n1 o2 l2 c2 w R = execF (pA Tryz.prog R) Tryz.prog [(3, [(30, .cell (.int .i64))]), (8, [])] Tryz.f11 [.addr d0, .agg [.int .i64 n1, .slice o2 l2 c2]] w) h)

/-! (*moraine/disk.Disk).Read: 16 -/
abbrev disk_Disk_Read.n : Nat := 16
def disk_Disk_Read.Vc (d0 : Addr) (s1 : ByteArray) (w : World) (R : Ending → World → Prop) : Prop :=
  Calls Tryz.prog 55 #[(.pointer (some d0)), (.string s1)] w (fun e2 w3 =>
    ∃ o4 : Option Addr, ∃ n5 : Int, e2 = .returned (.tuple #[(.pointer o4), (.int .i64 n5)]) ∧
    (((n5 ≠ 0 →
      R (.returned (.tuple #[(.slice none 0 0), (.int .i64 n5)])) w3)) ∧
     ((n5 = 0 →
      ∃ d6 : Addr, o4 = some d6 ∧
      ∃ o7 : Option Addr, ∃ l8 : Nat, ∃ l9 : Nat, World.cell? w3 (Addr.add d6 1) = some (.slice o7 l8 l9) ∧
      Calls Tryz.prog 56 #[(.slice o7 l8 l9)] w3 (fun e10 w11 =>
        ∃ o12 : Option Addr, ∃ l13 : Nat, ∃ l14 : Nat, e10 = .returned (.slice o12 l13 l14) ∧
        R (.returned (.tuple #[(.slice o12 l13 l14), (.int .i64 0)])) w11)))))
theorem disk_Disk_Read.vc (d0 : Addr) (s1 : ByteArray) (w : World) (R : Ending → World → Prop) (h : disk_Disk_Read.Vc d0 s1 w R) : Calls Tryz.prog 16 #[(.pointer (some d0)), (.string s1)] w R :=
  execF_sound (ann := []) (args := [.addr d0, .str s1]) Tryz.func16 mixed (Eq.mp (by kernel_rfl : disk_Disk_Read.Vc d0 s1 w R = execF (pA Tryz.prog R) Tryz.prog [] Tryz.f16 [.addr d0, .str s1] w) h)

/-! moraine/morainehelp.Bytes: 37 -/
abbrev morainehelp_Bytes.n : Nat := 37
def morainehelp_Bytes.Vc (o0 : Option Addr) (l0 : Nat) (c0 : Nat) (o1 : Option Addr) (l1 : Nat) (c1 : Nat) (w : World) (R : Ending → World → Prop) : Prop :=
  ∃ v2 : Value, Sem.run Tryz.prog (convert 32 9 (.slice o0 l0 c0)) w = .ok v2 w ∧
  ∃ s3 : ByteArray, v2 = (.string s3) ∧
  ∃ v4 : Value, Sem.run Tryz.prog (convert 32 9 (.slice o1 l1 c1)) w = .ok v4 w ∧
  ∃ s5 : ByteArray, v4 = (.string s5) ∧
  R (.returned (.bool (strB .eql s3 s5))) w
theorem morainehelp_Bytes.vc (o0 : Option Addr) (l0 : Nat) (c0 : Nat) (o1 : Option Addr) (l1 : Nat) (c1 : Nat) (w : World) (R : Ending → World → Prop) (h : morainehelp_Bytes.Vc o0 l0 c0 o1 l1 c1 w R) : Calls Tryz.prog 37 #[(.slice o0 l0 c0), (.slice o1 l1 c1)] w R :=
  execF_sound (ann := []) (args := [.slice o0 l0 c0, .slice o1 l1 c1]) Tryz.func37 mixed (Eq.mp (by kernel_rfl : morainehelp_Bytes.Vc o0 l0 c0 o1 l1 c1 w R = execF (pA Tryz.prog R) Tryz.prog [] Tryz.f37 [.slice o0 l0 c0, .slice o1 l1 c1] w) h)

/-! (*moraine/disk.Disk).Rename: 26 -/
abbrev disk_Disk_Rename.n : Nat := 26
def disk_Disk_Rename.Vc (d0 : Addr) (s1 : ByteArray) (s2 : ByteArray) (w : World) (R : Ending → World → Prop) : Prop :=
  ∀ (d3 : Addr) (w4 : World), IsNew w 9 #[(.string s2)] d3 w4 →
  Calls Tryz.prog 51 #[(.pointer (some d0)), (.string s1), (.slice (some d3) 1 1)] w4 (fun e5 w6 =>
    ∃ o7 : Option Addr, ∃ n8 : Int, e5 = .returned (.tuple #[(.pointer o7), (.int .i64 n8)]) ∧
    (((n8 ≠ 0 →
      R (.returned (.int .i64 n8)) w6)) ∧
     ((n8 = 0 →
      (((strB .neq s1 s2 = true →
        Calls Tryz.prog 52 #[(.pointer (some d0)), (.iface 115 (.agg #[(.string s1), (.string s2)]))] w6 (fun e9 w10 =>
          e9 = .returned (.tuple #[]) ∧
          R (.returned (.int .i64 0)) w10))) ∧
       ((strB .neq s1 s2 = false →
        R (.returned (.int .i64 0)) w6)))))))
theorem disk_Disk_Rename.vc (d0 : Addr) (s1 : ByteArray) (s2 : ByteArray) (w : World) (R : Ending → World → Prop) (h : disk_Disk_Rename.Vc d0 s1 s2 w R) : Calls Tryz.prog 26 #[(.pointer (some d0)), (.string s1), (.string s2)] w R :=
  execF_sound (ann := []) (args := [.addr d0, .str s1, .str s2]) Tryz.func26 mixed (Eq.mp (by kernel_rfl : disk_Disk_Rename.Vc d0 s1 s2 w R = execF (pA Tryz.prog R) Tryz.prog [] Tryz.f26 [.addr d0, .str s1, .str s2] w) h)

/-! (*moraine/disk.Disk).Names: 38 -/
abbrev disk_Disk_Names.n : Nat := 38
def disk_Disk_Names.Vc (d0 : Addr) (w : World) (R : Ending → World → Prop) : Prop :=
  ∃ b1 : Bool, World.cell? w (Addr.add d0 8) = some (.bool b1) ∧
  (((b1 = true →
    R (.returned (.tuple #[(.slice none 0 0), (.int .i64 17)])) w)) ∧
   ((b1 = false →
    ∃ m2 : Option Nat, World.cell? w (Addr.add d0 1) = some (.map m2) ∧
    Calls Tryz.prog 64 #[(.map m2)] w (fun e3 w4 =>
      ∃ v5 : Value, e3 = .returned v5 ∧
      Calls Tryz.prog 63 #[v5] w4 (fun e6 w7 =>
        ∃ o8 : Option Addr, ∃ l9 : Nat, ∃ l10 : Nat, e6 = .returned (.slice o8 l9 l10) ∧
        R (.returned (.tuple #[(.slice o8 l9 l10), (.int .i64 0)])) w7)))))
theorem disk_Disk_Names.vc (d0 : Addr) (w : World) (R : Ending → World → Prop) (h : disk_Disk_Names.Vc d0 w R) : Calls Tryz.prog 38 #[(.pointer (some d0))] w R :=
  execF_sound (ann := []) (args := [.addr d0]) Tryz.func38 mixed (Eq.mp (by kernel_rfl : disk_Disk_Names.Vc d0 w R = execF (pA Tryz.prog R) Tryz.prog [] Tryz.f38 [.addr d0] w) h)

/-! (*moraine/disk.Disk).Fail: 31 -/
abbrev disk_Disk_Fail.n : Nat := 31
def disk_Disk_Fail.Vc (d0 : Addr) (n1 : Int) (w : World) (R : Ending → World → Prop) : Prop :=
  CanSet w (Addr.add d0 6) (.int .i64 (max n1 0)) ∧ ∀ w2 : World, IsSet w (Addr.add d0 6) (.int .i64 (max n1 0)) w2 →
  R (.returned (.tuple #[])) w2
theorem disk_Disk_Fail.vc (d0 : Addr) (n1 : Int) (w : World) (R : Ending → World → Prop) (h : disk_Disk_Fail.Vc d0 n1 w R) : Calls Tryz.prog 31 #[(.pointer (some d0)), (.int .i64 n1)] w R :=
  execF_sound (ann := []) (args := [.addr d0, .int .i64 n1]) Tryz.func31 mixed (Eq.mp (by kernel_rfl : disk_Disk_Fail.Vc d0 n1 w R = execF (pA Tryz.prog R) Tryz.prog [] Tryz.f31 [.addr d0, .int .i64 n1] w) h)

/-! (*moraine/disk.Disk).Halt: 33 -/
abbrev disk_Disk_Halt.n : Nat := 33
def disk_Disk_Halt.Vc (d0 : Addr) (n1 : Int) (w : World) (R : Ending → World → Prop) : Prop :=
  CanSet w (Addr.add d0 7) (.int .i64 (max n1 (-1))) ∧ ∀ w2 : World, IsSet w (Addr.add d0 7) (.int .i64 (max n1 (-1))) w2 →
  R (.returned (.tuple #[])) w2
theorem disk_Disk_Halt.vc (d0 : Addr) (n1 : Int) (w : World) (R : Ending → World → Prop) (h : disk_Disk_Halt.Vc d0 n1 w R) : Calls Tryz.prog 33 #[(.pointer (some d0)), (.int .i64 n1)] w R :=
  execF_sound (ann := []) (args := [.addr d0, .int .i64 n1]) Tryz.func33 mixed (Eq.mp (by kernel_rfl : disk_Disk_Halt.Vc d0 n1 w R = execF (pA Tryz.prog R) Tryz.prog [] Tryz.f33 [.addr d0, .int .i64 n1] w) h)

/-! moraine/morainehelp.Texts: 40 -/
abbrev morainehelp_Texts.n : Nat := 40
def morainehelp_Texts.Vc (o0 : Option Addr) (l0 : Nat) (c0 : Nat) (o1 : Option Addr) (l1 : Nat) (c1 : Nat) (w : World) (R : Ending → World → Prop) : Prop :=
  (((((l0 : Nat) : Int) ≠ ((l1 : Nat) : Int) →
    R (.returned (.bool false)) w)) ∧
   ((((l0 : Nat) : Int) = ((l1 : Nat) : Int) →
    ∃ (I2 : Int → World → Prop) (μ2 : Int → World → Nat), I2 0 w ∧
    (∀ (n3 : Int) (j4 : Nat → Value) (w4 : World), I2 n3 w4 →
      (((n3 < ((l0 : Nat) : Int) →
        ∀ w5 : World, IsDrew w4 w5 →
        ∃ d6 : Addr, o0 = some d6 ∧
        ((0 : Int) ≤ n3 ∧ n3 < ((l0 : Nat) : Int)) ∧
        ∃ s7 : ByteArray, World.cell? w5 (Addr.add d6 (Int.toNat n3)) = some (.string s7) ∧
        ∃ d8 : Addr, o1 = some d8 ∧
        ((0 : Int) ≤ n3 ∧ n3 < ((l1 : Nat) : Int)) ∧
        ∃ s9 : ByteArray, World.cell? w5 (Addr.add d8 (Int.toNat n3)) = some (.string s9) ∧
        (((strB .neq s7 s9 = true →
          R (.returned (.bool false)) w5)) ∧
         ((strB .neq s7 s9 = false →
          I2 (IntKind.wrap .i64 (n3 + 1)) w5 ∧ μ2 (IntKind.wrap .i64 (n3 + 1)) w5 < μ2 n3 w4))))) ∧
       ((¬ n3 < ((l0 : Nat) : Int) →
        R (.returned (.bool true)) w4)))))))
theorem morainehelp_Texts.vc (o0 : Option Addr) (l0 : Nat) (c0 : Nat) (o1 : Option Addr) (l1 : Nat) (c1 : Nat) (w : World) (R : Ending → World → Prop) (h : morainehelp_Texts.Vc o0 l0 c0 o1 l1 c1 w R) : Calls Tryz.prog 40 #[(.slice o0 l0 c0), (.slice o1 l1 c1)] w R :=
  execF_sound (ann := [(4, [(5, .cell (.int .i64))])]) (args := [.slice o0 l0 c0, .slice o1 l1 c1]) Tryz.func40 mixed (Eq.mp (by kernel_rfl : morainehelp_Texts.Vc o0 l0 c0 o1 l1 c1 w R = execF (pA Tryz.prog R) Tryz.prog [(4, [(5, .cell (.int .i64))])] Tryz.f40 [.slice o0 l0 c0, .slice o1 l1 c1] w) h)

/-! (*moraine/disk.Disk).changing: 51 -/
abbrev disk_Disk_changing.n : Nat := 51
def disk_Disk_changing.Vc (d0 : Addr) (s1 : ByteArray) (o2 : Option Addr) (l2 : Nat) (c2 : Nat) (w : World) (R : Ending → World → Prop) : Prop :=
  Calls Tryz.prog 53 #[(.pointer (some d0))] w (fun e3 w4 =>
    ∃ n5 : Int, e3 = .returned (.int .i64 n5) ∧
    (((n5 ≠ 0 →
      R (.returned (.tuple #[(.pointer none), (.int .i64 n5)])) w4)) ∧
     ((n5 = 0 →
      Calls Tryz.prog 69 #[(.pointer (some d0)), (.string s1), (.slice o2 l2 c2)] w4 (fun e6 w7 =>
        ∃ o8 : Option Addr, ∃ n9 : Int, e6 = .returned (.tuple #[(.pointer o8), (.int .i64 n9)]) ∧
        R (.returned (.tuple #[(.pointer o8), (.int .i64 n9)])) w7)))))
theorem disk_Disk_changing.vc (d0 : Addr) (s1 : ByteArray) (o2 : Option Addr) (l2 : Nat) (c2 : Nat) (w : World) (R : Ending → World → Prop) (h : disk_Disk_changing.Vc d0 s1 o2 l2 c2 w R) : Calls Tryz.prog 51 #[(.pointer (some d0)), (.string s1), (.slice o2 l2 c2)] w R :=
  execF_sound (ann := []) (args := [.addr d0, .str s1, .slice o2 l2 c2]) Tryz.func51 mixed (Eq.mp (by kernel_rfl : disk_Disk_changing.Vc d0 s1 o2 l2 c2 w R = execF (pA Tryz.prog R) Tryz.prog [] Tryz.f51 [.addr d0, .str s1, .slice o2 l2 c2] w) h)

/-! (*moraine/disk.Disk).does: 52 -/
abbrev disk_Disk_does.n : Nat := 52
def disk_Disk_does.Vc (d0 : Addr) (v1 : Value) (w : World) (R : Ending → World → Prop) : Prop :=
  ∀ w2 : World, IsDrew w w2 →
  ∃ m3 : Option Nat, World.cell? w2 (Addr.add d0 1) = some (.map m3) ∧
  OkM Tryz.prog v1 "moraine/disk.on" ∧
  CallsM Tryz.prog v1 "moraine/disk.on" #[(.map m3)] w2 (fun e4 w5 =>
    e4 = .returned (.tuple #[]) ∧
    ∃ o6 : Option Addr, ∃ l7 : Nat, ∃ l8 : Nat, World.cell? w5 (Addr.add d0 3) = some (.slice o6 l7 l8) ∧
    Value.oneCell' v1 = true ∧
    ∀ (d9 : Addr) (w10 : World), IsNew w5 82 #[v1] d9 w10 →
    ∃ (v11 : Value) (w12 : World), Sem.run Tryz.prog (builtinV .append #[48, 48] 48 #[(.slice o6 l7 l8), (.slice (some d9) 1 1)]) w10 = .ok v11 w12 ∧
    ∃ o13 : Option Addr, ∃ l14 : Nat, ∃ l15 : Nat, v11 = (.slice o13 l14 l15) ∧
    CanSet w12 (Addr.add d0 3) (.slice o13 l14 l15) ∧ ∀ w16 : World, IsSet w12 (Addr.add d0 3) (.slice o13 l14 l15) w16 →
    R (.returned (.tuple #[])) w16)
theorem disk_Disk_does.vc (d0 : Addr) (v1 : Value) (w : World) (R : Ending → World → Prop) (h : disk_Disk_does.Vc d0 v1 w R) : Calls Tryz.prog 52 #[(.pointer (some d0)), v1] w R :=
  execF_sound (ann := []) (args := [.addr d0, .raw v1]) Tryz.func52 mixed (Eq.mp (by kernel_rfl : disk_Disk_does.Vc d0 v1 w R = execF (pA Tryz.prog R) Tryz.prog [] Tryz.f52 [.addr d0, .raw v1] w) h)

/-! (*moraine/disk.Disk).write: 54 -/
abbrev disk_Disk_write.n : Nat := 54
def disk_Disk_write.Vc (d0 : Addr) (d1 : Addr) (n2 : Int) (o3 : Option Addr) (l3 : Nat) (c3 : Nat) (w : World) (R : Ending → World → Prop) : Prop :=
  ∃ o4 : Option Addr, ∃ l5 : Nat, ∃ l6 : Nat, World.cell? w (Addr.add d1 1) = some (.slice o4 l5 l6) ∧
  ∀ w7 : World, IsDrew w w7 →
  ((((IntKind.wrap .i64 ((IntKind.wrap .i64 (n2 + ((l3 : Nat) : Int))) - ((l5 : Nat) : Int))) > 0 →
    ∃ n8 : Int, World.cell? w7 d0 = some (.int .i64 n8) ∧
    Calls Tryz.prog 41 #[(.pointer (some d0))] w7 (fun e9 w10 =>
      ∃ n11 : Int, e9 = .returned (.int .i64 n11) ∧
      World.cell? w10 d0 = some (.int .i64 n8) ∧
      ((((IntKind.wrap .i64 ((IntKind.wrap .i64 (n2 + ((l3 : Nat) : Int))) - ((l5 : Nat) : Int))) > (IntKind.wrap .i64 (n8 - n11)) →
        R (.returned (.int .i64 15)) w10)) ∧
       ((¬ (IntKind.wrap .i64 ((IntKind.wrap .i64 (n2 + ((l3 : Nat) : Int))) - ((l5 : Nat) : Int))) > (IntKind.wrap .i64 (n8 - n11)) →
        (((((l3 : Nat) : Int) = 0 →
          R (.returned (.int .i64 0)) w10)) ∧
         ((((l3 : Nat) : Int) ≠ 0 →
          Calls Tryz.prog 56 #[(.slice o3 l3 c3)] w10 (fun e12 w13 =>
            ∃ o14 : Option Addr, ∃ l15 : Nat, ∃ l16 : Nat, e12 = .returned (.slice o14 l15 l16) ∧
            ∀ (d17 : Addr) (w18 : World), IsNew w13 129 #[(.int .i64 0), (.slice none 0 0)] d17 w18 →
            CanSet w18 d17 (.int .i64 n2) ∧ ∀ w19 : World, IsSet w18 d17 (.int .i64 n2) w19 →
            CanSet w19 (Addr.add d17 1) (.slice o14 l15 l16) ∧ ∀ w20 : World, IsSet w19 (Addr.add d17 1) (.slice o14 l15 l16) w20 →
            ∃ o21 : Option Addr, ∃ l22 : Nat, ∃ l23 : Nat, World.cell? w20 (Addr.add d1 1) = some (.slice o21 l22 l23) ∧
            Calls Tryz.prog 70 #[(.slice o21 l22 l23), (.int .i64 n2), (.slice o3 l3 c3)] w20 (fun e24 w25 =>
              ∃ o26 : Option Addr, ∃ l27 : Nat, ∃ l28 : Nat, e24 = .returned (.slice o26 l27 l28) ∧
              CanSet w25 (Addr.add d1 1) (.slice o26 l27 l28) ∧ ∀ w29 : World, IsSet w25 (Addr.add d1 1) (.slice o26 l27 l28) w29 →
              ∀ w30 : World, IsDrew w29 w30 →
              ∃ o31 : Option Addr, ∃ l32 : Nat, ∃ l33 : Nat, World.cell? w30 (Addr.add d1 3) = some (.slice o31 l32 l33) ∧
              ∃ n34 : Int, ∃ o35 : Option Addr, ∃ l36 : Nat, ∃ l37 : Nat, World.cell? w30 d17 = some (.int .i64 n34) ∧
              World.cell? w30 (Addr.add d17 1) = some (.slice o35 l36 l37) ∧
              ∀ (d38 : Addr) (w39 : World), IsNew w30 124 #[(.iface 129 (.agg #[(.int .i64 n34), (.slice o35 l36 l37)]))] d38 w39 →
              World.cell? w39 (Addr.add d1 3) = some (.slice o31 l32 l33) ∧
              ∃ (v40 : Value) (w41 : World), Sem.run Tryz.prog (builtinV .append #[84, 84] 84 #[(.slice o31 l32 l33), (.slice (some d38) 1 1)]) w39 = .ok v40 w41 ∧
              ∃ o42 : Option Addr, ∃ l43 : Nat, ∃ l44 : Nat, v40 = (.slice o42 l43 l44) ∧
              CanSet w41 (Addr.add d1 3) (.slice o42 l43 l44) ∧ ∀ w45 : World, IsSet w41 (Addr.add d1 3) (.slice o42 l43 l44) w45 →
              R (.returned (.int .i64 0)) w45))))))))))) ∧
   ((¬ (IntKind.wrap .i64 ((IntKind.wrap .i64 (n2 + ((l3 : Nat) : Int))) - ((l5 : Nat) : Int))) > 0 →
    (((((l3 : Nat) : Int) = 0 →
      R (.returned (.int .i64 0)) w7)) ∧
     ((((l3 : Nat) : Int) ≠ 0 →
      Calls Tryz.prog 56 #[(.slice o3 l3 c3)] w7 (fun e46 w47 =>
        ∃ o48 : Option Addr, ∃ l49 : Nat, ∃ l50 : Nat, e46 = .returned (.slice o48 l49 l50) ∧
        ∀ (d51 : Addr) (w52 : World), IsNew w47 129 #[(.int .i64 0), (.slice none 0 0)] d51 w52 →
        CanSet w52 d51 (.int .i64 n2) ∧ ∀ w53 : World, IsSet w52 d51 (.int .i64 n2) w53 →
        CanSet w53 (Addr.add d51 1) (.slice o48 l49 l50) ∧ ∀ w54 : World, IsSet w53 (Addr.add d51 1) (.slice o48 l49 l50) w54 →
        ∃ o55 : Option Addr, ∃ l56 : Nat, ∃ l57 : Nat, World.cell? w54 (Addr.add d1 1) = some (.slice o55 l56 l57) ∧
        Calls Tryz.prog 70 #[(.slice o55 l56 l57), (.int .i64 n2), (.slice o3 l3 c3)] w54 (fun e58 w59 =>
          ∃ o60 : Option Addr, ∃ l61 : Nat, ∃ l62 : Nat, e58 = .returned (.slice o60 l61 l62) ∧
          CanSet w59 (Addr.add d1 1) (.slice o60 l61 l62) ∧ ∀ w63 : World, IsSet w59 (Addr.add d1 1) (.slice o60 l61 l62) w63 →
          ∀ w64 : World, IsDrew w63 w64 →
          ∃ o65 : Option Addr, ∃ l66 : Nat, ∃ l67 : Nat, World.cell? w64 (Addr.add d1 3) = some (.slice o65 l66 l67) ∧
          ∃ n68 : Int, ∃ o69 : Option Addr, ∃ l70 : Nat, ∃ l71 : Nat, World.cell? w64 d51 = some (.int .i64 n68) ∧
          World.cell? w64 (Addr.add d51 1) = some (.slice o69 l70 l71) ∧
          ∀ (d72 : Addr) (w73 : World), IsNew w64 124 #[(.iface 129 (.agg #[(.int .i64 n68), (.slice o69 l70 l71)]))] d72 w73 →
          World.cell? w73 (Addr.add d1 3) = some (.slice o65 l66 l67) ∧
          ∃ (v74 : Value) (w75 : World), Sem.run Tryz.prog (builtinV .append #[84, 84] 84 #[(.slice o65 l66 l67), (.slice (some d72) 1 1)]) w73 = .ok v74 w75 ∧
          ∃ o76 : Option Addr, ∃ l77 : Nat, ∃ l78 : Nat, v74 = (.slice o76 l77 l78) ∧
          CanSet w75 (Addr.add d1 3) (.slice o76 l77 l78) ∧ ∀ w79 : World, IsSet w75 (Addr.add d1 3) (.slice o76 l77 l78) w79 →
          R (.returned (.int .i64 0)) w79))))))))
theorem disk_Disk_write.vc (d0 : Addr) (d1 : Addr) (n2 : Int) (o3 : Option Addr) (l3 : Nat) (c3 : Nat) (w : World) (R : Ending → World → Prop) (h : disk_Disk_write.Vc d0 d1 n2 o3 l3 c3 w R) : Calls Tryz.prog 54 #[(.pointer (some d0)), (.pointer (some d1)), (.int .i64 n2), (.slice o3 l3 c3)] w R :=
  execF_sound (ann := []) (args := [.addr d0, .addr d1, .int .i64 n2, .slice o3 l3 c3]) Tryz.func54 mixed (Eq.mp (by kernel_rfl : disk_Disk_write.Vc d0 d1 n2 o3 l3 c3 w R = execF (pA Tryz.prog R) Tryz.prog [] Tryz.f54 [.addr d0, .addr d1, .int .i64 n2, .slice o3 l3 c3] w) h)

/-! (*moraine/disk.file).settle: 62 -/
abbrev disk_file_settle.n : Nat := 62
def disk_file_settle.Vc (d0 : Addr) (w : World) (R : Ending → World → Prop) : Prop :=
  ∃ o1 : Option Addr, ∃ l2 : Nat, ∃ l3 : Nat, World.cell? w (Addr.add d0 3) = some (.slice o1 l2 l3) ∧
  (((((l2 : Nat) : Int) > 0 →
    ∃ o4 : Option Addr, ∃ l5 : Nat, ∃ l6 : Nat, World.cell? w (Addr.add d0 1) = some (.slice o4 l5 l6) ∧
    Calls Tryz.prog 56 #[(.slice o4 l5 l6)] w (fun e7 w8 =>
      ∃ o9 : Option Addr, ∃ l10 : Nat, ∃ l11 : Nat, e7 = .returned (.slice o9 l10 l11) ∧
      CanSet w8 (Addr.add d0 2) (.slice o9 l10 l11) ∧ ∀ w12 : World, IsSet w8 (Addr.add d0 2) (.slice o9 l10 l11) w12 →
      CanSet w12 (Addr.add d0 3) (.slice none 0 0) ∧ ∀ w13 : World, IsSet w12 (Addr.add d0 3) (.slice none 0 0) w13 →
      R (.returned (.tuple #[])) w13))) ∧
   ((¬ ((l2 : Nat) : Int) > 0 →
    R (.returned (.tuple #[])) w)))
theorem disk_file_settle.vc (d0 : Addr) (w : World) (R : Ending → World → Prop) (h : disk_file_settle.Vc d0 w R) : Calls Tryz.prog 62 #[(.pointer (some d0))] w R :=
  execF_sound (ann := []) (args := [.addr d0]) Tryz.func62 mixed (Eq.mp (by kernel_rfl : disk_file_settle.Vc d0 w R = execF (pA Tryz.prog R) Tryz.prog [] Tryz.f62 [.addr d0] w) h)

/-! (*moraine/disk.Disk).begins: 53 -/
abbrev disk_Disk_begins.n : Nat := 53
def disk_Disk_begins.Vc (d0 : Addr) (w : World) (R : Ending → World → Prop) : Prop :=
  ∃ n1 : Int, World.cell? w (Addr.add d0 5) = some (.int .i64 n1) ∧
  CanSet w (Addr.add d0 5) (.int .i64 (IntKind.wrap .i64 (n1 + 1))) ∧ ∀ w2 : World, IsSet w (Addr.add d0 5) (.int .i64 (IntKind.wrap .i64 (n1 + 1))) w2 →
  ∃ n3 : Int, World.cell? w2 (Addr.add d0 6) = some (.int .i64 n3) ∧
  ∃ n4 : Int, World.cell? w2 (Addr.add d0 6) = some (.int .i64 n4) ∧
  CanSet w2 (Addr.add d0 6) (.int .i64 (max (IntKind.wrap .i64 (n4 - 1)) 0)) ∧ ∀ w5 : World, IsSet w2 (Addr.add d0 6) (.int .i64 (max (IntKind.wrap .i64 (n4 - 1)) 0)) w5 →
  ∃ n6 : Int, World.cell? w5 (Addr.add d0 7) = some (.int .i64 n6) ∧
  (((n6 = 0 →
    CanSet w5 (Addr.add d0 8) (.bool true) ∧ ∀ w7 : World, IsSet w5 (Addr.add d0 8) (.bool true) w7 →
    R (.returned (.int .i64 17)) w7)) ∧
   ((n6 ≠ 0 →
    ∃ b8 : Bool, World.cell? w5 (Addr.add d0 8) = some (.bool b8) ∧
    (((b8 = true →
      R (.returned (.int .i64 17)) w5)) ∧
     ((b8 = false →
      (((n3 = 1 →
        ∃ n9 : Int, World.cell? w5 (Addr.add d0 7) = some (.int .i64 n9) ∧
        CanSet w5 (Addr.add d0 7) (.int .i64 (max (IntKind.wrap .i64 (n9 - 1)) (-1))) ∧ ∀ w10 : World, IsSet w5 (Addr.add d0 7) (.int .i64 (max (IntKind.wrap .i64 (n9 - 1)) (-1))) w10 →
        R (.returned (.int .i64 16)) w10)) ∧
       ((n3 ≠ 1 →
        ∃ n11 : Int, World.cell? w5 (Addr.add d0 7) = some (.int .i64 n11) ∧
        CanSet w5 (Addr.add d0 7) (.int .i64 (max (IntKind.wrap .i64 (n11 - 1)) (-1))) ∧ ∀ w12 : World, IsSet w5 (Addr.add d0 7) (.int .i64 (max (IntKind.wrap .i64 (n11 - 1)) (-1))) w12 →
        R (.returned (.int .i64 0)) w12)))))))))
theorem disk_Disk_begins.vc (d0 : Addr) (w : World) (R : Ending → World → Prop) (h : disk_Disk_begins.Vc d0 w R) : Calls Tryz.prog 53 #[(.pointer (some d0))] w R :=
  execF_sound (ann := []) (args := [.addr d0]) Tryz.func53 mixed (Eq.mp (by kernel_rfl : disk_Disk_begins.Vc d0 w R = execF (pA Tryz.prog R) Tryz.prog [] Tryz.f53 [.addr d0] w) h)

/-! maps.Clone[moraine/disk.naming,string,*moraine/disk.file]: 47 -/
abbrev maps_Clone_disk_naming_string_disk_file.n : Nat := 47
def maps_Clone_disk_naming_string_disk_file.Vc (m0 : Option Nat) (w : World) (R : Ending → World → Prop) : Prop :=
  (((m0 = none →
    R (.returned (.map none)) w)) ∧
   ((m0 ≠ none →
    ∃ (v1 : Value) (w2 : World), Sem.run Tryz.prog (callFunc 66 #[(.iface 47 (.map m0))]) w = .ok (.value v1) w2 ∧
    ∃ v3 : Value, v1 = v3 ∧
    ∃ v4 : Value, Sem.run Tryz.prog (Instr.typeAssert v3 20 47 false) w2 = .ok v4 w2 ∧
    ∃ m5 : Option Nat, v4 = (.map m5) ∧
    R (.returned (.map m5)) w2)))
theorem maps_Clone_disk_naming_string_disk_file.vc (m0 : Option Nat) (w : World) (R : Ending → World → Prop) (h : maps_Clone_disk_naming_string_disk_file.Vc m0 w R) : Calls Tryz.prog 47 #[(.map m0)] w R :=
  execF_sound (ann := []) (args := [.map m0]) Tryz.func47 mixed (Eq.mp (by kernel_rfl : maps_Clone_disk_naming_string_disk_file.Vc m0 w R = execF (pA Tryz.prog R) Tryz.prog [] Tryz.f47 [.map m0] w) h)

/-! (*moraine/disk.file).survives: 48 -/
abbrev disk_file_survives.n : Nat := 48
def disk_file_survives.Vc (d0 : Addr) (n1 : Int) (w : World) (R : Ending → World → Prop) : Prop :=
  ∃ o2 : Option Addr, ∃ l3 : Nat, ∃ l4 : Nat, World.cell? w (Addr.add d0 2) = some (.slice o2 l3 l4) ∧
  Calls Tryz.prog 56 #[(.slice o2 l3 l4)] w (fun e5 w6 =>
    ∃ o7 : Option Addr, ∃ l8 : Nat, ∃ l9 : Nat, e5 = .returned (.slice o7 l8 l9) ∧
    ∃ o10 : Option Addr, ∃ l11 : Nat, ∃ l12 : Nat, World.cell? w6 (Addr.add d0 3) = some (.slice o10 l11 l12) ∧
    ∃ (I13 : Int → Option Addr → Nat → Nat → Int → World → Prop) (μ13 : Int → Option Addr → Nat → Nat → Int → World → Nat), I13 n1 o7 l8 l9 0 w6 ∧
    (∀ (n14 : Int) (o15 : Option Addr) (l15 : Nat) (c15 : Nat) (n16 : Int) (j17 : Nat → Value) (w17 : World), I13 n14 o15 l15 c15 n16 w17 →
      (((n16 < ((l11 : Nat) : Int) →
        ∃ d18 : Addr, o10 = some d18 ∧
        ((0 : Int) ≤ n16 ∧ n16 < ((l11 : Nat) : Int)) ∧
        ∃ v19 : Value, World.cell? w17 (Addr.add d18 (Int.toNat n16)) = some v19 ∧
        CallsM Tryz.prog v19 "moraine/disk.on" #[(.slice o15 l15 c15), (.int .i64 n14)] w17 (fun e20 w21 =>
          ∃ o22 : Option Addr, ∃ l23 : Nat, ∃ l24 : Nat, ∃ n25 : Int, e20 = .returned (.tuple #[(.slice o22 l23 l24), (.int .i64 n25)]) ∧
          (((n25 < 0 →
            CanSet w21 (Addr.add d0 1) (.slice o22 l23 l24) ∧ ∀ w26 : World, IsSet w21 (Addr.add d0 1) (.slice o22 l23 l24) w26 →
            CanSet w26 (Addr.add d0 3) (.slice none 0 0) ∧ ∀ w27 : World, IsSet w26 (Addr.add d0 3) (.slice none 0 0) w27 →
            Calls Tryz.prog 56 #[(.slice o22 l23 l24)] w27 (fun e28 w29 =>
              ∃ o30 : Option Addr, ∃ l31 : Nat, ∃ l32 : Nat, e28 = .returned (.slice o30 l31 l32) ∧
              CanSet w29 (Addr.add d0 2) (.slice o30 l31 l32) ∧ ∀ w33 : World, IsSet w29 (Addr.add d0 2) (.slice o30 l31 l32) w33 →
              R (.returned (.tuple #[])) w33))) ∧
           ((¬ n25 < 0 →
            I13 n25 o22 l23 l24 (IntKind.wrap .i64 (n16 + 1)) w21 ∧ μ13 n25 o22 l23 l24 (IntKind.wrap .i64 (n16 + 1)) w21 < μ13 n14 o15 l15 c15 n16 w17)))))) ∧
       ((¬ n16 < ((l11 : Nat) : Int) →
        CanSet w17 (Addr.add d0 1) (.slice o15 l15 c15) ∧ ∀ w34 : World, IsSet w17 (Addr.add d0 1) (.slice o15 l15 c15) w34 →
        CanSet w34 (Addr.add d0 3) (.slice none 0 0) ∧ ∀ w35 : World, IsSet w34 (Addr.add d0 3) (.slice none 0 0) w35 →
        Calls Tryz.prog 56 #[(.slice o15 l15 c15)] w35 (fun e36 w37 =>
          ∃ o38 : Option Addr, ∃ l39 : Nat, ∃ l40 : Nat, e36 = .returned (.slice o38 l39 l40) ∧
          CanSet w37 (Addr.add d0 2) (.slice o38 l39 l40) ∧ ∀ w41 : World, IsSet w37 (Addr.add d0 2) (.slice o38 l39 l40) w41 →
          R (.returned (.tuple #[])) w41))))))
theorem disk_file_survives.vc (d0 : Addr) (n1 : Int) (w : World) (R : Ending → World → Prop) (h : disk_file_survives.Vc d0 n1 w R) : Calls Tryz.prog 48 #[(.pointer (some d0)), (.int .i64 n1)] w R :=
  execF_sound (ann := [(2, [(1, .cell (.int .i64)), (4, .cell (.slice)), (17, .cell (.int .i64))])]) (args := [.addr d0, .int .i64 n1]) Tryz.func48 mixed (Eq.mp (by kernel_rfl : disk_file_survives.Vc d0 n1 w R = execF (pA Tryz.prog R) Tryz.prog [(2, [(1, .cell (.int .i64)), (4, .cell (.slice)), (17, .cell (.int .i64))])] Tryz.f48 [.addr d0, .int .i64 n1] w) h)

/-! (*moraine/disk.Disk).asked: 55 -/
abbrev disk_Disk_asked.n : Nat := 55
def disk_Disk_asked.Vc (d0 : Addr) (s1 : ByteArray) (w : World) (R : Ending → World → Prop) : Prop :=
  ∃ b2 : Bool, World.cell? w (Addr.add d0 8) = some (.bool b2) ∧
  (((b2 = true →
    R (.returned (.tuple #[(.pointer none), (.int .i64 17)])) w)) ∧
   ((b2 = false →
    Calls Tryz.prog 69 #[(.pointer (some d0)), (.string s1), (.slice none 0 0)] w (fun e3 w4 =>
      ∃ o5 : Option Addr, ∃ n6 : Int, e3 = .returned (.tuple #[(.pointer o5), (.int .i64 n6)]) ∧
      R (.returned (.tuple #[(.pointer o5), (.int .i64 n6)])) w4))))
theorem disk_Disk_asked.vc (d0 : Addr) (s1 : ByteArray) (w : World) (R : Ending → World → Prop) (h : disk_Disk_asked.Vc d0 s1 w R) : Calls Tryz.prog 55 #[(.pointer (some d0)), (.string s1)] w R :=
  execF_sound (ann := []) (args := [.addr d0, .str s1]) Tryz.func55 mixed (Eq.mp (by kernel_rfl : disk_Disk_asked.Vc d0 s1 w R = execF (pA Tryz.prog R) Tryz.prog [] Tryz.f55 [.addr d0, .str s1] w) h)

/-! slices.Clone[[]byte,byte]: 56 -/
abbrev slices_Clone_byte_byte.n : Nat := 56
def slices_Clone_byte_byte.Vc (o0 : Option Addr) (l0 : Nat) (c0 : Nat) (w : World) (R : Ending → World → Prop) : Prop :=
  (((o0 = none →
    R (.returned (.slice none 0 0)) w)) ∧
   ((o0 ≠ none →
    ∀ (d1 : Addr) (w2 : World), IsNew w 5 #[] d1 w2 →
    ∃ (v3 : Value) (w4 : World), Sem.run Tryz.prog (builtinV .append #[32, 32] 32 #[(.slice (some d1) 0 0), (.slice o0 l0 c0)]) w2 = .ok v3 w4 ∧
    ∃ o5 : Option Addr, ∃ l6 : Nat, ∃ l7 : Nat, v3 = (.slice o5 l6 l7) ∧
    R (.returned (.slice o5 l6 l7)) w4)))
theorem slices_Clone_byte_byte.vc (o0 : Option Addr) (l0 : Nat) (c0 : Nat) (w : World) (R : Ending → World → Prop) (h : slices_Clone_byte_byte.Vc o0 l0 c0 w R) : Calls Tryz.prog 56 #[(.slice o0 l0 c0)] w R :=
  execF_sound (ann := []) (args := [.slice o0 l0 c0]) Tryz.func56 mixed (Eq.mp (by kernel_rfl : slices_Clone_byte_byte.Vc o0 l0 c0 w R = execF (pA Tryz.prog R) Tryz.prog [] Tryz.f56 [.slice o0 l0 c0] w) h)

/-! maps.Keys[moraine/disk.naming,string,*moraine/disk.file]: 64 -/
abbrev maps_Keys_disk_naming_string_disk_file.n : Nat := 64
def maps_Keys_disk_naming_string_disk_file.Vc (m0 : Option Nat) (w : World) (R : Ending → World → Prop) : Prop :=
  ∀ (d1 : Addr) (w2 : World), IsNew w 47 #[(.map m0)] d1 w2 →
  R (.returned (.func (.func 73) #[] #[(.pointer (some d1))])) w2
theorem maps_Keys_disk_naming_string_disk_file.vc (m0 : Option Nat) (w : World) (R : Ending → World → Prop) (h : maps_Keys_disk_naming_string_disk_file.Vc m0 w R) : Calls Tryz.prog 64 #[(.map m0)] w R :=
  execF_sound (ann := []) (args := [.map m0]) Tryz.func64 mixed (Eq.mp (by kernel_rfl : maps_Keys_disk_naming_string_disk_file.Vc m0 w R = execF (pA Tryz.prog R) Tryz.prog [] Tryz.f64 [.map m0] w) h)

/-! moraine/morainehelp.Spoil: 19 -/
abbrev morainehelp_Spoil.n : Nat := 19
def morainehelp_Spoil.Vc (o0 : Option Addr) (l0 : Nat) (c0 : Nat) (w : World) (R : Ending → World → Prop) : Prop :=
  ∃ (I1 : Int → World → Prop) (μ1 : Int → World → Nat), I1 0 w ∧
  (∀ (n2 : Int) (j3 : Nat → Value) (w3 : World), I1 n2 w3 →
    (((n2 < ((l0 : Nat) : Int) →
      ∃ d4 : Addr, o0 = some d4 ∧
      ((0 : Int) ≤ n2 ∧ n2 < ((l0 : Nat) : Int)) ∧
      CanSet w3 (Addr.add d4 (Int.toNat n2)) (.int .u8 238) ∧ ∀ w5 : World, IsSet w3 (Addr.add d4 (Int.toNat n2)) (.int .u8 238) w5 →
      I1 (IntKind.wrap .i64 (n2 + 1)) w5 ∧ μ1 (IntKind.wrap .i64 (n2 + 1)) w5 < μ1 n2 w3)) ∧
     ((¬ n2 < ((l0 : Nat) : Int) →
      R (.returned (.tuple #[])) w3))))
theorem morainehelp_Spoil.vc (o0 : Option Addr) (l0 : Nat) (c0 : Nat) (w : World) (R : Ending → World → Prop) (h : morainehelp_Spoil.Vc o0 l0 c0 w R) : Calls Tryz.prog 19 #[(.slice o0 l0 c0)] w R :=
  execF_sound (ann := [(1, [(2, .cell (.int .i64))])]) (args := [.slice o0 l0 c0]) Tryz.func19 mixed (Eq.mp (by kernel_rfl : morainehelp_Spoil.Vc o0 l0 c0 w R = execF (pA Tryz.prog R) Tryz.prog [(1, [(2, .cell (.int .i64))])] Tryz.f19 [.slice o0 l0 c0] w) h)

/-! (*moraine/disk.Disk).WriteAt: 20 -/
abbrev disk_Disk_WriteAt.n : Nat := 20
def disk_Disk_WriteAt.Vc (d0 : Addr) (s1 : ByteArray) (n2 : Int) (o3 : Option Addr) (l3 : Nat) (c3 : Nat) (w : World) (R : Ending → World → Prop) : Prop :=
  Calls Tryz.prog 51 #[(.pointer (some d0)), (.string s1), (.slice none 0 0)] w (fun e4 w5 =>
    ∃ o6 : Option Addr, ∃ n7 : Int, e4 = .returned (.tuple #[(.pointer o6), (.int .i64 n7)]) ∧
    (((n7 ≠ 0 →
      R (.returned (.int .i64 n7)) w5)) ∧
     ((n7 = 0 →
      (((n2 < 0 →
        R (.returned (.int .i64 14)) w5)) ∧
       ((¬ n2 < 0 →
        ∃ d8 : Addr, o6 = some d8 ∧
        ∃ o9 : Option Addr, ∃ l10 : Nat, ∃ l11 : Nat, World.cell? w5 (Addr.add d8 1) = some (.slice o9 l10 l11) ∧
        (((n2 > ((l10 : Nat) : Int) →
          R (.returned (.int .i64 14)) w5)) ∧
         ((¬ n2 > ((l10 : Nat) : Int) →
          Calls Tryz.prog 54 #[(.pointer (some d0)), (.pointer o6), (.int .i64 n2), (.slice o3 l3 c3)] w5 (fun e12 w13 =>
            ∃ n14 : Int, e12 = .returned (.int .i64 n14) ∧
            R (.returned (.int .i64 n14)) w13)))))))))))
theorem disk_Disk_WriteAt.vc (d0 : Addr) (s1 : ByteArray) (n2 : Int) (o3 : Option Addr) (l3 : Nat) (c3 : Nat) (w : World) (R : Ending → World → Prop) (h : disk_Disk_WriteAt.Vc d0 s1 n2 o3 l3 c3 w R) : Calls Tryz.prog 20 #[(.pointer (some d0)), (.string s1), (.int .i64 n2), (.slice o3 l3 c3)] w R :=
  execF_sound (ann := []) (args := [.addr d0, .str s1, .int .i64 n2, .slice o3 l3 c3]) Tryz.func20 mixed (Eq.mp (by kernel_rfl : disk_Disk_WriteAt.Vc d0 s1 n2 o3 l3 c3 w R = execF (pA Tryz.prog R) Tryz.prog [] Tryz.f20 [.addr d0, .str s1, .int .i64 n2, .slice o3 l3 c3] w) h)

/-! (*moraine/disk.Disk).Truncate: 22 -/
abbrev disk_Disk_Truncate.n : Nat := 22
def disk_Disk_Truncate.Vc (d0 : Addr) (s1 : ByteArray) (n2 : Int) (w : World) (R : Ending → World → Prop) : Prop :=
  Calls Tryz.prog 51 #[(.pointer (some d0)), (.string s1), (.slice none 0 0)] w (fun e3 w4 =>
    ∃ o5 : Option Addr, ∃ n6 : Int, e3 = .returned (.tuple #[(.pointer o5), (.int .i64 n6)]) ∧
    (((n6 ≠ 0 →
      R (.returned (.int .i64 n6)) w4)) ∧
     ((n6 = 0 →
      (((n2 < 0 →
        R (.returned (.int .i64 14)) w4)) ∧
       ((¬ n2 < 0 →
        ∃ d7 : Addr, o5 = some d7 ∧
        ∃ o8 : Option Addr, ∃ l9 : Nat, ∃ l10 : Nat, World.cell? w4 (Addr.add d7 1) = some (.slice o8 l9 l10) ∧
        (((n2 > ((l9 : Nat) : Int) →
          R (.returned (.int .i64 14)) w4)) ∧
         ((¬ n2 > ((l9 : Nat) : Int) →
          ∃ d11 : Addr, o5 = some d11 ∧
          ∃ o12 : Option Addr, ∃ l13 : Nat, ∃ l14 : Nat, World.cell? w4 (Addr.add d11 1) = some (.slice o12 l13 l14) ∧
          (((n2 < ((l13 : Nat) : Int) →
            ∃ d15 : Addr, o5 = some d15 ∧
            ∃ o16 : Option Addr, ∃ l17 : Nat, ∃ l18 : Nat, World.cell? w4 (Addr.add d15 1) = some (.slice o16 l17 l18) ∧
            ((0 : Int) ≤ n2 ∧ n2 ≤ ((l18 : Nat) : Int)) ∧
            ∃ d19 : Addr, o5 = some d19 ∧
            CanSet w4 (Addr.add d19 1) (.slice o16 (Int.toNat n2) l18) ∧ ∀ w20 : World, IsSet w4 (Addr.add d19 1) (.slice o16 (Int.toNat n2) l18) w20 →
            ∃ d21 : Addr, o5 = some d21 ∧
            ∃ o22 : Option Addr, ∃ l23 : Nat, ∃ l24 : Nat, World.cell? w20 (Addr.add d21 3) = some (.slice o22 l23 l24) ∧
            ∀ (d25 : Addr) (w26 : World), IsNew w20 124 #[(.iface 111 (.agg #[(.int .i64 n2)]))] d25 w26 →
            ∃ (v27 : Value) (w28 : World), Sem.run Tryz.prog (builtinV .append #[84, 84] 84 #[(.slice o22 l23 l24), (.slice (some d25) 1 1)]) w26 = .ok v27 w28 ∧
            ∃ o29 : Option Addr, ∃ l30 : Nat, ∃ l31 : Nat, v27 = (.slice o29 l30 l31) ∧
            ∃ d32 : Addr, o5 = some d32 ∧
            CanSet w28 (Addr.add d32 3) (.slice o29 l30 l31) ∧ ∀ w33 : World, IsSet w28 (Addr.add d32 3) (.slice o29 l30 l31) w33 →
            R (.returned (.int .i64 0)) w33)) ∧
           ((¬ n2 < ((l13 : Nat) : Int) →
            R (.returned (.int .i64 0)) w4)))))))))))))
theorem disk_Disk_Truncate.vc (d0 : Addr) (s1 : ByteArray) (n2 : Int) (w : World) (R : Ending → World → Prop) (h : disk_Disk_Truncate.Vc d0 s1 n2 w R) : Calls Tryz.prog 22 #[(.pointer (some d0)), (.string s1), (.int .i64 n2)] w R :=
  execF_sound (ann := []) (args := [.addr d0, .str s1, .int .i64 n2]) Tryz.func22 mixed (Eq.mp (by kernel_rfl : disk_Disk_Truncate.Vc d0 s1 n2 w R = execF (pA Tryz.prog R) Tryz.prog [] Tryz.f22 [.addr d0, .str s1, .int .i64 n2] w) h)

/-! (*moraine/disk.Disk).Remove: 28 -/
abbrev disk_Disk_Remove.n : Nat := 28
def disk_Disk_Remove.Vc (d0 : Addr) (s1 : ByteArray) (w : World) (R : Ending → World → Prop) : Prop :=
  Calls Tryz.prog 51 #[(.pointer (some d0)), (.string s1), (.slice none 0 0)] w (fun e2 w3 =>
    ∃ o4 : Option Addr, ∃ n5 : Int, e2 = .returned (.tuple #[(.pointer o4), (.int .i64 n5)]) ∧
    (((n5 ≠ 0 →
      R (.returned (.int .i64 n5)) w3)) ∧
     ((n5 = 0 →
      Calls Tryz.prog 52 #[(.pointer (some d0)), (.iface 117 (.agg #[(.string s1)]))] w3 (fun e6 w7 =>
        e6 = .returned (.tuple #[]) ∧
        R (.returned (.int .i64 0)) w7)))))
theorem disk_Disk_Remove.vc (d0 : Addr) (s1 : ByteArray) (w : World) (R : Ending → World → Prop) (h : disk_Disk_Remove.Vc d0 s1 w R) : Calls Tryz.prog 28 #[(.pointer (some d0)), (.string s1)] w R :=
  execF_sound (ann := []) (args := [.addr d0, .str s1]) Tryz.func28 mixed (Eq.mp (by kernel_rfl : disk_Disk_Remove.Vc d0 s1 w R = execF (pA Tryz.prog R) Tryz.prog [] Tryz.f28 [.addr d0, .str s1] w) h)

/-! (*moraine/disk.Disk).ReadAt: 35 -/
abbrev disk_Disk_ReadAt.n : Nat := 35
def disk_Disk_ReadAt.Vc (d0 : Addr) (s1 : ByteArray) (n2 : Int) (n3 : Int) (w : World) (R : Ending → World → Prop) : Prop :=
  Calls Tryz.prog 55 #[(.pointer (some d0)), (.string s1)] w (fun e4 w5 =>
    ∃ o6 : Option Addr, ∃ n7 : Int, e4 = .returned (.tuple #[(.pointer o6), (.int .i64 n7)]) ∧
    (((n7 ≠ 0 →
      R (.returned (.tuple #[(.slice none 0 0), (.int .i64 n7)])) w5)) ∧
     ((n7 = 0 →
      (((n2 < 0 →
        R (.returned (.tuple #[(.slice none 0 0), (.int .i64 14)])) w5)) ∧
       ((¬ n2 < 0 →
        (((n3 < 0 →
          R (.returned (.tuple #[(.slice none 0 0), (.int .i64 14)])) w5)) ∧
         ((¬ n3 < 0 →
          ∃ d8 : Addr, o6 = some d8 ∧
          ∃ o9 : Option Addr, ∃ l10 : Nat, ∃ l11 : Nat, World.cell? w5 (Addr.add d8 1) = some (.slice o9 l10 l11) ∧
          (((n2 > ((l10 : Nat) : Int) →
            R (.returned (.tuple #[(.slice none 0 0), (.int .i64 14)])) w5)) ∧
           ((¬ n2 > ((l10 : Nat) : Int) →
            ∃ d12 : Addr, o6 = some d12 ∧
            ∃ o13 : Option Addr, ∃ l14 : Nat, ∃ l15 : Nat, World.cell? w5 (Addr.add d12 1) = some (.slice o13 l14 l15) ∧
            (((n3 > (IntKind.wrap .i64 (((l14 : Nat) : Int) - n2)) →
              R (.returned (.tuple #[(.slice none 0 0), (.int .i64 14)])) w5)) ∧
             ((¬ n3 > (IntKind.wrap .i64 (((l14 : Nat) : Int) - n2)) →
              ∃ d16 : Addr, o6 = some d16 ∧
              ∃ o17 : Option Addr, ∃ l18 : Nat, ∃ l19 : Nat, World.cell? w5 (Addr.add d16 1) = some (.slice o17 l18 l19) ∧
              ((0 : Int) ≤ (IntKind.wrap .i64 (n2 + n3)) ∧ (IntKind.wrap .i64 (n2 + n3)) ≤ ((l19 : Nat) : Int)) ∧
              ((0 : Int) ≤ n2 ∧ n2 ≤ (((Int.toNat (IntKind.wrap .i64 (n2 + n3))) : Nat) : Int)) ∧
              Calls Tryz.prog 56 #[(.slice (subO o17 l19 (Int.toNat n2) 1) ((Int.toNat (IntKind.wrap .i64 (n2 + n3))) - (Int.toNat n2)) (l19 - (Int.toNat n2)))] w5 (fun e20 w21 =>
                ∃ o22 : Option Addr, ∃ l23 : Nat, ∃ l24 : Nat, e20 = .returned (.slice o22 l23 l24) ∧
                R (.returned (.tuple #[(.slice o22 l23 l24), (.int .i64 0)])) w21)))))))))))))))))
theorem disk_Disk_ReadAt.vc (d0 : Addr) (s1 : ByteArray) (n2 : Int) (n3 : Int) (w : World) (R : Ending → World → Prop) (h : disk_Disk_ReadAt.Vc d0 s1 n2 n3 w R) : Calls Tryz.prog 35 #[(.pointer (some d0)), (.string s1), (.int .i64 n2), (.int .i64 n3)] w R :=
  execF_sound (ann := []) (args := [.addr d0, .str s1, .int .i64 n2, .int .i64 n3]) Tryz.func35 mixed (Eq.mp (by kernel_rfl : disk_Disk_ReadAt.Vc d0 s1 n2 n3 w R = execF (pA Tryz.prog R) Tryz.prog [] Tryz.f35 [.addr d0, .str s1, .int .i64 n2, .int .i64 n3] w) h)

/-! (*moraine/disk.Disk).named: 69 -/
abbrev disk_Disk_named.n : Nat := 69
def disk_Disk_named.Vc (d0 : Addr) (s1 : ByteArray) (o2 : Option Addr) (l2 : Nat) (c2 : Nat) (w : World) (R : Ending → World → Prop) : Prop :=
  Calls Tryz.prog 74 #[(.string s1)] w (fun e3 w4 =>
    ∃ b5 : Bool, e3 = .returned (.bool b5) ∧
    (((b5 = false →
      R (.returned (.tuple #[(.pointer none), (.int .i64 11)])) w4)) ∧
     ((b5 = true →
      Calls Tryz.prog 75 #[(.slice o2 l2 c2), (.func (.func 76) #[] #[])] w4 (fun e6 w7 =>
        ∃ b8 : Bool, e6 = .returned (.bool b8) ∧
        (((b8 = true →
          R (.returned (.tuple #[(.pointer none), (.int .i64 11)])) w7)) ∧
         ((b8 = false →
          ∃ m9 : Option Nat, World.cell? w7 (Addr.add d0 1) = some (.map m9) ∧
          ∃ v10 : Value, Sem.run Tryz.prog (Instr.lookup 47 (.map m9) (.string s1) true) w7 = .ok v10 w7 ∧
          ∃ o11 : Option Addr, ∃ b12 : Bool, v10 = (.tuple #[(.pointer o11), (.bool b12)]) ∧
          (((b12 = false →
            R (.returned (.tuple #[(.pointer none), (.int .i64 13)])) w7)) ∧
           ((b12 = true →
            R (.returned (.tuple #[(.pointer o11), (.int .i64 0)])) w7)))))))))))
theorem disk_Disk_named.vc (d0 : Addr) (s1 : ByteArray) (o2 : Option Addr) (l2 : Nat) (c2 : Nat) (w : World) (R : Ending → World → Prop) (h : disk_Disk_named.Vc d0 s1 o2 l2 c2 w R) : Calls Tryz.prog 69 #[(.pointer (some d0)), (.string s1), (.slice o2 l2 c2)] w R :=
  execF_sound (ann := []) (args := [.addr d0, .str s1, .slice o2 l2 c2]) Tryz.func69 mixed (Eq.mp (by kernel_rfl : disk_Disk_named.Vc d0 s1 o2 l2 c2 w R = execF (pA Tryz.prog R) Tryz.prog [] Tryz.f69 [.addr d0, .str s1, .slice o2 l2 c2] w) h)

/-! moraine/disk.laid: 70 -/
abbrev disk_laid.n : Nat := 70
def disk_laid.Vc (o0 : Option Addr) (l0 : Nat) (c0 : Nat) (n1 : Int) (o2 : Option Addr) (l2 : Nat) (c2 : Nat) (w : World) (R : Ending → World → Prop) : Prop :=
  Calls Tryz.prog 77 #[(.slice o0 l0 c0), (.int .i64 (max 0 (IntKind.wrap .i64 ((IntKind.wrap .i64 (n1 + ((l2 : Nat) : Int))) - ((l0 : Nat) : Int)))))] w (fun e3 w4 =>
    ∃ o5 : Option Addr, ∃ l6 : Nat, ∃ l7 : Nat, e3 = .returned (.slice o5 l6 l7) ∧
    ((0 : Int) ≤ (max ((l0 : Nat) : Int) (IntKind.wrap .i64 (n1 + ((l2 : Nat) : Int)))) ∧ (max ((l0 : Nat) : Int) (IntKind.wrap .i64 (n1 + ((l2 : Nat) : Int)))) ≤ ((l7 : Nat) : Int)) ∧
    ((0 : Int) ≤ n1 ∧ n1 ≤ (((Int.toNat (max ((l0 : Nat) : Int) (IntKind.wrap .i64 (n1 + ((l2 : Nat) : Int))))) : Nat) : Int)) ∧
    ∃ (v8 : Value) (w9 : World), Sem.run Tryz.prog (builtinV .copy #[32, 32] 3 #[(.slice (subO o5 l7 (Int.toNat n1) 1) ((Int.toNat (max ((l0 : Nat) : Int) (IntKind.wrap .i64 (n1 + ((l2 : Nat) : Int))))) - (Int.toNat n1)) (l7 - (Int.toNat n1))), (.slice o2 l2 c2)]) w4 = .ok v8 w9 ∧
    ∃ n10 : Int, v8 = (.int .i64 n10) ∧
    R (.returned (.slice o5 (Int.toNat (max ((l0 : Nat) : Int) (IntKind.wrap .i64 (n1 + ((l2 : Nat) : Int))))) l7)) w9)
theorem disk_laid.vc (o0 : Option Addr) (l0 : Nat) (c0 : Nat) (n1 : Int) (o2 : Option Addr) (l2 : Nat) (c2 : Nat) (w : World) (R : Ending → World → Prop) (h : disk_laid.Vc o0 l0 c0 n1 o2 l2 c2 w R) : Calls Tryz.prog 70 #[(.slice o0 l0 c0), (.int .i64 n1), (.slice o2 l2 c2)] w R :=
  execF_sound (ann := []) (args := [.slice o0 l0 c0, .int .i64 n1, .slice o2 l2 c2]) Tryz.func70 mixed (Eq.mp (by kernel_rfl : disk_laid.Vc o0 l0 c0 n1 o2 l2 c2 w R = execF (pA Tryz.prog R) Tryz.prog [] Tryz.f70 [.slice o0 l0 c0, .int .i64 n1, .slice o2 l2 c2] w) h)

/-! moraine/disk.right: 74 -/
abbrev disk_right.n : Nat := 74
def disk_right.Vc (s0 : ByteArray) (w : World) (R : Ending → World → Prop) : Prop :=
  ((((((ByteArray.size s0) : Nat) : Int) < 1 →
    R (.returned (.bool false)) w)) ∧
   ((¬ (((ByteArray.size s0) : Nat) : Int) < 1 →
    ((((((ByteArray.size s0) : Nat) : Int) > 64 →
      R (.returned (.bool false)) w)) ∧
     ((¬ (((ByteArray.size s0) : Nat) : Int) > 64 →
      ∃ (I1 : Int → World → Prop) (μ1 : Int → World → Nat), I1 0 w ∧
      (∀ (n2 : Int) (j3 : Nat → Value) (w3 : World), I1 n2 w3 →
        (((n2 < (((ByteArray.size s0) : Nat) : Int) →
          ((0 : Int) ≤ n2 ∧ n2 < (((ByteArray.size s0) : Nat) : Int)) ∧
          ∀ (d4 : Addr) (w5 : World), IsNew w3 5 #[(.int .u8 0)] d4 w5 →
          CanSet w5 d4 (.int .u8 (strAt s0 (Int.toNat n2))) ∧ ∀ w6 : World, IsSet w5 d4 (.int .u8 (strAt s0 (Int.toNat n2))) w6 →
          Calls Tryz.prog 81 #[(.int .u8 97), (.int .u8 122), (.pointer (some d4))] w6 (fun e7 w8 =>
            ∃ b9 : Bool, e7 = .returned (.bool b9) ∧
            (((b9 = false →
              Calls Tryz.prog 81 #[(.int .u8 48), (.int .u8 57), (.pointer (some d4))] w8 (fun e10 w11 =>
                ∃ b12 : Bool, e10 = .returned (.bool b12) ∧
                (((b12 = false →
                  ∃ n13 : Int, World.cell? w11 d4 = some (.int .u8 n13) ∧
                  (((n13 ≠ 46 →
                    ∃ n14 : Int, World.cell? w11 d4 = some (.int .u8 n14) ∧
                    (((n14 ≠ 45 →
                      ∃ n15 : Int, World.cell? w11 d4 = some (.int .u8 n15) ∧
                      (((n15 ≠ 95 →
                        R (.returned (.bool false)) w11)) ∧
                       ((n15 = 95 →
                        I1 (IntKind.wrap .i64 (n2 + 1)) w11 ∧ μ1 (IntKind.wrap .i64 (n2 + 1)) w11 < μ1 n2 w3))))) ∧
                     ((n14 = 45 →
                      I1 (IntKind.wrap .i64 (n2 + 1)) w11 ∧ μ1 (IntKind.wrap .i64 (n2 + 1)) w11 < μ1 n2 w3))))) ∧
                   ((n13 = 46 →
                    I1 (IntKind.wrap .i64 (n2 + 1)) w11 ∧ μ1 (IntKind.wrap .i64 (n2 + 1)) w11 < μ1 n2 w3))))) ∧
                 ((b12 = true →
                  I1 (IntKind.wrap .i64 (n2 + 1)) w11 ∧ μ1 (IntKind.wrap .i64 (n2 + 1)) w11 < μ1 n2 w3)))))) ∧
             ((b9 = true →
              I1 (IntKind.wrap .i64 (n2 + 1)) w8 ∧ μ1 (IntKind.wrap .i64 (n2 + 1)) w8 < μ1 n2 w3)))))) ∧
         ((¬ n2 < (((ByteArray.size s0) : Nat) : Int) →
          R (.returned (.bool true)) w3))))))))))
theorem disk_right.vc (s0 : ByteArray) (w : World) (R : Ending → World → Prop) (h : disk_right.Vc s0 w R) : Calls Tryz.prog 74 #[(.string s0)] w R :=
  execF_sound (ann := [(4, [(16, .cell (.int .i64))])]) (args := [.str s0]) Tryz.func74 mixed (Eq.mp (by kernel_rfl : disk_right.Vc s0 w R = execF (pA Tryz.prog R) Tryz.prog [(4, [(16, .cell (.int .i64))])] Tryz.f74 [.str s0] w) h)

/-! slices.ContainsFunc[[]string,string]: 75 -/
abbrev slices_ContainsFunc_string_string.n : Nat := 75
def slices_ContainsFunc_string_string.Vc (o0 : Option Addr) (l0 : Nat) (c0 : Nat) (v1 : Value) (w : World) (R : Ending → World → Prop) : Prop :=
  Calls Tryz.prog 82 #[(.slice o0 l0 c0), v1] w (fun e2 w3 =>
    ∃ n4 : Int, e2 = .returned (.int .i64 n4) ∧
    R (.returned (.bool (decide (n4 ≥ 0)))) w3)
theorem slices_ContainsFunc_string_string.vc (o0 : Option Addr) (l0 : Nat) (c0 : Nat) (v1 : Value) (w : World) (R : Ending → World → Prop) (h : slices_ContainsFunc_string_string.Vc o0 l0 c0 v1 w R) : Calls Tryz.prog 75 #[(.slice o0 l0 c0), v1] w R :=
  execF_sound (ann := []) (args := [.slice o0 l0 c0, .raw v1]) Tryz.func75 mixed (Eq.mp (by kernel_rfl : slices_ContainsFunc_string_string.Vc o0 l0 c0 v1 w R = execF (pA Tryz.prog R) Tryz.prog [] Tryz.f75 [.slice o0 l0 c0, .raw v1] w) h)

/-! slices.IndexFunc[[]string,string]: 82 -/
abbrev slices_IndexFunc_string_string.n : Nat := 82
def slices_IndexFunc_string_string.Vc (o0 : Option Addr) (l0 : Nat) (c0 : Nat) (v1 : Value) (w : World) (R : Ending → World → Prop) : Prop :=
  ∃ (I2 : Int → World → Prop) (μ2 : Int → World → Nat), I2 0 w ∧
  (∀ (n3 : Int) (j4 : Nat → Value) (w4 : World), I2 n3 w4 →
    (((n3 < ((l0 : Nat) : Int) →
      ∃ d5 : Addr, o0 = some d5 ∧
      ((0 : Int) ≤ n3 ∧ n3 < ((l0 : Nat) : Int)) ∧
      ∃ s6 : ByteArray, World.cell? w4 (Addr.add d5 (Int.toNat n3)) = some (.string s6) ∧
      CallsV Tryz.prog v1 #[(.string s6)] w4 (fun e7 w8 =>
        ∃ b9 : Bool, e7 = .returned (.bool b9) ∧
        (((b9 = true →
          R (.returned (.int .i64 n3)) w8)) ∧
         ((b9 = false →
          I2 (IntKind.wrap .i64 (n3 + 1)) w8 ∧ μ2 (IntKind.wrap .i64 (n3 + 1)) w8 < μ2 n3 w4)))))) ∧
     ((¬ n3 < ((l0 : Nat) : Int) →
      R (.returned (.int .i64 (-1))) w4))))
theorem slices_IndexFunc_string_string.vc (o0 : Option Addr) (l0 : Nat) (c0 : Nat) (v1 : Value) (w : World) (R : Ending → World → Prop) (h : slices_IndexFunc_string_string.Vc o0 l0 c0 v1 w R) : Calls Tryz.prog 82 #[(.slice o0 l0 c0), v1] w R :=
  execF_sound (ann := [(2, [(8, .cell (.int .i64))])]) (args := [.slice o0 l0 c0, .raw v1]) Tryz.func82 mixed (Eq.mp (by kernel_rfl : slices_IndexFunc_string_string.Vc o0 l0 c0 v1 w R = execF (pA Tryz.prog R) Tryz.prog [(2, [(8, .cell (.int .i64))])] Tryz.f82 [.slice o0 l0 c0, .raw v1] w) h)

/-! (*moraine/disk.Disk).named$1: 76 -/
abbrev disk_Disk_named_1.n : Nat := 76
def disk_Disk_named_1.Vc (s0 : ByteArray) (w : World) (R : Ending → World → Prop) : Prop :=
  Calls Tryz.prog 74 #[(.string s0)] w (fun e1 w2 =>
    ∃ b3 : Bool, e1 = .returned (.bool b3) ∧
    R (.returned (.bool (!b3))) w2)
theorem disk_Disk_named_1.vc (s0 : ByteArray) (w : World) (R : Ending → World → Prop) (h : disk_Disk_named_1.Vc s0 w R) : Calls Tryz.prog 76 #[(.string s0)] w R :=
  execF_sound (ann := []) (args := [.str s0]) Tryz.func76 mixed (Eq.mp (by kernel_rfl : disk_Disk_named_1.Vc s0 w R = execF (pA Tryz.prog R) Tryz.prog [] Tryz.f76 [.str s0] w) h)

/-! slices.Grow[[]byte,byte]: 77 -/
abbrev slices_Grow_byte_byte.n : Nat := 77
def slices_Grow_byte_byte.Vc (o0 : Option Addr) (l0 : Nat) (c0 : Nat) (n1 : Int) (w : World) (R : Ending → World → Prop) : Prop :=
  (((n1 < 0 →
    False /- no such operation -/)) ∧
   ((¬ n1 < 0 →
    ((((IntKind.wrap .i64 (n1 - (IntKind.wrap .i64 (((c0 : Nat) : Int) - ((l0 : Nat) : Int))))) > 0 →
      ((0 : Int) ≤ ((c0 : Nat) : Int) ∧ ((c0 : Nat) : Int) ≤ ((c0 : Nat) : Int)) ∧
      ∃ (v2 : Value) (w3 : World), Sem.run Tryz.prog (builtinV .append #[32, 3] 32 #[(.slice o0 (Int.toNat ((c0 : Nat) : Int)) c0), (.int .i64 (IntKind.wrap .i64 (n1 - (IntKind.wrap .i64 (((c0 : Nat) : Int) - ((l0 : Nat) : Int))))))]) w = .ok v2 w3 ∧
      ∃ o4 : Option Addr, ∃ l5 : Nat, ∃ l6 : Nat, v2 = (.slice o4 l5 l6) ∧
      ((0 : Int) ≤ ((l0 : Nat) : Int) ∧ ((l0 : Nat) : Int) ≤ ((l6 : Nat) : Int)) ∧
      R (.returned (.slice o4 (Int.toNat ((l0 : Nat) : Int)) l6)) w3)) ∧
     ((¬ (IntKind.wrap .i64 (n1 - (IntKind.wrap .i64 (((c0 : Nat) : Int) - ((l0 : Nat) : Int))))) > 0 →
      R (.returned (.slice o0 l0 c0)) w))))))
theorem slices_Grow_byte_byte.vc (o0 : Option Addr) (l0 : Nat) (c0 : Nat) (n1 : Int) (w : World) (R : Ending → World → Prop) (h : slices_Grow_byte_byte.Vc o0 l0 c0 n1 w R) : Calls Tryz.prog 77 #[(.slice o0 l0 c0), (.int .i64 n1)] w R :=
  execF_sound (ann := []) (args := [.slice o0 l0 c0, .int .i64 n1]) Tryz.func77 mixed (Eq.mp (by kernel_rfl : slices_Grow_byte_byte.Vc o0 l0 c0 n1 w R = execF (pA Tryz.prog R) Tryz.prog [] Tryz.f77 [.slice o0 l0 c0, .int .i64 n1] w) h)

/-! moraine/disk.right$1: 81 -/
abbrev disk_right_1.n : Nat := 81
def disk_right_1.Vc (n0 : Int) (n1 : Int) (d2 : Addr) (w : World) (R : Ending → World → Prop) : Prop :=
  ∃ n3 : Int, World.cell? w d2 = some (.int .u8 n3) ∧
  (((n0 ≤ n3 →
    ∃ n4 : Int, World.cell? w d2 = some (.int .u8 n4) ∧
    R (.returned (.bool (decide (n4 ≤ n1)))) w)) ∧
   ((¬ n0 ≤ n3 →
    R (.returned (.bool false)) w)))
theorem disk_right_1.vc (n0 : Int) (n1 : Int) (d2 : Addr) (w : World) (R : Ending → World → Prop) (h : disk_right_1.Vc n0 n1 d2 w R) : Calls Tryz.prog 81 #[(.int .u8 n0), (.int .u8 n1), (.pointer (some d2))] w R :=
  execF_sound (ann := []) (args := [.int .u8 n0, .int .u8 n1, .addr d2]) Tryz.func81 mixed (Eq.mp (by kernel_rfl : disk_right_1.Vc n0 n1 d2 w R = execF (pA Tryz.prog R) Tryz.prog [] Tryz.f81 [.int .u8 n0, .int .u8 n1, .addr d2] w) h)

/-! (moraine/disk.made).on: 117 -/
abbrev disk_made_on.n : Nat := 117
def disk_made_on.Vc (s0 : ByteArray) (o1 : Option Addr) (m2 : Option Nat) (w : World) (R : Ending → World → Prop) : Prop :=
  ∀ (d3 : Addr) (w4 : World), IsNew w 101 #[(.string s0), (.pointer o1)] d3 w4 →
  ∃ s5 : ByteArray, World.cell? w4 d3 = some (.string s5) ∧
  ∃ o6 : Option Addr, World.cell? w4 (Addr.add d3 1) = some (.pointer o6) ∧
  ∃ w7 : World, Sem.run Tryz.prog (Instr.mapUpdate 47 (.map m2) (.string s5) (.pointer o6)) w4 = .ok () w7 ∧
  R (.returned (.tuple #[])) w7
theorem disk_made_on.vc (s0 : ByteArray) (o1 : Option Addr) (m2 : Option Nat) (w : World) (R : Ending → World → Prop) (h : disk_made_on.Vc s0 o1 m2 w R) : Calls Tryz.prog 117 #[(.agg #[(.string s0), (.pointer o1)]), (.map m2)] w R :=
  execF_sound (ann := []) (args := [.agg [.str s0, .ptr o1], .map m2]) Tryz.func117 mixed (Eq.mp (by kernel_rfl : disk_made_on.Vc s0 o1 m2 w R = execF (pA Tryz.prog R) Tryz.prog [] Tryz.f117 [.agg [.str s0, .ptr o1], .map m2] w) h)

/-! (moraine/disk.renamed).on: 119 -/
abbrev disk_renamed_on.n : Nat := 119
def disk_renamed_on.Vc (s0 : ByteArray) (s1 : ByteArray) (m2 : Option Nat) (w : World) (R : Ending → World → Prop) : Prop :=
  ∀ (d3 : Addr) (w4 : World), IsNew w 115 #[(.string s0), (.string s1)] d3 w4 →
  ∃ s5 : ByteArray, World.cell? w4 (Addr.add d3 1) = some (.string s5) ∧
  ∃ s6 : ByteArray, World.cell? w4 d3 = some (.string s6) ∧
  ∃ v7 : Value, Sem.run Tryz.prog (Instr.lookup 47 (.map m2) (.string s6) false) w4 = .ok v7 w4 ∧
  ∃ o8 : Option Addr, v7 = (.pointer o8) ∧
  ∃ w9 : World, Sem.run Tryz.prog (Instr.mapUpdate 47 (.map m2) (.string s5) (.pointer o8)) w4 = .ok () w9 ∧
  ∃ s10 : ByteArray, World.cell? w9 d3 = some (.string s10) ∧
  ∃ (v11 : Value) (w12 : World), Sem.run Tryz.prog (builtinV .delete #[47, 9] 0 #[(.map m2), (.string s10)]) w9 = .ok v11 w12 ∧
  v11 = (.tuple #[]) ∧
  R (.returned (.tuple #[])) w12
theorem disk_renamed_on.vc (s0 : ByteArray) (s1 : ByteArray) (m2 : Option Nat) (w : World) (R : Ending → World → Prop) (h : disk_renamed_on.Vc s0 s1 m2 w R) : Calls Tryz.prog 119 #[(.agg #[(.string s0), (.string s1)]), (.map m2)] w R :=
  execF_sound (ann := []) (args := [.agg [.str s0, .str s1], .map m2]) Tryz.func119 mixed (Eq.mp (by kernel_rfl : disk_renamed_on.Vc s0 s1 m2 w R = execF (pA Tryz.prog R) Tryz.prog [] Tryz.f119 [.agg [.str s0, .str s1], .map m2] w) h)

/-! (moraine/disk.written).on: 121 -/
abbrev disk_written_on.n : Nat := 121
def disk_written_on.Vc (n0 : Int) (o1 : Option Addr) (l1 : Nat) (c1 : Nat) (o2 : Option Addr) (l2 : Nat) (c2 : Nat) (n3 : Int) (w : World) (R : Ending → World → Prop) : Prop :=
  ∀ (d4 : Addr) (w5 : World), IsNew w 129 #[(.int .i64 n0), (.slice o1 l1 c1)] d4 w5 →
  ∃ o6 : Option Addr, ∃ l7 : Nat, ∃ l8 : Nat, World.cell? w5 (Addr.add d4 1) = some (.slice o6 l7 l8) ∧
  (((((l7 : Nat) : Int) > n3 →
    ∀ w9 : World, IsDrew w5 w9 →
    ∃ n10 : Int, World.cell? w9 d4 = some (.int .i64 n10) ∧
    ∃ o11 : Option Addr, ∃ l12 : Nat, ∃ l13 : Nat, World.cell? w9 (Addr.add d4 1) = some (.slice o11 l12 l13) ∧
    ((0 : Int) ≤ n3 ∧ n3 ≤ ((l13 : Nat) : Int)) ∧
    Calls Tryz.prog 70 #[(.slice o2 l2 c2), (.int .i64 n10), (.slice o11 (Int.toNat n3) l13)] w9 (fun e14 w15 =>
      ∃ o16 : Option Addr, ∃ l17 : Nat, ∃ l18 : Nat, e14 = .returned (.slice o16 l17 l18) ∧
      R (.returned (.tuple #[(.slice o16 l17 l18), (.int .i64 (-1))])) w15))) ∧
   ((¬ ((l7 : Nat) : Int) > n3 →
    ∀ w19 : World, IsDrew w5 w19 →
    ∃ n20 : Int, World.cell? w19 d4 = some (.int .i64 n20) ∧
    ∃ o21 : Option Addr, ∃ l22 : Nat, ∃ l23 : Nat, World.cell? w19 (Addr.add d4 1) = some (.slice o21 l22 l23) ∧
    ∃ o24 : Option Addr, ∃ l25 : Nat, ∃ l26 : Nat, World.cell? w19 (Addr.add d4 1) = some (.slice o24 l25 l26) ∧
    Calls Tryz.prog 70 #[(.slice o2 l2 c2), (.int .i64 n20), (.slice o21 l22 l23)] w19 (fun e27 w28 =>
      ∃ o29 : Option Addr, ∃ l30 : Nat, ∃ l31 : Nat, e27 = .returned (.slice o29 l30 l31) ∧
      World.cell? w28 (Addr.add d4 1) = some (.slice o24 l25 l26) ∧
      R (.returned (.tuple #[(.slice o29 l30 l31), (.int .i64 (IntKind.wrap .i64 (n3 - ((l25 : Nat) : Int))))])) w28))))
theorem disk_written_on.vc (n0 : Int) (o1 : Option Addr) (l1 : Nat) (c1 : Nat) (o2 : Option Addr) (l2 : Nat) (c2 : Nat) (n3 : Int) (w : World) (R : Ending → World → Prop) (h : disk_written_on.Vc n0 o1 l1 c1 o2 l2 c2 n3 w R) : Calls Tryz.prog 121 #[(.agg #[(.int .i64 n0), (.slice o1 l1 c1)]), (.slice o2 l2 c2), (.int .i64 n3)] w R :=
  execF_sound (ann := []) (args := [.agg [.int .i64 n0, .slice o1 l1 c1], .slice o2 l2 c2, .int .i64 n3]) Tryz.func121 mixed (Eq.mp (by kernel_rfl : disk_written_on.Vc n0 o1 l1 c1 o2 l2 c2 n3 w R = execF (pA Tryz.prog R) Tryz.prog [] Tryz.f121 [.agg [.int .i64 n0, .slice o1 l1 c1], .slice o2 l2 c2, .int .i64 n3] w) h)

/-! (moraine/disk.cut).on: 118 -/
abbrev disk_cut_on.n : Nat := 118
def disk_cut_on.Vc (n0 : Int) (o1 : Option Addr) (l1 : Nat) (c1 : Nat) (n2 : Int) (w : World) (R : Ending → World → Prop) : Prop :=
  ∀ (d3 : Addr) (w4 : World), IsNew w 111 #[(.int .i64 n0)] d3 w4 →
  (((n2 < 1 →
    R (.returned (.tuple #[(.slice o1 l1 c1), (.int .i64 (-1))])) w4)) ∧
   ((¬ n2 < 1 →
    ∃ n5 : Int, World.cell? w4 d3 = some (.int .i64 n5) ∧
    ((0 : Int) ≤ n5 ∧ n5 ≤ ((c1 : Nat) : Int)) ∧
    R (.returned (.tuple #[(.slice o1 (Int.toNat n5) c1), (.int .i64 (IntKind.wrap .i64 (n2 - 1)))])) w4)))
theorem disk_cut_on.vc (n0 : Int) (o1 : Option Addr) (l1 : Nat) (c1 : Nat) (n2 : Int) (w : World) (R : Ending → World → Prop) (h : disk_cut_on.Vc n0 o1 l1 c1 n2 w R) : Calls Tryz.prog 118 #[(.agg #[(.int .i64 n0)]), (.slice o1 l1 c1), (.int .i64 n2)] w R :=
  execF_sound (ann := []) (args := [.agg [.int .i64 n0], .slice o1 l1 c1, .int .i64 n2]) Tryz.func118 mixed (Eq.mp (by kernel_rfl : disk_cut_on.Vc n0 o1 l1 c1 n2 w R = execF (pA Tryz.prog R) Tryz.prog [] Tryz.f118 [.agg [.int .i64 n0], .slice o1 l1 c1, .int .i64 n2] w) h)

/-! (moraine/disk.removed).on: 120 -/
abbrev disk_removed_on.n : Nat := 120
def disk_removed_on.Vc (s0 : ByteArray) (m1 : Option Nat) (w : World) (R : Ending → World → Prop) : Prop :=
  ∀ (d2 : Addr) (w3 : World), IsNew w 117 #[(.string s0)] d2 w3 →
  ∃ s4 : ByteArray, World.cell? w3 d2 = some (.string s4) ∧
  ∃ (v5 : Value) (w6 : World), Sem.run Tryz.prog (builtinV .delete #[47, 9] 0 #[(.map m1), (.string s4)]) w3 = .ok v5 w6 ∧
  v5 = (.tuple #[]) ∧
  R (.returned (.tuple #[])) w6
theorem disk_removed_on.vc (s0 : ByteArray) (m1 : Option Nat) (w : World) (R : Ending → World → Prop) (h : disk_removed_on.Vc s0 m1 w R) : Calls Tryz.prog 120 #[(.agg #[(.string s0)]), (.map m1)] w R :=
  execF_sound (ann := []) (args := [.agg [.str s0], .map m1]) Tryz.func120 mixed (Eq.mp (by kernel_rfl : disk_removed_on.Vc s0 m1 w R = execF (pA Tryz.prog R) Tryz.prog [] Tryz.f120 [.agg [.str s0], .map m1] w) h)

end Go.Proofs.YtkekehngillblaaGreat
end

section
namespace Go.Vcg
open Go.RowKit (Below)

@[simp] theorem add_at (b i n : Nat) : Addr.add ⟨b, i, none⟩ n = ⟨b, i + n, none⟩ := by
  unfold Addr.add; split <;> simp_all

/-- Block b of w is a row of cells, none of them frozen. -/
def Blk (w : World) (b : Nat) (t : TypeId) (cs : Array Value) : Prop := w.heap[b]? = some (.cells cs t (0, 0))

/-- Between w and w' only the old blocks in S may have changed. -/
structure Mod (S : Nat → Prop) (w w' : World) : Prop where
  os : w'.os = w.os
  tape : w'.tape = w.tape
  output : w'.output = w.output
  size : w.heap.size ≤ w'.heap.size
  block : ∀ k, k < w.heap.size → ¬ S k → w'.heap[k]? = w.heap[k]?

abbrev NoB : Nat → Prop := fun _ => False

theorem Mod.refl {S} (w : World) : Mod S w w := ⟨rfl, rfl, rfl, Nat.le_refl _, fun _ _ _ => rfl⟩
theorem Mod.trans {S T : Nat → Prop} {a b c : World} (h : Mod S a b) (k : Mod T b c) (hs : ∀ i, i < a.heap.size → T i → S i) : Mod S a c :=
  ⟨k.os.trans h.os, k.tape.trans h.tape, k.output.trans h.output, Nat.le_trans h.size k.size,
    fun i hi hn => (k.block i (Nat.lt_of_lt_of_le hi h.size) (fun ht => hn (hs i hi ht))).trans (h.block i hi hn)⟩
theorem Mod.mono {S T : Nat → Prop} {a b : World} (h : Mod S a b) (hs : ∀ i, i < a.heap.size → S i → T i) : Mod T a b :=
  ⟨h.os, h.tape, h.output, h.size, fun i hi hn => h.block i hi (fun k => hn (hs i hi k))⟩
theorem Mod.none_trans {S : Nat → Prop} {a b c : World} (h : Mod S a b) (k : Mod NoB b c) : Mod S a c := h.trans k (fun _ _ h => h.elim)
theorem Mod.below {w w' : World} (h : Mod NoB w w') : Below w.heap.size w w' := ⟨h.os, h.tape, h.output, h.size, fun k hk => h.block k hk (fun h => h)⟩
theorem Mod.of_below {w w' : World} (h : Below w.heap.size w w') : Mod NoB w w' := ⟨h.os, h.tape, h.output, h.size, fun k hk _ => h.block k hk⟩
theorem Mod.of_grown {w w' : World} {row : Option Nat} (h : w.grownBy w' row) : Mod (fun k => some k = row) w w' :=
  ⟨h.os, h.tape, h.output, h.size, fun k hk hn => h.block k hk hn⟩

theorem Mod.drew (w : World) {S} : Mod S w w.drew := ⟨rfl, rfl, rfl, Nat.le_refl _, fun _ _ _ => rfl⟩
theorem Mod.alloc (w : World) (o : Obj) {S} : Mod S w (w.alloc o) := ⟨rfl, rfl, rfl, by simp, fun k hk _ => heap_alloc_old w o hk⟩
theorem Mod.setCell (w : World) (a : Addr) (v : Value) : Mod (· = a.block) w (w.setCell a v) :=
  ⟨rfl, rfl, rfl, by simp [World.setCell], fun k hk hn => heap_setCell_other w a k v hn⟩
theorem Mod.setRow (w : World) (g : Nat) (cs : Array Value) : Mod (· = g) w (w.setRow g cs) :=
  ⟨rfl, rfl, rfl, by simp [World.setRow], fun k hk hn => setRow_other w g k _ hn⟩
theorem Mod.step_drew {S} {w0 w : World} (h : Mod S w0 w) : Mod S w0 w.drew := h.none_trans (Mod.drew w)
theorem Mod.step_alloc {S} {w0 w : World} (h : Mod S w0 w) (o : Obj) : Mod S w0 (w.alloc o) := h.none_trans (Mod.alloc w o)
theorem Mod.step_set {S : Nat → Prop} {w0 w : World} (h : Mod S w0 w) {a : Addr} {v : Value} (hs : a.block < w0.heap.size → S a.block) : Mod S w0 (w.setCell a v) :=
  h.trans (Mod.setCell w a v) (fun i hi e => by subst e; exact hs hi)
theorem Mod.step_row {S : Nat → Prop} {w0 w : World} (h : Mod S w0 w) {g : Nat} {cs} (hs : g < w0.heap.size → S g) : Mod S w0 (w.setRow g cs) :=
  h.trans (Mod.setRow w g cs) (fun i hi e => by subst e; exact hs hi)

theorem size_alloc (w : World) (o : Obj) : (w.alloc o).heap.size = w.heap.size + 1 := by simp
theorem size_setCell (w : World) (a : Addr) (v : Value) : (w.setCell a v).heap.size = w.heap.size := by simp [World.setCell]
theorem size_setRow (w : World) (g : Nat) (cs) : (w.setRow g cs).heap.size = w.heap.size := by simp [World.setRow]
theorem size_drew (w : World) : w.drew.heap.size = w.heap.size := rfl

section
variable {w w' : World} {b : Nat} {t : TypeId} {cs : Array Value}
theorem Blk.lt (h : Blk w b t cs) : b < w.heap.size := (Array.getElem?_eq_some_iff.1 h).1
theorem Blk.mod {S : Nat → Prop} (h : Blk w b t cs) (m : Mod S w w') (hs : ¬ S b) : Blk w' b t cs := (m.block b h.lt hs).trans h
theorem Blk.mod' (h : Blk w b t cs) (m : Mod NoB w w') : Blk w' b t cs := h.mod m (fun h => h)
theorem Blk.drew (h : Blk w b t cs) : Blk w.drew b t cs := h
theorem Blk.alloc (h : Blk w b t cs) (o : Obj) : Blk (w.alloc o) b t cs := h.mod' (Mod.alloc w o)
theorem Blk.new (w : World) (t : TypeId) (cs : Array Value) : Blk (w.alloc (.cells cs t)) w.heap.size t cs := heap_alloc_new w _
theorem Blk.set (h : Blk w b t cs) (i : Nat) (v : Value) : Blk (w.setCell ⟨b, i, none⟩ v) b t (cs.setIfInBounds i v) := heap_setCell_same w b i cs t v h
theorem Blk.set_ne (h : Blk w b t cs) {a : Addr} {v : Value} (hn : b ≠ a.block) : Blk (w.setCell a v) b t cs := h.mod (Mod.setCell w a v) hn
theorem Blk.row_ne (h : Blk w b t cs) {g : Nat} {c : Array Value} (hn : b ≠ g) : Blk (w.setRow g c) b t cs := h.mod (Mod.setRow w g c) hn
theorem Blk.row_same (h : Blk w b t cs) (c : Array Value) : Blk (w.setRow b c) b t c := setRow_heap w b cs c t _ h
theorem Blk.cell (h : Blk w b t cs) (i : Nat) : w.cell? ⟨b, i, none⟩ = cs[i]? := cell_of_row w b i cs t _ h
theorem Blk.canSet (h : Blk w b t cs) {i : Nat} {v : Value} (hi : i < cs.size) (hv : v.oneCell' = true) : CanSet w ⟨b, i, none⟩ v :=
  ⟨hv, ⟨cs[i], by rw [h.cell]; simp [hi]⟩, by simp [World.frozen?, show w.heap[b]? = _ from h]⟩
theorem Blk.rowAt (h : Blk w b t cs) {o n : Nat} {L : Array Value} (hn : L.size = n) (hl : ∀ i, i < n → cs[o + i]? = L[i]?) : RowAt w ⟨b, o, none⟩ n L :=
  ⟨hn, fun i hi => by rw [add_at, h.cell, hl i hi]⟩
theorem Blk.rowAll (h : Blk w b t cs) {n : Nat} (hn : cs.size = n) : RowAt w ⟨b, 0, none⟩ n cs :=
  h.rowAt hn (fun i _ => by simp)
theorem Blk.inj {t' cs'} (h : Blk w b t cs) (h' : Blk w b t' cs') : cs = cs' := by
  have := h.symm.trans h'; simp at this; exact this.1
/-- A whole array is stored into a block. -/
theorem Blk.storeAt {P : Program} (h : Blk w b t cs) {ty : TypeId} {i : TypeInfo} {L : Array Value} {o : Nat} (hi : P.info? ty = some i) (hsz : i.size = L.size)
    (hb : o + L.size ≤ cs.size) (h1 : ∀ v ∈ L.toList, v.oneCell' = true) :
    Sem.run P (Instr.storeAt ty (.pointer (some ⟨b, o, none⟩)) (.agg L)) w = .ok () (w.setRow b (cs.toList.take o ++ L.toList ++ cs.toList.drop (o + L.size)).toArray) := by
  have hst := run_storeCells_at P b o t L.toList 0 cs w h (by simpa using hb) h1
  simp only [Nat.add_zero, Array.length_toList] at hst
  simp only [Instr.storeAt, Instr.sureAddr, pure_bind]
  unfold storeVar
  simp [Sem.run_bind, sizeOf, typeInfo, hi, hsz, Value.cells, hst]
end

theorem Blk.storeAll {w : World} {b : Nat} {t : TypeId} {cs : Array Value} {P : Program} (h : Blk w b t cs) {ty : TypeId} {L : Array Value} (hi : (P.info? ty).map (·.size) = some L.size)
    (hb : cs.size = L.size) (h1 : ∀ v ∈ L.toList, v.oneCell' = true) :
    Sem.run P (Instr.storeAt ty (.pointer (some ⟨b, 0, none⟩)) (.agg L)) w = .ok () (w.setRow b L) := by
  obtain ⟨i, hi', hsz⟩ := Option.map_eq_some_iff.1 hi
  rw [h.storeAt hi' hsz (by omega) h1]
  have : cs.toList.drop (0 + L.size) = [] := List.drop_eq_nil_of_le (by simp; omega)
  rw [this]; simp
theorem Blk.rd {w : World} {b o : Nat} {t : TypeId} {cs : Array Value} (h : Blk w b t cs) {i : Nat} {v : Value} (hv : cs[o + i]? = some v) :
    w.cell? (Addr.add ⟨b, o, none⟩ (Int.toNat (i : Int))) = some v := by rw [Int.toNat_natCast, add_at, h.cell, hv]
theorem Blk.rd0 {w : World} {b : Nat} {t : TypeId} {cs : Array Value} (h : Blk w b t cs) {i : Nat} {v : Value} (hv : cs[i]? = some v) :
    w.cell? (Addr.add ⟨b, 0, none⟩ (Int.toNat (i : Int))) = some v := by rw [Int.toNat_natCast, add_at, h.cell, Nat.zero_add, hv]
theorem Blk.rd1 {w : World} {b i : Nat} {t : TypeId} {cs : Array Value} (h : Blk w b t cs) {v : Value} (hv : cs[i]? = some v) :
    w.cell? ⟨b, i, none⟩ = some v := by rw [h.cell, hv]
theorem Blk.canSet0 {w : World} {b : Nat} {t : TypeId} {cs : Array Value} (h : Blk w b t cs) {i : Nat} {v : Value} (hi : i < cs.size) (hv : v.oneCell' = true) : CanSet w (Addr.add ⟨b, 0, none⟩ (Int.toNat (i : Int))) v := by
  rw [Int.toNat_natCast, add_at, Nat.zero_add]; exact h.canSet hi hv
theorem IsSet.at {w w' : World} {b i : Nat} {v : Value} (h : IsSet w (Addr.add ⟨b, 0, none⟩ (Int.toNat (i : Int))) v w') : w' = w.setCell ⟨b, i, none⟩ v := by
  rw [IsSet, Int.toNat_natCast, add_at, Nat.zero_add] at h; exact h

/-- A counter that runs from nought up to N, and what holds at each stand. -/
def UpTo (N : Nat) (Inv : Nat → World → Prop) (n : Int) (w : World) : Prop := ∃ k : Nat, n = (k : Int) ∧ k ≤ N ∧ Inv k w
abbrev Left (N : Nat) (n : Int) (_ : World) : Nat := ((N : Int) - n).toNat
theorem loopN {w : World} {b : Int} {B : (Int → World → Prop) → (Int → World → Nat) → Int → (Nat → Value) → World → Prop} {K : Int → (Nat → Value) → World → Prop}
    (N : Nat) (Inv : Nat → World → Prop) (hb : b = (N : Int)) (h0 : Inv 0 w)
    (hB : ∀ (k : Nat) (j : Nat → Value) (w' : World), k < N → Inv k w' → B (UpTo N Inv) (Left N) (k : Int) j w')
    (hK : ∀ (j : Nat → Value) (w' : World), Inv N w' → K (N : Int) j w') :
    ∃ (I : Int → World → Prop) (μ : Int → World → Nat), I 0 w ∧ (∀ (n : Int) (j : Nat → Value) (w4 : World), I n w4 → ((n < b → B I μ n j w4) ∧ (¬ n < b → K n j w4))) := by
  subst hb
  refine ⟨UpTo N Inv, Left N, ⟨0, rfl, Nat.zero_le _, h0⟩, ?_⟩
  rintro _ j w' ⟨k, rfl, hk, hI⟩
  refine ⟨fun h => hB k j w' (by omega) hI, fun h => ?_⟩
  have : k = N := by omega
  subst this
  exact hK j w' hI
theorem UpTo.next {N : Nat} {Inv : Nat → World → Prop} {k : Nat} {m : Int} {w w' : World} (hm : m = ((k + 1 : Nat) : Int)) (hk : k < N) (h : Inv (k + 1) w') : UpTo N Inv m w' ∧ Left N m w' < Left N (k : Int) w := by
  subst hm
  exact ⟨⟨k + 1, rfl, hk, h⟩, by simp only [Left]; omega⟩

end Go.Vcg
end

section
namespace Go.Vcg

def arrOf (n : Nat) (f : Nat → Value) : Array Value := Array.ofFn (n := n) fun i => f i
@[simp] theorem size_arrOf (n : Nat) (f) : (arrOf n f).size = n := by simp [arrOf]
theorem get_arrOf (n : Nat) (f) (i : Nat) : (arrOf n f)[i]? = if i < n then some (f i) else none := by
  simp [arrOf, Array.getElem?_ofFn]
theorem get_arrOf_lt {n : Nat} {f} {i : Nat} (h : i < n) : (arrOf n f)[i]? = some (f i) := by rw [get_arrOf, if_pos h]
theorem arrOf_congr {n : Nat} {f g : Nat → Value} (h : ∀ i, i < n → f i = g i) : arrOf n f = arrOf n g := by
  apply Array.ext <;> simp [arrOf]
  exact fun i hi => h i hi
theorem eq_arrOf {n : Nat} {f : Nat → Value} {cs : Array Value} (hs : cs.size = n) (h : ∀ i, i < n → cs[i]? = some (f i)) : cs = arrOf n f := by
  apply Array.ext
  · simpa using hs
  · intro i h1 h2
    have := h i (by omega)
    rw [Array.getElem?_eq_getElem h1] at this
    simpa [arrOf] using this
theorem set_arrOf (n : Nat) (f : Nat → Value) (i : Nat) (v : Value) : (arrOf n f).setIfInBounds i v = arrOf n (fun j => if j = i then v else f j) := by
  apply Array.ext
  · simp
  · intro j h1 h2
    simp only [arrOf, Array.getElem_ofFn]
    rw [Array.getElem_setIfInBounds (by simpa using h1)]
    split <;> simp_all [eq_comm]
theorem replicate_arrOf (n : Nat) (v : Value) : Array.replicate n v = arrOf n (fun _ => v) := by
  apply Array.ext <;> simp [arrOf]

theorem splice_arrOf (n o m : Nat) (f g : Nat → Value) (h : o + m ≤ n) :
    ((arrOf n f).toList.take o ++ (arrOf m g).toList ++ (arrOf n f).toList.drop (o + m)).toArray = arrOf n (fun i => if i < o then f i else if i < o + m then g (i - o) else f i) := by
  have ef : ∀ n f, (arrOf n f).toList = (List.range n).map f := by
    intro n f
    apply List.ext_getElem?
    intro i
    rw [Array.getElem?_toList, get_arrOf, List.getElem?_map]
    by_cases hi : i < n
    · rw [if_pos hi, List.getElem?_range hi]; rfl
    · rw [if_neg hi, List.getElem?_eq_none (by simp; omega)]; rfl
  refine eq_arrOf ?_ (fun i hi => ?_)
  · simp [ef]; omega
  · rw [List.getElem?_toArray, ef, ef]
    have l1 : (List.take o ((List.range n).map f)).length = o := by simp; omega
    have l2 : (List.take o ((List.range n).map f) ++ (List.range m).map g).length = o + m := by rw [List.length_append, l1]; simp
    by_cases h1 : i < o
    · rw [if_pos h1, List.append_assoc, List.getElem?_append_left (by omega), List.getElem?_take, if_pos h1, List.getElem?_map, List.getElem?_range hi]; rfl
    · rw [if_neg h1]
      by_cases h2 : i < o + m
      · rw [if_pos h2, List.getElem?_append_left (by omega), List.getElem?_append_right (by omega), l1, List.getElem?_map, List.getElem?_range (by omega)]; rfl
      · rw [if_neg h2, List.getElem?_append_right (by omega), l2, List.getElem?_drop, List.getElem?_map, show o + m + (i - (o + m)) = i by omega, List.getElem?_range hi]; rfl

/-- A word as a value. -/
abbrev uI (x : BitVec 64) : Int := (x.toNat : Int)
abbrev uV (x : BitVec 64) : Value := .int .u64 (uI x)

theorem ofInt_uI (x : BitVec 64) : BitVec.ofInt 64 (uI x) = x := by
  apply BitVec.eq_of_toNat_eq
  simp
theorem wrap_u64 (n : Int) : IntKind.wrap .u64 n = n % 18446744073709551616 := by
  simp [IntKind.wrap, IntKind.bits, IntKind.signed]
theorem wrap_u64_nat (n : Nat) (h : n < 2 ^ 64) : IntKind.wrap .u64 (n : Int) = n := by
  rw [wrap_u64]; omega
theorem wrap_uI (x : BitVec 64) : IntKind.wrap .u64 (uI x) = uI x := wrap_u64_nat _ x.isLt
theorem bitsI_xor (x y : BitVec 64) : bitsI .xor .u64 (uI x) (uI y) = uI (x ^^^ y) := by
  simp only [bitsI, IntKind.bits, ofInt_uI]; exact wrap_uI _
theorem bitsI_and (x y : BitVec 64) : bitsI .and .u64 (uI x) (uI y) = uI (x &&& y) := by
  simp only [bitsI, IntKind.bits, ofInt_uI]; exact wrap_uI _
theorem bitsI_or (x y : BitVec 64) : bitsI .or .u64 (uI x) (uI y) = uI (x ||| y) := by
  simp only [bitsI, IntKind.bits, ofInt_uI]; exact wrap_uI _
theorem bitsI_not (x : BitVec 64) : bitsI .xor .u64 18446744073709551615 (uI x) = uI (~~~ x) := by
  have : (18446744073709551615 : Int) = uI (BitVec.allOnes 64) := by decide
  rw [this, bitsI_xor]
  congr 2
theorem shlI_u (x : BitVec 64) (n : Nat) : shlI .u64 (uI x) (n : Int) = uI (x <<< n) := by
  unfold shlI
  rw [wrap_u64]
  show (x.toNat : Int) * 2 ^ (min (Int.toNat (n : Int)) 64) % 18446744073709551616 = ((x <<< n).toNat : Int)
  rw [Int.toNat_natCast, BitVec.toNat_shiftLeft, Nat.shiftLeft_eq]
  by_cases h : n ≤ 64
  · rw [Nat.min_eq_left h]
    have e : (2 : Int) ^ n = ((2 ^ n : Nat) : Int) := by simp
    rw [e, ← Int.natCast_mul]
    omega
  · rw [Nat.min_eq_right (by omega)]
    have h0 : x.toNat * 2 ^ n % 2 ^ 64 = 0 := by
      have h1 : 2 ^ n = 2 ^ (n - 64) * 2 ^ 64 := by rw [← Nat.pow_add]; congr 1; omega
      rw [h1, ← Nat.mul_assoc, Nat.mul_mod_left]
    rw [h0]
    omega
theorem shrI_u (x : BitVec 64) (n : Nat) (k : IntKind) (hk : k.bits = 64) : shrI k (uI x) (n : Int) = uI (x >>> n) := by
  unfold shrI
  rw [hk, Int.toNat_natCast]
  show Int.fdiv (x.toNat : Int) (2 ^ (min n 64)) = ((x >>> n).toNat : Int)
  rw [BitVec.toNat_ushiftRight, Nat.shiftRight_eq_div_pow]
  have hx := x.isLt
  have e : ∀ m : Nat, (2 : Int) ^ m = ((2 ^ m : Nat) : Int) := by intro m; simp
  by_cases h : n ≤ 64
  · rw [Nat.min_eq_left h, e, Int.fdiv_eq_ediv_of_nonneg _ (Int.natCast_nonneg _), Int.natCast_ediv]
  · rw [Nat.min_eq_right (by omega), e, Int.fdiv_eq_ediv_of_nonneg _ (Int.natCast_nonneg _), ← Int.natCast_ediv]
    have h1 : x.toNat / 2 ^ n = 0 := Nat.div_eq_of_lt (Nat.lt_trans hx (Nat.pow_lt_pow_right (by decide) (by omega)))
    rw [h1, Nat.div_eq_of_lt hx]

theorem wrap_i64 (n : Int) : IntKind.wrap .i64 n = (n + 9223372036854775808) % 18446744073709551616 - 9223372036854775808 := by
  unfold IntKind.wrap
  show (if (true && decide (n % 18446744073709551616 ≥ 9223372036854775808)) = true then n % 18446744073709551616 - 18446744073709551616 else n % 18446744073709551616) = _
  simp only [Bool.true_and, decide_eq_true_eq]
  split <;> omega
theorem wrap_i64_small {n : Int} (h : -9223372036854775808 ≤ n) (h' : n < 9223372036854775808) : IntKind.wrap .i64 n = n := by
  rw [wrap_i64]; omega

theorem wrap_idem (k : IntKind) (n : Int) : IntKind.wrap k (IntKind.wrap k n) = IntKind.wrap k n := by
  cases k <;> simp only [IntKind.wrap, IntKind.bits, IntKind.signed] <;> grind
theorem tmod_nn (a b : Int) (h : 0 ≤ a) : Int.tmod a b = a % b := Int.tmod_eq_emod_of_nonneg h

/-! ### The round -/
abbrev St := Nat → BitVec 64
def lanesA (s : St) : Array Value := arrOf 25 (fun i => uV (s i))
theorem size_lanesA (s : St) : (lanesA s).size = 25 := size_arrOf _ _
theorem arrOf_one {n : Nat} {f : Nat → Value} (h : ∀ i, (f i).oneCell' = true) : ∀ v ∈ (arrOf n f).toList, v.oneCell' = true := by
  intro v hv
  simp only [arrOf, Array.mem_toList_iff, Array.mem_ofFn] at hv
  obtain ⟨i, rfl⟩ := hv
  exact h i
theorem lanesA_one (s : St) : ∀ v ∈ (lanesA s).toList, v.oneCell' = true := arrOf_one (fun _ => rfl)
theorem lanesA_congr {s r : St} (h : ∀ i, i < 25 → s i = r i) : lanesA s = lanesA r := arrOf_congr (fun i hi => by rw [h i hi])
theorem get_lanesA (s : St) {i : Nat} (h : i < 25) : (lanesA s)[i]? = some (uV (s i)) := get_arrOf_lt h

def turnsL : List Nat := [0, 1, 62, 28, 27, 36, 44, 6, 55, 20, 3, 10, 43, 25, 39, 41, 45, 15, 21, 8, 18, 2, 61, 56, 14]
def turnOf (i : Nat) : Nat := turnsL.getD i 0
def rcL : List (BitVec 64) := [0x0000000000000001, 0x0000000000008082, 0x800000000000808a, 0x8000000080008000, 0x000000000000808b, 0x0000000080000001, 0x8000000080008081, 0x8000000000008009, 0x000000000000008a, 0x0000000000000088, 0x0000000080008009, 0x000000008000000a, 0x000000008000808b, 0x800000000000008b, 0x8000000000008089, 0x8000000000008003, 0x8000000000008002, 0x8000000000000080, 0x000000000000800a, 0x800000008000000a, 0x8000000080008081, 0x8000000000008080, 0x0000000080000001, 0x8000000080008008]
def rcOf (i : Nat) : BitVec 64 := rcL.getD i 0
theorem turnOf_lt (i : Nat) : turnOf i < 64 := by
  unfold turnOf
  by_cases h : i < 25
  · have : ∀ i, i < 25 → turnsL.getD i 0 < 64 := by decide
    exact this i h
  · rw [List.getD_eq_getElem?_getD, List.getElem?_eq_none (by simp [turnsL]; omega)]; simp

def parK (s : St) (x : Nat) : Nat → BitVec 64
  | 0 => 0
  | k + 1 => parK s x k ^^^ s (x + 5 * k)
def par (s : St) (x : Nat) : BitVec 64 := parK s x 5
def ddK (s : St) (x : Nat) : BitVec 64 := par s ((x + 4) % 5) ^^^ (par s ((x + 1) % 5)).rotateLeft 1
def bbXY (s : St) (x y : Nat) : BitVec 64 := (s (x + 5 * y) ^^^ ddK s x).rotateLeft (turnOf (x + 5 * y))
def bbK (s : St) (j : Nat) : BitVec 64 := bbXY s ((j % 5 + 3 * (j / 5)) % 5) (j % 5)
def chiK (b : St) (j : Nat) : BitVec 64 := b j ^^^ (~~~ b ((j % 5 + 1) % 5 + 5 * (j / 5)) &&& b ((j % 5 + 2) % 5 + 5 * (j / 5)))
def rnd (n : Nat) (s : St) : St := fun j => if j = 0 then chiK (bbK s) 0 ^^^ rcOf n else chiK (bbK s) j
def rnds : Nat → St → St
  | 0, s => s
  | n + 1, s => rnd n (rnds n s)
def keccakF (s : St) : St := rnds 24 s

/-! ### The tables -/
def regOf : Nat → Nat
  | 0 => 1
  | k + 1 => if 2 * regOf k > 255 then (2 * regOf k - 256) ^^^ 0x71 else 2 * regOf k
/-- The register's values, in a row. -/
def regsL : List Nat := (List.range 169).map regOf
/-- A round's constant, its first j bits, joined by 'or'. -/
def rcPart (i : Nat) : Nat → BitVec 64
  | 0 => 0
  | j + 1 => rcPart i j ||| ((if regOf (7 * i + j) % 2 = 1 then (1 : BitVec 64) else 0) <<< (2 ^ j - 1))
/-- The same, joined by 'xor'. -/
def rcXor (i : Nat) : Nat → BitVec 64
  | 0 => 0
  | j + 1 => rcXor i j ^^^ ((if regOf (7 * i + j) % 2 = 1 then (1 : BitVec 64) else 0) <<< (2 ^ j - 1))
def xyOf : Nat → Nat × Nat
  | 0 => (1, 0)
  | t + 1 => ((xyOf t).2, (2 * (xyOf t).1 + 3 * (xyOf t).2) % 5)
/-- The turns after t steps. -/
def tarr : Nat → Nat → Nat
  | 0 => fun _ => 0
  | t + 1 => fun j => if j = (xyOf t).1 + 5 * (xyOf t).2 then (t + 1) * (t + 2) / 2 % 64 else tarr t j

theorem reg_lt : ∀ k : Nat, k < 169 → regOf k < 256 := by decide +kernel
theorem rcPart_end : ∀ i : Nat, i < 24 → rcPart i 7 = rcOf i := by decide +kernel
theorem rcXor_end : ∀ i : Nat, i < 24 → rcXor i 7 = rcOf i := by decide +kernel
theorem xy_lt : ∀ t : Nat, t < 25 → (xyOf t).1 < 5 ∧ (xyOf t).2 < 5 := by decide +kernel
theorem tarr_end : ∀ j : Nat, j < 25 → tarr 24 j = turnOf j := by decide +kernel
theorem reg_next : ∀ k : Nat, k < 168 → (regOf k * 2 > 255 → bitsI .xor .i64 ((regOf k * 2 - 256 : Nat) : Int) 113 = (regOf (k + 1) : Int)) := by decide +kernel
theorem reg_next' (k : Nat) (h : ¬ regOf k * 2 > 255) : regOf (k + 1) = regOf k * 2 := by
  rw [regOf, if_neg (by omega)]; omega
theorem reg_and : ∀ k : Nat, k < 168 → bitsI .and .i64 (regOf k : Int) 1 = (regOf k % 2 : Nat) := by decide +kernel
theorem pow_sh : ∀ j : Nat, j < 7 → IntKind.wrap .u64 (shlI .u64 1 (j : Int) - 1) = ((2 ^ j - 1 : Nat) : Int) := by decide +kernel
theorem turn_num : ∀ t : Nat, t < 24 → Int.tmod (IntKind.wrap .i64 (Int.tdiv (IntKind.wrap .i64 ((IntKind.wrap .i64 ((t : Int) + 1)) * (IntKind.wrap .i64 ((t : Int) + 2)))) 2)) 64 = (((t + 1) * (t + 2) / 2 % 64 : Nat) : Int) := by decide +kernel

end Go.Vcg
end
