/- The verification conditions of some functions, printed by a program of ours (wip/PrintVc.lean). -/
/- Contracts: collapsed. -/
import Derived.Test.YtfghidehlnfdiaaTV
import Derived.Test.YtfghidehlnfdiaaProg
import Derived.KernelRfl
import Derived.Test.YtfghidehlnfdiaaTP17
section
set_option linter.unusedVariables false
namespace Go.Proofs.Ytfghidehlnfdiaa
open Go Go.Vcg
/-! (*moraine/trie.Trie).remove: 96 -/
abbrev trie_Trie_remove.n : Nat := 96
def trie_Trie_remove.Vc (d0 : Addr) (v1 : Value) (o2 : Option Addr) (l2 : Nat) (c2 : Nat) (w : World) (R : Ending → World → Prop) : Prop :=
  Calls Try.prog 98 #[(.pointer (some d0)), v1] w (fun e3 w4 =>
    ∃ v5 : Value, ∃ n6 : Int, e3 = .returned (.tuple #[v5, (.int .i64 n6)]) ∧
    (((n6 ≠ 0 →
      R (.returned (.tuple #[.nilIface, (.bool false), (.int .i64 n6)])) w4)) ∧
     ((n6 = 0 →
      ∃ v7 : Value, Sem.run Try.prog (Instr.typeAssert v5 145 171 true) w4 = .ok v7 w4 ∧
      ∃ o8 : Option Addr, ∃ b9 : Bool, v7 = (.tuple #[(.pointer o8), (.bool b9)]) ∧
      (((b9 = true →
        ∃ d10 : Addr, o8 = some d10 ∧
        ∃ o11 : Option Addr, ∃ l12 : Nat, ∃ l13 : Nat, World.cell? w4 d10 = some (.slice o11 l12 l13) ∧
        Calls Try.prog 87 #[(.slice o11 l12 l13), (.slice o2 l2 c2)] w4 (fun e14 w15 =>
          ∃ b16 : Bool, e14 = .returned (.bool b16) ∧
          (((b16 = true →
            R (.returned (.tuple #[.nilIface, (.bool true), (.int .i64 0)])) w15)) ∧
           ((b16 = false →
            R (.returned (.tuple #[v1, (.bool false), (.int .i64 0)])) w15)))))) ∧
       ((b9 = false →
        ∃ v17 : Value, Sem.run Try.prog (Instr.typeAssert v5 145 152 true) w4 = .ok v17 w4 ∧
        ∃ o18 : Option Addr, ∃ b19 : Bool, v17 = (.tuple #[(.pointer o18), (.bool b19)]) ∧
        (((b19 = true →
          ∃ d20 : Addr, o18 = some d20 ∧
          ∃ o21 : Option Addr, ∃ l22 : Nat, ∃ l23 : Nat, World.cell? w4 d20 = some (.slice o21 l22 l23) ∧
          Calls Try.prog 100 #[(.slice o2 l2 c2), (.slice o21 l22 l23)] w4 (fun e24 w25 =>
            ∃ o26 : Option Addr, ∃ l27 : Nat, ∃ l28 : Nat, ∃ b29 : Bool, e24 = .returned (.tuple #[(.slice o26 l27 l28), (.bool b29)]) ∧
            (((b29 = false →
              R (.returned (.tuple #[v1, (.bool false), (.int .i64 0)])) w25)) ∧
             ((b29 = true →
              ∃ d30 : Addr, o18 = some d30 ∧
              ∃ v31 : Value, World.cell? w25 (Addr.add d30 1) = some v31 ∧
              Calls Try.prog 96 #[(.pointer (some d0)), v31, (.slice o26 l27 l28)] w25 (fun e32 w33 =>
                ∃ v34 : Value, ∃ b35 : Bool, ∃ n36 : Int, e32 = .returned (.tuple #[v34, (.bool b35), (.int .i64 n36)]) ∧
                (((n36 ≠ 0 →
                  R (.returned (.tuple #[v1, (.bool false), (.int .i64 n36)])) w33)) ∧
                 ((n36 = 0 →
                  (((b35 = false →
                    R (.returned (.tuple #[v1, (.bool false), (.int .i64 n36)])) w33)) ∧
                   ((b35 = true →
                    ((v34 = .nilIface ∧
                     R (.returned (.tuple #[.nilIface, (.bool true), (.int .i64 0)])) w33) ∨
                     (IsIface v34 ∧
                     ∃ d37 : Addr, o18 = some d37 ∧
                     ∃ o38 : Option Addr, ∃ l39 : Nat, ∃ l40 : Nat, World.cell? w33 d37 = some (.slice o38 l39 l40) ∧
                     Calls Try.prog 122 #[(.slice o38 l39 l40), v34] w33 (fun e41 w42 =>
                       ∃ v43 : Value, e41 = .returned v43 ∧
                       R (.returned (.tuple #[v43, (.bool true), (.int .i64 0)])) w42)))))))))))))))) ∧
         ((b19 = false →
          ∃ v44 : Value, Sem.run Try.prog (Instr.typeAssert v5 145 155 true) w4 = .ok v44 w4 ∧
          ∃ o45 : Option Addr, ∃ b46 : Bool, v44 = (.tuple #[(.pointer o45), (.bool b46)]) ∧
          (((b46 = true →
            Calls Try.prog 123 #[(.pointer (some d0)), v1, (.pointer o45), (.slice o2 l2 c2)] w4 (fun e47 w48 =>
              ∃ v49 : Value, ∃ b50 : Bool, ∃ n51 : Int, e47 = .returned (.tuple #[v49, (.bool b50), (.int .i64 n51)]) ∧
              R (.returned (.tuple #[v49, (.bool b50), (.int .i64 n51)])) w48))) ∧
           ((b46 = false →
            R (.returned (.tuple #[v1, (.bool false), (.int .i64 0)])) w4)))))))))))))
theorem trie_Trie_remove.vc (d0 : Addr) (v1 : Value) (o2 : Option Addr) (l2 : Nat) (c2 : Nat) (w : World) (R : Ending → World → Prop) (h : trie_Trie_remove.Vc d0 v1 o2 l2 c2 w R) : Calls Try.prog 96 #[(.pointer (some d0)), v1, (.slice o2 l2 c2)] w R :=
  execF_sound (ann := []) (args := [.addr d0, .raw v1, .slice o2 l2 c2]) Try.func96 mixed (Eq.mp (by kernel_rfl : trie_Trie_remove.Vc d0 v1 o2 l2 c2 w R = execF (pA Try.prog R) Try.prog [] Try.f96 [.addr d0, .raw v1, .slice o2 l2 c2] w) h)

/-! (*moraine/trie.Trie).pruned: 123 -/
abbrev trie_Trie_pruned.n : Nat := 123
def trie_Trie_pruned.Vc (d0 : Addr) (v1 : Value) (d2 : Addr) (o3 : Option Addr) (l3 : Nat) (c3 : Nat) (w : World) (R : Ending → World → Prop) : Prop :=
  ∃ L4 : Array Value, RowAt w d2 17 L4 ∧
  ∀ (d5 : Addr) (w6 : World), IsNew w 158 #[.nilIface, .nilIface, .nilIface, .nilIface, .nilIface, .nilIface, .nilIface, .nilIface, .nilIface, .nilIface, .nilIface, .nilIface, .nilIface, .nilIface, .nilIface, .nilIface, (.slice none 0 0)] d5 w6 →
  ∃ w7 : World, Sem.run Try.prog (Instr.storeAt 158 (.pointer (some d5)) (.agg L4)) w6 = .ok () w7 ∧
  ∃ (J8 : World → Prop), ((((((l3 : Nat) : Int) = 0 →
     ∃ o9 : Option Addr, ∃ l10 : Nat, ∃ l11 : Nat, World.cell? w7 (Addr.add d2 16) = some (.slice o9 l10 l11) ∧
     (((((l10 : Nat) : Int) = 0 →
       R (.returned (.tuple #[v1, (.bool false), (.int .i64 0)])) w7)) ∧
      ((((l10 : Nat) : Int) ≠ 0 →
       CanSet w7 (Addr.add d5 16) (.slice none 0 0) ∧ ∀ w12 : World, IsSet w7 (Addr.add d5 16) (.slice none 0 0) w12 →
       J8  w12))))) ∧
    ((((l3 : Nat) : Int) ≠ 0 →
     ∀ w13 : World, IsDrew w7 w13 →
     ∃ d14 : Addr, o3 = some d14 ∧
     ((0 : Int) ≤ 0 ∧ 0 < ((l3 : Nat) : Int)) ∧
     ∃ n15 : Int, World.cell? w13 (Addr.add d14 0) = some (.int .u8 n15) ∧
     ((0 : Int) ≤ n15 ∧ n15 < ((16 : Nat) : Int)) ∧
     ∃ v16 : Value, World.cell? w13 (Addr.add d2 (Int.toNat n15)) = some v16 ∧
     1 ≤ l3 ∧
     Calls Try.prog 96 #[(.pointer (some d0)), v16, (.slice (subO o3 c3 1 1) (l3 - 1) (c3 - 1))] w13 (fun e17 w18 =>
       ∃ v19 : Value, ∃ b20 : Bool, ∃ n21 : Int, e17 = .returned (.tuple #[v19, (.bool b20), (.int .i64 n21)]) ∧
       (((n21 ≠ 0 →
         R (.returned (.tuple #[v1, (.bool false), (.int .i64 n21)])) w18)) ∧
        ((n21 = 0 →
         (((b20 = false →
           R (.returned (.tuple #[v1, (.bool false), (.int .i64 n21)])) w18)) ∧
          ((b20 = true →
           ∃ d22 : Addr, o3 = some d22 ∧
           ((0 : Int) ≤ 0 ∧ 0 < ((l3 : Nat) : Int)) ∧
           ∃ n23 : Int, World.cell? w18 (Addr.add d22 0) = some (.int .u8 n23) ∧
           ((0 : Int) ≤ n23 ∧ n23 < ((16 : Nat) : Int)) ∧
           CanSet w18 (Addr.add d5 (Int.toNat n23)) v19 ∧ ∀ w24 : World, IsSet w18 (Addr.add d5 (Int.toNat n23)) v19 w24 →
           J8  w24))))))))))) ∧
  (∀  (j25 : Nat → Value) (w25 : World), J8  w25 →
    Calls Try.prog 137 #[(.pointer (some d0)), (.pointer (some d5))] w25 (fun e26 w27 =>
      ∃ v28 : Value, ∃ n29 : Int, e26 = .returned (.tuple #[v28, (.int .i64 n29)]) ∧
      R (.returned (.tuple #[v28, (.bool (decide (n29 = 0))), (.int .i64 n29)])) w27))
theorem trie_Trie_pruned.vc (d0 : Addr) (v1 : Value) (d2 : Addr) (o3 : Option Addr) (l3 : Nat) (c3 : Nat) (w : World) (R : Ending → World → Prop) (h : trie_Trie_pruned.Vc d0 v1 d2 o3 l3 c3 w R) : Calls Try.prog 123 #[(.pointer (some d0)), v1, (.pointer (some d2)), (.slice o3 l3 c3)] w R :=
  execF_sound (ann := [(1000010, [])]) (args := [.addr d0, .raw v1, .addr d2, .slice o3 l3 c3]) Try.func123 mixed (Eq.mp (by kernel_rfl : trie_Trie_pruned.Vc d0 v1 d2 o3 l3 c3 w R = execF (pA Try.prog R) Try.prog [(1000010, [])] Try.f123 [.addr d0, .raw v1, .addr d2, .slice o3 l3 c3] w) h)

/-! (*moraine/trie.Trie).collapsed: 137 -/
abbrev trie_Trie_collapsed.n : Nat := 137
def trie_Trie_collapsed.Vc (d0 : Addr) (d1 : Addr) (w : World) (R : Ending → World → Prop) : Prop :=
  ∃ L2 : Array Value, RowAt w d1 16 L2 ∧
  ∃ (I3 : Int → Int → Int → World → Prop) (μ3 : Int → Int → Int → World → Nat), I3 (-1) 0 0 w ∧
  (∀ (n4 : Int) (n5 : Int) (n6 : Int) (j7 : Nat → Value) (w7 : World), I3 n4 n5 n6 w7 →
    (((n6 < 16 →
      ∃ v8 : Value, Sem.run Try.prog (Instr.index 156 (.agg L2) (.int .i64 n6)) w7 = .ok v8 w7 ∧
      ∃ v9 : Value, v8 = v9 ∧
      ((v9 = .nilIface ∧
       I3 n4 n5 (IntKind.wrap .i64 (n6 + 1)) w7 ∧ μ3 n4 n5 (IntKind.wrap .i64 (n6 + 1)) w7 < μ3 n4 n5 n6 w7) ∨
       (IsIface v9 ∧
       I3 n6 (IntKind.wrap .i64 (n5 + 1)) (IntKind.wrap .i64 (n6 + 1)) w7 ∧ μ3 n6 (IntKind.wrap .i64 (n5 + 1)) (IntKind.wrap .i64 (n6 + 1)) w7 < μ3 n4 n5 n6 w7)))) ∧
     ((¬ n6 < 16 →
      ∃ (J10 : World → Prop), ((((n5 > 1 →
         R (.returned (.tuple #[(.iface 155 (.pointer (some d1))), (.int .i64 0)])) w7)) ∧
        ((¬ n5 > 1 →
         (((n5 = 1 →
           ∃ o11 : Option Addr, ∃ l12 : Nat, ∃ l13 : Nat, World.cell? w7 (Addr.add d1 16) = some (.slice o11 l12 l13) ∧
           (((((l12 : Nat) : Int) > 0 →
             R (.returned (.tuple #[(.iface 155 (.pointer (some d1))), (.int .i64 0)])) w7)) ∧
            ((¬ ((l12 : Nat) : Int) > 0 →
             (((n5 = 0 →
               ∃ o14 : Option Addr, ∃ l15 : Nat, ∃ l16 : Nat, World.cell? w7 (Addr.add d1 16) = some (.slice o14 l15 l16) ∧
               ∀ (d17 : Addr) (w18 : World), IsNew w7 177 #[(.slice none 0 0), (.slice o14 l15 l16)] d17 w18 →
               R (.returned (.tuple #[(.iface 171 (.pointer (some d17))), (.int .i64 0)])) w18)) ∧
              ((n5 ≠ 0 →
               J10  w7)))))))) ∧
          ((n5 ≠ 1 →
           (((n5 = 0 →
             ∃ o19 : Option Addr, ∃ l20 : Nat, ∃ l21 : Nat, World.cell? w7 (Addr.add d1 16) = some (.slice o19 l20 l21) ∧
             ∀ (d22 : Addr) (w23 : World), IsNew w7 177 #[(.slice none 0 0), (.slice o19 l20 l21)] d22 w23 →
             R (.returned (.tuple #[(.iface 171 (.pointer (some d22))), (.int .i64 0)])) w23)) ∧
            ((n5 ≠ 0 →
             J10  w7)))))))))) ∧
      (∀  (j24 : Nat → Value) (w24 : World), J10  w24 →
        ((0 : Int) ≤ n4 ∧ n4 < ((16 : Nat) : Int)) ∧
        ∃ v25 : Value, World.cell? w24 (Addr.add d1 (Int.toNat n4)) = some v25 ∧
        Calls Try.prog 98 #[(.pointer (some d0)), v25] w24 (fun e26 w27 =>
          ∃ v28 : Value, ∃ n29 : Int, e26 = .returned (.tuple #[v28, (.int .i64 n29)]) ∧
          (((n29 ≠ 0 →
            R (.returned (.tuple #[.nilIface, (.int .i64 n29)])) w27)) ∧
           ((n29 = 0 →
            ∀ (d30 : Addr) (w31 : World), IsNew w27 5 #[(.int .u8 (IntKind.wrap .u8 n4))] d30 w31 →
            ∃ v32 : Value, Sem.run Try.prog (Instr.typeAssert v28 145 155 true) w31 = .ok v32 w31 ∧
            ∃ o33 : Option Addr, ∃ b34 : Bool, v32 = (.tuple #[(.pointer o33), (.bool b34)]) ∧
            (((b34 = true →
              ((0 : Int) ≤ n4 ∧ n4 < ((16 : Nat) : Int)) ∧
              ∃ v35 : Value, World.cell? w31 (Addr.add d1 (Int.toNat n4)) = some v35 ∧
              Value.oneCell' v35 = true ∧
              ∀ (d36 : Addr) (w37 : World), IsNew w31 154 #[(.slice (some d30) 1 1), v35] d36 w37 →
              R (.returned (.tuple #[(.iface 152 (.pointer (some d36))), (.int .i64 0)])) w37)) ∧
             ((b34 = false →
              Calls Try.prog 122 #[(.slice (some d30) 1 1), v28] w31 (fun e38 w39 =>
                ∃ v40 : Value, e38 = .returned v40 ∧
                R (.returned (.tuple #[v40, (.int .i64 0)])) w39)))))))))))))
theorem trie_Trie_collapsed.vc (d0 : Addr) (d1 : Addr) (w : World) (R : Ending → World → Prop) (h : trie_Trie_collapsed.Vc d0 d1 w R) : Calls Try.prog 137 #[(.pointer (some d0)), (.pointer (some d1))] w R :=
  execF_sound (ann := [(3, [(6, .cell (.int .i64)), (7, .cell (.int .i64)), (19, .cell (.int .i64))]), (1000014, [])]) (args := [.addr d0, .addr d1]) Try.func137 mixed (Eq.mp (by kernel_rfl : trie_Trie_collapsed.Vc d0 d1 w R = execF (pA Try.prog R) Try.prog [(3, [(6, .cell (.int .i64)), (7, .cell (.int .i64)), (19, .cell (.int .i64))]), (1000014, [])] Try.f137 [.addr d0, .addr d1] w) h)

/-! (*moraine/trie.Trie).Delete: 57 -/
abbrev trie_Trie_Delete.n : Nat := 57
def trie_Trie_Delete.Vc (d0 : Addr) (o1 : Option Addr) (l1 : Nat) (c1 : Nat) (w : World) (R : Ending → World → Prop) : Prop :=
  (((((l1 : Nat) : Int) > 64 →
    R (.returned (.int .i64 140)) w)) ∧
   ((¬ ((l1 : Nat) : Int) > 64 →
    ∀ w2 : World, IsDrew w w2 →
    ∃ v3 : Value, World.cell? w2 d0 = some v3 ∧
    Calls Try.prog 40 #[(.slice o1 l1 c1)] w2 (fun e4 w5 =>
      ∃ o6 : Option Addr, ∃ l7 : Nat, ∃ l8 : Nat, e4 = .returned (.slice o6 l7 l8) ∧
      World.cell? w5 d0 = some v3 ∧
      Calls Try.prog 96 #[(.pointer (some d0)), v3, (.slice o6 l7 l8)] w5 (fun e9 w10 =>
        ∃ v11 : Value, ∃ b12 : Bool, ∃ n13 : Int, e9 = .returned (.tuple #[v11, (.bool b12), (.int .i64 n13)]) ∧
        (((n13 = 0 →
          (((b12 = true →
            CanSet w10 d0 v11 ∧ ∀ w14 : World, IsSet w10 d0 v11 w14 →
            R (.returned (.int .i64 n13)) w14)) ∧
           ((b12 = false →
            R (.returned (.int .i64 n13)) w10))))) ∧
         ((n13 ≠ 0 →
          R (.returned (.int .i64 n13)) w10))))))))
theorem trie_Trie_Delete.vc (d0 : Addr) (o1 : Option Addr) (l1 : Nat) (c1 : Nat) (w : World) (R : Ending → World → Prop) (h : trie_Trie_Delete.Vc d0 o1 l1 c1 w R) : Calls Try.prog 57 #[(.pointer (some d0)), (.slice o1 l1 c1)] w R :=
  execF_sound (ann := []) (args := [.addr d0, .slice o1 l1 c1]) Try.func57 mixed (Eq.mp (by kernel_rfl : trie_Trie_Delete.Vc d0 o1 l1 c1 w R = execF (pA Try.prog R) Try.prog [] Try.f57 [.addr d0, .slice o1 l1 c1] w) h)

/-! (*moraine/trie.Trie).Nodes: 60 -/
abbrev trie_Trie_Nodes.n : Nat := 60
def trie_Trie_Nodes.Vc (d0 : Addr) (w : World) (R : Ending → World → Prop) : Prop :=
  ∀ (d1 : Addr) (w2 : World), IsNew w 49 #[(.slice none 0 0)] d1 w2 →
  ∃ (v3 : Value) (w4 : World), Sem.run Try.prog (Instr.makeMap 169 none) w2 = .ok v3 w4 ∧
  ∃ m5 : Option Nat, v3 = (.map m5) ∧
  ∀ (d6 : Addr) (w7 : World), IsNew w4 169 #[(.map none)] d6 w7 →
  CanSet w7 d6 (.map m5) ∧ ∀ w8 : World, IsSet w7 d6 (.map m5) w8 →
  ∀ (d9 : Addr) (w10 : World), IsNew w8 170 #[.nilFunc] d9 w10 →
  CanSet w10 d9 (.func (.func 97) #[] #[(.pointer (some d9)), (.pointer (some d6)), (.pointer (some d1))]) ∧ ∀ w11 : World, IsSet w10 d9 (.func (.func 97) #[] #[(.pointer (some d9)), (.pointer (some d6)), (.pointer (some d1))]) w11 →
  ∀ w12 : World, IsDrew w11 w12 →
  ∃ v13 : Value, World.cell? w12 d9 = some v13 ∧
  ∃ v14 : Value, World.cell? w12 d0 = some v14 ∧
  CallsV Try.prog v13 #[v14, (.bool true)] w12 (fun e15 w16 =>
    e15 = .returned (.tuple #[]) ∧
    ∃ o17 : Option Addr, ∃ l18 : Nat, ∃ l19 : Nat, World.cell? w16 d1 = some (.slice o17 l18 l19) ∧
    R (.returned (.slice o17 l18 l19)) w16)
theorem trie_Trie_Nodes.vc (d0 : Addr) (w : World) (R : Ending → World → Prop) (h : trie_Trie_Nodes.Vc d0 w R) : Calls Try.prog 60 #[(.pointer (some d0))] w R :=
  execF_sound (ann := []) (args := [.addr d0]) Try.func60 mixed (Eq.mp (by kernel_rfl : trie_Trie_Nodes.Vc d0 w R = execF (pA Try.prog R) Try.prog [] Try.f60 [.addr d0] w) h)

/-! (*moraine/trie.Trie).Nodes$1: 97 -/
abbrev trie_Trie_Nodes_1.n : Nat := 97
def trie_Trie_Nodes_1.Vc (v0 : Value) (b1 : Bool) (d2 : Addr) (d3 : Addr) (d4 : Addr) (w : World) (R : Ending → World → Prop) : Prop :=
  ∃ (J5 : World → Prop), (((v0 = .nilIface ∧
    ∃ v6 : Value, Sem.run Try.prog (Instr.typeAssert v0 145 149 true) w = .ok v6 w ∧
    ∃ o7 : Option Addr, ∃ b8 : Bool, v6 = (.tuple #[(.pointer o7), (.bool b8)]) ∧
    R (.returned (.tuple #[])) w) ∨
    (IsIface v0 ∧
    ∃ v9 : Value, Sem.run Try.prog (Instr.typeAssert v0 145 149 true) w = .ok v9 w ∧
    ∃ o10 : Option Addr, ∃ b11 : Bool, v9 = (.tuple #[(.pointer o10), (.bool b11)]) ∧
    (((b11 = true →
      R (.returned (.tuple #[])) w)) ∧
     ((b11 = false →
      ∃ v12 : Value, Sem.run Try.prog (Instr.typeAssert v0 145 152 true) w = .ok v12 w ∧
      ∃ o13 : Option Addr, ∃ b14 : Bool, v12 = (.tuple #[(.pointer o13), (.bool b14)]) ∧
      (((b14 = true →
        ∀ w15 : World, IsDrew w w15 →
        ∃ v16 : Value, World.cell? w15 d2 = some v16 ∧
        ∃ d17 : Addr, o13 = some d17 ∧
        ∃ v18 : Value, World.cell? w15 (Addr.add d17 1) = some v18 ∧
        CallsV Try.prog v16 #[v18, (.bool false)] w15 (fun e19 w20 =>
          e19 = .returned (.tuple #[]) ∧
          J5  w20))) ∧
       ((b14 = false →
        ∃ v21 : Value, Sem.run Try.prog (Instr.typeAssert v0 145 155 true) w = .ok v21 w ∧
        ∃ o22 : Option Addr, ∃ b23 : Bool, v21 = (.tuple #[(.pointer o22), (.bool b23)]) ∧
        (((b23 = true →
          ∃ d24 : Addr, o22 = some d24 ∧
          ∃ L25 : Array Value, RowAt w d24 16 L25 ∧
          ∃ (I26 : Int → World → Prop) (μ26 : Int → World → Nat), I26 0 w ∧
          (∀ (n27 : Int) (j28 : Nat → Value) (w28 : World), I26 n27 w28 →
            (((n27 < 16 →
              ∃ v29 : Value, Sem.run Try.prog (Instr.index 156 (.agg L25) (.int .i64 n27)) w28 = .ok v29 w28 ∧
              ∃ v30 : Value, v29 = v30 ∧
              ∃ v31 : Value, World.cell? w28 d2 = some v31 ∧
              CallsV Try.prog v31 #[v30, (.bool false)] w28 (fun e32 w33 =>
                e32 = .returned (.tuple #[]) ∧
                I26 (IntKind.wrap .i64 (n27 + 1)) w33 ∧ μ26 (IntKind.wrap .i64 (n27 + 1)) w33 < μ26 n27 w28))) ∧
             ((¬ n27 < 16 →
              J5  w28)))))) ∧
         ((b23 = false →
          ∃ v34 : Value, Sem.run Try.prog (Instr.typeAssert v0 145 171 true) w = .ok v34 w ∧
          ∃ o35 : Option Addr, ∃ b36 : Bool, v34 = (.tuple #[(.pointer o35), (.bool b36)]) ∧
          (((b36 = true →
            J5  w)) ∧
           ((b36 = false →
            J5  w))))))))))))))) ∧
  (∀  (j37 : Nat → Value) (w37 : World), J5  w37 →
    Calls Try.prog 94 #[v0] w37 (fun e38 w39 =>
      ∃ o40 : Option Addr, ∃ l41 : Nat, ∃ l42 : Nat, e38 = .returned (.slice o40 l41 l42) ∧
      ∀ (d43 : Addr) (w44 : World), IsNew w39 22 #[(.slice o40 l41 l42)] d43 w44 →
      Calls Try.prog 19 #[(.slice (some d43) 1 1)] w44 (fun e45 w46 =>
        ∃ L47 : Array Value, e45 = .returned (.agg L47) ∧
        ∀ (d48 : Addr) (w49 : World), IsNew w46 26 (Array.replicate 32 (.int .u8 0)) d48 w49 →
        ∃ w50 : World, Sem.run Try.prog (Instr.storeAt 26 (.pointer (some d48)) (.agg L47)) w49 = .ok () w50 ∧
        ∃ m51 : Option Nat, World.cell? w50 d3 = some (.map m51) ∧
        ∃ L52 : Array Value, RowAt w50 d48 32 L52 ∧
        ∃ v53 : Value, Sem.run Try.prog (Instr.lookup 169 (.map m51) (.agg L52) true) w50 = .ok v53 w50 ∧
        ∃ b54 : Bool, v53 = (.tuple #[(.agg #[]), (.bool b54)]) ∧
        ∀ (d55 : Addr) (w56 : World), IsNew w50 172 #[] d55 w56 →
        (((b54 = true →
          R (.returned (.tuple #[])) w56)) ∧
         ((b54 = false →
          (((b1 = false →
            (((((l41 : Nat) : Int) < 32 →
              R (.returned (.tuple #[])) w56)) ∧
             ((¬ ((l41 : Nat) : Int) < 32 →
              ∃ m57 : Option Nat, World.cell? w56 d3 = some (.map m57) ∧
              ∃ L58 : Array Value, RowAt w56 d48 32 L58 ∧
              ∃ w59 : World, Sem.run Try.prog (Instr.mapUpdate 169 (.map m57) (.agg L58) (.agg #[])) w56 = .ok () w59 ∧
              ∃ o60 : Option Addr, ∃ l61 : Nat, ∃ l62 : Nat, World.cell? w59 d4 = some (.slice o60 l61 l62) ∧
              ∃ L63 : Array Value, RowAt w59 d48 32 L63 ∧
              Array.size L63 = 32 ∧
              Array.size (setsAt (lputL #[(.int .u8 0), (.int .u8 0), (.int .u8 0), (.int .u8 0), (.int .u8 0), (.int .u8 0), (.int .u8 0), (.int .u8 0), (.int .u8 0), (.int .u8 0), (.int .u8 0), (.int .u8 0), (.int .u8 0), (.int .u8 0), (.int .u8 0), (.int .u8 0), (.int .u8 0), (.int .u8 0), (.int .u8 0), (.int .u8 0), (.int .u8 0), (.int .u8 0), (.int .u8 0), (.int .u8 0), (.int .u8 0), (.int .u8 0), (.int .u8 0), (.int .u8 0), (.int .u8 0), (.int .u8 0), (.int .u8 0), (.int .u8 0), (.slice none 0 0)] 0 32 L63) 32 [(.slice o40 l41 l42)]) = 33 ∧
              ∀ (d64 : Addr) (w65 : World), IsNew w59 104 (lputL #[(.int .u8 0), (.int .u8 0), (.int .u8 0), (.int .u8 0), (.int .u8 0), (.int .u8 0), (.int .u8 0), (.int .u8 0), (.int .u8 0), (.int .u8 0), (.int .u8 0), (.int .u8 0), (.int .u8 0), (.int .u8 0), (.int .u8 0), (.int .u8 0), (.int .u8 0), (.int .u8 0), (.int .u8 0), (.int .u8 0), (.int .u8 0), (.int .u8 0), (.int .u8 0), (.int .u8 0), (.int .u8 0), (.int .u8 0), (.int .u8 0), (.int .u8 0), (.int .u8 0), (.int .u8 0), (.int .u8 0), (.int .u8 0), (.slice none 0 0)] 0 33 (setsAt (lputL #[(.int .u8 0), (.int .u8 0), (.int .u8 0), (.int .u8 0), (.int .u8 0), (.int .u8 0), (.int .u8 0), (.int .u8 0), (.int .u8 0), (.int .u8 0), (.int .u8 0), (.int .u8 0), (.int .u8 0), (.int .u8 0), (.int .u8 0), (.int .u8 0), (.int .u8 0), (.int .u8 0), (.int .u8 0), (.int .u8 0), (.int .u8 0), (.int .u8 0), (.int .u8 0), (.int .u8 0), (.int .u8 0), (.int .u8 0), (.int .u8 0), (.int .u8 0), (.int .u8 0), (.int .u8 0), (.int .u8 0), (.int .u8 0), (.slice none 0 0)] 0 32 L63) 32 [(.slice o40 l41 l42)])) d64 w65 →
              ∃ (v66 : Value) (w67 : World), Sem.run Try.prog (builtinV .append #[49, 49] 49 #[(.slice o60 l61 l62), (.slice (some d64) 1 1)]) w65 = .ok v66 w67 ∧
              ∃ o68 : Option Addr, ∃ l69 : Nat, ∃ l70 : Nat, v66 = (.slice o68 l69 l70) ∧
              CanSet w67 d4 (.slice o68 l69 l70) ∧ ∀ w71 : World, IsSet w67 d4 (.slice o68 l69 l70) w71 →
              R (.returned (.tuple #[])) w71))))) ∧
           ((b1 = true →
            ∃ m72 : Option Nat, World.cell? w56 d3 = some (.map m72) ∧
            ∃ L73 : Array Value, RowAt w56 d48 32 L73 ∧
            ∃ w74 : World, Sem.run Try.prog (Instr.mapUpdate 169 (.map m72) (.agg L73) (.agg #[])) w56 = .ok () w74 ∧
            ∃ o75 : Option Addr, ∃ l76 : Nat, ∃ l77 : Nat, World.cell? w74 d4 = some (.slice o75 l76 l77) ∧
            ∃ L78 : Array Value, RowAt w74 d48 32 L78 ∧
            Array.size L78 = 32 ∧
            Array.size (setsAt (lputL #[(.int .u8 0), (.int .u8 0), (.int .u8 0), (.int .u8 0), (.int .u8 0), (.int .u8 0), (.int .u8 0), (.int .u8 0), (.int .u8 0), (.int .u8 0), (.int .u8 0), (.int .u8 0), (.int .u8 0), (.int .u8 0), (.int .u8 0), (.int .u8 0), (.int .u8 0), (.int .u8 0), (.int .u8 0), (.int .u8 0), (.int .u8 0), (.int .u8 0), (.int .u8 0), (.int .u8 0), (.int .u8 0), (.int .u8 0), (.int .u8 0), (.int .u8 0), (.int .u8 0), (.int .u8 0), (.int .u8 0), (.int .u8 0), (.slice none 0 0)] 0 32 L78) 32 [(.slice o40 l41 l42)]) = 33 ∧
            ∀ (d79 : Addr) (w80 : World), IsNew w74 104 (lputL #[(.int .u8 0), (.int .u8 0), (.int .u8 0), (.int .u8 0), (.int .u8 0), (.int .u8 0), (.int .u8 0), (.int .u8 0), (.int .u8 0), (.int .u8 0), (.int .u8 0), (.int .u8 0), (.int .u8 0), (.int .u8 0), (.int .u8 0), (.int .u8 0), (.int .u8 0), (.int .u8 0), (.int .u8 0), (.int .u8 0), (.int .u8 0), (.int .u8 0), (.int .u8 0), (.int .u8 0), (.int .u8 0), (.int .u8 0), (.int .u8 0), (.int .u8 0), (.int .u8 0), (.int .u8 0), (.int .u8 0), (.int .u8 0), (.slice none 0 0)] 0 33 (setsAt (lputL #[(.int .u8 0), (.int .u8 0), (.int .u8 0), (.int .u8 0), (.int .u8 0), (.int .u8 0), (.int .u8 0), (.int .u8 0), (.int .u8 0), (.int .u8 0), (.int .u8 0), (.int .u8 0), (.int .u8 0), (.int .u8 0), (.int .u8 0), (.int .u8 0), (.int .u8 0), (.int .u8 0), (.int .u8 0), (.int .u8 0), (.int .u8 0), (.int .u8 0), (.int .u8 0), (.int .u8 0), (.int .u8 0), (.int .u8 0), (.int .u8 0), (.int .u8 0), (.int .u8 0), (.int .u8 0), (.int .u8 0), (.int .u8 0), (.slice none 0 0)] 0 32 L78) 32 [(.slice o40 l41 l42)])) d79 w80 →
            ∃ (v81 : Value) (w82 : World), Sem.run Try.prog (builtinV .append #[49, 49] 49 #[(.slice o75 l76 l77), (.slice (some d79) 1 1)]) w80 = .ok v81 w82 ∧
            ∃ o83 : Option Addr, ∃ l84 : Nat, ∃ l85 : Nat, v81 = (.slice o83 l84 l85) ∧
            CanSet w82 d4 (.slice o83 l84 l85) ∧ ∀ w86 : World, IsSet w82 d4 (.slice o83 l84 l85) w86 →
            R (.returned (.tuple #[])) w86)))))))))
theorem trie_Trie_Nodes_1.vc (v0 : Value) (b1 : Bool) (d2 : Addr) (d3 : Addr) (d4 : Addr) (w : World) (R : Ending → World → Prop) (h : trie_Trie_Nodes_1.Vc v0 b1 d2 d3 d4 w R) : Calls Try.prog 97 #[v0, (.bool b1), (.pointer (some d2)), (.pointer (some d3)), (.pointer (some d4))] w R :=
  execF_sound (ann := [(1000015, []), (9, [(39, .cell (.int .i64))])]) (args := [.raw v0, .bool (.var b1), .addr d2, .addr d3, .addr d4]) Try.func97 mixed (Eq.mp (by kernel_rfl : trie_Trie_Nodes_1.Vc v0 b1 d2 d3 d4 w R = execF (pA Try.prog R) Try.prog [(1000015, []), (9, [(39, .cell (.int .i64))])] Try.f97 [.raw v0, .bool (.var b1), .addr d2, .addr d3, .addr d4] w) h)

/-! moraine/moraineref2.Bytes: 70 -/
abbrev moraineref2_Bytes.n : Nat := 70
def moraineref2_Bytes.Vc (o0 : Option Addr) (l0 : Nat) (c0 : Nat) (o1 : Option Addr) (l1 : Nat) (c1 : Nat) (w : World) (R : Ending → World → Prop) : Prop :=
  ∃ (J2 : World → Prop), (∃ (I3 : Int → World → Prop) (μ3 : Int → World → Nat), I3 0 w ∧
   (∀ (n4 : Int) (j5 : Nat → Value) (w5 : World), I3 n4 w5 →
     (((n4 < ((l0 : Nat) : Int) →
       (((n4 < ((l1 : Nat) : Int) →
         ∀ w6 : World, IsDrew w5 w6 →
         ∃ d7 : Addr, o0 = some d7 ∧
         ((0 : Int) ≤ n4 ∧ n4 < ((l0 : Nat) : Int)) ∧
         ∃ n8 : Int, World.cell? w6 (Addr.add d7 (Int.toNat n4)) = some (.int .u8 n8) ∧
         ∃ d9 : Addr, o1 = some d9 ∧
         ((0 : Int) ≤ n4 ∧ n4 < ((l1 : Nat) : Int)) ∧
         ∃ n10 : Int, World.cell? w6 (Addr.add d9 (Int.toNat n4)) = some (.int .u8 n10) ∧
         (((n8 ≠ n10 →
           ∀ w11 : World, IsDrew w6 w11 →
           ∃ d12 : Addr, o0 = some d12 ∧
           ((0 : Int) ≤ n4 ∧ n4 < ((l0 : Nat) : Int)) ∧
           ∃ n13 : Int, World.cell? w11 (Addr.add d12 (Int.toNat n4)) = some (.int .u8 n13) ∧
           ∃ d14 : Addr, o1 = some d14 ∧
           ((0 : Int) ≤ n4 ∧ n4 < ((l1 : Nat) : Int)) ∧
           ∃ n15 : Int, World.cell? w11 (Addr.add d14 (Int.toNat n4)) = some (.int .u8 n15) ∧
           (((n13 < n15 →
             R (.returned (.int .i64 (-1))) w11)) ∧
            ((¬ n13 < n15 →
             R (.returned (.int .i64 1)) w11))))) ∧
          ((n8 = n10 →
           I3 (IntKind.wrap .i64 (n4 + 1)) w6 ∧ μ3 (IntKind.wrap .i64 (n4 + 1)) w6 < μ3 n4 w5))))) ∧
        ((¬ n4 < ((l1 : Nat) : Int) →
         J2  w5))))) ∧
      ((¬ n4 < ((l0 : Nat) : Int) →
       J2  w5))))) ∧
  (∀  (j16 : Nat → Value) (w16 : World), J2  w16 →
    (((((l0 : Nat) : Int) < ((l1 : Nat) : Int) →
      R (.returned (.int .i64 (-1))) w16)) ∧
     ((¬ ((l0 : Nat) : Int) < ((l1 : Nat) : Int) →
      (((((l0 : Nat) : Int) > ((l1 : Nat) : Int) →
        R (.returned (.int .i64 1)) w16)) ∧
       ((¬ ((l0 : Nat) : Int) > ((l1 : Nat) : Int) →
        R (.returned (.int .i64 0)) w16)))))))
theorem moraineref2_Bytes.vc (o0 : Option Addr) (l0 : Nat) (c0 : Nat) (o1 : Option Addr) (l1 : Nat) (c1 : Nat) (w : World) (R : Ending → World → Prop) (h : moraineref2_Bytes.Vc o0 l0 c0 o1 l1 c1 w R) : Calls Try.prog 70 #[(.slice o0 l0 c0), (.slice o1 l1 c1)] w R :=
  execF_sound (ann := [(1000008, []), (2, [(5, .cell (.int .i64))])]) (args := [.slice o0 l0 c0, .slice o1 l1 c1]) Try.func70 mixed (Eq.mp (by kernel_rfl : moraineref2_Bytes.Vc o0 l0 c0 o1 l1 c1 w R = execF (pA Try.prog R) Try.prog [(1000008, []), (2, [(5, .cell (.int .i64))])] Try.f70 [.slice o0 l0 c0, .slice o1 l1 c1] w) h)

/-! moraine/moraineref4.head: 101 -/
abbrev moraineref4_head.n : Nat := 101
def moraineref4_head.Vc (n0 : Int) (n1 : Int) (w : World) (R : Ending → World → Prop) : Prop :=
  (((n1 ≤ 55 →
    ∀ (d2 : Addr) (w3 : World), IsNew w 5 #[(.int .u8 (IntKind.wrap .u8 (IntKind.wrap .i64 (n0 + n1))))] d2 w3 →
    R (.returned (.slice (some d2) 1 1)) w3)) ∧
   ((¬ n1 ≤ 55 →
    ∃ (I4 : Option Addr → Nat → Nat → Int → World → Prop) (μ4 : Option Addr → Nat → Nat → Int → World → Nat), I4 none 0 0 n1 w ∧
    (∀ (o5 : Option Addr) (l5 : Nat) (c5 : Nat) (n6 : Int) (j7 : Nat → Value) (w7 : World), I4 o5 l5 c5 n6 w7 →
      (((n6 > 0 →
        ∀ (d8 : Addr) (w9 : World), IsNew w7 5 #[(.int .u8 (IntKind.wrap .u8 (Int.tmod n6 256)))] d8 w9 →
        ∃ (v10 : Value) (w11 : World), Sem.run Try.prog (builtinV .append #[22, 22] 22 #[(.slice (some d8) 1 1), (.slice o5 l5 c5)]) w9 = .ok v10 w11 ∧
        ∃ o12 : Option Addr, ∃ l13 : Nat, ∃ l14 : Nat, v10 = (.slice o12 l13 l14) ∧
        I4 o12 l13 l14 (IntKind.wrap .i64 (Int.tdiv n6 256)) w11 ∧ μ4 o12 l13 l14 (IntKind.wrap .i64 (Int.tdiv n6 256)) w11 < μ4 o5 l5 c5 n6 w7)) ∧
       ((¬ n6 > 0 →
        ∀ (d15 : Addr) (w16 : World), IsNew w7 5 #[(.int .u8 (IntKind.wrap .u8 (IntKind.wrap .i64 ((IntKind.wrap .i64 (n0 + 55)) + ((l5 : Nat) : Int)))))] d15 w16 →
        ∃ (v17 : Value) (w18 : World), Sem.run Try.prog (builtinV .append #[22, 22] 22 #[(.slice (some d15) 1 1), (.slice o5 l5 c5)]) w16 = .ok v17 w18 ∧
        ∃ o19 : Option Addr, ∃ l20 : Nat, ∃ l21 : Nat, v17 = (.slice o19 l20 l21) ∧
        R (.returned (.slice o19 l20 l21)) w18)))))))
theorem moraineref4_head.vc (n0 : Int) (n1 : Int) (w : World) (R : Ending → World → Prop) (h : moraineref4_head.Vc n0 n1 w R) : Calls Try.prog 101 #[(.int .i64 n0), (.int .i64 n1)] w R :=
  execF_sound (ann := [(5, [(5, .cell (.slice)), (6, .cell (.int .i64))])]) (args := [.int .i64 n0, .int .i64 n1]) Try.func101 mixed (Eq.mp (by kernel_rfl : moraineref4_head.Vc n0 n1 w R = execF (pA Try.prog R) Try.prog [(5, [(5, .cell (.slice)), (6, .cell (.int .i64))])] Try.f101 [.int .i64 n0, .int .i64 n1] w) h)

/-! moraine/moraineref4.Bytes: 64 -/
abbrev moraineref4_Bytes.n : Nat := 64
def moraineref4_Bytes.Vc (o0 : Option Addr) (l0 : Nat) (c0 : Nat) (w : World) (R : Ending → World → Prop) : Prop :=
  (((((l0 : Nat) : Int) = 1 →
    ∃ d1 : Addr, o0 = some d1 ∧
    ((0 : Int) ≤ 0 ∧ 0 < ((l0 : Nat) : Int)) ∧
    ∃ n2 : Int, World.cell? w (Addr.add d1 0) = some (.int .u8 n2) ∧
    (((n2 < 128 →
      ∃ d3 : Addr, o0 = some d3 ∧
      ((0 : Int) ≤ 0 ∧ 0 < ((l0 : Nat) : Int)) ∧
      ∃ n4 : Int, World.cell? w (Addr.add d3 0) = some (.int .u8 n4) ∧
      ∀ (d5 : Addr) (w6 : World), IsNew w 5 #[(.int .u8 n4)] d5 w6 →
      R (.returned (.slice (some d5) 1 1)) w6)) ∧
     ((¬ n2 < 128 →
      Calls Try.prog 101 #[(.int .i64 128), (.int .i64 ((l0 : Nat) : Int))] w (fun e7 w8 =>
        ∃ o9 : Option Addr, ∃ l10 : Nat, ∃ l11 : Nat, e7 = .returned (.slice o9 l10 l11) ∧
        ∃ (v12 : Value) (w13 : World), Sem.run Try.prog (builtinV .append #[22, 22] 22 #[(.slice o9 l10 l11), (.slice o0 l0 c0)]) w8 = .ok v12 w13 ∧
        ∃ o14 : Option Addr, ∃ l15 : Nat, ∃ l16 : Nat, v12 = (.slice o14 l15 l16) ∧
        R (.returned (.slice o14 l15 l16)) w13)))))) ∧
   ((((l0 : Nat) : Int) ≠ 1 →
    Calls Try.prog 101 #[(.int .i64 128), (.int .i64 ((l0 : Nat) : Int))] w (fun e17 w18 =>
      ∃ o19 : Option Addr, ∃ l20 : Nat, ∃ l21 : Nat, e17 = .returned (.slice o19 l20 l21) ∧
      ∃ (v22 : Value) (w23 : World), Sem.run Try.prog (builtinV .append #[22, 22] 22 #[(.slice o19 l20 l21), (.slice o0 l0 c0)]) w18 = .ok v22 w23 ∧
      ∃ o24 : Option Addr, ∃ l25 : Nat, ∃ l26 : Nat, v22 = (.slice o24 l25 l26) ∧
      R (.returned (.slice o24 l25 l26)) w23))))
theorem moraineref4_Bytes.vc (o0 : Option Addr) (l0 : Nat) (c0 : Nat) (w : World) (R : Ending → World → Prop) (h : moraineref4_Bytes.Vc o0 l0 c0 w R) : Calls Try.prog 64 #[(.slice o0 l0 c0)] w R :=
  execF_sound (ann := []) (args := [.slice o0 l0 c0]) Try.func64 mixed (Eq.mp (by kernel_rfl : moraineref4_Bytes.Vc o0 l0 c0 w R = execF (pA Try.prog R) Try.prog [] Try.f64 [.slice o0 l0 c0] w) h)

/-! moraine/moraineref4.List: 63 -/
abbrev moraineref4_List.n : Nat := 63
def moraineref4_List.Vc (o0 : Option Addr) (l0 : Nat) (c0 : Nat) (w : World) (R : Ending → World → Prop) : Prop :=
  Calls Try.prog 101 #[(.int .i64 192), (.int .i64 ((l0 : Nat) : Int))] w (fun e1 w2 =>
    ∃ o3 : Option Addr, ∃ l4 : Nat, ∃ l5 : Nat, e1 = .returned (.slice o3 l4 l5) ∧
    ∃ (v6 : Value) (w7 : World), Sem.run Try.prog (builtinV .append #[22, 22] 22 #[(.slice o3 l4 l5), (.slice o0 l0 c0)]) w2 = .ok v6 w7 ∧
    ∃ o8 : Option Addr, ∃ l9 : Nat, ∃ l10 : Nat, v6 = (.slice o8 l9 l10) ∧
    R (.returned (.slice o8 l9 l10)) w7)
theorem moraineref4_List.vc (o0 : Option Addr) (l0 : Nat) (c0 : Nat) (w : World) (R : Ending → World → Prop) (h : moraineref4_List.Vc o0 l0 c0 w R) : Calls Try.prog 63 #[(.slice o0 l0 c0)] w R :=
  execF_sound (ann := []) (args := [.slice o0 l0 c0]) Try.func63 mixed (Eq.mp (by kernel_rfl : moraineref4_List.Vc o0 l0 c0 w R = execF (pA Try.prog R) Try.prog [] Try.f63 [.slice o0 l0 c0] w) h)

/-! moraine/moraineref14.str: 126 -/
abbrev moraineref14_str.n : Nat := 126
def moraineref14_str.Vc (o0 : Option Addr) (l0 : Nat) (c0 : Nat) (w : World) (R : Ending → World → Prop) : Prop :=
  Calls Try.prog 64 #[(.slice o0 l0 c0)] w (fun e1 w2 =>
    ∃ o3 : Option Addr, ∃ l4 : Nat, ∃ l5 : Nat, e1 = .returned (.slice o3 l4 l5) ∧
    R (.returned (.slice o3 l4 l5)) w2)
theorem moraineref14_str.vc (o0 : Option Addr) (l0 : Nat) (c0 : Nat) (w : World) (R : Ending → World → Prop) (h : moraineref14_str.Vc o0 l0 c0 w R) : Calls Try.prog 126 #[(.slice o0 l0 c0)] w R :=
  execF_sound (ann := []) (args := [.slice o0 l0 c0]) Try.func126 mixed (Eq.mp (by kernel_rfl : moraineref14_str.Vc o0 l0 c0 w R = execF (pA Try.prog R) Try.prog [] Try.f126 [.slice o0 l0 c0] w) h)

/-! moraine/moraineref14.Nibbles: 41 -/
abbrev moraineref14_Nibbles.n : Nat := 41
def moraineref14_Nibbles.Vc (o0 : Option Addr) (l0 : Nat) (c0 : Nat) (w : World) (R : Ending → World → Prop) : Prop :=
  ∃ (I1 : Option Addr → Nat → Nat → Int → World → Prop) (μ1 : Option Addr → Nat → Nat → Int → World → Nat), I1 none 0 0 0 w ∧
  (∀ (o2 : Option Addr) (l2 : Nat) (c2 : Nat) (n3 : Int) (j4 : Nat → Value) (w4 : World), I1 o2 l2 c2 n3 w4 →
    (((n3 < ((l0 : Nat) : Int) →
      ∀ w5 : World, IsDrew w4 w5 →
      ∃ d6 : Addr, o0 = some d6 ∧
      ((0 : Int) ≤ n3 ∧ n3 < ((l0 : Nat) : Int)) ∧
      ∃ n7 : Int, World.cell? w5 (Addr.add d6 (Int.toNat n3)) = some (.int .u8 n7) ∧
      ∃ d8 : Addr, o0 = some d8 ∧
      ((0 : Int) ≤ n3 ∧ n3 < ((l0 : Nat) : Int)) ∧
      ∃ n9 : Int, World.cell? w5 (Addr.add d8 (Int.toNat n3)) = some (.int .u8 n9) ∧
      ∀ (d10 : Addr) (w11 : World), IsNew w5 5 #[(.int .u8 (IntKind.wrap .u8 (Int.tdiv n7 16))), (.int .u8 (Int.tmod n9 16))] d10 w11 →
      ∃ (v12 : Value) (w13 : World), Sem.run Try.prog (builtinV .append #[22, 22] 22 #[(.slice o2 l2 c2), (.slice (some d10) 2 2)]) w11 = .ok v12 w13 ∧
      ∃ o14 : Option Addr, ∃ l15 : Nat, ∃ l16 : Nat, v12 = (.slice o14 l15 l16) ∧
      I1 o14 l15 l16 (IntKind.wrap .i64 (n3 + 1)) w13 ∧ μ1 o14 l15 l16 (IntKind.wrap .i64 (n3 + 1)) w13 < μ1 o2 l2 c2 n3 w4)) ∧
     ((¬ n3 < ((l0 : Nat) : Int) →
      R (.returned (.slice o2 l2 c2)) w4))))
theorem moraineref14_Nibbles.vc (o0 : Option Addr) (l0 : Nat) (c0 : Nat) (w : World) (R : Ending → World → Prop) (h : moraineref14_Nibbles.Vc o0 l0 c0 w R) : Calls Try.prog 41 #[(.slice o0 l0 c0)] w R :=
  execF_sound (ann := [(3, [(3, .cell (.slice)), (4, .cell (.int .i64))])]) (args := [.slice o0 l0 c0]) Try.func41 mixed (Eq.mp (by kernel_rfl : moraineref14_Nibbles.Vc o0 l0 c0 w R = execF (pA Try.prog R) Try.prog [(3, [(3, .cell (.slice)), (4, .cell (.int .i64))])] Try.f41 [.slice o0 l0 c0] w) h)

/-! moraine/moraineref14.Pack: 39 -/
abbrev moraineref14_Pack.n : Nat := 39
def moraineref14_Pack.Vc (o0 : Option Addr) (l0 : Nat) (c0 : Nat) (b1 : Bool) (w : World) (R : Ending → World → Prop) : Prop :=
  (((((l0 : Nat) : Int) > 128 →
    R (.returned (.tuple #[(.slice none 0 0), (.int .i64 140)])) w)) ∧
   ((¬ ((l0 : Nat) : Int) > 128 →
    ∃ (I2 : Int → World → Prop) (μ2 : Int → World → Nat), I2 0 w ∧
    (∀ (n3 : Int) (j4 : Nat → Value) (w4 : World), I2 n3 w4 →
      (((n3 < ((l0 : Nat) : Int) →
        ∃ d5 : Addr, o0 = some d5 ∧
        ((0 : Int) ≤ n3 ∧ n3 < ((l0 : Nat) : Int)) ∧
        ∃ n6 : Int, World.cell? w4 (Addr.add d5 (Int.toNat n3)) = some (.int .u8 n6) ∧
        (((n6 > 15 →
          R (.returned (.tuple #[(.slice none 0 0), (.int .i64 140)])) w4)) ∧
         ((¬ n6 > 15 →
          I2 (IntKind.wrap .i64 (n3 + 1)) w4 ∧ μ2 (IntKind.wrap .i64 (n3 + 1)) w4 < μ2 n3 w4))))) ∧
       ((¬ n3 < ((l0 : Nat) : Int) →
        ∃ (J7 : Int → World → Prop), ((((b1 = true →
           J7 2 w4)) ∧
          ((b1 = false →
           J7 0 w4)))) ∧
        (∀ (n8 : Int) (j9 : Nat → Value) (w9 : World), J7 n8 w9 →
          ∀ (d10 : Addr) (w11 : World), IsNew w9 5 #[(.int .u8 n8), (.int .u8 0)] d10 w11 →
          ∃ (J12 : Option Addr → Nat → Nat → World → Prop), (((((Int.tmod ((l0 : Nat) : Int) 2) = 1 →
             ∀ (d13 : Addr) (w14 : World), IsNew w11 5 #[(.int .u8 (IntKind.wrap .u8 (n8 + 1)))] d13 w14 →
             J12 (some d13) 1 1 w14)) ∧
            (((Int.tmod ((l0 : Nat) : Int) 2) ≠ 1 →
             J12 (some d10) 2 2 w11)))) ∧
          (∀ (o15 : Option Addr) (l15 : Nat) (c15 : Nat) (j16 : Nat → Value) (w16 : World), J12 o15 l15 c15 w16 →
            ∃ (v17 : Value) (w18 : World), Sem.run Try.prog (builtinV .append #[22, 22] 22 #[(.slice o15 l15 c15), (.slice o0 l0 c0)]) w16 = .ok v17 w18 ∧
            ∃ o19 : Option Addr, ∃ l20 : Nat, ∃ l21 : Nat, v17 = (.slice o19 l20 l21) ∧
            ∃ (I22 : Option Addr → Nat → Nat → Int → World → Prop) (μ22 : Option Addr → Nat → Nat → Int → World → Nat), I22 none 0 0 0 w18 ∧
            (∀ (o23 : Option Addr) (l23 : Nat) (c23 : Nat) (n24 : Int) (j25 : Nat → Value) (w25 : World), I22 o23 l23 c23 n24 w25 →
              (((n24 < ((l20 : Nat) : Int) →
                ∀ w26 : World, IsDrew w25 w26 →
                ∃ d27 : Addr, o19 = some d27 ∧
                ((0 : Int) ≤ n24 ∧ n24 < ((l20 : Nat) : Int)) ∧
                ∃ n28 : Int, World.cell? w26 (Addr.add d27 (Int.toNat n24)) = some (.int .u8 n28) ∧
                ∃ d29 : Addr, o19 = some d29 ∧
                ((0 : Int) ≤ (IntKind.wrap .i64 (n24 + 1)) ∧ (IntKind.wrap .i64 (n24 + 1)) < ((l20 : Nat) : Int)) ∧
                ∃ n30 : Int, World.cell? w26 (Addr.add d29 (Int.toNat (IntKind.wrap .i64 (n24 + 1)))) = some (.int .u8 n30) ∧
                ∀ (d31 : Addr) (w32 : World), IsNew w26 5 #[(.int .u8 (IntKind.wrap .u8 ((IntKind.wrap .u8 (16 * n28)) + n30)))] d31 w32 →
                ∃ (v33 : Value) (w34 : World), Sem.run Try.prog (builtinV .append #[22, 22] 22 #[(.slice o23 l23 c23), (.slice (some d31) 1 1)]) w32 = .ok v33 w34 ∧
                ∃ o35 : Option Addr, ∃ l36 : Nat, ∃ l37 : Nat, v33 = (.slice o35 l36 l37) ∧
                I22 o35 l36 l37 (IntKind.wrap .i64 (n24 + 2)) w34 ∧ μ22 o35 l36 l37 (IntKind.wrap .i64 (n24 + 2)) w34 < μ22 o23 l23 c23 n24 w25)) ∧
               ((¬ n24 < ((l20 : Nat) : Int) →
                R (.returned (.tuple #[(.slice o23 l23 c23), (.int .i64 0)])) w25)))))))))))))
theorem moraineref14_Pack.vc (o0 : Option Addr) (l0 : Nat) (c0 : Nat) (b1 : Bool) (w : World) (R : Ending → World → Prop) (h : moraineref14_Pack.Vc o0 l0 c0 b1 w R) : Calls Try.prog 39 #[(.slice o0 l0 c0), (.bool b1)] w R :=
  execF_sound (ann := [(4, [(6, .cell (.int .i64))]), (1000011, [(7, .cell (.int .u8))]), (1000014, [(8, .cell (.slice))]), (17, [(9, .cell (.slice)), (10, .cell (.int .i64))])]) (args := [.slice o0 l0 c0, .bool (.var b1)]) Try.func39 mixed (Eq.mp (by kernel_rfl : moraineref14_Pack.Vc o0 l0 c0 b1 w R = execF (pA Try.prog R) Try.prog [(4, [(6, .cell (.int .i64))]), (1000011, [(7, .cell (.int .u8))]), (1000014, [(8, .cell (.slice))]), (17, [(9, .cell (.slice)), (10, .cell (.int .i64))])] Try.f39 [.slice o0 l0 c0, .bool (.var b1)] w) h)

/-! moraine/moraineref14.Empty: 83 -/
abbrev moraineref14_Empty.n : Nat := 83
def moraineref14_Empty.Vc  (w : World) (R : Ending → World → Prop) : Prop :=
  ∀ (d0 : Addr) (w1 : World), IsNew w 26 (Array.replicate 32 (.int .u8 0)) d0 w1 →
  ∀ (d2 : Addr) (w3 : World), IsNew w1 5 #[(.int .u8 128)] d2 w3 →
  Calls Try.prog 18 #[(.slice (some d2) 1 1)] w3 (fun e4 w5 =>
    ∃ L6 : Array Value, e4 = .returned (.agg L6) ∧
    ∃ w7 : World, Sem.run Try.prog (Instr.storeAt 26 (.pointer (some d0)) (.agg L6)) w5 = .ok () w7 ∧
    ∃ L8 : Array Value, RowAt w7 d0 32 L8 ∧
    R (.returned (.agg L8)) w7)
theorem moraineref14_Empty.vc  (w : World) (R : Ending → World → Prop) (h : moraineref14_Empty.Vc w R) : Calls Try.prog 83 #[] w R :=
  execF_sound (ann := []) (args := []) Try.func83 mixed (Eq.mp (by kernel_rfl : moraineref14_Empty.Vc w R = execF (pA Try.prog R) Try.prog [] Try.f83 [] w) h)

/-! (*moraine/moraineref14.build).item: 106 -/
abbrev moraineref14_build_item.n : Nat := 106
def moraineref14_build_item.Vc (d0 : Addr) (n1 : Int) (n2 : Int) (n3 : Int) (w : World) (R : Ending → World → Prop) : Prop :=
  (((n2 = (IntKind.wrap .i64 (n1 + 1)) →
    ∃ o4 : Option Addr, ∃ l5 : Nat, ∃ l6 : Nat, World.cell? w (Addr.add d0 1) = some (.slice o4 l5 l6) ∧
    ∃ d7 : Addr, o4 = some d7 ∧
    ((0 : Int) ≤ n1 ∧ n1 < ((l5 : Nat) : Int)) ∧
    ∃ o8 : Option Addr, ∃ l9 : Nat, ∃ l10 : Nat, World.cell? w (Addr.add d7 (Int.toNat n1)) = some (.slice o8 l9 l10) ∧
    ((0 : Int) ≤ n3 ∧ n3 ≤ ((l9 : Nat) : Int)) ∧
    Calls Try.prog 39 #[(.slice (subO o8 l10 (Int.toNat n3) 1) (l9 - (Int.toNat n3)) (l10 - (Int.toNat n3))), (.bool true)] w (fun e11 w12 =>
      ∃ o13 : Option Addr, ∃ l14 : Nat, ∃ l15 : Nat, ∃ n16 : Int, e11 = .returned (.tuple #[(.slice o13 l14 l15), (.int .i64 n16)]) ∧
      ∀ w17 : World, IsDrew w12 w17 →
      ∃ o18 : Option Addr, ∃ l19 : Nat, ∃ l20 : Nat, World.cell? w17 d0 = some (.slice o18 l19 l20) ∧
      ∃ d21 : Addr, o18 = some d21 ∧
      ((0 : Int) ≤ n1 ∧ n1 < ((l19 : Nat) : Int)) ∧
      ∃ o22 : Option Addr, ∃ l23 : Nat, ∃ l24 : Nat, World.cell? w17 (Addr.add (Addr.add d21 ((Int.toNat n1) * 2)) 1) = some (.slice o22 l23 l24) ∧
      Calls Try.prog 126 #[(.slice o13 l14 l15)] w17 (fun e25 w26 =>
        ∃ o27 : Option Addr, ∃ l28 : Nat, ∃ l29 : Nat, e25 = .returned (.slice o27 l28 l29) ∧
        World.cell? w26 (Addr.add (Addr.add d21 ((Int.toNat n1) * 2)) 1) = some (.slice o22 l23 l24) ∧
        World.cell? w26 d0 = some (.slice o18 l19 l20) ∧
        Calls Try.prog 126 #[(.slice o22 l23 l24)] w26 (fun e30 w31 =>
          ∃ o32 : Option Addr, ∃ l33 : Nat, ∃ l34 : Nat, e30 = .returned (.slice o32 l33 l34) ∧
          ∃ (v35 : Value) (w36 : World), Sem.run Try.prog (builtinV .append #[22, 22] 22 #[(.slice o27 l28 l29), (.slice o32 l33 l34)]) w31 = .ok v35 w36 ∧
          ∃ o37 : Option Addr, ∃ l38 : Nat, ∃ l39 : Nat, v35 = (.slice o37 l38 l39) ∧
          Calls Try.prog 63 #[(.slice o37 l38 l39)] w36 (fun e40 w41 =>
            ∃ o42 : Option Addr, ∃ l43 : Nat, ∃ l44 : Nat, e40 = .returned (.slice o42 l43 l44) ∧
            R (.returned (.slice o42 l43 l44)) w41)))))) ∧
   ((n2 ≠ (IntKind.wrap .i64 (n1 + 1)) →
    ∃ (J45 : Int → World → Prop), (∃ (I46 : Int → World → Prop) (μ46 : Int → World → Nat), I46 0 w ∧
     (∀ (n47 : Int) (j48 : Nat → Value) (w48 : World), I46 n47 w48 →
       ∀ w49 : World, IsDrew w48 w49 →
       ∃ o50 : Option Addr, ∃ l51 : Nat, ∃ l52 : Nat, World.cell? w49 (Addr.add d0 1) = some (.slice o50 l51 l52) ∧
       ∃ d53 : Addr, o50 = some d53 ∧
       ((0 : Int) ≤ n1 ∧ n1 < ((l51 : Nat) : Int)) ∧
       ∃ o54 : Option Addr, ∃ l55 : Nat, ∃ l56 : Nat, World.cell? w49 (Addr.add d53 (Int.toNat n1)) = some (.slice o54 l55 l56) ∧
       (((((l55 : Nat) : Int) > (IntKind.wrap .i64 (n3 + n47)) →
         ∃ o57 : Option Addr, ∃ l58 : Nat, ∃ l59 : Nat, World.cell? w49 (Addr.add d0 1) = some (.slice o57 l58 l59) ∧
         ∃ d60 : Addr, o57 = some d60 ∧
         ((0 : Int) ≤ (IntKind.wrap .i64 (n2 - 1)) ∧ (IntKind.wrap .i64 (n2 - 1)) < ((l58 : Nat) : Int)) ∧
         ∃ o61 : Option Addr, ∃ l62 : Nat, ∃ l63 : Nat, World.cell? w49 (Addr.add d60 (Int.toNat (IntKind.wrap .i64 (n2 - 1)))) = some (.slice o61 l62 l63) ∧
         (((((l62 : Nat) : Int) > (IntKind.wrap .i64 (n3 + n47)) →
           ∃ o64 : Option Addr, ∃ l65 : Nat, ∃ l66 : Nat, World.cell? w49 (Addr.add d0 1) = some (.slice o64 l65 l66) ∧
           ∃ d67 : Addr, o64 = some d67 ∧
           ((0 : Int) ≤ n1 ∧ n1 < ((l65 : Nat) : Int)) ∧
           ∃ o68 : Option Addr, ∃ l69 : Nat, ∃ l70 : Nat, World.cell? w49 (Addr.add d67 (Int.toNat n1)) = some (.slice o68 l69 l70) ∧
           ∃ d71 : Addr, o68 = some d71 ∧
           ((0 : Int) ≤ (IntKind.wrap .i64 (n3 + n47)) ∧ (IntKind.wrap .i64 (n3 + n47)) < ((l69 : Nat) : Int)) ∧
           ∃ n72 : Int, World.cell? w49 (Addr.add d71 (Int.toNat (IntKind.wrap .i64 (n3 + n47)))) = some (.int .u8 n72) ∧
           ∃ o73 : Option Addr, ∃ l74 : Nat, ∃ l75 : Nat, World.cell? w49 (Addr.add d0 1) = some (.slice o73 l74 l75) ∧
           ∃ d76 : Addr, o73 = some d76 ∧
           ((0 : Int) ≤ (IntKind.wrap .i64 (n2 - 1)) ∧ (IntKind.wrap .i64 (n2 - 1)) < ((l74 : Nat) : Int)) ∧
           ∃ o77 : Option Addr, ∃ l78 : Nat, ∃ l79 : Nat, World.cell? w49 (Addr.add d76 (Int.toNat (IntKind.wrap .i64 (n2 - 1)))) = some (.slice o77 l78 l79) ∧
           ∃ d80 : Addr, o77 = some d80 ∧
           ((0 : Int) ≤ (IntKind.wrap .i64 (n3 + n47)) ∧ (IntKind.wrap .i64 (n3 + n47)) < ((l78 : Nat) : Int)) ∧
           ∃ n81 : Int, World.cell? w49 (Addr.add d80 (Int.toNat (IntKind.wrap .i64 (n3 + n47)))) = some (.int .u8 n81) ∧
           (((n72 = n81 →
             I46 (IntKind.wrap .i64 (n47 + 1)) w49 ∧ μ46 (IntKind.wrap .i64 (n47 + 1)) w49 < μ46 n47 w48)) ∧
            ((n72 ≠ n81 →
             J45 n47 w49))))) ∧
          ((¬ ((l62 : Nat) : Int) > (IntKind.wrap .i64 (n3 + n47)) →
           J45 n47 w49))))) ∧
        ((¬ ((l55 : Nat) : Int) > (IntKind.wrap .i64 (n3 + n47)) →
         J45 n47 w49))))) ∧
    (∀ (n82 : Int) (j83 : Nat → Value) (w83 : World), J45 n82 w83 →
      (((n82 > 0 →
        ∃ o84 : Option Addr, ∃ l85 : Nat, ∃ l86 : Nat, World.cell? w83 (Addr.add d0 1) = some (.slice o84 l85 l86) ∧
        ∃ d87 : Addr, o84 = some d87 ∧
        ((0 : Int) ≤ n1 ∧ n1 < ((l85 : Nat) : Int)) ∧
        ∃ o88 : Option Addr, ∃ l89 : Nat, ∃ l90 : Nat, World.cell? w83 (Addr.add d87 (Int.toNat n1)) = some (.slice o88 l89 l90) ∧
        ((0 : Int) ≤ (IntKind.wrap .i64 (n3 + n82)) ∧ (IntKind.wrap .i64 (n3 + n82)) ≤ ((l90 : Nat) : Int)) ∧
        ((0 : Int) ≤ n3 ∧ n3 ≤ (((Int.toNat (IntKind.wrap .i64 (n3 + n82))) : Nat) : Int)) ∧
        Calls Try.prog 39 #[(.slice (subO o88 l90 (Int.toNat n3) 1) ((Int.toNat (IntKind.wrap .i64 (n3 + n82))) - (Int.toNat n3)) (l90 - (Int.toNat n3))), (.bool false)] w83 (fun e91 w92 =>
          ∃ o93 : Option Addr, ∃ l94 : Nat, ∃ l95 : Nat, ∃ n96 : Int, e91 = .returned (.tuple #[(.slice o93 l94 l95), (.int .i64 n96)]) ∧
          Calls Try.prog 126 #[(.slice o93 l94 l95)] w92 (fun e97 w98 =>
            ∃ o99 : Option Addr, ∃ l100 : Nat, ∃ l101 : Nat, e97 = .returned (.slice o99 l100 l101) ∧
            Calls Try.prog 127 #[(.pointer (some d0)), (.int .i64 n1), (.int .i64 n2), (.int .i64 (IntKind.wrap .i64 (n3 + n82)))] w98 (fun e102 w103 =>
              ∃ o104 : Option Addr, ∃ l105 : Nat, ∃ l106 : Nat, e102 = .returned (.slice o104 l105 l106) ∧
              ∃ (v107 : Value) (w108 : World), Sem.run Try.prog (builtinV .append #[22, 22] 22 #[(.slice o99 l100 l101), (.slice o104 l105 l106)]) w103 = .ok v107 w108 ∧
              ∃ o109 : Option Addr, ∃ l110 : Nat, ∃ l111 : Nat, v107 = (.slice o109 l110 l111) ∧
              Calls Try.prog 63 #[(.slice o109 l110 l111)] w108 (fun e112 w113 =>
                ∃ o114 : Option Addr, ∃ l115 : Nat, ∃ l116 : Nat, e112 = .returned (.slice o114 l115 l116) ∧
                R (.returned (.slice o114 l115 l116)) w113)))))) ∧
       ((¬ n82 > 0 →
        ∃ (J117 : Int → Option Addr → Nat → Nat → World → Prop), (∃ o118 : Option Addr, ∃ l119 : Nat, ∃ l120 : Nat, World.cell? w83 (Addr.add d0 1) = some (.slice o118 l119 l120) ∧
         ∃ d121 : Addr, o118 = some d121 ∧
         ((0 : Int) ≤ n1 ∧ n1 < ((l119 : Nat) : Int)) ∧
         ∃ o122 : Option Addr, ∃ l123 : Nat, ∃ l124 : Nat, World.cell? w83 (Addr.add d121 (Int.toNat n1)) = some (.slice o122 l123 l124) ∧
         (((((l123 : Nat) : Int) = n3 →
           ∃ o125 : Option Addr, ∃ l126 : Nat, ∃ l127 : Nat, World.cell? w83 d0 = some (.slice o125 l126 l127) ∧
           ∃ d128 : Addr, o125 = some d128 ∧
           ((0 : Int) ≤ n1 ∧ n1 < ((l126 : Nat) : Int)) ∧
           ∃ o129 : Option Addr, ∃ l130 : Nat, ∃ l131 : Nat, World.cell? w83 (Addr.add (Addr.add d128 ((Int.toNat n1) * 2)) 1) = some (.slice o129 l130 l131) ∧
           J117 (IntKind.wrap .i64 (n1 + 1)) o129 l130 l131 w83)) ∧
          ((((l123 : Nat) : Int) ≠ n3 →
           J117 n1 none 0 0 w83)))) ∧
        (∀ (n132 : Int) (o133 : Option Addr) (l133 : Nat) (c133 : Nat) (j134 : Nat → Value) (w134 : World), J117 n132 o133 l133 c133 w134 →
          ∃ (I135 : Option Addr → Nat → Nat → Int → Int → World → Prop) (μ135 : Option Addr → Nat → Nat → Int → Int → World → Nat), I135 none 0 0 n132 0 w134 ∧
          (∀ (o136 : Option Addr) (l136 : Nat) (c136 : Nat) (n137 : Int) (n138 : Int) (j139 : Nat → Value) (w139 : World), I135 o136 l136 c136 n137 n138 w139 →
            (((n138 < 16 →
              ∃ (J140 : Int → World → Prop), (∃ (I141 : Int → World → Prop) (μ141 : Int → World → Nat), I141 n137 w139 ∧
               (∀ (n142 : Int) (j143 : Nat → Value) (w143 : World), I141 n142 w143 →
                 (((n142 < n2 →
                   ∃ o144 : Option Addr, ∃ l145 : Nat, ∃ l146 : Nat, World.cell? w143 (Addr.add d0 1) = some (.slice o144 l145 l146) ∧
                   ∃ d147 : Addr, o144 = some d147 ∧
                   ((0 : Int) ≤ n142 ∧ n142 < ((l145 : Nat) : Int)) ∧
                   ∃ o148 : Option Addr, ∃ l149 : Nat, ∃ l150 : Nat, World.cell? w143 (Addr.add d147 (Int.toNat n142)) = some (.slice o148 l149 l150) ∧
                   ∃ d151 : Addr, o148 = some d151 ∧
                   ((0 : Int) ≤ n3 ∧ n3 < ((l149 : Nat) : Int)) ∧
                   ∃ n152 : Int, World.cell? w143 (Addr.add d151 (Int.toNat n3)) = some (.int .u8 n152) ∧
                   ((((IntKind.wrap .i64 n152) = n138 →
                     I141 (IntKind.wrap .i64 (n142 + 1)) w143 ∧ μ141 (IntKind.wrap .i64 (n142 + 1)) w143 < μ141 n142 w143)) ∧
                    (((IntKind.wrap .i64 n152) ≠ n138 →
                     J140 n142 w143))))) ∧
                  ((¬ n142 < n2 →
                   J140 n142 w143))))) ∧
              (∀ (n153 : Int) (j154 : Nat → Value) (w154 : World), J140 n153 w154 →
                (((n153 = n137 →
                  ∀ (d155 : Addr) (w156 : World), IsNew w154 5 #[(.int .u8 128)] d155 w156 →
                  ∃ (v157 : Value) (w158 : World), Sem.run Try.prog (builtinV .append #[22, 22] 22 #[(.slice o136 l136 c136), (.slice (some d155) 1 1)]) w156 = .ok v157 w158 ∧
                  ∃ o159 : Option Addr, ∃ l160 : Nat, ∃ l161 : Nat, v157 = (.slice o159 l160 l161) ∧
                  I135 o159 l160 l161 n153 (IntKind.wrap .i64 (n138 + 1)) w158 ∧ μ135 o159 l160 l161 n153 (IntKind.wrap .i64 (n138 + 1)) w158 < μ135 o136 l136 c136 n137 n138 w139)) ∧
                 ((n153 ≠ n137 →
                  Calls Try.prog 127 #[(.pointer (some d0)), (.int .i64 n137), (.int .i64 n153), (.int .i64 (IntKind.wrap .i64 (n3 + 1)))] w154 (fun e162 w163 =>
                    ∃ o164 : Option Addr, ∃ l165 : Nat, ∃ l166 : Nat, e162 = .returned (.slice o164 l165 l166) ∧
                    ∃ (v167 : Value) (w168 : World), Sem.run Try.prog (builtinV .append #[22, 22] 22 #[(.slice o136 l136 c136), (.slice o164 l165 l166)]) w163 = .ok v167 w168 ∧
                    ∃ o169 : Option Addr, ∃ l170 : Nat, ∃ l171 : Nat, v167 = (.slice o169 l170 l171) ∧
                    I135 o169 l170 l171 n153 (IntKind.wrap .i64 (n138 + 1)) w168 ∧ μ135 o169 l170 l171 n153 (IntKind.wrap .i64 (n138 + 1)) w168 < μ135 o136 l136 c136 n137 n138 w139))))))) ∧
             ((¬ n138 < 16 →
              Calls Try.prog 126 #[(.slice o133 l133 c133)] w139 (fun e172 w173 =>
                ∃ o174 : Option Addr, ∃ l175 : Nat, ∃ l176 : Nat, e172 = .returned (.slice o174 l175 l176) ∧
                ∃ (v177 : Value) (w178 : World), Sem.run Try.prog (builtinV .append #[22, 22] 22 #[(.slice o136 l136 c136), (.slice o174 l175 l176)]) w173 = .ok v177 w178 ∧
                ∃ o179 : Option Addr, ∃ l180 : Nat, ∃ l181 : Nat, v177 = (.slice o179 l180 l181) ∧
                Calls Try.prog 63 #[(.slice o179 l180 l181)] w178 (fun e182 w183 =>
                  ∃ o184 : Option Addr, ∃ l185 : Nat, ∃ l186 : Nat, e182 = .returned (.slice o184 l185 l186) ∧
                  R (.returned (.slice o184 l185 l186)) w183))))))))))))))
theorem moraineref14_build_item.vc (d0 : Addr) (n1 : Int) (n2 : Int) (n3 : Int) (w : World) (R : Ending → World → Prop) (h : moraineref14_build_item.Vc d0 n1 n2 n3 w R) : Calls Try.prog 106 #[(.pointer (some d0)), (.int .i64 n1), (.int .i64 n2), (.int .i64 n3)] w R :=
  execF_sound (ann := [(1000007, [(11, .cell (.int .i64))]), (5, [(11, .cell (.int .i64))]), (1000016, [(15, .cell (.int .i64)), (16, .cell (.slice))]), (17, [(14, .cell (.slice)), (15, .cell (.int .i64)), (17, .cell (.int .i64))]), (1000022, [(18, .cell (.int .i64))]), (20, [(18, .cell (.int .i64))])]) (args := [.addr d0, .int .i64 n1, .int .i64 n2, .int .i64 n3]) Try.func106 mixed (Eq.mp (by kernel_rfl : moraineref14_build_item.Vc d0 n1 n2 n3 w R = execF (pA Try.prog R) Try.prog [(1000007, [(11, .cell (.int .i64))]), (5, [(11, .cell (.int .i64))]), (1000016, [(15, .cell (.int .i64)), (16, .cell (.slice))]), (17, [(14, .cell (.slice)), (15, .cell (.int .i64)), (17, .cell (.int .i64))]), (1000022, [(18, .cell (.int .i64))]), (20, [(18, .cell (.int .i64))])] Try.f106 [.addr d0, .int .i64 n1, .int .i64 n2, .int .i64 n3] w) h)

/-! (*moraine/moraineref14.build).ref: 127 -/
abbrev moraineref14_build_ref.n : Nat := 127
def moraineref14_build_ref.Vc (d0 : Addr) (n1 : Int) (n2 : Int) (n3 : Int) (w : World) (R : Ending → World → Prop) : Prop :=
  Calls Try.prog 106 #[(.pointer (some d0)), (.int .i64 n1), (.int .i64 n2), (.int .i64 n3)] w (fun e4 w5 =>
    ∃ o6 : Option Addr, ∃ l7 : Nat, ∃ l8 : Nat, e4 = .returned (.slice o6 l7 l8) ∧
    (((((l7 : Nat) : Int) < 32 →
      R (.returned (.slice o6 l7 l8)) w5)) ∧
     ((¬ ((l7 : Nat) : Int) < 32 →
      Calls Try.prog 18 #[(.slice o6 l7 l8)] w5 (fun e9 w10 =>
        ∃ L11 : Array Value, e9 = .returned (.agg L11) ∧
        ∀ (d12 : Addr) (w13 : World), IsNew w10 26 (Array.replicate 32 (.int .u8 0)) d12 w13 →
        ∃ w14 : World, Sem.run Try.prog (Instr.storeAt 26 (.pointer (some d12)) (.agg L11)) w13 = .ok () w14 ∧
        ∃ L15 : Array Value, RowAt w14 d12 32 L15 ∧
        Calls Try.prog 107 #[(.pointer (some d0)), (.agg L15), (.slice o6 l7 l8)] w14 (fun e16 w17 =>
          e16 = .returned (.tuple #[]) ∧
          ∃ (v18 : Value) (w19 : World), Sem.run Try.prog (builtinV .append #[22, 22] 22 #[(.slice none 0 0), (.slice (some d12) 32 32)]) w17 = .ok v18 w19 ∧
          ∃ o20 : Option Addr, ∃ l21 : Nat, ∃ l22 : Nat, v18 = (.slice o20 l21 l22) ∧
          Calls Try.prog 126 #[(.slice o20 l21 l22)] w19 (fun e23 w24 =>
            ∃ o25 : Option Addr, ∃ l26 : Nat, ∃ l27 : Nat, e23 = .returned (.slice o25 l26 l27) ∧
            R (.returned (.slice o25 l26 l27)) w24)))))))
theorem moraineref14_build_ref.vc (d0 : Addr) (n1 : Int) (n2 : Int) (n3 : Int) (w : World) (R : Ending → World → Prop) (h : moraineref14_build_ref.Vc d0 n1 n2 n3 w R) : Calls Try.prog 127 #[(.pointer (some d0)), (.int .i64 n1), (.int .i64 n2), (.int .i64 n3)] w R :=
  execF_sound (ann := []) (args := [.addr d0, .int .i64 n1, .int .i64 n2, .int .i64 n3]) Try.func127 mixed (Eq.mp (by kernel_rfl : moraineref14_build_ref.Vc d0 n1 n2 n3 w R = execF (pA Try.prog R) Try.prog [] Try.f127 [.addr d0, .int .i64 n1, .int .i64 n2, .int .i64 n3] w) h)

/-! (*moraine/moraineref14.build).node: 107 -/
abbrev moraineref14_build_node.n : Nat := 107
def moraineref14_build_node.Vc (d0 : Addr) (L1 : Array Value) (o2 : Option Addr) (l2 : Nat) (c2 : Nat) (w : World) (R : Ending → World → Prop) : Prop :=
  ∀ (d3 : Addr) (w4 : World), IsNew w 26 L1 d3 w4 →
  ∃ (J5 : World → Prop), (∃ (I6 : Int → World → Prop) (μ6 : Int → World → Nat), I6 0 w4 ∧
   (∀ (n7 : Int) (j8 : Nat → Value) (w8 : World), I6 n7 w8 →
     ∃ o9 : Option Addr, ∃ l10 : Nat, ∃ l11 : Nat, World.cell? w8 (Addr.add d0 2) = some (.slice o9 l10 l11) ∧
     (((n7 < ((l10 : Nat) : Int) →
       ∃ b12 : Bool, World.cell? w8 (Addr.add d0 3) = some (.bool b12) ∧
       (((b12 = false →
         ∀ w13 : World, IsDrew w8 w13 →
         ∃ o14 : Option Addr, ∃ l15 : Nat, ∃ l16 : Nat, World.cell? w13 (Addr.add d0 2) = some (.slice o14 l15 l16) ∧
         ∃ d17 : Addr, o14 = some d17 ∧
         ((0 : Int) ≤ n7 ∧ n7 < ((l15 : Nat) : Int)) ∧
         ∃ L18 : Array Value, RowAt w13 (Addr.add d17 ((Int.toNat n7) * 33)) 32 L18 ∧
         ∃ L19 : Array Value, RowAt w13 d3 32 L19 ∧
         ∃ v20 : Value, Sem.run Try.prog (semBin .eql 26 (.tmp 30) (.tmp 31) (.agg L18) (.agg L19)) w13 = .ok v20 w13 ∧
         ∃ b21 : Bool, v20 = (.bool b21) ∧
         (((b21 = true →
           R (.returned (.tuple #[])) w13)) ∧
          ((b21 = false →
           I6 (IntKind.wrap .i64 (n7 + 1)) w13 ∧ μ6 (IntKind.wrap .i64 (n7 + 1)) w13 < μ6 n7 w8))))) ∧
        ((b12 = true →
         J5  w8))))) ∧
      ((¬ n7 < ((l10 : Nat) : Int) →
       J5  w8))))) ∧
  (∀  (j22 : Nat → Value) (w22 : World), J5  w22 →
    ∀ w23 : World, IsDrew w22 w23 →
    ∃ o24 : Option Addr, ∃ l25 : Nat, ∃ l26 : Nat, World.cell? w23 (Addr.add d0 2) = some (.slice o24 l25 l26) ∧
    ∃ L27 : Array Value, RowAt w23 d3 32 L27 ∧
    Array.size L27 = 32 ∧
    Array.size (setsAt (lputL #[(.int .u8 0), (.int .u8 0), (.int .u8 0), (.int .u8 0), (.int .u8 0), (.int .u8 0), (.int .u8 0), (.int .u8 0), (.int .u8 0), (.int .u8 0), (.int .u8 0), (.int .u8 0), (.int .u8 0), (.int .u8 0), (.int .u8 0), (.int .u8 0), (.int .u8 0), (.int .u8 0), (.int .u8 0), (.int .u8 0), (.int .u8 0), (.int .u8 0), (.int .u8 0), (.int .u8 0), (.int .u8 0), (.int .u8 0), (.int .u8 0), (.int .u8 0), (.int .u8 0), (.int .u8 0), (.int .u8 0), (.int .u8 0), (.slice none 0 0)] 0 32 L27) 32 [(.slice o2 l2 c2)]) = 33 ∧
    ∀ (d28 : Addr) (w29 : World), IsNew w23 123 (lputL #[(.int .u8 0), (.int .u8 0), (.int .u8 0), (.int .u8 0), (.int .u8 0), (.int .u8 0), (.int .u8 0), (.int .u8 0), (.int .u8 0), (.int .u8 0), (.int .u8 0), (.int .u8 0), (.int .u8 0), (.int .u8 0), (.int .u8 0), (.int .u8 0), (.int .u8 0), (.int .u8 0), (.int .u8 0), (.int .u8 0), (.int .u8 0), (.int .u8 0), (.int .u8 0), (.int .u8 0), (.int .u8 0), (.int .u8 0), (.int .u8 0), (.int .u8 0), (.int .u8 0), (.int .u8 0), (.int .u8 0), (.int .u8 0), (.slice none 0 0)] 0 33 (setsAt (lputL #[(.int .u8 0), (.int .u8 0), (.int .u8 0), (.int .u8 0), (.int .u8 0), (.int .u8 0), (.int .u8 0), (.int .u8 0), (.int .u8 0), (.int .u8 0), (.int .u8 0), (.int .u8 0), (.int .u8 0), (.int .u8 0), (.int .u8 0), (.int .u8 0), (.int .u8 0), (.int .u8 0), (.int .u8 0), (.int .u8 0), (.int .u8 0), (.int .u8 0), (.int .u8 0), (.int .u8 0), (.int .u8 0), (.int .u8 0), (.int .u8 0), (.int .u8 0), (.int .u8 0), (.int .u8 0), (.int .u8 0), (.int .u8 0), (.slice none 0 0)] 0 32 L27) 32 [(.slice o2 l2 c2)])) d28 w29 →
    World.cell? w29 (Addr.add d0 2) = some (.slice o24 l25 l26) ∧
    ∃ (v30 : Value) (w31 : World), Sem.run Try.prog (builtinV .append #[46, 46] 46 #[(.slice o24 l25 l26), (.slice (some d28) 1 1)]) w29 = .ok v30 w31 ∧
    ∃ o32 : Option Addr, ∃ l33 : Nat, ∃ l34 : Nat, v30 = (.slice o32 l33 l34) ∧
    CanSet w31 (Addr.add d0 2) (.slice o32 l33 l34) ∧ ∀ w35 : World, IsSet w31 (Addr.add d0 2) (.slice o32 l33 l34) w35 →
    R (.returned (.tuple #[])) w35)
theorem moraineref14_build_node.vc (d0 : Addr) (L1 : Array Value) (o2 : Option Addr) (l2 : Nat) (c2 : Nat) (w : World) (R : Ending → World → Prop) (h : moraineref14_build_node.Vc d0 L1 o2 l2 c2 w R) : Calls Try.prog 107 #[(.pointer (some d0)), (.agg L1), (.slice o2 l2 c2)] w R :=
  execF_sound (ann := [(1000005, []), (2, [(6, .cell (.int .i64))])]) (args := [.addr d0, .big 32 L1, .slice o2 l2 c2]) Try.func107 mixed (Eq.mp (by kernel_rfl : moraineref14_build_node.Vc d0 L1 o2 l2 c2 w R = execF (pA Try.prog R) Try.prog [(1000005, []), (2, [(6, .cell (.int .i64))])] Try.f107 [.addr d0, .big 32 L1, .slice o2 l2 c2] w) h)

/-! moraine/moraineref14.Of: 27 -/
abbrev moraineref14_Of.n : Nat := 27
def moraineref14_Of.Vc (o0 : Option Addr) (l0 : Nat) (c0 : Nat) (w : World) (R : Ending → World → Prop) : Prop :=
  ∀ (d1 : Addr) (w2 : World), IsNew w 26 (Array.replicate 32 (.int .u8 0)) d1 w2 →
  Calls Try.prog 71 #[(.slice o0 l0 c0), (.bool false)] w2 (fun e3 w4 =>
    ∃ L5 : Array Value, ∃ o6 : Option Addr, ∃ l7 : Nat, ∃ l8 : Nat, e3 = .returned (.tuple #[(.agg L5), (.slice o6 l7 l8)]) ∧
    ∃ w9 : World, Sem.run Try.prog (Instr.storeAt 26 (.pointer (some d1)) (.agg L5)) w4 = .ok () w9 ∧
    ∃ L10 : Array Value, RowAt w9 d1 32 L10 ∧
    R (.returned (.tuple #[(.agg L10), (.slice o6 l7 l8)])) w9)
theorem moraineref14_Of.vc (o0 : Option Addr) (l0 : Nat) (c0 : Nat) (w : World) (R : Ending → World → Prop) (h : moraineref14_Of.Vc o0 l0 c0 w R) : Calls Try.prog 27 #[(.slice o0 l0 c0)] w R :=
  execF_sound (ann := []) (args := [.slice o0 l0 c0]) Try.func27 mixed (Eq.mp (by kernel_rfl : moraineref14_Of.Vc o0 l0 c0 w R = execF (pA Try.prog R) Try.prog [] Try.f27 [.slice o0 l0 c0] w) h)

/-! moraine/moraineref14.made: 71 -/
abbrev moraineref14_made.n : Nat := 71
def moraineref14_made.Vc (o0 : Option Addr) (l0 : Nat) (c0 : Nat) (b1 : Bool) (w : World) (R : Ending → World → Prop) : Prop :=
  ∀ (d2 : Addr) (w3 : World), IsNew w 26 (Array.replicate 32 (.int .u8 0)) d2 w3 →
  (((((l0 : Nat) : Int) = 0 →
    Calls Try.prog 83 #[] w3 (fun e4 w5 =>
      ∃ L6 : Array Value, e4 = .returned (.agg L6) ∧
      ∃ w7 : World, Sem.run Try.prog (Instr.storeAt 26 (.pointer (some d2)) (.agg L6)) w5 = .ok () w7 ∧
      ∃ L8 : Array Value, RowAt w7 d2 32 L8 ∧
      R (.returned (.tuple #[(.agg L8), (.slice none 0 0)])) w7))) ∧
   ((((l0 : Nat) : Int) ≠ 0 →
    ∀ (d9 : Addr) (w10 : World), IsNew w3 186 #[(.slice o0 l0 c0), (.slice none 0 0), (.slice none 0 0), (.bool b1)] d9 w10 →
    ∃ (I11 : Int → World → Prop) (μ11 : Int → World → Nat), I11 0 w10 ∧
    (∀ (n12 : Int) (j13 : Nat → Value) (w13 : World), I11 n12 w13 →
      (((n12 < ((l0 : Nat) : Int) →
        ∀ w14 : World, IsDrew w13 w14 →
        ∃ o15 : Option Addr, ∃ l16 : Nat, ∃ l17 : Nat, World.cell? w14 (Addr.add d9 1) = some (.slice o15 l16 l17) ∧
        ∃ d18 : Addr, o0 = some d18 ∧
        ((0 : Int) ≤ n12 ∧ n12 < ((l0 : Nat) : Int)) ∧
        ∃ o19 : Option Addr, ∃ l20 : Nat, ∃ l21 : Nat, World.cell? w14 (Addr.add d18 ((Int.toNat n12) * 2)) = some (.slice o19 l20 l21) ∧
        Calls Try.prog 41 #[(.slice o19 l20 l21)] w14 (fun e22 w23 =>
          ∃ o24 : Option Addr, ∃ l25 : Nat, ∃ l26 : Nat, e22 = .returned (.slice o24 l25 l26) ∧
          World.cell? w23 (Addr.add d9 1) = some (.slice o15 l16 l17) ∧
          ∀ (d27 : Addr) (w28 : World), IsNew w23 22 #[(.slice o24 l25 l26)] d27 w28 →
          World.cell? w28 (Addr.add d9 1) = some (.slice o15 l16 l17) ∧
          ∃ (v29 : Value) (w30 : World), Sem.run Try.prog (builtinV .append #[31, 31] 31 #[(.slice o15 l16 l17), (.slice (some d27) 1 1)]) w28 = .ok v29 w30 ∧
          ∃ o31 : Option Addr, ∃ l32 : Nat, ∃ l33 : Nat, v29 = (.slice o31 l32 l33) ∧
          CanSet w30 (Addr.add d9 1) (.slice o31 l32 l33) ∧ ∀ w34 : World, IsSet w30 (Addr.add d9 1) (.slice o31 l32 l33) w34 →
          I11 (IntKind.wrap .i64 (n12 + 1)) w34 ∧ μ11 (IntKind.wrap .i64 (n12 + 1)) w34 < μ11 n12 w13))) ∧
       ((¬ n12 < ((l0 : Nat) : Int) →
        Calls Try.prog 106 #[(.pointer (some d9)), (.int .i64 0), (.int .i64 ((l0 : Nat) : Int)), (.int .i64 0)] w13 (fun e35 w36 =>
          ∃ o37 : Option Addr, ∃ l38 : Nat, ∃ l39 : Nat, e35 = .returned (.slice o37 l38 l39) ∧
          Calls Try.prog 18 #[(.slice o37 l38 l39)] w36 (fun e40 w41 =>
            ∃ L42 : Array Value, e40 = .returned (.agg L42) ∧
            ∀ (d43 : Addr) (w44 : World), IsNew w41 26 (Array.replicate 32 (.int .u8 0)) d43 w44 →
            ∃ w45 : World, Sem.run Try.prog (Instr.storeAt 26 (.pointer (some d43)) (.agg L42)) w44 = .ok () w45 ∧
            ∃ L46 : Array Value, RowAt w45 d43 32 L46 ∧
            Calls Try.prog 107 #[(.pointer (some d9)), (.agg L46), (.slice o37 l38 l39)] w45 (fun e47 w48 =>
              e47 = .returned (.tuple #[]) ∧
              ∀ w49 : World, IsDrew w48 w49 →
              ∃ L50 : Array Value, RowAt w49 d43 32 L50 ∧
              ∃ o51 : Option Addr, ∃ l52 : Nat, ∃ l53 : Nat, World.cell? w49 (Addr.add d9 2) = some (.slice o51 l52 l53) ∧
              ∃ w54 : World, Sem.run Try.prog (Instr.storeAt 26 (.pointer (some d2)) (.agg L50)) w49 = .ok () w54 ∧
              World.cell? w54 (Addr.add d9 2) = some (.slice o51 l52 l53) ∧
              ∃ L55 : Array Value, RowAt w54 d2 32 L55 ∧
              R (.returned (.tuple #[(.agg L55), (.slice o51 l52 l53)])) w54))))))))))
theorem moraineref14_made.vc (o0 : Option Addr) (l0 : Nat) (c0 : Nat) (b1 : Bool) (w : World) (R : Ending → World → Prop) (h : moraineref14_made.Vc o0 l0 c0 b1 w R) : Calls Try.prog 71 #[(.slice o0 l0 c0), (.bool b1)] w R :=
  execF_sound (ann := [(5, [(7, .cell (.int .i64))])]) (args := [.slice o0 l0 c0, .bool (.var b1)]) Try.func71 mixed (Eq.mp (by kernel_rfl : moraineref14_made.Vc o0 l0 c0 b1 w R = execF (pA Try.prog R) Try.prog [(5, [(7, .cell (.int .i64))])] Try.f71 [.slice o0 l0 c0, .bool (.var b1)] w) h)

/-! moraine/moraineref14.Put: 58 -/
abbrev moraineref14_Put.n : Nat := 58
def moraineref14_Put.Vc (o0 : Option Addr) (l0 : Nat) (c0 : Nat) (o1 : Option Addr) (l1 : Nat) (c1 : Nat) (o2 : Option Addr) (l2 : Nat) (c2 : Nat) (w : World) (R : Ending → World → Prop) : Prop :=
  ∃ (J3 : Int → World → Prop), (∃ (I4 : Int → World → Prop) (μ4 : Int → World → Nat), I4 0 w ∧
   (∀ (n5 : Int) (j6 : Nat → Value) (w6 : World), I4 n5 w6 →
     (((n5 < ((l0 : Nat) : Int) →
       ∃ d7 : Addr, o0 = some d7 ∧
       ((0 : Int) ≤ n5 ∧ n5 < ((l0 : Nat) : Int)) ∧
       ∃ o8 : Option Addr, ∃ l9 : Nat, ∃ l10 : Nat, World.cell? w6 (Addr.add d7 ((Int.toNat n5) * 2)) = some (.slice o8 l9 l10) ∧
       Calls Try.prog 70 #[(.slice o8 l9 l10), (.slice o1 l1 c1)] w6 (fun e11 w12 =>
         ∃ n13 : Int, e11 = .returned (.int .i64 n13) ∧
         (((n13 < 0 →
           I4 (IntKind.wrap .i64 (n5 + 1)) w12 ∧ μ4 (IntKind.wrap .i64 (n5 + 1)) w12 < μ4 n5 w6)) ∧
          ((¬ n13 < 0 →
           J3 n5 w12)))))) ∧
      ((¬ n5 < ((l0 : Nat) : Int) →
       J3 n5 w6))))) ∧
  (∀ (n14 : Int) (j15 : Nat → Value) (w15 : World), J3 n14 w15 →
    ∃ (J16 : Bool → World → Prop), ((((n14 < ((l0 : Nat) : Int) →
       ∃ d17 : Addr, o0 = some d17 ∧
       ((0 : Int) ≤ n14 ∧ n14 < ((l0 : Nat) : Int)) ∧
       ∃ o18 : Option Addr, ∃ l19 : Nat, ∃ l20 : Nat, World.cell? w15 (Addr.add d17 ((Int.toNat n14) * 2)) = some (.slice o18 l19 l20) ∧
       Calls Try.prog 70 #[(.slice o18 l19 l20), (.slice o1 l1 c1)] w15 (fun e21 w22 =>
         ∃ n23 : Int, e21 = .returned (.int .i64 n23) ∧
         J16 (decide (n23 = 0)) w22))) ∧
      ((¬ n14 < ((l0 : Nat) : Int) →
       J16 false w15)))) ∧
    (∀ (b24 : Bool) (j25 : Nat → Value) (w25 : World), J16 b24 w25 →
      ((0 : Int) ≤ n14 ∧ n14 ≤ ((c0 : Nat) : Int)) ∧
      ∃ (v26 : Value) (w27 : World), Sem.run Try.prog (builtinV .append #[44, 44] 44 #[(.slice none 0 0), (.slice o0 (Int.toNat n14) c0)]) w25 = .ok v26 w27 ∧
      ∃ o28 : Option Addr, ∃ l29 : Nat, ∃ l30 : Nat, v26 = (.slice o28 l29 l30) ∧
      (((((l2 : Nat) : Int) > 0 →
        ∃ (v31 : Value) (w32 : World), Sem.run Try.prog (builtinV .append #[22, 22] 22 #[(.slice none 0 0), (.slice o1 l1 c1)]) w27 = .ok v31 w32 ∧
        ∃ o33 : Option Addr, ∃ l34 : Nat, ∃ l35 : Nat, v31 = (.slice o33 l34 l35) ∧
        ∃ (v36 : Value) (w37 : World), Sem.run Try.prog (builtinV .append #[22, 22] 22 #[(.slice none 0 0), (.slice o2 l2 c2)]) w32 = .ok v36 w37 ∧
        ∃ o38 : Option Addr, ∃ l39 : Nat, ∃ l40 : Nat, v36 = (.slice o38 l39 l40) ∧
        ∀ (d41 : Addr) (w42 : World), IsNew w37 93 #[(.slice o33 l34 l35), (.slice o38 l39 l40)] d41 w42 →
        ∃ (v43 : Value) (w44 : World), Sem.run Try.prog (builtinV .append #[44, 44] 44 #[(.slice o28 l29 l30), (.slice (some d41) 1 1)]) w42 = .ok v43 w44 ∧
        ∃ o45 : Option Addr, ∃ l46 : Nat, ∃ l47 : Nat, v43 = (.slice o45 l46 l47) ∧
        (((b24 = true →
          ((0 : Int) ≤ (IntKind.wrap .i64 (n14 + 1)) ∧ (IntKind.wrap .i64 (n14 + 1)) ≤ ((l0 : Nat) : Int)) ∧
          ∃ (v48 : Value) (w49 : World), Sem.run Try.prog (builtinV .append #[44, 44] 44 #[(.slice o45 l46 l47), (.slice (subO o0 c0 (Int.toNat (IntKind.wrap .i64 (n14 + 1))) 2) (l0 - (Int.toNat (IntKind.wrap .i64 (n14 + 1)))) (c0 - (Int.toNat (IntKind.wrap .i64 (n14 + 1)))))]) w44 = .ok v48 w49 ∧
          ∃ o50 : Option Addr, ∃ l51 : Nat, ∃ l52 : Nat, v48 = (.slice o50 l51 l52) ∧
          R (.returned (.slice o50 l51 l52)) w49)) ∧
         ((b24 = false →
          ((0 : Int) ≤ n14 ∧ n14 ≤ ((l0 : Nat) : Int)) ∧
          ∃ (v53 : Value) (w54 : World), Sem.run Try.prog (builtinV .append #[44, 44] 44 #[(.slice o45 l46 l47), (.slice (subO o0 c0 (Int.toNat n14) 2) (l0 - (Int.toNat n14)) (c0 - (Int.toNat n14)))]) w44 = .ok v53 w54 ∧
          ∃ o55 : Option Addr, ∃ l56 : Nat, ∃ l57 : Nat, v53 = (.slice o55 l56 l57) ∧
          R (.returned (.slice o55 l56 l57)) w54))))) ∧
       ((¬ ((l2 : Nat) : Int) > 0 →
        (((b24 = true →
          ((0 : Int) ≤ (IntKind.wrap .i64 (n14 + 1)) ∧ (IntKind.wrap .i64 (n14 + 1)) ≤ ((l0 : Nat) : Int)) ∧
          ∃ (v58 : Value) (w59 : World), Sem.run Try.prog (builtinV .append #[44, 44] 44 #[(.slice o28 l29 l30), (.slice (subO o0 c0 (Int.toNat (IntKind.wrap .i64 (n14 + 1))) 2) (l0 - (Int.toNat (IntKind.wrap .i64 (n14 + 1)))) (c0 - (Int.toNat (IntKind.wrap .i64 (n14 + 1)))))]) w27 = .ok v58 w59 ∧
          ∃ o60 : Option Addr, ∃ l61 : Nat, ∃ l62 : Nat, v58 = (.slice o60 l61 l62) ∧
          R (.returned (.slice o60 l61 l62)) w59)) ∧
         ((b24 = false →
          ((0 : Int) ≤ n14 ∧ n14 ≤ ((l0 : Nat) : Int)) ∧
          ∃ (v63 : Value) (w64 : World), Sem.run Try.prog (builtinV .append #[44, 44] 44 #[(.slice o28 l29 l30), (.slice (subO o0 c0 (Int.toNat n14) 2) (l0 - (Int.toNat n14)) (c0 - (Int.toNat n14)))]) w27 = .ok v63 w64 ∧
          ∃ o65 : Option Addr, ∃ l66 : Nat, ∃ l67 : Nat, v63 = (.slice o65 l66 l67) ∧
          R (.returned (.slice o65 l66 l67)) w64))))))))
theorem moraineref14_Put.vc (o0 : Option Addr) (l0 : Nat) (c0 : Nat) (o1 : Option Addr) (l1 : Nat) (c1 : Nat) (o2 : Option Addr) (l2 : Nat) (c2 : Nat) (w : World) (R : Ending → World → Prop) (h : moraineref14_Put.Vc o0 l0 c0 o1 l1 c1 o2 l2 c2 w R) : Calls Try.prog 58 #[(.slice o0 l0 c0), (.slice o1 l1 c1), (.slice o2 l2 c2)] w R :=
  execF_sound (ann := [(1000004, [(7, .cell (.int .i64))]), (2, [(7, .cell (.int .i64))]), (1000005, [(8, .cell (.bool))])]) (args := [.slice o0 l0 c0, .slice o1 l1 c1, .slice o2 l2 c2]) Try.func58 mixed (Eq.mp (by kernel_rfl : moraineref14_Put.Vc o0 l0 c0 o1 l1 c1 o2 l2 c2 w R = execF (pA Try.prog R) Try.prog [(1000004, [(7, .cell (.int .i64))]), (2, [(7, .cell (.int .i64))]), (1000005, [(8, .cell (.bool))])] Try.f58 [.slice o0 l0 c0, .slice o1 l1 c1, .slice o2 l2 c2] w) h)

/-! moraine/moraineref14.Find: 56 -/
abbrev moraineref14_Find.n : Nat := 56
def moraineref14_Find.Vc (o0 : Option Addr) (l0 : Nat) (c0 : Nat) (o1 : Option Addr) (l1 : Nat) (c1 : Nat) (w : World) (R : Ending → World → Prop) : Prop :=
  ∃ (I2 : Int → World → Prop) (μ2 : Int → World → Nat), I2 0 w ∧
  (∀ (n3 : Int) (j4 : Nat → Value) (w4 : World), I2 n3 w4 →
    (((n3 < ((l0 : Nat) : Int) →
      ∀ w5 : World, IsDrew w4 w5 →
      ∃ d6 : Addr, o0 = some d6 ∧
      ((0 : Int) ≤ n3 ∧ n3 < ((l0 : Nat) : Int)) ∧
      ∃ o7 : Option Addr, ∃ l8 : Nat, ∃ l9 : Nat, World.cell? w5 (Addr.add d6 ((Int.toNat n3) * 2)) = some (.slice o7 l8 l9) ∧
      ∃ v10 : Value, Sem.run Try.prog (convert 22 9 (.slice o7 l8 l9)) w5 = .ok v10 w5 ∧
      ∃ s11 : ByteArray, v10 = (.string s11) ∧
      ∃ v12 : Value, Sem.run Try.prog (convert 22 9 (.slice o1 l1 c1)) w5 = .ok v12 w5 ∧
      ∃ s13 : ByteArray, v12 = (.string s13) ∧
      (((strB .eql s11 s13 = true →
        ∃ d14 : Addr, o0 = some d14 ∧
        ((0 : Int) ≤ n3 ∧ n3 < ((l0 : Nat) : Int)) ∧
        ∃ o15 : Option Addr, ∃ l16 : Nat, ∃ l17 : Nat, World.cell? w5 (Addr.add (Addr.add d14 ((Int.toNat n3) * 2)) 1) = some (.slice o15 l16 l17) ∧
        R (.returned (.tuple #[(.slice o15 l16 l17), (.bool true)])) w5)) ∧
       ((strB .eql s11 s13 = false →
        I2 (IntKind.wrap .i64 (n3 + 1)) w5 ∧ μ2 (IntKind.wrap .i64 (n3 + 1)) w5 < μ2 n3 w4))))) ∧
     ((¬ n3 < ((l0 : Nat) : Int) →
      R (.returned (.tuple #[(.slice none 0 0), (.bool false)])) w4))))
theorem moraineref14_Find.vc (o0 : Option Addr) (l0 : Nat) (c0 : Nat) (o1 : Option Addr) (l1 : Nat) (c1 : Nat) (w : World) (R : Ending → World → Prop) (h : moraineref14_Find.Vc o0 l0 c0 o1 l1 c1 w R) : Calls Try.prog 56 #[(.slice o0 l0 c0), (.slice o1 l1 c1)] w R :=
  execF_sound (ann := [(2, [(6, .cell (.int .i64))])]) (args := [.slice o0 l0 c0, .slice o1 l1 c1]) Try.func56 mixed (Eq.mp (by kernel_rfl : moraineref14_Find.Vc o0 l0 c0 o1 l1 c1 w R = execF (pA Try.prog R) Try.prog [(2, [(6, .cell (.int .i64))])] Try.f56 [.slice o0 l0 c0, .slice o1 l1 c1] w) h)

/-! moraine/moraineref14.Nodes: 29 -/
abbrev moraineref14_Nodes.n : Nat := 29
def moraineref14_Nodes.Vc (o0 : Option Addr) (l0 : Nat) (c0 : Nat) (w : World) (R : Ending → World → Prop) : Prop :=
  ∃ (I1 : Option Addr → Nat → Nat → Int → World → Prop) (μ1 : Option Addr → Nat → Nat → Int → World → Nat), I1 none 0 0 0 w ∧
  (∀ (o2 : Option Addr) (l2 : Nat) (c2 : Nat) (n3 : Int) (j4 : Nat → Value) (w4 : World), I1 o2 l2 c2 n3 w4 →
    (((n3 < ((l0 : Nat) : Int) →
      ∀ w5 : World, IsDrew w4 w5 →
      ∃ d6 : Addr, o0 = some d6 ∧
      ((0 : Int) ≤ n3 ∧ n3 < ((l0 : Nat) : Int)) ∧
      ∃ L7 : Array Value, RowAt w5 (Addr.add d6 ((Int.toNat n3) * 33)) 32 L7 ∧
      ∃ d8 : Addr, o0 = some d8 ∧
      ((0 : Int) ≤ n3 ∧ n3 < ((l0 : Nat) : Int)) ∧
      ∃ o9 : Option Addr, ∃ l10 : Nat, ∃ l11 : Nat, World.cell? w5 (Addr.add (Addr.add d8 ((Int.toNat n3) * 33)) 32) = some (.slice o9 l10 l11) ∧
      ∃ (v12 : Value) (w13 : World), Sem.run Try.prog (builtinV .append #[22, 22] 22 #[(.slice none 0 0), (.slice o9 l10 l11)]) w5 = .ok v12 w13 ∧
      ∃ o14 : Option Addr, ∃ l15 : Nat, ∃ l16 : Nat, v12 = (.slice o14 l15 l16) ∧
      RowAt w13 (Addr.add d6 ((Int.toNat n3) * 33)) 32 L7 ∧
      Array.size L7 = 32 ∧
      Array.size (setsAt (lputL #[(.int .u8 0), (.int .u8 0), (.int .u8 0), (.int .u8 0), (.int .u8 0), (.int .u8 0), (.int .u8 0), (.int .u8 0), (.int .u8 0), (.int .u8 0), (.int .u8 0), (.int .u8 0), (.int .u8 0), (.int .u8 0), (.int .u8 0), (.int .u8 0), (.int .u8 0), (.int .u8 0), (.int .u8 0), (.int .u8 0), (.int .u8 0), (.int .u8 0), (.int .u8 0), (.int .u8 0), (.int .u8 0), (.int .u8 0), (.int .u8 0), (.int .u8 0), (.int .u8 0), (.int .u8 0), (.int .u8 0), (.int .u8 0), (.slice none 0 0)] 0 32 L7) 32 [(.slice o14 l15 l16)]) = 33 ∧
      ∀ (d17 : Addr) (w18 : World), IsNew w13 104 (lputL #[(.int .u8 0), (.int .u8 0), (.int .u8 0), (.int .u8 0), (.int .u8 0), (.int .u8 0), (.int .u8 0), (.int .u8 0), (.int .u8 0), (.int .u8 0), (.int .u8 0), (.int .u8 0), (.int .u8 0), (.int .u8 0), (.int .u8 0), (.int .u8 0), (.int .u8 0), (.int .u8 0), (.int .u8 0), (.int .u8 0), (.int .u8 0), (.int .u8 0), (.int .u8 0), (.int .u8 0), (.int .u8 0), (.int .u8 0), (.int .u8 0), (.int .u8 0), (.int .u8 0), (.int .u8 0), (.int .u8 0), (.int .u8 0), (.slice none 0 0)] 0 33 (setsAt (lputL #[(.int .u8 0), (.int .u8 0), (.int .u8 0), (.int .u8 0), (.int .u8 0), (.int .u8 0), (.int .u8 0), (.int .u8 0), (.int .u8 0), (.int .u8 0), (.int .u8 0), (.int .u8 0), (.int .u8 0), (.int .u8 0), (.int .u8 0), (.int .u8 0), (.int .u8 0), (.int .u8 0), (.int .u8 0), (.int .u8 0), (.int .u8 0), (.int .u8 0), (.int .u8 0), (.int .u8 0), (.int .u8 0), (.int .u8 0), (.int .u8 0), (.int .u8 0), (.int .u8 0), (.int .u8 0), (.int .u8 0), (.int .u8 0), (.slice none 0 0)] 0 32 L7) 32 [(.slice o14 l15 l16)])) d17 w18 →
      ∃ (v19 : Value) (w20 : World), Sem.run Try.prog (builtinV .append #[49, 49] 49 #[(.slice o2 l2 c2), (.slice (some d17) 1 1)]) w18 = .ok v19 w20 ∧
      ∃ o21 : Option Addr, ∃ l22 : Nat, ∃ l23 : Nat, v19 = (.slice o21 l22 l23) ∧
      I1 o21 l22 l23 (IntKind.wrap .i64 (n3 + 1)) w20 ∧ μ1 o21 l22 l23 (IntKind.wrap .i64 (n3 + 1)) w20 < μ1 o2 l2 c2 n3 w4)) ∧
     ((¬ n3 < ((l0 : Nat) : Int) →
      R (.returned (.slice o2 l2 c2)) w4))))
theorem moraineref14_Nodes.vc (o0 : Option Addr) (l0 : Nat) (c0 : Nat) (w : World) (R : Ending → World → Prop) (h : moraineref14_Nodes.Vc o0 l0 c0 w R) : Calls Try.prog 29 #[(.slice o0 l0 c0)] w R :=
  execF_sound (ann := [(3, [(3, .cell (.slice)), (4, .cell (.int .i64))])]) (args := [.slice o0 l0 c0]) Try.func29 mixed (Eq.mp (by kernel_rfl : moraineref14_Nodes.Vc o0 l0 c0 w R = execF (pA Try.prog R) Try.prog [(3, [(3, .cell (.slice)), (4, .cell (.int .i64))])] Try.f29 [.slice o0 l0 c0] w) h)

/-! moraine/morainehelp.Bytes: 36 -/
abbrev morainehelp_Bytes.n : Nat := 36
def morainehelp_Bytes.Vc (o0 : Option Addr) (l0 : Nat) (c0 : Nat) (o1 : Option Addr) (l1 : Nat) (c1 : Nat) (w : World) (R : Ending → World → Prop) : Prop :=
  ∃ v2 : Value, Sem.run Try.prog (convert 22 9 (.slice o0 l0 c0)) w = .ok v2 w ∧
  ∃ s3 : ByteArray, v2 = (.string s3) ∧
  ∃ v4 : Value, Sem.run Try.prog (convert 22 9 (.slice o1 l1 c1)) w = .ok v4 w ∧
  ∃ s5 : ByteArray, v4 = (.string s5) ∧
  R (.returned (.bool (strB .eql s3 s5))) w
theorem morainehelp_Bytes.vc (o0 : Option Addr) (l0 : Nat) (c0 : Nat) (o1 : Option Addr) (l1 : Nat) (c1 : Nat) (w : World) (R : Ending → World → Prop) (h : morainehelp_Bytes.Vc o0 l0 c0 o1 l1 c1 w R) : Calls Try.prog 36 #[(.slice o0 l0 c0), (.slice o1 l1 c1)] w R :=
  execF_sound (ann := []) (args := [.slice o0 l0 c0, .slice o1 l1 c1]) Try.func36 mixed (Eq.mp (by kernel_rfl : morainehelp_Bytes.Vc o0 l0 c0 o1 l1 c1 w R = execF (pA Try.prog R) Try.prog [] Try.f36 [.slice o0 l0 c0, .slice o1 l1 c1] w) h)

/-! moraine/morainehelp.Nodes: 59 -/
abbrev morainehelp_Nodes.n : Nat := 59
def morainehelp_Nodes.Vc (o0 : Option Addr) (l0 : Nat) (c0 : Nat) (o1 : Option Addr) (l1 : Nat) (c1 : Nat) (w : World) (R : Ending → World → Prop) : Prop :=
  (((((l0 : Nat) : Int) ≠ ((l1 : Nat) : Int) →
    R (.returned (.bool false)) w)) ∧
   ((((l0 : Nat) : Int) = ((l1 : Nat) : Int) →
    ∃ (I2 : Int → World → Prop) (μ2 : Int → World → Nat), I2 0 w ∧
    (∀ (n3 : Int) (j4 : Nat → Value) (w4 : World), I2 n3 w4 →
      (((n3 < ((l0 : Nat) : Int) →
        ∀ w5 : World, IsDrew w4 w5 →
        ∃ d6 : Addr, o0 = some d6 ∧
        ((0 : Int) ≤ n3 ∧ n3 < ((l0 : Nat) : Int)) ∧
        ∃ L7 : Array Value, RowAt w5 (Addr.add d6 ((Int.toNat n3) * 33)) 32 L7 ∧
        ∃ d8 : Addr, o1 = some d8 ∧
        ((0 : Int) ≤ n3 ∧ n3 < ((l1 : Nat) : Int)) ∧
        ∃ L9 : Array Value, RowAt w5 (Addr.add d8 ((Int.toNat n3) * 33)) 32 L9 ∧
        ∃ v10 : Value, Sem.run Try.prog (semBin .neq 26 (.tmp 21) (.tmp 26) (.agg L7) (.agg L9)) w5 = .ok v10 w5 ∧
        ∃ b11 : Bool, v10 = (.bool b11) ∧
        (((b11 = true →
          R (.returned (.bool false)) w5)) ∧
         ((b11 = false →
          ∃ d12 : Addr, o0 = some d12 ∧
          ((0 : Int) ≤ n3 ∧ n3 < ((l0 : Nat) : Int)) ∧
          ∃ o13 : Option Addr, ∃ l14 : Nat, ∃ l15 : Nat, World.cell? w5 (Addr.add (Addr.add d12 ((Int.toNat n3) * 33)) 32) = some (.slice o13 l14 l15) ∧
          ∃ v16 : Value, Sem.run Try.prog (convert 22 9 (.slice o13 l14 l15)) w5 = .ok v16 w5 ∧
          ∃ s17 : ByteArray, v16 = (.string s17) ∧
          ∃ d18 : Addr, o1 = some d18 ∧
          ((0 : Int) ≤ n3 ∧ n3 < ((l1 : Nat) : Int)) ∧
          ∃ o19 : Option Addr, ∃ l20 : Nat, ∃ l21 : Nat, World.cell? w5 (Addr.add (Addr.add d18 ((Int.toNat n3) * 33)) 32) = some (.slice o19 l20 l21) ∧
          ∃ v22 : Value, Sem.run Try.prog (convert 22 9 (.slice o19 l20 l21)) w5 = .ok v22 w5 ∧
          ∃ s23 : ByteArray, v22 = (.string s23) ∧
          (((strB .neq s17 s23 = true →
            R (.returned (.bool false)) w5)) ∧
           ((strB .neq s17 s23 = false →
            I2 (IntKind.wrap .i64 (n3 + 1)) w5 ∧ μ2 (IntKind.wrap .i64 (n3 + 1)) w5 < μ2 n3 w4)))))))) ∧
       ((¬ n3 < ((l0 : Nat) : Int) →
        R (.returned (.bool true)) w4)))))))
theorem morainehelp_Nodes.vc (o0 : Option Addr) (l0 : Nat) (c0 : Nat) (o1 : Option Addr) (l1 : Nat) (c1 : Nat) (w : World) (R : Ending → World → Prop) (h : morainehelp_Nodes.Vc o0 l0 c0 o1 l1 c1 w R) : Calls Try.prog 59 #[(.slice o0 l0 c0), (.slice o1 l1 c1)] w R :=
  execF_sound (ann := [(4, [(5, .cell (.int .i64))])]) (args := [.slice o0 l0 c0, .slice o1 l1 c1]) Try.func59 mixed (Eq.mp (by kernel_rfl : morainehelp_Nodes.Vc o0 l0 c0 o1 l1 c1 w R = execF (pA Try.prog R) Try.prog [(4, [(5, .cell (.int .i64))])] Try.f59 [.slice o0 l0 c0, .slice o1 l1 c1] w) h)

/-! moraine/morainehelp.Spoil: 62 -/
abbrev morainehelp_Spoil.n : Nat := 62
def morainehelp_Spoil.Vc (o0 : Option Addr) (l0 : Nat) (c0 : Nat) (w : World) (R : Ending → World → Prop) : Prop :=
  ∃ (I1 : Int → World → Prop) (μ1 : Int → World → Nat), I1 0 w ∧
  (∀ (n2 : Int) (j3 : Nat → Value) (w3 : World), I1 n2 w3 →
    (((n2 < ((l0 : Nat) : Int) →
      ∃ d4 : Addr, o0 = some d4 ∧
      ((0 : Int) ≤ n2 ∧ n2 < ((l0 : Nat) : Int)) ∧
      CanSet w3 (Addr.add d4 (Int.toNat n2)) (.int .u8 238) ∧ ∀ w5 : World, IsSet w3 (Addr.add d4 (Int.toNat n2)) (.int .u8 238) w5 →
      I1 (IntKind.wrap .i64 (n2 + 1)) w5 ∧ μ1 (IntKind.wrap .i64 (n2 + 1)) w5 < μ1 n2 w3)) ∧
     ((¬ n2 < ((l0 : Nat) : Int) →
      R (.returned (.tuple #[])) w3))))
theorem morainehelp_Spoil.vc (o0 : Option Addr) (l0 : Nat) (c0 : Nat) (w : World) (R : Ending → World → Prop) (h : morainehelp_Spoil.Vc o0 l0 c0 w R) : Calls Try.prog 62 #[(.slice o0 l0 c0)] w R :=
  execF_sound (ann := [(1, [(2, .cell (.int .i64))])]) (args := [.slice o0 l0 c0]) Try.func62 mixed (Eq.mp (by kernel_rfl : morainehelp_Spoil.Vc o0 l0 c0 w R = execF (pA Try.prog R) Try.prog [(1, [(2, .cell (.int .i64))])] Try.f62 [.slice o0 l0 c0] w) h)

end Go.Proofs.Ytfghidehlnfdiaa
end

section
set_option linter.unusedVariables false
set_option linter.unusedSimpArgs false
namespace Go.Trie
/-- The children that are there among the first j. -/
def thereTo (cs : Fin 16 → Nd) (j : Nat) : List (Fin 16) := ((List.finRange 16).take j).filter fun i => !isNil (cs i)
theorem there_all (cs : Fin 16 → Nd) : thereTo cs 16 = there cs := by unfold thereTo there; rw [List.take_of_length_le (by simp)]
theorem there_next (cs : Fin 16 → Nd) (i : Fin 16) : thereTo cs (i.val + 1) = thereTo cs i.val ++ (if isNil (cs i) then [] else [i]) := by
  unfold thereTo
  rw [List.take_add_one, List.getElem?_eq_getElem (by simp), List.filter_append]
  congr 1
  simp only [List.getElem_finRange, Option.toList]
  by_cases h : isNil (cs i) = true
  · simp [h]
  · simp [h]
def lastI (l : List (Fin 16)) : Int := match l.getLast? with
  | none => -1
  | some i => (i.val : Int)
theorem thereTo_len (cs : Fin 16 → Nd) (j : Nat) : (thereTo cs j).length ≤ 16 := by
  unfold thereTo
  have h1 := List.length_filter_le (fun i => !isNil (cs i)) ((List.finRange 16).take j)
  have h2 : ((List.finRange 16).take j).length ≤ 16 := by rw [List.length_take, List.length_finRange]; omega
  omega
theorem collapse_nil {cs : Fin 16 → Nd} {v : By} (h : there cs = []) : collapse cs v = .leaf [] v := by unfold collapse; rw [h]
theorem collapse_one {cs : Fin 16 → Nd} {v : By} {i : Fin 16} (h : there cs = [i]) : collapse cs v = if v = [] then rowed [UInt8.ofNat i.val] (cs i) else .branch cs v := by unfold collapse; rw [h]
theorem collapse_more {cs : Fin 16 → Nd} {v : By} (h : 1 < (there cs).length) : collapse cs v = .branch cs v := by
  unfold collapse
  match hl : there cs with
  | [] => rw [hl] at h; simp at h
  | [i] => rw [hl] at h; simp at h
  | i :: j :: r => rfl
theorem rowed_cons (a : UInt8) (p : By) (n : Nd) (hb : IsBranch n) : rowed (a :: p) n = .row (a :: p) n := by
  unfold rowed
  rw [if_neg (by simp)]
  cases n with
  | branch cs v => rfl
  | nil => exact hb.elim
  | leaf p v => exact hb.elim
  | row p v => exact hb.elim
end Go.Trie
namespace Go.Proofs.Ytfghidehlnfdiaa
open Go Go.Vcg Go.Trie
section
variable {C : Type} {S : C → Prop} {w0 w w1 w' : World} {lab lab2 : Nat → C} {c : C}
theorem node_iface {n : Nd} {v : Value} (h : NodeAt w lab c n v) : (v = .nilIface ∧ isNil n = true) ∨ (IsIface v ∧ isNil n = false) := by
  cases n with
  | nil => exact .inl ⟨h, rfl⟩
  | leaf p x => obtain ⟨b, op, cp, ov, cv, rfl, _⟩ := h; exact .inr ⟨⟨_, _, rfl⟩, rfl⟩
  | row p k => obtain ⟨b, op, cp, vk, rfl, _⟩ := h; exact .inr ⟨⟨_, _, rfl⟩, rfl⟩
  | branch cs x => obtain ⟨b, vs, ov, cv, rfl, _⟩ := h; exact .inr ⟨⟨_, _, rfl⟩, rfl⟩
theorem nib_byte (w : World) (i : Fin 16) : RdB (w.alloc (.cells #[.int .u8 (IntKind.wrap .u8 (i.val : Int))] 5)) (some ⟨w.heap.size, 0, none⟩) [UInt8.ofNat i.val] := by
  rw [wrap_u8_nat]
  exact RdB.of_blk (Blk.new w 5 #[bV (UInt8.ofNat i.val)]) (fun j hj => by
    obtain rfl : j = 0 := by simpa using hj
    rfl)
theorem collapsed_calls {D t : Nat} {cs : Fin 16 → Nd} {x : By} (h : BrAt w lab c D cs x) (hD : lab D = c) (hs : ∀ i, plen (cs i) ≤ 128) :
    Calls Try.prog trie_Trie_collapsed.n #[.pointer (some ⟨t, 0, none⟩), .pointer (some ⟨D, 0, none⟩)] w (fun e w' => ∃ v', e = .returned (.tuple #[v', .int .i64 0]) ∧ Grown w lab c w' (collapse cs x) v') := by
  refine calls_gen fun R hR => trie_Trie_collapsed.vc _ _ _ _ ?_
  unfold trie_Trie_collapsed.Vc
  obtain ⟨vs, ov, cv, B, hx, hk⟩ := h.ex
  have hL : ∀ i, i < 16 → (brA vs ov x.length cv)[0 + i]? = (List.ofFn vs).toArray[i]? := by
    intro i hi
    rw [Nat.zero_add, brA_at vs ov x.length cv ⟨i, hi⟩, List.getElem?_toArray, List.getElem?_ofFn, dif_pos hi]
  refine ⟨(List.ofFn vs).toArray, B.rowAt (by simp) hL, ?_⟩
  refine ⟨fun a m i w' => ∃ j : Nat, i = (j : Int) ∧ j ≤ 16 ∧ a = lastI (thereTo cs j) ∧ m = ((thereTo cs j).length : Int) ∧ w' = w, fun _ _ i _ => ((16 : Int) - i).toNat, ⟨0, rfl, Nat.zero_le _, rfl, rfl, rfl⟩, ?_⟩
  rintro _ _ _ _ w ⟨j, rfl, hj, rfl, rfl, rfl⟩
  simp only [add_at, Nat.zero_add]
  refine ⟨fun hlt => ?_, fun hge => ?_⟩
  · have hjl : j < 16 := by omega
    obtain ⟨ie, hie, hz, hsz, hb⟩ := info_of info_node
    have hv : (List.ofFn vs).toArray[j]? = some (vs ⟨j, hjl⟩) := by rw [List.getElem?_toArray, List.getElem?_ofFn, dif_pos hjl]
    have ht := there_next cs ⟨j, hjl⟩
    dsimp only at ht
    have hlen := thereTo_len cs j
    refine ⟨_, run_index1 und_kids hie hsz agg_node hjl hv w, _, rfl, ?_⟩
    rw [wrap_i64_small (n := (j : Int) + 1) (by omega) (by omega), wrap_i64_small (n := ((thereTo cs j).length : Int) + 1) (by omega) (by omega)]
    rcases node_iface (hk ⟨j, hjl⟩) with ⟨hv0, hn⟩ | ⟨hv0, hn⟩
    · rw [hn] at ht
      simp only [if_true, List.append_nil] at ht
      exact .inl ⟨hv0, ⟨j + 1, by omega, hjl, by rw [ht], by rw [ht], trivial⟩, by omega⟩
    · rw [hn] at ht
      simp only [Bool.false_eq_true, if_false] at ht
      refine .inr ⟨hv0, ⟨j + 1, by omega, hjl, ?_, ?_, trivial⟩, by omega⟩
      · rw [ht]; unfold lastI; rw [List.getLast?_concat]
      · rw [ht, List.length_append]; simp
  · obtain rfl : j = 16 := by omega
    rw [there_all]
    have stay : collapse cs x = .branch cs x → R (.returned (.tuple #[.iface 155 (.pointer (some ⟨D, 0, none⟩)), .int .i64 0])) w := fun e => by
      refine hR _ _ ⟨_, rfl, ?_⟩
      rw [e]
      exact NodeAt.grow (h.node hD) (Mod.refl w)
    have leafy : there cs = [] → ∀ (d : Addr) (w2 : World), IsNew w 177 #[.slice none 0 0, .slice ov x.length cv] d w2 → R (.returned (.tuple #[.iface 171 (.pointer (some d)), .int .i64 0])) w2 := fun e => by
      rintro d w2 ⟨rfl, rfl⟩
      have M := Mod.alloc (S := NoB) w (.cells #[.slice none 0 0, .slice ov x.length cv] 177)
      refine hR _ _ ⟨_, rfl, M, ?_⟩
      rw [collapse_nil e]
      exact ⟨_, none, 0, ov, cv, rfl, new_cb (Mod.refl w) _ _, CBy.nil _ _ _ _, Nat.le_refl _, hx.stp (S := NoS) (Stp.of_nob M c) (fun h => h)⟩
    refine ⟨fun w' => w' = w ∧ x = [] ∧ ∃ i, there cs = [i], ⟨fun hm => stay (collapse_more (by omega)), fun hm => ⟨fun h1 => ⟨_, _, _, B.rd1 (brA_val _ _ _ _), fun hxp => ?_, fun hxz => ⟨fun h0 => by omega, fun _ => ⟨rfl, List.eq_nil_of_length_eq_zero (by omega), List.length_eq_one_iff.1 (by omega)⟩⟩⟩, fun h1 => ⟨fun h0 => ⟨_, _, _, B.rd1 (brA_val _ _ _ _), leafy (List.eq_nil_of_length_eq_zero (by omega))⟩, fun h0 => by omega⟩⟩⟩, ?_⟩
    · obtain ⟨i, hi⟩ := List.length_eq_one_iff.1 (show (there cs).length = 1 by omega)
      refine stay ?_
      rw [collapse_one hi, if_neg (by rintro rfl; simp at hxp)]
    · rintro _ w ⟨rfl, rfl, i, hi⟩
      have hli : lastI (there cs) = ((i.val : Nat) : Int) := by rw [hi]; rfl
      rw [hli]
      have hi16 := i.isLt
      refine ⟨⟨by omega, by omega⟩, _, by rw [Int.toNat_natCast]; exact B.rd1 (brA_at vs ov 0 cv i), ?_⟩
      refine (seen_calls (hk i) t).mono ?_
      rintro _ w ⟨rfl, rfl⟩
      refine ⟨_, _, rfl, fun h => (h rfl).elim, fun _ => ?_⟩
      rintro d w1 ⟨rfl, rfl⟩
      have hb := nib_byte w i
      have M1 := Mod.alloc (S := NoB) w (.cells #[.int .u8 (IntKind.wrap .u8 (i.val : Int))] 5)
      have B1 := B.mod' M1
      have hsz : (w.alloc (.cells #[.int .u8 (IntKind.wrap .u8 (i.val : Int))] 5)).heap.size = w.heap.size + 1 := size_alloc _ _
      generalize w.alloc (.cells #[.int .u8 (IntKind.wrap .u8 (i.val : Int))] 5) = w1 at *
      have G := NodeAt.grow (hk i) M1
      have hnb : CBy w1 (ext lab w.heap.size c) c (some ⟨w.heap.size, 0, none⟩) [UInt8.ofNat i.val] := ⟨hb, fun _ d hd => by cases hd; exact ext_new (Nat.le_refl _)⟩
      have e := collapse_one (v := []) hi
      rw [if_pos rfl] at e
      rw [e] at hR
      have hne : cs i ≠ .nil := mem_there.1 (by rw [hi]; simp)
      have notb : ¬ IsBranch (cs i) → ∀ w2, w2 = w1 → Calls Try.prog 122 #[.slice (some ⟨w.heap.size, 0, none⟩) 1 1, vs i] w2 (fun e38 w39 => ∃ v40 : Value, e38 = .returned v40 ∧ R (.returned (.tuple #[v40, .int .i64 0])) w39) := by
        rintro _ _ rfl
        refine (rowed_calls (p := [UInt8.ofNat i.val]) (k := 1) G.2 (hs i) hnb (Nat.le_refl _) (by simp)).mono ?_
        rintro _ w2 ⟨v', lab', rfl, s, h'⟩
        exact ⟨v', rfl, hR _ _ ⟨v', rfl, grown_of (G.stp.trans s) h'⟩⟩
      have hki := hk i
      cases hci : cs i with
      | nil => exact (hne hci).elim
      | leaf p y =>
        rw [hci] at hki
        obtain ⟨b, op, cp, oy, cy, hv, _⟩ := hki
        rw [hv] at notb ⊢
        exact ⟨_, ask_no und_pbranch zero_pbranch (by decide) _, _, _, rfl, fun h => (by cases h), fun _ => notb (by rw [hci]; exact fun h => h) _ rfl⟩
      | row p m =>
        rw [hci] at hki
        obtain ⟨b, op, cp, vk, hv, _⟩ := hki
        rw [hv] at notb ⊢
        exact ⟨_, ask_no und_pbranch zero_pbranch (by decide) _, _, _, rfl, fun h => (by cases h), fun _ => notb (by rw [hci]; exact fun h => h) _ rfl⟩
      | branch cs' y =>
        have hone := hki.one
        rw [hci] at hki
        obtain ⟨b, vs', oy, cy, hv, _⟩ := hki
        have hask : Sem.run Try.prog (Instr.typeAssert (vs i) 145 155 true) w1 = .ok (.tuple #[.pointer (some ⟨b, 0, none⟩), .bool true]) w1 := by rw [hv]; exact ask_yes und_pbranch _
        refine ⟨_, hask, _, _, rfl, fun _ => ⟨⟨by omega, by omega⟩, _, by rw [Int.toNat_natCast]; exact B1.rd1 (brA_at vs ov 0 cv i), hone, ?_⟩, fun h => by cases h⟩
        rintro d w2 ⟨rfl, rfl⟩
        have M2 := M1.step_alloc (.cells #[.slice (some ⟨w.heap.size, 0, none⟩) 1 1, vs i] tRow)
        have s2 := Stp.same (Mod.alloc w1 (.cells #[.slice (some ⟨w.heap.size, 0, none⟩) 1 1, vs i] tRow)) (ext lab w.heap.size c)
        refine hR _ _ ⟨_, rfl, M2, ?_⟩
        rw [rowed_cons _ _ _ (by rw [hci]; trivial)]
        exact ⟨w1.heap.size, _, 1, vs i, rfl, new_cb M1 _ _, hnb.stp s2 (fun h => h), Nat.le_refl _, G.2.stp s2 (fun h => h)⟩
end
end Go.Proofs.Ytfghidehlnfdiaa
end
