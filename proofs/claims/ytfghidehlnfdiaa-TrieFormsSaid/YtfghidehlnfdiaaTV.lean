/- The verification conditions of some functions, printed by a program of ours (wip/PrintVc.lean). -/
import Derived.Test.YtfghidehlnfdiaaXFun
import Derived.Test.YtfghidehlnfdiaaProg
import Derived.KernelRfl
section
set_option linter.unusedVariables false
namespace Go.Proofs.Ytfghidehlnfdiaa
open Go Go.Vcg
theorem mixed : Try.prog.follows .mixedOrders = true := by kernel_rfl
abbrev trie_New.n : Nat := 51
def trie_New.Vc (L0 : Array Value) (o1 : Option Addr) (l1 : Nat) (c1 : Nat) (w : World) (R : Ending → World → Prop) : Prop :=
  ∀ (d2 : Addr) (w3 : World), IsNew w 26 L0 d2 w3 →
  ∃ (v4 : Value) (w5 : World), Sem.run Try.prog (Instr.makeMap 124 none) w3 = .ok v4 w5 ∧
  ∃ m6 : Option Nat, v4 = (.map m6) ∧
  ∀ (d7 : Addr) (w8 : World), IsNew w5 124 #[(.map none)] d7 w8 →
  CanSet w8 d7 (.map m6) ∧ ∀ w9 : World, IsSet w8 d7 (.map m6) w9 →
  ∃ (I10 : Int → World → Prop) (μ10 : Int → World → Nat), I10 0 w9 ∧
  (∀ (n11 : Int) (j12 : Nat → Value) (w12 : World), I10 n11 w12 →
    (((n11 < ((l1 : Nat) : Int) →
      ∃ d13 : Addr, o1 = some d13 ∧
      ((0 : Int) ≤ n11 ∧ n11 < ((l1 : Nat) : Int)) ∧
      ∃ L14 : Array Value, RowAt w12 (Addr.add d13 ((Int.toNat n11) * 33)) 33 L14 ∧
      ∀ (d15 : Addr) (w16 : World), IsNew w12 104 #[(.int .u8 0), (.int .u8 0), (.int .u8 0), (.int .u8 0), (.int .u8 0), (.int .u8 0), (.int .u8 0), (.int .u8 0), (.int .u8 0), (.int .u8 0), (.int .u8 0), (.int .u8 0), (.int .u8 0), (.int .u8 0), (.int .u8 0), (.int .u8 0), (.int .u8 0), (.int .u8 0), (.int .u8 0), (.int .u8 0), (.int .u8 0), (.int .u8 0), (.int .u8 0), (.int .u8 0), (.int .u8 0), (.int .u8 0), (.int .u8 0), (.int .u8 0), (.int .u8 0), (.int .u8 0), (.int .u8 0), (.int .u8 0), (.slice none 0 0)] d15 w16 →
      ∃ w17 : World, Sem.run Try.prog (Instr.storeAt 104 (.pointer (some d15)) (.agg L14)) w16 = .ok () w17 ∧
      ∃ m18 : Option Nat, World.cell? w17 d7 = some (.map m18) ∧
      ∃ L19 : Array Value, RowAt w17 d15 32 L19 ∧
      ∃ v20 : Value, Sem.run Try.prog (Instr.lookup 124 (.map m18) (.agg L19) true) w17 = .ok v20 w17 ∧
      ∃ o21 : Option Addr, ∃ l22 : Nat, ∃ l23 : Nat, ∃ b24 : Bool, v20 = (.tuple #[(.slice o21 l22 l23), (.bool b24)]) ∧
      (((b24 = false →
        ∀ w25 : World, IsDrew w17 w25 →
        ∃ m26 : Option Nat, World.cell? w25 d7 = some (.map m26) ∧
        ∃ L27 : Array Value, RowAt w25 d15 32 L27 ∧
        ∃ o28 : Option Addr, ∃ l29 : Nat, ∃ l30 : Nat, World.cell? w25 (Addr.add d15 32) = some (.slice o28 l29 l30) ∧
        Calls Try.prog 78 #[(.slice o28 l29 l30)] w25 (fun e31 w32 =>
          ∃ o33 : Option Addr, ∃ l34 : Nat, ∃ l35 : Nat, e31 = .returned (.slice o33 l34 l35) ∧
          RowAt w32 d15 32 L27 ∧
          World.cell? w32 d7 = some (.map m26) ∧
          ∃ w36 : World, Sem.run Try.prog (Instr.mapUpdate 124 (.map m26) (.agg L27) (.slice o33 l34 l35)) w32 = .ok () w36 ∧
          I10 (IntKind.wrap .i64 (n11 + 1)) w36 ∧ μ10 (IntKind.wrap .i64 (n11 + 1)) w36 < μ10 n11 w12))) ∧
       ((b24 = true →
        I10 (IntKind.wrap .i64 (n11 + 1)) w17 ∧ μ10 (IntKind.wrap .i64 (n11 + 1)) w17 < μ10 n11 w12))))) ∧
     ((¬ n11 < ((l1 : Nat) : Int) →
      ∃ L37 : Array Value, RowAt w12 d2 32 L37 ∧
      Calls Try.prog 92 #[(.agg L37), (.func (.func 93) #[] #[(.pointer (some d7))])] w12 (fun e38 w39 =>
        ∃ o40 : Option Addr, e38 = .returned (.pointer o40) ∧
        R (.returned (.pointer o40)) w39)))))
theorem trie_New.vc (L0 : Array Value) (o1 : Option Addr) (l1 : Nat) (c1 : Nat) (w : World) (R : Ending → World → Prop) (h : trie_New.Vc L0 o1 l1 c1 w R) : Calls Try.prog 51 #[(.agg L0), (.slice o1 l1 c1)] w R :=
  execF_sound (R := ⟨R, false⟩) (ann := [(3, [(13, .cell (.int .i64))])]) (args := [.big 32 L0, .slice o1 l1 c1]) Try.func51 mixed (Eq.mp (by kernel_rfl : trie_New.Vc L0 o1 l1 c1 w R = execF (pA Try.prog ⟨R, false⟩) Try.prog [(3, [(13, .cell (.int .i64))])] Try.f51 [.big 32 L0, .slice o1 l1 c1] w) h)


abbrev trie_Open.n : Nat := 92
def trie_Open.Vc (L0 : Array Value) (v1 : Value) (w : World) (R : Ending → World → Prop) : Prop :=
  ∀ (d2 : Addr) (w3 : World), IsNew w 26 L0 d2 w3 →
  Value.oneCell' v1 = true ∧
  ∀ (d4 : Addr) (w5 : World), IsNew w3 164 #[.nilIface, v1] d4 w5 →
  ∀ w6 : World, IsDrew w5 w6 →
  ∃ L7 : Array Value, RowAt w6 d2 32 L7 ∧
  Calls Try.prog 52 #[] w6 (fun e8 w9 =>
    ∃ L10 : Array Value, e8 = .returned (.agg L10) ∧
    RowAt w9 d2 32 L7 ∧
    ∃ v11 : Value, Sem.run Try.prog (semBin .neq 26 (.tmp 9) (.tmp 10) (.agg L7) (.agg L10)) w9 = .ok v11 w9 ∧
    ∃ b12 : Bool, v11 = (.bool b12) ∧
    (((b12 = true →
      ∃ L13 : Array Value, RowAt w9 d2 32 L13 ∧
      Array.size L13 = 32 ∧
      ∀ (d14 : Addr) (w15 : World), IsNew w9 151 (lputL (Array.replicate 32 (.int .u8 0)) 0 32 L13) d14 w15 →
      CanSet w15 d4 (.iface 149 (.pointer (some d14))) ∧ ∀ w16 : World, IsSet w15 d4 (.iface 149 (.pointer (some d14))) w16 →
      R (.returned (.pointer (some d4))) w16)) ∧
     ((b12 = false →
      R (.returned (.pointer (some d4))) w9))))
theorem trie_Open.vc (L0 : Array Value) (v1 : Value) (w : World) (R : Ending → World → Prop) (h : trie_Open.Vc L0 v1 w R) : Calls Try.prog 92 #[(.agg L0), v1] w R :=
  execF_sound (R := ⟨R, false⟩) (ann := []) (args := [.big 32 L0, .raw v1]) Try.func92 mixed (Eq.mp (by kernel_rfl : trie_Open.Vc L0 v1 w R = execF (pA Try.prog ⟨R, false⟩) Try.prog [] Try.f92 [.big 32 L0, .raw v1] w) h)

abbrev trie_Empty.n : Nat := 52
def trie_Empty.Vc  (w : World) (R : Ending → World → Prop) : Prop :=
  ∀ (d0 : Addr) (w1 : World), IsNew w 26 (Array.replicate 32 (.int .u8 0)) d0 w1 →
  ∀ (d2 : Addr) (w3 : World), IsNew w1 5 #[(.int .u8 128)] d2 w3 →
  ∀ (d4 : Addr) (w5 : World), IsNew w3 22 #[(.slice (some d2) 1 1)] d4 w5 →
  Calls Try.prog 19 #[(.slice (some d4) 1 1)] w5 (fun e6 w7 =>
    ∃ L8 : Array Value, e6 = .returned (.agg L8) ∧
    ∃ w9 : World, Sem.run Try.prog (Instr.storeAt 26 (.pointer (some d0)) (.agg L8)) w7 = .ok () w9 ∧
    ∃ L10 : Array Value, RowAt w9 d0 32 L10 ∧
    R (.returned (.agg L10)) w9)
theorem trie_Empty.vc  (w : World) (R : Ending → World → Prop) (h : trie_Empty.Vc w R) : Calls Try.prog 52 #[] w R :=
  execF_sound (R := ⟨R, false⟩) (ann := []) (args := []) Try.func52 mixed (Eq.mp (by kernel_rfl : trie_Empty.Vc w R = execF (pA Try.prog ⟨R, false⟩) Try.prog [] Try.f52 [] w) h)

abbrev trie_Trie_Put.n : Nat := 55
def trie_Trie_Put.Vc (d0 : Addr) (o1 : Option Addr) (l1 : Nat) (c1 : Nat) (o2 : Option Addr) (l2 : Nat) (c2 : Nat) (w : World) (R : Ending → World → Prop) : Prop :=
  (((((l1 : Nat) : Int) > 64 →
    R (.returned (.int .i64 140)) w)) ∧
   ((¬ ((l1 : Nat) : Int) > 64 →
    (((((l2 : Nat) : Int) = 0 →
      R (.returned (.int .i64 141)) w)) ∧
     ((((l2 : Nat) : Int) ≠ 0 →
      (((((l2 : Nat) : Int) > 1024 →
        R (.returned (.int .i64 141)) w)) ∧
       ((¬ ((l2 : Nat) : Int) > 1024 →
        ∀ w3 : World, IsDrew w w3 →
        ∃ v4 : Value, World.cell? w3 d0 = some v4 ∧
        Calls Try.prog 40 #[(.slice o1 l1 c1)] w3 (fun e5 w6 =>
          ∃ o7 : Option Addr, ∃ l8 : Nat, ∃ l9 : Nat, e5 = .returned (.slice o7 l8 l9) ∧
          World.cell? w6 d0 = some v4 ∧
          Calls Try.prog 78 #[(.slice o2 l2 c2)] w6 (fun e10 w11 =>
            ∃ o12 : Option Addr, ∃ l13 : Nat, ∃ l14 : Nat, e10 = .returned (.slice o12 l13 l14) ∧
            World.cell? w11 d0 = some v4 ∧
            Calls Try.prog 95 #[(.pointer (some d0)), v4, (.slice o7 l8 l9), (.slice o12 l13 l14)] w11 (fun e15 w16 =>
              ∃ v17 : Value, ∃ n18 : Int, e15 = .returned (.tuple #[v17, (.int .i64 n18)]) ∧
              (((n18 = 0 →
                CanSet w16 d0 v17 ∧ ∀ w19 : World, IsSet w16 d0 v17 w19 →
                R (.returned (.int .i64 n18)) w19)) ∧
               ((n18 ≠ 0 →
                R (.returned (.int .i64 n18)) w16)))))))))))))))
theorem trie_Trie_Put.vc (d0 : Addr) (o1 : Option Addr) (l1 : Nat) (c1 : Nat) (o2 : Option Addr) (l2 : Nat) (c2 : Nat) (w : World) (R : Ending → World → Prop) (h : trie_Trie_Put.Vc d0 o1 l1 c1 o2 l2 c2 w R) : Calls Try.prog 55 #[(.pointer (some d0)), (.slice o1 l1 c1), (.slice o2 l2 c2)] w R :=
  execF_sound (R := ⟨R, false⟩) (ann := []) (args := [.addr d0, .slice o1 l1 c1, .slice o2 l2 c2]) Try.func55 mixed (Eq.mp (by kernel_rfl : trie_Trie_Put.Vc d0 o1 l1 c1 o2 l2 c2 w R = execF (pA Try.prog ⟨R, false⟩) Try.prog [] Try.f55 [.addr d0, .slice o1 l1 c1, .slice o2 l2 c2] w) h)

abbrev trie_Trie_put.n : Nat := 95
def trie_Trie_put.Vc (d0 : Addr) (v1 : Value) (o2 : Option Addr) (l2 : Nat) (c2 : Nat) (o3 : Option Addr) (l3 : Nat) (c3 : Nat) (w : World) (R : Ending → World → Prop) : Prop :=
  Calls Try.prog 98 #[(.pointer (some d0)), v1] w (fun e4 w5 =>
    ∃ v6 : Value, ∃ n7 : Int, e4 = .returned (.tuple #[v6, (.int .i64 n7)]) ∧
    (((n7 ≠ 0 →
      R (.returned (.tuple #[.nilIface, (.int .i64 n7)])) w5)) ∧
     ((n7 = 0 →
      ∃ v8 : Value, Sem.run Try.prog (Instr.typeAssert v6 145 171 true) w5 = .ok v8 w5 ∧
      ∃ o9 : Option Addr, ∃ b10 : Bool, v8 = (.tuple #[(.pointer o9), (.bool b10)]) ∧
      (((b10 = true →
        ∃ d11 : Addr, o9 = some d11 ∧
        ∃ o12 : Option Addr, ∃ l13 : Nat, ∃ l14 : Nat, World.cell? w5 d11 = some (.slice o12 l13 l14) ∧
        Calls Try.prog 120 #[(.slice o12 l13 l14), (.slice o2 l2 c2)] w5 (fun e15 w16 =>
          ∃ n17 : Int, e15 = .returned (.int .i64 n17) ∧
          ∃ (J18 : World → Prop), (∃ d19 : Addr, o9 = some d19 ∧
           ∃ o20 : Option Addr, ∃ l21 : Nat, ∃ l22 : Nat, World.cell? w16 d19 = some (.slice o20 l21 l22) ∧
           (((n17 = ((l21 : Nat) : Int) →
             (((n17 = ((l2 : Nat) : Int) →
               ∀ (d23 : Addr) (w24 : World), IsNew w16 177 #[(.slice o2 l2 c2), (.slice o3 l3 c3)] d23 w24 →
               R (.returned (.tuple #[(.iface 171 (.pointer (some d23))), (.int .i64 0)])) w24)) ∧
              ((n17 ≠ ((l2 : Nat) : Int) →
               J18  w16))))) ∧
            ((n17 ≠ ((l21 : Nat) : Int) →
             J18  w16)))) ∧
          (∀  (j25 : Nat → Value) (w25 : World), J18  w25 →
            ∀ (d26 : Addr) (w27 : World), IsNew w25 158 #[.nilIface, .nilIface, .nilIface, .nilIface, .nilIface, .nilIface, .nilIface, .nilIface, .nilIface, .nilIface, .nilIface, .nilIface, .nilIface, .nilIface, .nilIface, .nilIface, (.slice none 0 0)] d26 w27 →
            ∀ w28 : World, IsDrew w27 w28 →
            ∃ d29 : Addr, o9 = some d29 ∧
            ∃ o30 : Option Addr, ∃ l31 : Nat, ∃ l32 : Nat, World.cell? w28 d29 = some (.slice o30 l31 l32) ∧
            ((0 : Int) ≤ n17 ∧ n17 ≤ ((l31 : Nat) : Int)) ∧
            ∃ d33 : Addr, o9 = some d33 ∧
            ∃ o34 : Option Addr, ∃ l35 : Nat, ∃ l36 : Nat, World.cell? w28 (Addr.add d33 1) = some (.slice o34 l35 l36) ∧
            Calls Try.prog 121 #[(.pointer (some d26)), (.slice (subO o30 l32 (Int.toNat n17) 1) (l31 - (Int.toNat n17)) (l32 - (Int.toNat n17))), (.slice o34 l35 l36)] w28 (fun e37 w38 =>
              e37 = .returned (.tuple #[]) ∧
              ((0 : Int) ≤ n17 ∧ n17 ≤ ((l2 : Nat) : Int)) ∧
              Calls Try.prog 121 #[(.pointer (some d26)), (.slice (subO o2 c2 (Int.toNat n17) 1) (l2 - (Int.toNat n17)) (c2 - (Int.toNat n17))), (.slice o3 l3 c3)] w38 (fun e39 w40 =>
                e39 = .returned (.tuple #[]) ∧
                ((0 : Int) ≤ n17 ∧ n17 ≤ ((c2 : Nat) : Int)) ∧
                Calls Try.prog 122 #[(.slice o2 (Int.toNat n17) c2), (.iface 155 (.pointer (some d26)))] w40 (fun e41 w42 =>
                  ∃ v43 : Value, e41 = .returned v43 ∧
                  R (.returned (.tuple #[v43, (.int .i64 0)])) w42))))))) ∧
       ((b10 = false →
        ∃ v44 : Value, Sem.run Try.prog (Instr.typeAssert v6 145 152 true) w5 = .ok v44 w5 ∧
        ∃ o45 : Option Addr, ∃ b46 : Bool, v44 = (.tuple #[(.pointer o45), (.bool b46)]) ∧
        (((b46 = true →
          ∃ d47 : Addr, o45 = some d47 ∧
          ∃ o48 : Option Addr, ∃ l49 : Nat, ∃ l50 : Nat, World.cell? w5 d47 = some (.slice o48 l49 l50) ∧
          Calls Try.prog 120 #[(.slice o48 l49 l50), (.slice o2 l2 c2)] w5 (fun e51 w52 =>
            ∃ n53 : Int, e51 = .returned (.int .i64 n53) ∧
            ∃ d54 : Addr, o45 = some d54 ∧
            ∃ o55 : Option Addr, ∃ l56 : Nat, ∃ l57 : Nat, World.cell? w52 d54 = some (.slice o55 l56 l57) ∧
            (((n53 = ((l56 : Nat) : Int) →
              ∀ w58 : World, IsDrew w52 w58 →
              ∃ d59 : Addr, o45 = some d59 ∧
              ∃ v60 : Value, World.cell? w58 (Addr.add d59 1) = some v60 ∧
              ((0 : Int) ≤ n53 ∧ n53 ≤ ((l2 : Nat) : Int)) ∧
              Calls Try.prog 95 #[(.pointer (some d0)), v60, (.slice (subO o2 c2 (Int.toNat n53) 1) (l2 - (Int.toNat n53)) (c2 - (Int.toNat n53))), (.slice o3 l3 c3)] w58 (fun e61 w62 =>
                ∃ v63 : Value, ∃ n64 : Int, e61 = .returned (.tuple #[v63, (.int .i64 n64)]) ∧
                (((n64 ≠ 0 →
                  R (.returned (.tuple #[.nilIface, (.int .i64 n64)])) w62)) ∧
                 ((n64 = 0 →
                  ∃ d65 : Addr, o45 = some d65 ∧
                  ∃ o66 : Option Addr, ∃ l67 : Nat, ∃ l68 : Nat, World.cell? w62 d65 = some (.slice o66 l67 l68) ∧
                  Value.oneCell' v63 = true ∧
                  ∀ (d69 : Addr) (w70 : World), IsNew w62 154 #[(.slice o66 l67 l68), v63] d69 w70 →
                  R (.returned (.tuple #[(.iface 152 (.pointer (some d69))), (.int .i64 0)])) w70)))))) ∧
             ((n53 ≠ ((l56 : Nat) : Int) →
              ∀ (d71 : Addr) (w72 : World), IsNew w52 158 #[.nilIface, .nilIface, .nilIface, .nilIface, .nilIface, .nilIface, .nilIface, .nilIface, .nilIface, .nilIface, .nilIface, .nilIface, .nilIface, .nilIface, .nilIface, .nilIface, (.slice none 0 0)] d71 w72 →
              ∀ w73 : World, IsDrew w72 w73 →
              ∃ d74 : Addr, o45 = some d74 ∧
              ∃ o75 : Option Addr, ∃ l76 : Nat, ∃ l77 : Nat, World.cell? w73 d74 = some (.slice o75 l76 l77) ∧
              ∃ d78 : Addr, o75 = some d78 ∧
              ((0 : Int) ≤ n53 ∧ n53 < ((l76 : Nat) : Int)) ∧
              ∃ n79 : Int, World.cell? w73 (Addr.add d78 (Int.toNat n53)) = some (.int .u8 n79) ∧
              ∃ d80 : Addr, o45 = some d80 ∧
              ∃ o81 : Option Addr, ∃ l82 : Nat, ∃ l83 : Nat, World.cell? w73 d80 = some (.slice o81 l82 l83) ∧
              ((0 : Int) ≤ (IntKind.wrap .i64 (n53 + 1)) ∧ (IntKind.wrap .i64 (n53 + 1)) ≤ ((l82 : Nat) : Int)) ∧
              ∃ d84 : Addr, o45 = some d84 ∧
              ∃ v85 : Value, World.cell? w73 (Addr.add d84 1) = some v85 ∧
              Calls Try.prog 122 #[(.slice (subO o81 l83 (Int.toNat (IntKind.wrap .i64 (n53 + 1))) 1) (l82 - (Int.toNat (IntKind.wrap .i64 (n53 + 1)))) (l83 - (Int.toNat (IntKind.wrap .i64 (n53 + 1))))), v85] w73 (fun e86 w87 =>
                ∃ v88 : Value, e86 = .returned v88 ∧
                World.cell? w87 (Addr.add d78 (Int.toNat n53)) = some (.int .u8 n79) ∧
                World.cell? w87 d74 = some (.slice o75 l76 l77) ∧
                ((0 : Int) ≤ n79 ∧ n79 < ((16 : Nat) : Int)) ∧
                CanSet w87 (Addr.add d71 (Int.toNat n79)) v88 ∧ ∀ w89 : World, IsSet w87 (Addr.add d71 (Int.toNat n79)) v88 w89 →
                ((0 : Int) ≤ n53 ∧ n53 ≤ ((l2 : Nat) : Int)) ∧
                Calls Try.prog 121 #[(.pointer (some d71)), (.slice (subO o2 c2 (Int.toNat n53) 1) (l2 - (Int.toNat n53)) (c2 - (Int.toNat n53))), (.slice o3 l3 c3)] w89 (fun e90 w91 =>
                  e90 = .returned (.tuple #[]) ∧
                  ((0 : Int) ≤ n53 ∧ n53 ≤ ((c2 : Nat) : Int)) ∧
                  Calls Try.prog 122 #[(.slice o2 (Int.toNat n53) c2), (.iface 155 (.pointer (some d71)))] w91 (fun e92 w93 =>
                    ∃ v94 : Value, e92 = .returned v94 ∧
                    R (.returned (.tuple #[v94, (.int .i64 0)])) w93))))))))) ∧
         ((b46 = false →
          ∃ v95 : Value, Sem.run Try.prog (Instr.typeAssert v6 145 155 true) w5 = .ok v95 w5 ∧
          ∃ o96 : Option Addr, ∃ b97 : Bool, v95 = (.tuple #[(.pointer o96), (.bool b97)]) ∧
          (((b97 = true →
            ∃ d98 : Addr, o96 = some d98 ∧
            ∃ L99 : Array Value, RowAt w5 d98 17 L99 ∧
            ∀ (d100 : Addr) (w101 : World), IsNew w5 158 #[.nilIface, .nilIface, .nilIface, .nilIface, .nilIface, .nilIface, .nilIface, .nilIface, .nilIface, .nilIface, .nilIface, .nilIface, .nilIface, .nilIface, .nilIface, .nilIface, (.slice none 0 0)] d100 w101 →
            ∃ w102 : World, Sem.run Try.prog (Instr.storeAt 158 (.pointer (some d100)) (.agg L99)) w101 = .ok () w102 ∧
            (((((l2 : Nat) : Int) = 0 →
              CanSet w102 (Addr.add d100 16) (.slice o3 l3 c3) ∧ ∀ w103 : World, IsSet w102 (Addr.add d100 16) (.slice o3 l3 c3) w103 →
              R (.returned (.tuple #[(.iface 155 (.pointer (some d100))), (.int .i64 0)])) w103)) ∧
             ((((l2 : Nat) : Int) ≠ 0 →
              ∀ w104 : World, IsDrew w102 w104 →
              ∃ d105 : Addr, o2 = some d105 ∧
              ((0 : Int) ≤ 0 ∧ 0 < ((l2 : Nat) : Int)) ∧
              ∃ n106 : Int, World.cell? w104 (Addr.add d105 0) = some (.int .u8 n106) ∧
              ∃ d107 : Addr, o96 = some d107 ∧
              ((0 : Int) ≤ n106 ∧ n106 < ((16 : Nat) : Int)) ∧
              ∃ v108 : Value, World.cell? w104 (Addr.add d107 (Int.toNat n106)) = some v108 ∧
              1 ≤ l2 ∧
              Calls Try.prog 95 #[(.pointer (some d0)), v108, (.slice (subO o2 c2 1 1) (l2 - 1) (c2 - 1)), (.slice o3 l3 c3)] w104 (fun e109 w110 =>
                ∃ v111 : Value, ∃ n112 : Int, e109 = .returned (.tuple #[v111, (.int .i64 n112)]) ∧
                (((n112 ≠ 0 →
                  R (.returned (.tuple #[.nilIface, (.int .i64 n112)])) w110)) ∧
                 ((n112 = 0 →
                  ∃ d113 : Addr, o2 = some d113 ∧
                  ((0 : Int) ≤ 0 ∧ 0 < ((l2 : Nat) : Int)) ∧
                  ∃ n114 : Int, World.cell? w110 (Addr.add d113 0) = some (.int .u8 n114) ∧
                  ((0 : Int) ≤ n114 ∧ n114 < ((16 : Nat) : Int)) ∧
                  CanSet w110 (Addr.add d100 (Int.toNat n114)) v111 ∧ ∀ w115 : World, IsSet w110 (Addr.add d100 (Int.toNat n114)) v111 w115 →
                  R (.returned (.tuple #[(.iface 155 (.pointer (some d100))), (.int .i64 0)])) w115))))))))) ∧
           ((b97 = false →
            ∀ (d116 : Addr) (w117 : World), IsNew w5 177 #[(.slice o2 l2 c2), (.slice o3 l3 c3)] d116 w117 →
            R (.returned (.tuple #[(.iface 171 (.pointer (some d116))), (.int .i64 0)])) w117)))))))))))))
theorem trie_Trie_put.vc (d0 : Addr) (v1 : Value) (o2 : Option Addr) (l2 : Nat) (c2 : Nat) (o3 : Option Addr) (l3 : Nat) (c3 : Nat) (w : World) (R : Ending → World → Prop) (h : trie_Trie_put.Vc d0 v1 o2 l2 c2 o3 l3 c3 w R) : Calls Try.prog 95 #[(.pointer (some d0)), v1, (.slice o2 l2 c2), (.slice o3 l3 c3)] w R :=
  execF_sound (R := ⟨R, false⟩) (ann := [(1000010, [])]) (args := [.addr d0, .raw v1, .slice o2 l2 c2, .slice o3 l3 c3]) Try.func95 mixed (Eq.mp (by kernel_rfl : trie_Trie_put.Vc d0 v1 o2 l2 c2 o3 l3 c3 w R = execF (pA Try.prog ⟨R, false⟩) Try.prog [(1000010, [])] Try.f95 [.addr d0, .raw v1, .slice o2 l2 c2, .slice o3 l3 c3] w) h)

abbrev trie_Trie_Get.n : Nat := 61
def trie_Trie_Get.Vc (d0 : Addr) (o1 : Option Addr) (l1 : Nat) (c1 : Nat) (w : World) (R : Ending → World → Prop) : Prop :=
  (((((l1 : Nat) : Int) > 64 →
    R (.returned (.tuple #[(.slice none 0 0), (.bool false), (.int .i64 140)])) w)) ∧
   ((¬ ((l1 : Nat) : Int) > 64 →
    Calls Try.prog 40 #[(.slice o1 l1 c1)] w (fun e2 w3 =>
      ∃ o4 : Option Addr, ∃ l5 : Nat, ∃ l6 : Nat, e2 = .returned (.slice o4 l5 l6) ∧
      ∃ v7 : Value, World.cell? w3 d0 = some v7 ∧
      ∃ (I8 : Option Addr → Nat → Nat → Value → World → Prop) (μ8 : Option Addr → Nat → Nat → Value → World → Nat), I8 o4 l5 l6 v7 w3 ∧
      (∀ (o9 : Option Addr) (l9 : Nat) (c9 : Nat) (v10 : Value) (j11 : Nat → Value) (w11 : World), I8 o9 l9 c9 v10 w11 →
        Calls Try.prog 98 #[(.pointer (some d0)), v10] w11 (fun e12 w13 =>
          ∃ v14 : Value, ∃ n15 : Int, e12 = .returned (.tuple #[v14, (.int .i64 n15)]) ∧
          (((n15 ≠ 0 →
            R (.returned (.tuple #[(.slice none 0 0), (.bool false), (.int .i64 n15)])) w13)) ∧
           ((n15 = 0 →
            ∃ v16 : Value, Sem.run Try.prog (Instr.typeAssert v14 145 171 true) w13 = .ok v16 w13 ∧
            ∃ o17 : Option Addr, ∃ b18 : Bool, v16 = (.tuple #[(.pointer o17), (.bool b18)]) ∧
            (((b18 = true →
              ∀ w19 : World, IsDrew w13 w19 →
              ∃ d20 : Addr, o17 = some d20 ∧
              ∃ o21 : Option Addr, ∃ l22 : Nat, ∃ l23 : Nat, World.cell? w19 (Addr.add d20 1) = some (.slice o21 l22 l23) ∧
              ∃ d24 : Addr, o17 = some d24 ∧
              ∃ o25 : Option Addr, ∃ l26 : Nat, ∃ l27 : Nat, World.cell? w19 d24 = some (.slice o25 l26 l27) ∧
              Calls Try.prog 87 #[(.slice o25 l26 l27), (.slice o9 l9 c9)] w19 (fun e28 w29 =>
                ∃ b30 : Bool, e28 = .returned (.bool b30) ∧
                World.cell? w29 (Addr.add d20 1) = some (.slice o21 l22 l23) ∧
                Calls Try.prog 99 #[(.slice o21 l22 l23), (.bool b30)] w29 (fun e31 w32 =>
                  ∃ o33 : Option Addr, ∃ l34 : Nat, ∃ l35 : Nat, ∃ b36 : Bool, ∃ n37 : Int, e31 = .returned (.tuple #[(.slice o33 l34 l35), (.bool b36), (.int .i64 n37)]) ∧
                  R (.returned (.tuple #[(.slice o33 l34 l35), (.bool b36), (.int .i64 n37)])) w32)))) ∧
             ((b18 = false →
              ∃ v38 : Value, Sem.run Try.prog (Instr.typeAssert v14 145 152 true) w13 = .ok v38 w13 ∧
              ∃ o39 : Option Addr, ∃ b40 : Bool, v38 = (.tuple #[(.pointer o39), (.bool b40)]) ∧
              (((b40 = true →
                ∃ d41 : Addr, o39 = some d41 ∧
                ∃ o42 : Option Addr, ∃ l43 : Nat, ∃ l44 : Nat, World.cell? w13 d41 = some (.slice o42 l43 l44) ∧
                Calls Try.prog 100 #[(.slice o9 l9 c9), (.slice o42 l43 l44)] w13 (fun e45 w46 =>
                  ∃ o47 : Option Addr, ∃ l48 : Nat, ∃ l49 : Nat, ∃ b50 : Bool, e45 = .returned (.tuple #[(.slice o47 l48 l49), (.bool b50)]) ∧
                  (((b50 = false →
                    R (.returned (.tuple #[(.slice none 0 0), (.bool false), (.int .i64 0)])) w46)) ∧
                   ((b50 = true →
                    ∃ d51 : Addr, o39 = some d51 ∧
                    ∃ v52 : Value, World.cell? w46 (Addr.add d51 1) = some v52 ∧
                    I8 o47 l48 l49 v52 w46 ∧ μ8 o47 l48 l49 v52 w46 < μ8 o9 l9 c9 v10 w11)))))) ∧
               ((b40 = false →
                ∃ v53 : Value, Sem.run Try.prog (Instr.typeAssert v14 145 155 true) w13 = .ok v53 w13 ∧
                ∃ o54 : Option Addr, ∃ b55 : Bool, v53 = (.tuple #[(.pointer o54), (.bool b55)]) ∧
                (((b55 = true →
                  (((((l9 : Nat) : Int) = 0 →
                    ∀ w56 : World, IsDrew w13 w56 →
                    ∃ d57 : Addr, o54 = some d57 ∧
                    ∃ o58 : Option Addr, ∃ l59 : Nat, ∃ l60 : Nat, World.cell? w56 (Addr.add d57 16) = some (.slice o58 l59 l60) ∧
                    ∃ d61 : Addr, o54 = some d61 ∧
                    ∃ o62 : Option Addr, ∃ l63 : Nat, ∃ l64 : Nat, World.cell? w56 (Addr.add d61 16) = some (.slice o62 l63 l64) ∧
                    Calls Try.prog 99 #[(.slice o58 l59 l60), (.bool (decide (((l63 : Nat) : Int) > 0)))] w56 (fun e65 w66 =>
                      ∃ o67 : Option Addr, ∃ l68 : Nat, ∃ l69 : Nat, ∃ b70 : Bool, ∃ n71 : Int, e65 = .returned (.tuple #[(.slice o67 l68 l69), (.bool b70), (.int .i64 n71)]) ∧
                      R (.returned (.tuple #[(.slice o67 l68 l69), (.bool b70), (.int .i64 n71)])) w66))) ∧
                   ((((l9 : Nat) : Int) ≠ 0 →
                    ∀ w72 : World, IsDrew w13 w72 →
                    ∃ d73 : Addr, o9 = some d73 ∧
                    ((0 : Int) ≤ 0 ∧ 0 < ((l9 : Nat) : Int)) ∧
                    ∃ n74 : Int, World.cell? w72 (Addr.add d73 0) = some (.int .u8 n74) ∧
                    ∃ d75 : Addr, o54 = some d75 ∧
                    ((0 : Int) ≤ n74 ∧ n74 < ((16 : Nat) : Int)) ∧
                    ∃ v76 : Value, World.cell? w72 (Addr.add d75 (Int.toNat n74)) = some v76 ∧
                    1 ≤ l9 ∧
                    I8 (subO o9 c9 1 1) (l9 - 1) (c9 - 1) v76 w72 ∧ μ8 (subO o9 c9 1 1) (l9 - 1) (c9 - 1) v76 w72 < μ8 o9 l9 c9 v10 w11))))) ∧
                 ((b55 = false →
                  R (.returned (.tuple #[(.slice none 0 0), (.bool false), (.int .i64 0)])) w13))))))))))))))))))
theorem trie_Trie_Get.vc (d0 : Addr) (o1 : Option Addr) (l1 : Nat) (c1 : Nat) (w : World) (R : Ending → World → Prop) (h : trie_Trie_Get.Vc d0 o1 l1 c1 w R) : Calls Try.prog 61 #[(.pointer (some d0)), (.slice o1 l1 c1)] w R :=
  execF_sound (R := ⟨R, false⟩) (ann := [(5, [(7, .cell (.slice)), (8, .cell (.raw))])]) (args := [.addr d0, .slice o1 l1 c1]) Try.func61 mixed (Eq.mp (by kernel_rfl : trie_Trie_Get.Vc d0 o1 l1 c1 w R = execF (pA Try.prog ⟨R, false⟩) Try.prog [(5, [(7, .cell (.slice)), (8, .cell (.raw))])] Try.f61 [.addr d0, .slice o1 l1 c1] w) h)

abbrev trie_Trie_seen.n : Nat := 98
def trie_Trie_seen.Vc (d0 : Addr) (v1 : Value) (w : World) (R : Ending → World → Prop) : Prop :=
  ∃ v2 : Value, Sem.run Try.prog (Instr.typeAssert v1 145 149 true) w = .ok v2 w ∧
  ∃ o3 : Option Addr, ∃ b4 : Bool, v2 = (.tuple #[(.pointer o3), (.bool b4)]) ∧
  (((b4 = false →
    R (.returned (.tuple #[v1, (.int .i64 0)])) w)) ∧
   ((b4 = true →
    ∀ w5 : World, IsDrew w w5 →
    ∃ v6 : Value, World.cell? w5 (Addr.add d0 1) = some v6 ∧
    ∃ d7 : Addr, o3 = some d7 ∧
    ∃ L8 : Array Value, RowAt w5 d7 32 L8 ∧
    CallsV Try.prog v6 #[(.agg L8)] w5 (fun e9 w10 =>
      ∃ o11 : Option Addr, ∃ l12 : Nat, ∃ l13 : Nat, ∃ b14 : Bool, e9 = .returned (.tuple #[(.slice o11 l12 l13), (.bool b14)]) ∧
      (((b14 = false →
        R (.returned (.tuple #[.nilIface, (.int .i64 142)])) w10)) ∧
       ((b14 = true →
        Calls Try.prog 48 #[(.slice o11 l12 l13)] w10 (fun e15 w16 =>
          ∃ n17 : Int, e15 = .returned (.int .i64 n17) ∧
          (((n17 ≠ 0 →
            R (.returned (.tuple #[.nilIface, (.int .i64 143)])) w16)) ∧
           ((n17 = 0 →
            Calls Try.prog 88 #[(.slice o11 l12 l13)] w16 (fun e18 w19 =>
              ∃ v20 : Value, ∃ n21 : Int, e18 = .returned (.tuple #[v20, (.int .i64 n21)]) ∧
              R (.returned (.tuple #[v20, (.int .i64 0)])) w19))))))))))))
theorem trie_Trie_seen.vc (d0 : Addr) (v1 : Value) (w : World) (R : Ending → World → Prop) (h : trie_Trie_seen.Vc d0 v1 w R) : Calls Try.prog 98 #[(.pointer (some d0)), v1] w R :=
  execF_sound (R := ⟨R, false⟩) (ann := []) (args := [.addr d0, .raw v1]) Try.func98 mixed (Eq.mp (by kernel_rfl : trie_Trie_seen.Vc d0 v1 w R = execF (pA Try.prog ⟨R, false⟩) Try.prog [] Try.f98 [.addr d0, .raw v1] w) h)

abbrev trie_Trie_Root.n : Nat := 54
def trie_Trie_Root.Vc (d0 : Addr) (w : World) (R : Ending → World → Prop) : Prop :=
  ∀ (d1 : Addr) (w2 : World), IsNew w 26 (Array.replicate 32 (.int .u8 0)) d1 w2 →
  ∃ v3 : Value, World.cell? w2 d0 = some v3 ∧
  ((v3 = .nilIface ∧
   Calls Try.prog 52 #[] w2 (fun e4 w5 =>
     ∃ L6 : Array Value, e4 = .returned (.agg L6) ∧
     ∃ w7 : World, Sem.run Try.prog (Instr.storeAt 26 (.pointer (some d1)) (.agg L6)) w5 = .ok () w7 ∧
     ∃ L8 : Array Value, RowAt w7 d1 32 L8 ∧
     R (.returned (.agg L8)) w7)) ∨
   (IsIface v3 ∧
   ∃ v9 : Value, Sem.run Try.prog (Instr.typeAssert v3 145 149 true) w2 = .ok v9 w2 ∧
   ∃ o10 : Option Addr, ∃ b11 : Bool, v9 = (.tuple #[(.pointer o10), (.bool b11)]) ∧
   (((b11 = true →
     ∃ d12 : Addr, o10 = some d12 ∧
     ∃ L13 : Array Value, RowAt w2 d12 32 L13 ∧
     ∃ w14 : World, Sem.run Try.prog (Instr.storeAt 26 (.pointer (some d1)) (.agg L13)) w2 = .ok () w14 ∧
     ∃ L15 : Array Value, RowAt w14 d1 32 L15 ∧
     R (.returned (.agg L15)) w14)) ∧
    ((b11 = false →
     ∃ v16 : Value, World.cell? w2 d0 = some v16 ∧
     Calls Try.prog 94 #[v16] w2 (fun e17 w18 =>
       ∃ o19 : Option Addr, ∃ l20 : Nat, ∃ l21 : Nat, e17 = .returned (.slice o19 l20 l21) ∧
       ∀ (d22 : Addr) (w23 : World), IsNew w18 22 #[(.slice o19 l20 l21)] d22 w23 →
       Calls Try.prog 19 #[(.slice (some d22) 1 1)] w23 (fun e24 w25 =>
         ∃ L26 : Array Value, e24 = .returned (.agg L26) ∧
         ∃ w27 : World, Sem.run Try.prog (Instr.storeAt 26 (.pointer (some d1)) (.agg L26)) w25 = .ok () w27 ∧
         ∃ L28 : Array Value, RowAt w27 d1 32 L28 ∧
         R (.returned (.agg L28)) w27)))))))
theorem trie_Trie_Root.vc (d0 : Addr) (w : World) (R : Ending → World → Prop) (h : trie_Trie_Root.Vc d0 w R) : Calls Try.prog 54 #[(.pointer (some d0))] w R :=
  execF_sound (R := ⟨R, false⟩) (ann := []) (args := [.addr d0]) Try.func54 mixed (Eq.mp (by kernel_rfl : trie_Trie_Root.Vc d0 w R = execF (pA Try.prog ⟨R, false⟩) Try.prog [] Try.f54 [.addr d0] w) h)

abbrev trie_encoded.n : Nat := 94
def trie_encoded.Vc (v0 : Value) (w : World) (R : Ending → World → Prop) : Prop :=
  CallsM Try.prog v0 "moraine/trie.item" #[] w (fun e1 w2 =>
    ∃ b3 : Bool, ∃ o4 : Option Addr, ∃ l5 : Nat, ∃ l6 : Nat, ∃ o7 : Option Addr, ∃ l8 : Nat, ∃ l9 : Nat, e1 = .returned (.agg #[(.bool b3), (.slice o4 l5 l6), (.slice o7 l8 l9)]) ∧
    Calls Try.prog 119 #[(.agg #[(.bool b3), (.slice o4 l5 l6), (.slice o7 l8 l9)])] w2 (fun e10 w11 =>
      ∃ o12 : Option Addr, ∃ l13 : Nat, ∃ l14 : Nat, ∃ n15 : Int, e10 = .returned (.tuple #[(.slice o12 l13 l14), (.int .i64 n15)]) ∧
      R (.returned (.slice o12 l13 l14)) w11))
theorem trie_encoded.vc (v0 : Value) (w : World) (R : Ending → World → Prop) (h : trie_encoded.Vc v0 w R) : Calls Try.prog 94 #[v0] w R :=
  execF_sound (R := ⟨R, false⟩) (ann := []) (args := [.raw v0]) Try.func94 mixed (Eq.mp (by kernel_rfl : trie_encoded.Vc v0 w R = execF (pA Try.prog ⟨R, false⟩) Try.prog [] Try.f94 [.raw v0] w) h)


abbrev trie_text.n : Nat := 165
def trie_text.Vc (o0 : Option Addr) (l0 : Nat) (c0 : Nat) (w : World) (R : Ending → World → Prop) : Prop :=
  ∀ (d1 : Addr) (w2 : World), IsNew w 138 #[(.bool false), (.slice none 0 0), (.slice none 0 0)] d1 w2 →
  CanSet w2 d1 (.bool false) ∧ ∀ w3 : World, IsSet w2 d1 (.bool false) w3 →
  CanSet w3 (Addr.add d1 1) (.slice o0 l0 c0) ∧ ∀ w4 : World, IsSet w3 (Addr.add d1 1) (.slice o0 l0 c0) w4 →
  CanSet w4 (Addr.add d1 2) (.slice none 0 0) ∧ ∀ w5 : World, IsSet w4 (Addr.add d1 2) (.slice none 0 0) w5 →
  ∃ b6 : Bool, ∃ o7 : Option Addr, ∃ l8 : Nat, ∃ l9 : Nat, ∃ o10 : Option Addr, ∃ l11 : Nat, ∃ l12 : Nat, World.cell? w5 d1 = some (.bool b6) ∧
  World.cell? w5 (Addr.add d1 1) = some (.slice o7 l8 l9) ∧
  World.cell? w5 (Addr.add d1 2) = some (.slice o10 l11 l12) ∧
  R (.returned (.agg #[(.bool b6), (.slice o7 l8 l9), (.slice o10 l11 l12)])) w5
theorem trie_text.vc (o0 : Option Addr) (l0 : Nat) (c0 : Nat) (w : World) (R : Ending → World → Prop) (h : trie_text.Vc o0 l0 c0 w R) : Calls Try.prog 165 #[(.slice o0 l0 c0)] w R :=
  execF_sound (R := ⟨R, false⟩) (ann := []) (args := [.slice o0 l0 c0]) Try.func165 mixed (Eq.mp (by kernel_rfl : trie_text.Vc o0 l0 c0 w R = execF (pA Try.prog ⟨R, false⟩) Try.prog [] Try.f165 [.slice o0 l0 c0] w) h)

abbrev trie_row_item.n : Nat := 166
def trie_row_item.Vc (d0 : Addr) (w : World) (R : Ending → World → Prop) : Prop :=
  ∀ (d1 : Addr) (w2 : World), IsNew w 138 #[(.bool false), (.slice none 0 0), (.slice none 0 0)] d1 w2 →
  ∀ w3 : World, IsDrew w2 w3 →
  ∃ o4 : Option Addr, ∃ l5 : Nat, ∃ l6 : Nat, World.cell? w3 d0 = some (.slice o4 l5 l6) ∧
  ∃ v7 : Value, World.cell? w3 (Addr.add d0 1) = some v7 ∧
  Calls Try.prog 168 #[(.slice o4 l5 l6), (.bool false)] w3 (fun e8 w9 =>
    ∃ o10 : Option Addr, ∃ l11 : Nat, ∃ l12 : Nat, e8 = .returned (.slice o10 l11 l12) ∧
    World.cell? w9 (Addr.add d0 1) = some v7 ∧
    Calls Try.prog 165 #[(.slice o10 l11 l12)] w9 (fun e13 w14 =>
      ∃ b15 : Bool, ∃ o16 : Option Addr, ∃ l17 : Nat, ∃ l18 : Nat, ∃ o19 : Option Addr, ∃ l20 : Nat, ∃ l21 : Nat, e13 = .returned (.agg #[(.bool b15), (.slice o16 l17 l18), (.slice o19 l20 l21)]) ∧
      World.cell? w14 (Addr.add d0 1) = some v7 ∧
      Calls Try.prog 169 #[v7] w14 (fun e22 w23 =>
        ∃ b24 : Bool, ∃ o25 : Option Addr, ∃ l26 : Nat, ∃ l27 : Nat, ∃ o28 : Option Addr, ∃ l29 : Nat, ∃ l30 : Nat, e22 = .returned (.agg #[(.bool b24), (.slice o25 l26 l27), (.slice o28 l29 l30)]) ∧
        ∀ (d31 : Addr) (w32 : World), IsNew w23 138 #[(.bool b15), (.slice o16 l17 l18), (.slice o19 l20 l21), (.bool b24), (.slice o25 l26 l27), (.slice o28 l29 l30)] d31 w32 →
        Calls Try.prog 167 #[(.slice (some d31) 2 2)] w32 (fun e33 w34 =>
          ∃ b35 : Bool, ∃ o36 : Option Addr, ∃ l37 : Nat, ∃ l38 : Nat, ∃ o39 : Option Addr, ∃ l40 : Nat, ∃ l41 : Nat, e33 = .returned (.agg #[(.bool b35), (.slice o36 l37 l38), (.slice o39 l40 l41)]) ∧
          CanSet w34 d1 (.bool b35) ∧ ∀ w42 : World, IsSet w34 d1 (.bool b35) w42 →
          CanSet w42 (Addr.add d1 1) (.slice o36 l37 l38) ∧ ∀ w43 : World, IsSet w42 (Addr.add d1 1) (.slice o36 l37 l38) w43 →
          CanSet w43 (Addr.add d1 2) (.slice o39 l40 l41) ∧ ∀ w44 : World, IsSet w43 (Addr.add d1 2) (.slice o39 l40 l41) w44 →
          ∃ b45 : Bool, ∃ o46 : Option Addr, ∃ l47 : Nat, ∃ l48 : Nat, ∃ o49 : Option Addr, ∃ l50 : Nat, ∃ l51 : Nat, World.cell? w44 d1 = some (.bool b45) ∧
          World.cell? w44 (Addr.add d1 1) = some (.slice o46 l47 l48) ∧
          World.cell? w44 (Addr.add d1 2) = some (.slice o49 l50 l51) ∧
          R (.returned (.agg #[(.bool b45), (.slice o46 l47 l48), (.slice o49 l50 l51)])) w44))))
theorem trie_row_item.vc (d0 : Addr) (w : World) (R : Ending → World → Prop) (h : trie_row_item.Vc d0 w R) : Calls Try.prog 166 #[(.pointer (some d0))] w R :=
  execF_sound (R := ⟨R, false⟩) (ann := []) (args := [.addr d0]) Try.func166 mixed (Eq.mp (by kernel_rfl : trie_row_item.Vc d0 w R = execF (pA Try.prog ⟨R, false⟩) Try.prog [] Try.f166 [.addr d0] w) h)

abbrev trie_list.n : Nat := 167
def trie_list.Vc (o0 : Option Addr) (l0 : Nat) (c0 : Nat) (w : World) (R : Ending → World → Prop) : Prop :=
  ∀ (d1 : Addr) (w2 : World), IsNew w 138 #[(.bool false), (.slice none 0 0), (.slice none 0 0)] d1 w2 →
  CanSet w2 d1 (.bool true) ∧ ∀ w3 : World, IsSet w2 d1 (.bool true) w3 →
  CanSet w3 (Addr.add d1 1) (.slice none 0 0) ∧ ∀ w4 : World, IsSet w3 (Addr.add d1 1) (.slice none 0 0) w4 →
  CanSet w4 (Addr.add d1 2) (.slice o0 l0 c0) ∧ ∀ w5 : World, IsSet w4 (Addr.add d1 2) (.slice o0 l0 c0) w5 →
  ∃ b6 : Bool, ∃ o7 : Option Addr, ∃ l8 : Nat, ∃ l9 : Nat, ∃ o10 : Option Addr, ∃ l11 : Nat, ∃ l12 : Nat, World.cell? w5 d1 = some (.bool b6) ∧
  World.cell? w5 (Addr.add d1 1) = some (.slice o7 l8 l9) ∧
  World.cell? w5 (Addr.add d1 2) = some (.slice o10 l11 l12) ∧
  R (.returned (.agg #[(.bool b6), (.slice o7 l8 l9), (.slice o10 l11 l12)])) w5
theorem trie_list.vc (o0 : Option Addr) (l0 : Nat) (c0 : Nat) (w : World) (R : Ending → World → Prop) (h : trie_list.Vc o0 l0 c0 w R) : Calls Try.prog 167 #[(.slice o0 l0 c0)] w R :=
  execF_sound (R := ⟨R, false⟩) (ann := []) (args := [.slice o0 l0 c0]) Try.func167 mixed (Eq.mp (by kernel_rfl : trie_list.Vc o0 l0 c0 w R = execF (pA Try.prog ⟨R, false⟩) Try.prog [] Try.f167 [.slice o0 l0 c0] w) h)

abbrev trie_packed.n : Nat := 168
def trie_packed.Vc (o0 : Option Addr) (l0 : Nat) (c0 : Nat) (b1 : Bool) (w : World) (R : Ending → World → Prop) : Prop :=
  Calls Try.prog 38 #[(.slice o0 l0 c0), (.bool b1)] w (fun e2 w3 =>
    ∃ o4 : Option Addr, ∃ l5 : Nat, ∃ l6 : Nat, ∃ n7 : Int, e2 = .returned (.tuple #[(.slice o4 l5 l6), (.int .i64 n7)]) ∧
    R (.returned (.slice o4 l5 l6)) w3)
theorem trie_packed.vc (o0 : Option Addr) (l0 : Nat) (c0 : Nat) (b1 : Bool) (w : World) (R : Ending → World → Prop) (h : trie_packed.Vc o0 l0 c0 b1 w R) : Calls Try.prog 168 #[(.slice o0 l0 c0), (.bool b1)] w R :=
  execF_sound (R := ⟨R, false⟩) (ann := []) (args := [.slice o0 l0 c0, .bool (.var b1)]) Try.func168 mixed (Eq.mp (by kernel_rfl : trie_packed.Vc o0 l0 c0 b1 w R = execF (pA Try.prog ⟨R, false⟩) Try.prog [] Try.f168 [.slice o0 l0 c0, .bool (.var b1)] w) h)

abbrev trie_reference.n : Nat := 169
def trie_reference.Vc (v0 : Value) (w : World) (R : Ending → World → Prop) : Prop :=
  ∀ (d1 : Addr) (w2 : World), IsNew w 138 #[(.bool false), (.slice none 0 0), (.slice none 0 0)] d1 w2 →
  ((v0 = .nilIface ∧
   CanSet w2 d1 (.bool false) ∧ ∀ w3 : World, IsSet w2 d1 (.bool false) w3 →
   CanSet w3 (Addr.add d1 1) (.slice none 0 0) ∧ ∀ w4 : World, IsSet w3 (Addr.add d1 1) (.slice none 0 0) w4 →
   CanSet w4 (Addr.add d1 2) (.slice none 0 0) ∧ ∀ w5 : World, IsSet w4 (Addr.add d1 2) (.slice none 0 0) w5 →
   ∃ b6 : Bool, ∃ o7 : Option Addr, ∃ l8 : Nat, ∃ l9 : Nat, ∃ o10 : Option Addr, ∃ l11 : Nat, ∃ l12 : Nat, World.cell? w5 d1 = some (.bool b6) ∧
   World.cell? w5 (Addr.add d1 1) = some (.slice o7 l8 l9) ∧
   World.cell? w5 (Addr.add d1 2) = some (.slice o10 l11 l12) ∧
   R (.returned (.agg #[(.bool b6), (.slice o7 l8 l9), (.slice o10 l11 l12)])) w5) ∨
   (IsIface v0 ∧
   ∃ v13 : Value, Sem.run Try.prog (Instr.typeAssert v0 145 149 true) w2 = .ok v13 w2 ∧
   ∃ o14 : Option Addr, ∃ b15 : Bool, v13 = (.tuple #[(.pointer o14), (.bool b15)]) ∧
   (((b15 = true →
     Calls Try.prog 164 #[(.pointer o14)] w2 (fun e16 w17 =>
       ∃ b18 : Bool, ∃ o19 : Option Addr, ∃ l20 : Nat, ∃ l21 : Nat, ∃ o22 : Option Addr, ∃ l23 : Nat, ∃ l24 : Nat, e16 = .returned (.agg #[(.bool b18), (.slice o19 l20 l21), (.slice o22 l23 l24)]) ∧
       CanSet w17 d1 (.bool b18) ∧ ∀ w25 : World, IsSet w17 d1 (.bool b18) w25 →
       CanSet w25 (Addr.add d1 1) (.slice o19 l20 l21) ∧ ∀ w26 : World, IsSet w25 (Addr.add d1 1) (.slice o19 l20 l21) w26 →
       CanSet w26 (Addr.add d1 2) (.slice o22 l23 l24) ∧ ∀ w27 : World, IsSet w26 (Addr.add d1 2) (.slice o22 l23 l24) w27 →
       ∃ b28 : Bool, ∃ o29 : Option Addr, ∃ l30 : Nat, ∃ l31 : Nat, ∃ o32 : Option Addr, ∃ l33 : Nat, ∃ l34 : Nat, World.cell? w27 d1 = some (.bool b28) ∧
       World.cell? w27 (Addr.add d1 1) = some (.slice o29 l30 l31) ∧
       World.cell? w27 (Addr.add d1 2) = some (.slice o32 l33 l34) ∧
       R (.returned (.agg #[(.bool b28), (.slice o29 l30 l31), (.slice o32 l33 l34)])) w27))) ∧
    ((b15 = false →
     Calls Try.prog 94 #[v0] w2 (fun e35 w36 =>
       ∃ o37 : Option Addr, ∃ l38 : Nat, ∃ l39 : Nat, e35 = .returned (.slice o37 l38 l39) ∧
       (((((l38 : Nat) : Int) ≥ 32 →
         ∀ (d40 : Addr) (w41 : World), IsNew w36 22 #[(.slice o37 l38 l39)] d40 w41 →
         Calls Try.prog 19 #[(.slice (some d40) 1 1)] w41 (fun e42 w43 =>
           ∃ L44 : Array Value, e42 = .returned (.agg L44) ∧
           ∀ (d45 : Addr) (w46 : World), IsNew w43 26 (Array.replicate 32 (.int .u8 0)) d45 w46 →
           ∃ w47 : World, Sem.run Try.prog (Instr.storeAt 26 (.pointer (some d45)) (.agg L44)) w46 = .ok () w47 ∧
           Calls Try.prog 165 #[(.slice (some d45) 32 32)] w47 (fun e48 w49 =>
             ∃ b50 : Bool, ∃ o51 : Option Addr, ∃ l52 : Nat, ∃ l53 : Nat, ∃ o54 : Option Addr, ∃ l55 : Nat, ∃ l56 : Nat, e48 = .returned (.agg #[(.bool b50), (.slice o51 l52 l53), (.slice o54 l55 l56)]) ∧
             CanSet w49 d1 (.bool b50) ∧ ∀ w57 : World, IsSet w49 d1 (.bool b50) w57 →
             CanSet w57 (Addr.add d1 1) (.slice o51 l52 l53) ∧ ∀ w58 : World, IsSet w57 (Addr.add d1 1) (.slice o51 l52 l53) w58 →
             CanSet w58 (Addr.add d1 2) (.slice o54 l55 l56) ∧ ∀ w59 : World, IsSet w58 (Addr.add d1 2) (.slice o54 l55 l56) w59 →
             ∃ b60 : Bool, ∃ o61 : Option Addr, ∃ l62 : Nat, ∃ l63 : Nat, ∃ o64 : Option Addr, ∃ l65 : Nat, ∃ l66 : Nat, World.cell? w59 d1 = some (.bool b60) ∧
             World.cell? w59 (Addr.add d1 1) = some (.slice o61 l62 l63) ∧
             World.cell? w59 (Addr.add d1 2) = some (.slice o64 l65 l66) ∧
             R (.returned (.agg #[(.bool b60), (.slice o61 l62 l63), (.slice o64 l65 l66)])) w59)))) ∧
        ((¬ ((l38 : Nat) : Int) ≥ 32 →
         CallsM Try.prog v0 "moraine/trie.item" #[] w36 (fun e67 w68 =>
           ∃ b69 : Bool, ∃ o70 : Option Addr, ∃ l71 : Nat, ∃ l72 : Nat, ∃ o73 : Option Addr, ∃ l74 : Nat, ∃ l75 : Nat, e67 = .returned (.agg #[(.bool b69), (.slice o70 l71 l72), (.slice o73 l74 l75)]) ∧
           CanSet w68 d1 (.bool b69) ∧ ∀ w76 : World, IsSet w68 d1 (.bool b69) w76 →
           CanSet w76 (Addr.add d1 1) (.slice o70 l71 l72) ∧ ∀ w77 : World, IsSet w76 (Addr.add d1 1) (.slice o70 l71 l72) w77 →
           CanSet w77 (Addr.add d1 2) (.slice o73 l74 l75) ∧ ∀ w78 : World, IsSet w77 (Addr.add d1 2) (.slice o73 l74 l75) w78 →
           ∃ b79 : Bool, ∃ o80 : Option Addr, ∃ l81 : Nat, ∃ l82 : Nat, ∃ o83 : Option Addr, ∃ l84 : Nat, ∃ l85 : Nat, World.cell? w78 d1 = some (.bool b79) ∧
           World.cell? w78 (Addr.add d1 1) = some (.slice o80 l81 l82) ∧
           World.cell? w78 (Addr.add d1 2) = some (.slice o83 l84 l85) ∧
           R (.returned (.agg #[(.bool b79), (.slice o80 l81 l82), (.slice o83 l84 l85)])) w78))))))))))
theorem trie_reference.vc (v0 : Value) (w : World) (R : Ending → World → Prop) (h : trie_reference.Vc v0 w R) : Calls Try.prog 169 #[v0] w R :=
  execF_sound (R := ⟨R, false⟩) (ann := []) (args := [.raw v0]) Try.func169 mixed (Eq.mp (by kernel_rfl : trie_reference.Vc v0 w R = execF (pA Try.prog ⟨R, false⟩) Try.prog [] Try.f169 [.raw v0] w) h)

abbrev trie_branch_item.n : Nat := 170
def trie_branch_item.Vc (d0 : Addr) (w : World) (R : Ending → World → Prop) : Prop :=
  ∀ (d1 : Addr) (w2 : World), IsNew w 138 #[(.bool false), (.slice none 0 0), (.slice none 0 0)] d1 w2 →
  ∃ L3 : Array Value, RowAt w2 d0 16 L3 ∧
  ∃ (I4 : Option Addr → Nat → Nat → Int → World → Prop) (μ4 : Option Addr → Nat → Nat → Int → World → Nat), I4 none 0 0 0 w2 ∧
  (∀ (o5 : Option Addr) (l5 : Nat) (c5 : Nat) (n6 : Int) (j7 : Nat → Value) (w7 : World), I4 o5 l5 c5 n6 w7 →
    (((n6 < 16 →
      ∃ v8 : Value, Sem.run Try.prog (Instr.index 156 (.agg L3) (.int .i64 n6)) w7 = .ok v8 w7 ∧
      ∃ v9 : Value, v8 = v9 ∧
      Calls Try.prog 169 #[v9] w7 (fun e10 w11 =>
        ∃ b12 : Bool, ∃ o13 : Option Addr, ∃ l14 : Nat, ∃ l15 : Nat, ∃ o16 : Option Addr, ∃ l17 : Nat, ∃ l18 : Nat, e10 = .returned (.agg #[(.bool b12), (.slice o13 l14 l15), (.slice o16 l17 l18)]) ∧
        ∀ (d19 : Addr) (w20 : World), IsNew w11 138 #[(.bool b12), (.slice o13 l14 l15), (.slice o16 l17 l18)] d19 w20 →
        ∃ (v21 : Value) (w22 : World), Sem.run Try.prog (builtinV .append #[136, 136] 136 #[(.slice o5 l5 c5), (.slice (some d19) 1 1)]) w20 = .ok v21 w22 ∧
        ∃ o23 : Option Addr, ∃ l24 : Nat, ∃ l25 : Nat, v21 = (.slice o23 l24 l25) ∧
        I4 o23 l24 l25 (IntKind.wrap .i64 (n6 + 1)) w22 ∧ μ4 o23 l24 l25 (IntKind.wrap .i64 (n6 + 1)) w22 < μ4 o5 l5 c5 n6 w7))) ∧
     ((¬ n6 < 16 →
      ∃ o26 : Option Addr, ∃ l27 : Nat, ∃ l28 : Nat, World.cell? w7 (Addr.add d0 16) = some (.slice o26 l27 l28) ∧
      Calls Try.prog 165 #[(.slice o26 l27 l28)] w7 (fun e29 w30 =>
        ∃ b31 : Bool, ∃ o32 : Option Addr, ∃ l33 : Nat, ∃ l34 : Nat, ∃ o35 : Option Addr, ∃ l36 : Nat, ∃ l37 : Nat, e29 = .returned (.agg #[(.bool b31), (.slice o32 l33 l34), (.slice o35 l36 l37)]) ∧
        ∀ (d38 : Addr) (w39 : World), IsNew w30 138 #[(.bool b31), (.slice o32 l33 l34), (.slice o35 l36 l37)] d38 w39 →
        ∃ (v40 : Value) (w41 : World), Sem.run Try.prog (builtinV .append #[136, 136] 136 #[(.slice o5 l5 c5), (.slice (some d38) 1 1)]) w39 = .ok v40 w41 ∧
        ∃ o42 : Option Addr, ∃ l43 : Nat, ∃ l44 : Nat, v40 = (.slice o42 l43 l44) ∧
        Calls Try.prog 167 #[(.slice o42 l43 l44)] w41 (fun e45 w46 =>
          ∃ b47 : Bool, ∃ o48 : Option Addr, ∃ l49 : Nat, ∃ l50 : Nat, ∃ o51 : Option Addr, ∃ l52 : Nat, ∃ l53 : Nat, e45 = .returned (.agg #[(.bool b47), (.slice o48 l49 l50), (.slice o51 l52 l53)]) ∧
          CanSet w46 d1 (.bool b47) ∧ ∀ w54 : World, IsSet w46 d1 (.bool b47) w54 →
          CanSet w54 (Addr.add d1 1) (.slice o48 l49 l50) ∧ ∀ w55 : World, IsSet w54 (Addr.add d1 1) (.slice o48 l49 l50) w55 →
          CanSet w55 (Addr.add d1 2) (.slice o51 l52 l53) ∧ ∀ w56 : World, IsSet w55 (Addr.add d1 2) (.slice o51 l52 l53) w56 →
          ∃ b57 : Bool, ∃ o58 : Option Addr, ∃ l59 : Nat, ∃ l60 : Nat, ∃ o61 : Option Addr, ∃ l62 : Nat, ∃ l63 : Nat, World.cell? w56 d1 = some (.bool b57) ∧
          World.cell? w56 (Addr.add d1 1) = some (.slice o58 l59 l60) ∧
          World.cell? w56 (Addr.add d1 2) = some (.slice o61 l62 l63) ∧
          R (.returned (.agg #[(.bool b57), (.slice o58 l59 l60), (.slice o61 l62 l63)])) w56))))))
theorem trie_branch_item.vc (d0 : Addr) (w : World) (R : Ending → World → Prop) (h : trie_branch_item.Vc d0 w R) : Calls Try.prog 170 #[(.pointer (some d0))] w R :=
  execF_sound (R := ⟨R, false⟩) (ann := [(3, [(3, .cell (.slice)), (10, .cell (.int .i64))])]) (args := [.addr d0]) Try.func170 mixed (Eq.mp (by kernel_rfl : trie_branch_item.Vc d0 w R = execF (pA Try.prog ⟨R, false⟩) Try.prog [(3, [(3, .cell (.slice)), (10, .cell (.int .i64))])] Try.f170 [.addr d0] w) h)

abbrev trie_leaf_item.n : Nat := 171
def trie_leaf_item.Vc (d0 : Addr) (w : World) (R : Ending → World → Prop) : Prop :=
  ∀ (d1 : Addr) (w2 : World), IsNew w 138 #[(.bool false), (.slice none 0 0), (.slice none 0 0)] d1 w2 →
  ∀ w3 : World, IsDrew w2 w3 →
  ∃ o4 : Option Addr, ∃ l5 : Nat, ∃ l6 : Nat, World.cell? w3 d0 = some (.slice o4 l5 l6) ∧
  ∃ o7 : Option Addr, ∃ l8 : Nat, ∃ l9 : Nat, World.cell? w3 (Addr.add d0 1) = some (.slice o7 l8 l9) ∧
  Calls Try.prog 168 #[(.slice o4 l5 l6), (.bool true)] w3 (fun e10 w11 =>
    ∃ o12 : Option Addr, ∃ l13 : Nat, ∃ l14 : Nat, e10 = .returned (.slice o12 l13 l14) ∧
    World.cell? w11 (Addr.add d0 1) = some (.slice o7 l8 l9) ∧
    Calls Try.prog 165 #[(.slice o12 l13 l14)] w11 (fun e15 w16 =>
      ∃ b17 : Bool, ∃ o18 : Option Addr, ∃ l19 : Nat, ∃ l20 : Nat, ∃ o21 : Option Addr, ∃ l22 : Nat, ∃ l23 : Nat, e15 = .returned (.agg #[(.bool b17), (.slice o18 l19 l20), (.slice o21 l22 l23)]) ∧
      World.cell? w16 (Addr.add d0 1) = some (.slice o7 l8 l9) ∧
      Calls Try.prog 165 #[(.slice o7 l8 l9)] w16 (fun e24 w25 =>
        ∃ b26 : Bool, ∃ o27 : Option Addr, ∃ l28 : Nat, ∃ l29 : Nat, ∃ o30 : Option Addr, ∃ l31 : Nat, ∃ l32 : Nat, e24 = .returned (.agg #[(.bool b26), (.slice o27 l28 l29), (.slice o30 l31 l32)]) ∧
        ∀ (d33 : Addr) (w34 : World), IsNew w25 138 #[(.bool b17), (.slice o18 l19 l20), (.slice o21 l22 l23), (.bool b26), (.slice o27 l28 l29), (.slice o30 l31 l32)] d33 w34 →
        Calls Try.prog 167 #[(.slice (some d33) 2 2)] w34 (fun e35 w36 =>
          ∃ b37 : Bool, ∃ o38 : Option Addr, ∃ l39 : Nat, ∃ l40 : Nat, ∃ o41 : Option Addr, ∃ l42 : Nat, ∃ l43 : Nat, e35 = .returned (.agg #[(.bool b37), (.slice o38 l39 l40), (.slice o41 l42 l43)]) ∧
          CanSet w36 d1 (.bool b37) ∧ ∀ w44 : World, IsSet w36 d1 (.bool b37) w44 →
          CanSet w44 (Addr.add d1 1) (.slice o38 l39 l40) ∧ ∀ w45 : World, IsSet w44 (Addr.add d1 1) (.slice o38 l39 l40) w45 →
          CanSet w45 (Addr.add d1 2) (.slice o41 l42 l43) ∧ ∀ w46 : World, IsSet w45 (Addr.add d1 2) (.slice o41 l42 l43) w46 →
          ∃ b47 : Bool, ∃ o48 : Option Addr, ∃ l49 : Nat, ∃ l50 : Nat, ∃ o51 : Option Addr, ∃ l52 : Nat, ∃ l53 : Nat, World.cell? w46 d1 = some (.bool b47) ∧
          World.cell? w46 (Addr.add d1 1) = some (.slice o48 l49 l50) ∧
          World.cell? w46 (Addr.add d1 2) = some (.slice o51 l52 l53) ∧
          R (.returned (.agg #[(.bool b47), (.slice o48 l49 l50), (.slice o51 l52 l53)])) w46))))
theorem trie_leaf_item.vc (d0 : Addr) (w : World) (R : Ending → World → Prop) (h : trie_leaf_item.Vc d0 w R) : Calls Try.prog 171 #[(.pointer (some d0))] w R :=
  execF_sound (R := ⟨R, false⟩) (ann := []) (args := [.addr d0]) Try.func171 mixed (Eq.mp (by kernel_rfl : trie_leaf_item.Vc d0 w R = execF (pA Try.prog ⟨R, false⟩) Try.prog [] Try.f171 [.addr d0] w) h)

abbrev trie_Pack.n : Nat := 38
def trie_Pack.Vc (o0 : Option Addr) (l0 : Nat) (c0 : Nat) (b1 : Bool) (w : World) (R : Ending → World → Prop) : Prop :=
  (((((l0 : Nat) : Int) > 128 →
    R (.returned (.tuple #[(.slice none 0 0), (.int .i64 140)])) w)) ∧
   ((¬ ((l0 : Nat) : Int) > 128 →
    Calls Try.prog 86 #[(.slice o0 l0 c0)] w (fun e2 w3 =>
      ∃ n4 : Int, e2 = .returned (.int .u8 n4) ∧
      (((n4 ≥ 16 →
        R (.returned (.tuple #[(.slice none 0 0), (.int .i64 140)])) w3)) ∧
       ((¬ n4 ≥ 16 →
        ∃ (J5 : Int → World → Prop), ((((b1 = true →
           J5 2 w3)) ∧
          ((b1 = false →
           J5 0 w3)))) ∧
        (∀ (n6 : Int) (j7 : Nat → Value) (w7 : World), J5 n6 w7 →
          ∀ (d8 : Addr) (w9 : World), IsNew w7 5 #[(.int .u8 n6), (.int .u8 0)] d8 w9 →
          ∃ (J10 : Option Addr → Nat → Nat → World → Prop), (((((Int.tmod ((l0 : Nat) : Int) 2) = 1 →
             ∀ (d11 : Addr) (w12 : World), IsNew w9 5 #[(.int .u8 (IntKind.wrap .u8 (n6 + 1)))] d11 w12 →
             J10 (some d11) 1 1 w12)) ∧
            (((Int.tmod ((l0 : Nat) : Int) 2) ≠ 1 →
             J10 (some d8) 2 2 w9)))) ∧
          (∀ (o13 : Option Addr) (l13 : Nat) (c13 : Nat) (j14 : Nat → Value) (w14 : World), J10 o13 l13 c13 w14 →
            ∃ (v15 : Value) (w16 : World), Sem.run Try.prog (builtinV .append #[22, 22] 22 #[(.slice o13 l13 c13), (.slice o0 l0 c0)]) w14 = .ok v15 w16 ∧
            ∃ o17 : Option Addr, ∃ l18 : Nat, ∃ l19 : Nat, v15 = (.slice o17 l18 l19) ∧
            ∃ (I20 : Option Addr → Nat → Nat → Int → World → Prop) (μ20 : Option Addr → Nat → Nat → Int → World → Nat), I20 none 0 0 0 w16 ∧
            (∀ (o21 : Option Addr) (l21 : Nat) (c21 : Nat) (n22 : Int) (j23 : Nat → Value) (w23 : World), I20 o21 l21 c21 n22 w23 →
              (((n22 < ((l18 : Nat) : Int) →
                ∀ w24 : World, IsDrew w23 w24 →
                ∃ d25 : Addr, o17 = some d25 ∧
                ((0 : Int) ≤ n22 ∧ n22 < ((l18 : Nat) : Int)) ∧
                ∃ n26 : Int, World.cell? w24 (Addr.add d25 (Int.toNat n22)) = some (.int .u8 n26) ∧
                ∃ d27 : Addr, o17 = some d27 ∧
                ((0 : Int) ≤ (IntKind.wrap .i64 (n22 + 1)) ∧ (IntKind.wrap .i64 (n22 + 1)) < ((l18 : Nat) : Int)) ∧
                ∃ n28 : Int, World.cell? w24 (Addr.add d27 (Int.toNat (IntKind.wrap .i64 (n22 + 1)))) = some (.int .u8 n28) ∧
                ∀ (d29 : Addr) (w30 : World), IsNew w24 5 #[(.int .u8 (bitsI .or .u8 (IntKind.wrap .u8 (n26 * 16)) n28))] d29 w30 →
                ∃ (v31 : Value) (w32 : World), Sem.run Try.prog (builtinV .append #[22, 22] 22 #[(.slice o21 l21 c21), (.slice (some d29) 1 1)]) w30 = .ok v31 w32 ∧
                ∃ o33 : Option Addr, ∃ l34 : Nat, ∃ l35 : Nat, v31 = (.slice o33 l34 l35) ∧
                I20 o33 l34 l35 (IntKind.wrap .i64 (n22 + 2)) w32 ∧ μ20 o33 l34 l35 (IntKind.wrap .i64 (n22 + 2)) w32 < μ20 o21 l21 c21 n22 w23)) ∧
               ((¬ n22 < ((l18 : Nat) : Int) →
                R (.returned (.tuple #[(.slice o21 l21 c21), (.int .i64 0)])) w23)))))))))))))
theorem trie_Pack.vc (o0 : Option Addr) (l0 : Nat) (c0 : Nat) (b1 : Bool) (w : World) (R : Ending → World → Prop) (h : trie_Pack.Vc o0 l0 c0 b1 w R) : Calls Try.prog 38 #[(.slice o0 l0 c0), (.bool b1)] w R :=
  execF_sound (R := ⟨R, false⟩) (ann := [(1000006, [(6, .cell (.int .u8))]), (1000009, [(7, .cell (.slice))]), (12, [(8, .cell (.slice)), (9, .cell (.int .i64))])]) (args := [.slice o0 l0 c0, .bool (.var b1)]) Try.func38 mixed (Eq.mp (by kernel_rfl : trie_Pack.Vc o0 l0 c0 b1 w R = execF (pA Try.prog ⟨R, false⟩) Try.prog [(1000006, [(6, .cell (.int .u8))]), (1000009, [(7, .cell (.slice))]), (12, [(8, .cell (.slice)), (9, .cell (.int .i64))])] Try.f38 [.slice o0 l0 c0, .bool (.var b1)] w) h)

abbrev trie_Nibbles.n : Nat := 40
def trie_Nibbles.Vc (o0 : Option Addr) (l0 : Nat) (c0 : Nat) (w : World) (R : Ending → World → Prop) : Prop :=
  ∃ (I1 : Option Addr → Nat → Nat → Int → World → Prop) (μ1 : Option Addr → Nat → Nat → Int → World → Nat), I1 none 0 0 0 w ∧
  (∀ (o2 : Option Addr) (l2 : Nat) (c2 : Nat) (n3 : Int) (j4 : Nat → Value) (w4 : World), I1 o2 l2 c2 n3 w4 →
    (((n3 < ((l0 : Nat) : Int) →
      ∃ d5 : Addr, o0 = some d5 ∧
      ((0 : Int) ≤ n3 ∧ n3 < ((l0 : Nat) : Int)) ∧
      ∃ n6 : Int, World.cell? w4 (Addr.add d5 (Int.toNat n3)) = some (.int .u8 n6) ∧
      ∀ (d7 : Addr) (w8 : World), IsNew w4 5 #[(.int .u8 (Int.fdiv n6 16)), (.int .u8 (bitsI .and .u8 n6 15))] d7 w8 →
      ∃ (v9 : Value) (w10 : World), Sem.run Try.prog (builtinV .append #[22, 22] 22 #[(.slice o2 l2 c2), (.slice (some d7) 2 2)]) w8 = .ok v9 w10 ∧
      ∃ o11 : Option Addr, ∃ l12 : Nat, ∃ l13 : Nat, v9 = (.slice o11 l12 l13) ∧
      I1 o11 l12 l13 (IntKind.wrap .i64 (n3 + 1)) w10 ∧ μ1 o11 l12 l13 (IntKind.wrap .i64 (n3 + 1)) w10 < μ1 o2 l2 c2 n3 w4)) ∧
     ((¬ n3 < ((l0 : Nat) : Int) →
      R (.returned (.slice o2 l2 c2)) w4))))
theorem trie_Nibbles.vc (o0 : Option Addr) (l0 : Nat) (c0 : Nat) (w : World) (R : Ending → World → Prop) (h : trie_Nibbles.Vc o0 l0 c0 w R) : Calls Try.prog 40 #[(.slice o0 l0 c0)] w R :=
  execF_sound (R := ⟨R, false⟩) (ann := [(3, [(3, .cell (.slice)), (8, .cell (.int .i64))])]) (args := [.slice o0 l0 c0]) Try.func40 mixed (Eq.mp (by kernel_rfl : trie_Nibbles.Vc o0 l0 c0 w R = execF (pA Try.prog ⟨R, false⟩) Try.prog [(3, [(3, .cell (.slice)), (8, .cell (.int .i64))])] Try.f40 [.slice o0 l0 c0] w) h)

abbrev trie_maxOf.n : Nat := 86
def trie_maxOf.Vc (o0 : Option Addr) (l0 : Nat) (c0 : Nat) (w : World) (R : Ending → World → Prop) : Prop :=
  ∃ (I1 : Int → Int → World → Prop) (μ1 : Int → Int → World → Nat), I1 0 0 w ∧
  (∀ (n2 : Int) (n3 : Int) (j4 : Nat → Value) (w4 : World), I1 n2 n3 w4 →
    (((n3 < ((l0 : Nat) : Int) →
      ∃ d5 : Addr, o0 = some d5 ∧
      ((0 : Int) ≤ n3 ∧ n3 < ((l0 : Nat) : Int)) ∧
      ∃ n6 : Int, World.cell? w4 (Addr.add d5 (Int.toNat n3)) = some (.int .u8 n6) ∧
      I1 (max n2 n6) (IntKind.wrap .i64 (n3 + 1)) w4 ∧ μ1 (max n2 n6) (IntKind.wrap .i64 (n3 + 1)) w4 < μ1 n2 n3 w4)) ∧
     ((¬ n3 < ((l0 : Nat) : Int) →
      R (.returned (.int .u8 n2)) w4))))
theorem trie_maxOf.vc (o0 : Option Addr) (l0 : Nat) (c0 : Nat) (w : World) (R : Ending → World → Prop) (h : trie_maxOf.Vc o0 l0 c0 w R) : Calls Try.prog 86 #[(.slice o0 l0 c0)] w R :=
  execF_sound (R := ⟨R, false⟩) (ann := [(3, [(3, .cell (.int .u8)), (8, .cell (.int .i64))])]) (args := [.slice o0 l0 c0]) Try.func86 mixed (Eq.mp (by kernel_rfl : trie_maxOf.Vc o0 l0 c0 w R = execF (pA Try.prog ⟨R, false⟩) Try.prog [(3, [(3, .cell (.int .u8)), (8, .cell (.int .i64))])] Try.f86 [.slice o0 l0 c0] w) h)

abbrev trie_found.n : Nat := 99
def trie_found.Vc (o0 : Option Addr) (l0 : Nat) (c0 : Nat) (b1 : Bool) (w : World) (R : Ending → World → Prop) : Prop :=
  (((b1 = false →
    R (.returned (.tuple #[(.slice none 0 0), (.bool false), (.int .i64 0)])) w)) ∧
   ((b1 = true →
    Calls Try.prog 78 #[(.slice o0 l0 c0)] w (fun e2 w3 =>
      ∃ o4 : Option Addr, ∃ l5 : Nat, ∃ l6 : Nat, e2 = .returned (.slice o4 l5 l6) ∧
      R (.returned (.tuple #[(.slice o4 l5 l6), (.bool true), (.int .i64 0)])) w3))))
theorem trie_found.vc (o0 : Option Addr) (l0 : Nat) (c0 : Nat) (b1 : Bool) (w : World) (R : Ending → World → Prop) (h : trie_found.Vc o0 l0 c0 b1 w R) : Calls Try.prog 99 #[(.slice o0 l0 c0), (.bool b1)] w R :=
  execF_sound (R := ⟨R, false⟩) (ann := []) (args := [.slice o0 l0 c0, .bool (.var b1)]) Try.func99 mixed (Eq.mp (by kernel_rfl : trie_found.Vc o0 l0 c0 b1 w R = execF (pA Try.prog ⟨R, false⟩) Try.prog [] Try.f99 [.slice o0 l0 c0, .bool (.var b1)] w) h)

abbrev trie_begins.n : Nat := 100
def trie_begins.Vc (o0 : Option Addr) (l0 : Nat) (c0 : Nat) (o1 : Option Addr) (l1 : Nat) (c1 : Nat) (w : World) (R : Ending → World → Prop) : Prop :=
  Calls Try.prog 113 #[(.slice o0 l0 c0), (.slice o1 l1 c1)] w (fun e2 w3 =>
    ∃ o4 : Option Addr, ∃ l5 : Nat, ∃ l6 : Nat, ∃ b7 : Bool, e2 = .returned (.tuple #[(.slice o4 l5 l6), (.bool b7)]) ∧
    R (.returned (.tuple #[(.slice o4 l5 l6), (.bool b7)])) w3)
theorem trie_begins.vc (o0 : Option Addr) (l0 : Nat) (c0 : Nat) (o1 : Option Addr) (l1 : Nat) (c1 : Nat) (w : World) (R : Ending → World → Prop) (h : trie_begins.Vc o0 l0 c0 o1 l1 c1 w R) : Calls Try.prog 100 #[(.slice o0 l0 c0), (.slice o1 l1 c1)] w R :=
  execF_sound (R := ⟨R, false⟩) (ann := []) (args := [.slice o0 l0 c0, .slice o1 l1 c1]) Try.func100 mixed (Eq.mp (by kernel_rfl : trie_begins.Vc o0 l0 c0 o1 l1 c1 w R = execF (pA Try.prog ⟨R, false⟩) Try.prog [] Try.f100 [.slice o0 l0 c0, .slice o1 l1 c1] w) h)

abbrev trie_shared.n : Nat := 120
def trie_shared.Vc (o0 : Option Addr) (l0 : Nat) (c0 : Nat) (o1 : Option Addr) (l1 : Nat) (c1 : Nat) (w : World) (R : Ending → World → Prop) : Prop :=
  ∃ (I2 : Int → World → Prop) (μ2 : Int → World → Nat), I2 0 w ∧
  (∀ (n3 : Int) (j4 : Nat → Value) (w4 : World), I2 n3 w4 →
    ∀ w5 : World, IsDrew w4 w5 →
    (((n3 < ((l0 : Nat) : Int) →
      (((n3 < ((l1 : Nat) : Int) →
        ∃ d6 : Addr, o0 = some d6 ∧
        ((0 : Int) ≤ n3 ∧ n3 < ((l0 : Nat) : Int)) ∧
        ∃ n7 : Int, World.cell? w5 (Addr.add d6 (Int.toNat n3)) = some (.int .u8 n7) ∧
        ∃ d8 : Addr, o1 = some d8 ∧
        ((0 : Int) ≤ n3 ∧ n3 < ((l1 : Nat) : Int)) ∧
        ∃ n9 : Int, World.cell? w5 (Addr.add d8 (Int.toNat n3)) = some (.int .u8 n9) ∧
        (((n7 = n9 →
          I2 (IntKind.wrap .i64 (n3 + 1)) w5 ∧ μ2 (IntKind.wrap .i64 (n3 + 1)) w5 < μ2 n3 w4)) ∧
         ((n7 ≠ n9 →
          R (.returned (.int .i64 n3)) w5))))) ∧
       ((¬ n3 < ((l1 : Nat) : Int) →
        R (.returned (.int .i64 n3)) w5))))) ∧
     ((¬ n3 < ((l0 : Nat) : Int) →
      R (.returned (.int .i64 n3)) w5))))
theorem trie_shared.vc (o0 : Option Addr) (l0 : Nat) (c0 : Nat) (o1 : Option Addr) (l1 : Nat) (c1 : Nat) (w : World) (R : Ending → World → Prop) (h : trie_shared.Vc o0 l0 c0 o1 l1 c1 w R) : Calls Try.prog 120 #[(.slice o0 l0 c0), (.slice o1 l1 c1)] w R :=
  execF_sound (R := ⟨R, false⟩) (ann := [(2, [(5, .cell (.int .i64))])]) (args := [.slice o0 l0 c0, .slice o1 l1 c1]) Try.func120 mixed (Eq.mp (by kernel_rfl : trie_shared.Vc o0 l0 c0 o1 l1 c1 w R = execF (pA Try.prog ⟨R, false⟩) Try.prog [(2, [(5, .cell (.int .i64))])] Try.f120 [.slice o0 l0 c0, .slice o1 l1 c1] w) h)

abbrev trie_branch_lay.n : Nat := 121
def trie_branch_lay.Vc (d0 : Addr) (o1 : Option Addr) (l1 : Nat) (c1 : Nat) (o2 : Option Addr) (l2 : Nat) (c2 : Nat) (w : World) (R : Ending → World → Prop) : Prop :=
  (((((l1 : Nat) : Int) = 0 →
    CanSet w (Addr.add d0 16) (.slice o2 l2 c2) ∧ ∀ w3 : World, IsSet w (Addr.add d0 16) (.slice o2 l2 c2) w3 →
    R (.returned (.tuple #[])) w3)) ∧
   ((((l1 : Nat) : Int) ≠ 0 →
    ∀ w4 : World, IsDrew w w4 →
    ∃ d5 : Addr, o1 = some d5 ∧
    ((0 : Int) ≤ 0 ∧ 0 < ((l1 : Nat) : Int)) ∧
    ∃ n6 : Int, World.cell? w4 (Addr.add d5 0) = some (.int .u8 n6) ∧
    1 ≤ l1 ∧
    ∀ (d7 : Addr) (w8 : World), IsNew w4 177 #[(.slice (subO o1 c1 1 1) (l1 - 1) (c1 - 1)), (.slice o2 l2 c2)] d7 w8 →
    World.cell? w8 (Addr.add d5 0) = some (.int .u8 n6) ∧
    ((0 : Int) ≤ n6 ∧ n6 < ((16 : Nat) : Int)) ∧
    CanSet w8 (Addr.add d0 (Int.toNat n6)) (.iface 171 (.pointer (some d7))) ∧ ∀ w9 : World, IsSet w8 (Addr.add d0 (Int.toNat n6)) (.iface 171 (.pointer (some d7))) w9 →
    R (.returned (.tuple #[])) w9)))
theorem trie_branch_lay.vc (d0 : Addr) (o1 : Option Addr) (l1 : Nat) (c1 : Nat) (o2 : Option Addr) (l2 : Nat) (c2 : Nat) (w : World) (R : Ending → World → Prop) (h : trie_branch_lay.Vc d0 o1 l1 c1 o2 l2 c2 w R) : Calls Try.prog 121 #[(.pointer (some d0)), (.slice o1 l1 c1), (.slice o2 l2 c2)] w R :=
  execF_sound (R := ⟨R, false⟩) (ann := []) (args := [.addr d0, .slice o1 l1 c1, .slice o2 l2 c2]) Try.func121 mixed (Eq.mp (by kernel_rfl : trie_branch_lay.Vc d0 o1 l1 c1 o2 l2 c2 w R = execF (pA Try.prog ⟨R, false⟩) Try.prog [] Try.f121 [.addr d0, .slice o1 l1 c1, .slice o2 l2 c2] w) h)

abbrev trie_rowed.n : Nat := 122
def trie_rowed.Vc (o0 : Option Addr) (l0 : Nat) (c0 : Nat) (v1 : Value) (w : World) (R : Ending → World → Prop) : Prop :=
  (((((l0 : Nat) : Int) = 0 →
    R (.returned v1) w)) ∧
   ((((l0 : Nat) : Int) ≠ 0 →
    ∃ v2 : Value, Sem.run Try.prog (Instr.typeAssert v1 145 171 true) w = .ok v2 w ∧
    ∃ o3 : Option Addr, ∃ b4 : Bool, v2 = (.tuple #[(.pointer o3), (.bool b4)]) ∧
    (((b4 = true →
      ∀ w5 : World, IsDrew w w5 →
      ∃ d6 : Addr, o3 = some d6 ∧
      ∃ o7 : Option Addr, ∃ l8 : Nat, ∃ l9 : Nat, World.cell? w5 d6 = some (.slice o7 l8 l9) ∧
      ∃ d10 : Addr, o3 = some d10 ∧
      ∃ o11 : Option Addr, ∃ l12 : Nat, ∃ l13 : Nat, World.cell? w5 (Addr.add d10 1) = some (.slice o11 l12 l13) ∧
      Calls Try.prog 78 #[(.slice o0 l0 c0)] w5 (fun e14 w15 =>
        ∃ o16 : Option Addr, ∃ l17 : Nat, ∃ l18 : Nat, e14 = .returned (.slice o16 l17 l18) ∧
        World.cell? w15 (Addr.add d10 1) = some (.slice o11 l12 l13) ∧
        World.cell? w15 d6 = some (.slice o7 l8 l9) ∧
        ∃ (v19 : Value) (w20 : World), Sem.run Try.prog (builtinV .append #[22, 22] 22 #[(.slice o16 l17 l18), (.slice o7 l8 l9)]) w15 = .ok v19 w20 ∧
        ∃ o21 : Option Addr, ∃ l22 : Nat, ∃ l23 : Nat, v19 = (.slice o21 l22 l23) ∧
        World.cell? w20 (Addr.add d10 1) = some (.slice o11 l12 l13) ∧
        ∀ (d24 : Addr) (w25 : World), IsNew w20 177 #[(.slice o21 l22 l23), (.slice o11 l12 l13)] d24 w25 →
        R (.returned (.iface 171 (.pointer (some d24)))) w25))) ∧
     ((b4 = false →
      ∃ v26 : Value, Sem.run Try.prog (Instr.typeAssert v1 145 152 true) w = .ok v26 w ∧
      ∃ o27 : Option Addr, ∃ b28 : Bool, v26 = (.tuple #[(.pointer o27), (.bool b28)]) ∧
      (((b28 = true →
        ∀ w29 : World, IsDrew w w29 →
        ∃ d30 : Addr, o27 = some d30 ∧
        ∃ o31 : Option Addr, ∃ l32 : Nat, ∃ l33 : Nat, World.cell? w29 d30 = some (.slice o31 l32 l33) ∧
        ∃ d34 : Addr, o27 = some d34 ∧
        ∃ v35 : Value, World.cell? w29 (Addr.add d34 1) = some v35 ∧
        Calls Try.prog 78 #[(.slice o0 l0 c0)] w29 (fun e36 w37 =>
          ∃ o38 : Option Addr, ∃ l39 : Nat, ∃ l40 : Nat, e36 = .returned (.slice o38 l39 l40) ∧
          World.cell? w37 (Addr.add d34 1) = some v35 ∧
          World.cell? w37 d30 = some (.slice o31 l32 l33) ∧
          ∃ (v41 : Value) (w42 : World), Sem.run Try.prog (builtinV .append #[22, 22] 22 #[(.slice o38 l39 l40), (.slice o31 l32 l33)]) w37 = .ok v41 w42 ∧
          ∃ o43 : Option Addr, ∃ l44 : Nat, ∃ l45 : Nat, v41 = (.slice o43 l44 l45) ∧
          World.cell? w42 (Addr.add d34 1) = some v35 ∧
          Value.oneCell' v35 = true ∧
          ∀ (d46 : Addr) (w47 : World), IsNew w42 154 #[(.slice o43 l44 l45), v35] d46 w47 →
          R (.returned (.iface 152 (.pointer (some d46)))) w47))) ∧
       ((b28 = false →
        Value.oneCell' v1 = true ∧
        ∀ (d48 : Addr) (w49 : World), IsNew w 154 #[(.slice o0 l0 c0), v1] d48 w49 →
        R (.returned (.iface 152 (.pointer (some d48)))) w49)))))))))
theorem trie_rowed.vc (o0 : Option Addr) (l0 : Nat) (c0 : Nat) (v1 : Value) (w : World) (R : Ending → World → Prop) (h : trie_rowed.Vc o0 l0 c0 v1 w R) : Calls Try.prog 122 #[(.slice o0 l0 c0), v1] w R :=
  execF_sound (R := ⟨R, false⟩) (ann := []) (args := [.slice o0 l0 c0, .raw v1]) Try.func122 mixed (Eq.mp (by kernel_rfl : trie_rowed.Vc o0 l0 c0 v1 w R = execF (pA Try.prog ⟨R, false⟩) Try.prog [] Try.f122 [.slice o0 l0 c0, .raw v1] w) h)

abbrev bytes_Clone.n : Nat := 78
def bytes_Clone.Vc (o0 : Option Addr) (l0 : Nat) (c0 : Nat) (w : World) (R : Ending → World → Prop) : Prop :=
  (((o0 = none →
    R (.returned (.slice none 0 0)) w)) ∧
   ((o0 ≠ none →
    ∀ (d1 : Addr) (w2 : World), IsNew w 5 #[] d1 w2 →
    ∃ (v3 : Value) (w4 : World), Sem.run Try.prog (builtinV .append #[22, 22] 22 #[(.slice (some d1) 0 0), (.slice o0 l0 c0)]) w2 = .ok v3 w4 ∧
    ∃ o5 : Option Addr, ∃ l6 : Nat, ∃ l7 : Nat, v3 = (.slice o5 l6 l7) ∧
    R (.returned (.slice o5 l6 l7)) w4)))
theorem bytes_Clone.vc (o0 : Option Addr) (l0 : Nat) (c0 : Nat) (w : World) (R : Ending → World → Prop) (h : bytes_Clone.Vc o0 l0 c0 w R) : Calls Try.prog 78 #[(.slice o0 l0 c0)] w R :=
  execF_sound (R := ⟨R, false⟩) (ann := []) (args := [.slice o0 l0 c0]) Try.func78 mixed (Eq.mp (by kernel_rfl : bytes_Clone.Vc o0 l0 c0 w R = execF (pA Try.prog ⟨R, false⟩) Try.prog [] Try.f78 [.slice o0 l0 c0] w) h)

abbrev bytes_Equal.n : Nat := 87
def bytes_Equal.Vc (o0 : Option Addr) (l0 : Nat) (c0 : Nat) (o1 : Option Addr) (l1 : Nat) (c1 : Nat) (w : World) (R : Ending → World → Prop) : Prop :=
  ∃ v2 : Value, Sem.run Try.prog (convert 22 9 (.slice o0 l0 c0)) w = .ok v2 w ∧
  ∃ s3 : ByteArray, v2 = (.string s3) ∧
  ∃ v4 : Value, Sem.run Try.prog (convert 22 9 (.slice o1 l1 c1)) w = .ok v4 w ∧
  ∃ s5 : ByteArray, v4 = (.string s5) ∧
  R (.returned (.bool (strB .eql s3 s5))) w
theorem bytes_Equal.vc (o0 : Option Addr) (l0 : Nat) (c0 : Nat) (o1 : Option Addr) (l1 : Nat) (c1 : Nat) (w : World) (R : Ending → World → Prop) (h : bytes_Equal.Vc o0 l0 c0 o1 l1 c1 w R) : Calls Try.prog 87 #[(.slice o0 l0 c0), (.slice o1 l1 c1)] w R :=
  execF_sound (R := ⟨R, false⟩) (ann := []) (args := [.slice o0 l0 c0, .slice o1 l1 c1]) Try.func87 mixed (Eq.mp (by kernel_rfl : bytes_Equal.Vc o0 l0 c0 o1 l1 c1 w R = execF (pA Try.prog ⟨R, false⟩) Try.prog [] Try.f87 [.slice o0 l0 c0, .slice o1 l1 c1] w) h)

abbrev bytes_CutPrefix.n : Nat := 113
def bytes_CutPrefix.Vc (o0 : Option Addr) (l0 : Nat) (c0 : Nat) (o1 : Option Addr) (l1 : Nat) (c1 : Nat) (w : World) (R : Ending → World → Prop) : Prop :=
  Calls Try.prog 129 #[(.slice o0 l0 c0), (.slice o1 l1 c1)] w (fun e2 w3 =>
    ∃ b4 : Bool, e2 = .returned (.bool b4) ∧
    (((b4 = false →
      R (.returned (.tuple #[(.slice o0 l0 c0), (.bool false)])) w3)) ∧
     ((b4 = true →
      ((0 : Int) ≤ ((l1 : Nat) : Int) ∧ ((l1 : Nat) : Int) ≤ ((l0 : Nat) : Int)) ∧
      R (.returned (.tuple #[(.slice (subO o0 c0 (Int.toNat ((l1 : Nat) : Int)) 1) (l0 - (Int.toNat ((l1 : Nat) : Int))) (c0 - (Int.toNat ((l1 : Nat) : Int)))), (.bool true)])) w3))))
theorem bytes_CutPrefix.vc (o0 : Option Addr) (l0 : Nat) (c0 : Nat) (o1 : Option Addr) (l1 : Nat) (c1 : Nat) (w : World) (R : Ending → World → Prop) (h : bytes_CutPrefix.Vc o0 l0 c0 o1 l1 c1 w R) : Calls Try.prog 113 #[(.slice o0 l0 c0), (.slice o1 l1 c1)] w R :=
  execF_sound (R := ⟨R, false⟩) (ann := []) (args := [.slice o0 l0 c0, .slice o1 l1 c1]) Try.func113 mixed (Eq.mp (by kernel_rfl : bytes_CutPrefix.Vc o0 l0 c0 o1 l1 c1 w R = execF (pA Try.prog ⟨R, false⟩) Try.prog [] Try.f113 [.slice o0 l0 c0, .slice o1 l1 c1] w) h)

abbrev bytes_HasPrefix.n : Nat := 129
def bytes_HasPrefix.Vc (o0 : Option Addr) (l0 : Nat) (c0 : Nat) (o1 : Option Addr) (l1 : Nat) (c1 : Nat) (w : World) (R : Ending → World → Prop) : Prop :=
  (((((l0 : Nat) : Int) ≥ ((l1 : Nat) : Int) →
    ((0 : Int) ≤ ((l1 : Nat) : Int) ∧ ((l1 : Nat) : Int) ≤ ((c0 : Nat) : Int)) ∧
    Calls Try.prog 87 #[(.slice o0 (Int.toNat ((l1 : Nat) : Int)) c0), (.slice o1 l1 c1)] w (fun e2 w3 =>
      ∃ b4 : Bool, e2 = .returned (.bool b4) ∧
      R (.returned (.bool b4)) w3))) ∧
   ((¬ ((l0 : Nat) : Int) ≥ ((l1 : Nat) : Int) →
    R (.returned (.bool false)) w)))
theorem bytes_HasPrefix.vc (o0 : Option Addr) (l0 : Nat) (c0 : Nat) (o1 : Option Addr) (l1 : Nat) (c1 : Nat) (w : World) (R : Ending → World → Prop) (h : bytes_HasPrefix.Vc o0 l0 c0 o1 l1 c1 w R) : Calls Try.prog 129 #[(.slice o0 l0 c0), (.slice o1 l1 c1)] w R :=
  execF_sound (R := ⟨R, false⟩) (ann := []) (args := [.slice o0 l0 c0, .slice o1 l1 c1]) Try.func129 mixed (Eq.mp (by kernel_rfl : bytes_HasPrefix.Vc o0 l0 c0 o1 l1 c1 w R = execF (pA Try.prog ⟨R, false⟩) Try.prog [] Try.f129 [.slice o0 l0 c0, .slice o1 l1 c1] w) h)

abbrev rlp_Encode.n : Nat := 119
def rlp_Encode.Vc (b0 : Bool) (o1 : Option Addr) (l1 : Nat) (c1 : Nat) (o2 : Option Addr) (l2 : Nat) (c2 : Nat) (w : World) (R : Ending → World → Prop) : Prop :=
  ∀ (d3 : Addr) (w4 : World), IsNew w 138 #[(.bool b0), (.slice o1 l1 c1), (.slice o2 l2 c2)] d3 w4 →
  ∀ (d5 : Addr) (w6 : World), IsNew w4 231 #[(.int .i64 0)] d5 w6 →
  ∃ b7 : Bool, ∃ o8 : Option Addr, ∃ l9 : Nat, ∃ l10 : Nat, ∃ o11 : Option Addr, ∃ l12 : Nat, ∃ l13 : Nat, World.cell? w6 d3 = some (.bool b7) ∧
  World.cell? w6 (Addr.add d3 1) = some (.slice o8 l9 l10) ∧
  World.cell? w6 (Addr.add d3 2) = some (.slice o11 l12 l13) ∧
  Calls Try.prog 135 #[(.pointer (some d5)), (.agg #[(.bool b7), (.slice o8 l9 l10), (.slice o11 l12 l13)]), (.int .i64 1)] w6 (fun e14 w15 =>
    ∃ n16 : Int, ∃ n17 : Int, e14 = .returned (.tuple #[(.int .i64 n16), (.int .i64 n17)]) ∧
    (((n17 ≠ 0 →
      R (.returned (.tuple #[(.slice none 0 0), (.int .i64 n17)])) w15)) ∧
     ((n17 = 0 →
      (((n16 > 65536 →
        R (.returned (.tuple #[(.slice none 0 0), (.int .i64 44)])) w15)) ∧
       ((¬ n16 > 65536 →
        ∃ b18 : Bool, ∃ o19 : Option Addr, ∃ l20 : Nat, ∃ l21 : Nat, ∃ o22 : Option Addr, ∃ l23 : Nat, ∃ l24 : Nat, World.cell? w15 d3 = some (.bool b18) ∧
        World.cell? w15 (Addr.add d3 1) = some (.slice o19 l20 l21) ∧
        World.cell? w15 (Addr.add d3 2) = some (.slice o22 l23 l24) ∧
        Calls Try.prog 136 #[(.agg #[(.bool b18), (.slice o19 l20 l21), (.slice o22 l23 l24)])] w15 (fun e25 w26 =>
          ∃ o27 : Option Addr, ∃ l28 : Nat, ∃ l29 : Nat, e25 = .returned (.slice o27 l28 l29) ∧
          R (.returned (.tuple #[(.slice o27 l28 l29), (.int .i64 0)])) w26))))))))
theorem rlp_Encode.vc (b0 : Bool) (o1 : Option Addr) (l1 : Nat) (c1 : Nat) (o2 : Option Addr) (l2 : Nat) (c2 : Nat) (w : World) (R : Ending → World → Prop) (h : rlp_Encode.Vc b0 o1 l1 c1 o2 l2 c2 w R) : Calls Try.prog 119 #[(.agg #[(.bool b0), (.slice o1 l1 c1), (.slice o2 l2 c2)])] w R :=
  execF_sound (R := ⟨R, false⟩) (ann := []) (args := [.agg [.bool (.var b0), .slice o1 l1 c1, .slice o2 l2 c2]]) Try.func119 mixed (Eq.mp (by kernel_rfl : rlp_Encode.Vc b0 o1 l1 c1 o2 l2 c2 w R = execF (pA Try.prog ⟨R, false⟩) Try.prog [] Try.f119 [.agg [.bool (.var b0), .slice o1 l1 c1, .slice o2 l2 c2]] w) h)

abbrev rlp_walker_size.n : Nat := 135
def rlp_walker_size.Vc (d0 : Addr) (b1 : Bool) (o2 : Option Addr) (l2 : Nat) (c2 : Nat) (o3 : Option Addr) (l3 : Nat) (c3 : Nat) (n4 : Int) (w : World) (R : Ending → World → Prop) : Prop :=
  ∀ (d5 : Addr) (w6 : World), IsNew w 138 #[(.bool b1), (.slice o2 l2 c2), (.slice o3 l3 c3)] d5 w6 →
  Calls Try.prog 141 #[(.pointer (some d0)), (.int .i64 n4)] w6 (fun e7 w8 =>
    ∃ n9 : Int, e7 = .returned (.int .i64 n9) ∧
    (((n9 ≠ 0 →
      R (.returned (.tuple #[(.int .i64 0), (.int .i64 n9)])) w8)) ∧
     ((n9 = 0 →
      ∃ (J10 : World → Prop), (∃ (J11 : Bool → World → Prop), (∃ b12 : Bool, World.cell? w8 d5 = some (.bool b12) ∧
        (((b12 = true →
          ∃ o13 : Option Addr, ∃ l14 : Nat, ∃ l15 : Nat, World.cell? w8 (Addr.add d5 1) = some (.slice o13 l14 l15) ∧
          (((((l14 : Nat) : Int) > 0 →
            J11 true w8)) ∧
           ((¬ ((l14 : Nat) : Int) > 0 →
            ∃ b16 : Bool, World.cell? w8 d5 = some (.bool b16) ∧
            (((b16 = false →
              ∃ o17 : Option Addr, ∃ l18 : Nat, ∃ l19 : Nat, World.cell? w8 (Addr.add d5 2) = some (.slice o17 l18 l19) ∧
              J11 (decide (((l18 : Nat) : Int) > 0)) w8)) ∧
             ((b16 = true →
              J11 false w8)))))))) ∧
         ((b12 = false →
          ∃ b20 : Bool, World.cell? w8 d5 = some (.bool b20) ∧
          (((b20 = false →
            ∃ o21 : Option Addr, ∃ l22 : Nat, ∃ l23 : Nat, World.cell? w8 (Addr.add d5 2) = some (.slice o21 l22 l23) ∧
            J11 (decide (((l22 : Nat) : Int) > 0)) w8)) ∧
           ((b20 = true →
            J11 false w8))))))) ∧
       (∀ (b24 : Bool) (j25 : Nat → Value) (w25 : World), J11 b24 w25 →
         (((b24 = true →
           R (.returned (.tuple #[(.int .i64 0), (.int .i64 40)])) w25)) ∧
          ((b24 = false →
           ∃ o26 : Option Addr, ∃ l27 : Nat, ∃ l28 : Nat, World.cell? w25 (Addr.add d5 1) = some (.slice o26 l27 l28) ∧
           Calls Try.prog 142 #[(.slice o26 l27 l28)] w25 (fun e29 w30 =>
             ∃ b31 : Bool, e29 = .returned (.bool b31) ∧
             (((b31 = true →
               R (.returned (.tuple #[(.int .i64 1), (.int .i64 0)])) w30)) ∧
              ((b31 = false →
               J10  w30))))))))) ∧
      (∀  (j32 : Nat → Value) (w32 : World), J10  w32 →
        ∃ o33 : Option Addr, ∃ l34 : Nat, ∃ l35 : Nat, World.cell? w32 (Addr.add d5 1) = some (.slice o33 l34 l35) ∧
        ∃ o36 : Option Addr, ∃ l37 : Nat, ∃ l38 : Nat, World.cell? w32 (Addr.add d5 2) = some (.slice o36 l37 l38) ∧
        ∃ (I39 : Int → Int → World → Prop) (μ39 : Int → Int → World → Nat), I39 ((l34 : Nat) : Int) 0 w32 ∧
        (∀ (n40 : Int) (n41 : Int) (j42 : Nat → Value) (w42 : World), I39 n40 n41 w42 →
          (((n41 < ((l37 : Nat) : Int) →
            ∃ d43 : Addr, o36 = some d43 ∧
            ((0 : Int) ≤ n41 ∧ n41 < ((l37 : Nat) : Int)) ∧
            ∃ b44 : Bool, ∃ o45 : Option Addr, ∃ l46 : Nat, ∃ l47 : Nat, ∃ o48 : Option Addr, ∃ l49 : Nat, ∃ l50 : Nat, World.cell? w42 (Addr.add d43 ((Int.toNat n41) * 3)) = some (.bool b44) ∧
            World.cell? w42 (Addr.add (Addr.add d43 ((Int.toNat n41) * 3)) 1) = some (.slice o45 l46 l47) ∧
            World.cell? w42 (Addr.add (Addr.add d43 ((Int.toNat n41) * 3)) 2) = some (.slice o48 l49 l50) ∧
            ∀ (d51 : Addr) (w52 : World), IsNew w42 138 #[(.bool false), (.slice none 0 0), (.slice none 0 0)] d51 w52 →
            CanSet w52 d51 (.bool b44) ∧ ∀ w53 : World, IsSet w52 d51 (.bool b44) w53 →
            CanSet w53 (Addr.add d51 1) (.slice o45 l46 l47) ∧ ∀ w54 : World, IsSet w53 (Addr.add d51 1) (.slice o45 l46 l47) w54 →
            CanSet w54 (Addr.add d51 2) (.slice o48 l49 l50) ∧ ∀ w55 : World, IsSet w54 (Addr.add d51 2) (.slice o48 l49 l50) w55 →
            ∃ b56 : Bool, ∃ o57 : Option Addr, ∃ l58 : Nat, ∃ l59 : Nat, ∃ o60 : Option Addr, ∃ l61 : Nat, ∃ l62 : Nat, World.cell? w55 d51 = some (.bool b56) ∧
            World.cell? w55 (Addr.add d51 1) = some (.slice o57 l58 l59) ∧
            World.cell? w55 (Addr.add d51 2) = some (.slice o60 l61 l62) ∧
            Calls Try.prog 135 #[(.pointer (some d0)), (.agg #[(.bool b56), (.slice o57 l58 l59), (.slice o60 l61 l62)]), (.int .i64 (IntKind.wrap .i64 (n4 + 1)))] w55 (fun e63 w64 =>
              ∃ n65 : Int, ∃ n66 : Int, e63 = .returned (.tuple #[(.int .i64 n65), (.int .i64 n66)]) ∧
              (((n66 ≠ 0 →
                R (.returned (.tuple #[(.int .i64 0), (.int .i64 n66)])) w64)) ∧
               ((n66 = 0 →
                I39 (IntKind.wrap .i64 (n40 + n65)) (IntKind.wrap .i64 (n41 + 1)) w64 ∧ μ39 (IntKind.wrap .i64 (n40 + n65)) (IntKind.wrap .i64 (n41 + 1)) w64 < μ39 n40 n41 w42)))))) ∧
           ((¬ n41 < ((l37 : Nat) : Int) →
            Calls Try.prog 143 #[(.int .i64 n40), (.int .i64 0)] w42 (fun e67 w68 =>
              ∃ o69 : Option Addr, ∃ l70 : Nat, ∃ l71 : Nat, e67 = .returned (.slice o69 l70 l71) ∧
              R (.returned (.tuple #[(.int .i64 (IntKind.wrap .i64 (n40 + ((l70 : Nat) : Int)))), (.int .i64 0)])) w68))))))))))
theorem rlp_walker_size.vc (d0 : Addr) (b1 : Bool) (o2 : Option Addr) (l2 : Nat) (c2 : Nat) (o3 : Option Addr) (l3 : Nat) (c3 : Nat) (n4 : Int) (w : World) (R : Ending → World → Prop) (h : rlp_walker_size.Vc d0 b1 o2 l2 c2 o3 l3 c3 n4 w R) : Calls Try.prog 135 #[(.pointer (some d0)), (.agg #[(.bool b1), (.slice o2 l2 c2), (.slice o3 l3 c3)]), (.int .i64 n4)] w R :=
  execF_sound (R := ⟨R, false⟩) (ann := [(1000009, []), (1000006, [(20, .cell (.bool))]), (11, [(9, .cell (.int .i64)), (48, .cell (.int .i64))])]) (args := [.addr d0, .agg [.bool (.var b1), .slice o2 l2 c2, .slice o3 l3 c3], .int .i64 n4]) Try.func135 mixed (Eq.mp (by kernel_rfl : rlp_walker_size.Vc d0 b1 o2 l2 c2 o3 l3 c3 n4 w R = execF (pA Try.prog ⟨R, false⟩) Try.prog [(1000009, []), (1000006, [(20, .cell (.bool))]), (11, [(9, .cell (.int .i64)), (48, .cell (.int .i64))])] Try.f135 [.addr d0, .agg [.bool (.var b1), .slice o2 l2 c2, .slice o3 l3 c3], .int .i64 n4] w) h)

abbrev rlp_put.n : Nat := 136
def rlp_put.Vc (b0 : Bool) (o1 : Option Addr) (l1 : Nat) (c1 : Nat) (o2 : Option Addr) (l2 : Nat) (c2 : Nat) (w : World) (R : Ending → World → Prop) : Prop :=
  ∀ (d3 : Addr) (w4 : World), IsNew w 138 #[(.bool b0), (.slice o1 l1 c1), (.slice o2 l2 c2)] d3 w4 →
  ∃ b5 : Bool, World.cell? w4 d3 = some (.bool b5) ∧
  (((b5 = false →
    ∃ o6 : Option Addr, ∃ l7 : Nat, ∃ l8 : Nat, World.cell? w4 (Addr.add d3 1) = some (.slice o6 l7 l8) ∧
    Calls Try.prog 142 #[(.slice o6 l7 l8)] w4 (fun e9 w10 =>
      ∃ b11 : Bool, e9 = .returned (.bool b11) ∧
      (((b11 = true →
        ∃ o12 : Option Addr, ∃ l13 : Nat, ∃ l14 : Nat, World.cell? w10 (Addr.add d3 1) = some (.slice o12 l13 l14) ∧
        Calls Try.prog 78 #[(.slice o12 l13 l14)] w10 (fun e15 w16 =>
          ∃ o17 : Option Addr, ∃ l18 : Nat, ∃ l19 : Nat, e15 = .returned (.slice o17 l18 l19) ∧
          R (.returned (.slice o17 l18 l19)) w16))) ∧
       ((b11 = false →
        ∀ w20 : World, IsDrew w10 w20 →
        ∃ o21 : Option Addr, ∃ l22 : Nat, ∃ l23 : Nat, World.cell? w20 (Addr.add d3 1) = some (.slice o21 l22 l23) ∧
        ∃ o24 : Option Addr, ∃ l25 : Nat, ∃ l26 : Nat, World.cell? w20 (Addr.add d3 1) = some (.slice o24 l25 l26) ∧
        Calls Try.prog 143 #[(.int .i64 ((l22 : Nat) : Int)), (.int .i64 128)] w20 (fun e27 w28 =>
          ∃ o29 : Option Addr, ∃ l30 : Nat, ∃ l31 : Nat, e27 = .returned (.slice o29 l30 l31) ∧
          World.cell? w28 (Addr.add d3 1) = some (.slice o24 l25 l26) ∧
          ∃ (v32 : Value) (w33 : World), Sem.run Try.prog (builtinV .append #[22, 22] 22 #[(.slice o29 l30 l31), (.slice o24 l25 l26)]) w28 = .ok v32 w33 ∧
          ∃ o34 : Option Addr, ∃ l35 : Nat, ∃ l36 : Nat, v32 = (.slice o34 l35 l36) ∧
          R (.returned (.slice o34 l35 l36)) w33))))))) ∧
   ((b5 = true →
    ∃ o37 : Option Addr, ∃ l38 : Nat, ∃ l39 : Nat, World.cell? w4 (Addr.add d3 2) = some (.slice o37 l38 l39) ∧
    ∃ (I40 : Option Addr → Nat → Nat → Int → World → Prop) (μ40 : Option Addr → Nat → Nat → Int → World → Nat), I40 none 0 0 0 w4 ∧
    (∀ (o41 : Option Addr) (l41 : Nat) (c41 : Nat) (n42 : Int) (j43 : Nat → Value) (w43 : World), I40 o41 l41 c41 n42 w43 →
      (((n42 < ((l38 : Nat) : Int) →
        ∃ d44 : Addr, o37 = some d44 ∧
        ((0 : Int) ≤ n42 ∧ n42 < ((l38 : Nat) : Int)) ∧
        ∃ b45 : Bool, ∃ o46 : Option Addr, ∃ l47 : Nat, ∃ l48 : Nat, ∃ o49 : Option Addr, ∃ l50 : Nat, ∃ l51 : Nat, World.cell? w43 (Addr.add d44 ((Int.toNat n42) * 3)) = some (.bool b45) ∧
        World.cell? w43 (Addr.add (Addr.add d44 ((Int.toNat n42) * 3)) 1) = some (.slice o46 l47 l48) ∧
        World.cell? w43 (Addr.add (Addr.add d44 ((Int.toNat n42) * 3)) 2) = some (.slice o49 l50 l51) ∧
        ∀ (d52 : Addr) (w53 : World), IsNew w43 138 #[(.bool false), (.slice none 0 0), (.slice none 0 0)] d52 w53 →
        CanSet w53 d52 (.bool b45) ∧ ∀ w54 : World, IsSet w53 d52 (.bool b45) w54 →
        CanSet w54 (Addr.add d52 1) (.slice o46 l47 l48) ∧ ∀ w55 : World, IsSet w54 (Addr.add d52 1) (.slice o46 l47 l48) w55 →
        CanSet w55 (Addr.add d52 2) (.slice o49 l50 l51) ∧ ∀ w56 : World, IsSet w55 (Addr.add d52 2) (.slice o49 l50 l51) w56 →
        ∃ b57 : Bool, ∃ o58 : Option Addr, ∃ l59 : Nat, ∃ l60 : Nat, ∃ o61 : Option Addr, ∃ l62 : Nat, ∃ l63 : Nat, World.cell? w56 d52 = some (.bool b57) ∧
        World.cell? w56 (Addr.add d52 1) = some (.slice o58 l59 l60) ∧
        World.cell? w56 (Addr.add d52 2) = some (.slice o61 l62 l63) ∧
        Calls Try.prog 136 #[(.agg #[(.bool b57), (.slice o58 l59 l60), (.slice o61 l62 l63)])] w56 (fun e64 w65 =>
          ∃ o66 : Option Addr, ∃ l67 : Nat, ∃ l68 : Nat, e64 = .returned (.slice o66 l67 l68) ∧
          ∃ (v69 : Value) (w70 : World), Sem.run Try.prog (builtinV .append #[22, 22] 22 #[(.slice o41 l41 c41), (.slice o66 l67 l68)]) w65 = .ok v69 w70 ∧
          ∃ o71 : Option Addr, ∃ l72 : Nat, ∃ l73 : Nat, v69 = (.slice o71 l72 l73) ∧
          I40 o71 l72 l73 (IntKind.wrap .i64 (n42 + 1)) w70 ∧ μ40 o71 l72 l73 (IntKind.wrap .i64 (n42 + 1)) w70 < μ40 o41 l41 c41 n42 w43))) ∧
       ((¬ n42 < ((l38 : Nat) : Int) →
        Calls Try.prog 143 #[(.int .i64 ((l41 : Nat) : Int)), (.int .i64 192)] w43 (fun e74 w75 =>
          ∃ o76 : Option Addr, ∃ l77 : Nat, ∃ l78 : Nat, e74 = .returned (.slice o76 l77 l78) ∧
          ∃ (v79 : Value) (w80 : World), Sem.run Try.prog (builtinV .append #[22, 22] 22 #[(.slice o76 l77 l78), (.slice o41 l41 c41)]) w75 = .ok v79 w80 ∧
          ∃ o81 : Option Addr, ∃ l82 : Nat, ∃ l83 : Nat, v79 = (.slice o81 l82 l83) ∧
          R (.returned (.slice o81 l82 l83)) w80))))))))
theorem rlp_put.vc (b0 : Bool) (o1 : Option Addr) (l1 : Nat) (c1 : Nat) (o2 : Option Addr) (l2 : Nat) (c2 : Nat) (w : World) (R : Ending → World → Prop) (h : rlp_put.Vc b0 o1 l1 c1 o2 l2 c2 w R) : Calls Try.prog 136 #[(.agg #[(.bool b0), (.slice o1 l1 c1), (.slice o2 l2 c2)])] w R :=
  execF_sound (R := ⟨R, false⟩) (ann := [(7, [(3, .cell (.slice)), (25, .cell (.int .i64))])]) (args := [.agg [.bool (.var b0), .slice o1 l1 c1, .slice o2 l2 c2]]) Try.func136 mixed (Eq.mp (by kernel_rfl : rlp_put.Vc b0 o1 l1 c1 o2 l2 c2 w R = execF (pA Try.prog ⟨R, false⟩) Try.prog [(7, [(3, .cell (.slice)), (25, .cell (.int .i64))])] Try.f136 [.agg [.bool (.var b0), .slice o1 l1 c1, .slice o2 l2 c2]] w) h)

abbrev rlp_walker_meets.n : Nat := 141
def rlp_walker_meets.Vc (d0 : Addr) (n1 : Int) (w : World) (R : Ending → World → Prop) : Prop :=
  (((n1 > 16 →
    R (.returned (.int .i64 43)) w)) ∧
   ((¬ n1 > 16 →
    ∃ n2 : Int, World.cell? w d0 = some (.int .i64 n2) ∧
    (((n2 = 4096 →
      R (.returned (.int .i64 43)) w)) ∧
     ((n2 ≠ 4096 →
      ∃ n3 : Int, World.cell? w d0 = some (.int .i64 n3) ∧
      CanSet w d0 (.int .i64 (IntKind.wrap .i64 (n3 + 1))) ∧ ∀ w4 : World, IsSet w d0 (.int .i64 (IntKind.wrap .i64 (n3 + 1))) w4 →
      R (.returned (.int .i64 0)) w4))))))
theorem rlp_walker_meets.vc (d0 : Addr) (n1 : Int) (w : World) (R : Ending → World → Prop) (h : rlp_walker_meets.Vc d0 n1 w R) : Calls Try.prog 141 #[(.pointer (some d0)), (.int .i64 n1)] w R :=
  execF_sound (R := ⟨R, false⟩) (ann := []) (args := [.addr d0, .int .i64 n1]) Try.func141 mixed (Eq.mp (by kernel_rfl : rlp_walker_meets.Vc d0 n1 w R = execF (pA Try.prog ⟨R, false⟩) Try.prog [] Try.f141 [.addr d0, .int .i64 n1] w) h)

abbrev rlp_own.n : Nat := 142
def rlp_own.Vc (o0 : Option Addr) (l0 : Nat) (c0 : Nat) (w : World) (R : Ending → World → Prop) : Prop :=
  (((((l0 : Nat) : Int) = 1 →
    ∃ d1 : Addr, o0 = some d1 ∧
    ((0 : Int) ≤ 0 ∧ 0 < ((l0 : Nat) : Int)) ∧
    ∃ n2 : Int, World.cell? w (Addr.add d1 0) = some (.int .u8 n2) ∧
    R (.returned (.bool (decide (n2 < 128)))) w)) ∧
   ((((l0 : Nat) : Int) ≠ 1 →
    R (.returned (.bool false)) w)))
theorem rlp_own.vc (o0 : Option Addr) (l0 : Nat) (c0 : Nat) (w : World) (R : Ending → World → Prop) (h : rlp_own.Vc o0 l0 c0 w R) : Calls Try.prog 142 #[(.slice o0 l0 c0)] w R :=
  execF_sound (R := ⟨R, false⟩) (ann := []) (args := [.slice o0 l0 c0]) Try.func142 mixed (Eq.mp (by kernel_rfl : rlp_own.Vc o0 l0 c0 w R = execF (pA Try.prog ⟨R, false⟩) Try.prog [] Try.f142 [.slice o0 l0 c0] w) h)

abbrev rlp_head.n : Nat := 143
def rlp_head.Vc (n0 : Int) (n1 : Int) (w : World) (R : Ending → World → Prop) : Prop :=
  (((n0 ≤ 55 →
    ∀ (d2 : Addr) (w3 : World), IsNew w 5 #[(.int .u8 (IntKind.wrap .u8 (IntKind.wrap .i64 (n1 + n0))))] d2 w3 →
    R (.returned (.slice (some d2) 1 1)) w3)) ∧
   ((¬ n0 ≤ 55 →
    Calls Try.prog 145 #[(.int .u64 (IntKind.wrap .u64 n0))] w (fun e4 w5 =>
      ∃ o6 : Option Addr, ∃ l7 : Nat, ∃ l8 : Nat, e4 = .returned (.slice o6 l7 l8) ∧
      ∀ (d9 : Addr) (w10 : World), IsNew w5 5 #[(.int .u8 (IntKind.wrap .u8 (IntKind.wrap .i64 ((IntKind.wrap .i64 (n1 + 55)) + ((l7 : Nat) : Int)))))] d9 w10 →
      ∃ (v11 : Value) (w12 : World), Sem.run Try.prog (builtinV .append #[22, 22] 22 #[(.slice (some d9) 1 1), (.slice o6 l7 l8)]) w10 = .ok v11 w12 ∧
      ∃ o13 : Option Addr, ∃ l14 : Nat, ∃ l15 : Nat, v11 = (.slice o13 l14 l15) ∧
      R (.returned (.slice o13 l14 l15)) w12))))
theorem rlp_head.vc (n0 : Int) (n1 : Int) (w : World) (R : Ending → World → Prop) (h : rlp_head.Vc n0 n1 w R) : Calls Try.prog 143 #[(.int .i64 n0), (.int .i64 n1)] w R :=
  execF_sound (R := ⟨R, false⟩) (ann := []) (args := [.int .i64 n0, .int .i64 n1]) Try.func143 mixed (Eq.mp (by kernel_rfl : rlp_head.Vc n0 n1 w R = execF (pA Try.prog ⟨R, false⟩) Try.prog [] Try.f143 [.int .i64 n0, .int .i64 n1] w) h)

abbrev rlp_digits.n : Nat := 145
def rlp_digits.Vc (n0 : Int) (w : World) (R : Ending → World → Prop) : Prop :=
  ∃ (I1 : Int → Option Addr → Nat → Nat → World → Prop) (μ1 : Int → Option Addr → Nat → Nat → World → Nat), I1 n0 none 0 0 w ∧
  (∀ (n2 : Int) (o3 : Option Addr) (l3 : Nat) (c3 : Nat) (j4 : Nat → Value) (w4 : World), I1 n2 o3 l3 c3 w4 →
    (((n2 > 0 →
      ∀ (d5 : Addr) (w6 : World), IsNew w4 5 #[(.int .u8 (IntKind.wrap .u8 n2))] d5 w6 →
      ∃ (v7 : Value) (w8 : World), Sem.run Try.prog (builtinV .append #[22, 22] 22 #[(.slice (some d5) 1 1), (.slice o3 l3 c3)]) w6 = .ok v7 w8 ∧
      ∃ o9 : Option Addr, ∃ l10 : Nat, ∃ l11 : Nat, v7 = (.slice o9 l10 l11) ∧
      I1 (Int.fdiv n2 256) o9 l10 l11 w8 ∧ μ1 (Int.fdiv n2 256) o9 l10 l11 w8 < μ1 n2 o3 l3 c3 w4)) ∧
     ((¬ n2 > 0 →
      R (.returned (.slice o3 l3 c3)) w4))))
theorem rlp_digits.vc (n0 : Int) (w : World) (R : Ending → World → Prop) (h : rlp_digits.Vc n0 w R) : Calls Try.prog 145 #[(.int .u64 n0)] w R :=
  execF_sound (R := ⟨R, false⟩) (ann := [(2, [(0, .cell (.int .u64)), (3, .cell (.slice))])]) (args := [.int .u64 n0]) Try.func145 mixed (Eq.mp (by kernel_rfl : rlp_digits.Vc n0 w R = execF (pA Try.prog ⟨R, false⟩) Try.prog [(2, [(0, .cell (.int .u64)), (3, .cell (.slice))])] Try.f145 [.int .u64 n0] w) h)

end Go.Proofs.Ytfghidehlnfdiaa
end
