/- The verification conditions of some functions, printed by a program of ours (wip/PrintVc.lean). -/
/- References and nodes of package proof in memory; contracts: refOf, isBranch, valueIf, CutPrefix. -/
/- Contracts: nodeOf, parsed (package proof). -/
/- Contracts: rootOf, parsed, gives, way (package proof). -/
import Derived.Test.YtfghidehlnfdiaaTVW
import Derived.Test.YtfghidehlnfdiaaProg
import Derived.KernelRfl
set_option linter.unusedVariables false
set_option linter.unusedSimpArgs false
section
namespace Go.Proofs.Ytfghidehlnfdiaa
open Go Go.Vcg
abbrev moraineref14_Get.n : Nat := 79
def moraineref14_Get.Vc (o0 : Option Addr) (l0 c0 : Nat) (L1 : Array Value) (o2 : Option Addr) (l2 c2 : Nat) (w : World) (R : Ending → World → Prop) : Prop :=
 ∀ d3 w4, IsNew w 26 L1 d3 w4 →
 (((((l2 : Nat) : Int) > 64 →
 R (.returned (.tuple #[(.slice none 0 0), (.bool false), (.slice none 0 0), (.int .i64 140)])) w4)) ∧
 ((¬ ((l2 : Nat) : Int) > 64 →
 ∀ w5, IsDrew w4 w5 →
 ∃ L6, RowAt w5 d3 32 L6 ∧
 Calls Try.prog 83 #[] w5 (fun e7 w8 =>
 ∃ L9, e7 = .returned (.agg L9) ∧
 RowAt w8 d3 32 L6 ∧
 ∃ v10, Sem.run Try.prog (semBin .eql 26 (.tmp 23) (.tmp 24) (.agg L6) (.agg L9)) w8 = .ok v10 w8 ∧
 ∃ b11, v10 = (.bool b11) ∧
 (((b11 = true →
 R (.returned (.tuple #[(.slice none 0 0), (.bool false), (.slice none 0 0), (.int .i64 0)])) w8)) ∧
 ((b11 = false →
 Calls Try.prog 41 #[(.slice o2 l2 c2)] w8 (fun e12 w13 =>
 ∃ o14 l15 l16, e12 = .returned (.slice o14 l15 l16) ∧
 ∃ L17, RowAt w13 d3 32 L17 ∧
 ∀ d18 w19, IsNew w13 26 (Array.replicate 32 (.int .u8 0)) d18 w19 →
 ∃ w20, Sem.run Try.prog (Instr.storeAt 26 (.pointer (some d18)) (.agg L17)) w19 = .ok () w20 ∧
 ∃ (I21 : Option Addr → Nat → Nat → Option Addr → Nat → Nat → World → Prop) (μ21 : Option Addr → Nat → Nat → Option Addr → Nat → Nat → World → Nat), I21 none 0 0 o14 l15 l16 w20 ∧
 (∀ (o22 : Option Addr) (l22 : Nat) (c22 : Nat) (o23 : Option Addr) (l23 : Nat) (c23 : Nat) (j24 : Nat → Value) (w24 : World), I21 o22 l22 c22 o23 l23 c23 w24 →
 ∃ L25, RowAt w24 d18 32 L25 ∧
 Calls Try.prog 114 #[(.slice o0 l0 c0), (.agg L25)] w24 (fun e26 w27 =>
 ∃ o28 l29 l30 b31, e26 = .returned (.tuple #[(.slice o28 l29 l30), (.bool b31)]) ∧
 (((b31 = false →
 R (.returned (.tuple #[(.slice none 0 0), (.bool false), (.slice o22 l22 c22), (.int .i64 142)])) w27)) ∧
 ((b31 = true →
 Calls Try.prog 49 #[(.slice o28 l29 l30)] w27 (fun e32 w33 =>
 ∃ n34, e32 = .returned (.int .i64 n34) ∧
 (((n34 ≠ 0 →
 R (.returned (.tuple #[(.slice none 0 0), (.bool false), (.slice o22 l22 c22), (.int .i64 143)])) w33)) ∧
 ((n34 = 0 →
 ∀ d35 w36, IsNew w33 22 #[(.slice o28 l29 l30)] d35 w36 →
 ∃ v37 w38, Sem.run Try.prog (builtinV .append #[31, 31] 31 #[(.slice o22 l22 c22), (.slice (some d35) 1 1)]) w36 = .ok v37 w38 ∧
 ∃ o39 l40 l41, v37 = (.slice o39 l40 l41) ∧
 Calls Try.prog 84 #[(.slice o28 l29 l30)] w38 (fun e42 w43 =>
 ∃ b44 o45 l46 l47 o48 l49 l50 n51, e42 = .returned (.tuple #[(.agg #[(.bool b44), (.slice o45 l46 l47), (.slice o48 l49 l50)]), (.int .i64 n51)]) ∧
 ∀ d52 w53, IsNew w43 138 #[(.bool false), (.slice none 0 0), (.slice none 0 0)] d52 w53 →
 CanSet w53 d52 (.bool b44) ∧ ∀ w54, IsSet w53 d52 (.bool b44) w54 →
 CanSet w54 (Addr.add d52 1) (.slice o45 l46 l47) ∧ ∀ w55, IsSet w54 (Addr.add d52 1) (.slice o45 l46 l47) w55 →
 CanSet w55 (Addr.add d52 2) (.slice o48 l49 l50) ∧ ∀ w56, IsSet w55 (Addr.add d52 2) (.slice o48 l49 l50) w56 →
 ∃ b57 o58 l59 l60 o61 l62 l63, World.cell? w56 d52 = some (.bool b57) ∧
 World.cell? w56 (Addr.add d52 1) = some (.slice o58 l59 l60) ∧
 World.cell? w56 (Addr.add d52 2) = some (.slice o61 l62 l63) ∧
 Calls Try.prog 85 #[(.agg #[(.bool b57), (.slice o58 l59 l60), (.slice o61 l62 l63)]), (.slice o23 l23 c23)] w56 (fun e64 w65 =>
 ∃ o66 l67 l68 o69 l70 l71 b72 o73 l74 l75 o76 l77 l78, e64 = .returned (.tuple #[(.slice o66 l67 l68), (.slice o69 l70 l71), (.agg #[(.bool b72), (.slice o73 l74 l75), (.slice o76 l77 l78)])]) ∧
 ∀ d79 w80, IsNew w65 138 #[(.bool false), (.slice none 0 0), (.slice none 0 0)] d79 w80 →
 CanSet w80 d79 (.bool b72) ∧ ∀ w81, IsSet w80 d79 (.bool b72) w81 →
 CanSet w81 (Addr.add d79 1) (.slice o73 l74 l75) ∧ ∀ w82, IsSet w81 (Addr.add d79 1) (.slice o73 l74 l75) w82 →
 CanSet w82 (Addr.add d79 2) (.slice o76 l77 l78) ∧ ∀ w83, IsSet w82 (Addr.add d79 2) (.slice o76 l77 l78) w83 →
 ∃ b84, World.cell? w83 d79 = some (.bool b84) ∧
 (((b84 = true →
 R (.returned (.tuple #[(.slice o66 l67 l68), (.bool (decide (((l67 : Nat) : Int) > 0))), (.slice o39 l40 l41), (.int .i64 0)])) w83)) ∧
 ((b84 = false →
 ∃ o85 l86 l87, World.cell? w83 (Addr.add d79 1) = some (.slice o85 l86 l87) ∧
 (((((l86 : Nat) : Int) = 0 →
 R (.returned (.tuple #[(.slice o66 l67 l68), (.bool (decide (((l67 : Nat) : Int) > 0))), (.slice o39 l40 l41), (.int .i64 0)])) w83)) ∧
 ((((l86 : Nat) : Int) ≠ 0 →
 ∀ w88, IsDrew w83 w88 →
 ∃ o89 l90 l91, World.cell? w88 (Addr.add d79 1) = some (.slice o89 l90 l91) ∧
 ∃ v92 w93, Sem.run Try.prog (builtinV .copy #[22, 22] 3 #[(.slice (some d18) 32 32), (.slice o89 l90 l91)]) w88 = .ok v92 w93 ∧
 ∃ n94, v92 = (.int .i64 n94) ∧
 I21 o39 l40 l41 o69 l70 l71 w93 ∧ μ21 o39 l40 l41 o69 l70 l71 w93 < μ21 o22 l22 c22 o23 l23 c23 w24)))))))))))))))))))))))))
theorem moraineref14_Get.vc (o0 l0 c0 L1 o2 l2 c2 w R) (h : moraineref14_Get.Vc o0 l0 c0 L1 o2 l2 c2 w R) : Calls Try.prog 79 #[(.slice o0 l0 c0), (.agg L1), (.slice o2 l2 c2)] w R := xs [(8, [(10, .cell (.slice)), (11, .cell (.slice))])] [.slice o0 l0 c0, .big 32 L1, .slice o2 l2 c2] Try.func79 mixed (by kernel_rfl) h

abbrev moraineref14_Down.n : Nat := 85
def moraineref14_Down.Vc (b0 : Bool) (o1 : Option Addr) (l1 c1 : Nat) (o2 : Option Addr) (l2 c2 : Nat) (o3 : Option Addr) (l3 c3 : Nat) (w : World) (R : Ending → World → Prop) : Prop :=
 ∀ d4 w5, IsNew w 138 #[(.bool b0), (.slice o1 l1 c1), (.slice o2 l2 c2)] d4 w5 →
 ∀ d6 w7, IsNew w5 138 #[(.bool false), (.slice none 0 0), (.slice none 0 0)] d6 w7 →
 ∃ (I8 : Option Addr → Nat → Nat → World → Prop) (μ8 : Option Addr → Nat → Nat → World → Nat), I8 o3 l3 c3 w7 ∧
 (∀ (o9 : Option Addr) (l9 : Nat) (c9 : Nat) (j10 : Nat → Value) (w10 : World), I8 o9 l9 c9 w10 →
 ∃ b11, World.cell? w10 d4 = some (.bool b11) ∧
 (((b11 = true →
 ∃ o12 l13 l14, World.cell? w10 (Addr.add d4 2) = some (.slice o12 l13 l14) ∧
 (((((l13 : Nat) : Int) = 2 →
 ∃ o15 l16 l17, World.cell? w10 (Addr.add d4 2) = some (.slice o15 l16 l17) ∧
 ∃ d18, o15 = some d18 ∧
 ((0 : Int) ≤ 0 ∧ 0 < ((l16 : Nat) : Int)) ∧
 ∃ o19 l20 l21, World.cell? w10 (Addr.add (Addr.add d18 0) 1) = some (.slice o19 l20 l21) ∧
 Calls Try.prog 43 #[(.slice o19 l20 l21)] w10 (fun e22 w23 =>
 ∃ o24 l25 l26 b27 n28, e22 = .returned (.tuple #[(.slice o24 l25 l26), (.bool b27), (.int .i64 n28)]) ∧
 (((b27 = true →
 ∃ v29, Sem.run Try.prog (convert 22 9 (.slice o24 l25 l26)) w23 = .ok v29 w23 ∧
 ∃ s30, v29 = (.string s30) ∧
 ∃ v31, Sem.run Try.prog (convert 22 9 (.slice o9 l9 c9)) w23 = .ok v31 w23 ∧
 ∃ s32, v31 = (.string s32) ∧
 (((strB .eql s30 s32 = true →
 ∃ o33 l34 l35, World.cell? w23 (Addr.add d4 2) = some (.slice o33 l34 l35) ∧
 ∃ d36, o33 = some d36 ∧
 ((0 : Int) ≤ 1 ∧ 1 < ((l34 : Nat) : Int)) ∧
 ∃ o37 l38 l39, World.cell? w23 (Addr.add (Addr.add d36 3) 1) = some (.slice o37 l38 l39) ∧
 CanSet w23 d6 (.bool false) ∧ ∀ w40, IsSet w23 d6 (.bool false) w40 →
 CanSet w40 (Addr.add d6 1) (.slice none 0 0) ∧ ∀ w41, IsSet w40 (Addr.add d6 1) (.slice none 0 0) w41 →
 CanSet w41 (Addr.add d6 2) (.slice none 0 0) ∧ ∀ w42, IsSet w41 (Addr.add d6 2) (.slice none 0 0) w42 →
 ∃ b43 o44 l45 l46 o47 l48 l49, World.cell? w42 d6 = some (.bool b43) ∧
 World.cell? w42 (Addr.add d6 1) = some (.slice o44 l45 l46) ∧
 World.cell? w42 (Addr.add d6 2) = some (.slice o47 l48 l49) ∧
 R (.returned (.tuple #[(.slice o37 l38 l39), (.slice none 0 0), (.agg #[(.bool b43), (.slice o44 l45 l46), (.slice o47 l48 l49)])])) w42)) ∧
 ((strB .eql s30 s32 = false →
 CanSet w23 d6 (.bool false) ∧ ∀ w50, IsSet w23 d6 (.bool false) w50 →
 CanSet w50 (Addr.add d6 1) (.slice none 0 0) ∧ ∀ w51, IsSet w50 (Addr.add d6 1) (.slice none 0 0) w51 →
 CanSet w51 (Addr.add d6 2) (.slice none 0 0) ∧ ∀ w52, IsSet w51 (Addr.add d6 2) (.slice none 0 0) w52 →
 ∃ b53 o54 l55 l56 o57 l58 l59, World.cell? w52 d6 = some (.bool b53) ∧
 World.cell? w52 (Addr.add d6 1) = some (.slice o54 l55 l56) ∧
 World.cell? w52 (Addr.add d6 2) = some (.slice o57 l58 l59) ∧
 R (.returned (.tuple #[(.slice none 0 0), (.slice none 0 0), (.agg #[(.bool b53), (.slice o54 l55 l56), (.slice o57 l58 l59)])])) w52))))) ∧
 ((b27 = false →
 ∀ w60, IsDrew w23 w60 →
 (((((l9 : Nat) : Int) < ((l25 : Nat) : Int) →
 CanSet w60 d6 (.bool false) ∧ ∀ w61, IsSet w60 d6 (.bool false) w61 →
 CanSet w61 (Addr.add d6 1) (.slice none 0 0) ∧ ∀ w62, IsSet w61 (Addr.add d6 1) (.slice none 0 0) w62 →
 CanSet w62 (Addr.add d6 2) (.slice none 0 0) ∧ ∀ w63, IsSet w62 (Addr.add d6 2) (.slice none 0 0) w63 →
 ∃ b64 o65 l66 l67 o68 l69 l70, World.cell? w63 d6 = some (.bool b64) ∧
 World.cell? w63 (Addr.add d6 1) = some (.slice o65 l66 l67) ∧
 World.cell? w63 (Addr.add d6 2) = some (.slice o68 l69 l70) ∧
 R (.returned (.tuple #[(.slice none 0 0), (.slice none 0 0), (.agg #[(.bool b64), (.slice o65 l66 l67), (.slice o68 l69 l70)])])) w63)) ∧
 ((¬ ((l9 : Nat) : Int) < ((l25 : Nat) : Int) →
 ((0 : Int) ≤ ((l25 : Nat) : Int) ∧ ((l25 : Nat) : Int) ≤ ((c9 : Nat) : Int)) ∧
 ∃ v71, Sem.run Try.prog (convert 22 9 (.slice o9 (Int.toNat ((l25 : Nat) : Int)) c9)) w60 = .ok v71 w60 ∧
 ∃ s72, v71 = (.string s72) ∧
 ∃ v73, Sem.run Try.prog (convert 22 9 (.slice o24 l25 l26)) w60 = .ok v73 w60 ∧
 ∃ s74, v73 = (.string s74) ∧
 (((strB .neq s72 s74 = true →
 CanSet w60 d6 (.bool false) ∧ ∀ w75, IsSet w60 d6 (.bool false) w75 →
 CanSet w75 (Addr.add d6 1) (.slice none 0 0) ∧ ∀ w76, IsSet w75 (Addr.add d6 1) (.slice none 0 0) w76 →
 CanSet w76 (Addr.add d6 2) (.slice none 0 0) ∧ ∀ w77, IsSet w76 (Addr.add d6 2) (.slice none 0 0) w77 →
 ∃ b78 o79 l80 l81 o82 l83 l84, World.cell? w77 d6 = some (.bool b78) ∧
 World.cell? w77 (Addr.add d6 1) = some (.slice o79 l80 l81) ∧
 World.cell? w77 (Addr.add d6 2) = some (.slice o82 l83 l84) ∧
 R (.returned (.tuple #[(.slice none 0 0), (.slice none 0 0), (.agg #[(.bool b78), (.slice o79 l80 l81), (.slice o82 l83 l84)])])) w77)) ∧
 ((strB .neq s72 s74 = false →
 ((0 : Int) ≤ ((l25 : Nat) : Int) ∧ ((l25 : Nat) : Int) ≤ ((l9 : Nat) : Int)) ∧
 ∃ o85 l86 l87, World.cell? w60 (Addr.add d4 2) = some (.slice o85 l86 l87) ∧
 ∃ d88, o85 = some d88 ∧
 ((0 : Int) ≤ 1 ∧ 1 < ((l86 : Nat) : Int)) ∧
 ∃ b89 o90 l91 l92 o93 l94 l95, World.cell? w60 (Addr.add d88 3) = some (.bool b89) ∧
 World.cell? w60 (Addr.add (Addr.add d88 3) 1) = some (.slice o90 l91 l92) ∧
 World.cell? w60 (Addr.add (Addr.add d88 3) 2) = some (.slice o93 l94 l95) ∧
 CanSet w60 d4 (.bool b89) ∧ ∀ w96, IsSet w60 d4 (.bool b89) w96 →
 CanSet w96 (Addr.add d4 1) (.slice o90 l91 l92) ∧ ∀ w97, IsSet w96 (Addr.add d4 1) (.slice o90 l91 l92) w97 →
 CanSet w97 (Addr.add d4 2) (.slice o93 l94 l95) ∧ ∀ w98, IsSet w97 (Addr.add d4 2) (.slice o93 l94 l95) w98 →
 I8 (subO o9 c9 (Int.toNat ((l25 : Nat) : Int)) 1) (l9 - (Int.toNat ((l25 : Nat) : Int))) (c9 - (Int.toNat ((l25 : Nat) : Int))) w98 ∧ μ8 (subO o9 c9 (Int.toNat ((l25 : Nat) : Int)) 1) (l9 - (Int.toNat ((l25 : Nat) : Int))) (c9 - (Int.toNat ((l25 : Nat) : Int))) w98 < μ8 o9 l9 c9 w10)))))))))))) ∧
 ((((l13 : Nat) : Int) ≠ 2 →
 (((((l9 : Nat) : Int) = 0 →
 ∃ o99 l100 l101, World.cell? w10 (Addr.add d4 2) = some (.slice o99 l100 l101) ∧
 ∃ d102, o99 = some d102 ∧
 ((0 : Int) ≤ 16 ∧ 16 < ((l100 : Nat) : Int)) ∧
 ∃ o103 l104 l105, World.cell? w10 (Addr.add (Addr.add d102 48) 1) = some (.slice o103 l104 l105) ∧
 CanSet w10 d6 (.bool false) ∧ ∀ w106, IsSet w10 d6 (.bool false) w106 →
 CanSet w106 (Addr.add d6 1) (.slice none 0 0) ∧ ∀ w107, IsSet w106 (Addr.add d6 1) (.slice none 0 0) w107 →
 CanSet w107 (Addr.add d6 2) (.slice none 0 0) ∧ ∀ w108, IsSet w107 (Addr.add d6 2) (.slice none 0 0) w108 →
 ∃ b109 o110 l111 l112 o113 l114 l115, World.cell? w108 d6 = some (.bool b109) ∧
 World.cell? w108 (Addr.add d6 1) = some (.slice o110 l111 l112) ∧
 World.cell? w108 (Addr.add d6 2) = some (.slice o113 l114 l115) ∧
 R (.returned (.tuple #[(.slice o103 l104 l105), (.slice none 0 0), (.agg #[(.bool b109), (.slice o110 l111 l112), (.slice o113 l114 l115)])])) w108)) ∧
 ((((l9 : Nat) : Int) ≠ 0 →
 ∃ d116, o9 = some d116 ∧
 ((0 : Int) ≤ 0 ∧ 0 < ((l9 : Nat) : Int)) ∧
 ∃ n117, World.cell? w10 (Addr.add d116 0) = some (.int .u8 n117) ∧
 1 ≤ l9 ∧
 ∃ o118 l119 l120, World.cell? w10 (Addr.add d4 2) = some (.slice o118 l119 l120) ∧
 ∃ d121, o118 = some d121 ∧
 ((0 : Int) ≤ n117 ∧ n117 < ((l119 : Nat) : Int)) ∧
 ∃ b122 o123 l124 l125 o126 l127 l128, World.cell? w10 (Addr.add d121 ((Int.toNat n117) * 3)) = some (.bool b122) ∧
 World.cell? w10 (Addr.add (Addr.add d121 ((Int.toNat n117) * 3)) 1) = some (.slice o123 l124 l125) ∧
 World.cell? w10 (Addr.add (Addr.add d121 ((Int.toNat n117) * 3)) 2) = some (.slice o126 l127 l128) ∧
 CanSet w10 d4 (.bool b122) ∧ ∀ w129, IsSet w10 d4 (.bool b122) w129 →
 CanSet w129 (Addr.add d4 1) (.slice o123 l124 l125) ∧ ∀ w130, IsSet w129 (Addr.add d4 1) (.slice o123 l124 l125) w130 →
 CanSet w130 (Addr.add d4 2) (.slice o126 l127 l128) ∧ ∀ w131, IsSet w130 (Addr.add d4 2) (.slice o126 l127 l128) w131 →
 I8 (subO o9 c9 1 1) (l9 - 1) (c9 - 1) w131 ∧ μ8 (subO o9 c9 1 1) (l9 - 1) (c9 - 1) w131 < μ8 o9 l9 c9 w10)))))))) ∧
 ((b11 = false →
 ∀ w132, IsDrew w10 w132 →
 ∃ b133 o134 l135 l136 o137 l138 l139, World.cell? w132 d4 = some (.bool b133) ∧
 World.cell? w132 (Addr.add d4 1) = some (.slice o134 l135 l136) ∧
 World.cell? w132 (Addr.add d4 2) = some (.slice o137 l138 l139) ∧
 CanSet w132 d6 (.bool b133) ∧ ∀ w140, IsSet w132 d6 (.bool b133) w140 →
 CanSet w140 (Addr.add d6 1) (.slice o134 l135 l136) ∧ ∀ w141, IsSet w140 (Addr.add d6 1) (.slice o134 l135 l136) w141 →
 CanSet w141 (Addr.add d6 2) (.slice o137 l138 l139) ∧ ∀ w142, IsSet w141 (Addr.add d6 2) (.slice o137 l138 l139) w142 →
 ∃ b143 o144 l145 l146 o147 l148 l149, World.cell? w142 d6 = some (.bool b143) ∧
 World.cell? w142 (Addr.add d6 1) = some (.slice o144 l145 l146) ∧
 World.cell? w142 (Addr.add d6 2) = some (.slice o147 l148 l149) ∧
 R (.returned (.tuple #[(.slice none 0 0), (.slice o9 l9 c9), (.agg #[(.bool b143), (.slice o144 l145 l146), (.slice o147 l148 l149)])])) w142))))
theorem moraineref14_Down.vc (b0 o1 l1 c1 o2 l2 c2 o3 l3 c3 w R) (h : moraineref14_Down.Vc b0 o1 l1 c1 o2 l2 c2 o3 l3 c3 w R) : Calls Try.prog 85 #[(.agg #[(.bool b0), (.slice o1 l1 c1), (.slice o2 l2 c2)]), (.slice o3 l3 c3)] w R := xs [(1, [(1, .cell (.slice))])] [.agg [.bool (.var b0), .slice o1 l1 c1, .slice o2 l2 c2], .slice o3 l3 c3] Try.func85 mixed (by kernel_rfl) h

abbrev moraineref14_find.n : Nat := 114
def moraineref14_find.Vc (o0 : Option Addr) (l0 c0 : Nat) (L1 : Array Value) (w : World) (R : Ending → World → Prop) : Prop :=
 ∀ d2 w3, IsNew w 26 L1 d2 w3 →
 ∃ (I4 : Int → World → Prop) (μ4 : Int → World → Nat), I4 0 w3 ∧
 (∀ (n5 : Int) (j6 : Nat → Value) (w6 : World), I4 n5 w6 →
 (((n5 < ((l0 : Nat) : Int) →
 ∀ w7, IsDrew w6 w7 →
 ∃ d8, o0 = some d8 ∧
 ((0 : Int) ≤ n5 ∧ n5 < ((l0 : Nat) : Int)) ∧
 ∃ L9, RowAt w7 (Addr.add d8 ((Int.toNat n5) * 33)) 32 L9 ∧
 ∃ L10, RowAt w7 d2 32 L10 ∧
 ∃ v11, Sem.run Try.prog (semBin .eql 26 (.tmp 17) (.tmp 18) (.agg L9) (.agg L10)) w7 = .ok v11 w7 ∧
 ∃ b12, v11 = (.bool b12) ∧
 (((b12 = true →
 ∃ d13, o0 = some d13 ∧
 ((0 : Int) ≤ n5 ∧ n5 < ((l0 : Nat) : Int)) ∧
 ∃ o14 l15 l16, World.cell? w7 (Addr.add (Addr.add d13 ((Int.toNat n5) * 33)) 32) = some (.slice o14 l15 l16) ∧
 R (.returned (.tuple #[(.slice o14 l15 l16), (.bool true)])) w7)) ∧
 ((b12 = false →
 I4 (IntKind.wrap .i64 (n5 + 1)) w7 ∧ μ4 (IntKind.wrap .i64 (n5 + 1)) w7 < μ4 n5 w6))))) ∧
 ((¬ n5 < ((l0 : Nat) : Int) →
 R (.returned (.tuple #[(.slice none 0 0), (.bool false)])) w6))))
theorem moraineref14_find.vc (o0 l0 c0 L1 w R) (h : moraineref14_find.Vc o0 l0 c0 L1 w R) : Calls Try.prog 114 #[(.slice o0 l0 c0), (.agg L1)] w R := xs [(2, [(6, .cell (.int .i64))])] [.slice o0 l0 c0, .big 32 L1] Try.func114 mixed (by kernel_rfl) h

abbrev moraineref16_Prove.n : Nat := 31
def moraineref16_Prove.Vc (o0 : Option Addr) (l0 c0 : Nat) (L1 : Array Value) (o2 : Option Addr) (l2 c2 : Nat) (w : World) (R : Ending → World → Prop) : Prop :=
 ∀ d3 w4, IsNew w 26 L1 d3 w4 →
 (((((l0 : Nat) : Int) > 4096 →
 R (.returned (.tuple #[(.slice none 0 0), (.int .i64 162)])) w4)) ∧
 ((¬ ((l0 : Nat) : Int) > 4096 →
 ∃ L5, RowAt w4 d3 32 L5 ∧
 Calls Try.prog 79 #[(.slice o0 l0 c0), (.agg L5), (.slice o2 l2 c2)] w4 (fun e6 w7 =>
 ∃ o8 l9 l10 b11 o12 l13 l14 n15, e6 = .returned (.tuple #[(.slice o8 l9 l10), (.bool b11), (.slice o12 l13 l14), (.int .i64 n15)]) ∧
 (((n15 = 142 →
 R (.returned (.tuple #[(.slice none 0 0), (.int .i64 160)])) w7)) ∧
 ((n15 ≠ 142 →
 (((n15 = 143 →
 R (.returned (.tuple #[(.slice none 0 0), (.int .i64 161)])) w7)) ∧
 ((n15 ≠ 143 →
 (((n15 ≠ 0 →
 R (.returned (.tuple #[(.slice none 0 0), (.int .i64 n15)])) w7)) ∧
 ((n15 = 0 →
 R (.returned (.tuple #[(.slice o12 l13 l14), (.int .i64 0)])) w7)))))))))))))
theorem moraineref16_Prove.vc (o0 l0 c0 L1 o2 l2 c2 w R) (h : moraineref16_Prove.Vc o0 l0 c0 L1 o2 l2 c2 w R) : Calls Try.prog 31 #[(.slice o0 l0 c0), (.agg L1), (.slice o2 l2 c2)] w R := xs [] [.slice o0 l0 c0, .big 32 L1, .slice o2 l2 c2] Try.func31 mixed (by kernel_rfl) h


abbrev morainehelp_Lists.n : Nat := 32
def morainehelp_Lists.Vc (o0 : Option Addr) (l0 c0 : Nat) (o1 : Option Addr) (l1 c1 : Nat) (w : World) (R : Ending → World → Prop) : Prop :=
 (((((l0 : Nat) : Int) ≠ ((l1 : Nat) : Int) →
 R (.returned (.bool false)) w)) ∧
 ((((l0 : Nat) : Int) = ((l1 : Nat) : Int) →
 ∃ (I2 : Int → World → Prop) (μ2 : Int → World → Nat), I2 0 w ∧
 (∀ (n3 : Int) (j4 : Nat → Value) (w4 : World), I2 n3 w4 →
 (((n3 < ((l0 : Nat) : Int) →
 ∀ w5, IsDrew w4 w5 →
 ∃ d6, o0 = some d6 ∧
 ((0 : Int) ≤ n3 ∧ n3 < ((l0 : Nat) : Int)) ∧
 ∃ o7 l8 l9, World.cell? w5 (Addr.add d6 (Int.toNat n3)) = some (.slice o7 l8 l9) ∧
 ∃ v10, Sem.run Try.prog (convert 22 9 (.slice o7 l8 l9)) w5 = .ok v10 w5 ∧
 ∃ s11, v10 = (.string s11) ∧
 ∃ d12, o1 = some d12 ∧
 ((0 : Int) ≤ n3 ∧ n3 < ((l1 : Nat) : Int)) ∧
 ∃ o13 l14 l15, World.cell? w5 (Addr.add d12 (Int.toNat n3)) = some (.slice o13 l14 l15) ∧
 ∃ v16, Sem.run Try.prog (convert 22 9 (.slice o13 l14 l15)) w5 = .ok v16 w5 ∧
 ∃ s17, v16 = (.string s17) ∧
 (((strB .neq s11 s17 = true →
 R (.returned (.bool false)) w5)) ∧
 ((strB .neq s11 s17 = false →
 I2 (IntKind.wrap .i64 (n3 + 1)) w5 ∧ μ2 (IntKind.wrap .i64 (n3 + 1)) w5 < μ2 n3 w4))))) ∧
 ((¬ n3 < ((l0 : Nat) : Int) →
 R (.returned (.bool true)) w4)))))))
theorem morainehelp_Lists.vc (o0 l0 c0 o1 l1 c1 w R) (h : morainehelp_Lists.Vc o0 l0 c0 o1 l1 c1 w R) : Calls Try.prog 32 #[(.slice o0 l0 c0), (.slice o1 l1 c1)] w R := xs [(4, [(5, .cell (.int .i64))])] [.slice o0 l0 c0, .slice o1 l1 c1] Try.func32 mixed (by kernel_rfl) h


end Go.Proofs.Ytfghidehlnfdiaa
end
section
namespace Go.Proofs.Ytfghidehlnfdiaa
open Go Go.Vcg
abbrev morainelaw16_known.n : Nat := 25
def morainelaw16_known.Vc  (w : World) (R : Ending → World → Prop) : Prop :=
 ∀ d0 w1, IsNew w 5 #[(.int .u8 97)] d0 w1 →
 ∃ v2 w3, Sem.run Try.prog (convert 22 22 (.slice (some d0) 1 1)) w1 = .ok v2 w3 ∧
 ∃ o4 l5 l6, v2 = (.slice o4 l5 l6) ∧
 ∀ d7 w8, IsNew w3 5 #[(.int .u8 49)] d7 w8 →
 ∃ v9 w10, Sem.run Try.prog (convert 22 22 (.slice (some d7) 1 1)) w8 = .ok v9 w10 ∧
 ∃ o11 l12 l13, v9 = (.slice o11 l12 l13) ∧
 ∀ d14 w15, IsNew w10 93 #[(.slice o4 l5 l6), (.slice o11 l12 l13)] d14 w15 →
 Calls Try.prog 27 #[(.slice (some d14) 1 1)] w15 (fun e16 w17 =>
 ∃ L18 o19 l20 l21, e16 = .returned (.tuple #[(.agg L18), (.slice o19 l20 l21)]) ∧
 ∀ d22 w23, IsNew w17 26 (Array.replicate 32 (.int .u8 0)) d22 w23 →
 ∃ w24, Sem.run Try.prog (Instr.storeAt 26 (.pointer (some d22)) (.agg L18)) w23 = .ok () w24 ∧
 ∀ w25, IsDrew w24 w25 →
 ∃ L26, RowAt w25 d22 32 L26 ∧
 ((Calls Try.prog 29 #[(.slice o19 l20 l21)] w25 (fun e27 w28 =>
 ∃ o29 l30 l31, e27 = .returned (.slice o29 l30 l31) ∧
 RowAt w28 d22 32 L26 ∧
 ∀ d32 w33, IsNew w28 5 #[(.int .u8 97)] d32 w33 →
 RowAt w33 d22 32 L26 ∧
 ∃ v34 w35, Sem.run Try.prog (convert 22 22 (.slice (some d32) 1 1)) w33 = .ok v34 w35 ∧
 ∃ o36 l37 l38, v34 = (.slice o36 l37 l38) ∧
 RowAt w35 d22 32 L26 ∧
 Calls Try.prog 30 #[(.slice o29 l30 l31), (.agg L26), (.slice o36 l37 l38)] w35 (fun e39 w40 =>
 ∃ o41 l42 l43 n44, e39 = .returned (.tuple #[(.slice o41 l42 l43), (.int .i64 n44)]) ∧
 ∃ L45, RowAt w40 d22 32 L45 ∧
 ∀ d46 w47, IsNew w40 5 #[(.int .u8 97)] d46 w47 →
 ∃ v48 w49, Sem.run Try.prog (convert 22 22 (.slice (some d46) 1 1)) w47 = .ok v48 w49 ∧
 ∃ o50 l51 l52, v48 = (.slice o50 l51 l52) ∧
 Calls Try.prog 34 #[(.agg L45), (.slice o50 l51 l52), (.slice o41 l42 l43)] w49 (fun e53 w54 =>
 ∃ o55 l56 l57 b58 n59, e53 = .returned (.tuple #[(.slice o55 l56 l57), (.bool b58), (.int .i64 n59)]) ∧
 ∃ L60, RowAt w54 d22 32 L60 ∧
 ∀ d61 w62, IsNew w54 5 #[(.int .u8 98)] d61 w62 →
 ∃ v63 w64, Sem.run Try.prog (convert 22 22 (.slice (some d61) 1 1)) w62 = .ok v63 w64 ∧
 ∃ o65 l66 l67, v63 = (.slice o65 l66 l67) ∧
 Calls Try.prog 34 #[(.agg L60), (.slice o65 l66 l67), (.slice o41 l42 l43)] w64 (fun e68 w69 =>
 ∃ o70 l71 l72 b73 n74, e68 = .returned (.tuple #[(.slice o70 l71 l72), (.bool b73), (.int .i64 n74)]) ∧
 (((n44 = 0 →
 (((n59 = 0 →
 (((n74 = 0 →
 (((b58 = true →
 (((b73 = false →
 (((((l42 : Nat) : Int) = 1 →
 ∃ v75, Sem.run Try.prog (convert 22 9 (.slice o55 l56 l57)) w69 = .ok v75 w69 ∧
 ∃ s76, v75 = (.string s76) ∧
 R (.returned (.bool (strB .eql s76 ⟨#[49]⟩))) w69)) ∧
 ((((l42 : Nat) : Int) ≠ 1 →
 R (.returned (.bool false)) w69))))) ∧
 ((b73 = true →
 R (.returned (.bool false)) w69))))) ∧
 ((b58 = false →
 R (.returned (.bool false)) w69))))) ∧
 ((n74 ≠ 0 →
 R (.returned (.bool false)) w69))))) ∧
 ((n59 ≠ 0 →
 R (.returned (.bool false)) w69))))) ∧
 ((n44 ≠ 0 →
 R (.returned (.bool false)) w69)))))))) ∧
 (∀ d77 w78, IsNew w25 5 #[(.int .u8 97)] d77 w78 →
 RowAt w78 d22 32 L26 ∧
 ((Calls Try.prog 29 #[(.slice o19 l20 l21)] w78 (fun e79 w80 =>
 ∃ o81 l82 l83, e79 = .returned (.slice o81 l82 l83) ∧
 RowAt w80 d22 32 L26 ∧
 ∃ v84 w85, Sem.run Try.prog (convert 22 22 (.slice (some d77) 1 1)) w80 = .ok v84 w85 ∧
 ∃ o86 l87 l88, v84 = (.slice o86 l87 l88) ∧
 RowAt w85 d22 32 L26 ∧
 Calls Try.prog 30 #[(.slice o81 l82 l83), (.agg L26), (.slice o86 l87 l88)] w85 (fun e89 w90 =>
 ∃ o91 l92 l93 n94, e89 = .returned (.tuple #[(.slice o91 l92 l93), (.int .i64 n94)]) ∧
 ∃ L95, RowAt w90 d22 32 L95 ∧
 ∀ d96 w97, IsNew w90 5 #[(.int .u8 97)] d96 w97 →
 ∃ v98 w99, Sem.run Try.prog (convert 22 22 (.slice (some d96) 1 1)) w97 = .ok v98 w99 ∧
 ∃ o100 l101 l102, v98 = (.slice o100 l101 l102) ∧
 Calls Try.prog 34 #[(.agg L95), (.slice o100 l101 l102), (.slice o91 l92 l93)] w99 (fun e103 w104 =>
 ∃ o105 l106 l107 b108 n109, e103 = .returned (.tuple #[(.slice o105 l106 l107), (.bool b108), (.int .i64 n109)]) ∧
 ∃ L110, RowAt w104 d22 32 L110 ∧
 ∀ d111 w112, IsNew w104 5 #[(.int .u8 98)] d111 w112 →
 ∃ v113 w114, Sem.run Try.prog (convert 22 22 (.slice (some d111) 1 1)) w112 = .ok v113 w114 ∧
 ∃ o115 l116 l117, v113 = (.slice o115 l116 l117) ∧
 Calls Try.prog 34 #[(.agg L110), (.slice o115 l116 l117), (.slice o91 l92 l93)] w114 (fun e118 w119 =>
 ∃ o120 l121 l122 b123 n124, e118 = .returned (.tuple #[(.slice o120 l121 l122), (.bool b123), (.int .i64 n124)]) ∧
 (((n94 = 0 →
 (((n109 = 0 →
 (((n124 = 0 →
 (((b108 = true →
 (((b123 = false →
 (((((l92 : Nat) : Int) = 1 →
 ∃ v125, Sem.run Try.prog (convert 22 9 (.slice o105 l106 l107)) w119 = .ok v125 w119 ∧
 ∃ s126, v125 = (.string s126) ∧
 R (.returned (.bool (strB .eql s126 ⟨#[49]⟩))) w119)) ∧
 ((((l92 : Nat) : Int) ≠ 1 →
 R (.returned (.bool false)) w119))))) ∧
 ((b123 = true →
 R (.returned (.bool false)) w119))))) ∧
 ((b108 = false →
 R (.returned (.bool false)) w119))))) ∧
 ((n124 ≠ 0 →
 R (.returned (.bool false)) w119))))) ∧
 ((n109 ≠ 0 →
 R (.returned (.bool false)) w119))))) ∧
 ((n94 ≠ 0 →
 R (.returned (.bool false)) w119)))))))) ∧
 (∃ v127 w128, Sem.run Try.prog (convert 22 22 (.slice (some d77) 1 1)) w78 = .ok v127 w128 ∧
 ∃ o129 l130 l131, v127 = (.slice o129 l130 l131) ∧
 RowAt w128 d22 32 L26 ∧
 Calls Try.prog 29 #[(.slice o19 l20 l21)] w128 (fun e132 w133 =>
 ∃ o134 l135 l136, e132 = .returned (.slice o134 l135 l136) ∧
 RowAt w133 d22 32 L26 ∧
 Calls Try.prog 30 #[(.slice o134 l135 l136), (.agg L26), (.slice o129 l130 l131)] w133 (fun e137 w138 =>
 ∃ o139 l140 l141 n142, e137 = .returned (.tuple #[(.slice o139 l140 l141), (.int .i64 n142)]) ∧
 ∃ L143, RowAt w138 d22 32 L143 ∧
 ∀ d144 w145, IsNew w138 5 #[(.int .u8 97)] d144 w145 →
 ∃ v146 w147, Sem.run Try.prog (convert 22 22 (.slice (some d144) 1 1)) w145 = .ok v146 w147 ∧
 ∃ o148 l149 l150, v146 = (.slice o148 l149 l150) ∧
 Calls Try.prog 34 #[(.agg L143), (.slice o148 l149 l150), (.slice o139 l140 l141)] w147 (fun e151 w152 =>
 ∃ o153 l154 l155 b156 n157, e151 = .returned (.tuple #[(.slice o153 l154 l155), (.bool b156), (.int .i64 n157)]) ∧
 ∃ L158, RowAt w152 d22 32 L158 ∧
 ∀ d159 w160, IsNew w152 5 #[(.int .u8 98)] d159 w160 →
 ∃ v161 w162, Sem.run Try.prog (convert 22 22 (.slice (some d159) 1 1)) w160 = .ok v161 w162 ∧
 ∃ o163 l164 l165, v161 = (.slice o163 l164 l165) ∧
 Calls Try.prog 34 #[(.agg L158), (.slice o163 l164 l165), (.slice o139 l140 l141)] w162 (fun e166 w167 =>
 ∃ o168 l169 l170 b171 n172, e166 = .returned (.tuple #[(.slice o168 l169 l170), (.bool b171), (.int .i64 n172)]) ∧
 (((n142 = 0 →
 (((n157 = 0 →
 (((n172 = 0 →
 (((b156 = true →
 (((b171 = false →
 (((((l140 : Nat) : Int) = 1 →
 ∃ v173, Sem.run Try.prog (convert 22 9 (.slice o153 l154 l155)) w167 = .ok v173 w167 ∧
 ∃ s174, v173 = (.string s174) ∧
 R (.returned (.bool (strB .eql s174 ⟨#[49]⟩))) w167)) ∧
 ((((l140 : Nat) : Int) ≠ 1 →
 R (.returned (.bool false)) w167))))) ∧
 ((b171 = true →
 R (.returned (.bool false)) w167))))) ∧
 ((b156 = false →
 R (.returned (.bool false)) w167))))) ∧
 ((n172 ≠ 0 →
 R (.returned (.bool false)) w167))))) ∧
 ((n157 ≠ 0 →
 R (.returned (.bool false)) w167))))) ∧
 ((n142 ≠ 0 →
 R (.returned (.bool false)) w167))))))))))))
theorem morainelaw16_known.vc  (w : World) (R : Ending → World → Prop) (h : morainelaw16_known.Vc w R) : Calls Try.prog 25 #[] w R :=
 execF_sound (R := ⟨R, false⟩) (ann := []) (args := []) Try.func25 mixed (Eq.mp (by kernel_rfl : morainelaw16_known.Vc w R = execF (pA Try.prog ⟨R, false⟩) Try.prog [] Try.f25 [] w) h)

abbrev morainelaw16_few.n : Nat := 26
def morainelaw16_few.Vc (o0 : Option Addr) (l0 c0 : Nat) (w : World) (R : Ending → World → Prop) : Prop :=
 (((((l0 : Nat) : Int) > 40 →
 R (.returned (.bool false)) w)) ∧
 ((¬ ((l0 : Nat) : Int) > 40 →
 ∃ (I1 : Int → World → Prop) (μ1 : Int → World → Nat), I1 0 w ∧
 (∀ (n2 : Int) (j3 : Nat → Value) (w3 : World), I1 n2 w3 →
 (((n2 < ((l0 : Nat) : Int) →
 ∀ w4, IsDrew w3 w4 →
 ∃ d5, o0 = some d5 ∧
 ((0 : Int) ≤ n2 ∧ n2 < ((l0 : Nat) : Int)) ∧
 ∃ o6 l7 l8, World.cell? w4 (Addr.add d5 ((Int.toNat n2) * 2)) = some (.slice o6 l7 l8) ∧
 (((((l7 : Nat) : Int) > 64 →
 R (.returned (.bool false)) w4)) ∧
 ((¬ ((l7 : Nat) : Int) > 64 →
 ∃ d9, o0 = some d9 ∧
 ((0 : Int) ≤ n2 ∧ n2 < ((l0 : Nat) : Int)) ∧
 ∃ o10 l11 l12, World.cell? w4 (Addr.add (Addr.add d9 ((Int.toNat n2) * 2)) 1) = some (.slice o10 l11 l12) ∧
 (((((l11 : Nat) : Int) < 1 →
 R (.returned (.bool false)) w4)) ∧
 ((¬ ((l11 : Nat) : Int) < 1 →
 ∃ d13, o0 = some d13 ∧
 ((0 : Int) ≤ n2 ∧ n2 < ((l0 : Nat) : Int)) ∧
 ∃ o14 l15 l16, World.cell? w4 (Addr.add (Addr.add d13 ((Int.toNat n2) * 2)) 1) = some (.slice o14 l15 l16) ∧
 (((((l15 : Nat) : Int) > 300 →
 R (.returned (.bool false)) w4)) ∧
 ((¬ ((l15 : Nat) : Int) > 300 →
 (((n2 > 0 →
 ∃ d17, o0 = some d17 ∧
 ((0 : Int) ≤ (IntKind.wrap .i64 (n2 - 1)) ∧ (IntKind.wrap .i64 (n2 - 1)) < ((l0 : Nat) : Int)) ∧
 ∃ o18 l19 l20, World.cell? w4 (Addr.add d17 ((Int.toNat (IntKind.wrap .i64 (n2 - 1))) * 2)) = some (.slice o18 l19 l20) ∧
 ∃ d21, o0 = some d21 ∧
 ((0 : Int) ≤ n2 ∧ n2 < ((l0 : Nat) : Int)) ∧
 ∃ o22 l23 l24, World.cell? w4 (Addr.add d21 ((Int.toNat n2) * 2)) = some (.slice o22 l23 l24) ∧
 Calls Try.prog 70 #[(.slice o18 l19 l20), (.slice o22 l23 l24)] w4 (fun e25 w26 =>
 ∃ n27, e25 = .returned (.int .i64 n27) ∧
 (((n27 ≥ 0 →
 R (.returned (.bool false)) w26)) ∧
 ((¬ n27 ≥ 0 →
 I1 (IntKind.wrap .i64 (n2 + 1)) w26 ∧ μ1 (IntKind.wrap .i64 (n2 + 1)) w26 < μ1 n2 w3)))))) ∧
 ((¬ n2 > 0 →
 I1 (IntKind.wrap .i64 (n2 + 1)) w4 ∧ μ1 (IntKind.wrap .i64 (n2 + 1)) w4 < μ1 n2 w3)))))))))))))) ∧
 ((¬ n2 < ((l0 : Nat) : Int) →
 R (.returned (.bool true)) w3)))))))
theorem morainelaw16_few.vc (o0 l0 c0 w R) (h : morainelaw16_few.Vc o0 l0 c0 w R) : Calls Try.prog 26 #[(.slice o0 l0 c0)] w R := xs [(4, [(3, .cell (.int .i64))])] [.slice o0 l0 c0] Try.func26 mixed (by kernel_rfl) h

abbrev morainelaw16_turned.n : Nat := 28
def morainelaw16_turned.Vc (o0 : Option Addr) (l0 c0 : Nat) (n1 : Int) (o2 : Option Addr) (l2 c2 : Nat) (w : World) (R : Ending → World → Prop) : Prop :=
 (((n1 < 0 →
 R (.returned (.slice o0 l0 c0)) w)) ∧
 ((¬ n1 < 0 →
 (((n1 ≥ ((l0 : Nat) : Int) →
 R (.returned (.slice o0 l0 c0)) w)) ∧
 ((¬ n1 ≥ ((l0 : Nat) : Int) →
 ∃ v3 w4, Sem.run Try.prog (builtinV .append #[49, 49] 49 #[(.slice none 0 0), (.slice o0 l0 c0)]) w = .ok v3 w4 ∧
 ∃ o5 l6 l7, v3 = (.slice o5 l6 l7) ∧
 (((((l2 : Nat) : Int) = 0 →
 ∀ w8, IsDrew w4 w8 →
 ∃ v9, Sem.run Try.prog (Instr.sliceAt 49 (.slice o5 l6 l7) none (some (.int .i64 n1)) (some (.int .i64 n1))) w8 = .ok v9 w8 ∧
 ∃ o10 l11 l12, v9 = (.slice o10 l11 l12) ∧
 ((0 : Int) ≤ (IntKind.wrap .i64 (n1 + 1)) ∧ (IntKind.wrap .i64 (n1 + 1)) ≤ ((l6 : Nat) : Int)) ∧
 ∃ v13 w14, Sem.run Try.prog (builtinV .append #[49, 49] 49 #[(.slice o10 l11 l12), (.slice (subO o5 l7 (Int.toNat (IntKind.wrap .i64 (n1 + 1))) 33) (l6 - (Int.toNat (IntKind.wrap .i64 (n1 + 1)))) (l7 - (Int.toNat (IntKind.wrap .i64 (n1 + 1)))))]) w8 = .ok v13 w14 ∧
 ∃ o15 l16 l17, v13 = (.slice o15 l16 l17) ∧
 R (.returned (.slice o15 l16 l17)) w14)) ∧
 ((((l2 : Nat) : Int) ≠ 0 →
 ∃ d18, o5 = some d18 ∧
 ((0 : Int) ≤ n1 ∧ n1 < ((l6 : Nat) : Int)) ∧
 CanSet w4 (Addr.add (Addr.add d18 ((Int.toNat n1) * 33)) 32) (.slice o2 l2 c2) ∧ ∀ w19, IsSet w4 (Addr.add (Addr.add d18 ((Int.toNat n1) * 33)) 32) (.slice o2 l2 c2) w19 →
 R (.returned (.slice o5 l6 l7)) w19)))))))))
theorem morainelaw16_turned.vc (o0 l0 c0 n1 o2 l2 c2 w R) (h : morainelaw16_turned.Vc o0 l0 c0 n1 o2 l2 c2 w R) : Calls Try.prog 28 #[(.slice o0 l0 c0), (.int .i64 n1), (.slice o2 l2 c2)] w R := xs [] [.slice o0 l0 c0, .int .i64 n1, .slice o2 l2 c2] Try.func28 mixed (by kernel_rfl) h

abbrev morainelaw16_ProofMakes.n : Nat := 7
def morainelaw16_ProofMakes.Vc (o0 : Option Addr) (l0 c0 : Nat) (n1 : Int) (o2 : Option Addr) (l2 c2 : Nat) (o3 : Option Addr) (l3 c3 : Nat) (w : World) (R : Ending → World → Prop) : Prop :=
 Calls Try.prog 25 #[] w (fun e4 w5 =>
 ∃ b6, e4 = .returned (.bool b6) ∧
 (((b6 = false →
 R (.returned (.bool false)) w5)) ∧
 ((b6 = true →
 Calls Try.prog 26 #[(.slice o0 l0 c0)] w5 (fun e7 w8 =>
 ∃ b9, e7 = .returned (.bool b9) ∧
 (((b9 = false →
 R (.returned (.bool true)) w8)) ∧
 ((b9 = true →
 (((((l2 : Nat) : Int) > 300 →
 R (.returned (.bool true)) w8)) ∧
 ((¬ ((l2 : Nat) : Int) > 300 →
 Calls Try.prog 27 #[(.slice o0 l0 c0)] w8 (fun e10 w11 =>
 ∃ L12 o13 l14 l15, e10 = .returned (.tuple #[(.agg L12), (.slice o13 l14 l15)]) ∧
 ∀ d16 w17, IsNew w11 26 (Array.replicate 32 (.int .u8 0)) d16 w17 →
 ∃ w18, Sem.run Try.prog (Instr.storeAt 26 (.pointer (some d16)) (.agg L12)) w17 = .ok () w18 ∧
 Calls Try.prog 29 #[(.slice o13 l14 l15)] w18 (fun e19 w20 =>
 ∃ o21 l22 l23, e19 = .returned (.slice o21 l22 l23) ∧
 Calls Try.prog 28 #[(.slice o21 l22 l23), (.int .i64 n1), (.slice o2 l2 c2)] w20 (fun e24 w25 =>
 ∃ o26 l27 l28, e24 = .returned (.slice o26 l27 l28) ∧
 ∃ L29, RowAt w25 d16 32 L29 ∧
 Calls Try.prog 30 #[(.slice o26 l27 l28), (.agg L29), (.slice o3 l3 c3)] w25 (fun e30 w31 =>
 ∃ o32 l33 l34 n35, e30 = .returned (.tuple #[(.slice o32 l33 l34), (.int .i64 n35)]) ∧
 ∃ L36, RowAt w31 d16 32 L36 ∧
 Calls Try.prog 31 #[(.slice o26 l27 l28), (.agg L36), (.slice o3 l3 c3)] w31 (fun e37 w38 =>
 ∃ o39 l40 l41 n42, e37 = .returned (.tuple #[(.slice o39 l40 l41), (.int .i64 n42)]) ∧
 (((n35 = n42 →
 Calls Try.prog 32 #[(.slice o32 l33 l34), (.slice o39 l40 l41)] w38 (fun e43 w44 =>
 ∃ b45, e43 = .returned (.bool b45) ∧
 R (.returned (.bool b45)) w44))) ∧
 ((n35 ≠ n42 →
 R (.returned (.bool false)) w38)))))))))))))))))))
theorem morainelaw16_ProofMakes.vc (o0 l0 c0 n1 o2 l2 c2 o3 l3 c3 w R) (h : morainelaw16_ProofMakes.Vc o0 l0 c0 n1 o2 l2 c2 o3 l3 c3 w R) : Calls Try.prog 7 #[(.slice o0 l0 c0), (.int .i64 n1), (.slice o2 l2 c2), (.slice o3 l3 c3)] w R := xs [] [.slice o0 l0 c0, .int .i64 n1, .slice o2 l2 c2, .slice o3 l3 c3] Try.func7 mixed (by kernel_rfl) h



end Go.Proofs.Ytfghidehlnfdiaa
end
section
namespace Go.Proofs.Ytfghidehlnfdiaa
open Go Go.Vcg Go.Trie
section
variable {D : Nat} {t : TypeId} {w : World}
theorem set4 {a b c d v1 v2 v3 v4 : Value} {R' : World → Prop} (X : Blk w D t #[a, b, c, d]) (h1 : v1.oneCell' = true) (h2 : v2.oneCell' = true) (h3 : v3.oneCell' = true) (h4 : v4.oneCell' = true) (K : ∀ w', Blk w' D t #[v1, v2, v3, v4] → Vcg.Mod (· = D) w w' → R' w') :
    CanSet w ⟨D, 0, none⟩ v1 ∧ ∀ w1 : World, IsSet w ⟨D, 0, none⟩ v1 w1 → CanSet w1 (Addr.add ⟨D, 0, none⟩ 1) v2 ∧ ∀ w2 : World, IsSet w1 (Addr.add ⟨D, 0, none⟩ 1) v2 w2 → CanSet w2 (Addr.add ⟨D, 0, none⟩ 2) v3 ∧ ∀ w3 : World, IsSet w2 (Addr.add ⟨D, 0, none⟩ 2) v3 w3 →
      CanSet w3 (Addr.add ⟨D, 0, none⟩ 3) v4 ∧ ∀ w4 : World, IsSet w3 (Addr.add ⟨D, 0, none⟩ 3) v4 w4 → R' w4 := by
  refine ⟨X.canSet (by simp) h1, ?_⟩
  rintro _ rfl
  have X1 := X.set 0 v1
  have Q1 : Vcg.Mod (· = D) w _ := Mod.setCell w ⟨D, 0, none⟩ v1
  rw [add_at, Nat.zero_add]
  refine ⟨X1.canSet (by simp) h2, ?_⟩
  rintro _ rfl
  have X2 := X1.set 1 v2
  have Q2 := Q1.step_set (a := ⟨D, 1, none⟩) (v := v2) (fun _ => rfl)
  rw [add_at, Nat.zero_add]
  refine ⟨X2.canSet (by simp) h3, ?_⟩
  rintro _ rfl
  have X3 := X2.set 2 v3
  have Q3 := Q2.step_set (a := ⟨D, 2, none⟩) (v := v3) (fun _ => rfl)
  rw [add_at, Nat.zero_add]
  refine ⟨X3.canSet (by simp) h4, ?_⟩
  rintro _ rfl
  have X4 := X3.set 3 v4
  have Q4 := Q3.step_set (a := ⟨D, 3, none⟩) (v := v4) (fun _ => rfl)
  exact K _ X4 Q4
theorem get4 {b : Bool} {o1 o2 o3 : Option Addr} {l1 k1 l2 k2 l3 k3 : Nat} {R' : Bool → Option Addr → Nat → Nat → Option Addr → Nat → Nat → Option Addr → Nat → Nat → Prop} (X : Blk w D t #[.bool b, .slice o1 l1 k1, .slice o2 l2 k2, .slice o3 l3 k3]) (h : R' b o1 l1 k1 o2 l2 k2 o3 l3 k3) :
    ∃ b65 : Bool, ∃ o66 : Option Addr, ∃ l67 : Nat, ∃ l68 : Nat, ∃ o69 : Option Addr, ∃ l70 : Nat, ∃ l71 : Nat, ∃ o72 : Option Addr, ∃ l73 : Nat, ∃ l74 : Nat, World.cell? w ⟨D, 0, none⟩ = some (.bool b65) ∧
      World.cell? w (Addr.add ⟨D, 0, none⟩ 1) = some (.slice o66 l67 l68) ∧ World.cell? w (Addr.add ⟨D, 0, none⟩ 2) = some (.slice o69 l70 l71) ∧ World.cell? w (Addr.add ⟨D, 0, none⟩ 3) = some (.slice o72 l73 l74) ∧ R' b65 o66 l67 l68 o69 l70 l71 o72 l73 l74 :=
  ⟨_, _, _, _, _, _, _, _, _, _, X.rd1 rfl, by rw [add_at]; exact X.rd1 rfl, by rw [add_at]; exact X.rd1 rfl, by rw [add_at]; exact X.rd1 rfl, h⟩
end
abbrev tRef : TypeId := 193
abbrev tSlRef : TypeId := 195
theorem und_slRef : Try.prog.underlying tSlRef = some (.slice tRef) := by kernel_rfl
def zeros32 : List Value := List.replicate 32 (.int .u8 0)
def rfA (h : List Value) (p : Option Addr) (b : Bool) : Array Value := (h ++ [Value.pointer p, Value.bool b]).toArray
theorem size_rfA {h : List Value} (hh : h.length = 32) (p : Option Addr) (b : Bool) : (rfA h p b).size = 34 := by simp [rfA, hh]
theorem info_ref : (Try.prog.info? tRef).map (fun i => (i.zero, i.size, i.bytes)) = some (some (.agg (rfA zeros32 none false)), 34, 48) := by kernel_rfl
theorem size_ref : (Try.prog.info? tRef).map (·.size) = some 34 := by kernel_rfl
theorem rfA_one {h : List Value} (hh : ∀ v ∈ h, v.oneCell' = true) (p : Option Addr) (b : Bool) : ∀ v ∈ (rfA h p b).toList, v.oneCell' = true := by
  intro v hv
  simp only [rfA, List.mem_append, List.mem_cons, List.not_mem_nil, or_false] at hv
  rcases hv with hv | rfl | rfl
  · exact hh v hv
  · rfl
  · rfl
theorem zeros_one : ∀ v ∈ zeros32, v.oneCell' = true := fun v hv => by rw [List.eq_of_mem_replicate hv]; rfl
theorem rfA_lo {h : List Value} (hh : h.length = 32) {p : Option Addr} {b : Bool} {i : Nat} (hi : i < 32) : (rfA h p b)[i]? = h[i]? := by
  unfold rfA; rw [List.getElem?_toArray, List.getElem?_append_left (by omega)]
theorem rfA_32 {h : List Value} (hh : h.length = 32) {p : Option Addr} {b : Bool} : (rfA h p b)[32]? = some (.pointer p) := by
  unfold rfA; rw [List.getElem?_toArray, List.getElem?_append_right (by omega), hh]; rfl
theorem rfA_33 {h : List Value} (hh : h.length = 32) {p : Option Addr} {b : Bool} : (rfA h p b)[33]? = some (.bool b) := by
  unfold rfA; rw [List.getElem?_toArray, List.getElem?_append_right (by omega), hh]; rfl
theorem lput_full {n : Nat} {Z L : Array Value} (hZ : Z.size = n) (hL : L.size = n) : lputL Z 0 n L = L := by
  unfold lputL
  have ht : L.toList.take n = L.toList := List.take_of_length_le (by simp [hL])
  rw [ht]
  apply Array.ext_getElem?
  intro i
  rw [get_setsAt _ _ _ _ (by simp [hL, hZ])]
  by_cases hi : i < n
  · rw [if_pos ⟨Nat.zero_le _, by simp [hL]; exact hi⟩, Nat.sub_zero, Array.getElem?_toList]
  · rw [if_neg (by simp [hL]; omega), Array.getElem?_eq_none (by omega), Array.getElem?_eq_none (by omega)]
theorem rf_built {Z H : Array Value} {p : Option Addr} {b0 : Bool} (hZ : Z = rfA zeros32 p b0) (hH : H.size = 32) (b : Bool) : setsAt (lputL Z 0 32 H) 33 [.bool b] = rfA H.toList p b := by
  have hl : H.toList.length = 32 := by simp [hH]
  have hzs : Z.size = 34 := by rw [hZ]; exact size_rfA rfl _ _
  have ht : H.toList.take 32 = H.toList := List.take_of_length_le (by omega)
  have e1 : lputL Z 0 32 H = setsAt Z 0 H.toList := by unfold lputL; rw [ht]
  have hs1 : (setsAt Z 0 H.toList).size = 34 := by rw [size_setsAt, hzs]
  rw [e1]
  apply Array.ext_getElem?
  intro i
  rw [get_setsAt _ _ _ _ (by rw [hs1]; simp)]
  by_cases h33 : i = 33
  · subst h33
    rw [if_pos (by simp), rfA_33 hl]; rfl
  · rw [if_neg (by simp; omega), get_setsAt _ _ _ _ (by rw [hzs, hl]; omega)]
    by_cases hi : i < 32
    · rw [if_pos ⟨Nat.zero_le _, by rw [hl]; omega⟩, Nat.sub_zero, rfA_lo hl hi]
    · rw [if_neg (by rw [hl]; omega), hZ]
      by_cases h32 : i = 32
      · subst h32; rw [rfA_32 hl]; exact rfA_32 rfl
      · rw [Array.getElem?_eq_none (by rw [size_rfA rfl]; omega), Array.getElem?_eq_none (by rw [size_rfA hl]; omega)]
theorem rf_built0 {H : Array Value} (hH : H.size = 32) (b : Bool) : setsAt (lputL #[(.int .u8 0), (.int .u8 0), (.int .u8 0), (.int .u8 0), (.int .u8 0), (.int .u8 0), (.int .u8 0), (.int .u8 0), (.int .u8 0), (.int .u8 0), (.int .u8 0), (.int .u8 0), (.int .u8 0), (.int .u8 0), (.int .u8 0), (.int .u8 0), (.int .u8 0), (.int .u8 0), (.int .u8 0), (.int .u8 0), (.int .u8 0), (.int .u8 0), (.int .u8 0), (.int .u8 0), (.int .u8 0), (.int .u8 0), (.int .u8 0), (.int .u8 0), (.int .u8 0), (.int .u8 0), (.int .u8 0), (.int .u8 0), (.pointer none), (.bool false)] 0 32 H) 33 [.bool b] = rfA H.toList none b := rf_built (p := none) (b0 := false) rfl hH b
theorem ref0_eq (w : World) : w.alloc (.cells #[(.int .u8 0), (.int .u8 0), (.int .u8 0), (.int .u8 0), (.int .u8 0), (.int .u8 0), (.int .u8 0), (.int .u8 0), (.int .u8 0), (.int .u8 0), (.int .u8 0), (.int .u8 0), (.int .u8 0), (.int .u8 0), (.int .u8 0), (.int .u8 0), (.int .u8 0), (.int .u8 0), (.int .u8 0), (.int .u8 0), (.int .u8 0), (.int .u8 0), (.int .u8 0), (.int .u8 0), (.int .u8 0), (.int .u8 0), (.int .u8 0), (.int .u8 0), (.int .u8 0), (.int .u8 0), (.int .u8 0), (.int .u8 0), (.pointer none), (.bool false)] 193) = w.alloc (.cells (rfA zeros32 none false) 193) := rfl
section
variable {A : Nat → Prop} {w w' : World}
def RdA (A : Nat → Prop) (w : World) (o : Option Addr) (b : By) : Prop := RdB w o b ∧ (b ≠ [] → ∀ d, o = some d → ¬ A d.block)
theorem RdA.modA {S : Nat → Prop} {o : Option Addr} {b : By} (h : RdA A w o b) (M : Vcg.Mod S w w') (hS : ∀ b, S b → A b) : RdA A w' o b := by
  refine ⟨fun hne => ?_, h.2⟩
  obtain ⟨g, f, ho, hg, hc⟩ := h.1 hne
  exact ⟨g, f, ho, Nat.lt_of_lt_of_le hg M.size, fun i hi => (cell_mod M hg (fun hh => h.2 hne _ ho (hS _ hh))).trans (hc i hi)⟩
theorem RdA.mod' {o : Option Addr} {b : By} (h : RdA A w o b) (M : Vcg.Mod NoB w w') : RdA A w' o b := h.modA M (fun _ h => h.elim)
theorem RdA.mono {A' : Nat → Prop} {o : Option Addr} {b : By} (h : RdA A w o b) (hA : ∀ b, b < w.heap.size → A' b → A b) : RdA A' w o b :=
  ⟨h.1, fun hne d hd hh => by
    obtain ⟨g, f, ho, hg, _⟩ := h.1 hne
    rw [ho] at hd
    cases hd
    exact h.2 hne _ ho (hA _ hg hh)⟩
theorem RdA.sub {o : Option Addr} {b : By} {c lo n : Nat} (h : RdA A w o b) (hl : b.length ≤ c) : RdA A w (subO o c lo 1) ((b.drop lo).take n) := by
  refine ⟨h.1.sub hl, fun hne d hd => ?_⟩
  have hb : b ≠ [] := fun e => hne (by rw [e]; simp)
  obtain ⟨g, f, rfl, _, _⟩ := h.1 hb
  unfold subO at hd
  split at hd
  · exact h.2 hb d hd
  · simp only [Option.map_some, Option.some.injEq] at hd
    rw [← hd, add_at]
    exact h.2 hb ⟨g, f, none⟩ rfl
theorem RdA.nil (A : Nat → Prop) (w : World) (o : Option Addr) : RdA A w o [] := ⟨fun h => (h rfl).elim, fun h => (h rfl).elim⟩
theorem ItC.restr {A' : Nat → Prop} (hA : ∀ b, b < w.heap.size → A' b → A b) {x : It} {v1 v2 v3 : Value} (h : ItC A w x v1 v2 v3) : ItC A' w x v1 v2 v3 :=
  ItC.mono (fun b hb => (Nat.lt_or_ge b w.heap.size).imp (fun h => hA b h hb) id) _ (ItC.old _ h)
theorem ItsC.restr {A' : Nat → Prop} (hA : ∀ b, b < w.heap.size → A' b → A b) {xs : List It} {o : Option Addr} {k : Nat} (h : ItsC A w xs o k) : ItsC A' w xs o k :=
  ItsC.mono (fun b hb => (Nat.lt_or_ge b w.heap.size).imp (fun h => hA b h hb) id) _ (ItsC.old _ h)
def RfC (A : Nat → Prop) (w : World) : It → Array Value → Prop
  | .s b, L => (b = [] ∧ ∃ h : List Value, h.length = 32 ∧ (∀ v ∈ h, v.oneCell' = true) ∧ L = rfA h none false) ∨ (b.length = 32 ∧ L = rfA (hashA b).toList none true)
  | .l xs, L => ∃ D v1 v2 v3, L = rfA zeros32 (some ⟨D, 0, none⟩) true ∧ ¬ A D ∧ Blk w D 138 #[v1, v2, v3] ∧ ItC A w (.l xs) v1 v2 v3
theorem RfC.modA {S : Nat → Prop} {x : It} {L : Array Value} (h : RfC A w x L) (M : Vcg.Mod S w w') (hS : ∀ b, S b → A b) : RfC A w' x L := by
  cases x with
  | s b => exact h
  | l xs =>
    obtain ⟨D, v1, v2, v3, h1, h2, h3, h4⟩ := h
    exact ⟨D, v1, v2, v3, h1, h2, h3.mod M (fun h => h2 (hS _ h)), ItC.modA M hS _ h4⟩
theorem RfC.mod' {x : It} {L : Array Value} (h : RfC A w x L) (M : Vcg.Mod NoB w w') : RfC A w' x L := h.modA M (fun _ h => h.elim)
theorem RfC.restr {A' : Nat → Prop} (hA : ∀ b, b < w.heap.size → A' b → A b) {x : It} {L : Array Value} (h : RfC A w x L) : RfC A' w x L := by
  cases x with
  | s b => exact h
  | l xs =>
    obtain ⟨D, v1, v2, v3, h1, h2, h3, h4⟩ := h
    exact ⟨D, v1, v2, v3, h1, fun hh => h2 (hA D h3.lt hh), h3, ItC.restr hA h4⟩
theorem RfC.size {x : It} {L : Array Value} (h : RfC A w x L) : L.size = 34 := by
  cases x with
  | s b =>
    rcases h with ⟨_, h, hh, _, rfl⟩ | ⟨_, rfl⟩
    · exact size_rfA hh _ _
    · exact size_rfA (hashL_len _) _ _
  | l xs => obtain ⟨D, v1, v2, v3, rfl, _⟩ := h; exact size_rfA rfl _ _
theorem RfC.one {x : It} {L : Array Value} (h : RfC A w x L) : ∀ v ∈ L.toList, v.oneCell' = true := by
  cases x with
  | s b =>
    rcases h with ⟨_, h, _, hh, rfl⟩ | ⟨_, rfl⟩
    · exact rfA_one hh _ _
    · exact rfA_one (hashA_one _) _ _
  | l xs => obtain ⟨D, v1, v2, v3, rfl, _⟩ := h; exact rfA_one zeros_one _ _
theorem ref_store {D : Nat} {t : TypeId} {cs L : Array Value} {x : It} {A : Nat → Prop} {w w0 : World} (H : Blk w D t cs) (hs : cs.size = 34) (hL : L.size = 34) (h1 : ∀ v ∈ L.toList, v.oneCell' = true) :
    ∃ w', Sem.run Try.prog (Instr.storeAt tRef (.pointer (some ⟨D, 0, none⟩)) (.agg L)) w = .ok () w' ∧ Blk w' D t L ∧ Vcg.Mod (· = D) w w' :=
  ⟨_, H.storeAll (by rw [hL]; exact size_ref) (by omega) h1, H.row_same L, Mod.setRow w D L⟩
theorem refOf_calls {x : It} {v1 v2 v3 : Value} (hg : Good x) (hA : ∀ b, w.heap.size ≤ b → ¬ A b) (hx : ItC A w x v1 v2 v3) :
    Calls Try.prog proof_refOf.n #[.agg #[v1, v2, v3]] w (fun e w' => ∃ L, e = .returned (.agg L) ∧ Vcg.Mod NoB w w' ∧ RfC A w' x L) := by
  obtain ⟨b, o1, l1, c1, o2, l2, c2, rfl, rfl, rfl⟩ := hx.vals
  refine proof_refOf.vc _ _ _ _ _ _ _ _ _ ?_
  unfold proof_refOf.Vc
  rintro d3 w1 ⟨rfl, rfl⟩
  have M1 := Mod.alloc (S := NoB) w (.cells #[.bool b, .slice o1 l1 c1, .slice o2 l2 c2] 138)
  have X1 := Blk.new w 138 #[.bool b, .slice o1 l1 c1, .slice o2 l2 c2]
  have hAD := hA _ (Nat.le_refl w.heap.size)
  have hx1 := ItC.mod M1 _ hx
  have hs1 := size_alloc w (.cells #[.bool b, .slice o1 l1 c1, .slice o2 l2 c2] 138)
  generalize w.heap.size = D at *
  generalize w.alloc (.cells #[.bool b, .slice o1 l1 c1, .slice o2 l2 c2] 138) = w1 at *
  rintro d5 w2 ⟨rfl, rfl⟩
  have M2 := Mod.alloc (S := NoB) w1 (.cells (rfA zeros32 none false) 193)
  have H2 := Blk.new w1 193 (rfA zeros32 none false)
  have hgen : w1.alloc (.cells #[(.int .u8 0), (.int .u8 0), (.int .u8 0), (.int .u8 0), (.int .u8 0), (.int .u8 0), (.int .u8 0), (.int .u8 0), (.int .u8 0), (.int .u8 0), (.int .u8 0), (.int .u8 0), (.int .u8 0), (.int .u8 0), (.int .u8 0), (.int .u8 0), (.int .u8 0), (.int .u8 0), (.int .u8 0), (.int .u8 0), (.int .u8 0), (.int .u8 0), (.int .u8 0), (.int .u8 0), (.int .u8 0), (.int .u8 0), (.int .u8 0), (.int .u8 0), (.int .u8 0), (.int .u8 0), (.int .u8 0), (.int .u8 0), (.pointer none), (.bool false)] 193) = w1.alloc (.cells (rfA zeros32 none false) 193) := rfl
  rw [hgen]
  have X2 := X1.mod' M2
  have hx2 := ItC.mod M2 _ hx1
  have M02 := M1.none_trans M2
  generalize hH : w1.heap.size = H at *
  generalize w1.alloc (.cells (rfA zeros32 none false) 193) = w2 at *
  have hz : (rfA zeros32 none false).size = 34 := size_rfA rfl _ _
  cases x with
  | l xs =>
    have hx2' := hx2
    simp only [ItC] at hx2
    obtain ⟨h1, h2, o, c, h3, h4, hcap⟩ := hx2
    cases h1; cases h2; cases h3
    obtain ⟨w3, hr3, H3, Q3⟩ := ref_store (x := .l xs) (A := A) (w0 := w) H2 hz (size_rfA (h := zeros32) rfl (some ⟨D, 0, none⟩) true) (rfA_one zeros_one _ _)
    have M23 : Vcg.Mod NoB w1 w3 := mod_of M2 Q3 (by omega)
    have X3 := X2.mod Q3 (by omega)
    refine ⟨_, X2.rd1 rfl, fun _ => ⟨w3, hr3, _, H3.rowAll (size_rfA rfl _ _), _, rfl, M1.none_trans M23, D, _, _, _, rfl, hAD, X3, ?_⟩, fun h => (by cases h)⟩
    exact ItC.mod M23 _ hx1
  | s bs =>
    have hx2' := hx2
    simp only [ItC] at hx2
    obtain ⟨h1, ⟨o, c, h2, h3, h4⟩, h5⟩ := hx2
    cases h1; cases h2; cases h5
    refine ⟨_, X2.rd1 rfl, fun h => (by cases h), fun _ => ⟨_, _, _, by rw [add_at]; exact X2.rd1 rfl, fun h0 => ?_, fun h0 => ?_⟩⟩
    · have hb : bs = [] := List.eq_nil_of_length_eq_zero (by omega)
      obtain ⟨w3, hr3, H3, Q3⟩ := ref_store (x := .s bs) (A := A) (w0 := w) H2 hz (size_rfA (h := zeros32) rfl none false) (rfA_one zeros_one _ _)
      exact ⟨w3, hr3, _, H3.rowAll (size_rfA rfl _ _), _, rfl, M1.none_trans (mod_of M2 Q3 (by omega)), .inl ⟨hb, zeros32, rfl, zeros_one, rfl⟩⟩
    · have hb : bs.length = 32 := hg.str.resolve_left (by rintro rfl; simp at h0)
      obtain ⟨g, f0, rfl, hgl, hc⟩ := h3 (by rintro rfl; simp at h0)
      obtain ⟨w3, hr3, H3, Q3⟩ := ref_store (x := .s bs) (A := A) (w0 := w) H2 hz (size_rfA (h := (hashA bs).toList) (hashL_len _) none true) (rfA_one (hashA_one _) _ _)
      refine ⟨_, _, _, by rw [add_at]; exact X2.rd1 rfl, by omega, _, rfl, hashA bs, ⟨size_hashA bs, fun i hi => ?_⟩, size_hashA bs, w3, ?_, _, H3.rowAll (size_rfA (hashL_len _) _ _), _, rfl, M1.none_trans (mod_of M2 Q3 (by omega)), .inr ⟨hb, rfl⟩⟩
      · rw [add_at, hc i (by omega)]
        simp only [hashA]
        exact (get_arrOf_lt (f := fun i => bV (bs.getD i 0)) hi).symm
      · rw [rf_built (Z := #[(.int .u8 0), (.int .u8 0), (.int .u8 0), (.int .u8 0), (.int .u8 0), (.int .u8 0), (.int .u8 0), (.int .u8 0), (.int .u8 0), (.int .u8 0), (.int .u8 0), (.int .u8 0), (.int .u8 0), (.int .u8 0), (.int .u8 0), (.int .u8 0), (.int .u8 0), (.int .u8 0), (.int .u8 0), (.int .u8 0), (.int .u8 0), (.int .u8 0), (.int .u8 0), (.int .u8 0), (.int .u8 0), (.int .u8 0), (.int .u8 0), (.int .u8 0), (.int .u8 0), (.int .u8 0), (.int .u8 0), (.int .u8 0), (.pointer none), (.bool false)]) (p := none) (b0 := false) rfl (size_hashA bs) true]
        exact hr3
theorem isBranch_calls {b : Bool} {o1 o2 o3 : Option Addr} {l1 k1 l2 k2 l3 k3 : Nat} :
    Calls Try.prog proof_node_isBranch.n #[.agg #[.bool b, .slice o1 l1 k1, .slice o2 l2 k2, .slice o3 l3 k3]] w (fun e w' => e = .returned (.bool (decide (l2 = 16))) ∧ Vcg.Mod NoB w w') := by
  refine proof_node_isBranch.vc _ _ _ _ _ _ _ _ _ _ _ _ ?_
  unfold proof_node_isBranch.Vc
  rintro d w1 ⟨rfl, rfl⟩
  have X := Blk.new w 197 #[.bool b, .slice o1 l1 k1, .slice o2 l2 k2, .slice o3 l3 k3]
  refine ⟨_, _, _, by rw [add_at]; exact X.rd1 rfl, ?_, Mod.alloc w _⟩
  congr 2
  rw [Bool.eq_iff_iff, decide_eq_true_eq, decide_eq_true_eq]; omega
theorem valueIf_calls {o : Option Addr} {k : Nat} {b : By} {ok : Bool} (hr : RdB w o b) (hl : b.length ≤ 2 ^ 40) :
    Calls Try.prog proof_valueIf.n #[.slice o b.length k, .bool ok] w (fun e w' => ∃ o' k', e = .returned (.tuple #[.slice o' (if ok then b else []).length k', .bool ok]) ∧ Vcg.Mod NoB w w' ∧ RdB w' o' (if ok then b else []) ∧ ∀ d, o' = some d → w.heap.size ≤ d.block) := by
  refine proof_valueIf.vc _ _ _ _ _ _ ?_
  unfold proof_valueIf.Vc
  refine ⟨fun h => ?_, fun h => ?_⟩
  · subst h
    exact ⟨none, 0, rfl, Mod.refl w, fun h => (h rfl).elim, fun d h => (by cases h)⟩
  · subst h
    refine (Clone_calls hr hl).mono ?_
    rintro _ w1 ⟨o', k', rfl, F⟩
    exact ⟨_, _, _, rfl, o', k', rfl, F.mod, F.own.bytes, fun d hd => F.new d.block ⟨d, hd, rfl⟩⟩
theorem CutPrefix_calls {o1 o2 : Option Addr} {k1 k2 : Nat} {a b : By} (h1 : RdB w o1 a) (hk : a.length ≤ k1) (h2 : RdB w o2 b) :
    Calls Try.prog bytes_CutPrefix.n #[.slice o1 a.length k1, .slice o2 b.length k2] w (fun e w' => w' = w ∧ if b.isPrefixOf a then e = .returned (.tuple #[.slice (subO o1 k1 b.length 1) (a.length - b.length) (k1 - b.length), .bool true]) else e = .returned (.tuple #[.slice o1 a.length k1, .bool false])) := by
  refine bytes_CutPrefix.vc _ _ _ _ _ _ _ _ ?_
  unfold bytes_CutPrefix.Vc
  refine (HasPrefix_calls h1 hk h2).mono ?_
  rintro _ w1 ⟨rfl, rfl⟩
  refine ⟨_, rfl, fun h => ⟨rfl, by rw [if_neg (by rw [h]; decide)]⟩, fun h => ⟨?_, rfl, by rw [if_pos h, Int.toNat_natCast]⟩⟩
  have := (List.isPrefixOf_iff_prefix.1 h).length_le
  omega
end
end Go.Proofs.Ytfghidehlnfdiaa
end
section
namespace Go.Proofs.Ytfghidehlnfdiaa
open Go Go.Vcg Go.Trie
section
variable {A : Nat → Prop} {w0 w w' : World}
def RfRow (A : Nat → Prop) (w0 w : World) (xs : List It) (o : Option Addr) (l k : Nat) : Prop :=
  l = xs.length ∧ ∃ vs, Fresh w0 w tRef 34 o l k vs ∧ ∀ j (hj : j < xs.length), ∃ L, (∀ i, i < 34 → vs[j * 34 + i]? = L[i]?) ∧ RfC (fun b => A b ∨ OB o b) w xs[j] L
theorem RfRow.nil (M : Vcg.Mod NoB w0 w) : RfRow A w0 w [] none 0 0 := ⟨rfl, [], Fresh.nil M _ _, fun j hj => absurd hj (by simp)⟩
theorem RfRow.mod' {xs : List It} {o : Option Addr} {l k : Nat} (h : RfRow A w0 w xs o l k) (M : Vcg.Mod NoB w w') : RfRow A w0 w' xs o l k := by
  obtain ⟨h1, vs, F, h2⟩ := h
  refine ⟨h1, vs, F.mod' M, fun j hj => ?_⟩
  obtain ⟨L, a, b⟩ := h2 j hj
  exact ⟨L, a, b.mod' M⟩
theorem RfRow.set {D : Nat} {xs : List It} {o : Option Addr} {l k : Nat} (h : RfRow A w0 w xs o l k) (Q : Vcg.Mod (· = D) w w') (hD : ¬ OB o D) (h0 : w0.heap.size ≤ D) (hx : ∀ j (hj : j < xs.length) L, RfC (fun b => A b ∨ OB o b) w xs[j] L → RfC (fun b => A b ∨ OB o b) w' xs[j] L) : RfRow A w0 w' xs o l k := by
  obtain ⟨h1, vs, F, h2⟩ := h
  refine ⟨h1, vs, ⟨F.own.mod Q (fun b hb e => hD (e ▸ hb)), mod_of F.mod Q h0, F.new⟩, fun j hj => ?_⟩
  obtain ⟨L, a, b⟩ := h2 j hj
  exact ⟨L, a, hx j hj L b⟩
theorem RfRow.push {xs : List It} {o : Option Addr} {l k : Nat} (h : RfRow A w0 w xs o l k) {D : Nat} {x : It} {L : Array Value} (B : Blk w D tRef L) (hx : RfC (fun b => A b ∨ OB o b) w x L) (hl : xs.length ≤ 2 ^ 20) :
    ∃ o' k' w', Sem.run Try.prog (builtinV .append #[195, 195] 195 #[.slice o l k, .slice (some ⟨D, 0, none⟩) 1 1]) w = .ok (.slice o' (l + 1) k') w' ∧ RfRow A w0 w' (xs ++ [x]) o' (l + 1) k' ∧ Vcg.Mod (OB o) w w' ∧ (∀ b, OB o' b → OB o b ∨ w.heap.size ≤ b) := by
  obtain ⟨rfl, vs, F, hv⟩ := h
  obtain ⟨i, hi, hz, hs, hb⟩ := info_of info_ref
  have hsz := hx.size
  obtain ⟨o', k', w', h1, h2, h3, h4⟩ := append_own (ty := 195) und_slRef hi hz hs (by exact size_rfA rfl _ _) F.own (src_one und_slRef B hsz hx.one) (by simp only [maxLen]; omega) (by rw [hb]; omega)
  have hF : Fresh w0 w' tRef 34 o' (xs.length + 1) k' (vs ++ L.toList) := by
    refine ⟨h2, F.mod.trans h3 (fun k hk hob => absurd (F.new k hob) (by omega)), fun k hk => ?_⟩
    rcases h4 k hk with h5 | h5
    · exact F.new k h5
    · exact Nat.le_trans F.mod.size h5
  have hlen : vs.length = xs.length * 34 := F.own.1
  have step : ∀ {y : It} {L : Array Value}, RfC (fun b => A b ∨ OB o b) w y L → RfC (fun b => A b ∨ OB o' b) w' y L := fun hy => by
    have h5 := RfC.restr (A' := fun b => A b ∨ OB o b ∨ w.heap.size ≤ b) (fun b hb hh => hh.elim .inl (fun hh => hh.elim .inr (fun h => absurd h (by omega)))) hy
    have h6 := h5.modA h3 (fun b h => .inr (.inl h))
    exact RfC.restr (fun b _ hh => hh.elim .inl (fun h => .inr (h4 b h))) h6
  refine ⟨o', k', w', h1, ⟨by simp, _, hF, fun j hj => ?_⟩, h3, h4⟩
  rw [List.length_append, List.length_cons, List.length_nil] at hj
  by_cases hjx : j < xs.length
  · obtain ⟨L', a, e⟩ := hv j hjx
    refine ⟨L', fun i hi => ?_, ?_⟩
    · rw [List.getElem?_append_left (by omega)]; exact a i hi
    · rw [List.getElem_append_left hjx]; exact step e
  · obtain rfl : j = xs.length := by omega
    refine ⟨L, fun i hi => ?_, ?_⟩
    · rw [List.getElem?_append_right (by omega), hlen, show xs.length * 34 + i - xs.length * 34 = i by omega, Array.getElem?_toList]
    · rw [List.getElem_append_right (Nat.le_refl _)]
      simp only [Nat.sub_self, List.getElem_cons_zero]
      exact step hx
def NvC (A : Nat → Prop) (w : World) (xs : List It) (b : Bool) (s1 s2 s3 : Option Addr × Nat × Nat) : Prop :=
  (∃ p v, xs.length = 2 ∧ headIs (xs.getD 0 (.s [])) = some (p, true) ∧ xs.getD 1 (.s []) = .s v ∧ b = true ∧ s1.2.1 = p.length ∧ RdA A w s1.1 p ∧ s2 = (none, 0, 0) ∧ s3.2.1 = v.length ∧ RdA A w s3.1 v) ∨
  (∃ p D L, xs.length = 2 ∧ headIs (xs.getD 0 (.s [])) = some (p, false) ∧ b = false ∧ s1.2.1 = p.length ∧ RdA A w s1.1 p ∧ s2 = (some ⟨D, 0, none⟩, 1, 1) ∧ ¬ A D ∧ Blk w D tRef L ∧ RfC A w (xs.getD 1 (.s [])) L ∧ s3 = (none, 0, 0)) ∨
  (∃ g v, xs.length = 17 ∧ xs.getD 16 (.s []) = .s v ∧ b = false ∧ s1 = (none, 0, 0) ∧ s2.1 = some ⟨g, 0, none⟩ ∧ s2.2.1 = 16 ∧ g < w.heap.size ∧ ¬ A g ∧ (∀ j, j < 16 → ∃ L, RowAt w ⟨g, j * 34, none⟩ 34 L ∧ RfC A w (xs.getD j (.s [])) L) ∧ s3.2.1 = v.length ∧ RdA A w s3.1 v)
theorem NvC.modA {S : Nat → Prop} {xs : List It} {b : Bool} {s1 s2 s3 : Option Addr × Nat × Nat} (h : NvC A w xs b s1 s2 s3) (M : Vcg.Mod S w w') (hS : ∀ b, S b → A b) : NvC A w' xs b s1 s2 s3 := by
  rcases h with ⟨p, v, h1, h2, h3, h4, h5, h6, h7, h8, h9⟩ | ⟨p, D, L, h1, h2, h3, h4, h5, h6, h7, h8, h9, h10⟩ | ⟨g, v, h1, h2, h3, h4, h5, h6, h7, h8, h9, h10, h11⟩
  · exact .inl ⟨p, v, h1, h2, h3, h4, h5, h6.modA M hS, h7, h8, h9.modA M hS⟩
  · exact .inr (.inl ⟨p, D, L, h1, h2, h3, h4, h5.modA M hS, h6, h7, h8.mod M (fun h => h7 (hS _ h)), h9.modA M hS, h10⟩)
  · refine .inr (.inr ⟨g, v, h1, h2, h3, h4, h5, h6, Nat.lt_of_lt_of_le h7 M.size, h8, fun j hj => ?_, h10, h11.modA M hS⟩)
    obtain ⟨L, ⟨a, a'⟩, c⟩ := h9 j hj
    exact ⟨L, ⟨a, fun i hi => by rw [← a' i hi, add_at]; exact cell_mod M h7 (fun h => h8 (hS _ h))⟩, c.modA M hS⟩
theorem NvC.restr {A' : Nat → Prop} (hA : ∀ b, b < w.heap.size → A' b → A b) {xs : List It} {b : Bool} {s1 s2 s3 : Option Addr × Nat × Nat} (h : NvC A w xs b s1 s2 s3) : NvC A' w xs b s1 s2 s3 := by
  rcases h with ⟨p, v, h1, h2, h3, h4, h5, h6, h7, h8, h9⟩ | ⟨p, D, L, h1, h2, h3, h4, h5, h6, h7, h8, h9, h10⟩ | ⟨g, v, h1, h2, h3, h4, h5, h6, h7, h8, h9, h10, h11⟩
  · exact .inl ⟨p, v, h1, h2, h3, h4, h5, h6.mono hA, h7, h8, h9.mono hA⟩
  · exact .inr (.inl ⟨p, D, L, h1, h2, h3, h4, h5.mono hA, h6, fun h => h7 (hA D h8.lt h), h8, h9.restr hA, h10⟩)
  · refine .inr (.inr ⟨g, v, h1, h2, h3, h4, h5, h6, h7, fun h => h8 (hA g h7 h), fun j hj => ?_, h10, h11.mono hA⟩)
    obtain ⟨L, a, c⟩ := h9 j hj
    exact ⟨L, a, c.restr hA⟩
def nvV (b : Bool) (s1 s2 s3 : Option Addr × Nat × Nat) : Value := .agg #[.bool b, .slice s1.1 s1.2.1 s1.2.2, .slice s2.1 s2.2.1 s2.2.2, .slice s3.1 s3.2.1 s3.2.2]
theorem ret_4 {D : Nat} {t : TypeId} {a b c d : Value} {b1 : Bool} {s1 s2 s3 : Option Addr × Nat × Nat} {R' : Bool → Option Addr → Nat → Nat → Option Addr → Nat → Nat → Option Addr → Nat → Nat → World → Prop} (X : Blk w D t #[a, b, c, d]) (K : ∀ w', Vcg.Mod (· = D) w w' → R' b1 s1.1 s1.2.1 s1.2.2 s2.1 s2.2.1 s2.2.2 s3.1 s3.2.1 s3.2.2 w') :
    CanSet w ⟨D, 0, none⟩ (.bool b1) ∧ ∀ w1 : World, IsSet w ⟨D, 0, none⟩ (.bool b1) w1 → CanSet w1 (Addr.add ⟨D, 0, none⟩ 1) (.slice s1.1 s1.2.1 s1.2.2) ∧ ∀ w2 : World, IsSet w1 (Addr.add ⟨D, 0, none⟩ 1) (.slice s1.1 s1.2.1 s1.2.2) w2 → CanSet w2 (Addr.add ⟨D, 0, none⟩ 2) (.slice s2.1 s2.2.1 s2.2.2) ∧ ∀ w3 : World, IsSet w2 (Addr.add ⟨D, 0, none⟩ 2) (.slice s2.1 s2.2.1 s2.2.2) w3 →
      CanSet w3 (Addr.add ⟨D, 0, none⟩ 3) (.slice s3.1 s3.2.1 s3.2.2) ∧ ∀ w4 : World, IsSet w3 (Addr.add ⟨D, 0, none⟩ 3) (.slice s3.1 s3.2.1 s3.2.2) w4 →
      ∃ b65 : Bool, ∃ o66 : Option Addr, ∃ l67 : Nat, ∃ l68 : Nat, ∃ o69 : Option Addr, ∃ l70 : Nat, ∃ l71 : Nat, ∃ o72 : Option Addr, ∃ l73 : Nat, ∃ l74 : Nat, World.cell? w4 ⟨D, 0, none⟩ = some (.bool b65) ∧
      World.cell? w4 (Addr.add ⟨D, 0, none⟩ 1) = some (.slice o66 l67 l68) ∧ World.cell? w4 (Addr.add ⟨D, 0, none⟩ 2) = some (.slice o69 l70 l71) ∧ World.cell? w4 (Addr.add ⟨D, 0, none⟩ 3) = some (.slice o72 l73 l74) ∧ R' b65 o66 l67 l68 o69 l70 l71 o72 l73 l74 w4 :=
  set4 X rfl rfl rfl rfl (fun w' X' M => get4 X' (K w' M))
theorem nodeOf_calls {xs : List It} {v1 v2 v3 : Value} (hg : Good (.l xs)) (hA : ∀ b, w.heap.size ≤ b → ¬ A b) (hx : ItC A w (.l xs) v1 v2 v3) :
    Calls Try.prog proof_nodeOf.n #[.agg #[v1, v2, v3]] w (fun e w' => ∃ b s1 s2 s3, e = .returned (nvV b s1 s2 s3) ∧ Vcg.Mod NoB w w' ∧ NvC A w' xs b s1 s2 s3) := by
  have hx0 := hx
  simp only [ItC] at hx
  obtain ⟨rfl, rfl, p, c, rfl, h4, hcap⟩ := hx
  refine calls_gen fun R hR => proof_nodeOf.vc _ _ _ _ _ _ _ _ _ ?_
  unfold proof_nodeOf.Vc
  rintro d3 w1 ⟨rfl, rfl⟩
  have M1 := Mod.alloc (S := NoB) w (.cells #[.bool true, .slice none 0 0, .slice p xs.length c] 138)
  have X1 := Blk.new w 138 #[.bool true, .slice none 0 0, .slice p xs.length c]
  have hs1 := size_alloc w (.cells #[.bool true, .slice none 0 0, .slice p xs.length c] 138)
  generalize hD : w.heap.size = D at *
  generalize w.alloc (.cells #[.bool true, .slice none 0 0, .slice p xs.length c] 138) = w1 at *
  rintro d5 w2 ⟨rfl, rfl⟩
  have M12 := Mod.alloc (S := NoB) w1 (.cells #[.bool false, .slice none 0 0, .slice none 0 0, .slice none 0 0] 197)
  have V2 := Blk.new w1 197 #[.bool false, .slice none 0 0, .slice none 0 0, .slice none 0 0]
  have hs2 := size_alloc w1 (.cells #[.bool false, .slice none 0 0, .slice none 0 0, .slice none 0 0] 197)
  have X2 := X1.mod' M12
  have M2 := M1.none_trans M12
  generalize hN : w1.heap.size = N at *
  generalize w1.alloc (.cells #[.bool false, .slice none 0 0, .slice none 0 0, .slice none 0 0] 197) = w2 at *
  -- everything is kept off the result's variable
  have h4N : ItsC (fun b => A b ∨ b = N) w xs p 0 := ItsC.restr (fun b hb hh => hh.elim id (fun h => by omega)) h4
  have fin : ∀ (w' : World) (b : Bool) (s1 s2 s3 : Option Addr × Nat × Nat) (cs : Value × Value × Value × Value), Vcg.Mod NoB w w' → Blk w' N 197 #[cs.1, cs.2.1, cs.2.2.1, cs.2.2.2] → NvC (fun b => A b ∨ b = N) w' xs b s1 s2 s3 → ∀ w4, Vcg.Mod (· = N) w' w4 → R (.returned (nvV b s1 s2 s3)) w4 := by
    intro w' b s1 s2 s3 cs M B hn w4 Q
    refine hR _ _ ⟨b, s1, s2, s3, rfl, mod_of M Q (by omega), ?_⟩
    exact (hn.modA Q (fun b hb => .inr hb)).restr (fun b _ h => .inl h)
  refine ⟨_, _, _, by rw [add_at]; exact X2.rd1 rfl, fun h2 => ?_, fun h2 => ?_⟩
  · have h2' : xs.length = 2 := by omega
    obtain ⟨pp, lf, he, hl1, hl2⟩ := hg.two h2'
    have h42 := ItsC.mod M2 _ h4N
    obtain ⟨g, f0, u1, u2, u3, rfl, hgs, e1, e2, e3, hi⟩ := h42.get 0 (by omega)
    have h0e : xs.getD 0 (.s []) = xs[0] := getD_at (by omega)
    have h1e : xs.getD 1 (.s []) = xs[1] := getD_at (by omega)
    have hm0 : xs[0] ∈ xs := List.getElem_mem (by omega)
    obtain ⟨gg, hnn, hfine⟩ := hg.node
    cases hq : xs[0] with
    | l ys => rw [h0e, hq] at he; simp [headIs] at he
    | s bs =>
      rw [hq] at hi
      simp only [ItC] at hi
      obtain ⟨rfl, ⟨ox, cx, rfl, hrx, _⟩, rfl⟩ := hi
      have hbl : bs.length ≤ 2 ^ 20 := by
        have hfx := hfine.mem hm0
        rw [hq] at hfx
        have : bs.length ≤ (enc (.s bs)).length := by
          simp only [enc]
          split
          · exact Nat.le_refl _
          · rw [List.length_append]; omega
        have := hfx.2.2
        omega
      refine ⟨_, _, _, by rw [add_at]; exact X2.rd1 rfl, _, rfl, ⟨by decide, by omega⟩, _, _, _, by rw [add_at, add_at]; exact e2, ?_⟩
      refine (Unpack_calls hrx hbl).mono ?_
      rintro _ w3 ⟨o', k', rfl, M3, R3, hnew⟩
      have M03 := M2.none_trans M3
      have X3 := X2.mod' M3
      have V3 := V2.mod' M3
      have he' := he
      rw [h0e, hq] at he'
      simp only [headIs] at he'
      have eu : upk bs = (pp, lf, 0) := by unfold upk; rw [he']
      rw [eu] at R3 ⊢
      have hs3 := M2.size
      have hRA : RdA (fun b => A b ∨ b = N) w3 o' pp := ⟨R3, fun _ d hd hh => by
        have h1 := hnew d hd
        have h2 := V2.lt
        rcases hh with hh | hh
        · exact hA _ (by omega) hh
        · omega⟩
      obtain ⟨g', f0', t1, t2, t3, ho, hg', d1, d2, d3, hi'⟩ := (ItsC.mod M03 _ h4N).get 1 (by omega)
      cases ho
      refine ⟨_, _, _, _, _, rfl, fun hlf => ?_, fun hlf => ?_⟩
      · dsimp only at hlf; subst hlf
        obtain ⟨vs, hv1, hvn⟩ := hl1 rfl
        rw [h1e] at hv1
        rw [hv1] at hi'
        simp only [ItC] at hi'
        obtain ⟨rfl, ⟨oy, cy, rfl, hry, hay⟩, rfl⟩ := hi'
        refine ⟨_, _, _, by rw [add_at]; exact X3.rd1 rfl, _, rfl, ⟨by decide, by omega⟩, _, _, _, by rw [add_at, add_at]; exact d2, ?_⟩
        exact ret_4 (b1 := true) (s1 := (o', pp.length, k')) (s2 := (none, 0, 0)) (s3 := (oy, vs.length, cy)) V3 (fin w3 true (o', pp.length, k') (none, 0, 0) (oy, vs.length, cy) (_, _, _, _) M03 V3 (.inl ⟨pp, vs, h2', he, by rw [h1e, hv1], rfl, rfl, hRA, rfl, rfl, hry, hay⟩))
      · dsimp only at hlf; subst hlf
        obtain ⟨hpn, hgy, hye⟩ := hl2 rfl
        obtain ⟨_, _, _, _, _, _, _, rfl, rfl, rfl⟩ := hi'.vals
        refine ⟨_, _, _, by rw [add_at]; exact X3.rd1 rfl, _, rfl, ⟨by decide, by omega⟩, _, _, _, _, _, _, _, by rw [add_at]; exact d1, by rw [add_at, add_at]; exact d2, by rw [add_at, add_at]; exact d3, ?_⟩
        rw [h1e] at hgy
        have hs03 := M03.size
        have hV3 := V3.lt
        refine (refOf_calls hgy (fun b hb hh => by
          rcases hh with hh | hh
          · exact hA b (by omega) hh
          · omega) hi').mono ?_
        rintro _ w4 ⟨L, rfl, M4, hL⟩
        have M04 := M03.none_trans M4
        refine ⟨L, rfl, hL.size, ?_⟩
        rw [lput_full (n := 34) rfl hL.size]
        rintro d59 w5 ⟨rfl, rfl⟩
        have M5 := Mod.alloc (S := NoB) w4 (.cells L 193)
        have B5 := Blk.new w4 193 L
        have V5 := (V3.mod' M4).mod' M5
        have hs4 := M4.size
        have M05 := M04.none_trans M5
        refine ret_4 (b1 := false) (s1 := (o', pp.length, k')) (s2 := (some ⟨w4.heap.size, 0, none⟩, 1, 1)) (s3 := (none, 0, 0)) V5 (fin _ false (o', pp.length, k') (some ⟨w4.heap.size, 0, none⟩, 1, 1) (none, 0, 0) (_, _, _, _) M05 V5 (.inr (.inl ⟨pp, w4.heap.size, L, h2', he, rfl, rfl, (hRA.mod' M4).mod' M5, rfl, ?_, B5, ?_, rfl⟩)))
        · intro hh
          rcases hh with hh | hh
          · exact hA _ (by omega) hh
          · omega
        · rw [h1e]; exact hL.mod' M5
  · obtain ⟨h17, ⟨v16, hv16⟩, hkids⟩ := hg.many (by omega)
    have h42 := ItsC.mod M2 _ h4N
    obtain ⟨g, f0, u1, u2, u3, rfl, hgs, e1, e2, e3, hi⟩ := h42.get 16 (by omega)
    rw [getD_at (by omega)] at hv16
    rw [hv16] at hi
    simp only [ItC] at hi
    obtain ⟨rfl, ⟨ov, cv, rfl, hrv, hav⟩, rfl⟩ := hi
    refine ⟨_, _, _, by rw [add_at]; exact X2.rd1 rfl, _, rfl, ⟨by decide, by omega⟩, _, _, _, by rw [add_at, add_at]; exact e2, ?_⟩
    rintro d82 w3 ⟨rfl, rfl⟩
    have M3 := Mod.alloc (S := NoB) w2 (.cells #[.bool false, .slice none 0 0, .slice none 0 0, .slice none 0 0] 197)
    have U3 := Blk.new w2 197 #[.bool false, .slice none 0 0, .slice none 0 0, .slice none 0 0]
    have hs3 := size_alloc w2 (.cells #[.bool false, .slice none 0 0, .slice none 0 0, .slice none 0 0] 197)
    have M03 := M2.none_trans M3
    have X3 := X2.mod' M3
    have V3 := V2.mod' M3
    have hVlt := V2.lt
    have hXlt := X2.lt
    generalize hN2 : w2.heap.size = N2 at *
    generalize w2.alloc (.cells #[.bool false, .slice none 0 0, .slice none 0 0, .slice none 0 0] 197) = w3 at *
    refine set4 U3 rfl rfl rfl rfl (fun w4 U4 Q4 => ?_)
    have M04 : Vcg.Mod NoB w w4 := mod_of M03 Q4 (by omega)
    have X4 := X3.mod Q4 (by omega)
    have V4 := V3.mod Q4 (by omega)
    have hs4 := Q4.size
    -- .. and off the node's own
    let A2 : Nat → Prop := fun b => A b ∨ b = N ∨ b = N2
    have h4A : ItsC A2 w xs (some ⟨g, f0, none⟩) 0 := ItsC.restr (fun b hb hh => hh.elim id (fun h => by omega)) h4
    have hrvA : RdA A2 w4 ov v16 := by
      have h0 := (ItsC.mod M04 _ h4A).get 16 (by omega)
      obtain ⟨g', f0', t1, t2, t3, ho, hg', d1, d2, d3, hi'⟩ := h0
      cases ho
      rw [hv16] at hi'
      simp only [ItC] at hi'
      obtain ⟨rfl, ⟨oz, cz, rfl, hrz, haz⟩, rfl⟩ := hi'
      have h5 : w4.cell? ⟨g, f0 + (0 + 16 * 3) + 1, none⟩ = w2.cell? ⟨g, f0 + (0 + 16 * 3) + 1, none⟩ := cell_mod (mod_of M3 Q4 (by omega)) (by omega) (fun h => h)
      have hd2 : w4.cell? ⟨g, f0 + (0 + 16 * 3) + 1, none⟩ = some (.slice oz v16.length cz) := d2
      have he2 : w2.cell? ⟨g, f0 + (0 + 16 * 3) + 1, none⟩ = some (.slice ov v16.length cv) := e2
      rw [hd2, he2] at h5
      cases h5
      exact ⟨hrz, haz⟩
    refine ⟨_, _, _, by rw [add_at]; exact X4.rd1 rfl, by omega, ?_⟩
    have hA2 : ∀ b, w4.heap.size ≤ b → ¬ A2 b := fun b hb hh => by
      have hb4 := U4.lt
      rcases hh with hh | hh | hh
      · exact hA b (by have := M04.size; omega) hh
      · omega
      · omega
    have M24 : Vcg.Mod NoB w2 w4 := mod_of M3 Q4 (by omega)
    have h4B : ItsC (fun b => A2 b ∨ w4.heap.size ≤ b) w xs (some ⟨g, f0, none⟩) 0 := ItsC.restr (fun b hb hh => hh.elim id (fun h => by have := M04.size; omega)) h4A
    have hN2lt := U4.lt
    clear h4A h42 e1 e2 e3 hrv hav
    refine ⟨fun i w' => ∃ (j : Nat) (o : Option Addr) (k : Nat), i = (j : Int) ∧ j ≤ 16 ∧ RfRow A2 w2 w' (xs.take j) o j k ∧ (∀ b, OB o b → w4.heap.size ≤ b) ∧ w4.heap.size ≤ w'.heap.size ∧ Blk w' N2 197 #[.bool false, .slice none 0 0, .slice o j k, .slice ov v16.length cv] ∧ RdA (fun b => A2 b ∨ w4.heap.size ≤ b) w' ov v16, fun i _ => ((16 : Int) - i).toNat, ⟨0, none, 0, rfl, Nat.zero_le _, by rw [List.take_zero]; exact RfRow.nil M24, fun b hb => (OB_none b hb).elim, Nat.le_refl _, U4, hrvA.mono (fun b hb hh => hh.elim id (fun h => by omega))⟩, ?_⟩
    rintro _ _ w5 ⟨j, o, k, rfl, hj, hrow, hO, hs45, U5, hv5⟩
    have M25 : Vcg.Mod NoB w2 w5 := by obtain ⟨_, vs, F, _⟩ := hrow; exact F.mod
    have M05 := M2.none_trans M25
    have X5 := X2.mod' M25
    refine ⟨fun hlt => ?_, fun hge => ?_⟩
    · have hjl : j < xs.length := by omega
      have hj16 : j < 16 := by omega
      obtain ⟨g', f', u1, u2, u3, ho, hg', d1, d2, d3, hij⟩ := (ItsC.mod M05 _ h4B).get j hjl
      cases ho
      rw [Nat.zero_add] at d1 d2 d3
      obtain ⟨b, p1, q1, r1, p2, q2, r2, rfl, rfl, rfl⟩ := hij.vals
      refine ⟨_, rfl, ⟨by omega, by omega⟩, _, _, _, _, _, _, _, by rw [add_at, Int.toNat_natCast]; exact d1, by rw [add_at, add_at, Int.toNat_natCast]; exact d2, by rw [add_at, add_at, Int.toNat_natCast]; exact d3, ?_⟩
      rintro d102 w6 ⟨rfl, rfl⟩
      have H := Blk.new w5 138 #[.bool false, .slice none 0 0, .slice none 0 0]
      have M56 := Mod.alloc (S := NoB) w5 (.cells #[.bool false, .slice none 0 0, .slice none 0 0] 138)
      refine set3 H rfl rfl rfl (fun w7 H7 Q7 => ?_)
      have M57 : Vcg.Mod NoB w5 w7 := mod_of M56 Q7 (Nat.le_refl _)
      rintro _ rfl
      have M58 := M57.step_drew
      have U8 := U5.mod' M58
      have H8 := H7.drew
      have hij8 := ItC.mod M58 _ hij
      have hrow8 := hrow.mod' M58
      have hv8 := hv5.mod' M58
      have hs8 := M58.size
      have hOlt : ∀ b, OB o b → b < w5.heap.size := by obtain ⟨_, vs, F, _⟩ := hrow; exact fun b hb => F.own.lt hb
      generalize w5.heap.size = HH at *
      generalize w7.drew = w8 at *
      clear H M56 Q7 H7 M57 hrow hij U5 hv5 d1 d2 d3
      refine ⟨_, _, _, by rw [add_at]; exact U8.rd1 rfl, get3 H8 ?_⟩
      have hgj : Good xs[j] := by have := hkids j hj16; rwa [getD_at hjl] at this
      have hijO : ItC (fun b => A2 b ∨ OB o b) w8 xs[j] (.bool b) (.slice p1 q1 r1) (.slice p2 q2 r2) := ItC.mono (fun b hb => hb.imp id (hO b)) _ hij8
      refine (refOf_calls hgj (fun b hb hh => by
        rcases hh with hh | hh
        · exact hA2 b (by omega) hh
        · have := hOlt b hh; omega) hijO).mono ?_
      rintro _ w9 ⟨L, rfl, M9, hL⟩
      have U9 := U8.mod' M9
      refine ⟨L, rfl, by rw [add_at]; exact U9.rd1 rfl, hL.size, ?_⟩
      rw [lput_full (n := 34) rfl hL.size]
      rintro d121 w10 ⟨rfl, rfl⟩
      have M10 := Mod.alloc (S := NoB) w9 (.cells L 193)
      have B10 := Blk.new w9 193 L
      have U10 := U9.mod' M10
      have hrow10 := (hrow8.mod' M9).mod' M10
      have hL10 := hL.mod' M10
      have hv10 := (hv8.mod' M9).mod' M10
      have hs10 : w4.heap.size ≤ (w9.alloc (.cells L 193)).heap.size := by have := M9.size; have := M10.size; omega
      generalize w9.alloc (.cells L 193) = w10 at *
      have hlen : (xs.take j).length = j := by rw [List.length_take]; omega
      obtain ⟨o', k', w11, hr11, hrow11, M11, hO11⟩ := hrow10.push B10 hL10 (by omega)
      have hON : ¬ OB o N2 := fun h => by have := hO _ h; omega
      have U11 := U10.mod M11 hON
      refine ⟨by rw [add_at]; exact U10.rd1 rfl, _, w11, hr11, _, _, _, rfl, ?_⟩
      rw [add_at, Nat.zero_add]
      refine ⟨U11.canSet (by simp) rfl, ?_⟩
      rintro _ rfl
      have Q12 := Mod.setCell w11 ⟨N2, 2, none⟩ (.slice o' (j + 1) k')
      have U12 := U11.set 2 (.slice o' (j + 1) k')
      have hO' : ∀ b, OB o' b → w4.heap.size ≤ b := fun b hb => (hO11 b hb).elim (hO b) (fun h => by omega)
      have htk : xs.take (j + 1) = xs.take j ++ [xs[j]] := List.take_succ_eq_append_getElem hjl
      rw [← htk] at hrow11
      have ew : IntKind.wrap .i64 ((j : Int) + 1) = ((j + 1 : Nat) : Int) := by rw [wrap_i64_small (by omega) (by omega)]; omega
      rw [ew]
      refine ⟨⟨j + 1, o', k', rfl, hj16, hrow11.set (D := N2) Q12 (fun h => by have := hO' _ h; omega) (by omega) (fun q hq L' hL' => hL'.modA Q12 (fun b hb => .inl (.inr (.inr hb)))), hO', by have := M11.size; have := Q12.size; omega, U12, ?_⟩, by dsimp only; omega⟩
      exact (hv10.modA M11 (fun b hb => .inr (hO b hb))).modA Q12 (fun b hb => .inl (.inr (.inr hb)))
    · obtain rfl : j = 16 := by omega
      have V5 := V2.mod' M25
      obtain ⟨_, vs, F, hrf⟩ := hrow
      refine get4 U5 ?_
      refine ret_4 (b1 := false) (s1 := (none, 0, 0)) (s2 := (o, 16, k)) (s3 := (ov, v16.length, cv)) V5 (fin w5 false (none, 0, 0) (o, 16, k) (ov, v16.length, cv) (_, _, _, _) M05 V5 (.inr (.inr ?_)))
      have hl16 : (xs.take 16).length = 16 := by rw [List.length_take]; omega
      obtain ⟨L0, hL0, hr0⟩ := hrf 0 (by omega)
      have h33 : vs[0 * 34 + 0]? = L0[0]? := hL0 0 (by omega)
      have hL0s := hr0.size
      obtain ⟨q, hq, _⟩ := F.own.cell (i := 0 * 34 + 0) (v := L0[0]'(by omega)) (by rw [h33, Array.getElem?_eq_getElem (by omega)])
      have hqs := hO q ⟨_, hq, rfl⟩
      have hqlt := F.own.lt ⟨_, hq, rfl⟩
      have hAN : ∀ b, A b ∨ b = N → A2 b := fun b hb => hb.imp id .inl
      refine ⟨q, v16, h17, by rw [getD_at (by omega), hv16], rfl, rfl, hq, rfl, hqlt, fun hh => hA2 q hqs (hAN q hh), fun j hj => ?_, rfl, hv5.mono (fun b _ hb => .inl (hAN b hb))⟩
      obtain ⟨L, hL, hr⟩ := hrf j (by omega)
      refine ⟨L, ⟨hr.size, fun i hi => ?_⟩, ?_⟩
      · have hls := hr.size
        obtain ⟨q', hq', hc⟩ := F.own.cell (i := j * 34 + i) (v := L[i]'(by omega)) (by rw [hL i hi, Array.getElem?_eq_getElem (by omega)])
        rw [hq] at hq'
        cases hq'
        rw [add_at, hc, Array.getElem?_eq_getElem (by omega)]
      · rw [getD_at (by omega)]
        have : (xs.take 16)[j]'(by omega) = xs[j] := by rw [List.getElem_take]
        rw [this] at hr
        exact hr.restr (fun b _ hb => .inl (hAN b hb))
end
end Go.Proofs.Ytfghidehlnfdiaa
end
section
namespace Go.Proofs.Ytfghidehlnfdiaa
open Go Go.Vcg Go.Trie
abbrev faultOf (e : Int) : List PanicEntry := panOf (.iface 190 (.agg #[.int .i64 e]))
theorem gives_calls (w : World) (n : Int) : Calls Try.prog proof_gives.n #[.int .i64 n] w (fun e w' => w' = w ∧ if n = 0 then e = .returned (.tuple #[]) else e = .panicked (faultOf n)) := by
  refine proof_gives.vc _ _ _ ?_
  unfold proof_gives.Vc
  exact ⟨fun h => ⟨rfl, by rw [if_neg h]⟩, fun h => ⟨rfl, by rw [if_pos h]⟩⟩
theorem CallsV.mono {v : Value} {args : Array Value} {w : World} {R R' : Ending → World → Prop} (h : CallsV Try.prog v args w R) (hr : ∀ e w', R e w' → R' e w') : CallsV Try.prog v args w R' := by
  obtain ⟨f, a, b, h1, h2, h3⟩ := h
  exact ⟨f, a, b, h1, h2, h3.mono hr⟩
def rootIt (h : By) : It := if h = emptyH then .s [] else .s h
theorem good_root {h : By} (hh : h.length = 32) : Good (rootIt h) := by
  unfold rootIt
  split
  · exact .nil
  · exact .hash hh
section
variable {A : Nat → Prop} {w w' : World}
theorem rootOf_calls {h : By} (hh : h.length = 32) :
    Calls Try.prog proof_rootOf.n #[.agg (hashA h)] w (fun e w' => ∃ L, e = .returned (.agg L) ∧ Vcg.Mod NoB w w' ∧ RfC A w' (rootIt h) L) := by
  refine proof_rootOf.vc _ _ _ ?_
  unfold proof_rootOf.Vc
  rintro d1 w1 ⟨rfl, rfl⟩
  have M1 := Mod.alloc (S := NoB) w (.cells (hashA h) 26)
  have X1 := Blk.new w 26 (hashA h)
  have hs1 := size_alloc w (.cells (hashA h) 26)
  generalize hD : w.heap.size = D at *
  generalize w.alloc (.cells (hashA h) 26) = w1 at *
  rintro d3 w2 ⟨rfl, rfl⟩
  rw [ref0_eq]
  have M12 := Mod.alloc (S := NoB) w1 (.cells (rfA zeros32 none false) 193)
  have H2 := Blk.new w1 193 (rfA zeros32 none false)
  have X2 := X1.mod' M12
  generalize hH : w1.heap.size = H at *
  generalize w1.alloc (.cells (rfA zeros32 none false) 193) = w2 at *
  rintro _ rfl
  have M2 := M12.step_drew
  have X3 := X2.drew
  have H3 := H2.drew
  generalize w2.drew = w3 at *
  refine ⟨_, X3.rowAll (size_hashA _), _, X3.rowAll (size_hashA _), ?_⟩
  refine (Empty_calls w3).mono ?_
  rintro _ w4 ⟨rfl, M4⟩
  have X4 := X3.mod' M4
  have H4 := H3.mod' M4
  have M14 := M2.none_trans M4
  refine ⟨_, rfl, X4.rowAll (size_hashA _), X4.rowAll (size_hashA _), _, hash_ne _ _ hh (by unfold emptyH; exact length_sumOf _), _, rfl, size_hashA _, ?_⟩
  rw [rf_built0 (size_hashA h)]
  obtain ⟨w5, hr5, H5, Q5⟩ := ref_store (x := .s h) (A := A) (w0 := w) H4 (size_rfA rfl _ _) (size_rfA (h := (hashA h).toList) (hashL_len _) none (decide (h ≠ emptyH))) (rfA_one (hashA_one _) _ _)
  refine ⟨w5, hr5, _, H5.rowAll (size_rfA (hashL_len _) _ _), _, rfl, M1.none_trans (mod_of M14 Q5 (by omega)), ?_⟩
  unfold rootIt
  by_cases he : h = emptyH
  · rw [if_pos he]
    exact .inl ⟨rfl, (hashA h).toList, hashL_len _, hashA_one _, by rw [decide_eq_false (by simp [he])]⟩
  · rw [if_neg he]
    exact .inr ⟨hh, by rw [decide_eq_true he]⟩
theorem parsed_calls {o : Option Addr} {k : Nat} {bs : By} (hA : ∀ b, w.heap.size ≤ b → ¬ A b) (hr : RdB w o bs) (hk : bs.length ≤ k) :
    Calls Try.prog proof_parsed.n #[.slice o bs.length k] w (fun e w' => Vcg.Mod NoB w w' ∧ (checkOf bs = 0 → ∃ xs b s1 s2 s3, dcod bs = .ok (.l xs) ∧ Good (.l xs) ∧ e = .returned (.tuple #[nvV b s1 s2 s3, .int .i64 0]) ∧ NvC A w' xs b s1 s2 s3) ∧
      (checkOf bs ≠ 0 → e = .returned (.tuple #[nvV false (none, 0, 0) (none, 0, 0) (none, 0, 0), .int .i64 161]))) := by
  refine calls_gen fun R hR => proof_parsed.vc _ _ _ _ _ ?_
  unfold proof_parsed.Vc
  rintro d1 w1 ⟨rfl, rfl⟩
  have M1 := Mod.alloc (S := NoB) w (.cells #[.bool false, .slice none 0 0, .slice none 0 0, .slice none 0 0] 197)
  have V1 := Blk.new w 197 #[.bool false, .slice none 0 0, .slice none 0 0, .slice none 0 0]
  have hs1 := size_alloc w (.cells #[.bool false, .slice none 0 0, .slice none 0 0, .slice none 0 0] 197)
  have hr1 := hr.mod' M1
  generalize hN : w.heap.size = N at *
  generalize w.alloc (.cells #[.bool false, .slice none 0 0, .slice none 0 0, .slice none 0 0] 197) = w1 at *
  refine (Check_calls hr1 hk).mono ?_
  rintro _ w2 ⟨rfl, M2⟩
  have M02 := M1.none_trans M2
  have V2 := V1.mod' M2
  refine ⟨_, rfl, fun hne => ?_, fun h0 => ?_⟩
  · exact ret_4 (b1 := false) (s1 := (none, 0, 0)) (s2 := (none, 0, 0)) (s3 := (none, 0, 0)) V2 (fun w' Q => hR _ _ ⟨mod_of M02 Q (by omega), fun h => (hne h).elim, fun _ => rfl⟩)
  · obtain ⟨xs, hdc, hn, hg⟩ := check_node h0
    refine (Decode_calls (hr1.mod' M2) hk).mono ?_
    rintro e w3 ⟨M3, hd⟩
    unfold DecodeIs at hd
    rw [hdc] at hd
    obtain ⟨v1, v2, v3, rfl, hx⟩ := hd
    obtain ⟨b, p1, q1, r1, p2, q2, r2, rfl, rfl, rfl⟩ := hx.vals
    have M03 := M02.none_trans M3
    refine ⟨_, _, _, _, _, _, _, _, rfl, ?_⟩
    rintro d2 w4 ⟨rfl, rfl⟩
    have H := Blk.new w3 138 #[.bool false, .slice none 0 0, .slice none 0 0]
    refine set3 H rfl rfl rfl (fun w5 H5 Q5 => ?_)
    have M35 : Vcg.Mod NoB w3 w5 := mod_of (Mod.alloc w3 _) Q5 (Nat.le_refl _)
    have M05 := M03.none_trans M35
    have V5 := (V2.mod' M3).mod' M35
    refine get3 H5 ?_
    have hs2 := M02.size
    have hVlt := V2.lt
    have hx5 : ItC (fun b => A b ∨ b = N) w5 (.l xs) (.bool b) (.slice p1 q1 r1) (.slice p2 q2 r2) := ItC.restr (fun b _ hh => by
      rcases hh with hh | hh
      · refine Nat.lt_of_not_le fun hb => hA b (by omega) hh
      · omega) (ItC.mod M35 _ hx)
    refine (nodeOf_calls hg (fun b hb hh => by
      have := M05.size
      have := V5.lt
      rcases hh with hh | hh
      · exact hA b (by omega) hh
      · omega) hx5).mono ?_
    rintro _ w6 ⟨bb, s1, s2, s3, rfl, M6, hn6⟩
    have V6 := V5.mod' M6
    have M06 := M05.none_trans M6
    refine ⟨_, _, _, _, _, _, _, _, _, _, rfl, ret_4 (b1 := bb) (s1 := s1) (s2 := s2) (s3 := s3) V6 (fun w' Q => hR _ _ ⟨mod_of M06 Q (by omega), fun _ => ⟨xs, bb, s1, s2, s3, hdc, hg, rfl, ?_⟩, fun h => (h h0).elim⟩)⟩
    exact (hn6.modA Q (fun b hb => .inr hb)).restr (fun b _ h => .inl h)
variable {S : Nat → Prop} {lab lab' : Nat → Nat}
theorem frz (s : Stp S w lab w' lab') (h6 : ¬ S 6) : Vcg.Mod (fun b => lab b ≠ 6) w w' := s.mod (fun k hk hs e => h6 (e ▸ hs))
theorem frz_lab (s : Stp S w lab w' lab') (b : Nat) : lab' b ≠ 6 → lab b ≠ 6 ∨ w.heap.size ≤ b := fun h => by
  rcases Nat.lt_or_ge b w.heap.size with hb | hb
  · exact .inl (by rw [← s.lab b hb]; exact h)
  · exact .inr hb
theorem RfC.stp {x : It} {L : Array Value} (h : RfC (fun b => lab b ≠ 6) w x L) (s : Stp S w lab w' lab') (h6 : ¬ S 6) : RfC (fun b => lab' b ≠ 6) w' x L :=
  ((h.restr (A' := fun b => lab b ≠ 6 ∨ w.heap.size ≤ b) (fun b hb hh => hh.resolve_right (by omega))).modA (frz s h6) (fun b hb => .inl hb)).restr (fun b _ hh => frz_lab s b hh)
theorem NvC.stp {xs : List It} {b : Bool} {s1 s2 s3 : Option Addr × Nat × Nat} (h : NvC (fun b => lab b ≠ 6) w xs b s1 s2 s3) (s : Stp S w lab w' lab') (h6 : ¬ S 6) : NvC (fun b => lab' b ≠ 6) w' xs b s1 s2 s3 :=
  ((h.restr (A' := fun b => lab b ≠ 6 ∨ w.heap.size ≤ b) (fun b hb hh => hh.resolve_right (by omega))).modA (frz s h6) (fun b hb => .inl hb)).restr (fun b _ hh => frz_lab s b hh)
end
structure AskOK {σ : Type} (ask : Value) (T : Nat → Prop) (Inv : World → (Nat → Nat) → σ → Prop) (step : σ → By → σ × Except Int By) (can : σ → Nat → Prop) : Prop where
  le : ∀ {s : σ} {n m : Nat}, can s n → m ≤ n → can s m
  s5 : ¬ T 5
  s6 : ¬ T 6
  stp : ∀ {w w' : World} {lab lab' : Nat → Nat} {s : σ}, Inv w lab s → Stp (· = 5) w lab w' lab' → Inv w' lab' s
  run : ∀ {w : World} {lab : Nat → Nat} {s : σ} {h : By} {n : Nat}, Inv w lab s → can s (n + 1) → h.length = 32 → CallsV Try.prog ask #[.agg (hashA h)] w (fun e w' => ∃ lab', Stp T w lab w' lab' ∧ Inv w' lab' (step s h).1 ∧ can (step s h).1 n ∧
    (∀ er, (step s h).2 = .error er → e = .panicked (faultOf er) ∧ er ≠ 0) ∧ (∀ b, (step s h).2 = .ok b → ∃ o k, e = .returned (.slice o b.length k) ∧ RdB w' o b ∧ b.length ≤ k))
end Go.Proofs.Ytfghidehlnfdiaa
end
