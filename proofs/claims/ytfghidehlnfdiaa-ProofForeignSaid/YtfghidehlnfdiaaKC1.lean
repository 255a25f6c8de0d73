/- The verification conditions of some functions, printed by a program of ours (wip/PrintVc.lean). -/
/- Memory laws: blocks of cells, and which blocks a step changes. -/
/- Keccak in plain Lean: lanes as functions, the round, the permutation. -/
/- Contracts of Keccak's small functions and of one round. -/
import Derived.Test.YtfghidehlnfdiaaTV
import Derived.Test.YtfghidehlnfdiaaProg
import Derived.KernelRfl
import Derived.Deep.AppendSrc
import Derived.Laws.CopyRow
import Derived.Laws.AppendOwn
import Derived.Below
set_option linter.unusedVariables false
set_option linter.unusedSimpArgs false
section
namespace Go.Proofs.Ytfghidehlnfdiaa
open Go Go.Vcg
abbrev moraineref3_Sum.n : Nat := 18
def moraineref3_Sum.Vc (o0 : Option Addr) (l0 c0 : Nat) (w : World) (R : Ending → World → Prop) : Prop :=
 ∀ d1 w2, IsNew w 26 (Array.replicate 32 (.int .u8 0)) d1 w2 →
 ∀ d3 w4, IsNew w2 40 (Array.replicate 25 (.int .u64 0)) d3 w4 →
 ∃ (I5 : Int → World → Prop) (μ5 : Int → World → Nat), I5 0 w4 ∧
 (∀ (n6 : Int) (j7 : Nat → Value) (w7 : World), I5 n6 w7 →
 (((n6 ≤ ((l0 : Nat) : Int) →
 ∃ (I8 : Int → World → Prop) (μ8 : Int → World → Nat), I8 0 w7 ∧
 (∀ (n9 : Int) (j10 : Nat → Value) (w10 : World), I8 n9 w10 →
 (((n9 < 136 →
 ((((IntKind.wrap .i64 (n6 + n9)) < ((l0 : Nat) : Int) →
 ∃ d11, o0 = some d11 ∧
 ((0 : Int) ≤ (IntKind.wrap .i64 (n6 + n9)) ∧ (IntKind.wrap .i64 (n6 + n9)) < ((l0 : Nat) : Int)) ∧
 ∃ n12, World.cell? w10 (Addr.add d11 (Int.toNat (IntKind.wrap .i64 (n6 + n9)))) = some (.int .u8 n12) ∧
 (((n9 = 135 →
 ((((IntKind.wrap .i64 (n6 + 136)) > ((l0 : Nat) : Int) →
 ∀ w13, IsDrew w10 w13 →
 ((0 : Int) ≤ (IntKind.wrap .i64 (Int.tdiv n9 8)) ∧ (IntKind.wrap .i64 (Int.tdiv n9 8)) < ((25 : Nat) : Int)) ∧
 ∃ n14, World.cell? w13 (Addr.add d3 (Int.toNat (IntKind.wrap .i64 (Int.tdiv n9 8)))) = some (.int .u64 n14) ∧
 (0 : Int) ≤ (IntKind.wrap .i64 (8 * (Int.tmod n9 8))) ∧
 ((0 : Int) ≤ (IntKind.wrap .i64 (Int.tdiv n9 8)) ∧ (IntKind.wrap .i64 (Int.tdiv n9 8)) < ((25 : Nat) : Int)) ∧
 CanSet w13 (Addr.add d3 (Int.toNat (IntKind.wrap .i64 (Int.tdiv n9 8)))) (.int .u64 (bitsI .xor .u64 n14 (shlI .u64 (IntKind.wrap .u64 (bitsI .or .u8 n12 128)) (IntKind.wrap .i64 (8 * (Int.tmod n9 8)))))) ∧ ∀ w15, IsSet w13 (Addr.add d3 (Int.toNat (IntKind.wrap .i64 (Int.tdiv n9 8)))) (.int .u64 (bitsI .xor .u64 n14 (shlI .u64 (IntKind.wrap .u64 (bitsI .or .u8 n12 128)) (IntKind.wrap .i64 (8 * (Int.tmod n9 8)))))) w15 →
 I8 (IntKind.wrap .i64 (n9 + 1)) w15 ∧ μ8 (IntKind.wrap .i64 (n9 + 1)) w15 < μ8 n9 w10)) ∧
 ((¬ (IntKind.wrap .i64 (n6 + 136)) > ((l0 : Nat) : Int) →
 ∀ w16, IsDrew w10 w16 →
 ((0 : Int) ≤ (IntKind.wrap .i64 (Int.tdiv n9 8)) ∧ (IntKind.wrap .i64 (Int.tdiv n9 8)) < ((25 : Nat) : Int)) ∧
 ∃ n17, World.cell? w16 (Addr.add d3 (Int.toNat (IntKind.wrap .i64 (Int.tdiv n9 8)))) = some (.int .u64 n17) ∧
 (0 : Int) ≤ (IntKind.wrap .i64 (8 * (Int.tmod n9 8))) ∧
 ((0 : Int) ≤ (IntKind.wrap .i64 (Int.tdiv n9 8)) ∧ (IntKind.wrap .i64 (Int.tdiv n9 8)) < ((25 : Nat) : Int)) ∧
 CanSet w16 (Addr.add d3 (Int.toNat (IntKind.wrap .i64 (Int.tdiv n9 8)))) (.int .u64 (bitsI .xor .u64 n17 (shlI .u64 (IntKind.wrap .u64 n12) (IntKind.wrap .i64 (8 * (Int.tmod n9 8)))))) ∧ ∀ w18, IsSet w16 (Addr.add d3 (Int.toNat (IntKind.wrap .i64 (Int.tdiv n9 8)))) (.int .u64 (bitsI .xor .u64 n17 (shlI .u64 (IntKind.wrap .u64 n12) (IntKind.wrap .i64 (8 * (Int.tmod n9 8)))))) w18 →
 I8 (IntKind.wrap .i64 (n9 + 1)) w18 ∧ μ8 (IntKind.wrap .i64 (n9 + 1)) w18 < μ8 n9 w10))))) ∧
 ((n9 ≠ 135 →
 ∀ w19, IsDrew w10 w19 →
 ((0 : Int) ≤ (IntKind.wrap .i64 (Int.tdiv n9 8)) ∧ (IntKind.wrap .i64 (Int.tdiv n9 8)) < ((25 : Nat) : Int)) ∧
 ∃ n20, World.cell? w19 (Addr.add d3 (Int.toNat (IntKind.wrap .i64 (Int.tdiv n9 8)))) = some (.int .u64 n20) ∧
 (0 : Int) ≤ (IntKind.wrap .i64 (8 * (Int.tmod n9 8))) ∧
 ((0 : Int) ≤ (IntKind.wrap .i64 (Int.tdiv n9 8)) ∧ (IntKind.wrap .i64 (Int.tdiv n9 8)) < ((25 : Nat) : Int)) ∧
 CanSet w19 (Addr.add d3 (Int.toNat (IntKind.wrap .i64 (Int.tdiv n9 8)))) (.int .u64 (bitsI .xor .u64 n20 (shlI .u64 (IntKind.wrap .u64 n12) (IntKind.wrap .i64 (8 * (Int.tmod n9 8)))))) ∧ ∀ w21, IsSet w19 (Addr.add d3 (Int.toNat (IntKind.wrap .i64 (Int.tdiv n9 8)))) (.int .u64 (bitsI .xor .u64 n20 (shlI .u64 (IntKind.wrap .u64 n12) (IntKind.wrap .i64 (8 * (Int.tmod n9 8)))))) w21 →
 I8 (IntKind.wrap .i64 (n9 + 1)) w21 ∧ μ8 (IntKind.wrap .i64 (n9 + 1)) w21 < μ8 n9 w10))))) ∧
 ((¬ (IntKind.wrap .i64 (n6 + n9)) < ((l0 : Nat) : Int) →
 ((((IntKind.wrap .i64 (n6 + n9)) = ((l0 : Nat) : Int) →
 (((n9 = 135 →
 ((((IntKind.wrap .i64 (n6 + 136)) > ((l0 : Nat) : Int) →
 ∃ v22, Sem.run Try.prog (semBin .or 5 (.tmp 45) (.const (.int .u8 128)) (.int .u8 1) (.int .u8 128)) w10 = .ok v22 w10 ∧
 ∃ n23, v22 = (.int .u8 n23) ∧
 ∀ w24, IsDrew w10 w24 →
 ((0 : Int) ≤ (IntKind.wrap .i64 (Int.tdiv n9 8)) ∧ (IntKind.wrap .i64 (Int.tdiv n9 8)) < ((25 : Nat) : Int)) ∧
 ∃ n25, World.cell? w24 (Addr.add d3 (Int.toNat (IntKind.wrap .i64 (Int.tdiv n9 8)))) = some (.int .u64 n25) ∧
 (0 : Int) ≤ (IntKind.wrap .i64 (8 * (Int.tmod n9 8))) ∧
 ((0 : Int) ≤ (IntKind.wrap .i64 (Int.tdiv n9 8)) ∧ (IntKind.wrap .i64 (Int.tdiv n9 8)) < ((25 : Nat) : Int)) ∧
 CanSet w24 (Addr.add d3 (Int.toNat (IntKind.wrap .i64 (Int.tdiv n9 8)))) (.int .u64 (bitsI .xor .u64 n25 (shlI .u64 (IntKind.wrap .u64 n23) (IntKind.wrap .i64 (8 * (Int.tmod n9 8)))))) ∧ ∀ w26, IsSet w24 (Addr.add d3 (Int.toNat (IntKind.wrap .i64 (Int.tdiv n9 8)))) (.int .u64 (bitsI .xor .u64 n25 (shlI .u64 (IntKind.wrap .u64 n23) (IntKind.wrap .i64 (8 * (Int.tmod n9 8)))))) w26 →
 I8 (IntKind.wrap .i64 (n9 + 1)) w26 ∧ μ8 (IntKind.wrap .i64 (n9 + 1)) w26 < μ8 n9 w10)) ∧
 ((¬ (IntKind.wrap .i64 (n6 + 136)) > ((l0 : Nat) : Int) →
 ∀ w27, IsDrew w10 w27 →
 ((0 : Int) ≤ (IntKind.wrap .i64 (Int.tdiv n9 8)) ∧ (IntKind.wrap .i64 (Int.tdiv n9 8)) < ((25 : Nat) : Int)) ∧
 ∃ n28, World.cell? w27 (Addr.add d3 (Int.toNat (IntKind.wrap .i64 (Int.tdiv n9 8)))) = some (.int .u64 n28) ∧
 (0 : Int) ≤ (IntKind.wrap .i64 (8 * (Int.tmod n9 8))) ∧
 ((0 : Int) ≤ (IntKind.wrap .i64 (Int.tdiv n9 8)) ∧ (IntKind.wrap .i64 (Int.tdiv n9 8)) < ((25 : Nat) : Int)) ∧
 CanSet w27 (Addr.add d3 (Int.toNat (IntKind.wrap .i64 (Int.tdiv n9 8)))) (.int .u64 (bitsI .xor .u64 n28 (shlI .u64 1 (IntKind.wrap .i64 (8 * (Int.tmod n9 8)))))) ∧ ∀ w29, IsSet w27 (Addr.add d3 (Int.toNat (IntKind.wrap .i64 (Int.tdiv n9 8)))) (.int .u64 (bitsI .xor .u64 n28 (shlI .u64 1 (IntKind.wrap .i64 (8 * (Int.tmod n9 8)))))) w29 →
 I8 (IntKind.wrap .i64 (n9 + 1)) w29 ∧ μ8 (IntKind.wrap .i64 (n9 + 1)) w29 < μ8 n9 w10))))) ∧
 ((n9 ≠ 135 →
 ∀ w30, IsDrew w10 w30 →
 ((0 : Int) ≤ (IntKind.wrap .i64 (Int.tdiv n9 8)) ∧ (IntKind.wrap .i64 (Int.tdiv n9 8)) < ((25 : Nat) : Int)) ∧
 ∃ n31, World.cell? w30 (Addr.add d3 (Int.toNat (IntKind.wrap .i64 (Int.tdiv n9 8)))) = some (.int .u64 n31) ∧
 (0 : Int) ≤ (IntKind.wrap .i64 (8 * (Int.tmod n9 8))) ∧
 ((0 : Int) ≤ (IntKind.wrap .i64 (Int.tdiv n9 8)) ∧ (IntKind.wrap .i64 (Int.tdiv n9 8)) < ((25 : Nat) : Int)) ∧
 CanSet w30 (Addr.add d3 (Int.toNat (IntKind.wrap .i64 (Int.tdiv n9 8)))) (.int .u64 (bitsI .xor .u64 n31 (shlI .u64 1 (IntKind.wrap .i64 (8 * (Int.tmod n9 8)))))) ∧ ∀ w32, IsSet w30 (Addr.add d3 (Int.toNat (IntKind.wrap .i64 (Int.tdiv n9 8)))) (.int .u64 (bitsI .xor .u64 n31 (shlI .u64 1 (IntKind.wrap .i64 (8 * (Int.tmod n9 8)))))) w32 →
 I8 (IntKind.wrap .i64 (n9 + 1)) w32 ∧ μ8 (IntKind.wrap .i64 (n9 + 1)) w32 < μ8 n9 w10))))) ∧
 (((IntKind.wrap .i64 (n6 + n9)) ≠ ((l0 : Nat) : Int) →
 (((n9 = 135 →
 ((((IntKind.wrap .i64 (n6 + 136)) > ((l0 : Nat) : Int) →
 ∃ v33, Sem.run Try.prog (semBin .or 5 (.tmp 45) (.const (.int .u8 128)) (.int .u8 0) (.int .u8 128)) w10 = .ok v33 w10 ∧
 ∃ n34, v33 = (.int .u8 n34) ∧
 ∀ w35, IsDrew w10 w35 →
 ((0 : Int) ≤ (IntKind.wrap .i64 (Int.tdiv n9 8)) ∧ (IntKind.wrap .i64 (Int.tdiv n9 8)) < ((25 : Nat) : Int)) ∧
 ∃ n36, World.cell? w35 (Addr.add d3 (Int.toNat (IntKind.wrap .i64 (Int.tdiv n9 8)))) = some (.int .u64 n36) ∧
 (0 : Int) ≤ (IntKind.wrap .i64 (8 * (Int.tmod n9 8))) ∧
 ((0 : Int) ≤ (IntKind.wrap .i64 (Int.tdiv n9 8)) ∧ (IntKind.wrap .i64 (Int.tdiv n9 8)) < ((25 : Nat) : Int)) ∧
 CanSet w35 (Addr.add d3 (Int.toNat (IntKind.wrap .i64 (Int.tdiv n9 8)))) (.int .u64 (bitsI .xor .u64 n36 (shlI .u64 (IntKind.wrap .u64 n34) (IntKind.wrap .i64 (8 * (Int.tmod n9 8)))))) ∧ ∀ w37, IsSet w35 (Addr.add d3 (Int.toNat (IntKind.wrap .i64 (Int.tdiv n9 8)))) (.int .u64 (bitsI .xor .u64 n36 (shlI .u64 (IntKind.wrap .u64 n34) (IntKind.wrap .i64 (8 * (Int.tmod n9 8)))))) w37 →
 I8 (IntKind.wrap .i64 (n9 + 1)) w37 ∧ μ8 (IntKind.wrap .i64 (n9 + 1)) w37 < μ8 n9 w10)) ∧
 ((¬ (IntKind.wrap .i64 (n6 + 136)) > ((l0 : Nat) : Int) →
 ∀ w38, IsDrew w10 w38 →
 ((0 : Int) ≤ (IntKind.wrap .i64 (Int.tdiv n9 8)) ∧ (IntKind.wrap .i64 (Int.tdiv n9 8)) < ((25 : Nat) : Int)) ∧
 ∃ n39, World.cell? w38 (Addr.add d3 (Int.toNat (IntKind.wrap .i64 (Int.tdiv n9 8)))) = some (.int .u64 n39) ∧
 (0 : Int) ≤ (IntKind.wrap .i64 (8 * (Int.tmod n9 8))) ∧
 ((0 : Int) ≤ (IntKind.wrap .i64 (Int.tdiv n9 8)) ∧ (IntKind.wrap .i64 (Int.tdiv n9 8)) < ((25 : Nat) : Int)) ∧
 CanSet w38 (Addr.add d3 (Int.toNat (IntKind.wrap .i64 (Int.tdiv n9 8)))) (.int .u64 (bitsI .xor .u64 n39 (shlI .u64 0 (IntKind.wrap .i64 (8 * (Int.tmod n9 8)))))) ∧ ∀ w40, IsSet w38 (Addr.add d3 (Int.toNat (IntKind.wrap .i64 (Int.tdiv n9 8)))) (.int .u64 (bitsI .xor .u64 n39 (shlI .u64 0 (IntKind.wrap .i64 (8 * (Int.tmod n9 8)))))) w40 →
 I8 (IntKind.wrap .i64 (n9 + 1)) w40 ∧ μ8 (IntKind.wrap .i64 (n9 + 1)) w40 < μ8 n9 w10))))) ∧
 ((n9 ≠ 135 →
 ∀ w41, IsDrew w10 w41 →
 ((0 : Int) ≤ (IntKind.wrap .i64 (Int.tdiv n9 8)) ∧ (IntKind.wrap .i64 (Int.tdiv n9 8)) < ((25 : Nat) : Int)) ∧
 ∃ n42, World.cell? w41 (Addr.add d3 (Int.toNat (IntKind.wrap .i64 (Int.tdiv n9 8)))) = some (.int .u64 n42) ∧
 (0 : Int) ≤ (IntKind.wrap .i64 (8 * (Int.tmod n9 8))) ∧
 ((0 : Int) ≤ (IntKind.wrap .i64 (Int.tdiv n9 8)) ∧ (IntKind.wrap .i64 (Int.tdiv n9 8)) < ((25 : Nat) : Int)) ∧
 CanSet w41 (Addr.add d3 (Int.toNat (IntKind.wrap .i64 (Int.tdiv n9 8)))) (.int .u64 (bitsI .xor .u64 n42 (shlI .u64 0 (IntKind.wrap .i64 (8 * (Int.tmod n9 8)))))) ∧ ∀ w43, IsSet w41 (Addr.add d3 (Int.toNat (IntKind.wrap .i64 (Int.tdiv n9 8)))) (.int .u64 (bitsI .xor .u64 n42 (shlI .u64 0 (IntKind.wrap .i64 (8 * (Int.tmod n9 8)))))) w43 →
 I8 (IntKind.wrap .i64 (n9 + 1)) w43 ∧ μ8 (IntKind.wrap .i64 (n9 + 1)) w43 < μ8 n9 w10))))))))))) ∧
 ((¬ n9 < 136 →
 ∃ L44, RowAt w10 d3 25 L44 ∧
 Calls Try.prog 24 #[(.agg L44)] w10 (fun e45 w46 =>
 ∃ L47, e45 = .returned (.agg L47) ∧
 ∃ w48, Sem.run Try.prog (Instr.storeAt 40 (.pointer (some d3)) (.agg L47)) w46 = .ok () w48 ∧
 I5 (IntKind.wrap .i64 (n6 + 136)) w48 ∧ μ5 (IntKind.wrap .i64 (n6 + 136)) w48 < μ5 n6 w7))))))) ∧
 ((¬ n6 ≤ ((l0 : Nat) : Int) →
 ∀ d49 w50, IsNew w7 26 (Array.replicate 32 (.int .u8 0)) d49 w50 →
 ∃ (I51 : Int → World → Prop) (μ51 : Int → World → Nat), I51 0 w50 ∧
 (∀ (n52 : Int) (j53 : Nat → Value) (w53 : World), I51 n52 w53 →
 (((n52 < 32 →
 ((0 : Int) ≤ (IntKind.wrap .i64 (Int.tdiv n52 8)) ∧ (IntKind.wrap .i64 (Int.tdiv n52 8)) < ((25 : Nat) : Int)) ∧
 ∃ n54, World.cell? w53 (Addr.add d3 (Int.toNat (IntKind.wrap .i64 (Int.tdiv n52 8)))) = some (.int .u64 n54) ∧
 (0 : Int) ≤ (IntKind.wrap .i64 (8 * (Int.tmod n52 8))) ∧
 ((0 : Int) ≤ n52 ∧ n52 < ((32 : Nat) : Int)) ∧
 CanSet w53 (Addr.add d49 (Int.toNat n52)) (.int .u8 (IntKind.wrap .u8 (shrI .u64 n54 (IntKind.wrap .i64 (8 * (Int.tmod n52 8)))))) ∧ ∀ w55, IsSet w53 (Addr.add d49 (Int.toNat n52)) (.int .u8 (IntKind.wrap .u8 (shrI .u64 n54 (IntKind.wrap .i64 (8 * (Int.tmod n52 8)))))) w55 →
 I51 (IntKind.wrap .i64 (n52 + 1)) w55 ∧ μ51 (IntKind.wrap .i64 (n52 + 1)) w55 < μ51 n52 w53)) ∧
 ((¬ n52 < 32 →
 ∃ L56, RowAt w53 d49 32 L56 ∧
 ∃ w57, Sem.run Try.prog (Instr.storeAt 26 (.pointer (some d1)) (.agg L56)) w53 = .ok () w57 ∧
 ∃ L58, RowAt w57 d1 32 L58 ∧
 R (.returned (.agg L58)) w57))))))))
theorem moraineref3_Sum.vc (o0 l0 c0 w R) (h : moraineref3_Sum.Vc o0 l0 c0 w R) : Calls Try.prog 18 #[(.slice o0 l0 c0)] w R := xs [(4, [(5, .cell (.int .i64))]), (7, [(6, .cell (.int .i64))]), (20, [(9, .cell (.int .i64))])] [.slice o0 l0 c0] Try.func18 mixed (by kernel_rfl) h

abbrev keccak_Sum.n : Nat := 19
def keccak_Sum.Vc (o0 : Option Addr) (l0 c0 : Nat) (w : World) (R : Ending → World → Prop) : Prop :=
 ∀ d1 w2, IsNew w 26 (Array.replicate 32 (.int .u8 0)) d1 w2 →
 Calls Try.prog 20 #[] w2 (fun e3 w4 =>
 ∃ o5, e3 = .returned (.pointer o5) ∧
 ∃ (I6 : Int → World → Prop) (μ6 : Int → World → Nat), I6 0 w4 ∧
 (∀ (n7 : Int) (j8 : Nat → Value) (w8 : World), I6 n7 w8 →
 (((n7 < ((l0 : Nat) : Int) →
 ∃ d9, o0 = some d9 ∧
 ((0 : Int) ≤ n7 ∧ n7 < ((l0 : Nat) : Int)) ∧
 ∃ o10 l11 l12, World.cell? w8 (Addr.add d9 (Int.toNat n7)) = some (.slice o10 l11 l12) ∧
 Calls Try.prog 21 #[(.pointer o5), (.slice o10 l11 l12)] w8 (fun e13 w14 =>
 e13 = .returned (.tuple #[]) ∧
 I6 (IntKind.wrap .i64 (n7 + 1)) w14 ∧ μ6 (IntKind.wrap .i64 (n7 + 1)) w14 < μ6 n7 w8))) ∧
 ((¬ n7 < ((l0 : Nat) : Int) →
 Calls Try.prog 22 #[(.pointer o5)] w8 (fun e15 w16 =>
 ∃ L17, e15 = .returned (.agg L17) ∧
 ∃ w18, Sem.run Try.prog (Instr.storeAt 26 (.pointer (some d1)) (.agg L17)) w16 = .ok () w18 ∧
 ∃ L19, RowAt w18 d1 32 L19 ∧
 R (.returned (.agg L19)) w18))))))
theorem keccak_Sum.vc (o0 l0 c0 w R) (h : keccak_Sum.Vc o0 l0 c0 w R) : Calls Try.prog 19 #[(.slice o0 l0 c0)] w R := xs [(3, [(9, .cell (.int .i64))])] [.slice o0 l0 c0] Try.func19 mixed (by kernel_rfl) h

abbrev keccak_New.n : Nat := 20
def keccak_New.Vc  (w : World) (R : Ending → World → Prop) : Prop :=
 Calls Try.prog 65 #[] w (fun e0 w1 =>
 ∃ L2, e0 = .returned (.agg L2) ∧
 Array.size L2 = 49 ∧
 ∀ d3 w4, IsNew w1 112 (lputL #[(.int .u64 0), (.int .u64 0), (.int .u64 0), (.int .u64 0), (.int .u64 0), (.int .u64 0), (.int .u64 0), (.int .u64 0), (.int .u64 0), (.int .u64 0), (.int .u64 0), (.int .u64 0), (.int .u64 0), (.int .u64 0), (.int .u64 0), (.int .u64 0), (.int .u64 0), (.int .u64 0), (.int .u64 0), (.int .u64 0), (.int .u64 0), (.int .u64 0), (.int .u64 0), (.int .u64 0), (.int .i64 0), (.int .i64 0), (.int .i64 0), (.int .i64 0), (.int .i64 0), (.int .i64 0), (.int .i64 0), (.int .i64 0), (.int .i64 0), (.int .i64 0), (.int .i64 0), (.int .i64 0), (.int .i64 0), (.int .i64 0), (.int .i64 0), (.int .i64 0), (.int .i64 0), (.int .i64 0), (.int .i64 0), (.int .i64 0), (.int .i64 0), (.int .i64 0), (.int .i64 0), (.int .i64 0), (.int .i64 0), (.int .u64 0), (.int .u64 0), (.int .u64 0), (.int .u64 0), (.int .u64 0), (.int .u64 0), (.int .u64 0), (.int .u64 0), (.int .u64 0), (.int .u64 0), (.int .u64 0), (.int .u64 0), (.int .u64 0), (.int .u64 0), (.int .u64 0), (.int .u64 0), (.int .u64 0), (.int .u64 0), (.int .u64 0), (.int .u64 0), (.int .u64 0), (.int .u64 0), (.int .u64 0), (.int .u64 0), (.int .u64 0), (.slice none 0 0)] 0 49 L2) d3 w4 →
 R (.returned (.pointer (some d3))) w4)
theorem keccak_New.vc  (w : World) (R : Ending → World → Prop) (h : keccak_New.Vc w R) : Calls Try.prog 20 #[] w R :=
 execF_sound (R := ⟨R, false⟩) (ann := []) (args := []) Try.func20 mixed (Eq.mp (by kernel_rfl : keccak_New.Vc w R = execF (pA Try.prog ⟨R, false⟩) Try.prog [] Try.f20 [] w) h)

abbrev keccak_Sponge_Write.n : Nat := 21
def keccak_Sponge_Write.Vc (d0 : Addr) (o1 : Option Addr) (l1 c1 : Nat) (w : World) (R : Ending → World → Prop) : Prop :=
 ∃ o2 l3 l4, World.cell? w (Addr.add d0 74) = some (.slice o2 l3 l4) ∧
 ∃ v5 w6, Sem.run Try.prog (builtinV .append #[22, 22] 22 #[(.slice o2 l3 l4), (.slice o1 l1 c1)]) w = .ok v5 w6 ∧
 ∃ o7 l8 l9, v5 = (.slice o7 l8 l9) ∧
 CanSet w6 (Addr.add d0 74) (.slice o7 l8 l9) ∧ ∀ w10, IsSet w6 (Addr.add d0 74) (.slice o7 l8 l9) w10 →
 ∃ (I11 : Int → World → Prop) (μ11 : Int → World → Nat), I11 0 w10 ∧
 (∀ (n12 : Int) (j13 : Nat → Value) (w13 : World), I11 n12 w13 →
 ∃ o14 l15 l16, World.cell? w13 (Addr.add d0 74) = some (.slice o14 l15 l16) ∧
 ((((IntKind.wrap .i64 (((l15 : Nat) : Int) - n12)) ≥ 136 →
 ∀ w17, IsDrew w13 w17 →
 ∃ L18, RowAt w17 (Addr.add d0 49) 25 L18 ∧
 ∃ o19 l20 l21, World.cell? w17 (Addr.add d0 74) = some (.slice o19 l20 l21) ∧
 ((0 : Int) ≤ (IntKind.wrap .i64 (n12 + 136)) ∧ (IntKind.wrap .i64 (n12 + 136)) ≤ ((l21 : Nat) : Int)) ∧
 ((0 : Int) ≤ n12 ∧ n12 ≤ (((Int.toNat (IntKind.wrap .i64 (n12 + 136))) : Nat) : Int)) ∧
 Calls Try.prog 66 #[(.agg L18), (.pointer (some d0)), (.slice (subO o19 l21 (Int.toNat n12) 1) ((Int.toNat (IntKind.wrap .i64 (n12 + 136))) - (Int.toNat n12)) (l21 - (Int.toNat n12)))] w17 (fun e22 w23 =>
 ∃ L24, e22 = .returned (.agg L24) ∧
 ∃ w25, Sem.run Try.prog (Instr.storeAt 110 (.pointer (some (Addr.add d0 49))) (.agg L24)) w23 = .ok () w25 ∧
 I11 (IntKind.wrap .i64 (n12 + 136)) w25 ∧ μ11 (IntKind.wrap .i64 (n12 + 136)) w25 < μ11 n12 w13))) ∧
 ((¬ (IntKind.wrap .i64 (((l15 : Nat) : Int) - n12)) ≥ 136 →
 ∀ w26, IsDrew w13 w26 →
 ∃ o27 l28 l29, World.cell? w26 (Addr.add d0 74) = some (.slice o27 l28 l29) ∧
 ∃ o30 l31 l32, World.cell? w26 (Addr.add d0 74) = some (.slice o30 l31 l32) ∧
 ∃ o33 l34 l35, World.cell? w26 (Addr.add d0 74) = some (.slice o33 l34 l35) ∧
 ((0 : Int) ≤ n12 ∧ n12 ≤ ((l34 : Nat) : Int)) ∧
 ∃ v36 w37, Sem.run Try.prog (builtinV .copy #[22, 22] 3 #[(.slice o30 l31 l32), (.slice (subO o33 l35 (Int.toNat n12) 1) (l34 - (Int.toNat n12)) (l35 - (Int.toNat n12)))]) w26 = .ok v36 w37 ∧
 ∃ n38, v36 = (.int .i64 n38) ∧
 World.cell? w37 (Addr.add d0 74) = some (.slice o27 l28 l29) ∧
 ((0 : Int) ≤ n38 ∧ n38 ≤ ((l29 : Nat) : Int)) ∧
 CanSet w37 (Addr.add d0 74) (.slice o27 (Int.toNat n38) l29) ∧ ∀ w39, IsSet w37 (Addr.add d0 74) (.slice o27 (Int.toNat n38) l29) w39 →
 R (.returned (.tuple #[])) w39))))
theorem keccak_Sponge_Write.vc (d0 o1 l1 c1 w R) (h : keccak_Sponge_Write.Vc d0 o1 l1 c1 w R) : Calls Try.prog 21 #[(.pointer (some d0)), (.slice o1 l1 c1)] w R := xs [(2, [(4, .cell (.int .i64))])] [.addr d0, .slice o1 l1 c1] Try.func21 mixed (by kernel_rfl) h

abbrev keccak_Sponge_Sum.n : Nat := 22
def keccak_Sponge_Sum.Vc (d0 : Addr) (w : World) (R : Ending → World → Prop) : Prop :=
 ∀ d1 w2, IsNew w 26 (Array.replicate 32 (.int .u8 0)) d1 w2 →
 ∀ d3 w4, IsNew w2 115 (Array.replicate 136 (.int .u8 0)) d3 w4 →
 ∀ w5, IsDrew w4 w5 →
 ∃ o6 l7 l8, World.cell? w5 (Addr.add d0 74) = some (.slice o6 l7 l8) ∧
 ∃ v9 w10, Sem.run Try.prog (builtinV .copy #[22, 22] 3 #[(.slice (some d3) 136 136), (.slice o6 l7 l8)]) w5 = .ok v9 w10 ∧
 ∃ n11, v9 = (.int .i64 n11) ∧
 ((0 : Int) ≤ n11 ∧ n11 < ((136 : Nat) : Int)) ∧
 CanSet w10 (Addr.add d3 (Int.toNat n11)) (.int .u8 1) ∧ ∀ w12, IsSet w10 (Addr.add d3 (Int.toNat n11)) (.int .u8 1) w12 →
 ∃ n13, World.cell? w12 (Addr.add d3 135) = some (.int .u8 n13) ∧
 CanSet w12 (Addr.add d3 135) (.int .u8 (bitsI .or .u8 n13 128)) ∧ ∀ w14, IsSet w12 (Addr.add d3 135) (.int .u8 (bitsI .or .u8 n13 128)) w14 →
 ∀ w15, IsDrew w14 w15 →
 ∃ L16, RowAt w15 (Addr.add d0 49) 25 L16 ∧
 ((Calls Try.prog 66 #[(.agg L16), (.pointer (some d0)), (.slice (some d3) 136 136)] w15 (fun e17 w18 =>
 ∃ L19, e17 = .returned (.agg L19) ∧
 ∀ d20 w21, IsNew w18 110 (Array.replicate 25 (.int .u64 0)) d20 w21 →
 ∃ w22, Sem.run Try.prog (Instr.storeAt 110 (.pointer (some d20)) (.agg L19)) w21 = .ok () w22 ∧
 ∀ d23 w24, IsNew w22 26 (Array.replicate 32 (.int .u8 0)) d23 w24 →
 ∃ (I25 : Int → World → Prop) (μ25 : Int → World → Nat), I25 0 w24 ∧
 (∀ (n26 : Int) (j27 : Nat → Value) (w27 : World), I25 n26 w27 →
 (((n26 < 4 →
 ∀ w28, IsDrew w27 w28 →
 ((0 : Int) ≤ (IntKind.wrap .i64 (8 * n26)) ∧ (IntKind.wrap .i64 (8 * n26)) ≤ ((32 : Nat) : Int)) ∧
 ((0 : Int) ≤ n26 ∧ n26 < ((25 : Nat) : Int)) ∧
 ∃ n29, World.cell? w28 (Addr.add d20 (Int.toNat n26)) = some (.int .u64 n29) ∧
 Calls Try.prog 67 #[(.slice none 0 0), (.int .u64 n29), (.int .i64 8)] w28 (fun e30 w31 =>
 ∃ o32 l33 l34, e30 = .returned (.slice o32 l33 l34) ∧
 ∃ v35 w36, Sem.run Try.prog (builtinV .copy #[22, 22] 3 #[(.slice (some (subD d23 32 (Int.toNat (IntKind.wrap .i64 (8 * n26))) 1)) (32 - (Int.toNat (IntKind.wrap .i64 (8 * n26)))) (32 - (Int.toNat (IntKind.wrap .i64 (8 * n26))))), (.slice o32 l33 l34)]) w31 = .ok v35 w36 ∧
 ∃ n37, v35 = (.int .i64 n37) ∧
 I25 (IntKind.wrap .i64 (n26 + 1)) w36 ∧ μ25 (IntKind.wrap .i64 (n26 + 1)) w36 < μ25 n26 w27))) ∧
 ((¬ n26 < 4 →
 ∃ L38, RowAt w27 d23 32 L38 ∧
 ∃ w39, Sem.run Try.prog (Instr.storeAt 26 (.pointer (some d1)) (.agg L38)) w27 = .ok () w39 ∧
 ∃ L40, RowAt w39 d1 32 L40 ∧
 R (.returned (.agg L40)) w39)))))) ∧
 (∀ d41 w42, IsNew w15 110 (Array.replicate 25 (.int .u64 0)) d41 w42 →
 RowAt w42 (Addr.add d0 49) 25 L16 ∧
 Calls Try.prog 66 #[(.agg L16), (.pointer (some d0)), (.slice (some d3) 136 136)] w42 (fun e43 w44 =>
 ∃ L45, e43 = .returned (.agg L45) ∧
 ∃ w46, Sem.run Try.prog (Instr.storeAt 110 (.pointer (some d41)) (.agg L45)) w44 = .ok () w46 ∧
 ∀ d47 w48, IsNew w46 26 (Array.replicate 32 (.int .u8 0)) d47 w48 →
 ∃ (I49 : Int → World → Prop) (μ49 : Int → World → Nat), I49 0 w48 ∧
 (∀ (n50 : Int) (j51 : Nat → Value) (w51 : World), I49 n50 w51 →
 (((n50 < 4 →
 ∀ w52, IsDrew w51 w52 →
 ((0 : Int) ≤ (IntKind.wrap .i64 (8 * n50)) ∧ (IntKind.wrap .i64 (8 * n50)) ≤ ((32 : Nat) : Int)) ∧
 ((0 : Int) ≤ n50 ∧ n50 < ((25 : Nat) : Int)) ∧
 ∃ n53, World.cell? w52 (Addr.add d41 (Int.toNat n50)) = some (.int .u64 n53) ∧
 Calls Try.prog 67 #[(.slice none 0 0), (.int .u64 n53), (.int .i64 8)] w52 (fun e54 w55 =>
 ∃ o56 l57 l58, e54 = .returned (.slice o56 l57 l58) ∧
 ∃ v59 w60, Sem.run Try.prog (builtinV .copy #[22, 22] 3 #[(.slice (some (subD d47 32 (Int.toNat (IntKind.wrap .i64 (8 * n50))) 1)) (32 - (Int.toNat (IntKind.wrap .i64 (8 * n50)))) (32 - (Int.toNat (IntKind.wrap .i64 (8 * n50))))), (.slice o56 l57 l58)]) w55 = .ok v59 w60 ∧
 ∃ n61, v59 = (.int .i64 n61) ∧
 I49 (IntKind.wrap .i64 (n50 + 1)) w60 ∧ μ49 (IntKind.wrap .i64 (n50 + 1)) w60 < μ49 n50 w51))) ∧
 ((¬ n50 < 4 →
 ∃ L62, RowAt w51 d47 32 L62 ∧
 ∃ w63, Sem.run Try.prog (Instr.storeAt 26 (.pointer (some d1)) (.agg L62)) w51 = .ok () w63 ∧
 ∃ L64, RowAt w63 d1 32 L64 ∧
 R (.returned (.agg L64)) w63)))))))
theorem keccak_Sponge_Sum.vc (d0 w R) (h : keccak_Sponge_Sum.Vc d0 w R) : Calls Try.prog 22 #[(.pointer (some d0))] w R := xs [(8, [(29, .cell (.int .i64))])] [.addr d0] Try.func22 mixed (by kernel_rfl) h


abbrev moraineref3_Permute.n : Nat := 24
def moraineref3_Permute.Vc (L0 : Array Value) (w : World) (R : Ending → World → Prop) : Prop :=
 ∀ d1 w2, IsNew w 40 L0 d1 w2 →
 ∀ d3 w4, IsNew w2 40 (Array.replicate 25 (.int .u64 0)) d3 w4 →
 ∀ d5 w6, IsNew w4 106 (Array.replicate 25 (.int .i64 0)) d5 w6 →
 ∃ w7, Sem.run Try.prog (Instr.storeAt 106 (.pointer (some d5)) (.agg (Array.replicate 25 (.int .i64 0)))) w6 = .ok () w7 ∧
 ∃ (I8 : Int → Int → Int → World → Prop) (μ8 : Int → Int → Int → World → Nat), I8 1 0 0 w7 ∧
 (∀ (n9 : Int) (n10 : Int) (n11 : Int) (j12 : Nat → Value) (w12 : World), I8 n9 n10 n11 w12 →
 (((n11 < 24 →
 ((0 : Int) ≤ (IntKind.wrap .i64 (n9 + (IntKind.wrap .i64 (5 * n10)))) ∧ (IntKind.wrap .i64 (n9 + (IntKind.wrap .i64 (5 * n10)))) < ((25 : Nat) : Int)) ∧
 CanSet w12 (Addr.add d5 (Int.toNat (IntKind.wrap .i64 (n9 + (IntKind.wrap .i64 (5 * n10)))))) (.int .i64 (Int.tmod (IntKind.wrap .i64 (Int.tdiv (IntKind.wrap .i64 ((IntKind.wrap .i64 (n11 + 1)) * (IntKind.wrap .i64 (n11 + 2)))) 2)) 64)) ∧ ∀ w13, IsSet w12 (Addr.add d5 (Int.toNat (IntKind.wrap .i64 (n9 + (IntKind.wrap .i64 (5 * n10)))))) (.int .i64 (Int.tmod (IntKind.wrap .i64 (Int.tdiv (IntKind.wrap .i64 ((IntKind.wrap .i64 (n11 + 1)) * (IntKind.wrap .i64 (n11 + 2)))) 2)) 64)) w13 →
 I8 n10 (Int.tmod (IntKind.wrap .i64 ((IntKind.wrap .i64 (2 * n9)) + (IntKind.wrap .i64 (3 * n10)))) 5) (IntKind.wrap .i64 (n11 + 1)) w13 ∧ μ8 n10 (Int.tmod (IntKind.wrap .i64 ((IntKind.wrap .i64 (2 * n9)) + (IntKind.wrap .i64 (3 * n10)))) 5) (IntKind.wrap .i64 (n11 + 1)) w13 < μ8 n9 n10 n11 w12)) ∧
 ((¬ n11 < 24 →
 ∃ (I14 : Int → Int → World → Prop) (μ14 : Int → Int → World → Nat), I14 1 0 w12 ∧
 (∀ (n15 : Int) (n16 : Int) (j17 : Nat → Value) (w17 : World), I14 n15 n16 w17 →
 (((n16 < 24 →
 ∀ d18 w19, IsNew w17 118 #[(.int .u64 0), (.int .u64 0), (.int .u64 0), (.int .u64 0), (.int .u64 0)] d18 w19 →
 ∃ (I20 : Int → World → Prop) (μ20 : Int → World → Nat), I20 0 w19 ∧
 (∀ (n21 : Int) (j22 : Nat → Value) (w22 : World), I20 n21 w22 →
 (((n21 < 5 →
 ∀ w23, IsDrew w22 w23 →
 ((0 : Int) ≤ n21 ∧ n21 < ((25 : Nat) : Int)) ∧
 ∃ n24, World.cell? w23 (Addr.add d1 (Int.toNat n21)) = some (.int .u64 n24) ∧
 ((0 : Int) ≤ (IntKind.wrap .i64 (n21 + 5)) ∧ (IntKind.wrap .i64 (n21 + 5)) < ((25 : Nat) : Int)) ∧
 ∃ n25, World.cell? w23 (Addr.add d1 (Int.toNat (IntKind.wrap .i64 (n21 + 5)))) = some (.int .u64 n25) ∧
 ((0 : Int) ≤ (IntKind.wrap .i64 (n21 + 10)) ∧ (IntKind.wrap .i64 (n21 + 10)) < ((25 : Nat) : Int)) ∧
 ∃ n26, World.cell? w23 (Addr.add d1 (Int.toNat (IntKind.wrap .i64 (n21 + 10)))) = some (.int .u64 n26) ∧
 ((0 : Int) ≤ (IntKind.wrap .i64 (n21 + 15)) ∧ (IntKind.wrap .i64 (n21 + 15)) < ((25 : Nat) : Int)) ∧
 ∃ n27, World.cell? w23 (Addr.add d1 (Int.toNat (IntKind.wrap .i64 (n21 + 15)))) = some (.int .u64 n27) ∧
 ((0 : Int) ≤ (IntKind.wrap .i64 (n21 + 20)) ∧ (IntKind.wrap .i64 (n21 + 20)) < ((25 : Nat) : Int)) ∧
 ∃ n28, World.cell? w23 (Addr.add d1 (Int.toNat (IntKind.wrap .i64 (n21 + 20)))) = some (.int .u64 n28) ∧
 ((0 : Int) ≤ n21 ∧ n21 < ((5 : Nat) : Int)) ∧
 CanSet w23 (Addr.add d18 (Int.toNat n21)) (.int .u64 (bitsI .xor .u64 (bitsI .xor .u64 (bitsI .xor .u64 (bitsI .xor .u64 n24 n25) n26) n27) n28)) ∧ ∀ w29, IsSet w23 (Addr.add d18 (Int.toNat n21)) (.int .u64 (bitsI .xor .u64 (bitsI .xor .u64 (bitsI .xor .u64 (bitsI .xor .u64 n24 n25) n26) n27) n28)) w29 →
 I20 (IntKind.wrap .i64 (n21 + 1)) w29 ∧ μ20 (IntKind.wrap .i64 (n21 + 1)) w29 < μ20 n21 w22)) ∧
 ((¬ n21 < 5 →
 ∀ d30 w31, IsNew w22 40 (Array.replicate 25 (.int .u64 0)) d30 w31 →
 ∃ (I32 : Int → World → Prop) (μ32 : Int → World → Nat), I32 0 w31 ∧
 (∀ (n33 : Int) (j34 : Nat → Value) (w34 : World), I32 n33 w34 →
 (((n33 < 5 →
 ∃ (I35 : Int → World → Prop) (μ35 : Int → World → Nat), I35 0 w34 ∧
 (∀ (n36 : Int) (j37 : Nat → Value) (w37 : World), I35 n36 w37 →
 (((n36 < 5 →
 ∀ w38, IsDrew w37 w38 →
 ((0 : Int) ≤ (IntKind.wrap .i64 (n33 + (IntKind.wrap .i64 (5 * n36)))) ∧ (IntKind.wrap .i64 (n33 + (IntKind.wrap .i64 (5 * n36)))) < ((25 : Nat) : Int)) ∧
 ∃ n39, World.cell? w38 (Addr.add d1 (Int.toNat (IntKind.wrap .i64 (n33 + (IntKind.wrap .i64 (5 * n36)))))) = some (.int .u64 n39) ∧
 ((0 : Int) ≤ (Int.tmod (IntKind.wrap .i64 (n33 + 4)) 5) ∧ (Int.tmod (IntKind.wrap .i64 (n33 + 4)) 5) < ((5 : Nat) : Int)) ∧
 ∃ n40, World.cell? w38 (Addr.add d18 (Int.toNat (Int.tmod (IntKind.wrap .i64 (n33 + 4)) 5))) = some (.int .u64 n40) ∧
 ((0 : Int) ≤ (Int.tmod (IntKind.wrap .i64 (n33 + 1)) 5) ∧ (Int.tmod (IntKind.wrap .i64 (n33 + 1)) 5) < ((5 : Nat) : Int)) ∧
 ∃ n41, World.cell? w38 (Addr.add d18 (Int.toNat (Int.tmod (IntKind.wrap .i64 (n33 + 1)) 5))) = some (.int .u64 n41) ∧
 Calls Try.prog 69 #[(.int .u64 n41), (.int .i64 1)] w38 (fun e42 w43 =>
 ∃ n44, e42 = .returned (.int .u64 n44) ∧
 World.cell? w43 (Addr.add d18 (Int.toNat (Int.tmod (IntKind.wrap .i64 (n33 + 4)) 5))) = some (.int .u64 n40) ∧
 World.cell? w43 (Addr.add d1 (Int.toNat (IntKind.wrap .i64 (n33 + (IntKind.wrap .i64 (5 * n36)))))) = some (.int .u64 n39) ∧
 ((0 : Int) ≤ (IntKind.wrap .i64 (n33 + (IntKind.wrap .i64 (5 * n36)))) ∧ (IntKind.wrap .i64 (n33 + (IntKind.wrap .i64 (5 * n36)))) < ((25 : Nat) : Int)) ∧
 ∃ n45, World.cell? w43 (Addr.add d5 (Int.toNat (IntKind.wrap .i64 (n33 + (IntKind.wrap .i64 (5 * n36)))))) = some (.int .i64 n45) ∧
 Calls Try.prog 69 #[(.int .u64 (bitsI .xor .u64 (bitsI .xor .u64 n39 n40) n44)), (.int .i64 n45)] w43 (fun e46 w47 =>
 ∃ n48, e46 = .returned (.int .u64 n48) ∧
 ((0 : Int) ≤ (IntKind.wrap .i64 (n36 + (IntKind.wrap .i64 (5 * (Int.tmod (IntKind.wrap .i64 ((IntKind.wrap .i64 (2 * n33)) + (IntKind.wrap .i64 (3 * n36)))) 5))))) ∧ (IntKind.wrap .i64 (n36 + (IntKind.wrap .i64 (5 * (Int.tmod (IntKind.wrap .i64 ((IntKind.wrap .i64 (2 * n33)) + (IntKind.wrap .i64 (3 * n36)))) 5))))) < ((25 : Nat) : Int)) ∧
 CanSet w47 (Addr.add d30 (Int.toNat (IntKind.wrap .i64 (n36 + (IntKind.wrap .i64 (5 * (Int.tmod (IntKind.wrap .i64 ((IntKind.wrap .i64 (2 * n33)) + (IntKind.wrap .i64 (3 * n36)))) 5))))))) (.int .u64 n48) ∧ ∀ w49, IsSet w47 (Addr.add d30 (Int.toNat (IntKind.wrap .i64 (n36 + (IntKind.wrap .i64 (5 * (Int.tmod (IntKind.wrap .i64 ((IntKind.wrap .i64 (2 * n33)) + (IntKind.wrap .i64 (3 * n36)))) 5))))))) (.int .u64 n48) w49 →
 I35 (IntKind.wrap .i64 (n36 + 1)) w49 ∧ μ35 (IntKind.wrap .i64 (n36 + 1)) w49 < μ35 n36 w37)))) ∧
 ((¬ n36 < 5 →
 I32 (IntKind.wrap .i64 (n33 + 1)) w37 ∧ μ32 (IntKind.wrap .i64 (n33 + 1)) w37 < μ32 n33 w34)))))) ∧
 ((¬ n33 < 5 →
 ∃ (I50 : Int → World → Prop) (μ50 : Int → World → Nat), I50 0 w34 ∧
 (∀ (n51 : Int) (j52 : Nat → Value) (w52 : World), I50 n51 w52 →
 (((n51 < 5 →
 ∃ (I53 : Int → World → Prop) (μ53 : Int → World → Nat), I53 0 w52 ∧
 (∀ (n54 : Int) (j55 : Nat → Value) (w55 : World), I53 n54 w55 →
 (((n54 < 5 →
 ∀ w56, IsDrew w55 w56 →
 ((0 : Int) ≤ (IntKind.wrap .i64 (n51 + (IntKind.wrap .i64 (5 * n54)))) ∧ (IntKind.wrap .i64 (n51 + (IntKind.wrap .i64 (5 * n54)))) < ((25 : Nat) : Int)) ∧
 ∃ n57, World.cell? w56 (Addr.add d30 (Int.toNat (IntKind.wrap .i64 (n51 + (IntKind.wrap .i64 (5 * n54)))))) = some (.int .u64 n57) ∧
 ((0 : Int) ≤ (IntKind.wrap .i64 ((Int.tmod (IntKind.wrap .i64 (n51 + 1)) 5) + (IntKind.wrap .i64 (5 * n54)))) ∧ (IntKind.wrap .i64 ((Int.tmod (IntKind.wrap .i64 (n51 + 1)) 5) + (IntKind.wrap .i64 (5 * n54)))) < ((25 : Nat) : Int)) ∧
 ∃ n58, World.cell? w56 (Addr.add d30 (Int.toNat (IntKind.wrap .i64 ((Int.tmod (IntKind.wrap .i64 (n51 + 1)) 5) + (IntKind.wrap .i64 (5 * n54)))))) = some (.int .u64 n58) ∧
 ((0 : Int) ≤ (IntKind.wrap .i64 ((Int.tmod (IntKind.wrap .i64 (n51 + 2)) 5) + (IntKind.wrap .i64 (5 * n54)))) ∧ (IntKind.wrap .i64 ((Int.tmod (IntKind.wrap .i64 (n51 + 2)) 5) + (IntKind.wrap .i64 (5 * n54)))) < ((25 : Nat) : Int)) ∧
 ∃ n59, World.cell? w56 (Addr.add d30 (Int.toNat (IntKind.wrap .i64 ((Int.tmod (IntKind.wrap .i64 (n51 + 2)) 5) + (IntKind.wrap .i64 (5 * n54)))))) = some (.int .u64 n59) ∧
 ((0 : Int) ≤ (IntKind.wrap .i64 (n51 + (IntKind.wrap .i64 (5 * n54)))) ∧ (IntKind.wrap .i64 (n51 + (IntKind.wrap .i64 (5 * n54)))) < ((25 : Nat) : Int)) ∧
 CanSet w56 (Addr.add d1 (Int.toNat (IntKind.wrap .i64 (n51 + (IntKind.wrap .i64 (5 * n54)))))) (.int .u64 (bitsI .xor .u64 n57 (bitsI .and .u64 (bitsI .xor .u64 18446744073709551615 n58) n59))) ∧ ∀ w60, IsSet w56 (Addr.add d1 (Int.toNat (IntKind.wrap .i64 (n51 + (IntKind.wrap .i64 (5 * n54)))))) (.int .u64 (bitsI .xor .u64 n57 (bitsI .and .u64 (bitsI .xor .u64 18446744073709551615 n58) n59))) w60 →
 I53 (IntKind.wrap .i64 (n54 + 1)) w60 ∧ μ53 (IntKind.wrap .i64 (n54 + 1)) w60 < μ53 n54 w55)) ∧
 ((¬ n54 < 5 →
 I50 (IntKind.wrap .i64 (n51 + 1)) w55 ∧ μ50 (IntKind.wrap .i64 (n51 + 1)) w55 < μ50 n51 w52)))))) ∧
 ((¬ n51 < 5 →
 ∃ (I61 : Int → Int → World → Prop) (μ61 : Int → Int → World → Nat), I61 n15 0 w52 ∧
 (∀ (n62 : Int) (n63 : Int) (j64 : Nat → Value) (w64 : World), I61 n62 n63 w64 →
 (((n63 < 7 →
 ((((Int.tmod n62 2) = 1 →
 ∀ w65, IsDrew w64 w65 →
 ∃ n66, World.cell? w65 d1 = some (.int .u64 n66) ∧
 (0 : Int) ≤ n63 ∧
 (0 : Int) ≤ (IntKind.wrap .u64 ((shlI .u64 1 n63) - 1)) ∧
 CanSet w65 d1 (.int .u64 (bitsI .xor .u64 n66 (shlI .u64 1 (IntKind.wrap .u64 ((shlI .u64 1 n63) - 1))))) ∧ ∀ w67, IsSet w65 d1 (.int .u64 (bitsI .xor .u64 n66 (shlI .u64 1 (IntKind.wrap .u64 ((shlI .u64 1 n63) - 1))))) w67 →
 ((((IntKind.wrap .i64 (2 * n62)) ≥ 256 →
 I61 (bitsI .xor .i64 (IntKind.wrap .i64 ((IntKind.wrap .i64 (2 * n62)) - 256)) 113) (IntKind.wrap .i64 (n63 + 1)) w67 ∧ μ61 (bitsI .xor .i64 (IntKind.wrap .i64 ((IntKind.wrap .i64 (2 * n62)) - 256)) 113) (IntKind.wrap .i64 (n63 + 1)) w67 < μ61 n62 n63 w64)) ∧
 ((¬ (IntKind.wrap .i64 (2 * n62)) ≥ 256 →
 I61 (IntKind.wrap .i64 (2 * n62)) (IntKind.wrap .i64 (n63 + 1)) w67 ∧ μ61 (IntKind.wrap .i64 (2 * n62)) (IntKind.wrap .i64 (n63 + 1)) w67 < μ61 n62 n63 w64))))) ∧
 (((Int.tmod n62 2) ≠ 1 →
 ((((IntKind.wrap .i64 (2 * n62)) ≥ 256 →
 I61 (bitsI .xor .i64 (IntKind.wrap .i64 ((IntKind.wrap .i64 (2 * n62)) - 256)) 113) (IntKind.wrap .i64 (n63 + 1)) w64 ∧ μ61 (bitsI .xor .i64 (IntKind.wrap .i64 ((IntKind.wrap .i64 (2 * n62)) - 256)) 113) (IntKind.wrap .i64 (n63 + 1)) w64 < μ61 n62 n63 w64)) ∧
 ((¬ (IntKind.wrap .i64 (2 * n62)) ≥ 256 →
 I61 (IntKind.wrap .i64 (2 * n62)) (IntKind.wrap .i64 (n63 + 1)) w64 ∧ μ61 (IntKind.wrap .i64 (2 * n62)) (IntKind.wrap .i64 (n63 + 1)) w64 < μ61 n62 n63 w64)))))))) ∧
 ((¬ n63 < 7 →
 I14 n62 (IntKind.wrap .i64 (n16 + 1)) w64 ∧ μ14 n62 (IntKind.wrap .i64 (n16 + 1)) w64 < μ14 n15 n16 w17)))))))))))))))))) ∧
 ((¬ n16 < 24 →
 ∃ L68, RowAt w17 d1 25 L68 ∧
 ∃ w69, Sem.run Try.prog (Instr.storeAt 40 (.pointer (some d3)) (.agg L68)) w17 = .ok () w69 ∧
 ∃ L70, RowAt w69 d3 25 L70 ∧
 R (.returned (.agg L70)) w69))))))))
theorem moraineref3_Permute.vc (L0 w R) (h : moraineref3_Permute.Vc L0 w R) : Calls Try.prog 24 #[(.agg L0)] w R := xs [(4, [(4, .cell (.int .i64)), (5, .cell (.int .i64)), (6, .cell (.int .i64))]), (10, [(7, .cell (.int .i64)), (8, .cell (.int .i64))]), (14, [(10, .cell (.int .i64))]), (19, [(12, .cell (.int .i64))]), (22, [(13, .cell (.int .i64))]), (27, [(15, .cell (.int .i64))]), (30, [(16, .cell (.int .i64))]), (34, [(7, .cell (.int .i64)), (17, .cell (.int .i64))])] [.big 25 L0] Try.func24 mixed (by kernel_rfl) h

abbrev keccak_planned.n : Nat := 65
def keccak_planned.Vc  (w : World) (R : Ending → World → Prop) : Prop :=
 ∀ d0 w1, IsNew w 108 #[(.int .u64 0), (.int .u64 0), (.int .u64 0), (.int .u64 0), (.int .u64 0), (.int .u64 0), (.int .u64 0), (.int .u64 0), (.int .u64 0), (.int .u64 0), (.int .u64 0), (.int .u64 0), (.int .u64 0), (.int .u64 0), (.int .u64 0), (.int .u64 0), (.int .u64 0), (.int .u64 0), (.int .u64 0), (.int .u64 0), (.int .u64 0), (.int .u64 0), (.int .u64 0), (.int .u64 0), (.int .i64 0), (.int .i64 0), (.int .i64 0), (.int .i64 0), (.int .i64 0), (.int .i64 0), (.int .i64 0), (.int .i64 0), (.int .i64 0), (.int .i64 0), (.int .i64 0), (.int .i64 0), (.int .i64 0), (.int .i64 0), (.int .i64 0), (.int .i64 0), (.int .i64 0), (.int .i64 0), (.int .i64 0), (.int .i64 0), (.int .i64 0), (.int .i64 0), (.int .i64 0), (.int .i64 0), (.int .i64 0)] d0 w1 →
 Calls Try.prog 102 #[] w1 (fun e2 w3 =>
 ∃ L4, e2 = .returned (.agg L4) ∧
 Calls Try.prog 103 #[] w3 (fun e5 w6 =>
 ∃ L7, e5 = .returned (.agg L7) ∧
 Array.size L4 = 24 ∧
 Array.size L7 = 25 ∧
 ∃ w8, Sem.run Try.prog (Instr.storeAt 108 (.pointer (some d0)) (.agg (lputL (lputL #[(.int .u64 0), (.int .u64 0), (.int .u64 0), (.int .u64 0), (.int .u64 0), (.int .u64 0), (.int .u64 0), (.int .u64 0), (.int .u64 0), (.int .u64 0), (.int .u64 0), (.int .u64 0), (.int .u64 0), (.int .u64 0), (.int .u64 0), (.int .u64 0), (.int .u64 0), (.int .u64 0), (.int .u64 0), (.int .u64 0), (.int .u64 0), (.int .u64 0), (.int .u64 0), (.int .u64 0), (.int .i64 0), (.int .i64 0), (.int .i64 0), (.int .i64 0), (.int .i64 0), (.int .i64 0), (.int .i64 0), (.int .i64 0), (.int .i64 0), (.int .i64 0), (.int .i64 0), (.int .i64 0), (.int .i64 0), (.int .i64 0), (.int .i64 0), (.int .i64 0), (.int .i64 0), (.int .i64 0), (.int .i64 0), (.int .i64 0), (.int .i64 0), (.int .i64 0), (.int .i64 0), (.int .i64 0), (.int .i64 0)] 0 24 L4) 24 25 L7))) w6 = .ok () w8 ∧
 ∃ L9, RowAt w8 d0 49 L9 ∧
 R (.returned (.agg L9)) w8))
theorem keccak_planned.vc  (w : World) (R : Ending → World → Prop) (h : keccak_planned.Vc w R) : Calls Try.prog 65 #[] w R :=
 execF_sound (R := ⟨R, false⟩) (ann := []) (args := []) Try.func65 mixed (Eq.mp (by kernel_rfl : keccak_planned.Vc w R = execF (pA Try.prog ⟨R, false⟩) Try.prog [] Try.f65 [] w) h)

abbrev keccak_state_absorb.n : Nat := 66
def keccak_state_absorb.Vc (L0 : Array Value) (d1 : Addr) (o2 : Option Addr) (l2 c2 : Nat) (w : World) (R : Ending → World → Prop) : Prop :=
 ∀ d3 w4, IsNew w 110 L0 d3 w4 →
 ∀ d5 w6, IsNew w4 110 (Array.replicate 25 (.int .u64 0)) d5 w6 →
 ∃ (I7 : Int → World → Prop) (μ7 : Int → World → Nat), I7 0 w6 ∧
 (∀ (n8 : Int) (j9 : Nat → Value) (w9 : World), I7 n8 w9 →
 (((n8 < 17 →
 ∀ w10, IsDrew w9 w10 →
 ((0 : Int) ≤ n8 ∧ n8 < ((25 : Nat) : Int)) ∧
 ∃ n11, World.cell? w10 (Addr.add d3 (Int.toNat n8)) = some (.int .u64 n11) ∧
 ((0 : Int) ≤ (IntKind.wrap .i64 ((IntKind.wrap .i64 (8 * n8)) + 8)) ∧ (IntKind.wrap .i64 ((IntKind.wrap .i64 (8 * n8)) + 8)) ≤ ((c2 : Nat) : Int)) ∧
 ((0 : Int) ≤ (IntKind.wrap .i64 (8 * n8)) ∧ (IntKind.wrap .i64 (8 * n8)) ≤ (((Int.toNat (IntKind.wrap .i64 ((IntKind.wrap .i64 (8 * n8)) + 8))) : Nat) : Int)) ∧
 Calls Try.prog 104 #[(.slice (subO o2 c2 (Int.toNat (IntKind.wrap .i64 (8 * n8))) 1) ((Int.toNat (IntKind.wrap .i64 ((IntKind.wrap .i64 (8 * n8)) + 8))) - (Int.toNat (IntKind.wrap .i64 (8 * n8)))) (c2 - (Int.toNat (IntKind.wrap .i64 (8 * n8)))))] w10 (fun e12 w13 =>
 ∃ n14, e12 = .returned (.int .u64 n14) ∧
 World.cell? w13 (Addr.add d3 (Int.toNat n8)) = some (.int .u64 n11) ∧
 ((0 : Int) ≤ n8 ∧ n8 < ((25 : Nat) : Int)) ∧
 CanSet w13 (Addr.add d3 (Int.toNat n8)) (.int .u64 (bitsI .xor .u64 n11 n14)) ∧ ∀ w15, IsSet w13 (Addr.add d3 (Int.toNat n8)) (.int .u64 (bitsI .xor .u64 n11 n14)) w15 →
 I7 (IntKind.wrap .i64 (n8 + 1)) w15 ∧ μ7 (IntKind.wrap .i64 (n8 + 1)) w15 < μ7 n8 w9))) ∧
 ((¬ n8 < 17 →
 ∃ L16, RowAt w9 d3 25 L16 ∧
 Calls Try.prog 68 #[(.agg L16), (.pointer (some d1))] w9 (fun e17 w18 =>
 ∃ L19, e17 = .returned (.agg L19) ∧
 ∃ w20, Sem.run Try.prog (Instr.storeAt 110 (.pointer (some d5)) (.agg L19)) w18 = .ok () w20 ∧
 ∃ L21, RowAt w20 d5 25 L21 ∧
 R (.returned (.agg L21)) w20)))))
theorem keccak_state_absorb.vc (L0 d1 o2 l2 c2 w R) (h : keccak_state_absorb.Vc L0 d1 o2 l2 c2 w R) : Calls Try.prog 66 #[(.agg L0), (.pointer (some d1)), (.slice o2 l2 c2)] w R := xs [(2, [(8, .cell (.int .i64))])] [.big 25 L0, .addr d1, .slice o2 l2 c2] Try.func66 mixed (by kernel_rfl) h

abbrev plain_Little.n : Nat := 67
def plain_Little.Vc (o0 : Option Addr) (l0 c0 : Nat) (n1 n2 : Int) (w : World) (R : Ending → World → Prop) : Prop :=
 ∃ (I3 : Option Addr → Nat → Nat → Int → World → Prop) (μ3 : Option Addr → Nat → Nat → Int → World → Nat), I3 o0 l0 c0 0 w ∧
 (∀ (o4 : Option Addr) (l4 : Nat) (c4 : Nat) (n5 : Int) (j6 : Nat → Value) (w6 : World), I3 o4 l4 c4 n5 w6 →
 (((n5 < n2 →
 (0 : Int) ≤ (IntKind.wrap .i64 (8 * n5)) ∧
 ∀ d7 w8, IsNew w6 5 #[(.int .u8 (IntKind.wrap .u8 (shrI .u64 n1 (IntKind.wrap .i64 (8 * n5)))))] d7 w8 →
 ∃ v9 w10, Sem.run Try.prog (builtinV .append #[22, 22] 22 #[(.slice o4 l4 c4), (.slice (some d7) 1 1)]) w8 = .ok v9 w10 ∧
 ∃ o11 l12 l13, v9 = (.slice o11 l12 l13) ∧
 I3 o11 l12 l13 (IntKind.wrap .i64 (n5 + 1)) w10 ∧ μ3 o11 l12 l13 (IntKind.wrap .i64 (n5 + 1)) w10 < μ3 o4 l4 c4 n5 w6)) ∧
 ((¬ n5 < n2 →
 R (.returned (.slice o4 l4 c4)) w6))))
theorem plain_Little.vc (o0 l0 c0 n1 n2 w R) (h : plain_Little.Vc o0 l0 c0 n1 n2 w R) : Calls Try.prog 67 #[(.slice o0 l0 c0), (.int .u64 n1), (.int .i64 n2)] w R := xs [(2, [(0, .cell (.slice)), (9, .cell (.int .i64))])] [.slice o0 l0 c0, .int .u64 n1, .int .i64 n2] Try.func67 mixed (by kernel_rfl) h

abbrev keccak_state_permuted.n : Nat := 68
def keccak_state_permuted.Vc (L0 : Array Value) (d1 : Addr) (w : World) (R : Ending → World → Prop) : Prop :=
 ∀ d2 w3, IsNew w 110 L0 d2 w3 →
 ∀ d4 w5, IsNew w3 110 (Array.replicate 25 (.int .u64 0)) d4 w5 →
 ∃ (I6 : Int → World → Prop) (μ6 : Int → World → Nat), I6 0 w5 ∧
 (∀ (n7 : Int) (j8 : Nat → Value) (w8 : World), I6 n7 w8 →
 (((n7 < 24 →
 ∃ L9, RowAt w8 d2 25 L9 ∧
 Calls Try.prog 105 #[(.agg L9), (.pointer (some d1)), (.int .i64 n7)] w8 (fun e10 w11 =>
 ∃ L12, e10 = .returned (.agg L12) ∧
 ∃ w13, Sem.run Try.prog (Instr.storeAt 110 (.pointer (some d2)) (.agg L12)) w11 = .ok () w13 ∧
 I6 (IntKind.wrap .i64 (n7 + 1)) w13 ∧ μ6 (IntKind.wrap .i64 (n7 + 1)) w13 < μ6 n7 w8))) ∧
 ((¬ n7 < 24 →
 ∃ L14, RowAt w8 d2 25 L14 ∧
 ∃ w15, Sem.run Try.prog (Instr.storeAt 110 (.pointer (some d4)) (.agg L14)) w8 = .ok () w15 ∧
 ∃ L16, RowAt w15 d4 25 L16 ∧
 R (.returned (.agg L16)) w15))))
theorem keccak_state_permuted.vc (L0 d1 w R) (h : keccak_state_permuted.Vc L0 d1 w R) : Calls Try.prog 68 #[(.agg L0), (.pointer (some d1))] w R := xs [(2, [(6, .cell (.int .i64))])] [.big 25 L0, .addr d1] Try.func68 mixed (by kernel_rfl) h

abbrev moraineref3_left.n : Nat := 69
def moraineref3_left.Vc (n0 n1 : Int) (w : World) (R : Ending → World → Prop) : Prop :=
 (((n1 = 0 →
 R (.returned (.int .u64 n0)) w)) ∧
 ((n1 ≠ 0 →
 ∀ w2, IsDrew w w2 →
 (0 : Int) ≤ n1 ∧
 (0 : Int) ≤ (IntKind.wrap .i64 (64 - n1)) ∧
 R (.returned (.int .u64 (bitsI .or .u64 (shlI .u64 n0 n1) (shrI .u64 n0 (IntKind.wrap .i64 (64 - n1)))))) w2)))
theorem moraineref3_left.vc (n0 n1 w R) (h : moraineref3_left.Vc n0 n1 w R) : Calls Try.prog 69 #[(.int .u64 n0), (.int .i64 n1)] w R := xs [] [.int .u64 n0, .int .i64 n1] Try.func69 mixed (by kernel_rfl) h

abbrev keccak_constants.n : Nat := 102
def keccak_constants.Vc  (w : World) (R : Ending → World → Prop) : Prop :=
 ∀ d0 w1, IsNew w 105 (Array.replicate 24 (.int .u64 0)) d0 w1 →
 ∀ d2 w3, IsNew w1 105 (Array.replicate 24 (.int .u64 0)) d2 w3 →
 ∃ (I4 : Int → Int → World → Prop) (μ4 : Int → Int → World → Nat), I4 1 0 w3 ∧
 (∀ (n5 : Int) (n6 : Int) (j7 : Nat → Value) (w7 : World), I4 n5 n6 w7 →
 (((n6 < 24 →
 ∃ (I8 : Int → Int → World → Prop) (μ8 : Int → Int → World → Nat), I8 n5 0 w7 ∧
 (∀ (n9 : Int) (n10 : Int) (j11 : Nat → Value) (w11 : World), I8 n9 n10 w11 →
 (((n10 < 7 →
 ∀ w12, IsDrew w11 w12 →
 ((0 : Int) ≤ n6 ∧ n6 < ((24 : Nat) : Int)) ∧
 ∃ n13, World.cell? w12 (Addr.add d2 (Int.toNat n6)) = some (.int .u64 n13) ∧
 (0 : Int) ≤ n10 ∧
 (0 : Int) ≤ (IntKind.wrap .u64 ((shlI .u64 1 n10) - 1)) ∧
 ((0 : Int) ≤ n6 ∧ n6 < ((24 : Nat) : Int)) ∧
 CanSet w12 (Addr.add d2 (Int.toNat n6)) (.int .u64 (bitsI .or .u64 n13 (shlI .u64 (IntKind.wrap .u64 (bitsI .and .i64 n9 1)) (IntKind.wrap .u64 ((shlI .u64 1 n10) - 1))))) ∧ ∀ w14, IsSet w12 (Addr.add d2 (Int.toNat n6)) (.int .u64 (bitsI .or .u64 n13 (shlI .u64 (IntKind.wrap .u64 (bitsI .and .i64 n9 1)) (IntKind.wrap .u64 ((shlI .u64 1 n10) - 1))))) w14 →
 ((((IntKind.wrap .i64 (n9 * 2)) > 255 →
 I8 (bitsI .xor .i64 (IntKind.wrap .i64 ((IntKind.wrap .i64 (n9 * 2)) - 256)) 113) (IntKind.wrap .i64 (n10 + 1)) w14 ∧ μ8 (bitsI .xor .i64 (IntKind.wrap .i64 ((IntKind.wrap .i64 (n9 * 2)) - 256)) 113) (IntKind.wrap .i64 (n10 + 1)) w14 < μ8 n9 n10 w11)) ∧
 ((¬ (IntKind.wrap .i64 (n9 * 2)) > 255 →
 I8 (IntKind.wrap .i64 (n9 * 2)) (IntKind.wrap .i64 (n10 + 1)) w14 ∧ μ8 (IntKind.wrap .i64 (n9 * 2)) (IntKind.wrap .i64 (n10 + 1)) w14 < μ8 n9 n10 w11))))) ∧
 ((¬ n10 < 7 →
 I4 n9 (IntKind.wrap .i64 (n6 + 1)) w11 ∧ μ4 n9 (IntKind.wrap .i64 (n6 + 1)) w11 < μ4 n5 n6 w7)))))) ∧
 ((¬ n6 < 24 →
 ∃ L15, RowAt w7 d2 24 L15 ∧
 ∃ w16, Sem.run Try.prog (Instr.storeAt 105 (.pointer (some d0)) (.agg L15)) w7 = .ok () w16 ∧
 ∃ L17, RowAt w16 d0 24 L17 ∧
 R (.returned (.agg L17)) w16))))
theorem keccak_constants.vc  (w : World) (R : Ending → World → Prop) (h : keccak_constants.Vc w R) : Calls Try.prog 102 #[] w R :=
 execF_sound (R := ⟨R, false⟩) (ann := [(4, [(2, .cell (.int .i64)), (5, .cell (.int .i64))]), (7, [(2, .cell (.int .i64)), (8, .cell (.int .i64))])]) (args := []) Try.func102 mixed (Eq.mp (by kernel_rfl : keccak_constants.Vc w R = execF (pA Try.prog ⟨R, false⟩) Try.prog [(4, [(2, .cell (.int .i64)), (5, .cell (.int .i64))]), (7, [(2, .cell (.int .i64)), (8, .cell (.int .i64))])] Try.f102 [] w) h)

abbrev keccak_turns.n : Nat := 103
def keccak_turns.Vc  (w : World) (R : Ending → World → Prop) : Prop :=
 ∀ d0 w1, IsNew w 106 (Array.replicate 25 (.int .i64 0)) d0 w1 →
 ∀ d2 w3, IsNew w1 106 (Array.replicate 25 (.int .i64 0)) d2 w3 →
 ∃ (I4 : Int → Int → Int → World → Prop) (μ4 : Int → Int → Int → World → Nat), I4 1 0 0 w3 ∧
 (∀ (n5 : Int) (n6 : Int) (n7 : Int) (j8 : Nat → Value) (w8 : World), I4 n5 n6 n7 w8 →
 (((n7 < 24 →
 Calls Try.prog 124 #[(.int .i64 n5), (.int .i64 n6)] w8 (fun e9 w10 =>
 ∃ n11, e9 = .returned (.int .i64 n11) ∧
 ((0 : Int) ≤ n11 ∧ n11 < ((25 : Nat) : Int)) ∧
 CanSet w10 (Addr.add d2 (Int.toNat n11)) (.int .i64 (Int.tmod (IntKind.wrap .i64 (Int.tdiv (IntKind.wrap .i64 ((IntKind.wrap .i64 (n7 + 1)) * (IntKind.wrap .i64 (n7 + 2)))) 2)) 64)) ∧ ∀ w12, IsSet w10 (Addr.add d2 (Int.toNat n11)) (.int .i64 (Int.tmod (IntKind.wrap .i64 (Int.tdiv (IntKind.wrap .i64 ((IntKind.wrap .i64 (n7 + 1)) * (IntKind.wrap .i64 (n7 + 2)))) 2)) 64)) w12 →
 I4 n6 (Int.tmod (IntKind.wrap .i64 ((IntKind.wrap .i64 (2 * n5)) + (IntKind.wrap .i64 (3 * n6)))) 5) (IntKind.wrap .i64 (n7 + 1)) w12 ∧ μ4 n6 (Int.tmod (IntKind.wrap .i64 ((IntKind.wrap .i64 (2 * n5)) + (IntKind.wrap .i64 (3 * n6)))) 5) (IntKind.wrap .i64 (n7 + 1)) w12 < μ4 n5 n6 n7 w8))) ∧
 ((¬ n7 < 24 →
 ∃ L13, RowAt w8 d2 25 L13 ∧
 ∃ w14, Sem.run Try.prog (Instr.storeAt 106 (.pointer (some d0)) (.agg L13)) w8 = .ok () w14 ∧
 ∃ L15, RowAt w14 d0 25 L15 ∧
 R (.returned (.agg L15)) w14))))
theorem keccak_turns.vc  (w : World) (R : Ending → World → Prop) (h : keccak_turns.Vc w R) : Calls Try.prog 103 #[] w R :=
 execF_sound (R := ⟨R, false⟩) (ann := [(4, [(2, .cell (.int .i64)), (3, .cell (.int .i64)), (5, .cell (.int .i64))])]) (args := []) Try.func103 mixed (Eq.mp (by kernel_rfl : keccak_turns.Vc w R = execF (pA Try.prog ⟨R, false⟩) Try.prog [(4, [(2, .cell (.int .i64)), (3, .cell (.int .i64)), (5, .cell (.int .i64))])] Try.f103 [] w) h)

abbrev plain_Unlittle.n : Nat := 104
def plain_Unlittle.Vc (o0 : Option Addr) (l0 c0 : Nat) (w : World) (R : Ending → World → Prop) : Prop :=
 ∃ (I1 : Int → Int → World → Prop) (μ1 : Int → Int → World → Nat), I1 0 0 w ∧
 (∀ (n2 : Int) (n3 : Int) (j4 : Nat → Value) (w4 : World), I1 n2 n3 w4 →
 (((n3 < ((l0 : Nat) : Int) →
 ∃ d5, o0 = some d5 ∧
 ((0 : Int) ≤ n3 ∧ n3 < ((l0 : Nat) : Int)) ∧
 ∃ n6, World.cell? w4 (Addr.add d5 (Int.toNat n3)) = some (.int .u8 n6) ∧
 (0 : Int) ≤ (IntKind.wrap .i64 (8 * n3)) ∧
 I1 (bitsI .or .u64 n2 (shlI .u64 (IntKind.wrap .u64 n6) (IntKind.wrap .i64 (8 * n3)))) (IntKind.wrap .i64 (n3 + 1)) w4 ∧ μ1 (bitsI .or .u64 n2 (shlI .u64 (IntKind.wrap .u64 n6) (IntKind.wrap .i64 (8 * n3)))) (IntKind.wrap .i64 (n3 + 1)) w4 < μ1 n2 n3 w4)) ∧
 ((¬ n3 < ((l0 : Nat) : Int) →
 R (.returned (.int .u64 n2)) w4))))
theorem plain_Unlittle.vc (o0 l0 c0 w R) (h : plain_Unlittle.Vc o0 l0 c0 w R) : Calls Try.prog 104 #[(.slice o0 l0 c0)] w R := xs [(3, [(3, .cell (.int .u64)), (8, .cell (.int .i64))])] [.slice o0 l0 c0] Try.func104 mixed (by kernel_rfl) h

abbrev keccak_state_round.n : Nat := 105
def keccak_state_round.Vc (L0 : Array Value) (d1 : Addr) (n2 : Int) (w : World) (R : Ending → World → Prop) : Prop :=
 ∀ d3 w4, IsNew w 110 L0 d3 w4 →
 ∀ d5 w6, IsNew w4 110 (Array.replicate 25 (.int .u64 0)) d5 w6 →
 ∀ d7 w8, IsNew w6 118 #[(.int .u64 0), (.int .u64 0), (.int .u64 0), (.int .u64 0), (.int .u64 0)] d7 w8 →
 ∃ (I9 : Int → World → Prop) (μ9 : Int → World → Nat), I9 0 w8 ∧
 (∀ (n10 : Int) (j11 : Nat → Value) (w11 : World), I9 n10 w11 →
 (((n10 < 5 →
 ∃ (I12 : Int → World → Prop) (μ12 : Int → World → Nat), I12 0 w11 ∧
 (∀ (n13 : Int) (j14 : Nat → Value) (w14 : World), I12 n13 w14 →
 (((n13 < 5 →
 ∀ w15, IsDrew w14 w15 →
 ((0 : Int) ≤ n10 ∧ n10 < ((5 : Nat) : Int)) ∧
 ∃ n16, World.cell? w15 (Addr.add d7 (Int.toNat n10)) = some (.int .u64 n16) ∧
 Calls Try.prog 124 #[(.int .i64 n10), (.int .i64 n13)] w15 (fun e17 w18 =>
 ∃ n19, e17 = .returned (.int .i64 n19) ∧
 World.cell? w18 (Addr.add d7 (Int.toNat n10)) = some (.int .u64 n16) ∧
 ((0 : Int) ≤ n19 ∧ n19 < ((25 : Nat) : Int)) ∧
 ∃ n20, World.cell? w18 (Addr.add d3 (Int.toNat n19)) = some (.int .u64 n20) ∧
 ((0 : Int) ≤ n10 ∧ n10 < ((5 : Nat) : Int)) ∧
 CanSet w18 (Addr.add d7 (Int.toNat n10)) (.int .u64 (bitsI .xor .u64 n16 n20)) ∧ ∀ w21, IsSet w18 (Addr.add d7 (Int.toNat n10)) (.int .u64 (bitsI .xor .u64 n16 n20)) w21 →
 I12 (IntKind.wrap .i64 (n13 + 1)) w21 ∧ μ12 (IntKind.wrap .i64 (n13 + 1)) w21 < μ12 n13 w14))) ∧
 ((¬ n13 < 5 →
 I9 (IntKind.wrap .i64 (n10 + 1)) w14 ∧ μ9 (IntKind.wrap .i64 (n10 + 1)) w14 < μ9 n10 w11)))))) ∧
 ((¬ n10 < 5 →
 ∀ d22 w23, IsNew w11 110 (Array.replicate 25 (.int .u64 0)) d22 w23 →
 ∃ (I24 : Int → World → Prop) (μ24 : Int → World → Nat), I24 0 w23 ∧
 (∀ (n25 : Int) (j26 : Nat → Value) (w26 : World), I24 n25 w26 →
 (((n25 < 5 →
 ∀ w27, IsDrew w26 w27 →
 ((0 : Int) ≤ (Int.tmod (IntKind.wrap .i64 ((IntKind.wrap .i64 (n25 + 5)) - 1)) 5) ∧ (Int.tmod (IntKind.wrap .i64 ((IntKind.wrap .i64 (n25 + 5)) - 1)) 5) < ((5 : Nat) : Int)) ∧
 ∃ n28, World.cell? w27 (Addr.add d7 (Int.toNat (Int.tmod (IntKind.wrap .i64 ((IntKind.wrap .i64 (n25 + 5)) - 1)) 5))) = some (.int .u64 n28) ∧
 ((0 : Int) ≤ (Int.tmod (IntKind.wrap .i64 (n25 + 1)) 5) ∧ (Int.tmod (IntKind.wrap .i64 (n25 + 1)) 5) < ((5 : Nat) : Int)) ∧
 ∃ n29, World.cell? w27 (Addr.add d7 (Int.toNat (Int.tmod (IntKind.wrap .i64 (n25 + 1)) 5))) = some (.int .u64 n29) ∧
 Calls Try.prog 125 #[(.int .u64 n29), (.int .i64 1)] w27 (fun e30 w31 =>
 ∃ n32, e30 = .returned (.int .u64 n32) ∧
 World.cell? w31 (Addr.add d7 (Int.toNat (Int.tmod (IntKind.wrap .i64 ((IntKind.wrap .i64 (n25 + 5)) - 1)) 5))) = some (.int .u64 n28) ∧
 ∃ (I33 : Int → World → Prop) (μ33 : Int → World → Nat), I33 0 w31 ∧
 (∀ (n34 : Int) (j35 : Nat → Value) (w35 : World), I33 n34 w35 →
 (((n34 < 5 →
 ∀ w36, IsDrew w35 w36 →
 Calls Try.prog 124 #[(.int .i64 n34), (.int .i64 (IntKind.wrap .i64 ((IntKind.wrap .i64 (2 * n25)) + (IntKind.wrap .i64 (3 * n34)))))] w36 (fun e37 w38 =>
 ∃ n39, e37 = .returned (.int .i64 n39) ∧
 Calls Try.prog 124 #[(.int .i64 n25), (.int .i64 n34)] w38 (fun e40 w41 =>
 ∃ n42, e40 = .returned (.int .i64 n42) ∧
 ((0 : Int) ≤ n42 ∧ n42 < ((25 : Nat) : Int)) ∧
 ∃ n43, World.cell? w41 (Addr.add d3 (Int.toNat n42)) = some (.int .u64 n43) ∧
 Calls Try.prog 124 #[(.int .i64 n25), (.int .i64 n34)] w41 (fun e44 w45 =>
 ∃ n46, e44 = .returned (.int .i64 n46) ∧
 World.cell? w45 (Addr.add d3 (Int.toNat n42)) = some (.int .u64 n43) ∧
 ((0 : Int) ≤ n46 ∧ n46 < ((25 : Nat) : Int)) ∧
 ∃ n47, World.cell? w45 (Addr.add (Addr.add d1 24) (Int.toNat n46)) = some (.int .i64 n47) ∧
 Calls Try.prog 125 #[(.int .u64 (bitsI .xor .u64 n43 (bitsI .xor .u64 n28 n32))), (.int .i64 n47)] w45 (fun e48 w49 =>
 ∃ n50, e48 = .returned (.int .u64 n50) ∧
 ((0 : Int) ≤ n39 ∧ n39 < ((25 : Nat) : Int)) ∧
 CanSet w49 (Addr.add d22 (Int.toNat n39)) (.int .u64 n50) ∧ ∀ w51, IsSet w49 (Addr.add d22 (Int.toNat n39)) (.int .u64 n50) w51 →
 I33 (IntKind.wrap .i64 (n34 + 1)) w51 ∧ μ33 (IntKind.wrap .i64 (n34 + 1)) w51 < μ33 n34 w35)))))) ∧
 ((¬ n34 < 5 →
 I24 (IntKind.wrap .i64 (n25 + 1)) w35 ∧ μ24 (IntKind.wrap .i64 (n25 + 1)) w35 < μ24 n25 w26))))))) ∧
 ((¬ n25 < 5 →
 ∀ d52 w53, IsNew w26 110 (Array.replicate 25 (.int .u64 0)) d52 w53 →
 ∃ (I54 : Int → World → Prop) (μ54 : Int → World → Nat), I54 0 w53 ∧
 (∀ (n55 : Int) (j56 : Nat → Value) (w56 : World), I54 n55 w56 →
 (((n55 < 5 →
 ∃ (I57 : Int → World → Prop) (μ57 : Int → World → Nat), I57 0 w56 ∧
 (∀ (n58 : Int) (j59 : Nat → Value) (w59 : World), I57 n58 w59 →
 (((n58 < 5 →
 ∀ w60, IsDrew w59 w60 →
 Calls Try.prog 124 #[(.int .i64 n55), (.int .i64 n58)] w60 (fun e61 w62 =>
 ∃ n63, e61 = .returned (.int .i64 n63) ∧
 Calls Try.prog 124 #[(.int .i64 n55), (.int .i64 n58)] w62 (fun e64 w65 =>
 ∃ n66, e64 = .returned (.int .i64 n66) ∧
 ((0 : Int) ≤ n66 ∧ n66 < ((25 : Nat) : Int)) ∧
 ∃ n67, World.cell? w65 (Addr.add d22 (Int.toNat n66)) = some (.int .u64 n67) ∧
 Calls Try.prog 124 #[(.int .i64 (IntKind.wrap .i64 (n55 + 1))), (.int .i64 n58)] w65 (fun e68 w69 =>
 ∃ n70, e68 = .returned (.int .i64 n70) ∧
 World.cell? w69 (Addr.add d22 (Int.toNat n66)) = some (.int .u64 n67) ∧
 ((0 : Int) ≤ n70 ∧ n70 < ((25 : Nat) : Int)) ∧
 ∃ n71, World.cell? w69 (Addr.add d22 (Int.toNat n70)) = some (.int .u64 n71) ∧
 Calls Try.prog 124 #[(.int .i64 (IntKind.wrap .i64 (n55 + 2))), (.int .i64 n58)] w69 (fun e72 w73 =>
 ∃ n74, e72 = .returned (.int .i64 n74) ∧
 World.cell? w73 (Addr.add d22 (Int.toNat n70)) = some (.int .u64 n71) ∧
 World.cell? w73 (Addr.add d22 (Int.toNat n66)) = some (.int .u64 n67) ∧
 ((0 : Int) ≤ n74 ∧ n74 < ((25 : Nat) : Int)) ∧
 ∃ n75, World.cell? w73 (Addr.add d22 (Int.toNat n74)) = some (.int .u64 n75) ∧
 ((0 : Int) ≤ n63 ∧ n63 < ((25 : Nat) : Int)) ∧
 CanSet w73 (Addr.add d52 (Int.toNat n63)) (.int .u64 (bitsI .xor .u64 n67 (bitsI .and .u64 (bitsI .xor .u64 18446744073709551615 n71) n75))) ∧ ∀ w76, IsSet w73 (Addr.add d52 (Int.toNat n63)) (.int .u64 (bitsI .xor .u64 n67 (bitsI .and .u64 (bitsI .xor .u64 18446744073709551615 n71) n75))) w76 →
 I57 (IntKind.wrap .i64 (n58 + 1)) w76 ∧ μ57 (IntKind.wrap .i64 (n58 + 1)) w76 < μ57 n58 w59)))))) ∧
 ((¬ n58 < 5 →
 I54 (IntKind.wrap .i64 (n55 + 1)) w59 ∧ μ54 (IntKind.wrap .i64 (n55 + 1)) w59 < μ54 n55 w56)))))) ∧
 ((¬ n55 < 5 →
 ∀ w77, IsDrew w56 w77 →
 ∃ n78, World.cell? w77 d52 = some (.int .u64 n78) ∧
 ((0 : Int) ≤ n2 ∧ n2 < ((24 : Nat) : Int)) ∧
 ∃ n79, World.cell? w77 (Addr.add d1 (Int.toNat n2)) = some (.int .u64 n79) ∧
 CanSet w77 d52 (.int .u64 (bitsI .xor .u64 n78 n79)) ∧ ∀ w80, IsSet w77 d52 (.int .u64 (bitsI .xor .u64 n78 n79)) w80 →
 ∃ L81, RowAt w80 d52 25 L81 ∧
 ∃ w82, Sem.run Try.prog (Instr.storeAt 110 (.pointer (some d5)) (.agg L81)) w80 = .ok () w82 ∧
 ∃ L83, RowAt w82 d5 25 L83 ∧
 R (.returned (.agg L83)) w82))))))))))))
theorem keccak_state_round.vc (L0 d1 n2 w R) (h : keccak_state_round.Vc L0 d1 n2 w R) : Calls Try.prog 105 #[(.agg L0), (.pointer (some d1)), (.int .i64 n2)] w R := xs [(3, [(17, .cell (.int .i64))]), (6, [(20, .cell (.int .i64))]), (13, [(35, .cell (.int .i64))]), (17, [(51, .cell (.int .i64))]), (24, [(80, .cell (.int .i64))]), (27, [(83, .cell (.int .i64))])] [.big 25 L0, .addr d1, .int .i64 n2] Try.func105 mixed (by kernel_rfl) h

abbrev keccak_at.n : Nat := 124
def keccak_at.Vc (n0 n1 : Int) (w : World) (R : Ending → World → Prop) : Prop :=
 R (.returned (.int .i64 (IntKind.wrap .i64 ((Int.tmod n0 5) + (IntKind.wrap .i64 (5 * (Int.tmod n1 5))))))) w
theorem keccak_at.vc (n0 n1 w R) (h : keccak_at.Vc n0 n1 w R) : Calls Try.prog 124 #[(.int .i64 n0), (.int .i64 n1)] w R := xs [] [.int .i64 n0, .int .i64 n1] Try.func124 mixed (by kernel_rfl) h

abbrev math_bits_RotateLeft64.n : Nat := 125
def math_bits_RotateLeft64.Vc (n0 n1 : Int) (w : World) (R : Ending → World → Prop) : Prop :=
 (0 : Int) ≤ (bitsI .and .u64 (IntKind.wrap .u64 n1) 63) ∧
 (0 : Int) ≤ (IntKind.wrap .u64 (64 - (bitsI .and .u64 (IntKind.wrap .u64 n1) 63))) ∧
 R (.returned (.int .u64 (bitsI .or .u64 (shlI .u64 n0 (bitsI .and .u64 (IntKind.wrap .u64 n1) 63)) (shrI .u64 n0 (IntKind.wrap .u64 (64 - (bitsI .and .u64 (IntKind.wrap .u64 n1) 63))))))) w
theorem math_bits_RotateLeft64.vc (n0 n1 w R) (h : math_bits_RotateLeft64.Vc n0 n1 w R) : Calls Try.prog 125 #[(.int .u64 n0), (.int .i64 n1)] w R := xs [] [.int .u64 n0, .int .i64 n1] Try.func125 mixed (by kernel_rfl) h

end Go.Proofs.Ytfghidehlnfdiaa
end
section
namespace Go.Vcg
open Go.RowKit (Below)

@[simp] theorem add_at (b i n : Nat) : Addr.add ⟨b, i, none⟩ n = ⟨b, i + n, none⟩ := by
  unfold Addr.add; split <;> simp_all

def Blk (w : World) (b : Nat) (t : TypeId) (cs : Array Value) : Prop := w.heap[b]? = some (.cells cs t (0, 0))

structure Mod (S : Nat → Prop) (w w' : World) : Prop where
  os : w'.os = w.os
  tape : w'.tape = w.tape
  output : w'.output = w.output
  size : w.heap.size ≤ w'.heap.size
  block : ∀ k, k < w.heap.size → ¬ S k → w'.heap[k]? = w.heap[k]?

abbrev NoB : Nat → Prop := fun _ => False

theorem Mod.refl {S} (w : World) : Mod S w w := ⟨rfl, rfl, rfl, Nat.le_refl _, fun _ _ _ => rfl⟩
theorem Mod.trans {S T : Nat → Prop} {a b c : World} (h : Mod S a b) (k : Mod T b c) (hs : ∀ i, i < a.heap.size → T i → S i) : Mod S a c :=
  ⟨k.os.trans h.os, k.tape.trans h.tape, k.output.trans h.output, Nat.le_trans h.size k.size,
    fun i hi hn => (k.block i (Nat.lt_of_lt_of_le hi h.size) (fun ht => hn (hs i hi ht))).trans (h.block i hi hn)⟩
theorem Mod.mono {S T : Nat → Prop} {a b : World} (h : Mod S a b) (hs : ∀ i, i < a.heap.size → S i → T i) : Mod T a b :=
  ⟨h.os, h.tape, h.output, h.size, fun i hi hn => h.block i hi (fun k => hn (hs i hi k))⟩
theorem Mod.none_trans {S : Nat → Prop} {a b c : World} (h : Mod S a b) (k : Mod NoB b c) : Mod S a c := h.trans k (fun _ _ h => h.elim)
theorem Mod.below {w w' : World} (h : Mod NoB w w') : Below w.heap.size w w' := ⟨h.os, h.tape, h.output, h.size, fun k hk => h.block k hk (fun h => h)⟩

theorem Mod.drew (w : World) {S} : Mod S w w.drew := ⟨rfl, rfl, rfl, Nat.le_refl _, fun _ _ _ => rfl⟩
theorem Mod.alloc (w : World) (o : Obj) {S} : Mod S w (w.alloc o) := ⟨rfl, rfl, rfl, by simp, fun k hk _ => heap_alloc_old w o hk⟩
theorem Mod.setCell (w : World) (a : Addr) (v : Value) : Mod (· = a.block) w (w.setCell a v) :=
  ⟨rfl, rfl, rfl, by simp [World.setCell], fun k hk hn => heap_setCell_other w a k v hn⟩
theorem Mod.setRow (w : World) (g : Nat) (cs : Array Value) : Mod (· = g) w (w.setRow g cs) :=
  ⟨rfl, rfl, rfl, by simp [World.setRow], fun k hk hn => setRow_other w g k _ hn⟩
theorem Mod.step_drew {S} {w0 w : World} (h : Mod S w0 w) : Mod S w0 w.drew := h.none_trans (Mod.drew w)
theorem Mod.step_alloc {S} {w0 w : World} (h : Mod S w0 w) (o : Obj) : Mod S w0 (w.alloc o) := h.none_trans (Mod.alloc w o)
theorem Mod.step_set {S : Nat → Prop} {w0 w : World} (h : Mod S w0 w) {a : Addr} {v : Value} (hs : a.block < w0.heap.size → S a.block) : Mod S w0 (w.setCell a v) :=
  h.trans (Mod.setCell w a v) (fun i hi e => by subst e; exact hs hi)
theorem Mod.step_row {S : Nat → Prop} {w0 w : World} (h : Mod S w0 w) {g : Nat} {cs} (hs : g < w0.heap.size → S g) : Mod S w0 (w.setRow g cs) :=
  h.trans (Mod.setRow w g cs) (fun i hi e => by subst e; exact hs hi)

theorem size_alloc (w : World) (o : Obj) : (w.alloc o).heap.size = w.heap.size + 1 := by simp
theorem size_setCell (w : World) (a : Addr) (v : Value) : (w.setCell a v).heap.size = w.heap.size := by simp [World.setCell]
theorem size_setRow (w : World) (g : Nat) (cs) : (w.setRow g cs).heap.size = w.heap.size := by simp [World.setRow]

section
variable {w w' : World} {b : Nat} {t : TypeId} {cs : Array Value}
theorem Blk.lt (h : Blk w b t cs) : b < w.heap.size := (Array.getElem?_eq_some_iff.1 h).1
theorem Blk.mod {S : Nat → Prop} (h : Blk w b t cs) (m : Mod S w w') (hs : ¬ S b) : Blk w' b t cs := (m.block b h.lt hs).trans h
theorem Blk.mod' (h : Blk w b t cs) (m : Mod NoB w w') : Blk w' b t cs := h.mod m (fun h => h)
theorem Blk.drew (h : Blk w b t cs) : Blk w.drew b t cs := h
theorem Blk.alloc (h : Blk w b t cs) (o : Obj) : Blk (w.alloc o) b t cs := h.mod' (Mod.alloc w o)
theorem Blk.new (w : World) (t : TypeId) (cs : Array Value) : Blk (w.alloc (.cells cs t)) w.heap.size t cs := heap_alloc_new w _
theorem Blk.set (h : Blk w b t cs) (i : Nat) (v : Value) : Blk (w.setCell ⟨b, i, none⟩ v) b t (cs.setIfInBounds i v) := heap_setCell_same w b i cs t v h
theorem Blk.set_ne (h : Blk w b t cs) {a : Addr} {v : Value} (hn : b ≠ a.block) : Blk (w.setCell a v) b t cs := h.mod (Mod.setCell w a v) hn
theorem Blk.row_ne (h : Blk w b t cs) {g : Nat} {c : Array Value} (hn : b ≠ g) : Blk (w.setRow g c) b t cs := h.mod (Mod.setRow w g c) hn
theorem Blk.row_same (h : Blk w b t cs) (c : Array Value) : Blk (w.setRow b c) b t c := setRow_heap w b cs c t _ h
theorem Blk.cell (h : Blk w b t cs) (i : Nat) : w.cell? ⟨b, i, none⟩ = cs[i]? := cell_of_row w b i cs t _ h
theorem Blk.canSet (h : Blk w b t cs) {i : Nat} {v : Value} (hi : i < cs.size) (hv : v.oneCell' = true) : CanSet w ⟨b, i, none⟩ v :=
  ⟨hv, ⟨cs[i], by rw [h.cell]; simp [hi]⟩, by simp [World.frozen?, show w.heap[b]? = _ from h]⟩
theorem Blk.rowAt (h : Blk w b t cs) {o n : Nat} {L : Array Value} (hn : L.size = n) (hl : ∀ i, i < n → cs[o + i]? = L[i]?) : RowAt w ⟨b, o, none⟩ n L :=
  ⟨hn, fun i hi => by rw [add_at, h.cell, hl i hi]⟩
theorem Blk.rowAll (h : Blk w b t cs) {n : Nat} (hn : cs.size = n) : RowAt w ⟨b, 0, none⟩ n cs :=
  h.rowAt hn (fun i _ => by simp)
theorem Blk.storeAt {P : Program} (h : Blk w b t cs) {ty : TypeId} {i : TypeInfo} {L : Array Value} {o : Nat} (hi : P.info? ty = some i) (hsz : i.size = L.size)
    (hb : o + L.size ≤ cs.size) (h1 : ∀ v ∈ L.toList, v.oneCell' = true) :
    Sem.run P (Instr.storeAt ty (.pointer (some ⟨b, o, none⟩)) (.agg L)) w = .ok () (w.setRow b (cs.toList.take o ++ L.toList ++ cs.toList.drop (o + L.size)).toArray) := by
  have hst := run_storeCells_at P b o t L.toList 0 cs w h (by simpa using hb) h1
  simp only [Nat.add_zero, Array.length_toList] at hst
  simp only [Instr.storeAt, Instr.sureAddr, pure_bind]
  unfold storeVar
  simp [Sem.run_bind, sizeOf, typeInfo, hi, hsz, Value.cells, hst]
end

theorem Blk.storeAll {w : World} {b : Nat} {t : TypeId} {cs : Array Value} {P : Program} (h : Blk w b t cs) {ty : TypeId} {L : Array Value} (hi : (P.info? ty).map (·.size) = some L.size)
    (hb : cs.size = L.size) (h1 : ∀ v ∈ L.toList, v.oneCell' = true) :
    Sem.run P (Instr.storeAt ty (.pointer (some ⟨b, 0, none⟩)) (.agg L)) w = .ok () (w.setRow b L) := by
  obtain ⟨i, hi', hsz⟩ := Option.map_eq_some_iff.1 hi
  rw [h.storeAt hi' hsz (by omega) h1]
  have : cs.toList.drop (0 + L.size) = [] := List.drop_eq_nil_of_le (by simp; omega)
  rw [this]; simp
theorem Blk.rd0 {w : World} {b : Nat} {t : TypeId} {cs : Array Value} (h : Blk w b t cs) {i : Nat} {v : Value} (hv : cs[i]? = some v) :
    w.cell? (Addr.add ⟨b, 0, none⟩ (Int.toNat (i : Int))) = some v := by rw [Int.toNat_natCast, add_at, h.cell, Nat.zero_add, hv]
theorem Blk.rd1 {w : World} {b i : Nat} {t : TypeId} {cs : Array Value} (h : Blk w b t cs) {v : Value} (hv : cs[i]? = some v) :
    w.cell? ⟨b, i, none⟩ = some v := by rw [h.cell, hv]
theorem Blk.canSet0 {w : World} {b : Nat} {t : TypeId} {cs : Array Value} (h : Blk w b t cs) {i : Nat} {v : Value} (hi : i < cs.size) (hv : v.oneCell' = true) : CanSet w (Addr.add ⟨b, 0, none⟩ (Int.toNat (i : Int))) v := by
  rw [Int.toNat_natCast, add_at, Nat.zero_add]; exact h.canSet hi hv
theorem IsSet.at {w w' : World} {b i : Nat} {v : Value} (h : IsSet w (Addr.add ⟨b, 0, none⟩ (Int.toNat (i : Int))) v w') : w' = w.setCell ⟨b, i, none⟩ v := by
  rw [IsSet, Int.toNat_natCast, add_at, Nat.zero_add] at h; exact h

def UpTo (N : Nat) (Inv : Nat → World → Prop) (n : Int) (w : World) : Prop := ∃ k : Nat, n = (k : Int) ∧ k ≤ N ∧ Inv k w
abbrev Left (N : Nat) (n : Int) (_ : World) : Nat := ((N : Int) - n).toNat
theorem loopN {w : World} {b : Int} {B : (Int → World → Prop) → (Int → World → Nat) → Int → (Nat → Value) → World → Prop} {K : Int → (Nat → Value) → World → Prop}
    (N : Nat) (Inv : Nat → World → Prop) (hb : b = (N : Int)) (h0 : Inv 0 w)
    (hB : ∀ (k : Nat) (j : Nat → Value) (w' : World), k < N → Inv k w' → B (UpTo N Inv) (Left N) (k : Int) j w')
    (hK : ∀ (j : Nat → Value) (w' : World), Inv N w' → K (N : Int) j w') :
    ∃ (I : Int → World → Prop) (μ : Int → World → Nat), I 0 w ∧ (∀ (n : Int) (j : Nat → Value) (w4 : World), I n w4 → ((n < b → B I μ n j w4) ∧ (¬ n < b → K n j w4))) := by
  subst hb
  refine ⟨UpTo N Inv, Left N, ⟨0, rfl, Nat.zero_le _, h0⟩, ?_⟩
  rintro _ j w' ⟨k, rfl, hk, hI⟩
  refine ⟨fun h => hB k j w' (by omega) hI, fun h => ?_⟩
  have : k = N := by omega
  subst this
  exact hK j w' hI
theorem UpTo.next {N : Nat} {Inv : Nat → World → Prop} {k : Nat} {m : Int} {w w' : World} (hm : m = ((k + 1 : Nat) : Int)) (hk : k < N) (h : Inv (k + 1) w') : UpTo N Inv m w' ∧ Left N m w' < Left N (k : Int) w := by
  subst hm
  exact ⟨⟨k + 1, rfl, hk, h⟩, by simp only [Left]; omega⟩

end Go.Vcg
end
section
namespace Go.Vcg

def arrOf (n : Nat) (f : Nat → Value) : Array Value := Array.ofFn (n := n) fun i => f i
@[simp] theorem size_arrOf (n : Nat) (f) : (arrOf n f).size = n := by simp [arrOf]
theorem get_arrOf (n : Nat) (f) (i : Nat) : (arrOf n f)[i]? = if i < n then some (f i) else none := by
  simp [arrOf, Array.getElem?_ofFn]
theorem get_arrOf_lt {n : Nat} {f} {i : Nat} (h : i < n) : (arrOf n f)[i]? = some (f i) := by rw [get_arrOf, if_pos h]
theorem arrOf_congr {n : Nat} {f g : Nat → Value} (h : ∀ i, i < n → f i = g i) : arrOf n f = arrOf n g := by
  apply Array.ext <;> simp [arrOf]
  exact fun i hi => h i hi
theorem eq_arrOf {n : Nat} {f : Nat → Value} {cs : Array Value} (hs : cs.size = n) (h : ∀ i, i < n → cs[i]? = some (f i)) : cs = arrOf n f := by
  apply Array.ext
  · simpa using hs
  · intro i h1 h2
    have := h i (by omega)
    rw [Array.getElem?_eq_getElem h1] at this
    simpa [arrOf] using this
theorem set_arrOf (n : Nat) (f : Nat → Value) (i : Nat) (v : Value) : (arrOf n f).setIfInBounds i v = arrOf n (fun j => if j = i then v else f j) := by
  apply Array.ext
  · simp
  · intro j h1 h2
    simp only [arrOf, Array.getElem_ofFn]
    rw [Array.getElem_setIfInBounds (by simpa using h1)]
    split <;> simp_all [eq_comm]
theorem replicate_arrOf (n : Nat) (v : Value) : Array.replicate n v = arrOf n (fun _ => v) := by
  apply Array.ext <;> simp [arrOf]

theorem splice_arrOf (n o m : Nat) (f g : Nat → Value) (h : o + m ≤ n) :
    ((arrOf n f).toList.take o ++ (arrOf m g).toList ++ (arrOf n f).toList.drop (o + m)).toArray = arrOf n (fun i => if i < o then f i else if i < o + m then g (i - o) else f i) := by
  have ef : ∀ n f, (arrOf n f).toList = (List.range n).map f := by
    intro n f
    apply List.ext_getElem?
    intro i
    rw [Array.getElem?_toList, get_arrOf, List.getElem?_map]
    by_cases hi : i < n
    · rw [if_pos hi, List.getElem?_range hi]; rfl
    · rw [if_neg hi, List.getElem?_eq_none (by simp; omega)]; rfl
  refine eq_arrOf ?_ (fun i hi => ?_)
  · simp [ef]; omega
  · rw [List.getElem?_toArray, ef, ef]
    have l1 : (List.take o ((List.range n).map f)).length = o := by simp; omega
    have l2 : (List.take o ((List.range n).map f) ++ (List.range m).map g).length = o + m := by rw [List.length_append, l1]; simp
    by_cases h1 : i < o
    · rw [if_pos h1, List.append_assoc, List.getElem?_append_left (by omega), List.getElem?_take, if_pos h1, List.getElem?_map, List.getElem?_range hi]; rfl
    · rw [if_neg h1]
      by_cases h2 : i < o + m
      · rw [if_pos h2, List.getElem?_append_left (by omega), List.getElem?_append_right (by omega), l1, List.getElem?_map, List.getElem?_range (by omega)]; rfl
      · rw [if_neg h2, List.getElem?_append_right (by omega), l2, List.getElem?_drop, List.getElem?_map, show o + m + (i - (o + m)) = i by omega, List.getElem?_range hi]; rfl

abbrev uI (x : BitVec 64) : Int := (x.toNat : Int)
abbrev uV (x : BitVec 64) : Value := .int .u64 (uI x)

theorem ofInt_uI (x : BitVec 64) : BitVec.ofInt 64 (uI x) = x := by
  apply BitVec.eq_of_toNat_eq
  simp
theorem wrap_u64 (n : Int) : IntKind.wrap .u64 n = n % 18446744073709551616 := by
  simp [IntKind.wrap, IntKind.bits, IntKind.signed]
theorem wrap_u64_nat (n : Nat) (h : n < 2 ^ 64) : IntKind.wrap .u64 (n : Int) = n := by
  rw [wrap_u64]; omega
theorem wrap_uI (x : BitVec 64) : IntKind.wrap .u64 (uI x) = uI x := wrap_u64_nat _ x.isLt
theorem bitsI_xor (x y : BitVec 64) : bitsI .xor .u64 (uI x) (uI y) = uI (x ^^^ y) := by
  simp only [bitsI, IntKind.bits, ofInt_uI]; exact wrap_uI _
theorem bitsI_and (x y : BitVec 64) : bitsI .and .u64 (uI x) (uI y) = uI (x &&& y) := by
  simp only [bitsI, IntKind.bits, ofInt_uI]; exact wrap_uI _
theorem bitsI_or (x y : BitVec 64) : bitsI .or .u64 (uI x) (uI y) = uI (x ||| y) := by
  simp only [bitsI, IntKind.bits, ofInt_uI]; exact wrap_uI _
theorem bitsI_not (x : BitVec 64) : bitsI .xor .u64 18446744073709551615 (uI x) = uI (~~~ x) := by
  have : (18446744073709551615 : Int) = uI (BitVec.allOnes 64) := by decide
  rw [this, bitsI_xor]
  congr 2
theorem shlI_u (x : BitVec 64) (n : Nat) : shlI .u64 (uI x) (n : Int) = uI (x <<< n) := by
  unfold shlI
  rw [wrap_u64]
  show (x.toNat : Int) * 2 ^ (min (Int.toNat (n : Int)) 64) % 18446744073709551616 = ((x <<< n).toNat : Int)
  rw [Int.toNat_natCast, BitVec.toNat_shiftLeft, Nat.shiftLeft_eq]
  by_cases h : n ≤ 64
  · rw [Nat.min_eq_left h]
    have e : (2 : Int) ^ n = ((2 ^ n : Nat) : Int) := by simp
    rw [e, ← Int.natCast_mul]
    omega
  · rw [Nat.min_eq_right (by omega)]
    have h0 : x.toNat * 2 ^ n % 2 ^ 64 = 0 := by
      have h1 : 2 ^ n = 2 ^ (n - 64) * 2 ^ 64 := by rw [← Nat.pow_add]; congr 1; omega
      rw [h1, ← Nat.mul_assoc, Nat.mul_mod_left]
    rw [h0]
    omega
theorem shrI_u (x : BitVec 64) (n : Nat) (k : IntKind) (hk : k.bits = 64) : shrI k (uI x) (n : Int) = uI (x >>> n) := by
  unfold shrI
  rw [hk, Int.toNat_natCast]
  show Int.fdiv (x.toNat : Int) (2 ^ (min n 64)) = ((x >>> n).toNat : Int)
  rw [BitVec.toNat_ushiftRight, Nat.shiftRight_eq_div_pow]
  have hx := x.isLt
  have e : ∀ m : Nat, (2 : Int) ^ m = ((2 ^ m : Nat) : Int) := by intro m; simp
  by_cases h : n ≤ 64
  · rw [Nat.min_eq_left h, e, Int.fdiv_eq_ediv_of_nonneg _ (Int.natCast_nonneg _), Int.natCast_ediv]
  · rw [Nat.min_eq_right (by omega), e, Int.fdiv_eq_ediv_of_nonneg _ (Int.natCast_nonneg _), ← Int.natCast_ediv]
    have h1 : x.toNat / 2 ^ n = 0 := Nat.div_eq_of_lt (Nat.lt_trans hx (Nat.pow_lt_pow_right (by decide) (by omega)))
    rw [h1, Nat.div_eq_of_lt hx]

theorem wrap_i64 (n : Int) : IntKind.wrap .i64 n = (n + 9223372036854775808) % 18446744073709551616 - 9223372036854775808 := by
  unfold IntKind.wrap
  show (if (true && decide (n % 18446744073709551616 ≥ 9223372036854775808)) = true then n % 18446744073709551616 - 18446744073709551616 else n % 18446744073709551616) = _
  simp only [Bool.true_and, decide_eq_true_eq]
  split <;> omega
theorem wrap_i64_small {n : Int} (h : -9223372036854775808 ≤ n) (h' : n < 9223372036854775808) : IntKind.wrap .i64 n = n := by
  rw [wrap_i64]; omega

theorem tmod_nn (a b : Int) (h : 0 ≤ a) : Int.tmod a b = a % b := Int.tmod_eq_emod_of_nonneg h

abbrev St := Nat → BitVec 64
def lanesA (s : St) : Array Value := arrOf 25 (fun i => uV (s i))
theorem size_lanesA (s : St) : (lanesA s).size = 25 := size_arrOf _ _
theorem arrOf_one {n : Nat} {f : Nat → Value} (h : ∀ i, (f i).oneCell' = true) : ∀ v ∈ (arrOf n f).toList, v.oneCell' = true := by
  intro v hv
  simp only [arrOf, Array.mem_toList_iff, Array.mem_ofFn] at hv
  obtain ⟨i, rfl⟩ := hv
  exact h i
theorem lanesA_one (s : St) : ∀ v ∈ (lanesA s).toList, v.oneCell' = true := arrOf_one (fun _ => rfl)
theorem lanesA_congr {s r : St} (h : ∀ i, i < 25 → s i = r i) : lanesA s = lanesA r := arrOf_congr (fun i hi => by rw [h i hi])
theorem get_lanesA (s : St) {i : Nat} (h : i < 25) : (lanesA s)[i]? = some (uV (s i)) := get_arrOf_lt h

def turnsL : List Nat := [0, 1, 62, 28, 27, 36, 44, 6, 55, 20, 3, 10, 43, 25, 39, 41, 45, 15, 21, 8, 18, 2, 61, 56, 14]
def turnOf (i : Nat) : Nat := turnsL.getD i 0
def rcL : List (BitVec 64) := [0x0000000000000001, 0x0000000000008082, 0x800000000000808a, 0x8000000080008000, 0x000000000000808b, 0x0000000080000001, 0x8000000080008081, 0x8000000000008009, 0x000000000000008a, 0x0000000000000088, 0x0000000080008009, 0x000000008000000a, 0x000000008000808b, 0x800000000000008b, 0x8000000000008089, 0x8000000000008003, 0x8000000000008002, 0x8000000000000080, 0x000000000000800a, 0x800000008000000a, 0x8000000080008081, 0x8000000000008080, 0x0000000080000001, 0x8000000080008008]
def rcOf (i : Nat) : BitVec 64 := rcL.getD i 0
theorem turnOf_lt (i : Nat) : turnOf i < 64 := by
  unfold turnOf
  by_cases h : i < 25
  · have : ∀ i, i < 25 → turnsL.getD i 0 < 64 := by decide
    exact this i h
  · rw [List.getD_eq_getElem?_getD, List.getElem?_eq_none (by simp [turnsL]; omega)]; simp

def parK (s : St) (x : Nat) : Nat → BitVec 64
  | 0 => 0
  | k + 1 => parK s x k ^^^ s (x + 5 * k)
def par (s : St) (x : Nat) : BitVec 64 := parK s x 5
def ddK (s : St) (x : Nat) : BitVec 64 := par s ((x + 4) % 5) ^^^ (par s ((x + 1) % 5)).rotateLeft 1
def bbXY (s : St) (x y : Nat) : BitVec 64 := (s (x + 5 * y) ^^^ ddK s x).rotateLeft (turnOf (x + 5 * y))
def bbK (s : St) (j : Nat) : BitVec 64 := bbXY s ((j % 5 + 3 * (j / 5)) % 5) (j % 5)
def chiK (b : St) (j : Nat) : BitVec 64 := b j ^^^ (~~~ b ((j % 5 + 1) % 5 + 5 * (j / 5)) &&& b ((j % 5 + 2) % 5 + 5 * (j / 5)))
def rnd (n : Nat) (s : St) : St := fun j => if j = 0 then chiK (bbK s) 0 ^^^ rcOf n else chiK (bbK s) j
def rnds : Nat → St → St
  | 0, s => s
  | n + 1, s => rnd n (rnds n s)
def keccakF (s : St) : St := rnds 24 s

def regOf : Nat → Nat
  | 0 => 1
  | k + 1 => if 2 * regOf k > 255 then (2 * regOf k - 256) ^^^ 0x71 else 2 * regOf k
def rcPart (i : Nat) : Nat → BitVec 64
  | 0 => 0
  | j + 1 => rcPart i j ||| ((if regOf (7 * i + j) % 2 = 1 then (1 : BitVec 64) else 0) <<< (2 ^ j - 1))
def rcXor (i : Nat) : Nat → BitVec 64
  | 0 => 0
  | j + 1 => rcXor i j ^^^ ((if regOf (7 * i + j) % 2 = 1 then (1 : BitVec 64) else 0) <<< (2 ^ j - 1))
def xyOf : Nat → Nat × Nat
  | 0 => (1, 0)
  | t + 1 => ((xyOf t).2, (2 * (xyOf t).1 + 3 * (xyOf t).2) % 5)
def tarr : Nat → Nat → Nat
  | 0 => fun _ => 0
  | t + 1 => fun j => if j = (xyOf t).1 + 5 * (xyOf t).2 then (t + 1) * (t + 2) / 2 % 64 else tarr t j

theorem reg_lt : ∀ k : Nat, k < 169 → regOf k < 256 := by decide +kernel
theorem rcPart_end : ∀ i : Nat, i < 24 → rcPart i 7 = rcOf i := by decide +kernel
theorem rcXor_end : ∀ i : Nat, i < 24 → rcXor i 7 = rcOf i := by decide +kernel
theorem xy_lt : ∀ t : Nat, t < 25 → (xyOf t).1 < 5 ∧ (xyOf t).2 < 5 := by decide +kernel
theorem tarr_end : ∀ j : Nat, j < 25 → tarr 24 j = turnOf j := by decide +kernel
theorem reg_next : ∀ k : Nat, k < 168 → (regOf k * 2 > 255 → bitsI .xor .i64 ((regOf k * 2 - 256 : Nat) : Int) 113 = (regOf (k + 1) : Int)) := by decide +kernel
theorem reg_next' (k : Nat) (h : ¬ regOf k * 2 > 255) : regOf (k + 1) = regOf k * 2 := by
  rw [regOf, if_neg (by omega)]; omega
theorem reg_and : ∀ k : Nat, k < 168 → bitsI .and .i64 (regOf k : Int) 1 = (regOf k % 2 : Nat) := by decide +kernel
theorem pow_sh : ∀ j : Nat, j < 7 → IntKind.wrap .u64 (shlI .u64 1 (j : Int) - 1) = ((2 ^ j - 1 : Nat) : Int) := by decide +kernel
theorem turn_num : ∀ t : Nat, t < 24 → Int.tmod (IntKind.wrap .i64 (Int.tdiv (IntKind.wrap .i64 ((IntKind.wrap .i64 ((t : Int) + 1)) * (IntKind.wrap .i64 ((t : Int) + 2)))) 2)) 64 = (((t + 1) * (t + 2) / 2 % 64 : Nat) : Int) := by decide +kernel

end Go.Vcg
end
section
namespace Go.Proofs.Ytfghidehlnfdiaa
open Go Go.Vcg

theorem at_calls {R : Ending → World → Prop} {w : World} {n0 n1 : Int} (x y : Nat) (h0 : n0 = (x : Int)) (h1 : n1 = (y : Int)) (hx : x < 1000) (hy : y < 1000)
    (h : R (.returned (.int .i64 ((x % 5 + 5 * (y % 5) : Nat) : Int))) w) : Calls Try.prog keccak_at.n #[.int .i64 n0, .int .i64 n1] w R := by
  subst h0 h1
  refine keccak_at.vc _ _ _ _ ?_
  unfold keccak_at.Vc
  have e : IntKind.wrap .i64 (Int.tmod (x : Int) 5 + IntKind.wrap .i64 (5 * Int.tmod (y : Int) 5)) = ((x % 5 + 5 * (y % 5) : Nat) : Int) := by
    simp (disch := omega) only [tmod_nn, wrap_i64_small]
    omega
  rw [e]
  exact h

theorem rotl_calls {R : Ending → World → Prop} {w : World} {n0 n1 : Int} (x : BitVec 64) (k : Nat) (h0 : n0 = uI x) (h1 : n1 = (k : Int)) (hk : k < 64)
    (h : R (.returned (uV (x.rotateLeft k))) w) : Calls Try.prog math_bits_RotateLeft64.n #[.int .u64 n0, .int .i64 n1] w R := by
  subst h0 h1
  refine math_bits_RotateLeft64.vc _ _ _ _ ?_
  unfold math_bits_RotateLeft64.Vc
  have e1 : bitsI .and .u64 (IntKind.wrap .u64 (k : Int)) 63 = (k : Int) := by
    have : ∀ k : Nat, k < 64 → bitsI .and .u64 (IntKind.wrap .u64 (k : Int)) 63 = (k : Int) := by decide +kernel
    exact this k hk
  have e2 : IntKind.wrap .u64 (64 - (k : Int)) = ((64 - k : Nat) : Int) := by
    rw [wrap_u64]; omega
  rw [e1, e2]
  refine ⟨by omega, by omega, ?_⟩
  rw [shlI_u, shrI_u _ _ _ rfl, bitsI_or]
  have e3 : x <<< k ||| x >>> (64 - k) = x.rotateLeft k := by
    rw [BitVec.rotateLeft_def]
    rw [Nat.mod_eq_of_lt hk]
  rw [e3]
  exact h

structure PlanAt (w : World) (b o : Nat) : Prop where
  lt : b < w.heap.size
  rc : ∀ i, i < 24 → w.cell? ⟨b, o + i, none⟩ = some (uV (rcOf i))
  turn : ∀ i, i < 25 → w.cell? ⟨b, o + 24 + i, none⟩ = some (.int .i64 (turnOf i))

theorem cell_mod {S : Nat → Prop} {w w' : World} (m : Mod S w w') {b i : Nat} (hb : b < w.heap.size) (hs : ¬ S b) : w'.cell? ⟨b, i, none⟩ = w.cell? ⟨b, i, none⟩ :=
  World.cell?_of_block (m.block b hb hs)

theorem PlanAt.mod {S : Nat → Prop} {w w' : World} {b o : Nat} (h : PlanAt w b o) (m : Mod S w w') (hs : ¬ S b) : PlanAt w' b o :=
  ⟨Nat.lt_of_lt_of_le h.lt m.size, fun i hi => (cell_mod m h.lt hs).trans (h.rc i hi), fun i hi => (cell_mod m h.lt hs).trans (h.turn i hi)⟩


theorem cond2_all : ((List.range 5).all fun x => (List.range 5).all fun k => (List.range 25).all fun j =>
    (decide ((j % 5 + 3 * (j / 5)) % 5 < x) || (decide ((j % 5 + 3 * (j / 5)) % 5 = x) && decide (j % 5 < k + 1))) == (decide (j = k % 5 + 5 * ((2 * x + 3 * k) % 5)) || (decide ((j % 5 + 3 * (j / 5)) % 5 < x) || (decide ((j % 5 + 3 * (j / 5)) % 5 = x) && decide (j % 5 < k))))) = true := by decide +kernel
theorem cond2 (x : Nat) (hx : x < 5) (k : Nat) (hk : k < 5) (j : Nat) (hj : j < 25) :
    (((j % 5 + 3 * (j / 5)) % 5 < x ∨ (j % 5 + 3 * (j / 5)) % 5 = x ∧ j % 5 < k + 1) ↔ (j = k % 5 + 5 * ((2 * x + 3 * k) % 5) ∨ ((j % 5 + 3 * (j / 5)) % 5 < x ∨ (j % 5 + 3 * (j / 5)) % 5 = x ∧ j % 5 < k))) := by
  have h := cond2_all
  simp only [List.all_eq_true, List.mem_range] at h
  have h1 := h x hx k hk j hj
  simp only [beq_iff_eq] at h1
  rw [Bool.eq_iff_iff] at h1
  simpa only [Bool.or_eq_true, Bool.and_eq_true, decide_eq_true_eq] using h1
theorem cond2' : ∀ x : Nat, x < 5 → ∀ k : Nat, k < 5 → (k % 5 + 5 * ((2 * x + 3 * k) % 5)) < 25 ∧ ((k % 5 + 5 * ((2 * x + 3 * k) % 5)) % 5 + 3 * ((k % 5 + 5 * ((2 * x + 3 * k) % 5)) / 5)) % 5 = x ∧ (k % 5 + 5 * ((2 * x + 3 * k) % 5)) % 5 = k := by decide +kernel

theorem round_calls {w : World} (s : St) (b o : Nat) (n : Nat) (hn : n < 24) (hp : PlanAt w b o) :
    Calls Try.prog keccak_state_round.n #[.agg (lanesA s), .pointer (some ⟨b, o, none⟩), .int .i64 (n : Int)] w
      (fun e w' => e = .returned (.agg (lanesA (rnd n s))) ∧ Mod NoB w w') := by
  refine keccak_state_round.vc _ _ _ _ _ ?_
  unfold keccak_state_round.Vc
  rintro d3 w4 ⟨rfl, rfl⟩ d5 w6 ⟨rfl, rfl⟩ d7 w8 ⟨rfl, rfl⟩
  have B3 := ((Blk.new w 110 (lanesA s)).alloc (.cells (Array.replicate 25 (.int .u64 0)) 110)).alloc (.cells #[(.int .u64 0), (.int .u64 0), (.int .u64 0), (.int .u64 0), (.int .u64 0)] 118)
  have B5 := (Blk.new (w.alloc (.cells (lanesA s) 110)) 110 (Array.replicate 25 (.int .u64 0))).alloc (.cells #[(.int .u64 0), (.int .u64 0), (.int .u64 0), (.int .u64 0), (.int .u64 0)] 118)
  have B7 := Blk.new ((w.alloc (.cells (lanesA s) 110)).alloc (.cells (Array.replicate 25 (.int .u64 0)) 110)) 118 #[(.int .u64 0), (.int .u64 0), (.int .u64 0), (.int .u64 0), (.int .u64 0)]
  have M := ((Mod.alloc (S := NoB) w (.cells (lanesA s) 110)).step_alloc (.cells (Array.replicate 25 (.int .u64 0)) 110)).step_alloc (.cells #[(.int .u64 0), (.int .u64 0), (.int .u64 0), (.int .u64 0), (.int .u64 0)] 118)
  simp only [size_alloc] at B5 B7 ⊢
  generalize ((w.alloc (.cells (lanesA s) 110)).alloc (.cells (Array.replicate 25 (.int .u64 0)) 110)).alloc (.cells #[(.int .u64 0), (.int .u64 0), (.int .u64 0), (.int .u64 0), (.int .u64 0)] 118) = w8 at *
  have hN := hp.lt
  generalize hNe : w.heap.size = N at *
  have e5 : #[(.int .u64 0), (.int .u64 0), (.int .u64 0), (.int .u64 0), (.int .u64 0)] = arrOf 5 (fun i => uV (if i < 0 then par s i else 0)) := by rfl
  rw [e5] at B7
  clear e5
  -- the columns' parities
  refine loopN 5 (fun x w' => Vcg.Mod NoB w w' ∧ Blk w' N 110 (lanesA s) ∧ Blk w' (N + 1) 110 (Array.replicate 25 (.int .u64 0)) ∧
    Blk w' (N + 1 + 1) 118 (arrOf 5 (fun i => uV (if i < x then par s i else 0)))) rfl ⟨M, B3, B5, B7⟩ ?_ ?_
  · clear M B3 B5 B7
    rintro x _ w1 hx ⟨M, B3, B5, B7⟩
    refine loopN 5 (fun k w' => Vcg.Mod NoB w w' ∧ Blk w' N 110 (lanesA s) ∧ Blk w' (N + 1) 110 (Array.replicate 25 (.int .u64 0)) ∧
      Blk w' (N + 1 + 1) 118 (arrOf 5 (fun i => uV (if i < x then par s i else if i = x then parK s x k else 0)))) rfl ⟨M, B3, B5, ?_⟩ ?_ ?_
    · have : (fun i => uV (if i < x then par s i else if i = x then parK s x 0 else 0)) = (fun i => uV (if i < x then par s i else 0)) := by
        funext i; simp [parK]
      rw [this]; exact B7
    · clear M B3 B5 B7
      rintro k _ w2 hk ⟨M, B3, B5, B7⟩
      rintro _ rfl
      refine ⟨by omega, _, B7.drew.rd0 (get_arrOf_lt (by omega)), at_calls x k rfl rfl (by omega) (by omega) ⟨_, rfl, B7.drew.rd0 (get_arrOf_lt (by omega)), by omega, _, B3.drew.rd0 (get_lanesA s (by omega)), by omega, B7.drew.canSet0 (by simp; omega) rfl, fun w3 h3 => ?_⟩⟩
      rw [h3.at]
      refine UpTo.next (by rw [wrap_i64_small (by omega) (by omega)]; omega) hk ⟨(M.step_drew).step_set (fun h => by simp only [hNe] at h; omega), B3.drew.set_ne (by simp; omega), B5.drew.set_ne (by simp), ?_⟩
      have := B7.drew.set x (uV (parK s x (k + 1)))
      rw [set_arrOf] at this
      simp only [bitsI_xor, if_true, Nat.lt_irrefl, if_false]
      have e1 : parK s x (k + 1) = parK s x k ^^^ s (x % 5 + 5 * (k % 5)) := by
        rw [parK, Nat.mod_eq_of_lt hx, Nat.mod_eq_of_lt hk]
      rw [← e1]
      refine (arrOf_congr (fun j hj => ?_)) ▸ this
      grind
    · rintro _ w2 ⟨M, B3, B5, B7⟩
      refine UpTo.next (by rw [wrap_i64_small (by omega) (by omega)]; omega) hx ⟨M, B3, B5, ?_⟩
      refine (arrOf_congr (fun j hj => ?_)) ▸ B7
      have : par s x = parK s x 5 := rfl
      grind
  · clear M B3 B5 B7
    rintro _ w1 ⟨M, B3, B5, B7⟩ d22 w23 ⟨rfl, rfl⟩
    have hsz : N + 1 + 1 < w1.heap.size := B7.lt
    have B8 := Blk.new w1 110 (Array.replicate 25 (.int .u64 0))
    replace B3 := B3.alloc (.cells (Array.replicate 25 (.int .u64 0)) 110)
    replace B5 := B5.alloc (.cells (Array.replicate 25 (.int .u64 0)) 110)
    replace B7 := B7.alloc (.cells (Array.replicate 25 (.int .u64 0)) 110)
    replace M := M.step_alloc (.cells (Array.replicate 25 (.int .u64 0)) 110)
    generalize w1.alloc (.cells (Array.replicate 25 (.int .u64 0)) 110) = w2 at *
    generalize w1.heap.size = Q at *
    -- what is moved
    refine loopN 5 (fun x w' => Vcg.Mod NoB w w' ∧ Blk w' N 110 (lanesA s) ∧ Blk w' (N + 1) 110 (Array.replicate 25 (.int .u64 0)) ∧
      Blk w' (N + 1 + 1) 118 (arrOf 5 (fun i => uV (if i < 5 then par s i else 0))) ∧ Blk w' Q 110 (arrOf 25 (fun j => uV (if (j % 5 + 3 * (j / 5)) % 5 < x then bbK s j else 0)))) rfl
      ⟨M, B3, B5, B7, by rw [replicate_arrOf] at B8; simp only [Nat.not_lt_zero, if_false]; exact B8⟩ ?_ ?_
    · clear M B3 B5 B7 B8
      rintro x _ w2 hx ⟨M, B3, B5, B7, B8⟩
      rintro _ rfl
      have c1 : Int.tmod (IntKind.wrap .i64 ((IntKind.wrap .i64 ((x : Int) + 5)) - 1)) 5 = (((x + 4) % 5 : Nat) : Int) := by
        simp (disch := omega) only [tmod_nn, wrap_i64_small]; omega
      have c2 : Int.tmod (IntKind.wrap .i64 ((x : Int) + 1)) 5 = (((x + 1) % 5 : Nat) : Int) := by
        simp (disch := omega) only [tmod_nn, wrap_i64_small]; omega
      rw [c1, c2]
      clear c1 c2
      have l1 : (x + 4) % 5 < 5 := Nat.mod_lt _ (by decide)
      have l2 : (x + 1) % 5 < 5 := Nat.mod_lt _ (by decide)
      refine ⟨by omega, _, B7.drew.rd0 (get_arrOf_lt l1), by omega, _, B7.drew.rd0 (get_arrOf_lt l2), ?_⟩
      rw [if_pos l1, if_pos l2]
      refine rotl_calls _ 1 rfl rfl (by omega) ⟨_, rfl, by rw [B7.drew.rd0 (get_arrOf_lt l1), if_pos l1], ?_⟩
      rw [bitsI_xor]
      refine loopN 5 (fun k w' => Vcg.Mod NoB w w' ∧ Blk w' N 110 (lanesA s) ∧ Blk w' (N + 1) 110 (Array.replicate 25 (.int .u64 0)) ∧
        Blk w' (N + 1 + 1) 118 (arrOf 5 (fun i => uV (if i < 5 then par s i else 0))) ∧ Blk w' Q 110 (arrOf 25 (fun j => uV (if (j % 5 + 3 * (j / 5)) % 5 < x ∨ (j % 5 + 3 * (j / 5)) % 5 = x ∧ j % 5 < k then bbK s j else 0)))) rfl
        ⟨M.step_drew, B3, B5, B7, by simpa using B8.drew⟩ ?_ ?_
      · clear M B3 B5 B7 B8
        rintro k _ w3 hk ⟨M, B3, B5, B7, B8⟩
        rintro _ rfl
        have c3 := cond2' x hx k hk
        have hp' := hp.mod (M.step_drew) (fun h => h)
        refine at_calls k (2 * x + 3 * k) rfl (by simp (disch := omega) only [wrap_i64_small]; omega) (by omega) (by omega) ⟨_, rfl, ?_⟩
        refine at_calls x k rfl rfl (by omega) (by omega) ⟨_, rfl, by omega, _, B3.drew.rd0 (get_lanesA s (by omega)), ?_⟩
        refine at_calls x k rfl rfl (by omega) (by omega) ⟨_, rfl, B3.drew.rd0 (get_lanesA s (by omega)), by omega, _, by rw [add_at, add_at, Int.toNat_natCast]; exact hp'.turn _ (by omega), ?_⟩
        refine rotl_calls (s (x % 5 + 5 * (k % 5)) ^^^ (par s ((x + 4) % 5) ^^^ (par s ((x + 1) % 5)).rotateLeft 1)) (turnOf (x % 5 + 5 * (k % 5))) (by rw [bitsI_xor]) rfl (turnOf_lt _) ⟨_, rfl, by omega, B8.drew.canSet0 (by simp; omega) rfl, fun w4 h4 => ?_⟩
        rw [h4.at]
        refine UpTo.next (by rw [wrap_i64_small (by omega) (by omega)]; omega) hk ⟨(M.step_drew).step_set (fun h => by simp only [hNe] at h; omega), B3.drew.set_ne (by simp; omega), B5.drew.set_ne (by simp; omega), B7.drew.set_ne (by simp; omega), ?_⟩
        have := B8.drew.set (k % 5 + 5 * ((2 * x + 3 * k) % 5)) (uV ((s (x % 5 + 5 * (k % 5)) ^^^ (par s ((x + 4) % 5) ^^^ (par s ((x + 1) % 5)).rotateLeft 1)).rotateLeft (turnOf (x % 5 + 5 * (k % 5)))))
        rw [set_arrOf] at this
        refine (arrOf_congr (fun j hj => ?_)) ▸ this
        have e1 : bbK s (k % 5 + 5 * ((2 * x + 3 * k) % 5)) = (s (x % 5 + 5 * (k % 5)) ^^^ (par s ((x + 4) % 5) ^^^ (par s ((x + 1) % 5)).rotateLeft 1)).rotateLeft (turnOf (x % 5 + 5 * (k % 5))) := by
          rw [bbK, c3.2.1, c3.2.2, bbXY, Nat.mod_eq_of_lt hx, Nat.mod_eq_of_lt hk, ddK]
        have c4 := cond2 x hx k hk j hj
        rw [← e1]
        by_cases hj' : j = k % 5 + 5 * ((2 * x + 3 * k) % 5)
        · rw [if_pos hj', if_pos (c4.2 (.inl hj')), hj']
        · rw [if_neg hj']
          congr 2
          simp only [c4, hj', false_or]
      · rintro _ w3 ⟨M, B3, B5, B7, B8⟩
        refine UpTo.next (by rw [wrap_i64_small (by omega) (by omega)]; omega) hx ⟨M, B3, B5, B7, ?_⟩
        refine (arrOf_congr (fun j hj => ?_)) ▸ B8
        congr 2
        have : j % 5 < 5 := by omega
        simp only [this, and_true]
        have : (j % 5 + 3 * (j / 5)) % 5 < x + 1 ↔ (j % 5 + 3 * (j / 5)) % 5 < x ∨ (j % 5 + 3 * (j / 5)) % 5 = x := by omega
        simp only [this]
    · clear M B3 B5 B7 B8
      rintro _ w1 ⟨M, B3, B5, B7, B8⟩ d52 w53 ⟨rfl, rfl⟩
      have hsz : Q < w1.heap.size := B8.lt
      have hsz5 : N + 1 < w1.heap.size := B5.lt
      have B9 := Blk.new w1 110 (Array.replicate 25 (.int .u64 0))
      replace B5 := B5.alloc (.cells (Array.replicate 25 (.int .u64 0)) 110)
      replace B8 := B8.alloc (.cells (Array.replicate 25 (.int .u64 0)) 110)
      replace M := M.step_alloc (.cells (Array.replicate 25 (.int .u64 0)) 110)
      clear B3 B7
      have e8 : arrOf 25 (fun j => uV (if (j % 5 + 3 * (j / 5)) % 5 < 5 then bbK s j else 0)) = lanesA (bbK s) :=
        arrOf_congr (fun j hj => by rw [if_pos (by omega)])
      rw [e8] at B8
      generalize w1.alloc (.cells (Array.replicate 25 (.int .u64 0)) 110) = w2 at *
      generalize w1.heap.size = T at *
      refine loopN 5 (fun x w' => Vcg.Mod NoB w w' ∧ Blk w' (N + 1) 110 (Array.replicate 25 (.int .u64 0)) ∧ Blk w' Q 110 (lanesA (bbK s)) ∧
        Blk w' T 110 (arrOf 25 (fun j => uV (if j % 5 < x then chiK (bbK s) j else 0)))) rfl
        ⟨M, B5, B8, by rw [replicate_arrOf] at B9; simp only [Nat.not_lt_zero, if_false]; exact B9⟩ ?_ ?_
      · clear M B5 B8 B9
        rintro x _ w2 hx ⟨M, B5, B8, B9⟩
        refine loopN 5 (fun k w' => Vcg.Mod NoB w w' ∧ Blk w' (N + 1) 110 (Array.replicate 25 (.int .u64 0)) ∧ Blk w' Q 110 (lanesA (bbK s)) ∧
          Blk w' T 110 (arrOf 25 (fun j => uV (if j % 5 < x ∨ j % 5 = x ∧ j / 5 < k then chiK (bbK s) j else 0)))) rfl
          ⟨M, B5, B8, by simpa using B9⟩ ?_ ?_
        · clear M B5 B8 B9
          rintro k _ w3 hk ⟨M, B5, B8, B9⟩
          rintro _ rfl
          refine at_calls x k rfl rfl (by omega) (by omega) ⟨_, rfl, ?_⟩
          refine at_calls x k rfl rfl (by omega) (by omega) ⟨_, rfl, by omega, _, B8.drew.rd0 (get_lanesA _ (by omega)), ?_⟩
          refine at_calls (x + 1) k (by rw [wrap_i64_small (by omega) (by omega)]; omega) rfl (by omega) (by omega) ⟨_, rfl, B8.drew.rd0 (get_lanesA _ (by omega)), by omega, _, B8.drew.rd0 (get_lanesA _ (by omega)), ?_⟩
          refine at_calls (x + 2) k (by rw [wrap_i64_small (by omega) (by omega)]; omega) rfl (by omega) (by omega) ⟨_, rfl, B8.drew.rd0 (get_lanesA _ (by omega)), B8.drew.rd0 (get_lanesA _ (by omega)), by omega, _, B8.drew.rd0 (get_lanesA _ (by omega)), by omega, B9.drew.canSet0 (by simp; omega) rfl, fun w4 h4 => ?_⟩
          rw [h4.at]
          refine UpTo.next (by rw [wrap_i64_small (by omega) (by omega)]; omega) hk ⟨(M.step_drew).step_set (fun h => by simp only [hNe] at h; omega), B5.drew.set_ne (by simp; omega), B8.drew.set_ne (by simp; omega), ?_⟩
          rw [bitsI_not, bitsI_and, bitsI_xor]
          have := B9.drew.set (x % 5 + 5 * (k % 5)) (uV (bbK s (x % 5 + 5 * (k % 5)) ^^^ (~~~ bbK s ((x + 1) % 5 + 5 * (k % 5)) &&& bbK s ((x + 2) % 5 + 5 * (k % 5)))))
          rw [set_arrOf] at this
          refine (arrOf_congr (fun j hj => ?_)) ▸ this
          have e1 : chiK (bbK s) (x % 5 + 5 * (k % 5)) = bbK s (x % 5 + 5 * (k % 5)) ^^^ (~~~ bbK s ((x + 1) % 5 + 5 * (k % 5)) &&& bbK s ((x + 2) % 5 + 5 * (k % 5))) := by
            rw [chiK, show (x % 5 + 5 * (k % 5)) % 5 = x by omega, show (x % 5 + 5 * (k % 5)) / 5 = k by omega, show k % 5 = k by omega]
          rw [← e1]
          by_cases hj' : j = x % 5 + 5 * (k % 5)
          · rw [if_pos hj', if_pos (by omega), hj']
          · rw [if_neg hj']
            congr 2
            have : (j % 5 < x ∨ j % 5 = x ∧ j / 5 < k + 1) ↔ (j % 5 < x ∨ j % 5 = x ∧ j / 5 < k) := by omega
            simp only [this]
        · rintro _ w3 ⟨M, B5, B8, B9⟩
          refine UpTo.next (by rw [wrap_i64_small (by omega) (by omega)]; omega) hx ⟨M, B5, B8, ?_⟩
          refine (arrOf_congr (fun j hj => ?_)) ▸ B9
          congr 2
          have : j % 5 < x + 1 ↔ j % 5 < x ∨ j % 5 = x ∧ j / 5 < 5 := by omega
          simp only [this]
      · clear M B5 B8 B9
        rintro _ w3 ⟨M, B5, B8, B9⟩ _ rfl
        have hp' := hp.mod (M.step_drew) (fun h => h)
        refine ⟨_, B9.drew.rd1 (get_arrOf_lt (by omega)), by omega, _, by rw [add_at, Int.toNat_natCast]; exact hp'.rc _ hn, B9.drew.canSet (by simp) rfl, ?_⟩
        rintro w4 rfl
        have B9' := B9.drew.set 0 (uV (rnd n s 0))
        rw [set_arrOf] at B9'
        rw [if_pos (by omega), bitsI_xor]
        have e9 : (arrOf 25 fun j => if j = 0 then uV (rnd n s 0) else uV (if j % 5 < 5 then chiK (bbK s) j else 0)) = lanesA (rnd n s) :=
          arrOf_congr (fun j hj => by
            by_cases h0 : j = 0
            · rw [if_pos h0, h0]
            · rw [if_neg h0, if_pos (by omega), rnd, if_neg h0])
        rw [e9] at B9'
        have B5' : Blk (w3.drew.setCell ⟨T, 0, none⟩ (uV (rnd n s 0))) (N + 1) 110 (Array.replicate 25 (.int .u64 0)) := B5.drew.set_ne (by simp; omega)
        have M' : Vcg.Mod NoB w (w3.drew.setCell ⟨T, 0, none⟩ (uV (rnd n s 0))) := (M.step_drew).step_set (fun h => by simp only [hNe] at h; omega)
        have e10 : chiK (bbK s) 0 ^^^ rcOf n = rnd n s 0 := by simp [rnd]
        rw [e10]
        refine ⟨_, B9'.rowAll (size_lanesA _), _, B5'.storeAll (L := lanesA (rnd n s)) (by rw [size_lanesA]; kernel_rfl) (by rw [size_lanesA, Array.size_replicate]) (lanesA_one _), _, (B5'.row_same _).rowAll (size_lanesA _), rfl, M'.step_row (fun h => by omega)⟩

end Go.Proofs.Ytfghidehlnfdiaa
end
