/- The verification conditions of some functions, printed by a program of ours (wip/PrintVc.lean). -/
/- Memory laws: blocks of cells, and which blocks a step changes. -/
/- Keccak in plain Lean: lanes as functions, the round, the permutation. -/
import Derived.Test.YtfghidehlnfdiaaGreatXFun
import Derived.Test.YtfghidehlnfdiaaGreatProg
import Derived.KernelRfl
import Derived.Deep.AppendSrc
import Derived.Laws.CopyRow
import Derived.Laws.AppendOwn
import Derived.Below
set_option linter.unusedVariables false
section
namespace Go.Proofs.YtfghidehlnfdiaaGreat
open Go Go.Vcg
theorem ZR:Tryz.prog.follows .mixedOrders=true:=by kernel_rfl



abbrev Z2Q.n:Nat:=68
def Z2Q.Vc  (w:World) (R:Ending→World→Prop):Prop :=
 ∀d0 w1,ZC w 27 (Array.replicate 32 (.int .u8 0)) d0 w1 →
 ∀d2 w3,ZC w1 5 #[(.int .u8 128)] d2 w3 →
 ∀d4 w5,ZC w3 23 #[(.slice (some d2) 1 1)] d4 w5 →
 Calls Tryz.prog 53 #[(.slice (some d4) 1 1)] w5 (fun e6 w7 =>
 ∃L8,e6=.returned (.agg L8) ∧
 ∃w9,Sem.run Tryz.prog (Instr.storeAt 27 (.pointer (some d0)) (.agg L8)) w7=.ok () w9 ∧
 ∃L10,ZJ w9 d0 32 L10 ∧
 R (.returned (.agg L10)) w9)
theorem Z2Q.vc  (w:World) (R:Ending→World→Prop) (h:Z2Q.Vc w R):Calls Tryz.prog 68 #[] w R :=
 Z8 (R:=⟨R,false⟩) (ann:=[]) (args:=[]) Tryz.func68 ZR (Eq.mp (by kernel_rfl:Z2Q.Vc w R=ZP (pA Tryz.prog ⟨R,false⟩) Tryz.prog [] Tryz.f68 [] w) h)














abbrev Z3A.n:Nat:=120
def Z3A.Vc (o0:Option Addr) (l0 c0:Nat) (b1:Bool) (w:World) (R:Ending→World→Prop):Prop :=
 (((((l0:Nat):Int) > 128 →
 R (.returned (.tuple #[(.slice none 0 0),(.int .i64 140)])) w)) ∧
 ((¬((l0:Nat):Int) > 128 →
 Calls Tryz.prog 134 #[(.slice o0 l0 c0)] w (fun e2 w3 =>
 ∃n4,e2=.returned (.int .u8 n4) ∧
 (((n4≥16 →
 R (.returned (.tuple #[(.slice none 0 0),(.int .i64 140)])) w3)) ∧
 ((¬n4≥16 →
 ∃(J5:Int→World→Prop),((((b1=true →
 J5 2 w3)) ∧
 ((b1=false →
 J5 0 w3)))) ∧
 (∀(n6:Int) (j7:Nat→Value) (w7:World),J5 n6 w7 →
 ∀d8 w9,ZC w7 5 #[(.int .u8 n6),(.int .u8 0)] d8 w9 →
 ∃(J10:Option Addr→Nat→Nat→World→Prop),(((((Int.tmod ((l0:Nat):Int) 2)=1 →
 ∀d11 w12,ZC w9 5 #[(.int .u8 (IntKind.wrap .u8 (n6+1)))] d11 w12 →
 J10 (some d11) 1 1 w12)) ∧
 (((Int.tmod ((l0:Nat):Int) 2)≠1 →
 J10 (some d8) 2 2 w9)))) ∧
 (∀(o13:Option Addr) (l13:Nat) (c13:Nat) (j14:Nat→Value) (w14:World),J10 o13 l13 c13 w14 →
 ∃v15 w16,Sem.run Tryz.prog (builtinV .append #[23,23] 23 #[(.slice o13 l13 c13),(.slice o0 l0 c0)]) w14=.ok v15 w16 ∧
 ∃o17 l18 l19,v15=(.slice o17 l18 l19) ∧
 ∃(I20:Option Addr→Nat→Nat→Int→World→Prop) (μ20:Option Addr→Nat→Nat→Int→World→Nat),I20 none 0 0 0 w16 ∧
 (∀(o21:Option Addr) (l21:Nat) (c21:Nat) (n22:Int) (j23:Nat→Value) (w23:World),I20 o21 l21 c21 n22 w23 →
 (((n22 < ((l18:Nat):Int) →
 ∀w24,ZN w23 w24 →
 ∃d25,o17=some d25 ∧
 ((0:Int)≤n22∧n22 < ((l18:Nat):Int)) ∧
 ∃n26,World.cell? w24 (Addr.add d25 (Int.toNat n22))=some (.int .u8 n26) ∧
 ∃d27,o17=some d27 ∧
 ((0:Int)≤(IntKind.wrap .i64 (n22+1))∧(IntKind.wrap .i64 (n22+1)) < ((l18:Nat):Int)) ∧
 ∃n28,World.cell? w24 (Addr.add d27 (Int.toNat (IntKind.wrap .i64 (n22+1))))=some (.int .u8 n28) ∧
 ∀d29 w30,ZC w24 5 #[(.int .u8 (bitsI .or .u8 (IntKind.wrap .u8 (n26 * 16)) n28))] d29 w30 →
 ∃v31 w32,Sem.run Tryz.prog (builtinV .append #[23,23] 23 #[(.slice o21 l21 c21),(.slice (some d29) 1 1)]) w30=.ok v31 w32 ∧
 ∃o33 l34 l35,v31=(.slice o33 l34 l35) ∧
 I20 o33 l34 l35 (IntKind.wrap .i64 (n22+2)) w32∧μ20 o33 l34 l35 (IntKind.wrap .i64 (n22+2)) w32 < μ20 o21 l21 c21 n22 w23)) ∧
 ((¬n22 < ((l18:Nat):Int) →
 R (.returned (.tuple #[(.slice o21 l21 c21),(.int .i64 0)])) w23)))))))))))))
theorem Z3A.vc (o0:Option Addr) (l0:Nat) (c0:Nat) (b1:Bool) (w:World) (R:Ending→World→Prop) (h:Z3A.Vc o0 l0 c0 b1 w R):Calls Tryz.prog 120 #[(.slice o0 l0 c0),(.bool b1)] w R :=
 Z8 (R:=⟨R,false⟩) (ann:=[(1000006,[(6,.cell (.int .u8))]),(1000009,[(7,.cell (.slice))]),(12,[(8,.cell (.slice)),(9,.cell (.int .i64))])]) (args:=[.slice o0 l0 c0,.bool (.var b1)]) Tryz.func120 ZR (Eq.mp (by kernel_rfl:Z3A.Vc o0 l0 c0 b1 w R=ZP (pA Tryz.prog ⟨R,false⟩) Tryz.prog [(1000006,[(6,.cell (.int .u8))]),(1000009,[(7,.cell (.slice))]),(12,[(8,.cell (.slice)),(9,.cell (.int .i64))])] Tryz.f120 [.slice o0 l0 c0,.bool (.var b1)] w) h)

abbrev Z1Z.n:Nat:=43
def Z1Z.Vc (o0:Option Addr) (l0 c0:Nat) (w:World) (R:Ending→World→Prop):Prop :=
 ∃(I1:Option Addr→Nat→Nat→Int→World→Prop) (μ1:Option Addr→Nat→Nat→Int→World→Nat),I1 none 0 0 0 w ∧
 (∀(o2:Option Addr) (l2:Nat) (c2:Nat) (n3:Int) (j4:Nat→Value) (w4:World),I1 o2 l2 c2 n3 w4 →
 (((n3 < ((l0:Nat):Int) →
 ∃d5,o0=some d5 ∧
 ((0:Int)≤n3∧n3 < ((l0:Nat):Int)) ∧
 ∃n6,World.cell? w4 (Addr.add d5 (Int.toNat n3))=some (.int .u8 n6) ∧
 ∀d7 w8,ZC w4 5 #[(.int .u8 (Int.fdiv n6 16)),(.int .u8 (bitsI .and .u8 n6 15))] d7 w8 →
 ∃v9 w10,Sem.run Tryz.prog (builtinV .append #[23,23] 23 #[(.slice o2 l2 c2),(.slice (some d7) 2 2)]) w8=.ok v9 w10 ∧
 ∃o11 l12 l13,v9=(.slice o11 l12 l13) ∧
 I1 o11 l12 l13 (IntKind.wrap .i64 (n3+1)) w10∧μ1 o11 l12 l13 (IntKind.wrap .i64 (n3+1)) w10 < μ1 o2 l2 c2 n3 w4)) ∧
 ((¬n3 < ((l0:Nat):Int) →
 R (.returned (.slice o2 l2 c2)) w4))))
theorem Z1Z.vc (o0:Option Addr) (l0:Nat) (c0:Nat) (w:World) (R:Ending→World→Prop) (h:Z1Z.Vc o0 l0 c0 w R):Calls Tryz.prog 43 #[(.slice o0 l0 c0)] w R :=
 Z8 (R:=⟨R,false⟩) (ann:=[(3,[(3,.cell (.slice)),(8,.cell (.int .i64))])]) (args:=[.slice o0 l0 c0]) Tryz.func43 ZR (Eq.mp (by kernel_rfl:Z1Z.Vc o0 l0 c0 w R=ZP (pA Tryz.prog ⟨R,false⟩) Tryz.prog [(3,[(3,.cell (.slice)),(8,.cell (.int .i64))])] Tryz.f43 [.slice o0 l0 c0] w) h)

abbrev Z2R.n:Nat:=134
def Z2R.Vc (o0:Option Addr) (l0 c0:Nat) (w:World) (R:Ending→World→Prop):Prop :=
 ∃(I1:Int→Int→World→Prop) (μ1:Int→Int→World→Nat),I1 0 0 w ∧
 (∀(n2:Int) (n3:Int) (j4:Nat→Value) (w4:World),I1 n2 n3 w4 →
 (((n3 < ((l0:Nat):Int) →
 ∃d5,o0=some d5 ∧
 ((0:Int)≤n3∧n3 < ((l0:Nat):Int)) ∧
 ∃n6,World.cell? w4 (Addr.add d5 (Int.toNat n3))=some (.int .u8 n6) ∧
 I1 (max n2 n6) (IntKind.wrap .i64 (n3+1)) w4∧μ1 (max n2 n6) (IntKind.wrap .i64 (n3+1)) w4 < μ1 n2 n3 w4)) ∧
 ((¬n3 < ((l0:Nat):Int) →
 R (.returned (.int .u8 n2)) w4))))
theorem Z2R.vc (o0:Option Addr) (l0:Nat) (c0:Nat) (w:World) (R:Ending→World→Prop) (h:Z2R.Vc o0 l0 c0 w R):Calls Tryz.prog 134 #[(.slice o0 l0 c0)] w R :=
 Z8 (R:=⟨R,false⟩) (ann:=[(3,[(3,.cell (.int .u8)),(8,.cell (.int .i64))])]) (args:=[.slice o0 l0 c0]) Tryz.func134 ZR (Eq.mp (by kernel_rfl:Z2R.Vc o0 l0 c0 w R=ZP (pA Tryz.prog ⟨R,false⟩) Tryz.prog [(3,[(3,.cell (.int .u8)),(8,.cell (.int .i64))])] Tryz.f134 [.slice o0 l0 c0] w) h)




abbrev Z1q.n:Nat:=36
def Z1q.Vc (o0:Option Addr) (l0 c0:Nat) (w:World) (R:Ending→World→Prop):Prop :=
 (((o0=none →
 R (.returned (.slice none 0 0)) w)) ∧
 ((o0≠none →
 ∀d1 w2,ZC w 5 #[] d1 w2 →
 ∃v3 w4,Sem.run Tryz.prog (builtinV .append #[23,23] 23 #[(.slice (some d1) 0 0),(.slice o0 l0 c0)]) w2=.ok v3 w4 ∧
 ∃o5 l6 l7,v3=(.slice o5 l6 l7) ∧
 R (.returned (.slice o5 l6 l7)) w4)))
theorem Z1q.vc (o0:Option Addr) (l0:Nat) (c0:Nat) (w:World) (R:Ending→World→Prop) (h:Z1q.Vc o0 l0 c0 w R):Calls Tryz.prog 36 #[(.slice o0 l0 c0)] w R :=
 Z8 (R:=⟨R,false⟩) (ann:=[]) (args:=[.slice o0 l0 c0]) Tryz.func36 ZR (Eq.mp (by kernel_rfl:Z1q.Vc o0 l0 c0 w R=ZP (pA Tryz.prog ⟨R,false⟩) Tryz.prog [] Tryz.f36 [.slice o0 l0 c0] w) h)

abbrev Z1r.n:Nat:=82
def Z1r.Vc (o0:Option Addr) (l0 c0:Nat) (o1:Option Addr) (l1 c1:Nat) (w:World) (R:Ending→World→Prop):Prop :=
 ∃v2,Sem.run Tryz.prog (convert 23 9 (.slice o0 l0 c0)) w=.ok v2 w ∧
 ∃s3,v2=(.string s3) ∧
 ∃v4,Sem.run Tryz.prog (convert 23 9 (.slice o1 l1 c1)) w=.ok v4 w ∧
 ∃s5,v4=(.string s5) ∧
 R (.returned (.bool (Z9a .eql s3 s5))) w
theorem Z1r.vc (o0:Option Addr) (l0:Nat) (c0:Nat) (o1:Option Addr) (l1:Nat) (c1:Nat) (w:World) (R:Ending→World→Prop) (h:Z1r.Vc o0 l0 c0 o1 l1 c1 w R):Calls Tryz.prog 82 #[(.slice o0 l0 c0),(.slice o1 l1 c1)] w R :=
 Z8 (R:=⟨R,false⟩) (ann:=[]) (args:=[.slice o0 l0 c0,.slice o1 l1 c1]) Tryz.func82 ZR (Eq.mp (by kernel_rfl:Z1r.Vc o0 l0 c0 o1 l1 c1 w R=ZP (pA Tryz.prog ⟨R,false⟩) Tryz.prog [] Tryz.f82 [.slice o0 l0 c0,.slice o1 l1 c1] w) h)

abbrev Z0k.n:Nat:=84
def Z0k.Vc (o0:Option Addr) (l0 c0:Nat) (o1:Option Addr) (l1 c1:Nat) (w:World) (R:Ending→World→Prop):Prop :=
 Calls Tryz.prog 108 #[(.slice o0 l0 c0),(.slice o1 l1 c1)] w (fun e2 w3 =>
 ∃b4,e2=.returned (.bool b4) ∧
 (((b4=false →
 R (.returned (.tuple #[(.slice o0 l0 c0),(.bool false)])) w3)) ∧
 ((b4=true →
 ((0:Int)≤((l1:Nat):Int)∧((l1:Nat):Int)≤((l0:Nat):Int)) ∧
 R (.returned (.tuple #[(.slice (subO o0 c0 (Int.toNat ((l1:Nat):Int)) 1) (l0 - (Int.toNat ((l1:Nat):Int))) (c0 - (Int.toNat ((l1:Nat):Int)))),(.bool true)])) w3))))
theorem Z0k.vc (o0:Option Addr) (l0:Nat) (c0:Nat) (o1:Option Addr) (l1:Nat) (c1:Nat) (w:World) (R:Ending→World→Prop) (h:Z0k.Vc o0 l0 c0 o1 l1 c1 w R):Calls Tryz.prog 84 #[(.slice o0 l0 c0),(.slice o1 l1 c1)] w R :=
 Z8 (R:=⟨R,false⟩) (ann:=[]) (args:=[.slice o0 l0 c0,.slice o1 l1 c1]) Tryz.func84 ZR (Eq.mp (by kernel_rfl:Z0k.Vc o0 l0 c0 o1 l1 c1 w R=ZP (pA Tryz.prog ⟨R,false⟩) Tryz.prog [] Tryz.f84 [.slice o0 l0 c0,.slice o1 l1 c1] w) h)

abbrev Z0l.n:Nat:=108
def Z0l.Vc (o0:Option Addr) (l0 c0:Nat) (o1:Option Addr) (l1 c1:Nat) (w:World) (R:Ending→World→Prop):Prop :=
 (((((l0:Nat):Int)≥((l1:Nat):Int) →
 ((0:Int)≤((l1:Nat):Int)∧((l1:Nat):Int)≤((c0:Nat):Int)) ∧
 Calls Tryz.prog 82 #[(.slice o0 (Int.toNat ((l1:Nat):Int)) c0),(.slice o1 l1 c1)] w (fun e2 w3 =>
 ∃b4,e2=.returned (.bool b4) ∧
 R (.returned (.bool b4)) w3))) ∧
 ((¬((l0:Nat):Int)≥((l1:Nat):Int) →
 R (.returned (.bool false)) w)))
theorem Z0l.vc (o0:Option Addr) (l0:Nat) (c0:Nat) (o1:Option Addr) (l1:Nat) (c1:Nat) (w:World) (R:Ending→World→Prop) (h:Z0l.Vc o0 l0 c0 o1 l1 c1 w R):Calls Tryz.prog 108 #[(.slice o0 l0 c0),(.slice o1 l1 c1)] w R :=
 Z8 (R:=⟨R,false⟩) (ann:=[]) (args:=[.slice o0 l0 c0,.slice o1 l1 c1]) Tryz.func108 ZR (Eq.mp (by kernel_rfl:Z0l.Vc o0 l0 c0 o1 l1 c1 w R=ZP (pA Tryz.prog ⟨R,false⟩) Tryz.prog [] Tryz.f108 [.slice o0 l0 c0,.slice o1 l1 c1] w) h)

abbrev Z2L.n:Nat:=143
def Z2L.Vc (b0:Bool) (o1:Option Addr) (l1 c1:Nat) (o2:Option Addr) (l2 c2:Nat) (w:World) (R:Ending→World→Prop):Prop :=
 ∀d3 w4,ZC w 111 #[(.bool b0),(.slice o1 l1 c1),(.slice o2 l2 c2)] d3 w4 →
 ∀d5 w6,ZC w4 217 #[(.int .i64 0)] d5 w6 →
 ∃b7 o8 l9 l10 o11 l12 l13,World.cell? w6 d3=some (.bool b7) ∧
 World.cell? w6 (Addr.add d3 1)=some (.slice o8 l9 l10) ∧
 World.cell? w6 (Addr.add d3 2)=some (.slice o11 l12 l13) ∧
 Calls Tryz.prog 155 #[(.pointer (some d5)),(.agg #[(.bool b7),(.slice o8 l9 l10),(.slice o11 l12 l13)]),(.int .i64 1)] w6 (fun e14 w15 =>
 ∃n16 n17,e14=.returned (.tuple #[(.int .i64 n16),(.int .i64 n17)]) ∧
 (((n17≠0 →
 R (.returned (.tuple #[(.slice none 0 0),(.int .i64 n17)])) w15)) ∧
 ((n17=0 →
 (((n16 > 65536 →
 R (.returned (.tuple #[(.slice none 0 0),(.int .i64 44)])) w15)) ∧
 ((¬n16 > 65536 →
 ∃b18 o19 l20 l21 o22 l23 l24,World.cell? w15 d3=some (.bool b18) ∧
 World.cell? w15 (Addr.add d3 1)=some (.slice o19 l20 l21) ∧
 World.cell? w15 (Addr.add d3 2)=some (.slice o22 l23 l24) ∧
 Calls Tryz.prog 156 #[(.agg #[(.bool b18),(.slice o19 l20 l21),(.slice o22 l23 l24)])] w15 (fun e25 w26 =>
 ∃o27 l28 l29,e25=.returned (.slice o27 l28 l29) ∧
 R (.returned (.tuple #[(.slice o27 l28 l29),(.int .i64 0)])) w26))))))))
theorem Z2L.vc (b0:Bool) (o1:Option Addr) (l1:Nat) (c1:Nat) (o2:Option Addr) (l2:Nat) (c2:Nat) (w:World) (R:Ending→World→Prop) (h:Z2L.Vc b0 o1 l1 c1 o2 l2 c2 w R):Calls Tryz.prog 143 #[(.agg #[(.bool b0),(.slice o1 l1 c1),(.slice o2 l2 c2)])] w R :=
 Z8 (R:=⟨R,false⟩) (ann:=[]) (args:=[.agg [.bool (.var b0),.slice o1 l1 c1,.slice o2 l2 c2]]) Tryz.func143 ZR (Eq.mp (by kernel_rfl:Z2L.Vc b0 o1 l1 c1 o2 l2 c2 w R=ZP (pA Tryz.prog ⟨R,false⟩) Tryz.prog [] Tryz.f143 [.agg [.bool (.var b0),.slice o1 l1 c1,.slice o2 l2 c2]] w) h)

abbrev Zs.n:Nat:=155
def Zs.Vc (d0:Addr) (b1:Bool) (o2:Option Addr) (l2 c2:Nat) (o3:Option Addr) (l3 c3:Nat) (n4:Int) (w:World) (R:Ending→World→Prop):Prop :=
 ∀d5 w6,ZC w 111 #[(.bool b1),(.slice o2 l2 c2),(.slice o3 l3 c3)] d5 w6 →
 Calls Tryz.prog 148 #[(.pointer (some d0)),(.int .i64 n4)] w6 (fun e7 w8 =>
 ∃n9,e7=.returned (.int .i64 n9) ∧
 (((n9≠0 →
 R (.returned (.tuple #[(.int .i64 0),(.int .i64 n9)])) w8)) ∧
 ((n9=0 →
 ∃(J10:World→Prop),(∃(J11:Bool→World→Prop),(∃b12,World.cell? w8 d5=some (.bool b12) ∧
 (((b12=true →
 ∃o13 l14 l15,World.cell? w8 (Addr.add d5 1)=some (.slice o13 l14 l15) ∧
 (((((l14:Nat):Int) > 0 →
 J11 true w8)) ∧
 ((¬((l14:Nat):Int) > 0 →
 ∃b16,World.cell? w8 d5=some (.bool b16) ∧
 (((b16=false →
 ∃o17 l18 l19,World.cell? w8 (Addr.add d5 2)=some (.slice o17 l18 l19) ∧
 J11 (decide (((l18:Nat):Int) > 0)) w8)) ∧
 ((b16=true →
 J11 false w8)))))))) ∧
 ((b12=false →
 ∃b20,World.cell? w8 d5=some (.bool b20) ∧
 (((b20=false →
 ∃o21 l22 l23,World.cell? w8 (Addr.add d5 2)=some (.slice o21 l22 l23) ∧
 J11 (decide (((l22:Nat):Int) > 0)) w8)) ∧
 ((b20=true →
 J11 false w8))))))) ∧
 (∀(b24:Bool) (j25:Nat→Value) (w25:World),J11 b24 w25 →
 (((b24=true →
 R (.returned (.tuple #[(.int .i64 0),(.int .i64 40)])) w25)) ∧
 ((b24=false →
 ∃o26 l27 l28,World.cell? w25 (Addr.add d5 1)=some (.slice o26 l27 l28) ∧
 Calls Tryz.prog 150 #[(.slice o26 l27 l28)] w25 (fun e29 w30 =>
 ∃b31,e29=.returned (.bool b31) ∧
 (((b31=true →
 R (.returned (.tuple #[(.int .i64 1),(.int .i64 0)])) w30)) ∧
 ((b31=false →
 J10  w30))))))))) ∧
 (∀  (j32:Nat→Value) (w32:World),J10  w32 →
 ∃o33 l34 l35,World.cell? w32 (Addr.add d5 1)=some (.slice o33 l34 l35) ∧
 ∃o36 l37 l38,World.cell? w32 (Addr.add d5 2)=some (.slice o36 l37 l38) ∧
 ∃(I39:Int→Int→World→Prop) (μ39:Int→Int→World→Nat),I39 ((l34:Nat):Int) 0 w32 ∧
 (∀(n40:Int) (n41:Int) (j42:Nat→Value) (w42:World),I39 n40 n41 w42 →
 (((n41 < ((l37:Nat):Int) →
 ∃d43,o36=some d43 ∧
 ((0:Int)≤n41∧n41 < ((l37:Nat):Int)) ∧
 ∃b44 o45 l46 l47 o48 l49 l50,World.cell? w42 (Addr.add d43 ((Int.toNat n41) * 3))=some (.bool b44) ∧
 World.cell? w42 (Addr.add (Addr.add d43 ((Int.toNat n41) * 3)) 1)=some (.slice o45 l46 l47) ∧
 World.cell? w42 (Addr.add (Addr.add d43 ((Int.toNat n41) * 3)) 2)=some (.slice o48 l49 l50) ∧
 ∀d51 w52,ZC w42 111 #[(.bool false),(.slice none 0 0),(.slice none 0 0)] d51 w52 →
 Z1 w52 d51 (.bool b44)∧∀w53,ZA w52 d51 (.bool b44) w53 →
 Z1 w53 (Addr.add d51 1) (.slice o45 l46 l47)∧∀w54,ZA w53 (Addr.add d51 1) (.slice o45 l46 l47) w54 →
 Z1 w54 (Addr.add d51 2) (.slice o48 l49 l50)∧∀w55,ZA w54 (Addr.add d51 2) (.slice o48 l49 l50) w55 →
 ∃b56 o57 l58 l59 o60 l61 l62,World.cell? w55 d51=some (.bool b56) ∧
 World.cell? w55 (Addr.add d51 1)=some (.slice o57 l58 l59) ∧
 World.cell? w55 (Addr.add d51 2)=some (.slice o60 l61 l62) ∧
 Calls Tryz.prog 155 #[(.pointer (some d0)),(.agg #[(.bool b56),(.slice o57 l58 l59),(.slice o60 l61 l62)]),(.int .i64 (IntKind.wrap .i64 (n4+1)))] w55 (fun e63 w64 =>
 ∃n65 n66,e63=.returned (.tuple #[(.int .i64 n65),(.int .i64 n66)]) ∧
 (((n66≠0 →
 R (.returned (.tuple #[(.int .i64 0),(.int .i64 n66)])) w64)) ∧
 ((n66=0 →
 I39 (IntKind.wrap .i64 (n40+n65)) (IntKind.wrap .i64 (n41+1)) w64∧μ39 (IntKind.wrap .i64 (n40+n65)) (IntKind.wrap .i64 (n41+1)) w64 < μ39 n40 n41 w42)))))) ∧
 ((¬n41 < ((l37:Nat):Int) →
 Calls Tryz.prog 160 #[(.int .i64 n40),(.int .i64 0)] w42 (fun e67 w68 =>
 ∃o69 l70 l71,e67=.returned (.slice o69 l70 l71) ∧
 R (.returned (.tuple #[(.int .i64 (IntKind.wrap .i64 (n40+((l70:Nat):Int)))),(.int .i64 0)])) w68))))))))))
theorem Zs.vc (d0:Addr) (b1:Bool) (o2:Option Addr) (l2:Nat) (c2:Nat) (o3:Option Addr) (l3:Nat) (c3:Nat) (n4:Int) (w:World) (R:Ending→World→Prop) (h:Zs.Vc d0 b1 o2 l2 c2 o3 l3 c3 n4 w R):Calls Tryz.prog 155 #[(.pointer (some d0)),(.agg #[(.bool b1),(.slice o2 l2 c2),(.slice o3 l3 c3)]),(.int .i64 n4)] w R :=
 Z8 (R:=⟨R,false⟩) (ann:=[(1000009,[]),(1000006,[(20,.cell (.bool))]),(11,[(9,.cell (.int .i64)),(48,.cell (.int .i64))])]) (args:=[.addr d0,.agg [.bool (.var b1),.slice o2 l2 c2,.slice o3 l3 c3],.int .i64 n4]) Tryz.func155 ZR (Eq.mp (by kernel_rfl:Zs.Vc d0 b1 o2 l2 c2 o3 l3 c3 n4 w R=ZP (pA Tryz.prog ⟨R,false⟩) Tryz.prog [(1000009,[]),(1000006,[(20,.cell (.bool))]),(11,[(9,.cell (.int .i64)),(48,.cell (.int .i64))])] Tryz.f155 [.addr d0,.agg [.bool (.var b1),.slice o2 l2 c2,.slice o3 l3 c3],.int .i64 n4] w) h)

abbrev Z3R.n:Nat:=156
def Z3R.Vc (b0:Bool) (o1:Option Addr) (l1 c1:Nat) (o2:Option Addr) (l2 c2:Nat) (w:World) (R:Ending→World→Prop):Prop :=
 ∀d3 w4,ZC w 111 #[(.bool b0),(.slice o1 l1 c1),(.slice o2 l2 c2)] d3 w4 →
 ∃b5,World.cell? w4 d3=some (.bool b5) ∧
 (((b5=false →
 ∃o6 l7 l8,World.cell? w4 (Addr.add d3 1)=some (.slice o6 l7 l8) ∧
 Calls Tryz.prog 150 #[(.slice o6 l7 l8)] w4 (fun e9 w10 =>
 ∃b11,e9=.returned (.bool b11) ∧
 (((b11=true →
 ∃o12 l13 l14,World.cell? w10 (Addr.add d3 1)=some (.slice o12 l13 l14) ∧
 Calls Tryz.prog 36 #[(.slice o12 l13 l14)] w10 (fun e15 w16 =>
 ∃o17 l18 l19,e15=.returned (.slice o17 l18 l19) ∧
 R (.returned (.slice o17 l18 l19)) w16))) ∧
 ((b11=false →
 ∀w20,ZN w10 w20 →
 ∃o21 l22 l23,World.cell? w20 (Addr.add d3 1)=some (.slice o21 l22 l23) ∧
 ∃o24 l25 l26,World.cell? w20 (Addr.add d3 1)=some (.slice o24 l25 l26) ∧
 Calls Tryz.prog 160 #[(.int .i64 ((l22:Nat):Int)),(.int .i64 128)] w20 (fun e27 w28 =>
 ∃o29 l30 l31,e27=.returned (.slice o29 l30 l31) ∧
 World.cell? w28 (Addr.add d3 1)=some (.slice o24 l25 l26) ∧
 ∃v32 w33,Sem.run Tryz.prog (builtinV .append #[23,23] 23 #[(.slice o29 l30 l31),(.slice o24 l25 l26)]) w28=.ok v32 w33 ∧
 ∃o34 l35 l36,v32=(.slice o34 l35 l36) ∧
 R (.returned (.slice o34 l35 l36)) w33))))))) ∧
 ((b5=true →
 ∃o37 l38 l39,World.cell? w4 (Addr.add d3 2)=some (.slice o37 l38 l39) ∧
 ∃(I40:Option Addr→Nat→Nat→Int→World→Prop) (μ40:Option Addr→Nat→Nat→Int→World→Nat),I40 none 0 0 0 w4 ∧
 (∀(o41:Option Addr) (l41:Nat) (c41:Nat) (n42:Int) (j43:Nat→Value) (w43:World),I40 o41 l41 c41 n42 w43 →
 (((n42 < ((l38:Nat):Int) →
 ∃d44,o37=some d44 ∧
 ((0:Int)≤n42∧n42 < ((l38:Nat):Int)) ∧
 ∃b45 o46 l47 l48 o49 l50 l51,World.cell? w43 (Addr.add d44 ((Int.toNat n42) * 3))=some (.bool b45) ∧
 World.cell? w43 (Addr.add (Addr.add d44 ((Int.toNat n42) * 3)) 1)=some (.slice o46 l47 l48) ∧
 World.cell? w43 (Addr.add (Addr.add d44 ((Int.toNat n42) * 3)) 2)=some (.slice o49 l50 l51) ∧
 ∀d52 w53,ZC w43 111 #[(.bool false),(.slice none 0 0),(.slice none 0 0)] d52 w53 →
 Z1 w53 d52 (.bool b45)∧∀w54,ZA w53 d52 (.bool b45) w54 →
 Z1 w54 (Addr.add d52 1) (.slice o46 l47 l48)∧∀w55,ZA w54 (Addr.add d52 1) (.slice o46 l47 l48) w55 →
 Z1 w55 (Addr.add d52 2) (.slice o49 l50 l51)∧∀w56,ZA w55 (Addr.add d52 2) (.slice o49 l50 l51) w56 →
 ∃b57 o58 l59 l60 o61 l62 l63,World.cell? w56 d52=some (.bool b57) ∧
 World.cell? w56 (Addr.add d52 1)=some (.slice o58 l59 l60) ∧
 World.cell? w56 (Addr.add d52 2)=some (.slice o61 l62 l63) ∧
 Calls Tryz.prog 156 #[(.agg #[(.bool b57),(.slice o58 l59 l60),(.slice o61 l62 l63)])] w56 (fun e64 w65 =>
 ∃o66 l67 l68,e64=.returned (.slice o66 l67 l68) ∧
 ∃v69 w70,Sem.run Tryz.prog (builtinV .append #[23,23] 23 #[(.slice o41 l41 c41),(.slice o66 l67 l68)]) w65=.ok v69 w70 ∧
 ∃o71 l72 l73,v69=(.slice o71 l72 l73) ∧
 I40 o71 l72 l73 (IntKind.wrap .i64 (n42+1)) w70∧μ40 o71 l72 l73 (IntKind.wrap .i64 (n42+1)) w70 < μ40 o41 l41 c41 n42 w43))) ∧
 ((¬n42 < ((l38:Nat):Int) →
 Calls Tryz.prog 160 #[(.int .i64 ((l41:Nat):Int)),(.int .i64 192)] w43 (fun e74 w75 =>
 ∃o76 l77 l78,e74=.returned (.slice o76 l77 l78) ∧
 ∃v79 w80,Sem.run Tryz.prog (builtinV .append #[23,23] 23 #[(.slice o76 l77 l78),(.slice o41 l41 c41)]) w75=.ok v79 w80 ∧
 ∃o81 l82 l83,v79=(.slice o81 l82 l83) ∧
 R (.returned (.slice o81 l82 l83)) w80))))))))
theorem Z3R.vc (b0:Bool) (o1:Option Addr) (l1:Nat) (c1:Nat) (o2:Option Addr) (l2:Nat) (c2:Nat) (w:World) (R:Ending→World→Prop) (h:Z3R.Vc b0 o1 l1 c1 o2 l2 c2 w R):Calls Tryz.prog 156 #[(.agg #[(.bool b0),(.slice o1 l1 c1),(.slice o2 l2 c2)])] w R :=
 Z8 (R:=⟨R,false⟩) (ann:=[(7,[(3,.cell (.slice)),(25,.cell (.int .i64))])]) (args:=[.agg [.bool (.var b0),.slice o1 l1 c1,.slice o2 l2 c2]]) Tryz.func156 ZR (Eq.mp (by kernel_rfl:Z3R.Vc b0 o1 l1 c1 o2 l2 c2 w R=ZP (pA Tryz.prog ⟨R,false⟩) Tryz.prog [(7,[(3,.cell (.slice)),(25,.cell (.int .i64))])] Tryz.f156 [.agg [.bool (.var b0),.slice o1 l1 c1,.slice o2 l2 c2]] w) h)

abbrev Zo.n:Nat:=148
def Zo.Vc (d0:Addr) (n1:Int) (w:World) (R:Ending→World→Prop):Prop :=
 (((n1 > 16 →
 R (.returned (.int .i64 43)) w)) ∧
 ((¬n1 > 16 →
 ∃n2,World.cell? w d0=some (.int .i64 n2) ∧
 (((n2=4096 →
 R (.returned (.int .i64 43)) w)) ∧
 ((n2≠4096 →
 ∃n3,World.cell? w d0=some (.int .i64 n3) ∧
 Z1 w d0 (.int .i64 (IntKind.wrap .i64 (n3+1)))∧∀w4,ZA w d0 (.int .i64 (IntKind.wrap .i64 (n3+1))) w4 →
 R (.returned (.int .i64 0)) w4))))))
theorem Zo.vc (d0:Addr) (n1:Int) (w:World) (R:Ending→World→Prop) (h:Zo.Vc d0 n1 w R):Calls Tryz.prog 148 #[(.pointer (some d0)),(.int .i64 n1)] w R :=
 Z8 (R:=⟨R,false⟩) (ann:=[]) (args:=[.addr d0,.int .i64 n1]) Tryz.func148 ZR (Eq.mp (by kernel_rfl:Zo.Vc d0 n1 w R=ZP (pA Tryz.prog ⟨R,false⟩) Tryz.prog [] Tryz.f148 [.addr d0,.int .i64 n1] w) h)

abbrev Z5I.n:Nat:=150
def Z5I.Vc (o0:Option Addr) (l0 c0:Nat) (w:World) (R:Ending→World→Prop):Prop :=
 (((((l0:Nat):Int)=1 →
 ∃d1,o0=some d1 ∧
 ((0:Int)≤0∧0 < ((l0:Nat):Int)) ∧
 ∃n2,World.cell? w (Addr.add d1 0)=some (.int .u8 n2) ∧
 R (.returned (.bool (decide (n2 < 128)))) w)) ∧
 ((((l0:Nat):Int)≠1 →
 R (.returned (.bool false)) w)))
theorem Z5I.vc (o0:Option Addr) (l0:Nat) (c0:Nat) (w:World) (R:Ending→World→Prop) (h:Z5I.Vc o0 l0 c0 w R):Calls Tryz.prog 150 #[(.slice o0 l0 c0)] w R :=
 Z8 (R:=⟨R,false⟩) (ann:=[]) (args:=[.slice o0 l0 c0]) Tryz.func150 ZR (Eq.mp (by kernel_rfl:Z5I.Vc o0 l0 c0 w R=ZP (pA Tryz.prog ⟨R,false⟩) Tryz.prog [] Tryz.f150 [.slice o0 l0 c0] w) h)

abbrev Z3y.n:Nat:=160
def Z3y.Vc (n0 n1:Int) (w:World) (R:Ending→World→Prop):Prop :=
 (((n0≤55 →
 ∀d2 w3,ZC w 5 #[(.int .u8 (IntKind.wrap .u8 (IntKind.wrap .i64 (n1+n0))))] d2 w3 →
 R (.returned (.slice (some d2) 1 1)) w3)) ∧
 ((¬n0≤55 →
 Calls Tryz.prog 161 #[(.int .u64 (IntKind.wrap .u64 n0))] w (fun e4 w5 =>
 ∃o6 l7 l8,e4=.returned (.slice o6 l7 l8) ∧
 ∀d9 w10,ZC w5 5 #[(.int .u8 (IntKind.wrap .u8 (IntKind.wrap .i64 ((IntKind.wrap .i64 (n1+55))+((l7:Nat):Int)))))] d9 w10 →
 ∃v11 w12,Sem.run Tryz.prog (builtinV .append #[23,23] 23 #[(.slice (some d9) 1 1),(.slice o6 l7 l8)]) w10=.ok v11 w12 ∧
 ∃o13 l14 l15,v11=(.slice o13 l14 l15) ∧
 R (.returned (.slice o13 l14 l15)) w12))))
theorem Z3y.vc (n0:Int) (n1:Int) (w:World) (R:Ending→World→Prop) (h:Z3y.Vc n0 n1 w R):Calls Tryz.prog 160 #[(.int .i64 n0),(.int .i64 n1)] w R :=
 Z8 (R:=⟨R,false⟩) (ann:=[]) (args:=[.int .i64 n0,.int .i64 n1]) Tryz.func160 ZR (Eq.mp (by kernel_rfl:Z3y.Vc n0 n1 w R=ZP (pA Tryz.prog ⟨R,false⟩) Tryz.prog [] Tryz.f160 [.int .i64 n0,.int .i64 n1] w) h)

abbrev Z2M.n:Nat:=161
def Z2M.Vc (n0:Int) (w:World) (R:Ending→World→Prop):Prop :=
 ∃(I1:Int→Option Addr→Nat→Nat→World→Prop) (μ1:Int→Option Addr→Nat→Nat→World→Nat),I1 n0 none 0 0 w ∧
 (∀(n2:Int) (o3:Option Addr) (l3:Nat) (c3:Nat) (j4:Nat→Value) (w4:World),I1 n2 o3 l3 c3 w4 →
 (((n2 > 0 →
 ∀d5 w6,ZC w4 5 #[(.int .u8 (IntKind.wrap .u8 n2))] d5 w6 →
 ∃v7 w8,Sem.run Tryz.prog (builtinV .append #[23,23] 23 #[(.slice (some d5) 1 1),(.slice o3 l3 c3)]) w6=.ok v7 w8 ∧
 ∃o9 l10 l11,v7=(.slice o9 l10 l11) ∧
 I1 (Int.fdiv n2 256) o9 l10 l11 w8∧μ1 (Int.fdiv n2 256) o9 l10 l11 w8 < μ1 n2 o3 l3 c3 w4)) ∧
 ((¬n2 > 0 →
 R (.returned (.slice o3 l3 c3)) w4))))
theorem Z2M.vc (n0:Int) (w:World) (R:Ending→World→Prop) (h:Z2M.Vc n0 w R):Calls Tryz.prog 161 #[(.int .u64 n0)] w R :=
 Z8 (R:=⟨R,false⟩) (ann:=[(2,[(0,.cell (.int .u64)),(3,.cell (.slice))])]) (args:=[.int .u64 n0]) Tryz.func161 ZR (Eq.mp (by kernel_rfl:Z2M.Vc n0 w R=ZP (pA Tryz.prog ⟨R,false⟩) Tryz.prog [(2,[(0,.cell (.int .u64)),(3,.cell (.slice))])] Tryz.f161 [.int .u64 n0] w) h)

end Go.Proofs.YtfghidehlnfdiaaGreat
end
section
namespace Go.Proofs.YtfghidehlnfdiaaGreat
open Go Go.Vcg
abbrev Z0o.n:Nat:=56
def Z0o.Vc (o0:Option Addr) (l0 c0:Nat) (w:World) (R:Ending→World→Prop):Prop :=
 ∀d1 w2,ZC w 27 (Array.replicate 32 (.int .u8 0)) d1 w2 →
 ∀d3 w4,ZC w2 149 (Array.replicate 25 (.int .u64 0)) d3 w4 →
 ∃(I5:Int→World→Prop) (μ5:Int→World→Nat),I5 0 w4 ∧
 (∀(n6:Int) (j7:Nat→Value) (w7:World),I5 n6 w7 →
 (((n6≤((l0:Nat):Int) →
 ∃(I8:Int→World→Prop) (μ8:Int→World→Nat),I8 0 w7 ∧
 (∀(n9:Int) (j10:Nat→Value) (w10:World),I8 n9 w10 →
 (((n9 < 136 →
 ((((IntKind.wrap .i64 (n6+n9)) < ((l0:Nat):Int) →
 ∃d11,o0=some d11 ∧
 ((0:Int)≤(IntKind.wrap .i64 (n6+n9))∧(IntKind.wrap .i64 (n6+n9)) < ((l0:Nat):Int)) ∧
 ∃n12,World.cell? w10 (Addr.add d11 (Int.toNat (IntKind.wrap .i64 (n6+n9))))=some (.int .u8 n12) ∧
 (((n9=135 →
 ((((IntKind.wrap .i64 (n6+136)) > ((l0:Nat):Int) →
 ∀w13,ZN w10 w13 →
 ((0:Int)≤(IntKind.wrap .i64 (Int.tdiv n9 8))∧(IntKind.wrap .i64 (Int.tdiv n9 8)) < ((25:Nat):Int)) ∧
 ∃n14,World.cell? w13 (Addr.add d3 (Int.toNat (IntKind.wrap .i64 (Int.tdiv n9 8))))=some (.int .u64 n14) ∧
 (0:Int)≤(IntKind.wrap .i64 (8 * (Int.tmod n9 8))) ∧
 ((0:Int)≤(IntKind.wrap .i64 (Int.tdiv n9 8))∧(IntKind.wrap .i64 (Int.tdiv n9 8)) < ((25:Nat):Int)) ∧
 Z1 w13 (Addr.add d3 (Int.toNat (IntKind.wrap .i64 (Int.tdiv n9 8)))) (.int .u64 (bitsI .xor .u64 n14 (shlI .u64 (IntKind.wrap .u64 (bitsI .or .u8 n12 128)) (IntKind.wrap .i64 (8 * (Int.tmod n9 8))))))∧∀w15,ZA w13 (Addr.add d3 (Int.toNat (IntKind.wrap .i64 (Int.tdiv n9 8)))) (.int .u64 (bitsI .xor .u64 n14 (shlI .u64 (IntKind.wrap .u64 (bitsI .or .u8 n12 128)) (IntKind.wrap .i64 (8 * (Int.tmod n9 8)))))) w15 →
 I8 (IntKind.wrap .i64 (n9+1)) w15∧μ8 (IntKind.wrap .i64 (n9+1)) w15 < μ8 n9 w10)) ∧
 ((¬(IntKind.wrap .i64 (n6+136)) > ((l0:Nat):Int) →
 ∀w16,ZN w10 w16 →
 ((0:Int)≤(IntKind.wrap .i64 (Int.tdiv n9 8))∧(IntKind.wrap .i64 (Int.tdiv n9 8)) < ((25:Nat):Int)) ∧
 ∃n17,World.cell? w16 (Addr.add d3 (Int.toNat (IntKind.wrap .i64 (Int.tdiv n9 8))))=some (.int .u64 n17) ∧
 (0:Int)≤(IntKind.wrap .i64 (8 * (Int.tmod n9 8))) ∧
 ((0:Int)≤(IntKind.wrap .i64 (Int.tdiv n9 8))∧(IntKind.wrap .i64 (Int.tdiv n9 8)) < ((25:Nat):Int)) ∧
 Z1 w16 (Addr.add d3 (Int.toNat (IntKind.wrap .i64 (Int.tdiv n9 8)))) (.int .u64 (bitsI .xor .u64 n17 (shlI .u64 (IntKind.wrap .u64 n12) (IntKind.wrap .i64 (8 * (Int.tmod n9 8))))))∧∀w18,ZA w16 (Addr.add d3 (Int.toNat (IntKind.wrap .i64 (Int.tdiv n9 8)))) (.int .u64 (bitsI .xor .u64 n17 (shlI .u64 (IntKind.wrap .u64 n12) (IntKind.wrap .i64 (8 * (Int.tmod n9 8)))))) w18 →
 I8 (IntKind.wrap .i64 (n9+1)) w18∧μ8 (IntKind.wrap .i64 (n9+1)) w18 < μ8 n9 w10))))) ∧
 ((n9≠135 →
 ∀w19,ZN w10 w19 →
 ((0:Int)≤(IntKind.wrap .i64 (Int.tdiv n9 8))∧(IntKind.wrap .i64 (Int.tdiv n9 8)) < ((25:Nat):Int)) ∧
 ∃n20,World.cell? w19 (Addr.add d3 (Int.toNat (IntKind.wrap .i64 (Int.tdiv n9 8))))=some (.int .u64 n20) ∧
 (0:Int)≤(IntKind.wrap .i64 (8 * (Int.tmod n9 8))) ∧
 ((0:Int)≤(IntKind.wrap .i64 (Int.tdiv n9 8))∧(IntKind.wrap .i64 (Int.tdiv n9 8)) < ((25:Nat):Int)) ∧
 Z1 w19 (Addr.add d3 (Int.toNat (IntKind.wrap .i64 (Int.tdiv n9 8)))) (.int .u64 (bitsI .xor .u64 n20 (shlI .u64 (IntKind.wrap .u64 n12) (IntKind.wrap .i64 (8 * (Int.tmod n9 8))))))∧∀w21,ZA w19 (Addr.add d3 (Int.toNat (IntKind.wrap .i64 (Int.tdiv n9 8)))) (.int .u64 (bitsI .xor .u64 n20 (shlI .u64 (IntKind.wrap .u64 n12) (IntKind.wrap .i64 (8 * (Int.tmod n9 8)))))) w21 →
 I8 (IntKind.wrap .i64 (n9+1)) w21∧μ8 (IntKind.wrap .i64 (n9+1)) w21 < μ8 n9 w10))))) ∧
 ((¬(IntKind.wrap .i64 (n6+n9)) < ((l0:Nat):Int) →
 ((((IntKind.wrap .i64 (n6+n9))=((l0:Nat):Int) →
 (((n9=135 →
 ((((IntKind.wrap .i64 (n6+136)) > ((l0:Nat):Int) →
 ∃v22,Sem.run Tryz.prog (Z0q .or 5 (.tmp 45) (.const (.int .u8 128)) (.int .u8 1) (.int .u8 128)) w10=.ok v22 w10 ∧
 ∃n23,v22=(.int .u8 n23) ∧
 ∀w24,ZN w10 w24 →
 ((0:Int)≤(IntKind.wrap .i64 (Int.tdiv n9 8))∧(IntKind.wrap .i64 (Int.tdiv n9 8)) < ((25:Nat):Int)) ∧
 ∃n25,World.cell? w24 (Addr.add d3 (Int.toNat (IntKind.wrap .i64 (Int.tdiv n9 8))))=some (.int .u64 n25) ∧
 (0:Int)≤(IntKind.wrap .i64 (8 * (Int.tmod n9 8))) ∧
 ((0:Int)≤(IntKind.wrap .i64 (Int.tdiv n9 8))∧(IntKind.wrap .i64 (Int.tdiv n9 8)) < ((25:Nat):Int)) ∧
 Z1 w24 (Addr.add d3 (Int.toNat (IntKind.wrap .i64 (Int.tdiv n9 8)))) (.int .u64 (bitsI .xor .u64 n25 (shlI .u64 (IntKind.wrap .u64 n23) (IntKind.wrap .i64 (8 * (Int.tmod n9 8))))))∧∀w26,ZA w24 (Addr.add d3 (Int.toNat (IntKind.wrap .i64 (Int.tdiv n9 8)))) (.int .u64 (bitsI .xor .u64 n25 (shlI .u64 (IntKind.wrap .u64 n23) (IntKind.wrap .i64 (8 * (Int.tmod n9 8)))))) w26 →
 I8 (IntKind.wrap .i64 (n9+1)) w26∧μ8 (IntKind.wrap .i64 (n9+1)) w26 < μ8 n9 w10)) ∧
 ((¬(IntKind.wrap .i64 (n6+136)) > ((l0:Nat):Int) →
 ∀w27,ZN w10 w27 →
 ((0:Int)≤(IntKind.wrap .i64 (Int.tdiv n9 8))∧(IntKind.wrap .i64 (Int.tdiv n9 8)) < ((25:Nat):Int)) ∧
 ∃n28,World.cell? w27 (Addr.add d3 (Int.toNat (IntKind.wrap .i64 (Int.tdiv n9 8))))=some (.int .u64 n28) ∧
 (0:Int)≤(IntKind.wrap .i64 (8 * (Int.tmod n9 8))) ∧
 ((0:Int)≤(IntKind.wrap .i64 (Int.tdiv n9 8))∧(IntKind.wrap .i64 (Int.tdiv n9 8)) < ((25:Nat):Int)) ∧
 Z1 w27 (Addr.add d3 (Int.toNat (IntKind.wrap .i64 (Int.tdiv n9 8)))) (.int .u64 (bitsI .xor .u64 n28 (shlI .u64 1 (IntKind.wrap .i64 (8 * (Int.tmod n9 8))))))∧∀w29,ZA w27 (Addr.add d3 (Int.toNat (IntKind.wrap .i64 (Int.tdiv n9 8)))) (.int .u64 (bitsI .xor .u64 n28 (shlI .u64 1 (IntKind.wrap .i64 (8 * (Int.tmod n9 8)))))) w29 →
 I8 (IntKind.wrap .i64 (n9+1)) w29∧μ8 (IntKind.wrap .i64 (n9+1)) w29 < μ8 n9 w10))))) ∧
 ((n9≠135 →
 ∀w30,ZN w10 w30 →
 ((0:Int)≤(IntKind.wrap .i64 (Int.tdiv n9 8))∧(IntKind.wrap .i64 (Int.tdiv n9 8)) < ((25:Nat):Int)) ∧
 ∃n31,World.cell? w30 (Addr.add d3 (Int.toNat (IntKind.wrap .i64 (Int.tdiv n9 8))))=some (.int .u64 n31) ∧
 (0:Int)≤(IntKind.wrap .i64 (8 * (Int.tmod n9 8))) ∧
 ((0:Int)≤(IntKind.wrap .i64 (Int.tdiv n9 8))∧(IntKind.wrap .i64 (Int.tdiv n9 8)) < ((25:Nat):Int)) ∧
 Z1 w30 (Addr.add d3 (Int.toNat (IntKind.wrap .i64 (Int.tdiv n9 8)))) (.int .u64 (bitsI .xor .u64 n31 (shlI .u64 1 (IntKind.wrap .i64 (8 * (Int.tmod n9 8))))))∧∀w32,ZA w30 (Addr.add d3 (Int.toNat (IntKind.wrap .i64 (Int.tdiv n9 8)))) (.int .u64 (bitsI .xor .u64 n31 (shlI .u64 1 (IntKind.wrap .i64 (8 * (Int.tmod n9 8)))))) w32 →
 I8 (IntKind.wrap .i64 (n9+1)) w32∧μ8 (IntKind.wrap .i64 (n9+1)) w32 < μ8 n9 w10))))) ∧
 (((IntKind.wrap .i64 (n6+n9))≠((l0:Nat):Int) →
 (((n9=135 →
 ((((IntKind.wrap .i64 (n6+136)) > ((l0:Nat):Int) →
 ∃v33,Sem.run Tryz.prog (Z0q .or 5 (.tmp 45) (.const (.int .u8 128)) (.int .u8 0) (.int .u8 128)) w10=.ok v33 w10 ∧
 ∃n34,v33=(.int .u8 n34) ∧
 ∀w35,ZN w10 w35 →
 ((0:Int)≤(IntKind.wrap .i64 (Int.tdiv n9 8))∧(IntKind.wrap .i64 (Int.tdiv n9 8)) < ((25:Nat):Int)) ∧
 ∃n36,World.cell? w35 (Addr.add d3 (Int.toNat (IntKind.wrap .i64 (Int.tdiv n9 8))))=some (.int .u64 n36) ∧
 (0:Int)≤(IntKind.wrap .i64 (8 * (Int.tmod n9 8))) ∧
 ((0:Int)≤(IntKind.wrap .i64 (Int.tdiv n9 8))∧(IntKind.wrap .i64 (Int.tdiv n9 8)) < ((25:Nat):Int)) ∧
 Z1 w35 (Addr.add d3 (Int.toNat (IntKind.wrap .i64 (Int.tdiv n9 8)))) (.int .u64 (bitsI .xor .u64 n36 (shlI .u64 (IntKind.wrap .u64 n34) (IntKind.wrap .i64 (8 * (Int.tmod n9 8))))))∧∀w37,ZA w35 (Addr.add d3 (Int.toNat (IntKind.wrap .i64 (Int.tdiv n9 8)))) (.int .u64 (bitsI .xor .u64 n36 (shlI .u64 (IntKind.wrap .u64 n34) (IntKind.wrap .i64 (8 * (Int.tmod n9 8)))))) w37 →
 I8 (IntKind.wrap .i64 (n9+1)) w37∧μ8 (IntKind.wrap .i64 (n9+1)) w37 < μ8 n9 w10)) ∧
 ((¬(IntKind.wrap .i64 (n6+136)) > ((l0:Nat):Int) →
 ∀w38,ZN w10 w38 →
 ((0:Int)≤(IntKind.wrap .i64 (Int.tdiv n9 8))∧(IntKind.wrap .i64 (Int.tdiv n9 8)) < ((25:Nat):Int)) ∧
 ∃n39,World.cell? w38 (Addr.add d3 (Int.toNat (IntKind.wrap .i64 (Int.tdiv n9 8))))=some (.int .u64 n39) ∧
 (0:Int)≤(IntKind.wrap .i64 (8 * (Int.tmod n9 8))) ∧
 ((0:Int)≤(IntKind.wrap .i64 (Int.tdiv n9 8))∧(IntKind.wrap .i64 (Int.tdiv n9 8)) < ((25:Nat):Int)) ∧
 Z1 w38 (Addr.add d3 (Int.toNat (IntKind.wrap .i64 (Int.tdiv n9 8)))) (.int .u64 (bitsI .xor .u64 n39 (shlI .u64 0 (IntKind.wrap .i64 (8 * (Int.tmod n9 8))))))∧∀w40,ZA w38 (Addr.add d3 (Int.toNat (IntKind.wrap .i64 (Int.tdiv n9 8)))) (.int .u64 (bitsI .xor .u64 n39 (shlI .u64 0 (IntKind.wrap .i64 (8 * (Int.tmod n9 8)))))) w40 →
 I8 (IntKind.wrap .i64 (n9+1)) w40∧μ8 (IntKind.wrap .i64 (n9+1)) w40 < μ8 n9 w10))))) ∧
 ((n9≠135 →
 ∀w41,ZN w10 w41 →
 ((0:Int)≤(IntKind.wrap .i64 (Int.tdiv n9 8))∧(IntKind.wrap .i64 (Int.tdiv n9 8)) < ((25:Nat):Int)) ∧
 ∃n42,World.cell? w41 (Addr.add d3 (Int.toNat (IntKind.wrap .i64 (Int.tdiv n9 8))))=some (.int .u64 n42) ∧
 (0:Int)≤(IntKind.wrap .i64 (8 * (Int.tmod n9 8))) ∧
 ((0:Int)≤(IntKind.wrap .i64 (Int.tdiv n9 8))∧(IntKind.wrap .i64 (Int.tdiv n9 8)) < ((25:Nat):Int)) ∧
 Z1 w41 (Addr.add d3 (Int.toNat (IntKind.wrap .i64 (Int.tdiv n9 8)))) (.int .u64 (bitsI .xor .u64 n42 (shlI .u64 0 (IntKind.wrap .i64 (8 * (Int.tmod n9 8))))))∧∀w43,ZA w41 (Addr.add d3 (Int.toNat (IntKind.wrap .i64 (Int.tdiv n9 8)))) (.int .u64 (bitsI .xor .u64 n42 (shlI .u64 0 (IntKind.wrap .i64 (8 * (Int.tmod n9 8)))))) w43 →
 I8 (IntKind.wrap .i64 (n9+1)) w43∧μ8 (IntKind.wrap .i64 (n9+1)) w43 < μ8 n9 w10))))))))))) ∧
 ((¬n9 < 136 →
 ∃L44,ZJ w10 d3 25 L44 ∧
 Calls Tryz.prog 92 #[(.agg L44)] w10 (fun e45 w46 =>
 ∃L47,e45=.returned (.agg L47) ∧
 ∃w48,Sem.run Tryz.prog (Instr.storeAt 149 (.pointer (some d3)) (.agg L47)) w46=.ok () w48 ∧
 I5 (IntKind.wrap .i64 (n6+136)) w48∧μ5 (IntKind.wrap .i64 (n6+136)) w48 < μ5 n6 w7))))))) ∧
 ((¬n6≤((l0:Nat):Int) →
 ∀d49 w50,ZC w7 27 (Array.replicate 32 (.int .u8 0)) d49 w50 →
 ∃(I51:Int→World→Prop) (μ51:Int→World→Nat),I51 0 w50 ∧
 (∀(n52:Int) (j53:Nat→Value) (w53:World),I51 n52 w53 →
 (((n52 < 32 →
 ((0:Int)≤(IntKind.wrap .i64 (Int.tdiv n52 8))∧(IntKind.wrap .i64 (Int.tdiv n52 8)) < ((25:Nat):Int)) ∧
 ∃n54,World.cell? w53 (Addr.add d3 (Int.toNat (IntKind.wrap .i64 (Int.tdiv n52 8))))=some (.int .u64 n54) ∧
 (0:Int)≤(IntKind.wrap .i64 (8 * (Int.tmod n52 8))) ∧
 ((0:Int)≤n52∧n52 < ((32:Nat):Int)) ∧
 Z1 w53 (Addr.add d49 (Int.toNat n52)) (.int .u8 (IntKind.wrap .u8 (shrI .u64 n54 (IntKind.wrap .i64 (8 * (Int.tmod n52 8))))))∧∀w55,ZA w53 (Addr.add d49 (Int.toNat n52)) (.int .u8 (IntKind.wrap .u8 (shrI .u64 n54 (IntKind.wrap .i64 (8 * (Int.tmod n52 8)))))) w55 →
 I51 (IntKind.wrap .i64 (n52+1)) w55∧μ51 (IntKind.wrap .i64 (n52+1)) w55 < μ51 n52 w53)) ∧
 ((¬n52 < 32 →
 ∃L56,ZJ w53 d49 32 L56 ∧
 ∃w57,Sem.run Tryz.prog (Instr.storeAt 27 (.pointer (some d1)) (.agg L56)) w53=.ok () w57 ∧
 ∃L58,ZJ w57 d1 32 L58 ∧
 R (.returned (.agg L58)) w57))))))))
theorem Z0o.vc (o0:Option Addr) (l0:Nat) (c0:Nat) (w:World) (R:Ending→World→Prop) (h:Z0o.Vc o0 l0 c0 w R):Calls Tryz.prog 56 #[(.slice o0 l0 c0)] w R :=
 Z8 (R:=⟨R,false⟩) (ann:=[(4,[(5,.cell (.int .i64))]),(7,[(6,.cell (.int .i64))]),(20,[(9,.cell (.int .i64))])]) (args:=[.slice o0 l0 c0]) Tryz.func56 ZR (Eq.mp (by kernel_rfl:Z0o.Vc o0 l0 c0 w R=ZP (pA Tryz.prog ⟨R,false⟩) Tryz.prog [(4,[(5,.cell (.int .i64))]),(7,[(6,.cell (.int .i64))]),(20,[(9,.cell (.int .i64))])] Tryz.f56 [.slice o0 l0 c0] w) h)

abbrev Z2I.n:Nat:=53
def Z2I.Vc (o0:Option Addr) (l0 c0:Nat) (w:World) (R:Ending→World→Prop):Prop :=
 ∀d1 w2,ZC w 27 (Array.replicate 32 (.int .u8 0)) d1 w2 →
 Calls Tryz.prog 85 #[] w2 (fun e3 w4 =>
 ∃o5,e3=.returned (.pointer o5) ∧
 ∃(I6:Int→World→Prop) (μ6:Int→World→Nat),I6 0 w4 ∧
 (∀(n7:Int) (j8:Nat→Value) (w8:World),I6 n7 w8 →
 (((n7 < ((l0:Nat):Int) →
 ∃d9,o0=some d9 ∧
 ((0:Int)≤n7∧n7 < ((l0:Nat):Int)) ∧
 ∃o10 l11 l12,World.cell? w8 (Addr.add d9 (Int.toNat n7))=some (.slice o10 l11 l12) ∧
 Calls Tryz.prog 86 #[(.pointer o5),(.slice o10 l11 l12)] w8 (fun e13 w14 =>
 e13=.returned (.tuple #[]) ∧
 I6 (IntKind.wrap .i64 (n7+1)) w14∧μ6 (IntKind.wrap .i64 (n7+1)) w14 < μ6 n7 w8))) ∧
 ((¬n7 < ((l0:Nat):Int) →
 Calls Tryz.prog 87 #[(.pointer o5)] w8 (fun e15 w16 =>
 ∃L17,e15=.returned (.agg L17) ∧
 ∃w18,Sem.run Tryz.prog (Instr.storeAt 27 (.pointer (some d1)) (.agg L17)) w16=.ok () w18 ∧
 ∃L19,ZJ w18 d1 32 L19 ∧
 R (.returned (.agg L19)) w18))))))
theorem Z2I.vc (o0:Option Addr) (l0:Nat) (c0:Nat) (w:World) (R:Ending→World→Prop) (h:Z2I.Vc o0 l0 c0 w R):Calls Tryz.prog 53 #[(.slice o0 l0 c0)] w R :=
 Z8 (R:=⟨R,false⟩) (ann:=[(3,[(9,.cell (.int .i64))])]) (args:=[.slice o0 l0 c0]) Tryz.func53 ZR (Eq.mp (by kernel_rfl:Z2I.Vc o0 l0 c0 w R=ZP (pA Tryz.prog ⟨R,false⟩) Tryz.prog [(3,[(9,.cell (.int .i64))])] Tryz.f53 [.slice o0 l0 c0] w) h)

abbrev Z2H.n:Nat:=85
def Z2H.Vc  (w:World) (R:Ending→World→Prop):Prop :=
 Calls Tryz.prog 111 #[] w (fun e0 w1 =>
 ∃L2,e0=.returned (.agg L2) ∧
 Array.size L2=49 ∧
 ∀d3 w4,ZC w1 175 (lputL #[(.int .u64 0),(.int .u64 0),(.int .u64 0),(.int .u64 0),(.int .u64 0),(.int .u64 0),(.int .u64 0),(.int .u64 0),(.int .u64 0),(.int .u64 0),(.int .u64 0),(.int .u64 0),(.int .u64 0),(.int .u64 0),(.int .u64 0),(.int .u64 0),(.int .u64 0),(.int .u64 0),(.int .u64 0),(.int .u64 0),(.int .u64 0),(.int .u64 0),(.int .u64 0),(.int .u64 0),(.int .i64 0),(.int .i64 0),(.int .i64 0),(.int .i64 0),(.int .i64 0),(.int .i64 0),(.int .i64 0),(.int .i64 0),(.int .i64 0),(.int .i64 0),(.int .i64 0),(.int .i64 0),(.int .i64 0),(.int .i64 0),(.int .i64 0),(.int .i64 0),(.int .i64 0),(.int .i64 0),(.int .i64 0),(.int .i64 0),(.int .i64 0),(.int .i64 0),(.int .i64 0),(.int .i64 0),(.int .i64 0),(.int .u64 0),(.int .u64 0),(.int .u64 0),(.int .u64 0),(.int .u64 0),(.int .u64 0),(.int .u64 0),(.int .u64 0),(.int .u64 0),(.int .u64 0),(.int .u64 0),(.int .u64 0),(.int .u64 0),(.int .u64 0),(.int .u64 0),(.int .u64 0),(.int .u64 0),(.int .u64 0),(.int .u64 0),(.int .u64 0),(.int .u64 0),(.int .u64 0),(.int .u64 0),(.int .u64 0),(.int .u64 0),(.slice none 0 0)] 0 49 L2) d3 w4 →
 R (.returned (.pointer (some d3))) w4)
theorem Z2H.vc  (w:World) (R:Ending→World→Prop) (h:Z2H.Vc w R):Calls Tryz.prog 85 #[] w R :=
 Z8 (R:=⟨R,false⟩) (ann:=[]) (args:=[]) Tryz.func85 ZR (Eq.mp (by kernel_rfl:Z2H.Vc w R=ZP (pA Tryz.prog ⟨R,false⟩) Tryz.prog [] Tryz.f85 [] w) h)

abbrev Zu.n:Nat:=86
def Zu.Vc (d0:Addr) (o1:Option Addr) (l1 c1:Nat) (w:World) (R:Ending→World→Prop):Prop :=
 ∃o2 l3 l4,World.cell? w (Addr.add d0 74)=some (.slice o2 l3 l4) ∧
 ∃v5 w6,Sem.run Tryz.prog (builtinV .append #[23,23] 23 #[(.slice o2 l3 l4),(.slice o1 l1 c1)]) w=.ok v5 w6 ∧
 ∃o7 l8 l9,v5=(.slice o7 l8 l9) ∧
 Z1 w6 (Addr.add d0 74) (.slice o7 l8 l9)∧∀w10,ZA w6 (Addr.add d0 74) (.slice o7 l8 l9) w10 →
 ∃(I11:Int→World→Prop) (μ11:Int→World→Nat),I11 0 w10 ∧
 (∀(n12:Int) (j13:Nat→Value) (w13:World),I11 n12 w13 →
 ∃o14 l15 l16,World.cell? w13 (Addr.add d0 74)=some (.slice o14 l15 l16) ∧
 ((((IntKind.wrap .i64 (((l15:Nat):Int) - n12))≥136 →
 ∀w17,ZN w13 w17 →
 ∃L18,ZJ w17 (Addr.add d0 49) 25 L18 ∧
 ∃o19 l20 l21,World.cell? w17 (Addr.add d0 74)=some (.slice o19 l20 l21) ∧
 ((0:Int)≤(IntKind.wrap .i64 (n12+136))∧(IntKind.wrap .i64 (n12+136))≤((l21:Nat):Int)) ∧
 ((0:Int)≤n12∧n12≤(((Int.toNat (IntKind.wrap .i64 (n12+136))):Nat):Int)) ∧
 Calls Tryz.prog 112 #[(.agg L18),(.pointer (some d0)),(.slice (subO o19 l21 (Int.toNat n12) 1) ((Int.toNat (IntKind.wrap .i64 (n12+136))) - (Int.toNat n12)) (l21 - (Int.toNat n12)))] w17 (fun e22 w23 =>
 ∃L24,e22=.returned (.agg L24) ∧
 ∃w25,Sem.run Tryz.prog (Instr.storeAt 173 (.pointer (some (Addr.add d0 49))) (.agg L24)) w23=.ok () w25 ∧
 I11 (IntKind.wrap .i64 (n12+136)) w25∧μ11 (IntKind.wrap .i64 (n12+136)) w25 < μ11 n12 w13))) ∧
 ((¬(IntKind.wrap .i64 (((l15:Nat):Int) - n12))≥136 →
 ∀w26,ZN w13 w26 →
 ∃o27 l28 l29,World.cell? w26 (Addr.add d0 74)=some (.slice o27 l28 l29) ∧
 ∃o30 l31 l32,World.cell? w26 (Addr.add d0 74)=some (.slice o30 l31 l32) ∧
 ∃o33 l34 l35,World.cell? w26 (Addr.add d0 74)=some (.slice o33 l34 l35) ∧
 ((0:Int)≤n12∧n12≤((l34:Nat):Int)) ∧
 ∃v36 w37,Sem.run Tryz.prog (builtinV .copy #[23,23] 3 #[(.slice o30 l31 l32),(.slice (subO o33 l35 (Int.toNat n12) 1) (l34 - (Int.toNat n12)) (l35 - (Int.toNat n12)))]) w26=.ok v36 w37 ∧
 ∃n38,v36=(.int .i64 n38) ∧
 World.cell? w37 (Addr.add d0 74)=some (.slice o27 l28 l29) ∧
 ((0:Int)≤n38∧n38≤((l29:Nat):Int)) ∧
 Z1 w37 (Addr.add d0 74) (.slice o27 (Int.toNat n38) l29)∧∀w39,ZA w37 (Addr.add d0 74) (.slice o27 (Int.toNat n38) l29) w39 →
 R (.returned (.tuple #[])) w39))))
theorem Zu.vc (d0:Addr) (o1:Option Addr) (l1:Nat) (c1:Nat) (w:World) (R:Ending→World→Prop) (h:Zu.Vc d0 o1 l1 c1 w R):Calls Tryz.prog 86 #[(.pointer (some d0)),(.slice o1 l1 c1)] w R :=
 Z8 (R:=⟨R,false⟩) (ann:=[(2,[(4,.cell (.int .i64))])]) (args:=[.addr d0,.slice o1 l1 c1]) Tryz.func86 ZR (Eq.mp (by kernel_rfl:Zu.Vc d0 o1 l1 c1 w R=ZP (pA Tryz.prog ⟨R,false⟩) Tryz.prog [(2,[(4,.cell (.int .i64))])] Tryz.f86 [.addr d0,.slice o1 l1 c1] w) h)

abbrev Z0H.n:Nat:=87
def Z0H.Vc (d0:Addr) (w:World) (R:Ending→World→Prop):Prop :=
 ∀d1 w2,ZC w 27 (Array.replicate 32 (.int .u8 0)) d1 w2 →
 ∀d3 w4,ZC w2 178 (Array.replicate 136 (.int .u8 0)) d3 w4 →
 ∀w5,ZN w4 w5 →
 ∃o6 l7 l8,World.cell? w5 (Addr.add d0 74)=some (.slice o6 l7 l8) ∧
 ∃v9 w10,Sem.run Tryz.prog (builtinV .copy #[23,23] 3 #[(.slice (some d3) 136 136),(.slice o6 l7 l8)]) w5=.ok v9 w10 ∧
 ∃n11,v9=(.int .i64 n11) ∧
 ((0:Int)≤n11∧n11 < ((136:Nat):Int)) ∧
 Z1 w10 (Addr.add d3 (Int.toNat n11)) (.int .u8 1)∧∀w12,ZA w10 (Addr.add d3 (Int.toNat n11)) (.int .u8 1) w12 →
 ∃n13,World.cell? w12 (Addr.add d3 135)=some (.int .u8 n13) ∧
 Z1 w12 (Addr.add d3 135) (.int .u8 (bitsI .or .u8 n13 128))∧∀w14,ZA w12 (Addr.add d3 135) (.int .u8 (bitsI .or .u8 n13 128)) w14 →
 ∀w15,ZN w14 w15 →
 ∃L16,ZJ w15 (Addr.add d0 49) 25 L16 ∧
 ((Calls Tryz.prog 112 #[(.agg L16),(.pointer (some d0)),(.slice (some d3) 136 136)] w15 (fun e17 w18 =>
 ∃L19,e17=.returned (.agg L19) ∧
 ∀d20 w21,ZC w18 173 (Array.replicate 25 (.int .u64 0)) d20 w21 →
 ∃w22,Sem.run Tryz.prog (Instr.storeAt 173 (.pointer (some d20)) (.agg L19)) w21=.ok () w22 ∧
 ∀d23 w24,ZC w22 27 (Array.replicate 32 (.int .u8 0)) d23 w24 →
 ∃(I25:Int→World→Prop) (μ25:Int→World→Nat),I25 0 w24 ∧
 (∀(n26:Int) (j27:Nat→Value) (w27:World),I25 n26 w27 →
 (((n26 < 4 →
 ∀w28,ZN w27 w28 →
 ((0:Int)≤(IntKind.wrap .i64 (8 * n26))∧(IntKind.wrap .i64 (8 * n26))≤((32:Nat):Int)) ∧
 ((0:Int)≤n26∧n26 < ((25:Nat):Int)) ∧
 ∃n29,World.cell? w28 (Addr.add d20 (Int.toNat n26))=some (.int .u64 n29) ∧
 Calls Tryz.prog 113 #[(.slice none 0 0),(.int .u64 n29),(.int .i64 8)] w28 (fun e30 w31 =>
 ∃o32 l33 l34,e30=.returned (.slice o32 l33 l34) ∧
 ∃v35 w36,Sem.run Tryz.prog (builtinV .copy #[23,23] 3 #[(.slice (some (subD d23 32 (Int.toNat (IntKind.wrap .i64 (8 * n26))) 1)) (32 - (Int.toNat (IntKind.wrap .i64 (8 * n26)))) (32 - (Int.toNat (IntKind.wrap .i64 (8 * n26))))),(.slice o32 l33 l34)]) w31=.ok v35 w36 ∧
 ∃n37,v35=(.int .i64 n37) ∧
 I25 (IntKind.wrap .i64 (n26+1)) w36∧μ25 (IntKind.wrap .i64 (n26+1)) w36 < μ25 n26 w27))) ∧
 ((¬n26 < 4 →
 ∃L38,ZJ w27 d23 32 L38 ∧
 ∃w39,Sem.run Tryz.prog (Instr.storeAt 27 (.pointer (some d1)) (.agg L38)) w27=.ok () w39 ∧
 ∃L40,ZJ w39 d1 32 L40 ∧
 R (.returned (.agg L40)) w39)))))) ∧
 (∀d41 w42,ZC w15 173 (Array.replicate 25 (.int .u64 0)) d41 w42 →
 ZJ w42 (Addr.add d0 49) 25 L16 ∧
 Calls Tryz.prog 112 #[(.agg L16),(.pointer (some d0)),(.slice (some d3) 136 136)] w42 (fun e43 w44 =>
 ∃L45,e43=.returned (.agg L45) ∧
 ∃w46,Sem.run Tryz.prog (Instr.storeAt 173 (.pointer (some d41)) (.agg L45)) w44=.ok () w46 ∧
 ∀d47 w48,ZC w46 27 (Array.replicate 32 (.int .u8 0)) d47 w48 →
 ∃(I49:Int→World→Prop) (μ49:Int→World→Nat),I49 0 w48 ∧
 (∀(n50:Int) (j51:Nat→Value) (w51:World),I49 n50 w51 →
 (((n50 < 4 →
 ∀w52,ZN w51 w52 →
 ((0:Int)≤(IntKind.wrap .i64 (8 * n50))∧(IntKind.wrap .i64 (8 * n50))≤((32:Nat):Int)) ∧
 ((0:Int)≤n50∧n50 < ((25:Nat):Int)) ∧
 ∃n53,World.cell? w52 (Addr.add d41 (Int.toNat n50))=some (.int .u64 n53) ∧
 Calls Tryz.prog 113 #[(.slice none 0 0),(.int .u64 n53),(.int .i64 8)] w52 (fun e54 w55 =>
 ∃o56 l57 l58,e54=.returned (.slice o56 l57 l58) ∧
 ∃v59 w60,Sem.run Tryz.prog (builtinV .copy #[23,23] 3 #[(.slice (some (subD d47 32 (Int.toNat (IntKind.wrap .i64 (8 * n50))) 1)) (32 - (Int.toNat (IntKind.wrap .i64 (8 * n50)))) (32 - (Int.toNat (IntKind.wrap .i64 (8 * n50))))),(.slice o56 l57 l58)]) w55=.ok v59 w60 ∧
 ∃n61,v59=(.int .i64 n61) ∧
 I49 (IntKind.wrap .i64 (n50+1)) w60∧μ49 (IntKind.wrap .i64 (n50+1)) w60 < μ49 n50 w51))) ∧
 ((¬n50 < 4 →
 ∃L62,ZJ w51 d47 32 L62 ∧
 ∃w63,Sem.run Tryz.prog (Instr.storeAt 27 (.pointer (some d1)) (.agg L62)) w51=.ok () w63 ∧
 ∃L64,ZJ w63 d1 32 L64 ∧
 R (.returned (.agg L64)) w63)))))))
theorem Z0H.vc (d0:Addr) (w:World) (R:Ending→World→Prop) (h:Z0H.Vc d0 w R):Calls Tryz.prog 87 #[(.pointer (some d0))] w R :=
 Z8 (R:=⟨R,false⟩) (ann:=[(8,[(29,.cell (.int .i64))])]) (args:=[.addr d0]) Tryz.func87 ZR (Eq.mp (by kernel_rfl:Z0H.Vc d0 w R=ZP (pA Tryz.prog ⟨R,false⟩) Tryz.prog [(8,[(29,.cell (.int .i64))])] Tryz.f87 [.addr d0] w) h)

abbrev Zy.n:Nat:=92
def Zy.Vc (L0:Array Value) (w:World) (R:Ending→World→Prop):Prop :=
 ∀d1 w2,ZC w 149 L0 d1 w2 →
 ∀d3 w4,ZC w2 149 (Array.replicate 25 (.int .u64 0)) d3 w4 →
 ∀d5 w6,ZC w4 169 (Array.replicate 25 (.int .i64 0)) d5 w6 →
 ∃w7,Sem.run Tryz.prog (Instr.storeAt 169 (.pointer (some d5)) (.agg (Array.replicate 25 (.int .i64 0)))) w6=.ok () w7 ∧
 ∃(I8:Int→Int→Int→World→Prop) (μ8:Int→Int→Int→World→Nat),I8 1 0 0 w7 ∧
 (∀(n9:Int) (n10:Int) (n11:Int) (j12:Nat→Value) (w12:World),I8 n9 n10 n11 w12 →
 (((n11 < 24 →
 ((0:Int)≤(IntKind.wrap .i64 (n9+(IntKind.wrap .i64 (5 * n10))))∧(IntKind.wrap .i64 (n9+(IntKind.wrap .i64 (5 * n10)))) < ((25:Nat):Int)) ∧
 Z1 w12 (Addr.add d5 (Int.toNat (IntKind.wrap .i64 (n9+(IntKind.wrap .i64 (5 * n10)))))) (.int .i64 (Int.tmod (IntKind.wrap .i64 (Int.tdiv (IntKind.wrap .i64 ((IntKind.wrap .i64 (n11+1)) * (IntKind.wrap .i64 (n11+2)))) 2)) 64))∧∀w13,ZA w12 (Addr.add d5 (Int.toNat (IntKind.wrap .i64 (n9+(IntKind.wrap .i64 (5 * n10)))))) (.int .i64 (Int.tmod (IntKind.wrap .i64 (Int.tdiv (IntKind.wrap .i64 ((IntKind.wrap .i64 (n11+1)) * (IntKind.wrap .i64 (n11+2)))) 2)) 64)) w13 →
 I8 n10 (Int.tmod (IntKind.wrap .i64 ((IntKind.wrap .i64 (2 * n9))+(IntKind.wrap .i64 (3 * n10)))) 5) (IntKind.wrap .i64 (n11+1)) w13∧μ8 n10 (Int.tmod (IntKind.wrap .i64 ((IntKind.wrap .i64 (2 * n9))+(IntKind.wrap .i64 (3 * n10)))) 5) (IntKind.wrap .i64 (n11+1)) w13 < μ8 n9 n10 n11 w12)) ∧
 ((¬n11 < 24 →
 ∃(I14:Int→Int→World→Prop) (μ14:Int→Int→World→Nat),I14 1 0 w12 ∧
 (∀(n15:Int) (n16:Int) (j17:Nat→Value) (w17:World),I14 n15 n16 w17 →
 (((n16 < 24 →
 ∀d18 w19,ZC w17 181 #[(.int .u64 0),(.int .u64 0),(.int .u64 0),(.int .u64 0),(.int .u64 0)] d18 w19 →
 ∃(I20:Int→World→Prop) (μ20:Int→World→Nat),I20 0 w19 ∧
 (∀(n21:Int) (j22:Nat→Value) (w22:World),I20 n21 w22 →
 (((n21 < 5 →
 ∀w23,ZN w22 w23 →
 ((0:Int)≤n21∧n21 < ((25:Nat):Int)) ∧
 ∃n24,World.cell? w23 (Addr.add d1 (Int.toNat n21))=some (.int .u64 n24) ∧
 ((0:Int)≤(IntKind.wrap .i64 (n21+5))∧(IntKind.wrap .i64 (n21+5)) < ((25:Nat):Int)) ∧
 ∃n25,World.cell? w23 (Addr.add d1 (Int.toNat (IntKind.wrap .i64 (n21+5))))=some (.int .u64 n25) ∧
 ((0:Int)≤(IntKind.wrap .i64 (n21+10))∧(IntKind.wrap .i64 (n21+10)) < ((25:Nat):Int)) ∧
 ∃n26,World.cell? w23 (Addr.add d1 (Int.toNat (IntKind.wrap .i64 (n21+10))))=some (.int .u64 n26) ∧
 ((0:Int)≤(IntKind.wrap .i64 (n21+15))∧(IntKind.wrap .i64 (n21+15)) < ((25:Nat):Int)) ∧
 ∃n27,World.cell? w23 (Addr.add d1 (Int.toNat (IntKind.wrap .i64 (n21+15))))=some (.int .u64 n27) ∧
 ((0:Int)≤(IntKind.wrap .i64 (n21+20))∧(IntKind.wrap .i64 (n21+20)) < ((25:Nat):Int)) ∧
 ∃n28,World.cell? w23 (Addr.add d1 (Int.toNat (IntKind.wrap .i64 (n21+20))))=some (.int .u64 n28) ∧
 ((0:Int)≤n21∧n21 < ((5:Nat):Int)) ∧
 Z1 w23 (Addr.add d18 (Int.toNat n21)) (.int .u64 (bitsI .xor .u64 (bitsI .xor .u64 (bitsI .xor .u64 (bitsI .xor .u64 n24 n25) n26) n27) n28))∧∀w29,ZA w23 (Addr.add d18 (Int.toNat n21)) (.int .u64 (bitsI .xor .u64 (bitsI .xor .u64 (bitsI .xor .u64 (bitsI .xor .u64 n24 n25) n26) n27) n28)) w29 →
 I20 (IntKind.wrap .i64 (n21+1)) w29∧μ20 (IntKind.wrap .i64 (n21+1)) w29 < μ20 n21 w22)) ∧
 ((¬n21 < 5 →
 ∀d30 w31,ZC w22 149 (Array.replicate 25 (.int .u64 0)) d30 w31 →
 ∃(I32:Int→World→Prop) (μ32:Int→World→Nat),I32 0 w31 ∧
 (∀(n33:Int) (j34:Nat→Value) (w34:World),I32 n33 w34 →
 (((n33 < 5 →
 ∃(I35:Int→World→Prop) (μ35:Int→World→Nat),I35 0 w34 ∧
 (∀(n36:Int) (j37:Nat→Value) (w37:World),I35 n36 w37 →
 (((n36 < 5 →
 ∀w38,ZN w37 w38 →
 ((0:Int)≤(IntKind.wrap .i64 (n33+(IntKind.wrap .i64 (5 * n36))))∧(IntKind.wrap .i64 (n33+(IntKind.wrap .i64 (5 * n36)))) < ((25:Nat):Int)) ∧
 ∃n39,World.cell? w38 (Addr.add d1 (Int.toNat (IntKind.wrap .i64 (n33+(IntKind.wrap .i64 (5 * n36))))))=some (.int .u64 n39) ∧
 ((0:Int)≤(Int.tmod (IntKind.wrap .i64 (n33+4)) 5)∧(Int.tmod (IntKind.wrap .i64 (n33+4)) 5) < ((5:Nat):Int)) ∧
 ∃n40,World.cell? w38 (Addr.add d18 (Int.toNat (Int.tmod (IntKind.wrap .i64 (n33+4)) 5)))=some (.int .u64 n40) ∧
 ((0:Int)≤(Int.tmod (IntKind.wrap .i64 (n33+1)) 5)∧(Int.tmod (IntKind.wrap .i64 (n33+1)) 5) < ((5:Nat):Int)) ∧
 ∃n41,World.cell? w38 (Addr.add d18 (Int.toNat (Int.tmod (IntKind.wrap .i64 (n33+1)) 5)))=some (.int .u64 n41) ∧
 Calls Tryz.prog 115 #[(.int .u64 n41),(.int .i64 1)] w38 (fun e42 w43 =>
 ∃n44,e42=.returned (.int .u64 n44) ∧
 World.cell? w43 (Addr.add d18 (Int.toNat (Int.tmod (IntKind.wrap .i64 (n33+4)) 5)))=some (.int .u64 n40) ∧
 World.cell? w43 (Addr.add d1 (Int.toNat (IntKind.wrap .i64 (n33+(IntKind.wrap .i64 (5 * n36))))))=some (.int .u64 n39) ∧
 ((0:Int)≤(IntKind.wrap .i64 (n33+(IntKind.wrap .i64 (5 * n36))))∧(IntKind.wrap .i64 (n33+(IntKind.wrap .i64 (5 * n36)))) < ((25:Nat):Int)) ∧
 ∃n45,World.cell? w43 (Addr.add d5 (Int.toNat (IntKind.wrap .i64 (n33+(IntKind.wrap .i64 (5 * n36))))))=some (.int .i64 n45) ∧
 Calls Tryz.prog 115 #[(.int .u64 (bitsI .xor .u64 (bitsI .xor .u64 n39 n40) n44)),(.int .i64 n45)] w43 (fun e46 w47 =>
 ∃n48,e46=.returned (.int .u64 n48) ∧
 ((0:Int)≤(IntKind.wrap .i64 (n36+(IntKind.wrap .i64 (5 * (Int.tmod (IntKind.wrap .i64 ((IntKind.wrap .i64 (2 * n33))+(IntKind.wrap .i64 (3 * n36)))) 5)))))∧(IntKind.wrap .i64 (n36+(IntKind.wrap .i64 (5 * (Int.tmod (IntKind.wrap .i64 ((IntKind.wrap .i64 (2 * n33))+(IntKind.wrap .i64 (3 * n36)))) 5))))) < ((25:Nat):Int)) ∧
 Z1 w47 (Addr.add d30 (Int.toNat (IntKind.wrap .i64 (n36+(IntKind.wrap .i64 (5 * (Int.tmod (IntKind.wrap .i64 ((IntKind.wrap .i64 (2 * n33))+(IntKind.wrap .i64 (3 * n36)))) 5))))))) (.int .u64 n48)∧∀w49,ZA w47 (Addr.add d30 (Int.toNat (IntKind.wrap .i64 (n36+(IntKind.wrap .i64 (5 * (Int.tmod (IntKind.wrap .i64 ((IntKind.wrap .i64 (2 * n33))+(IntKind.wrap .i64 (3 * n36)))) 5))))))) (.int .u64 n48) w49 →
 I35 (IntKind.wrap .i64 (n36+1)) w49∧μ35 (IntKind.wrap .i64 (n36+1)) w49 < μ35 n36 w37)))) ∧
 ((¬n36 < 5 →
 I32 (IntKind.wrap .i64 (n33+1)) w37∧μ32 (IntKind.wrap .i64 (n33+1)) w37 < μ32 n33 w34)))))) ∧
 ((¬n33 < 5 →
 ∃(I50:Int→World→Prop) (μ50:Int→World→Nat),I50 0 w34 ∧
 (∀(n51:Int) (j52:Nat→Value) (w52:World),I50 n51 w52 →
 (((n51 < 5 →
 ∃(I53:Int→World→Prop) (μ53:Int→World→Nat),I53 0 w52 ∧
 (∀(n54:Int) (j55:Nat→Value) (w55:World),I53 n54 w55 →
 (((n54 < 5 →
 ∀w56,ZN w55 w56 →
 ((0:Int)≤(IntKind.wrap .i64 (n51+(IntKind.wrap .i64 (5 * n54))))∧(IntKind.wrap .i64 (n51+(IntKind.wrap .i64 (5 * n54)))) < ((25:Nat):Int)) ∧
 ∃n57,World.cell? w56 (Addr.add d30 (Int.toNat (IntKind.wrap .i64 (n51+(IntKind.wrap .i64 (5 * n54))))))=some (.int .u64 n57) ∧
 ((0:Int)≤(IntKind.wrap .i64 ((Int.tmod (IntKind.wrap .i64 (n51+1)) 5)+(IntKind.wrap .i64 (5 * n54))))∧(IntKind.wrap .i64 ((Int.tmod (IntKind.wrap .i64 (n51+1)) 5)+(IntKind.wrap .i64 (5 * n54)))) < ((25:Nat):Int)) ∧
 ∃n58,World.cell? w56 (Addr.add d30 (Int.toNat (IntKind.wrap .i64 ((Int.tmod (IntKind.wrap .i64 (n51+1)) 5)+(IntKind.wrap .i64 (5 * n54))))))=some (.int .u64 n58) ∧
 ((0:Int)≤(IntKind.wrap .i64 ((Int.tmod (IntKind.wrap .i64 (n51+2)) 5)+(IntKind.wrap .i64 (5 * n54))))∧(IntKind.wrap .i64 ((Int.tmod (IntKind.wrap .i64 (n51+2)) 5)+(IntKind.wrap .i64 (5 * n54)))) < ((25:Nat):Int)) ∧
 ∃n59,World.cell? w56 (Addr.add d30 (Int.toNat (IntKind.wrap .i64 ((Int.tmod (IntKind.wrap .i64 (n51+2)) 5)+(IntKind.wrap .i64 (5 * n54))))))=some (.int .u64 n59) ∧
 ((0:Int)≤(IntKind.wrap .i64 (n51+(IntKind.wrap .i64 (5 * n54))))∧(IntKind.wrap .i64 (n51+(IntKind.wrap .i64 (5 * n54)))) < ((25:Nat):Int)) ∧
 Z1 w56 (Addr.add d1 (Int.toNat (IntKind.wrap .i64 (n51+(IntKind.wrap .i64 (5 * n54)))))) (.int .u64 (bitsI .xor .u64 n57 (bitsI .and .u64 (bitsI .xor .u64 18446744073709551615 n58) n59)))∧∀w60,ZA w56 (Addr.add d1 (Int.toNat (IntKind.wrap .i64 (n51+(IntKind.wrap .i64 (5 * n54)))))) (.int .u64 (bitsI .xor .u64 n57 (bitsI .and .u64 (bitsI .xor .u64 18446744073709551615 n58) n59))) w60 →
 I53 (IntKind.wrap .i64 (n54+1)) w60∧μ53 (IntKind.wrap .i64 (n54+1)) w60 < μ53 n54 w55)) ∧
 ((¬n54 < 5 →
 I50 (IntKind.wrap .i64 (n51+1)) w55∧μ50 (IntKind.wrap .i64 (n51+1)) w55 < μ50 n51 w52)))))) ∧
 ((¬n51 < 5 →
 ∃(I61:Int→Int→World→Prop) (μ61:Int→Int→World→Nat),I61 n15 0 w52 ∧
 (∀(n62:Int) (n63:Int) (j64:Nat→Value) (w64:World),I61 n62 n63 w64 →
 (((n63 < 7 →
 ((((Int.tmod n62 2)=1 →
 ∀w65,ZN w64 w65 →
 ∃n66,World.cell? w65 d1=some (.int .u64 n66) ∧
 (0:Int)≤n63 ∧
 (0:Int)≤(IntKind.wrap .u64 ((shlI .u64 1 n63) - 1)) ∧
 Z1 w65 d1 (.int .u64 (bitsI .xor .u64 n66 (shlI .u64 1 (IntKind.wrap .u64 ((shlI .u64 1 n63) - 1)))))∧∀w67,ZA w65 d1 (.int .u64 (bitsI .xor .u64 n66 (shlI .u64 1 (IntKind.wrap .u64 ((shlI .u64 1 n63) - 1))))) w67 →
 ((((IntKind.wrap .i64 (2 * n62))≥256 →
 I61 (bitsI .xor .i64 (IntKind.wrap .i64 ((IntKind.wrap .i64 (2 * n62)) - 256)) 113) (IntKind.wrap .i64 (n63+1)) w67∧μ61 (bitsI .xor .i64 (IntKind.wrap .i64 ((IntKind.wrap .i64 (2 * n62)) - 256)) 113) (IntKind.wrap .i64 (n63+1)) w67 < μ61 n62 n63 w64)) ∧
 ((¬(IntKind.wrap .i64 (2 * n62))≥256 →
 I61 (IntKind.wrap .i64 (2 * n62)) (IntKind.wrap .i64 (n63+1)) w67∧μ61 (IntKind.wrap .i64 (2 * n62)) (IntKind.wrap .i64 (n63+1)) w67 < μ61 n62 n63 w64))))) ∧
 (((Int.tmod n62 2)≠1 →
 ((((IntKind.wrap .i64 (2 * n62))≥256 →
 I61 (bitsI .xor .i64 (IntKind.wrap .i64 ((IntKind.wrap .i64 (2 * n62)) - 256)) 113) (IntKind.wrap .i64 (n63+1)) w64∧μ61 (bitsI .xor .i64 (IntKind.wrap .i64 ((IntKind.wrap .i64 (2 * n62)) - 256)) 113) (IntKind.wrap .i64 (n63+1)) w64 < μ61 n62 n63 w64)) ∧
 ((¬(IntKind.wrap .i64 (2 * n62))≥256 →
 I61 (IntKind.wrap .i64 (2 * n62)) (IntKind.wrap .i64 (n63+1)) w64∧μ61 (IntKind.wrap .i64 (2 * n62)) (IntKind.wrap .i64 (n63+1)) w64 < μ61 n62 n63 w64)))))))) ∧
 ((¬n63 < 7 →
 I14 n62 (IntKind.wrap .i64 (n16+1)) w64∧μ14 n62 (IntKind.wrap .i64 (n16+1)) w64 < μ14 n15 n16 w17)))))))))))))))))) ∧
 ((¬n16 < 24 →
 ∃L68,ZJ w17 d1 25 L68 ∧
 ∃w69,Sem.run Tryz.prog (Instr.storeAt 149 (.pointer (some d3)) (.agg L68)) w17=.ok () w69 ∧
 ∃L70,ZJ w69 d3 25 L70 ∧
 R (.returned (.agg L70)) w69))))))))
theorem Zy.vc (L0:Array Value) (w:World) (R:Ending→World→Prop) (h:Zy.Vc L0 w R):Calls Tryz.prog 92 #[(.agg L0)] w R :=
 Z8 (R:=⟨R,false⟩) (ann:=[(4,[(4,.cell (.int .i64)),(5,.cell (.int .i64)),(6,.cell (.int .i64))]),(10,[(7,.cell (.int .i64)),(8,.cell (.int .i64))]),(14,[(10,.cell (.int .i64))]),(19,[(12,.cell (.int .i64))]),(22,[(13,.cell (.int .i64))]),(27,[(15,.cell (.int .i64))]),(30,[(16,.cell (.int .i64))]),(34,[(7,.cell (.int .i64)),(17,.cell (.int .i64))])]) (args:=[.big 25 L0]) Tryz.func92 ZR (Eq.mp (by kernel_rfl:Zy.Vc L0 w R=ZP (pA Tryz.prog ⟨R,false⟩) Tryz.prog [(4,[(4,.cell (.int .i64)),(5,.cell (.int .i64)),(6,.cell (.int .i64))]),(10,[(7,.cell (.int .i64)),(8,.cell (.int .i64))]),(14,[(10,.cell (.int .i64))]),(19,[(12,.cell (.int .i64))]),(22,[(13,.cell (.int .i64))]),(27,[(15,.cell (.int .i64))]),(30,[(16,.cell (.int .i64))]),(34,[(7,.cell (.int .i64)),(17,.cell (.int .i64))])] Tryz.f92 [.big 25 L0] w) h)

abbrev Z0y.n:Nat:=111
def Z0y.Vc  (w:World) (R:Ending→World→Prop):Prop :=
 ∀d0 w1,ZC w 171 #[(.int .u64 0),(.int .u64 0),(.int .u64 0),(.int .u64 0),(.int .u64 0),(.int .u64 0),(.int .u64 0),(.int .u64 0),(.int .u64 0),(.int .u64 0),(.int .u64 0),(.int .u64 0),(.int .u64 0),(.int .u64 0),(.int .u64 0),(.int .u64 0),(.int .u64 0),(.int .u64 0),(.int .u64 0),(.int .u64 0),(.int .u64 0),(.int .u64 0),(.int .u64 0),(.int .u64 0),(.int .i64 0),(.int .i64 0),(.int .i64 0),(.int .i64 0),(.int .i64 0),(.int .i64 0),(.int .i64 0),(.int .i64 0),(.int .i64 0),(.int .i64 0),(.int .i64 0),(.int .i64 0),(.int .i64 0),(.int .i64 0),(.int .i64 0),(.int .i64 0),(.int .i64 0),(.int .i64 0),(.int .i64 0),(.int .i64 0),(.int .i64 0),(.int .i64 0),(.int .i64 0),(.int .i64 0),(.int .i64 0)] d0 w1 →
 Calls Tryz.prog 129 #[] w1 (fun e2 w3 =>
 ∃L4,e2=.returned (.agg L4) ∧
 Calls Tryz.prog 130 #[] w3 (fun e5 w6 =>
 ∃L7,e5=.returned (.agg L7) ∧
 Array.size L4=24 ∧
 Array.size L7=25 ∧
 ∃w8,Sem.run Tryz.prog (Instr.storeAt 171 (.pointer (some d0)) (.agg (lputL (lputL #[(.int .u64 0),(.int .u64 0),(.int .u64 0),(.int .u64 0),(.int .u64 0),(.int .u64 0),(.int .u64 0),(.int .u64 0),(.int .u64 0),(.int .u64 0),(.int .u64 0),(.int .u64 0),(.int .u64 0),(.int .u64 0),(.int .u64 0),(.int .u64 0),(.int .u64 0),(.int .u64 0),(.int .u64 0),(.int .u64 0),(.int .u64 0),(.int .u64 0),(.int .u64 0),(.int .u64 0),(.int .i64 0),(.int .i64 0),(.int .i64 0),(.int .i64 0),(.int .i64 0),(.int .i64 0),(.int .i64 0),(.int .i64 0),(.int .i64 0),(.int .i64 0),(.int .i64 0),(.int .i64 0),(.int .i64 0),(.int .i64 0),(.int .i64 0),(.int .i64 0),(.int .i64 0),(.int .i64 0),(.int .i64 0),(.int .i64 0),(.int .i64 0),(.int .i64 0),(.int .i64 0),(.int .i64 0),(.int .i64 0)] 0 24 L4) 24 25 L7))) w6=.ok () w8 ∧
 ∃L9,ZJ w8 d0 49 L9 ∧
 R (.returned (.agg L9)) w8))
theorem Z0y.vc  (w:World) (R:Ending→World→Prop) (h:Z0y.Vc w R):Calls Tryz.prog 111 #[] w R :=
 Z8 (R:=⟨R,false⟩) (ann:=[]) (args:=[]) Tryz.func111 ZR (Eq.mp (by kernel_rfl:Z0y.Vc w R=ZP (pA Tryz.prog ⟨R,false⟩) Tryz.prog [] Tryz.f111 [] w) h)

abbrev Zv.n:Nat:=112
def Zv.Vc (L0:Array Value) (d1:Addr) (o2:Option Addr) (l2 c2:Nat) (w:World) (R:Ending→World→Prop):Prop :=
 ∀d3 w4,ZC w 173 L0 d3 w4 →
 ∀d5 w6,ZC w4 173 (Array.replicate 25 (.int .u64 0)) d5 w6 →
 ∃(I7:Int→World→Prop) (μ7:Int→World→Nat),I7 0 w6 ∧
 (∀(n8:Int) (j9:Nat→Value) (w9:World),I7 n8 w9 →
 (((n8 < 17 →
 ∀w10,ZN w9 w10 →
 ((0:Int)≤n8∧n8 < ((25:Nat):Int)) ∧
 ∃n11,World.cell? w10 (Addr.add d3 (Int.toNat n8))=some (.int .u64 n11) ∧
 ((0:Int)≤(IntKind.wrap .i64 ((IntKind.wrap .i64 (8 * n8))+8))∧(IntKind.wrap .i64 ((IntKind.wrap .i64 (8 * n8))+8))≤((c2:Nat):Int)) ∧
 ((0:Int)≤(IntKind.wrap .i64 (8 * n8))∧(IntKind.wrap .i64 (8 * n8))≤(((Int.toNat (IntKind.wrap .i64 ((IntKind.wrap .i64 (8 * n8))+8))):Nat):Int)) ∧
 Calls Tryz.prog 131 #[(.slice (subO o2 c2 (Int.toNat (IntKind.wrap .i64 (8 * n8))) 1) ((Int.toNat (IntKind.wrap .i64 ((IntKind.wrap .i64 (8 * n8))+8))) - (Int.toNat (IntKind.wrap .i64 (8 * n8)))) (c2 - (Int.toNat (IntKind.wrap .i64 (8 * n8)))))] w10 (fun e12 w13 =>
 ∃n14,e12=.returned (.int .u64 n14) ∧
 World.cell? w13 (Addr.add d3 (Int.toNat n8))=some (.int .u64 n11) ∧
 ((0:Int)≤n8∧n8 < ((25:Nat):Int)) ∧
 Z1 w13 (Addr.add d3 (Int.toNat n8)) (.int .u64 (bitsI .xor .u64 n11 n14))∧∀w15,ZA w13 (Addr.add d3 (Int.toNat n8)) (.int .u64 (bitsI .xor .u64 n11 n14)) w15 →
 I7 (IntKind.wrap .i64 (n8+1)) w15∧μ7 (IntKind.wrap .i64 (n8+1)) w15 < μ7 n8 w9))) ∧
 ((¬n8 < 17 →
 ∃L16,ZJ w9 d3 25 L16 ∧
 Calls Tryz.prog 132 #[(.agg L16),(.pointer (some d1))] w9 (fun e17 w18 =>
 ∃L19,e17=.returned (.agg L19) ∧
 ∃w20,Sem.run Tryz.prog (Instr.storeAt 173 (.pointer (some d5)) (.agg L19)) w18=.ok () w20 ∧
 ∃L21,ZJ w20 d5 25 L21 ∧
 R (.returned (.agg L21)) w20)))))
theorem Zv.vc (L0:Array Value) (d1:Addr) (o2:Option Addr) (l2:Nat) (c2:Nat) (w:World) (R:Ending→World→Prop) (h:Zv.Vc L0 d1 o2 l2 c2 w R):Calls Tryz.prog 112 #[(.agg L0),(.pointer (some d1)),(.slice o2 l2 c2)] w R :=
 Z8 (R:=⟨R,false⟩) (ann:=[(2,[(8,.cell (.int .i64))])]) (args:=[.big 25 L0,.addr d1,.slice o2 l2 c2]) Tryz.func112 ZR (Eq.mp (by kernel_rfl:Zv.Vc L0 d1 o2 l2 c2 w R=ZP (pA Tryz.prog ⟨R,false⟩) Tryz.prog [(2,[(8,.cell (.int .i64))])] Tryz.f112 [.big 25 L0,.addr d1,.slice o2 l2 c2] w) h)

abbrev Z17.n:Nat:=113
def Z17.Vc (o0:Option Addr) (l0 c0:Nat) (n1 n2:Int) (w:World) (R:Ending→World→Prop):Prop :=
 ∃(I3:Option Addr→Nat→Nat→Int→World→Prop) (μ3:Option Addr→Nat→Nat→Int→World→Nat),I3 o0 l0 c0 0 w ∧
 (∀(o4:Option Addr) (l4:Nat) (c4:Nat) (n5:Int) (j6:Nat→Value) (w6:World),I3 o4 l4 c4 n5 w6 →
 (((n5 < n2 →
 (0:Int)≤(IntKind.wrap .i64 (8 * n5)) ∧
 ∀d7 w8,ZC w6 5 #[(.int .u8 (IntKind.wrap .u8 (shrI .u64 n1 (IntKind.wrap .i64 (8 * n5)))))] d7 w8 →
 ∃v9 w10,Sem.run Tryz.prog (builtinV .append #[23,23] 23 #[(.slice o4 l4 c4),(.slice (some d7) 1 1)]) w8=.ok v9 w10 ∧
 ∃o11 l12 l13,v9=(.slice o11 l12 l13) ∧
 I3 o11 l12 l13 (IntKind.wrap .i64 (n5+1)) w10∧μ3 o11 l12 l13 (IntKind.wrap .i64 (n5+1)) w10 < μ3 o4 l4 c4 n5 w6)) ∧
 ((¬n5 < n2 →
 R (.returned (.slice o4 l4 c4)) w6))))
theorem Z17.vc (o0:Option Addr) (l0:Nat) (c0:Nat) (n1:Int) (n2:Int) (w:World) (R:Ending→World→Prop) (h:Z17.Vc o0 l0 c0 n1 n2 w R):Calls Tryz.prog 113 #[(.slice o0 l0 c0),(.int .u64 n1),(.int .i64 n2)] w R :=
 Z8 (R:=⟨R,false⟩) (ann:=[(2,[(0,.cell (.slice)),(9,.cell (.int .i64))])]) (args:=[.slice o0 l0 c0,.int .u64 n1,.int .i64 n2]) Tryz.func113 ZR (Eq.mp (by kernel_rfl:Z17.Vc o0 l0 c0 n1 n2 w R=ZP (pA Tryz.prog ⟨R,false⟩) Tryz.prog [(2,[(0,.cell (.slice)),(9,.cell (.int .i64))])] Tryz.f113 [.slice o0 l0 c0,.int .u64 n1,.int .i64 n2] w) h)

abbrev Zm.n:Nat:=132
def Zm.Vc (L0:Array Value) (d1:Addr) (w:World) (R:Ending→World→Prop):Prop :=
 ∀d2 w3,ZC w 173 L0 d2 w3 →
 ∀d4 w5,ZC w3 173 (Array.replicate 25 (.int .u64 0)) d4 w5 →
 ∃(I6:Int→World→Prop) (μ6:Int→World→Nat),I6 0 w5 ∧
 (∀(n7:Int) (j8:Nat→Value) (w8:World),I6 n7 w8 →
 (((n7 < 24 →
 ∃L9,ZJ w8 d2 25 L9 ∧
 Calls Tryz.prog 145 #[(.agg L9),(.pointer (some d1)),(.int .i64 n7)] w8 (fun e10 w11 =>
 ∃L12,e10=.returned (.agg L12) ∧
 ∃w13,Sem.run Tryz.prog (Instr.storeAt 173 (.pointer (some d2)) (.agg L12)) w11=.ok () w13 ∧
 I6 (IntKind.wrap .i64 (n7+1)) w13∧μ6 (IntKind.wrap .i64 (n7+1)) w13 < μ6 n7 w8))) ∧
 ((¬n7 < 24 →
 ∃L14,ZJ w8 d2 25 L14 ∧
 ∃w15,Sem.run Tryz.prog (Instr.storeAt 173 (.pointer (some d4)) (.agg L14)) w8=.ok () w15 ∧
 ∃L16,ZJ w15 d4 25 L16 ∧
 R (.returned (.agg L16)) w15))))
theorem Zm.vc (L0:Array Value) (d1:Addr) (w:World) (R:Ending→World→Prop) (h:Zm.Vc L0 d1 w R):Calls Tryz.prog 132 #[(.agg L0),(.pointer (some d1))] w R :=
 Z8 (R:=⟨R,false⟩) (ann:=[(2,[(6,.cell (.int .i64))])]) (args:=[.big 25 L0,.addr d1]) Tryz.func132 ZR (Eq.mp (by kernel_rfl:Zm.Vc L0 d1 w R=ZP (pA Tryz.prog ⟨R,false⟩) Tryz.prog [(2,[(6,.cell (.int .i64))])] Tryz.f132 [.big 25 L0,.addr d1] w) h)

abbrev Z0b.n:Nat:=115
def Z0b.Vc (n0 n1:Int) (w:World) (R:Ending→World→Prop):Prop :=
 (((n1=0 →
 R (.returned (.int .u64 n0)) w)) ∧
 ((n1≠0 →
 ∀w2,ZN w w2 →
 (0:Int)≤n1 ∧
 (0:Int)≤(IntKind.wrap .i64 (64 - n1)) ∧
 R (.returned (.int .u64 (bitsI .or .u64 (shlI .u64 n0 n1) (shrI .u64 n0 (IntKind.wrap .i64 (64 - n1)))))) w2)))
theorem Z0b.vc (n0:Int) (n1:Int) (w:World) (R:Ending→World→Prop) (h:Z0b.Vc n0 n1 w R):Calls Tryz.prog 115 #[(.int .u64 n0),(.int .i64 n1)] w R :=
 Z8 (R:=⟨R,false⟩) (ann:=[]) (args:=[.int .u64 n0,.int .i64 n1]) Tryz.func115 ZR (Eq.mp (by kernel_rfl:Z0b.Vc n0 n1 w R=ZP (pA Tryz.prog ⟨R,false⟩) Tryz.prog [] Tryz.f115 [.int .u64 n0,.int .i64 n1] w) h)

abbrev Z0X.n:Nat:=129
def Z0X.Vc  (w:World) (R:Ending→World→Prop):Prop :=
 ∀d0 w1,ZC w 168 (Array.replicate 24 (.int .u64 0)) d0 w1 →
 ∀d2 w3,ZC w1 168 (Array.replicate 24 (.int .u64 0)) d2 w3 →
 ∃(I4:Int→Int→World→Prop) (μ4:Int→Int→World→Nat),I4 1 0 w3 ∧
 (∀(n5:Int) (n6:Int) (j7:Nat→Value) (w7:World),I4 n5 n6 w7 →
 (((n6 < 24 →
 ∃(I8:Int→Int→World→Prop) (μ8:Int→Int→World→Nat),I8 n5 0 w7 ∧
 (∀(n9:Int) (n10:Int) (j11:Nat→Value) (w11:World),I8 n9 n10 w11 →
 (((n10 < 7 →
 ∀w12,ZN w11 w12 →
 ((0:Int)≤n6∧n6 < ((24:Nat):Int)) ∧
 ∃n13,World.cell? w12 (Addr.add d2 (Int.toNat n6))=some (.int .u64 n13) ∧
 (0:Int)≤n10 ∧
 (0:Int)≤(IntKind.wrap .u64 ((shlI .u64 1 n10) - 1)) ∧
 ((0:Int)≤n6∧n6 < ((24:Nat):Int)) ∧
 Z1 w12 (Addr.add d2 (Int.toNat n6)) (.int .u64 (bitsI .or .u64 n13 (shlI .u64 (IntKind.wrap .u64 (bitsI .and .i64 n9 1)) (IntKind.wrap .u64 ((shlI .u64 1 n10) - 1)))))∧∀w14,ZA w12 (Addr.add d2 (Int.toNat n6)) (.int .u64 (bitsI .or .u64 n13 (shlI .u64 (IntKind.wrap .u64 (bitsI .and .i64 n9 1)) (IntKind.wrap .u64 ((shlI .u64 1 n10) - 1))))) w14 →
 ((((IntKind.wrap .i64 (n9 * 2)) > 255 →
 I8 (bitsI .xor .i64 (IntKind.wrap .i64 ((IntKind.wrap .i64 (n9 * 2)) - 256)) 113) (IntKind.wrap .i64 (n10+1)) w14∧μ8 (bitsI .xor .i64 (IntKind.wrap .i64 ((IntKind.wrap .i64 (n9 * 2)) - 256)) 113) (IntKind.wrap .i64 (n10+1)) w14 < μ8 n9 n10 w11)) ∧
 ((¬(IntKind.wrap .i64 (n9 * 2)) > 255 →
 I8 (IntKind.wrap .i64 (n9 * 2)) (IntKind.wrap .i64 (n10+1)) w14∧μ8 (IntKind.wrap .i64 (n9 * 2)) (IntKind.wrap .i64 (n10+1)) w14 < μ8 n9 n10 w11))))) ∧
 ((¬n10 < 7 →
 I4 n9 (IntKind.wrap .i64 (n6+1)) w11∧μ4 n9 (IntKind.wrap .i64 (n6+1)) w11 < μ4 n5 n6 w7)))))) ∧
 ((¬n6 < 24 →
 ∃L15,ZJ w7 d2 24 L15 ∧
 ∃w16,Sem.run Tryz.prog (Instr.storeAt 168 (.pointer (some d0)) (.agg L15)) w7=.ok () w16 ∧
 ∃L17,ZJ w16 d0 24 L17 ∧
 R (.returned (.agg L17)) w16))))
theorem Z0X.vc  (w:World) (R:Ending→World→Prop) (h:Z0X.Vc w R):Calls Tryz.prog 129 #[] w R :=
 Z8 (R:=⟨R,false⟩) (ann:=[(4,[(2,.cell (.int .i64)),(5,.cell (.int .i64))]),(7,[(2,.cell (.int .i64)),(8,.cell (.int .i64))])]) (args:=[]) Tryz.func129 ZR (Eq.mp (by kernel_rfl:Z0X.Vc w R=ZP (pA Tryz.prog ⟨R,false⟩) Tryz.prog [(4,[(2,.cell (.int .i64)),(5,.cell (.int .i64))]),(7,[(2,.cell (.int .i64)),(8,.cell (.int .i64))])] Tryz.f129 [] w) h)

abbrev Z1Q.n:Nat:=130
def Z1Q.Vc  (w:World) (R:Ending→World→Prop):Prop :=
 ∀d0 w1,ZC w 169 (Array.replicate 25 (.int .i64 0)) d0 w1 →
 ∀d2 w3,ZC w1 169 (Array.replicate 25 (.int .i64 0)) d2 w3 →
 ∃(I4:Int→Int→Int→World→Prop) (μ4:Int→Int→Int→World→Nat),I4 1 0 0 w3 ∧
 (∀(n5:Int) (n6:Int) (n7:Int) (j8:Nat→Value) (w8:World),I4 n5 n6 n7 w8 →
 (((n7 < 24 →
 Calls Tryz.prog 144 #[(.int .i64 n5),(.int .i64 n6)] w8 (fun e9 w10 =>
 ∃n11,e9=.returned (.int .i64 n11) ∧
 ((0:Int)≤n11∧n11 < ((25:Nat):Int)) ∧
 Z1 w10 (Addr.add d2 (Int.toNat n11)) (.int .i64 (Int.tmod (IntKind.wrap .i64 (Int.tdiv (IntKind.wrap .i64 ((IntKind.wrap .i64 (n7+1)) * (IntKind.wrap .i64 (n7+2)))) 2)) 64))∧∀w12,ZA w10 (Addr.add d2 (Int.toNat n11)) (.int .i64 (Int.tmod (IntKind.wrap .i64 (Int.tdiv (IntKind.wrap .i64 ((IntKind.wrap .i64 (n7+1)) * (IntKind.wrap .i64 (n7+2)))) 2)) 64)) w12 →
 I4 n6 (Int.tmod (IntKind.wrap .i64 ((IntKind.wrap .i64 (2 * n5))+(IntKind.wrap .i64 (3 * n6)))) 5) (IntKind.wrap .i64 (n7+1)) w12∧μ4 n6 (Int.tmod (IntKind.wrap .i64 ((IntKind.wrap .i64 (2 * n5))+(IntKind.wrap .i64 (3 * n6)))) 5) (IntKind.wrap .i64 (n7+1)) w12 < μ4 n5 n6 n7 w8))) ∧
 ((¬n7 < 24 →
 ∃L13,ZJ w8 d2 25 L13 ∧
 ∃w14,Sem.run Tryz.prog (Instr.storeAt 169 (.pointer (some d0)) (.agg L13)) w8=.ok () w14 ∧
 ∃L15,ZJ w14 d0 25 L15 ∧
 R (.returned (.agg L15)) w14))))
theorem Z1Q.vc  (w:World) (R:Ending→World→Prop) (h:Z1Q.Vc w R):Calls Tryz.prog 130 #[] w R :=
 Z8 (R:=⟨R,false⟩) (ann:=[(4,[(2,.cell (.int .i64)),(3,.cell (.int .i64)),(5,.cell (.int .i64))])]) (args:=[]) Tryz.func130 ZR (Eq.mp (by kernel_rfl:Z1Q.Vc w R=ZP (pA Tryz.prog ⟨R,false⟩) Tryz.prog [(4,[(2,.cell (.int .i64)),(3,.cell (.int .i64)),(5,.cell (.int .i64))])] Tryz.f130 [] w) h)

abbrev Z10.n:Nat:=131
def Z10.Vc (o0:Option Addr) (l0 c0:Nat) (w:World) (R:Ending→World→Prop):Prop :=
 ∃(I1:Int→Int→World→Prop) (μ1:Int→Int→World→Nat),I1 0 0 w ∧
 (∀(n2:Int) (n3:Int) (j4:Nat→Value) (w4:World),I1 n2 n3 w4 →
 (((n3 < ((l0:Nat):Int) →
 ∃d5,o0=some d5 ∧
 ((0:Int)≤n3∧n3 < ((l0:Nat):Int)) ∧
 ∃n6,World.cell? w4 (Addr.add d5 (Int.toNat n3))=some (.int .u8 n6) ∧
 (0:Int)≤(IntKind.wrap .i64 (8 * n3)) ∧
 I1 (bitsI .or .u64 n2 (shlI .u64 (IntKind.wrap .u64 n6) (IntKind.wrap .i64 (8 * n3)))) (IntKind.wrap .i64 (n3+1)) w4∧μ1 (bitsI .or .u64 n2 (shlI .u64 (IntKind.wrap .u64 n6) (IntKind.wrap .i64 (8 * n3)))) (IntKind.wrap .i64 (n3+1)) w4 < μ1 n2 n3 w4)) ∧
 ((¬n3 < ((l0:Nat):Int) →
 R (.returned (.int .u64 n2)) w4))))
theorem Z10.vc (o0:Option Addr) (l0:Nat) (c0:Nat) (w:World) (R:Ending→World→Prop) (h:Z10.Vc o0 l0 c0 w R):Calls Tryz.prog 131 #[(.slice o0 l0 c0)] w R :=
 Z8 (R:=⟨R,false⟩) (ann:=[(3,[(3,.cell (.int .u64)),(8,.cell (.int .i64))])]) (args:=[.slice o0 l0 c0]) Tryz.func131 ZR (Eq.mp (by kernel_rfl:Z10.Vc o0 l0 c0 w R=ZP (pA Tryz.prog ⟨R,false⟩) Tryz.prog [(3,[(3,.cell (.int .u64)),(8,.cell (.int .i64))])] Tryz.f131 [.slice o0 l0 c0] w) h)

abbrev Z09.n:Nat:=145
def Z09.Vc (L0:Array Value) (d1:Addr) (n2:Int) (w:World) (R:Ending→World→Prop):Prop :=
 ∀d3 w4,ZC w 173 L0 d3 w4 →
 ∀d5 w6,ZC w4 173 (Array.replicate 25 (.int .u64 0)) d5 w6 →
 ∀d7 w8,ZC w6 181 #[(.int .u64 0),(.int .u64 0),(.int .u64 0),(.int .u64 0),(.int .u64 0)] d7 w8 →
 ∃(I9:Int→World→Prop) (μ9:Int→World→Nat),I9 0 w8 ∧
 (∀(n10:Int) (j11:Nat→Value) (w11:World),I9 n10 w11 →
 (((n10 < 5 →
 ∃(I12:Int→World→Prop) (μ12:Int→World→Nat),I12 0 w11 ∧
 (∀(n13:Int) (j14:Nat→Value) (w14:World),I12 n13 w14 →
 (((n13 < 5 →
 ∀w15,ZN w14 w15 →
 ((0:Int)≤n10∧n10 < ((5:Nat):Int)) ∧
 ∃n16,World.cell? w15 (Addr.add d7 (Int.toNat n10))=some (.int .u64 n16) ∧
 Calls Tryz.prog 144 #[(.int .i64 n10),(.int .i64 n13)] w15 (fun e17 w18 =>
 ∃n19,e17=.returned (.int .i64 n19) ∧
 World.cell? w18 (Addr.add d7 (Int.toNat n10))=some (.int .u64 n16) ∧
 ((0:Int)≤n19∧n19 < ((25:Nat):Int)) ∧
 ∃n20,World.cell? w18 (Addr.add d3 (Int.toNat n19))=some (.int .u64 n20) ∧
 ((0:Int)≤n10∧n10 < ((5:Nat):Int)) ∧
 Z1 w18 (Addr.add d7 (Int.toNat n10)) (.int .u64 (bitsI .xor .u64 n16 n20))∧∀w21,ZA w18 (Addr.add d7 (Int.toNat n10)) (.int .u64 (bitsI .xor .u64 n16 n20)) w21 →
 I12 (IntKind.wrap .i64 (n13+1)) w21∧μ12 (IntKind.wrap .i64 (n13+1)) w21 < μ12 n13 w14))) ∧
 ((¬n13 < 5 →
 I9 (IntKind.wrap .i64 (n10+1)) w14∧μ9 (IntKind.wrap .i64 (n10+1)) w14 < μ9 n10 w11)))))) ∧
 ((¬n10 < 5 →
 ∀d22 w23,ZC w11 173 (Array.replicate 25 (.int .u64 0)) d22 w23 →
 ∃(I24:Int→World→Prop) (μ24:Int→World→Nat),I24 0 w23 ∧
 (∀(n25:Int) (j26:Nat→Value) (w26:World),I24 n25 w26 →
 (((n25 < 5 →
 ∀w27,ZN w26 w27 →
 ((0:Int)≤(Int.tmod (IntKind.wrap .i64 ((IntKind.wrap .i64 (n25+5)) - 1)) 5)∧(Int.tmod (IntKind.wrap .i64 ((IntKind.wrap .i64 (n25+5)) - 1)) 5) < ((5:Nat):Int)) ∧
 ∃n28,World.cell? w27 (Addr.add d7 (Int.toNat (Int.tmod (IntKind.wrap .i64 ((IntKind.wrap .i64 (n25+5)) - 1)) 5)))=some (.int .u64 n28) ∧
 ((0:Int)≤(Int.tmod (IntKind.wrap .i64 (n25+1)) 5)∧(Int.tmod (IntKind.wrap .i64 (n25+1)) 5) < ((5:Nat):Int)) ∧
 ∃n29,World.cell? w27 (Addr.add d7 (Int.toNat (Int.tmod (IntKind.wrap .i64 (n25+1)) 5)))=some (.int .u64 n29) ∧
 Calls Tryz.prog 157 #[(.int .u64 n29),(.int .i64 1)] w27 (fun e30 w31 =>
 ∃n32,e30=.returned (.int .u64 n32) ∧
 World.cell? w31 (Addr.add d7 (Int.toNat (Int.tmod (IntKind.wrap .i64 ((IntKind.wrap .i64 (n25+5)) - 1)) 5)))=some (.int .u64 n28) ∧
 ∃(I33:Int→World→Prop) (μ33:Int→World→Nat),I33 0 w31 ∧
 (∀(n34:Int) (j35:Nat→Value) (w35:World),I33 n34 w35 →
 (((n34 < 5 →
 ∀w36,ZN w35 w36 →
 Calls Tryz.prog 144 #[(.int .i64 n34),(.int .i64 (IntKind.wrap .i64 ((IntKind.wrap .i64 (2 * n25))+(IntKind.wrap .i64 (3 * n34)))))] w36 (fun e37 w38 =>
 ∃n39,e37=.returned (.int .i64 n39) ∧
 Calls Tryz.prog 144 #[(.int .i64 n25),(.int .i64 n34)] w38 (fun e40 w41 =>
 ∃n42,e40=.returned (.int .i64 n42) ∧
 ((0:Int)≤n42∧n42 < ((25:Nat):Int)) ∧
 ∃n43,World.cell? w41 (Addr.add d3 (Int.toNat n42))=some (.int .u64 n43) ∧
 Calls Tryz.prog 144 #[(.int .i64 n25),(.int .i64 n34)] w41 (fun e44 w45 =>
 ∃n46,e44=.returned (.int .i64 n46) ∧
 World.cell? w45 (Addr.add d3 (Int.toNat n42))=some (.int .u64 n43) ∧
 ((0:Int)≤n46∧n46 < ((25:Nat):Int)) ∧
 ∃n47,World.cell? w45 (Addr.add (Addr.add d1 24) (Int.toNat n46))=some (.int .i64 n47) ∧
 Calls Tryz.prog 157 #[(.int .u64 (bitsI .xor .u64 n43 (bitsI .xor .u64 n28 n32))),(.int .i64 n47)] w45 (fun e48 w49 =>
 ∃n50,e48=.returned (.int .u64 n50) ∧
 ((0:Int)≤n39∧n39 < ((25:Nat):Int)) ∧
 Z1 w49 (Addr.add d22 (Int.toNat n39)) (.int .u64 n50)∧∀w51,ZA w49 (Addr.add d22 (Int.toNat n39)) (.int .u64 n50) w51 →
 I33 (IntKind.wrap .i64 (n34+1)) w51∧μ33 (IntKind.wrap .i64 (n34+1)) w51 < μ33 n34 w35)))))) ∧
 ((¬n34 < 5 →
 I24 (IntKind.wrap .i64 (n25+1)) w35∧μ24 (IntKind.wrap .i64 (n25+1)) w35 < μ24 n25 w26))))))) ∧
 ((¬n25 < 5 →
 ∀d52 w53,ZC w26 173 (Array.replicate 25 (.int .u64 0)) d52 w53 →
 ∃(I54:Int→World→Prop) (μ54:Int→World→Nat),I54 0 w53 ∧
 (∀(n55:Int) (j56:Nat→Value) (w56:World),I54 n55 w56 →
 (((n55 < 5 →
 ∃(I57:Int→World→Prop) (μ57:Int→World→Nat),I57 0 w56 ∧
 (∀(n58:Int) (j59:Nat→Value) (w59:World),I57 n58 w59 →
 (((n58 < 5 →
 ∀w60,ZN w59 w60 →
 Calls Tryz.prog 144 #[(.int .i64 n55),(.int .i64 n58)] w60 (fun e61 w62 =>
 ∃n63,e61=.returned (.int .i64 n63) ∧
 Calls Tryz.prog 144 #[(.int .i64 n55),(.int .i64 n58)] w62 (fun e64 w65 =>
 ∃n66,e64=.returned (.int .i64 n66) ∧
 ((0:Int)≤n66∧n66 < ((25:Nat):Int)) ∧
 ∃n67,World.cell? w65 (Addr.add d22 (Int.toNat n66))=some (.int .u64 n67) ∧
 Calls Tryz.prog 144 #[(.int .i64 (IntKind.wrap .i64 (n55+1))),(.int .i64 n58)] w65 (fun e68 w69 =>
 ∃n70,e68=.returned (.int .i64 n70) ∧
 World.cell? w69 (Addr.add d22 (Int.toNat n66))=some (.int .u64 n67) ∧
 ((0:Int)≤n70∧n70 < ((25:Nat):Int)) ∧
 ∃n71,World.cell? w69 (Addr.add d22 (Int.toNat n70))=some (.int .u64 n71) ∧
 Calls Tryz.prog 144 #[(.int .i64 (IntKind.wrap .i64 (n55+2))),(.int .i64 n58)] w69 (fun e72 w73 =>
 ∃n74,e72=.returned (.int .i64 n74) ∧
 World.cell? w73 (Addr.add d22 (Int.toNat n70))=some (.int .u64 n71) ∧
 World.cell? w73 (Addr.add d22 (Int.toNat n66))=some (.int .u64 n67) ∧
 ((0:Int)≤n74∧n74 < ((25:Nat):Int)) ∧
 ∃n75,World.cell? w73 (Addr.add d22 (Int.toNat n74))=some (.int .u64 n75) ∧
 ((0:Int)≤n63∧n63 < ((25:Nat):Int)) ∧
 Z1 w73 (Addr.add d52 (Int.toNat n63)) (.int .u64 (bitsI .xor .u64 n67 (bitsI .and .u64 (bitsI .xor .u64 18446744073709551615 n71) n75)))∧∀w76,ZA w73 (Addr.add d52 (Int.toNat n63)) (.int .u64 (bitsI .xor .u64 n67 (bitsI .and .u64 (bitsI .xor .u64 18446744073709551615 n71) n75))) w76 →
 I57 (IntKind.wrap .i64 (n58+1)) w76∧μ57 (IntKind.wrap .i64 (n58+1)) w76 < μ57 n58 w59)))))) ∧
 ((¬n58 < 5 →
 I54 (IntKind.wrap .i64 (n55+1)) w59∧μ54 (IntKind.wrap .i64 (n55+1)) w59 < μ54 n55 w56)))))) ∧
 ((¬n55 < 5 →
 ∀w77,ZN w56 w77 →
 ∃n78,World.cell? w77 d52=some (.int .u64 n78) ∧
 ((0:Int)≤n2∧n2 < ((24:Nat):Int)) ∧
 ∃n79,World.cell? w77 (Addr.add d1 (Int.toNat n2))=some (.int .u64 n79) ∧
 Z1 w77 d52 (.int .u64 (bitsI .xor .u64 n78 n79))∧∀w80,ZA w77 d52 (.int .u64 (bitsI .xor .u64 n78 n79)) w80 →
 ∃L81,ZJ w80 d52 25 L81 ∧
 ∃w82,Sem.run Tryz.prog (Instr.storeAt 173 (.pointer (some d5)) (.agg L81)) w80=.ok () w82 ∧
 ∃L83,ZJ w82 d5 25 L83 ∧
 R (.returned (.agg L83)) w82))))))))))))
theorem Z09.vc (L0:Array Value) (d1:Addr) (n2:Int) (w:World) (R:Ending→World→Prop) (h:Z09.Vc L0 d1 n2 w R):Calls Tryz.prog 145 #[(.agg L0),(.pointer (some d1)),(.int .i64 n2)] w R :=
 Z8 (R:=⟨R,false⟩) (ann:=[(3,[(17,.cell (.int .i64))]),(6,[(20,.cell (.int .i64))]),(13,[(35,.cell (.int .i64))]),(17,[(51,.cell (.int .i64))]),(24,[(80,.cell (.int .i64))]),(27,[(83,.cell (.int .i64))])]) (args:=[.big 25 L0,.addr d1,.int .i64 n2]) Tryz.func145 ZR (Eq.mp (by kernel_rfl:Z09.Vc L0 d1 n2 w R=ZP (pA Tryz.prog ⟨R,false⟩) Tryz.prog [(3,[(17,.cell (.int .i64))]),(6,[(20,.cell (.int .i64))]),(13,[(35,.cell (.int .i64))]),(17,[(51,.cell (.int .i64))]),(24,[(80,.cell (.int .i64))]),(27,[(83,.cell (.int .i64))])] Tryz.f145 [.big 25 L0,.addr d1,.int .i64 n2] w) h)

abbrev Z2z.n:Nat:=144
def Z2z.Vc (n0 n1:Int) (w:World) (R:Ending→World→Prop):Prop :=
 R (.returned (.int .i64 (IntKind.wrap .i64 ((Int.tmod n0 5)+(IntKind.wrap .i64 (5 * (Int.tmod n1 5))))))) w
theorem Z2z.vc (n0:Int) (n1:Int) (w:World) (R:Ending→World→Prop) (h:Z2z.Vc n0 n1 w R):Calls Tryz.prog 144 #[(.int .i64 n0),(.int .i64 n1)] w R :=
 Z8 (R:=⟨R,false⟩) (ann:=[]) (args:=[.int .i64 n0,.int .i64 n1]) Tryz.func144 ZR (Eq.mp (by kernel_rfl:Z2z.Vc n0 n1 w R=ZP (pA Tryz.prog ⟨R,false⟩) Tryz.prog [] Tryz.f144 [.int .i64 n0,.int .i64 n1] w) h)

abbrev Zj.n:Nat:=157
def Zj.Vc (n0 n1:Int) (w:World) (R:Ending→World→Prop):Prop :=
 (0:Int)≤(bitsI .and .u64 (IntKind.wrap .u64 n1) 63) ∧
 (0:Int)≤(IntKind.wrap .u64 (64 - (bitsI .and .u64 (IntKind.wrap .u64 n1) 63))) ∧
 R (.returned (.int .u64 (bitsI .or .u64 (shlI .u64 n0 (bitsI .and .u64 (IntKind.wrap .u64 n1) 63)) (shrI .u64 n0 (IntKind.wrap .u64 (64 - (bitsI .and .u64 (IntKind.wrap .u64 n1) 63))))))) w
theorem Zj.vc (n0:Int) (n1:Int) (w:World) (R:Ending→World→Prop) (h:Zj.Vc n0 n1 w R):Calls Tryz.prog 157 #[(.int .u64 n0),(.int .i64 n1)] w R :=
 Z8 (R:=⟨R,false⟩) (ann:=[]) (args:=[.int .u64 n0,.int .i64 n1]) Tryz.func157 ZR (Eq.mp (by kernel_rfl:Zj.Vc n0 n1 w R=ZP (pA Tryz.prog ⟨R,false⟩) Tryz.prog [] Tryz.f157 [.int .u64 n0,.int .i64 n1] w) h)

end Go.Proofs.YtfghidehlnfdiaaGreat
end
section
namespace Go.Vcg
open Go.RowKit (Below)

@[simp] theorem Z6 (b i n:Nat):Addr.add ⟨b,i,none⟩ n=⟨b,i+n,none⟩:=by
  unfold Addr.add; split <;> simp_all

def Blk (w:World) (b:Nat) (t:TypeId) (cs:Array Value):Prop:=w.heap[b]?=some (.cells cs t (0,0))

structure Mod (S:Nat→Prop) (w w':World):Prop where
 os:w'.os=w.os
 tape:w'.tape=w.tape
 output:w'.output=w.output
 size:w.heap.size≤w'.heap.size
 block:∀k,k < w.heap.size→¬S k→w'.heap[k]?=w.heap[k]?

abbrev NoB:Nat→Prop:=fun _=>False

theorem Mod.refl {S} (w:World):Mod S w w:=⟨rfl,rfl,rfl,Nat.le_refl _,fun _ _ _=>rfl⟩
theorem Mod.trans {S T:Nat→Prop} {a b c:World} (h:Mod S a b) (k:Mod T b c) (hs:∀i,i < a.heap.size→T i→S i):Mod S a c :=
 ⟨k.os.trans h.os,k.tape.trans h.tape,k.output.trans h.output,Nat.le_trans h.size k.size,
  fun i hi hn=>(k.block i (Nat.lt_of_lt_of_le hi h.size) (fun ht=>hn (hs i hi ht))).trans (h.block i hi hn)⟩
theorem Mod.mono {S T:Nat→Prop} {a b:World} (h:Mod S a b) (hs:∀i,i < a.heap.size→S i→T i):Mod T a b :=
 ⟨h.os,h.tape,h.output,h.size,fun i hi hn=>h.block i hi (fun k=>hn (hs i hi k))⟩
theorem Mod.none_trans {S:Nat→Prop} {a b c:World} (h:Mod S a b) (k:Mod NoB b c):Mod S a c:=h.trans k (fun _ _ h=>h.elim)
theorem Mod.below {w w':World} (h:Mod NoB w w'):Below w.heap.size w w':=⟨h.os,h.tape,h.output,h.size,fun k hk=>h.block k hk (fun h=>h)⟩

theorem Mod.drew (w:World) {S}:Mod S w w.drew:=⟨rfl,rfl,rfl,Nat.le_refl _,fun _ _ _=>rfl⟩
theorem Mod.alloc (w:World) (o:Obj) {S}:Mod S w (w.alloc o):=⟨rfl,rfl,rfl,by simp,fun k hk _=>heap_alloc_old w o hk⟩
theorem Mod.setCell (w:World) (a:Addr) (v:Value):Mod (·=a.block) w (w.setCell a v) :=
 ⟨rfl,rfl,rfl,by simp [World.setCell],fun k hk hn=>heap_setCell_other w a k v hn⟩
theorem Mod.setRow (w:World) (g:Nat) (cs:Array Value):Mod (·=g) w (w.setRow g cs) :=
 ⟨rfl,rfl,rfl,by simp [World.setRow],fun k hk hn=>setRow_other w g k _ hn⟩
theorem Mod.step_drew {S} {w0 w:World} (h:Mod S w0 w):Mod S w0 w.drew:=h.none_trans (Mod.drew w)
theorem Mod.step_alloc {S} {w0 w:World} (h:Mod S w0 w) (o:Obj):Mod S w0 (w.alloc o):=h.none_trans (Mod.alloc w o)
theorem Mod.step_set {S:Nat→Prop} {w0 w:World} (h:Mod S w0 w) {a:Addr} {v:Value} (hs:a.block < w0.heap.size→S a.block):Mod S w0 (w.setCell a v) :=
 h.trans (Mod.setCell w a v) (fun i hi e=>by subst e; exact hs hi)
theorem Mod.step_row {S:Nat→Prop} {w0 w:World} (h:Mod S w0 w) {g:Nat} {cs} (hs:g < w0.heap.size→S g):Mod S w0 (w.setRow g cs) :=
 h.trans (Mod.setRow w g cs) (fun i hi e=>by subst e; exact hs hi)

theorem ZD (w:World) (o:Obj):(w.alloc o).heap.size=w.heap.size+1:=by simp
theorem Z4W (w:World) (a:Addr) (v:Value):(w.setCell a v).heap.size=w.heap.size:=by simp [World.setCell]
theorem ZBh (w:World) (g:Nat) (cs):(w.setRow g cs).heap.size=w.heap.size:=by simp [World.setRow]

section
variable {w w':World} {b:Nat} {t:TypeId} {cs:Array Value}
theorem Blk.lt (h:Blk w b t cs):b < w.heap.size:=(Array.getElem?_eq_some_iff.1 h).1
theorem Blk.mod {S:Nat→Prop} (h:Blk w b t cs) (m:Mod S w w') (hs:¬S b):Blk w' b t cs:=(m.block b h.lt hs).trans h
theorem Blk.mod' (h:Blk w b t cs) (m:Mod NoB w w'):Blk w' b t cs:=h.mod m (fun h=>h)
theorem Blk.drew (h:Blk w b t cs):Blk w.drew b t cs:=h
theorem Blk.alloc (h:Blk w b t cs) (o:Obj):Blk (w.alloc o) b t cs:=h.mod' (Mod.alloc w o)
theorem Blk.new (w:World) (t:TypeId) (cs:Array Value):Blk (w.alloc (.cells cs t)) w.heap.size t cs:=heap_alloc_new w _
theorem Blk.set (h:Blk w b t cs) (i:Nat) (v:Value):Blk (w.setCell ⟨b,i,none⟩ v) b t (cs.setIfInBounds i v):=heap_setCell_same w b i cs t v h
theorem Blk.set_ne (h:Blk w b t cs) {a:Addr} {v:Value} (hn:b≠a.block):Blk (w.setCell a v) b t cs:=h.mod (Mod.setCell w a v) hn
theorem Blk.row_ne (h:Blk w b t cs) {g:Nat} {c:Array Value} (hn:b≠g):Blk (w.setRow g c) b t cs:=h.mod (Mod.setRow w g c) hn
theorem Blk.row_same (h:Blk w b t cs) (c:Array Value):Blk (w.setRow b c) b t c:=setRow_heap w b cs c t _ h
theorem Blk.cell (h:Blk w b t cs) (i:Nat):w.cell? ⟨b,i,none⟩=cs[i]?:=cell_of_row w b i cs t _ h
theorem Blk.canSet (h:Blk w b t cs) {i:Nat} {v:Value} (hi:i < cs.size) (hv:v.oneCell'=true):Z1 w ⟨b,i,none⟩ v :=
 ⟨hv,⟨cs[i],by rw [h.cell]; simp [hi]⟩,by simp [World.frozen?,show w.heap[b]?=_ from h]⟩
theorem Blk.rowAt (h:Blk w b t cs) {o n:Nat} {L:Array Value} (hn:L.size=n) (hl:∀i,i < n→cs[o+i]?=L[i]?):ZJ w ⟨b,o,none⟩ n L :=
 ⟨hn,fun i hi=>by rw [Z6,h.cell,hl i hi]⟩
theorem Blk.rowAll (h:Blk w b t cs) {n:Nat} (hn:cs.size=n):ZJ w ⟨b,0,none⟩ n cs :=
 h.rowAt hn (fun i _=>by simp)
theorem Blk.storeAt {P:Program} (h:Blk w b t cs) {ty:TypeId} {i:TypeInfo} {L:Array Value} {o:Nat} (hi:P.info? ty=some i) (hsz:i.size=L.size)
  (hb:o+L.size≤cs.size) (h1:∀v∈L.toList,v.oneCell'=true) :
  Sem.run P (Instr.storeAt ty (.pointer (some ⟨b,o,none⟩)) (.agg L)) w=.ok () (w.setRow b (cs.toList.take o++L.toList++cs.toList.drop (o+L.size)).toArray):=by
 have hst:=run_storeCells_at P b o t L.toList 0 cs w h (by simpa using hb) h1
 simp only [Nat.add_zero,Array.length_toList] at hst
 simp only [Instr.storeAt,Instr.sureAddr,pure_bind]
 unfold storeVar
 simp [Sem.run_bind,sizeOf,typeInfo,hi,hsz,Value.cells,hst]
end

theorem Blk.storeAll {w:World} {b:Nat} {t:TypeId} {cs:Array Value} {P:Program} (h:Blk w b t cs) {ty:TypeId} {L:Array Value} (hi:(P.info? ty).map (·.size)=some L.size)
  (hb:cs.size=L.size) (h1:∀v∈L.toList,v.oneCell'=true) :
  Sem.run P (Instr.storeAt ty (.pointer (some ⟨b,0,none⟩)) (.agg L)) w=.ok () (w.setRow b L):=by
 obtain ⟨i,hi',hsz⟩:=Option.map_eq_some_iff.1 hi
 rw [h.storeAt hi' hsz (by omega) h1]
 have:cs.toList.drop (0+L.size)=[]:=List.drop_eq_nil_of_le (by simp; omega)
 rw [this]; simp
theorem Blk.rd0 {w:World} {b:Nat} {t:TypeId} {cs:Array Value} (h:Blk w b t cs) {i:Nat} {v:Value} (hv:cs[i]?=some v) :
 w.cell? (Addr.add ⟨b,0,none⟩ (Int.toNat (i:Int)))=some v:=by rw [Int.toNat_natCast,Z6,h.cell,Nat.zero_add,hv]
theorem Blk.rd1 {w:World} {b i:Nat} {t:TypeId} {cs:Array Value} (h:Blk w b t cs) {v:Value} (hv:cs[i]?=some v) :
 w.cell? ⟨b,i,none⟩=some v:=by rw [h.cell,hv]
theorem Blk.canSet0 {w:World} {b:Nat} {t:TypeId} {cs:Array Value} (h:Blk w b t cs) {i:Nat} {v:Value} (hi:i < cs.size) (hv:v.oneCell'=true):Z1 w (Addr.add ⟨b,0,none⟩ (Int.toNat (i:Int))) v:=by
 rw [Int.toNat_natCast,Z6,Nat.zero_add]; exact h.canSet hi hv
theorem ZA.at {w w':World} {b i:Nat} {v:Value} (h:ZA w (Addr.add ⟨b,0,none⟩ (Int.toNat (i:Int))) v w'):w'=w.setCell ⟨b,i,none⟩ v:=by
 rw [ZA,Int.toNat_natCast,Z6,Nat.zero_add] at h; exact h

def Z7z (N:Nat) (Inv:Nat→World→Prop) (n:Int) (w:World):Prop:=∃k:Nat,n=(k:Int)∧k≤N∧Inv k w
abbrev ZGH (N:Nat) (n:Int) (_:World):Nat:=((N:Int) - n).toNat
theorem Z4L {w:World} {b:Int} {B:(Int→World→Prop)→(Int→World→Nat)→Int→(Nat→Value)→World→Prop} {K:Int→(Nat→Value)→World→Prop}
  (N:Nat) (Inv:Nat→World→Prop) (hb:b=(N:Int)) (h0:Inv 0 w)
  (hB:∀(k:Nat) (j:Nat→Value) (w':World),k < N→Inv k w'→B (Z7z N Inv) (ZGH N) (k:Int) j w')
  (hK:∀(j:Nat→Value) (w':World),Inv N w'→K (N:Int) j w') :
  ∃(I:Int→World→Prop) (μ:Int→World→Nat),I 0 w∧(∀(n:Int) (j:Nat→Value) (w4:World),I n w4→((n < b→B I μ n j w4)∧(¬n < b→K n j w4))):=by
 subst hb
 refine ⟨Z7z N Inv,ZGH N,⟨0,rfl,Nat.zero_le _,h0⟩,?_⟩
 rintro _ j w' ⟨k,rfl,hk,hI⟩
 refine ⟨fun h=>hB k j w' (by omega) hI,fun h=>?_⟩
 have:k=N:=by omega
 subst this
 exact hK j w' hI
theorem Z7z.next {N:Nat} {Inv:Nat→World→Prop} {k:Nat} {m:Int} {w w':World} (hm:m=((k+1:Nat):Int)) (hk:k < N) (h:Inv (k+1) w'):Z7z N Inv m w'∧ZGH N m w' < ZGH N (k:Int) w:=by
 subst hm
 exact ⟨⟨k+1,rfl,hk,h⟩,by simp only [ZGH]; omega⟩

end Go.Vcg
end
section
namespace Go.Vcg

def ZS (n:Nat) (f:Nat→Value):Array Value:=Array.ofFn (n:=n) fun i=>f i
@[simp] theorem Z06 (n:Nat) (f):(ZS n f).size=n:=by simp [ZS]
theorem ZAB (n:Nat) (f) (i:Nat):(ZS n f)[i]?=if i < n then some (f i) else none:=by
 simp [ZS,Array.getElem?_ofFn]
theorem ZF {n:Nat} {f} {i:Nat} (h:i < n):(ZS n f)[i]?=some (f i):=by rw [ZAB,if_pos h]
theorem ZG {n:Nat} {f g:Nat→Value} (h:∀i,i < n→f i=g i):ZS n f=ZS n g:=by
 apply Array.ext <;> simp [ZS]
 exact fun i hi=>h i hi
theorem Z96 {n:Nat} {f:Nat→Value} {cs:Array Value} (hs:cs.size=n) (h:∀i,i < n→cs[i]?=some (f i)):cs=ZS n f:=by
 apply Array.ext
 ·simpa using hs
 ·intro i h1 h2
  have:=h i (by omega)
  rw [Array.getElem?_eq_getElem h1] at this
  simpa [ZS] using this
theorem Z0V (n:Nat) (f:Nat→Value) (i:Nat) (v:Value):(ZS n f).setIfInBounds i v=ZS n (fun j=>if j=i then v else f j):=by
 apply Array.ext
 ·simp
 ·intro j h1 h2
  simp only [ZS,Array.getElem_ofFn]
  rw [Array.getElem_setIfInBounds (by simpa using h1)]
  split <;> simp_all [eq_comm]
theorem Zn (n:Nat) (v:Value):Array.replicate n v=ZS n (fun _=>v):=by
 apply Array.ext <;> simp [ZS]

theorem ZAh (n o m:Nat) (f g:Nat→Value) (h:o+m≤n) :
  ((ZS n f).toList.take o++(ZS m g).toList++(ZS n f).toList.drop (o+m)).toArray=ZS n (fun i=>if i < o then f i else if i < o+m then g (i - o) else f i):=by
 have ef:∀n f,(ZS n f).toList=(List.range n).map f:=by
  intro n f
  apply List.ext_getElem?
  intro i
  rw [Array.getElem?_toList,ZAB,List.getElem?_map]
  by_cases hi:i < n
  ·rw [if_pos hi,List.getElem?_range hi]; rfl
  ·rw [if_neg hi,List.getElem?_eq_none (by simp; omega)]; rfl
 refine Z96 ?_ (fun i hi=>?_)
 ·simp [ef]; omega
 ·rw [List.getElem?_toArray,ef,ef]
  have l1:(List.take o ((List.range n).map f)).length=o:=by simp; omega
  have l2:(List.take o ((List.range n).map f)++(List.range m).map g).length=o+m:=by rw [List.length_append,l1]; simp
  by_cases h1:i < o
  ·rw [if_pos h1,List.append_assoc,List.getElem?_append_left (by omega),List.getElem?_take,if_pos h1,List.getElem?_map,List.getElem?_range hi]; rfl
  ·rw [if_neg h1]
   by_cases h2:i < o+m
   ·rw [if_pos h2,List.getElem?_append_left (by omega),List.getElem?_append_right (by omega),l1,List.getElem?_map,List.getElem?_range (by omega)]; rfl
   ·rw [if_neg h2,List.getElem?_append_right (by omega),l2,List.getElem?_drop,List.getElem?_map,show o+m+(i - (o+m))=i by omega,List.getElem?_range hi]; rfl

abbrev uI (x:BitVec 64):Int:=(x.toNat:Int)
abbrev uV (x:BitVec 64):Value:=.int .u64 (uI x)

theorem Z9H (x:BitVec 64):BitVec.ofInt 64 (uI x)=x:=by
 apply BitVec.eq_of_toNat_eq
 simp
theorem Z4l (n:Int):IntKind.wrap .u64 n=n % 18446744073709551616:=by
 simp [IntKind.wrap,IntKind.bits,IntKind.signed]
theorem ZAp (n:Nat) (h:n < 2 ^ 64):IntKind.wrap .u64 (n:Int)=n:=by
 rw [Z4l]; omega
theorem Z7x (x:BitVec 64):IntKind.wrap .u64 (uI x)=uI x:=ZAp _ x.isLt
theorem Z0h (x y:BitVec 64):bitsI .xor .u64 (uI x) (uI y)=uI (x ^^^ y):=by
 simp only [bitsI,IntKind.bits,Z9H]; exact Z7x _
theorem Z9q (x y:BitVec 64):bitsI .and .u64 (uI x) (uI y)=uI (x &&& y):=by
 simp only [bitsI,IntKind.bits,Z9H]; exact Z7x _
theorem Z5O (x y:BitVec 64):bitsI .or .u64 (uI x) (uI y)=uI (x ||| y):=by
 simp only [bitsI,IntKind.bits,Z9H]; exact Z7x _
theorem Z9r (x:BitVec 64):bitsI .xor .u64 18446744073709551615 (uI x)=uI (~~~ x):=by
 have:(18446744073709551615:Int)=uI (BitVec.allOnes 64):=by decide
 rw [this,Z0h]
 congr 2
theorem Z8p (x:BitVec 64) (n:Nat):shlI .u64 (uI x) (n:Int)=uI (x <<< n):=by
 unfold shlI
 rw [Z4l]
 show (x.toNat:Int) * 2 ^ (min (Int.toNat (n:Int)) 64) % 18446744073709551616=((x <<< n).toNat:Int)
 rw [Int.toNat_natCast,BitVec.toNat_shiftLeft,Nat.shiftLeft_eq]
 by_cases h:n≤64
 ·rw [Nat.min_eq_left h]
  have e:(2:Int) ^ n=((2 ^ n:Nat):Int):=by simp
  rw [e,← Int.natCast_mul]
  omega
 ·rw [Nat.min_eq_right (by omega)]
  have h0:x.toNat * 2 ^ n % 2 ^ 64=0:=by
   have h1:2 ^ n=2 ^ (n - 64) * 2 ^ 64:=by rw [← Nat.pow_add]; congr 1; omega
   rw [h1,← Nat.mul_assoc,Nat.mul_mod_left]
  rw [h0]
  omega
theorem ZCj (x:BitVec 64) (n:Nat) (k:IntKind) (hk:k.bits=64):shrI k (uI x) (n:Int)=uI (x >>> n):=by
 unfold shrI
 rw [hk,Int.toNat_natCast]
 show Int.fdiv (x.toNat:Int) (2 ^ (min n 64))=((x >>> n).toNat:Int)
 rw [BitVec.toNat_ushiftRight,Nat.shiftRight_eq_div_pow]
 have hx:=x.isLt
 have e:∀m:Nat,(2:Int) ^ m=((2 ^ m:Nat):Int):=by intro m; simp
 by_cases h:n≤64
 ·rw [Nat.min_eq_left h,e,Int.fdiv_eq_ediv_of_nonneg _ (Int.natCast_nonneg _),Int.natCast_ediv]
 ·rw [Nat.min_eq_right (by omega),e,Int.fdiv_eq_ediv_of_nonneg _ (Int.natCast_nonneg _),← Int.natCast_ediv]
  have h1:x.toNat / 2 ^ n=0:=Nat.div_eq_of_lt (Nat.lt_trans hx (Nat.pow_lt_pow_right (by decide) (by omega)))
  rw [h1,Nat.div_eq_of_lt hx]

theorem ZFq (n:Int):IntKind.wrap .i64 n=(n+9223372036854775808) % 18446744073709551616 - 9223372036854775808:=by
 unfold IntKind.wrap
 show (if (true && decide (n % 18446744073709551616≥9223372036854775808))=true then n % 18446744073709551616 - 18446744073709551616 else n % 18446744073709551616)=_
 simp only [Bool.true_and,decide_eq_true_eq]
 split <;> omega
theorem Z0 {n:Int} (h: -9223372036854775808≤n) (h':n < 9223372036854775808):IntKind.wrap .i64 n=n:=by
 rw [ZFq]; omega

theorem Z2N (a b:Int) (h:0≤a):Int.tmod a b=a % b:=Int.tmod_eq_emod_of_nonneg h

abbrev St:=Nat→BitVec 64
def lanesA (s:St):Array Value:=ZS 25 (fun i=>uV (s i))
theorem ZL (s:St):(lanesA s).size=25:=Z06 _ _
theorem Z2u {n:Nat} {f:Nat→Value} (h:∀i,(f i).oneCell'=true):∀v∈(ZS n f).toList,v.oneCell'=true:=by
 intro v hv
 simp only [ZS,Array.mem_toList_iff,Array.mem_ofFn] at hv
 obtain ⟨i,rfl⟩:=hv
 exact h i
theorem Z1d (s:St):∀v∈(lanesA s).toList,v.oneCell'=true:=Z2u (fun _=>rfl)
theorem ZAK {s r:St} (h:∀i,i < 25→s i=r i):lanesA s=lanesA r:=ZG (fun i hi=>by rw [h i hi])
theorem ZY (s:St) {i:Nat} (h:i < 25):(lanesA s)[i]?=some (uV (s i)):=ZF h

def ZEv:List Nat:=[0,1,62,28,27,36,44,6,55,20,3,10,43,25,39,41,45,15,21,8,18,2,61,56,14]
def turnOf (i:Nat):Nat:=ZEv.getD i 0
def rcL:List (BitVec 64):=[0x0000000000000001,0x0000000000008082,0x800000000000808a,0x8000000080008000,0x000000000000808b,0x0000000080000001,0x8000000080008081,0x8000000000008009,0x000000000000008a,0x0000000000000088,0x0000000080008009,0x000000008000000a,0x000000008000808b,0x800000000000008b,0x8000000000008089,0x8000000000008003,0x8000000000008002,0x8000000000000080,0x000000000000800a,0x800000008000000a,0x8000000080008081,0x8000000000008080,0x0000000080000001,0x8000000080008008]
def ZDQ (i:Nat):BitVec 64:=rcL.getD i 0
theorem ZAi (i:Nat):turnOf i < 64:=by
 unfold turnOf
 by_cases h:i < 25
 ·have:∀i,i < 25→ZEv.getD i 0 < 64:=by decide
  exact this i h
 ·rw [List.getD_eq_getElem?_getD,List.getElem?_eq_none (by simp [ZEv]; omega)]; simp

def ZDO (s:St) (x:Nat):Nat→BitVec 64
 | 0=>0
 | k+1=>ZDO s x k ^^^ s (x+5 * k)
def par (s:St) (x:Nat):BitVec 64:=ZDO s x 5
def ddK (s:St) (x:Nat):BitVec 64:=par s ((x+4) % 5) ^^^ (par s ((x+1) % 5)).rotateLeft 1
def bbXY (s:St) (x y:Nat):BitVec 64:=(s (x+5 * y) ^^^ ddK s x).rotateLeft (turnOf (x+5 * y))
def bbK (s:St) (j:Nat):BitVec 64:=bbXY s ((j % 5+3 * (j / 5)) % 5) (j % 5)
def Z55 (b:St) (j:Nat):BitVec 64:=b j ^^^ (~~~ b ((j % 5+1) % 5+5 * (j / 5)) &&& b ((j % 5+2) % 5+5 * (j / 5)))
def rnd (n:Nat) (s:St):St:=fun j=>if j=0 then Z55 (bbK s) 0 ^^^ ZDQ n else Z55 (bbK s) j
def Z29:Nat→St→St
 | 0,s=>s
 | n+1,s=>rnd n (Z29 n s)
def Z6B (s:St):St:=Z29 24 s

def regOf:Nat→Nat
 | 0=>1
 | k+1=>if 2 * regOf k > 255 then (2 * regOf k - 256) ^^^ 0x71 else 2 * regOf k
def Z5j (i:Nat):Nat→BitVec 64
 | 0=>0
 | j+1=>Z5j i j ||| ((if regOf (7 * i+j) % 2=1 then (1:BitVec 64) else 0) <<< (2 ^ j - 1))
def Z4P (i:Nat):Nat→BitVec 64
 | 0=>0
 | j+1=>Z4P i j ^^^ ((if regOf (7 * i+j) % 2=1 then (1:BitVec 64) else 0) <<< (2 ^ j - 1))
def Z7y:Nat→Nat×Nat
 | 0=>(1,0)
 | t+1=>((Z7y t).2,(2 * (Z7y t).1+3 * (Z7y t).2) % 5)
def tarr:Nat→Nat→Nat
 | 0=>fun _=>0
 | t+1=>fun j=>if j=(Z7y t).1+5 * (Z7y t).2 then (t+1) * (t+2) / 2 % 64 else tarr t j

theorem ZGC:∀k:Nat,k < 169→regOf k < 256:=by decide +kernel
theorem ZDI:∀i:Nat,i < 24→Z5j i 7=ZDQ i:=by decide +kernel
theorem ZEZ:∀i:Nat,i < 24→Z4P i 7=ZDQ i:=by decide +kernel
theorem ZI6:∀t:Nat,t < 25→(Z7y t).1 < 5∧(Z7y t).2 < 5:=by decide +kernel
theorem ZCm:∀j:Nat,j < 25→tarr 24 j=turnOf j:=by decide +kernel
theorem ZCd:∀k:Nat,k < 168→(regOf k * 2 > 255→bitsI .xor .i64 ((regOf k * 2 - 256:Nat):Int) 113=(regOf (k+1):Int)):=by decide +kernel
theorem ZAb (k:Nat) (h:¬regOf k * 2 > 255):regOf (k+1)=regOf k * 2:=by
 rw [regOf,if_neg (by omega)]; omega
theorem ZH3:∀k:Nat,k < 168→bitsI .and .i64 (regOf k:Int) 1=(regOf k % 2:Nat):=by decide +kernel
theorem ZGB:∀j:Nat,j < 7→IntKind.wrap .u64 (shlI .u64 1 (j:Int) - 1)=((2 ^ j - 1:Nat):Int):=by decide +kernel
theorem ZCn:∀t:Nat,t < 24→Int.tmod (IntKind.wrap .i64 (Int.tdiv (IntKind.wrap .i64 ((IntKind.wrap .i64 ((t:Int)+1)) * (IntKind.wrap .i64 ((t:Int)+2)))) 2)) 64=(((t+1) * (t+2) / 2 % 64:Nat):Int):=by decide +kernel

end Go.Vcg
end
