/- The verification conditions of some functions, printed by a program of ours (wip/PrintVc.lean). -/
/- Contracts: remove, pruned. -/
/- Hashes as keys of maps; rows of nodes with their hashes. -/
/- Contracts: Nodes, its closure. -/
/- Contracts: New, Empty, Root, Put, Delete, Nodes. -/
/- Contracts: Nodes; bounds on how many nodes there are. -/
/- Contracts: Nodes. -/
/- Sorted entries and the canonical trie that they make: plain Lean. -/
/- Contracts of the reference: comparison, heads, strings, lists, nibbles. -/
/- Contracts of the reference: Pack; a node that is laid down. -/
import Derived.Test.YtfghidehlnfdiaaGreatXMem
import Derived.Test.YtfghidehlnfdiaaGreatProg
import Derived.KernelRfl
import Derived.Test.YtfghidehlnfdiaaGreatTP17
import Derived.Test.YtfghidehlnfdiaaGreatTP1
import Derived.Maps.Keyed
import Derived.DeepKeys5
set_option linter.unusedVariables false
set_option linter.unusedSimpArgs false
section
namespace Go.Proofs.YtfghidehlnfdiaaGreat
open Go Go.Vcg
abbrev moraineref2_Bytes.n:Nat:=23
def moraineref2_Bytes.Vc (o0:Option Addr) (l0 c0:Nat) (o1:Option Addr) (l1 c1:Nat) (w:World) (R:Ending→World→Prop):Prop :=
 ∃(J2:World→Prop),(∃(I3:Int→World→Prop) (μ3:Int→World→Nat),I3 0 w ∧
 (∀(n4:Int) (j5:Nat→Value) (w5:World),I3 n4 w5 →
 (((n4 < ((l0:Nat):Int) →
 (((n4 < ((l1:Nat):Int) →
 ∀w6,IsDrew w5 w6 →
 ∃d7,o0=some d7 ∧
 ((0:Int)≤n4∧n4 < ((l0:Nat):Int)) ∧
 ∃n8,World.cell? w6 (Addr.add d7 (Int.toNat n4))=some (.int .u8 n8) ∧
 ∃d9,o1=some d9 ∧
 ((0:Int)≤n4∧n4 < ((l1:Nat):Int)) ∧
 ∃n10,World.cell? w6 (Addr.add d9 (Int.toNat n4))=some (.int .u8 n10) ∧
 (((n8≠n10 →
 ∀w11,IsDrew w6 w11 →
 ∃d12,o0=some d12 ∧
 ((0:Int)≤n4∧n4 < ((l0:Nat):Int)) ∧
 ∃n13,World.cell? w11 (Addr.add d12 (Int.toNat n4))=some (.int .u8 n13) ∧
 ∃d14,o1=some d14 ∧
 ((0:Int)≤n4∧n4 < ((l1:Nat):Int)) ∧
 ∃n15,World.cell? w11 (Addr.add d14 (Int.toNat n4))=some (.int .u8 n15) ∧
 (((n13 < n15 →
 R (.returned (.int .i64 (-1))) w11)) ∧
 ((¬n13 < n15 →
 R (.returned (.int .i64 1)) w11))))) ∧
 ((n8=n10 →
 I3 (IntKind.wrap .i64 (n4+1)) w6∧μ3 (IntKind.wrap .i64 (n4+1)) w6 < μ3 n4 w5))))) ∧
 ((¬n4 < ((l1:Nat):Int) →
 J2  w5))))) ∧
 ((¬n4 < ((l0:Nat):Int) →
 J2  w5))))) ∧
 (∀  (j16:Nat→Value) (w16:World),J2  w16 →
 (((((l0:Nat):Int) < ((l1:Nat):Int) →
 R (.returned (.int .i64 (-1))) w16)) ∧
 ((¬((l0:Nat):Int) < ((l1:Nat):Int) →
 (((((l0:Nat):Int) > ((l1:Nat):Int) →
 R (.returned (.int .i64 1)) w16)) ∧
 ((¬((l0:Nat):Int) > ((l1:Nat):Int) →
 R (.returned (.int .i64 0)) w16)))))))
theorem moraineref2_Bytes.vc (o0:Option Addr) (l0:Nat) (c0:Nat) (o1:Option Addr) (l1:Nat) (c1:Nat) (w:World) (R:Ending→World→Prop) (h:moraineref2_Bytes.Vc o0 l0 c0 o1 l1 c1 w R):Calls Tryz.prog 23 #[(.slice o0 l0 c0),(.slice o1 l1 c1)] w R :=
 execF_sound (R:=⟨R,false⟩) (ann:=[(1000008,[]),(2,[(5,.cell (.int .i64))])]) (args:=[.slice o0 l0 c0,.slice o1 l1 c1]) Tryz.func23 mixed (Eq.mp (by kernel_rfl:moraineref2_Bytes.Vc o0 l0 c0 o1 l1 c1 w R=execF (pA Tryz.prog ⟨R,false⟩) Tryz.prog [(1000008,[]),(2,[(5,.cell (.int .i64))])] Tryz.f23 [.slice o0 l0 c0,.slice o1 l1 c1] w) h)

abbrev moraineref4_head.n:Nat:=114
def moraineref4_head.Vc (n0 n1:Int) (w:World) (R:Ending→World→Prop):Prop :=
 (((n1≤55 →
 ∀d2 w3,IsNew w 5 #[(.int .u8 (IntKind.wrap .u8 (IntKind.wrap .i64 (n0+n1))))] d2 w3 →
 R (.returned (.slice (some d2) 1 1)) w3)) ∧
 ((¬n1≤55 →
 ∃(I4:Option Addr→Nat→Nat→Int→World→Prop) (μ4:Option Addr→Nat→Nat→Int→World→Nat),I4 none 0 0 n1 w ∧
 (∀(o5:Option Addr) (l5:Nat) (c5:Nat) (n6:Int) (j7:Nat→Value) (w7:World),I4 o5 l5 c5 n6 w7 →
 (((n6 > 0 →
 ∀d8 w9,IsNew w7 5 #[(.int .u8 (IntKind.wrap .u8 (Int.tmod n6 256)))] d8 w9 →
 ∃v10 w11,Sem.run Tryz.prog (builtinV .append #[23,23] 23 #[(.slice (some d8) 1 1),(.slice o5 l5 c5)]) w9=.ok v10 w11 ∧
 ∃o12 l13 l14,v10=(.slice o12 l13 l14) ∧
 I4 o12 l13 l14 (IntKind.wrap .i64 (Int.tdiv n6 256)) w11∧μ4 o12 l13 l14 (IntKind.wrap .i64 (Int.tdiv n6 256)) w11 < μ4 o5 l5 c5 n6 w7)) ∧
 ((¬n6 > 0 →
 ∀d15 w16,IsNew w7 5 #[(.int .u8 (IntKind.wrap .u8 (IntKind.wrap .i64 ((IntKind.wrap .i64 (n0+55))+((l5:Nat):Int)))))] d15 w16 →
 ∃v17 w18,Sem.run Tryz.prog (builtinV .append #[23,23] 23 #[(.slice (some d15) 1 1),(.slice o5 l5 c5)]) w16=.ok v17 w18 ∧
 ∃o19 l20 l21,v17=(.slice o19 l20 l21) ∧
 R (.returned (.slice o19 l20 l21)) w18)))))))
theorem moraineref4_head.vc (n0:Int) (n1:Int) (w:World) (R:Ending→World→Prop) (h:moraineref4_head.Vc n0 n1 w R):Calls Tryz.prog 114 #[(.int .i64 n0),(.int .i64 n1)] w R :=
 execF_sound (R:=⟨R,false⟩) (ann:=[(5,[(5,.cell (.slice)),(6,.cell (.int .i64))])]) (args:=[.int .i64 n0,.int .i64 n1]) Tryz.func114 mixed (Eq.mp (by kernel_rfl:moraineref4_head.Vc n0 n1 w R=execF (pA Tryz.prog ⟨R,false⟩) Tryz.prog [(5,[(5,.cell (.slice)),(6,.cell (.int .i64))])] Tryz.f114 [.int .i64 n0,.int .i64 n1] w) h)

abbrev moraineref4_Bytes.n:Nat:=109
def moraineref4_Bytes.Vc (o0:Option Addr) (l0 c0:Nat) (w:World) (R:Ending→World→Prop):Prop :=
 (((((l0:Nat):Int)=1 →
 ∃d1,o0=some d1 ∧
 ((0:Int)≤0∧0 < ((l0:Nat):Int)) ∧
 ∃n2,World.cell? w (Addr.add d1 0)=some (.int .u8 n2) ∧
 (((n2 < 128 →
 ∃d3,o0=some d3 ∧
 ((0:Int)≤0∧0 < ((l0:Nat):Int)) ∧
 ∃n4,World.cell? w (Addr.add d3 0)=some (.int .u8 n4) ∧
 ∀d5 w6,IsNew w 5 #[(.int .u8 n4)] d5 w6 →
 R (.returned (.slice (some d5) 1 1)) w6)) ∧
 ((¬n2 < 128 →
 Calls Tryz.prog 114 #[(.int .i64 128),(.int .i64 ((l0:Nat):Int))] w (fun e7 w8 =>
 ∃o9 l10 l11,e7=.returned (.slice o9 l10 l11) ∧
 ∃v12 w13,Sem.run Tryz.prog (builtinV .append #[23,23] 23 #[(.slice o9 l10 l11),(.slice o0 l0 c0)]) w8=.ok v12 w13 ∧
 ∃o14 l15 l16,v12=(.slice o14 l15 l16) ∧
 R (.returned (.slice o14 l15 l16)) w13)))))) ∧
 ((((l0:Nat):Int)≠1 →
 Calls Tryz.prog 114 #[(.int .i64 128),(.int .i64 ((l0:Nat):Int))] w (fun e17 w18 =>
 ∃o19 l20 l21,e17=.returned (.slice o19 l20 l21) ∧
 ∃v22 w23,Sem.run Tryz.prog (builtinV .append #[23,23] 23 #[(.slice o19 l20 l21),(.slice o0 l0 c0)]) w18=.ok v22 w23 ∧
 ∃o24 l25 l26,v22=(.slice o24 l25 l26) ∧
 R (.returned (.slice o24 l25 l26)) w23))))
theorem moraineref4_Bytes.vc (o0:Option Addr) (l0:Nat) (c0:Nat) (w:World) (R:Ending→World→Prop) (h:moraineref4_Bytes.Vc o0 l0 c0 w R):Calls Tryz.prog 109 #[(.slice o0 l0 c0)] w R :=
 execF_sound (R:=⟨R,false⟩) (ann:=[]) (args:=[.slice o0 l0 c0]) Tryz.func109 mixed (Eq.mp (by kernel_rfl:moraineref4_Bytes.Vc o0 l0 c0 w R=execF (pA Tryz.prog ⟨R,false⟩) Tryz.prog [] Tryz.f109 [.slice o0 l0 c0] w) h)

abbrev moraineref4_List.n:Nat:=89
def moraineref4_List.Vc (o0:Option Addr) (l0 c0:Nat) (w:World) (R:Ending→World→Prop):Prop :=
 Calls Tryz.prog 114 #[(.int .i64 192),(.int .i64 ((l0:Nat):Int))] w (fun e1 w2 =>
 ∃o3 l4 l5,e1=.returned (.slice o3 l4 l5) ∧
 ∃v6 w7,Sem.run Tryz.prog (builtinV .append #[23,23] 23 #[(.slice o3 l4 l5),(.slice o0 l0 c0)]) w2=.ok v6 w7 ∧
 ∃o8 l9 l10,v6=(.slice o8 l9 l10) ∧
 R (.returned (.slice o8 l9 l10)) w7)
theorem moraineref4_List.vc (o0:Option Addr) (l0:Nat) (c0:Nat) (w:World) (R:Ending→World→Prop) (h:moraineref4_List.Vc o0 l0 c0 w R):Calls Tryz.prog 89 #[(.slice o0 l0 c0)] w R :=
 execF_sound (R:=⟨R,false⟩) (ann:=[]) (args:=[.slice o0 l0 c0]) Tryz.func89 mixed (Eq.mp (by kernel_rfl:moraineref4_List.Vc o0 l0 c0 w R=execF (pA Tryz.prog ⟨R,false⟩) Tryz.prog [] Tryz.f89 [.slice o0 l0 c0] w) h)

abbrev moraineref14_str.n:Nat:=90
def moraineref14_str.Vc (o0:Option Addr) (l0 c0:Nat) (w:World) (R:Ending→World→Prop):Prop :=
 Calls Tryz.prog 109 #[(.slice o0 l0 c0)] w (fun e1 w2 =>
 ∃o3 l4 l5,e1=.returned (.slice o3 l4 l5) ∧
 R (.returned (.slice o3 l4 l5)) w2)
theorem moraineref14_str.vc (o0:Option Addr) (l0:Nat) (c0:Nat) (w:World) (R:Ending→World→Prop) (h:moraineref14_str.Vc o0 l0 c0 w R):Calls Tryz.prog 90 #[(.slice o0 l0 c0)] w R :=
 execF_sound (R:=⟨R,false⟩) (ann:=[]) (args:=[.slice o0 l0 c0]) Tryz.func90 mixed (Eq.mp (by kernel_rfl:moraineref14_str.Vc o0 l0 c0 w R=execF (pA Tryz.prog ⟨R,false⟩) Tryz.prog [] Tryz.f90 [.slice o0 l0 c0] w) h)

abbrev moraineref14_Nibbles.n:Nat:=54
def moraineref14_Nibbles.Vc (o0:Option Addr) (l0 c0:Nat) (w:World) (R:Ending→World→Prop):Prop :=
 ∃(I1:Option Addr→Nat→Nat→Int→World→Prop) (μ1:Option Addr→Nat→Nat→Int→World→Nat),I1 none 0 0 0 w ∧
 (∀(o2:Option Addr) (l2:Nat) (c2:Nat) (n3:Int) (j4:Nat→Value) (w4:World),I1 o2 l2 c2 n3 w4 →
 (((n3 < ((l0:Nat):Int) →
 ∀w5,IsDrew w4 w5 →
 ∃d6,o0=some d6 ∧
 ((0:Int)≤n3∧n3 < ((l0:Nat):Int)) ∧
 ∃n7,World.cell? w5 (Addr.add d6 (Int.toNat n3))=some (.int .u8 n7) ∧
 ∃d8,o0=some d8 ∧
 ((0:Int)≤n3∧n3 < ((l0:Nat):Int)) ∧
 ∃n9,World.cell? w5 (Addr.add d8 (Int.toNat n3))=some (.int .u8 n9) ∧
 ∀d10 w11,IsNew w5 5 #[(.int .u8 (IntKind.wrap .u8 (Int.tdiv n7 16))),(.int .u8 (Int.tmod n9 16))] d10 w11 →
 ∃v12 w13,Sem.run Tryz.prog (builtinV .append #[23,23] 23 #[(.slice o2 l2 c2),(.slice (some d10) 2 2)]) w11=.ok v12 w13 ∧
 ∃o14 l15 l16,v12=(.slice o14 l15 l16) ∧
 I1 o14 l15 l16 (IntKind.wrap .i64 (n3+1)) w13∧μ1 o14 l15 l16 (IntKind.wrap .i64 (n3+1)) w13 < μ1 o2 l2 c2 n3 w4)) ∧
 ((¬n3 < ((l0:Nat):Int) →
 R (.returned (.slice o2 l2 c2)) w4))))
theorem moraineref14_Nibbles.vc (o0:Option Addr) (l0:Nat) (c0:Nat) (w:World) (R:Ending→World→Prop) (h:moraineref14_Nibbles.Vc o0 l0 c0 w R):Calls Tryz.prog 54 #[(.slice o0 l0 c0)] w R :=
 execF_sound (R:=⟨R,false⟩) (ann:=[(3,[(3,.cell (.slice)),(4,.cell (.int .i64))])]) (args:=[.slice o0 l0 c0]) Tryz.func54 mixed (Eq.mp (by kernel_rfl:moraineref14_Nibbles.Vc o0 l0 c0 w R=execF (pA Tryz.prog ⟨R,false⟩) Tryz.prog [(3,[(3,.cell (.slice)),(4,.cell (.int .i64))])] Tryz.f54 [.slice o0 l0 c0] w) h)

abbrev moraineref14_Pack.n:Nat:=88
def moraineref14_Pack.Vc (o0:Option Addr) (l0 c0:Nat) (b1:Bool) (w:World) (R:Ending→World→Prop):Prop :=
 (((((l0:Nat):Int) > 128 →
 R (.returned (.tuple #[(.slice none 0 0),(.int .i64 140)])) w)) ∧
 ((¬((l0:Nat):Int) > 128 →
 ∃(I2:Int→World→Prop) (μ2:Int→World→Nat),I2 0 w ∧
 (∀(n3:Int) (j4:Nat→Value) (w4:World),I2 n3 w4 →
 (((n3 < ((l0:Nat):Int) →
 ∃d5,o0=some d5 ∧
 ((0:Int)≤n3∧n3 < ((l0:Nat):Int)) ∧
 ∃n6,World.cell? w4 (Addr.add d5 (Int.toNat n3))=some (.int .u8 n6) ∧
 (((n6 > 15 →
 R (.returned (.tuple #[(.slice none 0 0),(.int .i64 140)])) w4)) ∧
 ((¬n6 > 15 →
 I2 (IntKind.wrap .i64 (n3+1)) w4∧μ2 (IntKind.wrap .i64 (n3+1)) w4 < μ2 n3 w4))))) ∧
 ((¬n3 < ((l0:Nat):Int) →
 ∃(J7:Int→World→Prop),((((b1=true →
 J7 2 w4)) ∧
 ((b1=false →
 J7 0 w4)))) ∧
 (∀(n8:Int) (j9:Nat→Value) (w9:World),J7 n8 w9 →
 ∀d10 w11,IsNew w9 5 #[(.int .u8 n8),(.int .u8 0)] d10 w11 →
 ∃(J12:Option Addr→Nat→Nat→World→Prop),(((((Int.tmod ((l0:Nat):Int) 2)=1 →
 ∀d13 w14,IsNew w11 5 #[(.int .u8 (IntKind.wrap .u8 (n8+1)))] d13 w14 →
 J12 (some d13) 1 1 w14)) ∧
 (((Int.tmod ((l0:Nat):Int) 2)≠1 →
 J12 (some d10) 2 2 w11)))) ∧
 (∀(o15:Option Addr) (l15:Nat) (c15:Nat) (j16:Nat→Value) (w16:World),J12 o15 l15 c15 w16 →
 ∃v17 w18,Sem.run Tryz.prog (builtinV .append #[23,23] 23 #[(.slice o15 l15 c15),(.slice o0 l0 c0)]) w16=.ok v17 w18 ∧
 ∃o19 l20 l21,v17=(.slice o19 l20 l21) ∧
 ∃(I22:Option Addr→Nat→Nat→Int→World→Prop) (μ22:Option Addr→Nat→Nat→Int→World→Nat),I22 none 0 0 0 w18 ∧
 (∀(o23:Option Addr) (l23:Nat) (c23:Nat) (n24:Int) (j25:Nat→Value) (w25:World),I22 o23 l23 c23 n24 w25 →
 (((n24 < ((l20:Nat):Int) →
 ∀w26,IsDrew w25 w26 →
 ∃d27,o19=some d27 ∧
 ((0:Int)≤n24∧n24 < ((l20:Nat):Int)) ∧
 ∃n28,World.cell? w26 (Addr.add d27 (Int.toNat n24))=some (.int .u8 n28) ∧
 ∃d29,o19=some d29 ∧
 ((0:Int)≤(IntKind.wrap .i64 (n24+1))∧(IntKind.wrap .i64 (n24+1)) < ((l20:Nat):Int)) ∧
 ∃n30,World.cell? w26 (Addr.add d29 (Int.toNat (IntKind.wrap .i64 (n24+1))))=some (.int .u8 n30) ∧
 ∀d31 w32,IsNew w26 5 #[(.int .u8 (IntKind.wrap .u8 ((IntKind.wrap .u8 (16 * n28))+n30)))] d31 w32 →
 ∃v33 w34,Sem.run Tryz.prog (builtinV .append #[23,23] 23 #[(.slice o23 l23 c23),(.slice (some d31) 1 1)]) w32=.ok v33 w34 ∧
 ∃o35 l36 l37,v33=(.slice o35 l36 l37) ∧
 I22 o35 l36 l37 (IntKind.wrap .i64 (n24+2)) w34∧μ22 o35 l36 l37 (IntKind.wrap .i64 (n24+2)) w34 < μ22 o23 l23 c23 n24 w25)) ∧
 ((¬n24 < ((l20:Nat):Int) →
 R (.returned (.tuple #[(.slice o23 l23 c23),(.int .i64 0)])) w25)))))))))))))
theorem moraineref14_Pack.vc (o0:Option Addr) (l0:Nat) (c0:Nat) (b1:Bool) (w:World) (R:Ending→World→Prop) (h:moraineref14_Pack.Vc o0 l0 c0 b1 w R):Calls Tryz.prog 88 #[(.slice o0 l0 c0),(.bool b1)] w R :=
 execF_sound (R:=⟨R,false⟩) (ann:=[(4,[(6,.cell (.int .i64))]),(1000011,[(7,.cell (.int .u8))]),(1000014,[(8,.cell (.slice))]),(17,[(9,.cell (.slice)),(10,.cell (.int .i64))])]) (args:=[.slice o0 l0 c0,.bool (.var b1)]) Tryz.func88 mixed (Eq.mp (by kernel_rfl:moraineref14_Pack.Vc o0 l0 c0 b1 w R=execF (pA Tryz.prog ⟨R,false⟩) Tryz.prog [(4,[(6,.cell (.int .i64))]),(1000011,[(7,.cell (.int .u8))]),(1000014,[(8,.cell (.slice))]),(17,[(9,.cell (.slice)),(10,.cell (.int .i64))])] Tryz.f88 [.slice o0 l0 c0,.bool (.var b1)] w) h)

abbrev moraineref14_Empty.n:Nat:=40
def moraineref14_Empty.Vc  (w:World) (R:Ending→World→Prop):Prop :=
 ∀d0 w1,IsNew w 27 (Array.replicate 32 (.int .u8 0)) d0 w1 →
 ∀d2 w3,IsNew w1 5 #[(.int .u8 128)] d2 w3 →
 Calls Tryz.prog 56 #[(.slice (some d2) 1 1)] w3 (fun e4 w5 =>
 ∃L6,e4=.returned (.agg L6) ∧
 ∃w7,Sem.run Tryz.prog (Instr.storeAt 27 (.pointer (some d0)) (.agg L6)) w5=.ok () w7 ∧
 ∃L8,RowAt w7 d0 32 L8 ∧
 R (.returned (.agg L8)) w7)
theorem moraineref14_Empty.vc  (w:World) (R:Ending→World→Prop) (h:moraineref14_Empty.Vc w R):Calls Tryz.prog 40 #[] w R :=
 execF_sound (R:=⟨R,false⟩) (ann:=[]) (args:=[]) Tryz.func40 mixed (Eq.mp (by kernel_rfl:moraineref14_Empty.Vc w R=execF (pA Tryz.prog ⟨R,false⟩) Tryz.prog [] Tryz.f40 [] w) h)

abbrev moraineref14_build_item.n:Nat:=55
def moraineref14_build_item.Vc (d0:Addr) (n1 n2 n3:Int) (w:World) (R:Ending→World→Prop):Prop :=
 (((n2=(IntKind.wrap .i64 (n1+1)) →
 ∃o4 l5 l6,World.cell? w (Addr.add d0 1)=some (.slice o4 l5 l6) ∧
 ∃d7,o4=some d7 ∧
 ((0:Int)≤n1∧n1 < ((l5:Nat):Int)) ∧
 ∃o8 l9 l10,World.cell? w (Addr.add d7 (Int.toNat n1))=some (.slice o8 l9 l10) ∧
 ((0:Int)≤n3∧n3≤((l9:Nat):Int)) ∧
 Calls Tryz.prog 88 #[(.slice (subO o8 l10 (Int.toNat n3) 1) (l9 - (Int.toNat n3)) (l10 - (Int.toNat n3))),(.bool true)] w (fun e11 w12 =>
 ∃o13 l14 l15 n16,e11=.returned (.tuple #[(.slice o13 l14 l15),(.int .i64 n16)]) ∧
 ∀w17,IsDrew w12 w17 →
 ∃o18 l19 l20,World.cell? w17 d0=some (.slice o18 l19 l20) ∧
 ∃d21,o18=some d21 ∧
 ((0:Int)≤n1∧n1 < ((l19:Nat):Int)) ∧
 ∃o22 l23 l24,World.cell? w17 (Addr.add (Addr.add d21 ((Int.toNat n1) * 2)) 1)=some (.slice o22 l23 l24) ∧
 Calls Tryz.prog 90 #[(.slice o13 l14 l15)] w17 (fun e25 w26 =>
 ∃o27 l28 l29,e25=.returned (.slice o27 l28 l29) ∧
 World.cell? w26 (Addr.add (Addr.add d21 ((Int.toNat n1) * 2)) 1)=some (.slice o22 l23 l24) ∧
 World.cell? w26 d0=some (.slice o18 l19 l20) ∧
 Calls Tryz.prog 90 #[(.slice o22 l23 l24)] w26 (fun e30 w31 =>
 ∃o32 l33 l34,e30=.returned (.slice o32 l33 l34) ∧
 ∃v35 w36,Sem.run Tryz.prog (builtinV .append #[23,23] 23 #[(.slice o27 l28 l29),(.slice o32 l33 l34)]) w31=.ok v35 w36 ∧
 ∃o37 l38 l39,v35=(.slice o37 l38 l39) ∧
 Calls Tryz.prog 89 #[(.slice o37 l38 l39)] w36 (fun e40 w41 =>
 ∃o42 l43 l44,e40=.returned (.slice o42 l43 l44) ∧
 R (.returned (.slice o42 l43 l44)) w41)))))) ∧
 ((n2≠(IntKind.wrap .i64 (n1+1)) →
 ∃(J45:Int→World→Prop),(∃(I46:Int→World→Prop) (μ46:Int→World→Nat),I46 0 w ∧
 (∀(n47:Int) (j48:Nat→Value) (w48:World),I46 n47 w48 →
 ∀w49,IsDrew w48 w49 →
 ∃o50 l51 l52,World.cell? w49 (Addr.add d0 1)=some (.slice o50 l51 l52) ∧
 ∃d53,o50=some d53 ∧
 ((0:Int)≤n1∧n1 < ((l51:Nat):Int)) ∧
 ∃o54 l55 l56,World.cell? w49 (Addr.add d53 (Int.toNat n1))=some (.slice o54 l55 l56) ∧
 (((((l55:Nat):Int) > (IntKind.wrap .i64 (n3+n47)) →
 ∃o57 l58 l59,World.cell? w49 (Addr.add d0 1)=some (.slice o57 l58 l59) ∧
 ∃d60,o57=some d60 ∧
 ((0:Int)≤(IntKind.wrap .i64 (n2 - 1))∧(IntKind.wrap .i64 (n2 - 1)) < ((l58:Nat):Int)) ∧
 ∃o61 l62 l63,World.cell? w49 (Addr.add d60 (Int.toNat (IntKind.wrap .i64 (n2 - 1))))=some (.slice o61 l62 l63) ∧
 (((((l62:Nat):Int) > (IntKind.wrap .i64 (n3+n47)) →
 ∃o64 l65 l66,World.cell? w49 (Addr.add d0 1)=some (.slice o64 l65 l66) ∧
 ∃d67,o64=some d67 ∧
 ((0:Int)≤n1∧n1 < ((l65:Nat):Int)) ∧
 ∃o68 l69 l70,World.cell? w49 (Addr.add d67 (Int.toNat n1))=some (.slice o68 l69 l70) ∧
 ∃d71,o68=some d71 ∧
 ((0:Int)≤(IntKind.wrap .i64 (n3+n47))∧(IntKind.wrap .i64 (n3+n47)) < ((l69:Nat):Int)) ∧
 ∃n72,World.cell? w49 (Addr.add d71 (Int.toNat (IntKind.wrap .i64 (n3+n47))))=some (.int .u8 n72) ∧
 ∃o73 l74 l75,World.cell? w49 (Addr.add d0 1)=some (.slice o73 l74 l75) ∧
 ∃d76,o73=some d76 ∧
 ((0:Int)≤(IntKind.wrap .i64 (n2 - 1))∧(IntKind.wrap .i64 (n2 - 1)) < ((l74:Nat):Int)) ∧
 ∃o77 l78 l79,World.cell? w49 (Addr.add d76 (Int.toNat (IntKind.wrap .i64 (n2 - 1))))=some (.slice o77 l78 l79) ∧
 ∃d80,o77=some d80 ∧
 ((0:Int)≤(IntKind.wrap .i64 (n3+n47))∧(IntKind.wrap .i64 (n3+n47)) < ((l78:Nat):Int)) ∧
 ∃n81,World.cell? w49 (Addr.add d80 (Int.toNat (IntKind.wrap .i64 (n3+n47))))=some (.int .u8 n81) ∧
 (((n72=n81 →
 I46 (IntKind.wrap .i64 (n47+1)) w49∧μ46 (IntKind.wrap .i64 (n47+1)) w49 < μ46 n47 w48)) ∧
 ((n72≠n81 →
 J45 n47 w49))))) ∧
 ((¬((l62:Nat):Int) > (IntKind.wrap .i64 (n3+n47)) →
 J45 n47 w49))))) ∧
 ((¬((l55:Nat):Int) > (IntKind.wrap .i64 (n3+n47)) →
 J45 n47 w49))))) ∧
 (∀(n82:Int) (j83:Nat→Value) (w83:World),J45 n82 w83 →
 (((n82 > 0 →
 ∃o84 l85 l86,World.cell? w83 (Addr.add d0 1)=some (.slice o84 l85 l86) ∧
 ∃d87,o84=some d87 ∧
 ((0:Int)≤n1∧n1 < ((l85:Nat):Int)) ∧
 ∃o88 l89 l90,World.cell? w83 (Addr.add d87 (Int.toNat n1))=some (.slice o88 l89 l90) ∧
 ((0:Int)≤(IntKind.wrap .i64 (n3+n82))∧(IntKind.wrap .i64 (n3+n82))≤((l90:Nat):Int)) ∧
 ((0:Int)≤n3∧n3≤(((Int.toNat (IntKind.wrap .i64 (n3+n82))):Nat):Int)) ∧
 Calls Tryz.prog 88 #[(.slice (subO o88 l90 (Int.toNat n3) 1) ((Int.toNat (IntKind.wrap .i64 (n3+n82))) - (Int.toNat n3)) (l90 - (Int.toNat n3))),(.bool false)] w83 (fun e91 w92 =>
 ∃o93 l94 l95 n96,e91=.returned (.tuple #[(.slice o93 l94 l95),(.int .i64 n96)]) ∧
 Calls Tryz.prog 90 #[(.slice o93 l94 l95)] w92 (fun e97 w98 =>
 ∃o99 l100 l101,e97=.returned (.slice o99 l100 l101) ∧
 Calls Tryz.prog 91 #[(.pointer (some d0)),(.int .i64 n1),(.int .i64 n2),(.int .i64 (IntKind.wrap .i64 (n3+n82)))] w98 (fun e102 w103 =>
 ∃o104 l105 l106,e102=.returned (.slice o104 l105 l106) ∧
 ∃v107 w108,Sem.run Tryz.prog (builtinV .append #[23,23] 23 #[(.slice o99 l100 l101),(.slice o104 l105 l106)]) w103=.ok v107 w108 ∧
 ∃o109 l110 l111,v107=(.slice o109 l110 l111) ∧
 Calls Tryz.prog 89 #[(.slice o109 l110 l111)] w108 (fun e112 w113 =>
 ∃o114 l115 l116,e112=.returned (.slice o114 l115 l116) ∧
 R (.returned (.slice o114 l115 l116)) w113)))))) ∧
 ((¬n82 > 0 →
 ∃(J117:Int→Option Addr→Nat→Nat→World→Prop),(∃o118 l119 l120,World.cell? w83 (Addr.add d0 1)=some (.slice o118 l119 l120) ∧
 ∃d121,o118=some d121 ∧
 ((0:Int)≤n1∧n1 < ((l119:Nat):Int)) ∧
 ∃o122 l123 l124,World.cell? w83 (Addr.add d121 (Int.toNat n1))=some (.slice o122 l123 l124) ∧
 (((((l123:Nat):Int)=n3 →
 ∃o125 l126 l127,World.cell? w83 d0=some (.slice o125 l126 l127) ∧
 ∃d128,o125=some d128 ∧
 ((0:Int)≤n1∧n1 < ((l126:Nat):Int)) ∧
 ∃o129 l130 l131,World.cell? w83 (Addr.add (Addr.add d128 ((Int.toNat n1) * 2)) 1)=some (.slice o129 l130 l131) ∧
 J117 (IntKind.wrap .i64 (n1+1)) o129 l130 l131 w83)) ∧
 ((((l123:Nat):Int)≠n3 →
 J117 n1 none 0 0 w83)))) ∧
 (∀(n132:Int) (o133:Option Addr) (l133:Nat) (c133:Nat) (j134:Nat→Value) (w134:World),J117 n132 o133 l133 c133 w134 →
 ∃(I135:Option Addr→Nat→Nat→Int→Int→World→Prop) (μ135:Option Addr→Nat→Nat→Int→Int→World→Nat),I135 none 0 0 n132 0 w134 ∧
 (∀(o136:Option Addr) (l136:Nat) (c136:Nat) (n137:Int) (n138:Int) (j139:Nat→Value) (w139:World),I135 o136 l136 c136 n137 n138 w139 →
 (((n138 < 16 →
 ∃(J140:Int→World→Prop),(∃(I141:Int→World→Prop) (μ141:Int→World→Nat),I141 n137 w139 ∧
 (∀(n142:Int) (j143:Nat→Value) (w143:World),I141 n142 w143 →
 (((n142 < n2 →
 ∃o144 l145 l146,World.cell? w143 (Addr.add d0 1)=some (.slice o144 l145 l146) ∧
 ∃d147,o144=some d147 ∧
 ((0:Int)≤n142∧n142 < ((l145:Nat):Int)) ∧
 ∃o148 l149 l150,World.cell? w143 (Addr.add d147 (Int.toNat n142))=some (.slice o148 l149 l150) ∧
 ∃d151,o148=some d151 ∧
 ((0:Int)≤n3∧n3 < ((l149:Nat):Int)) ∧
 ∃n152,World.cell? w143 (Addr.add d151 (Int.toNat n3))=some (.int .u8 n152) ∧
 ((((IntKind.wrap .i64 n152)=n138 →
 I141 (IntKind.wrap .i64 (n142+1)) w143∧μ141 (IntKind.wrap .i64 (n142+1)) w143 < μ141 n142 w143)) ∧
 (((IntKind.wrap .i64 n152)≠n138 →
 J140 n142 w143))))) ∧
 ((¬n142 < n2 →
 J140 n142 w143))))) ∧
 (∀(n153:Int) (j154:Nat→Value) (w154:World),J140 n153 w154 →
 (((n153=n137 →
 ∀d155 w156,IsNew w154 5 #[(.int .u8 128)] d155 w156 →
 ∃v157 w158,Sem.run Tryz.prog (builtinV .append #[23,23] 23 #[(.slice o136 l136 c136),(.slice (some d155) 1 1)]) w156=.ok v157 w158 ∧
 ∃o159 l160 l161,v157=(.slice o159 l160 l161) ∧
 I135 o159 l160 l161 n153 (IntKind.wrap .i64 (n138+1)) w158∧μ135 o159 l160 l161 n153 (IntKind.wrap .i64 (n138+1)) w158 < μ135 o136 l136 c136 n137 n138 w139)) ∧
 ((n153≠n137 →
 Calls Tryz.prog 91 #[(.pointer (some d0)),(.int .i64 n137),(.int .i64 n153),(.int .i64 (IntKind.wrap .i64 (n3+1)))] w154 (fun e162 w163 =>
 ∃o164 l165 l166,e162=.returned (.slice o164 l165 l166) ∧
 ∃v167 w168,Sem.run Tryz.prog (builtinV .append #[23,23] 23 #[(.slice o136 l136 c136),(.slice o164 l165 l166)]) w163=.ok v167 w168 ∧
 ∃o169 l170 l171,v167=(.slice o169 l170 l171) ∧
 I135 o169 l170 l171 n153 (IntKind.wrap .i64 (n138+1)) w168∧μ135 o169 l170 l171 n153 (IntKind.wrap .i64 (n138+1)) w168 < μ135 o136 l136 c136 n137 n138 w139))))))) ∧
 ((¬n138 < 16 →
 Calls Tryz.prog 90 #[(.slice o133 l133 c133)] w139 (fun e172 w173 =>
 ∃o174 l175 l176,e172=.returned (.slice o174 l175 l176) ∧
 ∃v177 w178,Sem.run Tryz.prog (builtinV .append #[23,23] 23 #[(.slice o136 l136 c136),(.slice o174 l175 l176)]) w173=.ok v177 w178 ∧
 ∃o179 l180 l181,v177=(.slice o179 l180 l181) ∧
 Calls Tryz.prog 89 #[(.slice o179 l180 l181)] w178 (fun e182 w183 =>
 ∃o184 l185 l186,e182=.returned (.slice o184 l185 l186) ∧
 R (.returned (.slice o184 l185 l186)) w183))))))))))))))
theorem moraineref14_build_item.vc (d0:Addr) (n1:Int) (n2:Int) (n3:Int) (w:World) (R:Ending→World→Prop) (h:moraineref14_build_item.Vc d0 n1 n2 n3 w R):Calls Tryz.prog 55 #[(.pointer (some d0)),(.int .i64 n1),(.int .i64 n2),(.int .i64 n3)] w R :=
 execF_sound (R:=⟨R,false⟩) (ann:=[(1000007,[(11,.cell (.int .i64))]),(5,[(11,.cell (.int .i64))]),(1000016,[(15,.cell (.int .i64)),(16,.cell (.slice))]),(17,[(14,.cell (.slice)),(15,.cell (.int .i64)),(17,.cell (.int .i64))]),(1000022,[(18,.cell (.int .i64))]),(20,[(18,.cell (.int .i64))])]) (args:=[.addr d0,.int .i64 n1,.int .i64 n2,.int .i64 n3]) Tryz.func55 mixed (Eq.mp (by kernel_rfl:moraineref14_build_item.Vc d0 n1 n2 n3 w R=execF (pA Tryz.prog ⟨R,false⟩) Tryz.prog [(1000007,[(11,.cell (.int .i64))]),(5,[(11,.cell (.int .i64))]),(1000016,[(15,.cell (.int .i64)),(16,.cell (.slice))]),(17,[(14,.cell (.slice)),(15,.cell (.int .i64)),(17,.cell (.int .i64))]),(1000022,[(18,.cell (.int .i64))]),(20,[(18,.cell (.int .i64))])] Tryz.f55 [.addr d0,.int .i64 n1,.int .i64 n2,.int .i64 n3] w) h)

abbrev moraineref14_build_ref.n:Nat:=91
def moraineref14_build_ref.Vc (d0:Addr) (n1 n2 n3:Int) (w:World) (R:Ending→World→Prop):Prop :=
 Calls Tryz.prog 55 #[(.pointer (some d0)),(.int .i64 n1),(.int .i64 n2),(.int .i64 n3)] w (fun e4 w5 =>
 ∃o6 l7 l8,e4=.returned (.slice o6 l7 l8) ∧
 (((((l7:Nat):Int) < 32 →
 R (.returned (.slice o6 l7 l8)) w5)) ∧
 ((¬((l7:Nat):Int) < 32 →
 Calls Tryz.prog 56 #[(.slice o6 l7 l8)] w5 (fun e9 w10 =>
 ∃L11,e9=.returned (.agg L11) ∧
 ∀d12 w13,IsNew w10 27 (Array.replicate 32 (.int .u8 0)) d12 w13 →
 ∃w14,Sem.run Tryz.prog (Instr.storeAt 27 (.pointer (some d12)) (.agg L11)) w13=.ok () w14 ∧
 ∃L15,RowAt w14 d12 32 L15 ∧
 Calls Tryz.prog 57 #[(.pointer (some d0)),(.agg L15),(.slice o6 l7 l8)] w14 (fun e16 w17 =>
 e16=.returned (.tuple #[]) ∧
 ∃v18 w19,Sem.run Tryz.prog (builtinV .append #[23,23] 23 #[(.slice none 0 0),(.slice (some d12) 32 32)]) w17=.ok v18 w19 ∧
 ∃o20 l21 l22,v18=(.slice o20 l21 l22) ∧
 Calls Tryz.prog 90 #[(.slice o20 l21 l22)] w19 (fun e23 w24 =>
 ∃o25 l26 l27,e23=.returned (.slice o25 l26 l27) ∧
 R (.returned (.slice o25 l26 l27)) w24)))))))
theorem moraineref14_build_ref.vc (d0:Addr) (n1:Int) (n2:Int) (n3:Int) (w:World) (R:Ending→World→Prop) (h:moraineref14_build_ref.Vc d0 n1 n2 n3 w R):Calls Tryz.prog 91 #[(.pointer (some d0)),(.int .i64 n1),(.int .i64 n2),(.int .i64 n3)] w R :=
 execF_sound (R:=⟨R,false⟩) (ann:=[]) (args:=[.addr d0,.int .i64 n1,.int .i64 n2,.int .i64 n3]) Tryz.func91 mixed (Eq.mp (by kernel_rfl:moraineref14_build_ref.Vc d0 n1 n2 n3 w R=execF (pA Tryz.prog ⟨R,false⟩) Tryz.prog [] Tryz.f91 [.addr d0,.int .i64 n1,.int .i64 n2,.int .i64 n3] w) h)

abbrev moraineref14_build_node.n:Nat:=57
def moraineref14_build_node.Vc (d0:Addr) (L1:Array Value) (o2:Option Addr) (l2 c2:Nat) (w:World) (R:Ending→World→Prop):Prop :=
 ∀d3 w4,IsNew w 27 L1 d3 w4 →
 ∃(J5:World→Prop),(∃(I6:Int→World→Prop) (μ6:Int→World→Nat),I6 0 w4 ∧
 (∀(n7:Int) (j8:Nat→Value) (w8:World),I6 n7 w8 →
 ∃o9 l10 l11,World.cell? w8 (Addr.add d0 2)=some (.slice o9 l10 l11) ∧
 (((n7 < ((l10:Nat):Int) →
 ∃b12,World.cell? w8 (Addr.add d0 3)=some (.bool b12) ∧
 (((b12=false →
 ∀w13,IsDrew w8 w13 →
 ∃o14 l15 l16,World.cell? w13 (Addr.add d0 2)=some (.slice o14 l15 l16) ∧
 ∃d17,o14=some d17 ∧
 ((0:Int)≤n7∧n7 < ((l15:Nat):Int)) ∧
 ∃L18,RowAt w13 (Addr.add d17 ((Int.toNat n7) * 33)) 32 L18 ∧
 ∃L19,RowAt w13 d3 32 L19 ∧
 ∃v20,Sem.run Tryz.prog (semBin .eql 27 (.tmp 30) (.tmp 31) (.agg L18) (.agg L19)) w13=.ok v20 w13 ∧
 ∃b21,v20=(.bool b21) ∧
 (((b21=true →
 R (.returned (.tuple #[])) w13)) ∧
 ((b21=false →
 I6 (IntKind.wrap .i64 (n7+1)) w13∧μ6 (IntKind.wrap .i64 (n7+1)) w13 < μ6 n7 w8))))) ∧
 ((b12=true →
 J5  w8))))) ∧
 ((¬n7 < ((l10:Nat):Int) →
 J5  w8))))) ∧
 (∀  (j22:Nat→Value) (w22:World),J5  w22 →
 ∀w23,IsDrew w22 w23 →
 ∃o24 l25 l26,World.cell? w23 (Addr.add d0 2)=some (.slice o24 l25 l26) ∧
 ∃L27,RowAt w23 d3 32 L27 ∧
 Array.size L27=32 ∧
 Array.size (setsAt (lputL #[(.int .u8 0),(.int .u8 0),(.int .u8 0),(.int .u8 0),(.int .u8 0),(.int .u8 0),(.int .u8 0),(.int .u8 0),(.int .u8 0),(.int .u8 0),(.int .u8 0),(.int .u8 0),(.int .u8 0),(.int .u8 0),(.int .u8 0),(.int .u8 0),(.int .u8 0),(.int .u8 0),(.int .u8 0),(.int .u8 0),(.int .u8 0),(.int .u8 0),(.int .u8 0),(.int .u8 0),(.int .u8 0),(.int .u8 0),(.int .u8 0),(.int .u8 0),(.int .u8 0),(.int .u8 0),(.int .u8 0),(.int .u8 0),(.slice none 0 0)] 0 32 L27) 32 [(.slice o2 l2 c2)])=33 ∧
 ∀d28 w29,IsNew w23 62 (lputL #[(.int .u8 0),(.int .u8 0),(.int .u8 0),(.int .u8 0),(.int .u8 0),(.int .u8 0),(.int .u8 0),(.int .u8 0),(.int .u8 0),(.int .u8 0),(.int .u8 0),(.int .u8 0),(.int .u8 0),(.int .u8 0),(.int .u8 0),(.int .u8 0),(.int .u8 0),(.int .u8 0),(.int .u8 0),(.int .u8 0),(.int .u8 0),(.int .u8 0),(.int .u8 0),(.int .u8 0),(.int .u8 0),(.int .u8 0),(.int .u8 0),(.int .u8 0),(.int .u8 0),(.int .u8 0),(.int .u8 0),(.int .u8 0),(.slice none 0 0)] 0 33 (setsAt (lputL #[(.int .u8 0),(.int .u8 0),(.int .u8 0),(.int .u8 0),(.int .u8 0),(.int .u8 0),(.int .u8 0),(.int .u8 0),(.int .u8 0),(.int .u8 0),(.int .u8 0),(.int .u8 0),(.int .u8 0),(.int .u8 0),(.int .u8 0),(.int .u8 0),(.int .u8 0),(.int .u8 0),(.int .u8 0),(.int .u8 0),(.int .u8 0),(.int .u8 0),(.int .u8 0),(.int .u8 0),(.int .u8 0),(.int .u8 0),(.int .u8 0),(.int .u8 0),(.int .u8 0),(.int .u8 0),(.int .u8 0),(.int .u8 0),(.slice none 0 0)] 0 32 L27) 32 [(.slice o2 l2 c2)])) d28 w29 →
 World.cell? w29 (Addr.add d0 2)=some (.slice o24 l25 l26) ∧
 ∃v30 w31,Sem.run Tryz.prog (builtinV .append #[28,28] 28 #[(.slice o24 l25 l26),(.slice (some d28) 1 1)]) w29=.ok v30 w31 ∧
 ∃o32 l33 l34,v30=(.slice o32 l33 l34) ∧
 CanSet w31 (Addr.add d0 2) (.slice o32 l33 l34)∧∀w35,IsSet w31 (Addr.add d0 2) (.slice o32 l33 l34) w35 →
 R (.returned (.tuple #[])) w35)
theorem moraineref14_build_node.vc (d0:Addr) (L1:Array Value) (o2:Option Addr) (l2:Nat) (c2:Nat) (w:World) (R:Ending→World→Prop) (h:moraineref14_build_node.Vc d0 L1 o2 l2 c2 w R):Calls Tryz.prog 57 #[(.pointer (some d0)),(.agg L1),(.slice o2 l2 c2)] w R :=
 execF_sound (R:=⟨R,false⟩) (ann:=[(1000005,[]),(2,[(6,.cell (.int .i64))])]) (args:=[.addr d0,.big 32 L1,.slice o2 l2 c2]) Tryz.func57 mixed (Eq.mp (by kernel_rfl:moraineref14_build_node.Vc d0 L1 o2 l2 c2 w R=execF (pA Tryz.prog ⟨R,false⟩) Tryz.prog [(1000005,[]),(2,[(6,.cell (.int .i64))])] Tryz.f57 [.addr d0,.big 32 L1,.slice o2 l2 c2] w) h)

abbrev moraineref14_Of.n:Nat:=8
def moraineref14_Of.Vc (o0:Option Addr) (l0 c0:Nat) (w:World) (R:Ending→World→Prop):Prop :=
 ∀d1 w2,IsNew w 27 (Array.replicate 32 (.int .u8 0)) d1 w2 →
 Calls Tryz.prog 24 #[(.slice o0 l0 c0),(.bool false)] w2 (fun e3 w4 =>
 ∃L5 o6 l7 l8,e3=.returned (.tuple #[(.agg L5),(.slice o6 l7 l8)]) ∧
 ∃w9,Sem.run Tryz.prog (Instr.storeAt 27 (.pointer (some d1)) (.agg L5)) w4=.ok () w9 ∧
 ∃L10,RowAt w9 d1 32 L10 ∧
 R (.returned (.tuple #[(.agg L10),(.slice o6 l7 l8)])) w9)
theorem moraineref14_Of.vc (o0:Option Addr) (l0:Nat) (c0:Nat) (w:World) (R:Ending→World→Prop) (h:moraineref14_Of.Vc o0 l0 c0 w R):Calls Tryz.prog 8 #[(.slice o0 l0 c0)] w R :=
 execF_sound (R:=⟨R,false⟩) (ann:=[]) (args:=[.slice o0 l0 c0]) Tryz.func8 mixed (Eq.mp (by kernel_rfl:moraineref14_Of.Vc o0 l0 c0 w R=execF (pA Tryz.prog ⟨R,false⟩) Tryz.prog [] Tryz.f8 [.slice o0 l0 c0] w) h)

abbrev moraineref14_made.n:Nat:=24
def moraineref14_made.Vc (o0:Option Addr) (l0 c0:Nat) (b1:Bool) (w:World) (R:Ending→World→Prop):Prop :=
 ∀d2 w3,IsNew w 27 (Array.replicate 32 (.int .u8 0)) d2 w3 →
 (((((l0:Nat):Int)=0 →
 Calls Tryz.prog 40 #[] w3 (fun e4 w5 =>
 ∃L6,e4=.returned (.agg L6) ∧
 ∃w7,Sem.run Tryz.prog (Instr.storeAt 27 (.pointer (some d2)) (.agg L6)) w5=.ok () w7 ∧
 ∃L8,RowAt w7 d2 32 L8 ∧
 R (.returned (.tuple #[(.agg L8),(.slice none 0 0)])) w7))) ∧
 ((((l0:Nat):Int)≠0 →
 ∀d9 w10,IsNew w3 118 #[(.slice o0 l0 c0),(.slice none 0 0),(.slice none 0 0),(.bool b1)] d9 w10 →
 ∃(I11:Int→World→Prop) (μ11:Int→World→Nat),I11 0 w10 ∧
 (∀(n12:Int) (j13:Nat→Value) (w13:World),I11 n12 w13 →
 (((n12 < ((l0:Nat):Int) →
 ∀w14,IsDrew w13 w14 →
 ∃o15 l16 l17,World.cell? w14 (Addr.add d9 1)=some (.slice o15 l16 l17) ∧
 ∃d18,o0=some d18 ∧
 ((0:Int)≤n12∧n12 < ((l0:Nat):Int)) ∧
 ∃o19 l20 l21,World.cell? w14 (Addr.add d18 ((Int.toNat n12) * 2))=some (.slice o19 l20 l21) ∧
 Calls Tryz.prog 54 #[(.slice o19 l20 l21)] w14 (fun e22 w23 =>
 ∃o24 l25 l26,e22=.returned (.slice o24 l25 l26) ∧
 World.cell? w23 (Addr.add d9 1)=some (.slice o15 l16 l17) ∧
 ∀d27 w28,IsNew w23 23 #[(.slice o24 l25 l26)] d27 w28 →
 World.cell? w28 (Addr.add d9 1)=some (.slice o15 l16 l17) ∧
 ∃v29 w30,Sem.run Tryz.prog (builtinV .append #[31,31] 31 #[(.slice o15 l16 l17),(.slice (some d27) 1 1)]) w28=.ok v29 w30 ∧
 ∃o31 l32 l33,v29=(.slice o31 l32 l33) ∧
 CanSet w30 (Addr.add d9 1) (.slice o31 l32 l33)∧∀w34,IsSet w30 (Addr.add d9 1) (.slice o31 l32 l33) w34 →
 I11 (IntKind.wrap .i64 (n12+1)) w34∧μ11 (IntKind.wrap .i64 (n12+1)) w34 < μ11 n12 w13))) ∧
 ((¬n12 < ((l0:Nat):Int) →
 Calls Tryz.prog 55 #[(.pointer (some d9)),(.int .i64 0),(.int .i64 ((l0:Nat):Int)),(.int .i64 0)] w13 (fun e35 w36 =>
 ∃o37 l38 l39,e35=.returned (.slice o37 l38 l39) ∧
 Calls Tryz.prog 56 #[(.slice o37 l38 l39)] w36 (fun e40 w41 =>
 ∃L42,e40=.returned (.agg L42) ∧
 ∀d43 w44,IsNew w41 27 (Array.replicate 32 (.int .u8 0)) d43 w44 →
 ∃w45,Sem.run Tryz.prog (Instr.storeAt 27 (.pointer (some d43)) (.agg L42)) w44=.ok () w45 ∧
 ∃L46,RowAt w45 d43 32 L46 ∧
 Calls Tryz.prog 57 #[(.pointer (some d9)),(.agg L46),(.slice o37 l38 l39)] w45 (fun e47 w48 =>
 e47=.returned (.tuple #[]) ∧
 ∀w49,IsDrew w48 w49 →
 ∃L50,RowAt w49 d43 32 L50 ∧
 ∃o51 l52 l53,World.cell? w49 (Addr.add d9 2)=some (.slice o51 l52 l53) ∧
 ∃w54,Sem.run Tryz.prog (Instr.storeAt 27 (.pointer (some d2)) (.agg L50)) w49=.ok () w54 ∧
 World.cell? w54 (Addr.add d9 2)=some (.slice o51 l52 l53) ∧
 ∃L55,RowAt w54 d2 32 L55 ∧
 R (.returned (.tuple #[(.agg L55),(.slice o51 l52 l53)])) w54))))))))))
theorem moraineref14_made.vc (o0:Option Addr) (l0:Nat) (c0:Nat) (b1:Bool) (w:World) (R:Ending→World→Prop) (h:moraineref14_made.Vc o0 l0 c0 b1 w R):Calls Tryz.prog 24 #[(.slice o0 l0 c0),(.bool b1)] w R :=
 execF_sound (R:=⟨R,false⟩) (ann:=[(5,[(7,.cell (.int .i64))])]) (args:=[.slice o0 l0 c0,.bool (.var b1)]) Tryz.func24 mixed (Eq.mp (by kernel_rfl:moraineref14_made.Vc o0 l0 c0 b1 w R=execF (pA Tryz.prog ⟨R,false⟩) Tryz.prog [(5,[(7,.cell (.int .i64))])] Tryz.f24 [.slice o0 l0 c0,.bool (.var b1)] w) h)

abbrev moraineref14_Nodes.n:Nat:=10
def moraineref14_Nodes.Vc (o0:Option Addr) (l0 c0:Nat) (w:World) (R:Ending→World→Prop):Prop :=
 ∃(I1:Option Addr→Nat→Nat→Int→World→Prop) (μ1:Option Addr→Nat→Nat→Int→World→Nat),I1 none 0 0 0 w ∧
 (∀(o2:Option Addr) (l2:Nat) (c2:Nat) (n3:Int) (j4:Nat→Value) (w4:World),I1 o2 l2 c2 n3 w4 →
 (((n3 < ((l0:Nat):Int) →
 ∀w5,IsDrew w4 w5 →
 ∃d6,o0=some d6 ∧
 ((0:Int)≤n3∧n3 < ((l0:Nat):Int)) ∧
 ∃L7,RowAt w5 (Addr.add d6 ((Int.toNat n3) * 33)) 32 L7 ∧
 ∃d8,o0=some d8 ∧
 ((0:Int)≤n3∧n3 < ((l0:Nat):Int)) ∧
 ∃o9 l10 l11,World.cell? w5 (Addr.add (Addr.add d8 ((Int.toNat n3) * 33)) 32)=some (.slice o9 l10 l11) ∧
 ∃v12 w13,Sem.run Tryz.prog (builtinV .append #[23,23] 23 #[(.slice none 0 0),(.slice o9 l10 l11)]) w5=.ok v12 w13 ∧
 ∃o14 l15 l16,v12=(.slice o14 l15 l16) ∧
 RowAt w13 (Addr.add d6 ((Int.toNat n3) * 33)) 32 L7 ∧
 Array.size L7=32 ∧
 Array.size (setsAt (lputL #[(.int .u8 0),(.int .u8 0),(.int .u8 0),(.int .u8 0),(.int .u8 0),(.int .u8 0),(.int .u8 0),(.int .u8 0),(.int .u8 0),(.int .u8 0),(.int .u8 0),(.int .u8 0),(.int .u8 0),(.int .u8 0),(.int .u8 0),(.int .u8 0),(.int .u8 0),(.int .u8 0),(.int .u8 0),(.int .u8 0),(.int .u8 0),(.int .u8 0),(.int .u8 0),(.int .u8 0),(.int .u8 0),(.int .u8 0),(.int .u8 0),(.int .u8 0),(.int .u8 0),(.int .u8 0),(.int .u8 0),(.int .u8 0),(.slice none 0 0)] 0 32 L7) 32 [(.slice o14 l15 l16)])=33 ∧
 ∀d17 w18,IsNew w13 48 (lputL #[(.int .u8 0),(.int .u8 0),(.int .u8 0),(.int .u8 0),(.int .u8 0),(.int .u8 0),(.int .u8 0),(.int .u8 0),(.int .u8 0),(.int .u8 0),(.int .u8 0),(.int .u8 0),(.int .u8 0),(.int .u8 0),(.int .u8 0),(.int .u8 0),(.int .u8 0),(.int .u8 0),(.int .u8 0),(.int .u8 0),(.int .u8 0),(.int .u8 0),(.int .u8 0),(.int .u8 0),(.int .u8 0),(.int .u8 0),(.int .u8 0),(.int .u8 0),(.int .u8 0),(.int .u8 0),(.int .u8 0),(.int .u8 0),(.slice none 0 0)] 0 33 (setsAt (lputL #[(.int .u8 0),(.int .u8 0),(.int .u8 0),(.int .u8 0),(.int .u8 0),(.int .u8 0),(.int .u8 0),(.int .u8 0),(.int .u8 0),(.int .u8 0),(.int .u8 0),(.int .u8 0),(.int .u8 0),(.int .u8 0),(.int .u8 0),(.int .u8 0),(.int .u8 0),(.int .u8 0),(.int .u8 0),(.int .u8 0),(.int .u8 0),(.int .u8 0),(.int .u8 0),(.int .u8 0),(.int .u8 0),(.int .u8 0),(.int .u8 0),(.int .u8 0),(.int .u8 0),(.int .u8 0),(.int .u8 0),(.int .u8 0),(.slice none 0 0)] 0 32 L7) 32 [(.slice o14 l15 l16)])) d17 w18 →
 ∃v19 w20,Sem.run Tryz.prog (builtinV .append #[34,34] 34 #[(.slice o2 l2 c2),(.slice (some d17) 1 1)]) w18=.ok v19 w20 ∧
 ∃o21 l22 l23,v19=(.slice o21 l22 l23) ∧
 I1 o21 l22 l23 (IntKind.wrap .i64 (n3+1)) w20∧μ1 o21 l22 l23 (IntKind.wrap .i64 (n3+1)) w20 < μ1 o2 l2 c2 n3 w4)) ∧
 ((¬n3 < ((l0:Nat):Int) →
 R (.returned (.slice o2 l2 c2)) w4))))
theorem moraineref14_Nodes.vc (o0:Option Addr) (l0:Nat) (c0:Nat) (w:World) (R:Ending→World→Prop) (h:moraineref14_Nodes.Vc o0 l0 c0 w R):Calls Tryz.prog 10 #[(.slice o0 l0 c0)] w R :=
 execF_sound (R:=⟨R,false⟩) (ann:=[(3,[(3,.cell (.slice)),(4,.cell (.int .i64))])]) (args:=[.slice o0 l0 c0]) Tryz.func10 mixed (Eq.mp (by kernel_rfl:moraineref14_Nodes.Vc o0 l0 c0 w R=execF (pA Tryz.prog ⟨R,false⟩) Tryz.prog [(3,[(3,.cell (.slice)),(4,.cell (.int .i64))])] Tryz.f10 [.slice o0 l0 c0] w) h)

abbrev morainehelp_Bytes.n:Nat:=27
def morainehelp_Bytes.Vc (o0:Option Addr) (l0 c0:Nat) (o1:Option Addr) (l1 c1:Nat) (w:World) (R:Ending→World→Prop):Prop :=
 ∃v2,Sem.run Tryz.prog (convert 23 9 (.slice o0 l0 c0)) w=.ok v2 w ∧
 ∃s3,v2=(.string s3) ∧
 ∃v4,Sem.run Tryz.prog (convert 23 9 (.slice o1 l1 c1)) w=.ok v4 w ∧
 ∃s5,v4=(.string s5) ∧
 R (.returned (.bool (strB .eql s3 s5))) w
theorem morainehelp_Bytes.vc (o0:Option Addr) (l0:Nat) (c0:Nat) (o1:Option Addr) (l1:Nat) (c1:Nat) (w:World) (R:Ending→World→Prop) (h:morainehelp_Bytes.Vc o0 l0 c0 o1 l1 c1 w R):Calls Tryz.prog 27 #[(.slice o0 l0 c0),(.slice o1 l1 c1)] w R :=
 execF_sound (R:=⟨R,false⟩) (ann:=[]) (args:=[.slice o0 l0 c0,.slice o1 l1 c1]) Tryz.func27 mixed (Eq.mp (by kernel_rfl:morainehelp_Bytes.Vc o0 l0 c0 o1 l1 c1 w R=execF (pA Tryz.prog ⟨R,false⟩) Tryz.prog [] Tryz.f27 [.slice o0 l0 c0,.slice o1 l1 c1] w) h)


end Go.Proofs.YtfghidehlnfdiaaGreat
end
section
namespace Go.Trie
def Fits (n:Nd):Prop:=∀k v,get n k=some v→k.length≤128∧v.length≤1024
theorem Fits.row {q:By} {c:Nd} (h:Fits (.row q c)):Fits c:=fun k v hg=>by
 have:=h (q++k) v (by rw [get_row_append]; exact hg)
 rw [List.length_append] at this
 exact ⟨by omega,this.2⟩
theorem Fits.kid {cs:Fin 16→Nd} {x:By} (h:Fits (.branch cs x)) (i:Fin 16):Fits (cs i):=fun k v hg=>by
 have:=h (UInt8.ofNat i.val :: k) v (by rw [get_branch_cons]; exact hg)
 simp only [List.length_cons] at this
 exact ⟨by omega,this.2⟩
theorem small_of:∀{n:Nd},Canon n→Fits n→Small n
 | .nil,_,_=>trivial
 | .leaf p v,_,h=>h p v (by simp [get])
 | .row p c,hc,h=>by
   refine ⟨?_,small_of hc.2.2.2 h.row⟩
   obtain ⟨k,v,hk⟩:=has_key hc.2.2.2 (by rintro rfl; exact hc.2.2.1)
   have:=(h (p++k) v (by rw [get_row_append]; exact hk)).1
   rw [List.length_append] at this; omega
 | .branch cs x,hc,h=>by
   refine ⟨?_,fun i=>small_of (hc.1 i) (h.kid i)⟩
   by_cases hx:x=[]
   ·simp [hx]
   ·exact (h [] x (by rw [get_branch_nil,if_neg hx])).2
theorem Fits.put {n:Nd} {p x:By} (h:Fits n) (hc:Canon n) (hp:Nib p) (hx:x≠[]) (hpl:p.length≤128) (hxl:x.length≤1024):Fits (put n p x):=fun k v hg=>by
 rw [(put_ok hc hp hx).2.2.2 k] at hg
 split at hg
 ·rename_i hk
  cases hg
  exact ⟨by rw [hk]; exact hpl,hxl⟩
 ·exact h k v hg
end Go.Trie
namespace Go.Proofs.YtfghidehlnfdiaaGreat
open Go Go.Vcg Go.Trie
end Go.Proofs.YtfghidehlnfdiaaGreat
end
section
namespace Go.Proofs.YtfghidehlnfdiaaGreat
open Go Go.Vcg Go.Trie
abbrev H32:={h:By // h.length=32}
instance:DecidableEq H32:=fun a b=>decidable_of_iff (a.1=b.1) Subtype.ext_iff.symm
def encH (h:H32):Value:=.agg (hashA h.1)
theorem bV_inj {a b:UInt8} (h:bV a=bV b):a=b:=by
 simp only [bV,Value.int.injEq,true_and] at h
 exact UInt8.toNat_inj.1 (by exact_mod_cast h)
theorem hashA_inj {a b:By} (ha:a.length=32) (hb:b.length=32) (h:hashA a=hashA b):a=b:=by
 apply List.ext_getElem (by omega)
 intro i h1 h2
 have hi:i < 32:=by omega
 have e:=congrArg (fun x:Array Value=>x[i]?) h
 simp only [hashA,get_arrOf_lt hi,Option.some.injEq] at e
 have:=bV_inj e
 simpa [List.getD_eq_getElem?_getD,h1,h2] using this
theorem laidOut:laidOutB Tryz.prog=true:=by kernel_rfl
theorem und_hash:Tryz.prog.underlying tHash=some (.array 32 5):=by kernel_rfl
theorem mapM_some {α β:Type} {f:α→Option β}:∀(l:List α),(∀x∈l,∃y,f x=some y)→∃ys,l.mapM f=some ys
 | [],_=>⟨[],rfl⟩
 | x :: r,h=>by
   obtain ⟨y,hy⟩:=h x (by simp)
   obtain ⟨ys,hys⟩:=mapM_some r (fun z hz=>h z (by simp [hz]))
   exact ⟨y :: ys,by rw [List.mapM_cons,hy,hys]; rfl⟩
theorem keyOf_arr {P:Program} {k e:TypeId} {n:Nat} {q:IntKind} {v:Value} (hu:P.underlying k=some (.array n e)) (hk:P.keyType k=true) (hf:v.formed P k=true) (hs:1≤P.types.size) (he:P.underlying e=some (.int q)) (hc:P.cellsOf e=1)
 (hcl:v.cells.toList.length=P.cellsOf k) (hcells:∀i,i < n→∃m,v.cells.toList[i]?=some (.int q m)∧(Lit.int q m).wf=true):∃l,keyOf P k v=some l:=by
 obtain ⟨d,hd⟩:∃d,P.types.size=d+1:=⟨P.types.size - 1,by omega⟩
 unfold keyOf
 simp only [hu,hk,hf,Bool.and_self,if_true,hd,Program.keyLits,hcl]
 obtain ⟨ys,hys⟩:=mapM_some (f:=fun i=>P.keyLits (d+1) e ((v.cells.toList.drop (i * P.cellsOf e)).take (P.cellsOf e))) (List.range n) (fun i hi=>by
  obtain ⟨m,h1,h2⟩:=hcells i (List.mem_range.1 hi)
  have e1:((v.cells.toList.drop (i * P.cellsOf e)).take (P.cellsOf e))=[.int q m]:=by
   rw [hc,Nat.mul_one]
   have hl:i < v.cells.toList.length:=by
    rcases Nat.lt_or_ge i v.cells.toList.length with h | h
    ·exact h
    ·rw [List.getElem?_eq_none h] at h1; cases h1
   rw [List.getElem?_eq_getElem hl] at h1
   rw [List.drop_eq_getElem_cons hl,Option.some.inj h1]; rfl
  refine ⟨[.int q m],?_⟩
  rw [e1]
  simp only [Program.keyLits,he]
  exact if_pos ⟨trivial,h2⟩)
 simp only [Program.keyLits] at hys
 refine ⟨.string (keyBytes ys.flatten),?_⟩
 rw [hys]
 rfl
theorem wf_u8 (b:UInt8):(Lit.int .u8 (b.toNat:Int)).wf=true:=by
 have:∀n:Fin 256,(Lit.int .u8 ((UInt8.ofFin n).toNat:Int)).wf=true:=by decide +kernel
 exact this b.toFin
theorem cells_hash:Tryz.prog.cellsOf tHash=32:=by kernel_rfl
theorem encH_cells (h:H32):(encH h).cells=hashA h.1:=rfl
theorem keyEncH:KeyEnc Tryz.prog tHash encH (fun _=>True) where
 keyed:=Go.Maps.Keyed.of_law (deep_law_gate laidOut (of_decide_eq_true (by kernel_rfl)) (of_decide_eq_true (by kernel_rfl)) (by kernel_rfl) (by kernel_rfl))
 ok h _:=keyOf_arr und_hash (by kernel_rfl) (by simp only [encH,Value.formed,und_hash,cells_hash,size_hashA]; rfl) (of_decide_eq_true (by kernel_rfl)) und_u8 (by kernel_rfl)
  (by rw [encH_cells,Array.length_toList,size_hashA,cells_hash]) (fun i hi=>⟨((h.1.getD i 0).toNat:Int),by rw [encH_cells,Array.getElem?_toList]; exact get_arrOf_lt hi,wf_u8 _⟩)
 inj a b h:=by
  simp only [encH,Value.agg.injEq] at h
  exact Subtype.ext (hashA_inj a.2 b.2 h)

abbrev tNd:TypeId:=48
abbrev tSlNd:TypeId:=34
theorem und_slNd:Tryz.prog.underlying tSlNd=some (.slice tNd):=by kernel_rfl
def ndA (h:By) (o:Option Addr) (l k:Nat):Array Value:=((hashA h).toList++[Value.slice o l k]).toArray
abbrev nd0:Array Value:=#[(.int .u8 0),(.int .u8 0),(.int .u8 0),(.int .u8 0),(.int .u8 0),(.int .u8 0),(.int .u8 0),(.int .u8 0),(.int .u8 0),(.int .u8 0),(.int .u8 0),(.int .u8 0),(.int .u8 0),(.int .u8 0),(.int .u8 0),(.int .u8 0),(.int .u8 0),(.int .u8 0),(.int .u8 0),(.int .u8 0),(.int .u8 0),(.int .u8 0),(.int .u8 0),(.int .u8 0),(.int .u8 0),(.int .u8 0),(.int .u8 0),(.int .u8 0),(.int .u8 0),(.int .u8 0),(.int .u8 0),(.int .u8 0),(.slice none 0 0)]
theorem info_nd:(Tryz.prog.info? tNd).map (fun i=>(i.zero,i.size,i.bytes))=some (some (.agg nd0),33,56):=by kernel_rfl
theorem size_ndA (h:By) (o:Option Addr) (l k:Nat):(ndA h o l k).size=33:=by simp [ndA,size_hashA]
theorem ndA_lo {h:By} {o:Option Addr} {l k i:Nat} (hi:i < 32):(ndA h o l k)[i]?=some (bV (h.getD i 0)):=by
 unfold ndA
 rw [List.getElem?_toArray,List.getElem?_append_left (by rw [Array.length_toList,size_hashA]; exact hi),Array.getElem?_toList]
 exact get_arrOf_lt hi
theorem ndA_hi {h:By} {o:Option Addr} {l k:Nat}:(ndA h o l k)[32]?=some (.slice o l k):=by
 unfold ndA
 rw [List.getElem?_toArray,List.getElem?_append_right (by rw [Array.length_toList,size_hashA]; omega),Array.length_toList,size_hashA]
 rfl
theorem ndA_one (h:By) (o:Option Addr) (l k:Nat):∀v∈(ndA h o l k).toList,v.oneCell'=true:=by
 intro v hv
 simp only [ndA,List.mem_append,List.mem_singleton] at hv
 rcases hv with hv | rfl
 ·exact hashA_one h v hv
 ·rfl
theorem nd_built {Z:Array Value} (hZ:Z.size=33) (h:By) (s:Value):lputL Z 0 33 (setsAt (lputL Z 0 32 (hashA h)) 32 [s])=((hashA h).toList++[s]).toArray:=by
 have e1:(lputL Z 0 32 (hashA h)).size=33:=by unfold lputL; rw [size_setsAt,hZ]
 have hh:(hashA h).toList.take 32=(hashA h).toList:=List.take_of_length_le (by rw [Array.length_toList,size_hashA]; omega)
 have hl:(hashA h).toList.length=32:=by rw [Array.length_toList,size_hashA]
 have e2:(setsAt (lputL Z 0 32 (hashA h)) 32 [s]).size=33:=by rw [size_setsAt,e1]
 apply Array.ext_getElem?
 intro i
 have hr:(((hashA h).toList++[s]).toArray)[i]?=((hashA h).toList++[s])[i]?:=List.getElem?_toArray ..
 rw [hr]
 have e3:lputL Z 0 33 (setsAt (lputL Z 0 32 (hashA h)) 32 [s])=setsAt Z 0 ((setsAt (lputL Z 0 32 (hashA h)) 32 [s]).toList.take 33):=rfl
 have ht:((setsAt (lputL Z 0 32 (hashA h)) 32 [s]).toList.take 33)=(setsAt (lputL Z 0 32 (hashA h)) 32 [s]).toList:=List.take_of_length_le (by rw [Array.length_toList,e2]; omega)
 rw [e3,ht,get_setsAt _ _ _ _ (by rw [Array.length_toList,e2,hZ]; omega),Array.length_toList,e2]
 by_cases hi:i < 33
 ·rw [if_pos (by omega),Nat.sub_zero,Array.getElem?_toList,get_setsAt _ _ _ _ (by rw [e1]; simp)]
  by_cases h32:i=32
  ·subst h32
   rw [if_pos (by simp),List.getElem?_append_right (by omega),hl]
  ·rw [if_neg (by simp; omega),List.getElem?_append_left (by omega)]
   unfold lputL
   rw [hh,get_setsAt _ _ _ _ (by omega),if_pos (by omega),Nat.sub_zero]
 ·rw [if_neg (by omega),Array.getElem?_eq_none (by omega),List.getElem?_eq_none (by rw [List.length_append,hl]; simp; omega)]
section
variable {C:Type} {S:C→Prop} {w0 w w1 w':World} {lab lab':Nat→C} {c cb:C}
def NdCells (w:World) (lab:Nat→C) (cb:C) (vs:List Value) (l:List (By×By)):Prop :=
 vs.length=l.length * 33∧∀(j:Nat) (hj:j < l.length),l[j].1.length=32∧(∀i,i < 32→vs[j * 33+i]?=some (bV (l[j].1.getD i 0)))∧∃ob kb,vs[j * 33+32]?=some (.slice ob l[j].2.length kb)∧CBy w lab cb ob l[j].2∧l[j].2.length≤kb
theorem NdCells.nil (w:World) (lab:Nat→C) (cb:C):NdCells w lab cb [] []:=⟨rfl,fun j hj=>absurd hj (by simp)⟩
theorem NdCells.stp {vs:List Value} {l:List (By×By)} (h:NdCells w lab cb vs l) (s:Stp S w lab w' lab') (hs:¬S cb):NdCells w' lab' cb vs l :=
 ⟨h.1,fun j hj=>by obtain ⟨h1,h2,ob,kb,h3,h4⟩:=h.2 j hj; exact ⟨h1,h2,ob,kb,h3,h4.1.stp s hs,h4.2⟩⟩
theorem NdCells.push {vs:List Value} {l:List (By×By)} {h b:By} {ob:Option Addr} {kb:Nat} (H:NdCells w lab cb vs l) (hh:h.length=32) (hb:CBy w lab cb ob b) (hk:b.length≤kb) :
 NdCells w lab cb (vs++(ndA h ob b.length kb).toList) (l++[(h,b)]):=by
 have hnl:(ndA h ob b.length kb).toList.length=33:=by rw [Array.length_toList,size_ndA]
 refine ⟨by rw [List.length_append,hnl,H.1,List.length_append]; simp; omega,fun j hj=>?_⟩
 rw [List.length_append,List.length_singleton] at hj
 have hv:=H.1
 by_cases hl:j < l.length
 ·rw [List.getElem_append_left hl]
  obtain ⟨h1,h2,ob,kb,h3,h4⟩:=H.2 j hl
  exact ⟨h1,fun i hi=>by rw [List.getElem?_append_left (by omega)]; exact h2 i hi,ob,kb,by rw [List.getElem?_append_left (by omega)]; exact h3,h4⟩
 ·obtain rfl:j=l.length:=by omega
  rw [List.getElem_append_right (Nat.le_refl _)]
  simp only [Nat.sub_self,List.getElem_cons_zero]
  refine ⟨hh,fun i hi=>?_,ob,kb,?_,hb,hk⟩
  ·rw [List.getElem?_append_right (by omega),hv,show l.length * 33+i - l.length * 33=i by omega,Array.getElem?_toList]
   exact ndA_lo hi
  ·rw [List.getElem?_append_right (by omega),hv,show l.length * 33+32 - l.length * 33=32 by omega,Array.getElem?_toList]
   exact ndA_hi
def NdOwn (w:World) (lab:Nat→C) (c cb:C) (l:List (By×By)) (o:Option Addr) (n k:Nat):Prop :=
 n=l.length∧∃vs,COw w lab c tNd 33 o n k vs∧NdCells w lab cb vs l
theorem NdOwn.nil (w:World) (lab:Nat→C) (c cb:C):NdOwn w lab c cb [] none 0 0:=⟨rfl,[],COw.nil w lab c _ _,NdCells.nil w lab cb⟩
theorem NdOwn.stp {l:List (By×By)} {o:Option Addr} {n k:Nat} (h:NdOwn w lab c cb l o n k) (s:Stp S w lab w' lab') (hs:¬S c) (hb:¬S cb):NdOwn w' lab' c cb l o n k:=by
 obtain ⟨h1,vs,h2,h3⟩:=h
 exact ⟨h1,vs,h2.stp s hs,h3.stp s hb⟩
theorem NdOwn.push {l:List (By×By)} {o:Option Addr} {n k D:Nat} {h b:By} {ob:Option Addr} {kb:Nat} (H:NdOwn w lab c cb l o n k) (hcb:cb≠c) (B:Blk w D tNd (ndA h ob b.length kb)) (hh:h.length=32) (hb:CBy w lab cb ob b) (hk:b.length≤kb) (hl:l.length≤2 ^ 20) :
 ∃o' k' w',Sem.run Tryz.prog (builtinV .append #[tSlNd,tSlNd] tSlNd #[.slice o n k,.slice (some ⟨D,0,none⟩) 1 1]) w=.ok (.slice o' (n+1) k') w' ∧
  NdOwn w' (ext lab w.heap.size c) c cb (l++[(h,b)]) o' (n+1) k'∧Stp (·=c) w lab w' (ext lab w.heap.size c):=by
 obtain ⟨rfl,vs,hO,hC⟩:=H
 obtain ⟨i,hi,hz,hs,hbt⟩:=info_of info_nd
 obtain ⟨o',k',w',h1,h2,h3⟩:=COw.append (ty:=tSlNd) und_slNd hi hz hs (by rfl) hO (src_one und_slNd B (size_ndA _ _ _ _) (ndA_one _ _ _ _)) (by simp only [maxLen]; omega) (by rw [hbt]; omega)
 exact ⟨o',k',w',h1,⟨by simp,_,h2,(hC.push hh hb hk).stp h3 hcb⟩,h3⟩
end
end Go.Proofs.YtfghidehlnfdiaaGreat
end
section
namespace Go.Trie
def met (out:List (By×By)) (h:By):Bool:=out.any fun x=>decide (x.1=h)
def putNode (out:List (By×By)) (top:Bool) (b:By):List (By×By):=if met out (Go.Vcg.sumOf b) || (!top && decide (b.length < 32)) then out else out++[(Go.Vcg.sumOf b,b)]
def visitN:Nd→Bool→List (By×By)→List (By×By)
 | .nil,_,out=>out
 | .leaf p v,top,out=>putNode out top (bytesOf (.leaf p v))
 | .row p c,top,out=>putNode (visitN c false out) top (bytesOf (.row p c))
 | .branch cs v,top,out=>putNode ((List.finRange 16).foldl (fun o i=>visitN (cs i) false o) out) top (bytesOf (.branch cs v))
def nodesOf (n:Nd):List (By×By):=visitN n true []
def cnt:Nd→Nat
 | .nil=>0
 | .leaf _ _=>1
 | .row _ c=>1+cnt c
 | .branch cs _=>1+((List.finRange 16).map fun i=>cnt (cs i)).sum
theorem putNode_len (out:List (By×By)) (top:Bool) (b:By):(putNode out top b).length≤out.length+1:=by
 unfold putNode; split <;> simp
theorem foldl_len {cs:Fin 16→Nd} (ih:∀i out,(visitN (cs i) false out).length≤out.length+cnt (cs i)):∀(l:List (Fin 16)) (out:List (By×By)),(l.foldl (fun o i=>visitN (cs i) false o) out).length≤out.length+(l.map fun i=>cnt (cs i)).sum
 | [],out=>by simp
 | i :: r,out=>by
   simp only [List.foldl_cons,List.map_cons,List.sum_cons]
   have h1:=foldl_len ih r (visitN (cs i) false out)
   have h2:=ih i out
   omega
theorem visitN_len:∀(n:Nd) (top:Bool) (out:List (By×By)),(visitN n top out).length≤out.length+cnt n
 | .nil,_,out=>by simp [visitN]
 | .leaf p v,top,out=>by simp only [visitN,cnt]; exact putNode_len _ _ _
 | .row p c,top,out=>by
   simp only [visitN,cnt]
   have h1:=putNode_len (visitN c false out) top (bytesOf (.row p c))
   have h2:=visitN_len c false out
   omega
 | .branch cs v,top,out=>by
   simp only [visitN,cnt]
   have h1:=putNode_len ((List.finRange 16).foldl (fun o i=>visitN (cs i) false o) out) top (bytesOf (.branch cs v))
   have h2:=foldl_len (fun i out=>visitN_len (cs i) false out) (List.finRange 16) out
   omega
end Go.Trie
namespace Go.Proofs.YtfghidehlnfdiaaGreat
open Go Go.Vcg Go.Trie
end Go.Proofs.YtfghidehlnfdiaaGreat
end
section
namespace Go.Trie
def emptyH:By:=Go.Vcg.sumOf [128]
def rootOf (n:Nd):By:=Go.Vcg.sumOf (bytesOf n)
theorem bytes_nil:bytesOf .nil=[128]:=by simp [bytesOf,itemOf,enc,own,head]
def putT (n:Nd) (k x:By):Int×Nd:=if k.length > 64 then (140,n) else if x=[]∨x.length > 1024 then (141,n) else (0,put n (nibbles k) x)
end Go.Trie
namespace Go.Proofs.YtfghidehlnfdiaaGreat
open Go Go.Vcg Go.Trie
theorem guard_hash:Tryz.prog.eqGuardType Tryz.prog.depth tHash=false:=by kernel_rfl
theorem info_hash:(Tryz.prog.info? tHash).map (·.size)=some 32:=by kernel_rfl
theorem hash_ne {w:World} (x y:Operand) {a b:By} (ha:a.length=32) (hb:b.length=32):Sem.run Tryz.prog (semBin .neq tHash x y (.agg (hashA a)) (.agg (hashA b))) w=.ok (.bool (decide (a≠b))) w:=by
 have h:=semNe_arr (P:=Tryz.prog) (w:=w) und_hash und_u8 info_u8_size guard_hash x y (fun i=>((a.getD i 0).toNat:Int)) (fun i=>((b.getD i 0).toNat:Int))
 refine h.trans (congrArg (fun x=>Result.ok (Value.bool x) w) ?_)
 rw [Bool.eq_iff_iff,Bool.not_eq_true',decide_eq_false_iff_not,decide_eq_true_eq,ne_eq]
 refine not_congr ?_
 constructor
 ·intro h
  refine hashA_inj ha hb (arrOf_congr (fun i hi=>?_))
  have:=h i hi
  simp only [bV,this]
 ·rintro rfl i _; rfl
theorem hash_eq {w:World} (x y:Operand) {a b:By} (ha:a.length=32) (hb:b.length=32):Sem.run Tryz.prog (semBin .eql tHash x y (.agg (hashA a)) (.agg (hashA b))) w=.ok (.bool (decide (a=b))) w:=by
 have h:=semEq_arr (P:=Tryz.prog) (w:=w) und_hash und_u8 info_u8_size guard_hash x y (fun i=>((a.getD i 0).toNat:Int)) (fun i=>((b.getD i 0).toNat:Int))
 refine h.trans (congrArg (fun x=>Result.ok (Value.bool x) w) ?_)
 rw [Bool.eq_iff_iff,decide_eq_true_eq,decide_eq_true_eq]
 constructor
 ·intro h
  refine hashA_inj ha hb (arrOf_congr (fun i hi=>?_))
  have:=h i hi
  simp only [bV,this]
 ·rintro rfl i _; rfl
theorem hash_store {w:World} {D:Nat} {cs:Array Value} (H:Blk w D tHash cs) (hs:cs.size=32) (h:By) :
 Sem.run Tryz.prog (Instr.storeAt 27 (.pointer (some ⟨D,0,none⟩)) (.agg (hashA h))) w=.ok () (w.setRow D (hashA h))∧Blk (w.setRow D (hashA h)) D tHash (hashA h)∧Vcg.Mod (·=D) w (w.setRow D (hashA h)) :=
 ⟨H.storeAll (by rw [size_hashA]; exact info_hash) (by rw [hs,size_hashA]) (hashA_one _),H.row_same _,Mod.setRow _ _ _⟩
theorem one_u8 (w:World):RdB (w.alloc (.cells #[.int .u8 128] 5)) (some ⟨w.heap.size,0,none⟩) [128] :=
 RdB.of_blk (Blk.new w 5 #[bV 128]) (fun j hj=>by
  obtain rfl:j=0:=by simpa using hj
  rfl)
theorem Empty_calls (w:World):Calls Tryz.prog trie_Empty.n #[] w (fun e w'=>e=.returned (.agg (hashA emptyH))∧Vcg.Mod NoB w w'):=by
 refine trie_Empty.vc _ _ ?_
 unfold trie_Empty.Vc
 rintro d1 w1 ⟨rfl,rfl⟩ d2 w2 ⟨rfl,rfl⟩ d3 w3 ⟨rfl,rfl⟩
 have M1:=Mod.alloc (S:=NoB) w (.cells (Array.replicate 32 (.int .u8 0)) 27)
 have H:=Blk.new w 27 (Array.replicate 32 (.int .u8 0))
 have hs:=size_alloc w (.cells (Array.replicate 32 (.int .u8 0)) 27)
 generalize w.alloc (.cells (Array.replicate 32 (.int .u8 0)) 27)=w1 at *
 have r2:=one_u8 w1
 have M2:=Mod.alloc (S:=NoB) w1 (.cells #[.int .u8 128] 5)
 generalize w1.alloc (.cells #[.int .u8 128] 5)=w2 at *
 have B3:=Blk.new w2 23 #[.slice (some ⟨w1.heap.size,0,none⟩) 1 1]
 have M3:=Mod.alloc (S:=NoB) w2 (.cells #[.slice (some ⟨w1.heap.size,0,none⟩) 1 1] 23)
 refine (Sum_calls [[128]] rfl (by simp) (RdBB.one B3 (r2.mod' M3)) (by simp)).mono ?_
 rintro _ w4 ⟨rfl,M4⟩
 have M24:=(M2.trans M3 (fun _ _ h=>h)).trans M4 (fun _ _ h=>h)
 obtain ⟨h1,h2,h3⟩:=hash_store (H.mod' M24) (by simp) (sumOf [[128]].flatten)
 exact ⟨_,rfl,_,h1,_,h2.rowAll (size_hashA _),rfl,mod_of (M1.trans M24 (fun _ _ h=>h)) h3 (Nat.le_refl _)⟩
theorem run_makeMap {P:Program} {t k e:TypeId} (h:P.underlying t=some (.map k e)) (w:World):∃w',Sem.run P (Instr.makeMap t none) w=.ok (.map (some w.heap.size)) w'∧Vcg.Mod NoB w w'∧w'.heap[w.heap.size]?=some (.map #[] 0):=by
 exact ⟨w.alloc (.map #[] 0),rfl,Mod.alloc _ _,heap_alloc_new _ _⟩
section
variable {C:Type} {S:C→Prop} {w0 w w1 w':World} {lab lab2:Nat→C} {ct c:C}
theorem fits_nil:Fits .nil:=fun k v h=>by simp [Trie.get] at h
end
end Go.Proofs.YtfghidehlnfdiaaGreat
end
section
namespace Go.Trie
theorem cnt_rowed (p:By) (n:Nd):cnt (rowed p n)≤cnt n+1:=by
 unfold rowed
 split
 ·omega
 ·cases n <;> simp only [cnt] <;> omega
theorem sum_update (f g:Fin 16→Nat) (d:Nat) (a:Nat) (h:∀i:Fin 16,i.val≠a→f i=g i) (ha:∀i:Fin 16,i.val=a→f i≤g i+d):∀(l:List (Fin 16)),l.Nodup→(l.map f).sum≤(l.map g).sum+d
 | [],_=>by simp
 | i :: r,hn=>by
   rw [List.nodup_cons] at hn
   simp only [List.map_cons,List.sum_cons]
   by_cases hi:i.val=a
   ·have h1:=ha i hi
    have h2:r.map f=r.map g:=List.map_congr_left (fun j hj=>h j (fun e=>hn.1 (by rw [Fin.ext (hi.trans e.symm)]; exact hj)))
    rw [h2]; omega
   ·have h1:=h i hi
    have h2:=sum_update f g d a h ha r hn.2
    omega
theorem cnt_kid {cs cs':Fin 16→Nd} {x y:By} {a d:Nat} (h:∀i:Fin 16,i.val≠a→cs' i=cs i) (ha:∀i:Fin 16,i.val=a→cnt (cs' i)≤cnt (cs i)+d):cnt (.branch cs' y)≤cnt (.branch cs x)+d:=by
 simp only [cnt]
 have:=sum_update (fun i=>cnt (cs' i)) (fun i=>cnt (cs i)) d a (fun i hi=>by simp only [h i hi]) ha (List.finRange 16) (List.nodup_finRange 16)
 omega
theorem cnt_lay (cs:Fin 16→Nd) (v p x:By) (h:∀a r,p=a :: r→at_ cs a=.nil):cnt (lay cs v p x)≤cnt (.branch cs v)+1:=by
 cases p with
 | nil=>simp only [lay,cnt]; omega
 | cons a r =>
   simp only [lay]
   refine cnt_kid (a:=a.toNat) (fun i hi=>by unfold upd; rw [if_neg hi]) (fun i hi=>?_)
   unfold upd; rw [if_pos hi]; simp only [cnt]; omega
theorem cnt_none (v:By):cnt (.branch none16 v)=1:=by
 have:((List.finRange 16).map fun i=>cnt (none16 i))=List.replicate 16 0:=by decide
 simp only [cnt,this]; rfl
theorem at_nodup {q p:By} {y:By} {a:UInt8} {r:By} {cs:Fin 16→Nd} {v:By} (h:lay none16 [] q y=.branch cs v) (hp:p=a :: r) (hh:∀b s t,¬(q=b :: s∧p=b :: t)):at_ cs a=.nil:=by
 cases q with
 | nil =>
   simp only [lay,Nd.branch.injEq] at h
   rw [← h.1]; exact at_none a
 | cons b s =>
   simp only [lay,Nd.branch.injEq] at h
   rw [← h.1]
   have hne:a≠b:=fun e=>hh b s r ⟨rfl,by rw [hp,e]⟩
   rw [at_upd_ne hne]; exact at_none a
theorem cnt_put:∀(n:Nd) (p x:By),cnt (put n p x)≤cnt n+4
 | .nil,p,x=>by simp only [put,cnt]; omega
 | .leaf q v,p,x=>by
   simp only [put]
   split
   ·simp only [cnt]; omega
   ·obtain ⟨t,q',p',_,_,_,hq',hp',_,hh⟩:=split_shared q p
    have h1:=cnt_rowed (p.take (shared q p)) (lay2 (lay none16 [] (q.drop (shared q p)) v) (p.drop (shared q p)) x)
    have h2:=cnt_lay none16 [] (q.drop (shared q p)) v (fun a r _=>at_none a)
    rw [cnt_none] at h2
    have h3:cnt (lay2 (lay none16 [] (q.drop (shared q p)) v) (p.drop (shared q p)) x)≤cnt (lay none16 [] (q.drop (shared q p)) v)+1:=by
     cases hl:lay none16 [] (q.drop (shared q p)) v with
     | branch cs w =>
       simp only [lay2]
       exact cnt_lay cs w _ x (fun a r hp=>at_nodup hl hp (by rw [← hq',← hp']; exact hh))
     | nil=>cases hd:q.drop (shared q p) <;> rw [hd] at hl <;> simp [lay] at hl
     | leaf a b=>cases hd:q.drop (shared q p) <;> rw [hd] at hl <;> simp [lay] at hl
     | row a b=>cases hd:q.drop (shared q p) <;> rw [hd] at hl <;> simp [lay] at hl
    simp only [cnt]; omega
 | .row q c,p,x=>by
   simp only [put]
   split
   ·have:=cnt_put c (p.drop (shared q p)) x
    simp only [cnt]; omega
   ·rename_i hne
    obtain ⟨t,q',p',_,_,_,hq',hp',_,hh⟩:=split_shared q p
    have hlt:shared q p < q.length:=by have:=(shared_le q p).1; omega
    have h1:=cnt_rowed (p.take (shared q p)) (lay (upd none16 (q.getD (shared q p) 0) (rowed (q.drop (shared q p+1)) c)) [] (p.drop (shared q p)) x)
    have hqd:q.getD (shared q p) 0=q[shared q p]:=by simp [List.getD_eq_getElem?_getD,hlt]
    have h2:=cnt_lay (upd none16 (q.getD (shared q p) 0) (rowed (q.drop (shared q p+1)) c)) [] (p.drop (shared q p)) x (fun a r hp=>by
     have hd:q.drop (shared q p)=q[shared q p] :: q.drop (shared q p+1):=List.drop_eq_getElem_cons hlt
     have hne:a≠q.getD (shared q p) 0:=fun e=>hh a _ r ⟨by rw [hq',hd,← hqd,← e],by rw [hp']; exact hp⟩
     rw [at_upd_ne hne]; exact at_none a)
    have h3:cnt (.branch (upd none16 (q.getD (shared q p) 0) (rowed (q.drop (shared q p+1)) c)) [])≤cnt (.branch none16 [])+(1+cnt c):=by
     refine cnt_kid (a:=(q.getD (shared q p) 0).toNat) (fun i hi=>by unfold upd; rw [if_neg hi]) (fun i hi=>?_)
     unfold upd; rw [if_pos hi]
     have:=cnt_rowed (q.drop (shared q p+1)) c
     omega
    rw [cnt_none] at h3
    simp only [cnt] at *; omega
 | .branch cs v,p,x=>by
   cases p with
   | nil=>simp only [put,cnt]; omega
   | cons a r =>
     simp only [put]
     refine cnt_kid (a:=a.toNat) (fun i hi=>by rw [if_neg hi]) (fun i hi=>?_)
     rw [if_pos hi]
     exact cnt_put (cs i) r x
end Go.Trie
end
section
namespace Go.Proofs.YtfghidehlnfdiaaGreat
open Go Go.Vcg Go.Trie
section
variable {C C':Type} {S:C→Prop} {w0 w w1 w':World} {lab:Nat→C} {lab':Nat→C'} {ct c cb:C} {c' cb':C'}
theorem COw.re {e:TypeId} {sz:Nat} {o:Option Addr} {l k:Nat} {xs:List Value} (h:COw w lab c e sz o l k xs) (hl:∀k,k < w.heap.size→lab k=c→lab' k=c'):COw w lab' c' e sz o l k xs :=
 ⟨h.own,fun k hk=>hl k (h.own.lt hk) (h.clr k hk)⟩
theorem NdCells.re {vs:List Value} {l:List (By×By)} (h:NdCells w lab cb vs l) (hl:∀k,k < w.heap.size→lab k=cb→lab' k=cb'):NdCells w lab' cb' vs l :=
 ⟨h.1,fun j hj=>by obtain ⟨h1,h2,ob,kb,h3,h4⟩:=h.2 j hj; exact ⟨h1,h2,ob,kb,h3,CBy.re h4.1 hl,h4.2⟩⟩
def NdRow (w:World) (lab:Nat→C) (c:C) (l:List (By×By)) (o:Option Addr) (n:Nat):Prop :=
 n=l.length∧∃vs,CRow w lab c o vs∧NdCells w lab c vs l
theorem NdRow.stp {lab2:Nat→C} {l:List (By×By)} {o:Option Addr} {n:Nat} (h:NdRow w lab c l o n) (s:Stp S w lab w' lab2) (hs:¬S c):NdRow w' lab2 c l o n:=by
 obtain ⟨h1,vs,h2,h3⟩:=h
 exact ⟨h1,vs,h2.stp s hs,h3.stp s hs⟩
theorem NdRow.nil (w:World) (lab:Nat→C) (c:C) (o:Option Addr):NdRow w lab c [] o 0:=⟨rfl,[],CRow.nil w lab c o,NdCells.nil w lab c⟩
end
end Go.Proofs.YtfghidehlnfdiaaGreat
end
section
namespace Go.Trie
def ltB:By→By→Prop
 | _,[]=>False
 | [],_ :: _=>True
 | a :: p,b :: q=>a < b∨(a=b∧ltB p q)
theorem ltB_nil (p:By):¬ltB p []:=by cases p <;> simp [ltB]
theorem ltB_irrefl:∀(p:By),¬ltB p p
 | [],h=>h
 | a :: p,h=>by
   rcases h with h | h
   ·exact absurd h (UInt8.lt_irrefl a)
   ·exact ltB_irrefl p h.2
theorem ltB_trans:∀{p q r:By},ltB p q→ltB q r→ltB p r
 | p,q,[],_,h=>(ltB_nil _ h).elim
 | p,[],c :: r,h,_=>(ltB_nil _ h).elim
 | [],b :: q,c :: r,_,_=>trivial
 | a :: p,b :: q,c :: r,h1,h2=>by
   rcases h1 with h1 | ⟨rfl,h1⟩
   ·rcases h2 with h2 | ⟨rfl,h2⟩
    ·exact .inl (UInt8.lt_trans h1 h2)
    ·exact .inl h1
   ·rcases h2 with h2 | ⟨rfl,h2⟩
    ·exact .inl h2
    ·exact .inr ⟨rfl,ltB_trans h1 h2⟩
theorem ltB_cons {a:UInt8} {p q:By}:ltB (a :: p) (a :: q)↔ltB p q:=by
 simp only [ltB]
 constructor
 ·rintro (h | h)
  ·exact absurd h (UInt8.lt_irrefl a)
  ·exact h.2
 ·exact fun h=>.inr ⟨trivial,h⟩
theorem ltB_append {t p q:By}:ltB (t++p) (t++q)↔ltB p q:=by
 induction t with
 | nil=>exact Iff.rfl
 | cons a t ih=>rw [List.cons_append,List.cons_append,ltB_cons,ih]
def Rep (s:List (By×By)) (n:Nd):Prop:=s.Pairwise (fun x y=>ltB x.1 y.1)∧∀k v,get n k=some v↔(k,v)∈s
theorem Rep.nil:Rep [] .nil:=⟨List.Pairwise.nil,fun k v=>by simp [get]⟩
theorem Rep.nil_inv {n:Nd} (h:Rep [] n) (hc:Canon n):n=.nil:=by
 by_cases hn:n=.nil
 ·exact hn
 ·obtain ⟨k,v,hk⟩:=has_key hc hn
  have:=(h.2 k v).1 hk
  simp at this
theorem Rep.ne {s:List (By×By)} {n:Nd} (h:Rep s n) (hs:s≠[]):n≠.nil:=by
 rintro rfl
 cases s with
 | nil=>exact hs rfl
 | cons x r =>
   have:=(h.2 x.1 x.2).2 (by simp)
   simp [get] at this
theorem Rep.leaf {s:List (By×By)} {p v:By} (h:Rep s (.leaf p v)):s=[(p,v)]:=by
 have hm:∀x∈s,x=(p,v):=fun x hx=>by
  have:=(h.2 x.1 x.2).2 hx
  simp only [get] at this
  split at this
  ·rename_i hp
   cases this
   exact Prod.ext hp.symm rfl
  ·cases this
 have hin:(p,v)∈s:=(h.2 p v).1 (by simp [get])
 cases s with
 | nil=>simp at hin
 | cons x r =>
   cases r with
   | nil=>rw [hm x (by simp)]
   | cons y r =>
     have h1:=hm x (by simp)
     have h2:=hm y (by simp)
     have:=(List.pairwise_cons.1 h.1).1 y (by simp)
     rw [h1,h2] at this
     exact (ltB_irrefl _ this).elim
theorem Rep.two {s:List (By×By)} {n:Nd} (h:Rep s n) {k1 v1 k2 v2:By} (h1:get n k1=some v1) (h2:get n k2=some v2) (hne:k1≠k2):2≤s.length:=by
 have m1:=(h.2 _ _).1 h1
 have m2:=(h.2 _ _).1 h2
 match s,m1,m2 with
 | [x],m1,m2 =>
   simp at m1 m2
   exact (hne (by rw [← m2] at m1; exact (Prod.mk.inj m1).1)).elim
 | x :: y :: r,_,_=>simp
theorem Rep.row {s:List (By×By)} {p:By} {c:Nd} (h:Rep s (.row p c)):(∀x∈s,p <+: x.1)∧Rep (s.map fun x=>(x.1.drop p.length,x.2)) c:=by
 have hp:∀x∈s,p <+: x.1:=fun x hx=>by
  obtain ⟨r,hr,_⟩:=get_row_some ((h.2 x.1 x.2).2 hx)
  exact ⟨r,hr.symm⟩
 refine ⟨hp,?_,fun k v=>?_⟩
 ·rw [List.pairwise_map]
  refine List.Pairwise.imp_of_mem (fun {x y} hx hy hxy=>?_) h.1
  obtain ⟨r,hr⟩:=hp x hx
  obtain ⟨t,ht⟩:=hp y hy
  rw [← hr,← ht,ltB_append] at hxy
  simp only [← hr,← ht,List.drop_left]
  exact hxy
 ·rw [← get_row_append p k c,h.2]
  simp only [List.mem_map]
  constructor
  ·intro hm
   exact ⟨_,hm,by simp⟩
  ·rintro ⟨x,hx,he⟩
   obtain ⟨r,hr⟩:=hp x hx
   simp only [Prod.mk.injEq] at he
   rw [← hr,List.drop_left] at he
   obtain ⟨rfl,rfl⟩:=he
   rw [hr]; exact hx
theorem shared_append (t p q:By):shared (t++p) (t++q)=t.length+shared p q:=by
 induction t with
 | nil=>simp
 | cons a t ih=>simp only [List.cons_append,shared,if_true,ih,List.length_cons]; omega
theorem all_head {s:List (By×By)} (hs:s.Pairwise (fun x y=>ltB x.1 y.1)) {x y:By×By} {a:UInt8} {p q:By} (hx:s.head?=some x) (hy:s.getLast?=some y) (hxa:x.1=a :: p) (hya:y.1=a :: q):∀z∈s,∃r,z.1=a :: r:=by
 have hlast:∀{s:List (By×By)} {y:By×By},s.Pairwise (fun x y=>ltB x.1 y.1)→s.getLast?=some y→∀z∈s,z=y∨ltB z.1 y.1:=by
  intro s
  induction s with
  | nil=>intro y _ h; simp at h
  | cons x r ih =>
    intro y hp hl z hz
    rw [List.pairwise_cons] at hp
    cases r with
    | nil=>simp at hl hz; subst hl; exact .inl hz
    | cons x2 r2 =>
      rw [List.getLast?_cons_cons] at hl
      rcases List.mem_cons.1 hz with rfl | hz
      ·have hy:y∈x2 :: r2:=List.mem_of_getLast? hl
       exact .inr (hp.1 y hy)
      ·exact ih hp.2 hl z hz
 have hfirst:∀z∈s,z=x∨ltB x.1 z.1:=by
  intro z hz
  cases s with
  | nil=>simp at hx
  | cons x' r =>
    simp at hx; subst hx
    rcases List.mem_cons.1 hz with rfl | hz
    ·exact .inl rfl
    ·exact .inr ((List.pairwise_cons.1 hs).1 z hz)
 intro z hz
 rcases hfirst z hz with rfl | h1
 ·exact ⟨p,hxa⟩
 rcases hlast hs hy z hz with rfl | h2
 ·exact ⟨q,hya⟩
 rw [hxa] at h1
 rw [hya] at h2
 cases hzz:z.1 with
 | nil=>rw [hzz] at h1; exact (ltB_nil _ h1).elim
 | cons b r =>
   rw [hzz] at h1 h2
   have hab:a=b:=by
    have h3:a < b∨a=b:=h1.elim .inl (fun h=>.inr h.1)
    have h4:b < a∨b=a:=h2.elim .inl (fun h=>.inr h.1)
    rcases h3 with h3 | h3
    ·rcases h4 with h4 | h4
     ·exact absurd (UInt8.lt_trans h3 h4) (UInt8.lt_irrefl a)
     ·exact h4.symm
    ·exact h3
   exact ⟨r,by rw [hab]⟩
theorem Rep.parts {s:List (By×By)} {n:Nd} (h:Rep s n) (hc:Canon n) (hb:IsBranch n) {x y:By×By} (hx:s.head?=some x) (hy:s.getLast?=some y):shared x.1 y.1=0:=by
 cases hx1:x.1 with
 | nil=>simp [shared]
 | cons a p =>
   cases hy1:y.1 with
   | nil=>simp [shared]
   | cons b q =>
     simp only [shared]
     split
     ·rename_i hab
      subst hab
      exfalso
      obtain ⟨k1,v1,k2,v2,h1,h2,hp⟩:=two_keys hc hb
      obtain ⟨r1,e1⟩:=all_head h.1 hx hy hx1 hy1 _ ((h.2 _ _).1 h1)
      obtain ⟨r2,e2⟩:=all_head h.1 hx hy hx1 hy1 _ ((h.2 _ _).1 h2)
      exact hp.2 a r1 r2 ⟨e1,e2⟩
     ·rfl
theorem Rep.shared_row {s:List (By×By)} {p:By} {c:Nd} (h:Rep s (.row p c)) (hc:Canon (.row p c)) {x y:By×By} (hx:s.head?=some x) (hy:s.getLast?=some y):shared x.1 y.1=p.length:=by
 obtain ⟨hp,hr⟩:=h.row
 have hxs:x∈s:=List.mem_of_mem_head? hx
 have hys:y∈s:=List.mem_of_getLast? hy
 obtain ⟨r,er⟩:=hp x hxs
 obtain ⟨t,et⟩:=hp y hys
 have:=hr.parts hc.2.2.2 hc.2.2.1 (x:=(x.1.drop p.length,x.2)) (y:=(y.1.drop p.length,y.2)) (by rw [List.head?_map,hx]; rfl) (by rw [List.getLast?_map,hy]; rfl)
 rw [← er,← et,List.drop_left,List.drop_left] at this
 rw [← er,← et,shared_append,this]; omega
def headLt (a:Nat) (p:By):Prop:=match p with
 | []=>True
 | b :: _=>b.toNat < a
def headGe (a:Nat) (p:By):Prop:=match p with
 | []=>False
 | b :: _=>a≤b.toNat
theorem Rep.kid {s s1 t s3:List (By×By)} {cs:Fin 16→Nd} {v:By} (h:Rep s (.branch cs v)) (a:Fin 16) (he:s=s1++(t++s3)) (h1:∀x∈s1,headLt a.val x.1) (ht:∀x∈t,∃r,x.1=UInt8.ofNat a.val :: r) (h3:∀x∈s3,headGe (a.val+1) x.1) :
 Rep (t.map fun x=>(x.1.drop 1,x.2)) (cs a):=by
 have ha:(UInt8.ofNat a.val).toNat=a.val:=by rw [UInt8.toNat_ofNat']; have:=a.isLt; omega
 have hpt:t.Pairwise (fun x y=>ltB x.1 y.1):=by
  have:=h.1
  rw [he] at this
  exact ((List.pairwise_append.1 ((List.pairwise_append.1 this).2.1))).1
 refine ⟨?_,fun k w=>?_⟩
 ·rw [List.pairwise_map]
  refine List.Pairwise.imp_of_mem (fun {x y} hx hy hxy=>?_) hpt
  obtain ⟨r,hr⟩:=ht x hx
  obtain ⟨q,hq⟩:=ht y hy
  rw [hr,hq,ltB_cons] at hxy
  simp only [hr,hq,List.drop_succ_cons,List.drop_zero]
  exact hxy
 ·rw [← get_branch_cons cs v a k,h.2,he]
  simp only [List.mem_append,List.mem_map]
  constructor
  ·rintro (hm | hm | hm)
   ·have:=h1 _ hm
    simp only [headLt,ha] at this
    omega
   ·exact ⟨_,hm,by simp⟩
   ·have:=h3 _ hm
    simp only [headGe,ha] at this
    omega
  ·rintro ⟨x,hx,hxe⟩
   obtain ⟨r,hr⟩:=ht x hx
   simp only [hr,List.drop_succ_cons,List.drop_zero,Prod.mk.injEq] at hxe
   obtain ⟨rfl,rfl⟩:=hxe
   rw [← hr]
   exact .inr (.inl hx)
theorem rest_ge {s2 t s3:List (By×By)} {a:Nat} (hs:s2.Pairwise (fun x y=>ltB x.1 y.1)) (he:s2=t++s3) (hge:∀x∈s2,headGe a x.1) (hne:∀x,s3.head?=some x→∀b r,x.1=b :: r→b.toNat≠a):∀x∈s3,headGe (a+1) x.1:=by
 subst he
 cases s3 with
 | nil=>intro x hx; simp at hx
 | cons y r =>
   have hy:=hge y (by simp)
   have hps:=(List.pairwise_append.1 hs).2.1
   rw [List.pairwise_cons] at hps
   intro x hx
   cases hy1:y.1 with
   | nil=>rw [hy1] at hy; exact hy.elim
   | cons b q =>
     rw [hy1] at hy
     have hb:=hne y rfl b q hy1
     have hb2:a≤b.toNat:=hy
     rcases List.mem_cons.1 hx with rfl | hx
     ·rw [hy1]; show a+1≤b.toNat; omega
     ·have hlt:=hps.1 x hx
      rw [hy1] at hlt
      cases hx1:x.1 with
      | nil=>rw [hx1] at hlt; exact (ltB_nil _ hlt).elim
      | cons c p =>
        rw [hx1] at hlt
        show a+1≤c.toNat
        rcases hlt with hlt | ⟨rfl,_⟩
        ·have:b.toNat < c.toNat:=UInt8.lt_iff_toNat_lt.1 hlt
         omega
        ·omega
theorem Rep.value {s:List (By×By)} {cs:Fin 16→Nd} {v:By} (h:Rep s (.branch cs v)) {x:By×By} {r:List (By×By)} (hs:s=x :: r):(x.1=[]→v=x.2)∧(x.1≠[]→v=[])∧∀y∈r,y.1≠[]:=by
 subst hs
 refine ⟨fun hx=>?_,fun hx=>?_,fun y hy e=>?_⟩
 ·have:=(h.2 x.1 x.2).2 (by simp)
  rw [hx,get_branch_nil] at this
  split at this
  ·cases this
  ·exact Option.some.inj this
 ·by_cases hv:v=[]
  ·exact hv
  ·exfalso
   have:=(h.2 [] v).1 (by rw [get_branch_nil,if_neg hv])
   rcases List.mem_cons.1 this with e | hm
   ·exact hx (by rw [← e])
   ·have:=(List.pairwise_cons.1 h.1).1 _ hm
    exact ltB_nil _ this
 ·have:=(List.pairwise_cons.1 h.1).1 y hy
  rw [e] at this
  exact ltB_nil _ this
end Go.Trie
end
section
namespace Go.Trie
def cmpB:By→By→Int
 | [],[]=>0
 | [],_ :: _=> -1
 | _ :: _,[]=>1
 | a :: p,b :: q=>if a=b then cmpB p q else if a < b then -1 else 1
theorem cmpB_lt:∀{p q:By},cmpB p q < 0↔ltB p q
 | [],[]=>by simp [cmpB,ltB]
 | [],_ :: _=>by simp [cmpB,ltB]
 | _ :: _,[]=>by simp [cmpB,ltB]
 | a :: p,b :: q=>by
   simp only [cmpB,ltB]
   by_cases hab:a=b
   ·subst hab
    rw [if_pos rfl,cmpB_lt]
    exact ⟨fun h=>.inr ⟨rfl,h⟩,fun h=>h.elim (fun h=>absurd h (UInt8.lt_irrefl a)) (·.2)⟩
   ·rw [if_neg hab]
    by_cases hlt:a < b
    ·rw [if_pos hlt]; simp [hlt]
    ·rw [if_neg hlt]; simp [hlt,hab]
theorem cmpB_append (t p q:By):cmpB (t++p) (t++q)=cmpB p q:=by
 induction t with
 | nil=>rfl
 | cons a t ih=>simp only [List.cons_append,cmpB,if_true,ih]
theorem take_eq_split {p q:By} {j:Nat} (h:p.take j=q.take j):cmpB p q=cmpB (p.drop j) (q.drop j):=by
 have:=cmpB_append (p.take j) (p.drop j) (q.drop j)
 rw [List.take_append_drop,h,List.take_append_drop] at this
 exact this
end Go.Trie
namespace Go.Proofs.YtfghidehlnfdiaaGreat
open Go Go.Vcg Go.Trie
section
variable {w:World}
theorem cmp_calls {o1 o2:Option Addr} {k1 k2:Nat} {a b:By} (h1:RdB w o1 a) (h2:RdB w o2 b) (hl:a.length≤2 ^ 62) :
 Calls Tryz.prog moraineref2_Bytes.n #[.slice o1 a.length k1,.slice o2 b.length k2] w (fun e w'=>e=.returned (.int .i64 (cmpB a b))∧Vcg.Mod NoB w w'):=by
 refine calls_gen fun R hR=>moraineref2_Bytes.vc _ _ _ _ _ _ _ _ ?_
 unfold moraineref2_Bytes.Vc
 refine ⟨fun w'=>Vcg.Mod NoB w w'∧(a.take (min a.length b.length)=b.take (min a.length b.length)),
  ⟨fun i w'=>∃j:Nat,i=(j:Int)∧j≤a.length∧j≤b.length∧a.take j=b.take j∧Vcg.Mod NoB w w',fun i _=>((a.length:Int) - i).toNat,⟨0,rfl,Nat.zero_le _,Nat.zero_le _,rfl,Mod.refl w⟩,?_⟩,?_⟩
 ·rintro _ _ w1 ⟨j,rfl,hja,hjb,ht,M⟩
  refine ⟨fun hla=>⟨fun hlb=>?_,fun hlb=>⟨M,by rw [show min a.length b.length=j by omega]; exact ht⟩⟩,fun hla=>⟨M,by rw [show min a.length b.length=j by omega]; exact ht⟩⟩
  rintro _ rfl
  have ha:j < a.length:=by omega
  have hb:j < b.length:=by omega
  obtain ⟨ba,fa,rfl,hba,hca⟩:=rdb_get h1 ha
  obtain ⟨bb,fb,rfl,hbb,hcb⟩:=rdb_get h2 hb
  have M2:=M.step_drew
  have ca:∀w',Vcg.Mod NoB w w'→w'.cell? (Addr.add ⟨ba,fa,none⟩ (Int.toNat (j:Int)))=some (bV a[j]):=fun w' M=>by rw [add_at,Int.toNat_natCast]; exact (cell_mod M hba (fun h=>h)).trans hca
  have cb:∀w',Vcg.Mod NoB w w'→w'.cell? (Addr.add ⟨bb,fb,none⟩ (Int.toNat (j:Int)))=some (bV b[j]):=fun w' M=>by rw [add_at,Int.toNat_natCast]; exact (cell_mod M hbb (fun h=>h)).trans hcb
  refine ⟨_,rfl,⟨by omega,by omega⟩,_,ca _ M2,_,rfl,⟨by omega,by omega⟩,_,cb _ M2,fun hne=>?_,fun he=>?_⟩
  ·rintro _ rfl
   have M3:=M2.step_drew
   have hab:a[j]≠b[j]:=fun e=>hne (by rw [e])
   have hc:cmpB a b=if a[j] < b[j] then -1 else 1:=by
    rw [take_eq_split ht,List.drop_eq_getElem_cons ha,List.drop_eq_getElem_cons hb]
    simp only [cmpB]; rw [if_neg hab]
   have hlt:a[j] < b[j]↔((a[j].toNat:Int) < (b[j].toNat:Int)):=by rw [UInt8.lt_iff_toNat_lt]; omega
   refine ⟨_,rfl,⟨by omega,by omega⟩,_,ca _ M3,_,rfl,⟨by omega,by omega⟩,_,cb _ M3,fun h=>hR _ _ ⟨?_,M3⟩,fun h=>hR _ _ ⟨?_,M3⟩⟩
   ·rw [hc,if_pos (hlt.2 h)]
   ·rw [hc,if_neg (fun x=>h (hlt.1 x))]
  ·have hab:a[j]=b[j]:=UInt8.toNat_inj.1 (by exact_mod_cast he)
   refine ⟨⟨j+1,by rw [wrap_i64_small (by omega) (by omega)]; omega,ha,hb,?_,M2⟩,by dsimp only; rw [wrap_i64_small (by omega) (by omega)]; omega⟩
   rw [List.take_add_one,List.take_add_one,ht,List.getElem?_eq_getElem ha,List.getElem?_eq_getElem hb,hab]
 ·rintro _ w1 ⟨M,ht⟩
  have hc:=take_eq_split ht
  refine ⟨fun h=>hR _ _ ⟨?_,M⟩,fun h=>⟨fun h'=>hR _ _ ⟨?_,M⟩,fun h'=>hR _ _ ⟨?_,M⟩⟩⟩
  ·rw [hc,List.drop_of_length_le (l:=a) (by omega)]
   cases hd:b.drop (min a.length b.length) with
   | nil=>have:=congrArg List.length hd; rw [List.length_drop] at this; simp at this; omega
   | cons x r=>rfl
  ·rw [hc,List.drop_of_length_le (l:=b) (by omega)]
   cases hd:a.drop (min a.length b.length) with
   | nil=>have:=congrArg List.length hd; rw [List.length_drop] at this; simp at this; omega
   | cons x r=>rfl
  ·rw [hc,List.drop_of_length_le (l:=a) (by omega),List.drop_of_length_le (l:=b) (by omega)]
   rfl
theorem wrap_u8_small (n:Nat):IntKind.wrap .u8 (Int.tmod (n:Int) 256)=((UInt8.ofNat n).toNat:Int):=by
 have:Int.tmod (n:Int) 256=((n % 256:Nat):Int):=rfl
 rw [this,wrap_u8_nat]
 have h1:(UInt8.ofNat (n % 256)).toNat=(UInt8.ofNat n).toNat:=by rw [UInt8.toNat_ofNat',UInt8.toNat_ofNat']; omega
 rw [h1]
theorem rhead_calls (base n:Nat) (hn:n < 2 ^ 31) (hb:base≤192) :
 Calls Tryz.prog moraineref4_head.n #[.int .i64 (base:Int),.int .i64 (n:Int)] w (fun e w'=>∃o k,e=.returned (.slice o (Trie.head n base).length k)∧Fresh w w' tU8 1 o (Trie.head n base).length k ((Trie.head n base).map bV)):=by
 refine calls_gen fun R hR=>moraineref4_head.vc _ _ _ _ ?_
 unfold moraineref4_head.Vc
 refine ⟨fun hs=>?_,fun hs=>?_⟩
 ·rintro d w2 ⟨rfl,rfl⟩
  have e:Trie.head n base=[UInt8.ofNat (base+n)]:=by unfold Trie.head; rw [if_pos (by omega)]
  have ew:IntKind.wrap .i64 ((base:Int)+(n:Int))=((base+n:Nat):Int):=by rw [wrap_i64_small (by omega) (by omega)]; omega
  rw [e] at hR
  rw [ew]
  exact hR _ _ ⟨_,_,rfl,one_byte w _ (wrap_u8_nat _)⟩
 ·have e:Trie.head n base=UInt8.ofNat (base+55+(digits n).length) :: digits n:=by unfold Trie.head; rw [if_neg (by omega)]
  refine ⟨fun o l k n' w'=>∃(f m:Nat) (row:List UInt8),n'=(m:Int)∧m≤n∧m < 256 ^ f∧f≤8∧digits n=digitsF f m++row∧l=row.length∧Fresh w w' tU8 1 o l k (row.map bV),fun _ _ _ n' _=>n'.toNat,
   ⟨8,n,[],rfl,Nat.le_refl _,by omega,Nat.le_refl _,by rw [List.append_nil]; rfl,rfl,Fresh.nil (Mod.refl w) _ _⟩,?_⟩
  rintro o _ k _ _ w1 ⟨f,m,row,rfl,hmn,hm,hf,hd,rfl,F⟩
  have hlen:=digits_le n
  refine ⟨fun hpos=>?_,fun hz=>?_⟩
  ·rintro d w2 ⟨rfl,rfl⟩
   rw [hd,List.length_append] at hlen
   cases f with
   | zero=>simp at hm; omega
   | succ g =>
     have hM:=Mod.alloc (S:=NoB) w1 (.cells #[.int .u8 (IntKind.wrap .u8 (Int.tmod (m:Int) 256))] 5)
     have F1:=one_byte w1 (UInt8.ofNat m) (n:=IntKind.wrap .u8 (Int.tmod (m:Int) 256)) (wrap_u8_small m)
     obtain ⟨o3,k3,w3,hr3,F3⟩:=push_bytes (ty:=tSlU8) (k2:=k) F1 ((fresh_bytes F).mod' hM) (by omega)
     have hstep:digitsF (g+1) m=digitsF g (m / 256)++[UInt8.ofNat m]:=by
      simp only [digitsF]; rw [if_neg (by omega)]
     have hfd:IntKind.wrap .i64 (Int.tdiv (m:Int) 256)=((m / 256:Nat):Int):=by
      rw [show Int.tdiv (m:Int) 256=((m / 256:Nat):Int) from rfl,wrap_i64_small (by omega) (by omega)]
     rw [hfd]
     refine ⟨_,w3,hr3,_,_,_,rfl,⟨g,m / 256,UInt8.ofNat m :: row,rfl,by omega,?_,by omega,?_,?_,?_⟩,?_⟩
     ·rw [Nat.pow_succ] at hm
      exact Nat.div_lt_of_lt_mul (by rw [Nat.mul_comm]; exact hm)
     ·rw [hd,hstep,List.append_assoc]; rfl
     ·simp; omega
     ·exact Fresh.from_ F3 F.mod
     ·dsimp only; omega
  ·have hm0:m=0:=by omega
   subst hm0
   have h0:digitsF f 0=[]:=by cases f <;> simp [digitsF]
   rw [h0,List.nil_append] at hd
   rw [hd] at hlen
   rintro d w3 ⟨rfl,rfl⟩
   have ew2:IntKind.wrap .i64 (IntKind.wrap .i64 ((base:Int)+55)+(((row.length:Nat):Int)))=((base+55+row.length:Nat):Int):=by
    rw [wrap_i64_small (n:=(base:Int)+55) (by omega) (by omega),wrap_i64_small (by omega) (by omega)]; omega
   rw [ew2]
   obtain ⟨o4,k4,w4,hr4,F4⟩:=push_bytes (ty:=tSlU8) (k2:=k) (one_byte w1 _ (wrap_u8_nat (base+55+row.length))) ((fresh_bytes F).mod' (Mod.alloc _ _)) (by omega)
   refine ⟨_,w4,hr4,_,_,_,rfl,hR _ _ ⟨o4,k4,?_,?_⟩⟩
   ·rw [e,List.length_cons,Nat.add_comm,hd]
   ·rw [e,List.length_cons,Nat.add_comm,hd]
    exact Fresh.from_ F4 F.mod
theorem rBytes_calls {o:Option Addr} {k:Nat} {b:By} (h:RdB w o b) (hl:b.length < 2 ^ 30) :
 Calls Tryz.prog moraineref4_Bytes.n #[.slice o b.length k] w (fun e w'=>∃o' k',e=.returned (.slice o' (enc (.s b)).length k')∧Fresh w w' tU8 1 o' (enc (.s b)).length k' ((enc (.s b)).map bV)):=by
 refine calls_gen fun R hR=>moraineref4_Bytes.vc _ _ _ _ _ ?_
 unfold moraineref4_Bytes.Vc
 have long:own b=false→Calls Tryz.prog 114 #[(.int .i64 128),(.int .i64 ((b.length:Nat):Int))] w (fun e17 w18 =>
  ∃o19:Option Addr,∃l20:Nat,∃l21:Nat,e17=.returned (.slice o19 l20 l21) ∧
  ∃(v22:Value) (w23:World),Sem.run Tryz.prog (builtinV .append #[23,23] 23 #[(.slice o19 l20 l21),(.slice o b.length k)]) w18=.ok v22 w23 ∧
  ∃o24:Option Addr,∃l25:Nat,∃l26:Nat,v22=(.slice o24 l25 l26) ∧
  R (.returned (.slice o24 l25 l26)) w23):=by
  intro ho
  have e:enc (.s b)=Trie.head b.length 128++b:=by simp only [enc]; rw [if_neg (by rw [ho]; simp)]
  rw [e,List.length_append] at hR
  refine (rhead_calls 128 b.length (by omega) (by omega)).mono ?_
  rintro _ w1 ⟨o1,k1,rfl,F1⟩
  have:=(head_len b.length 128).2
  obtain ⟨o2,k2,w2,hr2,F2⟩:=push_bytes (ty:=tSlU8) (k2:=k) F1 (h.mod' F1.mod) (by omega)
  exact ⟨_,_,_,rfl,_,w2,hr2,_,_,_,rfl,hR _ _ ⟨o2,k2,rfl,F2⟩⟩
 refine ⟨fun h1=>?_,fun h1=>long ?_⟩
 ·obtain ⟨a,rfl⟩:∃a,b=[a]:=List.length_eq_one_iff.1 (by omega)
  obtain ⟨B,f,rfl,hB,hc⟩:=rdb_get h (i:=0) (by simp)
  have h2:a < 128↔a.toNat < 128:=by
   have:∀n:Fin 256,(UInt8.ofFin n < 128↔(UInt8.ofFin n).toNat < 128):=by decide +kernel
   exact this a.toFin
  simp only [List.getElem_cons_zero] at hc
  refine ⟨_,rfl,⟨by omega,by omega⟩,_,by rw [add_at]; exact hc,fun hlt=>⟨_,rfl,⟨by omega,by omega⟩,_,by rw [add_at]; exact hc,?_⟩,fun hge=>long (by show decide (a < 128)=false; rw [decide_eq_false_iff_not,h2]; omega)⟩
  rintro d w2 ⟨rfl,rfl⟩
  have e:enc (.s [a])=[a]:=by simp only [enc]; rw [if_pos (by show decide (a < 128)=true; rw [decide_eq_true_eq,h2]; omega)]
  rw [e] at hR
  exact hR _ _ ⟨_,_,rfl,one_byte w a rfl⟩
 ·unfold own
  split
  ·simp at h1
  ·rfl
theorem str_calls {o:Option Addr} {k:Nat} {b:By} (h:RdB w o b) (hl:b.length < 2 ^ 30) :
 Calls Tryz.prog moraineref14_str.n #[.slice o b.length k] w (fun e w'=>∃o' k',e=.returned (.slice o' (enc (.s b)).length k')∧Fresh w w' tU8 1 o' (enc (.s b)).length k' ((enc (.s b)).map bV)):=by
 refine moraineref14_str.vc _ _ _ _ _ ?_
 unfold moraineref14_str.Vc
 refine (rBytes_calls h hl).mono ?_
 rintro _ w1 ⟨o1,k1,rfl,F1⟩
 exact ⟨_,_,_,rfl,o1,k1,rfl,F1⟩
theorem rList_calls {o:Option Addr} {k:Nat} {b:By} (h:RdB w o b) (hl:b.length < 2 ^ 30) :
 Calls Tryz.prog moraineref4_List.n #[.slice o b.length k] w (fun e w'=>∃o' k',e=.returned (.slice o' (Trie.head b.length 192++b).length k')∧Fresh w w' tU8 1 o' (Trie.head b.length 192++b).length k' ((Trie.head b.length 192++b).map bV)):=by
 refine moraineref4_List.vc _ _ _ _ _ ?_
 unfold moraineref4_List.Vc
 refine (rhead_calls 192 b.length (by omega) (by omega)).mono ?_
 rintro _ w1 ⟨o1,k1,rfl,F1⟩
 have:=(head_len b.length 192).2
 obtain ⟨o2,k2,w2,hr2,F2⟩:=push_bytes (ty:=tSlU8) (k2:=k) F1 (h.mod' F1.mod) (by omega)
 exact ⟨_,_,_,rfl,_,w2,hr2,_,_,_,rfl,o2,k2,by rw [List.length_append],by rw [List.length_append]; exact F2⟩
theorem rhi_nib (b:UInt8):IntKind.wrap .u8 (Int.tdiv (b.toNat:Int) 16)=((b >>> 4).toNat:Int):=by
 have:∀n:Fin 256,IntKind.wrap .u8 (Int.tdiv ((UInt8.ofFin n).toNat:Int) 16)=((UInt8.ofFin n >>> 4).toNat:Int):=by decide +kernel
 exact this b.toFin
theorem rlo_nib (b:UInt8):Int.tmod (b.toNat:Int) 16=((b &&& 15).toNat:Int):=by
 have:∀n:Fin 256,Int.tmod ((UInt8.ofFin n).toNat:Int) 16=((UInt8.ofFin n &&& 15).toNat:Int):=by decide +kernel
 exact this b.toFin
theorem rNibbles_calls {o:Option Addr} {k:Nat} {bs:By} (hr:RdB w o bs) (hl:bs.length≤2 ^ 30) :
 Calls Tryz.prog moraineref14_Nibbles.n #[.slice o bs.length k] w (fun e w'=>∃o' k',e=.returned (.slice o' (nibbles bs).length k')∧Fresh w w' tU8 1 o' (nibbles bs).length k' ((nibbles bs).map bV)):=by
 refine moraineref14_Nibbles.vc _ _ _ _ _ ?_
 unfold moraineref14_Nibbles.Vc
 refine ⟨fun o' l' k' i w'=>∃j:Nat,i=(j:Int)∧j≤bs.length∧l'=(nibbles (bs.take j)).length∧Fresh w w' tU8 1 o' l' k' ((nibbles (bs.take j)).map bV),fun _ _ _ i _=>((bs.length:Int) - i).toNat,
  ⟨0,rfl,Nat.zero_le _,rfl,Fresh.nil (Mod.refl w) _ _⟩,?_⟩
 rintro o' _ k' _ _ w1 ⟨j,rfl,hj,rfl,F⟩
 refine ⟨fun hlt=>?_,fun hge=>?_⟩
 ·rintro _ rfl
  have hjl:j < bs.length:=by omega
  obtain ⟨b,f,rfl,hb,hc⟩:=rdb_get hr hjl
  have htk:bs.take (j+1)=bs.take j++[bs[j]]:=by rw [List.take_add_one,List.getElem?_eq_getElem hjl]; rfl
  have F':=F.mod' (Mod.drew (S:=NoB) w1)
  have hc':w1.drew.cell? (Addr.add ⟨b,f,none⟩ (Int.toNat (j:Int)))=some (bV bs[j]):=by rw [add_at,Int.toNat_natCast]; exact (cell_mod F'.mod hb (fun h=>h)).trans hc
  refine ⟨_,rfl,⟨by omega,by omega⟩,_,hc',_,rfl,⟨by omega,by omega⟩,_,hc',?_⟩
  rintro d w2 ⟨rfl,rfl⟩
  have hnl:=nibbles_len (bs.take j)
  rw [List.length_take] at hnl
  obtain ⟨o3,k3,w3,hr3,F3⟩:=push_bytes (ty:=tSlU8) (k2:=2) (F'.mod' (Mod.alloc _ _)) (two_bytes (w:=w1.drew) (bs[j] >>> 4) (bs[j] &&& 15) (rhi_nib _) (rlo_nib _)) (by simp; omega)
  refine ⟨_,w3,hr3,_,_,_,rfl,⟨j+1,by rw [wrap_i64_small (by omega) (by omega)]; omega,hjl,?_,?_⟩,?_⟩
  ·rw [htk,nibbles_snoc,List.length_append]
  ·rw [htk,nibbles_snoc]; exact F3
  ·dsimp only
   rw [wrap_i64_small (by omega) (by omega)]; omega
 ·obtain rfl:j=bs.length:=by omega
  rw [List.take_length] at F ⊢
  exact ⟨_,_,rfl,F⟩
theorem rEmpty_calls (w:World):Calls Tryz.prog moraineref14_Empty.n #[] w (fun e w'=>e=.returned (.agg (hashA emptyH))∧Vcg.Mod NoB w w'):=by
 refine moraineref14_Empty.vc _ _ ?_
 unfold moraineref14_Empty.Vc
 rintro d1 w1 ⟨rfl,rfl⟩ d2 w2 ⟨rfl,rfl⟩
 have M1:=Mod.alloc (S:=NoB) w (.cells (Array.replicate 32 (.int .u8 0)) 27)
 have H:=Blk.new w 27 (Array.replicate 32 (.int .u8 0))
 generalize w.alloc (.cells (Array.replicate 32 (.int .u8 0)) 27)=w1 at *
 have r2:=one_u8 w1
 have M2:=Mod.alloc (S:=NoB) w1 (.cells #[.int .u8 128] 5)
 generalize w1.alloc (.cells #[.int .u8 128] 5)=w2 at *
 refine (refSum_calls [128] rfl (by simp) r2).mono ?_
 rintro _ w4 ⟨rfl,M4⟩
 have M24:=M2.trans M4 (fun _ _ h=>h)
 obtain ⟨h1,h2,h3⟩:=hash_store (H.mod' M24) (by simp) (sumOf [128])
 exact ⟨_,rfl,_,h1,_,h2.rowAll (size_hashA _),rfl,mod_of (M1.trans M24 (fun _ _ h=>h)) h3 (Nat.le_refl _)⟩
end
end Go.Proofs.YtfghidehlnfdiaaGreat
end
section
namespace Go.Proofs.YtfghidehlnfdiaaGreat
open Go Go.Vcg Go.Trie
theorem pair_add (a b:UInt8) (hb:b.toNat < 16):IntKind.wrap .u8 (IntKind.wrap .u8 (16 * (a.toNat:Int))+(b.toNat:Int))=((a <<< 4 ||| b).toNat:Int):=by
 have:∀(n:Fin 256) (m:Fin 16),IntKind.wrap .u8 (IntKind.wrap .u8 (16 * ((UInt8.ofFin n).toNat:Int))+(m.val:Int))=((UInt8.ofFin n <<< 4 ||| UInt8.ofNat m.val).toNat:Int):=by decide +kernel
 have h:=this a.toFin ⟨b.toNat,hb⟩
 simp only at h
 rw [show UInt8.ofNat b.toNat=b by simp] at h
 exact h
theorem nib_headed {p:By} (h:Nib p) (leaf:Bool):Nib (headed p leaf):=by
 intro x hx
 unfold headed at hx
 split at hx
 ·rcases List.mem_cons.1 hx with rfl | hx
  ·cases leaf <;> decide
  ·exact h x hx
 ·rcases List.mem_cons.1 hx with rfl | hx
  ·cases leaf <;> decide
  ·rcases List.mem_cons.1 hx with rfl | hx
   ·decide
   ·exact h x hx
section
variable {w:World}
theorem rPack_calls {o:Option Addr} {k:Nat} {bs:By} (hr:RdB w o bs) (hl:bs.length≤2 ^ 30) (leaf:Bool) :
 Calls Tryz.prog moraineref14_Pack.n #[.slice o bs.length k,.bool leaf] w (fun e w'=>∃o' k',e=.returned (.tuple #[.slice o' (pack bs leaf).1.length k',.int .i64 (pack bs leaf).2])∧Fresh w w' tU8 1 o' (pack bs leaf).1.length k' ((pack bs leaf).1.map bV)):=by
 refine calls_gen fun R hR=>moraineref14_Pack.vc _ _ _ _ _ _ ?_
 unfold moraineref14_Pack.Vc
 have bad:packBad bs→R (.returned (.tuple #[.slice none 0 0,.int .i64 140])) w:=fun h=>by
  refine hR _ _ ⟨none,0,?_,?_⟩
  ·unfold pack; rw [if_pos h]; rfl
  ·unfold pack; rw [if_pos h]; exact Fresh.nil (Mod.refl w) _ _
 refine ⟨fun h=>bad (.inl (by omega)),fun h128=>?_⟩
 refine ⟨fun i w'=>∃j:Nat,i=(j:Int)∧j≤bs.length∧w'=w∧∀x∈bs.take j,x.toNat < 16,fun i _=>((bs.length:Int) - i).toNat,⟨0,rfl,Nat.zero_le _,rfl,by simp⟩,?_⟩
 rintro _ _ w ⟨j,rfl,hj,rfl,hn⟩
 refine ⟨fun hlt=>?_,fun hge=>?_⟩
 ·have hjl:j < bs.length:=by omega
  obtain ⟨b,f,rfl,hb,hc⟩:=rdb_get hr hjl
  have htk:bs.take (j+1)=bs.take j++[bs[j]]:=by rw [List.take_add_one,List.getElem?_eq_getElem hjl]; rfl
  refine ⟨_,rfl,⟨by omega,by omega⟩,_,by rw [add_at,Int.toNat_natCast]; exact hc,fun h=>bad (.inr ⟨bs[j],List.getElem_mem _,?_⟩),fun h=>⟨⟨j+1,by rw [wrap_i64_small (by omega) (by omega)]; omega,hjl,rfl,?_⟩,by dsimp only; rw [wrap_i64_small (by omega) (by omega)]; omega⟩⟩
  ·show (16:UInt8)≤bs[j]
   rw [UInt8.le_iff_toNat_le]
   show 16≤_
   omega
  ·intro x hx
   rw [htk] at hx
   rcases List.mem_append.1 hx with hx | hx
   ·exact hn x hx
   ·simp only [List.mem_singleton] at hx; subst hx; omega
 ·obtain rfl:j=bs.length:=by omega
  rw [List.take_length] at hn
  have hnib:Nib bs:=hn
  have hgood:¬packBad bs:=by
   rintro (h | ⟨x,hx,h⟩)
   ·omega
   ·have h1:=hn x hx
    have h2:(16:UInt8)≤x:=h
    rw [UInt8.le_iff_toNat_le] at h2
    have h3:16≤x.toNat:=h2
    omega
  have hpk:pack bs leaf=(pairs (headed bs leaf),0):=by unfold pack; rw [if_neg hgood]
  rw [hpk] at hR
  refine ⟨fun m w'=>m=((flagOf leaf).toNat:Int)∧w'=w,⟨fun h=>⟨by rw [h]; rfl,rfl⟩,fun h=>⟨by rw [h]; rfl,rfl⟩⟩,?_⟩
  rintro _ _ w7 ⟨rfl,rfl⟩
  rintro d8 w9 ⟨rfl,rfl⟩
  have hho:(headOf bs leaf).length≤2:=by unfold headOf; split <;> simp
  refine ⟨fun o' l' k' w'=>∃k0,k'=k0∧l'=(headOf bs leaf).length∧Fresh w7 w' tU8 1 o' l' k' ((headOf bs leaf).map bV),⟨fun hodd=>?_,fun hev=>?_⟩,?_⟩
  ·rintro d11 w12 ⟨rfl,rfl⟩
   have ho:bs.length % 2=1:=by
    have:Int.tmod ((bs.length:Nat):Int) 2=((bs.length % 2:Nat):Int):=rfl
    omega
   have e:headOf bs leaf=[flagOf leaf+1]:=by unfold headOf; rw [if_pos ho]
   rw [e]
   have hw:IntKind.wrap .u8 (((flagOf leaf).toNat:Int)+1)=((flagOf leaf+1).toNat:Int):=by cases leaf <;> decide
   rw [hw]
   exact ⟨_,rfl,rfl,Fresh.from_ (fresh_blk _ [flagOf leaf+1] _ rfl (by simp [maxLen])) (Mod.alloc _ _)⟩
  ·have ho:¬bs.length % 2=1:=by
    have:Int.tmod ((bs.length:Nat):Int) 2=((bs.length % 2:Nat):Int):=rfl
    omega
   have e:headOf bs leaf=[flagOf leaf,0]:=by unfold headOf; rw [if_neg ho]
   rw [e]
   exact ⟨_,rfl,rfl,fresh_blk _ [flagOf leaf,0] _ rfl (by simp [maxLen])⟩
  ·rintro o13 _ _ _ w14 ⟨c13,rfl,rfl,F14⟩
   obtain ⟨o16,k16,w16,hr16,F16⟩:=push_bytes (ty:=tSlU8) (k2:=k) F14 (hr.mod' F14.mod) (by omega)
   rw [← headed_eq] at F16
   have hlh:(headOf bs leaf).length+bs.length=(headed bs leaf).length:=by rw [headed_eq,List.length_append]
   rw [hlh] at hr16 F16
   refine ⟨_,w16,hr16,_,_,_,rfl,?_⟩
   obtain ⟨N,hN⟩:=headed_even bs leaf
   have hrh:=fresh_bytes F16
   have hnh:=nib_headed hnib leaf
   generalize headed bs leaf=H at *
   refine ⟨fun o' l' k' i w'=>∃j:Nat,i=((2 * j:Nat):Int)∧j≤N∧l'=(pairs (H.take (2 * j))).length∧Fresh w16 w' tU8 1 o' l' k' ((pairs (H.take (2 * j))).map bV),fun _ _ _ i _=>((H.length:Int) - i).toNat,
    ⟨0,rfl,Nat.zero_le _,rfl,Fresh.nil (Mod.refl w16) _ _⟩,?_⟩
   rintro o' _ k' _ _ w23 ⟨j,rfl,hj,rfl,F⟩
   refine ⟨fun hlt=>?_,fun hge=>?_⟩
   ·rintro _ rfl
    have h1:2 * j < H.length:=by omega
    have h2:2 * j+1 < H.length:=by omega
    have F24:=F.mod' (Mod.drew (S:=NoB) w23)
    obtain ⟨b,f,rfl,hb,hc1⟩:=rdb_get hrh h1
    obtain ⟨b',f',hb',_,hc2⟩:=rdb_get hrh h2
    cases hb'
    have e1:IntKind.wrap .i64 (((2 * j:Nat):Int)+1)=((2 * j+1:Nat):Int):=by rw [wrap_i64_small (by omega) (by omega)]; omega
    have e2:IntKind.wrap .i64 (((2 * j:Nat):Int)+2)=((2 * (j+1):Nat):Int):=by rw [wrap_i64_small (by omega) (by omega)]; omega
    rw [e1,e2]
    refine ⟨_,rfl,⟨by omega,by omega⟩,_,by rw [add_at,Int.toNat_natCast]; exact (cell_mod F24.mod hb (fun h=>h)).trans hc1,_,rfl,⟨by omega,by omega⟩,_,by rw [add_at,Int.toNat_natCast]; exact (cell_mod F24.mod hb (fun h=>h)).trans hc2,?_⟩
    rw [pair_add _ _ (hnh _ (List.getElem_mem _))]
    rintro d29 w30 ⟨rfl,rfl⟩
    have htk:H.take (2 * (j+1))=H.take (2 * j)++[H[2 * j],H[2 * j+1]]:=by
     rw [show 2 * (j+1)=2 * j+1+1 by omega,List.take_add_one,List.take_add_one,List.getElem?_eq_getElem h1,List.getElem?_eq_getElem h2,List.append_assoc]; rfl
    have htl:(H.take (2 * j)).length=2 * j:=by rw [List.length_take]; omega
    have hps:=pairs_snoc j (H.take (2 * j)) H[2 * j] H[2 * j+1] htl
    have hpl:=pairs_len j (H.take (2 * j)) htl
    have one:RdB (w23.drew.alloc (.cells #[.int .u8 ((H[2 * j] <<< 4 ||| H[2 * j+1]).toNat:Int)] 5)) (some ⟨w23.drew.heap.size,0,none⟩) [H[2 * j] <<< 4 ||| H[2 * j+1]] :=
     RdB.of_blk (Blk.new w23.drew 5 #[bV (H[2 * j] <<< 4 ||| H[2 * j+1])]) (fun i hi=>by
      obtain rfl:i=0:=by simpa using hi
      rfl)
    obtain ⟨o31,k31,w31,hr31,F31⟩:=push_bytes (ty:=tSlU8) (k2:=1) (F24.mod' (Mod.alloc _ _)) one (by simp; omega)
    refine ⟨_,w31,hr31,_,_,_,rfl,⟨j+1,rfl,by omega,?_,?_⟩,by dsimp only; omega⟩
    ·rw [htk,hps,List.length_append]
    ·rw [htk,hps]; exact F31
   ·obtain rfl:j=N:=by omega
    rw [List.take_of_length_le (by omega)] at F ⊢
    exact hR _ _ ⟨_,_,rfl,Fresh.from_ F F16.mod⟩
end
abbrev tRn:TypeId:=62
abbrev tSlRn:TypeId:=28
theorem und_slRn:Tryz.prog.underlying tSlRn=some (.slice tRn):=by kernel_rfl
theorem info_rn:(Tryz.prog.info? tRn).map (fun i=>(i.zero,i.size,i.bytes))=some (some (.agg nd0),33,56):=by kernel_rfl
section
variable {C:Type} {S:C→Prop} {w0 w w1 w':World} {lab lab':Nat→C} {c cb:C}
def RnOwn (w:World) (lab:Nat→C) (c cb:C) (l:List (By×By)) (o:Option Addr) (n k:Nat):Prop :=
 n=l.length∧∃vs,COw w lab c tRn 33 o n k vs∧NdCells w lab cb vs l
theorem RnOwn.nil (w:World) (lab:Nat→C) (c cb:C):RnOwn w lab c cb [] none 0 0:=⟨rfl,[],COw.nil w lab c _ _,NdCells.nil w lab cb⟩
theorem RnOwn.stp {l:List (By×By)} {o:Option Addr} {n k:Nat} (h:RnOwn w lab c cb l o n k) (s:Stp S w lab w' lab') (hs:¬S c) (hb:¬S cb):RnOwn w' lab' c cb l o n k:=by
 obtain ⟨h1,vs,h2,h3⟩:=h
 exact ⟨h1,vs,h2.stp s hs,h3.stp s hb⟩
theorem RnOwn.push {l:List (By×By)} {o:Option Addr} {n k D:Nat} {h b:By} {ob:Option Addr} {kb:Nat} (H:RnOwn w lab c cb l o n k) (hcb:cb≠c) (B:Blk w D tRn (ndA h ob b.length kb)) (hh:h.length=32) (hb:CBy w lab cb ob b) (hk:b.length≤kb) (hl:l.length≤2 ^ 20) :
 ∃o' k' w',Sem.run Tryz.prog (builtinV .append #[tSlRn,tSlRn] tSlRn #[.slice o n k,.slice (some ⟨D,0,none⟩) 1 1]) w=.ok (.slice o' (n+1) k') w' ∧
  RnOwn w' (ext lab w.heap.size c) c cb (l++[(h,b)]) o' (n+1) k'∧Stp (·=c) w lab w' (ext lab w.heap.size c):=by
 obtain ⟨rfl,vs,hO,hC⟩:=H
 obtain ⟨i,hi,hz,hs,hbt⟩:=info_of info_rn
 obtain ⟨o',k',w',h1,h2,h3⟩:=COw.append (ty:=tSlRn) und_slRn hi hz hs (by rfl) hO (src_one und_slRn B (size_ndA _ _ _ _) (ndA_one _ _ _ _)) (by simp only [maxLen]; omega) (by rw [hbt]; omega)
 exact ⟨o',k',w',h1,⟨by simp,_,h2,(hC.push hh hb hk).stp h3 hcb⟩,h3⟩
theorem NdCells.hash {vs:List Value} {l:List (By×By)} {o:Option Addr} (h:NdCells w lab cb vs l) (hR:CRow w lab c o vs) {j:Nat} (hj:j < l.length):∃g f,o=some ⟨g,f,none⟩∧g < w.heap.size∧lab g=c∧RowAt w ⟨g,f+j * 33,none⟩ 32 (hashA l[j].1):=by
 obtain ⟨h1,h2,ob,kb,h3,h4⟩:=h.2 j hj
 obtain ⟨g,f,ho,hg,hl,hc⟩:=hR _ _ h3
 refine ⟨g,f,ho,hg,hl,size_hashA _,fun i hi=>?_⟩
 obtain ⟨g',f',ho',_,_,hc'⟩:=hR _ _ (h2 i hi)
 rw [ho] at ho'; cases ho'
 rw [add_at,show f+j * 33+i=f+(j * 33+i) by omega,hc']
 show _=(arrOf 32 (fun i=>bV (l[j].1.getD i 0)))[i]?
 rw [get_arrOf_lt hi]
theorem NdCells.bytes {vs:List Value} {l:List (By×By)} {o:Option Addr} (h:NdCells w lab cb vs l) (hR:CRow w lab c o vs) {j:Nat} (hj:j < l.length):∃g f,o=some ⟨g,f,none⟩∧g < w.heap.size∧∃ob kb,w.cell? ⟨g,f+(j * 33+32),none⟩=some (.slice ob l[j].2.length kb)∧CBy w lab cb ob l[j].2∧l[j].2.length≤kb:=by
 obtain ⟨h1,h2,ob,kb,h3,h4⟩:=h.2 j hj
 obtain ⟨g,f,ho,hg,hl,hc⟩:=hR _ _ h3
 exact ⟨g,f,ho,hg,ob,kb,hc,h4⟩
end
end Go.Proofs.YtfghidehlnfdiaaGreat
end
