/- The verification conditions of some functions, printed by a program of ours (wip/PrintVc.lean). -/
/- References and nodes of package proof in memory; contracts: refOf, isBranch, valueIf, CutPrefix. -/
/- Contracts: nodeOf, parsed (package proof). -/
/- Contracts: rootOf, parsed, gives, way (package proof). -/
/- Contracts: way (package proof). -/
/- Contracts: stored, bytesOf, what Prove asks (package proof); lists of bytes. -/
/- Contracts: bytesOf, what Prove asks; lists of bytes in memory. -/
import Derived.Test.YtfghidehlnfdiaaGreatTVX
import Derived.Test.YtfghidehlnfdiaaGreatProg
import Derived.KernelRfl
set_option linter.unusedVariables false
set_option linter.unusedSimpArgs false
section
namespace Go.Proofs.YtfghidehlnfdiaaGreat
open Go Go.Vcg
abbrev Z0A.n:Nat:=6
def Z0A.Vc  (w:World) (R:Ending→World→Prop):Prop :=
 ∀d0 w1,ZC w 5 #[(.int .u8 97)] d0 w1 →
 ∃v2 w3,Sem.run Tryz.prog (convert 23 23 (.slice (some d0) 1 1)) w1=.ok v2 w3 ∧
 ∃o4 l5 l6,v2=(.slice o4 l5 l6) ∧
 ∀d7 w8,ZC w3 5 #[(.int .u8 49)] d7 w8 →
 ∃v9 w10,Sem.run Tryz.prog (convert 23 23 (.slice (some d7) 1 1)) w8=.ok v9 w10 ∧
 ∃o11 l12 l13,v9=(.slice o11 l12 l13) ∧
 ∀d14 w15,ZC w10 53 #[(.slice o4 l5 l6),(.slice o11 l12 l13)] d14 w15 →
 Calls Tryz.prog 8 #[(.slice (some d14) 1 1)] w15 (fun e16 w17 =>
 ∃L18 o19 l20 l21,e16=.returned (.tuple #[(.agg L18),(.slice o19 l20 l21)]) ∧
 ∀d22 w23,ZC w17 27 (Array.replicate 32 (.int .u8 0)) d22 w23 →
 ∃w24,Sem.run Tryz.prog (Instr.storeAt 27 (.pointer (some d22)) (.agg L18)) w23=.ok () w24 ∧
 ∀w25,ZN w24 w25 →
 ∃L26,ZJ w25 d22 32 L26 ∧
 ((Calls Tryz.prog 10 #[(.slice o19 l20 l21)] w25 (fun e27 w28 =>
 ∃o29 l30 l31,e27=.returned (.slice o29 l30 l31) ∧
 ZJ w28 d22 32 L26 ∧
 ∀d32 w33,ZC w28 5 #[(.int .u8 97)] d32 w33 →
 ZJ w33 d22 32 L26 ∧
 ∃v34 w35,Sem.run Tryz.prog (convert 23 23 (.slice (some d32) 1 1)) w33=.ok v34 w35 ∧
 ∃o36 l37 l38,v34=(.slice o36 l37 l38) ∧
 ZJ w35 d22 32 L26 ∧
 Calls Tryz.prog 21 #[(.slice o29 l30 l31),(.agg L26),(.slice o36 l37 l38)] w35 (fun e39 w40 =>
 ∃o41 l42 l43 n44,e39=.returned (.tuple #[(.slice o41 l42 l43),(.int .i64 n44)]) ∧
 ∃L45,ZJ w40 d22 32 L45 ∧
 ∀d46 w47,ZC w40 5 #[(.int .u8 97)] d46 w47 →
 ∃v48 w49,Sem.run Tryz.prog (convert 23 23 (.slice (some d46) 1 1)) w47=.ok v48 w49 ∧
 ∃o50 l51 l52,v48=(.slice o50 l51 l52) ∧
 Calls Tryz.prog 22 #[(.agg L45),(.slice o50 l51 l52),(.slice o41 l42 l43)] w49 (fun e53 w54 =>
 ∃o55 l56 l57 b58 n59,e53=.returned (.tuple #[(.slice o55 l56 l57),(.bool b58),(.int .i64 n59)]) ∧
 ∃L60,ZJ w54 d22 32 L60 ∧
 ∀d61 w62,ZC w54 5 #[(.int .u8 98)] d61 w62 →
 ∃v63 w64,Sem.run Tryz.prog (convert 23 23 (.slice (some d61) 1 1)) w62=.ok v63 w64 ∧
 ∃o65 l66 l67,v63=(.slice o65 l66 l67) ∧
 Calls Tryz.prog 22 #[(.agg L60),(.slice o65 l66 l67),(.slice o41 l42 l43)] w64 (fun e68 w69 =>
 ∃o70 l71 l72 b73 n74,e68=.returned (.tuple #[(.slice o70 l71 l72),(.bool b73),(.int .i64 n74)]) ∧
 (((n44=0 →
 (((n59=0 →
 (((n74=0 →
 (((b58=true →
 (((b73=false →
 (((((l42:Nat):Int)=1 →
 ∃v75,Sem.run Tryz.prog (convert 23 9 (.slice o55 l56 l57)) w69=.ok v75 w69 ∧
 ∃s76,v75=(.string s76) ∧
 R (.returned (.bool (Z9a .eql s76 ⟨#[49]⟩))) w69)) ∧
 ((((l42:Nat):Int)≠1 →
 R (.returned (.bool false)) w69))))) ∧
 ((b73=true →
 R (.returned (.bool false)) w69))))) ∧
 ((b58=false →
 R (.returned (.bool false)) w69))))) ∧
 ((n74≠0 →
 R (.returned (.bool false)) w69))))) ∧
 ((n59≠0 →
 R (.returned (.bool false)) w69))))) ∧
 ((n44≠0 →
 R (.returned (.bool false)) w69)))))))) ∧
 (∀d77 w78,ZC w25 5 #[(.int .u8 97)] d77 w78 →
 ZJ w78 d22 32 L26 ∧
 ((Calls Tryz.prog 10 #[(.slice o19 l20 l21)] w78 (fun e79 w80 =>
 ∃o81 l82 l83,e79=.returned (.slice o81 l82 l83) ∧
 ZJ w80 d22 32 L26 ∧
 ∃v84 w85,Sem.run Tryz.prog (convert 23 23 (.slice (some d77) 1 1)) w80=.ok v84 w85 ∧
 ∃o86 l87 l88,v84=(.slice o86 l87 l88) ∧
 ZJ w85 d22 32 L26 ∧
 Calls Tryz.prog 21 #[(.slice o81 l82 l83),(.agg L26),(.slice o86 l87 l88)] w85 (fun e89 w90 =>
 ∃o91 l92 l93 n94,e89=.returned (.tuple #[(.slice o91 l92 l93),(.int .i64 n94)]) ∧
 ∃L95,ZJ w90 d22 32 L95 ∧
 ∀d96 w97,ZC w90 5 #[(.int .u8 97)] d96 w97 →
 ∃v98 w99,Sem.run Tryz.prog (convert 23 23 (.slice (some d96) 1 1)) w97=.ok v98 w99 ∧
 ∃o100 l101 l102,v98=(.slice o100 l101 l102) ∧
 Calls Tryz.prog 22 #[(.agg L95),(.slice o100 l101 l102),(.slice o91 l92 l93)] w99 (fun e103 w104 =>
 ∃o105 l106 l107 b108 n109,e103=.returned (.tuple #[(.slice o105 l106 l107),(.bool b108),(.int .i64 n109)]) ∧
 ∃L110,ZJ w104 d22 32 L110 ∧
 ∀d111 w112,ZC w104 5 #[(.int .u8 98)] d111 w112 →
 ∃v113 w114,Sem.run Tryz.prog (convert 23 23 (.slice (some d111) 1 1)) w112=.ok v113 w114 ∧
 ∃o115 l116 l117,v113=(.slice o115 l116 l117) ∧
 Calls Tryz.prog 22 #[(.agg L110),(.slice o115 l116 l117),(.slice o91 l92 l93)] w114 (fun e118 w119 =>
 ∃o120 l121 l122 b123 n124,e118=.returned (.tuple #[(.slice o120 l121 l122),(.bool b123),(.int .i64 n124)]) ∧
 (((n94=0 →
 (((n109=0 →
 (((n124=0 →
 (((b108=true →
 (((b123=false →
 (((((l92:Nat):Int)=1 →
 ∃v125,Sem.run Tryz.prog (convert 23 9 (.slice o105 l106 l107)) w119=.ok v125 w119 ∧
 ∃s126,v125=(.string s126) ∧
 R (.returned (.bool (Z9a .eql s126 ⟨#[49]⟩))) w119)) ∧
 ((((l92:Nat):Int)≠1 →
 R (.returned (.bool false)) w119))))) ∧
 ((b123=true →
 R (.returned (.bool false)) w119))))) ∧
 ((b108=false →
 R (.returned (.bool false)) w119))))) ∧
 ((n124≠0 →
 R (.returned (.bool false)) w119))))) ∧
 ((n109≠0 →
 R (.returned (.bool false)) w119))))) ∧
 ((n94≠0 →
 R (.returned (.bool false)) w119)))))))) ∧
 (∃v127 w128,Sem.run Tryz.prog (convert 23 23 (.slice (some d77) 1 1)) w78=.ok v127 w128 ∧
 ∃o129 l130 l131,v127=(.slice o129 l130 l131) ∧
 ZJ w128 d22 32 L26 ∧
 Calls Tryz.prog 10 #[(.slice o19 l20 l21)] w128 (fun e132 w133 =>
 ∃o134 l135 l136,e132=.returned (.slice o134 l135 l136) ∧
 ZJ w133 d22 32 L26 ∧
 Calls Tryz.prog 21 #[(.slice o134 l135 l136),(.agg L26),(.slice o129 l130 l131)] w133 (fun e137 w138 =>
 ∃o139 l140 l141 n142,e137=.returned (.tuple #[(.slice o139 l140 l141),(.int .i64 n142)]) ∧
 ∃L143,ZJ w138 d22 32 L143 ∧
 ∀d144 w145,ZC w138 5 #[(.int .u8 97)] d144 w145 →
 ∃v146 w147,Sem.run Tryz.prog (convert 23 23 (.slice (some d144) 1 1)) w145=.ok v146 w147 ∧
 ∃o148 l149 l150,v146=(.slice o148 l149 l150) ∧
 Calls Tryz.prog 22 #[(.agg L143),(.slice o148 l149 l150),(.slice o139 l140 l141)] w147 (fun e151 w152 =>
 ∃o153 l154 l155 b156 n157,e151=.returned (.tuple #[(.slice o153 l154 l155),(.bool b156),(.int .i64 n157)]) ∧
 ∃L158,ZJ w152 d22 32 L158 ∧
 ∀d159 w160,ZC w152 5 #[(.int .u8 98)] d159 w160 →
 ∃v161 w162,Sem.run Tryz.prog (convert 23 23 (.slice (some d159) 1 1)) w160=.ok v161 w162 ∧
 ∃o163 l164 l165,v161=(.slice o163 l164 l165) ∧
 Calls Tryz.prog 22 #[(.agg L158),(.slice o163 l164 l165),(.slice o139 l140 l141)] w162 (fun e166 w167 =>
 ∃o168 l169 l170 b171 n172,e166=.returned (.tuple #[(.slice o168 l169 l170),(.bool b171),(.int .i64 n172)]) ∧
 (((n142=0 →
 (((n157=0 →
 (((n172=0 →
 (((b156=true →
 (((b171=false →
 (((((l140:Nat):Int)=1 →
 ∃v173,Sem.run Tryz.prog (convert 23 9 (.slice o153 l154 l155)) w167=.ok v173 w167 ∧
 ∃s174,v173=(.string s174) ∧
 R (.returned (.bool (Z9a .eql s174 ⟨#[49]⟩))) w167)) ∧
 ((((l140:Nat):Int)≠1 →
 R (.returned (.bool false)) w167))))) ∧
 ((b171=true →
 R (.returned (.bool false)) w167))))) ∧
 ((b156=false →
 R (.returned (.bool false)) w167))))) ∧
 ((n172≠0 →
 R (.returned (.bool false)) w167))))) ∧
 ((n157≠0 →
 R (.returned (.bool false)) w167))))) ∧
 ((n142≠0 →
 R (.returned (.bool false)) w167))))))))))))
theorem Z0A.vc  (w:World) (R:Ending→World→Prop) (h:Z0A.Vc w R):Calls Tryz.prog 6 #[] w R :=
 Z8 (R:=⟨R,false⟩) (ann:=[]) (args:=[]) Tryz.func6 ZR (Eq.mp (by kernel_rfl:Z0A.Vc w R=ZP (pA Tryz.prog ⟨R,false⟩) Tryz.prog [] Tryz.f6 [] w) h)

abbrev Z0Y.n:Nat:=7
def Z0Y.Vc (o0:Option Addr) (l0 c0:Nat) (w:World) (R:Ending→World→Prop):Prop :=
 (((((l0:Nat):Int) > 40 →
 R (.returned (.bool false)) w)) ∧
 ((¬((l0:Nat):Int) > 40 →
 ∃(I1:Int→World→Prop) (μ1:Int→World→Nat),I1 0 w ∧
 (∀(n2:Int) (j3:Nat→Value) (w3:World),I1 n2 w3 →
 (((n2 < ((l0:Nat):Int) →
 ∀w4,ZN w3 w4 →
 ∃d5,o0=some d5 ∧
 ((0:Int)≤n2∧n2 < ((l0:Nat):Int)) ∧
 ∃o6 l7 l8,World.cell? w4 (Addr.add d5 ((Int.toNat n2) * 2))=some (.slice o6 l7 l8) ∧
 (((((l7:Nat):Int) > 64 →
 R (.returned (.bool false)) w4)) ∧
 ((¬((l7:Nat):Int) > 64 →
 ∃d9,o0=some d9 ∧
 ((0:Int)≤n2∧n2 < ((l0:Nat):Int)) ∧
 ∃o10 l11 l12,World.cell? w4 (Addr.add (Addr.add d9 ((Int.toNat n2) * 2)) 1)=some (.slice o10 l11 l12) ∧
 (((((l11:Nat):Int) < 1 →
 R (.returned (.bool false)) w4)) ∧
 ((¬((l11:Nat):Int) < 1 →
 ∃d13,o0=some d13 ∧
 ((0:Int)≤n2∧n2 < ((l0:Nat):Int)) ∧
 ∃o14 l15 l16,World.cell? w4 (Addr.add (Addr.add d13 ((Int.toNat n2) * 2)) 1)=some (.slice o14 l15 l16) ∧
 (((((l15:Nat):Int) > 300 →
 R (.returned (.bool false)) w4)) ∧
 ((¬((l15:Nat):Int) > 300 →
 (((n2 > 0 →
 ∃d17,o0=some d17 ∧
 ((0:Int)≤(IntKind.wrap .i64 (n2 - 1))∧(IntKind.wrap .i64 (n2 - 1)) < ((l0:Nat):Int)) ∧
 ∃o18 l19 l20,World.cell? w4 (Addr.add d17 ((Int.toNat (IntKind.wrap .i64 (n2 - 1))) * 2))=some (.slice o18 l19 l20) ∧
 ∃d21,o0=some d21 ∧
 ((0:Int)≤n2∧n2 < ((l0:Nat):Int)) ∧
 ∃o22 l23 l24,World.cell? w4 (Addr.add d21 ((Int.toNat n2) * 2))=some (.slice o22 l23 l24) ∧
 Calls Tryz.prog 23 #[(.slice o18 l19 l20),(.slice o22 l23 l24)] w4 (fun e25 w26 =>
 ∃n27,e25=.returned (.int .i64 n27) ∧
 (((n27≥0 →
 R (.returned (.bool false)) w26)) ∧
 ((¬n27≥0 →
 I1 (IntKind.wrap .i64 (n2+1)) w26∧μ1 (IntKind.wrap .i64 (n2+1)) w26 < μ1 n2 w3)))))) ∧
 ((¬n2 > 0 →
 I1 (IntKind.wrap .i64 (n2+1)) w4∧μ1 (IntKind.wrap .i64 (n2+1)) w4 < μ1 n2 w3)))))))))))))) ∧
 ((¬n2 < ((l0:Nat):Int) →
 R (.returned (.bool true)) w3)))))))
theorem Z0Y.vc (o0:Option Addr) (l0:Nat) (c0:Nat) (w:World) (R:Ending→World→Prop) (h:Z0Y.Vc o0 l0 c0 w R):Calls Tryz.prog 7 #[(.slice o0 l0 c0)] w R :=
 Z8 (R:=⟨R,false⟩) (ann:=[(4,[(3,.cell (.int .i64))])]) (args:=[.slice o0 l0 c0]) Tryz.func7 ZR (Eq.mp (by kernel_rfl:Z0Y.Vc o0 l0 c0 w R=ZP (pA Tryz.prog ⟨R,false⟩) Tryz.prog [(4,[(3,.cell (.int .i64))])] Tryz.f7 [.slice o0 l0 c0] w) h)

abbrev Zw.n:Nat:=14
def Zw.Vc (o0:Option Addr) (l0 c0:Nat) (n1:Int) (o2:Option Addr) (l2 c2:Nat) (w:World) (R:Ending→World→Prop):Prop :=
 (((n1 < 0 →
 R (.returned (.slice o0 l0 c0)) w)) ∧
 ((¬n1 < 0 →
 (((n1≥((l0:Nat):Int) →
 R (.returned (.slice o0 l0 c0)) w)) ∧
 ((¬n1≥((l0:Nat):Int) →
 ∃v3 w4,Sem.run Tryz.prog (builtinV .append #[34,34] 34 #[(.slice none 0 0),(.slice o0 l0 c0)]) w=.ok v3 w4 ∧
 ∃o5 l6 l7,v3=(.slice o5 l6 l7) ∧
 (((((l2:Nat):Int)=0 →
 ∀w8,ZN w4 w8 →
 ∃v9,Sem.run Tryz.prog (Instr.sliceAt 34 (.slice o5 l6 l7) none (some (.int .i64 n1)) (some (.int .i64 n1))) w8=.ok v9 w8 ∧
 ∃o10 l11 l12,v9=(.slice o10 l11 l12) ∧
 ((0:Int)≤(IntKind.wrap .i64 (n1+1))∧(IntKind.wrap .i64 (n1+1))≤((l6:Nat):Int)) ∧
 ∃v13 w14,Sem.run Tryz.prog (builtinV .append #[34,34] 34 #[(.slice o10 l11 l12),(.slice (subO o5 l7 (Int.toNat (IntKind.wrap .i64 (n1+1))) 33) (l6 - (Int.toNat (IntKind.wrap .i64 (n1+1)))) (l7 - (Int.toNat (IntKind.wrap .i64 (n1+1)))))]) w8=.ok v13 w14 ∧
 ∃o15 l16 l17,v13=(.slice o15 l16 l17) ∧
 R (.returned (.slice o15 l16 l17)) w14)) ∧
 ((((l2:Nat):Int)≠0 →
 ∃d18,o5=some d18 ∧
 ((0:Int)≤n1∧n1 < ((l6:Nat):Int)) ∧
 Z1 w4 (Addr.add (Addr.add d18 ((Int.toNat n1) * 33)) 32) (.slice o2 l2 c2)∧∀w19,ZA w4 (Addr.add (Addr.add d18 ((Int.toNat n1) * 33)) 32) (.slice o2 l2 c2) w19 →
 R (.returned (.slice o5 l6 l7)) w19)))))))))
theorem Zw.vc (o0:Option Addr) (l0:Nat) (c0:Nat) (n1:Int) (o2:Option Addr) (l2:Nat) (c2:Nat) (w:World) (R:Ending→World→Prop) (h:Zw.Vc o0 l0 c0 n1 o2 l2 c2 w R):Calls Tryz.prog 14 #[(.slice o0 l0 c0),(.int .i64 n1),(.slice o2 l2 c2)] w R :=
 Z8 (R:=⟨R,false⟩) (ann:=[]) (args:=[.slice o0 l0 c0,.int .i64 n1,.slice o2 l2 c2]) Tryz.func14 ZR (Eq.mp (by kernel_rfl:Zw.Vc o0 l0 c0 n1 o2 l2 c2 w R=ZP (pA Tryz.prog ⟨R,false⟩) Tryz.prog [] Tryz.f14 [.slice o0 l0 c0,.int .i64 n1,.slice o2 l2 c2] w) h)


end Go.Proofs.YtfghidehlnfdiaaGreat
end
section
namespace Go.Proofs.YtfghidehlnfdiaaGreat
open Go Go.Vcg Go.Trie
section
variable {D:Nat} {t:TypeId} {w:World}
theorem ZHO {a b c d v1 v2 v3 v4:Value} {R':World→Prop} (X:Blk w D t #[a,b,c,d]) (h1:v1.oneCell'=true) (h2:v2.oneCell'=true) (h3:v3.oneCell'=true) (h4:v4.oneCell'=true) (K:∀w',Blk w' D t #[v1,v2,v3,v4]→Vcg.Mod (·=D) w w'→R' w') :
  Z1 w ⟨D,0,none⟩ v1∧∀w1:World,ZA w ⟨D,0,none⟩ v1 w1→Z1 w1 (Addr.add ⟨D,0,none⟩ 1) v2∧∀w2:World,ZA w1 (Addr.add ⟨D,0,none⟩ 1) v2 w2→Z1 w2 (Addr.add ⟨D,0,none⟩ 2) v3∧∀w3:World,ZA w2 (Addr.add ⟨D,0,none⟩ 2) v3 w3 →
   Z1 w3 (Addr.add ⟨D,0,none⟩ 3) v4∧∀w4:World,ZA w3 (Addr.add ⟨D,0,none⟩ 3) v4 w4→R' w4:=by
 refine ⟨X.canSet (by simp) h1,?_⟩
 rintro _ rfl
 have X1:=X.set 0 v1
 have Q1:Vcg.Mod (·=D) w _:=Mod.setCell w ⟨D,0,none⟩ v1
 rw [Z6,Nat.zero_add]
 refine ⟨X1.canSet (by simp) h2,?_⟩
 rintro _ rfl
 have X2:=X1.set 1 v2
 have Q2:=Q1.step_set (a:=⟨D,1,none⟩) (v:=v2) (fun _=>rfl)
 rw [Z6,Nat.zero_add]
 refine ⟨X2.canSet (by simp) h3,?_⟩
 rintro _ rfl
 have X3:=X2.set 2 v3
 have Q3:=Q2.step_set (a:=⟨D,2,none⟩) (v:=v3) (fun _=>rfl)
 rw [Z6,Nat.zero_add]
 refine ⟨X3.canSet (by simp) h4,?_⟩
 rintro _ rfl
 have X4:=X3.set 3 v4
 have Q4:=Q3.step_set (a:=⟨D,3,none⟩) (v:=v4) (fun _=>rfl)
 exact K _ X4 Q4
theorem get4 {b:Bool} {o1 o2 o3:Option Addr} {l1 k1 l2 k2 l3 k3:Nat} {R':Bool→Option Addr→Nat→Nat→Option Addr→Nat→Nat→Option Addr→Nat→Nat→Prop} (X:Blk w D t #[.bool b,.slice o1 l1 k1,.slice o2 l2 k2,.slice o3 l3 k3]) (h:R' b o1 l1 k1 o2 l2 k2 o3 l3 k3) :
  ∃b65:Bool,∃o66:Option Addr,∃l67:Nat,∃l68:Nat,∃o69:Option Addr,∃l70:Nat,∃l71:Nat,∃o72:Option Addr,∃l73:Nat,∃l74:Nat,World.cell? w ⟨D,0,none⟩=some (.bool b65) ∧
   World.cell? w (Addr.add ⟨D,0,none⟩ 1)=some (.slice o66 l67 l68)∧World.cell? w (Addr.add ⟨D,0,none⟩ 2)=some (.slice o69 l70 l71)∧World.cell? w (Addr.add ⟨D,0,none⟩ 3)=some (.slice o72 l73 l74)∧R' b65 o66 l67 l68 o69 l70 l71 o72 l73 l74 :=
 ⟨_,_,_,_,_,_,_,_,_,_,X.rd1 rfl,by rw [Z6]; exact X.rd1 rfl,by rw [Z6]; exact X.rd1 rfl,by rw [Z6]; exact X.rd1 rfl,h⟩
end
abbrev ZF8:TypeId:=82
abbrev ZI3:TypeId:=84
theorem ZAl:Tryz.prog.underlying ZI3=some (.slice ZF8):=by kernel_rfl
def zeros32:List Value:=List.replicate 32 (.int .u8 0)
def rfA (h:List Value) (p:Option Addr) (b:Bool):Array Value:=(h++[Value.pointer p,Value.bool b]).toArray
theorem Z0r {h:List Value} (hh:h.length=32) (p:Option Addr) (b:Bool):(rfA h p b).size=34:=by simp [rfA,hh]
theorem ZFH:(Tryz.prog.info? ZF8).map (fun i=>(i.zero,i.size,i.bytes))=some (some (.agg (rfA zeros32 none false)),34,48):=by kernel_rfl
theorem ZFf:(Tryz.prog.info? ZF8).map (·.size)=some 34:=by kernel_rfl
theorem Z5H {h:List Value} (hh:∀v∈h,v.oneCell'=true) (p:Option Addr) (b:Bool):∀v∈(rfA h p b).toList,v.oneCell'=true:=by
 intro v hv
 simp only [rfA,List.mem_append,List.mem_cons,List.not_mem_nil,or_false] at hv
 rcases hv with hv | rfl | rfl
 ·exact hh v hv
 ·rfl
 ·rfl
theorem Z5y:∀v∈zeros32,v.oneCell'=true:=fun v hv=>by rw [List.eq_of_mem_replicate hv]; rfl
theorem ZCe {h:List Value} (hh:h.length=32) {p:Option Addr} {b:Bool} {i:Nat} (hi:i < 32):(rfA h p b)[i]?=h[i]?:=by
 unfold rfA; rw [List.getElem?_toArray,List.getElem?_append_left (by omega)]
theorem Z4v {h:List Value} (hh:h.length=32) {p:Option Addr} {b:Bool}:(rfA h p b)[32]?=some (.pointer p):=by
 unfold rfA; rw [List.getElem?_toArray,List.getElem?_append_right (by omega),hh]; rfl
theorem Z7k {h:List Value} (hh:h.length=32) {p:Option Addr} {b:Bool}:(rfA h p b)[33]?=some (.bool b):=by
 unfold rfA; rw [List.getElem?_toArray,List.getElem?_append_right (by omega),hh]; rfl
theorem ZAM {n:Nat} {Z L:Array Value} (hZ:Z.size=n) (hL:L.size=n):lputL Z 0 n L=L:=by
 unfold lputL
 have ht:L.toList.take n=L.toList:=List.take_of_length_le (by simp [hL])
 rw [ht]
 apply Array.ext_getElem?
 intro i
 rw [Z03 _ _ _ _ (by simp [hL,hZ])]
 by_cases hi:i < n
 ·rw [if_pos ⟨Nat.zero_le _,by simp [hL]; exact hi⟩,Nat.sub_zero,Array.getElem?_toList]
 ·rw [if_neg (by simp [hL]; omega),Array.getElem?_eq_none (by omega),Array.getElem?_eq_none (by omega)]
theorem ZCf {Z H:Array Value} {p:Option Addr} {b0:Bool} (hZ:Z=rfA zeros32 p b0) (hH:H.size=32) (b:Bool):setsAt (lputL Z 0 32 H) 33 [.bool b]=rfA H.toList p b:=by
 have hl:H.toList.length=32:=by simp [hH]
 have hzs:Z.size=34:=by rw [hZ]; exact Z0r rfl _ _
 have ht:H.toList.take 32=H.toList:=List.take_of_length_le (by omega)
 have e1:lputL Z 0 32 H=setsAt Z 0 H.toList:=by unfold lputL; rw [ht]
 have hs1:(setsAt Z 0 H.toList).size=34:=by rw [Zb,hzs]
 rw [e1]
 apply Array.ext_getElem?
 intro i
 rw [Z03 _ _ _ _ (by rw [hs1]; simp)]
 by_cases h33:i=33
 ·subst h33
  rw [if_pos (by simp),Z7k hl]; rfl
 ·rw [if_neg (by simp; omega),Z03 _ _ _ _ (by rw [hzs,hl]; omega)]
  by_cases hi:i < 32
  ·rw [if_pos ⟨Nat.zero_le _,by rw [hl]; omega⟩,Nat.sub_zero,ZCe hl hi]
  ·rw [if_neg (by rw [hl]; omega),hZ]
   by_cases h32:i=32
   ·subst h32; rw [Z4v hl]; exact Z4v rfl
   ·rw [Array.getElem?_eq_none (by rw [Z0r rfl]; omega),Array.getElem?_eq_none (by rw [Z0r hl]; omega)]
theorem ZEe {H:Array Value} (hH:H.size=32) (b:Bool):setsAt (lputL #[(.int .u8 0),(.int .u8 0),(.int .u8 0),(.int .u8 0),(.int .u8 0),(.int .u8 0),(.int .u8 0),(.int .u8 0),(.int .u8 0),(.int .u8 0),(.int .u8 0),(.int .u8 0),(.int .u8 0),(.int .u8 0),(.int .u8 0),(.int .u8 0),(.int .u8 0),(.int .u8 0),(.int .u8 0),(.int .u8 0),(.int .u8 0),(.int .u8 0),(.int .u8 0),(.int .u8 0),(.int .u8 0),(.int .u8 0),(.int .u8 0),(.int .u8 0),(.int .u8 0),(.int .u8 0),(.int .u8 0),(.int .u8 0),(.pointer none),(.bool false)] 0 32 H) 33 [.bool b]=rfA H.toList none b:=ZCf (p:=none) (b0:=false) rfl hH b
theorem Z7g (w:World):w.alloc (.cells #[(.int .u8 0),(.int .u8 0),(.int .u8 0),(.int .u8 0),(.int .u8 0),(.int .u8 0),(.int .u8 0),(.int .u8 0),(.int .u8 0),(.int .u8 0),(.int .u8 0),(.int .u8 0),(.int .u8 0),(.int .u8 0),(.int .u8 0),(.int .u8 0),(.int .u8 0),(.int .u8 0),(.int .u8 0),(.int .u8 0),(.int .u8 0),(.int .u8 0),(.int .u8 0),(.int .u8 0),(.int .u8 0),(.int .u8 0),(.int .u8 0),(.int .u8 0),(.int .u8 0),(.int .u8 0),(.int .u8 0),(.int .u8 0),(.pointer none),(.bool false)] 82)=w.alloc (.cells (rfA zeros32 none false) 82):=rfl
section
variable {A:Nat→Prop} {w w':World}
def RdA (A:Nat→Prop) (w:World) (o:Option Addr) (b:By):Prop:=RdB w o b∧(b≠[]→∀d,o=some d→¬A d.block)
theorem RdA.modA {S:Nat→Prop} {o:Option Addr} {b:By} (h:RdA A w o b) (M:Vcg.Mod S w w') (hS:∀b,S b→A b):RdA A w' o b:=by
 refine ⟨fun hne=>?_,h.2⟩
 obtain ⟨g,f,ho,hg,hc⟩:=h.1 hne
 exact ⟨g,f,ho,Nat.lt_of_lt_of_le hg M.size,fun i hi=>(ZX M hg (fun hh=>h.2 hne _ ho (hS _ hh))).trans (hc i hi)⟩
theorem RdA.mod' {o:Option Addr} {b:By} (h:RdA A w o b) (M:Vcg.Mod NoB w w'):RdA A w' o b:=h.modA M (fun _ h=>h.elim)
theorem RdA.mono {A':Nat→Prop} {o:Option Addr} {b:By} (h:RdA A w o b) (hA:∀b,b < w.heap.size→A' b→A b):RdA A' w o b :=
 ⟨h.1,fun hne d hd hh=>by
  obtain ⟨g,f,ho,hg,_⟩:=h.1 hne
  rw [ho] at hd
  cases hd
  exact h.2 hne _ ho (hA _ hg hh)⟩
theorem ItC.restr {A':Nat→Prop} (hA:∀b,b < w.heap.size→A' b→A b) {x:It} {v1 v2 v3:Value} (h:ItC A w x v1 v2 v3):ItC A' w x v1 v2 v3 :=
 ItC.mono (fun b hb=>(Nat.lt_or_ge b w.heap.size).imp (fun h=>hA b h hb) id) _ (ItC.old _ h)
theorem Z1k.restr {A':Nat→Prop} (hA:∀b,b < w.heap.size→A' b→A b) {xs:List It} {o:Option Addr} {k:Nat} (h:Z1k A w xs o k):Z1k A' w xs o k :=
 Z1k.mono (fun b hb=>(Nat.lt_or_ge b w.heap.size).imp (fun h=>hA b h hb) id) _ (Z1k.old _ h)
def RfC (A:Nat→Prop) (w:World):It→Array Value→Prop
 | .s b,L=>(b=[]∧∃h:List Value,h.length=32∧(∀v∈h,v.oneCell'=true)∧L=rfA h none false)∨(b.length=32∧L=rfA (hashA b).toList none true)
 | .l xs,L=>∃D v1 v2 v3,L=rfA zeros32 (some ⟨D,0,none⟩) true∧¬A D∧Blk w D 111 #[v1,v2,v3]∧ItC A w (.l xs) v1 v2 v3
theorem RfC.modA {S:Nat→Prop} {x:It} {L:Array Value} (h:RfC A w x L) (M:Vcg.Mod S w w') (hS:∀b,S b→A b):RfC A w' x L:=by
 cases x with
 | s b=>exact h
 | l xs =>
   obtain ⟨D,v1,v2,v3,h1,h2,h3,h4⟩:=h
   exact ⟨D,v1,v2,v3,h1,h2,h3.mod M (fun h=>h2 (hS _ h)),ItC.modA M hS _ h4⟩
theorem RfC.mod' {x:It} {L:Array Value} (h:RfC A w x L) (M:Vcg.Mod NoB w w'):RfC A w' x L:=h.modA M (fun _ h=>h.elim)
theorem RfC.restr {A':Nat→Prop} (hA:∀b,b < w.heap.size→A' b→A b) {x:It} {L:Array Value} (h:RfC A w x L):RfC A' w x L:=by
 cases x with
 | s b=>exact h
 | l xs =>
   obtain ⟨D,v1,v2,v3,h1,h2,h3,h4⟩:=h
   exact ⟨D,v1,v2,v3,h1,fun hh=>h2 (hA D h3.lt hh),h3,ItC.restr hA h4⟩
theorem RfC.size {x:It} {L:Array Value} (h:RfC A w x L):L.size=34:=by
 cases x with
 | s b =>
   rcases h with ⟨_,h,hh,_,rfl⟩ | ⟨_,rfl⟩
   ·exact Z0r hh _ _
   ·exact Z0r (Z0x _) _ _
 | l xs=>obtain ⟨D,v1,v2,v3,rfl,_⟩:=h; exact Z0r rfl _ _
theorem RfC.one {x:It} {L:Array Value} (h:RfC A w x L):∀v∈L.toList,v.oneCell'=true:=by
 cases x with
 | s b =>
   rcases h with ⟨_,h,_,hh,rfl⟩ | ⟨_,rfl⟩
   ·exact Z5H hh _ _
   ·exact Z5H (Z2c _) _ _
 | l xs=>obtain ⟨D,v1,v2,v3,rfl,_⟩:=h; exact Z5H Z5y _ _
theorem Z3c {D:Nat} {t:TypeId} {cs L:Array Value} {x:It} {A:Nat→Prop} {w w0:World} (H:Blk w D t cs) (hs:cs.size=34) (hL:L.size=34) (h1:∀v∈L.toList,v.oneCell'=true) :
  ∃w',Sem.run Tryz.prog (Instr.storeAt ZF8 (.pointer (some ⟨D,0,none⟩)) (.agg L)) w=.ok () w'∧Blk w' D t L∧Vcg.Mod (·=D) w w' :=
 ⟨_,H.storeAll (by rw [hL]; exact ZFf) (by omega) h1,H.row_same L,Mod.setRow w D L⟩
theorem Z7h {x:It} {v1 v2 v3:Value} (hg:Z3D x) (hA:∀b,w.heap.size≤b→¬A b) (hx:ItC A w x v1 v2 v3) :
  Calls Tryz.prog Z1v.n #[.agg #[v1,v2,v3]] w (fun e w'=>∃L,e=.returned (.agg L)∧Vcg.Mod NoB w w'∧RfC A w' x L):=by
 obtain ⟨b,o1,l1,c1,o2,l2,c2,rfl,rfl,rfl⟩:=hx.vals
 refine Z1v.vc _ _ _ _ _ _ _ _ _ ?_
 unfold Z1v.Vc
 rintro d3 w1 ⟨rfl,rfl⟩
 have M1:=Mod.alloc (S:=NoB) w (.cells #[.bool b,.slice o1 l1 c1,.slice o2 l2 c2] 111)
 have X1:=Blk.new w 111 #[.bool b,.slice o1 l1 c1,.slice o2 l2 c2]
 have hAD:=hA _ (Nat.le_refl w.heap.size)
 have hx1:=ItC.mod M1 _ hx
 have hs1:=ZD w (.cells #[.bool b,.slice o1 l1 c1,.slice o2 l2 c2] 111)
 generalize w.heap.size=D at *
 generalize w.alloc (.cells #[.bool b,.slice o1 l1 c1,.slice o2 l2 c2] 111)=w1 at *
 rintro d5 w2 ⟨rfl,rfl⟩
 have M2:=Mod.alloc (S:=NoB) w1 (.cells (rfA zeros32 none false) 82)
 have H2:=Blk.new w1 82 (rfA zeros32 none false)
 have hgen:w1.alloc (.cells #[(.int .u8 0),(.int .u8 0),(.int .u8 0),(.int .u8 0),(.int .u8 0),(.int .u8 0),(.int .u8 0),(.int .u8 0),(.int .u8 0),(.int .u8 0),(.int .u8 0),(.int .u8 0),(.int .u8 0),(.int .u8 0),(.int .u8 0),(.int .u8 0),(.int .u8 0),(.int .u8 0),(.int .u8 0),(.int .u8 0),(.int .u8 0),(.int .u8 0),(.int .u8 0),(.int .u8 0),(.int .u8 0),(.int .u8 0),(.int .u8 0),(.int .u8 0),(.int .u8 0),(.int .u8 0),(.int .u8 0),(.int .u8 0),(.pointer none),(.bool false)] 82)=w1.alloc (.cells (rfA zeros32 none false) 82):=rfl
 rw [hgen]
 have X2:=X1.mod' M2
 have hx2:=ItC.mod M2 _ hx1
 have M02:=M1.none_trans M2
 generalize hH:w1.heap.size=H at *
 generalize w1.alloc (.cells (rfA zeros32 none false) 82)=w2 at *
 have hz:(rfA zeros32 none false).size=34:=Z0r rfl _ _
 cases x with
 | l xs =>
   have hx2':=hx2
   simp only [ItC] at hx2
   obtain ⟨h1,h2,o,c,h3,h4,hcap⟩:=hx2
   cases h1; cases h2; cases h3
   obtain ⟨w3,hr3,H3,Q3⟩:=Z3c (x:=.l xs) (A:=A) (w0:=w) H2 hz (Z0r (h:=zeros32) rfl (some ⟨D,0,none⟩) true) (Z5H Z5y _ _)
   have M23:Vcg.Mod NoB w1 w3:=ZM M2 Q3 (by omega)
   have X3:=X2.mod Q3 (by omega)
   refine ⟨_,X2.rd1 rfl,fun _=>⟨w3,hr3,_,H3.rowAll (Z0r rfl _ _),_,rfl,M1.none_trans M23,D,_,_,_,rfl,hAD,X3,?_⟩,fun h=>(by cases h)⟩
   exact ItC.mod M23 _ hx1
 | s bs =>
   have hx2':=hx2
   simp only [ItC] at hx2
   obtain ⟨h1,⟨o,c,h2,h3,h4⟩,h5⟩:=hx2
   cases h1; cases h2; cases h5
   refine ⟨_,X2.rd1 rfl,fun h=>(by cases h),fun _=>⟨_,_,_,by rw [Z6]; exact X2.rd1 rfl,fun h0=>?_,fun h0=>?_⟩⟩
   ·have hb:bs=[]:=List.eq_nil_of_length_eq_zero (by omega)
    obtain ⟨w3,hr3,H3,Q3⟩:=Z3c (x:=.s bs) (A:=A) (w0:=w) H2 hz (Z0r (h:=zeros32) rfl none false) (Z5H Z5y _ _)
    exact ⟨w3,hr3,_,H3.rowAll (Z0r rfl _ _),_,rfl,M1.none_trans (ZM M2 Q3 (by omega)),.inl ⟨hb,zeros32,rfl,Z5y,rfl⟩⟩
   ·have hb:bs.length=32:=hg.str.resolve_left (by rintro rfl; simp at h0)
    obtain ⟨g,f0,rfl,hgl,hc⟩:=h3 (by rintro rfl; simp at h0)
    obtain ⟨w3,hr3,H3,Q3⟩:=Z3c (x:=.s bs) (A:=A) (w0:=w) H2 hz (Z0r (h:=(hashA bs).toList) (Z0x _) none true) (Z5H (Z2c _) _ _)
    refine ⟨_,_,_,by rw [Z6]; exact X2.rd1 rfl,by omega,_,rfl,hashA bs,⟨ZB bs,fun i hi=>?_⟩,ZB bs,w3,?_,_,H3.rowAll (Z0r (Z0x _) _ _),_,rfl,M1.none_trans (ZM M2 Q3 (by omega)),.inr ⟨hb,rfl⟩⟩
    ·rw [Z6,hc i (by omega)]
     simp only [hashA]
     exact (ZF (f:=fun i=>bV (bs.getD i 0)) hi).symm
    ·rw [ZCf (Z:=#[(.int .u8 0),(.int .u8 0),(.int .u8 0),(.int .u8 0),(.int .u8 0),(.int .u8 0),(.int .u8 0),(.int .u8 0),(.int .u8 0),(.int .u8 0),(.int .u8 0),(.int .u8 0),(.int .u8 0),(.int .u8 0),(.int .u8 0),(.int .u8 0),(.int .u8 0),(.int .u8 0),(.int .u8 0),(.int .u8 0),(.int .u8 0),(.int .u8 0),(.int .u8 0),(.int .u8 0),(.int .u8 0),(.int .u8 0),(.int .u8 0),(.int .u8 0),(.int .u8 0),(.int .u8 0),(.int .u8 0),(.int .u8 0),(.pointer none),(.bool false)]) (p:=none) (b0:=false) rfl (ZB bs) true]
     exact hr3
theorem Z4t {b:Bool} {o1 o2 o3:Option Addr} {l1 k1 l2 k2 l3 k3:Nat} :
  Calls Tryz.prog Zz.n #[.agg #[.bool b,.slice o1 l1 k1,.slice o2 l2 k2,.slice o3 l3 k3]] w (fun e w'=>e=.returned (.bool (decide (l2=16)))∧Vcg.Mod NoB w w'):=by
 refine Zz.vc _ _ _ _ _ _ _ _ _ _ _ _ ?_
 unfold Zz.Vc
 rintro d w1 ⟨rfl,rfl⟩
 have X:=Blk.new w 86 #[.bool b,.slice o1 l1 k1,.slice o2 l2 k2,.slice o3 l3 k3]
 refine ⟨_,_,_,by rw [Z6]; exact X.rd1 rfl,?_,Mod.alloc w _⟩
 congr 2
 rw [Bool.eq_iff_iff,decide_eq_true_eq,decide_eq_true_eq]; omega
theorem Z5w {o:Option Addr} {k:Nat} {b:By} {ok:Bool} (hr:RdB w o b) (hl:b.length≤2 ^ 40) :
  Calls Tryz.prog Z1D.n #[.slice o b.length k,.bool ok] w (fun e w'=>∃o' k',e=.returned (.tuple #[.slice o' (if ok then b else []).length k',.bool ok])∧Vcg.Mod NoB w w'∧RdB w' o' (if ok then b else [])∧∀d,o'=some d→w.heap.size≤d.block):=by
 refine Z1D.vc _ _ _ _ _ _ ?_
 unfold Z1D.Vc
 refine ⟨fun h=>?_,fun h=>?_⟩
 ·subst h
  exact ⟨none,0,rfl,Mod.refl w,fun h=>(h rfl).elim,fun d h=>(by cases h)⟩
 ·subst h
  refine (Z2C hr hl).mono ?_
  rintro _ w1 ⟨o',k',rfl,F⟩
  exact ⟨_,_,_,rfl,o',k',rfl,F.mod,F.own.bytes,fun d hd=>F.new d.block ⟨d,hd,rfl⟩⟩
theorem Z77 {o1 o2:Option Addr} {k1 k2:Nat} {a b:By} (h1:RdB w o1 a) (hk:a.length≤k1) (h2:RdB w o2 b) :
  Calls Tryz.prog Z0k.n #[.slice o1 a.length k1,.slice o2 b.length k2] w (fun e w'=>w'=w∧if b.isPrefixOf a then e=.returned (.tuple #[.slice (subO o1 k1 b.length 1) (a.length - b.length) (k1 - b.length),.bool true]) else e=.returned (.tuple #[.slice o1 a.length k1,.bool false])):=by
 refine Z0k.vc _ _ _ _ _ _ _ _ ?_
 unfold Z0k.Vc
 refine (Z78 h1 hk h2).mono ?_
 rintro _ w1 ⟨rfl,rfl⟩
 refine ⟨_,rfl,fun h=>⟨rfl,by rw [if_neg (by rw [h]; decide)]⟩,fun h=>⟨?_,rfl,by rw [if_pos h,Int.toNat_natCast]⟩⟩
 have:=(List.isPrefixOf_iff_prefix.1 h).length_le
 omega
end
end Go.Proofs.YtfghidehlnfdiaaGreat
end
section
namespace Go.Proofs.YtfghidehlnfdiaaGreat
open Go Go.Vcg Go.Trie
section
variable {A:Nat→Prop} {w0 w w':World}
def Z5z (A:Nat→Prop) (w0 w:World) (xs:List It) (o:Option Addr) (l k:Nat):Prop :=
 l=xs.length∧∃vs,ZW w0 w ZF8 34 o l k vs∧∀j (hj:j < xs.length),∃L,(∀i,i < 34→vs[j * 34+i]?=L[i]?)∧RfC (fun b=>A b∨OB o b) w xs[j] L
theorem Z5z.nil (M:Vcg.Mod NoB w0 w):Z5z A w0 w [] none 0 0:=⟨rfl,[],ZW.nil M _ _,fun j hj=>absurd hj (by simp)⟩
theorem Z5z.mod' {xs:List It} {o:Option Addr} {l k:Nat} (h:Z5z A w0 w xs o l k) (M:Vcg.Mod NoB w w'):Z5z A w0 w' xs o l k:=by
 obtain ⟨h1,vs,F,h2⟩:=h
 refine ⟨h1,vs,F.mod' M,fun j hj=>?_⟩
 obtain ⟨L,a,b⟩:=h2 j hj
 exact ⟨L,a,b.mod' M⟩
theorem Z5z.set {D:Nat} {xs:List It} {o:Option Addr} {l k:Nat} (h:Z5z A w0 w xs o l k) (Q:Vcg.Mod (·=D) w w') (hD:¬OB o D) (h0:w0.heap.size≤D) (hx:∀j (hj:j < xs.length) L,RfC (fun b=>A b∨OB o b) w xs[j] L→RfC (fun b=>A b∨OB o b) w' xs[j] L):Z5z A w0 w' xs o l k:=by
 obtain ⟨h1,vs,F,h2⟩:=h
 refine ⟨h1,vs,⟨F.own.mod Q (fun b hb e=>hD (e ▸ hb)),ZM F.mod Q h0,F.new⟩,fun j hj=>?_⟩
 obtain ⟨L,a,b⟩:=h2 j hj
 exact ⟨L,a,hx j hj L b⟩
theorem Z5z.push {xs:List It} {o:Option Addr} {l k:Nat} (h:Z5z A w0 w xs o l k) {D:Nat} {x:It} {L:Array Value} (B:Blk w D ZF8 L) (hx:RfC (fun b=>A b∨OB o b) w x L) (hl:xs.length≤2 ^ 20) :
  ∃o' k' w',Sem.run Tryz.prog (builtinV .append #[84,84] 84 #[.slice o l k,.slice (some ⟨D,0,none⟩) 1 1]) w=.ok (.slice o' (l+1) k') w'∧Z5z A w0 w' (xs++[x]) o' (l+1) k'∧Vcg.Mod (OB o) w w'∧(∀b,OB o' b→OB o b∨w.heap.size≤b):=by
 obtain ⟨rfl,vs,F,hv⟩:=h
 obtain ⟨i,hi,hz,hs,hb⟩:=Z2G ZFH
 have hsz:=hx.size
 obtain ⟨o',k',w',h1,h2,h3,h4⟩:=Z3U (ty:=84) ZAl hi hz hs (by exact Z0r rfl _ _) F.own (Z5K ZAl B hsz hx.one) (by simp only [maxLen]; omega) (by rw [hb]; omega)
 have hF:ZW w0 w' ZF8 34 o' (xs.length+1) k' (vs++L.toList):=by
  refine ⟨h2,F.mod.trans h3 (fun k hk hob=>absurd (F.new k hob) (by omega)),fun k hk=>?_⟩
  rcases h4 k hk with h5 | h5
  ·exact F.new k h5
  ·exact Nat.le_trans F.mod.size h5
 have hlen:vs.length=xs.length * 34:=F.own.1
 have step:∀{y:It} {L:Array Value},RfC (fun b=>A b∨OB o b) w y L→RfC (fun b=>A b∨OB o' b) w' y L:=fun hy=>by
  have h5:=RfC.restr (A':=fun b=>A b∨OB o b∨w.heap.size≤b) (fun b hb hh=>hh.elim .inl (fun hh=>hh.elim .inr (fun h=>absurd h (by omega)))) hy
  have h6:=h5.modA h3 (fun b h=>.inr (.inl h))
  exact RfC.restr (fun b _ hh=>hh.elim .inl (fun h=>.inr (h4 b h))) h6
 refine ⟨o',k',w',h1,⟨by simp,_,hF,fun j hj=>?_⟩,h3,h4⟩
 rw [List.length_append,List.length_cons,List.length_nil] at hj
 by_cases hjx:j < xs.length
 ·obtain ⟨L',a,e⟩:=hv j hjx
  refine ⟨L',fun i hi=>?_,?_⟩
  ·rw [List.getElem?_append_left (by omega)]; exact a i hi
  ·rw [List.getElem_append_left hjx]; exact step e
 ·obtain rfl:j=xs.length:=by omega
  refine ⟨L,fun i hi=>?_,?_⟩
  ·rw [List.getElem?_append_right (by omega),hlen,show xs.length * 34+i - xs.length * 34=i by omega,Array.getElem?_toList]
  ·rw [List.getElem_append_right (Nat.le_refl _)]
   simp only [Nat.sub_self,List.getElem_cons_zero]
   exact step hx
def NvC (A:Nat→Prop) (w:World) (xs:List It) (b:Bool) (s1 s2 s3:Option Addr×Nat×Nat):Prop :=
 (∃p v,xs.length=2∧Z1H (xs.getD 0 (.s []))=some (p,true)∧xs.getD 1 (.s [])=.s v∧b=true∧s1.2.1=p.length∧RdA A w s1.1 p∧s2=(none,0,0)∧s3.2.1=v.length∧RdA A w s3.1 v) ∨
 (∃p D L,xs.length=2∧Z1H (xs.getD 0 (.s []))=some (p,false)∧b=false∧s1.2.1=p.length∧RdA A w s1.1 p∧s2=(some ⟨D,0,none⟩,1,1)∧¬A D∧Blk w D ZF8 L∧RfC A w (xs.getD 1 (.s [])) L∧s3=(none,0,0)) ∨
 (∃g v,xs.length=17∧xs.getD 16 (.s [])=.s v∧b=false∧s1=(none,0,0)∧s2.1=some ⟨g,0,none⟩∧s2.2.1=16∧g < w.heap.size∧¬A g∧(∀j,j < 16→∃L,ZJ w ⟨g,j * 34,none⟩ 34 L∧RfC A w (xs.getD j (.s [])) L)∧s3.2.1=v.length∧RdA A w s3.1 v)
theorem NvC.modA {S:Nat→Prop} {xs:List It} {b:Bool} {s1 s2 s3:Option Addr×Nat×Nat} (h:NvC A w xs b s1 s2 s3) (M:Vcg.Mod S w w') (hS:∀b,S b→A b):NvC A w' xs b s1 s2 s3:=by
 rcases h with ⟨p,v,h1,h2,h3,h4,h5,h6,h7,h8,h9⟩ | ⟨p,D,L,h1,h2,h3,h4,h5,h6,h7,h8,h9,h10⟩ | ⟨g,v,h1,h2,h3,h4,h5,h6,h7,h8,h9,h10,h11⟩
 ·exact .inl ⟨p,v,h1,h2,h3,h4,h5,h6.modA M hS,h7,h8,h9.modA M hS⟩
 ·exact .inr (.inl ⟨p,D,L,h1,h2,h3,h4,h5.modA M hS,h6,h7,h8.mod M (fun h=>h7 (hS _ h)),h9.modA M hS,h10⟩)
 ·refine .inr (.inr ⟨g,v,h1,h2,h3,h4,h5,h6,Nat.lt_of_lt_of_le h7 M.size,h8,fun j hj=>?_,h10,h11.modA M hS⟩)
  obtain ⟨L,⟨a,a'⟩,c⟩:=h9 j hj
  exact ⟨L,⟨a,fun i hi=>by rw [← a' i hi,Z6]; exact ZX M h7 (fun h=>h8 (hS _ h))⟩,c.modA M hS⟩
theorem NvC.mod' {xs:List It} {b:Bool} {s1 s2 s3:Option Addr×Nat×Nat} (h:NvC A w xs b s1 s2 s3) (M:Vcg.Mod NoB w w'):NvC A w' xs b s1 s2 s3:=h.modA M (fun _ h=>h.elim)
theorem NvC.restr {A':Nat→Prop} (hA:∀b,b < w.heap.size→A' b→A b) {xs:List It} {b:Bool} {s1 s2 s3:Option Addr×Nat×Nat} (h:NvC A w xs b s1 s2 s3):NvC A' w xs b s1 s2 s3:=by
 rcases h with ⟨p,v,h1,h2,h3,h4,h5,h6,h7,h8,h9⟩ | ⟨p,D,L,h1,h2,h3,h4,h5,h6,h7,h8,h9,h10⟩ | ⟨g,v,h1,h2,h3,h4,h5,h6,h7,h8,h9,h10,h11⟩
 ·exact .inl ⟨p,v,h1,h2,h3,h4,h5,h6.mono hA,h7,h8,h9.mono hA⟩
 ·exact .inr (.inl ⟨p,D,L,h1,h2,h3,h4,h5.mono hA,h6,fun h=>h7 (hA D h8.lt h),h8,h9.restr hA,h10⟩)
 ·refine .inr (.inr ⟨g,v,h1,h2,h3,h4,h5,h6,h7,fun h=>h8 (hA g h7 h),fun j hj=>?_,h10,h11.mono hA⟩)
  obtain ⟨L,a,c⟩:=h9 j hj
  exact ⟨L,a,c.restr hA⟩
def nvV (b:Bool) (s1 s2 s3:Option Addr×Nat×Nat):Value:=.agg #[.bool b,.slice s1.1 s1.2.1 s1.2.2,.slice s2.1 s2.2.1 s2.2.2,.slice s3.1 s3.2.1 s3.2.2]
theorem ZBa {D:Nat} {t:TypeId} {a b c d:Value} {b1:Bool} {s1 s2 s3:Option Addr×Nat×Nat} {R':Bool→Option Addr→Nat→Nat→Option Addr→Nat→Nat→Option Addr→Nat→Nat→World→Prop} (X:Blk w D t #[a,b,c,d]) (K:∀w',Vcg.Mod (·=D) w w'→R' b1 s1.1 s1.2.1 s1.2.2 s2.1 s2.2.1 s2.2.2 s3.1 s3.2.1 s3.2.2 w') :
  Z1 w ⟨D,0,none⟩ (.bool b1)∧∀w1:World,ZA w ⟨D,0,none⟩ (.bool b1) w1→Z1 w1 (Addr.add ⟨D,0,none⟩ 1) (.slice s1.1 s1.2.1 s1.2.2)∧∀w2:World,ZA w1 (Addr.add ⟨D,0,none⟩ 1) (.slice s1.1 s1.2.1 s1.2.2) w2→Z1 w2 (Addr.add ⟨D,0,none⟩ 2) (.slice s2.1 s2.2.1 s2.2.2)∧∀w3:World,ZA w2 (Addr.add ⟨D,0,none⟩ 2) (.slice s2.1 s2.2.1 s2.2.2) w3 →
   Z1 w3 (Addr.add ⟨D,0,none⟩ 3) (.slice s3.1 s3.2.1 s3.2.2)∧∀w4:World,ZA w3 (Addr.add ⟨D,0,none⟩ 3) (.slice s3.1 s3.2.1 s3.2.2) w4 →
   ∃b65:Bool,∃o66:Option Addr,∃l67:Nat,∃l68:Nat,∃o69:Option Addr,∃l70:Nat,∃l71:Nat,∃o72:Option Addr,∃l73:Nat,∃l74:Nat,World.cell? w4 ⟨D,0,none⟩=some (.bool b65) ∧
   World.cell? w4 (Addr.add ⟨D,0,none⟩ 1)=some (.slice o66 l67 l68)∧World.cell? w4 (Addr.add ⟨D,0,none⟩ 2)=some (.slice o69 l70 l71)∧World.cell? w4 (Addr.add ⟨D,0,none⟩ 3)=some (.slice o72 l73 l74)∧R' b65 o66 l67 l68 o69 l70 l71 o72 l73 l74 w4 :=
 ZHO X rfl rfl rfl rfl (fun w' X' M=>get4 X' (K w' M))
theorem Z4N {xs:List It} {v1 v2 v3:Value} (hg:Z3D (.l xs)) (hA:∀b,w.heap.size≤b→¬A b) (hx:ItC A w (.l xs) v1 v2 v3) :
  Calls Tryz.prog Z1T.n #[.agg #[v1,v2,v3]] w (fun e w'=>∃b s1 s2 s3,e=.returned (nvV b s1 s2 s3)∧Vcg.Mod NoB w w'∧NvC A w' xs b s1 s2 s3):=by
 have hx0:=hx
 simp only [ItC] at hx
 obtain ⟨rfl,rfl,p,c,rfl,h4,hcap⟩:=hx
 refine ZH fun R hR=>Z1T.vc _ _ _ _ _ _ _ _ _ ?_
 unfold Z1T.Vc
 rintro d3 w1 ⟨rfl,rfl⟩
 have M1:=Mod.alloc (S:=NoB) w (.cells #[.bool true,.slice none 0 0,.slice p xs.length c] 111)
 have X1:=Blk.new w 111 #[.bool true,.slice none 0 0,.slice p xs.length c]
 have hs1:=ZD w (.cells #[.bool true,.slice none 0 0,.slice p xs.length c] 111)
 generalize hD:w.heap.size=D at *
 generalize w.alloc (.cells #[.bool true,.slice none 0 0,.slice p xs.length c] 111)=w1 at *
 rintro d5 w2 ⟨rfl,rfl⟩
 have M12:=Mod.alloc (S:=NoB) w1 (.cells #[.bool false,.slice none 0 0,.slice none 0 0,.slice none 0 0] 86)
 have V2:=Blk.new w1 86 #[.bool false,.slice none 0 0,.slice none 0 0,.slice none 0 0]
 have hs2:=ZD w1 (.cells #[.bool false,.slice none 0 0,.slice none 0 0,.slice none 0 0] 86)
 have X2:=X1.mod' M12
 have M2:=M1.none_trans M12
 generalize hN:w1.heap.size=N at *
 generalize w1.alloc (.cells #[.bool false,.slice none 0 0,.slice none 0 0,.slice none 0 0] 86)=w2 at *
 have h4N:Z1k (fun b=>A b∨b=N) w xs p 0:=Z1k.restr (fun b hb hh=>hh.elim id (fun h=>by omega)) h4
 have fin:∀(w':World) (b:Bool) (s1 s2 s3:Option Addr×Nat×Nat) (cs:Value×Value×Value×Value),Vcg.Mod NoB w w'→Blk w' N 86 #[cs.1,cs.2.1,cs.2.2.1,cs.2.2.2]→NvC (fun b=>A b∨b=N) w' xs b s1 s2 s3→∀w4,Vcg.Mod (·=N) w' w4→R (.returned (nvV b s1 s2 s3)) w4:=by
  intro w' b s1 s2 s3 cs M B hn w4 Q
  refine hR _ _ ⟨b,s1,s2,s3,rfl,ZM M Q (by omega),?_⟩
  exact (hn.modA Q (fun b hb=>.inr hb)).restr (fun b _ h=>.inl h)
 refine ⟨_,_,_,by rw [Z6]; exact X2.rd1 rfl,fun h2=>?_,fun h2=>?_⟩
 ·have h2':xs.length=2:=by omega
  obtain ⟨pp,lf,he,hl1,hl2⟩:=hg.two h2'
  have h42:=Z1k.mod M2 _ h4N
  obtain ⟨g,f0,u1,u2,u3,rfl,hgs,e1,e2,e3,hi⟩:=h42.get 0 (by omega)
  have h0e:xs.getD 0 (.s [])=xs[0]:=Z1O (by omega)
  have h1e:xs.getD 1 (.s [])=xs[1]:=Z1O (by omega)
  have hm0:xs[0]∈xs:=List.getElem_mem (by omega)
  obtain ⟨gg,hnn,hfine⟩:=hg.node
  cases hq:xs[0] with
  | l ys=>rw [h0e,hq] at he; simp [Z1H] at he
  | s bs =>
    rw [hq] at hi
    simp only [ItC] at hi
    obtain ⟨rfl,⟨ox,cx,rfl,hrx,_⟩,rfl⟩:=hi
    have hbl:bs.length≤2 ^ 20:=by
     have hfx:=hfine.mem hm0
     rw [hq] at hfx
     have:bs.length≤(enc (.s bs)).length:=by
      simp only [enc]
      split
      ·exact Nat.le_refl _
      ·rw [List.length_append]; omega
     have:=hfx.2.2
     omega
    refine ⟨_,_,_,by rw [Z6]; exact X2.rd1 rfl,_,rfl,⟨by decide,by omega⟩,_,_,_,by rw [Z6,Z6]; exact e2,?_⟩
    refine (Z6O hrx hbl).mono ?_
    rintro _ w3 ⟨o',k',rfl,M3,R3,hnew⟩
    have M03:=M2.none_trans M3
    have X3:=X2.mod' M3
    have V3:=V2.mod' M3
    have he':=he
    rw [h0e,hq] at he'
    simp only [Z1H] at he'
    have eu:upk bs=(pp,lf,0):=by unfold upk; rw [he']
    rw [eu] at R3 ⊢
    have hs3:=M2.size
    have hRA:RdA (fun b=>A b∨b=N) w3 o' pp:=⟨R3,fun _ d hd hh=>by
     have h1:=hnew d hd
     have h2:=V2.lt
     rcases hh with hh | hh
     ·exact hA _ (by omega) hh
     ·omega⟩
    obtain ⟨g',f0',t1,t2,t3,ho,hg',d1,d2,d3,hi'⟩:=(Z1k.mod M03 _ h4N).get 1 (by omega)
    cases ho
    refine ⟨_,_,_,_,_,rfl,fun hlf=>?_,fun hlf=>?_⟩
    ·dsimp only at hlf; subst hlf
     obtain ⟨vs,hv1,hvn⟩:=hl1 rfl
     rw [h1e] at hv1
     rw [hv1] at hi'
     simp only [ItC] at hi'
     obtain ⟨rfl,⟨oy,cy,rfl,hry,hay⟩,rfl⟩:=hi'
     refine ⟨_,_,_,by rw [Z6]; exact X3.rd1 rfl,_,rfl,⟨by decide,by omega⟩,_,_,_,by rw [Z6,Z6]; exact d2,?_⟩
     exact ZBa (b1:=true) (s1:=(o',pp.length,k')) (s2:=(none,0,0)) (s3:=(oy,vs.length,cy)) V3 (fin w3 true (o',pp.length,k') (none,0,0) (oy,vs.length,cy) (_,_,_,_) M03 V3 (.inl ⟨pp,vs,h2',he,by rw [h1e,hv1],rfl,rfl,hRA,rfl,rfl,hry,hay⟩))
    ·dsimp only at hlf; subst hlf
     obtain ⟨hpn,hgy,hye⟩:=hl2 rfl
     obtain ⟨_,_,_,_,_,_,_,rfl,rfl,rfl⟩:=hi'.vals
     refine ⟨_,_,_,by rw [Z6]; exact X3.rd1 rfl,_,rfl,⟨by decide,by omega⟩,_,_,_,_,_,_,_,by rw [Z6]; exact d1,by rw [Z6,Z6]; exact d2,by rw [Z6,Z6]; exact d3,?_⟩
     rw [h1e] at hgy
     have hs03:=M03.size
     have hV3:=V3.lt
     refine (Z7h hgy (fun b hb hh=>by
      rcases hh with hh | hh
      ·exact hA b (by omega) hh
      ·omega) hi').mono ?_
     rintro _ w4 ⟨L,rfl,M4,hL⟩
     have M04:=M03.none_trans M4
     refine ⟨L,rfl,hL.size,?_⟩
     rw [ZAM (n:=34) rfl hL.size]
     rintro d59 w5 ⟨rfl,rfl⟩
     have M5:=Mod.alloc (S:=NoB) w4 (.cells L 82)
     have B5:=Blk.new w4 82 L
     have V5:=(V3.mod' M4).mod' M5
     have hs4:=M4.size
     have M05:=M04.none_trans M5
     refine ZBa (b1:=false) (s1:=(o',pp.length,k')) (s2:=(some ⟨w4.heap.size,0,none⟩,1,1)) (s3:=(none,0,0)) V5 (fin _ false (o',pp.length,k') (some ⟨w4.heap.size,0,none⟩,1,1) (none,0,0) (_,_,_,_) M05 V5 (.inr (.inl ⟨pp,w4.heap.size,L,h2',he,rfl,rfl,(hRA.mod' M4).mod' M5,rfl,?_,B5,?_,rfl⟩)))
     ·intro hh
      rcases hh with hh | hh
      ·exact hA _ (by omega) hh
      ·omega
     ·rw [h1e]; exact hL.mod' M5
 ·obtain ⟨h17,⟨v16,hv16⟩,hkids⟩:=hg.many (by omega)
  have h42:=Z1k.mod M2 _ h4N
  obtain ⟨g,f0,u1,u2,u3,rfl,hgs,e1,e2,e3,hi⟩:=h42.get 16 (by omega)
  rw [Z1O (by omega)] at hv16
  rw [hv16] at hi
  simp only [ItC] at hi
  obtain ⟨rfl,⟨ov,cv,rfl,hrv,hav⟩,rfl⟩:=hi
  refine ⟨_,_,_,by rw [Z6]; exact X2.rd1 rfl,_,rfl,⟨by decide,by omega⟩,_,_,_,by rw [Z6,Z6]; exact e2,?_⟩
  rintro d82 w3 ⟨rfl,rfl⟩
  have M3:=Mod.alloc (S:=NoB) w2 (.cells #[.bool false,.slice none 0 0,.slice none 0 0,.slice none 0 0] 86)
  have U3:=Blk.new w2 86 #[.bool false,.slice none 0 0,.slice none 0 0,.slice none 0 0]
  have hs3:=ZD w2 (.cells #[.bool false,.slice none 0 0,.slice none 0 0,.slice none 0 0] 86)
  have M03:=M2.none_trans M3
  have X3:=X2.mod' M3
  have V3:=V2.mod' M3
  have hVlt:=V2.lt
  have hXlt:=X2.lt
  generalize hN2:w2.heap.size=N2 at *
  generalize w2.alloc (.cells #[.bool false,.slice none 0 0,.slice none 0 0,.slice none 0 0] 86)=w3 at *
  refine ZHO U3 rfl rfl rfl rfl (fun w4 U4 Q4=>?_)
  have M04:Vcg.Mod NoB w w4:=ZM M03 Q4 (by omega)
  have X4:=X3.mod Q4 (by omega)
  have V4:=V3.mod Q4 (by omega)
  have hs4:=Q4.size
  let A2:Nat→Prop:=fun b=>A b∨b=N∨b=N2
  have h4A:Z1k A2 w xs (some ⟨g,f0,none⟩) 0:=Z1k.restr (fun b hb hh=>hh.elim id (fun h=>by omega)) h4
  have hrvA:RdA A2 w4 ov v16:=by
   have h0:=(Z1k.mod M04 _ h4A).get 16 (by omega)
   obtain ⟨g',f0',t1,t2,t3,ho,hg',d1,d2,d3,hi'⟩:=h0
   cases ho
   rw [hv16] at hi'
   simp only [ItC] at hi'
   obtain ⟨rfl,⟨oz,cz,rfl,hrz,haz⟩,rfl⟩:=hi'
   have h5:w4.cell? ⟨g,f0+(0+16 * 3)+1,none⟩=w2.cell? ⟨g,f0+(0+16 * 3)+1,none⟩:=ZX (ZM M3 Q4 (by omega)) (by omega) (fun h=>h)
   have hd2:w4.cell? ⟨g,f0+(0+16 * 3)+1,none⟩=some (.slice oz v16.length cz):=d2
   have he2:w2.cell? ⟨g,f0+(0+16 * 3)+1,none⟩=some (.slice ov v16.length cv):=e2
   rw [hd2,he2] at h5
   cases h5
   exact ⟨hrz,haz⟩
  refine ⟨_,_,_,by rw [Z6]; exact X4.rd1 rfl,by omega,?_⟩
  have hA2:∀b,w4.heap.size≤b→¬A2 b:=fun b hb hh=>by
   have hb4:=U4.lt
   rcases hh with hh | hh | hh
   ·exact hA b (by have:=M04.size; omega) hh
   ·omega
   ·omega
  have M24:Vcg.Mod NoB w2 w4:=ZM M3 Q4 (by omega)
  have h4B:Z1k (fun b=>A2 b∨w4.heap.size≤b) w xs (some ⟨g,f0,none⟩) 0:=Z1k.restr (fun b hb hh=>hh.elim id (fun h=>by have:=M04.size; omega)) h4A
  have hN2lt:=U4.lt
  clear h4A h42 e1 e2 e3 hrv hav
  refine ⟨fun i w'=>∃(j:Nat) (o:Option Addr) (k:Nat),i=(j:Int)∧j≤16∧Z5z A2 w2 w' (xs.take j) o j k∧(∀b,OB o b→w4.heap.size≤b)∧w4.heap.size≤w'.heap.size∧Blk w' N2 86 #[.bool false,.slice none 0 0,.slice o j k,.slice ov v16.length cv]∧RdA (fun b=>A2 b∨w4.heap.size≤b) w' ov v16,fun i _=>((16:Int) - i).toNat,⟨0,none,0,rfl,Nat.zero_le _,by rw [List.take_zero]; exact Z5z.nil M24,fun b hb=>(Z47 b hb).elim,Nat.le_refl _,U4,hrvA.mono (fun b hb hh=>hh.elim id (fun h=>by omega))⟩,?_⟩
  rintro _ _ w5 ⟨j,o,k,rfl,hj,hrow,hO,hs45,U5,hv5⟩
  have M25:Vcg.Mod NoB w2 w5:=by obtain ⟨_,vs,F,_⟩:=hrow; exact F.mod
  have M05:=M2.none_trans M25
  have X5:=X2.mod' M25
  refine ⟨fun hlt=>?_,fun hge=>?_⟩
  ·have hjl:j < xs.length:=by omega
   have hj16:j < 16:=by omega
   obtain ⟨g',f',u1,u2,u3,ho,hg',d1,d2,d3,hij⟩:=(Z1k.mod M05 _ h4B).get j hjl
   cases ho
   rw [Nat.zero_add] at d1 d2 d3
   obtain ⟨b,p1,q1,r1,p2,q2,r2,rfl,rfl,rfl⟩:=hij.vals
   refine ⟨_,rfl,⟨by omega,by omega⟩,_,_,_,_,_,_,_,by rw [Z6,Int.toNat_natCast]; exact d1,by rw [Z6,Z6,Int.toNat_natCast]; exact d2,by rw [Z6,Z6,Int.toNat_natCast]; exact d3,?_⟩
   rintro d102 w6 ⟨rfl,rfl⟩
   have H:=Blk.new w5 111 #[.bool false,.slice none 0 0,.slice none 0 0]
   have M56:=Mod.alloc (S:=NoB) w5 (.cells #[.bool false,.slice none 0 0,.slice none 0 0] 111)
   refine Z8n H rfl rfl rfl (fun w7 H7 Q7=>?_)
   have M57:Vcg.Mod NoB w5 w7:=ZM M56 Q7 (Nat.le_refl _)
   rintro _ rfl
   have M58:=M57.step_drew
   have U8:=U5.mod' M58
   have H8:=H7.drew
   have hij8:=ItC.mod M58 _ hij
   have hrow8:=hrow.mod' M58
   have hv8:=hv5.mod' M58
   have hs8:=M58.size
   have hOlt:∀b,OB o b→b < w5.heap.size:=by obtain ⟨_,vs,F,_⟩:=hrow; exact fun b hb=>F.own.lt hb
   generalize w5.heap.size=HH at *
   generalize w7.drew=w8 at *
   clear H M56 Q7 H7 M57 hrow hij U5 hv5 d1 d2 d3
   refine ⟨_,_,_,by rw [Z6]; exact U8.rd1 rfl,Z81 H8 ?_⟩
   have hgj:Z3D xs[j]:=by have:=hkids j hj16; rwa [Z1O hjl] at this
   have hijO:ItC (fun b=>A2 b∨OB o b) w8 xs[j] (.bool b) (.slice p1 q1 r1) (.slice p2 q2 r2):=ItC.mono (fun b hb=>hb.imp id (hO b)) _ hij8
   refine (Z7h hgj (fun b hb hh=>by
    rcases hh with hh | hh
    ·exact hA2 b (by omega) hh
    ·have:=hOlt b hh; omega) hijO).mono ?_
   rintro _ w9 ⟨L,rfl,M9,hL⟩
   have U9:=U8.mod' M9
   refine ⟨L,rfl,by rw [Z6]; exact U9.rd1 rfl,hL.size,?_⟩
   rw [ZAM (n:=34) rfl hL.size]
   rintro d121 w10 ⟨rfl,rfl⟩
   have M10:=Mod.alloc (S:=NoB) w9 (.cells L 82)
   have B10:=Blk.new w9 82 L
   have U10:=U9.mod' M10
   have hrow10:=(hrow8.mod' M9).mod' M10
   have hL10:=hL.mod' M10
   have hv10:=(hv8.mod' M9).mod' M10
   have hs10:w4.heap.size≤(w9.alloc (.cells L 82)).heap.size:=by have:=M9.size; have:=M10.size; omega
   generalize w9.alloc (.cells L 82)=w10 at *
   have hlen:(xs.take j).length=j:=by rw [List.length_take]; omega
   obtain ⟨o',k',w11,hr11,hrow11,M11,hO11⟩:=hrow10.push B10 hL10 (by omega)
   have hON:¬OB o N2:=fun h=>by have:=hO _ h; omega
   have U11:=U10.mod M11 hON
   refine ⟨by rw [Z6]; exact U10.rd1 rfl,_,w11,hr11,_,_,_,rfl,?_⟩
   rw [Z6,Nat.zero_add]
   refine ⟨U11.canSet (by simp) rfl,?_⟩
   rintro _ rfl
   have Q12:=Mod.setCell w11 ⟨N2,2,none⟩ (.slice o' (j+1) k')
   have U12:=U11.set 2 (.slice o' (j+1) k')
   have hO':∀b,OB o' b→w4.heap.size≤b:=fun b hb=>(hO11 b hb).elim (hO b) (fun h=>by omega)
   have htk:xs.take (j+1)=xs.take j++[xs[j]]:=List.take_succ_eq_append_getElem hjl
   rw [← htk] at hrow11
   have ew:IntKind.wrap .i64 ((j:Int)+1)=((j+1:Nat):Int):=by rw [Z0 (by omega) (by omega)]; omega
   rw [ew]
   refine ⟨⟨j+1,o',k',rfl,hj16,hrow11.set (D:=N2) Q12 (fun h=>by have:=hO' _ h; omega) (by omega) (fun q hq L' hL'=>hL'.modA Q12 (fun b hb=>.inl (.inr (.inr hb)))),hO',by have:=M11.size; have:=Q12.size; omega,U12,?_⟩,by dsimp only; omega⟩
   exact (hv10.modA M11 (fun b hb=>.inr (hO b hb))).modA Q12 (fun b hb=>.inl (.inr (.inr hb)))
  ·obtain rfl:j=16:=by omega
   have V5:=V2.mod' M25
   obtain ⟨_,vs,F,hrf⟩:=hrow
   refine get4 U5 ?_
   refine ZBa (b1:=false) (s1:=(none,0,0)) (s2:=(o,16,k)) (s3:=(ov,v16.length,cv)) V5 (fin w5 false (none,0,0) (o,16,k) (ov,v16.length,cv) (_,_,_,_) M05 V5 (.inr (.inr ?_)))
   have hl16:(xs.take 16).length=16:=by rw [List.length_take]; omega
   obtain ⟨L0,hL0,hr0⟩:=hrf 0 (by omega)
   have h33:vs[0 * 34+0]?=L0[0]?:=hL0 0 (by omega)
   have hL0s:=hr0.size
   obtain ⟨q,hq,_⟩:=F.own.cell (i:=0 * 34+0) (v:=L0[0]'(by omega)) (by rw [h33,Array.getElem?_eq_getElem (by omega)])
   have hqs:=hO q ⟨_,hq,rfl⟩
   have hqlt:=F.own.lt ⟨_,hq,rfl⟩
   have hAN:∀b,A b∨b=N→A2 b:=fun b hb=>hb.imp id .inl
   refine ⟨q,v16,h17,by rw [Z1O (by omega),hv16],rfl,rfl,hq,rfl,hqlt,fun hh=>hA2 q hqs (hAN q hh),fun j hj=>?_,rfl,hv5.mono (fun b _ hb=>.inl (hAN b hb))⟩
   obtain ⟨L,hL,hr⟩:=hrf j (by omega)
   refine ⟨L,⟨hr.size,fun i hi=>?_⟩,?_⟩
   ·have hls:=hr.size
    obtain ⟨q',hq',hc⟩:=F.own.cell (i:=j * 34+i) (v:=L[i]'(by omega)) (by rw [hL i hi,Array.getElem?_eq_getElem (by omega)])
    rw [hq] at hq'
    cases hq'
    rw [Z6,hc,Array.getElem?_eq_getElem (by omega)]
   ·rw [Z1O (by omega)]
    have:(xs.take 16)[j]'(by omega)=xs[j]:=by rw [List.getElem_take]
    rw [this] at hr
    exact hr.restr (fun b _ hb=>.inl (hAN b hb))
end
end Go.Proofs.YtfghidehlnfdiaaGreat
end
section
namespace Go.Proofs.YtfghidehlnfdiaaGreat
open Go Go.Vcg Go.Trie
abbrev Z2v (e:Int):List PanicEntry:=ZES (.iface 127 (.agg #[.int .i64 e]))
theorem Z1P (w:World) (n:Int):Calls Tryz.prog Z1u.n #[.int .i64 n] w (fun e w'=>w'=w∧if n=0 then e=.returned (.tuple #[]) else e=.panicked (Z2v n)):=by
 refine Z1u.vc _ _ _ ?_
 unfold Z1u.Vc
 exact ⟨fun h=>⟨rfl,by rw [if_neg h]⟩,fun h=>⟨rfl,by rw [if_pos h]⟩⟩
theorem Z3S.mono {v:Value} {args:Array Value} {w:World} {R R':Ending→World→Prop} (h:Z3S Tryz.prog v args w R) (hr:∀e w',R e w'→R' e w'):Z3S Tryz.prog v args w R':=by
 obtain ⟨f,a,b,h1,h2,h3⟩:=h
 exact ⟨f,a,b,h1,h2,h3.mono hr⟩
def rootIt (h:By):It:=if h=emptyH then .s [] else .s h
theorem Z7P {h:By} (hh:h.length=32):Z3D (rootIt h):=by
 unfold rootIt
 split
 ·exact .nil
 ·exact .hash hh
section
variable {A:Nat→Prop} {w w':World}
theorem Z6f {h:By} (hh:h.length=32) :
  Calls Tryz.prog Z1V.n #[.agg (hashA h)] w (fun e w'=>∃L,e=.returned (.agg L)∧Vcg.Mod NoB w w'∧RfC A w' (rootIt h) L):=by
 refine Z1V.vc _ _ _ ?_
 unfold Z1V.Vc
 rintro d1 w1 ⟨rfl,rfl⟩
 have M1:=Mod.alloc (S:=NoB) w (.cells (hashA h) 27)
 have X1:=Blk.new w 27 (hashA h)
 have hs1:=ZD w (.cells (hashA h) 27)
 generalize hD:w.heap.size=D at *
 generalize w.alloc (.cells (hashA h) 27)=w1 at *
 rintro d3 w2 ⟨rfl,rfl⟩
 rw [Z7g]
 have M12:=Mod.alloc (S:=NoB) w1 (.cells (rfA zeros32 none false) 82)
 have H2:=Blk.new w1 82 (rfA zeros32 none false)
 have X2:=X1.mod' M12
 generalize hH:w1.heap.size=H at *
 generalize w1.alloc (.cells (rfA zeros32 none false) 82)=w2 at *
 rintro _ rfl
 have M2:=M12.step_drew
 have X3:=X2.drew
 have H3:=H2.drew
 generalize w2.drew=w3 at *
 refine ⟨_,X3.rowAll (ZB _),_,X3.rowAll (ZB _),?_⟩
 refine (ZAv w3).mono ?_
 rintro _ w4 ⟨rfl,M4⟩
 have X4:=X3.mod' M4
 have H4:=H3.mod' M4
 have M14:=M2.none_trans M4
 refine ⟨_,rfl,X4.rowAll (ZB _),X4.rowAll (ZB _),_,Z99 _ _ hh (by unfold emptyH; exact Z04 _),_,rfl,ZB _,?_⟩
 rw [ZEe (ZB h)]
 obtain ⟨w5,hr5,H5,Q5⟩:=Z3c (x:=.s h) (A:=A) (w0:=w) H4 (Z0r rfl _ _) (Z0r (h:=(hashA h).toList) (Z0x _) none (decide (h≠emptyH))) (Z5H (Z2c _) _ _)
 refine ⟨w5,hr5,_,H5.rowAll (Z0r (Z0x _) _ _),_,rfl,M1.none_trans (ZM M14 Q5 (by omega)),?_⟩
 unfold rootIt
 by_cases he:h=emptyH
 ·rw [if_pos he]
  exact .inl ⟨rfl,(hashA h).toList,Z0x _,Z2c _,by rw [decide_eq_false (by simp [he])]⟩
 ·rw [if_neg he]
  exact .inr ⟨hh,by rw [decide_eq_true he]⟩
theorem Z6X {o:Option Addr} {k:Nat} {bs:By} (hA:∀b,w.heap.size≤b→¬A b) (hr:RdB w o bs) (hk:bs.length≤k) :
  Calls Tryz.prog Z1U.n #[.slice o bs.length k] w (fun e w'=>Vcg.Mod NoB w w'∧(Z0R bs=0→∃xs b s1 s2 s3,Z4c bs=.ok (.l xs)∧Z3D (.l xs)∧e=.returned (.tuple #[nvV b s1 s2 s3,.int .i64 0])∧NvC A w' xs b s1 s2 s3) ∧
   (Z0R bs≠0→e=.returned (.tuple #[nvV false (none,0,0) (none,0,0) (none,0,0),.int .i64 161]))):=by
 refine ZH fun R hR=>Z1U.vc _ _ _ _ _ ?_
 unfold Z1U.Vc
 rintro d1 w1 ⟨rfl,rfl⟩
 have M1:=Mod.alloc (S:=NoB) w (.cells #[.bool false,.slice none 0 0,.slice none 0 0,.slice none 0 0] 86)
 have V1:=Blk.new w 86 #[.bool false,.slice none 0 0,.slice none 0 0,.slice none 0 0]
 have hs1:=ZD w (.cells #[.bool false,.slice none 0 0,.slice none 0 0,.slice none 0 0] 86)
 have hr1:=hr.mod' M1
 generalize hN:w.heap.size=N at *
 generalize w.alloc (.cells #[.bool false,.slice none 0 0,.slice none 0 0,.slice none 0 0] 86)=w1 at *
 refine (ZAu hr1 hk).mono ?_
 rintro _ w2 ⟨rfl,M2⟩
 have M02:=M1.none_trans M2
 have V2:=V1.mod' M2
 refine ⟨_,rfl,fun hne=>?_,fun h0=>?_⟩
 ·exact ZBa (b1:=false) (s1:=(none,0,0)) (s2:=(none,0,0)) (s3:=(none,0,0)) V2 (fun w' Q=>hR _ _ ⟨ZM M02 Q (by omega),fun h=>(hne h).elim,fun _=>rfl⟩)
 ·obtain ⟨xs,hdc,hn,hg⟩:=Z2D h0
  refine (Z6M (hr1.mod' M2) hk).mono ?_
  rintro e w3 ⟨M3,hd⟩
  unfold Z2V at hd
  rw [hdc] at hd
  obtain ⟨v1,v2,v3,rfl,hx⟩:=hd
  obtain ⟨b,p1,q1,r1,p2,q2,r2,rfl,rfl,rfl⟩:=hx.vals
  have M03:=M02.none_trans M3
  refine ⟨_,_,_,_,_,_,_,_,rfl,?_⟩
  rintro d2 w4 ⟨rfl,rfl⟩
  have H:=Blk.new w3 111 #[.bool false,.slice none 0 0,.slice none 0 0]
  refine Z8n H rfl rfl rfl (fun w5 H5 Q5=>?_)
  have M35:Vcg.Mod NoB w3 w5:=ZM (Mod.alloc w3 _) Q5 (Nat.le_refl _)
  have M05:=M03.none_trans M35
  have V5:=(V2.mod' M3).mod' M35
  refine Z81 H5 ?_
  have hs2:=M02.size
  have hVlt:=V2.lt
  have hx5:ItC (fun b=>A b∨b=N) w5 (.l xs) (.bool b) (.slice p1 q1 r1) (.slice p2 q2 r2):=ItC.restr (fun b _ hh=>by
   rcases hh with hh | hh
   ·refine Nat.lt_of_not_le fun hb=>hA b (by omega) hh
   ·omega) (ItC.mod M35 _ hx)
  refine (Z4N hg (fun b hb hh=>by
   have:=M05.size
   have:=V5.lt
   rcases hh with hh | hh
   ·exact hA b (by omega) hh
   ·omega) hx5).mono ?_
  rintro _ w6 ⟨bb,s1,s2,s3,rfl,M6,hn6⟩
  have V6:=V5.mod' M6
  have M06:=M05.none_trans M6
  refine ⟨_,_,_,_,_,_,_,_,_,_,rfl,ZBa (b1:=bb) (s1:=s1) (s2:=s2) (s3:=s3) V6 (fun w' Q=>hR _ _ ⟨ZM M06 Q (by omega),fun _=>⟨xs,bb,s1,s2,s3,hdc,hg,rfl,?_⟩,fun h=>(h h0).elim⟩)⟩
  exact (hn6.modA Q (fun b hb=>.inr hb)).restr (fun b _ h=>.inl h)
variable {S:Nat→Prop} {lab lab':Nat→Nat}
theorem frz (s:Stp S w lab w' lab') (h6:¬S 6):Vcg.Mod (fun b=>lab b≠6) w w':=s.mod (fun k hk hs e=>h6 (e ▸ hs))
theorem ZBL (s:Stp S w lab w' lab') (b:Nat):lab' b≠6→lab b≠6∨w.heap.size≤b:=fun h=>by
 rcases Nat.lt_or_ge b w.heap.size with hb | hb
 ·exact .inl (by rw [← s.lab b hb]; exact h)
 ·exact .inr hb
theorem RfC.stp {x:It} {L:Array Value} (h:RfC (fun b=>lab b≠6) w x L) (s:Stp S w lab w' lab') (h6:¬S 6):RfC (fun b=>lab' b≠6) w' x L :=
 ((h.restr (A':=fun b=>lab b≠6∨w.heap.size≤b) (fun b hb hh=>hh.resolve_right (by omega))).modA (frz s h6) (fun b hb=>.inl hb)).restr (fun b _ hh=>ZBL s b hh)
theorem NvC.stp {xs:List It} {b:Bool} {s1 s2 s3:Option Addr×Nat×Nat} (h:NvC (fun b=>lab b≠6) w xs b s1 s2 s3) (s:Stp S w lab w' lab') (h6:¬S 6):NvC (fun b=>lab' b≠6) w' xs b s1 s2 s3 :=
 ((h.restr (A':=fun b=>lab b≠6∨w.heap.size≤b) (fun b hb hh=>hh.resolve_right (by omega))).modA (frz s h6) (fun b hb=>.inl hb)).restr (fun b _ hh=>ZBL s b hh)
theorem ItC.stp6 {x:It} {v1 v2 v3:Value} (h:ItC (fun b=>lab b≠6) w x v1 v2 v3) (s:Stp S w lab w' lab') (h6:¬S 6):ItC (fun b=>lab' b≠6) w' x v1 v2 v3 :=
 ItC.restr (fun b _ hh=>ZBL s b hh) (ItC.modA (frz s h6) (fun b hb=>.inl hb) _ (ItC.restr (A':=fun b=>lab b≠6∨w.heap.size≤b) (fun b hb hh=>hh.resolve_right (by omega)) h))
end
structure ZGF {σ:Type} (ask:Value) (T:Nat→Prop) (Inv:World→(Nat→Nat)→σ→Prop) (step:σ→By→σ×Except Int By) (can:σ→Nat→Prop):Prop where
 le:∀{s:σ} {n m:Nat},can s n→m≤n→can s m
 s5:¬T 5
 s6:¬T 6
 stp:∀{w w':World} {lab lab':Nat→Nat} {s:σ},Inv w lab s→Stp (·=5) w lab w' lab'→Inv w' lab' s
 run:∀{w:World} {lab:Nat→Nat} {s:σ} {h:By} {n:Nat},Inv w lab s→can s (n+1)→h.length=32→Z3S Tryz.prog ask #[.agg (hashA h)] w (fun e w'=>∃lab',Stp T w lab w' lab'∧Inv w' lab' (step s h).1∧can (step s h).1 n ∧
  (∀er,(step s h).2=.error er→e=.panicked (Z2v er)∧er≠0)∧(∀b,(step s h).2=.ok b→∃o k,e=.returned (.slice o b.length k)∧RdB w' o b∧b.length≤k))
end Go.Proofs.YtfghidehlnfdiaaGreat
end
section
namespace Go.Proofs.YtfghidehlnfdiaaGreat
open Go Go.Vcg Go.Trie
structure ZDb (w:World) (lab:Nat→Nat) (D:Nat) (x:It):Prop where
 lab5:lab D=5
 at_:∃L,Blk w D ZF8 L∧RfC (fun b=>lab b≠6) w x L
theorem ZDb.stp {S:Nat→Prop} {w w':World} {lab lab':Nat→Nat} {D:Nat} {x:It} (h:ZDb w lab D x) (s:Stp S w lab w' lab') (h5:¬S 5) (h6:¬S 6):ZDb w' lab' D x:=by
 obtain ⟨h1,L,h2,h3⟩:=h
 exact ⟨(s.lab D h2.lt).trans h1,L,⟨(s.block D h2.lt (by rw [h1]; exact h5)).trans h2,h3.stp s h6⟩⟩
theorem Z6y {w:World} {lab:Nat→Nat} {x:It} {L:Array Value} (h:RfC (fun b=>lab b≠6) w x L) :
  ∃w',Sem.run Tryz.prog (Instr.storeAt ZF8 (.pointer (some ⟨w.heap.size,0,none⟩)) (.agg L)) (w.alloc (.cells (rfA zeros32 none false) 82))=.ok () w'∧ZDb w' (ext lab w.heap.size 5) w.heap.size x∧Stp NoS w lab w' (ext lab w.heap.size 5):=by
 have M1:=Mod.alloc (S:=NoB) w (.cells (rfA zeros32 none false) 82)
 have H1:=Blk.new w 82 (rfA zeros32 none false)
 obtain ⟨w2,hr2,H2,Q2⟩:=Z3c (x:=x) (A:=fun _=>False) (w0:=w) H1 (Z0r rfl _ _) h.size h.one
 have M2:Vcg.Mod NoB w w2:=ZM M1 Q2 (Nat.le_refl _)
 have s:Stp NoS w lab w2 (ext lab w.heap.size 5):=Stp.of_nob M2 5
 exact ⟨w2,hr2,⟨ext_new (Nat.le_refl _),L,H2,h.stp s (fun h=>h)⟩,s⟩
theorem ZDb.set {w w':World} {lab lab':Nat→Nat} {D N:Nat} {x:It} (h:ZDb w lab D x) (Q:Vcg.Mod (·=N) w w') (s:Stp (·=5) w lab w' lab') (hne:D≠N):ZDb w' lab' D x:=by
 obtain ⟨h1,L,h2,h3⟩:=h
 exact ⟨(s.lab D h2.lt).trans h1,L,h2.mod Q hne,h3.stp s (by decide)⟩
theorem ZCV {w:World} {lab:Nat→Nat} {D:Nat} {x y:It} {L:Array Value} {P:Addr→World→Prop} (V:ZDb w lab D x) (hL:RfC (fun b=>lab b≠6) w y L) (K:∀w' lab' D',Stp (·=5) w lab w' lab'→ZDb w' lab' D' y→P ⟨D',0,none⟩ w') :
  ∃w120:World,Sem.run Tryz.prog (Instr.storeAt 82 (.pointer (some ⟨D,0,none⟩)) (.agg L)) w=.ok () w120 ∧
   ∃L121:Array Value,ZJ w120 ⟨D,0,none⟩ 34 L121 ∧
   ∀(d122:Addr) (w123:World),ZC w120 82 #[(.int .u8 0),(.int .u8 0),(.int .u8 0),(.int .u8 0),(.int .u8 0),(.int .u8 0),(.int .u8 0),(.int .u8 0),(.int .u8 0),(.int .u8 0),(.int .u8 0),(.int .u8 0),(.int .u8 0),(.int .u8 0),(.int .u8 0),(.int .u8 0),(.int .u8 0),(.int .u8 0),(.int .u8 0),(.int .u8 0),(.int .u8 0),(.int .u8 0),(.int .u8 0),(.int .u8 0),(.int .u8 0),(.int .u8 0),(.int .u8 0),(.int .u8 0),(.int .u8 0),(.int .u8 0),(.int .u8 0),(.int .u8 0),(.pointer none),(.bool false)] d122 w123 →
   ∃w124:World,Sem.run Tryz.prog (Instr.storeAt 82 (.pointer (some d122)) (.agg L121)) w123=.ok () w124∧P d122 w124:=by
 obtain ⟨h5,L0,B,hr⟩:=V
 obtain ⟨w1,hr1,B1,Q1⟩:=Z3c (x:=y) (A:=fun _=>False) (w0:=w) B hr.size hL.size hL.one
 have s1:Stp (·=5) w lab w1 (ext lab w.heap.size 5):=Stp.of_mod Q1 5 (fun k _ e=>by rw [e]; exact h5)
 have hL1:=hL.stp s1 (by decide)
 refine ⟨w1,hr1,L,B1.rowAll hL.size,?_⟩
 rintro d w2 ⟨rfl,rfl⟩
 rw [Z7g]
 obtain ⟨w3,hr3,V3,s3⟩:=Z6y hL1
 exact ⟨w3,hr3,K w3 _ _ (s1.trans (s3.mono (fun _ h=>h.elim))) V3⟩
theorem setN {w:World} {lab:Nat→Nat} {N:Nat} {a b c d:Value} {b1:Bool} {s1 s2 s3:Option Addr×Nat×Nat} {R':World→Prop} (X:CB w lab 5 N 86 #[a,b,c,d]) (K:∀w' lab',Vcg.Mod (·=N) w w'→Stp (·=5) w lab w' lab'→CB w' lab' 5 N 86 #[.bool b1,.slice s1.1 s1.2.1 s1.2.2,.slice s2.1 s2.2.1 s2.2.2,.slice s3.1 s3.2.1 s3.2.2]→R' w') :
  Z1 w ⟨N,0,none⟩ (.bool b1)∧∀w1:World,ZA w ⟨N,0,none⟩ (.bool b1) w1→Z1 w1 (Addr.add ⟨N,0,none⟩ 1) (.slice s1.1 s1.2.1 s1.2.2)∧∀w2:World,ZA w1 (Addr.add ⟨N,0,none⟩ 1) (.slice s1.1 s1.2.1 s1.2.2) w2→Z1 w2 (Addr.add ⟨N,0,none⟩ 2) (.slice s2.1 s2.2.1 s2.2.2)∧∀w3:World,ZA w2 (Addr.add ⟨N,0,none⟩ 2) (.slice s2.1 s2.2.1 s2.2.2) w3 →
   Z1 w3 (Addr.add ⟨N,0,none⟩ 3) (.slice s3.1 s3.2.1 s3.2.2)∧∀w4:World,ZA w3 (Addr.add ⟨N,0,none⟩ 3) (.slice s3.1 s3.2.1 s3.2.2) w4→R' w4 :=
 ZHO X.blk rfl rfl rfl rfl (fun w' B' Q=>K w' _ Q (Stp.of_mod Q 5 (fun k _ e=>by rw [e]; exact X.clr)) ⟨B',(Z2E X.blk.lt).trans X.clr⟩)
theorem ZEz {xs:List It} {v:By} {j:Nat} (hg:Z3D (.l xs)) (hj:j < xs.length) (h:xs.getD j (.s [])=.s v):v.length≤2 ^ 40:=by
 obtain ⟨g,_,hf⟩:=hg.node
 rw [Z1O hj] at h
 have hm:=hf.mem (List.getElem_mem hj)
 rw [h] at hm
 have:v.length≤(enc (.s v)).length:=by
  simp only [enc]
  split
  ·exact Nat.le_refl _
  ·rw [List.length_append]; omega
 have:=hm.2.2
 omega
def ZHX (r:Except Int By) (w':World) (lab':Nat→Nat) (e:Ending):Prop:=match r with
 | .error er=>e=.panicked (Z2v er)∧er≠0
 | .ok v=>∃o k,e=.returned (.tuple #[.slice o v.length k,.bool (decide (v≠[]))])∧CBy w' lab' 6 o v
section
variable {σ:Type} {ask:Value} {T:Nat→Prop} {Inv:World→(Nat→Nat)→σ→Prop} {step:σ→By→σ×Except Int By} {can:σ→Nat→Prop}
theorem ZAo (ok:ZGF ask T Inv step can) {w0:World} {lab0:Nat→Nat} {s0:σ} {h key:By} {o:Option Addr} {k:Nat} (hI:Inv w0 lab0 s0) (hcan:can s0 129) (hh:h.length=32) (hr:RdB w0 o key) (hkl:key.length≤64) :
  Calls Tryz.prog Z35.n #[.agg (hashA h),.slice o key.length k,ask] w0 (fun e w'=>∃lab',Stp (fun c=>c=5∨T c) w0 lab0 w' lab'∧Inv w' lab' (way step s0 (rootIt h) (nibbles key)).1∧ZHX (way step s0 (rootIt h) (nibbles key)).2 w' lab' e):=by
 have hT:∀w w' lab lab' s,Inv w lab s→Stp NoS w lab w' lab'→Inv w' lab' s:=fun w w' lab lab' s hI st=>ok.stp hI (st.mono (fun _ h=>h.elim))
 refine ZH fun R hR=>Z35.vc _ _ _ _ _ _ _ ?_
 unfold Z35.Vc
 rintro d3 w1 ⟨rfl,rfl⟩
 have M1:=Mod.alloc (S:=NoB) w0 (.cells (hashA h) 27)
 have X1:=Blk.new w0 27 (hashA h)
 have hr1:=hr.mod' M1
 generalize w0.heap.size=D3 at *
 generalize w0.alloc (.cells (hashA h) 27)=w1 at *
 refine (Z2m (k:=k) hr1 (by omega)).mono ?_
 rintro _ w2 ⟨op,kp,rfl,F2⟩
 have X2:=X1.mod' F2.mod
 have M2:=M1.none_trans F2.mod
 refine .inr ⟨_,_,_,rfl,hashA h,X2.rowAll (ZB _),?_⟩
 have hnl:=ZT key
 have hpc:=F2.own.cap.1
 have s02:Stp NoS w0 lab0 w2 (ext lab0 w0.heap.size 6):=Stp.of_nob M2 6
 have I2:=hT _ _ _ _ _ hI s02
 have P2:CBy w2 (ext lab0 w0.heap.size 6) 6 op (nibbles key):=⟨F2.own.bytes,fun _ d hd=>ext_new (by have:=F2.new d.block ⟨d,hd,rfl⟩; have:=M1.size; omega)⟩
 generalize ext lab0 w0.heap.size 6=lab2 at *
 refine (Z6f (A:=fun b=>ext lab2 w2.heap.size 6 b≠6) hh).mono ?_
 rintro _ w3 ⟨L,rfl,M3,hL⟩
 have s23:Stp NoS w2 lab2 w3 (ext lab2 w2.heap.size 6):=Stp.of_nob M3 6
 have I3:=hT _ _ _ _ _ I2 s23
 have P3:=P2.stp s23 (fun h=>h)
 have s03:=s02.trans s23
 generalize ext lab2 w2.heap.size 6=lab3 at *
 refine .inr ⟨L,rfl,?_⟩
 rintro d14 w4 ⟨rfl,rfl⟩
 rw [Z7g]
 obtain ⟨w5,hr5,V5,s35⟩:=Z6y hL
 have I5:=hT _ _ _ _ _ I3 s35
 have P5:=P3.stp s35 (fun h=>h)
 have s05:=s03.trans s35
 generalize ext lab3 w3.heap.size 5=lab5 at *
 refine ⟨w5,hr5,fun o l c d w'=>∃(lab:Nat→Nat) (s:σ) (x:It) (path:By) (D:Nat),d=⟨D,0,none⟩∧Stp (fun c=>c=5∨T c) w0 lab0 w' lab∧Inv w' lab s∧can s (path.length+1)∧ZDb w' lab D x∧Z3D x∧CBy w' lab 6 o path∧l=path.length∧path.length≤c∧path.length≤128∧(∀n∈path,n.toNat < 16)∧way step s x path=way step s0 (rootIt h) (nibbles key),
  fun _ l _ _ _=>l,⟨lab5,s0,rootIt h,nibbles key,_,rfl,s05.mono (fun _ h=>h.elim),I5,ok.le hcan (by omega),V5,Z7P hh,P5,rfl,hpc,by omega,nib_lt key,rfl⟩,?_⟩
 clear I5 V5 P5 s05 hr5 s35 I3 P3 s03 hL M3 s23 I2 P2 s02 X2 M2 F2 X1 M1 hr1
 rintro o l c d _ w6 ⟨lab6,s,x,path,D,rfl,s06,I6,hc6,V6,hg,P6,rfl,hpc,hpl,hnib,heq⟩
 have h5:¬T 5:=ok.s5
 have h6:¬T 6:=ok.s6
 have done:∀(w':World) (lab':Nat→Nat) (s':σ) (r:Except Int By) (e:Ending),Stp (fun c=>c=5∨T c) w6 lab6 w' lab'→Inv w' lab' s'→way step s x path=(s',r)→ZHX r w' lab' e→R e w':=by
  intro w' lab' s' r e st hI' hw hi
  rw [hw] at heq
  rw [← heq] at hR
  exact hR e w' ⟨lab',s06.trans st,hI',hi⟩
 obtain ⟨hl5,L6,B6,hrf⟩:=id V6
 have cell33:∀{v:Value},L6[33]?=some v→World.cell? w6 (Addr.add ⟨D,0,none⟩ 33)=some v:=fun hv=>by rw [Z6]; exact B6.rd1 hv
 refine ⟨!isE x,?_,fun hb=>?_,fun hb=>?_⟩
 ·refine cell33 ?_
  cases x with
  | s b =>
    rcases hrf with ⟨rfl,h',hh',_,rfl⟩ | ⟨hb32,rfl⟩
    ·exact Z7k hh'
    ·cases b with
     | nil=>cases hb32
     | cons a r=>exact Z7k (Z0x _)
  | l xs=>obtain ⟨Dx,v1,v2,v3,rfl,_⟩:=hrf; exact Z7k rfl
 ·-- a node is ZHC
  rintro d22 w7 ⟨rfl,rfl⟩
  have s67:Stp NoS w6 lab6 (w6.alloc (.cells #[.bool false,.slice none 0 0,.slice none 0 0,.slice none 0 0] 86)) (ext lab6 w6.heap.size 5):=Stp.alloc NoS w6 lab6 _ 5
  have N7:=CB.new w6 lab6 5 86 #[.bool false,.slice none 0 0,.slice none 0 0,.slice none 0 0]
  have I7:=hT _ _ _ _ _ I6 s67
  have V7:=V6.stp s67 (fun h=>h) (fun h=>h)
  have P7:=P6.stp s67 (fun h=>h)
  have hDlt:=B6.lt
  generalize w6.heap.size=N at *
  generalize w6.alloc (.cells #[.bool false,.slice none 0 0,.slice none 0 0,.slice none 0 0] 86)=w7 at *
  generalize ext lab6 N 5=lab7 at *
  refine ⟨fun w'=>∃(lab':Nat→Nat) (s':σ) (xs:List It) (b:Bool) (s1 s2 s3:Option Addr×Nat×Nat),Stp (fun c=>c=5∨T c) w7 lab7 w' lab'∧Inv w' lab' s'∧can s' path.length∧ZDb w' lab' D x∧CBy w' lab' 6 o path ∧
   CB w' lab' 5 N 86 #[.bool b,.slice s1.1 s1.2.1 s1.2.2,.slice s2.1 s2.2.1 s2.2.2,.slice s3.1 s3.2.1 s3.2.2]∧NvC (fun b=>lab' b≠6) w' xs b s1 s2 s3∧Z3D (.l xs)∧way step s x path=Z2o (way step) s' xs path,?_,?_⟩
  ·-- how the node is got
   obtain ⟨hl7,L7,B7,hrf7⟩:=id V7
   cases x with
   | l xs =>
     obtain ⟨Dx,v1,v2,v3,rfl,hADx,BDx,hit⟩:=hrf7
     obtain ⟨b,p1,q1,r1,p2,q2,r2,rfl,rfl,rfl⟩:=hit.vals
     have hcell:World.cell? w7 (Addr.add ⟨D,0,none⟩ 32)=some (.pointer (some ⟨Dx,0,none⟩)):=by rw [Z6]; exact B7.rd1 (Z4v rfl)
     refine ⟨_,hcell,fun _=>⟨_,hcell,_,rfl,Z81 BDx ?_⟩,fun h=>(by cases h)⟩
     refine (Z4N (A:=fun b=>ext lab7 w7.heap.size 6 b≠6) hg (fun b hb h=>h (ext_new hb)) (ItC.restr (fun b hb h=>by rwa [Z2E hb] at h) hit)).mono ?_
     rintro _ w8 ⟨bb,s1,s2,s3,rfl,M8,hn8⟩
     have s78:Stp NoS w7 lab7 w8 (ext lab7 w7.heap.size 6):=Stp.of_nob M8 6
     have I8:=hT _ _ _ _ _ I7 s78
     have V8:=V7.stp s78 (fun h=>h) (fun h=>h)
     have P8:=P7.stp s78 (fun h=>h)
     have N8:=N7.stp s78 (fun h=>h)
     generalize ext lab7 w7.heap.size 6=lab8 at *
     refine .inr ⟨_,_,_,_,_,_,_,_,_,_,rfl,?_⟩
     refine setN (b1:=bb) (s1:=s1) (s2:=s2) (s3:=s3) N8 (fun w9 lab9 Q9 s89 N9=>?_)
     have hne:D≠N:=by omega
     exact ⟨lab9,s,xs,bb,s1,s2,s3,(s78.mono (fun _ h=>h.elim)).trans (s89.mono (fun _ h=>.inl h)),ok.stp I8 s89,ok.le hc6 (by omega),V8.set Q9 s89 hne,P8.stp s89 (by decide),N9,hn8.stp s89 (by decide),hg,ZFp hg hnib⟩
   | s b =>
     rcases hrf7 with ⟨rfl,_⟩ | ⟨hb32,rfl⟩
     ·cases hb
     have hbn:b≠[]:=by rintro rfl; cases hb32
     have hcell:World.cell? w7 (Addr.add ⟨D,0,none⟩ 32)=some (.pointer none):=by rw [Z6]; exact B7.rd1 (Z4v (Z0x _))
     refine ⟨_,hcell,fun h=>(h rfl).elim,fun _=>⟨hashA b,B7.rowAt (ZB b) (fun i hi=>by rw [Nat.zero_add,ZCe (Z0x _) hi,Array.getElem?_toList]),?_⟩⟩
     refine Z3S.mono (ok.run I7 hc6 hb32) ?_
     rintro e w8 ⟨lab8,s78,I8,hc8,herr,hok⟩
     have V8:=V7.stp s78 h5 h6
     have P8:=P7.stp s78 h6
     have N8:=N7.stp s78 h5
     have st68:Stp (fun c=>c=5∨T c) w6 lab6 w8 lab8:=(s67.mono (fun _ h=>h.elim)).trans (s78.mono (fun _ h=>.inr h))
     cases hst:step s b with
     | mk s' r =>
       rw [hst] at I8 hc8 herr hok
       cases r with
       | error er =>
         obtain ⟨rfl,hne⟩:=herr er rfl
         exact .inl ⟨_,rfl,done w8 lab8 s' _ _ st68 I8 (ZHI hbn hst) ⟨rfl,hne⟩⟩
       | ok bs =>
         obtain ⟨ob,kb,rfl,hr8,hk8⟩:=hok bs rfl
         refine .inr ⟨_,_,_,rfl,?_⟩
         refine (Z6X (A:=fun b=>ext lab8 w8.heap.size 6 b≠6) (fun b hb h=>h (ext_new hb)) hr8 hk8).mono ?_
         rintro e w9 ⟨M9,h0,hne⟩
         have s89:Stp NoS w8 lab8 w9 (ext lab8 w8.heap.size 6):=Stp.of_nob M9 6
         have I9:=hT _ _ _ _ _ I8 s89
         have V9:=V8.stp s89 (fun h=>h) (fun h=>h)
         have P9:=P8.stp s89 (fun h=>h)
         have N9:=N8.stp s89 (fun h=>h)
         generalize ext lab8 w8.heap.size 6=lab9 at *
         have hDN:D≠N:=by omega
         by_cases hck:Z0R bs=0
         ·obtain ⟨xs,bb,s1,s2,s3,hdc,hgx,rfl,hn9⟩:=h0 hck
          refine .inr ⟨_,_,_,_,_,_,_,_,_,_,_,rfl,?_⟩
          refine setN (b1:=bb) (s1:=s1) (s2:=s2) (s3:=s3) N9 (fun w10 lab10 Q10 s910 N10=>?_)
          refine (Z1P w10 0).mono ?_
          rintro e w11 ⟨rfl,he⟩
          rw [if_pos rfl] at he
          exact .inr ⟨he,lab10,s',xs,bb,s1,s2,s3,((s78.mono (fun _ h=>.inr h)).trans (s89.mono (fun _ h=>h.elim))).trans (s910.mono (fun _ h=>.inl h)),ok.stp I9 s910,hc8,V9.set Q10 s910 hDN,P9.stp s910 (by decide),N10,hn9.stp s910 (by decide),hgx,ZCs hbn hst hck hdc hgx hnib⟩
         ·have he:=hne hck
          subst he
          refine .inr ⟨_,_,_,_,_,_,_,_,_,_,_,rfl,?_⟩
          refine setN (b1:=false) (s1:=(none,0,0)) (s2:=(none,0,0)) (s3:=(none,0,0)) N9 (fun w10 lab10 Q10 s910 N10=>?_)
          refine (Z1P w10 161).mono ?_
          rintro e w11 ⟨rfl,he⟩
          rw [if_neg (by decide)] at he
          subst he
          exact .inl ⟨_,rfl,done _ lab10 s' _ _ ((st68.trans (s89.mono (fun _ h=>h.elim))).trans (s910.mono (fun _ h=>.inl h))) (ok.stp I9 s910) (ZFo hbn hst hck) ⟨rfl,by decide⟩⟩
  ·-- what is done with the node
   rintro _ w8 ⟨lab8,s',xs,b,s1,s2,s3,s78,I8,hc8,V8,P8,N8,hn,hgx,hway⟩
   have st68:Stp (fun c=>c=5∨T c) w6 lab6 w8 lab8:=(s67.mono (fun _ h=>h.elim)).trans s78
   have c1:World.cell? w8 (Addr.add ⟨N,0,none⟩ 1)=some (.slice s1.1 s1.2.1 s1.2.2):=by rw [Z6]; exact N8.blk.rd1 rfl
   have c2:World.cell? w8 (Addr.add ⟨N,0,none⟩ 2)=some (.slice s2.1 s2.2.1 s2.2.2):=by rw [Z6]; exact N8.blk.rd1 rfl
   have c3:World.cell? w8 (Addr.add ⟨N,0,none⟩ 3)=some (.slice s3.1 s3.2.1 s3.2.2):=by rw [Z6]; exact N8.blk.rd1 rfl
   have none_:∀(w':World) (lab':Nat→Nat),Stp NoS w8 lab8 w' lab'→way step s x path=(s',.ok [])→R (.returned (.tuple #[.slice none 0 0,.bool false])) w':=fun w' lab' st hw =>
    done w' lab' s' _ _ (st68.trans (st.mono (fun _ h=>h.elim))) (hT _ _ _ _ _ I8 st) hw ⟨none,0,rfl,CBy.nil _ _ _ _⟩
   refine ⟨b,N8.blk.rd1 rfl,fun hbt=>?_,fun hbf=>?_⟩
   ·-- a leaf
    subst hbt
    rcases hn with ⟨p,v,hx2,he,hv1,_,hp1,hpr,_,hv3,hvr⟩ | ⟨p,D',L,_,_,hf,_⟩ | ⟨g,v,_,_,hf,_⟩
    ·obtain ⟨o1,l1,k1⟩:=s1
     obtain ⟨o3,l3,k3⟩:=s3
     dsimp only at hp1 hv3 hpr hvr c1 c3
     subst hp1 hv3
     refine ⟨_,_,_,c1,?_⟩
     refine (Z4y hpr.1 P8.rd).mono ?_
     rintro _ w9 ⟨rfl,rfl⟩
     refine .inr ⟨_,rfl,_,_,_,c3,?_⟩
     obtain ⟨p',lf,he',hlv,_⟩:=hgx.two hx2
     rw [he] at he'
     cases he'
     obtain ⟨v',hv',hvn⟩:=hlv rfl
     rw [hv1] at hv'
     cases hv'
     refine (Z5w (ok:=decide (p=path)) hvr.1 (ZEz hgx (by omega) hv1)).mono ?_
     rintro _ w10 ⟨o',k',rfl,M10,R10,N10⟩
     have s810:Stp NoS w9 lab8 w10 (ext lab8 w9.heap.size 6):=Stp.of_nob M10 6
     refine .inr ⟨_,_,_,_,rfl,?_⟩
     have hres:way step s x path=(s',.ok (if decide (p=path)=true then v else [])):=by
      rw [hway,ZAR hx2 he,hv1]
      simp only [decide_eq_true_eq]; rfl
     refine done w10 _ s' _ _ (st68.trans (s810.mono (fun _ h=>h.elim))) (hT _ _ _ _ _ I8 s810) hres ⟨o',k',?_,R10,fun _ d hd=>ext_new (N10 d hd)⟩
     congr 4
     by_cases hpp:p=path
     ·simp [hpp,hvn]
     ·simp [hpp]
    ·cases hf
    ·cases hf
   ·subst hbf
    refine get4 N8.blk ?_
    refine Z4t.mono ?_
    rintro _ w9 ⟨rfl,M9⟩
    have s89:Stp NoS w8 lab8 w9 (ext lab8 w8.heap.size 6):=Stp.of_nob M9 6
    have I9:=hT _ _ _ _ _ I8 s89
    have V9:=V8.stp s89 (fun h=>h) (fun h=>h)
    have P9:=P8.stp s89 (fun h=>h)
    have N9:=N8.stp s89 (fun h=>h)
    have hn9:=hn.stp s89 (fun h=>h)
    have st69:=st68.trans (s89.mono (fun _ h=>h.elim))
    generalize ext lab8 w8.heap.size 6=lab9 at *
    have none9:∀(w':World) (lab':Nat→Nat),Stp NoS w9 lab9 w' lab'→way step s x path=(s',.ok [])→R (.returned (.tuple #[.slice none 0 0,.bool false])) w':=fun w' lab' st hw =>
     done w' lab' s' _ _ (st69.trans (st.mono (fun _ h=>h.elim))) (hT _ _ _ _ _ I9 st) hw ⟨none,0,rfl,CBy.nil _ _ _ _⟩
    clear none_ c1 c2 c3 hn N8 P8 V8 I8 M9
    have c1:World.cell? w9 (Addr.add ⟨N,0,none⟩ 1)=some (.slice s1.1 s1.2.1 s1.2.2):=by rw [Z6]; exact N9.blk.rd1 rfl
    have c2:World.cell? w9 (Addr.add ⟨N,0,none⟩ 2)=some (.slice s2.1 s2.2.1 s2.2.2):=by rw [Z6]; exact N9.blk.rd1 rfl
    have c3:World.cell? w9 (Addr.add ⟨N,0,none⟩ 3)=some (.slice s3.1 s3.2.1 s3.2.2):=by rw [Z6]; exact N9.blk.rd1 rfl
    rcases hn9 with ⟨p,v,_,_,_,hf,_⟩ | ⟨p,D',L,hx2,he,_,hp1,hpr,hs2,hAD',BD',hrL,hs3⟩ | ⟨g,v,hx17,hv16,_,hs1,hs2,hs2l,hgl,hAg,hkids,hv3,hvr⟩
    ·cases hf
    ·-- a row
     obtain ⟨o1,l1,k1⟩:=s1
     dsimp only at hp1 hpr c1
     subst hp1 hs2 hs3
     dsimp only at c2
     refine .inr ⟨_,rfl,fun _=>⟨_,_,_,c1,?_⟩,fun h=>(by simp at h)⟩
     refine (Z77 P9.rd hpc hpr.1).mono ?_
     rintro e w10 ⟨rfl,hcut⟩
     obtain ⟨p',lf,he',_,hrow⟩:=hgx.two hx2
     rw [he] at he'
     cases he'
     obtain ⟨hpn,hgy,_⟩:=hrow rfl
     by_cases hpre:p.isPrefixOf path=true
     ·rw [if_pos hpre] at hcut
      subst hcut
      have hle:p.length≤path.length:=(List.isPrefixOf_iff_prefix.1 hpre).length_le
      have hppos:0 < p.length:=List.length_pos_iff.2 hpn
      refine .inr ⟨_,_,_,_,rfl,fun h=>(by cases h),fun _=>⟨_,_,_,c2,_,rfl,⟨by decide,by decide⟩,L,by rw [Z6]; exact BD'.rowAll hrL.size,?_⟩⟩
      refine ZCV V9 hrL (fun w11 lab11 D11 s911 V11=>?_)
      have P11:=P9.stp s911 (by decide)
      have hdl:(path.drop p.length).length=path.length - p.length:=List.length_drop
      have P12:CBy w11 lab11 6 (subO o c p.length 1) (path.drop p.length):=by
       have:=P11.sub (cap:=c) (lo:=p.length) (n:=path.length - p.length) hpc
       rwa [← hdl,List.take_length] at this
      refine ⟨⟨lab11,s',_,path.drop p.length,D11,rfl,(s06.trans st69).trans (s911.mono (fun _ h=>.inl h)),ok.stp I9 s911,ok.le hc8 (by omega),V11,hgy,P12,hdl.symm,by omega,by omega,fun n hnq=>hnib n ((List.drop_suffix _ _).subset hnq),?_⟩,by dsimp only; omega⟩
      rw [← heq,hway,ZCX hx2 he,if_pos hpre]
     ·rw [if_neg hpre] at hcut
      subst hcut
      refine .inr ⟨_,_,_,_,rfl,fun _=>?_,fun h=>(by cases h)⟩
      exact none9 _ _ (Stp.refl _ _ _) (by rw [hway,ZCX hx2 he,if_neg hpre])
    ·-- a branch
     obtain ⟨o2,l2,k2⟩:=s2
     obtain ⟨o3,l3,k3⟩:=s3
     dsimp only at hs2 hs2l hv3 hvr c2 c3
     subst hs2 hs2l hv3
     refine .inr ⟨_,rfl,fun h=>(by simp at h),fun _=>⟨fun hl0=>?_,fun hl0=>?_⟩⟩
     ·have hp0:path=[]:=List.eq_nil_of_length_eq_zero (by omega)
      refine ⟨_,_,_,c3,_,_,_,c3,?_⟩
      refine (Z5w (ok:=decide (((v.length:Nat):Int) > 0)) hvr.1 (ZEz hgx (by omega) hv16)).mono ?_
      rintro _ w10 ⟨o',k',rfl,M10,R10,N10⟩
      have s910:Stp NoS w9 lab9 w10 (ext lab9 w9.heap.size 6):=Stp.of_nob M10 6
      refine .inr ⟨_,_,_,_,rfl,?_⟩
      have hvv:(if decide (((v.length:Nat):Int) > 0)=true then v else [])=v:=by
       cases v with
       | nil=>simp
       | cons a r=>rw [if_pos (by simp)]
      rw [hvv] at R10 ⊢
      have hres:way step s x path=(s',.ok v):=by
       rw [hway,hp0,ZFU (by omega),hv16]; rfl
      refine done w10 _ s' _ _ (st69.trans (s910.mono (fun _ h=>h.elim))) (hT _ _ _ _ _ I9 s910) hres ⟨o',k',?_,R10,fun _ d hd=>ext_new (N10 d hd)⟩
      congr 4
      cases v with
      | nil=>rfl
      | cons a r=>rw [decide_eq_true (by simp),decide_eq_true (by simp)]
     ·cases path with
      | nil=>exact (hl0 rfl).elim
      | cons n r =>
        rintro _ rfl
        have s910:Stp NoS w9 lab9 w9.drew lab9:=Stp.drew NoS w9 lab9
        have MD:=Mod.drew (S:=NoB) w9
        have I10:=hT _ _ _ _ _ I9 s910
        have V10:=V9.stp s910 (fun h=>h) (fun h=>h)
        have P10:=P9.stp s910 (fun h=>h)
        have st610:=st69.trans (s910.mono (fun _ h=>h.elim))
        have c2':World.cell? w9.drew (Addr.add ⟨N,0,none⟩ 2)=some (.slice (some ⟨g,0,none⟩) 16 k2):=c2
        obtain ⟨d,hod,hcn⟩:=ZAG P10.rd
        have hn16:=hnib n (by simp)
        obtain ⟨L,hrow,hrL⟩:=hkids n.toNat hn16
        have hrow':ZJ w9.drew ⟨g,n.toNat * 34,none⟩ 34 L:=hrow
        have hrL':=hrL.stp s910 (fun h=>h)
        refine ⟨_,_,_,c2',d,hod,⟨by decide,by simp⟩,_,hcn,_,rfl,⟨by omega,by omega⟩,L,by rw [Z6,Nat.zero_add,Int.toNat_natCast]; exact hrow',by simp,?_⟩
        refine ZCV V10 hrL' (fun w11 lab11 D11 s1011 V11=>?_)
        have P11:=P10.stp s1011 (by decide)
        have P12:CBy w11 lab11 6 (subO o c 1 1) r:=by
         have:=P11.sub (cap:=c) (lo:=1) (n:=r.length) hpc
         simpa using this
        simp only [List.length_cons] at hpc hpl ⊢
        refine ⟨⟨lab11,s',_,r,D11,rfl,(s06.trans st610).trans (s1011.mono (fun _ h=>.inl h)),ok.stp I10 s1011,ok.le hc8 (by simp only [List.length_cons]; omega),V11,(hgx.many (by omega)).2.2 _ hn16,P12,by omega,by omega,by omega,fun q hq=>hnib q (by simp [hq]),?_⟩,by omega⟩
        rw [← heq,hway,ZFV (by omega)]
 ·-- nothing is ZHC
  cases x with
  | l xs=>cases hb
  | s b =>
    cases b with
    | cons a r=>cases hb
    | nil=>exact done w6 lab6 s _ _ (Stp.refl _ _ _) I6 (ZHJ s path) ⟨none,0,rfl,CBy.nil _ _ _ _⟩
end
end Go.Proofs.YtfghidehlnfdiaaGreat
end
section
namespace Go.Proofs.YtfghidehlnfdiaaGreat
open Go Go.Vcg Go.Trie
def Z1G:List (By×By)→By→Option By
 | [],_=>none
 | x :: r,h=>if x.1=h then some x.2 else Z1G r h
theorem Z68:∀(l:List (By×By)) (x:By×By) (h:By),Z1G (l++[x]) h=(Z1G l h).or (if x.1=h then some x.2 else none)
 | [],x,h=>by simp [Z1G]
 | y :: r,x,h=>by
   simp only [List.cons_append,Z1G]
   split
   ·rfl
   ·exact Z68 r x h
theorem Z9o {K V:Type} [DecidableEq K] {k k':K} {v:V}:∀{es:List (K×V)},Z3E k' (Vcg.upd k v es)=if k=k' then some v else Z3E k' es
 | []=>by simp [Vcg.upd,Z3E]
 | x :: r=>by
   simp only [Vcg.upd]
   by_cases hx:x.1=k
   ·rw [if_pos hx]
    simp only [Z3E]
    by_cases hk:k=k'
    ·rw [if_pos hk,if_pos hk]
    ·rw [if_neg hk,if_neg hk,if_neg (by rw [hx]; exact hk)]
   ·rw [if_neg hx]
    simp only [Z3E]
    rw [Z9o]
    by_cases hk:k=k'
    ·simp only [if_pos hk]; rw [if_neg (by rw [← hk]; exact hx)]
    ·simp only [if_neg hk]
abbrev ZI4:TypeId:=67
theorem Z5u:Tryz.prog.underlying ZI4=some (.map tHash Z07):=by kernel_rfl
theorem ZAq (w:World):(zeroValue Z07).run Tryz.prog w=.ok (.slice none 0 0) w:=by kernel_rfl
section
variable {w w':World} {lab lab':Nat→Nat} {c:Nat}
def ZDX (w:World) (lab:Nat→Nat) (c:Nat) (l:List (By×By)) (es:List (H32×Value)):Prop :=
 ∀k:H32,match Z1G l k.1 with
  | none=>Z3E k es=none
  | some b=>∃o n,Z3E k es=some (.slice o b.length n)∧CBy w lab c o b∧b.length≤n
theorem ZDX.stp {S:Nat→Prop} {l:List (By×By)} {es:List (H32×Value)} (h:ZDX w lab c l es) (s:Stp S w lab w' lab') (hs:¬S c):ZDX w' lab' c l es:=fun k=>by
 have:=h k
 split at this
 ·exact this
 ·rename_i b he
  obtain ⟨o,n,h1,h2,h3⟩:=this
  exact ⟨o,n,h1,h2.stp s hs,h3⟩
def ZB0 (w:World) (lab:Nat→Nat) (cm c:Nat) (l:List (By×By)) (m:Nat):Prop :=
 ∃es:List (H32×Value),CM (fun _=>True) ZDu w lab cm m es∧ZDX w lab c l es
theorem ZB0.stp {S:Nat→Prop} {cm m:Nat} {l:List (By×By)} (h:ZB0 w lab cm c l m) (s:Stp S w lab w' lab') (hm:¬S cm) (hs:¬S c):ZB0 w' lab' cm c l m:=by
 obtain ⟨es,h1,h2⟩:=h
 exact ⟨es,h1.stp s hm,h2.stp s hs⟩
theorem ZG9 {o:Option Addr} {vs:List Value} {l:List (By×By)} (h:ZV w lab c vs l) (hR:Z4p w lab c o vs) {j:Nat} (hj:j < l.length) :
  ∃g f ob kb,o=some ⟨g,f,none⟩∧ZJ w ⟨g,f+j * 33,none⟩ 33 (ndA l[j].1 ob l[j].2.length kb)∧CBy w lab c ob l[j].2∧l[j].2.length≤kb∧l[j].1.length=32:=by
 obtain ⟨h1,h2,ob,kb,h3,h4,h5⟩:=h.2 j hj
 obtain ⟨g,f,ho,hg,hl,hc⟩:=hR _ _ h3
 refine ⟨g,f,ob,kb,ho,⟨Z4i _ _ _ _,fun i hi=>?_⟩,h4,h5,h1⟩
 by_cases h32:i=32
 ·subst h32
  rw [Z6,show f+j * 33+32=f+(j * 33+32) by omega,hc,ZCT]
 ·obtain ⟨g',f',ho',_,_,hc'⟩:=hR _ _ (h2 i (by omega))
  rw [ho] at ho'; cases ho'
  rw [Z6,show f+j * 33+i=f+(j * 33+i) by omega,hc',ZCU (by omega)]
theorem ZH9:(Tryz.prog.info? tNd).map (·.size)=some 33:=by kernel_rfl
theorem Z6i {o:Option Addr} {k:Nat} {l:List (By×By)} {held:Bool} (h:Z0w w lab 0 l o l.length) (hlen:l.length≤2 ^ 40) :
  Calls Tryz.prog Z1X.n #[.slice o l.length k,.bool held] w (fun e w'=>Vcg.Mod NoB w w'∧(l.length > 4096→e=.returned (.tuple #[.agg #[.map none,.bool false],.int .i64 162])) ∧
   (l.length≤4096→∃m,e=.returned (.tuple #[.agg #[.map (some m),.bool held],.int .i64 0])∧ZB0 w' (ext lab w.heap.size 9) 9 0 l m)):=by
 refine ZH fun R hR=>Z1X.vc _ _ _ _ _ _ ?_
 unfold Z1X.Vc
 rintro d2 w1 ⟨rfl,rfl⟩
 have M1:=Mod.alloc (S:=NoB) w (.cells #[.map none,.bool false] 69)
 have B1:=Blk.new w 69 #[.map none,.bool false]
 have hs1:=ZD w (.cells #[.map none,.bool false] 69)
 generalize hD:w.heap.size=D at *
 generalize w.alloc (.cells #[.map none,.bool false] 69)=w1 at *
 have two:∀(w1:World) (a b:Value) (m:Option Nat) (bb:Bool) (R':Option Nat→Bool→World→Prop),Blk w1 D 69 #[a,b]→(∀w2,Vcg.Mod (·=D) w1 w2→R' m bb w2) →
   Z1 w1 ⟨D,0,none⟩ (.map m)∧∀w4:World,ZA w1 ⟨D,0,none⟩ (.map m) w4→Z1 w4 (Addr.add ⟨D,0,none⟩ 1) (.bool bb)∧∀w5:World,ZA w4 (Addr.add ⟨D,0,none⟩ 1) (.bool bb) w5 →
   ∃m6:Option Nat,∃b7:Bool,World.cell? w5 ⟨D,0,none⟩=some (.map m6)∧World.cell? w5 (Addr.add ⟨D,0,none⟩ 1)=some (.bool b7)∧R' m6 b7 w5:=by
  intro w1 a b m bb R' B K
  refine ⟨B.canSet (by simp) rfl,?_⟩
  rintro _ rfl
  have B2:=B.set 0 (.map m)
  have Q1:Vcg.Mod (·=D) w1 _:=Mod.setCell w1 ⟨D,0,none⟩ (.map m)
  rw [Z6,Nat.zero_add]
  refine ⟨B2.canSet (by simp) rfl,?_⟩
  rintro _ rfl
  have B3:=B2.set 1 (.bool bb)
  have Q2:=Q1.step_set (a:=⟨D,1,none⟩) (v:=.bool bb) (fun _=>rfl)
  exact ⟨_,_,B3.rd1 rfl,B3.rd1 rfl,K _ Q2⟩
 refine ⟨fun hbig=>?_,fun hsmall=>?_⟩
 ·exact two w1 _ _ none false (fun m6 b7 w5=>R (.returned (.tuple #[.agg #[.map m6,.bool b7],.int .i64 162])) w5) B1 (fun w2 Q=>hR _ _ ⟨ZM M1 Q (by omega),fun _=>rfl,fun h=>absurd h (by omega)⟩)
 ·have hlen':l.length≤4096:=by omega
  obtain ⟨w2,hr2,M2,hmap⟩:=Z7n Z5u w1
  have B2:=B1.mod' M2
  have M02:=M1.none_trans M2
  refine ⟨_,w2,hr2,_,rfl,?_⟩
  generalize hm:w1.heap.size=m at *
  have hs2:m < w2.heap.size:=(Array.getElem?_eq_some_iff.1 hmap).1
  rintro d11 w3 ⟨rfl,rfl⟩
  have M3:=Mod.alloc (S:=NoB) w2 (.cells #[.map none,.bool false] 69)
  have E3:=Blk.new w2 69 #[.map none,.bool false]
  have hs3:=ZD w2 (.cells #[.map none,.bool false] 69)
  have B3:=B2.mod' M3
  have hmap3:=(M3.block m hs2 (fun h=>h)).trans hmap
  have M03:=M02.none_trans M3
  generalize hE:w2.heap.size=E at *
  generalize w2.alloc (.cells #[.map none,.bool false] 69)=w3 at *
  refine ⟨E3.canSet (by simp) rfl,?_⟩
  rintro _ rfl
  have E4:=E3.set 0 (.map (some m))
  have Q4:Vcg.Mod (·=E) w3 _:=Mod.setCell w3 ⟨E,0,none⟩ (.map (some m))
  rw [Z6,Nat.zero_add]
  refine ⟨E4.canSet (by simp) rfl,?_⟩
  rintro _ rfl
  have E5:=E4.set 1 (.bool held)
  have Q5:=Q4.step_set (a:=⟨E,1,none⟩) (v:=.bool held) (fun _=>rfl)
  have M05:Vcg.Mod NoB w _:=ZM M03 Q5 (by omega)
  have B5:=B3.mod Q5 (by omega)
  have hmap5:=(Q5.block m (by omega) (by omega)).trans hmap3
  have hsz5:=Q5.size
  generalize ((w3.setCell ⟨E,0,none⟩ (.map (some m))).setCell ⟨E,1,none⟩ (.bool held))=w5 at *
  obtain ⟨_,vs,hCR,hNC⟩:=h
  refine ⟨fun i w'=>∃(j:Nat) (es:List (H32×Value)),i=(j:Int)∧j≤l.length∧Vcg.Mod NoB w w'∧Blk w' D 69 #[.map none,.bool false]∧Blk w' E 69 #[.map (some m),.bool held]∧Z2a (fun _=>True) ZDu w' m es∧ZDX w' (ext lab D 9) 0 (l.take j) es,
   fun i _=>((l.length:Int) - i).toNat,⟨0,[],rfl,Nat.zero_le _,M05,B5,E5,⟨#[],0,hmap5,Go.MapKept.stamped_empty 0,rfl,fun _ h=>by cases h⟩,fun k=>by simp [Z1G,Z3E]⟩,?_⟩
  rintro _ _ w6 ⟨j,es,rfl,hj,M06,B6,E6,hA,hO⟩
  have s06:Stp NoS w lab w6 (ext lab D 9):=hD ▸ Stp.of_nob M06 9
  have CR6:=hCR.stp s06 (fun h=>h)
  have NC6:=hNC.stp s06 (fun h=>h)
  refine ⟨fun hlt=>?_,fun hge=>?_⟩
  ·have hjl:j < l.length:=by omega
   obtain ⟨g,f,ob,kb,rfl,hrow,hby,hkb,h32⟩:=ZG9 NC6 CR6 hjl
   refine ⟨_,rfl,⟨by omega,by omega⟩,_,by rw [Z6,Int.toNat_natCast]; exact hrow,?_⟩
   rintro d20 w7 ⟨rfl,rfl⟩
   have M7:=Mod.alloc (S:=NoB) w6 (.cells nd0 48)
   have N7:=Blk.new w6 48 nd0
   have hE6:=E6.lt
   have hB6:=B6.lt
   have hm6:=hA.lt
   have hst:=N7.storeAll (P:=Tryz.prog) (ty:=48) (L:=ndA l[j].1 ob l[j].2.length kb) (by rw [Z4i]; exact ZH9) (by rw [Z4i]; rfl) (ZBT _ _ _ _)
   have N8:=N7.row_same (ndA l[j].1 ob l[j].2.length kb)
   have Q8:=Mod.setRow (w6.alloc (.cells nd0 48)) w6.heap.size (ndA l[j].1 ob l[j].2.length kb)
   have M68:Vcg.Mod NoB w6 _:=ZM M7 Q8 (Nat.le_refl _)
   refine ⟨_,hst,?_⟩
   generalize ((w6.alloc (.cells nd0 48)).setRow w6.heap.size (ndA l[j].1 ob l[j].2.length kb))=w8 at *
   have B8:=B6.mod' M68
   have E8:=E6.mod' M68
   have hA8:Z2a (fun _=>True) ZDu w8 m es:=hA.same (M68.block m hm6 (fun h=>h))
   have M08:=M06.none_trans M68
   have hrow8:ZJ w8 ⟨w6.heap.size,0,none⟩ 32 (hashA l[j].1):=N8.rowAt (ZB _) (fun i hi=>by
    rw [Nat.zero_add,ZCU hi]
    exact (ZF (f:=fun i=>bV (l[j].1.getD i 0)) hi).symm)
   have hlook:=Z2a.look hA8 Z7T Z5u (ZAq w8) (k:=⟨l[j].1,h32⟩) trivial true
   rw [if_pos rfl] at hlook
   have s68:Stp NoS w6 (ext lab D 9) w8 (ext lab D 9):=by
    have s08:Stp NoS w lab w8 (ext lab D 9):=hD ▸ Stp.of_nob M08 9
    exact ⟨M68.os,M68.tape,M68.output,M68.size,fun _ _=>rfl,fun q hq _=>M68.block q hq (fun h=>h)⟩
   have hO8:=hO.stp s68 (fun h=>h)
   have hby8:=hby.stp s68 (fun h=>h)
   have hfound:=hO8 ⟨l[j].1,h32⟩
   have htk:l.take (j+1)=l.take j++[l[j]]:=List.take_succ_eq_append_getElem hjl
   have ew:IntKind.wrap .i64 ((j:Int)+1)=((j+1:Nat):Int):=by rw [Z0 (by omega) (by omega)]; omega
   rw [ew]
   cases hf:Z1G (l.take j) l[j].1 with
   | none =>
     rw [hf] at hfound
     simp only at hfound
     rw [hfound] at hlook
     obtain ⟨w9,hr9,hA9,Q9⟩:=Z2a.update hA8 Z7T Z5u (k:=⟨l[j].1,h32⟩) trivial (.slice ob l[j].2.length kb)
     have M09:=ZM M08 Q9 (by omega)
     refine ⟨_,E8.rd1 rfl,_,hrow8,_,hlook,_,_,_,_,rfl,fun _=>⟨_,E8.rd1 rfl,_,hrow8,_,_,_,by rw [Z6]; exact N8.rd1 ZCT,w9,hr9,⟨j+1,_,rfl,hjl,M09,B8.mod Q9 (by omega),E8.mod Q9 (by omega),hA9,?_⟩,by dsimp only; omega⟩,fun h=>(by cases h)⟩
     have s89:Stp (·=9) w8 (ext lab D 9) w9 (ext lab D 9):=⟨Q9.os,Q9.tape,Q9.output,Q9.size,fun _ _=>rfl,fun q hq hn=>Q9.block q hq (fun e=>hn (by rw [e]; exact ext_new (by omega)))⟩
     have hO9:=hO8.stp s89 (by decide)
     have hby9:=hby8.stp s89 (by decide)
     intro k
     rw [htk,Z68,Z9o]
     by_cases hk:l[j].1=k.1
     ·have hk':(⟨l[j].1,h32⟩:H32)=k:=Subtype.ext hk
      rw [if_pos hk,if_pos hk',← hk,hf]
      exact ⟨ob,kb,rfl,hby9,hkb⟩
     ·have hk':(⟨l[j].1,h32⟩:H32)≠k:=fun e=>hk (by rw [← e])
      rw [if_neg hk,if_neg hk',Option.or_none]
      exact hO9 k
   | some b =>
     rw [hf] at hfound
     obtain ⟨ob',kb',hfa,_,_⟩:=hfound
     rw [hfa] at hlook
     refine ⟨_,E8.rd1 rfl,_,hrow8,_,hlook,_,_,_,_,rfl,fun h=>(by cases h),fun _=>⟨⟨j+1,es,rfl,hjl,M08,B8,E8,hA8,?_⟩,by dsimp only; omega⟩⟩
     intro k
     rw [htk,Z68]
     by_cases hk:l[j].1=k.1
     ·have:=hO8 k
      rw [← hk,hf] at this ⊢
      exact this
     ·rw [if_neg hk,Option.or_none]
      exact hO8 k
  ·obtain rfl:j=l.length:=by omega
   rw [List.take_length] at hO
   refine ⟨_,_,E6.rd1 rfl,E6.rd1 rfl,?_⟩
   have hm6:=hA.lt
   refine two w6 _ _ (some m) held (fun m6 b7 w5=>R (.returned (.tuple #[.agg #[.map m6,.bool b7],.int .i64 0])) w5) B6 (fun w7 Q7=>hR _ _ ⟨ZM M06 Q7 (by omega),fun h=>absurd h (by omega),fun _=>⟨m,rfl,es,⟨hA.same (Q7.block m hm6 (by omega)),ext_new (by omega)⟩,?_⟩⟩)
   have s67:Stp (·=9) w6 (ext lab D 9) w7 (ext lab D 9):=⟨Q7.os,Q7.tape,Q7.output,Q7.size,fun _ _=>rfl,fun q hq hn=>Q7.block q hq (fun e=>hn (by rw [e]; exact ext_new (by omega)))⟩
   exact hO.stp s67 (by decide)
end
end Go.Proofs.YtfghidehlnfdiaaGreat
end
section
namespace Go.Proofs.YtfghidehlnfdiaaGreat
open Go Go.Vcg Go.Trie
abbrev ZEs:TypeId:=31
section
variable {w w':World} {lab lab':Nat→Nat} {c cb:Nat}
def Z4z (w:World) (lab:Nat→Nat) (cb:Nat) (vs:List Value) (ls:List By):Prop :=
 vs.length=ls.length∧∀(j:Nat) (hj:j < ls.length),∃ob kb,vs[j]?=some (.slice ob ls[j].length kb)∧CBy w lab cb ob ls[j]∧ls[j].length≤kb
theorem Z4z.stp {S:Nat→Prop} {vs:List Value} {ls:List By} (h:Z4z w lab cb vs ls) (s:Stp S w lab w' lab') (hs:¬S cb):Z4z w' lab' cb vs ls :=
 ⟨h.1,fun j hj=>by obtain ⟨ob,kb,h3,h4,h5⟩:=h.2 j hj; exact ⟨ob,kb,h3,h4.stp s hs,h5⟩⟩
theorem Z4z.push {vs:List Value} {ls:List By} {b:By} {ob:Option Addr} {kb:Nat} (H:Z4z w lab cb vs ls) (hb:CBy w lab cb ob b) (hk:b.length≤kb):Z4z w lab cb (vs++[.slice ob b.length kb]) (ls++[b]):=by
 have hv:=H.1
 refine ⟨by simp [hv],fun j hj=>?_⟩
 rw [List.length_append,List.length_singleton] at hj
 by_cases hl:j < ls.length
 ·rw [List.getElem_append_left hl,List.getElem?_append_left (by omega)]
  exact H.2 j hl
 ·obtain rfl:j=ls.length:=by omega
  rw [List.getElem_append_right (Nat.le_refl _)]
  simp only [Nat.sub_self,List.getElem_cons_zero]
  refine ⟨ob,kb,?_,hb,hk⟩
  rw [List.getElem?_append_right (by omega),hv,Nat.sub_self]; rfl
def Z4m (w:World) (lab:Nat→Nat) (c cb:Nat) (ls:List By) (o:Option Addr) (n k:Nat):Prop :=
 n=ls.length∧∃vs,COw w lab c Z07 1 o n k vs∧Z4z w lab cb vs ls
theorem Z4m.nil (w:World) (lab:Nat→Nat) (c cb:Nat):Z4m w lab c cb [] none 0 0:=⟨rfl,[],COw.nil w lab c _ _,rfl,fun j hj=>absurd hj (by simp)⟩
theorem Z4m.stp {S:Nat→Prop} {ls:List By} {o:Option Addr} {n k:Nat} (h:Z4m w lab c cb ls o n k) (s:Stp S w lab w' lab') (hs:¬S c) (hb:¬S cb):Z4m w' lab' c cb ls o n k:=by
 obtain ⟨h1,vs,h2,h3⟩:=h
 exact ⟨h1,vs,h2.stp s hs,h3.stp s hb⟩
theorem Z4m.push {ls:List By} {o:Option Addr} {n k D:Nat} {b:By} {ob:Option Addr} {kb:Nat} (H:Z4m w lab c cb ls o n k) (hcb:cb≠c) (B:Blk w D Z07 #[.slice ob b.length kb]) (hb:CBy w lab cb ob b) (hk:b.length≤kb) (hl:ls.length≤2 ^ 20) :
  ∃o' k' w',Sem.run Tryz.prog (builtinV .append #[ZEs,ZEs] ZEs #[.slice o n k,.slice (some ⟨D,0,none⟩) 1 1]) w=.ok (.slice o' (n+1) k') w' ∧
   Z4m w' (ext lab w.heap.size c) c cb (ls++[b]) o' (n+1) k'∧Stp (·=c) w lab w' (ext lab w.heap.size c):=by
 obtain ⟨rfl,vs,hO,hC⟩:=H
 obtain ⟨i,hi,hz,hs,hbt⟩:=Z2G ZAH
 obtain ⟨o',k',w',h1,h2,h3⟩:=COw.append (ty:=ZEs) Z72 hi hz hs (by rfl) hO (Z5K Z72 B rfl (by simp [Value.oneCell'])) (by simp only [maxLen]; omega) (by rw [hbt]; omega)
 exact ⟨o',k',w',h1,⟨by simp,_,h2,(hC.push hb hk).stp h3 hcb⟩,h3⟩
theorem Z3j {m cm cl:Nat} {l:List (By×By)} {h:By} (hM:ZB0 w lab cm cl l m) (hh:h.length=32) :
  Calls Tryz.prog Z00.n #[.agg #[.map (some m),.bool false],.agg (hashA h)] w (fun e w'=>Vcg.Mod NoB w w'∧(Z1G l h=none→e=.panicked (Z2v 160)) ∧
   (∀b,Z1G l h=some b→∃o k,e=.returned (.slice o b.length k)∧CBy w lab cl o b∧b.length≤k)):=by
 refine ZH fun R hR=>Z00.vc _ _ _ _ _ ?_
 unfold Z00.Vc
 obtain ⟨es,hA,hO⟩:=hM
 rintro d3 w1 ⟨rfl,rfl⟩
 have M1:=Mod.alloc (S:=NoB) w (.cells #[.map (some m),.bool false] 69)
 have B1:=Blk.new w 69 #[.map (some m),.bool false]
 generalize w.heap.size=D at *
 generalize w.alloc (.cells #[.map (some m),.bool false] 69)=w1 at *
 rintro d5 w2 ⟨rfl,rfl⟩
 have M12:=Mod.alloc (S:=NoB) w1 (.cells (hashA h) 27)
 have X2:=Blk.new w1 27 (hashA h)
 have B2:=B1.mod' M12
 have M2:=M1.none_trans M12
 generalize w1.heap.size=E at *
 generalize w1.alloc (.cells (hashA h) 27)=w2 at *
 have hA2:Z2a (fun _=>True) ZDu w2 m es:=hA.map.same (M2.block m hA.map.lt (fun h=>h))
 have hlook:=Z2a.look hA2 Z7T Z5u (ZAq w2) (k:=⟨h,hh⟩) trivial true
 rw [if_pos rfl] at hlook
 have hf:=hO ⟨h,hh⟩
 cases hn:Z1G l h with
 | none =>
   rw [hn] at hf
   simp only at hf
   rw [hf] at hlook
   refine ⟨_,B2.rd1 rfl,_,X2.rowAll (ZB _),_,hlook,_,_,_,_,rfl,fun _=>?_,fun h=>(by cases h)⟩
   refine (Z1P w2 160).mono ?_
   rintro e w3 ⟨rfl,he⟩
   rw [if_neg (by decide)] at he
   subst he
   exact .inl ⟨_,rfl,hR _ _ ⟨M2,fun _=>rfl,fun b hb=>(by rw [hn] at hb; cases hb)⟩⟩
 | some b =>
   rw [hn] at hf
   obtain ⟨ob,kb,hfa,hby,hkb⟩:=hf
   rw [hfa] at hlook
   refine ⟨_,B2.rd1 rfl,_,X2.rowAll (ZB _),_,hlook,_,_,_,_,rfl,fun h=>(by cases h),fun _=>?_⟩
   rintro _ rfl
   have B3:=B2.drew
   refine ⟨false,by rw [Z6]; exact B3.rd1 rfl,fun h=>(by cases h),fun _=>hR _ _ ⟨M2.step_drew,fun h=>(by rw [hn] at h; cases h),fun b' hb'=>?_⟩⟩
   rw [hn] at hb'
   cases hb'
   exact ⟨ob,kb,rfl,hby,hkb⟩
def pStep (l:List (By×By)) (out:List By) (h:By):List By×Except Int By:=match Z1G l h with
 | none=>(out,.error 160)
 | some b=>(out++[b],.ok b)
def ZHU (l:List (By×By)) (dS dO m:Nat) (w:World) (lab:Nat→Nat) (out:List By):Prop :=
 CB w lab 1 dS 69 #[.map (some m),.bool false]∧ZB0 w lab 9 0 l m∧∃o n k,CB w lab 7 dO ZEs #[.slice o n k]∧Z4m w lab 8 9 out o n k
theorem ZHU.stp {S:Nat→Prop} {l:List (By×By)} {dS dO m:Nat} {out:List By} (h:ZHU l dS dO m w lab out) (s:Stp S w lab w' lab') (h0:¬S 0) (hS1:¬S 1) (h7:¬S 7) (h8:¬S 8) (h9:¬S 9):ZHU l dS dO m w' lab' out:=by
 obtain ⟨h1,h2,o,n,k,h3,h4⟩:=h
 exact ⟨h1.stp s hS1,h2.stp s h9 h0,o,n,k,h3.stp s h7,h4.stp s h8 h9⟩
theorem askP {l:List (By×By)} {dS dO m:Nat} (hb:∀x∈l,x.2.length≤2 ^ 30):ZGF (.func (.func 50) #[] #[.pointer (some ⟨dS,0,none⟩),.pointer (some ⟨dO,0,none⟩)]) (fun k=>k=7∨k=8) (ZHU l dS dO m) (pStep l) (fun out n=>out.length+n≤2 ^ 20) where
 le h hm:=by omega
 s5:=by decide
 s6:=by decide
 stp h s:=h.stp s (by decide) (by decide) (by decide) (by decide) (by decide)
 run:=by
  intro w lab out h n hI hcan hh
  refine ⟨50,#[],_,rfl,by kernel_rfl,?_⟩
  refine ZH fun R hR=>Z26.vc _ _ _ _ _ ?_
  unfold Z26.Vc
  rintro d3 w1 ⟨rfl,rfl⟩
  have s1:Stp NoS w lab (w.alloc (.cells (hashA h) 27)) (ext lab w.heap.size 9):=Stp.alloc NoS w lab _ 9
  have X1:=Blk.new w 27 (hashA h)
  have I1:=hI.stp s1 (fun h=>h) (fun h=>h) (fun h=>h) (fun h=>h) (fun h=>h)
  generalize w.heap.size=D3 at *
  generalize w.alloc (.cells (hashA h) 27)=w1 at *
  generalize ext lab D3 9=lab1 at *
  obtain ⟨b1,hM,_⟩:=id I1
  refine ⟨_,_,b1.blk.rd1 rfl,by rw [Z6]; exact b1.blk.rd1 rfl,_,X1.rowAll (ZB _),?_⟩
  refine (Z3j hM hh).mono ?_
  rintro e w2 ⟨M2,hnone,hsome⟩
  have s2:Stp NoS w1 lab1 w2 (ext lab1 w1.heap.size 9):=Stp.of_nob M2 9
  have I2:=I1.stp s2 (fun h=>h) (fun h=>h) (fun h=>h) (fun h=>h) (fun h=>h)
  cases hf:Z1G l h with
  | none =>
    have he:=hnone hf
    subst he
    refine .inl ⟨_,rfl,hR _ _ ⟨_,(s1.trans s2).mono (fun _ h=>h.elim),?_,?_,fun er her=>?_,fun b hb=>?_⟩⟩
    ·unfold pStep; rw [hf]; exact I2
    ·unfold pStep; rw [hf]; show out.length+n≤_; omega
    ·unfold pStep at her; rw [hf] at her
     simp only [Except.error.injEq] at her
     subst her
     exact ⟨rfl,by decide⟩
    ·unfold pStep at hb; rw [hf] at hb; cases hb
  | some b =>
    obtain ⟨ob,kb,rfl,hby,hkb⟩:=hsome b hf
    have hby2:=hby.stp s2 (fun h=>h)
    have s02:=s1.trans s2
    generalize ext lab1 w1.heap.size 9=lab2 at *
    refine .inr ⟨_,_,_,rfl,?_⟩
    rintro _ rfl
    have s3:Stp NoS w2 lab2 w2.drew lab2:=Stp.drew _ _ _
    have I3:=I2.stp s3 (fun h=>h) (fun h=>h) (fun h=>h) (fun h=>h) (fun h=>h)
    have hby3:=hby2.stp s3 (fun h=>h)
    have s03:=s02.trans s3
    generalize w2.drew=w3 at *
    obtain ⟨_,_,o,nn,k,bO,hO⟩:=id I3
    have hbl:b.length≤2 ^ 30:=by
     have:∀(l:List (By×By)),(∀x∈l,x.2.length≤2 ^ 30)→Z1G l h=some b→b.length≤2 ^ 30:=by
      intro l
      induction l with
      | nil=>intro _ h; cases h
      | cons x r ih =>
        intro hb hf
        simp only [Z1G] at hf
        split at hf
        ·cases hf; exact hb x (by simp)
        ·exact ih (fun y hy=>hb y (by simp [hy])) hf
     exact this l hb hf
    refine ⟨_,_,_,bO.blk.rd1 rfl,?_⟩
    refine (Z2C hby3.rd (by omega)).mono ?_
    rintro _ w4 ⟨o4,k4,rfl,F4⟩
    have s4:Stp NoS w3 lab2 w4 (ext lab2 w3.heap.size 9):=Stp.of_nob F4.mod 9
    have I4:=I3.stp s4 (fun h=>h) (fun h=>h) (fun h=>h) (fun h=>h) (fun h=>h)
    have hby4:=hby3.stp s4 (fun h=>h)
    have hcl4:CBy w4 (ext lab2 w3.heap.size 9) 9 o4 b:=Z2x F4 (Mod.refl _)
    have bO4:=bO.stp s4 (fun h=>h)
    have s04:=s03.trans s4
    generalize ext lab2 w3.heap.size 9=lab4 at *
    refine .inr ⟨_,_,_,rfl,bO4.blk.rd1 rfl,?_⟩
    rintro d22 w5 ⟨rfl,rfl⟩
    have s5:Stp NoS w4 lab4 (w4.alloc (.cells #[.slice o4 b.length k4] 23)) (ext lab4 w4.heap.size 9):=Stp.alloc NoS w4 lab4 _ 9
    have N5:=Blk.new w4 23 #[.slice o4 b.length k4]
    have I5:=I4.stp s5 (fun h=>h) (fun h=>h) (fun h=>h) (fun h=>h) (fun h=>h)
    have hby5:=hby4.stp s5 (fun h=>h)
    have hcl5:=hcl4.stp s5 (fun h=>h)
    have bO5:=bO4.stp s5 (fun h=>h)
    have hO5:=(hO.stp s4 (fun h=>h) (fun h=>h)).stp s5 (fun h=>h) (fun h=>h)
    have s05:=s04.trans s5
    generalize w4.heap.size=D5 at *
    generalize w4.alloc (.cells #[.slice o4 b.length k4] 23)=w5 at *
    generalize ext lab4 D5 9=lab5 at *
    refine ⟨bO5.blk.rd1 rfl,?_⟩
    obtain ⟨o6,k6,w6,hr6,hO6,s6⟩:=hO5.push (by decide) N5 hcl5 F4.own.cap.1 (by omega)
    have hby6:=hby5.stp s6 (by decide)
    have bO6:=bO5.stp s6 (by decide)
    obtain ⟨bS5,hM5,_⟩:=I5
    have bS6:=bS5.stp s6 (by decide)
    have hM6:=hM5.stp s6 (by decide) (by decide)
    generalize ext lab5 w5.heap.size 8=lab6 at *
    refine ⟨_,w6,hr6,_,_,_,rfl,bO6.blk.canSet (by simp) rfl,?_⟩
    rintro _ rfl
    have s7:Stp (·=7) w6 lab6 (w6.setCell ⟨dO,0,none⟩ (.slice o6 (nn+1) k6)) lab6:=Stp.setCell bO6.clr
    have hby7:=hby6.stp s7 (by decide)
    refine hR _ _ ⟨lab6,((s05.mono (fun _ h=>h.elim)).trans (s6.mono (fun _ h=>.inr h))).trans (s7.mono (fun _ h=>.inl h)),?_,?_,fun er her=>?_,fun b' hb'=>?_⟩
    ·unfold pStep; rw [hf]
     exact ⟨bS6.stp s7 (by decide),hM6.stp s7 (by decide) (by decide),o6,nn+1,k6,bO6.set 0 _,hO6.stp s7 (by decide) (by decide)⟩
    ·unfold pStep; rw [hf]; show (out++[b]).length+n≤_; rw [List.length_append,List.length_singleton]; omega
    ·unfold pStep at her; rw [hf] at her; cases her
    ·unfold pStep at hb'; rw [hf] at hb'
     cases hb'
     exact ⟨ob,kb,rfl,hby7.rd,hkb⟩
end
end Go.Proofs.YtfghidehlnfdiaaGreat
end
