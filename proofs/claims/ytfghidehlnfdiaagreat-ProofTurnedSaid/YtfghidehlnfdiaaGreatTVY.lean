/- The verification conditions of some functions, printed by a program of ours (wip/PrintVc.lean). -/
import Derived.Test.YtfghidehlnfdiaaGreatXDef
import Derived.Test.YtfghidehlnfdiaaGreatProg
import Derived.KernelRfl
set_option linter.unusedVariables false
section
namespace Go.Proofs.YtfghidehlnfdiaaGreat
open Go Go.Vcg
abbrev proof_stored.n:Nat:=29
def proof_stored.Vc (o0:Option Addr) (l0 c0:Nat) (b1:Bool) (w:World) (R:Ending→World→Prop):Prop :=
 ∀d2 w3,IsNew w 69 #[(.map none),(.bool false)] d2 w3 →
 (((((l0:Nat):Int) > 4096 →
 CanSet w3 d2 (.map none)∧∀w4,IsSet w3 d2 (.map none) w4 →
 CanSet w4 (Addr.add d2 1) (.bool false)∧∀w5,IsSet w4 (Addr.add d2 1) (.bool false) w5 →
 ∃m6:Option Nat,∃b7,World.cell? w5 d2=some (.map m6) ∧
 World.cell? w5 (Addr.add d2 1)=some (.bool b7) ∧
 R (.returned (.tuple #[(.agg #[(.map m6),(.bool b7)]),(.int .i64 162)])) w5)) ∧
 ((¬((l0:Nat):Int) > 4096 →
 ∃v8 w9,Sem.run Tryz.prog (Instr.makeMap 67 none) w3=.ok v8 w9 ∧
 ∃m10:Option Nat,v8=(.map m10) ∧
 ∀d11 w12,IsNew w9 69 #[(.map none),(.bool false)] d11 w12 →
 CanSet w12 d11 (.map m10)∧∀w13,IsSet w12 d11 (.map m10) w13 →
 CanSet w13 (Addr.add d11 1) (.bool b1)∧∀w14,IsSet w13 (Addr.add d11 1) (.bool b1) w14 →
 ∃(I15:Int→World→Prop) (μ15:Int→World→Nat),I15 0 w14 ∧
 (∀(n16:Int) (j17:Nat→Value) (w17:World),I15 n16 w17 →
 (((n16 < ((l0:Nat):Int) →
 ∃d18,o0=some d18 ∧
 ((0:Int)≤n16∧n16 < ((l0:Nat):Int)) ∧
 ∃L19,RowAt w17 (Addr.add d18 ((Int.toNat n16) * 33)) 33 L19 ∧
 ∀d20 w21,IsNew w17 48 #[(.int .u8 0),(.int .u8 0),(.int .u8 0),(.int .u8 0),(.int .u8 0),(.int .u8 0),(.int .u8 0),(.int .u8 0),(.int .u8 0),(.int .u8 0),(.int .u8 0),(.int .u8 0),(.int .u8 0),(.int .u8 0),(.int .u8 0),(.int .u8 0),(.int .u8 0),(.int .u8 0),(.int .u8 0),(.int .u8 0),(.int .u8 0),(.int .u8 0),(.int .u8 0),(.int .u8 0),(.int .u8 0),(.int .u8 0),(.int .u8 0),(.int .u8 0),(.int .u8 0),(.int .u8 0),(.int .u8 0),(.int .u8 0),(.slice none 0 0)] d20 w21 →
 ∃w22,Sem.run Tryz.prog (Instr.storeAt 48 (.pointer (some d20)) (.agg L19)) w21=.ok () w22 ∧
 ∃m23:Option Nat,World.cell? w22 d11=some (.map m23) ∧
 ∃L24,RowAt w22 d20 32 L24 ∧
 ∃v25,Sem.run Tryz.prog (Instr.lookup 67 (.map m23) (.agg L24) true) w22=.ok v25 w22 ∧
 ∃o26 l27 l28 b29,v25=(.tuple #[(.slice o26 l27 l28),(.bool b29)]) ∧
 (((b29=false →
 ∃m30:Option Nat,World.cell? w22 d11=some (.map m30) ∧
 ∃L31,RowAt w22 d20 32 L31 ∧
 ∃o32 l33 l34,World.cell? w22 (Addr.add d20 32)=some (.slice o32 l33 l34) ∧
 ∃w35,Sem.run Tryz.prog (Instr.mapUpdate 67 (.map m30) (.agg L31) (.slice o32 l33 l34)) w22=.ok () w35 ∧
 I15 (IntKind.wrap .i64 (n16+1)) w35∧μ15 (IntKind.wrap .i64 (n16+1)) w35 < μ15 n16 w17)) ∧
 ((b29=true →
 I15 (IntKind.wrap .i64 (n16+1)) w22∧μ15 (IntKind.wrap .i64 (n16+1)) w22 < μ15 n16 w17))))) ∧
 ((¬n16 < ((l0:Nat):Int) →
 ∃m36:Option Nat,∃b37,World.cell? w17 d11=some (.map m36) ∧
 World.cell? w17 (Addr.add d11 1)=some (.bool b37) ∧
 CanSet w17 d2 (.map m36)∧∀w38,IsSet w17 d2 (.map m36) w38 →
 CanSet w38 (Addr.add d2 1) (.bool b37)∧∀w39,IsSet w38 (Addr.add d2 1) (.bool b37) w39 →
 ∃m40:Option Nat,∃b41,World.cell? w39 d2=some (.map m40) ∧
 World.cell? w39 (Addr.add d2 1)=some (.bool b41) ∧
 R (.returned (.tuple #[(.agg #[(.map m40),(.bool b41)]),(.int .i64 0)])) w39)))))))
theorem proof_stored.vc (o0:Option Addr) (l0:Nat) (c0:Nat) (b1:Bool) (w:World) (R:Ending→World→Prop) (h:proof_stored.Vc o0 l0 c0 b1 w R):Calls Tryz.prog 29 #[(.slice o0 l0 c0),(.bool b1)] w R :=
 execF_sound (R:=⟨R,false⟩) (ann:=[(5,[(20,.cell (.int .i64))])]) (args:=[.slice o0 l0 c0,.bool (.var b1)]) Tryz.func29 mixed (Eq.mp (by kernel_rfl:proof_stored.Vc o0 l0 c0 b1 w R=execF (pA Tryz.prog ⟨R,false⟩) Tryz.prog [(5,[(20,.cell (.int .i64))])] Tryz.f29 [.slice o0 l0 c0,.bool (.var b1)] w) h)

abbrev proof_store_bytesOf.n:Nat:=37
def proof_store_bytesOf.Vc (m0:Option Nat) (b1:Bool) (L2:Array Value) (w:World) (R:Ending→World→Prop):Prop :=
 ∀d3 w4,IsNew w 69 #[(.map m0),(.bool b1)] d3 w4 →
 ∀d5 w6,IsNew w4 27 L2 d5 w6 →
 ∃m7:Option Nat,World.cell? w6 d3=some (.map m7) ∧
 ∃L8,RowAt w6 d5 32 L8 ∧
 ∃v9,Sem.run Tryz.prog (Instr.lookup 67 (.map m7) (.agg L8) true) w6=.ok v9 w6 ∧
 ∃o10 l11 l12 b13,v9=(.tuple #[(.slice o10 l11 l12),(.bool b13)]) ∧
 (((b13=false →
 Calls Tryz.prog 45 #[(.int .i64 160)] w6 (fun e14 w15 =>
 ((∃ch,e14=.panicked ch∧R (.panicked ch) w15) ∨
 e14=.returned (.tuple #[]) ∧
 R (.returned (.slice o10 l11 l12)) w15)))) ∧
 ((b13=true →
 ∀w16,IsDrew w6 w16 →
 ∃b17,World.cell? w16 (Addr.add d3 1)=some (.bool b17) ∧
 (((b17=true →
 ∃L18,RowAt w16 d5 32 L18 ∧
 ∀d19 w20,IsNew w16 23 #[(.slice o10 l11 l12)] d19 w20 →
 RowAt w20 d5 32 L18 ∧
 Calls Tryz.prog 53 #[(.slice (some d19) 1 1)] w20 (fun e21 w22 =>
 ((∃ch,e21=.panicked ch∧R (.panicked ch) w22) ∨
 ∃L23,e21=.returned (.agg L23) ∧
 RowAt w22 d5 32 L18 ∧
 ∃v24,Sem.run Tryz.prog (semBin .neq 27 (.tmp 24) (.tmp 25) (.agg L23) (.agg L18)) w22=.ok v24 w22 ∧
 ∃b25,v24=(.bool b25) ∧
 (((b25=true →
 Calls Tryz.prog 45 #[(.int .i64 161)] w22 (fun e26 w27 =>
 ((∃ch,e26=.panicked ch∧R (.panicked ch) w27) ∨
 e26=.returned (.tuple #[]) ∧
 R (.returned (.slice o10 l11 l12)) w27)))) ∧
 ((b25=false →
 R (.returned (.slice o10 l11 l12)) w22))))))) ∧
 ((b17=false →
 R (.returned (.slice o10 l11 l12)) w16))))))
theorem proof_store_bytesOf.vc (m0:Option Nat) (b1:Bool) (L2:Array Value) (w:World) (R:Ending→World→Prop) (h:proof_store_bytesOf.Vc m0 b1 L2 w R):Calls Tryz.prog 37 #[(.agg #[(.map m0),(.bool b1)]),(.agg L2)] w R :=
 execF_sound (R:=⟨R,true⟩) (ann:=[]) (args:=[.agg [.map m0,.bool (.var b1)],.big 32 L2]) Tryz.func37 mixed (Eq.mp (by kernel_rfl:proof_store_bytesOf.Vc m0 b1 L2 w R=execF (pA Tryz.prog ⟨R,true⟩) Tryz.prog [] Tryz.f37 [.agg [.map m0,.bool (.var b1)],.big 32 L2] w) h)

abbrev proof_rootOf.n:Nat:=39
def proof_rootOf.Vc (L0:Array Value) (w:World) (R:Ending→World→Prop):Prop :=
 ∀d1 w2,IsNew w 27 L0 d1 w2 →
 ∀d3 w4,IsNew w2 82 #[(.int .u8 0),(.int .u8 0),(.int .u8 0),(.int .u8 0),(.int .u8 0),(.int .u8 0),(.int .u8 0),(.int .u8 0),(.int .u8 0),(.int .u8 0),(.int .u8 0),(.int .u8 0),(.int .u8 0),(.int .u8 0),(.int .u8 0),(.int .u8 0),(.int .u8 0),(.int .u8 0),(.int .u8 0),(.int .u8 0),(.int .u8 0),(.int .u8 0),(.int .u8 0),(.int .u8 0),(.int .u8 0),(.int .u8 0),(.int .u8 0),(.int .u8 0),(.int .u8 0),(.int .u8 0),(.int .u8 0),(.int .u8 0),(.pointer none),(.bool false)] d3 w4 →
 ∀w5,IsDrew w4 w5 →
 ∃L6,RowAt w5 d1 32 L6 ∧
 ∃L7,RowAt w5 d1 32 L7 ∧
 Calls Tryz.prog 68 #[] w5 (fun e8 w9 =>
 ∃L10,e8=.returned (.agg L10) ∧
 RowAt w9 d1 32 L7 ∧
 RowAt w9 d1 32 L6 ∧
 ∃v11,Sem.run Tryz.prog (semBin .neq 27 (.tmp 4) (.tmp 5) (.agg L7) (.agg L10)) w9=.ok v11 w9 ∧
 ∃b12,v11=(.bool b12) ∧
 Array.size L6=32 ∧
 ∃w13,Sem.run Tryz.prog (Instr.storeAt 82 (.pointer (some d3)) (.agg (setsAt (lputL #[(.int .u8 0),(.int .u8 0),(.int .u8 0),(.int .u8 0),(.int .u8 0),(.int .u8 0),(.int .u8 0),(.int .u8 0),(.int .u8 0),(.int .u8 0),(.int .u8 0),(.int .u8 0),(.int .u8 0),(.int .u8 0),(.int .u8 0),(.int .u8 0),(.int .u8 0),(.int .u8 0),(.int .u8 0),(.int .u8 0),(.int .u8 0),(.int .u8 0),(.int .u8 0),(.int .u8 0),(.int .u8 0),(.int .u8 0),(.int .u8 0),(.int .u8 0),(.int .u8 0),(.int .u8 0),(.int .u8 0),(.int .u8 0),(.pointer none),(.bool false)] 0 32 L6) 33 [(.bool b12)]))) w9=.ok () w13 ∧
 ∃L14,RowAt w13 d3 34 L14 ∧
 R (.returned (.agg L14)) w13)
theorem proof_rootOf.vc (L0:Array Value) (w:World) (R:Ending→World→Prop) (h:proof_rootOf.Vc L0 w R):Calls Tryz.prog 39 #[(.agg L0)] w R :=
 execF_sound (R:=⟨R,false⟩) (ann:=[]) (args:=[.big 32 L0]) Tryz.func39 mixed (Eq.mp (by kernel_rfl:proof_rootOf.Vc L0 w R=execF (pA Tryz.prog ⟨R,false⟩) Tryz.prog [] Tryz.f39 [.big 32 L0] w) h)

abbrev proof_nodeOf.n:Nat:=65
def proof_nodeOf.Vc (b0:Bool) (o1:Option Addr) (l1 c1:Nat) (o2:Option Addr) (l2 c2:Nat) (w:World) (R:Ending→World→Prop):Prop :=
 ∀d3 w4,IsNew w 111 #[(.bool b0),(.slice o1 l1 c1),(.slice o2 l2 c2)] d3 w4 →
 ∀d5 w6,IsNew w4 86 #[(.bool false),(.slice none 0 0),(.slice none 0 0),(.slice none 0 0)] d5 w6 →
 ∃o7 l8 l9,World.cell? w6 (Addr.add d3 2)=some (.slice o7 l8 l9) ∧
 (((((l8:Nat):Int)=2 →
 ∃o10 l11 l12,World.cell? w6 (Addr.add d3 2)=some (.slice o10 l11 l12) ∧
 ∃d13,o10=some d13 ∧
 ((0:Int)≤0∧0 < ((l11:Nat):Int)) ∧
 ∃o14 l15 l16,World.cell? w6 (Addr.add (Addr.add d13 0) 1)=some (.slice o14 l15 l16) ∧
 Calls Tryz.prog 99 #[(.slice o14 l15 l16)] w6 (fun e17 w18 =>
 ∃o19 l20 l21 b22 n23,e17=.returned (.tuple #[(.slice o19 l20 l21),(.bool b22),(.int .i64 n23)]) ∧
 (((b22=true →
 ∃o24 l25 l26,World.cell? w18 (Addr.add d3 2)=some (.slice o24 l25 l26) ∧
 ∃d27,o24=some d27 ∧
 ((0:Int)≤1∧1 < ((l25:Nat):Int)) ∧
 ∃o28 l29 l30,World.cell? w18 (Addr.add (Addr.add d27 3) 1)=some (.slice o28 l29 l30) ∧
 CanSet w18 d5 (.bool true)∧∀w31,IsSet w18 d5 (.bool true) w31 →
 CanSet w31 (Addr.add d5 1) (.slice o19 l20 l21)∧∀w32,IsSet w31 (Addr.add d5 1) (.slice o19 l20 l21) w32 →
 CanSet w32 (Addr.add d5 2) (.slice none 0 0)∧∀w33,IsSet w32 (Addr.add d5 2) (.slice none 0 0) w33 →
 CanSet w33 (Addr.add d5 3) (.slice o28 l29 l30)∧∀w34,IsSet w33 (Addr.add d5 3) (.slice o28 l29 l30) w34 →
 ∃b35 o36 l37 l38 o39 l40 l41 o42 l43 l44,World.cell? w34 d5=some (.bool b35) ∧
 World.cell? w34 (Addr.add d5 1)=some (.slice o36 l37 l38) ∧
 World.cell? w34 (Addr.add d5 2)=some (.slice o39 l40 l41) ∧
 World.cell? w34 (Addr.add d5 3)=some (.slice o42 l43 l44) ∧
 R (.returned (.agg #[(.bool b35),(.slice o36 l37 l38),(.slice o39 l40 l41),(.slice o42 l43 l44)])) w34)) ∧
 ((b22=false →
 ∃o45 l46 l47,World.cell? w18 (Addr.add d3 2)=some (.slice o45 l46 l47) ∧
 ∃d48,o45=some d48 ∧
 ((0:Int)≤1∧1 < ((l46:Nat):Int)) ∧
 ∃b49 o50 l51 l52 o53 l54 l55,World.cell? w18 (Addr.add d48 3)=some (.bool b49) ∧
 World.cell? w18 (Addr.add (Addr.add d48 3) 1)=some (.slice o50 l51 l52) ∧
 World.cell? w18 (Addr.add (Addr.add d48 3) 2)=some (.slice o53 l54 l55) ∧
 Calls Tryz.prog 100 #[(.agg #[(.bool b49),(.slice o50 l51 l52),(.slice o53 l54 l55)])] w18 (fun e56 w57 =>
 ∃L58,e56=.returned (.agg L58) ∧
 Array.size L58=34 ∧
 ∀d59 w60,IsNew w57 82 (lputL #[(.int .u8 0),(.int .u8 0),(.int .u8 0),(.int .u8 0),(.int .u8 0),(.int .u8 0),(.int .u8 0),(.int .u8 0),(.int .u8 0),(.int .u8 0),(.int .u8 0),(.int .u8 0),(.int .u8 0),(.int .u8 0),(.int .u8 0),(.int .u8 0),(.int .u8 0),(.int .u8 0),(.int .u8 0),(.int .u8 0),(.int .u8 0),(.int .u8 0),(.int .u8 0),(.int .u8 0),(.int .u8 0),(.int .u8 0),(.int .u8 0),(.int .u8 0),(.int .u8 0),(.int .u8 0),(.int .u8 0),(.int .u8 0),(.pointer none),(.bool false)] 0 34 L58) d59 w60 →
 CanSet w60 d5 (.bool false)∧∀w61,IsSet w60 d5 (.bool false) w61 →
 CanSet w61 (Addr.add d5 1) (.slice o19 l20 l21)∧∀w62,IsSet w61 (Addr.add d5 1) (.slice o19 l20 l21) w62 →
 CanSet w62 (Addr.add d5 2) (.slice (some d59) 1 1)∧∀w63,IsSet w62 (Addr.add d5 2) (.slice (some d59) 1 1) w63 →
 CanSet w63 (Addr.add d5 3) (.slice none 0 0)∧∀w64,IsSet w63 (Addr.add d5 3) (.slice none 0 0) w64 →
 ∃b65 o66 l67 l68 o69 l70 l71 o72 l73 l74,World.cell? w64 d5=some (.bool b65) ∧
 World.cell? w64 (Addr.add d5 1)=some (.slice o66 l67 l68) ∧
 World.cell? w64 (Addr.add d5 2)=some (.slice o69 l70 l71) ∧
 World.cell? w64 (Addr.add d5 3)=some (.slice o72 l73 l74) ∧
 R (.returned (.agg #[(.bool b65),(.slice o66 l67 l68),(.slice o69 l70 l71),(.slice o72 l73 l74)])) w64))))))) ∧
 ((((l8:Nat):Int)≠2 →
 ∃o75 l76 l77,World.cell? w6 (Addr.add d3 2)=some (.slice o75 l76 l77) ∧
 ∃d78,o75=some d78 ∧
 ((0:Int)≤16∧16 < ((l76:Nat):Int)) ∧
 ∃o79 l80 l81,World.cell? w6 (Addr.add (Addr.add d78 48) 1)=some (.slice o79 l80 l81) ∧
 ∀d82 w83,IsNew w6 86 #[(.bool false),(.slice none 0 0),(.slice none 0 0),(.slice none 0 0)] d82 w83 →
 CanSet w83 d82 (.bool false)∧∀w84,IsSet w83 d82 (.bool false) w84 →
 CanSet w84 (Addr.add d82 1) (.slice none 0 0)∧∀w85,IsSet w84 (Addr.add d82 1) (.slice none 0 0) w85 →
 CanSet w85 (Addr.add d82 2) (.slice none 0 0)∧∀w86,IsSet w85 (Addr.add d82 2) (.slice none 0 0) w86 →
 CanSet w86 (Addr.add d82 3) (.slice o79 l80 l81)∧∀w87,IsSet w86 (Addr.add d82 3) (.slice o79 l80 l81) w87 →
 ∃o88 l89 l90,World.cell? w87 (Addr.add d3 2)=some (.slice o88 l89 l90) ∧
 16≤l90 ∧
 ∃(I91:Int→World→Prop) (μ91:Int→World→Nat),I91 0 w87 ∧
 (∀(n92:Int) (j93:Nat→Value) (w93:World),I91 n92 w93 →
 (((n92 < ((16:Nat):Int) →
 ∃d94,o88=some d94 ∧
 ((0:Int)≤n92∧n92 < ((16:Nat):Int)) ∧
 ∃b95 o96 l97 l98 o99 l100 l101,World.cell? w93 (Addr.add d94 ((Int.toNat n92) * 3))=some (.bool b95) ∧
 World.cell? w93 (Addr.add (Addr.add d94 ((Int.toNat n92) * 3)) 1)=some (.slice o96 l97 l98) ∧
 World.cell? w93 (Addr.add (Addr.add d94 ((Int.toNat n92) * 3)) 2)=some (.slice o99 l100 l101) ∧
 ∀d102 w103,IsNew w93 111 #[(.bool false),(.slice none 0 0),(.slice none 0 0)] d102 w103 →
 CanSet w103 d102 (.bool b95)∧∀w104,IsSet w103 d102 (.bool b95) w104 →
 CanSet w104 (Addr.add d102 1) (.slice o96 l97 l98)∧∀w105,IsSet w104 (Addr.add d102 1) (.slice o96 l97 l98) w105 →
 CanSet w105 (Addr.add d102 2) (.slice o99 l100 l101)∧∀w106,IsSet w105 (Addr.add d102 2) (.slice o99 l100 l101) w106 →
 ∀w107,IsDrew w106 w107 →
 ∃o108 l109 l110,World.cell? w107 (Addr.add d82 2)=some (.slice o108 l109 l110) ∧
 ∃b111 o112 l113 l114 o115 l116 l117,World.cell? w107 d102=some (.bool b111) ∧
 World.cell? w107 (Addr.add d102 1)=some (.slice o112 l113 l114) ∧
 World.cell? w107 (Addr.add d102 2)=some (.slice o115 l116 l117) ∧
 Calls Tryz.prog 100 #[(.agg #[(.bool b111),(.slice o112 l113 l114),(.slice o115 l116 l117)])] w107 (fun e118 w119 =>
 ∃L120,e118=.returned (.agg L120) ∧
 World.cell? w119 (Addr.add d82 2)=some (.slice o108 l109 l110) ∧
 Array.size L120=34 ∧
 ∀d121 w122,IsNew w119 82 (lputL #[(.int .u8 0),(.int .u8 0),(.int .u8 0),(.int .u8 0),(.int .u8 0),(.int .u8 0),(.int .u8 0),(.int .u8 0),(.int .u8 0),(.int .u8 0),(.int .u8 0),(.int .u8 0),(.int .u8 0),(.int .u8 0),(.int .u8 0),(.int .u8 0),(.int .u8 0),(.int .u8 0),(.int .u8 0),(.int .u8 0),(.int .u8 0),(.int .u8 0),(.int .u8 0),(.int .u8 0),(.int .u8 0),(.int .u8 0),(.int .u8 0),(.int .u8 0),(.int .u8 0),(.int .u8 0),(.int .u8 0),(.int .u8 0),(.pointer none),(.bool false)] 0 34 L120) d121 w122 →
 World.cell? w122 (Addr.add d82 2)=some (.slice o108 l109 l110) ∧
 ∃v123 w124,Sem.run Tryz.prog (builtinV .append #[84,84] 84 #[(.slice o108 l109 l110),(.slice (some d121) 1 1)]) w122=.ok v123 w124 ∧
 ∃o125 l126 l127,v123=(.slice o125 l126 l127) ∧
 CanSet w124 (Addr.add d82 2) (.slice o125 l126 l127)∧∀w128,IsSet w124 (Addr.add d82 2) (.slice o125 l126 l127) w128 →
 I91 (IntKind.wrap .i64 (n92+1)) w128∧μ91 (IntKind.wrap .i64 (n92+1)) w128 < μ91 n92 w93))) ∧
 ((¬n92 < ((16:Nat):Int) →
 ∃b129 o130 l131 l132 o133 l134 l135 o136 l137 l138,World.cell? w93 d82=some (.bool b129) ∧
 World.cell? w93 (Addr.add d82 1)=some (.slice o130 l131 l132) ∧
 World.cell? w93 (Addr.add d82 2)=some (.slice o133 l134 l135) ∧
 World.cell? w93 (Addr.add d82 3)=some (.slice o136 l137 l138) ∧
 CanSet w93 d5 (.bool b129)∧∀w139,IsSet w93 d5 (.bool b129) w139 →
 CanSet w139 (Addr.add d5 1) (.slice o130 l131 l132)∧∀w140,IsSet w139 (Addr.add d5 1) (.slice o130 l131 l132) w140 →
 CanSet w140 (Addr.add d5 2) (.slice o133 l134 l135)∧∀w141,IsSet w140 (Addr.add d5 2) (.slice o133 l134 l135) w141 →
 CanSet w141 (Addr.add d5 3) (.slice o136 l137 l138)∧∀w142,IsSet w141 (Addr.add d5 3) (.slice o136 l137 l138) w142 →
 ∃b143 o144 l145 l146 o147 l148 l149 o150 l151 l152,World.cell? w142 d5=some (.bool b143) ∧
 World.cell? w142 (Addr.add d5 1)=some (.slice o144 l145 l146) ∧
 World.cell? w142 (Addr.add d5 2)=some (.slice o147 l148 l149) ∧
 World.cell? w142 (Addr.add d5 3)=some (.slice o150 l151 l152) ∧
 R (.returned (.agg #[(.bool b143),(.slice o144 l145 l146),(.slice o147 l148 l149),(.slice o150 l151 l152)])) w142)))))))
theorem proof_nodeOf.vc (b0:Bool) (o1:Option Addr) (l1:Nat) (c1:Nat) (o2:Option Addr) (l2:Nat) (c2:Nat) (w:World) (R:Ending→World→Prop) (h:proof_nodeOf.Vc b0 o1 l1 c1 o2 l2 c2 w R):Calls Tryz.prog 65 #[(.agg #[(.bool b0),(.slice o1 l1 c1),(.slice o2 l2 c2)])] w R :=
 execF_sound (R:=⟨R,false⟩) (ann:=[(8,[(49,.cell (.int .i64))])]) (args:=[.agg [.bool (.var b0),.slice o1 l1 c1,.slice o2 l2 c2]]) Tryz.func65 mixed (Eq.mp (by kernel_rfl:proof_nodeOf.Vc b0 o1 l1 c1 o2 l2 c2 w R=execF (pA Tryz.prog ⟨R,false⟩) Tryz.prog [(8,[(49,.cell (.int .i64))])] Tryz.f65 [.agg [.bool (.var b0),.slice o1 l1 c1,.slice o2 l2 c2]] w) h)

abbrev proof_parsed.n:Nat:=66
def proof_parsed.Vc (o0:Option Addr) (l0 c0:Nat) (w:World) (R:Ending→World→Prop):Prop :=
 ∀d1 w2,IsNew w 86 #[(.bool false),(.slice none 0 0),(.slice none 0 0),(.slice none 0 0)] d1 w2 →
 Calls Tryz.prog 101 #[(.slice o0 l0 c0)] w2 (fun e3 w4 =>
 ∃n5,e3=.returned (.int .i64 n5) ∧
 (((n5≠0 →
 CanSet w4 d1 (.bool false)∧∀w6,IsSet w4 d1 (.bool false) w6 →
 CanSet w6 (Addr.add d1 1) (.slice none 0 0)∧∀w7,IsSet w6 (Addr.add d1 1) (.slice none 0 0) w7 →
 CanSet w7 (Addr.add d1 2) (.slice none 0 0)∧∀w8,IsSet w7 (Addr.add d1 2) (.slice none 0 0) w8 →
 CanSet w8 (Addr.add d1 3) (.slice none 0 0)∧∀w9,IsSet w8 (Addr.add d1 3) (.slice none 0 0) w9 →
 ∃b10 o11 l12 l13 o14 l15 l16 o17 l18 l19,World.cell? w9 d1=some (.bool b10) ∧
 World.cell? w9 (Addr.add d1 1)=some (.slice o11 l12 l13) ∧
 World.cell? w9 (Addr.add d1 2)=some (.slice o14 l15 l16) ∧
 World.cell? w9 (Addr.add d1 3)=some (.slice o17 l18 l19) ∧
 R (.returned (.tuple #[(.agg #[(.bool b10),(.slice o11 l12 l13),(.slice o14 l15 l16),(.slice o17 l18 l19)]),(.int .i64 161)])) w9)) ∧
 ((n5=0 →
 Calls Tryz.prog 102 #[(.slice o0 l0 c0)] w4 (fun e20 w21 =>
 ∃b22 o23 l24 l25 o26 l27 l28 n29,e20=.returned (.tuple #[(.agg #[(.bool b22),(.slice o23 l24 l25),(.slice o26 l27 l28)]),(.int .i64 n29)]) ∧
 ∀d30 w31,IsNew w21 111 #[(.bool false),(.slice none 0 0),(.slice none 0 0)] d30 w31 →
 CanSet w31 d30 (.bool b22)∧∀w32,IsSet w31 d30 (.bool b22) w32 →
 CanSet w32 (Addr.add d30 1) (.slice o23 l24 l25)∧∀w33,IsSet w32 (Addr.add d30 1) (.slice o23 l24 l25) w33 →
 CanSet w33 (Addr.add d30 2) (.slice o26 l27 l28)∧∀w34,IsSet w33 (Addr.add d30 2) (.slice o26 l27 l28) w34 →
 ∃b35 o36 l37 l38 o39 l40 l41,World.cell? w34 d30=some (.bool b35) ∧
 World.cell? w34 (Addr.add d30 1)=some (.slice o36 l37 l38) ∧
 World.cell? w34 (Addr.add d30 2)=some (.slice o39 l40 l41) ∧
 Calls Tryz.prog 65 #[(.agg #[(.bool b35),(.slice o36 l37 l38),(.slice o39 l40 l41)])] w34 (fun e42 w43 =>
 ∃b44 o45 l46 l47 o48 l49 l50 o51 l52 l53,e42=.returned (.agg #[(.bool b44),(.slice o45 l46 l47),(.slice o48 l49 l50),(.slice o51 l52 l53)]) ∧
 CanSet w43 d1 (.bool b44)∧∀w54,IsSet w43 d1 (.bool b44) w54 →
 CanSet w54 (Addr.add d1 1) (.slice o45 l46 l47)∧∀w55,IsSet w54 (Addr.add d1 1) (.slice o45 l46 l47) w55 →
 CanSet w55 (Addr.add d1 2) (.slice o48 l49 l50)∧∀w56,IsSet w55 (Addr.add d1 2) (.slice o48 l49 l50) w56 →
 CanSet w56 (Addr.add d1 3) (.slice o51 l52 l53)∧∀w57,IsSet w56 (Addr.add d1 3) (.slice o51 l52 l53) w57 →
 ∃b58 o59 l60 l61 o62 l63 l64 o65 l66 l67,World.cell? w57 d1=some (.bool b58) ∧
 World.cell? w57 (Addr.add d1 1)=some (.slice o59 l60 l61) ∧
 World.cell? w57 (Addr.add d1 2)=some (.slice o62 l63 l64) ∧
 World.cell? w57 (Addr.add d1 3)=some (.slice o65 l66 l67) ∧
 R (.returned (.tuple #[(.agg #[(.bool b58),(.slice o59 l60 l61),(.slice o62 l63 l64),(.slice o65 l66 l67)]),(.int .i64 0)])) w57))))))
theorem proof_parsed.vc (o0:Option Addr) (l0:Nat) (c0:Nat) (w:World) (R:Ending→World→Prop) (h:proof_parsed.Vc o0 l0 c0 w R):Calls Tryz.prog 66 #[(.slice o0 l0 c0)] w R :=
 execF_sound (R:=⟨R,false⟩) (ann:=[]) (args:=[.slice o0 l0 c0]) Tryz.func66 mixed (Eq.mp (by kernel_rfl:proof_parsed.Vc o0 l0 c0 w R=execF (pA Tryz.prog ⟨R,false⟩) Tryz.prog [] Tryz.f66 [.slice o0 l0 c0] w) h)

abbrev proof_valueIf.n:Nat:=83
def proof_valueIf.Vc (o0:Option Addr) (l0 c0:Nat) (b1:Bool) (w:World) (R:Ending→World→Prop):Prop :=
 (((b1=false →
 R (.returned (.tuple #[(.slice none 0 0),(.bool false)])) w)) ∧
 ((b1=true →
 Calls Tryz.prog 36 #[(.slice o0 l0 c0)] w (fun e2 w3 =>
 ∃o4 l5 l6,e2=.returned (.slice o4 l5 l6) ∧
 R (.returned (.tuple #[(.slice o4 l5 l6),(.bool true)])) w3))))
theorem proof_valueIf.vc (o0:Option Addr) (l0:Nat) (c0:Nat) (b1:Bool) (w:World) (R:Ending→World→Prop) (h:proof_valueIf.Vc o0 l0 c0 b1 w R):Calls Tryz.prog 83 #[(.slice o0 l0 c0),(.bool b1)] w R :=
 execF_sound (R:=⟨R,false⟩) (ann:=[]) (args:=[.slice o0 l0 c0,.bool (.var b1)]) Tryz.func83 mixed (Eq.mp (by kernel_rfl:proof_valueIf.Vc o0 l0 c0 b1 w R=execF (pA Tryz.prog ⟨R,false⟩) Tryz.prog [] Tryz.f83 [.slice o0 l0 c0,.bool (.var b1)] w) h)

abbrev proof_node_isBranch.n:Nat:=67
def proof_node_isBranch.Vc (b0:Bool) (o1:Option Addr) (l1 c1:Nat) (o2:Option Addr) (l2 c2:Nat) (o3:Option Addr) (l3 c3:Nat) (w:World) (R:Ending→World→Prop):Prop :=
 ∀d4 w5,IsNew w 86 #[(.bool b0),(.slice o1 l1 c1),(.slice o2 l2 c2),(.slice o3 l3 c3)] d4 w5 →
 ∃o6 l7 l8,World.cell? w5 (Addr.add d4 2)=some (.slice o6 l7 l8) ∧
 R (.returned (.bool (decide (((l7:Nat):Int)=16)))) w5
theorem proof_node_isBranch.vc (b0:Bool) (o1:Option Addr) (l1:Nat) (c1:Nat) (o2:Option Addr) (l2:Nat) (c2:Nat) (o3:Option Addr) (l3:Nat) (c3:Nat) (w:World) (R:Ending→World→Prop) (h:proof_node_isBranch.Vc b0 o1 l1 c1 o2 l2 c2 o3 l3 c3 w R):Calls Tryz.prog 67 #[(.agg #[(.bool b0),(.slice o1 l1 c1),(.slice o2 l2 c2),(.slice o3 l3 c3)])] w R :=
 execF_sound (R:=⟨R,false⟩) (ann:=[]) (args:=[.agg [.bool (.var b0),.slice o1 l1 c1,.slice o2 l2 c2,.slice o3 l3 c3]]) Tryz.func67 mixed (Eq.mp (by kernel_rfl:proof_node_isBranch.Vc b0 o1 l1 c1 o2 l2 c2 o3 l3 c3 w R=execF (pA Tryz.prog ⟨R,false⟩) Tryz.prog [] Tryz.f67 [.agg [.bool (.var b0),.slice o1 l1 c1,.slice o2 l2 c2,.slice o3 l3 c3]] w) h)

abbrev proof_refOf.n:Nat:=100
def proof_refOf.Vc (b0:Bool) (o1:Option Addr) (l1 c1:Nat) (o2:Option Addr) (l2 c2:Nat) (w:World) (R:Ending→World→Prop):Prop :=
 ∀d3 w4,IsNew w 111 #[(.bool b0),(.slice o1 l1 c1),(.slice o2 l2 c2)] d3 w4 →
 ∀d5 w6,IsNew w4 82 #[(.int .u8 0),(.int .u8 0),(.int .u8 0),(.int .u8 0),(.int .u8 0),(.int .u8 0),(.int .u8 0),(.int .u8 0),(.int .u8 0),(.int .u8 0),(.int .u8 0),(.int .u8 0),(.int .u8 0),(.int .u8 0),(.int .u8 0),(.int .u8 0),(.int .u8 0),(.int .u8 0),(.int .u8 0),(.int .u8 0),(.int .u8 0),(.int .u8 0),(.int .u8 0),(.int .u8 0),(.int .u8 0),(.int .u8 0),(.int .u8 0),(.int .u8 0),(.int .u8 0),(.int .u8 0),(.int .u8 0),(.int .u8 0),(.pointer none),(.bool false)] d5 w6 →
 ∃b7,World.cell? w6 d3=some (.bool b7) ∧
 (((b7=true →
 ∃w8,Sem.run Tryz.prog (Instr.storeAt 82 (.pointer (some d5)) (.agg (setsAt (setsAt #[(.int .u8 0),(.int .u8 0),(.int .u8 0),(.int .u8 0),(.int .u8 0),(.int .u8 0),(.int .u8 0),(.int .u8 0),(.int .u8 0),(.int .u8 0),(.int .u8 0),(.int .u8 0),(.int .u8 0),(.int .u8 0),(.int .u8 0),(.int .u8 0),(.int .u8 0),(.int .u8 0),(.int .u8 0),(.int .u8 0),(.int .u8 0),(.int .u8 0),(.int .u8 0),(.int .u8 0),(.int .u8 0),(.int .u8 0),(.int .u8 0),(.int .u8 0),(.int .u8 0),(.int .u8 0),(.int .u8 0),(.int .u8 0),(.pointer none),(.bool false)] 32 [(.pointer (some d3))]) 33 [(.bool true)]))) w6=.ok () w8 ∧
 ∃L9,RowAt w8 d5 34 L9 ∧
 R (.returned (.agg L9)) w8)) ∧
 ((b7=false →
 ∃o10 l11 l12,World.cell? w6 (Addr.add d3 1)=some (.slice o10 l11 l12) ∧
 (((((l11:Nat):Int)=0 →
 ∃w13,Sem.run Tryz.prog (Instr.storeAt 82 (.pointer (some d5)) (.agg #[(.int .u8 0),(.int .u8 0),(.int .u8 0),(.int .u8 0),(.int .u8 0),(.int .u8 0),(.int .u8 0),(.int .u8 0),(.int .u8 0),(.int .u8 0),(.int .u8 0),(.int .u8 0),(.int .u8 0),(.int .u8 0),(.int .u8 0),(.int .u8 0),(.int .u8 0),(.int .u8 0),(.int .u8 0),(.int .u8 0),(.int .u8 0),(.int .u8 0),(.int .u8 0),(.int .u8 0),(.int .u8 0),(.int .u8 0),(.int .u8 0),(.int .u8 0),(.int .u8 0),(.int .u8 0),(.int .u8 0),(.int .u8 0),(.pointer none),(.bool false)])) w6=.ok () w13 ∧
 ∃L14,RowAt w13 d5 34 L14 ∧
 R (.returned (.agg L14)) w13)) ∧
 ((((l11:Nat):Int)≠0 →
 ∃o15 l16 l17,World.cell? w6 (Addr.add d3 1)=some (.slice o15 l16 l17) ∧
 32≤l16 ∧
 ∃d18,o15=some d18 ∧
 ∃L19,RowAt w6 d18 32 L19 ∧
 Array.size L19=32 ∧
 ∃w20,Sem.run Tryz.prog (Instr.storeAt 82 (.pointer (some d5)) (.agg (setsAt (lputL #[(.int .u8 0),(.int .u8 0),(.int .u8 0),(.int .u8 0),(.int .u8 0),(.int .u8 0),(.int .u8 0),(.int .u8 0),(.int .u8 0),(.int .u8 0),(.int .u8 0),(.int .u8 0),(.int .u8 0),(.int .u8 0),(.int .u8 0),(.int .u8 0),(.int .u8 0),(.int .u8 0),(.int .u8 0),(.int .u8 0),(.int .u8 0),(.int .u8 0),(.int .u8 0),(.int .u8 0),(.int .u8 0),(.int .u8 0),(.int .u8 0),(.int .u8 0),(.int .u8 0),(.int .u8 0),(.int .u8 0),(.int .u8 0),(.pointer none),(.bool false)] 0 32 L19) 33 [(.bool true)]))) w6=.ok () w20 ∧
 ∃L21,RowAt w20 d5 34 L21 ∧
 R (.returned (.agg L21)) w20))))))
theorem proof_refOf.vc (b0:Bool) (o1:Option Addr) (l1:Nat) (c1:Nat) (o2:Option Addr) (l2:Nat) (c2:Nat) (w:World) (R:Ending→World→Prop) (h:proof_refOf.Vc b0 o1 l1 c1 o2 l2 c2 w R):Calls Tryz.prog 100 #[(.agg #[(.bool b0),(.slice o1 l1 c1),(.slice o2 l2 c2)])] w R :=
 execF_sound (R:=⟨R,false⟩) (ann:=[]) (args:=[.agg [.bool (.var b0),.slice o1 l1 c1,.slice o2 l2 c2]]) Tryz.func100 mixed (Eq.mp (by kernel_rfl:proof_refOf.Vc b0 o1 l1 c1 o2 l2 c2 w R=execF (pA Tryz.prog ⟨R,false⟩) Tryz.prog [] Tryz.f100 [.agg [.bool (.var b0),.slice o1 l1 c1,.slice o2 l2 c2]] w) h)

abbrev proof_way.n:Nat:=49
def proof_way.Vc (L0:Array Value) (o1:Option Addr) (l1 c1:Nat) (v2:Value) (w:World) (R:Ending→World→Prop):Prop :=
 ∀d3 w4,IsNew w 27 L0 d3 w4 →
 Calls Tryz.prog 43 #[(.slice o1 l1 c1)] w4 (fun e5 w6 =>
 ((∃ch,e5=.panicked ch∧R (.panicked ch) w6) ∨
 ∃o7 l8 l9,e5=.returned (.slice o7 l8 l9) ∧
 ∃L10,RowAt w6 d3 32 L10 ∧
 Calls Tryz.prog 39 #[(.agg L10)] w6 (fun e11 w12 =>
 ((∃ch,e11=.panicked ch∧R (.panicked ch) w12) ∨
 ∃L13,e11=.returned (.agg L13) ∧
 ∀d14 w15,IsNew w12 82 #[(.int .u8 0),(.int .u8 0),(.int .u8 0),(.int .u8 0),(.int .u8 0),(.int .u8 0),(.int .u8 0),(.int .u8 0),(.int .u8 0),(.int .u8 0),(.int .u8 0),(.int .u8 0),(.int .u8 0),(.int .u8 0),(.int .u8 0),(.int .u8 0),(.int .u8 0),(.int .u8 0),(.int .u8 0),(.int .u8 0),(.int .u8 0),(.int .u8 0),(.int .u8 0),(.int .u8 0),(.int .u8 0),(.int .u8 0),(.int .u8 0),(.int .u8 0),(.int .u8 0),(.int .u8 0),(.int .u8 0),(.int .u8 0),(.pointer none),(.bool false)] d14 w15 →
 ∃w16,Sem.run Tryz.prog (Instr.storeAt 82 (.pointer (some d14)) (.agg L13)) w15=.ok () w16 ∧
 ∃(I17:Option Addr→Nat→Nat→Addr→World→Prop) (μ17:Option Addr→Nat→Nat→Addr→World→Nat),I17 o7 l8 l9 d14 w16 ∧
 (∀(o18:Option Addr) (l18:Nat) (c18:Nat) (d19:Addr) (j20:Nat→Value) (w20:World),I17 o18 l18 c18 d19 w20 →
 ∃b21,World.cell? w20 (Addr.add d19 33)=some (.bool b21) ∧
 (((b21=true →
 ∀d22 w23,IsNew w20 86 #[(.bool false),(.slice none 0 0),(.slice none 0 0),(.slice none 0 0)] d22 w23 →
 ∃(J24:World→Prop),(∃o25,World.cell? w23 (Addr.add d19 32)=some (.pointer o25) ∧
 (((o25≠none →
 ∃o26,World.cell? w23 (Addr.add d19 32)=some (.pointer o26) ∧
 ∃d27,o26=some d27 ∧
 ∃b28 o29 l30 l31 o32 l33 l34,World.cell? w23 d27=some (.bool b28) ∧
 World.cell? w23 (Addr.add d27 1)=some (.slice o29 l30 l31) ∧
 World.cell? w23 (Addr.add d27 2)=some (.slice o32 l33 l34) ∧
 Calls Tryz.prog 65 #[(.agg #[(.bool b28),(.slice o29 l30 l31),(.slice o32 l33 l34)])] w23 (fun e35 w36 =>
 ((∃ch,e35=.panicked ch∧R (.panicked ch) w36) ∨
 ∃b37 o38 l39 l40 o41 l42 l43 o44 l45 l46,e35=.returned (.agg #[(.bool b37),(.slice o38 l39 l40),(.slice o41 l42 l43),(.slice o44 l45 l46)]) ∧
 CanSet w36 d22 (.bool b37)∧∀w47,IsSet w36 d22 (.bool b37) w47 →
 CanSet w47 (Addr.add d22 1) (.slice o38 l39 l40)∧∀w48,IsSet w47 (Addr.add d22 1) (.slice o38 l39 l40) w48 →
 CanSet w48 (Addr.add d22 2) (.slice o41 l42 l43)∧∀w49,IsSet w48 (Addr.add d22 2) (.slice o41 l42 l43) w49 →
 CanSet w49 (Addr.add d22 3) (.slice o44 l45 l46)∧∀w50,IsSet w49 (Addr.add d22 3) (.slice o44 l45 l46) w50 →
 J24  w50)))) ∧
 ((o25=none →
 ∃L51,RowAt w23 d19 32 L51 ∧
 CallsV Tryz.prog v2 #[(.agg L51)] w23 (fun e52 w53 =>
 ((∃ch,e52=.panicked ch∧R (.panicked ch) w53) ∨
 ∃o54 l55 l56,e52=.returned (.slice o54 l55 l56) ∧
 Calls Tryz.prog 66 #[(.slice o54 l55 l56)] w53 (fun e57 w58 =>
 ((∃ch,e57=.panicked ch∧R (.panicked ch) w58) ∨
 ∃b59 o60 l61 l62 o63 l64 l65 o66 l67 l68 n69,e57=.returned (.tuple #[(.agg #[(.bool b59),(.slice o60 l61 l62),(.slice o63 l64 l65),(.slice o66 l67 l68)]),(.int .i64 n69)]) ∧
 CanSet w58 d22 (.bool b59)∧∀w70,IsSet w58 d22 (.bool b59) w70 →
 CanSet w70 (Addr.add d22 1) (.slice o60 l61 l62)∧∀w71,IsSet w70 (Addr.add d22 1) (.slice o60 l61 l62) w71 →
 CanSet w71 (Addr.add d22 2) (.slice o63 l64 l65)∧∀w72,IsSet w71 (Addr.add d22 2) (.slice o63 l64 l65) w72 →
 CanSet w72 (Addr.add d22 3) (.slice o66 l67 l68)∧∀w73,IsSet w72 (Addr.add d22 3) (.slice o66 l67 l68) w73 →
 Calls Tryz.prog 45 #[(.int .i64 n69)] w73 (fun e74 w75 =>
 ((∃ch,e74=.panicked ch∧R (.panicked ch) w75) ∨
 e74=.returned (.tuple #[]) ∧
 J24  w75)))))))))) ∧
 (∀  (j76:Nat→Value) (w76:World),J24  w76 →
 ∃b77,World.cell? w76 d22=some (.bool b77) ∧
 (((b77=true →
 ∃o78 l79 l80,World.cell? w76 (Addr.add d22 1)=some (.slice o78 l79 l80) ∧
 Calls Tryz.prog 82 #[(.slice o78 l79 l80),(.slice o18 l18 c18)] w76 (fun e81 w82 =>
 ((∃ch,e81=.panicked ch∧R (.panicked ch) w82) ∨
 ∃b83,e81=.returned (.bool b83) ∧
 ∃o84 l85 l86,World.cell? w82 (Addr.add d22 3)=some (.slice o84 l85 l86) ∧
 Calls Tryz.prog 83 #[(.slice o84 l85 l86),(.bool b83)] w82 (fun e87 w88 =>
 ((∃ch,e87=.panicked ch∧R (.panicked ch) w88) ∨
 ∃o89 l90 l91 b92,e87=.returned (.tuple #[(.slice o89 l90 l91),(.bool b92)]) ∧
 R (.returned (.tuple #[(.slice o89 l90 l91),(.bool b92)])) w88)))))) ∧
 ((b77=false →
 ∃b93 o94 l95 l96 o97 l98 l99 o100 l101 l102,World.cell? w76 d22=some (.bool b93) ∧
 World.cell? w76 (Addr.add d22 1)=some (.slice o94 l95 l96) ∧
 World.cell? w76 (Addr.add d22 2)=some (.slice o97 l98 l99) ∧
 World.cell? w76 (Addr.add d22 3)=some (.slice o100 l101 l102) ∧
 Calls Tryz.prog 67 #[(.agg #[(.bool b93),(.slice o94 l95 l96),(.slice o97 l98 l99),(.slice o100 l101 l102)])] w76 (fun e103 w104 =>
 ((∃ch,e103=.panicked ch∧R (.panicked ch) w104) ∨
 ∃b105,e103=.returned (.bool b105) ∧
 (((b105=false →
 ∃o106 l107 l108,World.cell? w104 (Addr.add d22 1)=some (.slice o106 l107 l108) ∧
 Calls Tryz.prog 84 #[(.slice o18 l18 c18),(.slice o106 l107 l108)] w104 (fun e109 w110 =>
 ((∃ch,e109=.panicked ch∧R (.panicked ch) w110) ∨
 ∃o111 l112 l113 b114,e109=.returned (.tuple #[(.slice o111 l112 l113),(.bool b114)]) ∧
 (((b114=false →
 R (.returned (.tuple #[(.slice none 0 0),(.bool false)])) w110)) ∧
 ((b114=true →
 ∃o115 l116 l117,World.cell? w110 (Addr.add d22 2)=some (.slice o115 l116 l117) ∧
 ∃d118,o115=some d118 ∧
 ((0:Int)≤0∧0 < ((l116:Nat):Int)) ∧
 ∃L119,RowAt w110 (Addr.add d118 0) 34 L119 ∧
 ∃w120,Sem.run Tryz.prog (Instr.storeAt 82 (.pointer (some d19)) (.agg L119)) w110=.ok () w120 ∧
 ∃L121,RowAt w120 d19 34 L121 ∧
 ∀d122 w123,IsNew w120 82 #[(.int .u8 0),(.int .u8 0),(.int .u8 0),(.int .u8 0),(.int .u8 0),(.int .u8 0),(.int .u8 0),(.int .u8 0),(.int .u8 0),(.int .u8 0),(.int .u8 0),(.int .u8 0),(.int .u8 0),(.int .u8 0),(.int .u8 0),(.int .u8 0),(.int .u8 0),(.int .u8 0),(.int .u8 0),(.int .u8 0),(.int .u8 0),(.int .u8 0),(.int .u8 0),(.int .u8 0),(.int .u8 0),(.int .u8 0),(.int .u8 0),(.int .u8 0),(.int .u8 0),(.int .u8 0),(.int .u8 0),(.int .u8 0),(.pointer none),(.bool false)] d122 w123 →
 ∃w124,Sem.run Tryz.prog (Instr.storeAt 82 (.pointer (some d122)) (.agg L121)) w123=.ok () w124 ∧
 I17 o111 l112 l113 d122 w124∧μ17 o111 l112 l113 d122 w124 < μ17 o18 l18 c18 d19 w20))))))) ∧
 ((b105=true →
 (((((l18:Nat):Int)=0 →
 ∃o125 l126 l127,World.cell? w104 (Addr.add d22 3)=some (.slice o125 l126 l127) ∧
 ∃o128 l129 l130,World.cell? w104 (Addr.add d22 3)=some (.slice o128 l129 l130) ∧
 Calls Tryz.prog 83 #[(.slice o125 l126 l127),(.bool (decide (((l129:Nat):Int) > 0)))] w104 (fun e131 w132 =>
 ((∃ch,e131=.panicked ch∧R (.panicked ch) w132) ∨
 ∃o133 l134 l135 b136,e131=.returned (.tuple #[(.slice o133 l134 l135),(.bool b136)]) ∧
 R (.returned (.tuple #[(.slice o133 l134 l135),(.bool b136)])) w132)))) ∧
 ((((l18:Nat):Int)≠0 →
 ∀w137,IsDrew w104 w137 →
 ∃o138 l139 l140,World.cell? w137 (Addr.add d22 2)=some (.slice o138 l139 l140) ∧
 ∃d141,o18=some d141 ∧
 ((0:Int)≤0∧0 < ((l18:Nat):Int)) ∧
 ∃n142,World.cell? w137 (Addr.add d141 0)=some (.int .u8 n142) ∧
 ∃d143,o138=some d143 ∧
 ((0:Int)≤n142∧n142 < ((l139:Nat):Int)) ∧
 ∃L144,RowAt w137 (Addr.add d143 ((Int.toNat n142) * 34)) 34 L144 ∧
 1≤l18 ∧
 ∃w145,Sem.run Tryz.prog (Instr.storeAt 82 (.pointer (some d19)) (.agg L144)) w137=.ok () w145 ∧
 ∃L146,RowAt w145 d19 34 L146 ∧
 ∀d147 w148,IsNew w145 82 #[(.int .u8 0),(.int .u8 0),(.int .u8 0),(.int .u8 0),(.int .u8 0),(.int .u8 0),(.int .u8 0),(.int .u8 0),(.int .u8 0),(.int .u8 0),(.int .u8 0),(.int .u8 0),(.int .u8 0),(.int .u8 0),(.int .u8 0),(.int .u8 0),(.int .u8 0),(.int .u8 0),(.int .u8 0),(.int .u8 0),(.int .u8 0),(.int .u8 0),(.int .u8 0),(.int .u8 0),(.int .u8 0),(.int .u8 0),(.int .u8 0),(.int .u8 0),(.int .u8 0),(.int .u8 0),(.int .u8 0),(.int .u8 0),(.pointer none),(.bool false)] d147 w148 →
 ∃w149,Sem.run Tryz.prog (Instr.storeAt 82 (.pointer (some d147)) (.agg L146)) w148=.ok () w149 ∧
 I17 (subO o18 c18 1 1) (l18 - 1) (c18 - 1) d147 w149∧μ17 (subO o18 c18 1 1) (l18 - 1) (c18 - 1) d147 w149 < μ17 o18 l18 c18 d19 w20)))))))))))))) ∧
 ((b21=false →
 R (.returned (.tuple #[(.slice none 0 0),(.bool false)])) w20))))))))
theorem proof_way.vc (L0:Array Value) (o1:Option Addr) (l1:Nat) (c1:Nat) (v2:Value) (w:World) (R:Ending→World→Prop) (h:proof_way.Vc L0 o1 l1 c1 v2 w R):Calls Tryz.prog 49 #[(.agg L0),(.slice o1 l1 c1),v2] w R :=
 execF_sound (R:=⟨R,true⟩) (ann:=[(3,[(8,.cell (.slice)),(9,.cell (.addr))]),(1000011,[])]) (args:=[.big 32 L0,.slice o1 l1 c1,.raw v2]) Tryz.func49 mixed (Eq.mp (by kernel_rfl:proof_way.Vc L0 o1 l1 c1 v2 w R=execF (pA Tryz.prog ⟨R,true⟩) Tryz.prog [(3,[(8,.cell (.slice)),(9,.cell (.addr))]),(1000011,[])] Tryz.f49 [.big 32 L0,.slice o1 l1 c1,.raw v2] w) h)

def proof_Prove_1.Vc (d0 d1:Addr) (w:World) (R:Ending→World→Prop):Prop :=
 ∃n2,World.cell? w d0=some (.int .i64 n2) ∧
 (((n2≠0 →
 CanSet w d1 (.slice none 0 0)∧∀w3,IsSet w d1 (.slice none 0 0) w3 →
 R (.returned (.tuple #[])) w3)) ∧
 ((n2=0 →
 R (.returned (.tuple #[])) w)))
theorem proof_Prove_1.vcd (u:FrameMode) (d0:Addr) (d1:Addr) (w:World) (R:Ending→World→Prop) (h:proof_Prove_1.Vc d0 d1 w R):CallsD Tryz.prog 48 #[(.pointer (some d0)),(.pointer (some d1))] u w (fun e u' w'=>u'=u∧R e w') :=
 execF_soundD (R:=R) (ann:=[]) (args:=[.addr d0,.addr d1]) Tryz.func48 mixed (Eq.mp (by kernel_rfl:proof_Prove_1.Vc d0 d1 w R=execF (pA Tryz.prog ⟨R,false⟩) Tryz.prog [] Tryz.f48 [.addr d0,.addr d1] w) h)

def proof_Prove_2.Vc (L0:Array Value) (d1 d2:Addr) (w:World) (R:Ending→World→Prop):Prop :=
 ∀d3 w4,IsNew w 27 L0 d3 w4 →
 ∃m5:Option Nat,∃b6,World.cell? w4 d1=some (.map m5) ∧
 World.cell? w4 (Addr.add d1 1)=some (.bool b6) ∧
 ∃L7,RowAt w4 d3 32 L7 ∧
 Calls Tryz.prog 37 #[(.agg #[(.map m5),(.bool b6)]),(.agg L7)] w4 (fun e8 w9 =>
 ((∃ch,e8=.panicked ch∧R (.panicked ch) w9) ∨
 ∃o10 l11 l12,e8=.returned (.slice o10 l11 l12) ∧
 ∀w13,IsDrew w9 w13 →
 ∃o14 l15 l16,World.cell? w13 d2=some (.slice o14 l15 l16) ∧
 Calls Tryz.prog 36 #[(.slice o10 l11 l12)] w13 (fun e17 w18 =>
 ((∃ch,e17=.panicked ch∧R (.panicked ch) w18) ∨
 ∃o19 l20 l21,e17=.returned (.slice o19 l20 l21) ∧
 World.cell? w18 d2=some (.slice o14 l15 l16) ∧
 ∀d22 w23,IsNew w18 23 #[(.slice o19 l20 l21)] d22 w23 →
 World.cell? w23 d2=some (.slice o14 l15 l16) ∧
 ∃v24 w25,Sem.run Tryz.prog (builtinV .append #[31,31] 31 #[(.slice o14 l15 l16),(.slice (some d22) 1 1)]) w23=.ok v24 w25 ∧
 ∃o26 l27 l28,v24=(.slice o26 l27 l28) ∧
 CanSet w25 d2 (.slice o26 l27 l28)∧∀w29,IsSet w25 d2 (.slice o26 l27 l28) w29 →
 R (.returned (.slice o10 l11 l12)) w29))))
theorem proof_Prove_2.vc (L0:Array Value) (d1:Addr) (d2:Addr) (w:World) (R:Ending→World→Prop) (h:proof_Prove_2.Vc L0 d1 d2 w R):Calls Tryz.prog 50 #[(.agg L0),(.pointer (some d1)),(.pointer (some d2))] w R :=
 execF_sound (R:=⟨R,true⟩) (ann:=[]) (args:=[.big 32 L0,.addr d1,.addr d2]) Tryz.func50 mixed (Eq.mp (by kernel_rfl:proof_Prove_2.Vc L0 d1 d2 w R=execF (pA Tryz.prog ⟨R,true⟩) Tryz.prog [] Tryz.f50 [.big 32 L0,.addr d1,.addr d2] w) h)

def proof_Verify_1.Vc (d0 d1 d2:Addr) (w:World) (R:Ending→World→Prop):Prop :=
 ∃n3,World.cell? w d0=some (.int .i64 n3) ∧
 (((n3≠0 →
 CanSet w d1 (.slice none 0 0)∧∀w4,IsSet w d1 (.slice none 0 0) w4 →
 CanSet w4 d2 (.bool false)∧∀w5,IsSet w4 d2 (.bool false) w5 →
 R (.returned (.tuple #[])) w5)) ∧
 ((n3=0 →
 R (.returned (.tuple #[])) w)))
theorem proof_Verify_1.vcd (u:FrameMode) (d0:Addr) (d1:Addr) (d2:Addr) (w:World) (R:Ending→World→Prop) (h:proof_Verify_1.Vc d0 d1 d2 w R):CallsD Tryz.prog 51 #[(.pointer (some d0)),(.pointer (some d1)),(.pointer (some d2))] u w (fun e u' w'=>u'=u∧R e w') :=
 execF_soundD (R:=R) (ann:=[]) (args:=[.addr d0,.addr d1,.addr d2]) Tryz.func51 mixed (Eq.mp (by kernel_rfl:proof_Verify_1.Vc d0 d1 d2 w R=execF (pA Tryz.prog ⟨R,false⟩) Tryz.prog [] Tryz.f51 [.addr d0,.addr d1,.addr d2] w) h)

def proof_Verify_2.Vc (L0:Array Value) (d1 d2:Addr) (w:World) (R:Ending→World→Prop):Prop :=
 ∀d3 w4,IsNew w 27 L0 d3 w4 →
 ∃(J5:World→Prop),(∃n6,World.cell? w4 d1=some (.int .i64 n6) ∧
 ∃o7 l8 l9,World.cell? w4 d2=some (.slice o7 l8 l9) ∧
 (((n6=((l8:Nat):Int) →
 Calls Tryz.prog 45 #[(.int .i64 160)] w4 (fun e10 w11 =>
 ((∃ch,e10=.panicked ch∧R (.panicked ch) w11) ∨
 e10=.returned (.tuple #[]) ∧
 J5  w11)))) ∧
 ((n6≠((l8:Nat):Int) →
 J5  w4)))) ∧
 (∀  (j12:Nat→Value) (w12:World),J5  w12 →
 ∃o13 l14 l15,World.cell? w12 d2=some (.slice o13 l14 l15) ∧
 ∃n16,World.cell? w12 d1=some (.int .i64 n16) ∧
 ∃d17,o13=some d17 ∧
 ((0:Int)≤n16∧n16 < ((l14:Nat):Int)) ∧
 ∃o18 l19 l20,World.cell? w12 (Addr.add d17 (Int.toNat n16))=some (.slice o18 l19 l20) ∧
 ∃n21,World.cell? w12 d1=some (.int .i64 n21) ∧
 CanSet w12 d1 (.int .i64 (IntKind.wrap .i64 (n21+1)))∧∀w22,IsSet w12 d1 (.int .i64 (IntKind.wrap .i64 (n21+1))) w22 →
 ∀w23,IsDrew w22 w23 →
 ∃L24,RowAt w23 d3 32 L24 ∧
 ∀d25 w26,IsNew w23 23 #[(.slice o18 l19 l20)] d25 w26 →
 RowAt w26 d3 32 L24 ∧
 Calls Tryz.prog 53 #[(.slice (some d25) 1 1)] w26 (fun e27 w28 =>
 ((∃ch,e27=.panicked ch∧R (.panicked ch) w28) ∨
 ∃L29,e27=.returned (.agg L29) ∧
 RowAt w28 d3 32 L24 ∧
 ∃v30,Sem.run Tryz.prog (semBin .neq 27 (.tmp 19) (.tmp 20) (.agg L29) (.agg L24)) w28=.ok v30 w28 ∧
 ∃b31,v30=(.bool b31) ∧
 (((b31=true →
 Calls Tryz.prog 45 #[(.int .i64 163)] w28 (fun e32 w33 =>
 ((∃ch,e32=.panicked ch∧R (.panicked ch) w33) ∨
 e32=.returned (.tuple #[]) ∧
 R (.returned (.slice o18 l19 l20)) w33)))) ∧
 ((b31=false →
 R (.returned (.slice o18 l19 l20)) w28))))))
theorem proof_Verify_2.vc (L0:Array Value) (d1:Addr) (d2:Addr) (w:World) (R:Ending→World→Prop) (h:proof_Verify_2.Vc L0 d1 d2 w R):Calls Tryz.prog 52 #[(.agg L0),(.pointer (some d1)),(.pointer (some d2))] w R :=
 execF_sound (R:=⟨R,true⟩) (ann:=[(1000003,[])]) (args:=[.big 32 L0,.addr d1,.addr d2]) Tryz.func52 mixed (Eq.mp (by kernel_rfl:proof_Verify_2.Vc L0 d1 d2 w R=execF (pA Tryz.prog ⟨R,true⟩) Tryz.prog [(1000003,[])] Tryz.f52 [.big 32 L0,.addr d1,.addr d2] w) h)

abbrev proof_Prove.n:Nat:=21
def proof_Prove.Vc (o0:Option Addr) (l0 c0:Nat) (L1:Array Value) (o2:Option Addr) (l2 c2:Nat) (w:World) (R:Ending→World→Prop):Prop :=
 ∀d3 w4,IsNew w 27 L1 d3 w4 →
 ∀d5 w6,IsNew w4 31 #[(.slice none 0 0)] d5 w6 →
 ∀d7 w8,IsNew w6 40 #[(.int .i64 0)] d7 w8 →
 Calls Tryz.prog 29 #[(.slice o0 l0 c0),(.bool false)] w8 (fun e9 w10 =>
 ((∃ch,e9=.panicked ch∧R (.panicked ch) w10) ∨
 ∃m11:Option Nat,∃b12 n13,e9=.returned (.tuple #[(.agg #[(.map m11),(.bool b12)]),(.int .i64 n13)]) ∧
 ∀d14 w15,IsNew w10 69 #[(.map none),(.bool false)] d14 w15 →
 CanSet w15 d14 (.map m11)∧∀w16,IsSet w15 d14 (.map m11) w16 →
 CanSet w16 (Addr.add d14 1) (.bool b12)∧∀w17,IsSet w16 (Addr.add d14 1) (.bool b12) w17 →
 CanSet w17 d7 (.int .i64 n13)∧∀w18,IsSet w17 d7 (.int .i64 n13) w18 →
 ∃n19,World.cell? w18 d7=some (.int .i64 n19) ∧
 (((n19≠0 →
 ∀w20,IsDrew w18 w20 →
 ∃n21,World.cell? w20 d7=some (.int .i64 n21) ∧
 CanSet w20 d5 (.slice none 0 0)∧∀w22,IsSet w20 d5 (.slice none 0 0) w22 →
 World.cell? w22 d7=some (.int .i64 n21) ∧
 CanSet w22 d7 (.int .i64 n21)∧∀w23,IsSet w22 d7 (.int .i64 n21) w23 →
 ∃o24 l25 l26,World.cell? w23 d5=some (.slice o24 l25 l26) ∧
 ∃n27,World.cell? w23 d7=some (.int .i64 n27) ∧
 R (.returned (.tuple #[(.slice o24 l25 l26),(.int .i64 n27)])) w23)) ∧
 ((n19=0 →
 (((((l2:Nat):Int) > 64 →
 CanSet w18 d5 (.slice none 0 0)∧∀w28,IsSet w18 d5 (.slice none 0 0) w28 →
 CanSet w28 d7 (.int .i64 140)∧∀w29,IsSet w28 d7 (.int .i64 140) w29 →
 ∃o30 l31 l32,World.cell? w29 d5=some (.slice o30 l31 l32) ∧
 ∃n33,World.cell? w29 d7=some (.int .i64 n33) ∧
 R (.returned (.tuple #[(.slice o30 l31 l32),(.int .i64 n33)])) w29)) ∧
 ((¬((l2:Nat):Int) > 64 →
 ∃L34,RowAt w18 d3 32 L34 ∧
 Calls Tryz.prog 49 #[(.agg L34),(.slice o2 l2 c2),(.func (.func 50) #[] #[(.pointer (some d14)),(.pointer (some d5))])] w18 (fun e35 w36 =>
 ((∃ch,e35=.panicked ch∧LeavV Tryz.prog (fun w37 =>
 ∃o38 l39 l40,World.cell? w37 d5=some (.slice o38 l39 l40) ∧
 ∃n41,World.cell? w37 d7=some (.int .i64 n41) ∧
 R (.returned (.tuple #[(.slice o38 l39 l40),(.int .i64 n41)])) w37) R [(32,#[(.pointer (some d7))]),(48,#[(.pointer (some d7)),(.pointer (some d5))])] (.panicking ch) w36) ∨
 ∃o42 l43 l44 b45,e35=.returned (.tuple #[(.slice o42 l43 l44),(.bool b45)]) ∧
 ∃o46 l47 l48,World.cell? w36 d5=some (.slice o46 l47 l48) ∧
 CanSet w36 d5 (.slice o46 l47 l48)∧∀w49,IsSet w36 d5 (.slice o46 l47 l48) w49 →
 CanSet w49 d7 (.int .i64 0)∧∀w50,IsSet w49 d7 (.int .i64 0) w50 →
 LeavV Tryz.prog (fun w51 =>
 ∃o52 l53 l54,World.cell? w51 d5=some (.slice o52 l53 l54) ∧
 ∃n55,World.cell? w51 d7=some (.int .i64 n55) ∧
 R (.returned (.tuple #[(.slice o52 l53 l54),(.int .i64 n55)])) w51) R [(32,#[(.pointer (some d7))]),(48,#[(.pointer (some d7)),(.pointer (some d5))])] .returning w50))))))))))
theorem proof_Prove.vc (o0:Option Addr) (l0:Nat) (c0:Nat) (L1:Array Value) (o2:Option Addr) (l2:Nat) (c2:Nat) (w:World) (R:Ending→World→Prop) (h:proof_Prove.Vc o0 l0 c0 L1 o2 l2 c2 w R):Calls Tryz.prog 21 #[(.slice o0 l0 c0),(.agg L1),(.slice o2 l2 c2)] w R :=
 execDF_sound (ann:=[]) (args:=[.slice o0 l0 c0,.big 32 L1,.slice o2 l2 c2]) Tryz.func21 mixed (Eq.mp (by kernel_rfl:proof_Prove.Vc o0 l0 c0 L1 o2 l2 c2 w R=execDF (aD Tryz.prog R) (leavD Tryz.prog R) Tryz.prog [] Tryz.f21 [.slice o0 l0 c0,.big 32 L1,.slice o2 l2 c2] False w) h)

abbrev proof_Verify.n:Nat:=22
def proof_Verify.Vc (L0:Array Value) (o1:Option Addr) (l1 c1:Nat) (o2:Option Addr) (l2 c2:Nat) (w:World) (R:Ending→World→Prop):Prop :=
 ∀d3 w4,IsNew w 27 L0 d3 w4 →
 ∀d5 w6,IsNew w4 31 #[(.slice o2 l2 c2)] d5 w6 →
 ∀d7 w8,IsNew w6 23 #[(.slice none 0 0)] d7 w8 →
 ∀d9 w10,IsNew w8 4 #[(.bool false)] d9 w10 →
 ∀d11 w12,IsNew w10 40 #[(.int .i64 0)] d11 w12 →
 ∃o13 l14 l15,World.cell? w12 d5=some (.slice o13 l14 l15) ∧
 (((((l14:Nat):Int) > 256 →
 CanSet w12 d7 (.slice none 0 0)∧∀w16,IsSet w12 d7 (.slice none 0 0) w16 →
 CanSet w16 d9 (.bool false)∧∀w17,IsSet w16 d9 (.bool false) w17 →
 CanSet w17 d11 (.int .i64 162)∧∀w18,IsSet w17 d11 (.int .i64 162) w18 →
 ∃o19 l20 l21,World.cell? w18 d7=some (.slice o19 l20 l21) ∧
 ∃b22,World.cell? w18 d9=some (.bool b22) ∧
 ∃n23,World.cell? w18 d11=some (.int .i64 n23) ∧
 R (.returned (.tuple #[(.slice o19 l20 l21),(.bool b22),(.int .i64 n23)])) w18)) ∧
 ((¬((l14:Nat):Int) > 256 →
 (((((l1:Nat):Int) > 64 →
 CanSet w12 d7 (.slice none 0 0)∧∀w24,IsSet w12 d7 (.slice none 0 0) w24 →
 CanSet w24 d9 (.bool false)∧∀w25,IsSet w24 d9 (.bool false) w25 →
 CanSet w25 d11 (.int .i64 140)∧∀w26,IsSet w25 d11 (.int .i64 140) w26 →
 ∃o27 l28 l29,World.cell? w26 d7=some (.slice o27 l28 l29) ∧
 ∃b30,World.cell? w26 d9=some (.bool b30) ∧
 ∃n31,World.cell? w26 d11=some (.int .i64 n31) ∧
 R (.returned (.tuple #[(.slice o27 l28 l29),(.bool b30),(.int .i64 n31)])) w26)) ∧
 ((¬((l1:Nat):Int) > 64 →
 ∀d32 w33,IsNew w12 3 #[(.int .i64 0)] d32 w33 →
 CanSet w33 d32 (.int .i64 0)∧∀w34,IsSet w33 d32 (.int .i64 0) w34 →
 ∃L35,RowAt w34 d3 32 L35 ∧
 Calls Tryz.prog 49 #[(.agg L35),(.slice o1 l1 c1),(.func (.func 52) #[] #[(.pointer (some d32)),(.pointer (some d5))])] w34 (fun e36 w37 =>
 ((∃ch,e36=.panicked ch∧LeavV Tryz.prog (fun w38 =>
 ∃o39 l40 l41,World.cell? w38 d7=some (.slice o39 l40 l41) ∧
 ∃b42,World.cell? w38 d9=some (.bool b42) ∧
 ∃n43,World.cell? w38 d11=some (.int .i64 n43) ∧
 R (.returned (.tuple #[(.slice o39 l40 l41),(.bool b42),(.int .i64 n43)])) w38) R [(32,#[(.pointer (some d11))]),(51,#[(.pointer (some d11)),(.pointer (some d7)),(.pointer (some d9))])] (.panicking ch) w37) ∨
 ∃o44 l45 l46 b47,e36=.returned (.tuple #[(.slice o44 l45 l46),(.bool b47)]) ∧
 CanSet w37 d7 (.slice o44 l45 l46)∧∀w48,IsSet w37 d7 (.slice o44 l45 l46) w48 →
 CanSet w48 d9 (.bool b47)∧∀w49,IsSet w48 d9 (.bool b47) w49 →
 ∃n50,World.cell? w49 d32=some (.int .i64 n50) ∧
 ∃o51 l52 l53,World.cell? w49 d5=some (.slice o51 l52 l53) ∧
 (((n50 < ((l52:Nat):Int) →
 Calls Tryz.prog 45 #[(.int .i64 162)] w49 (fun e54 w55 =>
 ((∃ch,e54=.panicked ch∧LeavV Tryz.prog (fun w56 =>
 ∃o57 l58 l59,World.cell? w56 d7=some (.slice o57 l58 l59) ∧
 ∃b60,World.cell? w56 d9=some (.bool b60) ∧
 ∃n61,World.cell? w56 d11=some (.int .i64 n61) ∧
 R (.returned (.tuple #[(.slice o57 l58 l59),(.bool b60),(.int .i64 n61)])) w56) R [(32,#[(.pointer (some d11))]),(51,#[(.pointer (some d11)),(.pointer (some d7)),(.pointer (some d9))])] (.panicking ch) w55) ∨
 e54=.returned (.tuple #[]) ∧
 ∀w62,IsDrew w55 w62 →
 ∃o63 l64 l65,World.cell? w62 d7=some (.slice o63 l64 l65) ∧
 ∃b66,World.cell? w62 d9=some (.bool b66) ∧
 CanSet w62 d7 (.slice o63 l64 l65)∧∀w67,IsSet w62 d7 (.slice o63 l64 l65) w67 →
 World.cell? w67 d9=some (.bool b66) ∧
 CanSet w67 d9 (.bool b66)∧∀w68,IsSet w67 d9 (.bool b66) w68 →
 CanSet w68 d11 (.int .i64 0)∧∀w69,IsSet w68 d11 (.int .i64 0) w69 →
 LeavV Tryz.prog (fun w70 =>
 ∃o71 l72 l73,World.cell? w70 d7=some (.slice o71 l72 l73) ∧
 ∃b74,World.cell? w70 d9=some (.bool b74) ∧
 ∃n75,World.cell? w70 d11=some (.int .i64 n75) ∧
 R (.returned (.tuple #[(.slice o71 l72 l73),(.bool b74),(.int .i64 n75)])) w70) R [(32,#[(.pointer (some d11))]),(51,#[(.pointer (some d11)),(.pointer (some d7)),(.pointer (some d9))])] .returning w69)))) ∧
 ((¬n50 < ((l52:Nat):Int) →
 ∀w76,IsDrew w49 w76 →
 ∃o77 l78 l79,World.cell? w76 d7=some (.slice o77 l78 l79) ∧
 ∃b80,World.cell? w76 d9=some (.bool b80) ∧
 CanSet w76 d7 (.slice o77 l78 l79)∧∀w81,IsSet w76 d7 (.slice o77 l78 l79) w81 →
 World.cell? w81 d9=some (.bool b80) ∧
 CanSet w81 d9 (.bool b80)∧∀w82,IsSet w81 d9 (.bool b80) w82 →
 CanSet w82 d11 (.int .i64 0)∧∀w83,IsSet w82 d11 (.int .i64 0) w83 →
 LeavV Tryz.prog (fun w84 =>
 ∃o85 l86 l87,World.cell? w84 d7=some (.slice o85 l86 l87) ∧
 ∃b88,World.cell? w84 d9=some (.bool b88) ∧
 ∃n89,World.cell? w84 d11=some (.int .i64 n89) ∧
 R (.returned (.tuple #[(.slice o85 l86 l87),(.bool b88),(.int .i64 n89)])) w84) R [(32,#[(.pointer (some d11))]),(51,#[(.pointer (some d11)),(.pointer (some d7)),(.pointer (some d9))])] .returning w83)))))))))))
theorem proof_Verify.vc (L0:Array Value) (o1:Option Addr) (l1:Nat) (c1:Nat) (o2:Option Addr) (l2:Nat) (c2:Nat) (w:World) (R:Ending→World→Prop) (h:proof_Verify.Vc L0 o1 l1 c1 o2 l2 c2 w R):Calls Tryz.prog 22 #[(.agg L0),(.slice o1 l1 c1),(.slice o2 l2 c2)] w R :=
 execDF_sound (ann:=[]) (args:=[.big 32 L0,.slice o1 l1 c1,.slice o2 l2 c2]) Tryz.func22 mixed (Eq.mp (by kernel_rfl:proof_Verify.Vc L0 o1 l1 c1 o2 l2 c2 w R=execDF (aD Tryz.prog R) (leavD Tryz.prog R) Tryz.prog [] Tryz.f22 [.big 32 L0,.slice o1 l1 c1,.slice o2 l2 c2] False w) h)

abbrev proof_gives.n:Nat:=45
def proof_gives.Vc (n0:Int) (w:World) (R:Ending→World→Prop):Prop :=
 (((n0≠0 →
 R (.panicked (panOf (.iface 127 (.agg #[(.int .i64 n0)])))) w)) ∧
 ((n0=0 →
 R (.returned (.tuple #[])) w)))
theorem proof_gives.vc (n0:Int) (w:World) (R:Ending→World→Prop) (h:proof_gives.Vc n0 w R):Calls Tryz.prog 45 #[(.int .i64 n0)] w R :=
 execF_sound (R:=⟨R,true⟩) (ann:=[]) (args:=[.int .i64 n0]) Tryz.func45 mixed (Eq.mp (by kernel_rfl:proof_gives.Vc n0 w R=execF (pA Tryz.prog ⟨R,true⟩) Tryz.prog [] Tryz.f45 [.int .i64 n0] w) h)

end Go.Proofs.YtfghidehlnfdiaaGreat
end
section
namespace Go.Proofs.YtfghidehlnfdiaaGreat
open Go Go.Vcg
abbrev moraineref14_Get.n:Nat:=25
def moraineref14_Get.Vc (o0:Option Addr) (l0 c0:Nat) (L1:Array Value) (o2:Option Addr) (l2 c2:Nat) (w:World) (R:Ending→World→Prop):Prop :=
 ∀d3 w4,IsNew w 27 L1 d3 w4 →
 (((((l2:Nat):Int) > 64 →
 R (.returned (.tuple #[(.slice none 0 0),(.bool false),(.slice none 0 0),(.int .i64 140)])) w4)) ∧
 ((¬((l2:Nat):Int) > 64 →
 ∀w5,IsDrew w4 w5 →
 ∃L6,RowAt w5 d3 32 L6 ∧
 Calls Tryz.prog 40 #[] w5 (fun e7 w8 =>
 ∃L9,e7=.returned (.agg L9) ∧
 RowAt w8 d3 32 L6 ∧
 ∃v10,Sem.run Tryz.prog (semBin .eql 27 (.tmp 23) (.tmp 24) (.agg L6) (.agg L9)) w8=.ok v10 w8 ∧
 ∃b11,v10=(.bool b11) ∧
 (((b11=true →
 R (.returned (.tuple #[(.slice none 0 0),(.bool false),(.slice none 0 0),(.int .i64 0)])) w8)) ∧
 ((b11=false →
 Calls Tryz.prog 54 #[(.slice o2 l2 c2)] w8 (fun e12 w13 =>
 ∃o14 l15 l16,e12=.returned (.slice o14 l15 l16) ∧
 ∃L17,RowAt w13 d3 32 L17 ∧
 ∀d18 w19,IsNew w13 27 (Array.replicate 32 (.int .u8 0)) d18 w19 →
 ∃w20,Sem.run Tryz.prog (Instr.storeAt 27 (.pointer (some d18)) (.agg L17)) w19=.ok () w20 ∧
 ∃(I21:Option Addr→Nat→Nat→Option Addr→Nat→Nat→World→Prop) (μ21:Option Addr→Nat→Nat→Option Addr→Nat→Nat→World→Nat),I21 none 0 0 o14 l15 l16 w20 ∧
 (∀(o22:Option Addr) (l22:Nat) (c22:Nat) (o23:Option Addr) (l23:Nat) (c23:Nat) (j24:Nat→Value) (w24:World),I21 o22 l22 c22 o23 l23 c23 w24 →
 ∃L25,RowAt w24 d18 32 L25 ∧
 Calls Tryz.prog 58 #[(.slice o0 l0 c0),(.agg L25)] w24 (fun e26 w27 =>
 ∃o28 l29 l30 b31,e26=.returned (.tuple #[(.slice o28 l29 l30),(.bool b31)]) ∧
 (((b31=false →
 R (.returned (.tuple #[(.slice none 0 0),(.bool false),(.slice o22 l22 c22),(.int .i64 142)])) w27)) ∧
 ((b31=true →
 Calls Tryz.prog 59 #[(.slice o28 l29 l30)] w27 (fun e32 w33 =>
 ∃n34,e32=.returned (.int .i64 n34) ∧
 (((n34≠0 →
 R (.returned (.tuple #[(.slice none 0 0),(.bool false),(.slice o22 l22 c22),(.int .i64 143)])) w33)) ∧
 ((n34=0 →
 ∀d35 w36,IsNew w33 23 #[(.slice o28 l29 l30)] d35 w36 →
 ∃v37 w38,Sem.run Tryz.prog (builtinV .append #[31,31] 31 #[(.slice o22 l22 c22),(.slice (some d35) 1 1)]) w36=.ok v37 w38 ∧
 ∃o39 l40 l41,v37=(.slice o39 l40 l41) ∧
 Calls Tryz.prog 60 #[(.slice o28 l29 l30)] w38 (fun e42 w43 =>
 ∃b44 o45 l46 l47 o48 l49 l50 n51,e42=.returned (.tuple #[(.agg #[(.bool b44),(.slice o45 l46 l47),(.slice o48 l49 l50)]),(.int .i64 n51)]) ∧
 ∀d52 w53,IsNew w43 111 #[(.bool false),(.slice none 0 0),(.slice none 0 0)] d52 w53 →
 CanSet w53 d52 (.bool b44)∧∀w54,IsSet w53 d52 (.bool b44) w54 →
 CanSet w54 (Addr.add d52 1) (.slice o45 l46 l47)∧∀w55,IsSet w54 (Addr.add d52 1) (.slice o45 l46 l47) w55 →
 CanSet w55 (Addr.add d52 2) (.slice o48 l49 l50)∧∀w56,IsSet w55 (Addr.add d52 2) (.slice o48 l49 l50) w56 →
 ∃b57 o58 l59 l60 o61 l62 l63,World.cell? w56 d52=some (.bool b57) ∧
 World.cell? w56 (Addr.add d52 1)=some (.slice o58 l59 l60) ∧
 World.cell? w56 (Addr.add d52 2)=some (.slice o61 l62 l63) ∧
 Calls Tryz.prog 61 #[(.agg #[(.bool b57),(.slice o58 l59 l60),(.slice o61 l62 l63)]),(.slice o23 l23 c23)] w56 (fun e64 w65 =>
 ∃o66 l67 l68 o69 l70 l71 b72 o73 l74 l75 o76 l77 l78,e64=.returned (.tuple #[(.slice o66 l67 l68),(.slice o69 l70 l71),(.agg #[(.bool b72),(.slice o73 l74 l75),(.slice o76 l77 l78)])]) ∧
 ∀d79 w80,IsNew w65 111 #[(.bool false),(.slice none 0 0),(.slice none 0 0)] d79 w80 →
 CanSet w80 d79 (.bool b72)∧∀w81,IsSet w80 d79 (.bool b72) w81 →
 CanSet w81 (Addr.add d79 1) (.slice o73 l74 l75)∧∀w82,IsSet w81 (Addr.add d79 1) (.slice o73 l74 l75) w82 →
 CanSet w82 (Addr.add d79 2) (.slice o76 l77 l78)∧∀w83,IsSet w82 (Addr.add d79 2) (.slice o76 l77 l78) w83 →
 ∃b84,World.cell? w83 d79=some (.bool b84) ∧
 (((b84=true →
 R (.returned (.tuple #[(.slice o66 l67 l68),(.bool (decide (((l67:Nat):Int) > 0))),(.slice o39 l40 l41),(.int .i64 0)])) w83)) ∧
 ((b84=false →
 ∃o85 l86 l87,World.cell? w83 (Addr.add d79 1)=some (.slice o85 l86 l87) ∧
 (((((l86:Nat):Int)=0 →
 R (.returned (.tuple #[(.slice o66 l67 l68),(.bool (decide (((l67:Nat):Int) > 0))),(.slice o39 l40 l41),(.int .i64 0)])) w83)) ∧
 ((((l86:Nat):Int)≠0 →
 ∀w88,IsDrew w83 w88 →
 ∃o89 l90 l91,World.cell? w88 (Addr.add d79 1)=some (.slice o89 l90 l91) ∧
 ∃v92 w93,Sem.run Tryz.prog (builtinV .copy #[23,23] 3 #[(.slice (some d18) 32 32),(.slice o89 l90 l91)]) w88=.ok v92 w93 ∧
 ∃n94,v92=(.int .i64 n94) ∧
 I21 o39 l40 l41 o69 l70 l71 w93∧μ21 o39 l40 l41 o69 l70 l71 w93 < μ21 o22 l22 c22 o23 l23 c23 w24)))))))))))))))))))))))))
theorem moraineref14_Get.vc (o0:Option Addr) (l0:Nat) (c0:Nat) (L1:Array Value) (o2:Option Addr) (l2:Nat) (c2:Nat) (w:World) (R:Ending→World→Prop) (h:moraineref14_Get.Vc o0 l0 c0 L1 o2 l2 c2 w R):Calls Tryz.prog 25 #[(.slice o0 l0 c0),(.agg L1),(.slice o2 l2 c2)] w R :=
 execF_sound (R:=⟨R,false⟩) (ann:=[(8,[(10,.cell (.slice)),(11,.cell (.slice))])]) (args:=[.slice o0 l0 c0,.big 32 L1,.slice o2 l2 c2]) Tryz.func25 mixed (Eq.mp (by kernel_rfl:moraineref14_Get.Vc o0 l0 c0 L1 o2 l2 c2 w R=execF (pA Tryz.prog ⟨R,false⟩) Tryz.prog [(8,[(10,.cell (.slice)),(11,.cell (.slice))])] Tryz.f25 [.slice o0 l0 c0,.big 32 L1,.slice o2 l2 c2] w) h)

abbrev moraineref14_Down.n:Nat:=61
def moraineref14_Down.Vc (b0:Bool) (o1:Option Addr) (l1 c1:Nat) (o2:Option Addr) (l2 c2:Nat) (o3:Option Addr) (l3 c3:Nat) (w:World) (R:Ending→World→Prop):Prop :=
 ∀d4 w5,IsNew w 111 #[(.bool b0),(.slice o1 l1 c1),(.slice o2 l2 c2)] d4 w5 →
 ∀d6 w7,IsNew w5 111 #[(.bool false),(.slice none 0 0),(.slice none 0 0)] d6 w7 →
 ∃(I8:Option Addr→Nat→Nat→World→Prop) (μ8:Option Addr→Nat→Nat→World→Nat),I8 o3 l3 c3 w7 ∧
 (∀(o9:Option Addr) (l9:Nat) (c9:Nat) (j10:Nat→Value) (w10:World),I8 o9 l9 c9 w10 →
 ∃b11,World.cell? w10 d4=some (.bool b11) ∧
 (((b11=true →
 ∃o12 l13 l14,World.cell? w10 (Addr.add d4 2)=some (.slice o12 l13 l14) ∧
 (((((l13:Nat):Int)=2 →
 ∃o15 l16 l17,World.cell? w10 (Addr.add d4 2)=some (.slice o15 l16 l17) ∧
 ∃d18,o15=some d18 ∧
 ((0:Int)≤0∧0 < ((l16:Nat):Int)) ∧
 ∃o19 l20 l21,World.cell? w10 (Addr.add (Addr.add d18 0) 1)=some (.slice o19 l20 l21) ∧
 Calls Tryz.prog 95 #[(.slice o19 l20 l21)] w10 (fun e22 w23 =>
 ∃o24 l25 l26 b27 n28,e22=.returned (.tuple #[(.slice o24 l25 l26),(.bool b27),(.int .i64 n28)]) ∧
 (((b27=true →
 ∃v29,Sem.run Tryz.prog (convert 23 9 (.slice o24 l25 l26)) w23=.ok v29 w23 ∧
 ∃s30,v29=(.string s30) ∧
 ∃v31,Sem.run Tryz.prog (convert 23 9 (.slice o9 l9 c9)) w23=.ok v31 w23 ∧
 ∃s32,v31=(.string s32) ∧
 (((strB .eql s30 s32=true →
 ∃o33 l34 l35,World.cell? w23 (Addr.add d4 2)=some (.slice o33 l34 l35) ∧
 ∃d36,o33=some d36 ∧
 ((0:Int)≤1∧1 < ((l34:Nat):Int)) ∧
 ∃o37 l38 l39,World.cell? w23 (Addr.add (Addr.add d36 3) 1)=some (.slice o37 l38 l39) ∧
 CanSet w23 d6 (.bool false)∧∀w40,IsSet w23 d6 (.bool false) w40 →
 CanSet w40 (Addr.add d6 1) (.slice none 0 0)∧∀w41,IsSet w40 (Addr.add d6 1) (.slice none 0 0) w41 →
 CanSet w41 (Addr.add d6 2) (.slice none 0 0)∧∀w42,IsSet w41 (Addr.add d6 2) (.slice none 0 0) w42 →
 ∃b43 o44 l45 l46 o47 l48 l49,World.cell? w42 d6=some (.bool b43) ∧
 World.cell? w42 (Addr.add d6 1)=some (.slice o44 l45 l46) ∧
 World.cell? w42 (Addr.add d6 2)=some (.slice o47 l48 l49) ∧
 R (.returned (.tuple #[(.slice o37 l38 l39),(.slice none 0 0),(.agg #[(.bool b43),(.slice o44 l45 l46),(.slice o47 l48 l49)])])) w42)) ∧
 ((strB .eql s30 s32=false →
 CanSet w23 d6 (.bool false)∧∀w50,IsSet w23 d6 (.bool false) w50 →
 CanSet w50 (Addr.add d6 1) (.slice none 0 0)∧∀w51,IsSet w50 (Addr.add d6 1) (.slice none 0 0) w51 →
 CanSet w51 (Addr.add d6 2) (.slice none 0 0)∧∀w52,IsSet w51 (Addr.add d6 2) (.slice none 0 0) w52 →
 ∃b53 o54 l55 l56 o57 l58 l59,World.cell? w52 d6=some (.bool b53) ∧
 World.cell? w52 (Addr.add d6 1)=some (.slice o54 l55 l56) ∧
 World.cell? w52 (Addr.add d6 2)=some (.slice o57 l58 l59) ∧
 R (.returned (.tuple #[(.slice none 0 0),(.slice none 0 0),(.agg #[(.bool b53),(.slice o54 l55 l56),(.slice o57 l58 l59)])])) w52))))) ∧
 ((b27=false →
 ∀w60,IsDrew w23 w60 →
 (((((l9:Nat):Int) < ((l25:Nat):Int) →
 CanSet w60 d6 (.bool false)∧∀w61,IsSet w60 d6 (.bool false) w61 →
 CanSet w61 (Addr.add d6 1) (.slice none 0 0)∧∀w62,IsSet w61 (Addr.add d6 1) (.slice none 0 0) w62 →
 CanSet w62 (Addr.add d6 2) (.slice none 0 0)∧∀w63,IsSet w62 (Addr.add d6 2) (.slice none 0 0) w63 →
 ∃b64 o65 l66 l67 o68 l69 l70,World.cell? w63 d6=some (.bool b64) ∧
 World.cell? w63 (Addr.add d6 1)=some (.slice o65 l66 l67) ∧
 World.cell? w63 (Addr.add d6 2)=some (.slice o68 l69 l70) ∧
 R (.returned (.tuple #[(.slice none 0 0),(.slice none 0 0),(.agg #[(.bool b64),(.slice o65 l66 l67),(.slice o68 l69 l70)])])) w63)) ∧
 ((¬((l9:Nat):Int) < ((l25:Nat):Int) →
 ((0:Int)≤((l25:Nat):Int)∧((l25:Nat):Int)≤((c9:Nat):Int)) ∧
 ∃v71,Sem.run Tryz.prog (convert 23 9 (.slice o9 (Int.toNat ((l25:Nat):Int)) c9)) w60=.ok v71 w60 ∧
 ∃s72,v71=(.string s72) ∧
 ∃v73,Sem.run Tryz.prog (convert 23 9 (.slice o24 l25 l26)) w60=.ok v73 w60 ∧
 ∃s74,v73=(.string s74) ∧
 (((strB .neq s72 s74=true →
 CanSet w60 d6 (.bool false)∧∀w75,IsSet w60 d6 (.bool false) w75 →
 CanSet w75 (Addr.add d6 1) (.slice none 0 0)∧∀w76,IsSet w75 (Addr.add d6 1) (.slice none 0 0) w76 →
 CanSet w76 (Addr.add d6 2) (.slice none 0 0)∧∀w77,IsSet w76 (Addr.add d6 2) (.slice none 0 0) w77 →
 ∃b78 o79 l80 l81 o82 l83 l84,World.cell? w77 d6=some (.bool b78) ∧
 World.cell? w77 (Addr.add d6 1)=some (.slice o79 l80 l81) ∧
 World.cell? w77 (Addr.add d6 2)=some (.slice o82 l83 l84) ∧
 R (.returned (.tuple #[(.slice none 0 0),(.slice none 0 0),(.agg #[(.bool b78),(.slice o79 l80 l81),(.slice o82 l83 l84)])])) w77)) ∧
 ((strB .neq s72 s74=false →
 ((0:Int)≤((l25:Nat):Int)∧((l25:Nat):Int)≤((l9:Nat):Int)) ∧
 ∃o85 l86 l87,World.cell? w60 (Addr.add d4 2)=some (.slice o85 l86 l87) ∧
 ∃d88,o85=some d88 ∧
 ((0:Int)≤1∧1 < ((l86:Nat):Int)) ∧
 ∃b89 o90 l91 l92 o93 l94 l95,World.cell? w60 (Addr.add d88 3)=some (.bool b89) ∧
 World.cell? w60 (Addr.add (Addr.add d88 3) 1)=some (.slice o90 l91 l92) ∧
 World.cell? w60 (Addr.add (Addr.add d88 3) 2)=some (.slice o93 l94 l95) ∧
 CanSet w60 d4 (.bool b89)∧∀w96,IsSet w60 d4 (.bool b89) w96 →
 CanSet w96 (Addr.add d4 1) (.slice o90 l91 l92)∧∀w97,IsSet w96 (Addr.add d4 1) (.slice o90 l91 l92) w97 →
 CanSet w97 (Addr.add d4 2) (.slice o93 l94 l95)∧∀w98,IsSet w97 (Addr.add d4 2) (.slice o93 l94 l95) w98 →
 I8 (subO o9 c9 (Int.toNat ((l25:Nat):Int)) 1) (l9 - (Int.toNat ((l25:Nat):Int))) (c9 - (Int.toNat ((l25:Nat):Int))) w98∧μ8 (subO o9 c9 (Int.toNat ((l25:Nat):Int)) 1) (l9 - (Int.toNat ((l25:Nat):Int))) (c9 - (Int.toNat ((l25:Nat):Int))) w98 < μ8 o9 l9 c9 w10)))))))))))) ∧
 ((((l13:Nat):Int)≠2 →
 (((((l9:Nat):Int)=0 →
 ∃o99 l100 l101,World.cell? w10 (Addr.add d4 2)=some (.slice o99 l100 l101) ∧
 ∃d102,o99=some d102 ∧
 ((0:Int)≤16∧16 < ((l100:Nat):Int)) ∧
 ∃o103 l104 l105,World.cell? w10 (Addr.add (Addr.add d102 48) 1)=some (.slice o103 l104 l105) ∧
 CanSet w10 d6 (.bool false)∧∀w106,IsSet w10 d6 (.bool false) w106 →
 CanSet w106 (Addr.add d6 1) (.slice none 0 0)∧∀w107,IsSet w106 (Addr.add d6 1) (.slice none 0 0) w107 →
 CanSet w107 (Addr.add d6 2) (.slice none 0 0)∧∀w108,IsSet w107 (Addr.add d6 2) (.slice none 0 0) w108 →
 ∃b109 o110 l111 l112 o113 l114 l115,World.cell? w108 d6=some (.bool b109) ∧
 World.cell? w108 (Addr.add d6 1)=some (.slice o110 l111 l112) ∧
 World.cell? w108 (Addr.add d6 2)=some (.slice o113 l114 l115) ∧
 R (.returned (.tuple #[(.slice o103 l104 l105),(.slice none 0 0),(.agg #[(.bool b109),(.slice o110 l111 l112),(.slice o113 l114 l115)])])) w108)) ∧
 ((((l9:Nat):Int)≠0 →
 ∃d116,o9=some d116 ∧
 ((0:Int)≤0∧0 < ((l9:Nat):Int)) ∧
 ∃n117,World.cell? w10 (Addr.add d116 0)=some (.int .u8 n117) ∧
 1≤l9 ∧
 ∃o118 l119 l120,World.cell? w10 (Addr.add d4 2)=some (.slice o118 l119 l120) ∧
 ∃d121,o118=some d121 ∧
 ((0:Int)≤n117∧n117 < ((l119:Nat):Int)) ∧
 ∃b122 o123 l124 l125 o126 l127 l128,World.cell? w10 (Addr.add d121 ((Int.toNat n117) * 3))=some (.bool b122) ∧
 World.cell? w10 (Addr.add (Addr.add d121 ((Int.toNat n117) * 3)) 1)=some (.slice o123 l124 l125) ∧
 World.cell? w10 (Addr.add (Addr.add d121 ((Int.toNat n117) * 3)) 2)=some (.slice o126 l127 l128) ∧
 CanSet w10 d4 (.bool b122)∧∀w129,IsSet w10 d4 (.bool b122) w129 →
 CanSet w129 (Addr.add d4 1) (.slice o123 l124 l125)∧∀w130,IsSet w129 (Addr.add d4 1) (.slice o123 l124 l125) w130 →
 CanSet w130 (Addr.add d4 2) (.slice o126 l127 l128)∧∀w131,IsSet w130 (Addr.add d4 2) (.slice o126 l127 l128) w131 →
 I8 (subO o9 c9 1 1) (l9 - 1) (c9 - 1) w131∧μ8 (subO o9 c9 1 1) (l9 - 1) (c9 - 1) w131 < μ8 o9 l9 c9 w10)))))))) ∧
 ((b11=false →
 ∀w132,IsDrew w10 w132 →
 ∃b133 o134 l135 l136 o137 l138 l139,World.cell? w132 d4=some (.bool b133) ∧
 World.cell? w132 (Addr.add d4 1)=some (.slice o134 l135 l136) ∧
 World.cell? w132 (Addr.add d4 2)=some (.slice o137 l138 l139) ∧
 CanSet w132 d6 (.bool b133)∧∀w140,IsSet w132 d6 (.bool b133) w140 →
 CanSet w140 (Addr.add d6 1) (.slice o134 l135 l136)∧∀w141,IsSet w140 (Addr.add d6 1) (.slice o134 l135 l136) w141 →
 CanSet w141 (Addr.add d6 2) (.slice o137 l138 l139)∧∀w142,IsSet w141 (Addr.add d6 2) (.slice o137 l138 l139) w142 →
 ∃b143 o144 l145 l146 o147 l148 l149,World.cell? w142 d6=some (.bool b143) ∧
 World.cell? w142 (Addr.add d6 1)=some (.slice o144 l145 l146) ∧
 World.cell? w142 (Addr.add d6 2)=some (.slice o147 l148 l149) ∧
 R (.returned (.tuple #[(.slice none 0 0),(.slice o9 l9 c9),(.agg #[(.bool b143),(.slice o144 l145 l146),(.slice o147 l148 l149)])])) w142))))
theorem moraineref14_Down.vc (b0:Bool) (o1:Option Addr) (l1:Nat) (c1:Nat) (o2:Option Addr) (l2:Nat) (c2:Nat) (o3:Option Addr) (l3:Nat) (c3:Nat) (w:World) (R:Ending→World→Prop) (h:moraineref14_Down.Vc b0 o1 l1 c1 o2 l2 c2 o3 l3 c3 w R):Calls Tryz.prog 61 #[(.agg #[(.bool b0),(.slice o1 l1 c1),(.slice o2 l2 c2)]),(.slice o3 l3 c3)] w R :=
 execF_sound (R:=⟨R,false⟩) (ann:=[(1,[(1,.cell (.slice))])]) (args:=[.agg [.bool (.var b0),.slice o1 l1 c1,.slice o2 l2 c2],.slice o3 l3 c3]) Tryz.func61 mixed (Eq.mp (by kernel_rfl:moraineref14_Down.Vc b0 o1 l1 c1 o2 l2 c2 o3 l3 c3 w R=execF (pA Tryz.prog ⟨R,false⟩) Tryz.prog [(1,[(1,.cell (.slice))])] Tryz.f61 [.agg [.bool (.var b0),.slice o1 l1 c1,.slice o2 l2 c2],.slice o3 l3 c3] w) h)

abbrev moraineref14_find.n:Nat:=58
def moraineref14_find.Vc (o0:Option Addr) (l0 c0:Nat) (L1:Array Value) (w:World) (R:Ending→World→Prop):Prop :=
 ∀d2 w3,IsNew w 27 L1 d2 w3 →
 ∃(I4:Int→World→Prop) (μ4:Int→World→Nat),I4 0 w3 ∧
 (∀(n5:Int) (j6:Nat→Value) (w6:World),I4 n5 w6 →
 (((n5 < ((l0:Nat):Int) →
 ∀w7,IsDrew w6 w7 →
 ∃d8,o0=some d8 ∧
 ((0:Int)≤n5∧n5 < ((l0:Nat):Int)) ∧
 ∃L9,RowAt w7 (Addr.add d8 ((Int.toNat n5) * 33)) 32 L9 ∧
 ∃L10,RowAt w7 d2 32 L10 ∧
 ∃v11,Sem.run Tryz.prog (semBin .eql 27 (.tmp 17) (.tmp 18) (.agg L9) (.agg L10)) w7=.ok v11 w7 ∧
 ∃b12,v11=(.bool b12) ∧
 (((b12=true →
 ∃d13,o0=some d13 ∧
 ((0:Int)≤n5∧n5 < ((l0:Nat):Int)) ∧
 ∃o14 l15 l16,World.cell? w7 (Addr.add (Addr.add d13 ((Int.toNat n5) * 33)) 32)=some (.slice o14 l15 l16) ∧
 R (.returned (.tuple #[(.slice o14 l15 l16),(.bool true)])) w7)) ∧
 ((b12=false →
 I4 (IntKind.wrap .i64 (n5+1)) w7∧μ4 (IntKind.wrap .i64 (n5+1)) w7 < μ4 n5 w6))))) ∧
 ((¬n5 < ((l0:Nat):Int) →
 R (.returned (.tuple #[(.slice none 0 0),(.bool false)])) w6))))
theorem moraineref14_find.vc (o0:Option Addr) (l0:Nat) (c0:Nat) (L1:Array Value) (w:World) (R:Ending→World→Prop) (h:moraineref14_find.Vc o0 l0 c0 L1 w R):Calls Tryz.prog 58 #[(.slice o0 l0 c0),(.agg L1)] w R :=
 execF_sound (R:=⟨R,false⟩) (ann:=[(2,[(6,.cell (.int .i64))])]) (args:=[.slice o0 l0 c0,.big 32 L1]) Tryz.func58 mixed (Eq.mp (by kernel_rfl:moraineref14_find.Vc o0 l0 c0 L1 w R=execF (pA Tryz.prog ⟨R,false⟩) Tryz.prog [(2,[(6,.cell (.int .i64))])] Tryz.f58 [.slice o0 l0 c0,.big 32 L1] w) h)

abbrev moraineref16_Prove.n:Nat:=9
def moraineref16_Prove.Vc (o0:Option Addr) (l0 c0:Nat) (L1:Array Value) (o2:Option Addr) (l2 c2:Nat) (w:World) (R:Ending→World→Prop):Prop :=
 ∀d3 w4,IsNew w 27 L1 d3 w4 →
 (((((l0:Nat):Int) > 4096 →
 R (.returned (.tuple #[(.slice none 0 0),(.int .i64 162)])) w4)) ∧
 ((¬((l0:Nat):Int) > 4096 →
 ∃L5,RowAt w4 d3 32 L5 ∧
 Calls Tryz.prog 25 #[(.slice o0 l0 c0),(.agg L5),(.slice o2 l2 c2)] w4 (fun e6 w7 =>
 ∃o8 l9 l10 b11 o12 l13 l14 n15,e6=.returned (.tuple #[(.slice o8 l9 l10),(.bool b11),(.slice o12 l13 l14),(.int .i64 n15)]) ∧
 (((n15=142 →
 R (.returned (.tuple #[(.slice none 0 0),(.int .i64 160)])) w7)) ∧
 ((n15≠142 →
 (((n15=143 →
 R (.returned (.tuple #[(.slice none 0 0),(.int .i64 161)])) w7)) ∧
 ((n15≠143 →
 (((n15≠0 →
 R (.returned (.tuple #[(.slice none 0 0),(.int .i64 n15)])) w7)) ∧
 ((n15=0 →
 R (.returned (.tuple #[(.slice o12 l13 l14),(.int .i64 0)])) w7)))))))))))))
theorem moraineref16_Prove.vc (o0:Option Addr) (l0:Nat) (c0:Nat) (L1:Array Value) (o2:Option Addr) (l2:Nat) (c2:Nat) (w:World) (R:Ending→World→Prop) (h:moraineref16_Prove.Vc o0 l0 c0 L1 o2 l2 c2 w R):Calls Tryz.prog 9 #[(.slice o0 l0 c0),(.agg L1),(.slice o2 l2 c2)] w R :=
 execF_sound (R:=⟨R,false⟩) (ann:=[]) (args:=[.slice o0 l0 c0,.big 32 L1,.slice o2 l2 c2]) Tryz.func9 mixed (Eq.mp (by kernel_rfl:moraineref16_Prove.Vc o0 l0 c0 L1 o2 l2 c2 w R=execF (pA Tryz.prog ⟨R,false⟩) Tryz.prog [] Tryz.f9 [.slice o0 l0 c0,.big 32 L1,.slice o2 l2 c2] w) h)

abbrev moraineref16_Verify.n:Nat:=26
def moraineref16_Verify.Vc (L0:Array Value) (o1:Option Addr) (l1 c1:Nat) (o2:Option Addr) (l2 c2:Nat) (w:World) (R:Ending→World→Prop):Prop :=
 ∀d3 w4,IsNew w 27 L0 d3 w4 →
 (((((l2:Nat):Int) > 256 →
 R (.returned (.tuple #[(.slice none 0 0),(.bool false),(.int .i64 162)])) w4)) ∧
 ((¬((l2:Nat):Int) > 256 →
 (((((l1:Nat):Int) > 64 →
 R (.returned (.tuple #[(.slice none 0 0),(.bool false),(.int .i64 140)])) w4)) ∧
 ((¬((l1:Nat):Int) > 64 →
 ∀w5,IsDrew w4 w5 →
 ∃L6,RowAt w5 d3 32 L6 ∧
 Calls Tryz.prog 40 #[] w5 (fun e7 w8 =>
 ∃L9,e7=.returned (.agg L9) ∧
 RowAt w8 d3 32 L6 ∧
 ∃v10,Sem.run Tryz.prog (semBin .eql 27 (.tmp 23) (.tmp 24) (.agg L6) (.agg L9)) w8=.ok v10 w8 ∧
 ∃b11,v10=(.bool b11) ∧
 (((b11=true →
 (((((l2:Nat):Int) > 0 →
 R (.returned (.tuple #[(.slice none 0 0),(.bool false),(.int .i64 162)])) w8)) ∧
 ((¬((l2:Nat):Int) > 0 →
 R (.returned (.tuple #[(.slice none 0 0),(.bool false),(.int .i64 0)])) w8))))) ∧
 ((b11=false →
 Calls Tryz.prog 54 #[(.slice o1 l1 c1)] w8 (fun e12 w13 =>
 ∃o14 l15 l16,e12=.returned (.slice o14 l15 l16) ∧
 ∃L17,RowAt w13 d3 32 L17 ∧
 ∀d18 w19,IsNew w13 27 (Array.replicate 32 (.int .u8 0)) d18 w19 →
 ∃w20,Sem.run Tryz.prog (Instr.storeAt 27 (.pointer (some d18)) (.agg L17)) w19=.ok () w20 ∧
 ∃(I21:Option Addr→Nat→Nat→Int→World→Prop) (μ21:Option Addr→Nat→Nat→Int→World→Nat),I21 o14 l15 l16 0 w20 ∧
 (∀(o22:Option Addr) (l22:Nat) (c22:Nat) (n23:Int) (j24:Nat→Value) (w24:World),I21 o22 l22 c22 n23 w24 →
 (((n23=((l2:Nat):Int) →
 R (.returned (.tuple #[(.slice none 0 0),(.bool false),(.int .i64 160)])) w24)) ∧
 ((n23≠((l2:Nat):Int) →
 ∀w25,IsDrew w24 w25 →
 ∃d26,o2=some d26 ∧
 ((0:Int)≤n23∧n23 < ((l2:Nat):Int)) ∧
 ∃o27 l28 l29,World.cell? w25 (Addr.add d26 (Int.toNat n23))=some (.slice o27 l28 l29) ∧
 ∃L30,RowAt w25 d18 32 L30 ∧
 Calls Tryz.prog 56 #[(.slice o27 l28 l29)] w25 (fun e31 w32 =>
 ∃L33,e31=.returned (.agg L33) ∧
 RowAt w32 d18 32 L30 ∧
 ∃v34,Sem.run Tryz.prog (semBin .neq 27 (.tmp 42) (.tmp 43) (.agg L33) (.agg L30)) w32=.ok v34 w32 ∧
 ∃b35,v34=(.bool b35) ∧
 (((b35=true →
 R (.returned (.tuple #[(.slice none 0 0),(.bool false),(.int .i64 163)])) w32)) ∧
 ((b35=false →
 ∃d36,o2=some d36 ∧
 ((0:Int)≤n23∧n23 < ((l2:Nat):Int)) ∧
 ∃o37 l38 l39,World.cell? w32 (Addr.add d36 (Int.toNat n23))=some (.slice o37 l38 l39) ∧
 Calls Tryz.prog 59 #[(.slice o37 l38 l39)] w32 (fun e40 w41 =>
 ∃n42,e40=.returned (.int .i64 n42) ∧
 (((n42≠0 →
 R (.returned (.tuple #[(.slice none 0 0),(.bool false),(.int .i64 161)])) w41)) ∧
 ((n42=0 →
 ∃d43,o2=some d43 ∧
 ((0:Int)≤n23∧n23 < ((l2:Nat):Int)) ∧
 ∃o44 l45 l46,World.cell? w41 (Addr.add d43 (Int.toNat n23))=some (.slice o44 l45 l46) ∧
 Calls Tryz.prog 60 #[(.slice o44 l45 l46)] w41 (fun e47 w48 =>
 ∃b49 o50 l51 l52 o53 l54 l55 n56,e47=.returned (.tuple #[(.agg #[(.bool b49),(.slice o50 l51 l52),(.slice o53 l54 l55)]),(.int .i64 n56)]) ∧
 ∀d57 w58,IsNew w48 111 #[(.bool false),(.slice none 0 0),(.slice none 0 0)] d57 w58 →
 CanSet w58 d57 (.bool b49)∧∀w59,IsSet w58 d57 (.bool b49) w59 →
 CanSet w59 (Addr.add d57 1) (.slice o50 l51 l52)∧∀w60,IsSet w59 (Addr.add d57 1) (.slice o50 l51 l52) w60 →
 CanSet w60 (Addr.add d57 2) (.slice o53 l54 l55)∧∀w61,IsSet w60 (Addr.add d57 2) (.slice o53 l54 l55) w61 →
 ∃b62 o63 l64 l65 o66 l67 l68,World.cell? w61 d57=some (.bool b62) ∧
 World.cell? w61 (Addr.add d57 1)=some (.slice o63 l64 l65) ∧
 World.cell? w61 (Addr.add d57 2)=some (.slice o66 l67 l68) ∧
 Calls Tryz.prog 61 #[(.agg #[(.bool b62),(.slice o63 l64 l65),(.slice o66 l67 l68)]),(.slice o22 l22 c22)] w61 (fun e69 w70 =>
 ∃o71 l72 l73 o74 l75 l76 b77 o78 l79 l80 o81 l82 l83,e69=.returned (.tuple #[(.slice o71 l72 l73),(.slice o74 l75 l76),(.agg #[(.bool b77),(.slice o78 l79 l80),(.slice o81 l82 l83)])]) ∧
 ∀d84 w85,IsNew w70 111 #[(.bool false),(.slice none 0 0),(.slice none 0 0)] d84 w85 →
 CanSet w85 d84 (.bool b77)∧∀w86,IsSet w85 d84 (.bool b77) w86 →
 CanSet w86 (Addr.add d84 1) (.slice o78 l79 l80)∧∀w87,IsSet w86 (Addr.add d84 1) (.slice o78 l79 l80) w87 →
 CanSet w87 (Addr.add d84 2) (.slice o81 l82 l83)∧∀w88,IsSet w87 (Addr.add d84 2) (.slice o81 l82 l83) w88 →
 ∃(J89:Bool→World→Prop),(∃b90,World.cell? w88 d84=some (.bool b90) ∧
 (((b90=true →
 J89 true w88)) ∧
 ((b90=false →
 ∃o91 l92 l93,World.cell? w88 (Addr.add d84 1)=some (.slice o91 l92 l93) ∧
 J89 (decide (((l92:Nat):Int)=0)) w88)))) ∧
 (∀(b94:Bool) (j95:Nat→Value) (w95:World),J89 b94 w95 →
 (((b94=true →
 ((((IntKind.wrap .i64 (n23+1)) < ((l2:Nat):Int) →
 R (.returned (.tuple #[(.slice none 0 0),(.bool false),(.int .i64 162)])) w95)) ∧
 ((¬(IntKind.wrap .i64 (n23+1)) < ((l2:Nat):Int) →
 R (.returned (.tuple #[(.slice o71 l72 l73),(.bool (decide (((l72:Nat):Int) > 0))),(.int .i64 0)])) w95))))) ∧
 ((b94=false →
 ∀w96,IsDrew w95 w96 →
 ∃o97 l98 l99,World.cell? w96 (Addr.add d84 1)=some (.slice o97 l98 l99) ∧
 ∃v100 w101,Sem.run Tryz.prog (builtinV .copy #[23,23] 3 #[(.slice (some d18) 32 32),(.slice o97 l98 l99)]) w96=.ok v100 w101 ∧
 ∃n102,v100=(.int .i64 n102) ∧
 I21 o74 l75 l76 (IntKind.wrap .i64 (n23+1)) w101∧μ21 o74 l75 l76 (IntKind.wrap .i64 (n23+1)) w101 < μ21 o22 l22 c22 n23 w24)))))))))))))))))))))))))))))
theorem moraineref16_Verify.vc (L0:Array Value) (o1:Option Addr) (l1:Nat) (c1:Nat) (o2:Option Addr) (l2:Nat) (c2:Nat) (w:World) (R:Ending→World→Prop) (h:moraineref16_Verify.Vc L0 o1 l1 c1 o2 l2 c2 w R):Calls Tryz.prog 26 #[(.agg L0),(.slice o1 l1 c1),(.slice o2 l2 c2)] w R :=
 execF_sound (R:=⟨R,false⟩) (ann:=[(13,[(9,.cell (.slice)),(11,.cell (.int .i64))]),(1000022,[(73,.cell (.bool))])]) (args:=[.big 32 L0,.slice o1 l1 c1,.slice o2 l2 c2]) Tryz.func26 mixed (Eq.mp (by kernel_rfl:moraineref16_Verify.Vc L0 o1 l1 c1 o2 l2 c2 w R=execF (pA Tryz.prog ⟨R,false⟩) Tryz.prog [(13,[(9,.cell (.slice)),(11,.cell (.int .i64))]),(1000022,[(73,.cell (.bool))])] Tryz.f26 [.big 32 L0,.slice o1 l1 c1,.slice o2 l2 c2] w) h)

abbrev morainehelp_Lists.n:Nat:=28
def morainehelp_Lists.Vc (o0:Option Addr) (l0 c0:Nat) (o1:Option Addr) (l1 c1:Nat) (w:World) (R:Ending→World→Prop):Prop :=
 (((((l0:Nat):Int)≠((l1:Nat):Int) →
 R (.returned (.bool false)) w)) ∧
 ((((l0:Nat):Int)=((l1:Nat):Int) →
 ∃(I2:Int→World→Prop) (μ2:Int→World→Nat),I2 0 w ∧
 (∀(n3:Int) (j4:Nat→Value) (w4:World),I2 n3 w4 →
 (((n3 < ((l0:Nat):Int) →
 ∀w5,IsDrew w4 w5 →
 ∃d6,o0=some d6 ∧
 ((0:Int)≤n3∧n3 < ((l0:Nat):Int)) ∧
 ∃o7 l8 l9,World.cell? w5 (Addr.add d6 (Int.toNat n3))=some (.slice o7 l8 l9) ∧
 ∃v10,Sem.run Tryz.prog (convert 23 9 (.slice o7 l8 l9)) w5=.ok v10 w5 ∧
 ∃s11,v10=(.string s11) ∧
 ∃d12,o1=some d12 ∧
 ((0:Int)≤n3∧n3 < ((l1:Nat):Int)) ∧
 ∃o13 l14 l15,World.cell? w5 (Addr.add d12 (Int.toNat n3))=some (.slice o13 l14 l15) ∧
 ∃v16,Sem.run Tryz.prog (convert 23 9 (.slice o13 l14 l15)) w5=.ok v16 w5 ∧
 ∃s17,v16=(.string s17) ∧
 (((strB .neq s11 s17=true →
 R (.returned (.bool false)) w5)) ∧
 ((strB .neq s11 s17=false →
 I2 (IntKind.wrap .i64 (n3+1)) w5∧μ2 (IntKind.wrap .i64 (n3+1)) w5 < μ2 n3 w4))))) ∧
 ((¬n3 < ((l0:Nat):Int) →
 R (.returned (.bool true)) w4)))))))
theorem morainehelp_Lists.vc (o0:Option Addr) (l0:Nat) (c0:Nat) (o1:Option Addr) (l1:Nat) (c1:Nat) (w:World) (R:Ending→World→Prop) (h:morainehelp_Lists.Vc o0 l0 c0 o1 l1 c1 w R):Calls Tryz.prog 28 #[(.slice o0 l0 c0),(.slice o1 l1 c1)] w R :=
 execF_sound (R:=⟨R,false⟩) (ann:=[(4,[(5,.cell (.int .i64))])]) (args:=[.slice o0 l0 c0,.slice o1 l1 c1]) Tryz.func28 mixed (Eq.mp (by kernel_rfl:morainehelp_Lists.Vc o0 l0 c0 o1 l1 c1 w R=execF (pA Tryz.prog ⟨R,false⟩) Tryz.prog [(4,[(5,.cell (.int .i64))])] Tryz.f28 [.slice o0 l0 c0,.slice o1 l1 c1] w) h)

abbrev morainehelp_CopyLists.n:Nat:=11
def morainehelp_CopyLists.Vc (o0:Option Addr) (l0 c0:Nat) (w:World) (R:Ending→World→Prop):Prop :=
 ∃(I1:Option Addr→Nat→Nat→Int→World→Prop) (μ1:Option Addr→Nat→Nat→Int→World→Nat),I1 none 0 0 0 w ∧
 (∀(o2:Option Addr) (l2:Nat) (c2:Nat) (n3:Int) (j4:Nat→Value) (w4:World),I1 o2 l2 c2 n3 w4 →
 (((n3 < ((l0:Nat):Int) →
 ∃d5,o0=some d5 ∧
 ((0:Int)≤n3∧n3 < ((l0:Nat):Int)) ∧
 ∃o6 l7 l8,World.cell? w4 (Addr.add d5 (Int.toNat n3))=some (.slice o6 l7 l8) ∧
 ∃v9 w10,Sem.run Tryz.prog (builtinV .append #[23,23] 23 #[(.slice none 0 0),(.slice o6 l7 l8)]) w4=.ok v9 w10 ∧
 ∃o11 l12 l13,v9=(.slice o11 l12 l13) ∧
 ∀d14 w15,IsNew w10 23 #[(.slice o11 l12 l13)] d14 w15 →
 ∃v16 w17,Sem.run Tryz.prog (builtinV .append #[31,31] 31 #[(.slice o2 l2 c2),(.slice (some d14) 1 1)]) w15=.ok v16 w17 ∧
 ∃o18 l19 l20,v16=(.slice o18 l19 l20) ∧
 I1 o18 l19 l20 (IntKind.wrap .i64 (n3+1)) w17∧μ1 o18 l19 l20 (IntKind.wrap .i64 (n3+1)) w17 < μ1 o2 l2 c2 n3 w4)) ∧
 ((¬n3 < ((l0:Nat):Int) →
 R (.returned (.slice o2 l2 c2)) w4))))
theorem morainehelp_CopyLists.vc (o0:Option Addr) (l0:Nat) (c0:Nat) (w:World) (R:Ending→World→Prop) (h:morainehelp_CopyLists.Vc o0 l0 c0 w R):Calls Tryz.prog 11 #[(.slice o0 l0 c0)] w R :=
 execF_sound (R:=⟨R,false⟩) (ann:=[(3,[(3,.cell (.slice)),(4,.cell (.int .i64))])]) (args:=[.slice o0 l0 c0]) Tryz.func11 mixed (Eq.mp (by kernel_rfl:morainehelp_CopyLists.Vc o0 l0 c0 w R=execF (pA Tryz.prog ⟨R,false⟩) Tryz.prog [(3,[(3,.cell (.slice)),(4,.cell (.int .i64))])] Tryz.f11 [.slice o0 l0 c0] w) h)

end Go.Proofs.YtfghidehlnfdiaaGreat
end
section
namespace Go.Proofs.YtfghidehlnfdiaaGreat
open Go Go.Vcg
abbrev morainelaw16_known.n:Nat:=6
def morainelaw16_known.Vc  (w:World) (R:Ending→World→Prop):Prop :=
 ∀d0 w1,IsNew w 5 #[(.int .u8 97)] d0 w1 →
 ∃v2 w3,Sem.run Tryz.prog (convert 23 23 (.slice (some d0) 1 1)) w1=.ok v2 w3 ∧
 ∃o4 l5 l6,v2=(.slice o4 l5 l6) ∧
 ∀d7 w8,IsNew w3 5 #[(.int .u8 49)] d7 w8 →
 ∃v9 w10,Sem.run Tryz.prog (convert 23 23 (.slice (some d7) 1 1)) w8=.ok v9 w10 ∧
 ∃o11 l12 l13,v9=(.slice o11 l12 l13) ∧
 ∀d14 w15,IsNew w10 53 #[(.slice o4 l5 l6),(.slice o11 l12 l13)] d14 w15 →
 Calls Tryz.prog 8 #[(.slice (some d14) 1 1)] w15 (fun e16 w17 =>
 ∃L18 o19 l20 l21,e16=.returned (.tuple #[(.agg L18),(.slice o19 l20 l21)]) ∧
 ∀d22 w23,IsNew w17 27 (Array.replicate 32 (.int .u8 0)) d22 w23 →
 ∃w24,Sem.run Tryz.prog (Instr.storeAt 27 (.pointer (some d22)) (.agg L18)) w23=.ok () w24 ∧
 ∀w25,IsDrew w24 w25 →
 ∃L26,RowAt w25 d22 32 L26 ∧
 ((Calls Tryz.prog 10 #[(.slice o19 l20 l21)] w25 (fun e27 w28 =>
 ∃o29 l30 l31,e27=.returned (.slice o29 l30 l31) ∧
 RowAt w28 d22 32 L26 ∧
 ∀d32 w33,IsNew w28 5 #[(.int .u8 97)] d32 w33 →
 RowAt w33 d22 32 L26 ∧
 ∃v34 w35,Sem.run Tryz.prog (convert 23 23 (.slice (some d32) 1 1)) w33=.ok v34 w35 ∧
 ∃o36 l37 l38,v34=(.slice o36 l37 l38) ∧
 RowAt w35 d22 32 L26 ∧
 Calls Tryz.prog 21 #[(.slice o29 l30 l31),(.agg L26),(.slice o36 l37 l38)] w35 (fun e39 w40 =>
 ∃o41 l42 l43 n44,e39=.returned (.tuple #[(.slice o41 l42 l43),(.int .i64 n44)]) ∧
 ∃L45,RowAt w40 d22 32 L45 ∧
 ∀d46 w47,IsNew w40 5 #[(.int .u8 97)] d46 w47 →
 ∃v48 w49,Sem.run Tryz.prog (convert 23 23 (.slice (some d46) 1 1)) w47=.ok v48 w49 ∧
 ∃o50 l51 l52,v48=(.slice o50 l51 l52) ∧
 Calls Tryz.prog 22 #[(.agg L45),(.slice o50 l51 l52),(.slice o41 l42 l43)] w49 (fun e53 w54 =>
 ∃o55 l56 l57 b58 n59,e53=.returned (.tuple #[(.slice o55 l56 l57),(.bool b58),(.int .i64 n59)]) ∧
 ∃L60,RowAt w54 d22 32 L60 ∧
 ∀d61 w62,IsNew w54 5 #[(.int .u8 98)] d61 w62 →
 ∃v63 w64,Sem.run Tryz.prog (convert 23 23 (.slice (some d61) 1 1)) w62=.ok v63 w64 ∧
 ∃o65 l66 l67,v63=(.slice o65 l66 l67) ∧
 Calls Tryz.prog 22 #[(.agg L60),(.slice o65 l66 l67),(.slice o41 l42 l43)] w64 (fun e68 w69 =>
 ∃o70 l71 l72 b73 n74,e68=.returned (.tuple #[(.slice o70 l71 l72),(.bool b73),(.int .i64 n74)]) ∧
 (((n44=0 →
 (((n59=0 →
 (((n74=0 →
 (((b58=true →
 (((b73=false →
 (((((l42:Nat):Int)=1 →
 ∃v75,Sem.run Tryz.prog (convert 23 9 (.slice o55 l56 l57)) w69=.ok v75 w69 ∧
 ∃s76,v75=(.string s76) ∧
 R (.returned (.bool (strB .eql s76 ⟨#[49]⟩))) w69)) ∧
 ((((l42:Nat):Int)≠1 →
 R (.returned (.bool false)) w69))))) ∧
 ((b73=true →
 R (.returned (.bool false)) w69))))) ∧
 ((b58=false →
 R (.returned (.bool false)) w69))))) ∧
 ((n74≠0 →
 R (.returned (.bool false)) w69))))) ∧
 ((n59≠0 →
 R (.returned (.bool false)) w69))))) ∧
 ((n44≠0 →
 R (.returned (.bool false)) w69)))))))) ∧
 (∀d77 w78,IsNew w25 5 #[(.int .u8 97)] d77 w78 →
 RowAt w78 d22 32 L26 ∧
 ((Calls Tryz.prog 10 #[(.slice o19 l20 l21)] w78 (fun e79 w80 =>
 ∃o81 l82 l83,e79=.returned (.slice o81 l82 l83) ∧
 RowAt w80 d22 32 L26 ∧
 ∃v84 w85,Sem.run Tryz.prog (convert 23 23 (.slice (some d77) 1 1)) w80=.ok v84 w85 ∧
 ∃o86 l87 l88,v84=(.slice o86 l87 l88) ∧
 RowAt w85 d22 32 L26 ∧
 Calls Tryz.prog 21 #[(.slice o81 l82 l83),(.agg L26),(.slice o86 l87 l88)] w85 (fun e89 w90 =>
 ∃o91 l92 l93 n94,e89=.returned (.tuple #[(.slice o91 l92 l93),(.int .i64 n94)]) ∧
 ∃L95,RowAt w90 d22 32 L95 ∧
 ∀d96 w97,IsNew w90 5 #[(.int .u8 97)] d96 w97 →
 ∃v98 w99,Sem.run Tryz.prog (convert 23 23 (.slice (some d96) 1 1)) w97=.ok v98 w99 ∧
 ∃o100 l101 l102,v98=(.slice o100 l101 l102) ∧
 Calls Tryz.prog 22 #[(.agg L95),(.slice o100 l101 l102),(.slice o91 l92 l93)] w99 (fun e103 w104 =>
 ∃o105 l106 l107 b108 n109,e103=.returned (.tuple #[(.slice o105 l106 l107),(.bool b108),(.int .i64 n109)]) ∧
 ∃L110,RowAt w104 d22 32 L110 ∧
 ∀d111 w112,IsNew w104 5 #[(.int .u8 98)] d111 w112 →
 ∃v113 w114,Sem.run Tryz.prog (convert 23 23 (.slice (some d111) 1 1)) w112=.ok v113 w114 ∧
 ∃o115 l116 l117,v113=(.slice o115 l116 l117) ∧
 Calls Tryz.prog 22 #[(.agg L110),(.slice o115 l116 l117),(.slice o91 l92 l93)] w114 (fun e118 w119 =>
 ∃o120 l121 l122 b123 n124,e118=.returned (.tuple #[(.slice o120 l121 l122),(.bool b123),(.int .i64 n124)]) ∧
 (((n94=0 →
 (((n109=0 →
 (((n124=0 →
 (((b108=true →
 (((b123=false →
 (((((l92:Nat):Int)=1 →
 ∃v125,Sem.run Tryz.prog (convert 23 9 (.slice o105 l106 l107)) w119=.ok v125 w119 ∧
 ∃s126,v125=(.string s126) ∧
 R (.returned (.bool (strB .eql s126 ⟨#[49]⟩))) w119)) ∧
 ((((l92:Nat):Int)≠1 →
 R (.returned (.bool false)) w119))))) ∧
 ((b123=true →
 R (.returned (.bool false)) w119))))) ∧
 ((b108=false →
 R (.returned (.bool false)) w119))))) ∧
 ((n124≠0 →
 R (.returned (.bool false)) w119))))) ∧
 ((n109≠0 →
 R (.returned (.bool false)) w119))))) ∧
 ((n94≠0 →
 R (.returned (.bool false)) w119)))))))) ∧
 (∃v127 w128,Sem.run Tryz.prog (convert 23 23 (.slice (some d77) 1 1)) w78=.ok v127 w128 ∧
 ∃o129 l130 l131,v127=(.slice o129 l130 l131) ∧
 RowAt w128 d22 32 L26 ∧
 Calls Tryz.prog 10 #[(.slice o19 l20 l21)] w128 (fun e132 w133 =>
 ∃o134 l135 l136,e132=.returned (.slice o134 l135 l136) ∧
 RowAt w133 d22 32 L26 ∧
 Calls Tryz.prog 21 #[(.slice o134 l135 l136),(.agg L26),(.slice o129 l130 l131)] w133 (fun e137 w138 =>
 ∃o139 l140 l141 n142,e137=.returned (.tuple #[(.slice o139 l140 l141),(.int .i64 n142)]) ∧
 ∃L143,RowAt w138 d22 32 L143 ∧
 ∀d144 w145,IsNew w138 5 #[(.int .u8 97)] d144 w145 →
 ∃v146 w147,Sem.run Tryz.prog (convert 23 23 (.slice (some d144) 1 1)) w145=.ok v146 w147 ∧
 ∃o148 l149 l150,v146=(.slice o148 l149 l150) ∧
 Calls Tryz.prog 22 #[(.agg L143),(.slice o148 l149 l150),(.slice o139 l140 l141)] w147 (fun e151 w152 =>
 ∃o153 l154 l155 b156 n157,e151=.returned (.tuple #[(.slice o153 l154 l155),(.bool b156),(.int .i64 n157)]) ∧
 ∃L158,RowAt w152 d22 32 L158 ∧
 ∀d159 w160,IsNew w152 5 #[(.int .u8 98)] d159 w160 →
 ∃v161 w162,Sem.run Tryz.prog (convert 23 23 (.slice (some d159) 1 1)) w160=.ok v161 w162 ∧
 ∃o163 l164 l165,v161=(.slice o163 l164 l165) ∧
 Calls Tryz.prog 22 #[(.agg L158),(.slice o163 l164 l165),(.slice o139 l140 l141)] w162 (fun e166 w167 =>
 ∃o168 l169 l170 b171 n172,e166=.returned (.tuple #[(.slice o168 l169 l170),(.bool b171),(.int .i64 n172)]) ∧
 (((n142=0 →
 (((n157=0 →
 (((n172=0 →
 (((b156=true →
 (((b171=false →
 (((((l140:Nat):Int)=1 →
 ∃v173,Sem.run Tryz.prog (convert 23 9 (.slice o153 l154 l155)) w167=.ok v173 w167 ∧
 ∃s174,v173=(.string s174) ∧
 R (.returned (.bool (strB .eql s174 ⟨#[49]⟩))) w167)) ∧
 ((((l140:Nat):Int)≠1 →
 R (.returned (.bool false)) w167))))) ∧
 ((b171=true →
 R (.returned (.bool false)) w167))))) ∧
 ((b156=false →
 R (.returned (.bool false)) w167))))) ∧
 ((n172≠0 →
 R (.returned (.bool false)) w167))))) ∧
 ((n157≠0 →
 R (.returned (.bool false)) w167))))) ∧
 ((n142≠0 →
 R (.returned (.bool false)) w167))))))))))))
theorem morainelaw16_known.vc  (w:World) (R:Ending→World→Prop) (h:morainelaw16_known.Vc w R):Calls Tryz.prog 6 #[] w R :=
 execF_sound (R:=⟨R,false⟩) (ann:=[]) (args:=[]) Tryz.func6 mixed (Eq.mp (by kernel_rfl:morainelaw16_known.Vc w R=execF (pA Tryz.prog ⟨R,false⟩) Tryz.prog [] Tryz.f6 [] w) h)

abbrev morainelaw16_few.n:Nat:=7
def morainelaw16_few.Vc (o0:Option Addr) (l0 c0:Nat) (w:World) (R:Ending→World→Prop):Prop :=
 (((((l0:Nat):Int) > 40 →
 R (.returned (.bool false)) w)) ∧
 ((¬((l0:Nat):Int) > 40 →
 ∃(I1:Int→World→Prop) (μ1:Int→World→Nat),I1 0 w ∧
 (∀(n2:Int) (j3:Nat→Value) (w3:World),I1 n2 w3 →
 (((n2 < ((l0:Nat):Int) →
 ∀w4,IsDrew w3 w4 →
 ∃d5,o0=some d5 ∧
 ((0:Int)≤n2∧n2 < ((l0:Nat):Int)) ∧
 ∃o6 l7 l8,World.cell? w4 (Addr.add d5 ((Int.toNat n2) * 2))=some (.slice o6 l7 l8) ∧
 (((((l7:Nat):Int) > 64 →
 R (.returned (.bool false)) w4)) ∧
 ((¬((l7:Nat):Int) > 64 →
 ∃d9,o0=some d9 ∧
 ((0:Int)≤n2∧n2 < ((l0:Nat):Int)) ∧
 ∃o10 l11 l12,World.cell? w4 (Addr.add (Addr.add d9 ((Int.toNat n2) * 2)) 1)=some (.slice o10 l11 l12) ∧
 (((((l11:Nat):Int) < 1 →
 R (.returned (.bool false)) w4)) ∧
 ((¬((l11:Nat):Int) < 1 →
 ∃d13,o0=some d13 ∧
 ((0:Int)≤n2∧n2 < ((l0:Nat):Int)) ∧
 ∃o14 l15 l16,World.cell? w4 (Addr.add (Addr.add d13 ((Int.toNat n2) * 2)) 1)=some (.slice o14 l15 l16) ∧
 (((((l15:Nat):Int) > 300 →
 R (.returned (.bool false)) w4)) ∧
 ((¬((l15:Nat):Int) > 300 →
 (((n2 > 0 →
 ∃d17,o0=some d17 ∧
 ((0:Int)≤(IntKind.wrap .i64 (n2 - 1))∧(IntKind.wrap .i64 (n2 - 1)) < ((l0:Nat):Int)) ∧
 ∃o18 l19 l20,World.cell? w4 (Addr.add d17 ((Int.toNat (IntKind.wrap .i64 (n2 - 1))) * 2))=some (.slice o18 l19 l20) ∧
 ∃d21,o0=some d21 ∧
 ((0:Int)≤n2∧n2 < ((l0:Nat):Int)) ∧
 ∃o22 l23 l24,World.cell? w4 (Addr.add d21 ((Int.toNat n2) * 2))=some (.slice o22 l23 l24) ∧
 Calls Tryz.prog 23 #[(.slice o18 l19 l20),(.slice o22 l23 l24)] w4 (fun e25 w26 =>
 ∃n27,e25=.returned (.int .i64 n27) ∧
 (((n27≥0 →
 R (.returned (.bool false)) w26)) ∧
 ((¬n27≥0 →
 I1 (IntKind.wrap .i64 (n2+1)) w26∧μ1 (IntKind.wrap .i64 (n2+1)) w26 < μ1 n2 w3)))))) ∧
 ((¬n2 > 0 →
 I1 (IntKind.wrap .i64 (n2+1)) w4∧μ1 (IntKind.wrap .i64 (n2+1)) w4 < μ1 n2 w3)))))))))))))) ∧
 ((¬n2 < ((l0:Nat):Int) →
 R (.returned (.bool true)) w3)))))))
theorem morainelaw16_few.vc (o0:Option Addr) (l0:Nat) (c0:Nat) (w:World) (R:Ending→World→Prop) (h:morainelaw16_few.Vc o0 l0 c0 w R):Calls Tryz.prog 7 #[(.slice o0 l0 c0)] w R :=
 execF_sound (R:=⟨R,false⟩) (ann:=[(4,[(3,.cell (.int .i64))])]) (args:=[.slice o0 l0 c0]) Tryz.func7 mixed (Eq.mp (by kernel_rfl:morainelaw16_few.Vc o0 l0 c0 w R=execF (pA Tryz.prog ⟨R,false⟩) Tryz.prog [(4,[(3,.cell (.int .i64))])] Tryz.f7 [.slice o0 l0 c0] w) h)


abbrev morainelaw16_ProofTakes.n:Nat:=12
def morainelaw16_ProofTakes.Vc (L0:Array Value) (o1:Option Addr) (l1 c1:Nat) (o2:Option Addr) (l2 c2:Nat) (w:World) (R:Ending→World→Prop):Prop :=
 ∀d3 w4,IsNew w 27 L0 d3 w4 →
 Calls Tryz.prog 6 #[] w4 (fun e5 w6 =>
 ∃b7,e5=.returned (.bool b7) ∧
 (((b7=false →
 R (.returned (.bool false)) w6)) ∧
 ((b7=true →
 (((((l2:Nat):Int) > 300 →
 R (.returned (.bool true)) w6)) ∧
 ((¬((l2:Nat):Int) > 300 →
 ∃(I8:Int→World→Prop) (μ8:Int→World→Nat),I8 0 w6 ∧
 (∀(n9:Int) (j10:Nat→Value) (w10:World),I8 n9 w10 →
 (((n9 < ((l2:Nat):Int) →
 ∃d11,o2=some d11 ∧
 ((0:Int)≤n9∧n9 < ((l2:Nat):Int)) ∧
 ∃o12 l13 l14,World.cell? w10 (Addr.add d11 (Int.toNat n9))=some (.slice o12 l13 l14) ∧
 (((((l13:Nat):Int) > 3000 →
 R (.returned (.bool true)) w10)) ∧
 ((¬((l13:Nat):Int) > 3000 →
 I8 (IntKind.wrap .i64 (n9+1)) w10∧μ8 (IntKind.wrap .i64 (n9+1)) w10 < μ8 n9 w10))))) ∧
 ((¬n9 < ((l2:Nat):Int) →
 Calls Tryz.prog 11 #[(.slice o2 l2 c2)] w10 (fun e15 w16 =>
 ∃o17 l18 l19,e15=.returned (.slice o17 l18 l19) ∧
 ∃L20,RowAt w16 d3 32 L20 ∧
 Calls Tryz.prog 22 #[(.agg L20),(.slice o1 l1 c1),(.slice o17 l18 l19)] w16 (fun e21 w22 =>
 ∃o23 l24 l25 b26 n27,e21=.returned (.tuple #[(.slice o23 l24 l25),(.bool b26),(.int .i64 n27)]) ∧
 ∃L28,RowAt w22 d3 32 L28 ∧
 Calls Tryz.prog 26 #[(.agg L28),(.slice o1 l1 c1),(.slice o2 l2 c2)] w22 (fun e29 w30 =>
 ∃o31 l32 l33 b34 n35,e29=.returned (.tuple #[(.slice o31 l32 l33),(.bool b34),(.int .i64 n35)]) ∧
 (((n27=n35 →
 ∃v36,Sem.run Tryz.prog (semBin .eql 4 (.tmp 54) (.tmp 55) (.bool b26) (.bool b34)) w30=.ok v36 w30 ∧
 ∃b37,v36=(.bool b37) ∧
 (((b37=true →
 Calls Tryz.prog 27 #[(.slice o23 l24 l25),(.slice o31 l32 l33)] w30 (fun e38 w39 =>
 ∃b40,e38=.returned (.bool b40) ∧
 (((b40=true →
 Calls Tryz.prog 28 #[(.slice o17 l18 l19),(.slice o2 l2 c2)] w39 (fun e41 w42 =>
 ∃b43,e41=.returned (.bool b43) ∧
 R (.returned (.bool b43)) w42))) ∧
 ((b40=false →
 R (.returned (.bool false)) w39)))))) ∧
 ((b37=false →
 R (.returned (.bool false)) w30))))) ∧
 ((n27≠n35 →
 R (.returned (.bool false)) w30)))))))))))))))))
theorem morainelaw16_ProofTakes.vc (L0:Array Value) (o1:Option Addr) (l1:Nat) (c1:Nat) (o2:Option Addr) (l2:Nat) (c2:Nat) (w:World) (R:Ending→World→Prop) (h:morainelaw16_ProofTakes.Vc L0 o1 l1 c1 o2 l2 c2 w R):Calls Tryz.prog 12 #[(.agg L0),(.slice o1 l1 c1),(.slice o2 l2 c2)] w R :=
 execF_sound (R:=⟨R,false⟩) (ann:=[(6,[(7,.cell (.int .i64))])]) (args:=[.big 32 L0,.slice o1 l1 c1,.slice o2 l2 c2]) Tryz.func12 mixed (Eq.mp (by kernel_rfl:morainelaw16_ProofTakes.Vc L0 o1 l1 c1 o2 l2 c2 w R=execF (pA Tryz.prog ⟨R,false⟩) Tryz.prog [(6,[(7,.cell (.int .i64))])] Tryz.f12 [.big 32 L0,.slice o1 l1 c1,.slice o2 l2 c2] w) h)

end Go.Proofs.YtfghidehlnfdiaaGreat
end
