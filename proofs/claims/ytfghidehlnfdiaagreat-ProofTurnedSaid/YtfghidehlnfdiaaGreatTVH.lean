/- The verification conditions of some functions, printed by a program of ours (wip/PrintVc.lean). -/
/- Contracts: the reference's decoder (moraineref4). -/
/- Contracts: moraineref4.First, Decode. -/
/- Contracts: moraineref4.Of. What an item is: plain Lean. -/
import Derived.Test.YtfghidehlnfdiaaGreatDD4
import Derived.Test.YtfghidehlnfdiaaGreatProg
import Derived.KernelRfl
set_option linter.unusedVariables false
set_option linter.unusedSimpArgs false
section
namespace Go.Proofs.YtfghidehlnfdiaaGreat
open Go Go.Vcg
abbrev moraineref4_Decode.n:Nat:=60
def moraineref4_Decode.Vc (o0:Option Addr) (l0 c0:Nat) (w:World) (R:Ending→World→Prop):Prop :=
 ∀d1 w2,IsNew w 111 #[(.bool false),(.slice none 0 0),(.slice none 0 0)] d1 w2 →
 Calls Tryz.prog 94 #[(.slice o0 l0 c0)] w2 (fun e3 w4 =>
 ∃b5 o6 l7 l8 o9 l10 l11 n12 n13,e3=.returned (.tuple #[(.agg #[(.bool b5),(.slice o6 l7 l8),(.slice o9 l10 l11)]),(.int .i64 n12),(.int .i64 n13)]) ∧
 ∀d14 w15,IsNew w4 111 #[(.bool false),(.slice none 0 0),(.slice none 0 0)] d14 w15 →
 CanSet w15 d14 (.bool b5)∧∀w16,IsSet w15 d14 (.bool b5) w16 →
 CanSet w16 (Addr.add d14 1) (.slice o6 l7 l8)∧∀w17,IsSet w16 (Addr.add d14 1) (.slice o6 l7 l8) w17 →
 CanSet w17 (Addr.add d14 2) (.slice o9 l10 l11)∧∀w18,IsSet w17 (Addr.add d14 2) (.slice o9 l10 l11) w18 →
 (((n13=0 →
 (((n12 < ((l0:Nat):Int) →
 CanSet w18 d1 (.bool false)∧∀w19,IsSet w18 d1 (.bool false) w19 →
 CanSet w19 (Addr.add d1 1) (.slice none 0 0)∧∀w20,IsSet w19 (Addr.add d1 1) (.slice none 0 0) w20 →
 CanSet w20 (Addr.add d1 2) (.slice none 0 0)∧∀w21,IsSet w20 (Addr.add d1 2) (.slice none 0 0) w21 →
 ∃b22 o23 l24 l25 o26 l27 l28,World.cell? w21 d1=some (.bool b22) ∧
 World.cell? w21 (Addr.add d1 1)=some (.slice o23 l24 l25) ∧
 World.cell? w21 (Addr.add d1 2)=some (.slice o26 l27 l28) ∧
 R (.returned (.tuple #[(.agg #[(.bool b22),(.slice o23 l24 l25),(.slice o26 l27 l28)]),(.int .i64 42)])) w21)) ∧
 ((¬n12 < ((l0:Nat):Int) →
 (((n13≠0 →
 CanSet w18 d1 (.bool false)∧∀w29,IsSet w18 d1 (.bool false) w29 →
 CanSet w29 (Addr.add d1 1) (.slice none 0 0)∧∀w30,IsSet w29 (Addr.add d1 1) (.slice none 0 0) w30 →
 CanSet w30 (Addr.add d1 2) (.slice none 0 0)∧∀w31,IsSet w30 (Addr.add d1 2) (.slice none 0 0) w31 →
 ∃b32 o33 l34 l35 o36 l37 l38,World.cell? w31 d1=some (.bool b32) ∧
 World.cell? w31 (Addr.add d1 1)=some (.slice o33 l34 l35) ∧
 World.cell? w31 (Addr.add d1 2)=some (.slice o36 l37 l38) ∧
 R (.returned (.tuple #[(.agg #[(.bool b32),(.slice o33 l34 l35),(.slice o36 l37 l38)]),(.int .i64 n13)])) w31)) ∧
 ((n13=0 →
 ∃b39 o40 l41 l42 o43 l44 l45,World.cell? w18 d14=some (.bool b39) ∧
 World.cell? w18 (Addr.add d14 1)=some (.slice o40 l41 l42) ∧
 World.cell? w18 (Addr.add d14 2)=some (.slice o43 l44 l45) ∧
 CanSet w18 d1 (.bool b39)∧∀w46,IsSet w18 d1 (.bool b39) w46 →
 CanSet w46 (Addr.add d1 1) (.slice o40 l41 l42)∧∀w47,IsSet w46 (Addr.add d1 1) (.slice o40 l41 l42) w47 →
 CanSet w47 (Addr.add d1 2) (.slice o43 l44 l45)∧∀w48,IsSet w47 (Addr.add d1 2) (.slice o43 l44 l45) w48 →
 ∃b49 o50 l51 l52 o53 l54 l55,World.cell? w48 d1=some (.bool b49) ∧
 World.cell? w48 (Addr.add d1 1)=some (.slice o50 l51 l52) ∧
 World.cell? w48 (Addr.add d1 2)=some (.slice o53 l54 l55) ∧
 R (.returned (.tuple #[(.agg #[(.bool b49),(.slice o50 l51 l52),(.slice o53 l54 l55)]),(.int .i64 0)])) w48)))))))) ∧
 ((n13≠0 →
 (((n13≠0 →
 CanSet w18 d1 (.bool false)∧∀w56,IsSet w18 d1 (.bool false) w56 →
 CanSet w56 (Addr.add d1 1) (.slice none 0 0)∧∀w57,IsSet w56 (Addr.add d1 1) (.slice none 0 0) w57 →
 CanSet w57 (Addr.add d1 2) (.slice none 0 0)∧∀w58,IsSet w57 (Addr.add d1 2) (.slice none 0 0) w58 →
 ∃b59 o60 l61 l62 o63 l64 l65,World.cell? w58 d1=some (.bool b59) ∧
 World.cell? w58 (Addr.add d1 1)=some (.slice o60 l61 l62) ∧
 World.cell? w58 (Addr.add d1 2)=some (.slice o63 l64 l65) ∧
 R (.returned (.tuple #[(.agg #[(.bool b59),(.slice o60 l61 l62),(.slice o63 l64 l65)]),(.int .i64 n13)])) w58)) ∧
 ((n13=0 →
 ∃b66 o67 l68 l69 o70 l71 l72,World.cell? w18 d14=some (.bool b66) ∧
 World.cell? w18 (Addr.add d14 1)=some (.slice o67 l68 l69) ∧
 World.cell? w18 (Addr.add d14 2)=some (.slice o70 l71 l72) ∧
 CanSet w18 d1 (.bool b66)∧∀w73,IsSet w18 d1 (.bool b66) w73 →
 CanSet w73 (Addr.add d1 1) (.slice o67 l68 l69)∧∀w74,IsSet w73 (Addr.add d1 1) (.slice o67 l68 l69) w74 →
 CanSet w74 (Addr.add d1 2) (.slice o70 l71 l72)∧∀w75,IsSet w74 (Addr.add d1 2) (.slice o70 l71 l72) w75 →
 ∃b76 o77 l78 l79 o80 l81 l82,World.cell? w75 d1=some (.bool b76) ∧
 World.cell? w75 (Addr.add d1 1)=some (.slice o77 l78 l79) ∧
 World.cell? w75 (Addr.add d1 2)=some (.slice o80 l81 l82) ∧
 R (.returned (.tuple #[(.agg #[(.bool b76),(.slice o77 l78 l79),(.slice o80 l81 l82)]),(.int .i64 0)])) w75)))))))
theorem moraineref4_Decode.vc (o0:Option Addr) (l0:Nat) (c0:Nat) (w:World) (R:Ending→World→Prop) (h:moraineref4_Decode.Vc o0 l0 c0 w R):Calls Tryz.prog 60 #[(.slice o0 l0 c0)] w R :=
 execF_sound (R:=⟨R,false⟩) (ann:=[]) (args:=[.slice o0 l0 c0]) Tryz.func60 mixed (Eq.mp (by kernel_rfl:moraineref4_Decode.Vc o0 l0 c0 w R=execF (pA Tryz.prog ⟨R,false⟩) Tryz.prog [] Tryz.f60 [.slice o0 l0 c0] w) h)

abbrev moraineref4_First.n:Nat:=94
def moraineref4_First.Vc (o0:Option Addr) (l0 c0:Nat) (w:World) (R:Ending→World→Prop):Prop :=
 ∀d1 w2,IsNew w 111 #[(.bool false),(.slice none 0 0),(.slice none 0 0)] d1 w2 →
 (((((l0:Nat):Int) > 65536 →
 CanSet w2 d1 (.bool false)∧∀w3,IsSet w2 d1 (.bool false) w3 →
 CanSet w3 (Addr.add d1 1) (.slice none 0 0)∧∀w4,IsSet w3 (Addr.add d1 1) (.slice none 0 0) w4 →
 CanSet w4 (Addr.add d1 2) (.slice none 0 0)∧∀w5,IsSet w4 (Addr.add d1 2) (.slice none 0 0) w5 →
 ∃b6 o7 l8 l9 o10 l11 l12,World.cell? w5 d1=some (.bool b6) ∧
 World.cell? w5 (Addr.add d1 1)=some (.slice o7 l8 l9) ∧
 World.cell? w5 (Addr.add d1 2)=some (.slice o10 l11 l12) ∧
 R (.returned (.tuple #[(.agg #[(.bool b6),(.slice o7 l8 l9),(.slice o10 l11 l12)]),(.int .i64 0),(.int .i64 44)])) w5)) ∧
 ((¬((l0:Nat):Int) > 65536 →
 ∀d13 w14,IsNew w2 187 #[(.slice o0 l0 c0),(.int .i64 0),(.int .i64 0)] d13 w14 →
 Calls Tryz.prog 117 #[(.pointer (some d13)),(.int .i64 0),(.int .i64 ((l0:Nat):Int)),(.int .i64 1)] w14 (fun e15 w16 =>
 ∃b17 o18 l19 l20 o21 l22 l23 n24,e15=.returned (.tuple #[(.agg #[(.bool b17),(.slice o18 l19 l20),(.slice o21 l22 l23)]),(.int .i64 n24)]) ∧
 ∀d25 w26,IsNew w16 111 #[(.bool false),(.slice none 0 0),(.slice none 0 0)] d25 w26 →
 CanSet w26 d25 (.bool b17)∧∀w27,IsSet w26 d25 (.bool b17) w27 →
 CanSet w27 (Addr.add d25 1) (.slice o18 l19 l20)∧∀w28,IsSet w27 (Addr.add d25 1) (.slice o18 l19 l20) w28 →
 CanSet w28 (Addr.add d25 2) (.slice o21 l22 l23)∧∀w29,IsSet w28 (Addr.add d25 2) (.slice o21 l22 l23) w29 →
 ∃n30,World.cell? w29 (Addr.add d13 2)=some (.int .i64 n30) ∧
 (((n30≠0 →
 ∀w31,IsDrew w29 w31 →
 ∃n32,World.cell? w31 (Addr.add d13 2)=some (.int .i64 n32) ∧
 CanSet w31 d1 (.bool false)∧∀w33,IsSet w31 d1 (.bool false) w33 →
 CanSet w33 (Addr.add d1 1) (.slice none 0 0)∧∀w34,IsSet w33 (Addr.add d1 1) (.slice none 0 0) w34 →
 CanSet w34 (Addr.add d1 2) (.slice none 0 0)∧∀w35,IsSet w34 (Addr.add d1 2) (.slice none 0 0) w35 →
 World.cell? w35 (Addr.add d13 2)=some (.int .i64 n32) ∧
 ∃b36 o37 l38 l39 o40 l41 l42,World.cell? w35 d1=some (.bool b36) ∧
 World.cell? w35 (Addr.add d1 1)=some (.slice o37 l38 l39) ∧
 World.cell? w35 (Addr.add d1 2)=some (.slice o40 l41 l42) ∧
 R (.returned (.tuple #[(.agg #[(.bool b36),(.slice o37 l38 l39),(.slice o40 l41 l42)]),(.int .i64 0),(.int .i64 n32)])) w35)) ∧
 ((n30=0 →
 ∃b43 o44 l45 l46 o47 l48 l49,World.cell? w29 d25=some (.bool b43) ∧
 World.cell? w29 (Addr.add d25 1)=some (.slice o44 l45 l46) ∧
 World.cell? w29 (Addr.add d25 2)=some (.slice o47 l48 l49) ∧
 CanSet w29 d1 (.bool b43)∧∀w50,IsSet w29 d1 (.bool b43) w50 →
 CanSet w50 (Addr.add d1 1) (.slice o44 l45 l46)∧∀w51,IsSet w50 (Addr.add d1 1) (.slice o44 l45 l46) w51 →
 CanSet w51 (Addr.add d1 2) (.slice o47 l48 l49)∧∀w52,IsSet w51 (Addr.add d1 2) (.slice o47 l48 l49) w52 →
 ∃b53 o54 l55 l56 o57 l58 l59,World.cell? w52 d1=some (.bool b53) ∧
 World.cell? w52 (Addr.add d1 1)=some (.slice o54 l55 l56) ∧
 World.cell? w52 (Addr.add d1 2)=some (.slice o57 l58 l59) ∧
 R (.returned (.tuple #[(.agg #[(.bool b53),(.slice o54 l55 l56),(.slice o57 l58 l59)]),(.int .i64 n24),(.int .i64 0)])) w52)))))))
theorem moraineref4_First.vc (o0:Option Addr) (l0:Nat) (c0:Nat) (w:World) (R:Ending→World→Prop) (h:moraineref4_First.Vc o0 l0 c0 w R):Calls Tryz.prog 94 #[(.slice o0 l0 c0)] w R :=
 execF_sound (R:=⟨R,false⟩) (ann:=[]) (args:=[.slice o0 l0 c0]) Tryz.func94 mixed (Eq.mp (by kernel_rfl:moraineref4_First.Vc o0 l0 c0 w R=execF (pA Tryz.prog ⟨R,false⟩) Tryz.prog [] Tryz.f94 [.slice o0 l0 c0] w) h)

abbrev moraineref4_reader_item.n:Nat:=117
def moraineref4_reader_item.Vc (d0:Addr) (n1 n2 n3:Int) (w:World) (R:Ending→World→Prop):Prop :=
 ∀d4 w5,IsNew w 111 #[(.bool false),(.slice none 0 0),(.slice none 0 0)] d4 w5 →
 (((n1≥n2 →
 Calls Tryz.prog 133 #[(.pointer (some d0)),(.int .i64 41)] w5 (fun e6 w7 =>
 ∃b8 o9 l10 l11 o12 l13 l14 n15,e6=.returned (.tuple #[(.agg #[(.bool b8),(.slice o9 l10 l11),(.slice o12 l13 l14)]),(.int .i64 n15)]) ∧
 CanSet w7 d4 (.bool b8)∧∀w16,IsSet w7 d4 (.bool b8) w16 →
 CanSet w16 (Addr.add d4 1) (.slice o9 l10 l11)∧∀w17,IsSet w16 (Addr.add d4 1) (.slice o9 l10 l11) w17 →
 CanSet w17 (Addr.add d4 2) (.slice o12 l13 l14)∧∀w18,IsSet w17 (Addr.add d4 2) (.slice o12 l13 l14) w18 →
 ∃b19 o20 l21 l22 o23 l24 l25,World.cell? w18 d4=some (.bool b19) ∧
 World.cell? w18 (Addr.add d4 1)=some (.slice o20 l21 l22) ∧
 World.cell? w18 (Addr.add d4 2)=some (.slice o23 l24 l25) ∧
 R (.returned (.tuple #[(.agg #[(.bool b19),(.slice o20 l21 l22),(.slice o23 l24 l25)]),(.int .i64 n15)])) w18))) ∧
 ((¬n1≥n2 →
 (((n3 > 16 →
 Calls Tryz.prog 133 #[(.pointer (some d0)),(.int .i64 43)] w5 (fun e26 w27 =>
 ∃b28 o29 l30 l31 o32 l33 l34 n35,e26=.returned (.tuple #[(.agg #[(.bool b28),(.slice o29 l30 l31),(.slice o32 l33 l34)]),(.int .i64 n35)]) ∧
 CanSet w27 d4 (.bool b28)∧∀w36,IsSet w27 d4 (.bool b28) w36 →
 CanSet w36 (Addr.add d4 1) (.slice o29 l30 l31)∧∀w37,IsSet w36 (Addr.add d4 1) (.slice o29 l30 l31) w37 →
 CanSet w37 (Addr.add d4 2) (.slice o32 l33 l34)∧∀w38,IsSet w37 (Addr.add d4 2) (.slice o32 l33 l34) w38 →
 ∃b39 o40 l41 l42 o43 l44 l45,World.cell? w38 d4=some (.bool b39) ∧
 World.cell? w38 (Addr.add d4 1)=some (.slice o40 l41 l42) ∧
 World.cell? w38 (Addr.add d4 2)=some (.slice o43 l44 l45) ∧
 R (.returned (.tuple #[(.agg #[(.bool b39),(.slice o40 l41 l42),(.slice o43 l44 l45)]),(.int .i64 n35)])) w38))) ∧
 ((¬n3 > 16 →
 ∃n46,World.cell? w5 (Addr.add d0 1)=some (.int .i64 n46) ∧
 (((n46=4096 →
 Calls Tryz.prog 133 #[(.pointer (some d0)),(.int .i64 43)] w5 (fun e47 w48 =>
 ∃b49 o50 l51 l52 o53 l54 l55 n56,e47=.returned (.tuple #[(.agg #[(.bool b49),(.slice o50 l51 l52),(.slice o53 l54 l55)]),(.int .i64 n56)]) ∧
 CanSet w48 d4 (.bool b49)∧∀w57,IsSet w48 d4 (.bool b49) w57 →
 CanSet w57 (Addr.add d4 1) (.slice o50 l51 l52)∧∀w58,IsSet w57 (Addr.add d4 1) (.slice o50 l51 l52) w58 →
 CanSet w58 (Addr.add d4 2) (.slice o53 l54 l55)∧∀w59,IsSet w58 (Addr.add d4 2) (.slice o53 l54 l55) w59 →
 ∃b60 o61 l62 l63 o64 l65 l66,World.cell? w59 d4=some (.bool b60) ∧
 World.cell? w59 (Addr.add d4 1)=some (.slice o61 l62 l63) ∧
 World.cell? w59 (Addr.add d4 2)=some (.slice o64 l65 l66) ∧
 R (.returned (.tuple #[(.agg #[(.bool b60),(.slice o61 l62 l63),(.slice o64 l65 l66)]),(.int .i64 n56)])) w59))) ∧
 ((n46≠4096 →
 ∃n67,World.cell? w5 (Addr.add d0 1)=some (.int .i64 n67) ∧
 CanSet w5 (Addr.add d0 1) (.int .i64 (IntKind.wrap .i64 (n67+1)))∧∀w68,IsSet w5 (Addr.add d0 1) (.int .i64 (IntKind.wrap .i64 (n67+1))) w68 →
 ∃o69 l70 l71,World.cell? w68 d0=some (.slice o69 l70 l71) ∧
 ∃d72,o69=some d72 ∧
 ((0:Int)≤n1∧n1 < ((l70:Nat):Int)) ∧
 ∃n73,World.cell? w68 (Addr.add d72 (Int.toNat n1))=some (.int .u8 n73) ∧
 ((((IntKind.wrap .i64 n73) < 128 →
 ∀d74 w75,IsNew w68 5 #[(.int .u8 (IntKind.wrap .u8 (IntKind.wrap .i64 n73)))] d74 w75 →
 CanSet w75 d4 (.bool false)∧∀w76,IsSet w75 d4 (.bool false) w76 →
 CanSet w76 (Addr.add d4 1) (.slice (some d74) 1 1)∧∀w77,IsSet w76 (Addr.add d4 1) (.slice (some d74) 1 1) w77 →
 CanSet w77 (Addr.add d4 2) (.slice none 0 0)∧∀w78,IsSet w77 (Addr.add d4 2) (.slice none 0 0) w78 →
 ∃b79 o80 l81 l82 o83 l84 l85,World.cell? w78 d4=some (.bool b79) ∧
 World.cell? w78 (Addr.add d4 1)=some (.slice o80 l81 l82) ∧
 World.cell? w78 (Addr.add d4 2)=some (.slice o83 l84 l85) ∧
 R (.returned (.tuple #[(.agg #[(.bool b79),(.slice o80 l81 l82),(.slice o83 l84 l85)]),(.int .i64 (IntKind.wrap .i64 (n1+1)))])) w78)) ∧
 ((¬(IntKind.wrap .i64 n73) < 128 →
 ∃(J86:Int→World→Prop),(((((IntKind.wrap .i64 n73)≥192 →
 J86 192 w68)) ∧
 ((¬(IntKind.wrap .i64 n73)≥192 →
 J86 128 w68)))) ∧
 (∀(n87:Int) (j88:Nat→Value) (w88:World),J86 n87 w88 →
 ∃(J89:Int→Int→World→Prop),(((((IntKind.wrap .i64 ((IntKind.wrap .i64 n73) - n87)) > 55 →
 ((((IntKind.wrap .i64 ((IntKind.wrap .i64 (n1+1))+(IntKind.wrap .i64 ((IntKind.wrap .i64 ((IntKind.wrap .i64 n73) - n87)) - 55)))) > n2 →
 Calls Tryz.prog 133 #[(.pointer (some d0)),(.int .i64 41)] w88 (fun e90 w91 =>
 ∃b92 o93 l94 l95 o96 l97 l98 n99,e90=.returned (.tuple #[(.agg #[(.bool b92),(.slice o93 l94 l95),(.slice o96 l97 l98)]),(.int .i64 n99)]) ∧
 CanSet w91 d4 (.bool b92)∧∀w100,IsSet w91 d4 (.bool b92) w100 →
 CanSet w100 (Addr.add d4 1) (.slice o93 l94 l95)∧∀w101,IsSet w100 (Addr.add d4 1) (.slice o93 l94 l95) w101 →
 CanSet w101 (Addr.add d4 2) (.slice o96 l97 l98)∧∀w102,IsSet w101 (Addr.add d4 2) (.slice o96 l97 l98) w102 →
 ∃b103 o104 l105 l106 o107 l108 l109,World.cell? w102 d4=some (.bool b103) ∧
 World.cell? w102 (Addr.add d4 1)=some (.slice o104 l105 l106) ∧
 World.cell? w102 (Addr.add d4 2)=some (.slice o107 l108 l109) ∧
 R (.returned (.tuple #[(.agg #[(.bool b103),(.slice o104 l105 l106),(.slice o107 l108 l109)]),(.int .i64 n99)])) w102))) ∧
 ((¬(IntKind.wrap .i64 ((IntKind.wrap .i64 (n1+1))+(IntKind.wrap .i64 ((IntKind.wrap .i64 ((IntKind.wrap .i64 n73) - n87)) - 55)))) > n2 →
 ∃(I110:Int→Int→World→Prop) (μ110:Int→Int→World→Nat),I110 0 0 w88 ∧
 (∀(n111:Int) (n112:Int) (j113:Nat→Value) (w113:World),I110 n111 n112 w113 →
 (((n112 < (IntKind.wrap .i64 ((IntKind.wrap .i64 ((IntKind.wrap .i64 n73) - n87)) - 55)) →
 ∃(J114:Bool→World→Prop),((((n112 < 8 →
 J114 (decide (n111≤2147483648)) w113)) ∧
 ((¬n112 < 8 →
 J114 false w113)))) ∧
 (∀(b115:Bool) (j116:Nat→Value) (w116:World),J114 b115 w116 →
 (((b115=true →
 ∃o117 l118 l119,World.cell? w116 d0=some (.slice o117 l118 l119) ∧
 ∃d120,o117=some d120 ∧
 ((0:Int)≤(IntKind.wrap .i64 ((IntKind.wrap .i64 (n1+1))+n112))∧(IntKind.wrap .i64 ((IntKind.wrap .i64 (n1+1))+n112)) < ((l118:Nat):Int)) ∧
 ∃n121,World.cell? w116 (Addr.add d120 (Int.toNat (IntKind.wrap .i64 ((IntKind.wrap .i64 (n1+1))+n112))))=some (.int .u8 n121) ∧
 I110 (IntKind.wrap .i64 ((IntKind.wrap .i64 (256 * n111))+(IntKind.wrap .i64 n121))) (IntKind.wrap .i64 (n112+1)) w116∧μ110 (IntKind.wrap .i64 ((IntKind.wrap .i64 (256 * n111))+(IntKind.wrap .i64 n121))) (IntKind.wrap .i64 (n112+1)) w116 < μ110 n111 n112 w113)) ∧
 ((b115=false →
 I110 n111 (IntKind.wrap .i64 (n112+1)) w116∧μ110 n111 (IntKind.wrap .i64 (n112+1)) w116 < μ110 n111 n112 w113)))))) ∧
 ((¬n112 < (IntKind.wrap .i64 ((IntKind.wrap .i64 ((IntKind.wrap .i64 n73) - n87)) - 55)) →
 ∃o122 l123 l124,World.cell? w113 d0=some (.slice o122 l123 l124) ∧
 ∃d125,o122=some d125 ∧
 ((0:Int)≤(IntKind.wrap .i64 (n1+1))∧(IntKind.wrap .i64 (n1+1)) < ((l123:Nat):Int)) ∧
 ∃n126,World.cell? w113 (Addr.add d125 (Int.toNat (IntKind.wrap .i64 (n1+1))))=some (.int .u8 n126) ∧
 (((n126=0 →
 Calls Tryz.prog 133 #[(.pointer (some d0)),(.int .i64 40)] w113 (fun e127 w128 =>
 ∃b129 o130 l131 l132 o133 l134 l135 n136,e127=.returned (.tuple #[(.agg #[(.bool b129),(.slice o130 l131 l132),(.slice o133 l134 l135)]),(.int .i64 n136)]) ∧
 CanSet w128 d4 (.bool b129)∧∀w137,IsSet w128 d4 (.bool b129) w137 →
 CanSet w137 (Addr.add d4 1) (.slice o130 l131 l132)∧∀w138,IsSet w137 (Addr.add d4 1) (.slice o130 l131 l132) w138 →
 CanSet w138 (Addr.add d4 2) (.slice o133 l134 l135)∧∀w139,IsSet w138 (Addr.add d4 2) (.slice o133 l134 l135) w139 →
 ∃b140 o141 l142 l143 o144 l145 l146,World.cell? w139 d4=some (.bool b140) ∧
 World.cell? w139 (Addr.add d4 1)=some (.slice o141 l142 l143) ∧
 World.cell? w139 (Addr.add d4 2)=some (.slice o144 l145 l146) ∧
 R (.returned (.tuple #[(.agg #[(.bool b140),(.slice o141 l142 l143),(.slice o144 l145 l146)]),(.int .i64 n136)])) w139))) ∧
 ((n126≠0 →
 (((n111 < 56 →
 Calls Tryz.prog 133 #[(.pointer (some d0)),(.int .i64 40)] w113 (fun e147 w148 =>
 ∃b149 o150 l151 l152 o153 l154 l155 n156,e147=.returned (.tuple #[(.agg #[(.bool b149),(.slice o150 l151 l152),(.slice o153 l154 l155)]),(.int .i64 n156)]) ∧
 CanSet w148 d4 (.bool b149)∧∀w157,IsSet w148 d4 (.bool b149) w157 →
 CanSet w157 (Addr.add d4 1) (.slice o150 l151 l152)∧∀w158,IsSet w157 (Addr.add d4 1) (.slice o150 l151 l152) w158 →
 CanSet w158 (Addr.add d4 2) (.slice o153 l154 l155)∧∀w159,IsSet w158 (Addr.add d4 2) (.slice o153 l154 l155) w159 →
 ∃b160 o161 l162 l163 o164 l165 l166,World.cell? w159 d4=some (.bool b160) ∧
 World.cell? w159 (Addr.add d4 1)=some (.slice o161 l162 l163) ∧
 World.cell? w159 (Addr.add d4 2)=some (.slice o164 l165 l166) ∧
 R (.returned (.tuple #[(.agg #[(.bool b160),(.slice o161 l162 l163),(.slice o164 l165 l166)]),(.int .i64 n156)])) w159))) ∧
 ((¬n111 < 56 →
 (((n111 > 2147483648 →
 Calls Tryz.prog 133 #[(.pointer (some d0)),(.int .i64 40)] w113 (fun e167 w168 =>
 ∃b169 o170 l171 l172 o173 l174 l175 n176,e167=.returned (.tuple #[(.agg #[(.bool b169),(.slice o170 l171 l172),(.slice o173 l174 l175)]),(.int .i64 n176)]) ∧
 CanSet w168 d4 (.bool b169)∧∀w177,IsSet w168 d4 (.bool b169) w177 →
 CanSet w177 (Addr.add d4 1) (.slice o170 l171 l172)∧∀w178,IsSet w177 (Addr.add d4 1) (.slice o170 l171 l172) w178 →
 CanSet w178 (Addr.add d4 2) (.slice o173 l174 l175)∧∀w179,IsSet w178 (Addr.add d4 2) (.slice o173 l174 l175) w179 →
 ∃b180 o181 l182 l183 o184 l185 l186,World.cell? w179 d4=some (.bool b180) ∧
 World.cell? w179 (Addr.add d4 1)=some (.slice o181 l182 l183) ∧
 World.cell? w179 (Addr.add d4 2)=some (.slice o184 l185 l186) ∧
 R (.returned (.tuple #[(.agg #[(.bool b180),(.slice o181 l182 l183),(.slice o184 l185 l186)]),(.int .i64 n176)])) w179))) ∧
 ((¬n111 > 2147483648 →
 J89 n111 (IntKind.wrap .i64 ((IntKind.wrap .i64 (n1+1))+(IntKind.wrap .i64 ((IntKind.wrap .i64 ((IntKind.wrap .i64 n73) - n87)) - 55)))) w113)))))))))))))))))) ∧
 ((¬(IntKind.wrap .i64 ((IntKind.wrap .i64 n73) - n87)) > 55 →
 J89 (IntKind.wrap .i64 ((IntKind.wrap .i64 n73) - n87)) (IntKind.wrap .i64 (n1+1)) w88)))) ∧
 (∀(n187:Int) (n188:Int) (j189:Nat→Value) (w189:World),J89 n187 n188 w189 →
 (((n187 > (IntKind.wrap .i64 (n2 - n188)) →
 Calls Tryz.prog 133 #[(.pointer (some d0)),(.int .i64 41)] w189 (fun e190 w191 =>
 ∃b192 o193 l194 l195 o196 l197 l198 n199,e190=.returned (.tuple #[(.agg #[(.bool b192),(.slice o193 l194 l195),(.slice o196 l197 l198)]),(.int .i64 n199)]) ∧
 CanSet w191 d4 (.bool b192)∧∀w200,IsSet w191 d4 (.bool b192) w200 →
 CanSet w200 (Addr.add d4 1) (.slice o193 l194 l195)∧∀w201,IsSet w200 (Addr.add d4 1) (.slice o193 l194 l195) w201 →
 CanSet w201 (Addr.add d4 2) (.slice o196 l197 l198)∧∀w202,IsSet w201 (Addr.add d4 2) (.slice o196 l197 l198) w202 →
 ∃b203 o204 l205 l206 o207 l208 l209,World.cell? w202 d4=some (.bool b203) ∧
 World.cell? w202 (Addr.add d4 1)=some (.slice o204 l205 l206) ∧
 World.cell? w202 (Addr.add d4 2)=some (.slice o207 l208 l209) ∧
 R (.returned (.tuple #[(.agg #[(.bool b203),(.slice o204 l205 l206),(.slice o207 l208 l209)]),(.int .i64 n199)])) w202))) ∧
 ((¬n187 > (IntKind.wrap .i64 (n2 - n188)) →
 (((n87=128 →
 ∃(J210:World→Prop),((((n187=1 →
 ∃o211 l212 l213,World.cell? w189 d0=some (.slice o211 l212 l213) ∧
 ∃d214,o211=some d214 ∧
 ((0:Int)≤n188∧n188 < ((l212:Nat):Int)) ∧
 ∃n215,World.cell? w189 (Addr.add d214 (Int.toNat n188))=some (.int .u8 n215) ∧
 (((n215 < 128 →
 Calls Tryz.prog 133 #[(.pointer (some d0)),(.int .i64 40)] w189 (fun e216 w217 =>
 ∃b218 o219 l220 l221 o222 l223 l224 n225,e216=.returned (.tuple #[(.agg #[(.bool b218),(.slice o219 l220 l221),(.slice o222 l223 l224)]),(.int .i64 n225)]) ∧
 CanSet w217 d4 (.bool b218)∧∀w226,IsSet w217 d4 (.bool b218) w226 →
 CanSet w226 (Addr.add d4 1) (.slice o219 l220 l221)∧∀w227,IsSet w226 (Addr.add d4 1) (.slice o219 l220 l221) w227 →
 CanSet w227 (Addr.add d4 2) (.slice o222 l223 l224)∧∀w228,IsSet w227 (Addr.add d4 2) (.slice o222 l223 l224) w228 →
 ∃b229 o230 l231 l232 o233 l234 l235,World.cell? w228 d4=some (.bool b229) ∧
 World.cell? w228 (Addr.add d4 1)=some (.slice o230 l231 l232) ∧
 World.cell? w228 (Addr.add d4 2)=some (.slice o233 l234 l235) ∧
 R (.returned (.tuple #[(.agg #[(.bool b229),(.slice o230 l231 l232),(.slice o233 l234 l235)]),(.int .i64 n225)])) w228))) ∧
 ((¬n215 < 128 →
 J210  w189))))) ∧
 ((n187≠1 →
 J210  w189)))) ∧
 (∀  (j236:Nat→Value) (w236:World),J210  w236 →
 ∃o237 l238 l239,World.cell? w236 d0=some (.slice o237 l238 l239) ∧
 ((0:Int)≤(IntKind.wrap .i64 (n188+n187))∧(IntKind.wrap .i64 (n188+n187))≤((l239:Nat):Int)) ∧
 ((0:Int)≤n188∧n188≤(((Int.toNat (IntKind.wrap .i64 (n188+n187))):Nat):Int)) ∧
 ∃v240 w241,Sem.run Tryz.prog (builtinV .append #[23,23] 23 #[(.slice none 0 0),(.slice (subO o237 l239 (Int.toNat n188) 1) ((Int.toNat (IntKind.wrap .i64 (n188+n187))) - (Int.toNat n188)) (l239 - (Int.toNat n188)))]) w236=.ok v240 w241 ∧
 ∃o242 l243 l244,v240=(.slice o242 l243 l244) ∧
 CanSet w241 d4 (.bool false)∧∀w245,IsSet w241 d4 (.bool false) w245 →
 CanSet w245 (Addr.add d4 1) (.slice o242 l243 l244)∧∀w246,IsSet w245 (Addr.add d4 1) (.slice o242 l243 l244) w246 →
 CanSet w246 (Addr.add d4 2) (.slice none 0 0)∧∀w247,IsSet w246 (Addr.add d4 2) (.slice none 0 0) w247 →
 ∃b248 o249 l250 l251 o252 l253 l254,World.cell? w247 d4=some (.bool b248) ∧
 World.cell? w247 (Addr.add d4 1)=some (.slice o249 l250 l251) ∧
 World.cell? w247 (Addr.add d4 2)=some (.slice o252 l253 l254) ∧
 R (.returned (.tuple #[(.agg #[(.bool b248),(.slice o249 l250 l251),(.slice o252 l253 l254)]),(.int .i64 (IntKind.wrap .i64 (n188+n187)))])) w247))) ∧
 ((n87≠128 →
 ∀d255 w256,IsNew w189 111 #[(.bool false),(.slice none 0 0),(.slice none 0 0)] d255 w256 →
 CanSet w256 d255 (.bool true)∧∀w257,IsSet w256 d255 (.bool true) w257 →
 CanSet w257 (Addr.add d255 1) (.slice none 0 0)∧∀w258,IsSet w257 (Addr.add d255 1) (.slice none 0 0) w258 →
 CanSet w258 (Addr.add d255 2) (.slice none 0 0)∧∀w259,IsSet w258 (Addr.add d255 2) (.slice none 0 0) w259 →
 ∃(J260:World→Prop),(∃(I261:Int→World→Prop) (μ261:Int→World→Nat),I261 n188 w259 ∧
 (∀(n262:Int) (j263:Nat→Value) (w263:World),I261 n262 w263 →
 (((n262 < (IntKind.wrap .i64 (n188+n187)) →
 ∃n264,World.cell? w263 (Addr.add d0 2)=some (.int .i64 n264) ∧
 (((n264=0 →
 Calls Tryz.prog 117 #[(.pointer (some d0)),(.int .i64 n262),(.int .i64 (IntKind.wrap .i64 (n188+n187))),(.int .i64 (IntKind.wrap .i64 (n3+1)))] w263 (fun e265 w266 =>
 ∃b267 o268 l269 l270 o271 l272 l273 n274,e265=.returned (.tuple #[(.agg #[(.bool b267),(.slice o268 l269 l270),(.slice o271 l272 l273)]),(.int .i64 n274)]) ∧
 ∀d275 w276,IsNew w266 111 #[(.bool false),(.slice none 0 0),(.slice none 0 0)] d275 w276 →
 CanSet w276 d275 (.bool b267)∧∀w277,IsSet w276 d275 (.bool b267) w277 →
 CanSet w277 (Addr.add d275 1) (.slice o268 l269 l270)∧∀w278,IsSet w277 (Addr.add d275 1) (.slice o268 l269 l270) w278 →
 CanSet w278 (Addr.add d275 2) (.slice o271 l272 l273)∧∀w279,IsSet w278 (Addr.add d275 2) (.slice o271 l272 l273) w279 →
 ∃o280 l281 l282,World.cell? w279 (Addr.add d255 2)=some (.slice o280 l281 l282) ∧
 ∃b283 o284 l285 l286 o287 l288 l289,World.cell? w279 d275=some (.bool b283) ∧
 World.cell? w279 (Addr.add d275 1)=some (.slice o284 l285 l286) ∧
 World.cell? w279 (Addr.add d275 2)=some (.slice o287 l288 l289) ∧
 ∀d290 w291,IsNew w279 111 #[(.bool b283),(.slice o284 l285 l286),(.slice o287 l288 l289)] d290 w291 →
 ∃v292 w293,Sem.run Tryz.prog (builtinV .append #[109,109] 109 #[(.slice o280 l281 l282),(.slice (some d290) 1 1)]) w291=.ok v292 w293 ∧
 ∃o294 l295 l296,v292=(.slice o294 l295 l296) ∧
 CanSet w293 (Addr.add d255 2) (.slice o294 l295 l296)∧∀w297,IsSet w293 (Addr.add d255 2) (.slice o294 l295 l296) w297 →
 I261 n274 w297∧μ261 n274 w297 < μ261 n262 w263))) ∧
 ((n264≠0 →
 J260  w263))))) ∧
 ((¬n262 < (IntKind.wrap .i64 (n188+n187)) →
 J260  w263))))) ∧
 (∀  (j298:Nat→Value) (w298:World),J260  w298 →
 ∃n299,World.cell? w298 (Addr.add d0 2)=some (.int .i64 n299) ∧
 (((n299≠0 →
 CanSet w298 d4 (.bool false)∧∀w300,IsSet w298 d4 (.bool false) w300 →
 CanSet w300 (Addr.add d4 1) (.slice none 0 0)∧∀w301,IsSet w300 (Addr.add d4 1) (.slice none 0 0) w301 →
 CanSet w301 (Addr.add d4 2) (.slice none 0 0)∧∀w302,IsSet w301 (Addr.add d4 2) (.slice none 0 0) w302 →
 ∃b303 o304 l305 l306 o307 l308 l309,World.cell? w302 d4=some (.bool b303) ∧
 World.cell? w302 (Addr.add d4 1)=some (.slice o304 l305 l306) ∧
 World.cell? w302 (Addr.add d4 2)=some (.slice o307 l308 l309) ∧
 R (.returned (.tuple #[(.agg #[(.bool b303),(.slice o304 l305 l306),(.slice o307 l308 l309)]),(.int .i64 0)])) w302)) ∧
 ((n299=0 →
 ∃b310 o311 l312 l313 o314 l315 l316,World.cell? w298 d255=some (.bool b310) ∧
 World.cell? w298 (Addr.add d255 1)=some (.slice o311 l312 l313) ∧
 World.cell? w298 (Addr.add d255 2)=some (.slice o314 l315 l316) ∧
 CanSet w298 d4 (.bool b310)∧∀w317,IsSet w298 d4 (.bool b310) w317 →
 CanSet w317 (Addr.add d4 1) (.slice o311 l312 l313)∧∀w318,IsSet w317 (Addr.add d4 1) (.slice o311 l312 l313) w318 →
 CanSet w318 (Addr.add d4 2) (.slice o314 l315 l316)∧∀w319,IsSet w318 (Addr.add d4 2) (.slice o314 l315 l316) w319 →
 ∃b320 o321 l322 l323 o324 l325 l326,World.cell? w319 d4=some (.bool b320) ∧
 World.cell? w319 (Addr.add d4 1)=some (.slice o321 l322 l323) ∧
 World.cell? w319 (Addr.add d4 2)=some (.slice o324 l325 l326) ∧
 R (.returned (.tuple #[(.agg #[(.bool b320),(.slice o321 l322 l323),(.slice o324 l325 l326)]),(.int .i64 (IntKind.wrap .i64 (n188+n187)))])) w319))))))))))))))))))))))))
theorem moraineref4_reader_item.vc (d0:Addr) (n1:Int) (n2:Int) (n3:Int) (w:World) (R:Ending→World→Prop) (h:moraineref4_reader_item.Vc d0 n1 n2 n3 w R):Calls Tryz.prog 117 #[(.pointer (some d0)),(.int .i64 n1),(.int .i64 n2),(.int .i64 n3)] w R :=
 execF_sound (R:=⟨R,false⟩) (ann:=[(1000012,[(11,.cell (.int .i64))]),(1000026,[(12,.cell (.int .i64)),(13,.cell (.int .i64))]),(19,[(12,.cell (.int .i64)),(15,.cell (.int .i64))]),(1000022,[(93,.cell (.bool))]),(1000032,[]),(1000038,[]),(34,[(13,.cell (.int .i64))])]) (args:=[.addr d0,.int .i64 n1,.int .i64 n2,.int .i64 n3]) Tryz.func117 mixed (Eq.mp (by kernel_rfl:moraineref4_reader_item.Vc d0 n1 n2 n3 w R=execF (pA Tryz.prog ⟨R,false⟩) Tryz.prog [(1000012,[(11,.cell (.int .i64))]),(1000026,[(12,.cell (.int .i64)),(13,.cell (.int .i64))]),(19,[(12,.cell (.int .i64)),(15,.cell (.int .i64))]),(1000022,[(93,.cell (.bool))]),(1000032,[]),(1000038,[]),(34,[(13,.cell (.int .i64))])] Tryz.f117 [.addr d0,.int .i64 n1,.int .i64 n2,.int .i64 n3] w) h)

abbrev moraineref4_reader_fault.n:Nat:=133
def moraineref4_reader_fault.Vc (d0:Addr) (n1:Int) (w:World) (R:Ending→World→Prop):Prop :=
 ∀d2 w3,IsNew w 111 #[(.bool false),(.slice none 0 0),(.slice none 0 0)] d2 w3 →
 ∃n4,World.cell? w3 (Addr.add d0 2)=some (.int .i64 n4) ∧
 (((n4=0 →
 CanSet w3 (Addr.add d0 2) (.int .i64 n1)∧∀w5,IsSet w3 (Addr.add d0 2) (.int .i64 n1) w5 →
 CanSet w5 d2 (.bool false)∧∀w6,IsSet w5 d2 (.bool false) w6 →
 CanSet w6 (Addr.add d2 1) (.slice none 0 0)∧∀w7,IsSet w6 (Addr.add d2 1) (.slice none 0 0) w7 →
 CanSet w7 (Addr.add d2 2) (.slice none 0 0)∧∀w8,IsSet w7 (Addr.add d2 2) (.slice none 0 0) w8 →
 ∃b9 o10 l11 l12 o13 l14 l15,World.cell? w8 d2=some (.bool b9) ∧
 World.cell? w8 (Addr.add d2 1)=some (.slice o10 l11 l12) ∧
 World.cell? w8 (Addr.add d2 2)=some (.slice o13 l14 l15) ∧
 R (.returned (.tuple #[(.agg #[(.bool b9),(.slice o10 l11 l12),(.slice o13 l14 l15)]),(.int .i64 0)])) w8)) ∧
 ((n4≠0 →
 CanSet w3 d2 (.bool false)∧∀w16,IsSet w3 d2 (.bool false) w16 →
 CanSet w16 (Addr.add d2 1) (.slice none 0 0)∧∀w17,IsSet w16 (Addr.add d2 1) (.slice none 0 0) w17 →
 CanSet w17 (Addr.add d2 2) (.slice none 0 0)∧∀w18,IsSet w17 (Addr.add d2 2) (.slice none 0 0) w18 →
 ∃b19 o20 l21 l22 o23 l24 l25,World.cell? w18 d2=some (.bool b19) ∧
 World.cell? w18 (Addr.add d2 1)=some (.slice o20 l21 l22) ∧
 World.cell? w18 (Addr.add d2 2)=some (.slice o23 l24 l25) ∧
 R (.returned (.tuple #[(.agg #[(.bool b19),(.slice o20 l21 l22),(.slice o23 l24 l25)]),(.int .i64 0)])) w18)))
theorem moraineref4_reader_fault.vc (d0:Addr) (n1:Int) (w:World) (R:Ending→World→Prop) (h:moraineref4_reader_fault.Vc d0 n1 w R):Calls Tryz.prog 133 #[(.pointer (some d0)),(.int .i64 n1)] w R :=
 execF_sound (R:=⟨R,false⟩) (ann:=[]) (args:=[.addr d0,.int .i64 n1]) Tryz.func133 mixed (Eq.mp (by kernel_rfl:moraineref4_reader_fault.Vc d0 n1 w R=execF (pA Tryz.prog ⟨R,false⟩) Tryz.prog [] Tryz.f133 [.addr d0,.int .i64 n1] w) h)

abbrev moraineref4_Of.n:Nat:=79
def moraineref4_Of.Vc (b0:Bool) (o1:Option Addr) (l1 c1:Nat) (o2:Option Addr) (l2 c2:Nat) (w:World) (R:Ending→World→Prop):Prop :=
 ∀d3 w4,IsNew w 111 #[(.bool b0),(.slice o1 l1 c1),(.slice o2 l2 c2)] d3 w4 →
 ∃b5,World.cell? w4 d3=some (.bool b5) ∧
 (((b5=false →
 ∃o6 l7 l8,World.cell? w4 (Addr.add d3 1)=some (.slice o6 l7 l8) ∧
 Calls Tryz.prog 109 #[(.slice o6 l7 l8)] w4 (fun e9 w10 =>
 ∃o11 l12 l13,e9=.returned (.slice o11 l12 l13) ∧
 R (.returned (.slice o11 l12 l13)) w10))) ∧
 ((b5=true →
 ∃(I14:Option Addr→Nat→Nat→Int→World→Prop) (μ14:Option Addr→Nat→Nat→Int→World→Nat),I14 none 0 0 0 w4 ∧
 (∀(o15:Option Addr) (l15:Nat) (c15:Nat) (n16:Int) (j17:Nat→Value) (w17:World),I14 o15 l15 c15 n16 w17 →
 ∃o18 l19 l20,World.cell? w17 (Addr.add d3 2)=some (.slice o18 l19 l20) ∧
 (((n16 < ((l19:Nat):Int) →
 (((((l15:Nat):Int)≤65536 →
 ∃o21 l22 l23,World.cell? w17 (Addr.add d3 2)=some (.slice o21 l22 l23) ∧
 ∃d24,o21=some d24 ∧
 ((0:Int)≤n16∧n16 < ((l22:Nat):Int)) ∧
 ∃b25 o26 l27 l28 o29 l30 l31,World.cell? w17 (Addr.add d24 ((Int.toNat n16) * 3))=some (.bool b25) ∧
 World.cell? w17 (Addr.add (Addr.add d24 ((Int.toNat n16) * 3)) 1)=some (.slice o26 l27 l28) ∧
 World.cell? w17 (Addr.add (Addr.add d24 ((Int.toNat n16) * 3)) 2)=some (.slice o29 l30 l31) ∧
 Calls Tryz.prog 79 #[(.agg #[(.bool b25),(.slice o26 l27 l28),(.slice o29 l30 l31)])] w17 (fun e32 w33 =>
 ∃o34 l35 l36,e32=.returned (.slice o34 l35 l36) ∧
 ∃v37 w38,Sem.run Tryz.prog (builtinV .append #[23,23] 23 #[(.slice o15 l15 c15),(.slice o34 l35 l36)]) w33=.ok v37 w38 ∧
 ∃o39 l40 l41,v37=(.slice o39 l40 l41) ∧
 I14 o39 l40 l41 (IntKind.wrap .i64 (n16+1)) w38∧μ14 o39 l40 l41 (IntKind.wrap .i64 (n16+1)) w38 < μ14 o15 l15 c15 n16 w17))) ∧
 ((¬((l15:Nat):Int)≤65536 →
 Calls Tryz.prog 89 #[(.slice o15 l15 c15)] w17 (fun e42 w43 =>
 ∃o44 l45 l46,e42=.returned (.slice o44 l45 l46) ∧
 R (.returned (.slice o44 l45 l46)) w43)))))) ∧
 ((¬n16 < ((l19:Nat):Int) →
 Calls Tryz.prog 89 #[(.slice o15 l15 c15)] w17 (fun e47 w48 =>
 ∃o49 l50 l51,e47=.returned (.slice o49 l50 l51) ∧
 R (.returned (.slice o49 l50 l51)) w48))))))))
theorem moraineref4_Of.vc (b0:Bool) (o1:Option Addr) (l1:Nat) (c1:Nat) (o2:Option Addr) (l2:Nat) (c2:Nat) (w:World) (R:Ending→World→Prop) (h:moraineref4_Of.Vc b0 o1 l1 c1 o2 l2 c2 w R):Calls Tryz.prog 79 #[(.agg #[(.bool b0),(.slice o1 l1 c1),(.slice o2 l2 c2)])] w R :=
 execF_sound (R:=⟨R,false⟩) (ann:=[(5,[(3,.cell (.slice)),(4,.cell (.int .i64))])]) (args:=[.agg [.bool (.var b0),.slice o1 l1 c1,.slice o2 l2 c2]]) Tryz.func79 mixed (Eq.mp (by kernel_rfl:moraineref4_Of.Vc b0 o1 l1 c1 o2 l2 c2 w R=execF (pA Tryz.prog ⟨R,false⟩) Tryz.prog [(5,[(3,.cell (.slice)),(4,.cell (.int .i64))])] Tryz.f79 [.agg [.bool (.var b0),.slice o1 l1 c1,.slice o2 l2 c2]] w) h)

end Go.Proofs.YtfghidehlnfdiaaGreat
end
section
namespace Go.Proofs.YtfghidehlnfdiaaGreat
open Go Go.Vcg Go.Trie
def sg (B:By) (i j:Nat):By:=(B.drop i).take (j - i)
theorem sg_len {B:By} {i j:Nat} (h:j≤B.length):(sg B i j).length=j - i:=by unfold sg; rw [List.length_take,List.length_drop]; omega
theorem sg_get {B:By} {i j t:Nat} (h:i+t < j):(sg B i j).getD t 0=B.getD (i+t) 0:=by
 unfold sg
 simp only [List.getD_eq_getElem?_getD]
 rw [List.getElem?_take_of_lt (by omega),List.getElem?_drop]
theorem sg_sub {B:By} {i j a q:Nat} (h:i+a+q≤j):((sg B i j).drop a).take q=sg B (i+a) (i+a+q):=by
 unfold sg
 rw [List.drop_take,List.drop_drop,List.take_take]
 congr 1
 omega
theorem sg_drop {B:By} {i j a:Nat}:(sg B i j).drop a=sg B (i+a) j:=by
 unfold sg
 rw [List.drop_take,List.drop_drop]
 congr 1
 omega
theorem sg_nil (B:By) (i:Nat):sg B i i=[]:=by simp [sg]
theorem sg_one {B:By} {i:Nat} (h:i < B.length):sg B i (i+1)=[B.getD i 0]:=by
 unfold sg
 rw [Nat.add_sub_cancel_left,List.drop_eq_getElem_cons h,List.take_succ_cons,List.take_zero,List.getD_eq_getElem?_getD,List.getElem?_eq_getElem h]
 rfl
section
variable {w:World} {D n:Nat} {S:Value}
theorem fault_calls (X:Blk w D 187 #[S,.int .i64 (n:Int),.int .i64 0]) (x:Int) :
 Calls Tryz.prog moraineref4_reader_fault.n #[.pointer (some ⟨D,0,none⟩),.int .i64 x] w (fun e w'=>e=.returned (.tuple #[.agg #[.bool false,.slice none 0 0,.slice none 0 0],.int .i64 0])∧Vcg.Mod (·=D) w w'∧Blk w' D 187 #[S,.int .i64 (n:Int),.int .i64 x]):=by
 refine moraineref4_reader_fault.vc _ _ _ _ ?_
 unfold moraineref4_reader_fault.Vc
 have hD:=X.lt
 rintro d1 w1 ⟨rfl,rfl⟩
 have M1:Vcg.Mod NoB w _:=Mod.alloc w (.cells #[.bool false,.slice none 0 0,.slice none 0 0] 111)
 have Y1:=Blk.new w 111 #[.bool false,.slice none 0 0,.slice none 0 0]
 have X1:=X.mod' M1
 generalize hN:w.heap.size=N at *
 generalize w.alloc (.cells #[.bool false,.slice none 0 0,.slice none 0 0] 111)=w1 at *
 refine ⟨0,by rw [add_at]; exact X1.rd1 rfl,fun _=>?_,fun h=>(h rfl).elim⟩
 rw [add_at]
 refine ⟨X1.canSet (by simp) rfl,?_⟩
 rintro _ rfl
 have X2:=X1.set 2 (.int .i64 x)
 have Y2:=Y1.set_ne (a:=⟨D,0+2,none⟩) (v:=.int .i64 x) (by simp; omega)
 have M2:Vcg.Mod (·=D) w _:=(M1.mono (fun _ _ h=>h.elim)).step_set (a:=⟨D,0+2,none⟩) (v:=.int .i64 x) (fun _=>rfl)
 exact ret_3 Y2 (fun w3 M3=>⟨rfl,M2.trans M3 (fun i hi h=>by omega),X2.mod M3 (by omega)⟩)
end
def RdIs (r:Except Int (It×Nat×Nat)) (S:Value) (i:Nat) (w:World) (D:Nat) (e:Ending) (w':World):Prop:=match r with
 | .error x=>x≠0∧e=.returned (.tuple #[.agg #[.bool false,.slice none 0 0,.slice none 0 0],.int .i64 0])∧∃n':Nat,Blk w' D 187 #[S,.int .i64 (n':Int),.int .i64 x]
 | .ok (x,q,m)=>Blk w' D 187 #[S,.int .i64 (m:Int),.int .i64 0]∧∃v1 v2 v3,e=.returned (.tuple #[.agg #[v1,v2,v3],.int .i64 ((i+q:Nat):Int)])∧ItC (fun b=>b < w.heap.size) w' x v1 v2 v3
theorem its_nil_s (A:Nat→Prop) (w:World):ItC A w (.s []) (.bool false) (.slice none 0 0) (.slice none 0 0):=by
 simp only [ItC]
 exact ⟨trivial,⟨none,0,rfl,RdB.nil _ _,fun h=>(h rfl).elim⟩,trivial⟩
def CapIs (v:Int) (b:By):Prop:=0≤v∧v≤1099511627776∧(v=(be b:Int)∨(v > 2147483648∧be b > 2147483648))
set_option maxHeartbeats 2000000 in
set_option maxRecDepth 10000 in
theorem item_calls:∀(f d n i j:Nat) (B:By) {w:World} {D k:Nat} {o:Option Addr},2 * (j - i)+1≤f→i≤j→j≤B.length→B.length≤65536→RdB w o B→B.length≤k→Blk w D 187 #[.slice o B.length k,.int .i64 (n:Int),.int .i64 0]→(B≠[]→Off (·=D) o)→n≤4096→d≤20 →
 Calls Tryz.prog moraineref4_reader_item.n #[.pointer (some ⟨D,0,none⟩),.int .i64 (i:Int),.int .i64 (j:Int),.int .i64 (d:Int)] w (fun e w'=>Vcg.Mod (·=D) w w'∧RdIs (dcd f d n (sg B i j)) (.slice o B.length k) i w D e w')
 | 0,_,_,_,_,_,_,_,_,_,hf,_,_,_,_,_,_,_,_,_=>absurd hf (by omega)
 | f+1,d,n,i,j,B,w,D,k,o,hf,hij,hjB,hlen,hr,hk,W,hoff,hn,hd20=>by
   refine calls_gen fun R hR=>moraineref4_reader_item.vc _ _ _ _ _ _ ?_
   unfold moraineref4_reader_item.Vc
   have hD:=W.lt
   rintro d3 w1 ⟨rfl,rfl⟩
   have M1:Vcg.Mod NoB w _:=Mod.alloc w (.cells #[.bool false,.slice none 0 0,.slice none 0 0] 111)
   have X1:=Blk.new w 111 #[.bool false,.slice none 0 0,.slice none 0 0]
   have hs1:=size_alloc w (.cells #[.bool false,.slice none 0 0,.slice none 0 0] 111)
   have W1:=W.mod' M1
   have hr1:=hr.mod' M1
   generalize hN:w.heap.size=N at *
   generalize w.alloc (.cells #[.bool false,.slice none 0 0,.slice none 0 0] 111)=w1 at *
   have M1':Vcg.Mod (·=D) w w1:=M1.mono (fun _ _ h=>h.elim)
   generalize hS:Value.slice o B.length k=S at *
   have hbl:(sg B i j).length=j - i:=sg_len hjB
   have bad:∀(w':World) (n':Nat) (a b c:Value) (x:Int),Vcg.Mod (·=D) w w'→Blk w' D 187 #[S,.int .i64 (n':Int),.int .i64 0]→Blk w' N 111 #[a,b,c]→dcd (f+1) d n (sg B i j)=.error x→x≠0 →
    Calls Tryz.prog 133 #[.pointer (some ⟨D,0,none⟩),.int .i64 x] w' (fun e w''=>e=.returned (.tuple #[.agg #[.bool false,.slice none 0 0,.slice none 0 0],.int .i64 0])∧Blk w'' N 111 #[a,b,c] ∧
     ∀w3,Vcg.Mod (·=N) w'' w3→R (.returned (.tuple #[.agg #[.bool false,.slice none 0 0,.slice none 0 0],.int .i64 0])) w3):=by
    intro w' n' a b c x M X' Y hx h0
    refine (fault_calls X' x).mono ?_
    rintro _ w2 ⟨rfl,M2,X2⟩
    refine ⟨rfl,Y.mod M2 (by omega),fun w3 M3=>hR _ _ ⟨(M.trans M2 (fun i hi h=>h)).trans M3 (fun i hi h=>by omega),?_⟩⟩
    rw [hx]
    exact ⟨h0,rfl,n',X2.mod M3 (by omega)⟩
   refine ⟨fun h0=>?_,fun h0=>?_⟩
   ·have hb:sg B i j=[]:=List.eq_nil_of_length_eq_zero (by omega)
    refine (bad w1 n _ _ _ 41 M1' W1 X1 (by rw [hb]; exact dcd_nil f d n) (by decide)).mono ?_
    rintro _ w2 ⟨rfl,X2,h2⟩
    exact ⟨_,_,_,_,_,_,_,_,rfl,ret_3 X2 h2⟩
   have hlt:i < j:=by omega
   have hbne:sg B i j≠[]:=fun h=>by rw [h] at hbl; simp at hbl; omega
   have hBne:B≠[]:=by rintro rfl; simp at hjB; omega
   refine ⟨fun hdeep=>?_,fun hdeep=>⟨_,by rw [add_at]; exact W1.rd1 rfl,fun hful=>?_,fun hful=>⟨_,by rw [add_at]; exact W1.rd1 rfl,?_⟩⟩⟩
   ·refine (bad w1 n _ _ _ 43 M1' W1 X1 (dcd_deep hbne (.inl (by omega))) (by decide)).mono ?_
    rintro _ w2 ⟨rfl,X2,h2⟩
    exact ⟨_,_,_,_,_,_,_,_,rfl,ret_3 X2 h2⟩
   ·refine (bad w1 n _ _ _ 43 M1' W1 X1 (dcd_deep hbne (.inr (by omega))) (by decide)).mono ?_
    rintro _ w2 ⟨rfl,X2,h2⟩
    exact ⟨_,_,_,_,_,_,_,_,rfl,ret_3 X2 h2⟩
   have ewn:IntKind.wrap .i64 ((n:Int)+1)=((n+1:Nat):Int):=by rw [wrap_i64_small (by omega) (by omega)]; omega
   rw [ewn,add_at]
   refine ⟨W1.canSet (by simp) rfl,?_⟩
   rintro _ rfl
   have W2:=W1.set 1 (.int .i64 ((n+1:Nat):Int))
   have X2:=X1.set_ne (a:=⟨D,0+1,none⟩) (v:=.int .i64 ((n+1:Nat):Int)) (by simp; omega)
   have M2:Vcg.Mod (·=D) w _:=M1'.step_set (a:=⟨D,0+1,none⟩) (v:=.int .i64 ((n+1:Nat):Int)) (fun _=>rfl)
   have hr2:RdB _ o B:=hr1.mod (Mod.setCell w1 ⟨D,0+1,none⟩ (.int .i64 ((n+1:Nat):Int))) (hoff hBne)
   have hs2:(w1.setCell ⟨D,0+1,none⟩ (.int .i64 ((n+1:Nat):Int))).heap.size=N+1:=by rw [size_setCell]; exact hs1
   generalize w1.setCell ⟨D,0+1,none⟩ (.int .i64 ((n+1:Nat):Int))=w2 at *
   clear X1 W1 hr1 M1 M1' hs1
   subst hS
   have hN2:∀{w':World},Vcg.Mod (·=D) w w'→RdB w' o B:=fun M=>hr.mod M (hoff hBne)
   obtain ⟨b0,f0,rfl,hb0,hcells⟩:=hr2 hBne
   have hb0N:b0 < N:=by
    obtain ⟨b1,f1,h1,h2,_⟩:=hr hBne
    cases h1
    omega
   have cell:∀{w':World},Vcg.Mod (·=D) w w'→∀t,t < B.length→w'.cell? ⟨b0,f0+t,none⟩=some (bV (B.getD t 0)):=fun M t ht=>by
    obtain ⟨b1,f1,h1,h2,h3⟩:=hN2 M hBne
    cases h1
    exact h3 t ht
   have hdn:¬(d > 16∨n=4096):=by omega
   have hdec:=dcd_go (f:=f) hbne hdn
   have hg0:(sg B i j).getD 0 0=B.getD i 0:=by rw [sg_get (by omega),Nat.add_zero]
   generalize hcv:(B.getD i 0).toNat=c at *
   have hc255:c≤255:=by have:=(B.getD i 0).toNat_lt; omega
   refine ⟨_,_,_,W2.rd1 rfl,_,rfl,⟨by omega,by omega⟩,(c:Int),by rw [add_at,Int.toNat_natCast]; have:=cell M2 i (by omega); simp only [bV,hcv] at this; exact this,?_⟩
   have ec:IntKind.wrap .i64 (c:Int)=(c:Int):=wrap_i64_small (by omega) (by omega)
   have ei1:IntKind.wrap .i64 ((i:Int)+1)=((i+1:Nat):Int):=by rw [wrap_i64_small (by omega) (by omega)]; omega
   rw [ec,ei1]
   have hhd:hd (sg B i j)=(if c < 128 then .ok (false,0,1,true) else
    if c - (if c≥192 then 192 else 128)≤55 then .ok (decide (c≥192),1,c - (if c≥192 then 192 else 128),false)
    else if j - i < 1+(c - (if c≥192 then 192 else 128) - 55) then .error 41
    else if (sg B i j).getD 1 0=0∨be (((sg B i j).drop 1).take (c - (if c≥192 then 192 else 128) - 55))≤55∨be (((sg B i j).drop 1).take (c - (if c≥192 then 192 else 128) - 55)) > 2147483648 then .error 40
    else .ok (decide (c≥192),1+(c - (if c≥192 then 192 else 128) - 55),be (((sg B i j).drop 1).take (c - (if c≥192 then 192 else 128) - 55)),false)):=by
    unfold hd
    simp only [hg0,hcv,hbl]
   refine ⟨fun hc=>?_,fun hc=>?_⟩
   ·rw [show hd (sg B i j)=.ok (false,0,1,true) by rw [hhd,if_pos (by omega)]] at hdec
    simp only at hdec
    rw [if_neg (by omega),if_pos trivial,if_neg (fun h=>by exact absurd h.1 (by decide))] at hdec
    have e8:IntKind.wrap .u8 (c:Int)=(c:Int):=by rw [wrap_u8]; omega
    rw [e8]
    rintro d4 w3 ⟨rfl,rfl⟩
    have M23:Vcg.Mod NoB w2 _:=Mod.alloc w2 (.cells #[.int .u8 (c:Int)] 5)
    have Z:=Blk.new w2 5 #[.int .u8 (c:Int)]
    refine ret_3 (X2.mod' M23) (fun w4 M4=>hR _ _ ⟨(M2.none_trans M23).trans M4 (fun i hi h=>by omega),?_⟩)
    rw [hdec]
    refine ⟨(W2.mod' M23).mod M4 (by omega),_,_,_,rfl,?_⟩
    have e1:((sg B i j).drop 0).take 1=[B.getD i 0]:=by
     rw [sg_sub (by omega),Nat.add_zero]
     exact sg_one (by omega)
    rw [e1]
    simp only [ItC]
    refine ⟨trivial,⟨_,_,rfl,RdB.of_blk (Z.mod M4 (by omega)) (fun t ht=>?_),fun _ dd hdd h=>?_⟩,trivial⟩
    ·simp only [List.length_singleton] at ht
     obtain rfl:t=0:=by omega
     simp only [Nat.zero_add,bV,List.getD_cons_zero,hcv]
     rfl
    ·cases hdd
     have h':w2.heap.size < w.heap.size:=h
     omega
   generalize hbase:(if c≥192 then 192 else 128)=base at *
   have hb1:128≤base∧base≤c:=by rw [← hbase]; split <;> omega
   have hkk8:c - base - 55≤8:=by rw [← hbase]; split <;> omega
   rw [if_neg (by omega)] at hhd
   refine ⟨fun v w'=>w'=w2∧v=(base:Int),⟨fun h=>⟨rfl,?_⟩,fun h=>⟨rfl,?_⟩⟩,?_⟩
   ·rw [← hbase,if_pos (by omega)]; rfl
   ·rw [← hbase,if_neg (by omega)]; rfl
   rintro _ _ w2 ⟨rfl,rfl⟩
   have ecb:IntKind.wrap .i64 ((c:Int) - (base:Int))=((c - base:Nat):Int):=by rw [wrap_i64_small (by omega) (by omega)]; omega
   rw [ecb]
   refine ⟨fun v t w'=>w'=w2∧∃a q:Nat,hd (sg B i j)=.ok (decide (c≥192),a,q,false)∧v=(q:Int)∧t=((i+a:Nat):Int)∧1≤a∧a≤j - i,⟨fun hgt=>?_,fun hle=>?_⟩,?_⟩
   ·have e55:IntKind.wrap .i64 (((c - base:Nat):Int) - 55)=((c - base - 55:Nat):Int):=by rw [wrap_i64_small (by omega) (by omega)]; omega
    rw [e55]
    rw [if_neg (by omega)] at hhd
    generalize hkk:c - base - 55=kk at *
    have efk:IntKind.wrap .i64 (((i+1:Nat):Int)+(kk:Int))=((i+1+kk:Nat):Int):=by rw [wrap_i64_small (by omega) (by omega)]; omega
    rw [efk]
    refine ⟨fun hsh=>?_,fun hsh=>?_⟩
    ·rw [if_pos (by omega)] at hhd
     rw [hhd] at hdec
     refine (bad w2 (n+1) _ _ _ 41 M2 W2 X2 hdec (by decide)).mono ?_
     rintro _ w3 ⟨rfl,X3,h3⟩
     exact ⟨_,_,_,_,_,_,_,_,rfl,ret_3 X3 h3⟩
    rw [if_neg (by omega)] at hhd
    refine ⟨fun v t w'=>w'=w2∧∃u:Nat,t=(u:Int)∧u≤kk∧CapIs v (((sg B i j).drop 1).take u),fun _ t _=>((kk:Int) - t).toNat,⟨rfl,0,rfl,Nat.zero_le _,by decide,by decide,.inl (by simp [be])⟩,?_⟩
    rintro v _ _ w2 ⟨rfl,u,rfl,hu,hv0,hv1,hv⟩
    have ew:IntKind.wrap .i64 ((u:Int)+1)=((u+1:Nat):Int):=by rw [wrap_i64_small (by omega) (by omega)]; omega
    refine ⟨fun hlt=>?_,fun hge=>?_⟩
    ·have huk:u < kk:=by omega
     have hstep:=be_step (sg B i j) (j:=u) (by omega)
     have hgu:((sg B i j).drop 1).getD u 0=B.getD (i+1+u) 0:=by rw [sg_drop,sg_get (by omega)]
     rw [hgu] at hstep
     refine ⟨fun b w'=>w'=w2∧b=decide (v≤2147483648),⟨fun _=>⟨rfl,rfl⟩,fun h8=>by omega⟩,?_⟩
     rintro _ _ w2 ⟨rfl,rfl⟩
     rw [ew]
     have efu:IntKind.wrap .i64 (((i+1:Nat):Int)+(u:Int))=((i+1+u:Nat):Int):=by rw [wrap_i64_small (by omega) (by omega)]; omega
     rw [efu]
     refine ⟨fun hb=>?_,fun hb=>?_⟩
     ·have hvle:=of_decide_eq_true hb
      have hvbe:v=(be (((sg B i j).drop 1).take u):Int):=by
       rcases hv with h | h
       ·exact h
       ·omega
      have c1:=cell M2 (i+1+u) (by omega)
      have hd256:=(B.getD (i+1+u) 0).toNat_lt
      refine ⟨_,_,_,W2.rd1 rfl,_,rfl,⟨by omega,by omega⟩,((B.getD (i+1+u) 0).toNat:Int),by rw [add_at,Int.toNat_natCast]; exact c1,?_⟩
      have ev:IntKind.wrap .i64 ((IntKind.wrap .i64 (256 * v))+(IntKind.wrap .i64 ((B.getD (i+1+u) 0).toNat:Int)))=((be (((sg B i j).drop 1).take (u+1)):Nat):Int):=by
       rw [wrap_i64_small (n:=256 * v) (by omega) (by omega),wrap_i64_small (n:=((B.getD (i+1+u) 0).toNat:Int)) (by omega) (by omega),wrap_i64_small (by omega) (by omega),hstep]
       omega
      rw [ev]
      exact ⟨⟨rfl,u+1,rfl,huk,by omega,by omega,.inl rfl⟩,by dsimp only; omega⟩
     ·have hvgt:=of_decide_eq_false hb
      exact ⟨⟨rfl,u+1,rfl,huk,hv0,hv1,.inr ⟨by omega,by omega⟩⟩,by dsimp only; omega⟩
    ·obtain rfl:u=kk:=by omega
     have c1:=cell M2 (i+1) (by omega)
     have hg1:(sg B i j).getD 1 0=B.getD (i+1) 0:=sg_get (by omega)
     rw [hg1] at hhd
     refine ⟨_,_,_,W2.rd1 rfl,_,rfl,⟨by omega,by omega⟩,((B.getD (i+1) 0).toNat:Int),by rw [add_at,Int.toNat_natCast]; exact c1,fun hz=>?_,fun hz=>⟨fun h56=>?_,fun h56=>⟨fun hbig=>?_,fun hbig=>?_⟩⟩⟩
     ·have hz0:B.getD (i+1) 0=0:=UInt8.toNat_inj.1 (by simpa using hz)
      rw [if_pos (.inl hz0)] at hhd
      rw [hhd] at hdec
      refine (bad w2 (n+1) _ _ _ 40 M2 W2 X2 hdec (by decide)).mono ?_
      rintro _ w3 ⟨rfl,X3,h3⟩
      exact ⟨_,_,_,_,_,_,_,_,rfl,ret_3 X3 h3⟩
     ·rw [if_pos (.inr (.inl (by omega)))] at hhd
      rw [hhd] at hdec
      refine (bad w2 (n+1) _ _ _ 40 M2 W2 X2 hdec (by decide)).mono ?_
      rintro _ w3 ⟨rfl,X3,h3⟩
      exact ⟨_,_,_,_,_,_,_,_,rfl,ret_3 X3 h3⟩
     ·rw [if_pos (.inr (.inr (by omega)))] at hhd
      rw [hhd] at hdec
      refine (bad w2 (n+1) _ _ _ 40 M2 W2 X2 hdec (by decide)).mono ?_
      rintro _ w3 ⟨rfl,X3,h3⟩
      exact ⟨_,_,_,_,_,_,_,_,rfl,ret_3 X3 h3⟩
     ·have hnz:¬B.getD (i+1) 0=0:=fun h=>hz (by rw [h]; rfl)
      rw [if_neg (fun h=>h.elim hnz (fun h=>h.elim (fun h=>by omega) (fun h=>by omega)))] at hhd
      exact ⟨rfl,1+u,_,hhd,by omega,by omega,by omega,by omega⟩
   ·rw [if_pos (by omega)] at hhd
    exact ⟨rfl,1,c - base,hhd,rfl,rfl,Nat.le_refl _,by omega⟩
   ·clear hhd
    rintro _ _ _ w2 ⟨rfl,a,q,hh,rfl,rfl,ha1,haj⟩
    rw [hh] at hdec
    simp only at hdec
    have hq31:=hd_bound hh
    have ejf:IntKind.wrap .i64 ((j:Int) - ((i+a:Nat):Int))=((j - (i+a):Nat):Int):=by rw [wrap_i64_small (by omega) (by omega)]; omega
    have eto:IntKind.wrap .i64 (((i+a:Nat):Int)+(q:Int))=((i+a+q:Nat):Int):=by rw [wrap_i64_small (by omega) (by omega)]; omega
    rw [ejf]
    refine ⟨fun hbig=>?_,fun hbig=>?_⟩
    ·rw [if_pos (by omega)] at hdec
     refine (bad w2 (n+1) _ _ _ 41 M2 W2 X2 hdec (by decide)).mono ?_
     rintro _ w3 ⟨rfl,X3,h3⟩
     exact ⟨_,_,_,_,_,_,_,_,rfl,ret_3 X3 h3⟩
    rw [if_neg (by omega)] at hdec
    have hq:i+a+q≤j:=by omega
    rw [sg_sub hq] at hdec
    rw [eto]
    have hil:(sg B (i+a) (i+a+q)).length=q:=by rw [sg_len (by omega)]; omega
    refine ⟨fun h128=>?_,fun h128=>?_⟩
    ·have hc192:¬c≥192:=fun h=>by rw [if_pos h] at hbase; omega
     rw [if_pos (decide_eq_false hc192)] at hdec
     refine ⟨fun w'=>w'=w2∧Trie.own (sg B (i+a) (i+a+q))=false,⟨fun h1=>?_,fun h1=>⟨rfl,?_⟩⟩,?_⟩
     ·have c1:=cell M2 (i+a) (by omega)
      have e1:sg B (i+a) (i+a+q)=[B.getD (i+a) 0]:=by
       rw [show i+a+q=i+a+1 by omega]
       exact sg_one (by omega)
      refine ⟨_,_,_,W2.rd1 rfl,_,rfl,⟨by omega,by omega⟩,((B.getD (i+a) 0).toNat:Int),by rw [add_at,Int.toNat_natCast]; exact c1,fun hlt=>?_,fun hlt=>⟨rfl,?_⟩⟩
      ·have ho:Trie.own (sg B (i+a) (i+a+q))=true:=by
        rw [e1]
        simp only [Trie.own,decide_eq_true_eq]
        rw [UInt8.lt_iff_toNat_lt]
        show _ < 128
        omega
       rw [if_pos ⟨trivial,ho⟩] at hdec
       refine (bad w2 (n+1) _ _ _ 40 M2 W2 X2 hdec (by decide)).mono ?_
       rintro _ w3 ⟨rfl,X3,h3⟩
       exact ⟨_,_,_,_,_,_,_,_,rfl,ret_3 X3 h3⟩
      ·rw [e1]
       simp only [Trie.own,decide_eq_false_iff_not]
       rw [UInt8.lt_iff_toNat_lt]
       show ¬_ < 128
       omega
     ·have hq1:q≠1:=by omega
      cases h:sg B (i+a) (i+a+q) with
      | nil=>rfl
      | cons x r =>
        cases r with
        | nil=>rw [h] at hil; simp at hil; omega
        | cons y r=>rfl
     ·rintro _ w2 ⟨rfl,hown⟩
      rw [if_neg (fun h=>by rw [hown] at h; exact absurd h.2 (by decide))] at hdec
      have hsub:=((hN2 M2).sub (c:=k) (lo:=i+a) (n:=q) hk)
      rw [show (B.drop (i+a)).take q=sg B (i+a) (i+a+q) by unfold sg; rw [Nat.add_sub_cancel_left]] at hsub
      obtain ⟨o5,k5,w5,hr5,F5⟩:=copy_bytes' (k2:=k - (i+a)) (ty:=23) (Mod.refl w2) hsub (by omega)
      rw [hil] at hr5 F5
      simp only [Int.toNat_natCast]
      refine ⟨_,_,_,W2.rd1 rfl,⟨by omega,by omega⟩,⟨by omega,by omega⟩,_,w5,by rw [show i+a+q - (i+a)=q by omega]; exact hr5,_,_,_,rfl,ret_3 (X2.mod' F5.mod) (fun w6 M6=>hR _ _ ⟨(M2.none_trans F5.mod).trans M6 (fun i hi h=>by omega),?_⟩)⟩
      rw [hdec]
      refine ⟨(W2.mod' F5.mod).mod M6 (by omega),_,_,_,by rw [Nat.add_assoc],?_⟩
      simp only [ItC]
      have hN5:∀b,OB o5 b→¬b=N:=fun b hb h=>by have:=F5.new b hb; omega
      refine ⟨trivial,⟨o5,k5,by rw [hil],(F5.own.mod M6 hN5).bytes,fun _ dd hdd h=>?_⟩,trivial⟩
      have:=F5.new dd.block ⟨dd,hdd,rfl⟩
      have h':dd.block < w.heap.size:=h
      omega
    ·have hc192:c≥192:=by
      rcases Nat.lt_or_ge c 192 with h | h
      ·rw [if_neg (by omega)] at hbase; omega
      ·exact h
     rw [if_neg (by rw [decide_eq_true hc192]; decide)] at hdec
     rintro dX w6 ⟨rfl,rfl⟩
     have Y6:=Blk.new w2 111 #[.bool false,.slice none 0 0,.slice none 0 0]
     have M26:Vcg.Mod NoB w2 _:=Mod.alloc w2 (.cells #[.bool false,.slice none 0 0,.slice none 0 0] 111)
     have hs6:=size_alloc w2 (.cells #[.bool false,.slice none 0 0,.slice none 0 0] 111)
     generalize hY:w2.heap.size=Y at *
     generalize w2.alloc (.cells #[.bool false,.slice none 0 0,.slice none 0 0] 111)=w6 at *
     refine set3 Y6 rfl rfl rfl (fun w7 Y7 Q7=>?_)
     have M27:Vcg.Mod NoB w2 w7:=mod_of M26 Q7 (by omega)
     have X7:=X2.mod' M27
     have W7:=W2.mod' M27
     have M07:=M2.none_trans M27
     have hs7:=M27.size
     have hY7:=Y7.lt
     clear X2 W2 Y6 M26 Q7 cell hcells hr2
     let good:Int→World→Prop:=fun v w'=>∃(fr n':Nat) (xs:List It) (f':Nat) (ol:Option Addr) (kl:Nat),v=(fr:Int)∧i+a≤fr∧fr≤i+a+q∧Blk w' D 187 #[.slice (some ⟨b0,f0,none⟩) B.length k,.int .i64 (n':Int),.int .i64 0]∧n'≤4096 ∧
      Blk w' Y 111 #[.bool true,.slice none 0 0,.slice ol xs.length kl]∧(∃a b c,Blk w' N 111 #[a,b,c])∧ItOwn (fun b=>b < w7.heap.size) w' xs ol xs.length kl∧(∀b,OB ol b→w7.heap.size≤b)∧Vcg.Mod (·=D) w w'∧w7.heap.size≤w'.heap.size ∧
      dcds f (d+1) (n+1) (sg B (i+a) (i+a+q))=pre xs (dcds f' (d+1) n' (sg B fr (i+a+q)))∧2 * (i+a+q - fr)+2≤f'∧f'≤f∧xs.length+(i+a+q - fr)≤q
     let over:World→Prop:=fun w'=>∃(x:Int) (n':Nat),x≠0∧dcds f (d+1) (n+1) (sg B (i+a) (i+a+q))=.error x∧Blk w' D 187 #[.slice (some ⟨b0,f0,none⟩) B.length k,.int .i64 (n':Int),.int .i64 x]∧(∃a b c,Blk w' N 111 #[a,b,c])∧Vcg.Mod (·=D) w w'
     have hfq:2 * q+2≤f:=by omega
     refine ⟨fun w'=>over w'∨good ((i+a+q:Nat):Int) w',⟨fun v w'=>over w'∨good v w',fun v w'=>match w'.cell? ⟨D,2,none⟩ with | some (.int .i64 0)=>(((i+a+q:Nat):Int) - v).toNat+1 | _=>0,.inr ⟨i+a,n+1,[],f,none,0,rfl,Nat.le_refl _,by omega,W7,by omega,Y7,⟨_,_,_,X7⟩,ItOwn.nil _ _,fun b hb=>(OB_none b hb).elim,M07,Nat.le_refl _,(pre_nil _).symm,by omega,Nat.le_refl _,by simp⟩,?_⟩,?_⟩
     ·rintro v _ w8 hst
      refine ⟨fun hlt=>?_,fun hge=>?_⟩
      ·rcases hst with ⟨x,n',hx0,hde,W8,hX8,M08⟩ | ⟨fr,n',xs,f',ol,kl,rfl,hfr1,hfr2,W8,hn',Y8,⟨xa,xb,xc,X8⟩,I8,hnew,M08,hs8,hde,hf',hff,hxl⟩
       ·exact ⟨x,by rw [add_at]; exact W8.rd1 rfl,fun h=>(hx0 h).elim,fun _=>.inl ⟨x,n',hx0,hde,W8,hX8,M08⟩⟩
       ·refine ⟨0,by rw [add_at]; exact W8.rd1 rfl,fun _=>?_,fun h=>(h rfl).elim⟩
        obtain ⟨f2,rfl⟩:∃f2,f'=f2+1:=⟨f' - 1,by omega⟩
        have hrl:(sg B fr (i+a+q)).length=i+a+q - fr:=sg_len (by omega)
        have hrne:sg B fr (i+a+q)≠[]:=fun h=>by rw [h] at hrl; simp at hrl; omega
        rw [dcds_go hrne] at hde
        have ed:IntKind.wrap .i64 ((d:Int)+1)=((d+1:Nat):Int):=by rw [wrap_i64_small (by omega) (by omega)]; omega
        rw [ed]
        refine (item_calls f2 (d+1) n' fr (i+a+q) B (by omega) (by omega) (by omega) hlen (hN2 M08) hk W8 hoff hn' (by omega)).mono ?_
        rintro e w9 ⟨M9,hdi⟩
        have hs9:=M9.size
        have hI9:=I8.lt
        have Y9:=Y8.mod M9 (by omega)
        have X9:=X8.mod M9 (by omega)
        have I9:=I8.modS M9 (fun b hb=>by omega) (fun b hb h=>by have:=hnew b hb; omega)
        have M09:=M08.trans M9 (fun i hi h=>h)
        have key:∃(y:It) (v1 v2 v3:Value) (nx:Int) (m':Nat) (x:Int),e=.returned (.tuple #[.agg #[v1,v2,v3],.int .i64 nx])∧ItC (fun b=>b < w8.heap.size) w9 y v1 v2 v3∧Blk w9 D 187 #[.slice (some ⟨b0,f0,none⟩) B.length k,.int .i64 (m':Int),.int .i64 x] ∧
         ((x≠0∧dcds f (d+1) (n+1) (sg B (i+a) (i+a+q))=.error x)∨(x=0∧m'≤4096∧∃q',1≤q'∧fr+q'≤i+a+q∧nx=((fr+q':Nat):Int)∧dcds f (d+1) (n+1) (sg B (i+a) (i+a+q))=pre (xs++[y]) (dcds f2 (d+1) m' (sg B (fr+q') (i+a+q))))):=by
         cases hd1:dcd f2 (d+1) n' (sg B fr (i+a+q)) with
         | error x =>
           rw [hd1] at hdi hde
           obtain ⟨hx0,rfl,m',W9⟩:=hdi
           exact ⟨.s [],_,_,_,_,m',x,rfl,its_nil_s _ _,W9,.inl ⟨hx0,hde⟩⟩
         | ok r =>
           obtain ⟨y,q',m'⟩:=r
           rw [hd1] at hdi hde
           simp only at hde
           obtain ⟨W9,v1,v2,v3,rfl,hy⟩:=hdi
           obtain ⟨k1,k2,k3,k4,k5,k6⟩:=(dec_ok f2 (d+1) n' (sg B fr (i+a+q))).1 _ _ _ hd1
           refine ⟨y,v1,v2,v3,_,m',0,rfl,hy,W9,.inr ⟨rfl,by omega,q',k1,by omega,rfl,?_⟩⟩
           rw [hde,sg_drop,← pre_pre]
           congr 1
        obtain ⟨y,v1,v2,v3,nx,m',x,rfl,hy,W9,hout⟩:=key
        have cW:w8.cell? ⟨D,2,none⟩=some (.int .i64 0):=W8.rd1 rfl
        clear hdi hde W8 Y8 X8 M08
        obtain ⟨bb,p1,q1,r1,p2,q2,r2,rfl,rfl,rfl⟩:=hy.vals
        refine ⟨_,_,_,_,_,_,_,_,rfl,?_⟩
        rintro dA wA ⟨rfl,rfl⟩
        have HA:=Blk.new w9 111 #[.bool false,.slice none 0 0,.slice none 0 0]
        have M9A:Vcg.Mod NoB w9 _:=Mod.alloc w9 (.cells #[.bool false,.slice none 0 0,.slice none 0 0] 111)
        have hsA:=size_alloc w9 (.cells #[.bool false,.slice none 0 0,.slice none 0 0] 111)
        generalize hHA:w9.heap.size=HH at *
        generalize w9.alloc (.cells #[.bool false,.slice none 0 0,.slice none 0 0] 111)=wA at *
        refine set3 HA rfl rfl rfl (fun wB HB QB=>?_)
        have M9B:Vcg.Mod NoB w9 wB:=mod_of M9A QB (by omega)
        have XB:=X9.mod' M9B
        have YB:=Y9.mod' M9B
        have WB:=W9.mod' M9B
        have hyB:=ItC.mod M9B _ hy
        have IB:=I9.mod' M9B
        have MB:=M09.none_trans M9B
        have hsB:=M9B.size
        clear HA M9A QB X9 Y9 W9 I9 M09 hy
        refine ⟨_,_,_,by rw [add_at]; exact YB.rd1 rfl,get3 HB ?_⟩
        rintro dD wD ⟨rfl,rfl⟩
        have MD:Vcg.Mod NoB wB _:=Mod.alloc wB (.cells #[.bool bb,.slice p1 q1 r1,.slice p2 q2 r2] 111)
        have E:=Blk.new wB 111 #[.bool bb,.slice p1 q1 r1,.slice p2 q2 r2]
        have XD:=XB.mod' MD
        have YD:=YB.mod' MD
        have WD:=WB.mod' MD
        have hyD:=ItC.mod MD _ hyB
        have ID:=IB.mod' MD
        have M0D:=MB.none_trans MD
        have hsD:=MD.size
        clear XB YB WB HB hyB IB MB
        generalize wB.heap.size=HE at *
        generalize wB.alloc (.cells #[.bool bb,.slice p1 q1 r1,.slice p2 q2 r2] 111)=wD at *
        obtain ⟨o',k',wE,hrun,IE,QE,hOB⟩:=ID.push E (ItC.mono (fun b hb=>by
         rcases hb with h | h
         ·exact Nat.lt_of_lt_of_le h hs8
         ·exact hI9 b h) _ hyD) (by omega)
        have nE:∀b,OB o' b→w7.heap.size≤b:=fun b hb=>by
         rcases hOB b hb with h | h
         ·exact hnew b h
         ·omega
        have XE:=XD.mod QE (fun h=>by have:=hnew _ h; omega)
        have YE:=YD.mod QE (fun h=>by have:=hnew _ h; omega)
        have WE:=WD.mod QE (fun h=>by have:=hnew _ h; omega)
        have M0E:=M0D.trans QE (fun i hi h=>by have:=hnew _ h; omega)
        have hsE:=QE.size
        refine ⟨_,wE,hrun,_,_,_,rfl,?_⟩
        rw [add_at]
        refine ⟨YE.canSet (by simp) rfl,?_⟩
        rintro _ rfl
        have QF:Vcg.Mod (·=Y) wE _:=Mod.setCell wE ⟨Y,0+2,none⟩ (.slice o' (xs.length+1) k')
        have YF:=YE.set 2 (.slice o' (xs.length+1) k')
        have IF:=IE.modS QF (fun b hb=>by omega) (fun b hb h=>by have:=nE b hb; omega)
        have XF:=XE.mod QF (by omega)
        have WF:=WE.mod QF (by omega)
        have M0F:=M0E.trans QF (fun i hi h=>by omega)
        have hsF:=QF.size
        have hl1:xs.length+1=(xs++[y]).length:=by rw [List.length_append,List.length_singleton]
        have cF:World.cell? _ ⟨D,2,none⟩=some (.int .i64 x):=WF.rd1 rfl
        rcases hout with ⟨hx0,hde⟩ | ⟨rfl,hm',q',hq1,hq2,rfl,hde⟩
        ·refine ⟨.inl ⟨x,m',hx0,hde,WF,⟨_,_,_,XF⟩,M0F⟩,?_⟩
         dsimp only
         rw [cW,cF]
         simp only
         split
         ·rename_i h
          simp only [Option.some.injEq,Value.int.injEq,true_and] at h
          exact (hx0 h).elim
         ·omega
        ·refine ⟨.inr ⟨fr+q',m',xs++[y],f2,o',k',rfl,by omega,hq2,WF,hm',by rw [← hl1]; exact YF,⟨_,_,_,XF⟩,by rw [← hl1]; exact IF,nE,M0F,by omega,hde,by omega,by omega,by omega⟩,?_⟩
         dsimp only
         rw [cW,cF]
         simp only
         omega
      ·rcases hst with h | ⟨fr,n',xs,f',ol,kl,rfl,hfr1,hfr2,rest⟩
       ·exact .inl h
       ·obtain rfl:fr=i+a+q:=by omega
        exact .inr ⟨i+a+q,n',xs,f',ol,kl,rfl,hfr1,hfr2,rest⟩
     ·rintro _ w8 (⟨x,n',hx0,hde,W8,⟨xa,xb,xc,X8⟩,M08⟩ | ⟨fr,n',xs,f',ol,kl,hfr,hfr1,hfr2,W8,hn',Y8,⟨xa,xb,xc,X8⟩,I8,hnew,M08,hs8,hde,hf',hff,hxl⟩)
      ·refine ⟨x,by rw [add_at]; exact W8.rd1 rfl,fun _=>?_,fun h=>(hx0 h).elim⟩
       rw [hde] at hdec
       refine ret_3 X8 (fun w9 M9=>hR _ _ ⟨M08.trans M9 (fun i hi h=>by omega),?_⟩)
       rw [hdec]
       exact ⟨hx0,rfl,n',W8.mod M9 (by omega)⟩
      ·obtain rfl:fr=i+a+q:=by omega
       refine ⟨0,by rw [add_at]; exact W8.rd1 rfl,fun h=>(h rfl).elim,fun _=>?_⟩
       obtain ⟨f2,rfl⟩:∃f2,f'=f2+1:=⟨f' - 1,by omega⟩
       rw [sg_nil,dcds_nil] at hde
       have hits:=I8.its (fun b hb h=>by
        have:=hnew b h
        have hb':b < w7.heap.size:=hb
        omega)
       refine get3 Y8 (ret_3 X8 (fun w9 M9=>hR _ _ ⟨M08.trans M9 (fun i hi h=>by omega),?_⟩))
       rw [hdec,hde]
       simp only [pre,List.append_nil]
       refine ⟨W8.mod M9 (by omega),_,_,_,by rw [Nat.add_assoc],?_⟩
       simp only [ItC]
       refine ⟨trivial,trivial,ol,kl,rfl,ItsC.mono (fun b hb=>?_) _ (ItsC.modA M9 (fun b hb=>?_) _ hits),I8.cap⟩
       ·have hb':b < w.heap.size:=hb
        show b < w7.heap.size
        omega
       ·show b < w7.heap.size
        omega
end Go.Proofs.YtfghidehlnfdiaaGreat
end
section
namespace Go.Proofs.YtfghidehlnfdiaaGreat
open Go Go.Vcg Go.Trie
theorem sg_all (B:By):sg B 0 B.length=B:=by simp [sg]
theorem rFirst_calls {w:World} {o:Option Addr} {k:Nat} {bs:By} (hr:RdB w o bs) (hk:bs.length≤k) :
 Calls Tryz.prog moraineref4_First.n #[.slice o bs.length k] w (fun e w'=>Vcg.Mod NoB w w'∧FirstIs bs w e w'):=by
 refine calls_gen fun R hR=>moraineref4_First.vc _ _ _ _ _ ?_
 unfold moraineref4_First.Vc
 rintro d1 w1 ⟨rfl,rfl⟩
 have M1:Vcg.Mod NoB w _:=Mod.alloc w (.cells #[.bool false,.slice none 0 0,.slice none 0 0] 111)
 have X1:=Blk.new w 111 #[.bool false,.slice none 0 0,.slice none 0 0]
 have hs1:=size_alloc w (.cells #[.bool false,.slice none 0 0,.slice none 0 0] 111)
 have hr1:=hr.mod' M1
 generalize hN:w.heap.size=N at *
 generalize w.alloc (.cells #[.bool false,.slice none 0 0,.slice none 0 0] 111)=w1 at *
 refine ⟨fun hbig=>?_,fun hbig=>?_⟩
 ·refine ret_3 X1 (fun w2 M2=>hR _ _ ⟨mod_of M1 M2 (by omega),?_⟩)
  unfold FirstIs
  rw [if_pos (by omega)]
  exact ⟨_,_,_,_,_,_,_,_,rfl⟩
 ·rintro d2 w2 ⟨rfl,rfl⟩
  have M12:Vcg.Mod NoB w1 _:=Mod.alloc w1 (.cells #[.slice o bs.length k,.int .i64 0,.int .i64 0] 187)
  have W2:=Blk.new w1 187 #[.slice o bs.length k,.int .i64 ((0:Nat):Int),.int .i64 0]
  have X2:=X1.mod' M12
  have hr2:=hr1.mod' M12
  have M2:=M1.none_trans M12
  have hs2:=size_alloc w1 (.cells #[.slice o bs.length k,.int .i64 0,.int .i64 0] 187)
  have hoff:bs≠[]→Off (·=w1.heap.size) o:=fun hne e he h=>by
   obtain ⟨b,f,ho,hb,_⟩:=hr hne
   rw [ho] at he; cases he
   simp only at h
   omega
  have hc:=item_calls (2 * bs.length+1) 1 0 0 bs.length bs (k:=k) (by omega) (Nat.zero_le _) (Nat.le_refl _) (by omega) hr2 hk W2 hoff (by omega) (by omega)
  rw [sg_all] at hc
  refine Calls.mono (R:=fun e w'=>Vcg.Mod (·=w1.heap.size) (w1.alloc (.cells #[.slice o bs.length k,.int .i64 0,.int .i64 0] 187)) w'∧RdIs (dcd (2 * bs.length+1) 1 0 bs) (.slice o bs.length k) 0 (w1.alloc (.cells #[.slice o bs.length k,.int .i64 0,.int .i64 0] 187)) w1.heap.size e w') hc ?_
  rintro e w3 ⟨M3,hd⟩
  have M03:Vcg.Mod NoB w w3:=mod_of M2 M3 (by omega)
  have X3:=X2.mod M3 (by omega)
  have hs3:=M3.size
  generalize hD:w1.heap.size=D at *
  have key:∃(y:It) (v1 v2 v3:Value) (nx:Int) (m':Nat) (x:Int),e=.returned (.tuple #[.agg #[v1,v2,v3],.int .i64 nx])∧ItC (fun b=>b < D) w3 y v1 v2 v3∧Blk w3 D 187 #[.slice o bs.length k,.int .i64 (m':Int),.int .i64 x] ∧
   ((x≠0∧dcd (2 * bs.length+1) 1 0 bs=.error x)∨(x=0∧∃q,dcd (2 * bs.length+1) 1 0 bs=.ok (y,q,m')∧nx=(q:Int))):=by
   cases hdc:dcd (2 * bs.length+1) 1 0 bs with
   | error x =>
     rw [hdc] at hd
     obtain ⟨hx0,rfl,m',W3⟩:=hd
     exact ⟨.s [],_,_,_,_,m',x,rfl,its_nil_s _ _,W3,.inl ⟨hx0,rfl⟩⟩
   | ok r =>
     obtain ⟨y,q,m⟩:=r
     rw [hdc] at hd
     obtain ⟨W3,v1,v2,v3,rfl,hy⟩:=hd
     refine ⟨y,v1,v2,v3,_,m,0,rfl,ItC.mono (fun b hb=>?_) _ hy,W3,.inr ⟨rfl,q,rfl,by rw [Nat.zero_add]⟩⟩
     show b < _
     rw [hs2]
     have hb':b < D:=hb
     omega
  obtain ⟨y,v1,v2,v3,nx,m',x,rfl,hy,W3,hout⟩:=key
  clear hd hc
  obtain ⟨bb,p1,q1,r1,p2,q2,r2,rfl,rfl,rfl⟩:=hy.vals
  refine ⟨_,_,_,_,_,_,_,_,rfl,?_⟩
  rintro d4 w4 ⟨rfl,rfl⟩
  have H:=Blk.new w3 111 #[.bool false,.slice none 0 0,.slice none 0 0]
  have M34:Vcg.Mod NoB w3 _:=Mod.alloc w3 (.cells #[.bool false,.slice none 0 0,.slice none 0 0] 111)
  refine set3 H rfl rfl rfl (fun w5 H5 Q5=>?_)
  have M35:Vcg.Mod NoB w3 w5:=mod_of M34 Q5 (Nat.le_refl _)
  have X5:=X3.mod' M35
  have W5:=W3.mod' M35
  have hy5:=ItC.mod M35 _ hy
  have M05:=M03.none_trans M35
  have hs5:=M35.size
  clear H M34 Q5 X3 W3 hy M03 M35
  refine ⟨x,by rw [add_at]; exact W5.rd1 rfl,fun hx0=>?_,fun hx0=>?_⟩
  ·rcases hout with ⟨_,hdc⟩ | ⟨h,_⟩
   ·rintro _ rfl
    have M6:Vcg.Mod NoB w5 w5.drew:=Mod.drew w5
    have W6:=W5.mod' M6
    have X6:=X5.mod' M6
    have M06:=M05.none_trans M6
    generalize w5.drew=w6 at *
    refine ⟨x,by rw [add_at]; exact W6.rd1 rfl,set3 X6 rfl rfl rfl (fun w7 X7 Q7=>⟨by rw [add_at]; exact (W6.mod Q7 (by omega)).rd1 rfl,get3 X7 (hR _ _ ⟨mod_of M06 Q7 (by omega),?_⟩)⟩)⟩
    unfold FirstIs
    rw [if_neg (by omega),hdc]
    exact ⟨hx0,_,_,_,_,_,_,_,_,rfl⟩
   ·exact (hx0 h).elim
  ·rcases hout with ⟨h,_⟩ | ⟨_,q,hdc,rfl⟩
   ·exact (h hx0).elim
   ·refine get3 H5 (ret_3 X5 (fun w7 Q7=>hR _ _ ⟨mod_of M05 Q7 (by omega),?_⟩))
    unfold FirstIs
    rw [if_neg (by omega),hdc]
    refine ⟨_,_,_,rfl,ItC.mono (fun b hb=>?_) _ (ItC.modA Q7 (fun b hb=>?_) _ hy5)⟩
    ·have hb':b < w.heap.size:=hb
     show b < D
     omega
    ·show b < D
     omega
theorem rDecode_calls {w:World} {o:Option Addr} {k:Nat} {bs:By} (hr:RdB w o bs) (hk:bs.length≤k) :
 Calls Tryz.prog moraineref4_Decode.n #[.slice o bs.length k] w (fun e w'=>Vcg.Mod NoB w w'∧DecodeIs bs w e w'):=by
 refine calls_gen fun R hR=>moraineref4_Decode.vc _ _ _ _ _ ?_
 unfold moraineref4_Decode.Vc
 rintro d1 w1 ⟨rfl,rfl⟩
 have M1:Vcg.Mod NoB w _:=Mod.alloc w (.cells #[.bool false,.slice none 0 0,.slice none 0 0] 111)
 have X1:=Blk.new w 111 #[.bool false,.slice none 0 0,.slice none 0 0]
 have hs1:=size_alloc w (.cells #[.bool false,.slice none 0 0,.slice none 0 0] 111)
 have hr1:=hr.mod' M1
 generalize hN:w.heap.size=N at *
 generalize w.alloc (.cells #[.bool false,.slice none 0 0,.slice none 0 0] 111)=w1 at *
 refine (rFirst_calls hr1 hk).mono ?_
 rintro e w2 ⟨M2,hf⟩
 have M02:=M1.none_trans M2
 have X2:=X1.mod' M2
 have hs2:=M2.size
 have bad:∀(w':World) (x:Int),dcod bs=.error x→x≠0→Vcg.Mod NoB w w'→Blk w' N 111 #[.bool false,.slice none 0 0,.slice none 0 0]→∀w'':World,Vcg.Mod (·=N) w' w''→R (.returned (.tuple #[.agg #[.bool false,.slice none 0 0,.slice none 0 0],.int .i64 x])) w'':=by
  intro w' x hx h0 M X w'' M'
  refine hR _ _ ⟨mod_of M M' (by omega),?_⟩
  unfold DecodeIs
  rw [hx]
  exact ⟨h0,_,_,_,_,_,_,_,rfl⟩
 have key:(∃b p1 q1 r1 p2 q2 r2 n1 x,e=.returned (.tuple #[.agg #[.bool b,.slice p1 q1 r1,.slice p2 q2 r2],.int .i64 n1,.int .i64 x])∧x≠0∧dcod bs=.error x) ∨
  (∃y q m v1 v2 v3,¬bs.length > 65536∧dcd (2 * bs.length+1) 1 0 bs=.ok (y,q,m)∧e=.returned (.tuple #[.agg #[v1,v2,v3],.int .i64 (q:Int),.int .i64 0])∧ItC (fun b=>b < w1.heap.size) w2 y v1 v2 v3):=by
  unfold FirstIs at hf
  split at hf
  ·rename_i hbig
   obtain ⟨b,p1,q1,r1,p2,q2,r2,n1,he⟩:=hf
   exact .inl ⟨_,_,_,_,_,_,_,_,_,he,by decide,by unfold dcod; rw [if_pos hbig]⟩
  ·rename_i hbig
   split at hf
   ·rename_i x hdc
    obtain ⟨hx,b,p1,q1,r1,p2,q2,r2,n1,he⟩:=hf
    exact .inl ⟨_,_,_,_,_,_,_,_,_,he,hx,by unfold dcod; rw [if_neg hbig,hdc]⟩
   ·rename_i y q m hdc
    obtain ⟨v1,v2,v3,he,hy⟩:=hf
    exact .inr ⟨_,_,_,_,_,_,hbig,hdc,he,hy⟩
 rcases key with ⟨b,p1,q1,r1,p2,q2,r2,n1,x,rfl,hx,hdc⟩ | ⟨y,q,m,v1,v2,v3,hbig,hdc,rfl,hy⟩
 ·refine ⟨_,_,_,_,_,_,_,_,_,rfl,?_⟩
  rintro d3 w3 ⟨rfl,rfl⟩
  have H:=Blk.new w2 111 #[.bool false,.slice none 0 0,.slice none 0 0]
  have M23:Vcg.Mod NoB w2 _:=Mod.alloc w2 (.cells #[.bool false,.slice none 0 0,.slice none 0 0] 111)
  refine set3 H rfl rfl rfl (fun w4 H4 Q4=>?_)
  have M24:Vcg.Mod NoB w2 w4:=mod_of M23 Q4 (Nat.le_refl _)
  exact ⟨fun h=>(hx h).elim,fun _=>⟨fun _=>ret_3 (X2.mod' M24) (bad w4 x hdc hx (M02.none_trans M24) (X2.mod' M24)),fun h=>(hx h).elim⟩⟩
 ·obtain ⟨bb,p1,q1,r1,p2,q2,r2,rfl,rfl,rfl⟩:=hy.vals
  refine ⟨_,_,_,_,_,_,_,_,_,rfl,?_⟩
  rintro d3 w3 ⟨rfl,rfl⟩
  have H:=Blk.new w2 111 #[.bool false,.slice none 0 0,.slice none 0 0]
  have M23:Vcg.Mod NoB w2 _:=Mod.alloc w2 (.cells #[.bool false,.slice none 0 0,.slice none 0 0] 111)
  refine set3 H rfl rfl rfl (fun w4 H4 Q4=>?_)
  have M24:Vcg.Mod NoB w2 w4:=mod_of M23 Q4 (Nat.le_refl _)
  have X4:=X2.mod' M24
  have hy4:=ItC.mod M24 _ hy
  refine ⟨fun _=>⟨fun hlt=>?_,fun hlt=>⟨fun h=>(h rfl).elim,fun _=>?_⟩⟩,fun h=>(h rfl).elim⟩
  ·refine ret_3 X4 (bad w4 42 ?_ (by decide) (M02.none_trans M24) X4)
   unfold dcod
   rw [if_neg hbig,hdc]
   simp only
   rw [if_pos (by omega)]
  ·refine get3 H4 (ret_3 X4 (fun w5 M5=>hR _ _ ⟨mod_of (M02.none_trans M24) M5 (by omega),?_⟩))
   have hd:dcod bs=.ok y:=by
    unfold dcod
    rw [if_neg hbig,hdc]
    simp only
    rw [if_neg (by omega)]
   unfold DecodeIs
   rw [hd]
   refine ⟨_,_,_,rfl,ItC.mono (fun b hb=>?_) _ (ItC.modA M5 (fun b hb=>?_) _ hy4)⟩
   ·have:b < w.heap.size:=hb
    show b < w1.heap.size
    omega
   ·show b < w1.heap.size
    omega
end Go.Proofs.YtfghidehlnfdiaaGreat
end
section
namespace Go.Proofs.YtfghidehlnfdiaaGreat
open Go Go.Vcg Go.Trie
theorem encs_take (xs:List It) {j:Nat} (hj:j < xs.length):encs (xs.take (j+1))=encs (xs.take j)++enc xs[j]:=by
 rw [List.take_succ_eq_append_getElem hj,encs_append]
 simp [encs]
theorem Of_calls':∀(f:Nat) (x:It) {A:Nat→Prop} {w0 w:World} {b:Bool} {o1:Option Addr} {l1 c1:Nat} {o2:Option Addr} {l2 c2:Nat},dep x≤f→ItC A w0 x (.bool b) (.slice o1 l1 c1) (.slice o2 l2 c2)→Vcg.Mod NoB w0 w→(enc x).length≤65536 →
 Calls Tryz.prog moraineref4_Of.n #[.agg #[.bool b,.slice o1 l1 c1,.slice o2 l2 c2]] w (fun e w'=>∃o' k',e=.returned (.slice o' (enc x).length k')∧Fresh w w' tU8 1 o' (enc x).length k' ((enc x).map bV))
 | 0,x,_,_,_,_,_,_,_,_,_,_,hd,_,_,_=>absurd (dep_pos x) (by omega)
 | f+1,x,A,w0,w,b,o1,l1,c1,o2,l2,c2,hd,h,M,hl=>by
   refine calls_gen fun R hR=>moraineref4_Of.vc _ _ _ _ _ _ _ _ _ ?_
   unfold moraineref4_Of.Vc
   rintro d3 w1 ⟨rfl,rfl⟩
   have M1:Vcg.Mod NoB w _:=Mod.alloc w (.cells #[.bool b,.slice o1 l1 c1,.slice o2 l2 c2] 111)
   have X1:=Blk.new w 111 #[.bool b,.slice o1 l1 c1,.slice o2 l2 c2]
   have hs1:=size_alloc w (.cells #[.bool b,.slice o1 l1 c1,.slice o2 l2 c2] 111)
   generalize hN:w.heap.size=N at *
   generalize w.alloc (.cells #[.bool b,.slice o1 l1 c1,.slice o2 l2 c2] 111)=w1 at *
   have M01:=M.none_trans M1
   have from1:∀{w2:World} {o:Option Addr} {l k:Nat} {vs:List Value},Fresh w1 w2 tU8 1 o l k vs→Fresh w w2 tU8 1 o l k vs:=fun F=>⟨F.own,M1.none_trans F.mod,fun k hk=>by have:=F.new k hk; omega⟩
   cases x with
   | s bs =>
     simp only [ItC] at h
     obtain ⟨h1,⟨o,c,h2,h3,h4⟩,h5⟩:=h
     cases h1; cases h2; cases h5
     have hbl:bs.length < 2 ^ 30:=by
      have:bs.length≤(enc (.s bs)).length:=by
       simp only [enc]
       split
       ·exact Nat.le_refl _
       ·rw [List.length_append]; omega
      omega
     refine ⟨_,X1.rd1 rfl,fun _=>⟨_,_,_,by rw [add_at]; exact X1.rd1 rfl,?_⟩,fun hb=>(by cases hb)⟩
     refine (rBytes_calls (h3.mod' M01) hbl).mono ?_
     rintro _ w2 ⟨o',k',rfl,F⟩
     exact ⟨_,_,_,rfl,hR _ _ ⟨o',k',rfl,from1 F⟩⟩
   | l xs =>
     simp only [ItC] at h
     obtain ⟨h1,h2,o,c,h3,h4,_⟩:=h
     cases h1; cases h2; cases h3
     have hel:(encs xs).length≤65536:=by
      simp only [enc,List.length_append] at hl
      omega
     refine ⟨_,X1.rd1 rfl,fun hb=>(by cases hb),fun _=>?_⟩
     refine ⟨fun o' l' k' i w'=>∃j:Nat,i=(j:Int)∧j≤xs.length∧l'=(encs (xs.take j)).length∧Fresh w1 w' tU8 1 o' l' k' ((encs (xs.take j)).map bV),fun _ _ _ i _=>((xs.length:Int) - i).toNat,⟨0,rfl,Nat.zero_le _,rfl,Fresh.nil (Mod.refl w1) _ _⟩,?_⟩
     rintro o4 _ k4 _ _ w4 ⟨j,rfl,hj,rfl,F4⟩
     have X4:=X1.mod' F4.mod
     have hlen:=counts_len xs
     have hc:=encs_len xs
     refine ⟨_,_,_,by rw [add_at]; exact X4.rd1 rfl,fun hlt=>⟨fun hle=>?_,fun hgt=>?_⟩,fun hge=>?_⟩
     ·have hjl:j < xs.length:=by omega
      have M04:=M01.none_trans F4.mod
      obtain ⟨g,f0,v1,v2,v3,ho,hg,e1,e2,e3,hi⟩:=(ItsC.mod M04 _ h4).get j hjl
      obtain ⟨bb,p1,q1,r1,p2,q2,r2,rfl,rfl,rfl⟩:=hi.vals
      rw [Nat.zero_add] at e1 e2 e3
      have hdj:dep xs[j]≤f:=by
       have:=dep_mem (List.getElem_mem hjl)
       simp only [dep] at hd
       omega
      have hej:=encs_take xs hjl
      have hle2:=encs_take_le xs (j+1)
      rw [hej,List.length_append] at hle2
      refine ⟨_,_,_,by rw [add_at]; exact X4.rd1 rfl,_,ho,⟨by omega,by omega⟩,_,_,_,_,_,_,_,by rw [add_at,Int.toNat_natCast]; exact e1,by rw [add_at,add_at,Int.toNat_natCast]; exact e2,by rw [add_at,add_at,Int.toNat_natCast]; exact e3,?_⟩
      refine (Of_calls' f xs[j] hdj hi (Mod.refl w4) (by omega)).mono ?_
      rintro _ w5 ⟨o5,k5,rfl,F5⟩
      obtain ⟨o6,k6,w6,hr6,F6⟩:=push_bytes (k2:=k5) (ty:=23) (F4.mod' F5.mod) F5.own.bytes (by omega)
      have ew:IntKind.wrap .i64 ((j:Int)+1)=((j+1:Nat):Int):=by rw [wrap_i64_small (by omega) (by omega)]; omega
      rw [ew]
      rw [← hej] at F6
      refine ⟨_,_,_,rfl,_,w6,hr6,_,_,_,rfl,⟨j+1,rfl,hjl,?_,?_⟩,by dsimp only; omega⟩
      ·rw [hej,List.length_append]
      ·exact F6
     ·have:=encs_take_le xs j
      omega
     ·obtain rfl:j=xs.length:=by omega
      rw [List.take_length] at F4 ⊢
      refine (rList_calls F4.own.bytes (by omega)).mono ?_
      rintro _ w5 ⟨o5,k5,rfl,F5⟩
      refine ⟨_,_,_,rfl,hR _ _ ⟨o5,k5,?_,?_⟩⟩
      ·simp only [enc]
      ·simp only [enc]
       exact from1 ⟨F5.own,F4.mod.none_trans F5.mod,fun k hk=>Nat.le_trans F4.mod.size (F5.new k hk)⟩
end Go.Proofs.YtfghidehlnfdiaaGreat
end
section
namespace Go.Proofs.YtfghidehlnfdiaaGreat
open Go Go.Vcg
abbrev trie_decoded.n:Nat:=121
def trie_decoded.Vc (o0:Option Addr) (l0 c0:Nat) (w:World) (R:Ending→World→Prop):Prop :=
 Calls Tryz.prog 102 #[(.slice o0 l0 c0)] w (fun e1 w2 =>
 ∃b3 o4 l5 l6 o7 l8 l9 n10,e1=.returned (.tuple #[(.agg #[(.bool b3),(.slice o4 l5 l6),(.slice o7 l8 l9)]),(.int .i64 n10)]) ∧
 ∀d11 w12,IsNew w2 111 #[(.bool false),(.slice none 0 0),(.slice none 0 0)] d11 w12 →
 CanSet w12 d11 (.bool b3)∧∀w13,IsSet w12 d11 (.bool b3) w13 →
 CanSet w13 (Addr.add d11 1) (.slice o4 l5 l6)∧∀w14,IsSet w13 (Addr.add d11 1) (.slice o4 l5 l6) w14 →
 CanSet w14 (Addr.add d11 2) (.slice o7 l8 l9)∧∀w15,IsSet w14 (Addr.add d11 2) (.slice o7 l8 l9) w15 →
 (((n10≠0 →
 R (.returned (.tuple #[.nilIface,(.int .i64 n10)])) w15)) ∧
 ((n10=0 →
 ∃b16 o17 l18 l19 o20 l21 l22,World.cell? w15 d11=some (.bool b16) ∧
 World.cell? w15 (Addr.add d11 1)=some (.slice o17 l18 l19) ∧
 World.cell? w15 (Addr.add d11 2)=some (.slice o20 l21 l22) ∧
 Calls Tryz.prog 135 #[(.agg #[(.bool b16),(.slice o17 l18 l19),(.slice o20 l21 l22)])] w15 (fun e23 w24 =>
 ∃v25 b26,e23=.returned (.tuple #[v25,(.bool b26)]) ∧
 (((b26=false →
 R (.returned (.tuple #[.nilIface,(.int .i64 143)])) w24)) ∧
 ((b26=true →
 R (.returned (.tuple #[v25,(.int .i64 0)])) w24))))))))
theorem trie_decoded.vc (o0:Option Addr) (l0:Nat) (c0:Nat) (w:World) (R:Ending→World→Prop) (h:trie_decoded.Vc o0 l0 c0 w R):Calls Tryz.prog 121 #[(.slice o0 l0 c0)] w R :=
 execF_sound (R:=⟨R,false⟩) (ann:=[]) (args:=[.slice o0 l0 c0]) Tryz.func121 mixed (Eq.mp (by kernel_rfl:trie_decoded.Vc o0 l0 c0 w R=execF (pA Tryz.prog ⟨R,false⟩) Tryz.prog [] Tryz.f121 [.slice o0 l0 c0] w) h)

abbrev trie_noded.n:Nat:=135
def trie_noded.Vc (b0:Bool) (o1:Option Addr) (l1 c1:Nat) (o2:Option Addr) (l2 c2:Nat) (w:World) (R:Ending→World→Prop):Prop :=
 ∀d3 w4,IsNew w 111 #[(.bool b0),(.slice o1 l1 c1),(.slice o2 l2 c2)] d3 w4 →
 ∃b5,World.cell? w4 d3=some (.bool b5) ∧
 (((b5=false →
 R (.returned (.tuple #[.nilIface,(.bool false)])) w4)) ∧
 ((b5=true →
 ∃o6 l7 l8,World.cell? w4 (Addr.add d3 2)=some (.slice o6 l7 l8) ∧
 (((((l7:Nat):Int)=2 →
 ∀w9,IsDrew w4 w9 →
 ∃o10 l11 l12,World.cell? w9 (Addr.add d3 2)=some (.slice o10 l11 l12) ∧
 ∃d13,o10=some d13 ∧
 ((0:Int)≤0∧0 < ((l11:Nat):Int)) ∧
 ∃b14 o15 l16 l17 o18 l19 l20,World.cell? w9 (Addr.add d13 0)=some (.bool b14) ∧
 World.cell? w9 (Addr.add (Addr.add d13 0) 1)=some (.slice o15 l16 l17) ∧
 World.cell? w9 (Addr.add (Addr.add d13 0) 2)=some (.slice o18 l19 l20) ∧
 ∃o21 l22 l23,World.cell? w9 (Addr.add d3 2)=some (.slice o21 l22 l23) ∧
 ∃d24,o21=some d24 ∧
 ((0:Int)≤1∧1 < ((l22:Nat):Int)) ∧
 ∃b25 o26 l27 l28 o29 l30 l31,World.cell? w9 (Addr.add d24 3)=some (.bool b25) ∧
 World.cell? w9 (Addr.add (Addr.add d24 3) 1)=some (.slice o26 l27 l28) ∧
 World.cell? w9 (Addr.add (Addr.add d24 3) 2)=some (.slice o29 l30 l31) ∧
 Calls Tryz.prog 146 #[(.agg #[(.bool b14),(.slice o15 l16 l17),(.slice o18 l19 l20)]),(.agg #[(.bool b25),(.slice o26 l27 l28),(.slice o29 l30 l31)])] w9 (fun e32 w33 =>
 ∃v34 b35,e32=.returned (.tuple #[v34,(.bool b35)]) ∧
 R (.returned (.tuple #[v34,(.bool b35)])) w33))) ∧
 ((((l7:Nat):Int)≠2 →
 ∃o36 l37 l38,World.cell? w4 (Addr.add d3 2)=some (.slice o36 l37 l38) ∧
 (((((l37:Nat):Int)=17 →
 ∃o39 l40 l41,World.cell? w4 (Addr.add d3 2)=some (.slice o39 l40 l41) ∧
 Calls Tryz.prog 147 #[(.slice o39 l40 l41)] w4 (fun e42 w43 =>
 ∃v44 b45,e42=.returned (.tuple #[v44,(.bool b45)]) ∧
 R (.returned (.tuple #[v44,(.bool b45)])) w43))) ∧
 ((((l37:Nat):Int)≠17 →
 R (.returned (.tuple #[.nilIface,(.bool false)])) w4)))))))))
theorem trie_noded.vc (b0:Bool) (o1:Option Addr) (l1:Nat) (c1:Nat) (o2:Option Addr) (l2:Nat) (c2:Nat) (w:World) (R:Ending→World→Prop) (h:trie_noded.Vc b0 o1 l1 c1 o2 l2 c2 w R):Calls Tryz.prog 135 #[(.agg #[(.bool b0),(.slice o1 l1 c1),(.slice o2 l2 c2)])] w R :=
 execF_sound (R:=⟨R,false⟩) (ann:=[]) (args:=[.agg [.bool (.var b0),.slice o1 l1 c1,.slice o2 l2 c2]]) Tryz.func135 mixed (Eq.mp (by kernel_rfl:trie_noded.Vc b0 o1 l1 c1 o2 l2 c2 w R=execF (pA Tryz.prog ⟨R,false⟩) Tryz.prog [] Tryz.f135 [.agg [.bool (.var b0),.slice o1 l1 c1,.slice o2 l2 c2]] w) h)

abbrev trie_short.n:Nat:=146
def trie_short.Vc (b0:Bool) (o1:Option Addr) (l1 c1:Nat) (o2:Option Addr) (l2 c2:Nat) (b3:Bool) (o4:Option Addr) (l4 c4:Nat) (o5:Option Addr) (l5 c5:Nat) (w:World) (R:Ending→World→Prop):Prop :=
 ∀d6 w7,IsNew w 111 #[(.bool b0),(.slice o1 l1 c1),(.slice o2 l2 c2)] d6 w7 →
 ∀d8 w9,IsNew w7 111 #[(.bool b3),(.slice o4 l4 c4),(.slice o5 l5 c5)] d8 w9 →
 ∃b10,World.cell? w9 d6=some (.bool b10) ∧
 (((b10=true →
 R (.returned (.tuple #[.nilIface,(.bool false)])) w9)) ∧
 ((b10=false →
 ∃o11 l12 l13,World.cell? w9 (Addr.add d6 1)=some (.slice o11 l12 l13) ∧
 Calls Tryz.prog 99 #[(.slice o11 l12 l13)] w9 (fun e14 w15 =>
 ∃o16 l17 l18 b19 n20,e14=.returned (.tuple #[(.slice o16 l17 l18),(.bool b19),(.int .i64 n20)]) ∧
 (((n20≠0 →
 R (.returned (.tuple #[.nilIface,(.bool false)])) w15)) ∧
 ((n20=0 →
 (((b19=true →
 ∀w21,IsDrew w15 w21 →
 ∃o22 l23 l24,World.cell? w21 (Addr.add d8 1)=some (.slice o22 l23 l24) ∧
 ∃b25,World.cell? w21 d8=some (.bool b25) ∧
 (((b25=false →
 ∃o26 l27 l28,World.cell? w21 (Addr.add d8 1)=some (.slice o26 l27 l28) ∧
 ∀d29 w30,IsNew w21 243 #[(.slice o16 l17 l18),(.slice o22 l23 l24)] d29 w30 →
 World.cell? w30 (Addr.add d8 1)=some (.slice o26 l27 l28) ∧
 World.cell? w30 d8=some (.bool b25) ∧
 R (.returned (.tuple #[(.iface 241 (.pointer (some d29))),(.bool (decide (((l27:Nat):Int) > 0)))])) w30)) ∧
 ((b25=true →
 ∀d31 w32,IsNew w21 243 #[(.slice o16 l17 l18),(.slice o22 l23 l24)] d31 w32 →
 World.cell? w32 d8=some (.bool b25) ∧
 R (.returned (.tuple #[(.iface 241 (.pointer (some d31))),(.bool false)])) w32))))) ∧
 ((b19=false →
 (((((l17:Nat):Int)=0 →
 R (.returned (.tuple #[.nilIface,(.bool false)])) w15)) ∧
 ((((l17:Nat):Int)≠0 →
 ∃b33 o34 l35 l36 o37 l38 l39,World.cell? w15 d8=some (.bool b33) ∧
 World.cell? w15 (Addr.add d8 1)=some (.slice o34 l35 l36) ∧
 World.cell? w15 (Addr.add d8 2)=some (.slice o37 l38 l39) ∧
 Calls Tryz.prog 158 #[(.agg #[(.bool b33),(.slice o34 l35 l36),(.slice o37 l38 l39)])] w15 (fun e40 w41 =>
 ∃v42 b43,e40=.returned (.tuple #[v42,(.bool b43)]) ∧
 Value.oneCell' v42=true ∧
 ∀d44 w45,IsNew w41 251 #[(.slice o16 l17 l18),v42] d44 w45 →
 R (.returned (.tuple #[(.iface 249 (.pointer (some d44))),(.bool b43)])) w45))))))))))))))
theorem trie_short.vc (b0:Bool) (o1:Option Addr) (l1:Nat) (c1:Nat) (o2:Option Addr) (l2:Nat) (c2:Nat) (b3:Bool) (o4:Option Addr) (l4:Nat) (c4:Nat) (o5:Option Addr) (l5:Nat) (c5:Nat) (w:World) (R:Ending→World→Prop) (h:trie_short.Vc b0 o1 l1 c1 o2 l2 c2 b3 o4 l4 c4 o5 l5 c5 w R):Calls Tryz.prog 146 #[(.agg #[(.bool b0),(.slice o1 l1 c1),(.slice o2 l2 c2)]),(.agg #[(.bool b3),(.slice o4 l4 c4),(.slice o5 l5 c5)])] w R :=
 execF_sound (R:=⟨R,false⟩) (ann:=[]) (args:=[.agg [.bool (.var b0),.slice o1 l1 c1,.slice o2 l2 c2],.agg [.bool (.var b3),.slice o4 l4 c4,.slice o5 l5 c5]]) Tryz.func146 mixed (Eq.mp (by kernel_rfl:trie_short.Vc b0 o1 l1 c1 o2 l2 c2 b3 o4 l4 c4 o5 l5 c5 w R=execF (pA Tryz.prog ⟨R,false⟩) Tryz.prog [] Tryz.f146 [.agg [.bool (.var b0),.slice o1 l1 c1,.slice o2 l2 c2],.agg [.bool (.var b3),.slice o4 l4 c4,.slice o5 l5 c5]] w) h)

abbrev trie_branched.n:Nat:=147
def trie_branched.Vc (o0:Option Addr) (l0 c0:Nat) (w:World) (R:Ending→World→Prop):Prop :=
 ∃d1,o0=some d1 ∧
 ((0:Int)≤16∧16 < ((l0:Nat):Int)) ∧
 ∃b2,World.cell? w (Addr.add d1 48)=some (.bool b2) ∧
 (((b2=true →
 R (.returned (.tuple #[.nilIface,(.bool false)])) w)) ∧
 ((b2=false →
 ∃d3,o0=some d3 ∧
 ((0:Int)≤16∧16 < ((l0:Nat):Int)) ∧
 ∃o4 l5 l6,World.cell? w (Addr.add (Addr.add d3 48) 1)=some (.slice o4 l5 l6) ∧
 ∀d7 w8,IsNew w 247 (setsAt #[.nilIface,.nilIface,.nilIface,.nilIface,.nilIface,.nilIface,.nilIface,.nilIface,.nilIface,.nilIface,.nilIface,.nilIface,.nilIface,.nilIface,.nilIface,.nilIface,(.slice none 0 0)] 16 [(.slice o4 l5 l6)]) d7 w8 →
 ∃(J9:Int→World→Prop),(∃o10 l11 l12,World.cell? w8 (Addr.add d7 16)=some (.slice o10 l11 l12) ∧
 (((((l11:Nat):Int) > 0 →
 J9 1 w8)) ∧
 ((¬((l11:Nat):Int) > 0 →
 J9 0 w8)))) ∧
 (∀(n13:Int) (j14:Nat→Value) (w14:World),J9 n13 w14 →
 16≤c0 ∧
 ∃(I15:Int→Int→World→Prop) (μ15:Int→Int→World→Nat),I15 n13 0 w14 ∧
 (∀(n16:Int) (n17:Int) (j18:Nat→Value) (w18:World),I15 n16 n17 w18 →
 (((n17 < ((16:Nat):Int) →
 ∃d19,o0=some d19 ∧
 ((0:Int)≤n17∧n17 < ((16:Nat):Int)) ∧
 ∃b20 o21 l22 l23 o24 l25 l26,World.cell? w18 (Addr.add d19 ((Int.toNat n17) * 3))=some (.bool b20) ∧
 World.cell? w18 (Addr.add (Addr.add d19 ((Int.toNat n17) * 3)) 1)=some (.slice o21 l22 l23) ∧
 World.cell? w18 (Addr.add (Addr.add d19 ((Int.toNat n17) * 3)) 2)=some (.slice o24 l25 l26) ∧
 ∀d27 w28,IsNew w18 111 #[(.bool false),(.slice none 0 0),(.slice none 0 0)] d27 w28 →
 CanSet w28 d27 (.bool b20)∧∀w29,IsSet w28 d27 (.bool b20) w29 →
 CanSet w29 (Addr.add d27 1) (.slice o21 l22 l23)∧∀w30,IsSet w29 (Addr.add d27 1) (.slice o21 l22 l23) w30 →
 CanSet w30 (Addr.add d27 2) (.slice o24 l25 l26)∧∀w31,IsSet w30 (Addr.add d27 2) (.slice o24 l25 l26) w31 →
 ∃(J32:World→Prop),(∃b33,World.cell? w31 d27=some (.bool b33) ∧
 (((b33=false →
 ∃o34 l35 l36,World.cell? w31 (Addr.add d27 1)=some (.slice o34 l35 l36) ∧
 (((((l35:Nat):Int)=0 →
 I15 n16 (IntKind.wrap .i64 (n17+1)) w31∧μ15 n16 (IntKind.wrap .i64 (n17+1)) w31 < μ15 n16 n17 w18)) ∧
 ((((l35:Nat):Int)≠0 →
 J32  w31))))) ∧
 ((b33=true →
 J32  w31)))) ∧
 (∀  (j37:Nat→Value) (w37:World),J32  w37 →
 ∃b38 o39 l40 l41 o42 l43 l44,World.cell? w37 d27=some (.bool b38) ∧
 World.cell? w37 (Addr.add d27 1)=some (.slice o39 l40 l41) ∧
 World.cell? w37 (Addr.add d27 2)=some (.slice o42 l43 l44) ∧
 Calls Tryz.prog 158 #[(.agg #[(.bool b38),(.slice o39 l40 l41),(.slice o42 l43 l44)])] w37 (fun e45 w46 =>
 ∃v47 b48,e45=.returned (.tuple #[v47,(.bool b48)]) ∧
 (((b48=false →
 R (.returned (.tuple #[.nilIface,(.bool false)])) w46)) ∧
 ((b48=true →
 ((0:Int)≤n17∧n17 < ((16:Nat):Int)) ∧
 CanSet w46 (Addr.add d7 (Int.toNat n17)) v47∧∀w49,IsSet w46 (Addr.add d7 (Int.toNat n17)) v47 w49 →
 I15 (IntKind.wrap .i64 (n16+1)) (IntKind.wrap .i64 (n17+1)) w49∧μ15 (IntKind.wrap .i64 (n16+1)) (IntKind.wrap .i64 (n17+1)) w49 < μ15 n16 n17 w18))))))) ∧
 ((¬n17 < ((16:Nat):Int) →
 R (.returned (.tuple #[(.iface 244 (.pointer (some d7))),(.bool (decide (n16 > 1)))])) w18))))))))
theorem trie_branched.vc (o0:Option Addr) (l0:Nat) (c0:Nat) (w:World) (R:Ending→World→Prop) (h:trie_branched.Vc o0 l0 c0 w R):Calls Tryz.prog 147 #[(.slice o0 l0 c0)] w R :=
 execF_sound (R:=⟨R,false⟩) (ann:=[(1000007,[(5,.cell (.int .i64))]),(8,[(5,.cell (.int .i64)),(31,.cell (.int .i64))]),(1000011,[])]) (args:=[.slice o0 l0 c0]) Tryz.func147 mixed (Eq.mp (by kernel_rfl:trie_branched.Vc o0 l0 c0 w R=execF (pA Tryz.prog ⟨R,false⟩) Tryz.prog [(1000007,[(5,.cell (.int .i64))]),(8,[(5,.cell (.int .i64)),(31,.cell (.int .i64))]),(1000011,[])] Tryz.f147 [.slice o0 l0 c0] w) h)

abbrev trie_referred.n:Nat:=158
def trie_referred.Vc (b0:Bool) (o1:Option Addr) (l1 c1:Nat) (o2:Option Addr) (l2 c2:Nat) (w:World) (R:Ending→World→Prop):Prop :=
 ∀d3 w4,IsNew w 111 #[(.bool b0),(.slice o1 l1 c1),(.slice o2 l2 c2)] d3 w4 →
 ∃b5,World.cell? w4 d3=some (.bool b5) ∧
 (((b5=false →
 ∃o6 l7 l8,World.cell? w4 (Addr.add d3 1)=some (.slice o6 l7 l8) ∧
 (((((l7:Nat):Int)≠32 →
 R (.returned (.tuple #[.nilIface,(.bool false)])) w4)) ∧
 ((((l7:Nat):Int)=32 →
 ∃o9 l10 l11,World.cell? w4 (Addr.add d3 1)=some (.slice o9 l10 l11) ∧
 32≤l10 ∧
 ∃d12,o9=some d12 ∧
 ∃L13,RowAt w4 d12 32 L13 ∧
 Array.size L13=32 ∧
 ∀d14 w15,IsNew w4 228 (lputL (Array.replicate 32 (.int .u8 0)) 0 32 L13) d14 w15 →
 R (.returned (.tuple #[(.iface 226 (.pointer (some d14))),(.bool true)])) w15))))) ∧
 ((b5=true →
 ∃b16 o17 l18 l19 o20 l21 l22,World.cell? w4 d3=some (.bool b16) ∧
 World.cell? w4 (Addr.add d3 1)=some (.slice o17 l18 l19) ∧
 World.cell? w4 (Addr.add d3 2)=some (.slice o20 l21 l22) ∧
 Calls Tryz.prog 143 #[(.agg #[(.bool b16),(.slice o17 l18 l19),(.slice o20 l21 l22)])] w4 (fun e23 w24 =>
 ∃o25 l26 l27 n28,e23=.returned (.tuple #[(.slice o25 l26 l27),(.int .i64 n28)]) ∧
 (((n28≠0 →
 R (.returned (.tuple #[.nilIface,(.bool false)])) w24)) ∧
 ((n28=0 →
 (((((l26:Nat):Int)≥32 →
 R (.returned (.tuple #[.nilIface,(.bool false)])) w24)) ∧
 ((¬((l26:Nat):Int)≥32 →
 ∃b29 o30 l31 l32 o33 l34 l35,World.cell? w24 d3=some (.bool b29) ∧
 World.cell? w24 (Addr.add d3 1)=some (.slice o30 l31 l32) ∧
 World.cell? w24 (Addr.add d3 2)=some (.slice o33 l34 l35) ∧
 Calls Tryz.prog 135 #[(.agg #[(.bool b29),(.slice o30 l31 l32),(.slice o33 l34 l35)])] w24 (fun e36 w37 =>
 ∃v38 b39,e36=.returned (.tuple #[v38,(.bool b39)]) ∧
 R (.returned (.tuple #[v38,(.bool b39)])) w37)))))))))))
theorem trie_referred.vc (b0:Bool) (o1:Option Addr) (l1:Nat) (c1:Nat) (o2:Option Addr) (l2:Nat) (c2:Nat) (w:World) (R:Ending→World→Prop) (h:trie_referred.Vc b0 o1 l1 c1 o2 l2 c2 w R):Calls Tryz.prog 158 #[(.agg #[(.bool b0),(.slice o1 l1 c1),(.slice o2 l2 c2)])] w R :=
 execF_sound (R:=⟨R,false⟩) (ann:=[]) (args:=[.agg [.bool (.var b0),.slice o1 l1 c1,.slice o2 l2 c2]]) Tryz.func158 mixed (Eq.mp (by kernel_rfl:trie_referred.Vc b0 o1 l1 c1 o2 l2 c2 w R=execF (pA Tryz.prog ⟨R,false⟩) Tryz.prog [] Tryz.f158 [.agg [.bool (.var b0),.slice o1 l1 c1,.slice o2 l2 c2]] w) h)

abbrev trie_Check.n:Nat:=101
def trie_Check.Vc (o0:Option Addr) (l0 c0:Nat) (w:World) (R:Ending→World→Prop):Prop :=
 Calls Tryz.prog 121 #[(.slice o0 l0 c0)] w (fun e1 w2 =>
 ∃v3 n4,e1=.returned (.tuple #[v3,(.int .i64 n4)]) ∧
 R (.returned (.int .i64 n4)) w2)
theorem trie_Check.vc (o0:Option Addr) (l0:Nat) (c0:Nat) (w:World) (R:Ending→World→Prop) (h:trie_Check.Vc o0 l0 c0 w R):Calls Tryz.prog 101 #[(.slice o0 l0 c0)] w R :=
 execF_sound (R:=⟨R,false⟩) (ann:=[]) (args:=[.slice o0 l0 c0]) Tryz.func101 mixed (Eq.mp (by kernel_rfl:trie_Check.Vc o0 l0 c0 w R=execF (pA Tryz.prog ⟨R,false⟩) Tryz.prog [] Tryz.f101 [.slice o0 l0 c0] w) h)

end Go.Proofs.YtfghidehlnfdiaaGreat
end
