/- The verification conditions of some functions, printed by a program of ours (wip/PrintVc.lean). -/
/- Memory laws: blocks of cells, and which blocks a step changes. -/
/- Keccak in plain Lean: lanes as functions, the round, the permutation. -/
/- Contracts of Keccak's small functions and of one round. -/
/- Contracts: the tables, the plan, all rounds. -/
/- Contracts: the plan, all rounds, the program's permutation. -/
import Derived.Test.YtfghidehlnfdiaaGreatTV
import Derived.Test.YtfghidehlnfdiaaGreatProg
import Derived.KernelRfl
import Derived.Deep.AppendSrc
import Derived.Laws.CopyRow
import Derived.Laws.AppendOwn
import Derived.Below
set_option linter.unusedVariables false
set_option linter.unusedSimpArgs false
open Array renaming replicate->Y,size->JT,size_replicate->J6
open BitVec renaming eq_of_toNat_eq->JK,rotateLeft_def->JA
open Go renaming Calls->C,Ending->J5,TypeId->JH,World->X
open Go.BinOp renaming xor->J3
open Go.Ending renaming returned->F
open Go.Instr renaming storeAt->D
open Go.IntKind renaming bits->JI,i64->J,u64->Z,u8->JL,wrap->G
open Go.Obj renaming cells->A
open Go.Proofs.Tryz renaming prog->V
open Go.Sem renaming run->J0
open Go.Value renaming agg->J1,pointer->E
open Int renaming fdiv_eq_ediv_of_nonneg->JD,natCast_ediv->JQ,natCast_nonneg->JN,tdiv->W,tmod->U,toNat->O,toNat_natCast->J4
open List renaming getElem?_append_left->JE,getElem?_append_right->JC,getElem?_eq_none->JJ,getElem?_map->J8,getElem?_range->J7,range->JB,take->JX
open Nat renaming div_eq_of_lt->JG,le_refl->JV,lt_irrefl->JU,lt_of_lt_of_le->JM,min_eq_left->JR,min_eq_right->JP,mod_eq_of_lt->J2,mod_lt->JW,not_lt_zero->JS,shiftRight_eq_div_pow->JF,zero_add->JO
open Option renaming none->J9,some->H
section
namespace Go.Proofs.YtfghidehlnfdiaaGreat
open Go Go.Vcg
abbrev Z0v.n:Nat:=56
def Z0v.Vc(a:Option Addr)(b c:Nat)(w:X)(R:J5->X->Prop):Prop :=
 ∀c d,ZB w 27 (Y 32 (.int JL 0)) c d ->
 ∀e f,ZB d 149 (Y 25 (.int Z 0)) e f ->
 ∃(d:Int->X->Prop)(g:Int->X->Nat),d 0 f /\
 (∀(f:Int)(h:Nat->Value)(h:X),d f h ->
 ((f<=(b:Int) ->
 ∃(i:Int->X->Prop)(j:Int->X->Nat),i 0 h /\
 (∀(k:Int)(l:Nat->Value)(l:X),i k l ->
 ((k<136 ->
 (((G J (f+k))<(b:Int) ->
 ∃m,a=H m /\
 ((0:Int)<=(G J (f+k))/\(G J (f+k))<(b:Int)) /\
 ∃a,l.cell? (m.add (O (G J (f+k))))=H (.int JL a) /\
 ((k=135 ->
 (((G J (f+136))>(b:Int) ->
 ∀m,ZL l m ->
 ((0:Int)<=(G J (W k 8))/\(G J (W k 8))<(25:Int)) /\
 ∃n,m.cell? (e.add (O (G J (W k 8))))=H (.int Z n) /\
 (0:Int)<=(G J (8*(U k 8))) /\
 ((0:Int)<=(G J (W k 8))/\(G J (W k 8))<(25:Int)) /\
 Z1 m (e.add (O (G J (W k 8)))) (.int Z (bitsI J3 Z n (shlI Z (G Z (bitsI .or JL a 128)) (G J (8*(U k 8))))))/\∀o,Z8 m (e.add (O (G J (W k 8)))) (.int Z (bitsI J3 Z n (shlI Z (G Z (bitsI .or JL a 128)) (G J (8*(U k 8)))))) o ->
 i (G J (k+1)) o/\j (G J (k+1)) o<j k l) /\
 (¬(G J (f+136))>(b:Int) ->
 ∀m,ZL l m ->
 ((0:Int)<=(G J (W k 8))/\(G J (W k 8))<(25:Int)) /\
 ∃n,m.cell? (e.add (O (G J (W k 8))))=H (.int Z n) /\
 (0:Int)<=(G J (8*(U k 8))) /\
 ((0:Int)<=(G J (W k 8))/\(G J (W k 8))<(25:Int)) /\
 Z1 m (e.add (O (G J (W k 8)))) (.int Z (bitsI J3 Z n (shlI Z (G Z a) (G J (8*(U k 8))))))/\∀o,Z8 m (e.add (O (G J (W k 8)))) (.int Z (bitsI J3 Z n (shlI Z (G Z a) (G J (8*(U k 8)))))) o ->
 i (G J (k+1)) o/\j (G J (k+1)) o<j k l))) /\
 (k≠135 ->
 ∀m,ZL l m ->
 ((0:Int)<=(G J (W k 8))/\(G J (W k 8))<(25:Int)) /\
 ∃n,m.cell? (e.add (O (G J (W k 8))))=H (.int Z n) /\
 (0:Int)<=(G J (8*(U k 8))) /\
 ((0:Int)<=(G J (W k 8))/\(G J (W k 8))<(25:Int)) /\
 Z1 m (e.add (O (G J (W k 8)))) (.int Z (bitsI J3 Z n (shlI Z (G Z a) (G J (8*(U k 8))))))/\∀o,Z8 m (e.add (O (G J (W k 8)))) (.int Z (bitsI J3 Z n (shlI Z (G Z a) (G J (8*(U k 8)))))) o ->
 i (G J (k+1)) o/\j (G J (k+1)) o<j k l))) /\
 (¬(G J (f+k))<(b:Int) ->
 (((G J (f+k))=(b:Int) ->
 ((k=135 ->
 (((G J (f+136))>(b:Int) ->
 ∃a,J0 V (Z0Z .or 5 (.tmp 45) (.const (.int JL 128)) (.int JL 1) (.int JL 128)) l=.ok a l /\
 ∃m,a=(.int JL m) /\
 ∀a,ZL l a ->
 ((0:Int)<=(G J (W k 8))/\(G J (W k 8))<(25:Int)) /\
 ∃n,a.cell? (e.add (O (G J (W k 8))))=H (.int Z n) /\
 (0:Int)<=(G J (8*(U k 8))) /\
 ((0:Int)<=(G J (W k 8))/\(G J (W k 8))<(25:Int)) /\
 Z1 a (e.add (O (G J (W k 8)))) (.int Z (bitsI J3 Z n (shlI Z (G Z m) (G J (8*(U k 8))))))/\∀o,Z8 a (e.add (O (G J (W k 8)))) (.int Z (bitsI J3 Z n (shlI Z (G Z m) (G J (8*(U k 8)))))) o ->
 i (G J (k+1)) o/\j (G J (k+1)) o<j k l) /\
 (¬(G J (f+136))>(b:Int) ->
 ∀a,ZL l a ->
 ((0:Int)<=(G J (W k 8))/\(G J (W k 8))<(25:Int)) /\
 ∃m,a.cell? (e.add (O (G J (W k 8))))=H (.int Z m) /\
 (0:Int)<=(G J (8*(U k 8))) /\
 ((0:Int)<=(G J (W k 8))/\(G J (W k 8))<(25:Int)) /\
 Z1 a (e.add (O (G J (W k 8)))) (.int Z (bitsI J3 Z m (shlI Z 1 (G J (8*(U k 8))))))/\∀n,Z8 a (e.add (O (G J (W k 8)))) (.int Z (bitsI J3 Z m (shlI Z 1 (G J (8*(U k 8)))))) n ->
 i (G J (k+1)) n/\j (G J (k+1)) n<j k l))) /\
 (k≠135 ->
 ∀a,ZL l a ->
 ((0:Int)<=(G J (W k 8))/\(G J (W k 8))<(25:Int)) /\
 ∃m,a.cell? (e.add (O (G J (W k 8))))=H (.int Z m) /\
 (0:Int)<=(G J (8*(U k 8))) /\
 ((0:Int)<=(G J (W k 8))/\(G J (W k 8))<(25:Int)) /\
 Z1 a (e.add (O (G J (W k 8)))) (.int Z (bitsI J3 Z m (shlI Z 1 (G J (8*(U k 8))))))/\∀n,Z8 a (e.add (O (G J (W k 8)))) (.int Z (bitsI J3 Z m (shlI Z 1 (G J (8*(U k 8)))))) n ->
 i (G J (k+1)) n/\j (G J (k+1)) n<j k l))) /\
 ((G J (f+k))≠(b:Int) ->
 ((k=135 ->
 (((G J (f+136))>(b:Int) ->
 ∃a,J0 V (Z0Z .or 5 (.tmp 45) (.const (.int JL 128)) (.int JL 0) (.int JL 128)) l=.ok a l /\
 ∃m,a=(.int JL m) /\
 ∀a,ZL l a ->
 ((0:Int)<=(G J (W k 8))/\(G J (W k 8))<(25:Int)) /\
 ∃n,a.cell? (e.add (O (G J (W k 8))))=H (.int Z n) /\
 (0:Int)<=(G J (8*(U k 8))) /\
 ((0:Int)<=(G J (W k 8))/\(G J (W k 8))<(25:Int)) /\
 Z1 a (e.add (O (G J (W k 8)))) (.int Z (bitsI J3 Z n (shlI Z (G Z m) (G J (8*(U k 8))))))/\∀o,Z8 a (e.add (O (G J (W k 8)))) (.int Z (bitsI J3 Z n (shlI Z (G Z m) (G J (8*(U k 8)))))) o ->
 i (G J (k+1)) o/\j (G J (k+1)) o<j k l) /\
 (¬(G J (f+136))>(b:Int) ->
 ∀a,ZL l a ->
 ((0:Int)<=(G J (W k 8))/\(G J (W k 8))<(25:Int)) /\
 ∃m,a.cell? (e.add (O (G J (W k 8))))=H (.int Z m) /\
 (0:Int)<=(G J (8*(U k 8))) /\
 ((0:Int)<=(G J (W k 8))/\(G J (W k 8))<(25:Int)) /\
 Z1 a (e.add (O (G J (W k 8)))) (.int Z (bitsI J3 Z m (shlI Z 0 (G J (8*(U k 8))))))/\∀n,Z8 a (e.add (O (G J (W k 8)))) (.int Z (bitsI J3 Z m (shlI Z 0 (G J (8*(U k 8)))))) n ->
 i (G J (k+1)) n/\j (G J (k+1)) n<j k l))) /\
 (k≠135 ->
 ∀a,ZL l a ->
 ((0:Int)<=(G J (W k 8))/\(G J (W k 8))<(25:Int)) /\
 ∃m,a.cell? (e.add (O (G J (W k 8))))=H (.int Z m) /\
 (0:Int)<=(G J (8*(U k 8))) /\
 ((0:Int)<=(G J (W k 8))/\(G J (W k 8))<(25:Int)) /\
 Z1 a (e.add (O (G J (W k 8)))) (.int Z (bitsI J3 Z m (shlI Z 0 (G J (8*(U k 8))))))/\∀n,Z8 a (e.add (O (G J (W k 8)))) (.int Z (bitsI J3 Z m (shlI Z 0 (G J (8*(U k 8)))))) n ->
 i (G J (k+1)) n/\j (G J (k+1)) n<j k l))))))) /\
 (¬k<136 ->
 ∃a,ZH l e 25 a /\
 C V 92 #[J1 a] l (fun a i =>
 ∃j,a=F (J1 j) /\
 ∃a,J0 V (D 149 (E (H e)) (J1 j)) i=.ok () a /\
 d (G J (f+136)) a/\g (G J (f+136)) a<g f h))))) /\
 (¬f<=(b:Int) ->
 ∀a b,ZB h 27 (Y 32 (.int JL 0)) a b ->
 ∃(d:Int->X->Prop)(f:Int->X->Nat),d 0 b /\
 (∀(b:Int)(g:Nat->Value)(g:X),d b g ->
 ((b<32 ->
 ((0:Int)<=(G J (W b 8))/\(G J (W b 8))<(25:Int)) /\
 ∃h,g.cell? (e.add (O (G J (W b 8))))=H (.int Z h) /\
 (0:Int)<=(G J (8*(U b 8))) /\
 ((0:Int)<=b/\b<(32:Int)) /\
 Z1 g (a.add b.toNat) (.int JL (G JL (shrI Z h (G J (8*(U b 8))))))/\∀e,Z8 g (a.add b.toNat) (.int JL (G JL (shrI Z h (G J (8*(U b 8)))))) e ->
 d (G J (b+1)) e/\f (G J (b+1)) e<f b g) /\
 (¬b<32 ->
 ∃b,ZH g a 32 b /\
 ∃a,J0 V (D 27 (E (H c)) (J1 b)) g=.ok () a /\
 ∃b,ZH a c 32 b /\
 R (F (J1 b)) a))))))
theorem Z0v.vc(a b c w R)(h:Z0v.Vc a b c w R):C V 56 #[(.slice a b c)] w R:=xs [(4,[(5,.cell (.int J))]),(7,[(6,.cell (.int J))]),(20,[(9,.cell (.int J))])] [.slice a b c] Tryz.func56 ZO (by kernel_rfl) h
abbrev Z2b.n:Nat:=53
def Z2b.Vc(a:Option Addr)(b c:Nat)(w:X)(R:J5->X->Prop):Prop :=
 ∀c d,ZB w 27 (Y 32 (.int JL 0)) c d ->
 C V 85 #[] d (fun d e =>
 ∃f,d=F (E f) /\
 ∃(d:Int->X->Prop)(g:Int->X->Nat),d 0 e /\
 (∀(e:Int)(h:Nat->Value)(h:X),d e h ->
 ((e<(b:Int) ->
 ∃i,a=H i /\
 ((0:Int)<=e/\e<(b:Int)) /\
 ∃a j k,h.cell? (i.add e.toNat)=H (.slice a j k) /\
 C V 86 #[E f,.slice a j k] h (fun a i =>
 a=F (.tuple #[]) /\
 d (G J (e+1)) i/\g (G J (e+1)) i<g e h)) /\
 (¬e<(b:Int) ->
 C V 87 #[E f] h (fun a b =>
 ∃d,a=F (J1 d) /\
 ∃a,J0 V (D 27 (E (H c)) (J1 d)) b=.ok () a /\
 ∃b,ZH a c 32 b /\
 R (F (J1 b)) a)))))
theorem Z2b.vc(a b c w R)(h:Z2b.Vc a b c w R):C V 53 #[(.slice a b c)] w R:=xs [(3,[(9,.cell (.int J))])] [.slice a b c] Tryz.func53 ZO (by kernel_rfl) h
abbrev Z26.n:Nat:=85
def Z26.Vc  (w:X)(R:J5->X->Prop):Prop :=
 C V 111 #[] w (fun a b =>
 ∃c,a=F (J1 c) /\
 JT c=49 /\
 ∀a d,ZB b 175 (lputL #[.int Z 0,.int Z 0,.int Z 0,.int Z 0,.int Z 0,.int Z 0,.int Z 0,.int Z 0,.int Z 0,.int Z 0,.int Z 0,.int Z 0,.int Z 0,.int Z 0,.int Z 0,.int Z 0,.int Z 0,.int Z 0,.int Z 0,.int Z 0,.int Z 0,.int Z 0,.int Z 0,.int Z 0,.int J 0,.int J 0,.int J 0,.int J 0,.int J 0,.int J 0,.int J 0,.int J 0,.int J 0,.int J 0,.int J 0,.int J 0,.int J 0,.int J 0,.int J 0,.int J 0,.int J 0,.int J 0,.int J 0,.int J 0,.int J 0,.int J 0,.int J 0,.int J 0,.int J 0,.int Z 0,.int Z 0,.int Z 0,.int Z 0,.int Z 0,.int Z 0,.int Z 0,.int Z 0,.int Z 0,.int Z 0,.int Z 0,.int Z 0,.int Z 0,.int Z 0,.int Z 0,.int Z 0,.int Z 0,.int Z 0,.int Z 0,.int Z 0,.int Z 0,.int Z 0,.int Z 0,.int Z 0,.int Z 0,.slice J9 0 0] 0 49 c) a d ->
 R (F (E (H a))) d)
theorem Z26.vc  (w:X)(R:J5->X->Prop)(h:Z26.Vc w R):C V 85 #[] w R :=
 Z0z (R:=⟨R,false⟩) (ann:=[]) (args:=[]) Tryz.func85 ZO (Eq.mp (by kernel_rfl:Z26.Vc w R=Z4h (pA V ⟨R,false⟩) V [] Tryz.f85 [] w) h)
abbrev Z01.n:Nat:=86
def Z01.Vc(a:Addr)(b:Option Addr)(c d:Nat)(w:X)(R:J5->X->Prop):Prop :=
 ∃e f g,w.cell? (a.add 74)=H (.slice e f g) /\
 ∃h i,J0 V (builtinV .append #[23,23] 23 #[.slice e f g,.slice b c d]) w=.ok h i /\
 ∃b c d,h=(.slice b c d) /\
 Z1 i (a.add 74) (.slice b c d)/\∀e,Z8 i (a.add 74) (.slice b c d) e ->
 ∃(b:Int->X->Prop)(c:Int->X->Nat),b 0 e /\
 (∀(d:Int)(e:Nat->Value)(e:X),b d e ->
 ∃f g h,e.cell? (a.add 74)=H (.slice f g h) /\
 (((G J ((g:Int)-d))>=136 ->
 ∀f,ZL e f ->
 ∃h,ZH f (a.add 49) 25 h /\
 ∃i j k,f.cell? (a.add 74)=H (.slice i j k) /\
 ((0:Int)<=(G J (d+136))/\(G J (d+136))<=(k:Int)) /\
 ((0:Int)<=d/\d<=(((O (G J (d+136))):Nat):Int)) /\
 C V 112 #[J1 h,E (H a),.slice (subO i k d.toNat 1) ((O (G J (d+136)))-d.toNat) (k-d.toNat)] f (fun f h =>
 ∃i,f=F (J1 i) /\
 ∃f,J0 V (D 173 (E (H (a.add 49))) (J1 i)) h=.ok () f /\
 b (G J (d+136)) f/\c (G J (d+136)) f<c d e)) /\
 (¬(G J ((g:Int)-d))>=136 ->
 ∀b,ZL e b ->
 ∃c e f,b.cell? (a.add 74)=H (.slice c e f) /\
 ∃g h i,b.cell? (a.add 74)=H (.slice g h i) /\
 ∃j k l,b.cell? (a.add 74)=H (.slice j k l) /\
 ((0:Int)<=d/\d<=(k:Int)) /\
 ∃m n,J0 V (builtinV .copy #[23,23] 3 #[.slice g h i,.slice (subO j l d.toNat 1) (k-d.toNat) (l-d.toNat)]) b=.ok m n /\
 ∃b,m=(.int J b) /\
 n.cell? (a.add 74)=H (.slice c e f) /\
 ((0:Int)<=b/\b<=(f:Int)) /\
 Z1 n (a.add 74) (.slice c b.toNat f)/\∀d,Z8 n (a.add 74) (.slice c b.toNat f) d ->
 R (F (.tuple #[])) d)))
theorem Z01.vc(a b c d w R)(h:Z01.Vc a b c d w R):C V 86 #[(E (H a)),(.slice b c d)] w R:=xs [(2,[(4,.cell (.int J))])] [.addr a,.slice b c d] Tryz.func86 ZO (by kernel_rfl) h
abbrev Z0Q.n:Nat:=87
def Z0Q.Vc(a:Addr)(w:X)(R:J5->X->Prop):Prop :=
 ∀b c,ZB w 27 (Y 32 (.int JL 0)) b c ->
 ∀d e,ZB c 178 (Y 136 (.int JL 0)) d e ->
 ∀c,ZL e c ->
 ∃e f g,c.cell? (a.add 74)=H (.slice e f g) /\
 ∃h i,J0 V (builtinV .copy #[23,23] 3 #[.slice (H d) 136 136,.slice e f g]) c=.ok h i /\
 ∃c,h=(.int J c) /\
 ((0:Int)<=c/\c<(136:Int)) /\
 Z1 i (d.add c.toNat) (.int JL 1)/\∀e,Z8 i (d.add c.toNat) (.int JL 1) e ->
 ∃c,e.cell? (d.add 135)=H (.int JL c) /\
 Z1 e (d.add 135) (.int JL (bitsI .or JL c 128))/\∀f,Z8 e (d.add 135) (.int JL (bitsI .or JL c 128)) f ->
 ∀c,ZL f c ->
 ∃e,ZH c (a.add 49) 25 e /\
 ((C V 112 #[J1 e,E (H a),.slice (H d) 136 136] c (fun f g =>
 ∃h,f=F (J1 h) /\
 ∀f i,ZB g 173 (Y 25 (.int Z 0)) f i ->
 ∃g,J0 V (D 173 (E (H f)) (J1 h)) i=.ok () g /\
 ∀h i,ZB g 27 (Y 32 (.int JL 0)) h i ->
 ∃(g:Int->X->Prop)(j:Int->X->Nat),g 0 i /\
 (∀(i:Int)(k:Nat->Value)(k:X),g i k ->
 ((i<4 ->
 ∀l,ZL k l ->
 ((0:Int)<=(G J (8*i))/\(G J (8*i))<=(32:Int)) /\
 ((0:Int)<=i/\i<(25:Int)) /\
 ∃m,l.cell? (f.add i.toNat)=H (.int Z m) /\
 C V 113 #[.slice J9 0 0,.int Z m,.int J 8] l (fun f l =>
 ∃m n o,f=F (.slice m n o) /\
 ∃f p,J0 V (builtinV .copy #[23,23] 3 #[.slice (H (subD h 32 (O (G J (8*i))) 1)) (32-(O (G J (8*i)))) (32-(O (G J (8*i)))),.slice m n o]) l=.ok f p /\
 ∃l,f=(.int J l) /\
 g (G J (i+1)) p/\j (G J (i+1)) p<j i k)) /\
 (¬i<4 ->
 ∃f,ZH k h 32 f /\
 ∃g,J0 V (D 27 (E (H b)) (J1 f)) k=.ok () g /\
 ∃f,ZH g b 32 f /\
 R (F (J1 f)) g))))) /\
 (∀f g,ZB c 173 (Y 25 (.int Z 0)) f g ->
 ZH g (a.add 49) 25 e /\
 C V 112 #[J1 e,E (H a),.slice (H d) 136 136] g (fun a c =>
 ∃d,a=F (J1 d) /\
 ∃a,J0 V (D 173 (E (H f)) (J1 d)) c=.ok () a /\
 ∀c d,ZB a 27 (Y 32 (.int JL 0)) c d ->
 ∃(a:Int->X->Prop)(e:Int->X->Nat),a 0 d /\
 (∀(d:Int)(g:Nat->Value)(g:X),a d g ->
 ((d<4 ->
 ∀h,ZL g h ->
 ((0:Int)<=(G J (8*d))/\(G J (8*d))<=(32:Int)) /\
 ((0:Int)<=d/\d<(25:Int)) /\
 ∃i,h.cell? (f.add d.toNat)=H (.int Z i) /\
 C V 113 #[.slice J9 0 0,.int Z i,.int J 8] h (fun f h =>
 ∃i j k,f=F (.slice i j k) /\
 ∃f l,J0 V (builtinV .copy #[23,23] 3 #[.slice (H (subD c 32 (O (G J (8*d))) 1)) (32-(O (G J (8*d)))) (32-(O (G J (8*d)))),.slice i j k]) h=.ok f l /\
 ∃h,f=(.int J h) /\
 a (G J (d+1)) l/\e (G J (d+1)) l<e d g)) /\
 (¬d<4 ->
 ∃a,ZH g c 32 a /\
 ∃c,J0 V (D 27 (E (H b)) (J1 a)) g=.ok () c /\
 ∃a,ZH c b 32 a /\
 R (F (J1 a)) c))))))
theorem Z0Q.vc(a w R)(h:Z0Q.Vc a w R):C V 87 #[(E (H a))] w R:=xs [(8,[(29,.cell (.int J))])] [.addr a] Tryz.func87 ZO (by kernel_rfl) h
abbrev Z06.n:Nat:=92
def Z06.Vc(a:Array Value)(w:X)(R:J5->X->Prop):Prop :=
 ∀b c,ZB w 149 a b c ->
 ∀a d,ZB c 149 (Y 25 (.int Z 0)) a d ->
 ∀c e,ZB d 169 (Y 25 (.int J 0)) c e ->
 ∃d,J0 V (D 169 (E (H c)) (J1 (Y 25 (.int J 0)))) e=.ok () d /\
 ∃(e:Int->Int->Int->X->Prop)(f:Int->Int->Int->X->Nat),e 1 0 0 d /\
 (∀(d:Int)(g:Int)(h:Int)(i:Nat->Value)(i:X),e d g h i ->
 ((h<24 ->
 ((0:Int)<=(G J (d+(G J (5*g))))/\(G J (d+(G J (5*g))))<(25:Int)) /\
 Z1 i (c.add (O (G J (d+(G J (5*g)))))) (.int J (U (G J (W (G J ((G J (h+1))*(G J (h+2)))) 2)) 64))/\∀j,Z8 i (c.add (O (G J (d+(G J (5*g)))))) (.int J (U (G J (W (G J ((G J (h+1))*(G J (h+2)))) 2)) 64)) j ->
 e g (U (G J ((G J (2*d))+(G J (3*g)))) 5) (G J (h+1)) j/\f g (U (G J ((G J (2*d))+(G J (3*g)))) 5) (G J (h+1)) j<f d g h i) /\
 (¬h<24 ->
 ∃(d:Int->Int->X->Prop)(e:Int->Int->X->Nat),d 1 0 i /\
 (∀(f:Int)(g:Int)(h:Nat->Value)(h:X),d f g h ->
 ((g<24 ->
 ∀i j,ZB h 181 #[.int Z 0,.int Z 0,.int Z 0,.int Z 0,.int Z 0] i j ->
 ∃(k:Int->X->Prop)(l:Int->X->Nat),k 0 j /\
 (∀(j:Int)(m:Nat->Value)(m:X),k j m ->
 ((j<5 ->
 ∀n,ZL m n ->
 ((0:Int)<=j/\j<(25:Int)) /\
 ∃o,n.cell? (b.add j.toNat)=H (.int Z o) /\
 ((0:Int)<=(G J (j+5))/\(G J (j+5))<(25:Int)) /\
 ∃p,n.cell? (b.add (O (G J (j+5))))=H (.int Z p) /\
 ((0:Int)<=(G J (j+10))/\(G J (j+10))<(25:Int)) /\
 ∃q,n.cell? (b.add (O (G J (j+10))))=H (.int Z q) /\
 ((0:Int)<=(G J (j+15))/\(G J (j+15))<(25:Int)) /\
 ∃r,n.cell? (b.add (O (G J (j+15))))=H (.int Z r) /\
 ((0:Int)<=(G J (j+20))/\(G J (j+20))<(25:Int)) /\
 ∃s,n.cell? (b.add (O (G J (j+20))))=H (.int Z s) /\
 ((0:Int)<=j/\j<(5:Int)) /\
 Z1 n (i.add j.toNat) (.int Z (bitsI J3 Z (bitsI J3 Z (bitsI J3 Z (bitsI J3 Z o p) q) r) s))/\∀t,Z8 n (i.add j.toNat) (.int Z (bitsI J3 Z (bitsI J3 Z (bitsI J3 Z (bitsI J3 Z o p) q) r) s)) t ->
 k (G J (j+1)) t/\l (G J (j+1)) t<l j m) /\
 (¬j<5 ->
 ∀j k,ZB m 149 (Y 25 (.int Z 0)) j k ->
 ∃(l:Int->X->Prop)(m:Int->X->Nat),l 0 k /\
 (∀(k:Int)(n:Nat->Value)(n:X),l k n ->
 ((k<5 ->
 ∃(o:Int->X->Prop)(p:Int->X->Nat),o 0 n /\
 (∀(q:Int)(r:Nat->Value)(r:X),o q r ->
 ((q<5 ->
 ∀s,ZL r s ->
 ((0:Int)<=(G J (k+(G J (5*q))))/\(G J (k+(G J (5*q))))<(25:Int)) /\
 ∃t,s.cell? (b.add (O (G J (k+(G J (5*q))))))=H (.int Z t) /\
 ((0:Int)<=(U (G J (k+4)) 5)/\(U (G J (k+4)) 5)<(5:Int)) /\
 ∃u,s.cell? (i.add (O (U (G J (k+4)) 5)))=H (.int Z u) /\
 ((0:Int)<=(U (G J (k+1)) 5)/\(U (G J (k+1)) 5)<(5:Int)) /\
 ∃v,s.cell? (i.add (O (U (G J (k+1)) 5)))=H (.int Z v) /\
 C V 115 #[.int Z v,.int J 1] s (fun s v =>
 ∃x,s=F (.int Z x) /\
 v.cell? (i.add (O (U (G J (k+4)) 5)))=H (.int Z u) /\
 v.cell? (b.add (O (G J (k+(G J (5*q))))))=H (.int Z t) /\
 ((0:Int)<=(G J (k+(G J (5*q))))/\(G J (k+(G J (5*q))))<(25:Int)) /\
 ∃i,v.cell? (c.add (O (G J (k+(G J (5*q))))))=H (.int J i) /\
 C V 115 #[.int Z (bitsI J3 Z (bitsI J3 Z t u) x),.int J i] v (fun c i =>
 ∃s,c=F (.int Z s) /\
 ((0:Int)<=(G J (q+(G J (5*(U (G J ((G J (2*k))+(G J (3*q)))) 5)))))/\(G J (q+(G J (5*(U (G J ((G J (2*k))+(G J (3*q)))) 5)))))<(25:Int)) /\
 Z1 i (j.add (O (G J (q+(G J (5*(U (G J ((G J (2*k))+(G J (3*q)))) 5))))))) (.int Z s)/\∀c,Z8 i (j.add (O (G J (q+(G J (5*(U (G J ((G J (2*k))+(G J (3*q)))) 5))))))) (.int Z s) c ->
 o (G J (q+1)) c/\p (G J (q+1)) c<p q r))) /\
 (¬q<5 ->
 l (G J (k+1)) r/\m (G J (k+1)) r<m k n)))) /\
 (¬k<5 ->
 ∃(c:Int->X->Prop)(i:Int->X->Nat),c 0 n /\
 (∀(k:Int)(l:Nat->Value)(l:X),c k l ->
 ((k<5 ->
 ∃(m:Int->X->Prop)(n:Int->X->Nat),m 0 l /\
 (∀(o:Int)(p:Nat->Value)(p:X),m o p ->
 ((o<5 ->
 ∀q,ZL p q ->
 ((0:Int)<=(G J (k+(G J (5*o))))/\(G J (k+(G J (5*o))))<(25:Int)) /\
 ∃r,q.cell? (j.add (O (G J (k+(G J (5*o))))))=H (.int Z r) /\
 ((0:Int)<=(G J ((U (G J (k+1)) 5)+(G J (5*o))))/\(G J ((U (G J (k+1)) 5)+(G J (5*o))))<(25:Int)) /\
 ∃s,q.cell? (j.add (O (G J ((U (G J (k+1)) 5)+(G J (5*o))))))=H (.int Z s) /\
 ((0:Int)<=(G J ((U (G J (k+2)) 5)+(G J (5*o))))/\(G J ((U (G J (k+2)) 5)+(G J (5*o))))<(25:Int)) /\
 ∃t,q.cell? (j.add (O (G J ((U (G J (k+2)) 5)+(G J (5*o))))))=H (.int Z t) /\
 ((0:Int)<=(G J (k+(G J (5*o))))/\(G J (k+(G J (5*o))))<(25:Int)) /\
 Z1 q (b.add (O (G J (k+(G J (5*o)))))) (.int Z (bitsI J3 Z r (bitsI .and Z (bitsI J3 Z 18446744073709551615 s) t)))/\∀j,Z8 q (b.add (O (G J (k+(G J (5*o)))))) (.int Z (bitsI J3 Z r (bitsI .and Z (bitsI J3 Z 18446744073709551615 s) t))) j ->
 m (G J (o+1)) j/\n (G J (o+1)) j<n o p) /\
 (¬o<5 ->
 c (G J (k+1)) p/\i (G J (k+1)) p<i k l)))) /\
 (¬k<5 ->
 ∃(c:Int->Int->X->Prop)(i:Int->Int->X->Nat),c f 0 l /\
 (∀(j:Int)(k:Int)(l:Nat->Value)(l:X),c j k l ->
 ((k<7 ->
 (((U j 2)=1 ->
 ∀m,ZL l m ->
 ∃n,m.cell? b=H (.int Z n) /\
 (0:Int)<=k /\
 (0:Int)<=(G Z ((shlI Z 1 k)-1)) /\
 Z1 m b (.int Z (bitsI J3 Z n (shlI Z 1 (G Z ((shlI Z 1 k)-1)))))/\∀o,Z8 m b (.int Z (bitsI J3 Z n (shlI Z 1 (G Z ((shlI Z 1 k)-1))))) o ->
 (((G J (2*j))>=256 ->
 c (bitsI J3 J (G J ((G J (2*j))-256)) 113) (G J (k+1)) o/\i (bitsI J3 J (G J ((G J (2*j))-256)) 113) (G J (k+1)) o<i j k l) /\
 (¬(G J (2*j))>=256 ->
 c (G J (2*j)) (G J (k+1)) o/\i (G J (2*j)) (G J (k+1)) o<i j k l))) /\
 ((U j 2)≠1 ->
 (((G J (2*j))>=256 ->
 c (bitsI J3 J (G J ((G J (2*j))-256)) 113) (G J (k+1)) l/\i (bitsI J3 J (G J ((G J (2*j))-256)) 113) (G J (k+1)) l<i j k l) /\
 (¬(G J (2*j))>=256 ->
 c (G J (2*j)) (G J (k+1)) l/\i (G J (2*j)) (G J (k+1)) l<i j k l))))) /\
 (¬k<7 ->
 d j (G J (g+1)) l/\e j (G J (g+1)) l<e f g h))))))))))))) /\
 (¬g<24 ->
 ∃c,ZH h b 25 c /\
 ∃b,J0 V (D 149 (E (H a)) (J1 c)) h=.ok () b /\
 ∃c,ZH b a 25 c /\
 R (F (J1 c)) b))))))
theorem Z06.vc(a w R)(h:Z06.Vc a w R):C V 92 #[(J1 a)] w R:=xs [(4,[(4,.cell (.int J)),(5,.cell (.int J)),(6,.cell (.int J))]),(10,[(7,.cell (.int J)),(8,.cell (.int J))]),(14,[(10,.cell (.int J))]),(19,[(12,.cell (.int J))]),(22,[(13,.cell (.int J))]),(27,[(15,.cell (.int J))]),(30,[(16,.cell (.int J))]),(34,[(7,.cell (.int J)),(17,.cell (.int J))])] [.big 25 a] Tryz.func92 ZO (by kernel_rfl) h
abbrev Z0o.n:Nat:=111
def Z0o.Vc  (w:X)(R:J5->X->Prop):Prop :=
 ∀a b,ZB w 171 #[.int Z 0,.int Z 0,.int Z 0,.int Z 0,.int Z 0,.int Z 0,.int Z 0,.int Z 0,.int Z 0,.int Z 0,.int Z 0,.int Z 0,.int Z 0,.int Z 0,.int Z 0,.int Z 0,.int Z 0,.int Z 0,.int Z 0,.int Z 0,.int Z 0,.int Z 0,.int Z 0,.int Z 0,.int J 0,.int J 0,.int J 0,.int J 0,.int J 0,.int J 0,.int J 0,.int J 0,.int J 0,.int J 0,.int J 0,.int J 0,.int J 0,.int J 0,.int J 0,.int J 0,.int J 0,.int J 0,.int J 0,.int J 0,.int J 0,.int J 0,.int J 0,.int J 0,.int J 0] a b ->
 C V 129 #[] b (fun b c =>
 ∃d,b=F (J1 d) /\
 C V 130 #[] c (fun b c =>
 ∃e,b=F (J1 e) /\
 JT d=24 /\
 JT e=25 /\
 ∃b,J0 V (D 171 (E (H a)) (J1 (lputL (lputL #[.int Z 0,.int Z 0,.int Z 0,.int Z 0,.int Z 0,.int Z 0,.int Z 0,.int Z 0,.int Z 0,.int Z 0,.int Z 0,.int Z 0,.int Z 0,.int Z 0,.int Z 0,.int Z 0,.int Z 0,.int Z 0,.int Z 0,.int Z 0,.int Z 0,.int Z 0,.int Z 0,.int Z 0,.int J 0,.int J 0,.int J 0,.int J 0,.int J 0,.int J 0,.int J 0,.int J 0,.int J 0,.int J 0,.int J 0,.int J 0,.int J 0,.int J 0,.int J 0,.int J 0,.int J 0,.int J 0,.int J 0,.int J 0,.int J 0,.int J 0,.int J 0,.int J 0,.int J 0] 0 24 d) 24 25 e))) c=.ok () b /\
 ∃c,ZH b a 49 c /\
 R (F (J1 c)) b))
theorem Z0o.vc  (w:X)(R:J5->X->Prop)(h:Z0o.Vc w R):C V 111 #[] w R :=
 Z0z (R:=⟨R,false⟩) (ann:=[]) (args:=[]) Tryz.func111 ZO (Eq.mp (by kernel_rfl:Z0o.Vc w R=Z4h (pA V ⟨R,false⟩) V [] Tryz.f111 [] w) h)
abbrev Z02.n:Nat:=112
def Z02.Vc(a:Array Value)(b:Addr)(c:Option Addr)(d d:Nat)(w:X)(R:J5->X->Prop):Prop :=
 ∀e f,ZB w 173 a e f ->
 ∀a g,ZB f 173 (Y 25 (.int Z 0)) a g ->
 ∃(f:Int->X->Prop)(h:Int->X->Nat),f 0 g /\
 (∀(g:Int)(i:Nat->Value)(i:X),f g i ->
 ((g<17 ->
 ∀j,ZL i j ->
 ((0:Int)<=g/\g<(25:Int)) /\
 ∃k,j.cell? (e.add g.toNat)=H (.int Z k) /\
 ((0:Int)<=(G J ((G J (8*g))+8))/\(G J ((G J (8*g))+8))<=(d:Int)) /\
 ((0:Int)<=(G J (8*g))/\(G J (8*g))<=(((O (G J ((G J (8*g))+8))):Nat):Int)) /\
 C V 131 #[.slice (subO c d (O (G J (8*g))) 1) ((O (G J ((G J (8*g))+8)))-(O (G J (8*g)))) (d-(O (G J (8*g))))] j (fun c d =>
 ∃j,c=F (.int Z j) /\
 d.cell? (e.add g.toNat)=H (.int Z k) /\
 ((0:Int)<=g/\g<(25:Int)) /\
 Z1 d (e.add g.toNat) (.int Z (bitsI J3 Z k j))/\∀c,Z8 d (e.add g.toNat) (.int Z (bitsI J3 Z k j)) c ->
 f (G J (g+1)) c/\h (G J (g+1)) c<h g i)) /\
 (¬g<17 ->
 ∃c,ZH i e 25 c /\
 C V 132 #[J1 c,E (H b)] i (fun b c =>
 ∃d,b=F (J1 d) /\
 ∃b,J0 V (D 173 (E (H a)) (J1 d)) c=.ok () b /\
 ∃c,ZH b a 25 c /\
 R (F (J1 c)) b))))
theorem Z02.vc(a b c d e w R)(h:Z02.Vc a b c d e w R):C V 112 #[(J1 a),(E (H b)),(.slice c d e)] w R:=xs [(2,[(8,.cell (.int J))])] [.big 25 a,.addr b,.slice c d e] Tryz.func112 ZO (by kernel_rfl) h
abbrev Z1H.n:Nat:=113
def Z1H.Vc(a:Option Addr)(b c:Nat)(d e:Int)(w:X)(R:J5->X->Prop):Prop :=
 ∃(f:Option Addr->Nat->Nat->Int->X->Prop)(g:Option Addr->Nat->Nat->Int->X->Nat),f a b c 0 w /\
 (∀(a:Option Addr)(b:Nat)(c:Nat)(h:Int)(i:Nat->Value)(i:X),f a b c h i ->
 ((h<e ->
 (0:Int)<=(G J (8*h)) /\
 ∀j k,ZB i 5 #[.int JL (G JL (shrI Z d (G J (8*h))))] j k ->
 ∃d l,J0 V (builtinV .append #[23,23] 23 #[.slice a b c,.slice (H j) 1 1]) k=.ok d l /\
 ∃j k m,d=(.slice j k m) /\
 f j k m (G J (h+1)) l/\g j k m (G J (h+1)) l<g a b c h i) /\
 (¬h<e ->
 R (F (.slice a b c)) i)))
theorem Z1H.vc(a b c d e w R)(h:Z1H.Vc a b c d e w R):C V 113 #[(.slice a b c),(.int Z d),(.int J e)] w R:=xs [(2,[(0,.cell (.slice)),(9,.cell (.int J))])] [.slice a b c,.int Z d,.int J e] Tryz.func113 ZO (by kernel_rfl) h
abbrev Zr.n:Nat:=132
def Zr.Vc(a:Array Value)(b:Addr)(w:X)(R:J5->X->Prop):Prop :=
 ∀c d,ZB w 173 a c d ->
 ∀a e,ZB d 173 (Y 25 (.int Z 0)) a e ->
 ∃(d:Int->X->Prop)(f:Int->X->Nat),d 0 e /\
 (∀(e:Int)(g:Nat->Value)(g:X),d e g ->
 ((e<24 ->
 ∃h,ZH g c 25 h /\
 C V 145 #[J1 h,E (H b),.int J e] g (fun b h =>
 ∃i,b=F (J1 i) /\
 ∃b,J0 V (D 173 (E (H c)) (J1 i)) h=.ok () b /\
 d (G J (e+1)) b/\f (G J (e+1)) b<f e g)) /\
 (¬e<24 ->
 ∃b,ZH g c 25 b /\
 ∃c,J0 V (D 173 (E (H a)) (J1 b)) g=.ok () c /\
 ∃b,ZH c a 25 b /\
 R (F (J1 b)) c)))
theorem Zr.vc(a b w R)(h:Zr.Vc a b w R):C V 132 #[(J1 a),(E (H b))] w R:=xs [(2,[(6,.cell (.int J))])] [.big 25 a,.addr b] Tryz.func132 ZO (by kernel_rfl) h
abbrev Z0h.n:Nat:=115
def Z0h.Vc(a b:Int)(w:X)(R:J5->X->Prop):Prop :=
 ((b=0 ->
 R (F (.int Z a)) w) /\
 (b≠0 ->
 ∀c,ZL w c ->
 (0:Int)<=b /\
 (0:Int)<=(G J (64-b)) /\
 R (F (.int Z (bitsI .or Z (shlI Z a b) (shrI Z a (G J (64-b)))))) c))
theorem Z0h.vc(a b w R)(h:Z0h.Vc a b w R):C V 115 #[(.int Z a),(.int J b)] w R:=xs [] [.int Z a,.int J b] Tryz.func115 ZO (by kernel_rfl) h
abbrev Z0K.n:Nat:=129
def Z0K.Vc  (w:X)(R:J5->X->Prop):Prop :=
 ∀a b,ZB w 168 (Y 24 (.int Z 0)) a b ->
 ∀c d,ZB b 168 (Y 24 (.int Z 0)) c d ->
 ∃(b:Int->Int->X->Prop)(e:Int->Int->X->Nat),b 1 0 d /\
 (∀(d:Int)(f:Int)(g:Nat->Value)(g:X),b d f g ->
 ((f<24 ->
 ∃(h:Int->Int->X->Prop)(i:Int->Int->X->Nat),h d 0 g /\
 (∀(j:Int)(k:Int)(l:Nat->Value)(l:X),h j k l ->
 ((k<7 ->
 ∀m,ZL l m ->
 ((0:Int)<=f/\f<(24:Int)) /\
 ∃n,m.cell? (c.add f.toNat)=H (.int Z n) /\
 (0:Int)<=k /\
 (0:Int)<=(G Z ((shlI Z 1 k)-1)) /\
 ((0:Int)<=f/\f<(24:Int)) /\
 Z1 m (c.add f.toNat) (.int Z (bitsI .or Z n (shlI Z (G Z (bitsI .and J j 1)) (G Z ((shlI Z 1 k)-1)))))/\∀o,Z8 m (c.add f.toNat) (.int Z (bitsI .or Z n (shlI Z (G Z (bitsI .and J j 1)) (G Z ((shlI Z 1 k)-1))))) o ->
 (((G J (j*2))>255 ->
 h (bitsI J3 J (G J ((G J (j*2))-256)) 113) (G J (k+1)) o/\i (bitsI J3 J (G J ((G J (j*2))-256)) 113) (G J (k+1)) o<i j k l) /\
 (¬(G J (j*2))>255 ->
 h (G J (j*2)) (G J (k+1)) o/\i (G J (j*2)) (G J (k+1)) o<i j k l))) /\
 (¬k<7 ->
 b j (G J (f+1)) l/\e j (G J (f+1)) l<e d f g)))) /\
 (¬f<24 ->
 ∃b,ZH g c 24 b /\
 ∃c,J0 V (D 168 (E (H a)) (J1 b)) g=.ok () c /\
 ∃b,ZH c a 24 b /\
 R (F (J1 b)) c)))
theorem Z0K.vc  (w:X)(R:J5->X->Prop)(h:Z0K.Vc w R):C V 129 #[] w R :=
 Z0z (R:=⟨R,false⟩) (ann:=[(4,[(2,.cell (.int J)),(5,.cell (.int J))]),(7,[(2,.cell (.int J)),(8,.cell (.int J))])]) (args:=[]) Tryz.func129 ZO (Eq.mp (by kernel_rfl:Z0K.Vc w R=Z4h (pA V ⟨R,false⟩) V [(4,[(2,.cell (.int J)),(5,.cell (.int J))]),(7,[(2,.cell (.int J)),(8,.cell (.int J))])] Tryz.f129 [] w) h)
abbrev Z1G.n:Nat:=130
def Z1G.Vc  (w:X)(R:J5->X->Prop):Prop :=
 ∀a b,ZB w 169 (Y 25 (.int J 0)) a b ->
 ∀c d,ZB b 169 (Y 25 (.int J 0)) c d ->
 ∃(b:Int->Int->Int->X->Prop)(e:Int->Int->Int->X->Nat),b 1 0 0 d /\
 (∀(d:Int)(f:Int)(g:Int)(h:Nat->Value)(h:X),b d f g h ->
 ((g<24 ->
 C V 144 #[.int J d,.int J f] h (fun i j =>
 ∃k,i=F (.int J k) /\
 ((0:Int)<=k/\k<(25:Int)) /\
 Z1 j (c.add k.toNat) (.int J (U (G J (W (G J ((G J (g+1))*(G J (g+2)))) 2)) 64))/\∀i,Z8 j (c.add k.toNat) (.int J (U (G J (W (G J ((G J (g+1))*(G J (g+2)))) 2)) 64)) i ->
 b f (U (G J ((G J (2*d))+(G J (3*f)))) 5) (G J (g+1)) i/\e f (U (G J ((G J (2*d))+(G J (3*f)))) 5) (G J (g+1)) i<e d f g h)) /\
 (¬g<24 ->
 ∃b,ZH h c 25 b /\
 ∃c,J0 V (D 169 (E (H a)) (J1 b)) h=.ok () c /\
 ∃b,ZH c a 25 b /\
 R (F (J1 b)) c)))
theorem Z1G.vc  (w:X)(R:J5->X->Prop)(h:Z1G.Vc w R):C V 130 #[] w R :=
 Z0z (R:=⟨R,false⟩) (ann:=[(4,[(2,.cell (.int J)),(3,.cell (.int J)),(5,.cell (.int J))])]) (args:=[]) Tryz.func130 ZO (Eq.mp (by kernel_rfl:Z1G.Vc w R=Z4h (pA V ⟨R,false⟩) V [(4,[(2,.cell (.int J)),(3,.cell (.int J)),(5,.cell (.int J))])] Tryz.f130 [] w) h)
abbrev Z18.n:Nat:=131
def Z18.Vc(a:Option Addr)(b c:Nat)(w:X)(R:J5->X->Prop):Prop :=
 ∃(c:Int->Int->X->Prop)(d:Int->Int->X->Nat),c 0 0 w /\
 (∀(e:Int)(f:Int)(g:Nat->Value)(g:X),c e f g ->
 ((f<(b:Int) ->
 ∃h,a=H h /\
 ((0:Int)<=f/\f<(b:Int)) /\
 ∃a,g.cell? (h.add f.toNat)=H (.int JL a) /\
 (0:Int)<=(G J (8*f)) /\
 c (bitsI .or Z e (shlI Z (G Z a) (G J (8*f)))) (G J (f+1)) g/\d (bitsI .or Z e (shlI Z (G Z a) (G J (8*f)))) (G J (f+1)) g<d e f g) /\
 (¬f<(b:Int) ->
 R (F (.int Z e)) g)))
theorem Z18.vc(a b c w R)(h:Z18.Vc a b c w R):C V 131 #[(.slice a b c)] w R:=xs [(3,[(3,.cell (.int Z)),(8,.cell (.int J))])] [.slice a b c] Tryz.func131 ZO (by kernel_rfl) h
abbrev Z0F.n:Nat:=145
def Z0F.Vc(a:Array Value)(b:Addr)(c:Int)(w:X)(R:J5->X->Prop):Prop :=
 ∀d e,ZB w 173 a d e ->
 ∀a f,ZB e 173 (Y 25 (.int Z 0)) a f ->
 ∀e g,ZB f 181 #[.int Z 0,.int Z 0,.int Z 0,.int Z 0,.int Z 0] e g ->
 ∃(f:Int->X->Prop)(h:Int->X->Nat),f 0 g /\
 (∀(g:Int)(i:Nat->Value)(i:X),f g i ->
 ((g<5 ->
 ∃(j:Int->X->Prop)(k:Int->X->Nat),j 0 i /\
 (∀(l:Int)(m:Nat->Value)(m:X),j l m ->
 ((l<5 ->
 ∀n,ZL m n ->
 ((0:Int)<=g/\g<(5:Int)) /\
 ∃o,n.cell? (e.add g.toNat)=H (.int Z o) /\
 C V 144 #[.int J g,.int J l] n (fun n p =>
 ∃q,n=F (.int J q) /\
 p.cell? (e.add g.toNat)=H (.int Z o) /\
 ((0:Int)<=q/\q<(25:Int)) /\
 ∃n,p.cell? (d.add q.toNat)=H (.int Z n) /\
 ((0:Int)<=g/\g<(5:Int)) /\
 Z1 p (e.add g.toNat) (.int Z (bitsI J3 Z o n))/\∀q,Z8 p (e.add g.toNat) (.int Z (bitsI J3 Z o n)) q ->
 j (G J (l+1)) q/\k (G J (l+1)) q<k l m)) /\
 (¬l<5 ->
 f (G J (g+1)) m/\h (G J (g+1)) m<h g i)))) /\
 (¬g<5 ->
 ∀f g,ZB i 173 (Y 25 (.int Z 0)) f g ->
 ∃(h:Int->X->Prop)(i:Int->X->Nat),h 0 g /\
 (∀(g:Int)(j:Nat->Value)(j:X),h g j ->
 ((g<5 ->
 ∀k,ZL j k ->
 ((0:Int)<=(U (G J ((G J (g+5))-1)) 5)/\(U (G J ((G J (g+5))-1)) 5)<(5:Int)) /\
 ∃l,k.cell? (e.add (O (U (G J ((G J (g+5))-1)) 5)))=H (.int Z l) /\
 ((0:Int)<=(U (G J (g+1)) 5)/\(U (G J (g+1)) 5)<(5:Int)) /\
 ∃m,k.cell? (e.add (O (U (G J (g+1)) 5)))=H (.int Z m) /\
 C V 157 #[.int Z m,.int J 1] k (fun k m =>
 ∃n,k=F (.int Z n) /\
 m.cell? (e.add (O (U (G J ((G J (g+5))-1)) 5)))=H (.int Z l) /\
 ∃(e:Int->X->Prop)(k:Int->X->Nat),e 0 m /\
 (∀(m:Int)(o:Nat->Value)(o:X),e m o ->
 ((m<5 ->
 ∀p,ZL o p ->
 C V 144 #[.int J m,.int J (G J ((G J (2*g))+(G J (3*m))))] p (fun p q =>
 ∃r,p=F (.int J r) /\
 C V 144 #[.int J g,.int J m] q (fun p q =>
 ∃s,p=F (.int J s) /\
 ((0:Int)<=s/\s<(25:Int)) /\
 ∃p,q.cell? (d.add s.toNat)=H (.int Z p) /\
 C V 144 #[.int J g,.int J m] q (fun q t =>
 ∃u,q=F (.int J u) /\
 t.cell? (d.add s.toNat)=H (.int Z p) /\
 ((0:Int)<=u/\u<(25:Int)) /\
 ∃d,t.cell? ((b.add 24).add u.toNat)=H (.int J d) /\
 C V 157 #[.int Z (bitsI J3 Z p (bitsI J3 Z l n)),.int J d] t (fun d l =>
 ∃n,d=F (.int Z n) /\
 ((0:Int)<=r/\r<(25:Int)) /\
 Z1 l (f.add r.toNat) (.int Z n)/\∀d,Z8 l (f.add r.toNat) (.int Z n) d ->
 e (G J (m+1)) d/\k (G J (m+1)) d<k m o))))) /\
 (¬m<5 ->
 h (G J (g+1)) o/\i (G J (g+1)) o<i g j))))) /\
 (¬g<5 ->
 ∀d e,ZB j 173 (Y 25 (.int Z 0)) d e ->
 ∃(g:Int->X->Prop)(h:Int->X->Nat),g 0 e /\
 (∀(e:Int)(i:Nat->Value)(i:X),g e i ->
 ((e<5 ->
 ∃(j:Int->X->Prop)(k:Int->X->Nat),j 0 i /\
 (∀(l:Int)(m:Nat->Value)(m:X),j l m ->
 ((l<5 ->
 ∀n,ZL m n ->
 C V 144 #[.int J e,.int J l] n (fun n o =>
 ∃p,n=F (.int J p) /\
 C V 144 #[.int J e,.int J l] o (fun n o =>
 ∃q,n=F (.int J q) /\
 ((0:Int)<=q/\q<(25:Int)) /\
 ∃n,o.cell? (f.add q.toNat)=H (.int Z n) /\
 C V 144 #[.int J (G J (e+1)),.int J l] o (fun o r =>
 ∃s,o=F (.int J s) /\
 r.cell? (f.add q.toNat)=H (.int Z n) /\
 ((0:Int)<=s/\s<(25:Int)) /\
 ∃o,r.cell? (f.add s.toNat)=H (.int Z o) /\
 C V 144 #[.int J (G J (e+2)),.int J l] r (fun r t =>
 ∃u,r=F (.int J u) /\
 t.cell? (f.add s.toNat)=H (.int Z o) /\
 t.cell? (f.add q.toNat)=H (.int Z n) /\
 ((0:Int)<=u/\u<(25:Int)) /\
 ∃q,t.cell? (f.add u.toNat)=H (.int Z q) /\
 ((0:Int)<=p/\p<(25:Int)) /\
 Z1 t (d.add p.toNat) (.int Z (bitsI J3 Z n (bitsI .and Z (bitsI J3 Z 18446744073709551615 o) q)))/\∀f,Z8 t (d.add p.toNat) (.int Z (bitsI J3 Z n (bitsI .and Z (bitsI J3 Z 18446744073709551615 o) q))) f ->
 j (G J (l+1)) f/\k (G J (l+1)) f<k l m))))) /\
 (¬l<5 ->
 g (G J (e+1)) m/\h (G J (e+1)) m<h e i)))) /\
 (¬e<5 ->
 ∀e,ZL i e ->
 ∃f,e.cell? d=H (.int Z f) /\
 ((0:Int)<=c/\c<(24:Int)) /\
 ∃g,e.cell? (b.add c.toNat)=H (.int Z g) /\
 Z1 e d (.int Z (bitsI J3 Z f g))/\∀b,Z8 e d (.int Z (bitsI J3 Z f g)) b ->
 ∃c,ZH b d 25 c /\
 ∃d,J0 V (D 173 (E (H a)) (J1 c)) b=.ok () d /\
 ∃b,ZH d a 25 b /\
 R (F (J1 b)) d)))))))))
theorem Z0F.vc(a b c w R)(h:Z0F.Vc a b c w R):C V 145 #[(J1 a),(E (H b)),(.int J c)] w R:=xs [(3,[(17,.cell (.int J))]),(6,[(20,.cell (.int J))]),(13,[(35,.cell (.int J))]),(17,[(51,.cell (.int J))]),(24,[(80,.cell (.int J))]),(27,[(83,.cell (.int J))])] [.big 25 a,.addr b,.int J c] Tryz.func145 ZO (by kernel_rfl) h
abbrev Z3M.n:Nat:=144
def Z3M.Vc(a b:Int)(w:X)(R:J5->X->Prop):Prop :=
 R (F (.int J (G J ((U a 5)+(G J (5*(U b 5))))))) w
theorem Z3M.vc(a b w R)(h:Z3M.Vc a b w R):C V 144 #[(.int J a),(.int J b)] w R:=xs [] [.int J a,.int J b] Tryz.func144 ZO (by kernel_rfl) h
abbrev Zk.n:Nat:=157
def Zk.Vc(a b:Int)(w:X)(R:J5->X->Prop):Prop :=
 (0:Int)<=(bitsI .and Z (G Z b) 63) /\
 (0:Int)<=(G Z (64-(bitsI .and Z (G Z b) 63))) /\
 R (F (.int Z (bitsI .or Z (shlI Z a (bitsI .and Z (G Z b) 63)) (shrI Z a (G Z (64-(bitsI .and Z (G Z b) 63))))))) w
theorem Zk.vc(a b w R)(h:Zk.Vc a b w R):C V 157 #[(.int Z a),(.int J b)] w R:=xs [] [.int Z a,.int J b] Tryz.func157 ZO (by kernel_rfl) h
end Go.Proofs.YtfghidehlnfdiaaGreat
end
section
namespace Go.Vcg
open Go.RowKit (Below)
@[simp] theorem Z6(b i n:Nat):Addr.add ⟨b,i,J9⟩ n=⟨b,i+n,J9⟩:=by
  unfold Addr.add;split<;>simp_all
def Blk(w:X)(b:Nat)(t:JH)(cs:Array Value):Prop:=w.heap[b]?=H (A cs t (0,0))
structure Mod (S:Nat->Prop) (w w':X):Prop where
 os:w'.os=w.os
 tape:w'.tape=w.tape
 output:w'.output=w.output
 size:w.heap.size<=w'.heap.size
 block:∀k,k<w.heap.size->¬S k->w'.heap[k]?=w.heap[k]?
abbrev NoB:Nat->Prop:=fun _=>False
theorem Mod.refl{S}(w:X):Mod S w w:=⟨rfl,rfl,rfl,JV _,fun _ _ _=>rfl⟩
theorem Mod.trans{S T:Nat->Prop}{a b c:X}(h:Mod S a b)(k:Mod T b c)(hs:∀i,i<a.heap.size->T i->S i):Mod S a c :=
 ⟨k.os.trans h.os,k.tape.trans h.tape,k.output.trans h.output,Nat.le_trans h.size k.size,
  fun i hi hn=>(k.block i (JM hi h.size) (fun ht=>hn (hs i hi ht))).trans (h.block i hi hn)⟩
theorem Mod.mono{S T:Nat->Prop}{a b:X}(h:Mod S a b)(hs:∀i,i<a.heap.size->S i->T i):Mod T a b :=
 ⟨h.os,h.tape,h.output,h.size,fun i hi hn=>h.block i hi (fun k=>hn (hs i hi k))⟩
theorem Mod.none_trans{S:Nat->Prop}{a b c:X}(h:Mod S a b)(k:Mod NoB b c):Mod S a c:=h.trans k (fun _ _ h=>h.elim)
theorem Mod.below{w w':X}(h:Mod NoB w w'):Below w.heap.size w w':=⟨h.os,h.tape,h.output,h.size,fun k hk=>h.block k hk (fun h=>h)⟩
theorem Mod.drew(w:X){S}:Mod S w w.drew:=⟨rfl,rfl,rfl,JV _,fun _ _ _=>rfl⟩
theorem Mod.alloc(w:X)(o:Obj){S}:Mod S w (w.alloc o):=⟨rfl,rfl,rfl,by simp,fun k hk _=>heap_alloc_old w o hk⟩
theorem Mod.setCell(w:X)(a:Addr)(v:Value):Mod (·=a.block) w (w.setCell a v) :=
 ⟨rfl,rfl,rfl,by simp[World.setCell],fun k hk hn=>heap_setCell_other w a k v hn⟩
theorem Mod.setRow(w:X)(g:Nat)(cs:Array Value):Mod (·=g) w (w.setRow g cs) :=
 ⟨rfl,rfl,rfl,by simp[World.setRow],fun k hk hn=>setRow_other w g k _ hn⟩
theorem Mod.step_drew{S}{w0 w:X}(h:Mod S w0 w):Mod S w0 w.drew:=h.none_trans (Mod.drew w)
theorem Mod.step_alloc{S}{w0 w:X}(h:Mod S w0 w)(o:Obj):Mod S w0 (w.alloc o):=h.none_trans (Mod.alloc w o)
theorem Mod.step_set{S:Nat->Prop}{w0 w:X}(h:Mod S w0 w){a:Addr}{v:Value}(hs:a.block<w0.heap.size->S a.block):Mod S w0 (w.setCell a v) :=
 h.trans (Mod.setCell w a v) (fun i hi e=>by subst e;exact hs hi)
theorem Mod.step_row{S:Nat->Prop}{w0 w:X}(h:Mod S w0 w){g:Nat}{cs}(hs:g<w0.heap.size->S g):Mod S w0 (w.setRow g cs) :=
 h.trans (Mod.setRow w g cs) (fun i hi e=>by subst e;exact hs hi)
theorem ZC(w:X)(o:Obj):(w.alloc o).heap.size=w.heap.size+1:=by simp
theorem Z4O(w:X)(a:Addr)(v:Value):(w.setCell a v).heap.size=w.heap.size:=by simp[World.setCell]
theorem ZBc(w:X)(g:Nat)(cs):(w.setRow g cs).heap.size=w.heap.size:=by simp[World.setRow]
section
variable{w w':X}{b:Nat}{t:JH}{cs:Array Value}
theorem Blk.lt(h:Blk w b t cs):b<w.heap.size:=(Array.getElem?_eq_some_iff.1 h).1
theorem Blk.mod{S:Nat->Prop}(h:Blk w b t cs)(m:Mod S w w')(hs:¬S b):Blk w' b t cs:=(m.block b h.lt hs).trans h
theorem Blk.mod'(h:Blk w b t cs)(m:Mod NoB w w'):Blk w' b t cs:=h.mod m (fun h=>h)
theorem Blk.drew(h:Blk w b t cs):Blk w.drew b t cs:=h
theorem Blk.alloc(h:Blk w b t cs)(o:Obj):Blk (w.alloc o) b t cs:=h.mod' (Mod.alloc w o)
theorem Blk.new(w:X)(t:JH)(cs:Array Value):Blk (w.alloc (A cs t)) w.heap.size t cs:=heap_alloc_new w _
theorem Blk.set(h:Blk w b t cs)(i:Nat)(v:Value):Blk (w.setCell ⟨b,i,J9⟩ v) b t (cs.setIfInBounds i v):=heap_setCell_same w b i cs t v h
theorem Blk.set_ne(h:Blk w b t cs){a:Addr}{v:Value}(hn:b≠a.block):Blk (w.setCell a v) b t cs:=h.mod (Mod.setCell w a v) hn
theorem Blk.row_ne(h:Blk w b t cs){g:Nat}{c:Array Value}(hn:b≠g):Blk (w.setRow g c) b t cs:=h.mod (Mod.setRow w g c) hn
theorem Blk.row_same(h:Blk w b t cs)(c:Array Value):Blk (w.setRow b c) b t c:=setRow_heap w b cs c t _ h
theorem Blk.cell(h:Blk w b t cs)(i:Nat):w.cell? ⟨b,i,J9⟩=cs[i]?:=cell_of_row w b i cs t _ h
theorem Blk.canSet(h:Blk w b t cs){i:Nat}{v:Value}(hi:i<cs.size)(hv:v.oneCell'=true):Z1 w ⟨b,i,J9⟩ v :=
 ⟨hv,⟨cs[i],by rw[h.cell];simp[hi]⟩,by simp[World.frozen?,show w.heap[b]?=_ from h]⟩
theorem Blk.rowAt(h:Blk w b t cs){o n:Nat}{L:Array Value}(hn:L.size=n)(hl:∀i,i<n->cs[o+i]?=L[i]?):ZH w ⟨b,o,J9⟩ n L :=
 ⟨hn,fun i hi=>by rw[Z6,h.cell,hl i hi]⟩
theorem Blk.rowAll(h:Blk w b t cs){n:Nat}(hn:cs.size=n):ZH w ⟨b,0,J9⟩ n cs :=
 h.rowAt hn (fun i _=>by simp)
theorem Blk.storeAt{P:Program}(h:Blk w b t cs){ty:JH}{i:TypeInfo}{L:Array Value}{o:Nat}(hi:P.info? ty=H i)(hsz:i.size=L.size)
  (hb:o+L.size<=cs.size) (h1:∀v∈L.toList,v.oneCell'=true) :
  J0 P (D ty (E (H ⟨b,o,J9⟩)) (J1 L)) w=.ok () (w.setRow b (cs.toList.take o++L.toList++cs.toList.drop (o+L.size)).toArray):=by
 have hst:=run_storeCells_at P b o t L.toList 0 cs w h (by simpa using hb) h1;simp only[Nat.add_zero,Array.length_toList]at hst;simp only[D,Instr.sureAddr,pure_bind];unfold storeVar;simp[Sem.run_bind,sizeOf,typeInfo,hi,hsz,Value.cells,hst]
end
theorem Blk.storeAll{w:X}{b:Nat}{t:JH}{cs:Array Value}{P:Program}(h:Blk w b t cs){ty:JH}{L:Array Value}(hi:(P.info? ty).map (·.size)=H L.size)
  (hb:cs.size=L.size) (h1:∀v∈L.toList,v.oneCell'=true) :
  J0 P (D ty (E (H ⟨b,0,J9⟩)) (J1 L)) w=.ok () (w.setRow b L):=by
 obtain⟨i,hi',hsz⟩:=Option.map_eq_some_iff.1 hi;rw[h.storeAt hi' hsz (by omega) h1];have:cs.toList.drop (0+L.size)=[]:=List.drop_eq_nil_of_le (by simp;omega);rw[this];simp
theorem Blk.rd0{w:X}{b:Nat}{t:JH}{cs:Array Value}(h:Blk w b t cs){i:Nat}{v:Value}(hv:cs[i]?=H v) :
 w.cell? (Addr.add ⟨b,0,J9⟩ (O (i:Int)))=H v:=by rw[J4,Z6,h.cell,JO,hv]
theorem Blk.rd1{w:X}{b i:Nat}{t:JH}{cs:Array Value}(h:Blk w b t cs){v:Value}(hv:cs[i]?=H v) :
 w.cell? ⟨b,i,J9⟩=H v:=by rw[h.cell,hv]
theorem Blk.canSet0{w:X}{b:Nat}{t:JH}{cs:Array Value}(h:Blk w b t cs){i:Nat}{v:Value}(hi:i<cs.size)(hv:v.oneCell'=true):Z1 w (Addr.add ⟨b,0,J9⟩ (O (i:Int))) v:=by
 rw[J4,Z6,JO];exact h.canSet hi hv
theorem Z8.at{w w':X}{b i:Nat}{v:Value}(h:Z8 w (Addr.add ⟨b,0,J9⟩ (O (i:Int))) v w'):w'=w.setCell ⟨b,i,J9⟩ v:=by
 rw[Z8,J4,Z6,JO]at h;exact h
def Z7u(N:Nat)(Inv:Nat->X->Prop)(n:Int)(w:X):Prop:=∃k:Nat,n=(k:Int)/\k<=N/\Inv k w
abbrev ZGJ(N:Nat)(n:Int)(_:X):Nat:=((N:Int)-n).toNat
theorem Z4C{w:X}{b:Int}{B:(Int->X->Prop)->(Int->X->Nat)->Int->(Nat->Value)->X->Prop}{K:Int->(Nat->Value)->X->Prop}
  (N:Nat) (Inv:Nat->X->Prop) (hb:b=(N:Int)) (h0:Inv 0 w)
  (hB:∀(k:Nat)(j:Nat->Value)(w':X),k<N->Inv k w'->B (Z7u N Inv) (ZGJ N) (k:Int) j w')
  (hK:∀(j:Nat->Value)(w':X),Inv N w'->K (N:Int) j w') :
  ∃(I:Int->X->Prop)(μ:Int->X->Nat),I 0 w/\(∀(n:Int)(j:Nat->Value)(w4:X),I n w4->((n<b->B I μ n j w4)/\(¬n<b->K n j w4))):=by
 subst hb;refine⟨Z7u N Inv,ZGJ N,⟨0,rfl,Nat.zero_le _,h0⟩,?_⟩;rintro _ j w'⟨k,rfl,hk,hI⟩;refine⟨fun h=>hB k j w' (by omega) hI,fun h=>?_⟩;have:k=N:=by omega
 subst this;exact hK j w' hI
theorem Z7u.next{N:Nat}{Inv:Nat->X->Prop}{k:Nat}{m:Int}{w w':X}(hm:m=((k+1:Nat):Int))(hk:k<N)(h:Inv (k+1) w'):Z7u N Inv m w'/\ZGJ N m w'<ZGJ N (k:Int) w:=by
 subst hm;exact⟨⟨k+1,rfl,hk,h⟩,by simp only[ZGJ];omega⟩
end Go.Vcg
end
section
namespace Go.Vcg
def ZP(n:Nat)(f:Nat->Value):Array Value:=Array.ofFn (n:=n) fun i=>f i
@[simp] theorem Zt(n:Nat)(f):(ZP n f).size=n:=by simp[ZP]
theorem ZA6(n:Nat)(f)(i:Nat):(ZP n f)[i]?=if i<n then H (f i)else J9:=by
 simp[ZP,Array.getElem?_ofFn]
theorem ZE{n:Nat}{f}{i:Nat}(h:i<n):(ZP n f)[i]?=H (f i):=by rw[ZA6,if_pos h]
theorem ZF{n:Nat}{f g:Nat->Value}(h:∀i,i<n->f i=g i):ZP n f=ZP n g:=by
 apply Array.ext<;>simp[ZP];exact fun i hi=>h i hi
theorem Z91{n:Nat}{f:Nat->Value}{cs:Array Value}(hs:cs.size=n)(h:∀i,i<n->cs[i]?=H (f i)):cs=ZP n f:=by
 apply Array.ext
 ·simpa using hs
 ·intro i h1 h2
  have:=h i (by omega);rw[Array.getElem?_eq_getElem h1]at this;simpa[ZP]using this
theorem Z0E(n:Nat)(f:Nat->Value)(i:Nat)(v:Value):(ZP n f).setIfInBounds i v=ZP n (fun j=>if j=i then v else f j):=by
 apply Array.ext
 ·simp
 ·intro j h1 h2
  simp only[ZP,Array.getElem_ofFn];rw[Array.getElem_setIfInBounds (by simpa using h1)];split<;>simp_all[eq_comm]
theorem Zb(n:Nat)(v:Value):Y n v=ZP n (fun _=>v):=by
 apply Array.ext<;>simp[ZP]
theorem ZAc(n o m:Nat)(f g:Nat->Value)(h:o+m<=n) :
  ((ZP n f).toList.take o++(ZP m g).toList++(ZP n f).toList.drop (o+m)).toArray=ZP n (fun i=>if i<o then f i else if i<o+m then g (i-o)else f i):=by
 have ef:∀n f,(ZP n f).toList=(JB n).map f:=by
  intro n f;apply List.ext_getElem?;intro i;rw[Array.getElem?_toList,ZA6,J8];by_cases hi:i<n
  ·rw[if_pos hi,J7 hi];rfl
  ·rw[if_neg hi,JJ (by simp;omega)];rfl
 refine Z91 ?_ (fun i hi=>?_)
 ·simp[ef];omega
 ·rw[List.getElem?_toArray,ef,ef]
  have l1:(JX o ((JB n).map f)).length=o:=by simp;omega
  have l2:(JX o ((JB n).map f)++(JB m).map g).length=o+m:=by rw[List.length_append,l1];simp
  by_cases h1:i<o
  ·rw[if_pos h1,List.append_assoc,JE (by omega),List.getElem?_take,if_pos h1,J8,J7 hi];rfl
  ·rw[if_neg h1]
   by_cases h2:i<o+m
   ·rw[if_pos h2,JE (by omega),JC (by omega),l1,J8,J7 (by omega)];rfl
   ·rw[if_neg h2,JC (by omega),l2,List.getElem?_drop,J8,show o+m+(i-(o+m))=i by omega,J7 hi];rfl
abbrev uI(x:BitVec 64):Int:=(x.toNat:Int)
abbrev uV(x:BitVec 64):Value:=.int Z (uI x)
theorem Z9C(x:BitVec 64):BitVec.ofInt 64 (uI x)=x:=by
 apply JK;simp
theorem Z4e(n:Int):G Z n=n%18446744073709551616:=by
 simp[G,JI,IntKind.signed]
theorem ZAk(n:Nat)(h:n<2^64):G Z (n:Int)=n:=by
 rw[Z4e];omega
theorem Z7s(x:BitVec 64):G Z (uI x)=uI x:=ZAk _ x.isLt
theorem Z0N(x y:BitVec 64):bitsI J3 Z (uI x) (uI y)=uI (x^^^y):=by
 simp only[bitsI,JI,Z9C];exact Z7s _
theorem Z9l(x y:BitVec 64):bitsI .and Z (uI x) (uI y)=uI (x&&&y):=by
 simp only[bitsI,JI,Z9C];exact Z7s _
theorem Z5I(x y:BitVec 64):bitsI .or Z (uI x) (uI y)=uI (x|||y):=by
 simp only[bitsI,JI,Z9C];exact Z7s _
theorem Z9m(x:BitVec 64):bitsI J3 Z 18446744073709551615 (uI x)=uI (~~~ x):=by
 have:(18446744073709551615:Int)=uI (BitVec.allOnes 64):=by decide
 rw[this,Z0N];congr 2
theorem Z8k(x:BitVec 64)(n:Nat):shlI Z (uI x) (n:Int)=uI (x<<<n):=by
 unfold shlI;rw[Z4e];show(x.toNat:Int)*2^(min (O (n:Int)) 64)%18446744073709551616=((x<<<n).toNat:Int);rw[J4,BitVec.toNat_shiftLeft,Nat.shiftLeft_eq];by_cases h:n<=64
 ·rw[JR h]
  have e:(2:Int)^n=((2^n:Nat):Int):=by simp
  rw[e,<-Int.natCast_mul];omega
 ·rw[JP (by omega)]
  have h0:x.toNat*2^n%2^64=0:=by
   have h1:2^n=2^(n-64)*2^64:=by rw[<-Nat.pow_add];congr 1;omega
   rw[h1,<-Nat.mul_assoc,Nat.mul_mod_left]
  rw[h0];omega
theorem ZCe(x:BitVec 64)(n:Nat)(k:IntKind)(hk:k.bits=64):shrI k (uI x) (n:Int)=uI (x>>>n):=by
 unfold shrI;rw[hk,J4];show Int.fdiv (x.toNat:Int) (2^(min n 64))=((x>>>n).toNat:Int);rw[BitVec.toNat_ushiftRight,JF];have hx:=x.isLt;have e:∀m:Nat,(2:Int)^m=((2^m:Nat):Int):=by intro m;simp
 by_cases h:n<=64
 ·rw[JR h,e,JD _ (JN _),JQ]
 ·rw[JP (by omega),e,JD _ (JN _),<-JQ]
  have h1:x.toNat/2^n=0:=JG (Nat.lt_trans hx (Nat.pow_lt_pow_right (by decide) (by omega)));rw[h1,JG hx]
theorem ZFq(n:Int):G J n=(n+9223372036854775808)%18446744073709551616-9223372036854775808:=by
 unfold G;show(if(true&&decide (n%18446744073709551616>=9223372036854775808))=true then n%18446744073709551616-18446744073709551616 else n%18446744073709551616)=_;simp only[Bool.true_and,decide_eq_true_eq];split<;>omega
theorem Z0{n:Int}(h: -9223372036854775808<=n)(h':n<9223372036854775808):G J n=n:=by
 rw[ZFq];omega
theorem Z29(a b:Int)(h:0<=a):U a b=a%b:=Int.tmod_eq_emod_of_nonneg h
abbrev St:=Nat->BitVec 64
def lanesA(s:St):Array Value:=ZP 25 (fun i=>uV (s i))
theorem ZJ(s:St):(lanesA s).size=25:=Zt _ _
theorem Z2n{n:Nat}{f:Nat->Value}(h:∀i,(f i).oneCell'=true):∀v∈(ZP n f).toList,v.oneCell'=true:=by
 intro v hv;simp only[ZP,Array.mem_toList_iff,Array.mem_ofFn]at hv;obtain⟨i,rfl⟩:=hv;exact h i
theorem Z1N(s:St):∀v∈(lanesA s).toList,v.oneCell'=true:=Z2n (fun _=>rfl)
theorem ZAF{s r:St}(h:∀i,i<25->s i=r i):lanesA s=lanesA r:=ZF (fun i hi=>by rw[h i hi])
theorem ZV(s:St){i:Nat}(h:i<25):(lanesA s)[i]?=H (uV (s i)):=ZE h
def ZEw:List Nat:=[0,1,62,28,27,36,44,6,55,20,3,10,43,25,39,41,45,15,21,8,18,2,61,56,14]
def turnOf(i:Nat):Nat:=ZEw.getD i 0
def rcL:List (BitVec 64):=[0x0000000000000001,0x0000000000008082,0x800000000000808a,0x8000000080008000,0x000000000000808b,0x0000000080000001,0x8000000080008081,0x8000000000008009,0x000000000000008a,0x0000000000000088,0x0000000080008009,0x000000008000000a,0x000000008000808b,0x800000000000008b,0x8000000000008089,0x8000000000008003,0x8000000000008002,0x8000000000000080,0x000000000000800a,0x800000008000000a,0x8000000080008081,0x8000000000008080,0x0000000080000001,0x8000000080008008]
def ZDM(i:Nat):BitVec 64:=rcL.getD i 0
theorem ZAd(i:Nat):turnOf i<64:=by
 unfold turnOf;by_cases h:i<25
 ·have:∀i,i<25->ZEw.getD i 0<64:=by decide
  exact this i h
 ·rw[List.getD_eq_getElem?_getD,JJ (by simp[ZEw];omega)];simp
def ZDK(s:St)(x:Nat):Nat->BitVec 64
 |0=>0
 |k+1=>ZDK s x k^^^s (x+5*k)
def par(s:St)(x:Nat):BitVec 64:=ZDK s x 5
def ddK(s:St)(x:Nat):BitVec 64:=par s ((x+4)%5)^^^(par s ((x+1)%5)).rotateLeft 1
def bbXY(s:St)(x y:Nat):BitVec 64:=(s (x+5*y)^^^ddK s x).rotateLeft (turnOf (x+5*y))
def bbK(s:St)(j:Nat):BitVec 64:=bbXY s ((j%5+3*(j/5))%5) (j%5)
def Z50(b:St)(j:Nat):BitVec 64:=b j^^^(~~~ b ((j%5+1)%5+5*(j/5))&&&b ((j%5+2)%5+5*(j/5)))
def rnd(n:Nat)(s:St):St:=fun j=>if j=0 then Z50 (bbK s) 0^^^ZDM n else Z50 (bbK s) j
def ZEf:Nat->St->St
 |0,s=>s
 |n+1,s=>rnd n (ZEf n s)
def Z65(s:St):St:=ZEf 24 s
def regOf:Nat->Nat
 |0=>1
 |k+1=>if 2*regOf k>255 then(2*regOf k-256)^^^0x71 else 2*regOf k
def Z5d(i:Nat):Nat->BitVec 64
 |0=>0
 |j+1=>Z5d i j|||((if regOf (7*i+j)%2=1 then(1:BitVec 64)else 0)<<<(2^j-1))
def Z4H(i:Nat):Nat->BitVec 64
 |0=>0
 |j+1=>Z4H i j^^^((if regOf (7*i+j)%2=1 then(1:BitVec 64)else 0)<<<(2^j-1))
def Z7t:Nat->Nat×Nat
 |0=>(1,0)
 |t+1=>((Z7t t).2,(2*(Z7t t).1+3*(Z7t t).2)%5)
def tarr:Nat->Nat->Nat
 |0=>fun _=>0
 |t+1=>fun j=>if j=(Z7t t).1+5*(Z7t t).2 then(t+1)*(t+2)/2%64 else tarr t j
theorem ZGD:∀k:Nat,k<169->regOf k<256:=by decide +kernel
theorem ZDD:∀i:Nat,i<24->Z5d i 7=ZDM i:=by decide +kernel
theorem ZEW:∀i:Nat,i<24->Z4H i 7=ZDM i:=by decide +kernel
theorem ZHd:∀t:Nat,t<25->(Z7t t).1<5/\(Z7t t).2<5:=by decide +kernel
theorem ZCh:∀j:Nat,j<25->tarr 24 j=turnOf j:=by decide +kernel
theorem ZCY:∀k:Nat,k<168->(regOf k*2>255->bitsI J3 J ((regOf k*2-256:Nat):Int) 113=(regOf (k+1):Int)):=by decide +kernel
theorem ZAW(k:Nat)(h:¬regOf k*2>255):regOf (k+1)=regOf k*2:=by
 rw[regOf,if_neg (by omega)];omega
theorem ZGb:∀k:Nat,k<168->bitsI .and J (regOf k:Int) 1=(regOf k%2:Nat):=by decide +kernel
theorem ZGC:∀j:Nat,j<7->G Z (shlI Z 1 (j:Int)-1)=((2^j-1:Nat):Int):=by decide +kernel
theorem ZCi:∀t:Nat,t<24->U (G J (W (G J ((G J ((t:Int)+1))*(G J ((t:Int)+2)))) 2)) 64=(((t+1)*(t+2)/2%64:Nat):Int):=by decide +kernel
end Go.Vcg
end
section
namespace Go.Proofs.YtfghidehlnfdiaaGreat
open Go Go.Vcg
theorem Z2X{R:J5->X->Prop}{w:X}{n0 n1:Int}(x y:Nat)(h0:n0=(x:Int))(h1:n1=(y:Int))(hx:x<1000)(hy:y<1000)
  (h:R (F (.int J ((x%5+5*(y%5):Nat):Int))) w):C V Z3M.n #[.int J n0,.int J n1] w R:=by
 subst h0 h1;refine Z3M.vc _ _ _ _ ?_;unfold Z3M.Vc
 have e:G J (U (x:Int) 5+G J (5*U (y:Int) 5))=((x%5+5*(y%5):Nat):Int):=by
  simp(disch:=omega) only[Z29,Z0];omega
 rw[e];exact h
theorem Z8f{R:J5->X->Prop}{w:X}{n0 n1:Int}(x:BitVec 64)(k:Nat)(h0:n0=uI x)(h1:n1=(k:Int))(hk:k<64)
  (h:R (F (uV (x.rotateLeft k))) w):C V Zk.n #[.int Z n0,.int J n1] w R:=by
 subst h0 h1;refine Zk.vc _ _ _ _ ?_;unfold Zk.Vc
 have e1:bitsI .and Z (G Z (k:Int)) 63=(k:Int):=by
  have:∀k:Nat,k<64->bitsI .and Z (G Z (k:Int)) 63=(k:Int):=by decide +kernel
  exact this k hk
 have e2:G Z (64-(k:Int))=((64-k:Nat):Int):=by
  rw[Z4e];omega
 rw[e1,e2];refine⟨by omega,by omega,?_⟩;rw[Z8k,ZCe _ _ _ rfl,Z5I]
 have e3:x<<<k|||x>>>(64-k)=x.rotateLeft k:=by
  rw[JA];rw[J2 hk]
 rw[e3];exact h
structure Z4l (w:X) (b o:Nat):Prop where
 lt:b<w.heap.size
 rc:∀i,i<24->w.cell? ⟨b,o+i,J9⟩=H (uV (ZDM i))
 turn:∀i,i<25->w.cell? ⟨b,o+24+i,J9⟩=H (.int J (turnOf i))
theorem ZU{S:Nat->Prop}{w w':X}(m:Mod S w w'){b i:Nat}(hb:b<w.heap.size)(hs:¬S b):w'.cell? ⟨b,i,J9⟩=w.cell? ⟨b,i,J9⟩ :=
 World.cell?_of_block (m.block b hb hs)
theorem Z4l.mod{S:Nat->Prop}{w w':X}{b o:Nat}(h:Z4l w b o)(m:Mod S w w')(hs:¬S b):Z4l w' b o :=
 ⟨JM h.lt m.size,fun i hi=>(ZU m h.lt hs).trans (h.rc i hi),fun i hi=>(ZU m h.lt hs).trans (h.turn i hi)⟩
theorem ZDj:((JB 5).all fun x=>(JB 5).all fun k=>(JB 25).all fun j =>
 (decide ((j%5+3*(j/5))%5<x)||(decide ((j%5+3*(j/5))%5=x)&&decide (j%5<k+1))) == (decide (j=k%5+5*((2*x+3*k)%5))||(decide ((j%5+3*(j/5))%5<x)||(decide ((j%5+3*(j/5))%5=x)&&decide (j%5<k)))))=true:=by decide +kernel
theorem ZH9(x:Nat)(hx:x<5)(k:Nat)(hk:k<5)(j:Nat)(hj:j<25) :
  (((j%5+3*(j/5))%5<x\/(j%5+3*(j/5))%5=x/\j%5<k+1)↔(j=k%5+5*((2*x+3*k)%5)\/((j%5+3*(j/5))%5<x\/(j%5+3*(j/5))%5=x/\j%5<k))):=by
 have h:=ZDj;simp only[List.all_eq_true,List.mem_range]at h;have h1:=h x hx k hk j hj;simp only[beq_iff_eq]at h1;rw[Bool.eq_iff_iff]at h1;simpa only[Bool.or_eq_true,Bool.and_eq_true,decide_eq_true_eq]using h1
theorem ZFy:∀x:Nat,x<5->∀k:Nat,k<5->(k%5+5*((2*x+3*k)%5))<25/\((k%5+5*((2*x+3*k)%5))%5+3*((k%5+5*((2*x+3*k)%5))/5))%5=x/\(k%5+5*((2*x+3*k)%5))%5=k:=by decide +kernel
theorem ZBY{w:X}(s:St)(b o:Nat)(n:Nat)(hn:n<24)(hp:Z4l w b o) :
  C V Z0F.n #[J1 (lanesA s),E (H ⟨b,o,J9⟩),.int J (n:Int)] w
   (fun e w'=>e=F (J1 (lanesA (rnd n s)))/\Mod NoB w w'):=by
 refine Z0F.vc _ _ _ _ _ ?_;unfold Z0F.Vc;rintro d3 w4⟨rfl,rfl⟩ d5 w6⟨rfl,rfl⟩ d7 w8⟨rfl,rfl⟩;have B3:=((Blk.new w 173 (lanesA s)).alloc (A (Y 25 (.int Z 0)) 173)).alloc (A #[(.int Z 0),(.int Z 0),(.int Z 0),(.int Z 0),(.int Z 0)] 181);have B5:=(Blk.new (w.alloc (A (lanesA s) 173)) 173 (Y 25 (.int Z 0))).alloc (A #[(.int Z 0),(.int Z 0),(.int Z 0),(.int Z 0),(.int Z 0)] 181);have B7:=Blk.new ((w.alloc (A (lanesA s) 173)).alloc (A (Y 25 (.int Z 0)) 173)) 181 #[(.int Z 0),(.int Z 0),(.int Z 0),(.int Z 0),(.int Z 0)];have M:=((Mod.alloc (S:=NoB) w (A (lanesA s) 173)).step_alloc (A (Y 25 (.int Z 0)) 173)).step_alloc (A #[(.int Z 0),(.int Z 0),(.int Z 0),(.int Z 0),(.int Z 0)] 181);simp only[ZC]at B5 B7 ⊢;generalize((w.alloc (A (lanesA s) 173)).alloc (A (Y 25 (.int Z 0)) 173)).alloc (A #[(.int Z 0),(.int Z 0),(.int Z 0),(.int Z 0),(.int Z 0)] 181)=w8 at *
 have hN:=hp.lt;generalize hNe:w.heap.size=N at *
 have e5:#[(.int Z 0),(.int Z 0),(.int Z 0),(.int Z 0),(.int Z 0)]=ZP 5 (fun i=>uV (if i<0 then par s i else 0)):=by rfl
 rw[e5]at B7;clear e5
 refine Z4C 5 (fun x w'=>Vcg.Mod NoB w w'/\Blk w' N 173 (lanesA s)/\Blk w' (N+1) 173 (Y 25 (.int Z 0)) /\
  Blk w' (N+1+1) 181 (ZP 5 (fun i=>uV (if i<x then par s i else 0)))) rfl ⟨M,B3,B5,B7⟩ ?_ ?_
 ·clear M B3 B5 B7
  rintro x _ w1 hx⟨M,B3,B5,B7⟩
  refine Z4C 5 (fun k w'=>Vcg.Mod NoB w w'/\Blk w' N 173 (lanesA s)/\Blk w' (N+1) 173 (Y 25 (.int Z 0)) /\
   Blk w' (N+1+1) 181 (ZP 5 (fun i=>uV (if i<x then par s i else if i=x then ZDK s x k else 0)))) rfl ⟨M,B3,B5,?_⟩ ?_ ?_
  ·have:(fun i=>uV (if i<x then par s i else if i=x then ZDK s x 0 else 0))=(fun i=>uV (if i<x then par s i else 0)):=by
     funext i;simp[ZDK]
   rw[this];exact B7
  ·clear M B3 B5 B7
   rintro k _ w2 hk⟨M,B3,B5,B7⟩;rintro _ rfl;refine⟨by omega,_,B7.drew.rd0 (ZE (by omega)),Z2X x k rfl rfl (by omega) (by omega) ⟨_,rfl,B7.drew.rd0 (ZE (by omega)),by omega,_,B3.drew.rd0 (ZV s (by omega)),by omega,B7.drew.canSet0 (by simp;omega) rfl,fun w3 h3=>?_⟩⟩;rw[h3.at];refine Z7u.next (by rw[Z0 (by omega) (by omega)];omega) hk ⟨(M.step_drew).step_set (fun h=>by simp only[hNe]at h;omega),B3.drew.set_ne (by simp;omega),B5.drew.set_ne (by simp),?_⟩;have:=B7.drew.set x (uV (ZDK s x (k+1)));rw[Z0E]at this;simp only[Z0N,if_true,JU,if_false]
   have e1:ZDK s x (k+1)=ZDK s x k^^^s (x%5+5*(k%5)):=by
    rw[ZDK,J2 hx,J2 hk]
   rw[<-e1];refine(ZF (fun j hj=>?_)) ▸ this
   grind
  ·rintro _ w2⟨M,B3,B5,B7⟩
   refine Z7u.next (by rw[Z0 (by omega) (by omega)];omega) hx ⟨M,B3,B5,?_⟩;refine(ZF (fun j hj=>?_)) ▸ B7;have:par s x=ZDK s x 5:=rfl
   grind
 ·clear M B3 B5 B7
  rintro _ w1⟨M,B3,B5,B7⟩ d22 w23⟨rfl,rfl⟩;have hsz:N+1+1<w1.heap.size:=B7.lt;have B8:=Blk.new w1 173 (Y 25 (.int Z 0))
  replace B3:=B3.alloc (A (Y 25 (.int Z 0)) 173)
  replace B5:=B5.alloc (A (Y 25 (.int Z 0)) 173)
  replace B7:=B7.alloc (A (Y 25 (.int Z 0)) 173)
  replace M:=M.step_alloc (A (Y 25 (.int Z 0)) 173)
  generalize w1.alloc (A (Y 25 (.int Z 0)) 173)=w2 at *
  generalize w1.heap.size=Q at *
  refine Z4C 5 (fun x w'=>Vcg.Mod NoB w w'/\Blk w' N 173 (lanesA s)/\Blk w' (N+1) 173 (Y 25 (.int Z 0)) /\
   Blk w' (N+1+1) 181 (ZP 5 (fun i=>uV (if i<5 then par s i else 0)))/\Blk w' Q 173 (ZP 25 (fun j=>uV (if(j%5+3*(j/5))%5<x then bbK s j else 0)))) rfl
   ⟨M,B3,B5,B7,by rw[Zb]at B8;simp only[JS,if_false];exact B8⟩ ?_ ?_
  ·clear M B3 B5 B7 B8
   rintro x _ w2 hx⟨M,B3,B5,B7,B8⟩;rintro _ rfl
   have c1:U (G J ((G J ((x:Int)+5))-1)) 5=(((x+4)%5:Nat):Int):=by
    simp(disch:=omega) only[Z29,Z0];omega
   have c2:U (G J ((x:Int)+1)) 5=(((x+1)%5:Nat):Int):=by
    simp(disch:=omega) only[Z29,Z0];omega
   rw[c1,c2];clear c1 c2;have l1:(x+4)%5<5:=JW _ (by decide);have l2:(x+1)%5<5:=JW _ (by decide);refine⟨by omega,_,B7.drew.rd0 (ZE l1),by omega,_,B7.drew.rd0 (ZE l2),?_⟩;rw[if_pos l1,if_pos l2];refine Z8f _ 1 rfl rfl (by omega) ⟨_,rfl,by rw[B7.drew.rd0 (ZE l1),if_pos l1],?_⟩;rw[Z0N]
   refine Z4C 5 (fun k w'=>Vcg.Mod NoB w w'/\Blk w' N 173 (lanesA s)/\Blk w' (N+1) 173 (Y 25 (.int Z 0)) /\
    Blk w' (N+1+1) 181 (ZP 5 (fun i=>uV (if i<5 then par s i else 0)))/\Blk w' Q 173 (ZP 25 (fun j=>uV (if(j%5+3*(j/5))%5<x\/(j%5+3*(j/5))%5=x/\j%5<k then bbK s j else 0)))) rfl
    ⟨M.step_drew,B3,B5,B7,by simpa using B8.drew⟩ ?_ ?_
   ·clear M B3 B5 B7 B8
    rintro k _ w3 hk⟨M,B3,B5,B7,B8⟩;rintro _ rfl;have c3:=ZFy x hx k hk;have hp':=hp.mod (M.step_drew) (fun h=>h);refine Z2X k (2*x+3*k) rfl (by simp(disch:=omega) only[Z0];omega) (by omega) (by omega) ⟨_,rfl,?_⟩;refine Z2X x k rfl rfl (by omega) (by omega) ⟨_,rfl,by omega,_,B3.drew.rd0 (ZV s (by omega)),?_⟩;refine Z2X x k rfl rfl (by omega) (by omega) ⟨_,rfl,B3.drew.rd0 (ZV s (by omega)),by omega,_,by rw[Z6,Z6,J4];exact hp'.turn _ (by omega),?_⟩;refine Z8f (s (x%5+5*(k%5))^^^(par s ((x+4)%5)^^^(par s ((x+1)%5)).rotateLeft 1)) (turnOf (x%5+5*(k%5))) (by rw[Z0N]) rfl (ZAd _) ⟨_,rfl,by omega,B8.drew.canSet0 (by simp;omega) rfl,fun w4 h4=>?_⟩;rw[h4.at];refine Z7u.next (by rw[Z0 (by omega) (by omega)];omega) hk ⟨(M.step_drew).step_set (fun h=>by simp only[hNe]at h;omega),B3.drew.set_ne (by simp;omega),B5.drew.set_ne (by simp;omega),B7.drew.set_ne (by simp;omega),?_⟩;have:=B8.drew.set (k%5+5*((2*x+3*k)%5)) (uV ((s (x%5+5*(k%5))^^^(par s ((x+4)%5)^^^(par s ((x+1)%5)).rotateLeft 1)).rotateLeft (turnOf (x%5+5*(k%5)))));rw[Z0E]at this;refine(ZF (fun j hj=>?_)) ▸ this
    have e1:bbK s (k%5+5*((2*x+3*k)%5))=(s (x%5+5*(k%5))^^^(par s ((x+4)%5)^^^(par s ((x+1)%5)).rotateLeft 1)).rotateLeft (turnOf (x%5+5*(k%5))):=by
     rw[bbK,c3.2.1,c3.2.2,bbXY,J2 hx,J2 hk,ddK]
    have c4:=ZH9 x hx k hk j hj;rw[<-e1];by_cases hj':j=k%5+5*((2*x+3*k)%5)
    ·rw[if_pos hj',if_pos (c4.2 (.inl hj')),hj']
    ·rw[if_neg hj']
     congr 2;simp only[c4,hj',false_or]
   ·rintro _ w3⟨M,B3,B5,B7,B8⟩
    refine Z7u.next (by rw[Z0 (by omega) (by omega)];omega) hx ⟨M,B3,B5,B7,?_⟩;refine(ZF (fun j hj=>?_)) ▸ B8;congr 2;have:j%5<5:=by omega
    simp only[this,and_true];have:(j%5+3*(j/5))%5<x+1↔(j%5+3*(j/5))%5<x\/(j%5+3*(j/5))%5=x:=by omega
    simp only[this]
  ·clear M B3 B5 B7 B8
   rintro _ w1⟨M,B3,B5,B7,B8⟩ d52 w53⟨rfl,rfl⟩;have hsz:Q<w1.heap.size:=B8.lt;have hsz5:N+1<w1.heap.size:=B5.lt;have B9:=Blk.new w1 173 (Y 25 (.int Z 0))
   replace B5:=B5.alloc (A (Y 25 (.int Z 0)) 173)
   replace B8:=B8.alloc (A (Y 25 (.int Z 0)) 173)
   replace M:=M.step_alloc (A (Y 25 (.int Z 0)) 173)
   clear B3 B7
   have e8:ZP 25 (fun j=>uV (if(j%5+3*(j/5))%5<5 then bbK s j else 0))=lanesA (bbK s) :=
    ZF (fun j hj=>by rw[if_pos (by omega)])
   rw[e8]at B8;generalize w1.alloc (A (Y 25 (.int Z 0)) 173)=w2 at *
   generalize w1.heap.size=T at *
   refine Z4C 5 (fun x w'=>Vcg.Mod NoB w w'/\Blk w' (N+1) 173 (Y 25 (.int Z 0))/\Blk w' Q 173 (lanesA (bbK s)) /\
    Blk w' T 173 (ZP 25 (fun j=>uV (if j%5<x then Z50 (bbK s) j else 0)))) rfl
    ⟨M,B5,B8,by rw[Zb]at B9;simp only[JS,if_false];exact B9⟩ ?_ ?_
   ·clear M B5 B8 B9
    rintro x _ w2 hx⟨M,B5,B8,B9⟩
    refine Z4C 5 (fun k w'=>Vcg.Mod NoB w w'/\Blk w' (N+1) 173 (Y 25 (.int Z 0))/\Blk w' Q 173 (lanesA (bbK s)) /\
     Blk w' T 173 (ZP 25 (fun j=>uV (if j%5<x\/j%5=x/\j/5<k then Z50 (bbK s) j else 0)))) rfl
     ⟨M,B5,B8,by simpa using B9⟩ ?_ ?_
    ·clear M B5 B8 B9
     rintro k _ w3 hk⟨M,B5,B8,B9⟩;rintro _ rfl;refine Z2X x k rfl rfl (by omega) (by omega) ⟨_,rfl,?_⟩;refine Z2X x k rfl rfl (by omega) (by omega) ⟨_,rfl,by omega,_,B8.drew.rd0 (ZV _ (by omega)),?_⟩;refine Z2X (x+1) k (by rw[Z0 (by omega) (by omega)];omega) rfl (by omega) (by omega) ⟨_,rfl,B8.drew.rd0 (ZV _ (by omega)),by omega,_,B8.drew.rd0 (ZV _ (by omega)),?_⟩;refine Z2X (x+2) k (by rw[Z0 (by omega) (by omega)];omega) rfl (by omega) (by omega) ⟨_,rfl,B8.drew.rd0 (ZV _ (by omega)),B8.drew.rd0 (ZV _ (by omega)),by omega,_,B8.drew.rd0 (ZV _ (by omega)),by omega,B9.drew.canSet0 (by simp;omega) rfl,fun w4 h4=>?_⟩;rw[h4.at];refine Z7u.next (by rw[Z0 (by omega) (by omega)];omega) hk ⟨(M.step_drew).step_set (fun h=>by simp only[hNe]at h;omega),B5.drew.set_ne (by simp;omega),B8.drew.set_ne (by simp;omega),?_⟩;rw[Z9m,Z9l,Z0N];have:=B9.drew.set (x%5+5*(k%5)) (uV (bbK s (x%5+5*(k%5))^^^(~~~ bbK s ((x+1)%5+5*(k%5))&&&bbK s ((x+2)%5+5*(k%5)))));rw[Z0E]at this;refine(ZF (fun j hj=>?_)) ▸ this
     have e1:Z50 (bbK s) (x%5+5*(k%5))=bbK s (x%5+5*(k%5))^^^(~~~ bbK s ((x+1)%5+5*(k%5))&&&bbK s ((x+2)%5+5*(k%5))):=by
      rw[Z50,show(x%5+5*(k%5))%5=x by omega,show(x%5+5*(k%5))/5=k by omega,show k%5=k by omega]
     rw[<-e1];by_cases hj':j=x%5+5*(k%5)
     ·rw[if_pos hj',if_pos (by omega),hj']
     ·rw[if_neg hj']
      congr 2;have:(j%5<x\/j%5=x/\j/5<k+1)↔(j%5<x\/j%5=x/\j/5<k):=by omega
      simp only[this]
    ·rintro _ w3⟨M,B5,B8,B9⟩
     refine Z7u.next (by rw[Z0 (by omega) (by omega)];omega) hx ⟨M,B5,B8,?_⟩;refine(ZF (fun j hj=>?_)) ▸ B9;congr 2;have:j%5<x+1↔j%5<x\/j%5=x/\j/5<5:=by omega
     simp only[this]
   ·clear M B5 B8 B9
    rintro _ w3⟨M,B5,B8,B9⟩ _ rfl;have hp':=hp.mod (M.step_drew) (fun h=>h);refine⟨_,B9.drew.rd1 (ZE (by omega)),by omega,_,by rw[Z6,J4];exact hp'.rc _ hn,B9.drew.canSet (by simp) rfl,?_⟩;rintro w4 rfl;have B9':=B9.drew.set 0 (uV (rnd n s 0));rw[Z0E]at B9';rw[if_pos (by omega),Z0N]
    have e9:(ZP 25 fun j=>if j=0 then uV (rnd n s 0)else uV (if j%5<5 then Z50 (bbK s) j else 0))=lanesA (rnd n s) :=
     ZF (fun j hj=>by
      by_cases h0:j=0
      ·rw[if_pos h0,h0]
      ·rw[if_neg h0,if_pos (by omega),rnd,if_neg h0])
    rw[e9]at B9';have B5':Blk (w3.drew.setCell ⟨T,0,J9⟩ (uV (rnd n s 0))) (N+1) 173 (Y 25 (.int Z 0)):=B5.drew.set_ne (by simp;omega);have M':Vcg.Mod NoB w (w3.drew.setCell ⟨T,0,J9⟩ (uV (rnd n s 0))):=(M.step_drew).step_set (fun h=>by simp only[hNe]at h;omega);have e10:Z50 (bbK s) 0^^^ZDM n=rnd n s 0:=by simp[rnd]
    rw[e10];refine⟨_,B9'.rowAll (ZJ _),_,B5'.storeAll (L:=lanesA (rnd n s)) (by rw[ZJ];kernel_rfl) (by rw[ZJ,J6]) (Z1N _),_,(B5'.row_same _).rowAll (ZJ _),rfl,M'.step_row (fun h=>by omega)⟩
def rcA:Array Value:=ZP 24 (fun i=>uV (ZDM i))
def turnA:Array Value:=ZP 25 (fun i=>.int J (turnOf i:Int))
theorem Z5j:rcA.size=24:=Zt _ _
theorem Z3X:turnA.size=25:=Zt _ _
theorem ZBj(w:X):C V Z1G.n #[] w (fun e w'=>e=F (J1 turnA)/\Vcg.Mod NoB w w'):=by
 refine Z1G.vc _ _ ?_;unfold Z1G.Vc;rintro d0 w1⟨rfl,rfl⟩ d2 w3⟨rfl,rfl⟩;have B0:=(Blk.new w 169 (Y 25 (.int J 0))).alloc (A (Y 25 (.int J 0)) 169);have B2:=Blk.new (w.alloc (A (Y 25 (.int J 0)) 169)) 169 (Y 25 (.int J 0));have M:=(Mod.alloc (S:=NoB) w (A (Y 25 (.int J 0)) 169)).step_alloc (A (Y 25 (.int J 0)) 169);simp only[ZC]at B2 ⊢;generalize(w.alloc (A (Y 25 (.int J 0)) 169)).alloc (A (Y 25 (.int J 0)) 169)=w3 at *
 generalize hNe:w.heap.size=N at *
 refine⟨fun n5 n6 n7 w'=>∃t:Nat,n7=t/\t<=24/\n5=((Z7t t).1:Nat)/\n6=((Z7t t).2:Nat)/\Vcg.Mod NoB w w'/\Blk w' N 169 (Y 25 (.int J 0)) /\
  Blk w' (N+1) 169 (ZP 25 (fun i=>.int J (tarr t i:Int))),fun _ _ n _=>(24-n).toNat,⟨0,rfl,by omega,rfl,rfl,M,B0,by rw[Zb]at B2;exact B2⟩,?_⟩
 clear M B0 B2;rintro _ _ _ _ w4⟨t,rfl,ht,rfl,rfl,M,B0,B2⟩;refine⟨fun hlt=>?_,fun hge=>?_⟩
 ·have hxy:=ZHd t (by omega)
  refine Z2X (Z7t t).1 (Z7t t).2 rfl rfl (by omega) (by omega) ⟨_,rfl,by omega,B2.canSet0 (by simp;omega) rfl,fun w5 h5=>?_⟩;rw[h5.at];refine⟨⟨t+1,by rw[Z0 (by omega) (by omega)];omega,by omega,rfl,?_,M.step_set (fun h=>by simp only[hNe]at h;omega),B0.set_ne (by simp),?_⟩,?_⟩
  ·simp only[Z7t]
   simp(disch:=omega) only[Z29,Z0];omega
  ·have:=B2.set ((Z7t t).1%5+5*((Z7t t).2%5)) (.int J ((((t+1)*(t+2)/2%64:Nat)):Int))
   rw[Z0E]at this;rw[ZCi t (by omega)];refine(ZF (fun j hj=>?_)) ▸ this;rw[tarr,J2 hxy.1,J2 hxy.2];dsimp only;split<;>rfl
  ·dsimp only
   rw[Z0 (n:=(t:Int)+1) (by omega) (by omega)];omega
 ·obtain rfl:t=24:=by omega
  have e:(ZP 25 fun i=>Value.int J (tarr 24 i:Int))=turnA:=ZF (fun j hj=>by rw[ZCh j hj]);rw[e]at B2
  exact⟨_,B2.rowAll Z3X,_,B0.storeAll (L:=turnA) (by rw[Z3X];kernel_rfl) (by rw[Z3X,J6]) (Z2n (fun _=>rfl)),_,
   (B0.row_same _).rowAll Z3X,rfl,M.step_row (fun h=>by omega)⟩
theorem Z7B(w:X):C V Z0K.n #[] w (fun e w'=>e=F (J1 rcA)/\Vcg.Mod NoB w w'):=by
 refine Z0K.vc _ _ ?_;unfold Z0K.Vc;rintro d0 w1⟨rfl,rfl⟩ d2 w3⟨rfl,rfl⟩;have B0:=(Blk.new w 168 (Y 24 (.int Z 0))).alloc (A (Y 24 (.int Z 0)) 168);have B2:=Blk.new (w.alloc (A (Y 24 (.int Z 0)) 168)) 168 (Y 24 (.int Z 0));have M:=(Mod.alloc (S:=NoB) w (A (Y 24 (.int Z 0)) 168)).step_alloc (A (Y 24 (.int Z 0)) 168);simp only[ZC]at B2 ⊢;generalize(w.alloc (A (Y 24 (.int Z 0)) 168)).alloc (A (Y 24 (.int Z 0)) 168)=w3 at *
 generalize hNe:w.heap.size=N at *
 refine⟨fun n5 n6 w'=>∃i:Nat,n6=i/\i<=24/\n5=(regOf (7*i):Nat)/\Vcg.Mod NoB w w'/\Blk w' N 168 (Y 24 (.int Z 0)) /\
  Blk w' (N+1) 168 (ZP 24 (fun j=>uV (if j<i then ZDM j else 0))),fun _ n _=>(24-n).toNat,⟨0,rfl,by omega,rfl,M,B0,by rw[Zb]at B2;exact B2⟩,?_⟩
 clear M B0 B2;rintro _ _ _ w4⟨i,rfl,hi,rfl,M,B0,B2⟩;refine⟨fun hlt=>?_,fun hge=>?_⟩
 ·refine⟨fun n9 n10 w'=>∃j:Nat,n10=j/\j<=7/\n9=(regOf (7*i+j):Nat)/\Vcg.Mod NoB w w'/\Blk w' N 168 (Y 24 (.int Z 0)) /\
    Blk w' (N+1) 168 (ZP 24 (fun k=>uV (if k<i then ZDM k else if k=i then Z5d i j else 0))),fun _ n _=>(7-n).toNat,⟨0,rfl,by omega,rfl,M,B0,?_⟩,?_⟩
  ·refine(ZF (fun k hk=>?_)) ▸ B2
   simp[Z5d]
  clear M B0 B2;rintro _ _ _ w5⟨j,rfl,hj,rfl,M,B0,B2⟩;refine⟨fun hlt'=>?_,fun hge'=>?_⟩
  ·rintro _ rfl
   have hr:=ZGD (7*i+j) (by omega);rw[ZGC j (by omega),ZGb _ (by omega)];refine⟨by omega,_,B2.drew.rd0 (ZE (by omega)),by omega,by omega,by omega,B2.drew.canSet0 (by simp;omega) rfl,fun w6 h6=>?_⟩;rw[h6.at]
   have e0:G Z ((regOf (7*i+j)%2:Nat):Int)=uI (if regOf (7*i+j)%2=1 then(1:BitVec 64)else 0):=by
    rw[Z4e];by_cases h1:regOf (7*i+j)%2=1
    ·rw[if_pos h1,h1];decide
    ·rw[if_neg h1,show regOf (7*i+j)%2=0 by omega];decide
   rw[e0,Z8k];simp only[if_true,JU,if_false];rw[Z5I];have B0':Blk (w5.drew.setCell ⟨N+1,i,J9⟩ (uV (Z5d i (j+1)))) N 168 (Y 24 (.int Z 0)):=B0.drew.set_ne (by simp);have M':Vcg.Mod NoB w (w5.drew.setCell ⟨N+1,i,J9⟩ (uV (Z5d i (j+1)))):=(M.step_drew).step_set (fun h=>by simp only[hNe]at h;omega);have B2':=B2.drew.set i (uV (Z5d i (j+1)));rw[Z0E]at B2'
   have B2'':Blk (w5.drew.setCell ⟨N+1,i,J9⟩ (uV (Z5d i (j+1)))) (N+1) 168 (ZP 24 (fun k=>uV (if k<i then ZDM k else if k=i then Z5d i (j+1)else 0))):=by
    refine(ZF (fun k hk=>?_)) ▸ B2'
    grind
   have ew:G J ((regOf (7*i+j):Int)*2)=((regOf (7*i+j)*2:Nat):Int):=by rw[Z0 (by omega) (by omega)];omega
   rw[ew];have em:(7-G J ((j:Int)+1)).toNat<(7-(j:Int)).toNat:=by rw[Z0 (by omega) (by omega)];omega
   refine⟨fun h=>⟨⟨j+1,by rw[Z0 (by omega) (by omega)];omega,by omega,?_,M',B0',B2''⟩,em⟩,fun h=>⟨⟨j+1,by rw[Z0 (by omega) (by omega)];omega,by omega,?_,M',B0',B2''⟩,em⟩⟩
   ·rw[Z0 (by omega) (by omega)]
    have:=ZCY (7*i+j) (by omega) (by omega);refine Eq.trans ?_ this;congr 1;omega
   ·rw[<-ZAW _ (by omega)];rfl
  ·obtain rfl:j=7:=by omega
   refine⟨⟨i+1,by rw[Z0 (by omega) (by omega)];omega,by omega,rfl,M,B0,?_⟩,by rw[Z0 (by omega) (by omega)];dsimp only;omega⟩;refine(ZF (fun k hk=>?_)) ▸ B2;have:=ZDD i (by omega)
   grind
 ·obtain rfl:i=24:=by omega
  have e:(ZP 24 fun j=>uV (if j<24 then ZDM j else 0))=rcA:=ZF (fun j hj=>by rw[if_pos hj]);rw[e]at B2
  exact⟨_,B2.rowAll Z5j,_,B0.storeAll (L:=rcA) (by rw[Z5j];kernel_rfl) (by rw[Z5j,J6]) (Z2n (fun _=>rfl)),_,
   (B0.row_same _).rowAll Z5j,rfl,M.step_row (fun h=>by omega)⟩
def Z9E:Array Value:=ZP 49 (fun i=>if i<24 then uV (ZDM i)else .int J (turnOf (i-24):Int))
theorem Z4c:Z9E.size=49:=Zt _ _
theorem ZES:∀v∈Z9E.toList,v.oneCell'=true:=Z2n (fun i=>by split<;>rfl)
theorem Z4l.of_blk{w:X}{b o:Nat}{t:JH}{cs:Array Value}(h:Blk w b t cs)(hc:∀i,i<49->cs[o+i]?=Z9E[i]?):Z4l w b o:=by
 refine⟨h.lt,fun i hi=>?_,fun i hi=>?_⟩
 ·rw[h.cell,hc i (by omega),Z9E,ZE (by omega),if_pos hi]
 ·rw[h.cell,Nat.add_assoc,hc (24+i) (by omega),Z9E,ZE (by omega),if_neg (by omega),Nat.add_sub_cancel_left]
theorem Z9F(w:X):C V Z0o.n #[] w (fun e w'=>e=F (J1 Z9E)/\Vcg.Mod NoB w w'):=by
 refine Z0o.vc _ _ ?_;unfold Z0o.Vc;rintro d0 w1⟨rfl,rfl⟩;refine(Z7B _).mono ?_;rintro _ w2⟨rfl,M2⟩;refine⟨_,rfl,(ZBj _).mono ?_⟩;rintro _ w3⟨rfl,M3⟩;refine⟨_,rfl,Z5j,Z3X,?_⟩;have M:=((Mod.alloc (S:=NoB) w _).none_trans M2).none_trans M3;have B:=((Blk.new w _ _).mod' M2).mod' M3;rw[show lputL (lputL _ 0 24 rcA) 24 25 turnA=Z9E from by kernel_rfl];exact⟨_,B.storeAll (L:=Z9E) (by rw[Z4c];kernel_rfl) (by rw[Z4c];rfl) ZES,_,(B.row_same _).rowAll Z4c,rfl,M.step_row (fun h=>by omega)⟩
theorem Z86{w:X}(s:St)(b o:Nat)(hp:Z4l w b o) :
  C V Zr.n #[J1 (lanesA s),E (H ⟨b,o,J9⟩)] w
   (fun e w'=>e=F (J1 (lanesA (Z65 s)))/\Vcg.Mod NoB w w'):=by
 refine Zr.vc _ _ _ _ ?_;unfold Zr.Vc;rintro d2 w3⟨rfl,rfl⟩ d4 w5⟨rfl,rfl⟩;have B2:=(Blk.new w 173 (lanesA s)).alloc (A (Y 25 (.int Z 0)) 173);have B4:=Blk.new (w.alloc (A (lanesA s) 173)) 173 (Y 25 (.int Z 0));have M:=(Mod.alloc (S:=NoB) w (A (lanesA s) 173)).step_alloc (A (Y 25 (.int Z 0)) 173);simp only[ZC]at B4 ⊢;generalize(w.alloc (A (lanesA s) 173)).alloc (A (Y 25 (.int Z 0)) 173)=w5 at *
 generalize hNe:w.heap.size=N at *
 refine Z4C 24 (fun n w'=>Vcg.Mod NoB w w'/\Blk w' N 173 (lanesA (ZEf n s))/\Blk w' (N+1) 173 (Y 25 (.int Z 0))) rfl ⟨M,B2,B4⟩ ?_ ?_
 ·clear M B2 B4
  rintro n _ w6 hn⟨M,B2,B4⟩;refine⟨_,B2.rowAll (ZJ _),(ZBY (ZEf n s) b o n hn (hp.mod M (fun h=>h))).mono ?_⟩;rintro _ w7⟨rfl,M7⟩;refine⟨_,rfl,_,(B2.mod' M7).storeAll (L:=lanesA (ZEf (n+1) s)) (by rw[ZJ];kernel_rfl) (by rw[ZJ,ZJ]) (Z1N _),?_⟩;exact Z7u.next (by rw[Z0 (by omega) (by omega)];omega) hn ⟨(M.none_trans M7).step_row (fun h=>by omega),(B2.mod' M7).row_same _,(B4.mod' M7).row_ne (by omega)⟩
 ·clear M B2 B4
  rintro _ w6⟨M,B2,B4⟩
  exact⟨_,B2.rowAll (ZJ _),_,B4.storeAll (L:=lanesA (Z65 s)) (by rw[ZJ];kernel_rfl) (by rw[ZJ,J6]) (Z1N _),_,
   (B4.row_same _).rowAll (ZJ _),rfl,M.step_row (fun h=>by omega)⟩
theorem Z8V{R:J5->X->Prop}{w:X}{n0 n1:Int}(x:BitVec 64)(k:Nat)(h0:n0=uI x)(h1:n1=(k:Int))(hk:k<64)
  (h:∀w',Vcg.Mod NoB w w'->w'.heap=w.heap->R (F (uV (x.rotateLeft k))) w'):C V Z0h.n #[.int Z n0,.int J n1] w R:=by
 subst h0 h1;refine Z0h.vc _ _ _ _ ?_;unfold Z0h.Vc;refine⟨fun hz=>?_,fun hz=>?_⟩
 ·have:x.rotateLeft k=x:=by
    obtain rfl:k=0:=by omega
    rw[JA];apply JK;simp[JF,JG x.isLt]
  rw[this]at h;exact h w (Mod.refl w) rfl
 ·rintro _ rfl
  have e2:G J (64-(k:Int))=((64-k:Nat):Int):=by
   rw[Z0 (by omega) (by omega)];omega
  rw[e2];refine⟨by omega,by omega,?_⟩;rw[Z8k,ZCe _ _ _ rfl,Z5I]
  have e3:x<<<k|||x>>>(64-k)=x.rotateLeft k:=by
   rw[JA,J2 hk]
  rw[e3];exact h _ (Mod.drew w) rfl
end Go.Proofs.YtfghidehlnfdiaaGreat
end
