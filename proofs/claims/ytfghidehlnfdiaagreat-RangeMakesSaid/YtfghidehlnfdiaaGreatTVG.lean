/- The verification conditions of some functions, printed by a program of ours (wip/PrintVc.lean). -/
/- Contracts: the head of an item (rlp.reads). -/
/- Contracts: rlp's decoder. -/
/- Contracts: rlp.First, rlp.Decode. -/
/- The verification conditions of some functions, printed by a program of ours (wip/PrintVc.lean). -/
import Derived.Test.YtfghidehlnfdiaaGreatTL9
import Derived.Test.YtfghidehlnfdiaaGreatProg
import Derived.KernelRfl
import Derived.Test.YtfghidehlnfdiaaGreatTP9
set_option linter.unusedVariables false
set_option linter.unusedSimpArgs false
open BitVec renaming ofNat->JK,toNat_ofNat->JE
open Bool renaming false->O,true->JA
open Except renaming error->JG
open Go renaming Calls->J0,Ending->JD,World->T
open Go.Addr renaming add->P
open Go.Ending renaming returned->Z
open Go.IntKind renaming i64->J,u64->JJ,wrap->G
open Go.Obj renaming cells->L
open Go.Proofs.Tryz renaming prog->Q
open Go.Value renaming pointer->C,tuple->U
open Go.World renaming cell?->J2
open Int renaming toNat->J3,toNat_natCast->J8
open List renaming eq_nil_of_length_eq_zero->JB,getD_eq_getElem?_getD->JF,getElem?_append_left->J6,getElem?_append_right->J4,length_append->J7,length_drop->J1,length_singleton->J9,length_take->JH
open Nat renaming le_refl->JC,mod_eq_of_lt->JI,sub_self->JL,zero_add->J5
open Option renaming none->I,some->V
section
namespace Go.Proofs.YtfghidehlnfdiaaGreat
open Go Go.Vcg
abbrev Z2e.n:Nat:=102
def Z2e.Vc(a:Option Addr)(b c:Nat)(w:T)(R:JD->T->Prop):Prop :=
 ∀d e,ZB w 111 #[.bool O,.slice I 0 0,.slice I 0 0] d e ->
 J0 Q 122 #[.slice a b c] e (fun a c =>
 ∃e f g h i j k l m,a=Z (U #[.agg #[.bool e,.slice f g h,.slice i j k],.int J l,.int J m]) /\
 ∀a n,ZB c 111 #[.bool O,.slice I 0 0,.slice I 0 0] a n ->
 Z1 n a (.bool e)/\∀c,Z8 n a (.bool e) c ->
 Z1 c (a.add 1) (.slice f g h)/\∀e,Z8 c (a.add 1) (.slice f g h) e ->
 Z1 e (a.add 2) (.slice i j k)/\∀c,Z8 e (a.add 2) (.slice i j k) c ->
 ((m≠0 ->
 Z1 c d (.bool O)/\∀e,Z8 c d (.bool O) e ->
 Z1 e (d.add 1) (.slice I 0 0)/\∀f,Z8 e (d.add 1) (.slice I 0 0) f ->
 Z1 f (d.add 2) (.slice I 0 0)/\∀e,Z8 f (d.add 2) (.slice I 0 0) e ->
 ∃f g h i j k n,e.cell? d=V (.bool f) /\
 e.cell? (d.add 1)=V (.slice g h i) /\
 e.cell? (d.add 2)=V (.slice j k n) /\
 R (Z (U #[.agg #[.bool f,.slice g h i,.slice j k n],.int J m])) e) /\
 (m=0 ->
 ((l<(b:Int) ->
 Z1 c d (.bool O)/\∀e,Z8 c d (.bool O) e ->
 Z1 e (d.add 1) (.slice I 0 0)/\∀f,Z8 e (d.add 1) (.slice I 0 0) f ->
 Z1 f (d.add 2) (.slice I 0 0)/\∀e,Z8 f (d.add 2) (.slice I 0 0) e ->
 ∃f g h i j k m,e.cell? d=V (.bool f) /\
 e.cell? (d.add 1)=V (.slice g h i) /\
 e.cell? (d.add 2)=V (.slice j k m) /\
 R (Z (U #[.agg #[.bool f,.slice g h i,.slice j k m],.int J 42])) e) /\
 (¬l<(b:Int) ->
 ∃b e f g h i j,c.cell? a=V (.bool b) /\
 c.cell? (a.add 1)=V (.slice e f g) /\
 c.cell? (a.add 2)=V (.slice h i j) /\
 Z1 c d (.bool b)/\∀a,Z8 c d (.bool b) a ->
 Z1 a (d.add 1) (.slice e f g)/\∀b,Z8 a (d.add 1) (.slice e f g) b ->
 Z1 b (d.add 2) (.slice h i j)/\∀a,Z8 b (d.add 2) (.slice h i j) a ->
 ∃b c e f g h i,a.cell? d=V (.bool b) /\
 a.cell? (d.add 1)=V (.slice c e f) /\
 a.cell? (d.add 2)=V (.slice g h i) /\
 R (Z (U #[.agg #[.bool b,.slice c e f,.slice g h i],.int J 0])) a)))))
theorem Z2e.vc(a b c w R)(h:Z2e.Vc a b c w R):J0 Q 102 #[(.slice a b c)] w R:=xs [] [.slice a b c] Tryz.func102 ZO (by kernel_rfl) h
abbrev Z3T.n:Nat:=122
def Z3T.Vc(a:Option Addr)(b c:Nat)(w:T)(R:JD->T->Prop):Prop :=
 ∀d e,ZB w 111 #[.bool O,.slice I 0 0,.slice I 0 0] d e ->
 (((b:Int)>65536 ->
 Z1 e d (.bool O)/\∀f,Z8 e d (.bool O) f ->
 Z1 f (d.add 1) (.slice I 0 0)/\∀g,Z8 f (d.add 1) (.slice I 0 0) g ->
 Z1 g (d.add 2) (.slice I 0 0)/\∀f,Z8 g (d.add 2) (.slice I 0 0) f ->
 ∃g h i j k l m,f.cell? d=V (.bool g) /\
 f.cell? (d.add 1)=V (.slice h i j) /\
 f.cell? (d.add 2)=V (.slice k l m) /\
 R (Z (U #[.agg #[.bool g,.slice h i j,.slice k l m],.int J 0,.int J 44])) f) /\
 (¬(b:Int)>65536 ->
 ∀f g,ZB e 217 #[.int J 0] f g ->
 J0 Q 136 #[C (V f),.slice a b c,.int J 1] g (fun a b =>
 ∃c e f g h i j k l,a=Z (U #[.agg #[.bool c,.slice e f g,.slice h i j],.int J k,.int J l]) /\
 Z1 b d (.bool c)/\∀a,Z8 b d (.bool c) a ->
 Z1 a (d.add 1) (.slice e f g)/\∀b,Z8 a (d.add 1) (.slice e f g) b ->
 Z1 b (d.add 2) (.slice h i j)/\∀a,Z8 b (d.add 2) (.slice h i j) a ->
 ∃b c e f g h i,a.cell? d=V (.bool b) /\
 a.cell? (d.add 1)=V (.slice c e f) /\
 a.cell? (d.add 2)=V (.slice g h i) /\
 R (Z (U #[.agg #[.bool b,.slice c e f,.slice g h i],.int J k,.int J l])) a)))
theorem Z3T.vc(a b c w R)(h:Z3T.Vc a b c w R):J0 Q 122 #[(.slice a b c)] w R:=xs [] [.slice a b c] Tryz.func122 ZO (by kernel_rfl) h
abbrev Z0k.n:Nat:=136
def Z0k.Vc(a:Addr)(b:Option Addr)(c d:Nat)(e:Int)(w:T)(R:JD->T->Prop):Prop :=
 ∀f g,ZB w 111 #[.bool O,.slice I 0 0,.slice I 0 0] f g ->
 (((c:Int)=0 ->
 Z1 g f (.bool O)/\∀h,Z8 g f (.bool O) h ->
 Z1 h (f.add 1) (.slice I 0 0)/\∀i,Z8 h (f.add 1) (.slice I 0 0) i ->
 Z1 i (f.add 2) (.slice I 0 0)/\∀h,Z8 i (f.add 2) (.slice I 0 0) h ->
 ∃i j k l m n o,h.cell? f=V (.bool i) /\
 h.cell? (f.add 1)=V (.slice j k l) /\
 h.cell? (f.add 2)=V (.slice m n o) /\
 R (Z (U #[.agg #[.bool i,.slice j k l,.slice m n o],.int J 0,.int J 41])) h) /\
 ((c:Int)≠0 ->
 J0 Q 148 #[C (V a),.int J e] g (fun g h =>
 ∃i,g=Z (.int J i) /\
 ((i≠0 ->
 Z1 h f (.bool O)/\∀g,Z8 h f (.bool O) g ->
 Z1 g (f.add 1) (.slice I 0 0)/\∀j,Z8 g (f.add 1) (.slice I 0 0) j ->
 Z1 j (f.add 2) (.slice I 0 0)/\∀g,Z8 j (f.add 2) (.slice I 0 0) g ->
 ∃j k l m n o p,g.cell? f=V (.bool j) /\
 g.cell? (f.add 1)=V (.slice k l m) /\
 g.cell? (f.add 2)=V (.slice n o p) /\
 R (Z (U #[.agg #[.bool j,.slice k l m,.slice n o p],.int J 0,.int J i])) g) /\
 (i=0 ->
 J0 Q 149 #[.slice b c d] h (fun g h =>
 ∃i j k l m n,g=Z (U #[.agg #[.bool i,.int J j,.int J k,.bool l,.bool m],.int J n]) /\
 ∀g o,ZB h 237 #[.bool O,.int J 0,.int J 0,.bool O,.bool O] g o ->
 Z1 o g (.bool i)/\∀h,Z8 o g (.bool i) h ->
 Z1 h (g.add 1) (.int J j)/\∀i,Z8 h (g.add 1) (.int J j) i ->
 Z1 i (g.add 2) (.int J k)/\∀h,Z8 i (g.add 2) (.int J k) h ->
 Z1 h (g.add 3) (.bool l)/\∀i,Z8 h (g.add 3) (.bool l) i ->
 Z1 i (g.add 4) (.bool m)/\∀h,Z8 i (g.add 4) (.bool m) h ->
 ((n≠0 ->
 Z1 h f (.bool O)/\∀i,Z8 h f (.bool O) i ->
 Z1 i (f.add 1) (.slice I 0 0)/\∀j,Z8 i (f.add 1) (.slice I 0 0) j ->
 Z1 j (f.add 2) (.slice I 0 0)/\∀i,Z8 j (f.add 2) (.slice I 0 0) i ->
 ∃j k l m o p q,i.cell? f=V (.bool j) /\
 i.cell? (f.add 1)=V (.slice k l m) /\
 i.cell? (f.add 2)=V (.slice o p q) /\
 R (Z (U #[.agg #[.bool j,.slice k l m,.slice o p q],.int J 0,.int J n])) i) /\
 (n=0 ->
 ∃i,h.cell? (g.add 2)=V (.int J i) /\
 ∃j,h.cell? (g.add 1)=V (.int J j) /\
 ((i>(G J ((c:Int)-j)) ->
 Z1 h f (.bool O)/\∀k,Z8 h f (.bool O) k ->
 Z1 k (f.add 1) (.slice I 0 0)/\∀l,Z8 k (f.add 1) (.slice I 0 0) l ->
 Z1 l (f.add 2) (.slice I 0 0)/\∀k,Z8 l (f.add 2) (.slice I 0 0) k ->
 ∃l m n o p q r,k.cell? f=V (.bool l) /\
 k.cell? (f.add 1)=V (.slice m n o) /\
 k.cell? (f.add 2)=V (.slice p q r) /\
 R (Z (U #[.agg #[.bool l,.slice m n o,.slice p q r],.int J 0,.int J 41])) k) /\
 (¬i>(G J ((c:Int)-j)) ->
 ∃c,h.cell? (g.add 1)=V (.int J c) /\
 ∃i,h.cell? (g.add 1)=V (.int J i) /\
 ∃j,h.cell? (g.add 2)=V (.int J j) /\
 ((0:Int)<=(G J (i+j))/\(G J (i+j))<=(d:Int)) /\
 ((0:Int)<=c/\c<=(((J3 (G J (i+j))):Nat):Int)) /\
 ∃k,h.cell? (g.add 1)=V (.int J k) /\
 ∃l,h.cell? (g.add 2)=V (.int J l) /\
 ∃m,h.cell? g=V (.bool m) /\
 ((m=O ->
 ∃n,h.cell? (g.add 3)=V (.bool n) /\
 ((n=O ->
 J0 Q 150 #[.slice (subO b d c.toNat 1) ((J3 (G J (i+j)))-c.toNat) (d-c.toNat)] h (fun g o =>
 ∃p,g=Z (.bool p) /\
 ((p=JA ->
 Z1 o f (.bool O)/\∀g,Z8 o f (.bool O) g ->
 Z1 g (f.add 1) (.slice I 0 0)/\∀q,Z8 g (f.add 1) (.slice I 0 0) q ->
 Z1 q (f.add 2) (.slice I 0 0)/\∀g,Z8 q (f.add 2) (.slice I 0 0) g ->
 ∃q r s t u v x,g.cell? f=V (.bool q) /\
 g.cell? (f.add 1)=V (.slice r s t) /\
 g.cell? (f.add 2)=V (.slice u v x) /\
 R (Z (U #[.agg #[.bool q,.slice r s t,.slice u v x],.int J 0,.int J 40])) g) /\
 (p=O ->
 J0 Q 36 #[.slice (subO b d c.toNat 1) ((J3 (G J (i+j)))-c.toNat) (d-c.toNat)] o (fun g o =>
 ∃p q r,g=Z (.slice p q r) /\
 Z1 o f (.bool O)/\∀g,Z8 o f (.bool O) g ->
 Z1 g (f.add 1) (.slice p q r)/\∀o,Z8 g (f.add 1) (.slice p q r) o ->
 Z1 o (f.add 2) (.slice I 0 0)/\∀g,Z8 o (f.add 2) (.slice I 0 0) g ->
 ∃o p q r s t u,g.cell? f=V (.bool o) /\
 g.cell? (f.add 1)=V (.slice p q r) /\
 g.cell? (f.add 2)=V (.slice s t u) /\
 R (Z (U #[.agg #[.bool o,.slice p q r,.slice s t u],.int J (G J (k+l)),.int J 0])) g))))) /\
 (n=JA ->
 J0 Q 36 #[.slice (subO b d c.toNat 1) ((J3 (G J (i+j)))-c.toNat) (d-c.toNat)] h (fun g n =>
 ∃o p q,g=Z (.slice o p q) /\
 Z1 n f (.bool O)/\∀g,Z8 n f (.bool O) g ->
 Z1 g (f.add 1) (.slice o p q)/\∀n,Z8 g (f.add 1) (.slice o p q) n ->
 Z1 n (f.add 2) (.slice I 0 0)/\∀g,Z8 n (f.add 2) (.slice I 0 0) g ->
 ∃n o p q r s t,g.cell? f=V (.bool n) /\
 g.cell? (f.add 1)=V (.slice o p q) /\
 g.cell? (f.add 2)=V (.slice r s t) /\
 R (Z (U #[.agg #[.bool n,.slice o p q,.slice r s t],.int J (G J (k+l)),.int J 0])) g)))) /\
 (m=JA ->
 ∀g m,ZB h 111 #[.bool O,.slice I 0 0,.slice I 0 0] g m ->
 Z1 m g (.bool JA)/\∀h,Z8 m g (.bool JA) h ->
 Z1 h (g.add 1) (.slice I 0 0)/\∀m,Z8 h (g.add 1) (.slice I 0 0) m ->
 Z1 m (g.add 2) (.slice I 0 0)/\∀h,Z8 m (g.add 2) (.slice I 0 0) h ->
 ∃(m:Option Addr->Nat->Nat->T->Prop)(n:Option Addr->Nat->Nat->T->Nat),m (subO b d c.toNat 1) ((J3 (G J (i+j)))-c.toNat) (d-c.toNat) h /\
 (∀(b:Option Addr)(c:Nat)(d:Nat)(h:Nat->Value)(h:T),m b c d h ->
 (((c:Int)>0 ->
 J0 Q 136 #[C (V a),.slice b c d,.int J (G J (e+1))] h (fun a e =>
 ∃i j o p q r s t u,a=Z (U #[.agg #[.bool i,.slice j o p,.slice q r s],.int J t,.int J u]) /\
 ∀a v,ZB e 111 #[.bool O,.slice I 0 0,.slice I 0 0] a v ->
 Z1 v a (.bool i)/\∀e,Z8 v a (.bool i) e ->
 Z1 e (a.add 1) (.slice j o p)/\∀i,Z8 e (a.add 1) (.slice j o p) i ->
 Z1 i (a.add 2) (.slice q r s)/\∀e,Z8 i (a.add 2) (.slice q r s) e ->
 ((u≠0 ->
 Z1 e f (.bool O)/\∀i,Z8 e f (.bool O) i ->
 Z1 i (f.add 1) (.slice I 0 0)/\∀j,Z8 i (f.add 1) (.slice I 0 0) j ->
 Z1 j (f.add 2) (.slice I 0 0)/\∀i,Z8 j (f.add 2) (.slice I 0 0) i ->
 ∃j o p q r s v,i.cell? f=V (.bool j) /\
 i.cell? (f.add 1)=V (.slice o p q) /\
 i.cell? (f.add 2)=V (.slice r s v) /\
 R (Z (U #[.agg #[.bool j,.slice o p q,.slice r s v],.int J 0,.int J u])) i) /\
 (u=0 ->
 ∀i,ZL e i ->
 ∃e j o,i.cell? (g.add 2)=V (.slice e j o) /\
 ∃p q r s u v x,i.cell? a=V (.bool p) /\
 i.cell? (a.add 1)=V (.slice q r s) /\
 i.cell? (a.add 2)=V (.slice u v x) /\
 ((0:Int)<=t/\t<=(c:Int)) /\
 ∀a y,ZB i 111 #[.bool p,.slice q r s,.slice u v x] a y ->
 y.cell? (g.add 2)=V (.slice e j o) /\
 ∃i p,Sem.run Q (builtinV .append #[109,109] 109 #[.slice e j o,.slice (V a) 1 1]) y=.ok i p /\
 ∃a e j,i=(.slice a e j) /\
 Z1 p (g.add 2) (.slice a e j)/\∀i,Z8 p (g.add 2) (.slice a e j) i ->
 m (subO b d t.toNat 1) (c-t.toNat) (d-t.toNat) i/\n (subO b d t.toNat 1) (c-t.toNat) (d-t.toNat) i<n b c d h)))) /\
 (¬(c:Int)>0 ->
 ∃a b c d e i j,h.cell? g=V (.bool a) /\
 h.cell? (g.add 1)=V (.slice b c d) /\
 h.cell? (g.add 2)=V (.slice e i j) /\
 Z1 h f (.bool a)/\∀g,Z8 h f (.bool a) g ->
 Z1 g (f.add 1) (.slice b c d)/\∀a,Z8 g (f.add 1) (.slice b c d) a ->
 Z1 a (f.add 2) (.slice e i j)/\∀b,Z8 a (f.add 2) (.slice e i j) b ->
 ∃a c d e g h i,b.cell? f=V (.bool a) /\
 b.cell? (f.add 1)=V (.slice c d e) /\
 b.cell? (f.add 2)=V (.slice g h i) /\
 R (Z (U #[.agg #[.bool a,.slice c d e,.slice g h i],.int J (G J (k+l)),.int J 0])) b)))))))))))))))
theorem Z0k.vc(a b c d e w R)(h:Z0k.Vc a b c d e w R):J0 Q 136 #[(C (V a)),(.slice b c d),(.int J e)] w R:=xs [(18,[(12,.cell (.slice))])] [.addr a,.slice b c d,.int J e] Tryz.func136 ZO (by kernel_rfl) h
abbrev Z3U.n:Nat:=149
def Z3U.Vc(a:Option Addr)(b c:Nat)(w:T)(R:JD->T->Prop):Prop :=
 ∀d e,ZB w 237 #[.bool O,.int J 0,.int J 0,.bool O,.bool O] d e ->
 ∃f,a=V f /\
 ((0:Int)<=0/\0<(b:Int)) /\
 ∃g,e.cell? (f.add 0)=V (.int .u8 g) /\
 ∀f h,ZB e 3 #[.int J 0] f h ->
 Z1 h f (.int J (G J g))/\∀e,Z8 h f (.int J (G J g)) e ->
 ∀g h,ZB e 237 #[.bool O,.int J 0,.int J 0,.bool O,.bool O] g h ->
 Z1 h g (.bool O)/\∀e,Z8 h g (.bool O) e ->
 Z1 e (g.add 1) (.int J 1)/\∀h,Z8 e (g.add 1) (.int J 1) h ->
 Z1 h (g.add 2) (.int J 0)/\∀e,Z8 h (g.add 2) (.int J 0) e ->
 Z1 e (g.add 3) (.bool O)/\∀h,Z8 e (g.add 3) (.bool O) h ->
 Z1 h (g.add 4) (.bool O)/\∀e,Z8 h (g.add 4) (.bool O) e ->
 ∀h i,ZB e 3 #[.int J 0] h i ->
 Z1 i h (.int J 0)/\∀e,Z8 i h (.int J 0) e ->
 ∃(i:T->Prop),(∃j,e.cell? f=V (.int J j) /\
 ((j<128 ->
 Z1 e d (.bool O)/\∀k,Z8 e d (.bool O) k ->
 Z1 k (d.add 1) (.int J 0)/\∀l,Z8 k (d.add 1) (.int J 0) l ->
 Z1 l (d.add 2) (.int J 1)/\∀k,Z8 l (d.add 2) (.int J 1) k ->
 Z1 k (d.add 3) (.bool JA)/\∀l,Z8 k (d.add 3) (.bool JA) l ->
 Z1 l (d.add 4) (.bool O)/\∀k,Z8 l (d.add 4) (.bool O) k ->
 ∃l m n o p,k.cell? d=V (.bool l) /\
 k.cell? (d.add 1)=V (.int J m) /\
 k.cell? (d.add 2)=V (.int J n) /\
 k.cell? (d.add 3)=V (.bool o) /\
 k.cell? (d.add 4)=V (.bool p) /\
 R (Z (U #[.agg #[.bool l,.int J m,.int J n,.bool o,.bool p],.int J 0])) k) /\
 (¬j<128 ->
 ∃j,e.cell? f=V (.int J j) /\
 ((j>=192 ->
 Z1 e g (.bool JA)/\∀k,Z8 e g (.bool JA) k ->
 J0 Q 159 #[.int J 192,C (V f),C (V h),C (V g)] k (fun k l =>
 k=Z (U #[]) /\
 i  l)) /\
 (¬j>=192 ->
 J0 Q 159 #[.int J 128,C (V f),C (V h),C (V g)] e (fun e f =>
 e=Z (U #[]) /\
 i  f)))))) /\
 (∀  (e:Nat->Value)(e:T),i  e ->
 ∃f,e.cell? h=V (.int J f) /\
 ((f=0 ->
 ∃i j k l m,e.cell? g=V (.bool i) /\
 e.cell? (g.add 1)=V (.int J j) /\
 e.cell? (g.add 2)=V (.int J k) /\
 e.cell? (g.add 3)=V (.bool l) /\
 e.cell? (g.add 4)=V (.bool m) /\
 Z1 e d (.bool i)/\∀n,Z8 e d (.bool i) n ->
 Z1 n (d.add 1) (.int J j)/\∀i,Z8 n (d.add 1) (.int J j) i ->
 Z1 i (d.add 2) (.int J k)/\∀j,Z8 i (d.add 2) (.int J k) j ->
 Z1 j (d.add 3) (.bool l)/\∀i,Z8 j (d.add 3) (.bool l) i ->
 Z1 i (d.add 4) (.bool m)/\∀j,Z8 i (d.add 4) (.bool m) j ->
 ∃i k l m n,j.cell? d=V (.bool i) /\
 j.cell? (d.add 1)=V (.int J k) /\
 j.cell? (d.add 2)=V (.int J l) /\
 j.cell? (d.add 3)=V (.bool m) /\
 j.cell? (d.add 4)=V (.bool n) /\
 R (Z (U #[.agg #[.bool i,.int J k,.int J l,.bool m,.bool n],.int J 0])) j) /\
 (f≠0 ->
 ∃f,e.cell? h=V (.int J f) /\
 (((b:Int)<(G J (1+f)) ->
 ∃i j k l m,e.cell? g=V (.bool i) /\
 e.cell? (g.add 1)=V (.int J j) /\
 e.cell? (g.add 2)=V (.int J k) /\
 e.cell? (g.add 3)=V (.bool l) /\
 e.cell? (g.add 4)=V (.bool m) /\
 Z1 e d (.bool i)/\∀n,Z8 e d (.bool i) n ->
 Z1 n (d.add 1) (.int J j)/\∀i,Z8 n (d.add 1) (.int J j) i ->
 Z1 i (d.add 2) (.int J k)/\∀j,Z8 i (d.add 2) (.int J k) j ->
 Z1 j (d.add 3) (.bool l)/\∀i,Z8 j (d.add 3) (.bool l) i ->
 Z1 i (d.add 4) (.bool m)/\∀j,Z8 i (d.add 4) (.bool m) j ->
 ∃i k l m n,j.cell? d=V (.bool i) /\
 j.cell? (d.add 1)=V (.int J k) /\
 j.cell? (d.add 2)=V (.int J l) /\
 j.cell? (d.add 3)=V (.bool m) /\
 j.cell? (d.add 4)=V (.bool n) /\
 R (Z (U #[.agg #[.bool i,.int J k,.int J l,.bool m,.bool n],.int J 41])) j) /\
 (¬(b:Int)<(G J (1+f)) ->
 ∃f,e.cell? h=V (.int J f) /\
 ((0:Int)<=(G J (1+f))/\(G J (1+f))<=(c:Int)) /\
 1<=(J3 (G J (1+f))) /\
 ∃(i:Int->Int->T->Prop)(j:Int->Int->T->Nat),i 0 0 e /\
 (∀(e:Int)(k:Int)(l:Nat->Value)(l:T),i e k l ->
 ((k<((((J3 (G J (1+f)))-1):Nat):Int) ->
 ∃m,(subO a c 1 1)=V m /\
 ((0:Int)<=k/\k<((((J3 (G J (1+f)))-1):Nat):Int)) /\
 ∃c,l.cell? (m.add k.toNat)=V (.int .u8 c) /\
 i (bitsI .or JJ (G JJ (e*256)) (G JJ c)) (G J (k+1)) l/\j (bitsI .or JJ (G JJ (e*256)) (G JJ c)) (G J (k+1)) l<j e k l) /\
 (¬k<((((J3 (G J (1+f)))-1):Nat):Int) ->
 ∃c,a=V c /\
 ((0:Int)<=1/\1<(b:Int)) /\
 ∃a,l.cell? (c.add 1)=V (.int .u8 a) /\
 ((a=0 ->
 ∃b c f i j,l.cell? g=V (.bool b) /\
 l.cell? (g.add 1)=V (.int J c) /\
 l.cell? (g.add 2)=V (.int J f) /\
 l.cell? (g.add 3)=V (.bool i) /\
 l.cell? (g.add 4)=V (.bool j) /\
 Z1 l d (.bool b)/\∀k,Z8 l d (.bool b) k ->
 Z1 k (d.add 1) (.int J c)/\∀b,Z8 k (d.add 1) (.int J c) b ->
 Z1 b (d.add 2) (.int J f)/\∀c,Z8 b (d.add 2) (.int J f) c ->
 Z1 c (d.add 3) (.bool i)/\∀b,Z8 c (d.add 3) (.bool i) b ->
 Z1 b (d.add 4) (.bool j)/\∀c,Z8 b (d.add 4) (.bool j) c ->
 ∃b f i j k,c.cell? d=V (.bool b) /\
 c.cell? (d.add 1)=V (.int J f) /\
 c.cell? (d.add 2)=V (.int J i) /\
 c.cell? (d.add 3)=V (.bool j) /\
 c.cell? (d.add 4)=V (.bool k) /\
 R (Z (U #[.agg #[.bool b,.int J f,.int J i,.bool j,.bool k],.int J 40])) c) /\
 (a≠0 ->
 ((e<=55 ->
 ∃a b c f i,l.cell? g=V (.bool a) /\
 l.cell? (g.add 1)=V (.int J b) /\
 l.cell? (g.add 2)=V (.int J c) /\
 l.cell? (g.add 3)=V (.bool f) /\
 l.cell? (g.add 4)=V (.bool i) /\
 Z1 l d (.bool a)/\∀j,Z8 l d (.bool a) j ->
 Z1 j (d.add 1) (.int J b)/\∀a,Z8 j (d.add 1) (.int J b) a ->
 Z1 a (d.add 2) (.int J c)/\∀b,Z8 a (d.add 2) (.int J c) b ->
 Z1 b (d.add 3) (.bool f)/\∀a,Z8 b (d.add 3) (.bool f) a ->
 Z1 a (d.add 4) (.bool i)/\∀b,Z8 a (d.add 4) (.bool i) b ->
 ∃a c f i j,b.cell? d=V (.bool a) /\
 b.cell? (d.add 1)=V (.int J c) /\
 b.cell? (d.add 2)=V (.int J f) /\
 b.cell? (d.add 3)=V (.bool i) /\
 b.cell? (d.add 4)=V (.bool j) /\
 R (Z (U #[.agg #[.bool a,.int J c,.int J f,.bool i,.bool j],.int J 40])) b) /\
 (¬e<=55 ->
 ((e>2147483648 ->
 ∃a b c f i,l.cell? g=V (.bool a) /\
 l.cell? (g.add 1)=V (.int J b) /\
 l.cell? (g.add 2)=V (.int J c) /\
 l.cell? (g.add 3)=V (.bool f) /\
 l.cell? (g.add 4)=V (.bool i) /\
 Z1 l d (.bool a)/\∀j,Z8 l d (.bool a) j ->
 Z1 j (d.add 1) (.int J b)/\∀a,Z8 j (d.add 1) (.int J b) a ->
 Z1 a (d.add 2) (.int J c)/\∀b,Z8 a (d.add 2) (.int J c) b ->
 Z1 b (d.add 3) (.bool f)/\∀a,Z8 b (d.add 3) (.bool f) a ->
 Z1 a (d.add 4) (.bool i)/\∀b,Z8 a (d.add 4) (.bool i) b ->
 ∃a c f i j,b.cell? d=V (.bool a) /\
 b.cell? (d.add 1)=V (.int J c) /\
 b.cell? (d.add 2)=V (.int J f) /\
 b.cell? (d.add 3)=V (.bool i) /\
 b.cell? (d.add 4)=V (.bool j) /\
 R (Z (U #[.agg #[.bool a,.int J c,.int J f,.bool i,.bool j],.int J 40])) b) /\
 (¬e>2147483648 ->
 ∃a,l.cell? h=V (.int J a) /\
 Z1 l (g.add 1) (.int J (G J (1+a)))/\∀b,Z8 l (g.add 1) (.int J (G J (1+a))) b ->
 Z1 b (g.add 2) (.int J (G J e))/\∀a,Z8 b (g.add 2) (.int J (G J e)) a ->
 ∃b c e f h,a.cell? g=V (.bool b) /\
 a.cell? (g.add 1)=V (.int J c) /\
 a.cell? (g.add 2)=V (.int J e) /\
 a.cell? (g.add 3)=V (.bool f) /\
 a.cell? (g.add 4)=V (.bool h) /\
 Z1 a d (.bool b)/\∀g,Z8 a d (.bool b) g ->
 Z1 g (d.add 1) (.int J c)/\∀a,Z8 g (d.add 1) (.int J c) a ->
 Z1 a (d.add 2) (.int J e)/\∀b,Z8 a (d.add 2) (.int J e) b ->
 Z1 b (d.add 3) (.bool f)/\∀a,Z8 b (d.add 3) (.bool f) a ->
 Z1 a (d.add 4) (.bool h)/\∀b,Z8 a (d.add 4) (.bool h) b ->
 ∃a c e f g,b.cell? d=V (.bool a) /\
 b.cell? (d.add 1)=V (.int J c) /\
 b.cell? (d.add 2)=V (.int J e) /\
 b.cell? (d.add 3)=V (.bool f) /\
 b.cell? (d.add 4)=V (.bool g) /\
 R (Z (U #[.agg #[.bool a,.int J c,.int J e,.bool f,.bool g],.int J 0])) b))))))))))))))
theorem Z3U.vc(a b c w R)(h:Z3U.Vc a b c w R):J0 Q 149 #[(.slice a b c)] w R:=xs [(1000011,[]),(17,[(8,.cell (.int JJ)),(43,.cell (.int J))])] [.slice a b c] Tryz.func149 ZO (by kernel_rfl) h
abbrev Z28.n:Nat:=159
def Z28.Vc(a:Int)(b c d:Addr)(w:T)(R:JD->T->Prop):Prop :=
 ∃e,w.cell? b=V (.int J e) /\
 Z1 w c (.int J (max (G J ((G J (e-a))-55)) 0))/\∀f,Z8 w c (.int J (max (G J ((G J (e-a))-55)) 0)) f ->
 ∃c,f.cell? b=V (.int J c) /\
 Z1 f (d.add 2) (.int J (G J (c-a)))/\∀b,Z8 f (d.add 2) (.int J (G J (c-a))) b ->
 R (Z (U #[])) b
theorem Z28.vc(a b c d w R)(h:Z28.Vc a b c d w R):J0 Q 159 #[(.int J a),(C (V b)),(C (V c)),(C (V d))] w R:=xs [] [.int J a,.addr b,.addr c,.addr d] Tryz.func159 ZO (by kernel_rfl) h
end Go.Proofs.YtfghidehlnfdiaaGreat
end
section
namespace Go.Proofs.YtfghidehlnfdiaaGreat
open Go Go.Vcg Go.Trie
section
variable{w:T}{D:Nat}{t:TypeId}
theorem Z8i{a b c v1 v2 v3:Value}{R':T->Prop}(X:Blk w D t #[a,b,c])(h1:v1.oneCell'=JA)(h2:v2.oneCell'=JA)(h3:v3.oneCell'=JA)(K:∀w',Blk w' D t #[v1,v2,v3]->Vcg.Mod (·=D) w w'->R' w') :
  Z1 w ⟨D,0,I⟩ v1/\∀w1:T,Z8 w ⟨D,0,I⟩ v1 w1->Z1 w1 (P ⟨D,0,I⟩ 1) v2/\∀w2:T,Z8 w1 (P ⟨D,0,I⟩ 1) v2 w2->Z1 w2 (P ⟨D,0,I⟩ 2) v3/\∀w3:T,Z8 w2 (P ⟨D,0,I⟩ 2) v3 w3->R' w3:=by
 refine⟨X.canSet (by simp) h1,?_⟩;rintro _ rfl;have X1:=X.set 0 v1;have Q1:Vcg.Mod (·=D) w _:=Mod.setCell w ⟨D,0,I⟩ v1;rw[Z6,J5];refine⟨X1.canSet (by simp) h2,?_⟩;rintro _ rfl;have X2:=X1.set 1 v2;have Q2:=Q1.step_set (a:=⟨D,1,I⟩) (v:=v2) (fun _=>rfl);rw[Z6,J5];refine⟨X2.canSet (by simp) h3,?_⟩;rintro _ rfl;have X3:=X2.set 2 v3;have Q3:=Q2.step_set (a:=⟨D,2,I⟩) (v:=v3) (fun _=>rfl);exact K _ X3 Q3
theorem Z7w{b:Bool}{o o2:Option Addr}{l k l2 k2:Nat}{R':Bool->Option Addr->Nat->Nat->Option Addr->Nat->Nat->Prop}(X:Blk w D t #[.bool b,.slice o l k,.slice o2 l2 k2])(h:R' b o l k o2 l2 k2) :
  ∃b8:Bool,∃o9:Option Addr,∃l10:Nat,∃l11:Nat,∃o12:Option Addr,∃l13:Nat,∃l14:Nat,J2 w ⟨D,0,I⟩=V (.bool b8)/\J2 w (P ⟨D,0,I⟩ 1)=V (.slice o9 l10 l11)/\J2 w (P ⟨D,0,I⟩ 2)=V (.slice o12 l13 l14)/\R' b8 o9 l10 l11 o12 l13 l14 :=
 ⟨_,_,_,_,_,_,_,X.rd1 rfl,by rw[Z6];exact X.rd1 rfl,by rw[Z6];exact X.rd1 rfl,h⟩
theorem Z1Q{a b c:Value}{b1:Bool}{o o2:Option Addr}{l k l2 k2:Nat}{R':Bool->Option Addr->Nat->Nat->Option Addr->Nat->Nat->T->Prop}(X:Blk w D t #[a,b,c])(K:∀w',Vcg.Mod (·=D) w w'->R' b1 o l k o2 l2 k2 w') :
  Z1 w ⟨D,0,I⟩ (.bool b1)/\∀w1:T,Z8 w ⟨D,0,I⟩ (.bool b1) w1->Z1 w1 (P ⟨D,0,I⟩ 1) (.slice o l k)/\∀w2:T,Z8 w1 (P ⟨D,0,I⟩ 1) (.slice o l k) w2->Z1 w2 (P ⟨D,0,I⟩ 2) (.slice o2 l2 k2)/\∀w3:T,Z8 w2 (P ⟨D,0,I⟩ 2) (.slice o2 l2 k2) w3 ->
   ∃b8:Bool,∃o9:Option Addr,∃l10:Nat,∃l11:Nat,∃o12:Option Addr,∃l13:Nat,∃l14:Nat,J2 w3 ⟨D,0,I⟩=V (.bool b8)/\J2 w3 (P ⟨D,0,I⟩ 1)=V (.slice o9 l10 l11)/\J2 w3 (P ⟨D,0,I⟩ 2)=V (.slice o12 l13 l14)/\R' b8 o9 l10 l11 o12 l13 l14 w3 :=
 Z8i X rfl rfl rfl (fun w' X' M=>Z7w X' (K w' M))
theorem ZFe{a b c d e v1 v2 v3 v4 v5:Value}{R':T->Prop}(X:Blk w D t #[a,b,c,d,e])(h1:v1.oneCell'=JA)(h2:v2.oneCell'=JA)(h3:v3.oneCell'=JA)(h4:v4.oneCell'=JA)(h5:v5.oneCell'=JA)(K:∀w',Blk w' D t #[v1,v2,v3,v4,v5]->Vcg.Mod (·=D) w w'->R' w') :
  Z1 w ⟨D,0,I⟩ v1/\∀w1:T,Z8 w ⟨D,0,I⟩ v1 w1->Z1 w1 (P ⟨D,0,I⟩ 1) v2/\∀w2:T,Z8 w1 (P ⟨D,0,I⟩ 1) v2 w2->Z1 w2 (P ⟨D,0,I⟩ 2) v3/\∀w3:T,Z8 w2 (P ⟨D,0,I⟩ 2) v3 w3 ->
   Z1 w3 (P ⟨D,0,I⟩ 3) v4/\∀w4:T,Z8 w3 (P ⟨D,0,I⟩ 3) v4 w4->Z1 w4 (P ⟨D,0,I⟩ 4) v5/\∀w5:T,Z8 w4 (P ⟨D,0,I⟩ 4) v5 w5->R' w5:=by
 refine⟨X.canSet (by simp) h1,?_⟩;rintro _ rfl;have X1:=X.set 0 v1;have Q1:Vcg.Mod (·=D) w _:=Mod.setCell w ⟨D,0,I⟩ v1;rw[Z6,J5];refine⟨X1.canSet (by simp) h2,?_⟩;rintro _ rfl;have X2:=X1.set 1 v2;have Q2:=Q1.step_set (a:=⟨D,1,I⟩) (v:=v2) (fun _=>rfl);rw[Z6,J5];refine⟨X2.canSet (by simp) h3,?_⟩;rintro _ rfl;have X3:=X2.set 2 v3;have Q3:=Q2.step_set (a:=⟨D,2,I⟩) (v:=v3) (fun _=>rfl);rw[Z6,J5];refine⟨X3.canSet (by simp) h4,?_⟩;rintro _ rfl;have X4:=X3.set 3 v4;have Q4:=Q3.step_set (a:=⟨D,3,I⟩) (v:=v4) (fun _=>rfl);rw[Z6,J5];refine⟨X4.canSet (by simp) h5,?_⟩;rintro _ rfl;have X5:=X4.set 4 v5;have Q5:=Q4.step_set (a:=⟨D,4,I⟩) (v:=v5) (fun _=>rfl);exact K _ X5 Q5
theorem ZD2{b b3 b4:Bool}{n1 n2:Int}{R':Bool->Int->Int->Bool->Bool->Prop}(X:Blk w D t #[.bool b,.int J n1,.int J n2,.bool b3,.bool b4])(h:R' b n1 n2 b3 b4) :
  ∃b8:Bool,∃n9:Int,∃n10:Int,∃b11:Bool,∃b12:Bool,J2 w ⟨D,0,I⟩=V (.bool b8)/\J2 w (P ⟨D,0,I⟩ 1)=V (.int J n9)/\J2 w (P ⟨D,0,I⟩ 2)=V (.int J n10)/\J2 w (P ⟨D,0,I⟩ 3)=V (.bool b11)/\J2 w (P ⟨D,0,I⟩ 4)=V (.bool b12)/\R' b8 n9 n10 b11 b12 :=
 ⟨_,_,_,_,_,X.rd1 rfl,by rw[Z6];exact X.rd1 rfl,by rw[Z6];exact X.rd1 rfl,by rw[Z6];exact X.rd1 rfl,by rw[Z6];exact X.rd1 rfl,h⟩
end
theorem ZHQ{n d:Nat}(hn:n<2^56)(hd:d<256):bitsI .or JJ (G JJ ((n:Int)*256)) (G JJ (d:Int))=((n*256+d:Nat):Int):=by
 have e1:G JJ ((n:Int)*256)=uI (JK 64 (n*256)):=by
  rw[Z4e];simp only[uI,JE];omega
 have e2:G JJ (d:Int)=uI (JK 64 d):=by
  rw[Z4e];simp only[uI,JE];omega
 rw[e1,e2,Z5I];simp only[uI,BitVec.toNat_or,JE];rw[JI (by omega),JI (by omega)];have:=Nat.shiftLeft_add_eq_or_of_lt (i:=8) (b:=d) (by omega) n;rw[Nat.shiftLeft_eq]at this;rw[<-this]
theorem Z6Z{w:T}{a b d base c:Nat}{x v0 v1 v2 v3 v4:Value}(X5:Blk w a 3 #[.int J (c:Int)])(X15:Blk w b 3 #[x])(X8:Blk w d 237 #[v0,v1,v2,v3,v4])(hab:a≠b)(had:a≠d)(hbd:b≠d)(hb:base<=c)(hc:c<=255) :
  J0 Q Z28.n #[.int J (base:Int),C (V ⟨a,0,I⟩),C (V ⟨b,0,I⟩),C (V ⟨d,0,I⟩)] w (fun e w'=>e=Z (U #[])/\Vcg.Mod (fun q=>q=b\/q=d) w w'/\Blk w' b 3 #[.int J ((c-base-55:Nat):Int)]/\Blk w' d 237 #[v0,v1,.int J ((c-base:Nat):Int),v3,v4]):=by
 refine Z28.vc _ _ _ _ _ _ ?_;unfold Z28.Vc;have e1:G J ((c:Int)-(base:Int))=((c-base:Nat):Int):=by rw[Z0 (by omega) (by omega)];omega
 have e2:max (G J ((G J ((c:Int)-(base:Int)))-55)) 0=((c-base-55:Nat):Int):=by
  rw[e1,Z0 (by omega) (by omega)];omega
 refine⟨_,X5.rd1 rfl,?_⟩;rw[e2];refine⟨X15.canSet (by simp) rfl,?_⟩;rintro _ rfl;have X15':=X15.set 0 (.int J ((c-base-55:Nat):Int));refine⟨_,(X5.set_ne (a:=⟨b,0,I⟩) hab).rd1 rfl,?_⟩;rw[e1,Z6];have X8':=X8.set_ne (a:=⟨b,0,I⟩) (v:=.int J ((c-base-55:Nat):Int)) (Ne.symm hbd);refine⟨X8'.canSet (by simp) rfl,?_⟩;rintro _ rfl;refine⟨rfl,?_,X15'.set_ne (a:=⟨d,0+2,I⟩) hbd,X8'.set 2 _⟩;exact((Mod.setCell w ⟨b,0,I⟩ _).mono (fun i _ h=>.inl h)).step_set (fun _=>.inr rfl)
def HdIs(r:Except Int (Bool×Nat×Nat×Bool))(b1:Bool)(n1 n2:Int)(b2:Bool)(e0:Int):Prop:=match r with
 | JG x=>e0=x/\x≠0
 | .ok (l,a,q,ow)=>b1=l/\n1=(a:Int)/\n2=(q:Int)/\b2=ow/\e0=0
theorem ZDf(bs:By){j:Nat}(hj:j+1<bs.length):be ((bs.drop 1).take (j+1))=be ((bs.drop 1).take j)*256+((bs.drop 1).getD j 0).toNat:=by
 have h:j<(bs.drop 1).length:=by rw[J1];omega
 rw[List.take_succ_eq_append_getElem h,ZGM];congr 2;rw[JF,List.getElem?_eq_getElem h];rfl
theorem ZBT{w:T}{o:Option Addr}{k:Nat}{bs:By}(hr:RdB w o bs)(hne:bs≠[])(hk:bs.length<=k)(hl:bs.length<=2^40) :
  J0 Q Z3U.n #[.slice o bs.length k] w (fun e w'=>Vcg.Mod NoB w w'/\∃b1 n1 n2 b2 b3 e0,e=Z (U #[.agg #[.bool b1,.int J n1,.int J n2,.bool b2,.bool b3],.int J e0])/\HdIs (hd bs) b1 n1 n2 b2 e0):=by
 refine ZG fun R hR=>Z3U.vc _ _ _ _ _ ?_;unfold Z3U.Vc;have hbl:1<=bs.length:=List.length_pos_iff.2 hne;rintro d1 w1⟨rfl,rfl⟩;have M1:Vcg.Mod NoB w _:=Mod.alloc w (L #[.bool O,.int J 0,.int J 0,.bool O,.bool O] 237);have X1:=Blk.new w 237 #[.bool O,.int J 0,.int J 0,.bool O,.bool O];have hs1:=ZC w (L #[.bool O,.int J 0,.int J 0,.bool O,.bool O] 237);generalize hN1:w.heap.size=N1 at *
 generalize w.alloc (L #[.bool O,.int J 0,.int J 0,.bool O,.bool O] 237)=w1 at *
 obtain⟨b0,f0,rfl,hb0,hc0⟩:=hr hne;have cell:∀{w':T},Vcg.Mod NoB w w'->∀i,i<bs.length->w'.cell? ⟨b0,f0+i,I⟩=V (bV (bs.getD i 0)):=fun M i hi=>(ZU M hb0 (fun h=>h)).trans (hc0 i hi);generalize hcv:(bs.getD 0 0).toNat=c;have hc255:c<=255:=by have:=(bs.getD 0 0).toNat_lt;omega
 refine⟨_,rfl,⟨by omega,by omega⟩,(c:Int),by rw[Z6];have:=cell M1 0 (by omega);simp only[bV,hcv]at this;exact this,?_⟩;rintro d5 w2⟨rfl,rfl⟩;have ec:G J (c:Int)=(c:Int):=Z0 (by omega) (by omega);rw[ec];have M2:=M1.step_alloc (L #[.int J 0] 3);have X5:=Blk.new w1 3 #[.int J 0];have hs2:=ZC w1 (L #[.int J 0] 3);have X12:=X1.alloc (L #[.int J 0] 3);generalize hN5:w1.heap.size=N5 at *
 generalize w1.alloc (L #[.int J 0] 3)=w2 at *
 refine⟨X5.canSet (by simp) rfl,?_⟩;rintro _ rfl;have X53:=X5.set 0 (.int J (c:Int));have X13:=X12.set_ne (a:=⟨N5,0,I⟩) (v:=.int J (c:Int)) (by simp;omega);have M3:=M2.step_set (a:=⟨N5,0,I⟩) (v:=.int J (c:Int)) (fun h=>by simp at h;omega);have hs3:(w2.setCell ⟨N5,0,I⟩ (.int J (c:Int))).heap.size=N5+1:=by rw[Z4O];exact hs2
 generalize w2.setCell ⟨N5,0,I⟩ (.int J (c:Int))=w3 at *
 rintro d8 w4⟨rfl,rfl⟩;have M4:=M3.step_alloc (L #[.bool O,.int J 0,.int J 0,.bool O,.bool O] 237);have X8:=Blk.new w3 237 #[.bool O,.int J 0,.int J 0,.bool O,.bool O];have hs4:=ZC w3 (L #[.bool O,.int J 0,.int J 0,.bool O,.bool O] 237);have X14:=X13.alloc (L #[.bool O,.int J 0,.int J 0,.bool O,.bool O] 237);have X54:=X53.alloc (L #[.bool O,.int J 0,.int J 0,.bool O,.bool O] 237);generalize hN8:w3.heap.size=N8 at *
 generalize w3.alloc (L #[.bool O,.int J 0,.int J 0,.bool O,.bool O] 237)=w4 at *
 refine ZFe X8 rfl rfl rfl rfl rfl (fun w5 X85 Q5=>?_);have M5:=M4.trans Q5 (fun i hi h=>by omega);have X15:=X14.mod Q5 (by omega);have X55:=X54.mod Q5 (by omega);have hs5:=Q5.size;rintro d15 w6⟨rfl,rfl⟩;have M6:=M5.step_alloc (L #[.int J 0] 3);have Xk:=Blk.new w5 3 #[.int J 0];have X16:=X15.alloc (L #[.int J 0] 3);have X56:=X55.alloc (L #[.int J 0] 3);have X86:=X85.alloc (L #[.int J 0] 3);generalize hNk:w5.heap.size=Nk at *
 generalize w5.alloc (L #[.int J 0] 3)=w6 at *
 refine⟨Xk.canSet (by simp) rfl,?_⟩;rintro _ rfl;have Xk7:=Xk.set 0 (.int J 0);have X17:=X16.set_ne (a:=⟨Nk,0,I⟩) (v:=.int J 0) (by simp;omega);have X57:=X56.set_ne (a:=⟨Nk,0,I⟩) (v:=.int J 0) (by simp;omega);have X87:=X86.set_ne (a:=⟨Nk,0,I⟩) (v:=.int J 0) (by simp;omega);have M7:=M6.step_set (a:=⟨Nk,0,I⟩) (v:=.int J 0) (fun h=>by simp at h;omega);generalize w6.setCell ⟨Nk,0,I⟩ (.int J 0)=w7 at *
 clear X12 X13 X14 X15 X16 X5 X53 X54 X55 X56 X8 X85 X86 Xk M1 M2 M3 M4 M5 M6 Q5 X1
 have hhd:hd bs=(if c<128 then .ok (O,0,1,JA)else
   if c-(if c>=192 then 192 else 128)<=55 then .ok (decide (c>=192),1,c-(if c>=192 then 192 else 128),O)
   else if bs.length<1+(c-(if c>=192 then 192 else 128)-55)then JG 41
   else if bs.getD 1 0=0\/be ((bs.drop 1).take (c-(if c>=192 then 192 else 128)-55))<=55\/be ((bs.drop 1).take (c-(if c>=192 then 192 else 128)-55))>2147483648 then JG 40
   else .ok (decide (c>=192),1+(c-(if c>=192 then 192 else 128)-55),be ((bs.drop 1).take (c-(if c>=192 then 192 else 128)-55)),O)):=by
  unfold hd;simp only[hcv]
 generalize hbase:(if c>=192 then 192 else 128)=base at *
 have finish:∀(w':T)(b1:Bool)(n1 n2:Int)(b2 b3:Bool)(e0:Int),Vcg.Mod NoB w w'->HdIs (hd bs) b1 n1 n2 b2 e0->R (Z (U #[.agg #[.bool b1,.int J n1,.int J n2,.bool b2,.bool b3],.int J e0])) w' :=
  fun w' b1 n1 n2 b2 b3 e0 M h=>hR _ _ ⟨M,b1,n1,n2,b2,b3,e0,rfl,h⟩
 refine⟨fun w'=>¬c<128/\Vcg.Mod NoB w w'/\(∃vs:Array Value,Blk w' N1 237 vs/\vs=#[.bool O,.int J 0,.int J 0,.bool O,.bool O])/\Blk w' N8 237 #[.bool (decide (c>=192)),.int J 1,.int J ((c-base:Nat):Int),.bool O,.bool O]/\Blk w' Nk 3 #[.int J ((c-base-55:Nat):Int)],⟨_,X57.rd1 rfl,fun hc=>?_,fun hc=>⟨_,X57.rd1 rfl,fun h192=>?_,fun h192=>?_⟩⟩,?_⟩
 ·refine ZFe X17 rfl rfl rfl rfl rfl (fun w8 X18 Q8=>ZD2 X18 (finish _ _ _ _ _ _ _ (M7.trans Q8 (fun i hi h=>by omega)) ?_))
  rw[hhd,if_pos (by omega)];exact⟨rfl,rfl,rfl,rfl,rfl⟩
 ·have hb:base=192:=by rw[<-hbase,if_pos (by omega)]
  refine⟨X87.canSet (by simp) rfl,?_⟩;rintro _ rfl;have X88:=X87.set 0 (.bool JA);have X18:=X17.set_ne (a:=⟨N8,0,I⟩) (v:=.bool JA) (by simp;omega);have X58:=X57.set_ne (a:=⟨N8,0,I⟩) (v:=.bool JA) (by simp;omega);have Xk8:=Xk7.set_ne (a:=⟨N8,0,I⟩) (v:=.bool JA) (by simp;omega);have M8:=M7.step_set (a:=⟨N8,0,I⟩) (v:=.bool JA) (fun h=>by simp at h;omega);refine(Z6Z (base:=192) X58 Xk8 X88 (by omega) (by omega) (by omega) (by omega) hc255).mono ?_;rintro _ w9⟨rfl,Q9,Xk9,X89⟩;refine⟨rfl,by omega,M8.trans Q9 (fun i hi h=>by omega),⟨_,X18.mod Q9 (by omega),rfl⟩,?_,?_⟩
  ·rw[hb,decide_eq_true (by omega:c>=192)];exact X89
  ·rw[hb];exact Xk9
 ·have hb:base=128:=by rw[<-hbase,if_neg (by omega)]
  refine(Z6Z (base:=128) X57 Xk7 X87 (by omega) (by omega) (by omega) (by omega) hc255).mono ?_;rintro _ w9⟨rfl,Q9,Xk9,X89⟩;refine⟨rfl,by omega,M7.trans Q9 (fun i hi h=>by omega),⟨_,X17.mod Q9 (by omega),rfl⟩,?_,?_⟩
  ·rw[hb,decide_eq_false (by omega:¬c>=192)];exact X89
  ·rw[hb];exact Xk9
 ·clear X17 X57 X87 Xk7 M7
  rintro _ w8⟨hc,M8,⟨_,X1,rfl⟩,X8,Xk⟩;rw[if_neg hc]at hhd;have hb1:128<=base/\base<=c:=by rw[<-hbase];split<;>omega
  have h63:c-base-55<=8:=by rw[<-hbase];split<;>omega
  refine⟨_,Xk.rd1 rfl,fun h0=>?_,fun h0=>?_⟩
  ·refine ZD2 X8 (ZFe X1 rfl rfl rfl rfl rfl (fun w9 X19 Q9=>ZD2 X19 (finish _ _ _ _ _ _ _ (M8.trans Q9 (fun i hi h=>by omega)) ?_)))
   rw[hhd,if_pos (by omega)];exact⟨rfl,rfl,rfl,rfl,rfl⟩
  ·rw[if_neg (by omega)]at hhd
   generalize hkk:c-base-55=kk at *
   have ekk:G J (1+(kk:Int))=((1+kk:Nat):Int):=by rw[Z0 (by omega) (by omega)];omega
   refine⟨_,Xk.rd1 rfl,fun hsh=>?_,fun hsh=>⟨_,Xk.rd1 rfl,?_⟩⟩
   ·rw[ekk]at hsh
    refine ZD2 X8 (ZFe X1 rfl rfl rfl rfl rfl (fun w9 X19 Q9=>ZD2 X19 (finish _ _ _ _ _ _ _ (M8.trans Q9 (fun i hi h=>by omega)) ?_)));rw[hhd,if_pos (by omega)];exact⟨rfl,by decide⟩
   ·rw[ekk]at hsh ⊢
    rw[if_neg (by omega)]at hhd;rw[J8,Nat.add_sub_cancel_left];have hsub:=(hr.mod' M8).sub (c:=k) (lo:=1) (n:=kk) hk;have hsl:((bs.drop 1).take kk).length=kk:=by rw[JH,J1];omega
    obtain⟨b',f',ho',hb',hc'⟩:=hsub (by intro e;rw[e]at hsl;simp at hsl;omega);refine⟨⟨by omega,by omega⟩,by omega,fun n j w'=>w'=w8/\∃i:Nat,j=(i:Int)/\i<=kk/\n=((be ((bs.drop 1).take i):Nat):Int),fun _ j _=>((kk:Int)-j).toNat,⟨rfl,0,rfl,Nat.zero_le _,by simp[be]⟩,?_⟩;rintro _ _ _ w8⟨rfl,i,rfl,hi,rfl⟩;refine⟨fun hlt=>?_,fun hge=>?_⟩
    ·have hik:i<kk:=by omega
     have hgt:((bs.drop 1).take kk).getD i 0=(bs.drop 1).getD i 0:=by
      simp only[JF,List.getElem?_take_of_lt hik]
     have hcell:=hc' i (by omega);rw[hgt]at hcell;refine⟨_,ho',⟨by omega,by omega⟩,(((bs.drop 1).getD i 0).toNat:Int),by rw[Z6,J8];exact hcell,?_⟩;have hlt256:=ZH7 ((bs.drop 1).take i);have hil:((bs.drop 1).take i).length=i:=by rw[JH,J1];omega
     rw[hil]at hlt256
     have h56:256^i<=2^56:=by
      rw[show(256:Nat)=2^8 from rfl,<-Nat.pow_mul];exact Nat.pow_le_pow_right (by decide) (by omega)
     rw[ZHQ (by omega) (UInt8.toNat_lt _),<-ZDf bs (by omega)];have ew:G J ((i:Int)+1)=((i+1:Nat):Int):=by rw[Z0 (by omega) (by omega)];omega
     rw[ew];exact⟨⟨rfl,i+1,rfl,hik,rfl⟩,by dsimp only;omega⟩
    ·obtain rfl:i=kk:=by omega
     generalize hm:be ((bs.drop 1).take i)=m at *
     have c1:=cell M8 1 (by omega);refine⟨_,rfl,⟨by omega,by omega⟩,((bs.getD 1 0).toNat:Int),by rw[Z6];exact c1,fun hz=>?_,fun hz=>⟨fun h55=>?_,fun h55=>⟨fun hbig=>?_,fun hbig=>?_⟩⟩⟩
     ·refine ZD2 X8 (ZFe X1 rfl rfl rfl rfl rfl (fun w9 X19 Q9=>ZD2 X19 (finish _ _ _ _ _ _ _ (M8.trans Q9 (fun i hi h=>by omega)) ?_)))
      have:bs.getD 1 0=0:=UInt8.toNat_inj.1 (by simpa using hz);rw[hhd,if_pos (.inl this)];exact⟨rfl,by decide⟩
     ·refine ZD2 X8 (ZFe X1 rfl rfl rfl rfl rfl (fun w9 X19 Q9=>ZD2 X19 (finish _ _ _ _ _ _ _ (M8.trans Q9 (fun i hi h=>by omega)) ?_)))
      rw[hhd,if_pos (.inr (.inl (by omega)))];exact⟨rfl,by decide⟩
     ·refine ZD2 X8 (ZFe X1 rfl rfl rfl rfl rfl (fun w9 X19 Q9=>ZD2 X19 (finish _ _ _ _ _ _ _ (M8.trans Q9 (fun i hi h=>by omega)) ?_)))
      rw[hhd,if_pos (.inr (.inr (by omega)))];exact⟨rfl,by decide⟩
     ·refine⟨_,Xk.rd1 rfl,?_⟩
      have em:G J (m:Int)=(m:Int):=Z0 (by omega) (by omega);rw[ekk,em,Z6,Z6];refine⟨X8.canSet (by simp) rfl,?_⟩;rintro _ rfl;have X81:=X8.set 1 (.int J ((1+i:Nat):Int));refine⟨X81.canSet (by simp) rfl,?_⟩;rintro _ rfl;have X82:=X81.set 2 (.int J (m:Int));have M10:=(M8.step_set (a:=⟨N8,1,I⟩) (v:=.int J ((1+i:Nat):Int)) (fun h=>by simp at h;omega)).step_set (a:=⟨N8,2,I⟩) (v:=.int J (m:Int)) (fun h=>by simp at h;omega);have X11:=(X1.set_ne (a:=⟨N8,1,I⟩) (v:=.int J ((1+i:Nat):Int)) (by simp;omega)).set_ne (a:=⟨N8,2,I⟩) (v:=.int J (m:Int)) (by simp;omega);refine ZD2 X82 (ZFe X11 rfl rfl rfl rfl rfl (fun w9 X19 Q9=>ZD2 X19 (finish _ _ _ _ _ _ _ (M10.trans Q9 (fun i hi h=>by omega)) ?_)));have:¬bs.getD 1 0=0:=fun h=>hz (by rw[h];rfl);rw[hhd,if_neg (fun h=>h.elim this (fun h=>h.elim (fun h=>by omega) (fun h=>by omega)))];exact⟨rfl,rfl,rfl,rfl,rfl⟩
section
variable{A:Nat->Prop}{w w':T}{xs:List It}{o:Option Addr}{l k:Nat}
def Z3C(A:Nat->Prop)(w:T)(xs:List It)(o:Option Addr)(l k:Nat):Prop :=
 l=xs.length/\∃vs,Own w ZFj 3 o l k vs/\∀j(hj:j<xs.length),∃v1 v2 v3,vs[j*3]?=V v1/\vs[j*3+1]?=V v2/\vs[j*3+2]?=V v3/\ItC (fun b=>A b\/OB o b) w xs[j] v1 v2 v3
theorem Z3C.nil(A:Nat->Prop)(w:T):Z3C A w [] I 0 0:=⟨rfl,[],Own.nil _ _ _,fun j hj=>absurd hj (by simp)⟩
theorem Z3C.lt(h:Z3C A w xs o l k):∀b,OB o b->b<w.heap.size:=by
 obtain⟨_,vs,F,_⟩:=h;exact fun b hb=>F.lt hb
theorem Z3C.cap(h:Z3C A w xs o l k):l<=k:=by
 obtain⟨_,vs,F,_⟩:=h;exact F.cap.1
theorem Z3C.modS{S:Nat->Prop}(h:Z3C A w xs o l k)(M:Vcg.Mod S w w')(hS:∀b,S b->A b)(hO:∀b,OB o b->¬S b):Z3C A w' xs o l k:=by
 obtain⟨h1,vs,F,h2⟩:=h;refine⟨h1,vs,F.mod M hO,fun j hj=>?_⟩;obtain⟨v1,v2,v3,a,b,d,e⟩:=h2 j hj;exact⟨v1,v2,v3,a,b,d,ItC.modA M (fun b hb=>.inl (hS b hb)) _ e⟩
theorem Z3C.mod'(h:Z3C A w xs o l k)(M:Vcg.Mod NoB w w'):Z3C A w' xs o l k:=h.modS M (fun _ h=>h.elim) (fun _ _ h=>h)
theorem Z3C.push(h:Z3C A w xs o l k){D:Nat}{x:It}{v1 v2 v3:Value}(B:Blk w D ZFj #[v1,v2,v3])(hx:ItC (fun b=>A b\/OB o b) w x v1 v2 v3)(hl:xs.length<=2^20) :
  ∃o' k' w',Sem.run Q (builtinV .append #[109,109] 109 #[.slice o l k,.slice (V ⟨D,0,I⟩) 1 1]) w=.ok (.slice o' (l+1) k') w'/\Z3C A w' (xs++[x]) o' (l+1) k'/\Vcg.Mod (OB o) w w'/\(∀b,OB o' b->OB o b\/w.heap.size<=b):=by
 obtain⟨rfl,vs,F,hv⟩:=h;obtain⟨i,hi,hz,hs,hb⟩:=Z25 ZE3;obtain⟨b,p1,q1,r1,p2,q2,r2,rfl,rfl,rfl⟩:=hx.vals;obtain⟨o',k',w',h1,h2,h3,h4⟩:=Z3I (ty:=109) Z8p hi hz hs rfl F (Z5E Z8p B rfl (by simp[Value.oneCell'])) (by simp only[maxLen];omega) (by rw[hb];omega);have hlen:vs.length=xs.length*3:=F.1
 have step:∀{y:It}{v1 v2 v3:Value},ItC (fun b=>A b\/OB o b) w y v1 v2 v3->ItC (fun b=>A b\/OB o' b) w' y v1 v2 v3:=fun hy =>
  ItC.mono (fun b hb=>hb.elim (fun h=>.inl (.inl h)) (fun h=>(h4 b h).elim (fun h=>.inl (.inr h)) .inr)) _ (ItC.modA h3 (fun b h=>.inl (.inr h)) _ (ItC.old _ hy))
 refine⟨o',k',w',h1,⟨by simp,_,h2,fun j hj=>?_⟩,h3,h4⟩;rw[J7,List.length_cons,List.length_nil]at hj;by_cases hjx:j<xs.length
 ·obtain⟨v1,v2,v3,a,b,d,e⟩:=hv j hjx
  refine⟨v1,v2,v3,?_,?_,?_,?_⟩
  ·rw[J6 (by omega)];exact a
  ·rw[J6 (by omega)];exact b
  ·rw[J6 (by omega)];exact d
  ·rw[List.getElem_append_left hjx];exact step e
 ·obtain rfl:j=xs.length:=by omega
  refine⟨.bool b,.slice p1 q1 r1,.slice p2 q2 r2,?_,?_,?_,?_⟩
  ·rw[J4 (by omega),hlen,JL];rfl
  ·rw[J4 (by omega),hlen,show xs.length*3+1-xs.length*3=1 by omega];rfl
  ·rw[J4 (by omega),hlen,show xs.length*3+2-xs.length*3=2 by omega];rfl
  ·rw[List.getElem_append_right (by omega)]
   simp only[JL,List.getElem_cons_zero];exact step hx
theorem Z3C.its(h:Z3C A w xs o l k)(hA:∀b,A b->¬OB o b):Z1X A w xs o 0:=by
 obtain⟨rfl,vs,F,hv⟩:=h;refine ZG3 xs 0 (fun j hj=>?_);obtain⟨v1,v2,v3,a,b,d,e⟩:=hv j hj;obtain⟨g,ho,hc1⟩:=F.cell a;obtain⟨g',ho',hc2⟩:=F.cell b;obtain⟨g'',ho'',hc3⟩:=F.cell d;rw[ho]at ho' ho'';cases ho';cases ho'';rw[J5];exact⟨g,v1,v2,v3,ho,F.lt ⟨_,ho,rfl⟩,fun h=>hA _ h ⟨_,ho,rfl⟩,hc1,hc2,hc3,ItC.mono (fun _ h=>.inl h) _ e⟩
end
theorem ZEC{w:T}{D n depth:Nat}(W:Blk w D 217 #[.int J (n:Int)])(h:depth>16\/n=4096) :
  J0 Q Zm.n #[C (V ⟨D,0,I⟩),.int J (depth:Int)] w (fun e w'=>e=Z (.int J 43)/\w'=w):=by
 refine Zm.vc _ _ _ _ ?_;unfold Zm.Vc;exact⟨fun _=>⟨rfl,rfl⟩,fun hd=>⟨_,W.rd1 rfl,fun _=>⟨rfl,rfl⟩,fun hn=>by omega⟩⟩
def pre(xs:List It)(r:Except Int (List It×Nat)):Except Int (List It×Nat):=match r with
 | JG e=>JG e
 | .ok (ys,m)=>.ok (xs++ys,m)
theorem ZET(r:Except Int (List It×Nat)):pre [] r=r:=by cases r<;>rfl
theorem ZEU(xs ys:List It)(r:Except Int (List It×Nat)):pre xs (pre ys r)=pre (xs++ys) r:=by
 cases r<;>simp[pre]
def ZGy(r:Except Int (It×Nat×Nat))(w:T)(D:Nat)(e:JD)(w':T):Prop:=match r with
 | JG x=>x≠0/\∃b o1 l1 k1 o2 l2 k2 n1,e=Z (U #[.agg #[.bool b,.slice o1 l1 k1,.slice o2 l2 k2],.int J n1,.int J x])
 | .ok (x,q,m)=>Blk w' D 217 #[.int J (m:Int)]/\∃v1 v2 v3,e=Z (U #[.agg #[v1,v2,v3],.int J (q:Int),.int J 0])/\ItC (fun b=>b<w.heap.size) w' x v1 v2 v3
theorem ZEq{w:T}{o:Option Addr}{bs:By}{k a q:Nat}(h:RdB w o bs)(hk:bs.length<=k):RdB w (subO o k a 1) ((bs.drop a).take q):=h.sub hk
theorem ZEL{S:Nat->Prop}{o:Option Addr}(h:Off S o)(c n:Nat):Off S (subO o c n 1):=fun d hd=>by
 unfold subO at hd;split at hd
 ·exact h d hd
 ·cases o with
  |none=>simp at hd
  |some a =>
   simp only[Option.map_some,Option.some.injEq]at hd
   have e:(a.add (n*1)).block=a.block:=by
    obtain⟨b,f,s⟩:=a;simp only[P];split<;>rfl
   rw[<-hd,e];exact h a rfl
set_option maxHeartbeats 1000000 in
set_option maxRecDepth 10000 in
theorem Z7I:∀(f d n:Nat) (bs:By) {w:T} {D k:Nat} {o:Option Addr},2*bs.length+1<=f->bs.length<=65536->RdB w o bs->bs.length<=k->Blk w D 217 #[.int J (n:Int)]->(bs≠[]->Off (·=D) o)->n<=4096->d<=20 ->
  J0 Q Z0k.n #[C (V ⟨D,0,I⟩),.slice o bs.length k,.int J (d:Int)] w (fun e w'=>Vcg.Mod (·=D) w w'/\ZGy (dcd f d n bs) w D e w')
 |0,_,_,_,_,_,_,_,hf,_,_,_,_,_,_,_=>absurd hf (by omega)
 |f+1,d,n,bs,w,D,k,o,hf,hlen,hr,hk,W,hoff,hn,hd20=>by
  refine ZG fun R hR=>Z0k.vc _ _ _ _ _ _ _ ?_;unfold Z0k.Vc;have hD:=W.lt;rintro d3 w1⟨rfl,rfl⟩;have M1:Vcg.Mod NoB w _:=Mod.alloc w (L #[.bool O,.slice I 0 0,.slice I 0 0] 111);have X1:=Blk.new w 111 #[.bool O,.slice I 0 0,.slice I 0 0];have hs1:=ZC w (L #[.bool O,.slice I 0 0,.slice I 0 0] 111);have W1:=W.mod' M1;have hr1:=hr.mod' M1;generalize hN:w.heap.size=N at *
  generalize w.alloc (L #[.bool O,.slice I 0 0,.slice I 0 0] 111)=w1 at *
  have M1':Vcg.Mod (·=D) w w1:=M1.mono (fun _ _ h=>h.elim)
  have bad:∀(w':T)(a b c:Value)(x:Int),Vcg.Mod (·=D) w w'->Blk w' N 111 #[a,b,c]->dcd (f+1) d n bs=JG x->x≠0->∀w'':T,Vcg.Mod (·=N) w' w''->R (Z (U #[.agg #[.bool O,.slice I 0 0,.slice I 0 0],.int J 0,.int J x])) w'':=by
   intro w' a b c x M X hx h0 w'' M';refine hR _ _ ⟨M.trans M' (fun i hi h=>by omega),?_⟩;rw[hx];exact⟨h0,_,_,_,_,_,_,_,_,rfl⟩
  refine⟨fun h0=>?_,fun h0=>?_⟩
  ·have hb:bs=[]:=JB (by omega)
   exact Z1Q X1 (bad w1 _ _ _ 41 M1' X1 (by rw[hb];exact ZB8 f d n) (by decide))
  have hbne:bs≠[]:=by rintro rfl;simp at h0
  by_cases hdn:d>16\/n=4096
  ·refine(ZEC W1 hdn).mono ?_
   rintro _ w1⟨rfl,rfl⟩;exact⟨_,rfl,fun _=>Z1Q X1 (bad _ _ _ _ 43 M1' X1 (Z6n hbne hdn) (by decide)),fun h=>absurd h (by decide)⟩
  refine(Z59 W1 (by omega) (by omega)).mono ?_;rintro _ w2⟨rfl,M2,W2⟩;have X2:=X1.mod M2 (by omega);have hr2:=hr1.mod M2 (hoff hbne);have M02:=M1'.trans M2 (fun i hi h=>h);have hs2:=M2.size;refine⟨_,rfl,fun h=>(h rfl).elim,fun _=>?_⟩;refine(ZBT hr2 hbne hk (by omega)).mono ?_;rintro _ w3⟨M3,b1,n1,n2,b2,b3,e0,rfl,hhd⟩;have X3:=X2.mod' M3;have W3:=W2.mod' M3;have hr3:=hr2.mod' M3;have M03:=M02.none_trans M3;have hs3:=M3.size;clear X1 X2 W1 W2 hr1 hr2 M1 M1' M02 M2 M3;refine⟨_,_,_,_,_,_,rfl,?_⟩;rintro d4 w4⟨rfl,rfl⟩;have H4:=Blk.new w3 237 #[.bool O,.int J 0,.int J 0,.bool O,.bool O];have X4:=X3.alloc (L #[.bool O,.int J 0,.int J 0,.bool O,.bool O] 237);have W4:=W3.alloc (L #[.bool O,.int J 0,.int J 0,.bool O,.bool O] 237);have M4:Vcg.Mod NoB w3 _:=Mod.alloc w3 (L #[.bool O,.int J 0,.int J 0,.bool O,.bool O] 237);have hr4:=hr3.mod' M4;have M04:=M03.none_trans M4;have hs4:=ZC w3 (L #[.bool O,.int J 0,.int J 0,.bool O,.bool O] 237);generalize hH:w3.heap.size=H at *
  generalize w3.alloc (L #[.bool O,.int J 0,.int J 0,.bool O,.bool O] 237)=w4 at *
  refine ZFe H4 rfl rfl rfl rfl rfl (fun w5 H5 Q5=>?_);have X5:=X4.mod Q5 (by omega);have W5:=W4.mod Q5 (by omega)
  have hr5:RdB w5 o bs:=hr4.mod Q5 (fun e he h=>by
   obtain⟨bb,ff,ho,hb,_⟩:=hr hbne;rw[ho]at he;cases he;simp only at h;omega)
  have M05:=M04.trans Q5 (fun i hi h=>by omega);have hs5:=Q5.size;clear X3 X4 W3 W4 hr3 hr4 M03 M04 M4 Q5 H4;have hdec:=ZDn (f:=f) hbne hdn;cases hh:hd bs with
  |error x =>
   rw[hh]at hhd hdec;obtain⟨rfl,hx0⟩:=hhd;exact⟨fun _=>Z1Q X5 (bad _ _ _ _ _ M05 X5 hdec hx0),fun h=>(hx0 h).elim⟩
  |ok r =>
   obtain⟨lst,a,q,ow⟩:=r;rw[hh]at hhd hdec;simp only at hdec;obtain⟨rfl,rfl,rfl,rfl,rfl⟩:=hhd;obtain⟨hat1,hat2⟩:=ZGS hh hbne
   have ha9:a<=bs.length:=by
    cases b2 with
    |true=>have:=(hat1 rfl).2.1;omega
    |false=>exact(hat2 rfl).2.1
   have hq31:=ZCB hh;refine⟨fun h=>(h rfl).elim,fun _=>⟨_,by rw[Z6];exact H5.rd1 rfl,_,by rw[Z6];exact H5.rd1 rfl,?_⟩⟩;have e1:G J ((bs.length:Int)-(a:Int))=((bs.length-a:Nat):Int):=by rw[Z0 (by omega) (by omega)];omega
   have e2:G J ((a:Int)+(q:Int))=((a+q:Nat):Int):=by rw[Z0 (by omega) (by omega)];omega
   rw[e1];refine⟨fun hbig=>?_,fun hbig=>?_⟩
   ·rw[if_pos (by omega)]at hdec
    exact Z1Q X5 (bad _ _ _ _ 41 M05 X5 hdec (by decide))
   rw[if_neg (by omega)]at hdec;refine⟨_,by rw[Z6];exact H5.rd1 rfl,_,by rw[Z6];exact H5.rd1 rfl,_,by rw[Z6];exact H5.rd1 rfl,?_⟩;rw[e2];simp only[J8];refine⟨⟨by omega,by omega⟩,⟨by omega,by omega⟩,_,by rw[Z6];exact H5.rd1 rfl,_,by rw[Z6];exact H5.rd1 rfl,_,H5.rd1 rfl,?_⟩;rw[e2];have hin:=ZEq (a:=a) (q:=q) hr5 hk;have hil:((bs.drop a).take q).length=q:=by rw[JH,J1];omega
   have hoffi:Off (fun b=>b=D\/N<=b) (subO o k a 1):=ZEL (fun e he h=>by
    rcases h with h|h
    ·exact hoff hbne e he h
    ·obtain⟨bb,ff,ho,hb,_⟩:=hr hbne
     rw[ho]at he;cases he;simp only at h;omega) k a
   rw[show a+q-a=((bs.drop a).take q).length by omega];generalize hI:(bs.drop a).take q=inn at *
   generalize subO o k a 1=oi at *
   have str:∀{w6:T},Vcg.Mod (·=D) w w6->RdB w6 oi inn->Blk w6 N 111 #[.bool O,.slice I 0 0,.slice I 0 0]->Blk w6 D 217 #[.int J ((n+1:Nat):Int)]->dcd (f+1) d n bs=.ok (.s inn,a+q,n+1) ->
     J0 Q 36 #[(.slice oi inn.length (k-a))] w6 (fun e85 w86=>∃o87:Option Addr,∃l88:Nat,∃l89:Nat,e85=Z (.slice o87 l88 l89)/\Blk w86 N 111 #[.bool O,.slice I 0 0,.slice I 0 0] /\
      ∀w':T,Vcg.Mod (·=N) w86 w'->R (Z (U #[(.agg #[(.bool O),(.slice o87 l88 l89),(.slice I 0 0)]),(.int J ((a+q:Nat):Int)),(.int J 0)])) w'):=by
    intro w6 M6 hin6 X6 W6 hd6;refine(Z1z hin6 (by omega)).mono ?_;rintro _ w7⟨o7,k7,rfl,F7⟩;refine⟨_,_,_,rfl,X6.mod' F7.mod,fun w8 M8=>hR _ _ ⟨(M6.none_trans F7.mod).trans M8 (fun i hi h=>by omega),?_⟩⟩;rw[hd6];have hNN:=X6.lt;have hN7:∀b,OB o7 b->¬b=N:=fun b hb h=>by have:=F7.new b hb;omega
    refine⟨((W6.mod' F7.mod).mod M8 (by omega)),_,_,_,rfl,?_⟩;simp only[ItC];refine⟨trivial,⟨o7,k7,rfl,(F7.own.mod M8 hN7).bytes,fun _ dd hdd h=>?_⟩,trivial⟩;have:=F7.new dd.block ⟨dd,hdd,rfl⟩;have:=M6.size;omega
   refine⟨fun hl=>⟨_,by rw[Z6];exact H5.rd1 rfl,fun how=>?_,fun how=>?_⟩,fun hl=>?_⟩
   ·refine(Z5X hin).mono ?_
    rintro _ w6⟨rfl,rfl⟩;rw[if_pos hl]at hdec;refine⟨_,rfl,fun ho=>?_,fun ho=>?_⟩
    ·rw[if_pos ⟨how,ho⟩]at hdec
     exact Z1Q X5 (bad _ _ _ _ 40 M05 X5 hdec (by decide))
    ·rw[if_neg (fun h=>by rw[ho]at h;exact absurd h.2 (by decide))]at hdec
     refine(str M05 hin X5 W5 hdec).mono ?_;rintro _ w7⟨o7,l7,k7,rfl,X7,h7⟩;exact⟨_,_,_,rfl,Z1Q X7 h7⟩
   ·rw[if_pos hl,if_neg (fun h=>by rw[how]at h;exact absurd h.1 (by decide))]at hdec
    refine(str M05 hin X5 W5 hdec).mono ?_;rintro _ w7⟨o7,l7,k7,rfl,X7,h7⟩;exact⟨_,_,_,rfl,Z1Q X7 h7⟩
   rw[if_neg (by rw[hl];decide)]at hdec
   have hof:b2=O:=by
    cases b2 with
    |true=>have:=(hat1 rfl).1;rw[hl]at this;cases this
    |false=>rfl
   have hinl:inn.length<bs.length:=by
    have:=(hat2 hof).1;omega
   rintro dX w6⟨rfl,rfl⟩;have Y6:=Blk.new w5 111 #[.bool O,.slice I 0 0,.slice I 0 0];have M56:Vcg.Mod NoB w5 _:=Mod.alloc w5 (L #[.bool O,.slice I 0 0,.slice I 0 0] 111);have X6:=X5.mod' M56;have W6:=W5.mod' M56;have hin6:=hin.mod' M56;have M06:=M05.none_trans M56;have hs6:=ZC w5 (L #[.bool O,.slice I 0 0,.slice I 0 0] 111);generalize hY:w5.heap.size=Y at *
   generalize w5.alloc (L #[.bool O,.slice I 0 0,.slice I 0 0] 111)=w6 at *
   refine Z8i Y6 rfl rfl rfl (fun w7 Y7 Q7=>?_);have X7:=X6.mod Q7 (by omega);have W7:=W6.mod Q7 (by omega)
   have hin7:RdB w7 oi inn:=by
    by_cases hie:inn=[]
    ·rw[hie];exact RdB.nil _ _
    ·obtain⟨bb,ff,ho,hb,_⟩:=hin hie
     refine hin6.mod Q7 (fun e he h=>?_);rw[ho]at he;cases he;simp only at h;omega
   have M07:=M06.trans Q7 (fun i hi h=>by omega);have hs7:=Q7.size;clear X6 W6 Y6 hin6 M06 M56 Q7 X5 W5 hin M05 H5 str
   refine⟨fun o' l' k' w'=>∃(rest:By)(n':Nat)(xs:List It)(f':Nat)(ol:Option Addr)(kl:Nat)(v:Value),
    l'=rest.length/\RdB w' o' rest/\Off (fun b=>b=D\/N<=b) o'/\rest.length<=k'/\rest.length<=inn.length/\xs.length+rest.length<=inn.length/\Blk w' D 217 #[.int J (n':Int)]/\n'<=4096 /\
    Blk w' Y 111 #[.bool JA,.slice I 0 0,.slice ol xs.length kl]/\(∃a b c,Blk w' N 111 #[a,b,c])/\Z3C (fun b=>b<w7.heap.size) w' xs ol xs.length kl/\(∀b,OB ol b->w7.heap.size<=b)/\Vcg.Mod (·=D) w w'/\w7.heap.size<=w'.heap.size /\
    Z7v f (d+1) (n+1) inn=pre xs (Z7v f' (d+1) n' rest)/\2*rest.length+2<=f'/\f'<=f,fun _ l' _ _=>l',?_,?_⟩
   ·exact⟨inn,n+1,[],f,I,0,.nilIface,rfl,hin7,hoffi,by omega,JC _,by simp,W7,by omega,by rw[hl]at *;exact Y7,⟨_,_,_,X7⟩,Z3C.nil _ _,fun b hb=>(Z3z b hb).elim,M07,JC _,(ZET _).symm,by omega,JC _⟩
   ·rintro o8 _ c8 _ w8⟨rest,n',xs,f',ol,kl,_,rfl,hr8,hoff8,hc8,hrl,hxr,W8,hn',Y8,⟨xa,xb,xc,X8⟩,I8,hnew,M08,hs8,hde,hf',hff⟩
    refine⟨fun hpos=>?_,fun hpos=>?_⟩
    ·have hrne:rest≠[]:=by rintro rfl;simp at hpos
     obtain⟨f2,rfl⟩:∃f2,f'=f2+1:=⟨f'-1,by omega⟩;rw[ZB9 hrne]at hde;have ed:G J ((d:Int)+1)=((d+1:Nat):Int):=by rw[Z0 (by omega) (by omega)];omega
     rw[ed];refine(Z7I f2 (d+1) n' rest (by omega) (by omega) hr8 hc8 W8 (fun _ e he h=>hoff8 e he (.inl h)) hn' (by omega)).mono ?_;rintro e w9⟨M9,hdi⟩;have hs9:=M9.size;have Y9:=Y8.mod M9 (by omega);have X9:=X8.mod M9 (by omega);have I9:=I8.modS M9 (fun b hb=>by omega) (fun b hb h=>by have:=hnew b hb;omega);have M09:=M08.trans M9 (fun i hi h=>h);have hr9:=hr8.mod M9 (fun e he h=>hoff8 e he (.inl h));cases hd1:dcd f2 (d+1) n' rest with
     |error x =>
      rw[hd1]at hdi hde;obtain⟨hx0,bb,p1,q1,r1,p2,q2,r2,m1,rfl⟩:=hdi;refine⟨_,_,_,_,_,_,_,_,_,rfl,?_⟩;rintro dA wA⟨rfl,rfl⟩;have HA:=Blk.new w9 111 #[.bool O,.slice I 0 0,.slice I 0 0];have XA:=X9.alloc (L #[.bool O,.slice I 0 0,.slice I 0 0] 111);have MA:=M09.step_alloc (L #[.bool O,.slice I 0 0,.slice I 0 0] 111);refine Z8i HA rfl rfl rfl (fun wB HB QB=>?_);have XB:=XA.mod QB (by omega);have MB:=MA.trans QB (fun i hi h=>by omega);exact⟨fun _=>Z1Q XB (bad _ _ _ _ _ MB XB (by rw[hdec,hde];rfl) hx0),fun h=>(hx0 h).elim⟩
     |ok r =>
      obtain⟨y,q',m'⟩:=r;rw[hd1]at hdi hde;simp only at hde;obtain⟨W9,v1,v2,v3,rfl,hy⟩:=hdi;obtain⟨k1,k2,k3,k4,k5,k6⟩:=(Z7C f2 (d+1) n' rest).1 _ _ _ hd1;obtain⟨bb,p1,q1,r1,p2,q2,r2,rfl,rfl,rfl⟩:=hy.vals;refine⟨_,_,_,_,_,_,_,_,_,rfl,?_⟩;rintro dA wA⟨rfl,rfl⟩;have HA:=Blk.new w9 111 #[.bool O,.slice I 0 0,.slice I 0 0];have M9A:Vcg.Mod NoB w9 _:=Mod.alloc w9 (L #[.bool O,.slice I 0 0,.slice I 0 0] 111);have hsA:=ZC w9 (L #[.bool O,.slice I 0 0,.slice I 0 0] 111);generalize hHA:w9.heap.size=HH at *
      generalize w9.alloc (L #[.bool O,.slice I 0 0,.slice I 0 0] 111)=wA at *
      refine Z8i HA rfl rfl rfl (fun wB HB QB=>?_);have M9B:Vcg.Mod NoB w9 wB:=ZK M9A QB (by omega);have XB:=X9.mod' M9B;have YB:=Y9.mod' M9B;have WB:=W9.mod' M9B;have hyB:=ItC.mod M9B _ hy;have hrB:=hr9.mod' M9B;have IB:=I9.mod' M9B;have MB:=M09.none_trans M9B;have hsB:=M9B.size;clear HA M9A QB X9 Y9 W9 hr9 I9 M09 hy;refine⟨fun h=>(h rfl).elim,fun _=>?_⟩;rintro _ rfl;have MBC:Vcg.Mod NoB wB wB.drew:=Mod.drew wB;have XC:=XB.mod' MBC;have YC:=YB.mod' MBC;have WC:=WB.mod' MBC;have HC:=HB.mod' MBC;have hyC:=ItC.mod MBC _ hyB;have hrC:=hrB.mod' MBC;have IC:=IB.mod' MBC;have MC:=MB.none_trans MBC;have hsC:=MBC.size;clear XB YB WB HB hyB hrB IB MB MBC;generalize wB.drew=wC at *
      refine⟨_,_,_,by rw[Z6];exact YC.rd1 rfl,Z7w HC ⟨⟨by omega,by omega⟩,?_⟩⟩;rintro dD wD⟨rfl,rfl⟩;have MD:Vcg.Mod NoB wC _:=Mod.alloc wC (L #[.bool bb,.slice p1 q1 r1,.slice p2 q2 r2] 111);have E:=Blk.new wC 111 #[.bool bb,.slice p1 q1 r1,.slice p2 q2 r2];have XD:=XC.mod' MD;have YD:=YC.mod' MD;have WD:=WC.mod' MD;have hyD:=ItC.mod MD _ hyC;have hrD:=hrC.mod' MD;have ID:=IC.mod' MD;have M0D:=MC.none_trans MD;have hsD:=MD.size;clear XC YC WC HC hyC hrC IC MC;generalize wC.heap.size=HE at *
      generalize wC.alloc (L #[.bool bb,.slice p1 q1 r1,.slice p2 q2 r2] 111)=wD at *
      refine⟨by rw[Z6];exact YD.rd1 rfl,?_⟩;have hlt8:=I8.lt
      obtain⟨o',k',wE,hrun,IE,QE,hOB⟩:=ID.push E (ItC.mono (fun b hb=>by
       rcases hb with h|h
       ·exact Nat.lt_of_lt_of_le h hs8
       ·exact hlt8 b h) _ hyD) (by omega)
      have nE:∀b,OB o' b->w7.heap.size<=b:=fun b hb=>by
       rcases hOB b hb with h|h
       ·exact hnew b h
       ·omega
      have XE:=XD.mod QE (fun h=>by have:=hnew _ h;omega);have YE:=YD.mod QE (fun h=>by have:=hnew _ h;omega);have WE:=WD.mod QE (fun h=>by have:=hnew _ h;omega);have hrE:RdB wE o8 rest:=hrD.mod QE (fun e he h=>hoff8 e he (.inr (by have:=hnew _ h;omega)));have M0E:=M0D.trans QE (fun i hi h=>by have:=hnew _ h;omega);have hsE:=QE.size;refine⟨_,wE,hrun,_,_,_,rfl,?_⟩;rw[Z6];refine⟨YE.canSet (by simp) rfl,?_⟩;rintro _ rfl;have QF:Vcg.Mod (·=Y) wE _:=Mod.setCell wE ⟨Y,0+2,I⟩ (.slice o' (xs.length+1) k');have YF:=YE.set 2 (.slice o' (xs.length+1) k');have IF:=IE.modS QF (fun b hb=>by omega) (fun b hb h=>by have:=nE b hb;omega);have XF:=XE.mod QF (by omega);have WF:=WE.mod QF (by omega);have hrF:RdB _ o8 rest:=hrE.mod QF (fun e he h=>hoff8 e he (.inr (by omega)));have M0F:=M0E.trans QF (fun i hi h=>by omega);have hsF:=QF.size;rw[J8];refine⟨⟨rest.drop q',m',xs++[y],f2,o',k',.nilIface,by rw[J1],Z5l hrF hc8,ZEL hoff8 _ _,by rw[J1];omega,by rw[J1];omega,by rw[J7,J1,J9];omega,WF,by omega,by rw[J7,J9];exact YF,⟨_,_,_,XF⟩,by rw[J7,J9];exact IF,nE,M0F,by omega,?_,by rw[J1];omega,by omega⟩,by dsimp only;omega⟩;rw[hde,<-ZEU];congr 1
    ·obtain rfl:rest=[]:=JB (by omega)
     obtain⟨f2,rfl⟩:∃f2,f'=f2+1:=⟨f'-1,by omega⟩;rw[Z8y]at hde;have hits:=I8.its (fun b hb h=>by have:=hnew b h;omega);refine Z7w Y8 (Z1Q X8 (fun w9 M9=>hR _ _ ⟨M08.trans M9 (fun i hi h=>by omega),?_⟩));rw[hdec,hde];simp only[pre,List.append_nil];refine⟨W8.mod M9 (by omega),_,_,_,rfl,?_⟩;simp only[ItC];exact⟨trivial,trivial,ol,kl,rfl,Z1X.mono (fun b hb=>by omega) _ (Z1X.modA M9 (fun b hb=>by omega) _ hits),I8.cap⟩
def Z3B(bs:By)(w:T)(e:JD)(w':T):Prop :=
 if bs.length>65536 then ∃b o1 l1 k1 o2 l2 k2 n1,e=Z (U #[.agg #[.bool b,.slice o1 l1 k1,.slice o2 l2 k2],.int J n1,.int J 44])
 else match dcd (2*bs.length+1) 1 0 bs with
 | JG x=>x≠0/\∃b o1 l1 k1 o2 l2 k2 n1,e=Z (U #[.agg #[.bool b,.slice o1 l1 k1,.slice o2 l2 k2],.int J n1,.int J x])
 | .ok (x,q,_)=>∃v1 v2 v3,e=Z (U #[.agg #[v1,v2,v3],.int J (q:Int),.int J 0])/\ItC (fun b=>b<w.heap.size) w' x v1 v2 v3
def Z2E(bs:By)(w:T)(e:JD)(w':T):Prop:=match Z4U bs with
 | JG x=>x≠0/\∃b o1 l1 k1 o2 l2 k2,e=Z (U #[.agg #[.bool b,.slice o1 l1 k1,.slice o2 l2 k2],.int J x])
 | .ok x=>∃v1 v2 v3,e=Z (U #[.agg #[v1,v2,v3],.int J 0])/\ItC (fun b=>b<w.heap.size) w' x v1 v2 v3
theorem ZAr{w:T}{o:Option Addr}{k:Nat}{bs:By}(hr:RdB w o bs)(hk:bs.length<=k) :
  J0 Q Z3T.n #[.slice o bs.length k] w (fun e w'=>Vcg.Mod NoB w w'/\Z3B bs w e w'):=by
 refine ZG fun R hR=>Z3T.vc _ _ _ _ _ ?_;unfold Z3T.Vc;rintro d1 w1⟨rfl,rfl⟩;have M1:Vcg.Mod NoB w _:=Mod.alloc w (L #[.bool O,.slice I 0 0,.slice I 0 0] 111);have X1:=Blk.new w 111 #[.bool O,.slice I 0 0,.slice I 0 0];have hs1:=ZC w (L #[.bool O,.slice I 0 0,.slice I 0 0] 111);have hr1:=hr.mod' M1;generalize hN:w.heap.size=N at *
 generalize w.alloc (L #[.bool O,.slice I 0 0,.slice I 0 0] 111)=w1 at *
 refine⟨fun hbig=>?_,fun hbig=>?_⟩
 ·refine Z1Q X1 (fun w2 M2=>hR _ _ ⟨ZK M1 M2 (by omega),?_⟩)
  unfold Z3B;rw[if_pos (by omega)];exact⟨_,_,_,_,_,_,_,_,rfl⟩
 ·rintro d2 w2⟨rfl,rfl⟩
  have M12:Vcg.Mod NoB w1 _:=Mod.alloc w1 (L #[.int J 0] 217);have W2:=Blk.new w1 217 #[.int J ((0:Nat):Int)];have X2:=X1.mod' M12;have hr2:=hr1.mod' M12;have M2:=M1.none_trans M12;have hs2:=ZC w1 (L #[.int J 0] 217)
  have hoff:bs≠[]->Off (·=w1.heap.size) o:=fun hne e he h=>by
   obtain⟨b,f,ho,hb,_⟩:=hr hne;rw[ho]at he;cases he;simp only at h;omega
  have hc:=Z7I (2*bs.length+1) 1 0 bs (k:=k) (JC _) (by omega) hr2 hk W2 hoff (by omega) (by omega);refine Calls.mono (R:=fun e w'=>Vcg.Mod (·=w1.heap.size) (w1.alloc (L #[.int J 0] 217)) w'/\ZGy (dcd (2*bs.length+1) 1 0 bs) (w1.alloc (L #[.int J 0] 217)) w1.heap.size e w') hc ?_;rintro e w3⟨M3,hd⟩;have M03:Vcg.Mod NoB w w3:=ZK M2 M3 (by omega);have X3:=X2.mod M3 (by omega);cases hdc:dcd (2*bs.length+1) 1 0 bs with
  |error x =>
   rw[hdc]at hd;obtain⟨hx,b,p1,q1,r1,p2,q2,r2,n1,rfl⟩:=hd;refine⟨_,_,_,_,_,_,_,_,_,rfl,Z1Q X3 (fun w4 M4=>hR _ _ ⟨ZK M03 M4 (by omega),?_⟩)⟩;unfold Z3B;rw[if_neg (by omega),hdc];exact⟨hx,_,_,_,_,_,_,_,_,rfl⟩
  |ok r =>
   obtain⟨y,q,m⟩:=r;rw[hdc]at hd;obtain⟨W3,v1,v2,v3,rfl,hy⟩:=hd;obtain⟨bb,p1,q1,r1,p2,q2,r2,rfl,rfl,rfl⟩:=hy.vals;refine⟨_,_,_,_,_,_,_,_,_,rfl,Z1Q X3 (fun w4 M4=>hR _ _ ⟨ZK M03 M4 (by omega),?_⟩)⟩;unfold Z3B;rw[if_neg (by omega),hdc];refine⟨_,_,_,rfl,ItC.mono (fun b hb=>?_) _ (ItC.modA M4 (fun b hb=>?_) _ hy)⟩
   ·have:b<w.heap.size:=hb
    omega
   ·show b<_
    rw[hs2];omega
theorem Z6H{w:T}{o:Option Addr}{k:Nat}{bs:By}(hr:RdB w o bs)(hk:bs.length<=k) :
  J0 Q Z2e.n #[.slice o bs.length k] w (fun e w'=>Vcg.Mod NoB w w'/\Z2E bs w e w'):=by
 refine ZG fun R hR=>Z2e.vc _ _ _ _ _ ?_;unfold Z2e.Vc;rintro d1 w1⟨rfl,rfl⟩;have M1:Vcg.Mod NoB w _:=Mod.alloc w (L #[.bool O,.slice I 0 0,.slice I 0 0] 111);have X1:=Blk.new w 111 #[.bool O,.slice I 0 0,.slice I 0 0];have hs1:=ZC w (L #[.bool O,.slice I 0 0,.slice I 0 0] 111);have hr1:=hr.mod' M1;generalize hN:w.heap.size=N at *
 generalize w.alloc (L #[.bool O,.slice I 0 0,.slice I 0 0] 111)=w1 at *
 refine(ZAr hr1 hk).mono ?_;rintro e w2⟨M2,hf⟩;have M02:=M1.none_trans M2;have X2:=X1.mod' M2;have hs2:=M2.size
 have bad:∀(w':T)(x:Int),Z4U bs=JG x->x≠0->Vcg.Mod NoB w w'->Blk w' N 111 #[.bool O,.slice I 0 0,.slice I 0 0]->∀w'':T,Vcg.Mod (·=N) w' w''->R (Z (U #[.agg #[.bool O,.slice I 0 0,.slice I 0 0],.int J x])) w'':=by
  intro w' x hx h0 M X w'' M';refine hR _ _ ⟨ZK M M' (by omega),?_⟩;unfold Z2E;rw[hx];exact⟨h0,_,_,_,_,_,_,_,rfl⟩
 have key:(∃b p1 q1 r1 p2 q2 r2 n1 x,e=Z (U #[.agg #[.bool b,.slice p1 q1 r1,.slice p2 q2 r2],.int J n1,.int J x])/\x≠0/\Z4U bs=JG x) \/
   (∃y q m v1 v2 v3,¬bs.length>65536/\dcd (2*bs.length+1) 1 0 bs=.ok (y,q,m)/\e=Z (U #[.agg #[v1,v2,v3],.int J (q:Int),.int J 0])/\ItC (fun b=>b<w1.heap.size) w2 y v1 v2 v3):=by
  unfold Z3B at hf;split at hf
  ·rename_i hbig
   obtain⟨b,p1,q1,r1,p2,q2,r2,n1,he⟩:=hf;exact .inl ⟨_,_,_,_,_,_,_,_,_,he,by decide,by unfold Z4U;rw[if_pos hbig]⟩
  ·rename_i hbig
   split at hf
   ·rename_i x hdc
    obtain⟨hx,b,p1,q1,r1,p2,q2,r2,n1,he⟩:=hf;exact .inl ⟨_,_,_,_,_,_,_,_,_,he,hx,by unfold Z4U;rw[if_neg hbig,hdc]⟩
   ·rename_i y q m hdc
    obtain⟨v1,v2,v3,he,hy⟩:=hf;exact .inr ⟨_,_,_,_,_,_,hbig,hdc,he,hy⟩
 rcases key with⟨b,p1,q1,r1,p2,q2,r2,n1,x,rfl,hx,hdc⟩|⟨y,q,m,v1,v2,v3,hbig,hdc,rfl,hy⟩
 ·refine⟨_,_,_,_,_,_,_,_,_,rfl,?_⟩
  rintro d3 w3⟨rfl,rfl⟩;have H:=Blk.new w2 111 #[.bool O,.slice I 0 0,.slice I 0 0];have M23:Vcg.Mod NoB w2 _:=Mod.alloc w2 (L #[.bool O,.slice I 0 0,.slice I 0 0] 111);refine Z8i H rfl rfl rfl (fun w4 H4 Q4=>?_);have M24:Vcg.Mod NoB w2 w4:=ZK M23 Q4 (JC _);exact⟨fun _=>Z1Q (X2.mod' M24) (bad w4 x hdc hx (M02.none_trans M24) (X2.mod' M24)),fun h=>(hx h).elim⟩
 ·obtain⟨bb,p1,q1,r1,p2,q2,r2,rfl,rfl,rfl⟩:=hy.vals
  refine⟨_,_,_,_,_,_,_,_,_,rfl,?_⟩;rintro d3 w3⟨rfl,rfl⟩;have H:=Blk.new w2 111 #[.bool O,.slice I 0 0,.slice I 0 0];have M23:Vcg.Mod NoB w2 _:=Mod.alloc w2 (L #[.bool O,.slice I 0 0,.slice I 0 0] 111);refine Z8i H rfl rfl rfl (fun w4 H4 Q4=>?_);have M24:Vcg.Mod NoB w2 w4:=ZK M23 Q4 (JC _);have X4:=X2.mod' M24;have hy4:=ItC.mod M24 _ hy;refine⟨fun h=>(h rfl).elim,fun _=>⟨fun hlt=>?_,fun hlt=>?_⟩⟩
  ·refine Z1Q X4 (bad w4 42 ?_ (by decide) (M02.none_trans M24) X4)
   unfold Z4U;rw[if_neg hbig,hdc];simp only;rw[if_pos (by omega)]
  ·refine Z7w H4 (Z1Q X4 (fun w5 M5=>hR _ _ ⟨ZK (M02.none_trans M24) M5 (by omega),?_⟩))
   have hd:Z4U bs=.ok y:=by
    unfold Z4U;rw[if_neg hbig,hdc];simp only;rw[if_neg (by omega)]
   unfold Z2E;rw[hd];refine⟨_,_,_,rfl,ItC.mono (fun b hb=>?_) _ (ItC.modA M5 (fun b hb=>?_) _ hy4)⟩
   ·have:b<w.heap.size:=hb
    show b<w1.heap.size;omega
   ·show b<w1.heap.size
    omega
end Go.Proofs.YtfghidehlnfdiaaGreat
end
section
namespace Go.Proofs.YtfghidehlnfdiaaGreat
open Go Go.Vcg
abbrev Z0J.n:Nat:=60
def Z0J.Vc(a:Option Addr)(b c:Nat)(w:T)(R:JD->T->Prop):Prop :=
 ∀d e,ZB w 111 #[.bool O,.slice I 0 0,.slice I 0 0] d e ->
 J0 Q 94 #[.slice a b c] e (fun a c =>
 ∃e f g h i j k l m,a=Z (U #[.agg #[.bool e,.slice f g h,.slice i j k],.int J l,.int J m]) /\
 ∀a n,ZB c 111 #[.bool O,.slice I 0 0,.slice I 0 0] a n ->
 Z1 n a (.bool e)/\∀c,Z8 n a (.bool e) c ->
 Z1 c (a.add 1) (.slice f g h)/\∀e,Z8 c (a.add 1) (.slice f g h) e ->
 Z1 e (a.add 2) (.slice i j k)/\∀c,Z8 e (a.add 2) (.slice i j k) c ->
 ((m=0 ->
 ((l<(b:Int) ->
 Z1 c d (.bool O)/\∀e,Z8 c d (.bool O) e ->
 Z1 e (d.add 1) (.slice I 0 0)/\∀f,Z8 e (d.add 1) (.slice I 0 0) f ->
 Z1 f (d.add 2) (.slice I 0 0)/\∀e,Z8 f (d.add 2) (.slice I 0 0) e ->
 ∃f g h i j k n,e.cell? d=V (.bool f) /\
 e.cell? (d.add 1)=V (.slice g h i) /\
 e.cell? (d.add 2)=V (.slice j k n) /\
 R (Z (U #[.agg #[.bool f,.slice g h i,.slice j k n],.int J 42])) e) /\
 (¬l<(b:Int) ->
 ((m≠0 ->
 Z1 c d (.bool O)/\∀b,Z8 c d (.bool O) b ->
 Z1 b (d.add 1) (.slice I 0 0)/\∀e,Z8 b (d.add 1) (.slice I 0 0) e ->
 Z1 e (d.add 2) (.slice I 0 0)/\∀b,Z8 e (d.add 2) (.slice I 0 0) b ->
 ∃e f g h i j k,b.cell? d=V (.bool e) /\
 b.cell? (d.add 1)=V (.slice f g h) /\
 b.cell? (d.add 2)=V (.slice i j k) /\
 R (Z (U #[.agg #[.bool e,.slice f g h,.slice i j k],.int J m])) b) /\
 (m=0 ->
 ∃b e f g h i j,c.cell? a=V (.bool b) /\
 c.cell? (a.add 1)=V (.slice e f g) /\
 c.cell? (a.add 2)=V (.slice h i j) /\
 Z1 c d (.bool b)/\∀k,Z8 c d (.bool b) k ->
 Z1 k (d.add 1) (.slice e f g)/\∀b,Z8 k (d.add 1) (.slice e f g) b ->
 Z1 b (d.add 2) (.slice h i j)/\∀e,Z8 b (d.add 2) (.slice h i j) e ->
 ∃b f g h i j k,e.cell? d=V (.bool b) /\
 e.cell? (d.add 1)=V (.slice f g h) /\
 e.cell? (d.add 2)=V (.slice i j k) /\
 R (Z (U #[.agg #[.bool b,.slice f g h,.slice i j k],.int J 0])) e))))) /\
 (m≠0 ->
 ((m≠0 ->
 Z1 c d (.bool O)/\∀b,Z8 c d (.bool O) b ->
 Z1 b (d.add 1) (.slice I 0 0)/\∀e,Z8 b (d.add 1) (.slice I 0 0) e ->
 Z1 e (d.add 2) (.slice I 0 0)/\∀b,Z8 e (d.add 2) (.slice I 0 0) b ->
 ∃e f g h i j k,b.cell? d=V (.bool e) /\
 b.cell? (d.add 1)=V (.slice f g h) /\
 b.cell? (d.add 2)=V (.slice i j k) /\
 R (Z (U #[.agg #[.bool e,.slice f g h,.slice i j k],.int J m])) b) /\
 (m=0 ->
 ∃b e f g h i j,c.cell? a=V (.bool b) /\
 c.cell? (a.add 1)=V (.slice e f g) /\
 c.cell? (a.add 2)=V (.slice h i j) /\
 Z1 c d (.bool b)/\∀a,Z8 c d (.bool b) a ->
 Z1 a (d.add 1) (.slice e f g)/\∀b,Z8 a (d.add 1) (.slice e f g) b ->
 Z1 b (d.add 2) (.slice h i j)/\∀a,Z8 b (d.add 2) (.slice h i j) a ->
 ∃b c e f g h i,a.cell? d=V (.bool b) /\
 a.cell? (d.add 1)=V (.slice c e f) /\
 a.cell? (d.add 2)=V (.slice g h i) /\
 R (Z (U #[.agg #[.bool b,.slice c e f,.slice g h i],.int J 0])) a)))))
theorem Z0J.vc(a b c w R)(h:Z0J.Vc a b c w R):J0 Q 60 #[(.slice a b c)] w R:=xs [] [.slice a b c] Tryz.func60 ZO (by kernel_rfl) h
abbrev Z0X.n:Nat:=94
def Z0X.Vc(a:Option Addr)(b c:Nat)(w:T)(R:JD->T->Prop):Prop :=
 ∀d e,ZB w 111 #[.bool O,.slice I 0 0,.slice I 0 0] d e ->
 (((b:Int)>65536 ->
 Z1 e d (.bool O)/\∀f,Z8 e d (.bool O) f ->
 Z1 f (d.add 1) (.slice I 0 0)/\∀g,Z8 f (d.add 1) (.slice I 0 0) g ->
 Z1 g (d.add 2) (.slice I 0 0)/\∀f,Z8 g (d.add 2) (.slice I 0 0) f ->
 ∃g h i j k l m,f.cell? d=V (.bool g) /\
 f.cell? (d.add 1)=V (.slice h i j) /\
 f.cell? (d.add 2)=V (.slice k l m) /\
 R (Z (U #[.agg #[.bool g,.slice h i j,.slice k l m],.int J 0,.int J 44])) f) /\
 (¬(b:Int)>65536 ->
 ∀f g,ZB e 187 #[.slice a b c,.int J 0,.int J 0] f g ->
 J0 Q 117 #[C (V f),.int J 0,.int J (b:Int),.int J 1] g (fun a b =>
 ∃c e g h i j k l,a=Z (U #[.agg #[.bool c,.slice e g h,.slice i j k],.int J l]) /\
 ∀a m,ZB b 111 #[.bool O,.slice I 0 0,.slice I 0 0] a m ->
 Z1 m a (.bool c)/\∀b,Z8 m a (.bool c) b ->
 Z1 b (a.add 1) (.slice e g h)/\∀c,Z8 b (a.add 1) (.slice e g h) c ->
 Z1 c (a.add 2) (.slice i j k)/\∀b,Z8 c (a.add 2) (.slice i j k) b ->
 ∃c,b.cell? (f.add 2)=V (.int J c) /\
 ((c≠0 ->
 ∀e,ZL b e ->
 ∃g,e.cell? (f.add 2)=V (.int J g) /\
 Z1 e d (.bool O)/\∀h,Z8 e d (.bool O) h ->
 Z1 h (d.add 1) (.slice I 0 0)/\∀e,Z8 h (d.add 1) (.slice I 0 0) e ->
 Z1 e (d.add 2) (.slice I 0 0)/\∀h,Z8 e (d.add 2) (.slice I 0 0) h ->
 h.cell? (f.add 2)=V (.int J g) /\
 ∃e f i j k m n,h.cell? d=V (.bool e) /\
 h.cell? (d.add 1)=V (.slice f i j) /\
 h.cell? (d.add 2)=V (.slice k m n) /\
 R (Z (U #[.agg #[.bool e,.slice f i j,.slice k m n],.int J 0,.int J g])) h) /\
 (c=0 ->
 ∃c e f g h i j,b.cell? a=V (.bool c) /\
 b.cell? (a.add 1)=V (.slice e f g) /\
 b.cell? (a.add 2)=V (.slice h i j) /\
 Z1 b d (.bool c)/\∀a,Z8 b d (.bool c) a ->
 Z1 a (d.add 1) (.slice e f g)/\∀b,Z8 a (d.add 1) (.slice e f g) b ->
 Z1 b (d.add 2) (.slice h i j)/\∀a,Z8 b (d.add 2) (.slice h i j) a ->
 ∃b c e f g h i,a.cell? d=V (.bool b) /\
 a.cell? (d.add 1)=V (.slice c e f) /\
 a.cell? (d.add 2)=V (.slice g h i) /\
 R (Z (U #[.agg #[.bool b,.slice c e f,.slice g h i],.int J l,.int J 0])) a)))))
theorem Z0X.vc(a b c w R)(h:Z0X.Vc a b c w R):J0 Q 94 #[(.slice a b c)] w R:=xs [] [.slice a b c] Tryz.func94 ZO (by kernel_rfl) h
abbrev Zg.n:Nat:=117
def Zg.Vc(a:Addr)(b c d:Int)(w:T)(R:JD->T->Prop):Prop :=
 ∀e f,ZB w 111 #[.bool O,.slice I 0 0,.slice I 0 0] e f ->
 ((b>=c ->
 J0 Q 133 #[C (V a),.int J 41] f (fun g h =>
 ∃i j k l m n o p,g=Z (U #[.agg #[.bool i,.slice j k l,.slice m n o],.int J p]) /\
 Z1 h e (.bool i)/\∀g,Z8 h e (.bool i) g ->
 Z1 g (e.add 1) (.slice j k l)/\∀h,Z8 g (e.add 1) (.slice j k l) h ->
 Z1 h (e.add 2) (.slice m n o)/\∀g,Z8 h (e.add 2) (.slice m n o) g ->
 ∃h i j k l m n,g.cell? e=V (.bool h) /\
 g.cell? (e.add 1)=V (.slice i j k) /\
 g.cell? (e.add 2)=V (.slice l m n) /\
 R (Z (U #[.agg #[.bool h,.slice i j k,.slice l m n],.int J p])) g)) /\
 (¬b>=c ->
 ((d>16 ->
 J0 Q 133 #[C (V a),.int J 43] f (fun g h =>
 ∃i j k l m n o p,g=Z (U #[.agg #[.bool i,.slice j k l,.slice m n o],.int J p]) /\
 Z1 h e (.bool i)/\∀g,Z8 h e (.bool i) g ->
 Z1 g (e.add 1) (.slice j k l)/\∀h,Z8 g (e.add 1) (.slice j k l) h ->
 Z1 h (e.add 2) (.slice m n o)/\∀g,Z8 h (e.add 2) (.slice m n o) g ->
 ∃h i j k l m n,g.cell? e=V (.bool h) /\
 g.cell? (e.add 1)=V (.slice i j k) /\
 g.cell? (e.add 2)=V (.slice l m n) /\
 R (Z (U #[.agg #[.bool h,.slice i j k,.slice l m n],.int J p])) g)) /\
 (¬d>16 ->
 ∃g,f.cell? (a.add 1)=V (.int J g) /\
 ((g=4096 ->
 J0 Q 133 #[C (V a),.int J 43] f (fun h i =>
 ∃j k l m n o p q,h=Z (U #[.agg #[.bool j,.slice k l m,.slice n o p],.int J q]) /\
 Z1 i e (.bool j)/\∀h,Z8 i e (.bool j) h ->
 Z1 h (e.add 1) (.slice k l m)/\∀i,Z8 h (e.add 1) (.slice k l m) i ->
 Z1 i (e.add 2) (.slice n o p)/\∀h,Z8 i (e.add 2) (.slice n o p) h ->
 ∃i j k l m n o,h.cell? e=V (.bool i) /\
 h.cell? (e.add 1)=V (.slice j k l) /\
 h.cell? (e.add 2)=V (.slice m n o) /\
 R (Z (U #[.agg #[.bool i,.slice j k l,.slice m n o],.int J q])) h)) /\
 (g≠4096 ->
 ∃g,f.cell? (a.add 1)=V (.int J g) /\
 Z1 f (a.add 1) (.int J (G J (g+1)))/\∀h,Z8 f (a.add 1) (.int J (G J (g+1))) h ->
 ∃f g i,h.cell? a=V (.slice f g i) /\
 ∃i,f=V i /\
 ((0:Int)<=b/\b<(g:Int)) /\
 ∃f,h.cell? (i.add b.toNat)=V (.int .u8 f) /\
 (((G J f)<128 ->
 ∀g i,ZB h 5 #[.int .u8 (G .u8 (G J f))] g i ->
 Z1 i e (.bool O)/\∀j,Z8 i e (.bool O) j ->
 Z1 j (e.add 1) (.slice (V g) 1 1)/\∀i,Z8 j (e.add 1) (.slice (V g) 1 1) i ->
 Z1 i (e.add 2) (.slice I 0 0)/\∀g,Z8 i (e.add 2) (.slice I 0 0) g ->
 ∃i j k l m n o,g.cell? e=V (.bool i) /\
 g.cell? (e.add 1)=V (.slice j k l) /\
 g.cell? (e.add 2)=V (.slice m n o) /\
 R (Z (U #[.agg #[.bool i,.slice j k l,.slice m n o],.int J (G J (b+1))])) g) /\
 (¬(G J f)<128 ->
 ∃(g:Int->T->Prop),(((G J f)>=192 ->
 g 192 h) /\
 (¬(G J f)>=192 ->
 g 128 h)) /\
 (∀(h:Int)(i:Nat->Value)(i:T),g h i ->
 ∃(g:Int->Int->T->Prop),(((G J ((G J f)-h))>55 ->
 (((G J ((G J (b+1))+(G J ((G J ((G J f)-h))-55))))>c ->
 J0 Q 133 #[C (V a),.int J 41] i (fun j k =>
 ∃l m n o p q r s,j=Z (U #[.agg #[.bool l,.slice m n o,.slice p q r],.int J s]) /\
 Z1 k e (.bool l)/\∀j,Z8 k e (.bool l) j ->
 Z1 j (e.add 1) (.slice m n o)/\∀k,Z8 j (e.add 1) (.slice m n o) k ->
 Z1 k (e.add 2) (.slice p q r)/\∀j,Z8 k (e.add 2) (.slice p q r) j ->
 ∃k l m n o p q,j.cell? e=V (.bool k) /\
 j.cell? (e.add 1)=V (.slice l m n) /\
 j.cell? (e.add 2)=V (.slice o p q) /\
 R (Z (U #[.agg #[.bool k,.slice l m n,.slice o p q],.int J s])) j)) /\
 (¬(G J ((G J (b+1))+(G J ((G J ((G J f)-h))-55))))>c ->
 ∃(j:Int->Int->T->Prop)(k:Int->Int->T->Nat),j 0 0 i /\
 (∀(l:Int)(m:Int)(n:Nat->Value)(n:T),j l m n ->
 ((m<(G J ((G J ((G J f)-h))-55)) ->
 ∃(o:Bool->T->Prop),((m<8 ->
 o (decide (l<=2147483648)) n) /\
 (¬m<8 ->
 o O n)) /\
 (∀(p:Bool)(q:Nat->Value)(q:T),o p q ->
 ((p=JA ->
 ∃o r s,q.cell? a=V (.slice o r s) /\
 ∃s,o=V s /\
 ((0:Int)<=(G J ((G J (b+1))+m))/\(G J ((G J (b+1))+m))<(r:Int)) /\
 ∃o,q.cell? (s.add (J3 (G J ((G J (b+1))+m))))=V (.int .u8 o) /\
 j (G J ((G J (256*l))+(G J o))) (G J (m+1)) q/\k (G J ((G J (256*l))+(G J o))) (G J (m+1)) q<k l m n) /\
 (p=O ->
 j l (G J (m+1)) q/\k l (G J (m+1)) q<k l m n)))) /\
 (¬m<(G J ((G J ((G J f)-h))-55)) ->
 ∃j k m,n.cell? a=V (.slice j k m) /\
 ∃m,j=V m /\
 ((0:Int)<=(G J (b+1))/\(G J (b+1))<(k:Int)) /\
 ∃j,n.cell? (m.add (J3 (G J (b+1))))=V (.int .u8 j) /\
 ((j=0 ->
 J0 Q 133 #[C (V a),.int J 40] n (fun k m =>
 ∃o p q r s t u v,k=Z (U #[.agg #[.bool o,.slice p q r,.slice s t u],.int J v]) /\
 Z1 m e (.bool o)/\∀k,Z8 m e (.bool o) k ->
 Z1 k (e.add 1) (.slice p q r)/\∀m,Z8 k (e.add 1) (.slice p q r) m ->
 Z1 m (e.add 2) (.slice s t u)/\∀k,Z8 m (e.add 2) (.slice s t u) k ->
 ∃m o p q r s t,k.cell? e=V (.bool m) /\
 k.cell? (e.add 1)=V (.slice o p q) /\
 k.cell? (e.add 2)=V (.slice r s t) /\
 R (Z (U #[.agg #[.bool m,.slice o p q,.slice r s t],.int J v])) k)) /\
 (j≠0 ->
 ((l<56 ->
 J0 Q 133 #[C (V a),.int J 40] n (fun j k =>
 ∃m o p q r s t u,j=Z (U #[.agg #[.bool m,.slice o p q,.slice r s t],.int J u]) /\
 Z1 k e (.bool m)/\∀j,Z8 k e (.bool m) j ->
 Z1 j (e.add 1) (.slice o p q)/\∀k,Z8 j (e.add 1) (.slice o p q) k ->
 Z1 k (e.add 2) (.slice r s t)/\∀j,Z8 k (e.add 2) (.slice r s t) j ->
 ∃k m o p q r s,j.cell? e=V (.bool k) /\
 j.cell? (e.add 1)=V (.slice m o p) /\
 j.cell? (e.add 2)=V (.slice q r s) /\
 R (Z (U #[.agg #[.bool k,.slice m o p,.slice q r s],.int J u])) j)) /\
 (¬l<56 ->
 ((l>2147483648 ->
 J0 Q 133 #[C (V a),.int J 40] n (fun j k =>
 ∃m o p q r s t u,j=Z (U #[.agg #[.bool m,.slice o p q,.slice r s t],.int J u]) /\
 Z1 k e (.bool m)/\∀j,Z8 k e (.bool m) j ->
 Z1 j (e.add 1) (.slice o p q)/\∀k,Z8 j (e.add 1) (.slice o p q) k ->
 Z1 k (e.add 2) (.slice r s t)/\∀j,Z8 k (e.add 2) (.slice r s t) j ->
 ∃k m o p q r s,j.cell? e=V (.bool k) /\
 j.cell? (e.add 1)=V (.slice m o p) /\
 j.cell? (e.add 2)=V (.slice q r s) /\
 R (Z (U #[.agg #[.bool k,.slice m o p,.slice q r s],.int J u])) j)) /\
 (¬l>2147483648 ->
 g l (G J ((G J (b+1))+(G J ((G J ((G J f)-h))-55)))) n)))))))))))) /\
 (¬(G J ((G J f)-h))>55 ->
 g (G J ((G J f)-h)) (G J (b+1)) i)) /\
 (∀(b:Int)(f:Int)(i:Nat->Value)(i:T),g b f i ->
 ((b>(G J (c-f)) ->
 J0 Q 133 #[C (V a),.int J 41] i (fun g j =>
 ∃k l m n o p q r,g=Z (U #[.agg #[.bool k,.slice l m n,.slice o p q],.int J r]) /\
 Z1 j e (.bool k)/\∀g,Z8 j e (.bool k) g ->
 Z1 g (e.add 1) (.slice l m n)/\∀j,Z8 g (e.add 1) (.slice l m n) j ->
 Z1 j (e.add 2) (.slice o p q)/\∀g,Z8 j (e.add 2) (.slice o p q) g ->
 ∃j k l m n o p,g.cell? e=V (.bool j) /\
 g.cell? (e.add 1)=V (.slice k l m) /\
 g.cell? (e.add 2)=V (.slice n o p) /\
 R (Z (U #[.agg #[.bool j,.slice k l m,.slice n o p],.int J r])) g)) /\
 (¬b>(G J (c-f)) ->
 ((h=128 ->
 ∃(c:T->Prop),((b=1 ->
 ∃g j k,i.cell? a=V (.slice g j k) /\
 ∃k,g=V k /\
 ((0:Int)<=f/\f<(j:Int)) /\
 ∃g,i.cell? (k.add f.toNat)=V (.int .u8 g) /\
 ((g<128 ->
 J0 Q 133 #[C (V a),.int J 40] i (fun j k =>
 ∃l m n o p q r s,j=Z (U #[.agg #[.bool l,.slice m n o,.slice p q r],.int J s]) /\
 Z1 k e (.bool l)/\∀j,Z8 k e (.bool l) j ->
 Z1 j (e.add 1) (.slice m n o)/\∀k,Z8 j (e.add 1) (.slice m n o) k ->
 Z1 k (e.add 2) (.slice p q r)/\∀j,Z8 k (e.add 2) (.slice p q r) j ->
 ∃k l m n o p q,j.cell? e=V (.bool k) /\
 j.cell? (e.add 1)=V (.slice l m n) /\
 j.cell? (e.add 2)=V (.slice o p q) /\
 R (Z (U #[.agg #[.bool k,.slice l m n,.slice o p q],.int J s])) j)) /\
 (¬g<128 ->
 c  i))) /\
 (b≠1 ->
 c  i)) /\
 (∀  (g:Nat->Value)(g:T),c  g ->
 ∃c j k,g.cell? a=V (.slice c j k) /\
 ((0:Int)<=(G J (f+b))/\(G J (f+b))<=(k:Int)) /\
 ((0:Int)<=f/\f<=(((J3 (G J (f+b))):Nat):Int)) /\
 ∃j l,Sem.run Q (builtinV .append #[23,23] 23 #[.slice I 0 0,.slice (subO c k f.toNat 1) ((J3 (G J (f+b)))-f.toNat) (k-f.toNat)]) g=.ok j l /\
 ∃c g k,j=(.slice c g k) /\
 Z1 l e (.bool O)/\∀j,Z8 l e (.bool O) j ->
 Z1 j (e.add 1) (.slice c g k)/\∀l,Z8 j (e.add 1) (.slice c g k) l ->
 Z1 l (e.add 2) (.slice I 0 0)/\∀c,Z8 l (e.add 2) (.slice I 0 0) c ->
 ∃g j k l m n o,c.cell? e=V (.bool g) /\
 c.cell? (e.add 1)=V (.slice j k l) /\
 c.cell? (e.add 2)=V (.slice m n o) /\
 R (Z (U #[.agg #[.bool g,.slice j k l,.slice m n o],.int J (G J (f+b))])) c)) /\
 (h≠128 ->
 ∀c g,ZB i 111 #[.bool O,.slice I 0 0,.slice I 0 0] c g ->
 Z1 g c (.bool JA)/\∀h,Z8 g c (.bool JA) h ->
 Z1 h (c.add 1) (.slice I 0 0)/\∀g,Z8 h (c.add 1) (.slice I 0 0) g ->
 Z1 g (c.add 2) (.slice I 0 0)/\∀h,Z8 g (c.add 2) (.slice I 0 0) h ->
 ∃(g:T->Prop),(∃(i:Int->T->Prop)(j:Int->T->Nat),i f h /\
 (∀(h:Int)(k:Nat->Value)(k:T),i h k ->
 ((h<(G J (f+b)) ->
 ∃l,k.cell? (a.add 2)=V (.int J l) /\
 ((l=0 ->
 J0 Q 117 #[C (V a),.int J h,.int J (G J (f+b)),.int J (G J (d+1))] k (fun d m =>
 ∃n o p q r s t u,d=Z (U #[.agg #[.bool n,.slice o p q,.slice r s t],.int J u]) /\
 ∀d v,ZB m 111 #[.bool O,.slice I 0 0,.slice I 0 0] d v ->
 Z1 v d (.bool n)/\∀m,Z8 v d (.bool n) m ->
 Z1 m (d.add 1) (.slice o p q)/\∀n,Z8 m (d.add 1) (.slice o p q) n ->
 Z1 n (d.add 2) (.slice r s t)/\∀m,Z8 n (d.add 2) (.slice r s t) m ->
 ∃n o p,m.cell? (c.add 2)=V (.slice n o p) /\
 ∃q r s t v x y,m.cell? d=V (.bool q) /\
 m.cell? (d.add 1)=V (.slice r s t) /\
 m.cell? (d.add 2)=V (.slice v x y) /\
 ∀d z,ZB m 111 #[.bool q,.slice r s t,.slice v x y] d z ->
 ∃m q,Sem.run Q (builtinV .append #[109,109] 109 #[.slice n o p,.slice (V d) 1 1]) z=.ok m q /\
 ∃d n o,m=(.slice d n o) /\
 Z1 q (c.add 2) (.slice d n o)/\∀m,Z8 q (c.add 2) (.slice d n o) m ->
 i u m/\j u m<j h k)) /\
 (l≠0 ->
 g  k))) /\
 (¬h<(G J (f+b)) ->
 g  k)))) /\
 (∀  (d:Nat->Value)(d:T),g  d ->
 ∃g,d.cell? (a.add 2)=V (.int J g) /\
 ((g≠0 ->
 Z1 d e (.bool O)/\∀a,Z8 d e (.bool O) a ->
 Z1 a (e.add 1) (.slice I 0 0)/\∀h,Z8 a (e.add 1) (.slice I 0 0) h ->
 Z1 h (e.add 2) (.slice I 0 0)/\∀a,Z8 h (e.add 2) (.slice I 0 0) a ->
 ∃h i j k l m n,a.cell? e=V (.bool h) /\
 a.cell? (e.add 1)=V (.slice i j k) /\
 a.cell? (e.add 2)=V (.slice l m n) /\
 R (Z (U #[.agg #[.bool h,.slice i j k,.slice l m n],.int J 0])) a) /\
 (g=0 ->
 ∃a g h i j k l,d.cell? c=V (.bool a) /\
 d.cell? (c.add 1)=V (.slice g h i) /\
 d.cell? (c.add 2)=V (.slice j k l) /\
 Z1 d e (.bool a)/\∀c,Z8 d e (.bool a) c ->
 Z1 c (e.add 1) (.slice g h i)/\∀a,Z8 c (e.add 1) (.slice g h i) a ->
 Z1 a (e.add 2) (.slice j k l)/\∀c,Z8 a (e.add 2) (.slice j k l) c ->
 ∃a d g h i j k,c.cell? e=V (.bool a) /\
 c.cell? (e.add 1)=V (.slice d g h) /\
 c.cell? (e.add 2)=V (.slice i j k) /\
 R (Z (U #[.agg #[.bool a,.slice d g h,.slice i j k],.int J (G J (f+b))])) c)))))))))))))))))
theorem Zg.vc(a b c d w R)(h:Zg.Vc a b c d w R):J0 Q 117 #[(C (V a)),(.int J b),(.int J c),(.int J d)] w R:=xs [(1000012,[(11,.cell (.int J))]),(1000026,[(12,.cell (.int J)),(13,.cell (.int J))]),(19,[(12,.cell (.int J)),(15,.cell (.int J))]),(1000022,[(93,.cell (.bool))]),(1000032,[]),(1000038,[]),(34,[(13,.cell (.int J))])] [.addr a,.int J b,.int J c,.int J d] Tryz.func117 ZO (by kernel_rfl) h
abbrev Za.n:Nat:=133
def Za.Vc(a:Addr)(b:Int)(w:T)(R:JD->T->Prop):Prop :=
 ∀c d,ZB w 111 #[.bool O,.slice I 0 0,.slice I 0 0] c d ->
 ∃e,d.cell? (a.add 2)=V (.int J e) /\
 ((e=0 ->
 Z1 d (a.add 2) (.int J b)/\∀f,Z8 d (a.add 2) (.int J b) f ->
 Z1 f c (.bool O)/\∀a,Z8 f c (.bool O) a ->
 Z1 a (c.add 1) (.slice I 0 0)/\∀b,Z8 a (c.add 1) (.slice I 0 0) b ->
 Z1 b (c.add 2) (.slice I 0 0)/\∀a,Z8 b (c.add 2) (.slice I 0 0) a ->
 ∃b f g h i j k,a.cell? c=V (.bool b) /\
 a.cell? (c.add 1)=V (.slice f g h) /\
 a.cell? (c.add 2)=V (.slice i j k) /\
 R (Z (U #[.agg #[.bool b,.slice f g h,.slice i j k],.int J 0])) a) /\
 (e≠0 ->
 Z1 d c (.bool O)/\∀a,Z8 d c (.bool O) a ->
 Z1 a (c.add 1) (.slice I 0 0)/\∀b,Z8 a (c.add 1) (.slice I 0 0) b ->
 Z1 b (c.add 2) (.slice I 0 0)/\∀a,Z8 b (c.add 2) (.slice I 0 0) a ->
 ∃b d e f g h i,a.cell? c=V (.bool b) /\
 a.cell? (c.add 1)=V (.slice d e f) /\
 a.cell? (c.add 2)=V (.slice g h i) /\
 R (Z (U #[.agg #[.bool b,.slice d e f,.slice g h i],.int J 0])) a))
theorem Za.vc(a b w R)(h:Za.Vc a b w R):J0 Q 133 #[(C (V a)),(.int J b)] w R:=xs [] [.addr a,.int J b] Tryz.func133 ZO (by kernel_rfl) h
abbrev Z17.n:Nat:=79
def Z17.Vc(a:Bool)(b:Option Addr)(c d:Nat)(e:Option Addr)(f g:Nat)(w:T)(R:JD->T->Prop):Prop :=
 ∀h i,ZB w 111 #[.bool a,.slice b c d,.slice e f g] h i ->
 ∃a,i.cell? h=V (.bool a) /\
 ((a=O ->
 ∃b c d,i.cell? (h.add 1)=V (.slice b c d) /\
 J0 Q 109 #[.slice b c d] i (fun b c =>
 ∃d e f,b=Z (.slice d e f) /\
 R (Z (.slice d e f)) c)) /\
 (a=JA ->
 ∃(a:Option Addr->Nat->Nat->Int->T->Prop)(b:Option Addr->Nat->Nat->Int->T->Nat),a I 0 0 0 i /\
 (∀(c:Option Addr)(d:Nat)(e:Nat)(f:Int)(g:Nat->Value)(g:T),a c d e f g ->
 ∃i j k,g.cell? (h.add 2)=V (.slice i j k) /\
 ((f<(j:Int) ->
 (((d:Int)<=65536 ->
 ∃i k l,g.cell? (h.add 2)=V (.slice i k l) /\
 ∃h,i=V h /\
 ((0:Int)<=f/\f<(k:Int)) /\
 ∃i k l m n o p,g.cell? (h.add (f.toNat*3))=V (.bool i) /\
 g.cell? ((h.add (f.toNat*3)).add 1)=V (.slice k l m) /\
 g.cell? ((h.add (f.toNat*3)).add 2)=V (.slice n o p) /\
 J0 Q 79 #[.agg #[.bool i,.slice k l m,.slice n o p]] g (fun h i =>
 ∃k l m,h=Z (.slice k l m) /\
 ∃h n,Sem.run Q (builtinV .append #[23,23] 23 #[.slice c d e,.slice k l m]) i=.ok h n /\
 ∃i k l,h=(.slice i k l) /\
 a i k l (G J (f+1)) n/\b i k l (G J (f+1)) n<b c d e f g)) /\
 (¬(d:Int)<=65536 ->
 J0 Q 89 #[.slice c d e] g (fun a b =>
 ∃h i k,a=Z (.slice h i k) /\
 R (Z (.slice h i k)) b)))) /\
 (¬f<(j:Int) ->
 J0 Q 89 #[.slice c d e] g (fun a b =>
 ∃c d e,a=Z (.slice c d e) /\
 R (Z (.slice c d e)) b))))))
theorem Z17.vc(a b c d e f g w R)(h:Z17.Vc a b c d e f g w R):J0 Q 79 #[(.agg #[(.bool a),(.slice b c d),(.slice e f g)])] w R:=xs [(5,[(3,.cell (.slice)),(4,.cell (.int J))])] [.agg [.bool (.var a),.slice b c d,.slice e f g]] Tryz.func79 ZO (by kernel_rfl) h
end Go.Proofs.YtfghidehlnfdiaaGreat
end
