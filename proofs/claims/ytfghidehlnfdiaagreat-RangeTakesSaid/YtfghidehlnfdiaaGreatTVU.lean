/- The verification conditions of some functions, printed by a program of ours (wip/PrintVc.lean). -/
/- Contracts: the reference's decoder (moraineref4). -/
/- Contracts: moraineref4.First, Decode. -/
/- Contracts: moraineref4.Of. What an item is: plain Lean. -/
/- The verification conditions of some functions, printed by a program of ours (wip/PrintVc.lean). -/
/- What item is a node: plain Lean; and the nodes that the trie makes of items. -/
/- Contracts: trie.branched, noded, decoded, Check. -/
/- The verification conditions of some functions, printed by a program of ours (wip/PrintVc.lean). -/
import Derived.Test.YtfghidehlnfdiaaGreatDD4
import Derived.Test.YtfghidehlnfdiaaGreatProg
import Derived.KernelRfl
set_option linter.unusedVariables false
set_option linter.unusedSimpArgs false
open Bool renaming false->I,false_and->JQ,true->J6,true_and->JS
open Except renaming error->JI
open Go renaming Calls->J2,Ending->J8,World->C
open Go.Ending renaming returned->J
open Go.IntKind renaming i64->V,u8->JV,wrap->G
open Go.Obj renaming cells->J1
open Go.Proofs.Tryz renaming prog->Q
open Go.Value renaming iface->JB,nilIface->K,pointer->P,tuple->U
open Int renaming toNat->JL,toNat_natCast->J0
open List renaming all_append->JN,drop_drop->JP,drop_take->JO,eq_nil_of_length_eq_zero->J5,filter_append->JK,getD_eq_getElem?_getD->J7,getElem?_eq_getElem->JE,getElem_mem->JG,length_append->J4,length_singleton->JC,length_take->JM,take_succ_eq_append_getElem->JA
open Nat renaming add_assoc->JR,add_sub_cancel_left->JF,add_zero->JT,le_refl->J3,le_trans->JU,zero_add->J9,zero_le->JD
open Option renaming none->T,some->O
open Or renaming inl->JJ,inr->JH
section
namespace Go.Proofs.YtfghidehlnfdiaaGreat
open Go Go.Vcg
abbrev Z0a.n:Nat:=60
def Z0a.Vc(a:Option Addr)(b c:Nat)(w:C)(R:J8->C->Prop):Prop :=
 ∀d e,ZC w 111 #[.bool I,.slice T 0 0,.slice T 0 0] d e ->
 J2 Q 94 #[.slice a b c] e (fun a c =>
 ∃e f g h i j k l m,a=J (U #[.agg #[.bool e,.slice f g h,.slice i j k],.int V l,.int V m]) /\
 ∀a n,ZC c 111 #[.bool I,.slice T 0 0,.slice T 0 0] a n ->
 Z1 n a (.bool e)/\∀c,ZA n a (.bool e) c ->
 Z1 c (a.add 1) (.slice f g h)/\∀e,ZA c (a.add 1) (.slice f g h) e ->
 Z1 e (a.add 2) (.slice i j k)/\∀c,ZA e (a.add 2) (.slice i j k) c ->
 ((m=0 ->
 ((l<(b:Int) ->
 Z1 c d (.bool I)/\∀e,ZA c d (.bool I) e ->
 Z1 e (d.add 1) (.slice T 0 0)/\∀f,ZA e (d.add 1) (.slice T 0 0) f ->
 Z1 f (d.add 2) (.slice T 0 0)/\∀e,ZA f (d.add 2) (.slice T 0 0) e ->
 ∃f g h i j k n,e.cell? d=O (.bool f) /\
 e.cell? (d.add 1)=O (.slice g h i) /\
 e.cell? (d.add 2)=O (.slice j k n) /\
 R (J (U #[.agg #[.bool f,.slice g h i,.slice j k n],.int V 42])) e) /\
 (¬l<(b:Int) ->
 ((m≠0 ->
 Z1 c d (.bool I)/\∀b,ZA c d (.bool I) b ->
 Z1 b (d.add 1) (.slice T 0 0)/\∀e,ZA b (d.add 1) (.slice T 0 0) e ->
 Z1 e (d.add 2) (.slice T 0 0)/\∀b,ZA e (d.add 2) (.slice T 0 0) b ->
 ∃e f g h i j k,b.cell? d=O (.bool e) /\
 b.cell? (d.add 1)=O (.slice f g h) /\
 b.cell? (d.add 2)=O (.slice i j k) /\
 R (J (U #[.agg #[.bool e,.slice f g h,.slice i j k],.int V m])) b) /\
 (m=0 ->
 ∃b e f g h i j,c.cell? a=O (.bool b) /\
 c.cell? (a.add 1)=O (.slice e f g) /\
 c.cell? (a.add 2)=O (.slice h i j) /\
 Z1 c d (.bool b)/\∀k,ZA c d (.bool b) k ->
 Z1 k (d.add 1) (.slice e f g)/\∀b,ZA k (d.add 1) (.slice e f g) b ->
 Z1 b (d.add 2) (.slice h i j)/\∀e,ZA b (d.add 2) (.slice h i j) e ->
 ∃b f g h i j k,e.cell? d=O (.bool b) /\
 e.cell? (d.add 1)=O (.slice f g h) /\
 e.cell? (d.add 2)=O (.slice i j k) /\
 R (J (U #[.agg #[.bool b,.slice f g h,.slice i j k],.int V 0])) e))))) /\
 (m≠0 ->
 ((m≠0 ->
 Z1 c d (.bool I)/\∀b,ZA c d (.bool I) b ->
 Z1 b (d.add 1) (.slice T 0 0)/\∀e,ZA b (d.add 1) (.slice T 0 0) e ->
 Z1 e (d.add 2) (.slice T 0 0)/\∀b,ZA e (d.add 2) (.slice T 0 0) b ->
 ∃e f g h i j k,b.cell? d=O (.bool e) /\
 b.cell? (d.add 1)=O (.slice f g h) /\
 b.cell? (d.add 2)=O (.slice i j k) /\
 R (J (U #[.agg #[.bool e,.slice f g h,.slice i j k],.int V m])) b) /\
 (m=0 ->
 ∃b e f g h i j,c.cell? a=O (.bool b) /\
 c.cell? (a.add 1)=O (.slice e f g) /\
 c.cell? (a.add 2)=O (.slice h i j) /\
 Z1 c d (.bool b)/\∀a,ZA c d (.bool b) a ->
 Z1 a (d.add 1) (.slice e f g)/\∀b,ZA a (d.add 1) (.slice e f g) b ->
 Z1 b (d.add 2) (.slice h i j)/\∀a,ZA b (d.add 2) (.slice h i j) a ->
 ∃b c e f g h i,a.cell? d=O (.bool b) /\
 a.cell? (d.add 1)=O (.slice c e f) /\
 a.cell? (d.add 2)=O (.slice g h i) /\
 R (J (U #[.agg #[.bool b,.slice c e f,.slice g h i],.int V 0])) a)))))
theorem Z0a.vc(a b c w R)(h:Z0a.Vc a b c w R):J2 Q 60 #[(.slice a b c)] w R:=xs [] [.slice a b c] Tryz.func60 ZL (by kernel_rfl) h
abbrev Z0r.n:Nat:=94
def Z0r.Vc(a:Option Addr)(b c:Nat)(w:C)(R:J8->C->Prop):Prop :=
 ∀d e,ZC w 111 #[.bool I,.slice T 0 0,.slice T 0 0] d e ->
 (((b:Int)>65536 ->
 Z1 e d (.bool I)/\∀f,ZA e d (.bool I) f ->
 Z1 f (d.add 1) (.slice T 0 0)/\∀g,ZA f (d.add 1) (.slice T 0 0) g ->
 Z1 g (d.add 2) (.slice T 0 0)/\∀f,ZA g (d.add 2) (.slice T 0 0) f ->
 ∃g h i j k l m,f.cell? d=O (.bool g) /\
 f.cell? (d.add 1)=O (.slice h i j) /\
 f.cell? (d.add 2)=O (.slice k l m) /\
 R (J (U #[.agg #[.bool g,.slice h i j,.slice k l m],.int V 0,.int V 44])) f) /\
 (¬(b:Int)>65536 ->
 ∀f g,ZC e 187 #[.slice a b c,.int V 0,.int V 0] f g ->
 J2 Q 117 #[P (O f),.int V 0,.int V (b:Int),.int V 1] g (fun a b =>
 ∃c e g h i j k l,a=J (U #[.agg #[.bool c,.slice e g h,.slice i j k],.int V l]) /\
 ∀a m,ZC b 111 #[.bool I,.slice T 0 0,.slice T 0 0] a m ->
 Z1 m a (.bool c)/\∀b,ZA m a (.bool c) b ->
 Z1 b (a.add 1) (.slice e g h)/\∀c,ZA b (a.add 1) (.slice e g h) c ->
 Z1 c (a.add 2) (.slice i j k)/\∀b,ZA c (a.add 2) (.slice i j k) b ->
 ∃c,b.cell? (f.add 2)=O (.int V c) /\
 ((c≠0 ->
 ∀e,ZJ b e ->
 ∃g,e.cell? (f.add 2)=O (.int V g) /\
 Z1 e d (.bool I)/\∀h,ZA e d (.bool I) h ->
 Z1 h (d.add 1) (.slice T 0 0)/\∀e,ZA h (d.add 1) (.slice T 0 0) e ->
 Z1 e (d.add 2) (.slice T 0 0)/\∀h,ZA e (d.add 2) (.slice T 0 0) h ->
 h.cell? (f.add 2)=O (.int V g) /\
 ∃e f i j k m n,h.cell? d=O (.bool e) /\
 h.cell? (d.add 1)=O (.slice f i j) /\
 h.cell? (d.add 2)=O (.slice k m n) /\
 R (J (U #[.agg #[.bool e,.slice f i j,.slice k m n],.int V 0,.int V g])) h) /\
 (c=0 ->
 ∃c e f g h i j,b.cell? a=O (.bool c) /\
 b.cell? (a.add 1)=O (.slice e f g) /\
 b.cell? (a.add 2)=O (.slice h i j) /\
 Z1 b d (.bool c)/\∀a,ZA b d (.bool c) a ->
 Z1 a (d.add 1) (.slice e f g)/\∀b,ZA a (d.add 1) (.slice e f g) b ->
 Z1 b (d.add 2) (.slice h i j)/\∀a,ZA b (d.add 2) (.slice h i j) a ->
 ∃b c e f g h i,a.cell? d=O (.bool b) /\
 a.cell? (d.add 1)=O (.slice c e f) /\
 a.cell? (d.add 2)=O (.slice g h i) /\
 R (J (U #[.agg #[.bool b,.slice c e f,.slice g h i],.int V l,.int V 0])) a)))))
theorem Z0r.vc(a b c w R)(h:Z0r.Vc a b c w R):J2 Q 94 #[(.slice a b c)] w R:=xs [] [.slice a b c] Tryz.func94 ZL (by kernel_rfl) h
abbrev Zr.n:Nat:=117
def Zr.Vc(a:Addr)(b c d:Int)(w:C)(R:J8->C->Prop):Prop :=
 ∀e f,ZC w 111 #[.bool I,.slice T 0 0,.slice T 0 0] e f ->
 ((b>=c ->
 J2 Q 133 #[P (O a),.int V 41] f (fun g h =>
 ∃i j k l m n o p,g=J (U #[.agg #[.bool i,.slice j k l,.slice m n o],.int V p]) /\
 Z1 h e (.bool i)/\∀g,ZA h e (.bool i) g ->
 Z1 g (e.add 1) (.slice j k l)/\∀h,ZA g (e.add 1) (.slice j k l) h ->
 Z1 h (e.add 2) (.slice m n o)/\∀g,ZA h (e.add 2) (.slice m n o) g ->
 ∃h i j k l m n,g.cell? e=O (.bool h) /\
 g.cell? (e.add 1)=O (.slice i j k) /\
 g.cell? (e.add 2)=O (.slice l m n) /\
 R (J (U #[.agg #[.bool h,.slice i j k,.slice l m n],.int V p])) g)) /\
 (¬b>=c ->
 ((d>16 ->
 J2 Q 133 #[P (O a),.int V 43] f (fun g h =>
 ∃i j k l m n o p,g=J (U #[.agg #[.bool i,.slice j k l,.slice m n o],.int V p]) /\
 Z1 h e (.bool i)/\∀g,ZA h e (.bool i) g ->
 Z1 g (e.add 1) (.slice j k l)/\∀h,ZA g (e.add 1) (.slice j k l) h ->
 Z1 h (e.add 2) (.slice m n o)/\∀g,ZA h (e.add 2) (.slice m n o) g ->
 ∃h i j k l m n,g.cell? e=O (.bool h) /\
 g.cell? (e.add 1)=O (.slice i j k) /\
 g.cell? (e.add 2)=O (.slice l m n) /\
 R (J (U #[.agg #[.bool h,.slice i j k,.slice l m n],.int V p])) g)) /\
 (¬d>16 ->
 ∃g,f.cell? (a.add 1)=O (.int V g) /\
 ((g=4096 ->
 J2 Q 133 #[P (O a),.int V 43] f (fun h i =>
 ∃j k l m n o p q,h=J (U #[.agg #[.bool j,.slice k l m,.slice n o p],.int V q]) /\
 Z1 i e (.bool j)/\∀h,ZA i e (.bool j) h ->
 Z1 h (e.add 1) (.slice k l m)/\∀i,ZA h (e.add 1) (.slice k l m) i ->
 Z1 i (e.add 2) (.slice n o p)/\∀h,ZA i (e.add 2) (.slice n o p) h ->
 ∃i j k l m n o,h.cell? e=O (.bool i) /\
 h.cell? (e.add 1)=O (.slice j k l) /\
 h.cell? (e.add 2)=O (.slice m n o) /\
 R (J (U #[.agg #[.bool i,.slice j k l,.slice m n o],.int V q])) h)) /\
 (g≠4096 ->
 ∃g,f.cell? (a.add 1)=O (.int V g) /\
 Z1 f (a.add 1) (.int V (G V (g+1)))/\∀h,ZA f (a.add 1) (.int V (G V (g+1))) h ->
 ∃f g i,h.cell? a=O (.slice f g i) /\
 ∃i,f=O i /\
 ((0:Int)<=b/\b<(g:Int)) /\
 ∃f,h.cell? (i.add b.toNat)=O (.int JV f) /\
 (((G V f)<128 ->
 ∀g i,ZC h 5 #[.int JV (G JV (G V f))] g i ->
 Z1 i e (.bool I)/\∀j,ZA i e (.bool I) j ->
 Z1 j (e.add 1) (.slice (O g) 1 1)/\∀i,ZA j (e.add 1) (.slice (O g) 1 1) i ->
 Z1 i (e.add 2) (.slice T 0 0)/\∀g,ZA i (e.add 2) (.slice T 0 0) g ->
 ∃i j k l m n o,g.cell? e=O (.bool i) /\
 g.cell? (e.add 1)=O (.slice j k l) /\
 g.cell? (e.add 2)=O (.slice m n o) /\
 R (J (U #[.agg #[.bool i,.slice j k l,.slice m n o],.int V (G V (b+1))])) g) /\
 (¬(G V f)<128 ->
 ∃(g:Int->C->Prop),(((G V f)>=192 ->
 g 192 h) /\
 (¬(G V f)>=192 ->
 g 128 h)) /\
 (∀(h:Int)(i:Nat->Value)(i:C),g h i ->
 ∃(g:Int->Int->C->Prop),(((G V ((G V f)-h))>55 ->
 (((G V ((G V (b+1))+(G V ((G V ((G V f)-h))-55))))>c ->
 J2 Q 133 #[P (O a),.int V 41] i (fun j k =>
 ∃l m n o p q r s,j=J (U #[.agg #[.bool l,.slice m n o,.slice p q r],.int V s]) /\
 Z1 k e (.bool l)/\∀j,ZA k e (.bool l) j ->
 Z1 j (e.add 1) (.slice m n o)/\∀k,ZA j (e.add 1) (.slice m n o) k ->
 Z1 k (e.add 2) (.slice p q r)/\∀j,ZA k (e.add 2) (.slice p q r) j ->
 ∃k l m n o p q,j.cell? e=O (.bool k) /\
 j.cell? (e.add 1)=O (.slice l m n) /\
 j.cell? (e.add 2)=O (.slice o p q) /\
 R (J (U #[.agg #[.bool k,.slice l m n,.slice o p q],.int V s])) j)) /\
 (¬(G V ((G V (b+1))+(G V ((G V ((G V f)-h))-55))))>c ->
 ∃(j:Int->Int->C->Prop)(k:Int->Int->C->Nat),j 0 0 i /\
 (∀(l:Int)(m:Int)(n:Nat->Value)(n:C),j l m n ->
 ((m<(G V ((G V ((G V f)-h))-55)) ->
 ∃(o:Bool->C->Prop),((m<8 ->
 o (decide (l<=2147483648)) n) /\
 (¬m<8 ->
 o I n)) /\
 (∀(p:Bool)(q:Nat->Value)(q:C),o p q ->
 ((p=J6 ->
 ∃o r s,q.cell? a=O (.slice o r s) /\
 ∃s,o=O s /\
 ((0:Int)<=(G V ((G V (b+1))+m))/\(G V ((G V (b+1))+m))<(r:Int)) /\
 ∃o,q.cell? (s.add (JL (G V ((G V (b+1))+m))))=O (.int JV o) /\
 j (G V ((G V (256*l))+(G V o))) (G V (m+1)) q/\k (G V ((G V (256*l))+(G V o))) (G V (m+1)) q<k l m n) /\
 (p=I ->
 j l (G V (m+1)) q/\k l (G V (m+1)) q<k l m n)))) /\
 (¬m<(G V ((G V ((G V f)-h))-55)) ->
 ∃j k m,n.cell? a=O (.slice j k m) /\
 ∃m,j=O m /\
 ((0:Int)<=(G V (b+1))/\(G V (b+1))<(k:Int)) /\
 ∃j,n.cell? (m.add (JL (G V (b+1))))=O (.int JV j) /\
 ((j=0 ->
 J2 Q 133 #[P (O a),.int V 40] n (fun k m =>
 ∃o p q r s t u v,k=J (U #[.agg #[.bool o,.slice p q r,.slice s t u],.int V v]) /\
 Z1 m e (.bool o)/\∀k,ZA m e (.bool o) k ->
 Z1 k (e.add 1) (.slice p q r)/\∀m,ZA k (e.add 1) (.slice p q r) m ->
 Z1 m (e.add 2) (.slice s t u)/\∀k,ZA m (e.add 2) (.slice s t u) k ->
 ∃m o p q r s t,k.cell? e=O (.bool m) /\
 k.cell? (e.add 1)=O (.slice o p q) /\
 k.cell? (e.add 2)=O (.slice r s t) /\
 R (J (U #[.agg #[.bool m,.slice o p q,.slice r s t],.int V v])) k)) /\
 (j≠0 ->
 ((l<56 ->
 J2 Q 133 #[P (O a),.int V 40] n (fun j k =>
 ∃m o p q r s t u,j=J (U #[.agg #[.bool m,.slice o p q,.slice r s t],.int V u]) /\
 Z1 k e (.bool m)/\∀j,ZA k e (.bool m) j ->
 Z1 j (e.add 1) (.slice o p q)/\∀k,ZA j (e.add 1) (.slice o p q) k ->
 Z1 k (e.add 2) (.slice r s t)/\∀j,ZA k (e.add 2) (.slice r s t) j ->
 ∃k m o p q r s,j.cell? e=O (.bool k) /\
 j.cell? (e.add 1)=O (.slice m o p) /\
 j.cell? (e.add 2)=O (.slice q r s) /\
 R (J (U #[.agg #[.bool k,.slice m o p,.slice q r s],.int V u])) j)) /\
 (¬l<56 ->
 ((l>2147483648 ->
 J2 Q 133 #[P (O a),.int V 40] n (fun j k =>
 ∃m o p q r s t u,j=J (U #[.agg #[.bool m,.slice o p q,.slice r s t],.int V u]) /\
 Z1 k e (.bool m)/\∀j,ZA k e (.bool m) j ->
 Z1 j (e.add 1) (.slice o p q)/\∀k,ZA j (e.add 1) (.slice o p q) k ->
 Z1 k (e.add 2) (.slice r s t)/\∀j,ZA k (e.add 2) (.slice r s t) j ->
 ∃k m o p q r s,j.cell? e=O (.bool k) /\
 j.cell? (e.add 1)=O (.slice m o p) /\
 j.cell? (e.add 2)=O (.slice q r s) /\
 R (J (U #[.agg #[.bool k,.slice m o p,.slice q r s],.int V u])) j)) /\
 (¬l>2147483648 ->
 g l (G V ((G V (b+1))+(G V ((G V ((G V f)-h))-55)))) n)))))))))))) /\
 (¬(G V ((G V f)-h))>55 ->
 g (G V ((G V f)-h)) (G V (b+1)) i)) /\
 (∀(b:Int)(f:Int)(i:Nat->Value)(i:C),g b f i ->
 ((b>(G V (c-f)) ->
 J2 Q 133 #[P (O a),.int V 41] i (fun g j =>
 ∃k l m n o p q r,g=J (U #[.agg #[.bool k,.slice l m n,.slice o p q],.int V r]) /\
 Z1 j e (.bool k)/\∀g,ZA j e (.bool k) g ->
 Z1 g (e.add 1) (.slice l m n)/\∀j,ZA g (e.add 1) (.slice l m n) j ->
 Z1 j (e.add 2) (.slice o p q)/\∀g,ZA j (e.add 2) (.slice o p q) g ->
 ∃j k l m n o p,g.cell? e=O (.bool j) /\
 g.cell? (e.add 1)=O (.slice k l m) /\
 g.cell? (e.add 2)=O (.slice n o p) /\
 R (J (U #[.agg #[.bool j,.slice k l m,.slice n o p],.int V r])) g)) /\
 (¬b>(G V (c-f)) ->
 ((h=128 ->
 ∃(c:C->Prop),((b=1 ->
 ∃g j k,i.cell? a=O (.slice g j k) /\
 ∃k,g=O k /\
 ((0:Int)<=f/\f<(j:Int)) /\
 ∃g,i.cell? (k.add f.toNat)=O (.int JV g) /\
 ((g<128 ->
 J2 Q 133 #[P (O a),.int V 40] i (fun j k =>
 ∃l m n o p q r s,j=J (U #[.agg #[.bool l,.slice m n o,.slice p q r],.int V s]) /\
 Z1 k e (.bool l)/\∀j,ZA k e (.bool l) j ->
 Z1 j (e.add 1) (.slice m n o)/\∀k,ZA j (e.add 1) (.slice m n o) k ->
 Z1 k (e.add 2) (.slice p q r)/\∀j,ZA k (e.add 2) (.slice p q r) j ->
 ∃k l m n o p q,j.cell? e=O (.bool k) /\
 j.cell? (e.add 1)=O (.slice l m n) /\
 j.cell? (e.add 2)=O (.slice o p q) /\
 R (J (U #[.agg #[.bool k,.slice l m n,.slice o p q],.int V s])) j)) /\
 (¬g<128 ->
 c  i))) /\
 (b≠1 ->
 c  i)) /\
 (∀  (g:Nat->Value)(g:C),c  g ->
 ∃c j k,g.cell? a=O (.slice c j k) /\
 ((0:Int)<=(G V (f+b))/\(G V (f+b))<=(k:Int)) /\
 ((0:Int)<=f/\f<=(((JL (G V (f+b))):Nat):Int)) /\
 ∃j l,Sem.run Q (builtinV .append #[23,23] 23 #[.slice T 0 0,.slice (subO c k f.toNat 1) ((JL (G V (f+b)))-f.toNat) (k-f.toNat)]) g=.ok j l /\
 ∃c g k,j=(.slice c g k) /\
 Z1 l e (.bool I)/\∀j,ZA l e (.bool I) j ->
 Z1 j (e.add 1) (.slice c g k)/\∀l,ZA j (e.add 1) (.slice c g k) l ->
 Z1 l (e.add 2) (.slice T 0 0)/\∀c,ZA l (e.add 2) (.slice T 0 0) c ->
 ∃g j k l m n o,c.cell? e=O (.bool g) /\
 c.cell? (e.add 1)=O (.slice j k l) /\
 c.cell? (e.add 2)=O (.slice m n o) /\
 R (J (U #[.agg #[.bool g,.slice j k l,.slice m n o],.int V (G V (f+b))])) c)) /\
 (h≠128 ->
 ∀c g,ZC i 111 #[.bool I,.slice T 0 0,.slice T 0 0] c g ->
 Z1 g c (.bool J6)/\∀h,ZA g c (.bool J6) h ->
 Z1 h (c.add 1) (.slice T 0 0)/\∀g,ZA h (c.add 1) (.slice T 0 0) g ->
 Z1 g (c.add 2) (.slice T 0 0)/\∀h,ZA g (c.add 2) (.slice T 0 0) h ->
 ∃(g:C->Prop),(∃(i:Int->C->Prop)(j:Int->C->Nat),i f h /\
 (∀(h:Int)(k:Nat->Value)(k:C),i h k ->
 ((h<(G V (f+b)) ->
 ∃l,k.cell? (a.add 2)=O (.int V l) /\
 ((l=0 ->
 J2 Q 117 #[P (O a),.int V h,.int V (G V (f+b)),.int V (G V (d+1))] k (fun d m =>
 ∃n o p q r s t u,d=J (U #[.agg #[.bool n,.slice o p q,.slice r s t],.int V u]) /\
 ∀d v,ZC m 111 #[.bool I,.slice T 0 0,.slice T 0 0] d v ->
 Z1 v d (.bool n)/\∀m,ZA v d (.bool n) m ->
 Z1 m (d.add 1) (.slice o p q)/\∀n,ZA m (d.add 1) (.slice o p q) n ->
 Z1 n (d.add 2) (.slice r s t)/\∀m,ZA n (d.add 2) (.slice r s t) m ->
 ∃n o p,m.cell? (c.add 2)=O (.slice n o p) /\
 ∃q r s t v x y,m.cell? d=O (.bool q) /\
 m.cell? (d.add 1)=O (.slice r s t) /\
 m.cell? (d.add 2)=O (.slice v x y) /\
 ∀d z,ZC m 111 #[.bool q,.slice r s t,.slice v x y] d z ->
 ∃m q,Sem.run Q (builtinV .append #[109,109] 109 #[.slice n o p,.slice (O d) 1 1]) z=.ok m q /\
 ∃d n o,m=(.slice d n o) /\
 Z1 q (c.add 2) (.slice d n o)/\∀m,ZA q (c.add 2) (.slice d n o) m ->
 i u m/\j u m<j h k)) /\
 (l≠0 ->
 g  k))) /\
 (¬h<(G V (f+b)) ->
 g  k)))) /\
 (∀  (d:Nat->Value)(d:C),g  d ->
 ∃g,d.cell? (a.add 2)=O (.int V g) /\
 ((g≠0 ->
 Z1 d e (.bool I)/\∀a,ZA d e (.bool I) a ->
 Z1 a (e.add 1) (.slice T 0 0)/\∀h,ZA a (e.add 1) (.slice T 0 0) h ->
 Z1 h (e.add 2) (.slice T 0 0)/\∀a,ZA h (e.add 2) (.slice T 0 0) a ->
 ∃h i j k l m n,a.cell? e=O (.bool h) /\
 a.cell? (e.add 1)=O (.slice i j k) /\
 a.cell? (e.add 2)=O (.slice l m n) /\
 R (J (U #[.agg #[.bool h,.slice i j k,.slice l m n],.int V 0])) a) /\
 (g=0 ->
 ∃a g h i j k l,d.cell? c=O (.bool a) /\
 d.cell? (c.add 1)=O (.slice g h i) /\
 d.cell? (c.add 2)=O (.slice j k l) /\
 Z1 d e (.bool a)/\∀c,ZA d e (.bool a) c ->
 Z1 c (e.add 1) (.slice g h i)/\∀a,ZA c (e.add 1) (.slice g h i) a ->
 Z1 a (e.add 2) (.slice j k l)/\∀c,ZA a (e.add 2) (.slice j k l) c ->
 ∃a d g h i j k,c.cell? e=O (.bool a) /\
 c.cell? (e.add 1)=O (.slice d g h) /\
 c.cell? (e.add 2)=O (.slice i j k) /\
 R (J (U #[.agg #[.bool a,.slice d g h,.slice i j k],.int V (G V (f+b))])) c)))))))))))))))))
theorem Zr.vc(a b c d w R)(h:Zr.Vc a b c d w R):J2 Q 117 #[(P (O a)),(.int V b),(.int V c),(.int V d)] w R:=xs [(1000012,[(11,.cell (.int V))]),(1000026,[(12,.cell (.int V)),(13,.cell (.int V))]),(19,[(12,.cell (.int V)),(15,.cell (.int V))]),(1000022,[(93,.cell (.bool))]),(1000032,[]),(1000038,[]),(34,[(13,.cell (.int V))])] [.addr a,.int V b,.int V c,.int V d] Tryz.func117 ZL (by kernel_rfl) h
abbrev Zl.n:Nat:=133
def Zl.Vc(a:Addr)(b:Int)(w:C)(R:J8->C->Prop):Prop :=
 ∀c d,ZC w 111 #[.bool I,.slice T 0 0,.slice T 0 0] c d ->
 ∃e,d.cell? (a.add 2)=O (.int V e) /\
 ((e=0 ->
 Z1 d (a.add 2) (.int V b)/\∀f,ZA d (a.add 2) (.int V b) f ->
 Z1 f c (.bool I)/\∀a,ZA f c (.bool I) a ->
 Z1 a (c.add 1) (.slice T 0 0)/\∀b,ZA a (c.add 1) (.slice T 0 0) b ->
 Z1 b (c.add 2) (.slice T 0 0)/\∀a,ZA b (c.add 2) (.slice T 0 0) a ->
 ∃b f g h i j k,a.cell? c=O (.bool b) /\
 a.cell? (c.add 1)=O (.slice f g h) /\
 a.cell? (c.add 2)=O (.slice i j k) /\
 R (J (U #[.agg #[.bool b,.slice f g h,.slice i j k],.int V 0])) a) /\
 (e≠0 ->
 Z1 d c (.bool I)/\∀a,ZA d c (.bool I) a ->
 Z1 a (c.add 1) (.slice T 0 0)/\∀b,ZA a (c.add 1) (.slice T 0 0) b ->
 Z1 b (c.add 2) (.slice T 0 0)/\∀a,ZA b (c.add 2) (.slice T 0 0) a ->
 ∃b d e f g h i,a.cell? c=O (.bool b) /\
 a.cell? (c.add 1)=O (.slice d e f) /\
 a.cell? (c.add 2)=O (.slice g h i) /\
 R (J (U #[.agg #[.bool b,.slice d e f,.slice g h i],.int V 0])) a))
theorem Zl.vc(a b w R)(h:Zl.Vc a b w R):J2 Q 133 #[(P (O a)),(.int V b)] w R:=xs [] [.addr a,.int V b] Tryz.func133 ZL (by kernel_rfl) h
abbrev Z1e.n:Nat:=79
def Z1e.Vc(a:Bool)(b:Option Addr)(c d:Nat)(e:Option Addr)(f g:Nat)(w:C)(R:J8->C->Prop):Prop :=
 ∀h i,ZC w 111 #[.bool a,.slice b c d,.slice e f g] h i ->
 ∃a,i.cell? h=O (.bool a) /\
 ((a=I ->
 ∃b c d,i.cell? (h.add 1)=O (.slice b c d) /\
 J2 Q 109 #[.slice b c d] i (fun b c =>
 ∃d e f,b=J (.slice d e f) /\
 R (J (.slice d e f)) c)) /\
 (a=J6 ->
 ∃(a:Option Addr->Nat->Nat->Int->C->Prop)(b:Option Addr->Nat->Nat->Int->C->Nat),a T 0 0 0 i /\
 (∀(c:Option Addr)(d:Nat)(e:Nat)(f:Int)(g:Nat->Value)(g:C),a c d e f g ->
 ∃i j k,g.cell? (h.add 2)=O (.slice i j k) /\
 ((f<(j:Int) ->
 (((d:Int)<=65536 ->
 ∃i k l,g.cell? (h.add 2)=O (.slice i k l) /\
 ∃h,i=O h /\
 ((0:Int)<=f/\f<(k:Int)) /\
 ∃i k l m n o p,g.cell? (h.add (f.toNat*3))=O (.bool i) /\
 g.cell? ((h.add (f.toNat*3)).add 1)=O (.slice k l m) /\
 g.cell? ((h.add (f.toNat*3)).add 2)=O (.slice n o p) /\
 J2 Q 79 #[.agg #[.bool i,.slice k l m,.slice n o p]] g (fun h i =>
 ∃k l m,h=J (.slice k l m) /\
 ∃h n,Sem.run Q (builtinV .append #[23,23] 23 #[.slice c d e,.slice k l m]) i=.ok h n /\
 ∃i k l,h=(.slice i k l) /\
 a i k l (G V (f+1)) n/\b i k l (G V (f+1)) n<b c d e f g)) /\
 (¬(d:Int)<=65536 ->
 J2 Q 89 #[.slice c d e] g (fun a b =>
 ∃h i k,a=J (.slice h i k) /\
 R (J (.slice h i k)) b)))) /\
 (¬f<(j:Int) ->
 J2 Q 89 #[.slice c d e] g (fun a b =>
 ∃c d e,a=J (.slice c d e) /\
 R (J (.slice c d e)) b))))))
theorem Z1e.vc(a b c d e f g w R)(h:Z1e.Vc a b c d e f g w R):J2 Q 79 #[(.agg #[(.bool a),(.slice b c d),(.slice e f g)])] w R:=xs [(5,[(3,.cell (.slice)),(4,.cell (.int V))])] [.agg [.bool (.var a),.slice b c d,.slice e f g]] Tryz.func79 ZL (by kernel_rfl) h
end Go.Proofs.YtfghidehlnfdiaaGreat
end
section
namespace Go.Proofs.YtfghidehlnfdiaaGreat
open Go Go.Vcg Go.Trie
def sg(B:By)(i j:Nat):By:=(B.drop i).take (j-i)
theorem ZHP{B:By}{i j:Nat}(h:j<=B.length):(sg B i j).length=j-i:=by unfold sg;rw[JM,List.length_drop];omega
theorem ZHO{B:By}{i j t:Nat}(h:i+t<j):(sg B i j).getD t 0=B.getD (i+t) 0:=by
 unfold sg;simp only[J7];rw[List.getElem?_take_of_lt (by omega),List.getElem?_drop]
theorem ZJK{B:By}{i j a q:Nat}(h:i+a+q<=j):((sg B i j).drop a).take q=sg B (i+a) (i+a+q):=by
 unfold sg;rw[JO,JP,List.take_take];congr 1;omega
theorem ZHN{B:By}{i j a:Nat}:(sg B i j).drop a=sg B (i+a) j:=by
 unfold sg;rw[JO,JP];congr 1;omega
theorem ZKp(B:By)(i:Nat):sg B i i=[]:=by simp[sg]
theorem ZJJ{B:By}{i:Nat}(h:i<B.length):sg B i (i+1)=[B.getD i 0]:=by
 unfold sg;rw[JF,List.drop_eq_getElem_cons h,List.take_succ_cons,List.take_zero,J7,JE h];rfl
section
variable{w:C}{D n:Nat}{S:Value}
theorem ZDR(X:Blk w D 187 #[S,.int V (n:Int),.int V 0])(x:Int) :
  J2 Q Zl.n #[P (O ⟨D,0,T⟩),.int V x] w (fun e w'=>e=J (U #[.agg #[.bool I,.slice T 0 0,.slice T 0 0],.int V 0])/\Vcg.Mod (·=D) w w'/\Blk w' D 187 #[S,.int V (n:Int),.int V x]):=by
 refine Zl.vc _ _ _ _ ?_;unfold Zl.Vc;have hD:=X.lt;rintro d1 w1⟨rfl,rfl⟩;have M1:Vcg.Mod NoB w _:=Mod.alloc w (J1 #[.bool I,.slice T 0 0,.slice T 0 0] 111);have Y1:=Blk.new w 111 #[.bool I,.slice T 0 0,.slice T 0 0];have X1:=X.mod' M1;generalize hN:w.heap.size=N at *
 generalize w.alloc (J1 #[.bool I,.slice T 0 0,.slice T 0 0] 111)=w1 at *
 refine⟨0,by rw[Z3];exact X1.rd1 rfl,fun _=>?_,fun h=>(h rfl).elim⟩;rw[Z3];refine⟨X1.canSet (by simp) rfl,?_⟩;rintro _ rfl;have X2:=X1.set 2 (.int V x);have Y2:=Y1.set_ne (a:=⟨D,0+2,T⟩) (v:=.int V x) (by simp;omega);have M2:Vcg.Mod (·=D) w _:=(M1.mono (fun _ _ h=>h.elim)).step_set (a:=⟨D,0+2,T⟩) (v:=.int V x) (fun _=>rfl);exact Z1J Y2 (fun w3 M3=>⟨rfl,M2.trans M3 (fun i hi h=>by omega),X2.mod M3 (by omega)⟩)
end
def RdIs(r:Except Int (It×Nat×Nat))(S:Value)(i:Nat)(w:C)(D:Nat)(e:J8)(w':C):Prop:=match r with
 | JI x=>x≠0/\e=J (U #[.agg #[.bool I,.slice T 0 0,.slice T 0 0],.int V 0])/\∃n':Nat,Blk w' D 187 #[S,.int V (n':Int),.int V x]
 | .ok (x,q,m)=>Blk w' D 187 #[S,.int V (m:Int),.int V 0]/\∃v1 v2 v3,e=J (U #[.agg #[v1,v2,v3],.int V ((i+q:Nat):Int)])/\ItC (fun b=>b<w.heap.size) w' x v1 v2 v3
theorem ZCL(A:Nat->Prop)(w:C):ItC A w (.s []) (.bool I) (.slice T 0 0) (.slice T 0 0):=by
 simp only[ItC];exact⟨trivial,⟨T,0,rfl,RdB.nil _ _,fun h=>(h rfl).elim⟩,trivial⟩
def CapIs(v:Int)(b:By):Prop:=0<=v/\v<=1099511627776/\(v=(be b:Int)\/(v>2147483648/\be b>2147483648))
set_option maxHeartbeats 2000000 in
set_option maxRecDepth 10000 in
theorem ZAM:∀(f d n i j:Nat) (B:By) {w:C} {D k:Nat} {o:Option Addr},2*(j-i)+1<=f->i<=j->j<=B.length->B.length<=65536->RdB w o B->B.length<=k->Blk w D 187 #[.slice o B.length k,.int V (n:Int),.int V 0]->(B≠[]->Off (·=D) o)->n<=4096->d<=20 ->
  J2 Q Zr.n #[P (O ⟨D,0,T⟩),.int V (i:Int),.int V (j:Int),.int V (d:Int)] w (fun e w'=>Vcg.Mod (·=D) w w'/\RdIs (dcd f d n (sg B i j)) (.slice o B.length k) i w D e w')
 |0,_,_,_,_,_,_,_,_,_,hf,_,_,_,_,_,_,_,_,_=>absurd hf (by omega)
 |f+1,d,n,i,j,B,w,D,k,o,hf,hij,hjB,hlen,hr,hk,W,hoff,hn,hd20=>by
  refine ZD fun R hR=>Zr.vc _ _ _ _ _ _ ?_;unfold Zr.Vc;have hD:=W.lt;rintro d3 w1⟨rfl,rfl⟩;have M1:Vcg.Mod NoB w _:=Mod.alloc w (J1 #[.bool I,.slice T 0 0,.slice T 0 0] 111);have X1:=Blk.new w 111 #[.bool I,.slice T 0 0,.slice T 0 0];have hs1:=ZE w (J1 #[.bool I,.slice T 0 0,.slice T 0 0] 111);have W1:=W.mod' M1;have hr1:=hr.mod' M1;generalize hN:w.heap.size=N at *
  generalize w.alloc (J1 #[.bool I,.slice T 0 0,.slice T 0 0] 111)=w1 at *
  have M1':Vcg.Mod (·=D) w w1:=M1.mono (fun _ _ h=>h.elim);generalize hS:Value.slice o B.length k=S at *
  have hbl:(sg B i j).length=j-i:=ZHP hjB
  have bad:∀(w':C)(n':Nat)(a b c:Value)(x:Int),Vcg.Mod (·=D) w w'->Blk w' D 187 #[S,.int V (n':Int),.int V 0]->Blk w' N 111 #[a,b,c]->dcd (f+1) d n (sg B i j)=JI x->x≠0 ->
    J2 Q 133 #[P (O ⟨D,0,T⟩),.int V x] w' (fun e w''=>e=J (U #[.agg #[.bool I,.slice T 0 0,.slice T 0 0],.int V 0])/\Blk w'' N 111 #[a,b,c] /\
     ∀w3,Vcg.Mod (·=N) w'' w3->R (J (U #[.agg #[.bool I,.slice T 0 0,.slice T 0 0],.int V 0])) w3):=by
   intro w' n' a b c x M X' Y hx h0;refine(ZDR X' x).mono ?_;rintro _ w2⟨rfl,M2,X2⟩;refine⟨rfl,Y.mod M2 (by omega),fun w3 M3=>hR _ _ ⟨(M.trans M2 (fun i hi h=>h)).trans M3 (fun i hi h=>by omega),?_⟩⟩;rw[hx];exact⟨h0,rfl,n',X2.mod M3 (by omega)⟩
  refine⟨fun h0=>?_,fun h0=>?_⟩
  ·have hb:sg B i j=[]:=J5 (by omega)
   refine(bad w1 n _ _ _ 41 M1' W1 X1 (by rw[hb];exact ZDL f d n) (by decide)).mono ?_;rintro _ w2⟨rfl,X2,h2⟩;exact⟨_,_,_,_,_,_,_,_,rfl,Z1J X2 h2⟩
  have hlt:i<j:=by omega
  have hbne:sg B i j≠[]:=fun h=>by rw[h]at hbl;simp at hbl;omega
  have hBne:B≠[]:=by rintro rfl;simp at hjB;omega
  refine⟨fun hdeep=>?_,fun hdeep=>⟨_,by rw[Z3];exact W1.rd1 rfl,fun hful=>?_,fun hful=>⟨_,by rw[Z3];exact W1.rd1 rfl,?_⟩⟩⟩
  ·refine(bad w1 n _ _ _ 43 M1' W1 X1 (Z8U hbne (JJ (by omega))) (by decide)).mono ?_
   rintro _ w2⟨rfl,X2,h2⟩;exact⟨_,_,_,_,_,_,_,_,rfl,Z1J X2 h2⟩
  ·refine(bad w1 n _ _ _ 43 M1' W1 X1 (Z8U hbne (JH (by omega))) (by decide)).mono ?_
   rintro _ w2⟨rfl,X2,h2⟩;exact⟨_,_,_,_,_,_,_,_,rfl,Z1J X2 h2⟩
  have ewn:G V ((n:Int)+1)=((n+1:Nat):Int):=by rw[Z0 (by omega) (by omega)];omega
  rw[ewn,Z3];refine⟨W1.canSet (by simp) rfl,?_⟩;rintro _ rfl;have W2:=W1.set 1 (.int V ((n+1:Nat):Int));have X2:=X1.set_ne (a:=⟨D,0+1,T⟩) (v:=.int V ((n+1:Nat):Int)) (by simp;omega);have M2:Vcg.Mod (·=D) w _:=M1'.step_set (a:=⟨D,0+1,T⟩) (v:=.int V ((n+1:Nat):Int)) (fun _=>rfl);have hr2:RdB _ o B:=hr1.mod (Mod.setCell w1 ⟨D,0+1,T⟩ (.int V ((n+1:Nat):Int))) (hoff hBne);have hs2:(w1.setCell ⟨D,0+1,T⟩ (.int V ((n+1:Nat):Int))).heap.size=N+1:=by rw[Z5e];exact hs1
  generalize w1.setCell ⟨D,0+1,T⟩ (.int V ((n+1:Nat):Int))=w2 at *
  clear X1 W1 hr1 M1 M1' hs1;subst hS;have hN2:∀{w':C},Vcg.Mod (·=D) w w'->RdB w' o B:=fun M=>hr.mod M (hoff hBne);obtain⟨b0,f0,rfl,hb0,hcells⟩:=hr2 hBne
  have hb0N:b0<N:=by
   obtain⟨b1,f1,h1,h2,_⟩:=hr hBne;cases h1;omega
  have cell:∀{w':C},Vcg.Mod (·=D) w w'->∀t,t<B.length->w'.cell? ⟨b0,f0+t,T⟩=O (bV (B.getD t 0)):=fun M t ht=>by
   obtain⟨b1,f1,h1,h2,h3⟩:=hN2 M hBne;cases h1;exact h3 t ht
  have hdn:¬(d>16\/n=4096):=by omega
  have hdec:=ZGH (f:=f) hbne hdn;have hg0:(sg B i j).getD 0 0=B.getD i 0:=by rw[ZHO (by omega),JT]
  generalize hcv:(B.getD i 0).toNat=c at *
  have hc255:c<=255:=by have:=(B.getD i 0).toNat_lt;omega
  refine⟨_,_,_,W2.rd1 rfl,_,rfl,⟨by omega,by omega⟩,(c:Int),by rw[Z3,J0];have:=cell M2 i (by omega);simp only[bV,hcv]at this;exact this,?_⟩;have ec:G V (c:Int)=(c:Int):=Z0 (by omega) (by omega);have ei1:G V ((i:Int)+1)=((i+1:Nat):Int):=by rw[Z0 (by omega) (by omega)];omega
  rw[ec,ei1]
  have hhd:hd (sg B i j)=(if c<128 then .ok (I,0,1,J6)else
   if c-(if c>=192 then 192 else 128)<=55 then .ok (decide (c>=192),1,c-(if c>=192 then 192 else 128),I)
   else if j-i<1+(c-(if c>=192 then 192 else 128)-55)then JI 41
   else if(sg B i j).getD 1 0=0\/be (((sg B i j).drop 1).take (c-(if c>=192 then 192 else 128)-55))<=55\/be (((sg B i j).drop 1).take (c-(if c>=192 then 192 else 128)-55))>2147483648 then JI 40
   else .ok (decide (c>=192),1+(c-(if c>=192 then 192 else 128)-55),be (((sg B i j).drop 1).take (c-(if c>=192 then 192 else 128)-55)),I)):=by
   unfold hd;simp only[hg0,hcv,hbl]
  refine⟨fun hc=>?_,fun hc=>?_⟩
  ·rw[show hd (sg B i j)=.ok (I,0,1,J6) by rw[hhd,if_pos (by omega)]]at hdec
   simp only at hdec;rw[if_neg (by omega),if_pos trivial,if_neg (fun h=>by exact absurd h.1 (by decide))]at hdec;have e8:G JV (c:Int)=(c:Int):=by rw[ZE1];omega
   rw[e8];rintro d4 w3⟨rfl,rfl⟩;have M23:Vcg.Mod NoB w2 _:=Mod.alloc w2 (J1 #[.int JV (c:Int)] 5);have Z:=Blk.new w2 5 #[.int JV (c:Int)];refine Z1J (X2.mod' M23) (fun w4 M4=>hR _ _ ⟨(M2.none_trans M23).trans M4 (fun i hi h=>by omega),?_⟩);rw[hdec];refine⟨(W2.mod' M23).mod M4 (by omega),_,_,_,rfl,?_⟩
   have e1:((sg B i j).drop 0).take 1=[B.getD i 0]:=by
    rw[ZJK (by omega),JT];exact ZJJ (by omega)
   rw[e1];simp only[ItC];refine⟨trivial,⟨_,_,rfl,RdB.of_blk (Z.mod M4 (by omega)) (fun t ht=>?_),fun _ dd hdd h=>?_⟩,trivial⟩
   ·simp only[JC]at ht
    obtain rfl:t=0:=by omega
    simp only[J9,bV,List.getD_cons_zero,hcv];rfl
   ·cases hdd
    have h':w2.heap.size<w.heap.size:=h;omega
  generalize hbase:(if c>=192 then 192 else 128)=base at *
  have hb1:128<=base/\base<=c:=by rw[<-hbase];split<;>omega
  have hkk8:c-base-55<=8:=by rw[<-hbase];split<;>omega
  rw[if_neg (by omega)]at hhd;refine⟨fun v w'=>w'=w2/\v=(base:Int),⟨fun h=>⟨rfl,?_⟩,fun h=>⟨rfl,?_⟩⟩,?_⟩
  ·rw[<-hbase,if_pos (by omega)];rfl
  ·rw[<-hbase,if_neg (by omega)];rfl
  rintro _ _ w2⟨rfl,rfl⟩;have ecb:G V ((c:Int)-(base:Int))=((c-base:Nat):Int):=by rw[Z0 (by omega) (by omega)];omega
  rw[ecb];refine⟨fun v t w'=>w'=w2/\∃a q:Nat,hd (sg B i j)=.ok (decide (c>=192),a,q,I)/\v=(q:Int)/\t=((i+a:Nat):Int)/\1<=a/\a<=j-i,⟨fun hgt=>?_,fun hle=>?_⟩,?_⟩
  ·have e55:G V (((c-base:Nat):Int)-55)=((c-base-55:Nat):Int):=by rw[Z0 (by omega) (by omega)];omega
   rw[e55];rw[if_neg (by omega)]at hhd;generalize hkk:c-base-55=kk at *
   have efk:G V (((i+1:Nat):Int)+(kk:Int))=((i+1+kk:Nat):Int):=by rw[Z0 (by omega) (by omega)];omega
   rw[efk];refine⟨fun hsh=>?_,fun hsh=>?_⟩
   ·rw[if_pos (by omega)]at hhd
    rw[hhd]at hdec;refine(bad w2 (n+1) _ _ _ 41 M2 W2 X2 hdec (by decide)).mono ?_;rintro _ w3⟨rfl,X3,h3⟩;exact⟨_,_,_,_,_,_,_,_,rfl,Z1J X3 h3⟩
   rw[if_neg (by omega)]at hhd;refine⟨fun v t w'=>w'=w2/\∃u:Nat,t=(u:Int)/\u<=kk/\CapIs v (((sg B i j).drop 1).take u),fun _ t _=>((kk:Int)-t).toNat,⟨rfl,0,rfl,JD _,by decide,by decide,JJ (by simp[be])⟩,?_⟩;rintro v _ _ w2⟨rfl,u,rfl,hu,hv0,hv1,hv⟩;have ew:G V ((u:Int)+1)=((u+1:Nat):Int):=by rw[Z0 (by omega) (by omega)];omega
   refine⟨fun hlt=>?_,fun hge=>?_⟩
   ·have huk:u<kk:=by omega
    have hstep:=ZG9 (sg B i j) (j:=u) (by omega);have hgu:((sg B i j).drop 1).getD u 0=B.getD (i+1+u) 0:=by rw[ZHN,ZHO (by omega)]
    rw[hgu]at hstep;refine⟨fun b w'=>w'=w2/\b=decide (v<=2147483648),⟨fun _=>⟨rfl,rfl⟩,fun h8=>by omega⟩,?_⟩;rintro _ _ w2⟨rfl,rfl⟩;rw[ew];have efu:G V (((i+1:Nat):Int)+(u:Int))=((i+1+u:Nat):Int):=by rw[Z0 (by omega) (by omega)];omega
    rw[efu];refine⟨fun hb=>?_,fun hb=>?_⟩
    ·have hvle:=of_decide_eq_true hb
     have hvbe:v=(be (((sg B i j).drop 1).take u):Int):=by
      rcases hv with h|h
      ·exact h
      ·omega
     have c1:=cell M2 (i+1+u) (by omega);have hd256:=(B.getD (i+1+u) 0).toNat_lt;refine⟨_,_,_,W2.rd1 rfl,_,rfl,⟨by omega,by omega⟩,((B.getD (i+1+u) 0).toNat:Int),by rw[Z3,J0];exact c1,?_⟩
     have ev:G V ((G V (256*v))+(G V ((B.getD (i+1+u) 0).toNat:Int)))=((be (((sg B i j).drop 1).take (u+1)):Nat):Int):=by
      rw[Z0 (n:=256*v) (by omega) (by omega),Z0 (n:=((B.getD (i+1+u) 0).toNat:Int)) (by omega) (by omega),Z0 (by omega) (by omega),hstep];omega
     rw[ev];exact⟨⟨rfl,u+1,rfl,huk,by omega,by omega,JJ rfl⟩,by dsimp only;omega⟩
    ·have hvgt:=of_decide_eq_false hb
     exact⟨⟨rfl,u+1,rfl,huk,hv0,hv1,JH ⟨by omega,by omega⟩⟩,by dsimp only;omega⟩
   ·obtain rfl:u=kk:=by omega
    have c1:=cell M2 (i+1) (by omega);have hg1:(sg B i j).getD 1 0=B.getD (i+1) 0:=ZHO (by omega);rw[hg1]at hhd;refine⟨_,_,_,W2.rd1 rfl,_,rfl,⟨by omega,by omega⟩,((B.getD (i+1) 0).toNat:Int),by rw[Z3,J0];exact c1,fun hz=>?_,fun hz=>⟨fun h56=>?_,fun h56=>⟨fun hbig=>?_,fun hbig=>?_⟩⟩⟩
    ·have hz0:B.getD (i+1) 0=0:=UInt8.toNat_inj.1 (by simpa using hz)
     rw[if_pos (JJ hz0)]at hhd;rw[hhd]at hdec;refine(bad w2 (n+1) _ _ _ 40 M2 W2 X2 hdec (by decide)).mono ?_;rintro _ w3⟨rfl,X3,h3⟩;exact⟨_,_,_,_,_,_,_,_,rfl,Z1J X3 h3⟩
    ·rw[if_pos (JH (JJ (by omega)))]at hhd
     rw[hhd]at hdec;refine(bad w2 (n+1) _ _ _ 40 M2 W2 X2 hdec (by decide)).mono ?_;rintro _ w3⟨rfl,X3,h3⟩;exact⟨_,_,_,_,_,_,_,_,rfl,Z1J X3 h3⟩
    ·rw[if_pos (JH (JH (by omega)))]at hhd
     rw[hhd]at hdec;refine(bad w2 (n+1) _ _ _ 40 M2 W2 X2 hdec (by decide)).mono ?_;rintro _ w3⟨rfl,X3,h3⟩;exact⟨_,_,_,_,_,_,_,_,rfl,Z1J X3 h3⟩
    ·have hnz:¬B.getD (i+1) 0=0:=fun h=>hz (by rw[h];rfl)
     rw[if_neg (fun h=>h.elim hnz (fun h=>h.elim (fun h=>by omega) (fun h=>by omega)))]at hhd;exact⟨rfl,1+u,_,hhd,by omega,by omega,by omega,by omega⟩
  ·rw[if_pos (by omega)]at hhd
   exact⟨rfl,1,c-base,hhd,rfl,rfl,J3 _,by omega⟩
  ·clear hhd
   rintro _ _ _ w2⟨rfl,a,q,hh,rfl,rfl,ha1,haj⟩;rw[hh]at hdec;simp only at hdec;have hq31:=ZEP hh;have ejf:G V ((j:Int)-((i+a:Nat):Int))=((j-(i+a):Nat):Int):=by rw[Z0 (by omega) (by omega)];omega
   have eto:G V (((i+a:Nat):Int)+(q:Int))=((i+a+q:Nat):Int):=by rw[Z0 (by omega) (by omega)];omega
   rw[ejf];refine⟨fun hbig=>?_,fun hbig=>?_⟩
   ·rw[if_pos (by omega)]at hdec
    refine(bad w2 (n+1) _ _ _ 41 M2 W2 X2 hdec (by decide)).mono ?_;rintro _ w3⟨rfl,X3,h3⟩;exact⟨_,_,_,_,_,_,_,_,rfl,Z1J X3 h3⟩
   rw[if_neg (by omega)]at hdec;have hq:i+a+q<=j:=by omega
   rw[ZJK hq]at hdec;rw[eto];have hil:(sg B (i+a) (i+a+q)).length=q:=by rw[ZHP (by omega)];omega
   refine⟨fun h128=>?_,fun h128=>?_⟩
   ·have hc192:¬c>=192:=fun h=>by rw[if_pos h]at hbase;omega
    rw[if_pos (decide_eq_false hc192)]at hdec;refine⟨fun w'=>w'=w2/\Trie.own (sg B (i+a) (i+a+q))=I,⟨fun h1=>?_,fun h1=>⟨rfl,?_⟩⟩,?_⟩
    ·have c1:=cell M2 (i+a) (by omega)
     have e1:sg B (i+a) (i+a+q)=[B.getD (i+a) 0]:=by
      rw[show i+a+q=i+a+1 by omega];exact ZJJ (by omega)
     refine⟨_,_,_,W2.rd1 rfl,_,rfl,⟨by omega,by omega⟩,((B.getD (i+a) 0).toNat:Int),by rw[Z3,J0];exact c1,fun hlt=>?_,fun hlt=>⟨rfl,?_⟩⟩
     ·have ho:Trie.own (sg B (i+a) (i+a+q))=J6:=by
        rw[e1];simp only[Trie.own,decide_eq_true_eq];rw[UInt8.lt_iff_toNat_lt];show _<128;omega
      rw[if_pos ⟨trivial,ho⟩]at hdec;refine(bad w2 (n+1) _ _ _ 40 M2 W2 X2 hdec (by decide)).mono ?_;rintro _ w3⟨rfl,X3,h3⟩;exact⟨_,_,_,_,_,_,_,_,rfl,Z1J X3 h3⟩
     ·rw[e1]
      simp only[Trie.own,decide_eq_false_iff_not];rw[UInt8.lt_iff_toNat_lt];show ¬_<128;omega
    ·have hq1:q≠1:=by omega
     cases h:sg B (i+a) (i+a+q)with
     |nil=>rfl
     |cons x r =>
      cases r with
      |nil=>rw[h]at hil;simp at hil;omega
      |cons y r=>rfl
    ·rintro _ w2⟨rfl,hown⟩
     rw[if_neg (fun h=>by rw[hown]at h;exact absurd h.2 (by decide))]at hdec;have hsub:=((hN2 M2).sub (c:=k) (lo:=i+a) (n:=q) hk);rw[show(B.drop (i+a)).take q=sg B (i+a) (i+a+q) by unfold sg;rw[JF]]at hsub;obtain⟨o5,k5,w5,hr5,F5⟩:=Z1v (k2:=k-(i+a)) (ty:=23) (Mod.refl w2) hsub (by omega);rw[hil]at hr5 F5;simp only[J0];refine⟨_,_,_,W2.rd1 rfl,⟨by omega,by omega⟩,⟨by omega,by omega⟩,_,w5,by rw[show i+a+q-(i+a)=q by omega];exact hr5,_,_,_,rfl,Z1J (X2.mod' F5.mod) (fun w6 M6=>hR _ _ ⟨(M2.none_trans F5.mod).trans M6 (fun i hi h=>by omega),?_⟩)⟩;rw[hdec];refine⟨(W2.mod' F5.mod).mod M6 (by omega),_,_,_,by rw[JR],?_⟩;simp only[ItC];have hN5:∀b,OB o5 b->¬b=N:=fun b hb h=>by have:=F5.new b hb;omega
     refine⟨trivial,⟨o5,k5,by rw[hil],(F5.own.mod M6 hN5).bytes,fun _ dd hdd h=>?_⟩,trivial⟩;have:=F5.new dd.block ⟨dd,hdd,rfl⟩;have h':dd.block<w.heap.size:=h;omega
   ·have hc192:c>=192:=by
      rcases Nat.lt_or_ge c 192 with h|h
      ·rw[if_neg (by omega)]at hbase;omega
      ·exact h
    rw[if_neg (by rw[decide_eq_true hc192];decide)]at hdec;rintro dX w6⟨rfl,rfl⟩;have Y6:=Blk.new w2 111 #[.bool I,.slice T 0 0,.slice T 0 0];have M26:Vcg.Mod NoB w2 _:=Mod.alloc w2 (J1 #[.bool I,.slice T 0 0,.slice T 0 0] 111);have hs6:=ZE w2 (J1 #[.bool I,.slice T 0 0,.slice T 0 0] 111);generalize hY:w2.heap.size=Y at *
    generalize w2.alloc (J1 #[.bool I,.slice T 0 0,.slice T 0 0] 111)=w6 at *
    refine Z9m Y6 rfl rfl rfl (fun w7 Y7 Q7=>?_);have M27:Vcg.Mod NoB w2 w7:=ZI M26 Q7 (by omega);have X7:=X2.mod' M27;have W7:=W2.mod' M27;have M07:=M2.none_trans M27;have hs7:=M27.size;have hY7:=Y7.lt;clear X2 W2 Y6 M26 Q7 cell hcells hr2
    let good:Int->C->Prop:=fun v w'=>∃(fr n':Nat)(xs:List It)(f':Nat)(ol:Option Addr)(kl:Nat),v=(fr:Int)/\i+a<=fr/\fr<=i+a+q/\Blk w' D 187 #[.slice (O ⟨b0,f0,T⟩) B.length k,.int V (n':Int),.int V 0]/\n'<=4096 /\
     Blk w' Y 111 #[.bool J6,.slice T 0 0,.slice ol xs.length kl]/\(∃a b c,Blk w' N 111 #[a,b,c])/\Z4A (fun b=>b<w7.heap.size) w' xs ol xs.length kl/\(∀b,OB ol b->w7.heap.size<=b)/\Vcg.Mod (·=D) w w'/\w7.heap.size<=w'.heap.size /\
     Z9l f (d+1) (n+1) (sg B (i+a) (i+a+q))=pre xs (Z9l f' (d+1) n' (sg B fr (i+a+q)))/\2*(i+a+q-fr)+2<=f'/\f'<=f/\xs.length+(i+a+q-fr)<=q
    let over:C->Prop:=fun w'=>∃(x:Int)(n':Nat),x≠0/\Z9l f (d+1) (n+1) (sg B (i+a) (i+a+q))=JI x/\Blk w' D 187 #[.slice (O ⟨b0,f0,T⟩) B.length k,.int V (n':Int),.int V x]/\(∃a b c,Blk w' N 111 #[a,b,c])/\Vcg.Mod (·=D) w w'
    have hfq:2*q+2<=f:=by omega
    refine⟨fun w'=>over w'\/good ((i+a+q:Nat):Int) w',⟨fun v w'=>over w'\/good v w',fun v w'=>match w'.cell? ⟨D,2,T⟩with|some (.int V 0)=>(((i+a+q:Nat):Int)-v).toNat+1|_=>0,JH ⟨i+a,n+1,[],f,T,0,rfl,J3 _,by omega,W7,by omega,Y7,⟨_,_,_,X7⟩,Z4A.nil _ _,fun b hb=>(Z4j b hb).elim,M07,J3 _,(ZH5 _).symm,by omega,J3 _,by simp⟩,?_⟩,?_⟩
    ·rintro v _ w8 hst
     refine⟨fun hlt=>?_,fun hge=>?_⟩
     ·rcases hst with⟨x,n',hx0,hde,W8,hX8,M08⟩|⟨fr,n',xs,f',ol,kl,rfl,hfr1,hfr2,W8,hn',Y8,⟨xa,xb,xc,X8⟩,I8,hnew,M08,hs8,hde,hf',hff,hxl⟩
      ·exact⟨x,by rw[Z3];exact W8.rd1 rfl,fun h=>(hx0 h).elim,fun _=>JJ ⟨x,n',hx0,hde,W8,hX8,M08⟩⟩
      ·refine⟨0,by rw[Z3];exact W8.rd1 rfl,fun _=>?_,fun h=>(h rfl).elim⟩
       obtain⟨f2,rfl⟩:∃f2,f'=f2+1:=⟨f'-1,by omega⟩;have hrl:(sg B fr (i+a+q)).length=i+a+q-fr:=ZHP (by omega);have hrne:sg B fr (i+a+q)≠[]:=fun h=>by rw[h]at hrl;simp at hrl;omega
       rw[ZDM hrne]at hde;have ed:G V ((d:Int)+1)=((d+1:Nat):Int):=by rw[Z0 (by omega) (by omega)];omega
       rw[ed];refine(ZAM f2 (d+1) n' fr (i+a+q) B (by omega) (by omega) (by omega) hlen (hN2 M08) hk W8 hoff hn' (by omega)).mono ?_;rintro e w9⟨M9,hdi⟩;have hs9:=M9.size;have hI9:=I8.lt;have Y9:=Y8.mod M9 (by omega);have X9:=X8.mod M9 (by omega);have I9:=I8.modS M9 (fun b hb=>by omega) (fun b hb h=>by have:=hnew b hb;omega);have M09:=M08.trans M9 (fun i hi h=>h)
       have key:∃(y:It)(v1 v2 v3:Value)(nx:Int)(m':Nat)(x:Int),e=J (U #[.agg #[v1,v2,v3],.int V nx])/\ItC (fun b=>b<w8.heap.size) w9 y v1 v2 v3/\Blk w9 D 187 #[.slice (O ⟨b0,f0,T⟩) B.length k,.int V (m':Int),.int V x] /\
         ((x≠0/\Z9l f (d+1) (n+1) (sg B (i+a) (i+a+q))=JI x)\/(x=0/\m'<=4096/\∃q',1<=q'/\fr+q'<=i+a+q/\nx=((fr+q':Nat):Int)/\Z9l f (d+1) (n+1) (sg B (i+a) (i+a+q))=pre (xs++[y]) (Z9l f2 (d+1) m' (sg B (fr+q') (i+a+q))))):=by
        cases hd1:dcd f2 (d+1) n' (sg B fr (i+a+q))with
        |error x =>
         rw[hd1]at hdi hde;obtain⟨hx0,rfl,m',W9⟩:=hdi;exact⟨.s [],_,_,_,_,m',x,rfl,ZCL _ _,W9,JJ ⟨hx0,hde⟩⟩
        |ok r =>
         obtain⟨y,q',m'⟩:=r;rw[hd1]at hdi hde;simp only at hde;obtain⟨W9,v1,v2,v3,rfl,hy⟩:=hdi;obtain⟨k1,k2,k3,k4,k5,k6⟩:=(Z91 f2 (d+1) n' (sg B fr (i+a+q))).1 _ _ _ hd1;refine⟨y,v1,v2,v3,_,m',0,rfl,hy,W9,JH ⟨rfl,by omega,q',k1,by omega,rfl,?_⟩⟩;rw[hde,ZHN,<-ZH6];congr 1
       obtain⟨y,v1,v2,v3,nx,m',x,rfl,hy,W9,hout⟩:=key;have cW:w8.cell? ⟨D,2,T⟩=O (.int V 0):=W8.rd1 rfl;clear hdi hde W8 Y8 X8 M08;obtain⟨bb,p1,q1,r1,p2,q2,r2,rfl,rfl,rfl⟩:=hy.vals;refine⟨_,_,_,_,_,_,_,_,rfl,?_⟩;rintro dA wA⟨rfl,rfl⟩;have HA:=Blk.new w9 111 #[.bool I,.slice T 0 0,.slice T 0 0];have M9A:Vcg.Mod NoB w9 _:=Mod.alloc w9 (J1 #[.bool I,.slice T 0 0,.slice T 0 0] 111);have hsA:=ZE w9 (J1 #[.bool I,.slice T 0 0,.slice T 0 0] 111);generalize hHA:w9.heap.size=HH at *
       generalize w9.alloc (J1 #[.bool I,.slice T 0 0,.slice T 0 0] 111)=wA at *
       refine Z9m HA rfl rfl rfl (fun wB HB QB=>?_);have M9B:Vcg.Mod NoB w9 wB:=ZI M9A QB (by omega);have XB:=X9.mod' M9B;have YB:=Y9.mod' M9B;have WB:=W9.mod' M9B;have hyB:=ItC.mod M9B _ hy;have IB:=I9.mod' M9B;have MB:=M09.none_trans M9B;have hsB:=M9B.size;clear HA M9A QB X9 Y9 W9 I9 M09 hy;refine⟨_,_,_,by rw[Z3];exact YB.rd1 rfl,Z60 HB ?_⟩;rintro dD wD⟨rfl,rfl⟩;have MD:Vcg.Mod NoB wB _:=Mod.alloc wB (J1 #[.bool bb,.slice p1 q1 r1,.slice p2 q2 r2] 111);have E:=Blk.new wB 111 #[.bool bb,.slice p1 q1 r1,.slice p2 q2 r2];have XD:=XB.mod' MD;have YD:=YB.mod' MD;have WD:=WB.mod' MD;have hyD:=ItC.mod MD _ hyB;have ID:=IB.mod' MD;have M0D:=MB.none_trans MD;have hsD:=MD.size;clear XB YB WB HB hyB IB MB;generalize wB.heap.size=HE at *
       generalize wB.alloc (J1 #[.bool bb,.slice p1 q1 r1,.slice p2 q2 r2] 111)=wD at *
       obtain⟨o',k',wE,hrun,IE,QE,hOB⟩:=ID.push E (ItC.mono (fun b hb=>by
        rcases hb with h|h
        ·exact Nat.lt_of_lt_of_le h hs8
        ·exact hI9 b h) _ hyD) (by omega)
       have nE:∀b,OB o' b->w7.heap.size<=b:=fun b hb=>by
        rcases hOB b hb with h|h
        ·exact hnew b h
        ·omega
       have XE:=XD.mod QE (fun h=>by have:=hnew _ h;omega);have YE:=YD.mod QE (fun h=>by have:=hnew _ h;omega);have WE:=WD.mod QE (fun h=>by have:=hnew _ h;omega);have M0E:=M0D.trans QE (fun i hi h=>by have:=hnew _ h;omega);have hsE:=QE.size;refine⟨_,wE,hrun,_,_,_,rfl,?_⟩;rw[Z3];refine⟨YE.canSet (by simp) rfl,?_⟩;rintro _ rfl;have QF:Vcg.Mod (·=Y) wE _:=Mod.setCell wE ⟨Y,0+2,T⟩ (.slice o' (xs.length+1) k');have YF:=YE.set 2 (.slice o' (xs.length+1) k');have IF:=IE.modS QF (fun b hb=>by omega) (fun b hb h=>by have:=nE b hb;omega);have XF:=XE.mod QF (by omega);have WF:=WE.mod QF (by omega);have M0F:=M0E.trans QF (fun i hi h=>by omega);have hsF:=QF.size;have hl1:xs.length+1=(xs++[y]).length:=by rw[J4,JC]
       have cF:World.cell? _ ⟨D,2,T⟩=O (.int V x):=WF.rd1 rfl;rcases hout with⟨hx0,hde⟩|⟨rfl,hm',q',hq1,hq2,rfl,hde⟩
       ·refine⟨JJ ⟨x,m',hx0,hde,WF,⟨_,_,_,XF⟩,M0F⟩,?_⟩
        dsimp only;rw[cW,cF];simp only;split
        ·rename_i h
         simp only[Option.some.injEq,Value.int.injEq,true_and]at h;exact(hx0 h).elim
        ·omega
       ·refine⟨JH ⟨fr+q',m',xs++[y],f2,o',k',rfl,by omega,hq2,WF,hm',by rw[<-hl1];exact YF,⟨_,_,_,XF⟩,by rw[<-hl1];exact IF,nE,M0F,by omega,hde,by omega,by omega,by omega⟩,?_⟩
        dsimp only;rw[cW,cF];simp only;omega
     ·rcases hst with h|⟨fr,n',xs,f',ol,kl,rfl,hfr1,hfr2,rest⟩
      ·exact JJ h
      ·obtain rfl:fr=i+a+q:=by omega
       exact JH ⟨i+a+q,n',xs,f',ol,kl,rfl,hfr1,hfr2,rest⟩
    ·rintro _ w8(⟨x,n',hx0,hde,W8,⟨xa,xb,xc,X8⟩,M08⟩|⟨fr,n',xs,f',ol,kl,hfr,hfr1,hfr2,W8,hn',Y8,⟨xa,xb,xc,X8⟩,I8,hnew,M08,hs8,hde,hf',hff,hxl⟩)
     ·refine⟨x,by rw[Z3];exact W8.rd1 rfl,fun _=>?_,fun h=>(hx0 h).elim⟩
      rw[hde]at hdec;refine Z1J X8 (fun w9 M9=>hR _ _ ⟨M08.trans M9 (fun i hi h=>by omega),?_⟩);rw[hdec];exact⟨hx0,rfl,n',W8.mod M9 (by omega)⟩
     ·obtain rfl:fr=i+a+q:=by omega
      refine⟨0,by rw[Z3];exact W8.rd1 rfl,fun h=>(h rfl).elim,fun _=>?_⟩;obtain⟨f2,rfl⟩:∃f2,f'=f2+1:=⟨f'-1,by omega⟩;rw[ZKp,ZAt]at hde
      have hits:=I8.its (fun b hb h=>by
       have:=hnew b h;have hb':b<w7.heap.size:=hb;omega)
      refine Z60 Y8 (Z1J X8 (fun w9 M9=>hR _ _ ⟨M08.trans M9 (fun i hi h=>by omega),?_⟩));rw[hdec,hde];simp only[pre,List.append_nil];refine⟨W8.mod M9 (by omega),_,_,_,by rw[JR],?_⟩;simp only[ItC];refine⟨trivial,trivial,ol,kl,rfl,Z1q.mono (fun b hb=>?_) _ (Z1q.modA M9 (fun b hb=>?_) _ hits),I8.cap⟩
      ·have hb':b<w.heap.size:=hb
       show b<w7.heap.size;omega
      ·show b<w7.heap.size
       omega
theorem ZKo(B:By):sg B 0 B.length=B:=by simp[sg]
theorem ZCb{w:C}{o:Option Addr}{k:Nat}{bs:By}(hr:RdB w o bs)(hk:bs.length<=k) :
  J2 Q Z0r.n #[.slice o bs.length k] w (fun e w'=>Vcg.Mod NoB w w'/\Z49 bs w e w'):=by
 refine ZD fun R hR=>Z0r.vc _ _ _ _ _ ?_;unfold Z0r.Vc;rintro d1 w1⟨rfl,rfl⟩;have M1:Vcg.Mod NoB w _:=Mod.alloc w (J1 #[.bool I,.slice T 0 0,.slice T 0 0] 111);have X1:=Blk.new w 111 #[.bool I,.slice T 0 0,.slice T 0 0];have hs1:=ZE w (J1 #[.bool I,.slice T 0 0,.slice T 0 0] 111);have hr1:=hr.mod' M1;generalize hN:w.heap.size=N at *
 generalize w.alloc (J1 #[.bool I,.slice T 0 0,.slice T 0 0] 111)=w1 at *
 refine⟨fun hbig=>?_,fun hbig=>?_⟩
 ·refine Z1J X1 (fun w2 M2=>hR _ _ ⟨ZI M1 M2 (by omega),?_⟩)
  unfold Z49;rw[if_pos (by omega)];exact⟨_,_,_,_,_,_,_,_,rfl⟩
 ·rintro d2 w2⟨rfl,rfl⟩
  have M12:Vcg.Mod NoB w1 _:=Mod.alloc w1 (J1 #[.slice o bs.length k,.int V 0,.int V 0] 187);have W2:=Blk.new w1 187 #[.slice o bs.length k,.int V ((0:Nat):Int),.int V 0];have X2:=X1.mod' M12;have hr2:=hr1.mod' M12;have M2:=M1.none_trans M12;have hs2:=ZE w1 (J1 #[.slice o bs.length k,.int V 0,.int V 0] 187)
  have hoff:bs≠[]->Off (·=w1.heap.size) o:=fun hne e he h=>by
   obtain⟨b,f,ho,hb,_⟩:=hr hne;rw[ho]at he;cases he;simp only at h;omega
  have hc:=ZAM (2*bs.length+1) 1 0 0 bs.length bs (k:=k) (by omega) (JD _) (J3 _) (by omega) hr2 hk W2 hoff (by omega) (by omega);rw[ZKo]at hc;refine Calls.mono (R:=fun e w'=>Vcg.Mod (·=w1.heap.size) (w1.alloc (J1 #[.slice o bs.length k,.int V 0,.int V 0] 187)) w'/\RdIs (dcd (2*bs.length+1) 1 0 bs) (.slice o bs.length k) 0 (w1.alloc (J1 #[.slice o bs.length k,.int V 0,.int V 0] 187)) w1.heap.size e w') hc ?_;rintro e w3⟨M3,hd⟩;have M03:Vcg.Mod NoB w w3:=ZI M2 M3 (by omega);have X3:=X2.mod M3 (by omega);have hs3:=M3.size;generalize hD:w1.heap.size=D at *
  have key:∃(y:It)(v1 v2 v3:Value)(nx:Int)(m':Nat)(x:Int),e=J (U #[.agg #[v1,v2,v3],.int V nx])/\ItC (fun b=>b<D) w3 y v1 v2 v3/\Blk w3 D 187 #[.slice o bs.length k,.int V (m':Int),.int V x] /\
    ((x≠0/\dcd (2*bs.length+1) 1 0 bs=JI x)\/(x=0/\∃q,dcd (2*bs.length+1) 1 0 bs=.ok (y,q,m')/\nx=(q:Int))):=by
   cases hdc:dcd (2*bs.length+1) 1 0 bs with
   |error x =>
    rw[hdc]at hd;obtain⟨hx0,rfl,m',W3⟩:=hd;exact⟨.s [],_,_,_,_,m',x,rfl,ZCL _ _,W3,JJ ⟨hx0,rfl⟩⟩
   |ok r =>
    obtain⟨y,q,m⟩:=r;rw[hdc]at hd;obtain⟨W3,v1,v2,v3,rfl,hy⟩:=hd;refine⟨y,v1,v2,v3,_,m,0,rfl,ItC.mono (fun b hb=>?_) _ hy,W3,JH ⟨rfl,q,rfl,by rw[J9]⟩⟩;show b<_;rw[hs2];have hb':b<D:=hb;omega
  obtain⟨y,v1,v2,v3,nx,m',x,rfl,hy,W3,hout⟩:=key;clear hd hc;obtain⟨bb,p1,q1,r1,p2,q2,r2,rfl,rfl,rfl⟩:=hy.vals;refine⟨_,_,_,_,_,_,_,_,rfl,?_⟩;rintro d4 w4⟨rfl,rfl⟩;have H:=Blk.new w3 111 #[.bool I,.slice T 0 0,.slice T 0 0];have M34:Vcg.Mod NoB w3 _:=Mod.alloc w3 (J1 #[.bool I,.slice T 0 0,.slice T 0 0] 111);refine Z9m H rfl rfl rfl (fun w5 H5 Q5=>?_);have M35:Vcg.Mod NoB w3 w5:=ZI M34 Q5 (J3 _);have X5:=X3.mod' M35;have W5:=W3.mod' M35;have hy5:=ItC.mod M35 _ hy;have M05:=M03.none_trans M35;have hs5:=M35.size;clear H M34 Q5 X3 W3 hy M03 M35;refine⟨x,by rw[Z3];exact W5.rd1 rfl,fun hx0=>?_,fun hx0=>?_⟩
  ·rcases hout with⟨_,hdc⟩|⟨h,_⟩
   ·rintro _ rfl
    have M6:Vcg.Mod NoB w5 w5.drew:=Mod.drew w5;have W6:=W5.mod' M6;have X6:=X5.mod' M6;have M06:=M05.none_trans M6;generalize w5.drew=w6 at *
    refine⟨x,by rw[Z3];exact W6.rd1 rfl,Z9m X6 rfl rfl rfl (fun w7 X7 Q7=>⟨by rw[Z3];exact(W6.mod Q7 (by omega)).rd1 rfl,Z60 X7 (hR _ _ ⟨ZI M06 Q7 (by omega),?_⟩)⟩)⟩;unfold Z49;rw[if_neg (by omega),hdc];exact⟨hx0,_,_,_,_,_,_,_,_,rfl⟩
   ·exact(hx0 h).elim
  ·rcases hout with⟨h,_⟩|⟨_,q,hdc,rfl⟩
   ·exact(h hx0).elim
   ·refine Z60 H5 (Z1J X5 (fun w7 Q7=>hR _ _ ⟨ZI M05 Q7 (by omega),?_⟩))
    unfold Z49;rw[if_neg (by omega),hdc];refine⟨_,_,_,rfl,ItC.mono (fun b hb=>?_) _ (ItC.modA Q7 (fun b hb=>?_) _ hy5)⟩
    ·have hb':b<w.heap.size:=hb
     show b<D;omega
    ·show b<D
     omega
theorem Z74{w:C}{o:Option Addr}{k:Nat}{bs:By}(hr:RdB w o bs)(hk:bs.length<=k) :
  J2 Q Z0a.n #[.slice o bs.length k] w (fun e w'=>Vcg.Mod NoB w w'/\Z37 bs w e w'):=by
 refine ZD fun R hR=>Z0a.vc _ _ _ _ _ ?_;unfold Z0a.Vc;rintro d1 w1⟨rfl,rfl⟩;have M1:Vcg.Mod NoB w _:=Mod.alloc w (J1 #[.bool I,.slice T 0 0,.slice T 0 0] 111);have X1:=Blk.new w 111 #[.bool I,.slice T 0 0,.slice T 0 0];have hs1:=ZE w (J1 #[.bool I,.slice T 0 0,.slice T 0 0] 111);have hr1:=hr.mod' M1;generalize hN:w.heap.size=N at *
 generalize w.alloc (J1 #[.bool I,.slice T 0 0,.slice T 0 0] 111)=w1 at *
 refine(ZCb hr1 hk).mono ?_;rintro e w2⟨M2,hf⟩;have M02:=M1.none_trans M2;have X2:=X1.mod' M2;have hs2:=M2.size
 have bad:∀(w':C)(x:Int),Z5z bs=JI x->x≠0->Vcg.Mod NoB w w'->Blk w' N 111 #[.bool I,.slice T 0 0,.slice T 0 0]->∀w'':C,Vcg.Mod (·=N) w' w''->R (J (U #[.agg #[.bool I,.slice T 0 0,.slice T 0 0],.int V x])) w'':=by
  intro w' x hx h0 M X w'' M';refine hR _ _ ⟨ZI M M' (by omega),?_⟩;unfold Z37;rw[hx];exact⟨h0,_,_,_,_,_,_,_,rfl⟩
 have key:(∃b p1 q1 r1 p2 q2 r2 n1 x,e=J (U #[.agg #[.bool b,.slice p1 q1 r1,.slice p2 q2 r2],.int V n1,.int V x])/\x≠0/\Z5z bs=JI x) \/
   (∃y q m v1 v2 v3,¬bs.length>65536/\dcd (2*bs.length+1) 1 0 bs=.ok (y,q,m)/\e=J (U #[.agg #[v1,v2,v3],.int V (q:Int),.int V 0])/\ItC (fun b=>b<w1.heap.size) w2 y v1 v2 v3):=by
  unfold Z49 at hf;split at hf
  ·rename_i hbig
   obtain⟨b,p1,q1,r1,p2,q2,r2,n1,he⟩:=hf;exact JJ ⟨_,_,_,_,_,_,_,_,_,he,by decide,by unfold Z5z;rw[if_pos hbig]⟩
  ·rename_i hbig
   split at hf
   ·rename_i x hdc
    obtain⟨hx,b,p1,q1,r1,p2,q2,r2,n1,he⟩:=hf;exact JJ ⟨_,_,_,_,_,_,_,_,_,he,hx,by unfold Z5z;rw[if_neg hbig,hdc]⟩
   ·rename_i y q m hdc
    obtain⟨v1,v2,v3,he,hy⟩:=hf;exact JH ⟨_,_,_,_,_,_,hbig,hdc,he,hy⟩
 rcases key with⟨b,p1,q1,r1,p2,q2,r2,n1,x,rfl,hx,hdc⟩|⟨y,q,m,v1,v2,v3,hbig,hdc,rfl,hy⟩
 ·refine⟨_,_,_,_,_,_,_,_,_,rfl,?_⟩
  rintro d3 w3⟨rfl,rfl⟩;have H:=Blk.new w2 111 #[.bool I,.slice T 0 0,.slice T 0 0];have M23:Vcg.Mod NoB w2 _:=Mod.alloc w2 (J1 #[.bool I,.slice T 0 0,.slice T 0 0] 111);refine Z9m H rfl rfl rfl (fun w4 H4 Q4=>?_);have M24:Vcg.Mod NoB w2 w4:=ZI M23 Q4 (J3 _);exact⟨fun h=>(hx h).elim,fun _=>⟨fun _=>Z1J (X2.mod' M24) (bad w4 x hdc hx (M02.none_trans M24) (X2.mod' M24)),fun h=>(hx h).elim⟩⟩
 ·obtain⟨bb,p1,q1,r1,p2,q2,r2,rfl,rfl,rfl⟩:=hy.vals
  refine⟨_,_,_,_,_,_,_,_,_,rfl,?_⟩;rintro d3 w3⟨rfl,rfl⟩;have H:=Blk.new w2 111 #[.bool I,.slice T 0 0,.slice T 0 0];have M23:Vcg.Mod NoB w2 _:=Mod.alloc w2 (J1 #[.bool I,.slice T 0 0,.slice T 0 0] 111);refine Z9m H rfl rfl rfl (fun w4 H4 Q4=>?_);have M24:Vcg.Mod NoB w2 w4:=ZI M23 Q4 (J3 _);have X4:=X2.mod' M24;have hy4:=ItC.mod M24 _ hy;refine⟨fun _=>⟨fun hlt=>?_,fun hlt=>⟨fun h=>(h rfl).elim,fun _=>?_⟩⟩,fun h=>(h rfl).elim⟩
  ·refine Z1J X4 (bad w4 42 ?_ (by decide) (M02.none_trans M24) X4)
   unfold Z5z;rw[if_neg hbig,hdc];simp only;rw[if_pos (by omega)]
  ·refine Z60 H4 (Z1J X4 (fun w5 M5=>hR _ _ ⟨ZI (M02.none_trans M24) M5 (by omega),?_⟩))
   have hd:Z5z bs=.ok y:=by
    unfold Z5z;rw[if_neg hbig,hdc];simp only;rw[if_neg (by omega)]
   unfold Z37;rw[hd];refine⟨_,_,_,rfl,ItC.mono (fun b hb=>?_) _ (ItC.modA M5 (fun b hb=>?_) _ hy4)⟩
   ·have:b<w.heap.size:=hb
    show b<w1.heap.size;omega
   ·show b<w1.heap.size
    omega
theorem ZGN(xs:List It){j:Nat}(hj:j<xs.length):Z1r (xs.take (j+1))=Z1r (xs.take j)++enc xs[j]:=by
 rw[JA hj,encs_append];simp[Z1r]
theorem Z8p:∀(f:Nat) (x:It) {A:Nat->Prop} {w0 w:C} {b:Bool} {o1:Option Addr} {l1 c1:Nat} {o2:Option Addr} {l2 c2:Nat},dep x<=f->ItC A w0 x (.bool b) (.slice o1 l1 c1) (.slice o2 l2 c2)->Vcg.Mod NoB w0 w->(enc x).length<=65536 ->
  J2 Q Z1e.n #[.agg #[.bool b,.slice o1 l1 c1,.slice o2 l2 c2]] w (fun e w'=>∃o' k',e=J (.slice o' (enc x).length k')/\ZU w w' tU8 1 o' (enc x).length k' ((enc x).map bV))
 |0,x,_,_,_,_,_,_,_,_,_,_,hd,_,_,_=>absurd (ZDN x) (by omega)
 |f+1,x,A,w0,w,b,o1,l1,c1,o2,l2,c2,hd,h,M,hl=>by
  refine ZD fun R hR=>Z1e.vc _ _ _ _ _ _ _ _ _ ?_;unfold Z1e.Vc;rintro d3 w1⟨rfl,rfl⟩;have M1:Vcg.Mod NoB w _:=Mod.alloc w (J1 #[.bool b,.slice o1 l1 c1,.slice o2 l2 c2] 111);have X1:=Blk.new w 111 #[.bool b,.slice o1 l1 c1,.slice o2 l2 c2];have hs1:=ZE w (J1 #[.bool b,.slice o1 l1 c1,.slice o2 l2 c2] 111);generalize hN:w.heap.size=N at *
  generalize w.alloc (J1 #[.bool b,.slice o1 l1 c1,.slice o2 l2 c2] 111)=w1 at *
  have M01:=M.none_trans M1;have from1:∀{w2:C}{o:Option Addr}{l k:Nat}{vs:List Value},ZU w1 w2 tU8 1 o l k vs->ZU w w2 tU8 1 o l k vs:=fun F=>⟨F.own,M1.none_trans F.mod,fun k hk=>by have:=F.new k hk;omega⟩;cases x with
  |s bs =>
   simp only[ItC]at h;obtain⟨h1,⟨o,c,h2,h3,h4⟩,h5⟩:=h;cases h1;cases h2;cases h5
   have hbl:bs.length<2^30:=by
    have:bs.length<=(enc (.s bs)).length:=by
     simp only[enc];split
     ·exact J3 _
     ·rw[J4];omega
    omega
   refine⟨_,X1.rd1 rfl,fun _=>⟨_,_,_,by rw[Z3];exact X1.rd1 rfl,?_⟩,fun hb=>(by cases hb)⟩;refine(Z8D (h3.mod' M01) hbl).mono ?_;rintro _ w2⟨o',k',rfl,F⟩;exact⟨_,_,_,rfl,hR _ _ ⟨o',k',rfl,from1 F⟩⟩
  |l xs =>
   simp only[ItC]at h;obtain⟨h1,h2,o,c,h3,h4,_⟩:=h;cases h1;cases h2;cases h3
   have hel:(Z1r xs).length<=65536:=by
    simp only[enc,J4]at hl;omega
   refine⟨_,X1.rd1 rfl,fun hb=>(by cases hb),fun _=>?_⟩;refine⟨fun o' l' k' i w'=>∃j:Nat,i=(j:Int)/\j<=xs.length/\l'=(Z1r (xs.take j)).length/\ZU w1 w' tU8 1 o' l' k' ((Z1r (xs.take j)).map bV),fun _ _ _ i _=>((xs.length:Int)-i).toNat,⟨0,rfl,JD _,rfl,ZU.nil (Mod.refl w1) _ _⟩,?_⟩;rintro o4 _ k4 _ _ w4⟨j,rfl,hj,rfl,F4⟩;have X4:=X1.mod' F4.mod;have hlen:=Z7a xs;have hc:=Z8X xs;refine⟨_,_,_,by rw[Z3];exact X4.rd1 rfl,fun hlt=>⟨fun hle=>?_,fun hgt=>?_⟩,fun hge=>?_⟩
   ·have hjl:j<xs.length:=by omega
    have M04:=M01.none_trans F4.mod;obtain⟨g,f0,v1,v2,v3,ho,hg,e1,e2,e3,hi⟩:=(Z1q.mod M04 _ h4).get j hjl;obtain⟨bb,p1,q1,r1,p2,q2,r2,rfl,rfl,rfl⟩:=hi.vals;rw[J9]at e1 e2 e3
    have hdj:dep xs[j]<=f:=by
     have:=Z7b (JG hjl);simp only[dep]at hd;omega
    have hej:=ZGN xs hjl;have hle2:=Z2X xs (j+1);rw[hej,J4]at hle2;refine⟨_,_,_,by rw[Z3];exact X4.rd1 rfl,_,ho,⟨by omega,by omega⟩,_,_,_,_,_,_,_,by rw[Z3,J0];exact e1,by rw[Z3,Z3,J0];exact e2,by rw[Z3,Z3,J0];exact e3,?_⟩;refine(Z8p f xs[j] hdj hi (Mod.refl w4) (by omega)).mono ?_;rintro _ w5⟨o5,k5,rfl,F5⟩;obtain⟨o6,k6,w6,hr6,F6⟩:=ZX (k2:=k5) (ty:=23) (F4.mod' F5.mod) F5.own.bytes (by omega);have ew:G V ((j:Int)+1)=((j+1:Nat):Int):=by rw[Z0 (by omega) (by omega)];omega
    rw[ew];rw[<-hej]at F6;refine⟨_,_,_,rfl,_,w6,hr6,_,_,_,rfl,⟨j+1,rfl,hjl,?_,?_⟩,by dsimp only;omega⟩
    ·rw[hej,J4]
    ·exact F6
   ·have:=Z2X xs j
    omega
   ·obtain rfl:j=xs.length:=by omega
    rw[List.take_length]at F4 ⊢;refine(Z4y F4.own.bytes (by omega)).mono ?_;rintro _ w5⟨o5,k5,rfl,F5⟩;refine⟨_,_,_,rfl,hR _ _ ⟨o5,k5,?_,?_⟩⟩
    ·simp only[enc]
    ·simp only[enc]
     exact from1 ⟨F5.own,F4.mod.none_trans F5.mod,fun k hk=>JU F4.mod.size (F5.new k hk)⟩
end Go.Proofs.YtfghidehlnfdiaaGreat
end
section
namespace Go.Proofs.YtfghidehlnfdiaaGreat
open Go Go.Vcg
abbrev Z2h.n:Nat:=121
def Z2h.Vc(a:Option Addr)(b c:Nat)(w:C)(R:J8->C->Prop):Prop :=
 J2 Q 102 #[.slice a b c] w (fun a b =>
 ∃c d e f g h i j,a=J (U #[.agg #[.bool c,.slice d e f,.slice g h i],.int V j]) /\
 ∀a k,ZC b 111 #[.bool I,.slice T 0 0,.slice T 0 0] a k ->
 Z1 k a (.bool c)/\∀b,ZA k a (.bool c) b ->
 Z1 b (a.add 1) (.slice d e f)/\∀c,ZA b (a.add 1) (.slice d e f) c ->
 Z1 c (a.add 2) (.slice g h i)/\∀b,ZA c (a.add 2) (.slice g h i) b ->
 ((j≠0 ->
 R (J (U #[K,.int V j])) b) /\
 (j=0 ->
 ∃c d e f g h i,b.cell? a=O (.bool c) /\
 b.cell? (a.add 1)=O (.slice d e f) /\
 b.cell? (a.add 2)=O (.slice g h i) /\
 J2 Q 135 #[.agg #[.bool c,.slice d e f,.slice g h i]] b (fun a b =>
 ∃c d,a=J (U #[c,.bool d]) /\
 ((d=I ->
 R (J (U #[K,.int V 143])) b) /\
 (d=J6 ->
 R (J (U #[c,.int V 0])) b))))))
theorem Z2h.vc(a b c w R)(h:Z2h.Vc a b c w R):J2 Q 121 #[(.slice a b c)] w R:=xs [] [.slice a b c] Tryz.func121 ZL (by kernel_rfl) h
abbrev Z3k.n:Nat:=135
def Z3k.Vc(a:Bool)(b:Option Addr)(c d:Nat)(e:Option Addr)(f g:Nat)(w:C)(R:J8->C->Prop):Prop :=
 ∀h i,ZC w 111 #[.bool a,.slice b c d,.slice e f g] h i ->
 ∃a,i.cell? h=O (.bool a) /\
 ((a=I ->
 R (J (U #[K,.bool I])) i) /\
 (a=J6 ->
 ∃a b c,i.cell? (h.add 2)=O (.slice a b c) /\
 (((b:Int)=2 ->
 ∀a,ZJ i a ->
 ∃c d e,a.cell? (h.add 2)=O (.slice c d e) /\
 ∃e,c=O e /\
 ((0:Int)<=0/\0<(d:Int)) /\
 ∃c d f g j k l,a.cell? (e.add 0)=O (.bool c) /\
 a.cell? ((e.add 0).add 1)=O (.slice d f g) /\
 a.cell? ((e.add 0).add 2)=O (.slice j k l) /\
 ∃e m n,a.cell? (h.add 2)=O (.slice e m n) /\
 ∃n,e=O n /\
 ((0:Int)<=1/\1<(m:Int)) /\
 ∃e m o p q r s,a.cell? (n.add 3)=O (.bool e) /\
 a.cell? ((n.add 3).add 1)=O (.slice m o p) /\
 a.cell? ((n.add 3).add 2)=O (.slice q r s) /\
 J2 Q 146 #[.agg #[.bool c,.slice d f g,.slice j k l],.agg #[.bool e,.slice m o p,.slice q r s]] a (fun a c =>
 ∃d e,a=J (U #[d,.bool e]) /\
 R (J (U #[d,.bool e])) c)) /\
 ((b:Int)≠2 ->
 ∃a b c,i.cell? (h.add 2)=O (.slice a b c) /\
 (((b:Int)=17 ->
 ∃a c d,i.cell? (h.add 2)=O (.slice a c d) /\
 J2 Q 147 #[.slice a c d] i (fun a c =>
 ∃d e,a=J (U #[d,.bool e]) /\
 R (J (U #[d,.bool e])) c)) /\
 ((b:Int)≠17 ->
 R (J (U #[K,.bool I])) i))))))
theorem Z3k.vc(a b c d e f g w R)(h:Z3k.Vc a b c d e f g w R):J2 Q 135 #[(.agg #[(.bool a),(.slice b c d),(.slice e f g)])] w R:=xs [] [.agg [.bool (.var a),.slice b c d,.slice e f g]] Tryz.func135 ZL (by kernel_rfl) h
abbrev Z3l.n:Nat:=146
def Z3l.Vc(a:Bool)(b:Option Addr)(c d:Nat)(e:Option Addr)(f g:Nat)(h:Bool)(i:Option Addr)(j k:Nat)(l:Option Addr)(m n:Nat)(w:C)(R:J8->C->Prop):Prop :=
 ∀o p,ZC w 111 #[.bool a,.slice b c d,.slice e f g] o p ->
 ∀a b,ZC p 111 #[.bool h,.slice i j k,.slice l m n] a b ->
 ∃c,b.cell? o=O (.bool c) /\
 ((c=J6 ->
 R (J (U #[K,.bool I])) b) /\
 (c=I ->
 ∃c d e,b.cell? (o.add 1)=O (.slice c d e) /\
 J2 Q 99 #[.slice c d e] b (fun b c =>
 ∃d e f g h,b=J (U #[.slice d e f,.bool g,.int V h]) /\
 ((h≠0 ->
 R (J (U #[K,.bool I])) c) /\
 (h=0 ->
 ((g=J6 ->
 ∀b,ZJ c b ->
 ∃h i j,b.cell? (a.add 1)=O (.slice h i j) /\
 ∃k,b.cell? a=O (.bool k) /\
 ((k=I ->
 ∃l m n,b.cell? (a.add 1)=O (.slice l m n) /\
 ∀o p,ZC b 243 #[.slice d e f,.slice h i j] o p ->
 p.cell? (a.add 1)=O (.slice l m n) /\
 p.cell? a=O (.bool k) /\
 R (J (U #[JB 241 (P (O o)),.bool (decide ((m:Int)>0))])) p) /\
 (k=J6 ->
 ∀l m,ZC b 243 #[.slice d e f,.slice h i j] l m ->
 m.cell? a=O (.bool k) /\
 R (J (U #[JB 241 (P (O l)),.bool I])) m))) /\
 (g=I ->
 (((e:Int)=0 ->
 R (J (U #[K,.bool I])) c) /\
 ((e:Int)≠0 ->
 ∃b g h i j k l,c.cell? a=O (.bool b) /\
 c.cell? (a.add 1)=O (.slice g h i) /\
 c.cell? (a.add 2)=O (.slice j k l) /\
 J2 Q 158 #[.agg #[.bool b,.slice g h i,.slice j k l]] c (fun a b =>
 ∃c g,a=J (U #[c,.bool g]) /\
 Value.oneCell' c=J6 /\
 ∀a h,ZC b 251 #[.slice d e f,c] a h ->
 R (J (U #[JB 249 (P (O a)),.bool g])) h))))))))))
theorem Z3l.vc(a b c d e f g i j k l m n o w R)(h:Z3l.Vc a b c d e f g i j k l m n o w R):J2 Q 146 #[(.agg #[(.bool a),(.slice b c d),(.slice e f g)]),(.agg #[(.bool i),(.slice j k l),(.slice m n o)])] w R:=xs [] [.agg [.bool (.var a),.slice b c d,.slice e f g],.agg [.bool (.var i),.slice j k l,.slice m n o]] Tryz.func146 ZL (by kernel_rfl) h
abbrev Z2D.n:Nat:=147
def Z2D.Vc(a:Option Addr)(b c:Nat)(w:C)(R:J8->C->Prop):Prop :=
 ∃d,a=O d /\
 ((0:Int)<=16/\16<(b:Int)) /\
 ∃e,w.cell? (d.add 48)=O (.bool e) /\
 ((e=J6 ->
 R (J (U #[K,.bool I])) w) /\
 (e=I ->
 ∃d,a=O d /\
 ((0:Int)<=16/\16<(b:Int)) /\
 ∃b e f,w.cell? ((d.add 48).add 1)=O (.slice b e f) /\
 ∀d g,ZC w 247 (setsAt #[K,K,K,K,K,K,K,K,K,K,K,K,K,K,K,K,.slice T 0 0] 16 [.slice b e f]) d g ->
 ∃(b:Int->C->Prop),(∃e f h,g.cell? (d.add 16)=O (.slice e f h) /\
 (((f:Int)>0 ->
 b 1 g) /\
 (¬(f:Int)>0 ->
 b 0 g))) /\
 (∀(e:Int)(f:Nat->Value)(f:C),b e f ->
 16<=c /\
 ∃(b:Int->Int->C->Prop)(c:Int->Int->C->Nat),b e 0 f /\
 (∀(e:Int)(f:Int)(g:Nat->Value)(g:C),b e f g ->
 ((f<(16:Int) ->
 ∃h,a=O h /\
 ((0:Int)<=f/\f<(16:Int)) /\
 ∃a i j k l m n,g.cell? (h.add (f.toNat*3))=O (.bool a) /\
 g.cell? ((h.add (f.toNat*3)).add 1)=O (.slice i j k) /\
 g.cell? ((h.add (f.toNat*3)).add 2)=O (.slice l m n) /\
 ∀h o,ZC g 111 #[.bool I,.slice T 0 0,.slice T 0 0] h o ->
 Z1 o h (.bool a)/\∀p,ZA o h (.bool a) p ->
 Z1 p (h.add 1) (.slice i j k)/\∀a,ZA p (h.add 1) (.slice i j k) a ->
 Z1 a (h.add 2) (.slice l m n)/\∀i,ZA a (h.add 2) (.slice l m n) i ->
 ∃(a:C->Prop),(∃j,i.cell? h=O (.bool j) /\
 ((j=I ->
 ∃k l m,i.cell? (h.add 1)=O (.slice k l m) /\
 (((l:Int)=0 ->
 b e (G V (f+1)) i/\c e (G V (f+1)) i<c e f g) /\
 ((l:Int)≠0 ->
 a  i))) /\
 (j=J6 ->
 a  i))) /\
 (∀  (i:Nat->Value)(i:C),a  i ->
 ∃a j k l m n o,i.cell? h=O (.bool a) /\
 i.cell? (h.add 1)=O (.slice j k l) /\
 i.cell? (h.add 2)=O (.slice m n o) /\
 J2 Q 158 #[.agg #[.bool a,.slice j k l,.slice m n o]] i (fun a h =>
 ∃i j,a=J (U #[i,.bool j]) /\
 ((j=I ->
 R (J (U #[K,.bool I])) h) /\
 (j=J6 ->
 ((0:Int)<=f/\f<(16:Int)) /\
 Z1 h (d.add f.toNat) i/\∀a,ZA h (d.add f.toNat) i a ->
 b (G V (e+1)) (G V (f+1)) a/\c (G V (e+1)) (G V (f+1)) a<c e f g))))) /\
 (¬f<(16:Int) ->
 R (J (U #[JB 244 (P (O d)),.bool (decide (e>1))])) g))))))
theorem Z2D.vc(a b c w R)(h:Z2D.Vc a b c w R):J2 Q 147 #[(.slice a b c)] w R:=xs [(1000007,[(5,.cell (.int V))]),(8,[(5,.cell (.int V)),(31,.cell (.int V))]),(1000011,[])] [.slice a b c] Tryz.func147 ZL (by kernel_rfl) h
abbrev Z2E.n:Nat:=158
def Z2E.Vc(a:Bool)(b:Option Addr)(c d:Nat)(e:Option Addr)(f g:Nat)(w:C)(R:J8->C->Prop):Prop :=
 ∀h i,ZC w 111 #[.bool a,.slice b c d,.slice e f g] h i ->
 ∃a,i.cell? h=O (.bool a) /\
 ((a=I ->
 ∃b c d,i.cell? (h.add 1)=O (.slice b c d) /\
 (((c:Int)≠32 ->
 R (J (U #[K,.bool I])) i) /\
 ((c:Int)=32 ->
 ∃b c d,i.cell? (h.add 1)=O (.slice b c d) /\
 32<=c /\
 ∃c,b=O c /\
 ∃b,ZG i c 32 b /\
 Array.size b=32 /\
 ∀c d,ZC i 228 (lputL (Array.replicate 32 (.int JV 0)) 0 32 b) c d ->
 R (J (U #[JB 226 (P (O c)),.bool J6])) d))) /\
 (a=J6 ->
 ∃a b c d e f g,i.cell? h=O (.bool a) /\
 i.cell? (h.add 1)=O (.slice b c d) /\
 i.cell? (h.add 2)=O (.slice e f g) /\
 J2 Q 143 #[.agg #[.bool a,.slice b c d,.slice e f g]] i (fun a b =>
 ∃c d e f,a=J (U #[.slice c d e,.int V f]) /\
 ((f≠0 ->
 R (J (U #[K,.bool I])) b) /\
 (f=0 ->
 (((d:Int)>=32 ->
 R (J (U #[K,.bool I])) b) /\
 (¬(d:Int)>=32 ->
 ∃a c d e f g i,b.cell? h=O (.bool a) /\
 b.cell? (h.add 1)=O (.slice c d e) /\
 b.cell? (h.add 2)=O (.slice f g i) /\
 J2 Q 135 #[.agg #[.bool a,.slice c d e,.slice f g i]] b (fun a b =>
 ∃c d,a=J (U #[c,.bool d]) /\
 R (J (U #[c,.bool d])) b))))))))
theorem Z2E.vc(a b c d e f g w R)(h:Z2E.Vc a b c d e f g w R):J2 Q 158 #[(.agg #[(.bool a),(.slice b c d),(.slice e f g)])] w R:=xs [] [.agg [.bool (.var a),.slice b c d,.slice e f g]] Tryz.func158 ZL (by kernel_rfl) h
abbrev Z3i.n:Nat:=101
def Z3i.Vc(a:Option Addr)(b c:Nat)(w:C)(R:J8->C->Prop):Prop :=
 J2 Q 121 #[.slice a b c] w (fun a b =>
 ∃c d,a=J (U #[c,.int V d]) /\
 R (J (.int V d)) b)
theorem Z3i.vc(a b c w R)(h:Z3i.Vc a b c w R):J2 Q 101 #[(.slice a b c)] w R:=xs [] [.slice a b c] Tryz.func101 ZL (by kernel_rfl) h
end Go.Proofs.YtfghidehlnfdiaaGreat
end
section
namespace Go.Trie
def isE:It->Bool
 | .s []=>J6
 |_=>I
def ZHi:It->Bool
 | .s (_::_)=>J6
 |_=>I
end Go.Trie
end
section
namespace Go.Proofs.YtfghidehlnfdiaaGreat
open Go Go.Vcg Go.Trie
def Z1C:It->Option (By×Bool)
 | .s p=>Z1p p
 | .l _=>T
def Z4U:Nat->List It->Bool
 |0,_=>I
 |f+1,xs =>
  let ref:It->Bool:=fun x=>match x with
   | .s b=>decide (b.length=32)
   | .l ys=>decide ((enc (.l ys)).length<32)&&Z4U f ys
  if xs.length=2 then
   match Z1C (xs.getD 0 (.s []))with
   |none=>I
   |some (_,J6)=>ZHi (xs.getD 1 (.s []))
   |some (p,I)=>decide (p≠[])&&ref (xs.getD 1 (.s []))
  else if xs.length=17 then
   match xs.getD 16 (.s [])with
   | .l _=>I
   | .s v=>(xs.take 16).all (fun x=>isE x||ref x)&&decide (2<=(if v=[]then 0 else 1)+((xs.take 16).filter (fun x=> !isE x)).length)
  else I
def Z62(f:Nat)(x:It):Bool:=match x with
 | .s b=>decide (b.length=32)
 | .l ys=>decide ((enc (.l ys)).length<32)&&Z4U f ys
def isN(f:Nat)(x:It):Bool:=match x with
 | .s _=>I
 | .l xs=>Z4U f xs
theorem Z9J{f:Nat}{xs:List It}(h:xs.length=2):Z4U (f+1) xs=(match Z1C (xs.getD 0 (.s []))with
  |none=>I
  |some (_,J6)=>ZHi (xs.getD 1 (.s []))
  |some (p,I)=>decide (p≠[])&&Z62 f (xs.getD 1 (.s []))):=by
 simp only[Z4U];rw[if_pos h];rfl
theorem Z7l{f:Nat}{xs:List It}(h:xs.length=17):Z4U (f+1) xs=(match xs.getD 16 (.s [])with
  | .l _=>I
  | .s v=>(xs.take 16).all (fun x=>isE x||Z62 f x)&&decide (2<=(if v=[]then 0 else 1)+((xs.take 16).filter (fun x=> !isE x)).length)):=by
 simp only[Z4U];rw[if_neg (by omega),if_pos h];rfl
theorem ZBC{f:Nat}{xs:List It}(h:xs.length≠2)(h':xs.length≠17):Z4U (f+1) xs=I:=by
 simp only[Z4U];rw[if_neg h,if_neg h']
def RV(N:Nat):Nat->C->It->Value->Prop
 |_,w,.s b,v=>(b=[]/\v=K)\/(b.length=32/\∃D,N<=D/\v=JB 226 (P (O ⟨D,0,T⟩))/\Blk w D 228 (hashA b))
 |0,_,.l _,_=>False
 |f+1,w,.l xs,v =>
  (xs.length=2/\(∃p,Z1C (xs.getD 0 (.s []))=O (p,J6))/\∃d:Addr,v=JB 241 (P (O d))) \/
  (xs.length=2/\(∃p,Z1C (xs.getD 0 (.s []))=O (p,I))/\∃D s vc,N<=D/\v=JB 249 (P (O ⟨D,0,T⟩))/\Blk w D 251 #[s,vc]/\RV N f w (xs.getD 1 (.s [])) vc) \/
  (xs.length=17/\∃D vs ov lv kv,N<=D/\v=JB 244 (P (O ⟨D,0,T⟩))/\Blk w D 247 (brA vs ov lv kv)/\∀i:Fin 16,RV N f w (xs.getD i.val (.s [])) (vs i))
theorem RV.modS{S:Nat->Prop}{N N':Nat}{w w':C}(M:Vcg.Mod S w w')(hS:∀b,S b->b<N)(hN:N'<=N):∀{f:Nat} {x:It} {v:Value},RV N f w x v->RV N' f w' x v
 |f,.s b,v,h=>by
  simp only[RV]at h ⊢;rcases h with h|⟨h1,D,h0,h2,h3⟩
  ·exact JJ h
  ·exact JH ⟨h1,D,by omega,h2,h3.mod M (fun h=>by have:=hS _ h;omega)⟩
 |0,.l _,_,h=>by simp only[RV]at h
 |f+1,.l xs,v,h=>by
  simp only[RV]at h ⊢;rcases h with h|⟨h1,h2,D,s,vc,h0,h3,h4,h5⟩|⟨h1,D,vs,ov,lv,kv,h0,h2,h3,h4⟩
  ·exact JJ h
  ·exact JH (JJ ⟨h1,h2,D,s,vc,by omega,h3,h4.mod M (fun h=>by have:=hS _ h;omega),RV.modS M hS hN h5⟩)
  ·exact JH (JH ⟨h1,D,vs,ov,lv,kv,by omega,h2,h3.mod M (fun h=>by have:=hS _ h;omega),fun i=>RV.modS M hS hN (h4 i)⟩)
theorem RV.mod'{N N':Nat}{w w':C}(M:Vcg.Mod NoB w w')(hN:N'<=N){f:Nat}{x:It}{v:Value}(h:RV N f w x v):RV N' f w' x v:=RV.modS M (fun _ h=>h.elim) hN h
def ZA1(x:It):Prop:=dep x<=16/\count x<=4096/\(enc x).length<=65536
theorem ZA1.mem{xs:List It}(h:ZA1 (.l xs)){x:It}(hx:x∈xs):ZA1 x:=by
 obtain⟨h1,h2,h3⟩:=h;have hd:=Z7b hx;have he:=ZAv hx
 have hc:count x<=Z0h xs:=by
  clear h1 h2 h3 hd he
  induction xs with
  |nil=>cases hx
  |cons y r ih =>
   simp only[Z0h];rcases List.mem_cons.1 hx with rfl|hx
   ·omega
   ·have:=ih hx;omega
 have hl:1<=xs.length:=List.length_pos_iff.2 (List.ne_nil_of_mem hx);simp only[dep]at h1;simp only[count]at h2;simp only[enc,J4]at h3;exact⟨by omega,by omega,by omega⟩
def ZFz(f:Nat):Prop:=∀(x:It) {A:Nat->Prop} {w:C} {v1 v2 v3:Value},dep x<=f->ZA1 x->ItC A w x v1 v2 v3 ->
 J2 Q Z3k.n #[.agg #[v1,v2,v3]] w (fun e w'=>∃v,e=J (U #[v,.bool (isN f x)])/\Vcg.Mod NoB w w'/\v.oneCell'=J6/\(isN f x=J6->RV w.heap.size f w' x v))
def ZD8(f:Nat):Prop:=∀(x:It) {A:Nat->Prop} {w:C} {v1 v2 v3:Value},dep x<=f->ZA1 x->ItC A w x v1 v2 v3 ->
 J2 Q Z2E.n #[.agg #[v1,v2,v3]] w (fun e w'=>∃v,e=J (U #[v,.bool (Z62 f x)])/\Vcg.Mod NoB w w'/\v.oneCell'=J6/\(Z62 f x=J6->RV w.heap.size f w' x v))
theorem ZIM{Z L:Array Value}(hZ:Z.size=32)(hL:L.size=32):lputL Z 0 32 L=L:=by
 unfold lputL;have ht:L.toList.take 32=L.toList:=List.take_of_length_le (by simp[hL]);rw[ht];apply Array.ext_getElem?;intro i;rw[Zn _ _ _ _ (by simp[hL,hZ])];by_cases hi:i<32
 ·rw[if_pos ⟨JD _,by simp[hL];exact hi⟩,Nat.sub_zero,Array.getElem?_toList]
 ·rw[if_neg (by simp[hL];omega),Array.getElem?_eq_none (by omega),Array.getElem?_eq_none (by omega)]
theorem ZIZ{f:Nat}(hN:ZFz f):ZD8 f:=by
 intro x A w v1 v2 v3 hdp hf hx;obtain⟨b,o1,l1,c1,o2,l2,c2,rfl,rfl,rfl⟩:=hx.vals;refine ZD fun R hR=>Z2E.vc _ _ _ _ _ _ _ _ _ ?_;unfold Z2E.Vc;rintro d3 w1⟨rfl,rfl⟩;have M1:Vcg.Mod NoB w _:=Mod.alloc w (J1 #[.bool b,.slice o1 l1 c1,.slice o2 l2 c2] 111);have X1:=Blk.new w 111 #[.bool b,.slice o1 l1 c1,.slice o2 l2 c2];generalize w.alloc (J1 #[.bool b,.slice o1 l1 c1,.slice o2 l2 c2] 111)=w1 at *
 have hx1:=ItC.mod M1 _ hx;cases x with
 |s bs =>
  have hx1':=hx1;simp only[ItC]at hx1;obtain⟨h1,⟨o,c,h2,h3,h4⟩,h5⟩:=hx1;cases h1;cases h2;cases h5;refine⟨_,X1.rd1 rfl,fun _=>⟨_,_,_,by rw[Z3];exact X1.rd1 rfl,fun hn=>?_,fun hn=>⟨_,_,_,by rw[Z3];exact X1.rd1 rfl,by omega,?_⟩⟩,fun h=>(by cases h)⟩
  ·refine hR _ _ ⟨K,?_,M1,rfl,fun h=>?_⟩
   ·simp only[Z62];rw[decide_eq_false (by omega)]
   ·simp only[Z62,decide_eq_true_eq]at h;omega
  ·obtain⟨g,f0,rfl,hg,hc⟩:=h3 (by rintro rfl;simp at hn)
   refine⟨_,rfl,hashA bs,⟨ZB bs,fun i hi=>?_⟩,ZB bs,?_⟩
   ·rw[Z3,hc i (by omega)]
    simp only[hashA];exact(ZF (f:=fun i=>bV (bs.getD i 0)) hi).symm
   ·rw[ZIM (by simp) (ZB bs)]
    rintro d4 w2⟨rfl,rfl⟩;refine hR _ _ ⟨JB 226 (P (O ⟨w1.heap.size,0,T⟩)),?_,M1.step_alloc _,rfl,fun _=>?_⟩
    ·simp only[Z62];rw[decide_eq_true (by omega)]
    ·simp only[RV]
     exact JH ⟨by omega,_,M1.size,rfl,Blk.new w1 228 (hashA bs)⟩
 |l xs =>
  have hx1':=hx1;simp only[ItC]at hx1;obtain⟨h1,h2,o,c,h3,h4,hcap⟩:=hx1;cases h1;cases h2;cases h3;refine⟨_,X1.rd1 rfl,fun h=>(by cases h),fun _=>Z60 X1 ?_⟩;refine(Z3F hx1' hf.1 hf.2.1 hf.2.2).mono ?_;rintro _ w2⟨o',k',rfl,F⟩;have M02:=M1.none_trans F.mod;have X2:=X1.mod' F.mod;refine⟨_,_,_,_,rfl,fun h=>(h rfl).elim,fun _=>⟨fun hge=>?_,fun hlt=>Z60 X2 ?_⟩⟩
  ·refine hR _ _ ⟨K,?_,M02,rfl,fun h=>?_⟩
   ·simp only[Z62];rw[decide_eq_false (by omega)];rfl
   ·simp only[Z62,Bool.and_eq_true,decide_eq_true_eq]at h;omega
  ·refine(hN (.l xs) hdp hf (ItC.mod F.mod _ hx1')).mono ?_
   rintro _ w3⟨v,rfl,M3,hv,hrv⟩
   have e:Z62 f (.l xs)=isN f (.l xs):=by
    simp only[Z62,isN];rw[decide_eq_true (by omega)];rfl
   exact⟨_,_,rfl,hR _ _ ⟨v,by rw[e],M02.none_trans M3,hv,fun h=>RV.mod' (Mod.refl _) M02.size (hrv (by rw[<-e];exact h))⟩⟩
theorem ZDj{f:Nat}(hRf:ZD8 f){x y:It}{A:Nat->Prop}{w:C}{v1 v2 v3 u1 u2 u3:Value}(hdy:dep y<=f)(hfx:ZA1 x)(hfy:ZA1 y)(hx:ItC A w x v1 v2 v3)(hy:ItC A w y u1 u2 u3) :
  J2 Q Z3l.n #[.agg #[v1,v2,v3],.agg #[u1,u2,u3]] w (fun e w'=>∃v,e=J (U #[v,.bool (Z4U (f+1) [x,y])])/\Vcg.Mod NoB w w'/\v.oneCell'=J6/\(Z4U (f+1) [x,y]=J6->RV w.heap.size (f+1) w' (.l [x,y]) v)):=by
 obtain⟨b,o1,l1,c1,o2,l2,c2,rfl,rfl,rfl⟩:=hx.vals;obtain⟨b',p1,q1,r1,p2,q2,r2,rfl,rfl,rfl⟩:=hy.vals;refine ZD fun R hR=>Z3l.vc _ _ _ _ _ _ _ _ _ _ _ _ _ _ _ _ ?_;unfold Z3l.Vc
 have hnode:Z4U (f+1) [x,y]=(match Z1C x with
  |none=>I
  |some (_,J6)=>ZHi y
  |some (p,I)=>decide (p≠[])&&Z62 f y):=Z9J rfl
 rintro d6 w1⟨rfl,rfl⟩;have M1:Vcg.Mod NoB w _:=Mod.alloc w (J1 #[.bool b,.slice o1 l1 c1,.slice o2 l2 c2] 111);have X1:=Blk.new w 111 #[.bool b,.slice o1 l1 c1,.slice o2 l2 c2];generalize w.alloc (J1 #[.bool b,.slice o1 l1 c1,.slice o2 l2 c2] 111)=w1 at *
 rintro d8 w2⟨rfl,rfl⟩;have M12:Vcg.Mod NoB w1 _:=Mod.alloc w1 (J1 #[.bool b',.slice p1 q1 r1,.slice p2 q2 r2] 111);have Y2:=Blk.new w1 111 #[.bool b',.slice p1 q1 r1,.slice p2 q2 r2];have X2:=X1.mod' M12;have M2:=M1.none_trans M12;generalize w1.heap.size=N' at *
 generalize w1.alloc (J1 #[.bool b',.slice p1 q1 r1,.slice p2 q2 r2] 111)=w2 at *
 have hx2:=ItC.mod M2 _ hx;have hy2:=ItC.mod M2 _ hy
 have no:∀w',Z1C x=T->Vcg.Mod NoB w w'->R (J (U #[K,.bool I])) w':=fun w' h M=>by
  rw[h]at hnode;exact hR _ _ ⟨K,by rw[hnode],M,rfl,fun h=>by rw[hnode]at h;cases h⟩
 refine⟨_,X2.rd1 rfl,fun hb=>no _ ?_ M2,fun hb=>⟨_,_,_,by rw[Z3];exact X2.rd1 rfl,?_⟩⟩
 ·cases x with
  |s bs=>simp only[ItC]at hx2;cases hx2.1;cases hb
  |l xs=>rfl
 cases x with
 |l xs=>simp only[ItC]at hx2;cases hx2.1;cases hb
 |s bs =>
  simp only[ItC]at hx2;obtain⟨h1,⟨o,c,h2,h3,h4⟩,h5⟩:=hx2;cases h1;cases h2;cases h5
  have hbl:bs.length<=2^20:=by
   have:bs.length<=(enc (.s bs)).length:=by
    simp only[enc];split
    ·exact J3 _
    ·rw[J4];omega
   have:=hfx.2.2;omega
  simp only[Z1C]at hnode no;refine(Z7x h3 hbl).mono ?_;rintro _ w3⟨o',k',rfl,M3,R3,_⟩;have M03:=M2.none_trans M3;have Y3:=Y2.mod' M3;have hy3:=ItC.mod M3 _ hy2;cases hu:Z1p bs with
  |none =>
   have e:upk bs=([],I,143):=by unfold upk;rw[hu]
   rw[e];exact⟨_,_,_,_,_,rfl,fun _=>no _ hu M03,fun h=>absurd h (by decide)⟩
  |some r =>
   obtain⟨p,lf⟩:=r;have e:upk bs=(p,lf,0):=by unfold upk;rw[hu]
   rw[e];rw[hu]at hnode;refine⟨_,_,_,_,_,rfl,fun h=>(h rfl).elim,fun _=>⟨fun hlf=>?_,fun hlf=>?_⟩⟩
   ·subst hlf
    simp only at hnode;rintro _ rfl;have M4:Vcg.Mod NoB w3 w3.drew:=Mod.drew w3;have Y4:=Y3.mod' M4;have M04:=M03.none_trans M4;generalize w3.drew=w4 at *
    have hrv:∀(w':C)(d:Addr),RV w.heap.size (f+1) w' (.l [.s bs,y]) (JB 241 (P (O d))):=fun w' d=>by
     simp only[RV];exact JJ ⟨rfl,⟨p,hu⟩,d,rfl⟩
    cases y with
    |s vs =>
     simp only[ItC]at hy3;obtain⟨h1,⟨oy,cy,h2,h3',h4'⟩,h5⟩:=hy3;cases h1;cases h2;cases h5;refine⟨_,_,_,by rw[Z3];exact Y4.rd1 rfl,_,Y4.rd1 rfl,fun _=>⟨_,_,_,by rw[Z3];exact Y4.rd1 rfl,?_⟩,fun h=>(by cases h)⟩;rintro d5 w5⟨rfl,rfl⟩;refine⟨by rw[Z3];exact(Y4.mod' (Mod.alloc w4 _)).rd1 rfl,(Y4.mod' (Mod.alloc w4 _)).rd1 rfl,hR _ _ ⟨JB 241 (P (O ⟨w4.heap.size,0,T⟩)),?_,M04.none_trans (Mod.alloc w4 _),rfl,fun _=>hrv _ _⟩⟩;rw[hnode];cases vs with
     |nil=>rfl
     |cons a r=>rw[decide_eq_true (by simp only[List.length_cons];omega)];rfl
    |l ys =>
     simp only[ItC]at hy3;obtain⟨h1,h2,oy,cy,h3',h4',_⟩:=hy3;cases h1;cases h2;cases h3';refine⟨_,_,_,by rw[Z3];exact Y4.rd1 rfl,_,Y4.rd1 rfl,fun h=>(by cases h),fun _=>?_⟩;rintro d5 w5⟨rfl,rfl⟩;refine⟨(Y4.mod' (Mod.alloc w4 _)).rd1 rfl,hR _ _ ⟨JB 241 (P (O ⟨w4.heap.size,0,T⟩)),?_,M04.none_trans (Mod.alloc w4 _),rfl,fun _=>hrv _ _⟩⟩;rw[hnode];rfl
   ·subst hlf
    simp only at hnode;refine⟨fun hz=>?_,fun hz=>Z60 Y3 ?_⟩
    ·have hp:p=[]:=J5 (by dsimp only at hz;omega)
     rw[hp]at hnode;simp only[ne_eq,not_true_eq_false,decide_false,JQ]at hnode;exact hR _ _ ⟨K,by rw[hnode],M03,rfl,fun h=>by rw[hnode]at h;cases h⟩
    ·have hp:p≠[]:=by rintro rfl;simp at hz
     rw[decide_eq_true hp,JS]at hnode;refine(hRf y hdy hfy hy3).mono ?_;rintro _ w4⟨v,rfl,M4,hv,hrv⟩;refine⟨_,_,rfl,hv,?_⟩;rintro d5 w5⟨rfl,rfl⟩;have M5:Vcg.Mod NoB w4 _:=Mod.alloc w4 (J1 #[.slice o' p.length k',v] 251);refine hR _ _ ⟨JB 249 (P (O ⟨w4.heap.size,0,T⟩)),by rw[hnode],(M03.none_trans M4).none_trans M5,rfl,fun h=>?_⟩;rw[hnode]at h;simp only[RV];exact JH (JJ ⟨rfl,⟨p,hu⟩,_,_,v,(M03.none_trans M4).size,rfl,Blk.new w4 251 _,RV.mod' M5 M03.size (hrv h)⟩)
theorem Z1m{xs:List It}{j:Nat}(h:j<xs.length):xs.getD j (.s [])=xs[j]:=by
 rw[J7,JE h];rfl
theorem Z9q{f:Nat}(hRf:ZD8 f){xs:List It}{A:Nat->Prop}{w:C}{o:Option Addr}{c:Nat}(h17:xs.length=17)(hd:∀x∈xs,dep x<=f)(hf:∀x∈xs,ZA1 x)(hx:Z1q A w xs o 0)(hc:xs.length<=c) :
  J2 Q Z2D.n #[.slice o xs.length c] w (fun e w'=>∃v,e=J (U #[v,.bool (Z4U (f+1) xs)])/\Vcg.Mod NoB w w'/\v.oneCell'=J6/\(Z4U (f+1) xs=J6->RV w.heap.size (f+1) w' (.l xs) v)):=by
 refine ZD fun R hR=>Z2D.vc _ _ _ _ _ ?_;unfold Z2D.Vc;have hnode:=Z7l (f:=f) h17;rw[Z1m (by omega)]at hnode;obtain⟨g,f0,v1,v2,v3,rfl,hg,e1,e2,e3,hi⟩:=hx.get 16 (by omega);have at16:=hi;refine⟨_,rfl,⟨by omega,by omega⟩,?_⟩;generalize hx16:xs[16]=x16 at *
 cases x16 with
 |l ys =>
  simp only[ItC]at hi;obtain⟨rfl,_⟩:=hi;refine⟨J6,by rw[Z3];exact e1,fun _=>hR _ _ ⟨K,by rw[hnode],Mod.refl w,rfl,fun h=>by rw[hnode]at h;cases h⟩,fun h=>(by cases h)⟩
 |s v =>
  simp only[ItC]at hi;obtain⟨rfl,⟨ov,cv,rfl,hv,_⟩,rfl⟩:=hi;refine⟨I,by rw[Z3];exact e1,fun h=>(by cases h),fun _=>⟨_,rfl,⟨by omega,by omega⟩,_,_,_,by rw[Z3,Z3];exact e2,?_⟩⟩;simp only at hnode;rintro d7 w1⟨rfl,rfl⟩;have hZ:setsAt #[K,K,K,K,K,K,K,K,K,K,K,K,K,K,K,K,(.slice T 0 0)] 16 [(.slice ov v.length cv)]=brA (fun _=>K) ov v.length cv:=rfl;rw[hZ];have M1:Vcg.Mod NoB w _:=Mod.alloc w (J1 (brA (fun _=>K) ov v.length cv) 247);have B1:=Blk.new w 247 (brA (fun _=>K) ov v.length cv);have hs1:=ZE w (J1 (brA (fun _=>K) ov v.length cv) 247);generalize hN:w.heap.size=N at *
  generalize w.alloc (J1 (brA (fun _=>K) ov v.length cv) 247)=w1 at *
  generalize hbase:(if v=[]then 0 else 1)=base at *
  refine⟨fun n w'=>w'=w1/\n=(base:Int),⟨_,_,_,by rw[Z3,J9];exact B1.rd1 (Z8w _ _ _ _),fun h=>⟨rfl,?_⟩,fun h=>⟨rfl,?_⟩⟩,?_⟩
  ·rw[<-hbase,if_neg (by rintro rfl;simp at h)];rfl
  ·rw[<-hbase,if_pos (J5 (by omega))];rfl
  rintro _ _ w1⟨rfl,rfl⟩;have hb1:base<=1:=by rw[<-hbase];split<;>omega
  refine⟨by omega,fun n i w'=>∃(j:Nat)(vs:Fin 16->Value),i=(j:Int)/\j<=16/\n=((base+((xs.take j).filter (fun x=> !isE x)).length:Nat):Int)/\(xs.take j).all (fun x=>isE x||Z62 f x)=J6/\Vcg.Mod NoB w w'/\w1.heap.size<=w'.heap.size/\Blk w' N 247 (brA vs ov v.length cv)/\(∀q:Fin 16,q.val<j->RV w1.heap.size f w' (xs.getD q.val (.s [])) (vs q))/\(∀q:Fin 16,j<=q.val->vs q=K),fun _ i _=>((16:Int)-i).toNat,⟨0,fun _=>K,rfl,JD _,by simp,by simp,M1,J3 _,B1,fun q h=>absurd h (by omega),fun _ _=>rfl⟩,?_⟩;rintro _ _ _ w2⟨j,vs,rfl,hj,rfl,hall,M2,hs2,B2,hdone,hrest⟩;have ew:G V ((j:Int)+1)=((j+1:Nat):Int):=by rw[Z0 (by omega) (by omega)];omega
  have hcl:((xs.take j).filter (fun x=> !isE x)).length<=16:=JU (List.length_filter_le _ _) (by rw[JM];omega);refine⟨fun hlt=>?_,fun hge=>?_⟩
  ·have hjl:j<xs.length:=by omega
   have hj16:j<16:=by omega
   obtain⟨g',f',u1,u2,u3,ho,hg',d1,d2,d3,hij⟩:=(Z1q.mod M2 _ hx).get j hjl;cases ho;rw[J9]at d1 d2 d3;obtain⟨b,p1,q1,r1,p2,q2,r2,rfl,rfl,rfl⟩:=hij.vals;refine⟨_,rfl,⟨by omega,by omega⟩,_,_,_,_,_,_,_,by rw[Z3,J0];exact d1,by rw[Z3,Z3,J0];exact d2,by rw[Z3,Z3,J0];exact d3,?_⟩;rintro d27 w3⟨rfl,rfl⟩;have H:=Blk.new w2 111 #[.bool I,.slice T 0 0,.slice T 0 0];have M23:Vcg.Mod NoB w2 _:=Mod.alloc w2 (J1 #[.bool I,.slice T 0 0,.slice T 0 0] 111);refine Z9m H rfl rfl rfl (fun w4 H4 Q4=>?_);have M24:Vcg.Mod NoB w2 w4:=ZI M23 Q4 (J3 _);have M4:=M2.none_trans M24;have B4:=B2.mod' M24;have hij4:=ItC.mod M24 _ hij;have hs4:=M24.size;have hdone4:∀q:Fin 16,q.val<j->RV w1.heap.size f w4 (xs.getD q.val (.s [])) (vs q):=fun q hq=>RV.mod' M24 (J3 _) (hdone q hq);generalize w2.heap.size=HH at *
   clear M23 Q4 H M24 B2 hij hdone;have htk:xs.take (j+1)=xs.take j++[xs[j]]:=JA hjl;refine⟨fun w'=>w'=w4/\isE xs[j]=I,⟨_,H4.rd1 rfl,fun hb=>⟨_,_,_,by rw[Z3];exact H4.rd1 rfl,fun hz=>?_,fun hz=>⟨rfl,?_⟩⟩,fun hb=>⟨rfl,?_⟩⟩,?_⟩
   ·
    have he:xs[j]=.s []:=by
     cases hq:xs[j]with
     |l ys=>rw[hq]at hij4;simp only[ItC]at hij4;cases hij4.1;cases hb
     |s bs =>
      rw[hq]at hij4;simp only[ItC]at hij4;obtain⟨_,⟨oo,cc,h2,_⟩,_⟩:=hij4;cases h2;rw[J5 (by omega:bs.length=0)]
    rw[ew];refine⟨⟨j+1,vs,rfl,hj16,?_,?_,M4,by omega,B4,fun q hq=>?_,fun q hq=>hrest q (by omega)⟩,by dsimp only;omega⟩
    ·rw[htk,JK,he];simp[isE]
    ·rw[htk,JN,hall,he];simp[isE]
    ·by_cases hqj:q.val<j
     ·exact hdone4 q hqj
     ·have hqe:q.val=j:=by omega
      rw[hqe,Z1m hjl,he,hrest q (by omega)];simp only[RV];exact JJ ⟨trivial,trivial⟩
   ·cases hq:xs[j]with
    |l ys=>rfl
    |s bs =>
     rw[hq]at hij4;simp only[ItC]at hij4;obtain⟨_,⟨oo,cc,h2,_⟩,_⟩:=hij4;cases h2;cases bs with
     |nil=>simp at hz
     |cons a r=>rfl
   ·cases hq:xs[j]with
    |l ys=>rfl
    |s bs =>
     rw[hq]at hij4;simp only[ItC]at hij4;cases hij4.1;cases hb
   ·rintro _ w4⟨rfl,hne⟩
    refine Z60 H4 ?_;refine(hRf xs[j] (hd _ (JG hjl)) (hf _ (JG hjl)) hij4).mono ?_;rintro _ w5⟨u,rfl,M5,hu,hru⟩;have M05:=M4.none_trans M5;have B5:=B4.mod' M5;have hs5:=M5.size;refine⟨_,_,rfl,fun hb=>?_,fun hb=>⟨⟨by omega,by omega⟩,?_⟩⟩
    ·have hfalse:Z4U (f+1) xs=I:=by
       rw[hnode]
       have:(xs.take 16).all (fun x=>isE x||Z62 f x)=I:=by
        rw[List.all_eq_false];refine⟨xs[j],?_,by rw[hne,hb];decide⟩;rw[List.mem_take_iff_getElem];exact⟨j,by omega,rfl⟩
       rw[this,JQ]
     exact hR _ _ ⟨K,by rw[hfalse],M05,rfl,fun h=>by rw[hfalse]at h;cases h⟩
    ·rw[Z3,J9,J0]
     refine⟨B5.canSet (by rw[Z1n];omega) hu,?_⟩;rintro _ rfl;have Q6:Vcg.Mod (·=N) w5 _:=Mod.setCell w5 ⟨N,j,T⟩ u;have B6:=B5.set j u;rw[ZDD _ _ _ _ _ hj16]at B6;have M06:Vcg.Mod NoB w _:=ZI M05 Q6 (by omega)
     have en:G V (((base+((xs.take j).filter (fun x=> !isE x)).length:Nat):Int)+1)=((base+((xs.take (j+1)).filter (fun x=> !isE x)).length:Nat):Int):=by
      rw[Z0 (by omega) (by omega),htk,JK,J4];simp only[List.filter_cons,hne,Bool.not_false,if_true,List.filter_nil,JC];omega
     rw[ew,en];refine⟨⟨j+1,ZIq vs j u,rfl,hj16,rfl,?_,M06,by rw[Z5e];omega,B6,fun q hq=>?_,fun q hq=>?_⟩,by dsimp only;omega⟩
     ·rw[htk,JN,hall]
      simp only[List.all_cons,List.all_nil,hb,Bool.or_true,Bool.and_self,Bool.and_true]
     ·unfold ZIq
      by_cases hqj:q.val=j
      ·rw[if_pos hqj,hqj,Z1m hjl]
       exact RV.modS Q6 (fun b h=>by omega) (by omega) (hru hb)
      ·rw[if_neg hqj]
       exact RV.modS Q6 (fun b h=>by omega) (J3 _) (RV.mod' M5 (J3 _) (hdone4 q (by omega)))
     ·unfold ZIq
      rw[if_neg (by omega)];exact hrest q (by omega)
  ·obtain rfl:j=16:=by omega
   have hdec:decide (((base+((xs.take 16).filter (fun x=> !isE x)).length:Nat):Int)>1)=Z4U (f+1) xs:=by
    rw[hnode,hall,JS,Bool.eq_iff_iff,decide_eq_true_eq,decide_eq_true_eq];omega
   rw[hdec];refine hR _ _ ⟨JB 244 (P (O ⟨N,0,T⟩)),rfl,M2,rfl,fun _=>?_⟩;simp only[RV];exact JH (JH ⟨h17,N,vs,ov,v.length,cv,by omega,rfl,B2,fun q=>RV.mod' (Mod.refl _) (by omega) (hdone q q.isLt)⟩)
theorem ZCV:∀f,ZFz f
 |0,x,_,_,_,_,_,hd,_,_=>absurd (ZDN x) (by omega)
 |f+1,x,A,w,v1,v2,v3,hd,hf,hx=>by
  have hRf:=ZIZ (ZCV f);obtain⟨b,o1,l1,c1,o2,l2,c2,rfl,rfl,rfl⟩:=hx.vals;refine ZD fun R hR=>Z3k.vc _ _ _ _ _ _ _ _ _ ?_;unfold Z3k.Vc;rintro d3 w1⟨rfl,rfl⟩;have M1:Vcg.Mod NoB w _:=Mod.alloc w (J1 #[.bool b,.slice o1 l1 c1,.slice o2 l2 c2] 111);have X1:=Blk.new w 111 #[.bool b,.slice o1 l1 c1,.slice o2 l2 c2];generalize w.alloc (J1 #[.bool b,.slice o1 l1 c1,.slice o2 l2 c2] 111)=w1 at *
  have hx1:=ItC.mod M1 _ hx;cases x with
  |s bs =>
   simp only[ItC]at hx1;obtain⟨h1,_,_⟩:=hx1;cases h1;exact⟨_,X1.rd1 rfl,fun _=>hR _ _ ⟨K,rfl,M1,rfl,fun h=>by cases h⟩,fun h=>(by cases h)⟩
  |l xs =>
   simp only[ItC]at hx1;obtain⟨h1,h2,o,c,h3,h4,hc⟩:=hx1;cases h1;cases h2;cases h3
   have hds:∀x∈xs,dep x<=f:=fun x hx=>by
    have:=Z7b hx;simp only[dep]at hd;omega
   refine⟨_,X1.rd1 rfl,fun h=>(by cases h),fun _=>⟨_,_,_,by rw[Z3];exact X1.rd1 rfl,fun h2=>?_,fun h2=>⟨_,_,_,by rw[Z3];exact X1.rd1 rfl,fun h17=>⟨_,_,_,by rw[Z3];exact X1.rd1 rfl,?_⟩,fun h17=>?_⟩⟩⟩
   ·obtain⟨x,y,rfl⟩:∃x y,xs=[x,y]:=by
      cases xs with
      |nil=>simp at h2
      |cons x r =>
       cases r with
       |nil=>simp at h2
       |cons y r =>
        cases r with
        |nil=>exact⟨x,y,rfl⟩
        |cons z r=>simp at h2;omega
    rintro _ rfl;have M2:Vcg.Mod NoB w1 w1.drew:=Mod.drew w1;have X2:=X1.mod' M2;have h4':=Z1q.mod M2 _ h4;have M02:=M1.none_trans M2;generalize w1.drew=w2 at *
    obtain⟨g,f0,u1,u2,u3,rfl,hg,e1,e2,e3,hi⟩:=h4'.get 0 (by simp);obtain⟨g',f0',t1,t2,t3,ho,hg',d1,d2,d3,hi'⟩:=h4'.get 1 (by simp);cases ho;have hix:ItC A w2 x u1 u2 u3:=hi;have hiy:ItC A w2 y t1 t2 t3:=hi';obtain⟨_,_,_,_,_,_,_,rfl,rfl,rfl⟩:=hix.vals;obtain⟨_,_,_,_,_,_,_,rfl,rfl,rfl⟩:=hiy.vals;refine⟨_,_,_,by rw[Z3];exact X2.rd1 rfl,_,rfl,⟨by decide,by simp⟩,_,_,_,_,_,_,_,by rw[Z3];exact e1,by rw[Z3,Z3];exact e2,by rw[Z3,Z3];exact e3,_,_,_,by rw[Z3];exact X2.rd1 rfl,_,rfl,⟨by decide,by simp⟩,_,_,_,_,_,_,_,by rw[Z3];exact d1,by rw[Z3,Z3];exact d2,by rw[Z3,Z3];exact d3,?_⟩;refine(ZDj hRf (hds y (by simp)) (hf.mem (by simp)) (hf.mem (by simp)) hix hiy).mono ?_;rintro _ w3⟨v,rfl,M3,hv,hrv⟩;exact⟨_,_,rfl,hR _ _ ⟨v,rfl,M02.none_trans M3,hv,fun h=>RV.mod' (Mod.refl _) M02.size (hrv h)⟩⟩
   ·have h17':xs.length=17:=by omega
    refine(Z9q hRf h17' hds (fun x hx=>hf.mem hx) h4 hc).mono ?_;rintro _ w3⟨v,rfl,M3,hv,hrv⟩;exact⟨_,_,rfl,hR _ _ ⟨v,rfl,M1.none_trans M3,hv,fun h=>RV.mod' (Mod.refl _) M1.size (hrv h)⟩⟩
   ·have hno:isN (f+1) (.l xs)=I:=ZBC (by omega) (by omega)
    exact hR _ _ ⟨K,by rw[hno],M1,rfl,fun h=>by rw[hno]at h;cases h⟩
end Go.Proofs.YtfghidehlnfdiaaGreat
end
section
namespace Go.Proofs.YtfghidehlnfdiaaGreat
open Go Go.Vcg
abbrev Z1R.n:Nat:=93
def Z1R.Vc(a:Bool)(b:Option Addr)(c d:Nat)(e:Option Addr)(f g:Nat)(w:C)(R:J8->C->Prop):Prop :=
 ∀h i,ZC w 111 #[.bool a,.slice b c d,.slice e f g] h i ->
 ∃a,i.cell? h=O (.bool a) /\
 ((a=I ->
 R (J (.bool I)) i) /\
 (a=J6 ->
 ∃a b c,i.cell? (h.add 2)=O (.slice a b c) /\
 (((b:Int)=2 ->
 ∃a c d,i.cell? (h.add 2)=O (.slice a c d) /\
 ∃d,a=O d /\
 ((0:Int)<=0/\0<(c:Int)) /\
 ∃a,i.cell? (d.add 0)=O (.bool a) /\
 ((a=J6 ->
 R (J (.bool I)) i) /\
 (a=I ->
 ∃a c d,i.cell? (h.add 2)=O (.slice a c d) /\
 ∃d,a=O d /\
 ((0:Int)<=0/\0<(c:Int)) /\
 ∃a c e,i.cell? ((d.add 0).add 1)=O (.slice a c e) /\
 J2 Q 95 #[.slice a c e] i (fun a c =>
 ∃d e f g j,a=J (U #[.slice d e f,.bool g,.int V j]) /\
 ((j≠0 ->
 R (J (.bool I)) c) /\
 (j=0 ->
 ((g=J6 ->
 ∃a d f,c.cell? (h.add 2)=O (.slice a d f) /\
 ∃f,a=O f /\
 ((0:Int)<=1/\1<(d:Int)) /\
 ∃a,c.cell? (f.add 3)=O (.bool a) /\
 ((a=I ->
 ∃d f j,c.cell? (h.add 2)=O (.slice d f j) /\
 ∃j,d=O j /\
 ((0:Int)<=1/\1<(f:Int)) /\
 ∃d f k,c.cell? ((j.add 3).add 1)=O (.slice d f k) /\
 R (J (.bool (decide ((f:Int)>0)))) c) /\
 (a=J6 ->
 R (J (.bool I)) c))) /\
 (g=I ->
 ∃a d f,c.cell? (h.add 2)=O (.slice a d f) /\
 ∃f,a=O f /\
 ((0:Int)<=1/\1<(d:Int)) /\
 ∃a d g j k l m,c.cell? (f.add 3)=O (.bool a) /\
 c.cell? ((f.add 3).add 1)=O (.slice d g j) /\
 c.cell? ((f.add 3).add 2)=O (.slice k l m) /\
 J2 Q 116 #[.agg #[.bool a,.slice d g j,.slice k l m]] c (fun a c =>
 ∃d f,a=J (U #[.bool d,.bool f]) /\
 (((e:Int)>0 ->
 ((d=J6 ->
 R (J (.bool f)) c) /\
 (d=I ->
 R (J (.bool I)) c))) /\
 (¬(e:Int)>0 ->
 R (J (.bool I)) c))))))))))) /\
 ((b:Int)≠2 ->
 (((b:Int)=17 ->
 ∃(a:Int->Int->C->Prop)(c:Int->Int->C->Nat),a 0 0 i /\
 (∀(d:Int)(e:Int)(f:Nat->Value)(f:C),a d e f ->
 ((e<16 ->
 ∃g j k,f.cell? (h.add 2)=O (.slice g j k) /\
 ∃k,g=O k /\
 ((0:Int)<=e/\e<(j:Int)) /\
 ∃g j l m n o p,f.cell? (k.add (e.toNat*3))=O (.bool g) /\
 f.cell? ((k.add (e.toNat*3)).add 1)=O (.slice j l m) /\
 f.cell? ((k.add (e.toNat*3)).add 2)=O (.slice n o p) /\
 J2 Q 116 #[.agg #[.bool g,.slice j l m,.slice n o p]] f (fun g j =>
 ∃k l,g=J (U #[.bool k,.bool l]) /\
 ((k=I ->
 R (J (.bool I)) j) /\
 (k=J6 ->
 ((l=J6 ->
 a (G V (d+1)) (G V (e+1)) j/\c (G V (d+1)) (G V (e+1)) j<c d e f) /\
 (l=I ->
 a d (G V (e+1)) j/\c d (G V (e+1)) j<c d e f)))))) /\
 (¬e<16 ->
 ∃a c e,f.cell? (h.add 2)=O (.slice a c e) /\
 ∃e,a=O e /\
 ((0:Int)<=16/\16<(c:Int)) /\
 ∃a,f.cell? (e.add 48)=O (.bool a) /\
 ((a=J6 ->
 R (J (.bool I)) f) /\
 (a=I ->
 ∃a c e,f.cell? (h.add 2)=O (.slice a c e) /\
 ∃e,a=O e /\
 ((0:Int)<=16/\16<(c:Int)) /\
 ∃a c g,f.cell? ((e.add 48).add 1)=O (.slice a c g) /\
 (((c:Int)>0 ->
 R (J (.bool (decide ((G V (d+1))>=2)))) f) /\
 (¬(c:Int)>0 ->
 R (J (.bool (decide (d>=2)))) f)))))))) /\
 ((b:Int)≠17 ->
 R (J (.bool I)) i))))))
theorem Z1R.vc(a b c d e f g w R)(h:Z1R.Vc a b c d e f g w R):J2 Q 93 #[(.agg #[(.bool a),(.slice b c d),(.slice e f g)])] w R:=xs [(17,[(8,.cell (.int V)),(9,.cell (.int V))])] [.agg [.bool (.var a),.slice b c d,.slice e f g]] Tryz.func93 ZL (by kernel_rfl) h
abbrev Z14.n:Nat:=116
def Z14.Vc(a:Bool)(b:Option Addr)(c d:Nat)(e:Option Addr)(f g:Nat)(w:C)(R:J8->C->Prop):Prop :=
 ∀h i,ZC w 111 #[.bool a,.slice b c d,.slice e f g] h i ->
 ∃a,i.cell? h=O (.bool a) /\
 ((a=I ->
 ∀b,ZJ i b ->
 ∃c d e,b.cell? (h.add 1)=O (.slice c d e) /\
 (((d:Int)=32 ->
 ∃c e f,b.cell? (h.add 1)=O (.slice c e f) /\
 R (J (U #[.bool J6,.bool (decide ((e:Int)>0))])) b) /\
 ((d:Int)≠32 ->
 ∃c d e,b.cell? (h.add 1)=O (.slice c d e) /\
 ∃c e f,b.cell? (h.add 1)=O (.slice c e f) /\
 R (J (U #[.bool (decide ((d:Int)=0)),.bool (decide ((e:Int)>0))])) b))) /\
 (a=J6 ->
 ∃a b c d e f g,i.cell? h=O (.bool a) /\
 i.cell? (h.add 1)=O (.slice b c d) /\
 i.cell? (h.add 2)=O (.slice e f g) /\
 J2 Q 79 #[.agg #[.bool a,.slice b c d,.slice e f g]] i (fun a b =>
 ∃c d e,a=J (.slice c d e) /\
 (((d:Int)<32 ->
 ∃a c e f g i j,b.cell? h=O (.bool a) /\
 b.cell? (h.add 1)=O (.slice c e f) /\
 b.cell? (h.add 2)=O (.slice g i j) /\
 J2 Q 93 #[.agg #[.bool a,.slice c e f,.slice g i j]] b (fun a c =>
 ∃e,a=J (.bool e) /\
 R (J (U #[.bool e,.bool J6])) c)) /\
 (¬(d:Int)<32 ->
 R (J (U #[.bool I,.bool J6])) b)))))
theorem Z14.vc(a b c d e f g w R)(h:Z14.Vc a b c d e f g w R):J2 Q 116 #[(.agg #[(.bool a),(.slice b c d),(.slice e f g)])] w R:=xs [] [.agg [.bool (.var a),.slice b c d,.slice e f g]] Tryz.func116 ZL (by kernel_rfl) h
abbrev Z0Y.n:Nat:=59
def Z0Y.Vc(a:Option Addr)(b c:Nat)(w:C)(R:J8->C->Prop):Prop :=
 J2 Q 60 #[.slice a b c] w (fun a b =>
 ∃c d e f g h i j,a=J (U #[.agg #[.bool c,.slice d e f,.slice g h i],.int V j]) /\
 ∀a k,ZC b 111 #[.bool I,.slice T 0 0,.slice T 0 0] a k ->
 Z1 k a (.bool c)/\∀b,ZA k a (.bool c) b ->
 Z1 b (a.add 1) (.slice d e f)/\∀c,ZA b (a.add 1) (.slice d e f) c ->
 Z1 c (a.add 2) (.slice g h i)/\∀b,ZA c (a.add 2) (.slice g h i) b ->
 ((j≠0 ->
 R (J (.int V j)) b) /\
 (j=0 ->
 ∃c d e f g h i,b.cell? a=O (.bool c) /\
 b.cell? (a.add 1)=O (.slice d e f) /\
 b.cell? (a.add 2)=O (.slice g h i) /\
 J2 Q 93 #[.agg #[.bool c,.slice d e f,.slice g h i]] b (fun a b =>
 ∃c,a=J (.bool c) /\
 ((c=I ->
 R (J (.int V 143)) b) /\
 (c=J6 ->
 R (J (.int V 0)) b))))))
theorem Z0Y.vc(a b c w R)(h:Z0Y.Vc a b c w R):J2 Q 59 #[(.slice a b c)] w R:=xs [] [.slice a b c] Tryz.func59 ZL (by kernel_rfl) h
end Go.Proofs.YtfghidehlnfdiaaGreat
end
