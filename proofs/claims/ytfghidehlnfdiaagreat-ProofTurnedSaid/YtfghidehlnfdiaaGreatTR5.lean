/- The verification conditions of some functions, printed by a program of ours (wip/PrintVc.lean). -/
/- Contracts: remove, pruned. -/
/- Hashes as keys of maps; rows of nodes with their hashes. -/
/- Contracts: Nodes, its closure. -/
/- Contracts: New, Empty, Root, Put, Delete, Nodes. -/
/- Contracts: Nodes; bounds on how many nodes there are. -/
/- Contracts: Nodes. -/
/- Sorted entries and the canonical trie that they make: plain Lean. -/
/- Contracts of the reference: comparison, heads, strings, lists, nibbles. -/
/- Contracts of the reference: Pack; a node that is laid down. -/
/- Contracts of the reference: what a build holds; a node that is laid down. -/
/- The reference's build: segments of entries; what two paths share. -/
import Derived.Test.YtfghidehlnfdiaaGreatTV
import Derived.Test.YtfghidehlnfdiaaGreatProg
import Derived.KernelRfl
import Derived.Test.YtfghidehlnfdiaaGreatTP17
import Derived.Test.YtfghidehlnfdiaaGreatXMap
import Derived.Maps.Keyed
import Derived.DeepKeys5
set_option linter.unusedVariables false
set_option linter.unusedSimpArgs false
open Array renaming getElem?_toList->JB,length_toList->W,replicate->A,size->Jp
open Bool renaming eq_iff_iff->Q0,false->JJ,true->Jx
open Go renaming Calls->E,Ending->JP,TypeId->Jl,Value->J6,World->X,maxLen->QA
open Go.Addr renaming add->JE
open Go.Builtin renaming append->J4
open Go.Ending renaming returned->Y
open Go.Instr renaming storeAt->JK
open Go.IntKind renaming i64->O,u8->K,wrap->G
open Go.Obj renaming cells->JH
open Go.Proofs.Tryz renaming prog->J
open Go.Result renaming ok->Ja
open Go.Sem renaming run->U
open Go.Value renaming agg->JS,bool->QE,pointer->J9,tuple->JQ
open Go.World renaming cell?->J7,cell?_of_block->JM
open Int renaming tdiv->Jf,tmod->JL,toNat->J2,toNat_natCast->J1
open List renaming append_assoc->Ju,cons_append->JW,drop_drop->Q5,drop_eq_getElem_cons->J5,drop_left->Jc,drop_of_length_le->JI,drop_succ_cons->Jn,drop_zero->Q4,finRange->JD,getD_eq_getElem?_getD->Jb,getElem?_append_left->JC,getElem?_append_right->JA,getElem?_drop->Je,getElem?_eq_getElem->I,getElem?_eq_none->JT,getElem?_toArray->JU,getElem_cons_zero->Jh,getElem_drop->Jw,getElem_mem->JO,length->QD,length_append->Q,length_cons->JV,length_drop->JN,length_take->Jg,map_append->Q2,map_cons->Jo,mem_append->Jz,mem_map->QB,mem_of_getLast?->Jm,mem_singleton->Jq,pairwise_cons->Js,pairwise_map->Jt,sum_cons->Q6,take_add_one->J0,take_append_drop->Jj,take_length->Jy,take_of_length_le->JG
open Nat renaming add_comm->QC,le_refl->JX,lt_of_lt_of_le->JR,lt_or_ge->Q7,sub_self->Q9,sub_zero->Q8,zero_add->Jv,zero_le->JY
open Option renaming none->J8,some->V
open Option.some renaming inj->Ji,injEq->QF
open Or renaming inl->Q1,inr->Jr
open UInt8 renaming le_iff_toNat_le->Jk,lt_irrefl->JZ,lt_trans->Q3,ofFin->JF,ofNat->J3,toNat_ofNat'->Jd
section
namespace Go.Proofs.YtfghidehlnfdiaaGreat
open Go Go.Vcg
abbrev Z0N.n:Nat:=23
def Z0N.Vc(a:Option Addr)(b c:Nat)(c:Option Addr)(d e:Nat)(w:X)(R:JP->X->Prop):Prop :=
 ∃(e:X->Prop),(∃(f:Int->X->Prop)(g:Int->X->Nat),f 0 w /\
 (∀(h:Int)(i:Nat->J6)(i:X),f h i ->
 ((h<(b:Int) ->
 ((h<(d:Int) ->
 ∀j,ZF i j ->
 ∃k,a=V k /\
 ((0:Int)<=h/\h<(b:Int)) /\
 ∃l,j.cell? (k.add h.toNat)=V (.int K l) /\
 ∃k,c=V k /\
 ((0:Int)<=h/\h<(d:Int)) /\
 ∃m,j.cell? (k.add h.toNat)=V (.int K m) /\
 ((l≠m ->
 ∀k,ZF j k ->
 ∃n,a=V n /\
 ((0:Int)<=h/\h<(b:Int)) /\
 ∃a,k.cell? (n.add h.toNat)=V (.int K a) /\
 ∃n,c=V n /\
 ((0:Int)<=h/\h<(d:Int)) /\
 ∃c,k.cell? (n.add h.toNat)=V (.int K c) /\
 ((a<c ->
 R (Y (.int O (-1))) k) /\
 (¬a<c ->
 R (Y (.int O 1)) k))) /\
 (l=m ->
 f (G O (h+1)) j/\g (G O (h+1)) j<g h i))) /\
 (¬h<(d:Int) ->
 e  i))) /\
 (¬h<(b:Int) ->
 e  i)))) /\
 (∀  (a:Nat->J6)(a:X),e  a ->
 (((b:Int)<(d:Int) ->
 R (Y (.int O (-1))) a) /\
 (¬(b:Int)<(d:Int) ->
 (((b:Int)>(d:Int) ->
 R (Y (.int O 1)) a) /\
 (¬(b:Int)>(d:Int) ->
 R (Y (.int O 0)) a)))))
theorem Z0N.vc(a b c d e f w R)(h:Z0N.Vc a b c d e f w R):E J 23 #[(.slice a b c),(.slice d e f)] w R:=xs [(1000008,[]),(2,[(5,.cell (.int O))])] [.slice a b c,.slice d e f] Tryz.func23 ZI (by kernel_rfl) h
abbrev Z0c.n:Nat:=114
def Z0c.Vc(a b:Int)(w:X)(R:JP->X->Prop):Prop :=
 ((b<=55 ->
 ∀c d,Z5 w 5 #[.int K (G K (G O (a+b)))] c d ->
 R (Y (.slice (V c) 1 1)) d) /\
 (¬b<=55 ->
 ∃(c:Option Addr->Nat->Nat->Int->X->Prop)(d:Option Addr->Nat->Nat->Int->X->Nat),c J8 0 0 b w /\
 (∀(b:Option Addr)(e:Nat)(f:Nat)(g:Int)(h:Nat->J6)(h:X),c b e f g h ->
 ((g>0 ->
 ∀i j,Z5 h 5 #[.int K (G K (JL g 256))] i j ->
 ∃k l,U J (builtinV J4 #[23,23] 23 #[.slice (V i) 1 1,.slice b e f]) j=Ja k l /\
 ∃i j m,k=(.slice i j m) /\
 c i j m (G O (Jf g 256)) l/\d i j m (G O (Jf g 256)) l<d b e f g h) /\
 (¬g>0 ->
 ∀c d,Z5 h 5 #[.int K (G K (G O ((G O (a+55))+(e:Int))))] c d ->
 ∃a g,U J (builtinV J4 #[23,23] 23 #[.slice (V c) 1 1,.slice b e f]) d=Ja a g /\
 ∃b c d,a=(.slice b c d) /\
 R (Y (.slice b c d)) g)))))
theorem Z0c.vc(a b w R)(h:Z0c.Vc a b w R):E J 114 #[(.int O a),(.int O b)] w R:=xs [(5,[(5,.cell (.slice)),(6,.cell (.int O))])] [.int O a,.int O b] Tryz.func114 ZI (by kernel_rfl) h
abbrev Z0O.n:Nat:=109
def Z0O.Vc(a:Option Addr)(b c:Nat)(w:X)(R:JP->X->Prop):Prop :=
 (((b:Int)=1 ->
 ∃d,a=V d /\
 ((0:Int)<=0/\0<(b:Int)) /\
 ∃e,w.cell? (d.add 0)=V (.int K e) /\
 ((e<128 ->
 ∃d,a=V d /\
 ((0:Int)<=0/\0<(b:Int)) /\
 ∃f,w.cell? (d.add 0)=V (.int K f) /\
 ∀d g,Z5 w 5 #[.int K f] d g ->
 R (Y (.slice (V d) 1 1)) g) /\
 (¬e<128 ->
 E J 114 #[.int O 128,.int O (b:Int)] w (fun d e =>
 ∃f g h,d=Y (.slice f g h) /\
 ∃d i,U J (builtinV J4 #[23,23] 23 #[.slice f g h,.slice a b c]) e=Ja d i /\
 ∃e f g,d=(.slice e f g) /\
 R (Y (.slice e f g)) i)))) /\
 ((b:Int)≠1 ->
 E J 114 #[.int O 128,.int O (b:Int)] w (fun d e =>
 ∃f g h,d=Y (.slice f g h) /\
 ∃d i,U J (builtinV J4 #[23,23] 23 #[.slice f g h,.slice a b c]) e=Ja d i /\
 ∃a b c,d=(.slice a b c) /\
 R (Y (.slice a b c)) i)))
theorem Z0O.vc(a b c w R)(h:Z0O.Vc a b c w R):E J 109 #[(.slice a b c)] w R:=xs [] [.slice a b c] Tryz.func109 ZI (by kernel_rfl) h
abbrev Z0b.n:Nat:=89
def Z0b.Vc(a:Option Addr)(b c:Nat)(w:X)(R:JP->X->Prop):Prop :=
 E J 114 #[.int O 192,.int O (b:Int)] w (fun d e =>
 ∃f g h,d=Y (.slice f g h) /\
 ∃d i,U J (builtinV J4 #[23,23] 23 #[.slice f g h,.slice a b c]) e=Ja d i /\
 ∃a b c,d=(.slice a b c) /\
 R (Y (.slice a b c)) i)
theorem Z0b.vc(a b c w R)(h:Z0b.Vc a b c w R):E J 89 #[(.slice a b c)] w R:=xs [] [.slice a b c] Tryz.func89 ZI (by kernel_rfl) h
abbrev Z0Z.n:Nat:=90
def Z0Z.Vc(a:Option Addr)(b c:Nat)(w:X)(R:JP->X->Prop):Prop :=
 E J 109 #[.slice a b c] w (fun a b =>
 ∃c d e,a=Y (.slice c d e) /\
 R (Y (.slice c d e)) b)
theorem Z0Z.vc(a b c w R)(h:Z0Z.Vc a b c w R):E J 90 #[(.slice a b c)] w R:=xs [] [.slice a b c] Tryz.func90 ZI (by kernel_rfl) h
abbrev Zo.n:Nat:=54
def Zo.Vc(a:Option Addr)(b c:Nat)(w:X)(R:JP->X->Prop):Prop :=
 ∃(c:Option Addr->Nat->Nat->Int->X->Prop)(d:Option Addr->Nat->Nat->Int->X->Nat),c J8 0 0 0 w /\
 (∀(e:Option Addr)(f:Nat)(g:Nat)(h:Int)(i:Nat->J6)(i:X),c e f g h i ->
 ((h<(b:Int) ->
 ∀j,ZF i j ->
 ∃k,a=V k /\
 ((0:Int)<=h/\h<(b:Int)) /\
 ∃l,j.cell? (k.add h.toNat)=V (.int K l) /\
 ∃k,a=V k /\
 ((0:Int)<=h/\h<(b:Int)) /\
 ∃a,j.cell? (k.add h.toNat)=V (.int K a) /\
 ∀k m,Z5 j 5 #[.int K (G K (Jf l 16)),.int K (JL a 16)] k m ->
 ∃a j,U J (builtinV J4 #[23,23] 23 #[.slice e f g,.slice (V k) 2 2]) m=Ja a j /\
 ∃k l m,a=(.slice k l m) /\
 c k l m (G O (h+1)) j/\d k l m (G O (h+1)) j<d e f g h i) /\
 (¬h<(b:Int) ->
 R (Y (.slice e f g)) i)))
theorem Zo.vc(a b c w R)(h:Zo.Vc a b c w R):E J 54 #[(.slice a b c)] w R:=xs [(3,[(3,.cell (.slice)),(4,.cell (.int O))])] [.slice a b c] Tryz.func54 ZI (by kernel_rfl) h
abbrev Z0K.n:Nat:=88
def Z0K.Vc(a:Option Addr)(b c:Nat)(d:Bool)(w:X)(R:JP->X->Prop):Prop :=
 (((b:Int)>128 ->
 R (Y (JQ #[.slice J8 0 0,.int O 140])) w) /\
 (¬(b:Int)>128 ->
 ∃(e:Int->X->Prop)(f:Int->X->Nat),e 0 w /\
 (∀(g:Int)(h:Nat->J6)(h:X),e g h ->
 ((g<(b:Int) ->
 ∃i,a=V i /\
 ((0:Int)<=g/\g<(b:Int)) /\
 ∃j,h.cell? (i.add g.toNat)=V (.int K j) /\
 ((j>15 ->
 R (Y (JQ #[.slice J8 0 0,.int O 140])) h) /\
 (¬j>15 ->
 e (G O (g+1)) h/\f (G O (g+1)) h<f g h))) /\
 (¬g<(b:Int) ->
 ∃(e:Int->X->Prop),((d=Jx ->
 e 2 h) /\
 (d=JJ ->
 e 0 h)) /\
 (∀(d:Int)(f:Nat->J6)(f:X),e d f ->
 ∀e g,Z5 f 5 #[.int K d,.int K 0] e g ->
 ∃(f:Option Addr->Nat->Nat->X->Prop),(((JL (b:Int) 2)=1 ->
 ∀h i,Z5 g 5 #[.int K (G K (d+1))] h i ->
 f (V h) 1 1 i) /\
 ((JL (b:Int) 2)≠1 ->
 f (V e) 2 2 g)) /\
 (∀(d:Option Addr)(e:Nat)(g:Nat)(h:Nat->J6)(h:X),f d e g h ->
 ∃f i,U J (builtinV J4 #[23,23] 23 #[.slice d e g,.slice a b c]) h=Ja f i /\
 ∃a b c,f=(.slice a b c) /\
 ∃(c:Option Addr->Nat->Nat->Int->X->Prop)(d:Option Addr->Nat->Nat->Int->X->Nat),c J8 0 0 0 i /\
 (∀(e:Option Addr)(f:Nat)(g:Nat)(h:Int)(i:Nat->J6)(i:X),c e f g h i ->
 ((h<(b:Int) ->
 ∀j,ZF i j ->
 ∃k,a=V k /\
 ((0:Int)<=h/\h<(b:Int)) /\
 ∃l,j.cell? (k.add h.toNat)=V (.int K l) /\
 ∃k,a=V k /\
 ((0:Int)<=(G O (h+1))/\(G O (h+1))<(b:Int)) /\
 ∃a,j.cell? (k.add (J2 (G O (h+1))))=V (.int K a) /\
 ∀k m,Z5 j 5 #[.int K (G K ((G K (16*l))+a))] k m ->
 ∃a j,U J (builtinV J4 #[23,23] 23 #[.slice e f g,.slice (V k) 1 1]) m=Ja a j /\
 ∃k l m,a=(.slice k l m) /\
 c k l m (G O (h+2)) j/\d k l m (G O (h+2)) j<d e f g h i) /\
 (¬h<(b:Int) ->
 R (Y (JQ #[.slice e f g,.int O 0])) i))))))))))
theorem Z0K.vc(a b c d w R)(h:Z0K.Vc a b c d w R):E J 88 #[(.slice a b c),(.bool d)] w R:=xs [(4,[(6,.cell (.int O))]),(1000011,[(7,.cell (.int K))]),(1000014,[(8,.cell (.slice))]),(17,[(9,.cell (.slice)),(10,.cell (.int O))])] [.slice a b c,.bool (.var d)] Tryz.func88 ZI (by kernel_rfl) h
abbrev Zl.n:Nat:=40
def Zl.Vc  (w:X)(R:JP->X->Prop):Prop :=
 ∀a b,Z5 w 27 (A 32 (.int K 0)) a b ->
 ∀c d,Z5 b 5 #[.int K 128] c d ->
 E J 56 #[.slice (V c) 1 1] d (fun b c =>
 ∃d,b=Y (JS d) /\
 ∃b,U J (JK 27 (J9 (V a)) (JS d)) c=Ja () b /\
 ∃c,ZD b a 32 c /\
 R (Y (JS c)) b)
theorem Zl.vc  (w:X)(R:JP->X->Prop)(h:Zl.Vc w R):E J 40 #[] w R :=
 Z0p (R:=⟨R,JJ⟩) (ann:=[]) (args:=[]) Tryz.func40 ZI (Eq.mp (by kernel_rfl:Zl.Vc w R=Z4S (pA J ⟨R,JJ⟩) J [] Tryz.f40 [] w) h)
abbrev ZE.n:Nat:=55
def ZE.Vc(a:Addr)(b c d:Int)(w:X)(R:JP->X->Prop):Prop :=
 ((c=(G O (b+1)) ->
 ∃e f g,w.cell? (a.add 1)=V (.slice e f g) /\
 ∃g,e=V g /\
 ((0:Int)<=b/\b<(f:Int)) /\
 ∃e f h,w.cell? (g.add b.toNat)=V (.slice e f h) /\
 ((0:Int)<=d/\d<=(f:Int)) /\
 E J 88 #[.slice (subO e h d.toNat 1) (f-d.toNat) (h-d.toNat),.bool Jx] w (fun e f =>
 ∃g h i j,e=Y (JQ #[.slice g h i,.int O j]) /\
 ∀e,ZF f e ->
 ∃f j k,e.cell? a=V (.slice f j k) /\
 ∃l,f=V l /\
 ((0:Int)<=b/\b<(j:Int)) /\
 ∃m n o,e.cell? ((l.add (b.toNat*2)).add 1)=V (.slice m n o) /\
 E J 90 #[.slice g h i] e (fun e g =>
 ∃h i p,e=Y (.slice h i p) /\
 g.cell? ((l.add (b.toNat*2)).add 1)=V (.slice m n o) /\
 g.cell? a=V (.slice f j k) /\
 E J 90 #[.slice m n o] g (fun e f =>
 ∃g j k,e=Y (.slice g j k) /\
 ∃e l,U J (builtinV J4 #[23,23] 23 #[.slice h i p,.slice g j k]) f=Ja e l /\
 ∃f g h,e=(.slice f g h) /\
 E J 89 #[.slice f g h] l (fun e f =>
 ∃g h i,e=Y (.slice g h i) /\
 R (Y (.slice g h i)) f))))) /\
 (c≠(G O (b+1)) ->
 ∃(e:Int->X->Prop),(∃(f:Int->X->Prop)(g:Int->X->Nat),f 0 w /\
 (∀(h:Int)(i:Nat->J6)(i:X),f h i ->
 ∀j,ZF i j ->
 ∃k l m,j.cell? (a.add 1)=V (.slice k l m) /\
 ∃m,k=V m /\
 ((0:Int)<=b/\b<(l:Int)) /\
 ∃k l n,j.cell? (m.add b.toNat)=V (.slice k l n) /\
 (((l:Int)>(G O (d+h)) ->
 ∃k m n,j.cell? (a.add 1)=V (.slice k m n) /\
 ∃n,k=V n /\
 ((0:Int)<=(G O (c-1))/\(G O (c-1))<(m:Int)) /\
 ∃k m o,j.cell? (n.add (J2 (G O (c-1))))=V (.slice k m o) /\
 (((m:Int)>(G O (d+h)) ->
 ∃k n o,j.cell? (a.add 1)=V (.slice k n o) /\
 ∃o,k=V o /\
 ((0:Int)<=b/\b<(n:Int)) /\
 ∃k n p,j.cell? (o.add b.toNat)=V (.slice k n p) /\
 ∃o,k=V o /\
 ((0:Int)<=(G O (d+h))/\(G O (d+h))<(n:Int)) /\
 ∃k,j.cell? (o.add (J2 (G O (d+h))))=V (.int K k) /\
 ∃n o p,j.cell? (a.add 1)=V (.slice n o p) /\
 ∃p,n=V p /\
 ((0:Int)<=(G O (c-1))/\(G O (c-1))<(o:Int)) /\
 ∃n o q,j.cell? (p.add (J2 (G O (c-1))))=V (.slice n o q) /\
 ∃p,n=V p /\
 ((0:Int)<=(G O (d+h))/\(G O (d+h))<(o:Int)) /\
 ∃n,j.cell? (p.add (J2 (G O (d+h))))=V (.int K n) /\
 ((k=n ->
 f (G O (h+1)) j/\g (G O (h+1)) j<g h i) /\
 (k≠n ->
 e h j))) /\
 (¬(m:Int)>(G O (d+h)) ->
 e h j))) /\
 (¬(l:Int)>(G O (d+h)) ->
 e h j)))) /\
 (∀(f:Int)(g:Nat->J6)(g:X),e f g ->
 ((f>0 ->
 ∃e h i,g.cell? (a.add 1)=V (.slice e h i) /\
 ∃i,e=V i /\
 ((0:Int)<=b/\b<(h:Int)) /\
 ∃e h j,g.cell? (i.add b.toNat)=V (.slice e h j) /\
 ((0:Int)<=(G O (d+f))/\(G O (d+f))<=(j:Int)) /\
 ((0:Int)<=d/\d<=(((J2 (G O (d+f))):Nat):Int)) /\
 E J 88 #[.slice (subO e j d.toNat 1) ((J2 (G O (d+f)))-d.toNat) (j-d.toNat),.bool JJ] g (fun e h =>
 ∃i j k l,e=Y (JQ #[.slice i j k,.int O l]) /\
 E J 90 #[.slice i j k] h (fun e h =>
 ∃i j k,e=Y (.slice i j k) /\
 E J 91 #[J9 (V a),.int O b,.int O c,.int O (G O (d+f))] h (fun e h =>
 ∃l m n,e=Y (.slice l m n) /\
 ∃e o,U J (builtinV J4 #[23,23] 23 #[.slice i j k,.slice l m n]) h=Ja e o /\
 ∃h i j,e=(.slice h i j) /\
 E J 89 #[.slice h i j] o (fun e h =>
 ∃i j k,e=Y (.slice i j k) /\
 R (Y (.slice i j k)) h))))) /\
 (¬f>0 ->
 ∃(e:Int->Option Addr->Nat->Nat->X->Prop),(∃f h i,g.cell? (a.add 1)=V (.slice f h i) /\
 ∃i,f=V i /\
 ((0:Int)<=b/\b<(h:Int)) /\
 ∃f h j,g.cell? (i.add b.toNat)=V (.slice f h j) /\
 (((h:Int)=d ->
 ∃f i j,g.cell? a=V (.slice f i j) /\
 ∃j,f=V j /\
 ((0:Int)<=b/\b<(i:Int)) /\
 ∃f i k,g.cell? ((j.add (b.toNat*2)).add 1)=V (.slice f i k) /\
 e (G O (b+1)) f i k g) /\
 ((h:Int)≠d ->
 e b J8 0 0 g))) /\
 (∀(b:Int)(f:Option Addr)(g:Nat)(h:Nat)(i:Nat->J6)(i:X),e b f g h i ->
 ∃(e:Option Addr->Nat->Nat->Int->Int->X->Prop)(j:Option Addr->Nat->Nat->Int->Int->X->Nat),e J8 0 0 b 0 i /\
 (∀(b:Option Addr)(i:Nat)(k:Nat)(l:Int)(m:Int)(n:Nat->J6)(n:X),e b i k l m n ->
 ((m<16 ->
 ∃(o:Int->X->Prop),(∃(p:Int->X->Prop)(q:Int->X->Nat),p l n /\
 (∀(r:Int)(s:Nat->J6)(s:X),p r s ->
 ((r<c ->
 ∃t u v,s.cell? (a.add 1)=V (.slice t u v) /\
 ∃v,t=V v /\
 ((0:Int)<=r/\r<(u:Int)) /\
 ∃t u x,s.cell? (v.add r.toNat)=V (.slice t u x) /\
 ∃v,t=V v /\
 ((0:Int)<=d/\d<(u:Int)) /\
 ∃t,s.cell? (v.add d.toNat)=V (.int K t) /\
 (((G O t)=m ->
 p (G O (r+1)) s/\q (G O (r+1)) s<q r s) /\
 ((G O t)≠m ->
 o r s))) /\
 (¬r<c ->
 o r s)))) /\
 (∀(c:Int)(p:Nat->J6)(p:X),o c p ->
 ((c=l ->
 ∀o q,Z5 p 5 #[.int K 128] o q ->
 ∃r s,U J (builtinV J4 #[23,23] 23 #[.slice b i k,.slice (V o) 1 1]) q=Ja r s /\
 ∃o q t,r=(.slice o q t) /\
 e o q t c (G O (m+1)) s/\j o q t c (G O (m+1)) s<j b i k l m n) /\
 (c≠l ->
 E J 91 #[J9 (V a),.int O l,.int O c,.int O (G O (d+1))] p (fun a d =>
 ∃o p q,a=Y (.slice o p q) /\
 ∃a r,U J (builtinV J4 #[23,23] 23 #[.slice b i k,.slice o p q]) d=Ja a r /\
 ∃d o p,a=(.slice d o p) /\
 e d o p c (G O (m+1)) r/\j d o p c (G O (m+1)) r<j b i k l m n))))) /\
 (¬m<16 ->
 E J 90 #[.slice f g h] n (fun a c =>
 ∃d e f,a=Y (.slice d e f) /\
 ∃a g,U J (builtinV J4 #[23,23] 23 #[.slice b i k,.slice d e f]) c=Ja a g /\
 ∃b c d,a=(.slice b c d) /\
 E J 89 #[.slice b c d] g (fun a b =>
 ∃c d e,a=Y (.slice c d e) /\
 R (Y (.slice c d e)) b)))))))))))
theorem ZE.vc(a b c d w R)(h:ZE.Vc a b c d w R):E J 55 #[(J9 (V a)),(.int O b),(.int O c),(.int O d)] w R:=xs [(1000007,[(11,.cell (.int O))]),(5,[(11,.cell (.int O))]),(1000016,[(15,.cell (.int O)),(16,.cell (.slice))]),(17,[(14,.cell (.slice)),(15,.cell (.int O)),(17,.cell (.int O))]),(1000022,[(18,.cell (.int O))]),(20,[(18,.cell (.int O))])] [.addr a,.int O b,.int O c,.int O d] Tryz.func55 ZI (by kernel_rfl) h
abbrev Zb.n:Nat:=91
def Zb.Vc(a:Addr)(b c d:Int)(w:X)(R:JP->X->Prop):Prop :=
 E J 55 #[J9 (V a),.int O b,.int O c,.int O d] w (fun b c =>
 ∃d e f,b=Y (.slice d e f) /\
 (((e:Int)<32 ->
 R (Y (.slice d e f)) c) /\
 (¬(e:Int)<32 ->
 E J 56 #[.slice d e f] c (fun b c =>
 ∃g,b=Y (JS g) /\
 ∀b h,Z5 c 27 (A 32 (.int K 0)) b h ->
 ∃c,U J (JK 27 (J9 (V b)) (JS g)) h=Ja () c /\
 ∃g,ZD c b 32 g /\
 E J 57 #[J9 (V a),JS g,.slice d e f] c (fun a c =>
 a=Y (JQ #[]) /\
 ∃a d,U J (builtinV J4 #[23,23] 23 #[.slice J8 0 0,.slice (V b) 32 32]) c=Ja a d /\
 ∃b c e,a=(.slice b c e) /\
 E J 90 #[.slice b c e] d (fun a b =>
 ∃c d e,a=Y (.slice c d e) /\
 R (Y (.slice c d e)) b))))))
theorem Zb.vc(a b c d w R)(h:Zb.Vc a b c d w R):E J 91 #[(J9 (V a)),(.int O b),(.int O c),(.int O d)] w R:=xs [] [.addr a,.int O b,.int O c,.int O d] Tryz.func91 ZI (by kernel_rfl) h
abbrev ZU.n:Nat:=57
def ZU.Vc(a:Addr)(b:Array J6)(c:Option Addr)(d e:Nat)(w:X)(R:JP->X->Prop):Prop :=
 ∀f g,Z5 w 27 b f g ->
 ∃(b:X->Prop),(∃(h:Int->X->Prop)(i:Int->X->Nat),h 0 g /\
 (∀(g:Int)(j:Nat->J6)(j:X),h g j ->
 ∃k l m,j.cell? (a.add 2)=V (.slice k l m) /\
 ((g<(l:Int) ->
 ∃k,j.cell? (a.add 3)=V (.bool k) /\
 ((k=JJ ->
 ∀m,ZF j m ->
 ∃n o p,m.cell? (a.add 2)=V (.slice n o p) /\
 ∃p,n=V p /\
 ((0:Int)<=g/\g<(o:Int)) /\
 ∃n,ZD m (p.add (g.toNat*33)) 32 n /\
 ∃o,ZD m f 32 o /\
 ∃p,U J (Z07 .eql 27 (.tmp 30) (.tmp 31) (JS n) (JS o)) m=Ja p m /\
 ∃n,p=(.bool n) /\
 ((n=Jx ->
 R (Y (JQ #[])) m) /\
 (n=JJ ->
 h (G O (g+1)) m/\i (G O (g+1)) m<i g j))) /\
 (k=Jx ->
 b  j))) /\
 (¬g<(l:Int) ->
 b  j)))) /\
 (∀  (g:Nat->J6)(g:X),b  g ->
 ∀b,ZF g b ->
 ∃g h i,b.cell? (a.add 2)=V (.slice g h i) /\
 ∃j,ZD b f 32 j /\
 Jp j=32 /\
 Jp (ZY (lputL #[.int K 0,.int K 0,.int K 0,.int K 0,.int K 0,.int K 0,.int K 0,.int K 0,.int K 0,.int K 0,.int K 0,.int K 0,.int K 0,.int K 0,.int K 0,.int K 0,.int K 0,.int K 0,.int K 0,.int K 0,.int K 0,.int K 0,.int K 0,.int K 0,.int K 0,.int K 0,.int K 0,.int K 0,.int K 0,.int K 0,.int K 0,.int K 0,.slice J8 0 0] 0 32 j) 32 [.slice c d e])=33 /\
 ∀f k,Z5 b 62 (lputL #[.int K 0,.int K 0,.int K 0,.int K 0,.int K 0,.int K 0,.int K 0,.int K 0,.int K 0,.int K 0,.int K 0,.int K 0,.int K 0,.int K 0,.int K 0,.int K 0,.int K 0,.int K 0,.int K 0,.int K 0,.int K 0,.int K 0,.int K 0,.int K 0,.int K 0,.int K 0,.int K 0,.int K 0,.int K 0,.int K 0,.int K 0,.int K 0,.slice J8 0 0] 0 33 (ZY (lputL #[.int K 0,.int K 0,.int K 0,.int K 0,.int K 0,.int K 0,.int K 0,.int K 0,.int K 0,.int K 0,.int K 0,.int K 0,.int K 0,.int K 0,.int K 0,.int K 0,.int K 0,.int K 0,.int K 0,.int K 0,.int K 0,.int K 0,.int K 0,.int K 0,.int K 0,.int K 0,.int K 0,.int K 0,.int K 0,.int K 0,.int K 0,.int K 0,.slice J8 0 0] 0 32 j) 32 [.slice c d e])) f k ->
 k.cell? (a.add 2)=V (.slice g h i) /\
 ∃b c,U J (builtinV J4 #[28,28] 28 #[.slice g h i,.slice (V f) 1 1]) k=Ja b c /\
 ∃d e f,b=(.slice d e f) /\
 Z1 c (a.add 2) (.slice d e f)/\∀b,Z3 c (a.add 2) (.slice d e f) b ->
 R (Y (JQ #[])) b)
theorem ZU.vc(a b c d e w R)(h:ZU.Vc a b c d e w R):E J 57 #[(J9 (V a)),(JS b),(.slice c d e)] w R:=xs [(1000005,[]),(2,[(6,.cell (.int O))])] [.addr a,.big 32 b,.slice c d e] Tryz.func57 ZI (by kernel_rfl) h
abbrev Z0l.n:Nat:=8
def Z0l.Vc(a:Option Addr)(b c:Nat)(w:X)(R:JP->X->Prop):Prop :=
 ∀d e,Z5 w 27 (A 32 (.int K 0)) d e ->
 E J 24 #[.slice a b c,.bool JJ] e (fun a b =>
 ∃c e f g,a=Y (JQ #[JS c,.slice e f g]) /\
 ∃a,U J (JK 27 (J9 (V d)) (JS c)) b=Ja () a /\
 ∃b,ZD a d 32 b /\
 R (Y (JQ #[JS b,.slice e f g])) a)
theorem Z0l.vc(a b c w R)(h:Z0l.Vc a b c w R):E J 8 #[(.slice a b c)] w R:=xs [] [.slice a b c] Tryz.func8 ZI (by kernel_rfl) h
abbrev Z0M.n:Nat:=24
def Z0M.Vc(a:Option Addr)(b c:Nat)(d:Bool)(w:X)(R:JP->X->Prop):Prop :=
 ∀e f,Z5 w 27 (A 32 (.int K 0)) e f ->
 (((b:Int)=0 ->
 E J 40 #[] f (fun g h =>
 ∃i,g=Y (JS i) /\
 ∃g,U J (JK 27 (J9 (V e)) (JS i)) h=Ja () g /\
 ∃h,ZD g e 32 h /\
 R (Y (JQ #[JS h,.slice J8 0 0])) g)) /\
 ((b:Int)≠0 ->
 ∀g h,Z5 f 118 #[.slice a b c,.slice J8 0 0,.slice J8 0 0,.bool d] g h ->
 ∃(c:Int->X->Prop)(d:Int->X->Nat),c 0 h /\
 (∀(f:Int)(h:Nat->J6)(h:X),c f h ->
 ((f<(b:Int) ->
 ∀i,ZF h i ->
 ∃j k l,i.cell? (g.add 1)=V (.slice j k l) /\
 ∃m,a=V m /\
 ((0:Int)<=f/\f<(b:Int)) /\
 ∃a n o,i.cell? (m.add (f.toNat*2))=V (.slice a n o) /\
 E J 54 #[.slice a n o] i (fun a i =>
 ∃m n o,a=Y (.slice m n o) /\
 i.cell? (g.add 1)=V (.slice j k l) /\
 ∀a p,Z5 i 23 #[.slice m n o] a p ->
 p.cell? (g.add 1)=V (.slice j k l) /\
 ∃i m,U J (builtinV J4 #[31,31] 31 #[.slice j k l,.slice (V a) 1 1]) p=Ja i m /\
 ∃a j k,i=(.slice a j k) /\
 Z1 m (g.add 1) (.slice a j k)/\∀i,Z3 m (g.add 1) (.slice a j k) i ->
 c (G O (f+1)) i/\d (G O (f+1)) i<d f h)) /\
 (¬f<(b:Int) ->
 E J 55 #[J9 (V g),.int O 0,.int O (b:Int),.int O 0] h (fun a b =>
 ∃c d f,a=Y (.slice c d f) /\
 E J 56 #[.slice c d f] b (fun a b =>
 ∃h,a=Y (JS h) /\
 ∀a i,Z5 b 27 (A 32 (.int K 0)) a i ->
 ∃b,U J (JK 27 (J9 (V a)) (JS h)) i=Ja () b /\
 ∃h,ZD b a 32 h /\
 E J 57 #[J9 (V g),JS h,.slice c d f] b (fun b c =>
 b=Y (JQ #[]) /\
 ∀b,ZF c b ->
 ∃c,ZD b a 32 c /\
 ∃a d f,b.cell? (g.add 2)=V (.slice a d f) /\
 ∃h,U J (JK 27 (J9 (V e)) (JS c)) b=Ja () h /\
 h.cell? (g.add 2)=V (.slice a d f) /\
 ∃b,ZD h e 32 b /\
 R (Y (JQ #[JS b,.slice a d f])) h))))))))
theorem Z0M.vc(a b c d w R)(h:Z0M.Vc a b c d w R):E J 24 #[(.slice a b c),(.bool d)] w R:=xs [(5,[(7,.cell (.int O))])] [.slice a b c,.bool (.var d)] Tryz.func24 ZI (by kernel_rfl) h
abbrev Z04.n:Nat:=10
def Z04.Vc(a:Option Addr)(b c:Nat)(w:X)(R:JP->X->Prop):Prop :=
 ∃(c:Option Addr->Nat->Nat->Int->X->Prop)(d:Option Addr->Nat->Nat->Int->X->Nat),c J8 0 0 0 w /\
 (∀(e:Option Addr)(f:Nat)(g:Nat)(h:Int)(i:Nat->J6)(i:X),c e f g h i ->
 ((h<(b:Int) ->
 ∀j,ZF i j ->
 ∃k,a=V k /\
 ((0:Int)<=h/\h<(b:Int)) /\
 ∃l,ZD j (k.add (h.toNat*33)) 32 l /\
 ∃m,a=V m /\
 ((0:Int)<=h/\h<(b:Int)) /\
 ∃a n o,j.cell? ((m.add (h.toNat*33)).add 32)=V (.slice a n o) /\
 ∃m p,U J (builtinV J4 #[23,23] 23 #[.slice J8 0 0,.slice a n o]) j=Ja m p /\
 ∃a j n,m=(.slice a j n) /\
 ZD p (k.add (h.toNat*33)) 32 l /\
 Jp l=32 /\
 Jp (ZY (lputL #[.int K 0,.int K 0,.int K 0,.int K 0,.int K 0,.int K 0,.int K 0,.int K 0,.int K 0,.int K 0,.int K 0,.int K 0,.int K 0,.int K 0,.int K 0,.int K 0,.int K 0,.int K 0,.int K 0,.int K 0,.int K 0,.int K 0,.int K 0,.int K 0,.int K 0,.int K 0,.int K 0,.int K 0,.int K 0,.int K 0,.int K 0,.int K 0,.slice J8 0 0] 0 32 l) 32 [.slice a j n])=33 /\
 ∀k m,Z5 p 48 (lputL #[.int K 0,.int K 0,.int K 0,.int K 0,.int K 0,.int K 0,.int K 0,.int K 0,.int K 0,.int K 0,.int K 0,.int K 0,.int K 0,.int K 0,.int K 0,.int K 0,.int K 0,.int K 0,.int K 0,.int K 0,.int K 0,.int K 0,.int K 0,.int K 0,.int K 0,.int K 0,.int K 0,.int K 0,.int K 0,.int K 0,.int K 0,.int K 0,.slice J8 0 0] 0 33 (ZY (lputL #[.int K 0,.int K 0,.int K 0,.int K 0,.int K 0,.int K 0,.int K 0,.int K 0,.int K 0,.int K 0,.int K 0,.int K 0,.int K 0,.int K 0,.int K 0,.int K 0,.int K 0,.int K 0,.int K 0,.int K 0,.int K 0,.int K 0,.int K 0,.int K 0,.int K 0,.int K 0,.int K 0,.int K 0,.int K 0,.int K 0,.int K 0,.int K 0,.slice J8 0 0] 0 32 l) 32 [.slice a j n])) k m ->
 ∃a j,U J (builtinV J4 #[34,34] 34 #[.slice e f g,.slice (V k) 1 1]) m=Ja a j /\
 ∃k l m,a=(.slice k l m) /\
 c k l m (G O (h+1)) j/\d k l m (G O (h+1)) j<d e f g h i) /\
 (¬h<(b:Int) ->
 R (Y (.slice e f g)) i)))
theorem Z04.vc(a b c w R)(h:Z04.Vc a b c w R):E J 10 #[(.slice a b c)] w R:=xs [(3,[(3,.cell (.slice)),(4,.cell (.int O))])] [.slice a b c] Tryz.func10 ZI (by kernel_rfl) h
abbrev Z0H.n:Nat:=27
def Z0H.Vc(a:Option Addr)(b c:Nat)(d:Option Addr)(e f:Nat)(w:X)(R:JP->X->Prop):Prop :=
 ∃g,U J (convert 23 9 (.slice a b c)) w=Ja g w /\
 ∃a,g=(.string a) /\
 ∃b,U J (convert 23 9 (.slice d e f)) w=Ja b w /\
 ∃c,b=(.string c) /\
 R (Y (.bool (Z76 .eql a c))) w
theorem Z0H.vc(a b c d e f w R)(h:Z0H.Vc a b c d e f w R):E J 27 #[(.slice a b c),(.slice d e f)] w R:=xs [] [.slice a b c,.slice d e f] Tryz.func27 ZI (by kernel_rfl) h
end Go.Proofs.YtfghidehlnfdiaaGreat
end
section
namespace Go.Trie
def ZBy(n:Nd):Prop:=∀k v,get n k=V v->k.length<=128/\v.length<=1024
theorem ZBy.row{q:By}{c:Nd}(h:ZBy (.row q c)):ZBy c:=fun k v hg=>by
 have:=h (q++k) v (by rw[Z0t];exact hg);rw[Q]at this;exact⟨by omega,this.2⟩
theorem ZBy.kid{cs:Fin 16->Nd}{x:By}(h:ZBy (.branch cs x))(i:Fin 16):ZBy (cs i):=fun k v hg=>by
 have:=h (J3 i.val::k) v (by rw[Z0j];exact hg);simp only[JV]at this;exact⟨by omega,this.2⟩
theorem Z6F:∀{n:Nd},Z1N n->ZBy n->Z5I n
 | .nil,_,_=>trivial
 | .leaf p v,_,h=>h p v (by simp[get])
 | .row p c,hc,h=>by
   refine⟨?_,Z6F hc.2.2.2 h.row⟩;obtain⟨k,v,hk⟩:=Z4U hc.2.2.2 (by rintro rfl;exact hc.2.2.1);have:=(h (p++k) v (by rw[Z0t];exact hk)).1;rw[Q]at this;omega
 | .branch cs x,hc,h=>by
   refine⟨?_,fun i=>Z6F (hc.1 i) (h.kid i)⟩;by_cases hx:x=[]
   ·simp[hx]
   ·exact(h [] x (by rw[ZO,if_neg hx])).2
theorem ZBy.put{n:Nd}{p x:By}(h:ZBy n)(hc:Z1N n)(hp:Nib p)(hx:x≠[])(hpl:p.length<=128)(hxl:x.length<=1024):ZBy (put n p x):=fun k v hg=>by
 rw[(Z7x hc hp hx).2.2.2 k]at hg;split at hg
 ·rename_i hk
  cases hg;exact⟨by rw[hk];exact hpl,hxl⟩
 ·exact h k v hg
end Go.Trie
end
section
namespace Go.Proofs.YtfghidehlnfdiaaGreat
open Go Go.Vcg Go.Trie
abbrev H32:={h:By // h.length=32}
instance:DecidableEq H32:=fun a b=>decidable_of_iff (a.1=b.1) Subtype.ext_iff.symm
def ZEW(h:H32):J6:=JS (hashA h.1)
theorem ZFb{a b:UInt8}(h:bV a=bV b):a=b:=by
 simp only[bV,Value.int.injEq,true_and]at h;exact UInt8.toNat_inj.1 (by exact_mod_cast h)
theorem Z6k{a b:By}(ha:a.length=32)(hb:b.length=32)(h:hashA a=hashA b):a=b:=by
 apply List.ext_getElem (by omega);intro i h1 h2;have hi:i<32:=by omega
 have e:=congrArg (fun x:Array J6=>x[i]?) h;simp only[hashA,Z8 hi,QF]at e;have:=ZFb e;simpa[Jb,h1,h2]using this
theorem laidOut:laidOutB J=Jx:=by kernel_rfl
theorem Z6I:Tryz.prog.underlying tHash=V (.array 32 5):=by kernel_rfl
theorem Z9d{α β:Type}{f:α->Option β}:∀(l:List α),(∀x∈l,∃y,f x=V y)->∃ys,l.mapM f=V ys
 |[],_=>⟨[],rfl⟩
 |x::r,h=>by
  obtain⟨y,hy⟩:=h x (by simp);obtain⟨ys,hys⟩:=Z9d r (fun z hz=>h z (by simp[hz]));exact⟨y::ys,by rw[List.mapM_cons,hy,hys];rfl⟩
theorem ZCv{P:Program}{k e:Jl}{n:Nat}{q:IntKind}{v:J6}(hu:P.underlying k=V (.array n e))(hk:P.keyType k=Jx)(hf:v.formed P k=Jx)(hs:1<=P.types.size)(he:P.underlying e=V (.int q))(hc:P.cellsOf e=1)
  (hcl:v.cells.toList.length=P.cellsOf k) (hcells:∀i,i<n->∃m,v.cells.toList[i]?=V (.int q m)/\(Lit.int q m).wf=Jx):∃l,keyOf P k v=V l:=by
 obtain⟨d,hd⟩:∃d,P.types.size=d+1:=⟨P.types.size-1,by omega⟩;unfold keyOf;simp only[hu,hk,hf,Bool.and_self,if_true,hd,Program.keyLits,hcl]
 obtain⟨ys,hys⟩:=Z9d (f:=fun i=>P.keyLits (d+1) e ((v.cells.toList.drop (i*P.cellsOf e)).take (P.cellsOf e))) (List.range n) (fun i hi=>by
  obtain⟨m,h1,h2⟩:=hcells i (List.mem_range.1 hi)
  have e1:((v.cells.toList.drop (i*P.cellsOf e)).take (P.cellsOf e))=[.int q m]:=by
   rw[hc,Nat.mul_one]
   have hl:i<v.cells.toList.length:=by
    rcases Q7 i v.cells.toList.length with h|h
    ·exact h
    ·rw[JT h]at h1;cases h1
   rw[I hl]at h1;rw[J5 hl,Ji h1];rfl
  refine⟨[.int q m],?_⟩;rw[e1];simp only[Program.keyLits,he];exact if_pos ⟨trivial,h2⟩)
 simp only[Program.keyLits]at hys;refine⟨.string (keyBytes ys.flatten),?_⟩;rw[hys];rfl
theorem wf_u8(b:UInt8):(Lit.int K (b.toNat:Int)).wf=Jx:=by
 have:∀n:Fin 256,(Lit.int K ((JF n).toNat:Int)).wf=Jx:=by decide +kernel
 exact this b.toFin
theorem Z7b:Tryz.prog.cellsOf tHash=32:=by kernel_rfl
theorem Z7f(h:H32):(ZEW h).cells=hashA h.1:=rfl
theorem ZAZ:Z8v J tHash ZEW (fun _=>True) where
 keyed:=Go.Maps.Keyed.of_law (deep_law_gate laidOut (of_decide_eq_true (by kernel_rfl)) (of_decide_eq_true (by kernel_rfl)) (by kernel_rfl) (by kernel_rfl))
 ok h _:=ZCv Z6I (by kernel_rfl) (by simp only[ZEW,Value.formed,Z6I,Z7b,Z4];rfl) (of_decide_eq_true (by kernel_rfl)) Z7C (by kernel_rfl)
  (by rw[Z7f,W,Z4,Z7b]) (fun i hi=>⟨((h.1.getD i 0).toNat:Int),by rw[Z7f,JB];exact Z8 hi,wf_u8 _⟩)
 inj a b h:=by
  simp only[ZEW,Value.agg.injEq]at h;exact Subtype.ext (Z6k a.2 b.2 h)
abbrev tNd:Jl:=48
abbrev ZDc:Jl:=34
theorem ZBs:Tryz.prog.underlying ZDc=V (.slice tNd):=by kernel_rfl
def ndA(h:By)(o:Option Addr)(l k:Nat):Array J6:=((hashA h).toList++[Value.slice o l k]).toArray
abbrev nd0:Array J6:=#[(.int K 0),(.int K 0),(.int K 0),(.int K 0),(.int K 0),(.int K 0),(.int K 0),(.int K 0),(.int K 0),(.int K 0),(.int K 0),(.int K 0),(.int K 0),(.int K 0),(.int K 0),(.int K 0),(.int K 0),(.int K 0),(.int K 0),(.int K 0),(.int K 0),(.int K 0),(.int K 0),(.int K 0),(.int K 0),(.int K 0),(.int K 0),(.int K 0),(.int K 0),(.int K 0),(.int K 0),(.int K 0),(.slice J8 0 0)]
theorem ZF2:(Tryz.prog.info? tNd).map (fun i=>(i.zero,i.size,i.bytes))=V (V (JS nd0),33,56):=by kernel_rfl
theorem Z48(h:By)(o:Option Addr)(l k:Nat):(ndA h o l k).size=33:=by simp[ndA,Z4]
theorem ZBY{h:By}{o:Option Addr}{l k i:Nat}(hi:i<32):(ndA h o l k)[i]?=V (bV (h.getD i 0)):=by
 unfold ndA;rw[JU,JC (by rw[W,Z4];exact hi),JB];exact Z8 hi
theorem ZBX{h:By}{o:Option Addr}{l k:Nat}:(ndA h o l k)[32]?=V (.slice o l k):=by
 unfold ndA;rw[JU,JA (by rw[W,Z4];omega),W,Z4];rfl
theorem ZAe(h:By)(o:Option Addr)(l k:Nat):∀v∈(ndA h o l k).toList,v.oneCell'=Jx:=by
 intro v hv;simp only[ndA,Jz,Jq]at hv;rcases hv with hv|rfl
 ·exact Z25 h v hv
 ·rfl
theorem ZBZ{Z:Array J6}(hZ:Z.size=33)(h:By)(s:J6):lputL Z 0 33 (ZY (lputL Z 0 32 (hashA h)) 32 [s])=((hashA h).toList++[s]).toArray:=by
 have e1:(lputL Z 0 32 (hashA h)).size=33:=by unfold lputL;rw[Z0R,hZ]
 have hh:(hashA h).toList.take 32=(hashA h).toList:=JG (by rw[W,Z4];omega);have hl:(hashA h).toList.length=32:=by rw[W,Z4]
 have e2:(ZY (lputL Z 0 32 (hashA h)) 32 [s]).size=33:=by rw[Z0R,e1]
 apply Array.ext_getElem?;intro i;have hr:(((hashA h).toList++[s]).toArray)[i]?=((hashA h).toList++[s])[i]?:=JU ..;rw[hr];have e3:lputL Z 0 33 (ZY (lputL Z 0 32 (hashA h)) 32 [s])=ZY Z 0 ((ZY (lputL Z 0 32 (hashA h)) 32 [s]).toList.take 33):=rfl;have ht:((ZY (lputL Z 0 32 (hashA h)) 32 [s]).toList.take 33)=(ZY (lputL Z 0 32 (hashA h)) 32 [s]).toList:=JG (by rw[W,e2];omega);rw[e3,ht,Z0V _ _ _ _ (by rw[W,e2,hZ];omega),W,e2];by_cases hi:i<33
 ·rw[if_pos (by omega),Q8,JB,Z0V _ _ _ _ (by rw[e1];simp)]
  by_cases h32:i=32
  ·subst h32
   rw[if_pos (by simp),JA (by omega),hl]
  ·rw[if_neg (by simp;omega),JC (by omega)]
   unfold lputL;rw[hh,Z0V _ _ _ _ (by omega),if_pos (by omega),Q8]
 ·rw[if_neg (by omega),Array.getElem?_eq_none (by omega),JT (by rw[Q,hl];simp;omega)]
section
variable{C:Type}{S:C->Prop}{w0 w w1 w':X}{lab lab':Nat->C}{c cb:C}
def Z08(w:X)(lab:Nat->C)(cb:C)(vs:List J6)(l:List (By×By)):Prop :=
 vs.length=l.length*33/\∀(j:Nat)(hj:j<l.length),l[j].1.length=32/\(∀i,i<32->vs[j*33+i]?=V (bV (l[j].1.getD i 0)))/\∃ob kb,vs[j*33+32]?=V (.slice ob l[j].2.length kb)/\CBy w lab cb ob l[j].2/\l[j].2.length<=kb
theorem Z08.nil(w:X)(lab:Nat->C)(cb:C):Z08 w lab cb [] []:=⟨rfl,fun j hj=>absurd hj (by simp)⟩
theorem Z08.stp{vs:List J6}{l:List (By×By)}(h:Z08 w lab cb vs l)(s:Stp S w lab w' lab')(hs:¬S cb):Z08 w' lab' cb vs l :=
 ⟨h.1,fun j hj=>by obtain⟨h1,h2,ob,kb,h3,h4⟩:=h.2 j hj;exact⟨h1,h2,ob,kb,h3,h4.1.stp s hs,h4.2⟩⟩
theorem Z08.push{vs:List J6}{l:List (By×By)}{h b:By}{ob:Option Addr}{kb:Nat}(H:Z08 w lab cb vs l)(hh:h.length=32)(hb:CBy w lab cb ob b)(hk:b.length<=kb) :
  Z08 w lab cb (vs++(ndA h ob b.length kb).toList) (l++[(h,b)]):=by
 have hnl:(ndA h ob b.length kb).toList.length=33:=by rw[W,Z48]
 refine⟨by rw[Q,hnl,H.1,Q];simp;omega,fun j hj=>?_⟩;rw[Q,List.length_singleton]at hj;have hv:=H.1;by_cases hl:j<l.length
 ·rw[List.getElem_append_left hl]
  obtain⟨h1,h2,ob,kb,h3,h4⟩:=H.2 j hl;exact⟨h1,fun i hi=>by rw[JC (by omega)];exact h2 i hi,ob,kb,by rw[JC (by omega)];exact h3,h4⟩
 ·obtain rfl:j=l.length:=by omega
  rw[List.getElem_append_right (JX _)];simp only[Q9,Jh];refine⟨hh,fun i hi=>?_,ob,kb,?_,hb,hk⟩
  ·rw[JA (by omega),hv,show l.length*33+i-l.length*33=i by omega,JB]
   exact ZBY hi
  ·rw[JA (by omega),hv,show l.length*33+32-l.length*33=32 by omega,JB]
   exact ZBX
def Z7L(w:X)(lab:Nat->C)(c cb:C)(l:List (By×By))(o:Option Addr)(n k:Nat):Prop :=
 n=l.length/\∃vs,COw w lab c tNd 33 o n k vs/\Z08 w lab cb vs l
theorem Z7L.nil(w:X)(lab:Nat->C)(c cb:C):Z7L w lab c cb [] J8 0 0:=⟨rfl,[],COw.nil w lab c _ _,Z08.nil w lab cb⟩
theorem Z7L.stp{l:List (By×By)}{o:Option Addr}{n k:Nat}(h:Z7L w lab c cb l o n k)(s:Stp S w lab w' lab')(hs:¬S c)(hb:¬S cb):Z7L w' lab' c cb l o n k:=by
 obtain⟨h1,vs,h2,h3⟩:=h;exact⟨h1,vs,h2.stp s hs,h3.stp s hb⟩
theorem Z7L.push{l:List (By×By)}{o:Option Addr}{n k D:Nat}{h b:By}{ob:Option Addr}{kb:Nat}(H:Z7L w lab c cb l o n k)(hcb:cb≠c)(B:Blk w D tNd (ndA h ob b.length kb))(hh:h.length=32)(hb:CBy w lab cb ob b)(hk:b.length<=kb)(hl:l.length<=2^20) :
  ∃o' k' w',U J (builtinV J4 #[ZDc,ZDc] ZDc #[.slice o n k,.slice (V ⟨D,0,J8⟩) 1 1]) w=Ja (.slice o' (n+1) k') w' /\
   Z7L w' (ext lab w.heap.size c) c cb (l++[(h,b)]) o' (n+1) k'/\Stp (·=c) w lab w' (ext lab w.heap.size c):=by
 obtain⟨rfl,vs,hO,hC⟩:=H;obtain⟨i,hi,hz,hs,hbt⟩:=Z1f ZF2;obtain⟨o',k',w',h1,h2,h3⟩:=COw.append (ty:=ZDc) ZBs hi hz hs (by rfl) hO (Z3T ZBs B (Z48 _ _ _ _) (ZAe _ _ _ _)) (by simp only[QA];omega) (by rw[hbt];omega);exact⟨o',k',w',h1,⟨by simp,_,h2,(hC.push hh hb hk).stp h3 hcb⟩,h3⟩
end
end Go.Proofs.YtfghidehlnfdiaaGreat
end
section
namespace Go.Trie
def met(out:List (By×By))(h:By):Bool:=out.any fun x=>decide (x.1=h)
def Z1g(out:List (By×By))(top:Bool)(b:By):List (By×By):=if met out (Go.Vcg.sumOf b)||(!top&&decide (b.length<32))then out else out++[(Go.Vcg.sumOf b,b)]
def Z16:Nd->Bool->List (By×By)->List (By×By)
 | .nil,_,out=>out
 | .leaf p v,top,out=>Z1g out top (bytesOf (.leaf p v))
 | .row p c,top,out=>Z1g (Z16 c JJ out) top (bytesOf (.row p c))
 | .branch cs v,top,out=>Z1g ((JD 16).foldl (fun o i=>Z16 (cs i) JJ o) out) top (bytesOf (.branch cs v))
def Z12(n:Nd):List (By×By):=Z16 n Jx []
def cnt:Nd->Nat
 | .nil=>0
 | .leaf _ _=>1
 | .row _ c=>1+cnt c
 | .branch cs _=>1+((JD 16).map fun i=>cnt (cs i)).sum
theorem Z4a(out:List (By×By))(top:Bool)(b:By):(Z1g out top b).length<=out.length+1:=by
 unfold Z1g;split<;>simp
theorem Z4p{cs:Fin 16->Nd}(ih:∀i out,(Z16 (cs i) JJ out).length<=out.length+cnt (cs i)):∀(l:List (Fin 16)) (out:List (By×By)),(l.foldl (fun o i=>Z16 (cs i) JJ o) out).length<=out.length+(l.map fun i=>cnt (cs i)).sum
 |[],out=>by simp
 |i::r,out=>by
  simp only[List.foldl_cons,Jo,Q6];have h1:=Z4p ih r (Z16 (cs i) JJ out);have h2:=ih i out;omega
theorem Z2S:∀(n:Nd) (top:Bool) (out:List (By×By)),(Z16 n top out).length<=out.length+cnt n
 | .nil,_,out=>by simp[Z16]
 | .leaf p v,top,out=>by simp only[Z16,cnt];exact Z4a _ _ _
 | .row p c,top,out=>by
   simp only[Z16,cnt];have h1:=Z4a (Z16 c JJ out) top (bytesOf (.row p c));have h2:=Z2S c JJ out;omega
 | .branch cs v,top,out=>by
   simp only[Z16,cnt];have h1:=Z4a ((JD 16).foldl (fun o i=>Z16 (cs i) JJ o) out) top (bytesOf (.branch cs v));have h2:=Z4p (fun i out=>Z2S (cs i) JJ out) (JD 16) out;omega
end Go.Trie
end
section
namespace Go.Proofs.YtfghidehlnfdiaaGreat
open Go Go.Vcg Go.Trie

end Go.Proofs.YtfghidehlnfdiaaGreat
end
section
namespace Go.Trie
def emptyH:By:=Go.Vcg.sumOf [128]
def rootOf(n:Nd):By:=Go.Vcg.sumOf (bytesOf n)
theorem Z99:bytesOf .nil=[128]:=by simp[bytesOf,Z1j,enc,own,Z2X]
def putT(n:Nd)(k x:By):Int×Nd:=if k.length>64 then(140,n)else if x=[]\/x.length>1024 then(141,n)else(0,put n (nibbles k) x)
end Go.Trie
end
section
namespace Go.Proofs.YtfghidehlnfdiaaGreat
open Go Go.Vcg Go.Trie
theorem Z7l:Tryz.prog.eqGuardType Tryz.prog.depth tHash=JJ:=by kernel_rfl
theorem ZCs:(Tryz.prog.info? tHash).map (·.size)=V 32:=by kernel_rfl
theorem ZAV{w:X}(x y:Operand){a b:By}(ha:a.length=32)(hb:b.length=32):U J (Z07 .neq tHash x y (JS (hashA a)) (JS (hashA b))) w=Ja (.bool (decide (a≠b))) w:=by
 have h:=ZDS (P:=J) (w:=w) Z6I Z7C Z10 Z7l x y (fun i=>((a.getD i 0).toNat:Int)) (fun i=>((b.getD i 0).toNat:Int));refine h.trans (congrArg (fun x=>Ja (QE x) w) ?_);rw[Q0,Bool.not_eq_true',decide_eq_false_iff_not,decide_eq_true_eq,ne_eq];refine not_congr ?_;constructor
 ·intro h
  refine Z6k ha hb (Z7 (fun i hi=>?_));have:=h i hi;simp only[bV,this]
 ·rintro rfl i _;rfl
theorem Z8O{w:X}(x y:Operand){a b:By}(ha:a.length=32)(hb:b.length=32):U J (Z07 .eql tHash x y (JS (hashA a)) (JS (hashA b))) w=Ja (.bool (decide (a=b))) w:=by
 have h:=ZDR (P:=J) (w:=w) Z6I Z7C Z10 Z7l x y (fun i=>((a.getD i 0).toNat:Int)) (fun i=>((b.getD i 0).toNat:Int));refine h.trans (congrArg (fun x=>Ja (QE x) w) ?_);rw[Q0,decide_eq_true_eq,decide_eq_true_eq];constructor
 ·intro h
  refine Z6k ha hb (Z7 (fun i hi=>?_));have:=h i hi;simp only[bV,this]
 ·rintro rfl i _;rfl
theorem Z0k{w:X}{D:Nat}{cs:Array J6}(H:Blk w D tHash cs)(hs:cs.size=32)(h:By) :
  U J (JK 27 (J9 (V ⟨D,0,J8⟩)) (JS (hashA h))) w=Ja () (w.setRow D (hashA h))/\Blk (w.setRow D (hashA h)) D tHash (hashA h)/\Vcg.Mod (·=D) w (w.setRow D (hashA h)) :=
 ⟨H.storeAll (by rw[Z4];exact ZCs) (by rw[hs,Z4]) (Z25 _),H.row_same _,Mod.setRow _ _ _⟩
theorem ZD6(w:X):RdB (w.alloc (JH #[.int K 128] 5)) (V ⟨w.heap.size,0,J8⟩) [128] :=
 RdB.of_blk (Blk.new w 5 #[bV 128]) (fun j hj=>by
  obtain rfl:j=0:=by simpa using hj
  rfl)
theorem ZA8(w:X):E J Z1w.n #[] w (fun e w'=>e=Y (JS (hashA emptyH))/\Vcg.Mod NoB w w'):=by
 refine Z1w.vc _ _ ?_;unfold Z1w.Vc;rintro d1 w1⟨rfl,rfl⟩ d2 w2⟨rfl,rfl⟩ d3 w3⟨rfl,rfl⟩;have M1:=Mod.alloc (S:=NoB) w (JH (A 32 (.int K 0)) 27);have H:=Blk.new w 27 (A 32 (.int K 0));have hs:=Z6 w (JH (A 32 (.int K 0)) 27);generalize w.alloc (JH (A 32 (.int K 0)) 27)=w1 at *
 have r2:=ZD6 w1;have M2:=Mod.alloc (S:=NoB) w1 (JH #[.int K 128] 5);generalize w1.alloc (JH #[.int K 128] 5)=w2 at *
 have B3:=Blk.new w2 23 #[.slice (V ⟨w1.heap.size,0,J8⟩) 1 1];have M3:=Mod.alloc (S:=NoB) w2 (JH #[.slice (V ⟨w1.heap.size,0,J8⟩) 1 1] 23);refine(Z8y [[128]] rfl (by simp) (ZEP.one B3 (r2.mod' M3)) (by simp)).mono ?_;rintro _ w4⟨rfl,M4⟩;have M24:=(M2.trans M3 (fun _ _ h=>h)).trans M4 (fun _ _ h=>h);obtain⟨h1,h2,h3⟩:=Z0k (H.mod' M24) (by simp) (sumOf [[128]].flatten);exact⟨_,rfl,_,h1,_,h2.rowAll (Z4 _),rfl,ZC (M1.trans M24 (fun _ _ h=>h)) h3 (JX _)⟩
theorem ZAn{P:Program}{t k e:Jl}(h:P.underlying t=V (.map k e))(w:X):∃w',U P (Instr.makeMap t J8) w=Ja (.map (V w.heap.size)) w'/\Vcg.Mod NoB w w'/\w'.heap[w.heap.size]?=V (.map #[] 0):=by
 exact⟨w.alloc (.map #[] 0),rfl,Mod.alloc _ _,heap_alloc_new _ _⟩
section
variable{C:Type}{S:C->Prop}{w0 w w1 w':X}{lab lab2:Nat->C}{ct c:C}
theorem ZBG:ZBy .nil:=fun k v h=>by simp[Trie.get]at h
end
end Go.Proofs.YtfghidehlnfdiaaGreat
end
section
namespace Go.Trie
theorem Z6Y(p:By)(n:Nd):cnt (Z3X p n)<=cnt n+1:=by
 unfold Z3X;split
 ·omega
 ·cases n<;>simp only[cnt]<;>omega
theorem Z86(f g:Fin 16->Nat)(d:Nat)(a:Nat)(h:∀i:Fin 16,i.val≠a->f i=g i)(ha:∀i:Fin 16,i.val=a->f i<=g i+d):∀(l:List (Fin 16)),l.Nodup->(l.map f).sum<=(l.map g).sum+d
 |[],_=>by simp
 |i::r,hn=>by
  rw[List.nodup_cons]at hn;simp only[Jo,Q6];by_cases hi:i.val=a
  ·have h1:=ha i hi
   have h2:r.map f=r.map g:=List.map_congr_left (fun j hj=>h j (fun e=>hn.1 (by rw[Fin.ext (hi.trans e.symm)];exact hj)));rw[h2];omega
  ·have h1:=h i hi
   have h2:=Z86 f g d a h ha r hn.2;omega
theorem ZAK{cs cs':Fin 16->Nd}{x y:By}{a d:Nat}(h:∀i:Fin 16,i.val≠a->cs' i=cs i)(ha:∀i:Fin 16,i.val=a->cnt (cs' i)<=cnt (cs i)+d):cnt (.branch cs' y)<=cnt (.branch cs x)+d:=by
 simp only[cnt];have:=Z86 (fun i=>cnt (cs' i)) (fun i=>cnt (cs i)) d a (fun i hi=>by simp only[h i hi]) ha (JD 16) (List.nodup_finRange 16);omega
theorem ZAL(cs:Fin 16->Nd)(v p x:By)(h:∀a r,p=a::r->at_ cs a=.nil):cnt (lay cs v p x)<=cnt (.branch cs v)+1:=by
 cases p with
 |nil=>simp only[lay,cnt];omega
 |cons a r =>
  simp only[lay];refine ZAK (a:=a.toNat) (fun i hi=>by unfold upd;rw[if_neg hi]) (fun i hi=>?_);unfold upd;rw[if_pos hi];simp only[cnt];omega
theorem ZBA(v:By):cnt (.branch Z00 v)=1:=by
 have:((JD 16).map fun i=>cnt (Z00 i))=List.replicate 16 0:=by decide
 simp only[cnt,this];rfl
theorem ZDv{q p:By}{y:By}{a:UInt8}{r:By}{cs:Fin 16->Nd}{v:By}(h:lay Z00 [] q y=.branch cs v)(hp:p=a::r)(hh:∀b s t,¬(q=b::s/\p=b::t)):at_ cs a=.nil:=by
 cases q with
 |nil =>
  simp only[lay,Nd.branch.injEq]at h;rw[<-h.1];exact Z2p a
 |cons b s =>
  simp only[lay,Nd.branch.injEq]at h;rw[<-h.1];have hne:a≠b:=fun e=>hh b s r ⟨rfl,by rw[hp,e]⟩;rw[Z2v hne];exact Z2p a
theorem ZAM:∀(n:Nd) (p x:By),cnt (put n p x)<=cnt n+4
 | .nil,p,x=>by simp only[put,cnt];omega
 | .leaf q v,p,x=>by
   simp only[put];split
   ·simp only[cnt];omega
   ·obtain⟨t,q',p',_,_,_,hq',hp',_,hh⟩:=Z2m q p
    have h1:=Z6Y (p.take (ZA q p)) (ZEd (lay Z00 [] (q.drop (ZA q p)) v) (p.drop (ZA q p)) x);have h2:=ZAL Z00 [] (q.drop (ZA q p)) v (fun a r _=>Z2p a);rw[ZBA]at h2
    have h3:cnt (ZEd (lay Z00 [] (q.drop (ZA q p)) v) (p.drop (ZA q p)) x)<=cnt (lay Z00 [] (q.drop (ZA q p)) v)+1:=by
     cases hl:lay Z00 [] (q.drop (ZA q p)) v with
     |branch cs w =>
      simp only[ZEd];exact ZAL cs w _ x (fun a r hp=>ZDv hl hp (by rw[<-hq',<-hp'];exact hh))
     |nil=>cases hd:q.drop (ZA q p)<;>rw[hd]at hl<;>simp[lay]at hl
     |leaf a b=>cases hd:q.drop (ZA q p)<;>rw[hd]at hl<;>simp[lay]at hl
     |row a b=>cases hd:q.drop (ZA q p)<;>rw[hd]at hl<;>simp[lay]at hl
    simp only[cnt];omega
 | .row q c,p,x=>by
   simp only[put];split
   ·have:=ZAM c (p.drop (ZA q p)) x
    simp only[cnt];omega
   ·rename_i hne
    obtain⟨t,q',p',_,_,_,hq',hp',_,hh⟩:=Z2m q p;have hlt:ZA q p<q.length:=by have:=(Z3w q p).1;omega
    have h1:=Z6Y (p.take (ZA q p)) (lay (upd Z00 (q.getD (ZA q p) 0) (Z3X (q.drop (ZA q p+1)) c)) [] (p.drop (ZA q p)) x);have hqd:q.getD (ZA q p) 0=q[ZA q p]:=by simp[Jb,hlt]
    have h2:=ZAL (upd Z00 (q.getD (ZA q p) 0) (Z3X (q.drop (ZA q p+1)) c)) [] (p.drop (ZA q p)) x (fun a r hp=>by
     have hd:q.drop (ZA q p)=q[ZA q p]::q.drop (ZA q p+1):=J5 hlt;have hne:a≠q.getD (ZA q p) 0:=fun e=>hh a _ r ⟨by rw[hq',hd,<-hqd,<-e],by rw[hp'];exact hp⟩;rw[Z2v hne];exact Z2p a)
    have h3:cnt (.branch (upd Z00 (q.getD (ZA q p) 0) (Z3X (q.drop (ZA q p+1)) c)) [])<=cnt (.branch Z00 [])+(1+cnt c):=by
     refine ZAK (a:=(q.getD (ZA q p) 0).toNat) (fun i hi=>by unfold upd;rw[if_neg hi]) (fun i hi=>?_);unfold upd;rw[if_pos hi];have:=Z6Y (q.drop (ZA q p+1)) c;omega
    rw[ZBA]at h3;simp only[cnt]at *;omega
 | .branch cs v,p,x=>by
   cases p with
   |nil=>simp only[put,cnt];omega
   |cons a r =>
    simp only[put];refine ZAK (a:=a.toNat) (fun i hi=>by rw[if_neg hi]) (fun i hi=>?_);rw[if_pos hi];exact ZAM (cs i) r x
end Go.Trie
end
section
namespace Go.Proofs.YtfghidehlnfdiaaGreat
open Go Go.Vcg Go.Trie
section
variable{C C':Type}{S:C->Prop}{w0 w w1 w':X}{lab:Nat->C}{lab':Nat->C'}{ct c cb:C}{c' cb':C'}
theorem COw.re{e:Jl}{sz:Nat}{o:Option Addr}{l k:Nat}{xs:List J6}(h:COw w lab c e sz o l k xs)(hl:∀k,k<w.heap.size->lab k=c->lab' k=c'):COw w lab' c' e sz o l k xs :=
 ⟨h.own,fun k hk=>hl k (h.own.lt hk) (h.clr k hk)⟩
theorem Z08.re{vs:List J6}{l:List (By×By)}(h:Z08 w lab cb vs l)(hl:∀k,k<w.heap.size->lab k=cb->lab' k=cb'):Z08 w lab' cb' vs l :=
 ⟨h.1,fun j hj=>by obtain⟨h1,h2,ob,kb,h3,h4⟩:=h.2 j hj;exact⟨h1,h2,ob,kb,h3,CBy.re h4.1 hl,h4.2⟩⟩
def Z18(w:X)(lab:Nat->C)(c:C)(l:List (By×By))(o:Option Addr)(n:Nat):Prop :=
 n=l.length/\∃vs,Z42 w lab c o vs/\Z08 w lab c vs l
theorem Z18.stp{lab2:Nat->C}{l:List (By×By)}{o:Option Addr}{n:Nat}(h:Z18 w lab c l o n)(s:Stp S w lab w' lab2)(hs:¬S c):Z18 w' lab2 c l o n:=by
 obtain⟨h1,vs,h2,h3⟩:=h;exact⟨h1,vs,h2.stp s hs,h3.stp s hs⟩
theorem Z18.nil(w:X)(lab:Nat->C)(c:C)(o:Option Addr):Z18 w lab c [] o 0:=⟨rfl,[],Z42.nil w lab c o,Z08.nil w lab c⟩
end
end Go.Proofs.YtfghidehlnfdiaaGreat
end
section
namespace Go.Trie
def ltB:By->By->Prop
 |_,[]=>False
 |[],_::_=>True
 |a::p,b::q=>a<b\/(a=b/\ltB p q)
theorem Z4Y(p:By):¬ltB p []:=by cases p<;>simp[ltB]
theorem Z5U:∀(p:By),¬ltB p p
 |[],h=>h
 |a::p,h=>by
  rcases h with h|h
  ·exact absurd h (JZ a)
  ·exact Z5U p h.2
theorem Z6p:∀{p q r:By},ltB p q->ltB q r->ltB p r
 |p,q,[],_,h=>(Z4Y _ h).elim
 |p,[],c::r,h,_=>(Z4Y _ h).elim
 |[],b::q,c::r,_,_=>trivial
 |a::p,b::q,c::r,h1,h2=>by
  rcases h1 with h1|⟨rfl,h1⟩
  ·rcases h2 with h2|⟨rfl,h2⟩
   ·exact Q1 (Q3 h1 h2)
   ·exact Q1 h1
  ·rcases h2 with h2|⟨rfl,h2⟩
   ·exact Q1 h2
   ·exact Jr ⟨rfl,Z6p h1 h2⟩
theorem ZBW{a:UInt8}{p q:By}:ltB (a::p) (a::q)↔ltB p q:=by
 simp only[ltB];constructor
 ·rintro(h|h)
  ·exact absurd h (JZ a)
  ·exact h.2
 ·exact fun h=>Jr ⟨trivial,h⟩
theorem ZC8{t p q:By}:ltB (t++p) (t++q)↔ltB p q:=by
 induction t with
 |nil=>exact Iff.rfl
 |cons a t ih=>rw[JW,JW,ZBW,ih]
def Rep(s:List (By×By))(n:Nd):Prop:=s.Pairwise (fun x y=>ltB x.1 y.1)/\∀k v,get n k=V v↔(k,v)∈s
theorem Rep.nil:Rep [] .nil:=⟨List.Pairwise.nil,fun k v=>by simp[get]⟩
theorem Rep.nil_inv{n:Nd}(h:Rep [] n)(hc:Z1N n):n=.nil:=by
 by_cases hn:n=.nil
 ·exact hn
 ·obtain⟨k,v,hk⟩:=Z4U hc hn
  have:=(h.2 k v).1 hk;simp at this
theorem Rep.ne{s:List (By×By)}{n:Nd}(h:Rep s n)(hs:s≠[]):n≠.nil:=by
 rintro rfl;cases s with
 |nil=>exact hs rfl
 |cons x r =>
  have:=(h.2 x.1 x.2).2 (by simp);simp[get]at this
theorem Rep.leaf{s:List (By×By)}{p v:By}(h:Rep s (.leaf p v)):s=[(p,v)]:=by
 have hm:∀x∈s,x=(p,v):=fun x hx=>by
  have:=(h.2 x.1 x.2).2 hx;simp only[get]at this;split at this
  ·rename_i hp
   cases this;exact Prod.ext hp.symm rfl
  ·cases this
 have hin:(p,v)∈s:=(h.2 p v).1 (by simp[get]);cases s with
 |nil=>simp at hin
 |cons x r =>
  cases r with
  |nil=>rw[hm x (by simp)]
  |cons y r =>
   have h1:=hm x (by simp);have h2:=hm y (by simp);have:=(List.pairwise_cons.1 h.1).1 y (by simp);rw[h1,h2]at this;exact(Z5U _ this).elim
theorem Rep.two{s:List (By×By)}{n:Nd}(h:Rep s n){k1 v1 k2 v2:By}(h1:get n k1=V v1)(h2:get n k2=V v2)(hne:k1≠k2):2<=s.length:=by
 have m1:=(h.2 _ _).1 h1;have m2:=(h.2 _ _).1 h2
 match s,m1,m2 with
 |[x],m1,m2 =>
  simp at m1 m2;exact(hne (by rw[<-m2]at m1;exact(Prod.mk.inj m1).1)).elim
 |x::y::r,_,_=>simp
theorem Rep.row{s:List (By×By)}{p:By}{c:Nd}(h:Rep s (.row p c)):(∀x∈s,p <+: x.1)/\Rep (s.map fun x=>(x.1.drop p.length,x.2)) c:=by
 have hp:∀x∈s,p <+: x.1:=fun x hx=>by
  obtain⟨r,hr,_⟩:=Z9T ((h.2 x.1 x.2).2 hx);exact⟨r,hr.symm⟩
 refine⟨hp,?_,fun k v=>?_⟩
 ·rw[Jt]
  refine List.Pairwise.imp_of_mem (fun{x y} hx hy hxy=>?_) h.1;obtain⟨r,hr⟩:=hp x hx;obtain⟨t,ht⟩:=hp y hy;rw[<-hr,<-ht,ZC8]at hxy;simp only[<-hr,<-ht,Jc];exact hxy
 ·rw[<-Z0t p k c,h.2]
  simp only[QB];constructor
  ·intro hm
   exact⟨_,hm,by simp⟩
  ·rintro⟨x,hx,he⟩
   obtain⟨r,hr⟩:=hp x hx;simp only[Prod.mk.injEq]at he;rw[<-hr,Jc]at he;obtain⟨rfl,rfl⟩:=he;rw[hr];exact hx
theorem Z8i(t p q:By):ZA (t++p) (t++q)=t.length+ZA p q:=by
 induction t with
 |nil=>simp
 |cons a t ih=>simp only[JW,ZA,if_true,ih,JV];omega
theorem ZB7{s:List (By×By)}(hs:s.Pairwise (fun x y=>ltB x.1 y.1)){x y:By×By}{a:UInt8}{p q:By}(hx:s.head?=V x)(hy:s.getLast?=V y)(hxa:x.1=a::p)(hya:y.1=a::q):∀z∈s,∃r,z.1=a::r:=by
 have hlast:∀{s:List (By×By)}{y:By×By},s.Pairwise (fun x y=>ltB x.1 y.1)->s.getLast?=V y->∀z∈s,z=y\/ltB z.1 y.1:=by
  intro s
  induction s with
  |nil=>intro y _ h;simp at h
  |cons x r ih =>
   intro y hp hl z hz;rw[Js]at hp;cases r with
   |nil=>simp at hl hz;subst hl;exact Q1 hz
   |cons x2 r2 =>
    rw[List.getLast?_cons_cons]at hl;rcases List.mem_cons.1 hz with rfl|hz
    ·have hy:y∈x2::r2:=Jm hl
     exact Jr (hp.1 y hy)
    ·exact ih hp.2 hl z hz
 have hfirst:∀z∈s,z=x\/ltB x.1 z.1:=by
  intro z hz;cases s with
  |nil=>simp at hx
  |cons x' r =>
   simp at hx;subst hx;rcases List.mem_cons.1 hz with rfl|hz
   ·exact Q1 rfl
   ·exact Jr ((List.pairwise_cons.1 hs).1 z hz)
 intro z hz;rcases hfirst z hz with rfl|h1
 ·exact⟨p,hxa⟩
 rcases hlast hs hy z hz with rfl|h2
 ·exact⟨q,hya⟩
 rw[hxa]at h1;rw[hya]at h2;cases hzz:z.1 with
 |nil=>rw[hzz]at h1;exact(Z4Y _ h1).elim
 |cons b r =>
  rw[hzz]at h1 h2
  have hab:a=b:=by
   have h3:a<b\/a=b:=h1.elim Q1 (fun h=>Jr h.1);have h4:b<a\/b=a:=h2.elim Q1 (fun h=>Jr h.1);rcases h3 with h3|h3
   ·rcases h4 with h4|h4
    ·exact absurd (Q3 h3 h4) (JZ a)
    ·exact h4.symm
   ·exact h3
  exact⟨r,by rw[hab]⟩
theorem Rep.parts{s:List (By×By)}{n:Nd}(h:Rep s n)(hc:Z1N n)(hb:Z2g n){x y:By×By}(hx:s.head?=V x)(hy:s.getLast?=V y):ZA x.1 y.1=0:=by
 cases hx1:x.1 with
 |nil=>simp[ZA]
 |cons a p =>
  cases hy1:y.1 with
  |nil=>simp[ZA]
  |cons b q =>
   simp only[ZA];split
   ·rename_i hab
    subst hab;exfalso;obtain⟨k1,v1,k2,v2,h1,h2,hp⟩:=Z8m hc hb;obtain⟨r1,e1⟩:=ZB7 h.1 hx hy hx1 hy1 _ ((h.2 _ _).1 h1);obtain⟨r2,e2⟩:=ZB7 h.1 hx hy hx1 hy1 _ ((h.2 _ _).1 h2);exact hp.2 a r1 r2 ⟨e1,e2⟩
   ·rfl
theorem Rep.shared_row{s:List (By×By)}{p:By}{c:Nd}(h:Rep s (.row p c))(hc:Z1N (.row p c)){x y:By×By}(hx:s.head?=V x)(hy:s.getLast?=V y):ZA x.1 y.1=p.length:=by
 obtain⟨hp,hr⟩:=h.row;have hxs:x∈s:=List.mem_of_mem_head? hx;have hys:y∈s:=Jm hy;obtain⟨r,er⟩:=hp x hxs;obtain⟨t,et⟩:=hp y hys;have:=hr.parts hc.2.2.2 hc.2.2.1 (x:=(x.1.drop p.length,x.2)) (y:=(y.1.drop p.length,y.2)) (by rw[List.head?_map,hx];rfl) (by rw[List.getLast?_map,hy];rfl);rw[<-er,<-et,Jc,Jc]at this;rw[<-er,<-et,Z8i,this];omega
def Z6m(a:Nat)(p:By):Prop:=match p with
 |[]=>True
 |b::_=>b.toNat<a
def Z7m(a:Nat)(p:By):Prop:=match p with
 |[]=>False
 |b::_=>a<=b.toNat
theorem Rep.kid{s s1 t s3:List (By×By)}{cs:Fin 16->Nd}{v:By}(h:Rep s (.branch cs v))(a:Fin 16)(he:s=s1++(t++s3))(h1:∀x∈s1,Z6m a.val x.1)(ht:∀x∈t,∃r,x.1=J3 a.val::r)(h3:∀x∈s3,Z7m (a.val+1) x.1) :
  Rep (t.map fun x=>(x.1.drop 1,x.2)) (cs a):=by
 have ha:(J3 a.val).toNat=a.val:=by rw[Jd];have:=a.isLt;omega
 have hpt:t.Pairwise (fun x y=>ltB x.1 y.1):=by
  have:=h.1;rw[he]at this;exact((List.pairwise_append.1 ((List.pairwise_append.1 this).2.1))).1
 refine⟨?_,fun k w=>?_⟩
 ·rw[Jt]
  refine List.Pairwise.imp_of_mem (fun{x y} hx hy hxy=>?_) hpt;obtain⟨r,hr⟩:=ht x hx;obtain⟨q,hq⟩:=ht y hy;rw[hr,hq,ZBW]at hxy;simp only[hr,hq,Jn,Q4];exact hxy
 ·rw[<-Z0j cs v a k,h.2,he]
  simp only[Jz,QB];constructor
  ·rintro(hm|hm|hm)
   ·have:=h1 _ hm
    simp only[Z6m,ha]at this;omega
   ·exact⟨_,hm,by simp⟩
   ·have:=h3 _ hm
    simp only[Z7m,ha]at this;omega
  ·rintro⟨x,hx,hxe⟩
   obtain⟨r,hr⟩:=ht x hx;simp only[hr,Jn,Q4,Prod.mk.injEq]at hxe;obtain⟨rfl,rfl⟩:=hxe;rw[<-hr];exact Jr (Q1 hx)
theorem ZFB{s2 t s3:List (By×By)}{a:Nat}(hs:s2.Pairwise (fun x y=>ltB x.1 y.1))(he:s2=t++s3)(hge:∀x∈s2,Z7m a x.1)(hne:∀x,s3.head?=V x->∀b r,x.1=b::r->b.toNat≠a):∀x∈s3,Z7m (a+1) x.1:=by
 subst he;cases s3 with
 |nil=>intro x hx;simp at hx
 |cons y r =>
  have hy:=hge y (by simp);have hps:=(List.pairwise_append.1 hs).2.1;rw[Js]at hps;intro x hx;cases hy1:y.1 with
  |nil=>rw[hy1]at hy;exact hy.elim
  |cons b q =>
   rw[hy1]at hy;have hb:=hne y rfl b q hy1;have hb2:a<=b.toNat:=hy;rcases List.mem_cons.1 hx with rfl|hx
   ·rw[hy1];show a+1<=b.toNat;omega
   ·have hlt:=hps.1 x hx
    rw[hy1]at hlt;cases hx1:x.1 with
    |nil=>rw[hx1]at hlt;exact(Z4Y _ hlt).elim
    |cons c p =>
     rw[hx1]at hlt;show a+1<=c.toNat;rcases hlt with hlt|⟨rfl,_⟩
     ·have:b.toNat<c.toNat:=UInt8.lt_iff_toNat_lt.1 hlt
      omega
     ·omega
theorem Rep.value{s:List (By×By)}{cs:Fin 16->Nd}{v:By}(h:Rep s (.branch cs v)){x:By×By}{r:List (By×By)}(hs:s=x::r):(x.1=[]->v=x.2)/\(x.1≠[]->v=[])/\∀y∈r,y.1≠[]:=by
 subst hs;refine⟨fun hx=>?_,fun hx=>?_,fun y hy e=>?_⟩
 ·have:=(h.2 x.1 x.2).2 (by simp)
  rw[hx,ZO]at this;split at this
  ·cases this
  ·exact Ji this
 ·by_cases hv:v=[]
  ·exact hv
  ·exfalso
   have:=(h.2 [] v).1 (by rw[ZO,if_neg hv]);rcases List.mem_cons.1 this with e|hm
   ·exact hx (by rw[<-e])
   ·have:=(List.pairwise_cons.1 h.1).1 _ hm
    exact Z4Y _ this
 ·have:=(List.pairwise_cons.1 h.1).1 y hy
  rw[e]at this;exact Z4Y _ this
def Z9D:By->By->Int
 |[],[]=>0
 |[],_::_=> -1
 |_::_,[]=>1
 |a::p,b::q=>if a=b then Z9D p q else if a<b then -1 else 1
theorem Z3h:∀{p q:By},Z9D p q<0↔ltB p q
 |[],[]=>by simp[Z9D,ltB]
 |[],_::_=>by simp[Z9D,ltB]
 |_::_,[]=>by simp[Z9D,ltB]
 |a::p,b::q=>by
  simp only[Z9D,ltB];by_cases hab:a=b
  ·subst hab
   rw[if_pos rfl,Z3h];exact⟨fun h=>Jr ⟨rfl,h⟩,fun h=>h.elim (fun h=>absurd h (JZ a)) (·.2)⟩
  ·rw[if_neg hab]
   by_cases hlt:a<b
   ·rw[if_pos hlt];simp[hlt]
   ·rw[if_neg hlt];simp[hlt,hab]
theorem ZAJ(t p q:By):Z9D (t++p) (t++q)=Z9D p q:=by
 induction t with
 |nil=>rfl
 |cons a t ih=>simp only[JW,Z9D,if_true,ih]
theorem Z59{p q:By}{j:Nat}(h:p.take j=q.take j):Z9D p q=Z9D (p.drop j) (q.drop j):=by
 have:=ZAJ (p.take j) (p.drop j) (q.drop j);rw[Jj,h,Jj]at this;exact this
end Go.Trie
end
section
namespace Go.Proofs.YtfghidehlnfdiaaGreat
open Go Go.Vcg Go.Trie
section
variable{w:X}
theorem ZCf{o1 o2:Option Addr}{k1 k2:Nat}{a b:By}(h1:RdB w o1 a)(h2:RdB w o2 b)(hl:a.length<=2^62) :
  E J Z0N.n #[.slice o1 a.length k1,.slice o2 b.length k2] w (fun e w'=>e=Y (.int O (Z9D a b))/\Vcg.Mod NoB w w'):=by
 refine Z9 fun R hR=>Z0N.vc _ _ _ _ _ _ _ _ ?_;unfold Z0N.Vc
 refine⟨fun w'=>Vcg.Mod NoB w w'/\(a.take (min a.length b.length)=b.take (min a.length b.length)),
  ⟨fun i w'=>∃j:Nat,i=(j:Int)/\j<=a.length/\j<=b.length/\a.take j=b.take j/\Vcg.Mod NoB w w',fun i _=>((a.length:Int)-i).toNat,⟨0,rfl,JY _,JY _,rfl,Mod.refl w⟩,?_⟩,?_⟩
 ·rintro _ _ w1⟨j,rfl,hja,hjb,ht,M⟩
  refine⟨fun hla=>⟨fun hlb=>?_,fun hlb=>⟨M,by rw[show min a.length b.length=j by omega];exact ht⟩⟩,fun hla=>⟨M,by rw[show min a.length b.length=j by omega];exact ht⟩⟩;rintro _ rfl;have ha:j<a.length:=by omega
  have hb:j<b.length:=by omega
  obtain⟨ba,fa,rfl,hba,hca⟩:=Z1S h1 ha;obtain⟨bb,fb,rfl,hbb,hcb⟩:=Z1S h2 hb;have M2:=M.step_drew;have ca:∀w',Vcg.Mod NoB w w'->w'.cell? (JE ⟨ba,fa,J8⟩ (J2 (j:Int)))=V (bV a[j]):=fun w' M=>by rw[Z2,J1];exact(ZK M hba (fun h=>h)).trans hca
  have cb:∀w',Vcg.Mod NoB w w'->w'.cell? (JE ⟨bb,fb,J8⟩ (J2 (j:Int)))=V (bV b[j]):=fun w' M=>by rw[Z2,J1];exact(ZK M hbb (fun h=>h)).trans hcb
  refine⟨_,rfl,⟨by omega,by omega⟩,_,ca _ M2,_,rfl,⟨by omega,by omega⟩,_,cb _ M2,fun hne=>?_,fun he=>?_⟩
  ·rintro _ rfl
   have M3:=M2.step_drew;have hab:a[j]≠b[j]:=fun e=>hne (by rw[e])
   have hc:Z9D a b=if a[j]<b[j]then -1 else 1:=by
    rw[Z59 ht,J5 ha,J5 hb];simp only[Z9D];rw[if_neg hab]
   have hlt:a[j]<b[j]↔((a[j].toNat:Int)<(b[j].toNat:Int)):=by rw[UInt8.lt_iff_toNat_lt];omega
   refine⟨_,rfl,⟨by omega,by omega⟩,_,ca _ M3,_,rfl,⟨by omega,by omega⟩,_,cb _ M3,fun h=>hR _ _ ⟨?_,M3⟩,fun h=>hR _ _ ⟨?_,M3⟩⟩
   ·rw[hc,if_pos (hlt.2 h)]
   ·rw[hc,if_neg (fun x=>h (hlt.1 x))]
  ·have hab:a[j]=b[j]:=UInt8.toNat_inj.1 (by exact_mod_cast he)
   refine⟨⟨j+1,by rw[Z0 (by omega) (by omega)];omega,ha,hb,?_,M2⟩,by dsimp only;rw[Z0 (by omega) (by omega)];omega⟩;rw[J0,J0,ht,I ha,I hb,hab]
 ·rintro _ w1⟨M,ht⟩
  have hc:=Z59 ht;refine⟨fun h=>hR _ _ ⟨?_,M⟩,fun h=>⟨fun h'=>hR _ _ ⟨?_,M⟩,fun h'=>hR _ _ ⟨?_,M⟩⟩⟩
  ·rw[hc,JI (l:=a) (by omega)]
   cases hd:b.drop (min a.length b.length)with
   |nil=>have:=congrArg QD hd;rw[JN]at this;simp at this;omega
   |cons x r=>rfl
  ·rw[hc,JI (l:=b) (by omega)]
   cases hd:a.drop (min a.length b.length)with
   |nil=>have:=congrArg QD hd;rw[JN]at this;simp at this;omega
   |cons x r=>rfl
  ·rw[hc,JI (l:=a) (by omega),JI (l:=b) (by omega)]
   rfl
theorem Z8r(n:Nat):G K (JL (n:Int) 256)=((J3 n).toNat:Int):=by
 have:JL (n:Int) 256=((n%256:Nat):Int):=rfl;rw[this,Z1y];have h1:(J3 (n%256)).toNat=(J3 n).toNat:=by rw[Jd,Jd];omega
 rw[h1]
theorem Z71(base n:Nat)(hn:n<2^31)(hb:base<=192) :
  E J Z0c.n #[.int O (base:Int),.int O (n:Int)] w (fun e w'=>∃o k,e=Y (.slice o (Trie.Z2X n base).length k)/\ZM w w' tU8 1 o (Trie.Z2X n base).length k ((Trie.Z2X n base).map bV)):=by
 refine Z9 fun R hR=>Z0c.vc _ _ _ _ ?_;unfold Z0c.Vc;refine⟨fun hs=>?_,fun hs=>?_⟩
 ·rintro d w2⟨rfl,rfl⟩
  have e:Trie.Z2X n base=[J3 (base+n)]:=by unfold Trie.Z2X;rw[if_pos (by omega)]
  have ew:G O ((base:Int)+(n:Int))=((base+n:Nat):Int):=by rw[Z0 (by omega) (by omega)];omega
  rw[e]at hR;rw[ew];exact hR _ _ ⟨_,_,rfl,Z3K w _ (Z1y _)⟩
 ·have e:Trie.Z2X n base=J3 (base+55+(Z24 n).length)::Z24 n:=by unfold Trie.Z2X;rw[if_neg (by omega)]
  refine⟨fun o l k n' w'=>∃(f m:Nat)(row:List UInt8),n'=(m:Int)/\m<=n/\m<256^f/\f<=8/\Z24 n=digitsF f m++row/\l=row.length/\ZM w w' tU8 1 o l k (row.map bV),fun _ _ _ n' _=>n'.toNat,
   ⟨8,n,[],rfl,JX _,by omega,JX _,by rw[List.append_nil];rfl,rfl,ZM.nil (Mod.refl w) _ _⟩,?_⟩
  rintro o _ k _ _ w1⟨f,m,row,rfl,hmn,hm,hf,hd,rfl,F⟩;have hlen:=Z3i n;refine⟨fun hpos=>?_,fun hz=>?_⟩
  ·rintro d w2⟨rfl,rfl⟩
   rw[hd,Q]at hlen;cases f with
   |zero=>simp at hm;omega
   |succ g =>
    have hM:=Mod.alloc (S:=NoB) w1 (JH #[.int K (G K (JL (m:Int) 256))] 5);have F1:=Z3K w1 (J3 m) (n:=G K (JL (m:Int) 256)) (Z8r m);obtain⟨o3,k3,w3,hr3,F3⟩:=ZW (ty:=Zy) (k2:=k) F1 ((Zj F).mod' hM) (by omega)
    have hstep:digitsF (g+1) m=digitsF g (m/256)++[J3 m]:=by
     simp only[digitsF];rw[if_neg (by omega)]
    have hfd:G O (Jf (m:Int) 256)=((m/256:Nat):Int):=by
     rw[show Jf (m:Int) 256=((m/256:Nat):Int)from rfl,Z0 (by omega) (by omega)]
    rw[hfd];refine⟨_,w3,hr3,_,_,_,rfl,⟨g,m/256,J3 m::row,rfl,by omega,?_,by omega,?_,?_,?_⟩,?_⟩
    ·rw[Nat.pow_succ]at hm
     exact Nat.div_lt_of_lt_mul (by rw[Nat.mul_comm];exact hm)
    ·rw[hd,hstep,Ju];rfl
    ·simp;omega
    ·exact ZM.from_ F3 F.mod
    ·dsimp only;omega
  ·have hm0:m=0:=by omega
   subst hm0;have h0:digitsF f 0=[]:=by cases f<;>simp[digitsF]
   rw[h0,List.nil_append]at hd;rw[hd]at hlen;rintro d w3⟨rfl,rfl⟩
   have ew2:G O (G O ((base:Int)+55)+(((row.length:Nat):Int)))=((base+55+row.length:Nat):Int):=by
    rw[Z0 (n:=(base:Int)+55) (by omega) (by omega),Z0 (by omega) (by omega)];omega
   rw[ew2];obtain⟨o4,k4,w4,hr4,F4⟩:=ZW (ty:=Zy) (k2:=k) (Z3K w1 _ (Z1y (base+55+row.length))) ((Zj F).mod' (Mod.alloc _ _)) (by omega);refine⟨_,w4,hr4,_,_,_,rfl,hR _ _ ⟨o4,k4,?_,?_⟩⟩
   ·rw[e,JV,QC,hd]
   ·rw[e,JV,QC,hd]
    exact ZM.from_ F4 F.mod
theorem Z5t{o:Option Addr}{k:Nat}{b:By}(h:RdB w o b)(hl:b.length<2^30) :
  E J Z0O.n #[.slice o b.length k] w (fun e w'=>∃o' k',e=Y (.slice o' (enc (.s b)).length k')/\ZM w w' tU8 1 o' (enc (.s b)).length k' ((enc (.s b)).map bV)):=by
 refine Z9 fun R hR=>Z0O.vc _ _ _ _ _ ?_;unfold Z0O.Vc
 have long:own b=JJ->E J 114 #[(.int O 128),(.int O ((b.length:Nat):Int))] w (fun e17 w18 =>
   ∃o19:Option Addr,∃l20:Nat,∃l21:Nat,e17=Y (.slice o19 l20 l21) /\
   ∃(v22:J6)(w23:X),U J (builtinV J4 #[23,23] 23 #[(.slice o19 l20 l21),(.slice o b.length k)]) w18=Ja v22 w23 /\
   ∃o24:Option Addr,∃l25:Nat,∃l26:Nat,v22=(.slice o24 l25 l26) /\
   R (Y (.slice o24 l25 l26)) w23):=by
  intro ho;have e:enc (.s b)=Trie.Z2X b.length 128++b:=by simp only[enc];rw[if_neg (by rw[ho];simp)]
  rw[e,Q]at hR;refine(Z71 128 b.length (by omega) (by omega)).mono ?_;rintro _ w1⟨o1,k1,rfl,F1⟩;have:=(Z4q b.length 128).2;obtain⟨o2,k2,w2,hr2,F2⟩:=ZW (ty:=Zy) (k2:=k) F1 (h.mod' F1.mod) (by omega);exact⟨_,_,_,rfl,_,w2,hr2,_,_,_,rfl,hR _ _ ⟨o2,k2,rfl,F2⟩⟩
 refine⟨fun h1=>?_,fun h1=>long ?_⟩
 ·obtain⟨a,rfl⟩:∃a,b=[a]:=List.length_eq_one_iff.1 (by omega)
  obtain⟨B,f,rfl,hB,hc⟩:=Z1S h (i:=0) (by simp)
  have h2:a<128↔a.toNat<128:=by
   have:∀n:Fin 256,(JF n<128↔(JF n).toNat<128):=by decide +kernel
   exact this a.toFin
  simp only[Jh]at hc;refine⟨_,rfl,⟨by omega,by omega⟩,_,by rw[Z2];exact hc,fun hlt=>⟨_,rfl,⟨by omega,by omega⟩,_,by rw[Z2];exact hc,?_⟩,fun hge=>long (by show decide (a<128)=JJ;rw[decide_eq_false_iff_not,h2];omega)⟩;rintro d w2⟨rfl,rfl⟩;have e:enc (.s [a])=[a]:=by simp only[enc];rw[if_pos (by show decide (a<128)=Jx;rw[decide_eq_true_eq,h2];omega)]
  rw[e]at hR;exact hR _ _ ⟨_,_,rfl,Z3K w a rfl⟩
 ·unfold own
  split
  ·simp at h1
  ·rfl
theorem Z40{o:Option Addr}{k:Nat}{b:By}(h:RdB w o b)(hl:b.length<2^30) :
  E J Z0Z.n #[.slice o b.length k] w (fun e w'=>∃o' k',e=Y (.slice o' (enc (.s b)).length k')/\ZM w w' tU8 1 o' (enc (.s b)).length k' ((enc (.s b)).map bV)):=by
 refine Z0Z.vc _ _ _ _ _ ?_;unfold Z0Z.Vc;refine(Z5t h hl).mono ?_;rintro _ w1⟨o1,k1,rfl,F1⟩;exact⟨_,_,_,rfl,o1,k1,rfl,F1⟩
theorem Z3O{o:Option Addr}{k:Nat}{b:By}(h:RdB w o b)(hl:b.length<2^30) :
  E J Z0b.n #[.slice o b.length k] w (fun e w'=>∃o' k',e=Y (.slice o' (Trie.Z2X b.length 192++b).length k')/\ZM w w' tU8 1 o' (Trie.Z2X b.length 192++b).length k' ((Trie.Z2X b.length 192++b).map bV)):=by
 refine Z0b.vc _ _ _ _ _ ?_;unfold Z0b.Vc;refine(Z71 192 b.length (by omega) (by omega)).mono ?_;rintro _ w1⟨o1,k1,rfl,F1⟩;have:=(Z4q b.length 192).2;obtain⟨o2,k2,w2,hr2,F2⟩:=ZW (ty:=Zy) (k2:=k) F1 (h.mod' F1.mod) (by omega);exact⟨_,_,_,rfl,_,w2,hr2,_,_,_,rfl,o2,k2,by rw[Q],by rw[Q];exact F2⟩
theorem ZFD(b:UInt8):G K (Jf (b.toNat:Int) 16)=((b>>>4).toNat:Int):=by
 have:∀n:Fin 256,G K (Jf ((JF n).toNat:Int) 16)=((JF n>>>4).toNat:Int):=by decide +kernel
 exact this b.toFin
theorem ZFE(b:UInt8):JL (b.toNat:Int) 16=((b&&&15).toNat:Int):=by
 have:∀n:Fin 256,JL ((JF n).toNat:Int) 16=((JF n&&&15).toNat:Int):=by decide +kernel
 exact this b.toFin
theorem Z23{o:Option Addr}{k:Nat}{bs:By}(hr:RdB w o bs)(hl:bs.length<=2^30) :
  E J Zo.n #[.slice o bs.length k] w (fun e w'=>∃o' k',e=Y (.slice o' (nibbles bs).length k')/\ZM w w' tU8 1 o' (nibbles bs).length k' ((nibbles bs).map bV)):=by
 refine Zo.vc _ _ _ _ _ ?_;unfold Zo.Vc
 refine⟨fun o' l' k' i w'=>∃j:Nat,i=(j:Int)/\j<=bs.length/\l'=(nibbles (bs.take j)).length/\ZM w w' tU8 1 o' l' k' ((nibbles (bs.take j)).map bV),fun _ _ _ i _=>((bs.length:Int)-i).toNat,
  ⟨0,rfl,JY _,rfl,ZM.nil (Mod.refl w) _ _⟩,?_⟩
 rintro o' _ k' _ _ w1⟨j,rfl,hj,rfl,F⟩;refine⟨fun hlt=>?_,fun hge=>?_⟩
 ·rintro _ rfl
  have hjl:j<bs.length:=by omega
  obtain⟨b,f,rfl,hb,hc⟩:=Z1S hr hjl;have htk:bs.take (j+1)=bs.take j++[bs[j]]:=by rw[J0,I hjl];rfl
  have F':=F.mod' (Mod.drew (S:=NoB) w1);have hc':w1.drew.cell? (JE ⟨b,f,J8⟩ (J2 (j:Int)))=V (bV bs[j]):=by rw[Z2,J1];exact(ZK F'.mod hb (fun h=>h)).trans hc
  refine⟨_,rfl,⟨by omega,by omega⟩,_,hc',_,rfl,⟨by omega,by omega⟩,_,hc',?_⟩;rintro d w2⟨rfl,rfl⟩;have hnl:=ZG (bs.take j);rw[Jg]at hnl;obtain⟨o3,k3,w3,hr3,F3⟩:=ZW (ty:=Zy) (k2:=2) (F'.mod' (Mod.alloc _ _)) (Z9w (w:=w1.drew) (bs[j]>>>4) (bs[j]&&&15) (ZFD _) (ZFE _)) (by simp;omega);refine⟨_,w3,hr3,_,_,_,rfl,⟨j+1,by rw[Z0 (by omega) (by omega)];omega,hjl,?_,?_⟩,?_⟩
  ·rw[htk,Z2i,Q]
  ·rw[htk,Z2i];exact F3
  ·dsimp only
   rw[Z0 (by omega) (by omega)];omega
 ·obtain rfl:j=bs.length:=by omega
  rw[Jy]at F ⊢;exact⟨_,_,rfl,F⟩
theorem Z3r(w:X):E J Zl.n #[] w (fun e w'=>e=Y (JS (hashA emptyH))/\Vcg.Mod NoB w w'):=by
 refine Zl.vc _ _ ?_;unfold Zl.Vc;rintro d1 w1⟨rfl,rfl⟩ d2 w2⟨rfl,rfl⟩;have M1:=Mod.alloc (S:=NoB) w (JH (A 32 (.int K 0)) 27);have H:=Blk.new w 27 (A 32 (.int K 0));generalize w.alloc (JH (A 32 (.int K 0)) 27)=w1 at *
 have r2:=ZD6 w1;have M2:=Mod.alloc (S:=NoB) w1 (JH #[.int K 128] 5);generalize w1.alloc (JH #[.int K 128] 5)=w2 at *
 refine(Z2l [128] rfl (by simp) r2).mono ?_;rintro _ w4⟨rfl,M4⟩;have M24:=M2.trans M4 (fun _ _ h=>h);obtain⟨h1,h2,h3⟩:=Z0k (H.mod' M24) (by simp) (sumOf [128]);exact⟨_,rfl,_,h1,_,h2.rowAll (Z4 _),rfl,ZC (M1.trans M24 (fun _ _ h=>h)) h3 (JX _)⟩
end
theorem ZE9(a b:UInt8)(hb:b.toNat<16):G K (G K (16*(a.toNat:Int))+(b.toNat:Int))=((a<<<4|||b).toNat:Int):=by
 have:∀(n:Fin 256)(m:Fin 16),G K (G K (16*((JF n).toNat:Int))+(m.val:Int))=((JF n<<<4|||J3 m.val).toNat:Int):=by decide +kernel
 have h:=this a.toFin ⟨b.toNat,hb⟩;simp only at h;rw[show J3 b.toNat=b by simp]at h;exact h
theorem ZCA{p:By}(h:Nib p)(leaf:Bool):Nib (headed p leaf):=by
 intro x hx;unfold headed at hx;split at hx
 ·rcases List.mem_cons.1 hx with rfl|hx
  ·cases leaf<;>decide
  ·exact h x hx
 ·rcases List.mem_cons.1 hx with rfl|hx
  ·cases leaf<;>decide
  ·rcases List.mem_cons.1 hx with rfl|hx
   ·decide
   ·exact h x hx
section
variable{w:X}
theorem Z6x{o:Option Addr}{k:Nat}{bs:By}(hr:RdB w o bs)(hl:bs.length<=2^30)(leaf:Bool) :
  E J Z0K.n #[.slice o bs.length k,.bool leaf] w (fun e w'=>∃o' k',e=Y (JQ #[.slice o' (Z7K bs leaf).1.length k',.int O (Z7K bs leaf).2])/\ZM w w' tU8 1 o' (Z7K bs leaf).1.length k' ((Z7K bs leaf).1.map bV)):=by
 refine Z9 fun R hR=>Z0K.vc _ _ _ _ _ _ ?_;unfold Z0K.Vc
 have bad:Z2c bs->R (Y (JQ #[.slice J8 0 0,.int O 140])) w:=fun h=>by
  refine hR _ _ ⟨J8,0,?_,?_⟩
  ·unfold Z7K;rw[if_pos h];rfl
  ·unfold Z7K;rw[if_pos h];exact ZM.nil (Mod.refl w) _ _
 refine⟨fun h=>bad (Q1 (by omega)),fun h128=>?_⟩;refine⟨fun i w'=>∃j:Nat,i=(j:Int)/\j<=bs.length/\w'=w/\∀x∈bs.take j,x.toNat<16,fun i _=>((bs.length:Int)-i).toNat,⟨0,rfl,JY _,rfl,by simp⟩,?_⟩;rintro _ _ w⟨j,rfl,hj,rfl,hn⟩;refine⟨fun hlt=>?_,fun hge=>?_⟩
 ·have hjl:j<bs.length:=by omega
  obtain⟨b,f,rfl,hb,hc⟩:=Z1S hr hjl;have htk:bs.take (j+1)=bs.take j++[bs[j]]:=by rw[J0,I hjl];rfl
  refine⟨_,rfl,⟨by omega,by omega⟩,_,by rw[Z2,J1];exact hc,fun h=>bad (Jr ⟨bs[j],JO _,?_⟩),fun h=>⟨⟨j+1,by rw[Z0 (by omega) (by omega)];omega,hjl,rfl,?_⟩,by dsimp only;rw[Z0 (by omega) (by omega)];omega⟩⟩
  ·show(16:UInt8)<=bs[j]
   rw[Jk];show 16<=_;omega
  ·intro x hx
   rw[htk]at hx;rcases List.mem_append.1 hx with hx|hx
   ·exact hn x hx
   ·simp only[Jq]at hx;subst hx;omega
 ·obtain rfl:j=bs.length:=by omega
  rw[Jy]at hn;have hnib:Nib bs:=hn
  have hgood:¬Z2c bs:=by
   rintro(h|⟨x,hx,h⟩)
   ·omega
   ·have h1:=hn x hx
    have h2:(16:UInt8)<=x:=h;rw[Jk]at h2;have h3:16<=x.toNat:=h2;omega
  have hpk:Z7K bs leaf=(Z3L (headed bs leaf),0):=by unfold Z7K;rw[if_neg hgood]
  rw[hpk]at hR;refine⟨fun m w'=>m=((Z1E leaf).toNat:Int)/\w'=w,⟨fun h=>⟨by rw[h];rfl,rfl⟩,fun h=>⟨by rw[h];rfl,rfl⟩⟩,?_⟩;rintro _ _ w7⟨rfl,rfl⟩;rintro d8 w9⟨rfl,rfl⟩;have hho:(Z1U bs leaf).length<=2:=by unfold Z1U;split<;>simp
  refine⟨fun o' l' k' w'=>∃k0,k'=k0/\l'=(Z1U bs leaf).length/\ZM w7 w' tU8 1 o' l' k' ((Z1U bs leaf).map bV),⟨fun hodd=>?_,fun hev=>?_⟩,?_⟩
  ·rintro d11 w12⟨rfl,rfl⟩
   have ho:bs.length%2=1:=by
    have:JL ((bs.length:Nat):Int) 2=((bs.length%2:Nat):Int):=rfl;omega
   have e:Z1U bs leaf=[Z1E leaf+1]:=by unfold Z1U;rw[if_pos ho]
   rw[e];have hw:G K (((Z1E leaf).toNat:Int)+1)=((Z1E leaf+1).toNat:Int):=by cases leaf<;>decide
   rw[hw];exact⟨_,rfl,rfl,ZM.from_ (Z3l _ [Z1E leaf+1] _ rfl (by simp[QA])) (Mod.alloc _ _)⟩
  ·have ho:¬bs.length%2=1:=by
     have:JL ((bs.length:Nat):Int) 2=((bs.length%2:Nat):Int):=rfl;omega
   have e:Z1U bs leaf=[Z1E leaf,0]:=by unfold Z1U;rw[if_neg ho]
   rw[e];exact⟨_,rfl,rfl,Z3l _ [Z1E leaf,0] _ rfl (by simp[QA])⟩
  ·rintro o13 _ _ _ w14⟨c13,rfl,rfl,F14⟩
   obtain⟨o16,k16,w16,hr16,F16⟩:=ZW (ty:=Zy) (k2:=k) F14 (hr.mod' F14.mod) (by omega);rw[<-Z4r]at F16;have hlh:(Z1U bs leaf).length+bs.length=(headed bs leaf).length:=by rw[Z4r,Q]
   rw[hlh]at hr16 F16;refine⟨_,w16,hr16,_,_,_,rfl,?_⟩;obtain⟨N,hN⟩:=Z4V bs leaf;have hrh:=Zj F16;have hnh:=ZCA hnib leaf;generalize headed bs leaf=H at *
   refine⟨fun o' l' k' i w'=>∃j:Nat,i=((2*j:Nat):Int)/\j<=N/\l'=(Z3L (H.take (2*j))).length/\ZM w16 w' tU8 1 o' l' k' ((Z3L (H.take (2*j))).map bV),fun _ _ _ i _=>((H.length:Int)-i).toNat,
    ⟨0,rfl,JY _,rfl,ZM.nil (Mod.refl w16) _ _⟩,?_⟩
   rintro o' _ k' _ _ w23⟨j,rfl,hj,rfl,F⟩;refine⟨fun hlt=>?_,fun hge=>?_⟩
   ·rintro _ rfl
    have h1:2*j<H.length:=by omega
    have h2:2*j+1<H.length:=by omega
    have F24:=F.mod' (Mod.drew (S:=NoB) w23);obtain⟨b,f,rfl,hb,hc1⟩:=Z1S hrh h1;obtain⟨b',f',hb',_,hc2⟩:=Z1S hrh h2;cases hb';have e1:G O (((2*j:Nat):Int)+1)=((2*j+1:Nat):Int):=by rw[Z0 (by omega) (by omega)];omega
    have e2:G O (((2*j:Nat):Int)+2)=((2*(j+1):Nat):Int):=by rw[Z0 (by omega) (by omega)];omega
    rw[e1,e2];refine⟨_,rfl,⟨by omega,by omega⟩,_,by rw[Z2,J1];exact(ZK F24.mod hb (fun h=>h)).trans hc1,_,rfl,⟨by omega,by omega⟩,_,by rw[Z2,J1];exact(ZK F24.mod hb (fun h=>h)).trans hc2,?_⟩;rw[ZE9 _ _ (hnh _ (JO _))];rintro d29 w30⟨rfl,rfl⟩
    have htk:H.take (2*(j+1))=H.take (2*j)++[H[2*j],H[2*j+1]]:=by
     rw[show 2*(j+1)=2*j+1+1 by omega,J0,J0,I h1,I h2,Ju];rfl
    have htl:(H.take (2*j)).length=2*j:=by rw[Jg];omega
    have hps:=Z5X j (H.take (2*j)) H[2*j] H[2*j+1] htl;have hpl:=Z4z j (H.take (2*j)) htl
    have one:RdB (w23.drew.alloc (JH #[.int K ((H[2*j]<<<4|||H[2*j+1]).toNat:Int)] 5)) (V ⟨w23.drew.heap.size,0,J8⟩) [H[2*j]<<<4|||H[2*j+1]] :=
     RdB.of_blk (Blk.new w23.drew 5 #[bV (H[2*j]<<<4|||H[2*j+1])]) (fun i hi=>by
      obtain rfl:i=0:=by simpa using hi
      rfl)
    obtain⟨o31,k31,w31,hr31,F31⟩:=ZW (ty:=Zy) (k2:=1) (F24.mod' (Mod.alloc _ _)) one (by simp;omega);refine⟨_,w31,hr31,_,_,_,rfl,⟨j+1,rfl,by omega,?_,?_⟩,by dsimp only;omega⟩
    ·rw[htk,hps,Q]
    ·rw[htk,hps];exact F31
   ·obtain rfl:j=N:=by omega
    rw[JG (by omega)]at F ⊢;exact hR _ _ ⟨_,_,rfl,ZM.from_ F F16.mod⟩
end
abbrev tRn:Jl:=62
abbrev ZDd:Jl:=28
theorem ZBt:Tryz.prog.underlying ZDd=V (.slice tRn):=by kernel_rfl
theorem ZF3:(Tryz.prog.info? tRn).map (fun i=>(i.zero,i.size,i.bytes))=V (V (JS nd0),33,56):=by kernel_rfl
section
variable{C:Type}{S:C->Prop}{w0 w w1 w':X}{lab lab':Nat->C}{c cb:C}
def Z7N(w:X)(lab:Nat->C)(c cb:C)(l:List (By×By))(o:Option Addr)(n k:Nat):Prop :=
 n=l.length/\∃vs,COw w lab c tRn 33 o n k vs/\Z08 w lab cb vs l
theorem Z7N.nil(w:X)(lab:Nat->C)(c cb:C):Z7N w lab c cb [] J8 0 0:=⟨rfl,[],COw.nil w lab c _ _,Z08.nil w lab cb⟩
theorem Z7N.stp{l:List (By×By)}{o:Option Addr}{n k:Nat}(h:Z7N w lab c cb l o n k)(s:Stp S w lab w' lab')(hs:¬S c)(hb:¬S cb):Z7N w' lab' c cb l o n k:=by
 obtain⟨h1,vs,h2,h3⟩:=h;exact⟨h1,vs,h2.stp s hs,h3.stp s hb⟩
theorem Z7N.push{l:List (By×By)}{o:Option Addr}{n k D:Nat}{h b:By}{ob:Option Addr}{kb:Nat}(H:Z7N w lab c cb l o n k)(hcb:cb≠c)(B:Blk w D tRn (ndA h ob b.length kb))(hh:h.length=32)(hb:CBy w lab cb ob b)(hk:b.length<=kb)(hl:l.length<=2^20) :
  ∃o' k' w',U J (builtinV J4 #[ZDd,ZDd] ZDd #[.slice o n k,.slice (V ⟨D,0,J8⟩) 1 1]) w=Ja (.slice o' (n+1) k') w' /\
   Z7N w' (ext lab w.heap.size c) c cb (l++[(h,b)]) o' (n+1) k'/\Stp (·=c) w lab w' (ext lab w.heap.size c):=by
 obtain⟨rfl,vs,hO,hC⟩:=H;obtain⟨i,hi,hz,hs,hbt⟩:=Z1f ZF3;obtain⟨o',k',w',h1,h2,h3⟩:=COw.append (ty:=ZDd) ZBt hi hz hs (by rfl) hO (Z3T ZBt B (Z48 _ _ _ _) (ZAe _ _ _ _)) (by simp only[QA];omega) (by rw[hbt];omega);exact⟨o',k',w',h1,⟨by simp,_,h2,(hC.push hh hb hk).stp h3 hcb⟩,h3⟩
theorem Z08.hash{vs:List J6}{l:List (By×By)}{o:Option Addr}(h:Z08 w lab cb vs l)(hR:Z42 w lab c o vs){j:Nat}(hj:j<l.length):∃g f,o=V ⟨g,f,J8⟩/\g<w.heap.size/\lab g=c/\ZD w ⟨g,f+j*33,J8⟩ 32 (hashA l[j].1):=by
 obtain⟨h1,h2,ob,kb,h3,h4⟩:=h.2 j hj;obtain⟨g,f,ho,hg,hl,hc⟩:=hR _ _ h3;refine⟨g,f,ho,hg,hl,Z4 _,fun i hi=>?_⟩;obtain⟨g',f',ho',_,_,hc'⟩:=hR _ _ (h2 i hi);rw[ho]at ho';cases ho';rw[Z2,show f+j*33+i=f+(j*33+i) by omega,hc'];show _=(ZH 32 (fun i=>bV (l[j].1.getD i 0)))[i]?;rw[Z8 hi]
theorem Z08.bytes{vs:List J6}{l:List (By×By)}{o:Option Addr}(h:Z08 w lab cb vs l)(hR:Z42 w lab c o vs){j:Nat}(hj:j<l.length):∃g f,o=V ⟨g,f,J8⟩/\g<w.heap.size/\∃ob kb,w.cell? ⟨g,f+(j*33+32),J8⟩=V (.slice ob l[j].2.length kb)/\CBy w lab cb ob l[j].2/\l[j].2.length<=kb:=by
 obtain⟨h1,h2,ob,kb,h3,h4⟩:=h.2 j hj;obtain⟨g,f,ho,hg,hl,hc⟩:=hR _ _ h3;exact⟨g,f,ho,hg,ob,kb,hc,h4⟩
end
abbrev ZDb:Jl:=118
structure BS (w:X) (L:Nat->Nat) (d0:Nat) (es:List (By×By)) (out:List (By×By)):Prop where
 ex:∃ol cl op cp on nn kn,CB w L 1 d0 ZDb #[.slice ol es.length cl,.slice op es.length cp,.slice on nn kn,.bool JJ] /\
  (∀(j:Nat)(hj:j<es.length),∃b f ov kv,ol=V ⟨b,f,J8⟩/\b<w.heap.size/\L b=6/\w.cell? ⟨b,f+(j*2+1),J8⟩=V (.slice ov es[j].2.length kv)/\CBy w L 6 ov es[j].2) /\
  (∀(j:Nat)(hj:j<es.length),∃b f o k,op=V ⟨b,f,J8⟩/\b<w.heap.size/\L b=7/\w.cell? ⟨b,f+j,J8⟩=V (.slice o es[j].1.length k)/\es[j].1.length<=k/\CBy w L 5 o es[j].1) /\
  Z7N w L 4 5 out on nn kn
theorem BS.stp{S:Nat->Prop}{w w':X}{L L':Nat->Nat}{d0:Nat}{es out:List (By×By)}(h:BS w L d0 es out)(s:Stp S w L w' L')(h1:¬S 1)(h4:¬S 4)(h5:¬S 5)(h6:¬S 6)(h7:¬S 7):BS w' L' d0 es out:=by
 obtain⟨ol,cl,op,cp,on,nn,kn,a,b,c,d⟩:=h.ex;refine⟨⟨ol,cl,op,cp,on,nn,kn,a.stp s h1,fun j hj=>?_,fun j hj=>?_,d.stp s h4 h5⟩⟩
 ·obtain⟨g,f,ov,kv,e1,e2,e3,e4,e5⟩:=b j hj
  exact⟨g,f,ov,kv,e1,JR e2 s.size,(s.lab g e2).trans e3,(JM (s.block g e2 (by rw[e3];exact h6))).trans e4,e5.stp s h6⟩
 ·obtain⟨g,f,o,k,e1,e2,e3,e4,e5,e6⟩:=c j hj
  exact⟨g,f,o,k,e1,JR e2 s.size,(s.lab g e2).trans e3,(JM (s.block g e2 (by rw[e3];exact h7))).trans e4,e5,e6.stp s h5⟩
theorem BS.mod'{w w':X}{L:Nat->Nat}{d0:Nat}{es out:List (By×By)}(h:BS w L d0 es out)(M:Vcg.Mod NoB w w')(q:Nat):BS w' (ext L w.heap.size q) d0 es out :=
 h.stp (S:=NoS) (Stp.of_nob M q) (fun h=>h) (fun h=>h) (fun h=>h) (fun h=>h) (fun h=>h)
abbrev SB1:Nat->Prop:=fun k=>k=1\/k=4
theorem Z7v{w:X}{L:Nat->Nat}{d0 k:Nat}{es out:List (By×By)}{o:Option Addr}{x h:By}(hB:BS w L d0 es out)(hx:CBy w L 5 o x)(hh:h.length=32)(hk:x.length<=k)(hl:out.length<=2^20) :
  E J ZU.n #[J9 (V ⟨d0,0,J8⟩),JS (hashA h),.slice o x.length k] w (fun e w'=>e=Y (JQ #[])/\∃L',Stp SB1 w L w' L'/\(∀k,w.heap.size<=k->L' k=4\/L' k=5)/\BS w' L' d0 es (if met out h then out else out++[(h,x)])):=by
 refine Z9 fun R hR=>ZU.vc _ _ _ _ _ _ _ ?_;unfold ZU.Vc;rintro d3 w1⟨rfl,rfl⟩;have M1:=Mod.alloc (S:=NoB) w (JH (hashA h) 27);have H1:=Blk.new w 27 (hashA h);generalize w.alloc (JH (hashA h) 27)=w1 at *
 refine⟨fun w'=>Vcg.Mod NoB w1 w'/\met out h=JJ,⟨fun i w'=>∃j:Nat,i=(j:Int)/\j<=out.length/\Vcg.Mod NoB w1 w'/\met (out.take j) h=JJ,fun i _=>((out.length:Int)-i).toNat,⟨0,rfl,JY _,Mod.refl _,rfl⟩,?_⟩,?_⟩
 ·rintro _ _ w2⟨j,rfl,hj,M2,hm⟩
  have M02:=M1.trans M2 (fun _ _ h=>h);have B2:=hB.mod' M02 5;obtain⟨ol,cl,op,cp,on,nn,kn,c1,c2,c3,c4⟩:=B2.ex;obtain⟨rfl,vs,O1,O2⟩:=c4;simp only[Z2,Jv];refine⟨_,_,_,c1.blk.rd1 rfl,fun hlt=>⟨_,c1.blk.rd1 rfl,fun _=>?_,fun h=>by cases h⟩,fun hge=>⟨M2,?_⟩⟩
  ·rintro _ rfl
   have MD:=Mod.drew (S:=NoB) w2;have hjl:j<out.length:=by omega
   obtain⟨g,f,rfl,hg,_,hrow⟩:=O2.hash O1.row hjl;have hrow':ZD w2.drew (JE ⟨g,f,J8⟩ (J2 (j:Int)*33)) 32 (hashA out[j].1):=by rw[Z2,J1];exact hrow
   have hlen:=(O2.2 j hjl).1;have htk:out.take (j+1)=out.take j++[out[j]]:=by rw[J0,I hjl];rfl
   have hm2:met (out.take (j+1)) h=decide (out[j].1=h):=by
    rw[htk];unfold met at hm ⊢;rw[List.any_append,hm];simp
   refine⟨_,_,_,(c1.blk.mod' MD).rd1 rfl,_,rfl,⟨by omega,by omega⟩,_,hrow',_,(H1.mod' (M2.trans MD (fun _ _ h=>h))).rowAll (Z4 _),_,Z8O _ _ hlen hh,_,rfl,fun he=>?_,fun he=>?_⟩
   ·have hmt:met out h=Jx:=by
      unfold met;exact List.any_eq_true.2 ⟨out[j],JO _,he⟩
    rw[hmt,if_pos rfl]at hR;exact hR _ _ ⟨rfl,_,(Stp.of_nob (M02.trans MD (fun _ _ h=>h)) 5).mono (S:=NoS) (fun _ h=>h.elim),fun k hk=>Jr (Z0D hk),hB.mod' (M02.trans MD (fun _ _ h=>h)) 5⟩
   ·exact⟨⟨j+1,by rw[Z0 (by omega) (by omega)];omega,hjl,M2.trans MD (fun _ _ h=>h),by rw[hm2];exact he⟩,by rw[Z0 (by omega) (by omega)];omega⟩
  ·rw[JG (by omega)]at hm;exact hm
 ·rintro _ w2⟨M2,hm⟩
  rintro _ rfl;rw[hm]at hR;simp only[Bool.false_eq_true,if_false]at hR;have M3:=M2.step_drew;have M03:=M1.trans M3 (fun _ _ h=>h);have H3:=H1.mod' M3;have B3:=hB.mod' M03 5;have s03:Stp NoS w L w2.drew (ext L w.heap.size 5):=Stp.of_nob M03 5;have hx3:=hx.stp s03 (fun h=>h);have hnew3:∀k,w.heap.size<=k->ext L w.heap.size 5 k=4\/ext L w.heap.size 5 k=5:=fun k hk=>Jr (Z0D hk);have hsz3:=M03.size;generalize w2.drew=w3 at *
  generalize ext L w.heap.size 5=L3 at *
  obtain⟨ol,cl,op,cp,on,nn,kn,c1,c2,c3,c4⟩:=B3.ex;have hZ:nd0.size=33:=rfl;simp only[Z2,Jv];refine⟨_,_,_,c1.blk.rd1 rfl,_,H3.rowAll (Z4 _),Z4 _,by rw[Z0R];unfold lputL;rw[Z0R,hZ],?_⟩;rw[ZBZ hZ];rintro d w4⟨rfl,rfl⟩;have M4:=Mod.alloc (S:=NoB) w3 (JH (ndA h o x.length k) tRn);have N4:=Blk.new w3 tRn (ndA h o x.length k);have s4:Stp NoS w3 L3 (w3.alloc (JH (ndA h o x.length k) tRn)) (ext L3 w3.heap.size 5):=Stp.of_nob M4 5;show J7 (w3.alloc (JH (ndA h o x.length k) tRn)) _=_/\∃(v30:J6)(w31:X),U J (builtinV J4 #[28,28] 28 #[(.slice on nn kn),(.slice (V ⟨w3.heap.size,0,J8⟩) 1 1)]) (w3.alloc (JH (ndA h o x.length k) tRn))=Ja v30 w31/\_
  have hnew4:∀k,w.heap.size<=k->ext L3 w3.heap.size 5 k=4\/ext L3 w3.heap.size 5 k=5:=fun k hk=>by
   by_cases hlt:k<w3.heap.size
   ·rw[Z1d hlt];exact hnew3 k hk
   ·exact Jr (Z0D (by omega))
  have hsz4:=M4.size;generalize w3.alloc (JH (ndA h o x.length k) tRn)=w4 at *
  have B4:=B3.stp s4 (fun h=>h) (fun h=>h) (fun h=>h) (fun h=>h) (fun h=>h);have c14:=c1.stp s4 (fun h=>h);have c44:=c4.stp s4 (fun h=>h) (fun h=>h);have hx4:=hx3.stp s4 (fun h=>h);generalize ext L3 w3.heap.size 5=L4 at *
  refine⟨c14.blk.rd1 rfl,?_⟩;obtain⟨o',k',w5,hr5,O5,s5⟩:=c44.push (by decide) N4 hh hx4 hk hl
  have hnew5:∀k,w.heap.size<=k->ext L4 w4.heap.size 4 k=4\/ext L4 w4.heap.size 4 k=5:=fun k hk=>by
   by_cases hlt:k<w4.heap.size
   ·rw[Z1d hlt];exact hnew4 k hk
   ·exact Q1 (Z0D (by omega))
  have c15:=c14.stp s5 (by decide);have B5:∀(j:Nat)(hj:j<es.length),_:=fun j hj=>c2 j hj;have s35:=(s4.mono (T:=fun k=>k=4) (fun _ h=>h.elim)).trans s5;generalize ext L4 w4.heap.size 4=L5 at *
  refine⟨_,w5,hr5,o',_,k',rfl,c15.blk.canSet (by simp) rfl,?_⟩;rintro _ rfl;have s6:Stp (fun k=>k=1) w5 L5 (w5.setCell ⟨d0,2,J8⟩ (.slice o' (nn+1) k')) L5:=Stp.setCell c15.clr;have s36:Stp SB1 w3 L3 (w5.setCell ⟨d0,2,J8⟩ (.slice o' (nn+1) k')) L5:=(s35.mono (fun _ h=>Jr h)).trans (s6.mono (fun _ h=>Q1 h));refine hR _ _ ⟨rfl,L5,(s03.mono (fun _ h=>h.elim)).trans s36,hnew5,⟨⟨ol,cl,op,cp,o',nn+1,k',c15.set 2 _,fun j hj=>?_,fun j hj=>?_,O5.stp s6 (by decide) (by decide)⟩⟩⟩
  ·obtain⟨g,f,ov,kv,e1,e2,e3,e4,e5⟩:=c2 j hj
   exact⟨g,f,ov,kv,e1,JR e2 s36.size,(s36.lab g e2).trans e3,(JM (s36.block g e2 (by rw[e3];decide))).trans e4,e5.stp s36 (by decide)⟩
  ·obtain⟨g,f,o,k,e1,e2,e3,e4,e5,e6⟩:=c3 j hj
   exact⟨g,f,o,k,e1,JR e2 s36.size,(s36.lab g e2).trans e3,(JM (s36.block g e2 (by rw[e3];decide))).trans e4,e5,e6.stp s36 (by decide)⟩
end Go.Proofs.YtfghidehlnfdiaaGreat
end
section
namespace Go.Trie
def seg(es:List (By×By))(a b i:Nat):List (By×By):=((es.drop a).take (b-a)).map fun e=>(e.1.drop i,e.2)
structure Z7M (es:List (By×By)) (a b i:Nat):Prop where
 lt:a<b
 le:b<=es.length
 len:∀(j:Nat)(hj:j<es.length),a<=j->j<b->i<=es[j].1.length
theorem Z5c{es:List (By×By)}{a b i:Nat}(h:b<=es.length):(seg es a b i).length=b-a:=by
 unfold seg;rw[List.length_map,Jg,JN];omega
theorem Z8f{es:List (By×By)}{a b i j:Nat}(h:b<=es.length)(hj:a+j<b):(seg es a b i)[j]?=V (es[a+j].1.drop i,es[a+j].2):=by
 unfold seg;rw[List.getElem?_map,List.getElem?_take,if_pos (by omega),Je,I (by omega)];rfl
theorem Z8g(es:List (By×By))(a i:Nat):seg es a a i=[]:=by unfold seg;rw[Q9,List.take_zero];rfl
theorem ZAo{es:List (By×By)}{a b i:Nat}(h:b<=es.length){x:By×By}(hx:x∈seg es a b i):∃(j:Nat) (hj:j<es.length),a<=j/\j<b/\x=(es[j].1.drop i,es[j].2):=by
 obtain⟨j,hj⟩:=List.mem_iff_getElem?.1 hx
 have hl:j<(seg es a b i).length:=by
  rcases Q7 j (seg es a b i).length with h|h
  ·exact h
  ·rw[JT h]at hj;cases hj
 rw[Z5c h]at hl;rw[Z8f h (by omega)]at hj;exact⟨a+j,by omega,by omega,by omega,(Ji hj).symm⟩
theorem ZAd{es:List (By×By)}{a b i j:Nat}(h:b<=es.length)(h1:a<=j)(h2:j<b):(es[j].1.drop i,es[j].2)∈seg es a b i:=by
 have:=Z8f (a:=a) (b:=b) (i:=i) (j:=j-a) h (by omega);simp only[show a+(j-a)=j by omega]at this;exact List.mem_of_getElem? this
theorem Z55{es:List (By×By)}{a b i:Nat}(h:Z7M es a b i):(seg es a b i).head?=V ((es[a]'(by have:=h.lt;have:=h.le;omega)).1.drop i,(es[a]'(by have:=h.lt;have:=h.le;omega)).2):=by
 have:=Z8f (a:=a) (b:=b) (i:=i) (j:=0) h.le (by have:=h.lt;omega);rw[List.head?_eq_getElem?,this];rfl
theorem ZBl{es:List (By×By)}{a b i:Nat}(h:Z7M es a b i):(seg es a b i).getLast?=V ((es[b-1]'(by have:=h.lt;have:=h.le;omega)).1.drop i,(es[b-1]'(by have:=h.lt;have:=h.le;omega)).2):=by
 have h1:=h.lt;have:=Z8f (a:=a) (b:=b) (i:=i) (j:=b-1-a) h.le (by omega);rw[List.getLast?_eq_getElem?,Z5c h.le,show b-a-1=b-1-a by omega,this];simp only[show a+(b-1-a)=b-1 by omega]
theorem ZDQ(es:List (By×By))(a b i j:Nat):seg es a b (i+j)=(seg es a b i).map fun x=>(x.1.drop j,x.2):=by
 unfold seg;rw[List.map_map];congr 1;funext e;simp[Q5]
theorem Z36{es:List (By×By)}{a m b i:Nat}(h1:a<=m)(h2:m<=b):seg es a b i=seg es a m i++seg es m b i:=by
 unfold seg;rw[<-Q2];congr 1;have:b-a=(m-a)+(b-m):=by omega
 rw[this,List.take_add,Q5,show a+(m-a)=m by omega]
theorem ZBk{es:List (By×By)}{a b i:Nat}(h:Z7M es a b i):seg es a b i=((es[a]'(by have:=h.lt;have:=h.le;omega)).1.drop i,(es[a]'(by have:=h.lt;have:=h.le;omega)).2)::seg es (a+1) b i:=by
 have h1:=h.lt;have h2:=h.le;unfold seg;rw[J5 (by omega:a<es.length),show b-a=(b-(a+1))+1 by omega,List.take_succ_cons,Jo]
def kidsN:Nd->List (By×By)->List (By×By)
 | .row _ c,out=>Z16 c JJ out
 | .branch cs _,out=>(JD 16).foldl (fun o i=>Z16 (cs i) JJ o) out
 |_,out=>out
theorem Z8A{n:Nd}(h:n≠.nil)(top:Bool)(out:List (By×By)):Z16 n top out=Z1g (kidsN n out) top (bytesOf n):=by
 cases n with
 |nil=>exact(h rfl).elim
 |leaf p v=>rfl
 |row p c=>rfl
 |branch cs v=>rfl
theorem kids_len{n:Nd}(out:List (By×By)):(kidsN n out).length<=out.length+cnt n:=by
 cases n with
 |nil=>simp[kidsN]
 |leaf p v=>simp[kidsN]
 |row p c =>
  have:=Z2S c JJ out;simp only[kidsN,cnt];omega
 |branch cs v =>
  have:=Z4p (fun i out=>Z2S (cs i) JJ out) (JD 16) out;simp only[kidsN,cnt];omega
end Go.Trie
end
section
namespace Go.Proofs.YtfghidehlnfdiaaGreat
open Go Go.Vcg Go.Trie
abbrev SI(i:Nat):Nat->Prop:=fun k=>k=1\/k=4\/8+i<=k
theorem Z6C{w:X}{L:Nat->Nat}{q:Nat}{o:Option Addr}{l k:Nat}{b c:By}{o2:Option Addr}{k2:Nat}{ty:Jl}(h:COw w L q tU8 1 o l k (b.map bV))(hr:RdB w o2 c)(hn:l+c.length<=2^40) :
  ∃o' k' w',U J (builtinV J4 #[Zy,Zy] ty #[.slice o l k,.slice o2 c.length k2]) w=Ja (.slice o' (l+c.length) k') w'/\COw w' (ext L w.heap.size q) q tU8 1 o' (l+c.length) k' ((b++c).map bV)/\Stp (·=q) w L w' (ext L w.heap.size q):=by
 obtain⟨i,hi,hz,hs,hb⟩:=Z1f ZAX;rw[Q2];exact COw.append Zn hi hz hs rfl h (Z75 Zn hr) (by simp only[QA];omega) (by rw[hb];omega)
theorem ZEe{w:X}{L:Nat->Nat}{d0 a b i:Nat}{es out:List (By×By)}(hB:BS w L d0 es out)(hok:Z7M es a b i)(hlen:∀e∈es,e.1.length<=128)(hle:es.length<=2^20)(hi:i<=128){J45:Int->X->Prop}
  (hJ:∀w',Vcg.Mod NoB w w'->J45 (ZA ((es[a]'(by have:=hok.lt;have:=hok.le;omega)).1.drop i) ((es[b-1]'(by have:=hok.lt;have:=hok.le;omega)).1.drop i):Int) w') :
  ∃(I46:Int->X->Prop)(μ46:Int->X->Nat),I46 0 w /\
   (∀(n47:Int)(j48:Nat->J6)(w48:X),I46 n47 w48 ->
     ∀w49:X,ZF w48 w49 ->
     ∃o50:Option Addr,∃l51:Nat,∃l52:Nat,J7 w49 (JE ⟨d0,0,J8⟩ 1)=V (.slice o50 l51 l52) /\
     ∃d53:Addr,o50=V d53 /\
     ((0:Int)<=(a:Int)/\(a:Int)<((l51:Nat):Int)) /\
     ∃o54:Option Addr,∃l55:Nat,∃l56:Nat,J7 w49 (JE d53 (J2 (a:Int)))=V (.slice o54 l55 l56) /\
     (((((l55:Nat):Int)>(G O ((i:Int)+n47)) ->
       ∃o57:Option Addr,∃l58:Nat,∃l59:Nat,J7 w49 (JE ⟨d0,0,J8⟩ 1)=V (.slice o57 l58 l59) /\
       ∃d60:Addr,o57=V d60 /\
       ((0:Int)<=(G O ((b:Int)-1))/\(G O ((b:Int)-1))<((l58:Nat):Int)) /\
       ∃o61:Option Addr,∃l62:Nat,∃l63:Nat,J7 w49 (JE d60 (J2 (G O ((b:Int)-1))))=V (.slice o61 l62 l63) /\
       (((((l62:Nat):Int)>(G O ((i:Int)+n47)) ->
         ∃o64:Option Addr,∃l65:Nat,∃l66:Nat,J7 w49 (JE ⟨d0,0,J8⟩ 1)=V (.slice o64 l65 l66) /\
         ∃d67:Addr,o64=V d67 /\
         ((0:Int)<=(a:Int)/\(a:Int)<((l65:Nat):Int)) /\
         ∃o68:Option Addr,∃l69:Nat,∃l70:Nat,J7 w49 (JE d67 (J2 (a:Int)))=V (.slice o68 l69 l70) /\
         ∃d71:Addr,o68=V d71 /\
         ((0:Int)<=(G O ((i:Int)+n47))/\(G O ((i:Int)+n47))<((l69:Nat):Int)) /\
         ∃n72:Int,J7 w49 (JE d71 (J2 (G O ((i:Int)+n47))))=V (.int K n72) /\
         ∃o73:Option Addr,∃l74:Nat,∃l75:Nat,J7 w49 (JE ⟨d0,0,J8⟩ 1)=V (.slice o73 l74 l75) /\
         ∃d76:Addr,o73=V d76 /\
         ((0:Int)<=(G O ((b:Int)-1))/\(G O ((b:Int)-1))<((l74:Nat):Int)) /\
         ∃o77:Option Addr,∃l78:Nat,∃l79:Nat,J7 w49 (JE d76 (J2 (G O ((b:Int)-1))))=V (.slice o77 l78 l79) /\
         ∃d80:Addr,o77=V d80 /\
         ((0:Int)<=(G O ((i:Int)+n47))/\(G O ((i:Int)+n47))<((l78:Nat):Int)) /\
         ∃n81:Int,J7 w49 (JE d80 (J2 (G O ((i:Int)+n47))))=V (.int K n81) /\
         (((n72=n81 ->
           I46 (G O (n47+1)) w49/\μ46 (G O (n47+1)) w49<μ46 n47 w48)) /\
          ((n72≠n81 ->
           J45 n47 w49))))) /\
        ((¬((l62:Nat):Int)>(G O ((i:Int)+n47)) ->
         J45 n47 w49))))) /\
      ((¬((l55:Nat):Int)>(G O ((i:Int)+n47)) ->
       J45 n47 w49)))):=by
 have h1:=hok.lt;have h2:=hok.le;have ha:a<es.length:=by omega
 have hb:b-1<es.length:=by omega
 have la:=hok.len a ha (JX _) h1;have lb:=hok.len (b-1) hb (by omega) (by omega);have l1:=hlen _ (JO ha);have l2:=hlen _ (JO hb);generalize hf:es[a].1=f at *
 generalize hg:es[b-1].1=g at *
 have hfl:(f.drop i).length=f.length-i:=JN;have hgl:(g.drop i).length=g.length-i:=JN;refine⟨fun n w'=>∃j:Nat,n=(j:Int)/\i+j<=f.length/\i+j<=g.length/\(f.drop i).take j=(g.drop i).take j/\Vcg.Mod NoB w w',fun n _=>((129:Int)-n).toNat,⟨0,rfl,by omega,by omega,rfl,Mod.refl w⟩,?_⟩;rintro _ _ w1⟨j,rfl,hjf,hjg,ht,M⟩;rintro _ rfl;have M2:=M.step_drew
 have fin:(j=(f.drop i).length\/j=(g.drop i).length\/∃(x:j<(f.drop i).length)(y:j<(g.drop i).length),(f.drop i)[j]≠(g.drop i)[j])->J45 (j:Int) w1.drew:=fun h=>by
  have:=hJ _ M2;rw[ZDY ht (by omega) (by omega) h]at this;exact this
 obtain⟨ol,cl,op,cp,on,nn,kn,c1,c2,c3,c4⟩:=(hB.mod' M2 5).ex;have hc:J7 w1.drew ⟨d0,1,J8⟩=V (.slice op es.length cp):=c1.blk.rd1 rfl;obtain⟨g1,f1,o1,k1,e1,e2,e3,e4,e5,e6⟩:=c3 a ha;obtain⟨g2,f2,o2,k2,e1',e2',e3',e4',e5',e6'⟩:=c3 (b-1) hb;subst e1;cases e1';rw[hf]at e4 e5 e6;rw[hg]at e4' e5' e6';have ew:G O ((i:Int)+(j:Int))=((i+j:Nat):Int):=by rw[Z0 (by omega) (by omega)];omega
 have eb:G O ((b:Int)-1)=((b-1:Nat):Int):=by rw[Z0 (by omega) (by omega)];omega
 simp only[ew,eb,Z2,Jv,J1];refine⟨_,_,_,hc,_,rfl,⟨by omega,by omega⟩,_,_,_,by rw[Z2];exact e4,fun hlf=>⟨_,_,_,hc,_,rfl,⟨by omega,by omega⟩,_,_,_,by rw[Z2];exact e4',fun hlg=>?_,fun hlg=>fin (Jr (Q1 (by omega)))⟩,fun hlf=>fin (Q1 (by omega))⟩;have hjf':i+j<f.length:=by omega
 have hjg':i+j<g.length:=by omega
 obtain⟨pb,pf,rfl,hpb,hpc⟩:=Z1S e6.rd hjf';obtain⟨qb,qf,rfl,hqb,hqc⟩:=Z1S e6'.rd hjg';refine⟨_,_,_,hc,_,rfl,⟨by omega,by omega⟩,_,_,_,by rw[Z2];exact e4,_,rfl,⟨by omega,by omega⟩,_,by rw[Z2];exact hpc,_,_,_,hc,_,rfl,⟨by omega,by omega⟩,_,_,_,by rw[Z2];exact e4',_,rfl,⟨by omega,by omega⟩,_,by rw[Z2];exact hqc,fun he=>?_,fun he=>fin (Jr (Jr ⟨by omega,by omega,?_⟩))⟩
 ·have hab:f[i+j]=g[i+j]:=UInt8.toNat_inj.1 (by exact_mod_cast he)
  refine⟨⟨j+1,by rw[Z0 (by omega) (by omega)];omega,by omega,by omega,?_,M2⟩,by rw[Z0 (by omega) (by omega)];omega⟩;rw[J0,J0,ht,Je,Je,I hjf',I hjg',hab]
 ·rw[Jw,Jw]
  exact fun e=>he (by rw[e])
end Go.Proofs.YtfghidehlnfdiaaGreat
end
