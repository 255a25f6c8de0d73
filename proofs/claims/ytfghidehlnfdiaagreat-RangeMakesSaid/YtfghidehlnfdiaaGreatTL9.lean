/- The reference's build: segments of entries; what two paths share. -/
/- Contracts of the reference: an item; a reference. -/
/- Contracts of the reference: a row's item. -/
/- Contracts of the reference: a branch's item; all items. -/
/- Contracts of the reference: made, Of. -/
/- Contracts of the reference: Put, Find; the plain map. -/
/- The sorted map and its trie: plain Lean. -/
/- Contracts: Find, Nodes, things held against one another. -/
/- States as lists; a round looks at 25 lanes alone. -/
/- The document's example: the law's own check of it. -/
/- The verification conditions of some functions, printed by a program of ours (wip/PrintVc.lean). -/
/- Unpacking a path, both ways. -/
import Derived.Test.YtfghidehlnfdiaaGreatTR4
import Derived.Test.YtfghidehlnfdiaaGreatXClr
import Derived.Test.YtfghidehlnfdiaaGreatProg
import Derived.KernelRfl
set_option linter.unusedVariables false
set_option linter.unusedSimpArgs false
open Array renaming replicate->V
open Bool renaming eq_iff_iff->Jh,false->J3,true->Jn
open Go renaming Calls->JX,World->JJ
open Go.Addr renaming add->J9
open Go.Ending renaming returned->J
open Go.IntKind renaming i64->J8,u8->JY,wrap->G
open Go.Obj renaming cells->J7
open Go.Proofs.Tryz renaming prog->J1
open Go.Value renaming bool->JC,int->J6,tuple->JD
open Go.World renaming cell?->J4,cell?_of_block->Ja
open Int renaming tmod->J5,toNat->I,toNat_natCast->X
open List renaming append_nil->Jg,drop_drop->Jj,drop_eq_getElem_cons->JL,eq_nil_of_length_eq_zero->JG,finRange->O,getElem?_drop->JM,getElem?_eq_getElem->Y,getElem?_eq_none->JZ,getElem?_take->Jc,getElem_drop->Je,getElem_mem->E,length->JP,length_append->W,length_cons->Z,length_drop->H,length_take->JW,map_append->JQ,map_cons->Jb,mem_cons->JV,mem_map->Jf,mem_singleton->JR,pairwise_cons->JS,take_add_one->JB,take_length->JO,take_of_length_le->JH,take_zero->Ji
open Nat renaming add_assoc->JI,le_refl->JF,le_succ->Jm,lt_of_lt_of_le->Jd,lt_or_ge->Jl,sub_self->Jk,zero_add->JA,zero_le->JK
open Option renaming none->J0,some->U
open Or renaming inl->JE,inr->J2
open Prod.mk renaming inj->JU
open UInt8 renaming lt_iff_toNat_lt->JN,ofFin->K,ofNat->JT
section
namespace Go.Trie
def seg(es:List (By×By))(a b i:Nat):List (By×By):=((es.drop a).take (b-a)).map fun e=>(e.1.drop i,e.2)
structure Z7y (es:List (By×By)) (a b i:Nat):Prop where
 lt:a<b
 le:b<=es.length
 len:∀(j:Nat)(hj:j<es.length),a<=j->j<b->i<=es[j].1.length
theorem Z6D{es:List (By×By)}{a b i:Nat}(h:b<=es.length):(seg es a b i).length=b-a:=by
 unfold seg;rw[List.length_map,JW,H];omega
theorem Z9K{es:List (By×By)}{a b i j:Nat}(h:b<=es.length)(hj:a+j<b):(seg es a b i)[j]?=U (es[a+j].1.drop i,es[a+j].2):=by
 unfold seg;rw[List.getElem?_map,Jc,if_pos (by omega),JM,Y (by omega)];rfl
theorem Z9L(es:List (By×By))(a i:Nat):seg es a a i=[]:=by unfold seg;rw[Jk,Ji];rfl
theorem ZBZ{es:List (By×By)}{a b i:Nat}(h:b<=es.length){x:By×By}(hx:x∈seg es a b i):∃(j:Nat) (hj:j<es.length),a<=j/\j<b/\x=(es[j].1.drop i,es[j].2):=by
 obtain⟨j,hj⟩:=List.mem_iff_getElem?.1 hx
 have hl:j<(seg es a b i).length:=by
  rcases Jl j (seg es a b i).length with h|h
  ·exact h
  ·rw[JZ h]at hj;cases hj
 rw[Z6D h]at hl;rw[Z9K h (by omega)]at hj;exact⟨a+j,by omega,by omega,by omega,(Option.some.inj hj).symm⟩
theorem ZBN{es:List (By×By)}{a b i j:Nat}(h:b<=es.length)(h1:a<=j)(h2:j<b):(es[j].1.drop i,es[j].2)∈seg es a b i:=by
 have:=Z9K (a:=a) (b:=b) (i:=i) (j:=j-a) h (by omega);simp only[show a+(j-a)=j by omega]at this;exact List.mem_of_getElem? this
theorem Z5h{es:List (By×By)}{a b i:Nat}(h:Z7y es a b i):(seg es a b i).head?=U ((es[a]'(by have:=h.lt;have:=h.le;omega)).1.drop i,(es[a]'(by have:=h.lt;have:=h.le;omega)).2):=by
 have:=Z9K (a:=a) (b:=b) (i:=i) (j:=0) h.le (by have:=h.lt;omega);rw[List.head?_eq_getElem?,this];rfl
theorem ZCc{es:List (By×By)}{a b i:Nat}(h:Z7y es a b i):(seg es a b i).getLast?=U ((es[b-1]'(by have:=h.lt;have:=h.le;omega)).1.drop i,(es[b-1]'(by have:=h.lt;have:=h.le;omega)).2):=by
 have h1:=h.lt;have:=Z9K (a:=a) (b:=b) (i:=i) (j:=b-1-a) h.le (by omega);rw[List.getLast?_eq_getElem?,Z6D h.le,show b-a-1=b-1-a by omega,this];simp only[show a+(b-1-a)=b-1 by omega]
theorem ZEg(es:List (By×By))(a b i j:Nat):seg es a b (i+j)=(seg es a b i).map fun x=>(x.1.drop j,x.2):=by
 unfold seg;rw[List.map_map];congr 1;funext e;simp[Jj]
theorem Z3V{es:List (By×By)}{a m b i:Nat}(h1:a<=m)(h2:m<=b):seg es a b i=seg es a m i++seg es m b i:=by
 unfold seg;rw[<-JQ];congr 1;have:b-a=(m-a)+(b-m):=by omega
 rw[this,List.take_add,Jj,show a+(m-a)=m by omega]
theorem ZCb{es:List (By×By)}{a b i:Nat}(h:Z7y es a b i):seg es a b i=((es[a]'(by have:=h.lt;have:=h.le;omega)).1.drop i,(es[a]'(by have:=h.lt;have:=h.le;omega)).2)::seg es (a+1) b i:=by
 have h1:=h.lt;have h2:=h.le;unfold seg;rw[JL (by omega:a<es.length),show b-a=(b-(a+1))+1 by omega,List.take_succ_cons,Jb]
def kidsN:Nd->List (By×By)->List (By×By)
 | .row _ c,out=>Z1K c J3 out
 | .branch cs _,out=>(O 16).foldl (fun o i=>Z1K (cs i) J3 o) out
 |_,out=>out
theorem Z8q{n:Nd}(h:n≠.nil)(top:Bool)(out:List (By×By)):Z1K n top out=Z1v (kidsN n out) top (bytesOf n):=by
 cases n with
 |nil=>exact(h rfl).elim
 |leaf p v=>rfl
 |row p c=>rfl
 |branch cs v=>rfl
theorem kids_len{n:Nd}(out:List (By×By)):(kidsN n out).length<=out.length+cnt n:=by
 cases n with
 |nil=>simp[kidsN]
 |leaf p v=>simp[kidsN]
 |row p c =>
  have:=Z2l c J3 out;simp only[kidsN,cnt];omega
 |branch cs v =>
  have:=Z5O (fun i out=>Z2l (cs i) J3 out) (O 16) out;simp only[kidsN,cnt];omega
end Go.Trie
end
section
namespace Go.Proofs.YtfghidehlnfdiaaGreat
open Go Go.Vcg Go.Trie
abbrev SI(i:Nat):Nat->Prop:=fun k=>k=1\/k=4\/8+i<=k
theorem Z6r{w:JJ}{L:Nat->Nat}{q:Nat}{o:Option Addr}{l k:Nat}{b c:By}{o2:Option Addr}{k2:Nat}{ty:TypeId}(h:COw w L q tU8 1 o l k (b.map bV))(hr:RdB w o2 c)(hn:l+c.length<=2^40) :
  ∃o' k' w',Sem.run J1 (builtinV .append #[Zu,Zu] ty #[.slice o l k,.slice o2 c.length k2]) w=.ok (.slice o' (l+c.length) k') w'/\COw w' (ext L w.heap.size q) q tU8 1 o' (l+c.length) k' ((b++c).map bV)/\Stp (·=q) w L w' (ext L w.heap.size q):=by
 obtain⟨i,hi,hz,hs,hb⟩:=Z25 Z64;rw[JQ];exact COw.append Zn hi hz hs rfl h (Z5k Zn hr) (by simp only[maxLen];omega) (by rw[hb];omega)
theorem ZG7{w:JJ}{L:Nat->Nat}{d0 a b i:Nat}{es out:List (By×By)}(hB:BS w L d0 es out)(hok:Z7y es a b i)(hlen:∀e∈es,e.1.length<=128)(hle:es.length<=2^20)(hi:i<=128){J45:Int->JJ->Prop}
  (hJ:∀w',Vcg.Mod NoB w w'->J45 (ZI ((es[a]'(by have:=hok.lt;have:=hok.le;omega)).1.drop i) ((es[b-1]'(by have:=hok.lt;have:=hok.le;omega)).1.drop i):Int) w') :
  ∃(I46:Int->JJ->Prop)(μ46:Int->JJ->Nat),I46 0 w /\
   (∀(n47:Int)(j48:Nat->Value)(w48:JJ),I46 n47 w48 ->
     ∀w49:JJ,ZL w48 w49 ->
     ∃o50:Option Addr,∃l51:Nat,∃l52:Nat,J4 w49 (J9 ⟨d0,0,J0⟩ 1)=U (.slice o50 l51 l52) /\
     ∃d53:Addr,o50=U d53 /\
     ((0:Int)<=(a:Int)/\(a:Int)<((l51:Nat):Int)) /\
     ∃o54:Option Addr,∃l55:Nat,∃l56:Nat,J4 w49 (J9 d53 (I (a:Int)))=U (.slice o54 l55 l56) /\
     (((((l55:Nat):Int)>(G J8 ((i:Int)+n47)) ->
       ∃o57:Option Addr,∃l58:Nat,∃l59:Nat,J4 w49 (J9 ⟨d0,0,J0⟩ 1)=U (.slice o57 l58 l59) /\
       ∃d60:Addr,o57=U d60 /\
       ((0:Int)<=(G J8 ((b:Int)-1))/\(G J8 ((b:Int)-1))<((l58:Nat):Int)) /\
       ∃o61:Option Addr,∃l62:Nat,∃l63:Nat,J4 w49 (J9 d60 (I (G J8 ((b:Int)-1))))=U (.slice o61 l62 l63) /\
       (((((l62:Nat):Int)>(G J8 ((i:Int)+n47)) ->
         ∃o64:Option Addr,∃l65:Nat,∃l66:Nat,J4 w49 (J9 ⟨d0,0,J0⟩ 1)=U (.slice o64 l65 l66) /\
         ∃d67:Addr,o64=U d67 /\
         ((0:Int)<=(a:Int)/\(a:Int)<((l65:Nat):Int)) /\
         ∃o68:Option Addr,∃l69:Nat,∃l70:Nat,J4 w49 (J9 d67 (I (a:Int)))=U (.slice o68 l69 l70) /\
         ∃d71:Addr,o68=U d71 /\
         ((0:Int)<=(G J8 ((i:Int)+n47))/\(G J8 ((i:Int)+n47))<((l69:Nat):Int)) /\
         ∃n72:Int,J4 w49 (J9 d71 (I (G J8 ((i:Int)+n47))))=U (J6 JY n72) /\
         ∃o73:Option Addr,∃l74:Nat,∃l75:Nat,J4 w49 (J9 ⟨d0,0,J0⟩ 1)=U (.slice o73 l74 l75) /\
         ∃d76:Addr,o73=U d76 /\
         ((0:Int)<=(G J8 ((b:Int)-1))/\(G J8 ((b:Int)-1))<((l74:Nat):Int)) /\
         ∃o77:Option Addr,∃l78:Nat,∃l79:Nat,J4 w49 (J9 d76 (I (G J8 ((b:Int)-1))))=U (.slice o77 l78 l79) /\
         ∃d80:Addr,o77=U d80 /\
         ((0:Int)<=(G J8 ((i:Int)+n47))/\(G J8 ((i:Int)+n47))<((l78:Nat):Int)) /\
         ∃n81:Int,J4 w49 (J9 d80 (I (G J8 ((i:Int)+n47))))=U (J6 JY n81) /\
         (((n72=n81 ->
           I46 (G J8 (n47+1)) w49/\μ46 (G J8 (n47+1)) w49<μ46 n47 w48)) /\
          ((n72≠n81 ->
           J45 n47 w49))))) /\
        ((¬((l62:Nat):Int)>(G J8 ((i:Int)+n47)) ->
         J45 n47 w49))))) /\
      ((¬((l55:Nat):Int)>(G J8 ((i:Int)+n47)) ->
       J45 n47 w49)))):=by
 have h1:=hok.lt;have h2:=hok.le;have ha:a<es.length:=by omega
 have hb:b-1<es.length:=by omega
 have la:=hok.len a ha (JF _) h1;have lb:=hok.len (b-1) hb (by omega) (by omega);have l1:=hlen _ (E ha);have l2:=hlen _ (E hb);generalize hf:es[a].1=f at *
 generalize hg:es[b-1].1=g at *
 have hfl:(f.drop i).length=f.length-i:=H;have hgl:(g.drop i).length=g.length-i:=H;refine⟨fun n w'=>∃j:Nat,n=(j:Int)/\i+j<=f.length/\i+j<=g.length/\(f.drop i).take j=(g.drop i).take j/\Vcg.Mod NoB w w',fun n _=>((129:Int)-n).toNat,⟨0,rfl,by omega,by omega,rfl,Mod.refl w⟩,?_⟩;rintro _ _ w1⟨j,rfl,hjf,hjg,ht,M⟩;rintro _ rfl;have M2:=M.step_drew
 have fin:(j=(f.drop i).length\/j=(g.drop i).length\/∃(x:j<(f.drop i).length)(y:j<(g.drop i).length),(f.drop i)[j]≠(g.drop i)[j])->J45 (j:Int) w1.drew:=fun h=>by
  have:=hJ _ M2;rw[ZEo ht (by omega) (by omega) h]at this;exact this
 obtain⟨ol,cl,op,cp,on,nn,kn,c1,c2,c3,c4⟩:=(hB.mod' M2 5).ex;have hc:J4 w1.drew ⟨d0,1,J0⟩=U (.slice op es.length cp):=c1.blk.rd1 rfl;obtain⟨g1,f1,o1,k1,e1,e2,e3,e4,e5,e6⟩:=c3 a ha;obtain⟨g2,f2,o2,k2,e1',e2',e3',e4',e5',e6'⟩:=c3 (b-1) hb;subst e1;cases e1';rw[hf]at e4 e5 e6;rw[hg]at e4' e5' e6';have ew:G J8 ((i:Int)+(j:Int))=((i+j:Nat):Int):=by rw[Z0 (by omega) (by omega)];omega
 have eb:G J8 ((b:Int)-1)=((b-1:Nat):Int):=by rw[Z0 (by omega) (by omega)];omega
 simp only[ew,eb,Z6,JA,X];refine⟨_,_,_,hc,_,rfl,⟨by omega,by omega⟩,_,_,_,by rw[Z6];exact e4,fun hlf=>⟨_,_,_,hc,_,rfl,⟨by omega,by omega⟩,_,_,_,by rw[Z6];exact e4',fun hlg=>?_,fun hlg=>fin (J2 (JE (by omega)))⟩,fun hlf=>fin (JE (by omega))⟩;have hjf':i+j<f.length:=by omega
 have hjg':i+j<g.length:=by omega
 obtain⟨pb,pf,rfl,hpb,hpc⟩:=Z1g e6.rd hjf';obtain⟨qb,qf,rfl,hqb,hqc⟩:=Z1g e6'.rd hjg';refine⟨_,_,_,hc,_,rfl,⟨by omega,by omega⟩,_,_,_,by rw[Z6];exact e4,_,rfl,⟨by omega,by omega⟩,_,by rw[Z6];exact hpc,_,_,_,hc,_,rfl,⟨by omega,by omega⟩,_,_,_,by rw[Z6];exact e4',_,rfl,⟨by omega,by omega⟩,_,by rw[Z6];exact hqc,fun he=>?_,fun he=>fin (J2 (J2 ⟨by omega,by omega,?_⟩))⟩
 ·have hab:f[i+j]=g[i+j]:=UInt8.toNat_inj.1 (by exact_mod_cast he)
  refine⟨⟨j+1,by rw[Z0 (by omega) (by omega)];omega,by omega,by omega,?_,M2⟩,by rw[Z0 (by omega) (by omega)];omega⟩;rw[JB,JB,ht,JM,JM,Y hjf',Y hjg',hab]
 ·rw[Je,Je]
  exact fun e=>he (by rw[e])
structure EsOk (es:List (By×By)):Prop where
 len:es.length<=2^20
 paths:∀e∈es,e.1.length<=128
 vals:∀e∈es,e.2.length<=1024
theorem enc2(x y:It):enc (.l [x,y])=Trie.Z2r ((enc x).length+(enc y).length) 192++(enc x++enc y):=by
 simp[enc,Z1d]
def ZDR(n:Nd):Prop:=∀⦃w:JJ⦄ ⦃L:Nat->Nat⦄ ⦃d0 a b i:Nat⦄ ⦃es out:List (By×By)⦄,BS w L d0 es out->EsOk es->Z7y es a b i->Rep (seg es a b i) n->out.length+cnt n<=2^20 ->
 JX J1 ZM.n #[.pointer (U ⟨d0,0,J0⟩),J6 J8 (a:Int),J6 J8 (b:Int),J6 J8 (i:Int)] w (fun e w'=>∃o k,e=J (.slice o (bytesOf n).length k)/\∃L',Stp (SI i) w L w' L'/\BS w' L' d0 es (kidsN n out)/\CBy w' L' 5 o (bytesOf n)/\(bytesOf n).length<=k)
def ZH2(n:Nd):Prop:=∀⦃w:JJ⦄ ⦃L:Nat->Nat⦄ ⦃d0 a b i:Nat⦄ ⦃es out:List (By×By)⦄,BS w L d0 es out->EsOk es->Z7y es a b i->Rep (seg es a b i) n->out.length+cnt n<=2^20 ->
 JX J1 Zl.n #[.pointer (U ⟨d0,0,J0⟩),J6 J8 (a:Int),J6 J8 (b:Int),J6 J8 (i:Int)] w (fun e w'=>∃o k,e=J (.slice o (enc (Z5B n)).length k)/\∃L',Stp (SI i) w L w' L'/\BS w' L' d0 es (Z1K n J3 out)/\CBy w' L' 5 o (enc (Z5B n)))
theorem ZFB{i:Nat}:¬SI i 5/\¬SI i 6/\¬SI i 7:=⟨by rintro(h|h|h)<;>omega,by rintro(h|h|h)<;>omega,by rintro(h|h|h)<;>omega⟩
theorem ZEZ{n:Nd}(hI:ZDR n)(hn:n≠.nil)(hs:Z5u n):ZH2 n:=by
 intro w L d0 a b i es out hB hE hok hR hl;refine ZG fun R hR'=>Zl.vc _ _ _ _ _ _ ?_;unfold Zl.Vc;refine(hI hB hE hok hR hl).mono ?_;rintro _ w1⟨o1,k1,rfl,L1,s1,B1,x1,hk1⟩;have hbl:=Z8u hs;rw[Z8q hn]at hR';have hkl:=kids_len (n:=n) out;refine⟨_,_,_,rfl,fun h32=>?_,fun h32=>?_⟩
 ·have e1:enc (Z5B n)=bytesOf n:=by unfold Z5B Z31;rw[if_neg (by simp only[bytesOf]at h32;omega)];rfl
  have e2:Z1v (kidsN n out) J3 (bytesOf n)=kidsN n out:=by unfold Z1v;rw[decide_eq_true (by omega:(bytesOf n).length<32)];simp
  rw[e1,e2]at hR';exact hR' _ _ ⟨o1,k1,rfl,L1,s1,B1,x1⟩
 ·have e1:enc (Z5B n)=enc (.s (sumOf (bytesOf n))):=by unfold Z5B Z31;rw[if_pos (by simp only[bytesOf]at h32;omega)];rfl
  rw[e1]at hR';refine(Z4I (bytesOf n) rfl (by omega) x1.rd).mono ?_;rintro _ w2⟨rfl,M2⟩;refine⟨_,rfl,?_⟩;rintro d w3⟨rfl,rfl⟩;have H3:=Blk.new w2 27 (V 32 (J6 JY 0));obtain⟨h1,h2,h3⟩:=Z1M H3 (by simp) (sumOf (bytesOf n));have M3:=M2.step_alloc (J7 (V 32 (J6 JY 0)) 27);have M4:=ZK M3 h3 M2.size;refine⟨_,h1,_,h2.rowAll (ZA _),?_⟩;have hge:=M2.size;have hlt4:=h2.lt;generalize w2.heap.size=D at *
  generalize((w2.alloc (J7 (V 32 (J6 JY 0)) 27)).setRow D (hashA (sumOf (bytesOf n))))=w4 at *
  have B4:=B1.mod' M4 5;have s4:Stp NoS w1 L1 w4 (ext L1 w1.heap.size 5):=Stp.of_nob M4 5;have x4:=x1.stp s4 (fun h=>h);have D4:CB w4 (ext L1 w1.heap.size 5) 5 D tHash (hashA (sumOf (bytesOf n))):=⟨h2,ext_new hge⟩;generalize ext L1 w1.heap.size 5=L4 at *
  refine(Z8a (k:=k1) B4 x4 (Zs _) hk1 (by omega)).mono ?_;rintro _ w5⟨rfl,L5,s5,_,B5⟩;have D5:=D4.stp s5 (by decide)
  have hrd:RdB w5 (U ⟨D,0,J0⟩) (sumOf (bytesOf n)):=RdB.of_blk D5.blk (fun j hj=>by
   rw[Zs]at hj;simp only[JA,hashA];exact ZE hj)
  obtain⟨o6,k6,w6,hr6,F6⟩:=Z1D (k2:=32) (ty:=Zu) (Mod.refl w5) hrd (by rw[Zs];omega);rw[Zs]at hr6;refine⟨rfl,_,w6,hr6,_,_,_,rfl,?_⟩;have hst:=Z4Q (k:=k6) (ZN F6) (by rw[Zs];omega);rw[Zs]at hst;refine hst.mono ?_;rintro _ w7⟨o7,k7,rfl,F7⟩;have F57:=ZT.from_ F7 F6.mod;have B7:=B5.mod' F57.mod 5;have s7:Stp NoS w5 L5 w7 (ext L5 w5.heap.size 5):=Stp.of_nob F57.mod 5
  have e2:Z1v (kidsN n out) J3 (bytesOf n)=if met (kidsN n out) (sumOf (bytesOf n))then kidsN n out else kidsN n out++[(sumOf (bytesOf n),bytesOf n)]:=by
   unfold Z1v;rw[decide_eq_false (by omega:¬(bytesOf n).length<32)];simp
  rw[e2]at hR';refine⟨_,_,_,rfl,hR' _ _ ⟨o7,k7,rfl,_,?_,B7,Z2q F57 (Mod.refl _)⟩⟩;exact((s1.trans (s4.mono (fun _ h=>h.elim))).trans (s5.mono (fun k h=>h.elim JE (fun h=>J2 (JE h))))).trans (s7.mono (fun _ h=>h.elim))
theorem BS.path{w:JJ}{L:Nat->Nat}{d0:Nat}{es out:List (By×By)}(h:BS w L d0 es out){j:Nat}(hj:j<es.length){i:Nat}(hi:i<=es[j].1.length) :
  ∃op cp b f o k,J4 w ⟨d0,1,J0⟩=U (.slice op es.length cp)/\op=U ⟨b,f,J0⟩/\w.cell? ⟨b,f+j,J0⟩=U (.slice o es[j].1.length k)/\es[j].1.length<=k/\CBy w L 5 o es[j].1/\CBy w L 5 (subO o k i 1) (es[j].1.drop i):=by
 obtain⟨ol,cl,op,cp,on,nn,kn,c1,c2,c3,c4⟩:=h.ex;obtain⟨b,f,o,k,e1,e2,e3,e4,e5,e6⟩:=c3 j hj;have:=e6.sub (lo:=i) (n:=es[j].1.length-i) e5;rw[JH (by rw[H];omega)]at this;exact⟨op,cp,b,f,o,k,c1.blk.rd1 rfl,e1,e4,e5,e6,this⟩
theorem BS.val{w:JJ}{L:Nat->Nat}{d0:Nat}{es out:List (By×By)}(h:BS w L d0 es out){j:Nat}(hj:j<es.length) :
  ∃ol cl b f ov kv,J4 w ⟨d0,0,J0⟩=U (.slice ol es.length cl)/\ol=U ⟨b,f,J0⟩/\w.cell? ⟨b,f+(j*2+1),J0⟩=U (.slice ov es[j].2.length kv)/\CBy w L 6 ov es[j].2:=by
 obtain⟨ol,cl,op,cp,on,nn,kn,c1,c2,c3,c4⟩:=h.ex;obtain⟨b,f,ov,kv,e1,e2,e3,e4,e5⟩:=c2 j hj;exact⟨ol,cl,b,f,ov,kv,c1.blk.rd1 rfl,e1,e4,e5⟩
theorem Z8S(p v:By):ZDR (.leaf p v):=by
 intro w L d0 a b i es out hB hE hok hR hl;refine ZG fun R hR'=>ZM.vc _ _ _ _ _ _ ?_;unfold ZM.Vc;have hseg:=hR.leaf
 have hb:b=a+1:=by
  have:=congrArg JP hseg;rw[Z6D hok.le]at this;have:=hok.lt;simp at *;omega
 subst hb;have ha:a<es.length:=by have:=hok.le;omega
 have hla:=hE.len;have e0:=Z5h hok;rw[hseg]at e0;simp only[List.head?_cons,Option.some.injEq,Prod.mk.injEq]at e0;obtain⟨rfl,rfl⟩:=e0;have hi:=hok.len a ha (JF _) (by omega);have hpl:=hE.paths _ (E ha);have hvl:=hE.vals _ (E ha);have hd:(es[a].1.drop i).length=es[a].1.length-i:=H;have hpk:=Z5Y (es[a].1.drop i) Jn (by omega);refine⟨fun _=>?_,fun h=>absurd (by rw[Z0 (by omega) (by omega)];omega) h⟩;obtain⟨op,cp,pb,pf,o,k,h1,rfl,h2,h3,h4,h5⟩:=hB.path ha hi;simp only[Z6,JA,X];refine⟨_,_,_,h1,_,rfl,⟨by omega,by omega⟩,_,_,_,by rw[Z6];exact h2,⟨by omega,by omega⟩,?_⟩;have hp:=Z7a (k:=k-i) h5.rd (by omega) Jn;rw[hd]at hp;refine hp.mono ?_;rintro _ w1⟨o1,k1,rfl,F1⟩;refine⟨_,_,_,_,rfl,?_⟩;rintro _ rfl;have MD:=Mod.drew (S:=NoB) w1;have B2:=hB.mod' (F1.mod.trans MD (fun _ _ h=>h)) 5;obtain⟨ol,cl,vb,vf,ov,kv,g1,rfl,g2,g3⟩:=B2.val ha;refine⟨_,_,_,g1,_,rfl,⟨by omega,by omega⟩,_,_,_,by rw[Z6,Z6,JI];exact g2,?_⟩;refine(Z4Q (b:=Z2U (es[a].1.drop i) Jn) ((ZN F1).mod' MD) (by omega)).mono ?_;rintro _ w3⟨o3,k3,rfl,F3⟩;have B3:=B2.mod' F3.mod 5;obtain⟨ol,cl,vb',vf',ov',kv',g1',hol,g2',g3'⟩:=B3.val ha;rw[ZU F3.mod (b:=d0) (by obtain⟨_,_,_,_,_,_,_,c1,_⟩:=B2.ex;exact c1.blk.lt) (fun h=>h),g1]at g1';cases g1';cases hol;have hvb:vb<w1.drew.heap.size:=by obtain⟨ol,cl,op,cp,on,nn,kn,c1,c2,_⟩:=B2.ex;obtain⟨b',f',ov'',kv'',q1,q2,_⟩:=c2 a ha;have:=c1.blk.rd1 (i:=0) rfl;rw[g1]at this;cases this;cases q1;exact q2
 rw[ZU F3.mod hvb (fun h=>h),g2]at g2';cases g2';refine⟨_,_,_,rfl,by rw[Z6,Z6,JI];exact(ZU F3.mod hvb (fun h=>h)).trans g2,(ZU F3.mod (by obtain⟨_,_,_,_,_,_,_,c1,_⟩:=B2.ex;exact c1.blk.lt) (fun h=>h)).trans g1,?_⟩;refine(Z4Q (k:=kv) g3'.rd (by omega)).mono ?_;rintro _ w4⟨o4,k4,rfl,F4⟩;have q1:=Z2H (Z2U (es[a].1.drop i) Jn);have q2:=Z2H es[a].2;obtain⟨o5,k5,w5,hr5,F5⟩:=ZW (ty:=Zu) (k2:=k4) (F3.mod' F4.mod) (ZN F4) (by omega);refine⟨_,_,_,rfl,_,w5,hr5,_,_,_,rfl,?_⟩;have hL:=Z3n (k:=k5) (ZN F5) (by rw[W];omega);rw[W]at hL;refine hL.mono ?_;rintro _ w6⟨o6,k6,rfl,F6⟩
 have e6:Trie.Z2r ((enc (.s (Z2U (es[a].1.drop i) Jn))).length+(enc (.s es[a].2)).length) 192++(enc (.s (Z2U (es[a].1.drop i) Jn))++enc (.s es[a].2))=bytesOf (.leaf (es[a].1.drop i) es[a].2):=by
  simp only[bytesOf,Z1y];rw[enc2]
 rw[e6]at F6 ⊢;have M06:=((F1.mod.trans MD (fun _ _ h=>h)).trans F5.mod (fun _ _ h=>h)).trans F6.mod (fun _ _ h=>h);have F06:=ZT.from_ F6 ((F1.mod.trans MD (fun _ _ h=>h)).trans F5.mod (fun _ _ h=>h));exact⟨_,_,_,rfl,hR' _ _ ⟨o6,k6,rfl,_,(Stp.of_nob M06 5).mono (S:=NoS) (fun _ h=>h.elim),hB.mod' M06 5,Z2q F06 (Mod.refl _),F06.own.cap.1⟩⟩
theorem ZE4{c:Nd}(hRef:ZH2 c){p:By}(hc:Z1c (.row p c)):ZDR (.row p c):=by
 intro w L d0 a b i es out hB hE hok hR hl;refine ZG fun R hR'=>ZM.vc _ _ _ _ _ _ ?_;unfold ZM.Vc;have hab:=hok.lt;have hbl:=hok.le;have hla:=hE.len;have ha:a<es.length:=by omega
 have hi:=hok.len a ha (JF _) hab;have hpl:=hE.paths _ (E ha);obtain⟨k1,v1,k2,v2,g1,g2,hne⟩:=ZGn hc;have h2:=hR.two g1 g2 hne;rw[Z6D hbl]at h2;have hsh:=hR.shared_row hc (Z5h hok) (ZCc hok);obtain⟨hpre,hRc⟩:=hR.row;have hpre1:=hpre _ (List.mem_of_mem_head? (Z5h hok));have hp1:1<=p.length:=List.length_pos_iff.2 hc.1;have hd:(es[a].1.drop i).length=es[a].1.length-i:=H;have hple:=hpre1.length_le;simp only at hsh hple;rw[<-ZEg]at hRc;have htake:(es[a].1.drop i).take p.length=p:=(List.prefix_iff_eq_take.1 hpre1).symm
 have hok':Z7y es a b (i+p.length):=by
  refine⟨hab,hbl,fun j hj h1 h2=>?_⟩;have:=(hpre _ (ZBN (i:=i) hbl h1 h2)).length_le;simp only[H]at this;have:=hok.len j hj h1 h2;omega
 have hpk:=Z5Y p J3 (by omega);refine⟨fun h=>absurd h (by rw[Z0 (by omega) (by omega)];omega),fun _=>⟨fun n w'=>n=(p.length:Int)/\Vcg.Mod NoB w w',ZG7 hB hok hE.paths hE.len (by omega) (fun w' M=>⟨by rw[hsh],M⟩),?_⟩⟩;rintro _ _ w1⟨rfl,M1⟩;refine⟨fun _=>?_,fun h=>absurd h (by omega)⟩;have B1:=hB.mod' M1 5;obtain⟨op,cp,pb,pf,o,k,h1,rfl,h2,h3,h4,h5⟩:=B1.path ha hi;have ew:G J8 ((i:Int)+(p.length:Int))=((i+p.length:Nat):Int):=by rw[Z0 (by omega) (by omega)];omega
 simp only[ew,Z6,JA,X];refine⟨_,_,_,h1,_,rfl,⟨by omega,by omega⟩,_,_,_,by rw[Z6];exact h2,⟨by omega,by omega⟩,⟨by omega,by omega⟩,?_⟩;have hpr:=h5.rd.take p.length;rw[htake]at hpr;have hP:=Z7a (k:=k-i) hpr (by omega) J3;rw[show i+p.length-i=p.length by omega];refine hP.mono ?_;rintro _ w2⟨o2,k2,rfl,F2⟩;refine⟨_,_,_,_,rfl,?_⟩;refine(Z4Q (b:=Z2U p J3) (ZN F2) (by omega)).mono ?_;rintro _ w3⟨o3,k3,rfl,F3⟩;have M03:=(M1.trans F2.mod (fun _ _ h=>h)).trans F3.mod (fun _ _ h=>h);have F03:=ZT.from_ F3 (M1.trans F2.mod (fun _ _ h=>h));have B3:=hB.mod' M03 (8+i);obtain⟨O3,s3⟩:=F03.done (lab:=L) (8+i);generalize ext L w.heap.size (8+i)=L3 at *
 refine⟨_,_,_,rfl,?_⟩;have hcnt:cnt (.row p c)=1+cnt c:=rfl;refine(hRef B3 hE hok' hRc (by omega)).mono ?_;rintro _ w4⟨o4,k4,rfl,L4,s4,B4,x4⟩;have O4:=O3.stp s4 (by rintro(h|h|h)<;>omega);have q1:=Z2H (Z2U p J3);have q2:=ZCX c;obtain⟨o5,k5,w5,hr5,O5,s5⟩:=Z6r (ty:=Zu) (k2:=k4) O4 x4.rd (by omega);have B5:=B4.stp s5 (by omega) (by omega) (by omega) (by omega) (by omega);generalize ext L4 w4.heap.size (8+i)=L5 at *
 refine⟨_,_,_,rfl,_,w5,hr5,_,_,_,rfl,?_⟩;have hL:=Z3n (k:=k5) O5.own.bytes (by rw[W];omega);rw[W]at hL;refine hL.mono ?_;rintro _ w6⟨o6,k6,rfl,F6⟩
 have e6:Trie.Z2r ((enc (.s (Z2U p J3))).length+(enc (Z5B c)).length) 192++(enc (.s (Z2U p J3))++enc (Z5B c))=bytesOf (.row p c):=by
  simp only[bytesOf,Z1y];rw[enc2];rfl
 rw[e6]at F6 ⊢;refine⟨_,_,_,rfl,hR' _ _ ⟨o6,k6,rfl,_,?_,B5.mod' F6.mod 5,Z2q F6 (Mod.refl _),F6.own.cap.1⟩⟩;have s6:Stp NoS w5 L5 w6 (ext L5 w5.heap.size 5):=Stp.of_nob F6.mod 5;exact(((s3.mono (fun _ h=>h.elim)).trans (s4.mono (fun k h=>by rcases h with h|h|h;exact JE h;exact J2 (JE h);exact J2 (J2 (by omega))))).trans (s5.mono (fun k h=>J2 (J2 (by omega))))).trans (s6.mono (fun _ h=>h.elim))
end Go.Proofs.YtfghidehlnfdiaaGreat
end
section
namespace Go.Trie
theorem ZFi{f:Fin 16->Nat}{j:Nat}(hj:j<16):(((O 16).take j).map f).sum+f ⟨j,hj⟩<=((O 16).map f).sum:=by
 have e:=congrArg List.sum (congrArg (List.map f) (List.take_append_drop j (O 16)));rw[JQ,List.sum_append]at e
 have e2:(O 16).drop j=⟨j,hj⟩::(O 16).drop (j+1):=by
  rw[JL (by simpa using hj)];simp
 rw[e2,Jb,List.sum_cons]at e;omega
theorem ZC4{j:Nat}(hj:j<16):(O 16).take (j+1)=(O 16).take j++[⟨j,hj⟩]:=by
 rw[JB,Y (by simpa using hj)];simp
theorem ZBH{a b:Nat}{p:By}(h:Z7N a p)(hab:a<=b):Z7N b p:=by
 cases p with
 |nil=>trivial
 |cons c r=>exact Jd h hab
end Go.Trie
end
section
namespace Go.Proofs.YtfghidehlnfdiaaGreat
open Go Go.Vcg Go.Trie
theorem enc_l(xs:List It):enc (.l xs)=Trie.Z2r (Z1d xs).length 192++Z1d xs:=by simp only[enc]
theorem ZAD{cs:Fin 16->Nd}{v:By}(hRef:∀i,ZH2 (cs i))(hc:Z1c (.branch cs v)):ZDR (.branch cs v):=by
 intro w0 L0 d0 a b i es out hB0 hE hok hR hl;refine ZG fun R hR'=>ZM.vc _ _ _ _ _ _ ?_;unfold ZM.Vc;have hab:=hok.lt;have hbl:=hok.le;have hla:=hE.len;have ha:a<es.length:=by omega
 have hi:=hok.len a ha (JF _) hab;have hpl:=hE.paths _ (E ha);obtain⟨k1,v1,k2,v2,g1,g2,hne⟩:=Z9Q hc trivial;have h2:=hR.two g1 g2 hne.1;rw[Z6D hbl]at h2;have hsh:=hR.parts hc trivial (Z5h hok) (ZCc hok);simp only at hsh;refine⟨fun h=>absurd h (by rw[Z0 (by omega) (by omega)];omega),fun _=>⟨fun n w'=>n=0/\Vcg.Mod NoB w0 w',ZG7 hB0 hok hE.paths hE.len (by omega) (fun w' M=>⟨by rw[hsh];rfl,M⟩),?_⟩⟩;rintro _ _ w⟨rfl,M0⟩;refine⟨fun h=>absurd h (by omega),fun _=>?_⟩;have hB:=hB0.mod' M0 5;have sM:Stp NoS w0 L0 w (ext L0 w0.heap.size 5):=Stp.of_nob M0 5;generalize ext L0 w0.heap.size 5=L at *
 obtain⟨hv1,hv2,hv3⟩:=hR.value (ZCb hok);simp only at hv1 hv2;obtain⟨op,cp,pb,pf,o,k,h1,rfl,h2',h3,h4,h5⟩:=hB.path ha hi;obtain⟨ol,cl,vb,vf,ov,kv,f1,rfl,f2,f3⟩:=hB.val ha;simp only[Z6,JA,X];refine⟨fun n o' l' k' w'=>w'=w/\∃m:Nat,n=(m:Int)/\a<=m/\m<=a+1/\l'=v.length/\CBy w L 6 o' v/\(∀y∈seg es a m i,Z7N 0 y.1)/\(∀y∈seg es m b i,Z8Q 0 y.1),?_,?_⟩
 ·refine⟨_,_,_,h1,_,rfl,⟨by omega,by omega⟩,_,_,_,by rw[Z6];exact h2',fun he=>?_,fun he=>?_⟩
  ·have hd0:es[a].1.drop i=[]:=List.drop_eq_nil_of_le (by omega)
   have hvv:=hv1 hd0;refine⟨_,_,_,f1,_,rfl,⟨by omega,by omega⟩,_,_,_,by rw[Z6,Z6,JI];exact f2,rfl,a+1,by rw[Z0 (by omega) (by omega)];omega,by omega,JF _,by rw[hvv],by rw[hvv];exact f3,?_,?_⟩
   ·intro y hy
    obtain⟨j,hj,q1,q2,rfl⟩:=ZBZ (by omega) hy;obtain rfl:j=a:=by omega
    rw[hd0];trivial
   ·intro y hy
    have:=hv3 y hy;cases hy1:y.1 with
    |nil=>exact(this hy1).elim
    |cons c r=>exact JK _
  ·have hdne:es[a].1.drop i≠[]:=fun e=>by
     have:=congrArg JP e;rw[H]at this;simp at this;omega
   have hvv:=hv2 hdne;refine⟨rfl,a,rfl,JF _,by omega,by rw[hvv];rfl,by rw[hvv];exact CBy.nil _ _ _ _,?_,?_⟩
   ·rw[Z9L];intro y hy;cases hy
   ·intro y hy
    rw[ZCb hok]at hy;rcases List.mem_cons.1 hy with rfl|hy
    ·cases hdd:es[a].1.drop i with
     |nil=>exact(hdne hdd).elim
     |cons c r=>exact JK _
    ·have:=hv3 y hy
     cases hy1:y.1 with
     |nil=>exact(this hy1).elim
     |cons c r=>exact JK _
 ·rintro _ o133 _ c133 _ w⟨rfl,m0,rfl,hm1,hm2,rfl,hval,hlt0,hge0⟩
  let pay:Nat->By:=fun x=>Z1d (((O 16).take x).map fun i=>Z31 (Z1y (cs i)))
  let outs:Nat->List (By×By):=fun x=>((O 16).take x).foldl (fun o i=>Z1K (cs i) J3 o) out
  have hpay:∀x,(pay x).length<=41*16:=fun x=>by
   have h1:=Z51 cs ((O 16).take x);have h2:((O 16).take x).length<=16:=by rw[JW,List.length_finRange];omega
   simp only[pay];omega
  refine⟨fun o l k n m w'=>∃x at_:Nat,m=(x:Int)/\x<=16/\n=(at_:Int)/\a<=at_/\at_<=b/\(∀y∈seg es a at_ i,Z7N x y.1)/\(∀y∈seg es at_ b i,Z8Q x y.1)/\l=(pay x).length/\∃L',Stp (SI i) w L w' L'/\BS w' L' d0 es (outs x)/\COw w' L' (8+i) tU8 1 o l k ((pay x).map bV),
   fun _ _ _ _ m _=>((16:Int)-m).toNat,⟨0,m0,rfl,JK _,rfl,hm1,by omega,hlt0,hge0,rfl,L,Stp.refl _ _ _,hB,COw.nil _ _ _ _ _⟩,?_⟩
  rintro o136 _ c136 _ _ _ w1⟨x,m,rfl,hx,rfl,hma,hmb,hlt,hge,rfl,L1,s1,B1,O1⟩;refine⟨fun hx16=>?_,fun hx16=>?_⟩
  ·have hx':x<16:=by omega
   have hxb:(JT x).toNat=x:=by rw[UInt8.toNat_ofNat'];omega
   refine⟨fun n w'=>w'=w1/\∃e:Nat,n=(e:Int)/\m<=e/\e<=b/\(∀y∈seg es m e i,∃r,y.1=JT x::r)/\(∀y,(seg es e b i).head?=U y->∀c r,y.1=c::r->c.toNat≠x),?_,?_⟩
   ·refine⟨fun n w'=>w'=w1/\∃e:Nat,n=(e:Int)/\m<=e/\e<=b/\(∀y∈seg es m e i,∃r,y.1=JT x::r),fun n _=>((b:Int)-n).toNat,⟨rfl,m,rfl,JF _,hmb,by rw[Z9L];intro y hy;cases hy⟩,?_⟩
    rintro _ _ w1⟨rfl,e,rfl,he1,he2,hrun⟩;refine⟨fun heb=>?_,fun heb=>⟨rfl,e,rfl,he1,he2,hrun,by rw[show e=b by omega,Z9L];intro y hy;cases hy⟩⟩;have heb':e<b:=by omega
    have hel:e<es.length:=by omega
    have hei:=hok.len e hel (by omega) heb';have hepl:=hE.paths _ (E hel);have hgee:=hge _ (ZBN (i:=i) hbl he1 heb');have hok_e:Z7y es e b i:=⟨heb',hbl,fun j hj q1 q2=>hok.len j hj (by omega) q2⟩;obtain⟨op,cp,pb,pf,o,k,h1,rfl,h2',h3,h4,h5⟩:=B1.path hel hei;cases hdd:es[e].1.drop i with
    |nil=>simp only[hdd]at hgee;exact hgee.elim
    |cons c r =>
     have hile:i<es[e].1.length:=by
      have:=congrArg JP hdd;rw[H]at this;simp at this;omega
     have hci:es[e].1[i]=c:=by
      have:=JL hile;rw[hdd]at this;exact(List.cons.inj this).1.symm
     obtain⟨qb,qf,rfl,hqb,hqc⟩:=Z1g h4.rd hile;rw[hci]at hqc;have hc256:c.toNat<256:=c.toNat_lt;refine⟨_,_,_,h1,_,rfl,⟨by omega,by omega⟩,_,_,_,by rw[Z6,X];exact h2',_,rfl,⟨by omega,by omega⟩,_,by rw[Z6];exact hqc,fun hq=>?_,fun hq=>?_⟩
     ·rw[Z0 (by omega) (by omega)]at hq
      have hcx:c=JT x:=by apply UInt8.toNat_inj.1;rw[hxb];omega
      refine⟨⟨rfl,e+1,by rw[Z0 (by omega) (by omega)];omega,by omega,by omega,?_⟩,by dsimp only;rw[Z0 (by omega) (by omega)];omega⟩;intro y hy;rw[Z3V he1 (Jm e)]at hy;rcases List.mem_append.1 hy with hy|hy
      ·exact hrun y hy
      ·obtain⟨j,hj,q1,q2,rfl⟩:=ZBZ (by omega) hy
       obtain rfl:j=e:=by omega
       exact⟨r,by rw[hdd,hcx]⟩
     ·rw[Z0 (by omega) (by omega)]at hq
      refine⟨rfl,e,rfl,he1,he2,hrun,?_⟩;rw[Z5h hok_e];rintro y hy c' r' hy1;cases hy;simp only[hdd]at hy1;cases hy1;omega
   ·rintro _ _ w1⟨rfl,e,rfl,he1,he2,hrun,hstop⟩
    have hspl:seg es a b i=seg es a m i++(seg es m e i++seg es e b i):=by rw[<-Z3V he1 he2,<-Z3V hma hmb]
    have hpw:(seg es m b i).Pairwise (fun x y=>ltB x.1 y.1):=by
     have:=hR.1;rw[Z3V hma hmb]at this;exact(List.pairwise_append.1 this).2.1
    have hge':=ZGc hpw (Z3V he1 he2) hge hstop;have hkid:=hR.kid ⟨x,hx'⟩ hspl hlt hrun hge';rw[<-ZEg]at hkid
    have hlt':∀y∈seg es a e i,Z7N (x+1) y.1:=by
     intro y hy;rw[Z3V hma he1]at hy;rcases List.mem_append.1 hy with hy|hy
     ·exact ZBH (hlt y hy) (Jm x)
     ·obtain⟨r,hr⟩:=hrun y hy
      rw[hr];show(JT x).toNat<x+1;omega
    have epay:pay (x+1)=pay x++enc (Z5B (cs ⟨x,hx'⟩)):=by
     simp only[pay];rw[ZC4 hx',JQ,encs_append];simp only[Jb,List.map_nil,Z1d,Jg];rfl
    have eout:outs (x+1)=Z1K (cs ⟨x,hx'⟩) J3 (outs x):=by
     simp only[outs];rw[ZC4 hx',List.foldl_append];rfl
    have ewx:G J8 ((x:Int)+1)=((x+1:Nat):Int):=by rw[Z0 (by omega) (by omega)];omega
    rw[ewx];have hpx:=hpay x;refine⟨fun hem=>?_,fun hem=>?_⟩
    ·obtain rfl:e=m:=by omega
     rw[Z9L]at hkid;have hnil:=hkid.nil_inv (hc.1 _);rintro d w2⟨rfl,rfl⟩;have M2:=Mod.alloc (S:=NoB) w1 (J7 #[J6 JY 128] 5);have r2:=ZEM w1;have B2:=B1.mod' M2 5;have s2:Stp NoS w1 L1 _ (ext L1 w1.heap.size 5):=Stp.of_nob M2 5;have O2:=O1.stp s2 (fun h=>h);generalize w1.alloc (J7 #[J6 JY 128] 5)=w2 at *
     generalize ext L1 w1.heap.size 5=L2 at *
     obtain⟨o5,k5,w5,hr5,O5,s5⟩:=Z6r (ty:=Zu) (k2:=1) O2 r2 (by simp;omega);have B5:=B2.stp s5 (by omega) (by omega) (by omega) (by omega) (by omega)
     have e128:enc (Z5B .nil)=[128]:=by
      unfold Z5B Z31;rw[if_neg (by simp[Z1y,enc,own,Trie.Z2r])];exact Z9n
     rw[hnil,e128]at epay;rw[hnil]at eout;simp only[Z1K]at eout;refine⟨_,w5,hr5,_,_,_,rfl,⟨x+1,e,rfl,by omega,rfl,hma,hmb,hlt',hge',by rw[epay,W],_,(s1.trans (s2.mono (fun _ h=>h.elim))).trans (s5.mono (fun k h=>J2 (J2 (by omega)))),by rw[eout];exact B5,?_⟩,by dsimp only;omega⟩;rw[epay];exact O5
    ·have hme:m<e:=by omega
     have hok_k:Z7y es m e (i+1):=by
      refine⟨hme,by omega,fun j hj q1 q2=>?_⟩;obtain⟨r,hr⟩:=hrun _ (ZBN (i:=i) (by omega:e<=es.length) q1 q2);have:=congrArg JP hr;simp only[H,Z]at this;omega
     have ewi:G J8 ((i:Int)+1)=((i+1:Nat):Int):=by rw[Z0 (by omega) (by omega)];omega
     rw[ewi];have hsum:=ZFi (f:=fun i=>cnt (cs i)) hx';have hlen:=Z5O (cs:=cs) (fun i out=>Z2l (cs i) J3 out) ((O 16).take x) out;have hcnt:cnt (.branch cs v)=1+((O 16).map fun i=>cnt (cs i)).sum:=rfl;refine(hRef ⟨x,hx'⟩ B1 hE hok_k hkid (by show(outs x).length+_<=_;simp only[outs];omega)).mono ?_;rintro _ w4⟨o4,k4,rfl,L4,s4,B4,x4⟩;have O4:=O1.stp s4 (by rintro(h|h|h)<;>omega);have q2:=ZCX (cs ⟨x,hx'⟩);obtain⟨o5,k5,w5,hr5,O5,s5⟩:=Z6r (ty:=Zu) (k2:=k4) O4 x4.rd (by omega);have B5:=B4.stp s5 (by omega) (by omega) (by omega) (by omega) (by omega);refine⟨_,_,_,rfl,_,w5,hr5,_,_,_,rfl,⟨x+1,e,rfl,by omega,rfl,by omega,he2,hlt',hge',by rw[epay,W],_,(s1.trans (s4.mono (fun k h=>by rcases h with h|h|h;exact JE h;exact J2 (JE h);exact J2 (J2 (by omega))))).trans (s5.mono (fun k h=>J2 (J2 (by omega)))),by rw[eout];exact B5,?_⟩,by dsimp only;omega⟩;rw[epay];exact O5
  ·obtain rfl:x=16:=by omega
   have hval1:=hval.stp s1 ZFB.2.1
   have hvl:v.length<=1024:=by
    by_cases hv0:v=[]
    ·rw[hv0];simp
    ·have:=(hR.2 [] v).1 (by rw[ZY,if_neg hv0])
     obtain⟨j,hj,_,_,he⟩:=ZBZ hbl this;have:=hE.vals _ (E hj);rw[<-(JU he).2]at this;exact this
   refine(Z4Q (k:=c133) hval1.rd (by omega)).mono ?_;rintro _ w2⟨o2,k2,rfl,F2⟩;have B2:=B1.mod' F2.mod 5;have s2:Stp NoS w1 L1 w2 (ext L1 w1.heap.size 5):=Stp.of_nob F2.mod 5;have O2:=O1.stp s2 (fun h=>h);generalize ext L1 w1.heap.size 5=L2 at *
   have q1:=Z2H v;have hp16:=hpay 16;obtain⟨o5,k5,w5,hr5,O5,s5⟩:=Z6r (ty:=Zu) (k2:=k2) O2 (ZN F2) (by omega);have B5:=B2.stp s5 (by omega) (by omega) (by omega) (by omega) (by omega);generalize ext L2 w2.heap.size (8+i)=L5 at *
   refine⟨_,_,_,rfl,_,w5,hr5,_,_,_,rfl,?_⟩;have hL:=Z3n (k:=k5) O5.own.bytes (by rw[W];omega);rw[W]at hL;refine hL.mono ?_;rintro _ w6⟨o6,k6,rfl,F6⟩
   have e6:Trie.Z2r ((pay 16).length+(enc (.s v)).length) 192++(pay 16++enc (.s v))=bytesOf (.branch cs v):=by
    simp only[bytesOf,Z1y,pay];rw[JH (by simp),enc_l,encs_append];simp only[Z1d,Jg,W]
   rw[e6]at F6 ⊢;have eo:outs 16=kidsN (.branch cs v) out:=by simp only[outs,kidsN];rw[JH (by simp)]
   rw[eo]at B5;refine⟨_,_,_,rfl,hR' _ _ ⟨o6,k6,rfl,_,?_,B5.mod' F6.mod 5,Z2q F6 (Mod.refl _),F6.own.cap.1⟩⟩;have s6:Stp NoS w5 L5 w6 (ext L5 w5.heap.size 5):=Stp.of_nob F6.mod 5;exact((((sM.mono (fun _ h=>h.elim)).trans s1).trans (s2.mono (fun _ h=>h.elim))).trans (s5.mono (fun k h=>J2 (J2 (by omega))))).trans (s6.mono (fun _ h=>h.elim))
theorem ZBJ:∀(n:Nd),Z1c n->Z5u n->n≠.nil->ZDR n/\ZH2 n
 | .nil,_,_,h=>(h rfl).elim
 | .leaf p v,hc,hs,hn=>⟨Z8S p v,ZEZ (Z8S p v) hn hs⟩
 | .row p c,hc,hs,hn=>by
   have hcn:c≠.nil:=by rintro rfl;exact hc.2.2.1
   have hI:=ZE4 (ZBJ c hc.2.2.2 hs.2 hcn).2 hc;exact⟨hI,ZEZ hI hn hs⟩
 | .branch cs v,hc,hs,hn=>by
   have hk:∀i,ZH2 (cs i):=fun i=>by
    by_cases hcn:cs i=.nil
    ·rw[hcn]
     intro w L d0 a b j es out hB hE hok hR hl
     have:=congrArg JP (show seg es a b j=[]from by
      cases hs:seg es a b j with
      |nil=>rfl
      |cons y r=>exact absurd rfl (hR.ne (by rw[hs];simp)))
     rw[Z6D hok.le]at this;have:=hok.lt;simp at *;omega
    ·exact(ZBJ (cs i) (hc.1 i) (hs.2 i) hcn).2
   have hI:=ZAD hk hc;exact⟨hI,ZEZ hI hn hs⟩
theorem Z6x:Tryz.prog.underlying 31=U (.slice Zu):=by kernel_rfl
theorem ZAC:(Tryz.prog.info? Zu).map (fun i=>(i.zero,i.size,i.bytes))=U (U (.slice J0 0 0),1,24):=by kernel_rfl
section
variable{C C':Type}{S:C->Prop}{w w':JJ}{lab:Nat->C}{lab':Nat->C'}{lab2:Nat->C}{c:C}{c':C'}
def Z5G(w:JJ)(lab:Nat->C)(c:C)(o:Option Addr)(m:List (By×By)):Prop :=
 ∀(j:Nat)(hj:j<m.length),∃b f ok kk ov kv,o=U ⟨b,f,J0⟩/\b<w.heap.size/\lab b=c/\w.cell? ⟨b,f+j*2,J0⟩=U (.slice ok m[j].1.length kk)/\CBy w lab c ok m[j].1/\w.cell? ⟨b,f+(j*2+1),J0⟩=U (.slice ov m[j].2.length kv)/\CBy w lab c ov m[j].2
theorem Z5G.stp{o:Option Addr}{m:List (By×By)}(h:Z5G w lab c o m)(s:Stp S w lab w' lab2)(hs:¬S c):Z5G w' lab2 c o m:=fun j hj=>by
 obtain⟨b,f,ok,kk,ov,kv,e1,e2,e3,e4,e5,e6,e7⟩:=h j hj;exact⟨b,f,ok,kk,ov,kv,e1,Jd e2 s.size,(s.lab b e2).trans e3,(Ja (s.block b e2 (by rw[e3];exact hs))).trans e4,e5.stp s hs,(Ja (s.block b e2 (by rw[e3];exact hs))).trans e6,e7.stp s hs⟩
theorem Z5G.re{o:Option Addr}{m:List (By×By)}(h:Z5G w lab c o m)(hl:∀k,k<w.heap.size->lab k=c->lab' k=c'):Z5G w lab' c' o m:=fun j hj=>by
 obtain⟨b,f,ok,kk,ov,kv,e1,e2,e3,e4,e5,e6,e7⟩:=h j hj;exact⟨b,f,ok,kk,ov,kv,e1,e2,hl b e2 e3,e4,CBy.re e5 hl,e6,CBy.re e7 hl⟩
noncomputable def labB(lab:Nat->C)(c:C)(N d:Nat):Nat->Nat:=fun k=>if k<N then(@ite Nat (lab k=c) (Classical.propDecidable _) 6 0)else if k=d then 1 else if k=N then 2 else 5
theorem ZFL{N d k:Nat}(h:k<N):labB lab c N d k=6\/labB lab c N d k=0:=by
 unfold labB;rw[if_pos h];split
 ·exact JE rfl
 ·exact J2 rfl
theorem ZGW{N d k:Nat}(h:k<N)(hc:lab k=c):labB lab c N d k=6:=by
 unfold labB;rw[if_pos h,if_pos hc]
def Z0L(m:List (By×By)):List (By×By):=m.map fun e=>(nibbles e.1,e.2)
theorem ZGg(es:List (By×By)):seg es 0 es.length 0=es:=by
 unfold seg;rw[List.drop_zero,Nat.sub_zero,JO];have:(fun e:By×By=>(e.1.drop 0,e.2))=id:=by funext e;simp
 rw[this,List.map_id]
structure KvOk (m:List (By×By)):Prop where
 len:m.length<=2^20
 keys:∀e∈m,e.1.length<=64
 vals:∀e∈m,e.2.length<=1024
theorem ZD7{o:Option Addr}{k:Nat}{m:List (By×By)}{n:Nd}(h:Z5G w lab c o m)(hm:KvOk m)(hr:Rep (Z0L m) n)(hc:Z1c n)(hs:Z5u n)(hcn:cnt n<=2^19)(cr:C) :
  JX J1 Z0T.n #[.slice o m.length k,JC J3] w (fun e w'=>∃o' k',e=J (JD #[.agg (hashA (rootOf n)),.slice o' (Z0c n).length k'])/\Vcg.Mod NoB w w'/\Z0m w' (ext lab w.heap.size cr) cr (Z0c n) o' (Z0c n).length):=by
 refine ZG fun R hR=>Z0T.vc _ _ _ _ _ _ ?_;unfold Z0T.Vc;have hml:=hm.len;rintro d2 w1⟨rfl,rfl⟩;have M1:=Mod.alloc (S:=NoB) w (J7 (V 32 (J6 JY 0)) 27);have H1:=Blk.new w 27 (V 32 (J6 JY 0));have z1:=ZC w (J7 (V 32 (J6 JY 0)) 27);generalize w.alloc (J7 (V 32 (J6 JY 0)) 27)=w1 at *
 generalize hN:w.heap.size=N at *
 refine⟨fun h0=>?_,fun h0=>?_⟩
 ·obtain rfl:m=[]:=JG (by omega)
  have hnil:=hr.nil_inv hc;subst hnil;refine(Z6X w1).mono ?_;rintro _ w2⟨rfl,M2⟩;obtain⟨h1,h2,h3⟩:=Z1M (H1.mod' M2) (by simp) emptyH;refine⟨_,rfl,_,h1,_,h2.rowAll (ZA _),hR _ _ ⟨J0,0,?_,ZK (M1.trans M2 (fun _ _ h=>h)) h3 (by omega),Z0m.nil _ _ _ _⟩⟩;rw[Trie.rootOf,Z9n];rfl
 rintro d9 w2⟨rfl,rfl⟩;rw[z1];have M2:=Mod.alloc (S:=NoB) w1 (J7 #[.slice o m.length k,.slice J0 0 0,.slice J0 0 0,JC J3] 118);have D2:=Blk.new w1 118 #[.slice o m.length k,.slice J0 0 0,.slice J0 0 0,JC J3];have z2:=ZC w1 (J7 #[.slice o m.length k,.slice J0 0 0,.slice J0 0 0,JC J3] 118);rw[z1]at D2 z2;have H2:=H1.mod' M2;have M02:=M1.trans M2 (fun _ _ h=>h);generalize w1.alloc (J7 #[.slice o m.length k,.slice J0 0 0,.slice J0 0 0,JC J3] 118)=w2 at *
 have lD:labB lab c N (N+1) (N+1)=1:=by unfold labB;rw[if_neg (by omega),if_pos rfl]
 have lH:labB lab c N (N+1) N=2:=by unfold labB;rw[if_neg (by omega),if_neg (by omega),if_pos rfl]
 have hkv:Z5G w2 (labB lab c N (N+1)) 6 o m:=(Z5G.re h (fun k hk hc=>ZGW (by omega) hc)).stp (Stp.same M02 (labB lab c N (N+1))) (fun h=>h);have D2c:CB w2 (labB lab c N (N+1)) 1 (N+1) ZEr #[.slice o m.length k,.slice J0 0 0,.slice J0 0 0,JC J3]:=⟨D2,lD⟩;have H2c:CB w2 (labB lab c N (N+1)) 2 N tHash (V 32 (J6 JY 0)):=⟨H2,lH⟩;have hold:∀k,k<N->labB lab c N (N+1) k=6\/labB lab c N (N+1) k=0:=fun k hk=>ZFL hk;generalize labB lab c N (N+1)=L2 at *
 let P:Nat->By:=fun j=>nibbles ((m[j]?.getD ([],[])).1)
 refine⟨fun i w'=>∃(j:Nat)(L:Nat->Nat)(op:Option Addr)(cp:Nat)(vs:List Value),i=(j:Int)/\j<=m.length/\Stp (fun k=>k=1\/k=7) w2 L2 w' L /\
   CB w' L 1 (N+1) ZEr #[.slice o m.length k,.slice op j cp,.slice J0 0 0,JC J3]/\COw w' L 7 Zu 1 op j cp vs/\∀i,i<j->∃o k,vs[i]?=U (.slice o (P i).length k)/\(P i).length<=k/\CBy w' L 5 o (P i),
  fun i _=>((m.length:Int)-i).toNat,⟨0,L2,J0,0,[],rfl,JK _,Stp.refl _ _ _,D2c,COw.nil _ _ _ _ _,fun i hi=>absurd hi (by omega)⟩,?_⟩
 rintro _ _ w3⟨j,L3,op,cp,vs,rfl,hj,s3,D3,O3,hvs⟩;have hkv3:=hkv.stp s3 (by decide);refine⟨fun hlt=>?_,fun hge=>?_⟩
 ·have hjl:j<m.length:=by omega
  rintro _ rfl;have sD:Stp NoS w3 L3 w3.drew L3:=Stp.drew _ _ _;have hkv4:=hkv3.stp sD (fun h=>h);have D4:=D3.stp sD (fun h=>h);have O4:=O3.stp sD (fun h=>h);have hvs4:∀i,i<j->∃o k,vs[i]?=U (.slice o (P i).length k)/\(P i).length<=k/\CBy w3.drew L3 5 o (P i):=fun i hi=>by obtain⟨o,k,a,b,c⟩:=hvs i hi;exact⟨o,k,a,b,c.stp sD (fun h=>h)⟩
  have s4:=s3.trans (sD.mono (T:=fun k=>k=1\/k=7) (fun _ h=>h.elim));generalize w3.drew=w4 at *
  obtain⟨b,f,ok,kk,ov,kv,rfl,e2,e3,e4,e5,e6,e7⟩:=hkv4 j hjl;have hkl:=hm.keys _ (E hjl);simp only[Z6,JA,X];refine⟨_,_,_,D4.blk.rd1 rfl,_,rfl,⟨by omega,by omega⟩,_,_,_,by rw[Z6];exact e4,?_⟩;refine(Z2J e5.rd (by omega)).mono ?_;rintro _ w5⟨o5,k5,rfl,F5⟩;refine⟨_,_,_,rfl,(D4.blk.mod' F5.mod).rd1 rfl,?_⟩;rintro d w6⟨rfl,rfl⟩;have M6:=Mod.alloc (S:=NoB) w5 (J7 #[.slice o5 (nibbles m[j].1).length k5] 23);have N6:=Blk.new w5 23 #[.slice o5 (nibbles m[j].1).length k5];have M46:=F5.mod.trans M6 (fun _ _ h=>h);have s6:Stp NoS w4 L3 (w5.alloc (J7 #[.slice o5 (nibbles m[j].1).length k5] 23)) (ext L3 w4.heap.size 5):=Stp.of_nob M46 5;have b6:CBy (w5.alloc (J7 #[.slice o5 (nibbles m[j].1).length k5] 23)) (ext L3 w4.heap.size 5) 5 o5 (nibbles m[j].1):=Z2q F5 M6;generalize w5.alloc (J7 #[.slice o5 (nibbles m[j].1).length k5] 23)=w6 at *
  have D6:=D4.stp s6 (fun h=>h);have O6:=O4.stp s6 (fun h=>h);have hvs6:∀i,i<j->∃o k,vs[i]?=U (.slice o (P i).length k)/\(P i).length<=k/\CBy w6 (ext L3 w4.heap.size 5) 5 o (P i):=fun i hi=>by obtain⟨o,k,a,b,c⟩:=hvs4 i hi;exact⟨o,k,a,b,c.stp s6 (fun h=>h)⟩
  generalize ext L3 w4.heap.size 5=L6 at *
  obtain⟨i,hi,hz,hsz,hb⟩:=Z25 ZAC;obtain⟨o7,k7,w7,hr7,O7,s7⟩:=COw.append (ty:=31) Z6x hi hz hsz rfl O6 (Z5E Z6x N6 rfl (by simp[Value.oneCell'])) (by simp only[maxLen];omega) (by rw[hb];omega);have D7:=D6.stp s7 (by decide);have b7:=b6.stp s7 (by decide);have hvs7:∀i,i<j->∃o k,vs[i]?=U (.slice o (P i).length k)/\(P i).length<=k/\CBy w7 (ext L6 w6.heap.size 7) 5 o (P i):=fun i hi=>by obtain⟨o,k,a,b,c⟩:=hvs6 i hi;exact⟨o,k,a,b,c.stp s7 (by decide)⟩
  generalize ext L6 w6.heap.size 7=L7 at *
  refine⟨D6.blk.rd1 rfl,_,w7,hr7,_,_,_,rfl,D7.blk.canSet (by simp) rfl,?_⟩;rintro _ rfl;have s8:Stp (fun k=>k=1) w7 L7 (w7.setCell ⟨N+1,1,J0⟩ (.slice o7 (j+1) k7)) L7:=Stp.setCell D7.clr;have hPj:P j=nibbles m[j].1:=by simp only[P];rw[Y hjl];rfl
  have hvl:vs.length=j:=O6.own.len;refine⟨⟨j+1,L7,o7,k7,vs++[.slice o5 (nibbles m[j].1).length k5],by rw[Z0 (by omega) (by omega)];omega,hjl,((s4.trans (s6.mono (fun _ h=>h.elim))).trans (s7.mono (fun _ h=>J2 h))).trans (s8.mono (fun _ h=>JE h)),D7.set 1 _,O7.stp s8 (by decide),fun i hi=>?_⟩,by rw[Z0 (by omega) (by omega)];omega⟩;by_cases hij:i<j
  ·obtain⟨o,k,a,b,c⟩:=hvs7 i hij
   exact⟨o,k,by rw[List.getElem?_append_left (by omega)];exact a,b,c.stp s8 (by decide)⟩
  ·obtain rfl:i=j:=by omega
   refine⟨o5,k5,by rw[List.getElem?_append_right (by omega),hvl,Jk,hPj];rfl,by rw[hPj];exact F5.own.cap.1,by rw[hPj];exact b7.stp s8 (by decide)⟩
 ·obtain rfl:j=m.length:=by omega
  have hpl:(Z0L m).length=m.length:=by simp[Z0L]
  have hget:∀(i:Nat)(hi:i<(Z0L m).length),(Z0L m)[i]=(nibbles (m[i]'(by omega)).1,(m[i]'(by omega)).2):=fun i hi=>by simp[Z0L]
  have hBS:BS w3 L3 (N+1) (Z0L m) []:=by
   refine⟨⟨o,k,op,cp,J0,0,0,by rw[hpl];exact D3,fun i hi=>?_,fun i hi=>?_,Z7z.nil _ _ _ _⟩⟩
   ·obtain⟨b,f,ok,kk,ov,kv,e1,e2,e3,e4,e5,e6,e7⟩:=hkv3 i (by omega)
    rw[hget i hi];exact⟨b,f,ov,kv,e1,e2,e3,e6,e7⟩
   ·obtain⟨o',k',a,b,d⟩:=hvs i (by omega)
    obtain⟨g,f,ho,hg,hl,hcell⟩:=O3.row i _ a;rw[hget i hi];have hPi:P i=nibbles (m[i]'(by omega)).1:=by simp only[P];rw[Y (by omega)];rfl
    rw[<-hPi];exact⟨g,f,o',k',ho,hg,hl,hcell,b,d⟩
  have hEs:EsOk (Z0L m):=by
   refine⟨by omega,fun e he=>?_,fun e he=>?_⟩
   ·obtain⟨x,hx,rfl⟩:=List.mem_map.1 he
    have:=hm.keys x hx;show(nibbles x.1).length<=128;rw[ZQ];omega
   ·obtain⟨x,hx,rfl⟩:=List.mem_map.1 he
    exact hm.vals x hx
  have hne:n≠.nil:=hr.ne (by intro e;have:=congrArg JP e;simp at this;rw[this]at hpl;simp at hpl;omega);have hok:Z7y (Z0L m) 0 m.length 0:=⟨by omega,by omega,fun _ _ _ _=>JK _⟩
  have hrep:Rep (seg (Z0L m) 0 m.length 0) n:=by
   have:=ZGg (Z0L m);rw[hpl]at this;rw[this];exact hr
  have hbl:=Z8u hs;have hkl:=kids_len (n:=n) [];simp only[List.length_nil,JA]at hkl;refine((ZBJ n hc hs hne).1 hBS hEs hok hrep (by simp;omega)).mono ?_;rintro _ w4⟨o4,k4,rfl,L4,s4,B4,x4,hk4⟩;refine⟨_,_,_,rfl,?_⟩;refine(Z4I (bytesOf n) rfl (by omega) x4.rd).mono ?_;rintro _ w5⟨rfl,M5⟩;refine⟨_,rfl,?_⟩;rintro d w6⟨rfl,rfl⟩;have N6:=Blk.new w5 27 (V 32 (J6 JY 0));obtain⟨h1,h2,h3⟩:=Z1M N6 (by simp) (sumOf (bytesOf n));have M6:=ZK (M5.step_alloc (J7 (V 32 (J6 JY 0)) 27)) h3 M5.size;refine⟨_,h1,_,h2.rowAll (ZA _),?_⟩;have hge:=M5.size;generalize w5.heap.size=D at *
  generalize((w5.alloc (J7 (V 32 (J6 JY 0)) 27)).setRow D (hashA (sumOf (bytesOf n))))=w6 at *
  have B6:=B4.mod' M6 5;have s6:Stp NoS w4 L4 w6 (ext L4 w4.heap.size 5):=Stp.of_nob M6 5;have x6:=x4.stp s6 (fun h=>h);have D6:CB w6 (ext L4 w4.heap.size 5) 5 D tHash (hashA (sumOf (bytesOf n))):=⟨h2,ext_new hge⟩;generalize ext L4 w4.heap.size 5=L6 at *
  refine(Z8a (k:=k4) B6 x6 (Zs _) hk4 (by omega)).mono ?_;rintro _ w7⟨rfl,L7,s7,_,B7⟩;have D7:=D6.stp s7 (by decide)
  have enodes:(if met (kidsN n []) (sumOf (bytesOf n))then kidsN n []else kidsN n []++[(sumOf (bytesOf n),bytesOf n)])=Z0c n:=by
   unfold Z0c;rw[Z8q hne];unfold Z1v;simp
  rw[enodes]at B7;refine⟨rfl,?_⟩;rintro _ rfl;have sD:Stp NoS w7 L7 w7.drew L7:=Stp.drew _ _ _;have D8:=D7.stp sD (fun h=>h);have B8:=B7.stp sD (fun h=>h) (fun h=>h) (fun h=>h) (fun h=>h) (fun h=>h);generalize w7.drew=w8 at *
  have sAll:Stp (fun k=>k=1\/k=4\/k=7\/8<=k) w2 L2 w8 L7:=by
   refine((((s3.mono ?_).trans (s4.mono ?_)).trans (s6.mono ?_)).trans (s7.mono ?_)).trans (sD.mono ?_)
   ·rintro k(h|h)
    ·exact JE h
    ·exact J2 (J2 (JE h))
   ·rintro k(h|h|h)
    ·exact JE h
    ·exact J2 (JE h)
    ·exact J2 (J2 (J2 (by omega)))
   ·exact fun _ h=>h.elim
   ·rintro k(h|h)
    ·exact JE h
    ·exact J2 (JE h)
   ·exact fun _ h=>h.elim
  obtain⟨ol,cl,op',cp',on,nn,kn,c1,c2,c3,c4⟩:=B8.ex;have H8:=H2c.stp sAll (by decide);obtain⟨g1,g2,g3⟩:=Z1M H8.blk (by simp) (sumOf (bytesOf n));have hNne:N+1≠N:=by omega
  have c9:Blk (w8.setRow N (hashA (sumOf (bytesOf n)))) (N+1) _ _:=c1.blk.row_ne hNne;simp only[Z6,JA];refine⟨_,D8.blk.rowAll (ZA _),_,_,_,c1.blk.rd1 rfl,_,g1,c9.rd1 rfl,_,g2.rowAll (ZA _),?_⟩;have hlt8:∀k,k<N->k<w2.heap.size:=fun k hk=>by omega
  have M28:Vcg.Mod NoB w w8:=M02.trans (sAll.mod (Q:=fun k=>N<=k) (fun k hk hs=>Nat.not_lt.1 fun hlt=>by
   rcases hold k hlt with h|h<;>rw[h]at hs<;>rcases hs with hs|hs|hs|hs<;>omega)) (fun i hi hq=>by omega)
  have s9:Stp (fun k=>k=2) w8 L7 (w8.setRow N (hashA (sumOf (bytesOf n)))) L7:=⟨g3.os,g3.tape,g3.output,g3.size,fun _ _=>rfl,fun k hk hn=>g3.block k hk (fun e=>hn (by subst e;exact H8.clr))⟩;obtain⟨rfl,vs',O8,C8⟩:=c4;have M9:=ZK M28 g3 (by omega);have O9:=O8.stp s9 (by decide);have C9:=C8.stp s9 (by decide);have hz9:(w8.setRow N (hashA (sumOf (bytesOf n)))).heap.size=w8.heap.size:=ZBc _ _ _
  have hre:∀q,q=4\/q=5->∀k,k<(w8.setRow N (hashA (sumOf (bytesOf n)))).heap.size->L7 k=q->ext lab N cr k=cr:=fun q hq k hk he=>by
   by_cases hlt:k<N
   ·rw[sAll.lab k (by omega)]at he
    rcases hold k hlt with h|h<;>rw[h]at he<;>omega
   ·exact ext_new (by omega)
  exact hR _ _ ⟨on,kn,rfl,M9,rfl,vs',COw.row (COw.re O9 (hre 4 (JE rfl))),ZS.re C9 (hre 5 (J2 rfl))⟩
theorem Z0m.re{o:Option Addr}{l:List (By×By)}{n:Nat}(h:Z0m w lab c l o n)(hl:∀k,k<w.heap.size->lab k=c->lab' k=c'):Z0m w lab' c' l o n:=by
 obtain⟨h1,vs,h2,h3⟩:=h;refine⟨h1,vs,fun j v hv=>?_,ZS.re h3 hl⟩;obtain⟨b,f,ho,hb,hc,hcell⟩:=h2 j v hv;exact⟨b,f,ho,hb,hl b hb hc,hcell⟩
theorem ZBu{o:Option Addr}{k:Nat}{m:List (By×By)}{n:Nd}(h:Z5G w lab c o m)(hm:KvOk m)(hr:Rep (Z0L m) n)(hc:Z1c n)(hs:Z5u n)(hcn:cnt n<=2^19)(cr:C) :
  JX J1 Z0t.n #[.slice o m.length k] w (fun e w'=>∃o' k',e=J (JD #[.agg (hashA (rootOf n)),.slice o' (Z0c n).length k'])/\Vcg.Mod NoB w w'/\Z0m w' (ext lab w.heap.size cr) cr (Z0c n) o' (Z0c n).length):=by
 refine Z0t.vc _ _ _ _ _ ?_;unfold Z0t.Vc;rintro d1 w1⟨rfl,rfl⟩;have M1:=Mod.alloc (S:=NoB) w (J7 (V 32 (J6 JY 0)) 27);have H1:=Blk.new w 27 (V 32 (J6 JY 0));have z1:=ZC w (J7 (V 32 (J6 JY 0)) 27);have h0:Z5G w (fun k=>if k<w.heap.size then U (lab k)else J0) (U c) o m:=Z5G.re h (fun k hk hc=>by rw[if_pos hk,hc]);have h1:=h0.stp (S:=fun _=>False) (Stp.same M1 _) (fun h=>h);generalize w.alloc (J7 (V 32 (J6 JY 0)) 27)=w1 at *
 refine(ZD7 h1 hm hr hc hs hcn (U cr)).mono ?_;rintro _ w2⟨o2,k2,rfl,M2,N2⟩;have H2:=H1.mod' M2;obtain⟨g1,g2,g3⟩:=Z1M H2 (by simp) (rootOf n)
 have hlab:ext (fun k=>if k<w.heap.size then U (lab k)else J0) w1.heap.size (U cr) w.heap.size=J0:=by
  rw[Z23 (by omega),if_neg (by omega)]
 have s3:Stp (fun z=>z=J0) w2 (ext (fun k=>if k<w.heap.size then U (lab k)else J0) w1.heap.size (U cr)) (w2.setRow w.heap.size (hashA (rootOf n))) (ext (fun k=>if k<w.heap.size then U (lab k)else J0) w1.heap.size (U cr)) :=
  ⟨g3.os,g3.tape,g3.output,g3.size,fun _ _=>rfl,fun k hk hn=>g3.block k hk (fun e=>hn (by subst e;exact hlab))⟩
 refine⟨_,_,_,_,rfl,_,g1,_,g2.rowAll (ZA _),o2,k2,rfl,ZK (M1.trans M2 (fun _ _ h=>h)) g3 (JF _),Z0m.re (N2.stp s3 (by simp)) (fun k hk he=>?_)⟩;by_cases hlt:k<w.heap.size
 ·rw[Z23 (by omega)]at he
  rw[if_pos hlt]at he;rw[Z23 hlt];exact Option.some.inj he
 ·exact ext_new (by omega)
end
end Go.Proofs.YtfghidehlnfdiaaGreat
end
section
namespace Go.Trie
def ZBS:List (By×By)->By->By->List (By×By)
 |[],k,v=>if v=[]then[]else[(k,v)]
 |x::r,k,v=>if Z1i x.1 k<0 then x::ZBS r k v else(if v=[]then[]else[(k,v)])++(if x.1=k then r else x::r)
end Go.Trie
end
section
namespace Go.Proofs.YtfghidehlnfdiaaGreat
open Go Go.Vcg Go.Trie
abbrev tKv:TypeId:=53
abbrev tSlKv:TypeId:=22
theorem ZCk:Tryz.prog.underlying tSlKv=U (.slice tKv):=by kernel_rfl
section
variable{C C':Type}{S:C->Prop}{w0 w w':JJ}{lab:Nat->C}{lab':Nat->C'}{lab2:Nat->C}{c:C}{c':C'}{xs:List Value}{o:Option Addr}
theorem Z4k.take(h:Z4k w lab c o xs)(n:Nat):Z4k w lab c o (xs.take n):=fun j v hv=>by
 rw[Jc]at hv;split at hv
 ·exact h j v hv
 ·cases hv
theorem Z4k.drop(h:Z4k w lab c o xs){cap n sz:Nat}(hl:xs.length<=cap*sz):Z4k w lab c (subO o cap n sz) (xs.drop (n*sz)):=fun j v hv=>by
 rw[JM]at hv;obtain⟨b,f,ho,hb,hl',hc⟩:=h _ v hv
 have hlt:n*sz+j<xs.length:=by
  rcases Jl (n*sz+j) xs.length with h|h
  ·exact h
  ·rw[JZ h]at hv;cases hv
 have hne:¬cap=n:=by rintro rfl;omega
 refine⟨b,f+n*sz,?_,hb,hl',by rw[JI];exact hc⟩;unfold subO;rw[if_neg hne,ho];simp
theorem Z4k.re(h:Z4k w lab c o xs)(hl:∀k,k<w.heap.size->lab k=c->lab' k=c'):Z4k w lab' c' o xs:=fun j v hv=>by
 obtain⟨b,f,ho,hb,hc,hcell⟩:=h j v hv;exact⟨b,f,ho,hb,hl b hb hc,hcell⟩
noncomputable def ZE6(lab:Nat->C)(c:C)(N:Nat):Nat->Nat:=fun k=>if k<N then(@ite Nat (lab k=c) (Classical.propDecidable _) 0 1)else 0
theorem ZGX{N k:Nat}(hc:lab k=c):ZE6 lab c N k=0:=by
 unfold ZE6;rw[if_pos hc];split<;>rfl
theorem ZFM{N k:Nat}(h:k<N):ZE6 lab c N k≠2/\(ZE6 lab c N k=0->lab k=c):=by
 unfold ZE6;rw[if_pos h];constructor
 ·split<;>decide
 ·split
  ·rename_i h;exact fun _=>h
  ·intro h;cases h
end
end Go.Proofs.YtfghidehlnfdiaaGreat
end
section
namespace Go.Trie
theorem Z6q(a:UInt8):(a>>>4)<<<4|||(a&&&15)=a:=by
 have:∀n:Fin 256,((K n>>>4)<<<4|||(K n&&&15))=K n:=by decide +kernel
 exact this a.toFin
theorem Z0C(a:UInt8)(k:By):nibbles (a::k)=(a>>>4)::(a&&&15)::nibbles k:=rfl
theorem Z7T:∀{a b:By},nibbles a=nibbles b->a=b
 |[],[],_=>rfl
 |[],b::q,h=>by simp[Z0C]at h;simp[nibbles]at h
 |a::p,[],h=>by simp[Z0C]at h;simp[nibbles]at h
 |a::p,b::q,h=>by
  rw[Z0C,Z0C]at h;simp only[List.cons.injEq]at h;rw[Z7T h.2.2,<-Z6q a,<-Z6q b,h.1,h.2.1]
theorem nib_lt{a b:UInt8}(h:a<b):a>>>4<b>>>4\/(a>>>4=b>>>4/\a&&&15<b&&&15):=by
 have e1:∀x:UInt8,(x>>>4).toNat=x.toNat/16:=fun x=>by
  have:∀n:Fin 256,(K n>>>4).toNat=(K n).toNat/16:=by decide +kernel
  exact this x.toFin
 have e2:∀x:UInt8,(x&&&15).toNat=x.toNat%16:=fun x=>by
  have:∀n:Fin 256,(K n&&&15).toNat=(K n).toNat%16:=by decide +kernel
  exact this x.toFin
 have h':a.toNat<b.toNat:=UInt8.lt_iff_toNat_lt.1 h;by_cases hq:a.toNat/16=b.toNat/16
 ·right
  refine⟨UInt8.toNat_inj.1 (by rw[e1,e1,hq]),?_⟩;rw[JN,e2,e2];omega
 ·left
  rw[JN,e1,e1];omega
theorem Z8X:∀{a b:By},ltB a b->ltB (nibbles a) (nibbles b)
 |p,[],h=>(Z3j _ h).elim
 |[],b::q,h=>by rw[Z0C];trivial
 |a::p,b::q,h=>by
  rw[Z0C,Z0C];rcases h with h|⟨rfl,h⟩
  ·rcases nib_lt h with h1|⟨h1,h2⟩
   ·exact JE h1
   ·exact J2 ⟨h1,JE h2⟩
  ·exact J2 ⟨rfl,J2 ⟨rfl,Z8X h⟩⟩
abbrev Z1B(m:List (By×By)):Prop:=m.Pairwise (fun x y=>ltB x.1 y.1)
theorem Z7P:∀(a b:By),ltB a b\/a=b\/ltB b a
 |[],[]=>J2 (JE rfl)
 |[],_::_=>JE trivial
 |_::_,[]=>J2 (J2 trivial)
 |a::p,b::q=>by
  by_cases h:a<b
  ·exact JE (JE h)
  ·by_cases h':b<a
   ·exact J2 (J2 (JE h'))
   ·have e:a=b:=UInt8.toNat_inj.1 (by rw[JN]at h h';omega)
    subst e;rcases Z7P p q with h1|h1|h1
    ·exact JE (J2 ⟨rfl,h1⟩)
    ·exact J2 (JE (by rw[h1]))
    ·exact J2 (J2 (J2 ⟨rfl,h1⟩))
theorem Z5V:∀{m:List (By×By)} {k v:By},Z1B m->∀x,x∈ZBS m k v↔(x.1=k/\x.2=v/\v≠[])\/(x.1≠k/\x∈m)
 |[],k,v,_,x=>by
  simp only[ZBS];split
  ·rename_i h;simp[h]
  ·rename_i h
   simp only[JR,List.not_mem_nil,and_false,or_false];constructor
   ·rintro rfl;exact⟨rfl,rfl,h⟩
   ·rintro⟨h1,h2,_⟩;exact Prod.ext h1 h2
 |y::r,k,v,hs,x=>by
  rw[Z1B,JS]at hs;simp only[ZBS];by_cases hy:Z1i y.1 k<0
  ·rw[if_pos hy,JV,Z5V hs.2,JV]
   have hne:y.1≠k:=fun e=>by
    rw[Z1t,e]at hy;exact Z3P _ hy
   constructor
   ·rintro(rfl|h|h)
    ·exact J2 ⟨hne,JE rfl⟩
    ·exact JE h
    ·exact J2 ⟨h.1,J2 h.2⟩
   ·rintro(h|⟨h1,rfl|h2⟩)
    ·exact J2 (JE h)
    ·exact JE rfl
    ·exact J2 (J2 ⟨h1,h2⟩)
  ·rw[if_neg hy,List.mem_append]
   have hrest:∀z∈r,z.1≠k:=fun z hz e=>by
    have h1:=hs.1 z hz;rw[e]at h1;exact hy (Z1t.2 h1)
   have hnew:x∈(if v=[]then[]else[(k,v)])↔x.1=k/\x.2=v/\v≠[]:=by
    split
    ·rename_i h;simp[h]
    ·rename_i h
     rw[JR];constructor
     ·rintro rfl;exact⟨rfl,rfl,h⟩
     ·rintro⟨h1,h2,_⟩;exact Prod.ext h1 h2
   rw[hnew];by_cases hyk:y.1=k
   ·rw[if_pos hyk,JV]
    constructor
    ·rintro(h|h)
     ·exact JE h
     ·exact J2 ⟨hrest x h,J2 h⟩
    ·rintro(h|⟨h1,rfl|h2⟩)
     ·exact JE h
     ·exact(h1 hyk).elim
     ·exact J2 h2
   ·rw[if_neg hyk,JV]
    constructor
    ·rintro(h|rfl|h)
     ·exact JE h
     ·exact J2 ⟨hyk,JE rfl⟩
     ·exact J2 ⟨hrest x h,J2 h⟩
    ·rintro(h|⟨h1,h2⟩)
     ·exact JE h
     ·exact J2 h2
theorem Z7k:∀{m:List (By×By)} {k v:By},Z1B m->Z1B (ZBS m k v)
 |[],k,v,_=>by
  simp only[ZBS];split
  ·exact List.Pairwise.nil
  ·exact List.pairwise_singleton _ _
 |y::r,k,v,hs=>by
  have hs0:=hs;rw[Z1B,JS]at hs;by_cases hy:Z1i y.1 k<0
  ·have e:ZBS (y::r) k v=y::ZBS r k v:=by simp only[ZBS];rw[if_pos hy]
   rw[e,Z1B,JS];refine⟨fun z hz=>?_,Z7k hs.2⟩;rcases (Z5V hs.2 z).1 hz with⟨h1,_⟩|⟨_,h2⟩
   ·rw[h1];exact Z1t.1 hy
   ·exact hs.1 z h2
  ·have e:ZBS (y::r) k v=(if v=[]then[]else[(k,v)])++(if y.1=k then r else y::r):=by simp only[ZBS];rw[if_neg hy]
   rw[e,Z1B,List.pairwise_append]
   have hkr:∀z∈r,ltB k z.1:=fun z hz=>by
    have h1:=hs.1 z hz;rcases Z7P k y.1 with h|h|h
    ·exact Z2v h h1
    ·rw[h];exact h1
    ·exact(hy (Z1t.2 h)).elim
   refine⟨by split<;>simp,?_,fun x hx z hz=>?_⟩
   ·split
    ·exact hs.2
    ·exact hs0
   ·have hxk:x.1=k:=by
      split at hx
      ·cases hx
      ·rw[JR]at hx;rw[hx]
    rw[hxk];split at hz
    ·exact hkr z hz
    ·rename_i hyk
     rcases List.mem_cons.1 hz with rfl|hz
     ·rcases Z7P k z.1 with h|h|h
      ·exact h
      ·exact(hyk h.symm).elim
      ·exact(hy (Z1t.2 h)).elim
     ·exact hkr z hz
end Go.Trie
end
section
namespace Go.Proofs.YtfghidehlnfdiaaGreat
open Go Go.Vcg Go.Trie
theorem ZED{m:List (By×By)}{k v:By}:(nibbles k,v)∈Z0L m↔(k,v)∈m:=by
 unfold Z0L;rw[Jf];constructor
 ·rintro⟨x,hx,he⟩
  have h1:=Z7T (JU he).1;have h2:=(JU he).2;rw[<-h1,<-h2];exact hx
 ·exact fun h=>⟨_,h,rfl⟩
theorem ZAR{m:List (By×By)}(hs:Z1B m):(Z0L m).Pairwise (fun x y=>ltB x.1 y.1):=by
 unfold Z0L;rw[List.pairwise_map];exact hs.imp (fun h=>Z8X h)
theorem ZHU{m:List (By×By)}{n:Nd}(hs:Z1B m)(h:∀p v,Trie.get n p=U v↔(p,v)∈Z0L m):Rep (Z0L m) n:=⟨ZAR hs,h⟩
theorem ZEb{m:List (By×By)}{n:Nd}{k v:By}(hr:Rep (Z0L m) n)(hs:Z1B m)(hc:Z1c n)(hv:v≠[]):Rep (Z0L (ZBS m k v)) (Trie.put n (nibbles k) v):=by
 refine ZHU (Z7k hs) (fun p x=>?_);rw[(Z8d hc (Z12 k) hv).2.2.2 p];by_cases hp:p=nibbles k
 ·rw[if_pos hp,hp,ZED,Z5V hs]
  constructor
  ·intro h;cases h;exact JE ⟨rfl,rfl,hv⟩
  ·rintro(⟨_,h,_⟩|⟨h,_⟩)
   ·exact congrArg U h.symm
   ·exact(h rfl).elim
 ·rw[if_neg hp,hr.2]
  unfold Z0L;rw[Jf,Jf];constructor
  ·rintro⟨y,hy,he⟩
   refine⟨y,(Z5V hs y).2 (J2 ⟨fun e=>hp ?_,hy⟩),he⟩;rw[<-(JU he).1,e]
  ·rintro⟨y,hy,he⟩
   rcases (Z5V hs y).1 hy with⟨h,_⟩|⟨_,h⟩
   ·exact(hp (by rw[<-(JU he).1,h])).elim
   ·exact⟨y,h,he⟩
theorem ZEa:Rep (Z0L []) .nil:=Rep.nil
section
variable{C C':Type}{S:C->Prop}{w0 w w':JJ}{lab:Nat->C}{lab':Nat->C'}{lab2:Nat->C}{c c1:C}{c':C'}{xs:List Value}{o:Option Addr}
theorem ZGk{w:JJ}{o:Option Addr}{k:Nat}{b:By}(h:RdB w o b):Sem.run J1 (convert 23 9 (.slice o b.length k)) w=.ok (.string (Z7m b)) w:=Z7j Zn Z5p ZBl h
theorem ZCf(a b:By):Z9V .neq (Z7m a) (Z7m b)=decide (a≠b):=by
 have h:=Z6E a b
 have:Z9V .neq (Z7m a) (Z7m b)= !Z9V .eql (Z7m a) (Z7m b):=by
  simp only[Z9V,bne]
 rw[this,h];by_cases hab:a=b<;>simp[hab]
theorem Z38{l:List (By×By)}{k:Nat}(h:Z0m w lab c l o l.length)(hb:∀x∈l,x.2.length<=2^20)(hlen:l.length<=2^20)(cr:C) :
  JX J1 Z0I.n #[.slice o l.length k] w (fun e w'=>∃o' k',e=J (.slice o' l.length k')/\l.length<=k'/\Vcg.Mod NoB w w'/\Z0m w' (ext lab w.heap.size cr) cr l o' l.length):=by
 refine ZG fun R hR=>Z0I.vc _ _ _ _ _ ?_;unfold Z0I.Vc;have inL:∀k,k<w.heap.size->lab k=c->ZE6 lab c w.heap.size k=0:=fun k _ hc=>ZGX hc;have h0:Z0m w (ZE6 lab c w.heap.size) 0 l o l.length:=Z0m.re h inL
 refine⟨fun o' n' k' i w'=>∃(j:Nat)(L:Nat->Nat),i=(j:Int)/\j<=l.length/\n'=j/\Stp (·=2) w (ZE6 lab c w.heap.size) w' L/\Z4g w' L 2 3 (l.take j) o' n' k',fun _ _ _ i _=>((l.length:Int)-i).toNat,
  ⟨0,_,rfl,JK _,rfl,Stp.refl _ _ _,by rw[Ji];exact Z4g.nil _ _ _ _⟩,?_⟩
 rintro o1 j k1 _ _ w1⟨j',L1,rfl,hj,hjj,s1,O1⟩;subst hjj;obtain⟨_,vs,hCR,hNC⟩:=h0;refine⟨fun hlt=>?_,fun hge=>?_⟩
 ·rintro _ rfl
  have hjl:j<l.length:=by omega
  have sD:Stp NoS w1 L1 w1.drew L1:=Stp.drew _ _ _;have O2:=O1.stp sD (fun h=>h) (fun h=>h);have s2:=s1.trans (sD.mono (T:=fun k=>k=2) (fun _ h=>h.elim));generalize w1.drew=w2 at *
  have CR2:=hCR.stp s2 (by decide);have NC2:=hNC.stp s2 (by decide);obtain⟨g,f,rfl,hg,hlg,hrow⟩:=NC2.hash CR2 hjl;obtain⟨g',f',hgf,_,ob,kb,hcell,hby,_⟩:=NC2.bytes CR2 hjl;cases hgf;have hlen32:=(NC2.2 j hjl).1;have hbl:=hb _ (E hjl);obtain⟨o3,k3,w3,hr3,F3⟩:=Z1D (k2:=kb) (ty:=Zu) (Mod.refl w2) hby.rd (by omega)
  have hrow':∀w',Vcg.Mod NoB w2 w'->ZH w' (J9 ⟨g,f,J0⟩ (I (j:Int)*33)) 32 (hashA l[j].1):=fun w' M=>by
   rw[Z6,X];exact⟨hrow.1,fun i hi=>by rw[<-hrow.2 i hi,Z6];exact ZU M hg (fun h=>h)⟩
  have hZ:nd0.size=33:=rfl;refine⟨_,rfl,⟨by omega,by omega⟩,_,hrow' _ (Mod.refl _),_,rfl,⟨by omega,by omega⟩,_,_,_,by rw[Z6,Z6,X,JI];exact hcell,_,w3,hr3,_,_,_,rfl,hrow' _ F3.mod,ZA _,by rw[ZX];unfold lputL;rw[ZX,hZ],?_⟩;rw[Z6p hZ];rintro d w4⟨rfl,rfl⟩;have M4:=Mod.alloc (S:=NoB) w3 (J7 (ndA l[j].1 o3 l[j].2.length k3) tNd);have N4:=Blk.new w3 tNd (ndA l[j].1 o3 l[j].2.length k3);have M24:=F3.mod.trans M4 (fun _ _ h=>h);have s4:Stp NoS w2 L1 (w3.alloc (J7 (ndA l[j].1 o3 l[j].2.length k3) tNd)) (ext L1 w2.heap.size 3):=Stp.of_nob M24 3;have b4:CBy (w3.alloc (J7 (ndA l[j].1 o3 l[j].2.length k3) tNd)) (ext L1 w2.heap.size 3) 3 o3 l[j].2:=Z2q F3 M4;show ∃(v30:Value)(w31:JJ),Sem.run J1 (builtinV .append #[34,34] 34 #[(.slice o1 j k1),(.slice (U ⟨w3.heap.size,0,J0⟩) 1 1)]) (w3.alloc (J7 (ndA l[j].1 o3 l[j].2.length k3) tNd))=.ok v30 w31/\_;generalize w3.alloc (J7 (ndA l[j].1 o3 l[j].2.length k3) tNd)=w4 at *
  have O4:=O2.stp s4 (fun h=>h) (fun h=>h);have htl:(l.take j).length=j:=by rw[JW];omega
  obtain⟨o5,k5,w5,hr5,O5,s5⟩:=O4.push (by decide) N4 hlen32 b4 F3.own.cap.1 (by omega);have htk:l.take (j+1)=l.take j++[(l[j].1,l[j].2)]:=by rw[JB,Y hjl];rfl
  refine⟨_,w5,hr5,_,_,_,rfl,⟨j+1,_,by rw[Z0 (by omega) (by omega)];omega,hjl,rfl,(s2.trans (s4.mono (fun _ h=>h.elim))).trans s5,by rw[htk];exact O5⟩,by dsimp only;rw[Z0 (by omega) (by omega)];omega⟩
 ·obtain rfl:j=l.length:=by omega
  rw[JO]at O1;obtain⟨_,us,hO,hC⟩:=O1;have M1:Vcg.Mod NoB w w1:=(s1.mod (Q:=fun k=>w.heap.size<=k) (fun k hk hs=>Nat.not_lt.1 fun hlt=>(ZFM hlt).1 hs)).mono (fun i hi h=>by omega)
  have out:∀q,q=2\/q=3->∀z,z<w1.heap.size->L1 z=q->ext lab w.heap.size cr z=cr:=fun q hq z hz he=>by
   by_cases hlt:z<w.heap.size
   ·rw[s1.lab z hlt]at he
    have:ZE6 lab c w.heap.size z=0\/ZE6 lab c w.heap.size z=1:=by
     unfold ZE6;rw[if_pos hlt];split
     ·exact JE rfl
     ·exact J2 rfl
    rcases this with h|h<;>rw[h]at he<;>omega
   ·exact ext_new (by omega)
  exact hR _ _ ⟨o1,k1,rfl,hO.own.cap.1,M1,rfl,us,Z4k.re (COw.row hO) (out 2 (JE rfl)),ZS.re hC (out 3 (J2 rfl))⟩
theorem ZA9{l1 l2:List (By×By)}{o1 o2:Option Addr}{k1 k2:Nat}(h1:Z0m w lab c l1 o1 l1.length)(h2:Z0m w lab c1 l2 o2 l2.length)(hlen:l1.length<=2^20) :
  JX J1 Z0R.n #[.slice o1 l1.length k1,.slice o2 l2.length k2] w (fun e w'=>e=J (JC (decide (l1=l2)))/\Vcg.Mod NoB w w'):=by
 refine ZG fun R hR=>Z0R.vc _ _ _ _ _ _ _ _ ?_;unfold Z0R.Vc;obtain⟨_,vs1,C1,N1⟩:=h1;obtain⟨_,vs2,C2,N2⟩:=h2;have no:l1≠l2->∀w',Vcg.Mod NoB w w'->R (J (JC J3)) w':=fun hne w' M=>hR _ _ ⟨by rw[decide_eq_false hne],M⟩;refine⟨fun hl=>no (fun e=>hl (by rw[e])) _ (Mod.refl w),fun hl=>?_⟩;have hl':l1.length=l2.length:=by omega
 refine⟨fun n w'=>∃j:Nat,n=(j:Int)/\j<=l1.length/\Vcg.Mod NoB w w'/\l1.take j=l2.take j,fun n _=>((l1.length:Int)-n).toNat,⟨0,rfl,JK _,Mod.refl w,rfl⟩,?_⟩;rintro _ _ w1⟨j,rfl,hj,M,ht⟩;refine⟨fun hlt=>?_,fun hge=>?_⟩
 ·rintro _ rfl
  have hj1:j<l1.length:=by omega
  have hj2:j<l2.length:=by omega
  have M2:=M.step_drew;obtain⟨g,f,rfl,hg,_,hrow⟩:=N1.hash C1 hj1;obtain⟨g',f',hgf,_,ob,kb,hcell,hby,_⟩:=N1.bytes C1 hj1;cases hgf;obtain⟨p,q,rfl,hp,_,hrow2⟩:=N2.hash C2 hj2;obtain⟨p',q',hpq,_,ob2,kb2,hcell2,hby2,_⟩:=N2.bytes C2 hj2;cases hpq
  have r1:ZH w1.drew (J9 ⟨g,f,J0⟩ (I (j:Int)*33)) 32 (hashA l1[j].1):=by
   rw[Z6,X];exact⟨hrow.1,fun i hi=>by rw[<-hrow.2 i hi,Z6];exact ZU M2 hg (fun h=>h)⟩
  have r2:ZH w1.drew (J9 ⟨p,q,J0⟩ (I (j:Int)*33)) 32 (hashA l2[j].1):=by
   rw[Z6,X];exact⟨hrow2.1,fun i hi=>by rw[<-hrow2.2 i hi,Z6];exact ZU M2 hp (fun h=>h)⟩
  have hdiff:l1[j]≠l2[j]->l1≠l2:=fun h e=>h (by simp only[e]);refine⟨_,rfl,⟨by omega,by omega⟩,_,r1,_,rfl,⟨by omega,by omega⟩,_,r2,_,Z94 _ _ (N1.2 j hj1).1 (N2.2 j hj2).1,_,rfl,fun he=>no (hdiff (fun e=>of_decide_eq_true he (by rw[e]))) _ M2,fun he=>?_⟩;have hh:l1[j].1=l2[j].1:=Classical.not_not.1 (of_decide_eq_false he);refine⟨_,rfl,⟨by omega,by omega⟩,_,_,_,by rw[Z6,Z6,X,JI];exact(ZU M2 hg (fun h=>h)).trans hcell,_,ZGk (hby.rd.mod' M2),_,rfl,_,rfl,⟨by omega,by omega⟩,_,_,_,by rw[Z6,Z6,X,JI];exact(ZU M2 hp (fun h=>h)).trans hcell2,_,ZGk (hby2.rd.mod' M2),_,rfl,fun hb=>?_,fun hb=>?_⟩
  ·rw[ZCf]at hb
   exact no (hdiff (fun e=>of_decide_eq_true hb (by rw[e]))) _ M2
  ·rw[ZCf]at hb
   have hb':l1[j].2=l2[j].2:=Classical.not_not.1 (of_decide_eq_false hb);refine⟨⟨j+1,by rw[Z0 (by omega) (by omega)];omega,hj1,M2,?_⟩,by dsimp only;rw[Z0 (by omega) (by omega)];omega⟩;rw[JB,JB,ht,Y hj1,Y hj2,show l1[j]=l2[j]from Prod.ext hh hb']
 ·have hjl:j=l1.length:=by omega
  rw[hjl,JO,hl',JO]at ht;exact hR _ _ ⟨by rw[decide_eq_true ht],M⟩
end
end Go.Proofs.YtfghidehlnfdiaaGreat
end
section
namespace Go.Vcg
def lk(l:List (BitVec 64)):St:=fun i=>l.getD i 0
theorem ZEe{s r:St}(n:Nat)(h:∀i,i<25->s i=r i):∀j,j<25->rnd n s j=rnd n r j:=by
 have hp:∀x,x<5->par s x=par r x:=fun x hx=>by
  simp only[par,ZDK];rw[h (x+5*0) (by omega),h (x+5*1) (by omega),h (x+5*2) (by omega),h (x+5*3) (by omega),h (x+5*4) (by omega)]
 have hb:∀j,j<25->bbK s j=bbK r j:=fun j hj=>by
  simp only[bbK,bbXY,ddK];rw[h _ (by omega),hp _ (by omega),hp _ (by omega)]
 have hc:∀j,j<25->Z50 (bbK s) j=Z50 (bbK r) j:=fun j hj=>by
  simp only[Z50];rw[hb _ (by omega),hb _ (by omega),hb _ (by omega)]
 intro j hj;simp only[rnd];rw[hc 0 (by omega),hc j hj]
end Go.Vcg
end
section
namespace Go.Trie
open Go.Vcg
def kDo:By:=[100,111]
def kDog:By:=[100,111,103]
def kDoge:By:=[100,111,103,101]
def ZHF:By:=[104,111,114,115,101]
def vVerb:By:=[118,101,114,98]
def vPuppy:By:=[112,117,112,112,121]
def vCoin:By:=[99,111,105,110]
def ZEy:By:=[115,116,97,108,108,105,111,110]
def n1:Nd:=(putT .nil kDo vVerb).2
def n2:Nd:=(putT n1 kDog vPuppy).2
def n3:Nd:=(putT n2 kDoge vCoin).2
def n4:Nd:=(putT n3 ZHF ZEy).2
theorem get4:get n4 (nibbles kDog)=U vPuppy:=by kernel_rfl
end Go.Trie
end
section
namespace Go.Proofs.YtfghidehlnfdiaaGreat
open Go Go.Vcg Go.Trie
theorem Z3O(w:JJ){bs:By}{A:Array Value}(hA:A.toList=bs.map bV)(l k:Nat) :
  ∃w2,Sem.run J1 (convert 23 23 (.slice (U ⟨w.heap.size,0,J0⟩) l k)) (w.alloc (J7 A 5))=.ok (.slice (U ⟨w.heap.size,0,J0⟩) l k) w2/\Vcg.Mod NoB w w2/\RdB w2 (U ⟨w.heap.size,0,J0⟩) bs:=by
 have B:=Blk.new w 5 A;obtain⟨w2,h2,M2,hc2⟩:=Z6M (P:=J1) (t:=Zu) (l:=l) (c:=k) Zn (by kernel_rfl) B;refine⟨w2,h2,ZK (Mod.alloc w _) M2 (JF _),fun hne=>⟨w.heap.size,0,rfl,?_,fun i hi=>?_⟩⟩
 ·have:=M2.size
  have:=B.lt;omega
 ·rw[hc2,B.cell,JA,<-Array.getElem?_toList,hA]
  exact Z66 hi
end Go.Proofs.YtfghidehlnfdiaaGreat
end
section
namespace Go.Proofs.YtfghidehlnfdiaaGreat
open Go Go.Vcg
abbrev Z2C.n:Nat:=99
def Z2C.Vc(a:Option Addr)(b c:Nat)(w:JJ)(R:Ending->JJ->Prop):Prop :=
 JX J1 43 #[.slice a b c] w (fun d e =>
 ∃f g h,d=J (.slice f g h) /\
 (((g:Int)=0 ->
 R (J (JD #[.slice J0 0 0,JC J3,J6 J8 143])) e) /\
 ((g:Int)≠0 ->
 ∃d,f=U d /\
 ((0:Int)<=0/\0<(g:Int)) /\
 ∃i,e.cell? (d.add 0)=U (J6 JY i) /\
 ((i>3 ->
 R (J (JD #[.slice J0 0 0,JC J3,J6 J8 143])) e) /\
 (¬i>3 ->
 (((g:Int)>130 ->
 R (J (JD #[.slice J0 0 0,JC J3,J6 J8 143])) e) /\
 (¬(g:Int)>130 ->
 ∃d,f=U d /\
 ((0:Int)<=0/\0<(g:Int)) /\
 ∃i,e.cell? (d.add 0)=U (J6 JY i) /\
 1<=g /\
 ∃(d:Option Addr->Nat->Nat->JJ->Prop),(∃j,f=U j /\
 ((0:Int)<=0/\0<(g:Int)) /\
 ∃k,e.cell? (j.add 0)=U (J6 JY k) /\
 (((J5 k 2)=0 ->
 2<=g /\
 d (subO f h 2 1) (g-2) (h-2) e) /\
 ((J5 k 2)≠0 ->
 d (subO f h 1 1) (g-1) (h-1) e))) /\
 (∀(e:Option Addr)(f:Nat)(g:Nat)(h:Nat->Value)(h:JJ),d e f g h ->
 JX J1 120 #[.slice e f g,JC (decide (i>1))] h (fun d h =>
 ∃j k l m,d=J (JD #[.slice j k l,J6 J8 m]) /\
 ((m≠0 ->
 R (J (JD #[.slice J0 0 0,JC J3,J6 J8 143])) h) /\
 (m=0 ->
 JX J1 82 #[.slice j k l,.slice a b c] h (fun a b =>
 ∃c,a=J (JC c) /\
 ((c=J3 ->
 R (J (JD #[.slice J0 0 0,JC J3,J6 J8 143])) b) /\
 (c=Jn ->
 R (J (JD #[.slice e f g,JC (decide (i>1)),J6 J8 0])) b))))))))))))))
theorem Z2C.vc(a b c w R)(h:Z2C.Vc a b c w R):JX J1 99 #[(.slice a b c)] w R:=xs [(1000008,[(7,.cell (.slice))])] [.slice a b c] Tryz.func99 ZO (by kernel_rfl) h
abbrev Z04.n:Nat:=95
def Z04.Vc(a:Option Addr)(b c:Nat)(w:JJ)(R:Ending->JJ->Prop):Prop :=
 (((b:Int)=0 ->
 R (J (JD #[.slice J0 0 0,JC J3,J6 J8 143])) w) /\
 ((b:Int)≠0 ->
 (((b:Int)>65 ->
 R (J (JD #[.slice J0 0 0,JC J3,J6 J8 143])) w) /\
 (¬(b:Int)>65 ->
 JX J1 54 #[.slice a b c] w (fun a b =>
 ∃c d e,a=J (.slice c d e) /\
 ∃a,c=U a /\
 ((0:Int)<=0/\0<(d:Int)) /\
 ∃f,b.cell? (a.add 0)=U (J6 JY f) /\
 ((f>3 ->
 R (J (JD #[.slice J0 0 0,JC J3,J6 J8 143])) b) /\
 (¬f>3 ->
 (((J5 f 2)=0 ->
 ∃a,c=U a /\
 ((0:Int)<=1/\1<(d:Int)) /\
 ∃g,b.cell? (a.add 1)=U (J6 JY g) /\
 ((g≠0 ->
 R (J (JD #[.slice J0 0 0,JC J3,J6 J8 143])) b) /\
 (g=0 ->
 ((0:Int)<=(G JY (2-(J5 f 2)))/\(G JY (2-(J5 f 2)))<=(d:Int)) /\
 (((((d-(I (G JY (2-(J5 f 2))))):Nat):Int)>128 ->
 R (J (JD #[.slice J0 0 0,JC J3,J6 J8 143])) b) /\
 (¬(((d-(I (G JY (2-(J5 f 2))))):Nat):Int)>128 ->
 R (J (JD #[.slice (subO c e (I (G JY (2-(J5 f 2)))) 1) (d-(I (G JY (2-(J5 f 2))))) (e-(I (G JY (2-(J5 f 2))))),JC (decide (f>1)),J6 J8 0])) b))))) /\
 ((J5 f 2)≠0 ->
 ((0:Int)<=(G JY (2-(J5 f 2)))/\(G JY (2-(J5 f 2)))<=(d:Int)) /\
 (((((d-(I (G JY (2-(J5 f 2))))):Nat):Int)>128 ->
 R (J (JD #[.slice J0 0 0,JC J3,J6 J8 143])) b) /\
 (¬(((d-(I (G JY (2-(J5 f 2))))):Nat):Int)>128 ->
 R (J (JD #[.slice (subO c e (I (G JY (2-(J5 f 2)))) 1) (d-(I (G JY (2-(J5 f 2))))) (e-(I (G JY (2-(J5 f 2))))),JC (decide (f>1)),J6 J8 0])) b)))))))))))
theorem Z04.vc(a b c w R)(h:Z04.Vc a b c w R):JX J1 95 #[(.slice a b c)] w R:=xs [] [.slice a b c] Tryz.func95 ZO (by kernel_rfl) h
end Go.Proofs.YtfghidehlnfdiaaGreat
end
section
namespace Go.Proofs.YtfghidehlnfdiaaGreat
open Go Go.Vcg Go.Trie
def Z1C:By->Option (By×Bool)
 |[]=>J0
 |a::r =>
  if 65<r.length+1\/3<(a>>>4).toNat then J0
  else if(a>>>4).toNat%2=0 then(if(a&&&15).toNat≠0 then J0 else U (nibbles r,decide ((a>>>4).toNat>1)))
  else if 64<=r.length then J0 else U ((a&&&15)::nibbles r,decide ((a>>>4).toNat>1))
theorem Z3m:∀(r:By),Z3l (nibbles r)=r
 |[]=>rfl
 |a::r=>by
  rw[Z0C];simp only[Z3l];rw[Z6q,Z3m r]
theorem ZEK{p:By}(h:Nib p):Z2x p↔128<p.length:=by
 unfold Z2x;constructor
 ·rintro(h1|⟨x,hx,h1⟩)
  ·exact h1
  ·have:=h x hx
   have h2:=UInt8.le_iff_toNat_le.1 h1;simp at h2;omega
 ·exact JE
theorem Z9D{a:UInt8}{r:By}(h3:¬3<(a>>>4).toNat)(ho:(a>>>4).toNat%2≠0):(Z7x ((a&&&15)::nibbles r) (decide ((a>>>4).toNat>1)))=if 64<=r.length then([],140)else(a::r,0):=by
 have hn:Nib ((a&&&15)::nibbles r):=fun x hx=>Z12 (a::r) x (by rw[Z0C];exact List.mem_cons_of_mem _ hx);unfold Z7x;have hl:((a&&&15)::nibbles r).length=1+2*r.length:=by rw[Z,ZQ];omega
 rw[show(if Z2x _ then((([]:By),(140:Int)))else _)=_ from ite_congr (propext (ZEK hn)) (fun _=>rfl) (fun _=>rfl),hl];by_cases h:64<=r.length
 ·rw[if_pos (by omega),if_pos h]
 ·rw[if_neg (by omega),if_neg h]
  unfold headed;rw[if_pos (by omega)];simp only[Z3l];rw[Z3m]
  have:Z1T (decide ((a>>>4).toNat>1))+(1:UInt8)=a>>>4:=by
   have:∀n:Fin 256,¬3<(K n>>>4).toNat->(K n>>>4).toNat%2≠0->Z1T (decide ((K n>>>4).toNat>1))+(1:UInt8)=K n>>>4:=by decide +kernel
   exact this a.toFin h3 ho
  rw[this,Z6q]
theorem Z7Y{a:UInt8}{r:By}(h3:¬3<(a>>>4).toNat)(he:(a>>>4).toNat%2=0):(Z7x (nibbles r) (decide ((a>>>4).toNat>1)))=if 64<r.length then([],(140:Int))else((a>>>4)<<<4::r,(0:Int)):=by
 have hn:Nib (nibbles r):=Z12 r;unfold Z7x;have hl:(nibbles r).length=2*r.length:=by rw[ZQ]
 rw[show(if Z2x _ then((([]:By),(140:Int)))else _)=_ from ite_congr (propext (ZEK hn)) (fun _=>rfl) (fun _=>rfl),hl];by_cases h:64<r.length
 ·rw[if_pos (by omega),if_pos h]
 ·rw[if_neg (by omega),if_neg h]
  unfold headed;rw[if_neg (by omega)];simp only[Z3l];rw[Z3m]
  have:Z1T (decide ((a>>>4).toNat>1))=a>>>4:=by
   have:∀n:Fin 256,¬3<(K n>>>4).toNat->(K n>>>4).toNat%2=0->Z1T (decide ((K n>>>4).toNat>1))=K n>>>4:=by decide +kernel
   exact this a.toFin h3 he
  rw[this];congr 2;exact UInt8.or_zero
theorem ZCL(a:UInt8):(a>>>4)<<<4=a↔(a&&&15).toNat=0:=by
 have:∀n:Fin 256,((K n>>>4)<<<4=K n↔(K n&&&15).toNat=0):=by decide +kernel
 exact this a.toFin
theorem Z9O(h:Nat):J5 (h:Int) 2=((h%2:Nat):Int):=(Int.ofNat_tmod h 2).symm
def upk(b:By):By×Bool×Int:=match Z1C b with
 |none=>([],J3,143)
 |some (p,l)=>(p,l,0)
section
variable{w:JJ}{o:Option Addr}{k:Nat}{bs:By}
theorem ZAB{a:UInt8}{r:By}(h:RdB w o (a::r)):∃d,o=U d/\w.cell? (J9 d 0)=U (J6 JY (a.toNat:Int)):=by
 obtain⟨b,f,rfl,hb,hc⟩:=h (by simp);exact⟨_,rfl,by rw[Z6];exact hc 0 (by simp)⟩
theorem Z6w{o:Option Addr}{c n N:Nat}(h:∀k,OB o k->N<=k):∀d,subO o c n 1=U d->N<=d.block:=by
 intro d hd;unfold subO at hd;split at hd
 ·exact h _ ⟨d,hd,rfl⟩
 ·cases o with
  |none=>simp at hd
  |some a =>
   simp only[Option.map_some,Option.some.injEq]at hd;rw[<-hd]
   have e:(a.add (n*1)).block=a.block:=by
    obtain⟨b,f,s⟩:=a;simp only[J9];split<;>rfl
   rw[e];exact h a.block ⟨a,rfl,rfl⟩
theorem Z5l{c n:Nat}(h:RdB w o bs)(hl:bs.length<=c):RdB w (subO o c n 1) (bs.drop n):=by
 have:=h.sub (c:=c) (lo:=n) (n:=bs.length) hl
 rwa[JH (by simp)]at this
theorem Z6J(hr:RdB w o bs)(hl:bs.length<=2^20) :
  JX J1 Z2C.n #[.slice o bs.length k] w (fun e w'=>∃o' k',e=J (JD #[.slice o' (upk bs).1.length k',JC (upk bs).2.1,J6 J8 (upk bs).2.2])/\Vcg.Mod NoB w w'/\RdB w' o' (upk bs).1/\∀d,o'=U d->w.heap.size<=d.block):=by
 refine ZG fun R hR=>Z2C.vc _ _ _ _ _ ?_;unfold Z2C.Vc;refine(Z2W hr (by omega)).mono ?_;rintro _ w1⟨o1,k1,rfl,F⟩
 have bad:∀w',Z1C bs=J0->Vcg.Mod NoB w w'->R (J (JD #[.slice J0 0 0,JC J3,J6 J8 143])) w':=fun w' h M=>by
  refine hR _ _ ⟨J0,0,?_,M,?_,fun d h=>by cases h⟩
  ·unfold upk;rw[h];rfl
  ·unfold upk;rw[h];exact RdB.nil _ _
 refine⟨_,_,_,rfl,fun h0=>?_,fun h0=>?_⟩
 ·refine bad _ ?_ F.mod
  have:bs=[]:=JG (by rw[ZQ]at h0;omega);rw[this];rfl
 ·cases bs with
  |nil=>simp[ZQ]at h0
  |cons a r =>
   have hR1:=F.own.bytes;rw[Z0C]at hR1;obtain⟨d,rfl,hc⟩:=ZAB hR1;have hlen:(nibbles (a::r)).length=2*(r.length+1):=by rw[ZQ,Z]
   have hcap:=F.own.cap.1;rw[hlen]at *
   refine⟨_,rfl,⟨by omega,by omega⟩,_,hc,fun h3=>bad _ ?_ F.mod,fun h3=>⟨fun h65=>bad _ ?_ F.mod,fun h65=>?_⟩⟩
   ·simp only[Z1C];rw[if_pos (J2 (by omega))]
   ·simp only[Z1C];rw[if_pos (JE (by omega))]
   refine⟨_,rfl,⟨by omega,by omega⟩,_,hc,by omega,?_⟩;have hn3:¬3<(a>>>4).toNat:=by omega
   have edec:decide (((a>>>4).toNat:Int)>1)=decide ((a>>>4).toNat>1):=by rw[Jh,decide_eq_true_eq,decide_eq_true_eq];omega
   rw[edec]
   let path:By:=if(a>>>4).toNat%2=0 then nibbles r else(a&&&15)::nibbles r
   have hpl:path.length<=2^30:=by
    simp only[path];simp only[Z]at hl;split
    ·rw[ZQ];omega
    ·rw[Z,ZQ];omega
   refine⟨fun o' n' c' w'=>w'=w1/\n'=path.length/\RdB w1 o' path/\∀d,o'=U d->w.heap.size<=d.block,?_,?_⟩
   ·refine⟨_,rfl,⟨by omega,by omega⟩,_,hc,fun he=>?_,fun he=>?_⟩
    ·rw[Z9O]at he
     have he':(a>>>4).toNat%2=0:=by omega
     refine⟨by omega,rfl,?_,?_,Z6w F.new⟩
     ·simp only[path,if_pos he',ZQ];omega
     ·simp only[path,if_pos he']
      exact Z5l (n:=2) hR1 (by simp only[Z,ZQ];omega)
    ·rw[Z9O]at he
     have he':¬(a>>>4).toNat%2=0:=by omega
     refine⟨rfl,?_,?_,Z6w F.new⟩
     ·simp only[path,if_neg he',Z,ZQ];omega
     ·simp only[path,if_neg he']
      exact Z5l (n:=1) hR1 (by simp only[Z,ZQ];omega)
   ·rintro o3 _ c3 _ w1⟨rfl,rfl,h3,hnew⟩
    refine(ZCt (k:=c3) h3 hpl _).mono ?_;rintro _ w2⟨o4,k4,rfl,F4⟩;have M02:=F.mod.trans F4.mod (fun _ _ h=>h);refine⟨_,_,_,_,rfl,fun hn=>bad _ ?_ M02,fun hz=>?_⟩
    ·simp only[path]at hn
     simp only[Z1C];rw[if_neg (by omega)];by_cases he:(a>>>4).toNat%2=0
     ·rw[if_pos he,Z7Y hn3 he,if_neg (by omega)]at hn
      exact(hn rfl).elim
     ·rw[if_neg he,Z9D hn3 he]at hn
      rw[if_neg he];by_cases h64:64<=r.length
      ·rw[if_pos h64]
      ·rw[if_neg h64]at hn;exact(hn rfl).elim
    ·have hq:=(Z4t (k1:=k4) (k2:=k) F4.own.bytes (hr.mod' M02))
     refine hq.mono ?_;rintro _ w2⟨rfl,rfl⟩;refine⟨_,rfl,fun hf=>bad _ ?_ M02,fun ht=>?_⟩
     ·have hf:=of_decide_eq_false hf
      simp only[path]at hf hz;simp only[Z1C];rw[if_neg (by omega)];by_cases he:(a>>>4).toNat%2=0
      ·rw[if_pos he,Z7Y hn3 he,if_neg (by omega)]at hf
       rw[if_pos he,if_pos (fun h=>hf ?_)];show(a>>>4)<<<4::r=a::r;rw[(ZCL a).2 h]
      ·rw[if_neg he,Z9D hn3 he]at hf hz
       by_cases h64:64<=r.length
       ·rw[if_pos h64]at hz;exact absurd hz (by decide)
       ·rw[if_neg h64]at hf;exact(hf rfl).elim
     ·have ht:=of_decide_eq_true ht
      have hu:Z1C (a::r)=U (path,decide ((a>>>4).toNat>1)):=by
       simp only[path]at ht hz ⊢;simp only[Z1C];rw[if_neg (by omega)];by_cases he:(a>>>4).toNat%2=0
       ·rw[if_pos he,Z7Y hn3 he,if_neg (by omega)]at ht
        simp only[List.cons.injEq,and_true]at ht;rw[if_pos he,if_neg (fun h=>h ((ZCL a).1 ht)),if_pos he]
       ·rw[if_neg he,Z9D hn3 he]at hz
        rw[if_neg he];by_cases h64:64<=r.length
        ·rw[if_pos h64]at hz;exact absurd hz (by decide)
        ·rw[if_neg h64,if_neg he]
      refine hR _ _ ⟨o3,c3,?_,M02,?_,hnew⟩
      ·unfold upk;rw[hu]
      ·unfold upk;rw[hu];exact h3.mod' F4.mod
theorem Z5c(hr:RdB w o bs)(hl:bs.length<=2^20) :
  JX J1 Z04.n #[.slice o bs.length k] w (fun e w'=>∃o' k',e=J (JD #[.slice o' (upk bs).1.length k',JC (upk bs).2.1,J6 J8 (upk bs).2.2])/\Vcg.Mod NoB w w'/\RdB w' o' (upk bs).1/\∀d,o'=U d->w.heap.size<=d.block):=by
 refine ZG fun R hR=>Z04.vc _ _ _ _ _ ?_;unfold Z04.Vc
 have bad:∀w',Z1C bs=J0->Vcg.Mod NoB w w'->R (J (JD #[.slice J0 0 0,JC J3,J6 J8 143])) w':=fun w' h M=>by
  refine hR _ _ ⟨J0,0,?_,M,?_,fun d h=>by cases h⟩
  ·unfold upk;rw[h];rfl
  ·unfold upk;rw[h];exact RdB.nil _ _
 refine⟨fun h0=>?_,fun h0=>⟨fun h65=>?_,fun h65=>?_⟩⟩
 ·refine bad _ ?_ (Mod.refl w)
  have:bs=[]:=JG (by omega);rw[this];rfl
 ·cases bs with
  |nil=>simp at h0
  |cons a r =>
   simp only[Z]at h65;refine bad _ ?_ (Mod.refl w);simp only[Z1C];rw[if_pos (JE (by omega))]
 ·refine(Z2J hr (by omega)).mono ?_
  rintro _ w1⟨o1,k1,rfl,F⟩;cases bs with
  |nil=>simp at h0
  |cons a r =>
   simp only[Z]at h65;have hR1:=F.own.bytes;rw[Z0C]at hR1;have hlen:(nibbles (a::r)).length=2*(r.length+1):=by rw[ZQ,Z]
   have hcap:2*(r.length+1)<=k1:=by have:=F.own.cap.1;rwa[hlen]at this
   rw[hlen];obtain⟨b,f,rfl,hb,hcs⟩:=hR1 (by simp);have c0:=hcs 0 (by simp);have c1:=hcs 1 (by simp);refine⟨_,_,_,rfl,_,rfl,⟨by omega,by omega⟩,((a>>>4).toNat:Int),by rw[Z6];exact c0,fun h3=>bad _ ?_ F.mod,fun h3=>?_⟩
   ·simp only[Z1C];rw[if_pos (J2 (by omega))]
   ·rw[Z9O]
    have hn3:¬3<(a>>>4).toNat:=by omega
    have edec:decide (((a>>>4).toNat:Int)>1)=decide ((a>>>4).toNat>1):=by rw[Jh,decide_eq_true_eq,decide_eq_true_eq];omega
    rw[edec];refine⟨fun he=>?_,fun he=>?_⟩
    ·have he':(a>>>4).toNat%2=0:=by omega
     refine⟨_,rfl,⟨by omega,by omega⟩,((a&&&15).toNat:Int),by rw[Z6];exact c1,fun hn=>bad _ ?_ F.mod,fun hz=>?_⟩
     ·simp only[Z1C]
      rw[if_neg (by omega),if_pos he',if_pos (by omega)]
     ·have ew:G JY ((2:Int)-(((a>>>4).toNat%2:Nat):Int))=2:=by rw[he'];decide
      rw[ew]
      have hu:Z1C (a::r)=U (nibbles r,decide ((a>>>4).toNat>1)):=by
       simp only[Z1C];rw[if_neg (by omega),if_pos he',if_neg (by omega)]
      refine⟨⟨by omega,by omega⟩,fun h=>absurd h (by simp only[show I 2=2 from rfl];omega),fun h=>hR _ _ ⟨subO (U ⟨b,f,J0⟩) k1 2 1,k1-2,?_,F.mod,?_,?_⟩⟩
      ·unfold upk;rw[hu]
       simp only[show I 2=2 from rfl,ZQ];rw[show 2*(r.length+1)-2=2*r.length by omega]
      ·unfold upk;rw[hu]
       exact Z5l (n:=2) hR1 (by simp only[Z,ZQ];omega)
      ·exact Z6w F.new
    ·have he':(a>>>4).toNat%2=1:=by omega
     have ew:G JY ((2:Int)-(((a>>>4).toNat%2:Nat):Int))=1:=by rw[he'];decide
     rw[ew];refine⟨⟨by omega,by omega⟩,fun h=>bad _ ?_ F.mod,fun h=>?_⟩
     ·simp only[show I 1=1 from rfl]at h
      simp only[Z1C];rw[if_neg (by omega),if_neg (by omega),if_pos (by omega)]
     ·simp only[show I 1=1 from rfl]at h ⊢
      have hu:Z1C (a::r)=U ((a&&&15)::nibbles r,decide ((a>>>4).toNat>1)):=by
       simp only[Z1C];rw[if_neg (by omega),if_neg (by omega),if_neg (by omega)]
      refine hR _ _ ⟨subO (U ⟨b,f,J0⟩) k1 1 1,k1-1,?_,F.mod,?_,?_⟩
      ·unfold upk;rw[hu]
       simp only[Z,ZQ];rw[show 2*(r.length+1)-1=2*r.length+1 by omega]
      ·unfold upk;rw[hu]
       exact Z5l (n:=1) hR1 (by simp only[Z,ZQ];omega)
      ·exact Z6w F.new
end
end Go.Proofs.YtfghidehlnfdiaaGreat
end
