/- Contracts: each (a node's references). -/
/- The walk of ProofMakes. -/
/- Entries of a range, held against a trie: plain Lean (the program's way, the reference's). -/
/- Entries of a range: what both ways count. -/
/- Entries of a range: both ways answer alike. -/
/- Contracts: ProveRange's walk (its closure). -/
/- Contracts: ProveRange (package proof). -/
/- Contracts of the reference: find; the maker of a range's proof in memory. -/
/- Entries of a range: both ways answer alike (the induction). -/
/- Contracts of the reference: the maker's item, at a list. -/
/- Entries of a range: the plain law. -/
import Derived.Test.YtfghidehlnfdiaaGreatRG5
set_option linter.unusedVariables false
set_option linter.unusedSimpArgs false
open Bool renaming and_eq_true->JQ,and_true->JW,eq_iff_iff->J1,false->F,false_eq_true->J,or_self->J7,true->J4
open Decidable renaming byContradiction->C
open Go renaming World->I
open Go.Addr renaming add->JB
open Go.IntKind renaming wrap->JG
open Go.Value renaming bool->JL,slice->Z
open List renaming all_eq_true->H,append_assoc->JN,append_nil->JI,drop_eq_getElem_cons->M,drop_left->JJ,eq_nil_of_length_eq_zero->J6,filter_congr->JC,findIdx?_cons->JM,foldl_cons->JT,getD_eq_getElem?_getD->JA,getElem?_eq_getElem->J0,getElem_mem->JF,isPrefixOf->JS,isPrefixOf_iff_prefix->Y,length->JX,length_append->J9,length_cons->J5,length_range->JP,nodup_nil->JU,range->J2,replicate->J8,take_succ_cons->JK,take_zero->JV
open List.cons renaming inj->JD,injEq->JY
open Nat renaming le_refl->X,zero_add->JH
open Option renaming none->O,some->Q
open Or renaming inl->JR,inr->JE
open UInt8 renaming ofNat->G,ofNat_toNat->JO,toNat_ofNat'->J3
section
namespace Go.Proofs.YtfghidehlnfdiaaGreat
open Go Go.Vcg Go.Trie
def ZHz(r:Option Int)(e:Ending):Prop:=match r with
 |none=>e=.returned (.tuple #[])
 |some er=>e=.panicked (Z2u er)/\er≠0
structure ZKM {σ:Type} (f:Value) (T:Nat->Prop) (Inv:I->(Nat->Nat)->σ->Prop) (go:σ->It->By->σ×Option Int) (ok:By->Prop):Prop where
 s5:¬T 5
 s6:¬T 6
 stp:∀{w w':I}{lab lab':Nat->Nat}{s:σ},Inv w lab s->Stp NoS w lab w' lab'->Inv w' lab' s
 nil:∀{s:σ}{x:It}{path:By},isE x=J4->go s x path=(s,O)
 run:∀{w:I}{lab:Nat->Nat}{s:σ}{x:It}{L:Array Value}{o:Option Addr}{k:Nat}{path:By},Inv w lab s->RfC (fun b=>lab b≠6) w x L->Z2p x->isE x=F->CBy w lab 6 o path->path.length<=k->Nib path->ok path ->
  Z3E Tryz.prog f #[.agg L,Z o path.length k] w (fun e w'=>∃lab',Stp T w lab w' lab'/\Inv w' lab' (go s x path).1/\ZHz (go s x path).2 e)
theorem ZIg{xs:List It}{path:By}:(subsOf xs path).length<=16:=by
 unfold subsOf;split
 ·split
  ·simp
  ·simp
 ·simp
theorem ZJv{A:Nat->Prop}{w:I}{x:It}{L:Array Value}(h:RfC A w x L):L[33]?=Q (JL (!isE x)):=by
 cases x with
 |s b =>
  rcases h with⟨rfl,h',hh',_,rfl⟩|⟨hb32,rfl⟩
  ·exact Z78 hh'
  ·cases b with
   |nil=>cases hb32
   |cons a r=>exact Z78 (Z1O _)
 |l xs=>obtain⟨Dx,v1,v2,v3,rfl,_⟩:=h;exact Z78 rfl
theorem ZEv{lab:Nat->Nat}{w:I}{xs:List It}{b:Bool}{s1 s2 s3:Option Addr×Nat×Nat}{path:By}(h:NvC (fun b=>lab b≠6) w xs b s1 s2 s3) :
  s2.2.1=(subsOf xs path).length/\∀j(hj:j<(subsOf xs path).length),∃g L,s2.1=Q ⟨g,0,O⟩/\ZG w ⟨g,j*34,O⟩ 34 L/\RfC (fun b=>lab b≠6) w (subsOf xs path)[j].1 L /\
   ((s2.2.1=16/\(subsOf xs path)[j].2=path++[G j]/\j<16)\/(s2.2.1≠16/\∃p,(subsOf xs path)[j].2=path++p/\s1.2.1=p.length/\CBy w lab 6 s1.1 p/\p.length<=130)):=by
 have cb:∀{o:Option Addr}{p:By},RdA (fun b=>lab b≠6) w o p->CBy w lab 6 o p:=fun h=>⟨h.1,fun hne d hd=>Decidable.not_not.1 (h.2 hne d hd)⟩;rcases h with⟨p,v,h1,h2,h3,h4,h5,h6,rfl,h8,h9⟩|⟨p,D,L,h1,h2,h3,h4,h5,rfl,h7,h8,h9,h10⟩|⟨g,v,h1,h2,h3,h4,h5,h6,h7,h8,h9,h10,h11⟩
 ·have e:subsOf xs path=[]:=by unfold subsOf;rw[if_pos h1,h2]
  rw[e];exact⟨rfl,fun j hj=>absurd hj (by simp)⟩
 ·have e:subsOf xs path=[(xs.getD 1 (.s []),path++p)]:=by unfold subsOf;rw[if_pos h1,h2]
  simp only[e];refine⟨rfl,fun j hj=>?_⟩;obtain rfl:j=0:=by simpa using hj
  exact⟨D,L,rfl,by rw[Nat.zero_mul];exact h8.rowAll h9.size,h9,JE ⟨by show ¬(1:Nat)=16;decide,p,rfl,h4,cb h5,Z7s h2⟩⟩
 ·have e:subsOf xs path=(J2 16).map fun j=>(xs.getD j (.s []),path++[G j]):=by unfold subsOf;rw[if_neg (by omega)]
  have el:(subsOf xs path).length=16:=by rw[e];simp
  refine⟨by omega,fun j hj=>?_⟩;obtain⟨L,hr,hc⟩:=h9 j (by omega);have ej:(subsOf xs path)[j]=(xs.getD j (.s []),path++[G j]):=by simp only[e];simp
  rw[ej];exact⟨g,L,h5,hr,hc,JR ⟨h6,rfl,by omega⟩⟩
theorem ZFM{σ:Type}{go:σ->It->By->σ×Option Int}{s:σ}{l:List (It×By)}{j:Nat}(hj:j<l.length):foldK go s (l.drop j)=match go s l[j].1 l[j].2 with
  |(s',O)=>foldK go s' (l.drop (j+1))
  |(s',Q e)=>(s',Q e):=by
 rw[M hj];rfl
theorem Z7t{j:Nat}(h:j<16):Value.int .u8 (JG .u8 (j:Int))=bV (G j):=by
 have:∀m:Fin 16,JG .u8 (m.val:Int)=((G m.val).toNat:Int):=by decide +kernel
 simp only[bV];rw[this ⟨j,h⟩]
section
variable{σ:Type}{f:Value}{T:Nat->Prop}{Inv:I->(Nat->Nat)->σ->Prop}{go:σ->It->By->σ×Option Int}{ok:By->Prop}
theorem ZFH(V:ZKM f T Inv go ok){w:I}{lab:Nat->Nat}{s:σ}{xs:List It}{b:Bool}{s1 s2 s3:Option Addr×Nat×Nat}{o:Option Addr}{k:Nat}{path:By}(hI:Inv w lab s)(hg:Z2p (.l xs))(hn:NvC (fun b=>lab b≠6) w xs b s1 s2 s3)(hp:CBy w lab 6 o path)(hl:path.length<=64)(hnib:Nib path)(hok:∀q,q≠[]->ok (path++q)) :
  Calls Tryz.prog Z1T.n #[nvV b s1 s2 s3,Z o path.length k,f] w (fun e w'=>∃lab',Stp T w lab w' lab'/\Inv w' lab' (eachW go s xs path).1/\ZHz (eachW go s xs path).2 e):=by
 refine ZD fun R hR=>Z1T.vc _ _ _ _ _ _ _ _ _ _ _ _ _ _ _ _ ?_;unfold Z1T.Vc;rintro d1 w1⟨rfl,rfl⟩;have st1:Stp NoS w lab (w.alloc (.cells #[JL b,Z s1.1 s1.2.1 s1.2.2,Z s2.1 s2.2.1 s2.2.2,Z s3.1 s3.2.1 s3.2.2] 86)) (ext lab w.heap.size 5):=Stp.alloc NoS w lab _ 5;have N1:=CB.new w lab 5 86 #[JL b,Z s1.1 s1.2.1 s1.2.2,Z s2.1 s2.2.1 s2.2.2,Z s3.1 s3.2.1 s3.2.2];have I1:=V.stp hI st1;have hn1:=hn.stp st1 (fun h=>h);have P1:=hp.stp st1 (fun h=>h);generalize hD:w.heap.size=D at *
 generalize w.alloc (.cells #[JL b,Z s1.1 s1.2.1 s1.2.2,Z s2.1 s2.2.1 s2.2.2,Z s3.1 s3.2.1 s3.2.2] 86)=w1 at *
 generalize ext lab D 5=lab1 at *
 refine⟨_,_,_,by rw[Z3];exact N1.blk.rd1 rfl,?_⟩;have hlen:=(ZEv (path:=path) hn1).1;have h16l:=ZIg (xs:=xs) (path:=path);refine⟨fun i w'=>∃(j:Nat)(lab':Nat->Nat)(s':σ),i=(j:Int)/\j<=(subsOf xs path).length/\Stp T w1 lab1 w' lab'/\Inv w' lab' s'/\foldK go s' ((subsOf xs path).drop j)=eachW go s xs path,fun i _=>((s2.2.1:Int)-i).toNat,⟨0,lab1,s,rfl,Nat.zero_le _,Stp.refl _ _ _,I1,rfl⟩,?_⟩;rintro _ _ w2⟨j,lab2,s',rfl,hj,st2,I2,heq⟩;have N2:=N1.stp st2 V.s5;have hn2:=hn1.stp st2 V.s6;have P2:=P1.stp st2 V.s6;refine⟨fun hlt=>?_,fun hge=>?_⟩
 ·have hjl:j<(subsOf xs path).length:=by omega
  obtain⟨g,L,hg0,hrow,hL,hcase⟩:=(ZEv (path:=path) hn2).2 j hjl;obtain⟨gx,q,hq,hqn,hqe,hql⟩:=ZHT (path:=path) hg _ (JF hjl);rw[ZFM hjl]at heq;generalize hx:(subsOf xs path)[j].1=x at *
  generalize hy:(subsOf xs path)[j].2=y at *
  refine⟨_,hg0,⟨by omega,by omega⟩,L,by rw[Z3,Int.toNat_natCast,JH];exact hrow,?_⟩;rintro d3 w3⟨rfl,rfl⟩;rw[Z5X];obtain⟨w4,hr4,V4,st4⟩:=ZBM hL;have st24:=st2.trans (st4.mono (fun _ h=>h.elim));have I4:=V.stp I2 st4;have N4:=N2.stp st4 (fun h=>h);have P4:=P2.stp st4 (fun h=>h);have hn4:=hn2.stp st4 (fun h=>h);have hlab4:ext lab2 w2.heap.size 5 w2.heap.size=5:=ext_new (X _);generalize w2.heap.size=E at *
  generalize ext lab2 E 5=lab4 at *
  obtain⟨_,L4,B4,hL4⟩:=V4;refine⟨w4,hr4,!isE x,by rw[Z3,JH];exact B4.rd1 (ZJv hL4),fun hb=>?_,fun hb=>?_⟩
  ·have hE:isE x=J4:=by simpa using hb
   rw[V.nil hE]at heq;exact⟨⟨j+1,lab4,s',by rw[Z0 (by omega) (by omega)];omega,by omega,st24,I4,heq⟩,by dsimp only;rw[Z0 (by omega) (by omega)];omega⟩
  ·have hE:isE x=F:=by simpa using hb
   refine get4 N4.blk ?_;refine Z3B.mono ?_;rintro _ w5⟨rfl,M5⟩;have st5:Stp NoS w4 lab4 w5 (ext lab4 w4.heap.size 5):=Stp.of_nob M5 5;have B5:=(CB.mk B4 hlab4).stp st5 (fun h=>h);have I5:=V.stp I4 st5;have N5:=N4.stp st5 (fun h=>h);have P5:=P4.stp st5 (fun h=>h);have hn5:=hn4.stp st5 (fun h=>h);have hL5:=hL4.stp st5 (fun h=>h);have st25:=st24.trans (st5.mono (fun _ h=>h.elim));generalize ext lab4 w4.heap.size 5=lab5 at *
   have stD:∀(w0:I)(lab0:Nat->Nat),Stp NoS w0 lab0 w0.drew lab0:=fun w0 lab0=>Stp.drew NoS w0 lab0
   have go_on:∀(w6:I)(lab6:Nat->Nat)(op:Option Addr)(kp:Nat),Stp NoS w5 lab5 w6 lab6->CBy w6 lab6 6 op y->y.length<=kp ->
     ZG w6 ⟨E,0,O⟩ 34 L4/\Z3E Tryz.prog f #[.agg L4,Z op y.length kp] w6 (fun e42 w43=>(∃ch,e42=.panicked ch/\R (.panicked ch) w43)\/e42=.returned (.tuple #[])/\(∃(j_1:Nat)(lab':Nat->Nat)(s'_1:σ),JG .i64 ((j:Int)+1)=(j_1:Int)/\j_1<=(subsOf xs path).length/\Stp T w1 lab1 w43 lab'/\Inv w43 lab' s'_1/\foldK go s'_1 ((subsOf xs path).drop j_1)=eachW go s xs path)/\((s2.2.1:Int)-JG .i64 ((j:Int)+1)).toNat<((s2.2.1:Int)-(j:Int)).toNat):=by
    intro w6 lab6 op kp st6 P6 hk;have I6:=V.stp I5 st6;have B6:=B5.stp st6 (fun h=>h);have hL6:=hL5.stp st6 (fun h=>h);refine⟨B6.blk.rowAll hL4.size,?_⟩;refine Z3E.mono (V.run I6 hL6 gx hE P6 hk (by rw[hq];intro c hc;exact(List.mem_append.1 hc).elim (hnib c) (hqn c)) (by rw[hq];exact hok q hqe)) ?_;rintro e w7⟨lab7,st7,I7,hb7⟩;have st27:=(st25.trans (st6.mono (fun _ h=>h.elim))).trans st7;generalize go s' x y=r at heq I7 hb7;obtain⟨s'',oe⟩:=r;cases oe with
    |none =>
     exact JE ⟨hb7,⟨j+1,lab7,s'',by rw[Z0 (by omega) (by omega)];omega,by omega,st27,I7,heq⟩,by rw[Z0 (by omega) (by omega)];omega⟩
    |some er =>
     dsimp only at heq;rw[<-heq]at hR;obtain⟨rfl,hne⟩:=hb7;exact JR ⟨_,rfl,hR _ _ ⟨lab7,(st1.mono (fun _ h=>h.elim)).trans st27,I7,rfl,hne⟩⟩
   refine JE ⟨_,rfl,fun hbr=>?_,fun hbr=>?_⟩
   ·have h16:s2.2.1=16:=of_decide_eq_true hbr
    obtain⟨_,hy',hj16⟩:=hcase.resolve_right (fun h=>h.1 h16);rintro _ rfl;have st6:=stD w5 lab5;refine⟨L4,(B5.blk.drew).rowAll hL4.size,?_⟩;have P6:=P5.stp st6 (fun h=>h);generalize w5.drew=w6 at *
    rintro d7 w7⟨rfl,rfl⟩;rw[Z7t hj16];have st7:Stp NoS w6 lab5 (w6.alloc (.cells #[bV (G j)] 5)) (ext lab5 w6.heap.size 5):=Stp.alloc NoS w6 lab5 _ 5
    have Z7:RdB (w6.alloc (.cells #[bV (G j)] 5)) (Q ⟨w6.heap.size,0,O⟩) [G j]:=RdB.of_blk (Blk.new w6 5 #[bV (G j)]) (fun i hi=>by
     obtain rfl:i=0:=by simpa using hi
     rfl)
    have P7:=P6.stp st7 (fun h=>h);have B7:=(B5.stp st6 (fun h=>h)).stp st7 (fun h=>h);generalize w6.alloc (.cells #[bV (G j)] 5)=w7 at *
    generalize(Q ⟨w6.heap.size,0,O⟩:Option Addr)=oz at *
    generalize ext lab5 w6.heap.size 5=lab7 at *
    refine⟨B7.blk.rowAll hL4.size,?_⟩;refine(Z4P (k:=k) (k2:=1) P7.rd Z7 (by simp;omega)).mono ?_;rintro _ w8⟨o8,k8,rfl,F8⟩;have st8:Stp NoS w7 lab7 w8 (ext lab7 w7.heap.size 6):=Stp.of_nob F8.mod 6;have P8:CBy w8 (ext lab7 w7.heap.size 6) 6 o8 (path++[G j]):=⟨ZK F8,fun _ d hd=>ext_new (F8.new d.block ⟨d,hd,rfl⟩)⟩;rw[<-hy']at P8 ⊢;exact JE ⟨_,_,_,rfl,go_on w8 _ o8 k8 ((st6.trans st7).trans st8) P8 (by have:=F8.own.cap.1;rwa[<-hy']at this)⟩
   ·have h16:s2.2.1≠16:=of_decide_eq_false hbr
    obtain⟨_,p,hy',hpl,hpc,hp130⟩:=hcase.resolve_left (fun h=>h16 h.1);rintro _ rfl;have st6:=stD w5 lab5;have P6:=P5.stp st6 (fun h=>h);have N6:=N5.stp st6 (fun h=>h);have p6:=((hpc.stp st4 (fun h=>h)).stp st5 (fun h=>h)).stp st6 (fun h=>h);refine⟨L4,(B5.blk.drew).rowAll hL4.size,?_⟩;generalize w5.drew=w6 at *
    obtain⟨o1,l1,k1⟩:=s1;dsimp only at hpl hpc p6 N6;subst hpl;refine⟨_,_,_,by rw[Z3];exact N6.blk.rd1 rfl,?_⟩;refine(Z4P (k:=k) (k2:=k1) P6.rd p6.rd (by omega)).mono ?_;rintro _ w8⟨o8,k8,rfl,F8⟩;have st8:Stp NoS w6 lab5 w8 (ext lab5 w6.heap.size 6):=Stp.of_nob F8.mod 6;have P8:CBy w8 (ext lab5 w6.heap.size 6) 6 o8 (path++p):=⟨ZK F8,fun _ d hd=>ext_new (F8.new d.block ⟨d,hd,rfl⟩)⟩;rw[<-hy']at P8 ⊢;exact JE ⟨_,_,_,rfl,go_on w8 _ o8 k8 (st6.trans st8) P8 (by have:=F8.own.cap.1;rwa[<-hy']at this)⟩
 ·have hjl:j=(subsOf xs path).length:=by omega
  rw[hjl,List.drop_length]at heq;rw[<-heq]at hR;exact hR _ _ ⟨lab2,(st1.mono (fun _ h=>h.elim)).trans st2,I2,rfl⟩
end
theorem StR.kv{w:I}{o:Option Addr}{m:List (By×By)}(h:StR w o m):Z2J w (fun _=>0) 0 o m:=fun j hj=>by
 obtain⟨b,f,ok,kk,ov,kv,e1,e2,e3,e4,e5,e6⟩:=h j hj;exact⟨b,f,ok,kk,ov,kv,e1,e2,rfl,e3,⟨e4,fun _ _ _=>rfl⟩,e5,⟨e6,fun _ _ _=>rfl⟩⟩
def under(E:RS)(path:By):RS:=E.filter fun e=>path.isPrefixOf (nibbles e.1)
def subNd(E:RS)(path:By):Nd:=((under E path).map fun e=>((nibbles e.1).drop path.length,e.2)).foldl (fun n e=>Trie.put n e.1 e.2) .nil
def Z54(E:RS)(path:By):It:=Trie.Z2U (subNd E path)
def Z2n(x y:It):Bool :=
 if isE x||isE y then isE x == isE y else match x,y with
  | .s h,.s g=>decide (h=g)
  | .l _,.l _=>decide (enc x=enc y)
  |_,_=>F
section
variable(E:RS)(a b:By)(P:RS)
def valueV(path v:By):Option Int :=
 if path.length≠64 then Q 161 else if Z0C a b path= -1 then O else match under E path with
  |e::_=>if e.2=v then O else Q 163
  |[]=>Q 163
def ZD1(xs:List It)(path:By):Option Int :=
 if xs.length=2 then(match Z1C (xs.getD 0 (.s []))with
  |some (p,J4)=>valueV E a b (path++p) (itB (xs.getD 1 (.s [])))
  |_=>O)
 else if itB (xs.getD 16 (.s []))=[]then O else valueV E a b path (itB (xs.getD 16 (.s [])))
def ZA9(xs:List It)(rest:By):Bool :=
 if xs.length=2 then(match Z1C (xs.getD 0 (.s []))with
  |some (p,J4)=>decide (rest=p)
  |some (p,F)=>p.isPrefixOf rest
  |none=>F)
 else match rest with
  |c::_=> !isE (xs.getD c.toNat (.s []))
  |[]=>decide (itB (xs.getD 16 (.s []))≠[])
def Z7A(xs:List It):Nat:=if xs.length=2 then(match Z1C (xs.getD 0 (.s []))with
    |some (p,_)=>p.length
    |none=>0)else 0
def ZFE(U:List By)(h:By):List By:=if h∈U then U else U++[h]
def Z4t(U:List By):It->List By×Except Int (List It)
 | .l xs=>(U,.ok xs)
 | .s h=>match Z4F P h with
   |none=>(U,.error 160)
   |some c=>if sumOf c≠h then(U,.error 163)else(ZFE U h,if Z0T c≠0 then .error 161 else match Z5z c with
    | .ok (.l xs)=>.ok xs
    |_=>.error 161)
def Z7O(path:By):It:=if path=[]then rootIt (Trie.Z2K (subNd E []))else Z54 E path
def visV:Nat->List By->It->By->List By×Option Int
 |0,U,_,_=>(U,Q 161)
 |f+1,U,x,path =>
  if path.length>64 then(U,Q 161)else if Z0C a b path= -1 then(U,O)
  else if Z0C a b path=1 then(U,if Z2n x (Z7O E path)then O else Q 163)
  else if isE x then(U,if under E path=[]then O else Q 163)
  else match Z4t P U x with
   |(U',.error e)=>(U',Q e)
   |(U',.ok xs)=>if path.length+Z7A xs>64 then(U',Q 161)else match ZD1 E a b xs path with
    |some e=>(U',Q e)
    |none=>if(under E path).all (fun e=>ZA9 xs ((nibbles e.1).drop path.length))then
      eachW (fun U x q=>if isE x then(U,O)else visV f U x q) U' xs path
     else(U',Q 163)
structure HSt where
 used:List Bool
 met:Nat
 bad:Int
def HSt.fault(s:HSt)(e:Int):HSt:=if s.bad=0 then{ s with bad:=e }else s
def hVal(s:HSt)(v path:By):HSt :=
 if path.length≠64 then s.fault 161 else if Z0C a b path= -1 then s else match E.find? (fun e=>decide (nibbles e.1=path))with
  |some e=>let s1:=if e.2≠v then s.fault 163 else s;{ s1 with met:=s1.met+1 }
  |none=>s.fault 163
def Z9v(go:HSt->It->By->HSt)(s:HSt)(xs:List It)(path:By):HSt :=
 if xs.length=2 then(match Z1C (xs.getD 0 (.s []))with
  |some (p,J4)=>hVal E a b s (itB (xs.getD 1 (.s []))) (path++p)
  |some (p,F)=>go s (xs.getD 1 (.s [])) (path++p)
  |none=>s)
 else(J2 16).foldl (fun s j=>go s (xs.getD j (.s [])) (path++[G j])) (if itB (xs.getD 16 (.s []))=[]then s else hVal E a b s (itB (xs.getD 16 (.s []))) path)
def hRef:Nat->HSt->It->By->HSt
 |0,s,_,_=>s.fault 161
 |f+1,s,x,path =>
  if s.bad≠0 then s else if path.length>64 then s.fault 161 else if Z0C a b path= -1 then s
  else if Z0C a b path=1 then(let s1:=if enc x≠enc (Z54 E path)then s.fault 163 else s;{ s1 with met:=s1.met+(under E path).length })
  else match x with
   | .l xs=>Z9v E a b (hRef f) s xs path
   | .s h=>if h=[]then(if(under E path).length>0 then s.fault 163 else s)
     else match P.findIdx? (fun x=>decide (x.1=h))with
      |none=>s.fault 160
      |some i=>let s1:={ s with used:=s.used.set i J4 }
       let c:=(P.getD i ([],[])).2
       if sumOf c≠h then s1.fault 163 else if Z0T c≠0 then s1.fault 161 else match Z5z c with
        | .ok (.l xs)=>Z9v E a b (hRef f) s1 xs path
        |_=>s1.fault 161
end
def ZIr(E:RS)(a b:By)(P:RS)(root:By):Int:=match visV E a b P 66 [] (rootIt root) []with
 |(U,O)=>if U.length<P.length then 162 else 0
 |(_,Q e)=>e
def ZKw(E:RS)(a b:By)(P:RS)(root:By):Bool :=
 if Z0C a b []=1 then decide (Trie.Z2K (subNd E [])=root/\P.length=0)
 else let s:=hRef E a b P 66 ⟨J8 P.length F,0,0⟩ (rootIt root) []
  s.used.all id&&decide (s.bad=0/\s.met=E.length)
structure EOk (E:RS) (a b:By):Prop where
 keys:∀e∈E,e.1.length=32
 inr:∀e∈E,Z0C a b (nibbles e.1)=1
 srt:E.Pairwise fun x y=>ltB x.1 y.1
 vals:∀e∈E,e.2≠[]/\e.2.length<=1024
theorem EOk.dist{E:RS}{a b:By}(h:EOk E a b):(E.map Prod.fst).Nodup :=
 List.pairwise_map.2 (h.srt.imp (fun hlt e=>by rw[e]at hlt;exact Z29 _ hlt))
section
variable{E:RS}{a b:By}{P:RS}
theorem Z5i:under E []=E:=by
 unfold under;exact List.filter_eq_self.2 (fun e _=>by simp)
theorem Z1P{e:By×By}{p:By}:e∈under E p↔e∈E/\p <+: nibbles e.1:=by
 unfold under;rw[List.mem_filter,Y]
theorem Z5h(p q:By):under E (p++q)=(under E p).filter fun e=>q.isPrefixOf ((nibbles e.1).drop p.length):=by
 unfold under;rw[List.filter_filter];refine JC (fun e _=>?_);rw[J1,JQ,Y,Y,Y];constructor
 ·rintro⟨r,hr⟩
  rw[<-hr,JN];exact⟨⟨r,by rw[JJ]⟩,⟨q++r,rfl⟩⟩
 ·rintro⟨⟨r,hr⟩,⟨t,ht⟩⟩
  rw[<-ht,JJ]at hr;exact⟨r,by rw[JN,hr,ht]⟩
theorem ZIp(p q:By):(under E (p++q)).length<=(under E p).length:=by
 rw[Z5h];exact List.length_filter_le _ _
theorem Z9H(h:EOk E a b){e:By×By}(he:e∈E):(nibbles e.1).length=64:=by rw[ZQ,h.keys e he]
theorem Z9f(h:EOk E a b){p:By}(hl:p.length<=64)(ho:Z0C a b p= -1):under E p=[]:=by
 refine List.eq_nil_iff_forall_not_mem.2 (fun e he=>?_);obtain⟨h1,r,hr⟩:=Z1P.1 he;have hn:=Z9H h h1;have hr':Nib r:=fun x hx=>Zs e.1 x (by rw[<-hr];exact List.mem_append_right _ hx);have h2:=ZIK (a:=a) (b:=b) (p:=p) (q:=r) (by rw[hr];omega) hr' (by rw[ho];decide);rw[hr,h.inr e h1,ho]at h2;exact absurd h2 (by decide)
theorem Z3a(p:By):Z0C a b p= -1\/Z0C a b p=1\/Z0C a b p=0:=by
 unfold Z0C;split
 ·exact JR rfl
 ·split
  ·exact JE (JR rfl)
  ·exact JE (JE rfl)
theorem ZCO{p:By}(hl:p.length=64):Z0C a b p≠0:=by
 have e1:Z57 p=p:=by unfold Z57;rw[hl];simp
 have e2:hi64 p=p:=by unfold hi64;rw[hl];simp
 unfold Z0C;rw[e1,e2];split
 ·decide
 ·rename_i h
  rw[if_pos (by omega)];decide
theorem ZAi(h:EOk E a b){p:By}(hl:p.length=64):under E p=E.filter fun e=>decide (nibbles e.1=p):=by
 unfold under;refine JC (fun e he=>?_);rw[J1,Y,decide_eq_true_eq];constructor
 ·rintro⟨r,hr⟩
  have:=Z9H h he;have h1:=congrArg JX hr;rw[J9]at h1;rw[<-hr,J6 (show r.length=0 by omega),JI]
 ·intro hr;exact⟨[],by rw[JI,hr]⟩
theorem ZHe(h:EOk E a b){p:By}(hl:p.length=64):(under E p).length<=1:=by
 have hs:(under E p).Sublist E:=List.filter_sublist;have hn:((under E p).map Prod.fst).Nodup:=h.dist.sublist (hs.map Prod.fst)
 have hm:∀e∈under E p,nibbles e.1=p:=fun e he=>by
  rw[ZAi h hl]at he;exact of_decide_eq_true (List.mem_filter.1 he).2
 match hu:under E p with
 |[]=>simp
 |[x]=>simp
 |x::y::r =>
  rw[hu]at hn hm;have h1:=hm x (by simp);have h2:=hm y (by simp);have:x.1=y.1:=Z6U (h1.trans h2.symm);simp[this]at hn
theorem ZFL(h:EOk E a b){p:By}(hl:p.length=64):E.find? (fun e=>decide (nibbles e.1=p))=(under E p).head?:=by
 rw[ZAi h hl,List.head?_filter]
theorem ZAj{p:By}{e:By×By}(he:e∈under E p):nibbles e.1=p++(nibbles e.1).drop p.length:=by
 obtain⟨_,r,hr⟩:=Z1P.1 he;rw[<-hr,JJ]
theorem Z67{α:Type}(f:α->Nat)(j:Nat):∀(l:List α),(l.filter fun e=>decide (f e<j+1)).length=(l.filter fun e=>decide (f e<j)).length+(l.filter fun e=>decide (f e=j)).length
 |[]=>rfl
 |e::r=>by
  have ih:=Z67 f j r;simp only[List.filter_cons];by_cases h1:f e<j
  ·simp only[decide_eq_true h1,decide_eq_true (show f e<j+1 by omega),decide_eq_false (show ¬f e=j by omega),if_true,J,if_false,J5];omega
  ·by_cases h2:f e=j
   ·simp only[decide_eq_false h1,decide_eq_true (show f e<j+1 by omega),decide_eq_true h2,if_true,J,if_false,J5];omega
   ·simp only[decide_eq_false h1,decide_eq_false (show ¬f e<j+1 by omega),decide_eq_false h2,J,if_false];omega
def sumN(E:RS)(p:By)(j:Nat):Nat:=((under E p).filter fun e=>decide (((nibbles e.1).getD p.length 0).toNat<j)).length
theorem ZCm(p:By):sumN E p 0=0:=by unfold sumN;simp
theorem ZHU(h:EOk E a b){p:By}(hl:p.length<64){j:Nat}(hj:j<16):sumN E p (j+1)=sumN E p j+(under E (p++[G j])).length:=by
 unfold sumN;rw[Z67,Z5h];congr 2;refine JC (fun e he=>?_);have h64:=Z9H h (Z1P.1 he).1;rw[M (show p.length<(nibbles e.1).length by omega),JA,J0 (show p.length<(nibbles e.1).length by omega)];simp only[Option.getD_some];generalize(nibbles e.1)[p.length]=c;rw[J1,decide_eq_true_eq];simp only[JS,JW,beq_iff_eq];constructor
 ·intro hc;subst hc;exact JO
 ·intro hc;rw[<-hc,J3];omega
theorem ZIh(h:EOk E a b){p:By}(hl:p.length<64):sumN E p 16=(under E p).length:=by
 unfold sumN;rw[List.filter_eq_self.2];intro e he;have h64:=Z9H h (Z1P.1 he).1;have hn:=Zs e.1;rw[decide_eq_true_eq,JA,J0 (show p.length<(nibbles e.1).length by omega)];exact hn _ (JF _)
def ZBb(P:RS)(h:By):Option Nat:=P.findIdx? fun x=>decide (x.1=h)
theorem ZC7:∀{P:RS} {h:By},Z4F P h=(ZBb P h).map fun i=>(P.getD i ([],[])).2
 |[],_=>rfl
 |x::r,h=>by
  unfold Z4F ZBb;rw[JM];by_cases hx:x.1=h
  ·rw[if_pos hx,decide_eq_true hx];rfl
  ·rw[if_neg hx,decide_eq_false hx,ZC7]
   unfold ZBb;cases r.findIdx? fun x=>decide (x.1=h)<;>rfl
theorem Z6t:∀{P:RS} {h:By} {i:Nat},ZBb P h=Q i->∃hi:i<P.length,P[i].1=h
 |[],_,_,e=>by cases e
 |x::r,h,i,e=>by
  unfold ZBb at e;rw[JM]at e;by_cases hx:x.1=h
  ·rw[decide_eq_true hx]at e;cases e;exact⟨by simp,hx⟩
  ·rw[decide_eq_false hx]at e
   obtain⟨k,hk,rfl⟩:=Option.map_eq_some_iff.1 e;obtain⟨h1,h2⟩:=Z6t (P:=r) hk;exact⟨by simp;omega,by simpa using h2⟩
structure Rel (P:RS) (U:List By) (used:List Bool):Prop where
 len:used.length=P.length
 at_:∀i,i<P.length->used[i]?=Q (decide (∃h∈U,ZBb P h=Q i))
 nodup:U.Nodup
 from_:∀h∈U,∃i,ZBb P h=Q i
theorem Rel.nil:Rel P [] (J8 P.length F):=⟨List.length_replicate,fun i hi=>by rw[List.getElem?_replicate,if_pos hi];simp,JU,fun h hh=>by cases hh⟩
theorem Rel.add{U:List By}{used:List Bool}(R:Rel P U used){h:By}{i:Nat}(hi:ZBb P h=Q i):Rel P (ZFE U h) (used.set i J4):=by
 obtain⟨hil,_⟩:=Z6t hi
 have hm:∀g,g∈ZFE U h↔g∈U\/g=h:=fun g=>by
  unfold ZFE;split
  ·rename_i hU
   exact⟨JR,fun hg=>hg.elim id (fun e=>e ▸ hU)⟩
  ·simp
 refine⟨by rw[List.length_set];exact R.len,fun k hk=>?_,?_,fun g hg=>?_⟩
 ·rw[List.getElem?_set]
  by_cases hik:i=k
  ·subst hik
   rw[if_pos rfl,if_pos (by rw[R.len];exact hk),decide_eq_true ⟨h,(hm h).2 (JE rfl),hi⟩]
  ·rw[if_neg hik,R.at_ k hk]
   congr 1;refine decide_eq_decide.2 ⟨fun⟨g,hg,e⟩=>⟨g,(hm g).2 (JR hg),e⟩,fun⟨g,hg,e⟩=>?_⟩;rcases (hm g).1 hg with hg|rfl
   ·exact⟨g,hg,e⟩
   ·rw[hi]at e;cases e;exact(hik rfl).elim
 ·unfold ZFE
  split
  ·exact R.nodup
  ·rename_i hU
   rw[List.nodup_append]
   exact⟨R.nodup,by simp,fun x hx y hy e=>by
    obtain rfl:=List.mem_singleton.1 hy;subst e;exact hU hx⟩
 ·rcases (hm g).1 hg with hg|rfl
  ·exact R.from_ g hg
  ·exact⟨i,hi⟩
theorem ZAL:∀{U:List By},U.Nodup->(∀h∈U,∃i,ZBb P h=Q i)->(U.filterMap (ZBb P)).Nodup/\(U.filterMap (ZBb P)).length=U.length
 |[],_,_=>⟨JU,rfl⟩
 |h::r,hn,hf=>by
  rw[List.nodup_cons]at hn;obtain⟨i,hi⟩:=hf h (by simp);obtain⟨h1,h2⟩:=ZAL (U:=r) hn.2 (fun g hg=>hf g (by simp[hg]));rw[List.filterMap_cons_some hi];refine⟨List.nodup_cons.2 ⟨fun hm=>?_,h1⟩,by simp[h2]⟩;obtain⟨g,hg,e⟩:=List.mem_filterMap.1 hm;obtain⟨q1,q2⟩:=Z6t hi;obtain⟨q3,q4⟩:=Z6t e;exact hn.1 (by rw[<-q2,q4];exact hg)
theorem Rel.all{U:List By}{used:List Bool}(R:Rel P U used):used.all id=J4↔¬U.length<P.length:=by
 obtain⟨h1,h2⟩:=ZAL R.nodup R.from_
 have hsub:∀i∈U.filterMap (ZBb P),i∈J2 P.length:=fun i hi=>by
  obtain⟨g,_,e⟩:=List.mem_filterMap.1 hi;exact List.mem_range.2 (Z6t e).1
 have hall:used.all id=J4↔∀i,i<P.length->i∈U.filterMap (ZBb P):=by
  rw[H];constructor
  ·intro h i hi
   have:=R.at_ i hi;have ht:decide (∃h∈U,ZBb P h=Q i)=J4:=h _ (List.mem_of_getElem? this);obtain⟨g,hg,e⟩:=of_decide_eq_true ht;exact List.mem_filterMap.2 ⟨g,hg,e⟩
  ·intro h x hx
   obtain⟨i,hi,rfl⟩:=List.getElem_of_mem hx;have hi':i<P.length:=by rw[<-R.len];exact hi
   have:=R.at_ i hi';rw[J0 hi]at this;obtain⟨g,hg,e⟩:=List.mem_filterMap.1 (h i hi');rw[Option.some.inj this];exact decide_eq_true ⟨g,hg,e⟩
 rw[hall];constructor
 ·intro h hlt
  have:=Z9L (s:=J2 P.length) (l:=U.filterMap (ZBb P)) List.nodup_range (fun i hi=>h i (List.mem_range.1 hi));rw[JP]at this;omega
 ·intro h i hi
  refine C (fun hn=>?_)
  have:=Z9L (s:=i::U.filterMap (ZBb P)) (l:=J2 P.length) (List.nodup_cons.2 ⟨hn,h1⟩) (fun k hk=>by
   rcases List.mem_cons.1 hk with rfl|hk
   ·exact List.mem_range.2 hi
   ·exact hsub k hk)
  rw[JP,J5]at this;omega
end
def ZI0(y:It):Prop:=y=.s []\/(∃h,y=.s h/\h.length=32)\/∃ys,y=.l ys
theorem Z2p.refIt{x:It}(h:Z2p x):ZI0 x:=by
 rcases h with h|h|⟨ys,g,h,_⟩
 ·exact JR h
 ·exact JE (JR h)
 ·exact JE (JE ⟨ys,h⟩)
theorem Z4o{h:By}(hh:h.length=32):enc (.s h)=160::h:=by
 have e:Trie.own h=F:=by
  match h,hh with
  |_::_::_,_=>rfl
 simp only[enc];rw[e,hh];rfl
theorem Z8W(ys:List It):∃c r,enc (.l ys)=c::r/\192<=c.toNat:=by
 simp only[enc];unfold Trie.Z3P;by_cases hs:(Z1r ys).length<=55
 ·rw[if_pos hs]
  exact⟨_,_,rfl,by rw[J3];omega⟩
 ·rw[if_neg hs]
  have:=Z4N (Z1r ys).length;exact⟨_,_,rfl,by rw[J3];omega⟩
theorem Z6m:enc (.s [])=[128]:=rfl
theorem ZIc{x y:It}(hx:ZI0 x)(hy:ZI0 y):Z2n x y=J4↔enc x=enc y:=by
 have l1:(128:UInt8).toNat=128:=rfl;have l2:(160:UInt8).toNat=160:=rfl;rcases hx with rfl|⟨h,rfl,hh⟩|⟨xs,rfl⟩<;>rcases hy with rfl|⟨g,rfl,hg⟩|⟨ys,rfl⟩
 ·simp[Z2n,isE]
 ·rw[Z6m,Z4o hg]
  have hE:isE (.s g)=F:=by cases g with|nil=>cases hg|cons c r=>rfl
  simp only[Z2n,hE];exact⟨fun h=>(by cases h),fun h=>(by cases h)⟩
 ·obtain⟨c,r,e,hc⟩:=Z8W ys
  rw[Z6m,e];refine⟨fun h=>(by cases h),fun h=>?_⟩;have:=(JD h).1;rw[<-this]at hc;omega
 ·have hE:isE (.s h)=F:=by cases h with|nil=>cases hh|cons c r=>rfl
  rw[Z6m,Z4o hh];simp only[Z2n,hE];exact⟨fun h=>(by cases h),fun h=>(by cases h)⟩
 ·have hE:isE (.s h)=F:=by cases h with|nil=>cases hh|cons c r=>rfl
  have hE':isE (.s g)=F:=by cases g with|nil=>cases hg|cons c r=>rfl
  rw[Z4o hh,Z4o hg];simp only[Z2n,hE,hE',J7,J,if_false,decide_eq_true_eq,JY,true_and]
 ·have hE:isE (.s h)=F:=by cases h with|nil=>cases hh|cons c r=>rfl
  obtain⟨c,r,e,hc⟩:=Z8W ys;rw[Z4o hh,e];have hE':isE (.l ys)=F:=rfl;simp only[Z2n,hE,hE',J7,J,if_false];refine⟨fun h=>(by cases h),fun h=>?_⟩;have:=(JD h).1;rw[<-this]at hc;omega
 ·obtain⟨c,r,e,hc⟩:=Z8W xs
  rw[Z6m,e];refine⟨fun h=>(by cases h),fun h=>?_⟩;have:=(JD h).1;rw[this]at hc;omega
 ·have hE:isE (.s g)=F:=by cases g with|nil=>cases hg|cons c r=>rfl
  obtain⟨c,r,e,hc⟩:=Z8W xs;rw[Z4o hg,e];have hE':isE (.l xs)=F:=rfl;simp only[Z2n,hE,hE',J7,J,if_false];refine⟨fun h=>(by cases h),fun h=>?_⟩;have:=(JD h).1;rw[this]at hc;omega
 ·simp only[Z2n,isE,J7,J,if_false,decide_eq_true_eq]
theorem ZHA(E:RS)(p:By):ZI0 (Z54 E p):=by
 unfold Z54 Trie.Z2U Trie.ZY;split
 ·exact JE (JR ⟨_,rfl,ZO _⟩)
 ·generalize subNd E p=n
  cases n with
  |nil=>exact JR rfl
  |leaf q v=>exact JE (JE ⟨_,rfl⟩)
  |row q c=>exact JE (JE ⟨_,rfl⟩)
  |branch cs v=>exact JE (JE ⟨_,rfl⟩)
theorem ZHH{r q:By}(hr:r.length=32)(hq:q.length=32):Z2n (rootIt r) (rootIt q)=decide (q=r):=by
 have hE:∀{g:By},g.length=32->isE (.s g)=F:=fun{g} hg=>by cases g with|nil=>cases hg|cons c r=>rfl
 unfold rootIt;by_cases h1:r=emptyH
 ·by_cases h2:q=emptyH
  ·rw[if_pos h1,if_pos h2,h1,h2];simp[Z2n,isE]
  ·rw[if_pos h1,if_neg h2]
   have:q≠r:=fun e=>h2 (e.trans h1);simp only[Z2n,hE hq];simp[isE,this]
 ·by_cases h2:q=emptyH
  ·rw[if_neg h1,if_pos h2]
   have:q≠r:=fun e=>h1 (e.symm.trans h2);simp only[Z2n,hE hr];simp[isE,this]
  ·rw[if_neg h1,if_neg h2]
   simp only[Z2n,hE hr,hE hq,J7,J,if_false];exact decide_eq_decide.2 ⟨fun h=>h.symm,fun h=>h.symm⟩
section
variable{E:RS}{a b:By}{P:RS}
theorem Z1w(s:HSt){e:Int}(he:e≠0):(s.fault e).bad≠0:=by
 unfold HSt.fault;split
 ·exact he
 ·assumption
theorem ZEO{s:HSt}(f:Nat)(x:It)(p:By)(h:s.bad≠0):hRef E a b P f s x p=s:=by
 cases f with
 |zero=>simp only[hRef,HSt.fault];rw[if_neg h]
 |succ f=>simp only[hRef];rw[if_pos h]
structure Z59 (P:RS) (s:HSt) (r:List By×Option Int) (t:HSt) (n:Nat):Prop where
 le:t.bad=0->t.met<=s.met+n
 iff_:r.2=O↔t.bad=0/\t.met=s.met+n
 rel:r.2=O->Rel P r.1 t.used
 some_:∃V,Rel P V t.used
theorem Z59.no{V W:List By}{s t:HSt}{e:Int}{n:Nat}(ht:t.bad≠0)(hr:Rel P W t.used):Z59 P s (V,Q e) t n :=
 ⟨fun h=>(ht h).elim,⟨fun h=>(by cases h),fun h=>(ht h.1).elim⟩,fun h=>(by cases h),W,hr⟩
theorem Z0z(s:HSt)(e:Int):(s.fault e).used=s.used:=by unfold HSt.fault;split<;>rfl
theorem ZHj(h:EOk E a b){s:HSt}(hs:s.bad=0)(v p:By):(valueV E a b p v=O↔(hVal E a b s v p).bad=0)/\((hVal E a b s v p).bad=0->(hVal E a b s v p).met=s.met+(under E p).length/\p.length=64)/\(hVal E a b s v p).used=s.used:=by
 have hf:∀{e:Int},e≠0->(s.fault e).bad≠0:=fun he=>Z1w s he;have hu:∀e,(s.fault e).used=s.used:=fun e=>by unfold HSt.fault;rw[if_pos hs]
 unfold valueV hVal;by_cases hl:p.length≠64
 ·rw[if_pos hl,if_pos hl]
  exact⟨⟨fun h=>(by cases h),fun h=>(hf (by decide) h).elim⟩,fun h=>(hf (by decide) h).elim,hu _⟩
 ·rw[if_neg hl,if_neg hl]
  have hl:=Decidable.not_not.1 hl;by_cases ho:Z0C a b p= -1
  ·rw[if_pos ho,if_pos ho]
   exact⟨⟨fun _=>hs,fun _=>rfl⟩,fun _=>⟨by rw[Z9f h (by omega) ho];rfl,hl⟩,rfl⟩
  ·rw[if_neg ho,if_neg ho,ZFL h hl]
   have h1:=ZHe h hl;cases hu':under E p with
   |nil=>exact⟨⟨fun h=>(by cases h),fun h=>(hf (by decide) h).elim⟩,fun h=>(hf (by decide) h).elim,hu _⟩
   |cons e r =>
    rw[hu']at h1;simp only[List.head?_cons];by_cases hv:e.2=v
    ·rw[if_pos hv,if_neg (fun h=>h hv)]
     refine⟨⟨fun _=>hs,fun _=>rfl⟩,fun _=>⟨?_,hl⟩,rfl⟩;simp only[J5]at h1 ⊢;omega
    ·rw[if_neg hv,if_pos hv]
     exact⟨⟨fun h=>(by cases h),fun h=>(hf (by decide) h).elim⟩,fun h=>(hf (by decide) h).elim,hu _⟩
end
section
variable{l:RS}{a b:By}{d2 d3 d4 d5 d6 mS m:Nat}{w w':I}{lab lab':Nat->Nat}{out:RS}
theorem ZBA{bb:Bool}{s1 s2 s3:Option Addr×Nat×Nat}{K:Addr->I->Prop}(h:∀w' lab' N,Stp NoS w lab w' lab'->CB w' lab' 5 N 86 #[JL bb,Z s1.1 s1.2.1 s1.2.2,Z s2.1 s2.2.1 s2.2.2,Z s3.1 s3.2.1 s3.2.2]->K ⟨N,0,O⟩ w') :
  ∀(d33:Addr)(w34:I),ZC w 86 #[(JL F),(Z O 0 0),(Z O 0 0),(Z O 0 0)] d33 w34 ->
   Z1 w34 d33 (JL bb)/\∀w35:I,ZA w34 d33 (JL bb) w35->Z1 w35 (JB d33 1) (Z s1.1 s1.2.1 s1.2.2)/\∀w36:I,ZA w35 (JB d33 1) (Z s1.1 s1.2.1 s1.2.2) w36 ->
   Z1 w36 (JB d33 2) (Z s2.1 s2.2.1 s2.2.2)/\∀w37:I,ZA w36 (JB d33 2) (Z s2.1 s2.2.1 s2.2.2) w37->Z1 w37 (JB d33 3) (Z s3.1 s3.2.1 s3.2.2)/\∀w38:I,ZA w37 (JB d33 3) (Z s3.1 s3.2.1 s3.2.2) w38->K d33 w38:=by
 rintro d w1⟨rfl,rfl⟩;have M1:=Mod.alloc (S:=NoB) w (.cells #[JL F,Z O 0 0,Z O 0 0,Z O 0 0] 86)
 exact set4 (v1:=JL bb) (v2:=Z s1.1 s1.2.1 s1.2.2) (v3:=Z s2.1 s2.2.1 s2.2.2) (v4:=Z s3.1 s3.2.1 s3.2.2) (Blk.new w 86 #[JL F,Z O 0 0,Z O 0 0,Z O 0 0]) rfl rfl rfl rfl (fun w2 B2 Q2 =>
  h w2 (ext lab w.heap.size 5) w.heap.size (Stp.of_nob (ZI M1 Q2 (X _)) 5) ⟨B2,ext_new (X _)⟩)
end
section
variable{w:I}{lab:Nat->Nat}
theorem ZGr{t:TypeId}{c:Nat}{u0 v0 u v:Value}{K:Addr->I->Prop}(hu:u.oneCell'=J4)(hv:v.oneCell'=J4)(h:∀w',Stp NoS w lab w' (ext lab w.heap.size c)->CB w' (ext lab w.heap.size c) c w.heap.size t #[u,v]->K ⟨w.heap.size,0,O⟩ w') :
  ∀(d:Addr)(w1:I),ZC w t #[u0,v0] d w1->Z1 w1 d u/\∀w2:I,ZA w1 d u w2->Z1 w2 (JB d 1) v/\∀w3:I,ZA w2 (JB d 1) v w3->K d w3:=by
 rintro d w1⟨rfl,rfl⟩;have M1:=Mod.alloc (S:=NoB) w (.cells #[u0,v0] t);have B1:=Blk.new w t #[u0,v0];refine⟨B1.canSet (by simp) hu,?_⟩;rintro _ rfl;have B2:=B1.set 0 u;have M2:=ZI M1 (Mod.setCell _ ⟨w.heap.size,0,O⟩ u) (X _);rw[Z3,JH];refine⟨B2.canSet (by simp) hv,?_⟩;rintro _ rfl;exact h _ (Stp.of_nob (ZI M2 (Mod.setCell _ ⟨w.heap.size,1,O⟩ v) (X _)) c) ⟨B2.set 1 v,ext_new (X _)⟩
theorem ZK1{D c:Nat}{t:TypeId}{v0 v:Value}{P:I->Prop}(B:CB w lab c D t #[v0])(hv:v.oneCell'=J4)(h:∀w',Stp (·=c) w lab w' lab->CB w' lab c D t #[v]->P w') :
  Z1 w ⟨D,0,O⟩ v/\∀w1:I,ZA w ⟨D,0,O⟩ v w1->P w1:=by
 refine⟨B.blk.canSet (by simp) hv,?_⟩;rintro _ rfl;exact h _ (Stp.setCell B.clr) (B.set 0 v)
end
section
variable{w:I}{lab:Nat->Nat}{c:Nat}
end
section
variable{P:List Value}{u v:Value}
end
section
variable{l:RS}{a b:By}{D:Nat}{w w':I}{lab lab':Nat->Nat}{s:RS}{bad:Int}
end
theorem ZAH{σ:Type}{go:σ->It->By->σ×Option Int}:∀{l:List (It×By)} {s:σ} {j:Nat} (hj:j<l.length),foldK go s (l.take (j+1))=match foldK go s (l.take j)with
  |(s',O)=>go s' l[j].1 l[j].2
  |(s',Q e)=>(s',Q e)
 |[],_,_,hj=>absurd hj (by simp)
 |y::r,s,0,_=>by
  simp only[JK,JV,foldK,List.getElem_cons_zero];generalize go s y.1 y.2=q;obtain⟨s',o⟩:=q;cases o<;>rfl
 |y::r,s,j+1,hj=>by
  simp only[JK,foldK,List.getElem_cons_succ];generalize go s y.1 y.2=q;obtain⟨s',o⟩:=q;cases o with
  |none=>exact ZAH (by simpa using hj)
  |some e=>rfl
theorem ZC9{σ:Type}{go:σ->It->By->σ×Option Int}{P:Int->Prop}(hg:∀s y q e,(go s y q).2=Q e->P e):∀{l:List (It×By)} {s:σ} {e:Int},(foldK go s l).2=Q e->P e
 |[],_,_,h=>by cases h
 |y::r,s,e,h=>by
  simp only[foldK]at h;have h1:=hg s y.1 y.2;generalize go s y.1 y.2=q at h h1;obtain⟨s',o⟩:=q;cases o with
  |none=>exact ZC9 hg h
  |some e'=>cases h;exact h1 _ rfl
section
variable{E:RS}{a b:By}{P:RS}
theorem ZGV(s:HSt)(v p:By):(hVal E a b s v p).used=s.used:=by
 unfold hVal;split
 ·exact Z0z _ _
 ·split
  ·rfl
  ·split
   ·dsimp only
    split
    ·exact Z0z _ _
    ·rfl
   ·exact Z0z _ _
theorem ZEK{f:Nat}{xs:List It}{p:By}:∀(l:List Nat) {s:HSt},s.bad≠0->l.foldl (fun s j=>hRef E a b P f s (xs.getD j (.s [])) (p++[G j])) s=s
 |[],_,_=>rfl
 |j::r,s,h=>by
  rw[JT,ZEO f _ _ h];exact ZEK r h
theorem ZCA:∀(l:List (By×By)) (n:Nd),Z0x n->(∀e∈l,Nib e.1/\e.2≠[])->(n≠.nil\/l≠[])->l.foldl (fun n e=>Trie.put n e.1 e.2) n≠.nil
 |[],n,_,_,h=>h.resolve_right (fun h=>h rfl)
 |e::r,n,hc,hl,_=>by
  rw[JT];obtain⟨h1,h2⟩:=hl e (by simp);obtain⟨q1,q2,_⟩:=Z8C hc h1 h2;exact ZCA r _ q1 (fun x hx=>hl x (by simp[hx])) (JR q2)
theorem ZDo(h:EOk E a b)(p:By):isE (Z54 E p)=J4↔under E p=[]:=by
 have h1:subNd E p=.nil↔under E p=[]:=by
  constructor
  ·intro hn
   refine C (fun hu=>?_);refine ZCA ((under E p).map fun(e:By×By)=>((nibbles e.1).drop p.length,e.2)) .nil trivial (fun x hx=>?_) (JE (by simpa using hu)) hn;obtain⟨e,he,rfl⟩:=List.mem_map.1 hx;exact⟨fun c hc=>Zs e.1 c (List.mem_of_mem_drop hc),(h.vals e (Z1P.1 he).1).1⟩
  ·intro hu;unfold subNd;rw[hu];rfl
 rw[<-h1];unfold Z54 Trie.Z2U Trie.ZY;split
 ·rename_i hb
  have hl:=ZO (enc (Trie.itemOf (subNd E p)));refine⟨fun he=>?_,fun hn=>?_⟩
  ·generalize sumOf (enc (Trie.itemOf (subNd E p)))=g at *
   cases g with
   |nil=>cases hl
   |cons c r=>cases he
  ·rw[hn]at hb;exact absurd hb (by decide)
 ·generalize subNd E p=n
  cases n with
  |nil=>exact⟨fun _=>rfl,fun _=>rfl⟩
  |leaf q v=>exact⟨fun h=>(by cases h),fun h=>(by cases h)⟩
  |row q c=>exact⟨fun h=>(by cases h),fun h=>(by cases h)⟩
  |branch cs v=>exact⟨fun h=>(by cases h),fun h=>(by cases h)⟩
theorem Z9D{x:It}:isE x=J4↔x=.s []:=by
 cases x with
 |l ys=>exact⟨fun h=>(by cases h),fun h=>(by cases h)⟩
 |s c=>cases c with
  |nil=>exact⟨fun _=>rfl,fun _=>rfl⟩
  |cons y r=>exact⟨fun h=>(by cases h),fun h=>(by cases h)⟩
theorem ZJM(h:EOk E a b){f:Nat}{U:List By}{p:By}(hl:p.length<=64)(hp:p≠[]):((visV E a b P (f+1) U (.s []) p).2=O↔under E p=[])/\(visV E a b P (f+1) U (.s []) p).1=U:=by
 simp only[visV];rw[if_neg (by omega)];rcases Z3a (a:=a) (b:=b) p with ho|ho|ho
 ·rw[if_pos ho]
  exact⟨⟨fun _=>Z9f h hl ho,fun _=>rfl⟩,rfl⟩
 ·rw[if_neg (by rw[ho];decide),if_pos ho]
  refine⟨?_,rfl⟩
  have hs:Z2n (.s []) (Z7O E p)=isE (Z54 E p):=by
   unfold Z7O;rw[if_neg hp];simp[Z2n,isE]
  rw[hs,<-ZDo h p];cases isE (Z54 E p)<;>simp
 ·rw[if_neg (by rw[ho];decide),if_neg (by rw[ho];decide),if_pos (show isE (.s [])=J4 from rfl)]
  refine⟨?_,rfl⟩;by_cases hu:under E p=[]
  ·rw[if_pos hu];exact⟨fun _=>hu,fun _=>rfl⟩
  ·rw[if_neg hu];exact⟨fun h=>(by cases h),fun h=>(hu h).elim⟩
theorem ZJU(p q:By):((under E p).all fun e=>q.isPrefixOf ((nibbles e.1).drop p.length))=J4↔(under E (p++q)).length=(under E p).length:=by
 rw[Z5h,List.length_filter_eq_length_iff,H]
theorem ZGU{f:Nat}{s:HSt}{x:It}{p:By}(hs:s.bad=0)(hl:p.length>64):(hRef E a b P f s x p).bad≠0/\(hRef E a b P f s x p).used=s.used:=by
 cases f with
 |zero=>exact⟨Z1w s (by decide),Z0z s _⟩
 |succ f =>
  simp only[hRef];rw[if_neg (by rw[hs];decide),if_pos hl];exact⟨Z1w s (by decide),Z0z s _⟩
def nxt{σ:Type}(go:σ->It->By->σ×Option Int)(r:σ×Option Int)(x:It)(q:By):σ×Option Int:=match r with
 |(s,O)=>go s x q
 |(s,Q e)=>(s,Q e)
theorem ZEh{σ:Type}{go:σ->It->By->σ×Option Int}{r:σ×Option Int}{x:It}{q:By}(h:(nxt go r x q).2=O):r.2=O:=by
 obtain⟨s,o⟩:=r;cases o with
 |none=>rfl
 |some e=>cases h
theorem ZGQ{σ:Type}{go:σ->It->By->σ×Option Int}{l:List (It×By)}{s:σ}{j:Nat}(hj:j<l.length):foldK go s (l.take (j+1))=nxt go (foldK go s (l.take j)) l[j].1 l[j].2:=by
 rw[ZAH hj];generalize foldK go s (l.take j)=r;obtain⟨s',o⟩:=r;cases o<;>rfl
def ZD3(E:RS)(a b:By)(P:RS)(f:Nat):Prop:=∀(U:List By) (s:HSt) (x:It) (p:By),Z2p x->Nib p->s.bad=0->Rel P U s.used->(p≠[]\/Z0C a b p≠1)->66<=f+p.length->Z59 P s (visV E a b P f U x p) (hRef E a b P f s x p) (under E p).length
def Z9K(E:RS)(a b:By)(P:RS)(f:Nat)(U:List By)(xs:List It)(p:By):List By×Option Int :=
 if p.length+Z7A xs>64 then(U,Q 161)else match ZD1 E a b xs p with
  |some e=>(U,Q e)
  |none=>if(under E p).all (fun e=>ZA9 xs ((nibbles e.1).drop p.length))then
    eachW (fun U x q=>if isE x then(U,O)else visV E a b P f U x q) U xs p
   else(U,Q 163)
theorem ZGu(h:EOk E a b){f:Nat}(ih:ZD3 E a b P f){U:List By}{s:HSt}{xs:List It}{p:By}(hg:Z2p (.l xs))(hnib:Nib p)(hl:p.length<64)(hs:s.bad=0)(hR:Rel P U s.used)(hf:66<=f+1+p.length)(h2:xs.length≠2):Z59 P s (Z9K E a b P f U xs p) (Z9v E a b (hRef E a b P f) s xs p) (under E p).length:=by
 obtain⟨h17,⟨v,hv⟩,hk⟩:=hg.many h2;unfold Z9K Z9v Z7A ZD1;simp only[if_neg h2];rw[if_neg (by omega),hv,show itB (.s v)=v from rfl];by_cases hvn:v=[]
 ·rw[if_pos hvn,if_pos hvn]
  dsimp only;have hsub:subsOf xs p=(J2 16).map fun j=>(xs.getD j (.s []),p++[G j]):=by unfold subsOf;rw[if_neg h2]
  have hsl:(subsOf xs p).length=16:=by rw[hsub];simp
  let go:=fun(U:List By)(x:It)(q:By)=>if isE x then(U,O)else visV E a b P f U x q
  let cond:=fun j=>∀i,i<j->isE (xs.getD i (.s []))=J4->under E (p++[G i])=[]
  let T:=fun j=>(J2 j).foldl (fun s j=>hRef E a b P f s (xs.getD j (.s [])) (p++[G j])) s
  have claim:∀j,j<=16->((T j).bad=0->(T j).met<=s.met+sumN E p j)/\(((foldK go U ((subsOf xs p).take j)).2=O/\cond j)↔(T j).bad=0/\(T j).met=s.met+sumN E p j)/\((foldK go U ((subsOf xs p).take j)).2=O->cond j->Rel P (foldK go U ((subsOf xs p).take j)).1 (T j).used)/\∃V,Rel P V (T j).used:=by
   intro j
   induction j with
   |zero =>
    intro _;rw[JV];exact⟨fun _=>by rw[ZCm];exact X _,⟨fun _=>⟨hs,by rw[ZCm];rfl⟩,fun _=>⟨rfl,fun i hi=>absurd hi (by omega)⟩⟩,fun _ _=>hR,U,hR⟩
   |succ j ihj =>
    intro hj;obtain⟨c1,c2,c3,V,hV⟩:=ihj (by omega)
    have hT:T (j+1)=hRef E a b P f (T j) (xs.getD j (.s [])) (p++[G j]):=by
     show(J2 (j+1)).foldl _ s=_;rw[List.range_succ,List.foldl_append];rfl
    have hF:=ZGQ (go:=go) (s:=U) (l:=subsOf xs p) (j:=j) (by omega);have hsj:(subsOf xs p)[j]'(by omega)=(xs.getD j (.s []),p++[G j]):=by simp only[hsub,List.getElem_map,List.getElem_range]
    rw[hsj]at hF;rw[hF,hT,ZHU h hl (by omega)];have hgx:=hk j (by omega);have hq1:(p++[G j]).length=p.length+1:=by simp
    have hqn:Nib (p++[G j]):=fun c hc=>(List.mem_append.1 hc).elim (hnib c) (nib_one (show j<16 by omega) c);have hqe:p++[G j]≠[]:=by simp
    have hcs:cond (j+1)↔cond j/\(isE (xs.getD j (.s []))=J4->under E (p++[G j])=[]):=by
     constructor
     ·exact fun hc=>⟨fun i hi=>hc i (by omega),hc j (by omega)⟩
     ·intro hc i hi
      by_cases hij:i=j
      ·subst hij;exact hc.2
      ·exact hc.1 i (by omega)
    rw[hcs];clear hF hT hsj;generalize xs.getD j (.s [])=x at *
    generalize p++[G j]=q at *
    generalize hn:(under E q).length=n at *
    generalize T j=t at *
    generalize foldK go U ((subsOf xs p).take j)=r at *
    generalize sumN E p j=m at *
    by_cases hb:t.bad=0
    ·have hA:=fun U' hU'=>ih U' t x q hgx hqn hb hU' (JR hqe) (by omega)
     by_cases hok:r.2=O/\cond j
     ·obtain⟨U',oe⟩:=r
      obtain⟨ho,hc⟩:=hok;dsimp only at ho;subst ho;dsimp only at c2 c3 ⊢;have hm:=(c2.1 ⟨rfl,hc⟩).2;have hU':=c3 rfl hc;have A:=hA U' hU';rw[hn]at A;have le:=A.le;refine⟨fun hb'=>by have:=le hb';omega,?_,?_,A.some_⟩
      ·by_cases hE:isE x=J4
       ·have hx:=Z9D.1 hE
        subst hx;obtain⟨f',rfl⟩:∃f',f=f'+1:=⟨f-1,by omega⟩;have hvE:=ZJM (P:=P) h (f:=f') (U:=U') (p:=q) (by omega) hqe;have:=A.iff_;rw[hvE.1]at this;simp only[nxt,go,hE,if_true,true_and];rw[show t.met+n=s.met+(m+n) by omega]at this;rw[<-this];exact⟨fun hh=>hh.2 trivial,fun hh=>⟨hc,fun _=>hh⟩⟩
       ·have hE':isE x=F:=by simpa using hE
        have:=A.iff_;rw[show t.met+n=s.met+(m+n) by omega]at this;simp only[nxt,go,hE',J,if_false,false_implies,and_true];rw[<-this];exact⟨fun hh=>hh.1,fun hh=>⟨hh,hc⟩⟩
      ·by_cases hE:isE x=J4
       ·have hx:=Z9D.1 hE
        subst hx;obtain⟨f',rfl⟩:∃f',f=f'+1:=⟨f-1,by omega⟩;have hvE:=ZJM (P:=P) h (f:=f') (U:=U') (p:=q) (by omega) hqe;intro _ hc';have:=A.rel (hvE.1.2 (hc'.2 hE));rw[hvE.2]at this;simp only[nxt,go,hE,if_true];exact this
       ·have hE':isE x=F:=by simpa using hE
        simp only[nxt,go,hE',J,if_false];exact fun hh _=>A.rel hh
     ·have A:=hA V hV
      rw[hn]at A;have le:=A.le
      have hlt:t.met<s.met+m:=by
       have h1:=c1 hb;have h2:t.met≠s.met+m:=fun e=>hok (c2.2 ⟨hb,e⟩);omega
      have hno:∀{R:Prop},(nxt go r x q).2=O->(cond j/\R)->False:=fun h1 h2=>hok ⟨ZEh h1,h2.1⟩;exact⟨fun hb'=>by have:=le hb';omega,⟨fun hh=>(hno hh.1 hh.2).elim,fun hh=>by have:=le hh.1;omega⟩,fun h1 h2=>(hno h1 h2).elim,A.some_⟩
    ·rw[ZEO f _ _ hb]
     have hno:∀{R:Prop},(nxt go r x q).2=O->(cond j/\R)->False:=fun h1 h2=>hb (c2.1 ⟨ZEh h1,h2.1⟩).1;exact⟨fun hb'=>(hb hb').elim,⟨fun hh=>(hno hh.1 hh.2).elim,fun hh=>(hb hh.1).elim⟩,fun h1 h2=>(hno h1 h2).elim,V,hV⟩
  obtain⟨c1,c2,c3,c4⟩:=claim 16 (X _);rw[ZIh h hl,List.take_of_length_le (by omega)]at *
  have hcov:((under E p).all fun e=>ZA9 xs ((nibbles e.1).drop p.length))=J4↔cond 16:=by
   rw[H]
   have hd:∀e∈under E p,∃c r,(nibbles e.1).drop p.length=c::r/\c.toNat<16:=fun e he=>by
    have h64:=Z9H h (Z1P.1 he).1;exact⟨_,_,M (show p.length<(nibbles e.1).length by omega),Zs e.1 _ (JF _)⟩
   constructor
   ·intro hall i hi hE
    refine List.eq_nil_iff_forall_not_mem.2 (fun e he=>?_);rw[Z5h]at he;obtain⟨h1,h4⟩:=List.mem_filter.1 he;have h3:=hall e h1;obtain⟨c,r,hcr,_⟩:=hd e h1;rw[hcr]at h4 h3;simp only[JS,JW,beq_iff_eq]at h4;unfold ZA9 at h3;rw[if_neg h2]at h3;simp only at h3;rw[<-h4,J3,Nat.mod_eq_of_lt (by omega),hE]at h3;cases h3
   ·intro hc e he
    obtain⟨c,r,hcr,hc16⟩:=hd e he;rw[hcr];unfold ZA9;rw[if_neg h2];simp only;refine C (fun hn=>?_);have hE:isE (xs.getD c.toNat (.s []))=J4:=by simpa using hn
    have:=hc c.toNat hc16 hE
    have hm:e∈under E (p++[G c.toNat]):=by
     rw[Z5h];refine List.mem_filter.2 ⟨he,?_⟩;rw[hcr,JO];simp
    rw[this]at hm;cases hm
  by_cases hcv:cond 16
  ·rw[if_pos (hcov.2 hcv)]
   exact⟨c1,⟨fun hh=>c2.1 ⟨hh,hcv⟩,fun hh=>(c2.2 hh).1⟩,fun hh=>c3 hh hcv,c4⟩
  ·rw[if_neg (fun hh=>hcv (hcov.1 hh))]
   exact⟨c1,⟨fun hh=>(by cases hh),fun hh=>(hcv (c2.2 hh).2).elim⟩,fun hh=>(by cases hh),c4⟩
 ·rw[if_neg hvn,if_neg hvn]
  have hb:(hVal E a b s v p).bad≠0:=by
   unfold hVal;rw[if_pos (by omega)];exact Z1w s (by decide)
  have hva:valueV E a b p v=Q 161:=by
   unfold valueV;rw[if_pos (by omega)]
  rw[hva,ZEK _ hb];exact Z59.no (W:=U) hb (by rw[ZGV];exact hR)
end
section
variable{l:RS}{a b:By}{D f:Nat}
theorem ZGR{σ:Type}{go:σ->It->By->σ×Option Int}{s:σ}{y:It×By}:foldK go s [y]=go s y.1 y.2:=by
 simp only[foldK];generalize go s y.1 y.2=q;obtain⟨s',o⟩:=q;cases o<;>rfl
end
section
variable{E:RS}{a b:By}{P:RS}
theorem ZIR(h:EOk E a b){f:Nat}(ih:ZD3 E a b P f){U:List By}{s:HSt}{xs:List It}{p:By}(hg:Z2p (.l xs))(hnib:Nib p)(hl:p.length<64)(hs:s.bad=0)(hR:Rel P U s.used)(hf:66<=f+1+p.length)(h2:xs.length=2):Z59 P s (Z9K E a b P f U xs p) (Z9v E a b (hRef E a b P f) s xs p) (under E p).length:=by
 obtain⟨pp,lf,he,hl1,hl2⟩:=hg.two h2;have hpn:Nib pp:=ZBB he;have hle:=ZIp (E:=E) p pp;have hcl:=ZJU (E:=E) p pp;have hapl:(p++pp).length=p.length+pp.length:=J9;unfold Z9K Z9v Z7A ZD1;simp only[if_pos h2,he];cases lf with
 |true =>
  simp only;obtain⟨v,hv,_⟩:=hl1 rfl;rw[hv,show itB (.s v)=v from rfl];have hsub:subsOf xs p=[]:=by unfold subsOf;rw[if_pos h2,he]
  have hew:∀go:List By->It->By->List By×Option Int,eachW go U xs p=(U,O):=fun go=>by unfold eachW;rw[hsub];rfl
  obtain⟨k1,k2,k3⟩:=ZHj h hs v (p++pp);generalize hVal E a b s v (p++pp)=t at *
  by_cases hb:t.bad=0
  ·obtain⟨hm,h64⟩:=k2 hb
   rw[if_neg (by omega),k1.2 hb];dsimp only
   have hcov:((under E p).all fun e=>ZA9 xs ((nibbles e.1).drop p.length))=((under E p).all fun e=>pp.isPrefixOf ((nibbles e.1).drop p.length)):=by
    rw[J1,H,H];refine forall_congr' (fun e=>forall_congr' (fun he'=>?_));unfold ZA9;rw[if_pos h2,he];simp only;rw[decide_eq_true_eq,Y];have hnl:=Z9H h (Z1P.1 he').1;constructor
    ·intro hh;rw[hh];exact List.prefix_rfl
    ·rintro⟨r,hr⟩
     have h1:=congrArg JX hr;rw[J9,List.length_drop]at h1;rw[<-hr,J6 (show r.length=0 by omega),JI]
   rw[hcov];by_cases hc:((under E p).all fun e=>pp.isPrefixOf ((nibbles e.1).drop p.length))=J4
   ·rw[if_pos hc,hew]
    have:=hcl.1 hc;exact⟨fun _=>by omega,⟨fun _=>⟨hb,by omega⟩,fun _=>rfl⟩,fun _=>by rw[k3];exact hR,U,by rw[k3];exact hR⟩
   ·rw[if_neg hc]
    have:(under E (p++pp)).length≠(under E p).length:=fun e=>hc (hcl.2 e);exact⟨fun _=>by omega,⟨fun hh=>(by cases hh),fun hh=>by omega⟩,fun hh=>(by cases hh),U,by rw[k3];exact hR⟩
  ·have hR':Rel P U t.used:=by rw[k3];exact hR
   by_cases hlong:p.length+pp.length>64
   ·rw[if_pos hlong];exact Z59.no hb hR'
   ·rw[if_neg hlong]
    cases hva:valueV E a b (p++pp) v with
    |none=>exact(hb (k1.1 hva)).elim
    |some e=>exact Z59.no hb hR'
 |false =>
  simp only;obtain⟨hpe,hgx,hxE⟩:=hl2 rfl;have hsub:subsOf xs p=[(xs.getD 1 (.s []),p++pp)]:=by unfold subsOf;rw[if_pos h2,he]
  have hew:eachW (fun U x q=>if isE x then(U,O)else visV E a b P f U x q) U xs p=visV E a b P f U (xs.getD 1 (.s [])) (p++pp):=by
   unfold eachW;rw[hsub,ZGR];simp only[hxE,J,if_false]
  have hppl:0<pp.length:=List.length_pos_iff.2 hpe;by_cases hlong:p.length+pp.length>64
  ·rw[if_pos hlong]
   obtain⟨q1,q2⟩:=ZGU (E:=E) (a:=a) (b:=b) (P:=P) (f:=f) (x:=xs.getD 1 (.s [])) (p:=p++pp) hs (by omega);exact Z59.no q1 (by rw[q2];exact hR)
  ·rw[if_neg hlong]
   have A:=ih U s (xs.getD 1 (.s [])) (p++pp) hgx (fun c hc=>(List.mem_append.1 hc).elim (hnib c) (hpn c)) hs hR (JR (by simp[hpe])) (by omega)
   have hcov:((under E p).all fun e=>ZA9 xs ((nibbles e.1).drop p.length))=((under E p).all fun e=>pp.isPrefixOf ((nibbles e.1).drop p.length)):=by
    congr 1;funext e;unfold ZA9;rw[if_pos h2,he]
   rw[hcov];have le:=A.le;by_cases hc:((under E p).all fun e=>pp.isPrefixOf ((nibbles e.1).drop p.length))=J4
   ·rw[if_pos hc,hew,<-hcl.1 hc]
    exact A
   ·rw[if_neg hc]
    have:(under E (p++pp)).length≠(under E p).length:=fun e=>hc (hcl.2 e);exact⟨fun hh=>by have:=le hh;omega,⟨fun hh=>(by cases hh),fun hh=>by have:=le hh.1;omega⟩,fun hh=>(by cases hh),A.some_⟩
theorem ZE6(h:EOk E a b):∀f,ZD3 E a b P f:=by
 intro f
 induction f with
 |zero =>
  intro U s x p _ _ hs hR _ _;exact Z59.no (Z1w s (by decide)) (by rw[show hRef E a b P 0 s x p=s.fault 161 from rfl,Z0z];exact hR)
 |succ f ih =>
  intro U s x p hg hnib hs hR hp hf;simp only[visV,hRef];rw[if_neg (show ¬s.bad≠0 by rw[hs];decide)];by_cases hl:p.length>64
  ·rw[if_pos hl,if_pos hl]
   exact Z59.no (Z1w s (by decide)) (by rw[Z0z];exact hR)
  rw[if_neg hl,if_neg hl];rcases Z3a (a:=a) (b:=b) p with ho|ho|ho
  ·rw[if_pos ho,if_pos ho,Z9f h (by omega) ho]
   exact⟨fun _=>X _,⟨fun _=>⟨hs,rfl⟩,fun _=>rfl⟩,fun _=>hR,U,hR⟩
  ·rw[if_neg (show ¬Z0C a b p= -1 by rw[ho];decide),if_neg (show ¬Z0C a b p= -1 by rw[ho];decide),if_pos ho,if_pos ho]
   have hpe:p≠[]:=hp.resolve_right (fun h=>h ho);have hw:Z7O E p=Z54 E p:=if_neg hpe;rw[hw];have hse:=ZIc hg.refIt (ZHA E p);by_cases hc:enc x=enc (Z54 E p)
   ·rw[if_pos (hse.2 hc),if_neg (fun h=>h hc)]
    exact⟨fun _=>X _,⟨fun _=>⟨hs,rfl⟩,fun _=>rfl⟩,fun _=>hR,U,hR⟩
   ·rw[if_neg (fun h=>hc (hse.1 h)),if_pos hc]
    exact Z59.no (Z1w s (by decide)) (by rw[show({ s.fault 163 with met:=(s.fault 163).met+(under E p).length }:HSt).used=(s.fault 163).used from rfl,Z0z];exact hR)
  ·rw[if_neg (show ¬Z0C a b p= -1 by rw[ho];decide),if_neg (show ¬Z0C a b p=1 by rw[ho];decide),if_neg (show ¬Z0C a b p= -1 by rw[ho];decide),if_neg (show ¬Z0C a b p=1 by rw[ho];decide)]
   have hl64:p.length<64:=by
    refine Nat.lt_of_le_of_ne (by omega) (fun e=>ZCO (a:=a) (b:=b) e ho)
   have node:∀{U:List By}{s:HSt}{xs:List It},Z2p (.l xs)->s.bad=0->Rel P U s.used->Z59 P s (Z9K E a b P f U xs p) (Z9v E a b (hRef E a b P f) s xs p) (under E p).length:=fun{U s xs} hgx hs' hR'=>by
    by_cases h2:xs.length=2
    ·exact ZIR h ih hgx hnib hl64 hs' hR' hf h2
    ·exact ZGu h ih hgx hnib hl64 hs' hR' hf h2
   cases x with
   |l xs =>
    rw[if_neg (show ¬isE (.l xs)=J4 from fun h=>by cases h)];exact node hg hs hR
   |s k =>
    by_cases hk:k=[]
    ·subst hk
     rw[if_pos (show isE (.s [])=J4 from rfl)];simp only[if_true];by_cases hu:under E p=[]
     ·rw[if_pos hu,if_neg (by rw[hu];decide),hu]
      exact⟨fun _=>X _,⟨fun _=>⟨hs,rfl⟩,fun _=>rfl⟩,fun _=>hR,U,hR⟩
     ·rw[if_neg hu,if_pos (List.length_pos_iff.2 hu)]
      exact Z59.no (Z1w s (by decide)) (by rw[Z0z];exact hR)
    ·rw[if_neg (show ¬isE (.s k)=J4 from fun h=>hk (by have:=Z9D.1 h;cases this;rfl))]
     simp only[if_neg hk];rw[show(P.findIdx? fun x=>decide (x.1=k))=ZBb P k from rfl];simp only[Z4t,ZC7];cases hi:ZBb P k with
     |none=>exact Z59.no (Z1w s (by decide)) (by rw[Z0z];exact hR)
     |some i =>
      have hRa:=hR.add hi;simp only[Option.map_some];generalize(P.getD i ([],[])).2=c;by_cases hsum:sumOf c≠k
      ·rw[if_pos hsum,if_pos hsum]
       exact Z59.no (Z1w _ (by decide)) (by rw[Z0z];exact hRa)
      ·rw[if_neg hsum,if_neg hsum]
       by_cases hck:Z0T c≠0
       ·rw[if_pos hck,if_pos hck]
        exact Z59.no (Z1w _ (by decide)) (by rw[Z0z];exact hRa)
       ·rw[if_neg hck,if_neg hck]
        obtain⟨xs,hd,_,hgx⟩:=Z2t (Decidable.not_not.1 hck);rw[hd];have:=node (s:={ s with used:=s.used.set i J4 }) hgx hs hRa;exact⟨this.le,this.iff_,this.rel,this.some_⟩
theorem ZAk{p v:By}{e:Int}(h:valueV E a b p v=Q e):e≠0:=by
 unfold valueV at h;split at h
 ·cases h;decide
 ·split at h
  ·cases h
  ·split at h
   ·split at h
    ·cases h
    ·cases h;decide
   ·cases h;decide
theorem ZF2:∀(f:Nat) (U:List By) (x:It) (p:By) (e:Int),(visV E a b P f U x p).2=Q e->e≠0
 |0,_,_,_,_,h=>by cases h;decide
 |f+1,U,x,p,e,h=>by
  simp only[visV]at h;split at h
  ·cases h;decide
  ·split at h
   ·cases h
   ·split at h
    ·dsimp only at h
     split at h
     ·cases h
     ·cases h;decide
    ·split at h
     ·dsimp only at h
      split at h
      ·cases h
      ·cases h;decide
     ·split at h
      ·rename_i hn
       cases h;unfold Z4t at hn;split at hn
       ·cases hn
       ·split at hn
        ·cases hn;decide
        ·split at hn
         ·cases hn;decide
         ·simp only[Prod.mk.injEq]at hn
          obtain⟨_,hn⟩:=hn;split at hn
          ·cases hn;decide
          ·split at hn
           ·cases hn
           ·cases hn;decide
      ·split at h
       ·cases h;decide
       ·split at h
        ·rename_i ho
         cases h;unfold ZD1 at ho;split at ho
         ·split at ho
          ·exact ZAk ho
          ·cases ho
         ·split at ho
          ·cases ho
          ·exact ZAk ho
        ·split at h
         ·refine ZC9 (P:=fun e=>e≠0) (fun s y q e he=>?_) h
          split at he
          ·cases he
          ·exact ZF2 f _ _ _ _ he
         ·cases h;decide
theorem ZKx(h:EOk E a b){root:By}(hr:root.length=32):decide (ZIr E a b P root=0)=ZKw E a b P root:=by
 unfold ZIr ZKw;by_cases h1:Z0C a b []=1
 ·rw[if_pos h1]
  have e:visV E a b P 66 [] (rootIt root) []=([],if Z2n (rootIt root) (Z7O E [])then O else Q 163):=by
   show visV E a b P (65+1) [] (rootIt root) []=_;rw[visV,if_neg (by decide),if_neg (by rw[h1];decide),if_pos h1]
  have hw:Z7O E []=rootIt (Trie.Z2K (subNd E [])):=if_pos rfl;rw[e,hw,ZHH (q:=Trie.Z2K (subNd E [])) hr (ZO _)];by_cases hq:Trie.Z2K (subNd E [])=root
  ·rw[decide_eq_true hq]
   simp only[if_true,hq,true_and];by_cases hp:P.length=0
   ·simp[hp]
   ·rw[if_pos (show([]:List By).length<P.length from Nat.pos_of_ne_zero hp)];simp[hp]
  ·rw[decide_eq_false hq]
   simp[hq]
 ·rw[if_neg h1]
  have A:=ZE6 (P:=P) h 66 [] ⟨J8 P.length F,0,0⟩ (rootIt root) [] (Z5M hr) (fun x hx=>by cases hx) rfl Rel.nil (JE h1) (by decide);rw[Z5i]at A;have hi:=A.iff_;have hrel:=A.rel;simp only[JH]at hi;generalize hRef E a b P 66 ⟨J8 P.length F,0,0⟩ (rootIt root) []=t at *
  generalize hv:visV E a b P 66 [] (rootIt root) []=r at *
  obtain⟨U,oe⟩:=r;rw[J1,decide_eq_true_eq];simp only[JQ,decide_eq_true_eq];cases oe with
  |none =>
   have hR:=hrel rfl;rw[hR.all];dsimp only;have h2:=hi.1 rfl;by_cases hlt:U.length<P.length
   ·rw[if_pos hlt];exact⟨fun h=>absurd h (by decide),fun h=>(h.1 hlt).elim⟩
   ·rw[if_neg hlt];exact⟨fun _=>⟨hlt,h2⟩,fun _=>rfl⟩
  |some e =>
   dsimp only;have hne:¬(t.bad=0/\t.met=E.length):=fun h=>by cases hi.2 h
   refine⟨fun he=>?_,fun h=>(hne h.2).elim⟩;exact(ZF2 _ _ _ _ _ (by rw[hv]) he).elim
end
end Go.Proofs.YtfghidehlnfdiaaGreat
end
