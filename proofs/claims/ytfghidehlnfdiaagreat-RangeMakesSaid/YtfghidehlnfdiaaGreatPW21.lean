/- Contracts of the reference: find; the maker of a range's proof in memory. -/
/- Contracts of the reference: the maker's item, at a list. -/
/- Contracts of the reference: the maker's hash and item; ProveRange. -/
/- The walk of ProofMakes. -/
/- Contracts: the reference's ProveRange; sized; the walk of RangeMakes. -/
/- Arguments: how long they can be. -/
/- Keys with values as arguments; how long what came in can be. -/
/- A hash, lists of bytes as arguments. -/
/- Entries as arguments. -/
import Derived.Test.YtfghidehlnfdiaaGreatRG8
import Derived.Test.YtfghidehlnfdiaaGreatTVB
import Derived.Test.YtfghidehlnfdiaaGreatTP9
import Derived.SizedLaws
import Derived.Test.YtfghidehlnfdiaaGreatRows
import Derived.Test.YtfghidehlnfdiaaGreatXClr
set_option linter.unusedVariables false
set_option linter.unusedSimpArgs false
open Array renaming getElem?_eq_none->JM,getElem?_toList->U,length_toList->O,replicate->K
open Bool renaming and_eq_true->JH,false->JW,true->Ja
open Classical renaming choose->JI,choose_spec->J6
open Go renaming Calls->JV,MemPlace->JO,TypeId->JF,World->C
open Go.Addr renaming add->A
open Go.DataW renaming trod->G,weightsEach->JE
open Go.Ending renaming returned->N
open Go.IntKind renaming i64->JN,u8->Jc,wrap->JL
open Go.Obj renaming cells->Y
open Go.Proofs.Tryz renaming prog->I
open Go.Value renaming bool->J3,pointer->JS,slice->JX,tuple->JJ
open Go.World renaming cell?->J1
open Int renaming toNat->JT,toNat_natCast->F
open List renaming all_append->JZ,getElem?_append_left->JB,getElem?_append_right->J0,getElem?_cons_succ->JG,getElem?_map->JD,getElem?_range->J2,getElem?_toArray->J5,getElem_map->JU,getElem_range->JR,length_append->JA,length_range->JC,mem_of_getElem?->J8,range->JQ,replicate->Jb,setIfInBounds_toArray->J9,set_append->JY,take_of_length_le->J4,take_succ_cons->JP
open Nat renaming le_refl->L,zero_add->JK,zero_le->J7
open Option renaming none->X,some->J
open UInt8 renaming ofNat->V
section
namespace Go.Proofs.YtfghidehlnfdiaaGreat
open Go Go.Vcg Go.Trie
section
variable{w:C}{lab:Nat->Nat}{c:Nat}
theorem Z7g{o:Option Addr}{k:Nat}{l:List (By×By)}{h:By}(hN:Z0m w lab c l o l.length)(hh:h.length=32)(hlen:l.length<=2^40) :
  JV I Z0U.n #[.slice o l.length k,.agg (hashA h)] w (fun e w'=>Vcg.Mod NoB w w'/\(Z14 l h=X->e=N (JJ #[.slice X 0 0,J3 JW])) /\
   (∀b,Z14 l h=J b->∃ob kb,e=N (JJ #[.slice ob b.length kb,J3 Ja])/\CBy w lab c ob b/\b.length<=kb)):=by
 refine ZG fun R hR=>Z0U.vc _ _ _ _ _ _ ?_;unfold Z0U.Vc;obtain⟨_,vs,hCR,hNC⟩:=hN;rintro d2 w1⟨rfl,rfl⟩;have M1:=Mod.alloc (S:=NoB) w (Y (hashA h) 27);have X1:=Blk.new w 27 (hashA h);generalize w.heap.size=D at *
 generalize w.alloc (Y (hashA h) 27)=w1 at *
 refine⟨fun i w'=>∃j:Nat,i=(j:Int)/\j<=l.length/\Vcg.Mod NoB w w'/\Blk w' D 27 (hashA h)/\Z14 l h=Z14 (l.drop j) h,fun i _=>((l.length:Int)-i).toNat,⟨0,rfl,J7 _,M1,X1,by simp⟩,?_⟩;rintro _ _ w2⟨j,rfl,hj,M2,X2,hf⟩;refine⟨fun hlt=>?_,fun hge=>?_⟩
 ·have hjl:j<l.length:=by omega
  rintro _ rfl;have M3:=M2.step_drew;have X3:=X2.drew;generalize w2.drew=w3 at *
  obtain⟨g,f,ob,kb,rfl,hrow,hby,hkb,h32⟩:=ZGA hNC hCR hjl
  have hgl:g<w.heap.size:=by
   obtain⟨g',f',ho',hg',_,_⟩:=hCR _ _ ((hNC.2 j hjl).2.1 0 (by omega));cases ho';exact hg'
  have cell:∀i,i<33->w3.cell? ⟨g,f+j*33+i,X⟩=(ndA l[j].1 ob l[j].2.length kb)[i]?:=fun i hi=>by
   rw[ZU M3 hgl (fun h=>h),<-hrow.2 i hi,Z6]
  have hrow3:ZH w3 (A ⟨g,f,X⟩ (JT (j:Int)*33)) 32 (hashA l[j].1):=⟨ZA _,fun i hi=>by
   rw[F,Z6,Z6,cell i (by omega),ZCP hi];exact(ZE (f:=fun i=>bV (l[j].1.getD i 0)) hi).symm⟩
  have hd:l.drop j=l[j]::l.drop (j+1):=List.drop_eq_getElem_cons hjl;refine⟨_,rfl,⟨by omega,by omega⟩,_,hrow3,_,X3.rowAll (ZA _),_,ZE0 _ _ h32 hh,_,rfl,fun hb=>?_,fun hb=>?_⟩
  ·rw[decide_eq_true_eq]at hb
   refine⟨_,rfl,⟨by omega,by omega⟩,ob,_,kb,by rw[F,Z6,Z6,cell 32 (by omega),ZCO],hR _ _ ⟨M3,fun hn=>?_,fun b hb'=>?_⟩⟩
   ·rw[hf,hd,Z14,if_pos hb]at hn;cases hn
   ·rw[hf,hd,Z14,if_pos hb]at hb'
    cases hb';exact⟨ob,kb,rfl,hby,hkb⟩
  ·rw[decide_eq_false_iff_not]at hb
   refine⟨⟨j+1,by rw[Z0 (by omega) (by omega)];omega,hjl,M3,X3,?_⟩,by dsimp only;rw[Z0 (by omega) (by omega)];omega⟩;rw[hf,hd,Z14,if_neg hb]
 ·obtain rfl:j=l.length:=by omega
  rw[List.drop_length]at hf;exact hR _ _ ⟨M2,fun _=>rfl,fun b hb=>by rw[hf]at hb;cases hb⟩
end
def mkP(o:Option Addr)(n k:Nat)(a b:By):List Value:=JX o n k::((hashA a).toList++(hashA b).toList)
def mkA(P:List Value)(u v:Value):Array Value:=(P++[u,v]).toArray
theorem Z2S(o:Option Addr)(n k:Nat)(a b:By):(mkP o n k a b).length=65:=by simp[mkP,ZA]
section
variable{P:List Value}{u v:Value}
theorem Z8W{i:Nat}(h:P.length=65)(hi:i<65):(mkA P u v)[i]?=P[i]?:=by
 unfold mkA;rw[J5,JB (by omega)]
theorem ZCN(h:P.length=65):(mkA P u v)[65]?=J u:=by
 unfold mkA;rw[J5,J0 (by omega),h];rfl
theorem ZG9(h:P.length=65):(mkA P u v)[66]?=J v:=by
 unfold mkA;rw[J5,J0 (by omega),h];rfl
theorem ZEF(h:P.length=65)(z:Value):(mkA P u v).setIfInBounds 65 z=mkA P z v:=by
 unfold mkA;rw[J9,JY,if_neg (by omega),h];rfl
theorem ZEG(h:P.length=65)(z:Value):(mkA P u v).setIfInBounds 66 z=mkA P u z:=by
 unfold mkA;rw[J9,JY,if_neg (by omega),h];rfl
theorem Z9A(h:P.length=65):(mkA P u v).size=67:=by simp[mkA,h]
end
theorem ZHJ{o:Option Addr}{n k:Nat}{a b:By}{i:Nat}(hi:i<32):(mkP o n k a b)[1+i]?=(hashA a)[i]?:=by
 unfold mkP;rw[Nat.add_comm,JG,JB (by rw[O,ZA];omega),U]
theorem ZHK{o:Option Addr}{n k:Nat}{a b:By}{i:Nat}(hi:i<32):(mkP o n k a b)[33+i]?=(hashA b)[i]?:=by
 unfold mkP;rw[show 33+i=(32+i)+1 by omega,JG,J0 (by rw[O,ZA];omega),O,ZA,show 32+i-32=i by omega,U]
def ZCw(o:Option Int):Int:=o.getD 0
abbrev SM':Nat->Prop:=fun k=>k=7\/k=8
structure MkS (l:RS) (a b:By) (D:Nat) (w:C) (lab:Nat->Nat) (s:RS) (bad:Int):Prop where
 ex:∃ol kl oo n k,CB w lab 7 D 96 (mkA (mkP ol l.length kl a b) (.slice oo n k) (.int JN bad))/\Z0m w lab 0 l ol l.length/\Z4g w lab 8 10 s oo n k
 laid:Z74 l s
section
variable{l:RS}{a b:By}{D:Nat}{w w':C}{lab lab':Nat->Nat}{s:RS}{bad:Int}
theorem MkS.stp{S:Nat->Prop}(h:MkS l a b D w lab s bad)(st:Stp S w lab w' lab')(h0:¬S 0)(h7:¬S 7)(h8:¬S 8)(h10:¬S 10):MkS l a b D w' lab' s bad:=by
 obtain⟨ol,kl,oo,n,k,e1,e2,e3⟩:=h.ex;exact⟨⟨ol,kl,oo,n,k,e1.stp st h7,e2.stp st h0,e3.stp st h8 h10⟩,h.laid⟩
theorem MkS.no(h:MkS l a b D w lab s bad)(st:Stp NoS w lab w' lab'):MkS l a b D w' lab' s bad:=h.stp st (fun h=>h) (fun h=>h) (fun h=>h) (fun h=>h)
theorem MkS.rdBad(h:MkS l a b D w lab s bad):J1 w (A ⟨D,0,X⟩ 66)=J (.int JN bad):=by
 obtain⟨ol,kl,oo,n,k,e1,e2,e3⟩:=h.ex;rw[Z6];exact e1.blk.rd1 (ZG9 (Z2S ..))
theorem MkS.setBad(h:MkS l a b D w lab s bad)(m:Int):Z1 w (A ⟨D,0,X⟩ 66) (.int JN m)/\∀w1:C,Z8 w (A ⟨D,0,X⟩ 66) (.int JN m) w1->Stp SM' w lab w1 lab/\MkS l a b D w1 lab s m:=by
 obtain⟨ol,kl,oo,n,k,e1,e2,e3⟩:=h.ex;rw[Z6,JK];refine⟨e1.blk.canSet (by rw[Z9A (Z2S ..)];omega) rfl,?_⟩;rintro _ rfl;have st:Stp (fun k=>k=7) w lab (w.setCell ⟨D,66,X⟩ (.int JN m)) lab:=Stp.setCell e1.clr;have e1':=e1.set 66 (.int JN m);rw[ZEG (Z2S ..)]at e1';exact⟨st.mono (fun _ h=>.inl h),⟨ol,kl,oo,n,k,e1',e2.stp st (by decide),e3.stp st (by decide) (by decide)⟩,h.laid⟩
end
theorem ZDw{s:RS}{h:By}:(Z14 s h).isSome=met s h:=by
 induction s with
 |nil=>rfl
 |cons x r ih =>
  unfold Z14 met;rw[List.any_cons];by_cases hx:x.1=h
  ·rw[if_pos hx];simp[hx]
  ·rw[if_neg hx]
   have:decide (x.1=h)=JW:=decide_eq_false hx;rw[this,Bool.false_or];exact ih
theorem Z8M{σ:Type}{go:σ->It->By->σ×Option Int}:∀{l:List (It×By)} {s:σ} {j:Nat} (hj:j<l.length),foldK go s (l.take (j+1))=match foldK go s (l.take j)with
  |(s',X)=>go s' l[j].1 l[j].2
  |(s',J e)=>(s',J e)
 |[],_,_,hj=>absurd hj (by simp)
 |y::r,s,0,_=>by
  simp only[JP,List.take_zero,foldK,List.getElem_cons_zero];generalize go s y.1 y.2=q;obtain⟨s',o⟩:=q;cases o<;>rfl
 |y::r,s,j+1,hj=>by
  simp only[JP,foldK,List.getElem_cons_succ];generalize go s y.1 y.2=q;obtain⟨s',o⟩:=q;cases o with
  |none=>exact Z8M (by simpa using hj)
  |some e=>rfl
theorem Z5N{σ:Type}{go:σ->It->By->σ×Option Int}{P:Int->Prop}(hg:∀s y q e,(go s y q).2=J e->P e):∀{l:List (It×By)} {s:σ} {e:Int},(foldK go s l).2=J e->P e
 |[],_,_,h=>by cases h
 |y::r,s,e,h=>by
  simp only[foldK]at h;have h1:=hg s y.1 y.2;generalize go s y.1 y.2=q at h h1;obtain⟨s',o⟩:=q;cases o with
  |none=>exact Z5N hg h
  |some e'=>cases h;exact h1 _ rfl
theorem ZDz{go:RS->It->By->RS×Option Int}{l s:RS}{h path:By}(hg:∀s y q e,(go s y q).2=J e->e≠0){e:Int}(he:(Z55 go l s h path).2=J e):e≠0:=by
 unfold Z55 at he;split at he
 ·cases he;decide
 ·split at he
  ·cases he;decide
  ·split at he
   ·exact Z5N hg he
   ·cases he;decide
theorem Z6z{l:RS}{a b:By}:∀(f:Nat) (s:RS) (x:It) (path:By) (e:Int),(visQ l a b f s x path).2=J e->e≠0
 |0,_,_,_,_,h=>by cases h
 |f+1,s,.l xs,path,e,h=>by
  simp only[visQ]at h;split at h
  ·cases h
  ·exact Z5N (Z6z f) h
 |f+1,s,.s k,path,e,h=>by
  simp only[visQ]at h;split at h
  ·cases h
  ·exact ZDz (Z6z f) h
def ZDS(l:RS)(a b:By)(D f:Nat):Prop:=∀{w:C} {lab:Nat->Nat} {s:RS} {x:It} {v1 v2 v3:Value} {o:Option Addr} {k:Nat} {path:By},MkS l a b D w lab s 0->ItC (fun b=>lab b≠6) w x v1 v2 v3->Z32 x->CBy w lab 6 o path->path.length<=k->Nib path->66<=f+path.length ->
 JV I ZD.n #[JS (J ⟨D,0,X⟩),.agg #[v1,v2,v3],.slice o path.length k] w (fun e w'=>e=N (JJ #[])/\∃lab',Stp SM' w lab w' lab'/\MkS l a b D w' lab' (visQ l (nibbles a) (nibbles b) f s x path).1 (ZCw (visQ l (nibbles a) (nibbles b) f s x path).2))
section
variable{l:RS}{a b:By}{D f:Nat}
theorem ZFK{w:C}{lab:Nat->Nat}{s:RS}{bad:Int}{bb:Bool}{p1 p2:Option Addr}{q1 r1 q2 r2:Nat}{o:Option Addr}{k n:Nat}(hI:MkS l a b D w lab s bad)(hne:bad≠0) :
  JV I ZD.n #[JS (J ⟨D,0,X⟩),.agg #[J3 bb,.slice p1 q1 r1,.slice p2 q2 r2],.slice o n k] w (fun e w'=>e=N (JJ #[])/\∃lab',Stp SM' w lab w' lab'/\MkS l a b D w' lab' s bad):=by
 refine ZD.vc _ _ _ _ _ _ _ _ _ _ _ _ _ ?_;unfold ZD.Vc;rintro d5 w1⟨rfl,rfl⟩;have st1:Stp NoS w lab (w.alloc (Y #[J3 bb,.slice p1 q1 r1,.slice p2 q2 r2] 111)) (ext lab w.heap.size 5):=Stp.alloc NoS w lab _ 5;have I1:=hI.no st1;exact⟨bad,I1.rdBad,fun _=>⟨rfl,_,st1.mono (fun _ h=>h.elim),I1⟩,fun h=>(hne h).elim⟩
theorem ZDx{σ:Type}{go:σ->It->By->σ×Option Int}{s:σ}{y:It×By}:foldK go s [y]=go s y.1 y.2:=by
 simp only[foldK];generalize go s y.1 y.2=q;obtain⟨s',o⟩:=q;cases o<;>rfl
theorem Z7S(P:ZDS l a b D f){w:C}{lab:Nat->Nat}{s:RS}{xs:List It}{v1 v2 v3:Value}{o:Option Addr}{k:Nat}{path:By}(hI:MkS l a b D w lab s 0)(hx:ItC (fun b=>lab b≠6) w (.l xs) v1 v2 v3)(hg:Z32 (.l xs))(hp:CBy w lab 6 o path)(hk:path.length<=k)(hnib:Nib path)(hf:66<=f+1+path.length)(hl:path.length<=64) :
  JV I ZD.n #[JS (J ⟨D,0,X⟩),.agg #[v1,v2,v3],.slice o path.length k] w (fun e w'=>e=N (JJ #[])/\∃lab',Stp SM' w lab w' lab'/\MkS l a b D w' lab' (eachW (visQ l (nibbles a) (nibbles b) f) s xs path).1 (ZCw (eachW (visQ l (nibbles a) (nibbles b) f) s xs path).2)):=by
 have hx0:=hx;simp only[ItC]at hx;obtain⟨rfl,rfl,p,c,rfl,h4,hcap⟩:=hx;refine ZG fun R hR=>ZD.vc _ _ _ _ _ _ _ _ _ _ _ _ _ ?_;unfold ZD.Vc;rintro d5 w1⟨rfl,rfl⟩;have st1:Stp NoS w lab (w.alloc (Y #[J3 Ja,.slice X 0 0,.slice p xs.length c] 111)) (ext lab w.heap.size 5):=Stp.alloc NoS w lab _ 5;have X1:=CB.new w lab 5 111 #[J3 Ja,.slice X 0 0,.slice p xs.length c];have I1:=hI.no st1;have P1:=hp.stp st1 (fun h=>h);have hx1:=ItC.stp6 hx0 st1 (fun h=>h);generalize w.heap.size=E at *
 generalize w.alloc (Y #[J3 Ja,.slice X 0 0,.slice p xs.length c] 111)=w1 at *
 generalize ext lab E 5=lab1 at *
 simp only[ItC]at hx1;obtain⟨_,_,p',c',hpc,h41,_⟩:=hx1;cases hpc;refine⟨0,I1.rdBad,fun h=>(h rfl).elim,fun _=>⟨fun h=>absurd h (by omega),fun _=>⟨Ja,X1.blk.rd1 rfl,fun h=>(by cases h),fun _=>⟨_,_,_,by rw[Z6];exact X1.blk.rd1 rfl,fun h2=>?_,fun h2=>?_⟩⟩⟩⟩
 ·have h2':xs.length=2:=by omega
  obtain⟨pp,lf,he,hl1,hl2⟩:=hg.two h2';obtain⟨g,f0,u1,u2,u3,rfl,hgs,e1,e2,e3,hi⟩:=h41.get 0 (by omega);have h0e:xs.getD 0 (.s [])=xs[0]:=Z1E (by omega);have h1e:xs.getD 1 (.s [])=xs[1]:=Z1E (by omega);have hm0:xs[0]∈xs:=List.getElem_mem (by omega);obtain⟨gg,hnn,hfine⟩:=hg.node;cases hq:xs[0]with
  |l ys=>rw[h0e,hq]at he;simp[Z15]at he
  |s bs =>
   rw[hq]at hi;simp only[ItC]at hi;obtain⟨rfl,⟨ox,cx,rfl,hrx,_⟩,rfl⟩:=hi
   have hbl:bs.length<=2^20:=by
    have hfx:=hfine.mem hm0;rw[hq]at hfx
    have:bs.length<=(enc (.s bs)).length:=by
     simp only[enc];split
     ·exact L _
     ·rw[JA];omega
    have:=hfx.2.2;omega
   refine⟨_,_,_,by rw[Z6];exact X1.blk.rd1 rfl,_,rfl,⟨by decide,by omega⟩,_,_,_,by rw[Z6,Z6];exact e2,?_⟩;refine(Z5c hrx hbl).mono ?_;rintro _ w2⟨o',k',rfl,M2,R2,hnew⟩;have he':=he;rw[h0e,hq]at he';simp only[Z15]at he';have eu:upk bs=(pp,lf,0):=by unfold upk;rw[he']
   rw[eu]at R2 ⊢;have st2:Stp NoS w1 lab1 w2 (ext lab1 w1.heap.size 6):=Stp.of_nob M2 6;have I2:=I1.no st2;have X2:=X1.stp st2 (fun h=>h);have P2:=P1.stp st2 (fun h=>h);have hx2:=ItC.stp6 (ItC.stp6 hx0 st1 (fun h=>h)) st2 (fun h=>h);have st02:=st1.trans st2;generalize ext lab1 w1.heap.size 6=lab2 at *
   refine⟨_,_,_,_,_,rfl,fun hlf=>?_,fun hlf=>?_⟩
   ·dsimp only at hlf;subst hlf
    obtain⟨hpn,hgy,hye⟩:=hl2 rfl;rintro _ rfl;have st3:Stp NoS w2 lab2 w2.drew lab2:=Stp.drew NoS w2 lab2;have I3:=I2.no st3;have X3:=X2.stp st3 (fun h=>h);have P3:=P2.stp st3 (fun h=>h);have R3:=R2.mod' (Mod.drew (S:=NoB) w2);have hx3:=ItC.stp6 hx2 st3 (fun h=>h);have st03:=st02.trans st3;clear hx2 X2 P2 I2 st02 R2;generalize w2.drew=w3 at *
    simp only[ItC]at hx3;obtain⟨_,_,p',c',hpc,h43,_⟩:=hx3;cases hpc;obtain⟨g',f0',t1,t2,t3,ho,hgs',d1,d2,d3,hi'⟩:=h43.get 1 (by omega);cases ho;obtain⟨bb,p1,q1,r1,p2,q2,r2,rfl,rfl,rfl⟩:=hi'.vals;refine⟨_,_,_,by rw[Z6];exact X3.blk.rd1 rfl,_,rfl,⟨by decide,by omega⟩,_,_,_,_,_,_,_,by rw[Z6];exact d1,by rw[Z6,Z6];exact d2,by rw[Z6,Z6];exact d3,?_⟩;obtain⟨o4,k4,w4,hr4,F4⟩:=Z1D (k2:=k) (ty:=Zu) (Mod.refl w3) P3.rd (by omega)
    have cell:∀{w':C}{g q:Nat}{v:Value},Vcg.Mod NoB w3 w'->w3.cell? ⟨g,q,X⟩=J v->g<w3.heap.size->w'.cell? ⟨g,q,X⟩=J v:=fun M h hb=>by
     rw[ZU M hb (fun h=>h)];exact h
    have hE3:=X3.blk.lt;refine⟨_,w4,hr4,_,_,_,rfl,by rw[Z6];exact cell F4.mod d1 hgs',by rw[Z6,Z6];exact cell F4.mod d2 hgs',by rw[Z6,Z6];exact cell F4.mod d3 hgs',by rw[Z6];exact cell F4.mod (X3.blk.rd1 rfl) hE3,?_⟩;obtain⟨o5,k5,w5,hr5,F5⟩:=ZW (ty:=Zu) (k2:=k') F4 (R3.mod' F4.mod) (by have:=ZBo he;show path.length+pp.length<=2^40;omega);refine⟨_,w5,hr5,_,_,_,rfl,by rw[Z6];exact cell F5.mod d1 hgs',by rw[Z6,Z6];exact cell F5.mod d2 hgs',by rw[Z6,Z6];exact cell F5.mod d3 hgs',by rw[Z6];exact cell F5.mod (X3.blk.rd1 rfl) hE3,?_⟩;have st5:Stp NoS w3 lab2 w5 (ext lab2 w3.heap.size 6):=Stp.of_nob F5.mod 6;have I5:=I3.no st5;have P5:CBy w5 (ext lab2 w3.heap.size 6) 6 o5 (path++pp):=⟨ZN F5,fun _ d hd=>ext_new (F5.new d.block ⟨d,hd,rfl⟩)⟩;have hi5:=ItC.stp6 hi' st5 (fun h=>h);rw[h1e]at hgy;have hppl:0<pp.length:=List.length_pos_iff.2 hpn;have hlen:(path++pp).length=path.length+pp.length:=JA;have hc:=P (k:=k5) I5 hi5 hgy P5 (by rw[hlen];exact F5.own.cap.1) (fun x hx=>(List.mem_append.1 hx).elim (hnib x) (ZCR he x)) (by omega);rw[hlen]at hc;refine hc.mono ?_;rintro _ w6⟨rfl,lab6,st6,I6⟩
    have hev:eachW (visQ l (nibbles a) (nibbles b) f) s xs path=visQ l (nibbles a) (nibbles b) f s xs[1] (path++pp):=by
     unfold eachW subsOf;rw[if_pos h2',he];simp only;rw[ZDx,h1e]
    rw[<-hev]at I6;exact⟨rfl,hR _ _ ⟨rfl,lab6,(st03.trans st5).mono (T:=SM') (fun _ h=>h.elim) |>.trans st6,I6⟩⟩
   ·dsimp only at hlf;subst hlf
    have hev:eachW (visQ l (nibbles a) (nibbles b) f) s xs path=(s,X):=by
     unfold eachW subsOf;rw[if_pos h2',he];rfl
    rw[hev]at hR;exact hR _ _ ⟨rfl,lab2,st02.mono (fun _ h=>h.elim),I2⟩
 ·obtain⟨h17,⟨v16,hv16⟩,hkids⟩:=hg.many (by omega)
  have hsub:subsOf xs path=(JQ 16).map fun j=>(xs.getD j (.s []),path++[V j]):=by unfold subsOf;rw[if_neg (by omega)]
  have hsl:(subsOf xs path).length=16:=by rw[hsub];simp
  have hsj:∀j(hj:j<16),(subsOf xs path)[j]'(by omega)=(xs[j]'(by omega),path++[V j]):=fun j hj=>by
   simp only[hsub,JU,JR];rw[Z1E (by omega)]
  refine⟨fun i w'=>∃(j:Nat)(lab':Nat->Nat),i=(j:Int)/\j<=16/\Stp SM' w1 lab1 w' lab'/\MkS l a b D w' lab' (foldK (visQ l (nibbles a) (nibbles b) f) s ((subsOf xs path).take j)).1 (ZCw (foldK (visQ l (nibbles a) (nibbles b) f) s ((subsOf xs path).take j)).2),fun i _=>((16:Int)-i).toNat,⟨0,lab1,rfl,J7 _,Stp.refl _ _ _,I1⟩,?_⟩;rintro _ _ w2⟨j,lab2,rfl,hj,st2,I2⟩;refine⟨fun hlt=>?_,fun hge=>?_⟩
  ·have hj16:j<16:=by omega
   rintro _ rfl;have st3:Stp NoS w2 lab2 w2.drew lab2:=Stp.drew NoS w2 lab2;have I3:=I2.no st3;have st13:=st2.trans (st3.mono (fun _ h=>h.elim));have X3:=X1.stp st13 (by decide);have P3:=P1.stp st13 (by decide);have hx3:=ItC.stp6 (ItC.stp6 hx0 st1 (fun h=>h)) st13 (by decide);clear I2 st2 st3;generalize w2.drew=w3 at *
   simp only[ItC]at hx3;obtain⟨_,_,p',c',hpc,h43,_⟩:=hx3;cases hpc;obtain⟨g,f0,u1,u2,u3,rfl,hgs,d1,d2,d3,hi⟩:=h43.get j (by omega);obtain⟨bb,p1,q1,r1,p2,q2,r2,rfl,rfl,rfl⟩:=hi.vals;rw[JK]at d1 d2 d3;have hE3:=X3.blk.lt
   have cell:∀{w':C}{g q:Nat}{v:Value},Vcg.Mod NoB w3 w'->w3.cell? ⟨g,q,X⟩=J v->g<w3.heap.size->w'.cell? ⟨g,q,X⟩=J v:=fun M h hb=>by
    rw[ZU M hb (fun h=>h)];exact h
   have c1:∀w',Vcg.Mod NoB w3 w'->J1 w' (A ⟨g,f0,X⟩ (JT (j:Int)*3))=J (J3 bb):=fun w' M=>by rw[F,Z6];exact cell M d1 hgs
   have c2:∀w',Vcg.Mod NoB w3 w'->J1 w' (A (A ⟨g,f0,X⟩ (JT (j:Int)*3)) 1)=J (.slice p1 q1 r1):=fun w' M=>by rw[F,Z6,Z6];exact cell M d2 hgs
   have c3:∀w',Vcg.Mod NoB w3 w'->J1 w' (A (A ⟨g,f0,X⟩ (JT (j:Int)*3)) 2)=J (.slice p2 q2 r2):=fun w' M=>by rw[F,Z6,Z6];exact cell M d3 hgs
   have c4:∀w',Vcg.Mod NoB w3 w'->J1 w' (A ⟨E,0,X⟩ 2)=J (.slice (J ⟨g,f0,X⟩) xs.length c):=fun w' M=>by rw[Z6];exact cell M (X3.blk.rd1 rfl) hE3
   have M0:=Mod.refl (S:=NoB) w3
   have kid:∀(w5:C)(o5:Option Addr)(k5:Nat),ZT w3 w5 tU8 1 o5 (path.length+1) k5 ((path++[V j]).map bV) ->
     JV I ZD.n #[JS (J ⟨D,0,X⟩),.agg #[J3 bb,.slice p1 q1 r1,.slice p2 q2 r2],.slice o5 (path.length+1) k5] w5 (fun e w'=>e=N (JJ #[])/\(∃(j_1:Nat)(lab':Nat->Nat),JL JN ((j:Int)+1)=(j_1:Int)/\j_1<=16/\Stp SM' w1 lab1 w' lab'/\MkS l a b D w' lab' (foldK (visQ l (nibbles a) (nibbles b) f) s ((subsOf xs path).take j_1)).1 (ZCw (foldK (visQ l (nibbles a) (nibbles b) f) s ((subsOf xs path).take j_1)).2))/\((16:Int)-JL JN ((j:Int)+1)).toNat<((16:Int)-(j:Int)).toNat):=by
    intro w5 o5 k5 F5;have st5:Stp NoS w3 lab2 w5 (ext lab2 w3.heap.size 6):=Stp.of_nob F5.mod 6;have I5:=I3.no st5;have P5:CBy w5 (ext lab2 w3.heap.size 6) 6 o5 (path++[V j]):=⟨ZN F5,fun _ d hd=>ext_new (F5.new d.block ⟨d,hd,rfl⟩)⟩;have hi5:=ItC.stp6 hi st5 (fun h=>h);have st15:=st13.trans (st5.mono (fun _ h=>h.elim));have ht:=Z8M (go:=visQ l (nibbles a) (nibbles b) f) (s:=s) (l:=subsOf xs path) (j:=j) (by omega);rw[hsj j hj16]at ht;have hw:JL JN ((j:Int)+1)=((j+1:Nat):Int):=by rw[Z0 (by omega) (by omega)];omega
    have herr:∀e,(foldK (visQ l (nibbles a) (nibbles b) f) s ((subsOf xs path).take j)).2=J e->e≠0:=fun e he=>Z5N (Z6z f) he;generalize foldK (visQ l (nibbles a) (nibbles b) f) s ((subsOf xs path).take j)=q at *
    obtain⟨s',oe⟩:=q;cases oe with
    |some er =>
     refine(ZFK I5 (herr er rfl)).mono ?_;rintro _ w6⟨rfl,lab6,st6,I6⟩;exact⟨rfl,⟨j+1,lab6,hw,by omega,st15.trans st6,by rw[ht];exact I6⟩,by rw[hw];omega⟩
    |none =>
     have hgj:Z32 xs[j]:=by have:=hkids j hj16;rwa[Z1E (by omega)]at this
     have hlen:(path++[V j]).length=path.length+1:=by simp
     have hc:=P (k:=k5) I5 hi5 hgj P5 (by rw[hlen];exact F5.own.cap.1) (fun x hx=>(List.mem_append.1 hx).elim (hnib x) (nib_one hj16 x)) (by omega);rw[hlen]at hc;refine hc.mono ?_;rintro _ w6⟨rfl,lab6,st6,I6⟩;exact⟨rfl,⟨j+1,lab6,hw,by omega,st15.trans st6,by rw[ht];exact I6⟩,by rw[hw];omega⟩
   refine⟨_,_,_,c4 _ M0,_,rfl,⟨by omega,by omega⟩,_,_,_,_,_,_,_,c1 _ M0,c2 _ M0,c3 _ M0,?_,?_⟩
   ·obtain⟨o4,k4,w4,hr4,F4⟩:=Z1D (k2:=k) (ty:=Zu) (Mod.refl w3) P3.rd (by omega)
    refine⟨_,w4,hr4,_,_,_,rfl,c1 _ F4.mod,c2 _ F4.mod,c3 _ F4.mod,c4 _ F4.mod,?_⟩;rintro d5 w5⟨rfl,rfl⟩;rw[Z6F hj16];have M5:=Mod.alloc (S:=NoB) w4 (Y #[bV (V j)] 5)
    have Z5:RdB (w4.alloc (Y #[bV (V j)] 5)) (J ⟨w4.heap.size,0,X⟩) [V j]:=RdB.of_blk (Blk.new w4 5 #[bV (V j)]) (fun i hi=>by
     obtain rfl:i=0:=by simpa using hi
     rfl)
    have F5:=F4.mod' M5;refine⟨c1 _ F5.mod,c2 _ F5.mod,c3 _ F5.mod,c4 _ F5.mod,?_⟩;obtain⟨o6,k6,w6,hr6,F6⟩:=ZW (ty:=Zu) (k2:=1) F5 Z5 (by simp;omega);exact⟨_,w6,hr6,_,_,_,rfl,c1 _ F6.mod,c2 _ F6.mod,c3 _ F6.mod,c4 _ F6.mod,kid w6 o6 k6 F6⟩
   ·rintro d5 w5⟨rfl,rfl⟩
    rw[Z6F hj16];have M5:=Mod.alloc (S:=NoB) w3 (Y #[bV (V j)] 5)
    have Z5:RdB (w3.alloc (Y #[bV (V j)] 5)) (J ⟨w3.heap.size,0,X⟩) [V j]:=RdB.of_blk (Blk.new w3 5 #[bV (V j)]) (fun i hi=>by
     obtain rfl:i=0:=by simpa using hi
     rfl)
    refine⟨c1 _ M5,c2 _ M5,c3 _ M5,c4 _ M5,?_⟩;obtain⟨o4,k4,w4,hr4,F4⟩:=Z1D (w0:=w3) (k2:=k) (ty:=Zu) M5 (P3.rd.mod' M5) (by omega)
    have hZ:RdB w4 (J ⟨w3.heap.size,0,X⟩) [V j]:=by
     obtain⟨o4',k4',w4',hr4',F4'⟩:=Z1D (k2:=k) (ty:=Zu) (Mod.refl (w3.alloc (Y #[bV (V j)] 5))) (P3.rd.mod' M5) (by omega);have e:=hr4'.symm.trans hr4;cases e;exact Z5.mod' F4'.mod
    refine⟨_,w4,hr4,_,_,_,rfl,c1 _ F4.mod,c2 _ F4.mod,c3 _ F4.mod,c4 _ F4.mod,?_⟩;obtain⟨o6,k6,w6,hr6,F6⟩:=ZW (ty:=Zu) (k2:=1) F4 hZ (by simp;omega);exact⟨_,w6,hr6,_,_,_,rfl,c1 _ F6.mod,c2 _ F6.mod,c3 _ F6.mod,c4 _ F6.mod,kid w6 o6 k6 F6⟩
  ·obtain rfl:j=16:=by omega
   have e:(subsOf xs path).take 16=subsOf xs path:=J4 (by omega);rw[e]at I2;exact hR _ _ ⟨rfl,lab2,(st1.mono (fun _ h=>h.elim)).trans st2,I2⟩
end
section
variable{l:RS}{a b:By}{D f:Nat}
theorem Z7R(hb:∀x∈l,x.2.length<=2^30)(hlen:l.length<=4096)(ha32:a.length=32)(hb32:b.length=32)(P:ZDS l a b D f){w:C}{lab:Nat->Nat}{s:RS}{h:By}{o:Option Addr}{k:Nat}{path:By}(hI:MkS l a b D w lab s 0)(hh:h.length=32)(hp:CBy w lab 6 o path)(hk:path.length<=k)(hnib:Nib path)(hf:66<=f+1+path.length)(hl:path.length<=64) :
  JV I Zf.n #[JS (J ⟨D,0,X⟩),.agg (hashA h),.slice o path.length k] w (fun e w'=>e=N (JJ #[])/\∃lab',Stp SM' w lab w' lab'/\MkS l a b D w' lab' (visQ l (nibbles a) (nibbles b) (f+1) s (.s h) path).1 (ZCw (visQ l (nibbles a) (nibbles b) (f+1) s (.s h) path).2)):=by
 refine ZG fun R hR=>Zf.vc _ _ _ _ _ _ _ ?_;unfold Zf.Vc;have hne:h≠[]:=by rintro rfl;cases hh
 rintro d w1⟨rfl,rfl⟩;have st1:Stp NoS w lab (w.alloc (Y (hashA h) 27)) (ext lab w.heap.size 5):=Stp.alloc NoS w lab _ 5;have H1:=CB.new w lab 5 27 (hashA h);have I1:=hI.no st1;have P1:=hp.stp st1 (fun h=>h);generalize w.heap.size=E at *
 generalize w.alloc (Y (hashA h) 27)=w1 at *
 generalize ext lab E 5=lab1 at *
 rintro _ rfl;have st2:Stp NoS w1 lab1 w1.drew lab1:=Stp.drew NoS w1 lab1;have I2:=I1.no st2;have H2:=H1.stp st2 (fun h=>h);have P2:=P1.stp st2 (fun h=>h);have st02:=st1.trans st2;clear I1 H1 P1 st1 st2;generalize w1.drew=w2 at *
 have off:∀w' lab',Stp NoS w2 lab1 w' lab'->Off (nibbles a) (nibbles b) path->R (N (JJ #[])) w':=fun w' lab' st ho=>by
  have e:visQ l (nibbles a) (nibbles b) (f+1) s (.s h) path=(s,X):=by
   show(if Off (nibbles a) (nibbles b) path\/h=[]then(s,X)else _)=_;rw[if_pos (.inl ho)]
  rw[e]at hR;exact hR _ _ ⟨rfl,lab',(st02.trans st).mono (fun _ h=>h.elim),I2.no st⟩
 obtain⟨ol,kl,oo,n,ko,e1,e2,e3⟩:=I2.ex;refine⟨0,I2.rdBad,fun h=>(h rfl).elim,fun _=>⟨hashA a,?_,hashA b,?_,?_⟩⟩
 ·exact⟨ZA a,fun i hi=>by rw[Z6,Z6,<-ZHJ (o:=ol) (n:=l.length) (k:=kl) (b:=b) hi,e1.blk.cell,show 0+1+i=1+i by omega,Z8W (Z2S ..) (by omega)]⟩
 ·exact⟨ZA b,fun i hi=>by rw[Z6,Z6,<-ZHK (o:=ol) (n:=l.length) (k:=kl) (a:=a) hi,e1.blk.cell,show 0+33+i=33+i by omega,Z8W (Z2S ..) (by omega)]⟩
 refine(ZBX (k:=k) ha32 hb32 P2.rd hl).mono ?_;rintro _ w3⟨rfl,M3⟩;have st3:Stp NoS w2 lab1 w3 (ext lab1 w2.heap.size 5):=Stp.of_nob M3 5;refine⟨_,rfl,fun hv=>off _ _ st3 (.inr hv),fun hv=>?_⟩;have hon:¬Off (nibbles a) (nibbles b) path:=fun h=>h.elim (fun h=>by omega) (fun h=>h hv)
 have hvis:visQ l (nibbles a) (nibbles b) (f+1) s (.s h) path=Z55 (visQ l (nibbles a) (nibbles b) f) l s h path:=by
  show(if Off (nibbles a) (nibbles b) path\/h=[]then(s,X)else _)=_;rw[if_neg (fun h=>h.elim hon hne)]
 rw[hvis]at hR;rintro _ rfl;have st4:=st3.trans (Stp.drew NoS w3 (ext lab1 w2.heap.size 5));have I4:=I2.no st4;have H4:=H2.stp st4 (fun h=>h);have P4:=P2.stp st4 (fun h=>h);have st04:=st02.trans st4;clear off I2 H2 P2 st02 st3 st4 e1 e2 e3 M3;generalize w3.drew=w4 at *
 generalize ext lab1 w2.heap.size 5=lab4 at *
 obtain⟨ol,kl,oo,n,ko,e1,e2,e3⟩:=I4.ex;refine⟨_,_,_,by have:=e1.blk.rd1 (i:=0) (v:=.slice ol l.length kl) (by rw[Z8W (Z2S ..) (by omega)];rfl);exact this,hashA h,H4.blk.rowAll (ZA _),?_⟩;refine(Z7g (k:=kl) e2 hh (by omega)).mono ?_;rintro e w5⟨M5,hno,hyes⟩;have st5:Stp NoS w4 lab4 w5 (ext lab4 w4.heap.size 5):=Stp.of_nob M5 5;have I5:=I4.no st5;have H5:=H4.stp st5 (fun h=>h);have P5:=P4.stp st5 (fun h=>h);have st05:=st04.trans st5
 have hyes5:∀b,Z14 l h=J b->∃ob kb,e=N (JJ #[.slice ob b.length kb,J3 Ja])/\CBy w5 (ext lab4 w4.heap.size 5) 0 ob b/\b.length<=kb:=fun b hb=>by
  obtain⟨ob,kb,h1,h2,h3⟩:=hyes b hb;exact⟨ob,kb,h1,h2.stp st5 (fun h=>h),h3⟩
 clear hyes I4 H4 P4 st04 st5 e1 e2 e3 M5;generalize ext lab4 w4.heap.size 5=lab5 at *
 cases hfn:Z14 l h with
 |none =>
  obtain rfl:=hno hfn;obtain⟨g1,g2⟩:=I5.setBad 160;refine⟨_,_,_,_,rfl,fun _=>⟨g1,fun w6 h6=>?_⟩,fun h=>(by cases h)⟩;obtain⟨st6,I6⟩:=g2 w6 h6;have e:Z55 (visQ l (nibbles a) (nibbles b) f) l s h path=(s,J 160):=by unfold Z55;rw[hfn]
  rw[e]at hR;exact hR _ _ ⟨rfl,lab5,(st05.mono (fun _ h=>h.elim)).trans st6,I6⟩
 |some c =>
  obtain⟨oc,kc,rfl,hc5,hck⟩:=hyes5 c hfn;clear hno hyes5;have hc30:c.length<=2^30:=hb _ (Z5M hfn);refine⟨_,_,_,_,rfl,fun h=>(by cases h),fun _=>?_⟩;refine(ZAU hc5.rd hck).mono ?_;rintro _ w6⟨rfl,M6⟩;have st6:Stp NoS w5 lab5 w6 (ext lab5 w5.heap.size 5):=Stp.of_nob M6 5;have I6:=I5.no st6;have H6:=H5.stp st6 (fun h=>h);have P6:=P5.stp st6 (fun h=>h);have hc6:=hc5.stp st6 (fun h=>h);have st06:=st05.trans st6;clear I5 H5 P5 hc5 st05 st6 M6;generalize ext lab5 w5.heap.size 5=lab6 at *
  refine⟨_,rfl,fun hne'=>?_,fun h0=>?_⟩
  ·obtain⟨g1,g2⟩:=I6.setBad 161
   refine⟨g1,fun w7 h7=>?_⟩;obtain⟨st7,I7⟩:=g2 w7 h7
   have e:Z55 (visQ l (nibbles a) (nibbles b) f) l s h path=(s,J 161):=by
    unfold Z55;rw[hfn];exact if_pos hne'
   rw[e]at hR;exact hR _ _ ⟨rfl,lab6,(st06.mono (fun _ h=>h.elim)).trans st7,I7⟩
  ·obtain⟨xs,hdc,hn,hg⟩:=Z22 h0
   have hres:Z55 (visQ l (nibbles a) (nibbles b) f) l s h path=eachW (visQ l (nibbles a) (nibbles b) f) (if met s h then s else s++[(h,c)]) xs path:=by
    unfold Z55;rw[hfn];refine(if_neg (by simp[h0])).trans ?_;rw[hdc]
   rw[hres]at hR;rintro _ rfl;have st7:Stp NoS w6 lab6 w6.drew lab6:=Stp.drew NoS w6 lab6;have I7:=I6.no st7;have H7:=H6.stp st7 (fun h=>h);have P7:=P6.stp st7 (fun h=>h);have hc7:=hc6.stp st7 (fun h=>h);have st07:=st06.trans st7;clear I6 H6 P6 hc6 st06 st7;generalize w6.drew=w7 at *
   obtain⟨ol,kl,oo,n,ko,e1,e2,e3⟩:=I7.ex;have hsl:=I7.laid.len;obtain⟨hn1,_⟩:=id e3;subst hn1;refine⟨_,_,_,by rw[Z6];exact e1.blk.rd1 (ZCN (Z2S ..)),hashA h,H7.blk.rowAll (ZA _),?_⟩;refine(Z7g (k:=ko) e3.row hh (by omega)).mono ?_;rintro e w8⟨M8,hno,hyes⟩;have st8:Stp NoS w7 lab6 w8 (ext lab6 w7.heap.size 5):=Stp.of_nob M8 5;have I8:=I7.no st8;have H8:=H7.stp st8 (fun h=>h);have P8:=P7.stp st8 (fun h=>h);have hc8:=hc7.stp st8 (fun h=>h);have st08:=st07.trans st8
   have he:∃ob lb kb,e=N (JJ #[.slice ob lb kb,J3 (met s h)]):=by
    rw[<-ZDw];cases hq:Z14 s h with
    |none=>exact⟨_,_,_,hno hq⟩
    |some q=>obtain⟨ob,kb,h1,_⟩:=hyes q hq;exact⟨_,_,_,h1⟩
   obtain⟨ob,lb,kb,rfl⟩:=he;clear hno hyes I7 H7 P7 hc7 st07 st8 e1 e2 e3 M8;generalize ext lab6 w7.heap.size 5=lab8 at *
   refine⟨_,_,_,_,rfl,fun w'=>∃lab',Stp SM' w8 lab8 w' lab'/\MkS l a b D w' lab' (if met s h then s else s++[(h,c)]) 0,⟨fun hm=>?_,fun hm=>⟨lab8,Stp.refl _ _ _,by rw[hm];exact I8⟩⟩,?_⟩
   ·rintro _ rfl
    have st9:Stp NoS w8 lab8 w8.drew lab8:=Stp.drew NoS w8 lab8;have I9:=I8.no st9;have H9:=H8.stp st9 (fun h=>h);have hc9:=hc8.stp st9 (fun h=>h);generalize w8.drew=w9 at *
    obtain⟨ol,kl,oo,n,ko,e1,e2,e3⟩:=I9.ex;have c65:∀{w':C}{lab':Nat->Nat},CB w' lab' 7 D 96 (mkA (mkP ol l.length kl a b) (.slice oo n ko) (.int JN 0))->J1 w' (A ⟨D,0,X⟩ 65)=J (.slice oo n ko):=fun h=>by rw[Z6];exact h.blk.rd1 (ZCN (Z2S ..))
    refine⟨_,_,_,c65 e1,hashA h,H9.blk.rowAll (ZA _),?_⟩;obtain⟨o10,k10,w10,hr10,F10⟩:=Z1D (k2:=kc) (ty:=Zu) (Mod.refl w9) hc9.rd (by omega);have st10:Stp NoS w9 lab8 w10 (ext lab8 w9.heap.size 10):=Stp.of_nob F10.mod 10;have c10:CBy w10 (ext lab8 w9.heap.size 10) 10 o10 c:=⟨ZN F10,fun _ d hd=>ext_new (F10.new d.block ⟨d,hd,rfl⟩)⟩;have e1a:=e1.stp st10 (fun h=>h);have e2a:=e2.stp st10 (fun h=>h);have e3a:=e3.stp st10 (fun h=>h) (fun h=>h);have H10:=H9.stp st10 (fun h=>h);have hZ:nd0.size=33:=rfl;refine⟨_,w10,hr10,_,_,_,rfl,H10.blk.rowAll (ZA _),c65 e1a,ZA h,by rw[ZX];unfold lputL;rw[ZX,hZ],?_⟩;rw[Z6p hZ];rintro d11 w11⟨rfl,rfl⟩;have st11:Stp NoS w10 (ext lab8 w9.heap.size 10) (w10.alloc (Y (ndA h o10 c.length k10) tNd)) (ext (ext lab8 w9.heap.size 10) w10.heap.size 5):=Stp.alloc NoS w10 _ _ 5;have B11:=Blk.new w10 tNd (ndA h o10 c.length k10);have e1b:=e1a.stp st11 (fun h=>h);have e2b:=e2a.stp st11 (fun h=>h);have e3b:=e3a.stp st11 (fun h=>h) (fun h=>h);have c11:=c10.stp st11 (fun h=>h);have st911:=st10.trans st11;change J1 (w10.alloc (Y (ndA h o10 c.length k10) tNd)) (A ⟨D,0,X⟩ 65)=J (.slice oo n ko)/\∃(v69:Value)(w70:C),Sem.run I (builtinV .append #[Z2z,Z2z] Z2z #[(.slice oo n ko),(.slice (J ⟨w10.heap.size,0,X⟩) 1 1)]) (w10.alloc (Y (ndA h o10 c.length k10) tNd))=.ok v69 w70/\_;generalize w10.alloc (Y (ndA h o10 c.length k10) tNd)=w11 at *
    generalize ext (ext lab8 w9.heap.size 10) w10.heap.size 5=lab11 at *
    obtain⟨o12,k12,w12,hr12,O12,st12⟩:=e3b.push (by decide) B11 hh c11 F10.own.cap.1 (by omega);have e1c:=e1b.stp st12 (by decide);have e2c:=e2b.stp st12 (by decide);refine⟨c65 e1b,_,w12,hr12,o12,_,k12,rfl,?_⟩;rw[Z6,JK];refine⟨e1c.blk.canSet (by rw[Z9A (Z2S ..)];omega) rfl,?_⟩;rintro _ rfl;have st13:Stp (fun k=>k=7) w12 (ext lab11 w11.heap.size 8) (w12.setCell ⟨D,65,X⟩ (.slice o12 (n+1) k12)) (ext lab11 w11.heap.size 8):=Stp.setCell e1c.clr;have e1d:=e1c.set 65 (.slice o12 (n+1) k12);rw[ZEF (Z2S ..)]at e1d;rw[hm];exact⟨_,((st9.mono (fun _ h=>h.elim)).trans (st911.mono (fun _ h=>h.elim))).trans ((st12.mono (fun _ h=>.inr h)).trans (st13.mono (fun _ h=>.inl h))),⟨ol,kl,o12,_,k12,e1d,e2c.stp st13 (by decide),O12.stp st13 (by decide) (by decide)⟩,I8.laid.push hfn hm⟩
   ·rintro _ w9⟨lab9,st9,I9⟩
    have P9:=P8.stp st9 (by decide);have hc9:=hc8.stp st9 (by decide);have st09:=(st08.mono (T:=SM') (fun _ h=>h.elim)).trans st9;refine(Z5b hc9.rd hck).mono ?_;rintro e w10⟨M10,hd⟩;unfold Z2E at hd;rw[hdc]at hd;obtain⟨v1,v2,v3,rfl,hx⟩:=hd;obtain⟨bb,p1,q1,r1,p2,q2,r2,rfl,rfl,rfl⟩:=hx.vals;have st10:Stp NoS w9 lab9 w10 (ext lab9 w9.heap.size 6):=Stp.of_nob M10 6
    have hx10:ItC (fun b=>ext lab9 w9.heap.size 6 b≠6) w10 (.l xs) (J3 bb) (.slice p1 q1 r1) (.slice p2 q2 r2):=ItC.restr (fun b hb hh=>by
     refine Nat.lt_of_not_le fun hge=>hh (ext_new hge)) hx
    have I10:=I9.no st10;have P10:=P9.stp st10 (fun h=>h);have st010:=st09.trans (st10.mono (T:=SM') (fun _ h=>h.elim));generalize ext lab9 w9.heap.size 6=lab10 at *
    refine⟨_,_,_,_,_,_,_,_,rfl,?_⟩;rintro d11 w11⟨rfl,rfl⟩;have H:=Blk.new w10 111 #[J3 JW,.slice X 0 0,.slice X 0 0];refine Z8i H rfl rfl rfl (fun w12 H12 Q12=>?_);have st12:Stp NoS w10 lab10 w12 (ext lab10 w10.heap.size 5):=Stp.of_nob (ZK (Mod.alloc w10 _) Q12 (L _)) 5;refine Z7w H12 ?_;refine(Z7S (k:=k) P (I10.no st12) (ItC.stp6 hx10 st12 (fun h=>h)) hg (P10.stp st12 (fun h=>h)) hk hnib hf hl).mono ?_;rintro _ w13⟨rfl,lab13,st13,I13⟩;exact⟨rfl,hR _ _ ⟨rfl,lab13,(st010.trans (st12.mono (fun _ h=>h.elim))).trans st13,I13⟩⟩
theorem ZGU(hb:∀x∈l,x.2.length<=2^30)(hlen:l.length<=4096)(ha32:a.length=32)(hb32:b.length=32):∀(f:Nat),ZDS l a b D f:=by
 intro f
 induction f with
 |zero =>
  intro w lab s x v1 v2 v3 o k path hI hx hg hp hk hnib hf;obtain⟨bb,p1,q1,r1,p2,q2,r2,rfl,rfl,rfl⟩:=hx.vals;refine ZD.vc _ _ _ _ _ _ _ _ _ _ _ _ _ ?_;unfold ZD.Vc;rintro d5 w1⟨rfl,rfl⟩;have st1:Stp NoS w lab (w.alloc (Y #[J3 bb,.slice p1 q1 r1,.slice p2 q2 r2] 111)) (ext lab w.heap.size 5):=Stp.alloc NoS w lab _ 5;have I1:=hI.no st1;exact⟨0,I1.rdBad,fun h=>(h rfl).elim,fun _=>⟨fun _=>⟨rfl,_,st1.mono (fun _ h=>h.elim),I1⟩,fun h=>absurd h (by omega)⟩⟩
 |succ f ih =>
  intro w lab s x v1 v2 v3 o k path hI hx hg hp hk hnib hf;by_cases hl:path.length>64
  ·have e:visQ l (nibbles a) (nibbles b) (f+1) s x path=(s,X):=Z9R hg (.inl hl)
   rw[e];obtain⟨bb,p1,q1,r1,p2,q2,r2,rfl,rfl,rfl⟩:=hx.vals;refine ZD.vc _ _ _ _ _ _ _ _ _ _ _ _ _ ?_;unfold ZD.Vc;rintro d5 w1⟨rfl,rfl⟩;have st1:Stp NoS w lab (w.alloc (Y #[J3 bb,.slice p1 q1 r1,.slice p2 q2 r2] 111)) (ext lab w.heap.size 5):=Stp.alloc NoS w lab _ 5;have I1:=hI.no st1;exact⟨0,I1.rdBad,fun h=>(h rfl).elim,fun _=>⟨fun _=>⟨rfl,_,st1.mono (fun _ h=>h.elim),I1⟩,fun h=>absurd h (by omega)⟩⟩
  cases x with
  |l xs =>
   have e:visQ l (nibbles a) (nibbles b) (f+1) s (.l xs) path=eachW (visQ l (nibbles a) (nibbles b) f) s xs path:=if_neg hl;rw[e];exact Z7S ih hI hx hg hp hk hnib hf (by omega)
  |s h =>
   have hx0:=hx;simp only[ItC]at hx;obtain⟨rfl,⟨ox,cx,rfl,hrx,_⟩,rfl⟩:=hx;refine ZD.vc _ _ _ _ _ _ _ _ _ _ _ _ _ ?_;unfold ZD.Vc;rintro d5 w1⟨rfl,rfl⟩;have st1:Stp NoS w lab (w.alloc (Y #[J3 JW,.slice ox h.length cx,.slice X 0 0] 111)) (ext lab w.heap.size 5):=Stp.alloc NoS w lab _ 5;have X1:=CB.new w lab 5 111 #[J3 JW,.slice ox h.length cx,.slice X 0 0];have I1:=hI.no st1;have P1:=hp.stp st1 (fun h=>h);have hr1:=hrx.mod' (Mod.alloc (S:=NoB) w (Y #[J3 JW,.slice ox h.length cx,.slice X 0 0] 111));generalize w.heap.size=E at *
   generalize w.alloc (Y #[J3 JW,.slice ox h.length cx,.slice X 0 0] 111)=w1 at *
   generalize ext lab E 5=lab1 at *
   refine⟨0,I1.rdBad,fun h=>(h rfl).elim,fun _=>⟨fun h=>absurd h (by omega),fun _=>⟨JW,X1.blk.rd1 rfl,fun _=>⟨_,_,_,by rw[Z6];exact X1.blk.rd1 rfl,fun h32=>?_,fun h32=>?_⟩,fun h=>(by cases h)⟩⟩⟩
   ·have h32:h.length=32:=by omega
    rintro d2 w2⟨rfl,rfl⟩;have st2:Stp NoS w1 lab1 (w1.alloc (Y (K 32 (.int Jc 0)) 27)) (ext lab1 w1.heap.size 5):=Stp.alloc NoS w1 lab1 _ 5;have Z2:=CB.new w1 lab1 5 27 (K 32 (.int Jc 0));have X2:=X1.stp st2 (fun h=>h);have I2:=I1.no st2;have P2:=P1.stp st2 (fun h=>h);have hr2:=hr1.mod' (Mod.alloc (S:=NoB) w1 (Y (K 32 (.int Jc 0)) 27));have st02:=st1.trans st2;have hge:∀{w':C},Vcg.Mod (·=w1.heap.size) (w1.alloc (Y (K 32 (.int Jc 0)) 27)).drew w'->Vcg.Mod NoB w1 w':=fun Q=>ZK ((Mod.alloc (S:=NoB) w1 (Y (K 32 (.int Jc 0)) 27)).step_drew) Q (L _);rintro _ rfl;have X3:=X2.blk.drew;have Z3:=Z2.blk.drew;have hr3:=hr2.mod' (Mod.drew (S:=NoB) _);obtain⟨w4,h4,Z4,Q4⟩:=Z4T (P:=I) (t:=23) (tx:=23) (ty:=3) (dLen:=32) (dCap:=32) (n:=32) (o:=0) (c:=cx) Zn Z0y Z3 hr3 (by rw[h32];rfl) (by simp);rw[ZDl (by simp) h32]at Z4;refine⟨_,_,_,by rw[Z6];exact X3.rd1 rfl,_,w4,h4,_,rfl,hashA h,Z4.rowAll (ZA _),?_⟩;have st4:Stp NoS w1 lab1 w4 (ext lab1 w1.heap.size 5):=Stp.of_nob (hge Q4) 5;refine(Z7R (k:=k) hb hlen ha32 hb32 ih (I1.no st4) h32 (P1.stp st4 (fun h=>h)) hk hnib hf (by omega)).mono ?_;rintro _ w5⟨rfl,lab5,st5,I5⟩;exact⟨rfl,rfl,lab5,((st1.trans st4).mono (fun _ h=>h.elim)).trans st5,I5⟩
   ·have hnil:h=[]:=(hg.str).resolve_right (fun h'=>h32 (by omega))
    subst hnil;have e:visQ l (nibbles a) (nibbles b) (f+1) s (.s []) path=(s,X):=if_pos (.inr rfl);rw[e];exact⟨rfl,lab1,st1.mono (fun _ h=>h.elim),I1⟩
end
theorem ZFR{o:Option Addr}{n k:Nat}{a b:By}{Z:Array Value}(hZ:Z=mkA (JX X 0 0::Jb 64 (.int Jc 0)) (.slice X 0 0) (.int JN 0)):lputL (lputL (setsAt Z 0 [.slice o n k]) 1 32 (hashA a)) 33 32 (hashA b)=mkA (mkP o n k a b) (.slice X 0 0) (.int JN 0):=by
 have hZs:Z.size=67:=by rw[hZ];rfl
 have ea:(hashA a).toList.take 32=(hashA a).toList:=J4 (by rw[O,ZA];omega);have eb:(hashA b).toList.take 32=(hashA b).toList:=J4 (by rw[O,ZA];omega);have la:(hashA a).toList.length=32:=by rw[O,ZA]
 have lb:(hashA b).toList.length=32:=by rw[O,ZA]
 have z1:(setsAt Z 0 [.slice o n k]).size=67:=by rw[ZX,hZs]
 have z2:(lputL (setsAt Z 0 [.slice o n k]) 1 32 (hashA a)).size=67:=by unfold lputL;rw[ZX,z1]
 apply Array.ext_getElem?;intro i;have hm:=Z2S o n k a b;by_cases hi:i<67
 ·have e1:(lputL (lputL (setsAt Z 0 [.slice o n k]) 1 32 (hashA a)) 33 32 (hashA b))[i]?=if 33<=i/\i<65 then(hashA b)[i-33]? else if 1<=i/\i<33 then(hashA a)[i-1]? else if i=0 then J (.slice o n k)else Z[i]?:=by
    rw[show lputL (lputL (setsAt Z 0 [.slice o n k]) 1 32 (hashA a)) 33 32 (hashA b)=setsAt (lputL (setsAt Z 0 [.slice o n k]) 1 32 (hashA a)) 33 ((hashA b).toList.take 32)from rfl,eb,Zq _ _ _ _ (by rw[lb,z2];omega),lb];by_cases c1:33<=i/\i<65
    ·rw[if_pos (by omega),if_pos c1,U]
    ·rw[if_neg (by omega),if_neg c1,show lputL (setsAt Z 0 [.slice o n k]) 1 32 (hashA a)=setsAt (setsAt Z 0 [.slice o n k]) 1 ((hashA a).toList.take 32)from rfl,ea,Zq _ _ _ _ (by rw[la,z1];omega),la]
     by_cases c2:1<=i/\i<33
     ·rw[if_pos (by omega),if_pos c2,U]
     ·rw[if_neg (by omega),if_neg c2,Zq _ _ _ _ (by rw[hZs];simp)]
      by_cases c3:i=0
      ·subst c3;rw[if_pos (by simp),if_pos rfl];rfl
      ·rw[if_neg (by simp;omega),if_neg c3]
  rw[e1];by_cases c1:33<=i/\i<65
  ·rw[if_pos c1,Z8W hm (by omega),<-ZHK (o:=o) (n:=n) (k:=k) (a:=a) (by omega),show 33+(i-33)=i by omega]
  ·rw[if_neg c1]
   by_cases c2:1<=i/\i<33
   ·rw[if_pos c2,Z8W hm (by omega),<-ZHJ (o:=o) (n:=n) (k:=k) (b:=b) (by omega),show 1+(i-1)=i by omega]
   ·rw[if_neg c2]
    by_cases c3:i=0
    ·subst c3;rw[if_pos rfl,Z8W hm (by omega)];rfl
    ·rw[if_neg c3,hZ]
     have:i=65\/i=66:=by omega
     rcases this with rfl|rfl
     ·rw[ZCN hm];rfl
     ·rw[ZG9 hm];rfl
 ·rw[JM (by rw[show(lputL (lputL (setsAt Z 0 [.slice o n k]) 1 32 (hashA a)) 33 32 (hashA b)).size=67 by unfold lputL at z2 ⊢;rw[ZX,z2]];omega),JM (by rw[Z9A hm];omega)]
theorem ZEE{l:List (By×By)}{gone:Int}{bad:By}{x:By×By}(h:x∈Z3w l gone bad):x∈l\/x.2=bad:=by
 unfold Z3w at h;split at h
 ·exact .inl h
 ·split at h
  ·rcases List.mem_append.1 h with h|h
   ·exact .inl (List.mem_of_mem_take h)
   ·exact .inl (List.mem_of_mem_drop h)
  ·split at h
   ·rcases List.mem_or_eq_of_mem_set h with h|rfl
    ·exact .inl h
    ·exact .inr rfl
   ·exact .inl h
theorem ZEv(l:List (By×By))(gone:Int)(bad:By):(Z3w l gone bad).length<=l.length:=by
 unfold Z3w;split
 ·exact L _
 ·split
  ·rw[JA,List.length_take,List.length_drop];omega
  ·split
   ·rw[List.length_set];exact L _
   ·exact L _
theorem StR.kv{w:C}{o:Option Addr}{m:List (By×By)}(h:StR w o m):Z5G w (fun _=>0) 0 o m:=fun j hj=>by
 obtain⟨b,f,ok,kk,ov,kv,e1,e2,e3,e4,e5,e6⟩:=h j hj;exact⟨b,f,ok,kk,ov,kv,e1,e2,rfl,e3,⟨e4,fun _ _ _=>rfl⟩,e5,⟨e6,fun _ _ _=>rfl⟩⟩
theorem ZCr.kv{m:List (By×By)}(h:ZCr m):KvOk m:=⟨by have:=h.len;omega,h.keys,fun e he=>by have:=(h.vals e he).2;omega⟩
theorem ZCr.trie{m:List (By×By)}(h:ZCr m):∃n,Rep (Z0L m) n/\Z1c n/\Z5u n/\cnt n<=160:=by
 obtain⟨n,h1,h2,h3,h4⟩:=ZGl m h.srt h.keys (fun e he=>⟨(h.vals e he).1,by have:=(h.vals e he).2;omega⟩);have:=h.len;exact⟨n,h1,h2,Z6v h2 h3,by omega⟩
theorem ZEX{w:C}{D:Nat}{h:By}(hh:h.length=32)(B:Blk w D 27 (hashA h)):RdB w (J ⟨D,0,X⟩) h:=RdB.of_blk B (fun i hi=>by rw[JK];exact ZE (by omega))
theorem Z69{w:C}{lab:Nat->Nat}{c:Nat}{l:RS}{o:Option Addr}{k:Nat}{root least most:By}(h:Z0m w lab c l o l.length)(hb:∀x∈l,x.2.length<=2^30)(hr:root.length=32)(hl:least.length=32)(hm:most.length=32) :
  JV I Ze.n #[.slice o l.length k,.agg (hashA root),.agg (hashA least),.agg (hashA most)] w (Z2P (Z2V l root least most) w):=by
 refine ZG fun R hR=>Ze.vc _ _ _ _ _ _ _ _ ?_;unfold Ze.Vc;have hN:Z0m w (fun _=>0) 0 l o l.length:=Z0m.re h (fun k hk _=>rfl);rintro d1 w1⟨rfl,rfl⟩;have st1:Stp NoS w (fun _=>0) (w.alloc (Y (hashA root) 27)) (ext (fun _=>0) w.heap.size 1):=Stp.alloc NoS w _ _ 1;have X1:=CB.new w (fun _=>0) 1 27 (hashA root);generalize w.heap.size=D1 at *
 generalize w.alloc (Y (hashA root) 27)=w1 at *
 generalize hlab1:ext (fun _=>0) D1 1=lab1 at *
 rintro d2 w2⟨rfl,rfl⟩;have st2:Stp NoS w1 lab1 (w1.alloc (Y (hashA least) 27)) (ext lab1 w1.heap.size 1):=Stp.alloc NoS w1 _ _ 1;have A2:=CB.new w1 lab1 1 27 (hashA least);have X2:=X1.stp st2 (fun h=>h);have s2:=st1.trans st2;clear X1 st1 st2;generalize w1.heap.size=D2 at *
 generalize w1.alloc (Y (hashA least) 27)=w2 at *
 generalize ext lab1 D2 1=lab2 at *
 rintro d3 w3⟨rfl,rfl⟩;have st3:Stp NoS w2 lab2 (w2.alloc (Y (hashA most) 27)) (ext lab2 w2.heap.size 1):=Stp.alloc NoS w2 _ _ 1;have B3:=CB.new w2 lab2 1 27 (hashA most);have X3:=X2.stp st3 (fun h=>h);have A3:=A2.stp st3 (fun h=>h);have s3:=s2.trans st3;clear X2 A2 s2 st3;generalize w2.heap.size=D3 at *
 generalize w2.alloc (Y (hashA most) 27)=w3 at *
 generalize ext lab2 D3 1=lab3 at *
 have fin:∀(r:RS×Int)(e:Ending)(w':C)(lab':Nat->Nat),Stp SM' w (fun _=>0) w' lab'->Z2V l root least most=r->(Vcg.Mod NoB w w'->Z2P r w e w')->R e w':=fun r e w' lab' st hrr hi=>by
  have M:Vcg.Mod NoB w w':=st.nob (fun k hk hs=>by rcases hs with h|h<;>cases h);exact hR _ _ (by rw[hrr];exact hi M)
 refine⟨fun hbig=>fin ([],162) _ _ _ (s3.mono (fun _ h=>h.elim)) (by unfold Z2V;rw[if_pos (by omega)]) (fun M=>Z2P.none_ M),fun hsmall=>?_⟩;rintro _ rfl;have st4:Stp NoS w3 lab3 w3.drew lab3:=Stp.drew NoS w3 lab3;have X4:=X3.stp st4 (fun h=>h);have A4:=A3.stp st4 (fun h=>h);have B4:=B3.stp st4 (fun h=>h);have s4:=s3.trans st4;clear X3 A3 B3 s3 st4;generalize w3.drew=w4 at *
 refine(Z9r (k1:=32) (k2:=32) (a:=most) (b:=least) hm.symm hl.symm (ZEX hm B4.blk) (ZEX hl A4.blk) (by omega)).mono ?_;rintro _ w5⟨rfl,M5⟩;have st5:Stp NoS w4 lab3 w5 (ext lab3 w4.heap.size 1):=Stp.of_nob M5 1;have X5:=X4.stp st5 (fun h=>h);have A5:=A4.stp st5 (fun h=>h);have B5:=B4.stp st5 (fun h=>h);have s5:=s4.trans st5;clear X4 A4 B4 s4 st5 M5;generalize ext lab3 w4.heap.size 1=lab5 at *
 refine⟨_,rfl,fun hneg=>fin ([],164) _ _ _ (s5.mono (fun _ h=>h.elim)) (by unfold Z2V;rw[if_neg (by omega),if_pos hneg]) (fun M=>Z2P.none_ M),fun hpos=>?_⟩;refine⟨hashA least,A5.blk.rowAll (ZA _),hashA most,B5.blk.rowAll (ZA _),ZA _,ZA _,?_⟩;intro d6 w6 hnew
 have hnew:ZB w5 96 (mkA (mkP o l.length k least most) (.slice X 0 0) (.int JN 0)) d6 w6:=by
  rw[<-ZFR (o:=o) (n:=l.length) (k:=k) (a:=least) (b:=most) (Z:=mkA (JX X 0 0::Jb 64 (.int Jc 0)) (.slice X 0 0) (.int JN 0)) rfl];exact hnew
 obtain⟨rfl,rfl⟩:=hnew;have st6:Stp NoS w5 lab5 (w5.alloc (Y (mkA (mkP o l.length k least most) (.slice X 0 0) (.int JN 0)) 96)) (ext lab5 w5.heap.size 7):=Stp.alloc NoS w5 _ _ 7;have K6:=CB.new w5 lab5 7 96 (mkA (mkP o l.length k least most) (.slice X 0 0) (.int JN 0));have X6:=X5.stp st6 (fun h=>h);have s6:=s5.trans st6;generalize w5.heap.size=D6 at *
 generalize w5.alloc (Y (mkA (mkP o l.length k least most) (.slice X 0 0) (.int JN 0)) 96)=w6 at *
 generalize ext lab5 D6 7=lab6 at *
 have I6:MkS l least most D6 w6 lab6 [] 0:=⟨⟨o,k,X,0,0,K6,hN.stp s6 (fun h=>h),Z4g.nil _ _ _ _⟩,Z74.nil l⟩;clear K6 st6 X5 A5 B5 s5
 obtain⟨res,hres,hrr⟩:∃r:RS×Option Int,r=visP l (nibbles least) (nibbles most) 66 [] (rootIt root) []/\Z2V l root least most=(match r with
   |(s,X)=>(s,0)
   |(_,J e)=>([],e)):=by
  refine⟨_,rfl,?_⟩;unfold Z2V;exact(if_neg (show ¬l.length>4096 by omega)).trans (if_neg hpos)
 have herr:∀e,res.2=J e->e≠0:=fun e he=>by
  have:visQ l (nibbles least) (nibbles most) 66 [] (rootIt root) []=res:=by rw[hres];exact ZCm (Z7K hr)
  rw[<-this]at he;exact Z6z _ _ _ _ _ he
 refine⟨fun w'=>∃lab',Stp SM' w (fun _=>0) w' lab'/\MkS l least most D6 w' lab' res.1 (ZCw res.2),?_,?_⟩
 ·rintro _ rfl
  have st7:Stp NoS w6 lab6 w6.drew lab6:=Stp.drew NoS w6 lab6;have X7:=X6.stp st7 (fun h=>h);have I7:=I6.no st7;have s7:=s6.trans st7;generalize w6.drew=w7 at *
  refine⟨hashA root,X7.blk.rowAll (ZA _),?_⟩;refine(Z6X w7).mono ?_;rintro _ w8⟨rfl,M8⟩;have st8:Stp NoS w7 lab6 w8 (ext lab6 w7.heap.size 1):=Stp.of_nob M8 1;have X8:=X7.stp st8 (fun h=>h);have I8:=I7.no st8;have s8:=(s7.trans st8).mono (T:=SM') (fun _ h=>h.elim);generalize ext lab6 w7.heap.size 1=lab8 at *
  refine⟨hashA emptyH,rfl,X8.blk.rowAll (ZA _),_,Z94 _ _ hr (by unfold emptyH;exact Zs _),_,rfl,fun hne=>?_,fun heq=>?_⟩
  ·have hne:root≠emptyH:=of_decide_eq_true hne
   have hri:rootIt root=.s root:=if_neg hne;refine⟨hashA root,X8.blk.rowAll (ZA _),?_⟩;refine(Z7R (k:=0) (o:=X) (path:=[]) (f:=65) hb (by omega) hl hm (ZGU hb (by omega) hl hm 65) I8 hr (CBy.nil _ _ _ _) (L _) (fun x hx=>by cases hx) (by simp) (by simp)).mono ?_;rintro _ w9⟨rfl,lab9,st9,I9⟩;refine⟨rfl,lab9,s8.trans st9,?_⟩
   have e:visQ l (nibbles least) (nibbles most) (65+1) [] (.s root) []=res:=by
    rw[hres,hri];exact ZCm (.hash hr)
   rw[e]at I9;exact I9
  ·have he:root=emptyH:=Decidable.not_not.1 (of_decide_eq_false heq)
   have e:res=([],X):=by
    rw[hres,show rootIt root=.s []from if_pos he];exact if_pos (.inr rfl)
   rw[e];exact⟨lab8,s8,I8⟩
 ·rintro _ w7⟨lab7,s7,I7⟩
  obtain⟨s,oe⟩:=res;cases oe with
  |some er =>
   refine⟨_,I7.rdBad,fun _=>?_,fun h0=>(herr er rfl h0).elim⟩;rintro _ rfl;have I8:=I7.no (Stp.drew NoS w7 lab7);exact⟨_,I8.rdBad,fin ([],er) _ _ _ (s7.trans (Stp.drew SM' w7 lab7)) hrr (fun M=>Z2P.none_ M)⟩
  |none =>
   obtain⟨ol,kl,oo,n,ko,e1,e2,e3⟩:=I7.ex;obtain⟨hn1,_⟩:=id e3;subst hn1;refine⟨_,I7.rdBad,fun h=>(h rfl).elim,fun _=>⟨_,_,_,by rw[Z6];exact e1.blk.rd1 (ZCN (Z2S ..)),fin (s,0) _ _ _ s7 hrr (fun M=>⟨M,oo,ko,rfl,e3.row⟩)⟩⟩
theorem ZBd{w:C}{o:Option Addr}{k:Nat}{l:RS}(h:StR w o l)(hl:l.length<=2^30) :
  JV I Z0G.n #[.slice o l.length k] w (fun e w'=>∃b:Bool,e=N (J3 b)/\w'=w):=by
 refine Z0G.vc _ _ _ _ _ ?_;unfold Z0G.Vc;refine⟨fun i w'=>∃j:Nat,i=(j:Int)/\j<=l.length/\w'=w,fun i _=>((l.length:Int)-i).toNat,⟨0,rfl,J7 _,rfl⟩,?_⟩;rintro _ _ _⟨j,rfl,hj,rfl⟩;refine⟨fun hlt=>?_,fun _=>⟨Ja,rfl,rfl⟩⟩;obtain⟨b,f,ok,kk,ov,kv,e1,e2,e3,e4,e5,e6⟩:=h j (by omega);refine⟨_,e1,⟨by omega,by omega⟩,_,_,_,by rw[F,Z6];exact e3,fun _=>⟨JW,rfl,rfl⟩,fun _=>?_⟩;have ew:JL JN ((j:Int)+1)=((j+1:Nat):Int):=by rw[Z0 (by omega) (by omega)];omega
 rw[ew];exact⟨⟨j+1,rfl,by omega,rfl⟩,by dsimp only;omega⟩
theorem Z9b(w:C){o:Option Addr}{k:Nat}{m:RS}{gone:Int}{least most:By}(hm:StR w o m)(hl:least.length=32)(hmo:most.length=32) :
  JV I Zc.n #[.slice o m.length k,.int JN gone,.agg (hashA least),.agg (hashA most)] w (fun e w'=>e=N (J3 Ja)/\Vcg.Mod NoB w w'):=by
 refine Zc.vc _ _ _ _ _ _ _ _ ?_;unfold Zc.Vc;rintro d1 w1⟨rfl,rfl⟩;have M1:=Mod.alloc (S:=NoB) w (Y (hashA least) 27);have A1:=Blk.new w 27 (hashA least);generalize w.alloc (Y (hashA least) 27)=w1 at *
 rintro d2 w2⟨rfl,rfl⟩;have M12:=Mod.alloc (S:=NoB) w1 (Y (hashA most) 27);have B2:=Blk.new w1 27 (hashA most);have A2:=A1.mod' M12;have M2:=M1.none_trans M12;generalize w1.alloc (Y (hashA most) 27)=w2 at *
 refine(Z97 w2).mono ?_;rintro _ w3⟨rfl,M23⟩;have M3:=M2.none_trans M23;have A3:=A2.mod' M23;have B3:=B2.mod' M23;refine⟨_,rfl,fun h=>(by cases h),fun _=>?_⟩;refine(ZBE (k:=k) (hm.mod' M3)).mono ?_;rintro _ w4⟨bf,rfl,hfew,M34⟩;have M4:=M3.none_trans M34;have A4:=A3.mod' M34;have B4:=B3.mod' M34;refine⟨_,rfl,fun _=>⟨rfl,M4⟩,fun hbf=>?_⟩;have hf:=hfew hbf;refine(ZBd (k:=k) (hm.mod' M4) (by have:=hf.len;omega)).mono ?_;rintro _ w4⟨bs,rfl,rfl⟩;refine⟨_,rfl,fun _=>⟨rfl,M4⟩,fun _=>?_⟩;obtain⟨n,q1,q2,q3,q4⟩:=hf.trie;have hnl:=ZEJ n;refine(ZBu (k:=k) (hm.mod' M4).kv hf.kv q1 q2 q3 (by omega) 0).mono ?_;rintro _ w5⟨o5,k5,rfl,M45,N5⟩;have M5:=M4.none_trans M45;refine⟨_,_,_,_,rfl,?_⟩;rintro d w6⟨rfl,rfl⟩;have H6:=Blk.new w5 27 (K 32 (.int Jc 0));obtain⟨g1,g2,g3⟩:=Z1M H6 (by simp) (rootOf n);have M56:=ZK (Mod.alloc w5 (Y (K 32 (.int Jc 0)) 27)) g3 (L _);refine⟨_,g1,?_⟩;have M6:=M5.none_trans M56;have N6:Z0m _ (fun _=>0) 0 (Z0c n) o5 (Z0c n).length:=(N5.stp (S:=NoS) (Stp.of_nob M56 0) (fun h=>h)).re (lab':=fun _=>0) (c':=0) (fun _ _ _=>rfl);have A6:=(A4.mod' M45).mod' M56;have B6:=(B4.mod' M45).mod' M56;generalize w5.heap.size=D at *
 generalize((w5.alloc (Y (K 32 (.int Jc 0)) 27)).setRow D (hashA (rootOf n)))=w6 at *
 refine(Z38 (k:=k5) N6 (Z7W q3) (by omega) 0).mono ?_;rintro _ w7⟨o7,k7,rfl,_,M67,N7⟩;have M7:=M6.none_trans M67;refine⟨_,_,_,rfl,?_⟩;have hnil:RdB w7 X ([]:By):=RdB.nil _ _;refine(ZAe (k:=k7) (gone:=gone) (bad:=[]) (k2:=0) N7 (by omega) hnil (L _)).mono ?_;rintro _ w8⟨o8,k8,rfl,M78,N8⟩;have M8:=M7.none_trans M78;have M68:=M67.none_trans M78;have H8:=g2.mod' M68;have A8:=A6.mod' M68;have B8:=B6.mod' M68;have htl:=ZEv (Z0c n) gone []
 have hbt:∀x∈Z3w (Z0c n) gone [],x.2.length<=2^30:=fun x hx=>by
  rcases ZEE hx with h|h
  ·have:=Z7W q3 x h;omega
  ·rw[h];simp
 refine⟨_,_,_,rfl,_,H8.rowAll (ZA _),_,A8.rowAll (ZA _),_,B8.rowAll (ZA _),?_⟩;refine(Z6i (root:=rootOf n) (k:=k8) N8 (by omega) hbt (Zs _) hl hmo).mono ?_;rintro _ w9⟨M89,o9,k9,rfl,N9⟩;have M9:=M8.none_trans M89;have H9:=H8.mod' M89;have A9:=A8.mod' M89;have B9:=B8.mod' M89;refine⟨_,_,_,_,rfl,_,H9.rowAll (ZA _),_,A9.rowAll (ZA _),_,B9.rowAll (ZA _),?_⟩;refine(Z69 (root:=rootOf n) (k:=k8) (N8.stp (S:=NoS) (Stp.of_nob M89 0) (fun h=>h)) hbt (Zs _) hl hmo).mono ?_;rintro _ w10⟨M910,o10,k10,rfl,N10⟩;have M10:=M9.none_trans M910;refine⟨_,_,_,_,rfl,fun _=>?_,fun h=>(h rfl).elim⟩
 have hlen:(Z2V (Z3w (Z0c n) gone []) (rootOf n) least most).1.length<=2^20:=by
  have h1:(Z2V (Z3w (Z0c n) gone []) (rootOf n) least most).1.length<=(Z3w (Z0c n) gone []).length:=by
   unfold Z2V;split
   ·exact J7 _
   ·split
    ·exact J7 _
    ·split
     ·rename_i s hs
      have:=Z7q (l:=Z3w (Z0c n) gone []) (a:=nibbles least) (b:=nibbles most) (f:=66) (x:=rootIt (rootOf n)) (path:=[]) (Z74.nil _);rw[hs]at this;exact this.len
     ·exact J7 _
  omega
 refine(ZA9 (k1:=k9) (k2:=k10) ((N9.stp (S:=NoS) (Stp.of_nob M910 0) (fun h=>h)).re (lab':=fun _=>0) (c':=0) (fun _ _ _=>rfl)) N10 hlen).mono ?_;rintro _ w11⟨rfl,M11⟩;exact⟨_,rfl,by rw[decide_eq_true rfl],M10.none_trans M11⟩
end Go.Proofs.YtfghidehlnfdiaaGreat
end
section
namespace Go.Vcg
open Go
theorem Z5U{α β:Type}{f:α->Option β}:∀{l:List α} {ys:List β},l.mapM f=J ys->ys.length=l.length/\∀(i:Nat) (x:α),l[i]?=J x->∃y,ys[i]?=J y/\f x=J y
 |[],ys,h=>by
  rw[List.mapM_nil]at h;cases h;exact⟨rfl,fun i x hx=>by simp at hx⟩
 |a::l,ys,h=>by
  rw[List.mapM_cons]at h;cases ha:f a with
  |none=>simp[ha]at h
  |some b =>
   cases hl:l.mapM f with
   |none=>simp[ha,hl]at h
   |some bs =>
    simp[ha,hl]at h;subst h;obtain⟨h1,h2⟩:=Z5U hl;refine⟨by simp[h1],fun i x hx=>?_⟩;cases i with
    |zero=>simp at hx;subst hx;exact⟨b,rfl,ha⟩
    |succ i=>simp at hx;exact h2 i x hx
section
variable{H:Type}{enc:JF×Value->H}{P:Program}{W:C}{sp:Nat->Bool}{held:Bool}{base:Nat}
theorem ZBi{fuel:Nat}{t e:JF}{v:Value}{d:DataW H}{ps:List JO}(ht:P.underlying t=J (.slice e))(hce:P.cellsOf e=1)
  (h:G enc P W base sp held fuel t [v]=J (d,ps)) :
  ∃o l c,v=.slice o l c/\l<=c/\c<=maxLen/\((l=0/\d=.nil)\/∃elems spare,d=.slice elems spare/\elems.length=l /\
   ∀i,i<l->∃b f u d' ps' fuel',o=J ⟨b,f,X⟩/\b<W.heap.size/\W.cell? ⟨b,f+i,X⟩=J u/\G enc P W base sp held fuel' e [u]=J (d',ps')/\elems[i]?=J d'):=by
 obtain⟨o,l,c,rfl,hlc,hcm,hall⟩:=Z8o ht hce h;refine⟨o,l,c,rfl,hlc,hcm,?_⟩;cases fuel with
 |zero=>simp[G]at h
 |succ fuel =>
  cases o with
  |none =>
   left
   have:l=0/\c=0:=by
    rcases l with _|l<;>rcases c with _|c<;>simp[G,ht]at h ⊢
   obtain⟨rfl,rfl⟩:=this;simp[G,ht]at h;exact⟨rfl,h.1.symm⟩
  |some a =>
   right;simp only[G,ht,hce,Nat.mul_one]at h;split at h
   ·obtain⟨els,hm,h2⟩:=Option.bind_eq_some_iff.1 h
    obtain⟨rest,_,h3⟩:=Option.map_eq_some_iff.1 h2;cases h3;obtain⟨hl,hg⟩:=Z5U hm;rw[JC]at hl;refine⟨_,_,rfl,by simp[hl],fun i hi=>?_⟩;obtain⟨b,f,u,d',ps',fuel',ho,hb,hu,hd⟩:=hall i hi;cases ho;obtain⟨y,hy,hfy⟩:=hg i i (by rw[J2 hi]);obtain⟨vs,hv,hd2⟩:=Option.bind_eq_some_iff.1 hfy;obtain⟨u2,rfl,hu2⟩:=Z4z hv;rw[Z6,hu]at hu2;cases hu2;exact⟨b,f,u,y.1,y.2,fuel,rfl,hb,hu,hd2,by rw[JD,hy];rfl⟩
   ·cases h
end
theorem Z2O{H:Type}{P:Program}{n0:Nat}:∀{ts:List JF} {ds:List (DataW H)},(JE P ts ds).all (·<=n0)=Ja->∀(j:Nat) (t:JF) (d:DataW H),ts[j]?=J t->ds[j]?=J d->(d.weights P t).all (·<=n0)=Ja
 |t0::ts,d0::ds,h,0,t,d,ht,hd=>by
  simp at ht hd;subst ht hd;simp only[JE,JZ,JH]at h;exact h.1
 |t0::ts,d0::ds,h,j+1,t,d,ht,hd=>by
  simp only[JE,JZ,JH]at h;exact Z2O h.2 j t d (by simpa using ht) (by simpa using hd)
 |[],_,_,_,_,_,ht,_=>by simp at ht
 |_::_,[],_,_,_,_,_,hd=>by simp at hd
end Go.Vcg
end
section
namespace Go.Vcg
section
variable{H:Type}{enc:JF×Value->H}{P:Program}{W:C}{sp:Nat->Bool}{held:Bool}{base:Nat}
theorem Z8D{a:Addr}{n:Nat}{vs:List Value}(h:W.cells? base a n=J vs):vs.length=n/\∀j u,vs[j]?=J u->W.cell? (a.add j)=J u:=by
 unfold World.cells? at h;split at h
 ·obtain⟨hl,hg⟩:=Z5U h
  rw[JC]at hl;refine⟨hl,fun j u hu=>?_⟩;have hj:j<n:=by rw[<-hl];exact(List.getElem?_eq_some_iff.1 hu).1
  obtain⟨y,hy,hc⟩:=hg j j (by rw[J2 hj]);rw[hy]at hu;cases hu;exact hc
 ·cases h
theorem ZDh{a:Addr}{u:Value}(h:W.cell? a=J u):a.spot=X/\a.block<W.heap.size:=by
 unfold J1 at h;cases hs:a.spot with
 |none =>
  rw[hs]at h;refine⟨rfl,?_⟩;split at h
  ·rename_i hb;exact(Array.getElem?_eq_some_iff.1 hb).1
  ·cases h
 |some x =>
  rw[hs]at h;split at h<;>simp at h
theorem Z9P{fuel:Nat}{t e:JF}{v:Value}{d:DataW H}{ps:List JO}{n:Nat}(ht:P.underlying t=J (.slice e))(hce:P.cellsOf e=n)(hn:0<n)
  (h:G enc P W base sp held fuel t [v]=J (d,ps)) :
  ∃o l c,v=.slice o l c/\l<=c/\((l=0/\d=.nil)\/∃elems spare,d=.slice elems spare/\elems.length=l/\∀i,i<l->∃b f us d' ps' fuel',o=J ⟨b,f,X⟩/\b<W.heap.size/\us.length=n/\(∀j u,us[j]?=J u->W.cell? ⟨b,f+i*n+j,X⟩=J u)/\G enc P W base sp held fuel' e us=J (d',ps')/\elems[i]?=J d'):=by
 cases fuel with
 |zero=>simp[G]at h
 |succ fuel =>
  cases v with
  |slice o l c =>
   cases o with
   |none =>
    have:l=0/\c=0:=by
     rcases l with _|l<;>rcases c with _|c<;>simp[G,ht]at h ⊢
    obtain⟨rfl,rfl⟩:=this;simp[G,ht]at h;exact⟨X,0,0,rfl,L _,.inl ⟨rfl,h.1.symm⟩⟩
   |some a =>
    simp only[G,ht,hce]at h;split at h
    ·rename_i hb0
     obtain⟨els,hm,h2⟩:=Option.bind_eq_some_iff.1 h;obtain⟨rest,_,h3⟩:=Option.map_eq_some_iff.1 h2;cases h3;obtain⟨hl,hg⟩:=Z5U hm;rw[JC]at hl;refine⟨J a,l,c,rfl,hb0.2.1,.inr ⟨_,_,rfl,by simp[hl],fun i hi=>?_⟩⟩;obtain⟨y,hy1,hy⟩:=hg i i (by rw[J2 hi]);obtain⟨vs,hv,hd⟩:=Option.bind_eq_some_iff.1 hy;obtain⟨hlv,hgv⟩:=Z8D hv;obtain⟨y0,_,hy0⟩:=hg 0 0 (by rw[J2 (by omega)]);obtain⟨vs0,hv0,_⟩:=Option.bind_eq_some_iff.1 hy0;obtain⟨hl0,hg0⟩:=Z8D hv0;obtain⟨u,hu⟩:∃u,vs0[0]?=J u:=⟨vs0[0]'(by omega),List.getElem?_eq_getElem (by omega)⟩;obtain⟨hs,hb⟩:=ZDh (hg0 0 u hu);obtain⟨b,f,spot⟩:=a;have hs':spot=X:=by simpa[A]using hs
     have hb':b<W.heap.size:=by simpa[A]using hb
     subst hs';refine⟨b,f,vs,y.1,y.2,fuel,rfl,hb',hlv,fun j u hu=>?_,hd,by rw[JD,hy1];rfl⟩;have:=hgv j u hu;rw[Z6,Z6]at this;exact this
    ·cases h
  |_=>simp[G,ht]at h
theorem ZDH{fuel:Nat}{t:JF}{fs:Array Field}{us:List Value}{d:DataW H}{ps:List JO}(ht:P.underlying t=J (.struct fs))(h:G enc P W base sp held fuel t us=J (d,ps)) :
  us.length=P.cellsOf t/\∃parts,d=.agg parts/\∀(k:Nat)(f:Field),fs[k]?=J f->∃fuel' d' ps',G enc P W base sp held fuel' f.type ((us.drop f.offset).take (P.cellsOf f.type))=J (d',ps')/\parts[k]?=J d':=by
 cases fuel with
 |zero=>simp[G]at h
 |succ fuel =>
  simp only[G,ht]at h;split at h
  ·rename_i hl
   obtain⟨xs,hm,he⟩:=Option.map_eq_some_iff.1 h;cases he;refine⟨hl,_,rfl,fun k f hf=>?_⟩;obtain⟨_,hg⟩:=Z5U hm;obtain⟨y,hy1,hy⟩:=hg k f (by rw[U];exact hf);exact⟨fuel,y.1,y.2,hy,by rw[JD,hy1];rfl⟩
  ·cases h
end
end Go.Vcg
end
section
namespace Go.Proofs.YtfghidehlnfdiaaGreat
open Go Go.Vcg Go.Trie
namespace Bulk
theorem ZHP{H:Type}(d:DataW H):1<=Rows.uptoBulk d:=by
 cases d with
 |lit l=>cases l<;>simp[Rows.uptoBulk]
 |nil=>simp[Rows.uptoBulk]
 |ptr d=>simp[Rows.uptoBulk]
 |slice elems spare=>simp[Rows.uptoBulk]
 |agg parts=>simp[Rows.uptoBulk]
 |iface t d=>simp[Rows.uptoBulk]
 |map entries=>simp[Rows.uptoBulk]
 |held h=>simp[Rows.uptoBulk]
theorem part_le{H:Type}{d:DataW H}{l:List (DataW H)}(h:d∈l):Rows.uptoBulk d<=Rows.uptoBulkAll l:=by
 induction l with
 |nil=>cases h
 |cons x r ih =>
  simp only[Rows.uptoBulkAll];cases List.mem_cons.1 h with
  |inl e=>subst e;omega
  |inr e=>have:=ih e;omega
theorem length_le{H:Type}(l:List (DataW H)):l.length<=Rows.uptoBulkAll l:=by
 induction l with
 |nil=>simp[Rows.uptoBulkAll]
 |cons x r ih=>have:=ZHP x;simp only[Rows.uptoBulkAll,List.length_cons];omega
theorem slice_elems{H:Type}(elems spare:List (DataW H)):Rows.uptoBulkAll elems+1<=Rows.uptoBulk (.slice elems spare):=by
 simp only[Rows.uptoBulk];omega
theorem agg_parts{H:Type}(parts:List (DataW H)):Rows.uptoBulkAll parts+1<=Rows.uptoBulk (.agg parts):=by
 simp only[Rows.uptoBulk];omega
theorem bound{H:Type}{l:List (DataW H)}(hk:Rows.uptoSmall H l=Ja):Rows.uptoBulkAll l<=1048576:=of_decide_eq_true hk
end Bulk
section
variable{H:Type}{enc:JF×Value->H}{W:C}{sp:Nat->Bool}{held:Bool}{base:Nat}
theorem Z7X{fuel:Nat}{v:Value}{d:DataW H}{ps:List JO}(h:G enc I W base sp held fuel 23 [v]=J (d,ps)) :
  ∃o c bs,v=.slice o bs.length c/\bs.length<=c/\RdB W o bs/\bs.length<=Rows.uptoBulk d:=by
 obtain⟨o,c,bs,rfl,h1,h2,h3⟩:=ZDG Zn Z5p (by kernel_rfl) h;refine⟨o,c,bs,rfl,h1,h3,?_⟩;obtain⟨o',l',c',hv,_,_,h4⟩:=ZBi Zn (by kernel_rfl) h;cases hv;rcases h4 with⟨h5,_⟩|⟨elems,spare,rfl,h5,_⟩
 ·rw[h5];omega
 ·rw[<-h5]
  have h6:=Bulk.length_le elems;have h7:=Bulk.slice_elems elems spare;omega
theorem ZEN{fuel:Nat}{t e:JF}{fs:Array Field}{f0 f1:Field}{v:Value}{d:DataW H}{ps:List JO}(ht:Tryz.prog.underlying t=J (.slice e))(hce:Tryz.prog.cellsOf e=2)(he:Tryz.prog.underlying e=J (.struct fs))
  (h0:fs[0]?=J f0) (h1:fs[1]?=J f1) (t0:f0.type=23) (t1:f1.type=23) (o0:f0.offset=0) (o1:f1.offset=1) (h:G enc I W base sp held fuel t [v]=J (d,ps)) :
  ∃o c l,v=.slice o l.length c/\l.length<=c/\StR W o l/\∀x∈l,x.1.length<=Rows.uptoBulk d/\x.2.length<=Rows.uptoBulk d:=by
 obtain⟨o,l,c,rfl,hlc,h4⟩:=Z9P ht hce (by omega) h;rcases h4 with⟨rfl,rfl⟩|⟨elems,spare,rfl,h5,h6⟩
 ·exact⟨o,c,[],rfl,hlc,fun j hj=>absurd hj (by simp),fun x hx=>by cases hx⟩
 ·have hx:∀i,∃x:By×By,i<l->(∃b f ok kk ov kv,o=J ⟨b,f,X⟩/\b<W.heap.size/\W.cell? ⟨b,f+i*2,X⟩=J (.slice ok x.1.length kk)/\RdB W ok x.1/\W.cell? ⟨b,f+(i*2+1),X⟩=J (.slice ov x.2.length kv)/\RdB W ov x.2)/\x.1.length<=Rows.uptoBulk (.slice elems spare)/\x.2.length<=Rows.uptoBulk (.slice elems spare):=fun i=>by
    by_cases hi:i<l
    ·obtain⟨b,f,us,d',ps',fuel',ho,hb,hl,hg,hd,hel⟩:=h6 i hi
     obtain⟨_,parts,rfl,hf⟩:=ZDH he hd
     obtain⟨u0,u1,rfl⟩:∃u0 u1,us=[u0,u1]:=by
      rcases us with _|⟨a,_|⟨b,_|⟨c,r⟩⟩⟩<;>simp at hl ⊢
     obtain⟨fa,da,pa,ha,hpa⟩:=hf 0 f0 h0;obtain⟨fb,db,pb,hb',hpb⟩:=hf 1 f1 h1;rw[t0,o0,show Tryz.prog.cellsOf 23=1 from by kernel_rfl]at ha;rw[t1,o1,show Tryz.prog.cellsOf 23=1 from by kernel_rfl]at hb';obtain⟨ok,kk,key,rfl,_,hrk,hlk⟩:=Z7X ha;obtain⟨ov,kv,val,rfl,_,hrv,hlv⟩:=Z7X hb';have p1:=Bulk.part_le (J8 hpa);have p2:=Bulk.part_le (J8 hpb);have p3:=Bulk.agg_parts parts;have p4:=Bulk.part_le (J8 hel);have p5:=Bulk.slice_elems elems spare;exact⟨(key,val),fun _=>⟨⟨b,f,ok,kk,ov,kv,ho,hb,hg 0 _ rfl,hrk,hg 1 _ rfl,hrv⟩,by show key.length<=_;omega,by show val.length<=_;omega⟩⟩
    ·exact⟨([],[]),fun h=>(hi h).elim⟩
  have hl:((JQ l).map (fun i=>JI (hx i))).length=l:=by simp
  refine⟨o,c,(JQ l).map (fun i=>JI (hx i)),by rw[hl],by rw[hl];exact hlc,fun j hj=>?_,fun x hxm=>?_⟩
  ·have hjl:j<l:=by rw[<-hl];exact hj
   have:=(J6 (hx j) hjl).1;simp only[JU,JR];exact this
  ·obtain⟨i,hi,rfl⟩:=List.mem_map.1 hxm
   exact(J6 (hx i) (List.mem_range.1 hi)).2
end
end Go.Proofs.YtfghidehlnfdiaaGreat
end
section
namespace Go.Proofs.YtfghidehlnfdiaaGreat
open Go Go.Vcg Go.Trie Go.Proofs.YtfghidehlnfdiaaGreat
theorem Z5P{f:Nat->Int}(hf:∀i,i<32->(Lit.int Jc (f i)).wf=Ja):∃h:By,h.length=32/\ZP 32 (fun i=>Value.int Jc (f i))=hashA h:=by
 have h1:∀i,∃x:UInt8,i<32->f i=(x.toNat:Int):=fun i=>by
  by_cases hi:i<32
  ·have h2:=hf i hi
   have h3:0<=f i/\f i<256:=by
    simp only[Lit.wf,JH,decide_eq_true_eq]at h2;have h5:IntKind.min Jc=0:=by decide
    have h6:IntKind.max Jc=255:=by decide
    omega
   exact⟨V (f i).toNat,fun _=>by rw[UInt8.toNat_ofNat'];omega⟩
  ·exact⟨0,fun h=>(hi h).elim⟩
 refine⟨(JQ 32).map (fun i=>JI (h1 i)),by simp,?_⟩;unfold hashA;refine ZF (fun i hi=>?_);rw[J6 (h1 i) hi];simp[bV,List.getD_eq_getElem?_getD,hi]
section
variable{H:Type}{enc:JF×Value->H}{W:C}{sp:Nat->Bool}{held:Bool}{base:Nat}
end
end Go.Proofs.YtfghidehlnfdiaaGreat
end
section
namespace Go.Proofs.YtfghidehlnfdiaaGreat
open Go Go.Vcg Go.Trie
theorem ZFY{H:Type}{enc:JF×Value->H}{W:C}{sp:Nat->Bool}{held:Bool}{base:Nat}{fuel:Nat}{v:Value}{d:DataW H}{ps:List JO}(h:G enc I W base sp held fuel 22 [v]=J (d,ps)) :
  ∃o c l,v=.slice o l.length c/\l.length<=c/\StR W o l:=by
 obtain⟨o,c,l,h1,h2,h3,_⟩:=ZEN ZCk (by kernel_rfl) Tryz.underlying53 rfl rfl rfl rfl rfl rfl h;exact⟨o,c,l,h1,h2,h3⟩
end Go.Proofs.YtfghidehlnfdiaaGreat
end
