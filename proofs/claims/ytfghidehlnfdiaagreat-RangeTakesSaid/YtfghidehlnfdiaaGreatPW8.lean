/- References and nodes of package proof in memory; contracts: refOf, isBranch, valueIf, CutPrefix. -/
/- Contracts: nodeOf, parsed (package proof). -/
/- Contracts: rootOf, parsed, gives, way (package proof). -/
/- Contracts: way (package proof). -/
/- Contracts: stored, bytesOf, what Prove asks (package proof); lists of bytes. -/
/- Contracts: bytesOf, what Prove asks; lists of bytes in memory. -/
/- Contracts: caught (package proof), deferred; how Prove and Verify are left. -/
import Derived.Test.YtfghidehlnfdiaaGreatTVY
import Derived.Recover
set_option linter.unusedVariables false
set_option linter.unusedSimpArgs false
open Array renaming ext_getElem?->Ja,getElem?_eq_getElem->JG,getElem?_eq_none->JB,getElem?_toList->JD,replicate->JN
open Bool renaming false->W,true->J9
open Go renaming Calls->JX,Ending->JY,PanicEntry->Jc,TypeId->JZ,World->Y,callsD_of_wpS->Jm
open Go.Addr renaming add->U
open Go.Ending renaming panicked->JL,returned->C
open Go.Instr renaming storeAt->JQ,typeAssert->Jj
open Go.IntKind renaming i64->JH,u8->J1,wrap->Jn
open Go.Obj renaming cells->I
open Go.Proofs.Tryz renaming func32->Jp,ntmps74->Jo,prog->O
open Go.Sem renaming run->JT
open Go.Value renaming bool->J,pointer->J4,tuple->J8
open Go.World renaming cell?->J0
open Int renaming toNat_natCast->J7
open List renaming eq_nil_of_length_eq_zero->JM,getElem?_append_left->JF,getElem?_append_right->J3,getElem?_toArray->JK,getElem_append_left->JR,getElem_append_right->JO,getElem_cons_zero->JU,getElem_mem->Jg,length_append->JC,length_cons->JE,length_nil->JV,length_singleton->JW,length_take->Jh,replicate->Jk,take_length->Ji,take_of_length_le->JS,take_succ_eq_append_getElem->JJ
open Nat renaming le_refl->J6,lt_of_lt_of_le->Jb,lt_or_ge->Je,sub_self->Jf,sub_zero->Jd,zero_add->J5,zero_le->JP
open Option renaming none->G,or_none->Jl,some->J2
open Or renaming inl->JI,inr->JA
section
namespace Go.Proofs.YtfghidehlnfdiaaGreat
open Go Go.Vcg Go.Trie
section
variable{D:Nat}{t:JZ}{w:Y}
theorem set4{a b c d v1 v2 v3 v4:Value}{R':Y->Prop}(X:Blk w D t #[a,b,c,d])(h1:v1.oneCell'=J9)(h2:v2.oneCell'=J9)(h3:v3.oneCell'=J9)(h4:v4.oneCell'=J9)(K:∀w',Blk w' D t #[v1,v2,v3,v4]->Vcg.Mod (·=D) w w'->R' w') :
  Z1 w ⟨D,0,G⟩ v1/\∀w1:Y,ZA w ⟨D,0,G⟩ v1 w1->Z1 w1 (U ⟨D,0,G⟩ 1) v2/\∀w2:Y,ZA w1 (U ⟨D,0,G⟩ 1) v2 w2->Z1 w2 (U ⟨D,0,G⟩ 2) v3/\∀w3:Y,ZA w2 (U ⟨D,0,G⟩ 2) v3 w3 ->
   Z1 w3 (U ⟨D,0,G⟩ 3) v4/\∀w4:Y,ZA w3 (U ⟨D,0,G⟩ 3) v4 w4->R' w4:=by
 refine⟨X.canSet (by simp) h1,?_⟩;rintro _ rfl;have X1:=X.set 0 v1;have Q1:Vcg.Mod (·=D) w _:=Mod.setCell w ⟨D,0,G⟩ v1;rw[Z3,J5];refine⟨X1.canSet (by simp) h2,?_⟩;rintro _ rfl;have X2:=X1.set 1 v2;have Q2:=Q1.step_set (a:=⟨D,1,G⟩) (v:=v2) (fun _=>rfl);rw[Z3,J5];refine⟨X2.canSet (by simp) h3,?_⟩;rintro _ rfl;have X3:=X2.set 2 v3;have Q3:=Q2.step_set (a:=⟨D,2,G⟩) (v:=v3) (fun _=>rfl);rw[Z3,J5];refine⟨X3.canSet (by simp) h4,?_⟩;rintro _ rfl;have X4:=X3.set 3 v4;have Q4:=Q3.step_set (a:=⟨D,3,G⟩) (v:=v4) (fun _=>rfl);exact K _ X4 Q4
theorem get4{b:Bool}{o1 o2 o3:Option Addr}{l1 k1 l2 k2 l3 k3:Nat}{R':Bool->Option Addr->Nat->Nat->Option Addr->Nat->Nat->Option Addr->Nat->Nat->Prop}(X:Blk w D t #[J b,.slice o1 l1 k1,.slice o2 l2 k2,.slice o3 l3 k3])(h:R' b o1 l1 k1 o2 l2 k2 o3 l3 k3) :
  ∃b65:Bool,∃o66:Option Addr,∃l67:Nat,∃l68:Nat,∃o69:Option Addr,∃l70:Nat,∃l71:Nat,∃o72:Option Addr,∃l73:Nat,∃l74:Nat,J0 w ⟨D,0,G⟩=J2 (J b65) /\
   J0 w (U ⟨D,0,G⟩ 1)=J2 (.slice o66 l67 l68)/\J0 w (U ⟨D,0,G⟩ 2)=J2 (.slice o69 l70 l71)/\J0 w (U ⟨D,0,G⟩ 3)=J2 (.slice o72 l73 l74)/\R' b65 o66 l67 l68 o69 l70 l71 o72 l73 l74 :=
 ⟨_,_,_,_,_,_,_,_,_,_,X.rd1 rfl,by rw[Z3];exact X.rd1 rfl,by rw[Z3];exact X.rd1 rfl,by rw[Z3];exact X.rd1 rfl,h⟩
end
abbrev ZHy:JZ:=82
abbrev ZKt:JZ:=84
theorem ZCq:Tryz.prog.underlying ZKt=J2 (.slice ZHy):=by kernel_rfl
def zeros32:List Value:=Jk 32 (.int J1 0)
def rfA(h:List Value)(p:Option Addr)(b:Bool):Array Value:=(h++[J4 p,J b]).toArray
theorem Z0E{h:List Value}(hh:h.length=32)(p:Option Addr)(b:Bool):(rfA h p b).size=34:=by simp[rfA,hh]
theorem ZID:(Tryz.prog.info? ZHy).map (fun i=>(i.zero,i.size,i.bytes))=J2 (J2 (.agg (rfA zeros32 G W)),34,48):=by kernel_rfl
theorem ZIe:(Tryz.prog.info? ZHy).map (·.size)=J2 34:=by kernel_rfl
theorem Z6X{h:List Value}(hh:∀v∈h,v.oneCell'=J9)(p:Option Addr)(b:Bool):∀v∈(rfA h p b).toList,v.oneCell'=J9:=by
 intro v hv;simp only[rfA,List.mem_append,List.mem_cons,List.not_mem_nil,or_false]at hv;rcases hv with hv|rfl|rfl
 ·exact hh v hv
 ·rfl
 ·rfl
theorem Z5k:∀v∈zeros32,v.oneCell'=J9:=fun v hv=>by rw[List.eq_of_mem_replicate hv];rfl
theorem ZCh{h:List Value}(hh:h.length=32){p:Option Addr}{b:Bool}{i:Nat}(hi:i<32):(rfA h p b)[i]?=h[i]?:=by
 unfold rfA;rw[JK,JF (by omega)]
theorem Z8H{h:List Value}(hh:h.length=32){p:Option Addr}{b:Bool}:(rfA h p b)[32]?=J2 (J4 p):=by
 unfold rfA;rw[JK,J3 (by omega),hh];rfl
theorem Z78{h:List Value}(hh:h.length=32){p:Option Addr}{b:Bool}:(rfA h p b)[33]?=J2 (J b):=by
 unfold rfA;rw[JK,J3 (by omega),hh];rfl
theorem ZCP{n:Nat}{Z L:Array Value}(hZ:Z.size=n)(hL:L.size=n):lputL Z 0 n L=L:=by
 unfold lputL;have ht:L.toList.take n=L.toList:=JS (by simp[hL]);rw[ht];apply Ja;intro i;rw[Zn _ _ _ _ (by simp[hL,hZ])];by_cases hi:i<n
 ·rw[if_pos ⟨JP _,by simp[hL];exact hi⟩,Jd,JD]
 ·rw[if_neg (by simp[hL];omega),JB (by omega),JB (by omega)]
theorem ZEq{Z H:Array Value}{p:Option Addr}{b0:Bool}(hZ:Z=rfA zeros32 p b0)(hH:H.size=32)(b:Bool):setsAt (lputL Z 0 32 H) 33 [J b]=rfA H.toList p b:=by
 have hl:H.toList.length=32:=by simp[hH]
 have hzs:Z.size=34:=by rw[hZ];exact Z0E rfl _ _
 have ht:H.toList.take 32=H.toList:=JS (by omega);have e1:lputL Z 0 32 H=setsAt Z 0 H.toList:=by unfold lputL;rw[ht]
 have hs1:(setsAt Z 0 H.toList).size=34:=by rw[Zi,hzs]
 rw[e1];apply Ja;intro i;rw[Zn _ _ _ _ (by rw[hs1];simp)];by_cases h33:i=33
 ·subst h33
  rw[if_pos (by simp),Z78 hl];rfl
 ·rw[if_neg (by simp;omega),Zn _ _ _ _ (by rw[hzs,hl];omega)]
  by_cases hi:i<32
  ·rw[if_pos ⟨JP _,by rw[hl];omega⟩,Jd,ZCh hl hi]
  ·rw[if_neg (by rw[hl];omega),hZ]
   by_cases h32:i=32
   ·subst h32;rw[Z8H hl];exact Z8H rfl
   ·rw[JB (by rw[Z0E rfl];omega),JB (by rw[Z0E hl];omega)]
theorem ZHD{H:Array Value}(hH:H.size=32)(b:Bool):setsAt (lputL #[(.int J1 0),(.int J1 0),(.int J1 0),(.int J1 0),(.int J1 0),(.int J1 0),(.int J1 0),(.int J1 0),(.int J1 0),(.int J1 0),(.int J1 0),(.int J1 0),(.int J1 0),(.int J1 0),(.int J1 0),(.int J1 0),(.int J1 0),(.int J1 0),(.int J1 0),(.int J1 0),(.int J1 0),(.int J1 0),(.int J1 0),(.int J1 0),(.int J1 0),(.int J1 0),(.int J1 0),(.int J1 0),(.int J1 0),(.int J1 0),(.int J1 0),(.int J1 0),(J4 G),(J W)] 0 32 H) 33 [J b]=rfA H.toList G b:=ZEq (p:=G) (b0:=W) rfl hH b
theorem Z5X(w:Y):w.alloc (I #[(.int J1 0),(.int J1 0),(.int J1 0),(.int J1 0),(.int J1 0),(.int J1 0),(.int J1 0),(.int J1 0),(.int J1 0),(.int J1 0),(.int J1 0),(.int J1 0),(.int J1 0),(.int J1 0),(.int J1 0),(.int J1 0),(.int J1 0),(.int J1 0),(.int J1 0),(.int J1 0),(.int J1 0),(.int J1 0),(.int J1 0),(.int J1 0),(.int J1 0),(.int J1 0),(.int J1 0),(.int J1 0),(.int J1 0),(.int J1 0),(.int J1 0),(.int J1 0),(J4 G),(J W)] 82)=w.alloc (I (rfA zeros32 G W) 82):=rfl
section
variable{A:Nat->Prop}{w w':Y}
def RdA(A:Nat->Prop)(w:Y)(o:Option Addr)(b:By):Prop:=RdB w o b/\(b≠[]->∀d,o=J2 d->¬A d.block)
theorem RdA.modA{S:Nat->Prop}{o:Option Addr}{b:By}(h:RdA A w o b)(M:Vcg.Mod S w w')(hS:∀b,S b->A b):RdA A w' o b:=by
 refine⟨fun hne=>?_,h.2⟩;obtain⟨g,f,ho,hg,hc⟩:=h.1 hne;exact⟨g,f,ho,Jb hg M.size,fun i hi=>(ZN M hg (fun hh=>h.2 hne _ ho (hS _ hh))).trans (hc i hi)⟩
theorem RdA.mod'{o:Option Addr}{b:By}(h:RdA A w o b)(M:Vcg.Mod NoB w w'):RdA A w' o b:=h.modA M (fun _ h=>h.elim)
theorem RdA.mono{A':Nat->Prop}{o:Option Addr}{b:By}(h:RdA A w o b)(hA:∀b,b<w.heap.size->A' b->A b):RdA A' w o b :=
 ⟨h.1,fun hne d hd hh=>by
  obtain⟨g,f,ho,hg,_⟩:=h.1 hne;rw[ho]at hd;cases hd;exact h.2 hne _ ho (hA _ hg hh)⟩
theorem ItC.restr{A':Nat->Prop}(hA:∀b,b<w.heap.size->A' b->A b){x:It}{v1 v2 v3:Value}(h:ItC A w x v1 v2 v3):ItC A' w x v1 v2 v3 :=
 ItC.mono (fun b hb=>(Je b w.heap.size).imp (fun h=>hA b h hb) id) _ (ItC.old _ h)
theorem Z1q.restr{A':Nat->Prop}(hA:∀b,b<w.heap.size->A' b->A b){xs:List It}{o:Option Addr}{k:Nat}(h:Z1q A w xs o k):Z1q A' w xs o k :=
 Z1q.mono (fun b hb=>(Je b w.heap.size).imp (fun h=>hA b h hb) id) _ (Z1q.old _ h)
def RfC(A:Nat->Prop)(w:Y):It->Array Value->Prop
 | .s b,L=>(b=[]/\∃h:List Value,h.length=32/\(∀v∈h,v.oneCell'=J9)/\L=rfA h G W)\/(b.length=32/\L=rfA (hashA b).toList G J9)
 | .l xs,L=>∃D v1 v2 v3,L=rfA zeros32 (J2 ⟨D,0,G⟩) J9/\¬A D/\Blk w D 111 #[v1,v2,v3]/\ItC A w (.l xs) v1 v2 v3
theorem RfC.modA{S:Nat->Prop}{x:It}{L:Array Value}(h:RfC A w x L)(M:Vcg.Mod S w w')(hS:∀b,S b->A b):RfC A w' x L:=by
 cases x with
 |s b=>exact h
 |l xs =>
  obtain⟨D,v1,v2,v3,h1,h2,h3,h4⟩:=h;exact⟨D,v1,v2,v3,h1,h2,h3.mod M (fun h=>h2 (hS _ h)),ItC.modA M hS _ h4⟩
theorem RfC.mod'{x:It}{L:Array Value}(h:RfC A w x L)(M:Vcg.Mod NoB w w'):RfC A w' x L:=h.modA M (fun _ h=>h.elim)
theorem RfC.restr{A':Nat->Prop}(hA:∀b,b<w.heap.size->A' b->A b){x:It}{L:Array Value}(h:RfC A w x L):RfC A' w x L:=by
 cases x with
 |s b=>exact h
 |l xs =>
  obtain⟨D,v1,v2,v3,h1,h2,h3,h4⟩:=h;exact⟨D,v1,v2,v3,h1,fun hh=>h2 (hA D h3.lt hh),h3,ItC.restr hA h4⟩
theorem RfC.size{x:It}{L:Array Value}(h:RfC A w x L):L.size=34:=by
 cases x with
 |s b =>
  rcases h with⟨_,h,hh,_,rfl⟩|⟨_,rfl⟩
  ·exact Z0E hh _ _
  ·exact Z0E (Z1O _) _ _
 |l xs=>obtain⟨D,v1,v2,v3,rfl,_⟩:=h;exact Z0E rfl _ _
theorem RfC.one{x:It}{L:Array Value}(h:RfC A w x L):∀v∈L.toList,v.oneCell'=J9:=by
 cases x with
 |s b =>
  rcases h with⟨_,h,_,hh,rfl⟩|⟨_,rfl⟩
  ·exact Z6X hh _ _
  ·exact Z6X (Z2k _) _ _
 |l xs=>obtain⟨D,v1,v2,v3,rfl,_⟩:=h;exact Z6X Z5k _ _
theorem Z21{D:Nat}{t:JZ}{cs L:Array Value}{x:It}{A:Nat->Prop}{w w0:Y}(H:Blk w D t cs)(hs:cs.size=34)(hL:L.size=34)(h1:∀v∈L.toList,v.oneCell'=J9) :
  ∃w',JT O (JQ ZHy (J4 (J2 ⟨D,0,G⟩)) (.agg L)) w=.ok () w'/\Blk w' D t L/\Vcg.Mod (·=D) w w' :=
 ⟨_,H.storeAll (by rw[hL];exact ZIe) (by omega) h1,H.row_same L,Mod.setRow w D L⟩
theorem ZCc{x:It}{v1 v2 v3:Value}(hg:∀b,x=.s b->b=[]\/b.length=32)(hA:∀b,w.heap.size<=b->¬A b)(hx:ItC A w x v1 v2 v3) :
  JX O Z2T.n #[.agg #[v1,v2,v3]] w (fun e w'=>∃L,e=C (.agg L)/\Vcg.Mod NoB w w'/\RfC A w' x L):=by
 obtain⟨b,o1,l1,c1,o2,l2,c2,rfl,rfl,rfl⟩:=hx.vals;refine Z2T.vc _ _ _ _ _ _ _ _ _ ?_;unfold Z2T.Vc;rintro d3 w1⟨rfl,rfl⟩;have M1:=Mod.alloc (S:=NoB) w (I #[J b,.slice o1 l1 c1,.slice o2 l2 c2] 111);have X1:=Blk.new w 111 #[J b,.slice o1 l1 c1,.slice o2 l2 c2];have hAD:=hA _ (J6 w.heap.size);have hx1:=ItC.mod M1 _ hx;have hs1:=ZE w (I #[J b,.slice o1 l1 c1,.slice o2 l2 c2] 111);generalize w.heap.size=D at *
 generalize w.alloc (I #[J b,.slice o1 l1 c1,.slice o2 l2 c2] 111)=w1 at *
 rintro d5 w2⟨rfl,rfl⟩;have M2:=Mod.alloc (S:=NoB) w1 (I (rfA zeros32 G W) 82);have H2:=Blk.new w1 82 (rfA zeros32 G W);have hgen:w1.alloc (I #[(.int J1 0),(.int J1 0),(.int J1 0),(.int J1 0),(.int J1 0),(.int J1 0),(.int J1 0),(.int J1 0),(.int J1 0),(.int J1 0),(.int J1 0),(.int J1 0),(.int J1 0),(.int J1 0),(.int J1 0),(.int J1 0),(.int J1 0),(.int J1 0),(.int J1 0),(.int J1 0),(.int J1 0),(.int J1 0),(.int J1 0),(.int J1 0),(.int J1 0),(.int J1 0),(.int J1 0),(.int J1 0),(.int J1 0),(.int J1 0),(.int J1 0),(.int J1 0),(J4 G),(J W)] 82)=w1.alloc (I (rfA zeros32 G W) 82):=rfl;rw[hgen];have X2:=X1.mod' M2;have hx2:=ItC.mod M2 _ hx1;have M02:=M1.none_trans M2;generalize hH:w1.heap.size=H at *
 generalize w1.alloc (I (rfA zeros32 G W) 82)=w2 at *
 have hz:(rfA zeros32 G W).size=34:=Z0E rfl _ _;cases x with
 |l xs =>
  have hx2':=hx2;simp only[ItC]at hx2;obtain⟨h1,h2,o,c,h3,h4,hcap⟩:=hx2;cases h1;cases h2;cases h3;obtain⟨w3,hr3,H3,Q3⟩:=Z21 (x:=.l xs) (A:=A) (w0:=w) H2 hz (Z0E (h:=zeros32) rfl (J2 ⟨D,0,G⟩) J9) (Z6X Z5k _ _);have M23:Vcg.Mod NoB w1 w3:=ZI M2 Q3 (by omega);have X3:=X2.mod Q3 (by omega);refine⟨_,X2.rd1 rfl,fun _=>⟨w3,hr3,_,H3.rowAll (Z0E rfl _ _),_,rfl,M1.none_trans M23,D,_,_,_,rfl,hAD,X3,?_⟩,fun h=>(by cases h)⟩;exact ItC.mod M23 _ hx1
 |s bs =>
  have hx2':=hx2;simp only[ItC]at hx2;obtain⟨h1,⟨o,c,h2,h3,h4⟩,h5⟩:=hx2;cases h1;cases h2;cases h5;refine⟨_,X2.rd1 rfl,fun h=>(by cases h),fun _=>⟨_,_,_,by rw[Z3];exact X2.rd1 rfl,fun h0=>?_,fun h0=>?_⟩⟩
  ·have hb:bs=[]:=JM (by omega)
   obtain⟨w3,hr3,H3,Q3⟩:=Z21 (x:=.s bs) (A:=A) (w0:=w) H2 hz (Z0E (h:=zeros32) rfl G W) (Z6X Z5k _ _);exact⟨w3,hr3,_,H3.rowAll (Z0E rfl _ _),_,rfl,M1.none_trans (ZI M2 Q3 (by omega)),JI ⟨hb,zeros32,rfl,Z5k,rfl⟩⟩
  ·have hb:bs.length=32:=(hg bs rfl).resolve_left (by rintro rfl;simp at h0)
   obtain⟨g,f0,rfl,hgl,hc⟩:=h3 (by rintro rfl;simp at h0);obtain⟨w3,hr3,H3,Q3⟩:=Z21 (x:=.s bs) (A:=A) (w0:=w) H2 hz (Z0E (h:=(hashA bs).toList) (Z1O _) G J9) (Z6X (Z2k _) _ _);refine⟨_,_,_,by rw[Z3];exact X2.rd1 rfl,by omega,_,rfl,hashA bs,⟨ZB bs,fun i hi=>?_⟩,ZB bs,w3,?_,_,H3.rowAll (Z0E (Z1O _) _ _),_,rfl,M1.none_trans (ZI M2 Q3 (by omega)),JA ⟨hb,rfl⟩⟩
   ·rw[Z3,hc i (by omega)]
    simp only[hashA];exact(ZF (f:=fun i=>bV (bs.getD i 0)) hi).symm
   ·rw[ZEq (Z:=#[(.int J1 0),(.int J1 0),(.int J1 0),(.int J1 0),(.int J1 0),(.int J1 0),(.int J1 0),(.int J1 0),(.int J1 0),(.int J1 0),(.int J1 0),(.int J1 0),(.int J1 0),(.int J1 0),(.int J1 0),(.int J1 0),(.int J1 0),(.int J1 0),(.int J1 0),(.int J1 0),(.int J1 0),(.int J1 0),(.int J1 0),(.int J1 0),(.int J1 0),(.int J1 0),(.int J1 0),(.int J1 0),(.int J1 0),(.int J1 0),(.int J1 0),(.int J1 0),(J4 G),(J W)]) (p:=G) (b0:=W) rfl (ZB bs) J9]
    exact hr3
theorem Z9R{x:It}{v1 v2 v3:Value}(hg:Z2p x)(hA:∀b,w.heap.size<=b->¬A b)(hx:ItC A w x v1 v2 v3) :
  JX O Z2T.n #[.agg #[v1,v2,v3]] w (fun e w'=>∃L,e=C (.agg L)/\Vcg.Mod NoB w w'/\RfC A w' x L) :=
 ZCc (fun b e=>by subst e;exact hg.str) hA hx
theorem Z3B{b:Bool}{o1 o2 o3:Option Addr}{l1 k1 l2 k2 l3 k3:Nat} :
  JX O Z0K.n #[.agg #[J b,.slice o1 l1 k1,.slice o2 l2 k2,.slice o3 l3 k3]] w (fun e w'=>e=C (J (decide (l2=16)))/\Vcg.Mod NoB w w'):=by
 refine Z0K.vc _ _ _ _ _ _ _ _ _ _ _ _ ?_;unfold Z0K.Vc;rintro d w1⟨rfl,rfl⟩;have X:=Blk.new w 86 #[J b,.slice o1 l1 k1,.slice o2 l2 k2,.slice o3 l3 k3];refine⟨_,_,_,by rw[Z3];exact X.rd1 rfl,?_,Mod.alloc w _⟩;congr 2;rw[Bool.eq_iff_iff,decide_eq_true_eq,decide_eq_true_eq];omega
theorem Z7N{o:Option Addr}{k:Nat}{b:By}{ok:Bool}(hr:RdB w o b)(hl:b.length<=2^40) :
  JX O Z2B.n #[.slice o b.length k,J ok] w (fun e w'=>∃o' k',e=C (J8 #[.slice o' (if ok then b else[]).length k',J ok])/\Vcg.Mod NoB w w'/\RdB w' o' (if ok then b else[])/\∀d,o'=J2 d->w.heap.size<=d.block):=by
 refine Z2B.vc _ _ _ _ _ _ ?_;unfold Z2B.Vc;refine⟨fun h=>?_,fun h=>?_⟩
 ·subst h
  exact⟨G,0,rfl,Mod.refl w,fun h=>(h rfl).elim,fun d h=>(by cases h)⟩
 ·subst h
  refine(Z1s hr hl).mono ?_;rintro _ w1⟨o',k',rfl,F⟩;exact⟨_,_,_,rfl,o',k',rfl,F.mod,F.own.bytes,fun d hd=>F.new d.block ⟨d,hd,rfl⟩⟩
theorem Z8n{o1 o2:Option Addr}{k1 k2:Nat}{a b:By}(h1:RdB w o1 a)(hk:a.length<=k1)(h2:RdB w o2 b) :
  JX O Z1K.n #[.slice o1 a.length k1,.slice o2 b.length k2] w (fun e w'=>w'=w/\if b.isPrefixOf a then e=C (J8 #[.slice (subO o1 k1 b.length 1) (a.length-b.length) (k1-b.length),J J9])else e=C (J8 #[.slice o1 a.length k1,J W])):=by
 refine Z1K.vc _ _ _ _ _ _ _ _ ?_;unfold Z1K.Vc;refine(Z2j h1 hk h2).mono ?_;rintro _ w1⟨rfl,rfl⟩;refine⟨_,rfl,fun h=>⟨rfl,by rw[if_neg (by rw[h];decide)]⟩,fun h=>⟨?_,rfl,by rw[if_pos h,J7]⟩⟩;have:=(List.isPrefixOf_iff_prefix.1 h).length_le;omega
end
section
variable{A:Nat->Prop}{w0 w w':Y}
def Z7S(A:Nat->Prop)(w0 w:Y)(xs:List It)(o:Option Addr)(l k:Nat):Prop :=
 l=xs.length/\∃vs,ZU w0 w ZHy 34 o l k vs/\∀j(hj:j<xs.length),∃L,(∀i,i<34->vs[j*34+i]?=L[i]?)/\RfC (fun b=>A b\/OB o b) w xs[j] L
theorem Z7S.nil(M:Vcg.Mod NoB w0 w):Z7S A w0 w [] G 0 0:=⟨rfl,[],ZU.nil M _ _,fun j hj=>absurd hj (by simp)⟩
theorem Z7S.mod'{xs:List It}{o:Option Addr}{l k:Nat}(h:Z7S A w0 w xs o l k)(M:Vcg.Mod NoB w w'):Z7S A w0 w' xs o l k:=by
 obtain⟨h1,vs,F,h2⟩:=h;refine⟨h1,vs,F.mod' M,fun j hj=>?_⟩;obtain⟨L,a,b⟩:=h2 j hj;exact⟨L,a,b.mod' M⟩
theorem Z7S.set{D:Nat}{xs:List It}{o:Option Addr}{l k:Nat}(h:Z7S A w0 w xs o l k)(Q:Vcg.Mod (·=D) w w')(hD:¬OB o D)(h0:w0.heap.size<=D)(hx:∀j (hj:j<xs.length) L,RfC (fun b=>A b\/OB o b) w xs[j] L->RfC (fun b=>A b\/OB o b) w' xs[j] L):Z7S A w0 w' xs o l k:=by
 obtain⟨h1,vs,F,h2⟩:=h;refine⟨h1,vs,⟨F.own.mod Q (fun b hb e=>hD (e ▸ hb)),ZI F.mod Q h0,F.new⟩,fun j hj=>?_⟩;obtain⟨L,a,b⟩:=h2 j hj;exact⟨L,a,hx j hj L b⟩
theorem Z7S.push{xs:List It}{o:Option Addr}{l k:Nat}(h:Z7S A w0 w xs o l k){D:Nat}{x:It}{L:Array Value}(B:Blk w D ZHy L)(hx:RfC (fun b=>A b\/OB o b) w x L)(hl:xs.length<=2^20) :
  ∃o' k' w',JT O (builtinV .append #[84,84] 84 #[.slice o l k,.slice (J2 ⟨D,0,G⟩) 1 1]) w=.ok (.slice o' (l+1) k') w'/\Z7S A w0 w' (xs++[x]) o' (l+1) k'/\Vcg.Mod (OB o) w w'/\(∀b,OB o' b->OB o b\/w.heap.size<=b):=by
 obtain⟨rfl,vs,F,hv⟩:=h;obtain⟨i,hi,hz,hs,hb⟩:=Z2Q ZID;have hsz:=hx.size;obtain⟨o',k',w',h1,h2,h3,h4⟩:=Z3Y (ty:=84) ZCq hi hz hs (by exact Z0E rfl _ _) F.own (Z52 ZCq B hsz hx.one) (by simp only[maxLen];omega) (by rw[hb];omega)
 have hF:ZU w0 w' ZHy 34 o' (xs.length+1) k' (vs++L.toList):=by
  refine⟨h2,F.mod.trans h3 (fun k hk hob=>absurd (F.new k hob) (by omega)),fun k hk=>?_⟩;rcases h4 k hk with h5|h5
  ·exact F.new k h5
  ·exact Nat.le_trans F.mod.size h5
 have hlen:vs.length=xs.length*34:=F.own.1
 have step:∀{y:It}{L:Array Value},RfC (fun b=>A b\/OB o b) w y L->RfC (fun b=>A b\/OB o' b) w' y L:=fun hy=>by
  have h5:=RfC.restr (A':=fun b=>A b\/OB o b\/w.heap.size<=b) (fun b hb hh=>hh.elim JI (fun hh=>hh.elim JA (fun h=>absurd h (by omega)))) hy;have h6:=h5.modA h3 (fun b h=>JA (JI h));exact RfC.restr (fun b _ hh=>hh.elim JI (fun h=>JA (h4 b h))) h6
 refine⟨o',k',w',h1,⟨by simp,_,hF,fun j hj=>?_⟩,h3,h4⟩;rw[JC,JE,JV]at hj;by_cases hjx:j<xs.length
 ·obtain⟨L',a,e⟩:=hv j hjx
  refine⟨L',fun i hi=>?_,?_⟩
  ·rw[JF (by omega)];exact a i hi
  ·rw[JR hjx];exact step e
 ·obtain rfl:j=xs.length:=by omega
  refine⟨L,fun i hi=>?_,?_⟩
  ·rw[J3 (by omega),hlen,show xs.length*34+i-xs.length*34=i by omega,JD]
  ·rw[JO (J6 _)]
   simp only[Jf,JU];exact step hx
def NvC(A:Nat->Prop)(w:Y)(xs:List It)(b:Bool)(s1 s2 s3:Option Addr×Nat×Nat):Prop :=
 (∃p v,xs.length=2/\Z1C (xs.getD 0 (.s []))=J2 (p,J9)/\xs.getD 1 (.s [])=.s v/\b=J9/\s1.2.1=p.length/\RdA A w s1.1 p/\s2=(G,0,0)/\s3.2.1=v.length/\RdA A w s3.1 v) \/
 (∃p D L,xs.length=2/\Z1C (xs.getD 0 (.s []))=J2 (p,W)/\b=W/\s1.2.1=p.length/\RdA A w s1.1 p/\s2=(J2 ⟨D,0,G⟩,1,1)/\¬A D/\Blk w D ZHy L/\RfC A w (xs.getD 1 (.s [])) L/\s3=(G,0,0)) \/
 (∃g v,xs.length=17/\xs.getD 16 (.s [])=.s v/\b=W/\s1=(G,0,0)/\s2.1=J2 ⟨g,0,G⟩/\s2.2.1=16/\g<w.heap.size/\¬A g/\(∀j,j<16->∃L,ZG w ⟨g,j*34,G⟩ 34 L/\RfC A w (xs.getD j (.s [])) L)/\s3.2.1=v.length/\RdA A w s3.1 v)
theorem NvC.modA{S:Nat->Prop}{xs:List It}{b:Bool}{s1 s2 s3:Option Addr×Nat×Nat}(h:NvC A w xs b s1 s2 s3)(M:Vcg.Mod S w w')(hS:∀b,S b->A b):NvC A w' xs b s1 s2 s3:=by
 rcases h with⟨p,v,h1,h2,h3,h4,h5,h6,h7,h8,h9⟩|⟨p,D,L,h1,h2,h3,h4,h5,h6,h7,h8,h9,h10⟩|⟨g,v,h1,h2,h3,h4,h5,h6,h7,h8,h9,h10,h11⟩
 ·exact JI ⟨p,v,h1,h2,h3,h4,h5,h6.modA M hS,h7,h8,h9.modA M hS⟩
 ·exact JA (JI ⟨p,D,L,h1,h2,h3,h4,h5.modA M hS,h6,h7,h8.mod M (fun h=>h7 (hS _ h)),h9.modA M hS,h10⟩)
 ·refine JA (JA ⟨g,v,h1,h2,h3,h4,h5,h6,Jb h7 M.size,h8,fun j hj=>?_,h10,h11.modA M hS⟩)
  obtain⟨L,⟨a,a'⟩,c⟩:=h9 j hj;exact⟨L,⟨a,fun i hi=>by rw[<-a' i hi,Z3];exact ZN M h7 (fun h=>h8 (hS _ h))⟩,c.modA M hS⟩
theorem NvC.mod'{xs:List It}{b:Bool}{s1 s2 s3:Option Addr×Nat×Nat}(h:NvC A w xs b s1 s2 s3)(M:Vcg.Mod NoB w w'):NvC A w' xs b s1 s2 s3:=h.modA M (fun _ h=>h.elim)
theorem NvC.restr{A':Nat->Prop}(hA:∀b,b<w.heap.size->A' b->A b){xs:List It}{b:Bool}{s1 s2 s3:Option Addr×Nat×Nat}(h:NvC A w xs b s1 s2 s3):NvC A' w xs b s1 s2 s3:=by
 rcases h with⟨p,v,h1,h2,h3,h4,h5,h6,h7,h8,h9⟩|⟨p,D,L,h1,h2,h3,h4,h5,h6,h7,h8,h9,h10⟩|⟨g,v,h1,h2,h3,h4,h5,h6,h7,h8,h9,h10,h11⟩
 ·exact JI ⟨p,v,h1,h2,h3,h4,h5,h6.mono hA,h7,h8,h9.mono hA⟩
 ·exact JA (JI ⟨p,D,L,h1,h2,h3,h4,h5.mono hA,h6,fun h=>h7 (hA D h8.lt h),h8,h9.restr hA,h10⟩)
 ·refine JA (JA ⟨g,v,h1,h2,h3,h4,h5,h6,h7,fun h=>h8 (hA g h7 h),fun j hj=>?_,h10,h11.mono hA⟩)
  obtain⟨L,a,c⟩:=h9 j hj;exact⟨L,a,c.restr hA⟩
def nvV(b:Bool)(s1 s2 s3:Option Addr×Nat×Nat):Value:=.agg #[J b,.slice s1.1 s1.2.1 s1.2.2,.slice s2.1 s2.2.1 s2.2.2,.slice s3.1 s3.2.1 s3.2.2]
theorem ZDh{D:Nat}{t:JZ}{a b c d:Value}{b1:Bool}{s1 s2 s3:Option Addr×Nat×Nat}{R':Bool->Option Addr->Nat->Nat->Option Addr->Nat->Nat->Option Addr->Nat->Nat->Y->Prop}(X:Blk w D t #[a,b,c,d])(K:∀w',Vcg.Mod (·=D) w w'->R' b1 s1.1 s1.2.1 s1.2.2 s2.1 s2.2.1 s2.2.2 s3.1 s3.2.1 s3.2.2 w') :
  Z1 w ⟨D,0,G⟩ (J b1)/\∀w1:Y,ZA w ⟨D,0,G⟩ (J b1) w1->Z1 w1 (U ⟨D,0,G⟩ 1) (.slice s1.1 s1.2.1 s1.2.2)/\∀w2:Y,ZA w1 (U ⟨D,0,G⟩ 1) (.slice s1.1 s1.2.1 s1.2.2) w2->Z1 w2 (U ⟨D,0,G⟩ 2) (.slice s2.1 s2.2.1 s2.2.2)/\∀w3:Y,ZA w2 (U ⟨D,0,G⟩ 2) (.slice s2.1 s2.2.1 s2.2.2) w3 ->
   Z1 w3 (U ⟨D,0,G⟩ 3) (.slice s3.1 s3.2.1 s3.2.2)/\∀w4:Y,ZA w3 (U ⟨D,0,G⟩ 3) (.slice s3.1 s3.2.1 s3.2.2) w4 ->
   ∃b65:Bool,∃o66:Option Addr,∃l67:Nat,∃l68:Nat,∃o69:Option Addr,∃l70:Nat,∃l71:Nat,∃o72:Option Addr,∃l73:Nat,∃l74:Nat,J0 w4 ⟨D,0,G⟩=J2 (J b65) /\
   J0 w4 (U ⟨D,0,G⟩ 1)=J2 (.slice o66 l67 l68)/\J0 w4 (U ⟨D,0,G⟩ 2)=J2 (.slice o69 l70 l71)/\J0 w4 (U ⟨D,0,G⟩ 3)=J2 (.slice o72 l73 l74)/\R' b65 o66 l67 l68 o69 l70 l71 o72 l73 l74 w4 :=
 set4 X rfl rfl rfl rfl (fun w' X' M=>get4 X' (K w' M))
theorem Z5R{xs:List It}{v1 v2 v3:Value}(hg:Z2p (.l xs))(hA:∀b,w.heap.size<=b->¬A b)(hx:ItC A w (.l xs) v1 v2 v3) :
  JX O Z2a.n #[.agg #[v1,v2,v3]] w (fun e w'=>∃b s1 s2 s3,e=C (nvV b s1 s2 s3)/\Vcg.Mod NoB w w'/\NvC A w' xs b s1 s2 s3):=by
 have hx0:=hx;simp only[ItC]at hx;obtain⟨rfl,rfl,p,c,rfl,h4,hcap⟩:=hx;refine ZD fun R hR=>Z2a.vc _ _ _ _ _ _ _ _ _ ?_;unfold Z2a.Vc;rintro d3 w1⟨rfl,rfl⟩;have M1:=Mod.alloc (S:=NoB) w (I #[J J9,.slice G 0 0,.slice p xs.length c] 111);have X1:=Blk.new w 111 #[J J9,.slice G 0 0,.slice p xs.length c];have hs1:=ZE w (I #[J J9,.slice G 0 0,.slice p xs.length c] 111);generalize hD:w.heap.size=D at *
 generalize w.alloc (I #[J J9,.slice G 0 0,.slice p xs.length c] 111)=w1 at *
 rintro d5 w2⟨rfl,rfl⟩;have M12:=Mod.alloc (S:=NoB) w1 (I #[J W,.slice G 0 0,.slice G 0 0,.slice G 0 0] 86);have V2:=Blk.new w1 86 #[J W,.slice G 0 0,.slice G 0 0,.slice G 0 0];have hs2:=ZE w1 (I #[J W,.slice G 0 0,.slice G 0 0,.slice G 0 0] 86);have X2:=X1.mod' M12;have M2:=M1.none_trans M12;generalize hN:w1.heap.size=N at *
 generalize w1.alloc (I #[J W,.slice G 0 0,.slice G 0 0,.slice G 0 0] 86)=w2 at *
 have h4N:Z1q (fun b=>A b\/b=N) w xs p 0:=Z1q.restr (fun b hb hh=>hh.elim id (fun h=>by omega)) h4
 have fin:∀(w':Y)(b:Bool)(s1 s2 s3:Option Addr×Nat×Nat)(cs:Value×Value×Value×Value),Vcg.Mod NoB w w'->Blk w' N 86 #[cs.1,cs.2.1,cs.2.2.1,cs.2.2.2]->NvC (fun b=>A b\/b=N) w' xs b s1 s2 s3->∀w4,Vcg.Mod (·=N) w' w4->R (C (nvV b s1 s2 s3)) w4:=by
  intro w' b s1 s2 s3 cs M B hn w4 Q;refine hR _ _ ⟨b,s1,s2,s3,rfl,ZI M Q (by omega),?_⟩;exact(hn.modA Q (fun b hb=>JA hb)).restr (fun b _ h=>JI h)
 refine⟨_,_,_,by rw[Z3];exact X2.rd1 rfl,fun h2=>?_,fun h2=>?_⟩
 ·have h2':xs.length=2:=by omega
  obtain⟨pp,lf,he,hl1,hl2⟩:=hg.two h2';have h42:=Z1q.mod M2 _ h4N;obtain⟨g,f0,u1,u2,u3,rfl,hgs,e1,e2,e3,hi⟩:=h42.get 0 (by omega);have h0e:xs.getD 0 (.s [])=xs[0]:=Z1m (by omega);have h1e:xs.getD 1 (.s [])=xs[1]:=Z1m (by omega);have hm0:xs[0]∈xs:=Jg (by omega);obtain⟨gg,hnn,hfine⟩:=hg.node;cases hq:xs[0]with
  |l ys=>rw[h0e,hq]at he;simp[Z1C]at he
  |s bs =>
   rw[hq]at hi;simp only[ItC]at hi;obtain⟨rfl,⟨ox,cx,rfl,hrx,_⟩,rfl⟩:=hi
   have hbl:bs.length<=2^20:=by
    have hfx:=hfine.mem hm0;rw[hq]at hfx
    have:bs.length<=(enc (.s bs)).length:=by
     simp only[enc];split
     ·exact J6 _
     ·rw[JC];omega
    have:=hfx.2.2;omega
   refine⟨_,_,_,by rw[Z3];exact X2.rd1 rfl,_,rfl,⟨by decide,by omega⟩,_,_,_,by rw[Z3,Z3];exact e2,?_⟩;refine(Z7x hrx hbl).mono ?_;rintro _ w3⟨o',k',rfl,M3,R3,hnew⟩;have M03:=M2.none_trans M3;have X3:=X2.mod' M3;have V3:=V2.mod' M3;have he':=he;rw[h0e,hq]at he';simp only[Z1C]at he';have eu:upk bs=(pp,lf,0):=by unfold upk;rw[he']
   rw[eu]at R3 ⊢;have hs3:=M2.size
   have hRA:RdA (fun b=>A b\/b=N) w3 o' pp:=⟨R3,fun _ d hd hh=>by
    have h1:=hnew d hd;have h2:=V2.lt;rcases hh with hh|hh
    ·exact hA _ (by omega) hh
    ·omega⟩
   obtain⟨g',f0',t1,t2,t3,ho,hg',d1,d2,d3,hi'⟩:=(Z1q.mod M03 _ h4N).get 1 (by omega);cases ho;refine⟨_,_,_,_,_,rfl,fun hlf=>?_,fun hlf=>?_⟩
   ·dsimp only at hlf;subst hlf
    obtain⟨vs,hv1,hvn⟩:=hl1 rfl;rw[h1e]at hv1;rw[hv1]at hi';simp only[ItC]at hi';obtain⟨rfl,⟨oy,cy,rfl,hry,hay⟩,rfl⟩:=hi';refine⟨_,_,_,by rw[Z3];exact X3.rd1 rfl,_,rfl,⟨by decide,by omega⟩,_,_,_,by rw[Z3,Z3];exact d2,?_⟩;exact ZDh (b1:=J9) (s1:=(o',pp.length,k')) (s2:=(G,0,0)) (s3:=(oy,vs.length,cy)) V3 (fin w3 J9 (o',pp.length,k') (G,0,0) (oy,vs.length,cy) (_,_,_,_) M03 V3 (JI ⟨pp,vs,h2',he,by rw[h1e,hv1],rfl,rfl,hRA,rfl,rfl,hry,hay⟩))
   ·dsimp only at hlf;subst hlf
    obtain⟨hpn,hgy,hye⟩:=hl2 rfl;obtain⟨_,_,_,_,_,_,_,rfl,rfl,rfl⟩:=hi'.vals;refine⟨_,_,_,by rw[Z3];exact X3.rd1 rfl,_,rfl,⟨by decide,by omega⟩,_,_,_,_,_,_,_,by rw[Z3];exact d1,by rw[Z3,Z3];exact d2,by rw[Z3,Z3];exact d3,?_⟩;rw[h1e]at hgy;have hs03:=M03.size;have hV3:=V3.lt
    refine(Z9R hgy (fun b hb hh=>by
     rcases hh with hh|hh
     ·exact hA b (by omega) hh
     ·omega) hi').mono ?_
    rintro _ w4⟨L,rfl,M4,hL⟩;have M04:=M03.none_trans M4;refine⟨L,rfl,hL.size,?_⟩;rw[ZCP (n:=34) rfl hL.size];rintro d59 w5⟨rfl,rfl⟩;have M5:=Mod.alloc (S:=NoB) w4 (I L 82);have B5:=Blk.new w4 82 L;have V5:=(V3.mod' M4).mod' M5;have hs4:=M4.size;have M05:=M04.none_trans M5;refine ZDh (b1:=W) (s1:=(o',pp.length,k')) (s2:=(J2 ⟨w4.heap.size,0,G⟩,1,1)) (s3:=(G,0,0)) V5 (fin _ W (o',pp.length,k') (J2 ⟨w4.heap.size,0,G⟩,1,1) (G,0,0) (_,_,_,_) M05 V5 (JA (JI ⟨pp,w4.heap.size,L,h2',he,rfl,rfl,(hRA.mod' M4).mod' M5,rfl,?_,B5,?_,rfl⟩)))
    ·intro hh
     rcases hh with hh|hh
     ·exact hA _ (by omega) hh
     ·omega
    ·rw[h1e];exact hL.mod' M5
 ·obtain⟨h17,⟨v16,hv16⟩,hkids⟩:=hg.many (by omega)
  have h42:=Z1q.mod M2 _ h4N;obtain⟨g,f0,u1,u2,u3,rfl,hgs,e1,e2,e3,hi⟩:=h42.get 16 (by omega);rw[Z1m (by omega)]at hv16;rw[hv16]at hi;simp only[ItC]at hi;obtain⟨rfl,⟨ov,cv,rfl,hrv,hav⟩,rfl⟩:=hi;refine⟨_,_,_,by rw[Z3];exact X2.rd1 rfl,_,rfl,⟨by decide,by omega⟩,_,_,_,by rw[Z3,Z3];exact e2,?_⟩;rintro d82 w3⟨rfl,rfl⟩;have M3:=Mod.alloc (S:=NoB) w2 (I #[J W,.slice G 0 0,.slice G 0 0,.slice G 0 0] 86);have U3:=Blk.new w2 86 #[J W,.slice G 0 0,.slice G 0 0,.slice G 0 0];have hs3:=ZE w2 (I #[J W,.slice G 0 0,.slice G 0 0,.slice G 0 0] 86);have M03:=M2.none_trans M3;have X3:=X2.mod' M3;have V3:=V2.mod' M3;have hVlt:=V2.lt;have hXlt:=X2.lt;generalize hN2:w2.heap.size=N2 at *
  generalize w2.alloc (I #[J W,.slice G 0 0,.slice G 0 0,.slice G 0 0] 86)=w3 at *
  refine set4 U3 rfl rfl rfl rfl (fun w4 U4 Q4=>?_);have M04:Vcg.Mod NoB w w4:=ZI M03 Q4 (by omega);have X4:=X3.mod Q4 (by omega);have V4:=V3.mod Q4 (by omega);have hs4:=Q4.size
  let A2:Nat->Prop:=fun b=>A b\/b=N\/b=N2
  have h4A:Z1q A2 w xs (J2 ⟨g,f0,G⟩) 0:=Z1q.restr (fun b hb hh=>hh.elim id (fun h=>by omega)) h4
  have hrvA:RdA A2 w4 ov v16:=by
   have h0:=(Z1q.mod M04 _ h4A).get 16 (by omega);obtain⟨g',f0',t1,t2,t3,ho,hg',d1,d2,d3,hi'⟩:=h0;cases ho;rw[hv16]at hi';simp only[ItC]at hi';obtain⟨rfl,⟨oz,cz,rfl,hrz,haz⟩,rfl⟩:=hi';have h5:w4.cell? ⟨g,f0+(0+16*3)+1,G⟩=w2.cell? ⟨g,f0+(0+16*3)+1,G⟩:=ZN (ZI M3 Q4 (by omega)) (by omega) (fun h=>h);have hd2:w4.cell? ⟨g,f0+(0+16*3)+1,G⟩=J2 (.slice oz v16.length cz):=d2;have he2:w2.cell? ⟨g,f0+(0+16*3)+1,G⟩=J2 (.slice ov v16.length cv):=e2;rw[hd2,he2]at h5;cases h5;exact⟨hrz,haz⟩
  refine⟨_,_,_,by rw[Z3];exact X4.rd1 rfl,by omega,?_⟩
  have hA2:∀b,w4.heap.size<=b->¬A2 b:=fun b hb hh=>by
   have hb4:=U4.lt;rcases hh with hh|hh|hh
   ·exact hA b (by have:=M04.size;omega) hh
   ·omega
   ·omega
  have M24:Vcg.Mod NoB w2 w4:=ZI M3 Q4 (by omega);have h4B:Z1q (fun b=>A2 b\/w4.heap.size<=b) w xs (J2 ⟨g,f0,G⟩) 0:=Z1q.restr (fun b hb hh=>hh.elim id (fun h=>by have:=M04.size;omega)) h4A;have hN2lt:=U4.lt;clear h4A h42 e1 e2 e3 hrv hav;refine⟨fun i w'=>∃(j:Nat)(o:Option Addr)(k:Nat),i=(j:Int)/\j<=16/\Z7S A2 w2 w' (xs.take j) o j k/\(∀b,OB o b->w4.heap.size<=b)/\w4.heap.size<=w'.heap.size/\Blk w' N2 86 #[J W,.slice G 0 0,.slice o j k,.slice ov v16.length cv]/\RdA (fun b=>A2 b\/w4.heap.size<=b) w' ov v16,fun i _=>((16:Int)-i).toNat,⟨0,G,0,rfl,JP _,by rw[List.take_zero];exact Z7S.nil M24,fun b hb=>(Z4j b hb).elim,J6 _,U4,hrvA.mono (fun b hb hh=>hh.elim id (fun h=>by omega))⟩,?_⟩;rintro _ _ w5⟨j,o,k,rfl,hj,hrow,hO,hs45,U5,hv5⟩;have M25:Vcg.Mod NoB w2 w5:=by obtain⟨_,vs,F,_⟩:=hrow;exact F.mod
  have M05:=M2.none_trans M25;have X5:=X2.mod' M25;refine⟨fun hlt=>?_,fun hge=>?_⟩
  ·have hjl:j<xs.length:=by omega
   have hj16:j<16:=by omega
   obtain⟨g',f',u1,u2,u3,ho,hg',d1,d2,d3,hij⟩:=(Z1q.mod M05 _ h4B).get j hjl;cases ho;rw[J5]at d1 d2 d3;obtain⟨b,p1,q1,r1,p2,q2,r2,rfl,rfl,rfl⟩:=hij.vals;refine⟨_,rfl,⟨by omega,by omega⟩,_,_,_,_,_,_,_,by rw[Z3,J7];exact d1,by rw[Z3,Z3,J7];exact d2,by rw[Z3,Z3,J7];exact d3,?_⟩;rintro d102 w6⟨rfl,rfl⟩;have H:=Blk.new w5 111 #[J W,.slice G 0 0,.slice G 0 0];have M56:=Mod.alloc (S:=NoB) w5 (I #[J W,.slice G 0 0,.slice G 0 0] 111);refine Z9m H rfl rfl rfl (fun w7 H7 Q7=>?_);have M57:Vcg.Mod NoB w5 w7:=ZI M56 Q7 (J6 _);rintro _ rfl;have M58:=M57.step_drew;have U8:=U5.mod' M58;have H8:=H7.drew;have hij8:=ItC.mod M58 _ hij;have hrow8:=hrow.mod' M58;have hv8:=hv5.mod' M58;have hs8:=M58.size;have hOlt:∀b,OB o b->b<w5.heap.size:=by obtain⟨_,vs,F,_⟩:=hrow;exact fun b hb=>F.own.lt hb
   generalize w5.heap.size=HH at *
   generalize w7.drew=w8 at *
   clear H M56 Q7 H7 M57 hrow hij U5 hv5 d1 d2 d3;refine⟨_,_,_,by rw[Z3];exact U8.rd1 rfl,Z60 H8 ?_⟩;have hgj:Z2p xs[j]:=by have:=hkids j hj16;rwa[Z1m hjl]at this
   have hijO:ItC (fun b=>A2 b\/OB o b) w8 xs[j] (J b) (.slice p1 q1 r1) (.slice p2 q2 r2):=ItC.mono (fun b hb=>hb.imp id (hO b)) _ hij8
   refine(Z9R hgj (fun b hb hh=>by
    rcases hh with hh|hh
    ·exact hA2 b (by omega) hh
    ·have:=hOlt b hh;omega) hijO).mono ?_
   rintro _ w9⟨L,rfl,M9,hL⟩;have U9:=U8.mod' M9;refine⟨L,rfl,by rw[Z3];exact U9.rd1 rfl,hL.size,?_⟩;rw[ZCP (n:=34) rfl hL.size];rintro d121 w10⟨rfl,rfl⟩;have M10:=Mod.alloc (S:=NoB) w9 (I L 82);have B10:=Blk.new w9 82 L;have U10:=U9.mod' M10;have hrow10:=(hrow8.mod' M9).mod' M10;have hL10:=hL.mod' M10;have hv10:=(hv8.mod' M9).mod' M10;have hs10:w4.heap.size<=(w9.alloc (I L 82)).heap.size:=by have:=M9.size;have:=M10.size;omega
   generalize w9.alloc (I L 82)=w10 at *
   have hlen:(xs.take j).length=j:=by rw[Jh];omega
   obtain⟨o',k',w11,hr11,hrow11,M11,hO11⟩:=hrow10.push B10 hL10 (by omega);have hON:¬OB o N2:=fun h=>by have:=hO _ h;omega
   have U11:=U10.mod M11 hON;refine⟨by rw[Z3];exact U10.rd1 rfl,_,w11,hr11,_,_,_,rfl,?_⟩;rw[Z3,J5];refine⟨U11.canSet (by simp) rfl,?_⟩;rintro _ rfl;have Q12:=Mod.setCell w11 ⟨N2,2,G⟩ (.slice o' (j+1) k');have U12:=U11.set 2 (.slice o' (j+1) k');have hO':∀b,OB o' b->w4.heap.size<=b:=fun b hb=>(hO11 b hb).elim (hO b) (fun h=>by omega);have htk:xs.take (j+1)=xs.take j++[xs[j]]:=JJ hjl;rw[<-htk]at hrow11;have ew:Jn JH ((j:Int)+1)=((j+1:Nat):Int):=by rw[Z0 (by omega) (by omega)];omega
   rw[ew];refine⟨⟨j+1,o',k',rfl,hj16,hrow11.set (D:=N2) Q12 (fun h=>by have:=hO' _ h;omega) (by omega) (fun q hq L' hL'=>hL'.modA Q12 (fun b hb=>JI (JA (JA hb)))),hO',by have:=M11.size;have:=Q12.size;omega,U12,?_⟩,by dsimp only;omega⟩;exact(hv10.modA M11 (fun b hb=>JA (hO b hb))).modA Q12 (fun b hb=>JI (JA (JA hb)))
  ·obtain rfl:j=16:=by omega
   have V5:=V2.mod' M25;obtain⟨_,vs,F,hrf⟩:=hrow;refine get4 U5 ?_;refine ZDh (b1:=W) (s1:=(G,0,0)) (s2:=(o,16,k)) (s3:=(ov,v16.length,cv)) V5 (fin w5 W (G,0,0) (o,16,k) (ov,v16.length,cv) (_,_,_,_) M05 V5 (JA (JA ?_)));have hl16:(xs.take 16).length=16:=by rw[Jh];omega
   obtain⟨L0,hL0,hr0⟩:=hrf 0 (by omega);have h33:vs[0*34+0]?=L0[0]?:=hL0 0 (by omega);have hL0s:=hr0.size;obtain⟨q,hq,_⟩:=F.own.cell (i:=0*34+0) (v:=L0[0]'(by omega)) (by rw[h33,JG (by omega)]);have hqs:=hO q ⟨_,hq,rfl⟩;have hqlt:=F.own.lt ⟨_,hq,rfl⟩;have hAN:∀b,A b\/b=N->A2 b:=fun b hb=>hb.imp id JI;refine⟨q,v16,h17,by rw[Z1m (by omega),hv16],rfl,rfl,hq,rfl,hqlt,fun hh=>hA2 q hqs (hAN q hh),fun j hj=>?_,rfl,hv5.mono (fun b _ hb=>JI (hAN b hb))⟩;obtain⟨L,hL,hr⟩:=hrf j (by omega);refine⟨L,⟨hr.size,fun i hi=>?_⟩,?_⟩
   ·have hls:=hr.size
    obtain⟨q',hq',hc⟩:=F.own.cell (i:=j*34+i) (v:=L[i]'(by omega)) (by rw[hL i hi,JG (by omega)]);rw[hq]at hq';cases hq';rw[Z3,hc,JG (by omega)]
   ·rw[Z1m (by omega)]
    have:(xs.take 16)[j]'(by omega)=xs[j]:=by rw[List.getElem_take]
    rw[this]at hr;exact hr.restr (fun b _ hb=>JI (hAN b hb))
end
abbrev Z2u(e:Int):List Jc:=ZH1 (.iface 127 (.agg #[.int JH e]))
theorem Z1D(w:Y)(n:Int):JX O Z2S.n #[.int JH n] w (fun e w'=>w'=w/\if n=0 then e=C (J8 #[])else e=JL (Z2u n)):=by
 refine Z2S.vc _ _ _ ?_;unfold Z2S.Vc;exact⟨fun h=>⟨rfl,by rw[if_neg h]⟩,fun h=>⟨rfl,by rw[if_pos h]⟩⟩
theorem Z3E.mono{v:Value}{args:Array Value}{w:Y}{R R':JY->Y->Prop}(h:Z3E O v args w R)(hr:∀e w',R e w'->R' e w'):Z3E O v args w R':=by
 obtain⟨f,a,b,h1,h2,h3⟩:=h;exact⟨f,a,b,h1,h2,h3.mono hr⟩
def rootIt(h:By):It:=if h=emptyH then .s []else .s h
theorem Z5M{h:By}(hh:h.length=32):Z2p (rootIt h):=by
 unfold rootIt;split
 ·exact .nil
 ·exact .hash hh
section
variable{A:Nat->Prop}{w w':Y}
theorem Z5Y{h:By}(hh:h.length=32) :
  JX O Z2c.n #[.agg (hashA h)] w (fun e w'=>∃L,e=C (.agg L)/\Vcg.Mod NoB w w'/\RfC A w' (rootIt h) L):=by
 refine Z2c.vc _ _ _ ?_;unfold Z2c.Vc;rintro d1 w1⟨rfl,rfl⟩;have M1:=Mod.alloc (S:=NoB) w (I (hashA h) 27);have X1:=Blk.new w 27 (hashA h);have hs1:=ZE w (I (hashA h) 27);generalize hD:w.heap.size=D at *
 generalize w.alloc (I (hashA h) 27)=w1 at *
 rintro d3 w2⟨rfl,rfl⟩;rw[Z5X];have M12:=Mod.alloc (S:=NoB) w1 (I (rfA zeros32 G W) 82);have H2:=Blk.new w1 82 (rfA zeros32 G W);have X2:=X1.mod' M12;generalize hH:w1.heap.size=H at *
 generalize w1.alloc (I (rfA zeros32 G W) 82)=w2 at *
 rintro _ rfl;have M2:=M12.step_drew;have X3:=X2.drew;have H3:=H2.drew;generalize w2.drew=w3 at *
 refine⟨_,X3.rowAll (ZB _),_,X3.rowAll (ZB _),?_⟩;refine(Z4i w3).mono ?_;rintro _ w4⟨rfl,M4⟩;have X4:=X3.mod' M4;have H4:=H3.mod' M4;have M14:=M2.none_trans M4;refine⟨_,rfl,X4.rowAll (ZB _),X4.rowAll (ZB _),_,Z7g _ _ hh (by unfold emptyH;exact ZO _),_,rfl,ZB _,?_⟩;rw[ZHD (ZB h)];obtain⟨w5,hr5,H5,Q5⟩:=Z21 (x:=.s h) (A:=A) (w0:=w) H4 (Z0E rfl _ _) (Z0E (h:=(hashA h).toList) (Z1O _) G (decide (h≠emptyH))) (Z6X (Z2k _) _ _);refine⟨w5,hr5,_,H5.rowAll (Z0E (Z1O _) _ _),_,rfl,M1.none_trans (ZI M14 Q5 (by omega)),?_⟩;unfold rootIt;by_cases he:h=emptyH
 ·rw[if_pos he]
  exact JI ⟨rfl,(hashA h).toList,Z1O _,Z2k _,by rw[decide_eq_false (by simp[he])]⟩
 ·rw[if_neg he]
  exact JA ⟨hh,by rw[decide_eq_true he]⟩
theorem Z89{o:Option Addr}{k:Nat}{bs:By}(hA:∀b,w.heap.size<=b->¬A b)(hr:RdB w o bs)(hk:bs.length<=k) :
  JX O Z2b.n #[.slice o bs.length k] w (fun e w'=>Vcg.Mod NoB w w'/\(Z0T bs=0->∃xs b s1 s2 s3,Z5z bs=.ok (.l xs)/\Z2p (.l xs)/\e=C (J8 #[nvV b s1 s2 s3,.int JH 0])/\NvC A w' xs b s1 s2 s3) /\
   (Z0T bs≠0->e=C (J8 #[nvV W (G,0,0) (G,0,0) (G,0,0),.int JH 161]))):=by
 refine ZD fun R hR=>Z2b.vc _ _ _ _ _ ?_;unfold Z2b.Vc;rintro d1 w1⟨rfl,rfl⟩;have M1:=Mod.alloc (S:=NoB) w (I #[J W,.slice G 0 0,.slice G 0 0,.slice G 0 0] 86);have V1:=Blk.new w 86 #[J W,.slice G 0 0,.slice G 0 0,.slice G 0 0];have hs1:=ZE w (I #[J W,.slice G 0 0,.slice G 0 0,.slice G 0 0] 86);have hr1:=hr.mod' M1;generalize hN:w.heap.size=N at *
 generalize w.alloc (I #[J W,.slice G 0 0,.slice G 0 0,.slice G 0 0] 86)=w1 at *
 refine(ZD4 hr1 hk).mono ?_;rintro _ w2⟨rfl,M2⟩;have M02:=M1.none_trans M2;have V2:=V1.mod' M2;refine⟨_,rfl,fun hne=>?_,fun h0=>?_⟩
 ·exact ZDh (b1:=W) (s1:=(G,0,0)) (s2:=(G,0,0)) (s3:=(G,0,0)) V2 (fun w' Q=>hR _ _ ⟨ZI M02 Q (by omega),fun h=>(hne h).elim,fun _=>rfl⟩)
 ·obtain⟨xs,hdc,hn,hg⟩:=Z2t h0
  refine(Z7v (hr1.mod' M2) hk).mono ?_;rintro e w3⟨M3,hd⟩;unfold Z37 at hd;rw[hdc]at hd;obtain⟨v1,v2,v3,rfl,hx⟩:=hd;obtain⟨b,p1,q1,r1,p2,q2,r2,rfl,rfl,rfl⟩:=hx.vals;have M03:=M02.none_trans M3;refine⟨_,_,_,_,_,_,_,_,rfl,?_⟩;rintro d2 w4⟨rfl,rfl⟩;have H:=Blk.new w3 111 #[J W,.slice G 0 0,.slice G 0 0];refine Z9m H rfl rfl rfl (fun w5 H5 Q5=>?_);have M35:Vcg.Mod NoB w3 w5:=ZI (Mod.alloc w3 _) Q5 (J6 _);have M05:=M03.none_trans M35;have V5:=(V2.mod' M3).mod' M35;refine Z60 H5 ?_;have hs2:=M02.size;have hVlt:=V2.lt
  have hx5:ItC (fun b=>A b\/b=N) w5 (.l xs) (J b) (.slice p1 q1 r1) (.slice p2 q2 r2):=ItC.restr (fun b _ hh=>by
   rcases hh with hh|hh
   ·refine Nat.lt_of_not_le fun hb=>hA b (by omega) hh
   ·omega) (ItC.mod M35 _ hx)
  refine(Z5R hg (fun b hb hh=>by
   have:=M05.size;have:=V5.lt;rcases hh with hh|hh
   ·exact hA b (by omega) hh
   ·omega) hx5).mono ?_
  rintro _ w6⟨bb,s1,s2,s3,rfl,M6,hn6⟩;have V6:=V5.mod' M6;have M06:=M05.none_trans M6;refine⟨_,_,_,_,_,_,_,_,_,_,rfl,ZDh (b1:=bb) (s1:=s1) (s2:=s2) (s3:=s3) V6 (fun w' Q=>hR _ _ ⟨ZI M06 Q (by omega),fun _=>⟨xs,bb,s1,s2,s3,hdc,hg,rfl,?_⟩,fun h=>(h h0).elim⟩)⟩;exact(hn6.modA Q (fun b hb=>JA hb)).restr (fun b _ h=>JI h)
variable{S:Nat->Prop}{lab lab':Nat->Nat}
theorem frz(s:Stp S w lab w' lab')(h6:¬S 6):Vcg.Mod (fun b=>lab b≠6) w w':=s.mod (fun k hk hs e=>h6 (e ▸ hs))
theorem ZDT(s:Stp S w lab w' lab')(b:Nat):lab' b≠6->lab b≠6\/w.heap.size<=b:=fun h=>by
 rcases Je b w.heap.size with hb|hb
 ·exact JI (by rw[<-s.lab b hb];exact h)
 ·exact JA hb
theorem RfC.stp{x:It}{L:Array Value}(h:RfC (fun b=>lab b≠6) w x L)(s:Stp S w lab w' lab')(h6:¬S 6):RfC (fun b=>lab' b≠6) w' x L :=
 ((h.restr (A':=fun b=>lab b≠6\/w.heap.size<=b) (fun b hb hh=>hh.resolve_right (by omega))).modA (frz s h6) (fun b hb=>JI hb)).restr (fun b _ hh=>ZDT s b hh)
theorem NvC.stp{xs:List It}{b:Bool}{s1 s2 s3:Option Addr×Nat×Nat}(h:NvC (fun b=>lab b≠6) w xs b s1 s2 s3)(s:Stp S w lab w' lab')(h6:¬S 6):NvC (fun b=>lab' b≠6) w' xs b s1 s2 s3 :=
 ((h.restr (A':=fun b=>lab b≠6\/w.heap.size<=b) (fun b hb hh=>hh.resolve_right (by omega))).modA (frz s h6) (fun b hb=>JI hb)).restr (fun b _ hh=>ZDT s b hh)
theorem ItC.stp6{x:It}{v1 v2 v3:Value}(h:ItC (fun b=>lab b≠6) w x v1 v2 v3)(s:Stp S w lab w' lab')(h6:¬S 6):ItC (fun b=>lab' b≠6) w' x v1 v2 v3 :=
 ItC.restr (fun b _ hh=>ZDT s b hh) (ItC.modA (frz s h6) (fun b hb=>JI hb) _ (ItC.restr (A':=fun b=>lab b≠6\/w.heap.size<=b) (fun b hb hh=>hh.resolve_right (by omega)) h))
end
structure ZJN {σ:Type} (ask:Value) (T:Nat->Prop) (Inv:Y->(Nat->Nat)->σ->Prop) (step:σ->By->σ×Except Int By) (can:σ->Nat->Prop):Prop where
 le:∀{s:σ}{n m:Nat},can s n->m<=n->can s m
 s5:¬T 5
 s6:¬T 6
 stp:∀{w w':Y}{lab lab':Nat->Nat}{s:σ},Inv w lab s->Stp (·=5) w lab w' lab'->Inv w' lab' s
 run:∀{w:Y}{lab:Nat->Nat}{s:σ}{h:By}{n:Nat},Inv w lab s->can s (n+1)->h.length=32->Z3E O ask #[.agg (hashA h)] w (fun e w'=>∃lab',Stp T w lab w' lab'/\Inv w' lab' (step s h).1/\can (step s h).1 n /\
  (∀er,(step s h).2=.error er->e=JL (Z2u er)/\er≠0)/\(∀b,(step s h).2=.ok b->∃o k,e=C (.slice o b.length k)/\RdB w' o b/\b.length<=k))
structure ZG1 (w:Y) (lab:Nat->Nat) (D:Nat) (x:It):Prop where
 lab5:lab D=5
 at_:∃L,Blk w D ZHy L/\RfC (fun b=>lab b≠6) w x L
theorem ZG1.stp{S:Nat->Prop}{w w':Y}{lab lab':Nat->Nat}{D:Nat}{x:It}(h:ZG1 w lab D x)(s:Stp S w lab w' lab')(h5:¬S 5)(h6:¬S 6):ZG1 w' lab' D x:=by
 obtain⟨h1,L,h2,h3⟩:=h;exact⟨(s.lab D h2.lt).trans h1,L,⟨(s.block D h2.lt (by rw[h1];exact h5)).trans h2,h3.stp s h6⟩⟩
theorem ZBM{w:Y}{lab:Nat->Nat}{x:It}{L:Array Value}(h:RfC (fun b=>lab b≠6) w x L) :
  ∃w',JT O (JQ ZHy (J4 (J2 ⟨w.heap.size,0,G⟩)) (.agg L)) (w.alloc (I (rfA zeros32 G W) 82))=.ok () w'/\ZG1 w' (ext lab w.heap.size 5) w.heap.size x/\Stp NoS w lab w' (ext lab w.heap.size 5):=by
 have M1:=Mod.alloc (S:=NoB) w (I (rfA zeros32 G W) 82);have H1:=Blk.new w 82 (rfA zeros32 G W);obtain⟨w2,hr2,H2,Q2⟩:=Z21 (x:=x) (A:=fun _=>False) (w0:=w) H1 (Z0E rfl _ _) h.size h.one;have M2:Vcg.Mod NoB w w2:=ZI M1 Q2 (J6 _);have s:Stp NoS w lab w2 (ext lab w.heap.size 5):=Stp.of_nob M2 5;exact⟨w2,hr2,⟨ext_new (J6 _),L,H2,h.stp s (fun h=>h)⟩,s⟩
theorem ZG1.set{w w':Y}{lab lab':Nat->Nat}{D N:Nat}{x:It}(h:ZG1 w lab D x)(Q:Vcg.Mod (·=N) w w')(s:Stp (·=5) w lab w' lab')(hne:D≠N):ZG1 w' lab' D x:=by
 obtain⟨h1,L,h2,h3⟩:=h;exact⟨(s.lab D h2.lt).trans h1,L,h2.mod Q hne,h3.stp s (by decide)⟩
theorem ZEf{w:Y}{lab:Nat->Nat}{D:Nat}{x y:It}{L:Array Value}{P:Addr->Y->Prop}(V:ZG1 w lab D x)(hL:RfC (fun b=>lab b≠6) w y L)(K:∀w' lab' D',Stp (·=5) w lab w' lab'->ZG1 w' lab' D' y->P ⟨D',0,G⟩ w') :
  ∃w120:Y,JT O (JQ 82 (J4 (J2 ⟨D,0,G⟩)) (.agg L)) w=.ok () w120 /\
   ∃L121:Array Value,ZG w120 ⟨D,0,G⟩ 34 L121 /\
   ∀(d122:Addr)(w123:Y),ZC w120 82 #[(.int J1 0),(.int J1 0),(.int J1 0),(.int J1 0),(.int J1 0),(.int J1 0),(.int J1 0),(.int J1 0),(.int J1 0),(.int J1 0),(.int J1 0),(.int J1 0),(.int J1 0),(.int J1 0),(.int J1 0),(.int J1 0),(.int J1 0),(.int J1 0),(.int J1 0),(.int J1 0),(.int J1 0),(.int J1 0),(.int J1 0),(.int J1 0),(.int J1 0),(.int J1 0),(.int J1 0),(.int J1 0),(.int J1 0),(.int J1 0),(.int J1 0),(.int J1 0),(J4 G),(J W)] d122 w123 ->
   ∃w124:Y,JT O (JQ 82 (J4 (J2 d122)) (.agg L121)) w123=.ok () w124/\P d122 w124:=by
 obtain⟨h5,L0,B,hr⟩:=V;obtain⟨w1,hr1,B1,Q1⟩:=Z21 (x:=y) (A:=fun _=>False) (w0:=w) B hr.size hL.size hL.one;have s1:Stp (·=5) w lab w1 (ext lab w.heap.size 5):=Stp.of_mod Q1 5 (fun k _ e=>by rw[e];exact h5);have hL1:=hL.stp s1 (by decide);refine⟨w1,hr1,L,B1.rowAll hL.size,?_⟩;rintro d w2⟨rfl,rfl⟩;rw[Z5X];obtain⟨w3,hr3,V3,s3⟩:=ZBM hL1;exact⟨w3,hr3,K w3 _ _ (s1.trans (s3.mono (fun _ h=>h.elim))) V3⟩
theorem setN{w:Y}{lab:Nat->Nat}{N:Nat}{a b c d:Value}{b1:Bool}{s1 s2 s3:Option Addr×Nat×Nat}{R':Y->Prop}(X:CB w lab 5 N 86 #[a,b,c,d])(K:∀w' lab',Vcg.Mod (·=N) w w'->Stp (·=5) w lab w' lab'->CB w' lab' 5 N 86 #[J b1,.slice s1.1 s1.2.1 s1.2.2,.slice s2.1 s2.2.1 s2.2.2,.slice s3.1 s3.2.1 s3.2.2]->R' w') :
  Z1 w ⟨N,0,G⟩ (J b1)/\∀w1:Y,ZA w ⟨N,0,G⟩ (J b1) w1->Z1 w1 (U ⟨N,0,G⟩ 1) (.slice s1.1 s1.2.1 s1.2.2)/\∀w2:Y,ZA w1 (U ⟨N,0,G⟩ 1) (.slice s1.1 s1.2.1 s1.2.2) w2->Z1 w2 (U ⟨N,0,G⟩ 2) (.slice s2.1 s2.2.1 s2.2.2)/\∀w3:Y,ZA w2 (U ⟨N,0,G⟩ 2) (.slice s2.1 s2.2.1 s2.2.2) w3 ->
   Z1 w3 (U ⟨N,0,G⟩ 3) (.slice s3.1 s3.2.1 s3.2.2)/\∀w4:Y,ZA w3 (U ⟨N,0,G⟩ 3) (.slice s3.1 s3.2.1 s3.2.2) w4->R' w4 :=
 set4 X.blk rfl rfl rfl rfl (fun w' B' Q=>K w' _ Q (Stp.of_mod Q 5 (fun k _ e=>by rw[e];exact X.clr)) ⟨B',(Z1M X.blk.lt).trans X.clr⟩)
theorem ZHk{xs:List It}{v:By}{j:Nat}(hg:Z2p (.l xs))(hj:j<xs.length)(h:xs.getD j (.s [])=.s v):v.length<=2^40:=by
 obtain⟨g,_,hf⟩:=hg.node;rw[Z1m hj]at h;have hm:=hf.mem (Jg hj);rw[h]at hm
 have:v.length<=(enc (.s v)).length:=by
  simp only[enc];split
  ·exact J6 _
  ·rw[JC];omega
 have:=hm.2.2;omega
def ZKN(r:Except Int By)(w':Y)(lab':Nat->Nat)(e:JY):Prop:=match r with
 | .error er=>e=JL (Z2u er)/\er≠0
 | .ok v=>∃o k,e=C (J8 #[.slice o v.length k,J (decide (v≠[]))])/\CBy w' lab' 6 o v
section
variable{σ:Type}{ask:Value}{T:Nat->Prop}{Inv:Y->(Nat->Nat)->σ->Prop}{step:σ->By->σ×Except Int By}{can:σ->Nat->Prop}
theorem ZCu(ok:ZJN ask T Inv step can){w0:Y}{lab0:Nat->Nat}{s0:σ}{h key:By}{o:Option Addr}{k:Nat}(hI:Inv w0 lab0 s0)(hcan:can s0 129)(hh:h.length=32)(hr:RdB w0 o key)(hkl:key.length<=64) :
  JX O Z4V.n #[.agg (hashA h),.slice o key.length k,ask] w0 (fun e w'=>∃lab',Stp (fun c=>c=5\/T c) w0 lab0 w' lab'/\Inv w' lab' (way step s0 (rootIt h) (nibbles key)).1/\ZKN (way step s0 (rootIt h) (nibbles key)).2 w' lab' e):=by
 have hT:∀w w' lab lab' s,Inv w lab s->Stp NoS w lab w' lab'->Inv w' lab' s:=fun w w' lab lab' s hI st=>ok.stp hI (st.mono (fun _ h=>h.elim));refine ZD fun R hR=>Z4V.vc _ _ _ _ _ _ _ ?_;unfold Z4V.Vc;rintro d3 w1⟨rfl,rfl⟩;have M1:=Mod.alloc (S:=NoB) w0 (I (hashA h) 27);have X1:=Blk.new w0 27 (hashA h);have hr1:=hr.mod' M1;generalize w0.heap.size=D3 at *
 generalize w0.alloc (I (hashA h) 27)=w1 at *
 refine(Z26 (k:=k) hr1 (by omega)).mono ?_;rintro _ w2⟨op,kp,rfl,F2⟩;have X2:=X1.mod' F2.mod;have M2:=M1.none_trans F2.mod;refine JA ⟨_,_,_,rfl,hashA h,X2.rowAll (ZB _),?_⟩;have hnl:=ZQ key;have hpc:=F2.own.cap.1;have s02:Stp NoS w0 lab0 w2 (ext lab0 w0.heap.size 6):=Stp.of_nob M2 6;have I2:=hT _ _ _ _ _ hI s02;have P2:CBy w2 (ext lab0 w0.heap.size 6) 6 op (nibbles key):=⟨F2.own.bytes,fun _ d hd=>ext_new (by have:=F2.new d.block ⟨d,hd,rfl⟩;have:=M1.size;omega)⟩;generalize ext lab0 w0.heap.size 6=lab2 at *
 refine(Z5Y (A:=fun b=>ext lab2 w2.heap.size 6 b≠6) hh).mono ?_;rintro _ w3⟨L,rfl,M3,hL⟩;have s23:Stp NoS w2 lab2 w3 (ext lab2 w2.heap.size 6):=Stp.of_nob M3 6;have I3:=hT _ _ _ _ _ I2 s23;have P3:=P2.stp s23 (fun h=>h);have s03:=s02.trans s23;generalize ext lab2 w2.heap.size 6=lab3 at *
 refine JA ⟨L,rfl,?_⟩;rintro d14 w4⟨rfl,rfl⟩;rw[Z5X];obtain⟨w5,hr5,V5,s35⟩:=ZBM hL;have I5:=hT _ _ _ _ _ I3 s35;have P5:=P3.stp s35 (fun h=>h);have s05:=s03.trans s35;generalize ext lab3 w3.heap.size 5=lab5 at *
 refine⟨w5,hr5,fun o l c d w'=>∃(lab:Nat->Nat)(s:σ)(x:It)(path:By)(D:Nat),d=⟨D,0,G⟩/\Stp (fun c=>c=5\/T c) w0 lab0 w' lab/\Inv w' lab s/\can s (path.length+1)/\ZG1 w' lab D x/\Z2p x/\CBy w' lab 6 o path/\l=path.length/\path.length<=c/\path.length<=128/\(∀n∈path,n.toNat<16)/\way step s x path=way step s0 (rootIt h) (nibbles key),
  fun _ l _ _ _=>l,⟨lab5,s0,rootIt h,nibbles key,_,rfl,s05.mono (fun _ h=>h.elim),I5,ok.le hcan (by omega),V5,Z5M hh,P5,rfl,hpc,by omega,nib_lt key,rfl⟩,?_⟩
 clear I5 V5 P5 s05 hr5 s35 I3 P3 s03 hL M3 s23 I2 P2 s02 X2 M2 F2 X1 M1 hr1;rintro o l c d _ w6⟨lab6,s,x,path,D,rfl,s06,I6,hc6,V6,hg,P6,rfl,hpc,hpl,hnib,heq⟩;have h5:¬T 5:=ok.s5;have h6:¬T 6:=ok.s6
 have done:∀(w':Y)(lab':Nat->Nat)(s':σ)(r:Except Int By)(e:JY),Stp (fun c=>c=5\/T c) w6 lab6 w' lab'->Inv w' lab' s'->way step s x path=(s',r)->ZKN r w' lab' e->R e w':=by
  intro w' lab' s' r e st hI' hw hi;rw[hw]at heq;rw[<-heq]at hR;exact hR e w' ⟨lab',s06.trans st,hI',hi⟩
 obtain⟨hl5,L6,B6,hrf⟩:=id V6;have cell33:∀{v:Value},L6[33]?=J2 v->J0 w6 (U ⟨D,0,G⟩ 33)=J2 v:=fun hv=>by rw[Z3];exact B6.rd1 hv
 refine⟨!isE x,?_,fun hb=>?_,fun hb=>?_⟩
 ·refine cell33 ?_
  cases x with
  |s b =>
   rcases hrf with⟨rfl,h',hh',_,rfl⟩|⟨hb32,rfl⟩
   ·exact Z78 hh'
   ·cases b with
    |nil=>cases hb32
    |cons a r=>exact Z78 (Z1O _)
  |l xs=>obtain⟨Dx,v1,v2,v3,rfl,_⟩:=hrf;exact Z78 rfl
 ·
  rintro d22 w7⟨rfl,rfl⟩;have s67:Stp NoS w6 lab6 (w6.alloc (I #[J W,.slice G 0 0,.slice G 0 0,.slice G 0 0] 86)) (ext lab6 w6.heap.size 5):=Stp.alloc NoS w6 lab6 _ 5;have N7:=CB.new w6 lab6 5 86 #[J W,.slice G 0 0,.slice G 0 0,.slice G 0 0];have I7:=hT _ _ _ _ _ I6 s67;have V7:=V6.stp s67 (fun h=>h) (fun h=>h);have P7:=P6.stp s67 (fun h=>h);have hDlt:=B6.lt;generalize w6.heap.size=N at *
  generalize w6.alloc (I #[J W,.slice G 0 0,.slice G 0 0,.slice G 0 0] 86)=w7 at *
  generalize ext lab6 N 5=lab7 at *
  refine⟨fun w'=>∃(lab':Nat->Nat)(s':σ)(xs:List It)(b:Bool)(s1 s2 s3:Option Addr×Nat×Nat),Stp (fun c=>c=5\/T c) w7 lab7 w' lab'/\Inv w' lab' s'/\can s' path.length/\ZG1 w' lab' D x/\CBy w' lab' 6 o path /\
   CB w' lab' 5 N 86 #[J b,.slice s1.1 s1.2.1 s1.2.2,.slice s2.1 s2.2.1 s2.2.2,.slice s3.1 s3.2.1 s3.2.2]/\NvC (fun b=>lab' b≠6) w' xs b s1 s2 s3/\Z2p (.l xs)/\way step s x path=Z3U (way step) s' xs path,?_,?_⟩
  ·
   obtain⟨hl7,L7,B7,hrf7⟩:=id V7;cases x with
   |l xs =>
    obtain⟨Dx,v1,v2,v3,rfl,hADx,BDx,hit⟩:=hrf7;obtain⟨b,p1,q1,r1,p2,q2,r2,rfl,rfl,rfl⟩:=hit.vals;have hcell:J0 w7 (U ⟨D,0,G⟩ 32)=J2 (J4 (J2 ⟨Dx,0,G⟩)):=by rw[Z3];exact B7.rd1 (Z8H rfl)
    refine⟨_,hcell,fun _=>⟨_,hcell,_,rfl,Z60 BDx ?_⟩,fun h=>(by cases h)⟩;refine(Z5R (A:=fun b=>ext lab7 w7.heap.size 6 b≠6) hg (fun b hb h=>h (ext_new hb)) (ItC.restr (fun b hb h=>by rwa[Z1M hb]at h) hit)).mono ?_;rintro _ w8⟨bb,s1,s2,s3,rfl,M8,hn8⟩;have s78:Stp NoS w7 lab7 w8 (ext lab7 w7.heap.size 6):=Stp.of_nob M8 6;have I8:=hT _ _ _ _ _ I7 s78;have V8:=V7.stp s78 (fun h=>h) (fun h=>h);have P8:=P7.stp s78 (fun h=>h);have N8:=N7.stp s78 (fun h=>h);generalize ext lab7 w7.heap.size 6=lab8 at *
    refine JA ⟨_,_,_,_,_,_,_,_,_,_,rfl,?_⟩;refine setN (b1:=bb) (s1:=s1) (s2:=s2) (s3:=s3) N8 (fun w9 lab9 Q9 s89 N9=>?_);have hne:D≠N:=by omega
    exact⟨lab9,s,xs,bb,s1,s2,s3,(s78.mono (fun _ h=>h.elim)).trans (s89.mono (fun _ h=>JI h)),ok.stp I8 s89,ok.le hc6 (by omega),V8.set Q9 s89 hne,P8.stp s89 (by decide),N9,hn8.stp s89 (by decide),hg,ZIx hg hnib⟩
   |s b =>
    rcases hrf7 with⟨rfl,_⟩|⟨hb32,rfl⟩
    ·cases hb
    have hbn:b≠[]:=by rintro rfl;cases hb32
    have hcell:J0 w7 (U ⟨D,0,G⟩ 32)=J2 (J4 G):=by rw[Z3];exact B7.rd1 (Z8H (Z1O _))
    refine⟨_,hcell,fun h=>(h rfl).elim,fun _=>⟨hashA b,B7.rowAt (ZB b) (fun i hi=>by rw[J5,ZCh (Z1O _) hi,JD]),?_⟩⟩;refine Z3E.mono (ok.run I7 hc6 hb32) ?_;rintro e w8⟨lab8,s78,I8,hc8,herr,hok⟩;have V8:=V7.stp s78 h5 h6;have P8:=P7.stp s78 h6;have N8:=N7.stp s78 h5;have st68:Stp (fun c=>c=5\/T c) w6 lab6 w8 lab8:=(s67.mono (fun _ h=>h.elim)).trans (s78.mono (fun _ h=>JA h));cases hst:step s b with
    |mk s' r =>
     rw[hst]at I8 hc8 herr hok;cases r with
     |error er =>
      obtain⟨rfl,hne⟩:=herr er rfl;exact JI ⟨_,rfl,done w8 lab8 s' _ _ st68 I8 (ZKA hbn hst) ⟨rfl,hne⟩⟩
     |ok bs =>
      obtain⟨ob,kb,rfl,hr8,hk8⟩:=hok bs rfl;refine JA ⟨_,_,_,rfl,?_⟩;refine(Z89 (A:=fun b=>ext lab8 w8.heap.size 6 b≠6) (fun b hb h=>h (ext_new hb)) hr8 hk8).mono ?_;rintro e w9⟨M9,h0,hne⟩;have s89:Stp NoS w8 lab8 w9 (ext lab8 w8.heap.size 6):=Stp.of_nob M9 6;have I9:=hT _ _ _ _ _ I8 s89;have V9:=V8.stp s89 (fun h=>h) (fun h=>h);have P9:=P8.stp s89 (fun h=>h);have N9:=N8.stp s89 (fun h=>h);generalize ext lab8 w8.heap.size 6=lab9 at *
      have hDN:D≠N:=by omega
      by_cases hck:Z0T bs=0
      ·obtain⟨xs,bb,s1,s2,s3,hdc,hgx,rfl,hn9⟩:=h0 hck
       refine JA ⟨_,_,_,_,_,_,_,_,_,_,_,rfl,?_⟩;refine setN (b1:=bb) (s1:=s1) (s2:=s2) (s3:=s3) N9 (fun w10 lab10 Q10 s910 N10=>?_);refine(Z1D w10 0).mono ?_;rintro e w11⟨rfl,he⟩;rw[if_pos rfl]at he;exact JA ⟨he,lab10,s',xs,bb,s1,s2,s3,((s78.mono (fun _ h=>JA h)).trans (s89.mono (fun _ h=>h.elim))).trans (s910.mono (fun _ h=>JI h)),ok.stp I9 s910,hc8,V9.set Q10 s910 hDN,P9.stp s910 (by decide),N10,hn9.stp s910 (by decide),hgx,ZF3 hbn hst hck hdc hgx hnib⟩
      ·have he:=hne hck
       subst he;refine JA ⟨_,_,_,_,_,_,_,_,_,_,_,rfl,?_⟩;refine setN (b1:=W) (s1:=(G,0,0)) (s2:=(G,0,0)) (s3:=(G,0,0)) N9 (fun w10 lab10 Q10 s910 N10=>?_);refine(Z1D w10 161).mono ?_;rintro e w11⟨rfl,he⟩;rw[if_neg (by decide)]at he;subst he;exact JI ⟨_,rfl,done _ lab10 s' _ _ ((st68.trans (s89.mono (fun _ h=>h.elim))).trans (s910.mono (fun _ h=>JI h))) (ok.stp I9 s910) (ZIw hbn hst hck) ⟨rfl,by decide⟩⟩
  ·
   rintro _ w8⟨lab8,s',xs,b,s1,s2,s3,s78,I8,hc8,V8,P8,N8,hn,hgx,hway⟩;have st68:Stp (fun c=>c=5\/T c) w6 lab6 w8 lab8:=(s67.mono (fun _ h=>h.elim)).trans s78;have c1:J0 w8 (U ⟨N,0,G⟩ 1)=J2 (.slice s1.1 s1.2.1 s1.2.2):=by rw[Z3];exact N8.blk.rd1 rfl
   have c2:J0 w8 (U ⟨N,0,G⟩ 2)=J2 (.slice s2.1 s2.2.1 s2.2.2):=by rw[Z3];exact N8.blk.rd1 rfl
   have c3:J0 w8 (U ⟨N,0,G⟩ 3)=J2 (.slice s3.1 s3.2.1 s3.2.2):=by rw[Z3];exact N8.blk.rd1 rfl
   have none_:∀(w':Y)(lab':Nat->Nat),Stp NoS w8 lab8 w' lab'->way step s x path=(s',.ok [])->R (C (J8 #[.slice G 0 0,J W])) w':=fun w' lab' st hw =>
    done w' lab' s' _ _ (st68.trans (st.mono (fun _ h=>h.elim))) (hT _ _ _ _ _ I8 st) hw ⟨G,0,rfl,CBy.nil _ _ _ _⟩
   refine⟨b,N8.blk.rd1 rfl,fun hbt=>?_,fun hbf=>?_⟩
   ·
    subst hbt;rcases hn with⟨p,v,hx2,he,hv1,_,hp1,hpr,_,hv3,hvr⟩|⟨p,D',L,_,_,hf,_⟩|⟨g,v,_,_,hf,_⟩
    ·obtain⟨o1,l1,k1⟩:=s1
     obtain⟨o3,l3,k3⟩:=s3;dsimp only at hp1 hv3 hpr hvr c1 c3;subst hp1 hv3;refine⟨_,_,_,c1,?_⟩;refine(Z2q hpr.1 P8.rd).mono ?_;rintro _ w9⟨rfl,rfl⟩;refine JA ⟨_,rfl,_,_,_,c3,?_⟩;obtain⟨p',lf,he',hlv,_⟩:=hgx.two hx2;rw[he]at he';cases he';obtain⟨v',hv',hvn⟩:=hlv rfl;rw[hv1]at hv';cases hv';refine(Z7N (ok:=decide (p=path)) hvr.1 (ZHk hgx (by omega) hv1)).mono ?_;rintro _ w10⟨o',k',rfl,M10,R10,N10⟩;have s810:Stp NoS w9 lab8 w10 (ext lab8 w9.heap.size 6):=Stp.of_nob M10 6;refine JA ⟨_,_,_,_,rfl,?_⟩
     have hres:way step s x path=(s',.ok (if decide (p=path)=J9 then v else[])):=by
      rw[hway,ZCU hx2 he,hv1];simp only[decide_eq_true_eq];rfl
     refine done w10 _ s' _ _ (st68.trans (s810.mono (fun _ h=>h.elim))) (hT _ _ _ _ _ I8 s810) hres ⟨o',k',?_,R10,fun _ d hd=>ext_new (N10 d hd)⟩;congr 4;by_cases hpp:p=path
     ·simp[hpp,hvn]
     ·simp[hpp]
    ·cases hf
    ·cases hf
   ·subst hbf
    refine get4 N8.blk ?_;refine Z3B.mono ?_;rintro _ w9⟨rfl,M9⟩;have s89:Stp NoS w8 lab8 w9 (ext lab8 w8.heap.size 6):=Stp.of_nob M9 6;have I9:=hT _ _ _ _ _ I8 s89;have V9:=V8.stp s89 (fun h=>h) (fun h=>h);have P9:=P8.stp s89 (fun h=>h);have N9:=N8.stp s89 (fun h=>h);have hn9:=hn.stp s89 (fun h=>h);have st69:=st68.trans (s89.mono (fun _ h=>h.elim));generalize ext lab8 w8.heap.size 6=lab9 at *
    have none9:∀(w':Y)(lab':Nat->Nat),Stp NoS w9 lab9 w' lab'->way step s x path=(s',.ok [])->R (C (J8 #[.slice G 0 0,J W])) w':=fun w' lab' st hw =>
     done w' lab' s' _ _ (st69.trans (st.mono (fun _ h=>h.elim))) (hT _ _ _ _ _ I9 st) hw ⟨G,0,rfl,CBy.nil _ _ _ _⟩
    clear none_ c1 c2 c3 hn N8 P8 V8 I8 M9;have c1:J0 w9 (U ⟨N,0,G⟩ 1)=J2 (.slice s1.1 s1.2.1 s1.2.2):=by rw[Z3];exact N9.blk.rd1 rfl
    have c2:J0 w9 (U ⟨N,0,G⟩ 2)=J2 (.slice s2.1 s2.2.1 s2.2.2):=by rw[Z3];exact N9.blk.rd1 rfl
    have c3:J0 w9 (U ⟨N,0,G⟩ 3)=J2 (.slice s3.1 s3.2.1 s3.2.2):=by rw[Z3];exact N9.blk.rd1 rfl
    rcases hn9 with⟨p,v,_,_,_,hf,_⟩|⟨p,D',L,hx2,he,_,hp1,hpr,hs2,hAD',BD',hrL,hs3⟩|⟨g,v,hx17,hv16,_,hs1,hs2,hs2l,hgl,hAg,hkids,hv3,hvr⟩
    ·cases hf
    ·
     obtain⟨o1,l1,k1⟩:=s1;dsimp only at hp1 hpr c1;subst hp1 hs2 hs3;dsimp only at c2;refine JA ⟨_,rfl,fun _=>⟨_,_,_,c1,?_⟩,fun h=>(by simp at h)⟩;refine(Z8n P9.rd hpc hpr.1).mono ?_;rintro e w10⟨rfl,hcut⟩;obtain⟨p',lf,he',_,hrow⟩:=hgx.two hx2;rw[he]at he';cases he';obtain⟨hpn,hgy,_⟩:=hrow rfl;by_cases hpre:p.isPrefixOf path=J9
     ·rw[if_pos hpre]at hcut
      subst hcut;have hle:p.length<=path.length:=(List.isPrefixOf_iff_prefix.1 hpre).length_le;have hppos:0<p.length:=List.length_pos_iff.2 hpn;refine JA ⟨_,_,_,_,rfl,fun h=>(by cases h),fun _=>⟨_,_,_,c2,_,rfl,⟨by decide,by decide⟩,L,by rw[Z3];exact BD'.rowAll hrL.size,?_⟩⟩;refine ZEf V9 hrL (fun w11 lab11 D11 s911 V11=>?_);have P11:=P9.stp s911 (by decide);have hdl:(path.drop p.length).length=path.length-p.length:=List.length_drop
      have P12:CBy w11 lab11 6 (subO o c p.length 1) (path.drop p.length):=by
       have:=P11.sub (cap:=c) (lo:=p.length) (n:=path.length-p.length) hpc
       rwa[<-hdl,Ji]at this
      refine⟨⟨lab11,s',_,path.drop p.length,D11,rfl,(s06.trans st69).trans (s911.mono (fun _ h=>JI h)),ok.stp I9 s911,ok.le hc8 (by omega),V11,hgy,P12,hdl.symm,by omega,by omega,fun n hnq=>hnib n ((List.drop_suffix _ _).subset hnq),?_⟩,by dsimp only;omega⟩;rw[<-heq,hway,ZEg hx2 he,if_pos hpre]
     ·rw[if_neg hpre]at hcut
      subst hcut;refine JA ⟨_,_,_,_,rfl,fun _=>?_,fun h=>(by cases h)⟩;exact none9 _ _ (Stp.refl _ _ _) (by rw[hway,ZEg hx2 he,if_neg hpre])
    ·
     obtain⟨o2,l2,k2⟩:=s2;obtain⟨o3,l3,k3⟩:=s3;dsimp only at hs2 hs2l hv3 hvr c2 c3;subst hs2 hs2l hv3;refine JA ⟨_,rfl,fun h=>(by simp at h),fun _=>⟨fun hl0=>?_,fun hl0=>?_⟩⟩
     ·have hp0:path=[]:=JM (by omega)
      refine⟨_,_,_,c3,_,_,_,c3,?_⟩;refine(Z7N (ok:=decide (((v.length:Nat):Int)>0)) hvr.1 (ZHk hgx (by omega) hv16)).mono ?_;rintro _ w10⟨o',k',rfl,M10,R10,N10⟩;have s910:Stp NoS w9 lab9 w10 (ext lab9 w9.heap.size 6):=Stp.of_nob M10 6;refine JA ⟨_,_,_,_,rfl,?_⟩
      have hvv:(if decide (((v.length:Nat):Int)>0)=J9 then v else[])=v:=by
       cases v with
       |nil=>simp
       |cons a r=>rw[if_pos (by simp)]
      rw[hvv]at R10 ⊢
      have hres:way step s x path=(s',.ok v):=by
       rw[hway,hp0,ZIP (by omega),hv16];rfl
      refine done w10 _ s' _ _ (st69.trans (s910.mono (fun _ h=>h.elim))) (hT _ _ _ _ _ I9 s910) hres ⟨o',k',?_,R10,fun _ d hd=>ext_new (N10 d hd)⟩;congr 4;cases v with
      |nil=>rfl
      |cons a r=>rw[decide_eq_true (by simp),decide_eq_true (by simp)]
     ·cases path with
      |nil=>exact(hl0 rfl).elim
      |cons n r =>
       rintro _ rfl;have s910:Stp NoS w9 lab9 w9.drew lab9:=Stp.drew NoS w9 lab9;have MD:=Mod.drew (S:=NoB) w9;have I10:=hT _ _ _ _ _ I9 s910;have V10:=V9.stp s910 (fun h=>h) (fun h=>h);have P10:=P9.stp s910 (fun h=>h);have st610:=st69.trans (s910.mono (fun _ h=>h.elim));have c2':J0 w9.drew (U ⟨N,0,G⟩ 2)=J2 (.slice (J2 ⟨g,0,G⟩) 16 k2):=c2;obtain⟨d,hod,hcn⟩:=ZCG P10.rd;have hn16:=hnib n (by simp);obtain⟨L,hrow,hrL⟩:=hkids n.toNat hn16;have hrow':ZG w9.drew ⟨g,n.toNat*34,G⟩ 34 L:=hrow;have hrL':=hrL.stp s910 (fun h=>h);refine⟨_,_,_,c2',d,hod,⟨by decide,by simp⟩,_,hcn,_,rfl,⟨by omega,by omega⟩,L,by rw[Z3,J5,J7];exact hrow',by simp,?_⟩;refine ZEf V10 hrL' (fun w11 lab11 D11 s1011 V11=>?_);have P11:=P10.stp s1011 (by decide)
       have P12:CBy w11 lab11 6 (subO o c 1 1) r:=by
        have:=P11.sub (cap:=c) (lo:=1) (n:=r.length) hpc;simpa using this
       simp only[JE]at hpc hpl ⊢;refine⟨⟨lab11,s',_,r,D11,rfl,(s06.trans st610).trans (s1011.mono (fun _ h=>JI h)),ok.stp I10 s1011,ok.le hc8 (by simp only[JE];omega),V11,(hgx.many (by omega)).2.2 _ hn16,P12,by omega,by omega,by omega,fun q hq=>hnib q (by simp[hq]),?_⟩,by omega⟩;rw[<-heq,hway,ZIQ (by omega)]
 ·
  cases x with
  |l xs=>cases hb
  |s b =>
   cases b with
   |cons a r=>cases hb
   |nil=>exact done w6 lab6 s _ _ (Stp.refl _ _ _) I6 (ZKB s path) ⟨G,0,rfl,CBy.nil _ _ _ _⟩
end
def Z4F:List (By×By)->By->Option By
 |[],_=>G
 |x::r,h=>if x.1=h then J2 x.2 else Z4F r h
theorem Z7e:∀(l:List (By×By)) (x:By×By) (h:By),Z4F (l++[x]) h=(Z4F l h).or (if x.1=h then J2 x.2 else G)
 |[],x,h=>by simp[Z4F]
 |y::r,x,h=>by
  simp only[List.cons_append,Z4F];split
  ·rfl
  ·exact Z7e r x h
theorem ZBl{K V:Type}[DecidableEq K]{k k':K}{v:V}:∀{es:List (K×V)},Z5C k' (Vcg.upd k v es)=if k=k' then J2 v else Z5C k' es
 |[]=>by simp[Vcg.upd,Z5C]
 |x::r=>by
  simp only[Vcg.upd];by_cases hx:x.1=k
  ·rw[if_pos hx]
   simp only[Z5C];by_cases hk:k=k'
   ·rw[if_pos hk,if_pos hk]
   ·rw[if_neg hk,if_neg hk,if_neg (by rw[hx];exact hk)]
  ·rw[if_neg hx]
   simp only[Z5C];rw[ZBl];by_cases hk:k=k'
   ·simp only[if_pos hk];rw[if_neg (by rw[<-hk];exact hx)]
   ·simp only[if_neg hk]
abbrev ZKu:JZ:=67
theorem Z7M:Tryz.prog.underlying ZKu=J2 (.map tHash Zw):=by kernel_rfl
theorem ZCx(w:Y):(zeroValue Zw).run O w=.ok (.slice G 0 0) w:=by kernel_rfl
section
variable{w w':Y}{lab lab':Nat->Nat}{c:Nat}
def ZFw(w:Y)(lab:Nat->Nat)(c:Nat)(l:List (By×By))(es:List (H32×Value)):Prop :=
 ∀k:H32,match Z4F l k.1 with
  |none=>Z5C k es=G
  |some b=>∃o n,Z5C k es=J2 (.slice o b.length n)/\CBy w lab c o b/\b.length<=n
theorem ZFw.stp{S:Nat->Prop}{l:List (By×By)}{es:List (H32×Value)}(h:ZFw w lab c l es)(s:Stp S w lab w' lab')(hs:¬S c):ZFw w' lab' c l es:=fun k=>by
 have:=h k;split at this
 ·exact this
 ·rename_i b he
  obtain⟨o,n,h1,h2,h3⟩:=this;exact⟨o,n,h1,h2.stp s hs,h3⟩
def ZJ2(w:Y)(lab:Nat->Nat)(cm c:Nat)(l:List (By×By))(m:Nat):Prop :=
 ∃es:List (H32×Value),CM (fun _=>True) ZHx w lab cm m es/\ZFw w lab c l es
theorem ZJ2.stp{S:Nat->Prop}{cm m:Nat}{l:List (By×By)}(h:ZJ2 w lab cm c l m)(s:Stp S w lab w' lab')(hm:¬S cm)(hs:¬S c):ZJ2 w' lab' cm c l m:=by
 obtain⟨es,h1,h2⟩:=h;exact⟨es,h1.stp s hm,h2.stp s hs⟩
theorem ZJE{o:Option Addr}{vs:List Value}{l:List (By×By)}(h:Z0S w lab c vs l)(hR:ZBZ w lab c o vs){j:Nat}(hj:j<l.length) :
  ∃g f ob kb,o=J2 ⟨g,f,G⟩/\ZG w ⟨g,f+j*33,G⟩ 33 (ndA l[j].1 ob l[j].2.length kb)/\CBy w lab c ob l[j].2/\l[j].2.length<=kb/\l[j].1.length=32:=by
 obtain⟨h1,h2,ob,kb,h3,h4,h5⟩:=h.2 j hj;obtain⟨g,f,ho,hg,hl,hc⟩:=hR _ _ h3;refine⟨g,f,ob,kb,ho,⟨Z5t _ _ _ _,fun i hi=>?_⟩,h4,h5,h1⟩;by_cases h32:i=32
 ·subst h32
  rw[Z3,show f+j*33+32=f+(j*33+32) by omega,hc,ZEc]
 ·obtain⟨g',f',ho',_,_,hc'⟩:=hR _ _ (h2 i (by omega))
  rw[ho]at ho';cases ho';rw[Z3,show f+j*33+i=f+(j*33+i) by omega,hc',ZEd (by omega)]
theorem ZK2:(Tryz.prog.info? tNd).map (·.size)=J2 33:=by kernel_rfl
theorem Z8L{o:Option Addr}{k:Nat}{l:List (By×By)}{held:Bool}(h:Z1V w lab 0 l o l.length)(hlen:l.length<=2^40) :
  JX O Z2e.n #[.slice o l.length k,J held] w (fun e w'=>Vcg.Mod NoB w w'/\(l.length>4096->e=C (J8 #[.agg #[.map G,J W],.int JH 162])) /\
   (l.length<=4096->∃m,e=C (J8 #[.agg #[.map (J2 m),J held],.int JH 0])/\ZJ2 w' (ext lab w.heap.size 9) 9 0 l m)):=by
 refine ZD fun R hR=>Z2e.vc _ _ _ _ _ _ ?_;unfold Z2e.Vc;rintro d2 w1⟨rfl,rfl⟩;have M1:=Mod.alloc (S:=NoB) w (I #[.map G,J W] 69);have B1:=Blk.new w 69 #[.map G,J W];have hs1:=ZE w (I #[.map G,J W] 69);generalize hD:w.heap.size=D at *
 generalize w.alloc (I #[.map G,J W] 69)=w1 at *
 have two:∀(w1:Y)(a b:Value)(m:Option Nat)(bb:Bool)(R':Option Nat->Bool->Y->Prop),Blk w1 D 69 #[a,b]->(∀w2,Vcg.Mod (·=D) w1 w2->R' m bb w2) ->
   Z1 w1 ⟨D,0,G⟩ (.map m)/\∀w4:Y,ZA w1 ⟨D,0,G⟩ (.map m) w4->Z1 w4 (U ⟨D,0,G⟩ 1) (J bb)/\∀w5:Y,ZA w4 (U ⟨D,0,G⟩ 1) (J bb) w5 ->
   ∃m6:Option Nat,∃b7:Bool,J0 w5 ⟨D,0,G⟩=J2 (.map m6)/\J0 w5 (U ⟨D,0,G⟩ 1)=J2 (J b7)/\R' m6 b7 w5:=by
  intro w1 a b m bb R' B K;refine⟨B.canSet (by simp) rfl,?_⟩;rintro _ rfl;have B2:=B.set 0 (.map m);have Q1:Vcg.Mod (·=D) w1 _:=Mod.setCell w1 ⟨D,0,G⟩ (.map m);rw[Z3,J5];refine⟨B2.canSet (by simp) rfl,?_⟩;rintro _ rfl;have B3:=B2.set 1 (J bb);have Q2:=Q1.step_set (a:=⟨D,1,G⟩) (v:=J bb) (fun _=>rfl);exact⟨_,_,B3.rd1 rfl,B3.rd1 rfl,K _ Q2⟩
 refine⟨fun hbig=>?_,fun hsmall=>?_⟩
 ·exact two w1 _ _ G W (fun m6 b7 w5=>R (C (J8 #[.agg #[.map m6,J b7],.int JH 162])) w5) B1 (fun w2 Q=>hR _ _ ⟨ZI M1 Q (by omega),fun _=>rfl,fun h=>absurd h (by omega)⟩)
 ·have hlen':l.length<=4096:=by omega
  obtain⟨w2,hr2,M2,hmap⟩:=Z6Z Z7M w1;have B2:=B1.mod' M2;have M02:=M1.none_trans M2;refine⟨_,w2,hr2,_,rfl,?_⟩;generalize hm:w1.heap.size=m at *
  have hs2:m<w2.heap.size:=(Array.getElem?_eq_some_iff.1 hmap).1;rintro d11 w3⟨rfl,rfl⟩;have M3:=Mod.alloc (S:=NoB) w2 (I #[.map G,J W] 69);have E3:=Blk.new w2 69 #[.map G,J W];have hs3:=ZE w2 (I #[.map G,J W] 69);have B3:=B2.mod' M3;have hmap3:=(M3.block m hs2 (fun h=>h)).trans hmap;have M03:=M02.none_trans M3;generalize hE:w2.heap.size=E at *
  generalize w2.alloc (I #[.map G,J W] 69)=w3 at *
  refine⟨E3.canSet (by simp) rfl,?_⟩;rintro _ rfl;have E4:=E3.set 0 (.map (J2 m));have Q4:Vcg.Mod (·=E) w3 _:=Mod.setCell w3 ⟨E,0,G⟩ (.map (J2 m));rw[Z3,J5];refine⟨E4.canSet (by simp) rfl,?_⟩;rintro _ rfl;have E5:=E4.set 1 (J held);have Q5:=Q4.step_set (a:=⟨E,1,G⟩) (v:=J held) (fun _=>rfl);have M05:Vcg.Mod NoB w _:=ZI M03 Q5 (by omega);have B5:=B3.mod Q5 (by omega);have hmap5:=(Q5.block m (by omega) (by omega)).trans hmap3;have hsz5:=Q5.size;generalize((w3.setCell ⟨E,0,G⟩ (.map (J2 m))).setCell ⟨E,1,G⟩ (J held))=w5 at *
  obtain⟨_,vs,hCR,hNC⟩:=h
  refine⟨fun i w'=>∃(j:Nat)(es:List (H32×Value)),i=(j:Int)/\j<=l.length/\Vcg.Mod NoB w w'/\Blk w' D 69 #[.map G,J W]/\Blk w' E 69 #[.map (J2 m),J held]/\Z3G (fun _=>True) ZHx w' m es/\ZFw w' (ext lab D 9) 0 (l.take j) es,
   fun i _=>((l.length:Int)-i).toNat,⟨0,[],rfl,JP _,M05,B5,E5,⟨#[],0,hmap5,Go.MapKept.stamped_empty 0,rfl,fun _ h=>by cases h⟩,fun k=>by simp[Z4F,Z5C]⟩,?_⟩
  rintro _ _ w6⟨j,es,rfl,hj,M06,B6,E6,hA,hO⟩;have s06:Stp NoS w lab w6 (ext lab D 9):=hD ▸ Stp.of_nob M06 9;have CR6:=hCR.stp s06 (fun h=>h);have NC6:=hNC.stp s06 (fun h=>h);refine⟨fun hlt=>?_,fun hge=>?_⟩
  ·have hjl:j<l.length:=by omega
   obtain⟨g,f,ob,kb,rfl,hrow,hby,hkb,h32⟩:=ZJE NC6 CR6 hjl;refine⟨_,rfl,⟨by omega,by omega⟩,_,by rw[Z3,J7];exact hrow,?_⟩;rintro d20 w7⟨rfl,rfl⟩;have M7:=Mod.alloc (S:=NoB) w6 (I nd0 48);have N7:=Blk.new w6 48 nd0;have hE6:=E6.lt;have hB6:=B6.lt;have hm6:=hA.lt;have hst:=N7.storeAll (P:=O) (ty:=48) (L:=ndA l[j].1 ob l[j].2.length kb) (by rw[Z5t];exact ZK2) (by rw[Z5t];rfl) (ZDb _ _ _ _);have N8:=N7.row_same (ndA l[j].1 ob l[j].2.length kb);have Q8:=Mod.setRow (w6.alloc (I nd0 48)) w6.heap.size (ndA l[j].1 ob l[j].2.length kb);have M68:Vcg.Mod NoB w6 _:=ZI M7 Q8 (J6 _);refine⟨_,hst,?_⟩;generalize((w6.alloc (I nd0 48)).setRow w6.heap.size (ndA l[j].1 ob l[j].2.length kb))=w8 at *
   have B8:=B6.mod' M68;have E8:=E6.mod' M68;have hA8:Z3G (fun _=>True) ZHx w8 m es:=hA.same (M68.block m hm6 (fun h=>h));have M08:=M06.none_trans M68
   have hrow8:ZG w8 ⟨w6.heap.size,0,G⟩ 32 (hashA l[j].1):=N8.rowAt (ZB _) (fun i hi=>by
    rw[J5,ZEd hi];exact(ZF (f:=fun i=>bV (l[j].1.getD i 0)) hi).symm)
   have hlook:=Z3G.look hA8 ZB6 Z7M (ZCx w8) (k:=⟨l[j].1,h32⟩) trivial J9;rw[if_pos rfl]at hlook
   have s68:Stp NoS w6 (ext lab D 9) w8 (ext lab D 9):=by
    have s08:Stp NoS w lab w8 (ext lab D 9):=hD ▸ Stp.of_nob M08 9;exact⟨M68.os,M68.tape,M68.output,M68.size,fun _ _=>rfl,fun q hq _=>M68.block q hq (fun h=>h)⟩
   have hO8:=hO.stp s68 (fun h=>h);have hby8:=hby.stp s68 (fun h=>h);have hfound:=hO8 ⟨l[j].1,h32⟩;have htk:l.take (j+1)=l.take j++[l[j]]:=JJ hjl;have ew:Jn JH ((j:Int)+1)=((j+1:Nat):Int):=by rw[Z0 (by omega) (by omega)];omega
   rw[ew];cases hf:Z4F (l.take j) l[j].1 with
   |none =>
    rw[hf]at hfound;simp only at hfound;rw[hfound]at hlook;obtain⟨w9,hr9,hA9,Q9⟩:=Z3G.update hA8 ZB6 Z7M (k:=⟨l[j].1,h32⟩) trivial (.slice ob l[j].2.length kb);have M09:=ZI M08 Q9 (by omega);refine⟨_,E8.rd1 rfl,_,hrow8,_,hlook,_,_,_,_,rfl,fun _=>⟨_,E8.rd1 rfl,_,hrow8,_,_,_,by rw[Z3];exact N8.rd1 ZEc,w9,hr9,⟨j+1,_,rfl,hjl,M09,B8.mod Q9 (by omega),E8.mod Q9 (by omega),hA9,?_⟩,by dsimp only;omega⟩,fun h=>(by cases h)⟩;have s89:Stp (·=9) w8 (ext lab D 9) w9 (ext lab D 9):=⟨Q9.os,Q9.tape,Q9.output,Q9.size,fun _ _=>rfl,fun q hq hn=>Q9.block q hq (fun e=>hn (by rw[e];exact ext_new (by omega)))⟩;have hO9:=hO8.stp s89 (by decide);have hby9:=hby8.stp s89 (by decide);intro k;rw[htk,Z7e,ZBl];by_cases hk:l[j].1=k.1
    ·have hk':(⟨l[j].1,h32⟩:H32)=k:=Subtype.ext hk
     rw[if_pos hk,if_pos hk',<-hk,hf];exact⟨ob,kb,rfl,hby9,hkb⟩
    ·have hk':(⟨l[j].1,h32⟩:H32)≠k:=fun e=>hk (by rw[<-e])
     rw[if_neg hk,if_neg hk',Jl];exact hO9 k
   |some b =>
    rw[hf]at hfound;obtain⟨ob',kb',hfa,_,_⟩:=hfound;rw[hfa]at hlook;refine⟨_,E8.rd1 rfl,_,hrow8,_,hlook,_,_,_,_,rfl,fun h=>(by cases h),fun _=>⟨⟨j+1,es,rfl,hjl,M08,B8,E8,hA8,?_⟩,by dsimp only;omega⟩⟩;intro k;rw[htk,Z7e];by_cases hk:l[j].1=k.1
    ·have:=hO8 k
     rw[<-hk,hf]at this ⊢;exact this
    ·rw[if_neg hk,Jl]
     exact hO8 k
  ·obtain rfl:j=l.length:=by omega
   rw[Ji]at hO;refine⟨_,_,E6.rd1 rfl,E6.rd1 rfl,?_⟩;have hm6:=hA.lt;refine two w6 _ _ (J2 m) held (fun m6 b7 w5=>R (C (J8 #[.agg #[.map m6,J b7],.int JH 0])) w5) B6 (fun w7 Q7=>hR _ _ ⟨ZI M06 Q7 (by omega),fun h=>absurd h (by omega),fun _=>⟨m,rfl,es,⟨hA.same (Q7.block m hm6 (by omega)),ext_new (by omega)⟩,?_⟩⟩);have s67:Stp (·=9) w6 (ext lab D 9) w7 (ext lab D 9):=⟨Q7.os,Q7.tape,Q7.output,Q7.size,fun _ _=>rfl,fun q hq hn=>Q7.block q hq (fun e=>hn (by rw[e];exact ext_new (by omega)))⟩;exact hO.stp s67 (by decide)
end
abbrev ZHY:JZ:=31
section
variable{w w':Y}{lab lab':Nat->Nat}{c cb:Nat}
def Z6F(w:Y)(lab:Nat->Nat)(cb:Nat)(vs:List Value)(ls:List By):Prop :=
 vs.length=ls.length/\∀(j:Nat)(hj:j<ls.length),∃ob kb,vs[j]?=J2 (.slice ob ls[j].length kb)/\CBy w lab cb ob ls[j]/\ls[j].length<=kb
theorem Z6F.stp{S:Nat->Prop}{vs:List Value}{ls:List By}(h:Z6F w lab cb vs ls)(s:Stp S w lab w' lab')(hs:¬S cb):Z6F w' lab' cb vs ls :=
 ⟨h.1,fun j hj=>by obtain⟨ob,kb,h3,h4,h5⟩:=h.2 j hj;exact⟨ob,kb,h3,h4.stp s hs,h5⟩⟩
theorem Z6F.push{vs:List Value}{ls:List By}{b:By}{ob:Option Addr}{kb:Nat}(H:Z6F w lab cb vs ls)(hb:CBy w lab cb ob b)(hk:b.length<=kb):Z6F w lab cb (vs++[.slice ob b.length kb]) (ls++[b]):=by
 have hv:=H.1;refine⟨by simp[hv],fun j hj=>?_⟩;rw[JC,JW]at hj;by_cases hl:j<ls.length
 ·rw[JR hl,JF (by omega)]
  exact H.2 j hl
 ·obtain rfl:j=ls.length:=by omega
  rw[JO (J6 _)];simp only[Jf,JU];refine⟨ob,kb,?_,hb,hk⟩;rw[J3 (by omega),hv,Jf];rfl
def Z3M(w:Y)(lab:Nat->Nat)(c cb:Nat)(ls:List By)(o:Option Addr)(n k:Nat):Prop :=
 n=ls.length/\∃vs,COw w lab c Zw 1 o n k vs/\Z6F w lab cb vs ls
theorem Z3M.nil(w:Y)(lab:Nat->Nat)(c cb:Nat):Z3M w lab c cb [] G 0 0:=⟨rfl,[],COw.nil w lab c _ _,rfl,fun j hj=>absurd hj (by simp)⟩
theorem Z3M.stp{S:Nat->Prop}{ls:List By}{o:Option Addr}{n k:Nat}(h:Z3M w lab c cb ls o n k)(s:Stp S w lab w' lab')(hs:¬S c)(hb:¬S cb):Z3M w' lab' c cb ls o n k:=by
 obtain⟨h1,vs,h2,h3⟩:=h;exact⟨h1,vs,h2.stp s hs,h3.stp s hb⟩
theorem Z3M.push{ls:List By}{o:Option Addr}{n k D:Nat}{b:By}{ob:Option Addr}{kb:Nat}(H:Z3M w lab c cb ls o n k)(hcb:cb≠c)(B:Blk w D Zw #[.slice ob b.length kb])(hb:CBy w lab cb ob b)(hk:b.length<=kb)(hl:ls.length<=2^20) :
  ∃o' k' w',JT O (builtinV .append #[ZHY,ZHY] ZHY #[.slice o n k,.slice (J2 ⟨D,0,G⟩) 1 1]) w=.ok (.slice o' (n+1) k') w' /\
   Z3M w' (ext lab w.heap.size c) c cb (ls++[b]) o' (n+1) k'/\Stp (·=c) w lab w' (ext lab w.heap.size c):=by
 obtain⟨rfl,vs,hO,hC⟩:=H;obtain⟨i,hi,hz,hs,hbt⟩:=Z2Q ZCI;obtain⟨o',k',w',h1,h2,h3⟩:=COw.append (ty:=ZHY) Z8j hi hz hs (by rfl) hO (Z52 Z8j B rfl (by simp[Value.oneCell'])) (by simp only[maxLen];omega) (by rw[hbt];omega);exact⟨o',k',w',h1,⟨by simp,_,h2,(hC.push hb hk).stp h3 hcb⟩,h3⟩
theorem Z6j{m cm cl:Nat}{l:List (By×By)}{h:By}(hM:ZJ2 w lab cm cl l m)(hh:h.length=32) :
  JX O Z0L.n #[.agg #[.map (J2 m),J W],.agg (hashA h)] w (fun e w'=>Vcg.Mod NoB w w'/\(Z4F l h=G->e=JL (Z2u 160)) /\
   (∀b,Z4F l h=J2 b->∃o k,e=C (.slice o b.length k)/\CBy w lab cl o b/\b.length<=k)):=by
 refine ZD fun R hR=>Z0L.vc _ _ _ _ _ ?_;unfold Z0L.Vc;obtain⟨es,hA,hO⟩:=hM;rintro d3 w1⟨rfl,rfl⟩;have M1:=Mod.alloc (S:=NoB) w (I #[.map (J2 m),J W] 69);have B1:=Blk.new w 69 #[.map (J2 m),J W];generalize w.heap.size=D at *
 generalize w.alloc (I #[.map (J2 m),J W] 69)=w1 at *
 rintro d5 w2⟨rfl,rfl⟩;have M12:=Mod.alloc (S:=NoB) w1 (I (hashA h) 27);have X2:=Blk.new w1 27 (hashA h);have B2:=B1.mod' M12;have M2:=M1.none_trans M12;generalize w1.heap.size=E at *
 generalize w1.alloc (I (hashA h) 27)=w2 at *
 have hA2:Z3G (fun _=>True) ZHx w2 m es:=hA.map.same (M2.block m hA.map.lt (fun h=>h));have hlook:=Z3G.look hA2 ZB6 Z7M (ZCx w2) (k:=⟨h,hh⟩) trivial J9;rw[if_pos rfl]at hlook;have hf:=hO ⟨h,hh⟩;cases hn:Z4F l h with
 |none =>
  rw[hn]at hf;simp only at hf;rw[hf]at hlook;refine⟨_,B2.rd1 rfl,_,X2.rowAll (ZB _),_,hlook,_,_,_,_,rfl,fun _=>?_,fun h=>(by cases h)⟩;refine(Z1D w2 160).mono ?_;rintro e w3⟨rfl,he⟩;rw[if_neg (by decide)]at he;subst he;exact JI ⟨_,rfl,hR _ _ ⟨M2,fun _=>rfl,fun b hb=>(by rw[hn]at hb;cases hb)⟩⟩
 |some b =>
  rw[hn]at hf;obtain⟨ob,kb,hfa,hby,hkb⟩:=hf;rw[hfa]at hlook;refine⟨_,B2.rd1 rfl,_,X2.rowAll (ZB _),_,hlook,_,_,_,_,rfl,fun h=>(by cases h),fun _=>?_⟩;rintro _ rfl;have B3:=B2.drew;refine⟨W,by rw[Z3];exact B3.rd1 rfl,fun h=>(by cases h),fun _=>hR _ _ ⟨M2.step_drew,fun h=>(by rw[hn]at h;cases h),fun b' hb'=>?_⟩⟩;rw[hn]at hb';cases hb';exact⟨ob,kb,rfl,hby,hkb⟩
def pStep(l:List (By×By))(out:List By)(h:By):List By×Except Int By:=match Z4F l h with
 |none=>(out,.error 160)
 |some b=>(out++[b],.ok b)
def ZKK(l:List (By×By))(dS dO m:Nat)(w:Y)(lab:Nat->Nat)(out:List By):Prop :=
 CB w lab 1 dS 69 #[.map (J2 m),J W]/\ZJ2 w lab 9 0 l m/\∃o n k,CB w lab 7 dO ZHY #[.slice o n k]/\Z3M w lab 8 9 out o n k
theorem ZKK.stp{S:Nat->Prop}{l:List (By×By)}{dS dO m:Nat}{out:List By}(h:ZKK l dS dO m w lab out)(s:Stp S w lab w' lab')(h0:¬S 0)(hS1:¬S 1)(h7:¬S 7)(h8:¬S 8)(h9:¬S 9):ZKK l dS dO m w' lab' out:=by
 obtain⟨h1,h2,o,n,k,h3,h4⟩:=h;exact⟨h1.stp s hS1,h2.stp s h9 h0,o,n,k,h3.stp s h7,h4.stp s h8 h9⟩
theorem askP{l:List (By×By)}{dS dO m:Nat}(hb:∀x∈l,x.2.length<=2^30):ZJN (.func (.func 50) #[] #[J4 (J2 ⟨dS,0,G⟩),J4 (J2 ⟨dO,0,G⟩)]) (fun k=>k=7\/k=8) (ZKK l dS dO m) (pStep l) (fun out n=>out.length+n<=2^20) where
 le h hm:=by omega
 s5:=by decide
 s6:=by decide
 stp h s:=h.stp s (by decide) (by decide) (by decide) (by decide) (by decide)
 run:=by
  intro w lab out h n hI hcan hh;refine⟨50,#[],_,rfl,by kernel_rfl,?_⟩;refine ZD fun R hR=>Z3V.vc _ _ _ _ _ ?_;unfold Z3V.Vc;rintro d3 w1⟨rfl,rfl⟩;have s1:Stp NoS w lab (w.alloc (I (hashA h) 27)) (ext lab w.heap.size 9):=Stp.alloc NoS w lab _ 9;have X1:=Blk.new w 27 (hashA h);have I1:=hI.stp s1 (fun h=>h) (fun h=>h) (fun h=>h) (fun h=>h) (fun h=>h);generalize w.heap.size=D3 at *
  generalize w.alloc (I (hashA h) 27)=w1 at *
  generalize ext lab D3 9=lab1 at *
  obtain⟨b1,hM,_⟩:=id I1;refine⟨_,_,b1.blk.rd1 rfl,by rw[Z3];exact b1.blk.rd1 rfl,_,X1.rowAll (ZB _),?_⟩;refine(Z6j hM hh).mono ?_;rintro e w2⟨M2,hnone,hsome⟩;have s2:Stp NoS w1 lab1 w2 (ext lab1 w1.heap.size 9):=Stp.of_nob M2 9;have I2:=I1.stp s2 (fun h=>h) (fun h=>h) (fun h=>h) (fun h=>h) (fun h=>h);cases hf:Z4F l h with
  |none =>
   have he:=hnone hf;subst he;refine JI ⟨_,rfl,hR _ _ ⟨_,(s1.trans s2).mono (fun _ h=>h.elim),?_,?_,fun er her=>?_,fun b hb=>?_⟩⟩
   ·unfold pStep;rw[hf];exact I2
   ·unfold pStep;rw[hf];show out.length+n<=_;omega
   ·unfold pStep at her;rw[hf]at her
    simp only[Except.error.injEq]at her;subst her;exact⟨rfl,by decide⟩
   ·unfold pStep at hb;rw[hf]at hb;cases hb
  |some b =>
   obtain⟨ob,kb,rfl,hby,hkb⟩:=hsome b hf;have hby2:=hby.stp s2 (fun h=>h);have s02:=s1.trans s2;generalize ext lab1 w1.heap.size 9=lab2 at *
   refine JA ⟨_,_,_,rfl,?_⟩;rintro _ rfl;have s3:Stp NoS w2 lab2 w2.drew lab2:=Stp.drew _ _ _;have I3:=I2.stp s3 (fun h=>h) (fun h=>h) (fun h=>h) (fun h=>h) (fun h=>h);have hby3:=hby2.stp s3 (fun h=>h);have s03:=s02.trans s3;generalize w2.drew=w3 at *
   obtain⟨_,_,o,nn,k,bO,hO⟩:=id I3
   have hbl:b.length<=2^30:=by
    have:∀(l:List (By×By)),(∀x∈l,x.2.length<=2^30)->Z4F l h=J2 b->b.length<=2^30:=by
     intro l
     induction l with
     |nil=>intro _ h;cases h
     |cons x r ih =>
      intro hb hf;simp only[Z4F]at hf;split at hf
      ·cases hf;exact hb x (by simp)
      ·exact ih (fun y hy=>hb y (by simp[hy])) hf
    exact this l hb hf
   refine⟨_,_,_,bO.blk.rd1 rfl,?_⟩;refine(Z1s hby3.rd (by omega)).mono ?_;rintro _ w4⟨o4,k4,rfl,F4⟩;have s4:Stp NoS w3 lab2 w4 (ext lab2 w3.heap.size 9):=Stp.of_nob F4.mod 9;have I4:=I3.stp s4 (fun h=>h) (fun h=>h) (fun h=>h) (fun h=>h) (fun h=>h);have hby4:=hby3.stp s4 (fun h=>h);have hcl4:CBy w4 (ext lab2 w3.heap.size 9) 9 o4 b:=Z1x F4 (Mod.refl _);have bO4:=bO.stp s4 (fun h=>h);have s04:=s03.trans s4;generalize ext lab2 w3.heap.size 9=lab4 at *
   refine JA ⟨_,_,_,rfl,bO4.blk.rd1 rfl,?_⟩;rintro d22 w5⟨rfl,rfl⟩;have s5:Stp NoS w4 lab4 (w4.alloc (I #[.slice o4 b.length k4] 23)) (ext lab4 w4.heap.size 9):=Stp.alloc NoS w4 lab4 _ 9;have N5:=Blk.new w4 23 #[.slice o4 b.length k4];have I5:=I4.stp s5 (fun h=>h) (fun h=>h) (fun h=>h) (fun h=>h) (fun h=>h);have hby5:=hby4.stp s5 (fun h=>h);have hcl5:=hcl4.stp s5 (fun h=>h);have bO5:=bO4.stp s5 (fun h=>h);have hO5:=(hO.stp s4 (fun h=>h) (fun h=>h)).stp s5 (fun h=>h) (fun h=>h);have s05:=s04.trans s5;generalize w4.heap.size=D5 at *
   generalize w4.alloc (I #[.slice o4 b.length k4] 23)=w5 at *
   generalize ext lab4 D5 9=lab5 at *
   refine⟨bO5.blk.rd1 rfl,?_⟩;obtain⟨o6,k6,w6,hr6,hO6,s6⟩:=hO5.push (by decide) N5 hcl5 F4.own.cap.1 (by omega);have hby6:=hby5.stp s6 (by decide);have bO6:=bO5.stp s6 (by decide);obtain⟨bS5,hM5,_⟩:=I5;have bS6:=bS5.stp s6 (by decide);have hM6:=hM5.stp s6 (by decide) (by decide);generalize ext lab5 w5.heap.size 8=lab6 at *
   refine⟨_,w6,hr6,_,_,_,rfl,bO6.blk.canSet (by simp) rfl,?_⟩;rintro _ rfl;have s7:Stp (·=7) w6 lab6 (w6.setCell ⟨dO,0,G⟩ (.slice o6 (nn+1) k6)) lab6:=Stp.setCell bO6.clr;have hby7:=hby6.stp s7 (by decide);refine hR _ _ ⟨lab6,((s05.mono (fun _ h=>h.elim)).trans (s6.mono (fun _ h=>JA h))).trans (s7.mono (fun _ h=>JI h)),?_,?_,fun er her=>?_,fun b' hb'=>?_⟩
   ·unfold pStep;rw[hf]
    exact⟨bS6.stp s7 (by decide),hM6.stp s7 (by decide) (by decide),o6,nn+1,k6,bO6.set 0 _,hO6.stp s7 (by decide) (by decide)⟩
   ·unfold pStep;rw[hf];show(out++[b]).length+n<=_;rw[JC,JW];omega
   ·unfold pStep at her;rw[hf]at her;cases her
   ·unfold pStep at hb';rw[hf]at hb'
    cases hb';exact⟨ob,kb,rfl,hby7.rd,hkb⟩
end
def behind:Option Code->Code
 |some (.seq _ c)=>c
 |_=>.skip
def Z7z(d0:Addr)(n:Int)(w:Y)(R:JY->Y->Prop):Prop :=
 ∃v10:Value,JT O (Jj (.iface 127 (.agg #[(.int JH n)])) 20 127 J9) w=.ok v10 w /\
 ∃n11:Int,∃b12:Bool,v10=(J8 #[(.agg #[(.int JH n11)]),(J b12)]) /\
 (((b12=J9 ->
   ∀(d13:Addr)(w14:Y),ZC w 127 #[(.int JH 0)] d13 w14 ->
   Z1 w14 d13 (.int JH n11)/\∀w15:Y,ZA w14 d13 (.int JH n11) w15 ->
   ∃n16:Int,J0 w15 d13=J2 (.int JH n16) /\
   Z1 w15 d0 (.int JH n16)/\∀w17:Y,ZA w15 d0 (.int JH n16) w17 ->
   R (C (J8 #[])) w17)) /\
  ((b12=W ->
   R (JL (ZH1 (.iface 127 (.agg #[(.int JH n)])))) w)))
def ZAp(R:JY->Y->Prop):Kont pC:={ nrm:=fun _ w=>R (C (J8 #[])) w,exit:=fun _ _ _=>False,ret:=fun _ w=>R (C (J8 #[])) w }
theorem ZDF(d0:Addr)(n:Int)(w:Y)(R:JY->Y->Prop):Z7z d0 n w R=Z9u (pA O ⟨R,J9⟩) O [] (behind Tryz.f32.body) (Z2M 0 [.addr d0,.tup [],.tup [],.tup [],.tup [],.iface 127 (.agg [.int JH n])]) w (ZAp R):=by kernel_rfl
theorem ZBq(d0:Addr)(w:Y)(R:JY->Y->Prop):R (C (J8 #[])) w=Z9u (pA O ⟨R,J9⟩) O [] (behind Tryz.f32.body) (Z2M 0 [.addr d0,.tup [],.tup [],.tup [],.tup [],.nilIface]) w (ZAp R):=by kernel_rfl
theorem ZBr:Z22 15 (behind Tryz.f32.body)=J9:=by kernel_rfl
theorem ZG8(n:Int)(w:Y):JT O (Jj (.iface 127 (.agg #[(.int JH n)])) 20 127 J9) w=.ok (J8 #[.agg #[.int JH n],J J9]) w:=by kernel_rfl
def ZCX(post:Y->Prop):JY->Y->Prop
 | C _,w'=>post w'
 | JL _,_=>False
 | .outgrown,_=>False
theorem ZIT{post:Y->Prop}{ch:List Jc}{w:Y}{b:Prop}(h:ZCX post (JL ch) w):b:=False.elim h
theorem ZJX{post:Y->Prop}{ch:List Jc}{w:Y}{b:Prop}(h:(Z7w.mk (ZCX post) J9).fin (JL ch) w):b:=ZIT (post:=post) (ch:=ch) (w:=w) h
theorem Z5E{P:Program}{fn:Func}{c₀:Frame}{cs cs':List Frame}{R:JY->FrameMode->Y->Prop}{ch:List Jc}{a a':Act}{w:Y}(hd:a.defers=a'.defers)(h:bodyPostS P fn c₀ cs R (.panic ch) a cs' w):bodyPostS P fn c₀ cs R (.panic ch) a' cs' w:=⟨hd ▸ h.1,h.2⟩
theorem Z39(tmps:Array Value)(w:Y):(results Tryz.f32 tmps).run O w=.ok (J8 #[]) w:=by
 simp[results,Tryz.results74]
theorem ZKr{v0 v5:Value}:(#[v0]++(JN 14 undef).setIfInBounds 4 v5).size=15:=by
 rw[Array.size_append,Array.size_setIfInBounds,Array.size_replicate];rfl
theorem rep15{v0 v5:Value}{sv0 sv5:SV pC}(h0:toV sv0=v0)(h5:toV sv5=v5):Rep (Z2M 0 [sv0,.tup [],.tup [],.tup [],.tup [],sv5]) ({ tmps:=#[v0]++(JN 14 undef).setIfInBounds 4 v5,defers:=[] }:Act):=by
 intro k;rw[Z5S,if_pos (JP _),Jd]
 have e1:toVs [sv0,.tup [],.tup [],.tup [],.tup [],sv5]=[v0,undef,undef,undef,undef,v5]:=by
  simp only[toVs,h0,h5];rfl
 have e2:(#[v0]++(JN 14 undef).setIfInBounds 4 v5).toList=[v0,undef,undef,undef,undef,v5,undef,undef,undef,undef,undef,undef,undef,undef,undef]:=by
  rw[Array.toList_append,Array.toList_setIfInBounds,Array.toList_replicate];rfl
 rw[e1,Array.getD_eq_getD_getElem?,<-JD,e2,List.getD_eq_getElem?_getD];by_cases hk:k<6
 ·have:k=0\/k=1\/k=2\/k=3\/k=4\/k=5:=by omega
  rcases this with rfl|rfl|rfl|rfl|rfl|rfl<;>rfl
 ·have e3:[v0,undef,undef,undef,undef,v5,undef,undef,undef,undef,undef,undef,undef,undef,undef]=[v0,undef,undef,undef,undef,v5]++Jk 9 undef:=rfl
  have e4:([v0,undef,undef,undef,undef,v5]:List Value)[k]?=G:=List.getElem?_eq_none (by simp only[JE,JV];omega);rw[e4,e3,J3 (by simp only[JE,JV];omega),List.getElem?_replicate];split<;>rfl
theorem ZBs{Q:Exit->Act->Y->Prop}{D:Nat}{v5:Value}{sv5:SV pC}{post:Y->Prop}{w:Y}(h5:toV sv5=v5)
  (h:Z9u (pA O ⟨ZCX post,J9⟩) O [] (behind Tryz.f32.body) (Z2M 0 [.addr ⟨D,0,G⟩,.tup [],.tup [],.tup [],.tup [],sv5]) w (ZAp (ZCX post)))
  (hQ:∀ch(a a':Act) w,a.defers=a'.defers->Q (.panic ch) a w->Q (.panic ch) a' w) (h1:∀(a':Act) w',a'.defers=[]->post w'->Q .normal a' w') (h2:∀(a':Act) w',a'.defers=[]->post w'->Q .ret a' w') :
  (behind Tryz.f32.body).wp O Q { tmps:=#[J4 (J2 ⟨D,0,G⟩)]++(JN 14 undef).setIfInBounds 4 v5,defers:=[] } w :=
 Z7d (R:=⟨ZCX post,J9⟩) (ann:=[]) ZL (n:=15) (behind Tryz.f32.body) (Zt (behind Tryz.f32.body)) _ _ w (ZAp (ZCX post)) Q (rep15 (sv0:=.addr ⟨D,0,G⟩) (sv5:=sv5) rfl h5) ZKr ZBr (fun _ h=>h) (fun ch a a' w hd _ hq=>hQ ch a a' w hd hq) (fun ch a' w' hd hk hf=>ZJX hf) h
  { nrm:=fun env' a' w' _ _ h3 _ h5=>h1 a' w' h3 h5
    exit:=fun i env' a' w' _ _ _ _ h5=>h5.elim
    ret:=fun env' a' w' _ _ h3 _ h5=>h2 a' w' h3 h5 }
set_option maxRecDepth 20000 in
theorem Z5G{D:Nat}{t:JZ}{v:Value}{n:Int}{w:Y}(B:Blk w D t #[v]) :
  CallsD O 32 #[J4 (J2 ⟨D,0,G⟩)] (.panicking (Z2u n)) w (fun e u' w'=>e=C (J8 #[])/\u'=.panicking [{ v:=.iface 127 (.agg #[.int JH n]),recovered:=J9 }]/\Blk w' D t #[.int JH n]/\Vcg.Mod (·=D) w w'):=by
 have hcf:Z7z ⟨D,0,G⟩ n w (ZCX fun w'=>Blk w' D t #[.int JH n]/\Vcg.Mod (·=D) w w'):=by
  refine⟨_,ZG8 n w,n,J9,rfl,fun _=>?_,fun h=>(by cases h)⟩;rintro d w1⟨rfl,rfl⟩;have F:=Blk.new w 127 #[.int JH 0];have M1:=Mod.alloc (S:=(·=D)) w (I #[.int JH 0] 127);have hD:=B.lt;have B1:=B.mod (Mod.alloc (S:=NoB) w (I #[.int JH 0] 127)) (fun h=>h);refine⟨F.canSet (by simp) rfl,?_⟩;rintro _ rfl;have F2:=F.set 0 (.int JH n);have B2:=B1.set_ne (a:=⟨w.heap.size,0,G⟩) (v:=.int JH n) (by show D≠w.heap.size;omega);have M2:Vcg.Mod (·=D) w _:=M1.trans (Mod.setCell (w.alloc (I #[.int JH 0] 127)) ⟨w.heap.size,0,G⟩ (.int JH n)) (fun i hi e=>by have he:i=w.heap.size:=e;omega);refine⟨n,F2.rd1 rfl,B2.canSet (by simp) rfl,?_⟩;rintro _ rfl;exact⟨B2.set 0 _,M2.step_set (a:=⟨D,0,G⟩) (fun _=>rfl)⟩
 have h:=Eq.mp (ZDF ⟨D,0,G⟩ n w _) hcf;clear hcf;refine Jm Jp rfl fun c₀ cs hu=>?_;apply wpS_seq;apply wpS_region;simp[wpOpsS,go_sem,recoverD,hu,Jo,Exit.thenS];refine wpS_of_wp (ZBs (post:=fun w'=>Blk w' D t #[.int JH n]/\Vcg.Mod (·=D) w w') (sv5:=.iface 127 (.agg [.int JH n])) rfl h (fun ch a a' w hd hq=>Z5E hd hq) ?_ ?_)
 ·exact fun a' w' hd hr=>⟨hd,_,rfl,_,Z39 _ _,rfl,rfl,hr.1,hr.2⟩
 ·exact fun a' w' hd hr=>⟨hd,_,rfl,_,Z39 _ _,rfl,rfl,hr.1,hr.2⟩
set_option maxRecDepth 20000 in
theorem Z6J{D:Nat}{w:Y} :
  CallsD O 32 #[J4 (J2 ⟨D,0,G⟩)] .returning w (fun e u' w'=>e=C (J8 #[])/\u'=.returning/\w'=w):=by
 have h:=Eq.mp (ZBq ⟨D,0,G⟩ w (ZCX fun w'=>w'=w)) rfl;refine Jm Jp rfl fun c₀ cs hu=>?_;apply wpS_seq;apply wpS_region;simp[wpOpsS,go_sem,recoverD,hu,Jo,Exit.thenS];refine wpS_of_wp (ZBs (post:=fun w'=>w'=w) (sv5:=.nilIface) rfl h (fun ch a a' w hd hq=>Z5E hd hq) ?_ ?_)
 ·exact fun a' w' hd hr=>⟨hd,.returning,by rw[<-hu],_,Z39 _ _,rfl,rfl,hr⟩
 ·exact fun a' w' hd hr=>⟨hd,.returning,by rw[<-hu],_,Z39 _ _,rfl,rfl,hr⟩
end Go.Proofs.YtfghidehlnfdiaaGreat
end
