/- Contracts: nodeOf, parsed (package proof). -/
/- Contracts: rootOf, parsed, gives, way (package proof). -/
/- Contracts: way (package proof). -/
/- Contracts: stored, bytesOf, what Prove asks (package proof); lists of bytes. -/
/- Contracts: bytesOf, what Prove asks; lists of bytes in memory. -/
/- Contracts: caught (package proof), deferred; how Prove and Verify are left. -/
/- Contracts: Prove (package proof). -/
/- Contracts: the reference's find, Get (moraineref14), Prove (moraineref16). -/
/- Contracts: what Verify asks, Verify (package proof). -/
import Derived.Test.YtfghidehlnfdiaaGreatPW2
import Derived.Recover
set_option linter.unusedVariables false
set_option linter.unusedSimpArgs false
open Array renaming getElem?_eq_getElem->JH,getElem?_eq_none->JU,getElem?_toList->JK,replicate->JM
open Bool renaming false->J0,true->JN
open Except renaming error->JB
open Go renaming Calls->Ji,Ending->JJ,PanicEntry->Jb,TypeId->Jo,World->Y,callsD_of_wpS->Jk
open Go.Addr renaming add->J1
open Go.Ending renaming panicked->JL,returned->C
open Go.FrameMode renaming panicking->Jd,returning->JD
open Go.IntKind renaming i64->J5,u8->Jc,wrap->Jf
open Go.Obj renaming cells->I
open Go.Proofs.Tryz renaming func32->Jn,ntmps74->Jm,prog->W
open Go.Sem renaming run->JZ
open Go.Value renaming bool->U,pointer->J2,slice->G,tuple->J6
open Go.World renaming cell?->J4
open Int renaming toNat_natCast->JA
open List renaming getD_eq_getElem?_getD->JO,getElem?_append_left->JP,getElem?_append_right->JF,getElem?_eq_none->JX,getElem_append_left->JR,getElem_append_right->JQ,getElem_cons_zero->JT,getElem_mem->JS,length_append->JC,length_cons->JG,length_nil->JV,length_singleton->JW,length_take->Jg,take_length->Jh,take_succ_eq_append_getElem->JI
open Nat renaming le_refl->J7,lt_of_lt_of_le->Ja,sub_self->Je,sub_zero->Jl,zero_add->J9,zero_le->JY
open Option renaming none->J,or_none->Jj,some->J3
open Or renaming inl->JE,inr->J8
section
namespace Go.Proofs.YtfghidehlnfdiaaGreat
open Go Go.Vcg Go.Trie
section
variable{A:Nat->Prop}{w0 w w':Y}
def Z5t(A:Nat->Prop)(w0 w:Y)(xs:List It)(o:Option Addr)(l k:Nat):Prop :=
 l=xs.length/\∃vs,ZT w0 w ZFA 34 o l k vs/\∀j(hj:j<xs.length),∃L,(∀i,i<34->vs[j*34+i]?=L[i]?)/\RfC (fun b=>A b\/OB o b) w xs[j] L
theorem Z5t.nil(M:Vcg.Mod NoB w0 w):Z5t A w0 w [] J 0 0:=⟨rfl,[],ZT.nil M _ _,fun j hj=>absurd hj (by simp)⟩
theorem Z5t.mod'{xs:List It}{o:Option Addr}{l k:Nat}(h:Z5t A w0 w xs o l k)(M:Vcg.Mod NoB w w'):Z5t A w0 w' xs o l k:=by
 obtain⟨h1,vs,F,h2⟩:=h;refine⟨h1,vs,F.mod' M,fun j hj=>?_⟩;obtain⟨L,a,b⟩:=h2 j hj;exact⟨L,a,b.mod' M⟩
theorem Z5t.set{D:Nat}{xs:List It}{o:Option Addr}{l k:Nat}(h:Z5t A w0 w xs o l k)(Q:Vcg.Mod (·=D) w w')(hD:¬OB o D)(h0:w0.heap.size<=D)(hx:∀j (hj:j<xs.length) L,RfC (fun b=>A b\/OB o b) w xs[j] L->RfC (fun b=>A b\/OB o b) w' xs[j] L):Z5t A w0 w' xs o l k:=by
 obtain⟨h1,vs,F,h2⟩:=h;refine⟨h1,vs,⟨F.own.mod Q (fun b hb e=>hD (e ▸ hb)),ZK F.mod Q h0,F.new⟩,fun j hj=>?_⟩;obtain⟨L,a,b⟩:=h2 j hj;exact⟨L,a,hx j hj L b⟩
theorem Z5t.push{xs:List It}{o:Option Addr}{l k:Nat}(h:Z5t A w0 w xs o l k){D:Nat}{x:It}{L:Array Value}(B:Blk w D ZFA L)(hx:RfC (fun b=>A b\/OB o b) w x L)(hl:xs.length<=2^20) :
  ∃o' k' w',JZ W (builtinV .append #[84,84] 84 #[G o l k,G (J3 ⟨D,0,J⟩) 1 1]) w=.ok (G o' (l+1) k') w'/\Z5t A w0 w' (xs++[x]) o' (l+1) k'/\Vcg.Mod (OB o) w w'/\(∀b,OB o' b->OB o b\/w.heap.size<=b):=by
 obtain⟨rfl,vs,F,hv⟩:=h;obtain⟨i,hi,hz,hs,hb⟩:=Z25 ZFJ;have hsz:=hx.size;obtain⟨o',k',w',h1,h2,h3,h4⟩:=Z3I (ty:=84) ZAg hi hz hs (by exact Z0a rfl _ _) F.own (Z5E ZAg B hsz hx.one) (by simp only[maxLen];omega) (by rw[hb];omega)
 have hF:ZT w0 w' ZFA 34 o' (xs.length+1) k' (vs++L.toList):=by
  refine⟨h2,F.mod.trans h3 (fun k hk hob=>absurd (F.new k hob) (by omega)),fun k hk=>?_⟩;rcases h4 k hk with h5|h5
  ·exact F.new k h5
  ·exact Nat.le_trans F.mod.size h5
 have hlen:vs.length=xs.length*34:=F.own.1
 have step:∀{y:It}{L:Array Value},RfC (fun b=>A b\/OB o b) w y L->RfC (fun b=>A b\/OB o' b) w' y L:=fun hy=>by
  have h5:=RfC.restr (A':=fun b=>A b\/OB o b\/w.heap.size<=b) (fun b hb hh=>hh.elim JE (fun hh=>hh.elim J8 (fun h=>absurd h (by omega)))) hy;have h6:=h5.modA h3 (fun b h=>J8 (JE h));exact RfC.restr (fun b _ hh=>hh.elim JE (fun h=>J8 (h4 b h))) h6
 refine⟨o',k',w',h1,⟨by simp,_,hF,fun j hj=>?_⟩,h3,h4⟩;rw[JC,JG,JV]at hj;by_cases hjx:j<xs.length
 ·obtain⟨L',a,e⟩:=hv j hjx
  refine⟨L',fun i hi=>?_,?_⟩
  ·rw[JP (by omega)];exact a i hi
  ·rw[JR hjx];exact step e
 ·obtain rfl:j=xs.length:=by omega
  refine⟨L,fun i hi=>?_,?_⟩
  ·rw[JF (by omega),hlen,show xs.length*34+i-xs.length*34=i by omega,JK]
  ·rw[JQ (J7 _)]
   simp only[Je,JT];exact step hx
def NvC(A:Nat->Prop)(w:Y)(xs:List It)(b:Bool)(s1 s2 s3:Option Addr×Nat×Nat):Prop :=
 (∃p v,xs.length=2/\Z15 (xs.getD 0 (.s []))=J3 (p,JN)/\xs.getD 1 (.s [])=.s v/\b=JN/\s1.2.1=p.length/\RdA A w s1.1 p/\s2=(J,0,0)/\s3.2.1=v.length/\RdA A w s3.1 v) \/
 (∃p D L,xs.length=2/\Z15 (xs.getD 0 (.s []))=J3 (p,J0)/\b=J0/\s1.2.1=p.length/\RdA A w s1.1 p/\s2=(J3 ⟨D,0,J⟩,1,1)/\¬A D/\Blk w D ZFA L/\RfC A w (xs.getD 1 (.s [])) L/\s3=(J,0,0)) \/
 (∃g v,xs.length=17/\xs.getD 16 (.s [])=.s v/\b=J0/\s1=(J,0,0)/\s2.1=J3 ⟨g,0,J⟩/\s2.2.1=16/\g<w.heap.size/\¬A g/\(∀j,j<16->∃L,ZH w ⟨g,j*34,J⟩ 34 L/\RfC A w (xs.getD j (.s [])) L)/\s3.2.1=v.length/\RdA A w s3.1 v)
theorem NvC.modA{S:Nat->Prop}{xs:List It}{b:Bool}{s1 s2 s3:Option Addr×Nat×Nat}(h:NvC A w xs b s1 s2 s3)(M:Vcg.Mod S w w')(hS:∀b,S b->A b):NvC A w' xs b s1 s2 s3:=by
 rcases h with⟨p,v,h1,h2,h3,h4,h5,h6,h7,h8,h9⟩|⟨p,D,L,h1,h2,h3,h4,h5,h6,h7,h8,h9,h10⟩|⟨g,v,h1,h2,h3,h4,h5,h6,h7,h8,h9,h10,h11⟩
 ·exact JE ⟨p,v,h1,h2,h3,h4,h5,h6.modA M hS,h7,h8,h9.modA M hS⟩
 ·exact J8 (JE ⟨p,D,L,h1,h2,h3,h4,h5.modA M hS,h6,h7,h8.mod M (fun h=>h7 (hS _ h)),h9.modA M hS,h10⟩)
 ·refine J8 (J8 ⟨g,v,h1,h2,h3,h4,h5,h6,Ja h7 M.size,h8,fun j hj=>?_,h10,h11.modA M hS⟩)
  obtain⟨L,⟨a,a'⟩,c⟩:=h9 j hj;exact⟨L,⟨a,fun i hi=>by rw[<-a' i hi,Z6];exact ZU M h7 (fun h=>h8 (hS _ h))⟩,c.modA M hS⟩
theorem NvC.mod'{xs:List It}{b:Bool}{s1 s2 s3:Option Addr×Nat×Nat}(h:NvC A w xs b s1 s2 s3)(M:Vcg.Mod NoB w w'):NvC A w' xs b s1 s2 s3:=h.modA M (fun _ h=>h.elim)
theorem NvC.restr{A':Nat->Prop}(hA:∀b,b<w.heap.size->A' b->A b){xs:List It}{b:Bool}{s1 s2 s3:Option Addr×Nat×Nat}(h:NvC A w xs b s1 s2 s3):NvC A' w xs b s1 s2 s3:=by
 rcases h with⟨p,v,h1,h2,h3,h4,h5,h6,h7,h8,h9⟩|⟨p,D,L,h1,h2,h3,h4,h5,h6,h7,h8,h9,h10⟩|⟨g,v,h1,h2,h3,h4,h5,h6,h7,h8,h9,h10,h11⟩
 ·exact JE ⟨p,v,h1,h2,h3,h4,h5,h6.mono hA,h7,h8,h9.mono hA⟩
 ·exact J8 (JE ⟨p,D,L,h1,h2,h3,h4,h5.mono hA,h6,fun h=>h7 (hA D h8.lt h),h8,h9.restr hA,h10⟩)
 ·refine J8 (J8 ⟨g,v,h1,h2,h3,h4,h5,h6,h7,fun h=>h8 (hA g h7 h),fun j hj=>?_,h10,h11.mono hA⟩)
  obtain⟨L,a,c⟩:=h9 j hj;exact⟨L,a,c.restr hA⟩
def nvV(b:Bool)(s1 s2 s3:Option Addr×Nat×Nat):Value:=.agg #[U b,G s1.1 s1.2.1 s1.2.2,G s2.1 s2.2.1 s2.2.2,G s3.1 s3.2.1 s3.2.2]
theorem ZBV{D:Nat}{t:Jo}{a b c d:Value}{b1:Bool}{s1 s2 s3:Option Addr×Nat×Nat}{R':Bool->Option Addr->Nat->Nat->Option Addr->Nat->Nat->Option Addr->Nat->Nat->Y->Prop}(X:Blk w D t #[a,b,c,d])(K:∀w',Vcg.Mod (·=D) w w'->R' b1 s1.1 s1.2.1 s1.2.2 s2.1 s2.2.1 s2.2.2 s3.1 s3.2.1 s3.2.2 w') :
  Z1 w ⟨D,0,J⟩ (U b1)/\∀w1:Y,Z8 w ⟨D,0,J⟩ (U b1) w1->Z1 w1 (J1 ⟨D,0,J⟩ 1) (G s1.1 s1.2.1 s1.2.2)/\∀w2:Y,Z8 w1 (J1 ⟨D,0,J⟩ 1) (G s1.1 s1.2.1 s1.2.2) w2->Z1 w2 (J1 ⟨D,0,J⟩ 2) (G s2.1 s2.2.1 s2.2.2)/\∀w3:Y,Z8 w2 (J1 ⟨D,0,J⟩ 2) (G s2.1 s2.2.1 s2.2.2) w3 ->
   Z1 w3 (J1 ⟨D,0,J⟩ 3) (G s3.1 s3.2.1 s3.2.2)/\∀w4:Y,Z8 w3 (J1 ⟨D,0,J⟩ 3) (G s3.1 s3.2.1 s3.2.2) w4 ->
   ∃b65:Bool,∃o66:Option Addr,∃l67:Nat,∃l68:Nat,∃o69:Option Addr,∃l70:Nat,∃l71:Nat,∃o72:Option Addr,∃l73:Nat,∃l74:Nat,J4 w4 ⟨D,0,J⟩=J3 (U b65) /\
   J4 w4 (J1 ⟨D,0,J⟩ 1)=J3 (G o66 l67 l68)/\J4 w4 (J1 ⟨D,0,J⟩ 2)=J3 (G o69 l70 l71)/\J4 w4 (J1 ⟨D,0,J⟩ 3)=J3 (G o72 l73 l74)/\R' b65 o66 l67 l68 o69 l70 l71 o72 l73 l74 w4 :=
 ZGv X rfl rfl rfl rfl (fun w' X' M=>get4 X' (K w' M))
theorem Z4E{xs:List It}{v1 v2 v3:Value}(hg:Z32 (.l xs))(hA:∀b,w.heap.size<=b->¬A b)(hx:ItC A w (.l xs) v1 v2 v3) :
  Ji W Z1l.n #[.agg #[v1,v2,v3]] w (fun e w'=>∃b s1 s2 s3,e=C (nvV b s1 s2 s3)/\Vcg.Mod NoB w w'/\NvC A w' xs b s1 s2 s3):=by
 have hx0:=hx;simp only[ItC]at hx;obtain⟨rfl,rfl,p,c,rfl,h4,hcap⟩:=hx;refine ZG fun R hR=>Z1l.vc _ _ _ _ _ _ _ _ _ ?_;unfold Z1l.Vc;rintro d3 w1⟨rfl,rfl⟩;have M1:=Mod.alloc (S:=NoB) w (I #[U JN,G J 0 0,G p xs.length c] 111);have X1:=Blk.new w 111 #[U JN,G J 0 0,G p xs.length c];have hs1:=ZC w (I #[U JN,G J 0 0,G p xs.length c] 111);generalize hD:w.heap.size=D at *
 generalize w.alloc (I #[U JN,G J 0 0,G p xs.length c] 111)=w1 at *
 rintro d5 w2⟨rfl,rfl⟩;have M12:=Mod.alloc (S:=NoB) w1 (I #[U J0,G J 0 0,G J 0 0,G J 0 0] 86);have V2:=Blk.new w1 86 #[U J0,G J 0 0,G J 0 0,G J 0 0];have hs2:=ZC w1 (I #[U J0,G J 0 0,G J 0 0,G J 0 0] 86);have X2:=X1.mod' M12;have M2:=M1.none_trans M12;generalize hN:w1.heap.size=N at *
 generalize w1.alloc (I #[U J0,G J 0 0,G J 0 0,G J 0 0] 86)=w2 at *
 have h4N:Z1X (fun b=>A b\/b=N) w xs p 0:=Z1X.restr (fun b hb hh=>hh.elim id (fun h=>by omega)) h4
 have fin:∀(w':Y)(b:Bool)(s1 s2 s3:Option Addr×Nat×Nat)(cs:Value×Value×Value×Value),Vcg.Mod NoB w w'->Blk w' N 86 #[cs.1,cs.2.1,cs.2.2.1,cs.2.2.2]->NvC (fun b=>A b\/b=N) w' xs b s1 s2 s3->∀w4,Vcg.Mod (·=N) w' w4->R (C (nvV b s1 s2 s3)) w4:=by
  intro w' b s1 s2 s3 cs M B hn w4 Q;refine hR _ _ ⟨b,s1,s2,s3,rfl,ZK M Q (by omega),?_⟩;exact(hn.modA Q (fun b hb=>J8 hb)).restr (fun b _ h=>JE h)
 refine⟨_,_,_,by rw[Z6];exact X2.rd1 rfl,fun h2=>?_,fun h2=>?_⟩
 ·have h2':xs.length=2:=by omega
  obtain⟨pp,lf,he,hl1,hl2⟩:=hg.two h2';have h42:=Z1X.mod M2 _ h4N;obtain⟨g,f0,u1,u2,u3,rfl,hgs,e1,e2,e3,hi⟩:=h42.get 0 (by omega);have h0e:xs.getD 0 (.s [])=xs[0]:=Z1E (by omega);have h1e:xs.getD 1 (.s [])=xs[1]:=Z1E (by omega);have hm0:xs[0]∈xs:=JS (by omega);obtain⟨gg,hnn,hfine⟩:=hg.node;cases hq:xs[0]with
  |l ys=>rw[h0e,hq]at he;simp[Z15]at he
  |s bs =>
   rw[hq]at hi;simp only[ItC]at hi;obtain⟨rfl,⟨ox,cx,rfl,hrx,_⟩,rfl⟩:=hi
   have hbl:bs.length<=2^20:=by
    have hfx:=hfine.mem hm0;rw[hq]at hfx
    have:bs.length<=(enc (.s bs)).length:=by
     simp only[enc];split
     ·exact J7 _
     ·rw[JC];omega
    have:=hfx.2.2;omega
   refine⟨_,_,_,by rw[Z6];exact X2.rd1 rfl,_,rfl,⟨by decide,by omega⟩,_,_,_,by rw[Z6,Z6];exact e2,?_⟩;refine(Z6J hrx hbl).mono ?_;rintro _ w3⟨o',k',rfl,M3,R3,hnew⟩;have M03:=M2.none_trans M3;have X3:=X2.mod' M3;have V3:=V2.mod' M3;have he':=he;rw[h0e,hq]at he';simp only[Z15]at he';have eu:upk bs=(pp,lf,0):=by unfold upk;rw[he']
   rw[eu]at R3 ⊢;have hs3:=M2.size
   have hRA:RdA (fun b=>A b\/b=N) w3 o' pp:=⟨R3,fun _ d hd hh=>by
    have h1:=hnew d hd;have h2:=V2.lt;rcases hh with hh|hh
    ·exact hA _ (by omega) hh
    ·omega⟩
   obtain⟨g',f0',t1,t2,t3,ho,hg',d1,d2,d3,hi'⟩:=(Z1X.mod M03 _ h4N).get 1 (by omega);cases ho;refine⟨_,_,_,_,_,rfl,fun hlf=>?_,fun hlf=>?_⟩
   ·dsimp only at hlf;subst hlf
    obtain⟨vs,hv1,hvn⟩:=hl1 rfl;rw[h1e]at hv1;rw[hv1]at hi';simp only[ItC]at hi';obtain⟨rfl,⟨oy,cy,rfl,hry,hay⟩,rfl⟩:=hi';refine⟨_,_,_,by rw[Z6];exact X3.rd1 rfl,_,rfl,⟨by decide,by omega⟩,_,_,_,by rw[Z6,Z6];exact d2,?_⟩;exact ZBV (b1:=JN) (s1:=(o',pp.length,k')) (s2:=(J,0,0)) (s3:=(oy,vs.length,cy)) V3 (fin w3 JN (o',pp.length,k') (J,0,0) (oy,vs.length,cy) (_,_,_,_) M03 V3 (JE ⟨pp,vs,h2',he,by rw[h1e,hv1],rfl,rfl,hRA,rfl,rfl,hry,hay⟩))
   ·dsimp only at hlf;subst hlf
    obtain⟨hpn,hgy,hye⟩:=hl2 rfl;obtain⟨_,_,_,_,_,_,_,rfl,rfl,rfl⟩:=hi'.vals;refine⟨_,_,_,by rw[Z6];exact X3.rd1 rfl,_,rfl,⟨by decide,by omega⟩,_,_,_,_,_,_,_,by rw[Z6];exact d1,by rw[Z6,Z6];exact d2,by rw[Z6,Z6];exact d3,?_⟩;rw[h1e]at hgy;have hs03:=M03.size;have hV3:=V3.lt
    refine(Z7c hgy (fun b hb hh=>by
     rcases hh with hh|hh
     ·exact hA b (by omega) hh
     ·omega) hi').mono ?_
    rintro _ w4⟨L,rfl,M4,hL⟩;have M04:=M03.none_trans M4;refine⟨L,rfl,hL.size,?_⟩;rw[ZAH (n:=34) rfl hL.size];rintro d59 w5⟨rfl,rfl⟩;have M5:=Mod.alloc (S:=NoB) w4 (I L 82);have B5:=Blk.new w4 82 L;have V5:=(V3.mod' M4).mod' M5;have hs4:=M4.size;have M05:=M04.none_trans M5;refine ZBV (b1:=J0) (s1:=(o',pp.length,k')) (s2:=(J3 ⟨w4.heap.size,0,J⟩,1,1)) (s3:=(J,0,0)) V5 (fin _ J0 (o',pp.length,k') (J3 ⟨w4.heap.size,0,J⟩,1,1) (J,0,0) (_,_,_,_) M05 V5 (J8 (JE ⟨pp,w4.heap.size,L,h2',he,rfl,rfl,(hRA.mod' M4).mod' M5,rfl,?_,B5,?_,rfl⟩)))
    ·intro hh
     rcases hh with hh|hh
     ·exact hA _ (by omega) hh
     ·omega
    ·rw[h1e];exact hL.mod' M5
 ·obtain⟨h17,⟨v16,hv16⟩,hkids⟩:=hg.many (by omega)
  have h42:=Z1X.mod M2 _ h4N;obtain⟨g,f0,u1,u2,u3,rfl,hgs,e1,e2,e3,hi⟩:=h42.get 16 (by omega);rw[Z1E (by omega)]at hv16;rw[hv16]at hi;simp only[ItC]at hi;obtain⟨rfl,⟨ov,cv,rfl,hrv,hav⟩,rfl⟩:=hi;refine⟨_,_,_,by rw[Z6];exact X2.rd1 rfl,_,rfl,⟨by decide,by omega⟩,_,_,_,by rw[Z6,Z6];exact e2,?_⟩;rintro d82 w3⟨rfl,rfl⟩;have M3:=Mod.alloc (S:=NoB) w2 (I #[U J0,G J 0 0,G J 0 0,G J 0 0] 86);have U3:=Blk.new w2 86 #[U J0,G J 0 0,G J 0 0,G J 0 0];have hs3:=ZC w2 (I #[U J0,G J 0 0,G J 0 0,G J 0 0] 86);have M03:=M2.none_trans M3;have X3:=X2.mod' M3;have V3:=V2.mod' M3;have hVlt:=V2.lt;have hXlt:=X2.lt;generalize hN2:w2.heap.size=N2 at *
  generalize w2.alloc (I #[U J0,G J 0 0,G J 0 0,G J 0 0] 86)=w3 at *
  refine ZGv U3 rfl rfl rfl rfl (fun w4 U4 Q4=>?_);have M04:Vcg.Mod NoB w w4:=ZK M03 Q4 (by omega);have X4:=X3.mod Q4 (by omega);have V4:=V3.mod Q4 (by omega);have hs4:=Q4.size
  let A2:Nat->Prop:=fun b=>A b\/b=N\/b=N2
  have h4A:Z1X A2 w xs (J3 ⟨g,f0,J⟩) 0:=Z1X.restr (fun b hb hh=>hh.elim id (fun h=>by omega)) h4
  have hrvA:RdA A2 w4 ov v16:=by
   have h0:=(Z1X.mod M04 _ h4A).get 16 (by omega);obtain⟨g',f0',t1,t2,t3,ho,hg',d1,d2,d3,hi'⟩:=h0;cases ho;rw[hv16]at hi';simp only[ItC]at hi';obtain⟨rfl,⟨oz,cz,rfl,hrz,haz⟩,rfl⟩:=hi';have h5:w4.cell? ⟨g,f0+(0+16*3)+1,J⟩=w2.cell? ⟨g,f0+(0+16*3)+1,J⟩:=ZU (ZK M3 Q4 (by omega)) (by omega) (fun h=>h);have hd2:w4.cell? ⟨g,f0+(0+16*3)+1,J⟩=J3 (G oz v16.length cz):=d2;have he2:w2.cell? ⟨g,f0+(0+16*3)+1,J⟩=J3 (G ov v16.length cv):=e2;rw[hd2,he2]at h5;cases h5;exact⟨hrz,haz⟩
  refine⟨_,_,_,by rw[Z6];exact X4.rd1 rfl,by omega,?_⟩
  have hA2:∀b,w4.heap.size<=b->¬A2 b:=fun b hb hh=>by
   have hb4:=U4.lt;rcases hh with hh|hh|hh
   ·exact hA b (by have:=M04.size;omega) hh
   ·omega
   ·omega
  have M24:Vcg.Mod NoB w2 w4:=ZK M3 Q4 (by omega);have h4B:Z1X (fun b=>A2 b\/w4.heap.size<=b) w xs (J3 ⟨g,f0,J⟩) 0:=Z1X.restr (fun b hb hh=>hh.elim id (fun h=>by have:=M04.size;omega)) h4A;have hN2lt:=U4.lt;clear h4A h42 e1 e2 e3 hrv hav;refine⟨fun i w'=>∃(j:Nat)(o:Option Addr)(k:Nat),i=(j:Int)/\j<=16/\Z5t A2 w2 w' (xs.take j) o j k/\(∀b,OB o b->w4.heap.size<=b)/\w4.heap.size<=w'.heap.size/\Blk w' N2 86 #[U J0,G J 0 0,G o j k,G ov v16.length cv]/\RdA (fun b=>A2 b\/w4.heap.size<=b) w' ov v16,fun i _=>((16:Int)-i).toNat,⟨0,J,0,rfl,JY _,by rw[List.take_zero];exact Z5t.nil M24,fun b hb=>(Z3z b hb).elim,J7 _,U4,hrvA.mono (fun b hb hh=>hh.elim id (fun h=>by omega))⟩,?_⟩;rintro _ _ w5⟨j,o,k,rfl,hj,hrow,hO,hs45,U5,hv5⟩;have M25:Vcg.Mod NoB w2 w5:=by obtain⟨_,vs,F,_⟩:=hrow;exact F.mod
  have M05:=M2.none_trans M25;have X5:=X2.mod' M25;refine⟨fun hlt=>?_,fun hge=>?_⟩
  ·have hjl:j<xs.length:=by omega
   have hj16:j<16:=by omega
   obtain⟨g',f',u1,u2,u3,ho,hg',d1,d2,d3,hij⟩:=(Z1X.mod M05 _ h4B).get j hjl;cases ho;rw[J9]at d1 d2 d3;obtain⟨b,p1,q1,r1,p2,q2,r2,rfl,rfl,rfl⟩:=hij.vals;refine⟨_,rfl,⟨by omega,by omega⟩,_,_,_,_,_,_,_,by rw[Z6,JA];exact d1,by rw[Z6,Z6,JA];exact d2,by rw[Z6,Z6,JA];exact d3,?_⟩;rintro d102 w6⟨rfl,rfl⟩;have H:=Blk.new w5 111 #[U J0,G J 0 0,G J 0 0];have M56:=Mod.alloc (S:=NoB) w5 (I #[U J0,G J 0 0,G J 0 0] 111);refine Z8i H rfl rfl rfl (fun w7 H7 Q7=>?_);have M57:Vcg.Mod NoB w5 w7:=ZK M56 Q7 (J7 _);rintro _ rfl;have M58:=M57.step_drew;have U8:=U5.mod' M58;have H8:=H7.drew;have hij8:=ItC.mod M58 _ hij;have hrow8:=hrow.mod' M58;have hv8:=hv5.mod' M58;have hs8:=M58.size;have hOlt:∀b,OB o b->b<w5.heap.size:=by obtain⟨_,vs,F,_⟩:=hrow;exact fun b hb=>F.own.lt hb
   generalize w5.heap.size=HH at *
   generalize w7.drew=w8 at *
   clear H M56 Q7 H7 M57 hrow hij U5 hv5 d1 d2 d3;refine⟨_,_,_,by rw[Z6];exact U8.rd1 rfl,Z7w H8 ?_⟩;have hgj:Z32 xs[j]:=by have:=hkids j hj16;rwa[Z1E hjl]at this
   have hijO:ItC (fun b=>A2 b\/OB o b) w8 xs[j] (U b) (G p1 q1 r1) (G p2 q2 r2):=ItC.mono (fun b hb=>hb.imp id (hO b)) _ hij8
   refine(Z7c hgj (fun b hb hh=>by
    rcases hh with hh|hh
    ·exact hA2 b (by omega) hh
    ·have:=hOlt b hh;omega) hijO).mono ?_
   rintro _ w9⟨L,rfl,M9,hL⟩;have U9:=U8.mod' M9;refine⟨L,rfl,by rw[Z6];exact U9.rd1 rfl,hL.size,?_⟩;rw[ZAH (n:=34) rfl hL.size];rintro d121 w10⟨rfl,rfl⟩;have M10:=Mod.alloc (S:=NoB) w9 (I L 82);have B10:=Blk.new w9 82 L;have U10:=U9.mod' M10;have hrow10:=(hrow8.mod' M9).mod' M10;have hL10:=hL.mod' M10;have hv10:=(hv8.mod' M9).mod' M10;have hs10:w4.heap.size<=(w9.alloc (I L 82)).heap.size:=by have:=M9.size;have:=M10.size;omega
   generalize w9.alloc (I L 82)=w10 at *
   have hlen:(xs.take j).length=j:=by rw[Jg];omega
   obtain⟨o',k',w11,hr11,hrow11,M11,hO11⟩:=hrow10.push B10 hL10 (by omega);have hON:¬OB o N2:=fun h=>by have:=hO _ h;omega
   have U11:=U10.mod M11 hON;refine⟨by rw[Z6];exact U10.rd1 rfl,_,w11,hr11,_,_,_,rfl,?_⟩;rw[Z6,J9];refine⟨U11.canSet (by simp) rfl,?_⟩;rintro _ rfl;have Q12:=Mod.setCell w11 ⟨N2,2,J⟩ (G o' (j+1) k');have U12:=U11.set 2 (G o' (j+1) k');have hO':∀b,OB o' b->w4.heap.size<=b:=fun b hb=>(hO11 b hb).elim (hO b) (fun h=>by omega);have htk:xs.take (j+1)=xs.take j++[xs[j]]:=JI hjl;rw[<-htk]at hrow11;have ew:Jf J5 ((j:Int)+1)=((j+1:Nat):Int):=by rw[Z0 (by omega) (by omega)];omega
   rw[ew];refine⟨⟨j+1,o',k',rfl,hj16,hrow11.set (D:=N2) Q12 (fun h=>by have:=hO' _ h;omega) (by omega) (fun q hq L' hL'=>hL'.modA Q12 (fun b hb=>JE (J8 (J8 hb)))),hO',by have:=M11.size;have:=Q12.size;omega,U12,?_⟩,by dsimp only;omega⟩;exact(hv10.modA M11 (fun b hb=>J8 (hO b hb))).modA Q12 (fun b hb=>JE (J8 (J8 hb)))
  ·obtain rfl:j=16:=by omega
   have V5:=V2.mod' M25;obtain⟨_,vs,F,hrf⟩:=hrow;refine get4 U5 ?_;refine ZBV (b1:=J0) (s1:=(J,0,0)) (s2:=(o,16,k)) (s3:=(ov,v16.length,cv)) V5 (fin w5 J0 (J,0,0) (o,16,k) (ov,v16.length,cv) (_,_,_,_) M05 V5 (J8 (J8 ?_)));have hl16:(xs.take 16).length=16:=by rw[Jg];omega
   obtain⟨L0,hL0,hr0⟩:=hrf 0 (by omega);have h33:vs[0*34+0]?=L0[0]?:=hL0 0 (by omega);have hL0s:=hr0.size;obtain⟨q,hq,_⟩:=F.own.cell (i:=0*34+0) (v:=L0[0]'(by omega)) (by rw[h33,JH (by omega)]);have hqs:=hO q ⟨_,hq,rfl⟩;have hqlt:=F.own.lt ⟨_,hq,rfl⟩;have hAN:∀b,A b\/b=N->A2 b:=fun b hb=>hb.imp id JE;refine⟨q,v16,h17,by rw[Z1E (by omega),hv16],rfl,rfl,hq,rfl,hqlt,fun hh=>hA2 q hqs (hAN q hh),fun j hj=>?_,rfl,hv5.mono (fun b _ hb=>JE (hAN b hb))⟩;obtain⟨L,hL,hr⟩:=hrf j (by omega);refine⟨L,⟨hr.size,fun i hi=>?_⟩,?_⟩
   ·have hls:=hr.size
    obtain⟨q',hq',hc⟩:=F.own.cell (i:=j*34+i) (v:=L[i]'(by omega)) (by rw[hL i hi,JH (by omega)]);rw[hq]at hq';cases hq';rw[Z6,hc,JH (by omega)]
   ·rw[Z1E (by omega)]
    have:(xs.take 16)[j]'(by omega)=xs[j]:=by rw[List.getElem_take]
    rw[this]at hr;exact hr.restr (fun b _ hb=>JE (hAN b hb))
end
abbrev Z2o(e:Int):List Jb:=ZEP (.iface 127 (.agg #[.int J5 e]))
theorem Z1F(w:Y)(n:Int):Ji W Z27.n #[.int J5 n] w (fun e w'=>w'=w/\if n=0 then e=C (J6 #[])else e=JL (Z2o n)):=by
 refine Z27.vc _ _ _ ?_;unfold Z27.Vc;exact⟨fun h=>⟨rfl,by rw[if_neg h]⟩,fun h=>⟨rfl,by rw[if_pos h]⟩⟩
theorem Z3G.mono{v:Value}{args:Array Value}{w:Y}{R R':JJ->Y->Prop}(h:Z3G W v args w R)(hr:∀e w',R e w'->R' e w'):Z3G W v args w R':=by
 obtain⟨f,a,b,h1,h2,h3⟩:=h;exact⟨f,a,b,h1,h2,h3.mono hr⟩
def rootIt(h:By):It:=if h=emptyH then .s []else .s h
theorem Z7K{h:By}(hh:h.length=32):Z32 (rootIt h):=by
 unfold rootIt;split
 ·exact .nil
 ·exact .hash hh
section
variable{A:Nat->Prop}{w w':Y}
theorem Z6a{h:By}(hh:h.length=32) :
  Ji W Z1n.n #[.agg (hashA h)] w (fun e w'=>∃L,e=C (.agg L)/\Vcg.Mod NoB w w'/\RfC A w' (rootIt h) L):=by
 refine Z1n.vc _ _ _ ?_;unfold Z1n.Vc;rintro d1 w1⟨rfl,rfl⟩;have M1:=Mod.alloc (S:=NoB) w (I (hashA h) 27);have X1:=Blk.new w 27 (hashA h);have hs1:=ZC w (I (hashA h) 27);generalize hD:w.heap.size=D at *
 generalize w.alloc (I (hashA h) 27)=w1 at *
 rintro d3 w2⟨rfl,rfl⟩;rw[Z7b];have M12:=Mod.alloc (S:=NoB) w1 (I (rfA zeros32 J J0) 82);have H2:=Blk.new w1 82 (rfA zeros32 J J0);have X2:=X1.mod' M12;generalize hH:w1.heap.size=H at *
 generalize w1.alloc (I (rfA zeros32 J J0) 82)=w2 at *
 rintro _ rfl;have M2:=M12.step_drew;have X3:=X2.drew;have H3:=H2.drew;generalize w2.drew=w3 at *
 refine⟨_,X3.rowAll (ZA _),_,X3.rowAll (ZA _),?_⟩;refine(ZAq w3).mono ?_;rintro _ w4⟨rfl,M4⟩;have X4:=X3.mod' M4;have H4:=H3.mod' M4;have M14:=M2.none_trans M4;refine⟨_,rfl,X4.rowAll (ZA _),X4.rowAll (ZA _),_,Z94 _ _ hh (by unfold emptyH;exact Zs _),_,rfl,ZA _,?_⟩;rw[ZEc (ZA h)];obtain⟨w5,hr5,H5,Q5⟩:=Z3S (x:=.s h) (A:=A) (w0:=w) H4 (Z0a rfl _ _) (Z0a (h:=(hashA h).toList) (Z0n _) J (decide (h≠emptyH))) (Z5C (Z2M _) _ _);refine⟨w5,hr5,_,H5.rowAll (Z0a (Z0n _) _ _),_,rfl,M1.none_trans (ZK M14 Q5 (by omega)),?_⟩;unfold rootIt;by_cases he:h=emptyH
 ·rw[if_pos he]
  exact JE ⟨rfl,(hashA h).toList,Z0n _,Z2M _,by rw[decide_eq_false (by simp[he])]⟩
 ·rw[if_neg he]
  exact J8 ⟨hh,by rw[decide_eq_true he]⟩
theorem Z6S{o:Option Addr}{k:Nat}{bs:By}(hA:∀b,w.heap.size<=b->¬A b)(hr:RdB w o bs)(hk:bs.length<=k) :
  Ji W Z1m.n #[G o bs.length k] w (fun e w'=>Vcg.Mod NoB w w'/\(Z0B bs=0->∃xs b s1 s2 s3,Z4U bs=.ok (.l xs)/\Z32 (.l xs)/\e=C (J6 #[nvV b s1 s2 s3,.int J5 0])/\NvC A w' xs b s1 s2 s3) /\
   (Z0B bs≠0->e=C (J6 #[nvV J0 (J,0,0) (J,0,0) (J,0,0),.int J5 161]))):=by
 refine ZG fun R hR=>Z1m.vc _ _ _ _ _ ?_;unfold Z1m.Vc;rintro d1 w1⟨rfl,rfl⟩;have M1:=Mod.alloc (S:=NoB) w (I #[U J0,G J 0 0,G J 0 0,G J 0 0] 86);have V1:=Blk.new w 86 #[U J0,G J 0 0,G J 0 0,G J 0 0];have hs1:=ZC w (I #[U J0,G J 0 0,G J 0 0,G J 0 0] 86);have hr1:=hr.mod' M1;generalize hN:w.heap.size=N at *
 generalize w.alloc (I #[U J0,G J 0 0,G J 0 0,G J 0 0] 86)=w1 at *
 refine(ZAp hr1 hk).mono ?_;rintro _ w2⟨rfl,M2⟩;have M02:=M1.none_trans M2;have V2:=V1.mod' M2;refine⟨_,rfl,fun hne=>?_,fun h0=>?_⟩
 ·exact ZBV (b1:=J0) (s1:=(J,0,0)) (s2:=(J,0,0)) (s3:=(J,0,0)) V2 (fun w' Q=>hR _ _ ⟨ZK M02 Q (by omega),fun h=>(hne h).elim,fun _=>rfl⟩)
 ·obtain⟨xs,hdc,hn,hg⟩:=Z22 h0
  refine(Z6H (hr1.mod' M2) hk).mono ?_;rintro e w3⟨M3,hd⟩;unfold Z2E at hd;rw[hdc]at hd;obtain⟨v1,v2,v3,rfl,hx⟩:=hd;obtain⟨b,p1,q1,r1,p2,q2,r2,rfl,rfl,rfl⟩:=hx.vals;have M03:=M02.none_trans M3;refine⟨_,_,_,_,_,_,_,_,rfl,?_⟩;rintro d2 w4⟨rfl,rfl⟩;have H:=Blk.new w3 111 #[U J0,G J 0 0,G J 0 0];refine Z8i H rfl rfl rfl (fun w5 H5 Q5=>?_);have M35:Vcg.Mod NoB w3 w5:=ZK (Mod.alloc w3 _) Q5 (J7 _);have M05:=M03.none_trans M35;have V5:=(V2.mod' M3).mod' M35;refine Z7w H5 ?_;have hs2:=M02.size;have hVlt:=V2.lt
  have hx5:ItC (fun b=>A b\/b=N) w5 (.l xs) (U b) (G p1 q1 r1) (G p2 q2 r2):=ItC.restr (fun b _ hh=>by
   rcases hh with hh|hh
   ·refine Nat.lt_of_not_le fun hb=>hA b (by omega) hh
   ·omega) (ItC.mod M35 _ hx)
  refine(Z4E hg (fun b hb hh=>by
   have:=M05.size;have:=V5.lt;rcases hh with hh|hh
   ·exact hA b (by omega) hh
   ·omega) hx5).mono ?_
  rintro _ w6⟨bb,s1,s2,s3,rfl,M6,hn6⟩;have V6:=V5.mod' M6;have M06:=M05.none_trans M6;refine⟨_,_,_,_,_,_,_,_,_,_,rfl,ZBV (b1:=bb) (s1:=s1) (s2:=s2) (s3:=s3) V6 (fun w' Q=>hR _ _ ⟨ZK M06 Q (by omega),fun _=>⟨xs,bb,s1,s2,s3,hdc,hg,rfl,?_⟩,fun h=>(h h0).elim⟩)⟩;exact(hn6.modA Q (fun b hb=>J8 hb)).restr (fun b _ h=>JE h)
variable{S:Nat->Prop}{lab lab':Nat->Nat}
theorem frz(s:Stp S w lab w' lab')(h6:¬S 6):Vcg.Mod (fun b=>lab b≠6) w w':=s.mod (fun k hk hs e=>h6 (e ▸ hs))
theorem ZBG(s:Stp S w lab w' lab')(b:Nat):lab' b≠6->lab b≠6\/w.heap.size<=b:=fun h=>by
 rcases Nat.lt_or_ge b w.heap.size with hb|hb
 ·exact JE (by rw[<-s.lab b hb];exact h)
 ·exact J8 hb
theorem RfC.stp{x:It}{L:Array Value}(h:RfC (fun b=>lab b≠6) w x L)(s:Stp S w lab w' lab')(h6:¬S 6):RfC (fun b=>lab' b≠6) w' x L :=
 ((h.restr (A':=fun b=>lab b≠6\/w.heap.size<=b) (fun b hb hh=>hh.resolve_right (by omega))).modA (frz s h6) (fun b hb=>JE hb)).restr (fun b _ hh=>ZBG s b hh)
theorem NvC.stp{xs:List It}{b:Bool}{s1 s2 s3:Option Addr×Nat×Nat}(h:NvC (fun b=>lab b≠6) w xs b s1 s2 s3)(s:Stp S w lab w' lab')(h6:¬S 6):NvC (fun b=>lab' b≠6) w' xs b s1 s2 s3 :=
 ((h.restr (A':=fun b=>lab b≠6\/w.heap.size<=b) (fun b hb hh=>hh.resolve_right (by omega))).modA (frz s h6) (fun b hb=>JE hb)).restr (fun b _ hh=>ZBG s b hh)
theorem ItC.stp6{x:It}{v1 v2 v3:Value}(h:ItC (fun b=>lab b≠6) w x v1 v2 v3)(s:Stp S w lab w' lab')(h6:¬S 6):ItC (fun b=>lab' b≠6) w' x v1 v2 v3 :=
 ItC.restr (fun b _ hh=>ZBG s b hh) (ItC.modA (frz s h6) (fun b hb=>JE hb) _ (ItC.restr (A':=fun b=>lab b≠6\/w.heap.size<=b) (fun b hb hh=>hh.resolve_right (by omega)) h))
end
structure ZGH {σ:Type} (ask:Value) (T:Nat->Prop) (Inv:Y->(Nat->Nat)->σ->Prop) (step:σ->By->σ×Except Int By) (can:σ->Nat->Prop):Prop where
 le:∀{s:σ}{n m:Nat},can s n->m<=n->can s m
 s5:¬T 5
 s6:¬T 6
 stp:∀{w w':Y}{lab lab':Nat->Nat}{s:σ},Inv w lab s->Stp (·=5) w lab w' lab'->Inv w' lab' s
 run:∀{w:Y}{lab:Nat->Nat}{s:σ}{h:By}{n:Nat},Inv w lab s->can s (n+1)->h.length=32->Z3G W ask #[.agg (hashA h)] w (fun e w'=>∃lab',Stp T w lab w' lab'/\Inv w' lab' (step s h).1/\can (step s h).1 n /\
  (∀er,(step s h).2=JB er->e=JL (Z2o er)/\er≠0)/\(∀b,(step s h).2=.ok b->∃o k,e=C (G o b.length k)/\RdB w' o b/\b.length<=k))
structure ZDX (w:Y) (lab:Nat->Nat) (D:Nat) (x:It):Prop where
 lab5:lab D=5
 at_:∃L,Blk w D ZFA L/\RfC (fun b=>lab b≠6) w x L
theorem ZDX.stp{S:Nat->Prop}{w w':Y}{lab lab':Nat->Nat}{D:Nat}{x:It}(h:ZDX w lab D x)(s:Stp S w lab w' lab')(h5:¬S 5)(h6:¬S 6):ZDX w' lab' D x:=by
 obtain⟨h1,L,h2,h3⟩:=h;exact⟨(s.lab D h2.lt).trans h1,L,⟨(s.block D h2.lt (by rw[h1];exact h5)).trans h2,h3.stp s h6⟩⟩
theorem Z6t{w:Y}{lab:Nat->Nat}{x:It}{L:Array Value}(h:RfC (fun b=>lab b≠6) w x L) :
  ∃w',JZ W (Instr.storeAt ZFA (J2 (J3 ⟨w.heap.size,0,J⟩)) (.agg L)) (w.alloc (I (rfA zeros32 J J0) 82))=.ok () w'/\ZDX w' (ext lab w.heap.size 5) w.heap.size x/\Stp NoS w lab w' (ext lab w.heap.size 5):=by
 have M1:=Mod.alloc (S:=NoB) w (I (rfA zeros32 J J0) 82);have H1:=Blk.new w 82 (rfA zeros32 J J0);obtain⟨w2,hr2,H2,Q2⟩:=Z3S (x:=x) (A:=fun _=>False) (w0:=w) H1 (Z0a rfl _ _) h.size h.one;have M2:Vcg.Mod NoB w w2:=ZK M1 Q2 (J7 _);have s:Stp NoS w lab w2 (ext lab w.heap.size 5):=Stp.of_nob M2 5;exact⟨w2,hr2,⟨ext_new (J7 _),L,H2,h.stp s (fun h=>h)⟩,s⟩
theorem ZDX.set{w w':Y}{lab lab':Nat->Nat}{D N:Nat}{x:It}(h:ZDX w lab D x)(Q:Vcg.Mod (·=N) w w')(s:Stp (·=5) w lab w' lab')(hne:D≠N):ZDX w' lab' D x:=by
 obtain⟨h1,L,h2,h3⟩:=h;exact⟨(s.lab D h2.lt).trans h1,L,h2.mod Q hne,h3.stp s (by decide)⟩
theorem ZCQ{w:Y}{lab:Nat->Nat}{D:Nat}{x y:It}{L:Array Value}{P:Addr->Y->Prop}(V:ZDX w lab D x)(hL:RfC (fun b=>lab b≠6) w y L)(K:∀w' lab' D',Stp (·=5) w lab w' lab'->ZDX w' lab' D' y->P ⟨D',0,J⟩ w') :
  ∃w120:Y,JZ W (Instr.storeAt 82 (J2 (J3 ⟨D,0,J⟩)) (.agg L)) w=.ok () w120 /\
   ∃L121:Array Value,ZH w120 ⟨D,0,J⟩ 34 L121 /\
   ∀(d122:Addr)(w123:Y),ZB w120 82 #[(.int Jc 0),(.int Jc 0),(.int Jc 0),(.int Jc 0),(.int Jc 0),(.int Jc 0),(.int Jc 0),(.int Jc 0),(.int Jc 0),(.int Jc 0),(.int Jc 0),(.int Jc 0),(.int Jc 0),(.int Jc 0),(.int Jc 0),(.int Jc 0),(.int Jc 0),(.int Jc 0),(.int Jc 0),(.int Jc 0),(.int Jc 0),(.int Jc 0),(.int Jc 0),(.int Jc 0),(.int Jc 0),(.int Jc 0),(.int Jc 0),(.int Jc 0),(.int Jc 0),(.int Jc 0),(.int Jc 0),(.int Jc 0),(J2 J),(U J0)] d122 w123 ->
   ∃w124:Y,JZ W (Instr.storeAt 82 (J2 (J3 d122)) (.agg L121)) w123=.ok () w124/\P d122 w124:=by
 obtain⟨h5,L0,B,hr⟩:=V;obtain⟨w1,hr1,B1,Q1⟩:=Z3S (x:=y) (A:=fun _=>False) (w0:=w) B hr.size hL.size hL.one;have s1:Stp (·=5) w lab w1 (ext lab w.heap.size 5):=Stp.of_mod Q1 5 (fun k _ e=>by rw[e];exact h5);have hL1:=hL.stp s1 (by decide);refine⟨w1,hr1,L,B1.rowAll hL.size,?_⟩;rintro d w2⟨rfl,rfl⟩;rw[Z7b];obtain⟨w3,hr3,V3,s3⟩:=Z6t hL1;exact⟨w3,hr3,K w3 _ _ (s1.trans (s3.mono (fun _ h=>h.elim))) V3⟩
theorem setN{w:Y}{lab:Nat->Nat}{N:Nat}{a b c d:Value}{b1:Bool}{s1 s2 s3:Option Addr×Nat×Nat}{R':Y->Prop}(X:CB w lab 5 N 86 #[a,b,c,d])(K:∀w' lab',Vcg.Mod (·=N) w w'->Stp (·=5) w lab w' lab'->CB w' lab' 5 N 86 #[U b1,G s1.1 s1.2.1 s1.2.2,G s2.1 s2.2.1 s2.2.2,G s3.1 s3.2.1 s3.2.2]->R' w') :
  Z1 w ⟨N,0,J⟩ (U b1)/\∀w1:Y,Z8 w ⟨N,0,J⟩ (U b1) w1->Z1 w1 (J1 ⟨N,0,J⟩ 1) (G s1.1 s1.2.1 s1.2.2)/\∀w2:Y,Z8 w1 (J1 ⟨N,0,J⟩ 1) (G s1.1 s1.2.1 s1.2.2) w2->Z1 w2 (J1 ⟨N,0,J⟩ 2) (G s2.1 s2.2.1 s2.2.2)/\∀w3:Y,Z8 w2 (J1 ⟨N,0,J⟩ 2) (G s2.1 s2.2.1 s2.2.2) w3 ->
   Z1 w3 (J1 ⟨N,0,J⟩ 3) (G s3.1 s3.2.1 s3.2.2)/\∀w4:Y,Z8 w3 (J1 ⟨N,0,J⟩ 3) (G s3.1 s3.2.1 s3.2.2) w4->R' w4 :=
 ZGv X.blk rfl rfl rfl rfl (fun w' B' Q=>K w' _ Q (Stp.of_mod Q 5 (fun k _ e=>by rw[e];exact X.clr)) ⟨B',(Z23 X.blk.lt).trans X.clr⟩)
theorem ZF0{xs:List It}{v:By}{j:Nat}(hg:Z32 (.l xs))(hj:j<xs.length)(h:xs.getD j (.s [])=.s v):v.length<=2^40:=by
 obtain⟨g,_,hf⟩:=hg.node;rw[Z1E hj]at h;have hm:=hf.mem (JS hj);rw[h]at hm
 have:v.length<=(enc (.s v)).length:=by
  simp only[enc];split
  ·exact J7 _
  ·rw[JC];omega
 have:=hm.2.2;omega
def ZH4(r:Except Int By)(w':Y)(lab':Nat->Nat)(e:JJ):Prop:=match r with
 | JB er=>e=JL (Z2o er)/\er≠0
 | .ok v=>∃o k,e=C (J6 #[G o v.length k,U (decide (v≠[]))])/\CBy w' lab' 6 o v
section
variable{σ:Type}{ask:Value}{T:Nat->Prop}{Inv:Y->(Nat->Nat)->σ->Prop}{step:σ->By->σ×Except Int By}{can:σ->Nat->Prop}
theorem ZAj(ok:ZGH ask T Inv step can){w0:Y}{lab0:Nat->Nat}{s0:σ}{h key:By}{o:Option Addr}{k:Nat}(hI:Inv w0 lab0 s0)(hcan:can s0 129)(hh:h.length=32)(hr:RdB w0 o key)(hkl:key.length<=64) :
  Ji W Z3R.n #[.agg (hashA h),G o key.length k,ask] w0 (fun e w'=>∃lab',Stp (fun c=>c=5\/T c) w0 lab0 w' lab'/\Inv w' lab' (way step s0 (rootIt h) (nibbles key)).1/\ZH4 (way step s0 (rootIt h) (nibbles key)).2 w' lab' e):=by
 have hT:∀w w' lab lab' s,Inv w lab s->Stp NoS w lab w' lab'->Inv w' lab' s:=fun w w' lab lab' s hI st=>ok.stp hI (st.mono (fun _ h=>h.elim));refine ZG fun R hR=>Z3R.vc _ _ _ _ _ _ _ ?_;unfold Z3R.Vc;rintro d3 w1⟨rfl,rfl⟩;have M1:=Mod.alloc (S:=NoB) w0 (I (hashA h) 27);have X1:=Blk.new w0 27 (hashA h);have hr1:=hr.mod' M1;generalize w0.heap.size=D3 at *
 generalize w0.alloc (I (hashA h) 27)=w1 at *
 refine(Z2W (k:=k) hr1 (by omega)).mono ?_;rintro _ w2⟨op,kp,rfl,F2⟩;have X2:=X1.mod' F2.mod;have M2:=M1.none_trans F2.mod;refine J8 ⟨_,_,_,rfl,hashA h,X2.rowAll (ZA _),?_⟩;have hnl:=ZQ key;have hpc:=F2.own.cap.1;have s02:Stp NoS w0 lab0 w2 (ext lab0 w0.heap.size 6):=Stp.of_nob M2 6;have I2:=hT _ _ _ _ _ hI s02;have P2:CBy w2 (ext lab0 w0.heap.size 6) 6 op (nibbles key):=⟨F2.own.bytes,fun _ d hd=>ext_new (by have:=F2.new d.block ⟨d,hd,rfl⟩;have:=M1.size;omega)⟩;generalize ext lab0 w0.heap.size 6=lab2 at *
 refine(Z6a (A:=fun b=>ext lab2 w2.heap.size 6 b≠6) hh).mono ?_;rintro _ w3⟨L,rfl,M3,hL⟩;have s23:Stp NoS w2 lab2 w3 (ext lab2 w2.heap.size 6):=Stp.of_nob M3 6;have I3:=hT _ _ _ _ _ I2 s23;have P3:=P2.stp s23 (fun h=>h);have s03:=s02.trans s23;generalize ext lab2 w2.heap.size 6=lab3 at *
 refine J8 ⟨L,rfl,?_⟩;rintro d14 w4⟨rfl,rfl⟩;rw[Z7b];obtain⟨w5,hr5,V5,s35⟩:=Z6t hL;have I5:=hT _ _ _ _ _ I3 s35;have P5:=P3.stp s35 (fun h=>h);have s05:=s03.trans s35;generalize ext lab3 w3.heap.size 5=lab5 at *
 refine⟨w5,hr5,fun o l c d w'=>∃(lab:Nat->Nat)(s:σ)(x:It)(path:By)(D:Nat),d=⟨D,0,J⟩/\Stp (fun c=>c=5\/T c) w0 lab0 w' lab/\Inv w' lab s/\can s (path.length+1)/\ZDX w' lab D x/\Z32 x/\CBy w' lab 6 o path/\l=path.length/\path.length<=c/\path.length<=128/\(∀n∈path,n.toNat<16)/\way step s x path=way step s0 (rootIt h) (nibbles key),
  fun _ l _ _ _=>l,⟨lab5,s0,rootIt h,nibbles key,_,rfl,s05.mono (fun _ h=>h.elim),I5,ok.le hcan (by omega),V5,Z7K hh,P5,rfl,hpc,by omega,nib_lt key,rfl⟩,?_⟩
 clear I5 V5 P5 s05 hr5 s35 I3 P3 s03 hL M3 s23 I2 P2 s02 X2 M2 F2 X1 M1 hr1;rintro o l c d _ w6⟨lab6,s,x,path,D,rfl,s06,I6,hc6,V6,hg,P6,rfl,hpc,hpl,hnib,heq⟩;have h5:¬T 5:=ok.s5;have h6:¬T 6:=ok.s6
 have done:∀(w':Y)(lab':Nat->Nat)(s':σ)(r:Except Int By)(e:JJ),Stp (fun c=>c=5\/T c) w6 lab6 w' lab'->Inv w' lab' s'->way step s x path=(s',r)->ZH4 r w' lab' e->R e w':=by
  intro w' lab' s' r e st hI' hw hi;rw[hw]at heq;rw[<-heq]at hR;exact hR e w' ⟨lab',s06.trans st,hI',hi⟩
 obtain⟨hl5,L6,B6,hrf⟩:=id V6;have cell33:∀{v:Value},L6[33]?=J3 v->J4 w6 (J1 ⟨D,0,J⟩ 33)=J3 v:=fun hv=>by rw[Z6];exact B6.rd1 hv
 refine⟨!isE x,?_,fun hb=>?_,fun hb=>?_⟩
 ·refine cell33 ?_
  cases x with
  |s b =>
   rcases hrf with⟨rfl,h',hh',_,rfl⟩|⟨hb32,rfl⟩
   ·exact Z7f hh'
   ·cases b with
    |nil=>cases hb32
    |cons a r=>exact Z7f (Z0n _)
  |l xs=>obtain⟨Dx,v1,v2,v3,rfl,_⟩:=hrf;exact Z7f rfl
 ·
  rintro d22 w7⟨rfl,rfl⟩;have s67:Stp NoS w6 lab6 (w6.alloc (I #[U J0,G J 0 0,G J 0 0,G J 0 0] 86)) (ext lab6 w6.heap.size 5):=Stp.alloc NoS w6 lab6 _ 5;have N7:=CB.new w6 lab6 5 86 #[U J0,G J 0 0,G J 0 0,G J 0 0];have I7:=hT _ _ _ _ _ I6 s67;have V7:=V6.stp s67 (fun h=>h) (fun h=>h);have P7:=P6.stp s67 (fun h=>h);have hDlt:=B6.lt;generalize w6.heap.size=N at *
  generalize w6.alloc (I #[U J0,G J 0 0,G J 0 0,G J 0 0] 86)=w7 at *
  generalize ext lab6 N 5=lab7 at *
  refine⟨fun w'=>∃(lab':Nat->Nat)(s':σ)(xs:List It)(b:Bool)(s1 s2 s3:Option Addr×Nat×Nat),Stp (fun c=>c=5\/T c) w7 lab7 w' lab'/\Inv w' lab' s'/\can s' path.length/\ZDX w' lab' D x/\CBy w' lab' 6 o path /\
   CB w' lab' 5 N 86 #[U b,G s1.1 s1.2.1 s1.2.2,G s2.1 s2.2.1 s2.2.2,G s3.1 s3.2.1 s3.2.2]/\NvC (fun b=>lab' b≠6) w' xs b s1 s2 s3/\Z32 (.l xs)/\way step s x path=Z2Y (way step) s' xs path,?_,?_⟩
  ·
   obtain⟨hl7,L7,B7,hrf7⟩:=id V7;cases x with
   |l xs =>
    obtain⟨Dx,v1,v2,v3,rfl,hADx,BDx,hit⟩:=hrf7;obtain⟨b,p1,q1,r1,p2,q2,r2,rfl,rfl,rfl⟩:=hit.vals;have hcell:J4 w7 (J1 ⟨D,0,J⟩ 32)=J3 (J2 (J3 ⟨Dx,0,J⟩)):=by rw[Z6];exact B7.rd1 (Z4q rfl)
    refine⟨_,hcell,fun _=>⟨_,hcell,_,rfl,Z7w BDx ?_⟩,fun h=>(by cases h)⟩;refine(Z4E (A:=fun b=>ext lab7 w7.heap.size 6 b≠6) hg (fun b hb h=>h (ext_new hb)) (ItC.restr (fun b hb h=>by rwa[Z23 hb]at h) hit)).mono ?_;rintro _ w8⟨bb,s1,s2,s3,rfl,M8,hn8⟩;have s78:Stp NoS w7 lab7 w8 (ext lab7 w7.heap.size 6):=Stp.of_nob M8 6;have I8:=hT _ _ _ _ _ I7 s78;have V8:=V7.stp s78 (fun h=>h) (fun h=>h);have P8:=P7.stp s78 (fun h=>h);have N8:=N7.stp s78 (fun h=>h);generalize ext lab7 w7.heap.size 6=lab8 at *
    refine J8 ⟨_,_,_,_,_,_,_,_,_,_,rfl,?_⟩;refine setN (b1:=bb) (s1:=s1) (s2:=s2) (s3:=s3) N8 (fun w9 lab9 Q9 s89 N9=>?_);have hne:D≠N:=by omega
    exact⟨lab9,s,xs,bb,s1,s2,s3,(s78.mono (fun _ h=>h.elim)).trans (s89.mono (fun _ h=>JE h)),ok.stp I8 s89,ok.le hc6 (by omega),V8.set Q9 s89 hne,P8.stp s89 (by decide),N9,hn8.stp s89 (by decide),hg,ZFp hg hnib⟩
   |s b =>
    rcases hrf7 with⟨rfl,_⟩|⟨hb32,rfl⟩
    ·cases hb
    have hbn:b≠[]:=by rintro rfl;cases hb32
    have hcell:J4 w7 (J1 ⟨D,0,J⟩ 32)=J3 (J2 J):=by rw[Z6];exact B7.rd1 (Z4q (Z0n _))
    refine⟨_,hcell,fun h=>(h rfl).elim,fun _=>⟨hashA b,B7.rowAt (ZA b) (fun i hi=>by rw[J9,ZCZ (Z0n _) hi,JK]),?_⟩⟩;refine Z3G.mono (ok.run I7 hc6 hb32) ?_;rintro e w8⟨lab8,s78,I8,hc8,herr,hok⟩;have V8:=V7.stp s78 h5 h6;have P8:=P7.stp s78 h6;have N8:=N7.stp s78 h5;have st68:Stp (fun c=>c=5\/T c) w6 lab6 w8 lab8:=(s67.mono (fun _ h=>h.elim)).trans (s78.mono (fun _ h=>J8 h));cases hst:step s b with
    |mk s' r =>
     rw[hst]at I8 hc8 herr hok;cases r with
     |error er =>
      obtain⟨rfl,hne⟩:=herr er rfl;exact JE ⟨_,rfl,done w8 lab8 s' _ _ st68 I8 (ZGp hbn hst) ⟨rfl,hne⟩⟩
     |ok bs =>
      obtain⟨ob,kb,rfl,hr8,hk8⟩:=hok bs rfl;refine J8 ⟨_,_,_,rfl,?_⟩;refine(Z6S (A:=fun b=>ext lab8 w8.heap.size 6 b≠6) (fun b hb h=>h (ext_new hb)) hr8 hk8).mono ?_;rintro e w9⟨M9,h0,hne⟩;have s89:Stp NoS w8 lab8 w9 (ext lab8 w8.heap.size 6):=Stp.of_nob M9 6;have I9:=hT _ _ _ _ _ I8 s89;have V9:=V8.stp s89 (fun h=>h) (fun h=>h);have P9:=P8.stp s89 (fun h=>h);have N9:=N8.stp s89 (fun h=>h);generalize ext lab8 w8.heap.size 6=lab9 at *
      have hDN:D≠N:=by omega
      by_cases hck:Z0B bs=0
      ·obtain⟨xs,bb,s1,s2,s3,hdc,hgx,rfl,hn9⟩:=h0 hck
       refine J8 ⟨_,_,_,_,_,_,_,_,_,_,_,rfl,?_⟩;refine setN (b1:=bb) (s1:=s1) (s2:=s2) (s3:=s3) N9 (fun w10 lab10 Q10 s910 N10=>?_);refine(Z1F w10 0).mono ?_;rintro e w11⟨rfl,he⟩;rw[if_pos rfl]at he;exact J8 ⟨he,lab10,s',xs,bb,s1,s2,s3,((s78.mono (fun _ h=>J8 h)).trans (s89.mono (fun _ h=>h.elim))).trans (s910.mono (fun _ h=>JE h)),ok.stp I9 s910,hc8,V9.set Q10 s910 hDN,P9.stp s910 (by decide),N10,hn9.stp s910 (by decide),hgx,ZCn hbn hst hck hdc hgx hnib⟩
      ·have he:=hne hck
       subst he;refine J8 ⟨_,_,_,_,_,_,_,_,_,_,_,rfl,?_⟩;refine setN (b1:=J0) (s1:=(J,0,0)) (s2:=(J,0,0)) (s3:=(J,0,0)) N9 (fun w10 lab10 Q10 s910 N10=>?_);refine(Z1F w10 161).mono ?_;rintro e w11⟨rfl,he⟩;rw[if_neg (by decide)]at he;subst he;exact JE ⟨_,rfl,done _ lab10 s' _ _ ((st68.trans (s89.mono (fun _ h=>h.elim))).trans (s910.mono (fun _ h=>JE h))) (ok.stp I9 s910) (ZFo hbn hst hck) ⟨rfl,by decide⟩⟩
  ·
   rintro _ w8⟨lab8,s',xs,b,s1,s2,s3,s78,I8,hc8,V8,P8,N8,hn,hgx,hway⟩;have st68:Stp (fun c=>c=5\/T c) w6 lab6 w8 lab8:=(s67.mono (fun _ h=>h.elim)).trans s78;have c1:J4 w8 (J1 ⟨N,0,J⟩ 1)=J3 (G s1.1 s1.2.1 s1.2.2):=by rw[Z6];exact N8.blk.rd1 rfl
   have c2:J4 w8 (J1 ⟨N,0,J⟩ 2)=J3 (G s2.1 s2.2.1 s2.2.2):=by rw[Z6];exact N8.blk.rd1 rfl
   have c3:J4 w8 (J1 ⟨N,0,J⟩ 3)=J3 (G s3.1 s3.2.1 s3.2.2):=by rw[Z6];exact N8.blk.rd1 rfl
   have none_:∀(w':Y)(lab':Nat->Nat),Stp NoS w8 lab8 w' lab'->way step s x path=(s',.ok [])->R (C (J6 #[G J 0 0,U J0])) w':=fun w' lab' st hw =>
    done w' lab' s' _ _ (st68.trans (st.mono (fun _ h=>h.elim))) (hT _ _ _ _ _ I8 st) hw ⟨J,0,rfl,CBy.nil _ _ _ _⟩
   refine⟨b,N8.blk.rd1 rfl,fun hbt=>?_,fun hbf=>?_⟩
   ·
    subst hbt;rcases hn with⟨p,v,hx2,he,hv1,_,hp1,hpr,_,hv3,hvr⟩|⟨p,D',L,_,_,hf,_⟩|⟨g,v,_,_,hf,_⟩
    ·obtain⟨o1,l1,k1⟩:=s1
     obtain⟨o3,l3,k3⟩:=s3;dsimp only at hp1 hv3 hpr hvr c1 c3;subst hp1 hv3;refine⟨_,_,_,c1,?_⟩;refine(Z4t hpr.1 P8.rd).mono ?_;rintro _ w9⟨rfl,rfl⟩;refine J8 ⟨_,rfl,_,_,_,c3,?_⟩;obtain⟨p',lf,he',hlv,_⟩:=hgx.two hx2;rw[he]at he';cases he';obtain⟨v',hv',hvn⟩:=hlv rfl;rw[hv1]at hv';cases hv';refine(Z5q (ok:=decide (p=path)) hvr.1 (ZF0 hgx (by omega) hv1)).mono ?_;rintro _ w10⟨o',k',rfl,M10,R10,N10⟩;have s810:Stp NoS w9 lab8 w10 (ext lab8 w9.heap.size 6):=Stp.of_nob M10 6;refine J8 ⟨_,_,_,_,rfl,?_⟩
     have hres:way step s x path=(s',.ok (if decide (p=path)=JN then v else[])):=by
      rw[hway,ZAM hx2 he,hv1];simp only[decide_eq_true_eq];rfl
     refine done w10 _ s' _ _ (st68.trans (s810.mono (fun _ h=>h.elim))) (hT _ _ _ _ _ I8 s810) hres ⟨o',k',?_,R10,fun _ d hd=>ext_new (N10 d hd)⟩;congr 4;by_cases hpp:p=path
     ·simp[hpp,hvn]
     ·simp[hpp]
    ·cases hf
    ·cases hf
   ·subst hbf
    refine get4 N8.blk ?_;refine Z4o.mono ?_;rintro _ w9⟨rfl,M9⟩;have s89:Stp NoS w8 lab8 w9 (ext lab8 w8.heap.size 6):=Stp.of_nob M9 6;have I9:=hT _ _ _ _ _ I8 s89;have V9:=V8.stp s89 (fun h=>h) (fun h=>h);have P9:=P8.stp s89 (fun h=>h);have N9:=N8.stp s89 (fun h=>h);have hn9:=hn.stp s89 (fun h=>h);have st69:=st68.trans (s89.mono (fun _ h=>h.elim));generalize ext lab8 w8.heap.size 6=lab9 at *
    have none9:∀(w':Y)(lab':Nat->Nat),Stp NoS w9 lab9 w' lab'->way step s x path=(s',.ok [])->R (C (J6 #[G J 0 0,U J0])) w':=fun w' lab' st hw =>
     done w' lab' s' _ _ (st69.trans (st.mono (fun _ h=>h.elim))) (hT _ _ _ _ _ I9 st) hw ⟨J,0,rfl,CBy.nil _ _ _ _⟩
    clear none_ c1 c2 c3 hn N8 P8 V8 I8 M9;have c1:J4 w9 (J1 ⟨N,0,J⟩ 1)=J3 (G s1.1 s1.2.1 s1.2.2):=by rw[Z6];exact N9.blk.rd1 rfl
    have c2:J4 w9 (J1 ⟨N,0,J⟩ 2)=J3 (G s2.1 s2.2.1 s2.2.2):=by rw[Z6];exact N9.blk.rd1 rfl
    have c3:J4 w9 (J1 ⟨N,0,J⟩ 3)=J3 (G s3.1 s3.2.1 s3.2.2):=by rw[Z6];exact N9.blk.rd1 rfl
    rcases hn9 with⟨p,v,_,_,_,hf,_⟩|⟨p,D',L,hx2,he,_,hp1,hpr,hs2,hAD',BD',hrL,hs3⟩|⟨g,v,hx17,hv16,_,hs1,hs2,hs2l,hgl,hAg,hkids,hv3,hvr⟩
    ·cases hf
    ·
     obtain⟨o1,l1,k1⟩:=s1;dsimp only at hp1 hpr c1;subst hp1 hs2 hs3;dsimp only at c2;refine J8 ⟨_,rfl,fun _=>⟨_,_,_,c1,?_⟩,fun h=>(by simp at h)⟩;refine(Z72 P9.rd hpc hpr.1).mono ?_;rintro e w10⟨rfl,hcut⟩;obtain⟨p',lf,he',_,hrow⟩:=hgx.two hx2;rw[he]at he';cases he';obtain⟨hpn,hgy,_⟩:=hrow rfl;by_cases hpre:p.isPrefixOf path=JN
     ·rw[if_pos hpre]at hcut
      subst hcut;have hle:p.length<=path.length:=(List.isPrefixOf_iff_prefix.1 hpre).length_le;have hppos:0<p.length:=List.length_pos_iff.2 hpn;refine J8 ⟨_,_,_,_,rfl,fun h=>(by cases h),fun _=>⟨_,_,_,c2,_,rfl,⟨by decide,by decide⟩,L,by rw[Z6];exact BD'.rowAll hrL.size,?_⟩⟩;refine ZCQ V9 hrL (fun w11 lab11 D11 s911 V11=>?_);have P11:=P9.stp s911 (by decide);have hdl:(path.drop p.length).length=path.length-p.length:=List.length_drop
      have P12:CBy w11 lab11 6 (subO o c p.length 1) (path.drop p.length):=by
       have:=P11.sub (cap:=c) (lo:=p.length) (n:=path.length-p.length) hpc
       rwa[<-hdl,Jh]at this
      refine⟨⟨lab11,s',_,path.drop p.length,D11,rfl,(s06.trans st69).trans (s911.mono (fun _ h=>JE h)),ok.stp I9 s911,ok.le hc8 (by omega),V11,hgy,P12,hdl.symm,by omega,by omega,fun n hnq=>hnib n ((List.drop_suffix _ _).subset hnq),?_⟩,by dsimp only;omega⟩;rw[<-heq,hway,ZCS hx2 he,if_pos hpre]
     ·rw[if_neg hpre]at hcut
      subst hcut;refine J8 ⟨_,_,_,_,rfl,fun _=>?_,fun h=>(by cases h)⟩;exact none9 _ _ (Stp.refl _ _ _) (by rw[hway,ZCS hx2 he,if_neg hpre])
    ·
     obtain⟨o2,l2,k2⟩:=s2;obtain⟨o3,l3,k3⟩:=s3;dsimp only at hs2 hs2l hv3 hvr c2 c3;subst hs2 hs2l hv3;refine J8 ⟨_,rfl,fun h=>(by simp at h),fun _=>⟨fun hl0=>?_,fun hl0=>?_⟩⟩
     ·have hp0:path=[]:=List.eq_nil_of_length_eq_zero (by omega)
      refine⟨_,_,_,c3,_,_,_,c3,?_⟩;refine(Z5q (ok:=decide (((v.length:Nat):Int)>0)) hvr.1 (ZF0 hgx (by omega) hv16)).mono ?_;rintro _ w10⟨o',k',rfl,M10,R10,N10⟩;have s910:Stp NoS w9 lab9 w10 (ext lab9 w9.heap.size 6):=Stp.of_nob M10 6;refine J8 ⟨_,_,_,_,rfl,?_⟩
      have hvv:(if decide (((v.length:Nat):Int)>0)=JN then v else[])=v:=by
       cases v with
       |nil=>simp
       |cons a r=>rw[if_pos (by simp)]
      rw[hvv]at R10 ⊢
      have hres:way step s x path=(s',.ok v):=by
       rw[hway,hp0,ZFU (by omega),hv16];rfl
      refine done w10 _ s' _ _ (st69.trans (s910.mono (fun _ h=>h.elim))) (hT _ _ _ _ _ I9 s910) hres ⟨o',k',?_,R10,fun _ d hd=>ext_new (N10 d hd)⟩;congr 4;cases v with
      |nil=>rfl
      |cons a r=>rw[decide_eq_true (by simp),decide_eq_true (by simp)]
     ·cases path with
      |nil=>exact(hl0 rfl).elim
      |cons n r =>
       rintro _ rfl;have s910:Stp NoS w9 lab9 w9.drew lab9:=Stp.drew NoS w9 lab9;have MD:=Mod.drew (S:=NoB) w9;have I10:=hT _ _ _ _ _ I9 s910;have V10:=V9.stp s910 (fun h=>h) (fun h=>h);have P10:=P9.stp s910 (fun h=>h);have st610:=st69.trans (s910.mono (fun _ h=>h.elim));have c2':J4 w9.drew (J1 ⟨N,0,J⟩ 2)=J3 (G (J3 ⟨g,0,J⟩) 16 k2):=c2;obtain⟨d,hod,hcn⟩:=ZAB P10.rd;have hn16:=hnib n (by simp);obtain⟨L,hrow,hrL⟩:=hkids n.toNat hn16;have hrow':ZH w9.drew ⟨g,n.toNat*34,J⟩ 34 L:=hrow;have hrL':=hrL.stp s910 (fun h=>h);refine⟨_,_,_,c2',d,hod,⟨by decide,by simp⟩,_,hcn,_,rfl,⟨by omega,by omega⟩,L,by rw[Z6,J9,JA];exact hrow',by simp,?_⟩;refine ZCQ V10 hrL' (fun w11 lab11 D11 s1011 V11=>?_);have P11:=P10.stp s1011 (by decide)
       have P12:CBy w11 lab11 6 (subO o c 1 1) r:=by
        have:=P11.sub (cap:=c) (lo:=1) (n:=r.length) hpc;simpa using this
       simp only[JG]at hpc hpl ⊢;refine⟨⟨lab11,s',_,r,D11,rfl,(s06.trans st610).trans (s1011.mono (fun _ h=>JE h)),ok.stp I10 s1011,ok.le hc8 (by simp only[JG];omega),V11,(hgx.many (by omega)).2.2 _ hn16,P12,by omega,by omega,by omega,fun q hq=>hnib q (by simp[hq]),?_⟩,by omega⟩;rw[<-heq,hway,ZFV (by omega)]
 ·
  cases x with
  |l xs=>cases hb
  |s b =>
   cases b with
   |cons a r=>cases hb
   |nil=>exact done w6 lab6 s _ _ (Stp.refl _ _ _) I6 (ZGq s path) ⟨J,0,rfl,CBy.nil _ _ _ _⟩
end
def Z14:List (By×By)->By->Option By
 |[],_=>J
 |x::r,h=>if x.1=h then J3 x.2 else Z14 r h
theorem Z62:∀(l:List (By×By)) (x:By×By) (h:By),Z14 (l++[x]) h=(Z14 l h).or (if x.1=h then J3 x.2 else J)
 |[],x,h=>by simp[Z14]
 |y::r,x,h=>by
  simp only[List.cons_append,Z14];split
  ·rfl
  ·exact Z62 r x h
theorem Z9j{K V:Type}[DecidableEq K]{k k':K}{v:V}:∀{es:List (K×V)},Z33 k' (Vcg.upd k v es)=if k=k' then J3 v else Z33 k' es
 |[]=>by simp[Vcg.upd,Z33]
 |x::r=>by
  simp only[Vcg.upd];by_cases hx:x.1=k
  ·rw[if_pos hx]
   simp only[Z33];by_cases hk:k=k'
   ·rw[if_pos hk,if_pos hk]
   ·rw[if_neg hk,if_neg hk,if_neg (by rw[hx];exact hk)]
  ·rw[if_neg hx]
   simp only[Z33];rw[Z9j];by_cases hk:k=k'
   ·simp only[if_pos hk];rw[if_neg (by rw[<-hk];exact hx)]
   ·simp only[if_neg hk]
abbrev ZHb:Jo:=67
theorem Z5o:Tryz.prog.underlying ZHb=J3 (.map tHash Zu):=by kernel_rfl
theorem ZAl(w:Y):(zeroValue Zu).run W w=.ok (G J 0 0) w:=by kernel_rfl
section
variable{w w':Y}{lab lab':Nat->Nat}{c:Nat}
def ZDT(w:Y)(lab:Nat->Nat)(c:Nat)(l:List (By×By))(es:List (H32×Value)):Prop :=
 ∀k:H32,match Z14 l k.1 with
  |none=>Z33 k es=J
  |some b=>∃o n,Z33 k es=J3 (G o b.length n)/\CBy w lab c o b/\b.length<=n
theorem ZDT.stp{S:Nat->Prop}{l:List (By×By)}{es:List (H32×Value)}(h:ZDT w lab c l es)(s:Stp S w lab w' lab')(hs:¬S c):ZDT w' lab' c l es:=fun k=>by
 have:=h k;split at this
 ·exact this
 ·rename_i b he
  obtain⟨o,n,h1,h2,h3⟩:=this;exact⟨o,n,h1,h2.stp s hs,h3⟩
def ZAv(w:Y)(lab:Nat->Nat)(cm c:Nat)(l:List (By×By))(m:Nat):Prop :=
 ∃es:List (H32×Value),CM (fun _=>True) ZDq w lab cm m es/\ZDT w lab c l es
theorem ZAv.stp{S:Nat->Prop}{cm m:Nat}{l:List (By×By)}(h:ZAv w lab cm c l m)(s:Stp S w lab w' lab')(hm:¬S cm)(hs:¬S c):ZAv w' lab' cm c l m:=by
 obtain⟨es,h1,h2⟩:=h;exact⟨es,h1.stp s hm,h2.stp s hs⟩
theorem ZGA{o:Option Addr}{vs:List Value}{l:List (By×By)}(h:ZS w lab c vs l)(hR:Z4k w lab c o vs){j:Nat}(hj:j<l.length) :
  ∃g f ob kb,o=J3 ⟨g,f,J⟩/\ZH w ⟨g,f+j*33,J⟩ 33 (ndA l[j].1 ob l[j].2.length kb)/\CBy w lab c ob l[j].2/\l[j].2.length<=kb/\l[j].1.length=32:=by
 obtain⟨h1,h2,ob,kb,h3,h4,h5⟩:=h.2 j hj;obtain⟨g,f,ho,hg,hl,hc⟩:=hR _ _ h3;refine⟨g,f,ob,kb,ho,⟨Z4b _ _ _ _,fun i hi=>?_⟩,h4,h5,h1⟩;by_cases h32:i=32
 ·subst h32
  rw[Z6,show f+j*33+32=f+(j*33+32) by omega,hc,ZCO]
 ·obtain⟨g',f',ho',_,_,hc'⟩:=hR _ _ (h2 i (by omega))
  rw[ho]at ho';cases ho';rw[Z6,show f+j*33+i=f+(j*33+i) by omega,hc',ZCP (by omega)]
theorem ZGh:(Tryz.prog.info? tNd).map (·.size)=J3 33:=by kernel_rfl
theorem Z6d{o:Option Addr}{k:Nat}{l:List (By×By)}{held:Bool}(h:Z0m w lab 0 l o l.length)(hlen:l.length<=2^40) :
  Ji W Z1p.n #[G o l.length k,U held] w (fun e w'=>Vcg.Mod NoB w w'/\(l.length>4096->e=C (J6 #[.agg #[.map J,U J0],.int J5 162])) /\
   (l.length<=4096->∃m,e=C (J6 #[.agg #[.map (J3 m),U held],.int J5 0])/\ZAv w' (ext lab w.heap.size 9) 9 0 l m)):=by
 refine ZG fun R hR=>Z1p.vc _ _ _ _ _ _ ?_;unfold Z1p.Vc;rintro d2 w1⟨rfl,rfl⟩;have M1:=Mod.alloc (S:=NoB) w (I #[.map J,U J0] 69);have B1:=Blk.new w 69 #[.map J,U J0];have hs1:=ZC w (I #[.map J,U J0] 69);generalize hD:w.heap.size=D at *
 generalize w.alloc (I #[.map J,U J0] 69)=w1 at *
 have two:∀(w1:Y)(a b:Value)(m:Option Nat)(bb:Bool)(R':Option Nat->Bool->Y->Prop),Blk w1 D 69 #[a,b]->(∀w2,Vcg.Mod (·=D) w1 w2->R' m bb w2) ->
   Z1 w1 ⟨D,0,J⟩ (.map m)/\∀w4:Y,Z8 w1 ⟨D,0,J⟩ (.map m) w4->Z1 w4 (J1 ⟨D,0,J⟩ 1) (U bb)/\∀w5:Y,Z8 w4 (J1 ⟨D,0,J⟩ 1) (U bb) w5 ->
   ∃m6:Option Nat,∃b7:Bool,J4 w5 ⟨D,0,J⟩=J3 (.map m6)/\J4 w5 (J1 ⟨D,0,J⟩ 1)=J3 (U b7)/\R' m6 b7 w5:=by
  intro w1 a b m bb R' B K;refine⟨B.canSet (by simp) rfl,?_⟩;rintro _ rfl;have B2:=B.set 0 (.map m);have Q1:Vcg.Mod (·=D) w1 _:=Mod.setCell w1 ⟨D,0,J⟩ (.map m);rw[Z6,J9];refine⟨B2.canSet (by simp) rfl,?_⟩;rintro _ rfl;have B3:=B2.set 1 (U bb);have Q2:=Q1.step_set (a:=⟨D,1,J⟩) (v:=U bb) (fun _=>rfl);exact⟨_,_,B3.rd1 rfl,B3.rd1 rfl,K _ Q2⟩
 refine⟨fun hbig=>?_,fun hsmall=>?_⟩
 ·exact two w1 _ _ J J0 (fun m6 b7 w5=>R (C (J6 #[.agg #[.map m6,U b7],.int J5 162])) w5) B1 (fun w2 Q=>hR _ _ ⟨ZK M1 Q (by omega),fun _=>rfl,fun h=>absurd h (by omega)⟩)
 ·have hlen':l.length<=4096:=by omega
  obtain⟨w2,hr2,M2,hmap⟩:=Z7i Z5o w1;have B2:=B1.mod' M2;have M02:=M1.none_trans M2;refine⟨_,w2,hr2,_,rfl,?_⟩;generalize hm:w1.heap.size=m at *
  have hs2:m<w2.heap.size:=(Array.getElem?_eq_some_iff.1 hmap).1;rintro d11 w3⟨rfl,rfl⟩;have M3:=Mod.alloc (S:=NoB) w2 (I #[.map J,U J0] 69);have E3:=Blk.new w2 69 #[.map J,U J0];have hs3:=ZC w2 (I #[.map J,U J0] 69);have B3:=B2.mod' M3;have hmap3:=(M3.block m hs2 (fun h=>h)).trans hmap;have M03:=M02.none_trans M3;generalize hE:w2.heap.size=E at *
  generalize w2.alloc (I #[.map J,U J0] 69)=w3 at *
  refine⟨E3.canSet (by simp) rfl,?_⟩;rintro _ rfl;have E4:=E3.set 0 (.map (J3 m));have Q4:Vcg.Mod (·=E) w3 _:=Mod.setCell w3 ⟨E,0,J⟩ (.map (J3 m));rw[Z6,J9];refine⟨E4.canSet (by simp) rfl,?_⟩;rintro _ rfl;have E5:=E4.set 1 (U held);have Q5:=Q4.step_set (a:=⟨E,1,J⟩) (v:=U held) (fun _=>rfl);have M05:Vcg.Mod NoB w _:=ZK M03 Q5 (by omega);have B5:=B3.mod Q5 (by omega);have hmap5:=(Q5.block m (by omega) (by omega)).trans hmap3;have hsz5:=Q5.size;generalize((w3.setCell ⟨E,0,J⟩ (.map (J3 m))).setCell ⟨E,1,J⟩ (U held))=w5 at *
  obtain⟨_,vs,hCR,hNC⟩:=h
  refine⟨fun i w'=>∃(j:Nat)(es:List (H32×Value)),i=(j:Int)/\j<=l.length/\Vcg.Mod NoB w w'/\Blk w' D 69 #[.map J,U J0]/\Blk w' E 69 #[.map (J3 m),U held]/\Z2K (fun _=>True) ZDq w' m es/\ZDT w' (ext lab D 9) 0 (l.take j) es,
   fun i _=>((l.length:Int)-i).toNat,⟨0,[],rfl,JY _,M05,B5,E5,⟨#[],0,hmap5,Go.MapKept.stamped_empty 0,rfl,fun _ h=>by cases h⟩,fun k=>by simp[Z14,Z33]⟩,?_⟩
  rintro _ _ w6⟨j,es,rfl,hj,M06,B6,E6,hA,hO⟩;have s06:Stp NoS w lab w6 (ext lab D 9):=hD ▸ Stp.of_nob M06 9;have CR6:=hCR.stp s06 (fun h=>h);have NC6:=hNC.stp s06 (fun h=>h);refine⟨fun hlt=>?_,fun hge=>?_⟩
  ·have hjl:j<l.length:=by omega
   obtain⟨g,f,ob,kb,rfl,hrow,hby,hkb,h32⟩:=ZGA NC6 CR6 hjl;refine⟨_,rfl,⟨by omega,by omega⟩,_,by rw[Z6,JA];exact hrow,?_⟩;rintro d20 w7⟨rfl,rfl⟩;have M7:=Mod.alloc (S:=NoB) w6 (I nd0 48);have N7:=Blk.new w6 48 nd0;have hE6:=E6.lt;have hB6:=B6.lt;have hm6:=hA.lt;have hst:=N7.storeAll (P:=W) (ty:=48) (L:=ndA l[j].1 ob l[j].2.length kb) (by rw[Z4b];exact ZGh) (by rw[Z4b];rfl) (ZBO _ _ _ _);have N8:=N7.row_same (ndA l[j].1 ob l[j].2.length kb);have Q8:=Mod.setRow (w6.alloc (I nd0 48)) w6.heap.size (ndA l[j].1 ob l[j].2.length kb);have M68:Vcg.Mod NoB w6 _:=ZK M7 Q8 (J7 _);refine⟨_,hst,?_⟩;generalize((w6.alloc (I nd0 48)).setRow w6.heap.size (ndA l[j].1 ob l[j].2.length kb))=w8 at *
   have B8:=B6.mod' M68;have E8:=E6.mod' M68;have hA8:Z2K (fun _=>True) ZDq w8 m es:=hA.same (M68.block m hm6 (fun h=>h));have M08:=M06.none_trans M68
   have hrow8:ZH w8 ⟨w6.heap.size,0,J⟩ 32 (hashA l[j].1):=N8.rowAt (ZA _) (fun i hi=>by
    rw[J9,ZCP hi];exact(ZE (f:=fun i=>bV (l[j].1.getD i 0)) hi).symm)
   have hlook:=Z2K.look hA8 Z7O Z5o (ZAl w8) (k:=⟨l[j].1,h32⟩) trivial JN;rw[if_pos rfl]at hlook
   have s68:Stp NoS w6 (ext lab D 9) w8 (ext lab D 9):=by
    have s08:Stp NoS w lab w8 (ext lab D 9):=hD ▸ Stp.of_nob M08 9;exact⟨M68.os,M68.tape,M68.output,M68.size,fun _ _=>rfl,fun q hq _=>M68.block q hq (fun h=>h)⟩
   have hO8:=hO.stp s68 (fun h=>h);have hby8:=hby.stp s68 (fun h=>h);have hfound:=hO8 ⟨l[j].1,h32⟩;have htk:l.take (j+1)=l.take j++[l[j]]:=JI hjl;have ew:Jf J5 ((j:Int)+1)=((j+1:Nat):Int):=by rw[Z0 (by omega) (by omega)];omega
   rw[ew];cases hf:Z14 (l.take j) l[j].1 with
   |none =>
    rw[hf]at hfound;simp only at hfound;rw[hfound]at hlook;obtain⟨w9,hr9,hA9,Q9⟩:=Z2K.update hA8 Z7O Z5o (k:=⟨l[j].1,h32⟩) trivial (G ob l[j].2.length kb);have M09:=ZK M08 Q9 (by omega);refine⟨_,E8.rd1 rfl,_,hrow8,_,hlook,_,_,_,_,rfl,fun _=>⟨_,E8.rd1 rfl,_,hrow8,_,_,_,by rw[Z6];exact N8.rd1 ZCO,w9,hr9,⟨j+1,_,rfl,hjl,M09,B8.mod Q9 (by omega),E8.mod Q9 (by omega),hA9,?_⟩,by dsimp only;omega⟩,fun h=>(by cases h)⟩;have s89:Stp (·=9) w8 (ext lab D 9) w9 (ext lab D 9):=⟨Q9.os,Q9.tape,Q9.output,Q9.size,fun _ _=>rfl,fun q hq hn=>Q9.block q hq (fun e=>hn (by rw[e];exact ext_new (by omega)))⟩;have hO9:=hO8.stp s89 (by decide);have hby9:=hby8.stp s89 (by decide);intro k;rw[htk,Z62,Z9j];by_cases hk:l[j].1=k.1
    ·have hk':(⟨l[j].1,h32⟩:H32)=k:=Subtype.ext hk
     rw[if_pos hk,if_pos hk',<-hk,hf];exact⟨ob,kb,rfl,hby9,hkb⟩
    ·have hk':(⟨l[j].1,h32⟩:H32)≠k:=fun e=>hk (by rw[<-e])
     rw[if_neg hk,if_neg hk',Jj];exact hO9 k
   |some b =>
    rw[hf]at hfound;obtain⟨ob',kb',hfa,_,_⟩:=hfound;rw[hfa]at hlook;refine⟨_,E8.rd1 rfl,_,hrow8,_,hlook,_,_,_,_,rfl,fun h=>(by cases h),fun _=>⟨⟨j+1,es,rfl,hjl,M08,B8,E8,hA8,?_⟩,by dsimp only;omega⟩⟩;intro k;rw[htk,Z62];by_cases hk:l[j].1=k.1
    ·have:=hO8 k
     rw[<-hk,hf]at this ⊢;exact this
    ·rw[if_neg hk,Jj]
     exact hO8 k
  ·obtain rfl:j=l.length:=by omega
   rw[Jh]at hO;refine⟨_,_,E6.rd1 rfl,E6.rd1 rfl,?_⟩;have hm6:=hA.lt;refine two w6 _ _ (J3 m) held (fun m6 b7 w5=>R (C (J6 #[.agg #[.map m6,U b7],.int J5 0])) w5) B6 (fun w7 Q7=>hR _ _ ⟨ZK M06 Q7 (by omega),fun h=>absurd h (by omega),fun _=>⟨m,rfl,es,⟨hA.same (Q7.block m hm6 (by omega)),ext_new (by omega)⟩,?_⟩⟩);have s67:Stp (·=9) w6 (ext lab D 9) w7 (ext lab D 9):=⟨Q7.os,Q7.tape,Q7.output,Q7.size,fun _ _=>rfl,fun q hq hn=>Q7.block q hq (fun e=>hn (by rw[e];exact ext_new (by omega)))⟩;exact hO.stp s67 (by decide)
end
abbrev ZEt:Jo:=31
section
variable{w w':Y}{lab lab':Nat->Nat}{c cb:Nat}
def Z4u(w:Y)(lab:Nat->Nat)(cb:Nat)(vs:List Value)(ls:List By):Prop :=
 vs.length=ls.length/\∀(j:Nat)(hj:j<ls.length),∃ob kb,vs[j]?=J3 (G ob ls[j].length kb)/\CBy w lab cb ob ls[j]/\ls[j].length<=kb
theorem Z4u.stp{S:Nat->Prop}{vs:List Value}{ls:List By}(h:Z4u w lab cb vs ls)(s:Stp S w lab w' lab')(hs:¬S cb):Z4u w' lab' cb vs ls :=
 ⟨h.1,fun j hj=>by obtain⟨ob,kb,h3,h4,h5⟩:=h.2 j hj;exact⟨ob,kb,h3,h4.stp s hs,h5⟩⟩
theorem Z4u.push{vs:List Value}{ls:List By}{b:By}{ob:Option Addr}{kb:Nat}(H:Z4u w lab cb vs ls)(hb:CBy w lab cb ob b)(hk:b.length<=kb):Z4u w lab cb (vs++[G ob b.length kb]) (ls++[b]):=by
 have hv:=H.1;refine⟨by simp[hv],fun j hj=>?_⟩;rw[JC,JW]at hj;by_cases hl:j<ls.length
 ·rw[JR hl,JP (by omega)]
  exact H.2 j hl
 ·obtain rfl:j=ls.length:=by omega
  rw[JQ (J7 _)];simp only[Je,JT];refine⟨ob,kb,?_,hb,hk⟩;rw[JF (by omega),hv,Je];rfl
def Z4f(w:Y)(lab:Nat->Nat)(c cb:Nat)(ls:List By)(o:Option Addr)(n k:Nat):Prop :=
 n=ls.length/\∃vs,COw w lab c Zu 1 o n k vs/\Z4u w lab cb vs ls
theorem Z4f.nil(w:Y)(lab:Nat->Nat)(c cb:Nat):Z4f w lab c cb [] J 0 0:=⟨rfl,[],COw.nil w lab c _ _,rfl,fun j hj=>absurd hj (by simp)⟩
theorem Z4f.stp{S:Nat->Prop}{ls:List By}{o:Option Addr}{n k:Nat}(h:Z4f w lab c cb ls o n k)(s:Stp S w lab w' lab')(hs:¬S c)(hb:¬S cb):Z4f w' lab' c cb ls o n k:=by
 obtain⟨h1,vs,h2,h3⟩:=h;exact⟨h1,vs,h2.stp s hs,h3.stp s hb⟩
theorem Z4f.push{ls:List By}{o:Option Addr}{n k D:Nat}{b:By}{ob:Option Addr}{kb:Nat}(H:Z4f w lab c cb ls o n k)(hcb:cb≠c)(B:Blk w D Zu #[G ob b.length kb])(hb:CBy w lab cb ob b)(hk:b.length<=kb)(hl:ls.length<=2^20) :
  ∃o' k' w',JZ W (builtinV .append #[ZEt,ZEt] ZEt #[G o n k,G (J3 ⟨D,0,J⟩) 1 1]) w=.ok (G o' (n+1) k') w' /\
   Z4f w' (ext lab w.heap.size c) c cb (ls++[b]) o' (n+1) k'/\Stp (·=c) w lab w' (ext lab w.heap.size c):=by
 obtain⟨rfl,vs,hO,hC⟩:=H;obtain⟨i,hi,hz,hs,hbt⟩:=Z25 ZAC;obtain⟨o',k',w',h1,h2,h3⟩:=COw.append (ty:=ZEt) Z6x hi hz hs (by rfl) hO (Z5E Z6x B rfl (by simp[Value.oneCell'])) (by simp only[maxLen];omega) (by rw[hbt];omega);exact⟨o',k',w',h1,⟨by simp,_,h2,(hC.push hb hk).stp h3 hcb⟩,h3⟩
theorem Z3c{m cm cl:Nat}{l:List (By×By)}{h:By}(hM:ZAv w lab cm cl l m)(hh:h.length=32) :
  Ji W Z08.n #[.agg #[.map (J3 m),U J0],.agg (hashA h)] w (fun e w'=>Vcg.Mod NoB w w'/\(Z14 l h=J->e=JL (Z2o 160)) /\
   (∀b,Z14 l h=J3 b->∃o k,e=C (G o b.length k)/\CBy w lab cl o b/\b.length<=k)):=by
 refine ZG fun R hR=>Z08.vc _ _ _ _ _ ?_;unfold Z08.Vc;obtain⟨es,hA,hO⟩:=hM;rintro d3 w1⟨rfl,rfl⟩;have M1:=Mod.alloc (S:=NoB) w (I #[.map (J3 m),U J0] 69);have B1:=Blk.new w 69 #[.map (J3 m),U J0];generalize w.heap.size=D at *
 generalize w.alloc (I #[.map (J3 m),U J0] 69)=w1 at *
 rintro d5 w2⟨rfl,rfl⟩;have M12:=Mod.alloc (S:=NoB) w1 (I (hashA h) 27);have X2:=Blk.new w1 27 (hashA h);have B2:=B1.mod' M12;have M2:=M1.none_trans M12;generalize w1.heap.size=E at *
 generalize w1.alloc (I (hashA h) 27)=w2 at *
 have hA2:Z2K (fun _=>True) ZDq w2 m es:=hA.map.same (M2.block m hA.map.lt (fun h=>h));have hlook:=Z2K.look hA2 Z7O Z5o (ZAl w2) (k:=⟨h,hh⟩) trivial JN;rw[if_pos rfl]at hlook;have hf:=hO ⟨h,hh⟩;cases hn:Z14 l h with
 |none =>
  rw[hn]at hf;simp only at hf;rw[hf]at hlook;refine⟨_,B2.rd1 rfl,_,X2.rowAll (ZA _),_,hlook,_,_,_,_,rfl,fun _=>?_,fun h=>(by cases h)⟩;refine(Z1F w2 160).mono ?_;rintro e w3⟨rfl,he⟩;rw[if_neg (by decide)]at he;subst he;exact JE ⟨_,rfl,hR _ _ ⟨M2,fun _=>rfl,fun b hb=>(by rw[hn]at hb;cases hb)⟩⟩
 |some b =>
  rw[hn]at hf;obtain⟨ob,kb,hfa,hby,hkb⟩:=hf;rw[hfa]at hlook;refine⟨_,B2.rd1 rfl,_,X2.rowAll (ZA _),_,hlook,_,_,_,_,rfl,fun h=>(by cases h),fun _=>?_⟩;rintro _ rfl;have B3:=B2.drew;refine⟨J0,by rw[Z6];exact B3.rd1 rfl,fun h=>(by cases h),fun _=>hR _ _ ⟨M2.step_drew,fun h=>(by rw[hn]at h;cases h),fun b' hb'=>?_⟩⟩;rw[hn]at hb';cases hb';exact⟨ob,kb,rfl,hby,hkb⟩
def pStep(l:List (By×By))(out:List By)(h:By):List By×Except Int By:=match Z14 l h with
 |none=>(out,JB 160)
 |some b=>(out++[b],.ok b)
def ZH1(l:List (By×By))(dS dO m:Nat)(w:Y)(lab:Nat->Nat)(out:List By):Prop :=
 CB w lab 1 dS 69 #[.map (J3 m),U J0]/\ZAv w lab 9 0 l m/\∃o n k,CB w lab 7 dO ZEt #[G o n k]/\Z4f w lab 8 9 out o n k
theorem ZH1.stp{S:Nat->Prop}{l:List (By×By)}{dS dO m:Nat}{out:List By}(h:ZH1 l dS dO m w lab out)(s:Stp S w lab w' lab')(h0:¬S 0)(hS1:¬S 1)(h7:¬S 7)(h8:¬S 8)(h9:¬S 9):ZH1 l dS dO m w' lab' out:=by
 obtain⟨h1,h2,o,n,k,h3,h4⟩:=h;exact⟨h1.stp s hS1,h2.stp s h9 h0,o,n,k,h3.stp s h7,h4.stp s h8 h9⟩
theorem askP{l:List (By×By)}{dS dO m:Nat}(hb:∀x∈l,x.2.length<=2^30):ZGH (.func (.func 50) #[] #[J2 (J3 ⟨dS,0,J⟩),J2 (J3 ⟨dO,0,J⟩)]) (fun k=>k=7\/k=8) (ZH1 l dS dO m) (pStep l) (fun out n=>out.length+n<=2^20) where
 le h hm:=by omega
 s5:=by decide
 s6:=by decide
 stp h s:=h.stp s (by decide) (by decide) (by decide) (by decide) (by decide)
 run:=by
  intro w lab out h n hI hcan hh;refine⟨50,#[],_,rfl,by kernel_rfl,?_⟩;refine ZG fun R hR=>Z2Z.vc _ _ _ _ _ ?_;unfold Z2Z.Vc;rintro d3 w1⟨rfl,rfl⟩;have s1:Stp NoS w lab (w.alloc (I (hashA h) 27)) (ext lab w.heap.size 9):=Stp.alloc NoS w lab _ 9;have X1:=Blk.new w 27 (hashA h);have I1:=hI.stp s1 (fun h=>h) (fun h=>h) (fun h=>h) (fun h=>h) (fun h=>h);generalize w.heap.size=D3 at *
  generalize w.alloc (I (hashA h) 27)=w1 at *
  generalize ext lab D3 9=lab1 at *
  obtain⟨b1,hM,_⟩:=id I1;refine⟨_,_,b1.blk.rd1 rfl,by rw[Z6];exact b1.blk.rd1 rfl,_,X1.rowAll (ZA _),?_⟩;refine(Z3c hM hh).mono ?_;rintro e w2⟨M2,hnone,hsome⟩;have s2:Stp NoS w1 lab1 w2 (ext lab1 w1.heap.size 9):=Stp.of_nob M2 9;have I2:=I1.stp s2 (fun h=>h) (fun h=>h) (fun h=>h) (fun h=>h) (fun h=>h);cases hf:Z14 l h with
  |none =>
   have he:=hnone hf;subst he;refine JE ⟨_,rfl,hR _ _ ⟨_,(s1.trans s2).mono (fun _ h=>h.elim),?_,?_,fun er her=>?_,fun b hb=>?_⟩⟩
   ·unfold pStep;rw[hf];exact I2
   ·unfold pStep;rw[hf];show out.length+n<=_;omega
   ·unfold pStep at her;rw[hf]at her
    simp only[Except.error.injEq]at her;subst her;exact⟨rfl,by decide⟩
   ·unfold pStep at hb;rw[hf]at hb;cases hb
  |some b =>
   obtain⟨ob,kb,rfl,hby,hkb⟩:=hsome b hf;have hby2:=hby.stp s2 (fun h=>h);have s02:=s1.trans s2;generalize ext lab1 w1.heap.size 9=lab2 at *
   refine J8 ⟨_,_,_,rfl,?_⟩;rintro _ rfl;have s3:Stp NoS w2 lab2 w2.drew lab2:=Stp.drew _ _ _;have I3:=I2.stp s3 (fun h=>h) (fun h=>h) (fun h=>h) (fun h=>h) (fun h=>h);have hby3:=hby2.stp s3 (fun h=>h);have s03:=s02.trans s3;generalize w2.drew=w3 at *
   obtain⟨_,_,o,nn,k,bO,hO⟩:=id I3
   have hbl:b.length<=2^30:=by
    have:∀(l:List (By×By)),(∀x∈l,x.2.length<=2^30)->Z14 l h=J3 b->b.length<=2^30:=by
     intro l
     induction l with
     |nil=>intro _ h;cases h
     |cons x r ih =>
      intro hb hf;simp only[Z14]at hf;split at hf
      ·cases hf;exact hb x (by simp)
      ·exact ih (fun y hy=>hb y (by simp[hy])) hf
    exact this l hb hf
   refine⟨_,_,_,bO.blk.rd1 rfl,?_⟩;refine(Z1z hby3.rd (by omega)).mono ?_;rintro _ w4⟨o4,k4,rfl,F4⟩;have s4:Stp NoS w3 lab2 w4 (ext lab2 w3.heap.size 9):=Stp.of_nob F4.mod 9;have I4:=I3.stp s4 (fun h=>h) (fun h=>h) (fun h=>h) (fun h=>h) (fun h=>h);have hby4:=hby3.stp s4 (fun h=>h);have hcl4:CBy w4 (ext lab2 w3.heap.size 9) 9 o4 b:=Z2q F4 (Mod.refl _);have bO4:=bO.stp s4 (fun h=>h);have s04:=s03.trans s4;generalize ext lab2 w3.heap.size 9=lab4 at *
   refine J8 ⟨_,_,_,rfl,bO4.blk.rd1 rfl,?_⟩;rintro d22 w5⟨rfl,rfl⟩;have s5:Stp NoS w4 lab4 (w4.alloc (I #[G o4 b.length k4] 23)) (ext lab4 w4.heap.size 9):=Stp.alloc NoS w4 lab4 _ 9;have N5:=Blk.new w4 23 #[G o4 b.length k4];have I5:=I4.stp s5 (fun h=>h) (fun h=>h) (fun h=>h) (fun h=>h) (fun h=>h);have hby5:=hby4.stp s5 (fun h=>h);have hcl5:=hcl4.stp s5 (fun h=>h);have bO5:=bO4.stp s5 (fun h=>h);have hO5:=(hO.stp s4 (fun h=>h) (fun h=>h)).stp s5 (fun h=>h) (fun h=>h);have s05:=s04.trans s5;generalize w4.heap.size=D5 at *
   generalize w4.alloc (I #[G o4 b.length k4] 23)=w5 at *
   generalize ext lab4 D5 9=lab5 at *
   refine⟨bO5.blk.rd1 rfl,?_⟩;obtain⟨o6,k6,w6,hr6,hO6,s6⟩:=hO5.push (by decide) N5 hcl5 F4.own.cap.1 (by omega);have hby6:=hby5.stp s6 (by decide);have bO6:=bO5.stp s6 (by decide);obtain⟨bS5,hM5,_⟩:=I5;have bS6:=bS5.stp s6 (by decide);have hM6:=hM5.stp s6 (by decide) (by decide);generalize ext lab5 w5.heap.size 8=lab6 at *
   refine⟨_,w6,hr6,_,_,_,rfl,bO6.blk.canSet (by simp) rfl,?_⟩;rintro _ rfl;have s7:Stp (·=7) w6 lab6 (w6.setCell ⟨dO,0,J⟩ (G o6 (nn+1) k6)) lab6:=Stp.setCell bO6.clr;have hby7:=hby6.stp s7 (by decide);refine hR _ _ ⟨lab6,((s05.mono (fun _ h=>h.elim)).trans (s6.mono (fun _ h=>J8 h))).trans (s7.mono (fun _ h=>JE h)),?_,?_,fun er her=>?_,fun b' hb'=>?_⟩
   ·unfold pStep;rw[hf]
    exact⟨bS6.stp s7 (by decide),hM6.stp s7 (by decide) (by decide),o6,nn+1,k6,bO6.set 0 _,hO6.stp s7 (by decide) (by decide)⟩
   ·unfold pStep;rw[hf];show(out++[b]).length+n<=_;rw[JC,JW];omega
   ·unfold pStep at her;rw[hf]at her;cases her
   ·unfold pStep at hb';rw[hf]at hb'
    cases hb';exact⟨ob,kb,rfl,hby7.rd,hkb⟩
end
def behind:Option Code->Code
 |some (.seq _ c)=>c
 |_=>.skip
def Z6L(d0:Addr)(n:Int)(w:Y)(R:JJ->Y->Prop):Prop :=
 ∃v10:Value,JZ W (Instr.typeAssert (.iface 127 (.agg #[(.int J5 n)])) 20 127 JN) w=.ok v10 w /\
 ∃n11:Int,∃b12:Bool,v10=(J6 #[(.agg #[(.int J5 n11)]),(U b12)]) /\
 (((b12=JN ->
   ∀(d13:Addr)(w14:Y),ZB w 127 #[(.int J5 0)] d13 w14 ->
   Z1 w14 d13 (.int J5 n11)/\∀w15:Y,Z8 w14 d13 (.int J5 n11) w15 ->
   ∃n16:Int,J4 w15 d13=J3 (.int J5 n16) /\
   Z1 w15 d0 (.int J5 n16)/\∀w17:Y,Z8 w15 d0 (.int J5 n16) w17 ->
   R (C (J6 #[])) w17)) /\
  ((b12=J0 ->
   R (JL (ZEP (.iface 127 (.agg #[(.int J5 n)])))) w)))
def Z8v(R:JJ->Y->Prop):Kont pC:={ nrm:=fun _ w=>R (C (J6 #[])) w,exit:=fun _ _ _=>False,ret:=fun _ w=>R (C (J6 #[])) w }
theorem ZB2(d0:Addr)(n:Int)(w:Y)(R:JJ->Y->Prop):Z6L d0 n w R=Z85 (pA W ⟨R,JN⟩) W [] (behind Tryz.f32.body) (Z1Y 0 [.addr d0,.tup [],.tup [],.tup [],.tup [],.iface 127 (.agg [.int J5 n])]) w (Z8v R):=by kernel_rfl
theorem Z9o(d0:Addr)(w:Y)(R:JJ->Y->Prop):R (C (J6 #[])) w=Z85 (pA W ⟨R,JN⟩) W [] (behind Tryz.f32.body) (Z1Y 0 [.addr d0,.tup [],.tup [],.tup [],.tup [],.nilIface]) w (Z8v R):=by kernel_rfl
theorem Z9p:Z1J 15 (behind Tryz.f32.body)=JN:=by kernel_rfl
theorem ZDe(n:Int)(w:Y):JZ W (Instr.typeAssert (.iface 127 (.agg #[(.int J5 n)])) 20 127 JN) w=.ok (J6 #[.agg #[.int J5 n],U JN]) w:=by kernel_rfl
def ZAQ(post:Y->Prop):JJ->Y->Prop
 | C _,w'=>post w'
 | JL _,_=>False
 | .outgrown,_=>False
theorem ZFX{post:Y->Prop}{ch:List Jb}{w:Y}{b:Prop}(h:ZAQ post (JL ch) w):b:=False.elim h
theorem ZGQ{post:Y->Prop}{ch:List Jb}{w:Y}{b:Prop}(h:(Z6I.mk (ZAQ post) JN).fin (JL ch) w):b:=ZFX (post:=post) (ch:=ch) (w:=w) h
theorem Z42{P:Program}{fn:Func}{c₀:Frame}{cs cs':List Frame}{R:JJ->FrameMode->Y->Prop}{ch:List Jb}{a a':Act}{w:Y}(hd:a.defers=a'.defers)(h:bodyPostS P fn c₀ cs R (.panic ch) a cs' w):bodyPostS P fn c₀ cs R (.panic ch) a' cs' w:=⟨hd ▸ h.1,h.2⟩
theorem Z2G(tmps:Array Value)(w:Y):(results Tryz.f32 tmps).run W w=.ok (J6 #[]) w:=by
 simp[results,Tryz.results74]
theorem ZHZ{v0 v5:Value}:(#[v0]++(JM 14 undef).setIfInBounds 4 v5).size=15:=by
 rw[Array.size_append,Array.size_setIfInBounds,Array.size_replicate];rfl
theorem rep15{v0 v5:Value}{sv0 sv5:SV pC}(h0:toV sv0=v0)(h5:toV sv5=v5):Rep (Z1Y 0 [sv0,.tup [],.tup [],.tup [],.tup [],sv5]) ({ tmps:=#[v0]++(JM 14 undef).setIfInBounds 4 v5,defers:=[] }:Act):=by
 intro k;rw[Z4F,if_pos (JY _),Jl]
 have e1:toVs [sv0,.tup [],.tup [],.tup [],.tup [],sv5]=[v0,undef,undef,undef,undef,v5]:=by
  simp only[toVs,h0,h5];rfl
 have e2:(#[v0]++(JM 14 undef).setIfInBounds 4 v5).toList=[v0,undef,undef,undef,undef,v5,undef,undef,undef,undef,undef,undef,undef,undef,undef]:=by
  rw[Array.toList_append,Array.toList_setIfInBounds,Array.toList_replicate];rfl
 rw[e1,Array.getD_eq_getD_getElem?,<-JK,e2,JO];by_cases hk:k<6
 ·have:k=0\/k=1\/k=2\/k=3\/k=4\/k=5:=by omega
  rcases this with rfl|rfl|rfl|rfl|rfl|rfl<;>rfl
 ·have e3:[v0,undef,undef,undef,undef,v5,undef,undef,undef,undef,undef,undef,undef,undef,undef]=[v0,undef,undef,undef,undef,v5]++List.replicate 9 undef:=rfl
  have e4:([v0,undef,undef,undef,undef,v5]:List Value)[k]?=J:=JX (by simp only[JG,JV];omega);rw[e4,e3,JF (by simp only[JG,JV];omega),List.getElem?_replicate];split<;>rfl
theorem Z9q{Q:Exit->Act->Y->Prop}{D:Nat}{v5:Value}{sv5:SV pC}{post:Y->Prop}{w:Y}(h5:toV sv5=v5)
  (h:Z85 (pA W ⟨ZAQ post,JN⟩) W [] (behind Tryz.f32.body) (Z1Y 0 [.addr ⟨D,0,J⟩,.tup [],.tup [],.tup [],.tup [],sv5]) w (Z8v (ZAQ post)))
  (hQ:∀ch(a a':Act) w,a.defers=a'.defers->Q (.panic ch) a w->Q (.panic ch) a' w) (h1:∀(a':Act) w',a'.defers=[]->post w'->Q .normal a' w') (h2:∀(a':Act) w',a'.defers=[]->post w'->Q .ret a' w') :
  (behind Tryz.f32.body).wp W Q { tmps:=#[J2 (J3 ⟨D,0,J⟩)]++(JM 14 undef).setIfInBounds 4 v5,defers:=[] } w :=
 Z61 (R:=⟨ZAQ post,JN⟩) (ann:=[]) ZO (n:=15) (behind Tryz.f32.body) (Zj (behind Tryz.f32.body)) _ _ w (Z8v (ZAQ post)) Q (rep15 (sv0:=.addr ⟨D,0,J⟩) (sv5:=sv5) rfl h5) ZHZ Z9p (fun _ h=>h) (fun ch a a' w hd _ hq=>hQ ch a a' w hd hq) (fun ch a' w' hd hk hf=>ZGQ hf) h
  { nrm:=fun env' a' w' _ _ h3 _ h5=>h1 a' w' h3 h5
    exit:=fun i env' a' w' _ _ _ _ h5=>h5.elim
    ret:=fun env' a' w' _ _ h3 _ h5=>h2 a' w' h3 h5 }
set_option maxRecDepth 20000 in
theorem Z44{D:Nat}{t:Jo}{v:Value}{n:Int}{w:Y}(B:Blk w D t #[v]) :
  CallsD W 32 #[J2 (J3 ⟨D,0,J⟩)] (Jd (Z2o n)) w (fun e u' w'=>e=C (J6 #[])/\u'=Jd [{ v:=.iface 127 (.agg #[.int J5 n]),recovered:=JN }]/\Blk w' D t #[.int J5 n]/\Vcg.Mod (·=D) w w'):=by
 have hcf:Z6L ⟨D,0,J⟩ n w (ZAQ fun w'=>Blk w' D t #[.int J5 n]/\Vcg.Mod (·=D) w w'):=by
  refine⟨_,ZDe n w,n,JN,rfl,fun _=>?_,fun h=>(by cases h)⟩;rintro d w1⟨rfl,rfl⟩;have F:=Blk.new w 127 #[.int J5 0];have M1:=Mod.alloc (S:=(·=D)) w (I #[.int J5 0] 127);have hD:=B.lt;have B1:=B.mod (Mod.alloc (S:=NoB) w (I #[.int J5 0] 127)) (fun h=>h);refine⟨F.canSet (by simp) rfl,?_⟩;rintro _ rfl;have F2:=F.set 0 (.int J5 n);have B2:=B1.set_ne (a:=⟨w.heap.size,0,J⟩) (v:=.int J5 n) (by show D≠w.heap.size;omega);have M2:Vcg.Mod (·=D) w _:=M1.trans (Mod.setCell (w.alloc (I #[.int J5 0] 127)) ⟨w.heap.size,0,J⟩ (.int J5 n)) (fun i hi e=>by have he:i=w.heap.size:=e;omega);refine⟨n,F2.rd1 rfl,B2.canSet (by simp) rfl,?_⟩;rintro _ rfl;exact⟨B2.set 0 _,M2.step_set (a:=⟨D,0,J⟩) (fun _=>rfl)⟩
 have h:=Eq.mp (ZB2 ⟨D,0,J⟩ n w _) hcf;clear hcf;refine Jk Jn rfl fun c₀ cs hu=>?_;apply wpS_seq;apply wpS_region;simp[wpOpsS,go_sem,recoverD,hu,Jm,Exit.thenS];refine wpS_of_wp (Z9q (post:=fun w'=>Blk w' D t #[.int J5 n]/\Vcg.Mod (·=D) w w') (sv5:=.iface 127 (.agg [.int J5 n])) rfl h (fun ch a a' w hd hq=>Z42 hd hq) ?_ ?_)
 ·exact fun a' w' hd hr=>⟨hd,_,rfl,_,Z2G _ _,rfl,rfl,hr.1,hr.2⟩
 ·exact fun a' w' hd hr=>⟨hd,_,rfl,_,Z2G _ _,rfl,rfl,hr.1,hr.2⟩
set_option maxRecDepth 20000 in
theorem Z4y{D:Nat}{w:Y} :
  CallsD W 32 #[J2 (J3 ⟨D,0,J⟩)] JD w (fun e u' w'=>e=C (J6 #[])/\u'=JD/\w'=w):=by
 have h:=Eq.mp (Z9o ⟨D,0,J⟩ w (ZAQ fun w'=>w'=w)) rfl;refine Jk Jn rfl fun c₀ cs hu=>?_;apply wpS_seq;apply wpS_region;simp[wpOpsS,go_sem,recoverD,hu,Jm,Exit.thenS];refine wpS_of_wp (Z9q (post:=fun w'=>w'=w) (sv5:=.nilIface) rfl h (fun ch a a' w hd hq=>Z42 hd hq) ?_ ?_)
 ·exact fun a' w' hd hr=>⟨hd,JD,by rw[<-hu],_,Z2G _ _,rfl,rfl,hr⟩
 ·exact fun a' w' hd hr=>⟨hd,JD,by rw[<-hu],_,Z2G _ _,rfl,rfl,hr⟩
def Z5a(l:List (By×By))(root key:By):Except Int (List By) :=
 if l.length>4096 then JB 162 else if key.length>64 then JB 140 else
 match way (pStep l) [] (rootIt root) (nibbles key)with
 |(out,.ok _)=>.ok out
 |(_,JB e)=>JB e
def ZAs(l:List (By×By))(root key:By)(w:Y)(e:JJ)(w':Y):Prop :=
 Vcg.Mod NoB w w'/\match Z5a l root key with
  | JB er=>er≠0/\e=C (J6 #[G J 0 0,.int J5 er])
  | .ok out=>∃o n k,e=C (J6 #[G o n k,.int J5 0])/\∃lab' c cb,Z4f w' lab' c cb out o n k
def lab8(N:Nat):Nat->Nat:=fun k=>if k=N+1 then 7 else if N<=k then 1 else 0
theorem ZCE{N k:Nat}(h:k<N):lab8 N k=0:=by unfold lab8;rw[if_neg (by omega),if_neg (by omega)]
theorem ZBK{R:JJ->Y->Prop}{rt:Y->Prop}{dE dO:Nat}{n n0:Int}{o:Option Addr}{l k:Nat}{w:Y}(hn:n≠0)(hne:dE≠dO)(E:Blk w dE 40 #[.int J5 n0])(O:Blk w dO 31 #[G o l k])
  (K:∀w',Blk w' dE 40 #[.int J5 n]->Blk w' dO 31 #[G J 0 0]->Vcg.Mod (fun b=>b=dE\/b=dO) w w'->rt w') :
  Z2m W rt R [(32,#[J2 (J3 ⟨dE,0,J⟩)]),(48,#[J2 (J3 ⟨dE,0,J⟩),J2 (J3 ⟨dO,0,J⟩)])] (Jd (Z2o n)) w:=by
 refine⟨fun h=>(by cases h),(Z44 E).mono ?_⟩;rintro _ _ w1⟨rfl,rfl,E1,M1⟩;have O1:=O.mod M1 (fun h=>hne h.symm);refine⟨fun h=>(by cases h),?_⟩;refine(Z13.vcd JD _ _ w1 (fun e w'=>e=C (J6 #[])/\Blk w' dE 40 #[.int J5 n]/\Blk w' dO 31 #[G J 0 0]/\Vcg.Mod (·=dO) w1 w') ?_).mono ?_
 ·unfold Z13.Vc
  refine⟨n,E1.rd1 rfl,fun _=>⟨O1.canSet (by simp) rfl,?_⟩,fun h=>(hn h).elim⟩;rintro _ rfl;exact⟨rfl,E1.set_ne (by exact hne),O1.set 0 _,Mod.setCell w1 ⟨dO,0,J⟩ _⟩
 ·rintro _ _ w2⟨rfl,rfl,E2,O2,M2⟩
  exact K w2 E2 O2 ((M1.mono (fun _ _ h=>JE h)).trans M2 (fun _ _ h=>J8 h))
theorem ZD5{R:JJ->Y->Prop}{rt:Y->Prop}{dE dO:Nat}{w:Y}(E:Blk w dE 40 #[.int J5 0])(K:rt w) :
  Z2m W rt R [(32,#[J2 (J3 ⟨dE,0,J⟩)]),(48,#[J2 (J3 ⟨dE,0,J⟩),J2 (J3 ⟨dO,0,J⟩)])] JD w:=by
 refine⟨fun h=>(by cases h),Z4y.mono ?_⟩;rintro _ _ w1⟨rfl,rfl,rfl⟩;refine⟨fun h=>(by cases h),?_⟩;refine(Z13.vcd JD _ _ w1 (fun e w'=>e=C (J6 #[])/\w'=w1) ?_).mono ?_
 ·unfold Z13.Vc
  exact⟨0,E.rd1 rfl,fun h=>(h rfl).elim,fun _=>⟨rfl,rfl⟩⟩
 ·rintro _ _ w2⟨rfl,rfl,rfl⟩
  exact K
theorem ZAt{w:Y}{lab:Nat->Nat}{c:Nat}{l:List (By×By)}{o ok:Option Addr}{k kk:Nat}{root key:By}(h:Z0m w lab c l o l.length)(hlen:l.length<=2^40)(hb:∀x∈l,x.2.length<=2^30)(hroot:root.length=32)(hkey:RdB w ok key) :
  Ji W Z1e.n #[G o l.length k,.agg (hashA root),G ok key.length kk] w (ZAs l root key w):=by
 refine ZG fun R hR=>Z1e.vc _ _ _ _ _ _ _ _ _ ?_;unfold Z1e.Vc;have hN:Z0m w (lab8 w.heap.size) 0 l o l.length:=Z0m.re h (fun k hk _=>ZCE hk);rintro d3 w1⟨rfl,rfl⟩;have M1:=Mod.alloc (S:=NoB) w (I (hashA root) 27);have X1:=Blk.new w 27 (hashA root);have z1:=ZC w (I (hashA root) 27);generalize hNe:w.heap.size=N at *
 generalize w.alloc (I (hashA root) 27)=w1 at *
 rintro d5 w2⟨rfl,rfl⟩;have M12:=Mod.alloc (S:=NoB) w1 (I #[G J 0 0] 31);have O2:=Blk.new w1 31 #[G J 0 0];have z2:=ZC w1 (I #[G J 0 0] 31);have X2:=X1.mod' M12;have M2:=M1.none_trans M12;rw[z1]at O2 z2 ⊢;generalize w1.alloc (I #[G J 0 0] 31)=w2 at *
 rintro d7 w3⟨rfl,rfl⟩;have M23:=Mod.alloc (S:=NoB) w2 (I #[.int J5 0] 40);have E3:=Blk.new w2 40 #[.int J5 0];have z3:=ZC w2 (I #[.int J5 0] 40);have X3:=X2.mod' M23;have O3:=O2.mod' M23;have M3:=M2.none_trans M23;rw[z2]at E3 z3 ⊢;generalize w2.alloc (I #[.int J5 0] 40)=w3 at *
 have s3:Stp NoS w (lab8 N) w3 (lab8 N):=⟨M3.os,M3.tape,M3.output,M3.size,fun _ _=>rfl,fun q hq _=>M3.block q hq (fun h=>h)⟩;have hN3:=hN.stp s3 (fun h=>h);have lO:lab8 N (N+1)=7:=if_pos rfl;have lX:lab8 N N=1:=by unfold lab8;rw[if_neg (by omega),if_pos (J7 _)]
 have lE:lab8 N (N+1+1)=1:=by unfold lab8;rw[if_neg (by omega),if_pos (by omega)]
 refine(Z6d (k:=k) (held:=J0) hN3 hlen).mono ?_;rintro e w4⟨M4,hbig,hsmall⟩;have s34:Stp NoS w3 (lab8 N) w4 (ext (lab8 N) w3.heap.size 9):=Stp.of_nob M4 9;have M04:=M3.none_trans M4;have z4:=M4.size
 obtain⟨m11,b12,n13,rfl,hcase⟩:∃m11 b12 n13,e=C (J6 #[.agg #[.map m11,U b12],.int J5 n13])/\((n13=162/\l.length>4096)\/(n13=0/\l.length<=4096/\b12=J0/\∃m,m11=J3 m/\ZAv w4 (ext (lab8 N) w3.heap.size 9) 9 0 l m)):=by
  by_cases hl:l.length>4096
  ·exact⟨_,_,_,hbig hl,JE ⟨rfl,hl⟩⟩
  ·obtain⟨m,he,hm⟩:=hsmall (by omega)
   exact⟨_,_,_,he,J8 ⟨rfl,by omega,rfl,m,rfl,hm⟩⟩
 have X4:CB w4 (ext (lab8 N) w3.heap.size 9) 1 N 27 (hashA root):=(CB.mk X3 lX).stp s34 (fun h=>h);have O4:CB w4 (ext (lab8 N) w3.heap.size 9) 7 (N+1) 31 #[G J 0 0]:=(CB.mk O3 lO).stp s34 (fun h=>h);have E4:CB w4 (ext (lab8 N) w3.heap.size 9) 1 (N+1+1) 40 #[.int J5 0]:=(CB.mk E3 lE).stp s34 (fun h=>h)
 have hlab4:∀b,ext (lab8 N) w3.heap.size 9 b=5\/ext (lab8 N) w3.heap.size 9 b=7\/ext (lab8 N) w3.heap.size 9 b=8->N<=b:=by
  intro b hb;refine Nat.le_of_not_lt fun hlt=>?_;rw[Z23 (by omega),ZCE hlt]at hb;omega
 clear hbig hsmall X3 O3 E3 hN3 s34 s3;generalize ext (lab8 N) w3.heap.size 9=lab4 at *
 refine J8 ⟨_,_,_,rfl,?_⟩;rintro d14 w5⟨rfl,rfl⟩;have s45:Stp NoS w4 lab4 (w4.alloc (I #[.map J,U J0] 69)) (ext lab4 w4.heap.size 1):=Stp.alloc NoS w4 lab4 _ 1;have M45:=Mod.alloc (S:=NoB) w4 (I #[.map J,U J0] 69);have D5:=CB.new w4 lab4 1 69 #[.map J,U J0];have X5:=X4.stp s45 (fun h=>h);have O5:=O4.stp s45 (fun h=>h);have E5:=E4.stp s45 (fun h=>h)
 have hlab5:∀b,ext lab4 w4.heap.size 1 b=5\/ext lab4 w4.heap.size 1 b=7\/ext lab4 w4.heap.size 1 b=8->N<=b:=by
  intro b hb;by_cases hlt:b<w4.heap.size
  ·rw[Z23 hlt]at hb;exact hlab4 b hb
  ·omega
 have M05:=M04.none_trans M45;have hD:N+1+1<w4.heap.size:=by omega
 generalize w4.heap.size=D at *
 generalize w4.alloc (I #[.map J,U J0] 69)=w5 at *
 generalize ext lab4 D 1=lab5 at *
 refine⟨D5.blk.canSet (by simp) rfl,?_⟩;rintro _ rfl;have D6:=D5.set 0 (.map m11);have Q6:Vcg.Mod (·=D) w5 _:=Mod.setCell w5 ⟨D,0,J⟩ (.map m11);rw[Z6,J9];refine⟨D6.blk.canSet (by simp) rfl,?_⟩;rintro _ rfl;have D7:=D6.set 1 (U b12);have Q7:=Q6.step_set (a:=⟨D,1,J⟩) (v:=U b12) (fun _=>rfl);have s57:Stp (·=1) w5 lab5 _ lab5:=⟨Q7.os,Q7.tape,Q7.output,Q7.size,fun _ _=>rfl,fun q hq hn=>Q7.block q hq (fun e=>hn (by rw[e];exact D5.clr))⟩;have E7:=E5.blk.mod Q7 (by omega);have X7:=X5.blk.mod Q7 (by omega);have O7:=O5.stp s57 (by decide);generalize((w5.setCell ⟨D,0,J⟩ (.map m11)).setCell ⟨D,1,J⟩ (U b12))=w7 at *
 refine⟨E7.canSet (by simp) rfl,?_⟩;rintro _ rfl;have E8:=E7.set 0 (.int J5 n13);have Q8:Vcg.Mod (·=N+1+1) w7 _:=Mod.setCell w7 ⟨N+1+1,0,J⟩ (.int J5 n13);have s78:Stp (·=1) w7 lab5 _ lab5:=⟨Q8.os,Q8.tape,Q8.output,Q8.size,fun _ _=>rfl,fun q hq hn=>Q8.block q hq (fun e=>hn (by rw[e];exact E5.clr))⟩;have X8:=X7.mod Q8 (by omega);have O8:=O7.stp s78 (by decide);have D8:CB (w7.setCell ⟨N+1+1,0,J⟩ (.int J5 n13)) lab5 1 D 69 #[.map m11,U b12]:=⟨D7.blk.mod Q8 (by omega),D7.clr⟩;have M08:Vcg.Mod NoB w _:=ZK (ZK M05 Q7 (by omega)) Q8 (by omega);have E8c:CB (w7.setCell ⟨N+1+1,0,J⟩ (.int J5 n13)) lab5 1 (N+1+1) 40 #[.int J5 n13]:=⟨E8,E5.clr⟩;have s48:=(s45.mono (T:=fun k=>k=1) (fun _ h=>h.elim)).trans (s57.trans s78);generalize w7.setCell ⟨N+1+1,0,J⟩ (.int J5 n13)=w8 at *
 refine⟨_,E8.rd1 rfl,fun hne=>?_,fun h0=>?_⟩
 ·obtain⟨rfl,hl⟩:=hcase.resolve_right (fun h=>hne h.1)
  rintro _ rfl;have E9:=E8.drew;have O9:=O8.blk.drew;have M09:=M08.step_drew;refine⟨_,E9.rd1 rfl,O9.canSet (by simp) rfl,?_⟩;rintro _ rfl;have O10:=O9.set 0 (G J 0 0);have E10:=E9.set_ne (a:=⟨N+1,0,J⟩) (v:=G J 0 0) (by show N+1+1≠N+1;omega);have M10:Vcg.Mod NoB w _:=ZK M09 (Mod.setCell w8.drew ⟨N+1,0,J⟩ (G J 0 0)) (by show w.heap.size<=N+1;omega);refine⟨E10.rd1 rfl,E10.canSet (by simp) rfl,?_⟩;rintro _ rfl;have E11:=E10.set 0 (.int J5 162);have O11:=O10.set_ne (a:=⟨N+1+1,0,J⟩) (v:=.int J5 162) (by show N+1≠N+1+1;omega);refine⟨_,_,_,O11.rd1 rfl,_,E11.rd1 rfl,hR _ _ ⟨ZK M10 (Mod.setCell _ ⟨N+1+1,0,J⟩ (.int J5 162)) (by show w.heap.size<=N+1+1;omega),?_⟩⟩;unfold Z5a;rw[if_pos hl];exact⟨by decide,rfl⟩
 ·obtain⟨rfl,hl,rfl,m,rfl,hSM⟩:=hcase.resolve_left (fun h=>by rw[h.1]at h0;exact absurd h0 (by decide))
  refine⟨fun hk=>?_,fun hk=>?_⟩
  ·refine⟨O8.blk.canSet (by simp) rfl,?_⟩
   rintro _ rfl;have O10:=O8.blk.set 0 (G J 0 0);have E10:=E8.set_ne (a:=⟨N+1,0,J⟩) (v:=G J 0 0) (by show N+1+1≠N+1;omega);have M10:Vcg.Mod NoB w _:=ZK M08 (Mod.setCell w8 ⟨N+1,0,J⟩ (G J 0 0)) (by show w.heap.size<=N+1;omega);refine⟨E10.canSet (by simp) rfl,?_⟩;rintro _ rfl;have E11:=E10.set 0 (.int J5 140);have O11:=O10.set_ne (a:=⟨N+1+1,0,J⟩) (v:=.int J5 140) (by show N+1≠N+1+1;omega);refine⟨_,_,_,O11.rd1 rfl,_,E11.rd1 rfl,hR _ _ ⟨ZK M10 (Mod.setCell _ ⟨N+1+1,0,J⟩ (.int J5 140)) (by show w.heap.size<=N+1+1;omega),?_⟩⟩;unfold Z5a;rw[if_neg (by omega),if_pos (by omega)];exact⟨by decide,rfl⟩
  ·refine⟨_,X8.rowAll (ZA _),?_⟩
   have hI:ZH1 l D (N+1) m w8 lab5 []:=⟨D8,hSM.stp s48 (by decide) (by decide),J,0,0,O8,Z4f.nil _ _ _ _⟩;refine(ZAj (askP (dS:=D) (dO:=N+1) (m:=m) hb) hI (by simp) hroot (hkey.mod' M08) (by omega)).mono ?_;rintro e w9⟨lab9,s89,I9,hw⟩
   have hpr:Z5a l root key=(match way (pStep l) [] (rootIt root) (nibbles key)with
     |(out,.ok _)=>.ok out
     |(_,JB e)=>JB e):=by
    unfold Z5a;rw[if_neg (by omega),if_neg (by omega)]
   have E9:=E8c.stp s89 (by decide);obtain⟨_,_,o9,n9,k9,O9,L9⟩:=I9;have M89:Vcg.Mod (fun b=>N<=b) w8 w9:=s89.mod (fun q hq hs=>hlab5 q hs);have M09:Vcg.Mod NoB w w9:=M08.trans M89 (fun i hi h=>by omega);generalize way (pStep l) [] (rootIt root) (nibbles key)=res at hw hpr L9;obtain⟨out,r⟩:=res;cases r with
   |error er =>
    obtain⟨rfl,hne⟩:=hw;refine JE ⟨_,rfl,ZBK hne (by omega) E9.blk O9.blk (fun w10 E10 O10 M10=>?_)⟩;refine⟨_,_,_,O10.rd1 rfl,_,E10.rd1 rfl,hR _ _ ⟨M09.trans M10 (fun i hi h=>by omega),?_⟩⟩;rw[hpr];exact⟨hne,rfl⟩
   |ok v =>
    obtain⟨ov,kv,rfl,hv⟩:=hw;refine J8 ⟨_,_,_,_,rfl,_,_,_,O9.blk.rd1 rfl,O9.blk.canSet (by simp) rfl,?_⟩;rintro _ rfl;have O10:=O9.set 0 (G o9 n9 k9);have s910:Stp (·=7) w9 lab9 _ lab9:=Stp.setCell (a:=⟨N+1,0,J⟩) (v:=G o9 n9 k9) O9.clr;have L10:=L9.stp s910 (by decide) (by decide);have E10:=E9.stp s910 (by decide);have M10:Vcg.Mod NoB w _:=ZK M09 (Mod.setCell w9 ⟨N+1,0,J⟩ (G o9 n9 k9)) (by show w.heap.size<=N+1;omega);refine⟨E10.blk.canSet (by simp) rfl,?_⟩;rintro _ rfl;have E11:=E10.set 0 (.int J5 0);have s1011:Stp (·=1) (w9.setCell ⟨N+1,0,J⟩ (G o9 n9 k9)) lab9 _ lab9:=Stp.setCell (a:=⟨N+1+1,0,J⟩) (v:=.int J5 0) E10.clr;have L11:=L10.stp s1011 (by decide) (by decide);have O11:=O10.stp s1011 (by decide);refine ZD5 E11.blk ⟨_,_,_,O11.blk.rd1 rfl,_,E11.blk.rd1 rfl,hR _ _ ⟨ZK M10 (Mod.setCell _ ⟨N+1+1,0,J⟩ (.int J5 0)) (by show w.heap.size<=N+1+1;omega),?_⟩⟩;rw[hpr];exact⟨o9,n9,k9,rfl,lab9,8,9,L11⟩
theorem ZDl{Z:Array Value}{b:By}(hZ:Z.size=32)(hb:b.length=32):setsAt Z 0 ((b.take 32).map bV)=hashA b:=by
 have ht:b.take 32=b:=List.take_of_length_le (by omega);rw[ht];apply Array.ext_getElem?;intro i;rw[Zq _ _ _ _ (by simp[hb,hZ])];by_cases hi:i<32
 ·rw[if_pos ⟨JY _,by simp[hb];exact hi⟩,Jl]
  simp only[hashA];rw[ZE hi];simp[JO,hb,hi]
 ·rw[if_neg (by simp[hb];omega),JU (by omega),JU (by rw[ZA];omega)]
section
variable{w:Y}{lab:Nat->Nat}{c:Nat}
end
theorem ZDC{l:List (By×By)}{root key:By}(h1:¬l.length>4096)(h2:¬key.length>64):Z5a l root key=(match way (pStep l) [] (rootIt root) (nibbles key)with
  |(out,.ok _)=>.ok out
  |(_,JB e)=>JB e):=by
 unfold Z5a;exact(if_neg h1).trans (if_neg h2)
def ZDY(w:Y)(lab:Nat->Nat)(c:Nat)(ls:List By)(o:Option Addr):Prop :=
 ∀(j:Nat)(hj:j<ls.length),∃g f ob kb,o=J3 ⟨g,f,J⟩/\g<w.heap.size/\lab g=c/\w.cell? ⟨g,f+j,J⟩=J3 (G ob ls[j].length kb)/\CBy w lab c ob ls[j]/\ls[j].length<=kb
section
variable{w w':Y}{lab lab':Nat->Nat}{c:Nat}{ls:List By}{o:Option Addr}
theorem ZDY.stp{S:Nat->Prop}(h:ZDY w lab c ls o)(s:Stp S w lab w' lab')(hs:¬S c):ZDY w' lab' c ls o:=fun j hj=>by
 obtain⟨g,f,ob,kb,h1,h2,h3,h4,h5,h6⟩:=h j hj;exact⟨g,f,ob,kb,h1,Ja h2 s.size,(s.lab g h2).trans h3,(World.cell?_of_block (s.block g h2 (by rw[h3];exact hs))).trans h4,h5.stp s hs,h6⟩
theorem ZDY.re{c':Nat}(h:ZDY w lab c ls o)(hl:∀k,k<w.heap.size->lab k=c->lab' k=c'):ZDY w lab' c' ls o:=fun j hj=>by
 obtain⟨g,f,ob,kb,h1,h2,h3,h4,h5,h6⟩:=h j hj;exact⟨g,f,ob,kb,h1,h2,hl g h2 h3,h4,CBy.re h5 hl,h6⟩
theorem Z4f.read{c cb n k:Nat}(h:Z4f w lab c cb ls o n k)(hl:∀k,k<w.heap.size->lab k=c\/lab k=cb->lab' k=0):ZDY w lab' 0 ls o:=fun j hj=>by
 obtain⟨rfl,vs,h1,h2,h3⟩:=h;obtain⟨ob,kb,e1,e2,e3⟩:=h3 j hj;obtain⟨g,hg,hc⟩:=h1.own.cell e1;have hlt:=h1.own.lt ⟨_,hg,rfl⟩;exact⟨g,0,ob,kb,hg,hlt,hl g hlt (JE (h1.clr g ⟨_,hg,rfl⟩)),by rw[J9];exact hc,CBy.re e2 (fun k hk he=>hl k hk (J8 he)),e3⟩
end
def vStep(p:List By)(at_:Nat)(h:By):Nat×Except Int By:=match p[at_]? with
 |none=>(at_,JB 160)
 |some b=>(at_+1,if sumOf b=h then .ok b else JB 163)
def ZGt(p:List By)(o:Option Addr)(k:Nat)(dA dP:Nat)(w:Y)(lab:Nat->Nat)(at_:Nat):Prop :=
 CB w lab 7 dA 3 #[.int J5 (at_:Int)]/\CB w lab 1 dP 31 #[G o p.length k]/\ZDY w lab 0 p o/\at_<=p.length
theorem ZGt.stp{S:Nat->Prop}{p:List By}{o:Option Addr}{k dA dP at_:Nat}{w w':Y}{lab lab':Nat->Nat}(h:ZGt p o k dA dP w lab at_)(s:Stp S w lab w' lab')(h0:¬S 0)(hS1:¬S 1)(h7:¬S 7):ZGt p o k dA dP w' lab' at_:=by
 obtain⟨h1,h2,h3,h4⟩:=h;exact⟨h1.stp s h7,h2.stp s hS1,h3.stp s h0,h4⟩
theorem askV{p:List By}{o:Option Addr}{k dA dP:Nat}(hp:p.length<=2^40)(hb:∀x∈p,x.length<=2^30):ZGH (.func (.func 52) #[] #[J2 (J3 ⟨dA,0,J⟩),J2 (J3 ⟨dP,0,J⟩)]) (fun q=>q=7) (ZGt p o k dA dP) (vStep p) (fun _ _=>True) where
 le _ _:=trivial
 s5:=by decide
 s6:=by decide
 stp h s:=h.stp s (by decide) (by decide) (by decide)
 run:=by
  intro w lab at_ h n hI _ hh;refine⟨52,#[],_,rfl,by kernel_rfl,?_⟩;refine ZG fun R hR=>Z2I.vc _ _ _ _ _ ?_;unfold Z2I.Vc;rintro d3 w1⟨rfl,rfl⟩;have s1:Stp NoS w lab (w.alloc (I (hashA h) 27)) (ext lab w.heap.size 9):=Stp.alloc NoS w lab _ 9;have X1:=CB.new w lab 9 27 (hashA h);have I1:=hI.stp s1 (fun h=>h) (fun h=>h) (fun h=>h);generalize w.heap.size=D3 at *
  generalize w.alloc (I (hashA h) 27)=w1 at *
  generalize ext lab D3 9=lab1 at *
  obtain⟨bA,bP,hL,hat⟩:=id I1;refine⟨fun w'=>w'=w1/\at_<p.length,⟨_,bA.blk.rd1 rfl,_,_,_,bP.blk.rd1 rfl,fun heq=>?_,fun hne=>⟨rfl,by omega⟩⟩,?_⟩
  ·have hn:p[at_]?=J:=JX (by omega)
   have hst:vStep p at_ h=(at_,JB 160):=by unfold vStep;rw[hn]
   rw[hst]at hR;refine(Z1F w1 160).mono ?_;rintro e w2⟨rfl,he⟩;rw[if_neg (by decide)]at he;subst he;refine JE ⟨_,rfl,hR _ _ ⟨lab1,s1.mono (fun _ h=>h.elim),I1,trivial,fun er her=>?_,fun b hb=>by cases hb⟩⟩;cases her;exact⟨rfl,by decide⟩
  ·rintro _ w2⟨rfl,hlt⟩
   obtain⟨g,f,ob,kb,rfl,hg,hlg,hcell,hby,hkb⟩:=hL at_ hlt;have ew:Jf J5 ((at_:Int)+1)=((at_+1:Nat):Int):=by rw[Z0 (by omega) (by omega)];omega
   have hsm:p[at_]?=J3 p[at_]:=List.getElem?_eq_getElem hlt;have hbl:=hb _ (JS hlt);refine⟨_,_,_,bP.blk.rd1 rfl,_,bA.blk.rd1 rfl,_,rfl,⟨by omega,by omega⟩,_,_,_,by rw[Z6,JA];exact hcell,_,bA.blk.rd1 rfl,bA.blk.canSet (by simp) rfl,?_⟩;rintro _ rfl;rw[ew];have s2:Stp (·=7) w2 lab1 (w2.setCell ⟨dA,0,J⟩ (.int J5 ((at_+1:Nat):Int))) lab1:=Stp.setCell bA.clr;have bA2:=bA.set 0 (.int J5 ((at_+1:Nat):Int));have bP2:=bP.stp s2 (by decide);have hL2:=hL.stp s2 (by decide);have hby2:=hby.stp s2 (by decide);have X2:=X1.stp s2 (by decide);generalize w2.setCell ⟨dA,0,J⟩ (.int J5 ((at_+1:Nat):Int))=w3 at *
   rintro _ rfl;have s3:Stp NoS w3 lab1 w3.drew lab1:=Stp.drew _ _ _;have bA3:=bA2.stp s3 (fun h=>h);have bP3:=bP2.stp s3 (fun h=>h);have hL3:=hL2.stp s3 (fun h=>h);have hby3:=hby2.stp s3 (fun h=>h);have X3:=X2.stp s3 (fun h=>h);generalize w3.drew=w4 at *
   refine⟨_,X3.blk.rowAll (ZA _),?_⟩;rintro d25 w5⟨rfl,rfl⟩;have s4:Stp NoS w4 lab1 (w4.alloc (I #[G ob p[at_].length kb] 23)) (ext lab1 w4.heap.size 9):=Stp.alloc NoS w4 lab1 _ 9;have N5:=Blk.new w4 23 #[G ob p[at_].length kb];have bA5:=bA3.stp s4 (fun h=>h);have bP5:=bP3.stp s4 (fun h=>h);have hL5:=hL3.stp s4 (fun h=>h);have hby5:=hby3.stp s4 (fun h=>h);have X5:=X3.stp s4 (fun h=>h);have s05:Stp (fun q=>q=7) w lab _ _:=(((s1.mono (T:=fun q=>q=7) (fun _ h=>h.elim)).trans s2).trans (s3.mono (fun _ h=>h.elim))).trans (s4.mono (fun _ h=>h.elim));generalize w4.heap.size=D5 at *
   generalize w4.alloc (I #[G ob p[at_].length kb] 23)=w5 at *
   generalize ext lab1 D5 9=lab5 at *
   refine⟨X5.blk.rowAll (ZA _),?_⟩;refine(Z9d [p[at_]] rfl (by simp) (ZFt.one N5 hby5.rd) (by simp;omega)).mono ?_;rintro _ w6⟨rfl,M6⟩;have s6:Stp NoS w5 lab5 w6 (ext lab5 w5.heap.size 9):=Stp.of_nob M6 9;have bA6:=bA5.stp s6 (fun h=>h);have bP6:=bP5.stp s6 (fun h=>h);have hL6:=hL5.stp s6 (fun h=>h);have hby6:=hby5.stp s6 (fun h=>h);have X6:=X5.stp s6 (fun h=>h);have s06:=s05.trans (s6.mono (T:=fun q=>q=7) (fun _ h=>h.elim));generalize ext lab5 w5.heap.size 9=lab6 at *
   have e2:[p[at_]].flatten=p[at_]:=by simp
   rw[e2];have I6:ZGt p (J3 ⟨g,f,J⟩) k dA dP w6 lab6 (at_+1):=⟨bA6,bP6,hL6,hlt⟩;refine J8 ⟨_,rfl,X6.blk.rowAll (ZA _),_,Z94 _ _ (Zs _) hh,_,rfl,fun hb'=>?_,fun hb'=>?_⟩
   ·rw[decide_eq_true_eq]at hb'
    have hst:vStep p at_ h=(at_+1,JB 163):=by unfold vStep;rw[hsm];simp only;rw[if_neg hb']
    rw[hst]at hR;refine(Z1F w6 163).mono ?_;rintro e w7⟨rfl,he⟩;rw[if_neg (by decide)]at he;subst he;refine JE ⟨_,rfl,hR _ _ ⟨lab6,s06,I6,trivial,fun er her=>?_,fun b hb=>by cases hb⟩⟩;cases her;exact⟨rfl,by decide⟩
   ·rw[decide_eq_false_iff_not,ne_eq,Decidable.not_not]at hb'
    have hst:vStep p at_ h=(at_+1,.ok p[at_]):=by unfold vStep;rw[hsm];simp only;rw[if_pos hb']
    rw[hst]at hR;refine hR _ _ ⟨lab6,s06,I6,trivial,fun er her=>(by cases her),fun b hb=>?_⟩;cases hb;exact⟨ob,kb,rfl,hby6.rd,hkb⟩
def Z30(p:List By)(root key:By):Except Int By :=
 if p.length>256 then JB 162 else if key.length>64 then JB 140 else
 match way (vStep p) 0 (rootIt root) (nibbles key)with
 |(at_,.ok v)=>if at_<p.length then JB 162 else .ok v
 |(_,JB e)=>JB e
def Z8r(p:List By)(root key:By)(w:Y)(e:JJ)(w':Y):Prop :=
 Vcg.Mod NoB w w'/\match Z30 p root key with
  | JB er=>er≠0/\e=C (J6 #[G J 0 0,U J0,.int J5 er])
  | .ok v=>∃o k,e=C (J6 #[G o v.length k,U (decide (v≠[])),.int J5 0])/\RdB w' o v
theorem ZAh{R:JJ->Y->Prop}{rt:Y->Prop}{dE dV dB:Nat}{n n0:Int}{o:Option Addr}{l k:Nat}{b:Bool}{w:Y}(hn:n≠0)(h1:dE≠dV)(h2:dE≠dB)(h3:dV≠dB)(E:Blk w dE 40 #[.int J5 n0])(V:Blk w dV 23 #[G o l k])(B:Blk w dB 4 #[U b])
  (K:∀w',Blk w' dE 40 #[.int J5 n]->Blk w' dV 23 #[G J 0 0]->Blk w' dB 4 #[U J0]->Vcg.Mod (fun b=>b=dE\/b=dV\/b=dB) w w'->rt w') :
  Z2m W rt R [(32,#[J2 (J3 ⟨dE,0,J⟩)]),(51,#[J2 (J3 ⟨dE,0,J⟩),J2 (J3 ⟨dV,0,J⟩),J2 (J3 ⟨dB,0,J⟩)])] (Jd (Z2o n)) w:=by
 refine⟨fun h=>(by cases h),(Z44 E).mono ?_⟩;rintro _ _ w1⟨rfl,rfl,E1,M1⟩;have V1:=V.mod M1 (fun h=>h1 h.symm);have B1:=B.mod M1 (fun h=>h2 h.symm);refine⟨fun h=>(by cases h),?_⟩;refine(Z0p.vcd JD _ _ _ w1 (fun e w'=>e=C (J6 #[])/\Blk w' dE 40 #[.int J5 n]/\Blk w' dV 23 #[G J 0 0]/\Blk w' dB 4 #[U J0]/\Vcg.Mod (fun b=>b=dV\/b=dB) w1 w') ?_).mono ?_
 ·unfold Z0p.Vc
  refine⟨n,E1.rd1 rfl,fun _=>⟨V1.canSet (by simp) rfl,?_⟩,fun h=>(hn h).elim⟩;rintro _ rfl;have V2:=V1.set 0 (G J 0 0);have B2:=B1.set_ne (a:=⟨dV,0,J⟩) (v:=G J 0 0) (fun e=>h3 e.symm);have E2:=E1.set_ne (a:=⟨dV,0,J⟩) (v:=G J 0 0) h1;refine⟨B2.canSet (by simp) rfl,?_⟩;rintro _ rfl;exact⟨rfl,E2.set_ne h2,V2.set_ne h3,B2.set 0 _,((Mod.setCell w1 ⟨dV,0,J⟩ _).mono (fun _ _ h=>JE h)).trans (Mod.setCell _ ⟨dB,0,J⟩ _) (fun _ _ h=>J8 h)⟩
 ·rintro _ _ w2⟨rfl,rfl,E2,V2,B2,M2⟩
  exact K w2 E2 V2 B2 ((M1.mono (fun _ _ h=>JE h)).trans M2 (fun _ _ h=>J8 h))
theorem ZBn{R:JJ->Y->Prop}{rt:Y->Prop}{dE dV dB:Nat}{w:Y}(E:Blk w dE 40 #[.int J5 0])(K:rt w) :
  Z2m W rt R [(32,#[J2 (J3 ⟨dE,0,J⟩)]),(51,#[J2 (J3 ⟨dE,0,J⟩),J2 (J3 ⟨dV,0,J⟩),J2 (J3 ⟨dB,0,J⟩)])] JD w:=by
 refine⟨fun h=>(by cases h),Z4y.mono ?_⟩;rintro _ _ w1⟨rfl,rfl,rfl⟩;refine⟨fun h=>(by cases h),?_⟩;refine(Z0p.vcd JD _ _ _ w1 (fun e w'=>e=C (J6 #[])/\w'=w1) ?_).mono ?_
 ·unfold Z0p.Vc
  exact⟨0,E.rd1 rfl,fun h=>(h rfl).elim,fun _=>⟨rfl,rfl⟩⟩
 ·rintro _ _ w2⟨rfl,rfl,rfl⟩
  exact K
end Go.Proofs.YtfghidehlnfdiaaGreat
end
