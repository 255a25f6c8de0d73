/- Contracts: the reference's decoder (moraineref4). -/
/- Contracts: moraineref4.First, Decode. -/
/- Contracts: moraineref4.Of. What an item is: plain Lean. -/
/- The verification conditions of some functions, printed by a program of ours (wip/PrintVc.lean). -/
/- What item is a node: plain Lean; and the nodes that the trie makes of items. -/
/- Contracts: trie.branched, noded, decoded, Check. -/
/- The verification conditions of some functions, printed by a program of ours (wip/PrintVc.lean). -/
/- Contracts: the reference's is and ref (moraineref14). -/
/- Contracts: trie.decoded, Check, Children. -/
/- The hashes that a node's item refers to; rows of hashes. -/
/- Contracts: Children both, the helper's Hashes. -/
import Derived.Test.YtfghidehlnfdiaaGreatTVG
import Derived.Test.YtfghidehlnfdiaaGreatProg
import Derived.KernelRfl
set_option linter.unusedVariables false
set_option linter.unusedSimpArgs false
open Bool renaming and_self->JU,eq_iff_iff->JO,false->V,false_and->JS,true->J5,true_and->JJ
open Except renaming error->JN,ok->Jc
open Go renaming Calls->J4,Ending->JM,World->J2
open Go.Ending renaming returned->G
open Go.IntKind renaming i64->U,wrap->O
open Go.Obj renaming cells->J0
open Go.Proofs.Tryz renaming prog->K
open Go.Value renaming iface->JD,nilIface->J,pointer->J6,tuple->C
open Int renaming toNat_natCast->T
open List renaming all_append->JG,all_cons->JT,all_eq_false->JW,all_nil->JX,drop_drop->JZ,drop_take->JY,eq_nil_of_length_eq_zero->J3,filter_append->JB,getD_eq_getElem?_getD->J8,getElem?_eq_getElem->JI,getElem_mem->JA,length_append->P,length_cons->JF,length_filter_le->JQ,length_singleton->JE,length_take->JK,mem_take_iff_getElem->JH,take_succ_eq_append_getElem->J7
open Nat renaming add_assoc->Ja,add_sub_cancel_left->JL,add_zero->Jb,le_refl->J1,le_trans->JV,zero_add->J9,zero_le->JC
open Option renaming none->I,some->Q
open Or renaming inl->JR,inr->JP
section
namespace Go.Proofs.YtfghidehlnfdiaaGreat
open Go Go.Vcg Go.Trie
def sg(B:By)(i j:Nat):By:=(B.drop i).take (j-i)
theorem ZEn{B:By}{i j:Nat}(h:j<=B.length):(sg B i j).length=j-i:=by unfold sg;rw[JK,List.length_drop];omega
theorem ZEm{B:By}{i j t:Nat}(h:i+t<j):(sg B i j).getD t 0=B.getD (i+t) 0:=by
 unfold sg;simp only[J8];rw[List.getElem?_take_of_lt (by omega),List.getElem?_drop]
theorem ZGF{B:By}{i j a q:Nat}(h:i+a+q<=j):((sg B i j).drop a).take q=sg B (i+a) (i+a+q):=by
 unfold sg;rw[JY,JZ,List.take_take];congr 1;omega
theorem ZEl{B:By}{i j a:Nat}:(sg B i j).drop a=sg B (i+a) j:=by
 unfold sg;rw[JY,JZ];congr 1;omega
theorem ZHX(B:By)(i:Nat):sg B i i=[]:=by simp[sg]
theorem ZGE{B:By}{i:Nat}(h:i<B.length):sg B i (i+1)=[B.getD i 0]:=by
 unfold sg;rw[JL,List.drop_eq_getElem_cons h,List.take_succ_cons,List.take_zero,J8,JI h];rfl
section
variable{w:J2}{D n:Nat}{S:Value}
theorem ZBD(X:Blk w D 187 #[S,.int U (n:Int),.int U 0])(x:Int) :
  J4 K Za.n #[J6 (Q ⟨D,0,I⟩),.int U x] w (fun e w'=>e=G (C #[.agg #[.bool V,.slice I 0 0,.slice I 0 0],.int U 0])/\Vcg.Mod (·=D) w w'/\Blk w' D 187 #[S,.int U (n:Int),.int U x]):=by
 refine Za.vc _ _ _ _ ?_;unfold Za.Vc;have hD:=X.lt;rintro d1 w1⟨rfl,rfl⟩;have M1:Vcg.Mod NoB w _:=Mod.alloc w (J0 #[.bool V,.slice I 0 0,.slice I 0 0] 111);have Y1:=Blk.new w 111 #[.bool V,.slice I 0 0,.slice I 0 0];have X1:=X.mod' M1;generalize hN:w.heap.size=N at *
 generalize w.alloc (J0 #[.bool V,.slice I 0 0,.slice I 0 0] 111)=w1 at *
 refine⟨0,by rw[Z6];exact X1.rd1 rfl,fun _=>?_,fun h=>(h rfl).elim⟩;rw[Z6];refine⟨X1.canSet (by simp) rfl,?_⟩;rintro _ rfl;have X2:=X1.set 2 (.int U x);have Y2:=Y1.set_ne (a:=⟨D,0+2,I⟩) (v:=.int U x) (by simp;omega);have M2:Vcg.Mod (·=D) w _:=(M1.mono (fun _ _ h=>h.elim)).step_set (a:=⟨D,0+2,I⟩) (v:=.int U x) (fun _=>rfl);exact Z1Q Y2 (fun w3 M3=>⟨rfl,M2.trans M3 (fun i hi h=>by omega),X2.mod M3 (by omega)⟩)
end
def RdIs(r:Except Int (It×Nat×Nat))(S:Value)(i:Nat)(w:J2)(D:Nat)(e:JM)(w':J2):Prop:=match r with
 | JN x=>x≠0/\e=G (C #[.agg #[.bool V,.slice I 0 0,.slice I 0 0],.int U 0])/\∃n':Nat,Blk w' D 187 #[S,.int U (n':Int),.int U x]
 | Jc (x,q,m)=>Blk w' D 187 #[S,.int U (m:Int),.int U 0]/\∃v1 v2 v3,e=G (C #[.agg #[v1,v2,v3],.int U ((i+q:Nat):Int)])/\ItC (fun b=>b<w.heap.size) w' x v1 v2 v3
theorem ZAE(A:Nat->Prop)(w:J2):ItC A w (.s []) (.bool V) (.slice I 0 0) (.slice I 0 0):=by
 simp only[ItC];exact⟨trivial,⟨I,0,rfl,RdB.nil _ _,fun h=>(h rfl).elim⟩,trivial⟩
def CapIs(v:Int)(b:By):Prop:=0<=v/\v<=1099511627776/\(v=(be b:Int)\/(v>2147483648/\be b>2147483648))
set_option maxHeartbeats 2000000 in
set_option maxRecDepth 10000 in
theorem Z8R:∀(f d n i j:Nat) (B:By) {w:J2} {D k:Nat} {o:Option Addr},2*(j-i)+1<=f->i<=j->j<=B.length->B.length<=65536->RdB w o B->B.length<=k->Blk w D 187 #[.slice o B.length k,.int U (n:Int),.int U 0]->(B≠[]->Off (·=D) o)->n<=4096->d<=20 ->
  J4 K Zg.n #[J6 (Q ⟨D,0,I⟩),.int U (i:Int),.int U (j:Int),.int U (d:Int)] w (fun e w'=>Vcg.Mod (·=D) w w'/\RdIs (dcd f d n (sg B i j)) (.slice o B.length k) i w D e w')
 |0,_,_,_,_,_,_,_,_,_,hf,_,_,_,_,_,_,_,_,_=>absurd hf (by omega)
 |f+1,d,n,i,j,B,w,D,k,o,hf,hij,hjB,hlen,hr,hk,W,hoff,hn,hd20=>by
  refine ZG fun R hR=>Zg.vc _ _ _ _ _ _ ?_;unfold Zg.Vc;have hD:=W.lt;rintro d3 w1⟨rfl,rfl⟩;have M1:Vcg.Mod NoB w _:=Mod.alloc w (J0 #[.bool V,.slice I 0 0,.slice I 0 0] 111);have X1:=Blk.new w 111 #[.bool V,.slice I 0 0,.slice I 0 0];have hs1:=ZC w (J0 #[.bool V,.slice I 0 0,.slice I 0 0] 111);have W1:=W.mod' M1;have hr1:=hr.mod' M1;generalize hN:w.heap.size=N at *
  generalize w.alloc (J0 #[.bool V,.slice I 0 0,.slice I 0 0] 111)=w1 at *
  have M1':Vcg.Mod (·=D) w w1:=M1.mono (fun _ _ h=>h.elim);generalize hS:Value.slice o B.length k=S at *
  have hbl:(sg B i j).length=j-i:=ZEn hjB
  have bad:∀(w':J2)(n':Nat)(a b c:Value)(x:Int),Vcg.Mod (·=D) w w'->Blk w' D 187 #[S,.int U (n':Int),.int U 0]->Blk w' N 111 #[a,b,c]->dcd (f+1) d n (sg B i j)=JN x->x≠0 ->
    J4 K 133 #[J6 (Q ⟨D,0,I⟩),.int U x] w' (fun e w''=>e=G (C #[.agg #[.bool V,.slice I 0 0,.slice I 0 0],.int U 0])/\Blk w'' N 111 #[a,b,c] /\
     ∀w3,Vcg.Mod (·=N) w'' w3->R (G (C #[.agg #[.bool V,.slice I 0 0,.slice I 0 0],.int U 0])) w3):=by
   intro w' n' a b c x M X' Y hx h0;refine(ZBD X' x).mono ?_;rintro _ w2⟨rfl,M2,X2⟩;refine⟨rfl,Y.mod M2 (by omega),fun w3 M3=>hR _ _ ⟨(M.trans M2 (fun i hi h=>h)).trans M3 (fun i hi h=>by omega),?_⟩⟩;rw[hx];exact⟨h0,rfl,n',X2.mod M3 (by omega)⟩
  refine⟨fun h0=>?_,fun h0=>?_⟩
  ·have hb:sg B i j=[]:=J3 (by omega)
   refine(bad w1 n _ _ _ 41 M1' W1 X1 (by rw[hb];exact ZB8 f d n) (by decide)).mono ?_;rintro _ w2⟨rfl,X2,h2⟩;exact⟨_,_,_,_,_,_,_,_,rfl,Z1Q X2 h2⟩
  have hlt:i<j:=by omega
  have hbne:sg B i j≠[]:=fun h=>by rw[h]at hbl;simp at hbl;omega
  have hBne:B≠[]:=by rintro rfl;simp at hjB;omega
  refine⟨fun hdeep=>?_,fun hdeep=>⟨_,by rw[Z6];exact W1.rd1 rfl,fun hful=>?_,fun hful=>⟨_,by rw[Z6];exact W1.rd1 rfl,?_⟩⟩⟩
  ·refine(bad w1 n _ _ _ 43 M1' W1 X1 (Z6n hbne (JR (by omega))) (by decide)).mono ?_
   rintro _ w2⟨rfl,X2,h2⟩;exact⟨_,_,_,_,_,_,_,_,rfl,Z1Q X2 h2⟩
  ·refine(bad w1 n _ _ _ 43 M1' W1 X1 (Z6n hbne (JP (by omega))) (by decide)).mono ?_
   rintro _ w2⟨rfl,X2,h2⟩;exact⟨_,_,_,_,_,_,_,_,rfl,Z1Q X2 h2⟩
  have ewn:O U ((n:Int)+1)=((n+1:Nat):Int):=by rw[Z0 (by omega) (by omega)];omega
  rw[ewn,Z6];refine⟨W1.canSet (by simp) rfl,?_⟩;rintro _ rfl;have W2:=W1.set 1 (.int U ((n+1:Nat):Int));have X2:=X1.set_ne (a:=⟨D,0+1,I⟩) (v:=.int U ((n+1:Nat):Int)) (by simp;omega);have M2:Vcg.Mod (·=D) w _:=M1'.step_set (a:=⟨D,0+1,I⟩) (v:=.int U ((n+1:Nat):Int)) (fun _=>rfl);have hr2:RdB _ o B:=hr1.mod (Mod.setCell w1 ⟨D,0+1,I⟩ (.int U ((n+1:Nat):Int))) (hoff hBne);have hs2:(w1.setCell ⟨D,0+1,I⟩ (.int U ((n+1:Nat):Int))).heap.size=N+1:=by rw[Z4O];exact hs1
  generalize w1.setCell ⟨D,0+1,I⟩ (.int U ((n+1:Nat):Int))=w2 at *
  clear X1 W1 hr1 M1 M1' hs1;subst hS;have hN2:∀{w':J2},Vcg.Mod (·=D) w w'->RdB w' o B:=fun M=>hr.mod M (hoff hBne);obtain⟨b0,f0,rfl,hb0,hcells⟩:=hr2 hBne
  have hb0N:b0<N:=by
   obtain⟨b1,f1,h1,h2,_⟩:=hr hBne;cases h1;omega
  have cell:∀{w':J2},Vcg.Mod (·=D) w w'->∀t,t<B.length->w'.cell? ⟨b0,f0+t,I⟩=Q (bV (B.getD t 0)):=fun M t ht=>by
   obtain⟨b1,f1,h1,h2,h3⟩:=hN2 M hBne;cases h1;exact h3 t ht
  have hdn:¬(d>16\/n=4096):=by omega
  have hdec:=ZDn (f:=f) hbne hdn;have hg0:(sg B i j).getD 0 0=B.getD i 0:=by rw[ZEm (by omega),Jb]
  generalize hcv:(B.getD i 0).toNat=c at *
  have hc255:c<=255:=by have:=(B.getD i 0).toNat_lt;omega
  refine⟨_,_,_,W2.rd1 rfl,_,rfl,⟨by omega,by omega⟩,(c:Int),by rw[Z6,T];have:=cell M2 i (by omega);simp only[bV,hcv]at this;exact this,?_⟩;have ec:O U (c:Int)=(c:Int):=Z0 (by omega) (by omega);have ei1:O U ((i:Int)+1)=((i+1:Nat):Int):=by rw[Z0 (by omega) (by omega)];omega
  rw[ec,ei1]
  have hhd:hd (sg B i j)=(if c<128 then Jc (V,0,1,J5)else
   if c-(if c>=192 then 192 else 128)<=55 then Jc (decide (c>=192),1,c-(if c>=192 then 192 else 128),V)
   else if j-i<1+(c-(if c>=192 then 192 else 128)-55)then JN 41
   else if(sg B i j).getD 1 0=0\/be (((sg B i j).drop 1).take (c-(if c>=192 then 192 else 128)-55))<=55\/be (((sg B i j).drop 1).take (c-(if c>=192 then 192 else 128)-55))>2147483648 then JN 40
   else Jc (decide (c>=192),1+(c-(if c>=192 then 192 else 128)-55),be (((sg B i j).drop 1).take (c-(if c>=192 then 192 else 128)-55)),V)):=by
   unfold hd;simp only[hg0,hcv,hbl]
  refine⟨fun hc=>?_,fun hc=>?_⟩
  ·rw[show hd (sg B i j)=Jc (V,0,1,J5) by rw[hhd,if_pos (by omega)]]at hdec
   simp only at hdec;rw[if_neg (by omega),if_pos trivial,if_neg (fun h=>by exact absurd h.1 (by decide))]at hdec;have e8:O .u8 (c:Int)=(c:Int):=by rw[ZBq];omega
   rw[e8];rintro d4 w3⟨rfl,rfl⟩;have M23:Vcg.Mod NoB w2 _:=Mod.alloc w2 (J0 #[.int .u8 (c:Int)] 5);have Z:=Blk.new w2 5 #[.int .u8 (c:Int)];refine Z1Q (X2.mod' M23) (fun w4 M4=>hR _ _ ⟨(M2.none_trans M23).trans M4 (fun i hi h=>by omega),?_⟩);rw[hdec];refine⟨(W2.mod' M23).mod M4 (by omega),_,_,_,rfl,?_⟩
   have e1:((sg B i j).drop 0).take 1=[B.getD i 0]:=by
    rw[ZGF (by omega),Jb];exact ZGE (by omega)
   rw[e1];simp only[ItC];refine⟨trivial,⟨_,_,rfl,RdB.of_blk (Z.mod M4 (by omega)) (fun t ht=>?_),fun _ dd hdd h=>?_⟩,trivial⟩
   ·simp only[JE]at ht
    obtain rfl:t=0:=by omega
    simp only[J9,bV,List.getD_cons_zero,hcv];rfl
   ·cases hdd
    have h':w2.heap.size<w.heap.size:=h;omega
  generalize hbase:(if c>=192 then 192 else 128)=base at *
  have hb1:128<=base/\base<=c:=by rw[<-hbase];split<;>omega
  have hkk8:c-base-55<=8:=by rw[<-hbase];split<;>omega
  rw[if_neg (by omega)]at hhd;refine⟨fun v w'=>w'=w2/\v=(base:Int),⟨fun h=>⟨rfl,?_⟩,fun h=>⟨rfl,?_⟩⟩,?_⟩
  ·rw[<-hbase,if_pos (by omega)];rfl
  ·rw[<-hbase,if_neg (by omega)];rfl
  rintro _ _ w2⟨rfl,rfl⟩;have ecb:O U ((c:Int)-(base:Int))=((c-base:Nat):Int):=by rw[Z0 (by omega) (by omega)];omega
  rw[ecb];refine⟨fun v t w'=>w'=w2/\∃a q:Nat,hd (sg B i j)=Jc (decide (c>=192),a,q,V)/\v=(q:Int)/\t=((i+a:Nat):Int)/\1<=a/\a<=j-i,⟨fun hgt=>?_,fun hle=>?_⟩,?_⟩
  ·have e55:O U (((c-base:Nat):Int)-55)=((c-base-55:Nat):Int):=by rw[Z0 (by omega) (by omega)];omega
   rw[e55];rw[if_neg (by omega)]at hhd;generalize hkk:c-base-55=kk at *
   have efk:O U (((i+1:Nat):Int)+(kk:Int))=((i+1+kk:Nat):Int):=by rw[Z0 (by omega) (by omega)];omega
   rw[efk];refine⟨fun hsh=>?_,fun hsh=>?_⟩
   ·rw[if_pos (by omega)]at hhd
    rw[hhd]at hdec;refine(bad w2 (n+1) _ _ _ 41 M2 W2 X2 hdec (by decide)).mono ?_;rintro _ w3⟨rfl,X3,h3⟩;exact⟨_,_,_,_,_,_,_,_,rfl,Z1Q X3 h3⟩
   rw[if_neg (by omega)]at hhd;refine⟨fun v t w'=>w'=w2/\∃u:Nat,t=(u:Int)/\u<=kk/\CapIs v (((sg B i j).drop 1).take u),fun _ t _=>((kk:Int)-t).toNat,⟨rfl,0,rfl,JC _,by decide,by decide,JR (by simp[be])⟩,?_⟩;rintro v _ _ w2⟨rfl,u,rfl,hu,hv0,hv1,hv⟩;have ew:O U ((u:Int)+1)=((u+1:Nat):Int):=by rw[Z0 (by omega) (by omega)];omega
   refine⟨fun hlt=>?_,fun hge=>?_⟩
   ·have huk:u<kk:=by omega
    have hstep:=ZDf (sg B i j) (j:=u) (by omega);have hgu:((sg B i j).drop 1).getD u 0=B.getD (i+1+u) 0:=by rw[ZEl,ZEm (by omega)]
    rw[hgu]at hstep;refine⟨fun b w'=>w'=w2/\b=decide (v<=2147483648),⟨fun _=>⟨rfl,rfl⟩,fun h8=>by omega⟩,?_⟩;rintro _ _ w2⟨rfl,rfl⟩;rw[ew];have efu:O U (((i+1:Nat):Int)+(u:Int))=((i+1+u:Nat):Int):=by rw[Z0 (by omega) (by omega)];omega
    rw[efu];refine⟨fun hb=>?_,fun hb=>?_⟩
    ·have hvle:=of_decide_eq_true hb
     have hvbe:v=(be (((sg B i j).drop 1).take u):Int):=by
      rcases hv with h|h
      ·exact h
      ·omega
     have c1:=cell M2 (i+1+u) (by omega);have hd256:=(B.getD (i+1+u) 0).toNat_lt;refine⟨_,_,_,W2.rd1 rfl,_,rfl,⟨by omega,by omega⟩,((B.getD (i+1+u) 0).toNat:Int),by rw[Z6,T];exact c1,?_⟩
     have ev:O U ((O U (256*v))+(O U ((B.getD (i+1+u) 0).toNat:Int)))=((be (((sg B i j).drop 1).take (u+1)):Nat):Int):=by
      rw[Z0 (n:=256*v) (by omega) (by omega),Z0 (n:=((B.getD (i+1+u) 0).toNat:Int)) (by omega) (by omega),Z0 (by omega) (by omega),hstep];omega
     rw[ev];exact⟨⟨rfl,u+1,rfl,huk,by omega,by omega,JR rfl⟩,by dsimp only;omega⟩
    ·have hvgt:=of_decide_eq_false hb
     exact⟨⟨rfl,u+1,rfl,huk,hv0,hv1,JP ⟨by omega,by omega⟩⟩,by dsimp only;omega⟩
   ·obtain rfl:u=kk:=by omega
    have c1:=cell M2 (i+1) (by omega);have hg1:(sg B i j).getD 1 0=B.getD (i+1) 0:=ZEm (by omega);rw[hg1]at hhd;refine⟨_,_,_,W2.rd1 rfl,_,rfl,⟨by omega,by omega⟩,((B.getD (i+1) 0).toNat:Int),by rw[Z6,T];exact c1,fun hz=>?_,fun hz=>⟨fun h56=>?_,fun h56=>⟨fun hbig=>?_,fun hbig=>?_⟩⟩⟩
    ·have hz0:B.getD (i+1) 0=0:=UInt8.toNat_inj.1 (by simpa using hz)
     rw[if_pos (JR hz0)]at hhd;rw[hhd]at hdec;refine(bad w2 (n+1) _ _ _ 40 M2 W2 X2 hdec (by decide)).mono ?_;rintro _ w3⟨rfl,X3,h3⟩;exact⟨_,_,_,_,_,_,_,_,rfl,Z1Q X3 h3⟩
    ·rw[if_pos (JP (JR (by omega)))]at hhd
     rw[hhd]at hdec;refine(bad w2 (n+1) _ _ _ 40 M2 W2 X2 hdec (by decide)).mono ?_;rintro _ w3⟨rfl,X3,h3⟩;exact⟨_,_,_,_,_,_,_,_,rfl,Z1Q X3 h3⟩
    ·rw[if_pos (JP (JP (by omega)))]at hhd
     rw[hhd]at hdec;refine(bad w2 (n+1) _ _ _ 40 M2 W2 X2 hdec (by decide)).mono ?_;rintro _ w3⟨rfl,X3,h3⟩;exact⟨_,_,_,_,_,_,_,_,rfl,Z1Q X3 h3⟩
    ·have hnz:¬B.getD (i+1) 0=0:=fun h=>hz (by rw[h];rfl)
     rw[if_neg (fun h=>h.elim hnz (fun h=>h.elim (fun h=>by omega) (fun h=>by omega)))]at hhd;exact⟨rfl,1+u,_,hhd,by omega,by omega,by omega,by omega⟩
  ·rw[if_pos (by omega)]at hhd
   exact⟨rfl,1,c-base,hhd,rfl,rfl,J1 _,by omega⟩
  ·clear hhd
   rintro _ _ _ w2⟨rfl,a,q,hh,rfl,rfl,ha1,haj⟩;rw[hh]at hdec;simp only at hdec;have hq31:=ZCB hh;have ejf:O U ((j:Int)-((i+a:Nat):Int))=((j-(i+a):Nat):Int):=by rw[Z0 (by omega) (by omega)];omega
   have eto:O U (((i+a:Nat):Int)+(q:Int))=((i+a+q:Nat):Int):=by rw[Z0 (by omega) (by omega)];omega
   rw[ejf];refine⟨fun hbig=>?_,fun hbig=>?_⟩
   ·rw[if_pos (by omega)]at hdec
    refine(bad w2 (n+1) _ _ _ 41 M2 W2 X2 hdec (by decide)).mono ?_;rintro _ w3⟨rfl,X3,h3⟩;exact⟨_,_,_,_,_,_,_,_,rfl,Z1Q X3 h3⟩
   rw[if_neg (by omega)]at hdec;have hq:i+a+q<=j:=by omega
   rw[ZGF hq]at hdec;rw[eto];have hil:(sg B (i+a) (i+a+q)).length=q:=by rw[ZEn (by omega)];omega
   refine⟨fun h128=>?_,fun h128=>?_⟩
   ·have hc192:¬c>=192:=fun h=>by rw[if_pos h]at hbase;omega
    rw[if_pos (decide_eq_false hc192)]at hdec;refine⟨fun w'=>w'=w2/\Trie.own (sg B (i+a) (i+a+q))=V,⟨fun h1=>?_,fun h1=>⟨rfl,?_⟩⟩,?_⟩
    ·have c1:=cell M2 (i+a) (by omega)
     have e1:sg B (i+a) (i+a+q)=[B.getD (i+a) 0]:=by
      rw[show i+a+q=i+a+1 by omega];exact ZGE (by omega)
     refine⟨_,_,_,W2.rd1 rfl,_,rfl,⟨by omega,by omega⟩,((B.getD (i+a) 0).toNat:Int),by rw[Z6,T];exact c1,fun hlt=>?_,fun hlt=>⟨rfl,?_⟩⟩
     ·have ho:Trie.own (sg B (i+a) (i+a+q))=J5:=by
        rw[e1];simp only[Trie.own,decide_eq_true_eq];rw[UInt8.lt_iff_toNat_lt];show _<128;omega
      rw[if_pos ⟨trivial,ho⟩]at hdec;refine(bad w2 (n+1) _ _ _ 40 M2 W2 X2 hdec (by decide)).mono ?_;rintro _ w3⟨rfl,X3,h3⟩;exact⟨_,_,_,_,_,_,_,_,rfl,Z1Q X3 h3⟩
     ·rw[e1]
      simp only[Trie.own,decide_eq_false_iff_not];rw[UInt8.lt_iff_toNat_lt];show ¬_<128;omega
    ·have hq1:q≠1:=by omega
     cases h:sg B (i+a) (i+a+q)with
     |nil=>rfl
     |cons x r =>
      cases r with
      |nil=>rw[h]at hil;simp at hil;omega
      |cons y r=>rfl
    ·rintro _ w2⟨rfl,hown⟩
     rw[if_neg (fun h=>by rw[hown]at h;exact absurd h.2 (by decide))]at hdec;have hsub:=((hN2 M2).sub (c:=k) (lo:=i+a) (n:=q) hk);rw[show(B.drop (i+a)).take q=sg B (i+a) (i+a+q) by unfold sg;rw[JL]]at hsub;obtain⟨o5,k5,w5,hr5,F5⟩:=Z1D (k2:=k-(i+a)) (ty:=23) (Mod.refl w2) hsub (by omega);rw[hil]at hr5 F5;simp only[T];refine⟨_,_,_,W2.rd1 rfl,⟨by omega,by omega⟩,⟨by omega,by omega⟩,_,w5,by rw[show i+a+q-(i+a)=q by omega];exact hr5,_,_,_,rfl,Z1Q (X2.mod' F5.mod) (fun w6 M6=>hR _ _ ⟨(M2.none_trans F5.mod).trans M6 (fun i hi h=>by omega),?_⟩)⟩;rw[hdec];refine⟨(W2.mod' F5.mod).mod M6 (by omega),_,_,_,by rw[Ja],?_⟩;simp only[ItC];have hN5:∀b,OB o5 b->¬b=N:=fun b hb h=>by have:=F5.new b hb;omega
     refine⟨trivial,⟨o5,k5,by rw[hil],(F5.own.mod M6 hN5).bytes,fun _ dd hdd h=>?_⟩,trivial⟩;have:=F5.new dd.block ⟨dd,hdd,rfl⟩;have h':dd.block<w.heap.size:=h;omega
   ·have hc192:c>=192:=by
      rcases Nat.lt_or_ge c 192 with h|h
      ·rw[if_neg (by omega)]at hbase;omega
      ·exact h
    rw[if_neg (by rw[decide_eq_true hc192];decide)]at hdec;rintro dX w6⟨rfl,rfl⟩;have Y6:=Blk.new w2 111 #[.bool V,.slice I 0 0,.slice I 0 0];have M26:Vcg.Mod NoB w2 _:=Mod.alloc w2 (J0 #[.bool V,.slice I 0 0,.slice I 0 0] 111);have hs6:=ZC w2 (J0 #[.bool V,.slice I 0 0,.slice I 0 0] 111);generalize hY:w2.heap.size=Y at *
    generalize w2.alloc (J0 #[.bool V,.slice I 0 0,.slice I 0 0] 111)=w6 at *
    refine Z8i Y6 rfl rfl rfl (fun w7 Y7 Q7=>?_);have M27:Vcg.Mod NoB w2 w7:=ZK M26 Q7 (by omega);have X7:=X2.mod' M27;have W7:=W2.mod' M27;have M07:=M2.none_trans M27;have hs7:=M27.size;have hY7:=Y7.lt;clear X2 W2 Y6 M26 Q7 cell hcells hr2
    let good:Int->J2->Prop:=fun v w'=>∃(fr n':Nat)(xs:List It)(f':Nat)(ol:Option Addr)(kl:Nat),v=(fr:Int)/\i+a<=fr/\fr<=i+a+q/\Blk w' D 187 #[.slice (Q ⟨b0,f0,I⟩) B.length k,.int U (n':Int),.int U 0]/\n'<=4096 /\
     Blk w' Y 111 #[.bool J5,.slice I 0 0,.slice ol xs.length kl]/\(∃a b c,Blk w' N 111 #[a,b,c])/\Z3C (fun b=>b<w7.heap.size) w' xs ol xs.length kl/\(∀b,OB ol b->w7.heap.size<=b)/\Vcg.Mod (·=D) w w'/\w7.heap.size<=w'.heap.size /\
     Z7v f (d+1) (n+1) (sg B (i+a) (i+a+q))=pre xs (Z7v f' (d+1) n' (sg B fr (i+a+q)))/\2*(i+a+q-fr)+2<=f'/\f'<=f/\xs.length+(i+a+q-fr)<=q
    let over:J2->Prop:=fun w'=>∃(x:Int)(n':Nat),x≠0/\Z7v f (d+1) (n+1) (sg B (i+a) (i+a+q))=JN x/\Blk w' D 187 #[.slice (Q ⟨b0,f0,I⟩) B.length k,.int U (n':Int),.int U x]/\(∃a b c,Blk w' N 111 #[a,b,c])/\Vcg.Mod (·=D) w w'
    have hfq:2*q+2<=f:=by omega
    refine⟨fun w'=>over w'\/good ((i+a+q:Nat):Int) w',⟨fun v w'=>over w'\/good v w',fun v w'=>match w'.cell? ⟨D,2,I⟩with|some (.int U 0)=>(((i+a+q:Nat):Int)-v).toNat+1|_=>0,JP ⟨i+a,n+1,[],f,I,0,rfl,J1 _,by omega,W7,by omega,Y7,⟨_,_,_,X7⟩,Z3C.nil _ _,fun b hb=>(Z3z b hb).elim,M07,J1 _,(ZET _).symm,by omega,J1 _,by simp⟩,?_⟩,?_⟩
    ·rintro v _ w8 hst
     refine⟨fun hlt=>?_,fun hge=>?_⟩
     ·rcases hst with⟨x,n',hx0,hde,W8,hX8,M08⟩|⟨fr,n',xs,f',ol,kl,rfl,hfr1,hfr2,W8,hn',Y8,⟨xa,xb,xc,X8⟩,I8,hnew,M08,hs8,hde,hf',hff,hxl⟩
      ·exact⟨x,by rw[Z6];exact W8.rd1 rfl,fun h=>(hx0 h).elim,fun _=>JR ⟨x,n',hx0,hde,W8,hX8,M08⟩⟩
      ·refine⟨0,by rw[Z6];exact W8.rd1 rfl,fun _=>?_,fun h=>(h rfl).elim⟩
       obtain⟨f2,rfl⟩:∃f2,f'=f2+1:=⟨f'-1,by omega⟩;have hrl:(sg B fr (i+a+q)).length=i+a+q-fr:=ZEn (by omega);have hrne:sg B fr (i+a+q)≠[]:=fun h=>by rw[h]at hrl;simp at hrl;omega
       rw[ZB9 hrne]at hde;have ed:O U ((d:Int)+1)=((d+1:Nat):Int):=by rw[Z0 (by omega) (by omega)];omega
       rw[ed];refine(Z8R f2 (d+1) n' fr (i+a+q) B (by omega) (by omega) (by omega) hlen (hN2 M08) hk W8 hoff hn' (by omega)).mono ?_;rintro e w9⟨M9,hdi⟩;have hs9:=M9.size;have hI9:=I8.lt;have Y9:=Y8.mod M9 (by omega);have X9:=X8.mod M9 (by omega);have I9:=I8.modS M9 (fun b hb=>by omega) (fun b hb h=>by have:=hnew b hb;omega);have M09:=M08.trans M9 (fun i hi h=>h)
       have key:∃(y:It)(v1 v2 v3:Value)(nx:Int)(m':Nat)(x:Int),e=G (C #[.agg #[v1,v2,v3],.int U nx])/\ItC (fun b=>b<w8.heap.size) w9 y v1 v2 v3/\Blk w9 D 187 #[.slice (Q ⟨b0,f0,I⟩) B.length k,.int U (m':Int),.int U x] /\
         ((x≠0/\Z7v f (d+1) (n+1) (sg B (i+a) (i+a+q))=JN x)\/(x=0/\m'<=4096/\∃q',1<=q'/\fr+q'<=i+a+q/\nx=((fr+q':Nat):Int)/\Z7v f (d+1) (n+1) (sg B (i+a) (i+a+q))=pre (xs++[y]) (Z7v f2 (d+1) m' (sg B (fr+q') (i+a+q))))):=by
        cases hd1:dcd f2 (d+1) n' (sg B fr (i+a+q))with
        |error x =>
         rw[hd1]at hdi hde;obtain⟨hx0,rfl,m',W9⟩:=hdi;exact⟨.s [],_,_,_,_,m',x,rfl,ZAE _ _,W9,JR ⟨hx0,hde⟩⟩
        |ok r =>
         obtain⟨y,q',m'⟩:=r;rw[hd1]at hdi hde;simp only at hde;obtain⟨W9,v1,v2,v3,rfl,hy⟩:=hdi;obtain⟨k1,k2,k3,k4,k5,k6⟩:=(Z7C f2 (d+1) n' (sg B fr (i+a+q))).1 _ _ _ hd1;refine⟨y,v1,v2,v3,_,m',0,rfl,hy,W9,JP ⟨rfl,by omega,q',k1,by omega,rfl,?_⟩⟩;rw[hde,ZEl,<-ZEU];congr 1
       obtain⟨y,v1,v2,v3,nx,m',x,rfl,hy,W9,hout⟩:=key;have cW:w8.cell? ⟨D,2,I⟩=Q (.int U 0):=W8.rd1 rfl;clear hdi hde W8 Y8 X8 M08;obtain⟨bb,p1,q1,r1,p2,q2,r2,rfl,rfl,rfl⟩:=hy.vals;refine⟨_,_,_,_,_,_,_,_,rfl,?_⟩;rintro dA wA⟨rfl,rfl⟩;have HA:=Blk.new w9 111 #[.bool V,.slice I 0 0,.slice I 0 0];have M9A:Vcg.Mod NoB w9 _:=Mod.alloc w9 (J0 #[.bool V,.slice I 0 0,.slice I 0 0] 111);have hsA:=ZC w9 (J0 #[.bool V,.slice I 0 0,.slice I 0 0] 111);generalize hHA:w9.heap.size=HH at *
       generalize w9.alloc (J0 #[.bool V,.slice I 0 0,.slice I 0 0] 111)=wA at *
       refine Z8i HA rfl rfl rfl (fun wB HB QB=>?_);have M9B:Vcg.Mod NoB w9 wB:=ZK M9A QB (by omega);have XB:=X9.mod' M9B;have YB:=Y9.mod' M9B;have WB:=W9.mod' M9B;have hyB:=ItC.mod M9B _ hy;have IB:=I9.mod' M9B;have MB:=M09.none_trans M9B;have hsB:=M9B.size;clear HA M9A QB X9 Y9 W9 I9 M09 hy;refine⟨_,_,_,by rw[Z6];exact YB.rd1 rfl,Z7w HB ?_⟩;rintro dD wD⟨rfl,rfl⟩;have MD:Vcg.Mod NoB wB _:=Mod.alloc wB (J0 #[.bool bb,.slice p1 q1 r1,.slice p2 q2 r2] 111);have E:=Blk.new wB 111 #[.bool bb,.slice p1 q1 r1,.slice p2 q2 r2];have XD:=XB.mod' MD;have YD:=YB.mod' MD;have WD:=WB.mod' MD;have hyD:=ItC.mod MD _ hyB;have ID:=IB.mod' MD;have M0D:=MB.none_trans MD;have hsD:=MD.size;clear XB YB WB HB hyB IB MB;generalize wB.heap.size=HE at *
       generalize wB.alloc (J0 #[.bool bb,.slice p1 q1 r1,.slice p2 q2 r2] 111)=wD at *
       obtain⟨o',k',wE,hrun,IE,QE,hOB⟩:=ID.push E (ItC.mono (fun b hb=>by
        rcases hb with h|h
        ·exact Nat.lt_of_lt_of_le h hs8
        ·exact hI9 b h) _ hyD) (by omega)
       have nE:∀b,OB o' b->w7.heap.size<=b:=fun b hb=>by
        rcases hOB b hb with h|h
        ·exact hnew b h
        ·omega
       have XE:=XD.mod QE (fun h=>by have:=hnew _ h;omega);have YE:=YD.mod QE (fun h=>by have:=hnew _ h;omega);have WE:=WD.mod QE (fun h=>by have:=hnew _ h;omega);have M0E:=M0D.trans QE (fun i hi h=>by have:=hnew _ h;omega);have hsE:=QE.size;refine⟨_,wE,hrun,_,_,_,rfl,?_⟩;rw[Z6];refine⟨YE.canSet (by simp) rfl,?_⟩;rintro _ rfl;have QF:Vcg.Mod (·=Y) wE _:=Mod.setCell wE ⟨Y,0+2,I⟩ (.slice o' (xs.length+1) k');have YF:=YE.set 2 (.slice o' (xs.length+1) k');have IF:=IE.modS QF (fun b hb=>by omega) (fun b hb h=>by have:=nE b hb;omega);have XF:=XE.mod QF (by omega);have WF:=WE.mod QF (by omega);have M0F:=M0E.trans QF (fun i hi h=>by omega);have hsF:=QF.size;have hl1:xs.length+1=(xs++[y]).length:=by rw[P,JE]
       have cF:World.cell? _ ⟨D,2,I⟩=Q (.int U x):=WF.rd1 rfl;rcases hout with⟨hx0,hde⟩|⟨rfl,hm',q',hq1,hq2,rfl,hde⟩
       ·refine⟨JR ⟨x,m',hx0,hde,WF,⟨_,_,_,XF⟩,M0F⟩,?_⟩
        dsimp only;rw[cW,cF];simp only;split
        ·rename_i h
         simp only[Option.some.injEq,Value.int.injEq,true_and]at h;exact(hx0 h).elim
        ·omega
       ·refine⟨JP ⟨fr+q',m',xs++[y],f2,o',k',rfl,by omega,hq2,WF,hm',by rw[<-hl1];exact YF,⟨_,_,_,XF⟩,by rw[<-hl1];exact IF,nE,M0F,by omega,hde,by omega,by omega,by omega⟩,?_⟩
        dsimp only;rw[cW,cF];simp only;omega
     ·rcases hst with h|⟨fr,n',xs,f',ol,kl,rfl,hfr1,hfr2,rest⟩
      ·exact JR h
      ·obtain rfl:fr=i+a+q:=by omega
       exact JP ⟨i+a+q,n',xs,f',ol,kl,rfl,hfr1,hfr2,rest⟩
    ·rintro _ w8(⟨x,n',hx0,hde,W8,⟨xa,xb,xc,X8⟩,M08⟩|⟨fr,n',xs,f',ol,kl,hfr,hfr1,hfr2,W8,hn',Y8,⟨xa,xb,xc,X8⟩,I8,hnew,M08,hs8,hde,hf',hff,hxl⟩)
     ·refine⟨x,by rw[Z6];exact W8.rd1 rfl,fun _=>?_,fun h=>(hx0 h).elim⟩
      rw[hde]at hdec;refine Z1Q X8 (fun w9 M9=>hR _ _ ⟨M08.trans M9 (fun i hi h=>by omega),?_⟩);rw[hdec];exact⟨hx0,rfl,n',W8.mod M9 (by omega)⟩
     ·obtain rfl:fr=i+a+q:=by omega
      refine⟨0,by rw[Z6];exact W8.rd1 rfl,fun h=>(h rfl).elim,fun _=>?_⟩;obtain⟨f2,rfl⟩:∃f2,f'=f2+1:=⟨f'-1,by omega⟩;rw[ZHX,Z8y]at hde
      have hits:=I8.its (fun b hb h=>by
       have:=hnew b h;have hb':b<w7.heap.size:=hb;omega)
      refine Z7w Y8 (Z1Q X8 (fun w9 M9=>hR _ _ ⟨M08.trans M9 (fun i hi h=>by omega),?_⟩));rw[hdec,hde];simp only[pre,List.append_nil];refine⟨W8.mod M9 (by omega),_,_,_,by rw[Ja],?_⟩;simp only[ItC];refine⟨trivial,trivial,ol,kl,rfl,Z1X.mono (fun b hb=>?_) _ (Z1X.modA M9 (fun b hb=>?_) _ hits),I8.cap⟩
      ·have hb':b<w.heap.size:=hb
       show b<w7.heap.size;omega
      ·show b<w7.heap.size
       omega
theorem ZHW(B:By):sg B 0 B.length=B:=by simp[sg]
theorem ZAV{w:J2}{o:Option Addr}{k:Nat}{bs:By}(hr:RdB w o bs)(hk:bs.length<=k) :
  J4 K Z0X.n #[.slice o bs.length k] w (fun e w'=>Vcg.Mod NoB w w'/\Z3B bs w e w'):=by
 refine ZG fun R hR=>Z0X.vc _ _ _ _ _ ?_;unfold Z0X.Vc;rintro d1 w1⟨rfl,rfl⟩;have M1:Vcg.Mod NoB w _:=Mod.alloc w (J0 #[.bool V,.slice I 0 0,.slice I 0 0] 111);have X1:=Blk.new w 111 #[.bool V,.slice I 0 0,.slice I 0 0];have hs1:=ZC w (J0 #[.bool V,.slice I 0 0,.slice I 0 0] 111);have hr1:=hr.mod' M1;generalize hN:w.heap.size=N at *
 generalize w.alloc (J0 #[.bool V,.slice I 0 0,.slice I 0 0] 111)=w1 at *
 refine⟨fun hbig=>?_,fun hbig=>?_⟩
 ·refine Z1Q X1 (fun w2 M2=>hR _ _ ⟨ZK M1 M2 (by omega),?_⟩)
  unfold Z3B;rw[if_pos (by omega)];exact⟨_,_,_,_,_,_,_,_,rfl⟩
 ·rintro d2 w2⟨rfl,rfl⟩
  have M12:Vcg.Mod NoB w1 _:=Mod.alloc w1 (J0 #[.slice o bs.length k,.int U 0,.int U 0] 187);have W2:=Blk.new w1 187 #[.slice o bs.length k,.int U ((0:Nat):Int),.int U 0];have X2:=X1.mod' M12;have hr2:=hr1.mod' M12;have M2:=M1.none_trans M12;have hs2:=ZC w1 (J0 #[.slice o bs.length k,.int U 0,.int U 0] 187)
  have hoff:bs≠[]->Off (·=w1.heap.size) o:=fun hne e he h=>by
   obtain⟨b,f,ho,hb,_⟩:=hr hne;rw[ho]at he;cases he;simp only at h;omega
  have hc:=Z8R (2*bs.length+1) 1 0 0 bs.length bs (k:=k) (by omega) (JC _) (J1 _) (by omega) hr2 hk W2 hoff (by omega) (by omega);rw[ZHW]at hc;refine Calls.mono (R:=fun e w'=>Vcg.Mod (·=w1.heap.size) (w1.alloc (J0 #[.slice o bs.length k,.int U 0,.int U 0] 187)) w'/\RdIs (dcd (2*bs.length+1) 1 0 bs) (.slice o bs.length k) 0 (w1.alloc (J0 #[.slice o bs.length k,.int U 0,.int U 0] 187)) w1.heap.size e w') hc ?_;rintro e w3⟨M3,hd⟩;have M03:Vcg.Mod NoB w w3:=ZK M2 M3 (by omega);have X3:=X2.mod M3 (by omega);have hs3:=M3.size;generalize hD:w1.heap.size=D at *
  have key:∃(y:It)(v1 v2 v3:Value)(nx:Int)(m':Nat)(x:Int),e=G (C #[.agg #[v1,v2,v3],.int U nx])/\ItC (fun b=>b<D) w3 y v1 v2 v3/\Blk w3 D 187 #[.slice o bs.length k,.int U (m':Int),.int U x] /\
    ((x≠0/\dcd (2*bs.length+1) 1 0 bs=JN x)\/(x=0/\∃q,dcd (2*bs.length+1) 1 0 bs=Jc (y,q,m')/\nx=(q:Int))):=by
   cases hdc:dcd (2*bs.length+1) 1 0 bs with
   |error x =>
    rw[hdc]at hd;obtain⟨hx0,rfl,m',W3⟩:=hd;exact⟨.s [],_,_,_,_,m',x,rfl,ZAE _ _,W3,JR ⟨hx0,rfl⟩⟩
   |ok r =>
    obtain⟨y,q,m⟩:=r;rw[hdc]at hd;obtain⟨W3,v1,v2,v3,rfl,hy⟩:=hd;refine⟨y,v1,v2,v3,_,m,0,rfl,ItC.mono (fun b hb=>?_) _ hy,W3,JP ⟨rfl,q,rfl,by rw[J9]⟩⟩;show b<_;rw[hs2];have hb':b<D:=hb;omega
  obtain⟨y,v1,v2,v3,nx,m',x,rfl,hy,W3,hout⟩:=key;clear hd hc;obtain⟨bb,p1,q1,r1,p2,q2,r2,rfl,rfl,rfl⟩:=hy.vals;refine⟨_,_,_,_,_,_,_,_,rfl,?_⟩;rintro d4 w4⟨rfl,rfl⟩;have H:=Blk.new w3 111 #[.bool V,.slice I 0 0,.slice I 0 0];have M34:Vcg.Mod NoB w3 _:=Mod.alloc w3 (J0 #[.bool V,.slice I 0 0,.slice I 0 0] 111);refine Z8i H rfl rfl rfl (fun w5 H5 Q5=>?_);have M35:Vcg.Mod NoB w3 w5:=ZK M34 Q5 (J1 _);have X5:=X3.mod' M35;have W5:=W3.mod' M35;have hy5:=ItC.mod M35 _ hy;have M05:=M03.none_trans M35;have hs5:=M35.size;clear H M34 Q5 X3 W3 hy M03 M35;refine⟨x,by rw[Z6];exact W5.rd1 rfl,fun hx0=>?_,fun hx0=>?_⟩
  ·rcases hout with⟨_,hdc⟩|⟨h,_⟩
   ·rintro _ rfl
    have M6:Vcg.Mod NoB w5 w5.drew:=Mod.drew w5;have W6:=W5.mod' M6;have X6:=X5.mod' M6;have M06:=M05.none_trans M6;generalize w5.drew=w6 at *
    refine⟨x,by rw[Z6];exact W6.rd1 rfl,Z8i X6 rfl rfl rfl (fun w7 X7 Q7=>⟨by rw[Z6];exact(W6.mod Q7 (by omega)).rd1 rfl,Z7w X7 (hR _ _ ⟨ZK M06 Q7 (by omega),?_⟩)⟩)⟩;unfold Z3B;rw[if_neg (by omega),hdc];exact⟨hx0,_,_,_,_,_,_,_,_,rfl⟩
   ·exact(hx0 h).elim
  ·rcases hout with⟨h,_⟩|⟨_,q,hdc,rfl⟩
   ·exact(h hx0).elim
   ·refine Z7w H5 (Z1Q X5 (fun w7 Q7=>hR _ _ ⟨ZK M05 Q7 (by omega),?_⟩))
    unfold Z3B;rw[if_neg (by omega),hdc];refine⟨_,_,_,rfl,ItC.mono (fun b hb=>?_) _ (ItC.modA Q7 (fun b hb=>?_) _ hy5)⟩
    ·have hb':b<w.heap.size:=hb
     show b<D;omega
    ·show b<D
     omega
theorem Z5b{w:J2}{o:Option Addr}{k:Nat}{bs:By}(hr:RdB w o bs)(hk:bs.length<=k) :
  J4 K Z0J.n #[.slice o bs.length k] w (fun e w'=>Vcg.Mod NoB w w'/\Z2E bs w e w'):=by
 refine ZG fun R hR=>Z0J.vc _ _ _ _ _ ?_;unfold Z0J.Vc;rintro d1 w1⟨rfl,rfl⟩;have M1:Vcg.Mod NoB w _:=Mod.alloc w (J0 #[.bool V,.slice I 0 0,.slice I 0 0] 111);have X1:=Blk.new w 111 #[.bool V,.slice I 0 0,.slice I 0 0];have hs1:=ZC w (J0 #[.bool V,.slice I 0 0,.slice I 0 0] 111);have hr1:=hr.mod' M1;generalize hN:w.heap.size=N at *
 generalize w.alloc (J0 #[.bool V,.slice I 0 0,.slice I 0 0] 111)=w1 at *
 refine(ZAV hr1 hk).mono ?_;rintro e w2⟨M2,hf⟩;have M02:=M1.none_trans M2;have X2:=X1.mod' M2;have hs2:=M2.size
 have bad:∀(w':J2)(x:Int),Z4U bs=JN x->x≠0->Vcg.Mod NoB w w'->Blk w' N 111 #[.bool V,.slice I 0 0,.slice I 0 0]->∀w'':J2,Vcg.Mod (·=N) w' w''->R (G (C #[.agg #[.bool V,.slice I 0 0,.slice I 0 0],.int U x])) w'':=by
  intro w' x hx h0 M X w'' M';refine hR _ _ ⟨ZK M M' (by omega),?_⟩;unfold Z2E;rw[hx];exact⟨h0,_,_,_,_,_,_,_,rfl⟩
 have key:(∃b p1 q1 r1 p2 q2 r2 n1 x,e=G (C #[.agg #[.bool b,.slice p1 q1 r1,.slice p2 q2 r2],.int U n1,.int U x])/\x≠0/\Z4U bs=JN x) \/
   (∃y q m v1 v2 v3,¬bs.length>65536/\dcd (2*bs.length+1) 1 0 bs=Jc (y,q,m)/\e=G (C #[.agg #[v1,v2,v3],.int U (q:Int),.int U 0])/\ItC (fun b=>b<w1.heap.size) w2 y v1 v2 v3):=by
  unfold Z3B at hf;split at hf
  ·rename_i hbig
   obtain⟨b,p1,q1,r1,p2,q2,r2,n1,he⟩:=hf;exact JR ⟨_,_,_,_,_,_,_,_,_,he,by decide,by unfold Z4U;rw[if_pos hbig]⟩
  ·rename_i hbig
   split at hf
   ·rename_i x hdc
    obtain⟨hx,b,p1,q1,r1,p2,q2,r2,n1,he⟩:=hf;exact JR ⟨_,_,_,_,_,_,_,_,_,he,hx,by unfold Z4U;rw[if_neg hbig,hdc]⟩
   ·rename_i y q m hdc
    obtain⟨v1,v2,v3,he,hy⟩:=hf;exact JP ⟨_,_,_,_,_,_,hbig,hdc,he,hy⟩
 rcases key with⟨b,p1,q1,r1,p2,q2,r2,n1,x,rfl,hx,hdc⟩|⟨y,q,m,v1,v2,v3,hbig,hdc,rfl,hy⟩
 ·refine⟨_,_,_,_,_,_,_,_,_,rfl,?_⟩
  rintro d3 w3⟨rfl,rfl⟩;have H:=Blk.new w2 111 #[.bool V,.slice I 0 0,.slice I 0 0];have M23:Vcg.Mod NoB w2 _:=Mod.alloc w2 (J0 #[.bool V,.slice I 0 0,.slice I 0 0] 111);refine Z8i H rfl rfl rfl (fun w4 H4 Q4=>?_);have M24:Vcg.Mod NoB w2 w4:=ZK M23 Q4 (J1 _);exact⟨fun h=>(hx h).elim,fun _=>⟨fun _=>Z1Q (X2.mod' M24) (bad w4 x hdc hx (M02.none_trans M24) (X2.mod' M24)),fun h=>(hx h).elim⟩⟩
 ·obtain⟨bb,p1,q1,r1,p2,q2,r2,rfl,rfl,rfl⟩:=hy.vals
  refine⟨_,_,_,_,_,_,_,_,_,rfl,?_⟩;rintro d3 w3⟨rfl,rfl⟩;have H:=Blk.new w2 111 #[.bool V,.slice I 0 0,.slice I 0 0];have M23:Vcg.Mod NoB w2 _:=Mod.alloc w2 (J0 #[.bool V,.slice I 0 0,.slice I 0 0] 111);refine Z8i H rfl rfl rfl (fun w4 H4 Q4=>?_);have M24:Vcg.Mod NoB w2 w4:=ZK M23 Q4 (J1 _);have X4:=X2.mod' M24;have hy4:=ItC.mod M24 _ hy;refine⟨fun _=>⟨fun hlt=>?_,fun hlt=>⟨fun h=>(h rfl).elim,fun _=>?_⟩⟩,fun h=>(h rfl).elim⟩
  ·refine Z1Q X4 (bad w4 42 ?_ (by decide) (M02.none_trans M24) X4)
   unfold Z4U;rw[if_neg hbig,hdc];simp only;rw[if_pos (by omega)]
  ·refine Z7w H4 (Z1Q X4 (fun w5 M5=>hR _ _ ⟨ZK (M02.none_trans M24) M5 (by omega),?_⟩))
   have hd:Z4U bs=Jc y:=by
    unfold Z4U;rw[if_neg hbig,hdc];simp only;rw[if_neg (by omega)]
   unfold Z2E;rw[hd];refine⟨_,_,_,rfl,ItC.mono (fun b hb=>?_) _ (ItC.modA M5 (fun b hb=>?_) _ hy4)⟩
   ·have:b<w.heap.size:=hb
    show b<w1.heap.size;omega
   ·show b<w1.heap.size
    omega
theorem ZDt(xs:List It){j:Nat}(hj:j<xs.length):Z1d (xs.take (j+1))=Z1d (xs.take j)++enc xs[j]:=by
 rw[J7 hj,encs_append];simp[Z1d]
theorem Z9a:∀(f:Nat) (x:It) {A:Nat->Prop} {w0 w:J2} {b:Bool} {o1:Option Addr} {l1 c1:Nat} {o2:Option Addr} {l2 c2:Nat},dep x<=f->ItC A w0 x (.bool b) (.slice o1 l1 c1) (.slice o2 l2 c2)->Vcg.Mod NoB w0 w->(enc x).length<=65536 ->
  J4 K Z17.n #[.agg #[.bool b,.slice o1 l1 c1,.slice o2 l2 c2]] w (fun e w'=>∃o' k',e=G (.slice o' (enc x).length k')/\ZT w w' tU8 1 o' (enc x).length k' ((enc x).map bV))
 |0,x,_,_,_,_,_,_,_,_,_,_,hd,_,_,_=>absurd (ZBA x) (by omega)
 |f+1,x,A,w0,w,b,o1,l1,c1,o2,l2,c2,hd,h,M,hl=>by
  refine ZG fun R hR=>Z17.vc _ _ _ _ _ _ _ _ _ ?_;unfold Z17.Vc;rintro d3 w1⟨rfl,rfl⟩;have M1:Vcg.Mod NoB w _:=Mod.alloc w (J0 #[.bool b,.slice o1 l1 c1,.slice o2 l2 c2] 111);have X1:=Blk.new w 111 #[.bool b,.slice o1 l1 c1,.slice o2 l2 c2];have hs1:=ZC w (J0 #[.bool b,.slice o1 l1 c1,.slice o2 l2 c2] 111);generalize hN:w.heap.size=N at *
  generalize w.alloc (J0 #[.bool b,.slice o1 l1 c1,.slice o2 l2 c2] 111)=w1 at *
  have M01:=M.none_trans M1;have from1:∀{w2:J2}{o:Option Addr}{l k:Nat}{vs:List Value},ZT w1 w2 tU8 1 o l k vs->ZT w w2 tU8 1 o l k vs:=fun F=>⟨F.own,M1.none_trans F.mod,fun k hk=>by have:=F.new k hk;omega⟩;cases x with
  |s bs =>
   simp only[ItC]at h;obtain⟨h1,⟨o,c,h2,h3,h4⟩,h5⟩:=h;cases h1;cases h2;cases h5
   have hbl:bs.length<2^30:=by
    have:bs.length<=(enc (.s bs)).length:=by
     simp only[enc];split
     ·exact J1 _
     ·rw[P];omega
    omega
   refine⟨_,X1.rd1 rfl,fun _=>⟨_,_,_,by rw[Z6];exact X1.rd1 rfl,?_⟩,fun hb=>(by cases hb)⟩;refine(Z6W (h3.mod' M01) hbl).mono ?_;rintro _ w2⟨o',k',rfl,F⟩;exact⟨_,_,_,rfl,hR _ _ ⟨o',k',rfl,from1 F⟩⟩
  |l xs =>
   simp only[ItC]at h;obtain⟨h1,h2,o,c,h3,h4,_⟩:=h;cases h1;cases h2;cases h3
   have hel:(Z1d xs).length<=65536:=by
    simp only[enc,P]at hl;omega
   refine⟨_,X1.rd1 rfl,fun hb=>(by cases hb),fun _=>?_⟩;refine⟨fun o' l' k' i w'=>∃j:Nat,i=(j:Int)/\j<=xs.length/\l'=(Z1d (xs.take j)).length/\ZT w1 w' tU8 1 o' l' k' ((Z1d (xs.take j)).map bV),fun _ _ _ i _=>((xs.length:Int)-i).toNat,⟨0,rfl,JC _,rfl,ZT.nil (Mod.refl w1) _ _⟩,?_⟩;rintro o4 _ k4 _ _ w4⟨j,rfl,hj,rfl,F4⟩;have X4:=X1.mod' F4.mod;have hlen:=Z5y xs;have hc:=Z90 xs;refine⟨_,_,_,by rw[Z6];exact X4.rd1 rfl,fun hlt=>⟨fun hle=>?_,fun hgt=>?_⟩,fun hge=>?_⟩
   ·have hjl:j<xs.length:=by omega
    have M04:=M01.none_trans F4.mod;obtain⟨g,f0,v1,v2,v3,ho,hg,e1,e2,e3,hi⟩:=(Z1X.mod M04 _ h4).get j hjl;obtain⟨bb,p1,q1,r1,p2,q2,r2,rfl,rfl,rfl⟩:=hi.vals;rw[J9]at e1 e2 e3
    have hdj:dep xs[j]<=f:=by
     have:=Z5z (JA hjl);simp only[dep]at hd;omega
    have hej:=ZDt xs hjl;have hle2:=Z1j xs (j+1);rw[hej,P]at hle2;refine⟨_,_,_,by rw[Z6];exact X4.rd1 rfl,_,ho,⟨by omega,by omega⟩,_,_,_,_,_,_,_,by rw[Z6,T];exact e1,by rw[Z6,Z6,T];exact e2,by rw[Z6,Z6,T];exact e3,?_⟩;refine(Z9a f xs[j] hdj hi (Mod.refl w4) (by omega)).mono ?_;rintro _ w5⟨o5,k5,rfl,F5⟩;obtain⟨o6,k6,w6,hr6,F6⟩:=ZW (k2:=k5) (ty:=23) (F4.mod' F5.mod) F5.own.bytes (by omega);have ew:O U ((j:Int)+1)=((j+1:Nat):Int):=by rw[Z0 (by omega) (by omega)];omega
    rw[ew];rw[<-hej]at F6;refine⟨_,_,_,rfl,_,w6,hr6,_,_,_,rfl,⟨j+1,rfl,hjl,?_,?_⟩,by dsimp only;omega⟩
    ·rw[hej,P]
    ·exact F6
   ·have:=Z1j xs j
    omega
   ·obtain rfl:j=xs.length:=by omega
    rw[List.take_length]at F4 ⊢;refine(Z3n F4.own.bytes (by omega)).mono ?_;rintro _ w5⟨o5,k5,rfl,F5⟩;refine⟨_,_,_,rfl,hR _ _ ⟨o5,k5,?_,?_⟩⟩
    ·simp only[enc]
    ·simp only[enc]
     exact from1 ⟨F5.own,F4.mod.none_trans F5.mod,fun k hk=>JV F4.mod.size (F5.new k hk)⟩
end Go.Proofs.YtfghidehlnfdiaaGreat
end
section
namespace Go.Proofs.YtfghidehlnfdiaaGreat
open Go Go.Vcg
abbrev Z1r.n:Nat:=121
def Z1r.Vc(a:Option Addr)(b c:Nat)(w:J2)(R:JM->J2->Prop):Prop :=
 J4 K 102 #[.slice a b c] w (fun a b =>
 ∃c d e f g h i j,a=G (C #[.agg #[.bool c,.slice d e f,.slice g h i],.int U j]) /\
 ∀a k,ZB b 111 #[.bool V,.slice I 0 0,.slice I 0 0] a k ->
 Z1 k a (.bool c)/\∀b,Z8 k a (.bool c) b ->
 Z1 b (a.add 1) (.slice d e f)/\∀c,Z8 b (a.add 1) (.slice d e f) c ->
 Z1 c (a.add 2) (.slice g h i)/\∀b,Z8 c (a.add 2) (.slice g h i) b ->
 ((j≠0 ->
 R (G (C #[J,.int U j])) b) /\
 (j=0 ->
 ∃c d e f g h i,b.cell? a=Q (.bool c) /\
 b.cell? (a.add 1)=Q (.slice d e f) /\
 b.cell? (a.add 2)=Q (.slice g h i) /\
 J4 K 135 #[.agg #[.bool c,.slice d e f,.slice g h i]] b (fun a b =>
 ∃c d,a=G (C #[c,.bool d]) /\
 ((d=V ->
 R (G (C #[J,.int U 143])) b) /\
 (d=J5 ->
 R (G (C #[c,.int U 0])) b))))))
theorem Z1r.vc(a b c w R)(h:Z1r.Vc a b c w R):J4 K 121 #[(.slice a b c)] w R:=xs [] [.slice a b c] Tryz.func121 ZO (by kernel_rfl) h
abbrev Z2j.n:Nat:=135
def Z2j.Vc(a:Bool)(b:Option Addr)(c d:Nat)(e:Option Addr)(f g:Nat)(w:J2)(R:JM->J2->Prop):Prop :=
 ∀h i,ZB w 111 #[.bool a,.slice b c d,.slice e f g] h i ->
 ∃a,i.cell? h=Q (.bool a) /\
 ((a=V ->
 R (G (C #[J,.bool V])) i) /\
 (a=J5 ->
 ∃a b c,i.cell? (h.add 2)=Q (.slice a b c) /\
 (((b:Int)=2 ->
 ∀a,ZL i a ->
 ∃c d e,a.cell? (h.add 2)=Q (.slice c d e) /\
 ∃e,c=Q e /\
 ((0:Int)<=0/\0<(d:Int)) /\
 ∃c d f g j k l,a.cell? (e.add 0)=Q (.bool c) /\
 a.cell? ((e.add 0).add 1)=Q (.slice d f g) /\
 a.cell? ((e.add 0).add 2)=Q (.slice j k l) /\
 ∃e m n,a.cell? (h.add 2)=Q (.slice e m n) /\
 ∃n,e=Q n /\
 ((0:Int)<=1/\1<(m:Int)) /\
 ∃e m o p q r s,a.cell? (n.add 3)=Q (.bool e) /\
 a.cell? ((n.add 3).add 1)=Q (.slice m o p) /\
 a.cell? ((n.add 3).add 2)=Q (.slice q r s) /\
 J4 K 146 #[.agg #[.bool c,.slice d f g,.slice j k l],.agg #[.bool e,.slice m o p,.slice q r s]] a (fun a c =>
 ∃d e,a=G (C #[d,.bool e]) /\
 R (G (C #[d,.bool e])) c)) /\
 ((b:Int)≠2 ->
 ∃a b c,i.cell? (h.add 2)=Q (.slice a b c) /\
 (((b:Int)=17 ->
 ∃a c d,i.cell? (h.add 2)=Q (.slice a c d) /\
 J4 K 147 #[.slice a c d] i (fun a c =>
 ∃d e,a=G (C #[d,.bool e]) /\
 R (G (C #[d,.bool e])) c)) /\
 ((b:Int)≠17 ->
 R (G (C #[J,.bool V])) i))))))
theorem Z2j.vc(a b c d e f g w R)(h:Z2j.Vc a b c d e f g w R):J4 K 135 #[(.agg #[(.bool a),(.slice b c d),(.slice e f g)])] w R:=xs [] [.agg [.bool (.var a),.slice b c d,.slice e f g]] Tryz.func135 ZO (by kernel_rfl) h
abbrev Z2k.n:Nat:=146
def Z2k.Vc(a:Bool)(b:Option Addr)(c d:Nat)(e:Option Addr)(f g:Nat)(h:Bool)(i:Option Addr)(j k:Nat)(l:Option Addr)(m n:Nat)(w:J2)(R:JM->J2->Prop):Prop :=
 ∀o p,ZB w 111 #[.bool a,.slice b c d,.slice e f g] o p ->
 ∀a b,ZB p 111 #[.bool h,.slice i j k,.slice l m n] a b ->
 ∃c,b.cell? o=Q (.bool c) /\
 ((c=J5 ->
 R (G (C #[J,.bool V])) b) /\
 (c=V ->
 ∃c d e,b.cell? (o.add 1)=Q (.slice c d e) /\
 J4 K 99 #[.slice c d e] b (fun b c =>
 ∃d e f g h,b=G (C #[.slice d e f,.bool g,.int U h]) /\
 ((h≠0 ->
 R (G (C #[J,.bool V])) c) /\
 (h=0 ->
 ((g=J5 ->
 ∀b,ZL c b ->
 ∃h i j,b.cell? (a.add 1)=Q (.slice h i j) /\
 ∃k,b.cell? a=Q (.bool k) /\
 ((k=V ->
 ∃l m n,b.cell? (a.add 1)=Q (.slice l m n) /\
 ∀o p,ZB b 243 #[.slice d e f,.slice h i j] o p ->
 p.cell? (a.add 1)=Q (.slice l m n) /\
 p.cell? a=Q (.bool k) /\
 R (G (C #[JD 241 (J6 (Q o)),.bool (decide ((m:Int)>0))])) p) /\
 (k=J5 ->
 ∀l m,ZB b 243 #[.slice d e f,.slice h i j] l m ->
 m.cell? a=Q (.bool k) /\
 R (G (C #[JD 241 (J6 (Q l)),.bool V])) m))) /\
 (g=V ->
 (((e:Int)=0 ->
 R (G (C #[J,.bool V])) c) /\
 ((e:Int)≠0 ->
 ∃b g h i j k l,c.cell? a=Q (.bool b) /\
 c.cell? (a.add 1)=Q (.slice g h i) /\
 c.cell? (a.add 2)=Q (.slice j k l) /\
 J4 K 158 #[.agg #[.bool b,.slice g h i,.slice j k l]] c (fun a b =>
 ∃c g,a=G (C #[c,.bool g]) /\
 Value.oneCell' c=J5 /\
 ∀a h,ZB b 251 #[.slice d e f,c] a h ->
 R (G (C #[JD 249 (J6 (Q a)),.bool g])) h))))))))))
theorem Z2k.vc(a b c d e f g i j k l m n o w R)(h:Z2k.Vc a b c d e f g i j k l m n o w R):J4 K 146 #[(.agg #[(.bool a),(.slice b c d),(.slice e f g)]),(.agg #[(.bool i),(.slice j k l),(.slice m n o)])] w R:=xs [] [.agg [.bool (.var a),.slice b c d,.slice e f g],.agg [.bool (.var i),.slice j k l,.slice m n o]] Tryz.func146 ZO (by kernel_rfl) h
abbrev Z1R.n:Nat:=147
def Z1R.Vc(a:Option Addr)(b c:Nat)(w:J2)(R:JM->J2->Prop):Prop :=
 ∃d,a=Q d /\
 ((0:Int)<=16/\16<(b:Int)) /\
 ∃e,w.cell? (d.add 48)=Q (.bool e) /\
 ((e=J5 ->
 R (G (C #[J,.bool V])) w) /\
 (e=V ->
 ∃d,a=Q d /\
 ((0:Int)<=16/\16<(b:Int)) /\
 ∃b e f,w.cell? ((d.add 48).add 1)=Q (.slice b e f) /\
 ∀d g,ZB w 247 (setsAt #[J,J,J,J,J,J,J,J,J,J,J,J,J,J,J,J,.slice I 0 0] 16 [.slice b e f]) d g ->
 ∃(b:Int->J2->Prop),(∃e f h,g.cell? (d.add 16)=Q (.slice e f h) /\
 (((f:Int)>0 ->
 b 1 g) /\
 (¬(f:Int)>0 ->
 b 0 g))) /\
 (∀(e:Int)(f:Nat->Value)(f:J2),b e f ->
 16<=c /\
 ∃(b:Int->Int->J2->Prop)(c:Int->Int->J2->Nat),b e 0 f /\
 (∀(e:Int)(f:Int)(g:Nat->Value)(g:J2),b e f g ->
 ((f<(16:Int) ->
 ∃h,a=Q h /\
 ((0:Int)<=f/\f<(16:Int)) /\
 ∃a i j k l m n,g.cell? (h.add (f.toNat*3))=Q (.bool a) /\
 g.cell? ((h.add (f.toNat*3)).add 1)=Q (.slice i j k) /\
 g.cell? ((h.add (f.toNat*3)).add 2)=Q (.slice l m n) /\
 ∀h o,ZB g 111 #[.bool V,.slice I 0 0,.slice I 0 0] h o ->
 Z1 o h (.bool a)/\∀p,Z8 o h (.bool a) p ->
 Z1 p (h.add 1) (.slice i j k)/\∀a,Z8 p (h.add 1) (.slice i j k) a ->
 Z1 a (h.add 2) (.slice l m n)/\∀i,Z8 a (h.add 2) (.slice l m n) i ->
 ∃(a:J2->Prop),(∃j,i.cell? h=Q (.bool j) /\
 ((j=V ->
 ∃k l m,i.cell? (h.add 1)=Q (.slice k l m) /\
 (((l:Int)=0 ->
 b e (O U (f+1)) i/\c e (O U (f+1)) i<c e f g) /\
 ((l:Int)≠0 ->
 a  i))) /\
 (j=J5 ->
 a  i))) /\
 (∀  (i:Nat->Value)(i:J2),a  i ->
 ∃a j k l m n o,i.cell? h=Q (.bool a) /\
 i.cell? (h.add 1)=Q (.slice j k l) /\
 i.cell? (h.add 2)=Q (.slice m n o) /\
 J4 K 158 #[.agg #[.bool a,.slice j k l,.slice m n o]] i (fun a h =>
 ∃i j,a=G (C #[i,.bool j]) /\
 ((j=V ->
 R (G (C #[J,.bool V])) h) /\
 (j=J5 ->
 ((0:Int)<=f/\f<(16:Int)) /\
 Z1 h (d.add f.toNat) i/\∀a,Z8 h (d.add f.toNat) i a ->
 b (O U (e+1)) (O U (f+1)) a/\c (O U (e+1)) (O U (f+1)) a<c e f g))))) /\
 (¬f<(16:Int) ->
 R (G (C #[JD 244 (J6 (Q d)),.bool (decide (e>1))])) g))))))
theorem Z1R.vc(a b c w R)(h:Z1R.Vc a b c w R):J4 K 147 #[(.slice a b c)] w R:=xs [(1000007,[(5,.cell (.int U))]),(8,[(5,.cell (.int U)),(31,.cell (.int U))]),(1000011,[])] [.slice a b c] Tryz.func147 ZO (by kernel_rfl) h
abbrev Z1S.n:Nat:=158
def Z1S.Vc(a:Bool)(b:Option Addr)(c d:Nat)(e:Option Addr)(f g:Nat)(w:J2)(R:JM->J2->Prop):Prop :=
 ∀h i,ZB w 111 #[.bool a,.slice b c d,.slice e f g] h i ->
 ∃a,i.cell? h=Q (.bool a) /\
 ((a=V ->
 ∃b c d,i.cell? (h.add 1)=Q (.slice b c d) /\
 (((c:Int)≠32 ->
 R (G (C #[J,.bool V])) i) /\
 ((c:Int)=32 ->
 ∃b c d,i.cell? (h.add 1)=Q (.slice b c d) /\
 32<=c /\
 ∃c,b=Q c /\
 ∃b,ZH i c 32 b /\
 Array.size b=32 /\
 ∀c d,ZB i 228 (lputL (Array.replicate 32 (.int .u8 0)) 0 32 b) c d ->
 R (G (C #[JD 226 (J6 (Q c)),.bool J5])) d))) /\
 (a=J5 ->
 ∃a b c d e f g,i.cell? h=Q (.bool a) /\
 i.cell? (h.add 1)=Q (.slice b c d) /\
 i.cell? (h.add 2)=Q (.slice e f g) /\
 J4 K 143 #[.agg #[.bool a,.slice b c d,.slice e f g]] i (fun a b =>
 ∃c d e f,a=G (C #[.slice c d e,.int U f]) /\
 ((f≠0 ->
 R (G (C #[J,.bool V])) b) /\
 (f=0 ->
 (((d:Int)>=32 ->
 R (G (C #[J,.bool V])) b) /\
 (¬(d:Int)>=32 ->
 ∃a c d e f g i,b.cell? h=Q (.bool a) /\
 b.cell? (h.add 1)=Q (.slice c d e) /\
 b.cell? (h.add 2)=Q (.slice f g i) /\
 J4 K 135 #[.agg #[.bool a,.slice c d e,.slice f g i]] b (fun a b =>
 ∃c d,a=G (C #[c,.bool d]) /\
 R (G (C #[c,.bool d])) b))))))))
theorem Z1S.vc(a b c d e f g w R)(h:Z1S.Vc a b c d e f g w R):J4 K 158 #[(.agg #[(.bool a),(.slice b c d),(.slice e f g)])] w R:=xs [] [.agg [.bool (.var a),.slice b c d,.slice e f g]] Tryz.func158 ZO (by kernel_rfl) h
abbrev Z2h.n:Nat:=101
def Z2h.Vc(a:Option Addr)(b c:Nat)(w:J2)(R:JM->J2->Prop):Prop :=
 J4 K 121 #[.slice a b c] w (fun a b =>
 ∃c d,a=G (C #[c,.int U d]) /\
 R (G (.int U d)) b)
theorem Z2h.vc(a b c w R)(h:Z2h.Vc a b c w R):J4 K 101 #[(.slice a b c)] w R:=xs [] [.slice a b c] Tryz.func101 ZO (by kernel_rfl) h
end Go.Proofs.YtfghidehlnfdiaaGreat
end
section
namespace Go.Trie
def isE:It->Bool
 | .s []=>J5
 |_=>V
def ZEz:It->Bool
 | .s (_::_)=>J5
 |_=>V
end Go.Trie
end
section
namespace Go.Proofs.YtfghidehlnfdiaaGreat
open Go Go.Vcg Go.Trie
def Z15:It->Option (By×Bool)
 | .s p=>Z1C p
 | .l _=>I
def Z3Q:Nat->List It->Bool
 |0,_=>V
 |f+1,xs =>
  let ref:It->Bool:=fun x=>match x with
   | .s b=>decide (b.length=32)
   | .l ys=>decide ((enc (.l ys)).length<32)&&Z3Q f ys
  if xs.length=2 then
   match Z15 (xs.getD 0 (.s []))with
   |none=>V
   |some (_,J5)=>ZEz (xs.getD 1 (.s []))
   |some (p,V)=>decide (p≠[])&&ref (xs.getD 1 (.s []))
  else if xs.length=17 then
   match xs.getD 16 (.s [])with
   | .l _=>V
   | .s v=>(xs.take 16).all (fun x=>isE x||ref x)&&decide (2<=(if v=[]then 0 else 1)+((xs.take 16).filter (fun x=> !isE x)).length)
  else V
def Z4j(f:Nat)(x:It):Bool:=match x with
 | .s b=>decide (b.length=32)
 | .l ys=>decide ((enc (.l ys)).length<32)&&Z3Q f ys
def isN(f:Nat)(x:It):Bool:=match x with
 | .s _=>V
 | .l xs=>Z3Q f xs
theorem Z7V{f:Nat}{xs:List It}(h:xs.length=2):Z3Q (f+1) xs=(match Z15 (xs.getD 0 (.s []))with
  |none=>V
  |some (_,J5)=>ZEz (xs.getD 1 (.s []))
  |some (p,V)=>decide (p≠[])&&Z4j f (xs.getD 1 (.s []))):=by
 simp only[Z3Q];rw[if_pos h];rfl
theorem Z67{f:Nat}{xs:List It}(h:xs.length=17):Z3Q (f+1) xs=(match xs.getD 16 (.s [])with
  | .l _=>V
  | .s v=>(xs.take 16).all (fun x=>isE x||Z4j f x)&&decide (2<=(if v=[]then 0 else 1)+((xs.take 16).filter (fun x=> !isE x)).length)):=by
 simp only[Z3Q];rw[if_neg (by omega),if_pos h];rfl
theorem Z9B{f:Nat}{xs:List It}(h:xs.length≠2)(h':xs.length≠17):Z3Q (f+1) xs=V:=by
 simp only[Z3Q];rw[if_neg h,if_neg h']
def RV(N:Nat):Nat->J2->It->Value->Prop
 |_,w,.s b,v=>(b=[]/\v=J)\/(b.length=32/\∃D,N<=D/\v=JD 226 (J6 (Q ⟨D,0,I⟩))/\Blk w D 228 (hashA b))
 |0,_,.l _,_=>False
 |f+1,w,.l xs,v =>
  (xs.length=2/\(∃p,Z15 (xs.getD 0 (.s []))=Q (p,J5))/\∃d:Addr,v=JD 241 (J6 (Q d))) \/
  (xs.length=2/\(∃p,Z15 (xs.getD 0 (.s []))=Q (p,V))/\∃D s vc,N<=D/\v=JD 249 (J6 (Q ⟨D,0,I⟩))/\Blk w D 251 #[s,vc]/\RV N f w (xs.getD 1 (.s [])) vc) \/
  (xs.length=17/\∃D vs ov lv kv,N<=D/\v=JD 244 (J6 (Q ⟨D,0,I⟩))/\Blk w D 247 (brA vs ov lv kv)/\∀i:Fin 16,RV N f w (xs.getD i.val (.s [])) (vs i))
theorem RV.modS{S:Nat->Prop}{N N':Nat}{w w':J2}(M:Vcg.Mod S w w')(hS:∀b,S b->b<N)(hN:N'<=N):∀{f:Nat} {x:It} {v:Value},RV N f w x v->RV N' f w' x v
 |f,.s b,v,h=>by
  simp only[RV]at h ⊢;rcases h with h|⟨h1,D,h0,h2,h3⟩
  ·exact JR h
  ·exact JP ⟨h1,D,by omega,h2,h3.mod M (fun h=>by have:=hS _ h;omega)⟩
 |0,.l _,_,h=>by simp only[RV]at h
 |f+1,.l xs,v,h=>by
  simp only[RV]at h ⊢;rcases h with h|⟨h1,h2,D,s,vc,h0,h3,h4,h5⟩|⟨h1,D,vs,ov,lv,kv,h0,h2,h3,h4⟩
  ·exact JR h
  ·exact JP (JR ⟨h1,h2,D,s,vc,by omega,h3,h4.mod M (fun h=>by have:=hS _ h;omega),RV.modS M hS hN h5⟩)
  ·exact JP (JP ⟨h1,D,vs,ov,lv,kv,by omega,h2,h3.mod M (fun h=>by have:=hS _ h;omega),fun i=>RV.modS M hS hN (h4 i)⟩)
theorem RV.mod'{N N':Nat}{w w':J2}(M:Vcg.Mod NoB w w')(hN:N'<=N){f:Nat}{x:It}{v:Value}(h:RV N f w x v):RV N' f w' x v:=RV.modS M (fun _ h=>h.elim) hN h
def ZBt(x:It):Prop:=dep x<=16/\count x<=4096/\(enc x).length<=65536
theorem ZBt.mem{xs:List It}(h:ZBt (.l xs)){x:It}(hx:x∈xs):ZBt x:=by
 obtain⟨h1,h2,h3⟩:=h;have hd:=Z5z hx;have he:=ZDr hx
 have hc:count x<=Z0b xs:=by
  clear h1 h2 h3 hd he
  induction xs with
  |nil=>cases hx
  |cons y r ih =>
   simp only[Z0b];rcases List.mem_cons.1 hx with rfl|hx
   ·omega
   ·have:=ih hx;omega
 have hl:1<=xs.length:=List.length_pos_iff.2 (List.ne_nil_of_mem hx);simp only[dep]at h1;simp only[count]at h2;simp only[enc,P]at h3;exact⟨by omega,by omega,by omega⟩
def ZDW(f:Nat):Prop:=∀(x:It) {A:Nat->Prop} {w:J2} {v1 v2 v3:Value},dep x<=f->ZBt x->ItC A w x v1 v2 v3 ->
 J4 K Z2j.n #[.agg #[v1,v2,v3]] w (fun e w'=>∃v,e=G (C #[v,.bool (isN f x)])/\Vcg.Mod NoB w w'/\v.oneCell'=J5/\(isN f x=J5->RV w.heap.size f w' x v))
def ZAu(f:Nat):Prop:=∀(x:It) {A:Nat->Prop} {w:J2} {v1 v2 v3:Value},dep x<=f->ZBt x->ItC A w x v1 v2 v3 ->
 J4 K Z1S.n #[.agg #[v1,v2,v3]] w (fun e w'=>∃v,e=G (C #[v,.bool (Z4j f x)])/\Vcg.Mod NoB w w'/\v.oneCell'=J5/\(Z4j f x=J5->RV w.heap.size f w' x v))
theorem ZFQ{Z L:Array Value}(hZ:Z.size=32)(hL:L.size=32):lputL Z 0 32 L=L:=by
 unfold lputL;have ht:L.toList.take 32=L.toList:=List.take_of_length_le (by simp[hL]);rw[ht];apply Array.ext_getElem?;intro i;rw[Zq _ _ _ _ (by simp[hL,hZ])];by_cases hi:i<32
 ·rw[if_pos ⟨JC _,by simp[hL];exact hi⟩,Nat.sub_zero,Array.getElem?_toList]
 ·rw[if_neg (by simp[hL];omega),Array.getElem?_eq_none (by omega),Array.getElem?_eq_none (by omega)]
theorem ZFc{f:Nat}(hN:ZDW f):ZAu f:=by
 intro x A w v1 v2 v3 hdp hf hx;obtain⟨b,o1,l1,c1,o2,l2,c2,rfl,rfl,rfl⟩:=hx.vals;refine ZG fun R hR=>Z1S.vc _ _ _ _ _ _ _ _ _ ?_;unfold Z1S.Vc;rintro d3 w1⟨rfl,rfl⟩;have M1:Vcg.Mod NoB w _:=Mod.alloc w (J0 #[.bool b,.slice o1 l1 c1,.slice o2 l2 c2] 111);have X1:=Blk.new w 111 #[.bool b,.slice o1 l1 c1,.slice o2 l2 c2];generalize w.alloc (J0 #[.bool b,.slice o1 l1 c1,.slice o2 l2 c2] 111)=w1 at *
 have hx1:=ItC.mod M1 _ hx;cases x with
 |s bs =>
  have hx1':=hx1;simp only[ItC]at hx1;obtain⟨h1,⟨o,c,h2,h3,h4⟩,h5⟩:=hx1;cases h1;cases h2;cases h5;refine⟨_,X1.rd1 rfl,fun _=>⟨_,_,_,by rw[Z6];exact X1.rd1 rfl,fun hn=>?_,fun hn=>⟨_,_,_,by rw[Z6];exact X1.rd1 rfl,by omega,?_⟩⟩,fun h=>(by cases h)⟩
  ·refine hR _ _ ⟨J,?_,M1,rfl,fun h=>?_⟩
   ·simp only[Z4j];rw[decide_eq_false (by omega)]
   ·simp only[Z4j,decide_eq_true_eq]at h;omega
  ·obtain⟨g,f0,rfl,hg,hc⟩:=h3 (by rintro rfl;simp at hn)
   refine⟨_,rfl,hashA bs,⟨ZA bs,fun i hi=>?_⟩,ZA bs,?_⟩
   ·rw[Z6,hc i (by omega)]
    simp only[hashA];exact(ZE (f:=fun i=>bV (bs.getD i 0)) hi).symm
   ·rw[ZFQ (by simp) (ZA bs)]
    rintro d4 w2⟨rfl,rfl⟩;refine hR _ _ ⟨JD 226 (J6 (Q ⟨w1.heap.size,0,I⟩)),?_,M1.step_alloc _,rfl,fun _=>?_⟩
    ·simp only[Z4j];rw[decide_eq_true (by omega)]
    ·simp only[RV]
     exact JP ⟨by omega,_,M1.size,rfl,Blk.new w1 228 (hashA bs)⟩
 |l xs =>
  have hx1':=hx1;simp only[ItC]at hx1;obtain⟨h1,h2,o,c,h3,h4,hcap⟩:=hx1;cases h1;cases h2;cases h3;refine⟨_,X1.rd1 rfl,fun h=>(by cases h),fun _=>Z7w X1 ?_⟩;refine(Z9X hx1' hf.1 hf.2.1 hf.2.2).mono ?_;rintro _ w2⟨o',k',rfl,F⟩;have M02:=M1.none_trans F.mod;have X2:=X1.mod' F.mod;refine⟨_,_,_,_,rfl,fun h=>(h rfl).elim,fun _=>⟨fun hge=>?_,fun hlt=>Z7w X2 ?_⟩⟩
  ·refine hR _ _ ⟨J,?_,M02,rfl,fun h=>?_⟩
   ·simp only[Z4j];rw[decide_eq_false (by omega)];rfl
   ·simp only[Z4j,Bool.and_eq_true,decide_eq_true_eq]at h;omega
  ·refine(hN (.l xs) hdp hf (ItC.mod F.mod _ hx1')).mono ?_
   rintro _ w3⟨v,rfl,M3,hv,hrv⟩
   have e:Z4j f (.l xs)=isN f (.l xs):=by
    simp only[Z4j,isN];rw[decide_eq_true (by omega)];rfl
   exact⟨_,_,rfl,hR _ _ ⟨v,by rw[e],M02.none_trans M3,hv,fun h=>RV.mod' (Mod.refl _) M02.size (hrv (by rw[<-e];exact h))⟩⟩
theorem ZBb{f:Nat}(hRf:ZAu f){x y:It}{A:Nat->Prop}{w:J2}{v1 v2 v3 u1 u2 u3:Value}(hdy:dep y<=f)(hfx:ZBt x)(hfy:ZBt y)(hx:ItC A w x v1 v2 v3)(hy:ItC A w y u1 u2 u3) :
  J4 K Z2k.n #[.agg #[v1,v2,v3],.agg #[u1,u2,u3]] w (fun e w'=>∃v,e=G (C #[v,.bool (Z3Q (f+1) [x,y])])/\Vcg.Mod NoB w w'/\v.oneCell'=J5/\(Z3Q (f+1) [x,y]=J5->RV w.heap.size (f+1) w' (.l [x,y]) v)):=by
 obtain⟨b,o1,l1,c1,o2,l2,c2,rfl,rfl,rfl⟩:=hx.vals;obtain⟨b',p1,q1,r1,p2,q2,r2,rfl,rfl,rfl⟩:=hy.vals;refine ZG fun R hR=>Z2k.vc _ _ _ _ _ _ _ _ _ _ _ _ _ _ _ _ ?_;unfold Z2k.Vc
 have hnode:Z3Q (f+1) [x,y]=(match Z15 x with
  |none=>V
  |some (_,J5)=>ZEz y
  |some (p,V)=>decide (p≠[])&&Z4j f y):=Z7V rfl
 rintro d6 w1⟨rfl,rfl⟩;have M1:Vcg.Mod NoB w _:=Mod.alloc w (J0 #[.bool b,.slice o1 l1 c1,.slice o2 l2 c2] 111);have X1:=Blk.new w 111 #[.bool b,.slice o1 l1 c1,.slice o2 l2 c2];generalize w.alloc (J0 #[.bool b,.slice o1 l1 c1,.slice o2 l2 c2] 111)=w1 at *
 rintro d8 w2⟨rfl,rfl⟩;have M12:Vcg.Mod NoB w1 _:=Mod.alloc w1 (J0 #[.bool b',.slice p1 q1 r1,.slice p2 q2 r2] 111);have Y2:=Blk.new w1 111 #[.bool b',.slice p1 q1 r1,.slice p2 q2 r2];have X2:=X1.mod' M12;have M2:=M1.none_trans M12;generalize w1.heap.size=N' at *
 generalize w1.alloc (J0 #[.bool b',.slice p1 q1 r1,.slice p2 q2 r2] 111)=w2 at *
 have hx2:=ItC.mod M2 _ hx;have hy2:=ItC.mod M2 _ hy
 have no:∀w',Z15 x=I->Vcg.Mod NoB w w'->R (G (C #[J,.bool V])) w':=fun w' h M=>by
  rw[h]at hnode;exact hR _ _ ⟨J,by rw[hnode],M,rfl,fun h=>by rw[hnode]at h;cases h⟩
 refine⟨_,X2.rd1 rfl,fun hb=>no _ ?_ M2,fun hb=>⟨_,_,_,by rw[Z6];exact X2.rd1 rfl,?_⟩⟩
 ·cases x with
  |s bs=>simp only[ItC]at hx2;cases hx2.1;cases hb
  |l xs=>rfl
 cases x with
 |l xs=>simp only[ItC]at hx2;cases hx2.1;cases hb
 |s bs =>
  simp only[ItC]at hx2;obtain⟨h1,⟨o,c,h2,h3,h4⟩,h5⟩:=hx2;cases h1;cases h2;cases h5
  have hbl:bs.length<=2^20:=by
   have:bs.length<=(enc (.s bs)).length:=by
    simp only[enc];split
    ·exact J1 _
    ·rw[P];omega
   have:=hfx.2.2;omega
  simp only[Z15]at hnode no;refine(Z6J h3 hbl).mono ?_;rintro _ w3⟨o',k',rfl,M3,R3,_⟩;have M03:=M2.none_trans M3;have Y3:=Y2.mod' M3;have hy3:=ItC.mod M3 _ hy2;cases hu:Z1C bs with
  |none =>
   have e:upk bs=([],V,143):=by unfold upk;rw[hu]
   rw[e];exact⟨_,_,_,_,_,rfl,fun _=>no _ hu M03,fun h=>absurd h (by decide)⟩
  |some r =>
   obtain⟨p,lf⟩:=r;have e:upk bs=(p,lf,0):=by unfold upk;rw[hu]
   rw[e];rw[hu]at hnode;refine⟨_,_,_,_,_,rfl,fun h=>(h rfl).elim,fun _=>⟨fun hlf=>?_,fun hlf=>?_⟩⟩
   ·subst hlf
    simp only at hnode;rintro _ rfl;have M4:Vcg.Mod NoB w3 w3.drew:=Mod.drew w3;have Y4:=Y3.mod' M4;have M04:=M03.none_trans M4;generalize w3.drew=w4 at *
    have hrv:∀(w':J2)(d:Addr),RV w.heap.size (f+1) w' (.l [.s bs,y]) (JD 241 (J6 (Q d))):=fun w' d=>by
     simp only[RV];exact JR ⟨rfl,⟨p,hu⟩,d,rfl⟩
    cases y with
    |s vs =>
     simp only[ItC]at hy3;obtain⟨h1,⟨oy,cy,h2,h3',h4'⟩,h5⟩:=hy3;cases h1;cases h2;cases h5;refine⟨_,_,_,by rw[Z6];exact Y4.rd1 rfl,_,Y4.rd1 rfl,fun _=>⟨_,_,_,by rw[Z6];exact Y4.rd1 rfl,?_⟩,fun h=>(by cases h)⟩;rintro d5 w5⟨rfl,rfl⟩;refine⟨by rw[Z6];exact(Y4.mod' (Mod.alloc w4 _)).rd1 rfl,(Y4.mod' (Mod.alloc w4 _)).rd1 rfl,hR _ _ ⟨JD 241 (J6 (Q ⟨w4.heap.size,0,I⟩)),?_,M04.none_trans (Mod.alloc w4 _),rfl,fun _=>hrv _ _⟩⟩;rw[hnode];cases vs with
     |nil=>rfl
     |cons a r=>rw[decide_eq_true (by simp only[JF];omega)];rfl
    |l ys =>
     simp only[ItC]at hy3;obtain⟨h1,h2,oy,cy,h3',h4',_⟩:=hy3;cases h1;cases h2;cases h3';refine⟨_,_,_,by rw[Z6];exact Y4.rd1 rfl,_,Y4.rd1 rfl,fun h=>(by cases h),fun _=>?_⟩;rintro d5 w5⟨rfl,rfl⟩;refine⟨(Y4.mod' (Mod.alloc w4 _)).rd1 rfl,hR _ _ ⟨JD 241 (J6 (Q ⟨w4.heap.size,0,I⟩)),?_,M04.none_trans (Mod.alloc w4 _),rfl,fun _=>hrv _ _⟩⟩;rw[hnode];rfl
   ·subst hlf
    simp only at hnode;refine⟨fun hz=>?_,fun hz=>Z7w Y3 ?_⟩
    ·have hp:p=[]:=J3 (by dsimp only at hz;omega)
     rw[hp]at hnode;simp only[ne_eq,not_true_eq_false,decide_false,JS]at hnode;exact hR _ _ ⟨J,by rw[hnode],M03,rfl,fun h=>by rw[hnode]at h;cases h⟩
    ·have hp:p≠[]:=by rintro rfl;simp at hz
     rw[decide_eq_true hp,JJ]at hnode;refine(hRf y hdy hfy hy3).mono ?_;rintro _ w4⟨v,rfl,M4,hv,hrv⟩;refine⟨_,_,rfl,hv,?_⟩;rintro d5 w5⟨rfl,rfl⟩;have M5:Vcg.Mod NoB w4 _:=Mod.alloc w4 (J0 #[.slice o' p.length k',v] 251);refine hR _ _ ⟨JD 249 (J6 (Q ⟨w4.heap.size,0,I⟩)),by rw[hnode],(M03.none_trans M4).none_trans M5,rfl,fun h=>?_⟩;rw[hnode]at h;simp only[RV];exact JP (JR ⟨rfl,⟨p,hu⟩,_,_,v,(M03.none_trans M4).size,rfl,Blk.new w4 251 _,RV.mod' M5 M03.size (hrv h)⟩)
theorem Z1E{xs:List It}{j:Nat}(h:j<xs.length):xs.getD j (.s [])=xs[j]:=by
 rw[J8,JI h];rfl
theorem Z81{f:Nat}(hRf:ZAu f){xs:List It}{A:Nat->Prop}{w:J2}{o:Option Addr}{c:Nat}(h17:xs.length=17)(hd:∀x∈xs,dep x<=f)(hf:∀x∈xs,ZBt x)(hx:Z1X A w xs o 0)(hc:xs.length<=c) :
  J4 K Z1R.n #[.slice o xs.length c] w (fun e w'=>∃v,e=G (C #[v,.bool (Z3Q (f+1) xs)])/\Vcg.Mod NoB w w'/\v.oneCell'=J5/\(Z3Q (f+1) xs=J5->RV w.heap.size (f+1) w' (.l xs) v)):=by
 refine ZG fun R hR=>Z1R.vc _ _ _ _ _ ?_;unfold Z1R.Vc;have hnode:=Z67 (f:=f) h17;rw[Z1E (by omega)]at hnode;obtain⟨g,f0,v1,v2,v3,rfl,hg,e1,e2,e3,hi⟩:=hx.get 16 (by omega);have at16:=hi;refine⟨_,rfl,⟨by omega,by omega⟩,?_⟩;generalize hx16:xs[16]=x16 at *
 cases x16 with
 |l ys =>
  simp only[ItC]at hi;obtain⟨rfl,_⟩:=hi;refine⟨J5,by rw[Z6];exact e1,fun _=>hR _ _ ⟨J,by rw[hnode],Mod.refl w,rfl,fun h=>by rw[hnode]at h;cases h⟩,fun h=>(by cases h)⟩
 |s v =>
  simp only[ItC]at hi;obtain⟨rfl,⟨ov,cv,rfl,hv,_⟩,rfl⟩:=hi;refine⟨V,by rw[Z6];exact e1,fun h=>(by cases h),fun _=>⟨_,rfl,⟨by omega,by omega⟩,_,_,_,by rw[Z6,Z6];exact e2,?_⟩⟩;simp only at hnode;rintro d7 w1⟨rfl,rfl⟩;have hZ:setsAt #[J,J,J,J,J,J,J,J,J,J,J,J,J,J,J,J,(.slice I 0 0)] 16 [(.slice ov v.length cv)]=brA (fun _=>J) ov v.length cv:=rfl;rw[hZ];have M1:Vcg.Mod NoB w _:=Mod.alloc w (J0 (brA (fun _=>J) ov v.length cv) 247);have B1:=Blk.new w 247 (brA (fun _=>J) ov v.length cv);have hs1:=ZC w (J0 (brA (fun _=>J) ov v.length cv) 247);generalize hN:w.heap.size=N at *
  generalize w.alloc (J0 (brA (fun _=>J) ov v.length cv) 247)=w1 at *
  generalize hbase:(if v=[]then 0 else 1)=base at *
  refine⟨fun n w'=>w'=w1/\n=(base:Int),⟨_,_,_,by rw[Z6,J9];exact B1.rd1 (ZB0 _ _ _ _),fun h=>⟨rfl,?_⟩,fun h=>⟨rfl,?_⟩⟩,?_⟩
  ·rw[<-hbase,if_neg (by rintro rfl;simp at h)];rfl
  ·rw[<-hbase,if_pos (J3 (by omega))];rfl
  rintro _ _ w1⟨rfl,rfl⟩;have hb1:base<=1:=by rw[<-hbase];split<;>omega
  refine⟨by omega,fun n i w'=>∃(j:Nat)(vs:Fin 16->Value),i=(j:Int)/\j<=16/\n=((base+((xs.take j).filter (fun x=> !isE x)).length:Nat):Int)/\(xs.take j).all (fun x=>isE x||Z4j f x)=J5/\Vcg.Mod NoB w w'/\w1.heap.size<=w'.heap.size/\Blk w' N 247 (brA vs ov v.length cv)/\(∀q:Fin 16,q.val<j->RV w1.heap.size f w' (xs.getD q.val (.s [])) (vs q))/\(∀q:Fin 16,j<=q.val->vs q=J),fun _ i _=>((16:Int)-i).toNat,⟨0,fun _=>J,rfl,JC _,by simp,by simp,M1,J1 _,B1,fun q h=>absurd h (by omega),fun _ _=>rfl⟩,?_⟩;rintro _ _ _ w2⟨j,vs,rfl,hj,rfl,hall,M2,hs2,B2,hdone,hrest⟩;have ew:O U ((j:Int)+1)=((j+1:Nat):Int):=by rw[Z0 (by omega) (by omega)];omega
  have hcl:((xs.take j).filter (fun x=> !isE x)).length<=16:=JV (JQ _ _) (by rw[JK];omega);refine⟨fun hlt=>?_,fun hge=>?_⟩
  ·have hjl:j<xs.length:=by omega
   have hj16:j<16:=by omega
   obtain⟨g',f',u1,u2,u3,ho,hg',d1,d2,d3,hij⟩:=(Z1X.mod M2 _ hx).get j hjl;cases ho;rw[J9]at d1 d2 d3;obtain⟨b,p1,q1,r1,p2,q2,r2,rfl,rfl,rfl⟩:=hij.vals;refine⟨_,rfl,⟨by omega,by omega⟩,_,_,_,_,_,_,_,by rw[Z6,T];exact d1,by rw[Z6,Z6,T];exact d2,by rw[Z6,Z6,T];exact d3,?_⟩;rintro d27 w3⟨rfl,rfl⟩;have H:=Blk.new w2 111 #[.bool V,.slice I 0 0,.slice I 0 0];have M23:Vcg.Mod NoB w2 _:=Mod.alloc w2 (J0 #[.bool V,.slice I 0 0,.slice I 0 0] 111);refine Z8i H rfl rfl rfl (fun w4 H4 Q4=>?_);have M24:Vcg.Mod NoB w2 w4:=ZK M23 Q4 (J1 _);have M4:=M2.none_trans M24;have B4:=B2.mod' M24;have hij4:=ItC.mod M24 _ hij;have hs4:=M24.size;have hdone4:∀q:Fin 16,q.val<j->RV w1.heap.size f w4 (xs.getD q.val (.s [])) (vs q):=fun q hq=>RV.mod' M24 (J1 _) (hdone q hq);generalize w2.heap.size=HH at *
   clear M23 Q4 H M24 B2 hij hdone;have htk:xs.take (j+1)=xs.take j++[xs[j]]:=J7 hjl;refine⟨fun w'=>w'=w4/\isE xs[j]=V,⟨_,H4.rd1 rfl,fun hb=>⟨_,_,_,by rw[Z6];exact H4.rd1 rfl,fun hz=>?_,fun hz=>⟨rfl,?_⟩⟩,fun hb=>⟨rfl,?_⟩⟩,?_⟩
   ·
    have he:xs[j]=.s []:=by
     cases hq:xs[j]with
     |l ys=>rw[hq]at hij4;simp only[ItC]at hij4;cases hij4.1;cases hb
     |s bs =>
      rw[hq]at hij4;simp only[ItC]at hij4;obtain⟨_,⟨oo,cc,h2,_⟩,_⟩:=hij4;cases h2;rw[J3 (by omega:bs.length=0)]
    rw[ew];refine⟨⟨j+1,vs,rfl,hj16,?_,?_,M4,by omega,B4,fun q hq=>?_,fun q hq=>hrest q (by omega)⟩,by dsimp only;omega⟩
    ·rw[htk,JB,he];simp[isE]
    ·rw[htk,JG,hall,he];simp[isE]
    ·by_cases hqj:q.val<j
     ·exact hdone4 q hqj
     ·have hqe:q.val=j:=by omega
      rw[hqe,Z1E hjl,he,hrest q (by omega)];simp only[RV];exact JR ⟨trivial,trivial⟩
   ·cases hq:xs[j]with
    |l ys=>rfl
    |s bs =>
     rw[hq]at hij4;simp only[ItC]at hij4;obtain⟨_,⟨oo,cc,h2,_⟩,_⟩:=hij4;cases h2;cases bs with
     |nil=>simp at hz
     |cons a r=>rfl
   ·cases hq:xs[j]with
    |l ys=>rfl
    |s bs =>
     rw[hq]at hij4;simp only[ItC]at hij4;cases hij4.1;cases hb
   ·rintro _ w4⟨rfl,hne⟩
    refine Z7w H4 ?_;refine(hRf xs[j] (hd _ (JA hjl)) (hf _ (JA hjl)) hij4).mono ?_;rintro _ w5⟨u,rfl,M5,hu,hru⟩;have M05:=M4.none_trans M5;have B5:=B4.mod' M5;have hs5:=M5.size;refine⟨_,_,rfl,fun hb=>?_,fun hb=>⟨⟨by omega,by omega⟩,?_⟩⟩
    ·have hfalse:Z3Q (f+1) xs=V:=by
       rw[hnode]
       have:(xs.take 16).all (fun x=>isE x||Z4j f x)=V:=by
        rw[JW];refine⟨xs[j],?_,by rw[hne,hb];decide⟩;rw[JH];exact⟨j,by omega,rfl⟩
       rw[this,JS]
     exact hR _ _ ⟨J,by rw[hfalse],M05,rfl,fun h=>by rw[hfalse]at h;cases h⟩
    ·rw[Z6,J9,T]
     refine⟨B5.canSet (by rw[Z6l];omega) hu,?_⟩;rintro _ rfl;have Q6:Vcg.Mod (·=N) w5 _:=Mod.setCell w5 ⟨N,j,I⟩ u;have B6:=B5.set j u;rw[ZGN _ _ _ _ _ hj16]at B6;have M06:Vcg.Mod NoB w _:=ZK M05 Q6 (by omega)
     have en:O U (((base+((xs.take j).filter (fun x=> !isE x)).length:Nat):Int)+1)=((base+((xs.take (j+1)).filter (fun x=> !isE x)).length:Nat):Int):=by
      rw[Z0 (by omega) (by omega),htk,JB,P];simp only[List.filter_cons,hne,Bool.not_false,if_true,List.filter_nil,JE];omega
     rw[ew,en];refine⟨⟨j+1,ZGw vs j u,rfl,hj16,rfl,?_,M06,by rw[Z4O];omega,B6,fun q hq=>?_,fun q hq=>?_⟩,by dsimp only;omega⟩
     ·rw[htk,JG,hall]
      simp only[JT,JX,hb,Bool.or_true,JU,Bool.and_true]
     ·unfold ZGw
      by_cases hqj:q.val=j
      ·rw[if_pos hqj,hqj,Z1E hjl]
       exact RV.modS Q6 (fun b h=>by omega) (by omega) (hru hb)
      ·rw[if_neg hqj]
       exact RV.modS Q6 (fun b h=>by omega) (J1 _) (RV.mod' M5 (J1 _) (hdone4 q (by omega)))
     ·unfold ZGw
      rw[if_neg (by omega)];exact hrest q (by omega)
  ·obtain rfl:j=16:=by omega
   have hdec:decide (((base+((xs.take 16).filter (fun x=> !isE x)).length:Nat):Int)>1)=Z3Q (f+1) xs:=by
    rw[hnode,hall,JJ,JO,decide_eq_true_eq,decide_eq_true_eq];omega
   rw[hdec];refine hR _ _ ⟨JD 244 (J6 (Q ⟨N,0,I⟩)),rfl,M2,rfl,fun _=>?_⟩;simp only[RV];exact JP (JP ⟨h17,N,vs,ov,v.length,cv,by omega,rfl,B2,fun q=>RV.mod' (Mod.refl _) (by omega) (hdone q q.isLt)⟩)
theorem ZAN:∀f,ZDW f
 |0,x,_,_,_,_,_,hd,_,_=>absurd (ZBA x) (by omega)
 |f+1,x,A,w,v1,v2,v3,hd,hf,hx=>by
  have hRf:=ZFc (ZAN f);obtain⟨b,o1,l1,c1,o2,l2,c2,rfl,rfl,rfl⟩:=hx.vals;refine ZG fun R hR=>Z2j.vc _ _ _ _ _ _ _ _ _ ?_;unfold Z2j.Vc;rintro d3 w1⟨rfl,rfl⟩;have M1:Vcg.Mod NoB w _:=Mod.alloc w (J0 #[.bool b,.slice o1 l1 c1,.slice o2 l2 c2] 111);have X1:=Blk.new w 111 #[.bool b,.slice o1 l1 c1,.slice o2 l2 c2];generalize w.alloc (J0 #[.bool b,.slice o1 l1 c1,.slice o2 l2 c2] 111)=w1 at *
  have hx1:=ItC.mod M1 _ hx;cases x with
  |s bs =>
   simp only[ItC]at hx1;obtain⟨h1,_,_⟩:=hx1;cases h1;exact⟨_,X1.rd1 rfl,fun _=>hR _ _ ⟨J,rfl,M1,rfl,fun h=>by cases h⟩,fun h=>(by cases h)⟩
  |l xs =>
   simp only[ItC]at hx1;obtain⟨h1,h2,o,c,h3,h4,hc⟩:=hx1;cases h1;cases h2;cases h3
   have hds:∀x∈xs,dep x<=f:=fun x hx=>by
    have:=Z5z hx;simp only[dep]at hd;omega
   refine⟨_,X1.rd1 rfl,fun h=>(by cases h),fun _=>⟨_,_,_,by rw[Z6];exact X1.rd1 rfl,fun h2=>?_,fun h2=>⟨_,_,_,by rw[Z6];exact X1.rd1 rfl,fun h17=>⟨_,_,_,by rw[Z6];exact X1.rd1 rfl,?_⟩,fun h17=>?_⟩⟩⟩
   ·obtain⟨x,y,rfl⟩:∃x y,xs=[x,y]:=by
      cases xs with
      |nil=>simp at h2
      |cons x r =>
       cases r with
       |nil=>simp at h2
       |cons y r =>
        cases r with
        |nil=>exact⟨x,y,rfl⟩
        |cons z r=>simp at h2;omega
    rintro _ rfl;have M2:Vcg.Mod NoB w1 w1.drew:=Mod.drew w1;have X2:=X1.mod' M2;have h4':=Z1X.mod M2 _ h4;have M02:=M1.none_trans M2;generalize w1.drew=w2 at *
    obtain⟨g,f0,u1,u2,u3,rfl,hg,e1,e2,e3,hi⟩:=h4'.get 0 (by simp);obtain⟨g',f0',t1,t2,t3,ho,hg',d1,d2,d3,hi'⟩:=h4'.get 1 (by simp);cases ho;have hix:ItC A w2 x u1 u2 u3:=hi;have hiy:ItC A w2 y t1 t2 t3:=hi';obtain⟨_,_,_,_,_,_,_,rfl,rfl,rfl⟩:=hix.vals;obtain⟨_,_,_,_,_,_,_,rfl,rfl,rfl⟩:=hiy.vals;refine⟨_,_,_,by rw[Z6];exact X2.rd1 rfl,_,rfl,⟨by decide,by simp⟩,_,_,_,_,_,_,_,by rw[Z6];exact e1,by rw[Z6,Z6];exact e2,by rw[Z6,Z6];exact e3,_,_,_,by rw[Z6];exact X2.rd1 rfl,_,rfl,⟨by decide,by simp⟩,_,_,_,_,_,_,_,by rw[Z6];exact d1,by rw[Z6,Z6];exact d2,by rw[Z6,Z6];exact d3,?_⟩;refine(ZBb hRf (hds y (by simp)) (hf.mem (by simp)) (hf.mem (by simp)) hix hiy).mono ?_;rintro _ w3⟨v,rfl,M3,hv,hrv⟩;exact⟨_,_,rfl,hR _ _ ⟨v,rfl,M02.none_trans M3,hv,fun h=>RV.mod' (Mod.refl _) M02.size (hrv h)⟩⟩
   ·have h17':xs.length=17:=by omega
    refine(Z81 hRf h17' hds (fun x hx=>hf.mem hx) h4 hc).mono ?_;rintro _ w3⟨v,rfl,M3,hv,hrv⟩;exact⟨_,_,rfl,hR _ _ ⟨v,rfl,M1.none_trans M3,hv,fun h=>RV.mod' (Mod.refl _) M1.size (hrv h)⟩⟩
   ·have hno:isN (f+1) (.l xs)=V:=Z9B (by omega) (by omega)
    exact hR _ _ ⟨J,by rw[hno],M1,rfl,fun h=>by rw[hno]at h;cases h⟩
end Go.Proofs.YtfghidehlnfdiaaGreat
end
section
namespace Go.Proofs.YtfghidehlnfdiaaGreat
open Go Go.Vcg
abbrev Z0u.n:Nat:=93
def Z0u.Vc(a:Bool)(b:Option Addr)(c d:Nat)(e:Option Addr)(f g:Nat)(w:J2)(R:JM->J2->Prop):Prop :=
 ∀h i,ZB w 111 #[.bool a,.slice b c d,.slice e f g] h i ->
 ∃a,i.cell? h=Q (.bool a) /\
 ((a=V ->
 R (G (.bool V)) i) /\
 (a=J5 ->
 ∃a b c,i.cell? (h.add 2)=Q (.slice a b c) /\
 (((b:Int)=2 ->
 ∃a c d,i.cell? (h.add 2)=Q (.slice a c d) /\
 ∃d,a=Q d /\
 ((0:Int)<=0/\0<(c:Int)) /\
 ∃a,i.cell? (d.add 0)=Q (.bool a) /\
 ((a=J5 ->
 R (G (.bool V)) i) /\
 (a=V ->
 ∃a c d,i.cell? (h.add 2)=Q (.slice a c d) /\
 ∃d,a=Q d /\
 ((0:Int)<=0/\0<(c:Int)) /\
 ∃a c e,i.cell? ((d.add 0).add 1)=Q (.slice a c e) /\
 J4 K 95 #[.slice a c e] i (fun a c =>
 ∃d e f g j,a=G (C #[.slice d e f,.bool g,.int U j]) /\
 ((j≠0 ->
 R (G (.bool V)) c) /\
 (j=0 ->
 ((g=J5 ->
 ∃a d f,c.cell? (h.add 2)=Q (.slice a d f) /\
 ∃f,a=Q f /\
 ((0:Int)<=1/\1<(d:Int)) /\
 ∃a,c.cell? (f.add 3)=Q (.bool a) /\
 ((a=V ->
 ∃d f j,c.cell? (h.add 2)=Q (.slice d f j) /\
 ∃j,d=Q j /\
 ((0:Int)<=1/\1<(f:Int)) /\
 ∃d f k,c.cell? ((j.add 3).add 1)=Q (.slice d f k) /\
 R (G (.bool (decide ((f:Int)>0)))) c) /\
 (a=J5 ->
 R (G (.bool V)) c))) /\
 (g=V ->
 ∃a d f,c.cell? (h.add 2)=Q (.slice a d f) /\
 ∃f,a=Q f /\
 ((0:Int)<=1/\1<(d:Int)) /\
 ∃a d g j k l m,c.cell? (f.add 3)=Q (.bool a) /\
 c.cell? ((f.add 3).add 1)=Q (.slice d g j) /\
 c.cell? ((f.add 3).add 2)=Q (.slice k l m) /\
 J4 K 116 #[.agg #[.bool a,.slice d g j,.slice k l m]] c (fun a c =>
 ∃d f,a=G (C #[.bool d,.bool f]) /\
 (((e:Int)>0 ->
 ((d=J5 ->
 R (G (.bool f)) c) /\
 (d=V ->
 R (G (.bool V)) c))) /\
 (¬(e:Int)>0 ->
 R (G (.bool V)) c))))))))))) /\
 ((b:Int)≠2 ->
 (((b:Int)=17 ->
 ∃(a:Int->Int->J2->Prop)(c:Int->Int->J2->Nat),a 0 0 i /\
 (∀(d:Int)(e:Int)(f:Nat->Value)(f:J2),a d e f ->
 ((e<16 ->
 ∃g j k,f.cell? (h.add 2)=Q (.slice g j k) /\
 ∃k,g=Q k /\
 ((0:Int)<=e/\e<(j:Int)) /\
 ∃g j l m n o p,f.cell? (k.add (e.toNat*3))=Q (.bool g) /\
 f.cell? ((k.add (e.toNat*3)).add 1)=Q (.slice j l m) /\
 f.cell? ((k.add (e.toNat*3)).add 2)=Q (.slice n o p) /\
 J4 K 116 #[.agg #[.bool g,.slice j l m,.slice n o p]] f (fun g j =>
 ∃k l,g=G (C #[.bool k,.bool l]) /\
 ((k=V ->
 R (G (.bool V)) j) /\
 (k=J5 ->
 ((l=J5 ->
 a (O U (d+1)) (O U (e+1)) j/\c (O U (d+1)) (O U (e+1)) j<c d e f) /\
 (l=V ->
 a d (O U (e+1)) j/\c d (O U (e+1)) j<c d e f)))))) /\
 (¬e<16 ->
 ∃a c e,f.cell? (h.add 2)=Q (.slice a c e) /\
 ∃e,a=Q e /\
 ((0:Int)<=16/\16<(c:Int)) /\
 ∃a,f.cell? (e.add 48)=Q (.bool a) /\
 ((a=J5 ->
 R (G (.bool V)) f) /\
 (a=V ->
 ∃a c e,f.cell? (h.add 2)=Q (.slice a c e) /\
 ∃e,a=Q e /\
 ((0:Int)<=16/\16<(c:Int)) /\
 ∃a c g,f.cell? ((e.add 48).add 1)=Q (.slice a c g) /\
 (((c:Int)>0 ->
 R (G (.bool (decide ((O U (d+1))>=2)))) f) /\
 (¬(c:Int)>0 ->
 R (G (.bool (decide (d>=2)))) f)))))))) /\
 ((b:Int)≠17 ->
 R (G (.bool V)) i))))))
theorem Z0u.vc(a b c d e f g w R)(h:Z0u.Vc a b c d e f g w R):J4 K 93 #[(.agg #[(.bool a),(.slice b c d),(.slice e f g)])] w R:=xs [(17,[(8,.cell (.int U)),(9,.cell (.int U))])] [.agg [.bool (.var a),.slice b c d,.slice e f g]] Tryz.func93 ZO (by kernel_rfl) h
abbrev Z0f.n:Nat:=116
def Z0f.Vc(a:Bool)(b:Option Addr)(c d:Nat)(e:Option Addr)(f g:Nat)(w:J2)(R:JM->J2->Prop):Prop :=
 ∀h i,ZB w 111 #[.bool a,.slice b c d,.slice e f g] h i ->
 ∃a,i.cell? h=Q (.bool a) /\
 ((a=V ->
 ∀b,ZL i b ->
 ∃c d e,b.cell? (h.add 1)=Q (.slice c d e) /\
 (((d:Int)=32 ->
 ∃c e f,b.cell? (h.add 1)=Q (.slice c e f) /\
 R (G (C #[.bool J5,.bool (decide ((e:Int)>0))])) b) /\
 ((d:Int)≠32 ->
 ∃c d e,b.cell? (h.add 1)=Q (.slice c d e) /\
 ∃c e f,b.cell? (h.add 1)=Q (.slice c e f) /\
 R (G (C #[.bool (decide ((d:Int)=0)),.bool (decide ((e:Int)>0))])) b))) /\
 (a=J5 ->
 ∃a b c d e f g,i.cell? h=Q (.bool a) /\
 i.cell? (h.add 1)=Q (.slice b c d) /\
 i.cell? (h.add 2)=Q (.slice e f g) /\
 J4 K 79 #[.agg #[.bool a,.slice b c d,.slice e f g]] i (fun a b =>
 ∃c d e,a=G (.slice c d e) /\
 (((d:Int)<32 ->
 ∃a c e f g i j,b.cell? h=Q (.bool a) /\
 b.cell? (h.add 1)=Q (.slice c e f) /\
 b.cell? (h.add 2)=Q (.slice g i j) /\
 J4 K 93 #[.agg #[.bool a,.slice c e f,.slice g i j]] b (fun a c =>
 ∃e,a=G (.bool e) /\
 R (G (C #[.bool e,.bool J5])) c)) /\
 (¬(d:Int)<32 ->
 R (G (C #[.bool V,.bool J5])) b)))))
theorem Z0f.vc(a b c d e f g w R)(h:Z0f.Vc a b c d e f g w R):J4 K 116 #[(.agg #[(.bool a),(.slice b c d),(.slice e f g)])] w R:=xs [] [.agg [.bool (.var a),.slice b c d,.slice e f g]] Tryz.func116 ZO (by kernel_rfl) h
abbrev Z0H.n:Nat:=59
def Z0H.Vc(a:Option Addr)(b c:Nat)(w:J2)(R:JM->J2->Prop):Prop :=
 J4 K 60 #[.slice a b c] w (fun a b =>
 ∃c d e f g h i j,a=G (C #[.agg #[.bool c,.slice d e f,.slice g h i],.int U j]) /\
 ∀a k,ZB b 111 #[.bool V,.slice I 0 0,.slice I 0 0] a k ->
 Z1 k a (.bool c)/\∀b,Z8 k a (.bool c) b ->
 Z1 b (a.add 1) (.slice d e f)/\∀c,Z8 b (a.add 1) (.slice d e f) c ->
 Z1 c (a.add 2) (.slice g h i)/\∀b,Z8 c (a.add 2) (.slice g h i) b ->
 ((j≠0 ->
 R (G (.int U j)) b) /\
 (j=0 ->
 ∃c d e f g h i,b.cell? a=Q (.bool c) /\
 b.cell? (a.add 1)=Q (.slice d e f) /\
 b.cell? (a.add 2)=Q (.slice g h i) /\
 J4 K 93 #[.agg #[.bool c,.slice d e f,.slice g h i]] b (fun a b =>
 ∃c,a=G (.bool c) /\
 ((c=V ->
 R (G (.int U 143)) b) /\
 (c=J5 ->
 R (G (.int U 0)) b))))))
theorem Z0H.vc(a b c w R)(h:Z0H.Vc a b c w R):J4 K 59 #[(.slice a b c)] w R:=xs [] [.slice a b c] Tryz.func59 ZO (by kernel_rfl) h
end Go.Proofs.YtfghidehlnfdiaaGreat
end
section
namespace Go.Proofs.YtfghidehlnfdiaaGreat
open Go Go.Vcg Go.Trie
theorem Z9G{f:Nat}{x:It}(h:Z4j f x=J5):isE x=V:=by
 cases x with
 |l ys=>rfl
 |s bs =>
  cases bs with
  |nil=>simp[Z4j]at h
  |cons a r=>rfl
def IsAt(f:Nat):Prop:=∀(x:It) {A:Nat->Prop} {w:J2} {v1 v2 v3:Value},dep x<=f->ZBt x->ItC A w x v1 v2 v3 ->
 J4 K Z0u.n #[.agg #[v1,v2,v3]] w (fun e w'=>e=G (.bool (isN f x))/\Vcg.Mod NoB w w')
def ZGK(f:Nat):Prop:=∀(x:It) {A:Nat->Prop} {w:J2} {v1 v2 v3:Value},dep x<=f->ZBt x->ItC A w x v1 v2 v3 ->
 J4 K Z0f.n #[.agg #[v1,v2,v3]] w (fun e w'=>e=G (C #[.bool (isE x||Z4j f x),.bool (!isE x)])/\Vcg.Mod NoB w w')
theorem ZFd{f:Nat}(hN:IsAt f):ZGK f:=by
 intro x A w v1 v2 v3 hdp hf hx;obtain⟨b,o1,l1,c1,o2,l2,c2,rfl,rfl,rfl⟩:=hx.vals;refine Z0f.vc _ _ _ _ _ _ _ _ _ ?_;unfold Z0f.Vc;rintro d3 w1⟨rfl,rfl⟩;have M1:Vcg.Mod NoB w _:=Mod.alloc w (J0 #[.bool b,.slice o1 l1 c1,.slice o2 l2 c2] 111);have X1:=Blk.new w 111 #[.bool b,.slice o1 l1 c1,.slice o2 l2 c2];generalize w.alloc (J0 #[.bool b,.slice o1 l1 c1,.slice o2 l2 c2] 111)=w1 at *
 have hx1:=ItC.mod M1 _ hx;cases x with
 |s bs =>
  simp only[ItC]at hx1;obtain⟨h1,⟨o,c,h2,h3,h4⟩,h5⟩:=hx1;cases h1;cases h2;cases h5;refine⟨_,X1.rd1 rfl,fun _=>?_,fun h=>(by cases h)⟩;rintro _ rfl;have X2:=X1.drew;have M2:=M1.step_drew;refine⟨_,_,_,by rw[Z6];exact X2.rd1 rfl,fun h32=>⟨_,_,_,by rw[Z6];exact X2.rd1 rfl,?_,M2⟩,fun h32=>⟨_,_,_,by rw[Z6];exact X2.rd1 rfl,_,_,_,by rw[Z6];exact X2.rd1 rfl,?_,M2⟩⟩
  ·have e1:Z4j f (.s bs)=J5:=by simp only[Z4j];exact decide_eq_true (by omega)
   rw[e1,Z9G e1,decide_eq_true (by omega)];rfl
  ·have e1:Z4j f (.s bs)=V:=by simp only[Z4j];exact decide_eq_false (by omega)
   rw[e1];cases bs with
   |nil=>rfl
   |cons a r=>rw[decide_eq_false (by simp only[JF];omega),decide_eq_true (by simp only[JF];omega)];rfl
 |l xs =>
  have hx1':=hx1;simp only[ItC]at hx1;obtain⟨h1,h2,o,c,h3,h4,hcap⟩:=hx1;cases h1;cases h2;cases h3;refine⟨_,X1.rd1 rfl,fun h=>(by cases h),fun _=>Z7w X1 ?_⟩;refine(Z9a f (.l xs) hdp hx1' (Mod.refl w1) hf.2.2).mono ?_;rintro _ w2⟨o',k',rfl,F⟩;have M02:=M1.none_trans F.mod;have X2:=X1.mod' F.mod;refine⟨_,_,_,rfl,fun hlt=>Z7w X2 ?_,fun hge=>⟨?_,M02⟩⟩
  ·refine(hN (.l xs) hdp hf (ItC.mod F.mod _ hx1')).mono ?_
   rintro _ w3⟨rfl,M3⟩
   have e:Z4j f (.l xs)=isN f (.l xs):=by
    simp only[Z4j,isN];rw[decide_eq_true (by omega)];rfl
   exact⟨_,rfl,by rw[e];rfl,M02.none_trans M3⟩
  ·have e:Z4j f (.l xs)=V:=by simp only[Z4j];rw[decide_eq_false (by omega)];rfl
   rw[e];rfl
theorem ZG2:∀f,IsAt f
 |0,x,_,_,_,_,_,hd,_,_=>absurd (ZBA x) (by omega)
 |f+1,x,A,w,v1,v2,v3,hd,hf,hx=>by
  have hRf:=ZFd (ZG2 f);obtain⟨b,o1,l1,c1,o2,l2,c2,rfl,rfl,rfl⟩:=hx.vals;refine Z0u.vc _ _ _ _ _ _ _ _ _ ?_;unfold Z0u.Vc;rintro d3 w1⟨rfl,rfl⟩;have M1:Vcg.Mod NoB w _:=Mod.alloc w (J0 #[.bool b,.slice o1 l1 c1,.slice o2 l2 c2] 111);have X1:=Blk.new w 111 #[.bool b,.slice o1 l1 c1,.slice o2 l2 c2];generalize w.alloc (J0 #[.bool b,.slice o1 l1 c1,.slice o2 l2 c2] 111)=w1 at *
  have hx1:=ItC.mod M1 _ hx;cases x with
  |s bs =>
   simp only[ItC]at hx1;obtain⟨h1,_,_⟩:=hx1;cases h1;exact⟨_,X1.rd1 rfl,fun _=>⟨rfl,M1⟩,fun h=>(by cases h)⟩
  |l xs =>
   simp only[ItC]at hx1;obtain⟨h1,h2,o,c,h3,h4,hc⟩:=hx1;cases h1;cases h2;cases h3
   have hds:∀x∈xs,dep x<=f:=fun x hx=>by
    have:=Z5z hx;simp only[dep]at hd;omega
   refine⟨_,X1.rd1 rfl,fun h=>(by cases h),fun _=>⟨_,_,_,by rw[Z6];exact X1.rd1 rfl,fun h2=>?_,fun h2=>⟨fun h17=>?_,fun h17=>?_⟩⟩⟩
   ·obtain⟨x,y,rfl⟩:∃x y,xs=[x,y]:=by
      cases xs with
      |nil=>simp at h2
      |cons x r =>
       cases r with
       |nil=>simp at h2
       |cons y r =>
        cases r with
        |nil=>exact⟨x,y,rfl⟩
        |cons z r=>simp at h2;omega
    have hnode0:Z3Q (f+1) [x,y]=(match Z15 x with
     |none=>V
     |some (_,J5)=>ZEz y
     |some (p,V)=>decide (p≠[])&&Z4j f y):=Z7V rfl
    have hnode:isN (f+1) (.l [x,y])=(match Z15 x with
     |none=>V
     |some (_,J5)=>ZEz y
     |some (p,V)=>decide (p≠[])&&Z4j f y):=hnode0
    obtain⟨g,f0,u1,u2,u3,rfl,hg,e1,e2,e3,hi⟩:=h4.get 0 (by simp);have hix:ItC A w1 x u1 u2 u3:=hi;refine⟨_,_,_,by rw[Z6];exact X1.rd1 rfl,_,rfl,⟨by decide,by simp⟩,?_⟩;cases x with
    |l ys =>
     simp only[ItC]at hix;obtain⟨rfl,_⟩:=hix;exact⟨J5,by rw[Z6];exact e1,fun _=>⟨by rw[hnode];rfl,M1⟩,fun h=>(by cases h)⟩
    |s bs =>
     have hfx:=hf.mem (x:=.s bs) (by simp);simp only[ItC]at hix;obtain⟨rfl,⟨ox,cx,rfl,hrx,_⟩,rfl⟩:=hix
     have hbl:bs.length<=2^20:=by
      have:bs.length<=(enc (.s bs)).length:=by
       simp only[enc];split
       ·exact J1 _
       ·rw[P];omega
      have:=hfx.2.2;omega
     simp only[Z15]at hnode;refine⟨V,by rw[Z6];exact e1,fun h=>(by cases h),fun _=>⟨_,_,_,by rw[Z6];exact X1.rd1 rfl,_,rfl,⟨by decide,by simp⟩,_,_,_,by rw[Z6,Z6];exact e2,?_⟩⟩;refine(Z5c hrx hbl).mono ?_;rintro _ w2⟨o',k',rfl,M2,R2,_⟩;have M02:=M1.none_trans M2;have X2:=X1.mod' M2;obtain⟨g',f0',t1,t2,t3,ho,hg',d1,d2,d3,hi'⟩:=(Z1X.mod M2 _ h4).get 1 (by simp);cases ho;have hiy:ItC A w2 y t1 t2 t3:=hi';cases hu:Z1C bs with
     |none =>
      have e:upk bs=([],V,143):=by unfold upk;rw[hu]
      rw[hu]at hnode;rw[e];exact⟨_,_,_,_,_,rfl,fun _=>⟨by rw[hnode],M02⟩,fun h=>absurd h (by decide)⟩
     |some r =>
      obtain⟨p,lf⟩:=r;have e:upk bs=(p,lf,0):=by unfold upk;rw[hu]
      rw[hu]at hnode;rw[e];refine⟨_,_,_,_,_,rfl,fun h=>(h rfl).elim,fun _=>⟨fun hlf=>?_,fun hlf=>?_⟩⟩
      ·subst hlf
       simp only at hnode;refine⟨_,_,_,by rw[Z6];exact X2.rd1 rfl,_,rfl,⟨by decide,by simp⟩,?_⟩;cases y with
       |s vs =>
        simp only[ItC]at hiy;obtain⟨rfl,⟨oy,cy,rfl,_⟩,rfl⟩:=hiy;refine⟨V,by rw[Z6];exact d1,fun _=>⟨_,_,_,by rw[Z6];exact X2.rd1 rfl,_,rfl,⟨by decide,by simp⟩,_,_,_,by rw[Z6,Z6];exact d2,?_,M02⟩,fun h=>(by cases h)⟩;rw[hnode];cases vs with
        |nil=>rfl
        |cons a r=>rw[decide_eq_true (by simp only[JF];omega)];rfl
       |l ys =>
        simp only[ItC]at hiy;obtain⟨rfl,_⟩:=hiy;exact⟨J5,by rw[Z6];exact d1,fun h=>(by cases h),fun _=>⟨by rw[hnode];rfl,M02⟩⟩
      ·subst hlf
       simp only at hnode;obtain⟨_,_,_,_,_,_,_,rfl,rfl,rfl⟩:=hiy.vals;refine⟨_,_,_,by rw[Z6];exact X2.rd1 rfl,_,rfl,⟨by decide,by simp⟩,_,_,_,_,_,_,_,by rw[Z6];exact d1,by rw[Z6,Z6];exact d2,by rw[Z6,Z6];exact d3,?_⟩;refine(hRf y (hds y (by simp)) (hf.mem (by simp)) hiy).mono ?_;rintro _ w3⟨rfl,M3⟩;have M03:=M02.none_trans M3;refine⟨_,_,rfl,fun hp=>⟨fun hb=>⟨?_,M03⟩,fun hb=>⟨?_,M03⟩⟩,fun hp=>⟨?_,M03⟩⟩
       ·have hpn:p≠[]:=by rintro rfl;simp at hp
        rw[hnode,decide_eq_true hpn,JJ];cases hr:Z4j f y with
        |true=>rw[Z9G hr];rfl
        |false=>rw[hr,Bool.or_false]at hb;rw[hb];rfl
       ·rw[Bool.or_eq_false_iff]at hb
        rw[hnode,hb.2,Bool.and_false]
       ·have hpn:p=[]:=J3 (by dsimp only at hp;omega)
        rw[hnode,hpn];rfl
   ·have h17':xs.length=17:=by omega
    have hnode:isN (f+1) (.l xs)=_:=Z67 (f:=f) h17';rw[Z1E (by omega)]at hnode;refine⟨fun n i w'=>∃j:Nat,i=(j:Int)/\j<=16/\n=((((xs.take j).filter (fun x=> !isE x)).length:Nat):Int)/\(xs.take j).all (fun x=>isE x||Z4j f x)=J5/\Vcg.Mod NoB w1 w',fun _ i _=>((16:Int)-i).toNat,⟨0,rfl,JC _,by simp,by simp,Mod.refl w1⟩,?_⟩;rintro _ _ _ w2⟨j,rfl,hj,rfl,hall,M2⟩;have X2:=X1.mod' M2;have hcl:((xs.take j).filter (fun x=> !isE x)).length<=16:=JV (JQ _ _) (by rw[JK];omega);refine⟨fun hlt=>?_,fun hge=>?_⟩
    ·have hjl:j<xs.length:=by omega
     obtain⟨g',f',u1,u2,u3,ho,hg',d1,d2,d3,hij⟩:=(Z1X.mod M2 _ h4).get j hjl;rw[J9]at d1 d2 d3;obtain⟨_,_,_,_,_,_,_,rfl,rfl,rfl⟩:=hij.vals;refine⟨_,_,_,by rw[Z6];exact X2.rd1 rfl,_,ho,⟨by omega,by omega⟩,_,_,_,_,_,_,_,by rw[Z6,T];exact d1,by rw[Z6,Z6,T];exact d2,by rw[Z6,Z6,T];exact d3,?_⟩;refine(hRf xs[j] (hds _ (JA hjl)) (hf.mem (JA hjl)) hij).mono ?_;rintro _ w3⟨rfl,M3⟩;have htk:xs.take (j+1)=xs.take j++[xs[j]]:=J7 hjl;have ew:O U ((j:Int)+1)=((j+1:Nat):Int):=by rw[Z0 (by omega) (by omega)];omega
     have en:O U (((((xs.take j).filter (fun x=> !isE x)).length:Nat):Int)+1)=((((xs.take j).filter (fun x=> !isE x)).length+1:Nat):Int):=by rw[Z0 (by omega) (by omega)];omega
     rw[ew,en];refine⟨_,_,rfl,fun hb=>⟨?_,M1.none_trans (M2.none_trans M3)⟩,fun hb=>⟨fun hn=>?_,fun hn=>?_⟩⟩
     ·have:(xs.take 16).all (fun x=>isE x||Z4j f x)=V:=by
        rw[JW];refine⟨xs[j],?_,by rw[hb];decide⟩;rw[JH];exact⟨j,by omega,rfl⟩
      rw[hnode];cases xs[16]with
      |l ys=>rfl
      |s v=>simp only;rw[this,JS]
     ·refine⟨⟨j+1,rfl,by omega,?_,?_,M2.none_trans M3⟩,by dsimp only;omega⟩
      ·rw[htk,JB,P]
       simp[hn]
      ·rw[htk,JG,hall];simp only[JT,JX,hb,JU]
     ·refine⟨⟨j+1,rfl,by omega,?_,?_,M2.none_trans M3⟩,by dsimp only;omega⟩
      ·rw[htk,JB,P]
       simp[hn]
      ·rw[htk,JG,hall];simp only[JT,JX,hb,JU]
    ·obtain rfl:j=16:=by omega
     have M02:=M1.none_trans M2;obtain⟨g',f',u1,u2,u3,ho,hg',d1,d2,d3,hij⟩:=(Z1X.mod M2 _ h4).get 16 (by omega);rw[hall]at hnode;refine⟨_,_,_,by rw[Z6];exact X2.rd1 rfl,_,ho,⟨by omega,by omega⟩,?_⟩;generalize hx16:xs[16]=x16 at *
     cases x16 with
     |l ys =>
      simp only[ItC]at hij;obtain⟨rfl,_⟩:=hij;exact⟨J5,by rw[Z6];exact d1,fun _=>⟨by rw[hnode],M02⟩,fun h=>(by cases h)⟩
     |s v =>
      simp only[ItC]at hij;obtain⟨rfl,⟨ov,cv,rfl,hv,_⟩,rfl⟩:=hij;simp only[JJ]at hnode;have en:O U (((((xs.take 16).filter (fun x=> !isE x)).length:Nat):Int)+1)=((((xs.take 16).filter (fun x=> !isE x)).length+1:Nat):Int):=by rw[Z0 (by omega) (by omega)];omega
      rw[en];refine⟨V,by rw[Z6];exact d1,fun h=>(by cases h),fun _=>⟨_,_,_,by rw[Z6];exact X2.rd1 rfl,_,ho,⟨by omega,by omega⟩,_,_,_,by rw[Z6,Z6];exact d2,fun hp=>⟨?_,M02⟩,fun hp=>⟨?_,M02⟩⟩⟩
      ·have hvn:v≠[]:=by rintro rfl;simp at hp
       rw[hnode,if_neg hvn];congr 2;rw[JO,decide_eq_true_eq,decide_eq_true_eq];omega
      ·have hvn:v=[]:=J3 (by omega)
       rw[hnode,if_pos hvn];congr 2;rw[JO,decide_eq_true_eq,decide_eq_true_eq];omega
   ·have hno:isN (f+1) (.l xs)=V:=Z9B (by omega) (by omega)
    exact⟨by rw[hno],M1⟩
def Z0B(b:By):Int:=match Z4U b with
 | JN x=>x
 | Jc x=>if isN 17 x=J5 then 0 else 143
theorem ZBF{b:By}{x:It}(h:Z4U b=Jc x):ZBt x:=by
 obtain⟨h1,h2,h3,h4⟩:=ZGO h;exact⟨h3,h4,by omega⟩
theorem Z8z{w:J2}{o:Option Addr}{k:Nat}{bs:By}(hr:RdB w o bs)(hk:bs.length<=k) :
  J4 K Z1r.n #[.slice o bs.length k] w (fun e w'=>Vcg.Mod NoB w w'/\∃v,e=G (C #[v,.int U (Z0B bs)])/\(Z0B bs=0->∃x,Z4U bs=Jc x/\isN 17 x=J5/\RV 0 17 w' x v)):=by
 refine ZG fun R hR=>Z1r.vc _ _ _ _ _ ?_;unfold Z1r.Vc;refine(Z6H hr hk).mono ?_;rintro e w1⟨M1,hd⟩;unfold Z2E at hd;cases hdc:Z4U bs with
 |error x =>
  rw[hdc]at hd;obtain⟨hx,b,p1,q1,r1,p2,q2,r2,rfl⟩:=hd;refine⟨_,_,_,_,_,_,_,_,rfl,?_⟩;rintro d2 w2⟨rfl,rfl⟩;have H:=Blk.new w1 111 #[.bool V,.slice I 0 0,.slice I 0 0];refine Z8i H rfl rfl rfl (fun w3 H3 Q3=>?_);have M3:Vcg.Mod NoB w w3:=M1.none_trans (ZK (Mod.alloc w1 _) Q3 (J1 _));have hck:Z0B bs=x:=by unfold Z0B;rw[hdc]
  refine⟨fun _=>hR _ _ ⟨M3,_,by rw[hck],fun h=>(hx (by rw[<-hck];exact h)).elim⟩,fun h=>(hx h).elim⟩
 |ok x =>
  rw[hdc]at hd;obtain⟨v1,v2,v3,rfl,hx⟩:=hd;obtain⟨b,p1,q1,r1,p2,q2,r2,rfl,rfl,rfl⟩:=hx.vals;have hf:=ZBF hdc;refine⟨_,_,_,_,_,_,_,_,rfl,?_⟩;rintro d2 w2⟨rfl,rfl⟩;have H:=Blk.new w1 111 #[.bool V,.slice I 0 0,.slice I 0 0];refine Z8i H rfl rfl rfl (fun w3 H3 Q3=>?_);have M13:Vcg.Mod NoB w1 w3:=ZK (Mod.alloc w1 _) Q3 (J1 _);refine⟨fun h=>(h rfl).elim,fun _=>Z7w H3 ?_⟩;refine(ZAN 17 x (by have:=hf.1;omega) hf (ItC.mod M13 _ hx)).mono ?_;rintro _ w4⟨v,rfl,M4,hv,hrv⟩;have M04:=(M1.none_trans M13).none_trans M4;refine⟨_,_,rfl,fun hb=>hR _ _ ⟨M04,J,?_,fun h=>?_⟩,fun hb=>hR _ _ ⟨M04,v,?_,fun _=>⟨x,hdc,hb,RV.mod' (Mod.refl _) (JC _) (hrv hb)⟩⟩⟩
  ·unfold Z0B;rw[hdc];simp only[hb];rfl
  ·unfold Z0B at h;rw[hdc]at h;simp only[hb]at h;exact absurd h (by decide)
  ·unfold Z0B;rw[hdc];simp only[hb];rfl
theorem ZAp{w:J2}{o:Option Addr}{k:Nat}{bs:By}(hr:RdB w o bs)(hk:bs.length<=k) :
  J4 K Z2h.n #[.slice o bs.length k] w (fun e w'=>e=G (.int U (Z0B bs))/\Vcg.Mod NoB w w'):=by
 refine Z2h.vc _ _ _ _ _ ?_;unfold Z2h.Vc;refine(Z8z hr hk).mono ?_;rintro _ w1⟨M1,v,rfl,_⟩;exact⟨_,_,rfl,rfl,M1⟩
theorem ZAU{w:J2}{o:Option Addr}{k:Nat}{bs:By}(hr:RdB w o bs)(hk:bs.length<=k) :
  J4 K Z0H.n #[.slice o bs.length k] w (fun e w'=>e=G (.int U (Z0B bs))/\Vcg.Mod NoB w w'):=by
 refine Z0H.vc _ _ _ _ _ ?_;unfold Z0H.Vc;refine(Z5b hr hk).mono ?_;rintro e w1⟨M1,hd⟩;unfold Z2E at hd;cases hdc:Z4U bs with
 |error x =>
  rw[hdc]at hd;obtain⟨hx,b,p1,q1,r1,p2,q2,r2,rfl⟩:=hd;refine⟨_,_,_,_,_,_,_,_,rfl,?_⟩;rintro d2 w2⟨rfl,rfl⟩;have H:=Blk.new w1 111 #[.bool V,.slice I 0 0,.slice I 0 0];refine Z8i H rfl rfl rfl (fun w3 H3 Q3=>?_);have M3:Vcg.Mod NoB w w3:=M1.none_trans (ZK (Mod.alloc w1 _) Q3 (J1 _));have hck:Z0B bs=x:=by unfold Z0B;rw[hdc]
  exact⟨fun _=>⟨by rw[hck],M3⟩,fun h=>(hx h).elim⟩
 |ok x =>
  rw[hdc]at hd;obtain⟨v1,v2,v3,rfl,hx⟩:=hd;obtain⟨b,p1,q1,r1,p2,q2,r2,rfl,rfl,rfl⟩:=hx.vals;have hf:=ZBF hdc;refine⟨_,_,_,_,_,_,_,_,rfl,?_⟩;rintro d2 w2⟨rfl,rfl⟩;have H:=Blk.new w1 111 #[.bool V,.slice I 0 0,.slice I 0 0];refine Z8i H rfl rfl rfl (fun w3 H3 Q3=>?_);have M13:Vcg.Mod NoB w1 w3:=ZK (Mod.alloc w1 _) Q3 (J1 _);refine⟨fun h=>(h rfl).elim,fun _=>Z7w H3 ?_⟩;refine(ZG2 17 x (by have:=hf.1;omega) hf (ItC.mod M13 _ hx)).mono ?_;rintro _ w4⟨rfl,M4⟩;have M04:=(M1.none_trans M13).none_trans M4;refine⟨_,rfl,fun hb=>⟨?_,M04⟩,fun hb=>⟨?_,M04⟩⟩
  ·unfold Z0B;rw[hdc];simp only[hb];rfl
  ·unfold Z0B;rw[hdc];simp only[hb];rfl
def kidsN:Nat->It->List By
 |_,.s b=>if b.length=32 then[b]else[]
 |0,.l _=>[]
 |f+1,.l xs=>if xs.length=2 then(match Z15 (xs.getD 0 (.s []))with
   |some (_,J5)=>[]
   |_=>kidsN f (xs.getD 1 (.s [])))else(xs.take 16).flatMap (kidsN f)
theorem ZC6{g:It->List By}(hg:∀y,(g y).length<=count y):∀(xs:List It),(xs.flatMap g).length<=Z0b xs
 |[]=>by simp[Z0b]
 |x::r=>by
  have h1:=hg x;have h2:=ZC6 hg r;simp only[List.flatMap_cons,P,Z0b];omega
theorem kids_len:∀(f:Nat) (x:It),(kidsN f x).length<=count x
 |_,.s b=>by
  simp only[kidsN,count];split<;>simp
 |0,.l _=>by simp[kidsN]
 |f+1,.l xs=>by
  simp only[kidsN,count];split
  ·rename_i h2
   split
   ·simp
   ·have h1:=kids_len f (xs.getD 1 (.s []))
    have hc:count (xs.getD 1 (.s []))<=Z0b xs:=by
     obtain⟨x,y,rfl⟩:∃x y,xs=[x,y]:=by
      cases xs with
      |nil=>simp at h2
      |cons x r =>
       cases r with
       |nil=>simp at h2
       |cons y r =>
        cases r with
        |nil=>exact⟨x,y,rfl⟩
        |cons z r=>simp at h2
     show count y<=count x+(count y+0);omega
    omega
  ·have h1:=ZC6 (kids_len f) (xs.take 16)
   have h2:=Z4m xs 16;omega
def hsC(hs:List By):List Value:=(hs.map fun h=>(hashA h).toList).flatten
theorem Z0n(h:By):(hashA h).toList.length=32:=by rw[Array.length_toList,ZA]
end Go.Proofs.YtfghidehlnfdiaaGreat
end
