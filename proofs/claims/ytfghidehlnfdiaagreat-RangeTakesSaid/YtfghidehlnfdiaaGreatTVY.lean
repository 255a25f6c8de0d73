/- Contracts: the reference's is and ref (moraineref14). -/
/- Contracts: trie.decoded, Check, Children. -/
/- The hashes that a node's item refers to; rows of hashes. -/
/- Ways from a root down to a key, through nodes that are told by their hashes: plain Lean. -/
/- Functions with deferred calls: their condition, and that it is enough. -/
/- The verification conditions of some functions, printed by a program of ours (wip/PrintVc.lean). -/
/- The verification conditions of some functions, printed by a program of ours (wip/PrintVc.lean). -/
import Derived.Test.YtfghidehlnfdiaaGreatTVU
import Derived.Test.YtfghidehlnfdiaaGreatXFun
import Derived.Defers
import Derived.Test.YtfghidehlnfdiaaGreatProg
import Derived.KernelRfl
set_option linter.unusedVariables false
set_option linter.unusedSimpArgs false
open Bool renaming and_eq_true->J0,and_self->JT,eq_iff_iff->JP,false->O,true->M,true_and->JS
open Except renaming error->JB
open Go renaming Act->JY,Calls->T,CallsD->Ja,Deferred->JZ,Ending->D,Exit->Jc,FrameMode->JF,Func->JU,FuncId->JM,World->I,bodyPostD->JA,convert->J5,results->JE,wpList->JN
open Go.Code renaming region->JQ,wp_mono->JG
open Go.Ending renaming panicked->X,returned->J
open Go.FrameMode renaming panicking->J2,returning->J8
open Go.Instr renaming lookup->JW,storeAt->N
open Go.IntKind renaming i64->B,u8->Z,wrap->E
open Go.Proofs.Tryz renaming prog->G
open Go.Sem renaming run->S
open Go.Value renaming pointer->V,string->Jb,tuple->U
open Int renaming toNat_natCast->JD
open List renaming all_append->JO,all_cons->JI,all_nil->JV,drop_suffix->JL,eq_nil_of_length_eq_zero->J9,filter_append->JJ,getElem_mem->J7,length_append->J6,length_cons->J3,length_drop->J4,length_take->JK,mapM_cons->JR,mem_of_mem_take->JH,mem_take_iff_getElem->JC
open Nat renaming le_refl->J1,zero_le->JX
open Option renaming none->L,some->Y
section
namespace Go.Proofs.YtfghidehlnfdiaaGreat
open Go Go.Vcg Go.Trie
theorem ZBI{f:Nat}{x:It}(h:Z62 f x=M):isE x=O:=by
 cases x with
 |l ys=>rfl
 |s bs =>
  cases bs with
  |nil=>simp[Z62]at h
  |cons a r=>rfl
def IsAt(f:Nat):Prop:=∀(x:It) {A:Nat->Prop} {w:I} {v1 v2 v3:Value},dep x<=f->ZA1 x->ItC A w x v1 v2 v3 ->
 T G Z1R.n #[.agg #[v1,v2,v3]] w (fun e w'=>e=J (.bool (isN f x))/\Vcg.Mod NoB w w')
def ZJQ(f:Nat):Prop:=∀(x:It) {A:Nat->Prop} {w:I} {v1 v2 v3:Value},dep x<=f->ZA1 x->ItC A w x v1 v2 v3 ->
 T G Z14.n #[.agg #[v1,v2,v3]] w (fun e w'=>e=J (U #[.bool (isE x||Z62 f x),.bool (!isE x)])/\Vcg.Mod NoB w w')
theorem ZIa{f:Nat}(hN:IsAt f):ZJQ f:=by
 intro x A w v1 v2 v3 hdp hf hx;obtain⟨b,o1,l1,c1,o2,l2,c2,rfl,rfl,rfl⟩:=hx.vals;refine Z14.vc _ _ _ _ _ _ _ _ _ ?_;unfold Z14.Vc;rintro d3 w1⟨rfl,rfl⟩;have M1:Vcg.Mod NoB w _:=Mod.alloc w (.cells #[.bool b,.slice o1 l1 c1,.slice o2 l2 c2] 111);have X1:=Blk.new w 111 #[.bool b,.slice o1 l1 c1,.slice o2 l2 c2];generalize w.alloc (.cells #[.bool b,.slice o1 l1 c1,.slice o2 l2 c2] 111)=w1 at *
 have hx1:=ItC.mod M1 _ hx;cases x with
 |s bs =>
  simp only[ItC]at hx1;obtain⟨h1,⟨o,c,h2,h3,h4⟩,h5⟩:=hx1;cases h1;cases h2;cases h5;refine⟨_,X1.rd1 rfl,fun _=>?_,fun h=>(by cases h)⟩;rintro _ rfl;have X2:=X1.drew;have M2:=M1.step_drew;refine⟨_,_,_,by rw[Z3];exact X2.rd1 rfl,fun h32=>⟨_,_,_,by rw[Z3];exact X2.rd1 rfl,?_,M2⟩,fun h32=>⟨_,_,_,by rw[Z3];exact X2.rd1 rfl,_,_,_,by rw[Z3];exact X2.rd1 rfl,?_,M2⟩⟩
  ·have e1:Z62 f (.s bs)=M:=by simp only[Z62];exact decide_eq_true (by omega)
   rw[e1,ZBI e1,decide_eq_true (by omega)];rfl
  ·have e1:Z62 f (.s bs)=O:=by simp only[Z62];exact decide_eq_false (by omega)
   rw[e1];cases bs with
   |nil=>rfl
   |cons a r=>rw[decide_eq_false (by simp only[J3];omega),decide_eq_true (by simp only[J3];omega)];rfl
 |l xs =>
  have hx1':=hx1;simp only[ItC]at hx1;obtain⟨h1,h2,o,c,h3,h4,hcap⟩:=hx1;cases h1;cases h2;cases h3;refine⟨_,X1.rd1 rfl,fun h=>(by cases h),fun _=>Z60 X1 ?_⟩;refine(Z8p f (.l xs) hdp hx1' (Mod.refl w1) hf.2.2).mono ?_;rintro _ w2⟨o',k',rfl,F⟩;have M02:=M1.none_trans F.mod;have X2:=X1.mod' F.mod;refine⟨_,_,_,rfl,fun hlt=>Z60 X2 ?_,fun hge=>⟨?_,M02⟩⟩
  ·refine(hN (.l xs) hdp hf (ItC.mod F.mod _ hx1')).mono ?_
   rintro _ w3⟨rfl,M3⟩
   have e:Z62 f (.l xs)=isN f (.l xs):=by
    simp only[Z62,isN];rw[decide_eq_true (by omega)];rfl
   exact⟨_,rfl,by rw[e];rfl,M02.none_trans M3⟩
  ·have e:Z62 f (.l xs)=O:=by simp only[Z62];rw[decide_eq_false (by omega)];rfl
   rw[e];rfl
theorem ZJ9:∀f,IsAt f
 |0,x,_,_,_,_,_,hd,_,_=>absurd (ZDN x) (by omega)
 |f+1,x,A,w,v1,v2,v3,hd,hf,hx=>by
  have hRf:=ZIa (ZJ9 f);obtain⟨b,o1,l1,c1,o2,l2,c2,rfl,rfl,rfl⟩:=hx.vals;refine Z1R.vc _ _ _ _ _ _ _ _ _ ?_;unfold Z1R.Vc;rintro d3 w1⟨rfl,rfl⟩;have M1:Vcg.Mod NoB w _:=Mod.alloc w (.cells #[.bool b,.slice o1 l1 c1,.slice o2 l2 c2] 111);have X1:=Blk.new w 111 #[.bool b,.slice o1 l1 c1,.slice o2 l2 c2];generalize w.alloc (.cells #[.bool b,.slice o1 l1 c1,.slice o2 l2 c2] 111)=w1 at *
  have hx1:=ItC.mod M1 _ hx;cases x with
  |s bs =>
   simp only[ItC]at hx1;obtain⟨h1,_,_⟩:=hx1;cases h1;exact⟨_,X1.rd1 rfl,fun _=>⟨rfl,M1⟩,fun h=>(by cases h)⟩
  |l xs =>
   simp only[ItC]at hx1;obtain⟨h1,h2,o,c,h3,h4,hc⟩:=hx1;cases h1;cases h2;cases h3
   have hds:∀x∈xs,dep x<=f:=fun x hx=>by
    have:=Z7b hx;simp only[dep]at hd;omega
   refine⟨_,X1.rd1 rfl,fun h=>(by cases h),fun _=>⟨_,_,_,by rw[Z3];exact X1.rd1 rfl,fun h2=>?_,fun h2=>⟨fun h17=>?_,fun h17=>?_⟩⟩⟩
   ·obtain⟨x,y,rfl⟩:∃x y,xs=[x,y]:=by
      cases xs with
      |nil=>simp at h2
      |cons x r =>
       cases r with
       |nil=>simp at h2
       |cons y r =>
        cases r with
        |nil=>exact⟨x,y,rfl⟩
        |cons z r=>simp at h2;omega
    have hnode0:Z4U (f+1) [x,y]=(match Z1C x with
     |none=>O
     |some (_,M)=>ZHi y
     |some (p,O)=>decide (p≠[])&&Z62 f y):=Z9J rfl
    have hnode:isN (f+1) (.l [x,y])=(match Z1C x with
     |none=>O
     |some (_,M)=>ZHi y
     |some (p,O)=>decide (p≠[])&&Z62 f y):=hnode0
    obtain⟨g,f0,u1,u2,u3,rfl,hg,e1,e2,e3,hi⟩:=h4.get 0 (by simp);have hix:ItC A w1 x u1 u2 u3:=hi;refine⟨_,_,_,by rw[Z3];exact X1.rd1 rfl,_,rfl,⟨by decide,by simp⟩,?_⟩;cases x with
    |l ys =>
     simp only[ItC]at hix;obtain⟨rfl,_⟩:=hix;exact⟨M,by rw[Z3];exact e1,fun _=>⟨by rw[hnode];rfl,M1⟩,fun h=>(by cases h)⟩
    |s bs =>
     have hfx:=hf.mem (x:=.s bs) (by simp);simp only[ItC]at hix;obtain⟨rfl,⟨ox,cx,rfl,hrx,_⟩,rfl⟩:=hix
     have hbl:bs.length<=2^20:=by
      have:bs.length<=(enc (.s bs)).length:=by
       simp only[enc];split
       ·exact J1 _
       ·rw[J6];omega
      have:=hfx.2.2;omega
     simp only[Z1C]at hnode;refine⟨O,by rw[Z3];exact e1,fun h=>(by cases h),fun _=>⟨_,_,_,by rw[Z3];exact X1.rd1 rfl,_,rfl,⟨by decide,by simp⟩,_,_,_,by rw[Z3,Z3];exact e2,?_⟩⟩;refine(Z75 hrx hbl).mono ?_;rintro _ w2⟨o',k',rfl,M2,R2,_⟩;have M02:=M1.none_trans M2;have X2:=X1.mod' M2;obtain⟨g',f0',t1,t2,t3,ho,hg',d1,d2,d3,hi'⟩:=(Z1q.mod M2 _ h4).get 1 (by simp);cases ho;have hiy:ItC A w2 y t1 t2 t3:=hi';cases hu:Z1p bs with
     |none =>
      have e:upk bs=([],O,143):=by unfold upk;rw[hu]
      rw[hu]at hnode;rw[e];exact⟨_,_,_,_,_,rfl,fun _=>⟨by rw[hnode],M02⟩,fun h=>absurd h (by decide)⟩
     |some r =>
      obtain⟨p,lf⟩:=r;have e:upk bs=(p,lf,0):=by unfold upk;rw[hu]
      rw[hu]at hnode;rw[e];refine⟨_,_,_,_,_,rfl,fun h=>(h rfl).elim,fun _=>⟨fun hlf=>?_,fun hlf=>?_⟩⟩
      ·subst hlf
       simp only at hnode;refine⟨_,_,_,by rw[Z3];exact X2.rd1 rfl,_,rfl,⟨by decide,by simp⟩,?_⟩;cases y with
       |s vs =>
        simp only[ItC]at hiy;obtain⟨rfl,⟨oy,cy,rfl,_⟩,rfl⟩:=hiy;refine⟨O,by rw[Z3];exact d1,fun _=>⟨_,_,_,by rw[Z3];exact X2.rd1 rfl,_,rfl,⟨by decide,by simp⟩,_,_,_,by rw[Z3,Z3];exact d2,?_,M02⟩,fun h=>(by cases h)⟩;rw[hnode];cases vs with
        |nil=>rfl
        |cons a r=>rw[decide_eq_true (by simp only[J3];omega)];rfl
       |l ys =>
        simp only[ItC]at hiy;obtain⟨rfl,_⟩:=hiy;exact⟨M,by rw[Z3];exact d1,fun h=>(by cases h),fun _=>⟨by rw[hnode];rfl,M02⟩⟩
      ·subst hlf
       simp only at hnode;obtain⟨_,_,_,_,_,_,_,rfl,rfl,rfl⟩:=hiy.vals;refine⟨_,_,_,by rw[Z3];exact X2.rd1 rfl,_,rfl,⟨by decide,by simp⟩,_,_,_,_,_,_,_,by rw[Z3];exact d1,by rw[Z3,Z3];exact d2,by rw[Z3,Z3];exact d3,?_⟩;refine(hRf y (hds y (by simp)) (hf.mem (by simp)) hiy).mono ?_;rintro _ w3⟨rfl,M3⟩;have M03:=M02.none_trans M3;refine⟨_,_,rfl,fun hp=>⟨fun hb=>⟨?_,M03⟩,fun hb=>⟨?_,M03⟩⟩,fun hp=>⟨?_,M03⟩⟩
       ·have hpn:p≠[]:=by rintro rfl;simp at hp
        rw[hnode,decide_eq_true hpn,JS];cases hr:Z62 f y with
        |true=>rw[ZBI hr];rfl
        |false=>rw[hr,Bool.or_false]at hb;rw[hb];rfl
       ·rw[Bool.or_eq_false_iff]at hb
        rw[hnode,hb.2,Bool.and_false]
       ·have hpn:p=[]:=J9 (by dsimp only at hp;omega)
        rw[hnode,hpn];rfl
   ·have h17':xs.length=17:=by omega
    have hnode:isN (f+1) (.l xs)=_:=Z7l (f:=f) h17';rw[Z1m (by omega)]at hnode;refine⟨fun n i w'=>∃j:Nat,i=(j:Int)/\j<=16/\n=((((xs.take j).filter (fun x=> !isE x)).length:Nat):Int)/\(xs.take j).all (fun x=>isE x||Z62 f x)=M/\Vcg.Mod NoB w1 w',fun _ i _=>((16:Int)-i).toNat,⟨0,rfl,JX _,by simp,by simp,Mod.refl w1⟩,?_⟩;rintro _ _ _ w2⟨j,rfl,hj,rfl,hall,M2⟩;have X2:=X1.mod' M2;have hcl:((xs.take j).filter (fun x=> !isE x)).length<=16:=Nat.le_trans (List.length_filter_le _ _) (by rw[JK];omega);refine⟨fun hlt=>?_,fun hge=>?_⟩
    ·have hjl:j<xs.length:=by omega
     obtain⟨g',f',u1,u2,u3,ho,hg',d1,d2,d3,hij⟩:=(Z1q.mod M2 _ h4).get j hjl;rw[Nat.zero_add]at d1 d2 d3;obtain⟨_,_,_,_,_,_,_,rfl,rfl,rfl⟩:=hij.vals;refine⟨_,_,_,by rw[Z3];exact X2.rd1 rfl,_,ho,⟨by omega,by omega⟩,_,_,_,_,_,_,_,by rw[Z3,JD];exact d1,by rw[Z3,Z3,JD];exact d2,by rw[Z3,Z3,JD];exact d3,?_⟩;refine(hRf xs[j] (hds _ (J7 hjl)) (hf.mem (J7 hjl)) hij).mono ?_;rintro _ w3⟨rfl,M3⟩;have htk:xs.take (j+1)=xs.take j++[xs[j]]:=List.take_succ_eq_append_getElem hjl;have ew:E B ((j:Int)+1)=((j+1:Nat):Int):=by rw[Z0 (by omega) (by omega)];omega
     have en:E B (((((xs.take j).filter (fun x=> !isE x)).length:Nat):Int)+1)=((((xs.take j).filter (fun x=> !isE x)).length+1:Nat):Int):=by rw[Z0 (by omega) (by omega)];omega
     rw[ew,en];refine⟨_,_,rfl,fun hb=>⟨?_,M1.none_trans (M2.none_trans M3)⟩,fun hb=>⟨fun hn=>?_,fun hn=>?_⟩⟩
     ·have:(xs.take 16).all (fun x=>isE x||Z62 f x)=O:=by
        rw[List.all_eq_false];refine⟨xs[j],?_,by rw[hb];decide⟩;rw[JC];exact⟨j,by omega,rfl⟩
      rw[hnode];cases xs[16]with
      |l ys=>rfl
      |s v=>simp only;rw[this,Bool.false_and]
     ·refine⟨⟨j+1,rfl,by omega,?_,?_,M2.none_trans M3⟩,by dsimp only;omega⟩
      ·rw[htk,JJ,J6]
       simp[hn]
      ·rw[htk,JO,hall];simp only[JI,JV,hb,JT]
     ·refine⟨⟨j+1,rfl,by omega,?_,?_,M2.none_trans M3⟩,by dsimp only;omega⟩
      ·rw[htk,JJ,J6]
       simp[hn]
      ·rw[htk,JO,hall];simp only[JI,JV,hb,JT]
    ·obtain rfl:j=16:=by omega
     have M02:=M1.none_trans M2;obtain⟨g',f',u1,u2,u3,ho,hg',d1,d2,d3,hij⟩:=(Z1q.mod M2 _ h4).get 16 (by omega);rw[hall]at hnode;refine⟨_,_,_,by rw[Z3];exact X2.rd1 rfl,_,ho,⟨by omega,by omega⟩,?_⟩;generalize hx16:xs[16]=x16 at *
     cases x16 with
     |l ys =>
      simp only[ItC]at hij;obtain⟨rfl,_⟩:=hij;exact⟨M,by rw[Z3];exact d1,fun _=>⟨by rw[hnode],M02⟩,fun h=>(by cases h)⟩
     |s v =>
      simp only[ItC]at hij;obtain⟨rfl,⟨ov,cv,rfl,hv,_⟩,rfl⟩:=hij;simp only[JS]at hnode;have en:E B (((((xs.take 16).filter (fun x=> !isE x)).length:Nat):Int)+1)=((((xs.take 16).filter (fun x=> !isE x)).length+1:Nat):Int):=by rw[Z0 (by omega) (by omega)];omega
      rw[en];refine⟨O,by rw[Z3];exact d1,fun h=>(by cases h),fun _=>⟨_,_,_,by rw[Z3];exact X2.rd1 rfl,_,ho,⟨by omega,by omega⟩,_,_,_,by rw[Z3,Z3];exact d2,fun hp=>⟨?_,M02⟩,fun hp=>⟨?_,M02⟩⟩⟩
      ·have hvn:v≠[]:=by rintro rfl;simp at hp
       rw[hnode,if_neg hvn];congr 2;rw[JP,decide_eq_true_eq,decide_eq_true_eq];omega
      ·have hvn:v=[]:=J9 (by omega)
       rw[hnode,if_pos hvn];congr 2;rw[JP,decide_eq_true_eq,decide_eq_true_eq];omega
   ·have hno:isN (f+1) (.l xs)=O:=ZBC (by omega) (by omega)
    exact⟨by rw[hno],M1⟩
def Z0T(b:By):Int:=match Z5z b with
 | JB x=>x
 | .ok x=>if isN 17 x=M then 0 else 143
theorem ZDS{b:By}{x:It}(h:Z5z b=.ok x):ZA1 x:=by
 obtain⟨h1,h2,h3,h4⟩:=ZJV h;exact⟨h3,h4,by omega⟩
theorem ZAu{w:I}{o:Option Addr}{k:Nat}{bs:By}(hr:RdB w o bs)(hk:bs.length<=k) :
  T G Z2h.n #[.slice o bs.length k] w (fun e w'=>Vcg.Mod NoB w w'/\∃v,e=J (U #[v,.int B (Z0T bs)])/\(Z0T bs=0->∃x,Z5z bs=.ok x/\isN 17 x=M/\RV 0 17 w' x v)):=by
 refine ZD fun R hR=>Z2h.vc _ _ _ _ _ ?_;unfold Z2h.Vc;refine(Z7v hr hk).mono ?_;rintro e w1⟨M1,hd⟩;unfold Z37 at hd;cases hdc:Z5z bs with
 |error x =>
  rw[hdc]at hd;obtain⟨hx,b,p1,q1,r1,p2,q2,r2,rfl⟩:=hd;refine⟨_,_,_,_,_,_,_,_,rfl,?_⟩;rintro d2 w2⟨rfl,rfl⟩;have H:=Blk.new w1 111 #[.bool O,.slice L 0 0,.slice L 0 0];refine Z9m H rfl rfl rfl (fun w3 H3 Q3=>?_);have M3:Vcg.Mod NoB w w3:=M1.none_trans (ZI (Mod.alloc w1 _) Q3 (J1 _));have hck:Z0T bs=x:=by unfold Z0T;rw[hdc]
  refine⟨fun _=>hR _ _ ⟨M3,_,by rw[hck],fun h=>(hx (by rw[<-hck];exact h)).elim⟩,fun h=>(hx h).elim⟩
 |ok x =>
  rw[hdc]at hd;obtain⟨v1,v2,v3,rfl,hx⟩:=hd;obtain⟨b,p1,q1,r1,p2,q2,r2,rfl,rfl,rfl⟩:=hx.vals;have hf:=ZDS hdc;refine⟨_,_,_,_,_,_,_,_,rfl,?_⟩;rintro d2 w2⟨rfl,rfl⟩;have H:=Blk.new w1 111 #[.bool O,.slice L 0 0,.slice L 0 0];refine Z9m H rfl rfl rfl (fun w3 H3 Q3=>?_);have M13:Vcg.Mod NoB w1 w3:=ZI (Mod.alloc w1 _) Q3 (J1 _);refine⟨fun h=>(h rfl).elim,fun _=>Z60 H3 ?_⟩;refine(ZCV 17 x (by have:=hf.1;omega) hf (ItC.mod M13 _ hx)).mono ?_;rintro _ w4⟨v,rfl,M4,hv,hrv⟩;have M04:=(M1.none_trans M13).none_trans M4;refine⟨_,_,rfl,fun hb=>hR _ _ ⟨M04,.nilIface,?_,fun h=>?_⟩,fun hb=>hR _ _ ⟨M04,v,?_,fun _=>⟨x,hdc,hb,RV.mod' (Mod.refl _) (JX _) (hrv hb)⟩⟩⟩
  ·unfold Z0T;rw[hdc];simp only[hb];rfl
  ·unfold Z0T at h;rw[hdc]at h;simp only[hb]at h;exact absurd h (by decide)
  ·unfold Z0T;rw[hdc];simp only[hb];rfl
theorem ZD4{w:I}{o:Option Addr}{k:Nat}{bs:By}(hr:RdB w o bs)(hk:bs.length<=k) :
  T G Z3i.n #[.slice o bs.length k] w (fun e w'=>e=J (.int B (Z0T bs))/\Vcg.Mod NoB w w'):=by
 refine Z3i.vc _ _ _ _ _ ?_;unfold Z3i.Vc;refine(ZAu hr hk).mono ?_;rintro _ w1⟨M1,v,rfl,_⟩;exact⟨_,_,rfl,rfl,M1⟩
theorem ZCa{w:I}{o:Option Addr}{k:Nat}{bs:By}(hr:RdB w o bs)(hk:bs.length<=k) :
  T G Z0Y.n #[.slice o bs.length k] w (fun e w'=>e=J (.int B (Z0T bs))/\Vcg.Mod NoB w w'):=by
 refine Z0Y.vc _ _ _ _ _ ?_;unfold Z0Y.Vc;refine(Z74 hr hk).mono ?_;rintro e w1⟨M1,hd⟩;unfold Z37 at hd;cases hdc:Z5z bs with
 |error x =>
  rw[hdc]at hd;obtain⟨hx,b,p1,q1,r1,p2,q2,r2,rfl⟩:=hd;refine⟨_,_,_,_,_,_,_,_,rfl,?_⟩;rintro d2 w2⟨rfl,rfl⟩;have H:=Blk.new w1 111 #[.bool O,.slice L 0 0,.slice L 0 0];refine Z9m H rfl rfl rfl (fun w3 H3 Q3=>?_);have M3:Vcg.Mod NoB w w3:=M1.none_trans (ZI (Mod.alloc w1 _) Q3 (J1 _));have hck:Z0T bs=x:=by unfold Z0T;rw[hdc]
  exact⟨fun _=>⟨by rw[hck],M3⟩,fun h=>(hx h).elim⟩
 |ok x =>
  rw[hdc]at hd;obtain⟨v1,v2,v3,rfl,hx⟩:=hd;obtain⟨b,p1,q1,r1,p2,q2,r2,rfl,rfl,rfl⟩:=hx.vals;have hf:=ZDS hdc;refine⟨_,_,_,_,_,_,_,_,rfl,?_⟩;rintro d2 w2⟨rfl,rfl⟩;have H:=Blk.new w1 111 #[.bool O,.slice L 0 0,.slice L 0 0];refine Z9m H rfl rfl rfl (fun w3 H3 Q3=>?_);have M13:Vcg.Mod NoB w1 w3:=ZI (Mod.alloc w1 _) Q3 (J1 _);refine⟨fun h=>(h rfl).elim,fun _=>Z60 H3 ?_⟩;refine(ZJ9 17 x (by have:=hf.1;omega) hf (ItC.mod M13 _ hx)).mono ?_;rintro _ w4⟨rfl,M4⟩;have M04:=(M1.none_trans M13).none_trans M4;refine⟨_,rfl,fun hb=>⟨?_,M04⟩,fun hb=>⟨?_,M04⟩⟩
  ·unfold Z0T;rw[hdc];simp only[hb];rfl
  ·unfold Z0T;rw[hdc];simp only[hb];rfl
def kidsN:Nat->It->List By
 |_,.s b=>if b.length=32 then[b]else[]
 |0,.l _=>[]
 |f+1,.l xs=>if xs.length=2 then(match Z1C (xs.getD 0 (.s []))with
   |some (_,M)=>[]
   |_=>kidsN f (xs.getD 1 (.s [])))else(xs.take 16).flatMap (kidsN f)
theorem ZEI{g:It->List By}(hg:∀y,(g y).length<=count y):∀(xs:List It),(xs.flatMap g).length<=Z0h xs
 |[]=>by simp[Z0h]
 |x::r=>by
  have h1:=hg x;have h2:=ZEI hg r;simp only[List.flatMap_cons,J6,Z0h];omega
theorem kids_len:∀(f:Nat) (x:It),(kidsN f x).length<=count x
 |_,.s b=>by
  simp only[kidsN,count];split<;>simp
 |0,.l _=>by simp[kidsN]
 |f+1,.l xs=>by
  simp only[kidsN,count];split
  ·rename_i h2
   split
   ·simp
   ·have h1:=kids_len f (xs.getD 1 (.s []))
    have hc:count (xs.getD 1 (.s []))<=Z0h xs:=by
     obtain⟨x,y,rfl⟩:∃x y,xs=[x,y]:=by
      cases xs with
      |nil=>simp at h2
      |cons x r =>
       cases r with
       |nil=>simp at h2
       |cons y r =>
        cases r with
        |nil=>exact⟨x,y,rfl⟩
        |cons z r=>simp at h2
     show count y<=count x+(count y+0);omega
    omega
  ·have h1:=ZEI (kids_len f) (xs.take 16)
   have h2:=Z65 xs 16;omega
def hsC(hs:List By):List Value:=(hs.map fun h=>(hashA h).toList).flatten
theorem Z1O(h:By):(hashA h).toList.length=32:=by rw[Array.length_toList,ZB]
theorem ZKW{b:By}{e:Int}(h:Trie.hd b=JB e):e≠0:=by
 unfold Trie.hd at h;simp only at h;split at h
 ·cases h
 ·generalize(if(b.getD 0 0).toNat>=192 then 192 else 128)=base at *
  split at h
  ·cases h
  ·split at h
   ·cases h;decide
   ·split at h
    ·cases h;decide
    ·cases h
theorem ZKV:∀(f:Nat),(∀d n b,2*b.length+1<=f->dcd f d n b≠JB 0)/\(∀d n b,2*b.length+2<=f->Z9l f d n b≠JB 0)
 |0=>⟨fun d n b h=>absurd h (by omega),fun d n b h=>absurd h (by omega)⟩
 |f+1=>by
  have ih:=ZKV f;refine⟨fun d n b hf he=>?_,fun d n b hf he=>?_⟩
  ·by_cases hb:b=[]
   ·subst hb;rw[ZDL]at he;cases he
   ·by_cases hd:d>16\/n=4096
    ·rw[Z8U hb hd]at he;cases he
    ·rw[ZGH hb hd]at he
     cases hh:Trie.hd b with
     |error e =>
      rw[hh]at he;simp only at he;cases he;exact ZKW hh rfl
     |ok r =>
      obtain⟨lst,a,k,ow⟩:=r;rw[hh]at he;simp only at he;obtain⟨g1,g2⟩:=ZJZ hh hb;split at he
      ·cases he
      ·rename_i hk
       split at he
       ·split at he
        ·cases he
        ·cases he
       ·rename_i hl
        have how:ow=O:=by
         cases ow with
         |false=>rfl
         |true=>exact absurd (g1 rfl).1 hl
        obtain⟨ha,hal,_⟩:=g2 how;have hlen:((b.drop a).take k).length<=b.length-a:=by rw[JK,J4];omega
        cases hs:Z9l f (d+1) (n+1) ((b.drop a).take k)with
        |error e =>
         rw[hs]at he;simp only at he;cases he;exact ih.2 _ _ _ (by omega) hs
        |ok r=>rw[hs]at he;cases he
  ·by_cases hb:b=[]
   ·subst hb;rw[ZAt]at he;cases he
   ·rw[ZDM hb]at he
    cases hx:dcd f d n b with
    |error e =>
     rw[hx]at he;simp only at he;cases he;exact ih.1 _ _ _ (by omega) hx
    |ok r =>
     obtain⟨x,k,m⟩:=r;rw[hx]at he;simp only at he;obtain⟨a1,a2,_⟩:=(Z91 _ _ _ _).1 _ _ _ hx;cases hs:Z9l f d m (b.drop k)with
     |error e =>
      rw[hs]at he;simp only at he;cases he;exact ih.2 _ _ _ (by rw[J4];omega) hs
     |ok r=>rw[hs]at he;cases he
theorem ZI7{b:By}{x:Int}(h:Z5z b=JB x):x≠0:=by
 unfold Z5z at h;split at h
 ·cases h;decide
 ·cases hd:dcd (2*b.length+1) 1 0 b with
  |error e =>
   rw[hd]at h;simp only at h;cases h;rintro rfl;exact(ZKV _).1 _ _ _ (J1 _) hd
  |ok r =>
   obtain⟨y,k,m⟩:=r;rw[hd]at h;simp only at h;split at h
   ·cases h;decide
   ·cases h
def itB:It->By
 | .s b=>b
 | .l _=>[]
def Z2p(x:It):Prop:=x=.s []\/(∃b,x=.s b/\b.length=32)\/∃xs g,x=.l xs/\Z4U g xs=M/\ZA1 (.l xs)
theorem Z2p.nil:Z2p (.s []):=.inl rfl
theorem Z2p.hash{b:By}(h:b.length=32):Z2p (.s b):=.inr (.inl ⟨b,rfl,h⟩)
theorem Z2p.node{xs:List It}(h:Z2p (.l xs)):∃g,Z4U (g+1) xs=M/\ZA1 (.l xs):=by
 rcases h with h|⟨b,h,_⟩|⟨ys,g,h,h1,h2⟩
 ·cases h
 ·cases h
 ·cases h
  cases g with
  |zero=>simp[Z4U]at h1
  |succ g=>exact⟨g,h1,h2⟩
theorem Z2p.str{b:By}(h:Z2p (.s b)):b=[]\/b.length=32:=by
 rcases h with h|⟨b,h,h'⟩|⟨ys,g,h,h1,h2⟩
 ·cases h;exact .inl rfl
 ·cases h;exact .inr h'
 ·cases h
theorem ZEN{g:Nat}{x:It}(h:Z62 g x=M)(hf:ZA1 x):Z2p x/\isE x=O:=by
 refine⟨?_,ZBI h⟩;cases x with
 |s b=>simp only[Z62,decide_eq_true_eq]at h;exact .hash h
 |l xs =>
  simp only[Z62,J0]at h;exact .inr (.inr ⟨xs,g,rfl,h.2,hf⟩)
theorem Z2p.two{xs:List It}(h:Z2p (.l xs))(h2:xs.length=2):∃p lf,Z1C (xs.getD 0 (.s []))=Y (p,lf)/\(lf=M->∃v,xs.getD 1 (.s [])=.s v/\v≠[])/\(lf=O->p≠[]/\Z2p (xs.getD 1 (.s []))/\isE (xs.getD 1 (.s []))=O):=by
 obtain⟨g,hn,hf⟩:=h.node;rw[Z9J h2]at hn;have hm:xs.getD 1 (.s [])∈xs:=by rw[Z1m (by omega)];exact J7 (by omega)
 split at hn
 ·cases hn
 ·rename_i p he
  refine⟨p,M,he,fun _=>?_,fun h=>by cases h⟩;generalize xs.getD 1 (.s [])=y at hn;cases y with
  |l ys=>cases hn
  |s v =>
   cases v with
   |nil=>cases hn
   |cons a r=>exact⟨_,rfl,by simp⟩
 ·rename_i p he
  simp only[J0,decide_eq_true_eq]at hn;exact⟨p,O,he,fun h=>(by cases h),fun _=>⟨hn.1,ZEN hn.2 (hf.mem hm)⟩⟩
theorem Z2p.many{xs:List It}(h:Z2p (.l xs))(h2:xs.length≠2):xs.length=17/\(∃v,xs.getD 16 (.s [])=.s v)/\∀j,j<16->Z2p (xs.getD j (.s [])):=by
 obtain⟨g,hn,hf⟩:=h.node
 have h17:xs.length=17:=by
  by_cases h17:xs.length=17
  ·exact h17
  ·rw[ZBC h2 h17]at hn;cases hn
 rw[Z7l h17]at hn;split at hn
 ·cases hn
 ·rename_i v he
  rw[J0,List.all_eq_true]at hn;refine⟨h17,⟨v,he⟩,fun j hj=>?_⟩;rw[Z1m (by omega)];have hm:xs[j]∈xs:=J7 (by omega);have:=hn.1 (xs[j]'(by omega)) (by rw[JC];exact⟨j,by omega,rfl⟩);rw[Bool.or_eq_true]at this;rcases this with h|h
  ·generalize xs[j]=y at h
   cases y with
   |l ys=>cases h
   |s b =>
    cases b with
    |nil=>exact .nil
    |cons a r=>cases h
  ·exact(ZEN h (hf.mem hm)).1
theorem ZJY{b:By}{x:It}(h:Z5z b=.ok x)(hn:isN 17 x=M):∃xs,x=.l xs/\Z2p x:=by
 cases x with
 |s b=>cases hn
 |l xs=>exact⟨xs,rfl,.inr (.inr ⟨xs,17,rfl,hn,ZDS h⟩)⟩
theorem Z2t{b:By}(h:Z0T b=0):∃xs,Z5z b=.ok (.l xs)/\isN 17 (.l xs)=M/\Z2p (.l xs):=by
 unfold Z0T at h;cases hd:Z5z b with
 |error x =>
  rw[hd]at h;simp only at h;have:=ZI7 hd;exact(this h).elim
 |ok x =>
  rw[hd]at h;simp only at h;by_cases hn:isN 17 x=M
  ·obtain⟨xs,rfl,hg⟩:=ZJY hd hn
   exact⟨xs,rfl,hn,hg⟩
  ·rw[if_neg hn]at h;exact absurd h (by decide)
section
variable{σ:Type}(step:σ->By->σ×Except Int By)
def Z3U(go:σ->It->By->σ×Except Int By)(s:σ)(xs:List It)(path:By):σ×Except Int By :=
 if xs.length=2 then(match Z1C (xs.getD 0 (.s []))with
  |some (p,M)=>(s,.ok (if p=path then itB (xs.getD 1 (.s []))else[]))
  |some (p,O)=>if p.isPrefixOf path then go s (xs.getD 1 (.s [])) (path.drop p.length)else(s,.ok [])
  |none=>(s,.ok []))
 else match path with
  |[]=>(s,.ok (itB (xs.getD 16 (.s []))))
  |n::r=>go s (xs.getD n.toNat (.s [])) r
def ZD2:Nat->σ->It->By->σ×Except Int By
 |0,s,_,_=>(s,.ok [])
 |f+1,s,.l xs,path=>Z3U (ZD2 f) s xs path
 |f+1,s,.s b,path=>if b=[]then(s,.ok [])else match step s b with
  |(s',JB e)=>(s',JB e)
  |(s',.ok c)=>if Z0T c≠0 then(s',JB 161)else match Z5z c with
   | .ok (.l xs)=>Z3U (ZD2 f) s' xs path
   |_=>(s',JB 161)
def way(s:σ)(x:It)(path:By):σ×Except Int By:=ZD2 step (path.length+1) s x path
variable{step}
theorem ZDc{go go':σ->It->By->σ×Except Int By}{s:σ}{xs:List It}{path:By}(hg:Z2p (.l xs))(h:∀(s:σ) (y:It) (q:By),Z2p y->q.length<path.length->go s y q=go' s y q)(hn:∀n∈path,n.toNat<16):Z3U go s xs path=Z3U go' s xs path:=by
 unfold Z3U;by_cases h2:xs.length=2
 ·rw[if_pos h2,if_pos h2]
  obtain⟨p,lf,he,h1,h3⟩:=hg.two h2;rw[he];cases lf with
  |true=>rfl
  |false =>
   obtain⟨hp,hgy,_⟩:=h3 rfl;simp only;by_cases hpre:p.isPrefixOf path=M
   ·rw[if_pos hpre,if_pos hpre]
    have hpl:0<p.length:=List.length_pos_iff.2 hp;have hle:p.length<=path.length:=(List.isPrefixOf_iff_prefix.1 hpre).length_le;exact h s _ _ hgy (by rw[J4];omega)
   ·rw[if_neg hpre,if_neg hpre]
 ·rw[if_neg h2,if_neg h2]
  obtain⟨h17,_,hk⟩:=hg.many h2;cases path with
  |nil=>rfl
  |cons n r=>exact h s _ _ (hk _ (hn n (by simp))) (by simp)
theorem ZCt:∀(m f f':Nat) (s:σ) (x:It) (path:By),path.length<=m->path.length<f->path.length<f'->Z2p x->(∀n∈path,n.toNat<16)->ZD2 step f s x path=ZD2 step f' s x path:=by
 intro m
 induction m with
 |zero =>
  intro f f' s x path hm hf hf' hg hn;obtain⟨f,rfl⟩:∃g,f=g+1:=⟨f-1,by omega⟩;obtain⟨f',rfl⟩:∃g,f'=g+1:=⟨f'-1,by omega⟩;have key:∀(s:σ)(xs:List It),Z2p (.l xs)->Z3U (ZD2 step f) s xs path=Z3U (ZD2 step f') s xs path:=fun s xs hg=>ZDc hg (fun s y q _ hq=>absurd hq (by omega)) hn;cases x with
  |l xs=>exact key s xs hg
  |s b =>
   simp only[ZD2];split
   ·rfl
   ·split
    ·rfl
    ·split
     ·rfl
     ·rename_i hc
      obtain⟨xs,hd,_,hgx⟩:=Z2t (Decidable.not_not.1 hc);rw[hd];exact key _ xs hgx
 |succ m ih =>
  intro f f' s x path hm hf hf' hg hn;obtain⟨f,rfl⟩:∃g,f=g+1:=⟨f-1,by omega⟩;obtain⟨f',rfl⟩:∃g,f'=g+1:=⟨f'-1,by omega⟩
  have key:∀(s:σ)(xs:List It),Z2p (.l xs)->Z3U (ZD2 step f) s xs path=Z3U (ZD2 step f') s xs path:=by
   intro s xs hg;have hsub:∀(q:By),q <:+ path->∀n∈q,n.toNat<16:=fun q hq n hnq=>hn n (hq.subset hnq);unfold Z3U;by_cases h2:xs.length=2
   ·rw[if_pos h2,if_pos h2]
    obtain⟨p,lf,he,h1,h3⟩:=hg.two h2;rw[he];cases lf with
    |true=>rfl
    |false =>
     obtain⟨hp,hgy,_⟩:=h3 rfl;simp only;by_cases hpre:p.isPrefixOf path=M
     ·rw[if_pos hpre,if_pos hpre]
      have hpl:0<p.length:=List.length_pos_iff.2 hp;have hle:p.length<=path.length:=(List.isPrefixOf_iff_prefix.1 hpre).length_le;have hl:(path.drop p.length).length=path.length-p.length:=J4;exact ih f f' s _ _ (by omega) (by omega) (by omega) hgy (hsub _ (JL _ _))
     ·rw[if_neg hpre,if_neg hpre]
   ·rw[if_neg h2,if_neg h2]
    obtain⟨h17,_,hk⟩:=hg.many h2;cases path with
    |nil=>rfl
    |cons n r =>
     simp only[J3]at hm hf hf';exact ih f f' s _ _ (by omega) (by omega) (by omega) (hk _ (hn n (by simp))) (fun q hq=>hn q (by simp[hq]))
  cases x with
  |l xs=>exact key s xs hg
  |s b =>
   simp only[ZD2];split
   ·rfl
   ·split
    ·rfl
    ·split
     ·rfl
     ·rename_i hc
      obtain⟨xs,hd,_,hgx⟩:=Z2t (Decidable.not_not.1 hc);rw[hd];exact key _ xs hgx
theorem ZCS{f:Nat}{s:σ}{xs:List It}{path:By}(hg:Z2p (.l xs))(hf:path.length<=f)(hn:∀n∈path,n.toNat<16):Z3U (ZD2 step f) s xs path=Z3U (way step) s xs path:=by
 unfold Z3U;by_cases h2:xs.length=2
 ·rw[if_pos h2,if_pos h2]
  obtain⟨p,lf,he,h1,h3⟩:=hg.two h2;rw[he];cases lf with
  |true=>rfl
  |false =>
   obtain⟨hp,hgy,_⟩:=h3 rfl;simp only;by_cases hpre:p.isPrefixOf path=M
   ·rw[if_pos hpre,if_pos hpre]
    have hpl:0<p.length:=List.length_pos_iff.2 hp;have hle:p.length<=path.length:=(List.isPrefixOf_iff_prefix.1 hpre).length_le;have hl:(path.drop p.length).length=path.length-p.length:=J4;exact ZCt _ _ _ s _ _ (J1 _) (by omega) (by omega) hgy (fun n hnq=>hn n ((JL _ _).subset hnq))
   ·rw[if_neg hpre,if_neg hpre]
 ·rw[if_neg h2,if_neg h2]
  obtain⟨h17,_,hk⟩:=hg.many h2;cases path with
  |nil=>rfl
  |cons n r =>
   simp only[J3]at hf;exact ZCt _ _ _ s _ _ (J1 _) (by omega) (by omega) (hk _ (hn n (by simp))) (fun q hq=>hn q (by simp[hq]))
theorem ZKB(s:σ)(path:By):way step s (.s []) path=(s,.ok []):=by simp only[way,ZD2,if_true]
theorem ZIx{s:σ}{xs:List It}{path:By}(hg:Z2p (.l xs))(hn:∀n∈path,n.toNat<16):way step s (.l xs) path=Z3U (way step) s xs path:=ZCS hg (J1 _) hn
theorem ZKA{s s':σ}{b path:By}{e:Int}(hb:b≠[])(h:step s b=(s',JB e)):way step s (.s b) path=(s',JB e):=by
 simp only[way,ZD2];rw[if_neg hb,h]
theorem ZIw{s s':σ}{b c path:By}(hb:b≠[])(h:step s b=(s',.ok c))(hc:Z0T c≠0):way step s (.s b) path=(s',JB 161):=by
 simp only[way,ZD2];rw[if_neg hb,h];simp only;rw[if_pos hc]
theorem ZF3{s s':σ}{b c path:By}{xs:List It}(hb:b≠[])(h:step s b=(s',.ok c))(hc:Z0T c=0)(hd:Z5z c=.ok (.l xs))(hg:Z2p (.l xs))(hn:∀n∈path,n.toNat<16):way step s (.s b) path=Z3U (way step) s' xs path:=by
 simp only[way,ZD2];rw[if_neg hb,h];simp only;rw[if_neg (by simp[hc]),hd];exact ZCS hg (J1 _) hn
theorem ZCU{go:σ->It->By->σ×Except Int By}{s:σ}{xs:List It}{path p:By}(h2:xs.length=2)(he:Z1C (xs.getD 0 (.s []))=Y (p,M)):Z3U go s xs path=(s,.ok (if p=path then itB (xs.getD 1 (.s []))else[])):=by
 unfold Z3U;rw[if_pos h2,he]
theorem ZEg{go:σ->It->By->σ×Except Int By}{s:σ}{xs:List It}{path p:By}(h2:xs.length=2)(he:Z1C (xs.getD 0 (.s []))=Y (p,O)):Z3U go s xs path=if p.isPrefixOf path then go s (xs.getD 1 (.s [])) (path.drop p.length)else(s,.ok []):=by
 unfold Z3U;rw[if_pos h2,he]
theorem ZIP{go:σ->It->By->σ×Except Int By}{s:σ}{xs:List It}(h2:xs.length≠2):Z3U go s xs []=(s,.ok (itB (xs.getD 16 (.s [])))):=by
 unfold Z3U;rw[if_neg h2]
theorem ZIQ{go:σ->It->By->σ×Except Int By}{s:σ}{xs:List It}{n:UInt8}{r:By}(h2:xs.length≠2):Z3U go s xs (n::r)=go s (xs.getD n.toNat (.s [])) r:=by
 unfold Z3U;rw[if_neg h2]
end
theorem nib_lt(k:By):∀n∈nibbles k,n.toNat<16:=by
 intro n hn;unfold nibbles at hn;obtain⟨c,_,hc⟩:=List.mem_flatMap.1 hn;simp only[List.mem_cons,List.not_mem_nil,or_false]at hc;have h1:∀n:Fin 256,((UInt8.ofFin n)>>>4).toNat<16:=by decide +kernel
 have h2:∀n:Fin 256,((UInt8.ofFin n)&&&15).toNat<16:=by decide +kernel
 rcases hc with rfl|rfl
 ·exact h1 c.toFin
 ·exact h2 c.toFin
end Go.Proofs.YtfghidehlnfdiaaGreat
end
section
namespace Go.Vcg
structure ZHu (C:Car) where
 f:JM
 args:List (SV C)
def Z3S(P:Program)(rt:I->Prop)(R:D->I->Prop):List (JM×Array Value)->JF->I->Prop
 |[],J8,w=>rt w
 |[],J2 chain,w=>R (X chain) w
 |[],.run,_=>False
 |(f,args)::ds,u,w=>u≠.run/\Ja P f args u w fun
    | J _,u',w'=>Z3S P rt R ds (settle u') w'
    | X chain,u',w'=>Z3S P rt R ds (raised u' chain) w'
    | .outgrown,_,w'=>R .outgrown w'
section
variable{C:Car}(A:List (ZHu C)->(C.W->C.R)->Alg C)(leav:List (ZHu C)->(C.W->C.R)->C.W->C.R)(P:Program)
def pieces:Code->List Code
 | .seq a b=>pieces a++pieces b
 |c=>[c]
def ZGI:Code->Option (Array Oper×Oper×Call)
 | JQ _ ops O=>match ops.back? with
   |some o=>match o.op with
    | .defer c=>if o.guard.isNone&&o.dst.isNone then Y (ops,o,c)else L
    |_=>L
   |none=>L
 |_=>L
def ZDl(fn:JU):List Tmp:=fn.results.toList.map fun
 | .tmp t=>t
 | .cell a _=>a
def Z8y(fn:JU)(rest:List Code):Bool:=rest.all fun c=>(Zt c).all fun t=> !(ZDl fn).contains t
def endD(fn:JU)(ds:List (ZHu C))(rt:C.W->C.R)(env:Env C)(w:C.W):C.R:=match ds with
 |[]=>ZJu (A [] rt) P fn env w
 |ds=>leav ds rt w
def ZGP(ann:List (Nat×List (Tmp×Shape1)))(fn:JU):List Code->List (ZHu C)->(C.W->C.R)->Env C->C.W->C.R
 |[],ds,rt,env,w=>endD A leav P fn ds rt env w
 |c::rest,ds,rt,env,w =>
  match ZGI c with
  |some (ops,o,call)=>Z7n (A ds rt) P ops (ops.toList.take (ops.size-1)) env w fun env w =>
   match call.callee with
   | .value f=>match ev (A ds rt) env f with
     | .func (.func g) first cap=>if ZAE P g&&Z8y fn rest then
       ZGP ann fn rest (⟨g,first++call.args.toList.map (ev (A ds rt) env)++cap⟩::ds) (match ds with|[]=>fun w=>ZJu (A ds rt) P fn env w|_=>rt) env w
       else(A ds rt).fail "defer"
     |_=>(A ds rt).fail "defer: what function?"
   |_=>(A ds rt).fail "defer"
  |none=>Z9u (A ds rt) P ann c env w { nrm:=fun env w=>ZGP ann fn rest ds rt env w,exit:=fun _ _ _=>(A ds rt).fail "exit",ret:=fun env w=>endD A leav P fn ds rt env w }
def ZC4(ann:List (Nat×List (Tmp×Shape1)))(fn:JU)(args:List (SV C))(fl:C.R)(w:C.W):C.R :=
 match fn.body with
 |none=>fl
 |some c=>if args.length<=fn.ntmps/\Z22 fn.ntmps c=M then ZGP A leav P ann fn (pieces c) [] (fun _=>fl) (Z2M 0 args) w else fl
end
def dsV(ds:List (ZHu pC)):List (JM×Array Value):=ds.map fun d=>(d.f,(toVs d.args).toArray)
def finD(P:Program)(R:D->I->Prop)(ds:List (ZHu pC))(rt:I->Prop)(e:D)(w:I):Prop:=match ds with
 |[]=>R e w
 |d::ds=>match e with
  | X ch=>Z3S P rt R (dsV (d::ds)) (J2 ch) w
  |e=>R e w
def aD(P:Program)(R:D->I->Prop)(ds:List (ZHu pC))(rt:I->Prop):Alg pC:=pA P ⟨finD P R ds rt,M⟩
def ZFP(P:Program)(R:D->I->Prop)(ds:List (ZHu pC))(rt:I->Prop)(w:I):Prop:=Z3S P rt R (dsV ds) J8 w
section
variable{P:Program}{R:D->I->Prop}
def Z2O(P:Program):List Code->(Jc->JY->I->Prop)->JY->I->Prop
 |[],Q,a,w=>Q .normal a w
 |c::cs,Q,a,w=>c.wp P (Exit.then (Z2O P cs Q) Q) a w
theorem Z7P{Q Q':Jc->JY->I->Prop}(hq:∀e a w,Q e a w->Q' e a w):∀(cs:List Code) (a:JY) (w:I),Z2O P cs Q a w->Z2O P cs Q' a w
 |[],a,w,h=>hq _ _ _ h
 |c::cs,a,w,h=>JG (fun e a w q=>by cases e<;>first|exact Z7P hq cs _ _ q|exact hq _ _ _ q) h
theorem Z5j:∀(xs ys:List Code) (Q:Jc->JY->I->Prop) (a:JY) (w:I),Z2O P (xs++ys) Q a w->Z2O P xs (Exit.then (Z2O P ys Q) Q) a w
 |[],ys,Q,a,w,h=>h
 |x::xs,ys,Q,a,w,h=>JG (fun e a w q=>by cases e<;>first|exact Z5j xs ys Q a w q|exact q) h
theorem ZHp:∀(c:Code) (Q:Jc->JY->I->Prop) (a:JY) (w:I),Z2O P (pieces c) Q a w->c.wp P Q a w:=by
 intro c
 induction c with
 |seq x y ihx ihy =>
  intro Q a w h;unfold pieces at h;refine wp_seq (ihx _ _ _ (Z7P (fun e a w q=>?_) _ _ _ (Z5j _ _ _ _ _ h)));cases e<;>first|exact ihy _ _ _ q|exact q
 |_ =>
  intro Q a w h;refine JG (fun e a w q=>?_) h;cases e<;>exact q
theorem ZAY{fn:JU}{t t':Array Value}(h:∀s∈ZDl fn,t.getD s undef=t'.getD s undef):JE fn t=JE fn t':=by
 unfold JE
 have:∀(l:List ResultVar),(∀s∈(l.map fun|ResultVar.tmp t=>t| .cell a _=>a),t.getD s undef=t'.getD s undef) ->
   (l.mapM fun r=>(match r with
     | .tmp s=>pure (t.getD s undef)
     | .cell a ty=>do loadVar ty (<-asAddr (t.getD a undef)):Sem Value))=l.mapM fun r=>(match r with
     | .tmp s=>pure (t'.getD s undef)
     | .cell a ty=>do loadVar ty (<-asAddr (t'.getD a undef)):Sem Value):=by
  intro l
  induction l with
  |nil=>intro _;rfl
  |cons r l ih =>
   intro h;rw[JR,JR,ih (fun s hs=>h s (by simp[hs]))];cases r with
   |tmp s=>simp only[h s (by simp)]
   |cell a ty=>simp only[h a (by simp)]
 have h1:=this fn.results.toList h;rw[Array.mapM_eq_mapM_toList,Array.mapM_eq_mapM_toList]
 erw [h1]
 rfl
theorem ZKC{o:Oper}{a:JY}{w:I}{K:JY->I->Prop}{Q Q':Jc->JY->I->Prop}(h:o.wp P a w K Q)(hp:∀ch a w,Q (.panic ch) a w->Q' (.panic ch) a w)(ho:LetsOut Q->LetsOut Q'):o.wp P a w K Q':=by
 unfold Oper.wp at *
 generalize(execOp a.eval o).run P w=r at *
 cases r with
 |ok n w' =>
  cases n<;>simp only[Oper.upon]at h ⊢ <;>
   first
    |exact h
    |exact Calls.mono h (fun e w'' he=>by cases e<;>first|exact he|exact hp _ _ _ he|exact ho he)
 |halt x w'=>cases x<;>simp only[Oper.upon]at h ⊢ <;> first|exact hp _ _ _ h|exact h
theorem Z56{ops:Array Oper}{Q:Jc->JY->I->Prop}:∀(xs ys:List Oper) (a:JY) (w:I),JN P ops (Exit.then (JN P ops Q ys) Q) xs a w->JN P ops Q (xs++ys) a w
 |[],ys,a,w,h=>h
 |x::xs,ys,a,w,h=>by
  rw[List.cons_append];unfold JN at h ⊢;split
  ·rename_i hw
   rw[if_pos hw]at h;rcases h with h|⟨h1,h2⟩
   ·exact .inl (ZKC (Oper.wp_mono (fun a w=>Z56 xs ys a w) h) (fun _ _ _ h=>h) (fun⟨a,w,h⟩=>⟨a,w,h⟩))
   ·exact .inr ⟨h1,by obtain⟨a,w,h⟩:=h2;exact⟨a,w,h⟩⟩
  ·rename_i hw
   rw[if_neg hw]at h;exact Z56 xs ys _ w h
def ZBc(P:Program):List (JM×Array Value)->List JZ->Prop
 |[],[]=>True
 |(f,args)::ds,d::dd=>(∃fv cap,d.target=.fn fv cap/\∀w,(invoke d.target d.args).run P w=.ok (.enter f args) w)/\ZBc P ds dd
 |_,_=>False
theorem Z3s{fn:JU}{tmps:Array Value}{rt:I->Prop}(hrt:∀w,rt w->∃v,(JE fn tmps).run P w=.ok v w/\R (J v) w):∀(ds:List (JM×Array Value)) (dd:List JZ) (u:JF) (w:I),ZBc P ds dd ->
  Z3S P rt R ds u w->Leaves P fn tmps R dd u w
 |[],[],u,w,_,h=>by
  cases u with
  |run=>exact h
  |returning=>exact hrt w h
  |panicking ch=>exact h
 |(f,args)::ds,[],_,_,h,_=>h.elim
 |[],d::dd,_,_,h,_=>h.elim
 |(f,args)::ds,d::dd,u,w,hd,h=>by
  obtain⟨⟨fv,cap,h1,h2⟩,h3⟩:=hd;obtain⟨hu,hc⟩:=h;refine⟨hu,fv,cap,f,args,h1,h2 w,hc.mono fun e u' w' he=>?_⟩;cases e with
  |returned v=>exact Z3s hrt ds dd _ _ h3 he
  |panicked ch=>exact Z3s hrt ds dd _ _ h3 he
  |outgrown=>exact he
theorem ZH2{n:Nat}:∀(c:Code),Z22 n c=M->∀p∈pieces c,Z22 n p=M:=by
 intro c
 induction c with
 |seq x y ihx ihy =>
  intro h p hp;simp only[Z22,J0]at h;simp only[pieces,List.mem_append]at hp;rcases hp with hp|hp
  ·exact ihx h.1 p hp
  ·exact ihy h.2 p hp
 |_=>intro h p hp;simp only[pieces,List.mem_singleton]at hp;subst hp;exact h
def RtOK(P:Program)(R:D->I->Prop)(fn:JU)(rt:I->Prop)(a:JY):Prop:=∀w,rt w->∃v,(JE fn a.tmps).run P w=.ok v w/\R (J v) w
theorem ZDQ{ann:List (Nat×List (Tmp×Shape1))}(hm:P.follows .mixedOrders=M){fn:JU}{n:Nat}:∀(cs:List Code) (ds:List (ZHu pC)) (rt:I->Prop) (env:Env pC) (a:JY) (w:I),
  Rep env a->a.tmps.size=n->(∀c∈cs,Z22 n c=M)->ZBc P (dsV ds) a.defers->(ds≠[]->RtOK P R fn rt a/\Z8y fn cs=M) ->
  ZGP (aD P R) (ZFP P R) P ann fn cs ds rt env w->Z2O P cs (JA P fn R) a w:=by
 have endS:∀(ds:List (ZHu pC))(rt:I->Prop)(env:Env pC)(a:JY)(w:I),Rep env a->ZBc P (dsV ds) a.defers->(ds≠[]->RtOK P R fn rt a)->endD (aD P R) (ZFP P R) P fn ds rt env w->Leaves P fn a.tmps R a.defers J8 w:=by
  intro ds rt env a w hrep hdd hrt h;cases ds with
  |nil =>
   have h:ZJu (pA P ⟨R,M⟩) P fn env w:=h
   have he:a.defers=[]:=by
    cases hq:a.defers with
    |nil=>rfl
    |cons d dd=>rw[hq]at hdd;exact hdd.elim
   rw[he];exact Z5q hrep h
  |cons d ds=>exact Z3s (hrt (by simp)) _ _ _ _ hdd h
 intro cs
 induction cs with
 |nil=>intro ds rt env a w hrep hn hs hdd hrt h;exact endS ds rt env a w hrep hdd (fun hne=>(hrt hne).1) h
 |cons c rest ih =>
  intro ds rt env a w hrep hn hs hdd hrt h;unfold ZGP at h;have hrest:∀c∈rest,Z22 n c=M:=fun c hc=>hs c (by simp[hc])
  have hclr:Z8y fn (c::rest)=M->Z8y fn rest=M/\∀t∈ZDl fn,t ∉ Zt c:=by
   intro hc;simp only[Z8y,JI,J0]at hc;refine⟨hc.2,fun t ht hw=>?_⟩;have:=List.all_eq_true.1 hc.1 t hw;simp only[List.contains_eq_mem,decide_eq_true ht,Bool.not_true]at this;cases this
  have keepRt:∀(a':JY),(∀t,t ∉ Zt c->a'.tmps.getD t undef=a.tmps.getD t undef)->ds≠[]->RtOK P R fn rt a':=by
   intro a' hk hne w' hw;obtain⟨h1,h2⟩:=hrt hne;have he:JE fn a'.tmps=JE fn a.tmps:=ZAY fun s hsl=>hk s ((hclr h2).2 s hsl);rw[he];exact h1 w' hw
  split at h
  ·rename_i ops o call hdf
   have hc:∃id,c=JQ id ops O/\ops.back?=Y o/\o.op=.defer call/\o.guard=L/\o.dst=L:=by
    unfold ZGI at hdf;split at hdf
    ·rename_i id ops'
     split at hdf
     ·rename_i o' ho
      split at hdf
      ·rename_i c' hop
       split at hdf
       ·rename_i hg
        simp only[J0,Option.isNone_iff_eq_none]at hg;cases hdf;exact⟨id,rfl,ho,hop,hg.1,hg.2⟩
       ·cases hdf
      ·cases hdf
     ·cases hdf
    ·cases hdf
   obtain⟨id,rfl,hback,hop,hguard,hdst⟩:=hc;have hsc:=hs (JQ id ops O) (by simp)
   have hd:∀o∈ops.toList,ZGL n o:=by
    intro o ho d hdst;have:=Array.all_eq_true_iff_forall_mem.1 hsc o (Array.mem_toList_iff.1 ho);simp only[hdst,decide_eq_true_eq]at this;exact this
   have hW':∀o∈ops.toList,∀d,o.dst=Y d->d∈Zt (JQ id ops O):=by
    intro o ho d hdst;simp only[Zt,List.mem_filterMap];exact⟨o,ho,hdst⟩
   have hsplit:ops.toList=ops.toList.take (ops.size-1)++[o]:=by
    have hl:ops.toList.length=ops.size:=Array.length_toList;have hb:ops.toList.getLast?=Y o:=by rw[Array.getLast?_toList];exact hback
    obtain⟨ys,hys⟩:=List.getLast?_eq_some_iff.1 hb;have h1:ops.size-1=ys.length:=by rw[<-hl,hys];simp
    rw[h1,hys,List.take_left]
   refine wp_region_list ?_;rw[hsplit];refine Z56 _ _ _ _ (Z3W (W:=Zt (JQ id ops O)) _ env a w _ hrep hn (fun o ho=>hd o (JH ho)) (fun o ho=>hW' o (JH ho)) h ?_ ?_)
   ·
    intro ch a' w' hd' hk hf;show Leaves P fn a'.tmps R a'.defers (J2 ch) w';rw[hd'];cases ds with
    |nil =>
     have he:a.defers=[]:=by
      cases hq:a.defers with
      |nil=>rfl
      |cons d dd=>rw[hq]at hdd;exact hdd.elim
     rw[he];exact hf
    |cons d ds=>exact Z3s (keepRt a' hk (by simp)) _ _ _ _ hdd hf
   ·intro env' a' w' hrep' hn' hd' hk h
    show JN P ops (Exit.then (Z2O P rest (JA P fn R)) (JA P fn R)) [o] a' w';split at h
    case h_2=>exact h.elim
    rename_i f hcal;split at h
    case h_2=>exact h.elim
    rename_i g first cap hev
    split at h
    case isFalse=>exact h.elim
    rename_i hg;simp only[J0]at hg;have hev':a'.eval f=.func (.func g) (toVs first).toArray (toVs cap).toArray:=by rw[hrep'.eval f];erw [hev];rfl
    have hargs:call.args.map a'.eval=(toVs (call.args.toList.map (ev (aD P R ds rt) env'))).toArray:=by
     rw[Z2I,List.map_map];apply Array.ext';simp only[Array.toList_map];exact List.map_congr_left fun x _=>hrep'.eval x
    have hex:(execOp a'.eval o).run P w'=.ok (.defer { target:=.fn (.func g) (toVs cap).toArray,args:=(toVs first).toArray++call.args.map a'.eval }) w':=by
     simp[execOp,hop,resolve,hcal,Deferred.ofValue,hev']
    unfold JN;have hwant:Region.wanted o (yielded ops a'.tmps)=M:=by simp[Region.wanted,hguard]
    rw[if_pos hwant];refine .inl ?_;unfold Oper.wp;rw[hex];rw[Oper.upon_defer];unfold JN;show Z2O P rest (JA P fn R) _ w';rw[hdst];refine ih (⟨g,first++call.args.toList.map (ev (aD P R ds rt) env')++cap⟩::ds) _ env' _ w' hrep' hn' hrest (And.intro ⟨.func g,(toVs cap).toArray,rfl,fun w''=>?_⟩ ?_) (fun _=>⟨?_,hg.2⟩) h
    ·show(callFunc g _).run P w''=_
     rw[Z3K hg.1];congr 2;rw[hargs];apply Array.ext';simp[Z2I]
    ·show ZBc P (dsV ds) a'.defers
     rw[hd'];exact hdd
    ·intro w'' hw''
     cases ds with
     |nil=>exact Z5q (R:=⟨R,M⟩) hrep' hw''
     |cons d ds=>exact keepRt a' hk (by simp) w'' hw''
  ·refine JG (Q:=fun e a' w'=>Exit.then (Z2O P rest (JA P fn R)) (JA P fn R) e a' w'/\(∀ch,e=.panic ch->ds=[]->a'.defers=[])) (fun e a' w' hq=>hq.1) ?_
   have hnil:ds=[]->a.defers=[]:=by
    rintro rfl;cases hq:a.defers with
    |nil=>rfl
    |cons d dd=>rw[hq]at hdd;exact hdd.elim
   refine Z7d (R:=⟨finD P R ds rt,M⟩) hm c (Zt c) env a w _ _ hrep hn (hs c (by simp)) (fun t ht=>ht) ?_ ?_ h ?_
   ·intro ch a1 a2 w' hd' hk⟨h1,h2⟩
    refine⟨?_,fun ch' _ hne=>by rw[<-hd'];exact h2 ch rfl hne⟩;have h1:Leaves P fn a1.tmps R a1.defers (J2 ch) w':=h1;show Leaves P fn a2.tmps R a2.defers (J2 ch) w';rw[<-hd'];by_cases hne:ds=[]
    ·rw[h2 ch rfl hne]at h1 ⊢;exact h1
    ·have he:JE fn a1.tmps=JE fn a2.tmps:=ZAY fun s hsl=>hk s ((hclr (hrt hne).2).2 s hsl)
     have cong:∀(dd:List JZ)(u:JF)(w:I),Leaves P fn a1.tmps R dd u w->Leaves P fn a2.tmps R dd u w:=by
      intro dd
      induction dd with
      |nil =>
       intro u w hl;cases u with
       |run=>exact hl
       |returning=>obtain⟨v,hv⟩:=hl;exact⟨v,by rw[<-he];exact hv⟩
       |panicking ch=>exact hl
      |cons d dd ihd =>
       intro u w⟨g1,fv,cap,f,args,g2,g3,g4⟩;refine⟨g1,fv,cap,f,args,g2,g3,g4.mono fun e u' w' hh=>?_⟩;cases e with
       |returned v=>exact ihd _ _ hh
       |panicked ch=>exact ihd _ _ hh
       |outgrown=>exact hh
     exact cong _ _ _ h1
   ·intro ch a' w' hd' hk hf
    refine⟨?_,fun ch' _ hne=>by rw[hd'];exact hnil hne⟩;show Leaves P fn a'.tmps R a'.defers (J2 ch) w';rw[hd'];cases ds with
    |nil=>rw[hnil rfl];exact hf
    |cons d ds=>exact Z3s (keepRt a' hk (by simp)) _ _ _ _ hdd hf
   ·exact{
     nrm:=fun env' a' w' h1 h2 h3 h4 h5=>by
      refine⟨?_,fun ch he=>by cases he⟩;show Z2O P rest (JA P fn R) a' w';exact ih ds rt env' a' w' h1 h2 hrest (by rw[h3];exact hdd) (fun hne=>⟨keepRt a' h4 hne,(hclr (hrt hne).2).1⟩) h5
     exit:=fun i env' a' w' h1 h2 h3 h4 h5=>h5.elim
     ret:=fun env' a' w' h1 h2 h3 h4 h5=>by
      refine⟨?_,fun ch he=>by cases he⟩;show Leaves P fn a'.tmps R a'.defers J8 w';exact endS ds rt env' a' w' h1 (by rw[h3];exact hdd) (fun hne=>keepRt a' h4 hne) h5 }
theorem Z5J{ann:List (Nat×List (Tmp×Shape1))}{f:JM}{fn:JU}{args:List (SV pC)}{w:I}(hf:P.funcs[f]?=Y fn)(hm:P.follows .mixedOrders=M)
  (h:ZC4 (aD P R) (ZFP P R) P ann fn args False w):T P f (toVs args).toArray w R:=by
 unfold ZC4 at h;split at h
 ·exact h.elim
 ·rename_i c hb
  split at h
  ·rename_i hc
   refine calls_of_wp_defers hf hb (ZHp _ _ _ _ ?_);have hrep:Rep (Z2M 0 args) ({ tmps:=(toVs args).toArray++Array.replicate (fn.ntmps-(toVs args).toArray.size) undef,defers:=[] }:JY):=Z87;exact ZDQ hm (pieces c) [] _ _ _ w hrep (by simp[Z00];omega) (ZH2 c hc.2) trivial (fun h=>(h rfl).elim) h
  ·exact h.elim
theorem Z82{ann:List (Nat×List (Tmp×Shape1))}{f:JM}{fn:JU}{args:List (SV pC)}{u:JF}{w:I}(hf:P.funcs[f]?=Y fn)(hm:P.follows .mixedOrders=M)
  (h:Z6N (pA P ⟨R,O⟩) P ann fn args w):Ja P f (toVs args).toArray u w fun e u' w'=>u'=u/\R e w':=by
 obtain⟨c,hb,hw⟩:=ZEG hm h;exact callsD_of_wp hf hb hw
end
end Go.Vcg
end
section
namespace Go.Proofs.YtfghidehlnfdiaaGreat
open Go Go.Vcg
abbrev Z2e.n:Nat:=29
def Z2e.Vc(a:Option Addr)(b c:Nat)(c:Bool)(w:I)(R:D->I->Prop):Prop :=
 ∀d e,ZC w 69 #[.map L,.bool O] d e ->
 (((b:Int)>4096 ->
 Z1 e d (.map L)/\∀f,ZA e d (.map L) f ->
 Z1 f (d.add 1) (.bool O)/\∀g,ZA f (d.add 1) (.bool O) g ->
 ∃f:Option Nat,∃h,g.cell? d=Y (.map f) /\
 g.cell? (d.add 1)=Y (.bool h) /\
 R (J (U #[.agg #[.map f,.bool h],.int B 162])) g) /\
 (¬(b:Int)>4096 ->
 ∃f g,S G (Instr.makeMap 67 L) e=.ok f g /\
 ∃e:Option Nat,f=(.map e) /\
 ∀f h,ZC g 69 #[.map L,.bool O] f h ->
 Z1 h f (.map e)/\∀g,ZA h f (.map e) g ->
 Z1 g (f.add 1) (.bool c)/\∀e,ZA g (f.add 1) (.bool c) e ->
 ∃(c:Int->I->Prop)(g:Int->I->Nat),c 0 e /\
 (∀(e:Int)(h:Nat->Value)(h:I),c e h ->
 ((e<(b:Int) ->
 ∃i,a=Y i /\
 ((0:Int)<=e/\e<(b:Int)) /\
 ∃a,ZG h (i.add (e.toNat*33)) 33 a /\
 ∀i j,ZC h 48 #[.int Z 0,.int Z 0,.int Z 0,.int Z 0,.int Z 0,.int Z 0,.int Z 0,.int Z 0,.int Z 0,.int Z 0,.int Z 0,.int Z 0,.int Z 0,.int Z 0,.int Z 0,.int Z 0,.int Z 0,.int Z 0,.int Z 0,.int Z 0,.int Z 0,.int Z 0,.int Z 0,.int Z 0,.int Z 0,.int Z 0,.int Z 0,.int Z 0,.int Z 0,.int Z 0,.int Z 0,.int Z 0,.slice L 0 0] i j ->
 ∃k,S G (N 48 (V (Y i)) (.agg a)) j=.ok () k /\
 ∃a:Option Nat,k.cell? f=Y (.map a) /\
 ∃j,ZG k i 32 j /\
 ∃l,S G (JW 67 (.map a) (.agg j) M) k=.ok l k /\
 ∃a j m n,l=(U #[.slice a j m,.bool n]) /\
 ((n=O ->
 ∃a:Option Nat,k.cell? f=Y (.map a) /\
 ∃j,ZG k i 32 j /\
 ∃l m o,k.cell? (i.add 32)=Y (.slice l m o) /\
 ∃i,S G (Instr.mapUpdate 67 (.map a) (.agg j) (.slice l m o)) k=.ok () i /\
 c (E B (e+1)) i/\g (E B (e+1)) i<g e h) /\
 (n=M ->
 c (E B (e+1)) k/\g (E B (e+1)) k<g e h))) /\
 (¬e<(b:Int) ->
 ∃a:Option Nat,∃b,h.cell? f=Y (.map a) /\
 h.cell? (f.add 1)=Y (.bool b) /\
 Z1 h d (.map a)/\∀c,ZA h d (.map a) c ->
 Z1 c (d.add 1) (.bool b)/\∀a,ZA c (d.add 1) (.bool b) a ->
 ∃b:Option Nat,∃c,a.cell? d=Y (.map b) /\
 a.cell? (d.add 1)=Y (.bool c) /\
 R (J (U #[.agg #[.map b,.bool c],.int B 0])) a)))))
theorem Z2e.vc(a b c d w R)(h:Z2e.Vc a b c d w R):T G 29 #[(.slice a b c),(.bool d)] w R:=xs [(5,[(20,.cell (.int B))])] [.slice a b c,.bool (.var d)] Tryz.func29 ZL (by kernel_rfl) h
abbrev Z0L.n:Nat:=37
def Z0L.Vc(a:Option Nat)(b:Bool)(c:Array Value)(w:I)(R:D->I->Prop):Prop :=
 ∀d e,ZC w 69 #[.map a,.bool b] d e ->
 ∀a b,ZC e 27 c a b ->
 ∃c:Option Nat,b.cell? d=Y (.map c) /\
 ∃e,ZG b a 32 e /\
 ∃f,S G (JW 67 (.map c) (.agg e) M) b=.ok f b /\
 ∃c e g h,f=(U #[.slice c e g,.bool h]) /\
 ((h=O ->
 T G 45 #[.int B 160] b (fun f i =>
 ((∃ch,f=X ch/\R (X ch) i) \/
 f=J (U #[]) /\
 R (J (.slice c e g)) i))) /\
 (h=M ->
 ∀f,ZJ b f ->
 ∃b,f.cell? (d.add 1)=Y (.bool b) /\
 ((b=M ->
 ∃d,ZG f a 32 d /\
 ∀h i,ZC f 23 #[.slice c e g] h i ->
 ZG i a 32 d /\
 T G 53 #[.slice (Y h) 1 1] i (fun h i =>
 ((∃ch,h=X ch/\R (X ch) i) \/
 ∃j,h=J (.agg j) /\
 ZG i a 32 d /\
 ∃a,S G (Z02 .neq 27 (.tmp 24) (.tmp 25) (.agg j) (.agg d)) i=.ok a i /\
 ∃d,a=(.bool d) /\
 ((d=M ->
 T G 45 #[.int B 161] i (fun a h =>
 ((∃ch,a=X ch/\R (X ch) h) \/
 a=J (U #[]) /\
 R (J (.slice c e g)) h))) /\
 (d=O ->
 R (J (.slice c e g)) i))))) /\
 (b=O ->
 R (J (.slice c e g)) f))))
theorem Z0L.vc(a b c w R)(h:Z0L.Vc a b c w R):T G 37 #[(.agg #[(.map a),(.bool b)]),(.agg c)] w R:=xt [] [.agg [.map a,.bool (.var b)],.big 32 c] Tryz.func37 ZL (by kernel_rfl) h
abbrev Z2c.n:Nat:=39
def Z2c.Vc(a:Array Value)(w:I)(R:D->I->Prop):Prop :=
 ∀b c,ZC w 27 a b c ->
 ∀a d,ZC c 82 #[.int Z 0,.int Z 0,.int Z 0,.int Z 0,.int Z 0,.int Z 0,.int Z 0,.int Z 0,.int Z 0,.int Z 0,.int Z 0,.int Z 0,.int Z 0,.int Z 0,.int Z 0,.int Z 0,.int Z 0,.int Z 0,.int Z 0,.int Z 0,.int Z 0,.int Z 0,.int Z 0,.int Z 0,.int Z 0,.int Z 0,.int Z 0,.int Z 0,.int Z 0,.int Z 0,.int Z 0,.int Z 0,V L,.bool O] a d ->
 ∀c,ZJ d c ->
 ∃d,ZG c b 32 d /\
 ∃e,ZG c b 32 e /\
 T G 68 #[] c (fun c f =>
 ∃g,c=J (.agg g) /\
 ZG f b 32 e /\
 ZG f b 32 d /\
 ∃b,S G (Z02 .neq 27 (.tmp 4) (.tmp 5) (.agg e) (.agg g)) f=.ok b f /\
 ∃c,b=(.bool c) /\
 Array.size d=32 /\
 ∃b,S G (N 82 (V (Y a)) (.agg (setsAt (lputL #[.int Z 0,.int Z 0,.int Z 0,.int Z 0,.int Z 0,.int Z 0,.int Z 0,.int Z 0,.int Z 0,.int Z 0,.int Z 0,.int Z 0,.int Z 0,.int Z 0,.int Z 0,.int Z 0,.int Z 0,.int Z 0,.int Z 0,.int Z 0,.int Z 0,.int Z 0,.int Z 0,.int Z 0,.int Z 0,.int Z 0,.int Z 0,.int Z 0,.int Z 0,.int Z 0,.int Z 0,.int Z 0,V L,.bool O] 0 32 d) 33 [.bool c]))) f=.ok () b /\
 ∃c,ZG b a 34 c /\
 R (J (.agg c)) b)
theorem Z2c.vc(a w R)(h:Z2c.Vc a w R):T G 39 #[(.agg a)] w R:=xs [] [.big 32 a] Tryz.func39 ZL (by kernel_rfl) h
abbrev Z2a.n:Nat:=65
def Z2a.Vc(a:Bool)(b:Option Addr)(c d:Nat)(e:Option Addr)(f g:Nat)(w:I)(R:D->I->Prop):Prop :=
 ∀h i,ZC w 111 #[.bool a,.slice b c d,.slice e f g] h i ->
 ∀a b,ZC i 86 #[.bool O,.slice L 0 0,.slice L 0 0,.slice L 0 0] a b ->
 ∃c d e,b.cell? (h.add 2)=Y (.slice c d e) /\
 (((d:Int)=2 ->
 ∃c e f,b.cell? (h.add 2)=Y (.slice c e f) /\
 ∃f,c=Y f /\
 ((0:Int)<=0/\0<(e:Int)) /\
 ∃c e g,b.cell? ((f.add 0).add 1)=Y (.slice c e g) /\
 T G 99 #[.slice c e g] b (fun c e =>
 ∃f g i j k,c=J (U #[.slice f g i,.bool j,.int B k]) /\
 ((j=M ->
 ∃c k l,e.cell? (h.add 2)=Y (.slice c k l) /\
 ∃l,c=Y l /\
 ((0:Int)<=1/\1<(k:Int)) /\
 ∃c k m,e.cell? ((l.add 3).add 1)=Y (.slice c k m) /\
 Z1 e a (.bool M)/\∀l,ZA e a (.bool M) l ->
 Z1 l (a.add 1) (.slice f g i)/\∀n,ZA l (a.add 1) (.slice f g i) n ->
 Z1 n (a.add 2) (.slice L 0 0)/\∀l,ZA n (a.add 2) (.slice L 0 0) l ->
 Z1 l (a.add 3) (.slice c k m)/\∀n,ZA l (a.add 3) (.slice c k m) n ->
 ∃c k l m o p q r s t,n.cell? a=Y (.bool c) /\
 n.cell? (a.add 1)=Y (.slice k l m) /\
 n.cell? (a.add 2)=Y (.slice o p q) /\
 n.cell? (a.add 3)=Y (.slice r s t) /\
 R (J (.agg #[.bool c,.slice k l m,.slice o p q,.slice r s t])) n) /\
 (j=O ->
 ∃c j k,e.cell? (h.add 2)=Y (.slice c j k) /\
 ∃k,c=Y k /\
 ((0:Int)<=1/\1<(j:Int)) /\
 ∃c j l m n o p,e.cell? (k.add 3)=Y (.bool c) /\
 e.cell? ((k.add 3).add 1)=Y (.slice j l m) /\
 e.cell? ((k.add 3).add 2)=Y (.slice n o p) /\
 T G 100 #[.agg #[.bool c,.slice j l m,.slice n o p]] e (fun c e =>
 ∃j,c=J (.agg j) /\
 Array.size j=34 /\
 ∀c k,ZC e 82 (lputL #[.int Z 0,.int Z 0,.int Z 0,.int Z 0,.int Z 0,.int Z 0,.int Z 0,.int Z 0,.int Z 0,.int Z 0,.int Z 0,.int Z 0,.int Z 0,.int Z 0,.int Z 0,.int Z 0,.int Z 0,.int Z 0,.int Z 0,.int Z 0,.int Z 0,.int Z 0,.int Z 0,.int Z 0,.int Z 0,.int Z 0,.int Z 0,.int Z 0,.int Z 0,.int Z 0,.int Z 0,.int Z 0,V L,.bool O] 0 34 j) c k ->
 Z1 k a (.bool O)/\∀e,ZA k a (.bool O) e ->
 Z1 e (a.add 1) (.slice f g i)/\∀j,ZA e (a.add 1) (.slice f g i) j ->
 Z1 j (a.add 2) (.slice (Y c) 1 1)/\∀e,ZA j (a.add 2) (.slice (Y c) 1 1) e ->
 Z1 e (a.add 3) (.slice L 0 0)/\∀c,ZA e (a.add 3) (.slice L 0 0) c ->
 ∃e f g i j k l m n o,c.cell? a=Y (.bool e) /\
 c.cell? (a.add 1)=Y (.slice f g i) /\
 c.cell? (a.add 2)=Y (.slice j k l) /\
 c.cell? (a.add 3)=Y (.slice m n o) /\
 R (J (.agg #[.bool e,.slice f g i,.slice j k l,.slice m n o])) c))))) /\
 ((d:Int)≠2 ->
 ∃c d e,b.cell? (h.add 2)=Y (.slice c d e) /\
 ∃e,c=Y e /\
 ((0:Int)<=16/\16<(d:Int)) /\
 ∃c d f,b.cell? ((e.add 48).add 1)=Y (.slice c d f) /\
 ∀e g,ZC b 86 #[.bool O,.slice L 0 0,.slice L 0 0,.slice L 0 0] e g ->
 Z1 g e (.bool O)/\∀b,ZA g e (.bool O) b ->
 Z1 b (e.add 1) (.slice L 0 0)/\∀g,ZA b (e.add 1) (.slice L 0 0) g ->
 Z1 g (e.add 2) (.slice L 0 0)/\∀b,ZA g (e.add 2) (.slice L 0 0) b ->
 Z1 b (e.add 3) (.slice c d f)/\∀g,ZA b (e.add 3) (.slice c d f) g ->
 ∃b c d,g.cell? (h.add 2)=Y (.slice b c d) /\
 16<=d /\
 ∃(c:Int->I->Prop)(d:Int->I->Nat),c 0 g /\
 (∀(f:Int)(g:Nat->Value)(g:I),c f g ->
 ((f<(16:Int) ->
 ∃h,b=Y h /\
 ((0:Int)<=f/\f<(16:Int)) /\
 ∃b i j k l m n,g.cell? (h.add (f.toNat*3))=Y (.bool b) /\
 g.cell? ((h.add (f.toNat*3)).add 1)=Y (.slice i j k) /\
 g.cell? ((h.add (f.toNat*3)).add 2)=Y (.slice l m n) /\
 ∀h o,ZC g 111 #[.bool O,.slice L 0 0,.slice L 0 0] h o ->
 Z1 o h (.bool b)/\∀p,ZA o h (.bool b) p ->
 Z1 p (h.add 1) (.slice i j k)/\∀b,ZA p (h.add 1) (.slice i j k) b ->
 Z1 b (h.add 2) (.slice l m n)/\∀i,ZA b (h.add 2) (.slice l m n) i ->
 ∀b,ZJ i b ->
 ∃i j k,b.cell? (e.add 2)=Y (.slice i j k) /\
 ∃l m n o p q r,b.cell? h=Y (.bool l) /\
 b.cell? (h.add 1)=Y (.slice m n o) /\
 b.cell? (h.add 2)=Y (.slice p q r) /\
 T G 100 #[.agg #[.bool l,.slice m n o,.slice p q r]] b (fun b h =>
 ∃l,b=J (.agg l) /\
 h.cell? (e.add 2)=Y (.slice i j k) /\
 Array.size l=34 /\
 ∀b m,ZC h 82 (lputL #[.int Z 0,.int Z 0,.int Z 0,.int Z 0,.int Z 0,.int Z 0,.int Z 0,.int Z 0,.int Z 0,.int Z 0,.int Z 0,.int Z 0,.int Z 0,.int Z 0,.int Z 0,.int Z 0,.int Z 0,.int Z 0,.int Z 0,.int Z 0,.int Z 0,.int Z 0,.int Z 0,.int Z 0,.int Z 0,.int Z 0,.int Z 0,.int Z 0,.int Z 0,.int Z 0,.int Z 0,.int Z 0,V L,.bool O] 0 34 l) b m ->
 m.cell? (e.add 2)=Y (.slice i j k) /\
 ∃h l,S G (builtinV .append #[84,84] 84 #[.slice i j k,.slice (Y b) 1 1]) m=.ok h l /\
 ∃b i j,h=(.slice b i j) /\
 Z1 l (e.add 2) (.slice b i j)/\∀h,ZA l (e.add 2) (.slice b i j) h ->
 c (E B (f+1)) h/\d (E B (f+1)) h<d f g)) /\
 (¬f<(16:Int) ->
 ∃b c d f h i j k l m,g.cell? e=Y (.bool b) /\
 g.cell? (e.add 1)=Y (.slice c d f) /\
 g.cell? (e.add 2)=Y (.slice h i j) /\
 g.cell? (e.add 3)=Y (.slice k l m) /\
 Z1 g a (.bool b)/\∀e,ZA g a (.bool b) e ->
 Z1 e (a.add 1) (.slice c d f)/\∀b,ZA e (a.add 1) (.slice c d f) b ->
 Z1 b (a.add 2) (.slice h i j)/\∀c,ZA b (a.add 2) (.slice h i j) c ->
 Z1 c (a.add 3) (.slice k l m)/\∀b,ZA c (a.add 3) (.slice k l m) b ->
 ∃c d e f g h i j k l,b.cell? a=Y (.bool c) /\
 b.cell? (a.add 1)=Y (.slice d e f) /\
 b.cell? (a.add 2)=Y (.slice g h i) /\
 b.cell? (a.add 3)=Y (.slice j k l) /\
 R (J (.agg #[.bool c,.slice d e f,.slice g h i,.slice j k l])) b)))))
theorem Z2a.vc(a b c d e f g w R)(h:Z2a.Vc a b c d e f g w R):T G 65 #[(.agg #[(.bool a),(.slice b c d),(.slice e f g)])] w R:=xs [(8,[(49,.cell (.int B))])] [.agg [.bool (.var a),.slice b c d,.slice e f g]] Tryz.func65 ZL (by kernel_rfl) h
abbrev Z2b.n:Nat:=66
def Z2b.Vc(a:Option Addr)(b c:Nat)(w:I)(R:D->I->Prop):Prop :=
 ∀d e,ZC w 86 #[.bool O,.slice L 0 0,.slice L 0 0,.slice L 0 0] d e ->
 T G 101 #[.slice a b c] e (fun e f =>
 ∃g,e=J (.int B g) /\
 ((g≠0 ->
 Z1 f d (.bool O)/\∀e,ZA f d (.bool O) e ->
 Z1 e (d.add 1) (.slice L 0 0)/\∀h,ZA e (d.add 1) (.slice L 0 0) h ->
 Z1 h (d.add 2) (.slice L 0 0)/\∀e,ZA h (d.add 2) (.slice L 0 0) e ->
 Z1 e (d.add 3) (.slice L 0 0)/\∀h,ZA e (d.add 3) (.slice L 0 0) h ->
 ∃e i j k l m n o p q,h.cell? d=Y (.bool e) /\
 h.cell? (d.add 1)=Y (.slice i j k) /\
 h.cell? (d.add 2)=Y (.slice l m n) /\
 h.cell? (d.add 3)=Y (.slice o p q) /\
 R (J (U #[.agg #[.bool e,.slice i j k,.slice l m n,.slice o p q],.int B 161])) h) /\
 (g=0 ->
 T G 102 #[.slice a b c] f (fun a b =>
 ∃c e f g h i j k,a=J (U #[.agg #[.bool c,.slice e f g,.slice h i j],.int B k]) /\
 ∀a k,ZC b 111 #[.bool O,.slice L 0 0,.slice L 0 0] a k ->
 Z1 k a (.bool c)/\∀b,ZA k a (.bool c) b ->
 Z1 b (a.add 1) (.slice e f g)/\∀c,ZA b (a.add 1) (.slice e f g) c ->
 Z1 c (a.add 2) (.slice h i j)/\∀b,ZA c (a.add 2) (.slice h i j) b ->
 ∃c e f g h i j,b.cell? a=Y (.bool c) /\
 b.cell? (a.add 1)=Y (.slice e f g) /\
 b.cell? (a.add 2)=Y (.slice h i j) /\
 T G 65 #[.agg #[.bool c,.slice e f g,.slice h i j]] b (fun a b =>
 ∃c e f g h i j k l m,a=J (.agg #[.bool c,.slice e f g,.slice h i j,.slice k l m]) /\
 Z1 b d (.bool c)/\∀a,ZA b d (.bool c) a ->
 Z1 a (d.add 1) (.slice e f g)/\∀b,ZA a (d.add 1) (.slice e f g) b ->
 Z1 b (d.add 2) (.slice h i j)/\∀a,ZA b (d.add 2) (.slice h i j) a ->
 Z1 a (d.add 3) (.slice k l m)/\∀b,ZA a (d.add 3) (.slice k l m) b ->
 ∃a c e f g h i j k l,b.cell? d=Y (.bool a) /\
 b.cell? (d.add 1)=Y (.slice c e f) /\
 b.cell? (d.add 2)=Y (.slice g h i) /\
 b.cell? (d.add 3)=Y (.slice j k l) /\
 R (J (U #[.agg #[.bool a,.slice c e f,.slice g h i,.slice j k l],.int B 0])) b)))))
theorem Z2b.vc(a b c w R)(h:Z2b.Vc a b c w R):T G 66 #[(.slice a b c)] w R:=xs [] [.slice a b c] Tryz.func66 ZL (by kernel_rfl) h
abbrev Z2B.n:Nat:=83
def Z2B.Vc(a:Option Addr)(b c:Nat)(d:Bool)(w:I)(R:D->I->Prop):Prop :=
 ((d=O ->
 R (J (U #[.slice L 0 0,.bool O])) w) /\
 (d=M ->
 T G 36 #[.slice a b c] w (fun a b =>
 ∃c d e,a=J (.slice c d e) /\
 R (J (U #[.slice c d e,.bool M])) b)))
theorem Z2B.vc(a b c d w R)(h:Z2B.Vc a b c d w R):T G 83 #[(.slice a b c),(.bool d)] w R:=xs [] [.slice a b c,.bool (.var d)] Tryz.func83 ZL (by kernel_rfl) h
abbrev Z0K.n:Nat:=67
def Z0K.Vc(a:Bool)(b:Option Addr)(c d:Nat)(e:Option Addr)(f g:Nat)(h:Option Addr)(i j:Nat)(w:I)(R:D->I->Prop):Prop :=
 ∀k l,ZC w 86 #[.bool a,.slice b c d,.slice e f g,.slice h i j] k l ->
 ∃a b c,l.cell? (k.add 2)=Y (.slice a b c) /\
 R (J (.bool (decide ((b:Int)=16)))) l
theorem Z0K.vc(a b c d e f g i j k w R)(h:Z0K.Vc a b c d e f g i j k w R):T G 67 #[(.agg #[(.bool a),(.slice b c d),(.slice e f g),(.slice i j k)])] w R:=xs [] [.agg [.bool (.var a),.slice b c d,.slice e f g,.slice i j k]] Tryz.func67 ZL (by kernel_rfl) h
abbrev Z2T.n:Nat:=100
def Z2T.Vc(a:Bool)(b:Option Addr)(c d:Nat)(e:Option Addr)(f g:Nat)(w:I)(R:D->I->Prop):Prop :=
 ∀h i,ZC w 111 #[.bool a,.slice b c d,.slice e f g] h i ->
 ∀a b,ZC i 82 #[.int Z 0,.int Z 0,.int Z 0,.int Z 0,.int Z 0,.int Z 0,.int Z 0,.int Z 0,.int Z 0,.int Z 0,.int Z 0,.int Z 0,.int Z 0,.int Z 0,.int Z 0,.int Z 0,.int Z 0,.int Z 0,.int Z 0,.int Z 0,.int Z 0,.int Z 0,.int Z 0,.int Z 0,.int Z 0,.int Z 0,.int Z 0,.int Z 0,.int Z 0,.int Z 0,.int Z 0,.int Z 0,V L,.bool O] a b ->
 ∃c,b.cell? h=Y (.bool c) /\
 ((c=M ->
 ∃d,S G (N 82 (V (Y a)) (.agg (setsAt (setsAt #[.int Z 0,.int Z 0,.int Z 0,.int Z 0,.int Z 0,.int Z 0,.int Z 0,.int Z 0,.int Z 0,.int Z 0,.int Z 0,.int Z 0,.int Z 0,.int Z 0,.int Z 0,.int Z 0,.int Z 0,.int Z 0,.int Z 0,.int Z 0,.int Z 0,.int Z 0,.int Z 0,.int Z 0,.int Z 0,.int Z 0,.int Z 0,.int Z 0,.int Z 0,.int Z 0,.int Z 0,.int Z 0,V L,.bool O] 32 [V (Y h)]) 33 [.bool M]))) b=.ok () d /\
 ∃e,ZG d a 34 e /\
 R (J (.agg e)) d) /\
 (c=O ->
 ∃c d e,b.cell? (h.add 1)=Y (.slice c d e) /\
 (((d:Int)=0 ->
 ∃c,S G (N 82 (V (Y a)) (.agg #[.int Z 0,.int Z 0,.int Z 0,.int Z 0,.int Z 0,.int Z 0,.int Z 0,.int Z 0,.int Z 0,.int Z 0,.int Z 0,.int Z 0,.int Z 0,.int Z 0,.int Z 0,.int Z 0,.int Z 0,.int Z 0,.int Z 0,.int Z 0,.int Z 0,.int Z 0,.int Z 0,.int Z 0,.int Z 0,.int Z 0,.int Z 0,.int Z 0,.int Z 0,.int Z 0,.int Z 0,.int Z 0,V L,.bool O])) b=.ok () c /\
 ∃e,ZG c a 34 e /\
 R (J (.agg e)) c) /\
 ((d:Int)≠0 ->
 ∃c d e,b.cell? (h.add 1)=Y (.slice c d e) /\
 32<=d /\
 ∃d,c=Y d /\
 ∃c,ZG b d 32 c /\
 Array.size c=32 /\
 ∃d,S G (N 82 (V (Y a)) (.agg (setsAt (lputL #[.int Z 0,.int Z 0,.int Z 0,.int Z 0,.int Z 0,.int Z 0,.int Z 0,.int Z 0,.int Z 0,.int Z 0,.int Z 0,.int Z 0,.int Z 0,.int Z 0,.int Z 0,.int Z 0,.int Z 0,.int Z 0,.int Z 0,.int Z 0,.int Z 0,.int Z 0,.int Z 0,.int Z 0,.int Z 0,.int Z 0,.int Z 0,.int Z 0,.int Z 0,.int Z 0,.int Z 0,.int Z 0,V L,.bool O] 0 32 c) 33 [.bool M]))) b=.ok () d /\
 ∃b,ZG d a 34 b /\
 R (J (.agg b)) d))))
theorem Z2T.vc(a b c d e f g w R)(h:Z2T.Vc a b c d e f g w R):T G 100 #[(.agg #[(.bool a),(.slice b c d),(.slice e f g)])] w R:=xs [] [.agg [.bool (.var a),.slice b c d,.slice e f g]] Tryz.func100 ZL (by kernel_rfl) h
abbrev Z4V.n:Nat:=49
def Z4V.Vc(a:Array Value)(b:Option Addr)(c d:Nat)(e:Value)(w:I)(R:D->I->Prop):Prop :=
 ∀f g,ZC w 27 a f g ->
 T G 43 #[.slice b c d] g (fun a b =>
 ((∃ch,a=X ch/\R (X ch) b) \/
 ∃c d g,a=J (.slice c d g) /\
 ∃a,ZG b f 32 a /\
 T G 39 #[.agg a] b (fun a b =>
 ((∃ch,a=X ch/\R (X ch) b) \/
 ∃f,a=J (.agg f) /\
 ∀a h,ZC b 82 #[.int Z 0,.int Z 0,.int Z 0,.int Z 0,.int Z 0,.int Z 0,.int Z 0,.int Z 0,.int Z 0,.int Z 0,.int Z 0,.int Z 0,.int Z 0,.int Z 0,.int Z 0,.int Z 0,.int Z 0,.int Z 0,.int Z 0,.int Z 0,.int Z 0,.int Z 0,.int Z 0,.int Z 0,.int Z 0,.int Z 0,.int Z 0,.int Z 0,.int Z 0,.int Z 0,.int Z 0,.int Z 0,V L,.bool O] a h ->
 ∃b,S G (N 82 (V (Y a)) (.agg f)) h=.ok () b /\
 ∃(f:Option Addr->Nat->Nat->Addr->I->Prop)(h:Option Addr->Nat->Nat->Addr->I->Nat),f c d g a b /\
 (∀(a:Option Addr)(b:Nat)(c:Nat)(d:Addr)(g:Nat->Value)(g:I),f a b c d g ->
 ∃i,g.cell? (d.add 33)=Y (.bool i) /\
 ((i=M ->
 ∀j k,ZC g 86 #[.bool O,.slice L 0 0,.slice L 0 0,.slice L 0 0] j k ->
 ∃(l:I->Prop),(∃m,k.cell? (d.add 32)=Y (V m) /\
 ((m≠L ->
 ∃n,k.cell? (d.add 32)=Y (V n) /\
 ∃o,n=Y o /\
 ∃n p q r s t u,k.cell? o=Y (.bool n) /\
 k.cell? (o.add 1)=Y (.slice p q r) /\
 k.cell? (o.add 2)=Y (.slice s t u) /\
 T G 65 #[.agg #[.bool n,.slice p q r,.slice s t u]] k (fun n o =>
 ((∃ch,n=X ch/\R (X ch) o) \/
 ∃p q r s t u v x y z,n=J (.agg #[.bool p,.slice q r s,.slice t u v,.slice x y z]) /\
 Z1 o j (.bool p)/\∀n,ZA o j (.bool p) n ->
 Z1 n (j.add 1) (.slice q r s)/\∀o,ZA n (j.add 1) (.slice q r s) o ->
 Z1 o (j.add 2) (.slice t u v)/\∀n,ZA o (j.add 2) (.slice t u v) n ->
 Z1 n (j.add 3) (.slice x y z)/\∀o,ZA n (j.add 3) (.slice x y z) o ->
 l  o))) /\
 (m=L ->
 ∃m,ZG k d 32 m /\
 Z3E G e #[.agg m] k (fun e k =>
 ((∃ch,e=X ch/\R (X ch) k) \/
 ∃m n o,e=J (.slice m n o) /\
 T G 66 #[.slice m n o] k (fun e k =>
 ((∃ch,e=X ch/\R (X ch) k) \/
 ∃m n o p q r s t u v x,e=J (U #[.agg #[.bool m,.slice n o p,.slice q r s,.slice t u v],.int B x]) /\
 Z1 k j (.bool m)/\∀e,ZA k j (.bool m) e ->
 Z1 e (j.add 1) (.slice n o p)/\∀k,ZA e (j.add 1) (.slice n o p) k ->
 Z1 k (j.add 2) (.slice q r s)/\∀e,ZA k (j.add 2) (.slice q r s) e ->
 Z1 e (j.add 3) (.slice t u v)/\∀k,ZA e (j.add 3) (.slice t u v) k ->
 T G 45 #[.int B x] k (fun e k =>
 ((∃ch,e=X ch/\R (X ch) k) \/
 e=J (U #[]) /\
 l  k))))))))) /\
 (∀  (e:Nat->Value)(e:I),l  e ->
 ∃k,e.cell? j=Y (.bool k) /\
 ((k=M ->
 ∃l m n,e.cell? (j.add 1)=Y (.slice l m n) /\
 T G 82 #[.slice l m n,.slice a b c] e (fun l m =>
 ((∃ch,l=X ch/\R (X ch) m) \/
 ∃n,l=J (.bool n) /\
 ∃l o p,m.cell? (j.add 3)=Y (.slice l o p) /\
 T G 83 #[.slice l o p,.bool n] m (fun l m =>
 ((∃ch,l=X ch/\R (X ch) m) \/
 ∃n o p q,l=J (U #[.slice n o p,.bool q]) /\
 R (J (U #[.slice n o p,.bool q])) m))))) /\
 (k=O ->
 ∃k l m n o p q r s t,e.cell? j=Y (.bool k) /\
 e.cell? (j.add 1)=Y (.slice l m n) /\
 e.cell? (j.add 2)=Y (.slice o p q) /\
 e.cell? (j.add 3)=Y (.slice r s t) /\
 T G 67 #[.agg #[.bool k,.slice l m n,.slice o p q,.slice r s t]] e (fun e k =>
 ((∃ch,e=X ch/\R (X ch) k) \/
 ∃l,e=J (.bool l) /\
 ((l=O ->
 ∃e m n,k.cell? (j.add 1)=Y (.slice e m n) /\
 T G 84 #[.slice a b c,.slice e m n] k (fun e m =>
 ((∃ch,e=X ch/\R (X ch) m) \/
 ∃n o p q,e=J (U #[.slice n o p,.bool q]) /\
 ((q=O ->
 R (J (U #[.slice L 0 0,.bool O])) m) /\
 (q=M ->
 ∃e q r,m.cell? (j.add 2)=Y (.slice e q r) /\
 ∃r,e=Y r /\
 ((0:Int)<=0/\0<(q:Int)) /\
 ∃e,ZG m (r.add 0) 34 e /\
 ∃q,S G (N 82 (V (Y d)) (.agg e)) m=.ok () q /\
 ∃e,ZG q d 34 e /\
 ∀m r,ZC q 82 #[.int Z 0,.int Z 0,.int Z 0,.int Z 0,.int Z 0,.int Z 0,.int Z 0,.int Z 0,.int Z 0,.int Z 0,.int Z 0,.int Z 0,.int Z 0,.int Z 0,.int Z 0,.int Z 0,.int Z 0,.int Z 0,.int Z 0,.int Z 0,.int Z 0,.int Z 0,.int Z 0,.int Z 0,.int Z 0,.int Z 0,.int Z 0,.int Z 0,.int Z 0,.int Z 0,.int Z 0,.int Z 0,V L,.bool O] m r ->
 ∃q,S G (N 82 (V (Y m)) (.agg e)) r=.ok () q /\
 f n o p m q/\h n o p m q<h a b c d g))))) /\
 (l=M ->
 (((b:Int)=0 ->
 ∃e l m,k.cell? (j.add 3)=Y (.slice e l m) /\
 ∃n o p,k.cell? (j.add 3)=Y (.slice n o p) /\
 T G 83 #[.slice e l m,.bool (decide ((o:Int)>0))] k (fun e l =>
 ((∃ch,e=X ch/\R (X ch) l) \/
 ∃m n o p,e=J (U #[.slice m n o,.bool p]) /\
 R (J (U #[.slice m n o,.bool p])) l))) /\
 ((b:Int)≠0 ->
 ∀e,ZJ k e ->
 ∃k l m,e.cell? (j.add 2)=Y (.slice k l m) /\
 ∃j,a=Y j /\
 ((0:Int)<=0/\0<(b:Int)) /\
 ∃m,e.cell? (j.add 0)=Y (.int Z m) /\
 ∃j,k=Y j /\
 ((0:Int)<=m/\m<(l:Int)) /\
 ∃k,ZG e (j.add (m.toNat*34)) 34 k /\
 1<=b /\
 ∃j,S G (N 82 (V (Y d)) (.agg k)) e=.ok () j /\
 ∃e,ZG j d 34 e /\
 ∀k l,ZC j 82 #[.int Z 0,.int Z 0,.int Z 0,.int Z 0,.int Z 0,.int Z 0,.int Z 0,.int Z 0,.int Z 0,.int Z 0,.int Z 0,.int Z 0,.int Z 0,.int Z 0,.int Z 0,.int Z 0,.int Z 0,.int Z 0,.int Z 0,.int Z 0,.int Z 0,.int Z 0,.int Z 0,.int Z 0,.int Z 0,.int Z 0,.int Z 0,.int Z 0,.int Z 0,.int Z 0,.int Z 0,.int Z 0,V L,.bool O] k l ->
 ∃j,S G (N 82 (V (Y k)) (.agg e)) l=.ok () j /\
 f (subO a c 1 1) (b-1) (c-1) k j/\h (subO a c 1 1) (b-1) (c-1) k j<h a b c d g)))))))))) /\
 (i=O ->
 R (J (U #[.slice L 0 0,.bool O])) g)))))))
theorem Z4V.vc(a b c d e w R)(h:Z4V.Vc a b c d e w R):T G 49 #[(.agg a),(.slice b c d),e] w R:=xt [(3,[(8,.cell (.slice)),(9,.cell (.addr))]),(1000011,[])] [.big 32 a,.slice b c d,.raw e] Tryz.func49 ZL (by kernel_rfl) h
def Z1a.Vc(a b:Addr)(w:I)(R:D->I->Prop):Prop :=
 ∃c,w.cell? a=Y (.int B c) /\
 ((c≠0 ->
 Z1 w b (.slice L 0 0)/\∀a,ZA w b (.slice L 0 0) a ->
 R (J (U #[])) a) /\
 (c=0 ->
 R (J (U #[])) w))
theorem Z1a.vcd(u:JF)(a:Addr)(b:Addr)(w:I)(R:D->I->Prop)(h:Z1a.Vc a b w R):Ja G 48 #[(V (Y a)),(V (Y b))] u w (fun e u' w'=>u'=u/\R e w') :=
 Z82 (R:=R) (ann:=[]) (args:=[.addr a,.addr b]) Tryz.func48 ZL (Eq.mp (by kernel_rfl:Z1a.Vc a b w R=Z6N (pA G ⟨R,O⟩) G [] Tryz.f48 [.addr a,.addr b] w) h)
def Z3V.Vc(a:Array Value)(b c:Addr)(w:I)(R:D->I->Prop):Prop :=
 ∀d e,ZC w 27 a d e ->
 ∃a:Option Nat,∃f,e.cell? b=Y (.map a) /\
 e.cell? (b.add 1)=Y (.bool f) /\
 ∃b,ZG e d 32 b /\
 T G 37 #[.agg #[.map a,.bool f],.agg b] e (fun a b =>
 ((∃ch,a=X ch/\R (X ch) b) \/
 ∃d e f,a=J (.slice d e f) /\
 ∀a,ZJ b a ->
 ∃b g h,a.cell? c=Y (.slice b g h) /\
 T G 36 #[.slice d e f] a (fun a i =>
 ((∃ch,a=X ch/\R (X ch) i) \/
 ∃j k l,a=J (.slice j k l) /\
 i.cell? c=Y (.slice b g h) /\
 ∀a m,ZC i 23 #[.slice j k l] a m ->
 m.cell? c=Y (.slice b g h) /\
 ∃i j,S G (builtinV .append #[31,31] 31 #[.slice b g h,.slice (Y a) 1 1]) m=.ok i j /\
 ∃a b g,i=(.slice a b g) /\
 Z1 j c (.slice a b g)/\∀h,ZA j c (.slice a b g) h ->
 R (J (.slice d e f)) h))))
theorem Z3V.vc(a b c w R)(h:Z3V.Vc a b c w R):T G 50 #[(.agg a),(V (Y b)),(V (Y c))] w R:=xt [] [.big 32 a,.addr b,.addr c] Tryz.func50 ZL (by kernel_rfl) h
def Z1F.Vc(a b c:Addr)(w:I)(R:D->I->Prop):Prop :=
 ∃d,w.cell? a=Y (.int B d) /\
 ((d≠0 ->
 Z1 w b (.slice L 0 0)/\∀a,ZA w b (.slice L 0 0) a ->
 Z1 a c (.bool O)/\∀b,ZA a c (.bool O) b ->
 R (J (U #[])) b) /\
 (d=0 ->
 R (J (U #[])) w))
theorem Z1F.vcd(u:JF)(a:Addr)(b:Addr)(c:Addr)(w:I)(R:D->I->Prop)(h:Z1F.Vc a b c w R):Ja G 51 #[(V (Y a)),(V (Y b)),(V (Y c))] u w (fun e u' w'=>u'=u/\R e w') :=
 Z82 (R:=R) (ann:=[]) (args:=[.addr a,.addr b,.addr c]) Tryz.func51 ZL (Eq.mp (by kernel_rfl:Z1F.Vc a b c w R=Z6N (pA G ⟨R,O⟩) G [] Tryz.f51 [.addr a,.addr b,.addr c] w) h)
def Z3C.Vc(a:Array Value)(b c:Addr)(w:I)(R:D->I->Prop):Prop :=
 ∀d e,ZC w 27 a d e ->
 ∃(a:I->Prop),(∃f,e.cell? b=Y (.int B f) /\
 ∃g h i,e.cell? c=Y (.slice g h i) /\
 ((f=(h:Int) ->
 T G 45 #[.int B 160] e (fun g i =>
 ((∃ch,g=X ch/\R (X ch) i) \/
 g=J (U #[]) /\
 a  i))) /\
 (f≠(h:Int) ->
 a  e))) /\
 (∀  (e:Nat->Value)(e:I),a  e ->
 ∃a f g,e.cell? c=Y (.slice a f g) /\
 ∃c,e.cell? b=Y (.int B c) /\
 ∃g,a=Y g /\
 ((0:Int)<=c/\c<(f:Int)) /\
 ∃a f h,e.cell? (g.add c.toNat)=Y (.slice a f h) /\
 ∃c,e.cell? b=Y (.int B c) /\
 Z1 e b (.int B (E B (c+1)))/\∀g,ZA e b (.int B (E B (c+1))) g ->
 ∀b,ZJ g b ->
 ∃c,ZG b d 32 c /\
 ∀e g,ZC b 23 #[.slice a f h] e g ->
 ZG g d 32 c /\
 T G 53 #[.slice (Y e) 1 1] g (fun b e =>
 ((∃ch,b=X ch/\R (X ch) e) \/
 ∃g,b=J (.agg g) /\
 ZG e d 32 c /\
 ∃b,S G (Z02 .neq 27 (.tmp 19) (.tmp 20) (.agg g) (.agg c)) e=.ok b e /\
 ∃c,b=(.bool c) /\
 ((c=M ->
 T G 45 #[.int B 163] e (fun b d =>
 ((∃ch,b=X ch/\R (X ch) d) \/
 b=J (U #[]) /\
 R (J (.slice a f h)) d))) /\
 (c=O ->
 R (J (.slice a f h)) e)))))
theorem Z3C.vc(a b c w R)(h:Z3C.Vc a b c w R):T G 52 #[(.agg a),(V (Y b)),(V (Y c))] w R:=xt [(1000003,[])] [.big 32 a,.addr b,.addr c] Tryz.func52 ZL (by kernel_rfl) h
abbrev Z2R.n:Nat:=21
def Z2R.Vc(a:Option Addr)(b c:Nat)(d:Array Value)(e:Option Addr)(f g:Nat)(w:I)(R:D->I->Prop):Prop :=
 ∀h i,ZC w 27 d h i ->
 ∀d j,ZC i 31 #[.slice L 0 0] d j ->
 ∀i k,ZC j 40 #[.int B 0] i k ->
 T G 29 #[.slice a b c,.bool O] k (fun a b =>
 ((∃ch,a=X ch/\R (X ch) b) \/
 ∃c:Option Nat,∃j k,a=J (U #[.agg #[.map c,.bool j],.int B k]) /\
 ∀a l,ZC b 69 #[.map L,.bool O] a l ->
 Z1 l a (.map c)/\∀b,ZA l a (.map c) b ->
 Z1 b (a.add 1) (.bool j)/\∀c,ZA b (a.add 1) (.bool j) c ->
 Z1 c i (.int B k)/\∀b,ZA c i (.int B k) b ->
 ∃c,b.cell? i=Y (.int B c) /\
 ((c≠0 ->
 ∀j,ZJ b j ->
 ∃k,j.cell? i=Y (.int B k) /\
 Z1 j d (.slice L 0 0)/\∀l,ZA j d (.slice L 0 0) l ->
 l.cell? i=Y (.int B k) /\
 Z1 l i (.int B k)/\∀j,ZA l i (.int B k) j ->
 ∃k l m,j.cell? d=Y (.slice k l m) /\
 ∃n,j.cell? i=Y (.int B n) /\
 R (J (U #[.slice k l m,.int B n])) j) /\
 (c=0 ->
 (((f:Int)>64 ->
 Z1 b d (.slice L 0 0)/\∀c,ZA b d (.slice L 0 0) c ->
 Z1 c i (.int B 140)/\∀j,ZA c i (.int B 140) j ->
 ∃c k l,j.cell? d=Y (.slice c k l) /\
 ∃m,j.cell? i=Y (.int B m) /\
 R (J (U #[.slice c k l,.int B m])) j) /\
 (¬(f:Int)>64 ->
 ∃c,ZG b h 32 c /\
 T G 49 #[.agg c,.slice e f g,.func (.func 50) #[] #[V (Y a),V (Y d)]] b (fun a b =>
 ((∃ch,a=X ch/\Z3S G (fun c =>
 ∃e f g,c.cell? d=Y (.slice e f g) /\
 ∃h,c.cell? i=Y (.int B h) /\
 R (J (U #[.slice e f g,.int B h])) c) R [(32,#[V (Y i)]),(48,#[V (Y i),V (Y d)])] (J2 ch) b) \/
 ∃c e f g,a=J (U #[.slice c e f,.bool g]) /\
 ∃a c e,b.cell? d=Y (.slice a c e) /\
 Z1 b d (.slice a c e)/\∀f,ZA b d (.slice a c e) f ->
 Z1 f i (.int B 0)/\∀a,ZA f i (.int B 0) a ->
 Z3S G (fun b =>
 ∃c e f,b.cell? d=Y (.slice c e f) /\
 ∃g,b.cell? i=Y (.int B g) /\
 R (J (U #[.slice c e f,.int B g])) b) R [(32,#[V (Y i)]),(48,#[V (Y i),V (Y d)])] J8 a))))))))
theorem Z2R.vc(a:Option Addr)(b:Nat)(c:Nat)(d:Array Value)(e:Option Addr)(f:Nat)(g:Nat)(w:I)(R:D->I->Prop)(h:Z2R.Vc a b c d e f g w R):T G 21 #[(.slice a b c),(.agg d),(.slice e f g)] w R :=
 Z5J (ann:=[]) (args:=[.slice a b c,.big 32 d,.slice e f g]) Tryz.func21 ZL (Eq.mp (by kernel_rfl:Z2R.Vc a b c d e f g w R=ZC4 (aD G R) (ZFP G R) G [] Tryz.f21 [.slice a b c,.big 32 d,.slice e f g] False w) h)
abbrev Z20.n:Nat:=22
def Z20.Vc(a:Array Value)(b:Option Addr)(c d:Nat)(e:Option Addr)(f g:Nat)(w:I)(R:D->I->Prop):Prop :=
 ∀h i,ZC w 27 a h i ->
 ∀a j,ZC i 31 #[.slice e f g] a j ->
 ∀e f,ZC j 23 #[.slice L 0 0] e f ->
 ∀g i,ZC f 4 #[.bool O] g i ->
 ∀f j,ZC i 40 #[.int B 0] f j ->
 ∃i k l,j.cell? a=Y (.slice i k l) /\
 (((k:Int)>256 ->
 Z1 j e (.slice L 0 0)/\∀i,ZA j e (.slice L 0 0) i ->
 Z1 i g (.bool O)/\∀l,ZA i g (.bool O) l ->
 Z1 l f (.int B 162)/\∀i,ZA l f (.int B 162) i ->
 ∃l m n,i.cell? e=Y (.slice l m n) /\
 ∃o,i.cell? g=Y (.bool o) /\
 ∃p,i.cell? f=Y (.int B p) /\
 R (J (U #[.slice l m n,.bool o,.int B p])) i) /\
 (¬(k:Int)>256 ->
 (((c:Int)>64 ->
 Z1 j e (.slice L 0 0)/\∀i,ZA j e (.slice L 0 0) i ->
 Z1 i g (.bool O)/\∀k,ZA i g (.bool O) k ->
 Z1 k f (.int B 140)/\∀i,ZA k f (.int B 140) i ->
 ∃k l m,i.cell? e=Y (.slice k l m) /\
 ∃n,i.cell? g=Y (.bool n) /\
 ∃o,i.cell? f=Y (.int B o) /\
 R (J (U #[.slice k l m,.bool n,.int B o])) i) /\
 (¬(c:Int)>64 ->
 ∀i k,ZC j 3 #[.int B 0] i k ->
 Z1 k i (.int B 0)/\∀j,ZA k i (.int B 0) j ->
 ∃k,ZG j h 32 k /\
 T G 49 #[.agg k,.slice b c d,.func (.func 52) #[] #[V (Y i),V (Y a)]] j (fun b c =>
 ((∃ch,b=X ch/\Z3S G (fun d =>
 ∃h j k,d.cell? e=Y (.slice h j k) /\
 ∃l,d.cell? g=Y (.bool l) /\
 ∃m,d.cell? f=Y (.int B m) /\
 R (J (U #[.slice h j k,.bool l,.int B m])) d) R [(32,#[V (Y f)]),(51,#[V (Y f),V (Y e),V (Y g)])] (J2 ch) c) \/
 ∃d h j k,b=J (U #[.slice d h j,.bool k]) /\
 Z1 c e (.slice d h j)/\∀b,ZA c e (.slice d h j) b ->
 Z1 b g (.bool k)/\∀c,ZA b g (.bool k) c ->
 ∃b,c.cell? i=Y (.int B b) /\
 ∃d h i,c.cell? a=Y (.slice d h i) /\
 ((b<(h:Int) ->
 T G 45 #[.int B 162] c (fun a d =>
 ((∃ch,a=X ch/\Z3S G (fun i =>
 ∃j k l,i.cell? e=Y (.slice j k l) /\
 ∃m,i.cell? g=Y (.bool m) /\
 ∃n,i.cell? f=Y (.int B n) /\
 R (J (U #[.slice j k l,.bool m,.int B n])) i) R [(32,#[V (Y f)]),(51,#[V (Y f),V (Y e),V (Y g)])] (J2 ch) d) \/
 a=J (U #[]) /\
 ∀a,ZJ d a ->
 ∃d i j,a.cell? e=Y (.slice d i j) /\
 ∃k,a.cell? g=Y (.bool k) /\
 Z1 a e (.slice d i j)/\∀l,ZA a e (.slice d i j) l ->
 l.cell? g=Y (.bool k) /\
 Z1 l g (.bool k)/\∀a,ZA l g (.bool k) a ->
 Z1 a f (.int B 0)/\∀d,ZA a f (.int B 0) d ->
 Z3S G (fun a =>
 ∃i j k,a.cell? e=Y (.slice i j k) /\
 ∃l,a.cell? g=Y (.bool l) /\
 ∃m,a.cell? f=Y (.int B m) /\
 R (J (U #[.slice i j k,.bool l,.int B m])) a) R [(32,#[V (Y f)]),(51,#[V (Y f),V (Y e),V (Y g)])] J8 d))) /\
 (¬b<(h:Int) ->
 ∀a,ZJ c a ->
 ∃b c d,a.cell? e=Y (.slice b c d) /\
 ∃h,a.cell? g=Y (.bool h) /\
 Z1 a e (.slice b c d)/\∀i,ZA a e (.slice b c d) i ->
 i.cell? g=Y (.bool h) /\
 Z1 i g (.bool h)/\∀a,ZA i g (.bool h) a ->
 Z1 a f (.int B 0)/\∀b,ZA a f (.int B 0) b ->
 Z3S G (fun a =>
 ∃c d h,a.cell? e=Y (.slice c d h) /\
 ∃i,a.cell? g=Y (.bool i) /\
 ∃j,a.cell? f=Y (.int B j) /\
 R (J (U #[.slice c d h,.bool i,.int B j])) a) R [(32,#[V (Y f)]),(51,#[V (Y f),V (Y e),V (Y g)])] J8 b))))))))
theorem Z20.vc(a:Array Value)(b:Option Addr)(c:Nat)(d:Nat)(e:Option Addr)(f:Nat)(g:Nat)(w:I)(R:D->I->Prop)(h:Z20.Vc a b c d e f g w R):T G 22 #[(.agg a),(.slice b c d),(.slice e f g)] w R :=
 Z5J (ann:=[]) (args:=[.big 32 a,.slice b c d,.slice e f g]) Tryz.func22 ZL (Eq.mp (by kernel_rfl:Z20.Vc a b c d e f g w R=ZC4 (aD G R) (ZFP G R) G [] Tryz.f22 [.big 32 a,.slice b c d,.slice e f g] False w) h)
abbrev Z2S.n:Nat:=45
def Z2S.Vc(a:Int)(w:I)(R:D->I->Prop):Prop :=
 ((a≠0 ->
 R (X (ZH1 (.iface 127 (.agg #[.int B a])))) w) /\
 (a=0 ->
 R (J (U #[])) w))
theorem Z2S.vc(a w R)(h:Z2S.Vc a w R):T G 45 #[(.int B a)] w R:=xt [] [.int B a] Tryz.func45 ZL (by kernel_rfl) h
abbrev Z06.n:Nat:=6
def Z06.Vc  (w:I)(R:D->I->Prop):Prop :=
 ∀a b,ZC w 5 #[.int Z 97] a b ->
 ∃c d,S G (J5 23 23 (.slice (Y a) 1 1)) b=.ok c d /\
 ∃a b e,c=(.slice a b e) /\
 ∀c f,ZC d 5 #[.int Z 49] c f ->
 ∃d g,S G (J5 23 23 (.slice (Y c) 1 1)) f=.ok d g /\
 ∃c f h,d=(.slice c f h) /\
 ∀d i,ZC g 53 #[.slice a b e,.slice c f h] d i ->
 T G 8 #[.slice (Y d) 1 1] i (fun a b =>
 ∃c d e f,a=J (U #[.agg c,.slice d e f]) /\
 ∀a g,ZC b 27 (Array.replicate 32 (.int Z 0)) a g ->
 ∃b,S G (N 27 (V (Y a)) (.agg c)) g=.ok () b /\
 ∀c,ZJ b c ->
 ∃b,ZG c a 32 b /\
 ((T G 10 #[.slice d e f] c (fun g h =>
 ∃i j k,g=J (.slice i j k) /\
 ZG h a 32 b /\
 ∀g l,ZC h 5 #[.int Z 97] g l ->
 ZG l a 32 b /\
 ∃h m,S G (J5 23 23 (.slice (Y g) 1 1)) l=.ok h m /\
 ∃g l n,h=(.slice g l n) /\
 ZG m a 32 b /\
 T G 21 #[.slice i j k,.agg b,.slice g l n] m (fun g h =>
 ∃i j k l,g=J (U #[.slice i j k,.int B l]) /\
 ∃g,ZG h a 32 g /\
 ∀m n,ZC h 5 #[.int Z 97] m n ->
 ∃h o,S G (J5 23 23 (.slice (Y m) 1 1)) n=.ok h o /\
 ∃m n p,h=(.slice m n p) /\
 T G 22 #[.agg g,.slice m n p,.slice i j k] o (fun g h =>
 ∃m n o p q,g=J (U #[.slice m n o,.bool p,.int B q]) /\
 ∃g,ZG h a 32 g /\
 ∀r s,ZC h 5 #[.int Z 98] r s ->
 ∃h t,S G (J5 23 23 (.slice (Y r) 1 1)) s=.ok h t /\
 ∃r s u,h=(.slice r s u) /\
 T G 22 #[.agg g,.slice r s u,.slice i j k] t (fun g h =>
 ∃i k r s t,g=J (U #[.slice i k r,.bool s,.int B t]) /\
 ((l=0 ->
 ((q=0 ->
 ((t=0 ->
 ((p=M ->
 ((s=O ->
 (((j:Int)=1 ->
 ∃g,S G (J5 23 9 (.slice m n o)) h=.ok g h /\
 ∃i,g=(Jb i) /\
 R (J (.bool (Z8S .eql i ⟨#[49]⟩))) h) /\
 ((j:Int)≠1 ->
 R (J (.bool O)) h))) /\
 (s=M ->
 R (J (.bool O)) h))) /\
 (p=O ->
 R (J (.bool O)) h))) /\
 (t≠0 ->
 R (J (.bool O)) h))) /\
 (q≠0 ->
 R (J (.bool O)) h))) /\
 (l≠0 ->
 R (J (.bool O)) h))))))) /\
 (∀g h,ZC c 5 #[.int Z 97] g h ->
 ZG h a 32 b /\
 ((T G 10 #[.slice d e f] h (fun c i =>
 ∃j k l,c=J (.slice j k l) /\
 ZG i a 32 b /\
 ∃c m,S G (J5 23 23 (.slice (Y g) 1 1)) i=.ok c m /\
 ∃i n o,c=(.slice i n o) /\
 ZG m a 32 b /\
 T G 21 #[.slice j k l,.agg b,.slice i n o] m (fun c i =>
 ∃j k l m,c=J (U #[.slice j k l,.int B m]) /\
 ∃c,ZG i a 32 c /\
 ∀n o,ZC i 5 #[.int Z 97] n o ->
 ∃i p,S G (J5 23 23 (.slice (Y n) 1 1)) o=.ok i p /\
 ∃n o q,i=(.slice n o q) /\
 T G 22 #[.agg c,.slice n o q,.slice j k l] p (fun c i =>
 ∃n o p q r,c=J (U #[.slice n o p,.bool q,.int B r]) /\
 ∃c,ZG i a 32 c /\
 ∀s t,ZC i 5 #[.int Z 98] s t ->
 ∃i u,S G (J5 23 23 (.slice (Y s) 1 1)) t=.ok i u /\
 ∃s t v,i=(.slice s t v) /\
 T G 22 #[.agg c,.slice s t v,.slice j k l] u (fun c i =>
 ∃j l s t u,c=J (U #[.slice j l s,.bool t,.int B u]) /\
 ((m=0 ->
 ((r=0 ->
 ((u=0 ->
 ((q=M ->
 ((t=O ->
 (((k:Int)=1 ->
 ∃c,S G (J5 23 9 (.slice n o p)) i=.ok c i /\
 ∃j,c=(Jb j) /\
 R (J (.bool (Z8S .eql j ⟨#[49]⟩))) i) /\
 ((k:Int)≠1 ->
 R (J (.bool O)) i))) /\
 (t=M ->
 R (J (.bool O)) i))) /\
 (q=O ->
 R (J (.bool O)) i))) /\
 (u≠0 ->
 R (J (.bool O)) i))) /\
 (r≠0 ->
 R (J (.bool O)) i))) /\
 (m≠0 ->
 R (J (.bool O)) i))))))) /\
 (∃c i,S G (J5 23 23 (.slice (Y g) 1 1)) h=.ok c i /\
 ∃g h j,c=(.slice g h j) /\
 ZG i a 32 b /\
 T G 10 #[.slice d e f] i (fun c d =>
 ∃e f i,c=J (.slice e f i) /\
 ZG d a 32 b /\
 T G 21 #[.slice e f i,.agg b,.slice g h j] d (fun b c =>
 ∃d e f g,b=J (U #[.slice d e f,.int B g]) /\
 ∃b,ZG c a 32 b /\
 ∀h i,ZC c 5 #[.int Z 97] h i ->
 ∃c j,S G (J5 23 23 (.slice (Y h) 1 1)) i=.ok c j /\
 ∃h i k,c=(.slice h i k) /\
 T G 22 #[.agg b,.slice h i k,.slice d e f] j (fun b c =>
 ∃h i j k l,b=J (U #[.slice h i j,.bool k,.int B l]) /\
 ∃b,ZG c a 32 b /\
 ∀a m,ZC c 5 #[.int Z 98] a m ->
 ∃c n,S G (J5 23 23 (.slice (Y a) 1 1)) m=.ok c n /\
 ∃a m o,c=(.slice a m o) /\
 T G 22 #[.agg b,.slice a m o,.slice d e f] n (fun a b =>
 ∃c d f m n,a=J (U #[.slice c d f,.bool m,.int B n]) /\
 ((g=0 ->
 ((l=0 ->
 ((n=0 ->
 ((k=M ->
 ((m=O ->
 (((e:Int)=1 ->
 ∃a,S G (J5 23 9 (.slice h i j)) b=.ok a b /\
 ∃c,a=(Jb c) /\
 R (J (.bool (Z8S .eql c ⟨#[49]⟩))) b) /\
 ((e:Int)≠1 ->
 R (J (.bool O)) b))) /\
 (m=M ->
 R (J (.bool O)) b))) /\
 (k=O ->
 R (J (.bool O)) b))) /\
 (n≠0 ->
 R (J (.bool O)) b))) /\
 (l≠0 ->
 R (J (.bool O)) b))) /\
 (g≠0 ->
 R (J (.bool O)) b)))))))))))
theorem Z06.vc  (w:I)(R:D->I->Prop)(h:Z06.Vc w R):T G 6 #[] w R :=
 Z1Y (R:=⟨R,O⟩) (ann:=[]) (args:=[]) Tryz.func6 ZL (Eq.mp (by kernel_rfl:Z06.Vc w R=Z6N (pA G ⟨R,O⟩) G [] Tryz.f6 [] w) h)
end Go.Proofs.YtfghidehlnfdiaaGreat
end
