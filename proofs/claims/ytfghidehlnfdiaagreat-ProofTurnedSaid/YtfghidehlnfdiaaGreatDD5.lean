/- Contracts: the head of an item (rlp.reads). -/
/- Contracts: rlp's decoder. -/
/- Contracts: rlp.First, rlp.Decode. -/
/- The verification conditions of some functions, printed by a program of ours (wip/PrintVc.lean). -/
/- Contracts: the reference's decoder (moraineref4). -/
import Derived.Test.YtfghidehlnfdiaaGreatTP17
import Derived.Test.YtfghidehlnfdiaaGreatTVF
import Derived.Test.YtfghidehlnfdiaaGreatProg
import Derived.KernelRfl
set_option linter.unusedVariables false
set_option linter.unusedSimpArgs false
open BitVec renaming ofNat->JV,toNat_ofNat->JH
open Bool renaming false->I,true->JI
open Except renaming error->JD
open Go renaming Calls->J6,Ending->JN,Value->JE,World->L
open Go.Addr renaming add->P
open Go.Ending renaming returned->O
open Go.IntKind renaming i64->J,wrap->G
open Go.Obj renaming cells->T
open Go.Proofs.Tryz renaming prog->U
open Go.Value renaming pointer->J2,tuple->C
open Go.World renaming cell?->J3
open Int renaming toNat->JQ,toNat_natCast->J1
open List renaming append_nil->JR,drop_drop->JT,drop_take->JS,eq_nil_of_length_eq_zero->J8,getD_eq_getElem?_getD->J4,getElem?_append_left->JC,getElem?_append_right->JB,getElem?_eq_getElem->JK,getElem?_take_of_lt->JL,length_append->JA,length_drop->J0,length_singleton->J5,length_take->JG
open Nat renaming add_assoc->JU,add_sub_cancel_left->JF,add_zero->JX,le_refl->J7,lt_of_lt_of_le->JO,mod_eq_of_lt->JP,sub_self->JW,zero_add->J9,zero_le->JY
open Option renaming none->V,some->Q
open Or renaming inl->JJ,inr->JM
section
namespace Go.Proofs.YtfghidehlnfdiaaGreat
open Go Go.Vcg Go.Trie
section
variable{w:L}{D:Nat}{t:TypeId}
theorem Z65{a b c v1 v2 v3:JE}{R':L->Prop}(X:Blk w D t #[a,b,c])(h1:v1.oneCell'=JI)(h2:v2.oneCell'=JI)(h3:v3.oneCell'=JI)(K:∀w',Blk w' D t #[v1,v2,v3]->Vcg.Mod (·=D) w w'->R' w') :
  Z1 w ⟨D,0,V⟩ v1/\∀w1:L,Z3 w ⟨D,0,V⟩ v1 w1->Z1 w1 (P ⟨D,0,V⟩ 1) v2/\∀w2:L,Z3 w1 (P ⟨D,0,V⟩ 1) v2 w2->Z1 w2 (P ⟨D,0,V⟩ 2) v3/\∀w3:L,Z3 w2 (P ⟨D,0,V⟩ 2) v3 w3->R' w3:=by
 refine⟨X.canSet (by simp) h1,?_⟩;rintro _ rfl;have X1:=X.set 0 v1;have Q1:Vcg.Mod (·=D) w _:=Mod.setCell w ⟨D,0,V⟩ v1;rw[Z2,J9];refine⟨X1.canSet (by simp) h2,?_⟩;rintro _ rfl;have X2:=X1.set 1 v2;have Q2:=Q1.step_set (a:=⟨D,1,V⟩) (v:=v2) (fun _=>rfl);rw[Z2,J9];refine⟨X2.canSet (by simp) h3,?_⟩;rintro _ rfl;have X3:=X2.set 2 v3;have Q3:=Q2.step_set (a:=⟨D,2,V⟩) (v:=v3) (fun _=>rfl);exact K _ X3 Q3
theorem Z6i{b:Bool}{o o2:Option Addr}{l k l2 k2:Nat}{R':Bool->Option Addr->Nat->Nat->Option Addr->Nat->Nat->Prop}(X:Blk w D t #[.bool b,.slice o l k,.slice o2 l2 k2])(h:R' b o l k o2 l2 k2) :
  ∃b8:Bool,∃o9:Option Addr,∃l10:Nat,∃l11:Nat,∃o12:Option Addr,∃l13:Nat,∃l14:Nat,J3 w ⟨D,0,V⟩=Q (.bool b8)/\J3 w (P ⟨D,0,V⟩ 1)=Q (.slice o9 l10 l11)/\J3 w (P ⟨D,0,V⟩ 2)=Q (.slice o12 l13 l14)/\R' b8 o9 l10 l11 o12 l13 l14 :=
 ⟨_,_,_,_,_,_,_,X.rd1 rfl,by rw[Z2];exact X.rd1 rfl,by rw[Z2];exact X.rd1 rfl,h⟩
theorem Z0z{a b c:JE}{b1:Bool}{o o2:Option Addr}{l k l2 k2:Nat}{R':Bool->Option Addr->Nat->Nat->Option Addr->Nat->Nat->L->Prop}(X:Blk w D t #[a,b,c])(K:∀w',Vcg.Mod (·=D) w w'->R' b1 o l k o2 l2 k2 w') :
  Z1 w ⟨D,0,V⟩ (.bool b1)/\∀w1:L,Z3 w ⟨D,0,V⟩ (.bool b1) w1->Z1 w1 (P ⟨D,0,V⟩ 1) (.slice o l k)/\∀w2:L,Z3 w1 (P ⟨D,0,V⟩ 1) (.slice o l k) w2->Z1 w2 (P ⟨D,0,V⟩ 2) (.slice o2 l2 k2)/\∀w3:L,Z3 w2 (P ⟨D,0,V⟩ 2) (.slice o2 l2 k2) w3 ->
   ∃b8:Bool,∃o9:Option Addr,∃l10:Nat,∃l11:Nat,∃o12:Option Addr,∃l13:Nat,∃l14:Nat,J3 w3 ⟨D,0,V⟩=Q (.bool b8)/\J3 w3 (P ⟨D,0,V⟩ 1)=Q (.slice o9 l10 l11)/\J3 w3 (P ⟨D,0,V⟩ 2)=Q (.slice o12 l13 l14)/\R' b8 o9 l10 l11 o12 l13 l14 w3 :=
 Z65 X rfl rfl rfl (fun w' X' M=>Z6i X' (K w' M))
theorem ZED{a b c d e v1 v2 v3 v4 v5:JE}{R':L->Prop}(X:Blk w D t #[a,b,c,d,e])(h1:v1.oneCell'=JI)(h2:v2.oneCell'=JI)(h3:v3.oneCell'=JI)(h4:v4.oneCell'=JI)(h5:v5.oneCell'=JI)(K:∀w',Blk w' D t #[v1,v2,v3,v4,v5]->Vcg.Mod (·=D) w w'->R' w') :
  Z1 w ⟨D,0,V⟩ v1/\∀w1:L,Z3 w ⟨D,0,V⟩ v1 w1->Z1 w1 (P ⟨D,0,V⟩ 1) v2/\∀w2:L,Z3 w1 (P ⟨D,0,V⟩ 1) v2 w2->Z1 w2 (P ⟨D,0,V⟩ 2) v3/\∀w3:L,Z3 w2 (P ⟨D,0,V⟩ 2) v3 w3 ->
   Z1 w3 (P ⟨D,0,V⟩ 3) v4/\∀w4:L,Z3 w3 (P ⟨D,0,V⟩ 3) v4 w4->Z1 w4 (P ⟨D,0,V⟩ 4) v5/\∀w5:L,Z3 w4 (P ⟨D,0,V⟩ 4) v5 w5->R' w5:=by
 refine⟨X.canSet (by simp) h1,?_⟩;rintro _ rfl;have X1:=X.set 0 v1;have Q1:Vcg.Mod (·=D) w _:=Mod.setCell w ⟨D,0,V⟩ v1;rw[Z2,J9];refine⟨X1.canSet (by simp) h2,?_⟩;rintro _ rfl;have X2:=X1.set 1 v2;have Q2:=Q1.step_set (a:=⟨D,1,V⟩) (v:=v2) (fun _=>rfl);rw[Z2,J9];refine⟨X2.canSet (by simp) h3,?_⟩;rintro _ rfl;have X3:=X2.set 2 v3;have Q3:=Q2.step_set (a:=⟨D,2,V⟩) (v:=v3) (fun _=>rfl);rw[Z2,J9];refine⟨X3.canSet (by simp) h4,?_⟩;rintro _ rfl;have X4:=X3.set 3 v4;have Q4:=Q3.step_set (a:=⟨D,3,V⟩) (v:=v4) (fun _=>rfl);rw[Z2,J9];refine⟨X4.canSet (by simp) h5,?_⟩;rintro _ rfl;have X5:=X4.set 4 v5;have Q5:=Q4.step_set (a:=⟨D,4,V⟩) (v:=v5) (fun _=>rfl);exact K _ X5 Q5
theorem ZC6{b b3 b4:Bool}{n1 n2:Int}{R':Bool->Int->Int->Bool->Bool->Prop}(X:Blk w D t #[.bool b,.int J n1,.int J n2,.bool b3,.bool b4])(h:R' b n1 n2 b3 b4) :
  ∃b8:Bool,∃n9:Int,∃n10:Int,∃b11:Bool,∃b12:Bool,J3 w ⟨D,0,V⟩=Q (.bool b8)/\J3 w (P ⟨D,0,V⟩ 1)=Q (.int J n9)/\J3 w (P ⟨D,0,V⟩ 2)=Q (.int J n10)/\J3 w (P ⟨D,0,V⟩ 3)=Q (.bool b11)/\J3 w (P ⟨D,0,V⟩ 4)=Q (.bool b12)/\R' b8 n9 n10 b11 b12 :=
 ⟨_,_,_,_,_,X.rd1 rfl,by rw[Z2];exact X.rd1 rfl,by rw[Z2];exact X.rd1 rfl,by rw[Z2];exact X.rd1 rfl,by rw[Z2];exact X.rd1 rfl,h⟩
end
theorem ZFq{n d:Nat}(hn:n<2^56)(hd:d<256):bitsI .or .u64 (G .u64 ((n:Int)*256)) (G .u64 (d:Int))=((n*256+d:Nat):Int):=by
 have e1:G .u64 ((n:Int)*256)=uI (JV 64 (n*256)):=by
  rw[Z4A];simp only[uI,JH];omega
 have e2:G .u64 (d:Int)=uI (JV 64 d):=by
  rw[Z4A];simp only[uI,JH];omega
 rw[e1,e2,Z4j];simp only[uI,BitVec.toNat_or,JH];rw[JP (by omega),JP (by omega)];have:=Nat.shiftLeft_add_eq_or_of_lt (i:=8) (b:=d) (by omega) n;rw[Nat.shiftLeft_eq]at this;rw[<-this]
theorem Z5w{w:L}{a b d base c:Nat}{x v0 v1 v2 v3 v4:JE}(X5:Blk w a 3 #[.int J (c:Int)])(X15:Blk w b 3 #[x])(X8:Blk w d 237 #[v0,v1,v2,v3,v4])(hab:a≠b)(had:a≠d)(hbd:b≠d)(hb:base<=c)(hc:c<=255) :
  J6 U Z1s.n #[.int J (base:Int),J2 (Q ⟨a,0,V⟩),J2 (Q ⟨b,0,V⟩),J2 (Q ⟨d,0,V⟩)] w (fun e w'=>e=O (C #[])/\Vcg.Mod (fun q=>q=b\/q=d) w w'/\Blk w' b 3 #[.int J ((c-base-55:Nat):Int)]/\Blk w' d 237 #[v0,v1,.int J ((c-base:Nat):Int),v3,v4]):=by
 refine Z1s.vc _ _ _ _ _ _ ?_;unfold Z1s.Vc;have e1:G J ((c:Int)-(base:Int))=((c-base:Nat):Int):=by rw[Z0 (by omega) (by omega)];omega
 have e2:max (G J ((G J ((c:Int)-(base:Int)))-55)) 0=((c-base-55:Nat):Int):=by
  rw[e1,Z0 (by omega) (by omega)];omega
 refine⟨_,X5.rd1 rfl,?_⟩;rw[e2];refine⟨X15.canSet (by simp) rfl,?_⟩;rintro _ rfl;have X15':=X15.set 0 (.int J ((c-base-55:Nat):Int));refine⟨_,(X5.set_ne (a:=⟨b,0,V⟩) hab).rd1 rfl,?_⟩;rw[e1,Z2];have X8':=X8.set_ne (a:=⟨b,0,V⟩) (v:=.int J ((c-base-55:Nat):Int)) (Ne.symm hbd);refine⟨X8'.canSet (by simp) rfl,?_⟩;rintro _ rfl;refine⟨rfl,?_,X15'.set_ne (a:=⟨d,0+2,V⟩) hbd,X8'.set 2 _⟩;exact((Mod.setCell w ⟨b,0,V⟩ _).mono (fun i _ h=>JJ h)).step_set (fun _=>JM rfl)
def HdIs(r:Except Int (Bool×Nat×Nat×Bool))(b1:Bool)(n1 n2:Int)(b2:Bool)(e0:Int):Prop:=match r with
 | JD x=>e0=x/\x≠0
 | .ok (l,a,q,ow)=>b1=l/\n1=(a:Int)/\n2=(q:Int)/\b2=ow/\e0=0
theorem ZCb(bs:By){j:Nat}(hj:j+1<bs.length):be ((bs.drop 1).take (j+1))=be ((bs.drop 1).take j)*256+((bs.drop 1).getD j 0).toNat:=by
 have h:j<(bs.drop 1).length:=by rw[J0];omega
 rw[List.take_succ_eq_append_getElem h,ZEu];congr 2;rw[J4,JK h];rfl
theorem ZAj{w:L}{o:Option Addr}{k:Nat}{bs:By}(hr:RdB w o bs)(hne:bs≠[])(hk:bs.length<=k)(hl:bs.length<=2^40) :
  J6 U Z35.n #[.slice o bs.length k] w (fun e w'=>Vcg.Mod NoB w w'/\∃b1 n1 n2 b2 b3 e0,e=O (C #[.agg #[.bool b1,.int J n1,.int J n2,.bool b2,.bool b3],.int J e0])/\HdIs (hd bs) b1 n1 n2 b2 e0):=by
 refine Z9 fun R hR=>Z35.vc _ _ _ _ _ ?_;unfold Z35.Vc;have hbl:1<=bs.length:=List.length_pos_iff.2 hne;rintro d1 w1⟨rfl,rfl⟩;have M1:Vcg.Mod NoB w _:=Mod.alloc w (T #[.bool I,.int J 0,.int J 0,.bool I,.bool I] 237);have X1:=Blk.new w 237 #[.bool I,.int J 0,.int J 0,.bool I,.bool I];have hs1:=Z6 w (T #[.bool I,.int J 0,.int J 0,.bool I,.bool I] 237);generalize hN1:w.heap.size=N1 at *
 generalize w.alloc (T #[.bool I,.int J 0,.int J 0,.bool I,.bool I] 237)=w1 at *
 obtain⟨b0,f0,rfl,hb0,hc0⟩:=hr hne;have cell:∀{w':L},Vcg.Mod NoB w w'->∀i,i<bs.length->w'.cell? ⟨b0,f0+i,V⟩=Q (bV (bs.getD i 0)):=fun M i hi=>(ZK M hb0 (fun h=>h)).trans (hc0 i hi);generalize hcv:(bs.getD 0 0).toNat=c;have hc255:c<=255:=by have:=(bs.getD 0 0).toNat_lt;omega
 refine⟨_,rfl,⟨by omega,by omega⟩,(c:Int),by rw[Z2];have:=cell M1 0 (by omega);simp only[bV,hcv]at this;exact this,?_⟩;rintro d5 w2⟨rfl,rfl⟩;have ec:G J (c:Int)=(c:Int):=Z0 (by omega) (by omega);rw[ec];have M2:=M1.step_alloc (T #[.int J 0] 3);have X5:=Blk.new w1 3 #[.int J 0];have hs2:=Z6 w1 (T #[.int J 0] 3);have X12:=X1.alloc (T #[.int J 0] 3);generalize hN5:w1.heap.size=N5 at *
 generalize w1.alloc (T #[.int J 0] 3)=w2 at *
 refine⟨X5.canSet (by simp) rfl,?_⟩;rintro _ rfl;have X53:=X5.set 0 (.int J (c:Int));have X13:=X12.set_ne (a:=⟨N5,0,V⟩) (v:=.int J (c:Int)) (by simp;omega);have M3:=M2.step_set (a:=⟨N5,0,V⟩) (v:=.int J (c:Int)) (fun h=>by simp at h;omega);have hs3:(w2.setCell ⟨N5,0,V⟩ (.int J (c:Int))).heap.size=N5+1:=by rw[Z3y];exact hs2
 generalize w2.setCell ⟨N5,0,V⟩ (.int J (c:Int))=w3 at *
 rintro d8 w4⟨rfl,rfl⟩;have M4:=M3.step_alloc (T #[.bool I,.int J 0,.int J 0,.bool I,.bool I] 237);have X8:=Blk.new w3 237 #[.bool I,.int J 0,.int J 0,.bool I,.bool I];have hs4:=Z6 w3 (T #[.bool I,.int J 0,.int J 0,.bool I,.bool I] 237);have X14:=X13.alloc (T #[.bool I,.int J 0,.int J 0,.bool I,.bool I] 237);have X54:=X53.alloc (T #[.bool I,.int J 0,.int J 0,.bool I,.bool I] 237);generalize hN8:w3.heap.size=N8 at *
 generalize w3.alloc (T #[.bool I,.int J 0,.int J 0,.bool I,.bool I] 237)=w4 at *
 refine ZED X8 rfl rfl rfl rfl rfl (fun w5 X85 Q5=>?_);have M5:=M4.trans Q5 (fun i hi h=>by omega);have X15:=X14.mod Q5 (by omega);have X55:=X54.mod Q5 (by omega);have hs5:=Q5.size;rintro d15 w6⟨rfl,rfl⟩;have M6:=M5.step_alloc (T #[.int J 0] 3);have Xk:=Blk.new w5 3 #[.int J 0];have X16:=X15.alloc (T #[.int J 0] 3);have X56:=X55.alloc (T #[.int J 0] 3);have X86:=X85.alloc (T #[.int J 0] 3);generalize hNk:w5.heap.size=Nk at *
 generalize w5.alloc (T #[.int J 0] 3)=w6 at *
 refine⟨Xk.canSet (by simp) rfl,?_⟩;rintro _ rfl;have Xk7:=Xk.set 0 (.int J 0);have X17:=X16.set_ne (a:=⟨Nk,0,V⟩) (v:=.int J 0) (by simp;omega);have X57:=X56.set_ne (a:=⟨Nk,0,V⟩) (v:=.int J 0) (by simp;omega);have X87:=X86.set_ne (a:=⟨Nk,0,V⟩) (v:=.int J 0) (by simp;omega);have M7:=M6.step_set (a:=⟨Nk,0,V⟩) (v:=.int J 0) (fun h=>by simp at h;omega);generalize w6.setCell ⟨Nk,0,V⟩ (.int J 0)=w7 at *
 clear X12 X13 X14 X15 X16 X5 X53 X54 X55 X56 X8 X85 X86 Xk M1 M2 M3 M4 M5 M6 Q5 X1
 have hhd:hd bs=(if c<128 then .ok (I,0,1,JI)else
   if c-(if c>=192 then 192 else 128)<=55 then .ok (decide (c>=192),1,c-(if c>=192 then 192 else 128),I)
   else if bs.length<1+(c-(if c>=192 then 192 else 128)-55)then JD 41
   else if bs.getD 1 0=0\/be ((bs.drop 1).take (c-(if c>=192 then 192 else 128)-55))<=55\/be ((bs.drop 1).take (c-(if c>=192 then 192 else 128)-55))>2147483648 then JD 40
   else .ok (decide (c>=192),1+(c-(if c>=192 then 192 else 128)-55),be ((bs.drop 1).take (c-(if c>=192 then 192 else 128)-55)),I)):=by
  unfold hd;simp only[hcv]
 generalize hbase:(if c>=192 then 192 else 128)=base at *
 have finish:∀(w':L)(b1:Bool)(n1 n2:Int)(b2 b3:Bool)(e0:Int),Vcg.Mod NoB w w'->HdIs (hd bs) b1 n1 n2 b2 e0->R (O (C #[.agg #[.bool b1,.int J n1,.int J n2,.bool b2,.bool b3],.int J e0])) w' :=
  fun w' b1 n1 n2 b2 b3 e0 M h=>hR _ _ ⟨M,b1,n1,n2,b2,b3,e0,rfl,h⟩
 refine⟨fun w'=>¬c<128/\Vcg.Mod NoB w w'/\(∃vs:Array JE,Blk w' N1 237 vs/\vs=#[.bool I,.int J 0,.int J 0,.bool I,.bool I])/\Blk w' N8 237 #[.bool (decide (c>=192)),.int J 1,.int J ((c-base:Nat):Int),.bool I,.bool I]/\Blk w' Nk 3 #[.int J ((c-base-55:Nat):Int)],⟨_,X57.rd1 rfl,fun hc=>?_,fun hc=>⟨_,X57.rd1 rfl,fun h192=>?_,fun h192=>?_⟩⟩,?_⟩
 ·refine ZED X17 rfl rfl rfl rfl rfl (fun w8 X18 Q8=>ZC6 X18 (finish _ _ _ _ _ _ _ (M7.trans Q8 (fun i hi h=>by omega)) ?_))
  rw[hhd,if_pos (by omega)];exact⟨rfl,rfl,rfl,rfl,rfl⟩
 ·have hb:base=192:=by rw[<-hbase,if_pos (by omega)]
  refine⟨X87.canSet (by simp) rfl,?_⟩;rintro _ rfl;have X88:=X87.set 0 (.bool JI);have X18:=X17.set_ne (a:=⟨N8,0,V⟩) (v:=.bool JI) (by simp;omega);have X58:=X57.set_ne (a:=⟨N8,0,V⟩) (v:=.bool JI) (by simp;omega);have Xk8:=Xk7.set_ne (a:=⟨N8,0,V⟩) (v:=.bool JI) (by simp;omega);have M8:=M7.step_set (a:=⟨N8,0,V⟩) (v:=.bool JI) (fun h=>by simp at h;omega);refine(Z5w (base:=192) X58 Xk8 X88 (by omega) (by omega) (by omega) (by omega) hc255).mono ?_;rintro _ w9⟨rfl,Q9,Xk9,X89⟩;refine⟨rfl,by omega,M8.trans Q9 (fun i hi h=>by omega),⟨_,X18.mod Q9 (by omega),rfl⟩,?_,?_⟩
  ·rw[hb,decide_eq_true (by omega:c>=192)];exact X89
  ·rw[hb];exact Xk9
 ·have hb:base=128:=by rw[<-hbase,if_neg (by omega)]
  refine(Z5w (base:=128) X57 Xk7 X87 (by omega) (by omega) (by omega) (by omega) hc255).mono ?_;rintro _ w9⟨rfl,Q9,Xk9,X89⟩;refine⟨rfl,by omega,M7.trans Q9 (fun i hi h=>by omega),⟨_,X17.mod Q9 (by omega),rfl⟩,?_,?_⟩
  ·rw[hb,decide_eq_false (by omega:¬c>=192)];exact X89
  ·rw[hb];exact Xk9
 ·clear X17 X57 X87 Xk7 M7
  rintro _ w8⟨hc,M8,⟨_,X1,rfl⟩,X8,Xk⟩;rw[if_neg hc]at hhd;have hb1:128<=base/\base<=c:=by rw[<-hbase];split<;>omega
  have h63:c-base-55<=8:=by rw[<-hbase];split<;>omega
  refine⟨_,Xk.rd1 rfl,fun h0=>?_,fun h0=>?_⟩
  ·refine ZC6 X8 (ZED X1 rfl rfl rfl rfl rfl (fun w9 X19 Q9=>ZC6 X19 (finish _ _ _ _ _ _ _ (M8.trans Q9 (fun i hi h=>by omega)) ?_)))
   rw[hhd,if_pos (by omega)];exact⟨rfl,rfl,rfl,rfl,rfl⟩
  ·rw[if_neg (by omega)]at hhd
   generalize hkk:c-base-55=kk at *
   have ekk:G J (1+(kk:Int))=((1+kk:Nat):Int):=by rw[Z0 (by omega) (by omega)];omega
   refine⟨_,Xk.rd1 rfl,fun hsh=>?_,fun hsh=>⟨_,Xk.rd1 rfl,?_⟩⟩
   ·rw[ekk]at hsh
    refine ZC6 X8 (ZED X1 rfl rfl rfl rfl rfl (fun w9 X19 Q9=>ZC6 X19 (finish _ _ _ _ _ _ _ (M8.trans Q9 (fun i hi h=>by omega)) ?_)));rw[hhd,if_pos (by omega)];exact⟨rfl,by decide⟩
   ·rw[ekk]at hsh ⊢
    rw[if_neg (by omega)]at hhd;rw[J1,JF];have hsub:=(hr.mod' M8).sub (c:=k) (lo:=1) (n:=kk) hk;have hsl:((bs.drop 1).take kk).length=kk:=by rw[JG,J0];omega
    obtain⟨b',f',ho',hb',hc'⟩:=hsub (by intro e;rw[e]at hsl;simp at hsl;omega);refine⟨⟨by omega,by omega⟩,by omega,fun n j w'=>w'=w8/\∃i:Nat,j=(i:Int)/\i<=kk/\n=((be ((bs.drop 1).take i):Nat):Int),fun _ j _=>((kk:Int)-j).toNat,⟨rfl,0,rfl,JY _,by simp[be]⟩,?_⟩;rintro _ _ _ w8⟨rfl,i,rfl,hi,rfl⟩;refine⟨fun hlt=>?_,fun hge=>?_⟩
    ·have hik:i<kk:=by omega
     have hgt:((bs.drop 1).take kk).getD i 0=(bs.drop 1).getD i 0:=by
      simp only[J4,JL hik]
     have hcell:=hc' i (by omega);rw[hgt]at hcell;refine⟨_,ho',⟨by omega,by omega⟩,(((bs.drop 1).getD i 0).toNat:Int),by rw[Z2,J1];exact hcell,?_⟩;have hlt256:=ZFc ((bs.drop 1).take i);have hil:((bs.drop 1).take i).length=i:=by rw[JG,J0];omega
     rw[hil]at hlt256
     have h56:256^i<=2^56:=by
      rw[show(256:Nat)=2^8 from rfl,<-Nat.pow_mul];exact Nat.pow_le_pow_right (by decide) (by omega)
     rw[ZFq (by omega) (UInt8.toNat_lt _),<-ZCb bs (by omega)];have ew:G J ((i:Int)+1)=((i+1:Nat):Int):=by rw[Z0 (by omega) (by omega)];omega
     rw[ew];exact⟨⟨rfl,i+1,rfl,hik,rfl⟩,by dsimp only;omega⟩
    ·obtain rfl:i=kk:=by omega
     generalize hm:be ((bs.drop 1).take i)=m at *
     have c1:=cell M8 1 (by omega);refine⟨_,rfl,⟨by omega,by omega⟩,((bs.getD 1 0).toNat:Int),by rw[Z2];exact c1,fun hz=>?_,fun hz=>⟨fun h55=>?_,fun h55=>⟨fun hbig=>?_,fun hbig=>?_⟩⟩⟩
     ·refine ZC6 X8 (ZED X1 rfl rfl rfl rfl rfl (fun w9 X19 Q9=>ZC6 X19 (finish _ _ _ _ _ _ _ (M8.trans Q9 (fun i hi h=>by omega)) ?_)))
      have:bs.getD 1 0=0:=UInt8.toNat_inj.1 (by simpa using hz);rw[hhd,if_pos (JJ this)];exact⟨rfl,by decide⟩
     ·refine ZC6 X8 (ZED X1 rfl rfl rfl rfl rfl (fun w9 X19 Q9=>ZC6 X19 (finish _ _ _ _ _ _ _ (M8.trans Q9 (fun i hi h=>by omega)) ?_)))
      rw[hhd,if_pos (JM (JJ (by omega)))];exact⟨rfl,by decide⟩
     ·refine ZC6 X8 (ZED X1 rfl rfl rfl rfl rfl (fun w9 X19 Q9=>ZC6 X19 (finish _ _ _ _ _ _ _ (M8.trans Q9 (fun i hi h=>by omega)) ?_)))
      rw[hhd,if_pos (JM (JM (by omega)))];exact⟨rfl,by decide⟩
     ·refine⟨_,Xk.rd1 rfl,?_⟩
      have em:G J (m:Int)=(m:Int):=Z0 (by omega) (by omega);rw[ekk,em,Z2,Z2];refine⟨X8.canSet (by simp) rfl,?_⟩;rintro _ rfl;have X81:=X8.set 1 (.int J ((1+i:Nat):Int));refine⟨X81.canSet (by simp) rfl,?_⟩;rintro _ rfl;have X82:=X81.set 2 (.int J (m:Int));have M10:=(M8.step_set (a:=⟨N8,1,V⟩) (v:=.int J ((1+i:Nat):Int)) (fun h=>by simp at h;omega)).step_set (a:=⟨N8,2,V⟩) (v:=.int J (m:Int)) (fun h=>by simp at h;omega);have X11:=(X1.set_ne (a:=⟨N8,1,V⟩) (v:=.int J ((1+i:Nat):Int)) (by simp;omega)).set_ne (a:=⟨N8,2,V⟩) (v:=.int J (m:Int)) (by simp;omega);refine ZC6 X82 (ZED X11 rfl rfl rfl rfl rfl (fun w9 X19 Q9=>ZC6 X19 (finish _ _ _ _ _ _ _ (M10.trans Q9 (fun i hi h=>by omega)) ?_)));have:¬bs.getD 1 0=0:=fun h=>hz (by rw[h];rfl);rw[hhd,if_neg (fun h=>h.elim this (fun h=>h.elim (fun h=>by omega) (fun h=>by omega)))];exact⟨rfl,rfl,rfl,rfl,rfl⟩
section
variable{A:Nat->Prop}{w w':L}{xs:List It}{o:Option Addr}{l k:Nat}
def Z2o(A:Nat->Prop)(w:L)(xs:List It)(o:Option Addr)(l k:Nat):Prop :=
 l=xs.length/\∃vs,Own w ZEH 3 o l k vs/\∀j(hj:j<xs.length),∃v1 v2 v3,vs[j*3]?=Q v1/\vs[j*3+1]?=Q v2/\vs[j*3+2]?=Q v3/\ItC (fun b=>A b\/OB o b) w xs[j] v1 v2 v3
theorem Z2o.nil(A:Nat->Prop)(w:L):Z2o A w [] V 0 0:=⟨rfl,[],Own.nil _ _ _,fun j hj=>absurd hj (by simp)⟩
theorem Z2o.lt(h:Z2o A w xs o l k):∀b,OB o b->b<w.heap.size:=by
 obtain⟨_,vs,F,_⟩:=h;exact fun b hb=>F.lt hb
theorem Z2o.cap(h:Z2o A w xs o l k):l<=k:=by
 obtain⟨_,vs,F,_⟩:=h;exact F.cap.1
theorem Z2o.modS{S:Nat->Prop}(h:Z2o A w xs o l k)(M:Vcg.Mod S w w')(hS:∀b,S b->A b)(hO:∀b,OB o b->¬S b):Z2o A w' xs o l k:=by
 obtain⟨h1,vs,F,h2⟩:=h;refine⟨h1,vs,F.mod M hO,fun j hj=>?_⟩;obtain⟨v1,v2,v3,a,b,d,e⟩:=h2 j hj;exact⟨v1,v2,v3,a,b,d,ItC.modA M (fun b hb=>JJ (hS b hb)) _ e⟩
theorem Z2o.mod'(h:Z2o A w xs o l k)(M:Vcg.Mod NoB w w'):Z2o A w' xs o l k:=h.modS M (fun _ h=>h.elim) (fun _ _ h=>h)
theorem Z2o.push(h:Z2o A w xs o l k){D:Nat}{x:It}{v1 v2 v3:JE}(B:Blk w D ZEH #[v1,v2,v3])(hx:ItC (fun b=>A b\/OB o b) w x v1 v2 v3)(hl:xs.length<=2^20) :
  ∃o' k' w',Sem.run U (builtinV .append #[109,109] 109 #[.slice o l k,.slice (Q ⟨D,0,V⟩) 1 1]) w=.ok (.slice o' (l+1) k') w'/\Z2o A w' (xs++[x]) o' (l+1) k'/\Vcg.Mod (OB o) w w'/\(∀b,OB o' b->OB o b\/w.heap.size<=b):=by
 obtain⟨rfl,vs,F,hv⟩:=h;obtain⟨i,hi,hz,hs,hb⟩:=Z1f ZCt;obtain⟨b,p1,q1,r1,p2,q2,r2,rfl,rfl,rfl⟩:=hx.vals;obtain⟨o',k',w',h1,h2,h3,h4⟩:=Z2u (ty:=109) Z89 hi hz hs rfl F (Z3T Z89 B rfl (by simp[Value.oneCell'])) (by simp only[maxLen];omega) (by rw[hb];omega);have hlen:vs.length=xs.length*3:=F.1
 have step:∀{y:It}{v1 v2 v3:JE},ItC (fun b=>A b\/OB o b) w y v1 v2 v3->ItC (fun b=>A b\/OB o' b) w' y v1 v2 v3:=fun hy =>
  ItC.mono (fun b hb=>hb.elim (fun h=>JJ (JJ h)) (fun h=>(h4 b h).elim (fun h=>JJ (JM h)) JM)) _ (ItC.modA h3 (fun b h=>JJ (JM h)) _ (ItC.old _ hy))
 refine⟨o',k',w',h1,⟨by simp,_,h2,fun j hj=>?_⟩,h3,h4⟩;rw[JA,List.length_cons,List.length_nil]at hj;by_cases hjx:j<xs.length
 ·obtain⟨v1,v2,v3,a,b,d,e⟩:=hv j hjx
  refine⟨v1,v2,v3,?_,?_,?_,?_⟩
  ·rw[JC (by omega)];exact a
  ·rw[JC (by omega)];exact b
  ·rw[JC (by omega)];exact d
  ·rw[List.getElem_append_left hjx];exact step e
 ·obtain rfl:j=xs.length:=by omega
  refine⟨.bool b,.slice p1 q1 r1,.slice p2 q2 r2,?_,?_,?_,?_⟩
  ·rw[JB (by omega),hlen,JW];rfl
  ·rw[JB (by omega),hlen,show xs.length*3+1-xs.length*3=1 by omega];rfl
  ·rw[JB (by omega),hlen,show xs.length*3+2-xs.length*3=2 by omega];rfl
  ·rw[List.getElem_append_right (by omega)]
   simp only[JW,List.getElem_cons_zero];exact step hx
theorem Z2o.its(h:Z2o A w xs o l k)(hA:∀b,A b->¬OB o b):Z1I A w xs o 0:=by
 obtain⟨rfl,vs,F,hv⟩:=h;refine ZEa xs 0 (fun j hj=>?_);obtain⟨v1,v2,v3,a,b,d,e⟩:=hv j hj;obtain⟨g,ho,hc1⟩:=F.cell a;obtain⟨g',ho',hc2⟩:=F.cell b;obtain⟨g'',ho'',hc3⟩:=F.cell d;rw[ho]at ho' ho'';cases ho';cases ho'';rw[J9];exact⟨g,v1,v2,v3,ho,F.lt ⟨_,ho,rfl⟩,fun h=>hA _ h ⟨_,ho,rfl⟩,hc1,hc2,hc3,ItC.mono (fun _ h=>JJ h) _ e⟩
end
theorem ZD1{w:L}{D n depth:Nat}(W:Blk w D 217 #[.int J (n:Int)])(h:depth>16\/n=4096) :
  J6 U Zc.n #[J2 (Q ⟨D,0,V⟩),.int J (depth:Int)] w (fun e w'=>e=O (.int J 43)/\w'=w):=by
 refine Zc.vc _ _ _ _ ?_;unfold Zc.Vc;exact⟨fun _=>⟨rfl,rfl⟩,fun hd=>⟨_,W.rd1 rfl,fun _=>⟨rfl,rfl⟩,fun hn=>by omega⟩⟩
def pre(xs:List It)(r:Except Int (List It×Nat)):Except Int (List It×Nat):=match r with
 | JD e=>JD e
 | .ok (ys,m)=>.ok (xs++ys,m)
theorem ZDD(r:Except Int (List It×Nat)):pre [] r=r:=by cases r<;>rfl
theorem ZDE(xs ys:List It)(r:Except Int (List It×Nat)):pre xs (pre ys r)=pre (xs++ys) r:=by
 cases r<;>simp[pre]
def ZFS(r:Except Int (It×Nat×Nat))(w:L)(D:Nat)(e:JN)(w':L):Prop:=match r with
 | JD x=>x≠0/\∃b o1 l1 k1 o2 l2 k2 n1,e=O (C #[.agg #[.bool b,.slice o1 l1 k1,.slice o2 l2 k2],.int J n1,.int J x])
 | .ok (x,q,m)=>Blk w' D 217 #[.int J (m:Int)]/\∃v1 v2 v3,e=O (C #[.agg #[v1,v2,v3],.int J (q:Int),.int J 0])/\ItC (fun b=>b<w.heap.size) w' x v1 v2 v3
theorem ZDa{w:L}{o:Option Addr}{bs:By}{k a q:Nat}(h:RdB w o bs)(hk:bs.length<=k):RdB w (subO o k a 1) ((bs.drop a).take q):=h.sub hk
theorem ZD5{S:Nat->Prop}{o:Option Addr}(h:Off S o)(c n:Nat):Off S (subO o c n 1):=fun d hd=>by
 unfold subO at hd;split at hd
 ·exact h d hd
 ·cases o with
  |none=>simp at hd
  |some a =>
   simp only[Option.map_some,Option.some.injEq]at hd
   have e:(a.add (n*1)).block=a.block:=by
    obtain⟨b,f,s⟩:=a;simp only[P];split<;>rfl
   rw[<-hd,e];exact h a rfl
set_option maxHeartbeats 1000000 in
set_option maxRecDepth 10000 in
theorem Z6h:∀(f d n:Nat) (bs:By) {w:L} {D k:Nat} {o:Option Addr},2*bs.length+1<=f->bs.length<=65536->RdB w o bs->bs.length<=k->Blk w D 217 #[.int J (n:Int)]->(bs≠[]->Off (·=D) o)->n<=4096->d<=20 ->
  J6 U Z0d.n #[J2 (Q ⟨D,0,V⟩),.slice o bs.length k,.int J (d:Int)] w (fun e w'=>Vcg.Mod (·=D) w w'/\ZFS (dcd f d n bs) w D e w')
 |0,_,_,_,_,_,_,_,hf,_,_,_,_,_,_,_=>absurd hf (by omega)
 |f+1,d,n,bs,w,D,k,o,hf,hlen,hr,hk,W,hoff,hn,hd20=>by
  refine Z9 fun R hR=>Z0d.vc _ _ _ _ _ _ _ ?_;unfold Z0d.Vc;have hD:=W.lt;rintro d3 w1⟨rfl,rfl⟩;have M1:Vcg.Mod NoB w _:=Mod.alloc w (T #[.bool I,.slice V 0 0,.slice V 0 0] 111);have X1:=Blk.new w 111 #[.bool I,.slice V 0 0,.slice V 0 0];have hs1:=Z6 w (T #[.bool I,.slice V 0 0,.slice V 0 0] 111);have W1:=W.mod' M1;have hr1:=hr.mod' M1;generalize hN:w.heap.size=N at *
  generalize w.alloc (T #[.bool I,.slice V 0 0,.slice V 0 0] 111)=w1 at *
  have M1':Vcg.Mod (·=D) w w1:=M1.mono (fun _ _ h=>h.elim)
  have bad:∀(w':L)(a b c:JE)(x:Int),Vcg.Mod (·=D) w w'->Blk w' N 111 #[a,b,c]->dcd (f+1) d n bs=JD x->x≠0->∀w'':L,Vcg.Mod (·=N) w' w''->R (O (C #[.agg #[.bool I,.slice V 0 0,.slice V 0 0],.int J 0,.int J x])) w'':=by
   intro w' a b c x M X hx h0 w'' M';refine hR _ _ ⟨M.trans M' (fun i hi h=>by omega),?_⟩;rw[hx];exact⟨h0,_,_,_,_,_,_,_,_,rfl⟩
  refine⟨fun h0=>?_,fun h0=>?_⟩
  ·have hb:bs=[]:=J8 (by omega)
   exact Z0z X1 (bad w1 _ _ _ 41 M1' X1 (by rw[hb];exact ZAN f d n) (by decide))
  have hbne:bs≠[]:=by rintro rfl;simp at h0
  by_cases hdn:d>16\/n=4096
  ·refine(ZD1 W1 hdn).mono ?_
   rintro _ w1⟨rfl,rfl⟩;exact⟨_,rfl,fun _=>Z0z X1 (bad _ _ _ _ 43 M1' X1 (Z68 hbne hdn) (by decide)),fun h=>absurd h (by decide)⟩
  refine(Z4Z W1 (by omega) (by omega)).mono ?_;rintro _ w2⟨rfl,M2,W2⟩;have X2:=X1.mod M2 (by omega);have hr2:=hr1.mod M2 (hoff hbne);have M02:=M1'.trans M2 (fun i hi h=>h);have hs2:=M2.size;refine⟨_,rfl,fun h=>(h rfl).elim,fun _=>?_⟩;refine(ZAj hr2 hbne hk (by omega)).mono ?_;rintro _ w3⟨M3,b1,n1,n2,b2,b3,e0,rfl,hhd⟩;have X3:=X2.mod' M3;have W3:=W2.mod' M3;have hr3:=hr2.mod' M3;have M03:=M02.none_trans M3;have hs3:=M3.size;clear X1 X2 W1 W2 hr1 hr2 M1 M1' M02 M2 M3;refine⟨_,_,_,_,_,_,rfl,?_⟩;rintro d4 w4⟨rfl,rfl⟩;have H4:=Blk.new w3 237 #[.bool I,.int J 0,.int J 0,.bool I,.bool I];have X4:=X3.alloc (T #[.bool I,.int J 0,.int J 0,.bool I,.bool I] 237);have W4:=W3.alloc (T #[.bool I,.int J 0,.int J 0,.bool I,.bool I] 237);have M4:Vcg.Mod NoB w3 _:=Mod.alloc w3 (T #[.bool I,.int J 0,.int J 0,.bool I,.bool I] 237);have hr4:=hr3.mod' M4;have M04:=M03.none_trans M4;have hs4:=Z6 w3 (T #[.bool I,.int J 0,.int J 0,.bool I,.bool I] 237);generalize hH:w3.heap.size=H at *
  generalize w3.alloc (T #[.bool I,.int J 0,.int J 0,.bool I,.bool I] 237)=w4 at *
  refine ZED H4 rfl rfl rfl rfl rfl (fun w5 H5 Q5=>?_);have X5:=X4.mod Q5 (by omega);have W5:=W4.mod Q5 (by omega)
  have hr5:RdB w5 o bs:=hr4.mod Q5 (fun e he h=>by
   obtain⟨bb,ff,ho,hb,_⟩:=hr hbne;rw[ho]at he;cases he;simp only at h;omega)
  have M05:=M04.trans Q5 (fun i hi h=>by omega);have hs5:=Q5.size;clear X3 X4 W3 W4 hr3 hr4 M03 M04 M4 Q5 H4;have hdec:=ZCj (f:=f) hbne hdn;cases hh:hd bs with
  |error x =>
   rw[hh]at hhd hdec;obtain⟨rfl,hx0⟩:=hhd;exact⟨fun _=>Z0z X5 (bad _ _ _ _ _ M05 X5 hdec hx0),fun h=>(hx0 h).elim⟩
  |ok r =>
   obtain⟨lst,a,q,ow⟩:=r;rw[hh]at hhd hdec;simp only at hdec;obtain⟨rfl,rfl,rfl,rfl,rfl⟩:=hhd;obtain⟨hat1,hat2⟩:=ZF1 hh hbne
   have ha9:a<=bs.length:=by
    cases b2 with
    |true=>have:=(hat1 rfl).2.1;omega
    |false=>exact(hat2 rfl).2.1
   have hq31:=ZBM hh;refine⟨fun h=>(h rfl).elim,fun _=>⟨_,by rw[Z2];exact H5.rd1 rfl,_,by rw[Z2];exact H5.rd1 rfl,?_⟩⟩;have e1:G J ((bs.length:Int)-(a:Int))=((bs.length-a:Nat):Int):=by rw[Z0 (by omega) (by omega)];omega
   have e2:G J ((a:Int)+(q:Int))=((a+q:Nat):Int):=by rw[Z0 (by omega) (by omega)];omega
   rw[e1];refine⟨fun hbig=>?_,fun hbig=>?_⟩
   ·rw[if_pos (by omega)]at hdec
    exact Z0z X5 (bad _ _ _ _ 41 M05 X5 hdec (by decide))
   rw[if_neg (by omega)]at hdec;refine⟨_,by rw[Z2];exact H5.rd1 rfl,_,by rw[Z2];exact H5.rd1 rfl,_,by rw[Z2];exact H5.rd1 rfl,?_⟩;rw[e2];simp only[J1];refine⟨⟨by omega,by omega⟩,⟨by omega,by omega⟩,_,by rw[Z2];exact H5.rd1 rfl,_,by rw[Z2];exact H5.rd1 rfl,_,H5.rd1 rfl,?_⟩;rw[e2];have hin:=ZDa (a:=a) (q:=q) hr5 hk;have hil:((bs.drop a).take q).length=q:=by rw[JG,J0];omega
   have hoffi:Off (fun b=>b=D\/N<=b) (subO o k a 1):=ZD5 (fun e he h=>by
    rcases h with h|h
    ·exact hoff hbne e he h
    ·obtain⟨bb,ff,ho,hb,_⟩:=hr hbne
     rw[ho]at he;cases he;simp only at h;omega) k a
   rw[show a+q-a=((bs.drop a).take q).length by omega];generalize hI:(bs.drop a).take q=inn at *
   generalize subO o k a 1=oi at *
   have str:∀{w6:L},Vcg.Mod (·=D) w w6->RdB w6 oi inn->Blk w6 N 111 #[.bool I,.slice V 0 0,.slice V 0 0]->Blk w6 D 217 #[.int J ((n+1:Nat):Int)]->dcd (f+1) d n bs=.ok (.s inn,a+q,n+1) ->
     J6 U 36 #[(.slice oi inn.length (k-a))] w6 (fun e85 w86=>∃o87:Option Addr,∃l88:Nat,∃l89:Nat,e85=O (.slice o87 l88 l89)/\Blk w86 N 111 #[.bool I,.slice V 0 0,.slice V 0 0] /\
      ∀w':L,Vcg.Mod (·=N) w86 w'->R (O (C #[(.agg #[(.bool I),(.slice o87 l88 l89),(.slice V 0 0)]),(.int J ((a+q:Nat):Int)),(.int J 0)])) w'):=by
    intro w6 M6 hin6 X6 W6 hd6;refine(Z3B hin6 (by omega)).mono ?_;rintro _ w7⟨o7,k7,rfl,F7⟩;refine⟨_,_,_,rfl,X6.mod' F7.mod,fun w8 M8=>hR _ _ ⟨(M6.none_trans F7.mod).trans M8 (fun i hi h=>by omega),?_⟩⟩;rw[hd6];have hNN:=X6.lt;have hN7:∀b,OB o7 b->¬b=N:=fun b hb h=>by have:=F7.new b hb;omega
    refine⟨((W6.mod' F7.mod).mod M8 (by omega)),_,_,_,rfl,?_⟩;simp only[ItC];refine⟨trivial,⟨o7,k7,rfl,(F7.own.mod M8 hN7).bytes,fun _ dd hdd h=>?_⟩,trivial⟩;have:=F7.new dd.block ⟨dd,hdd,rfl⟩;have:=M6.size;omega
   refine⟨fun hl=>⟨_,by rw[Z2];exact H5.rd1 rfl,fun how=>?_,fun how=>?_⟩,fun hl=>?_⟩
   ·refine(Z4x hin).mono ?_
    rintro _ w6⟨rfl,rfl⟩;rw[if_pos hl]at hdec;refine⟨_,rfl,fun ho=>?_,fun ho=>?_⟩
    ·rw[if_pos ⟨how,ho⟩]at hdec
     exact Z0z X5 (bad _ _ _ _ 40 M05 X5 hdec (by decide))
    ·rw[if_neg (fun h=>by rw[ho]at h;exact absurd h.2 (by decide))]at hdec
     refine(str M05 hin X5 W5 hdec).mono ?_;rintro _ w7⟨o7,l7,k7,rfl,X7,h7⟩;exact⟨_,_,_,rfl,Z0z X7 h7⟩
   ·rw[if_pos hl,if_neg (fun h=>by rw[how]at h;exact absurd h.1 (by decide))]at hdec
    refine(str M05 hin X5 W5 hdec).mono ?_;rintro _ w7⟨o7,l7,k7,rfl,X7,h7⟩;exact⟨_,_,_,rfl,Z0z X7 h7⟩
   rw[if_neg (by rw[hl];decide)]at hdec
   have hof:b2=I:=by
    cases b2 with
    |true=>have:=(hat1 rfl).1;rw[hl]at this;cases this
    |false=>rfl
   have hinl:inn.length<bs.length:=by
    have:=(hat2 hof).1;omega
   rintro dX w6⟨rfl,rfl⟩;have Y6:=Blk.new w5 111 #[.bool I,.slice V 0 0,.slice V 0 0];have M56:Vcg.Mod NoB w5 _:=Mod.alloc w5 (T #[.bool I,.slice V 0 0,.slice V 0 0] 111);have X6:=X5.mod' M56;have W6:=W5.mod' M56;have hin6:=hin.mod' M56;have M06:=M05.none_trans M56;have hs6:=Z6 w5 (T #[.bool I,.slice V 0 0,.slice V 0 0] 111);generalize hY:w5.heap.size=Y at *
   generalize w5.alloc (T #[.bool I,.slice V 0 0,.slice V 0 0] 111)=w6 at *
   refine Z65 Y6 rfl rfl rfl (fun w7 Y7 Q7=>?_);have X7:=X6.mod Q7 (by omega);have W7:=W6.mod Q7 (by omega)
   have hin7:RdB w7 oi inn:=by
    by_cases hie:inn=[]
    ·rw[hie];exact RdB.nil _ _
    ·obtain⟨bb,ff,ho,hb,_⟩:=hin hie
     refine hin6.mod Q7 (fun e he h=>?_);rw[ho]at he;cases he;simp only at h;omega
   have M07:=M06.trans Q7 (fun i hi h=>by omega);have hs7:=Q7.size;clear X6 W6 Y6 hin6 M06 M56 Q7 X5 W5 hin M05 H5 str
   refine⟨fun o' l' k' w'=>∃(rest:By)(n':Nat)(xs:List It)(f':Nat)(ol:Option Addr)(kl:Nat)(v:JE),
    l'=rest.length/\RdB w' o' rest/\Off (fun b=>b=D\/N<=b) o'/\rest.length<=k'/\rest.length<=inn.length/\xs.length+rest.length<=inn.length/\Blk w' D 217 #[.int J (n':Int)]/\n'<=4096 /\
    Blk w' Y 111 #[.bool JI,.slice V 0 0,.slice ol xs.length kl]/\(∃a b c,Blk w' N 111 #[a,b,c])/\Z2o (fun b=>b<w7.heap.size) w' xs ol xs.length kl/\(∀b,OB ol b->w7.heap.size<=b)/\Vcg.Mod (·=D) w w'/\w7.heap.size<=w'.heap.size /\
    Z7J f (d+1) (n+1) inn=pre xs (Z7J f' (d+1) n' rest)/\2*rest.length+2<=f'/\f'<=f,fun _ l' _ _=>l',?_,?_⟩
   ·exact⟨inn,n+1,[],f,V,0,.nilIface,rfl,hin7,hoffi,by omega,J7 _,by simp,W7,by omega,by rw[hl]at *;exact Y7,⟨_,_,_,X7⟩,Z2o.nil _ _,fun b hb=>(Z3Z b hb).elim,M07,J7 _,(ZDD _).symm,by omega,J7 _⟩
   ·rintro o8 _ c8 _ w8⟨rest,n',xs,f',ol,kl,_,rfl,hr8,hoff8,hc8,hrl,hxr,W8,hn',Y8,⟨xa,xb,xc,X8⟩,I8,hnew,M08,hs8,hde,hf',hff⟩
    refine⟨fun hpos=>?_,fun hpos=>?_⟩
    ·have hrne:rest≠[]:=by rintro rfl;simp at hpos
     obtain⟨f2,rfl⟩:∃f2,f'=f2+1:=⟨f'-1,by omega⟩;rw[ZAO hrne]at hde;have ed:G J ((d:Int)+1)=((d+1:Nat):Int):=by rw[Z0 (by omega) (by omega)];omega
     rw[ed];refine(Z6h f2 (d+1) n' rest (by omega) (by omega) hr8 hc8 W8 (fun _ e he h=>hoff8 e he (JJ h)) hn' (by omega)).mono ?_;rintro e w9⟨M9,hdi⟩;have hs9:=M9.size;have Y9:=Y8.mod M9 (by omega);have X9:=X8.mod M9 (by omega);have I9:=I8.modS M9 (fun b hb=>by omega) (fun b hb h=>by have:=hnew b hb;omega);have M09:=M08.trans M9 (fun i hi h=>h);have hr9:=hr8.mod M9 (fun e he h=>hoff8 e he (JJ h));cases hd1:dcd f2 (d+1) n' rest with
     |error x =>
      rw[hd1]at hdi hde;obtain⟨hx0,bb,p1,q1,r1,p2,q2,r2,m1,rfl⟩:=hdi;refine⟨_,_,_,_,_,_,_,_,_,rfl,?_⟩;rintro dA wA⟨rfl,rfl⟩;have HA:=Blk.new w9 111 #[.bool I,.slice V 0 0,.slice V 0 0];have XA:=X9.alloc (T #[.bool I,.slice V 0 0,.slice V 0 0] 111);have MA:=M09.step_alloc (T #[.bool I,.slice V 0 0,.slice V 0 0] 111);refine Z65 HA rfl rfl rfl (fun wB HB QB=>?_);have XB:=XA.mod QB (by omega);have MB:=MA.trans QB (fun i hi h=>by omega);exact⟨fun _=>Z0z XB (bad _ _ _ _ _ MB XB (by rw[hdec,hde];rfl) hx0),fun h=>(hx0 h).elim⟩
     |ok r =>
      obtain⟨y,q',m'⟩:=r;rw[hd1]at hdi hde;simp only at hde;obtain⟨W9,v1,v2,v3,rfl,hy⟩:=hdi;obtain⟨k1,k2,k3,k4,k5,k6⟩:=(Z6a f2 (d+1) n' rest).1 _ _ _ hd1;obtain⟨bb,p1,q1,r1,p2,q2,r2,rfl,rfl,rfl⟩:=hy.vals;refine⟨_,_,_,_,_,_,_,_,_,rfl,?_⟩;rintro dA wA⟨rfl,rfl⟩;have HA:=Blk.new w9 111 #[.bool I,.slice V 0 0,.slice V 0 0];have M9A:Vcg.Mod NoB w9 _:=Mod.alloc w9 (T #[.bool I,.slice V 0 0,.slice V 0 0] 111);have hsA:=Z6 w9 (T #[.bool I,.slice V 0 0,.slice V 0 0] 111);generalize hHA:w9.heap.size=HH at *
      generalize w9.alloc (T #[.bool I,.slice V 0 0,.slice V 0 0] 111)=wA at *
      refine Z65 HA rfl rfl rfl (fun wB HB QB=>?_);have M9B:Vcg.Mod NoB w9 wB:=ZC M9A QB (by omega);have XB:=X9.mod' M9B;have YB:=Y9.mod' M9B;have WB:=W9.mod' M9B;have hyB:=ItC.mod M9B _ hy;have hrB:=hr9.mod' M9B;have IB:=I9.mod' M9B;have MB:=M09.none_trans M9B;have hsB:=M9B.size;clear HA M9A QB X9 Y9 W9 hr9 I9 M09 hy;refine⟨fun h=>(h rfl).elim,fun _=>?_⟩;rintro _ rfl;have MBC:Vcg.Mod NoB wB wB.drew:=Mod.drew wB;have XC:=XB.mod' MBC;have YC:=YB.mod' MBC;have WC:=WB.mod' MBC;have HC:=HB.mod' MBC;have hyC:=ItC.mod MBC _ hyB;have hrC:=hrB.mod' MBC;have IC:=IB.mod' MBC;have MC:=MB.none_trans MBC;have hsC:=MBC.size;clear XB YB WB HB hyB hrB IB MB MBC;generalize wB.drew=wC at *
      refine⟨_,_,_,by rw[Z2];exact YC.rd1 rfl,Z6i HC ⟨⟨by omega,by omega⟩,?_⟩⟩;rintro dD wD⟨rfl,rfl⟩;have MD:Vcg.Mod NoB wC _:=Mod.alloc wC (T #[.bool bb,.slice p1 q1 r1,.slice p2 q2 r2] 111);have E:=Blk.new wC 111 #[.bool bb,.slice p1 q1 r1,.slice p2 q2 r2];have XD:=XC.mod' MD;have YD:=YC.mod' MD;have WD:=WC.mod' MD;have hyD:=ItC.mod MD _ hyC;have hrD:=hrC.mod' MD;have ID:=IC.mod' MD;have M0D:=MC.none_trans MD;have hsD:=MD.size;clear XC YC WC HC hyC hrC IC MC;generalize wC.heap.size=HE at *
      generalize wC.alloc (T #[.bool bb,.slice p1 q1 r1,.slice p2 q2 r2] 111)=wD at *
      refine⟨by rw[Z2];exact YD.rd1 rfl,?_⟩;have hlt8:=I8.lt
      obtain⟨o',k',wE,hrun,IE,QE,hOB⟩:=ID.push E (ItC.mono (fun b hb=>by
       rcases hb with h|h
       ·exact JO h hs8
       ·exact hlt8 b h) _ hyD) (by omega)
      have nE:∀b,OB o' b->w7.heap.size<=b:=fun b hb=>by
       rcases hOB b hb with h|h
       ·exact hnew b h
       ·omega
      have XE:=XD.mod QE (fun h=>by have:=hnew _ h;omega);have YE:=YD.mod QE (fun h=>by have:=hnew _ h;omega);have WE:=WD.mod QE (fun h=>by have:=hnew _ h;omega);have hrE:RdB wE o8 rest:=hrD.mod QE (fun e he h=>hoff8 e he (JM (by have:=hnew _ h;omega)));have M0E:=M0D.trans QE (fun i hi h=>by have:=hnew _ h;omega);have hsE:=QE.size;refine⟨_,wE,hrun,_,_,_,rfl,?_⟩;rw[Z2];refine⟨YE.canSet (by simp) rfl,?_⟩;rintro _ rfl;have QF:Vcg.Mod (·=Y) wE _:=Mod.setCell wE ⟨Y,0+2,V⟩ (.slice o' (xs.length+1) k');have YF:=YE.set 2 (.slice o' (xs.length+1) k');have IF:=IE.modS QF (fun b hb=>by omega) (fun b hb h=>by have:=nE b hb;omega);have XF:=XE.mod QF (by omega);have WF:=WE.mod QF (by omega);have hrF:RdB _ o8 rest:=hrE.mod QF (fun e he h=>hoff8 e he (JM (by omega)));have M0F:=M0E.trans QF (fun i hi h=>by omega);have hsF:=QF.size;rw[J1];refine⟨⟨rest.drop q',m',xs++[y],f2,o',k',.nilIface,by rw[J0],Z58 hrF hc8,ZD5 hoff8 _ _,by rw[J0];omega,by rw[J0];omega,by rw[JA,J0,J5];omega,WF,by omega,by rw[JA,J5];exact YF,⟨_,_,_,XF⟩,by rw[JA,J5];exact IF,nE,M0F,by omega,?_,by rw[J0];omega,by omega⟩,by dsimp only;omega⟩;rw[hde,<-ZDE];congr 1
    ·obtain rfl:rest=[]:=J8 (by omega)
     obtain⟨f2,rfl⟩:∃f2,f'=f2+1:=⟨f'-1,by omega⟩;rw[Z8I]at hde;have hits:=I8.its (fun b hb h=>by have:=hnew b h;omega);refine Z6i Y8 (Z0z X8 (fun w9 M9=>hR _ _ ⟨M08.trans M9 (fun i hi h=>by omega),?_⟩));rw[hdec,hde];simp only[pre,JR];refine⟨W8.mod M9 (by omega),_,_,_,rfl,?_⟩;simp only[ItC];exact⟨trivial,trivial,ol,kl,rfl,Z1I.mono (fun b hb=>by omega) _ (Z1I.modA M9 (fun b hb=>by omega) _ hits),I8.cap⟩
def Z2n(bs:By)(w:L)(e:JN)(w':L):Prop :=
 if bs.length>65536 then ∃b o1 l1 k1 o2 l2 k2 n1,e=O (C #[.agg #[.bool b,.slice o1 l1 k1,.slice o2 l2 k2],.int J n1,.int J 44])
 else match dcd (2*bs.length+1) 1 0 bs with
 | JD x=>x≠0/\∃b o1 l1 k1 o2 l2 k2 n1,e=O (C #[.agg #[.bool b,.slice o1 l1 k1,.slice o2 l2 k2],.int J n1,.int J x])
 | .ok (x,q,_)=>∃v1 v2 v3,e=O (C #[.agg #[v1,v2,v3],.int J (q:Int),.int J 0])/\ItC (fun b=>b<w.heap.size) w' x v1 v2 v3
def Z1c(bs:By)(w:L)(e:JN)(w':L):Prop:=match Z4Q bs with
 | JD x=>x≠0/\∃b o1 l1 k1 o2 l2 k2,e=O (C #[.agg #[.bool b,.slice o1 l1 k1,.slice o2 l2 k2],.int J x])
 | .ok x=>∃v1 v2 v3,e=O (C #[.agg #[v1,v2,v3],.int J 0])/\ItC (fun b=>b<w.heap.size) w' x v1 v2 v3
theorem ZA9{w:L}{o:Option Addr}{k:Nat}{bs:By}(hr:RdB w o bs)(hk:bs.length<=k) :
  J6 U Z34.n #[.slice o bs.length k] w (fun e w'=>Vcg.Mod NoB w w'/\Z2n bs w e w'):=by
 refine Z9 fun R hR=>Z34.vc _ _ _ _ _ ?_;unfold Z34.Vc;rintro d1 w1⟨rfl,rfl⟩;have M1:Vcg.Mod NoB w _:=Mod.alloc w (T #[.bool I,.slice V 0 0,.slice V 0 0] 111);have X1:=Blk.new w 111 #[.bool I,.slice V 0 0,.slice V 0 0];have hs1:=Z6 w (T #[.bool I,.slice V 0 0,.slice V 0 0] 111);have hr1:=hr.mod' M1;generalize hN:w.heap.size=N at *
 generalize w.alloc (T #[.bool I,.slice V 0 0,.slice V 0 0] 111)=w1 at *
 refine⟨fun hbig=>?_,fun hbig=>?_⟩
 ·refine Z0z X1 (fun w2 M2=>hR _ _ ⟨ZC M1 M2 (by omega),?_⟩)
  unfold Z2n;rw[if_pos (by omega)];exact⟨_,_,_,_,_,_,_,_,rfl⟩
 ·rintro d2 w2⟨rfl,rfl⟩
  have M12:Vcg.Mod NoB w1 _:=Mod.alloc w1 (T #[.int J 0] 217);have W2:=Blk.new w1 217 #[.int J ((0:Nat):Int)];have X2:=X1.mod' M12;have hr2:=hr1.mod' M12;have M2:=M1.none_trans M12;have hs2:=Z6 w1 (T #[.int J 0] 217)
  have hoff:bs≠[]->Off (·=w1.heap.size) o:=fun hne e he h=>by
   obtain⟨b,f,ho,hb,_⟩:=hr hne;rw[ho]at he;cases he;simp only at h;omega
  have hc:=Z6h (2*bs.length+1) 1 0 bs (k:=k) (J7 _) (by omega) hr2 hk W2 hoff (by omega) (by omega);refine Calls.mono (R:=fun e w'=>Vcg.Mod (·=w1.heap.size) (w1.alloc (T #[.int J 0] 217)) w'/\ZFS (dcd (2*bs.length+1) 1 0 bs) (w1.alloc (T #[.int J 0] 217)) w1.heap.size e w') hc ?_;rintro e w3⟨M3,hd⟩;have M03:Vcg.Mod NoB w w3:=ZC M2 M3 (by omega);have X3:=X2.mod M3 (by omega);cases hdc:dcd (2*bs.length+1) 1 0 bs with
  |error x =>
   rw[hdc]at hd;obtain⟨hx,b,p1,q1,r1,p2,q2,r2,n1,rfl⟩:=hd;refine⟨_,_,_,_,_,_,_,_,_,rfl,Z0z X3 (fun w4 M4=>hR _ _ ⟨ZC M03 M4 (by omega),?_⟩)⟩;unfold Z2n;rw[if_neg (by omega),hdc];exact⟨hx,_,_,_,_,_,_,_,_,rfl⟩
  |ok r =>
   obtain⟨y,q,m⟩:=r;rw[hdc]at hd;obtain⟨W3,v1,v2,v3,rfl,hy⟩:=hd;obtain⟨bb,p1,q1,r1,p2,q2,r2,rfl,rfl,rfl⟩:=hy.vals;refine⟨_,_,_,_,_,_,_,_,_,rfl,Z0z X3 (fun w4 M4=>hR _ _ ⟨ZC M03 M4 (by omega),?_⟩)⟩;unfold Z2n;rw[if_neg (by omega),hdc];refine⟨_,_,_,rfl,ItC.mono (fun b hb=>?_) _ (ItC.modA M4 (fun b hb=>?_) _ hy)⟩
   ·have:b<w.heap.size:=hb
    omega
   ·show b<_
    rw[hs2];omega
theorem Z5e{w:L}{o:Option Addr}{k:Nat}{bs:By}(hr:RdB w o bs)(hk:bs.length<=k) :
  J6 U Z2K.n #[.slice o bs.length k] w (fun e w'=>Vcg.Mod NoB w w'/\Z1c bs w e w'):=by
 refine Z9 fun R hR=>Z2K.vc _ _ _ _ _ ?_;unfold Z2K.Vc;rintro d1 w1⟨rfl,rfl⟩;have M1:Vcg.Mod NoB w _:=Mod.alloc w (T #[.bool I,.slice V 0 0,.slice V 0 0] 111);have X1:=Blk.new w 111 #[.bool I,.slice V 0 0,.slice V 0 0];have hs1:=Z6 w (T #[.bool I,.slice V 0 0,.slice V 0 0] 111);have hr1:=hr.mod' M1;generalize hN:w.heap.size=N at *
 generalize w.alloc (T #[.bool I,.slice V 0 0,.slice V 0 0] 111)=w1 at *
 refine(ZA9 hr1 hk).mono ?_;rintro e w2⟨M2,hf⟩;have M02:=M1.none_trans M2;have X2:=X1.mod' M2;have hs2:=M2.size
 have bad:∀(w':L)(x:Int),Z4Q bs=JD x->x≠0->Vcg.Mod NoB w w'->Blk w' N 111 #[.bool I,.slice V 0 0,.slice V 0 0]->∀w'':L,Vcg.Mod (·=N) w' w''->R (O (C #[.agg #[.bool I,.slice V 0 0,.slice V 0 0],.int J x])) w'':=by
  intro w' x hx h0 M X w'' M';refine hR _ _ ⟨ZC M M' (by omega),?_⟩;unfold Z1c;rw[hx];exact⟨h0,_,_,_,_,_,_,_,rfl⟩
 have key:(∃b p1 q1 r1 p2 q2 r2 n1 x,e=O (C #[.agg #[.bool b,.slice p1 q1 r1,.slice p2 q2 r2],.int J n1,.int J x])/\x≠0/\Z4Q bs=JD x) \/
   (∃y q m v1 v2 v3,¬bs.length>65536/\dcd (2*bs.length+1) 1 0 bs=.ok (y,q,m)/\e=O (C #[.agg #[v1,v2,v3],.int J (q:Int),.int J 0])/\ItC (fun b=>b<w1.heap.size) w2 y v1 v2 v3):=by
  unfold Z2n at hf;split at hf
  ·rename_i hbig
   obtain⟨b,p1,q1,r1,p2,q2,r2,n1,he⟩:=hf;exact JJ ⟨_,_,_,_,_,_,_,_,_,he,by decide,by unfold Z4Q;rw[if_pos hbig]⟩
  ·rename_i hbig
   split at hf
   ·rename_i x hdc
    obtain⟨hx,b,p1,q1,r1,p2,q2,r2,n1,he⟩:=hf;exact JJ ⟨_,_,_,_,_,_,_,_,_,he,hx,by unfold Z4Q;rw[if_neg hbig,hdc]⟩
   ·rename_i y q m hdc
    obtain⟨v1,v2,v3,he,hy⟩:=hf;exact JM ⟨_,_,_,_,_,_,hbig,hdc,he,hy⟩
 rcases key with⟨b,p1,q1,r1,p2,q2,r2,n1,x,rfl,hx,hdc⟩|⟨y,q,m,v1,v2,v3,hbig,hdc,rfl,hy⟩
 ·refine⟨_,_,_,_,_,_,_,_,_,rfl,?_⟩
  rintro d3 w3⟨rfl,rfl⟩;have H:=Blk.new w2 111 #[.bool I,.slice V 0 0,.slice V 0 0];have M23:Vcg.Mod NoB w2 _:=Mod.alloc w2 (T #[.bool I,.slice V 0 0,.slice V 0 0] 111);refine Z65 H rfl rfl rfl (fun w4 H4 Q4=>?_);have M24:Vcg.Mod NoB w2 w4:=ZC M23 Q4 (J7 _);exact⟨fun _=>Z0z (X2.mod' M24) (bad w4 x hdc hx (M02.none_trans M24) (X2.mod' M24)),fun h=>(hx h).elim⟩
 ·obtain⟨bb,p1,q1,r1,p2,q2,r2,rfl,rfl,rfl⟩:=hy.vals
  refine⟨_,_,_,_,_,_,_,_,_,rfl,?_⟩;rintro d3 w3⟨rfl,rfl⟩;have H:=Blk.new w2 111 #[.bool I,.slice V 0 0,.slice V 0 0];have M23:Vcg.Mod NoB w2 _:=Mod.alloc w2 (T #[.bool I,.slice V 0 0,.slice V 0 0] 111);refine Z65 H rfl rfl rfl (fun w4 H4 Q4=>?_);have M24:Vcg.Mod NoB w2 w4:=ZC M23 Q4 (J7 _);have X4:=X2.mod' M24;have hy4:=ItC.mod M24 _ hy;refine⟨fun h=>(h rfl).elim,fun _=>⟨fun hlt=>?_,fun hlt=>?_⟩⟩
  ·refine Z0z X4 (bad w4 42 ?_ (by decide) (M02.none_trans M24) X4)
   unfold Z4Q;rw[if_neg hbig,hdc];simp only;rw[if_pos (by omega)]
  ·refine Z6i H4 (Z0z X4 (fun w5 M5=>hR _ _ ⟨ZC (M02.none_trans M24) M5 (by omega),?_⟩))
   have hd:Z4Q bs=.ok y:=by
    unfold Z4Q;rw[if_neg hbig,hdc];simp only;rw[if_neg (by omega)]
   unfold Z1c;rw[hd];refine⟨_,_,_,rfl,ItC.mono (fun b hb=>?_) _ (ItC.modA M5 (fun b hb=>?_) _ hy4)⟩
   ·have:b<w.heap.size:=hb
    show b<w1.heap.size;omega
   ·show b<w1.heap.size
    omega
end Go.Proofs.YtfghidehlnfdiaaGreat
end
section
namespace Go.Proofs.YtfghidehlnfdiaaGreat
open Go Go.Vcg
abbrev Z06.n:Nat:=60
def Z06.Vc(a:Option Addr)(b c:Nat)(w:L)(R:JN->L->Prop):Prop :=
 ∀d e,Z5 w 111 #[.bool I,.slice V 0 0,.slice V 0 0] d e ->
 J6 U 94 #[.slice a b c] e (fun a c =>
 ∃e f g h i j k l m,a=O (C #[.agg #[.bool e,.slice f g h,.slice i j k],.int J l,.int J m]) /\
 ∀a n,Z5 c 111 #[.bool I,.slice V 0 0,.slice V 0 0] a n ->
 Z1 n a (.bool e)/\∀c,Z3 n a (.bool e) c ->
 Z1 c (a.add 1) (.slice f g h)/\∀e,Z3 c (a.add 1) (.slice f g h) e ->
 Z1 e (a.add 2) (.slice i j k)/\∀c,Z3 e (a.add 2) (.slice i j k) c ->
 ((m=0 ->
 ((l<(b:Int) ->
 Z1 c d (.bool I)/\∀e,Z3 c d (.bool I) e ->
 Z1 e (d.add 1) (.slice V 0 0)/\∀f,Z3 e (d.add 1) (.slice V 0 0) f ->
 Z1 f (d.add 2) (.slice V 0 0)/\∀e,Z3 f (d.add 2) (.slice V 0 0) e ->
 ∃f g h i j k n,e.cell? d=Q (.bool f) /\
 e.cell? (d.add 1)=Q (.slice g h i) /\
 e.cell? (d.add 2)=Q (.slice j k n) /\
 R (O (C #[.agg #[.bool f,.slice g h i,.slice j k n],.int J 42])) e) /\
 (¬l<(b:Int) ->
 ((m≠0 ->
 Z1 c d (.bool I)/\∀b,Z3 c d (.bool I) b ->
 Z1 b (d.add 1) (.slice V 0 0)/\∀e,Z3 b (d.add 1) (.slice V 0 0) e ->
 Z1 e (d.add 2) (.slice V 0 0)/\∀b,Z3 e (d.add 2) (.slice V 0 0) b ->
 ∃e f g h i j k,b.cell? d=Q (.bool e) /\
 b.cell? (d.add 1)=Q (.slice f g h) /\
 b.cell? (d.add 2)=Q (.slice i j k) /\
 R (O (C #[.agg #[.bool e,.slice f g h,.slice i j k],.int J m])) b) /\
 (m=0 ->
 ∃b e f g h i j,c.cell? a=Q (.bool b) /\
 c.cell? (a.add 1)=Q (.slice e f g) /\
 c.cell? (a.add 2)=Q (.slice h i j) /\
 Z1 c d (.bool b)/\∀k,Z3 c d (.bool b) k ->
 Z1 k (d.add 1) (.slice e f g)/\∀b,Z3 k (d.add 1) (.slice e f g) b ->
 Z1 b (d.add 2) (.slice h i j)/\∀e,Z3 b (d.add 2) (.slice h i j) e ->
 ∃b f g h i j k,e.cell? d=Q (.bool b) /\
 e.cell? (d.add 1)=Q (.slice f g h) /\
 e.cell? (d.add 2)=Q (.slice i j k) /\
 R (O (C #[.agg #[.bool b,.slice f g h,.slice i j k],.int J 0])) e))))) /\
 (m≠0 ->
 ((m≠0 ->
 Z1 c d (.bool I)/\∀b,Z3 c d (.bool I) b ->
 Z1 b (d.add 1) (.slice V 0 0)/\∀e,Z3 b (d.add 1) (.slice V 0 0) e ->
 Z1 e (d.add 2) (.slice V 0 0)/\∀b,Z3 e (d.add 2) (.slice V 0 0) b ->
 ∃e f g h i j k,b.cell? d=Q (.bool e) /\
 b.cell? (d.add 1)=Q (.slice f g h) /\
 b.cell? (d.add 2)=Q (.slice i j k) /\
 R (O (C #[.agg #[.bool e,.slice f g h,.slice i j k],.int J m])) b) /\
 (m=0 ->
 ∃b e f g h i j,c.cell? a=Q (.bool b) /\
 c.cell? (a.add 1)=Q (.slice e f g) /\
 c.cell? (a.add 2)=Q (.slice h i j) /\
 Z1 c d (.bool b)/\∀a,Z3 c d (.bool b) a ->
 Z1 a (d.add 1) (.slice e f g)/\∀b,Z3 a (d.add 1) (.slice e f g) b ->
 Z1 b (d.add 2) (.slice h i j)/\∀a,Z3 b (d.add 2) (.slice h i j) a ->
 ∃b c e f g h i,a.cell? d=Q (.bool b) /\
 a.cell? (d.add 1)=Q (.slice c e f) /\
 a.cell? (d.add 2)=Q (.slice g h i) /\
 R (O (C #[.agg #[.bool b,.slice c e f,.slice g h i],.int J 0])) a)))))
theorem Z06.vc(a b c w R)(h:Z06.Vc a b c w R):J6 U 60 #[(.slice a b c)] w R:=xs [] [.slice a b c] Tryz.func60 ZI (by kernel_rfl) h
abbrev Z0P.n:Nat:=94
def Z0P.Vc(a:Option Addr)(b c:Nat)(w:L)(R:JN->L->Prop):Prop :=
 ∀d e,Z5 w 111 #[.bool I,.slice V 0 0,.slice V 0 0] d e ->
 (((b:Int)>65536 ->
 Z1 e d (.bool I)/\∀f,Z3 e d (.bool I) f ->
 Z1 f (d.add 1) (.slice V 0 0)/\∀g,Z3 f (d.add 1) (.slice V 0 0) g ->
 Z1 g (d.add 2) (.slice V 0 0)/\∀f,Z3 g (d.add 2) (.slice V 0 0) f ->
 ∃g h i j k l m,f.cell? d=Q (.bool g) /\
 f.cell? (d.add 1)=Q (.slice h i j) /\
 f.cell? (d.add 2)=Q (.slice k l m) /\
 R (O (C #[.agg #[.bool g,.slice h i j,.slice k l m],.int J 0,.int J 44])) f) /\
 (¬(b:Int)>65536 ->
 ∀f g,Z5 e 187 #[.slice a b c,.int J 0,.int J 0] f g ->
 J6 U 117 #[J2 (Q f),.int J 0,.int J (b:Int),.int J 1] g (fun a b =>
 ∃c e g h i j k l,a=O (C #[.agg #[.bool c,.slice e g h,.slice i j k],.int J l]) /\
 ∀a m,Z5 b 111 #[.bool I,.slice V 0 0,.slice V 0 0] a m ->
 Z1 m a (.bool c)/\∀b,Z3 m a (.bool c) b ->
 Z1 b (a.add 1) (.slice e g h)/\∀c,Z3 b (a.add 1) (.slice e g h) c ->
 Z1 c (a.add 2) (.slice i j k)/\∀b,Z3 c (a.add 2) (.slice i j k) b ->
 ∃c,b.cell? (f.add 2)=Q (.int J c) /\
 ((c≠0 ->
 ∀e,ZF b e ->
 ∃g,e.cell? (f.add 2)=Q (.int J g) /\
 Z1 e d (.bool I)/\∀h,Z3 e d (.bool I) h ->
 Z1 h (d.add 1) (.slice V 0 0)/\∀e,Z3 h (d.add 1) (.slice V 0 0) e ->
 Z1 e (d.add 2) (.slice V 0 0)/\∀h,Z3 e (d.add 2) (.slice V 0 0) h ->
 h.cell? (f.add 2)=Q (.int J g) /\
 ∃e f i j k m n,h.cell? d=Q (.bool e) /\
 h.cell? (d.add 1)=Q (.slice f i j) /\
 h.cell? (d.add 2)=Q (.slice k m n) /\
 R (O (C #[.agg #[.bool e,.slice f i j,.slice k m n],.int J 0,.int J g])) h) /\
 (c=0 ->
 ∃c e f g h i j,b.cell? a=Q (.bool c) /\
 b.cell? (a.add 1)=Q (.slice e f g) /\
 b.cell? (a.add 2)=Q (.slice h i j) /\
 Z1 b d (.bool c)/\∀a,Z3 b d (.bool c) a ->
 Z1 a (d.add 1) (.slice e f g)/\∀b,Z3 a (d.add 1) (.slice e f g) b ->
 Z1 b (d.add 2) (.slice h i j)/\∀a,Z3 b (d.add 2) (.slice h i j) a ->
 ∃b c e f g h i,a.cell? d=Q (.bool b) /\
 a.cell? (d.add 1)=Q (.slice c e f) /\
 a.cell? (d.add 2)=Q (.slice g h i) /\
 R (O (C #[.agg #[.bool b,.slice c e f,.slice g h i],.int J l,.int J 0])) a)))))
theorem Z0P.vc(a b c w R)(h:Z0P.Vc a b c w R):J6 U 94 #[(.slice a b c)] w R:=xs [] [.slice a b c] Tryz.func94 ZI (by kernel_rfl) h
abbrev ZV.n:Nat:=117
def ZV.Vc(a:Addr)(b c d:Int)(w:L)(R:JN->L->Prop):Prop :=
 ∀e f,Z5 w 111 #[.bool I,.slice V 0 0,.slice V 0 0] e f ->
 ((b>=c ->
 J6 U 133 #[J2 (Q a),.int J 41] f (fun g h =>
 ∃i j k l m n o p,g=O (C #[.agg #[.bool i,.slice j k l,.slice m n o],.int J p]) /\
 Z1 h e (.bool i)/\∀g,Z3 h e (.bool i) g ->
 Z1 g (e.add 1) (.slice j k l)/\∀h,Z3 g (e.add 1) (.slice j k l) h ->
 Z1 h (e.add 2) (.slice m n o)/\∀g,Z3 h (e.add 2) (.slice m n o) g ->
 ∃h i j k l m n,g.cell? e=Q (.bool h) /\
 g.cell? (e.add 1)=Q (.slice i j k) /\
 g.cell? (e.add 2)=Q (.slice l m n) /\
 R (O (C #[.agg #[.bool h,.slice i j k,.slice l m n],.int J p])) g)) /\
 (¬b>=c ->
 ((d>16 ->
 J6 U 133 #[J2 (Q a),.int J 43] f (fun g h =>
 ∃i j k l m n o p,g=O (C #[.agg #[.bool i,.slice j k l,.slice m n o],.int J p]) /\
 Z1 h e (.bool i)/\∀g,Z3 h e (.bool i) g ->
 Z1 g (e.add 1) (.slice j k l)/\∀h,Z3 g (e.add 1) (.slice j k l) h ->
 Z1 h (e.add 2) (.slice m n o)/\∀g,Z3 h (e.add 2) (.slice m n o) g ->
 ∃h i j k l m n,g.cell? e=Q (.bool h) /\
 g.cell? (e.add 1)=Q (.slice i j k) /\
 g.cell? (e.add 2)=Q (.slice l m n) /\
 R (O (C #[.agg #[.bool h,.slice i j k,.slice l m n],.int J p])) g)) /\
 (¬d>16 ->
 ∃g,f.cell? (a.add 1)=Q (.int J g) /\
 ((g=4096 ->
 J6 U 133 #[J2 (Q a),.int J 43] f (fun h i =>
 ∃j k l m n o p q,h=O (C #[.agg #[.bool j,.slice k l m,.slice n o p],.int J q]) /\
 Z1 i e (.bool j)/\∀h,Z3 i e (.bool j) h ->
 Z1 h (e.add 1) (.slice k l m)/\∀i,Z3 h (e.add 1) (.slice k l m) i ->
 Z1 i (e.add 2) (.slice n o p)/\∀h,Z3 i (e.add 2) (.slice n o p) h ->
 ∃i j k l m n o,h.cell? e=Q (.bool i) /\
 h.cell? (e.add 1)=Q (.slice j k l) /\
 h.cell? (e.add 2)=Q (.slice m n o) /\
 R (O (C #[.agg #[.bool i,.slice j k l,.slice m n o],.int J q])) h)) /\
 (g≠4096 ->
 ∃g,f.cell? (a.add 1)=Q (.int J g) /\
 Z1 f (a.add 1) (.int J (G J (g+1)))/\∀h,Z3 f (a.add 1) (.int J (G J (g+1))) h ->
 ∃f g i,h.cell? a=Q (.slice f g i) /\
 ∃i,f=Q i /\
 ((0:Int)<=b/\b<(g:Int)) /\
 ∃f,h.cell? (i.add b.toNat)=Q (.int .u8 f) /\
 (((G J f)<128 ->
 ∀g i,Z5 h 5 #[.int .u8 (G .u8 (G J f))] g i ->
 Z1 i e (.bool I)/\∀j,Z3 i e (.bool I) j ->
 Z1 j (e.add 1) (.slice (Q g) 1 1)/\∀i,Z3 j (e.add 1) (.slice (Q g) 1 1) i ->
 Z1 i (e.add 2) (.slice V 0 0)/\∀g,Z3 i (e.add 2) (.slice V 0 0) g ->
 ∃i j k l m n o,g.cell? e=Q (.bool i) /\
 g.cell? (e.add 1)=Q (.slice j k l) /\
 g.cell? (e.add 2)=Q (.slice m n o) /\
 R (O (C #[.agg #[.bool i,.slice j k l,.slice m n o],.int J (G J (b+1))])) g) /\
 (¬(G J f)<128 ->
 ∃(g:Int->L->Prop),(((G J f)>=192 ->
 g 192 h) /\
 (¬(G J f)>=192 ->
 g 128 h)) /\
 (∀(h:Int)(i:Nat->JE)(i:L),g h i ->
 ∃(g:Int->Int->L->Prop),(((G J ((G J f)-h))>55 ->
 (((G J ((G J (b+1))+(G J ((G J ((G J f)-h))-55))))>c ->
 J6 U 133 #[J2 (Q a),.int J 41] i (fun j k =>
 ∃l m n o p q r s,j=O (C #[.agg #[.bool l,.slice m n o,.slice p q r],.int J s]) /\
 Z1 k e (.bool l)/\∀j,Z3 k e (.bool l) j ->
 Z1 j (e.add 1) (.slice m n o)/\∀k,Z3 j (e.add 1) (.slice m n o) k ->
 Z1 k (e.add 2) (.slice p q r)/\∀j,Z3 k (e.add 2) (.slice p q r) j ->
 ∃k l m n o p q,j.cell? e=Q (.bool k) /\
 j.cell? (e.add 1)=Q (.slice l m n) /\
 j.cell? (e.add 2)=Q (.slice o p q) /\
 R (O (C #[.agg #[.bool k,.slice l m n,.slice o p q],.int J s])) j)) /\
 (¬(G J ((G J (b+1))+(G J ((G J ((G J f)-h))-55))))>c ->
 ∃(j:Int->Int->L->Prop)(k:Int->Int->L->Nat),j 0 0 i /\
 (∀(l:Int)(m:Int)(n:Nat->JE)(n:L),j l m n ->
 ((m<(G J ((G J ((G J f)-h))-55)) ->
 ∃(o:Bool->L->Prop),((m<8 ->
 o (decide (l<=2147483648)) n) /\
 (¬m<8 ->
 o I n)) /\
 (∀(p:Bool)(q:Nat->JE)(q:L),o p q ->
 ((p=JI ->
 ∃o r s,q.cell? a=Q (.slice o r s) /\
 ∃s,o=Q s /\
 ((0:Int)<=(G J ((G J (b+1))+m))/\(G J ((G J (b+1))+m))<(r:Int)) /\
 ∃o,q.cell? (s.add (JQ (G J ((G J (b+1))+m))))=Q (.int .u8 o) /\
 j (G J ((G J (256*l))+(G J o))) (G J (m+1)) q/\k (G J ((G J (256*l))+(G J o))) (G J (m+1)) q<k l m n) /\
 (p=I ->
 j l (G J (m+1)) q/\k l (G J (m+1)) q<k l m n)))) /\
 (¬m<(G J ((G J ((G J f)-h))-55)) ->
 ∃j k m,n.cell? a=Q (.slice j k m) /\
 ∃m,j=Q m /\
 ((0:Int)<=(G J (b+1))/\(G J (b+1))<(k:Int)) /\
 ∃j,n.cell? (m.add (JQ (G J (b+1))))=Q (.int .u8 j) /\
 ((j=0 ->
 J6 U 133 #[J2 (Q a),.int J 40] n (fun k m =>
 ∃o p q r s t u v,k=O (C #[.agg #[.bool o,.slice p q r,.slice s t u],.int J v]) /\
 Z1 m e (.bool o)/\∀k,Z3 m e (.bool o) k ->
 Z1 k (e.add 1) (.slice p q r)/\∀m,Z3 k (e.add 1) (.slice p q r) m ->
 Z1 m (e.add 2) (.slice s t u)/\∀k,Z3 m (e.add 2) (.slice s t u) k ->
 ∃m o p q r s t,k.cell? e=Q (.bool m) /\
 k.cell? (e.add 1)=Q (.slice o p q) /\
 k.cell? (e.add 2)=Q (.slice r s t) /\
 R (O (C #[.agg #[.bool m,.slice o p q,.slice r s t],.int J v])) k)) /\
 (j≠0 ->
 ((l<56 ->
 J6 U 133 #[J2 (Q a),.int J 40] n (fun j k =>
 ∃m o p q r s t u,j=O (C #[.agg #[.bool m,.slice o p q,.slice r s t],.int J u]) /\
 Z1 k e (.bool m)/\∀j,Z3 k e (.bool m) j ->
 Z1 j (e.add 1) (.slice o p q)/\∀k,Z3 j (e.add 1) (.slice o p q) k ->
 Z1 k (e.add 2) (.slice r s t)/\∀j,Z3 k (e.add 2) (.slice r s t) j ->
 ∃k m o p q r s,j.cell? e=Q (.bool k) /\
 j.cell? (e.add 1)=Q (.slice m o p) /\
 j.cell? (e.add 2)=Q (.slice q r s) /\
 R (O (C #[.agg #[.bool k,.slice m o p,.slice q r s],.int J u])) j)) /\
 (¬l<56 ->
 ((l>2147483648 ->
 J6 U 133 #[J2 (Q a),.int J 40] n (fun j k =>
 ∃m o p q r s t u,j=O (C #[.agg #[.bool m,.slice o p q,.slice r s t],.int J u]) /\
 Z1 k e (.bool m)/\∀j,Z3 k e (.bool m) j ->
 Z1 j (e.add 1) (.slice o p q)/\∀k,Z3 j (e.add 1) (.slice o p q) k ->
 Z1 k (e.add 2) (.slice r s t)/\∀j,Z3 k (e.add 2) (.slice r s t) j ->
 ∃k m o p q r s,j.cell? e=Q (.bool k) /\
 j.cell? (e.add 1)=Q (.slice m o p) /\
 j.cell? (e.add 2)=Q (.slice q r s) /\
 R (O (C #[.agg #[.bool k,.slice m o p,.slice q r s],.int J u])) j)) /\
 (¬l>2147483648 ->
 g l (G J ((G J (b+1))+(G J ((G J ((G J f)-h))-55)))) n)))))))))))) /\
 (¬(G J ((G J f)-h))>55 ->
 g (G J ((G J f)-h)) (G J (b+1)) i)) /\
 (∀(b:Int)(f:Int)(i:Nat->JE)(i:L),g b f i ->
 ((b>(G J (c-f)) ->
 J6 U 133 #[J2 (Q a),.int J 41] i (fun g j =>
 ∃k l m n o p q r,g=O (C #[.agg #[.bool k,.slice l m n,.slice o p q],.int J r]) /\
 Z1 j e (.bool k)/\∀g,Z3 j e (.bool k) g ->
 Z1 g (e.add 1) (.slice l m n)/\∀j,Z3 g (e.add 1) (.slice l m n) j ->
 Z1 j (e.add 2) (.slice o p q)/\∀g,Z3 j (e.add 2) (.slice o p q) g ->
 ∃j k l m n o p,g.cell? e=Q (.bool j) /\
 g.cell? (e.add 1)=Q (.slice k l m) /\
 g.cell? (e.add 2)=Q (.slice n o p) /\
 R (O (C #[.agg #[.bool j,.slice k l m,.slice n o p],.int J r])) g)) /\
 (¬b>(G J (c-f)) ->
 ((h=128 ->
 ∃(c:L->Prop),((b=1 ->
 ∃g j k,i.cell? a=Q (.slice g j k) /\
 ∃k,g=Q k /\
 ((0:Int)<=f/\f<(j:Int)) /\
 ∃g,i.cell? (k.add f.toNat)=Q (.int .u8 g) /\
 ((g<128 ->
 J6 U 133 #[J2 (Q a),.int J 40] i (fun j k =>
 ∃l m n o p q r s,j=O (C #[.agg #[.bool l,.slice m n o,.slice p q r],.int J s]) /\
 Z1 k e (.bool l)/\∀j,Z3 k e (.bool l) j ->
 Z1 j (e.add 1) (.slice m n o)/\∀k,Z3 j (e.add 1) (.slice m n o) k ->
 Z1 k (e.add 2) (.slice p q r)/\∀j,Z3 k (e.add 2) (.slice p q r) j ->
 ∃k l m n o p q,j.cell? e=Q (.bool k) /\
 j.cell? (e.add 1)=Q (.slice l m n) /\
 j.cell? (e.add 2)=Q (.slice o p q) /\
 R (O (C #[.agg #[.bool k,.slice l m n,.slice o p q],.int J s])) j)) /\
 (¬g<128 ->
 c  i))) /\
 (b≠1 ->
 c  i)) /\
 (∀  (g:Nat->JE)(g:L),c  g ->
 ∃c j k,g.cell? a=Q (.slice c j k) /\
 ((0:Int)<=(G J (f+b))/\(G J (f+b))<=(k:Int)) /\
 ((0:Int)<=f/\f<=(((JQ (G J (f+b))):Nat):Int)) /\
 ∃j l,Sem.run U (builtinV .append #[23,23] 23 #[.slice V 0 0,.slice (subO c k f.toNat 1) ((JQ (G J (f+b)))-f.toNat) (k-f.toNat)]) g=.ok j l /\
 ∃c g k,j=(.slice c g k) /\
 Z1 l e (.bool I)/\∀j,Z3 l e (.bool I) j ->
 Z1 j (e.add 1) (.slice c g k)/\∀l,Z3 j (e.add 1) (.slice c g k) l ->
 Z1 l (e.add 2) (.slice V 0 0)/\∀c,Z3 l (e.add 2) (.slice V 0 0) c ->
 ∃g j k l m n o,c.cell? e=Q (.bool g) /\
 c.cell? (e.add 1)=Q (.slice j k l) /\
 c.cell? (e.add 2)=Q (.slice m n o) /\
 R (O (C #[.agg #[.bool g,.slice j k l,.slice m n o],.int J (G J (f+b))])) c)) /\
 (h≠128 ->
 ∀c g,Z5 i 111 #[.bool I,.slice V 0 0,.slice V 0 0] c g ->
 Z1 g c (.bool JI)/\∀h,Z3 g c (.bool JI) h ->
 Z1 h (c.add 1) (.slice V 0 0)/\∀g,Z3 h (c.add 1) (.slice V 0 0) g ->
 Z1 g (c.add 2) (.slice V 0 0)/\∀h,Z3 g (c.add 2) (.slice V 0 0) h ->
 ∃(g:L->Prop),(∃(i:Int->L->Prop)(j:Int->L->Nat),i f h /\
 (∀(h:Int)(k:Nat->JE)(k:L),i h k ->
 ((h<(G J (f+b)) ->
 ∃l,k.cell? (a.add 2)=Q (.int J l) /\
 ((l=0 ->
 J6 U 117 #[J2 (Q a),.int J h,.int J (G J (f+b)),.int J (G J (d+1))] k (fun d m =>
 ∃n o p q r s t u,d=O (C #[.agg #[.bool n,.slice o p q,.slice r s t],.int J u]) /\
 ∀d v,Z5 m 111 #[.bool I,.slice V 0 0,.slice V 0 0] d v ->
 Z1 v d (.bool n)/\∀m,Z3 v d (.bool n) m ->
 Z1 m (d.add 1) (.slice o p q)/\∀n,Z3 m (d.add 1) (.slice o p q) n ->
 Z1 n (d.add 2) (.slice r s t)/\∀m,Z3 n (d.add 2) (.slice r s t) m ->
 ∃n o p,m.cell? (c.add 2)=Q (.slice n o p) /\
 ∃q r s t v x y,m.cell? d=Q (.bool q) /\
 m.cell? (d.add 1)=Q (.slice r s t) /\
 m.cell? (d.add 2)=Q (.slice v x y) /\
 ∀d z,Z5 m 111 #[.bool q,.slice r s t,.slice v x y] d z ->
 ∃m q,Sem.run U (builtinV .append #[109,109] 109 #[.slice n o p,.slice (Q d) 1 1]) z=.ok m q /\
 ∃d n o,m=(.slice d n o) /\
 Z1 q (c.add 2) (.slice d n o)/\∀m,Z3 q (c.add 2) (.slice d n o) m ->
 i u m/\j u m<j h k)) /\
 (l≠0 ->
 g  k))) /\
 (¬h<(G J (f+b)) ->
 g  k)))) /\
 (∀  (d:Nat->JE)(d:L),g  d ->
 ∃g,d.cell? (a.add 2)=Q (.int J g) /\
 ((g≠0 ->
 Z1 d e (.bool I)/\∀a,Z3 d e (.bool I) a ->
 Z1 a (e.add 1) (.slice V 0 0)/\∀h,Z3 a (e.add 1) (.slice V 0 0) h ->
 Z1 h (e.add 2) (.slice V 0 0)/\∀a,Z3 h (e.add 2) (.slice V 0 0) a ->
 ∃h i j k l m n,a.cell? e=Q (.bool h) /\
 a.cell? (e.add 1)=Q (.slice i j k) /\
 a.cell? (e.add 2)=Q (.slice l m n) /\
 R (O (C #[.agg #[.bool h,.slice i j k,.slice l m n],.int J 0])) a) /\
 (g=0 ->
 ∃a g h i j k l,d.cell? c=Q (.bool a) /\
 d.cell? (c.add 1)=Q (.slice g h i) /\
 d.cell? (c.add 2)=Q (.slice j k l) /\
 Z1 d e (.bool a)/\∀c,Z3 d e (.bool a) c ->
 Z1 c (e.add 1) (.slice g h i)/\∀a,Z3 c (e.add 1) (.slice g h i) a ->
 Z1 a (e.add 2) (.slice j k l)/\∀c,Z3 a (e.add 2) (.slice j k l) c ->
 ∃a d g h i j k,c.cell? e=Q (.bool a) /\
 c.cell? (e.add 1)=Q (.slice d g h) /\
 c.cell? (e.add 2)=Q (.slice i j k) /\
 R (O (C #[.agg #[.bool a,.slice d g h,.slice i j k],.int J (G J (f+b))])) c)))))))))))))))))
theorem ZV.vc(a b c d w R)(h:ZV.Vc a b c d w R):J6 U 117 #[(J2 (Q a)),(.int J b),(.int J c),(.int J d)] w R:=xs [(1000012,[(11,.cell (.int J))]),(1000026,[(12,.cell (.int J)),(13,.cell (.int J))]),(19,[(12,.cell (.int J)),(15,.cell (.int J))]),(1000022,[(93,.cell (.bool))]),(1000032,[]),(1000038,[]),(34,[(13,.cell (.int J))])] [.addr a,.int J b,.int J c,.int J d] Tryz.func117 ZI (by kernel_rfl) h
abbrev ZR.n:Nat:=133
def ZR.Vc(a:Addr)(b:Int)(w:L)(R:JN->L->Prop):Prop :=
 ∀c d,Z5 w 111 #[.bool I,.slice V 0 0,.slice V 0 0] c d ->
 ∃e,d.cell? (a.add 2)=Q (.int J e) /\
 ((e=0 ->
 Z1 d (a.add 2) (.int J b)/\∀f,Z3 d (a.add 2) (.int J b) f ->
 Z1 f c (.bool I)/\∀a,Z3 f c (.bool I) a ->
 Z1 a (c.add 1) (.slice V 0 0)/\∀b,Z3 a (c.add 1) (.slice V 0 0) b ->
 Z1 b (c.add 2) (.slice V 0 0)/\∀a,Z3 b (c.add 2) (.slice V 0 0) a ->
 ∃b f g h i j k,a.cell? c=Q (.bool b) /\
 a.cell? (c.add 1)=Q (.slice f g h) /\
 a.cell? (c.add 2)=Q (.slice i j k) /\
 R (O (C #[.agg #[.bool b,.slice f g h,.slice i j k],.int J 0])) a) /\
 (e≠0 ->
 Z1 d c (.bool I)/\∀a,Z3 d c (.bool I) a ->
 Z1 a (c.add 1) (.slice V 0 0)/\∀b,Z3 a (c.add 1) (.slice V 0 0) b ->
 Z1 b (c.add 2) (.slice V 0 0)/\∀a,Z3 b (c.add 2) (.slice V 0 0) a ->
 ∃b d e f g h i,a.cell? c=Q (.bool b) /\
 a.cell? (c.add 1)=Q (.slice d e f) /\
 a.cell? (c.add 2)=Q (.slice g h i) /\
 R (O (C #[.agg #[.bool b,.slice d e f,.slice g h i],.int J 0])) a))
theorem ZR.vc(a b w R)(h:ZR.Vc a b w R):J6 U 133 #[(J2 (Q a)),(.int J b)] w R:=xs [] [.addr a,.int J b] Tryz.func133 ZI (by kernel_rfl) h
abbrev Z0u.n:Nat:=79
def Z0u.Vc(a:Bool)(b:Option Addr)(c d:Nat)(e:Option Addr)(f g:Nat)(w:L)(R:JN->L->Prop):Prop :=
 ∀h i,Z5 w 111 #[.bool a,.slice b c d,.slice e f g] h i ->
 ∃a,i.cell? h=Q (.bool a) /\
 ((a=I ->
 ∃b c d,i.cell? (h.add 1)=Q (.slice b c d) /\
 J6 U 109 #[.slice b c d] i (fun b c =>
 ∃d e f,b=O (.slice d e f) /\
 R (O (.slice d e f)) c)) /\
 (a=JI ->
 ∃(a:Option Addr->Nat->Nat->Int->L->Prop)(b:Option Addr->Nat->Nat->Int->L->Nat),a V 0 0 0 i /\
 (∀(c:Option Addr)(d:Nat)(e:Nat)(f:Int)(g:Nat->JE)(g:L),a c d e f g ->
 ∃i j k,g.cell? (h.add 2)=Q (.slice i j k) /\
 ((f<(j:Int) ->
 (((d:Int)<=65536 ->
 ∃i k l,g.cell? (h.add 2)=Q (.slice i k l) /\
 ∃h,i=Q h /\
 ((0:Int)<=f/\f<(k:Int)) /\
 ∃i k l m n o p,g.cell? (h.add (f.toNat*3))=Q (.bool i) /\
 g.cell? ((h.add (f.toNat*3)).add 1)=Q (.slice k l m) /\
 g.cell? ((h.add (f.toNat*3)).add 2)=Q (.slice n o p) /\
 J6 U 79 #[.agg #[.bool i,.slice k l m,.slice n o p]] g (fun h i =>
 ∃k l m,h=O (.slice k l m) /\
 ∃h n,Sem.run U (builtinV .append #[23,23] 23 #[.slice c d e,.slice k l m]) i=.ok h n /\
 ∃i k l,h=(.slice i k l) /\
 a i k l (G J (f+1)) n/\b i k l (G J (f+1)) n<b c d e f g)) /\
 (¬(d:Int)<=65536 ->
 J6 U 89 #[.slice c d e] g (fun a b =>
 ∃h i k,a=O (.slice h i k) /\
 R (O (.slice h i k)) b)))) /\
 (¬f<(j:Int) ->
 J6 U 89 #[.slice c d e] g (fun a b =>
 ∃c d e,a=O (.slice c d e) /\
 R (O (.slice c d e)) b))))))
theorem Z0u.vc(a b c d e f g w R)(h:Z0u.Vc a b c d e f g w R):J6 U 79 #[(.agg #[(.bool a),(.slice b c d),(.slice e f g)])] w R:=xs [(5,[(3,.cell (.slice)),(4,.cell (.int J))])] [.agg [.bool (.var a),.slice b c d,.slice e f g]] Tryz.func79 ZI (by kernel_rfl) h
end Go.Proofs.YtfghidehlnfdiaaGreat
end
section
namespace Go.Proofs.YtfghidehlnfdiaaGreat
open Go Go.Vcg Go.Trie
def sg(B:By)(i j:Nat):By:=(B.drop i).take (j-i)
theorem ZDX{B:By}{i j:Nat}(h:j<=B.length):(sg B i j).length=j-i:=by unfold sg;rw[JG,J0];omega
theorem ZDW{B:By}{i j t:Nat}(h:i+t<j):(sg B i j).getD t 0=B.getD (i+t) 0:=by
 unfold sg;simp only[J4];rw[JL (by omega),List.getElem?_drop]
theorem ZEm{B:By}{i j a q:Nat}(h:i+a+q<=j):((sg B i j).drop a).take q=sg B (i+a) (i+a+q):=by
 unfold sg;rw[JS,JT,List.take_take];congr 1;omega
theorem ZDV{B:By}{i j a:Nat}:(sg B i j).drop a=sg B (i+a) j:=by
 unfold sg;rw[JS,JT];congr 1;omega
theorem ZFw(B:By)(i:Nat):sg B i i=[]:=by simp[sg]
theorem ZEl{B:By}{i:Nat}(h:i<B.length):sg B i (i+1)=[B.getD i 0]:=by
 unfold sg;rw[JF,List.drop_eq_getElem_cons h,List.take_succ_cons,List.take_zero,J4,JK h];rfl
section
variable{w:L}{D n:Nat}{S:JE}
theorem ZAS(X:Blk w D 187 #[S,.int J (n:Int),.int J 0])(x:Int) :
  J6 U ZR.n #[J2 (Q ⟨D,0,V⟩),.int J x] w (fun e w'=>e=O (C #[.agg #[.bool I,.slice V 0 0,.slice V 0 0],.int J 0])/\Vcg.Mod (·=D) w w'/\Blk w' D 187 #[S,.int J (n:Int),.int J x]):=by
 refine ZR.vc _ _ _ _ ?_;unfold ZR.Vc;have hD:=X.lt;rintro d1 w1⟨rfl,rfl⟩;have M1:Vcg.Mod NoB w _:=Mod.alloc w (T #[.bool I,.slice V 0 0,.slice V 0 0] 111);have Y1:=Blk.new w 111 #[.bool I,.slice V 0 0,.slice V 0 0];have X1:=X.mod' M1;generalize hN:w.heap.size=N at *
 generalize w.alloc (T #[.bool I,.slice V 0 0,.slice V 0 0] 111)=w1 at *
 refine⟨0,by rw[Z2];exact X1.rd1 rfl,fun _=>?_,fun h=>(h rfl).elim⟩;rw[Z2];refine⟨X1.canSet (by simp) rfl,?_⟩;rintro _ rfl;have X2:=X1.set 2 (.int J x);have Y2:=Y1.set_ne (a:=⟨D,0+2,V⟩) (v:=.int J x) (by simp;omega);have M2:Vcg.Mod (·=D) w _:=(M1.mono (fun _ _ h=>h.elim)).step_set (a:=⟨D,0+2,V⟩) (v:=.int J x) (fun _=>rfl);exact Z0z Y2 (fun w3 M3=>⟨rfl,M2.trans M3 (fun i hi h=>by omega),X2.mod M3 (by omega)⟩)
end
def RdIs(r:Except Int (It×Nat×Nat))(S:JE)(i:Nat)(w:L)(D:Nat)(e:JN)(w':L):Prop:=match r with
 | JD x=>x≠0/\e=O (C #[.agg #[.bool I,.slice V 0 0,.slice V 0 0],.int J 0])/\∃n':Nat,Blk w' D 187 #[S,.int J (n':Int),.int J x]
 | .ok (x,q,m)=>Blk w' D 187 #[S,.int J (m:Int),.int J 0]/\∃v1 v2 v3,e=O (C #[.agg #[v1,v2,v3],.int J ((i+q:Nat):Int)])/\ItC (fun b=>b<w.heap.size) w' x v1 v2 v3
theorem Z9Z(A:Nat->Prop)(w:L):ItC A w (.s []) (.bool I) (.slice V 0 0) (.slice V 0 0):=by
 simp only[ItC];exact⟨trivial,⟨V,0,rfl,RdB.nil _ _,fun h=>(h rfl).elim⟩,trivial⟩
def CapIs(v:Int)(b:By):Prop:=0<=v/\v<=1099511627776/\(v=(be b:Int)\/(v>2147483648/\be b>2147483648))
set_option maxHeartbeats 2000000 in
set_option maxRecDepth 10000 in
theorem Z7n:∀(f d n i j:Nat) (B:By) {w:L} {D k:Nat} {o:Option Addr},2*(j-i)+1<=f->i<=j->j<=B.length->B.length<=65536->RdB w o B->B.length<=k->Blk w D 187 #[.slice o B.length k,.int J (n:Int),.int J 0]->(B≠[]->Off (·=D) o)->n<=4096->d<=20 ->
  J6 U ZV.n #[J2 (Q ⟨D,0,V⟩),.int J (i:Int),.int J (j:Int),.int J (d:Int)] w (fun e w'=>Vcg.Mod (·=D) w w'/\RdIs (dcd f d n (sg B i j)) (.slice o B.length k) i w D e w')
 |0,_,_,_,_,_,_,_,_,_,hf,_,_,_,_,_,_,_,_,_=>absurd hf (by omega)
 |f+1,d,n,i,j,B,w,D,k,o,hf,hij,hjB,hlen,hr,hk,W,hoff,hn,hd20=>by
  refine Z9 fun R hR=>ZV.vc _ _ _ _ _ _ ?_;unfold ZV.Vc;have hD:=W.lt;rintro d3 w1⟨rfl,rfl⟩;have M1:Vcg.Mod NoB w _:=Mod.alloc w (T #[.bool I,.slice V 0 0,.slice V 0 0] 111);have X1:=Blk.new w 111 #[.bool I,.slice V 0 0,.slice V 0 0];have hs1:=Z6 w (T #[.bool I,.slice V 0 0,.slice V 0 0] 111);have W1:=W.mod' M1;have hr1:=hr.mod' M1;generalize hN:w.heap.size=N at *
  generalize w.alloc (T #[.bool I,.slice V 0 0,.slice V 0 0] 111)=w1 at *
  have M1':Vcg.Mod (·=D) w w1:=M1.mono (fun _ _ h=>h.elim);generalize hS:Value.slice o B.length k=S at *
  have hbl:(sg B i j).length=j-i:=ZDX hjB
  have bad:∀(w':L)(n':Nat)(a b c:JE)(x:Int),Vcg.Mod (·=D) w w'->Blk w' D 187 #[S,.int J (n':Int),.int J 0]->Blk w' N 111 #[a,b,c]->dcd (f+1) d n (sg B i j)=JD x->x≠0 ->
    J6 U 133 #[J2 (Q ⟨D,0,V⟩),.int J x] w' (fun e w''=>e=O (C #[.agg #[.bool I,.slice V 0 0,.slice V 0 0],.int J 0])/\Blk w'' N 111 #[a,b,c] /\
     ∀w3,Vcg.Mod (·=N) w'' w3->R (O (C #[.agg #[.bool I,.slice V 0 0,.slice V 0 0],.int J 0])) w3):=by
   intro w' n' a b c x M X' Y hx h0;refine(ZAS X' x).mono ?_;rintro _ w2⟨rfl,M2,X2⟩;refine⟨rfl,Y.mod M2 (by omega),fun w3 M3=>hR _ _ ⟨(M.trans M2 (fun i hi h=>h)).trans M3 (fun i hi h=>by omega),?_⟩⟩;rw[hx];exact⟨h0,rfl,n',X2.mod M3 (by omega)⟩
  refine⟨fun h0=>?_,fun h0=>?_⟩
  ·have hb:sg B i j=[]:=J8 (by omega)
   refine(bad w1 n _ _ _ 41 M1' W1 X1 (by rw[hb];exact ZAN f d n) (by decide)).mono ?_;rintro _ w2⟨rfl,X2,h2⟩;exact⟨_,_,_,_,_,_,_,_,rfl,Z0z X2 h2⟩
  have hlt:i<j:=by omega
  have hbne:sg B i j≠[]:=fun h=>by rw[h]at hbl;simp at hbl;omega
  have hBne:B≠[]:=by rintro rfl;simp at hjB;omega
  refine⟨fun hdeep=>?_,fun hdeep=>⟨_,by rw[Z2];exact W1.rd1 rfl,fun hful=>?_,fun hful=>⟨_,by rw[Z2];exact W1.rd1 rfl,?_⟩⟩⟩
  ·refine(bad w1 n _ _ _ 43 M1' W1 X1 (Z68 hbne (JJ (by omega))) (by decide)).mono ?_
   rintro _ w2⟨rfl,X2,h2⟩;exact⟨_,_,_,_,_,_,_,_,rfl,Z0z X2 h2⟩
  ·refine(bad w1 n _ _ _ 43 M1' W1 X1 (Z68 hbne (JM (by omega))) (by decide)).mono ?_
   rintro _ w2⟨rfl,X2,h2⟩;exact⟨_,_,_,_,_,_,_,_,rfl,Z0z X2 h2⟩
  have ewn:G J ((n:Int)+1)=((n+1:Nat):Int):=by rw[Z0 (by omega) (by omega)];omega
  rw[ewn,Z2];refine⟨W1.canSet (by simp) rfl,?_⟩;rintro _ rfl;have W2:=W1.set 1 (.int J ((n+1:Nat):Int));have X2:=X1.set_ne (a:=⟨D,0+1,V⟩) (v:=.int J ((n+1:Nat):Int)) (by simp;omega);have M2:Vcg.Mod (·=D) w _:=M1'.step_set (a:=⟨D,0+1,V⟩) (v:=.int J ((n+1:Nat):Int)) (fun _=>rfl);have hr2:RdB _ o B:=hr1.mod (Mod.setCell w1 ⟨D,0+1,V⟩ (.int J ((n+1:Nat):Int))) (hoff hBne);have hs2:(w1.setCell ⟨D,0+1,V⟩ (.int J ((n+1:Nat):Int))).heap.size=N+1:=by rw[Z3y];exact hs1
  generalize w1.setCell ⟨D,0+1,V⟩ (.int J ((n+1:Nat):Int))=w2 at *
  clear X1 W1 hr1 M1 M1' hs1;subst hS;have hN2:∀{w':L},Vcg.Mod (·=D) w w'->RdB w' o B:=fun M=>hr.mod M (hoff hBne);obtain⟨b0,f0,rfl,hb0,hcells⟩:=hr2 hBne
  have hb0N:b0<N:=by
   obtain⟨b1,f1,h1,h2,_⟩:=hr hBne;cases h1;omega
  have cell:∀{w':L},Vcg.Mod (·=D) w w'->∀t,t<B.length->w'.cell? ⟨b0,f0+t,V⟩=Q (bV (B.getD t 0)):=fun M t ht=>by
   obtain⟨b1,f1,h1,h2,h3⟩:=hN2 M hBne;cases h1;exact h3 t ht
  have hdn:¬(d>16\/n=4096):=by omega
  have hdec:=ZCj (f:=f) hbne hdn;have hg0:(sg B i j).getD 0 0=B.getD i 0:=by rw[ZDW (by omega),JX]
  generalize hcv:(B.getD i 0).toNat=c at *
  have hc255:c<=255:=by have:=(B.getD i 0).toNat_lt;omega
  refine⟨_,_,_,W2.rd1 rfl,_,rfl,⟨by omega,by omega⟩,(c:Int),by rw[Z2,J1];have:=cell M2 i (by omega);simp only[bV,hcv]at this;exact this,?_⟩;have ec:G J (c:Int)=(c:Int):=Z0 (by omega) (by omega);have ei1:G J ((i:Int)+1)=((i+1:Nat):Int):=by rw[Z0 (by omega) (by omega)];omega
  rw[ec,ei1]
  have hhd:hd (sg B i j)=(if c<128 then .ok (I,0,1,JI)else
   if c-(if c>=192 then 192 else 128)<=55 then .ok (decide (c>=192),1,c-(if c>=192 then 192 else 128),I)
   else if j-i<1+(c-(if c>=192 then 192 else 128)-55)then JD 41
   else if(sg B i j).getD 1 0=0\/be (((sg B i j).drop 1).take (c-(if c>=192 then 192 else 128)-55))<=55\/be (((sg B i j).drop 1).take (c-(if c>=192 then 192 else 128)-55))>2147483648 then JD 40
   else .ok (decide (c>=192),1+(c-(if c>=192 then 192 else 128)-55),be (((sg B i j).drop 1).take (c-(if c>=192 then 192 else 128)-55)),I)):=by
   unfold hd;simp only[hg0,hcv,hbl]
  refine⟨fun hc=>?_,fun hc=>?_⟩
  ·rw[show hd (sg B i j)=.ok (I,0,1,JI) by rw[hhd,if_pos (by omega)]]at hdec
   simp only at hdec;rw[if_neg (by omega),if_pos trivial,if_neg (fun h=>by exact absurd h.1 (by decide))]at hdec;have e8:G .u8 (c:Int)=(c:Int):=by rw[Z8q];omega
   rw[e8];rintro d4 w3⟨rfl,rfl⟩;have M23:Vcg.Mod NoB w2 _:=Mod.alloc w2 (T #[.int .u8 (c:Int)] 5);have Z:=Blk.new w2 5 #[.int .u8 (c:Int)];refine Z0z (X2.mod' M23) (fun w4 M4=>hR _ _ ⟨(M2.none_trans M23).trans M4 (fun i hi h=>by omega),?_⟩);rw[hdec];refine⟨(W2.mod' M23).mod M4 (by omega),_,_,_,rfl,?_⟩
   have e1:((sg B i j).drop 0).take 1=[B.getD i 0]:=by
    rw[ZEm (by omega),JX];exact ZEl (by omega)
   rw[e1];simp only[ItC];refine⟨trivial,⟨_,_,rfl,RdB.of_blk (Z.mod M4 (by omega)) (fun t ht=>?_),fun _ dd hdd h=>?_⟩,trivial⟩
   ·simp only[J5]at ht
    obtain rfl:t=0:=by omega
    simp only[J9,bV,List.getD_cons_zero,hcv];rfl
   ·cases hdd
    have h':w2.heap.size<w.heap.size:=h;omega
  generalize hbase:(if c>=192 then 192 else 128)=base at *
  have hb1:128<=base/\base<=c:=by rw[<-hbase];split<;>omega
  have hkk8:c-base-55<=8:=by rw[<-hbase];split<;>omega
  rw[if_neg (by omega)]at hhd;refine⟨fun v w'=>w'=w2/\v=(base:Int),⟨fun h=>⟨rfl,?_⟩,fun h=>⟨rfl,?_⟩⟩,?_⟩
  ·rw[<-hbase,if_pos (by omega)];rfl
  ·rw[<-hbase,if_neg (by omega)];rfl
  rintro _ _ w2⟨rfl,rfl⟩;have ecb:G J ((c:Int)-(base:Int))=((c-base:Nat):Int):=by rw[Z0 (by omega) (by omega)];omega
  rw[ecb];refine⟨fun v t w'=>w'=w2/\∃a q:Nat,hd (sg B i j)=.ok (decide (c>=192),a,q,I)/\v=(q:Int)/\t=((i+a:Nat):Int)/\1<=a/\a<=j-i,⟨fun hgt=>?_,fun hle=>?_⟩,?_⟩
  ·have e55:G J (((c-base:Nat):Int)-55)=((c-base-55:Nat):Int):=by rw[Z0 (by omega) (by omega)];omega
   rw[e55];rw[if_neg (by omega)]at hhd;generalize hkk:c-base-55=kk at *
   have efk:G J (((i+1:Nat):Int)+(kk:Int))=((i+1+kk:Nat):Int):=by rw[Z0 (by omega) (by omega)];omega
   rw[efk];refine⟨fun hsh=>?_,fun hsh=>?_⟩
   ·rw[if_pos (by omega)]at hhd
    rw[hhd]at hdec;refine(bad w2 (n+1) _ _ _ 41 M2 W2 X2 hdec (by decide)).mono ?_;rintro _ w3⟨rfl,X3,h3⟩;exact⟨_,_,_,_,_,_,_,_,rfl,Z0z X3 h3⟩
   rw[if_neg (by omega)]at hhd;refine⟨fun v t w'=>w'=w2/\∃u:Nat,t=(u:Int)/\u<=kk/\CapIs v (((sg B i j).drop 1).take u),fun _ t _=>((kk:Int)-t).toNat,⟨rfl,0,rfl,JY _,by decide,by decide,JJ (by simp[be])⟩,?_⟩;rintro v _ _ w2⟨rfl,u,rfl,hu,hv0,hv1,hv⟩;have ew:G J ((u:Int)+1)=((u+1:Nat):Int):=by rw[Z0 (by omega) (by omega)];omega
   refine⟨fun hlt=>?_,fun hge=>?_⟩
   ·have huk:u<kk:=by omega
    have hstep:=ZCb (sg B i j) (j:=u) (by omega);have hgu:((sg B i j).drop 1).getD u 0=B.getD (i+1+u) 0:=by rw[ZDV,ZDW (by omega)]
    rw[hgu]at hstep;refine⟨fun b w'=>w'=w2/\b=decide (v<=2147483648),⟨fun _=>⟨rfl,rfl⟩,fun h8=>by omega⟩,?_⟩;rintro _ _ w2⟨rfl,rfl⟩;rw[ew];have efu:G J (((i+1:Nat):Int)+(u:Int))=((i+1+u:Nat):Int):=by rw[Z0 (by omega) (by omega)];omega
    rw[efu];refine⟨fun hb=>?_,fun hb=>?_⟩
    ·have hvle:=of_decide_eq_true hb
     have hvbe:v=(be (((sg B i j).drop 1).take u):Int):=by
      rcases hv with h|h
      ·exact h
      ·omega
     have c1:=cell M2 (i+1+u) (by omega);have hd256:=(B.getD (i+1+u) 0).toNat_lt;refine⟨_,_,_,W2.rd1 rfl,_,rfl,⟨by omega,by omega⟩,((B.getD (i+1+u) 0).toNat:Int),by rw[Z2,J1];exact c1,?_⟩
     have ev:G J ((G J (256*v))+(G J ((B.getD (i+1+u) 0).toNat:Int)))=((be (((sg B i j).drop 1).take (u+1)):Nat):Int):=by
      rw[Z0 (n:=256*v) (by omega) (by omega),Z0 (n:=((B.getD (i+1+u) 0).toNat:Int)) (by omega) (by omega),Z0 (by omega) (by omega),hstep];omega
     rw[ev];exact⟨⟨rfl,u+1,rfl,huk,by omega,by omega,JJ rfl⟩,by dsimp only;omega⟩
    ·have hvgt:=of_decide_eq_false hb
     exact⟨⟨rfl,u+1,rfl,huk,hv0,hv1,JM ⟨by omega,by omega⟩⟩,by dsimp only;omega⟩
   ·obtain rfl:u=kk:=by omega
    have c1:=cell M2 (i+1) (by omega);have hg1:(sg B i j).getD 1 0=B.getD (i+1) 0:=ZDW (by omega);rw[hg1]at hhd;refine⟨_,_,_,W2.rd1 rfl,_,rfl,⟨by omega,by omega⟩,((B.getD (i+1) 0).toNat:Int),by rw[Z2,J1];exact c1,fun hz=>?_,fun hz=>⟨fun h56=>?_,fun h56=>⟨fun hbig=>?_,fun hbig=>?_⟩⟩⟩
    ·have hz0:B.getD (i+1) 0=0:=UInt8.toNat_inj.1 (by simpa using hz)
     rw[if_pos (JJ hz0)]at hhd;rw[hhd]at hdec;refine(bad w2 (n+1) _ _ _ 40 M2 W2 X2 hdec (by decide)).mono ?_;rintro _ w3⟨rfl,X3,h3⟩;exact⟨_,_,_,_,_,_,_,_,rfl,Z0z X3 h3⟩
    ·rw[if_pos (JM (JJ (by omega)))]at hhd
     rw[hhd]at hdec;refine(bad w2 (n+1) _ _ _ 40 M2 W2 X2 hdec (by decide)).mono ?_;rintro _ w3⟨rfl,X3,h3⟩;exact⟨_,_,_,_,_,_,_,_,rfl,Z0z X3 h3⟩
    ·rw[if_pos (JM (JM (by omega)))]at hhd
     rw[hhd]at hdec;refine(bad w2 (n+1) _ _ _ 40 M2 W2 X2 hdec (by decide)).mono ?_;rintro _ w3⟨rfl,X3,h3⟩;exact⟨_,_,_,_,_,_,_,_,rfl,Z0z X3 h3⟩
    ·have hnz:¬B.getD (i+1) 0=0:=fun h=>hz (by rw[h];rfl)
     rw[if_neg (fun h=>h.elim hnz (fun h=>h.elim (fun h=>by omega) (fun h=>by omega)))]at hhd;exact⟨rfl,1+u,_,hhd,by omega,by omega,by omega,by omega⟩
  ·rw[if_pos (by omega)]at hhd
   exact⟨rfl,1,c-base,hhd,rfl,rfl,J7 _,by omega⟩
  ·clear hhd
   rintro _ _ _ w2⟨rfl,a,q,hh,rfl,rfl,ha1,haj⟩;rw[hh]at hdec;simp only at hdec;have hq31:=ZBM hh;have ejf:G J ((j:Int)-((i+a:Nat):Int))=((j-(i+a):Nat):Int):=by rw[Z0 (by omega) (by omega)];omega
   have eto:G J (((i+a:Nat):Int)+(q:Int))=((i+a+q:Nat):Int):=by rw[Z0 (by omega) (by omega)];omega
   rw[ejf];refine⟨fun hbig=>?_,fun hbig=>?_⟩
   ·rw[if_pos (by omega)]at hdec
    refine(bad w2 (n+1) _ _ _ 41 M2 W2 X2 hdec (by decide)).mono ?_;rintro _ w3⟨rfl,X3,h3⟩;exact⟨_,_,_,_,_,_,_,_,rfl,Z0z X3 h3⟩
   rw[if_neg (by omega)]at hdec;have hq:i+a+q<=j:=by omega
   rw[ZEm hq]at hdec;rw[eto];have hil:(sg B (i+a) (i+a+q)).length=q:=by rw[ZDX (by omega)];omega
   refine⟨fun h128=>?_,fun h128=>?_⟩
   ·have hc192:¬c>=192:=fun h=>by rw[if_pos h]at hbase;omega
    rw[if_pos (decide_eq_false hc192)]at hdec;refine⟨fun w'=>w'=w2/\Trie.own (sg B (i+a) (i+a+q))=I,⟨fun h1=>?_,fun h1=>⟨rfl,?_⟩⟩,?_⟩
    ·have c1:=cell M2 (i+a) (by omega)
     have e1:sg B (i+a) (i+a+q)=[B.getD (i+a) 0]:=by
      rw[show i+a+q=i+a+1 by omega];exact ZEl (by omega)
     refine⟨_,_,_,W2.rd1 rfl,_,rfl,⟨by omega,by omega⟩,((B.getD (i+a) 0).toNat:Int),by rw[Z2,J1];exact c1,fun hlt=>?_,fun hlt=>⟨rfl,?_⟩⟩
     ·have ho:Trie.own (sg B (i+a) (i+a+q))=JI:=by
        rw[e1];simp only[Trie.own,decide_eq_true_eq];rw[UInt8.lt_iff_toNat_lt];show _<128;omega
      rw[if_pos ⟨trivial,ho⟩]at hdec;refine(bad w2 (n+1) _ _ _ 40 M2 W2 X2 hdec (by decide)).mono ?_;rintro _ w3⟨rfl,X3,h3⟩;exact⟨_,_,_,_,_,_,_,_,rfl,Z0z X3 h3⟩
     ·rw[e1]
      simp only[Trie.own,decide_eq_false_iff_not];rw[UInt8.lt_iff_toNat_lt];show ¬_<128;omega
    ·have hq1:q≠1:=by omega
     cases h:sg B (i+a) (i+a+q)with
     |nil=>rfl
     |cons x r =>
      cases r with
      |nil=>rw[h]at hil;simp at hil;omega
      |cons y r=>rfl
    ·rintro _ w2⟨rfl,hown⟩
     rw[if_neg (fun h=>by rw[hown]at h;exact absurd h.2 (by decide))]at hdec;have hsub:=((hN2 M2).sub (c:=k) (lo:=i+a) (n:=q) hk);rw[show(B.drop (i+a)).take q=sg B (i+a) (i+a+q) by unfold sg;rw[JF]]at hsub;obtain⟨o5,k5,w5,hr5,F5⟩:=Z3F (k2:=k-(i+a)) (ty:=23) (Mod.refl w2) hsub (by omega);rw[hil]at hr5 F5;simp only[J1];refine⟨_,_,_,W2.rd1 rfl,⟨by omega,by omega⟩,⟨by omega,by omega⟩,_,w5,by rw[show i+a+q-(i+a)=q by omega];exact hr5,_,_,_,rfl,Z0z (X2.mod' F5.mod) (fun w6 M6=>hR _ _ ⟨(M2.none_trans F5.mod).trans M6 (fun i hi h=>by omega),?_⟩)⟩;rw[hdec];refine⟨(W2.mod' F5.mod).mod M6 (by omega),_,_,_,by rw[JU],?_⟩;simp only[ItC];have hN5:∀b,OB o5 b->¬b=N:=fun b hb h=>by have:=F5.new b hb;omega
     refine⟨trivial,⟨o5,k5,by rw[hil],(F5.own.mod M6 hN5).bytes,fun _ dd hdd h=>?_⟩,trivial⟩;have:=F5.new dd.block ⟨dd,hdd,rfl⟩;have h':dd.block<w.heap.size:=h;omega
   ·have hc192:c>=192:=by
      rcases Nat.lt_or_ge c 192 with h|h
      ·rw[if_neg (by omega)]at hbase;omega
      ·exact h
    rw[if_neg (by rw[decide_eq_true hc192];decide)]at hdec;rintro dX w6⟨rfl,rfl⟩;have Y6:=Blk.new w2 111 #[.bool I,.slice V 0 0,.slice V 0 0];have M26:Vcg.Mod NoB w2 _:=Mod.alloc w2 (T #[.bool I,.slice V 0 0,.slice V 0 0] 111);have hs6:=Z6 w2 (T #[.bool I,.slice V 0 0,.slice V 0 0] 111);generalize hY:w2.heap.size=Y at *
    generalize w2.alloc (T #[.bool I,.slice V 0 0,.slice V 0 0] 111)=w6 at *
    refine Z65 Y6 rfl rfl rfl (fun w7 Y7 Q7=>?_);have M27:Vcg.Mod NoB w2 w7:=ZC M26 Q7 (by omega);have X7:=X2.mod' M27;have W7:=W2.mod' M27;have M07:=M2.none_trans M27;have hs7:=M27.size;have hY7:=Y7.lt;clear X2 W2 Y6 M26 Q7 cell hcells hr2
    let good:Int->L->Prop:=fun v w'=>∃(fr n':Nat)(xs:List It)(f':Nat)(ol:Option Addr)(kl:Nat),v=(fr:Int)/\i+a<=fr/\fr<=i+a+q/\Blk w' D 187 #[.slice (Q ⟨b0,f0,V⟩) B.length k,.int J (n':Int),.int J 0]/\n'<=4096 /\
     Blk w' Y 111 #[.bool JI,.slice V 0 0,.slice ol xs.length kl]/\(∃a b c,Blk w' N 111 #[a,b,c])/\Z2o (fun b=>b<w7.heap.size) w' xs ol xs.length kl/\(∀b,OB ol b->w7.heap.size<=b)/\Vcg.Mod (·=D) w w'/\w7.heap.size<=w'.heap.size /\
     Z7J f (d+1) (n+1) (sg B (i+a) (i+a+q))=pre xs (Z7J f' (d+1) n' (sg B fr (i+a+q)))/\2*(i+a+q-fr)+2<=f'/\f'<=f/\xs.length+(i+a+q-fr)<=q
    let over:L->Prop:=fun w'=>∃(x:Int)(n':Nat),x≠0/\Z7J f (d+1) (n+1) (sg B (i+a) (i+a+q))=JD x/\Blk w' D 187 #[.slice (Q ⟨b0,f0,V⟩) B.length k,.int J (n':Int),.int J x]/\(∃a b c,Blk w' N 111 #[a,b,c])/\Vcg.Mod (·=D) w w'
    have hfq:2*q+2<=f:=by omega
    refine⟨fun w'=>over w'\/good ((i+a+q:Nat):Int) w',⟨fun v w'=>over w'\/good v w',fun v w'=>match w'.cell? ⟨D,2,V⟩with|some (.int J 0)=>(((i+a+q:Nat):Int)-v).toNat+1|_=>0,JM ⟨i+a,n+1,[],f,V,0,rfl,J7 _,by omega,W7,by omega,Y7,⟨_,_,_,X7⟩,Z2o.nil _ _,fun b hb=>(Z3Z b hb).elim,M07,J7 _,(ZDD _).symm,by omega,J7 _,by simp⟩,?_⟩,?_⟩
    ·rintro v _ w8 hst
     refine⟨fun hlt=>?_,fun hge=>?_⟩
     ·rcases hst with⟨x,n',hx0,hde,W8,hX8,M08⟩|⟨fr,n',xs,f',ol,kl,rfl,hfr1,hfr2,W8,hn',Y8,⟨xa,xb,xc,X8⟩,I8,hnew,M08,hs8,hde,hf',hff,hxl⟩
      ·exact⟨x,by rw[Z2];exact W8.rd1 rfl,fun h=>(hx0 h).elim,fun _=>JJ ⟨x,n',hx0,hde,W8,hX8,M08⟩⟩
      ·refine⟨0,by rw[Z2];exact W8.rd1 rfl,fun _=>?_,fun h=>(h rfl).elim⟩
       obtain⟨f2,rfl⟩:∃f2,f'=f2+1:=⟨f'-1,by omega⟩;have hrl:(sg B fr (i+a+q)).length=i+a+q-fr:=ZDX (by omega);have hrne:sg B fr (i+a+q)≠[]:=fun h=>by rw[h]at hrl;simp at hrl;omega
       rw[ZAO hrne]at hde;have ed:G J ((d:Int)+1)=((d+1:Nat):Int):=by rw[Z0 (by omega) (by omega)];omega
       rw[ed];refine(Z7n f2 (d+1) n' fr (i+a+q) B (by omega) (by omega) (by omega) hlen (hN2 M08) hk W8 hoff hn' (by omega)).mono ?_;rintro e w9⟨M9,hdi⟩;have hs9:=M9.size;have hI9:=I8.lt;have Y9:=Y8.mod M9 (by omega);have X9:=X8.mod M9 (by omega);have I9:=I8.modS M9 (fun b hb=>by omega) (fun b hb h=>by have:=hnew b hb;omega);have M09:=M08.trans M9 (fun i hi h=>h)
       have key:∃(y:It)(v1 v2 v3:JE)(nx:Int)(m':Nat)(x:Int),e=O (C #[.agg #[v1,v2,v3],.int J nx])/\ItC (fun b=>b<w8.heap.size) w9 y v1 v2 v3/\Blk w9 D 187 #[.slice (Q ⟨b0,f0,V⟩) B.length k,.int J (m':Int),.int J x] /\
         ((x≠0/\Z7J f (d+1) (n+1) (sg B (i+a) (i+a+q))=JD x)\/(x=0/\m'<=4096/\∃q',1<=q'/\fr+q'<=i+a+q/\nx=((fr+q':Nat):Int)/\Z7J f (d+1) (n+1) (sg B (i+a) (i+a+q))=pre (xs++[y]) (Z7J f2 (d+1) m' (sg B (fr+q') (i+a+q))))):=by
        cases hd1:dcd f2 (d+1) n' (sg B fr (i+a+q))with
        |error x =>
         rw[hd1]at hdi hde;obtain⟨hx0,rfl,m',W9⟩:=hdi;exact⟨.s [],_,_,_,_,m',x,rfl,Z9Z _ _,W9,JJ ⟨hx0,hde⟩⟩
        |ok r =>
         obtain⟨y,q',m'⟩:=r;rw[hd1]at hdi hde;simp only at hde;obtain⟨W9,v1,v2,v3,rfl,hy⟩:=hdi;obtain⟨k1,k2,k3,k4,k5,k6⟩:=(Z6a f2 (d+1) n' (sg B fr (i+a+q))).1 _ _ _ hd1;refine⟨y,v1,v2,v3,_,m',0,rfl,hy,W9,JM ⟨rfl,by omega,q',k1,by omega,rfl,?_⟩⟩;rw[hde,ZDV,<-ZDE];congr 1
       obtain⟨y,v1,v2,v3,nx,m',x,rfl,hy,W9,hout⟩:=key;have cW:w8.cell? ⟨D,2,V⟩=Q (.int J 0):=W8.rd1 rfl;clear hdi hde W8 Y8 X8 M08;obtain⟨bb,p1,q1,r1,p2,q2,r2,rfl,rfl,rfl⟩:=hy.vals;refine⟨_,_,_,_,_,_,_,_,rfl,?_⟩;rintro dA wA⟨rfl,rfl⟩;have HA:=Blk.new w9 111 #[.bool I,.slice V 0 0,.slice V 0 0];have M9A:Vcg.Mod NoB w9 _:=Mod.alloc w9 (T #[.bool I,.slice V 0 0,.slice V 0 0] 111);have hsA:=Z6 w9 (T #[.bool I,.slice V 0 0,.slice V 0 0] 111);generalize hHA:w9.heap.size=HH at *
       generalize w9.alloc (T #[.bool I,.slice V 0 0,.slice V 0 0] 111)=wA at *
       refine Z65 HA rfl rfl rfl (fun wB HB QB=>?_);have M9B:Vcg.Mod NoB w9 wB:=ZC M9A QB (by omega);have XB:=X9.mod' M9B;have YB:=Y9.mod' M9B;have WB:=W9.mod' M9B;have hyB:=ItC.mod M9B _ hy;have IB:=I9.mod' M9B;have MB:=M09.none_trans M9B;have hsB:=M9B.size;clear HA M9A QB X9 Y9 W9 I9 M09 hy;refine⟨_,_,_,by rw[Z2];exact YB.rd1 rfl,Z6i HB ?_⟩;rintro dD wD⟨rfl,rfl⟩;have MD:Vcg.Mod NoB wB _:=Mod.alloc wB (T #[.bool bb,.slice p1 q1 r1,.slice p2 q2 r2] 111);have E:=Blk.new wB 111 #[.bool bb,.slice p1 q1 r1,.slice p2 q2 r2];have XD:=XB.mod' MD;have YD:=YB.mod' MD;have WD:=WB.mod' MD;have hyD:=ItC.mod MD _ hyB;have ID:=IB.mod' MD;have M0D:=MB.none_trans MD;have hsD:=MD.size;clear XB YB WB HB hyB IB MB;generalize wB.heap.size=HE at *
       generalize wB.alloc (T #[.bool bb,.slice p1 q1 r1,.slice p2 q2 r2] 111)=wD at *
       obtain⟨o',k',wE,hrun,IE,QE,hOB⟩:=ID.push E (ItC.mono (fun b hb=>by
        rcases hb with h|h
        ·exact JO h hs8
        ·exact hI9 b h) _ hyD) (by omega)
       have nE:∀b,OB o' b->w7.heap.size<=b:=fun b hb=>by
        rcases hOB b hb with h|h
        ·exact hnew b h
        ·omega
       have XE:=XD.mod QE (fun h=>by have:=hnew _ h;omega);have YE:=YD.mod QE (fun h=>by have:=hnew _ h;omega);have WE:=WD.mod QE (fun h=>by have:=hnew _ h;omega);have M0E:=M0D.trans QE (fun i hi h=>by have:=hnew _ h;omega);have hsE:=QE.size;refine⟨_,wE,hrun,_,_,_,rfl,?_⟩;rw[Z2];refine⟨YE.canSet (by simp) rfl,?_⟩;rintro _ rfl;have QF:Vcg.Mod (·=Y) wE _:=Mod.setCell wE ⟨Y,0+2,V⟩ (.slice o' (xs.length+1) k');have YF:=YE.set 2 (.slice o' (xs.length+1) k');have IF:=IE.modS QF (fun b hb=>by omega) (fun b hb h=>by have:=nE b hb;omega);have XF:=XE.mod QF (by omega);have WF:=WE.mod QF (by omega);have M0F:=M0E.trans QF (fun i hi h=>by omega);have hsF:=QF.size;have hl1:xs.length+1=(xs++[y]).length:=by rw[JA,J5]
       have cF:J3 _ ⟨D,2,V⟩=Q (.int J x):=WF.rd1 rfl;rcases hout with⟨hx0,hde⟩|⟨rfl,hm',q',hq1,hq2,rfl,hde⟩
       ·refine⟨JJ ⟨x,m',hx0,hde,WF,⟨_,_,_,XF⟩,M0F⟩,?_⟩
        dsimp only;rw[cW,cF];simp only;split
        ·rename_i h
         simp only[Option.some.injEq,Value.int.injEq,true_and]at h;exact(hx0 h).elim
        ·omega
       ·refine⟨JM ⟨fr+q',m',xs++[y],f2,o',k',rfl,by omega,hq2,WF,hm',by rw[<-hl1];exact YF,⟨_,_,_,XF⟩,by rw[<-hl1];exact IF,nE,M0F,by omega,hde,by omega,by omega,by omega⟩,?_⟩
        dsimp only;rw[cW,cF];simp only;omega
     ·rcases hst with h|⟨fr,n',xs,f',ol,kl,rfl,hfr1,hfr2,rest⟩
      ·exact JJ h
      ·obtain rfl:fr=i+a+q:=by omega
       exact JM ⟨i+a+q,n',xs,f',ol,kl,rfl,hfr1,hfr2,rest⟩
    ·rintro _ w8(⟨x,n',hx0,hde,W8,⟨xa,xb,xc,X8⟩,M08⟩|⟨fr,n',xs,f',ol,kl,hfr,hfr1,hfr2,W8,hn',Y8,⟨xa,xb,xc,X8⟩,I8,hnew,M08,hs8,hde,hf',hff,hxl⟩)
     ·refine⟨x,by rw[Z2];exact W8.rd1 rfl,fun _=>?_,fun h=>(hx0 h).elim⟩
      rw[hde]at hdec;refine Z0z X8 (fun w9 M9=>hR _ _ ⟨M08.trans M9 (fun i hi h=>by omega),?_⟩);rw[hdec];exact⟨hx0,rfl,n',W8.mod M9 (by omega)⟩
     ·obtain rfl:fr=i+a+q:=by omega
      refine⟨0,by rw[Z2];exact W8.rd1 rfl,fun h=>(h rfl).elim,fun _=>?_⟩;obtain⟨f2,rfl⟩:∃f2,f'=f2+1:=⟨f'-1,by omega⟩;rw[ZFw,Z8I]at hde
      have hits:=I8.its (fun b hb h=>by
       have:=hnew b h;have hb':b<w7.heap.size:=hb;omega)
      refine Z6i Y8 (Z0z X8 (fun w9 M9=>hR _ _ ⟨M08.trans M9 (fun i hi h=>by omega),?_⟩));rw[hdec,hde];simp only[pre,JR];refine⟨W8.mod M9 (by omega),_,_,_,by rw[JU],?_⟩;simp only[ItC];refine⟨trivial,trivial,ol,kl,rfl,Z1I.mono (fun b hb=>?_) _ (Z1I.modA M9 (fun b hb=>?_) _ hits),I8.cap⟩
      ·have hb':b<w.heap.size:=hb
       show b<w7.heap.size;omega
      ·show b<w7.heap.size
       omega
end Go.Proofs.YtfghidehlnfdiaaGreat
end
