/- Contracts: node (the verifier's). -/
/- Contracts: text, itemTo, refTo; segments of entries. -/
/- Contracts: itemOf at a leaf, at a row. -/
/- Contracts: itemOf at a branch; itemOf. -/
/- Contracts: made, root. -/
/- Contracts: rlp.Equal, same. -/
/- Contracts: visit. -/
/- Contracts: rightEntries, the reference's Keys. -/
import Derived.Test.YtfghidehlnfdiaaGreatRU2
import Derived.Test.YtfghidehlnfdiaaGreatRT5
import Derived.Test.YtfghidehlnfdiaaGreatRG5
set_option linter.unusedVariables false
set_option linter.unusedSimpArgs false
open Array renaming getElem?_toList->JZ,replicate->JY
open Bool renaming false->J0,true->JT
open Go renaming Calls->JN,World->J5
open Go.Addr renaming add->JE
open Go.Ending renaming returned->J4
open Go.IntKind renaming i64->Jg,wrap->J7
open Go.Obj renaming cells->W
open Go.Proofs.Tryz renaming prog->J3
open Go.Value renaming agg->JJ,bool->H,int->Jn,pointer->JH,slice->G
open Go.World renaming cell?->JB
open Int renaming toNat->Jl,toNat_natCast->J
open List renaming drop_eq_getElem_cons->JQ,drop_eq_nil_of_le->JX,drop_zero->Jj,eq_nil_of_length_eq_zero->J9,getElem?_eq_getElem->JI,getElem_drop->JF,getElem_map->JV,getElem_mem->C,getElem_of_mem->JM,getElem_take->JR,length->Jp,length_drop->J1,length_map->JD,length_nil->Ji,length_take->J6,map_append->Jh,map_cons->JK,mem_cons->Jk,mem_of_mem_drop->Jb,mem_of_mem_head?->Ja,mem_of_mem_take->Jc,take_length->JU,take_of_length_le->JW
open Nat renaming add_assoc->JL,add_sub_cancel->Je,add_zero->Jf,le_refl->J2,le_succ->Jq,lt_of_le_of_ne->Jd,lt_of_lt_of_le->JO,mul_one->Jo,sub_zero->Jm,zero_add->JA,zero_le->J8
open Option renaming none->Z,some->JC
open Or renaming inl->JP,inr->JG
open UInt8 renaming ofNat->JS
section
namespace Go.Proofs.YtfghidehlnfdiaaGreat
open Go Go.Vcg Go.Trie
theorem ZF1{h:H32}:∀{es:List (H32×Value)},(∀x∈es,x.2=JJ #[])->((Vcg.upd h (JJ #[]) es).map fun x=>x.1.1)=ZFE (es.map fun x=>x.1.1) h.1/\∀x∈Vcg.upd h (JJ #[]) es,x.2=JJ #[]
 |[],_=>⟨by simp[Vcg.upd,ZFE],fun x hx=>by simp[Vcg.upd]at hx;rw[hx]⟩
 |y::r,hy=>by
  obtain⟨h1,h2⟩:=ZF1 (h:=h) (es:=r) (fun x hx=>hy x (by simp[hx]));unfold Vcg.upd;by_cases he:y.1=h
  ·rw[if_pos he]
   refine⟨?_,fun x hx=>?_⟩
   ·unfold ZFE
    simp[he]
   ·rcases List.mem_cons.1 hx with rfl|hx
    ·rfl
    ·exact hy x (by simp[hx])
  ·rw[if_neg he]
   have hne:h.1≠y.1.1:=fun e=>he (Subtype.ext e.symm);refine⟨?_,fun x hx=>?_⟩
   ·rw[JK,h1]
    unfold ZFE;by_cases hm:h.1∈r.map fun x=>x.1.1
    ·rw[if_pos hm,if_pos (by rw[JK];exact List.mem_cons_of_mem _ hm)];rfl
    ·rw[if_neg hm,if_neg (by rw[JK];simpa[hne]using hm)];rfl
   ·rcases List.mem_cons.1 hx with rfl|hx
    ·exact hy _ (by simp)
    ·exact h2 x hx
abbrev SN:Nat->Prop:=fun k=>k=2\/k=11
section
variable{E:RS}{a b:By}{P:RS}{D:Nat}{w w':J5}{lab lab':Nat->Nat}{U:List By}
theorem VfS.eleven(h:VfS E a b P D w lab U)(s:Stp (fun k=>k=11) w lab w' lab'):VfS E a b P D w' lab' U:=h.stp s (by decide) (by decide) (by decide) (by decide) (by decide) (by decide)
theorem ZDx(hb:∀x∈P,x.2.length<=2^30)(hI:VfS E a b P D w lab U){x:It}{L:Array Value}(hL:RfC (fun b=>lab b≠6) w x L)(hg:Z2p x)(hne:isE x=J0) :
  JN J3 Z0N.n #[JH (JC ⟨D,0,Z⟩),JJ L] w (fun e w'=>∃lab',Stp SN w lab w' lab'/\VfS E a b P D w' lab' (Z4t P U x).1/\match (Z4t P U x).2 with
   | .error er=>e=.panicked (Z2u er)/\er≠0
   | .ok xs=>∃b s1 s2 s3,e=J4 (nvV b s1 s2 s3)/\NvC (fun b=>lab' b≠6) w' xs b s1 s2 s3):=by
 refine ZD fun R hR=>Z0N.vc _ _ _ _ ?_;unfold Z0N.Vc;rintro d2 w1⟨rfl,rfl⟩;have st1:Stp NoS w lab (w.alloc (W L 82)) (ext lab w.heap.size 5):=Stp.alloc NoS w lab _ 5;have X1:=CB.new w lab 5 82 L;have I1:=hI.no st1;have hL1:=hL.stp st1 (fun h=>h);generalize w.heap.size=D2 at *
 generalize w.alloc (W L 82)=w1 at *
 generalize ext lab D2 5=lab1 at *
 rintro d4 w2⟨rfl,rfl⟩;have st2:Stp NoS w1 lab1 (w1.alloc (W #[H J0,G Z 0 0,G Z 0 0,G Z 0 0] 86)) (ext lab1 w1.heap.size 11):=Stp.alloc NoS w1 lab1 _ 11;have V2:=CB.new w1 lab1 11 86 #[H J0,G Z 0 0,G Z 0 0,G Z 0 0];have X2:=X1.stp st2 (fun h=>h);have I2:=I1.no st2;have hL2:=hL1.stp st2 (fun h=>h);have s2:=st1.trans st2;clear st1 X1 I1 hL1 st2;generalize w1.heap.size=N at *
 generalize w1.alloc (W #[H J0,G Z 0 0,G Z 0 0,G Z 0 0] 86)=w2 at *
 generalize ext lab1 N 11=lab2 at *
 have fin:∀(w':J5)(lab':Nat->Nat)(U':List By)(xs:List It)(b1:Bool)(s1 s2 s3:Option Addr×Nat×Nat),Stp SN w lab w' lab'->VfS E a b P D w' lab' U'->NvC (fun b=>lab' b≠6) w' xs b1 s1 s2 s3->lab' N=11->Z4t P U x=(U',.ok xs)->∀w4,Vcg.Mod (·=N) w' w4->R (J4 (nvV b1 s1 s2 s3)) w4:=by
  intro w' lab' U' xs b1 s1 s2 s3 st I hn hN hx w4 Q;have st4:Stp (fun k=>k=11) w' lab' w4 (ext lab' w'.heap.size 5):=Stp.of_mod Q 5 (fun k _ e=>by rw[e];exact hN);refine hR _ _ ⟨_,st.trans (st4.mono (fun _ h=>JG h)),by rw[hx];exact I.eleven st4,?_⟩;rw[hx];exact⟨b1,s1,s2,s3,rfl,hn.stp st4 (by decide)⟩
 cases x with
 |l xs =>
  obtain⟨Dx,v1,v2,v3,rfl,hADx,BDx,hit⟩:=hL2;obtain⟨bb,p1,q1,r1,p2,q2,r2,rfl,rfl,rfl⟩:=hit.vals;have hcell:JB w2 (JE ⟨D2,0,Z⟩ 32)=JC (JH (JC ⟨Dx,0,Z⟩)):=by rw[Z3];exact X2.blk.rd1 (Z8H rfl)
  refine⟨_,hcell,fun _=>⟨_,hcell,_,rfl,Z60 BDx ?_⟩,fun h=>(by cases h)⟩;refine(Z5R (A:=fun b=>ext lab2 w2.heap.size 6 b≠6) hg (fun b hb h=>h (ext_new hb)) (ItC.restr (fun b hb h=>by rwa[Z1M hb]at h) hit)).mono ?_;rintro _ w3⟨bb,s1,s2',s3,rfl,M3,hn3⟩;have st3:Stp NoS w2 lab2 w3 (ext lab2 w2.heap.size 6):=Stp.of_nob M3 6;have V3:=V2.stp st3 (fun h=>h);exact JG ⟨_,_,_,_,_,_,_,_,_,_,rfl,ZDh (b1:=bb) (s1:=s1) (s2:=s2') (s3:=s3) V3.blk (fun w' Q=>fin w3 _ U xs bb s1 s2' s3 ((s2.trans st3).mono (fun _ h=>h.elim)) (I2.no st3) hn3 V3.clr rfl w' Q)⟩
 |s h =>
  have hne':h≠[]:=by rintro rfl;cases hne
  rcases hL2 with⟨rfl,_⟩|⟨h32,rfl⟩
  ·exact(hne' rfl).elim
  have hrow:∀{w':J5}{lab':Nat->Nat},CB w' lab' 5 D2 82 (rfA (hashA h).toList Z JT)->ZG w' ⟨D2,0,Z⟩ 32 (hashA h):=fun X=>X.blk.rowAt (ZB h) (fun i hi=>by rw[JA,ZCh (Z1O _) hi,JZ]);refine⟨_,by rw[Z3];exact X2.blk.rd1 (Z8H (Z1O _)),fun h=>(h rfl).elim,fun _=>?_⟩;rintro _ rfl;have st3:Stp NoS w2 lab2 w2.drew lab2:=Stp.drew NoS w2 lab2;have X3:=X2.stp st3 (fun h=>h);have V3:=V2.stp st3 (fun h=>h);have I3:=I2.no st3;have s3:=s2.trans st3;clear X2 V2 I2 s2 st3;generalize w2.drew=w3 at *
  obtain⟨oa,ka,ob,kb,op,kp,ol,kl,mS,m,e1,e2,e3,e4,e5,e6,e7,_⟩:=id I3.ex;refine⟨_,_,by rw[Z3];exact e1.blk.rd1 rfl,by rw[Z3,Z3];exact e1.blk.rd1 rfl,_,hrow X3,?_⟩;refine(Z6j e7 h32).mono ?_;rintro e w4⟨M4,hno,hyes⟩;have st4:Stp NoS w3 lab2 w4 (ext lab2 w3.heap.size 5):=Stp.of_nob M4 5;have X4:=X3.stp st4 (fun h=>h);have V4:=V3.stp st4 (fun h=>h);have I4:=I3.no st4;have s4:=s3.trans st4;cases hf:Z4F P h with
  |none =>
   obtain rfl:=hno hf;have hx:Z4t P U (.s h)=(U,.error 160):=by simp only[Z4t,hf]
   exact JP ⟨_,rfl,hR _ _ ⟨_,s4.mono (fun _ h=>h.elim),by rw[hx];exact I4,by rw[hx];exact⟨rfl,by decide⟩⟩⟩
  |some c =>
   obtain⟨oc,kc,rfl,hc,hck⟩:=hyes c hf;have hc4:=hc.stp st4 (fun h=>h);have hc30:c.length<=2^30:=hb _ (ZC8 hf);clear hno hyes hc X3 V3 I3 s3 st4 M4 e1 e2 e3 e4 e5 e6 e7;generalize ext lab2 w3.heap.size 5=lab4 at *
   refine JG ⟨_,_,_,rfl,fun w'=>sumOf c=h/\∃lab',Stp NoS w4 lab4 w' lab',?_,?_⟩
   ·rintro _ rfl
    have st5:Stp NoS w4 lab4 w4.drew lab4:=Stp.drew NoS w4 lab4;have X5:=X4.stp st5 (fun h=>h);have c5:=hc4.stp st5 (fun h=>h);refine⟨_,hrow X5,?_⟩;generalize w4.drew=w5 at *
    rintro d6 w6⟨rfl,rfl⟩;have st6:Stp NoS w5 lab4 (w5.alloc (W #[G oc c.length kc] 23)) (ext lab4 w5.heap.size 5):=Stp.alloc NoS w5 lab4 _ 5;have Y6:=Blk.new w5 23 #[G oc c.length kc];have X6:=X5.stp st6 (fun h=>h);have c6:=c5.stp st6 (fun h=>h);refine⟨hrow X6,?_⟩;refine(Z4J [c] rfl (by simp) (ZFn.one Y6 c6.rd) (by simp;omega)).mono ?_;rintro _ w7⟨rfl,M7⟩;have st7:Stp NoS (w5.alloc (W #[G oc c.length kc] 23)) (ext lab4 w5.heap.size 5) w7 (ext (ext lab4 w5.heap.size 5) (w5.alloc (W #[G oc c.length kc] 23)).heap.size 5):=Stp.of_nob M7 5;have X7:=X6.stp st7 (fun h=>h);have s47:=(st5.trans st6).trans st7;rw[show[c].flatten=c by simp];refine JG ⟨_,rfl,hrow X7,_,Z7g _ _ (ZO c) h32,_,rfl,fun ht=>?_,fun hf'=>?_⟩
    ·have hx:Z4t P U (.s h)=(U,.error 163):=by simp only[Z4t,hf];rw[if_pos (of_decide_eq_true ht)]
     exact ZGT (by decide) (hR _ _ ⟨_,(s4.trans s47).mono (fun _ h=>h.elim),by rw[hx];exact I4.no s47,by rw[hx];exact⟨rfl,by decide⟩⟩)
    ·exact⟨Decidable.not_not.1 (of_decide_eq_false hf'),_,s47⟩
   ·rintro _ w5⟨hsum,lab5,st5⟩
    rintro _ rfl;have st6:=st5.trans (Stp.drew NoS w5 lab5);have X6:=X4.stp st6 (fun h=>h);have V6:=V4.stp st6 (fun h=>h);have I6:=I4.no st6;have c6:=hc4.stp st6 (fun h=>h);have s6:=s4.trans st6;clear X4 V4 I4 hc4 s4 st5 st6;generalize w5.drew=w6 at *
    obtain⟨oa,ka,ob,kb,op,kp,ol,kl,mS,m,e1,e2,e3,e4,e5,e6,e7,es,e8,e9,e10⟩:=id I6.ex;obtain⟨w7,hr7,hm7,M7⟩:=Z3G.update e8.map ZB6 ZDr (k:=⟨h,h32⟩) trivial (JJ #[]);have st7:Stp (fun k=>k=2) w6 lab5 w7 (ext lab5 w6.heap.size 5):=Stp.of_mod M7 5 (fun k _ e=>by subst e;exact e8.clr);obtain⟨u1,u2⟩:=ZF1 (h:=⟨h,h32⟩) e10;rw[e9]at u1;have I7:VfS E a b P D w7 (ext lab5 w6.heap.size 5) (ZFE U h):=⟨oa,ka,ob,kb,op,kp,ol,kl,mS,m,e1.stp st7 (by decide),e2.stp st7 (by decide),e3.stp st7 (by decide),e4.stp st7 (by decide) (by decide),e5.stp st7 (by decide),e6,e7.stp st7 (by decide) (by decide),_,⟨hm7,(st7.lab m e8.map.lt).trans e8.clr⟩,u1,u2⟩;have V7:=V6.stp st7 (by decide);have c7:=c6.stp st7 (by decide);have s7:Stp SN w lab w7 (ext lab5 w6.heap.size 5):=(s6.mono (fun _ h=>h.elim)).trans (st7.mono (fun _ h=>JP h));refine⟨_,by rw[Z3];exact e1.blk.rd1 rfl,_,hrow X6,w7,hr7,?_⟩;clear X6 V6 I6 c6 s6 st7 e1 e2 e3 e4 e5 e6 e7 e8 e9 e10 hr7 hm7 M7 u1 u2;generalize ext lab5 w6.heap.size 5=lab7 at *
    refine(Z89 (A:=fun b=>ext lab7 w7.heap.size 6 b≠6) (fun b hb h=>h (ext_new hb)) c7.rd hck).mono ?_;rintro e w8⟨M8,h0,hne8⟩;have st8:Stp NoS w7 lab7 w8 (ext lab7 w7.heap.size 6):=Stp.of_nob M8 6;have I8:=I7.no st8;have V8:=V7.stp st8 (fun h=>h);have s8:=s7.trans (st8.mono (T:=SN) (fun _ h=>h.elim));generalize ext lab7 w7.heap.size 6=lab8 at *
    by_cases hck0:Z0T c=0
    ·obtain⟨xs,bb,s1,s2',s3',hdc,hgx,rfl,hn8⟩:=h0 hck0
     have hx:Z4t P U (.s h)=(ZFE U h,.ok xs):=by
      simp only[Z4t,hf];rw[if_neg (fun h=>h hsum),if_neg (fun h=>h hck0),hdc]
     refine JG ⟨_,_,_,_,_,_,_,_,_,_,_,rfl,?_⟩;refine ZBA (lab:=lab8) (bb:=bb) (s1:=s1) (s2:=s2') (s3:=s3') (fun w9 lab9 N9 st9 B9=>?_);refine(Z1D w9 0).mono ?_;rintro e w10⟨rfl,he⟩;rw[if_pos rfl]at he;have V9:=V8.stp st9 (fun h=>h);exact JG ⟨he,get4 B9.blk (ZDh (b1:=bb) (s1:=s1) (s2:=s2') (s3:=s3') V9.blk (fun w' Q=>fin _ lab9 (ZFE U h) xs bb s1 s2' s3' (s8.trans (st9.mono (fun _ h=>h.elim))) (I8.no st9) (hn8.stp st9 (fun h=>h)) V9.clr hx w' Q))⟩
    ·have he:=hne8 hck0
     subst he
     have hx:Z4t P U (.s h)=(ZFE U h,.error 161):=by
      simp only[Z4t,hf];rw[if_neg (fun h=>h hsum),if_pos hck0]
     refine JG ⟨_,_,_,_,_,_,_,_,_,_,_,rfl,?_⟩;refine ZBA (lab:=lab8) (bb:=J0) (s1:=(Z,0,0)) (s2:=(Z,0,0)) (s3:=(Z,0,0)) (fun w9 lab9 N9 st9 B9=>?_);exact ZGT (by decide) (hR _ _ ⟨lab9,s8.trans (st9.mono (fun _ h=>h.elim)),by rw[hx];exact I8.no st9,by rw[hx];exact⟨rfl,by decide⟩⟩)
end
theorem Z9Q{w:J5}{D:Nat}{h:By}(hh:h.length=32)(B:Blk w D 27 (hashA h)):RdB w (JC ⟨D,0,Z⟩) h:=RdB.of_blk B (fun i hi=>by rw[JA];exact ZF (by omega))
section
variable{A:Nat->Prop}{w w':J5}
theorem Z4x{o:Option Addr}{k:Nat}{b:By}(h:RdA A w o b) :
  JN J3 Z3e.n #[G o b.length k] w (fun e w'=>∃v1 v2 v3,e=J4 (JJ #[v1,v2,v3])/\ItC A w' (.s b) v1 v2 v3/\Vcg.Mod NoB w w'):=by
 refine ZD fun R hR=>Z3e.vc _ _ _ _ _ ?_;unfold Z3e.Vc;rintro d w1⟨rfl,rfl⟩;have X:=Blk.new w 111 #[H J0,G Z 0 0,G Z 0 0];have M:=Mod.alloc (S:=NoB) w (W #[H J0,G Z 0 0,G Z 0 0] 111);refine Z1J (b1:=J0) (o:=o) (l:=b.length) (k:=k) (o2:=Z) (l2:=0) (k2:=0) X (fun w' Q=>hR _ _ ⟨_,_,_,rfl,?_,ZI M Q (J2 _)⟩);have M':=ZI M Q (J2 _);simp only[ItC];exact⟨trivial,⟨o,k,rfl,(h.mod' M').1,(h.mod' M').2⟩,trivial⟩
theorem Z5O{x:It}{v1 v2 v3:Value}(h:ItC A w x v1 v2 v3)(hA:∀b,w.heap.size<=b->¬A b)(hd:dep x<=16)(hn:count x<=4096)(hl:(enc x).length<=65536) :
  JN J3 Z2Z.n #[JJ #[v1,v2,v3]] w (fun e w'=>∃u1 u2 u3,e=J4 (JJ #[u1,u2,u3])/\ItC A w' (ZY x) u1 u2 u3/\Vcg.Mod NoB w w'):=by
 obtain⟨b,o1,l1,c1,o2,l2,c2,rfl,rfl,rfl⟩:=h.vals;refine ZD fun R hR=>Z2Z.vc _ _ _ _ _ _ _ _ _ ?_;unfold Z2Z.Vc;rintro d1 w1⟨rfl,rfl⟩;have M1:=Mod.alloc (S:=NoB) w (W #[H b,G o1 l1 c1,G o2 l2 c2] 111);have X1:=Blk.new w 111 #[H b,G o1 l1 c1,G o2 l2 c2];generalize w.alloc (W #[H b,G o1 l1 c1,G o2 l2 c2] 111)=w1 at *
 rintro d2 w2⟨rfl,rfl⟩;have M12:=Mod.alloc (S:=NoB) w1 (W #[H J0,G Z 0 0,G Z 0 0] 111);have V2:=Blk.new w1 111 #[H J0,G Z 0 0,G Z 0 0];have X2:=X1.mod' M12;have M2:=M1.none_trans M12;have hs1:=M1.size;generalize hN:w1.heap.size=N at *
 generalize w1.alloc (W #[H J0,G Z 0 0,G Z 0 0] 111)=w2 at *
 have hx0:ItC (fun k=>A k\/k=N) w x (H b) (G o1 l1 c1) (G o2 l2 c2):=ItC.restr (fun k hk hh=>hh.elim id (fun h=>by omega)) h;have hx2:=ItC.mod M2 _ hx0
 have fin:∀{w':J5}{y:It}{u1 u2 u3:Value},y=ZY x->Vcg.Mod NoB w w'->ItC (fun k=>A k\/k=N) w' y u1 u2 u3->∀w4,Vcg.Mod (·=N) w' w4->R (J4 (JJ #[u1,u2,u3])) w4:=fun hy M hi w4 Q=>by
  subst hy;exact hR _ _ ⟨_,_,_,rfl,ItC.restr (fun k _ h=>JP h) (ItC.modA Q (fun k hk=>JG hk) _ hi),ZI M Q (by omega)⟩
 refine Z60 X2 ?_;refine(Z3F hx2 hd hn hl).mono ?_;rintro _ w3⟨o3,k3,rfl,F3⟩;have M3:=M2.none_trans F3.mod;have V3:=V2.mod' F3.mod;refine⟨_,_,_,_,rfl,fun h32=>?_,fun h32=>?_⟩
 ·refine Z60 (X2.mod' F3.mod) ?_
  exact Z1J V3 (fun w' Q=>fin (by unfold ZY;rw[if_neg (by omega)]) M3 (ItC.mod F3.mod _ hx2) w' Q)
 ·rintro d4 w4⟨rfl,rfl⟩
  have Y4:=Blk.new w3 23 #[G o3 (enc x).length k3];have M4:=Mod.alloc (S:=NoB) w3 (W #[G o3 (enc x).length k3] 23);refine(Z4J [enc x] rfl (by simp) (ZFn.one Y4 ((ZK F3).mod' M4)) (by simp;omega)).mono ?_;rintro _ w5⟨rfl,M5⟩;rw[show[enc x].flatten=enc x by simp];have M35:=M4.none_trans M5;refine⟨_,rfl,?_⟩;rintro d6 w6⟨rfl,rfl⟩;have H6:=Blk.new w5 27 (JY 32 (Jn .u8 0));obtain⟨g1,g2,g3⟩:=Z12 H6 (by simp) (sumOf (enc x));have M57:=ZI (Mod.alloc w5 (W (JY 32 (Jn .u8 0)) 27)) g3 (J2 _);refine⟨_,g1,?_⟩;have M37:=M35.none_trans M57;have M7:=M3.none_trans M37;have V7:=V3.mod' M37;have hge:w.heap.size<=w5.heap.size:=(M3.none_trans M35).size;have hVlt:=(V3.mod' M35).lt;have hs32:=ZO (enc x);generalize hD:w5.heap.size=D at *
  generalize((w5.alloc (W (JY 32 (Jn .u8 0)) 27)).setRow D (hashA (sumOf (enc x))))=w7 at *
  have hr7:RdA (fun k=>A k\/k=N) w7 (JC ⟨D,0,Z⟩) (sumOf (enc x)):=⟨Z9Q hs32 g2,fun _ d hd hh=>by
   cases hd;rcases hh with hh|hh
   ·exact hA _ hge hh
   ·dsimp only at hh;omega⟩
  have hc:=Z4x (k:=32) hr7;rw[hs32]at hc;refine hc.mono ?_;rintro _ w8⟨u1,u2,u3,rfl,hI8,M8⟩;obtain⟨b8,p8,q8,r8,p9,q9,r9,rfl,rfl,rfl⟩:=hI8.vals;exact⟨_,_,_,_,_,_,_,rfl,Z1J (V7.mod' M8) (fun w' Q=>fin (by unfold ZY;rw[if_pos (by omega)]) (M7.none_trans M8) hI8 w' Q)⟩
theorem ZIy{x:It}(hx:∀b,x=.s b->b=[]):∀b,ZY x=.s b->b=[]\/b.length=32:=fun b hb=>by
 unfold ZY at hb;split at hb
 ·cases hb;exact JG (ZO _)
 ·exact JP (hx b hb)
theorem ZER(n:Nd):∀b,Trie.itemOf n=.s b->b=[]:=fun b hb=>by
 cases n with
 |nil=>cases hb;rfl
 |leaf p v=>cases hb
 |row p c=>cases hb
 |branch cs v=>cases hb
theorem Z9T{x:It}{v1 v2 v3:Value}(h:ItC A w x v1 v2 v3)(hA:∀b,w.heap.size<=b->¬A b)(hx:∀b,x=.s b->b=[])(hd:dep x<=16)(hn:count x<=4096)(hl:(enc x).length<=65536) :
  JN J3 Z2x.n #[JJ #[v1,v2,v3]] w (fun e w'=>∃L,e=J4 (JJ L)/\Vcg.Mod NoB w w'/\RfC A w' (ZY x) L):=by
 obtain⟨b,o1,l1,c1,o2,l2,c2,rfl,rfl,rfl⟩:=h.vals;refine ZD fun R hR=>Z2x.vc _ _ _ _ _ _ _ _ _ ?_;unfold Z2x.Vc;rintro d1 w1⟨rfl,rfl⟩;have M1:=Mod.alloc (S:=NoB) w (W #[H b,G o1 l1 c1,G o2 l2 c2] 111);have X1:=Blk.new w 111 #[H b,G o1 l1 c1,G o2 l2 c2];generalize w.alloc (W #[H b,G o1 l1 c1,G o2 l2 c2] 111)=w1 at *
 rintro d2 w2⟨rfl,rfl⟩;rw[Z5X];have M12:=Mod.alloc (S:=NoB) w1 (W (rfA zeros32 Z J0) 82);have V2:=Blk.new w1 82 (rfA zeros32 Z J0);have X2:=X1.mod' M12;have M2:=M1.none_trans M12;have hs1:=M1.size;generalize hN:w1.heap.size=N at *
 generalize w1.alloc (W (rfA zeros32 Z J0) 82)=w2 at *
 have hx2:=ItC.mod M2 _ (ItC.restr (A':=fun k=>A k\/k=N) (fun k hk hh=>hh.elim id (fun h=>by omega)) h)
 have hA2:∀w',Vcg.Mod NoB w2 w'->∀k,w'.heap.size<=k->¬(A k\/k=N):=fun w' M k hk hh=>by
  have h1:=M2.size;have h2:=M.size;have h3:=V2.lt;rcases hh with hh|hh
  ·exact hA k (by omega) hh
  ·omega
 refine Z60 X2 ?_;refine(Z5O hx2 (hA2 w2 (Mod.refl w2)) hd hn hl).mono ?_;rintro _ w3⟨u1,u2,u3,rfl,hI3,M3⟩;obtain⟨b8,p8,q8,r8,p9,q9,r9,rfl,rfl,rfl⟩:=hI3.vals;refine⟨_,_,_,_,_,_,_,rfl,?_⟩;refine(ZCc (ZIy hx) (hA2 w3 M3) hI3).mono ?_;rintro _ w4⟨L,rfl,M4,hL⟩;have V4:=(V2.mod' M3).mod' M4;obtain⟨w5,hr5,V5,Q5⟩:=Z21 (x:=ZY x) (A:=A) (w0:=w) V4 (Z0E rfl _ _) hL.size hL.one;exact⟨L,rfl,w5,hr5,L,V5.rowAll hL.size,hR _ _ ⟨L,rfl,ZI ((M2.none_trans M3).none_trans M4) Q5 (by omega),(hL.modA Q5 (fun k hk=>JG hk)).restr (fun k _ h=>JP h)⟩⟩
end
structure ZFD (A:Nat->Prop) (w:J5) (es:List (By×By)) (o0:Option Addr) (c0:Nat) (o1:Option Addr) (c1:Nat):Prop where
 k0:es.length<=c0
 k1:es.length<=c1
 at_:∀(j:Nat)(hj:j<es.length),∃g f op kp g' f' ov kv,o0=JC ⟨g,f,Z⟩/\g<w.heap.size/\w.cell? ⟨g,f+j,Z⟩=JC (G op es[j].1.length kp)/\RdB w op es[j].1/\es[j].1.length<=kp/\o1=JC ⟨g',f',Z⟩/\g'<w.heap.size/\w.cell? ⟨g',f'+(j*2+1),Z⟩=JC (G ov es[j].2.length kv)/\RdA A w ov es[j].2
section
variable{A:Nat->Prop}{w w':J5}{es:List (By×By)}{o0 o1:Option Addr}{c0 c1:Nat}
theorem ZFD.mod'(h:ZFD A w es o0 c0 o1 c1)(M:Vcg.Mod NoB w w'):ZFD A w' es o0 c0 o1 c1:=⟨h.k0,h.k1,fun j hj=>by
 obtain⟨g,f,op,kp,g',f',ov,kv,e1,e2,e3,e4,e5,e6,e7,e8,e9⟩:=h.at_ j hj;exact⟨g,f,op,kp,g',f',ov,kv,e1,JO e2 M.size,by rw[ZN M e2 (fun h=>h)];exact e3,e4.mod' M,e5,e6,JO e7 M.size,by rw[ZN M e7 (fun h=>h)];exact e8,e9.mod' M⟩⟩
theorem ZFD.restr{A':Nat->Prop}(h:ZFD A w es o0 c0 o1 c1)(hA:∀b,b<w.heap.size->A' b->A b):ZFD A' w es o0 c0 o1 c1:=⟨h.k0,h.k1,fun j hj=>by
 obtain⟨g,f,op,kp,g',f',ov,kv,e1,e2,e3,e4,e5,e6,e7,e8,e9⟩:=h.at_ j hj;exact⟨g,f,op,kp,g',f',ov,kv,e1,e2,e3,e4,e5,e6,e7,e8,e9.mono hA⟩⟩
theorem ZFD.sub(h:ZFD A w es o0 c0 o1 c1){a b:Nat}(hab:a<=b)(hb:b<=es.length):ZFD A w ((es.drop a).take (b-a)) (subO o0 c0 a 1) (c0-a) (subO o1 c1 a 2) (c1-a):=by
 have hl:((es.drop a).take (b-a)).length=b-a:=by rw[J6,J1];omega
 have h0:=h.k0;have h1:=h.k1;refine⟨by omega,by omega,fun j hj=>?_⟩;rw[hl]at hj;obtain⟨g,f,op,kp,g',f',ov,kv,e1,e2,e3,e4,e5,e6,e7,e8,e9⟩:=h.at_ (a+j) (by omega);have he:((es.drop a).take (b-a))[j]'(by omega)=es[a+j]'(by omega):=by rw[JR,JF]
 rw[he];refine⟨g,f+a,op,kp,g',f'+a*2,ov,kv,?_,e2,by rw[JL];exact e3,e4,e5,?_,e7,by rw[show f'+a*2+(j*2+1)=f'+((a+j)*2+1) by omega];exact e8,e9⟩
 ·unfold subO;rw[if_neg (by omega),e1];simp only[Option.map_some,Jo];rw[Z3]
 ·unfold subO;rw[if_neg (by omega),e6];simp only[Option.map_some];rw[Z3]
end
def ZF7(n:Nd):Prop:=∀{A:Nat->Prop} {w:J5} {es:List (By×By)} {o0 o1:Option Addr} {c0 c1 i:Nat},(∀b,w.heap.size<=b->¬A b)->ZFD A w es o0 c0 o1 c1->(∀e∈es,e.1.length=64)->es.length<=2^20->i<=64->Rep (seg es 0 es.length i) n ->
 JN J3 Z0V.n #[G o0 es.length c0,G o1 es.length c1,Jn Jg (i:Int)] w (fun e w'=>∃v1 v2 v3,e=J4 (JJ #[v1,v2,v3])/\ItC A w' (Trie.itemOf n) v1 v2 v3/\Vcg.Mod NoB w w')
section
variable{A:Nat->Prop}{w w':J5}
theorem ZH0{x y:It}{u1 u2 u3 t1 t2 t3:Value}(hx:ItC A w x u1 u2 u3)(hy:ItC A w y t1 t2 t3)(hA:¬A w.heap.size):ItC A (w.alloc (W #[u1,u2,u3,t1,t2,t3] 111)) (.l [x,y]) (H JT) (G Z 0 0) (G (JC ⟨w.heap.size,0,Z⟩) 2 2):=by
 have Y:=Blk.new w 111 #[u1,u2,u3,t1,t2,t3];have M:=Mod.alloc (S:=NoB) w (W #[u1,u2,u3,t1,t2,t3] 111);simp only[ItC];refine⟨trivial,trivial,_,_,rfl,?_,J2 _⟩;simp only[Z1q];exact⟨⟨_,0,_,_,_,rfl,Y.lt,hA,Y.rd1 rfl,Y.rd1 rfl,Y.rd1 rfl,ItC.mod M _ hx⟩,⟨_,0,_,_,_,rfl,Y.lt,hA,Y.rd1 rfl,Y.rd1 rfl,Y.rd1 rfl,ItC.mod M _ hy⟩,trivial⟩
theorem ZIY{o:Option Addr}{c lo:Nat}{b:By}(h:RdB w o b)(hc:b.length<=c):RdB w (subO o c lo 1) (b.drop lo):=by
 have:=h.sub (c:=c) (lo:=lo) (n:=b.length-lo) hc
 rwa[JW (by rw[J1];omega)]at this
theorem ZFO(p v:By):ZF7 (.leaf p v):=by
 intro A w es o0 o1 c0 c1 i hA hS h64 hl hi hR;refine ZD fun R hR'=>Z0V.vc _ _ _ _ _ _ _ _ _ ?_;unfold Z0V.Vc;have hseg:=hR.leaf;have hlen:es.length=1:=by have:=congrArg Jp hseg;rw[Z4I (J2 _)]at this;simpa using this
 have h0:0<es.length:=by omega
 have hget:=Z9X (es:=es) (a:=0) (b:=es.length) (i:=i) (j:=0) (J2 _) (by omega);rw[hseg]at hget;simp only[JA,List.getElem?_cons_zero,Option.some.injEq,Prod.mk.injEq]at hget;obtain⟨hp,hv⟩:=hget;rintro d1 w1⟨rfl,rfl⟩;have M1:=Mod.alloc (S:=NoB) w (W #[H J0,G Z 0 0,G Z 0 0] 111);have V1:=Blk.new w 111 #[H J0,G Z 0 0,G Z 0 0];generalize hN:w.heap.size=N at *
 generalize w.alloc (W #[H J0,G Z 0 0,G Z 0 0] 111)=w1 at *
 have hS1:=(hS.restr (A':=fun k=>A k\/k=N) (fun k hk hh=>hh.elim id (fun h=>by omega))).mod' M1;obtain⟨g,f,op,kp,g',f',ov,kv,e1,e2,e3,e4,e5,e6,e7,e8,e9⟩:=hS1.at_ 0 h0;have hple:=h64 _ (C h0);refine⟨fun _=>?_,fun h=>absurd h (by omega)⟩;refine⟨_,e1,⟨by omega,by omega⟩,_,_,_,by rw[Z3];exact e3,⟨by omega,by omega⟩,?_⟩;rw[J];have hdl:(es[0].1.drop i).length=es[0].1.length-i:=J1;rw[<-hdl];refine(Z5l (ZIY e4 e5) (by omega) JT).mono ?_;rintro _ w2⟨o2,k2,rfl,F2⟩;refine⟨_,_,_,_,rfl,?_⟩;rintro _ rfl;have F3:=F2.mod' (Mod.drew (S:=NoB) w2);generalize w2.drew=w3 at *
 have cell:∀{w':J5},Vcg.Mod NoB w1 w'->JB w' (JE (JE ⟨g',f',Z⟩ 0) 1)=JC (G ov es[0].2.length kv):=fun M=>by
  rw[Z3,Z3,Jf,ZN M e7 (fun h=>h)];exact e8
 have hr3:RdA (fun k=>A k\/k=N) w3 o2 (Z8a (es[0].1.drop i) JT).1:=⟨ZK F3,fun _ d hd hh=>by
  have h1:=F3.new d.block ⟨d,hd,rfl⟩;have h2:=V1.lt;rcases hh with hh|hh
  ·exact hA _ (by have:=M1.size;omega) hh
  ·omega⟩
 refine⟨_,e6,⟨by omega,by omega⟩,_,_,_,cell F3.mod,?_⟩;refine(Z4x hr3).mono ?_;rintro _ w4⟨u1,u2,u3,rfl,hI4,M4⟩;obtain⟨b4,p4,q4,r4,p5,q5,r5,rfl,rfl,rfl⟩:=hI4.vals;have M14:=F3.mod.none_trans M4;refine⟨_,_,_,_,_,_,_,rfl,cell M14,?_⟩;refine(Z4x (e9.mod' M14)).mono ?_;rintro _ w5⟨t1,t2,t3,rfl,hI5,M5⟩;obtain⟨b6,p6,q6,r6,p7,q7,r7,rfl,rfl,rfl⟩:=hI5.vals;refine⟨_,_,_,_,_,_,_,rfl,?_⟩;rintro d6 w6⟨rfl,rfl⟩;have M15:=M14.none_trans M5
 have hpair:=ZH0 (ItC.mod M5 _ hI4) hI5 (fun hh=>by
  have h1:=M15.size;have h2:=V1.lt;rcases hh with hh|hh
  ·exact hA _ (by have:=M1.size;omega) hh
  ·omega)
 have M6:=Mod.alloc (S:=NoB) w5 (W #[H b4,G p4 q4 r4,G p5 q5 r5,H b6,G p6 q6 r6,G p7 q7 r7] 111);have M16:=M15.none_trans M6;refine Z1J (V1.mod' M16) (fun w' Q=>hR' _ _ ⟨_,_,_,rfl,?_,ZI (M1.none_trans M16) Q (by omega)⟩);have:=ItC.restr (A':=A) (fun k _ h=>JP h) (ItC.modA Q (fun k hk=>JG hk) _ hpair);simp only[Trie.itemOf,Z1o];rw[hp,hv];exact this
theorem ZGn{f q:By}{of oq:Option Addr}{i:Nat}{K:Int->J5->Prop}(rf:RdB w of f)(rq:RdB w oq q)(hf:f.length=64)(hq:q.length=64)(hlt:i+shared (f.drop i) (q.drop i)<64)(hK:∀w',Vcg.Mod NoB w w'->K ((i+shared (f.drop i) (q.drop i):Nat):Int) w') :
  ∃(I59:Int->J5->Prop)(μ59:Int->J5->Nat),I59 (i:Int) w /\
  (∀(n60:Int)(j61:Nat->Value)(w61:J5),I59 n60 w61 ->
    ∀w62:J5,ZJ w61 w62 ->
    ∃d63:Addr,of=JC d63 /\
    ((0:Int)<=n60/\n60<((f.length:Nat):Int)) /\
    ∃n64:Int,JB w62 (JE d63 (Jl n60))=JC (Jn .u8 n64) /\
    ∃d65:Addr,oq=JC d65 /\
    ((0:Int)<=n60/\n60<((q.length:Nat):Int)) /\
    ∃n66:Int,JB w62 (JE d65 (Jl n60))=JC (Jn .u8 n66) /\
    (((n64=n66 ->
      I59 (J7 Jg (n60+1)) w62/\μ59 (J7 Jg (n60+1)) w62<μ59 n60 w61)) /\
     ((n64≠n66->K n60 w62)))):=by
 have hst:=Z3y (f.drop i) (q.drop i);have hsn:=Z9Y (f.drop i) (q.drop i);generalize hs:shared (f.drop i) (q.drop i)=s at *
 refine⟨fun n w'=>∃j:Nat,n=((i+j:Nat):Int)/\j<=s/\Vcg.Mod NoB w w',fun n _=>(64-n).toNat,⟨0,rfl,J8 _,Mod.refl w⟩,?_⟩;rintro _ _ w1⟨j,rfl,hj,M1⟩;rintro _ rfl;have M2:=M1.step_drew;have hif:i+j<f.length:=by omega
 have hiq:i+j<q.length:=by omega
 obtain⟨bf,ff,rfl,hbf,hcf⟩:=Z0t (rf.mod' M2) hif;obtain⟨bq,fq,rfl,hbq,hcq⟩:=Z0t (rq.mod' M2) hiq;refine⟨_,rfl,⟨by omega,by omega⟩,_,by rw[J,Z3];exact hcf,_,rfl,⟨by omega,by omega⟩,_,by rw[J,Z3];exact hcq,fun he=>?_,fun hne=>?_⟩
 ·have hfq:f[i+j]=q[i+j]:=UInt8.toNat_inj.1 (by exact_mod_cast he)
  have hjs:j≠s:=fun e=>by
   subst e;have:=hsn (by rw[J1];omega) (by rw[J1];omega);rw[JF,JF]at this;exact this hfq
  have ew:J7 Jg (((i+j:Nat):Int)+1)=((i+(j+1):Nat):Int):=by rw[Z0 (by omega) (by omega)];omega
  rw[ew];exact⟨⟨j+1,rfl,by omega,M2⟩,by dsimp only;omega⟩
 ·have hjs:j=s:=by
    refine Decidable.byContradiction (fun hjs=>hne ?_);have h1:=congrArg (fun l:By=>l[j]?) hst;simp only[List.getElem?_take,if_pos (show j<s by omega),List.getElem?_drop]at h1;rw[JI hif,JI hiq]at h1;rw[Option.some.inj h1]
  subst hjs;exact hK _ M2
theorem ZGd{c:Nd}(hIt:ZF7 c){p:By}(hc:Z0x (.row p c))(hs:Z58 (.row p c)):ZF7 (.row p c):=by
 intro A w es o0 o1 c0 c1 i hA hS h64 hl hi hR;refine ZD fun R hR'=>Z0V.vc _ _ _ _ _ _ _ _ _ ?_;unfold Z0V.Vc;obtain⟨k1,v1,k2,v2,g1,g2,hne⟩:=ZHd hc;have h2:=hR.two g1 g2 hne;rw[Z4I (J2 _)]at h2;have hok:Z6f es 0 es.length i:=⟨by omega,J2 _,fun j hj _ _=>by rw[h64 _ (C hj)];exact hi⟩;have hsh:=hR.shared_row hc (Z3D hok) (Z8d hok);obtain⟨hpre,hRc⟩:=hR.row;have hpre1:=hpre _ (Ja (Z3D hok));have hp1:1<=p.length:=List.length_pos_iff.2 hc.1;have ha:0<es.length:=by omega
 have hb:es.length-1<es.length:=by omega
 have l1:=h64 _ (C ha);have l2:=h64 _ (C hb);rw[<-ZBN]at hRc;have htake:(es[0].1.drop i).take p.length=p:=(List.prefix_iff_eq_take.1 hpre1).symm;have hdl:(es[0].1.drop i).length=es[0].1.length-i:=J1;have hple:=hpre1.length_le;simp only at hsh hple
 have hlt:i+p.length<64:=by
  refine Jd (by omega) (fun e=>?_);obtain⟨q1,w1',q2,w2',r1,r2,r3⟩:=Z7L hc.2.2.2 hc.2.2.1;have m1:=(hRc.2 _ _).1 r1;have m2:=(hRc.2 _ _).1 r2
  have len0:∀{x:By×By},x∈seg es 0 es.length (i+p.length)->x.1=[]:=fun hx=>by
   obtain⟨j,hj,_,_,rfl⟩:=Z6a (J2 _) hx;exact JX (by rw[h64 _ (C hj)];omega)
  exact r3.1 ((len0 m1).trans (len0 m2).symm)
 rintro d1 w1⟨rfl,rfl⟩;have M1:=Mod.alloc (S:=NoB) w (W #[H J0,G Z 0 0,G Z 0 0] 111);have V1:=Blk.new w 111 #[H J0,G Z 0 0,G Z 0 0];generalize hN:w.heap.size=N at *
 generalize w.alloc (W #[H J0,G Z 0 0,G Z 0 0] 111)=w1 at *
 have hS1:=(hS.restr (A':=fun k=>A k\/k=N) (fun k hk hh=>hh.elim id (fun h=>by omega))).mod' M1;have hs1:=M1.size
 have hA1:∀w',Vcg.Mod NoB w1 w'->∀k,w'.heap.size<=k->¬(A k\/k=N):=fun w' M k hk hh=>by
  have h1:=M.size;have h2:=V1.lt;rcases hh with hh|hh
  ·exact hA _ (by omega) hh
  ·omega
 refine⟨fun h=>absurd h (by omega),fun _=>?_⟩;rintro _ rfl;have M2:=Mod.drew (S:=NoB) w1;have hS2:=hS1.mod' M2;obtain⟨g,f,op,kp,g',f',ov,kv,e1,e2,e3,e4,e5,e6,e7,e8,e9⟩:=hS2.at_ 0 ha;obtain⟨gz,fz,oz,kz,gz',fz',ovz,kvz,z1,z2,z3,z4,z5,z6,z7,z8,z9⟩:=hS2.at_ (es.length-1) hb;rw[e1]at z1;cases z1;have ew1:J7 Jg ((es.length:Int)-1)=((es.length-1:Nat):Int):=by rw[Z0 (by omega) (by omega)];omega
 rw[ew1];generalize w1.drew=w2 at *
 refine⟨_,e1,⟨by omega,by omega⟩,_,_,_,by rw[Z3];exact e3,_,e1,⟨by omega,by omega⟩,_,_,_,by rw[Z3,J];exact z3,?_⟩;refine ZGn e4 z4 l1 l2 (by rw[hsh];exact hlt) (fun w3 M3=>?_);rw[hsh];refine⟨fun _=>?_,fun h=>absurd h (by omega)⟩;have M13:=M2.none_trans M3;refine⟨⟨by omega,by omega⟩,⟨by omega,by omega⟩,?_⟩;rw[J,J,show i+p.length-i=p.length by omega]
 have hrp:RdB w3 (subO op kp i 1) p:=by
  have:=(e4.sub (c:=kp) (lo:=i) (n:=p.length) e5).mod' M3
  rwa[htake]at this
 refine(Z5l hrp (by omega) J0).mono ?_;rintro _ w4⟨o4,k4,rfl,F4⟩;have M14:=M13.none_trans F4.mod;have hr4:RdA (fun k=>A k\/k=N) w4 o4 (Z8a p J0).1:=⟨ZK F4,fun _ d hd hh=>hA1 w3 M13 _ (F4.new d.block ⟨d,hd,rfl⟩) hh⟩;refine⟨_,_,_,_,rfl,?_⟩;refine(Z4x hr4).mono ?_;rintro _ w5⟨u1,u2,u3,rfl,hI5,M5⟩;obtain⟨b5,p5,q5,r5,p6,q6,r6,rfl,rfl,rfl⟩:=hI5.vals;have M15:=M14.none_trans M5;refine⟨_,_,_,_,_,_,_,rfl,?_⟩;refine(hIt (hA1 w5 M15) (hS1.mod' M15) h64 hl (by omega) hRc).mono ?_;rintro _ w6⟨t1,t2,t3,rfl,hI6,M6⟩;obtain⟨b7,p7,q7,r7,p8,q8,r8,rfl,rfl,rfl⟩:=hI6.vals;have M16:=M15.none_trans M6;refine⟨_,_,_,_,_,_,_,rfl,?_⟩;have hbl:=Z41 (n:=c) hs.2;refine(Z5O hI6 (hA1 w6 M16) (by have:=Z8V (n:=c) hc.2.2.2;omega) (by have:=Z3H (Trie.itemOf c);unfold Trie.bytesOf at hbl;omega) (by unfold Trie.bytesOf at hbl;omega)).mono ?_;rintro _ w7⟨s1,s2,s3,rfl,hI7,M7⟩;obtain⟨b9,p9,q9,r9,p10,q10,r10,rfl,rfl,rfl⟩:=hI7.vals;have M17:=M16.none_trans M7;refine⟨_,_,_,_,_,_,_,rfl,?_⟩;rintro d8 w8⟨rfl,rfl⟩;have hpair:=ZH0 (ItC.mod (M6.none_trans M7) _ hI5) hI7 (hA1 w7 M17 _ (J2 _));have M8:=Mod.alloc (S:=NoB) w7 (W #[H b5,G p5 q5 r5,G p6 q6 r6,H b9,G p9 q9 r9,G p10 q10 r10] 111);have M18:=M17.none_trans M8;refine Z1J (V1.mod' M18) (fun w' Q=>hR' _ _ ⟨_,_,_,rfl,?_,ZI (M1.none_trans M18) Q (by omega)⟩);have:=ItC.restr (A':=A) (fun k _ h=>JP h) (ItC.modA Q (fun k hk=>JG hk) _ hpair);simp only[Trie.itemOf,Z1o];exact this
end
section
variable{A:Nat->Prop}{w0 w w':J5}
theorem Z4B.set{D:Nat}{xs:List It}{o:Option Addr}{l k:Nat}(h:Z4B A w0 w xs o l k)(Q:Vcg.Mod (·=D) w w')(hD:¬OB o D)(h0:w0.heap.size<=D)(hA:A D):Z4B A w0 w' xs o l k:=by
 obtain⟨h1,vs,F,h2⟩:=h;refine⟨h1,vs,⟨F.own.mod Q (fun b hb e=>hD (e ▸ hb)),ZI F.mod Q h0,F.new⟩,fun j hj=>?_⟩;obtain⟨v1,v2,v3,a,b,d,e⟩:=h2 j hj;exact⟨v1,v2,v3,a,b,d,ItC.modA Q (fun b hb=>JP (hb ▸ hA)) _ e⟩
theorem Z4B.its'{xs:List It}{o:Option Addr}{l k:Nat}(h:Z4B A w0 w xs o l k)(hA:∀b,OB o b->¬A b):Z1q A w xs o 0:=by
 obtain⟨rfl,vs,F,hv⟩:=h;refine ZES xs 0 (fun j hj=>?_);obtain⟨v1,v2,v3,a,b,d,e⟩:=hv j hj;obtain⟨g,ho,hc1⟩:=F.own.cell a;obtain⟨g',ho',hc2⟩:=F.own.cell b;obtain⟨g'',ho'',hc3⟩:=F.own.cell d;rw[ho]at ho' ho'';cases ho';cases ho'';rw[JA];exact⟨g,v1,v2,v3,ho,F.own.lt ⟨_,ho,rfl⟩,hA g ⟨_,ho,rfl⟩,hc1,hc2,hc3,ItC.mono (fun _ h=>JP h) _ e⟩
structure ZHv (A:Nat->Prop) (w0:J5) (O B:Nat) (w:J5) (xs:List It) (o:Option Addr) (k:Nat):Prop where
 blk:Blk w O 111 #[H JT,G Z 0 0,G o xs.length k]
 row:Z4B A w0 w xs o xs.length k
 new:∀b,OB o b->B<=b
theorem ZHv.mod'{O B k:Nat}{xs:List It}{o:Option Addr}(h:ZHv A w0 O B w xs o k)(M:Vcg.Mod NoB w w'):ZHv A w0 O B w' xs o k:=⟨h.blk.mod' M,h.row.mod' M,h.new⟩
theorem ZHv.lt{O B k:Nat}{xs:List It}{o:Option Addr}(h:ZHv A w0 O B w xs o k):∀b,OB o b->b<w.heap.size:=fun b hb=>by
 obtain⟨_,vs,F,_⟩:=h.row;exact F.own.lt hb
theorem ZHv.push{O B k D:Nat}{xs:List It}{o:Option Addr}{x:It}{v1 v2 v3:Value}(h:ZHv A w0 O B w xs o k)(hO:O<B)(h0:w0.heap.size<=O)(hAO:A O)(hB:B<=w.heap.size)(Y:Blk w D ZBR #[v1,v2,v3])(hx:ItC (fun b=>A b\/OB o b) w x v1 v2 v3)(hl:xs.length<=2^20) :
  ∃o' k' w1,Sem.run J3 (builtinV .append #[109,109] 109 #[G o xs.length k,G (JC ⟨D,0,Z⟩) 1 1]) w=.ok (G o' (xs.length+1) k') w1/\Z1 w1 ⟨O,2,Z⟩ (G o' (xs.length+1) k')/\ZHv A w0 O B (w1.setCell ⟨O,2,Z⟩ (G o' (xs.length+1) k')) (xs++[x]) o' k':=by
 obtain⟨o',k',w1,hr,hI,hM,hnew⟩:=h.row.push Y hx hl;have hob:¬OB o O:=fun hb=>by have:=h.new _ hb;omega
 have B1:=h.blk.mod hM (fun hb=>hob hb);have hnew':∀b,OB o' b->B<=b:=fun b hb=>(hnew b hb).elim (h.new b) (fun h=>Nat.le_trans hB h);refine⟨o',k',w1,hr,B1.canSet (by simp) rfl,?_⟩;have Q:=Mod.setCell w1 ⟨O,2,Z⟩ (G o' (xs.length+1) k');have hl1:(xs++[x]).length=xs.length+1:=by simp
 refine⟨?_,?_,hnew'⟩
 ·rw[hl1];exact B1.set 2 (G o' (xs.length+1) k')
 ·rw[hl1];exact hI.set (D:=O) Q (fun hb=>by have:=hnew' _ hb;omega) h0 hAO
theorem ZBY(A:Nat->Prop)(w:J5):ItC A w (.s []) (H J0) (G Z 0 0) (G Z 0 0):=by
 simp only[ItC];exact⟨trivial,⟨Z,0,rfl,RdB.nil _ _,fun h=>(h rfl).elim⟩,trivial⟩
theorem ZCK{cs:Fin 16->Nd}{v:By}(hIt:∀i,cs i≠.nil->ZF7 (cs i))(hc:Z0x (.branch cs v))(hs:Z58 (.branch cs v)):ZF7 (.branch cs v):=by
 intro A w es o0 o1 c0 c1 i hA hS h64 hl hi hR;refine ZD fun R hR'=>Z0V.vc _ _ _ _ _ _ _ _ _ ?_;unfold Z0V.Vc;obtain⟨k1,v1,k2,v2,g1,g2,hne⟩:=Z7L hc trivial;have h2:=hR.two g1 g2 hne.1;rw[Z4I (J2 _)]at h2;have hok:Z6f es 0 es.length i:=⟨by omega,J2 _,fun j hj _ _=>by rw[h64 _ (C hj)];exact hi⟩;have hsh:=hR.parts hc trivial (Z3D hok) (Z8d hok);simp only at hsh;have ha:0<es.length:=by omega
 have hb:es.length-1<es.length:=by omega
 have l1:=h64 _ (C ha);have l2:=h64 _ (C hb);have hk0:=hS.k0;have hk1:=hS.k1
 have hi64:i<64:=by
  refine Jd hi (fun e=>?_);have m1:=(hR.2 _ _).1 g1;have m2:=(hR.2 _ _).1 g2
  have len0:∀{x:By×By},x∈seg es 0 es.length i->x.1=[]:=fun hx=>by
   obtain⟨j,hj,_,_,rfl⟩:=Z6a (J2 _) hx;exact JX (by rw[h64 _ (C hj)];omega)
  exact hne.1 ((len0 m1).trans (len0 m2).symm)
 have hrest:∀{x:By×By},x∈seg es 0 es.length i->∃c r,x.1=c::r:=fun hx=>by
  obtain⟨j,hj,_,_,rfl⟩:=Z6a (J2 _) hx;exact⟨_,_,JQ (by rw[h64 _ (C hj)];exact hi64)⟩
 have hv0:v=[]:=by
  obtain⟨_,hv2,_⟩:=hR.value (ZBO hok);refine hv2 (fun e=>?_);obtain⟨c,r,hcr⟩:=hrest (Ja (Z3D hok));simp only at hcr e;rw[hcr]at e;cases e
 subst hv0;rintro d1 w1⟨rfl,rfl⟩;have M1:=Mod.alloc (S:=NoB) w (W #[H J0,G Z 0 0,G Z 0 0] 111);have V1:=Blk.new w 111 #[H J0,G Z 0 0,G Z 0 0];generalize hN:w.heap.size=N at *
 generalize w.alloc (W #[H J0,G Z 0 0,G Z 0 0] 111)=w1 at *
 have hs1:=M1.size;have hNlt:=V1.lt;refine⟨fun h=>absurd h (by omega),fun _=>?_⟩;rintro _ rfl;have M2:=Mod.drew (S:=NoB) w1;have hS2:=(hS.mod' M1).mod' M2;obtain⟨g,f,op,kp,g',f',ov,kv,e1,e2,e3,e4,e5,e6,e7,e8,e9⟩:=hS2.at_ 0 ha;obtain⟨gz,fz,oz,kz,gz',fz',ovz,kvz,z1,z2,z3,z4,z5,z6,z7,z8,z9⟩:=hS2.at_ (es.length-1) hb;rw[e1]at z1;cases z1;have ew1:J7 Jg ((es.length:Int)-1)=((es.length-1:Nat):Int):=by rw[Z0 (by omega) (by omega)];omega
 rw[ew1];have M02:=M1.none_trans M2;have V2:=V1.drew;generalize w1.drew=w2 at *
 refine⟨_,e1,⟨by omega,by omega⟩,_,_,_,by rw[Z3];exact e3,_,e1,⟨by omega,by omega⟩,_,_,_,by rw[Z3,J];exact z3,?_⟩;refine ZGn e4 z4 l1 l2 (by rw[hsh];exact hi64) (fun w3 M3=>?_);rw[hsh,Jf];refine⟨fun h=>absurd h (by omega),fun _=>?_⟩;rintro d4 w4⟨rfl,rfl⟩;have M4:=Mod.alloc (S:=NoB) w3 (W #[H J0,G Z 0 0,G Z 0 0] 111);have O4:=Blk.new w3 111 #[H J0,G Z 0 0,G Z 0 0];have V4:=(V2.mod' M3).mod' M4;have M04:=(M02.none_trans M3).none_trans M4;have hNO:N<w3.heap.size:=(V2.mod' M3).lt;clear e1 e2 e3 e4 e5 e6 e7 e8 e9 z2 z3 z4 z5 z6 z7 z8 z9 hS2 M3 M4 V1 V2 M2 M02;generalize hO:w3.heap.size=O at *
 generalize w3.alloc (W #[H J0,G Z 0 0,G Z 0 0] 111)=w4 at *
 refine Z9m (v1:=H JT) (v2:=G Z 0 0) (v3:=G Z 0 0) O4 rfl rfl rfl (fun w5 O5 Q5=>?_);have hO4:=O4.lt;have V5:=V4.mod Q5 (by omega);have M05:Vcg.Mod NoB w w5:=ZI M04 Q5 (by omega);have hB5:O<w5.heap.size:=O5.lt;generalize hB:w5.heap.size=B at *
 clear Q5 O4 V4 hO4 M04
 let A2:Nat->Prop:=fun k=>A k\/k=N\/k=O
 have hA2:∀k,B<=k->¬A2 k:=fun k hk hh=>by
  rcases hh with hh|hh|hh
  ·exact hA _ (by omega) hh
  ·omega
  ·omega
 have hSA:∀{w':J5},Vcg.Mod NoB w w'->ZFD A2 w' es o0 c0 o1 c1:=fun M=>(hS.restr (A':=A2) (fun k hk hh=>hh.elim id (fun h=>by omega))).mod' M
 let done:Nat->List It:=fun j=>((List.finRange 16).take j).map fun i=>ZY (Trie.itemOf (cs i))
 have hdl:∀j,j<=16->(done j).length=j:=fun j hj=>by simp only[done,JD,J6,List.length_finRange];omega
 refine⟨fun at_ c w'=>∃(x m:Nat)(o:Option Addr)(k:Nat),c=(x:Int)/\x<=16/\at_=(m:Int)/\m<=es.length/\(∀y∈seg es 0 m i,Z68 x y.1)/\(∀y∈seg es m es.length i,Z83 x y.1)/\Vcg.Mod NoB w w'/\B<=w'.heap.size/\Blk w' N 111 #[H J0,G Z 0 0,G Z 0 0]/\ZHv A2 w O B w' (done x) o k,
  fun _ c _=>(16-c).toNat,⟨0,0,Z,0,rfl,J8 _,rfl,J8 _,(fun y hy=>by rw[Z5c]at hy;cases hy),fun y hy=>?_,M05,Nat.le_of_eq hB.symm,V5,⟨O5,Z4B.nil M05,fun b hb=>(Z4j b hb).elim⟩⟩,?_⟩
 ·obtain⟨c,r,hcr⟩:=hrest hy
  rw[hcr];exact J8 _
 rintro _ _ _ w6⟨x,m,o,k,rfl,hx,rfl,hm,hlt,hge,M06,hB6,V6,I6⟩;have hO6:JB w6 (JE ⟨O,0,Z⟩ 2)=JC (G o (done x).length k):=by rw[Z3];exact I6.blk.rd1 rfl
 refine⟨fun hx16=>?_,fun hx16=>?_⟩
 ·have hx':x<16:=by omega
  have hxb:(JS x).toNat=x:=by rw[UInt8.toNat_ofNat'];omega
  have hS6:=hSA M06;refine⟨fun n w'=>w'=w6/\∃e:Nat,n=(e:Int)/\m<=e/\e<=es.length/\(∀y∈seg es m e i,∃r,y.1=JS x::r)/\(∀y,(seg es e es.length i).head?=JC y->∀c r,y.1=c::r->c.toNat≠x),?_,?_⟩
  ·refine⟨fun n w'=>w'=w6/\∃e:Nat,n=(e:Int)/\m<=e/\e<=es.length/\(∀y∈seg es m e i,∃r,y.1=JS x::r),fun n _=>((es.length:Int)-n).toNat,⟨rfl,m,rfl,J2 _,hm,by rw[Z5c];intro y hy;cases hy⟩,?_⟩
   rintro _ _ w6⟨rfl,e,rfl,he1,he2,hrun⟩;refine⟨fun heb=>?_,fun heb=>⟨rfl,e,rfl,he1,he2,hrun,by rw[show e=es.length by omega,Z5c];intro y hy;cases hy⟩⟩;have hel:e<es.length:=by omega
   obtain⟨g,f,op,kp,g',f',ov,kv,e1,e2,e3,e4,e5,e6,e7,e8,e9⟩:=hS6.at_ e hel;have l64:=h64 _ (C hel);obtain⟨qb,qf,rfl,hqb,hqc⟩:=Z0t e4 (show i<es[e].1.length by omega);have hdd:=JQ (show i<es[e].1.length by omega);have hok_e:Z6f es e es.length i:=⟨hel,J2 _,fun j hj q1 q2=>by rw[h64 _ (C hj)];exact hi⟩;refine⟨_,e1,⟨by omega,by omega⟩,_,_,_,by rw[Z3,J];exact e3,_,rfl,⟨by omega,by omega⟩,_,by rw[Z3,J];exact hqc,fun hq=>?_,fun hq=>?_⟩
   ·have hcx:es[e].1[i]=JS x:=by apply UInt8.toNat_inj.1;rw[hxb];exact_mod_cast hq
    have ew:J7 Jg ((e:Int)+1)=((e+1:Nat):Int):=by rw[Z0 (by omega) (by omega)];omega
    rw[ew];refine⟨⟨rfl,e+1,rfl,by omega,by omega,?_⟩,by dsimp only;omega⟩;intro y hy;rw[Z1c he1 (Jq e)]at hy;rcases List.mem_append.1 hy with hy|hy
    ·exact hrun y hy
    ·obtain⟨j,hj,q1,q2,rfl⟩:=Z6a (by omega) hy
     obtain rfl:j=e:=by omega
     exact⟨_,by rw[hdd,hcx]⟩
   ·refine⟨rfl,e,rfl,he1,he2,hrun,?_⟩
    rw[Z3D hok_e];rintro y hy c' r' hy1 he';cases hy;simp only[hdd]at hy1;cases hy1;exact hq (by exact_mod_cast he')
  ·rintro _ _ w6⟨rfl,e,rfl,he1,he2,hrun,hstop⟩
   have hspl:seg es 0 es.length i=seg es 0 m i++(seg es m e i++seg es e es.length i):=by rw[<-Z1c he1 he2,<-Z1c (J8 _) hm]
   have hpw:(seg es m es.length i).Pairwise (fun x y=>ltB x.1 y.1):=by
    have:=hR.1;rw[Z1c (J8 _) hm]at this;exact(List.pairwise_append.1 this).2.1
   have hge':=ZHC hpw (Z1c he1 he2) hge hstop;have hkid:=hR.kid ⟨x,hx'⟩ hspl hlt hrun hge';rw[<-ZBN]at hkid
   have hlt':∀y∈seg es 0 e i,Z68 (x+1) y.1:=by
    intro y hy;rw[Z1c (J8 _) he1]at hy;rcases List.mem_append.1 hy with hy|hy
    ·exact Z9B (hlt y hy) (Jq x)
    ·obtain⟨r,hr⟩:=hrun y hy
     rw[hr];show(JS x).toNat<x+1;omega
   have edone:done (x+1)=done x++[ZY (Trie.itemOf (cs ⟨x,hx'⟩))]:=by
    simp only[done];rw[ZAz hx',Jh];rfl
   have ewx:J7 .u8 ((x:Int)+1)=((x+1:Nat):Int):=by
    have:∀q:Fin 16,J7 .u8 ((q.val:Int)+1)=((q.val+1:Nat):Int):=by decide +kernel
    exact this ⟨x,hx'⟩
   rw[ewx];have hdx:=hdl x hx;have hdx':=hdl (x+1) (by omega)
   have more:∀{w7:J5}{D:Nat}{y:It}{v1 v2 v3:Value},Vcg.Mod NoB w6 w7->Blk w7 D ZBR #[v1,v2,v3]->ItC (fun b=>A2 b\/OB o b) w7 y v1 v2 v3->y=ZY (Trie.itemOf (cs ⟨x,hx'⟩)) ->
     ∃(v138:Value)(w139:J5),Sem.run J3 (builtinV .append #[109,109] 109 #[(G o (done x).length k),(G (JC ⟨D,0,Z⟩) 1 1)]) w7=.ok v138 w139/\∃o140:Option Addr,∃l141:Nat,∃l142:Nat,v138=(G o140 l141 l142)/\Z1 w139 (JE ⟨O,0,Z⟩ 2) (G o140 l141 l142)/\∀w143:J5,ZA w139 (JE ⟨O,0,Z⟩ 2) (G o140 l141 l142) w143 ->
     (∃(x_1 m:Nat)(o:Option Addr)(k:Nat),((x+1:Nat):Int)=(x_1:Int)/\x_1<=16/\(e:Int)=(m:Int)/\m<=es.length/\(∀y∈seg es 0 m i,Z68 x_1 y.1)/\(∀y∈seg es m es.length i,Z83 x_1 y.1)/\Vcg.Mod NoB w w143/\B<=w143.heap.size/\Blk w143 N 111 #[H J0,G Z 0 0,G Z 0 0]/\ZHv A2 w O B w143 (done x_1) o k)/\(16-((x+1:Nat):Int)).toNat<(16-(x:Int)).toNat:=by
    intro w7 D y v1 v2 v3 M7 Y hy he;subst he;have I7:=I6.mod' M7;obtain⟨o8,k8,w8,hr8,hcs,I8⟩:=I7.push hB5 (by omega) (JG (JG rfl)) (by have:=M7.size;omega) Y hy (by omega);have hV7:=V6.mod' M7;obtain⟨_,_,w8',hr8',hI8,hM8,_⟩:=I7.row.push Y hy (by omega);have e8:=hr8'.symm.trans hr8;cases e8;have hNo:¬OB o N:=fun h=>by have:=I6.new _ h;omega
    refine⟨_,w8,hr8,_,_,_,rfl,?_⟩;rw[Z3,JA];refine⟨hcs,?_⟩;rintro _ rfl;rw[<-edone]at I8;have hsz:=(Mod.setCell w8 ⟨O,2,Z⟩ (G o8 ((done x).length+1) k8)).size;have hsz8:=hM8.size;have hsz7:=M7.size;exact⟨⟨x+1,e,o8,k8,rfl,by omega,rfl,he2,hlt',hge',I8.row.fmod,by omega,(hV7.mod hM8 hNo).set_ne (by show N≠O;omega),I8⟩,by omega⟩
   refine⟨fun hem=>?_,fun hem=>?_⟩
   ·obtain rfl:e=m:=by omega
    rw[Z5c]at hkid;have hnil:=hkid.nil_inv (hc.1 _);refine⟨_,_,_,hO6,?_⟩;rintro d7 w7⟨rfl,rfl⟩;refine more (Mod.alloc w6 _) (Blk.new w6 111 #[H J0,G Z 0 0,G Z 0 0]) (ZBY _ _) ?_;rw[hnil];unfold ZY;rw[if_neg (by simp[Trie.itemOf,enc,own,Trie.Z3P])];rfl
   ·have hme:m<e:=by omega
    have hnn:cs ⟨x,hx'⟩≠.nil:=hkid.ne (fun e'=>by
     have:=Z4I (es:=es) (a:=m) (b:=e) (i:=i+1) he2;rw[e']at this;simp at this;omega)
    rintro _ rfl;have M7:=Mod.drew (S:=NoB) w6;generalize w6.drew=w7 at *
    refine⟨_,_,_,by rw[Z3];exact(I6.blk.mod' M7).rd1 rfl,⟨by omega,by omega⟩,⟨by omega,by omega⟩,⟨by omega,by omega⟩,⟨by omega,by omega⟩,?_⟩;rw[J,J];have ewi:J7 Jg ((i:Int)+1)=((i+1:Nat):Int):=by rw[Z0 (by omega) (by omega)];omega
    rw[ewi]
    let A3:Nat->Prop:=fun b=>A2 b\/OB o b
    have hA3:∀w',Vcg.Mod NoB w6 w'->∀b,w'.heap.size<=b->¬A3 b:=fun w' M b hb hh=>by
     have:=M.size;rcases hh with hh|hh
     ·exact hA2 b (by omega) hh
     ·have:=I6.lt b hh;omega
    have hsubl:((es.drop m).take (e-m)).length=e-m:=by rw[J6,J1];omega
    have hS7:ZFD A3 w7 es o0 c0 o1 c1:=(hS.restr (A':=A3) (fun k hk hh=>hh.elim (fun h=>h.elim id (fun h=>by omega)) (fun h=>by have:=I6.new k h;omega))).mod' (M06.none_trans M7)
    have hcall:=hIt ⟨x,hx'⟩ hnn (hA3 w7 M7) (hS7.sub he1 he2) (fun y hy=>h64 y (Jb (Jc hy))) (by omega) (show i+1<=64 by omega) (by
     have e':seg ((es.drop m).take (e-m)) 0 ((es.drop m).take (e-m)).length (i+1)=seg es m e (i+1):=by
      unfold seg;rw[Jj,Jm,JU]
     rw[e'];exact hkid)
    rw[hsubl]at hcall;refine hcall.mono ?_;rintro _ w8⟨t1,t2,t3,rfl,hI8,M8⟩;obtain⟨b7,p7,q7,r7,p8,q8,r8,rfl,rfl,rfl⟩:=hI8.vals;have M68:=M7.none_trans M8;have cO:∀{w':J5},Vcg.Mod NoB w6 w'->JB w' (JE ⟨O,0,Z⟩ 2)=JC (G o (done x).length k):=fun M=>by rw[Z3];exact(I6.blk.mod' M).rd1 rfl
    refine⟨_,_,_,_,_,_,_,rfl,cO M68,?_⟩;have hsm:=hs.2 ⟨x,hx'⟩;have hbl:=Z41 hsm;refine(Z5O hI8 (hA3 w8 M68) (by have:=Z8V (hc.1 ⟨x,hx'⟩);omega) (by have:=Z3H (Trie.itemOf (cs ⟨x,hx'⟩));unfold Trie.bytesOf at hbl;omega) (by unfold Trie.bytesOf at hbl;omega)).mono ?_;rintro _ w9⟨u1,u2,u3,rfl,hI9,M9⟩;obtain⟨b9,p9,q9,r9,p10,q10,r10,rfl,rfl,rfl⟩:=hI9.vals;have M69:=M68.none_trans M9;refine⟨_,_,_,_,_,_,_,rfl,cO M69,?_⟩;rintro d10 w10⟨rfl,rfl⟩;have M10:=Mod.alloc (S:=NoB) w9 (W #[H b9,G p9 q9 r9,G p10 q10 r10] 111);refine⟨cO (M69.none_trans M10),?_⟩;exact more (M69.none_trans M10) (Blk.new w9 111 #[H b9,G p9 q9 r9,G p10 q10 r10]) (ItC.mod M10 _ hI9) rfl
 ·obtain rfl:x=16:=by omega
  have hd16:=hdl 16 (J2 _);refine⟨_,_,_,hO6,?_⟩;rintro d7 w7⟨rfl,rfl⟩;have M7:=Mod.alloc (S:=NoB) w6 (W #[H J0,G Z 0 0,G Z 0 0] 111);have Y7:=Blk.new w6 111 #[H J0,G Z 0 0,G Z 0 0];have I7:=I6.mod' M7;have hV7:=V6.mod' M7;obtain⟨o8,k8,w8,hr8,hcs,I8⟩:=I7.push hB5 (by omega) (JG (JG rfl)) (by have:=M7.size;omega) Y7 (ZBY _ _) (by omega);obtain⟨_,_,w8',hr8',hI8,hM8,_⟩:=I7.row.push Y7 (ZBY _ _) (by omega);have e8:=hr8'.symm.trans hr8;cases e8;have hNo:¬OB o N:=fun h=>by have:=I6.new _ h;omega
  refine⟨_,w8,hr8,_,_,_,rfl,?_⟩;rw[Z3,JA];refine⟨hcs,?_⟩;rintro _ rfl;have V9:=(hV7.mod hM8 hNo).set_ne (a:=⟨O,2,Z⟩) (v:=G o8 ((done 16).length+1) k8) (by show N≠O;omega);have hl17:(done 16++[It.s []]).length=(done 16).length+1:=by simp
  have hblk:=I8.blk;rw[hl17]at hblk;generalize w8.setCell ⟨O,2,Z⟩ (G o8 ((done 16).length+1) k8)=w9 at *
  refine Z60 hblk ?_;refine Z1J V9 (fun w' Q=>hR' _ _ ⟨_,_,_,rfl,?_,ZI I8.row.fmod Q (by omega)⟩);have hits:=I8.row.its' (fun b hb=>hA2 b (I8.new b hb))
  have hit:ItC A2 w9 (.l (done 16++[It.s []])) (H JT) (G Z 0 0) (G o8 ((done 16).length+1) k8):=by
   simp only[ItC];obtain⟨_,vs,F,_⟩:=I8.row;have:=F.own.cap.1;exact⟨trivial,trivial,_,_,by rw[hl17],hits,this⟩
  have e6:It.l (done 16++[It.s []])=Trie.itemOf (.branch cs []):=by
   simp only[done,Trie.itemOf];rw[JW (by simp)]
  rw[e6]at hit;exact ItC.restr (A':=A) (fun k _ h=>JP h) (ItC.modA Q (fun k hk=>JG (JP hk)) _ hit)
theorem Z5N:∀(n:Nd),Z0x n->Z58 n->n≠.nil->ZF7 n
 | .nil,_,_,h=>(h rfl).elim
 | .leaf p v,_,_,_=>ZFO p v
 | .row p c,hc,hs,_=>ZGd (Z5N c hc.2.2.2 hs.2 (fun e=>by have:=hc.2.2.1;rw[e]at this;exact this.elim)) hc hs
 | .branch cs v,hc,hs,_=>ZCK (fun i hi=>Z5N (cs i) (hc.1 i) (hs.2 i) hi) hc hs
end
theorem ZCe:∀(l:List (By×By)) (n:Nd),Z0x n->(∀e∈l,Nib e.1/\e.2≠[])->(l.map Prod.fst).Nodup->Z0x (l.foldl (fun n e=>Trie.put n e.1 e.2) n)/\∀k v,Trie.get (l.foldl (fun n e=>Trie.put n e.1 e.2) n) k=JC v↔(k,v)∈l\/(k ∉ l.map Prod.fst/\Trie.get n k=JC v)
 |[],n,hc,_,_=>⟨hc,fun k v=>by simp⟩
 |e::r,n,hc,hl,hn=>by
  rw[JK,List.nodup_cons]at hn;obtain⟨q1,q2,_,q4⟩:=Z8C hc (hl e (by simp)).1 (hl e (by simp)).2;obtain⟨i1,i2⟩:=ZCe r _ q1 (fun x hx=>hl x (by simp[hx])) hn.2;refine⟨i1,fun k v=>?_⟩;rw[List.foldl_cons,i2,q4,Jk,JK,Jk,not_or];by_cases hk:k=e.1
  ·subst hk
   have hv:(e.1,v) ∉ r:=fun h=>hn.1 (List.mem_map.2 ⟨_,h,rfl⟩);rw[if_pos rfl];constructor
   ·rintro(h|⟨_,h⟩)
    ·exact(hv h).elim
    ·cases h;exact JP (JP rfl)
   ·rintro((h|h)|h)
    ·exact JG ⟨hn.1,by rw[<-h]⟩
    ·exact(hv h).elim
    ·exact(h.1.1 rfl).elim
  ·rw[if_neg hk]
   have hv:(k,v)≠e:=fun h=>hk (by rw[<-h]);simp[hk,hv]
section
variable{E:RS}{a b:By}{P:RS}{D:Nat}{w w':J5}{lab lab':Nat->Nat}{U:List By}
theorem ZEu(hE:EOk E a b)(p:By):Z0x (subNd E p)/\ZE4 (subNd E p)/\Rep ((under E p).map fun e=>((nibbles e.1).drop p.length,e.2)) (subNd E p):=by
 have hs:((under E p).map fun e=>((nibbles e.1).drop p.length,e.2)).Pairwise fun x y=>ltB x.1 y.1:=by
  rw[List.pairwise_map];refine List.Pairwise.imp_of_mem (fun{x y} hx hy hxy=>?_) (hE.srt.filter _);have h1:=Z3c hxy;rw[ZAj hx,ZAj hy,Z4T]at h1;exact h1
 obtain⟨h1,h2⟩:=ZCe ((under E p).map fun e=>((nibbles e.1).drop p.length,e.2)) .nil trivial (fun e he=>by
  obtain⟨x,hx,rfl⟩:=List.mem_map.1 he;exact⟨(Zs x.1).drop _,(hE.vals x (Z1P.1 hx).1).1⟩) (List.pairwise_map.2 (hs.imp (fun hlt e=>by rw[e]at hlt;exact Z29 _ hlt)))
 have h3:∀k v,Trie.get (subNd E p) k=JC v↔(k,v)∈(under E p).map fun e=>((nibbles e.1).drop p.length,e.2):=fun k v=>by
  unfold subNd;rw[h2];simp[Trie.get]
 refine⟨h1,fun k v hk=>?_,hs,h3⟩;obtain⟨x,hx,he⟩:=List.mem_map.1 ((h3 k v).1 hk);obtain⟨rfl,rfl⟩:=Prod.mk.inj he;have h64:=Z9H hE (Z1P.1 hx).1;exact⟨by rw[J1];omega,(hE.vals x (Z1P.1 hx).1).2⟩
theorem ZEt(hE:EOk E a b)(p:By):dep (Trie.itemOf (subNd E p))<=16/\count (Trie.itemOf (subNd E p))<=4096/\(enc (Trie.itemOf (subNd E p))).length<=65536:=by
 obtain⟨h1,h2,_⟩:=ZEu hE p;have hb:=Z41 (Z3X h1 h2);unfold Trie.bytesOf at hb;have:=Z3H (Trie.itemOf (subNd E p));have:=Z8V h1;omega
theorem ZHI{p:By}{fr to:Nat}(hu:under E p=(E.drop fr).take (to-fr))(hft:fr<=to)(hto:to<=E.length):(((ZT E).drop fr).take (to-fr)).length=to-fr/\seg (((ZT E).drop fr).take (to-fr)) 0 (((ZT E).drop fr).take (to-fr)).length p.length=(under E p).map fun e=>((nibbles e.1).drop p.length,e.2):=by
 refine⟨?_,?_⟩
 ·unfold ZT
  rw[J6,J1,JD];omega
 ·unfold seg ZT
  rw[Jj,Jm,JU,hu,<-List.map_drop,<-List.map_take,List.map_map];rfl
theorem ZJz{A:Nat->Prop}(hA:∀b,A b->lab b≠0){op ol:Option Addr}{kp kl:Nat}(e4:Z3M w lab 4 6 (Z69 E) op E.length kp)(e5:Z2J w lab 0 ol E)(hkl:E.length<=kl):ZFD A w (ZT E) op kp ol kl:=by
 have hl:(ZT E).length=E.length:=JD _;obtain⟨hn,vs,hO,hC⟩:=id e4;refine⟨by rw[hl];exact hO.own.cap.1,by omega,fun j hj=>?_⟩;rw[hl]at hj;obtain⟨g,ob,kb,rfl,h2,h3,h4⟩:=e4.get (j:=j) (by simpa using hj);obtain⟨g',f',ok,kk,ov,kv,q1,q2,q3,q4,q5,q6,q7⟩:=e5 j hj;have hp:(ZT E)[j]'(by omega)=(nibbles E[j].1,E[j].2):=JV _;rw[JV]at h2 h3 h4;rw[hp];exact⟨g,0,ob,kb,g',f',ov,kv,rfl,hO.own.lt ⟨_,rfl,rfl⟩,by rw[JA];exact h2,h3.rd,h4,q1,q2,q6,q7.rd,fun hne d hd h=>hA _ h (q7.clr hne d hd)⟩
theorem zref{A:Nat->Prop}{w:J5}:RfC A w (.s []) (rfA zeros32 Z J0):=JP ⟨rfl,zeros32,rfl,Z5k,rfl⟩
theorem ZDw(hE:EOk E a b)(hl:E.length<=2^20)(hI:VfS E a b P D w lab U){o:Option Addr}{k:Nat}{path:By}(hp:CBy w lab 6 o path)(hpl:path.length<=64) :
  JN J3 Z0M.n #[JH (JC ⟨D,0,Z⟩),G o path.length k] w (fun e w'=>∃L,e=J4 (JJ L)/\Vcg.Mod NoB w w'/\RfC (fun _=>False) w' (Z54 E path) L):=by
 refine ZD fun R hR=>Z0M.vc _ _ _ _ _ _ ?_;unfold Z0M.Vc;rintro d2 w1⟨rfl,rfl⟩;rw[Z5X];have M1:=Mod.alloc (S:=NoB) w (W (rfA zeros32 Z J0) 82);have st1:Stp NoS w lab (w.alloc (W (rfA zeros32 Z J0) 82)) (ext lab w.heap.size 5):=Stp.alloc NoS w lab _ 5;have V1:=CB.new w lab 5 82 (rfA zeros32 Z J0);have I1:=hI.no st1;have P1:=hp.stp st1 (fun h=>h);have hs1:=J2 w.heap.size;generalize hN:w.heap.size=N at *
 generalize w.alloc (W (rfA zeros32 Z J0) 82)=w1 at *
 generalize ext lab N 5=lab1 at *
 refine(Z6c hE hl I1 P1).mono ?_;rintro _ w2⟨M2,fr,to,rfl,hft,hto,hu⟩;have st2:Stp NoS w1 lab1 w2 (ext lab1 w1.heap.size 5):=Stp.of_nob M2 5;have V2:=V1.stp st2 (fun h=>h);have I2:=I1.no st2;have M02:=M1.none_trans M2;generalize ext lab1 w1.heap.size 5=lab2 at *
 have fin:∀(w3:J5)(x:It)(L:Array Value),Vcg.Mod NoB w2 w3->RfC (fun b=>b=N) w3 x L->x=Z54 E path->∃w4:J5,Sem.run J3 (Instr.storeAt 82 (JH (JC ⟨N,0,Z⟩)) (JJ L)) w3=.ok () w4/\∃L':Array Value,ZG w4 ⟨N,0,Z⟩ 34 L'/\R (J4 (JJ L')) w4:=by
  intro w3 x L M3 hL hx;obtain⟨w5,hr5,V5,Q5⟩:=Z21 (x:=x) (A:=NoB) (w0:=w) (V2.blk.mod' M3) (Z0E rfl _ _) hL.size hL.one;exact⟨w5,hr5,L,V5.rowAll hL.size,hR _ _ ⟨L,rfl,ZI (M02.none_trans M3) Q5 (by omega),by rw[<-hx];exact(hL.modA Q5 (fun k hk=>hk)).restr (fun k _ h=>h.elim)⟩⟩
 have hul:(under E path).length=to-fr:=by rw[hu,J6,J1];omega
 refine⟨_,_,rfl,fun he=>?_,fun hne=>?_⟩
 ·have hn:under E path=[]:=J9 (by omega)
  exact fin w2 _ (rfA zeros32 Z J0) (Mod.refl w2) zref (Z9D.1 ((ZDo hE path).2 hn)).symm
 ·rintro _ rfl
  have I3:=I2.no (Stp.drew NoS w2 lab2);have V3:=V2.stp (Stp.drew NoS w2 lab2) (fun h=>h);have M3:=(Mod.refl (S:=NoB) w2).step_drew;generalize w2.drew=w3 at *
  obtain⟨oa,ka,ob,kb,op,kp,ol,kl,mS,m,e1,e2,e3,e4,e5,e6,e7,_⟩:=I3.ex;have hsg':=ZJz (A:=fun b=>b=N) (fun b e=>by rw[e,V3.clr];decide) e4 e5 e6;have hsg:=hsg'.sub hft (show to<=(ZT E).length by unfold ZT;rw[JD];exact hto);obtain⟨hlen,hseg⟩:=ZHI hu hft hto;obtain⟨hc,hfit,hrep⟩:=ZEu hE path;have hnn:subNd E path≠.nil:=hrep.ne (fun h=>by have:=congrArg Jp h;rw[JD]at this;simp only[Ji]at this;omega);rw[<-hseg]at hrep;obtain⟨hf1,hf2,hf3⟩:=ZEt hE path
  have h64:∀e∈((ZT E).drop fr).take (to-fr),e.1.length=64:=fun e he=>by
   obtain⟨x,hx,rfl⟩:=List.mem_map.1 (Jb (Jc he));exact Z9H hE hx
  have hkp:E.length<=kp:=by
   have:=hsg'.k0;unfold ZT at this;rw[JD]at this;exact this
  have hV3:=V3.blk.lt
  have call:∀(B:Nat) w',(B<w3.heap.size->B=N)->B<w'.heap.size->Vcg.Mod NoB w3 w'->JN J3 Z0V.n #[G (subO op kp fr 1) (to-fr) (kp-fr),G (subO ol kl fr 2) (to-fr) (kl-fr),Jn Jg (path.length:Int)] w' (fun e w''=>∃v1 v2 v3,e=J4 (JJ #[v1,v2,v3])/\ItC (fun b=>b=N\/b=B) w'' (Trie.itemOf (subNd E path)) v1 v2 v3/\Vcg.Mod NoB w' w''):=fun B w' hB hB' M=>by
   have:=Z5N (subNd E path) hc (Z3X hc hfit) hnn (A:=fun b=>b=N\/b=B) (w:=w') (fun b hb e=>by have:=M.size;omega) ((hsg.restr (fun k hk h=>h.elim id (fun e=>by subst e;exact hB hk))).mod' M) h64 (by omega) hpl hrep;rw[hlen]at this;exact this
  refine⟨_,_,_,by rw[Z3];exact e1.blk.rd1 rfl,⟨by omega,by omega⟩,⟨by omega,by omega⟩,_,_,_,by rw[Z3];exact e1.blk.rd1 rfl,⟨by omega,by omega⟩,⟨by omega,by omega⟩,?_⟩;simp only[J];refine⟨(call N w3 (fun _=>rfl) hV3 (Mod.refl w3)).mono ?_,?_⟩
  ·rintro _ w4⟨u1,u2,u3,rfl,hI4,M4⟩
   obtain⟨b8,p8,q8,r8,p9,q9,r9,rfl,rfl,rfl⟩:=hI4.vals;refine⟨_,_,_,_,_,_,_,rfl,?_⟩;rintro d5 w5⟨rfl,rfl⟩;have M5:=Mod.alloc (S:=NoB) w4 (W #[H J0,G Z 0 0,G Z 0 0] 111);have X5:=Blk.new w4 111 #[H J0,G Z 0 0,G Z 0 0];have h4:=M4.size;generalize hN5:w4.heap.size=N5 at *
   generalize w4.alloc (W #[H J0,G Z 0 0,G Z 0 0] 111)=w5 at *
   have hI5:ItC (fun b=>b=N\/b=N5) w5 (Trie.itemOf (subNd E path)) (H b8) (G p8 q8 r8) (G p9 q9 r9):=ItC.mod M5 _ (ItC.restr (fun k hk h=>JP (h.resolve_right (by omega))) hI4);refine Z1J X5 (fun w6 Q6=>?_);have hI6:=ItC.modA Q6 (fun k hk=>JG hk) _ hI5;have M36:=ZI (M4.none_trans M5) Q6 (by omega);refine(Z9T (A:=fun b=>b=N) (ItC.restr (fun k hk h=>JP h) hI6) (fun k hk e=>by have:=M36.size;omega) (ZER _) hf1 hf2 hf3).mono ?_;rintro _ w7⟨L,rfl,M7,hL⟩;exact⟨L,rfl,fin w7 _ L ((M3.none_trans M36).none_trans M7) hL rfl⟩
  ·rintro d4 w4⟨rfl,rfl⟩
   have M4:=Mod.alloc (S:=NoB) w3 (W #[H J0,G Z 0 0,G Z 0 0] 111);have X4:=Blk.new w3 111 #[H J0,G Z 0 0,G Z 0 0];have hM4:=M4.size;generalize hN4:w3.heap.size=N4 at *
   generalize w3.alloc (W #[H J0,G Z 0 0,G Z 0 0] 111)=w4 at *
   refine⟨by rw[Z3];exact(e1.blk.mod' M4).rd1 rfl,by rw[Z3];exact(e1.blk.mod' M4).rd1 rfl,(call N4 w4 (fun h=>by omega) X4.lt M4).mono ?_⟩;rintro _ w5⟨u1,u2,u3,rfl,hI5,M5⟩;obtain⟨b8,p8,q8,r8,p9,q9,r9,rfl,rfl,rfl⟩:=hI5.vals;refine⟨_,_,_,_,_,_,_,rfl,?_⟩;refine Z1J (X4.mod' M5) (fun w6 Q6=>?_);have hI6:=ItC.modA Q6 (fun k hk=>JG hk) _ hI5;have M36:=ZI (M4.none_trans M5) Q6 (by omega);refine(Z9T (A:=fun b=>b=N) (ItC.restr (fun k hk h=>JP h) hI6) (fun k hk e=>by have:=M36.size;omega) (ZER _) hf1 hf2 hf3).mono ?_;rintro _ w7⟨L,rfl,M7,hL⟩;exact⟨L,rfl,fin w7 _ L ((M3.none_trans M36).none_trans M7) hL rfl⟩
def ZKG(E:RS)(j:Nat):Nd:=((E.take j).map fun e=>((nibbles e.1).drop 0,e.2)).foldl (fun n e=>Trie.put n e.1 e.2) .nil
theorem ZH7(hE:EOk E a b){j:Nat}(hj:j<E.length):ZEl (ZKG E j) E[j].1 E[j].2=(0,ZKG E (j+1)):=by
 have h1:=hE.keys E[j] (C hj);have h2:=hE.vals E[j] (C hj);unfold ZEl;rw[if_neg (by omega),if_neg (fun h=>h.elim h2.1 (fun h=>by have:=h2.2;omega))];unfold ZKG;rw[List.take_add_one,JI hj,Option.toList_some,Jh,List.foldl_append];rfl
theorem ZDy(hE:EOk E a b)(hl:E.length<=2^20)(hI:VfS E a b P D w lab U) :
  JN J3 Z0O.n #[JH (JC ⟨D,0,Z⟩)] w (fun e w'=>∃L,e=J4 (JJ L)/\Vcg.Mod NoB w w'/\RfC (fun _=>False) w' (rootIt (Trie.Z2K (subNd E []))) L):=by
 refine ZD fun R hR=>Z0O.vc _ _ _ ?_;unfold Z0O.Vc;rintro d1 w1⟨rfl,rfl⟩;rw[Z5X];have hend:subNd E []=ZKG E E.length:=by unfold subNd ZKG;rw[Z5i,JU];rfl
 have M1:=Mod.alloc (S:=NoB) w (W (rfA zeros32 Z J0) 82);have V1:=Blk.new w 82 (rfA zeros32 Z J0);have I1:=hI.no (Stp.alloc NoS w lab (W (rfA zeros32 Z J0) 82) 5);generalize hN:w.heap.size=N at *
 generalize w.alloc (W (rfA zeros32 Z J0) 82)=w1 at *
 have fin:∀(w3:J5)(x:It)(L:Array Value),Vcg.Mod NoB w1 w3->RfC (fun b=>b=N) w3 x L->x=rootIt (Trie.Z2K (subNd E []))->∃w4:J5,Sem.run J3 (Instr.storeAt 82 (JH (JC ⟨N,0,Z⟩)) (JJ L)) w3=.ok () w4/\∃L':Array Value,ZG w4 ⟨N,0,Z⟩ 34 L'/\R (J4 (JJ L')) w4:=by
  intro w3 x L M3 hL hx;obtain⟨w5,hr5,V5,Q5⟩:=Z21 (x:=x) (A:=NoB) (w0:=w) (V1.mod' M3) (Z0E rfl _ _) hL.size hL.one;exact⟨w5,hr5,L,V5.rowAll hL.size,hR _ _ ⟨L,rfl,ZI (M1.none_trans M3) Q5 (by omega),by rw[<-hx];exact(hL.modA Q5 (fun k hk=>hk)).restr (fun k _ h=>h.elim)⟩⟩
 obtain⟨oa,ka,ob,kb,op,kp,ol,kl,mS,m,e1,e2,e3,e4,e5,e6,e7,_⟩:=I1.ex;refine⟨_,_,_,by rw[Z3];exact e1.blk.rd1 rfl,fun h0=>?_,fun hne=>?_⟩
 ·obtain rfl:E=[]:=J9 (by omega)
  exact fin w1 _ (rfA zeros32 Z J0) (Mod.refl w1) zref (by unfold subNd under Trie.Z2K;simp only[List.filter_nil,List.map_nil,List.foldl_nil];rw[Z6k];unfold rootIt;rw[if_pos (by rfl)])
 refine(Z4i w1).mono ?_;rintro _ w2⟨rfl,M2⟩;refine JG ⟨_,rfl,?_⟩;refine(ZFh w2 0).mono ?_;rintro _ w3⟨t,v,rfl,M3,ht,T⟩;have M13:=M2.none_trans M3;have T3:=ZIn (L:=fun _=>0) M3 ht T;refine JG ⟨_,rfl,_,_,_,by rw[Z3];exact(e1.blk.mod' M13).rd1 rfl,?_⟩;refine⟨fun i w'=>∃(j:Nat)(L:Nat->Nat),i=(j:Int)/\j<=E.length/\Z6h w' L 1 2 t (ZKG E j)/\Vcg.Mod NoB w1 w'/\∀k,k<w1.heap.size->L k≠1,fun i _=>((E.length:Int)-i).toNat,⟨0,_,rfl,J8 _,T3,M13,fun k hk=>?_⟩,?_⟩
 ·rw[Z1M (JO hk M2.size)];exact Nat.zero_ne_one
 rintro _ _ w4⟨j,L,rfl,hj,T4,M4,hL4⟩;refine⟨fun hlt=>?_,fun hge=>?_⟩
 ·have hjl:j<E.length:=by omega
  obtain⟨g,f,ok,kk,ov,kv,q1,q2,q3,q4,q5,q6,q7⟩:=e5 j hjl;refine⟨_,q1,⟨by omega,by omega⟩,_,_,_,_,_,_,by rw[J,Z3,ZN M4 q2 (fun h=>h)];exact q4,by rw[J,Z3,Z3,JL,ZN M4 q2 (fun h=>h)];exact q6,?_⟩;refine ZGr (lab:=L) (c:=3) rfl rfl (fun w5 st5 X5=>?_);have M45:Vcg.Mod NoB w4 w5:=st5.mod (fun k hk hs=>hs.elim);have T5:=T4.stp st5 (fun h=>h) (fun h=>h);have M5:=M4.none_trans M45;have hL5:=ZI9 (q:=3) M4.size hL4;generalize w4.heap.size=N5 at *
  generalize ext L N5 3=L5 at *
  refine⟨_,_,_,X5.blk.rd1 rfl,_,_,_,by rw[Z3];exact X5.blk.rd1 rfl,?_⟩;refine(ZG0 T5 (by decide) (q5.rd.mod' M5) (q7.rd.mod' M5)).mono ?_;rintro _ w6⟨rfl,s6,T6⟩;rw[ZH7 hE hjl]at T6 ⊢;refine JG ⟨_,rfl,(Z1D w6 0).mono ?_⟩;rintro _ w7⟨rfl,he⟩;rw[if_pos rfl]at he;obtain⟨M6,hL6⟩:=ZK4 M5 hL5 s6;exact JG ⟨he,⟨j+1,_,by rw[Z0 (by omega) (by omega)];omega,by omega,T6,M6,hL6⟩,by dsimp only;rw[Z0 (by omega) (by omega)];omega⟩
 ·obtain rfl:j=E.length:=by omega
  refine(ZFC T4).mono ?_;rintro _ w5⟨rfl,M5⟩;refine JG ⟨_,rfl,?_⟩;have M15:=M4.none_trans M5;refine(Z5Y (A:=fun b=>b=N) (by unfold Trie.Z2K;exact ZO _)).mono ?_;rintro _ w6⟨L',rfl,M6,hL'⟩;exact JG ⟨L',rfl,fin w6 _ L' (M15.none_trans M6) hL' (by rw[hend])⟩
end
section
variable{A A':Nat->Prop}{w w':J5}
theorem ZCf{x y:It}{v1 v2 v3 u1 u2 u3:Value}(hx:ItC A w x v1 v2 v3)(hy:ItC A' w y u1 u2 u3)(fx:ZA1 x)(fy:ZA1 y) :
  JN J3 Z4W.n #[JJ #[v1,v2,v3],JJ #[u1,u2,u3]] w (fun e w'=>e=J4 (H (decide (enc x=enc y)))/\Vcg.Mod NoB w w'):=by
 obtain⟨b,o1,l1,c1,o2,l2,c2,rfl,rfl,rfl⟩:=hx.vals;obtain⟨b',o3,l3,c3,o4,l4,c4,rfl,rfl,rfl⟩:=hy.vals;refine ZD fun R hR=>Z4W.vc _ _ _ _ _ _ _ _ _ _ _ _ _ _ _ _ ?_;unfold Z4W.Vc;rintro d1 w1⟨rfl,rfl⟩;have M1:=Mod.alloc (S:=NoB) w (W #[H b,G o1 l1 c1,G o2 l2 c2] 111);have X1:=Blk.new w 111 #[H b,G o1 l1 c1,G o2 l2 c2];generalize w.alloc (W #[H b,G o1 l1 c1,G o2 l2 c2] 111)=w1 at *
 generalize w.heap.size=D1 at *
 rintro d2 w2⟨rfl,rfl⟩;have M12:=Mod.alloc (S:=NoB) w1 (W #[H b',G o3 l3 c3,G o4 l4 c4] 111);have Y2:=Blk.new w1 111 #[H b',G o3 l3 c3,G o4 l4 c4];have X2:=X1.mod' M12;have M2:=M1.none_trans M12;generalize w1.alloc (W #[H b',G o3 l3 c3,G o4 l4 c4] 111)=w2 at *
 generalize w1.heap.size=D2 at *
 refine Z60 X2 ?_;refine(Z3F (ItC.mod M2 _ hx) fx.1 fx.2.1 fx.2.2).mono ?_;rintro _ w3⟨ox,kx,rfl,F3⟩;have M3:=M2.none_trans F3.mod;refine⟨_,_,_,_,rfl,Z60 (Y2.mod' F3.mod) ?_⟩;refine(Z3F (ItC.mod M3 _ hy) fy.1 fy.2.1 fy.2.2).mono ?_;rintro _ w4⟨oy,ky,rfl,F4⟩;refine⟨_,_,_,_,rfl,fun _=>⟨fun _=>?_,fun h=>(h rfl).elim⟩,fun h=>(h rfl).elim⟩;refine(Z2q (F3.own.bytes.mod' F4.mod) F4.own.bytes).mono ?_;rintro _ w5⟨rfl,rfl⟩;exact⟨_,rfl,hR _ _ ⟨rfl,M3.none_trans F4.mod⟩⟩
theorem ZDC{w:J5}(x y:Operand)(a b:Bool):Sem.run J3 (Z02 .eql 4 x y (H a) (H b)) w=.ok (H (a == b)) w:=by
 cases a<;>cases b<;>kernel_rfl
theorem ZJT{w:J5}(x y:Operand)(a b:Bool):Sem.run J3 (Z02 .neq 4 x y (H a) (H b)) w=.ok (H (a != b)) w:=by
 cases a<;>cases b<;>kernel_rfl
theorem RfC.view{x:It}{L:Array Value}(h:RfC A w x L):∃hs p,hs.length=32/\L=rfA hs p (!isE x)/\(isE x=J0->(p=Z/\∃b,x=.s b/\b.length=32/\∀i,i<32->hs[i]?=(hashA b)[i]?)\/∃D xs v1 v2 v3,p=JC ⟨D,0,Z⟩/\x=.l xs/\Blk w D 111 #[v1,v2,v3]/\ItC A w (.l xs) v1 v2 v3):=by
 cases x with
 |s b =>
  rcases h with⟨rfl,hs,h1,_,rfl⟩|⟨h1,rfl⟩
  ·exact⟨hs,Z,h1,rfl,fun h=>(by cases h)⟩
  ·refine⟨_,Z,Z1O b,?_,fun _=>JP ⟨rfl,b,rfl,h1,fun i _=>JZ⟩⟩
   cases b with
   |nil=>cases h1
   |cons c r=>rfl
 |l xs =>
  obtain⟨D,v1,v2,v3,rfl,_,h2,h3⟩:=h;exact⟨zeros32,_,rfl,rfl,fun _=>JG ⟨D,xs,v1,v2,v3,rfl,rfl,h2,h3⟩⟩
theorem ZJn(p q:Bool):(p == q)=((!p) == (!q)):=by cases p<;>cases q<;>rfl
theorem ZJy{x y:It}(h:(isE x||isE y)=JT):Z2n x y=((!isE x) == (!isE y)):=by
 unfold Z2n;rw[if_pos h];exact ZJn _ _
theorem ZBH{x y:It}{L1 L2:Array Value}(hx:RfC A w x L1)(hy:RfC A' w y L2)(fx:∀xs,x=.l xs->ZA1 x)(fy:∀xs,y=.l xs->ZA1 y) :
  JN J3 Z1h.n #[JJ L1,JJ L2] w (fun e w'=>e=J4 (H (Z2n x y))/\Vcg.Mod NoB w w'):=by
 refine ZD fun R hR=>Z1h.vc _ _ _ _ ?_;unfold Z1h.Vc;obtain⟨h1,p1,hl1,rfl,k1⟩:=hx.view;obtain⟨h2,p2,hl2,rfl,k2⟩:=hy.view;rintro d1 w1⟨rfl,rfl⟩;have M1:=Mod.alloc (S:=NoB) w (W (rfA h1 p1 (!isE x)) 82);have X1:=Blk.new w 82 (rfA h1 p1 (!isE x));generalize w.alloc (W (rfA h1 p1 (!isE x)) 82)=w1 at *
 generalize w.heap.size=D1 at *
 rintro d2 w2⟨rfl,rfl⟩;have M12:=Mod.alloc (S:=NoB) w1 (W (rfA h2 p2 (!isE y)) 82);have Y2:=Blk.new w1 82 (rfA h2 p2 (!isE y));have X2:=X1.mod' M12;have M2:=M1.none_trans M12;generalize w1.alloc (W (rfA h2 p2 (!isE y)) 82)=w2 at *
 generalize w1.heap.size=D2 at *
 have cx:∀{w'},Vcg.Mod NoB w2 w'->JB w' (JE ⟨D1,0,Z⟩ 33)=JC (H (!isE x)):=fun M=>by rw[Z3];exact(X2.mod' M).rd1 (Z78 hl1)
 have cy:∀{w'},Vcg.Mod NoB w2 w'->JB w' (JE ⟨D2,0,Z⟩ 33)=JC (H (!isE y)):=fun M=>by rw[Z3];exact(Y2.mod' M).rd1 (Z78 hl2)
 have px:∀{w'},Vcg.Mod NoB w2 w'->JB w' (JE ⟨D1,0,Z⟩ 32)=JC (JH p1):=fun M=>by rw[Z3];exact(X2.mod' M).rd1 (Z8H hl1)
 have py:∀{w'},Vcg.Mod NoB w2 w'->JB w' (JE ⟨D2,0,Z⟩ 32)=JC (JH p2):=fun M=>by rw[Z3];exact(Y2.mod' M).rd1 (Z8H hl2)
 have M0:=Mod.refl (S:=NoB) w2;have hE:(isE x||isE y)=JT->Z2n x y=((!isE x) == (!isE y)):=ZJy;refine⟨_,cx M0,fun hf=>⟨_,cx M0,_,cy M0,_,ZDC _ _ _ _,_,rfl,?_⟩,fun ht=>⟨_,cy M0,fun hf=>⟨_,cx M0,_,cy M0,_,ZDC _ _ _ _,_,rfl,?_⟩,fun ht'=>?_⟩⟩
 ·have:isE x=JT:=by revert hf;cases isE x<;>decide
  rw[<-hE (by rw[this];rfl)];exact hR _ _ ⟨rfl,M2⟩
 ·have:isE y=JT:=by revert hf;cases isE y<;>decide
  rw[<-hE (by rw[this,Bool.or_true])];exact hR _ _ ⟨rfl,M2⟩
 have ex:isE x=J0:=by revert ht;cases isE x<;>decide
 have ey:isE y=J0:=by revert ht';cases isE y<;>decide
 refine⟨_,px M0,_,py M0,_,ZJT _ _ _ _,_,rfl,?_⟩;have hs:¬(isE x||isE y)=JT:=by rw[ex,ey];decide
 rcases k1 ex with⟨rfl,g1,rfl,hg1,he1⟩|⟨E1,xs,v1,v2,v3,rfl,rfl,B1,I1⟩<;>rcases k2 ey with⟨rfl,g2,rfl,hg2,he2⟩|⟨E2,ys,u1,u2,u3,rfl,rfl,B2,I2⟩
 ·refine⟨fun h=>(by cases h),fun _=>⟨_,px M0,fun _=>⟨_,X2.rowAt (ZB g1) (fun i hi=>by rw[JA,ZCh hl1 hi,he1 i hi]),_,Y2.rowAt (ZB g2) (fun i hi=>by rw[JA,ZCh hl2 hi,he2 i hi]),_,ZB1 _ _ hg1 hg2,_,rfl,?_⟩,fun h=>(h rfl).elim⟩⟩
  rw[show decide (g1=g2)=Z2n (.s g1) (.s g2) by unfold Z2n;rw[if_neg hs]];exact hR _ _ ⟨rfl,M2⟩
 ·exact⟨fun _=>hR _ _ ⟨by unfold Z2n;rw[if_neg hs],M2⟩,fun h=>(by cases h)⟩
 ·exact⟨fun _=>hR _ _ ⟨by unfold Z2n;rw[if_neg hs],M2⟩,fun h=>(by cases h)⟩
 ·refine⟨fun h=>(by cases h),fun _=>⟨_,px M0,fun h=>(by cases h),fun _=>?_⟩⟩
  rintro _ rfl;have M3:=M0.step_drew;generalize w2.drew=w3 at *
  obtain⟨b1,q1,r1,s1,q2,r2,s2,rfl,rfl,rfl⟩:=I1.vals;obtain⟨b2,q3,r3,s3,q4,r4,s4,rfl,rfl,rfl⟩:=I2.vals;have M03:=M2.none_trans M3;refine⟨_,px M3,_,rfl,Z60 (B1.mod' M03) ⟨_,py M3,_,rfl,Z60 (B2.mod' M03) ?_⟩⟩;refine(ZCf (ItC.mod M03 _ I1) (ItC.mod M03 _ I2) (fx xs rfl) (fy ys rfl)).mono ?_;rintro _ w4⟨rfl,M4⟩;exact⟨_,rfl,hR _ _ ⟨by unfold Z2n;rw[if_neg hs],M03.none_trans M4⟩⟩
end
section
variable{E:RS}{a b:By}{P:RS}{D:Nat}{w w':J5}{lab lab':Nat->Nat}{U:List By}
theorem ZHS(hE:EOk E a b)(p:By):∀xs,Z54 E p=.l xs->ZA1 (Z54 E p):=fun xs hx=>by
 unfold Z54 Trie.Z2U Trie.ZY at *
 split at hx
 ·cases hx
 ·rename_i h
  rw[if_neg h];exact ZEt hE p
theorem ZIb{A A':Nat->Prop}{w w':J5}{h:By}{L:Array Value}(k:RfC A w (rootIt h) L):RfC A' w' (rootIt h) L:=by
 unfold rootIt at *
 split at k<;>rename_i h
 ·rw[if_pos h];exact k
 ·rw[if_neg h];exact k
theorem ZHn(hE:EOk E a b)(p:By):∀xs,Z7O E p=.l xs->ZA1 (Z7O E p):=fun xs hx=>by
 unfold Z7O at *
 split at hx
 ·unfold rootIt at hx
  split at hx<;>cases hx
 ·rename_i h
  rw[if_neg h];exact ZHS hE p xs hx
theorem ZDz(hE:EOk E a b)(hl:E.length<=2^20)(hI:VfS E a b P D w lab U){x:It}{L:Array Value}(hL:RfC (fun b=>lab b≠6) w x L)(hg:Z2p x){o:Option Addr}{k:Nat}{path:By}(hp:CBy w lab 6 o path)(hpl:path.length<=64) :
  JN J3 Z0P.n #[JH (JC ⟨D,0,Z⟩),JJ L,G o path.length k] w (fun e w'=>Vcg.Mod NoB w w'/\ZHz (if Z2n x (Z7O E path)then Z else JC 163) e):=by
 refine ZD fun R hR=>Z0P.vc _ _ _ _ _ _ _ ?_;unfold Z0P.Vc;rintro d1 w1⟨rfl,rfl⟩;have M1:=Mod.alloc (S:=NoB) w (W L 82);have st1:Stp NoS w lab (w.alloc (W L 82)) (ext lab w.heap.size 5):=Stp.alloc NoS w lab _ 5;have X1:=Blk.new w 82 L;have I1:=hI.no st1;have P1:=hp.stp st1 (fun h=>h);have hsz:=hL.size;generalize w.alloc (W L 82)=w1 at *
 generalize w.heap.size=D1 at *
 generalize ext lab D1 5=lab1 at *
 refine(ZDw hE hl I1 P1 hpl).mono ?_;rintro _ w2⟨L2,rfl,M2,hL2⟩;refine JG ⟨L2,rfl,?_⟩;rintro d3 w3⟨rfl,rfl⟩;rw[Z5X];have M13:=M2.trans (Mod.alloc (S:=NoB) w2 (W (rfA zeros32 Z J0) 82)) (fun _ _ h=>h);have V3:=Blk.new w2 82 (rfA zeros32 Z J0);have hL3:=hL2.mod' (Mod.alloc (S:=NoB) w2 (W (rfA zeros32 Z J0) 82));have hD3:=M2.size;have hL3':RfC (fun b=>b=w2.heap.size) (w2.alloc (W (rfA zeros32 Z J0) 82)) (Z54 E path) L2:=(hL2.restr (A':=fun b=>b=w2.heap.size) (fun b hb e=>by omega)).mod' (Mod.alloc (S:=NoB) w2 (W (rfA zeros32 Z J0) 82));generalize w2.alloc (W (rfA zeros32 Z J0) 82)=w3 at *
 generalize w2.heap.size=D3 at *
 obtain⟨w4,hr4,V4,Q4⟩:=Z21 (x:=Z54 E path) (A:=NoB) (w0:=w) V3 (Z0E rfl _ _) hL3.size hL3.one;have M14:=ZI M13 Q4 hD3;have hL4:=hL3'.modA Q4 (fun b h=>h);refine⟨w4,hr4,fun w'=>∃L',Vcg.Mod NoB w1 w'/\Blk w' D3 82 L'/\L'.size=34/\RfC (fun _=>False) w' (Z7O E path) L',⟨fun h0=>?_,fun hne=>?_⟩,?_⟩
 ·obtain rfl:path=[]:=J9 (by omega)
  refine(ZDy hE hl (I1.nob M14)).mono ?_;rintro _ w5⟨L5,rfl,M5,hL5⟩;obtain⟨w6,hr6,V6,Q6⟩:=Z21 (x:=rootIt (Trie.Z2K (subNd E []))) (A:=NoB) (w0:=w) (V4.mod' M5) hL3.size hL5.size hL5.one;exact JG ⟨L5,rfl,w6,hr6,L5,ZI (M14.none_trans M5) Q6 hD3,V6,hL5.size,by unfold Z7O;rw[if_pos rfl];exact ZIb hL5⟩
 ·exact⟨L2,M14,V4,hL3.size,by unfold Z7O;rw[if_neg (by rintro rfl;exact hne rfl)];exact hL4.restr (fun _ _ h=>h.elim)⟩
 ·rintro _ w5⟨L5,M5,V5,hs5,hL5⟩
  have M05:=M1.none_trans M5;refine⟨L,(X1.mod' M5).rowAll hsz,L5,V5.rowAll hs5,?_⟩;refine(ZBH (hL.mod' M05) hL5 (fun xs e=>by subst e;exact hg.node.choose_spec.2) (ZHn hE path)).mono ?_;rintro _ w6⟨rfl,M6⟩;refine JG ⟨_,rfl,fun hf=>?_,fun ht=>?_⟩
  ·refine ZGT (by decide) (hR _ _ ⟨M05.none_trans M6,?_⟩)
   rw[if_neg (by rw[hf];decide)];exact⟨rfl,by decide⟩
  ·refine hR _ _ ⟨M05.none_trans M6,?_⟩
   rw[if_pos ht];exact rfl
end
theorem ZFU{P:RS}{U U':List By}{x:It}{xs:List It}(hg:Z2p x)(h:Z4t P U x=(U',.ok xs)):Z2p (.l xs):=by
 cases x with
 |l ys=>cases h;exact hg
 |s b =>
  simp only[Z4t]at h;split at h
  ·cases h
  ·split at h
   ·cases h
   ·split at h
    ·cases h
    ·rename_i hc
     obtain⟨ys,hd,_,hgy⟩:=Z2t (Decidable.not_not.1 hc);rw[hd]at h;cases h;exact hgy
theorem ZKg{A:Nat->Prop}{w:J5}{xs:List It}{bb:Bool}{s1 s2 s3:Option Addr×Nat×Nat}(h:NvC A w xs bb s1 s2 s3):s1.2.1=Z7A xs/\Z7A xs<=130:=by
 unfold Z7A;rcases h with⟨p,v,h1,h2,_,_,h5,_⟩|⟨p,D,L,h1,h2,_,h4,_⟩|⟨g,v,h1,_,_,rfl,_⟩
 ·rw[if_pos h1,h2];exact⟨h5,Z7s h2⟩
 ·rw[if_pos h1,h2];exact⟨h4,Z7s h2⟩
 ·rw[if_neg (by omega)];exact⟨rfl,J8 _⟩
section
variable{E:RS}{a b:By}{P:RS}{D:Nat}{w w':J5}{lab lab':Nat->Nat}{U:List By}
theorem ZHm{f:Nat}{x:It}{p:By}(h:p.length>64):visV E a b P f U x p=(U,JC 161):=by
 cases f with
 |zero=>rfl
 |succ f=>simp only[visV];rw[if_pos h]
theorem ZIv{f:Nat}{x:It}{p:By}(h:¬p.length>64)(h1:Z0C a b p= -1):visV E a b P (f+1) U x p=(U,Z):=by
 simp only[visV];rw[if_neg h,if_pos h1]
theorem ZK7{f:Nat}{x:It}{p:By}(h:¬p.length>64)(h1:Z0C a b p=1):visV E a b P (f+1) U x p=(U,if Z2n x (Z7O E p)then Z else JC 163):=by
 simp only[visV];rw[if_neg h,if_neg (by rw[h1];decide),if_pos h1]
theorem ZK8{f:Nat}{x:It}{p:By}(h:¬p.length>64)(h1:Z0C a b p=0)(hE:isE x=JT):visV E a b P (f+1) U x p=(U,if under E p=[]then Z else JC 163):=by
 simp only[visV];rw[if_neg h,if_neg (by rw[h1];decide),if_neg (by rw[h1];decide),if_pos hE]
def ZKs(E:RS)(a b:By)(P:RS)(f:Nat)(xs:List It)(path:By)(U':List By):List By×Option Int :=
 if path.length+Z7A xs>64 then(U',JC 161)else match ZD1 E a b xs path with
  |some e=>(U',JC e)
  |none=>if(under E path).all (fun e=>ZA9 xs ((nibbles e.1).drop path.length))then
    eachW (fun U x q=>if isE x then(U,Z)else visV E a b P f U x q) U' xs path
   else(U',JC 163)
theorem ZK9{f:Nat}{x:It}{p:By}(h:¬p.length>64)(h1:Z0C a b p=0)(hE:isE x=J0){U':List By}{xs:List It}(hn:Z4t P U x=(U',.ok xs)):visV E a b P (f+1) U x p=ZKs E a b P f xs p U':=by
 simp only[visV];rw[if_neg h,if_neg (by rw[h1];decide),if_neg (by rw[h1];decide),if_neg (by rw[hE];decide),hn];rfl
theorem ZIu{f:Nat}{x:It}{p:By}(h:¬p.length>64)(h1:Z0C a b p=0)(hE:isE x=J0){U':List By}{e:Int}(hn:Z4t P U x=(U',.error e)):visV E a b P (f+1) U x p=(U',JC e):=by
 simp only[visV];rw[if_neg h,if_neg (by rw[h1];decide),if_neg (by rw[h1];decide),if_neg (by rw[hE];decide),hn]
theorem ZBu{fr to:Nat}{p:By}{xs:List It}(hu:under E p=(E.drop fr).take (to-fr))(hto:to<=E.length):((under E p).all fun e=>ZA9 xs ((nibbles e.1).drop p.length))=JT↔∀i (hi:i<E.length),fr<=i->i<to->ZA9 xs ((nibbles E[i].1).drop p.length)=JT:=by
 rw[List.all_eq_true,hu];constructor
 ·intro h i hi h1 h2
  refine h E[i] (List.mem_iff_getElem.2 ⟨i-fr,by rw[J6,J1];omega,?_⟩);rw[JR,JF];congr 1;omega
 ·intro h e he
  obtain⟨i,hi,rfl⟩:=List.mem_iff_getElem.1 he;rw[J6,J1]at hi;rw[JR,JF];exact h _ (by omega) (by omega) (by omega)
theorem ZDu(hE:EOk E a b)(hl:E.length<=2^20)(hb:∀x∈P,x.2.length<=2^30):∀(f:Nat) {w:J5} {lab:Nat->Nat} {U:List By} {x:It} {L:Array Value} {o:Option Addr} {k:Nat} {path:By},VfS E a b P D w lab U->RfC (fun b=>lab b≠6) w x L->Z2p x->CBy w lab 6 o path->path.length<=k->Nib path->66<=f+path.length ->
  JN J3 Zh.n #[JH (JC ⟨D,0,Z⟩),JJ L,G o path.length k] w (fun e w'=>∃lab',Stp SN w lab w' lab'/\VfS E a b P D w' lab' (visV E a b P f U x path).1/\ZHz (visV E a b P f U x path).2 e):=by
 intro f
 induction f with
 |zero =>
  intro w lab U x L o k path hI hL hg hp hk hnib hf;refine ZD fun R hR=>Zh.vc _ _ _ _ _ _ _ ?_;unfold Zh.Vc;rintro d7 w1⟨rfl,rfl⟩;have st1:Stp NoS w lab (w.alloc (W L 82)) (ext lab w.heap.size 5):=Stp.alloc NoS w lab _ 5;refine⟨fun _=>False,⟨fun _=>ZGT (by decide) (hR _ _ ⟨_,st1.mono (fun _ h=>h.elim),hI.no st1,rfl,by decide⟩),fun h=>absurd h (by omega)⟩,fun _ _ h=>h.elim⟩
 |succ f ih =>
  intro w lab U x L o k path hI hL hg hp hk hnib hf;refine ZD fun R hR=>Zh.vc _ _ _ _ _ _ _ ?_;unfold Zh.Vc;rintro d7 w1⟨rfl,rfl⟩;have st1:Stp NoS w lab (w.alloc (W L 82)) (ext lab w.heap.size 5):=Stp.alloc NoS w lab _ 5;have X1:=CB.new w lab 5 82 L;have I1:=hI.no st1;have P1:=hp.stp st1 (fun h=>h);have hL1:=hL.stp st1 (fun h=>h);generalize w.heap.size=D1 at *
  generalize w.alloc (W L 82)=w1 at *
  generalize ext lab D1 5=lab1 at *
  have fin:∀{w' lab' U' r},Stp SN w lab w' lab'->VfS E a b P D w' lab' U'->visV E a b P (f+1) U x path=(U',r)->∀e,ZHz r e->R e w':=fun st I he e hb=>hR _ _ ⟨_,st,by rw[he];exact I,by rw[he];exact hb⟩;refine⟨fun w'=>w'=w1/\¬path.length>64,⟨fun h=>ZGT (by decide) (fin (st1.mono (fun _ h=>h.elim)) I1 (ZHm (by omega)) _ ⟨rfl,by decide⟩),fun h=>⟨rfl,by omega⟩⟩,?_⟩;rintro _ w1⟨rfl,hl64⟩;obtain⟨oa,ka,ob,kb,op,kp,ol,kl,mS,m,e1,e2,e3,e4,e5,e6,e7,_⟩:=id I1.ex;refine⟨_,_,_,_,_,_,e1.blk.rd1 rfl,by rw[Z3];exact e1.blk.rd1 rfl,?_⟩;refine(ZAR (k:=k) e2.rd e3.rd P1.rd (by omega)).mono ?_;rintro _ w2⟨rfl,M2⟩;have st2:Stp NoS w1 lab1 w2 (ext lab1 w1.heap.size 5):=Stp.of_nob M2 5;have I2:=I1.no st2;have X2:=X1.stp st2 (fun h=>h);have P2:=P1.stp st2 (fun h=>h);have hL2:=hL1.stp st2 (fun h=>h);have s2:=st1.trans st2;clear e1 e2 e3 e4 e5 e6 e7 I1 X1 P1 hL1 st1 st2 M2;generalize ext lab1 w1.heap.size 5=lab2 at *
  refine JG ⟨_,rfl,fun h1=>?_,fun h1=>⟨fun h0=>?_,fun h0=>?_⟩⟩
  ·have ho:Z0C a b path= -1:=by
     unfold Z6A at h1;split at h1
     ·assumption
     ·split at h1<;>cases h1
   exact fin (s2.mono (fun _ h=>h.elim)) I2 (ZIv hl64 ho) _ rfl
  ·have ho:Z0C a b path=1:=by
     unfold Z6A at h0;split at h0
     ·cases h0
     ·split at h0
      ·assumption
      ·cases h0
   refine⟨L,X2.blk.rowAll hL2.size,?_⟩;refine(ZDz hE hl I2 hL2 hg P2 (by omega)).mono ?_;rintro e w3⟨M3,hb3⟩;have st3:Stp NoS w2 lab2 w3 (ext lab2 w2.heap.size 5):=Stp.of_nob M3 5;have hfin:=fin ((s2.trans st3).mono (fun _ h=>h.elim)) (I2.no st3) (ZK7 hl64 ho);revert hb3 hfin;split
   ·intro hb3 hfin;obtain rfl:=hb3;exact JG ⟨rfl,hfin _ rfl⟩
   ·intro hb3 hfin;obtain⟨rfl,hne⟩:=hb3;exact JP ⟨_,rfl,hfin _ ⟨rfl,hne⟩⟩
  have ho:Z0C a b path=0:=by
   rcases Z3a (a:=a) (b:=b) path with h|h|h
   ·exact(h1 (by unfold Z6A;rw[if_pos h])).elim
   ·exact(h0 (by unfold Z6A;rw[if_neg (by rw[h];decide),if_pos h])).elim
   ·exact h
  have hp63:path.length<64:=(Nat.lt_or_ge path.length 64).resolve_right (fun h=>ZCO (by omega) ho);refine(Z6c hE hl I2 P2).mono ?_;rintro _ w3⟨M3,fr,to,rfl,hft,hto,hu⟩;have st3:Stp NoS w2 lab2 w3 (ext lab2 w2.heap.size 5):=Stp.of_nob M3 5;have I3:=I2.no st3;have X3:=X2.stp st3 (fun h=>h);have P3:=P2.stp st3 (fun h=>h);have hL3:=hL2.stp st3 (fun h=>h);have s3:=s2.trans st3;clear I2 X2 P2 hL2 s2 st3 M3;generalize ext lab2 w2.heap.size 5=lab3 at *
  have hul:(under E path).length=to-fr:=by rw[hu,J6,J1];omega
  refine JG ⟨_,_,rfl,!isE x,by rw[Z3];exact X3.blk.rd1 (ZJv hL3),fun hf'=>?_,fun ht=>?_⟩
  ·have hx:isE x=JT:=by simpa using hf'
   have hv:=ZK8 (E:=E) (P:=P) (U:=U) (f:=f) hl64 ho hx;refine⟨fun hlt=>?_,fun hge=>?_⟩
   ·rw[if_neg (fun e=>by rw[e]at hul;simp only[Ji]at hul;omega)]at hv
    exact ZGT (by decide) (fin (s3.mono (fun _ h=>h.elim)) I3 hv _ ⟨rfl,by decide⟩)
   ·rw[if_pos (J9 (by omega))]at hv
    exact fin (s3.mono (fun _ h=>h.elim)) I3 hv _ rfl
  have hx:isE x=J0:=by simpa using ht
  refine⟨L,X3.blk.rowAll hL3.size,?_⟩;refine(ZDx hb I3 hL3 hg hx).mono ?_;rintro e w4⟨lab4,st4,I4,hres⟩;have P4:=P3.stp st4 (by decide);have s4:=(s3.mono (fun _ h=>h.elim)).trans st4;clear I3 X3 P3 hL3 s3 st4;cases hnr:Z4t P U x with
  |mk U' r =>
  rw[hnr]at I4 hres;cases r with
  |error er =>
   obtain⟨rfl,hne⟩:=hres;exact JP ⟨_,rfl,fin s4 I4 (ZIu hl64 ho hx hnr) _ ⟨rfl,hne⟩⟩
  |ok xs =>
  obtain⟨bb,s1,s2,s3,rfl,hn4⟩:=hres;have hgx:=ZFU hg hnr;have hstep:=ZK9 (E:=E) (f:=f) hl64 ho hx hnr;rw[hstep]at fin;unfold ZKs at fin;obtain⟨hs1,hs130⟩:=ZKg hn4;refine JG ⟨_,_,_,_,_,_,_,_,_,_,rfl,?_⟩;refine ZBA (lab:=lab4) (fun w5 lab5 N st5 N5=>?_);have I5:=I4.no st5;have P5:=P4.stp st5 (fun h=>h);have hn5:=hn4.stp st5 (fun h=>h);have s5:=s4.trans (st5.mono (T:=SN) (fun _ h=>h.elim));clear I4 P4 hn4 s4 st5 hstep;refine⟨fun w'=>w'=w5/\¬path.length+Z7A xs>64,⟨_,_,_,by rw[Z3];exact N5.blk.rd1 rfl,fun h=>?_,fun h=>?_⟩,?_⟩
  ·rw[Z0 (by omega) (by omega)]at h
   exact ZGT (by decide) (fin s5 I5 (if_pos (by omega)) _ ⟨rfl,by decide⟩)
  ·rw[Z0 (by omega) (by omega)]at h
   exact⟨rfl,by omega⟩
  rintro _ w5⟨rfl,hlen⟩;rw[if_neg hlen]at fin;refine get4 N5.blk ?_;refine(ZFW hE hl I5 hgx hn5 P5 (by omega)).mono ?_;rintro e w6⟨M6,hb6⟩;have st6:Stp NoS w5 lab5 w6 (ext lab5 w5.heap.size 5):=Stp.of_nob M6 5;have I6:=I5.no st6;have P6:=P5.stp st6 (fun h=>h);have N6:=N5.stp st6 (fun h=>h);have hn6:=hn5.stp st6 (fun h=>h);have s6:=s5.trans (st6.mono (T:=SN) (fun _ h=>h.elim));clear I5 P5 hn5 s5 st6 N5 M6;generalize ext lab5 w5.heap.size 5=lab6 at *
  cases hown:ZD1 E a b xs path with
  |some er =>
   rw[hown]at hb6 fin;obtain⟨rfl,hne⟩:=hb6;exact JP ⟨_,rfl,fin s6 I6 rfl _ ⟨rfl,hne⟩⟩
  |none =>
  rw[hown]at hb6 fin;obtain rfl:=hb6;obtain⟨oa,ka,ob,kb,op,kp,ol,kl,mS,m,e1,e2,e3,e4,e5,e6,e7,_⟩:=id I6.ex
  have hkp:E.length<=kp:=by
   obtain⟨_,vs,hO,_⟩:=e4;exact hO.own.cap.1
  refine JG ⟨rfl,_,_,_,by rw[Z3];exact e1.blk.rd1 rfl,⟨by omega,by omega⟩,⟨by omega,by omega⟩,?_⟩;simp only[J];refine⟨fun i w'=>∃j:Nat,i=(j:Int)/\j<=to-fr/\Vcg.Mod NoB w6 w'/\∀i(hi:i<E.length),fr<=i->i<fr+j->ZA9 xs ((nibbles E[i].1).drop path.length)=JT,fun i _=>(((to-fr:Nat):Int)-i).toNat,⟨0,rfl,J8 _,Mod.refl w6,fun i hi h1 h2=>absurd h1 (by omega)⟩,?_⟩;rintro _ _ w7⟨j,rfl,hj,M7,hcov⟩;have st7:Stp NoS w6 lab6 w7 (ext lab6 w6.heap.size 5):=Stp.of_nob M7 5;have I7:=I6.no st7;have P7:=P6.stp st7 (fun h=>h);have N7:=N6.stp st7 (fun h=>h);have hn7:=hn6.stp st7 (fun h=>h);have e47:=e4.stp st7 (fun h=>h) (fun h=>h);have s7:=s6.trans (st7.mono (T:=SN) (fun _ h=>h.elim));refine⟨fun hlt=>?_,fun hge=>?_⟩
  ·have hjl:fr+j<E.length:=by omega
   obtain⟨g,oe,ke,rfl,hc,hcb,hck⟩:=e47.get (j:=fr+j) (by rw[JD];exact hjl);rw[JV]at hc hcb hck;refine⟨⟨g,fr,Z⟩,?_,⟨by omega,by omega⟩,_,_,_,by rw[Z3];exact hc,get4 N7.blk ?_⟩
   ·unfold subO
    rw[if_neg (by omega)];simp only[Option.map_some,Jo];rw[Z3,JA]
   refine(ZAs (k:=k) hgx hn7 hcb.rd hck (by rw[Z9H hE (C hjl)];exact hp63) (Zs _)).mono ?_;rintro _ w8⟨M8,rfl⟩;refine JG ⟨_,rfl,fun hf8=>?_,fun ht8=>?_⟩
   ·rw[if_neg (fun h=>by rw[(ZBu hu hto).1 h _ hjl (by omega) (by omega)]at hf8;cases hf8)]at fin
    have st8:Stp NoS w7 (ext lab6 w6.heap.size 5) w8 (ext (ext lab6 w6.heap.size 5) w7.heap.size 5):=Stp.of_nob M8 5;exact ZGT (by decide) (fin (s7.trans (st8.mono (fun _ h=>h.elim))) (I7.no st8) rfl _ ⟨rfl,by decide⟩)
   ·refine⟨⟨j+1,by rw[Z0 (by omega) (by omega)];omega,by omega,M7.none_trans M8,fun i hi h1 h2=>?_⟩,by dsimp only;rw[Z0 (by omega) (by omega)];omega⟩
    by_cases he:i=fr+j
    ·subst he;exact ht8
    ·exact hcov i hi h1 (by omega)
  ·obtain rfl:j=to-fr:=by omega
   rw[if_pos ((ZBu hu hto).2 (fun i hi h1 h2=>hcov i hi h1 (by omega)))]at fin
   have V:ZKM (.func (.func 44) #[JH (JC ⟨D,0,Z⟩)] #[]) SN (fun w lab U=>VfS E a b P D w lab U) (fun U x q=>if isE x then(U,Z)else visV E a b P f U x q) (fun q=>66<=f+q.length) :=
    ⟨by decide,by decide,fun hI s=>hI.no s,fun h=>by rw[if_pos h],fun hI hL hg hne hp hk hnib hok=>by
     rw[if_neg (by rw[hne];decide)];exact⟨44,_,#[],rfl,by kernel_rfl,ih hI hL hg hp hk hnib hok⟩⟩
   refine get4 N7.blk ?_;refine(ZFH V I7 hgx hn7 P7 (by omega) hnib (fun q hq=>?_) (k:=k)).mono ?_
   ·have:0<q.length:=by cases q with|nil=>exact(hq rfl).elim|cons c r=>simp
    rw[List.length_append];omega
   rintro e w8⟨lab8,st8,I8,hb8⟩;have hfin:∀e,ZHz (eachW (fun U x q=>if isE x then(U,Z)else visV E a b P f U x q) U' xs path).2 e->R e w8:=fin (s7.trans st8) I8 rfl;revert hb8 hfin;generalize(eachW (fun U x q=>if isE x then(U,Z)else visV E a b P f U x q) U' xs path).2=r;intro hb8 hfin;cases r with
   |none=>obtain rfl:=hb8;exact JG ⟨rfl,hfin _ rfl⟩
   |some er=>obtain⟨rfl,hne⟩:=hb8;exact JP ⟨_,rfl,hfin _ ⟨rfl,hne⟩⟩
end
def ZKh(E:RS)(a b:By)(i:Nat)(hi:i<E.length):Prop:=E[i].1.length=32/\¬Z25 E[i].1 a<0/\¬Z25 E[i].1 b>0/\(∀h:0<i,¬Z25 (E[i-1]'(by omega)).1 E[i].1>=0)/\E[i].2.length≠0/\¬E[i].2.length>1024
def Z5A(E:RS)(a b:By):Prop:=∀i (hi:i<E.length),ZKh E a b i hi
theorem Z5A.srt{E:RS}{a b:By}(h:Z5A E a b):E.Pairwise fun x y=>ltB x.1 y.1:=by
 have h1:∀(d i:Nat)(hi:i+d+1<E.length),ltB (E[i]'(by omega)).1 E[i+d+1].1:=by
  intro d
  induction d with
  |zero =>
   intro i hi;have:=(h (i+0+1) hi).2.2.2.1 (by omega);simp only[Jf,Je]at this ⊢;exact Z1u.1 (by omega)
  |succ d ih =>
   intro i hi;have h2:=(h (i+(d+1)+1) hi).2.2.2.1 (by omega);refine Z3J (ih i (by omega)) (Z1u.1 ?_);simp only[Je,<-JL]at h2 ⊢;omega
 refine List.pairwise_iff_getElem.2 (fun i j hi hj hij=>?_);have:=h1 (j-i-1) i (by omega);simp only[show i+(j-i-1)+1=j by omega]at this;exact this
theorem ZJF{k a:By}(h:¬Z25 k a<0):¬ltB (nibbles k) (nibbles a):=fun hlt=>by
 rcases Z7k k a with h1|h1|h1
 ·exact h (Z1u.2 h1)
 ·rw[h1]at hlt;exact Z29 _ hlt
 ·exact Z29 _ (Z3J hlt (Z3c h1))
theorem Z5A.eok{E:RS}{a b:By}(h:Z5A E a b):EOk E (nibbles a) (nibbles b) where
 keys e he:=by
  obtain⟨i,hi,rfl⟩:=JM he;exact(h i hi).1
 inr e he:=by
  obtain⟨i,hi,rfl⟩:=JM he;obtain⟨h1,h2,h3,_⟩:=h i hi;have hl:(nibbles E[i].1).length=64:=by rw[ZQ,h1]
  have e1:Z57 (nibbles E[i].1)=nibbles E[i].1:=by unfold Z57;rw[hl];simp
  have e2:hi64 (nibbles E[i].1)=nibbles E[i].1:=by unfold hi64;rw[hl];simp
  have q1:=ZJF h2;have q2:¬ltB (nibbles b) (nibbles E[i].1):=ZJF (k:=b) (a:=E[i].1) (by rw[Z1u,<-Z7Z];exact h3);rw[<-Z1u]at q1;rw[<-Z7Z]at q2;unfold Z0C;rw[e1,e2,if_neg (fun h=>h.elim q1 q2),if_pos ⟨by omega,by omega⟩]
 srt:=h.srt
 vals e he:=by
  obtain⟨i,hi,rfl⟩:=JM he;obtain⟨_,_,_,_,h5,h6⟩:=h i hi;exact⟨fun e=>h5 (by rw[e];rfl),by omega⟩
section
variable{E:RS}{a b:By}{w:J5}{lab:Nat->Nat}{o:Option Addr}{k:Nat}
theorem Z79(h:Z2J w lab 0 o E)(hl:E.length<=2^20)(ha:a.length=32)(hb:b.length=32) :
  JN J3 Z0c.n #[G o E.length k,JJ (hashA a),JJ (hashA b)] w (fun e w'=>Vcg.Mod NoB w w'/\∃r,e=J4 (H r)/\(r=JT↔Z5A E a b)):=by
 refine ZD fun R hR=>Z0c.vc _ _ _ _ _ _ _ ?_;unfold Z0c.Vc;rintro dA w1⟨rfl,rfl⟩;have M1:=Mod.alloc (S:=NoB) w (W (hashA a) 27);have A1:=Blk.new w 27 (hashA a);generalize w.alloc (W (hashA a) 27)=w1 at *
 generalize w.heap.size=DA at *
 rintro dB w2⟨rfl,rfl⟩;have M12:=Mod.alloc (S:=NoB) w1 (W (hashA b) 27);have B2:=Blk.new w1 27 (hashA b);have A2:=A1.mod' M12;have M2:=M1.none_trans M12;generalize w1.alloc (W (hashA b) 27)=w2 at *
 generalize w1.heap.size=DB at *
 refine⟨fun i w'=>∃j:Nat,i=(j:Int)/\j<=E.length/\Vcg.Mod NoB w2 w'/\∀i(hi:i<E.length),i<j->ZKh E a b i hi,fun i _=>((E.length:Int)-i).toNat,⟨0,rfl,J8 _,Mod.refl w2,fun i hi h=>absurd h (by omega)⟩,?_⟩;rintro _ _ w3⟨j,rfl,hj,M3,hok⟩;refine⟨fun hlt=>?_,fun hge=>hR _ _ ⟨M2.none_trans M3,JT,rfl,fun _ i hi=>hok i hi (by omega),fun _=>rfl⟩⟩;have hjl:j<E.length:=by omega
 have M03:=M2.none_trans M3;have no:∀w',Vcg.Mod NoB w2 w'->¬ZKh E a b j hjl->R (J4 (H J0)) w':=fun w' M hn=>hR _ _ ⟨M2.none_trans M,J0,rfl,fun h=>(by cases h),fun h=>(hn (h j hjl)).elim⟩;obtain⟨g,f,ok,kk,ov,kv,q1,q2,q3,q4,q5,q6,q7⟩:=h j hjl;refine⟨_,q1,⟨by omega,by omega⟩,_,_,_,_,_,_,by rw[J,Z3,ZN M03 q2 (fun h=>h)];exact q4,by rw[J,Z3,Z3,JL,ZN M03 q2 (fun h=>h)];exact q6,?_⟩;refine ZGr (lab:=lab) (c:=5) rfl rfl (fun w4 st4 X4=>?_);have M4:Vcg.Mod NoB w2 w4:=M3.none_trans (st4.mod (fun k hk hs=>hs.elim));have X4:=X4.blk;generalize w3.heap.size=D4 at *
 clear st4;rintro _ rfl;have X5:=X4.drew;have M5:=M4.step_drew;generalize w4.drew=w5 at *
 have rk:=q5.rd.mod' (M2.none_trans M5);refine⟨_,_,_,X5.rd1 rfl,fun hne=>no _ M5 (fun h=>hne (by rw[h.1];rfl)),fun h32=>⟨_,_,_,X5.rd1 rfl,?_⟩⟩;have hc:=Z1B (k1:=kk) (k2:=32) rk (Z9Q ha (A2.mod' M5));rw[ha]at hc;refine hc.mono ?_;rintro _ w5⟨rfl,rfl⟩;refine⟨_,rfl,fun h1=>no _ M5 (fun h=>h.2.1 h1),fun h1=>⟨_,_,_,X5.rd1 rfl,?_⟩⟩;have hc:=Z1B (k1:=kk) (k2:=32) rk (Z9Q hb (B2.mod' M5));rw[hb]at hc;refine hc.mono ?_;rintro _ w5⟨rfl,rfl⟩;refine⟨_,rfl,fun h2=>no _ M5 (fun h=>h.2.2.1 h2),fun h2=>?_⟩;rintro _ rfl;have X6:=X5.drew;have M6:=M5.step_drew;generalize w5.drew=w6 at *
 refine⟨fun hpos=>?_,fun hz=>?_⟩
 ·obtain⟨g',f',ok',kk',ov',kv',p1,p2,p3,p4,p5,p6,p7⟩:=h (j-1) (by omega)
  have ej:J7 Jg ((j:Int)-1)=((j-1:Nat):Int):=by rw[Z0 (by omega) (by omega)];omega
  rw[ej];refine⟨_,p1,⟨by omega,by omega⟩,_,_,_,by rw[J,Z3,ZN (M2.none_trans M6) p2 (fun h=>h)];exact p4,_,_,_,X6.rd1 rfl,?_⟩;refine(Z1B (p5.rd.mod' (M2.none_trans M6)) (q5.rd.mod' (M2.none_trans M6))).mono ?_;rintro _ w6⟨rfl,rfl⟩;refine⟨_,rfl,fun h3=>no _ M6 (fun h=>h.2.2.2.1 (by omega) h3),fun h3=>?_⟩;refine⟨_,_,_,by rw[Z3];exact X6.rd1 rfl,fun h4=>no _ M6 (fun h=>h.2.2.2.2.1 (by omega)),fun h4=>⟨_,_,_,by rw[Z3];exact X6.rd1 rfl,fun h5=>no _ M6 (fun h=>h.2.2.2.2.2 (by omega)),fun h5=>?_⟩⟩;refine⟨⟨j+1,by rw[Z0 (by omega) (by omega)];omega,hjl,M6,fun i hi hij=>?_⟩,by dsimp only;rw[Z0 (by omega) (by omega)];omega⟩;by_cases he:i=j
  ·subst he;exact⟨by omega,h1,h2,fun _=>h3,by omega,by omega⟩
  ·exact hok i hi (by omega)
 ·refine⟨_,_,_,by rw[Z3];exact X6.rd1 rfl,fun h4=>no _ M6 (fun h=>h.2.2.2.2.1 (by omega)),fun h4=>⟨_,_,_,by rw[Z3];exact X6.rd1 rfl,fun h5=>no _ M6 (fun h=>h.2.2.2.2.2 (by omega)),fun h5=>?_⟩⟩
  refine⟨⟨j+1,by rw[Z0 (by omega) (by omega)];omega,hjl,M6,fun i hi hij=>?_⟩,by dsimp only;rw[Z0 (by omega) (by omega)];omega⟩;by_cases he:i=j
  ·subst he;exact⟨by omega,h1,h2,fun h=>absurd h (by omega),by omega,by omega⟩
  ·exact hok i hi (by omega)
theorem ZF8(h:Z2J w lab 0 o E)(hl:E.length<=2^20)(ha:a.length=32)(hb:b.length=32) :
  JN J3 Z0o.n #[JJ (hashA a),JJ (hashA b),G o E.length k] w (fun e w'=>Vcg.Mod NoB w w'/\∃r,e=J4 (H r)/\(r=JT↔¬Z25 b a<0/\Z5A E a b)):=by
 refine ZD fun R hR=>Z0o.vc _ _ _ _ _ _ _ ?_;unfold Z0o.Vc;rintro dA w1⟨rfl,rfl⟩;have M1:=Mod.alloc (S:=NoB) w (W (hashA a) 27);have A1:=Blk.new w 27 (hashA a);generalize w.alloc (W (hashA a) 27)=w1 at *
 generalize w.heap.size=DA at *
 rintro dB w2⟨rfl,rfl⟩;have M12:=Mod.alloc (S:=NoB) w1 (W (hashA b) 27);have B2:=Blk.new w1 27 (hashA b);have A2:=A1.mod' M12;have M2:=M1.none_trans M12;generalize w1.alloc (W (hashA b) 27)=w2 at *
 generalize w1.heap.size=DB at *
 rintro _ rfl;have M2:=M2.step_drew;have A2:=A2.drew;have B2:=B2.drew;generalize w2.drew=w2 at *
 have cA:∀{w':J5}{ox:Option Addr}{x:By}{kx:Nat},x.length=32->Vcg.Mod NoB w2 w'->RdB w' ox x->JN J3 Zq.n #[G ox x.length kx,G (JC ⟨DA,0,Z⟩) 32 32] w' (fun e w''=>e=J4 (Jn Jg (Z25 x a))/\Vcg.Mod NoB w' w''):=fun hl M hx=>ZA8 rfl ha.symm hx (Z9Q ha (A2.mod' M)) (by omega);have cB:∀{w':J5}{ox:Option Addr}{x:By}{kx:Nat},x.length=32->Vcg.Mod NoB w2 w'->RdB w' ox x->JN J3 Zq.n #[G ox x.length kx,G (JC ⟨DB,0,Z⟩) 32 32] w' (fun e w''=>e=J4 (Jn Jg (Z25 x b))/\Vcg.Mod NoB w' w''):=fun hl M hx=>ZA8 rfl hb.symm hx (Z9Q hb (B2.mod' M)) (by omega);have hc:=cA (kx:=32) hb (Mod.refl w2) (Z9Q hb B2);rw[hb]at hc;refine hc.mono ?_;rintro _ w3⟨rfl,M3⟩;refine⟨_,rfl,fun h0=>hR _ _ ⟨M2.none_trans M3,J0,rfl,fun h=>(by cases h),fun h=>(h.1 h0).elim⟩,fun h0=>?_⟩;refine⟨fun i w'=>∃j:Nat,i=(j:Int)/\j<=E.length/\Vcg.Mod NoB w2 w'/\∀i(hi:i<E.length),i<j->ZKh E a b i hi,fun i _=>((E.length:Int)-i).toNat,⟨0,rfl,J8 _,M3,fun i hi h=>absurd h (by omega)⟩,?_⟩;rintro _ _ w4⟨j,rfl,hj,M4,hok⟩;refine⟨fun hlt=>?_,fun hge=>hR _ _ ⟨M2.none_trans M4,JT,rfl,fun _=>⟨h0,fun i hi=>hok i hi (by omega)⟩,fun _=>rfl⟩⟩;have hjl:j<E.length:=by omega
 have no:∀w',Vcg.Mod NoB w2 w'->¬ZKh E a b j hjl->R (J4 (H J0)) w':=fun w' M hn=>hR _ _ ⟨M2.none_trans M,J0,rfl,fun h=>(by cases h),fun h=>(hn (h.2 j hjl)).elim⟩;obtain⟨g,f,ok,kk,ov,kv,q1,q2,q3,q4,q5,q6,q7⟩:=h j hjl;have rv:∀{w'},Vcg.Mod NoB w2 w'->JB w' (JE (JE ⟨g,f,Z⟩ (Jl (j:Int)*2)) 1)=JC (G ov E[j].2.length kv):=fun M=>by rw[J,Z3,Z3,JL,ZN (M2.none_trans M) q2 (fun h=>h)];exact q6
 refine⟨_,q1,⟨by omega,by omega⟩,_,_,_,by rw[J,Z3,ZN (M2.none_trans M4) q2 (fun h=>h)];exact q4,fun hne=>no _ M4 (fun h=>hne (by rw[h.1];rfl)),fun h32=>?_⟩;refine(cA (by omega) M4 (q5.rd.mod' (M2.none_trans M4))).mono ?_;rintro _ w5⟨rfl,M45⟩;have M5:=M4.none_trans M45;refine⟨_,rfl,fun h1=>no _ M5 (fun h=>h.2.1 h1),fun h1=>?_⟩;refine(cB (by omega) M5 (q5.rd.mod' (M2.none_trans M5))).mono ?_;rintro _ w6⟨rfl,M56⟩;have M6:=M5.none_trans M56;refine⟨_,rfl,fun h2=>no _ M6 (fun h=>h.2.2.1 h2),fun h2=>⟨fun hpos=>?_,fun hz=>?_⟩⟩
 ·obtain⟨g',f',ok',kk',ov',kv',p1,p2,p3,p4,p5,p6,p7⟩:=h (j-1) (by omega)
  have ej:J7 Jg ((j:Int)-1)=((j-1:Nat):Int):=by rw[Z0 (by omega) (by omega)];omega
  rw[ej];refine⟨_,p1,⟨by omega,by omega⟩,_,_,_,by rw[J,Z3,ZN (M2.none_trans M6) p2 (fun h=>h)];exact p4,?_⟩;refine(ZBt (p5.rd.mod' (M2.none_trans M6)) (q5.rd.mod' (M2.none_trans M6)) (by rw[(hok (j-1) (by omega) (by omega)).1];decide)).mono ?_;rintro _ w7⟨rfl,M67⟩;have M7:=M6.none_trans M67;refine⟨_,rfl,fun h3=>no _ M7 (fun h=>h.2.2.2.1 (by omega) h3),fun h3=>?_⟩;refine⟨_,q1,⟨by omega,by omega⟩,_,_,_,rv M7,fun h4=>no _ M7 (fun h=>h.2.2.2.2.1 (by omega)),fun h4=>⟨_,q1,⟨by omega,by omega⟩,_,_,_,rv M7,fun h5=>no _ M7 (fun h=>h.2.2.2.2.2 (by omega)),fun h5=>?_⟩⟩;refine⟨⟨j+1,by rw[Z0 (by omega) (by omega)];omega,hjl,M7,fun i hi hij=>?_⟩,by dsimp only;rw[Z0 (by omega) (by omega)];omega⟩;by_cases he:i=j
  ·subst he;exact⟨by omega,h1,h2,fun _=>h3,by omega,by omega⟩
  ·exact hok i hi (by omega)
 ·refine⟨_,q1,⟨by omega,by omega⟩,_,_,_,rv M6,fun h4=>no _ M6 (fun h=>h.2.2.2.2.1 (by omega)),fun h4=>⟨_,q1,⟨by omega,by omega⟩,_,_,_,rv M6,fun h5=>no _ M6 (fun h=>h.2.2.2.2.2 (by omega)),fun h5=>?_⟩⟩
  refine⟨⟨j+1,by rw[Z0 (by omega) (by omega)];omega,hjl,M6,fun i hi hij=>?_⟩,by dsimp only;rw[Z0 (by omega) (by omega)];omega⟩;by_cases he:i=j
  ·subst he;exact⟨by omega,h1,h2,fun h=>absurd h (by omega),by omega,by omega⟩
  ·exact hok i hi (by omega)
end
end Go.Proofs.YtfghidehlnfdiaaGreat
end
