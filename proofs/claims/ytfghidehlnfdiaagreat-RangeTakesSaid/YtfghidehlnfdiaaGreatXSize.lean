/- Contracts: VerifyRange (package proof). -/
/- Contracts of the reference: Ref. -/
/- Contracts of the reference: the holder, fault, begins, value. -/
/- Contracts of the reference: the holder's item. -/
/- Contracts of the reference: the holder's ref. -/
/- Contracts of the reference: VerifyRange. -/
/- The walk of RangeTakes. -/
/- Arguments: how long they can be. -/
import Derived.Test.YtfghidehlnfdiaaGreatRU10
import Derived.Test.YtfghidehlnfdiaaGreatTVP
import Derived.Test.YtfghidehlnfdiaaGreatRT5
import Derived.Test.YtfghidehlnfdiaaGreatTP3
import Derived.SizedLaws
set_option linter.unusedVariables false
set_option linter.unusedSimpArgs false
open Array renaming getElem?_setIfInBounds_ne->JM,getElem?_setIfInBounds_self_of_lt->JF,getElem?_toList->JO,length_toList->J7,replicate->JL,size_setIfInBounds->JU
open Bool renaming and_eq_true->Jh,false->J9,true->Ja,true_and->Jo
open Go renaming Calls->Jc,TypeId->Jm,World->J2
open Go.Addr renaming add->J1
open Go.DataW renaming trod->JS,weightsEach->JT
open Go.Ending renaming returned->J0
open Go.IntKind renaming i64->J5,wrap->C
open Go.Obj renaming cells->J
open Go.Proofs.Tryz renaming prog->J6
open Go.Value renaming agg->Jn,bool->X,pointer->JQ,slice->JX,tuple->Jb
open Go.World renaming cell?->J3
open Int renaming toNat->Jp,toNat_natCast->G
open List renaming all_append->Jl,append_nil->Jk,eq_nil_of_length_eq_zero->JD,foldl_cons->Jj,getElem?_eq_getElem->JB,getElem?_map->Jf,getElem_map->JJ,getElem_mem->J8,getElem_of_mem->JK,length->Js,length_append->JE,length_cons->Jg,length_filter_le->JN,length_map->V,length_nil->JR,length_singleton->J4,length_take->JI,map_append->Ji,range->Ju,replicate->JH,take_add_one->Je,take_length->JP,take_of_length_le->JW
open Nat renaming add_assoc->JY,add_sub_cancel_left->JV,le_refl->JC,le_trans->Jr,mul_one->Jt,zero_add->JA,zero_le->JG
open Option renaming none->Y,some->O,toList_some->JZ
open Or renaming inl->Jq,inr->Jd
open UInt8 renaming ofNat->N
section
namespace Go.Proofs.YtfghidehlnfdiaaGreat
open Go Go.Vcg Go.Trie
theorem ZFf{K:Type}{enc:K->Value}{good:K->Prop}{w:J2}{m:Nat}{es:List (K×Value)}{P:Program}{t k e:Jm}(ht:P.underlying t=O (.map k e))(h:Z3G good enc w m es)(ty:Jm):Sem.run P (builtinV .len #[t] ty #[.map (O m)]) w=.ok (.int J5 (es.length:Int)) w:=by
 obtain⟨A,clock,h1,_,h3,_⟩:=h
 have e1:A.size=es.length:=by
  have:=congrArg Js h3;rw[V,V,J7]at this;exact this
 show(Builtin.len_ #[t] ty #[.map (O m)]).run P w=_;rw[<-e1];simp[Builtin.len_,run_underlying ht,MapKept.run_getObj_map h1,goInt,Result.andThen]
theorem ZBV{R:Ending->J2->Prop}{rt:J2->Prop}{dE:Nat}{n n0:Int}{w:J2}(E:Blk w dE 40 #[.int J5 n0])(K:∀w',Blk w' dE 40 #[.int J5 n]->Vcg.Mod (·=dE) w w'->rt w') :
  Z3S J6 rt R [(32,#[JQ (O ⟨dE,0,Y⟩)])] (.panicking (Z2u n)) w:=by
 refine⟨fun h=>(by cases h),(Z5G E).mono ?_⟩;rintro _ _ w1⟨rfl,rfl,E1,M1⟩;exact K w1 E1 M1
theorem ZCs{R:Ending->J2->Prop}{rt:J2->Prop}{dE:Nat}{w:J2}(K:rt w) :
  Z3S J6 rt R [(32,#[JQ (O ⟨dE,0,Y⟩)])] .returning w:=by
 refine⟨fun h=>(by cases h),Z6J.mono ?_⟩;rintro _ _ w1⟨rfl,rfl,rfl⟩;exact K
abbrev SV:Nat->Prop:=fun k=>k≠0
theorem Z7T{w:J2}{lab:Nat->Nat}{c:Nat}{E P:RS}{o oE:Option Addr}{k kE:Nat}{root least most:By}(hN:Z1V w lab c P o P.length)(hK:Z2J w lab c oE E)(hkE:E.length<=kE)(hlP:P.length<=4096)(hlE:E.length<=4096)(hb:∀x∈P,x.2.length<=2^30)(hr:root.length=32)(hl:least.length=32)(hm:most.length=32) :
  Jc J6 Z0J.n #[Jn (hashA root),Jn (hashA least),Jn (hashA most),.slice oE E.length kE,.slice o P.length k] w (fun e w'=>Vcg.Mod NoB w w'/\∃n:Int,e=J0 (.int J5 n)/\(Z25 least most<=0/\Z5A E least most->n=ZIr E (nibbles least) (nibbles most) P root)/\(¬(Z25 least most<=0/\Z5A E least most)->n=164)):=by
 refine ZD fun R hR=>Z0J.vc _ _ _ _ _ _ _ _ _ _ _ ?_;unfold Z0J.Vc;have N0:Z1V w (fun _=>0) 0 P o P.length:=Z1V.re hN (fun k hk _=>rfl);have K0:Z2J w (fun _=>0) 0 oE E:=Z2J.re hK (fun k hk _=>rfl);have fin:∀{lab':Nat->Nat}{w':J2}(n:Int),Stp SV w (fun _=>0) w' lab'->(Z25 least most<=0/\Z5A E least most->n=ZIr E (nibbles least) (nibbles most) P root)->(¬(Z25 least most<=0/\Z5A E least most)->n=164)->R (J0 (.int J5 n)) w':=fun n st h1 h2=>hR _ _ ⟨st.nob (fun k hk hs=>hs rfl),n,rfl,h1,h2⟩;rintro d1 w1⟨rfl,rfl⟩;have s1:Stp NoS w (fun _=>0) (w.alloc (J (hashA root) 27)) (ext (fun _=>0) w.heap.size 8):=Stp.alloc NoS w _ _ 8;have X1:=CB.new w (fun _=>0) 8 27 (hashA root);have N1:=N0.stp s1 (fun h=>h);have K1:=K0.stp s1 (fun h=>h);generalize w.heap.size=dX at *
 generalize w.alloc (J (hashA root) 27)=w1 at *
 generalize ext (fun _=>0) dX 8=lab1 at *
 rintro d2 w2⟨rfl,rfl⟩;have st2:Stp NoS w1 lab1 (w1.alloc (J (hashA least) 27)) (ext lab1 w1.heap.size 8):=Stp.alloc NoS w1 lab1 _ 8;have A2:=CB.new w1 lab1 8 27 (hashA least);have X2:=X1.stp st2 (fun h=>h);have N2:=N1.stp st2 (fun h=>h);have K2:=K1.stp st2 (fun h=>h);have s2:=s1.trans st2;generalize w1.heap.size=dA at *
 generalize w1.alloc (J (hashA least) 27)=w2 at *
 generalize ext lab1 dA 8=lab2 at *
 rintro d3 w3⟨rfl,rfl⟩;have st3:Stp NoS w2 lab2 (w2.alloc (J (hashA most) 27)) (ext lab2 w2.heap.size 8):=Stp.alloc NoS w2 lab2 _ 8;have B3:=CB.new w2 lab2 8 27 (hashA most);have X3:=X2.stp st3 (fun h=>h);have A3:=A2.stp st3 (fun h=>h);have N3:=N2.stp st3 (fun h=>h);have K3:=K2.stp st3 (fun h=>h);have s3:=s2.trans st3;generalize w2.heap.size=dB at *
 generalize w2.alloc (J (hashA most) 27)=w3 at *
 generalize ext lab2 dB 8=lab3 at *
 rintro d4 w4⟨rfl,rfl⟩;have st4:Stp NoS w3 lab3 (w3.alloc (J #[.int J5 0] 40)) (ext lab3 w3.heap.size 3):=Stp.alloc NoS w3 lab3 _ 3;have E4:=CB.new w3 lab3 3 40 #[.int J5 0];have X4:=X3.stp st4 (fun h=>h);have A4:=A3.stp st4 (fun h=>h);have B4:=B3.stp st4 (fun h=>h);have N4:=N3.stp st4 (fun h=>h);have K4:=K3.stp st4 (fun h=>h);have s4:=s3.trans st4;generalize w3.heap.size=dE at *
 generalize w3.alloc (J #[.int J5 0] 40)=w4 at *
 generalize ext lab3 dE 3=lab4 at *
 clear X1 N1 K1 s1 st2 A2 X2 N2 K2 s2 st3 B3 X3 A3 N3 K3 s3 st4 N0 K0;refine(Z8L (k:=k) (held:=J9) N4 (by omega)).mono ?_;rintro e w5⟨M5,_,hsm⟩;obtain⟨mS,rfl,SM5⟩:=hsm hlP;have st5:Stp NoS w4 lab4 w5 (ext lab4 w4.heap.size 9):=Stp.of_nob M5 9;have X5:=X4.stp st5 (fun h=>h);have A5:=A4.stp st5 (fun h=>h);have B5:=B4.stp st5 (fun h=>h);have E5:=E4.stp st5 (fun h=>h);have K5:=K4.stp st5 (fun h=>h);have s5:=s4.trans st5;generalize ext lab4 w4.heap.size 9=lab5 at *
 clear hsm M5 X4 A4 B4 E4 N4 K4 s4 st5;refine Jd ⟨_,_,_,rfl,?_⟩;refine ZGr (lab:=lab5) (c:=12) rfl rfl (fun w6 st6 D6=>?_);have X6:=X5.stp st6 (fun h=>h);have A6:=A5.stp st6 (fun h=>h);have B6:=B5.stp st6 (fun h=>h);have E6:=E5.stp st6 (fun h=>h);have K6:=K5.stp st6 (fun h=>h);have SM6:=SM5.stp st6 (fun h=>h) (fun h=>h);have s6:Stp SV w (fun _=>0) w6 _:=(s5.trans st6).mono (fun _ h=>h.elim);generalize w5.heap.size=dS at *
 generalize ext lab5 dS 12=lab6 at *
 clear X5 A5 B5 E5 K5 SM5 s5 st6;refine ZK1 E6 rfl (fun w7 st7 E7=>?_);have X7:=X6.stp st7 (by decide);have A7:=A6.stp st7 (by decide);have B7:=B6.stp st7 (by decide);have D7:=D6.stp st7 (by decide);have K7:=K6.stp st7 (by decide);have SM7:=SM6.stp st7 (by decide) (by decide);have s7:=s6.trans (st7.mono (T:=SV) (fun _ h=>by rw[h];decide));clear X6 A6 B6 D6 E6 K6 SM6 s6 st7;refine⟨_,E7.blk.rd1 rfl,fun h=>(h rfl).elim,fun _=>⟨fun h=>absurd h (by omega),fun _=>?_⟩⟩;refine⟨_,A7.blk.rowAll (ZB _),_,B7.blk.rowAll (ZB _),?_⟩;refine(ZCk hl hm).mono ?_;rintro _ w8⟨oa,ka,ob,kb,rfl,M8,ra,rb,na,nb⟩;have st8:Stp NoS w7 lab6 w8 (ext lab6 w7.heap.size 6):=Stp.of_nob M8 6;have ca:CBy w8 (ext lab6 w7.heap.size 6) 6 oa (nibbles least):=⟨ra,fun _ d hd=>ext_new (na d hd)⟩;have cb:CBy w8 (ext lab6 w7.heap.size 6) 6 ob (nibbles most):=⟨rb,fun _ d hd=>ext_new (nb d hd)⟩;have X8:=X7.stp st8 (fun h=>h);have A8:=A7.stp st8 (fun h=>h);have B8:=B7.stp st8 (fun h=>h);have E8:=E7.stp st8 (fun h=>h);have D8:=D7.stp st8 (fun h=>h);have K8:=K7.stp st8 (fun h=>h);have SM8:=SM7.stp st8 (fun h=>h) (fun h=>h);have s8:=s7.trans (st8.mono (T:=SV) (fun _ h=>h.elim));clear X7 A7 B7 E7 D7 K7 SM7 s7 st8 M8 ra rb na nb;generalize ext lab6 w7.heap.size 6=lab8 at *
 refine Jd ⟨_,_,_,_,_,_,_,rfl,?_⟩;refine ZGr (lab:=lab8) (c:=12) rfl rfl (fun w9 st9 S9=>?_);have X9:=X8.stp st9 (fun h=>h);have A9:=A8.stp st9 (fun h=>h);have B9:=B8.stp st9 (fun h=>h);have E9:=E8.stp st9 (fun h=>h);have D9:=D8.stp st9 (fun h=>h);have K9:=K8.stp st9 (fun h=>h);have SM9:=SM8.stp st9 (fun h=>h) (fun h=>h);have ca9:=ca.stp st9 (fun h=>h);have cb9:=cb.stp st9 (fun h=>h);have s9:=s8.trans (st9.mono (T:=SV) (fun _ h=>h.elim));clear X8 A8 B8 E8 D8 K8 SM8 s8 st9 ca cb;generalize w8.heap.size=dP at *
 generalize ext lab8 dP 12=lab9 at *
 have bad:∀{lab':Nat->Nat}{w':J2},Stp SV w (fun _=>0) w' lab'->CB w' lab' 3 dE 40 #[.int J5 0]->¬(Z25 least most<=0/\Z5A E least most)->Z1 w' ⟨dE,0,Y⟩ (.int J5 164)/\∀w43:J2,ZA w' ⟨dE,0,Y⟩ (.int J5 164) w43->∃n44:Int,J3 w43 ⟨dE,0,Y⟩=O (.int J5 n44)/\R (J0 (.int J5 n44)) w43:=fun st E hn=>ZK1 E rfl (fun w2 st2 E2=>⟨_,E2.blk.rd1 rfl,fin _ (st.trans (st2.mono (T:=SV) (fun _ h=>by rw[h];decide))) (fun h=>(hn h).elim) (fun _=>rfl)⟩);refine⟨fun hf=>bad s9 E9 (fun h=>of_decide_eq_false hf h.1),fun ht=>?_⟩;have hcm:=of_decide_eq_true ht;refine⟨_,A9.blk.rowAll (ZB _),_,B9.blk.rowAll (ZB _),?_⟩;refine(Z79 K9 (by omega) hl hm).mono ?_;rintro _ w10⟨M10,r,rfl,hright⟩;have st10:Stp NoS w9 lab9 w10 (ext lab9 w9.heap.size 5):=Stp.of_nob M10 5;have X10:=X9.stp st10 (fun h=>h);have E10:=E9.stp st10 (fun h=>h);have D10:=D9.stp st10 (fun h=>h);have S10:=S9.stp st10 (fun h=>h);have K10:=K9.stp st10 (fun h=>h);have SM10:=SM9.stp st10 (fun h=>h) (fun h=>h);have ca10:=ca9.stp st10 (fun h=>h);have cb10:=cb9.stp st10 (fun h=>h);have s10:=s9.trans (st10.mono (T:=SV) (fun _ h=>h.elim));clear X9 A9 B9 E9 D9 S9 K9 SM9 ca9 cb9 s9 st10 M10;generalize ext lab9 w9.heap.size 5=lab10 at *
 refine Jd ⟨r,rfl,fun hf=>bad s10 E10 (fun h=>by rw[hright.2 h.2]at hf;cases hf),fun ht=>?_⟩;have hRE:=hright.1 ht;have hE:=hRE.eok;refine⟨_,_,_,_,_,_,S10.blk.rd1 rfl,by rw[Z3];exact S10.blk.rd1 rfl,_,_,D10.blk.rd1 rfl,by rw[Z3];exact D10.blk.rd1 rfl,?_⟩;obtain⟨w11,hr11,M11,hmap⟩:=Z6Z ZDr w10;refine⟨_,w11,hr11,_,rfl,?_⟩;have st11:Stp NoS w10 lab10 w11 (ext lab10 w10.heap.size 2):=Stp.of_nob M11 2;have cm11:CM (fun _=>True) ZHx w11 (ext lab10 w10.heap.size 2) 2 w10.heap.size ([]:List (H32×Value)):=⟨⟨#[],0,hmap,Go.MapKept.stamped_empty 0,rfl,fun _ h=>by cases h⟩,ext_new (JC _)⟩;have X11:=X10.stp st11 (fun h=>h);have E11:=E10.stp st11 (fun h=>h);have K11:=K10.stp st11 (fun h=>h);have SM11:=SM10.stp st11 (fun h=>h) (fun h=>h);have ca11:=ca10.stp st11 (fun h=>h);have cb11:=cb10.stp st11 (fun h=>h);have s11:=s10.trans (st11.mono (T:=SV) (fun _ h=>h.elim));clear X10 E10 D10 S10 K10 SM10 ca10 cb10 s10 st11 M11 hr11 hmap;generalize w10.heap.size=dm at *
 generalize ext lab10 dm 2=lab11 at *
 rintro d12 w12⟨rfl,rfl⟩;have st12:=Stp.alloc NoS w11 lab11 (J #[.slice oa (nibbles least).length ka,.slice ob (nibbles most).length kb,.slice Y 0 0,.slice oE E.length kE,.map (O mS),X J9,.map (O dm)] 102) 1;have V12:=CB.new w11 lab11 1 102 #[.slice oa (nibbles least).length ka,.slice ob (nibbles most).length kb,.slice Y 0 0,.slice oE E.length kE,.map (O mS),X J9,.map (O dm)];have X12:=X11.stp st12 (fun h=>h);have E12:=E11.stp st12 (fun h=>h);have K12:=K11.stp st12 (fun h=>h);have SM12:=SM11.stp st12 (fun h=>h) (fun h=>h);have ca12:=ca11.stp st12 (fun h=>h);have cb12:=cb11.stp st12 (fun h=>h);have cm12:=cm11.stp st12 (fun h=>h);have s12:=s11.trans (st12.mono (T:=SV) (fun _ h=>h.elim));clear X11 E11 K11 SM11 ca11 cb11 cm11 s11 st12;generalize w11.heap.size=D at *
 generalize w11.alloc (J #[.slice oa (nibbles least).length ka,.slice ob (nibbles most).length kb,.slice Y 0 0,.slice oE E.length kE,.map (O mS),X J9,.map (O dm)] 102)=w12 at *
 generalize ext lab11 D 1=lab12 at *
 refine⟨fun i w'=>∃(j:Nat)(lab':Nat->Nat)(op:Option Addr)(kp:Nat),i=(j:Int)/\j<=E.length/\Stp (fun k=>k=1\/k=4) w12 lab12 w' lab'/\CB w' lab' 1 D 102 #[.slice oa (nibbles least).length ka,.slice ob (nibbles most).length kb,.slice op j kp,.slice oE E.length kE,.map (O mS),X J9,.map (O dm)]/\Z3M w' lab' 4 6 (Z69 (E.take j)) op j kp,fun i _=>((E.length:Int)-i).toNat,⟨0,lab12,Y,0,rfl,JG _,Stp.refl _ _ _,V12,Z3M.nil _ _ _ _⟩,?_⟩;rintro _ _ w13⟨j,lab13,op,kp,rfl,hj,st13,V13,O13⟩;have K13:=K12.stp st13 (by decide);refine⟨fun hlt=>?_,fun hge=>?_⟩
 ·have hjl:j<E.length:=by omega
  obtain⟨g,f,ok,kk,ov,kv,q1,q2,q3,q4,q5,q6,q7⟩:=K13 j hjl;refine⟨_,q1,⟨by omega,by omega⟩,_,_,_,_,_,_,by rw[G,Z3];exact q4,by rw[G,Z3,Z3,JY];exact q6,?_⟩;refine ZGr (lab:=lab13) (c:=5) rfl rfl (fun w14 st14 Y14=>?_);rintro _ rfl;have st15:=st14.trans (Stp.drew NoS w14 _);have Y15:=Y14.stp (Stp.drew NoS w14 _) (fun h=>h);have V15:=V13.stp st15 (fun h=>h);have O15:=O13.stp st15 (fun h=>h) (fun h=>h);have k15:=q5.stp st15 (fun h=>h);have s15:=st13.trans (st15.mono (T:=fun k=>k=1\/k=4) (fun _ h=>h.elim));clear st14 Y14 st15 V13 O13 K13;generalize w13.heap.size=dY at *
  generalize w14.drew=w15 at *
  generalize ext lab13 dY 5=lab15 at *
  refine⟨_,_,_,by rw[Z3];exact V15.blk.rd1 rfl,_,_,_,Y15.blk.rd1 rfl,?_⟩;refine(Z26 k15.rd (by have:=(hRE j hjl).1;omega)).mono ?_;rintro _ w16⟨o16,k16,rfl,F16⟩;have st16:Stp NoS w15 lab15 w16 (ext lab15 w15.heap.size 6):=Stp.of_nob F16.mod 6;have P16:CBy w16 (ext lab15 w15.heap.size 6) 6 o16 (nibbles E[j].1):=⟨ZK F16,fun _ d hd=>ext_new (F16.new d.block ⟨d,hd,rfl⟩)⟩;have V16:=V15.stp st16 (fun h=>h);have O16:=O15.stp st16 (fun h=>h) (fun h=>h);have s16:=s15.trans (st16.mono (T:=fun k=>k=1\/k=4) (fun _ h=>h.elim));have hk16:=F16.own.cap.1;clear V15 O15 s15 st16 F16 Y15 k15;generalize ext lab15 w15.heap.size 6=lab16 at *
  refine Jd ⟨_,_,_,rfl,by rw[Z3];exact V16.blk.rd1 rfl,?_⟩;rintro d17 w17⟨rfl,rfl⟩;have st17:=Stp.alloc NoS w16 lab16 (J #[.slice o16 (nibbles E[j].1).length k16] 23) 5;have Z17:=Blk.new w16 23 #[.slice o16 (nibbles E[j].1).length k16];have P17:=P16.stp st17 (fun h=>h);have V17:=V16.stp st17 (fun h=>h);have O17:=O16.stp st17 (fun h=>h) (fun h=>h);have s17:=s16.trans (st17.mono (T:=fun k=>k=1\/k=4) (fun _ h=>h.elim));clear P16 V16 O16 s16 st17;generalize w16.heap.size=dZ at *
  generalize w16.alloc (J #[.slice o16 (nibbles E[j].1).length k16] 23)=w17 at *
  generalize ext lab16 dZ 5=lab17 at *
  obtain⟨o18,k18,w18,hr18,O18,st18⟩:=O17.push (by decide) Z17 P17 hk16 (by rw[V,JI];omega);refine⟨by rw[Z3];exact V17.blk.rd1 rfl,_,w18,hr18,_,_,_,rfl,?_⟩;have V18:=V17.stp st18 (by decide);have s18:=s17.trans (st18.mono (T:=fun k=>k=1\/k=4) (fun _ h=>Jd h));generalize ext lab17 w17.heap.size 4=lab18 at *
  rw[Z3];refine⟨V18.blk.canSet (by simp) rfl,?_⟩;rintro _ rfl;have st19:Stp (·=1) w18 lab18 (w18.setCell ⟨D,0+2,Y⟩ (.slice o18 (j+1) k18)) lab18:=Stp.setCell V18.clr;refine⟨⟨j+1,lab18,o18,k18,by rw[Z0 (by omega) (by omega)];omega,hjl,s18.trans (st19.mono (fun _ h=>Jq h)),V18.set 2 _,?_⟩,by dsimp only;rw[Z0 (by omega) (by omega)];omega⟩
  have he:Z69 (E.take (j+1))=Z69 (E.take j)++[nibbles E[j].1]:=by
   unfold Z69;rw[Je,JB hjl,JZ,Ji];rfl
  rw[he];exact O18.stp st19 (by decide) (by decide)
 ·obtain rfl:j=E.length:=by omega
  rw[JP]at O13;have X13:=X12.stp st13 (by decide);have E13:=E12.stp st13 (by decide);have I13:VfS E (nibbles least) (nibbles most) P D w13 lab13 []:=⟨oa,ka,ob,kb,op,kp,oE,kE,mS,dm,V13,ca12.stp st13 (by decide),cb12.stp st13 (by decide),O13,K13,hkE,SM12.stp st13 (by decide) (by decide),[],cm12.stp st13 (by decide),rfl,fun x hx=>by cases hx⟩;have s13:=s12.trans (st13.mono (T:=SV) (fun _ h=>by rcases h with h|h<;>rw[h]<;>decide));clear X12 E12 K12 V12 ca12 cb12 cm12 SM12 s12 st13 V13 O13 K13;refine⟨hashA root,X13.blk.rowAll (ZB _),?_⟩;refine(Z5Y (A:=fun b=>ext lab13 w13.heap.size 6 b≠6) hr).mono ?_;rintro _ w14⟨L,rfl,M14,hL14⟩;have st14:Stp NoS w13 lab13 w14 (ext lab13 w13.heap.size 6):=Stp.of_nob M14 6;have E14:=E13.stp st14 (fun h=>h);have I14:=I13.no st14;have s14:=s13.trans (st14.mono (T:=SV) (fun _ h=>h.elim));clear X13 E13 I13 s13 st14 M14;generalize ext lab13 w13.heap.size 6=lab14 at *
  refine Jd ⟨L,rfl,?_⟩;refine(ZDu hE (by omega) hb 66 (k:=0) (o:=Y) (path:=[]) I14 hL14 (Z5M hr) (CBy.nil _ _ _ _) (JC _) (fun x hx=>by cases hx) (by simp)).mono ?_;rintro e w15⟨lab15,st15,I15,hb15⟩;have E15:=E14.stp st15 (by decide);have s15:=s14.trans (st15.mono (T:=SV) (fun _ h=>by rcases h with h|h<;>rw[h]<;>decide))
  have hv:ZIr E (nibbles least) (nibbles most) P root=match visV E (nibbles least) (nibbles most) P 66 [] (rootIt root) []with
   |(U,Y)=>if U.length<P.length then 162 else 0
   |(_,O e)=>e:=rfl
  have good:∀n,n=ZIr E (nibbles least) (nibbles most) P root->∀{lab':Nat->Nat}{w':J2},Stp SV w (fun _=>0) w' lab'->Blk w' dE 40 #[.int J5 n]->∃n103:Int,J3 w' ⟨dE,0,Y⟩=O (.int J5 n103)/\R (J0 (.int J5 n103)) w':=fun n hn _ _ st B=>⟨n,B.rd1 rfl,fin n st (fun _=>hn) (fun h=>(h ⟨hcm,hRE⟩).elim)⟩;have lft:∀n,n=ZIr E (nibbles least) (nibbles most) P root->Z3S J6 (fun w102=>∃n103:Int,J3 w102 ⟨dE,0,Y⟩=O (.int J5 n103)/\R (J0 (.int J5 n103)) w102) R [(32,#[(JQ (O ⟨dE,0,Y⟩))])] (.panicking (Z2u n)) w15:=fun n hn=>ZBV E15.blk (fun w16 E16 M16=>good n hn (s15.trans ((Stp.of_mod (S:=SV) M16 5 (fun k _ e=>by subst e;rw[E15.clr];decide)))) E16);generalize visV E (nibbles least) (nibbles most) P 66 [] (rootIt root) []=res at hv I15 hb15;obtain⟨U,oe⟩:=res;cases oe with
  |some er =>
   obtain⟨rfl,hne⟩:=hb15;exact Jq ⟨_,rfl,lft er hv.symm⟩
  |none =>
   obtain rfl:=hb15;obtain⟨oa,ka,ob,kb,op,kp,ol,kl,mS,m,e1,e2,e3,e4,e5,e6,e7,es,e8,e9,e10⟩:=I15.ex;have hel:es.length=U.length:=by rw[show U=es.map (fun x=>x.1.1)from e9.symm,V]
   refine Jd ⟨rfl,_,by rw[Z3];exact e1.blk.rd1 rfl,_,ZFf ZDr e8.map 3,_,rfl,fun hlt=>?_,fun hge=>?_⟩
   ·have hv1:(162:Int)=ZIr E (nibbles least) (nibbles most) P root:=by rw[hv];exact(if_pos (by omega)).symm
    refine(Z1D w15 162).mono ?_;rintro e w16⟨rfl,he⟩;rw[if_neg (by decide)]at he;exact Jq ⟨_,he,lft 162 hv1⟩
   ·have hv1:(0:Int)=ZIr E (nibbles least) (nibbles most) P root:=by rw[hv];exact(if_neg (by omega)).symm
    exact ZK1 E15 rfl (fun w16 st16 E16=>ZCs (good 0 hv1 (s15.trans (st16.mono (T:=SV) (fun _ h=>by rw[h];decide))) E16.blk))
theorem ZAr:∀(l:List (By×By)) (n:Nd),cnt (l.foldl (fun n e=>Trie.put n e.1 e.2) n)<=cnt n+4*l.length
 |[],n=>JC _
 |e::r,n=>by
  have h1:=ZDK n e.1 e.2;have h2:=ZAr r (Trie.put n e.1 e.2);rw[Jj,Jg];omega
theorem Z72{p q:By}:p.isPrefixOf q=Ja↔p.length<=q.length/\q.take p.length=p:=by
 rw[List.isPrefixOf_iff_prefix];constructor
 ·rintro⟨r,rfl⟩
  exact⟨by simp,List.take_left⟩
 ·rintro⟨_,h⟩
  exact⟨q.drop p.length,by conv=>lhs;lhs;rw[<-h]
                           exact List.take_append_drop _ _⟩
theorem Z7r{E:RS}{p:By}{j:Nat}(hj:j<E.length):under (E.take (j+1)) p=under (E.take j) p++(if p.isPrefixOf (nibbles E[j].1)then[E[j]]else[]):=by
 unfold under;rw[Je,JB hj,JZ,List.filter_append,List.filter_cons];rfl
structure ZJ1 (U:RS) (d:Nat) (w:J2) (L:Nat->Nat):Prop where
 ex:∃ol cl op cp vs,CB w L 1 d 118 #[.slice ol U.length cl,.slice op U.length cp,.slice Y 0 0,X J9]/\COw w L 8 tKv 2 ol U.length cl vs/\Z1t w L 0 vs U/\Z3M w L 7 5 (Z69 U) op U.length cp
theorem ZJ1.stp{U:RS}{d:Nat}{w w':J2}{L L':Nat->Nat}(h:ZJ1 U d w L)(s:Stp NoS w L w' L'):ZJ1 U d w' L':=by
 obtain⟨ol,cl,op,cp,vs,e1,e2,e3,e4⟩:=h.ex;exact⟨ol,cl,op,cp,vs,e1.stp s (fun h=>h),e2.stp s (fun h=>h),e3.stp s (fun h=>h),e4.stp s (fun h=>h) (fun h=>h)⟩
def ZJi(L:Nat->Nat):Nat->Nat:=fun k=>if L k=0\/L k=8 then 6 else L k
theorem ZJ1.bs{U:RS}{d:Nat}{w:J2}{L:Nat->Nat}(h:ZJ1 U d w L):BS w (ZJi L) d (ZT U) []:=by
 obtain⟨ol,cl,op,cp,vs,e1,e2,e3,e4⟩:=h.ex;have hl:(ZT U).length=U.length:=V _;have l6:∀{k},L k=0\/L k=8->ZJi L k=6:=fun h=>if_pos h;have ln:∀{k q},L k=q->q≠0->q≠8->ZJi L k=q:=fun{k q} h h0 h8=>by unfold ZJi;rw[if_neg (by omega)];exact h
 have hkv:Z2J w (ZJi L) 6 ol U:=KvR.row ⟨vs,ZBZ.re e2.row (fun k _ h=>l6 (Jd h)),Z1t.re e3 (fun k _ h=>l6 (Jq h))⟩;obtain⟨_,vs',hO,hC⟩:=id e4;refine⟨ol,cl,op,cp,Y,0,0,by rw[hl];exact⟨e1.blk,ln e1.clr (by decide) (by decide)⟩,fun j hj=>?_,fun j hj=>?_,Z8q.nil _ _ _ _⟩
 ·obtain⟨g,f,ok,kk,ov,kv,q1,q2,q3,q4,q5,q6,q7⟩:=hkv j (by omega)
  exact⟨g,f,ov,kv,q1,q2,q3,by rw[show(ZT U)[j]=(nibbles (U[j]'(by omega)).1,(U[j]'(by omega)).2)from JJ _];exact q6,by rw[show(ZT U)[j]=(nibbles (U[j]'(by omega)).1,(U[j]'(by omega)).2)from JJ _];exact q7⟩
 ·obtain⟨g,ob,kb,rfl,h2,h3,h4⟩:=e4.get (j:=j) (by rw[V];omega)
  rw[JJ]at h2 h3 h4;rw[show(ZT U)[j]=(nibbles (U[j]'(by omega)).1,(U[j]'(by omega)).2)from JJ _];exact⟨g,0,ob,kb,rfl,hO.own.lt ⟨_,rfl,rfl⟩,ln (hO.clr _ ⟨_,rfl,rfl⟩) (by decide) (by decide),by rw[JA];exact h2,h4,CBy.re h3 (fun k _ h=>ln h (by decide) (by decide))⟩
section
variable{E:RS}{a b:By}{w:J2}{lab:Nat->Nat}{c:Nat}{o op:Option Addr}{k kp:Nat}{path:By}
abbrev SW:Nat->Prop:=fun k=>k=1\/k=7\/k=8
theorem ZG3(hE:EOk E a b)(hl:E.length<=4096)(hK:Z2J w lab c o E)(hp:RdB w op path)(hpl:path.length<=64) :
  Jc J6 Z13.n #[.slice o E.length k,.slice op path.length kp] w (fun e w'=>Vcg.Mod NoB w w'/\∃o' k',e=J0 (.slice o' (enc (Z54 E path)).length k')/\RdB w' o' (enc (Z54 E path))):=by
 refine ZD fun R hR=>Z13.vc _ _ _ _ _ _ _ _ ?_;unfold Z13.Vc;have K0:Z2J w (fun _=>0) 0 o E:=Z2J.re hK (fun k hk _=>rfl);have P0:CBy w (fun _=>0) 0 op path:=⟨hp,fun _ _ _=>rfl⟩;rintro d1 w1⟨rfl,rfl⟩;have M1:=Mod.alloc (S:=NoB) w (J #[.slice Y 0 0,.slice Y 0 0,.slice Y 0 0,X J9] 118);have s1:Stp NoS w (fun _=>0) (w.alloc (J #[.slice Y 0 0,.slice Y 0 0,.slice Y 0 0,X J9] 118)) (ext (fun _=>0) w.heap.size 1):=Stp.alloc NoS w _ _ 1;have D1:=CB.new w (fun _=>0) 1 118 #[.slice Y 0 0,.slice Y 0 0,.slice Y 0 0,X J9];have K1:=K0.stp s1 (fun h=>h);have P1:=P0.stp s1 (fun h=>h);have old1:∀k,k<w.heap.size->ext (fun _=>0) w.heap.size 1 k=0:=fun k hk=>Z1M hk;have z1:=M1.size;generalize hNe:w.heap.size=D at *
 generalize w.alloc (J #[.slice Y 0 0,.slice Y 0 0,.slice Y 0 0,X J9] 118)=w1 at *
 generalize ext (fun _=>0) D 1=L1 at *
 refine⟨fun i w'=>∃(j:Nat)(L:Nat->Nat),i=(j:Int)/\j<=E.length/\Stp SW w1 L1 w' L/\ZJ1 (under (E.take j) path) D w' L,fun i _=>((E.length:Int)-i).toNat,⟨0,L1,rfl,JG _,Stp.refl _ _ _,⟨Y,0,Y,0,[],D1,COw.nil _ _ _ _ _,Z1t.nil _ _ _,Z3M.nil _ _ _ _⟩⟩,?_⟩;rintro _ _ w2⟨j,L2,rfl,hj,s2,I2⟩;have K2:=K1.stp s2 (by decide);have P2:=P1.stp s2 (by decide);refine⟨fun hlt=>?_,fun hge=>?_⟩
 ·have hjl:j<E.length:=by omega
  have hku:=hE.keys _ (J8 hjl);obtain⟨g,f,ok,kk,ov,kv,q1,q2,q3,q4,q5,q6,q7⟩:=K2 j hjl;refine⟨_,q1,⟨by omega,by omega⟩,_,_,_,by rw[G,Z3];exact q4,?_⟩;refine(Z1G q5.rd (by omega)).mono ?_;rintro _ w3⟨o3,k3,rfl,F3⟩;have st3:Stp NoS w2 L2 w3 (ext L2 w2.heap.size 5):=Stp.of_nob F3.mod 5;have N3:CBy w3 (ext L2 w2.heap.size 5) 5 o3 (nibbles E[j].1):=⟨ZK F3,fun _ d hd=>ext_new (F3.new d.block ⟨d,hd,rfl⟩)⟩;have hk3:=F3.own.cap.1;refine⟨_,_,_,rfl,fun t w'=>∃L',Stp SW w1 L1 w' L'/\ZJ1 (under (E.take j) path) D w' L'/\Z2J w' L' 0 o E/\CBy w' L' 5 o3 (nibbles E[j].1)/\t=path.isPrefixOf (nibbles E[j].1),?_,?_⟩
  ·rintro _ rfl
   have st4:=st3.trans (Stp.drew NoS w3 _);have N4:=N3.stp (Stp.drew NoS w3 _) (fun h=>h);have P4:=P2.stp st4 (fun h=>h);have end_:∀t,t=path.isPrefixOf (nibbles E[j].1)->∃L',Stp SW w1 L1 w3.drew L'/\ZJ1 (under (E.take j) path) D w3.drew L'/\Z2J w3.drew L' 0 o E/\CBy w3.drew L' 5 o3 (nibbles E[j].1)/\t=path.isPrefixOf (nibbles E[j].1):=fun t ht=>⟨_,s2.trans (st4.mono (fun _ h=>h.elim)),I2.stp st4,K2.stp st4 (fun h=>h),N4,ht⟩;refine⟨fun hle=>⟨⟨by omega,by omega⟩,?_⟩,fun hgt=>end_ _ ?_⟩
   ·have ht:((nibbles E[j].1).take path.length).length=path.length:=by rw[JI];omega
    have h1:=Z0u ZW Z24 Z2V (c:=k3) (N4.rd.take path.length);rw[ht]at h1;refine⟨_,by rw[G];exact h1,_,rfl,_,Z0u ZW Z24 Z2V P4.rd,_,rfl,end_ _ ?_⟩;rw[Z2f,Bool.eq_iff_iff,decide_eq_true_eq,Z72];exact⟨fun h=>⟨by omega,h⟩,fun h=>h.2⟩
   ·refine(Bool.eq_false_iff.2 (fun h=>?_)).symm
    have:=(Z72.1 h).1;omega
  ·rintro t _ w4⟨L4,s4,I4,K4,N4,rfl⟩
   refine⟨fun ht=>?_,fun hf=>⟨⟨j+1,L4,by rw[Z0 (by omega) (by omega)];omega,hjl,s4,?_⟩,by dsimp only;rw[Z0 (by omega) (by omega)];omega⟩⟩
   ·rintro _ rfl
    have sD:=Stp.drew NoS w4 L4;have I5:=I4.stp sD;have N5:=N4.stp sD (fun h=>h);have K5:=K4.stp sD (fun h=>h);have s5:=s4.trans (sD.mono (T:=SW) (fun _ h=>h.elim));clear sD s4 I4 N4 K4;generalize w4.drew=w5 at *
    obtain⟨ol,cl,op',cp,vs,e1,e2,e3,e4⟩:=I5.ex;obtain⟨g,f,ok,kk,ov,kv,q1,q2,q3,q4,q5,q6,q7⟩:=K5 j hjl;refine⟨_,_,_,e1.blk.rd1 rfl,_,q1,⟨by omega,by omega⟩,_,_,_,_,_,_,by rw[G,Z3];exact q4,by rw[G,Z3,Z3,JY];exact q6,?_⟩;rintro d6 w6⟨rfl,rfl⟩;have st6:=Stp.alloc NoS w5 L4 (J #[.slice ok E[j].1.length kk,.slice ov E[j].2.length kv] 53) 5;have Y6:=Blk.new w5 53 #[.slice ok E[j].1.length kk,.slice ov E[j].2.length kv];have e16:=e1.stp st6 (fun h=>h);have e26:=e2.stp st6 (fun h=>h);have e36:=e3.stp st6 (fun h=>h);have e46:=e4.stp st6 (fun h=>h) (fun h=>h);have q56:=q5.stp st6 (fun h=>h);have q76:=q7.stp st6 (fun h=>h);have N6:=N5.stp st6 (fun h=>h);have s6:=s5.trans (st6.mono (T:=SW) (fun _ h=>h.elim));generalize w5.alloc (J #[.slice ok E[j].1.length kk,.slice ov E[j].2.length kv] 53)=w6 at *
    generalize ext L4 w5.heap.size 5=L6 at *
    have hUl:(under (E.take j) path).length<=E.length:=Jr (JN _ _) (by rw[JI];omega);obtain⟨o7,k7,w7,hr7,O7,st7⟩:=ZJf e26 (Z52 Z8h Y6 rfl (by simp[Value.oneCell'])) (by omega);have e17:=e16.stp st7 (by decide);have e37:=e36.stp st7 (by decide);have e47:=e46.stp st7 (by decide) (by decide);have q57:=q56.stp st7 (by decide);have q77:=q76.stp st7 (by decide);have N7:=N6.stp st7 (by decide);have s7:=s6.trans (st7.mono (T:=SW) (fun _ h=>Jd (Jd h)));generalize ext L6 w6.heap.size 8=L7 at *
    refine⟨e16.blk.rd1 rfl,_,w7,hr7,_,_,_,rfl,e17.blk.canSet (by simp) rfl,?_⟩;rintro _ rfl;have st8:Stp (·=1) w7 L7 (w7.setCell ⟨D,0,Y⟩ (.slice o7 ((under (E.take j) path).length+1) k7)) L7:=Stp.setCell e17.clr;have e18:=e17.set 0 (.slice o7 ((under (E.take j) path).length+1) k7);have O8:=O7.stp st8 (by decide);have e38:=e37.stp st8 (by decide);have e48:=e47.stp st8 (by decide) (by decide);have q58:=q57.stp st8 (by decide);have q78:=q77.stp st8 (by decide);have N8:=N7.stp st8 (by decide);have s8:=s7.trans (st8.mono (T:=SW) (fun _ h=>Jq h));generalize w7.setCell ⟨D,0,Y⟩ (.slice o7 ((under (E.take j) path).length+1) k7)=w8 at *
    refine⟨_,_,_,by rw[Z3];exact e18.blk.rd1 rfl,?_⟩;rintro d9 w9⟨rfl,rfl⟩;have st9:=Stp.alloc NoS w8 L7 (J #[.slice o3 (nibbles E[j].1).length k3] 23) 5;have Z9:=Blk.new w8 23 #[.slice o3 (nibbles E[j].1).length k3];have e19:=e18.stp st9 (fun h=>h);have O9:=O8.stp st9 (fun h=>h);have e39:=e38.stp st9 (fun h=>h);have e49:=e48.stp st9 (fun h=>h) (fun h=>h);have q59:=q58.stp st9 (fun h=>h);have q79:=q78.stp st9 (fun h=>h);have N9:=N8.stp st9 (fun h=>h);have s9:=s8.trans (st9.mono (T:=SW) (fun _ h=>h.elim));generalize w8.alloc (J #[.slice o3 (nibbles E[j].1).length k3] 23)=w9 at *
    generalize ext L7 w8.heap.size 5=L9 at *
    obtain⟨oa,ka,wa,hra,Oa,sta⟩:=e49.push (by decide) Z9 N9 hk3 (by rw[V];omega);have e1a:=e19.stp sta (by decide);have O8a:=O9.stp sta (by decide);have e3a:=e39.stp sta (by decide);have q5a:=q59.stp sta (by decide);have q7a:=q79.stp sta (by decide);have sa:=s9.trans (sta.mono (T:=SW) (fun _ h=>Jd (Jq h)));generalize ext L9 w9.heap.size 7=La at *
    refine⟨_,wa,hra,_,_,_,rfl,?_⟩;rw[Z3];refine⟨e1a.blk.canSet (by simp) rfl,?_⟩;rintro _ rfl;have stb:Stp (·=1) wa La (wa.setCell ⟨D,0+1,Y⟩ (.slice oa ((under (E.take j) path).length+1) ka)) La:=Stp.setCell e1a.clr;refine⟨⟨j+1,La,by rw[Z0 (by omega) (by omega)];omega,hjl,sa.trans (stb.mono (fun _ h=>Jq h)),?_⟩,by dsimp only;rw[Z0 (by omega) (by omega)];omega⟩;have hU:under (E.take (j+1)) path=under (E.take j) path++[E[j]]:=by rw[Z7r hjl,if_pos ht]
    rw[hU];refine⟨o7,k7,oa,ka,vs++[.slice ok E[j].1.length kk,.slice ov E[j].2.length kv],?_,?_,Z1t.append (e3a.stp stb (by decide)) ?_,?_⟩
    ·rw[JE];exact e1a.set 1 _
    ·rw[JE];exact O8a.stp stb (by decide)
    ·exact⟨rfl,fun i hi=>by
      obtain rfl:i=0:=by simpa using hi
      exact⟨ok,kk,ov,kv,rfl,q5a.stp stb (by decide),rfl,q7a.stp stb (by decide)⟩⟩
    ·rw[JE,show Z69 (under (E.take j) path++[E[j]])=Z69 (under (E.take j) path)++[nibbles E[j].1]from Ji]
     exact Oa.stp stb (by decide) (by decide)
   ·rw[Z7r hjl,if_neg (by rw[hf];decide),Jk]
    exact I4
 ·obtain rfl:j=E.length:=by omega
  rw[JP]at I2;have M02:Vcg.Mod NoB w w2:=M1.trans (s2.mod (Q:=fun k=>D<=k) (fun k hk hs=>Nat.not_lt.1 fun hlt=>by rw[old1 k hlt]at hs;revert hs;decide)) (fun i hi hq=>by omega);obtain⟨ol,cl,op',cp,vs,e1,e2,e3,e4⟩:=id I2.ex;refine⟨_,_,_,e1.blk.rd1 rfl,fun h0=>?_,fun hne=>⟨_,_,_,e1.blk.rd1 rfl,?_⟩⟩
  ·have hn:under E path=[]:=JD (by omega)
   rintro d3 w3⟨rfl,rfl⟩;have hx:=Z9D.1 ((ZDo hE path).2 hn);rw[hx]at hR;exact hR _ _ ⟨M02.step_alloc _,_,1,rfl,ZEi w2⟩
  ·obtain⟨hc,hfit,hrep⟩:=ZEu hE path
   have hsm:=Z3X hc hfit;have hpl':(ZT (under E path)).length=(under E path).length:=V _;have hnn:subNd E path≠.nil:=hrep.ne (fun h=>by have:=congrArg Js h;rw[V]at this;simp only[JR]at this;omega)
   have hseg:seg (ZT (under E path)) 0 (under E path).length path.length=(under E path).map fun e=>((nibbles e.1).drop path.length,e.2):=by
    unfold seg;rw[List.drop_zero,Nat.sub_zero,<-hpl',JP];unfold ZT;rw[List.map_map];rfl
   rw[<-hseg]at hrep;have hUl:(under E path).length<=E.length:=JN _ _
   have hEs:EsOk (ZT (under E path)):=⟨by omega,fun e he=>by
    obtain⟨x,hx,rfl⟩:=List.mem_map.1 he;have:=Z9H hE (Z1P.1 hx).1;show(nibbles x.1).length<=128;omega,fun e he=>by
    obtain⟨x,hx,rfl⟩:=List.mem_map.1 he;exact(hE.vals x (Z1P.1 hx).1).2⟩
   have hok:Z6f (ZT (under E path)) 0 (under E path).length path.length:=⟨by omega,by omega,fun i hi _ _=>by
    rw[show(ZT (under E path))[i]=(nibbles ((under E path)[i]'(by omega)).1,((under E path)[i]'(by omega)).2)from JJ _];have:=Z9H hE (Z1P.1 (J8 (l:=under E path) (n:=i) (by omega))).1;show path.length<=(nibbles ((under E path)[i]'(by omega)).1).length;omega⟩
   have hcn:cnt (subNd E path)<=4*(under E path).length:=by
    have:=ZAr ((under E path).map fun e=>((nibbles e.1).drop path.length,e.2)) .nil;rw[V]at this;unfold subNd;simpa[cnt]using this
   refine((ZB4 (subNd E path) hc hsm hnn).2 I2.bs hEs hok hrep (by simp only[JR];omega)).mono ?_;rintro _ w3⟨o3,k3,rfl,L3,s3,_,x3⟩
   exact⟨_,_,_,rfl,hR _ _ ⟨M02.trans (s3.mod (Q:=fun k=>D<=k) (fun k hk hs=>Nat.not_lt.1 fun hlt=>by
    have:ZJi L2 k=6:=by unfold ZJi;rw[if_pos (Jq (by rw[s2.lab k (by omega)];exact old1 k hlt))]
    rw[this]at hs;rcases hs with h|h|h<;>omega)) (fun i hi hq=>by omega),o3,k3,rfl,x3.rd⟩⟩
end
theorem ZHq(x y:Int):C J5 (C J5 x+y)=C J5 (x+y):=by
 rw[Z8l,Z8l,Z8l,show(x+9223372036854775808)%18446744073709551616-9223372036854775808+y+9223372036854775808=(x+9223372036854775808)%18446744073709551616+y by omega,Int.emod_add_emod,show x+9223372036854775808+y=x+y+9223372036854775808 by omega]
structure HoC (cs:Array Value) (vE vP vU:Value) (a b:By) (met:Nat) (bad:Int):Prop where
 sz:cs.size=69
 c0:cs[0]?=O vE
 c1:cs[1]?=O vP
 cl:∀i,i<32->cs[2+i]?=(hashA a)[i]?
 cm:∀i,i<32->cs[34+i]?=(hashA b)[i]?
 cu:cs[66]?=O vU
 ct:cs[67]?=O (.int J5 (C J5 (met:Int)))
 cb:cs[68]?=O (.int J5 bad)
section
variable{cs:Array Value}{vE vP vU:Value}{a b:By}{met:Nat}{bad:Int}
theorem HoC.setBad(h:HoC cs vE vP vU a b met bad)(e:Int):HoC (cs.setIfInBounds 68 (.int J5 e)) vE vP vU a b met e:=by
 obtain⟨h1,h2,h3,h4,h5,h6,h7,h8⟩:=h;have ne:∀{i:Nat},i≠68->(cs.setIfInBounds 68 (.int J5 e))[i]?=cs[i]?:=fun h=>JM (by omega);exact⟨by rw[JU,h1],by rw[ne (by decide),h2],by rw[ne (by decide),h3],fun i hi=>by rw[ne (by omega),h4 i hi],fun i hi=>by rw[ne (by omega),h5 i hi],by rw[ne (by decide),h6],by rw[ne (by decide),h7],by rw[JF (by omega)]⟩
theorem HoC.setMet(h:HoC cs vE vP vU a b met bad)(n:Nat):HoC (cs.setIfInBounds 67 (.int J5 (C J5 (n:Int)))) vE vP vU a b n bad:=by
 obtain⟨h1,h2,h3,h4,h5,h6,h7,h8⟩:=h;have ne:∀{i:Nat},i≠67->(cs.setIfInBounds 67 (.int J5 (C J5 (n:Int))))[i]?=cs[i]?:=fun h=>JM (by omega);exact⟨by rw[JU,h1],by rw[ne (by decide),h2],by rw[ne (by decide),h3],fun i hi=>by rw[ne (by omega),h4 i hi],fun i hi=>by rw[ne (by omega),h5 i hi],by rw[ne (by decide),h6],by rw[JF (by omega)],by rw[ne (by decide),h8]⟩
end
def UsC(w:J2)(lab:Nat->Nat)(used:List Bool)(o:Option Addr):Prop:=used=[]\/∃g t us,o=O ⟨g,0,Y⟩/\CB w lab 2 g t us/\us.toList=used.map X
theorem UsC.stp{S:Nat->Prop}{w w':J2}{lab lab':Nat->Nat}{used:List Bool}{o:Option Addr}(h:UsC w lab used o)(s:Stp S w lab w' lab')(h2:¬S 2):UsC w' lab' used o :=
 h.imp id (fun⟨g,t,us,a,b,c⟩=>⟨g,t,us,a,b.stp s h2,c⟩)
structure HoS (E P:RS) (a b:By) (D:Nat) (w:J2) (lab:Nat->Nat) (s:HSt):Prop where
 ex:∃cs oE kE oP kP oU kU,HoC cs (.slice oE E.length kE) (.slice oP P.length kP) (.slice oU P.length kU) a b s.met s.bad/\CB w lab 1 D 107 cs/\Z2J w lab 0 oE E/\Z1V w lab 0 P oP P.length/\UsC w lab s.used oU
 len:s.used.length=P.length
abbrev SH:Nat->Prop:=fun k=>k=1\/k=2
section
variable{E P:RS}{a b:By}{D:Nat}{w w':J2}{lab lab':Nat->Nat}{s:HSt}
theorem HoS.no(h:HoS E P a b D w lab s)(st:Stp NoS w lab w' lab'):HoS E P a b D w' lab' s:=by
 obtain⟨cs,oE,kE,oP,kP,oU,kU,h1,h2,h3,h4,h5⟩:=h.ex;exact⟨⟨cs,oE,kE,oP,kP,oU,kU,h1,h2.stp st (fun h=>h),h3.stp st (fun h=>h),h4.stp st (fun h=>h),h5.stp st (fun h=>h)⟩,h.len⟩
theorem HoS.rdBad(h:HoS E P a b D w lab s):J3 w (J1 ⟨D,0,Y⟩ 68)=O (.int J5 s.bad):=by
 obtain⟨cs,oE,kE,oP,kP,oU,kU,h1,h2,_⟩:=h.ex;rw[Z3];exact h2.blk.rd1 h1.cb
theorem HoS.arrs(h:HoS E P a b D w lab s):ZG w (J1 ⟨D,0,Y⟩ 2) 32 (hashA a)/\ZG w (J1 ⟨D,0,Y⟩ 34) 32 (hashA b):=by
 obtain⟨cs,oE,kE,oP,kP,oU,kU,h1,h2,_⟩:=h.ex;rw[Z3,Z3,JA,JA];exact⟨h2.blk.rowAt (ZB _) h1.cl,h2.blk.rowAt (ZB _) h1.cm⟩
theorem HoS.setBad(h:HoS E P a b D w lab s)(e:Int){Q:J2->Prop}(K:∀w',Stp SH w lab w' lab->HoS E P a b D w' lab { s with bad:=e }->Q w'):Z1 w (J1 ⟨D,0,Y⟩ 68) (.int J5 e)/\∀w1:J2,ZA w (J1 ⟨D,0,Y⟩ 68) (.int J5 e) w1->Q w1:=by
 obtain⟨cs,oE,kE,oP,kP,oU,kU,h1,h2,h3,h4,h5⟩:=h.ex;rw[Z3,JA];refine⟨h2.blk.canSet (by rw[h1.sz];decide) rfl,?_⟩;rintro _ rfl;have st:Stp (·=1) w lab (w.setCell ⟨D,68,Y⟩ (.int J5 e)) lab:=Stp.setCell h2.clr;exact K _ (st.mono (fun _ h=>Jq h)) ⟨⟨_,oE,kE,oP,kP,oU,kU,h1.setBad e,h2.set 68 _,h3.stp st (by decide),h4.stp st (by decide),h5.stp st (by decide)⟩,h.len⟩
theorem HoS.addMet(h:HoS E P a b D w lab s)(n:Nat){Q:J2->Prop}(K:∀w',Stp SH w lab w' lab->HoS E P a b D w' lab { s with met:=s.met+n }->Q w'):∃n46:Int,J3 w (J1 ⟨D,0,Y⟩ 67)=O (.int J5 n46)/\Z1 w (J1 ⟨D,0,Y⟩ 67) (.int J5 (C J5 (n46+n)))/\∀w1:J2,ZA w (J1 ⟨D,0,Y⟩ 67) (.int J5 (C J5 (n46+n))) w1->Q w1:=by
 obtain⟨cs,oE,kE,oP,kP,oU,kU,h1,h2,h3,h4,h5⟩:=h.ex;rw[Z3,JA];refine⟨_,h2.blk.rd1 h1.ct,?_⟩;rw[ZHq,show(s.met:Int)+(n:Int)=((s.met+n:Nat):Int) by omega];refine⟨h2.blk.canSet (by rw[h1.sz];decide) rfl,?_⟩;rintro _ rfl;have st:Stp (·=1) w lab (w.setCell ⟨D,67,Y⟩ (.int J5 (C J5 ((s.met+n:Nat):Int)))) lab:=Stp.setCell h2.clr;exact K _ (st.mono (fun _ h=>Jq h)) ⟨⟨_,oE,kE,oP,kP,oU,kU,h1.setMet _,h2.set 67 _,h3.stp st (by decide),h4.stp st (by decide),h5.stp st (by decide)⟩,h.len⟩
theorem Z0i(h:HoS E P a b D w lab s)(e:Int) :
  Jc J6 Zf.n #[JQ (O ⟨D,0,Y⟩),.int J5 e] w (fun r w'=>r=J0 (Jb #[])/\Stp SH w lab w' lab/\HoS E P a b D w' lab (s.fault e)):=by
 refine Zf.vc _ _ _ _ ?_;unfold Zf.Vc;refine⟨_,h.rdBad,fun h0=>h.setBad e (fun w' st I=>⟨rfl,st,by unfold HSt.fault;rw[if_pos h0];exact I⟩),fun hne=>⟨rfl,Stp.refl _ _ _,by unfold HSt.fault;rw[if_neg hne];exact h⟩⟩
variable{a' b':By}{o ov:Option Addr}{k kv:Nat}{path v:By}
theorem ZBm(hE:EOk E a' b')(hl:E.length<=4096)(h:HoS E P a b D w lab s)(hp:RdB w o path) :
  Jc J6 Za.n #[JQ (O ⟨D,0,Y⟩),.slice o path.length k] w (fun r w'=>r=J0 (.int J5 ((under E path).length:Int))/\Vcg.Mod NoB w w'):=by
 refine ZD fun R hR=>Za.vc _ _ _ _ _ _ ?_;unfold Za.Vc;obtain⟨cs,oE,kE,oP,kP,oU,kU,h1,h2,h3,h4,h5⟩:=h.ex;have c0:∀{w'},Vcg.Mod NoB w w'->J3 w' ⟨D,0,Y⟩=O (.slice oE E.length kE):=fun M=>(h2.blk.mod' M).rd1 h1.c0;refine⟨fun n i w'=>∃j:Nat,i=(j:Int)/\j<=E.length/\n=((under (E.take j) path).length:Int)/\Vcg.Mod NoB w w',fun _ i _=>((E.length:Int)-i).toNat,⟨0,rfl,JG _,rfl,Mod.refl w⟩,?_⟩;rintro _ _ _ w1⟨j,rfl,hj,rfl,M1⟩;have hUl:(under (E.take j) path).length<=E.length:=Jr (JN _ _) (by rw[JI];omega);refine⟨_,_,_,c0 M1,fun hlt=>?_,fun hge=>?_⟩
 ·have hjl:j<E.length:=by omega
  have hku:=hE.keys _ (J8 hjl);obtain⟨g,f,ok,kk,ov,kv,q1,q2,q3,q4,q5,q6,q7⟩:=h3 j hjl;refine⟨_,_,_,c0 M1,_,q1,⟨by omega,by omega⟩,_,_,_,by rw[G,Z3,ZN M1 q2 (fun h=>h)];exact q4,?_⟩;refine(Z1G (q5.rd.mod' M1) (by omega)).mono ?_;rintro _ w2⟨o2,k2,rfl,F2⟩;have hk2:=F2.own.cap.1;refine⟨_,_,_,rfl,?_⟩;rintro _ rfl;have M2:=(M1.none_trans F2.mod).step_drew;have N2:=(ZK F2).mod' (Mod.drew (S:=NoB) w2);generalize w2.drew=w2 at *
  have hst:=Z7r (p:=path) hjl;have yes:path.isPrefixOf (nibbles E[j].1)=Ja->(under (E.take (j+1)) path).length=(under (E.take j) path).length+1:=fun ht=>by rw[hst,if_pos ht,JE];rfl
  have no:path.isPrefixOf (nibbles E[j].1)=J9->(under (E.take (j+1)) path).length=(under (E.take j) path).length:=fun hf=>by rw[hst,if_neg (by rw[hf];decide),Jk]
  have ej:C J5 ((j:Int)+1)=((j+1:Nat):Int):=by rw[Z0 (by omega) (by omega)];omega
  rw[ej];refine⟨fun hle=>⟨⟨by omega,by omega⟩,?_⟩,fun hgt=>⟨⟨j+1,rfl,hjl,?_,M2⟩,by dsimp only;omega⟩⟩
  ·have ht:((nibbles E[j].1).take path.length).length=path.length:=by rw[JI];omega
   have hs:=Z0u ZW Z24 Z2V (c:=k2) (N2.take path.length);rw[ht]at hs;refine⟨_,by rw[G];exact hs,_,rfl,_,Z0u ZW Z24 Z2V (hp.mod' M2),_,rfl,fun he=>⟨⟨j+1,rfl,hjl,?_,M2⟩,by dsimp only;omega⟩,fun he=>⟨⟨j+1,rfl,hjl,?_,M2⟩,by dsimp only;omega⟩⟩
   ·rw[Z2f,decide_eq_true_eq]at he
    rw[yes (Z72.2 ⟨by omega,he⟩),Z0 (by omega) (by omega)];omega
   ·rw[Z2f,decide_eq_false_iff_not]at he
    rw[no (Bool.eq_false_iff.2 (fun h=>he (Z72.1 h).2))]
  ·rw[no (Bool.eq_false_iff.2 (fun h=>by have:=(Z72.1 h).1;omega))]
 ·obtain rfl:j=E.length:=by omega
  rw[JP];exact hR _ _ ⟨rfl,M1⟩
theorem Z84(hE:EOk E (nibbles a) (nibbles b))(hl:E.length<=4096)(ha:a.length=32)(hb:b.length=32)(h:HoS E P a b D w lab s)(hp:CBy w lab 6 o path)(hv:CBy w lab 6 ov v) :
  Jc J6 Zg.n #[JQ (O ⟨D,0,Y⟩),.slice ov v.length kv,.slice o path.length k] w (fun r w'=>r=J0 (Jb #[])/\∃lab',Stp SH w lab w' lab'/\HoS E P a b D w' lab' (hVal E (nibbles a) (nibbles b) s v path)):=by
 refine ZD fun R hR=>Zg.vc _ _ _ _ _ _ _ _ _ ?_;unfold Zg.Vc;have fin:∀{w' lab' s'},Stp SH w lab w' lab'->HoS E P a b D w' lab' s'->hVal E (nibbles a) (nibbles b) s v path=s'->R (J0 (Jb #[])) w':=fun st I he=>hR _ _ ⟨rfl,_,st,by rw[he];exact I⟩;unfold hVal at fin;refine⟨fun hne=>?_,fun h64=>?_⟩
 ·rw[if_pos (by omega)]at fin
  refine(Z0i h 161).mono ?_;rintro _ w1⟨rfl,st,I⟩;exact⟨rfl,fin st I rfl⟩
 rw[if_neg (by omega)]at fin;rintro _ rfl;have sD:=Stp.drew NoS w lab;have I1:=h.no sD;have P1:=hp.stp sD (fun h=>h);have V1:=hv.stp sD (fun h=>h);generalize w.drew=w1 at *
 refine⟨_,I1.arrs.1,_,I1.arrs.2,?_⟩;refine(Z6Y ha hb P1.rd (by omega)).mono ?_;rintro _ w2⟨rfl,M2⟩;have st2:Stp NoS w1 lab w2 (ext lab w1.heap.size 5):=Stp.of_nob M2 5;have I2:=I1.no st2;have P2:=P1.stp st2 (fun h=>h);have V2:=V1.stp st2 (fun h=>h);have s2:Stp SH w lab w2 _:=(sD.trans st2).mono (fun _ h=>h.elim);generalize ext lab w1.heap.size 5=lab2 at *
 refine⟨_,rfl,fun hneg=>?_,fun hpos=>?_⟩
 ·have ho:Z0C (nibbles a) (nibbles b) path= -1:=by rcases Z3a (a:=nibbles a) (b:=nibbles b) path with h|h|h<;>omega
  exact fin s2 I2 (if_pos ho)
 rw[if_neg (by omega)]at fin;refine⟨fun i w'=>∃(j:Nat)(lab':Nat->Nat),i=(j:Int)/\j<=E.length/\Stp NoS w2 lab2 w' lab'/\∀i(hi:i<E.length),i<j->nibbles E[i].1≠path,fun i _=>((E.length:Int)-i).toNat,⟨0,lab2,rfl,JG _,Stp.refl _ _ _,fun i hi h=>absurd h (by omega)⟩,?_⟩;rintro _ _ w3⟨j,lab3,rfl,hj,st3,hno⟩;have I3:=I2.no st3;have P3:=P2.stp st3 (fun h=>h);have V3:=V2.stp st3 (fun h=>h);have s3:=s2.trans (st3.mono (T:=SH) (fun _ h=>h.elim));obtain⟨cs,oE,kE,oP,kP,oU,kU,h1,h2,h3,h4,h5⟩:=id I3.ex;refine⟨_,_,_,h2.blk.rd1 h1.c0,fun hlt=>?_,fun hge=>?_⟩
 ·have hjl:j<E.length:=by omega
  rintro _ rfl;have sD:=Stp.drew NoS w3 lab3;have h24:=h2.stp sD (fun h=>h);have h34:=h3.stp sD (fun h=>h);have P4:=P3.stp sD (fun h=>h);have st4:=st3.trans sD;generalize w3.drew=w4 at *
  have hku:=hE.keys _ (J8 hjl);obtain⟨g,f,ok,kk,ov',kv',q1,q2,q3,q4,q5,q6,q7⟩:=h34 j hjl;refine⟨_,_,_,h24.blk.rd1 h1.c0,_,q1,⟨by omega,by omega⟩,_,_,_,by rw[G,Z3];exact q4,_,Z0u ZW Z24 Z2V P4.rd,_,rfl,?_⟩;refine(Z1G q5.rd (by omega)).mono ?_;rintro _ w5⟨o5,k5,rfl,F5⟩;have st5:Stp NoS w4 lab3 w5 (ext lab3 w4.heap.size 5):=Stp.of_nob F5.mod 5;have s25:=st4.trans st5;refine⟨_,_,_,rfl,Z0u ZW Z24 Z2V (P4.rd.mod' F5.mod),_,Z0u ZW Z24 Z2V (ZK F5),_,rfl,fun he=>?_,fun hf=>⟨⟨j+1,_,by rw[Z0 (by omega) (by omega)];omega,hjl,s25,fun i hi hij=>?_⟩,by dsimp only;rw[Z0 (by omega) (by omega)];omega⟩⟩
  ·rw[Z2f,decide_eq_true_eq]at he
   have hfind:E.find? (fun e=>decide (nibbles e.1=path))=O E[j]:=by
    rw[List.find?_eq_some_iff_getElem];exact⟨decide_eq_true he,j,hjl,rfl,fun i hi=>by simpa using hno i (by omega) hi⟩
   rw[hfind]at fin;rintro _ rfl;have s26:=s25.trans (Stp.drew NoS w5 _);have I6:=I2.no s26;have V6:=V2.stp s26 (fun h=>h);have s6:=s2.trans (s26.mono (T:=SH) (fun _ h=>h.elim));generalize w5.drew=w6 at *
   generalize ext lab3 w4.heap.size 5=lab6 at *
   obtain⟨cs,oE,kE,oP,kP,oU,kU,h1,h2,h3,h4,h5⟩:=id I6.ex;obtain⟨g,f,ok,kk,ov',kv',q1,q2,q3,q4,q5,q6,q7⟩:=h3 j hjl;refine⟨_,_,_,h2.blk.rd1 h1.c0,_,q1,⟨by omega,by omega⟩,_,_,_,by rw[G,Z3,Z3,JY];exact q6,_,Z0u ZW Z24 Z2V q7.rd,_,rfl,_,Z0u ZW Z24 Z2V V6.rd,_,rfl,fun hne=>?_,fun heq=>?_⟩
   ·rw[Z8f,decide_eq_true_eq]at hne
    refine(Z0i I6 163).mono ?_;rintro _ w7⟨rfl,st7,I7⟩;exact⟨rfl,I7.addMet 1 (fun w8 st8 I8=>fin ((s6.trans st7).trans st8) I8 (by dsimp only;rw[if_pos hne]))⟩
   ·rw[Z8f,decide_eq_false_iff_not]at heq
    exact I6.addMet 1 (fun w8 st8 I8=>fin (s6.trans st8) I8 (by dsimp only;rw[if_neg heq]))
  ·by_cases hij':i=j
   ·subst hij'
    rw[Z2f,decide_eq_false_iff_not]at hf;exact hf
   ·exact hno i hi (by omega)
 ·have hfind:E.find? (fun e=>decide (nibbles e.1=path))=Y:=by
    rw[List.find?_eq_none];intro e he;obtain⟨i,hi,rfl⟩:=JK he;simpa using hno i hi (by omega)
  rw[hfind]at fin;refine(Z0i I3 163).mono ?_;rintro _ w4⟨rfl,st4,I4⟩;exact⟨rfl,fin (s3.trans st4) I4 rfl⟩
end
def ROK(E P:RS)(a b:By)(D f:Nat):Prop:=∀{w:J2} {lab:Nat->Nat} {s:HSt} {x:It} {v1 v2 v3:Value} {o:Option Addr} {k:Nat} {path:By},HoS E P a b D w lab s->ItC (fun b=>lab b≠6) w x v1 v2 v3->Z2p x->CBy w lab 6 o path->path.length<=k->Nib path->66<=f+path.length ->
 Jc J6 ZS.n #[JQ (O ⟨D,0,Y⟩),Jn #[v1,v2,v3],.slice o path.length k] w (fun e w'=>e=J0 (Jb #[])/\∃lab',Stp SH w lab w' lab'/\HoS E P a b D w' lab' (hRef E (nibbles a) (nibbles b) P f s x path))
section
variable{E P:RS}{a b:By}{D f:Nat}
theorem Z9C(hE:EOk E (nibbles a) (nibbles b))(hlE:E.length<=4096)(ha:a.length=32)(hb:b.length=32)(K:ROK E P a b D f){w:J2}{lab:Nat->Nat}{s:HSt}{xs:List It}{v1 v2 v3:Value}{o:Option Addr}{k:Nat}{path:By}(hI:HoS E P a b D w lab s)(hx:ItC (fun b=>lab b≠6) w (.l xs) v1 v2 v3)(hg:Z2p (.l xs))(hp:CBy w lab 6 o path)(hk:path.length<=k)(hnib:Nib path)(hf:66<=f+1+path.length)(hl:path.length<=64) :
  Jc J6 Zk.n #[JQ (O ⟨D,0,Y⟩),Jn #[v1,v2,v3],.slice o path.length k] w (fun e w'=>e=J0 (Jb #[])/\∃lab',Stp SH w lab w' lab'/\HoS E P a b D w' lab' (Z9v E (nibbles a) (nibbles b) (hRef E (nibbles a) (nibbles b) P f) s xs path)):=by
 have hx0:=hx;simp only[ItC]at hx;obtain⟨rfl,rfl,p,c,rfl,h4,hcap⟩:=hx;refine ZD fun R hR=>Zk.vc _ _ _ _ _ _ _ _ _ _ _ _ _ ?_;unfold Zk.Vc;rintro d5 w1⟨rfl,rfl⟩;have st1:Stp NoS w lab (w.alloc (J #[X Ja,.slice Y 0 0,.slice p xs.length c] 111)) (ext lab w.heap.size 5):=Stp.alloc NoS w lab _ 5;have X1:=CB.new w lab 5 111 #[X Ja,.slice Y 0 0,.slice p xs.length c];have I1:=hI.no st1;have P1:=hp.stp st1 (fun h=>h);have hx1:=ItC.stp6 hx0 st1 (fun h=>h);generalize w.heap.size=F at *
 generalize w.alloc (J #[X Ja,.slice Y 0 0,.slice p xs.length c] 111)=w1 at *
 generalize ext lab F 5=lab1 at *
 have hx10:=hx1;simp only[ItC]at hx1;obtain⟨_,_,p',c',hpc,h41,_⟩:=hx1;cases hpc;have cby:∀{w':J2}{lab':Nat->Nat}{o:Option Addr}{q:By},RdA (fun b=>lab' b≠6) w' o q->CBy w' lab' 6 o q:=fun h=>⟨h.1,fun hne d hd=>Decidable.not_not.1 (h.2 hne d hd)⟩;have fin:∀{w' lab' s'},Stp SH w lab w' lab'->HoS E P a b D w' lab' s'->Z9v E (nibbles a) (nibbles b) (hRef E (nibbles a) (nibbles b) P f) s xs path=s'->R (J0 (Jb #[])) w':=fun st I he=>hR _ _ ⟨rfl,_,st,by rw[he];exact I⟩;unfold Z9v at fin;refine⟨_,_,_,by rw[Z3];exact X1.blk.rd1 rfl,fun h2=>?_,fun h2=>?_⟩
 ·have h2':xs.length=2:=by omega
  rw[if_pos h2']at fin;obtain⟨pp,lf,he,hl1,hl2⟩:=hg.two h2';rw[he]at fin;obtain⟨g,f0,u1,u2,u3,rfl,hgs,e1,e2,e3,hi⟩:=h41.get 0 (by omega);have h0e:xs.getD 0 (.s [])=xs[0]:=Z1m (by omega);have h1e:xs.getD 1 (.s [])=xs[1]:=Z1m (by omega);have hm0:xs[0]∈xs:=J8 (by omega);obtain⟨gg,hnn,hfine⟩:=hg.node;cases hq:xs[0]with
  |l ys=>rw[h0e,hq]at he;simp[Z1C]at he
  |s bs =>
   rw[hq]at hi;simp only[ItC]at hi;obtain⟨rfl,⟨ox,cx,rfl,hrx,_⟩,rfl⟩:=hi;have hbl:bs.length<=2^20:=hg.dec (j:=0) (by omega) hq;refine⟨_,_,_,by rw[Z3];exact X1.blk.rd1 rfl,_,rfl,⟨by decide,by omega⟩,_,_,_,by rw[Z3,Z3];exact e2,?_⟩;refine(Z75 hrx hbl).mono ?_;rintro _ w2⟨o',k',rfl,M2,R2,hnew⟩;have he':=he;rw[h0e,hq]at he';simp only[Z1C]at he';have eu:upk bs=(pp,lf,0):=by unfold upk;rw[he']
   rw[eu]at R2 ⊢;obtain⟨o4,k4,w4,hr4,F4⟩:=Z1v (w0:=w1) (k2:=k) (ty:=Zw) M2 (P1.rd.mod' M2) (by omega);refine⟨_,_,_,_,_,rfl,_,w4,hr4,_,_,_,rfl,?_⟩
   have R4:RdB w4 o' pp:=by
    obtain⟨o4',k4',w4',hr4',F4'⟩:=Z1v (k2:=k) (ty:=Zw) (Mod.refl w2) (P1.rd.mod' M2) (by omega);have e:=hr4'.symm.trans hr4;cases e;exact R2.mod' F4'.mod
   obtain⟨o5,k5,w5,hr5,F5⟩:=ZX (ty:=Zw) (k2:=k') F4 R4 (by have:=Z7s he;show path.length+pp.length<=2^40;omega);refine⟨_,w5,hr5,_,_,_,rfl,?_⟩;have st5:Stp NoS w1 lab1 w5 (ext lab1 w1.heap.size 6):=Stp.of_nob F5.mod 6;have I5:=I1.no st5;have X5:=X1.stp st5 (fun h=>h);have P5:CBy w5 (ext lab1 w1.heap.size 6) 6 o5 (path++pp):=⟨ZK F5,fun _ d hd=>ext_new (F5.new d.block ⟨d,hd,rfl⟩)⟩;have hlen:(path++pp).length=path.length+pp.length:=JE;have hk5:=F5.own.cap.1;have hx5:=ItC.stp6 hx10 st5 (fun h=>h);have s5:Stp SH w lab w5 _:=(st1.trans st5).mono (fun _ h=>h.elim);clear hx10 F5 F4 R4 M2 R2 hnew st5 I1 P1 X1 e1 e2 e3 hrx h41;generalize ext lab1 w1.heap.size 6=lab5 at *
   simp only[ItC]at hx5;obtain⟨_,_,p',c',hpc,h43,_⟩:=hx5;cases hpc;obtain⟨g',f0',t1,t2,t3,ho,hgs',d1,d2,d3,hi'⟩:=h43.get 1 (by omega);cases ho;refine⟨fun hlf=>?_,fun hlf=>?_⟩
   ·dsimp only at hlf;subst hlf
    obtain⟨v,hv,_⟩:=hl1 rfl;rw[hv]at fin;rw[<-h1e,hv]at hi';simp only[ItC]at hi';obtain⟨rfl,⟨oy,cy,rfl,hry⟩,rfl⟩:=hi';refine⟨_,_,_,by rw[Z3];exact X5.blk.rd1 rfl,_,rfl,⟨by decide,by omega⟩,_,_,_,by rw[Z3,Z3];exact d2,?_⟩;have hc:=Z84 (k:=k5) (kv:=cy) hE hlE ha hb I5 P5 (cby hry);rw[hlen]at hc;refine hc.mono ?_;rintro _ w6⟨rfl,lab6,st6,I6⟩;exact⟨rfl,fin (s5.trans st6) I6 rfl⟩
   ·dsimp only at hlf;subst hlf
    obtain⟨hpn,hgy,hye⟩:=hl2 rfl;rw[h1e]at hgy fin;obtain⟨bb,p1,q1,r1,p2,q2,r2,rfl,rfl,rfl⟩:=hi'.vals;refine⟨_,_,_,by rw[Z3];exact X5.blk.rd1 rfl,_,rfl,⟨by decide,by omega⟩,_,_,_,_,_,_,_,by rw[Z3];exact d1,by rw[Z3,Z3];exact d2,by rw[Z3,Z3];exact d3,?_⟩;have hppl:0<pp.length:=List.length_pos_iff.2 hpn;have hc:=K (k:=k5) I5 hi' hgy P5 (by rw[hlen];exact hk5) (fun x hx=>(List.mem_append.1 hx).elim (hnib x) (ZBB he x)) (by omega);rw[hlen]at hc;refine hc.mono ?_;rintro _ w6⟨rfl,lab6,st6,I6⟩;exact⟨rfl,fin (s5.trans st6) I6 rfl⟩
 ·obtain⟨h17,⟨v16,hv16⟩,hkids⟩:=hg.many (by omega)
  rw[if_neg (by omega),hv16]at fin;dsimp only[itB]at fin;have h16e:xs.getD 16 (.s [])=xs[16]:=Z1m (by omega);obtain⟨g,f0,u1,u2,u3,rfl,hgs,e1,e2,e3,hi⟩:=h41.get 16 (by omega);rw[<-h16e,hv16]at hi;simp only[ItC]at hi;obtain⟨rfl,⟨oy,cy,rfl,hry⟩,rfl⟩:=hi;refine⟨fun w'=>∃lab',Stp SH w1 lab1 w' lab'/\HoS E P a b D w' lab' (if v16=[]then s else hVal E (nibbles a) (nibbles b) s v16 path),⟨_,_,_,by rw[Z3];exact X1.blk.rd1 rfl,_,rfl,⟨by decide,by omega⟩,_,_,_,by rw[Z3,Z3];exact e2,fun hpos=>⟨_,_,_,by rw[Z3];exact X1.blk.rd1 rfl,_,rfl,⟨by decide,by omega⟩,_,_,_,by rw[Z3,Z3];exact e2,?_⟩,fun hz=>⟨lab1,Stp.refl _ _ _,by rw[if_pos (JD (by omega))];exact I1⟩⟩,?_⟩
  ·rw[if_neg (fun e=>by rw[e]at hpos;exact absurd hpos (by decide))]
   refine(Z84 (k:=k) (kv:=cy) hE hlE ha hb I1 P1 (cby hry)).mono ?_;rintro _ w6⟨rfl,lab6,st6,I6⟩;exact⟨rfl,lab6,st6,I6⟩
  generalize hs0:(if v16=[]then s else hVal E (nibbles a) (nibbles b) s v16 path)=s0 at *
  rintro _ w2⟨lab2,st2,I2⟩;have P2:=P1.stp st2 (by decide);have X2:=X1.stp st2 (by decide);have hx2:=ItC.stp6 hx10 st2 (by decide);have s2:=(st1.mono (T:=SH) (fun _ h=>h.elim)).trans st2;clear st2 hx10 h41 e1 e2 e3 hry X1 P1 I1 st1;refine⟨fun i w'=>∃(j:Nat)(lab':Nat->Nat),i=(j:Int)/\j<=16/\Stp SH w2 lab2 w' lab'/\HoS E P a b D w' lab' ((Ju j).foldl (fun s j=>hRef E (nibbles a) (nibbles b) P f s (xs.getD j (.s [])) (path++[N j])) s0),fun i _=>((16:Int)-i).toNat,⟨0,lab2,rfl,JG _,Stp.refl _ _ _,I2⟩,?_⟩;rintro _ _ w3⟨j,lab3,rfl,hj,st3,I3⟩;refine⟨fun hlt=>?_,fun hge=>?_⟩
  ·have hj16:j<16:=by omega
   rintro _ rfl;have sD:Stp NoS w3 lab3 w3.drew lab3:=Stp.drew NoS w3 lab3;have I3:=I3.no sD;have st23:=st3.trans (sD.mono (T:=SH) (fun _ h=>h.elim));have X3:=X2.stp st23 (by decide);have P3:=P2.stp st23 (by decide);have hx3:=ItC.stp6 hx2 st23 (by decide);clear st3 sD;generalize w3.drew=w3 at *
   simp only[ItC]at hx3;obtain⟨_,_,p',c',hpc,h43,_⟩:=hx3;cases hpc;obtain⟨g,f0,u1,u2,u3,ho,hgs,d1,d2,d3,hi⟩:=h43.get j (by omega);cases ho;obtain⟨bb,p1,q1,r1,p2,q2,r2,rfl,rfl,rfl⟩:=hi.vals;rw[JA]at d1 d2 d3;have hE3:=X3.blk.lt
   have cell:∀{w':J2}{g q:Nat}{v:Value},Vcg.Mod NoB w3 w'->w3.cell? ⟨g,q,Y⟩=O v->g<w3.heap.size->w'.cell? ⟨g,q,Y⟩=O v:=fun M h hb=>by
    rw[ZN M hb (fun h=>h)];exact h
   have c1:∀w',Vcg.Mod NoB w3 w'->J3 w' (J1 ⟨g,f0,Y⟩ (Jp (j:Int)*3))=O (X bb):=fun w' M=>by rw[G,Z3];exact cell M d1 hgs
   have c2:∀w',Vcg.Mod NoB w3 w'->J3 w' (J1 (J1 ⟨g,f0,Y⟩ (Jp (j:Int)*3)) 1)=O (.slice p1 q1 r1):=fun w' M=>by rw[G,Z3,Z3];exact cell M d2 hgs
   have c3:∀w',Vcg.Mod NoB w3 w'->J3 w' (J1 (J1 ⟨g,f0,Y⟩ (Jp (j:Int)*3)) 2)=O (.slice p2 q2 r2):=fun w' M=>by rw[G,Z3,Z3];exact cell M d3 hgs
   have c4:∀w',Vcg.Mod NoB w3 w'->J3 w' (J1 ⟨F,0,Y⟩ 2)=O (.slice (O ⟨g,f0,Y⟩) xs.length c):=fun w' M=>by rw[Z3];exact cell M (X3.blk.rd1 rfl) hE3
   have M0:=Mod.refl (S:=NoB) w3
   have kid:∀(w5:J2)(o5:Option Addr)(k5:Nat),ZU w3 w5 tU8 1 o5 (path.length+1) k5 ((path++[N j]).map bV) ->
     Jc J6 ZS.n #[JQ (O ⟨D,0,Y⟩),Jn #[X bb,.slice p1 q1 r1,.slice p2 q2 r2],.slice o5 (path.length+1) k5] w5 (fun e w'=>e=J0 (Jb #[])/\(∃(j_1:Nat)(lab':Nat->Nat),C J5 ((j:Int)+1)=(j_1:Int)/\j_1<=16/\Stp SH w2 lab2 w' lab'/\HoS E P a b D w' lab' ((Ju j_1).foldl (fun s j=>hRef E (nibbles a) (nibbles b) P f s (xs.getD j (.s [])) (path++[N j])) s0))/\((16:Int)-C J5 ((j:Int)+1)).toNat<((16:Int)-(j:Int)).toNat):=by
    intro w5 o5 k5 F5;have st5:Stp NoS w3 lab3 w5 (ext lab3 w3.heap.size 6):=Stp.of_nob F5.mod 6;have I5:=I3.no st5;have P5:CBy w5 (ext lab3 w3.heap.size 6) 6 o5 (path++[N j]):=⟨ZK F5,fun _ d hd=>ext_new (F5.new d.block ⟨d,hd,rfl⟩)⟩;have hi5:=ItC.stp6 hi st5 (fun h=>h);have st15:=st23.trans (st5.mono (T:=SH) (fun _ h=>h.elim));have hw:C J5 ((j:Int)+1)=((j+1:Nat):Int):=by rw[Z0 (by omega) (by omega)];omega
    have hgj:Z2p xs[j]:=by have:=hkids j hj16;rwa[Z1m (by omega)]at this
    have hlen:(path++[N j]).length=path.length+1:=by simp
    have hc:=K (k:=k5) I5 hi5 hgj P5 (by rw[hlen];exact F5.own.cap.1) (fun x hx=>(List.mem_append.1 hx).elim (hnib x) (nib_one hj16 x)) (by omega);rw[hlen]at hc;refine hc.mono ?_;rintro _ w6⟨rfl,lab6,st6,I6⟩;exact⟨rfl,⟨j+1,lab6,hw,by omega,st15.trans st6,by rw[List.range_succ,List.foldl_append,Jj,List.foldl_nil,Z1m (by omega)];exact I6⟩,by rw[hw];omega⟩
   refine⟨_,_,_,c4 _ M0,_,rfl,⟨by omega,by omega⟩,_,_,_,_,_,_,_,c1 _ M0,c2 _ M0,c3 _ M0,?_,?_⟩
   ·obtain⟨o4,k4,w4,hr4,F4⟩:=Z1v (k2:=k) (ty:=Zw) (Mod.refl w3) P3.rd (by omega)
    refine⟨_,w4,hr4,_,_,_,rfl,c1 _ F4.mod,c2 _ F4.mod,c3 _ F4.mod,c4 _ F4.mod,?_⟩;rintro d5 w5⟨rfl,rfl⟩;rw[Z7t hj16];have M5:=Mod.alloc (S:=NoB) w4 (J #[bV (N j)] 5)
    have Z5:RdB (w4.alloc (J #[bV (N j)] 5)) (O ⟨w4.heap.size,0,Y⟩) [N j]:=RdB.of_blk (Blk.new w4 5 #[bV (N j)]) (fun i hi=>by
     obtain rfl:i=0:=by simpa using hi
     rfl)
    have F5:=F4.mod' M5;refine⟨c1 _ F5.mod,c2 _ F5.mod,c3 _ F5.mod,c4 _ F5.mod,?_⟩;obtain⟨o6,k6,w6,hr6,F6⟩:=ZX (ty:=Zw) (k2:=1) F5 Z5 (by simp;omega);exact⟨_,w6,hr6,_,_,_,rfl,c1 _ F6.mod,c2 _ F6.mod,c3 _ F6.mod,c4 _ F6.mod,kid w6 o6 k6 F6⟩
   ·rintro d5 w5⟨rfl,rfl⟩
    rw[Z7t hj16];have M5:=Mod.alloc (S:=NoB) w3 (J #[bV (N j)] 5)
    have Z5:RdB (w3.alloc (J #[bV (N j)] 5)) (O ⟨w3.heap.size,0,Y⟩) [N j]:=RdB.of_blk (Blk.new w3 5 #[bV (N j)]) (fun i hi=>by
     obtain rfl:i=0:=by simpa using hi
     rfl)
    refine⟨c1 _ M5,c2 _ M5,c3 _ M5,c4 _ M5,?_⟩;obtain⟨o4,k4,w4,hr4,F4⟩:=Z1v (w0:=w3) (k2:=k) (ty:=Zw) M5 (P3.rd.mod' M5) (by omega)
    have hZ:RdB w4 (O ⟨w3.heap.size,0,Y⟩) [N j]:=by
     obtain⟨o4',k4',w4',hr4',F4'⟩:=Z1v (k2:=k) (ty:=Zw) (Mod.refl (w3.alloc (J #[bV (N j)] 5))) (P3.rd.mod' M5) (by omega);have e:=hr4'.symm.trans hr4;cases e;exact Z5.mod' F4'.mod
    refine⟨_,w4,hr4,_,_,_,rfl,c1 _ F4.mod,c2 _ F4.mod,c3 _ F4.mod,c4 _ F4.mod,?_⟩;obtain⟨o6,k6,w6,hr6,F6⟩:=ZX (ty:=Zw) (k2:=1) F4 hZ (by simp;omega);exact⟨_,w6,hr6,_,_,_,rfl,c1 _ F6.mod,c2 _ F6.mod,c3 _ F6.mod,c4 _ F6.mod,kid w6 o6 k6 F6⟩
  ·obtain rfl:j=16:=by omega
   exact fin (s2.trans st3) I3 (by subst hs0;rfl)
end
theorem ZJl{w:J2}{lab:Nat->Nat}{c:Nat}{P:RS}{o:Option Addr}(h:Z1V w lab c P o P.length){j:Nat}(hj:j<P.length):∃d ob kb,o=O d/\ZG w (J1 d (j*33)) 32 (hashA P[j].1)/\J3 w (J1 (J1 d (j*33)) 32)=O (.slice ob P[j].2.length kb)/\CBy w lab c ob P[j].2/\P[j].2.length<=kb/\P[j].1.length=32:=by
 obtain⟨_,vs,hR,hC⟩:=h;obtain⟨g,f,ob,kb,rfl,hrow,hby,hkb,h32⟩:=ZJE hC hR hj;have cell:∀i,i<33->w.cell? ⟨g,f+j*33+i,Y⟩=(ndA P[j].1 ob P[j].2.length kb)[i]?:=fun i hi=>by rw[<-hrow.2 i hi,Z3]
 refine⟨_,ob,kb,rfl,⟨ZB _,fun i hi=>?_⟩,by rw[Z3,Z3,cell 32 (by omega),ZEc],hby,hkb,h32⟩;rw[Z3,Z3,cell i (by omega),ZEd hi];exact(ZF (f:=fun i=>bV (P[j].1.getD i 0)) hi).symm
section
variable{E P:RS}{a b:By}{D:Nat}{w w':J2}{lab lab':Nat->Nat}{s:HSt}
theorem HoS.use(h:HoS E P a b D w lab s){i:Nat}(hi:i<P.length):∃d l k,J3 w (J1 ⟨D,0,Y⟩ 66)=O (.slice (O d) l k)/\l=P.length/\Z1 w (J1 d i) (X Ja)/\∀w',ZA w (J1 d i) (X Ja) w'->Stp SH w lab w' lab/\HoS E P a b D w' lab { s with used:=s.used.set i Ja }:=by
 obtain⟨cs,oE,kE,oP,kP,oU,kU,h1,h2,h3,h4,h5⟩:=h.ex;have hl:=h.len;obtain⟨g,t,us,rfl,e1,e2⟩:=h5.resolve_left (fun e=>by rw[e]at hl;simp only[JR]at hl;omega);have hsz:us.size=P.length:=by rw[<-hl,<-J7,e2,V]
 refine⟨_,_,_,by rw[Z3];exact h2.blk.rd1 h1.cu,rfl,?_⟩;rw[Z3,JA];refine⟨e1.blk.canSet (by omega) rfl,?_⟩;rintro _ rfl;have st:Stp (·=2) w lab (w.setCell ⟨g,i,Y⟩ (X Ja)) lab:=Stp.setCell e1.clr;exact⟨st.mono (fun _ h=>Jd h),⟨cs,oE,kE,oP,kP,_,kU,h1,h2.stp st (by decide),h3.stp st (by decide),h4.stp st (by decide),Jd ⟨g,t,_,rfl,e1.set i _,by rw[Array.toList_setIfInBounds,e2,List.map_set]⟩⟩,by rw[List.length_set];exact hl⟩
theorem ZIB{x:It}(h:Z2p x):(enc x).length<=65536:=by
 rcases h with rfl|⟨g,rfl,hg⟩|⟨xs,g,rfl,_,hf⟩
 ·decide
 ·rw[Z4o hg,Jg,hg];decide
 ·exact hf.2.2
theorem ZJa(hE:EOk E (nibbles a) (nibbles b))(hlE:E.length<=4096)(hlP:P.length<=4096)(hbP:∀x∈P,x.2.length<=2^30)(ha:a.length=32)(hb:b.length=32):∀(f:Nat),ROK E P a b D f:=by
 intro f
 induction f with
 |zero =>
  intro w lab s x v1 v2 v3 o k path hI hx hg hp hk hnib hf;obtain⟨bb,p1,q1,r1,p2,q2,r2,rfl,rfl,rfl⟩:=hx.vals;refine ZS.vc _ _ _ _ _ _ _ _ _ _ _ _ _ ?_;unfold ZS.Vc;rintro d5 w1⟨rfl,rfl⟩;have st1:Stp NoS w lab (w.alloc (J #[X bb,.slice p1 q1 r1,.slice p2 q2 r2] 111)) (ext lab w.heap.size 5):=Stp.alloc NoS w lab _ 5;have I1:=hI.no st1;refine⟨_,I1.rdBad,fun hne=>⟨rfl,_,st1.mono (fun _ h=>h.elim),by simp only[hRef,HSt.fault];rw[if_neg hne];exact I1⟩,fun h0=>⟨fun _=>?_,fun h=>absurd h (by omega)⟩⟩;refine(Z0i I1 161).mono ?_;rintro _ w2⟨rfl,st2,I2⟩;exact⟨rfl,rfl,_,(st1.mono (fun _ h=>h.elim)).trans st2,I2⟩
 |succ f ih =>
  intro w lab s x v1 v2 v3 o k path hI hx hg hp hk hnib hf;obtain⟨bb,p1,q1,r1,p2,q2,r2,rfl,rfl,rfl⟩:=hx.vals;refine ZD fun R hR=>ZS.vc _ _ _ _ _ _ _ _ _ _ _ _ _ ?_;unfold ZS.Vc;have fin:∀{w' lab' s'},Stp SH w lab w' lab'->HoS E P a b D w' lab' s'->hRef E (nibbles a) (nibbles b) P (f+1) s x path=s'->R (J0 (Jb #[])) w':=fun st I he=>hR _ _ ⟨rfl,_,st,by rw[he];exact I⟩;simp only[hRef]at fin;rintro d5 w1⟨rfl,rfl⟩;have st1:Stp NoS w lab (w.alloc (J #[X bb,.slice p1 q1 r1,.slice p2 q2 r2] 111)) (ext lab w.heap.size 5):=Stp.alloc NoS w lab _ 5;have X1:=CB.new w lab 5 111 #[X bb,.slice p1 q1 r1,.slice p2 q2 r2];have I1:=hI.no st1;have P1:=hp.stp st1 (fun h=>h);have hx1:=ItC.stp6 hx st1 (fun h=>h);generalize w.heap.size=F at *
  generalize w.alloc (J #[X bb,.slice p1 q1 r1,.slice p2 q2 r2] 111)=w1 at *
  generalize ext lab F 5=lab1 at *
  refine⟨_,I1.rdBad,fun hne=>fin (st1.mono (fun _ h=>h.elim)) I1 (if_pos hne),fun h0=>?_⟩;rw[if_neg (fun h=>h h0)]at fin;refine⟨fun hlong=>?_,fun hle=>?_⟩
  ·rw[if_pos (by omega)]at fin
   refine(Z0i I1 161).mono ?_;rintro _ w2⟨rfl,st2,I2⟩;exact⟨rfl,fin ((st1.mono (fun _ h=>h.elim)).trans st2) I2 rfl⟩
  rw[if_neg (by omega)]at fin;refine(ZBm hE hlE I1 P1.rd).mono ?_;rintro _ w2⟨rfl,M2⟩;refine⟨_,rfl,?_⟩;rintro _ rfl;have st2:Stp NoS w1 lab1 w2.drew (ext lab1 w1.heap.size 5):=(Stp.of_nob M2 5).trans (Stp.drew NoS w2 _);have I2:=I1.no st2;have X2:=X1.stp st2 (fun h=>h);have P2:=P1.stp st2 (fun h=>h);have hx2:=ItC.stp6 hx1 st2 (fun h=>h);have s2:=st1.trans st2;clear I1 X1 P1 hx1 st1 st2 M2;generalize w2.drew=w2 at *
  generalize ext lab1 w1.heap.size 5=lab2 at *
  refine⟨_,I2.arrs.1,_,I2.arrs.2,?_⟩;refine(Z6Y ha hb P2.rd (by omega)).mono ?_;rintro _ w3⟨rfl,M3⟩;have st3:Stp NoS w2 lab2 w3 (ext lab2 w2.heap.size 5):=Stp.of_nob M3 5;have I3:=I2.no st3;have X3:=X2.stp st3 (fun h=>h);have P3:=P2.stp st3 (fun h=>h);have hx3:=ItC.stp6 hx2 st3 (fun h=>h);have s3:Stp SH w lab w3 _:=(s2.trans st3).mono (fun _ h=>h.elim);clear I2 X2 P2 hx2 s2 st3 M3;generalize ext lab2 w2.heap.size 5=lab3 at *
  have hcases:=Z3a (a:=nibbles a) (b:=nibbles b) path;refine⟨_,rfl,fun hneg=>fin s3 I3 (if_pos (by omega)),fun hnn=>⟨fun hpos=>?_,fun hz=>?_⟩⟩
  ·rw[if_neg (by omega),if_pos (show Z0C (nibbles a) (nibbles b) path=1 by omega)]at fin
   rintro _ rfl;have sD:=Stp.drew NoS w3 lab3;have I4:=I3.no sD;have X4:=X3.stp sD (fun h=>h);have P4:=P3.stp sD (fun h=>h);have hx4:=ItC.stp6 hx3 sD (fun h=>h);have s4:=s3.trans (sD.mono (T:=SH) (fun _ h=>h.elim));generalize w3.drew=w4 at *
   obtain⟨cs,oE,kE,oP,kP,oU,kU,h1,h2,h3,h4,h5⟩:=id I4.ex;refine Z60 X4.blk ⟨_,_,_,h2.blk.rd1 h1.c0,?_⟩;refine(Z8p (dep x) x (JC _) hx4 (Mod.refl w4) (ZIB hg)).mono ?_;rintro _ w5⟨o5,k5,rfl,F5⟩;refine⟨_,_,_,rfl,(h2.blk.mod' F5.mod).rd1 h1.c0,_,Z0u ZW Z24 Z2V (ZK F5),_,rfl,?_⟩;have st5:Stp NoS w4 lab3 w5 (ext lab3 w4.heap.size 5):=Stp.of_nob F5.mod 5;have e5:=ZK F5;refine(ZG3 hE hlE (h3.stp st5 (fun h=>h)) (P4.rd.mod' F5.mod) (by omega)).mono ?_;rintro _ w6⟨M6,o6,k6,rfl,e6⟩;have st6:Stp NoS w5 (ext lab3 w4.heap.size 5) w6 (ext (ext lab3 w4.heap.size 5) w5.heap.size 5):=Stp.of_nob M6 5;have I6:=(I4.no st5).no st6;have s6:=s4.trans ((st5.trans st6).mono (T:=SH) (fun _ h=>h.elim));generalize ext (ext lab3 w4.heap.size 5) w5.heap.size 5=lab6 at *
   refine⟨_,_,_,rfl,Z0u ZW Z24 Z2V (e5.mod' M6),_,Z0u ZW Z24 Z2V e6,_,rfl,fun hne=>?_,fun heq=>?_⟩
   ·rw[Z8f,decide_eq_true_eq]at hne
    rw[if_pos hne]at fin;refine(Z0i I6 163).mono ?_;rintro _ w7⟨rfl,st7,I7⟩;exact⟨rfl,I7.addMet _ (fun w8 st8 I8=>fin ((s6.trans st7).trans st8) I8 rfl)⟩
   ·rw[Z8f,decide_eq_false_iff_not]at heq
    rw[if_neg heq]at fin;exact I6.addMet _ (fun w8 st8 I8=>fin (s6.trans st8) I8 rfl)
  rw[if_neg (by omega),if_neg (show ¬Z0C (nibbles a) (nibbles b) path=1 by omega)]at fin;cases x with
  |l xs =>
   have hx30:=hx3;simp only[ItC]at hx3;obtain⟨hbb,_,_⟩:=hx3;cases hbb;refine⟨fun w'=>w'=w3,⟨Ja,X3.blk.rd1 rfl,fun h=>(by cases h),fun _=>rfl⟩,?_⟩;rintro _ w3 rfl;refine⟨Ja,X3.blk.rd1 rfl,fun _=>Z60 X3.blk ?_,fun h=>(by cases h)⟩;refine(Z9C (k:=k) hE hlE ha hb ih I3 hx30 hg P3 hk hnib (by omega) (by omega)).mono ?_;rintro _ w4⟨rfl,lab4,st4,I4⟩;exact⟨rfl,fin (s3.trans st4) I4 rfl⟩
  |s h =>
   simp only[ItC]at hx3;obtain⟨hbb,⟨ox,cx,hox,hrx,_⟩,_⟩:=hx3;cases hbb;cases hox;dsimp only at fin;refine⟨fun w'=>w'=w3/\h≠[],⟨J9,X3.blk.rd1 rfl,fun _=>⟨_,_,_,by rw[Z3];exact X3.blk.rd1 rfl,fun hz=>?_,fun hnz=>⟨rfl,by rintro rfl;exact hnz rfl⟩⟩,fun h=>(by cases h)⟩,?_⟩
   ·rw[if_pos (JD (by omega))]at fin
    refine⟨fun hn=>?_,fun hn=>fin s3 I3 (if_neg (by omega))⟩;rw[if_pos (by omega)]at fin;refine(Z0i I3 163).mono ?_;rintro _ w4⟨rfl,st4,I4⟩;exact⟨rfl,fin (s3.trans st4) I4 rfl⟩
   rintro _ w3⟨rfl,hne⟩;rw[if_neg hne]at fin;have h32:h.length=32:=hg.str.resolve_left hne;refine⟨J9,X3.blk.rd1 rfl,fun h=>(by cases h),fun _=>?_⟩;rintro d4 w4⟨rfl,rfl⟩;have Z4:=Blk.new w3 27 (JL 32 (.int .u8 0));have M4:=Mod.alloc (S:=NoB) w3 (J (JL 32 (.int .u8 0)) 27);have X4:=X3.blk.mod' M4;have r4:=hrx.mod' M4;generalize hZ:w3.heap.size=Z at *
   generalize w3.alloc (J (JL 32 (.int .u8 0)) 27)=w4 at *
   rintro _ rfl;have M5:=M4.step_drew;have X5:=X4.drew;have Z5:=Z4.drew;have r5:=r4.mod' (Mod.drew (S:=NoB) w4);generalize w4.drew=w5 at *
   obtain⟨w6,h6,Z6,Q6⟩:=Z5m (P:=J6) (t:=23) (tx:=23) (ty:=3) (dLen:=32) (dCap:=32) (n:=32) (o:=0) (c:=r1) ZW Z1X Z5 r5 (by rw[h32];rfl) (by simp);rw[ZGF (by simp) h32]at Z6;refine⟨_,_,_,by rw[Z3];exact X5.rd1 rfl,_,w6,h6,_,rfl,?_⟩;have st6:Stp NoS w3 lab3 w6 (ext lab3 w3.heap.size 5):=Stp.of_nob (ZI M5 Q6 (by omega)) 5;have Z6:CB w6 (ext lab3 w3.heap.size 5) 5 Z 27 (hashA h):=⟨Z6,ext_new (by omega)⟩;have I6:=I3.no st6;have P6:=P3.stp st6 (fun h=>h);have s6:=s3.trans (st6.mono (T:=SH) (fun _ h=>h.elim));clear I3 P3 s3 st6 X3 X4 X5 Z4 Z5 r4 r5 hrx M4 M5 Q6 h6 hx hI hp;generalize ext lab3 w3.heap.size 5=lab6 at *
   refine⟨fun i w'=>∃j:Nat,i=(j:Int)/\j<=P.length/\Stp NoS w6 lab6 w' lab6/\∀i(hi:i<P.length),i<j->P[i].1≠h,fun i _=>((P.length:Int)-i).toNat,⟨0,rfl,JG _,Stp.refl _ _ _,fun i hi h=>absurd h (by omega)⟩,?_⟩;rintro _ _ w7⟨j,rfl,hj,st7,hno⟩;have I7:=I6.no st7;obtain⟨cs,oE,kE,oP,kP,oU,kU,q1,q2,q3,q4,q5⟩:=id I7.ex;refine⟨_,_,_,by rw[Z3];exact q2.blk.rd1 q1.c1,fun hlt=>?_,fun hge=>?_⟩
   ·have hjl:j<P.length:=by omega
    rintro _ rfl;have st8:=st7.trans (Stp.drew NoS w7 lab6);have I8:=I6.no st8;have Z8:=Z6.stp st8 (fun h=>h);have P8:=P6.stp st8 (fun h=>h);have s8:=s6.trans (st8.mono (T:=SH) (fun _ h=>h.elim));clear q1 q2 q3 q4 q5 I7 st7;generalize w7.drew=w8 at *
    obtain⟨cs,oE,kE,oP,kP,oU,kU,q1,q2,q3,q4,q5⟩:=id I8.ex;obtain⟨dP,ob,kb,rfl,hrow,hcell,hby,hkb,hp32⟩:=ZJl q4 hjl;refine⟨_,_,_,by rw[Z3];exact q2.blk.rd1 q1.c1,_,rfl,⟨by omega,by omega⟩,_,by rw[G];exact hrow,_,Z8.blk.rowAll (ZB _),_,ZB1 _ _ hp32 h32,_,rfl,fun ht=>?_,fun hf'=>?_⟩
    ·have hph:P[j].1=h:=of_decide_eq_true ht
     have hidx:P.findIdx? (fun x=>decide (x.1=h))=O j:=by
      rw[List.findIdx?_eq_some_iff_getElem];exact⟨hjl,decide_eq_true hph,fun i hi=>by simpa using hno i (by omega) hi⟩
     rw[hidx]at fin;dsimp only at fin;rw[show P.getD j ([],[])=P[j] by rw[List.getD_eq_getElem?_getD,JB hjl];rfl]at fin;obtain⟨dU,lU,kU',u1,rfl,u2,u3⟩:=I8.use hjl;refine⟨_,_,_,u1,_,rfl,⟨by omega,by omega⟩,by rw[G];exact u2,?_⟩;rw[G];intro w9 hw9;obtain⟨st9,I9⟩:=u3 w9 hw9;have Z9:=Z8.stp st9 (by decide);have P9:=P8.stp st9 (by decide);have s9:=s8.trans st9;clear q1 q2 q3 q4 q5 I8 st8 u1 u2 u3 hrow hcell hby Z8 P8 s8 st9 hw9 I6 Z6 P6 s6;obtain⟨cs,oE,kE,oP,kP,oU,kU,q1,q2,q3,q4,q5⟩:=id I9.ex;obtain⟨dP,ob,kb,rfl,hrow,hcell,hby,hkb,hp32⟩:=ZJl q4 hjl;refine⟨_,_,_,by rw[Z3];exact q2.blk.rd1 q1.c1,_,rfl,⟨by omega,by omega⟩,_,_,_,hcell,?_⟩;rintro _ rfl;have sD:=Stp.drew NoS w9 lab6;have I10:=I9.no sD;have Z10:=Z9.stp sD (fun h=>h);have P10:=P9.stp sD (fun h=>h);have b10:=hby.stp sD (fun h=>h);have s10:=s9.trans (sD.mono (T:=SH) (fun _ h=>h.elim));clear q1 q2 q3 q4 q5 I9 Z9 P9 hby s9 sD hrow hcell;generalize w9.drew=w10 at *
     have hc30:P[j].2.length<=2^30:=hbP _ (J8 hjl);refine⟨_,Z10.blk.rowAll (ZB _),?_⟩;refine(Z45 P[j].2 rfl (by omega) b10.rd).mono ?_;rintro _ w11⟨rfl,M11⟩;have st11:Stp NoS w10 lab6 w11 (ext lab6 w10.heap.size 5):=Stp.of_nob M11 5;have I11:=I10.no st11;have P11:=P10.stp st11 (fun h=>h);have b11:=b10.stp st11 (fun h=>h);have s11:=s10.trans (st11.mono (T:=SH) (fun _ h=>h.elim));refine⟨_,rfl,(Z10.blk.mod' M11).rowAll (ZB _),_,Z7g _ _ (ZO _) h32,_,rfl,fun hn=>?_,fun hn=>?_⟩
     ·rw[if_pos (of_decide_eq_true hn)]at fin
      refine(Z0i I11 163).mono ?_;rintro _ w12⟨rfl,st12,I12⟩;exact⟨rfl,fin (s11.trans st12) I12 rfl⟩
     rw[if_neg (of_decide_eq_false hn)]at fin;clear I10 P10 b10 s10 st11 M11 Z10;generalize ext lab6 w10.heap.size 5=lab11 at *
     refine(ZCa b11.rd hkb).mono ?_;rintro _ w12⟨rfl,M12⟩;have st12:Stp NoS w11 lab11 w12 (ext lab11 w11.heap.size 5):=Stp.of_nob M12 5;have I12:=I11.no st12;have P12:=P11.stp st12 (fun h=>h);have b12:=b11.stp st12 (fun h=>h);have s12:=s11.trans (st12.mono (T:=SH) (fun _ h=>h.elim));clear I11 P11 b11 s11 st12 M12;generalize ext lab11 w11.heap.size 5=lab12 at *
     refine⟨_,rfl,fun hcn=>?_,fun hc0=>?_⟩
     ·rw[if_pos hcn]at fin
      refine(Z0i I12 161).mono ?_;rintro _ w13⟨rfl,st13,I13⟩;exact⟨rfl,fin (s12.trans st13) I13 rfl⟩
     rw[if_neg (fun h=>h hc0)]at fin;obtain⟨xs,hdc,_,hgx⟩:=Z2t hc0;rw[hdc]at fin;dsimp only at fin;refine(Z74 b12.rd hkb).mono ?_;rintro e w13⟨M13,hd⟩;unfold Z37 at hd;rw[hdc]at hd;obtain⟨v1,v2,v3,rfl,hx⟩:=hd;obtain⟨bb,p1,q1,r1,p2,q2,r2,rfl,rfl,rfl⟩:=hx.vals;have st13:Stp NoS w12 lab12 w13 (ext lab12 w12.heap.size 6):=Stp.of_nob M13 6
     have hx13:ItC (fun b=>ext lab12 w12.heap.size 6 b≠6) w13 (.l xs) (X bb) (.slice p1 q1 r1) (.slice p2 q2 r2):=ItC.restr (fun b hb hh=>by
      refine Nat.lt_of_not_le fun hge=>hh (ext_new hge)) hx
     have I13:=I12.no st13;have P13:=P12.stp st13 (fun h=>h);have s13:=s12.trans (st13.mono (T:=SH) (fun _ h=>h.elim));generalize ext lab12 w12.heap.size 6=lab13 at *
     refine⟨_,_,_,_,_,_,_,_,rfl,?_⟩;rintro d14 w14⟨rfl,rfl⟩;have H:=Blk.new w13 111 #[X J9,.slice Y 0 0,.slice Y 0 0];refine Z9m H rfl rfl rfl (fun w15 H15 Q15=>?_);have st15:Stp NoS w13 lab13 w15 (ext lab13 w13.heap.size 5):=Stp.of_nob (ZI (Mod.alloc w13 _) Q15 (JC _)) 5;refine Z60 H15 ?_;refine(Z9C (k:=k) hE hlE ha hb ih (I13.no st15) (ItC.stp6 hx13 st15 (fun h=>h)) hgx (P13.stp st15 (fun h=>h)) hk hnib (by omega) (by omega)).mono ?_;rintro _ w16⟨rfl,lab16,st16,I16⟩;exact⟨rfl,fin ((s13.trans (st15.mono (fun _ h=>h.elim))).trans st16) I16 rfl⟩
    ·refine⟨⟨j+1,by rw[Z0 (by omega) (by omega)];omega,hjl,st8,fun i hi hij=>?_⟩,by dsimp only;rw[Z0 (by omega) (by omega)];omega⟩
     by_cases he:i=j
     ·subst he;exact of_decide_eq_false hf'
     ·exact hno i hi (by omega)
   ·have hidx:P.findIdx? (fun x=>decide (x.1=h))=Y:=by
      rw[List.findIdx?_eq_none_iff];intro x hx;obtain⟨i,hi,rfl⟩:=JK hx;simpa using hno i hi (by omega)
    rw[hidx]at fin;dsimp only at fin;refine(Z0i I7 160).mono ?_;rintro _ w8⟨rfl,st8,I8⟩;exact⟨rfl,fin ((s6.trans (st7.mono (fun _ h=>h.elim))).trans st8) I8 rfl⟩
end
theorem ZIC{Z:Array Value}{vE vP vU:Value}{a b:By}(hZ:Z=(JX Y 0 0::JX Y 0 0::(JH 64 (.int .u8 0)++[.slice Y 0 0,.int J5 0,.int J5 0])).toArray):HoC (setsAt (lputL (lputL (setsAt (setsAt Z 0 [vE]) 1 [vP]) 2 32 (hashA a)) 34 32 (hashA b)) 66 [vU]) vE vP vU a b 0 0:=by
 have zs:Z.size=69:=by rw[hZ];rfl
 have ea:(hashA a).toList.take 32=(hashA a).toList:=JW (by rw[J7,ZB];omega);have eb:(hashA b).toList.take 32=(hashA b).toList:=JW (by rw[J7,ZB];omega);have la:(hashA a).toList.length=32:=by rw[J7,ZB]
 have lb:(hashA b).toList.length=32:=by rw[J7,ZB]
 unfold lputL;rw[ea,eb];have z1:(setsAt Z 0 [vE]).size=69:=by rw[Zi,zs]
 have z2:(setsAt (setsAt Z 0 [vE]) 1 [vP]).size=69:=by rw[Zi,z1]
 have z3:(setsAt (setsAt (setsAt Z 0 [vE]) 1 [vP]) 2 (hashA a).toList).size=69:=by rw[Zi,z2]
 have z4:(setsAt (setsAt (setsAt (setsAt Z 0 [vE]) 1 [vP]) 2 (hashA a).toList) 34 (hashA b).toList).size=69:=by rw[Zi,z3]
 have g:∀i,(setsAt (setsAt (setsAt (setsAt (setsAt Z 0 [vE]) 1 [vP]) 2 (hashA a).toList) 34 (hashA b).toList) 66 [vU])[i]?=if 66<=i/\i<66+1 then[vU][i-66]? else if 34<=i/\i<34+32 then(hashA b)[i-34]? else if 2<=i/\i<2+32 then(hashA a)[i-2]? else if 1<=i/\i<1+1 then[vP][i-1]? else if 0<=i/\i<0+1 then[vE][i-0]? else Z[i]?:=fun i=>by
  rw[Zn _ _ _ _ (by rw[z4,J4];decide),Zn _ _ _ _ (by rw[z3,lb];decide),Zn _ _ _ _ (by rw[z2,la];decide),Zn _ _ _ _ (by rw[z1,J4];decide),Zn _ _ _ _ (by rw[zs,J4];decide),la,lb,JO (xs:=hashA a),JO (xs:=hashA b),J4,J4,J4]
 have gZ:∀i,67<=i->(setsAt (setsAt (setsAt (setsAt (setsAt Z 0 [vE]) 1 [vP]) 2 (hashA a).toList) 34 (hashA b).toList) 66 [vU])[i]?=Z[i]?:=fun i hi=>by
  rw[g,if_neg (by omega),if_neg (by omega),if_neg (by omega),if_neg (by omega),if_neg (by omega)]
 refine⟨by rw[Zi,z4],?_,?_,fun i hi=>?_,fun i hi=>?_,?_,?_,?_⟩
 ·rw[g,if_neg (by decide),if_neg (by decide),if_neg (by decide),if_neg (by decide),if_pos (by decide)];rfl
 ·rw[g,if_neg (by decide),if_neg (by decide),if_neg (by decide),if_pos (by decide)];rfl
 ·rw[g,if_neg (by omega),if_neg (by omega),if_pos (by omega),JV]
 ·rw[g,if_neg (by omega),if_pos (by omega),JV]
 ·rw[g,if_pos (by decide)];rfl
 ·rw[gZ _ (by decide),hZ,Z0 (by decide) (by decide)];rfl
 ·rw[gZ _ (by decide),hZ];rfl
theorem ZKY{w:J2}{Z:Array Value}{vE vP vU:Value}{a b:By}{K:Addr->J2->Prop}(hZ:Z=(JX Y 0 0::JX Y 0 0::(JH 64 (.int .u8 0)++[.slice Y 0 0,.int J5 0,.int J5 0])).toArray)(h:∀cs,HoC cs vE vP vU a b 0 0->K ⟨w.heap.size,0,Y⟩ (w.alloc (J cs 107))):∀(d:Addr) (w':J2),ZC w 107 (setsAt (lputL (lputL (setsAt (setsAt Z 0 [vE]) 1 [vP]) 2 32 (hashA a)) 34 32 (hashA b)) 66 [vU]) d w'->K d w':=by
 rintro d w'⟨rfl,rfl⟩;exact h _ (ZIC hZ)
theorem ZFk:Tryz.prog.underlying 105=O (.slice 4):=by kernel_rfl
theorem ZGX:(Tryz.prog.info? 4).map (fun i=>(i.zero,i.size,i.bytes))=O (O (X J9),1,1):=by kernel_rfl
theorem HoS.stp{S:Nat->Prop}{E P:RS}{a b:By}{D:Nat}{w w':J2}{lab lab':Nat->Nat}{s:HSt}(h:HoS E P a b D w lab s)(st:Stp S w lab w' lab')(h0:¬S 0)(h1:¬S 1)(h2:¬S 2):HoS E P a b D w' lab' s:=by
 obtain⟨cs,oE,kE,oP,kP,oU,kU,q1,q2,q3,q4,q5⟩:=h.ex;exact⟨⟨cs,oE,kE,oP,kP,oU,kU,q1,q2.stp st h1,q3.stp st h0,q4.stp st h0,q5.stp st h2⟩,h.len⟩
theorem Z76{w:J2}{lab:Nat->Nat}{c:Nat}{E P:RS}{o oE:Option Addr}{k kE:Nat}{root least most:By}(hN:Z1V w lab c P o P.length)(hK:Z2J w lab c oE E)(hlP:P.length<=4096)(hlE:E.length<=4096)(hb:∀x∈P,x.2.length<=2^30)(hr:root.length=32)(hl:least.length=32)(hm:most.length=32)(hE:EOk E (nibbles least) (nibbles most)) :
  Jc J6 Zj.n #[Jn (hashA root),Jn (hashA least),Jn (hashA most),.slice oE E.length kE,.slice o P.length k] w (fun e w'=>Vcg.Mod NoB w w'/\e=J0 (X (ZKw E (nibbles least) (nibbles most) P root))):=by
 refine ZD fun R hR=>Zj.vc _ _ _ _ _ _ _ _ _ _ _ ?_;unfold Zj.Vc;have N0:Z1V w (fun _=>0) 0 P o P.length:=Z1V.re hN (fun k hk _=>rfl);have K0:Z2J w (fun _=>0) 0 oE E:=Z2J.re hK (fun k hk _=>rfl);have fin:∀{lab':Nat->Nat}{w':J2}(r:Bool),Stp SV w (fun _=>0) w' lab'->r=ZKw E (nibbles least) (nibbles most) P root->R (J0 (X r)) w':=fun r st h1=>hR _ _ ⟨st.nob (fun k hk hs=>hs rfl),by rw[h1]⟩;rintro d1 w1⟨rfl,rfl⟩;have s1:Stp NoS w (fun _=>0) (w.alloc (J (hashA root) 27)) (ext (fun _=>0) w.heap.size 6):=Stp.alloc NoS w _ _ 6;have X1:=CB.new w (fun _=>0) 6 27 (hashA root);have N1:=N0.stp s1 (fun h=>h);have K1:=K0.stp s1 (fun h=>h);generalize w.heap.size=dX at *
 generalize w.alloc (J (hashA root) 27)=w1 at *
 generalize ext (fun _=>0) dX 6=lab1 at *
 rintro d2 w2⟨rfl,rfl⟩;have st2:Stp NoS w1 lab1 (w1.alloc (J (hashA least) 27)) (ext lab1 w1.heap.size 8):=Stp.alloc NoS w1 lab1 _ 8;have A2:=CB.new w1 lab1 8 27 (hashA least);have X2:=X1.stp st2 (fun h=>h);have N2:=N1.stp st2 (fun h=>h);have K2:=K1.stp st2 (fun h=>h);have s2:=s1.trans st2;generalize w1.heap.size=dA at *
 generalize w1.alloc (J (hashA least) 27)=w2 at *
 generalize ext lab1 dA 8=lab2 at *
 rintro d3 w3⟨rfl,rfl⟩;have st3:Stp NoS w2 lab2 (w2.alloc (J (hashA most) 27)) (ext lab2 w2.heap.size 8):=Stp.alloc NoS w2 lab2 _ 8;have B3:=CB.new w2 lab2 8 27 (hashA most);have X3:=X2.stp st3 (fun h=>h);have A3:=A2.stp st3 (fun h=>h);have N3:=N2.stp st3 (fun h=>h);have K3:=K2.stp st3 (fun h=>h);have s3:=s2.trans st3;generalize w2.heap.size=dB at *
 generalize w2.alloc (J (hashA most) 27)=w3 at *
 generalize ext lab2 dB 8=lab3 at *
 rintro _ rfl;have st4:=Stp.drew NoS w3 lab3;have B4:=B3.stp st4 (fun h=>h);have X4:=X3.stp st4 (fun h=>h);have A4:=A3.stp st4 (fun h=>h);have N4:=N3.stp st4 (fun h=>h);have K4:=K3.stp st4 (fun h=>h);have s4:=s3.trans st4;clear X1 N1 K1 s1 st2 A2 X2 N2 K2 s2 st3 B3 X3 A3 N3 K3 s3 st4 N0 K0;generalize w3.drew=w4 at *
 refine⟨_,A4.blk.rowAll (ZB _),_,B4.blk.rowAll (ZB _),?_⟩;obtain⟨iu,hiu,hz,hs,hbt⟩:=Z2Q ZGX;have hmk:=run_make (P:=J6) w4 105 4 iu _ ZFk hiu hz J5 J5 (P.length:Int) (P.length:Int) (by omega) (Int.le_refl _) (by rw[hbt];omega) (by omega);rw[G,hs,Jt]at hmk;refine⟨_,_,hmk,_,_,_,rfl,?_⟩;have st5:=Stp.alloc NoS w4 lab3 (J (madeCells (X J9).cells P.length) 4) 2;have U5:=CB.new w4 lab3 2 4 (madeCells (X J9).cells P.length)
 have hU5:(madeCells (X J9).cells P.length).toList=(JH P.length J9).map X:=by
  show(madeCells #[X J9] P.length).toList=_;rw[toList_madeCells_one,List.map_replicate]
 have X5:=X4.stp st5 (fun h=>h);have A5:=A4.stp st5 (fun h=>h);have B5:=B4.stp st5 (fun h=>h);have N5:=N4.stp st5 (fun h=>h);have K5:=K4.stp st5 (fun h=>h);have s5:=s4.trans st5;clear X4 A4 B4 N4 K4 s4 st5 hmk;generalize w4.heap.size=dU at *
 generalize w4.alloc (J (madeCells (X J9).cells P.length) 4)=w5 at *
 generalize ext lab3 dU 2=lab5 at *
 generalize madeCells (X J9).cells P.length=us at *
 refine⟨B5.blk.rowAll (ZB _),A5.blk.rowAll (ZB _),ZB _,ZB _,?_⟩;refine ZKY (by kernel_rfl) (fun cs hHo=>?_);have st6:=Stp.alloc NoS w5 lab5 (J cs 107) 1;have H6:=CB.new w5 lab5 1 107 cs;have X6:=X5.stp st6 (fun h=>h);have A6:=A5.stp st6 (fun h=>h);have B6:=B5.stp st6 (fun h=>h);have I6:HoS E P least most w5.heap.size (w5.alloc (J cs 107)) (ext lab5 w5.heap.size 1) ⟨JH P.length J9,0,0⟩:=⟨⟨cs,oE,kE,o,k,_,_,hHo,H6,K5.stp st6 (fun h=>h),N5.stp st6 (fun h=>h),Jd ⟨dU,4,us,rfl,U5.stp st6 (fun h=>h),hU5⟩⟩,List.length_replicate⟩;have K6:=K5.stp st6 (fun h=>h);have s6:=s5.trans st6;clear X5 A5 B5 N5 K5 s5 st6 U5 H6 hHo;generalize w5.alloc (J cs 107)=w6 at *
 generalize w5.heap.size=D at *
 generalize ext lab5 D 1=lab6 at *
 refine⟨_,A6.blk.rowAll (ZB _),_,B6.blk.rowAll (ZB _),?_⟩;refine(Z6Y (p:=[]) (o:=Y) (k:=0) hl hm (RdB.nil _ _) (by simp)).mono ?_;rintro _ w7⟨rfl,M7⟩;have st7:Stp NoS w6 lab6 w7 (ext lab6 w6.heap.size 5):=Stp.of_nob M7 5;have X7:=X6.stp st7 (fun h=>h);have K7:=K6.stp st7 (fun h=>h);have I7:=I6.no st7;have s7:Stp SV w (fun _=>0) w7 _:=(s6.trans st7).mono (fun _ h=>h.elim);clear X6 A6 B6 K6 I6 s6 st7 M7;generalize ext lab6 w6.heap.size 5=lab7 at *
 have hcases:=Z3a (a:=nibbles least) (b:=nibbles most) [];unfold ZKw at fin;refine⟨_,rfl,fun hpos=>?_,fun hneg=>?_⟩
 ·rw[if_pos (show Z0C (nibbles least) (nibbles most) []=1 by omega)]at fin
  obtain⟨hc,hfit,hrep⟩:=ZEu hE [];have hrep':Rep (ZT E) (subNd E []):=by rw[Z5i]at hrep;exact hrep
  have hcn:cnt (subNd E [])<=2^19:=by
   have h0:cnt (subNd E [])<=cnt .nil+4*_:=ZAr _ _;have h1:cnt .nil=0:=by simp[cnt]
   rw[V,Z5i]at h0;omega
  refine(ZE5 K7 ⟨by omega,fun e he=>by have:=hE.keys e he;omega,fun e he=>(hE.vals e he).2⟩ hrep' hc (Z3X hc hfit) hcn 5).mono ?_;rintro _ w8⟨o8,k8,rfl,M8,_⟩;refine⟨_,_,_,_,rfl,?_⟩;rintro d9 w9⟨rfl,rfl⟩;have H9:=Blk.new w8 27 (JL 32 (.int .u8 0));obtain⟨h1,h2,h3⟩:=Z12 H9 (by simp) (Z2K (subNd E []));have M9:=ZI (Mod.alloc (S:=NoB) w8 (J (JL 32 (.int .u8 0)) 27)) h3 (JC _);have M79:=M8.none_trans M9;refine⟨_,h1,_,h2.rowAll (ZB _),_,(X7.blk.mod' M79).rowAll (ZB _),_,ZB1 _ _ (ZO _) hr,_,rfl,fun ht=>?_,fun hf=>?_⟩
  ·refine fin _ (s7.trans ((Stp.of_nob (S:=SV) M79 5))) ?_
   exact decide_eq_decide.2 ⟨fun h=>⟨of_decide_eq_true ht,by omega⟩,fun h=>by omega⟩
  ·refine fin _ (s7.trans ((Stp.of_nob (S:=SV) M79 5))) ?_
   exact(decide_eq_false (fun h=>of_decide_eq_false hf h.1)).symm
 have hn1:¬Z0C (nibbles least) (nibbles most) []=1:=by omega
 rw[if_neg hn1]at fin;rintro d8 w8⟨rfl,rfl⟩;have Y8:=Blk.new w7 111 #[X J9,.slice Y 0 0,.slice Y 0 0];refine Z9m Y8 rfl rfl rfl (fun w9 Y9 Q9=>?_);have st9:Stp NoS w7 lab7 w9 (ext lab7 w7.heap.size 5):=Stp.of_nob (ZI (Mod.alloc w7 _) Q9 (JC _)) 5;have Y9:CB w9 (ext lab7 w7.heap.size 5) 5 w7.heap.size 111 #[X J9,.slice Y 0 0,.slice Y 0 0]:=⟨Y9,ext_new (JC _)⟩;have X9:=X7.stp st9 (fun h=>h);have I9:=I7.no st9;have s9:=s7.trans (st9.mono (T:=SV) (fun _ h=>h.elim));clear Y8 Q9 X7 K7 I7 s7 st9;generalize w7.heap.size=dI at *
 generalize ext lab7 dI 5=lab9 at *
 refine⟨fun w'=>∃lab' o2 l2 c2,Stp (·=5) w9 lab9 w' lab'/\Blk w' dI 111 #[X J9,.slice o2 l2 c2,.slice Y 0 0]/\ItC (fun b=>lab' b≠6) w' (rootIt root) (X J9) (.slice o2 l2 c2) (.slice Y 0 0),?_,?_⟩
 ·rintro _ rfl
  have sD:=Stp.drew NoS w9 lab9;have Y10:=Y9.stp sD (fun h=>h);have X10:=X9.stp sD (fun h=>h);generalize w9.drew=w10 at *
  refine⟨_,X10.blk.rowAll (ZB _),?_⟩;refine(Z8E w10).mono ?_;rintro _ w11⟨rfl,M11⟩;have st11:Stp NoS w10 lab9 w11 (ext lab9 w10.heap.size 5):=Stp.of_nob M11 5;have Y11:=Y10.stp st11 (fun h=>h);have X11:=X10.stp st11 (fun h=>h);have s11:=sD.trans st11;generalize ext lab9 w10.heap.size 5=lab11 at *
  refine⟨_,rfl,X11.blk.rowAll (ZB _),_,Z7g _ _ hr (by unfold emptyH;exact ZO _),_,rfl,fun hn=>?_,fun he=>?_⟩
  ·rw[Z3]
   refine⟨Y11.blk.canSet (by simp) rfl,?_⟩;rintro _ rfl;have st12:Stp (·=5) w11 lab11 (w11.setCell ⟨dI,0+1,Y⟩ (.slice (O ⟨dX,0,Y⟩) 32 32)) lab11:=Stp.setCell Y11.clr;have X12:=X11.stp st12 (by decide);refine⟨lab11,_,_,_,(s11.mono (fun _ h=>h.elim)).trans st12,Y11.blk.set 1 _,?_⟩;unfold rootIt;rw[if_neg (of_decide_eq_true hn)];simp only[ItC];exact⟨trivial,⟨O ⟨dX,0,Y⟩,32,by rw[hr],Z9Q hr X12.blk,fun _ d hd h=>h (by cases hd;exact X12.clr)⟩,trivial⟩
  ·refine⟨lab11,_,_,_,s11.mono (fun _ h=>h.elim),Y11.blk,?_⟩
   unfold rootIt;rw[if_pos (Decidable.not_not.1 (of_decide_eq_false he))];exact ZBY _ _
 rintro _ w10⟨lab10,o2,l2,c2,st10,Y10,hx10⟩;have I10:=I9.stp st10 (by decide) (by decide) (by decide);have s10:=s9.trans (st10.mono (T:=SV) (fun _ h=>by rw[h];decide));refine Z60 Y10 ?_;refine(ZJa hE hlE hlP hb hl hm 66 (k:=0) (o:=Y) (path:=[]) I10 hx10 (Z5M hr) (CBy.nil _ _ _ _) (JC _) (fun x hx=>by cases hx) (by simp)).mono ?_;rintro _ w11⟨rfl,lab11,st11,I11⟩;have s11:=s10.trans (st11.mono (T:=SV) (fun _ h=>by rcases h with h|h<;>rw[h]<;>decide));have A:=ZE6 (P:=P) hE 66 [] ⟨JH P.length J9,0,0⟩ (rootIt root) [] (Z5M hr) (fun x hx=>by cases hx) rfl Rel.nil (Jd hn1) (by decide);have hle:=A.le;rw[Z5i]at hle;simp only[JA]at hle;clear A;generalize hRef E (nibbles least) (nibbles most) P 66 ⟨JH P.length J9,0,0⟩ (rootIt root) []=t at *
 refine⟨rfl,?_⟩;obtain⟨cs',oE',kE',oP',kP',oU',kU',q1,q2,q3,q4,q5⟩:=I11.ex;have hlen:=I11.len;have hc66:J3 w11 (J1 ⟨D,0,Y⟩ 66)=O (.slice oU' P.length kU'):=by rw[Z3];exact q2.blk.rd1 q1.cu
 refine⟨fun i w'=>∃j:Nat,i=(j:Int)/\j<=P.length/\w'=w11/\∀i(hi:i<t.used.length),i<j->t.used[i]=Ja,fun i _=>((P.length:Int)-i).toNat,⟨0,rfl,JG _,rfl,fun i hi h=>absurd h (by omega)⟩,?_⟩;rintro _ _ w11⟨j,rfl,hj,rfl,hall⟩;refine⟨_,_,_,hc66,fun hlt=>?_,fun hge=>?_⟩
 ·have hjl:j<P.length:=by omega
  obtain⟨g,ty,us',rfl,e1,e2⟩:=q5.resolve_left (fun e=>by rw[e]at hlen;simp only[JR]at hlen;omega)
  have hcell:us'[j]?=O (X (t.used[j]'(by omega))):=by
   rw[<-JO,e2,Jf,JB (by omega)];rfl
  refine⟨_,_,_,hc66,_,rfl,⟨by omega,by omega⟩,_,by rw[G,Z3,JA];exact e1.blk.rd1 hcell,fun hf=>?_,fun ht=>⟨⟨j+1,by rw[Z0 (by omega) (by omega)];omega,hjl,rfl,fun i hi hij=>?_⟩,by dsimp only;rw[Z0 (by omega) (by omega)];omega⟩⟩
  ·refine fin _ s11 ?_
   show _=(t.used.all id&&decide (t.bad=0/\t.met=E.length));have:t.used.all id=J9:=List.all_eq_false.2 ⟨t.used[j]'(by omega),J8 _,by rw[id,hf];decide⟩;rw[this];rfl
  ·by_cases he:i=j
   ·subst he;exact ht
   ·exact hall i hi (by omega)
 ·have hall':t.used.all id=Ja:=List.all_eq_true.2 (fun x hx=>by
    obtain⟨i,hi,rfl⟩:=JK hx;exact hall i hi (by omega))
  refine⟨_,I11.rdBad,fun h0=>⟨_,by rw[Z3];exact q2.blk.rd1 q1.ct,?_⟩,fun hne=>?_⟩
  ·have hle:=hle h0
   rw[Z0 (by omega) (by omega)];refine fin _ s11 ?_;show _=(t.used.all id&&decide (t.bad=0/\t.met=E.length));rw[hall',Jo];exact decide_eq_decide.2 ⟨fun h=>⟨h0,by omega⟩,fun h=>by omega⟩
  ·refine fin _ s11 ?_
   show _=(t.used.all id&&decide (t.bad=0/\t.met=E.length));rw[hall',Jo];exact(decide_eq_false (fun h=>hne h.1)).symm
theorem ZBf(w:J2){oE oP:Option Addr}{kE kP:Nat}{E P:RS}{root least most:By}(hK:StR w oE E)(hkE:E.length<=kE)(hN:Z1V w (fun _=>0) 0 P oP P.length)(hr:root.length=32)(hl:least.length=32)(hm:most.length=32) :
  Jc J6 Zo.n #[Jn (hashA root),Jn (hashA least),Jn (hashA most),.slice oE E.length kE,.slice oP P.length kP] w (fun e w'=>e=J0 (X Ja)/\Vcg.Mod NoB w w'):=by
 refine Zo.vc _ _ _ _ _ _ _ _ _ _ _ ?_;unfold Zo.Vc;rintro d1 w1⟨rfl,rfl⟩;have M1:=Mod.alloc (S:=NoB) w (J (hashA root) 27);have X1:=Blk.new w 27 (hashA root);generalize w.alloc (J (hashA root) 27)=w1 at *
 rintro d2 w2⟨rfl,rfl⟩;have M12:=Mod.alloc (S:=NoB) w1 (J (hashA least) 27);have A2:=Blk.new w1 27 (hashA least);have X2:=X1.mod' M12;have M2:=M1.none_trans M12;generalize w1.alloc (J (hashA least) 27)=w2 at *
 rintro d3 w3⟨rfl,rfl⟩;have M23:=Mod.alloc (S:=NoB) w2 (J (hashA most) 27);have B3:=Blk.new w2 27 (hashA most);have A3:=A2.mod' M23;have X3:=X2.mod' M23;have M3:=M2.none_trans M23;generalize w2.alloc (J (hashA most) 27)=w3 at *
 refine(ZB7 w3).mono ?_;rintro _ w4⟨rfl,M34⟩;have M4:=M3.none_trans M34;have A4:=A3.mod' M34;have B4:=B3.mod' M34;have X4:=X3.mod' M34;refine⟨_,rfl,fun h=>(by cases h),fun _=>⟨fun _=>⟨rfl,M4⟩,fun h40=>⟨fun _=>⟨rfl,M4⟩,fun h60=>?_⟩⟩⟩;have N4:Z1V w4 (fun _=>0) 0 P oP P.length:=(hN.stp (S:=NoS) (Stp.of_nob M4 0) (fun h=>h)).re (lab':=fun _=>0) (c':=0) (fun _ _ _=>rfl);have K4:=(hK.mod' M4).kv;refine⟨fun i w'=>∃j:Nat,i=(j:Int)/\j<=P.length/\w'=w4/\∀i(hi:i<P.length),i<j->P[i].2.length<=2000,fun i _=>((P.length:Int)-i).toNat,⟨0,rfl,JG _,rfl,fun i hi h=>absurd h (by omega)⟩,?_⟩;rintro _ _ w4⟨j,rfl,hj,rfl,hall⟩;refine⟨fun hlt=>?_,fun hge=>?_⟩
 ·have hjl:j<P.length:=by omega
  obtain⟨dP,ob,kb,rfl,hrow,hcell,hby,hkb,hp32⟩:=ZJl N4 hjl;refine⟨_,rfl,⟨by omega,by omega⟩,_,_,_,hcell,fun _=>⟨rfl,M4⟩,fun h2=>⟨⟨j+1,by rw[Z0 (by omega) (by omega)];omega,hjl,rfl,fun i hi hij=>?_⟩,by dsimp only;rw[Z0 (by omega) (by omega)];omega⟩⟩;by_cases he:i=j
  ·subst he;omega
  ·exact hall i hi (by omega)
 have hb:∀x∈P,x.2.length<=2^30:=fun x hx=>by
  obtain⟨i,hi,rfl⟩:=JK hx;have:=hall i hi (by omega);omega
 refine⟨_,X4.rowAll (ZB _),_,A4.rowAll (ZB _),_,B4.rowAll (ZB _),?_⟩;refine(Z7T (k:=kP) N4 K4 hkE (by omega) (by omega) hb hr hl hm).mono ?_;rintro _ w5⟨M45,n,rfl,hgood,hbad⟩;have M5:=M4.none_trans M45;have A5:=A4.mod' M45;have B5:=B4.mod' M45;have X5:=X4.mod' M45;have K5:=(hK.mod' M5).kv;have N5:Z1V w5 (fun _=>0) 0 P oP P.length:=(hN.stp (S:=NoS) (Stp.of_nob M5 0) (fun h=>h)).re (lab':=fun _=>0) (c':=0) (fun _ _ _=>rfl);refine⟨_,rfl,_,A5.rowAll (ZB _),_,B5.rowAll (ZB _),?_⟩;refine(ZF8 (k:=kE) K5 (by omega) hl hm).mono ?_;rintro _ w6⟨M56,r,rfl,hkeys⟩;have M6:=M5.none_trans M56
 have hsp:Z25 most least<0↔¬Z25 least most<=0:=by
  rw[Z1u,<-Z7Z];omega
 refine⟨_,rfl,fun hf=>?_,fun ht=>?_⟩
 ·have:n=164:=hbad (fun h=>by
    rw[hkeys.2 ⟨fun h'=>hsp.1 h' h.1,h.2⟩]at hf;cases hf)
  exact⟨by rw[decide_eq_true this],M6⟩
 ·obtain⟨h1,hRE⟩:=hkeys.1 ht
  have hcm:Z25 least most<=0:=Decidable.not_not.1 (fun h=>h1 (hsp.2 h));have hE:=hRE.eok;have A6:=A5.mod' M56;have B6:=B5.mod' M56;have X6:=X5.mod' M56;have K6:=(hK.mod' M6).kv;have N6:Z1V w6 (fun _=>0) 0 P oP P.length:=(hN.stp (S:=NoS) (Stp.of_nob M6 0) (fun h=>h)).re (lab':=fun _=>0) (c':=0) (fun _ _ _=>rfl);refine⟨_,X6.rowAll (ZB _),_,A6.rowAll (ZB _),_,B6.rowAll (ZB _),?_⟩;refine(Z76 (k:=kP) (kE:=kE) N6 K6 (by omega) (by omega) hb hr hl hm hE).mono ?_;rintro _ w7⟨M67,rfl⟩;refine⟨_,rfl,_,ZDC _ _ _ _,_,rfl,?_,M6.none_trans M67⟩;rw[hgood ⟨hcm,hRE⟩,ZKx hE hr,beq_self_eq_true]
end Go.Proofs.YtfghidehlnfdiaaGreat
end
section
namespace Go.Vcg
open Go
theorem Z6x{α β:Type}{f:α->Option β}:∀{l:List α} {ys:List β},l.mapM f=O ys->ys.length=l.length/\∀(i:Nat) (x:α),l[i]?=O x->∃y,ys[i]?=O y/\f x=O y
 |[],ys,h=>by
  rw[List.mapM_nil]at h;cases h;exact⟨rfl,fun i x hx=>by simp at hx⟩
 |a::l,ys,h=>by
  rw[List.mapM_cons]at h;cases ha:f a with
  |none=>simp[ha]at h
  |some b =>
   cases hl:l.mapM f with
   |none=>simp[ha,hl]at h
   |some bs =>
    simp[ha,hl]at h;subst h;obtain⟨h1,h2⟩:=Z6x hl;refine⟨by simp[h1],fun i x hx=>?_⟩;cases i with
    |zero=>simp at hx;subst hx;exact⟨b,rfl,ha⟩
    |succ i=>simp at hx;exact h2 i x hx
section
variable{H:Type}{enc:Jm×Value->H}{P:Program}{W:J2}{sp:Nat->Bool}{held:Bool}{base:Nat}
theorem ZDp{fuel:Nat}{t e:Jm}{v:Value}{d:DataW H}{ps:List MemPlace}(ht:P.underlying t=O (.slice e))(hce:P.cellsOf e=1)
  (h:JS enc P W base sp held fuel t [v]=O (d,ps)) :
  ∃o l c,v=.slice o l c/\l<=c/\c<=maxLen/\((l=0/\d=.nil)\/∃elems spare,d=.slice elems spare/\elems.length=l /\
   ∀i,i<l->∃b f u d' ps' fuel',o=O ⟨b,f,Y⟩/\b<W.heap.size/\W.cell? ⟨b,f+i,Y⟩=O u/\JS enc P W base sp held fuel' e [u]=O (d',ps')/\elems[i]?=O d'):=by
 obtain⟨o,l,c,rfl,hlc,hcm,hall⟩:=ZAh ht hce h;refine⟨o,l,c,rfl,hlc,hcm,?_⟩;cases fuel with
 |zero=>simp[JS]at h
 |succ fuel =>
  cases o with
  |none =>
   left
   have:l=0/\c=0:=by
    rcases l with _|l<;>rcases c with _|c<;>simp[JS,ht]at h ⊢
   obtain⟨rfl,rfl⟩:=this;simp[JS,ht]at h;exact⟨rfl,h.1.symm⟩
  |some a =>
   right;simp only[JS,ht,hce,Jt]at h;split at h
   ·obtain⟨els,hm,h2⟩:=Option.bind_eq_some_iff.1 h
    obtain⟨rest,_,h3⟩:=Option.map_eq_some_iff.1 h2;cases h3;obtain⟨hl,hg⟩:=Z6x hm;rw[List.length_range]at hl;refine⟨_,_,rfl,by simp[hl],fun i hi=>?_⟩;obtain⟨b,f,u,d',ps',fuel',ho,hb,hu,hd⟩:=hall i hi;cases ho;obtain⟨y,hy,hfy⟩:=hg i i (by rw[List.getElem?_range hi]);obtain⟨vs,hv,hd2⟩:=Option.bind_eq_some_iff.1 hfy;obtain⟨u2,rfl,hu2⟩:=Z6K hv;rw[Z3,hu]at hu2;cases hu2;exact⟨b,f,u,y.1,y.2,fuel,rfl,hb,hu,hd2,by rw[Jf,hy];rfl⟩
   ·cases h
end
theorem Z2i{H:Type}{P:Program}{n0:Nat}:∀{ts:List Jm} {ds:List (DataW H)},(JT P ts ds).all (·<=n0)=Ja->∀(j:Nat) (t:Jm) (d:DataW H),ts[j]?=O t->ds[j]?=O d->(d.weights P t).all (·<=n0)=Ja
 |t0::ts,d0::ds,h,0,t,d,ht,hd=>by
  simp at ht hd;subst ht hd;simp only[JT,Jl,Jh]at h;exact h.1
 |t0::ts,d0::ds,h,j+1,t,d,ht,hd=>by
  simp only[JT,Jl,Jh]at h;exact Z2i h.2 j t d (by simpa using ht) (by simpa using hd)
 |[],_,_,_,_,_,ht,_=>by simp at ht
 |_::_,[],_,_,_,_,_,hd=>by simp at hd
end Go.Vcg
end
