/- Contract: the document's permutation. -/
/- Slices of bytes that are read. -/
/- Slices that the code itself made: appended to, copied into. -/
/- Contracts: words out of bytes, one block absorbed. -/
/- The numbers of the types that the texts below name. -/
/- Contracts: the sponge. -/
/- Contract: Write. -/
/- Contracts: Little; the hash out of a sponge. -/
/- Contracts: the program's hash of lists. -/
/- The document's sponge is ours. -/
/- Contract: the document's hash. -/
/- Equality of arrays of numbers. -/
/- Arguments: what a reading tells of the value. -/
/- Coloured heaps: each block has a colour, and a step says which colours it may change. -/
import Derived.Test.YtfghidehlnfdiaaGreatKC3
import Derived.Laws.StructEq
import Derived.ProofKit
import Derived.OpenShut
import Derived.ShutString
import Derived.ChangeOld
import Derived.Below
import Derived.Carry
set_option linter.unusedVariables false
set_option linter.unusedSimpArgs false
open Array renaming getElem?_modify->Je,getElem?_toList->JK,replicate->G,size_replicate->X
open BitVec renaming getLsbD_or->Jm,toNat_setWidth->Jd,xor_assoc->JX
open Go renaming Calls->Jk,MemPlace->Ju,Operand->Q1,TypeId->O,World->Z,eqGuard->Q2,maxLen->Jf,run_firstCells_none->Ji,run_firstCells_some->JR,sizeOf->Q0,typeInfo->Js
open Go.Addr renaming add->JY
open Go.Builtin renaming append->Q6,copy_->Jx,firstCells->JJ,lenOf->Jy
open Go.DataW renaming trod->J1
open Go.Ending renaming returned->E
open Go.IntKind renaming bits->Jz,i64->B,u64->I,u8->JM,wrap->J
open Go.Obj renaming cells->V
open Go.Proofs.Tryz renaming prog->F
open Go.Result renaming andThen_ok->JD,ok->Jp
open Go.Sem renaming run->J6,run_bind->Ja
open Go.Value renaming agg->JQ,int->Q7,okWide->Q4,pointer->Jh
open Go.World renaming cell?->JV,cell?_of_block->JN,freeze->Q3,frozen?->Jw
open Int renaming tdiv->Q9,tdiv_eq_ediv_of_nonneg->JT,tmod->JW,toNat->JL,toNat_natCast->D
open List renaming drop_append_of_le_length->JO,drop_drop->Jr,eq_nil_of_length_eq_zero->J2,ext_getElem?->JU,getD_eq_getElem?_getD->Y,getElem?_drop->JG,getElem?_eq_getElem->JE,getElem?_eq_none->JC,getElem?_map->J3,getElem?_range->Jj,getElem?_take->JI,getElem?_take_of_lt->J5,length_append->JH,length_drop->U,length_map->JF,length_take->J7,mapM_cons->Jt,map_append->Jq,nil_append->Jc,range->J9,range'->Jo,take->Q8,take_of_length_le->JA
open Nat renaming add_assoc->Jv,add_mul->Jg,le_refl->J4,lt_of_lt_of_le->J8,min->JS,min_eq_left->Jb,mod_lt->Q5,mul_one->JP,not_lt_zero->JB,sub_zero->Jl,zero_add->A,zero_le->Jn
open Option renaming map_eq_some_iff->JZ,none->J0,some->K
section
namespace Go.Proofs.YtfghidehlnfdiaaGreat
open Go Go.Vcg
theorem ZHS(s:St)(x:Nat):par s x=s x^^^s (x+5)^^^s (x+10)^^^s (x+15)^^^s (x+20):=by
 simp[par,ZDK]
theorem Z6j(w:Z)(s:St) :
  Jk F Z06.n #[JQ (lanesA s)] w (fun e w'=>e=E (JQ (lanesA (Z65 s)))/\Vcg.Mod NoB w w'):=by
 refine Z06.vc _ _ _ ?_;unfold Z06.Vc;rintro d1 w2⟨rfl,rfl⟩ d3 w4⟨rfl,rfl⟩ d5 w6⟨rfl,rfl⟩;have B1:=((Blk.new w 149 (lanesA s)).alloc (V (G 25 (.int I 0)) 149)).alloc (V (G 25 (.int B 0)) 169);have B3:=(Blk.new (w.alloc (V (lanesA s) 149)) 149 (G 25 (.int I 0))).alloc (V (G 25 (.int B 0)) 169);have B5:=Blk.new ((w.alloc (V (lanesA s) 149)).alloc (V (G 25 (.int I 0)) 149)) 169 (G 25 (.int B 0));have M:=((Mod.alloc (S:=NoB) w (V (lanesA s) 149)).step_alloc (V (G 25 (.int I 0)) 149)).step_alloc (V (G 25 (.int B 0)) 169);simp only[ZC]at B3 B5 ⊢;generalize((w.alloc (V (lanesA s) 149)).alloc (V (G 25 (.int I 0)) 149)).alloc (V (G 25 (.int B 0)) 169)=w6 at *
 generalize hNe:w.heap.size=N at *
 refine⟨_,B5.storeAll (L:=G 25 (.int B 0)) (by rw[X];kernel_rfl) (by rw[X]) (by rw[Zb];exact Z2n (fun _=>rfl)),?_⟩
 replace B1:=B1.row_ne (g:=N+1+1) (c:=G 25 (.int B 0)) (by omega)
 replace B3:=B3.row_ne (g:=N+1+1) (c:=G 25 (.int B 0)) (by omega)
 replace B5:=B5.row_same (G 25 (.int B 0))
 replace M:=M.step_row (g:=N+1+1) (cs:=G 25 (.int B 0)) (fun h=>by omega)
 generalize w6.setRow (N+1+1) (G 25 (.int B 0))=w7 at *
 refine⟨fun n5 n6 n7 w'=>∃t:Nat,n7=t/\t<=24/\n5=((Z7t t).1:Nat)/\n6=((Z7t t).2:Nat)/\Vcg.Mod NoB w w'/\Blk w' N 149 (lanesA s)/\Blk w' (N+1) 149 (G 25 (.int I 0)) /\
  Blk w' (N+1+1) 169 (ZP 25 (fun i=>.int B (tarr t i:Int))),fun _ _ n _=>(24-n).toNat,⟨0,rfl,by omega,rfl,rfl,M,B1,B3,by rw[Zb]at B5;exact B5⟩,?_⟩
 clear M B1 B3 B5;rintro _ _ _ _ w4⟨t,rfl,ht,rfl,rfl,M,B1,B3,B5⟩;refine⟨fun hlt=>?_,fun hge=>?_⟩
 ·have hxy:=ZHd t (by omega)
  have ei:J B (((Z7t t).1:Int)+J B (5*((Z7t t).2:Int)))=(((Z7t t).1+5*(Z7t t).2:Nat):Int):=by
   simp(disch:=omega) only[Z0];omega
  rw[ei];refine⟨by omega,B5.canSet0 (by simp;omega) rfl,fun w5 h5=>?_⟩;rw[h5.at];refine⟨⟨t+1,by rw[Z0 (by omega) (by omega)];omega,by omega,rfl,?_,M.step_set (fun h=>by simp only[hNe]at h;omega),B1.set_ne (by simp;omega),B3.set_ne (by simp),?_⟩,?_⟩
  ·simp only[Z7t]
   simp(disch:=omega) only[Z29,Z0];omega
  ·have:=B5.set ((Z7t t).1+5*(Z7t t).2) (.int B ((((t+1)*(t+2)/2%64:Nat)):Int))
   rw[Z0E]at this;rw[ZCi t (by omega)];refine(ZF (fun j hj=>?_)) ▸ this;rw[tarr];dsimp only;split<;>rfl
  ·dsimp only
   rw[Z0 (n:=(t:Int)+1) (by omega) (by omega)];omega
 obtain rfl:t=24:=by omega
 have e:(ZP 25 fun i=>Q7 B (tarr 24 i:Int))=turnA:=ZF (fun j hj=>by rw[ZCh j hj]);rw[e]at B5;clear e
 refine⟨fun n15 n16 w'=>∃r:Nat,n16=r/\r<=24/\n15=(regOf (7*r):Nat)/\Vcg.Mod NoB w w'/\Blk w' N 149 (lanesA (ZEf r s))/\Blk w' (N+1) 149 (G 25 (.int I 0)) /\
  Blk w' (N+1+1) 169 turnA,fun _ n _=>(24-n).toNat,⟨0,rfl,by omega,rfl,M,B1,B3,B5⟩,?_⟩
 clear M B1 B3 B5;rintro _ _ _ w1⟨r,rfl,hr,rfl,M,B1,B3,B5⟩;refine⟨fun hlt=>?_,fun hge=>?_⟩
 ·rintro d18 w19⟨rfl,rfl⟩
  have hq:N+1+1<w1.heap.size:=B5.lt;have B7:=Blk.new w1 181 #[(.int I 0),(.int I 0),(.int I 0),(.int I 0),(.int I 0)]
  replace B1:=B1.alloc (V #[(.int I 0),(.int I 0),(.int I 0),(.int I 0),(.int I 0)] 181)
  replace B3:=B3.alloc (V #[(.int I 0),(.int I 0),(.int I 0),(.int I 0),(.int I 0)] 181)
  replace B5:=B5.alloc (V #[(.int I 0),(.int I 0),(.int I 0),(.int I 0),(.int I 0)] 181)
  replace M:=M.step_alloc (V #[(.int I 0),(.int I 0),(.int I 0),(.int I 0),(.int I 0)] 181)
  generalize w1.alloc (V #[(.int I 0),(.int I 0),(.int I 0),(.int I 0),(.int I 0)] 181)=w2 at *
  generalize w1.heap.size=Q at *
  generalize hs':ZEf r s=s' at *
  have e5:#[(.int I 0),(.int I 0),(.int I 0),(.int I 0),(.int I 0)]=ZP 5 (fun i=>uV (if i<0 then par s' i else 0)):=by rfl
  rw[e5]at B7;clear e5
  refine Z4C 5 (fun x w'=>Vcg.Mod NoB w w'/\Blk w' N 149 (lanesA s')/\Blk w' (N+1) 149 (G 25 (.int I 0))/\Blk w' (N+1+1) 169 turnA /\
   Blk w' Q 181 (ZP 5 (fun i=>uV (if i<x then par s' i else 0)))) rfl ⟨M,B1,B3,B5,B7⟩ ?_ ?_
  ·clear M B1 B3 B5 B7
   rintro x _ w3 hx⟨M,B1,B3,B5,B7⟩;rintro _ rfl;have e5:J B ((x:Int)+5)=((x+5:Nat):Int):=by rw[Z0 (by omega) (by omega)];omega
   have e10:J B ((x:Int)+10)=((x+10:Nat):Int):=by rw[Z0 (by omega) (by omega)];omega
   have e15:J B ((x:Int)+15)=((x+15:Nat):Int):=by rw[Z0 (by omega) (by omega)];omega
   have e20:J B ((x:Int)+20)=((x+20:Nat):Int):=by rw[Z0 (by omega) (by omega)];omega
   rw[e5,e10,e15,e20];clear e5 e10 e15 e20;refine⟨by omega,_,B1.drew.rd0 (ZV _ (by omega)),by omega,_,B1.drew.rd0 (ZV _ (by omega)),by omega,_,B1.drew.rd0 (ZV _ (by omega)),by omega,_,B1.drew.rd0 (ZV _ (by omega)),by omega,_,B1.drew.rd0 (ZV _ (by omega)),by omega,B7.drew.canSet0 (by simp;omega) rfl,fun w4 h4=>?_⟩;rw[h4.at,Z0N,Z0N,Z0N,Z0N,<-ZHS];refine Z7u.next (by rw[Z0 (by omega) (by omega)];omega) hx ⟨(M.step_drew).step_set (fun h=>by simp only[hNe]at h;omega),B1.drew.set_ne (by simp;omega),B3.drew.set_ne (by simp;omega),B5.drew.set_ne (by simp;omega),?_⟩;have:=B7.drew.set x (uV (par s' x));rw[Z0E]at this;refine(ZF (fun j hj=>?_)) ▸ this
   grind
  clear M B1 B3 B5 B7;rintro _ w3⟨M,B1,B3,B5,B7⟩ d30 w31⟨rfl,rfl⟩;have hq2:Q<w3.heap.size:=B7.lt;have B8:=Blk.new w3 149 (G 25 (.int I 0))
  replace B1:=B1.alloc (V (G 25 (.int I 0)) 149)
  replace B3:=B3.alloc (V (G 25 (.int I 0)) 149)
  replace B5:=B5.alloc (V (G 25 (.int I 0)) 149)
  replace B7:=B7.alloc (V (G 25 (.int I 0)) 149)
  replace M:=M.step_alloc (V (G 25 (.int I 0)) 149)
  have e7:ZP 5 (fun i=>uV (if i<5 then par s' i else 0))=ZP 5 (fun i=>uV (par s' i)):=ZF (fun i hi=>by rw[if_pos hi]);rw[e7]at B7;clear e7;generalize w3.alloc (V (G 25 (.int I 0)) 149)=w4 at *
  generalize w3.heap.size=T at *
  refine Z4C 5 (fun x w'=>Vcg.Mod NoB w w'/\Blk w' N 149 (lanesA s')/\Blk w' (N+1) 149 (G 25 (.int I 0))/\Blk w' (N+1+1) 169 turnA /\
   Blk w' Q 181 (ZP 5 (fun i=>uV (par s' i)))/\Blk w' T 149 (ZP 25 (fun j=>uV (if(j%5+3*(j/5))%5<x then bbK s' j else 0)))) rfl
   ⟨M,B1,B3,B5,B7,by rw[Zb]at B8;simp only[JB,if_false];exact B8⟩ ?_ ?_
  ·clear M B1 B3 B5 B7 B8
   rintro x _ w5 hx⟨M,B1,B3,B5,B7,B8⟩
   refine Z4C 5 (fun k w'=>Vcg.Mod NoB w w'/\Blk w' N 149 (lanesA s')/\Blk w' (N+1) 149 (G 25 (.int I 0))/\Blk w' (N+1+1) 169 turnA /\
    Blk w' Q 181 (ZP 5 (fun i=>uV (par s' i)))/\Blk w' T 149 (ZP 25 (fun j=>uV (if(j%5+3*(j/5))%5<x\/(j%5+3*(j/5))%5=x/\j%5<k then bbK s' j else 0)))) rfl
    ⟨M,B1,B3,B5,B7,by simpa using B8⟩ ?_ ?_
   ·clear M B1 B3 B5 B7 B8
    rintro k _ w5 hk⟨M,B1,B3,B5,B7,B8⟩;rintro _ rfl;have c3:=ZFy x hx k hk;have a1:J B ((x:Int)+J B (5*(k:Int)))=((x+5*k:Nat):Int):=by simp(disch:=omega) only[Z0];omega
    have a2:JW (J B ((x:Int)+4)) 5=(((x+4)%5:Nat):Int):=by simp(disch:=omega) only[Z29,Z0];omega
    have a3:JW (J B ((x:Int)+1)) 5=(((x+1)%5:Nat):Int):=by simp(disch:=omega) only[Z29,Z0];omega
    have a4:J B ((k:Int)+J B (5*JW (J B (J B (2*(x:Int))+J B (3*(k:Int)))) 5))=((k%5+5*((2*x+3*k)%5):Nat):Int):=by
     simp(disch:=omega) only[Z29,Z0];omega
    rw[a1,a2,a3,a4];clear a1 a2 a3 a4;have l1:(x+4)%5<5:=Q5 _ (by decide);have l2:(x+1)%5<5:=Q5 _ (by decide);refine⟨by omega,_,B1.drew.rd0 (ZV _ (by omega)),by omega,_,B7.drew.rd0 (ZE l1),by omega,_,B7.drew.rd0 (ZE l2),Z8V _ 1 rfl rfl (by omega) fun w6 M6 E6=>⟨_,rfl,(B7.drew.mod' M6).rd0 (ZE l1),(B1.drew.mod' M6).rd0 (ZV _ (by omega)),by omega,_,(B5.drew.mod' M6).rd0 (ZE (by omega)),?_⟩⟩;rw[Z0N,Z0N];refine Z8V _ (turnOf (x+5*k)) rfl rfl (ZAd _) fun w7 M7 E7=>⟨_,rfl,by omega,((B8.drew.mod' M6).mod' M7).canSet0 (by simp;omega) rfl,fun w8 h8=>?_⟩;rw[h8.at];refine Z7u.next (by rw[Z0 (by omega) (by omega)];omega) hk ⟨(((M.step_drew).none_trans M6).none_trans M7).step_set (fun h=>by simp only[hNe]at h;omega),((B1.drew.mod' M6).mod' M7).set_ne (by simp;omega),((B3.drew.mod' M6).mod' M7).set_ne (by simp;omega),((B5.drew.mod' M6).mod' M7).set_ne (by simp;omega),((B7.drew.mod' M6).mod' M7).set_ne (by simp;omega),?_⟩;have:=((B8.drew.mod' M6).mod' M7).set (k%5+5*((2*x+3*k)%5)) (uV ((s' (x+5*k)^^^par s' ((x+4)%5)^^^(par s' ((x+1)%5)).rotateLeft 1).rotateLeft (turnOf (x+5*k))));rw[Z0E]at this;refine(ZF (fun j hj=>?_)) ▸ this
    have e1:bbK s' (k%5+5*((2*x+3*k)%5))=(s' (x+5*k)^^^par s' ((x+4)%5)^^^(par s' ((x+1)%5)).rotateLeft 1).rotateLeft (turnOf (x+5*k)):=by
     rw[bbK,c3.2.1,c3.2.2,bbXY,ddK,JX]
    have c4:=ZH9 x hx k hk j hj;rw[<-e1];by_cases hj':j=k%5+5*((2*x+3*k)%5)
    ·rw[if_pos hj',if_pos (c4.2 (.inl hj')),hj']
    ·rw[if_neg hj']
     congr 2;simp only[c4,hj',false_or]
   ·rintro _ w6⟨M,B1,B3,B5,B7,B8⟩
    refine Z7u.next (by rw[Z0 (by omega) (by omega)];omega) hx ⟨M,B1,B3,B5,B7,?_⟩;refine(ZF (fun j hj=>?_)) ▸ B8;congr 2;have:j%5<5:=by omega
    simp only[this,and_true];have:(j%5+3*(j/5))%5<x+1↔(j%5+3*(j/5))%5<x\/(j%5+3*(j/5))%5=x:=by omega
    simp only[this]
  clear M B1 B3 B5 B7 B8;rintro _ w5⟨M,B1,B3,B5,_,B8⟩
  have e8:ZP 25 (fun j=>uV (if(j%5+3*(j/5))%5<5 then bbK s' j else 0))=lanesA (bbK s') :=
   ZF (fun j hj=>by rw[if_pos (by omega)])
  rw[e8]at B8;clear e8
  refine Z4C 5 (fun x w'=>Vcg.Mod NoB w w'/\Blk w' N 149 (ZP 25 (fun j=>uV (if j%5<x then Z50 (bbK s') j else s' j)))/\Blk w' (N+1) 149 (G 25 (.int I 0))/\Blk w' (N+1+1) 169 turnA /\
   Blk w' T 149 (lanesA (bbK s'))) rfl
   ⟨M,by simp only[JB,if_false];exact B1,B3,B5,B8⟩ ?_ ?_
  ·clear M B1 B3 B5 B8
   rintro x _ w6 hx⟨M,B1,B3,B5,B8⟩
   refine Z4C 5 (fun k w'=>Vcg.Mod NoB w w'/\Blk w' N 149 (ZP 25 (fun j=>uV (if j%5<x\/j%5=x/\j/5<k then Z50 (bbK s') j else s' j)))/\Blk w' (N+1) 149 (G 25 (.int I 0))/\Blk w' (N+1+1) 169 turnA /\
    Blk w' T 149 (lanesA (bbK s'))) rfl ⟨M,by simpa using B1,B3,B5,B8⟩ ?_ ?_
   ·clear M B1 B3 B5 B8
    rintro k _ w6 hk⟨M,B1,B3,B5,B8⟩;rintro _ rfl;have a1:J B ((x:Int)+J B (5*(k:Int)))=((x+5*k:Nat):Int):=by simp(disch:=omega) only[Z0];omega
    have a2:J B (JW (J B ((x:Int)+1)) 5+J B (5*(k:Int)))=(((x+1)%5+5*k:Nat):Int):=by
     simp(disch:=omega) only[Z29,Z0];omega
    have a3:J B (JW (J B ((x:Int)+2)) 5+J B (5*(k:Int)))=(((x+2)%5+5*k:Nat):Int):=by
     simp(disch:=omega) only[Z29,Z0];omega
    rw[a1,a2,a3];clear a1 a2 a3;refine⟨by omega,_,B8.drew.rd0 (ZV _ (by omega)),by omega,_,B8.drew.rd0 (ZV _ (by omega)),by omega,_,B8.drew.rd0 (ZV _ (by omega)),by omega,B1.drew.canSet0 (by simp;omega) rfl,fun w7 h7=>?_⟩;rw[h7.at,Z9m,Z9l,Z0N];refine Z7u.next (by rw[Z0 (by omega) (by omega)];omega) hk ⟨(M.step_drew).step_set (fun h=>by simp only[hNe]at h;omega),?_,B3.drew.set_ne (by simp),B5.drew.set_ne (by simp;omega),B8.drew.set_ne (by simp;omega)⟩;have:=B1.drew.set (x+5*k) (uV (bbK s' (x+5*k)^^^(~~~ bbK s' ((x+1)%5+5*k)&&&bbK s' ((x+2)%5+5*k))));rw[Z0E]at this;refine(ZF (fun j hj=>?_)) ▸ this
    have e1:Z50 (bbK s') (x+5*k)=bbK s' (x+5*k)^^^(~~~ bbK s' ((x+1)%5+5*k)&&&bbK s' ((x+2)%5+5*k)):=by
     rw[Z50,show(x+5*k)%5=x by omega,show(x+5*k)/5=k by omega]
    rw[<-e1];by_cases hj':j=x+5*k
    ·rw[if_pos hj',if_pos (by omega),hj']
    ·rw[if_neg hj']
     congr 2;have:(j%5<x\/j%5=x/\j/5<k+1)↔(j%5<x\/j%5=x/\j/5<k):=by omega
     simp only[this]
   ·rintro _ w7⟨M,B1,B3,B5,B8⟩
    refine Z7u.next (by rw[Z0 (by omega) (by omega)];omega) hx ⟨M,?_,B3,B5,B8⟩;refine(ZF (fun j hj=>?_)) ▸ B1;congr 2;have:j%5<x+1↔j%5<x\/j%5=x/\j/5<5:=by omega
    simp only[this]
  clear M B1 B3 B5 B8;rintro _ w6⟨M,B1,B3,B5,B8⟩
  have e9:ZP 25 (fun j=>uV (if j%5<5 then Z50 (bbK s') j else s' j))=ZP 25 (fun j=>uV (if j=0 then Z50 (bbK s') 0^^^Z4H r 0 else Z50 (bbK s') j)) :=
   ZF (fun j hj=>by rw[if_pos (by omega)];by_cases h0:j=0<;>simp[h0,Z4H])
  rw[e9]at B1;clear e9 B8
  refine⟨fun n62 n63 w'=>∃j:Nat,n63=j/\j<=7/\n62=(regOf (7*r+j):Nat)/\Vcg.Mod NoB w w'/\Blk w' N 149 (ZP 25 (fun i=>uV (if i=0 then Z50 (bbK s') 0^^^Z4H r j else Z50 (bbK s') i)))/\Blk w' (N+1) 149 (G 25 (.int I 0)) /\
   Blk w' (N+1+1) 169 turnA,fun _ n _=>(7-n).toNat,⟨0,rfl,by omega,rfl,M,B1,B3,B5⟩,?_⟩
  clear M B1 B3 B5;rintro _ _ _ w7⟨j,rfl,hj,rfl,M,B1,B3,B5⟩;refine⟨fun hlt'=>?_,fun hge'=>?_⟩
  ·have hreg:=ZGD (7*r+j) (by omega)
   have em:(7-J B ((j:Int)+1)).toNat<(7-(j:Int)).toNat:=by rw[Z0 (by omega) (by omega)];omega
   have ew:J B (2*(regOf (7*r+j):Int))=((regOf (7*r+j)*2:Nat):Int):=by rw[Z0 (by omega) (by omega)];omega
   have ej:J B ((j:Int)+1)=((j+1:Nat):Int):=by rw[Z0 (by omega) (by omega)];omega
   have g1:((regOf (7*r+j)*2:Nat):Int)>=256->bitsI .xor B (J B (((regOf (7*r+j)*2:Nat):Int)-256)) 113=(regOf (7*r+(j+1)):Int):=by
    intro h;rw[Z0 (by omega) (by omega)];have:=ZCY (7*r+j) (by omega) (by omega);refine Eq.trans ?_ this;congr 1;omega
   have g2:¬((regOf (7*r+j)*2:Nat):Int)>=256->((regOf (7*r+j)*2:Nat):Int)=(regOf (7*r+(j+1)):Int):=by
    intro h;rw[<-ZAW _ (by omega)];rfl
   rw[Z29 _ _ (by omega),ew,ZGC j (by omega)];refine⟨fun h1=>?_,fun h1=>?_⟩
   ·rintro _ rfl
    refine⟨_,B1.drew.rd1 (ZE (by omega)),by omega,by omega,B1.drew.canSet (by simp) rfl,?_⟩;rintro w8 rfl;rw[if_pos rfl];have e1:(1:Int)=uI (1:BitVec 64):=by decide
    have e2:bitsI .xor I (uI (Z50 (bbK s') 0^^^Z4H r j)) (shlI I 1 ((2^j-1:Nat):Int))=uI (Z50 (bbK s') 0^^^Z4H r (j+1)):=by
     rw[e1,Z8k,Z0N,Z4H,if_pos (by omega),JX]
    rw[e2];have B1':=B1.drew.set 0 (uV (Z50 (bbK s') 0^^^Z4H r (j+1)));rw[Z0E]at B1'
    have e3:(ZP 25 fun i=>if i=0 then uV (Z50 (bbK s') 0^^^Z4H r (j+1))else uV (if i=0 then Z50 (bbK s') 0^^^Z4H r j else Z50 (bbK s') i))=ZP 25 (fun i=>uV (if i=0 then Z50 (bbK s') 0^^^Z4H r (j+1)else Z50 (bbK s') i)) :=
     ZF (fun i hi=>by by_cases h0:i=0<;>simp[h0])
    rw[e3]at B1';have M':Vcg.Mod NoB w (w7.drew.setCell ⟨N,0,J0⟩ (uV (Z50 (bbK s') 0^^^Z4H r (j+1)))):=(M.step_drew).step_set (fun h=>by simp only[hNe]at h;omega);exact⟨fun h=>⟨⟨j+1,ej,by omega,g1 h,M',B1',B3.drew.set_ne (by simp),B5.drew.set_ne (by simp;omega)⟩,em⟩,fun h=>⟨⟨j+1,ej,by omega,g2 h,M',B1',B3.drew.set_ne (by simp),B5.drew.set_ne (by simp;omega)⟩,em⟩⟩
   ·have e2:Z4H r (j+1)=Z4H r j:=by
      rw[Z4H,if_neg (by omega)];simp
    rw[<-e2]at B1;exact⟨fun h=>⟨⟨j+1,ej,by omega,g1 h,M,B1,B3,B5⟩,em⟩,fun h=>⟨⟨j+1,ej,by omega,g2 h,M,B1,B3,B5⟩,em⟩⟩
  ·obtain rfl:j=7:=by omega
   refine⟨⟨r+1,by rw[Z0 (by omega) (by omega)];omega,by omega,rfl,M,?_,B3,B5⟩,by rw[Z0 (by omega) (by omega)];dsimp only;omega⟩
   have e:ZP 25 (fun i=>uV (if i=0 then Z50 (bbK s') 0^^^Z4H r 7 else Z50 (bbK s') i))=lanesA (ZEf (r+1) s) :=
    ZF (fun i hi=>by rw[ZEW r (by omega),ZEf,hs',rnd])
   exact e ▸ B1
 ·obtain rfl:r=24:=by omega
  exact⟨_,B1.rowAll (ZJ _),_,B3.storeAll (L:=lanesA (Z65 s)) (by rw[ZJ];kernel_rfl) (by rw[ZJ,X]) (Z1N _),_,
   (B3.row_same _).rowAll (ZJ _),rfl,M.step_row (fun h=>by omega)⟩
end Go.Proofs.YtfghidehlnfdiaaGreat
end
section
namespace Go.Vcg
abbrev bV(b:UInt8):Value:=.int JM (b.toNat:Int)
def RdB(w:Z)(o:Option Addr)(bs:List UInt8):Prop :=
 bs≠[]->∃b f,o=K ⟨b,f,J0⟩/\b<w.heap.size/\∀i,i<bs.length->w.cell? ⟨b,f+i,J0⟩=K (bV (bs.getD i 0))
def Off(S:Nat->Prop)(o:Option Addr):Prop:=∀d,o=K d->¬S d.block
theorem RdB.nil(w:Z)(o:Option Addr):RdB w o []:=fun h=>(h rfl).elim
theorem RdB.mod{S:Nat->Prop}{w w':Z}{o:Option Addr}{bs:List UInt8}(h:RdB w o bs)(m:Mod S w w')(hs:Off S o):RdB w' o bs:=by
 intro hb;obtain⟨b,f,rfl,hl,hc⟩:=h hb;exact⟨b,f,rfl,J8 hl m.size,fun i hi=>(JN (m.block b hl (hs _ rfl))).trans (hc i hi)⟩
theorem RdB.mod'{w w':Z}{o:Option Addr}{bs:List UInt8}(h:RdB w o bs)(m:Mod NoB w w'):RdB w' o bs:=h.mod m (fun _ _ h=>h)
theorem RdB.sub{w:Z}{o:Option Addr}{bs:List UInt8}{c lo n:Nat}(h:RdB w o bs)(hl:bs.length<=c):RdB w (subO o c lo 1) ((bs.drop lo).take n):=by
 intro hne
 have h1:lo<bs.length:=by
  rcases Nat.lt_or_ge lo bs.length with h|h
  ·exact h
  ·rw[List.drop_eq_nil_of_le h]at hne;simp at hne
 have hb:bs≠[]:=by intro e;rw[e]at h1;simp at h1
 obtain⟨b,f,rfl,hlt,hc⟩:=h hb;refine⟨b,f+lo,?_,hlt,fun i hi=>?_⟩
 ·rw[subO,if_neg (by omega)];simp
 ·rw[J7,U]at hi
  rw[Jv,hc (lo+i) (by omega)];congr 2;simp only[Y];rw[J5 (by omega),JG]
theorem RdB.take{w:Z}{o:Option Addr}{bs:List UInt8}(h:RdB w o bs)(n:Nat):RdB w o (bs.take n):=by
 intro hne;have hb:bs≠[]:=by intro e;rw[e]at hne;simp at hne
 obtain⟨b,f,rfl,hlt,hc⟩:=h hb;refine⟨b,f,rfl,hlt,fun i hi=>?_⟩;rw[J7]at hi;rw[hc i (by omega)];simp only[Y];rw[J5 (by omega)]
theorem RdB.get{w:Z}{o:Option Addr}{bs:List UInt8}(h:RdB w o bs){i:Nat}(hi:i<bs.length) :
  ∃d,o=K d/\w.cell? (JY d (JL (i:Int)))=K (bV (bs.getD i 0)):=by
 obtain⟨b,f,rfl,hlt,hc⟩:=h (by intro e;rw[e]at hi;simp at hi);exact⟨_,rfl,by rw[D,Z6];exact hc i hi⟩
theorem RdB.of_blk{w:Z}{b f:Nat}{t:O}{cs:Array Value}{bs:List UInt8}(h:Blk w b t cs)(hc:∀i,i<bs.length->cs[f+i]?=K (bV (bs.getD i 0))):RdB w (K ⟨b,f,J0⟩) bs :=
 fun _=>⟨b,f,rfl,h.lt,fun i hi=>by rw[h.cell,hc i hi]⟩
def Z5w(b:UInt8):BitVec 64:=b.toBitVec.setWidth 64
theorem ZCj(b:UInt8):uI (Z5w b)=(b.toNat:Int):=by
 simp only[uI,Z5w,Jd,UInt8.toNat_toBitVec];have:=b.toNat_lt;omega
def leK(bs:List UInt8):Nat->BitVec 64
 |0=>0
 |k+1=>leK bs k|||(Z5w (bs.getD k 0)<<<(8*k))
def ZCJ(bs:List UInt8):BitVec 64:=leK bs bs.length
def Z8T(x:BitVec 64)(i:Nat):UInt8:=UInt8.ofBitVec ((x>>>(8*i)).setWidth 8)
def leL(x:BitVec 64)(k:Nat):List UInt8:=(J9 k).map (Z8T x)
theorem Z3N(x:BitVec 64)(k:Nat):(leL x k).length=k:=by simp[leL]
theorem ZFN(x:BitVec 64)(k:Nat):leL x (k+1)=leL x k++[Z8T x k]:=by simp[leL,List.range_succ]
theorem ZBq(n:Int):J JM n=n%256:=by simp[J,Jz,IntKind.signed]
theorem Z6f(y:BitVec 64):J JM (uI y)=((UInt8.ofBitVec (y.setWidth 8)).toNat:Int):=by
 rw[ZBq];show(y.toNat:Int)%256=((y.setWidth 8).toNat:Int);rw[Jd];omega
theorem Z4w(a b:UInt8):bitsI .or JM (a.toNat:Int) (b.toNat:Int)=((a|||b).toNat:Int):=by
 have h:∀x:UInt8,BitVec.ofInt 8 (x.toNat:Int)=x.toBitVec:=by
  intro x;apply BitVec.eq_of_toNat_eq;have:=x.toNat_lt;simp
 simp only[bitsI,Jz,h,ZBq];show(((a.toBitVec|||b.toBitVec:BitVec 8).toNat:Nat):Int)%256=(((a|||b).toBitVec).toNat:Int);rw[UInt8.toBitVec_or];have:=(a.toBitVec|||b.toBitVec:BitVec 8).isLt;omega
def ZDI(s:St)(blk:List UInt8):St:=fun i=>if i<17 then s i^^^ZCJ ((blk.drop (8*i)).take 8)else s i
def Z75(s:St)(blk:List UInt8):St:=Z65 (ZDI s blk)
def ZAn(s:St)(bs:List UInt8):Nat->St
 |0=>s
 |k+1=>Z75 (ZAn s bs k) ((bs.drop (136*k)).take 136)
def ZF6:St:=fun _=>0
def ZDN(m:List UInt8):St:=ZAn ZF6 m (m.length/136)
def restOf(m:List UInt8):List UInt8:=m.drop (136*(m.length/136))
def ZDB(r:List UInt8)(i:Nat):UInt8:=(if i<r.length then r.getD i 0 else if i=r.length then 1 else 0)|||(if i=135 then 128 else 0)
def ZEO(r:List UInt8):List UInt8:=(J9 136).map (ZDB r)
def Z4i(m:List UInt8):St:=Z75 (ZDN m) (ZEO (restOf m))
def Z4G(s:St)(i:Nat):UInt8:=UInt8.ofBitVec ((s (i/8)>>>(8*(i%8))).setWidth 8)
def sumOf(m:List UInt8):List UInt8:=(J9 32).map (Z4G (Z4i m))
def hashA(h:List UInt8):Array Value:=ZP 32 (fun i=>bV (h.getD i 0))
theorem ZC2(s:St)(bs:List UInt8)(q:Nat):∀k,ZAn s bs (q+k)=ZAn (ZAn s bs q) (bs.drop (136*q)) k
 |0=>rfl
 |k+1=>by
  rw[<-Jv,ZAn,ZC2 s bs q k,ZAn,Jr];congr 4;omega
theorem Z7F(s:St)(m b:List UInt8):∀k,136*k<=m.length->ZAn s (m++b) k=ZAn s m k
 |0,_=>rfl
 |k+1,h=>by
  rw[ZAn,Z7F s m b k (by omega),ZAn];congr 1;rw[JO (by omega),List.take_append_of_le_length (by rw[U];omega)]
theorem Z5T(m:List UInt8):(restOf m).length=m.length%136:=by
 rw[restOf,U];omega
theorem ZAX(m:List UInt8):(restOf m).length<136:=by rw[Z5T];omega
theorem Z7e(m b:List UInt8):restOf m++b=(m++b).drop (136*(m.length/136)):=by
 rw[restOf,JO (by omega)]
theorem ZBg(m b:List UInt8):ZDN (m++b)=ZAn (ZDN m) (restOf m++b) ((restOf m++b).length/136):=by
 rw[Z7e,ZDN,ZDN]
 have h1:(m++b).length/136=m.length/136+((m++b).drop (136*(m.length/136))).length/136:=by
  rw[U,JH];omega
 rw[h1,ZC2,Z7F _ _ _ _ (by omega)]
theorem Z9H(m b:List UInt8):restOf (m++b)=(restOf m++b).drop (136*((restOf m++b).length/136)):=by
 rw[Z7e,restOf,Jr];congr 1;rw[U,JH];omega
theorem Zs(m:List UInt8):(sumOf m).length=32:=by simp[sumOf]
theorem Z57(r:List UInt8):(ZEO r).length=136:=by simp[ZEO]
theorem ZDy(r:List UInt8){i:Nat}(h:i<136):(ZEO r).getD i 0=ZDB r i:=by simp[ZEO,Y,h]
theorem Z8N(m:List UInt8){i:Nat}(h:i<32):(sumOf m).getD i 0=Z4G (Z4i m) i:=by simp[sumOf,Y,h]
def Own(w:Z)(e:O)(sz:Nat)(o:Option Addr)(l c:Nat)(xs:List Value):Prop :=
 xs.length=l*sz/\((o=J0/\l=0/\c=0) \/
  ∃g cur,o=K ⟨g,0,J0⟩/\Blk w g e cur/\l<=c/\c<=Jf/\cur.size=c*sz/\cur.toList.take (l*sz)=xs)
def OB(o:Option Addr):Nat->Prop:=fun k=>∃d,o=K d/\d.block=k
theorem Z3z(k:Nat):¬OB J0 k:=by rintro⟨d,h,_⟩;cases h
theorem Own.nil(w:Z)(e:O)(sz:Nat):Own w e sz J0 0 0 []:=⟨by simp,.inl ⟨rfl,rfl,rfl⟩⟩
theorem Own.mod{S:Nat->Prop}{w w':Z}{e:O}{sz:Nat}{o:Option Addr}{l c:Nat}{xs:List Value}(h:Own w e sz o l c xs)(m:Mod S w w')(hs:∀k,OB o k->¬S k):Own w' e sz o l c xs:=by
 refine⟨h.1,?_⟩;rcases h.2 with hn|⟨g,cur,rfl,hb,rest⟩
 ·exact .inl hn
 ·exact .inr ⟨g,cur,rfl,hb.mod m (hs g ⟨_,rfl,rfl⟩),rest⟩
theorem Own.mod'{w w':Z}{e:O}{sz:Nat}{o:Option Addr}{l c:Nat}{xs:List Value}(h:Own w e sz o l c xs)(m:Mod NoB w w'):Own w' e sz o l c xs:=h.mod m (fun _ _ h=>h)
theorem Own.lt{w:Z}{e:O}{sz:Nat}{o:Option Addr}{l c:Nat}{xs:List Value}(h:Own w e sz o l c xs){k:Nat}(hk:OB o k):k<w.heap.size:=by
 obtain⟨d,rfl,rfl⟩:=hk;rcases h.2 with⟨h,_⟩|⟨g,cur,h,hb,rest⟩
 ·cases h
 ·cases h;exact hb.lt
theorem Own.len{w:Z}{e:O}{o:Option Addr}{l c:Nat}{xs:List Value}(h:Own w e 1 o l c xs):xs.length=l:=by have:=h.1;omega
theorem Own.cap{w:Z}{e:O}{sz:Nat}{o:Option Addr}{l c:Nat}{xs:List Value}(h:Own w e sz o l c xs):l<=c/\c<=Jf:=by
 rcases h.2 with⟨_,rfl,rfl⟩|⟨g,cur,_,_,h1,h2,_⟩
 ·exact⟨J4 _,Jn _⟩
 ·exact⟨h1,h2⟩
theorem Own.cell{w:Z}{e:O}{sz:Nat}{o:Option Addr}{l c:Nat}{xs:List Value}(h:Own w e sz o l c xs){i:Nat}{v:Value}(hv:xs[i]?=K v) :
  ∃g,o=K ⟨g,0,J0⟩/\w.cell? ⟨g,i,J0⟩=K v:=by
 rcases h.2 with⟨_,rfl,_⟩|⟨g,cur,ho,hb,_,_,hs,ht⟩
 ·have:=h.1;simp at this;subst this;simp at hv
 ·refine⟨g,ho,?_⟩
  rw[hb.cell];rw[<-ht,JI]at hv;split at hv
  ·simpa using hv
  ·cases hv
theorem Own.bytes{w:Z}{e:O}{o:Option Addr}{l c:Nat}{bs:List UInt8}(h:Own w e 1 o l c (bs.map bV)):RdB w o bs:=by
 intro hne;have hl:0<bs.length:=by cases bs<;>simp_all
 obtain⟨g,rfl,_⟩:=h.cell (i:=0) (v:=bV (bs.getD 0 0)) (by rw[J3];simp[Y,hl]);refine⟨g,0,rfl,?_,fun i hi=>?_⟩
 ·exact h.lt ⟨_,rfl,rfl⟩
 ·obtain⟨g',hg,hc⟩:=h.cell (i:=i) (v:=bV (bs.getD i 0)) (by rw[J3];simp[Y,hi])
  cases hg;rw[A];exact hc
theorem Z5k{P:Program}{w:Z}{tx e':O}(hk:P.underlying tx=K (.slice e')){o:Option Addr}{c:Nat}{bs:List UInt8}(h:RdB w o bs) :
  Src P 1 tx (.slice o bs.length c) bs.length (bs.map bV) w:=by
 by_cases hb:bs=[]
 ·subst hb
  cases o with
  |none=>exact Src.ofNil w hk c
  |some a=>exact Src.ofSlice w hk a 0 c [] (by simp) (by simp) (by simp)
 ·obtain⟨b,f,rfl,hl,hc⟩:=h hb
  refine Src.ofSlice w hk _ _ c _ (by simp) (fun j u hu=>?_) (by simp;intro a _;rfl);rw[Z6];rw[J3,JZ]at hu;obtain⟨x,hx,rfl⟩:=hu;obtain⟨hj,rfl⟩:=List.getElem?_eq_some_iff.1 hx;rw[hc j hj];simp[Y,hj]
theorem Z5E{P:Program}{w:Z}{tx e':O}(hk:P.underlying tx=K (.slice e')){b:Nat}{t:O}{cs:Array Value}{sz:Nat}(h:Blk w b t cs)(hs:cs.size=sz)(h1:∀v∈cs.toList,v.oneCell'=true) :
  Src P sz tx (.slice (K ⟨b,0,J0⟩) 1 1) 1 cs.toList w :=
 Src.ofSlice w hk _ 1 1 _ (by simp[hs]) (fun j u hu=>by rw[Z6,h.cell,A];simpa using hu) h1
theorem Z6P(w:Z)(g:Nat):∀(vs:List Value) (o:Nat),Mod (·=g) w (w.setCells g o vs)
 |[],_=>Mod.refl w
 |v::vs,o=>by
  have h1:=Mod.setCell w ⟨g,o,J0⟩ v
  suffices ∀w1:Z,Mod (·=g) w w1->∀(vs:List Value)(o:Nat),Mod (·=g) w (w1.setCells g o vs)from this _ h1 vs (o+1)
  intro w1 h1 vs
  induction vs generalizing w1 with
  |nil=>intro _;exact h1
  |cons v vs ih=>exact fun o=>ih _ (h1.trans (Mod.setCell _ _ _) (fun _ _ h=>h)) _
theorem Z41{g:Nat}{t:O}:∀(vs:List Value) (o:Nat) {cs:Array Value} {w:Z},Blk w g t cs->Blk (w.setCells g o vs) g t (setsAt cs o vs)
 |[],_,_,_,h=>h
 |v::vs,o,cs,w,h=>by
  rw[World.setCells,setsAt];exact Z41 vs (o+1) (h.set o v)
theorem ZX:∀(vs:List Value) (o:Nat) (cs:Array Value),(setsAt cs o vs).size=cs.size
 |[],_,_=>rfl
 |v::vs,o,cs=>by rw[setsAt,ZX vs];simp
theorem Zq:∀(vs:List Value) (o:Nat) (cs:Array Value) (i:Nat),o+vs.length<=cs.size->(setsAt cs o vs)[i]?=if o<=i/\i<o+vs.length then vs[i-o]? else cs[i]?
 |[],o,cs,i,h=>by rw[setsAt,if_neg (by simp)]
 |v::vs,o,cs,i,h=>by
  rw[List.length_cons]at h;rw[setsAt,Zq vs (o+1) _ i (by simp;omega),Array.getElem?_setIfInBounds];by_cases h1:i=o
  ·subst h1
   rw[if_neg (by omega),if_pos rfl,if_pos (by omega),if_pos (by simp)];simp
  ·by_cases h2:o+1<=i/\i<o+1+vs.length
   ·rw[if_pos h2,if_pos (by simp;omega),show i-o=(i-(o+1))+1 by omega]
    simp
   ·rw[if_neg h2,if_neg (by omega),if_neg (by simp;omega)]
theorem Z3I{P:Program}{w:Z}{t tx ty e:O}{i:TypeInfo}{z:Value}{sz:Nat}{o:Option Addr}{l c:Nat}{xs:List Value}{x:Value}{n:Nat}{news:List Value}
  (ht:P.underlying t=K (.slice e)) (hi:P.info? e=K i) (hz:i.zero=K z) (hs:i.size=sz) (hzs:z.cells.size=sz)
  (h:Own w e sz o l c xs) (src:Src P sz tx x n news w) (h63:l+n<=Jf) (hb:(l+n)*i.bytes<=140737488355328) :
  ∃o' c' w',J6 P (builtinV Q6 #[t,tx] ty #[.slice o l c,x]) w=Jp (.slice o' (l+n) c') w'/\Own w' e sz o' (l+n) c' (xs++news)/\Mod (OB o) w w' /\
   (∀k,OB o' k->OB o k\/w.heap.size<=k):=by
 have hlen:(xs++news).length=(l+n)*sz:=by rw[JH,h.1,src.newsLen,Jg]
 by_cases hroom:l+n<=c
 ·rcases h.2 with⟨rfl,rfl,rfl⟩|⟨g,cur,rfl,hB,hlc,hcm,hcs,htk⟩
  ·obtain rfl:n=0:=by omega
   have hn:news=[]:=J2 (by simpa using src.newsLen);have hx:xs=[]:=J2 (by simpa using h.1);subst hn hx;refine⟨J0,0,w,?_,Own.nil _ _ _,Mod.refl w,fun k hk=>.inl hk⟩;have hc:=src.cells;subst hs;rcases src.kind with⟨e',hk⟩|hk<;>simp[builtinV,Builtin.append_,run_underlying ht,run_underlying hk,Q0,Js,hi,src.len,hc]
  ·subst hs
   have hfit:l*i.size+news.length<=cur.size:=by rw[src.newsLen,hcs,<-Jg];exact Nat.mul_le_mul_right _ hroom
   have hr:=run_append_room_src (P:=P) w t tx ty e i ht hi g 0 l c x n news src hroom
    (fun j hj=>by rw[A,hB.cell];simp;omega) (fun j hj=>by simp[Jw,show w.heap[g]?=_ from hB])
   rw[A]at hr;refine⟨_,_,_,hr,⟨hlen,.inr ⟨g,_,rfl,Z41 news _ hB,hroom,hcm,by rw[ZX,hcs],?_⟩⟩,(Z6P w g news _).mono (fun k _ hk=>⟨_,rfl,hk.symm⟩),fun k hk=>.inl hk⟩;apply JU;intro j;rw[JI];have hxl:xs.length=l*i.size:=h.1;by_cases hj:j<(l+n)*i.size
   ·rw[if_pos hj,JK,Zq _ _ _ _ hfit]
    by_cases hj2:j<l*i.size
    ·rw[if_neg (by omega),List.getElem?_append_left (by omega),<-htk,JI,if_pos hj2,JK]
    ·rw[if_pos (by rw[src.newsLen,<-Jg];omega),List.getElem?_append_right (by omega),hxl]
   ·rw[if_neg hj,JC (by omega)]
 ·have hold:(JJ i.size l (.slice o l c)).run P w.drew=Jp xs.toArray w.drew:=by
    subst hs;rcases h.2 with⟨rfl,rfl,rfl⟩|⟨g,cur,rfl,hB,hlc,hcm,hcs,htk⟩
    ·have hx:xs=[]:=J2 (by simpa using h.1)
     subst hx;exact Ji w.drew i.size 0 0 0
    ·exact JR w.drew i.size l _ l c xs h.1 (fun j v hv=>by
      rw[Z6,A];obtain⟨g',hg',hc'⟩:=h.cell hv;cases hg';exact hc')
  have hr:=run_append_grow_src (P:=P) w t tx ty e i z ht hi hz o l c xs hold x n news (hs ▸ src) (by omega) (by simp only[Jf]at h63;omega) (growslice_fits (by omega) hb);have hge:=grownCap_ge w (l+n) c e;have hcm:grownCap w (l+n) c e<=Jf:=grownCap_le_maxLen w (l+n) c e h63;refine⟨_,_,_,hr,⟨hlen,.inr ⟨_,_,rfl,Blk.new w.drew e _,hge,hcm,?_,?_⟩⟩,((Mod.drew w).step_alloc _),fun k hk=>.inr ?_⟩
  ·rw[Array.size_append,List.size_toArray,hlen,size_zeroCells,hzs,<-Jg]
   congr 1;omega
  ·rw[Array.toList_append]
   show Q8 _ ((xs++news)++_)=_;rw[<-hlen];exact List.take_left
  ·obtain⟨d,hd,rfl⟩:=hk
   cases hd;exact J4 _
theorem Z4T{P:Program}{w:Z}{t tx ty e:O}{g o dLen dCap c n:Nat}{cur:Array Value}{te:O}{o2:Option Addr}{bs:List UInt8}
  (ht:P.underlying t=K (.slice e)) (hi:(P.info? e).map (·.size)=K 1) (h:Blk w g te cur) (hr:RdB w o2 bs) (hn:n=JS bs.length dLen) (hfit:o+n<=cur.size) :
  ∃w',J6 P (builtinV .copy #[t,tx] ty #[.slice (K ⟨g,o,J0⟩) dLen dCap,.slice o2 bs.length c]) w=Jp (.int B (n:Int)) w'/\Blk w' g te (setsAt cur o ((bs.take n).map bV))/\Mod (·=g) w w':=by
 obtain⟨i,hi1,hi2⟩:=Option.map_eq_some_iff.1 hi
 have hlen:((bs.take n).map bV).length=n:=by
  rw[JF,J7];have:n<=bs.length:=by rw[hn];exact Nat.min_le_left _ _
  omega
 have hone:∀v∈(bs.take n).map bV,v.oneCell'=true:=by
  intro v hv;obtain⟨x,_,rfl⟩:=List.mem_map.1 hv;rfl
 have hcells:(JJ 1 n (.slice o2 bs.length c)).run P w=Jp ((bs.take n).map bV).toArray w:=by
  have h1:=hr.take n;by_cases hb:bs.take n=[]
  ·have h0:n=0:=by rw[<-hlen,hb];rfl
   rw[hb,h0];cases o2 with
   |none=>exact Ji w 1 0 _ _
   |some a=>exact JR w 1 0 a _ _ [] (by simp) (by simp)
  ·obtain⟨b,f,rfl,hl,hc⟩:=h1 hb
   refine JR w 1 n _ _ _ _ (by rw[hlen];omega) (fun j u hu=>?_);rw[Z6];rw[J3,JZ]at hu;obtain⟨x,hx,rfl⟩:=hu;obtain⟨hj,rfl⟩:=List.getElem?_eq_some_iff.1 hx;rw[hc j hj];simp only[Y,hx,Option.getD_some]
 have hst:=run_storeCells_cells (P:=P) g o ((bs.take n).map bV) 0 w
  (fun j hj=>by rw[h.cell];simp;omega) (fun j hj=>by simp[Jw,show w.heap[g]?=_ from h]) hone
 simp only[Nat.add_zero]at hst;refine⟨w.setCells g o ((bs.take n).map bV),?_,Z41 _ _ h,Z6P _ _ _ _⟩;have hm:(JJ 1 (JS bs.length dLen) (.slice o2 bs.length c)).run P w=Jp ((bs.take n).map bV).toArray w:=hn ▸ hcells;clear hcells hone hr;subst hn;generalize(bs.take (JS bs.length dLen)).map bV=L at *
 simp only[Jx,builtinV];simp[run_underlying ht,Jy,Q0,Js,hi1,hi2,hm,hst,goInt]
theorem ZDk{P:Program}{w:Z}{t tx ty e:O}{o:Option Addr}{l c lo:Nat}{bs:List UInt8}
  (ht:P.underlying t=K (.slice e)) (hi:(P.info? e).map (·.size)=K 1) (h:Own w e 1 o l c (bs.map bV)) (hlo:lo<=l) :
  ∃w',J6 P (builtinV .copy #[t,tx] ty #[.slice o l c,.slice (subO o c lo 1) (l-lo) (c-lo)]) w=Jp (.int B ((l-lo:Nat):Int)) w'/\Own w' e 1 o (l-lo) c ((bs.drop lo).map bV)/\Mod (OB o) w w':=by
 have hl:bs.length=l:=by have:=h.len;simpa using this
 have hr:=h.bytes
 have hr':RdB w (subO o c lo 1) (bs.drop lo):=by
  have:=hr.sub (c:=c) (lo:=lo) (n:=bs.length) (by rw[hl];exact h.cap.1)
  rwa[JA (by simp)]at this
 rcases h.2 with⟨rfl,rfl,rfl⟩|⟨g,cur,rfl,hB,hlc,hcm,hcs,htk⟩
 ·obtain rfl:lo=0:=by omega
  have:bs=[]:=J2 hl;subst this;refine⟨w,?_,Own.nil _ _ _,Mod.refl w⟩;obtain⟨i,hi1,hi2⟩:=Option.map_eq_some_iff.1 hi;simp[builtinV,Jx,run_underlying ht,Jy,Q0,Js,hi1,JJ,subO,goInt]
 ·obtain⟨w',h1,h2,h3⟩:=Z4T (P:=P) (ty:=ty) (tx:=tx) (dLen:=l) (dCap:=c) (n:=l-lo) (o:=0) (c:=c-lo) ht hi hB hr' (by rw[U,hl];exact(Jb (by omega)).symm) (by omega)
  rw[U,hl]at h1;have hdl:(bs.drop lo).length=l-lo:=by rw[U,hl]
  rw[JA (by omega)]at h2;have hml:((bs.drop lo).map bV).length=l-lo:=by rw[JF,hdl]
  refine⟨w',h1,⟨by rw[hml,JP],.inr ⟨g,_,rfl,h2,by omega,hcm,by rw[ZX,hcs],?_⟩⟩,h3.mono (fun k _ hk=>⟨_,rfl,hk.symm⟩)⟩;apply JU;intro j;rw[JI,JP];by_cases hj:j<l-lo
  ·rw[if_pos hj,JK,Zq _ _ _ _ (by omega),if_pos (by omega),Jl]
  ·rw[if_neg hj,JC (by omega)]
theorem Z6c(n o:Nat)(f g:Nat->Value)(m:Nat)(vs:List Value)(hm:vs.length=m)(hg:∀i,i<m->vs[i]?=K (g i))(h:o+m<=n) :
  setsAt (ZP n f) o vs=ZP n (fun i=>if o<=i/\i<o+m then g (i-o)else f i):=by
 subst hm;refine Z91 (by rw[ZX,Zt]) (fun i hi=>?_);rw[Zq _ _ _ _ (by simpa using h)];by_cases h1:o<=i/\i<o+vs.length
 ·rw[if_pos h1,if_pos h1,hg _ (by omega)]
 ·rw[if_neg h1,if_neg h1,ZE hi]
theorem Z66{bs:List UInt8}{i:Nat}(h:i<bs.length):(bs.map bV)[i]?=K (bV (bs.getD i 0)):=by
 rw[J3,JE h];simp[Y,h]
def ZFt(w:Z)(o:Option Addr)(ls:List (List UInt8)):Prop :=
 ∀i,i<ls.length->∃b f oi ci,o=K ⟨b,f,J0⟩/\b<w.heap.size/\w.cell? ⟨b,f+i,J0⟩=K (.slice oi (ls.getD i []).length ci)/\RdB w oi (ls.getD i [])
theorem ZFt.mod'{w w':Z}{o:Option Addr}{ls:List (List UInt8)}(h:ZFt w o ls)(m:Mod NoB w w'):ZFt w' o ls:=by
 intro i hi;obtain⟨b,f,oi,ci,rfl,hl,hc,hr⟩:=h i hi;exact⟨b,f,oi,ci,rfl,J8 hl m.size,(JN (m.block b hl (fun h=>h))).trans hc,hr.mod' m⟩
theorem ZFt.one{w:Z}{b:Nat}{t:O}{o:Option Addr}{c:Nat}{bs:List UInt8}(h:Blk w b t #[.slice o bs.length c])(hr:RdB w o bs):ZFt w (K ⟨b,0,J0⟩) [bs]:=by
 intro i hi;obtain rfl:i=0:=by simpa using hi
 exact⟨b,0,o,c,rfl,h.lt,by rw[h.cell];rfl,hr⟩
theorem Z63(ls:List (List UInt8))(i:Nat)(h:i<ls.length):(ls.take (i+1)).flatten=(ls.take i).flatten++ls.getD i []:=by
 rw[List.take_add_one,List.flatten_append,JE h];simp[Y,h]
end Go.Vcg
end
section
namespace Go.Proofs.YtfghidehlnfdiaaGreat
open Go Go.Vcg
theorem Z80{R:Ending->Z->Prop}{w:Z}{o:Option Addr}{l c:Nat}(bs:List UInt8)(hl:l=bs.length)(h8:bs.length<=8)(hr:RdB w o bs)
  (h:R (E (uV (ZCJ bs))) w):Jk F Z18.n #[.slice o l c] w R:=by
 subst hl;refine Z18.vc _ _ _ _ _ ?_;unfold Z18.Vc;refine⟨fun n2 n3 w'=>∃i:Nat,n3=i/\i<=bs.length/\n2=uI (leK bs i)/\w'=w,fun _ n _=>((bs.length:Int)-n).toNat,⟨0,rfl,by omega,rfl,rfl⟩,?_⟩;rintro _ _ _ _⟨i,rfl,hi,rfl,rfl⟩;refine⟨fun hlt=>?_,fun hge=>?_⟩
 ·obtain⟨d,rfl,hd⟩:=hr.get (i:=i) (by omega)
  refine⟨d,rfl,by omega,_,hd,?_⟩;have e1:J B (8*(i:Int))=((8*i:Nat):Int):=by rw[Z0 (by omega) (by omega)];omega
  have e2:J I ((bs.getD i 0).toNat:Int)=uI (Z5w (bs.getD i 0)):=by rw[<-ZCj,Z7s]
  rw[e1,e2,Z8k,Z5I];exact⟨by omega,⟨i+1,by rw[Z0 (by omega) (by omega)];omega,by omega,rfl,rfl⟩,by rw[Z0 (by omega) (by omega)];dsimp only;omega⟩
 ·obtain rfl:i=bs.length:=by omega
  exact h
theorem Z40{w:Z}(s:St)(b o:Nat)(hp:Z4l w b o){o2:Option Addr}{l2 c2:Nat}(blk:List UInt8)(hl:blk.length=136)(hl2:l2=136)(hc:136<=c2)(hr:RdB w o2 blk) :
  Jk F Z02.n #[JQ (lanesA s),Jh (K ⟨b,o,J0⟩),.slice o2 l2 c2] w
   (fun e w'=>e=E (JQ (lanesA (Z75 s blk)))/\Vcg.Mod NoB w w'):=by
 subst hl2;refine Z02.vc _ _ _ _ _ _ _ ?_;unfold Z02.Vc;rintro d3 w4⟨rfl,rfl⟩ d5 w6⟨rfl,rfl⟩;have B2:=(Blk.new w 173 (lanesA s)).alloc (V (G 25 (.int I 0)) 173);have B4:=Blk.new (w.alloc (V (lanesA s) 173)) 173 (G 25 (.int I 0));have M:=(Mod.alloc (S:=NoB) w (V (lanesA s) 173)).step_alloc (V (G 25 (.int I 0)) 173);simp only[ZC]at B4 ⊢;generalize(w.alloc (V (lanesA s) 173)).alloc (V (G 25 (.int I 0)) 173)=w5 at *
 generalize hNe:w.heap.size=N at *
 refine Z4C 17 (fun n w'=>Vcg.Mod NoB w w'/\Blk w' N 173 (ZP 25 (fun i=>uV (if i<n then ZDI s blk i else s i)))/\Blk w' (N+1) 173 (G 25 (.int I 0))) rfl
  ⟨M,by simp only[JB,if_false];exact B2,B4⟩ ?_ ?_
 ·clear M B2 B4
  rintro n _ w6 hn⟨M,B2,B4⟩;rintro _ rfl;have e1:J B (8*(n:Int))=((8*n:Nat):Int):=by rw[Z0 (by omega) (by omega)];omega
  have e2:J B (((8*n:Nat):Int)+8)=((8*n+8:Nat):Int):=by rw[Z0 (by omega) (by omega)];omega
  rw[e1,e2];clear e1 e2;refine⟨by omega,_,B2.drew.rd0 (ZE (by omega)),by omega,by omega,?_⟩;rw[D,D];have hr':=((hr.mod' (M.step_drew)).sub (c:=c2) (lo:=8*n) (n:=8) (by omega));have hlen:((blk.drop (8*n)).take 8).length=8:=by rw[J7,U];omega
  refine Z80 ((blk.drop (8*n)).take 8) (by rw[hlen];omega) (by omega) hr' ⟨_,rfl,B2.drew.rd0 (ZE (by omega)),by omega,B2.drew.canSet0 (by simp;omega) rfl,fun w7 h7=>?_⟩;rw[h7.at,Z0N];simp only[Nat.lt_irrefl,if_false];refine Z7u.next (by rw[Z0 (by omega) (by omega)];omega) hn ⟨(M.step_drew).step_set (fun h=>by simp only[hNe]at h;omega),?_,B4.drew.set_ne (by simp)⟩;have:=B2.drew.set n (uV (ZDI s blk n));rw[Z0E]at this;have e3:s n^^^ZCJ ((blk.drop (8*n)).take 8)=ZDI s blk n:=by rw[ZDI,if_pos hn]
  rw[e3];refine(ZF (fun j hj=>?_)) ▸ this
  grind
 ·clear M B2 B4
  rintro _ w6⟨M,B2,B4⟩
  have e:(ZP 25 fun i=>uV (if i<17 then ZDI s blk i else s i))=lanesA (ZDI s blk):=ZF (fun i hi=>by
   by_cases h:i<17
   ·rw[if_pos h]
   ·rw[if_neg h,ZDI,if_neg h])
  rw[e]at B2;refine⟨_,B2.rowAll (ZJ _),(Z86 _ b o (hp.mod M (fun h=>h))).mono ?_⟩;rintro _ w7⟨rfl,M7⟩
  exact⟨_,rfl,_,(B4.mod' M7).storeAll (L:=lanesA (Z65 (ZDI s blk))) (by rw[ZJ];kernel_rfl) (by rw[ZJ,X]) (Z1N _),_,
   ((B4.mod' M7).row_same _).rowAll (ZJ _),rfl,(M.none_trans M7).step_row (fun h=>by omega)⟩
end Go.Proofs.YtfghidehlnfdiaaGreat
end
section
namespace Go.Proofs.YtfghidehlnfdiaaGreat
open Go
abbrev tU8:O:=5
abbrev Zu:O:=23
abbrev Z3t:O:=175
abbrev Z7n:O:=173
abbrev tHash:O:=27
abbrev tLast:O:=178
abbrev tLanes:O:=149
theorem Zn:Tryz.prog.underlying Zu=K (.slice tU8):=by kernel_rfl
theorem Z64:(Tryz.prog.info? tU8).map (fun i=>(i.zero,i.size,i.bytes))=K (K (.int JM 0),1,1):=by kernel_rfl
theorem Z0y:(Tryz.prog.info? tU8).map (·.size)=K 1:=by kernel_rfl
end Go.Proofs.YtfghidehlnfdiaaGreat
end
section
namespace Go.Proofs.YtfghidehlnfdiaaGreat
open Go Go.Vcg
theorem Z9h{w:Z}{o:Option Addr}{l c:Nat}{xs:List Value}{x:Value}{tx ty:O}{n:Nat}{news:List Value}(h:Own w tU8 1 o l c xs)(src:Src F 1 tx x n news w)(hb:l+n<=140737488355328) :
  ∃o' c' w',J6 F (builtinV Q6 #[Zu,tx] ty #[.slice o l c,x]) w=Jp (.slice o' (l+n) c') w'/\Own w' tU8 1 o' (l+n) c' (xs++news)/\Vcg.Mod (OB o) w w'/\(∀k,OB o' k->OB o k\/w.heap.size<=k):=by
 obtain⟨i,hi,h1⟩:=Option.map_eq_some_iff.1 Z64;simp only[Prod.mk.injEq]at h1;exact Z3I Zn hi h1.1 h1.2.1 rfl h src (by simp only[Jf];omega) (by rw[h1.2.2];omega)
def Z4P(s:St)(o:Option Addr)(l c:Nat)(i:Nat):Value :=
 if i<24 then uV (ZDM i)else if i<49 then .int B (turnOf (i-24):Int)else if i<74 then uV (s (i-49))else .slice o l c
def Z0d(s:St)(o:Option Addr)(l c:Nat):Array Value:=ZP 75 (Z4P s o l c)
def Z5H(w:Z)(b:Nat)(o:Option Addr)(m:List UInt8):Prop :=
 ∃l c,Blk w b Z3t (Z0d (ZDN m) o l c)/\Own w tU8 1 o l c ((restOf m).map bV)/\¬OB o b
def SpB(b:Nat)(o:Option Addr):Nat->Prop:=fun k=>k=b\/OB o k
theorem Z3F{w:Z}{b:Nat}{s:St}{o:Option Addr}{l c:Nat}(h:Blk w b Z3t (Z0d s o l c)):Z4l w b 0 :=
 Z4l.of_blk h (fun i hi=>by
  rw[A,Z0d,Z9E,ZE (by omega),ZE hi,Z4P];by_cases h1:i<24
  ·rw[if_pos h1,if_pos h1]
  ·rw[if_neg h1,if_neg h1,if_pos hi])
theorem Z2t{w:Z}{b:Nat}{s:St}{o:Option Addr}{l c:Nat}(h:Blk w b Z3t (Z0d s o l c)):ZH w ⟨b,49,J0⟩ 25 (lanesA s) :=
 h.rowAt (ZJ s) (fun i hi=>by
  rw[Z0d,ZE (by omega),ZV s hi,Z4P,if_neg (by omega),if_neg (by omega),if_pos (by omega),Nat.add_sub_cancel_left])
theorem Z0P{w:Z}{b:Nat}{s:St}{o:Option Addr}{l c:Nat}(h:Blk w b Z3t (Z0d s o l c)):w.cell? ⟨b,74,J0⟩=K (.slice o l c) :=
 h.rd1 (by rw[Z0d,ZE (by omega)];rfl)
theorem ZCd{w:Z}{b:Nat}{s:St}{o o':Option Addr}{l c l' c':Nat}(h:Blk w b Z3t (Z0d s o l c)):Blk (w.setCell ⟨b,74,J0⟩ (.slice o' l' c')) b Z3t (Z0d s o' l' c'):=by
 have:=h.set 74 (.slice o' l' c');rw[Z0d,Z0E]at this;refine(show _=Z0d s o' l' c' from ZF (fun j hj=>?_)) ▸ this;unfold Z4P;by_cases h0:j=74
 ·subst h0;rfl
 ·rw[if_neg h0]
  by_cases h1:j<24
  ·rw[if_pos h1,if_pos h1]
  ·rw[if_neg h1,if_neg h1]
   by_cases h2:j<49
   ·rw[if_pos h2,if_pos h2]
   ·rw[if_neg h2,if_neg h2,if_pos (by omega),if_pos (by omega)]
theorem ZBh{w:Z}{b:Nat}{s s':St}{o:Option Addr}{l c:Nat}(h:Blk w b Z3t (Z0d s o l c)) :
  ∃w',J6 F (Instr.storeAt Z7n (Jh (K ⟨b,49,J0⟩)) (JQ (lanesA s'))) w=Jp () w'/\Blk w' b Z3t (Z0d s' o l c)/\Vcg.Mod (·=b) w w':=by
 have hi:(Tryz.prog.info? Z7n).map (·.size)=K 25:=by kernel_rfl
 obtain⟨i,hi1,hi2⟩:=Option.map_eq_some_iff.1 hi;have hs:=h.storeAt (L:=lanesA s') (o:=49) hi1 (by rw[ZJ];exact hi2) (by rw[ZJ,Z0d,Zt];decide) (Z1N _)
 have e2:ZP 75 (fun i=>if i<49 then Z4P s o l c i else if i<49+25 then uV (s' (i-49))else Z4P s o l c i)=Z0d s' o l c :=
  ZF (fun i hi=>by
   unfold Z4P;by_cases h1:i<24
   ·rw[if_pos h1,if_pos (by omega),if_pos h1]
   ·rw[if_neg h1,if_neg h1]
    by_cases h2:i<49
    ·rw[if_pos h2,if_pos h2,if_pos h2]
    ·rw[if_neg h2,if_neg h2,if_neg h2]
     by_cases h3:i<74
     ·rw[if_pos (by omega),if_pos h3]
     ·rw[if_neg (by omega),if_neg h3,if_neg h3])
 have hA:(Q8 49 (Z0d s o l c).toList++(lanesA s').toList++List.drop (49+(lanesA s').size) (Z0d s o l c).toList).toArray=Z0d s' o l c:=by
  rw[ZJ,<-e2];exact ZAc 75 49 25 (Z4P s o l c) (fun i=>uV (s' i)) (by decide)
 rw[hA]at hs;exact⟨_,hs,h.row_same _,Mod.setRow w b _⟩
theorem ZDV(w:Z):Jk F Z26.n #[] w (fun e w'=>∃b,e=E (Jh (K ⟨b,0,J0⟩))/\Z5H w' b J0 []/\Vcg.Mod NoB w w'/\w.heap.size<=b):=by
 refine Z26.vc _ _ ?_;unfold Z26.Vc;refine(Z9F _).mono ?_;rintro _ w1⟨rfl,M1⟩;refine⟨_,rfl,Z4c,?_⟩;rintro d3 w4⟨rfl,rfl⟩;refine⟨_,rfl,⟨0,0,?_,Own.nil _ _ _,Z3z _⟩,M1.step_alloc _,M1.size⟩;exact(show _=Z0d (ZDN []) J0 0 0 from by kernel_rfl) ▸ Blk.new w1 _ _
theorem ZAx{w:Z}{b:Nat}{o o1:Option Addr}{l1 c1:Nat}{m bs:List UInt8}(hS:Z5H w b o m)(hr:RdB w o1 bs)(hl:l1=bs.length)(hmax:bs.length<=2^40) :
  Jk F Z01.n #[Jh (K ⟨b,0,J0⟩),.slice o1 l1 c1] w
   (fun e w'=>e=E (.tuple #[])/\∃o',Z5H w' b o' (m++bs)/\Vcg.Mod (SpB b o) w w'/\∀k,OB o' k->OB o k\/w.heap.size<=k):=by
 subst hl;obtain⟨l,c,hB,hO,hn⟩:=hS;refine Z01.vc _ _ _ _ _ _ ?_;unfold Z01.Vc;simp only[Z6,A];have hrl:(restOf m).length=l:=by have:=hO.len;simpa using this
 have hlt:=ZAX m;obtain⟨o',c',w1,h1,hO1,M1,hF1⟩:=Z9h (ty:=Zu) hO (Z5k (c:=c1) Zn hr) (by omega);have hnb:¬OB o' b:=fun h=>(hF1 b h).elim hn (fun h=>by have:=hB.lt;omega);rw[<-Jq]at hO1;have hB1:=hB.mod M1 hn;refine⟨_,_,_,Z0P hB,_,w1,h1,_,_,_,rfl,hB1.canSet (by rw[Z0d,Zt];decide) rfl,?_⟩;rintro _ rfl;have hB2:=ZCd (o':=o') (l':=l+bs.length) (c':=c') hB1;have hO2:=hO1.mod (Mod.setCell w1 ⟨b,74,J0⟩ (.slice o' (l+bs.length) c')) (fun k hk(hkb:k=b)=>hnb (hkb ▸ hk));have M2:Vcg.Mod (SpB b o) w (w1.setCell ⟨b,74,J0⟩ (.slice o' (l+bs.length) c')):=(M1.mono (T:=SpB b o) (fun k _ h=>.inr h)).step_set (fun _=>.inl rfl);generalize w1.setCell ⟨b,74,J0⟩ (.slice o' (l+bs.length) c')=w2 at *
 generalize hall:restOf m++bs=all at *
 have hlen:l+bs.length=all.length:=by rw[<-hall,JH,hrl]
 rw[hlen]at hB2 hO2;have hmax':all.length<2^41:=by omega
 refine⟨fun n w'=>∃k:Nat,n=((136*k:Nat):Int)/\136*k<=all.length/\Vcg.Mod (SpB b o) w w'/\Blk w' b Z3t (Z0d (ZAn (ZDN m) all k) o' all.length c')/\Own w' tU8 1 o' all.length c' (all.map bV),
  fun n _=>((all.length:Int)-n).toNat,⟨0,rfl,by omega,M2,hB2,hO2⟩,?_⟩
 rintro _ _ w3⟨k,rfl,hk,M3,hB3,hO3⟩;refine⟨_,_,_,Z0P hB3,?_⟩;have ew:J B (((all.length:Nat):Int)-((136*k:Nat):Int))=((all.length-136*k:Nat):Int):=by rw[Z0 (by omega) (by omega)];omega
 rw[ew];refine⟨fun hge=>?_,fun hlt'=>?_⟩
 ·rintro _ rfl
  have e2:J B (((136*k:Nat):Int)+136)=((136*k+136:Nat):Int):=by rw[Z0 (by omega) (by omega)];omega
  rw[e2,D,D];have hcap:=hO3.cap;refine⟨_,Z2t hB3.drew,_,_,_,Z0P hB3.drew,by omega,by omega,?_⟩;refine(Z40 _ b 0 (Z3F hB3.drew) ((all.drop (136*k)).take 136) (by rw[J7,U];omega) (by omega) (by omega) (((hO3.mod' (Mod.drew w3)).bytes).sub (by omega))).mono ?_;rintro _ w4⟨rfl,M4⟩;obtain⟨w5,h5,hB5,M5⟩:=ZBh (s':=Z75 (ZAn (ZDN m) all k) ((all.drop (136*k)).take 136)) (hB3.drew.mod' M4);refine⟨_,rfl,w5,h5,⟨k+1,by omega,by omega,((M3.step_drew).none_trans M4).trans M5 (fun i _ hi=>.inl hi),hB5,((hO3.mod' (Mod.drew w3)).mod' M4).mod M5 (fun i hi(hib:i=b)=>hnb (hib ▸ hi))⟩,by dsimp only;omega⟩
 ·rintro _ rfl
  have hcap:=hO3.cap;have hkq:k=all.length/136:=by omega
  rw[D];obtain⟨w4,h4,hO4,M4⟩:=ZDk (P:=F) (t:=Zu) (tx:=Zu) (ty:=3) (lo:=136*k) Zn Z0y (hO3.mod' (Mod.drew w3)) hk;have hB4:=hB3.drew.mod M4 hnb;refine⟨_,_,_,Z0P hB3.drew,_,_,_,Z0P hB3.drew,_,_,_,Z0P hB3.drew,by omega,_,w4,h4,_,rfl,Z0P hB4,by omega,hB4.canSet (by rw[Z0d,Zt];decide) rfl,?_⟩;rintro _ rfl;rw[D];have hB5:=ZCd (o':=o') (l':=all.length-136*k) (c':=c') hB4;have M5:=Mod.setCell w4 ⟨b,74,J0⟩ (.slice o' (all.length-136*k) c');refine⟨trivial,o',⟨all.length-136*k,c',?_,?_,hnb⟩,?_,hF1⟩
  ·rw[ZBg,hall,<-hkq];exact hB5
  ·rw[Z9H,hall,<-hkq];exact hO4.mod M5 (fun i hi(hib:i=b)=>hnb (hib ▸ hi))
  ·exact(((M3.step_drew).trans M4 (fun i hi h=>(hF1 i h).elim (fun h=>.inr h) (fun h=>by omega)))).step_set (fun _=>.inl rfl)
theorem Z9Z{w:Z}{o:Option Addr}{l c:Nat}{bs:List UInt8}{n1 n2:Int}(x:BitVec 64)(k:Nat)(h1:n1=uI x)(h2:n2=(k:Int))(hk:k<=8)(hO:Own w tU8 1 o l c (bs.map bV))(hl:l<=2^40) :
  Jk F Z1H.n #[.slice o l c,.int I n1,.int B n2] w (fun e w'=>∃o' c',e=E (.slice o' (l+k) c')/\Own w' tU8 1 o' (l+k) c' ((bs++leL x k).map bV)/\Vcg.Mod (OB o) w w'/\∀i,OB o' i->OB o i\/w.heap.size<=i):=by
 subst h1 h2;refine Z1H.vc _ _ _ _ _ _ _ ?_;unfold Z1H.Vc
 refine⟨fun o' l' c' n w'=>∃i:Nat,n=i/\i<=k/\l'=l+i/\Own w' tU8 1 o' l' c' ((bs++leL x i).map bV)/\Vcg.Mod (OB o) w w'/\∀i,OB o' i->OB o i\/w.heap.size<=i,
  fun _ _ _ n _=>((k:Int)-n).toNat,⟨0,rfl,by omega,rfl,by simpa[leL]using hO,Mod.refl w,fun i h=>.inl h⟩,?_⟩
 rintro o' _ c' _ _ w1⟨i,rfl,hi,rfl,hO1,M1,hF⟩;refine⟨fun hlt=>?_,fun hge=>?_⟩
 ·have e1:J B (8*(i:Int))=((8*i:Nat):Int):=by rw[Z0 (by omega) (by omega)];omega
  rw[e1,ZCe _ _ _ rfl,Z6f];refine⟨by omega,?_⟩;rintro d7 w8⟨rfl,rfl⟩;have hB:=Blk.new w1 tU8 #[bV (Z8T x i)];have hO2:=hO1.mod' (Mod.alloc w1 (V #[bV (Z8T x i)] tU8));have hsrc:=Z5E (P:=F) (tx:=Zu) Zn hB (sz:=1) rfl (by intro v hv;simp at hv;subst hv;rfl);obtain⟨o2,c2,w2,h2,hO3,M2,hF2⟩:=Z9h (ty:=Zu) hO2 hsrc (by omega);refine⟨_,w2,h2,_,_,_,rfl,⟨i+1,by rw[Z0 (by omega) (by omega)];omega,by omega,rfl,?_,?_,?_⟩,by dsimp only;rw[Z0 (by omega) (by omega)];omega⟩
  ·rw[ZFN,<-List.append_assoc,Jq]
   exact hO3
  ·exact(M1.step_alloc _).trans M2 (fun j hj h=>(hF j h).elim id (fun h=>by omega))
  ·intro j hj
   rcases hF2 j hj with h|h
   ·exact hF j h
   ·right;rw[ZC]at h;have:=M1.size;omega
 ·obtain rfl:i=k:=by omega
  exact⟨o',c',rfl,hO1,M1,hF⟩
theorem or_u8(a:UInt8):bitsI .or JM (a.toNat:Int) 128=((a|||128:UInt8).toNat:Int):=Z4w a 128
theorem Z2M(h:List UInt8):∀v∈(hashA h).toList,v.oneCell'=true:=Z2n (fun _=>rfl)
theorem ZA(h:List UInt8):(hashA h).size=32:=Zt _ _
theorem ZCT{w w1:Z}{s:St}{Q N:Nat}{R:Ending->Z->Prop}(M:Vcg.Mod NoB w w1)(hN:w.heap.size=N)
  (B0:Blk w1 N tHash (G 32 (.int JM 0))) (BQ:Blk w1 Q Z7n (lanesA s)) (hQ:N<Q)
  (hR:∀w',Vcg.Mod NoB w w'->R (E (JQ (ZP 32 (fun i=>bV (Z4G s i))))) w') :
  ∀(d23:Addr)(w24:Z),ZB w1 tHash (G 32 (.int JM 0)) d23 w24 ->
   ∃(I25:Int->Z->Prop)(μ25:Int->Z->Nat),I25 0 w24 /\
   (∀(n26:Int)(j27:Nat->Value)(w27:Z),I25 n26 w27 ->
     (((n26<4 ->
       ∀w28:Z,ZL w27 w28 ->
       (0<=(J B (8*n26))/\(J B (8*n26))<=((32:Nat):Int)) /\
       (0<=n26/\n26<((25:Nat):Int)) /\
       ∃n29:Int,JV w28 (JY ⟨Q,0,J0⟩ (JL n26))=K (.int I n29) /\
       Jk F Z1H.n #[(.slice J0 0 0),(.int I n29),(.int B 8)] w28 (fun e30 w31 =>
        ∃o32:Option Addr,∃l33:Nat,∃l34:Nat,e30=E (.slice o32 l33 l34) /\
        ∃(v35:Value)(w36:Z),J6 F (builtinV .copy #[Zu,Zu] 3 #[(.slice (K (subD d23 32 (JL (J B (8*n26))) 1)) (32-(JL (J B (8*n26)))) (32-(JL (J B (8*n26))))),(.slice o32 l33 l34)]) w31=Jp v35 w36 /\
        ∃n37:Int,v35=(.int B n37) /\
        I25 (J B (n26+1)) w36/\μ25 (J B (n26+1)) w36<μ25 n26 w27))) /\
      ((¬n26<4 ->
       ∃L38:Array Value,ZH w27 d23 32 L38 /\
       ∃w39:Z,J6 F (Instr.storeAt tHash (Jh (K ⟨N,0,J0⟩)) (JQ L38)) w27=Jp () w39 /\
       ∃L40:Array Value,ZH w39 ⟨N,0,J0⟩ 32 L40 /\
       R (E (JQ L40)) w39)))):=by
 rintro d23 w24⟨rfl,rfl⟩;have hQl:=BQ.lt;have BT:=Blk.new w1 tHash (G 32 (.int JM 0))
 replace B0:=B0.alloc (V (G 32 (.int JM 0)) tHash)
 replace BQ:=BQ.alloc (V (G 32 (.int JM 0)) tHash)
 replace M:=M.step_alloc (V (G 32 (.int JM 0)) tHash)
 generalize w1.alloc (V (G 32 (.int JM 0)) tHash)=w2 at *
 generalize w1.heap.size=T at *
 refine Z4C 4 (fun i w'=>Vcg.Mod NoB w w'/\Blk w' N tHash (G 32 (.int JM 0))/\Blk w' Q Z7n (lanesA s)/\Blk w' T tHash (ZP 32 (fun j=>bV (if j<8*i then Z4G s j else 0)))) rfl
  ⟨M,B0,BQ,by rw[Zb]at BT;simp only[Nat.mul_zero,JB,if_false];exact BT⟩ ?_ ?_
 ·clear M B0 BQ BT
  rintro i _ w3 hi⟨M,B0,BQ,BT⟩;rintro _ rfl;have e1:J B (8*(i:Int))=((8*i:Nat):Int):=by rw[Z0 (by omega) (by omega)];omega
  rw[e1];refine⟨by omega,by omega,_,BQ.drew.rd0 (ZV _ (by omega)),(Z9Z (bs:=[]) (s i) 8 rfl rfl (by omega) (Own.nil _ _ _) (by omega)).mono ?_⟩;rintro _ w4⟨o4,c4,rfl,hO4,M4,hF4⟩;have M4':Vcg.Mod NoB w3.drew w4:=M4.mono (fun k _ h=>Z3z k h);have BT4:=BT.drew.mod' M4'
  obtain⟨w5,h5,BT5,M5⟩:=Z4T (P:=F) (tx:=Zu) (ty:=3) (o:=8*i) (dLen:=32-8*i) (dCap:=32-8*i) (c:=c4) (n:=8) Zn Z0y BT4 hO4.bytes
   (by rw[Jc,Z3N];exact(Jb (by omega)).symm) (by rw[Zt];omega)
  rw[Jc,Z3N]at h5;rw[D (8*i),subD,if_neg (by omega),Z6,JP,A (8*i)];refine⟨_,_,_,rfl,_,w5,h5,_,rfl,Z7u.next (by rw[Z0 (by omega) (by omega)];omega) hi ⟨((M.step_drew).none_trans M4').trans M5 (fun j hj h=>by simp only[hN]at hj;omega),(B0.drew.mod' M4').mod M5 (by omega),(BQ.drew.mod' M4').mod M5 (by omega),?_⟩⟩
  rw[Jc,JA (by rw[Z3N];omega),Z6c 32 (8*i) _ (fun j=>bV (Z8T (s i) j)) 8 _ (by rw[JF,Z3N]) (fun j hj=>by
   rw[Z66 (by rw[Z3N];exact hj)];simp[leL,Y,hj]) (by omega)]at BT5
  refine(show _=ZP 32 (fun j=>bV (if j<8*(i+1)then Z4G s j else 0))from ZF (fun j hj=>?_)) ▸ BT5;by_cases h1:8*i<=j/\j<8*i+8
  ·rw[if_pos h1,if_pos (by omega),Z4G,Z8T,show j/8=i by omega,show j%8=j-8*i by omega]
  ·rw[if_neg h1]
   by_cases h2:j<8*i
   ·rw[if_pos h2,if_pos (by omega)]
   ·rw[if_neg h2,if_neg (by omega)]
 ·clear M B0 BQ BT
  rintro _ w3⟨M,B0,BQ,BT⟩;have e:ZP 32 (fun j=>bV (if j<8*4 then Z4G s j else 0))=ZP 32 (fun i=>bV (Z4G s i)):=ZF (fun i hi=>by rw[if_pos (by omega)]);rw[e]at BT;exact⟨_,BT.rowAll (Zt _ _),_,B0.storeAll (L:=ZP 32 (fun i=>bV (Z4G s i))) (by rw[Zt];kernel_rfl) (by rw[Zt,X]) (Z2n (fun _=>rfl)),_,(B0.row_same _).rowAll (Zt _ _),hR _ (M.step_row (fun h=>by omega))⟩
set_option maxRecDepth 20000 in
theorem ZAw{w:Z}{b:Nat}{o:Option Addr}{m:List UInt8}(hS:Z5H w b o m) :
  Jk F Z0Q.n #[Jh (K ⟨b,0,J0⟩)] w (fun e w'=>e=E (JQ (hashA (sumOf m)))/\Vcg.Mod NoB w w'):=by
 obtain⟨l,c,hB,hO,hn⟩:=hS;refine Z0Q.vc _ _ _ ?_;unfold Z0Q.Vc;simp only[Z6,A];rintro d1 w2⟨rfl,rfl⟩ d3 w4⟨rfl,rfl⟩ _ rfl;have hbl:=hB.lt;have B1:=((Blk.new w tHash (G 32 (.int JM 0))).alloc (V (G 136 (.int JM 0)) tLast)).drew;have B3:=(Blk.new (w.alloc (V (G 32 (.int JM 0)) tHash)) tLast (G 136 (.int JM 0))).drew;have M:=((Mod.alloc (S:=NoB) w (V (G 32 (.int JM 0)) tHash)).step_alloc (V (G 136 (.int JM 0)) tLast)).step_drew;have hB1:=hB.mod' M;have hO1:=hO.mod' M;simp only[ZC]at B3 ⊢;generalize((w.alloc (V (G 32 (.int JM 0)) tHash)).alloc (V (G 136 (.int JM 0)) tLast)).drew=w5 at *
 generalize hNe:w.heap.size=N at *
 have hrl:(restOf m).length=l:=by have:=hO.len;simpa using this
 have hlt:=ZAX m
 obtain⟨w6,h6,B6,M6⟩:=Z4T (P:=F) (tx:=Zu) (ty:=3) (o:=0) (dLen:=136) (dCap:=136) (c:=c) (n:=(restOf m).length) Zn Z0y B3 hO1.bytes
  (Jb (by omega)).symm (by rw[X];omega)
 rw[JA (J4 _),Zb,Z6c 136 0 _ (fun j=>bV ((restOf m).getD j 0)) (restOf m).length _ (by rw[JF]) (fun j hj=>Z66 hj) (by omega)]at B6;rw[hrl]at h6 B6;refine⟨_,_,_,Z0P hB1,_,w6,h6,_,rfl,by omega,B6.canSet0 (by rw[Zt];omega) rfl,fun w7 h7=>?_⟩;have h7':=h7.at;subst h7';clear h7;simp only[Z6,A];have B7:=B6.set l (bV 1);rw[Z0E]at B7;have M7:=M6.trans (Mod.setCell w6 ⟨N+1,l,J0⟩ (.int JM 1)) (fun i _ h=>h)
 have e7:(ZP 136 fun j=>if j=l then bV 1 else if 0<=j/\j<0+l then bV ((restOf m).getD (j-0) 0)else .int JM 0)=ZP 136 (fun j=>bV (if j<l then(restOf m).getD j 0 else if j=l then 1 else 0)) :=
  ZF (fun j hj=>by
   by_cases h1:j=l
   ·rw[if_pos h1,if_neg (by omega),if_pos h1]
   ·rw[if_neg h1]
    by_cases h2:j<l
    ·rw[if_pos (by omega),if_pos h2,Jl]
    ·rw[if_neg (by omega),if_neg h2,if_neg h1];rfl)
 rw[e7]at B7;refine⟨_,B7.rd1 (ZE (by omega)),B7.canSet (by rw[Zt];omega) rfl,?_⟩;rintro _ rfl;rw[or_u8];have B8:=B7.set 135 (bV ((if 135<l then(restOf m).getD 135 0 else if 135=l then 1 else 0)|||128));rw[Z0E]at B8
 have e8:(ZP 136 fun j=>if j=135 then bV ((if 135<l then(restOf m).getD 135 0 else if 135=l then 1 else 0)|||128)else bV (if j<l then(restOf m).getD j 0 else if j=l then 1 else 0))=ZP 136 (fun j=>bV (ZDB (restOf m) j)) :=
  ZF (fun j hj=>by
   unfold ZDB;rw[hrl];by_cases h1:j=135
   ·subst h1;rw[if_pos rfl,if_pos rfl]
   ·rw[if_neg h1,if_neg h1];congr 2;simp)
 rw[e8]at B8;change Blk ((w6.setCell ⟨N+1,l,J0⟩ (.int JM 1)).setCell ⟨N+1,135,J0⟩ (bV ((if 135<l then(restOf m).getD 135 0 else if 135=l then 1 else 0)|||128))) _ _ _ at B8;have M8:=M7.trans (Mod.setCell _ ⟨N+1,135,J0⟩ (bV ((if 135<l then(restOf m).getD 135 0 else if 135=l then 1 else 0)|||128))) (fun i _ h=>h);have hq:N<w5.heap.size:=B1.lt;have hq3:N+1<w5.heap.size:=B3.lt;have B18:=B1.mod M8 (by omega);have hB8:=hB1.mod M8 (by omega);have Mw8:=M.trans M8 (fun i hi h=>by simp only[hNe]at hi;omega);have hs8:=M8.size;generalize((w6.setCell ⟨N+1,l,J0⟩ (.int JM 1)).setCell ⟨N+1,135,J0⟩ (bV ((if 135<l then(restOf m).getD 135 0 else if 135=l then 1 else 0)|||128)))=w8 at *
 have hlast:∀w',Blk w' (N+1) tLast (ZP 136 (fun j=>bV (ZDB (restOf m) j)))->RdB w' (K ⟨N+1,0,J0⟩) (ZEO (restOf m)):=fun w' h =>
  RdB.of_blk h (fun i hi=>by rw[Z57]at hi;rw[A,ZE hi,ZDy _ hi])
 have hfin:∀w',Vcg.Mod NoB w w'->(fun e w'=>e=E (JQ (hashA (sumOf m)))/\Vcg.Mod NoB w w') (E (JQ (ZP 32 (fun i=>bV (Z4G (Z4i m) i))))) w':=fun w' h=>by
  refine⟨?_,h⟩;have:hashA (sumOf m)=ZP 32 (fun i=>bV (Z4G (Z4i m) i)):=ZF (fun i hi=>by rw[Z8N m hi]);rw[this]
 rintro _ rfl;refine⟨_,Z2t hB8.drew,?_,?_⟩
 ·refine(Z40 (ZDN m) b 0 (Z3F hB8.drew) (ZEO (restOf m)) (Z57 _) rfl (J4 _) (hlast _ B8.drew)).mono ?_
  rintro _ w9⟨rfl,M9⟩;refine⟨_,rfl,?_⟩;rintro d20 w21⟨rfl,rfl⟩;have BQ:=Blk.new w9 Z7n (G 25 (.int I 0));have hs9:=M9.size;have hs9':=(B18.drew.mod' M9).lt;refine⟨_,BQ.storeAll (L:=lanesA (Z4i m)) (by rw[ZJ];kernel_rfl) (by rw[ZJ,X]) (Z1N _),?_⟩;exact ZCT (s:=Z4i m) (R:=fun e w'=>e=E (JQ (hashA (sumOf m)))/\Vcg.Mod NoB w w') (((Mw8.step_drew).none_trans M9).step_alloc _ |>.step_row (fun h=>by omega)) hNe (((B18.drew.mod' M9).alloc _).row_ne (by omega)) (BQ.row_same _) (by omega) hfin
 ·rintro d41 w42⟨rfl,rfl⟩
  have BQ:=Blk.new w8.drew Z7n (G 25 (.int I 0));have hB9:=hB8.drew.alloc (V (G 25 (.int I 0)) Z7n);refine⟨Z2t hB9,(Z40 (ZDN m) b 0 (Z3F hB9) (ZEO (restOf m)) (Z57 _) rfl (J4 _) (hlast _ (B8.drew.alloc _))).mono ?_⟩;rintro _ w9⟨rfl,M9⟩;have hs9':=(B18.drew).lt;refine⟨_,rfl,_,(BQ.mod' M9).storeAll (L:=lanesA (Z4i m)) (by rw[ZJ];kernel_rfl) (by rw[ZJ,X]) (Z1N _),?_⟩;have hsz:w8.drew.heap.size=w8.heap.size:=rfl;exact ZCT (s:=Z4i m) (R:=fun e w'=>e=E (JQ (hashA (sumOf m)))/\Vcg.Mod NoB w w') ((((Mw8.step_drew).step_alloc _).none_trans M9).step_row (fun h=>by omega)) hNe (((B18.drew.alloc _).mod' M9).row_ne (by omega)) ((BQ.mod' M9).row_same _) (by omega) hfin
theorem Z9d{w:Z}{o0:Option Addr}{l0 c0:Nat}(ls:List (List UInt8))(hl:l0=ls.length)(hl0:l0<=2^40)(hr:ZFt w o0 ls)(hmax:∀b∈ls,b.length<=2^40) :
  Jk F Z2b.n #[.slice o0 l0 c0] w (fun e w'=>e=E (JQ (hashA (sumOf ls.flatten)))/\Vcg.Mod NoB w w'):=by
 subst hl;refine Z2b.vc _ _ _ _ _ ?_;unfold Z2b.Vc;rintro d1 w2⟨rfl,rfl⟩;have B1:=Blk.new w tHash (G 32 (.int JM 0));have M:=Mod.alloc (S:=NoB) w (V (G 32 (.int JM 0)) tHash);refine(ZDV _).mono ?_;rintro _ w3⟨b,rfl,hS,M3,hb⟩;rw[ZC]at hb;have B1':=B1.mod' M3;have M':=M.none_trans M3;refine⟨_,rfl,?_⟩
 refine Z4C ls.length (fun i w'=>Vcg.Mod NoB w w'/\Blk w' w.heap.size tHash (G 32 (.int JM 0))/\∃o,Z5H w' b o (ls.take i).flatten/\∀k,SpB b o k->w.heap.size<k) rfl
  ⟨M',B1',J0,hS,fun k hk=>hk.elim (fun h=>by omega) (fun h=>(Z3z k h).elim)⟩ ?_ ?_
 ·rintro i _ w4 hi⟨M4,B4,o,hS4,hF⟩
  obtain⟨bb,f,oi,ci,rfl,hbl,hc,hri⟩:=(hr.mod' M4) i hi;refine⟨_,rfl,by omega,_,_,_,by rw[Z6,D];exact hc,?_⟩;refine(ZAx hS4 hri rfl (hmax _ (by simp[Y,hi]))).mono ?_;rintro _ w5⟨rfl,o',hS5,M5,hF5⟩;refine⟨rfl,Z7u.next (by rw[Z0 (by omega) (by omega)];omega) hi ⟨M4.trans M5 (fun k hk h=>by have:=hF k h;omega),B4.mod M5 (fun h=>by have:=hF _ h;omega),o',?_,?_⟩⟩
  ·rw[Z63 _ _ hi];exact hS5
  ·intro k hk
   have hs:=M4.size;rcases hk with rfl|hk
   ·exact hF _ (.inl rfl)
   ·rcases hF5 k hk with h|h
    ·exact hF _ (.inr h)
    ·have:=B4.lt;omega
 ·rintro _ w4⟨M4,B4,o,hS4,hF⟩
  rw[List.take_length]at hS4;refine(ZAw hS4).mono ?_;rintro _ w5⟨rfl,M5⟩;exact⟨_,rfl,_,(B4.mod' M5).storeAll (L:=hashA (sumOf ls.flatten)) (by rw[ZA];kernel_rfl) (by rw[ZA,X]) (Z2M _),_,((B4.mod' M5).row_same _).rowAll (ZA _),rfl,(M4.none_trans M5).step_row (fun h=>by omega)⟩
end Go.Proofs.YtfghidehlnfdiaaGreat
end
section
namespace Go.Vcg
theorem ZCI(bs:List UInt8):∀(k i:Nat),8*k<=i->(leK bs k).getLsbD i=false
 |0,i,_=>by simp[leK]
 |k+1,i,h=>by
  rw[leK,Jm,ZCI bs k i (by omega),BitVec.getLsbD_shiftLeft,Z5w,BitVec.getLsbD_setWidth];have:(bs.getD k 0).toBitVec.getLsbD (i-8*k)=false:=BitVec.getLsbD_of_ge _ _ (by omega);rw[this];simp
theorem ZHR(bs:List UInt8)(k:Nat)(b:UInt8):leK bs k|||(Z5w b<<<(8*k))=leK bs k^^^(Z5w b<<<(8*k)):=by
 apply BitVec.eq_of_getLsbD_eq;intro i hi;rw[Jm,BitVec.getLsbD_xor,BitVec.getLsbD_shiftLeft];by_cases h:i<8*k
 ·simp[h]
 ·rw[ZCI bs k i (by omega)];simp
def ZF4(s:St)(c:Nat->UInt8):Nat->St
 |0=>s
 |i+1=>fun j=>if j=i/8 then ZF4 s c i j^^^(Z5w (c i)<<<(8*(i%8)))else ZF4 s c i j
def lxK(c:Nat->UInt8):Nat->BitVec 64
 |0=>0
 |k+1=>lxK c k^^^(Z5w (c k)<<<(8*k))
theorem ZBr(s:St)(c:Nat->UInt8):∀(i j:Nat),ZF4 s c i j=s j^^^lxK (fun m=>c (8*j+m)) (JS (i-8*j) 8)
 |0,j=>by simp[ZF4,lxK]
 |i+1,j=>by
  rw[ZF4];by_cases h:j=i/8
  ·simp only[h,if_true]
   rw[<-h,ZBr s c i j];have e1:JS (i-8*j) 8=i%8:=by show min _ _=_;omega
   have e2:JS (i+1-8*j) 8=i%8+1:=by show min _ _=_;omega
   rw[e1,e2,lxK,show 8*j+i%8=i by omega,JX]
  ·simp only[h,if_false]
   rw[ZBr s c i j];have e:JS (i-8*j) 8=JS (i+1-8*j) 8:=by show min _ _=min _ _;omega
   rw[e]
theorem ZE8(bs:List UInt8)(c:Nat->UInt8):∀k,(∀m,m<k->bs.getD m 0=c m)->leK bs k=lxK c k
 |0,_=>rfl
 |k+1,h=>by rw[leK,ZHR,lxK,ZE8 bs c k (fun m hm=>h m (by omega)),h k (by omega)]
theorem ZF5(s:St)(c:Nat->UInt8)(j:Nat)(hj:j<25):ZF4 s c 136 j=ZDI s ((J9 136).map c) j:=by
 rw[ZBr,ZDI];by_cases h:j<17
 ·rw[if_pos h]
  have e:JS (136-8*j) 8=8:=by show min _ _=_;omega
  have hl:((((J9 136).map c).drop (8*j)).take 8).length=8:=by rw[J7,U,JF,List.length_range];omega
  rw[e,ZCJ,hl];congr 1
  symm
  refine ZE8 _ _ 8 (fun m hm=>?_);rw[Y,J5 hm,JG,J3,Jj (by omega)];rfl
 ·rw[if_neg h]
  have e:JS (136-8*j) 8=0:=by show min _ _=_;omega
  rw[e,lxK];simp
def cAt(m:List UInt8)(k i:Nat):UInt8:=(if 136*k+i<m.length then m.getD (136*k+i) 0 else if 136*k+i=m.length then 1 else 0)|||(if i=135/\m.length<136*k+136 then 128 else 0)
def Z7d(m:List UInt8):Nat->St
 |0=>ZF6
 |k+1=>Z75 (Z7d m k) ((J9 136).map (cAt m k))
theorem ZFE(m:List UInt8)(k:Nat)(h:136*k+136<=m.length):(J9 136).map (cAt m k)=(m.drop (136*k)).take 136:=by
 apply JU;intro i;by_cases hi:i<136
 ·rw[J3,Jj hi,J5 hi,JG]
  simp only[Option.map_some,cAt];rw[if_pos (by omega),if_neg (by omega),JE (by omega)];simp[Y,show 136*k+i<m.length by omega]
 ·rw[JC (by simp;omega),JC (by simp;omega)]
theorem ZFF(m:List UInt8):(J9 136).map (cAt m (m.length/136))=ZEO (restOf m):=by
 refine List.map_congr_left (fun i hi=>?_);have hi':i<136:=List.mem_range.1 hi;have hl:=Z5T m;simp only[cAt,ZDB]
 have e1:(if i=135/\m.length<136*(m.length/136)+136 then(128:UInt8)else 0)=(if i=135 then 128 else 0):=by
  by_cases h:i=135
  ·rw[if_pos ⟨h,by omega⟩,if_pos h]
  ·rw[if_neg (fun g=>h g.1),if_neg h]
 rw[e1];congr 1;by_cases h1:i<(restOf m).length
 ·rw[if_pos (by omega),if_pos h1,restOf]
  simp only[Y,JG]
 ·rw[if_neg (by omega),if_neg h1]
  by_cases h2:i=(restOf m).length
  ·rw[if_pos (by omega),if_pos h2]
  ·rw[if_neg (by omega),if_neg h2]
theorem ZCW(m:List UInt8):∀k,k<=m.length/136->Z7d m k=ZAn ZF6 m k
 |0,_=>rfl
 |k+1,h=>by rw[Z7d,ZCW m k (by omega),ZFE m k (by omega),ZAn]
theorem ZDE(m:List UInt8):Z7d m (m.length/136+1)=Z4i m:=by
 rw[Z7d,ZCW m _ (J4 _),ZFF,Z4i,ZDN]
end Go.Vcg
end
section
namespace Go.Proofs.YtfghidehlnfdiaaGreat
open Go Go.Vcg
theorem or1(w:Z)(x y:Q1):J6 F (Z0Z .or tU8 x y (.int JM 1) (.int JM 128)) w=Jp (.int JM 129) w:=by rfl
theorem or0(w:Z)(x y:Q1):J6 F (Z0Z .or tU8 x y (.int JM 0) (.int JM 128)) w=Jp (.int JM 128) w:=by rfl
theorem Z7r(b:UInt8):J I (b.toNat:Int)=uI (Z5w b):=by rw[<-ZCj,Z7s]
theorem Z4I{w:Z}{o0:Option Addr}{l0 c0:Nat}(m:List UInt8)(hl:l0=m.length)(hmax:m.length<=2^40)(hr:RdB w o0 m) :
  Jk F Z0v.n #[.slice o0 l0 c0] w (fun e w'=>e=E (JQ (hashA (sumOf m)))/\Vcg.Mod NoB w w'):=by
 subst hl;refine Z0v.vc _ _ _ _ _ ?_;unfold Z0v.Vc;rintro d1 w2⟨rfl,rfl⟩ d3 w4⟨rfl,rfl⟩;have B1:=(Blk.new w tHash (G 32 (.int JM 0))).alloc (V (G 25 (.int I 0)) tLanes);have B3:=Blk.new (w.alloc (V (G 32 (.int JM 0)) tHash)) tLanes (G 25 (.int I 0));have M:=(Mod.alloc (S:=NoB) w (V (G 32 (.int JM 0)) tHash)).step_alloc (V (G 25 (.int I 0)) tLanes);simp only[ZC]at B3 ⊢;generalize(w.alloc (V (G 32 (.int JM 0)) tHash)).alloc (V (G 25 (.int I 0)) tLanes)=w4 at *
 generalize hNe:w.heap.size=N at *
 refine⟨fun n w'=>∃k:Nat,n=((136*k:Nat):Int)/\k<=m.length/136+1/\Vcg.Mod NoB w w'/\Blk w' N tHash (G 32 (.int JM 0))/\Blk w' (N+1) tLanes (lanesA (Z7d m k)),
  fun n _=>((m.length:Int)+136-n).toNat,⟨0,rfl,by omega,M,B1,by rw[Zb]at B3;exact B3⟩,?_⟩
 clear M B1 B3;rintro _ _ w1⟨k,rfl,hk,M,B1,B3⟩;refine⟨fun hle=>?_,fun hgt=>?_⟩
 ·have hk':136*k<=m.length:=by omega
  refine Z4C 136 (fun i w'=>Vcg.Mod NoB w w'/\Blk w' N tHash (G 32 (.int JM 0))/\Blk w' (N+1) tLanes (lanesA (ZF4 (Z7d m k) (cAt m k) i))) rfl ⟨M,B1,B3⟩ ?_ ?_
  ·clear M B1 B3
   rintro i _ w10 hi⟨M,B1,B3⟩;have eI:J B (((136*k:Nat):Int)+(i:Int))=((136*k+i:Nat):Int):=by rw[Z0 (by omega) (by omega)];omega
   have eJ:J B (((136*k:Nat):Int)+136)=((136*k+136:Nat):Int):=by rw[Z0 (by omega) (by omega)];omega
   have eq:J B (Q9 (i:Int) 8)=((i/8:Nat):Int):=by
    rw[JT (by omega),Z0 (by omega) (by omega)];omega
   have es:J B (8*JW (i:Int) 8)=((8*(i%8):Nat):Int):=by
    simp(disch:=omega) only[Z29,Z0];omega
   rw[eI,eJ,eq,es]
   have tail:∀(v:Int),v=uI (Z5w (cAt m k i))->∀w13:Z,ZL w10 w13 ->
     (0<=((i/8:Nat):Int)/\((i/8:Nat):Int)<((25:Nat):Int)) /\
     ∃n14:Int,JV w13 (JY ⟨N+1,0,J0⟩ (JL ((i/8:Nat):Int)))=K (.int I n14) /\
     0<=((8*(i%8):Nat):Int) /\
     (0<=((i/8:Nat):Int)/\((i/8:Nat):Int)<((25:Nat):Int)) /\
     Z1 w13 (JY ⟨N+1,0,J0⟩ (JL ((i/8:Nat):Int))) (.int I (bitsI .xor I n14 (shlI I v ((8*(i%8):Nat):Int)))) /\
     ∀w15:Z,Z8 w13 (JY ⟨N+1,0,J0⟩ (JL ((i/8:Nat):Int))) (.int I (bitsI .xor I n14 (shlI I v ((8*(i%8):Nat):Int)))) w15 ->
     Z7u 136 (fun i w'=>Vcg.Mod NoB w w'/\Blk w' N tHash (G 32 (.int JM 0))/\Blk w' (N+1) tLanes (lanesA (ZF4 (Z7d m k) (cAt m k) i))) (J B ((i:Int)+1)) w15 /\
      Vcg.ZGJ 136 (J B ((i:Int)+1)) w15<Vcg.ZGJ 136 (i:Int) w10:=by
    rintro v rfl _ rfl;refine⟨by omega,_,B3.drew.rd0 (ZV _ (by omega)),by omega,by omega,B3.drew.canSet0 (by rw[ZJ];omega) rfl,fun w15 h15=>?_⟩;rw[h15.at,Z8k,Z0N];refine Z7u.next (by rw[Z0 (by omega) (by omega)];omega) hi ⟨(M.step_drew).step_set (fun h=>by simp only[hNe]at h;omega),B1.drew.set_ne (by simp),?_⟩;have:=B3.drew.set (i/8) (uV (ZF4 (Z7d m k) (cAt m k) i (i/8)^^^(Z5w (cAt m k i)<<<(8*(i%8)))));rw[lanesA,Z0E]at this;refine(show _=lanesA (ZF4 (Z7d m k) (cAt m k) (i+1))from ZF (fun j hj=>?_)) ▸ this;rw[ZF4];by_cases h:j=i/8
    ·simp only[h,if_true]
    ·simp only[h,if_false]
   have c128:∀x:UInt8,J I (bitsI .or JM (x.toNat:Int) 128)=uI (Z5w (x|||128)):=fun x=>by rw[show(128:Int)=((128:UInt8).toNat:Int)from rfl,Z4w,Z7r]
   have z:∀x:UInt8,x|||0=x:=fun x=>by simp
   refine⟨fun hin=>?_,fun hout=>?_⟩
   ·obtain⟨d,rfl,hd⟩:=(hr.mod' M).get (i:=136*k+i) (by omega)
    refine⟨d,rfl,by omega,_,hd,fun h135=>⟨fun hg=>?_,fun hg=>?_⟩,fun h135=>?_⟩
    ·refine tail _ ?_
     rw[c128,cAt,if_pos (by omega),if_pos (by omega)]
    ·refine tail _ ?_
     rw[Z7r,cAt,if_pos (by omega),if_neg (by omega),z]
    ·refine tail _ ?_
     rw[Z7r,cAt,if_pos (by omega),if_neg (by omega),z]
   ·refine⟨fun he=>⟨fun h135=>⟨fun hg=>?_,fun hg=>?_⟩,fun h135=>?_⟩,fun he=>⟨fun h135=>⟨fun hg=>?_,fun hg=>?_⟩,fun h135=>?_⟩⟩
    ·refine⟨_,or1 _ _ _,_,rfl,tail _ ?_⟩
     rw[cAt,if_neg (by omega),if_pos (by omega),if_pos (by omega)];rfl
    ·refine tail _ ?_
     rw[cAt,if_neg (by omega),if_pos (by omega),if_neg (by omega)];rfl
    ·refine tail _ ?_
     rw[cAt,if_neg (by omega),if_pos (by omega),if_neg (by omega)];rfl
    ·refine⟨_,or0 _ _ _,_,rfl,tail _ ?_⟩
     rw[cAt,if_neg (by omega),if_neg (by omega),if_pos (by omega)];rfl
    ·refine tail _ ?_
     rw[cAt,if_neg (by omega),if_neg (by omega),if_neg (by omega)];rfl
    ·refine tail _ ?_
     rw[cAt,if_neg (by omega),if_neg (by omega),if_neg (by omega)];rfl
  ·clear M B1 B3
   rintro _ w10⟨M,B1,B3⟩;rw[ZAF (fun j hj=>ZF5 _ _ j hj)]at B3;refine⟨_,B3.rowAll (ZJ _),(Z6j _ _).mono ?_⟩;rintro _ w11⟨rfl,M11⟩;refine⟨_,rfl,_,(B3.mod' M11).storeAll (L:=lanesA (Z7d m (k+1))) (by rw[ZJ];kernel_rfl) (by rw[ZJ,ZJ]) (Z1N _),⟨k+1,by rw[Z0 (by omega) (by omega)];omega,by omega,(M.none_trans M11).step_row (fun h=>by omega),(B1.mod' M11).row_ne (by omega),(B3.mod' M11).row_same _⟩,?_⟩;dsimp only;rw[Z0 (by omega) (by omega)];omega
 ·obtain rfl:k=m.length/136+1:=by omega
  rw[ZDE]at B3;rintro d49 w50⟨rfl,rfl⟩;have hq:N+1<w1.heap.size:=B3.lt;have B4:=Blk.new w1 tHash (G 32 (.int JM 0))
  replace B1:=B1.alloc (V (G 32 (.int JM 0)) tHash)
  replace B3:=B3.alloc (V (G 32 (.int JM 0)) tHash)
  replace M:=M.step_alloc (V (G 32 (.int JM 0)) tHash)
  generalize w1.alloc (V (G 32 (.int JM 0)) tHash)=w2 at *
  generalize w1.heap.size=T at *
  refine Z4C 32 (fun i w'=>Vcg.Mod NoB w w'/\Blk w' N tHash (G 32 (.int JM 0))/\Blk w' (N+1) tLanes (lanesA (Z4i m))/\Blk w' T tHash (ZP 32 (fun j=>bV (if j<i then Z4G (Z4i m) j else 0)))) rfl
   ⟨M,B1,B3,by rw[Zb]at B4;simp only[JB,if_false];exact B4⟩ ?_ ?_
  ·clear M B1 B3 B4
   rintro i _ w3 hi⟨M,B1,B3,B4⟩
   have eq:J B (Q9 (i:Int) 8)=((i/8:Nat):Int):=by
    rw[JT (by omega),Z0 (by omega) (by omega)];omega
   have es:J B (8*JW (i:Int) 8)=((8*(i%8):Nat):Int):=by
    simp(disch:=omega) only[Z29,Z0];omega
   rw[eq,es];refine⟨by omega,_,B3.rd0 (ZV _ (by omega)),by omega,by omega,B4.canSet0 (by rw[Zt];omega) rfl,fun w15 h15=>?_⟩;rw[h15.at,ZCe _ _ _ rfl,Z6f];refine Z7u.next (by rw[Z0 (by omega) (by omega)];omega) hi ⟨M.step_set (fun h=>by simp only[hNe]at h;omega),B1.set_ne (by simp;omega),B3.set_ne (by simp;omega),?_⟩;have:=B4.set i (bV (Z4G (Z4i m) i));rw[Z0E]at this;refine(show _=ZP 32 (fun j=>bV (if j<i+1 then Z4G (Z4i m) j else 0))from ZF (fun j hj=>?_)) ▸ this;by_cases h:j=i
   ·rw[if_pos h,if_pos (by omega),h]
   ·rw[if_neg h]
    by_cases h2:j<i
    ·rw[if_pos h2,if_pos (by omega)]
    ·rw[if_neg h2,if_neg (by omega)]
  ·clear M B1 B3 B4
   rintro _ w3⟨M,B1,B3,B4⟩;have e:ZP 32 (fun j=>bV (if j<32 then Z4G (Z4i m) j else 0))=hashA (sumOf m):=ZF (fun j hj=>by rw[if_pos hj,Z8N m hj]);rw[e]at B4;exact⟨_,B4.rowAll (ZA _),_,B1.storeAll (L:=hashA (sumOf m)) (by rw[ZA];kernel_rfl) (by rw[ZA,X]) (Z2M _),_,(B1.row_same _).rowAll (ZA _),rfl,M.step_row (fun h=>by omega)⟩
end Go.Proofs.YtfghidehlnfdiaaGreat
end
section
namespace Go.Vcg
section
variable{P:Program}{w:Z}{t e:O}{n:Nat}{k:IntKind}
theorem Z4J(d:Nat)(ht:P.underlying t=K (.array n e))(he:P.underlying e=K (.int k))(hsz:(P.info? e).map (·.size)=K 1)(f g:Nat->Int) :
  (Op.equalIn (d+2) t (JQ (ZP n (fun i=>.int k (f i)))) (JQ (ZP n (fun i=>.int k (g i))))).run P w=Jp (decide (∀i,i<n->f i=g i)) w:=by
 obtain⟨inf,hi1,hi2⟩:=Option.map_eq_some_iff.1 hsz;have hs:∀w,(Q0 e).run P w=Jp 1 w:=fun w=>by simp[Q0,Js,hi1,hi2]
 have hall:decide (∀i,i<n->f i=g i)=((Jo 0 n 1).all fun i=>f i == g i):=by
  rw[Bool.eq_iff_iff];simp only[decide_eq_true_eq,List.all_eq_true,List.mem_range'_1,Jn,true_and,A,beq_iff_eq]
 rw[hall,Op.equalIn];simp only[Ja,run_underlying ht,JD,hs,Std.Legacy.Range.forIn_eq_forIn_range',Std.Legacy.Range.size,Jl,Nat.add_sub_cancel,Nat.div_one];have hl:∀i∈Jo 0 n 1,i<n:=fun i hi=>by simpa using(List.mem_range'_1.1 hi).2
 generalize Jo 0 n 1=l at hl ⊢
 induction l with
 |nil=>simp
 |cons i l ih =>
  have hi:i<n:=hl i (by simp)
  have px:∀h:Nat->Int,(part e (ZP n (fun i=>Q7 k (h i))) (i*1)).run P w=Jp (.int k (h i)) w:=by
   intro h;simp only[JP];simp[part,isAgg,run_underlying he,ZE hi]
  have pe:(Op.equalIn (d+1) e (.int k (f i)) (.int k (g i))).run P w=Jp (f i == g i) w:=run_equalIn_int w d e k k _ _ he;simp only[List.forIn_cons,Ja,px,pe,JD,List.all_cons];cases hb:(f i == g i)
  ·simp
  ·simp only[Bool.not_true,Bool.false_eq_true,if_false,Sem.run_pure,JD,Bool.true_and]
   exact ih fun j hj=>hl j (by simp[hj])
theorem ZEh(ht:P.underlying t=K (.array n e))(he:P.underlying e=K (.int k))(hsz:(P.info? e).map (·.size)=K 1)(hg:P.eqGuardType P.depth t=false)(x y:Q1)(f g:Nat->Int) :
  J6 P (Z0Z .eql t x y (JQ (ZP n (fun i=>.int k (f i)))) (JQ (ZP n (fun i=>.int k (g i))))) w=Jp (.bool (decide (∀i,i<n->f i=g i))) w:=by
 have hgd:(Q2 .eql t x y (JQ (ZP n (fun i=>.int k (f i)))) (JQ (ZP n (fun i=>.int k (g i))))).run P w=Jp () w:=by
  have hpg:∀w,J6 P program w=Jp P w:=fun w=>rfl;simp[Q2,hpg,hg]
 rw[Z0Z,Ja,hgd,JD,run_eql_struct,Z4J 9998 ht he hsz];rfl
theorem ZEi(ht:P.underlying t=K (.array n e))(he:P.underlying e=K (.int k))(hsz:(P.info? e).map (·.size)=K 1)(hg:P.eqGuardType P.depth t=false)(x y:Q1)(f g:Nat->Int) :
  J6 P (Z0Z .neq t x y (JQ (ZP n (fun i=>.int k (f i)))) (JQ (ZP n (fun i=>.int k (g i))))) w=Jp (.bool (!decide (∀i,i<n->f i=g i))) w:=by
 have hgd:(Q2 .neq t x y (JQ (ZP n (fun i=>.int k (f i)))) (JQ (ZP n (fun i=>.int k (g i))))).run P w=Jp () w:=by
  have hpg:∀w,J6 P program w=Jp P w:=fun w=>rfl;simp[Q2,hpg,hg]
 rw[Z0Z,Ja,hgd,JD,run_neq_struct,Z4J 9998 ht he hsz];rfl
end
theorem Z6M{P:Program}{w:Z}{t e:O}{b l c:Nat}{te:O}{cs:Array Value}(ht:P.underlying t=K (.slice e))(he:P.underlying e=K (.int JM))(h:Blk w b te cs) :
  ∃w',J6 P (convert t t (.slice (K ⟨b,0,J0⟩) l c)) w=Jp (.slice (K ⟨b,0,J0⟩) l c) w'/\Mod (·=b) w w'/\∀a,w'.cell? a=w.cell? a:=by
 have hb:w.heap[b]?=K (V cs te (0,0)):=h;refine⟨w.freeze ⟨b,cs.size,J0⟩ 1,?_,?_,?_⟩
 ·have h1:∀w:Z,J6 P (shape b) w=Jp (w.shape? b) w:=fun w=>rfl
  have h2:∀(a:Addr)(n:Nat)(w:Z),J6 P (freeze a n) w=Jp () (w.freeze a n):=fun a n w=>rfl;have h3:w.shape? b=K (te,cs.size):=by simp[World.shape?,hb]
  simp[convert,run_underlying ht,run_underlying he,markStringish,h1,h2,h3]
 ·unfold Q3
  rw[if_neg (by decide)];exact⟨rfl,rfl,rfl,by simp,fun k hk hn=>by simp only[Je];rw[if_neg (fun e=>hn e.symm)]⟩
 ·intro a
  unfold Q3;rw[if_neg (by decide)];simp only[JV,Je];by_cases ha:b=a.block
  ·rw[if_pos ha,<-ha,hb];rfl
  ·rw[if_neg ha]
end Go.Vcg
end
section
namespace Go.Vcg
open Go
theorem Z6o{α β:Type}{f:α->Option β}:∀{l:List α} {ys:List β},l.mapM f=K ys->∀x∈l,∃y,f x=K y
 |[],_,_,x,hx=>by cases hx
 |a::l,ys,h,x,hx=>by
  rw[Jt]at h;cases ha:f a with
  |none=>simp[ha]at h
  |some b =>
   cases hl:l.mapM f with
   |none=>simp[ha,hl]at h
   |some bs =>
    rcases List.mem_cons.1 hx with rfl|hx
    ·exact⟨b,ha⟩
    ·exact Z6o hl x hx
section
variable{H:Type}{enc:O×Value->H}{P:Program}{W:Z}{sp:Nat->Bool}{held:Bool}{b0 base:Nat}{r:Reach}
theorem Z6R{t e:O}{n:Nat}{k:IntKind}{v:Value}{d:DataW H}{ps:List Ju}(ht:P.underlying t=K (.array n e))(he:P.underlying e=K (.int k))(hce:P.cellsOf e=1)(hct:P.cellsOf t=n)
  (hv:Q4 P W r b0 t v) (hd:DataW.Trod enc P W base sp held t v d ps):∃f:Nat->Int,v=JQ (ZP n (fun i=>.int k (f i)))/\∀i,i<n->(Lit.int k (f i)).wf=true:=by
 unfold Q4 at hv;rw[ht]at hv;obtain⟨cs,rfl,hcs,_⟩:=hv;rw[hct]at hcs;obtain⟨fuel,hf⟩:=hd;cases fuel with
 |zero=>simp[J1]at hf
 |succ fuel =>
  simp only[J1,ht,Value.cells]at hf;rw[if_pos (by simp[hcs,hct])]at hf;obtain⟨ys,hy,_⟩:=Option.map_eq_some_iff.1 hf
  have hall:∀i,i<n->∃m,cs[i]?=K (.int k m)/\(Lit.int k m).wf=true:=by
   intro i hi;obtain⟨y,h1⟩:=Z6o hy i (List.mem_range.2 hi)
   have h2:(cs.toList.drop (i*1)).take 1=[cs[i]]:=by
    rw[JP,List.drop_eq_getElem_cons (by simp;omega)];simp
   rw[hce,h2]at h1;cases fuel with
   |zero=>simp[J1]at h1
   |succ fuel =>
    simp only[J1,he]at h1;generalize hc:cs[i]=c at h1;cases c with
    |int k' m =>
     simp only at h1;split at h1
     ·rename_i hk
      obtain⟨rfl,hw⟩:=hk;exact⟨m,by rw[Array.getElem?_eq_getElem (by omega),hc],hw⟩
     ·cases h1
    |_=>simp at h1
  refine⟨fun i=>match cs[i]? with|some (.int _ m)=>m|_=>0,?_,?_⟩
  ·congr 1
   refine Z91 hcs (fun i hi=>?_);obtain⟨m,hm,_⟩:=hall i hi;simp only[hm]
  ·intro i hi
   obtain⟨m,hm,hw⟩:=hall i hi;simp only[hm];exact hw
end
section
variable{H:Type}{enc:O×Value->H}{P:Program}{W:Z}{sp:Nat->Bool}{held:Bool}{base:Nat}
theorem Z4z{a:Addr}{vs:List Value}(h:W.cells? base a 1=K vs):∃v,vs=[v]/\W.cell? a=K v:=by
 unfold World.cells? at h;split at h
 ·simp only[List.range_one,Jt,List.mapM_nil]at h
  have e:a.add 0=a:=by simp[JY]
  rw[e]at h;cases hc:W.cell? a with
  |none=>simp[hc]at h
  |some v=>simp[hc]at h;exact⟨v,h.symm,rfl⟩
 ·cases h
theorem Z8o{fuel:Nat}{t e:O}{v:Value}{d:DataW H}{ps:List Ju}(ht:P.underlying t=K (.slice e))(hce:P.cellsOf e=1)
  (h:J1 enc P W base sp held fuel t [v]=K (d,ps)) :
  ∃o l c,v=.slice o l c/\l<=c/\c<=Jf/\∀i,i<l->∃b f u d' ps' fuel',o=K ⟨b,f,J0⟩/\b<W.heap.size/\W.cell? ⟨b,f+i,J0⟩=K u/\J1 enc P W base sp held fuel' e [u]=K (d',ps'):=by
 cases fuel with
 |zero=>simp[J1]at h
 |succ fuel =>
  cases v with
  |slice o l c =>
   cases o with
   |none =>
    have:l=0/\c=0:=by
     rcases l with _|l<;>rcases c with _|c<;>simp[J1,ht]at h ⊢
    obtain⟨rfl,rfl⟩:=this;exact⟨J0,0,0,rfl,J4 _,Jn _,fun i hi=>(JB _ hi).elim⟩
   |some a =>
    simp only[J1,ht,hce,JP]at h;split at h
    ·rename_i hc
     refine⟨K a,l,c,rfl,hc.2.1,hc.2.2,fun i hi=>?_⟩;obtain⟨els,hm,_⟩:=Option.bind_eq_some_iff.1 h;obtain⟨y,hy⟩:=Z6o hm i (List.mem_range.2 hi);obtain⟨vs,hv,hd⟩:=Option.bind_eq_some_iff.1 hy;obtain⟨u,rfl,hu⟩:=Z4z hv;obtain⟨y0,hy0⟩:=Z6o hm 0 (List.mem_range.2 (by omega));obtain⟨vs0,hv0,_⟩:=Option.bind_eq_some_iff.1 hy0;obtain⟨u0,_,hu0⟩:=Z4z hv0
     have hspot:a.spot=J0:=by
      have e:a.add 0=a:=by simp[JY]
      rw[e]at hu0;unfold JV at hu0;cases hs:a.spot with
      |none=>rfl
      |some x =>
       rw[hs]at hu0;split at hu0<;>simp at hu0
     obtain⟨b,f,spot⟩:=a;simp only at hspot;subst hspot;rw[Z6]at hu;refine⟨b,f,u,y.1,y.2,fuel,rfl,?_,hu,hd⟩;unfold JV at hu;split at hu
     ·rename_i hb;exact(Array.getElem?_eq_some_iff.1 hb).1
     ·cases hu
    ·cases h
  |_=>simp[J1,ht]at h
theorem ZGm{fuel:Nat}{e:O}{u:Value}{d:DataW H}{ps:List Ju}(he:P.underlying e=K (.int JM))(h:J1 enc P W base sp held fuel e [u]=K (d,ps)):∃x:UInt8,u=bV x:=by
 cases fuel with
 |zero=>simp[J1]at h
 |succ fuel =>
  simp only[J1,he]at h;cases u with
  |int k m =>
   simp only at h;split at h
   ·rename_i hk
    obtain⟨rfl,hw⟩:=hk;simp only[Lit.wf,Bool.and_eq_true,decide_eq_true_eq]at hw;have h1:IntKind.min JM=0:=by decide
    have h2:IntKind.max JM=255:=by decide
    refine⟨UInt8.ofNat m.toNat,?_⟩
    have:((UInt8.ofNat m.toNat).toNat:Int)=m:=by
     rw[UInt8.toNat_ofNat'];omega
    rw[bV,this]
   ·cases h
  |_=>simp at h
theorem ZDG{fuel:Nat}{t e:O}{v:Value}{d:DataW H}{ps:List Ju}(ht:P.underlying t=K (.slice e))(he:P.underlying e=K (.int JM))(hce:P.cellsOf e=1)
  (h:J1 enc P W base sp held fuel t [v]=K (d,ps)):∃o c bs,v=.slice o bs.length c/\bs.length<=c/\c<=Jf/\RdB W o bs:=by
 obtain⟨o,l,c,rfl,hlc,hcm,hall⟩:=Z8o ht hce h
 have hx:∀i,∃x:UInt8,i<l->∃b f,o=K ⟨b,f,J0⟩/\b<W.heap.size/\W.cell? ⟨b,f+i,J0⟩=K (bV x):=fun i=>by
  by_cases hi:i<l
  ·obtain⟨b,f,u,d',ps',fuel',ho,hb,hu,hd⟩:=hall i hi
   obtain⟨x,rfl⟩:=ZGm he hd;exact⟨x,fun _=>⟨b,f,ho,hb,hu⟩⟩
  ·exact⟨0,fun h=>(hi h).elim⟩
 have hl:((J9 l).map (fun i=>Classical.choose (hx i))).length=l:=by simp
 refine⟨o,c,(J9 l).map (fun i=>Classical.choose (hx i)),by rw[hl],by rw[hl];exact hlc,hcm,fun hne=>?_⟩;have hl0:0<l:=by rw[<-hl];exact List.length_pos_iff.2 hne
 obtain⟨b,f,ho,hb,_⟩:=Classical.choose_spec (hx 0) hl0;subst ho;refine⟨b,f,rfl,hb,fun i hi=>?_⟩;rw[hl]at hi;obtain⟨b',f',ho,hb',hc⟩:=Classical.choose_spec (hx i) hi;cases ho;rw[hc];simp[Y,hi]
end
end Go.Vcg
end
section
namespace Go.Vcg
section
variable{C:Type}
structure Stp (S:C->Prop) (w:Z) (la:Nat->C) (w':Z) (la':Nat->C):Prop where
 os:w'.os=w.os
 tape:w'.tape=w.tape
 output:w'.output=w.output
 size:w.heap.size<=w'.heap.size
 lab:∀k,k<w.heap.size->la' k=la k
 block:∀k,k<w.heap.size->¬S (la k)->w'.heap[k]?=w.heap[k]?
def ext(lab:Nat->C)(n:Nat)(c:C):Nat->C:=fun k=>if k<n then lab k else c
theorem Z23{lab:Nat->C}{n k:Nat}{c:C}(h:k<n):ext lab n c k=lab k:=if_pos h
theorem ext_new{lab:Nat->C}{n k:Nat}{c:C}(h:n<=k):ext lab n c k=c:=if_neg (by omega)
variable{S T:C->Prop}{w w' w'':Z}{lab lab' lab'':Nat->C}
theorem Stp.refl(S:C->Prop)(w:Z)(lab:Nat->C):Stp S w lab w lab:=⟨rfl,rfl,rfl,J4 _,fun _ _=>rfl,fun _ _ _=>rfl⟩
theorem Stp.trans(h:Stp S w lab w' lab')(k:Stp S w' lab' w'' lab''):Stp S w lab w'' lab'' :=
 ⟨k.os.trans h.os,k.tape.trans h.tape,k.output.trans h.output,Nat.le_trans h.size k.size,
  fun i hi=>(k.lab i (J8 hi h.size)).trans (h.lab i hi),
  fun i hi hn=>(k.block i (J8 hi h.size) (by rw[h.lab i hi];exact hn)).trans (h.block i hi hn)⟩
theorem Stp.mono(h:Stp S w lab w' lab')(hs:∀c,S c->T c):Stp T w lab w' lab' :=
 ⟨h.os,h.tape,h.output,h.size,h.lab,fun i hi hn=>h.block i hi (fun k=>hn (hs _ k))⟩
theorem Stp.of_mod{Q:Nat->Prop}(h:Mod Q w w')(c:C)(hq:∀k,k<w.heap.size->Q k->S (lab k)):Stp S w lab w' (ext lab w.heap.size c) :=
 ⟨h.os,h.tape,h.output,h.size,fun _ hi=>Z23 hi,fun i hi hn=>h.block i hi (fun q=>hn (hq i hi q))⟩
theorem Stp.of_nob(h:Mod NoB w w')(c:C):Stp S w lab w' (ext lab w.heap.size c):=Stp.of_mod h c (fun _ _ h=>h.elim)
theorem Stp.drew(S:C->Prop)(w:Z)(lab:Nat->C):Stp S w lab w.drew lab:=⟨rfl,rfl,rfl,J4 _,fun _ _=>rfl,fun _ _ _=>rfl⟩
theorem Stp.alloc(S:C->Prop)(w:Z)(lab:Nat->C)(o:Obj)(c:C):Stp S w lab (w.alloc o) (ext lab w.heap.size c):=Stp.of_nob (Mod.alloc w o) c
theorem Stp.setCell{a:Addr}{v:Value}(hs:S (lab a.block)):Stp S w lab (w.setCell a v) lab :=
 ⟨rfl,rfl,rfl,by simp[World.setCell],fun _ _=>rfl,fun k _ hn=>heap_setCell_other w a k v (fun e=>hn (e ▸ hs))⟩
theorem Stp.mod{Q:Nat->Prop}(h:Stp S w lab w' lab')(hq:∀k,k<w.heap.size->S (lab k)->Q k):Mod Q w w' :=
 ⟨h.os,h.tape,h.output,h.size,fun k hk hn=>h.block k hk (fun s=>hn (hq k hk s))⟩
theorem Stp.nob(h:Stp S w lab w' lab')(hq:∀k,k<w.heap.size->¬S (lab k)):Mod NoB w w':=h.mod (fun k hk s=>(hq k hk s).elim)
structure CB (w:Z) (lab:Nat->C) (c:C) (b:Nat) (t:O) (cs:Array Value):Prop where
 blk:Blk w b t cs
 clr:lab b=c
variable{c:C}{b:Nat}{t:O}{cs:Array Value}
theorem CB.stp(h:CB w lab c b t cs)(m:Stp S w lab w' lab')(hs:¬S c):CB w' lab' c b t cs :=
 ⟨(m.block b h.blk.lt (by rw[h.clr];exact hs)).trans h.blk,(m.lab b h.blk.lt).trans h.clr⟩
theorem CB.new(w:Z)(lab:Nat->C)(c:C)(t:O)(cs:Array Value):CB (w.alloc (V cs t)) (ext lab w.heap.size c) c w.heap.size t cs:=⟨Blk.new w t cs,ext_new (J4 _)⟩
theorem CB.set(h:CB w lab c b t cs)(i:Nat)(v:Value):CB (w.setCell ⟨b,i,J0⟩ v) lab c b t (cs.setIfInBounds i v):=⟨h.blk.set i v,h.clr⟩
structure CBy (w:Z) (lab:Nat->C) (c:C) (o:Option Addr) (bs:List UInt8):Prop where
 rd:RdB w o bs
 clr:bs≠[]->∀d,o=K d->lab d.block=c
variable{o:Option Addr}{bs:List UInt8}
theorem CBy.stp(h:CBy w lab c o bs)(m:Stp S w lab w' lab')(hs:¬S c):CBy w' lab' c o bs:=by
 refine⟨fun hne=>?_,fun hne d hd=>?_⟩
 ·obtain⟨b,f,rfl,hb,hc⟩:=h.rd hne
  have hl:=h.clr hne _ rfl;refine⟨b,f,rfl,J8 hb m.size,fun i hi=>?_⟩;exact(JN (m.block b hb (by rw[hl];exact hs))).trans (hc i hi)
 ·obtain⟨b,f,rfl,hb,_⟩:=h.rd hne
  cases hd;exact(m.lab b hb).trans (h.clr hne _ rfl)
theorem CBy.nil(w:Z)(lab:Nat->C)(c:C)(o:Option Addr):CBy w lab c o []:=⟨fun h=>(h rfl).elim,fun h=>(h rfl).elim⟩
theorem CBy.sub{cap lo n:Nat}(h:CBy w lab c o bs)(hc:bs.length<=cap):CBy w lab c (subO o cap lo 1) ((bs.drop lo).take n):=by
 refine⟨h.rd.sub hc,fun hne d hd=>?_⟩;have hb:bs≠[]:=fun e=>hne (by rw[e];simp);obtain⟨b,f,rfl,_,_⟩:=h.rd hb;have:=h.clr hb _ rfl;rw[subO]at hd;split at hd
 ·cases hd;exact this
 ·simp at hd;subst hd;exact this
structure COw (w:Z) (lab:Nat->C) (c:C) (e:O) (sz:Nat) (o:Option Addr) (l cap:Nat) (xs:List Value):Prop where
 own:Own w e sz o l cap xs
 clr:∀k,OB o k->lab k=c
variable{e:O}{sz l cap:Nat}{xs:List Value}
theorem COw.nil(w:Z)(lab:Nat->C)(c:C)(e:O)(sz:Nat):COw w lab c e sz J0 0 0 []:=⟨Own.nil w e sz,fun k h=>(Z3z k h).elim⟩
theorem COw.stp(h:COw w lab c e sz o l cap xs)(m:Stp S w lab w' lab')(hs:¬S c):COw w' lab' c e sz o l cap xs:=by
 have hl:∀k,OB o k->k<w.heap.size:=fun k hk=>h.own.lt hk;refine⟨?_,fun k hk=>(m.lab k (hl k hk)).trans (h.clr k hk)⟩;have hm:Mod (fun k=>S (lab k)) w w':=m.mod (fun _ _ s=>s);exact h.own.mod hm (fun k hk s=>hs (by rw[<-h.clr k hk];exact s))
theorem COw.append{P:Program}{t tx ty:O}{i:TypeInfo}{z:Value}{x:Value}{n:Nat}{news:List Value}
  (ht:P.underlying t=K (.slice e)) (hi:P.info? e=K i) (hz:i.zero=K z) (hs:i.size=sz) (hzs:z.cells.size=sz)
  (h:COw w lab c e sz o l cap xs) (src:Src P sz tx x n news w) (h63:l+n<=Jf) (hb:(l+n)*i.bytes<=140737488355328) :
  ∃o' c' w',J6 P (builtinV Q6 #[t,tx] ty #[.slice o l cap,x]) w=Jp (.slice o' (l+n) c') w' /\
   COw w' (ext lab w.heap.size c) c e sz o' (l+n) c' (xs++news)/\Stp (·=c) w lab w' (ext lab w.heap.size c):=by
 obtain⟨o',c',w',h1,h2,h3,h4⟩:=Z3I (ty:=ty) ht hi hz hs hzs h.own src h63 hb;refine⟨o',c',w',h1,⟨h2,fun k hk=>?_⟩,Stp.of_mod h3 c (fun k _ hk=>h.clr k hk)⟩;by_cases hl:k<w.heap.size
 ·rw[Z23 hl]
  rcases h4 k hk with h5|h5
  ·exact h.clr k h5
  ·omega
 ·exact ext_new (by omega)
end
end Go.Vcg
end
