/- Contract: the document's permutation. -/
/- Slices of bytes that are read. -/
/- Slices that the code itself made: appended to, copied into. -/
/- Contracts: words out of bytes, one block absorbed. -/
/- The numbers of the types that the texts below name. -/
/- Contracts: the sponge. -/
/- Contract: Write. -/
/- Contracts: Little; the hash out of a sponge. -/
/- Contracts: the program's hash of lists. -/
/- The document's sponge is ours. -/
/- Contract: the document's hash. -/
/- Equality of arrays of numbers. -/
/- Arguments: what a reading tells of the value. -/
/- Coloured heaps: each block has a colour, and a step says which colours it may change. -/
/- Maps: what a map's block holds, read, written, gone through. -/
import Derived.Test.YtfghidehlnfdiaaGreatKC3
import Derived.Laws.StructEq
import Derived.ProofKit
import Derived.OpenShut
import Derived.ShutString
import Derived.ChangeOld
import Derived.Below
import Derived.Carry
import Derived.Maps.Range
import Derived.DeepKeys4
import Derived.StringKeys
set_option linter.unusedVariables false
set_option linter.unusedSimpArgs false
open Array renaming getElem?_modify->JU,getElem?_toList->J8,replicate->G,size_replicate->B
open BitVec renaming getLsbD_or->Q2,toNat_setWidth->Jq,xor_assoc->Jj
open Go renaming Calls->Q0,MapEntry->QJ,MemPlace->QI,Operand->QF,TypeId->F,Value->O,World->Z,eqGuard->QG,maxLen->Jr,run_firstCells_none->Jw,run_firstCells_some->Jb,sizeOf->QE,typeInfo->Q7
open Go.Addr renaming add->Jk
open Go.Builtin renaming append->QM,copy_->QB,firstCells->JR,lenOf->QC
open Go.DataW renaming trod->JH
open Go.Ending renaming returned->J4
open Go.IntKind renaming bits->QD,i64->J2,u64->D,u8->JW,wrap->J
open Go.MapKept renaming heap_set->QK,run_getObj_map->JI,run_setObj_map->Jn
open Go.Obj renaming cells->X
open Go.Proofs.Tryz renaming prog->J1
open Go.Result renaming andThen->Jf,andThen_ok->JL,ok->Jy
open Go.Sem renaming run->JB,run_bind->Jm
open Go.Value renaming agg->Jc,int->QN,pointer->Jt
open Go.World renaming cell?->Jh,cell?_of_block->JX,freeze->QH,frozen?->QA
open Int renaming tdiv->QP,tdiv_eq_ediv_of_nonneg->Je,tmod->Ji,toNat->JV,toNat_natCast->J3
open List renaming drop_append_of_le_length->JY,drop_drop->Q6,eq_nil_of_length_eq_zero->J7,ext_getElem?->JT,getD_eq_getElem?_getD->Y,getElem?_cons_succ->Jl,getElem?_drop->JO,getElem?_eq_getElem->JM,getElem?_eq_none->JK,getElem?_map->I,getElem?_range->Jx,getElem?_take->JQ,getElem?_take_of_lt->JA,length_append->JP,length_drop->J0,length_map->JN,length_take->JD,mapM_cons->Q8,map_append->Ja,mem_cons_of_mem->Ju,mem_cons_self->Jz,mem_map_of_mem->JC,mem_of_getElem?->Jv,nil_append->Jp,nodup_cons->Q5,range->JF,range'->Q4,take->QO,take_of_length_le->JG
open Nat renaming add_assoc->Q9,add_mul->Js,le_refl->J9,lt_of_lt_of_le->JE,min->Jd,min_eq_left->Jo,mod_lt->QL,mul_one->Jg,not_lt_zero->JJ,sub_zero->Q1,zero_add->J6,zero_le->Q3
open Option renaming map_eq_some_iff->JS,none->J5,some->U
open Prod renaming fst->JZ
section
namespace Go.Proofs.YtfghidehlnfdiaaGreat
open Go Go.Vcg
theorem ZFs(s:St)(x:Nat):par s x=s x^^^s (x+5)^^^s (x+10)^^^s (x+15)^^^s (x+20):=by
 simp[par,ZCK]
theorem Z63(w:Z)(s:St) :
  Q0 J1 Zt.n #[Jc (lanesA s)] w (fun e w'=>e=J4 (Jc (lanesA (Z5T s)))/\Vcg.Mod NoB w w'):=by
 refine Zt.vc _ _ _ ?_;unfold Zt.Vc;rintro d1 w2⟨rfl,rfl⟩ d3 w4⟨rfl,rfl⟩ d5 w6⟨rfl,rfl⟩;have B1:=((Blk.new w 149 (lanesA s)).alloc (X (G 25 (.int D 0)) 149)).alloc (X (G 25 (.int J2 0)) 169);have B3:=(Blk.new (w.alloc (X (lanesA s) 149)) 149 (G 25 (.int D 0))).alloc (X (G 25 (.int J2 0)) 169);have B5:=Blk.new ((w.alloc (X (lanesA s) 149)).alloc (X (G 25 (.int D 0)) 149)) 169 (G 25 (.int J2 0));have M:=((Mod.alloc (S:=NoB) w (X (lanesA s) 149)).step_alloc (X (G 25 (.int D 0)) 149)).step_alloc (X (G 25 (.int J2 0)) 169);simp only[Z6]at B3 B5 ⊢;generalize((w.alloc (X (lanesA s) 149)).alloc (X (G 25 (.int D 0)) 149)).alloc (X (G 25 (.int J2 0)) 169)=w6 at *
 generalize hNe:w.heap.size=N at *
 refine⟨_,B5.storeAll (L:=G 25 (.int J2 0)) (by rw[B];kernel_rfl) (by rw[B]) (by rw[ZS];exact Z2U (fun _=>rfl)),?_⟩
 replace B1:=B1.row_ne (g:=N+1+1) (c:=G 25 (.int J2 0)) (by omega)
 replace B3:=B3.row_ne (g:=N+1+1) (c:=G 25 (.int J2 0)) (by omega)
 replace B5:=B5.row_same (G 25 (.int J2 0))
 replace M:=M.step_row (g:=N+1+1) (cs:=G 25 (.int J2 0)) (fun h=>by omega)
 generalize w6.setRow (N+1+1) (G 25 (.int J2 0))=w7 at *
 refine⟨fun n5 n6 n7 w'=>∃t:Nat,n7=t/\t<=24/\n5=((Z7H t).1:Nat)/\n6=((Z7H t).2:Nat)/\Vcg.Mod NoB w w'/\Blk w' N 149 (lanesA s)/\Blk w' (N+1) 149 (G 25 (.int D 0)) /\
  Blk w' (N+1+1) 169 (ZH 25 (fun i=>.int J2 (tarr t i:Int))),fun _ _ n _=>(24-n).toNat,⟨0,rfl,by omega,rfl,rfl,M,B1,B3,by rw[ZS]at B5;exact B5⟩,?_⟩
 clear M B1 B3 B5;rintro _ _ _ _ w4⟨t,rfl,ht,rfl,rfl,M,B1,B3,B5⟩;refine⟨fun hlt=>?_,fun hge=>?_⟩
 ·have hxy:=ZG2 t (by omega)
  have ei:J J2 (((Z7H t).1:Int)+J J2 (5*((Z7H t).2:Int)))=(((Z7H t).1+5*(Z7H t).2:Nat):Int):=by
   simp(disch:=omega) only[Z0];omega
  rw[ei];refine⟨by omega,B5.canSet0 (by simp;omega) rfl,fun w5 h5=>?_⟩;rw[h5.at];refine⟨⟨t+1,by rw[Z0 (by omega) (by omega)];omega,by omega,rfl,?_,M.step_set (fun h=>by simp only[hNe]at h;omega),B1.set_ne (by simp;omega),B3.set_ne (by simp),?_⟩,?_⟩
  ·simp only[Z7H]
   simp(disch:=omega) only[Z1u,Z0];omega
  ·have:=B5.set ((Z7H t).1+5*(Z7H t).2) (.int J2 ((((t+1)*(t+2)/2%64:Nat)):Int))
   rw[Z01]at this;rw[ZBp t (by omega)];refine(Z7 (fun j hj=>?_)) ▸ this;rw[tarr];dsimp only;split<;>rfl
  ·dsimp only
   rw[Z0 (n:=(t:Int)+1) (by omega) (by omega)];omega
 obtain rfl:t=24:=by omega
 have e:(ZH 25 fun i=>QN J2 (tarr 24 i:Int))=turnA:=Z7 (fun j hj=>by rw[ZBo j hj]);rw[e]at B5;clear e
 refine⟨fun n15 n16 w'=>∃r:Nat,n16=r/\r<=24/\n15=(regOf (7*r):Nat)/\Vcg.Mod NoB w w'/\Blk w' N 149 (lanesA (ZDP r s))/\Blk w' (N+1) 149 (G 25 (.int D 0)) /\
  Blk w' (N+1+1) 169 turnA,fun _ n _=>(24-n).toNat,⟨0,rfl,by omega,rfl,M,B1,B3,B5⟩,?_⟩
 clear M B1 B3 B5;rintro _ _ _ w1⟨r,rfl,hr,rfl,M,B1,B3,B5⟩;refine⟨fun hlt=>?_,fun hge=>?_⟩
 ·rintro d18 w19⟨rfl,rfl⟩
  have hq:N+1+1<w1.heap.size:=B5.lt;have B7:=Blk.new w1 181 #[(.int D 0),(.int D 0),(.int D 0),(.int D 0),(.int D 0)]
  replace B1:=B1.alloc (X #[(.int D 0),(.int D 0),(.int D 0),(.int D 0),(.int D 0)] 181)
  replace B3:=B3.alloc (X #[(.int D 0),(.int D 0),(.int D 0),(.int D 0),(.int D 0)] 181)
  replace B5:=B5.alloc (X #[(.int D 0),(.int D 0),(.int D 0),(.int D 0),(.int D 0)] 181)
  replace M:=M.step_alloc (X #[(.int D 0),(.int D 0),(.int D 0),(.int D 0),(.int D 0)] 181)
  generalize w1.alloc (X #[(.int D 0),(.int D 0),(.int D 0),(.int D 0),(.int D 0)] 181)=w2 at *
  generalize w1.heap.size=Q at *
  generalize hs':ZDP r s=s' at *
  have e5:#[(.int D 0),(.int D 0),(.int D 0),(.int D 0),(.int D 0)]=ZH 5 (fun i=>uV (if i<0 then par s' i else 0)):=by rfl
  rw[e5]at B7;clear e5
  refine Z3n 5 (fun x w'=>Vcg.Mod NoB w w'/\Blk w' N 149 (lanesA s')/\Blk w' (N+1) 149 (G 25 (.int D 0))/\Blk w' (N+1+1) 169 turnA /\
   Blk w' Q 181 (ZH 5 (fun i=>uV (if i<x then par s' i else 0)))) rfl ⟨M,B1,B3,B5,B7⟩ ?_ ?_
  ·clear M B1 B3 B5 B7
   rintro x _ w3 hx⟨M,B1,B3,B5,B7⟩;rintro _ rfl;have e5:J J2 ((x:Int)+5)=((x+5:Nat):Int):=by rw[Z0 (by omega) (by omega)];omega
   have e10:J J2 ((x:Int)+10)=((x+10:Nat):Int):=by rw[Z0 (by omega) (by omega)];omega
   have e15:J J2 ((x:Int)+15)=((x+15:Nat):Int):=by rw[Z0 (by omega) (by omega)];omega
   have e20:J J2 ((x:Int)+20)=((x+20:Nat):Int):=by rw[Z0 (by omega) (by omega)];omega
   rw[e5,e10,e15,e20];clear e5 e10 e15 e20;refine⟨by omega,_,B1.drew.rd0 (ZL _ (by omega)),by omega,_,B1.drew.rd0 (ZL _ (by omega)),by omega,_,B1.drew.rd0 (ZL _ (by omega)),by omega,_,B1.drew.rd0 (ZL _ (by omega)),by omega,_,B1.drew.rd0 (ZL _ (by omega)),by omega,B7.drew.canSet0 (by simp;omega) rfl,fun w4 h4=>?_⟩;rw[h4.at,Z0B,Z0B,Z0B,Z0B,<-ZFs];refine Z7I.next (by rw[Z0 (by omega) (by omega)];omega) hx ⟨(M.step_drew).step_set (fun h=>by simp only[hNe]at h;omega),B1.drew.set_ne (by simp;omega),B3.drew.set_ne (by simp;omega),B5.drew.set_ne (by simp;omega),?_⟩;have:=B7.drew.set x (uV (par s' x));rw[Z01]at this;refine(Z7 (fun j hj=>?_)) ▸ this
   grind
  clear M B1 B3 B5 B7;rintro _ w3⟨M,B1,B3,B5,B7⟩ d30 w31⟨rfl,rfl⟩;have hq2:Q<w3.heap.size:=B7.lt;have B8:=Blk.new w3 149 (G 25 (.int D 0))
  replace B1:=B1.alloc (X (G 25 (.int D 0)) 149)
  replace B3:=B3.alloc (X (G 25 (.int D 0)) 149)
  replace B5:=B5.alloc (X (G 25 (.int D 0)) 149)
  replace B7:=B7.alloc (X (G 25 (.int D 0)) 149)
  replace M:=M.step_alloc (X (G 25 (.int D 0)) 149)
  have e7:ZH 5 (fun i=>uV (if i<5 then par s' i else 0))=ZH 5 (fun i=>uV (par s' i)):=Z7 (fun i hi=>by rw[if_pos hi]);rw[e7]at B7;clear e7;generalize w3.alloc (X (G 25 (.int D 0)) 149)=w4 at *
  generalize w3.heap.size=T at *
  refine Z3n 5 (fun x w'=>Vcg.Mod NoB w w'/\Blk w' N 149 (lanesA s')/\Blk w' (N+1) 149 (G 25 (.int D 0))/\Blk w' (N+1+1) 169 turnA /\
   Blk w' Q 181 (ZH 5 (fun i=>uV (par s' i)))/\Blk w' T 149 (ZH 25 (fun j=>uV (if(j%5+3*(j/5))%5<x then bbK s' j else 0)))) rfl
   ⟨M,B1,B3,B5,B7,by rw[ZS]at B8;simp only[JJ,if_false];exact B8⟩ ?_ ?_
  ·clear M B1 B3 B5 B7 B8
   rintro x _ w5 hx⟨M,B1,B3,B5,B7,B8⟩
   refine Z3n 5 (fun k w'=>Vcg.Mod NoB w w'/\Blk w' N 149 (lanesA s')/\Blk w' (N+1) 149 (G 25 (.int D 0))/\Blk w' (N+1+1) 169 turnA /\
    Blk w' Q 181 (ZH 5 (fun i=>uV (par s' i)))/\Blk w' T 149 (ZH 25 (fun j=>uV (if(j%5+3*(j/5))%5<x\/(j%5+3*(j/5))%5=x/\j%5<k then bbK s' j else 0)))) rfl
    ⟨M,B1,B3,B5,B7,by simpa using B8⟩ ?_ ?_
   ·clear M B1 B3 B5 B7 B8
    rintro k _ w5 hk⟨M,B1,B3,B5,B7,B8⟩;rintro _ rfl;have c3:=ZEU x hx k hk;have a1:J J2 ((x:Int)+J J2 (5*(k:Int)))=((x+5*k:Nat):Int):=by simp(disch:=omega) only[Z0];omega
    have a2:Ji (J J2 ((x:Int)+4)) 5=(((x+4)%5:Nat):Int):=by simp(disch:=omega) only[Z1u,Z0];omega
    have a3:Ji (J J2 ((x:Int)+1)) 5=(((x+1)%5:Nat):Int):=by simp(disch:=omega) only[Z1u,Z0];omega
    have a4:J J2 ((k:Int)+J J2 (5*Ji (J J2 (J J2 (2*(x:Int))+J J2 (3*(k:Int)))) 5))=((k%5+5*((2*x+3*k)%5):Nat):Int):=by
     simp(disch:=omega) only[Z1u,Z0];omega
    rw[a1,a2,a3,a4];clear a1 a2 a3 a4;have l1:(x+4)%5<5:=QL _ (by decide);have l2:(x+1)%5<5:=QL _ (by decide);refine⟨by omega,_,B1.drew.rd0 (ZL _ (by omega)),by omega,_,B7.drew.rd0 (Z8 l1),by omega,_,B7.drew.rd0 (Z8 l2),Z7r _ 1 rfl rfl (by omega) fun w6 M6 E6=>⟨_,rfl,(B7.drew.mod' M6).rd0 (Z8 l1),(B1.drew.mod' M6).rd0 (ZL _ (by omega)),by omega,_,(B5.drew.mod' M6).rd0 (Z8 (by omega)),?_⟩⟩;rw[Z0B,Z0B];refine Z7r _ (turnOf (x+5*k)) rfl rfl (Z9v _) fun w7 M7 E7=>⟨_,rfl,by omega,((B8.drew.mod' M6).mod' M7).canSet0 (by simp;omega) rfl,fun w8 h8=>?_⟩;rw[h8.at];refine Z7I.next (by rw[Z0 (by omega) (by omega)];omega) hk ⟨(((M.step_drew).none_trans M6).none_trans M7).step_set (fun h=>by simp only[hNe]at h;omega),((B1.drew.mod' M6).mod' M7).set_ne (by simp;omega),((B3.drew.mod' M6).mod' M7).set_ne (by simp;omega),((B5.drew.mod' M6).mod' M7).set_ne (by simp;omega),((B7.drew.mod' M6).mod' M7).set_ne (by simp;omega),?_⟩;have:=((B8.drew.mod' M6).mod' M7).set (k%5+5*((2*x+3*k)%5)) (uV ((s' (x+5*k)^^^par s' ((x+4)%5)^^^(par s' ((x+1)%5)).rotateLeft 1).rotateLeft (turnOf (x+5*k))));rw[Z01]at this;refine(Z7 (fun j hj=>?_)) ▸ this
    have e1:bbK s' (k%5+5*((2*x+3*k)%5))=(s' (x+5*k)^^^par s' ((x+4)%5)^^^(par s' ((x+1)%5)).rotateLeft 1).rotateLeft (turnOf (x+5*k)):=by
     rw[bbK,c3.2.1,c3.2.2,bbXY,ddK,Jj]
    have c4:=ZFd x hx k hk j hj;rw[<-e1];by_cases hj':j=k%5+5*((2*x+3*k)%5)
    ·rw[if_pos hj',if_pos (c4.2 (.inl hj')),hj']
    ·rw[if_neg hj']
     congr 2;simp only[c4,hj',false_or]
   ·rintro _ w6⟨M,B1,B3,B5,B7,B8⟩
    refine Z7I.next (by rw[Z0 (by omega) (by omega)];omega) hx ⟨M,B1,B3,B5,B7,?_⟩;refine(Z7 (fun j hj=>?_)) ▸ B8;congr 2;have:j%5<5:=by omega
    simp only[this,and_true];have:(j%5+3*(j/5))%5<x+1↔(j%5+3*(j/5))%5<x\/(j%5+3*(j/5))%5=x:=by omega
    simp only[this]
  clear M B1 B3 B5 B7 B8;rintro _ w5⟨M,B1,B3,B5,_,B8⟩
  have e8:ZH 25 (fun j=>uV (if(j%5+3*(j/5))%5<5 then bbK s' j else 0))=lanesA (bbK s') :=
   Z7 (fun j hj=>by rw[if_pos (by omega)])
  rw[e8]at B8;clear e8
  refine Z3n 5 (fun x w'=>Vcg.Mod NoB w w'/\Blk w' N 149 (ZH 25 (fun j=>uV (if j%5<x then Z4P (bbK s') j else s' j)))/\Blk w' (N+1) 149 (G 25 (.int D 0))/\Blk w' (N+1+1) 169 turnA /\
   Blk w' T 149 (lanesA (bbK s'))) rfl
   ⟨M,by simp only[JJ,if_false];exact B1,B3,B5,B8⟩ ?_ ?_
  ·clear M B1 B3 B5 B8
   rintro x _ w6 hx⟨M,B1,B3,B5,B8⟩
   refine Z3n 5 (fun k w'=>Vcg.Mod NoB w w'/\Blk w' N 149 (ZH 25 (fun j=>uV (if j%5<x\/j%5=x/\j/5<k then Z4P (bbK s') j else s' j)))/\Blk w' (N+1) 149 (G 25 (.int D 0))/\Blk w' (N+1+1) 169 turnA /\
    Blk w' T 149 (lanesA (bbK s'))) rfl ⟨M,by simpa using B1,B3,B5,B8⟩ ?_ ?_
   ·clear M B1 B3 B5 B8
    rintro k _ w6 hk⟨M,B1,B3,B5,B8⟩;rintro _ rfl;have a1:J J2 ((x:Int)+J J2 (5*(k:Int)))=((x+5*k:Nat):Int):=by simp(disch:=omega) only[Z0];omega
    have a2:J J2 (Ji (J J2 ((x:Int)+1)) 5+J J2 (5*(k:Int)))=(((x+1)%5+5*k:Nat):Int):=by
     simp(disch:=omega) only[Z1u,Z0];omega
    have a3:J J2 (Ji (J J2 ((x:Int)+2)) 5+J J2 (5*(k:Int)))=(((x+2)%5+5*k:Nat):Int):=by
     simp(disch:=omega) only[Z1u,Z0];omega
    rw[a1,a2,a3];clear a1 a2 a3;refine⟨by omega,_,B8.drew.rd0 (ZL _ (by omega)),by omega,_,B8.drew.rd0 (ZL _ (by omega)),by omega,_,B8.drew.rd0 (ZL _ (by omega)),by omega,B1.drew.canSet0 (by simp;omega) rfl,fun w7 h7=>?_⟩;rw[h7.at,Z98,Z97,Z0B];refine Z7I.next (by rw[Z0 (by omega) (by omega)];omega) hk ⟨(M.step_drew).step_set (fun h=>by simp only[hNe]at h;omega),?_,B3.drew.set_ne (by simp),B5.drew.set_ne (by simp;omega),B8.drew.set_ne (by simp;omega)⟩;have:=B1.drew.set (x+5*k) (uV (bbK s' (x+5*k)^^^(~~~ bbK s' ((x+1)%5+5*k)&&&bbK s' ((x+2)%5+5*k))));rw[Z01]at this;refine(Z7 (fun j hj=>?_)) ▸ this
    have e1:Z4P (bbK s') (x+5*k)=bbK s' (x+5*k)^^^(~~~ bbK s' ((x+1)%5+5*k)&&&bbK s' ((x+2)%5+5*k)):=by
     rw[Z4P,show(x+5*k)%5=x by omega,show(x+5*k)/5=k by omega]
    rw[<-e1];by_cases hj':j=x+5*k
    ·rw[if_pos hj',if_pos (by omega),hj']
    ·rw[if_neg hj']
     congr 2;have:(j%5<x\/j%5=x/\j/5<k+1)↔(j%5<x\/j%5=x/\j/5<k):=by omega
     simp only[this]
   ·rintro _ w7⟨M,B1,B3,B5,B8⟩
    refine Z7I.next (by rw[Z0 (by omega) (by omega)];omega) hx ⟨M,?_,B3,B5,B8⟩;refine(Z7 (fun j hj=>?_)) ▸ B1;congr 2;have:j%5<x+1↔j%5<x\/j%5=x/\j/5<5:=by omega
    simp only[this]
  clear M B1 B3 B5 B8;rintro _ w6⟨M,B1,B3,B5,B8⟩
  have e9:ZH 25 (fun j=>uV (if j%5<5 then Z4P (bbK s') j else s' j))=ZH 25 (fun j=>uV (if j=0 then Z4P (bbK s') 0^^^Z3s r 0 else Z4P (bbK s') j)) :=
   Z7 (fun j hj=>by rw[if_pos (by omega)];by_cases h0:j=0<;>simp[h0,Z3s])
  rw[e9]at B1;clear e9 B8
  refine⟨fun n62 n63 w'=>∃j:Nat,n63=j/\j<=7/\n62=(regOf (7*r+j):Nat)/\Vcg.Mod NoB w w'/\Blk w' N 149 (ZH 25 (fun i=>uV (if i=0 then Z4P (bbK s') 0^^^Z3s r j else Z4P (bbK s') i)))/\Blk w' (N+1) 149 (G 25 (.int D 0)) /\
   Blk w' (N+1+1) 169 turnA,fun _ n _=>(7-n).toNat,⟨0,rfl,by omega,rfl,M,B1,B3,B5⟩,?_⟩
  clear M B1 B3 B5;rintro _ _ _ w7⟨j,rfl,hj,rfl,M,B1,B3,B5⟩;refine⟨fun hlt'=>?_,fun hge'=>?_⟩
  ·have hreg:=ZEj (7*r+j) (by omega)
   have em:(7-J J2 ((j:Int)+1)).toNat<(7-(j:Int)).toNat:=by rw[Z0 (by omega) (by omega)];omega
   have ew:J J2 (2*(regOf (7*r+j):Int))=((regOf (7*r+j)*2:Nat):Int):=by rw[Z0 (by omega) (by omega)];omega
   have ej:J J2 ((j:Int)+1)=((j+1:Nat):Int):=by rw[Z0 (by omega) (by omega)];omega
   have g1:((regOf (7*r+j)*2:Nat):Int)>=256->bitsI .xor J2 (J J2 (((regOf (7*r+j)*2:Nat):Int)-256)) 113=(regOf (7*r+(j+1)):Int):=by
    intro h;rw[Z0 (by omega) (by omega)];have:=ZBf (7*r+j) (by omega) (by omega);refine Eq.trans ?_ this;congr 1;omega
   have g2:¬((regOf (7*r+j)*2:Nat):Int)>=256->((regOf (7*r+j)*2:Nat):Int)=(regOf (7*r+(j+1)):Int):=by
    intro h;rw[<-Z9p _ (by omega)];rfl
   rw[Z1u _ _ (by omega),ew,ZEi j (by omega)];refine⟨fun h1=>?_,fun h1=>?_⟩
   ·rintro _ rfl
    refine⟨_,B1.drew.rd1 (Z8 (by omega)),by omega,by omega,B1.drew.canSet (by simp) rfl,?_⟩;rintro w8 rfl;rw[if_pos rfl];have e1:(1:Int)=uI (1:BitVec 64):=by decide
    have e2:bitsI .xor D (uI (Z4P (bbK s') 0^^^Z3s r j)) (shlI D 1 ((2^j-1:Nat):Int))=uI (Z4P (bbK s') 0^^^Z3s r (j+1)):=by
     rw[e1,Z83,Z0B,Z3s,if_pos (by omega),Jj]
    rw[e2];have B1':=B1.drew.set 0 (uV (Z4P (bbK s') 0^^^Z3s r (j+1)));rw[Z01]at B1'
    have e3:(ZH 25 fun i=>if i=0 then uV (Z4P (bbK s') 0^^^Z3s r (j+1))else uV (if i=0 then Z4P (bbK s') 0^^^Z3s r j else Z4P (bbK s') i))=ZH 25 (fun i=>uV (if i=0 then Z4P (bbK s') 0^^^Z3s r (j+1)else Z4P (bbK s') i)) :=
     Z7 (fun i hi=>by by_cases h0:i=0<;>simp[h0])
    rw[e3]at B1';have M':Vcg.Mod NoB w (w7.drew.setCell ⟨N,0,J5⟩ (uV (Z4P (bbK s') 0^^^Z3s r (j+1)))):=(M.step_drew).step_set (fun h=>by simp only[hNe]at h;omega);exact⟨fun h=>⟨⟨j+1,ej,by omega,g1 h,M',B1',B3.drew.set_ne (by simp),B5.drew.set_ne (by simp;omega)⟩,em⟩,fun h=>⟨⟨j+1,ej,by omega,g2 h,M',B1',B3.drew.set_ne (by simp),B5.drew.set_ne (by simp;omega)⟩,em⟩⟩
   ·have e2:Z3s r (j+1)=Z3s r j:=by
      rw[Z3s,if_neg (by omega)];simp
    rw[<-e2]at B1;exact⟨fun h=>⟨⟨j+1,ej,by omega,g1 h,M,B1,B3,B5⟩,em⟩,fun h=>⟨⟨j+1,ej,by omega,g2 h,M,B1,B3,B5⟩,em⟩⟩
  ·obtain rfl:j=7:=by omega
   refine⟨⟨r+1,by rw[Z0 (by omega) (by omega)];omega,by omega,rfl,M,?_,B3,B5⟩,by rw[Z0 (by omega) (by omega)];dsimp only;omega⟩
   have e:ZH 25 (fun i=>uV (if i=0 then Z4P (bbK s') 0^^^Z3s r 7 else Z4P (bbK s') i))=lanesA (ZDP (r+1) s) :=
    Z7 (fun i hi=>by rw[ZDG r (by omega),ZDP,hs',rnd])
   exact e ▸ B1
 ·obtain rfl:r=24:=by omega
  exact⟨_,B1.rowAll (ZB _),_,B3.storeAll (L:=lanesA (Z5T s)) (by rw[ZB];kernel_rfl) (by rw[ZB,B]) (Z19 _),_,
   (B3.row_same _).rowAll (ZB _),rfl,M.step_row (fun h=>by omega)⟩
end Go.Proofs.YtfghidehlnfdiaaGreat
end
section
namespace Go.Vcg
abbrev bV(b:UInt8):O:=.int JW (b.toNat:Int)
def RdB(w:Z)(o:Option Addr)(bs:List UInt8):Prop :=
 bs≠[]->∃b f,o=U ⟨b,f,J5⟩/\b<w.heap.size/\∀i,i<bs.length->w.cell? ⟨b,f+i,J5⟩=U (bV (bs.getD i 0))
def Off(S:Nat->Prop)(o:Option Addr):Prop:=∀d,o=U d->¬S d.block
theorem RdB.nil(w:Z)(o:Option Addr):RdB w o []:=fun h=>(h rfl).elim
theorem RdB.mod{S:Nat->Prop}{w w':Z}{o:Option Addr}{bs:List UInt8}(h:RdB w o bs)(m:Mod S w w')(hs:Off S o):RdB w' o bs:=by
 intro hb;obtain⟨b,f,rfl,hl,hc⟩:=h hb;exact⟨b,f,rfl,JE hl m.size,fun i hi=>(JX (m.block b hl (hs _ rfl))).trans (hc i hi)⟩
theorem RdB.mod'{w w':Z}{o:Option Addr}{bs:List UInt8}(h:RdB w o bs)(m:Mod NoB w w'):RdB w' o bs:=h.mod m (fun _ _ h=>h)
theorem RdB.sub{w:Z}{o:Option Addr}{bs:List UInt8}{c lo n:Nat}(h:RdB w o bs)(hl:bs.length<=c):RdB w (subO o c lo 1) ((bs.drop lo).take n):=by
 intro hne
 have h1:lo<bs.length:=by
  rcases Nat.lt_or_ge lo bs.length with h|h
  ·exact h
  ·rw[List.drop_eq_nil_of_le h]at hne;simp at hne
 have hb:bs≠[]:=by intro e;rw[e]at h1;simp at h1
 obtain⟨b,f,rfl,hlt,hc⟩:=h hb;refine⟨b,f+lo,?_,hlt,fun i hi=>?_⟩
 ·rw[subO,if_neg (by omega)];simp
 ·rw[JD,J0]at hi
  rw[Q9,hc (lo+i) (by omega)];congr 2;simp only[Y];rw[JA (by omega),JO]
theorem RdB.take{w:Z}{o:Option Addr}{bs:List UInt8}(h:RdB w o bs)(n:Nat):RdB w o (bs.take n):=by
 intro hne;have hb:bs≠[]:=by intro e;rw[e]at hne;simp at hne
 obtain⟨b,f,rfl,hlt,hc⟩:=h hb;refine⟨b,f,rfl,hlt,fun i hi=>?_⟩;rw[JD]at hi;rw[hc i (by omega)];simp only[Y];rw[JA (by omega)]
theorem RdB.get{w:Z}{o:Option Addr}{bs:List UInt8}(h:RdB w o bs){i:Nat}(hi:i<bs.length) :
  ∃d,o=U d/\w.cell? (Jk d (JV (i:Int)))=U (bV (bs.getD i 0)):=by
 obtain⟨b,f,rfl,hlt,hc⟩:=h (by intro e;rw[e]at hi;simp at hi);exact⟨_,rfl,by rw[J3,Z2];exact hc i hi⟩
theorem RdB.of_blk{w:Z}{b f:Nat}{t:F}{cs:Array O}{bs:List UInt8}(h:Blk w b t cs)(hc:∀i,i<bs.length->cs[f+i]?=U (bV (bs.getD i 0))):RdB w (U ⟨b,f,J5⟩) bs :=
 fun _=>⟨b,f,rfl,h.lt,fun i hi=>by rw[h.cell,hc i hi]⟩
def Z5K(b:UInt8):BitVec 64:=b.toBitVec.setWidth 64
theorem ZBq(b:UInt8):uI (Z5K b)=(b.toNat:Int):=by
 simp only[uI,Z5K,Jq,UInt8.toNat_toBitVec];have:=b.toNat_lt;omega
def leK(bs:List UInt8):Nat->BitVec 64
 |0=>0
 |k+1=>leK bs k|||(Z5K (bs.getD k 0)<<<(8*k))
def ZBT(bs:List UInt8):BitVec 64:=leK bs bs.length
def Z7p(x:BitVec 64)(i:Nat):UInt8:=UInt8.ofBitVec ((x>>>(8*i)).setWidth 8)
def leL(x:BitVec 64)(k:Nat):List UInt8:=(JF k).map (Z7p x)
theorem Z2z(x:BitVec 64)(k:Nat):(leL x k).length=k:=by simp[leL]
theorem ZE3(x:BitVec 64)(k:Nat):leL x (k+1)=leL x k++[Z7p x k]:=by simp[leL,List.range_succ]
theorem Z8q(n:Int):J JW n=n%256:=by simp[J,QD,IntKind.signed]
theorem Z60(y:BitVec 64):J JW (uI y)=((UInt8.ofBitVec (y.setWidth 8)).toNat:Int):=by
 rw[Z8q];show(y.toNat:Int)%256=((y.setWidth 8).toNat:Int);rw[Jq];omega
theorem Z4M(a b:UInt8):bitsI .or JW (a.toNat:Int) (b.toNat:Int)=((a|||b).toNat:Int):=by
 have h:∀x:UInt8,BitVec.ofInt 8 (x.toNat:Int)=x.toBitVec:=by
  intro x;apply BitVec.eq_of_toNat_eq;have:=x.toNat_lt;simp
 simp only[bitsI,QD,h,Z8q];show(((a.toBitVec|||b.toBitVec:BitVec 8).toNat:Nat):Int)%256=(((a|||b).toBitVec).toNat:Int);rw[UInt8.toBitVec_or];have:=(a.toBitVec|||b.toBitVec:BitVec 8).isLt;omega
def ZCJ(s:St)(blk:List UInt8):St:=fun i=>if i<17 then s i^^^ZBT ((blk.drop (8*i)).take 8)else s i
def Z6Q(s:St)(blk:List UInt8):St:=Z5T (ZCJ s blk)
def ZA5(s:St)(bs:List UInt8):Nat->St
 |0=>s
 |k+1=>Z6Q (ZA5 s bs k) ((bs.drop (136*k)).take 136)
def ZDp:St:=fun _=>0
def ZCN(m:List UInt8):St:=ZA5 ZDp m (m.length/136)
def restOf(m:List UInt8):List UInt8:=m.drop (136*(m.length/136))
def ZCC(r:List UInt8)(i:Nat):UInt8:=(if i<r.length then r.getD i 0 else if i=r.length then 1 else 0)|||(if i=135 then 128 else 0)
def ZD8(r:List UInt8):List UInt8:=(JF 136).map (ZCC r)
def Z4C(m:List UInt8):St:=Z6Q (ZCN m) (ZD8 (restOf m))
def Z3q(s:St)(i:Nat):UInt8:=UInt8.ofBitVec ((s (i/8)>>>(8*(i%8))).setWidth 8)
def sumOf(m:List UInt8):List UInt8:=(JF 32).map (Z3q (Z4C m))
def hashA(h:List UInt8):Array O:=ZH 32 (fun i=>bV (h.getD i 0))
theorem ZBB(s:St)(bs:List UInt8)(q:Nat):∀k,ZA5 s bs (q+k)=ZA5 (ZA5 s bs q) (bs.drop (136*q)) k
 |0=>rfl
 |k+1=>by
  rw[<-Q9,ZA5,ZBB s bs q k,ZA5,Q6];congr 4;omega
theorem Z6d(s:St)(m b:List UInt8):∀k,136*k<=m.length->ZA5 s (m++b) k=ZA5 s m k
 |0,_=>rfl
 |k+1,h=>by
  rw[ZA5,Z6d s m b k (by omega),ZA5];congr 1;rw[JY (by omega),List.take_append_of_le_length (by rw[J0];omega)]
theorem Z4t(m:List UInt8):(restOf m).length=m.length%136:=by
 rw[restOf,J0];omega
theorem Z9q(m:List UInt8):(restOf m).length<136:=by rw[Z4t];omega
theorem Z70(m b:List UInt8):restOf m++b=(m++b).drop (136*(m.length/136)):=by
 rw[restOf,JY (by omega)]
theorem ZAt(m b:List UInt8):ZCN (m++b)=ZA5 (ZCN m) (restOf m++b) ((restOf m++b).length/136):=by
 rw[Z70,ZCN,ZCN]
 have h1:(m++b).length/136=m.length/136+((m++b).drop (136*(m.length/136))).length/136:=by
  rw[J0,JP];omega
 rw[h1,ZBB,Z6d _ _ _ _ (by omega)]
theorem Z8c(m b:List UInt8):restOf (m++b)=(restOf m++b).drop (136*((restOf m++b).length/136)):=by
 rw[Z70,restOf,Q6];congr 1;rw[J0,JP];omega
theorem ZN(m:List UInt8):(sumOf m).length=32:=by simp[sumOf]
theorem Z4W(r:List UInt8):(ZD8 r).length=136:=by simp[ZD8]
theorem ZCr(r:List UInt8){i:Nat}(h:i<136):(ZD8 r).getD i 0=ZCC r i:=by simp[ZD8,Y,h]
theorem Z7j(m:List UInt8){i:Nat}(h:i<32):(sumOf m).getD i 0=Z3q (Z4C m) i:=by simp[sumOf,Y,h]
def Own(w:Z)(e:F)(sz:Nat)(o:Option Addr)(l c:Nat)(xs:List O):Prop :=
 xs.length=l*sz/\((o=J5/\l=0/\c=0) \/
  ∃g cur,o=U ⟨g,0,J5⟩/\Blk w g e cur/\l<=c/\c<=Jr/\cur.size=c*sz/\cur.toList.take (l*sz)=xs)
def OB(o:Option Addr):Nat->Prop:=fun k=>∃d,o=U d/\d.block=k
theorem Z3Z(k:Nat):¬OB J5 k:=by rintro⟨d,h,_⟩;cases h
theorem Own.nil(w:Z)(e:F)(sz:Nat):Own w e sz J5 0 0 []:=⟨by simp,.inl ⟨rfl,rfl,rfl⟩⟩
theorem Own.mod{S:Nat->Prop}{w w':Z}{e:F}{sz:Nat}{o:Option Addr}{l c:Nat}{xs:List O}(h:Own w e sz o l c xs)(m:Mod S w w')(hs:∀k,OB o k->¬S k):Own w' e sz o l c xs:=by
 refine⟨h.1,?_⟩;rcases h.2 with hn|⟨g,cur,rfl,hb,rest⟩
 ·exact .inl hn
 ·exact .inr ⟨g,cur,rfl,hb.mod m (hs g ⟨_,rfl,rfl⟩),rest⟩
theorem Own.mod'{w w':Z}{e:F}{sz:Nat}{o:Option Addr}{l c:Nat}{xs:List O}(h:Own w e sz o l c xs)(m:Mod NoB w w'):Own w' e sz o l c xs:=h.mod m (fun _ _ h=>h)
theorem Own.lt{w:Z}{e:F}{sz:Nat}{o:Option Addr}{l c:Nat}{xs:List O}(h:Own w e sz o l c xs){k:Nat}(hk:OB o k):k<w.heap.size:=by
 obtain⟨d,rfl,rfl⟩:=hk;rcases h.2 with⟨h,_⟩|⟨g,cur,h,hb,rest⟩
 ·cases h
 ·cases h;exact hb.lt
theorem Own.len{w:Z}{e:F}{o:Option Addr}{l c:Nat}{xs:List O}(h:Own w e 1 o l c xs):xs.length=l:=by have:=h.1;omega
theorem Own.cap{w:Z}{e:F}{sz:Nat}{o:Option Addr}{l c:Nat}{xs:List O}(h:Own w e sz o l c xs):l<=c/\c<=Jr:=by
 rcases h.2 with⟨_,rfl,rfl⟩|⟨g,cur,_,_,h1,h2,_⟩
 ·exact⟨J9 _,Q3 _⟩
 ·exact⟨h1,h2⟩
theorem Own.cell{w:Z}{e:F}{sz:Nat}{o:Option Addr}{l c:Nat}{xs:List O}(h:Own w e sz o l c xs){i:Nat}{v:O}(hv:xs[i]?=U v) :
  ∃g,o=U ⟨g,0,J5⟩/\w.cell? ⟨g,i,J5⟩=U v:=by
 rcases h.2 with⟨_,rfl,_⟩|⟨g,cur,ho,hb,_,_,hs,ht⟩
 ·have:=h.1;simp at this;subst this;simp at hv
 ·refine⟨g,ho,?_⟩
  rw[hb.cell];rw[<-ht,JQ]at hv;split at hv
  ·simpa using hv
  ·cases hv
theorem Own.bytes{w:Z}{e:F}{o:Option Addr}{l c:Nat}{bs:List UInt8}(h:Own w e 1 o l c (bs.map bV)):RdB w o bs:=by
 intro hne;have hl:0<bs.length:=by cases bs<;>simp_all
 obtain⟨g,rfl,_⟩:=h.cell (i:=0) (v:=bV (bs.getD 0 0)) (by rw[I];simp[Y,hl]);refine⟨g,0,rfl,?_,fun i hi=>?_⟩
 ·exact h.lt ⟨_,rfl,rfl⟩
 ·obtain⟨g',hg,hc⟩:=h.cell (i:=i) (v:=bV (bs.getD i 0)) (by rw[I];simp[Y,hi])
  cases hg;rw[J6];exact hc
theorem Z75{P:Program}{w:Z}{tx e':F}(hk:P.underlying tx=U (.slice e')){o:Option Addr}{c:Nat}{bs:List UInt8}(h:RdB w o bs) :
  Src P 1 tx (.slice o bs.length c) bs.length (bs.map bV) w:=by
 by_cases hb:bs=[]
 ·subst hb
  cases o with
  |none=>exact Src.ofNil w hk c
  |some a=>exact Src.ofSlice w hk a 0 c [] (by simp) (by simp) (by simp)
 ·obtain⟨b,f,rfl,hl,hc⟩:=h hb
  refine Src.ofSlice w hk _ _ c _ (by simp) (fun j u hu=>?_) (by simp;intro a _;rfl);rw[Z2];rw[I,JS]at hu;obtain⟨x,hx,rfl⟩:=hu;obtain⟨hj,rfl⟩:=List.getElem?_eq_some_iff.1 hx;rw[hc j hj];simp[Y,hj]
theorem Z3T{P:Program}{w:Z}{tx e':F}(hk:P.underlying tx=U (.slice e')){b:Nat}{t:F}{cs:Array O}{sz:Nat}(h:Blk w b t cs)(hs:cs.size=sz)(h1:∀v∈cs.toList,v.oneCell'=true) :
  Src P sz tx (.slice (U ⟨b,0,J5⟩) 1 1) 1 cs.toList w :=
 Src.ofSlice w hk _ 1 1 _ (by simp[hs]) (fun j u hu=>by rw[Z2,h.cell,J6];simpa using hu) h1
theorem Z5o(w:Z)(g:Nat):∀(vs:List O) (o:Nat),Mod (·=g) w (w.setCells g o vs)
 |[],_=>Mod.refl w
 |v::vs,o=>by
  have h1:=Mod.setCell w ⟨g,o,J5⟩ v
  suffices ∀w1:Z,Mod (·=g) w w1->∀(vs:List O)(o:Nat),Mod (·=g) w (w1.setCells g o vs)from this _ h1 vs (o+1)
  intro w1 h1 vs
  induction vs generalizing w1 with
  |nil=>intro _;exact h1
  |cons v vs ih=>exact fun o=>ih _ (h1.trans (Mod.setCell _ _ _) (fun _ _ h=>h)) _
theorem Z3d{g:Nat}{t:F}:∀(vs:List O) (o:Nat) {cs:Array O} {w:Z},Blk w g t cs->Blk (w.setCells g o vs) g t (ZY cs o vs)
 |[],_,_,_,h=>h
 |v::vs,o,cs,w,h=>by
  rw[World.setCells,ZY];exact Z3d vs (o+1) (h.set o v)
theorem Z0R:∀(vs:List O) (o:Nat) (cs:Array O),(ZY cs o vs).size=cs.size
 |[],_,_=>rfl
 |v::vs,o,cs=>by rw[ZY,Z0R vs];simp
theorem Z0V:∀(vs:List O) (o:Nat) (cs:Array O) (i:Nat),o+vs.length<=cs.size->(ZY cs o vs)[i]?=if o<=i/\i<o+vs.length then vs[i-o]? else cs[i]?
 |[],o,cs,i,h=>by rw[ZY,if_neg (by simp)]
 |v::vs,o,cs,i,h=>by
  rw[List.length_cons]at h;rw[ZY,Z0V vs (o+1) _ i (by simp;omega),Array.getElem?_setIfInBounds];by_cases h1:i=o
  ·subst h1
   rw[if_neg (by omega),if_pos rfl,if_pos (by omega),if_pos (by simp)];simp
  ·by_cases h2:o+1<=i/\i<o+1+vs.length
   ·rw[if_pos h2,if_pos (by simp;omega),show i-o=(i-(o+1))+1 by omega]
    simp
   ·rw[if_neg h2,if_neg (by omega),if_neg (by simp;omega)]
theorem Z2u{P:Program}{w:Z}{t tx ty e:F}{i:TypeInfo}{z:O}{sz:Nat}{o:Option Addr}{l c:Nat}{xs:List O}{x:O}{n:Nat}{news:List O}
  (ht:P.underlying t=U (.slice e)) (hi:P.info? e=U i) (hz:i.zero=U z) (hs:i.size=sz) (hzs:z.cells.size=sz)
  (h:Own w e sz o l c xs) (src:Src P sz tx x n news w) (h63:l+n<=Jr) (hb:(l+n)*i.bytes<=140737488355328) :
  ∃o' c' w',JB P (builtinV QM #[t,tx] ty #[.slice o l c,x]) w=Jy (.slice o' (l+n) c') w'/\Own w' e sz o' (l+n) c' (xs++news)/\Mod (OB o) w w' /\
   (∀k,OB o' k->OB o k\/w.heap.size<=k):=by
 have hlen:(xs++news).length=(l+n)*sz:=by rw[JP,h.1,src.newsLen,Js]
 by_cases hroom:l+n<=c
 ·rcases h.2 with⟨rfl,rfl,rfl⟩|⟨g,cur,rfl,hB,hlc,hcm,hcs,htk⟩
  ·obtain rfl:n=0:=by omega
   have hn:news=[]:=J7 (by simpa using src.newsLen);have hx:xs=[]:=J7 (by simpa using h.1);subst hn hx;refine⟨J5,0,w,?_,Own.nil _ _ _,Mod.refl w,fun k hk=>.inl hk⟩;have hc:=src.cells;subst hs;rcases src.kind with⟨e',hk⟩|hk<;>simp[builtinV,Builtin.append_,run_underlying ht,run_underlying hk,QE,Q7,hi,src.len,hc]
  ·subst hs
   have hfit:l*i.size+news.length<=cur.size:=by rw[src.newsLen,hcs,<-Js];exact Nat.mul_le_mul_right _ hroom
   have hr:=run_append_room_src (P:=P) w t tx ty e i ht hi g 0 l c x n news src hroom
    (fun j hj=>by rw[J6,hB.cell];simp;omega) (fun j hj=>by simp[QA,show w.heap[g]?=_ from hB])
   rw[J6]at hr;refine⟨_,_,_,hr,⟨hlen,.inr ⟨g,_,rfl,Z3d news _ hB,hroom,hcm,by rw[Z0R,hcs],?_⟩⟩,(Z5o w g news _).mono (fun k _ hk=>⟨_,rfl,hk.symm⟩),fun k hk=>.inl hk⟩;apply JT;intro j;rw[JQ];have hxl:xs.length=l*i.size:=h.1;by_cases hj:j<(l+n)*i.size
   ·rw[if_pos hj,J8,Z0V _ _ _ _ hfit]
    by_cases hj2:j<l*i.size
    ·rw[if_neg (by omega),List.getElem?_append_left (by omega),<-htk,JQ,if_pos hj2,J8]
    ·rw[if_pos (by rw[src.newsLen,<-Js];omega),List.getElem?_append_right (by omega),hxl]
   ·rw[if_neg hj,JK (by omega)]
 ·have hold:(JR i.size l (.slice o l c)).run P w.drew=Jy xs.toArray w.drew:=by
    subst hs;rcases h.2 with⟨rfl,rfl,rfl⟩|⟨g,cur,rfl,hB,hlc,hcm,hcs,htk⟩
    ·have hx:xs=[]:=J7 (by simpa using h.1)
     subst hx;exact Jw w.drew i.size 0 0 0
    ·exact Jb w.drew i.size l _ l c xs h.1 (fun j v hv=>by
      rw[Z2,J6];obtain⟨g',hg',hc'⟩:=h.cell hv;cases hg';exact hc')
  have hr:=run_append_grow_src (P:=P) w t tx ty e i z ht hi hz o l c xs hold x n news (hs ▸ src) (by omega) (by simp only[Jr]at h63;omega) (growslice_fits (by omega) hb);have hge:=grownCap_ge w (l+n) c e;have hcm:grownCap w (l+n) c e<=Jr:=grownCap_le_maxLen w (l+n) c e h63;refine⟨_,_,_,hr,⟨hlen,.inr ⟨_,_,rfl,Blk.new w.drew e _,hge,hcm,?_,?_⟩⟩,((Mod.drew w).step_alloc _),fun k hk=>.inr ?_⟩
  ·rw[Array.size_append,List.size_toArray,hlen,size_zeroCells,hzs,<-Js]
   congr 1;omega
  ·rw[Array.toList_append]
   show QO _ ((xs++news)++_)=_;rw[<-hlen];exact List.take_left
  ·obtain⟨d,hd,rfl⟩:=hk
   cases hd;exact J9 _
theorem Z4l{P:Program}{w:Z}{t tx ty e:F}{g o dLen dCap c n:Nat}{cur:Array O}{te:F}{o2:Option Addr}{bs:List UInt8}
  (ht:P.underlying t=U (.slice e)) (hi:(P.info? e).map (·.size)=U 1) (h:Blk w g te cur) (hr:RdB w o2 bs) (hn:n=Jd bs.length dLen) (hfit:o+n<=cur.size) :
  ∃w',JB P (builtinV .copy #[t,tx] ty #[.slice (U ⟨g,o,J5⟩) dLen dCap,.slice o2 bs.length c]) w=Jy (.int J2 (n:Int)) w'/\Blk w' g te (ZY cur o ((bs.take n).map bV))/\Mod (·=g) w w':=by
 obtain⟨i,hi1,hi2⟩:=Option.map_eq_some_iff.1 hi
 have hlen:((bs.take n).map bV).length=n:=by
  rw[JN,JD];have:n<=bs.length:=by rw[hn];exact Nat.min_le_left _ _
  omega
 have hone:∀v∈(bs.take n).map bV,v.oneCell'=true:=by
  intro v hv;obtain⟨x,_,rfl⟩:=List.mem_map.1 hv;rfl
 have hcells:(JR 1 n (.slice o2 bs.length c)).run P w=Jy ((bs.take n).map bV).toArray w:=by
  have h1:=hr.take n;by_cases hb:bs.take n=[]
  ·have h0:n=0:=by rw[<-hlen,hb];rfl
   rw[hb,h0];cases o2 with
   |none=>exact Jw w 1 0 _ _
   |some a=>exact Jb w 1 0 a _ _ [] (by simp) (by simp)
  ·obtain⟨b,f,rfl,hl,hc⟩:=h1 hb
   refine Jb w 1 n _ _ _ _ (by rw[hlen];omega) (fun j u hu=>?_);rw[Z2];rw[I,JS]at hu;obtain⟨x,hx,rfl⟩:=hu;obtain⟨hj,rfl⟩:=List.getElem?_eq_some_iff.1 hx;rw[hc j hj];simp only[Y,hx,Option.getD_some]
 have hst:=run_storeCells_cells (P:=P) g o ((bs.take n).map bV) 0 w
  (fun j hj=>by rw[h.cell];simp;omega) (fun j hj=>by simp[QA,show w.heap[g]?=_ from h]) hone
 simp only[Nat.add_zero]at hst;refine⟨w.setCells g o ((bs.take n).map bV),?_,Z3d _ _ h,Z5o _ _ _ _⟩;have hm:(JR 1 (Jd bs.length dLen) (.slice o2 bs.length c)).run P w=Jy ((bs.take n).map bV).toArray w:=hn ▸ hcells;clear hcells hone hr;subst hn;generalize(bs.take (Jd bs.length dLen)).map bV=L at *
 simp only[QB,builtinV];simp[run_underlying ht,QC,QE,Q7,hi1,hi2,hm,hst,goInt]
theorem ZCh{P:Program}{w:Z}{t tx ty e:F}{o:Option Addr}{l c lo:Nat}{bs:List UInt8}
  (ht:P.underlying t=U (.slice e)) (hi:(P.info? e).map (·.size)=U 1) (h:Own w e 1 o l c (bs.map bV)) (hlo:lo<=l) :
  ∃w',JB P (builtinV .copy #[t,tx] ty #[.slice o l c,.slice (subO o c lo 1) (l-lo) (c-lo)]) w=Jy (.int J2 ((l-lo:Nat):Int)) w'/\Own w' e 1 o (l-lo) c ((bs.drop lo).map bV)/\Mod (OB o) w w':=by
 have hl:bs.length=l:=by have:=h.len;simpa using this
 have hr:=h.bytes
 have hr':RdB w (subO o c lo 1) (bs.drop lo):=by
  have:=hr.sub (c:=c) (lo:=lo) (n:=bs.length) (by rw[hl];exact h.cap.1)
  rwa[JG (by simp)]at this
 rcases h.2 with⟨rfl,rfl,rfl⟩|⟨g,cur,rfl,hB,hlc,hcm,hcs,htk⟩
 ·obtain rfl:lo=0:=by omega
  have:bs=[]:=J7 hl;subst this;refine⟨w,?_,Own.nil _ _ _,Mod.refl w⟩;obtain⟨i,hi1,hi2⟩:=Option.map_eq_some_iff.1 hi;simp[builtinV,QB,run_underlying ht,QC,QE,Q7,hi1,JR,subO,goInt]
 ·obtain⟨w',h1,h2,h3⟩:=Z4l (P:=P) (ty:=ty) (tx:=tx) (dLen:=l) (dCap:=c) (n:=l-lo) (o:=0) (c:=c-lo) ht hi hB hr' (by rw[J0,hl];exact(Jo (by omega)).symm) (by omega)
  rw[J0,hl]at h1;have hdl:(bs.drop lo).length=l-lo:=by rw[J0,hl]
  rw[JG (by omega)]at h2;have hml:((bs.drop lo).map bV).length=l-lo:=by rw[JN,hdl]
  refine⟨w',h1,⟨by rw[hml,Jg],.inr ⟨g,_,rfl,h2,by omega,hcm,by rw[Z0R,hcs],?_⟩⟩,h3.mono (fun k _ hk=>⟨_,rfl,hk.symm⟩)⟩;apply JT;intro j;rw[JQ,Jg];by_cases hj:j<l-lo
  ·rw[if_pos hj,J8,Z0V _ _ _ _ (by omega),if_pos (by omega),Q1]
  ·rw[if_neg hj,JK (by omega)]
theorem Z5y(n o:Nat)(f g:Nat->O)(m:Nat)(vs:List O)(hm:vs.length=m)(hg:∀i,i<m->vs[i]?=U (g i))(h:o+m<=n) :
  ZY (ZH n f) o vs=ZH n (fun i=>if o<=i/\i<o+m then g (i-o)else f i):=by
 subst hm;refine ZBC (by rw[Z0R,Zh]) (fun i hi=>?_);rw[Z0V _ _ _ _ (by simpa using h)];by_cases h1:o<=i/\i<o+vs.length
 ·rw[if_pos h1,if_pos h1,hg _ (by omega)]
 ·rw[if_neg h1,if_neg h1,Z8 hi]
theorem Z5V{bs:List UInt8}{i:Nat}(h:i<bs.length):(bs.map bV)[i]?=U (bV (bs.getD i 0)):=by
 rw[I,JM h];simp[Y,h]
def ZEP(w:Z)(o:Option Addr)(ls:List (List UInt8)):Prop :=
 ∀i,i<ls.length->∃b f oi ci,o=U ⟨b,f,J5⟩/\b<w.heap.size/\w.cell? ⟨b,f+i,J5⟩=U (.slice oi (ls.getD i []).length ci)/\RdB w oi (ls.getD i [])
theorem ZEP.mod'{w w':Z}{o:Option Addr}{ls:List (List UInt8)}(h:ZEP w o ls)(m:Mod NoB w w'):ZEP w' o ls:=by
 intro i hi;obtain⟨b,f,oi,ci,rfl,hl,hc,hr⟩:=h i hi;exact⟨b,f,oi,ci,rfl,JE hl m.size,(JX (m.block b hl (fun h=>h))).trans hc,hr.mod' m⟩
theorem ZEP.one{w:Z}{b:Nat}{t:F}{o:Option Addr}{c:Nat}{bs:List UInt8}(h:Blk w b t #[.slice o bs.length c])(hr:RdB w o bs):ZEP w (U ⟨b,0,J5⟩) [bs]:=by
 intro i hi;obtain rfl:i=0:=by simpa using hi
 exact⟨b,0,o,c,rfl,h.lt,by rw[h.cell];rfl,hr⟩
theorem Z5S(ls:List (List UInt8))(i:Nat)(h:i<ls.length):(ls.take (i+1)).flatten=(ls.take i).flatten++ls.getD i []:=by
 rw[List.take_add_one,List.flatten_append,JM h];simp[Y,h]
end Go.Vcg
end
section
namespace Go.Proofs.YtfghidehlnfdiaaGreat
open Go Go.Vcg
theorem Z7O{R:Ending->Z->Prop}{w:Z}{o:Option Addr}{l c:Nat}(bs:List UInt8)(hl:l=bs.length)(h8:bs.length<=8)(hr:RdB w o bs)
  (h:R (J4 (uV (ZBT bs))) w):Q0 J1 Z0v.n #[.slice o l c] w R:=by
 subst hl;refine Z0v.vc _ _ _ _ _ ?_;unfold Z0v.Vc;refine⟨fun n2 n3 w'=>∃i:Nat,n3=i/\i<=bs.length/\n2=uI (leK bs i)/\w'=w,fun _ n _=>((bs.length:Int)-n).toNat,⟨0,rfl,by omega,rfl,rfl⟩,?_⟩;rintro _ _ _ _⟨i,rfl,hi,rfl,rfl⟩;refine⟨fun hlt=>?_,fun hge=>?_⟩
 ·obtain⟨d,rfl,hd⟩:=hr.get (i:=i) (by omega)
  refine⟨d,rfl,by omega,_,hd,?_⟩;have e1:J J2 (8*(i:Int))=((8*i:Nat):Int):=by rw[Z0 (by omega) (by omega)];omega
  have e2:J D ((bs.getD i 0).toNat:Int)=uI (Z5K (bs.getD i 0)):=by rw[<-ZBq,Z7G]
  rw[e1,e2,Z83,Z4j];exact⟨by omega,⟨i+1,by rw[Z0 (by omega) (by omega)];omega,by omega,rfl,rfl⟩,by rw[Z0 (by omega) (by omega)];dsimp only;omega⟩
 ·obtain rfl:i=bs.length:=by omega
  exact h
theorem Z3b{w:Z}(s:St)(b o:Nat)(hp:Z4E w b o){o2:Option Addr}{l2 c2:Nat}(blk:List UInt8)(hl:blk.length=136)(hl2:l2=136)(hc:136<=c2)(hr:RdB w o2 blk) :
  Q0 J1 Zq.n #[Jc (lanesA s),Jt (U ⟨b,o,J5⟩),.slice o2 l2 c2] w
   (fun e w'=>e=J4 (Jc (lanesA (Z6Q s blk)))/\Vcg.Mod NoB w w'):=by
 subst hl2;refine Zq.vc _ _ _ _ _ _ _ ?_;unfold Zq.Vc;rintro d3 w4⟨rfl,rfl⟩ d5 w6⟨rfl,rfl⟩;have B2:=(Blk.new w 173 (lanesA s)).alloc (X (G 25 (.int D 0)) 173);have B4:=Blk.new (w.alloc (X (lanesA s) 173)) 173 (G 25 (.int D 0));have M:=(Mod.alloc (S:=NoB) w (X (lanesA s) 173)).step_alloc (X (G 25 (.int D 0)) 173);simp only[Z6]at B4 ⊢;generalize(w.alloc (X (lanesA s) 173)).alloc (X (G 25 (.int D 0)) 173)=w5 at *
 generalize hNe:w.heap.size=N at *
 refine Z3n 17 (fun n w'=>Vcg.Mod NoB w w'/\Blk w' N 173 (ZH 25 (fun i=>uV (if i<n then ZCJ s blk i else s i)))/\Blk w' (N+1) 173 (G 25 (.int D 0))) rfl
  ⟨M,by simp only[JJ,if_false];exact B2,B4⟩ ?_ ?_
 ·clear M B2 B4
  rintro n _ w6 hn⟨M,B2,B4⟩;rintro _ rfl;have e1:J J2 (8*(n:Int))=((8*n:Nat):Int):=by rw[Z0 (by omega) (by omega)];omega
  have e2:J J2 (((8*n:Nat):Int)+8)=((8*n+8:Nat):Int):=by rw[Z0 (by omega) (by omega)];omega
  rw[e1,e2];clear e1 e2;refine⟨by omega,_,B2.drew.rd0 (Z8 (by omega)),by omega,by omega,?_⟩;rw[J3,J3];have hr':=((hr.mod' (M.step_drew)).sub (c:=c2) (lo:=8*n) (n:=8) (by omega));have hlen:((blk.drop (8*n)).take 8).length=8:=by rw[JD,J0];omega
  refine Z7O ((blk.drop (8*n)).take 8) (by rw[hlen];omega) (by omega) hr' ⟨_,rfl,B2.drew.rd0 (Z8 (by omega)),by omega,B2.drew.canSet0 (by simp;omega) rfl,fun w7 h7=>?_⟩;rw[h7.at,Z0B];simp only[Nat.lt_irrefl,if_false];refine Z7I.next (by rw[Z0 (by omega) (by omega)];omega) hn ⟨(M.step_drew).step_set (fun h=>by simp only[hNe]at h;omega),?_,B4.drew.set_ne (by simp)⟩;have:=B2.drew.set n (uV (ZCJ s blk n));rw[Z01]at this;have e3:s n^^^ZBT ((blk.drop (8*n)).take 8)=ZCJ s blk n:=by rw[ZCJ,if_pos hn]
  rw[e3];refine(Z7 (fun j hj=>?_)) ▸ this
  grind
 ·clear M B2 B4
  rintro _ w6⟨M,B2,B4⟩
  have e:(ZH 25 fun i=>uV (if i<17 then ZCJ s blk i else s i))=lanesA (ZCJ s blk):=Z7 (fun i hi=>by
   by_cases h:i<17
   ·rw[if_pos h]
   ·rw[if_neg h,ZCJ,if_neg h])
  rw[e]at B2;refine⟨_,B2.rowAll (ZB _),(Z7V _ b o (hp.mod M (fun h=>h))).mono ?_⟩;rintro _ w7⟨rfl,M7⟩
  exact⟨_,rfl,_,(B4.mod' M7).storeAll (L:=lanesA (Z5T (ZCJ s blk))) (by rw[ZB];kernel_rfl) (by rw[ZB,B]) (Z19 _),_,
   ((B4.mod' M7).row_same _).rowAll (ZB _),rfl,(M.none_trans M7).step_row (fun h=>by omega)⟩
end Go.Proofs.YtfghidehlnfdiaaGreat
end
section
namespace Go.Proofs.YtfghidehlnfdiaaGreat
open Go
abbrev tU8:F:=5
abbrev Zy:F:=23
abbrev Z3V:F:=175
abbrev Z78:F:=173
abbrev tHash:F:=27
abbrev tLast:F:=178
abbrev tLanes:F:=149
theorem Zn:Tryz.prog.underlying Zy=U (.slice tU8):=by kernel_rfl
theorem ZAX:(Tryz.prog.info? tU8).map (fun i=>(i.zero,i.size,i.bytes))=U (U (.int JW 0),1,1):=by kernel_rfl
theorem Z10:(Tryz.prog.info? tU8).map (·.size)=U 1:=by kernel_rfl
end Go.Proofs.YtfghidehlnfdiaaGreat
end
section
namespace Go.Proofs.YtfghidehlnfdiaaGreat
open Go Go.Vcg
theorem Z93{w:Z}{o:Option Addr}{l c:Nat}{xs:List O}{x:O}{tx ty:F}{n:Nat}{news:List O}(h:Own w tU8 1 o l c xs)(src:Src J1 1 tx x n news w)(hb:l+n<=140737488355328) :
  ∃o' c' w',JB J1 (builtinV QM #[Zy,tx] ty #[.slice o l c,x]) w=Jy (.slice o' (l+n) c') w'/\Own w' tU8 1 o' (l+n) c' (xs++news)/\Vcg.Mod (OB o) w w'/\(∀k,OB o' k->OB o k\/w.heap.size<=k):=by
 obtain⟨i,hi,h1⟩:=Option.map_eq_some_iff.1 ZAX;simp only[Prod.mk.injEq]at h1;exact Z2u Zn hi h1.1 h1.2.1 rfl h src (by simp only[Jr];omega) (by rw[h1.2.2];omega)
def Z3z(s:St)(o:Option Addr)(l c:Nat)(i:Nat):O :=
 if i<24 then uV (ZCM i)else if i<49 then .int J2 (turnOf (i-24):Int)else if i<74 then uV (s (i-49))else .slice o l c
def Z0U(s:St)(o:Option Addr)(l c:Nat):Array O:=ZH 75 (Z3z s o l c)
def Z4i(w:Z)(b:Nat)(o:Option Addr)(m:List UInt8):Prop :=
 ∃l c,Blk w b Z3V (Z0U (ZCN m) o l c)/\Own w tU8 1 o l c ((restOf m).map bV)/\¬OB o b
def SpB(b:Nat)(o:Option Addr):Nat->Prop:=fun k=>k=b\/OB o k
theorem Z2s{w:Z}{b:Nat}{s:St}{o:Option Addr}{l c:Nat}(h:Blk w b Z3V (Z0U s o l c)):Z4E w b 0 :=
 Z4E.of_blk h (fun i hi=>by
  rw[J6,Z0U,Z8Y,Z8 (by omega),Z8 hi,Z3z];by_cases h1:i<24
  ·rw[if_pos h1,if_pos h1]
  ·rw[if_neg h1,if_neg h1,if_pos hi])
theorem Z2Z{w:Z}{b:Nat}{s:St}{o:Option Addr}{l c:Nat}(h:Blk w b Z3V (Z0U s o l c)):ZD w ⟨b,49,J5⟩ 25 (lanesA s) :=
 h.rowAt (ZB s) (fun i hi=>by
  rw[Z0U,Z8 (by omega),ZL s hi,Z3z,if_neg (by omega),if_neg (by omega),if_pos (by omega),Nat.add_sub_cancel_left])
theorem Z0F{w:Z}{b:Nat}{s:St}{o:Option Addr}{l c:Nat}(h:Blk w b Z3V (Z0U s o l c)):w.cell? ⟨b,74,J5⟩=U (.slice o l c) :=
 h.rd1 (by rw[Z0U,Z8 (by omega)];rfl)
theorem ZBm{w:Z}{b:Nat}{s:St}{o o':Option Addr}{l c l' c':Nat}(h:Blk w b Z3V (Z0U s o l c)):Blk (w.setCell ⟨b,74,J5⟩ (.slice o' l' c')) b Z3V (Z0U s o' l' c'):=by
 have:=h.set 74 (.slice o' l' c');rw[Z0U,Z01]at this;refine(show _=Z0U s o' l' c' from Z7 (fun j hj=>?_)) ▸ this;unfold Z3z;by_cases h0:j=74
 ·subst h0;rfl
 ·rw[if_neg h0]
  by_cases h1:j<24
  ·rw[if_pos h1,if_pos h1]
  ·rw[if_neg h1,if_neg h1]
   by_cases h2:j<49
   ·rw[if_pos h2,if_pos h2]
   ·rw[if_neg h2,if_neg h2,if_pos (by omega),if_pos (by omega)]
theorem ZAu{w:Z}{b:Nat}{s s':St}{o:Option Addr}{l c:Nat}(h:Blk w b Z3V (Z0U s o l c)) :
  ∃w',JB J1 (Instr.storeAt Z78 (Jt (U ⟨b,49,J5⟩)) (Jc (lanesA s'))) w=Jy () w'/\Blk w' b Z3V (Z0U s' o l c)/\Vcg.Mod (·=b) w w':=by
 have hi:(Tryz.prog.info? Z78).map (·.size)=U 25:=by kernel_rfl
 obtain⟨i,hi1,hi2⟩:=Option.map_eq_some_iff.1 hi;have hs:=h.storeAt (L:=lanesA s') (o:=49) hi1 (by rw[ZB];exact hi2) (by rw[ZB,Z0U,Zh];decide) (Z19 _)
 have e2:ZH 75 (fun i=>if i<49 then Z3z s o l c i else if i<49+25 then uV (s' (i-49))else Z3z s o l c i)=Z0U s' o l c :=
  Z7 (fun i hi=>by
   unfold Z3z;by_cases h1:i<24
   ·rw[if_pos h1,if_pos (by omega),if_pos h1]
   ·rw[if_neg h1,if_neg h1]
    by_cases h2:i<49
    ·rw[if_pos h2,if_pos h2,if_pos h2]
    ·rw[if_neg h2,if_neg h2,if_neg h2]
     by_cases h3:i<74
     ·rw[if_pos (by omega),if_pos h3]
     ·rw[if_neg (by omega),if_neg h3,if_neg h3])
 have hA:(QO 49 (Z0U s o l c).toList++(lanesA s').toList++List.drop (49+(lanesA s').size) (Z0U s o l c).toList).toArray=Z0U s' o l c:=by
  rw[ZB,<-e2];exact Z9t 75 49 25 (Z3z s o l c) (fun i=>uV (s' i)) (by decide)
 rw[hA]at hs;exact⟨_,hs,h.row_same _,Mod.setRow w b _⟩
theorem ZCT(w:Z):Q0 J1 Z1q.n #[] w (fun e w'=>∃b,e=J4 (Jt (U ⟨b,0,J5⟩))/\Z4i w' b J5 []/\Vcg.Mod NoB w w'/\w.heap.size<=b):=by
 refine Z1q.vc _ _ ?_;unfold Z1q.Vc;refine(Z8Z _).mono ?_;rintro _ w1⟨rfl,M1⟩;refine⟨_,rfl,Z49,?_⟩;rintro d3 w4⟨rfl,rfl⟩;refine⟨_,rfl,⟨0,0,?_,Own.nil _ _ _,Z3Z _⟩,M1.step_alloc _,M1.size⟩;exact(show _=Z0U (ZCN []) J5 0 0 from by kernel_rfl) ▸ Blk.new w1 _ _
theorem ZAE{w:Z}{b:Nat}{o o1:Option Addr}{l1 c1:Nat}{m bs:List UInt8}(hS:Z4i w b o m)(hr:RdB w o1 bs)(hl:l1=bs.length)(hmax:bs.length<=2^40) :
  Q0 J1 Zp.n #[Jt (U ⟨b,0,J5⟩),.slice o1 l1 c1] w
   (fun e w'=>e=J4 (.tuple #[])/\∃o',Z4i w' b o' (m++bs)/\Vcg.Mod (SpB b o) w w'/\∀k,OB o' k->OB o k\/w.heap.size<=k):=by
 subst hl;obtain⟨l,c,hB,hO,hn⟩:=hS;refine Zp.vc _ _ _ _ _ _ ?_;unfold Zp.Vc;simp only[Z2,J6];have hrl:(restOf m).length=l:=by have:=hO.len;simpa using this
 have hlt:=Z9q m;obtain⟨o',c',w1,h1,hO1,M1,hF1⟩:=Z93 (ty:=Zy) hO (Z75 (c:=c1) Zn hr) (by omega);have hnb:¬OB o' b:=fun h=>(hF1 b h).elim hn (fun h=>by have:=hB.lt;omega);rw[<-Ja]at hO1;have hB1:=hB.mod M1 hn;refine⟨_,_,_,Z0F hB,_,w1,h1,_,_,_,rfl,hB1.canSet (by rw[Z0U,Zh];decide) rfl,?_⟩;rintro _ rfl;have hB2:=ZBm (o':=o') (l':=l+bs.length) (c':=c') hB1;have hO2:=hO1.mod (Mod.setCell w1 ⟨b,74,J5⟩ (.slice o' (l+bs.length) c')) (fun k hk(hkb:k=b)=>hnb (hkb ▸ hk));have M2:Vcg.Mod (SpB b o) w (w1.setCell ⟨b,74,J5⟩ (.slice o' (l+bs.length) c')):=(M1.mono (T:=SpB b o) (fun k _ h=>.inr h)).step_set (fun _=>.inl rfl);generalize w1.setCell ⟨b,74,J5⟩ (.slice o' (l+bs.length) c')=w2 at *
 generalize hall:restOf m++bs=all at *
 have hlen:l+bs.length=all.length:=by rw[<-hall,JP,hrl]
 rw[hlen]at hB2 hO2;have hmax':all.length<2^41:=by omega
 refine⟨fun n w'=>∃k:Nat,n=((136*k:Nat):Int)/\136*k<=all.length/\Vcg.Mod (SpB b o) w w'/\Blk w' b Z3V (Z0U (ZA5 (ZCN m) all k) o' all.length c')/\Own w' tU8 1 o' all.length c' (all.map bV),
  fun n _=>((all.length:Int)-n).toNat,⟨0,rfl,by omega,M2,hB2,hO2⟩,?_⟩
 rintro _ _ w3⟨k,rfl,hk,M3,hB3,hO3⟩;refine⟨_,_,_,Z0F hB3,?_⟩;have ew:J J2 (((all.length:Nat):Int)-((136*k:Nat):Int))=((all.length-136*k:Nat):Int):=by rw[Z0 (by omega) (by omega)];omega
 rw[ew];refine⟨fun hge=>?_,fun hlt'=>?_⟩
 ·rintro _ rfl
  have e2:J J2 (((136*k:Nat):Int)+136)=((136*k+136:Nat):Int):=by rw[Z0 (by omega) (by omega)];omega
  rw[e2,J3,J3];have hcap:=hO3.cap;refine⟨_,Z2Z hB3.drew,_,_,_,Z0F hB3.drew,by omega,by omega,?_⟩;refine(Z3b _ b 0 (Z2s hB3.drew) ((all.drop (136*k)).take 136) (by rw[JD,J0];omega) (by omega) (by omega) (((hO3.mod' (Mod.drew w3)).bytes).sub (by omega))).mono ?_;rintro _ w4⟨rfl,M4⟩;obtain⟨w5,h5,hB5,M5⟩:=ZAu (s':=Z6Q (ZA5 (ZCN m) all k) ((all.drop (136*k)).take 136)) (hB3.drew.mod' M4);refine⟨_,rfl,w5,h5,⟨k+1,by omega,by omega,((M3.step_drew).none_trans M4).trans M5 (fun i _ hi=>.inl hi),hB5,((hO3.mod' (Mod.drew w3)).mod' M4).mod M5 (fun i hi(hib:i=b)=>hnb (hib ▸ hi))⟩,by dsimp only;omega⟩
 ·rintro _ rfl
  have hcap:=hO3.cap;have hkq:k=all.length/136:=by omega
  rw[J3];obtain⟨w4,h4,hO4,M4⟩:=ZCh (P:=J1) (t:=Zy) (tx:=Zy) (ty:=3) (lo:=136*k) Zn Z10 (hO3.mod' (Mod.drew w3)) hk;have hB4:=hB3.drew.mod M4 hnb;refine⟨_,_,_,Z0F hB3.drew,_,_,_,Z0F hB3.drew,_,_,_,Z0F hB3.drew,by omega,_,w4,h4,_,rfl,Z0F hB4,by omega,hB4.canSet (by rw[Z0U,Zh];decide) rfl,?_⟩;rintro _ rfl;rw[J3];have hB5:=ZBm (o':=o') (l':=all.length-136*k) (c':=c') hB4;have M5:=Mod.setCell w4 ⟨b,74,J5⟩ (.slice o' (all.length-136*k) c');refine⟨trivial,o',⟨all.length-136*k,c',?_,?_,hnb⟩,?_,hF1⟩
  ·rw[ZAt,hall,<-hkq];exact hB5
  ·rw[Z8c,hall,<-hkq];exact hO4.mod M5 (fun i hi(hib:i=b)=>hnb (hib ▸ hi))
  ·exact(((M3.step_drew).trans M4 (fun i hi h=>(hF1 i h).elim (fun h=>.inr h) (fun h=>by omega)))).step_set (fun _=>.inl rfl)
theorem Z8w{w:Z}{o:Option Addr}{l c:Nat}{bs:List UInt8}{n1 n2:Int}(x:BitVec 64)(k:Nat)(h1:n1=uI x)(h2:n2=(k:Int))(hk:k<=8)(hO:Own w tU8 1 o l c (bs.map bV))(hl:l<=2^40) :
  Q0 J1 Z13.n #[.slice o l c,.int D n1,.int J2 n2] w (fun e w'=>∃o' c',e=J4 (.slice o' (l+k) c')/\Own w' tU8 1 o' (l+k) c' ((bs++leL x k).map bV)/\Vcg.Mod (OB o) w w'/\∀i,OB o' i->OB o i\/w.heap.size<=i):=by
 subst h1 h2;refine Z13.vc _ _ _ _ _ _ _ ?_;unfold Z13.Vc
 refine⟨fun o' l' c' n w'=>∃i:Nat,n=i/\i<=k/\l'=l+i/\Own w' tU8 1 o' l' c' ((bs++leL x i).map bV)/\Vcg.Mod (OB o) w w'/\∀i,OB o' i->OB o i\/w.heap.size<=i,
  fun _ _ _ n _=>((k:Int)-n).toNat,⟨0,rfl,by omega,rfl,by simpa[leL]using hO,Mod.refl w,fun i h=>.inl h⟩,?_⟩
 rintro o' _ c' _ _ w1⟨i,rfl,hi,rfl,hO1,M1,hF⟩;refine⟨fun hlt=>?_,fun hge=>?_⟩
 ·have e1:J J2 (8*(i:Int))=((8*i:Nat):Int):=by rw[Z0 (by omega) (by omega)];omega
  rw[e1,ZBn _ _ _ rfl,Z60];refine⟨by omega,?_⟩;rintro d7 w8⟨rfl,rfl⟩;have hB:=Blk.new w1 tU8 #[bV (Z7p x i)];have hO2:=hO1.mod' (Mod.alloc w1 (X #[bV (Z7p x i)] tU8));have hsrc:=Z3T (P:=J1) (tx:=Zy) Zn hB (sz:=1) rfl (by intro v hv;simp at hv;subst hv;rfl);obtain⟨o2,c2,w2,h2,hO3,M2,hF2⟩:=Z93 (ty:=Zy) hO2 hsrc (by omega);refine⟨_,w2,h2,_,_,_,rfl,⟨i+1,by rw[Z0 (by omega) (by omega)];omega,by omega,rfl,?_,?_,?_⟩,by dsimp only;rw[Z0 (by omega) (by omega)];omega⟩
  ·rw[ZE3,<-List.append_assoc,Ja]
   exact hO3
  ·exact(M1.step_alloc _).trans M2 (fun j hj h=>(hF j h).elim id (fun h=>by omega))
  ·intro j hj
   rcases hF2 j hj with h|h
   ·exact hF j h
   ·right;rw[Z6]at h;have:=M1.size;omega
 ·obtain rfl:i=k:=by omega
  exact⟨o',c',rfl,hO1,M1,hF⟩
theorem or_u8(a:UInt8):bitsI .or JW (a.toNat:Int) 128=((a|||128:UInt8).toNat:Int):=Z4M a 128
theorem Z25(h:List UInt8):∀v∈(hashA h).toList,v.oneCell'=true:=Z2U (fun _=>rfl)
theorem Z4(h:List UInt8):(hashA h).size=32:=Zh _ _
theorem ZBb{w w1:Z}{s:St}{Q N:Nat}{R:Ending->Z->Prop}(M:Vcg.Mod NoB w w1)(hN:w.heap.size=N)
  (B0:Blk w1 N tHash (G 32 (.int JW 0))) (BQ:Blk w1 Q Z78 (lanesA s)) (hQ:N<Q)
  (hR:∀w',Vcg.Mod NoB w w'->R (J4 (Jc (ZH 32 (fun i=>bV (Z3q s i))))) w') :
  ∀(d23:Addr)(w24:Z),Z5 w1 tHash (G 32 (.int JW 0)) d23 w24 ->
   ∃(I25:Int->Z->Prop)(μ25:Int->Z->Nat),I25 0 w24 /\
   (∀(n26:Int)(j27:Nat->O)(w27:Z),I25 n26 w27 ->
     (((n26<4 ->
       ∀w28:Z,ZF w27 w28 ->
       (0<=(J J2 (8*n26))/\(J J2 (8*n26))<=((32:Nat):Int)) /\
       (0<=n26/\n26<((25:Nat):Int)) /\
       ∃n29:Int,Jh w28 (Jk ⟨Q,0,J5⟩ (JV n26))=U (.int D n29) /\
       Q0 J1 Z13.n #[(.slice J5 0 0),(.int D n29),(.int J2 8)] w28 (fun e30 w31 =>
        ∃o32:Option Addr,∃l33:Nat,∃l34:Nat,e30=J4 (.slice o32 l33 l34) /\
        ∃(v35:O)(w36:Z),JB J1 (builtinV .copy #[Zy,Zy] 3 #[(.slice (U (subD d23 32 (JV (J J2 (8*n26))) 1)) (32-(JV (J J2 (8*n26)))) (32-(JV (J J2 (8*n26))))),(.slice o32 l33 l34)]) w31=Jy v35 w36 /\
        ∃n37:Int,v35=(.int J2 n37) /\
        I25 (J J2 (n26+1)) w36/\μ25 (J J2 (n26+1)) w36<μ25 n26 w27))) /\
      ((¬n26<4 ->
       ∃L38:Array O,ZD w27 d23 32 L38 /\
       ∃w39:Z,JB J1 (Instr.storeAt tHash (Jt (U ⟨N,0,J5⟩)) (Jc L38)) w27=Jy () w39 /\
       ∃L40:Array O,ZD w39 ⟨N,0,J5⟩ 32 L40 /\
       R (J4 (Jc L40)) w39)))):=by
 rintro d23 w24⟨rfl,rfl⟩;have hQl:=BQ.lt;have BT:=Blk.new w1 tHash (G 32 (.int JW 0))
 replace B0:=B0.alloc (X (G 32 (.int JW 0)) tHash)
 replace BQ:=BQ.alloc (X (G 32 (.int JW 0)) tHash)
 replace M:=M.step_alloc (X (G 32 (.int JW 0)) tHash)
 generalize w1.alloc (X (G 32 (.int JW 0)) tHash)=w2 at *
 generalize w1.heap.size=T at *
 refine Z3n 4 (fun i w'=>Vcg.Mod NoB w w'/\Blk w' N tHash (G 32 (.int JW 0))/\Blk w' Q Z78 (lanesA s)/\Blk w' T tHash (ZH 32 (fun j=>bV (if j<8*i then Z3q s j else 0)))) rfl
  ⟨M,B0,BQ,by rw[ZS]at BT;simp only[Nat.mul_zero,JJ,if_false];exact BT⟩ ?_ ?_
 ·clear M B0 BQ BT
  rintro i _ w3 hi⟨M,B0,BQ,BT⟩;rintro _ rfl;have e1:J J2 (8*(i:Int))=((8*i:Nat):Int):=by rw[Z0 (by omega) (by omega)];omega
  rw[e1];refine⟨by omega,by omega,_,BQ.drew.rd0 (ZL _ (by omega)),(Z8w (bs:=[]) (s i) 8 rfl rfl (by omega) (Own.nil _ _ _) (by omega)).mono ?_⟩;rintro _ w4⟨o4,c4,rfl,hO4,M4,hF4⟩;have M4':Vcg.Mod NoB w3.drew w4:=M4.mono (fun k _ h=>Z3Z k h);have BT4:=BT.drew.mod' M4'
  obtain⟨w5,h5,BT5,M5⟩:=Z4l (P:=J1) (tx:=Zy) (ty:=3) (o:=8*i) (dLen:=32-8*i) (dCap:=32-8*i) (c:=c4) (n:=8) Zn Z10 BT4 hO4.bytes
   (by rw[Jp,Z2z];exact(Jo (by omega)).symm) (by rw[Zh];omega)
  rw[Jp,Z2z]at h5;rw[J3 (8*i),subD,if_neg (by omega),Z2,Jg,J6 (8*i)];refine⟨_,_,_,rfl,_,w5,h5,_,rfl,Z7I.next (by rw[Z0 (by omega) (by omega)];omega) hi ⟨((M.step_drew).none_trans M4').trans M5 (fun j hj h=>by simp only[hN]at hj;omega),(B0.drew.mod' M4').mod M5 (by omega),(BQ.drew.mod' M4').mod M5 (by omega),?_⟩⟩
  rw[Jp,JG (by rw[Z2z];omega),Z5y 32 (8*i) _ (fun j=>bV (Z7p (s i) j)) 8 _ (by rw[JN,Z2z]) (fun j hj=>by
   rw[Z5V (by rw[Z2z];exact hj)];simp[leL,Y,hj]) (by omega)]at BT5
  refine(show _=ZH 32 (fun j=>bV (if j<8*(i+1)then Z3q s j else 0))from Z7 (fun j hj=>?_)) ▸ BT5;by_cases h1:8*i<=j/\j<8*i+8
  ·rw[if_pos h1,if_pos (by omega),Z3q,Z7p,show j/8=i by omega,show j%8=j-8*i by omega]
  ·rw[if_neg h1]
   by_cases h2:j<8*i
   ·rw[if_pos h2,if_pos (by omega)]
   ·rw[if_neg h2,if_neg (by omega)]
 ·clear M B0 BQ BT
  rintro _ w3⟨M,B0,BQ,BT⟩;have e:ZH 32 (fun j=>bV (if j<8*4 then Z3q s j else 0))=ZH 32 (fun i=>bV (Z3q s i)):=Z7 (fun i hi=>by rw[if_pos (by omega)]);rw[e]at BT;exact⟨_,BT.rowAll (Zh _ _),_,B0.storeAll (L:=ZH 32 (fun i=>bV (Z3q s i))) (by rw[Zh];kernel_rfl) (by rw[Zh,B]) (Z2U (fun _=>rfl)),_,(B0.row_same _).rowAll (Zh _ _),hR _ (M.step_row (fun h=>by omega))⟩
set_option maxRecDepth 20000 in
theorem ZAD{w:Z}{b:Nat}{o:Option Addr}{m:List UInt8}(hS:Z4i w b o m) :
  Q0 J1 Z0G.n #[Jt (U ⟨b,0,J5⟩)] w (fun e w'=>e=J4 (Jc (hashA (sumOf m)))/\Vcg.Mod NoB w w'):=by
 obtain⟨l,c,hB,hO,hn⟩:=hS;refine Z0G.vc _ _ _ ?_;unfold Z0G.Vc;simp only[Z2,J6];rintro d1 w2⟨rfl,rfl⟩ d3 w4⟨rfl,rfl⟩ _ rfl;have hbl:=hB.lt;have B1:=((Blk.new w tHash (G 32 (.int JW 0))).alloc (X (G 136 (.int JW 0)) tLast)).drew;have B3:=(Blk.new (w.alloc (X (G 32 (.int JW 0)) tHash)) tLast (G 136 (.int JW 0))).drew;have M:=((Mod.alloc (S:=NoB) w (X (G 32 (.int JW 0)) tHash)).step_alloc (X (G 136 (.int JW 0)) tLast)).step_drew;have hB1:=hB.mod' M;have hO1:=hO.mod' M;simp only[Z6]at B3 ⊢;generalize((w.alloc (X (G 32 (.int JW 0)) tHash)).alloc (X (G 136 (.int JW 0)) tLast)).drew=w5 at *
 generalize hNe:w.heap.size=N at *
 have hrl:(restOf m).length=l:=by have:=hO.len;simpa using this
 have hlt:=Z9q m
 obtain⟨w6,h6,B6,M6⟩:=Z4l (P:=J1) (tx:=Zy) (ty:=3) (o:=0) (dLen:=136) (dCap:=136) (c:=c) (n:=(restOf m).length) Zn Z10 B3 hO1.bytes
  (Jo (by omega)).symm (by rw[B];omega)
 rw[JG (J9 _),ZS,Z5y 136 0 _ (fun j=>bV ((restOf m).getD j 0)) (restOf m).length _ (by rw[JN]) (fun j hj=>Z5V hj) (by omega)]at B6;rw[hrl]at h6 B6;refine⟨_,_,_,Z0F hB1,_,w6,h6,_,rfl,by omega,B6.canSet0 (by rw[Zh];omega) rfl,fun w7 h7=>?_⟩;have h7':=h7.at;subst h7';clear h7;simp only[Z2,J6];have B7:=B6.set l (bV 1);rw[Z01]at B7;have M7:=M6.trans (Mod.setCell w6 ⟨N+1,l,J5⟩ (.int JW 1)) (fun i _ h=>h)
 have e7:(ZH 136 fun j=>if j=l then bV 1 else if 0<=j/\j<0+l then bV ((restOf m).getD (j-0) 0)else .int JW 0)=ZH 136 (fun j=>bV (if j<l then(restOf m).getD j 0 else if j=l then 1 else 0)) :=
  Z7 (fun j hj=>by
   by_cases h1:j=l
   ·rw[if_pos h1,if_neg (by omega),if_pos h1]
   ·rw[if_neg h1]
    by_cases h2:j<l
    ·rw[if_pos (by omega),if_pos h2,Q1]
    ·rw[if_neg (by omega),if_neg h2,if_neg h1];rfl)
 rw[e7]at B7;refine⟨_,B7.rd1 (Z8 (by omega)),B7.canSet (by rw[Zh];omega) rfl,?_⟩;rintro _ rfl;rw[or_u8];have B8:=B7.set 135 (bV ((if 135<l then(restOf m).getD 135 0 else if 135=l then 1 else 0)|||128));rw[Z01]at B8
 have e8:(ZH 136 fun j=>if j=135 then bV ((if 135<l then(restOf m).getD 135 0 else if 135=l then 1 else 0)|||128)else bV (if j<l then(restOf m).getD j 0 else if j=l then 1 else 0))=ZH 136 (fun j=>bV (ZCC (restOf m) j)) :=
  Z7 (fun j hj=>by
   unfold ZCC;rw[hrl];by_cases h1:j=135
   ·subst h1;rw[if_pos rfl,if_pos rfl]
   ·rw[if_neg h1,if_neg h1];congr 2;simp)
 rw[e8]at B8;change Blk ((w6.setCell ⟨N+1,l,J5⟩ (.int JW 1)).setCell ⟨N+1,135,J5⟩ (bV ((if 135<l then(restOf m).getD 135 0 else if 135=l then 1 else 0)|||128))) _ _ _ at B8;have M8:=M7.trans (Mod.setCell _ ⟨N+1,135,J5⟩ (bV ((if 135<l then(restOf m).getD 135 0 else if 135=l then 1 else 0)|||128))) (fun i _ h=>h);have hq:N<w5.heap.size:=B1.lt;have hq3:N+1<w5.heap.size:=B3.lt;have B18:=B1.mod M8 (by omega);have hB8:=hB1.mod M8 (by omega);have Mw8:=M.trans M8 (fun i hi h=>by simp only[hNe]at hi;omega);have hs8:=M8.size;generalize((w6.setCell ⟨N+1,l,J5⟩ (.int JW 1)).setCell ⟨N+1,135,J5⟩ (bV ((if 135<l then(restOf m).getD 135 0 else if 135=l then 1 else 0)|||128)))=w8 at *
 have hlast:∀w',Blk w' (N+1) tLast (ZH 136 (fun j=>bV (ZCC (restOf m) j)))->RdB w' (U ⟨N+1,0,J5⟩) (ZD8 (restOf m)):=fun w' h =>
  RdB.of_blk h (fun i hi=>by rw[Z4W]at hi;rw[J6,Z8 hi,ZCr _ hi])
 have hfin:∀w',Vcg.Mod NoB w w'->(fun e w'=>e=J4 (Jc (hashA (sumOf m)))/\Vcg.Mod NoB w w') (J4 (Jc (ZH 32 (fun i=>bV (Z3q (Z4C m) i))))) w':=fun w' h=>by
  refine⟨?_,h⟩;have:hashA (sumOf m)=ZH 32 (fun i=>bV (Z3q (Z4C m) i)):=Z7 (fun i hi=>by rw[Z7j m hi]);rw[this]
 rintro _ rfl;refine⟨_,Z2Z hB8.drew,?_,?_⟩
 ·refine(Z3b (ZCN m) b 0 (Z2s hB8.drew) (ZD8 (restOf m)) (Z4W _) rfl (J9 _) (hlast _ B8.drew)).mono ?_
  rintro _ w9⟨rfl,M9⟩;refine⟨_,rfl,?_⟩;rintro d20 w21⟨rfl,rfl⟩;have BQ:=Blk.new w9 Z78 (G 25 (.int D 0));have hs9:=M9.size;have hs9':=(B18.drew.mod' M9).lt;refine⟨_,BQ.storeAll (L:=lanesA (Z4C m)) (by rw[ZB];kernel_rfl) (by rw[ZB,B]) (Z19 _),?_⟩;exact ZBb (s:=Z4C m) (R:=fun e w'=>e=J4 (Jc (hashA (sumOf m)))/\Vcg.Mod NoB w w') (((Mw8.step_drew).none_trans M9).step_alloc _ |>.step_row (fun h=>by omega)) hNe (((B18.drew.mod' M9).alloc _).row_ne (by omega)) (BQ.row_same _) (by omega) hfin
 ·rintro d41 w42⟨rfl,rfl⟩
  have BQ:=Blk.new w8.drew Z78 (G 25 (.int D 0));have hB9:=hB8.drew.alloc (X (G 25 (.int D 0)) Z78);refine⟨Z2Z hB9,(Z3b (ZCN m) b 0 (Z2s hB9) (ZD8 (restOf m)) (Z4W _) rfl (J9 _) (hlast _ (B8.drew.alloc _))).mono ?_⟩;rintro _ w9⟨rfl,M9⟩;have hs9':=(B18.drew).lt;refine⟨_,rfl,_,(BQ.mod' M9).storeAll (L:=lanesA (Z4C m)) (by rw[ZB];kernel_rfl) (by rw[ZB,B]) (Z19 _),?_⟩;have hsz:w8.drew.heap.size=w8.heap.size:=rfl;exact ZBb (s:=Z4C m) (R:=fun e w'=>e=J4 (Jc (hashA (sumOf m)))/\Vcg.Mod NoB w w') ((((Mw8.step_drew).step_alloc _).none_trans M9).step_row (fun h=>by omega)) hNe (((B18.drew.alloc _).mod' M9).row_ne (by omega)) ((BQ.mod' M9).row_same _) (by omega) hfin
theorem Z8y{w:Z}{o0:Option Addr}{l0 c0:Nat}(ls:List (List UInt8))(hl:l0=ls.length)(hl0:l0<=2^40)(hr:ZEP w o0 ls)(hmax:∀b∈ls,b.length<=2^40) :
  Q0 J1 Z2I.n #[.slice o0 l0 c0] w (fun e w'=>e=J4 (Jc (hashA (sumOf ls.flatten)))/\Vcg.Mod NoB w w'):=by
 subst hl;refine Z2I.vc _ _ _ _ _ ?_;unfold Z2I.Vc;rintro d1 w2⟨rfl,rfl⟩;have B1:=Blk.new w tHash (G 32 (.int JW 0));have M:=Mod.alloc (S:=NoB) w (X (G 32 (.int JW 0)) tHash);refine(ZCT _).mono ?_;rintro _ w3⟨b,rfl,hS,M3,hb⟩;rw[Z6]at hb;have B1':=B1.mod' M3;have M':=M.none_trans M3;refine⟨_,rfl,?_⟩
 refine Z3n ls.length (fun i w'=>Vcg.Mod NoB w w'/\Blk w' w.heap.size tHash (G 32 (.int JW 0))/\∃o,Z4i w' b o (ls.take i).flatten/\∀k,SpB b o k->w.heap.size<k) rfl
  ⟨M',B1',J5,hS,fun k hk=>hk.elim (fun h=>by omega) (fun h=>(Z3Z k h).elim)⟩ ?_ ?_
 ·rintro i _ w4 hi⟨M4,B4,o,hS4,hF⟩
  obtain⟨bb,f,oi,ci,rfl,hbl,hc,hri⟩:=(hr.mod' M4) i hi;refine⟨_,rfl,by omega,_,_,_,by rw[Z2,J3];exact hc,?_⟩;refine(ZAE hS4 hri rfl (hmax _ (by simp[Y,hi]))).mono ?_;rintro _ w5⟨rfl,o',hS5,M5,hF5⟩;refine⟨rfl,Z7I.next (by rw[Z0 (by omega) (by omega)];omega) hi ⟨M4.trans M5 (fun k hk h=>by have:=hF k h;omega),B4.mod M5 (fun h=>by have:=hF _ h;omega),o',?_,?_⟩⟩
  ·rw[Z5S _ _ hi];exact hS5
  ·intro k hk
   have hs:=M4.size;rcases hk with rfl|hk
   ·exact hF _ (.inl rfl)
   ·rcases hF5 k hk with h|h
    ·exact hF _ (.inr h)
    ·have:=B4.lt;omega
 ·rintro _ w4⟨M4,B4,o,hS4,hF⟩
  rw[List.take_length]at hS4;refine(ZAD hS4).mono ?_;rintro _ w5⟨rfl,M5⟩;exact⟨_,rfl,_,(B4.mod' M5).storeAll (L:=hashA (sumOf ls.flatten)) (by rw[Z4];kernel_rfl) (by rw[Z4,B]) (Z25 _),_,((B4.mod' M5).row_same _).rowAll (Z4 _),rfl,(M4.none_trans M5).step_row (fun h=>by omega)⟩
end Go.Proofs.YtfghidehlnfdiaaGreat
end
section
namespace Go.Vcg
theorem ZBS(bs:List UInt8):∀(k i:Nat),8*k<=i->(leK bs k).getLsbD i=false
 |0,i,_=>by simp[leK]
 |k+1,i,h=>by
  rw[leK,Q2,ZBS bs k i (by omega),BitVec.getLsbD_shiftLeft,Z5K,BitVec.getLsbD_setWidth];have:(bs.getD k 0).toBitVec.getLsbD (i-8*k)=false:=BitVec.getLsbD_of_ge _ _ (by omega);rw[this];simp
theorem ZFr(bs:List UInt8)(k:Nat)(b:UInt8):leK bs k|||(Z5K b<<<(8*k))=leK bs k^^^(Z5K b<<<(8*k)):=by
 apply BitVec.eq_of_getLsbD_eq;intro i hi;rw[Q2,BitVec.getLsbD_xor,BitVec.getLsbD_shiftLeft];by_cases h:i<8*k
 ·simp[h]
 ·rw[ZBS bs k i (by omega)];simp
def ZDn(s:St)(c:Nat->UInt8):Nat->St
 |0=>s
 |i+1=>fun j=>if j=i/8 then ZDn s c i j^^^(Z5K (c i)<<<(8*(i%8)))else ZDn s c i j
def lxK(c:Nat->UInt8):Nat->BitVec 64
 |0=>0
 |k+1=>lxK c k^^^(Z5K (c k)<<<(8*k))
theorem ZB1(s:St)(c:Nat->UInt8):∀(i j:Nat),ZDn s c i j=s j^^^lxK (fun m=>c (8*j+m)) (Jd (i-8*j) 8)
 |0,j=>by simp[ZDn,lxK]
 |i+1,j=>by
  rw[ZDn];by_cases h:j=i/8
  ·simp only[h,if_true]
   rw[<-h,ZB1 s c i j];have e1:Jd (i-8*j) 8=i%8:=by show min _ _=_;omega
   have e2:Jd (i+1-8*j) 8=i%8+1:=by show min _ _=_;omega
   rw[e1,e2,lxK,show 8*j+i%8=i by omega,Jj]
  ·simp only[h,if_false]
   rw[ZB1 s c i j];have e:Jd (i-8*j) 8=Jd (i+1-8*j) 8:=by show min _ _=min _ _;omega
   rw[e]
theorem ZCy(bs:List UInt8)(c:Nat->UInt8):∀k,(∀m,m<k->bs.getD m 0=c m)->leK bs k=lxK c k
 |0,_=>rfl
 |k+1,h=>by rw[leK,ZFr,lxK,ZCy bs c k (fun m hm=>h m (by omega)),h k (by omega)]
theorem ZDo(s:St)(c:Nat->UInt8)(j:Nat)(hj:j<25):ZDn s c 136 j=ZCJ s ((JF 136).map c) j:=by
 rw[ZB1,ZCJ];by_cases h:j<17
 ·rw[if_pos h]
  have e:Jd (136-8*j) 8=8:=by show min _ _=_;omega
  have hl:((((JF 136).map c).drop (8*j)).take 8).length=8:=by rw[JD,J0,JN,List.length_range];omega
  rw[e,ZBT,hl];congr 1
  symm
  refine ZCy _ _ 8 (fun m hm=>?_);rw[Y,JA hm,JO,I,Jx (by omega)];rfl
 ·rw[if_neg h]
  have e:Jd (136-8*j) 8=0:=by show min _ _=_;omega
  rw[e,lxK];simp
def cAt(m:List UInt8)(k i:Nat):UInt8:=(if 136*k+i<m.length then m.getD (136*k+i) 0 else if 136*k+i=m.length then 1 else 0)|||(if i=135/\m.length<136*k+136 then 128 else 0)
def Z6z(m:List UInt8):Nat->St
 |0=>ZDp
 |k+1=>Z6Q (Z6z m k) ((JF 136).map (cAt m k))
theorem ZDw(m:List UInt8)(k:Nat)(h:136*k+136<=m.length):(JF 136).map (cAt m k)=(m.drop (136*k)).take 136:=by
 apply JT;intro i;by_cases hi:i<136
 ·rw[I,Jx hi,JA hi,JO]
  simp only[Option.map_some,cAt];rw[if_pos (by omega),if_neg (by omega),JM (by omega)];simp[Y,show 136*k+i<m.length by omega]
 ·rw[JK (by simp;omega),JK (by simp;omega)]
theorem ZDx(m:List UInt8):(JF 136).map (cAt m (m.length/136))=ZD8 (restOf m):=by
 refine List.map_congr_left (fun i hi=>?_);have hi':i<136:=List.mem_range.1 hi;have hl:=Z4t m;simp only[cAt,ZCC]
 have e1:(if i=135/\m.length<136*(m.length/136)+136 then(128:UInt8)else 0)=(if i=135 then 128 else 0):=by
  by_cases h:i=135
  ·rw[if_pos ⟨h,by omega⟩,if_pos h]
  ·rw[if_neg (fun g=>h g.1),if_neg h]
 rw[e1];congr 1;by_cases h1:i<(restOf m).length
 ·rw[if_pos (by omega),if_pos h1,restOf]
  simp only[Y,JO]
 ·rw[if_neg (by omega),if_neg h1]
  by_cases h2:i=(restOf m).length
  ·rw[if_pos (by omega),if_pos h2]
  ·rw[if_neg (by omega),if_neg h2]
theorem ZBd(m:List UInt8):∀k,k<=m.length/136->Z6z m k=ZA5 ZDp m k
 |0,_=>rfl
 |k+1,h=>by rw[Z6z,ZBd m k (by omega),ZDw m k (by omega),ZA5]
theorem ZCG(m:List UInt8):Z6z m (m.length/136+1)=Z4C m:=by
 rw[Z6z,ZBd m _ (J9 _),ZDx,Z4C,ZCN]
end Go.Vcg
end
section
namespace Go.Proofs.YtfghidehlnfdiaaGreat
open Go Go.Vcg
theorem or1(w:Z)(x y:QF):JB J1 (Z07 .or tU8 x y (.int JW 1) (.int JW 128)) w=Jy (.int JW 129) w:=by rfl
theorem or0(w:Z)(x y:QF):JB J1 (Z07 .or tU8 x y (.int JW 0) (.int JW 128)) w=Jy (.int JW 128) w:=by rfl
theorem Z7F(b:UInt8):J D (b.toNat:Int)=uI (Z5K b):=by rw[<-ZBq,Z7G]
theorem Z2l{w:Z}{o0:Option Addr}{l0 c0:Nat}(m:List UInt8)(hl:l0=m.length)(hmax:m.length<=2^40)(hr:RdB w o0 m) :
  Q0 J1 Z0n.n #[.slice o0 l0 c0] w (fun e w'=>e=J4 (Jc (hashA (sumOf m)))/\Vcg.Mod NoB w w'):=by
 subst hl;refine Z0n.vc _ _ _ _ _ ?_;unfold Z0n.Vc;rintro d1 w2⟨rfl,rfl⟩ d3 w4⟨rfl,rfl⟩;have B1:=(Blk.new w tHash (G 32 (.int JW 0))).alloc (X (G 25 (.int D 0)) tLanes);have B3:=Blk.new (w.alloc (X (G 32 (.int JW 0)) tHash)) tLanes (G 25 (.int D 0));have M:=(Mod.alloc (S:=NoB) w (X (G 32 (.int JW 0)) tHash)).step_alloc (X (G 25 (.int D 0)) tLanes);simp only[Z6]at B3 ⊢;generalize(w.alloc (X (G 32 (.int JW 0)) tHash)).alloc (X (G 25 (.int D 0)) tLanes)=w4 at *
 generalize hNe:w.heap.size=N at *
 refine⟨fun n w'=>∃k:Nat,n=((136*k:Nat):Int)/\k<=m.length/136+1/\Vcg.Mod NoB w w'/\Blk w' N tHash (G 32 (.int JW 0))/\Blk w' (N+1) tLanes (lanesA (Z6z m k)),
  fun n _=>((m.length:Int)+136-n).toNat,⟨0,rfl,by omega,M,B1,by rw[ZS]at B3;exact B3⟩,?_⟩
 clear M B1 B3;rintro _ _ w1⟨k,rfl,hk,M,B1,B3⟩;refine⟨fun hle=>?_,fun hgt=>?_⟩
 ·have hk':136*k<=m.length:=by omega
  refine Z3n 136 (fun i w'=>Vcg.Mod NoB w w'/\Blk w' N tHash (G 32 (.int JW 0))/\Blk w' (N+1) tLanes (lanesA (ZDn (Z6z m k) (cAt m k) i))) rfl ⟨M,B1,B3⟩ ?_ ?_
  ·clear M B1 B3
   rintro i _ w10 hi⟨M,B1,B3⟩;have eI:J J2 (((136*k:Nat):Int)+(i:Int))=((136*k+i:Nat):Int):=by rw[Z0 (by omega) (by omega)];omega
   have eJ:J J2 (((136*k:Nat):Int)+136)=((136*k+136:Nat):Int):=by rw[Z0 (by omega) (by omega)];omega
   have eq:J J2 (QP (i:Int) 8)=((i/8:Nat):Int):=by
    rw[Je (by omega),Z0 (by omega) (by omega)];omega
   have es:J J2 (8*Ji (i:Int) 8)=((8*(i%8):Nat):Int):=by
    simp(disch:=omega) only[Z1u,Z0];omega
   rw[eI,eJ,eq,es]
   have tail:∀(v:Int),v=uI (Z5K (cAt m k i))->∀w13:Z,ZF w10 w13 ->
     (0<=((i/8:Nat):Int)/\((i/8:Nat):Int)<((25:Nat):Int)) /\
     ∃n14:Int,Jh w13 (Jk ⟨N+1,0,J5⟩ (JV ((i/8:Nat):Int)))=U (.int D n14) /\
     0<=((8*(i%8):Nat):Int) /\
     (0<=((i/8:Nat):Int)/\((i/8:Nat):Int)<((25:Nat):Int)) /\
     Z1 w13 (Jk ⟨N+1,0,J5⟩ (JV ((i/8:Nat):Int))) (.int D (bitsI .xor D n14 (shlI D v ((8*(i%8):Nat):Int)))) /\
     ∀w15:Z,Z3 w13 (Jk ⟨N+1,0,J5⟩ (JV ((i/8:Nat):Int))) (.int D (bitsI .xor D n14 (shlI D v ((8*(i%8):Nat):Int)))) w15 ->
     Z7I 136 (fun i w'=>Vcg.Mod NoB w w'/\Blk w' N tHash (G 32 (.int JW 0))/\Blk w' (N+1) tLanes (lanesA (ZDn (Z6z m k) (cAt m k) i))) (J J2 ((i:Int)+1)) w15 /\
      Vcg.ZEq 136 (J J2 ((i:Int)+1)) w15<Vcg.ZEq 136 (i:Int) w10:=by
    rintro v rfl _ rfl;refine⟨by omega,_,B3.drew.rd0 (ZL _ (by omega)),by omega,by omega,B3.drew.canSet0 (by rw[ZB];omega) rfl,fun w15 h15=>?_⟩;rw[h15.at,Z83,Z0B];refine Z7I.next (by rw[Z0 (by omega) (by omega)];omega) hi ⟨(M.step_drew).step_set (fun h=>by simp only[hNe]at h;omega),B1.drew.set_ne (by simp),?_⟩;have:=B3.drew.set (i/8) (uV (ZDn (Z6z m k) (cAt m k) i (i/8)^^^(Z5K (cAt m k i)<<<(8*(i%8)))));rw[lanesA,Z01]at this;refine(show _=lanesA (ZDn (Z6z m k) (cAt m k) (i+1))from Z7 (fun j hj=>?_)) ▸ this;rw[ZDn];by_cases h:j=i/8
    ·simp only[h,if_true]
    ·simp only[h,if_false]
   have c128:∀x:UInt8,J D (bitsI .or JW (x.toNat:Int) 128)=uI (Z5K (x|||128)):=fun x=>by rw[show(128:Int)=((128:UInt8).toNat:Int)from rfl,Z4M,Z7F]
   have z:∀x:UInt8,x|||0=x:=fun x=>by simp
   refine⟨fun hin=>?_,fun hout=>?_⟩
   ·obtain⟨d,rfl,hd⟩:=(hr.mod' M).get (i:=136*k+i) (by omega)
    refine⟨d,rfl,by omega,_,hd,fun h135=>⟨fun hg=>?_,fun hg=>?_⟩,fun h135=>?_⟩
    ·refine tail _ ?_
     rw[c128,cAt,if_pos (by omega),if_pos (by omega)]
    ·refine tail _ ?_
     rw[Z7F,cAt,if_pos (by omega),if_neg (by omega),z]
    ·refine tail _ ?_
     rw[Z7F,cAt,if_pos (by omega),if_neg (by omega),z]
   ·refine⟨fun he=>⟨fun h135=>⟨fun hg=>?_,fun hg=>?_⟩,fun h135=>?_⟩,fun he=>⟨fun h135=>⟨fun hg=>?_,fun hg=>?_⟩,fun h135=>?_⟩⟩
    ·refine⟨_,or1 _ _ _,_,rfl,tail _ ?_⟩
     rw[cAt,if_neg (by omega),if_pos (by omega),if_pos (by omega)];rfl
    ·refine tail _ ?_
     rw[cAt,if_neg (by omega),if_pos (by omega),if_neg (by omega)];rfl
    ·refine tail _ ?_
     rw[cAt,if_neg (by omega),if_pos (by omega),if_neg (by omega)];rfl
    ·refine⟨_,or0 _ _ _,_,rfl,tail _ ?_⟩
     rw[cAt,if_neg (by omega),if_neg (by omega),if_pos (by omega)];rfl
    ·refine tail _ ?_
     rw[cAt,if_neg (by omega),if_neg (by omega),if_neg (by omega)];rfl
    ·refine tail _ ?_
     rw[cAt,if_neg (by omega),if_neg (by omega),if_neg (by omega)];rfl
  ·clear M B1 B3
   rintro _ w10⟨M,B1,B3⟩;rw[Z9a (fun j hj=>ZDo _ _ j hj)]at B3;refine⟨_,B3.rowAll (ZB _),(Z63 _ _).mono ?_⟩;rintro _ w11⟨rfl,M11⟩;refine⟨_,rfl,_,(B3.mod' M11).storeAll (L:=lanesA (Z6z m (k+1))) (by rw[ZB];kernel_rfl) (by rw[ZB,ZB]) (Z19 _),⟨k+1,by rw[Z0 (by omega) (by omega)];omega,by omega,(M.none_trans M11).step_row (fun h=>by omega),(B1.mod' M11).row_ne (by omega),(B3.mod' M11).row_same _⟩,?_⟩;dsimp only;rw[Z0 (by omega) (by omega)];omega
 ·obtain rfl:k=m.length/136+1:=by omega
  rw[ZCG]at B3;rintro d49 w50⟨rfl,rfl⟩;have hq:N+1<w1.heap.size:=B3.lt;have B4:=Blk.new w1 tHash (G 32 (.int JW 0))
  replace B1:=B1.alloc (X (G 32 (.int JW 0)) tHash)
  replace B3:=B3.alloc (X (G 32 (.int JW 0)) tHash)
  replace M:=M.step_alloc (X (G 32 (.int JW 0)) tHash)
  generalize w1.alloc (X (G 32 (.int JW 0)) tHash)=w2 at *
  generalize w1.heap.size=T at *
  refine Z3n 32 (fun i w'=>Vcg.Mod NoB w w'/\Blk w' N tHash (G 32 (.int JW 0))/\Blk w' (N+1) tLanes (lanesA (Z4C m))/\Blk w' T tHash (ZH 32 (fun j=>bV (if j<i then Z3q (Z4C m) j else 0)))) rfl
   ⟨M,B1,B3,by rw[ZS]at B4;simp only[JJ,if_false];exact B4⟩ ?_ ?_
  ·clear M B1 B3 B4
   rintro i _ w3 hi⟨M,B1,B3,B4⟩
   have eq:J J2 (QP (i:Int) 8)=((i/8:Nat):Int):=by
    rw[Je (by omega),Z0 (by omega) (by omega)];omega
   have es:J J2 (8*Ji (i:Int) 8)=((8*(i%8):Nat):Int):=by
    simp(disch:=omega) only[Z1u,Z0];omega
   rw[eq,es];refine⟨by omega,_,B3.rd0 (ZL _ (by omega)),by omega,by omega,B4.canSet0 (by rw[Zh];omega) rfl,fun w15 h15=>?_⟩;rw[h15.at,ZBn _ _ _ rfl,Z60];refine Z7I.next (by rw[Z0 (by omega) (by omega)];omega) hi ⟨M.step_set (fun h=>by simp only[hNe]at h;omega),B1.set_ne (by simp;omega),B3.set_ne (by simp;omega),?_⟩;have:=B4.set i (bV (Z3q (Z4C m) i));rw[Z01]at this;refine(show _=ZH 32 (fun j=>bV (if j<i+1 then Z3q (Z4C m) j else 0))from Z7 (fun j hj=>?_)) ▸ this;by_cases h:j=i
   ·rw[if_pos h,if_pos (by omega),h]
   ·rw[if_neg h]
    by_cases h2:j<i
    ·rw[if_pos h2,if_pos (by omega)]
    ·rw[if_neg h2,if_neg (by omega)]
  ·clear M B1 B3 B4
   rintro _ w3⟨M,B1,B3,B4⟩;have e:ZH 32 (fun j=>bV (if j<32 then Z3q (Z4C m) j else 0))=hashA (sumOf m):=Z7 (fun j hj=>by rw[if_pos hj,Z7j m hj]);rw[e]at B4;exact⟨_,B4.rowAll (Z4 _),_,B1.storeAll (L:=hashA (sumOf m)) (by rw[Z4];kernel_rfl) (by rw[Z4,B]) (Z25 _),_,(B1.row_same _).rowAll (Z4 _),rfl,M.step_row (fun h=>by omega)⟩
end Go.Proofs.YtfghidehlnfdiaaGreat
end
section
namespace Go.Vcg
section
variable{P:Program}{w:Z}{t e:F}{n:Nat}{k:IntKind}
theorem Z3t(d:Nat)(ht:P.underlying t=U (.array n e))(he:P.underlying e=U (.int k))(hsz:(P.info? e).map (·.size)=U 1)(f g:Nat->Int) :
  (Op.equalIn (d+2) t (Jc (ZH n (fun i=>.int k (f i)))) (Jc (ZH n (fun i=>.int k (g i))))).run P w=Jy (decide (∀i,i<n->f i=g i)) w:=by
 obtain⟨inf,hi1,hi2⟩:=Option.map_eq_some_iff.1 hsz;have hs:∀w,(QE e).run P w=Jy 1 w:=fun w=>by simp[QE,Q7,hi1,hi2]
 have hall:decide (∀i,i<n->f i=g i)=((Q4 0 n 1).all fun i=>f i == g i):=by
  rw[Bool.eq_iff_iff];simp only[decide_eq_true_eq,List.all_eq_true,List.mem_range'_1,Q3,true_and,J6,beq_iff_eq]
 rw[hall,Op.equalIn];simp only[Jm,run_underlying ht,JL,hs,Std.Legacy.Range.forIn_eq_forIn_range',Std.Legacy.Range.size,Q1,Nat.add_sub_cancel,Nat.div_one];have hl:∀i∈Q4 0 n 1,i<n:=fun i hi=>by simpa using(List.mem_range'_1.1 hi).2
 generalize Q4 0 n 1=l at hl ⊢
 induction l with
 |nil=>simp
 |cons i l ih =>
  have hi:i<n:=hl i (by simp)
  have px:∀h:Nat->Int,(part e (ZH n (fun i=>QN k (h i))) (i*1)).run P w=Jy (.int k (h i)) w:=by
   intro h;simp only[Jg];simp[part,isAgg,run_underlying he,Z8 hi]
  have pe:(Op.equalIn (d+1) e (.int k (f i)) (.int k (g i))).run P w=Jy (f i == g i) w:=run_equalIn_int w d e k k _ _ he;simp only[List.forIn_cons,Jm,px,pe,JL,List.all_cons];cases hb:(f i == g i)
  ·simp
  ·simp only[Bool.not_true,Bool.false_eq_true,if_false,Sem.run_pure,JL,Bool.true_and]
   exact ih fun j hj=>hl j (by simp[hj])
theorem ZDR(ht:P.underlying t=U (.array n e))(he:P.underlying e=U (.int k))(hsz:(P.info? e).map (·.size)=U 1)(hg:P.eqGuardType P.depth t=false)(x y:QF)(f g:Nat->Int) :
  JB P (Z07 .eql t x y (Jc (ZH n (fun i=>.int k (f i)))) (Jc (ZH n (fun i=>.int k (g i))))) w=Jy (.bool (decide (∀i,i<n->f i=g i))) w:=by
 have hgd:(QG .eql t x y (Jc (ZH n (fun i=>.int k (f i)))) (Jc (ZH n (fun i=>.int k (g i))))).run P w=Jy () w:=by
  have hpg:∀w,JB P program w=Jy P w:=fun w=>rfl;simp[QG,hpg,hg]
 rw[Z07,Jm,hgd,JL,run_eql_struct,Z3t 9998 ht he hsz];rfl
theorem ZDS(ht:P.underlying t=U (.array n e))(he:P.underlying e=U (.int k))(hsz:(P.info? e).map (·.size)=U 1)(hg:P.eqGuardType P.depth t=false)(x y:QF)(f g:Nat->Int) :
  JB P (Z07 .neq t x y (Jc (ZH n (fun i=>.int k (f i)))) (Jc (ZH n (fun i=>.int k (g i))))) w=Jy (.bool (!decide (∀i,i<n->f i=g i))) w:=by
 have hgd:(QG .neq t x y (Jc (ZH n (fun i=>.int k (f i)))) (Jc (ZH n (fun i=>.int k (g i))))).run P w=Jy () w:=by
  have hpg:∀w,JB P program w=Jy P w:=fun w=>rfl;simp[QG,hpg,hg]
 rw[Z07,Jm,hgd,JL,run_neq_struct,Z3t 9998 ht he hsz];rfl
end
theorem Z5j{P:Program}{w:Z}{t e:F}{b l c:Nat}{te:F}{cs:Array O}(ht:P.underlying t=U (.slice e))(he:P.underlying e=U (.int JW))(h:Blk w b te cs) :
  ∃w',JB P (convert t t (.slice (U ⟨b,0,J5⟩) l c)) w=Jy (.slice (U ⟨b,0,J5⟩) l c) w'/\Mod (·=b) w w'/\∀a,w'.cell? a=w.cell? a:=by
 have hb:w.heap[b]?=U (X cs te (0,0)):=h;refine⟨w.freeze ⟨b,cs.size,J5⟩ 1,?_,?_,?_⟩
 ·have h1:∀w:Z,JB P (shape b) w=Jy (w.shape? b) w:=fun w=>rfl
  have h2:∀(a:Addr)(n:Nat)(w:Z),JB P (freeze a n) w=Jy () (w.freeze a n):=fun a n w=>rfl;have h3:w.shape? b=U (te,cs.size):=by simp[World.shape?,hb]
  simp[convert,run_underlying ht,run_underlying he,markStringish,h1,h2,h3]
 ·unfold QH
  rw[if_neg (by decide)];exact⟨rfl,rfl,rfl,by simp,fun k hk hn=>by simp only[JU];rw[if_neg (fun e=>hn e.symm)]⟩
 ·intro a
  unfold QH;rw[if_neg (by decide)];simp only[Jh,JU];by_cases ha:b=a.block
  ·rw[if_pos ha,<-ha,hb];rfl
  ·rw[if_neg ha]
end Go.Vcg
end
section
namespace Go.Vcg
open Go
theorem Z8S{α β:Type}{f:α->Option β}:∀{l:List α} {ys:List β},l.mapM f=U ys->∀x∈l,∃y,f x=U y
 |[],_,_,x,hx=>by cases hx
 |a::l,ys,h,x,hx=>by
  rw[Q8]at h;cases ha:f a with
  |none=>simp[ha]at h
  |some b =>
   cases hl:l.mapM f with
   |none=>simp[ha,hl]at h
   |some bs =>
    rcases List.mem_cons.1 hx with rfl|hx
    ·exact⟨b,ha⟩
    ·exact Z8S hl x hx
section
variable{H:Type}{enc:F×O->H}{P:Program}{W:Z}{sp:Nat->Bool}{held:Bool}{b0 base:Nat}{r:Reach}
end
section
variable{H:Type}{enc:F×O->H}{P:Program}{W:Z}{sp:Nat->Bool}{held:Bool}{base:Nat}
theorem Z4O{a:Addr}{vs:List O}(h:W.cells? base a 1=U vs):∃v,vs=[v]/\W.cell? a=U v:=by
 unfold World.cells? at h;split at h
 ·simp only[List.range_one,Q8,List.mapM_nil]at h
  have e:a.add 0=a:=by simp[Jk]
  rw[e]at h;cases hc:W.cell? a with
  |none=>simp[hc]at h
  |some v=>simp[hc]at h;exact⟨v,h.symm,rfl⟩
 ·cases h
theorem Z88{fuel:Nat}{t e:F}{v:O}{d:DataW H}{ps:List QI}(ht:P.underlying t=U (.slice e))(hce:P.cellsOf e=1)
  (h:JH enc P W base sp held fuel t [v]=U (d,ps)) :
  ∃o l c,v=.slice o l c/\l<=c/\c<=Jr/\∀i,i<l->∃b f u d' ps' fuel',o=U ⟨b,f,J5⟩/\b<W.heap.size/\W.cell? ⟨b,f+i,J5⟩=U u/\JH enc P W base sp held fuel' e [u]=U (d',ps'):=by
 cases fuel with
 |zero=>simp[JH]at h
 |succ fuel =>
  cases v with
  |slice o l c =>
   cases o with
   |none =>
    have:l=0/\c=0:=by
     rcases l with _|l<;>rcases c with _|c<;>simp[JH,ht]at h ⊢
    obtain⟨rfl,rfl⟩:=this;exact⟨J5,0,0,rfl,J9 _,Q3 _,fun i hi=>(JJ _ hi).elim⟩
   |some a =>
    simp only[JH,ht,hce,Jg]at h;split at h
    ·rename_i hc
     refine⟨U a,l,c,rfl,hc.2.1,hc.2.2,fun i hi=>?_⟩;obtain⟨els,hm,_⟩:=Option.bind_eq_some_iff.1 h;obtain⟨y,hy⟩:=Z8S hm i (List.mem_range.2 hi);obtain⟨vs,hv,hd⟩:=Option.bind_eq_some_iff.1 hy;obtain⟨u,rfl,hu⟩:=Z4O hv;obtain⟨y0,hy0⟩:=Z8S hm 0 (List.mem_range.2 (by omega));obtain⟨vs0,hv0,_⟩:=Option.bind_eq_some_iff.1 hy0;obtain⟨u0,_,hu0⟩:=Z4O hv0
     have hspot:a.spot=J5:=by
      have e:a.add 0=a:=by simp[Jk]
      rw[e]at hu0;unfold Jh at hu0;cases hs:a.spot with
      |none=>rfl
      |some x =>
       rw[hs]at hu0;split at hu0<;>simp at hu0
     obtain⟨b,f,spot⟩:=a;simp only at hspot;subst hspot;rw[Z2]at hu;refine⟨b,f,u,y.1,y.2,fuel,rfl,?_,hu,hd⟩;unfold Jh at hu;split at hu
     ·rename_i hb;exact(Array.getElem?_eq_some_iff.1 hb).1
     ·cases hu
    ·cases h
  |_=>simp[JH,ht]at h
theorem ZFK{fuel:Nat}{e:F}{u:O}{d:DataW H}{ps:List QI}(he:P.underlying e=U (.int JW))(h:JH enc P W base sp held fuel e [u]=U (d,ps)):∃x:UInt8,u=bV x:=by
 cases fuel with
 |zero=>simp[JH]at h
 |succ fuel =>
  simp only[JH,he]at h;cases u with
  |int k m =>
   simp only at h;split at h
   ·rename_i hk
    obtain⟨rfl,hw⟩:=hk;simp only[Lit.wf,Bool.and_eq_true,decide_eq_true_eq]at hw;have h1:IntKind.min JW=0:=by decide
    have h2:IntKind.max JW=255:=by decide
    refine⟨UInt8.ofNat m.toNat,?_⟩
    have:((UInt8.ofNat m.toNat).toNat:Int)=m:=by
     rw[UInt8.toNat_ofNat'];omega
    rw[bV,this]
   ·cases h
  |_=>simp at h
theorem Z87{fuel:Nat}{t e:F}{v:O}{d:DataW H}{ps:List QI}(ht:P.underlying t=U (.slice e))(he:P.underlying e=U (.int JW))(hce:P.cellsOf e=1)
  (h:JH enc P W base sp held fuel t [v]=U (d,ps)):∃o c bs,v=.slice o bs.length c/\bs.length<=c/\c<=Jr/\RdB W o bs:=by
 obtain⟨o,l,c,rfl,hlc,hcm,hall⟩:=Z88 ht hce h
 have hx:∀i,∃x:UInt8,i<l->∃b f,o=U ⟨b,f,J5⟩/\b<W.heap.size/\W.cell? ⟨b,f+i,J5⟩=U (bV x):=fun i=>by
  by_cases hi:i<l
  ·obtain⟨b,f,u,d',ps',fuel',ho,hb,hu,hd⟩:=hall i hi
   obtain⟨x,rfl⟩:=ZFK he hd;exact⟨x,fun _=>⟨b,f,ho,hb,hu⟩⟩
  ·exact⟨0,fun h=>(hi h).elim⟩
 have hl:((JF l).map (fun i=>Classical.choose (hx i))).length=l:=by simp
 refine⟨o,c,(JF l).map (fun i=>Classical.choose (hx i)),by rw[hl],by rw[hl];exact hlc,hcm,fun hne=>?_⟩;have hl0:0<l:=by rw[<-hl];exact List.length_pos_iff.2 hne
 obtain⟨b,f,ho,hb,_⟩:=Classical.choose_spec (hx 0) hl0;subst ho;refine⟨b,f,rfl,hb,fun i hi=>?_⟩;rw[hl]at hi;obtain⟨b',f',ho,hb',hc⟩:=Classical.choose_spec (hx i) hi;cases ho;rw[hc];simp[Y,hi]
end
end Go.Vcg
end
section
namespace Go.Vcg
section
variable{C:Type}
structure Stp (S:C->Prop) (w:Z) (la:Nat->C) (w':Z) (la':Nat->C):Prop where
 os:w'.os=w.os
 tape:w'.tape=w.tape
 output:w'.output=w.output
 size:w.heap.size<=w'.heap.size
 lab:∀k,k<w.heap.size->la' k=la k
 block:∀k,k<w.heap.size->¬S (la k)->w'.heap[k]?=w.heap[k]?
def ext(lab:Nat->C)(n:Nat)(c:C):Nat->C:=fun k=>if k<n then lab k else c
theorem Z1d{lab:Nat->C}{n k:Nat}{c:C}(h:k<n):ext lab n c k=lab k:=if_pos h
theorem Z0D{lab:Nat->C}{n k:Nat}{c:C}(h:n<=k):ext lab n c k=c:=if_neg (by omega)
variable{S T:C->Prop}{w w' w'':Z}{lab lab' lab'':Nat->C}
theorem Stp.refl(S:C->Prop)(w:Z)(lab:Nat->C):Stp S w lab w lab:=⟨rfl,rfl,rfl,J9 _,fun _ _=>rfl,fun _ _ _=>rfl⟩
theorem Stp.trans(h:Stp S w lab w' lab')(k:Stp S w' lab' w'' lab''):Stp S w lab w'' lab'' :=
 ⟨k.os.trans h.os,k.tape.trans h.tape,k.output.trans h.output,Nat.le_trans h.size k.size,
  fun i hi=>(k.lab i (JE hi h.size)).trans (h.lab i hi),
  fun i hi hn=>(k.block i (JE hi h.size) (by rw[h.lab i hi];exact hn)).trans (h.block i hi hn)⟩
theorem Stp.mono(h:Stp S w lab w' lab')(hs:∀c,S c->T c):Stp T w lab w' lab' :=
 ⟨h.os,h.tape,h.output,h.size,h.lab,fun i hi hn=>h.block i hi (fun k=>hn (hs _ k))⟩
theorem Stp.of_mod{Q:Nat->Prop}(h:Mod Q w w')(c:C)(hq:∀k,k<w.heap.size->Q k->S (lab k)):Stp S w lab w' (ext lab w.heap.size c) :=
 ⟨h.os,h.tape,h.output,h.size,fun _ hi=>Z1d hi,fun i hi hn=>h.block i hi (fun q=>hn (hq i hi q))⟩
theorem Stp.of_nob(h:Mod NoB w w')(c:C):Stp S w lab w' (ext lab w.heap.size c):=Stp.of_mod h c (fun _ _ h=>h.elim)
theorem Stp.drew(S:C->Prop)(w:Z)(lab:Nat->C):Stp S w lab w.drew lab:=⟨rfl,rfl,rfl,J9 _,fun _ _=>rfl,fun _ _ _=>rfl⟩
theorem Stp.alloc(S:C->Prop)(w:Z)(lab:Nat->C)(o:Obj)(c:C):Stp S w lab (w.alloc o) (ext lab w.heap.size c):=Stp.of_nob (Mod.alloc w o) c
theorem Stp.setCell{a:Addr}{v:O}(hs:S (lab a.block)):Stp S w lab (w.setCell a v) lab :=
 ⟨rfl,rfl,rfl,by simp[World.setCell],fun _ _=>rfl,fun k _ hn=>heap_setCell_other w a k v (fun e=>hn (e ▸ hs))⟩
theorem Stp.mod{Q:Nat->Prop}(h:Stp S w lab w' lab')(hq:∀k,k<w.heap.size->S (lab k)->Q k):Mod Q w w' :=
 ⟨h.os,h.tape,h.output,h.size,fun k hk hn=>h.block k hk (fun s=>hn (hq k hk s))⟩
theorem Stp.nob(h:Stp S w lab w' lab')(hq:∀k,k<w.heap.size->¬S (lab k)):Mod NoB w w':=h.mod (fun k hk s=>(hq k hk s).elim)
structure CB (w:Z) (lab:Nat->C) (c:C) (b:Nat) (t:F) (cs:Array O):Prop where
 blk:Blk w b t cs
 clr:lab b=c
variable{c:C}{b:Nat}{t:F}{cs:Array O}
theorem CB.stp(h:CB w lab c b t cs)(m:Stp S w lab w' lab')(hs:¬S c):CB w' lab' c b t cs :=
 ⟨(m.block b h.blk.lt (by rw[h.clr];exact hs)).trans h.blk,(m.lab b h.blk.lt).trans h.clr⟩
theorem CB.new(w:Z)(lab:Nat->C)(c:C)(t:F)(cs:Array O):CB (w.alloc (X cs t)) (ext lab w.heap.size c) c w.heap.size t cs:=⟨Blk.new w t cs,Z0D (J9 _)⟩
theorem CB.set(h:CB w lab c b t cs)(i:Nat)(v:O):CB (w.setCell ⟨b,i,J5⟩ v) lab c b t (cs.setIfInBounds i v):=⟨h.blk.set i v,h.clr⟩
structure CBy (w:Z) (lab:Nat->C) (c:C) (o:Option Addr) (bs:List UInt8):Prop where
 rd:RdB w o bs
 clr:bs≠[]->∀d,o=U d->lab d.block=c
variable{o:Option Addr}{bs:List UInt8}
theorem CBy.stp(h:CBy w lab c o bs)(m:Stp S w lab w' lab')(hs:¬S c):CBy w' lab' c o bs:=by
 refine⟨fun hne=>?_,fun hne d hd=>?_⟩
 ·obtain⟨b,f,rfl,hb,hc⟩:=h.rd hne
  have hl:=h.clr hne _ rfl;refine⟨b,f,rfl,JE hb m.size,fun i hi=>?_⟩;exact(JX (m.block b hb (by rw[hl];exact hs))).trans (hc i hi)
 ·obtain⟨b,f,rfl,hb,_⟩:=h.rd hne
  cases hd;exact(m.lab b hb).trans (h.clr hne _ rfl)
theorem CBy.nil(w:Z)(lab:Nat->C)(c:C)(o:Option Addr):CBy w lab c o []:=⟨fun h=>(h rfl).elim,fun h=>(h rfl).elim⟩
theorem CBy.sub{cap lo n:Nat}(h:CBy w lab c o bs)(hc:bs.length<=cap):CBy w lab c (subO o cap lo 1) ((bs.drop lo).take n):=by
 refine⟨h.rd.sub hc,fun hne d hd=>?_⟩;have hb:bs≠[]:=fun e=>hne (by rw[e];simp);obtain⟨b,f,rfl,_,_⟩:=h.rd hb;have:=h.clr hb _ rfl;rw[subO]at hd;split at hd
 ·cases hd;exact this
 ·simp at hd;subst hd;exact this
structure COw (w:Z) (lab:Nat->C) (c:C) (e:F) (sz:Nat) (o:Option Addr) (l cap:Nat) (xs:List O):Prop where
 own:Own w e sz o l cap xs
 clr:∀k,OB o k->lab k=c
variable{e:F}{sz l cap:Nat}{xs:List O}
theorem COw.nil(w:Z)(lab:Nat->C)(c:C)(e:F)(sz:Nat):COw w lab c e sz J5 0 0 []:=⟨Own.nil w e sz,fun k h=>(Z3Z k h).elim⟩
theorem COw.stp(h:COw w lab c e sz o l cap xs)(m:Stp S w lab w' lab')(hs:¬S c):COw w' lab' c e sz o l cap xs:=by
 have hl:∀k,OB o k->k<w.heap.size:=fun k hk=>h.own.lt hk;refine⟨?_,fun k hk=>(m.lab k (hl k hk)).trans (h.clr k hk)⟩;have hm:Mod (fun k=>S (lab k)) w w':=m.mod (fun _ _ s=>s);exact h.own.mod hm (fun k hk s=>hs (by rw[<-h.clr k hk];exact s))
theorem COw.append{P:Program}{t tx ty:F}{i:TypeInfo}{z:O}{x:O}{n:Nat}{news:List O}
  (ht:P.underlying t=U (.slice e)) (hi:P.info? e=U i) (hz:i.zero=U z) (hs:i.size=sz) (hzs:z.cells.size=sz)
  (h:COw w lab c e sz o l cap xs) (src:Src P sz tx x n news w) (h63:l+n<=Jr) (hb:(l+n)*i.bytes<=140737488355328) :
  ∃o' c' w',JB P (builtinV QM #[t,tx] ty #[.slice o l cap,x]) w=Jy (.slice o' (l+n) c') w' /\
   COw w' (ext lab w.heap.size c) c e sz o' (l+n) c' (xs++news)/\Stp (·=c) w lab w' (ext lab w.heap.size c):=by
 obtain⟨o',c',w',h1,h2,h3,h4⟩:=Z2u (ty:=ty) ht hi hz hs hzs h.own src h63 hb;refine⟨o',c',w',h1,⟨h2,fun k hk=>?_⟩,Stp.of_mod h3 c (fun k _ hk=>h.clr k hk)⟩;by_cases hl:k<w.heap.size
 ·rw[Z1d hl]
  rcases h4 k hk with h5|h5
  ·exact h.clr k h5
  ·omega
 ·exact Z0D (by omega)
end
end Go.Vcg
end
section
namespace Go.Vcg
open Go.ChangeMaps (setBlock)
open Go.Maps (Keyed)
open Go.MapKept
section
variable{K:Type}[DecidableEq K]{V:Type}
def Z3c(k:K):List (K×V)->Option V
 |[]=>J5
 |x::r=>if x.1=k then U x.2 else Z3c k r
def upd(k:K)(v:V):List (K×V)->List (K×V)
 |[]=>[(k,v)]
 |x::r=>if x.1=k then(k,v)::r else x::upd k v r
theorem Z7a{k:K}:∀{es:List (K×V)},(∀x∈es,x.1≠k)->Z3c k es=J5
 |[],_=>rfl
 |x::r,h=>by
  rw[Z3c,if_neg (h x (Jz ..)),Z7a (fun y hy=>h y (Ju _ hy))]
theorem Z8n{k:K}{v:V}:∀{es:List (K×V)},(∀x∈es,x.1≠k)->upd k v es=es++[(k,v)]
 |[],_=>rfl
 |x::r,h=>by
  rw[upd,if_neg (h x (Jz ..)),Z8n (fun y hy=>h y (Ju _ hy))];rfl
theorem ZB8{k:K}:∀{es:List (K×V)} {j:Nat} {x:K×V},(es.map JZ).Nodup->es[j]?=U x->x.1=k->Z3c k es=U x.2
 |[],_,_,_,h,_=>by simp at h
 |y::r,0,x,_,h,hk=>by simp at h;subst h;rw[Z3c,if_pos hk]
 |y::r,j+1,x,hn,h,hk=>by
  rw[Jl]at h
  have hne:y.1≠k:=by
   rintro rfl;exact(List.nodup_cons.1 hn).1 (hk ▸ JC (Jv h))
  rw[Z3c,if_neg hne,ZB8 (List.nodup_cons.1 hn).2 h hk]
theorem ZDg{k:K}{v:V}:∀{es:List (K×V)} {j:Nat} {x:K×V},(es.map JZ).Nodup->es[j]?=U x->x.1=k->upd k v es=es.set j (k,v)
 |[],_,_,_,h,_=>by simp at h
 |y::r,0,x,_,h,hk=>by simp at h;subst h;rw[upd,if_pos hk];rfl
 |y::r,j+1,x,hn,h,hk=>by
  rw[Jl]at h
  have hne:y.1≠k:=by
   rintro rfl;exact(List.nodup_cons.1 hn).1 (hk ▸ JC (Jv h))
  rw[upd,if_neg hne,ZDg (List.nodup_cons.1 hn).2 h hk];rfl
end
section
variable{K:Type}{P:Program}{kt:F}{enc:K->O}
structure Z8v (P:Program) (kt:F) (enc:K->O) (good:K->Prop):Prop where
 keyed:Keyed P kt
 ok:∀k,good k->∃l,keyOf P kt (enc k)=U l
 inj:∀a b,enc a=enc b->a=b
def dec(enc:K->O)(x:K×O):O×O:=(enc x.1,x.2)
def cellE(e:QJ):O×O:=(e.key,e.val)
def Z2E(good:K->Prop)(enc:K->O)(w:Z)(m:Nat)(es:List (K×O)):Prop :=
 ∃(A:Array QJ)(clock:Nat),w.heap[m]?=U (.map A clock)/\Stamped A clock/\A.toList.map cellE=es.map (dec enc)/\∀x∈es,good x.1
variable{good:K->Prop}{w w':Z}{m:Nat}{es:List (K×O)}
theorem Z2E.lt(h:Z2E good enc w m es):m<w.heap.size:=by
 obtain⟨A,clock,hb,_⟩:=h;exact(Array.getElem?_eq_some_iff.1 hb).1
theorem Z2E.same(h:Z2E good enc w m es)(hb:w'.heap[m]?=w.heap[m]?):Z2E good enc w' m es:=by
 obtain⟨A,clock,h1,h2⟩:=h;exact⟨A,clock,hb.trans h1,h2⟩
theorem Z2E.nodup(h:Z2E good enc w m es):(es.map JZ).Nodup:=by
 obtain⟨A,clock,_,hs,he,_⟩:=h
 have h1:(A.toList.map (·.key))=(es.map JZ).map enc:=by
  have:=congrArg (List.map JZ) he;simpa[cellE,dec,Function.comp_def]using this
 have h2:=hs.2.2;rw[h1]at h2;generalize es.map JZ=l at h2;clear h1
 induction l with
 |nil=>exact List.nodup_nil
 |cons a l ih =>
  rw[List.map_cons,Q5]at h2;rw[Q5];exact⟨fun h=>h2.1 (JC h),ih h2.2⟩
private theorem find_split(E:Z8v P kt enc good)(w:Z){A:Array QJ}{k:K}(hk:good k)(he:A.toList.map cellE=es.map (dec enc))(hg:∀x∈es,good x.1) :
  ((Instr.findKey kt (enc k) A.toList).run P w=Jy J5 w/\(∀x∈es,x.1≠k)/\∀e∈A.toList,e.key≠enc k) \/
  ∃j e v,(Instr.findKey kt (enc k) A.toList).run P w=Jy (U (j,v)) w/\A.toList[j]?=U e/\e.key=enc k/\e.val=v/\es[j]?=U (k,v):=by
 obtain⟨lk,hl⟩:=E.ok k hk
 have hall:∀e∈A.toList,∃l,keyOf P kt e.key=U l:=fun e hm=>by
  have:cellE e∈es.map (dec enc):=he ▸ JC hm;obtain⟨x,hx,hxe⟩:=List.mem_map.1 this;have h1:e.key=enc x.1:=(congrArg JZ hxe).symm;rw[h1];exact E.ok _ (hg x hx)
 rcases E.keyed.find w hl A.toList hall with⟨h1,h2⟩|⟨j,e,h1,h2,h3⟩
 ·refine .inl ⟨h1,fun x hx hxk=>?_,h2⟩
  have:dec enc x∈A.toList.map cellE:=he ▸ JC hx;obtain⟨e,hm,hee⟩:=List.mem_map.1 this;exact h2 e hm (by rw[show e.key=enc x.1 from congrArg JZ hee,hxk])
 ·refine .inr ⟨j,e,e.val,h1,h2,h3,rfl,?_⟩
  have h4:(es.map (dec enc))[j]?=U (cellE e):=by rw[<-he,I,h2];rfl
  rw[I,JS]at h4;obtain⟨x,hx,hxe⟩:=h4;have e1:enc x.1=enc k:=(congrArg JZ hxe).trans h3;have e2:x.2=e.val:=congrArg Prod.snd hxe;rw[hx,<-E.inj _ _ e1,<-e2]
theorem Z2E.check(E:Z8v P kt enc good){k:K}(hk:good k)(em:Bool)(w:Z):(Instr.checkKey em 10000 kt (enc k)).run P w=Jy () w:=by
 obtain⟨lk,hl⟩:=E.ok k hk;exact E.keyed.check w em hl
theorem Z2E.look[DecidableEq K](h:Z2E good enc w m es)(E:Z8v P kt enc good){t e:F}(ht:P.underlying t=U (.map kt e)){z:O}(hz:(zeroValue e).run P w=Jy z w){k:K}(hk:good k)(c:Bool) :
  (Instr.lookup t (.map (U m)) (enc k) c).run P w=Jy (if c then .tuple #[(Z3c k es).getD z,.bool (Z3c k es).isSome]else(Z3c k es).getD z) w:=by
 have hn:=h.nodup;obtain⟨A,clock,hb,hs,he,hg⟩:=h;rcases find_split E w hk he hg with⟨h1,h2,_⟩|⟨j,e0,v,h1,h2,h3,h4,h5⟩
 ·rw[Z7a h2]
  simp[Instr.lookup,run_underlying ht,JI hb,Z2E.check E hk,h1,hz,Jf]
 ·rw[ZB8 hn h5 rfl]
  simp[Instr.lookup,run_underlying ht,JI hb,Z2E.check E hk,h1,Jf]
theorem Z2E.update[DecidableEq K](h:Z2E good enc w m es)(E:Z8v P kt enc good){t e:F}(ht:P.underlying t=U (.map kt e)){k:K}(hk:good k)(v:O) :
  ∃w',(Instr.mapUpdate t (.map (U m)) (enc k) v).run P w=Jy () w'/\Z2E good enc w' m (upd k v es)/\Mod (·=m) w w':=by
 have hn:=h.nodup;obtain⟨A,clock,hb,hs,he,hg⟩:=h;have hmod:∀o,Mod (·=m) w (setBlock w m o):=fun o=>⟨rfl,rfl,rfl,by simp[setBlock],fun k _ hk=>(QK hb).2 k hk⟩;rcases find_split E w hk he hg with⟨h1,h2,h2'⟩|⟨j,e0,v0,h1,h2,h3,h4,h5⟩
 ·refine⟨setBlock w m (.map (A.push ⟨enc k,v,clock⟩) (clock+1)),?_,⟨_,_,(QK hb).1,stamped_push hs h2',?_,?_⟩,hmod _⟩
  ·simp[Instr.mapUpdate,run_underlying ht,JI hb,Z2E.check E hk,h1,Jn _ hb,Jf,setBlock]
  ·rw[Z8n h2,Array.toList_push,Ja,Ja,he];rfl
  ·rw[Z8n h2]
   intro x hx;rcases List.mem_append.1 hx with hx|hx
   ·exact hg x hx
   ·simp at hx;subst hx;exact hk
 ·obtain⟨lk,hl⟩:=E.ok k hk
  have hj:j<A.size:=by simpa using(List.getElem?_eq_some_iff.1 h2).1
  have hA:A[j]?=U e0:=by simpa using h2
  refine⟨setBlock w m (.map (A.modify j fun e=>{ e with key:=enc k,val:=v }) clock),?_,⟨_,_,(QK hb).1,stamped_modify hs j _ (fun _ _=>rfl) (fun e hm hej=>?_),?_,?_⟩,hmod _⟩
  ·have hst:=E.keyed.stays w hl
   simp[Instr.mapUpdate,run_underlying ht,JI hb,Z2E.check E hk,h1,hA,h3,hst,Jn _ hb,Jf,setBlock]
  ·rw[hA]at hej
   cases hej;exact h3.symm
  ·rw[ZDg hn h5 rfl]
   apply JT;intro i;have hi:(A.toList.map cellE)[i]?=(es.map (dec enc))[i]?:=by rw[he]
   rw[I,I]at hi;rw[I,I,J8,JU,List.getElem?_set];rw[J8]at hi;by_cases hij:j=i
   ·subst hij
    rw[if_pos rfl,if_pos rfl,if_pos (by have:=(List.getElem?_eq_some_iff.1 h5).1;exact this),hA];rfl
   ·rw[if_neg hij,if_neg hij,hi]
  ·rw[ZDg hn h5 rfl]
   intro x hx;rcases List.mem_or_eq_of_mem_set hx with hx|rfl
   ·exact hg x hx
   ·exact hk
variable{i:Nat}{todo:List (K×O)}
end
section
variable{C:Type}{S:C->Prop}{w w':Z}{lab lab':Nat->C}{c:C}{K:Type}{good:K->Prop}{enc:K->O}{m:Nat}{es:List (K×O)}
structure CM (good:K->Prop) (enc:K->O) (w:Z) (lab:Nat->C) (c:C) (m:Nat) (es:List (K×O)):Prop where
 map:Z2E good enc w m es
 clr:lab m=c
theorem CM.stp(h:CM good enc w lab c m es)(s:Stp S w lab w' lab')(hs:¬S c):CM good enc w' lab' c m es :=
 ⟨h.map.same (s.block m h.map.lt (by rw[h.clr];exact hs)),(s.lab m h.map.lt).trans h.clr⟩
end
end Go.Vcg
end
