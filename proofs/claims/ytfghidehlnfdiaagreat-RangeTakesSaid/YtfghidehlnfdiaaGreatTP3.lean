/- The document's sponge is ours. -/
/- Contract: the document's hash. -/
/- Equality of arrays of numbers. -/
/- Arguments: what a reading tells of the value. -/
/- Coloured heaps: each block has a colour, and a step says which colours it may change. -/
/- Maps: what a map's block holds, read, written, gone through. -/
/- Tries as plain Lean: items, nodes, paths. -/
/- Tries as plain Lean: there is but one canonical trie of a map. -/
/- Tries as plain Lean: what putting does. -/
/- Tries as plain Lean: what taking away does. -/
/- Rows that a call makes anew: copied, appended to, and handed on; rows of cells that are only read. -/
/- Bytes as strings; slices that are made. -/
/- Contracts: bytes that are made anew; nibbles; packed paths. -/
/- Contracts: packed paths; what two paths share. -/
/- Contracts: bytes held against one another; heads of items. -/
import Derived.Test.YtfghidehlnfdiaaGreatKC9
import Derived.Laws.StructEq
import Derived.ProofKit
import Derived.OpenShut
import Derived.ShutString
import Derived.ChangeOld
import Derived.Below
import Derived.Carry
import Derived.Maps.Range
import Derived.DeepKeys4
import Derived.StringKeys
import Derived.Test.YtfghidehlnfdiaaGreatXPure4
import Derived.Laws.BytesString
import Derived.Laws.MakeOwn
import Derived.Test.YtfghidehlnfdiaaGreatXMem
set_option linter.unusedVariables false
set_option linter.unusedSimpArgs false
open Array renaming getElem?_modify->JQ,getElem?_toList->Jq,replicate->G
open Bool renaming eq_iff_iff->Jl,false->QE
open Go renaming Calls->Jk,MapEntry->QL,MemPlace->QC,Operand->QG,TypeId->J3,World->I,convert->QP,eqGuard->QI,maxLen->Jf
open Go.Addr renaming add->Jc
open Go.DataW renaming trod->J4
open Go.Ending renaming returned->J8
open Go.IntKind renaming i64->JW,u64->Q1,u8->Jb,wrap->J
open Go.MapKept renaming heap_set->QM,run_getObj_map->JG,run_setObj_map->Jh
open Go.Obj renaming cells->JH
open Go.Proofs.Tryz renaming prog->J7
open Go.Result renaming andThen->JZ,andThen_ok->J0,ok->Jp
open Go.Sem renaming run->JM,run_bind->JN,run_pure->Q3
open Int renaming fdiv->QO,tdiv->QQ,tdiv_eq_ediv_of_nonneg->JY,tmod->QA,toNat->QF,toNat_natCast->J2
open List renaming append_assoc->J1,append_cancel_left->JF,append_cancel_left_eq->JA,append_nil->JV,cons_append->Je,drop_left->Jv,ext_getElem?->Q0,getD_eq_getElem?_getD->O,getElem?_cons_succ->Jd,getElem?_drop->JX,getElem?_eq_getElem->Z,getElem?_eq_none->Jo,getElem?_map->D,getElem?_range->Jx,getElem?_take->Jz,getElem?_take_of_lt->Ja,getElem_cons_zero->JP,getElem_drop->Q5,length->QN,length_append->JB,length_cons->J5,length_drop->JL,length_map->Jj,length_take->JK,mapM_cons->QB,map_append->Jm,map_cons->QD,mem_cons_of_mem->Jt,mem_cons_self->Jy,mem_map_of_mem->JE,mem_of_getElem?->Ju,nil_append->Q9,nodup_cons->Q8,prefix_append->U,range->JR,range'->Q6,take_add_one->JC,take_append_drop->Jr,take_length->JS,take_of_length_le->Ji
open List.cons renaming inj->JT,injEq->Jn
open Nat renaming add_comm->QK,add_zero->QJ,le_refl->J6,le_trans->Q4,lt_of_lt_of_le->JO,min->Jw,mul_one->Js,not_lt_zero->Q7,sub_zero->QH,zero_add->Q2,zero_le->JI
open Option renaming map_eq_some_iff->Jg,none->JD,some->Y
open Prod renaming fst->JU
open UInt8 renaming ofFin->JJ,ofNat->X,toNat_ofNat'->J9
section
namespace Go.Vcg
theorem ZEW(bs:List UInt8):∀(k i:Nat),8*k<=i->(leK bs k).getLsbD i=QE
 |0,i,_=>by simp[leK]
 |k+1,i,h=>by
  rw[leK,BitVec.getLsbD_or,ZEW bs k i (by omega),BitVec.getLsbD_shiftLeft,Z7X,BitVec.getLsbD_setWidth];have:(bs.getD k 0).toBitVec.getLsbD (i-8*k)=QE:=BitVec.getLsbD_of_ge _ _ (by omega);rw[this];simp
theorem ZKk(bs:List UInt8)(k:Nat)(b:UInt8):leK bs k|||(Z7X b<<<(8*k))=leK bs k^^^(Z7X b<<<(8*k)):=by
 apply BitVec.eq_of_getLsbD_eq;intro i hi;rw[BitVec.getLsbD_or,BitVec.getLsbD_xor,BitVec.getLsbD_shiftLeft];by_cases h:i<8*k
 ·simp[h]
 ·rw[ZEW bs k i (by omega)];simp
def ZHr(s:St)(c:Nat->UInt8):Nat->St
 |0=>s
 |i+1=>fun j=>if j=i/8 then ZHr s c i j^^^(Z7X (c i)<<<(8*(i%8)))else ZHr s c i j
def lxK(c:Nat->UInt8):Nat->BitVec 64
 |0=>0
 |k+1=>lxK c k^^^(Z7X (c k)<<<(8*k))
theorem ZE2(s:St)(c:Nat->UInt8):∀(i j:Nat),ZHr s c i j=s j^^^lxK (fun m=>c (8*j+m)) (Jw (i-8*j) 8)
 |0,j=>by simp[ZHr,lxK]
 |i+1,j=>by
  rw[ZHr];by_cases h:j=i/8
  ·simp only[h,if_true]
   rw[<-h,ZE2 s c i j];have e1:Jw (i-8*j) 8=i%8:=by show min _ _=_;omega
   have e2:Jw (i+1-8*j) 8=i%8+1:=by show min _ _=_;omega
   rw[e1,e2,lxK,show 8*j+i%8=i by omega,BitVec.xor_assoc]
  ·simp only[h,if_false]
   rw[ZE2 s c i j];have e:Jw (i-8*j) 8=Jw (i+1-8*j) 8:=by show min _ _=min _ _;omega
   rw[e]
theorem ZGj(bs:List UInt8)(c:Nat->UInt8):∀k,(∀m,m<k->bs.getD m 0=c m)->leK bs k=lxK c k
 |0,_=>rfl
 |k+1,h=>by rw[leK,ZKk,lxK,ZGj bs c k (fun m hm=>h m (by omega)),h k (by omega)]
theorem ZHs(s:St)(c:Nat->UInt8)(j:Nat)(hj:j<25):ZHr s c 136 j=ZFl s ((JR 136).map c) j:=by
 rw[ZE2,ZFl];by_cases h:j<17
 ·rw[if_pos h]
  have e:Jw (136-8*j) 8=8:=by show min _ _=_;omega
  have hl:((((JR 136).map c).drop (8*j)).take 8).length=8:=by rw[JK,JL,Jj,List.length_range];omega
  rw[e,ZEX,hl];congr 1
  symm
  refine ZGj _ _ 8 (fun m hm=>?_);rw[O,Ja hm,JX,D,Jx (by omega)];rfl
 ·rw[if_neg h]
  have e:Jw (136-8*j) 8=0:=by show min _ _=_;omega
  rw[e,lxK];simp
def cAt(m:List UInt8)(k i:Nat):UInt8:=(if 136*k+i<m.length then m.getD (136*k+i) 0 else if 136*k+i=m.length then 1 else 0)|||(if i=135/\m.length<136*k+136 then 128 else 0)
def Z9S(m:List UInt8):Nat->St
 |0=>ZHt
 |k+1=>Z8r (Z9S m k) ((JR 136).map (cAt m k))
theorem ZI5(m:List UInt8)(k:Nat)(h:136*k+136<=m.length):(JR 136).map (cAt m k)=(m.drop (136*k)).take 136:=by
 apply Q0;intro i;by_cases hi:i<136
 ·rw[D,Jx hi,Ja hi,JX]
  simp only[Option.map_some,cAt];rw[if_pos (by omega),if_neg (by omega),Z (by omega)];simp[O,show 136*k+i<m.length by omega]
 ·rw[Jo (by simp;omega),Jo (by simp;omega)]
theorem ZI6(m:List UInt8):(JR 136).map (cAt m (m.length/136))=ZGz (restOf m):=by
 refine List.map_congr_left (fun i hi=>?_);have hi':i<136:=List.mem_range.1 hi;have hl:=Z6v m;simp only[cAt,ZFY]
 have e1:(if i=135/\m.length<136*(m.length/136)+136 then(128:UInt8)else 0)=(if i=135 then 128 else 0):=by
  by_cases h:i=135
  ·rw[if_pos ⟨h,by omega⟩,if_pos h]
  ·rw[if_neg (fun g=>h g.1),if_neg h]
 rw[e1];congr 1;by_cases h1:i<(restOf m).length
 ·rw[if_pos (by omega),if_pos h1,restOf]
  simp only[O,JX]
 ·rw[if_neg (by omega),if_neg h1]
  by_cases h2:i=(restOf m).length
  ·rw[if_pos (by omega),if_pos h2]
  ·rw[if_neg (by omega),if_neg h2]
theorem ZEn(m:List UInt8):∀k,k<=m.length/136->Z9S m k=ZD0 ZHt m k
 |0,_=>rfl
 |k+1,h=>by rw[Z9S,ZEn m k (by omega),ZI5 m k (by omega),ZD0]
theorem ZFc(m:List UInt8):Z9S m (m.length/136+1)=Z61 m:=by
 rw[Z9S,ZEn m _ (J6 _),ZI6,Z61,ZFs]
end Go.Vcg
end
section
namespace Go.Proofs.YtfghidehlnfdiaaGreat
open Go Go.Vcg
theorem or1(w:I)(x y:QG):JM J7 (Z02 .or tU8 x y (.int Jb 1) (.int Jb 128)) w=Jp (.int Jb 129) w:=by rfl
theorem or0(w:I)(x y:QG):JM J7 (Z02 .or tU8 x y (.int Jb 0) (.int Jb 128)) w=Jp (.int Jb 128) w:=by rfl
theorem Z9h(b:UInt8):J Q1 (b.toNat:Int)=uI (Z7X b):=by rw[<-ZEz,Z9i]
theorem Z45{w:I}{o0:Option Addr}{l0 c0:Nat}(m:List UInt8)(hl:l0=m.length)(hmax:m.length<=2^40)(hr:RdB w o0 m) :
  Jk J7 Z1S.n #[.slice o0 l0 c0] w (fun e w'=>e=J8 (.agg (hashA (sumOf m)))/\Vcg.Mod NoB w w'):=by
 subst hl;refine Z1S.vc _ _ _ _ _ ?_;unfold Z1S.Vc;rintro d1 w2⟨rfl,rfl⟩ d3 w4⟨rfl,rfl⟩;have B1:=(Blk.new w tHash (G 32 (.int Jb 0))).alloc (JH (G 25 (.int Q1 0)) tLanes);have B3:=Blk.new (w.alloc (JH (G 32 (.int Jb 0)) tHash)) tLanes (G 25 (.int Q1 0));have M:=(Mod.alloc (S:=NoB) w (JH (G 32 (.int Jb 0)) tHash)).step_alloc (JH (G 25 (.int Q1 0)) tLanes);simp only[ZE]at B3 ⊢;generalize(w.alloc (JH (G 32 (.int Jb 0)) tHash)).alloc (JH (G 25 (.int Q1 0)) tLanes)=w4 at *
 generalize hNe:w.heap.size=N at *
 refine⟨fun n w'=>∃k:Nat,n=((136*k:Nat):Int)/\k<=m.length/136+1/\Vcg.Mod NoB w w'/\Blk w' N tHash (G 32 (.int Jb 0))/\Blk w' (N+1) tLanes (lanesA (Z9S m k)),
  fun n _=>((m.length:Int)+136-n).toNat,⟨0,rfl,by omega,M,B1,by rw[Zm]at B3;exact B3⟩,?_⟩
 clear M B1 B3;rintro _ _ w1⟨k,rfl,hk,M,B1,B3⟩;refine⟨fun hle=>?_,fun hgt=>?_⟩
 ·have hk':136*k<=m.length:=by omega
  refine Z5P 136 (fun i w'=>Vcg.Mod NoB w w'/\Blk w' N tHash (G 32 (.int Jb 0))/\Blk w' (N+1) tLanes (lanesA (ZHr (Z9S m k) (cAt m k) i))) rfl ⟨M,B1,B3⟩ ?_ ?_
  ·clear M B1 B3
   rintro i _ w10 hi⟨M,B1,B3⟩;have eI:J JW (((136*k:Nat):Int)+(i:Int))=((136*k+i:Nat):Int):=by rw[Z0 (by omega) (by omega)];omega
   have eJ:J JW (((136*k:Nat):Int)+136)=((136*k+136:Nat):Int):=by rw[Z0 (by omega) (by omega)];omega
   have eq:J JW (QQ (i:Int) 8)=((i/8:Nat):Int):=by
    rw[JY (by omega),Z0 (by omega) (by omega)];omega
   have es:J JW (8*QA (i:Int) 8)=((8*(i%8):Nat):Int):=by
    simp(disch:=omega) only[Z2z,Z0];omega
   rw[eI,eJ,eq,es]
   have tail:∀(v:Int),v=uI (Z7X (cAt m k i))->∀w13:I,ZJ w10 w13 ->
     (0<=((i/8:Nat):Int)/\((i/8:Nat):Int)<((25:Nat):Int)) /\
     ∃n14:Int,World.cell? w13 (Jc ⟨N+1,0,JD⟩ (QF ((i/8:Nat):Int)))=Y (.int Q1 n14) /\
     0<=((8*(i%8):Nat):Int) /\
     (0<=((i/8:Nat):Int)/\((i/8:Nat):Int)<((25:Nat):Int)) /\
     Z1 w13 (Jc ⟨N+1,0,JD⟩ (QF ((i/8:Nat):Int))) (.int Q1 (bitsI .xor Q1 n14 (shlI Q1 v ((8*(i%8):Nat):Int)))) /\
     ∀w15:I,ZA w13 (Jc ⟨N+1,0,JD⟩ (QF ((i/8:Nat):Int))) (.int Q1 (bitsI .xor Q1 n14 (shlI Q1 v ((8*(i%8):Nat):Int)))) w15 ->
     Z9k 136 (fun i w'=>Vcg.Mod NoB w w'/\Blk w' N tHash (G 32 (.int Jb 0))/\Blk w' (N+1) tLanes (lanesA (ZHr (Z9S m k) (cAt m k) i))) (J JW ((i:Int)+1)) w15 /\
      Vcg.ZJP 136 (J JW ((i:Int)+1)) w15<Vcg.ZJP 136 (i:Int) w10:=by
    rintro v rfl _ rfl;refine⟨by omega,_,B3.drew.rd0 (ZZ _ (by omega)),by omega,by omega,B3.drew.canSet0 (by rw[ZM];omega) rfl,fun w15 h15=>?_⟩;rw[h15.at,ZAc,Z0g];refine Z9k.next (by rw[Z0 (by omega) (by omega)];omega) hi ⟨(M.step_drew).step_set (fun h=>by simp only[hNe]at h;omega),B1.drew.set_ne (by simp),?_⟩;have:=B3.drew.set (i/8) (uV (ZHr (Z9S m k) (cAt m k) i (i/8)^^^(Z7X (cAt m k i)<<<(8*(i%8)))));rw[lanesA,Z0W]at this;refine(show _=lanesA (ZHr (Z9S m k) (cAt m k) (i+1))from ZH (fun j hj=>?_)) ▸ this;rw[ZHr];by_cases h:j=i/8
    ·simp only[h,if_true]
    ·simp only[h,if_false]
   have c128:∀x:UInt8,J Q1 (bitsI .or Jb (x.toNat:Int) 128)=uI (Z7X (x|||128)):=fun x=>by rw[show(128:Int)=((128:UInt8).toNat:Int)from rfl,Z6H,Z9h]
   have z:∀x:UInt8,x|||0=x:=fun x=>by simp
   refine⟨fun hin=>?_,fun hout=>?_⟩
   ·obtain⟨d,rfl,hd⟩:=(hr.mod' M).get (i:=136*k+i) (by omega)
    refine⟨d,rfl,by omega,_,hd,fun h135=>⟨fun hg=>?_,fun hg=>?_⟩,fun h135=>?_⟩
    ·refine tail _ ?_
     rw[c128,cAt,if_pos (by omega),if_pos (by omega)]
    ·refine tail _ ?_
     rw[Z9h,cAt,if_pos (by omega),if_neg (by omega),z]
    ·refine tail _ ?_
     rw[Z9h,cAt,if_pos (by omega),if_neg (by omega),z]
   ·refine⟨fun he=>⟨fun h135=>⟨fun hg=>?_,fun hg=>?_⟩,fun h135=>?_⟩,fun he=>⟨fun h135=>⟨fun hg=>?_,fun hg=>?_⟩,fun h135=>?_⟩⟩
    ·refine⟨_,or1 _ _ _,_,rfl,tail _ ?_⟩
     rw[cAt,if_neg (by omega),if_pos (by omega),if_pos (by omega)];rfl
    ·refine tail _ ?_
     rw[cAt,if_neg (by omega),if_pos (by omega),if_neg (by omega)];rfl
    ·refine tail _ ?_
     rw[cAt,if_neg (by omega),if_pos (by omega),if_neg (by omega)];rfl
    ·refine⟨_,or0 _ _ _,_,rfl,tail _ ?_⟩
     rw[cAt,if_neg (by omega),if_neg (by omega),if_pos (by omega)];rfl
    ·refine tail _ ?_
     rw[cAt,if_neg (by omega),if_neg (by omega),if_neg (by omega)];rfl
    ·refine tail _ ?_
     rw[cAt,if_neg (by omega),if_neg (by omega),if_neg (by omega)];rfl
  ·clear M B1 B3
   rintro _ w10⟨M,B1,B3⟩;rw[ZCM (fun j hj=>ZHs _ _ j hj)]at B3;refine⟨_,B3.rowAll (ZM _),(Z8Q _ _).mono ?_⟩;rintro _ w11⟨rfl,M11⟩;refine⟨_,rfl,_,(B3.mod' M11).storeAll (L:=lanesA (Z9S m (k+1))) (by rw[ZM];kernel_rfl) (by rw[ZM,ZM]) (Z28 _),⟨k+1,by rw[Z0 (by omega) (by omega)];omega,by omega,(M.none_trans M11).step_row (fun h=>by omega),(B1.mod' M11).row_ne (by omega),(B3.mod' M11).row_same _⟩,?_⟩;dsimp only;rw[Z0 (by omega) (by omega)];omega
 ·obtain rfl:k=m.length/136+1:=by omega
  rw[ZFc]at B3;rintro d49 w50⟨rfl,rfl⟩;have hq:N+1<w1.heap.size:=B3.lt;have B4:=Blk.new w1 tHash (G 32 (.int Jb 0))
  replace B1:=B1.alloc (JH (G 32 (.int Jb 0)) tHash)
  replace B3:=B3.alloc (JH (G 32 (.int Jb 0)) tHash)
  replace M:=M.step_alloc (JH (G 32 (.int Jb 0)) tHash)
  generalize w1.alloc (JH (G 32 (.int Jb 0)) tHash)=w2 at *
  generalize w1.heap.size=T at *
  refine Z5P 32 (fun i w'=>Vcg.Mod NoB w w'/\Blk w' N tHash (G 32 (.int Jb 0))/\Blk w' (N+1) tLanes (lanesA (Z61 m))/\Blk w' T tHash (ZR 32 (fun j=>bV (if j<i then Z5U (Z61 m) j else 0)))) rfl
   ⟨M,B1,B3,by rw[Zm]at B4;simp only[Q7,if_false];exact B4⟩ ?_ ?_
  ·clear M B1 B3 B4
   rintro i _ w3 hi⟨M,B1,B3,B4⟩
   have eq:J JW (QQ (i:Int) 8)=((i/8:Nat):Int):=by
    rw[JY (by omega),Z0 (by omega) (by omega)];omega
   have es:J JW (8*QA (i:Int) 8)=((8*(i%8):Nat):Int):=by
    simp(disch:=omega) only[Z2z,Z0];omega
   rw[eq,es];refine⟨by omega,_,B3.rd0 (ZZ _ (by omega)),by omega,by omega,B4.canSet0 (by rw[Z03];omega) rfl,fun w15 h15=>?_⟩;rw[h15.at,ZEs _ _ _ rfl,Z8N];refine Z9k.next (by rw[Z0 (by omega) (by omega)];omega) hi ⟨M.step_set (fun h=>by simp only[hNe]at h;omega),B1.set_ne (by simp;omega),B3.set_ne (by simp;omega),?_⟩;have:=B4.set i (bV (Z5U (Z61 m) i));rw[Z0W]at this;refine(show _=ZR 32 (fun j=>bV (if j<i+1 then Z5U (Z61 m) j else 0))from ZH (fun j hj=>?_)) ▸ this;by_cases h:j=i
   ·rw[if_pos h,if_pos (by omega),h]
   ·rw[if_neg h]
    by_cases h2:j<i
    ·rw[if_pos h2,if_pos (by omega)]
    ·rw[if_neg h2,if_neg (by omega)]
  ·clear M B1 B3 B4
   rintro _ w3⟨M,B1,B3,B4⟩;have e:ZR 32 (fun j=>bV (if j<32 then Z5U (Z61 m) j else 0))=hashA (sumOf m):=ZH (fun j hj=>by rw[if_pos hj,ZAI m hj]);rw[e]at B4;exact⟨_,B4.rowAll (ZB _),_,B1.storeAll (L:=hashA (sumOf m)) (by rw[ZB];kernel_rfl) (by rw[ZB,Array.size_replicate]) (Z2k _),_,(B1.row_same _).rowAll (ZB _),rfl,M.step_row (fun h=>by omega)⟩
end Go.Proofs.YtfghidehlnfdiaaGreat
end
section
namespace Go.Vcg
section
variable{P:Program}{w:I}{t e:J3}{n:Nat}{k:IntKind}
theorem Z5Z(d:Nat)(ht:P.underlying t=Y (.array n e))(he:P.underlying e=Y (.int k))(hsz:(P.info? e).map (·.size)=Y 1)(f g:Nat->Int) :
  (Op.equalIn (d+2) t (.agg (ZR n (fun i=>.int k (f i)))) (.agg (ZR n (fun i=>.int k (g i))))).run P w=Jp (decide (∀i,i<n->f i=g i)) w:=by
 obtain⟨inf,hi1,hi2⟩:=Option.map_eq_some_iff.1 hsz;have hs:∀w,(sizeOf e).run P w=Jp 1 w:=fun w=>by simp[sizeOf,typeInfo,hi1,hi2]
 have hall:decide (∀i,i<n->f i=g i)=((Q6 0 n 1).all fun i=>f i == g i):=by
  rw[Jl];simp only[decide_eq_true_eq,List.all_eq_true,List.mem_range'_1,JI,true_and,Q2,beq_iff_eq]
 rw[hall,Op.equalIn];simp only[JN,run_underlying ht,J0,hs,Std.Legacy.Range.forIn_eq_forIn_range',Std.Legacy.Range.size,QH,Nat.add_sub_cancel,Nat.div_one];have hl:∀i∈Q6 0 n 1,i<n:=fun i hi=>by simpa using(List.mem_range'_1.1 hi).2
 generalize Q6 0 n 1=l at hl ⊢
 induction l with
 |nil=>simp
 |cons i l ih =>
  have hi:i<n:=hl i (by simp)
  have px:∀h:Nat->Int,(part e (ZR n (fun i=>Value.int k (h i))) (i*1)).run P w=Jp (.int k (h i)) w:=by
   intro h;simp only[Js];simp[part,isAgg,run_underlying he,ZF hi]
  have pe:(Op.equalIn (d+1) e (.int k (f i)) (.int k (g i))).run P w=Jp (f i == g i) w:=run_equalIn_int w d e k k _ _ he;simp only[List.forIn_cons,JN,px,pe,J0,List.all_cons];cases hb:(f i == g i)
  ·simp
  ·simp only[Bool.not_true,Bool.false_eq_true,if_false,Q3,J0,Bool.true_and]
   exact ih fun j hj=>hl j (by simp[hj])
theorem ZHJ(ht:P.underlying t=Y (.array n e))(he:P.underlying e=Y (.int k))(hsz:(P.info? e).map (·.size)=Y 1)(hg:P.eqGuardType P.depth t=QE)(x y:QG)(f g:Nat->Int) :
  JM P (Z02 .eql t x y (.agg (ZR n (fun i=>.int k (f i)))) (.agg (ZR n (fun i=>.int k (g i))))) w=Jp (.bool (decide (∀i,i<n->f i=g i))) w:=by
 have hgd:(QI .eql t x y (.agg (ZR n (fun i=>.int k (f i)))) (.agg (ZR n (fun i=>.int k (g i))))).run P w=Jp () w:=by
  have hpg:∀w,JM P program w=Jp P w:=fun w=>rfl;simp[QI,hpg,hg]
 rw[Z02,JN,hgd,J0,run_eql_struct,Z5Z 9998 ht he hsz];rfl
theorem ZHK(ht:P.underlying t=Y (.array n e))(he:P.underlying e=Y (.int k))(hsz:(P.info? e).map (·.size)=Y 1)(hg:P.eqGuardType P.depth t=QE)(x y:QG)(f g:Nat->Int) :
  JM P (Z02 .neq t x y (.agg (ZR n (fun i=>.int k (f i)))) (.agg (ZR n (fun i=>.int k (g i))))) w=Jp (.bool (!decide (∀i,i<n->f i=g i))) w:=by
 have hgd:(QI .neq t x y (.agg (ZR n (fun i=>.int k (f i)))) (.agg (ZR n (fun i=>.int k (g i))))).run P w=Jp () w:=by
  have hpg:∀w,JM P program w=Jp P w:=fun w=>rfl;simp[QI,hpg,hg]
 rw[Z02,JN,hgd,J0,run_neq_struct,Z5Z 9998 ht he hsz];rfl
end
theorem Z80{P:Program}{w:I}{t e:J3}{b l c:Nat}{te:J3}{cs:Array Value}(ht:P.underlying t=Y (.slice e))(he:P.underlying e=Y (.int Jb))(h:Blk w b te cs) :
  ∃w',JM P (QP t t (.slice (Y ⟨b,0,JD⟩) l c)) w=Jp (.slice (Y ⟨b,0,JD⟩) l c) w'/\Mod (·=b) w w'/\∀a,w'.cell? a=w.cell? a:=by
 have hb:w.heap[b]?=Y (JH cs te (0,0)):=h;refine⟨w.freeze ⟨b,cs.size,JD⟩ 1,?_,?_,?_⟩
 ·have h1:∀w:I,JM P (shape b) w=Jp (w.shape? b) w:=fun w=>rfl
  have h2:∀(a:Addr)(n:Nat)(w:I),JM P (freeze a n) w=Jp () (w.freeze a n):=fun a n w=>rfl;have h3:w.shape? b=Y (te,cs.size):=by simp[World.shape?,hb]
  simp[QP,run_underlying ht,run_underlying he,markStringish,h1,h2,h3]
 ·unfold World.freeze
  rw[if_neg (by decide)];exact⟨rfl,rfl,rfl,by simp,fun k hk hn=>by simp only[JQ];rw[if_neg (fun e=>hn e.symm)]⟩
 ·intro a
  unfold World.freeze;rw[if_neg (by decide)];simp only[World.cell?,JQ];by_cases ha:b=a.block
  ·rw[if_pos ha,<-ha,hb];rfl
  ·rw[if_neg ha]
end Go.Vcg
end
section
namespace Go.Vcg
open Go
theorem Z6w{α β:Type}{f:α->Option β}:∀{l:List α} {ys:List β},l.mapM f=Y ys->∀x∈l,∃y,f x=Y y
 |[],_,_,x,hx=>by cases hx
 |a::l,ys,h,x,hx=>by
  rw[QB]at h;cases ha:f a with
  |none=>simp[ha]at h
  |some b =>
   cases hl:l.mapM f with
   |none=>simp[ha,hl]at h
   |some bs =>
    rcases List.mem_cons.1 hx with rfl|hx
    ·exact⟨b,ha⟩
    ·exact Z6w hl x hx
section
variable{H:Type}{enc:J3×Value->H}{P:Program}{W:I}{sp:Nat->Bool}{held:Bool}{b0 base:Nat}{r:Reach}
theorem Z5T{t e:J3}{n:Nat}{k:IntKind}{v:Value}{d:DataW H}{ps:List QC}(ht:P.underlying t=Y (.array n e))(he:P.underlying e=Y (.int k))(hce:P.cellsOf e=1)(hct:P.cellsOf t=n)
  (hv:Value.okWide P W r b0 t v) (hd:DataW.Trod enc P W base sp held t v d ps):∃f:Nat->Int,v=.agg (ZR n (fun i=>.int k (f i)))/\∀i,i<n->(Lit.int k (f i)).wf=true:=by
 unfold Value.okWide at hv;rw[ht]at hv;obtain⟨cs,rfl,hcs,_⟩:=hv;rw[hct]at hcs;obtain⟨fuel,hf⟩:=hd;cases fuel with
 |zero=>simp[J4]at hf
 |succ fuel =>
  simp only[J4,ht,Value.cells]at hf;rw[if_pos (by simp[hcs,hct])]at hf;obtain⟨ys,hy,_⟩:=Option.map_eq_some_iff.1 hf
  have hall:∀i,i<n->∃m,cs[i]?=Y (.int k m)/\(Lit.int k m).wf=true:=by
   intro i hi;obtain⟨y,h1⟩:=Z6w hy i (List.mem_range.2 hi)
   have h2:(cs.toList.drop (i*1)).take 1=[cs[i]]:=by
    rw[Js,List.drop_eq_getElem_cons (by simp;omega)];simp
   rw[hce,h2]at h1;cases fuel with
   |zero=>simp[J4]at h1
   |succ fuel =>
    simp only[J4,he]at h1;generalize hc:cs[i]=c at h1;cases c with
    |int k' m =>
     simp only at h1;split at h1
     ·rename_i hk
      obtain⟨rfl,hw⟩:=hk;exact⟨m,by rw[Array.getElem?_eq_getElem (by omega),hc],hw⟩
     ·cases h1
    |_=>simp at h1
  refine⟨fun i=>match cs[i]? with|some (.int _ m)=>m|_=>0,?_,?_⟩
  ·congr 1
   refine ZAx hcs (fun i hi=>?_);obtain⟨m,hm,_⟩:=hall i hi;simp only[hm]
  ·intro i hi
   obtain⟨m,hm,hw⟩:=hall i hi;simp only[hm];exact hw
end
section
variable{H:Type}{enc:J3×Value->H}{P:Program}{W:I}{sp:Nat->Bool}{held:Bool}{base:Nat}
theorem Z6K{a:Addr}{vs:List Value}(h:W.cells? base a 1=Y vs):∃v,vs=[v]/\W.cell? a=Y v:=by
 unfold World.cells? at h;split at h
 ·simp only[List.range_one,QB,List.mapM_nil]at h
  have e:a.add 0=a:=by simp[Jc]
  rw[e]at h;cases hc:W.cell? a with
  |none=>simp[hc]at h
  |some v=>simp[hc]at h;exact⟨v,h.symm,rfl⟩
 ·cases h
theorem ZAh{fuel:Nat}{t e:J3}{v:Value}{d:DataW H}{ps:List QC}(ht:P.underlying t=Y (.slice e))(hce:P.cellsOf e=1)
  (h:J4 enc P W base sp held fuel t [v]=Y (d,ps)) :
  ∃o l c,v=.slice o l c/\l<=c/\c<=Jf/\∀i,i<l->∃b f u d' ps' fuel',o=Y ⟨b,f,JD⟩/\b<W.heap.size/\W.cell? ⟨b,f+i,JD⟩=Y u/\J4 enc P W base sp held fuel' e [u]=Y (d',ps'):=by
 cases fuel with
 |zero=>simp[J4]at h
 |succ fuel =>
  cases v with
  |slice o l c =>
   cases o with
   |none =>
    have:l=0/\c=0:=by
     rcases l with _|l<;>rcases c with _|c<;>simp[J4,ht]at h ⊢
    obtain⟨rfl,rfl⟩:=this;exact⟨JD,0,0,rfl,J6 _,JI _,fun i hi=>(Q7 _ hi).elim⟩
   |some a =>
    simp only[J4,ht,hce,Js]at h;split at h
    ·rename_i hc
     refine⟨Y a,l,c,rfl,hc.2.1,hc.2.2,fun i hi=>?_⟩;obtain⟨els,hm,_⟩:=Option.bind_eq_some_iff.1 h;obtain⟨y,hy⟩:=Z6w hm i (List.mem_range.2 hi);obtain⟨vs,hv,hd⟩:=Option.bind_eq_some_iff.1 hy;obtain⟨u,rfl,hu⟩:=Z6K hv;obtain⟨y0,hy0⟩:=Z6w hm 0 (List.mem_range.2 (by omega));obtain⟨vs0,hv0,_⟩:=Option.bind_eq_some_iff.1 hy0;obtain⟨u0,_,hu0⟩:=Z6K hv0
     have hspot:a.spot=JD:=by
      have e:a.add 0=a:=by simp[Jc]
      rw[e]at hu0;unfold World.cell? at hu0;cases hs:a.spot with
      |none=>rfl
      |some x =>
       rw[hs]at hu0;split at hu0<;>simp at hu0
     obtain⟨b,f,spot⟩:=a;simp only at hspot;subst hspot;rw[Z3]at hu;refine⟨b,f,u,y.1,y.2,fuel,rfl,?_,hu,hd⟩;unfold World.cell? at hu;split at hu
     ·rename_i hb;exact(Array.getElem?_eq_some_iff.1 hb).1
     ·cases hu
    ·cases h
  |_=>simp[J4,ht]at h
theorem ZHb{fuel:Nat}{e:J3}{u:Value}{d:DataW H}{ps:List QC}(he:P.underlying e=Y (.int Jb))(h:J4 enc P W base sp held fuel e [u]=Y (d,ps)):∃x:UInt8,u=bV x:=by
 cases fuel with
 |zero=>simp[J4]at h
 |succ fuel =>
  simp only[J4,he]at h;cases u with
  |int k m =>
   simp only at h;split at h
   ·rename_i hk
    obtain⟨rfl,hw⟩:=hk;simp only[Lit.wf,Bool.and_eq_true,decide_eq_true_eq]at hw;have h1:IntKind.min Jb=0:=by decide
    have h2:IntKind.max Jb=255:=by decide
    refine⟨X m.toNat,?_⟩
    have:((X m.toNat).toNat:Int)=m:=by
     rw[J9];omega
    rw[bV,this]
   ·cases h
  |_=>simp at h
theorem ZFj{fuel:Nat}{t e:J3}{v:Value}{d:DataW H}{ps:List QC}(ht:P.underlying t=Y (.slice e))(he:P.underlying e=Y (.int Jb))(hce:P.cellsOf e=1)
  (h:J4 enc P W base sp held fuel t [v]=Y (d,ps)):∃o c bs,v=.slice o bs.length c/\bs.length<=c/\c<=Jf/\RdB W o bs:=by
 obtain⟨o,l,c,rfl,hlc,hcm,hall⟩:=ZAh ht hce h
 have hx:∀i,∃x:UInt8,i<l->∃b f,o=Y ⟨b,f,JD⟩/\b<W.heap.size/\W.cell? ⟨b,f+i,JD⟩=Y (bV x):=fun i=>by
  by_cases hi:i<l
  ·obtain⟨b,f,u,d',ps',fuel',ho,hb,hu,hd⟩:=hall i hi
   obtain⟨x,rfl⟩:=ZHb he hd;exact⟨x,fun _=>⟨b,f,ho,hb,hu⟩⟩
  ·exact⟨0,fun h=>(hi h).elim⟩
 have hl:((JR l).map (fun i=>Classical.choose (hx i))).length=l:=by simp
 refine⟨o,c,(JR l).map (fun i=>Classical.choose (hx i)),by rw[hl],by rw[hl];exact hlc,hcm,fun hne=>?_⟩;have hl0:0<l:=by rw[<-hl];exact List.length_pos_iff.2 hne
 obtain⟨b,f,ho,hb,_⟩:=Classical.choose_spec (hx 0) hl0;subst ho;refine⟨b,f,rfl,hb,fun i hi=>?_⟩;rw[hl]at hi;obtain⟨b',f',ho,hb',hc⟩:=Classical.choose_spec (hx i) hi;cases ho;rw[hc];simp[O,hi]
end
end Go.Vcg
end
section
namespace Go.Vcg
section
variable{C:Type}
structure Stp (S:C->Prop) (w:I) (la:Nat->C) (w':I) (la':Nat->C):Prop where
 os:w'.os=w.os
 tape:w'.tape=w.tape
 output:w'.output=w.output
 size:w.heap.size<=w'.heap.size
 lab:∀k,k<w.heap.size->la' k=la k
 block:∀k,k<w.heap.size->¬S (la k)->w'.heap[k]?=w.heap[k]?
def ext(lab:Nat->C)(n:Nat)(c:C):Nat->C:=fun k=>if k<n then lab k else c
theorem Z1M{lab:Nat->C}{n k:Nat}{c:C}(h:k<n):ext lab n c k=lab k:=if_pos h
theorem ext_new{lab:Nat->C}{n k:Nat}{c:C}(h:n<=k):ext lab n c k=c:=if_neg (by omega)
variable{S T:C->Prop}{w w' w'':I}{lab lab' lab'':Nat->C}
theorem Stp.refl(S:C->Prop)(w:I)(lab:Nat->C):Stp S w lab w lab:=⟨rfl,rfl,rfl,J6 _,fun _ _=>rfl,fun _ _ _=>rfl⟩
theorem Stp.trans(h:Stp S w lab w' lab')(k:Stp S w' lab' w'' lab''):Stp S w lab w'' lab'' :=
 ⟨k.os.trans h.os,k.tape.trans h.tape,k.output.trans h.output,Q4 h.size k.size,
  fun i hi=>(k.lab i (JO hi h.size)).trans (h.lab i hi),
  fun i hi hn=>(k.block i (JO hi h.size) (by rw[h.lab i hi];exact hn)).trans (h.block i hi hn)⟩
theorem Stp.mono(h:Stp S w lab w' lab')(hs:∀c,S c->T c):Stp T w lab w' lab' :=
 ⟨h.os,h.tape,h.output,h.size,h.lab,fun i hi hn=>h.block i hi (fun k=>hn (hs _ k))⟩
theorem Stp.of_mod{Q:Nat->Prop}(h:Mod Q w w')(c:C)(hq:∀k,k<w.heap.size->Q k->S (lab k)):Stp S w lab w' (ext lab w.heap.size c) :=
 ⟨h.os,h.tape,h.output,h.size,fun _ hi=>Z1M hi,fun i hi hn=>h.block i hi (fun q=>hn (hq i hi q))⟩
theorem Stp.of_nob(h:Mod NoB w w')(c:C):Stp S w lab w' (ext lab w.heap.size c):=Stp.of_mod h c (fun _ _ h=>h.elim)
theorem Stp.drew(S:C->Prop)(w:I)(lab:Nat->C):Stp S w lab w.drew lab:=⟨rfl,rfl,rfl,J6 _,fun _ _=>rfl,fun _ _ _=>rfl⟩
theorem Stp.alloc(S:C->Prop)(w:I)(lab:Nat->C)(o:Obj)(c:C):Stp S w lab (w.alloc o) (ext lab w.heap.size c):=Stp.of_nob (Mod.alloc w o) c
theorem Stp.setCell{a:Addr}{v:Value}(hs:S (lab a.block)):Stp S w lab (w.setCell a v) lab :=
 ⟨rfl,rfl,rfl,by simp[World.setCell],fun _ _=>rfl,fun k _ hn=>heap_setCell_other w a k v (fun e=>hn (e ▸ hs))⟩
theorem Stp.mod{Q:Nat->Prop}(h:Stp S w lab w' lab')(hq:∀k,k<w.heap.size->S (lab k)->Q k):Mod Q w w' :=
 ⟨h.os,h.tape,h.output,h.size,fun k hk hn=>h.block k hk (fun s=>hn (hq k hk s))⟩
theorem Stp.nob(h:Stp S w lab w' lab')(hq:∀k,k<w.heap.size->¬S (lab k)):Mod NoB w w':=h.mod (fun k hk s=>(hq k hk s).elim)
structure CB (w:I) (lab:Nat->C) (c:C) (b:Nat) (t:J3) (cs:Array Value):Prop where
 blk:Blk w b t cs
 clr:lab b=c
variable{c:C}{b:Nat}{t:J3}{cs:Array Value}
theorem CB.stp(h:CB w lab c b t cs)(m:Stp S w lab w' lab')(hs:¬S c):CB w' lab' c b t cs :=
 ⟨(m.block b h.blk.lt (by rw[h.clr];exact hs)).trans h.blk,(m.lab b h.blk.lt).trans h.clr⟩
theorem CB.new(w:I)(lab:Nat->C)(c:C)(t:J3)(cs:Array Value):CB (w.alloc (JH cs t)) (ext lab w.heap.size c) c w.heap.size t cs:=⟨Blk.new w t cs,ext_new (J6 _)⟩
theorem CB.set(h:CB w lab c b t cs)(i:Nat)(v:Value):CB (w.setCell ⟨b,i,JD⟩ v) lab c b t (cs.setIfInBounds i v):=⟨h.blk.set i v,h.clr⟩
structure CBy (w:I) (lab:Nat->C) (c:C) (o:Option Addr) (bs:List UInt8):Prop where
 rd:RdB w o bs
 clr:bs≠[]->∀d,o=Y d->lab d.block=c
variable{o:Option Addr}{bs:List UInt8}
theorem CBy.stp(h:CBy w lab c o bs)(m:Stp S w lab w' lab')(hs:¬S c):CBy w' lab' c o bs:=by
 refine⟨fun hne=>?_,fun hne d hd=>?_⟩
 ·obtain⟨b,f,rfl,hb,hc⟩:=h.rd hne
  have hl:=h.clr hne _ rfl;refine⟨b,f,rfl,JO hb m.size,fun i hi=>?_⟩;exact(World.cell?_of_block (m.block b hb (by rw[hl];exact hs))).trans (hc i hi)
 ·obtain⟨b,f,rfl,hb,_⟩:=h.rd hne
  cases hd;exact(m.lab b hb).trans (h.clr hne _ rfl)
theorem CBy.nil(w:I)(lab:Nat->C)(c:C)(o:Option Addr):CBy w lab c o []:=⟨fun h=>(h rfl).elim,fun h=>(h rfl).elim⟩
theorem CBy.take(h:CBy w lab c o bs)(n:Nat):CBy w lab c o (bs.take n) :=
 ⟨h.rd.take n,fun hne=>h.clr (fun e=>hne (by rw[e,List.take_nil]))⟩
theorem CBy.sub{cap lo n:Nat}(h:CBy w lab c o bs)(hc:bs.length<=cap):CBy w lab c (subO o cap lo 1) ((bs.drop lo).take n):=by
 refine⟨h.rd.sub hc,fun hne d hd=>?_⟩;have hb:bs≠[]:=fun e=>hne (by rw[e];simp);obtain⟨b,f,rfl,_,_⟩:=h.rd hb;have:=h.clr hb _ rfl;rw[subO]at hd;split at hd
 ·cases hd;exact this
 ·simp at hd;subst hd;exact this
structure COw (w:I) (lab:Nat->C) (c:C) (e:J3) (sz:Nat) (o:Option Addr) (l cap:Nat) (xs:List Value):Prop where
 own:Own w e sz o l cap xs
 clr:∀k,OB o k->lab k=c
variable{e:J3}{sz l cap:Nat}{xs:List Value}
theorem COw.nil(w:I)(lab:Nat->C)(c:C)(e:J3)(sz:Nat):COw w lab c e sz JD 0 0 []:=⟨Own.nil w e sz,fun k h=>(Z4j k h).elim⟩
theorem COw.stp(h:COw w lab c e sz o l cap xs)(m:Stp S w lab w' lab')(hs:¬S c):COw w' lab' c e sz o l cap xs:=by
 have hl:∀k,OB o k->k<w.heap.size:=fun k hk=>h.own.lt hk;refine⟨?_,fun k hk=>(m.lab k (hl k hk)).trans (h.clr k hk)⟩;have hm:Mod (fun k=>S (lab k)) w w':=m.mod (fun _ _ s=>s);exact h.own.mod hm (fun k hk s=>hs (by rw[<-h.clr k hk];exact s))
theorem COw.append{P:Program}{t tx ty:J3}{i:TypeInfo}{z:Value}{x:Value}{n:Nat}{news:List Value}
  (ht:P.underlying t=Y (.slice e)) (hi:P.info? e=Y i) (hz:i.zero=Y z) (hs:i.size=sz) (hzs:z.cells.size=sz)
  (h:COw w lab c e sz o l cap xs) (src:Src P sz tx x n news w) (h63:l+n<=Jf) (hb:(l+n)*i.bytes<=140737488355328) :
  ∃o' c' w',JM P (builtinV .append #[t,tx] ty #[.slice o l cap,x]) w=Jp (.slice o' (l+n) c') w' /\
   COw w' (ext lab w.heap.size c) c e sz o' (l+n) c' (xs++news)/\Stp (·=c) w lab w' (ext lab w.heap.size c):=by
 obtain⟨o',c',w',h1,h2,h3,h4⟩:=Z3Y (ty:=ty) ht hi hz hs hzs h.own src h63 hb;refine⟨o',c',w',h1,⟨h2,fun k hk=>?_⟩,Stp.of_mod h3 c (fun k _ hk=>h.clr k hk)⟩;by_cases hl:k<w.heap.size
 ·rw[Z1M hl]
  rcases h4 k hk with h5|h5
  ·exact h.clr k h5
  ·omega
 ·exact ext_new (by omega)
end
end Go.Vcg
end
section
namespace Go.Vcg
open Go.ChangeMaps (setBlock)
open Go.Maps (Keyed)
open Go.MapKept
section
variable{K:Type}[DecidableEq K]{V:Type}
def Z5C(k:K):List (K×V)->Option V
 |[]=>JD
 |x::r=>if x.1=k then Y x.2 else Z5C k r
def upd(k:K)(v:V):List (K×V)->List (K×V)
 |[]=>[(k,v)]
 |x::r=>if x.1=k then(k,v)::r else x::upd k v r
theorem ZA3{k:K}:∀{es:List (K×V)},(∀x∈es,x.1≠k)->Z5C k es=JD
 |[],_=>rfl
 |x::r,h=>by
  rw[Z5C,if_neg (h x (Jy ..)),ZA3 (fun y hy=>h y (Jt _ hy))]
theorem ZBU{k:K}{v:V}:∀{es:List (K×V)},(∀x∈es,x.1≠k)->upd k v es=es++[(k,v)]
 |[],_=>rfl
 |x::r,h=>by
  rw[upd,if_neg (h x (Jy ..)),ZBU (fun y hy=>h y (Jt _ hy))];rfl
theorem ZEA{k:K}:∀{es:List (K×V)} {j:Nat} {x:K×V},(es.map JU).Nodup->es[j]?=Y x->x.1=k->Z5C k es=Y x.2
 |[],_,_,_,h,_=>by simp at h
 |y::r,0,x,_,h,hk=>by simp at h;subst h;rw[Z5C,if_pos hk]
 |y::r,j+1,x,hn,h,hk=>by
  rw[Jd]at h
  have hne:y.1≠k:=by
   rintro rfl;exact(List.nodup_cons.1 hn).1 (hk ▸ JE (Ju h))
  rw[Z5C,if_neg hne,ZEA (List.nodup_cons.1 hn).2 h hk]
theorem ZHg{k:K}{v:V}:∀{es:List (K×V)} {j:Nat} {x:K×V},(es.map JU).Nodup->es[j]?=Y x->x.1=k->upd k v es=es.set j (k,v)
 |[],_,_,_,h,_=>by simp at h
 |y::r,0,x,_,h,hk=>by simp at h;subst h;rw[upd,if_pos hk];rfl
 |y::r,j+1,x,hn,h,hk=>by
  rw[Jd]at h
  have hne:y.1≠k:=by
   rintro rfl;exact(List.nodup_cons.1 hn).1 (hk ▸ JE (Ju h))
  rw[upd,if_neg hne,ZHg (List.nodup_cons.1 hn).2 h hk];rfl
end
section
variable{K:Type}{P:Program}{kt:J3}{enc:K->Value}
structure ZBd (P:Program) (kt:J3) (enc:K->Value) (good:K->Prop):Prop where
 keyed:Keyed P kt
 ok:∀k,good k->∃l,keyOf P kt (enc k)=Y l
 inj:∀a b,enc a=enc b->a=b
def dec(enc:K->Value)(x:K×Value):Value×Value:=(enc x.1,x.2)
def cellE(e:QL):Value×Value:=(e.key,e.val)
def Z3G(good:K->Prop)(enc:K->Value)(w:I)(m:Nat)(es:List (K×Value)):Prop :=
 ∃(A:Array QL)(clock:Nat),w.heap[m]?=Y (.map A clock)/\Stamped A clock/\A.toList.map cellE=es.map (dec enc)/\∀x∈es,good x.1
variable{good:K->Prop}{w w':I}{m:Nat}{es:List (K×Value)}
theorem Z3G.lt(h:Z3G good enc w m es):m<w.heap.size:=by
 obtain⟨A,clock,hb,_⟩:=h;exact(Array.getElem?_eq_some_iff.1 hb).1
theorem Z3G.same(h:Z3G good enc w m es)(hb:w'.heap[m]?=w.heap[m]?):Z3G good enc w' m es:=by
 obtain⟨A,clock,h1,h2⟩:=h;exact⟨A,clock,hb.trans h1,h2⟩
theorem Z3G.nodup(h:Z3G good enc w m es):(es.map JU).Nodup:=by
 obtain⟨A,clock,_,hs,he,_⟩:=h
 have h1:(A.toList.map (·.key))=(es.map JU).map enc:=by
  have:=congrArg (List.map JU) he;simpa[cellE,dec,Function.comp_def]using this
 have h2:=hs.2.2;rw[h1]at h2;generalize es.map JU=l at h2;clear h1
 induction l with
 |nil=>exact List.nodup_nil
 |cons a l ih =>
  rw[QD,Q8]at h2;rw[Q8];exact⟨fun h=>h2.1 (JE h),ih h2.2⟩
private theorem find_split(E:ZBd P kt enc good)(w:I){A:Array QL}{k:K}(hk:good k)(he:A.toList.map cellE=es.map (dec enc))(hg:∀x∈es,good x.1) :
  ((Instr.findKey kt (enc k) A.toList).run P w=Jp JD w/\(∀x∈es,x.1≠k)/\∀e∈A.toList,e.key≠enc k) \/
  ∃j e v,(Instr.findKey kt (enc k) A.toList).run P w=Jp (Y (j,v)) w/\A.toList[j]?=Y e/\e.key=enc k/\e.val=v/\es[j]?=Y (k,v):=by
 obtain⟨lk,hl⟩:=E.ok k hk
 have hall:∀e∈A.toList,∃l,keyOf P kt e.key=Y l:=fun e hm=>by
  have:cellE e∈es.map (dec enc):=he ▸ JE hm;obtain⟨x,hx,hxe⟩:=List.mem_map.1 this;have h1:e.key=enc x.1:=(congrArg JU hxe).symm;rw[h1];exact E.ok _ (hg x hx)
 rcases E.keyed.find w hl A.toList hall with⟨h1,h2⟩|⟨j,e,h1,h2,h3⟩
 ·refine .inl ⟨h1,fun x hx hxk=>?_,h2⟩
  have:dec enc x∈A.toList.map cellE:=he ▸ JE hx;obtain⟨e,hm,hee⟩:=List.mem_map.1 this;exact h2 e hm (by rw[show e.key=enc x.1 from congrArg JU hee,hxk])
 ·refine .inr ⟨j,e,e.val,h1,h2,h3,rfl,?_⟩
  have h4:(es.map (dec enc))[j]?=Y (cellE e):=by rw[<-he,D,h2];rfl
  rw[D,Jg]at h4;obtain⟨x,hx,hxe⟩:=h4;have e1:enc x.1=enc k:=(congrArg JU hxe).trans h3;have e2:x.2=e.val:=congrArg Prod.snd hxe;rw[hx,<-E.inj _ _ e1,<-e2]
theorem Z3G.check(E:ZBd P kt enc good){k:K}(hk:good k)(em:Bool)(w:I):(Instr.checkKey em 10000 kt (enc k)).run P w=Jp () w:=by
 obtain⟨lk,hl⟩:=E.ok k hk;exact E.keyed.check w em hl
theorem Z3G.look[DecidableEq K](h:Z3G good enc w m es)(E:ZBd P kt enc good){t e:J3}(ht:P.underlying t=Y (.map kt e)){z:Value}(hz:(zeroValue e).run P w=Jp z w){k:K}(hk:good k)(c:Bool) :
  (Instr.lookup t (.map (Y m)) (enc k) c).run P w=Jp (if c then .tuple #[(Z5C k es).getD z,.bool (Z5C k es).isSome]else(Z5C k es).getD z) w:=by
 have hn:=h.nodup;obtain⟨A,clock,hb,hs,he,hg⟩:=h;rcases find_split E w hk he hg with⟨h1,h2,_⟩|⟨j,e0,v,h1,h2,h3,h4,h5⟩
 ·rw[ZA3 h2]
  simp[Instr.lookup,run_underlying ht,JG hb,Z3G.check E hk,h1,hz,JZ]
 ·rw[ZEA hn h5 rfl]
  simp[Instr.lookup,run_underlying ht,JG hb,Z3G.check E hk,h1,JZ]
theorem Z3G.update[DecidableEq K](h:Z3G good enc w m es)(E:ZBd P kt enc good){t e:J3}(ht:P.underlying t=Y (.map kt e)){k:K}(hk:good k)(v:Value) :
  ∃w',(Instr.mapUpdate t (.map (Y m)) (enc k) v).run P w=Jp () w'/\Z3G good enc w' m (upd k v es)/\Mod (·=m) w w':=by
 have hn:=h.nodup;obtain⟨A,clock,hb,hs,he,hg⟩:=h;have hmod:∀o,Mod (·=m) w (setBlock w m o):=fun o=>⟨rfl,rfl,rfl,by simp[setBlock],fun k _ hk=>(QM hb).2 k hk⟩;rcases find_split E w hk he hg with⟨h1,h2,h2'⟩|⟨j,e0,v0,h1,h2,h3,h4,h5⟩
 ·refine⟨setBlock w m (.map (A.push ⟨enc k,v,clock⟩) (clock+1)),?_,⟨_,_,(QM hb).1,stamped_push hs h2',?_,?_⟩,hmod _⟩
  ·simp[Instr.mapUpdate,run_underlying ht,JG hb,Z3G.check E hk,h1,Jh _ hb,JZ,setBlock]
  ·rw[ZBU h2,Array.toList_push,Jm,Jm,he];rfl
  ·rw[ZBU h2]
   intro x hx;rcases List.mem_append.1 hx with hx|hx
   ·exact hg x hx
   ·simp at hx;subst hx;exact hk
 ·obtain⟨lk,hl⟩:=E.ok k hk
  have hj:j<A.size:=by simpa using(List.getElem?_eq_some_iff.1 h2).1
  have hA:A[j]?=Y e0:=by simpa using h2
  refine⟨setBlock w m (.map (A.modify j fun e=>{ e with key:=enc k,val:=v }) clock),?_,⟨_,_,(QM hb).1,stamped_modify hs j _ (fun _ _=>rfl) (fun e hm hej=>?_),?_,?_⟩,hmod _⟩
  ·have hst:=E.keyed.stays w hl
   simp[Instr.mapUpdate,run_underlying ht,JG hb,Z3G.check E hk,h1,hA,h3,hst,Jh _ hb,JZ,setBlock]
  ·rw[hA]at hej
   cases hej;exact h3.symm
  ·rw[ZHg hn h5 rfl]
   apply Q0;intro i;have hi:(A.toList.map cellE)[i]?=(es.map (dec enc))[i]?:=by rw[he]
   rw[D,D]at hi;rw[D,D,Jq,JQ,List.getElem?_set];rw[Jq]at hi;by_cases hij:j=i
   ·subst hij
    rw[if_pos rfl,if_pos rfl,if_pos (by have:=(List.getElem?_eq_some_iff.1 h5).1;exact this),hA];rfl
   ·rw[if_neg hij,if_neg hij,hi]
  ·rw[ZHg hn h5 rfl]
   intro x hx;rcases List.mem_or_eq_of_mem_set hx with hx|rfl
   ·exact hg x hx
   ·exact hk
variable{i:Nat}{todo:List (K×Value)}
end
section
variable{C:Type}{S:C->Prop}{w w':I}{lab lab':Nat->C}{c:C}{K:Type}{good:K->Prop}{enc:K->Value}{m:Nat}{es:List (K×Value)}
structure CM (good:K->Prop) (enc:K->Value) (w:I) (lab:Nat->C) (c:C) (m:Nat) (es:List (K×Value)):Prop where
 map:Z3G good enc w m es
 clr:lab m=c
theorem CM.stp(h:CM good enc w lab c m es)(s:Stp S w lab w' lab')(hs:¬S c):CM good enc w' lab' c m es :=
 ⟨h.map.same (s.block m h.map.lt (by rw[h.clr];exact hs)),(s.lab m h.map.lt).trans h.clr⟩
end
end Go.Vcg
end
section
namespace Go.Trie
abbrev By:=List UInt8
inductive It where
 |s (b:By)
 |l (xs:List It)
inductive Nd where
 |nil
 |leaf (p v:By)
 |row (p:By) (c:Nd)
 |branch (cs:Fin 16->Nd) (v:By)
def nibbles(k:By):By:=k.flatMap fun(c:UInt8)=>[c>>>4,c&&&15]
def Z4v:By->By
 |a::b::r=>(a<<<4|||b)::Z4v r
 |_=>[]
def Z2F(leaf:Bool):UInt8:=if leaf then 2 else 0
def headed(p:By)(leaf:Bool):By:=if p.length%2=1 then(Z2F leaf+1)::p else Z2F leaf::0::p
def Z3v(p:By):Prop:=p.length>128\/∃x∈p,x>=16
instance (p:By):Decidable (Z3v p):=by unfold Z3v;infer_instance
def Z8a(p:By)(leaf:Bool):By×Int:=if Z3v p then([],140)else(Z4v (headed p leaf),0)
def shared:By->By->Nat
 |a::p,b::q=>if a=b then shared p q+1 else 0
 |_,_=>0
theorem Z3x:∀(p q:By),shared p q<=p.length/\shared p q<=q.length
 |[],q=>by simp[shared]
 |a::p,[]=>by simp[shared]
 |a::p,b::q=>by
  have:=Z3x p q;simp only[shared];split<;>simp<;>omega
theorem Z3y:∀(p q:By),p.take (shared p q)=q.take (shared p q)
 |[],q=>by simp[shared]
 |a::p,[]=>by simp[shared]
 |a::p,b::q=>by
  simp only[shared];split
  ·rename_i h
   subst h;simp[Z3y p q]
  ·simp
theorem Z9Y:∀(p q:By) (h1:shared p q<p.length) (h2:shared p q<q.length),p[shared p q]≠q[shared p q]
 |a::p,b::q,h1,h2=>by
  by_cases hab:a=b
  ·subst hab
   have e:shared (a::p) (a::q)=shared p q+1:=by simp[shared]
   simp only[e,List.getElem_cons_succ];exact Z9Y p q (by simp only[e,J5]at h1;omega) (by simp only[e,J5]at h2;omega)
  ·have e:shared (a::p) (b::q)=0:=by simp[shared,hab]
   simp only[e,JP];exact hab
 |[],q,h1,_=>by simp at h1
 |a::p,[],_,h2=>by simp at h2
def rowed(p:By)(n:Nd):Nd :=
 if p=[]then n else match n with
  | .leaf q v=>.leaf (p++q) v
  | .row q c=>.row (p++q) c
  |n=>.row p n
def upd(cs:Fin 16->Nd)(a:UInt8)(n:Nd):Fin 16->Nd:=fun i=>if i.val=a.toNat then n else cs i
def at_(cs:Fin 16->Nd)(a:UInt8):Nd:=if h:a.toNat<16 then cs ⟨a.toNat,h⟩else .nil
def lay(cs:Fin 16->Nd)(v:By)(p x:By):Nd:=match p with
 |[]=>.branch cs x
 |a::r=>.branch (upd cs a (.leaf r x)) v
def ZIH(n:Nd)(p x:By):Nd:=match n with
 | .branch cs v=>lay cs v p x
 |n=>n
def Z0D:Fin 16->Nd:=fun _=>.nil
def put(n:Nd)(p x:By):Nd:=match n with
 | .nil=>.leaf p x
 | .leaf q v =>
   if shared q p=q.length/\shared q p=p.length then .leaf p x
   else rowed (p.take (shared q p)) (ZIH (lay Z0D [] (q.drop (shared q p)) v) (p.drop (shared q p)) x)
 | .row q c =>
   if shared q p=q.length then .row q (put c (p.drop (shared q p)) x)
   else rowed (p.take (shared q p)) (lay (upd Z0D (q.getD (shared q p) 0) (rowed (q.drop (shared q p+1)) c)) [] (p.drop (shared q p)) x)
 | .branch cs v=>match p with
   |[]=>.branch cs x
   |a::r=>.branch (fun i=>if i.val=a.toNat then put (cs i) r x else cs i) v
def get(n:Nd)(p:By):Option By:=match n with
 | .nil=>JD
 | .leaf q v=>if q=p then Y v else JD
 | .row q c=>if q.isPrefixOf p then get c (p.drop q.length)else JD
 | .branch cs v=>match p with
   |[]=>if v=[]then JD else Y v
   |a::r=>if h:a.toNat<16 then get (cs ⟨a.toNat,h⟩) r else JD
def Nib(p:By):Prop:=∀x∈p,x.toNat<16
def Z40:Nd->Prop
 | .branch _ _=>True
 |_=>False
def Many(cs:Fin 16->Nd)(v:By):Prop:=(v≠[]/\∃i,cs i≠.nil)\/∃i j,i≠j/\cs i≠.nil/\cs j≠.nil
def Z0x:Nd->Prop
 | .nil=>True
 | .leaf p v=>Nib p/\v≠[]
 | .row p c=>p≠[]/\Nib p/\Z40 c/\Z0x c
 | .branch cs v=>(∀i,Z0x (cs i))/\Many cs v
theorem Z1d(p r:By)(c:Nd):get (.row p c) (p++r)=get c r:=by
 simp only[get];rw[if_pos (List.isPrefixOf_iff_prefix.2 (U _ _)),Jv]
theorem ZCD{p k:By}{c:Nd}{v:By}(h:get (.row p c) k=Y v):∃r,k=p++r/\get c r=Y v:=by
 simp only[get]at h;split at h
 ·rename_i hp
  obtain⟨r,rfl⟩:=List.isPrefixOf_iff_prefix.1 hp;rw[Jv]at h;exact⟨r,rfl,h⟩
 ·cases h
theorem Zd(cs:Fin 16->Nd)(v:By):get (.branch cs v) []=if v=[]then JD else Y v:=by simp only[get]
theorem Z1N(cs:Fin 16->Nd)(v:By)(i:Fin 16)(r:By):get (.branch cs v) (X i.val::r)=get (cs i) r:=by
 have hi:(X i.val).toNat=i.val:=by
  rw[J9];have:=i.isLt;omega
 simp only[get];rw[dif_pos (by rw[hi];exact i.isLt)];congr 2;exact Fin.ext hi
theorem ZCW{i j:Fin 16}(h:X i.val=X j.val):i=j:=by
 have h1:=congrArg UInt8.toNat h;rw[J9,J9]at h1;have:=i.isLt;have:=j.isLt;exact Fin.ext (by omega)
theorem Z6P:∀{n:Nd},Z0x n->n≠.nil->∃k v,get n k=Y v
 | .nil,_,h=>(h rfl).elim
 | .leaf p v,_,_=>⟨p,v,by simp[get]⟩
 | .row p c,h,_=>by
   obtain⟨k,v,hk⟩:=Z6P (n:=c) h.2.2.2 (by intro e;rw[e]at h;exact h.2.2.1);exact⟨p++k,v,by rw[Z1d];exact hk⟩
 | .branch cs v,h,_=>by
   rcases h.2 with⟨hv,_⟩|⟨i,j,_,hi,_⟩
   ·exact⟨[],v,by rw[Zd,if_neg hv]⟩
   ·obtain⟨k,w,hk⟩:=Z6P (n:=cs i) (h.1 i) hi
    exact⟨X i.val::k,w,by rw[Z1N];exact hk⟩
def Part(a b:By):Prop:=a≠b/\∀x r s,¬(a=x::r/\b=x::s)
theorem Z7L{n:Nd}(h:Z0x n)(hb:Z40 n):∃k1 v1 k2 v2,get n k1=Y v1/\get n k2=Y v2/\Part k1 k2:=by
 cases n with
 |nil=>exact hb.elim
 |leaf p v=>exact hb.elim
 |row p c=>exact hb.elim
 |branch cs v =>
  rcases h.2 with⟨hv,i,hi⟩|⟨i,j,hij,hi,hj⟩
  ·obtain⟨k,w,hk⟩:=Z6P (h.1 i) hi
   exact⟨[],v,X i.val::k,w,by rw[Zd,if_neg hv],by rw[Z1N];exact hk,by simp,fun x r s h=>by cases h.1⟩
  ·obtain⟨k,w,hk⟩:=Z6P (h.1 i) hi
   obtain⟨k',w',hk'⟩:=Z6P (h.1 j) hj;refine⟨X i.val::k,w,X j.val::k',w',by rw[Z1N];exact hk,by rw[Z1N];exact hk',?_,fun x r s h=>?_⟩
   ·intro e
    exact hij (ZCW (JT e).1)
   ·exact hij (ZCW ((JT h.1).1.trans (JT h.2).1.symm))
theorem ZHd{p:By}{c:Nd}(h:Z0x (.row p c)):∃k1 v1 k2 v2,get (.row p c) k1=Y v1/\get (.row p c) k2=Y v2/\k1≠k2:=by
 obtain⟨k1,v1,k2,v2,h1,h2,hp⟩:=Z7L h.2.2.2 h.2.2.1;exact⟨p++k1,v1,p++k2,v2,by rw[Z1d];exact h1,by rw[Z1d];exact h2,fun e=>hp.1 (JF e)⟩
theorem Nib.left{p q:By}(h:Nib (p++q)):Nib p:=fun x hx=>h x (List.mem_append_left _ hx)
theorem Nib.right{p q:By}(h:Nib (p++q)):Nib q:=fun x hx=>h x (List.mem_append_right _ hx)
theorem Nib.append{p q:By}(h:Nib p)(k:Nib q):Nib (p++q):=fun x hx=>(List.mem_append.1 hx).elim (h x) (k x)
theorem Nib.drop{p:By}(h:Nib p)(n:Nat):Nib (p.drop n):=fun x hx=>h x (List.mem_of_mem_drop hx)
def behind(p k:By)(n:Nd):Option By:=if p.isPrefixOf k then get n (k.drop p.length)else JD
theorem Z0Q(p r:By)(n:Nd):behind p (p++r) n=get n r:=by
 unfold behind;rw[if_pos (List.isPrefixOf_iff_prefix.2 (U _ _)),Jv]
theorem Z05{p k:By}{n:Nd}(h:¬p <+: k):behind p k n=JD:=by
 unfold behind;rw[if_neg (fun hp=>h (List.isPrefixOf_iff_prefix.1 hp))]
theorem Z5L(p:By)(c:Nd)(k:By):get (.row p c) k=behind p k c:=by simp only[get,behind]
theorem Z98(p:By)(n:Nd)(k:By):get (rowed p n) k=behind p k n:=by
 unfold rowed;split
 ·rename_i h
  subst h;unfold behind;simp
 ·cases n with
  |nil=>exact Z5L _ _ _
  |branch cs v=>exact Z5L _ _ _
  |leaf q v =>
   by_cases hp:p <+: k
   ·obtain⟨r,rfl⟩:=hp
    rw[Z0Q];simp only[get,JA]
   ·rw[Z05 hp]
    simp only[get];rw[if_neg (fun(e:p++q=k)=>hp (by rw[<-e];exact U _ _))]
  |row q c =>
   by_cases hp:p <+: k
   ·obtain⟨r,rfl⟩:=hp
    rw[Z0Q,Z5L,Z5L];by_cases hq:q <+: r
    ·obtain⟨s,rfl⟩:=hq
     rw[<-J1,Z0Q,Z0Q]
    ·rw[Z05 hq,Z05]
     rintro⟨s,hs⟩;rw[J1]at hs;exact hq ⟨s,JF hs⟩
   ·rw[Z05 hp]
    show get (.row (p++q) c) k=JD;rw[Z5L,Z05];rintro⟨s,rfl⟩;rw[J1]at hp;exact hp (U _ _)
theorem Z6I{p:By}{n:Nd}(hp:Nib p)(hn:Z0x n)(h0:n≠.nil):Z0x (rowed p n)/\rowed p n≠.nil:=by
 unfold rowed;split
 ·exact⟨hn,h0⟩
 ·rename_i hne
  cases n with
  |nil=>exact(h0 rfl).elim
  |leaf q v=>exact⟨⟨hp.append hn.1,hn.2⟩,by simp⟩
  |row q c=>exact⟨⟨by simp[hne],hp.append hn.2.1,hn.2.2⟩,by simp⟩
  |branch cs v=>exact⟨⟨hne,hp,trivial,hn⟩,by simp⟩
theorem Z0R(cs:Fin 16->Nd)(v:By)(a:UInt8)(r:By):get (.branch cs v) (a::r)=get (at_ cs a) r:=by
 simp only[get,at_];split<;>simp[get]
theorem Z8v{cs:Fin 16->Nd}{a:UInt8}{n:Nd}(h:a.toNat<16):at_ (upd cs a n) a=n:=by
 unfold at_ upd;rw[dif_pos h,if_pos rfl]
theorem Z4L{cs:Fin 16->Nd}{a b:UInt8}{n:Nd}(h:b≠a):at_ (upd cs a n) b=at_ cs b:=by
 unfold at_ upd;split
 ·rw[if_neg (fun e=>h (UInt8.toNat_inj.1 e))]
 ·rfl
theorem ZB0{cs:Fin 16->Nd}{v p x:By}(hp:Nib p)(hx:x≠[])(h1:p=[]->v=[])(h2:∀a r,p=a::r->at_ cs a=.nil)(k:By):get (lay cs v p x) k=if k=p then Y x else get (.branch cs v) k:=by
 cases p with
 |nil =>
  show get (.branch cs x) k=_;cases k with
  |nil=>rw[Zd,if_neg hx,if_pos rfl]
  |cons b r=>rw[if_neg (by simp),Z0R,Z0R]
 |cons a r =>
  show get (.branch (upd cs a (.leaf r x)) v) k=_;have ha:a.toNat<16:=hp a (by simp);cases k with
  |nil=>rw[Zd,Zd,if_neg (show ¬([]:By)=a::r by simp)]
  |cons b s =>
   rw[Z0R,Z0R];by_cases hb:b=a
   ·subst hb
    rw[Z8v ha,h2 b r rfl];simp only[get,Jn,true_and];by_cases hrs:r=s
    ·rw[if_pos hrs,if_pos hrs.symm]
    ·rw[if_neg hrs,if_neg (fun e=>hrs e.symm)]
   ·rw[Z4L hb,if_neg (by simp[hb])]
theorem Z5F{cs:Fin 16->Nd}{a:UInt8}{n:Nd}(h:∀i,Z0x (cs i))(hn:Z0x n):∀i,Z0x (upd cs a n i):=fun i=>by
 unfold upd;split
 ·exact hn
 ·exact h i
theorem ZJ3{cs:Fin 16->Nd}{a:UInt8}(h:a.toNat<16):at_ cs a=cs ⟨a.toNat,h⟩:=dif_pos h
theorem Z4D(a:UInt8):at_ Z0D a=.nil:=by unfold at_;split<;>rfl
theorem ZAJ(k:By):get (.branch Z0D []) k=JD:=by
 cases k with
 |nil=>rfl
 |cons a r=>rw[Z0R,Z4D];simp[get]
theorem ZJ8{a b:UInt8}(ha:a.toNat<16)(hb:b.toNat<16)(h:a≠b):(⟨a.toNat,ha⟩:Fin 16)≠⟨b.toNat,hb⟩:=fun e=>h (UInt8.toNat_inj.1 (Fin.mk.inj e))
theorem ZJk{q p v x:By}(hq:Nib q)(hp:Nib p)(hv:v≠[])(hx:x≠[])(hne:q≠p)(hh:∀a r s,¬(q=a::r/\p=a::s)) :
  Z0x (ZIH (lay Z0D [] q v) p x)/\Z40 (ZIH (lay Z0D [] q v) p x)/\∀k,get (ZIH (lay Z0D [] q v) p x) k=if k=p then Y x else if k=q then Y v else JD:=by
 have g1:=fun k=>ZB0 (cs:=Z0D) (v:=[]) (x:=v) hq hv (fun _=>rfl) (fun a r _=>Z4D a) k;cases q with
 |nil =>
  cases p with
  |nil=>exact(hne rfl).elim
  |cons b s =>
   have hb:b.toNat<16:=hp b (by simp);refine⟨⟨Z5F (fun _=>trivial) ⟨fun y hy=>hp y (by simp[hy]),hx⟩,.inl ⟨hv,⟨b.toNat,hb⟩,by unfold upd;rw[if_pos rfl];simp⟩⟩,trivial,fun k=>?_⟩;have g2:=ZB0 (cs:=Z0D) (v:=v) hp hx (fun h=>by cases h) (fun a r _=>Z4D a) k;show get (lay Z0D v (b::s) x) k=_;rw[g2];split
   ·rfl
   ·have:=g1 k
    rw[ZAJ]at this;exact this
 |cons a r =>
  have ha:a.toNat<16:=hq a (by simp);have e:lay Z0D [] (a::r) v=.branch (upd Z0D a (.leaf r v)) []:=rfl;rw[e]at g1 ⊢;show Z0x (lay (upd Z0D a (.leaf r v)) [] p x)/\Z40 (lay (upd Z0D a (.leaf r v)) [] p x)/\∀k,get (lay (upd Z0D a (.leaf r v)) [] p x) k=_;have hc1:∀i,Z0x (upd Z0D a (.leaf r v) i):=Z5F (fun _=>trivial) ⟨fun y hy=>hq y (by simp[hy]),hv⟩
  have hp2:∀b s,p=b::s->at_ (upd Z0D a (.leaf r v)) b=.nil:=fun b s h=>by
   rw[Z4L (fun h2=>hh a r s ⟨rfl,by rw[h,h2]⟩),Z4D]
  refine⟨?_,?_,fun k=>?_⟩
  ·cases p with
   |nil=>exact⟨hc1,.inl ⟨hx,⟨a.toNat,ha⟩,by unfold upd;rw[if_pos rfl];simp⟩⟩
   |cons b s =>
    have hb:b.toNat<16:=hp b (by simp);have hab:a≠b:=fun h=>hh a r s ⟨rfl,by rw[h]⟩;refine⟨Z5F hc1 ⟨fun y hy=>hp y (by simp[hy]),hx⟩,.inr ⟨⟨a.toNat,ha⟩,⟨b.toNat,hb⟩,ZJ8 ha hb hab,?_,?_⟩⟩
    ·unfold upd
     rw[if_neg (fun h=>hab (UInt8.toNat_inj.1 h)),if_pos rfl];simp
    ·unfold upd
     rw[if_pos rfl];simp
  ·cases p<;>exact trivial
  ·rw[ZB0 hp hx (fun _=>rfl) hp2 k]
   split
   ·rfl
   ·have:=g1 k
    rw[ZAJ]at this;exact this
theorem Z47(q p:By):∃t q' p',q=t++q'/\p=t++p'/\t=p.take (shared q p)/\q'=q.drop (shared q p)/\p'=p.drop (shared q p)/\t.length=shared q p/\∀a r s,¬(q'=a::r/\p'=a::s):=by
 have hl:=Z3x q p;refine⟨p.take (shared q p),q.drop (shared q p),p.drop (shared q p),?_,(Jr _ _).symm,rfl,rfl,rfl,by rw[JK];omega,fun a r s h=>?_⟩
 ·rw[<-Z3y];exact(Jr _ _).symm
 ·have h1:shared q p<q.length:=by
    have:=congrArg QN h.1;rw[JL]at this;simp at this;omega
  have h2:shared q p<p.length:=by
   have:=congrArg QN h.2;rw[JL]at this;simp at this;omega
  refine Z9Y q p h1 h2 ?_
  have e1:q[shared q p]=a:=by
   have:=Q5 (xs:=q) (i:=shared q p) (j:=0) (h:=by rw[JL];omega);simp only[h.1,JP,QJ]at this;exact this.symm
  have e2:p[shared q p]=a:=by
   have:=Q5 (xs:=p) (i:=shared q p) (j:=0) (h:=by rw[JL];omega);simp only[h.2,JP,QJ]at this;exact this.symm
  rw[e1,e2]
theorem Z8C:∀{n:Nd} {p x:By},Z0x n->Nib p->x≠[]->Z0x (put n p x)/\put n p x≠.nil/\(Z40 n->Z40 (put n p x))/\∀k,get (put n p x) k=if k=p then Y x else get n k
 | .nil,p,x,hn,hp,hx=>by
   refine⟨⟨hp,hx⟩,by simp[put],fun h=>h.elim,fun k=>?_⟩;simp only[put,get];by_cases h:p=k
   ·rw[if_pos h,if_pos h.symm]
   ·rw[if_neg h,if_neg (fun e=>h e.symm)]
 | .leaf q v,p,x,hn,hp,hx=>by
   simp only[put];obtain⟨t,q',p',hq,hpe,ht,hq',hp',htl,hh⟩:=Z47 q p;split
   ·rename_i hs
    have hqp:q=p:=by
     have h1:=Z3y q p;rw[hs.1,JS]at h1;have h2:q.length=p.length:=hs.1.symm.trans hs.2;rw[h2,JS]at h1;exact h1
    subst hqp;refine⟨⟨hp,hx⟩,by simp,fun h=>h.elim,fun k=>?_⟩;simp only[get];by_cases h:q=k
    ·rw[if_pos h,if_pos h.symm]
    ·rw[if_neg h,if_neg (fun e=>h e.symm),if_neg h]
   ·rename_i hs
    have hne:q'≠p':=by
     rintro rfl;cases q' with
     |nil =>
      simp only[JV]at hq hpe;exact hs ⟨by rw[<-htl,<-hq],by rw[<-htl,<-hpe]⟩
     |cons a r=>exact hh a r r ⟨rfl,rfl⟩
    have hnq:Nib q':=(hq ▸ hn.1:Nib (t++q')).right;have hnp:Nib p':=(hpe ▸ hp:Nib (t++p')).right;have hnt:Nib t:=(hpe ▸ hp:Nib (t++p')).left;obtain⟨hc,hb,hg⟩:=ZJk hnq hnp hn.2 hx hne hh;rw[<-ht,<-hq',<-hp'];have hnz:ZIH (lay Z0D [] q' v) p' x≠.nil:=by intro e;rw[e]at hb;exact hb
    obtain⟨h1,h2⟩:=Z6I hnt hc hnz;refine⟨h1,h2,fun h=>h.elim,fun k=>?_⟩;rw[Z98];simp only[get];by_cases hk:t <+: k
    ·obtain⟨k',rfl⟩:=hk
     rw[Z0Q,hg,hpe,hq];simp only[JA];split
     ·rfl
     ·by_cases h:k'=q'
      ·rw[if_pos h,if_pos h.symm]
      ·rw[if_neg h,if_neg (fun e=>h e.symm)]
    ·rw[Z05 hk,if_neg (fun(e:k=p)=>hk (by rw[e,hpe];exact U _ _)),if_neg (fun(e:q=k)=>hk (by rw[<-e,hq];exact U _ _))]
 | .row q c,p,x,hn,hp,hx=>by
   simp only[put];obtain⟨t,q',p',hq,hpe,ht,hq',hp',htl,hh⟩:=Z47 q p;have hnp:Nib p':=(hpe ▸ hp:Nib (t++p')).right;have hnt:Nib t:=(hpe ▸ hp:Nib (t++p')).left;split
   ·rename_i hs
    have hq0:q'=[]:=by rw[hq',hs,List.drop_length]
    rw[hq0,JV]at hq;subst hq;rw[<-hp'];obtain⟨h1,h2,h3,h4⟩:=Z8C (p:=p') (x:=x) hn.2.2.2 hnp hx;refine⟨⟨hn.1,hn.2.1,h3 hn.2.2.1,h1⟩,by simp,fun h=>h.elim,fun k=>?_⟩;rw[Z5L,Z5L];by_cases hk:q <+: k
    ·obtain⟨k',rfl⟩:=hk
     rw[Z0Q,Z0Q,h4,hpe];simp only[JA]
    ·rw[Z05 hk,Z05 hk,if_neg (fun(e:k=p)=>hk (by rw[e,hpe];exact U _ _))]
   ·rename_i hs
    have hlt:shared q p<q.length:=by have:=(Z3x q p).1;omega
    obtain⟨a,q2,hq2⟩:∃a q2,q'=a::q2:=by
     cases h:q' with
     |nil=>rw[hq',List.drop_eq_nil_iff]at h;omega
     |cons a r=>exact⟨a,r,rfl⟩
    have hga:q.getD (shared q p) 0=a:=by
     have h3:q[t.length]?=Y a:=by rw[hq,List.getElem?_append_right (J6 _),Nat.sub_self,hq2];rfl
     rw[<-htl,O,h3];rfl
    have hgd:q.drop (shared q p+1)=q2:=by
     rw[<-List.drop_drop,<-hq',hq2];rfl
    rw[hga,hgd,<-ht,<-hp'];have hnq:Nib q':=(hq ▸ hn.2.1:Nib (t++q')).right;rw[hq2]at hnq;have ha:a.toNat<16:=hnq a (by simp);have hcn:c≠.nil:=by intro e;rw[e]at hn;exact hn.2.2.1
    obtain⟨r1,r2⟩:=Z6I (p:=q2) (n:=c) (fun y hy=>hnq y (by simp[hy])) hn.2.2.2 hcn;have hc1:∀i,Z0x (upd Z0D a (rowed q2 c) i):=Z5F (fun _=>trivial) r1
    have hp2:∀b s,p'=b::s->at_ (upd Z0D a (rowed q2 c)) b=.nil:=fun b s h=>by
     rw[Z4L (fun h2=>hh a q2 s ⟨hq2,by rw[h,h2]⟩),Z4D]
    have hcl:Z0x (lay (upd Z0D a (rowed q2 c)) [] p' x)/\Z40 (lay (upd Z0D a (rowed q2 c)) [] p' x):=by
     cases hpp:p' with
     |nil=>exact⟨⟨hc1,.inl ⟨hx,⟨a.toNat,ha⟩,by unfold upd;rw[if_pos rfl];exact r2⟩⟩,trivial⟩
     |cons b s =>
      rw[hpp]at hnp;have hb:b.toNat<16:=hnp b (by simp);have hab:a≠b:=fun h=>hh a q2 s ⟨hq2,by rw[hpp,h]⟩;refine⟨⟨Z5F hc1 ⟨fun y hy=>hnp y (by simp[hy]),hx⟩,.inr ⟨⟨a.toNat,ha⟩,⟨b.toNat,hb⟩,ZJ8 ha hb hab,?_,?_⟩⟩,trivial⟩
      ·unfold upd
       rw[if_neg (fun h=>hab (UInt8.toNat_inj.1 h)),if_pos rfl];exact r2
      ·unfold upd
       rw[if_pos rfl];simp
    have hnz:lay (upd Z0D a (rowed q2 c)) [] p' x≠.nil:=by intro e;rw[e]at hcl;exact hcl.2
    obtain⟨h1,h2⟩:=Z6I hnt hcl.1 hnz;refine⟨h1,h2,fun h=>h.elim,fun k=>?_⟩;rw[Z98,Z5L];by_cases hk:t <+: k
    ·obtain⟨k',rfl⟩:=hk
     rw[Z0Q,ZB0 hnp hx (fun _=>rfl) hp2,hpe,hq,hq2];simp only[JA];split
     ·rfl
     ·cases k' with
      |nil =>
       rw[Zd,if_pos rfl,JV,Z05];intro hpre;have:=hpre.length_le;simp at this;omega
      |cons b s =>
       rw[Z0R];by_cases hba:b=a
       ·subst hba
        rw[Z8v ha,Z98];by_cases hqs:q2 <+: s
        ·obtain⟨u,rfl⟩:=hqs
         rw[Z0Q,show t++b::(q2++u)=(t++b::q2)++u by simp,Z0Q]
        ·rw[Z05 hqs,Z05]
         rintro⟨u,hu⟩;rw[J1]at hu;have:=JF hu;rw[Je]at this;exact hqs ⟨u,(JT this).2⟩
       ·rw[Z4L hba,Z4D,Z05]
        ·simp[get]
        ·rintro⟨u,hu⟩
         rw[J1]at hu;have:=JF hu;rw[Je]at this;exact hba (JT this).1.symm
    ·rw[Z05 hk,if_neg (fun(e:k=p)=>hk (by rw[e,hpe];exact U _ _)),Z05]
     rintro⟨u,rfl⟩;rw[hq,J1]at hk;exact hk (U _ _)
 | .branch cs v,[],x,hn,hp,hx=>by
   refine⟨⟨hn.1,?_⟩,by simp[put],fun _=>trivial,fun k=>?_⟩
   ·rcases hn.2 with⟨_,h⟩|h
    ·exact .inl ⟨hx,h⟩
    ·exact .inr h
   ·simp only[put]
    cases k with
    |nil=>rw[Zd,if_neg hx,if_pos rfl]
    |cons b r=>rw[if_neg (by simp),Z0R,Z0R]
 | .branch cs v,a::r,x,hn,hp,hx=>by
   have ha:a.toNat<16:=hp a (by simp);have hr:Nib r:=fun y hy=>hp y (by simp[hy]);have ih:=fun i=>Z8C (n:=cs i) (p:=r) (x:=x) (hn.1 i) hr hx;simp only[put];refine⟨⟨fun i=>?_,?_⟩,by simp,fun _=>trivial,fun k=>?_⟩
   ·dsimp only
    split
    ·exact(ih i).1
    ·exact hn.1 i
   ·have keep:∀i,cs i≠.nil->(if i.val=a.toNat then put (cs i) r x else cs i)≠.nil:=fun i hi=>by
      split
      ·exact(ih i).2.1
      ·exact hi
    rcases hn.2 with⟨hv,i,hi⟩|⟨i,j,hij,hi,hj⟩
    ·exact .inl ⟨hv,i,keep i hi⟩
    ·exact .inr ⟨i,j,hij,keep i hi,keep j hj⟩
   ·cases k with
    |nil=>rw[Zd,Zd,if_neg (show ¬([]:By)=a::r by simp)]
    |cons b s =>
     rw[Z0R,Z0R];by_cases hb:b=a
     ·subst hb
      rw[ZJ3 ha,ZJ3 ha,if_pos rfl,(ih _).2.2.2];simp only[Jn,true_and]
     ·rw[if_neg (by simp[hb])]
      unfold at_;split
      ·rename_i hb16
       dsimp only;rw[if_neg (fun e=>hb (UInt8.toNat_inj.1 e))]
      ·rfl
def isNil:Nd->Bool
 | .nil=>true
 |_=>QE
theorem ZGa{n:Nd}:isNil n=true↔n=.nil:=by cases n<;>simp[isNil]
def there(cs:Fin 16->Nd):List (Fin 16):=(List.finRange 16).filter fun i=> !isNil (cs i)
theorem nib_one(i:Fin 16):Nib [X i.val]:=fun x hx=>by
 simp at hx;subst hx;rw[J9];have:=i.isLt;omega
end Go.Trie
end
section
namespace Go.Vcg
structure ZU (w0 w:I) (e:J3) (sz:Nat) (o:Option Addr) (l c:Nat) (xs:List Value):Prop where
 own:Own w e sz o l c xs
 mod:Mod NoB w0 w
 new:∀k,OB o k->w0.heap.size<=k
variable{P:Program}{w0 w w':I}{e t tx ty:J3}{sz l c n:Nat}{o:Option Addr}{xs news:List Value}{x:Value}{i:TypeInfo}{z:Value}
theorem ZU.nil(M:Mod NoB w0 w)(e:J3)(sz:Nat):ZU w0 w e sz JD 0 0 []:=⟨Own.nil w e sz,M,fun k h=>(Z4j k h).elim⟩
theorem ZU.mod'(h:ZU w0 w e sz o l c xs)(M:Mod NoB w w'):ZU w0 w' e sz o l c xs:=⟨h.own.mod' M,h.mod.trans M (fun _ _ h=>h),h.new⟩
theorem ZU.push(h:ZU w0 w e sz o l c xs)(ht:P.underlying t=Y (.slice e))(hi:P.info? e=Y i)(hz:i.zero=Y z)(hs:i.size=sz)(hzs:z.cells.size=sz)
  (src:Src P sz tx x n news w) (h63:l+n<=Jf) (hb:(l+n)*i.bytes<=140737488355328) :
  ∃o' c' w',JM P (builtinV .append #[t,tx] ty #[.slice o l c,x]) w=Jp (.slice o' (l+n) c') w'/\ZU w0 w' e sz o' (l+n) c' (xs++news):=by
 obtain⟨o',c',w',h1,h2,h3,h4⟩:=Z3Y (ty:=ty) ht hi hz hs hzs h.own src h63 hb;refine⟨o',c',w',h1,h2,h.mod.trans h3 (fun k hk hob=>absurd (h.new k hob) (by omega)),fun k hk=>?_⟩;rcases h4 k hk with h5|h5
 ·exact h.new k h5
 ·exact Q4 h.mod.size h5
section
variable{C:Type}{lab:Nat->C}
theorem ZU.done(h:ZU w0 w e sz o l c xs)(cl:C):COw w (ext lab w0.heap.size cl) cl e sz o l c xs/\Stp (fun _=>False) w0 lab w (ext lab w0.heap.size cl) :=
 ⟨⟨h.own,fun k hk=>ext_new (h.new k hk)⟩,Stp.of_nob h.mod cl⟩
def ZBZ(w:I)(lab:Nat->C)(c:C)(o:Option Addr)(xs:List Value):Prop :=
 ∀(j:Nat)(v:Value),xs[j]?=Y v->∃b f,o=Y ⟨b,f,JD⟩/\b<w.heap.size/\lab b=c/\w.cell? ⟨b,f+j,JD⟩=Y v
variable{cl:C}{S:C->Prop}{lab':Nat->C}
theorem ZBZ.nil(w:I)(lab:Nat->C)(cl:C)(o:Option Addr):ZBZ w lab cl o []:=fun j v h=>by simp at h
theorem ZBZ.stp(h:ZBZ w lab cl o xs)(s:Stp S w lab w' lab')(hs:¬S cl):ZBZ w' lab' cl o xs:=fun j v hv=>by
 obtain⟨b,f,ho,hb,hl,hc⟩:=h j v hv;exact⟨b,f,ho,JO hb s.size,(s.lab b hb).trans hl,(World.cell?_of_block (s.block b hb (by rw[hl];exact hs))).trans hc⟩
theorem COw.row(h:COw w lab cl e sz o l c xs):ZBZ w lab cl o xs:=fun j v hv=>by
 obtain⟨g,rfl,hc⟩:=h.own.cell hv;exact⟨g,0,rfl,h.own.lt ⟨_,rfl,rfl⟩,h.clr _ ⟨_,rfl,rfl⟩,by rw[Q2];exact hc⟩
theorem ZBh(o:Option Addr)(k:Nat):Option.map (fun a=>Jc a (0*k)) o=o:=by
 cases o with
 |none=>rfl
 |some a=>simp[Jc]
theorem ZFg{o:Option Addr}{l c h:Nat}(ht:P.underlying t=Y (.slice e))(hi:P.info? e=Y i)(w:I)(hh:h<=c) :
  JM P (Instr.sliceAt t (.slice o l c) JD (Y (.int JW (h:Int))) (Y (.int JW (h:Int)))) w=Jp (.slice o h h) w:=by
 have e1:∀(y:Nat)(code:BoundsCode),h<=y->(Instr.sliceBound (.int JW (h:Int)) y code).run P w=Jp h w:=by
  intro y code hy;simp[Instr.sliceBound,asIntOf,hy]
 have e2:(Instr.sliceBounds true l c JD (Y (.int JW (h:Int))) (Y (.int JW (h:Int)))).run P w=Jp (0,h,h) w:=by
  unfold Instr.sliceBounds;simp only[JN,e1 c _ hh,J0,e1 h _ (J6 _),Q3]
 unfold Instr.sliceAt;simp only[JN,Zc ht,J0];unfold Instr.slice;simp only[JN,Zc ht,J0,e2,Z0s hi,Q3,ZBh,ite_self,QH]
end
end Go.Vcg
end
section
namespace Go.Vcg
def Z9b(bs:List UInt8):ByteArray:=⟨bs.toArray⟩
theorem Z0u{P:Program}{w:I}{src dst e:J3}(hs:P.underlying src=Y (.slice e))(he:P.underlying e=Y (.int Jb))(hd:P.underlying dst=Y .string){o:Option Addr}{c:Nat}{bs:List UInt8}(h:RdB w o bs) :
  (QP src dst (.slice o bs.length c)).run P w=Jp (.string (Z9b bs)) w:=by
 rw[run_convert_bytes_string w src dst e o bs.length c hs he hd];cases o with
 |none =>
  have:bs=[]:=by
   by_cases hne:bs=[]
   ·exact hne
   ·obtain⟨b,f,h,_⟩:=h hne;cases h
  subst this;rfl
 |some a =>
  have hl:(loadCells a bs.length).run P w=Jp ((bs.map fun b=>(b.toNat:Int)).map (Value.int Jb)).toArray w:=by
   have h1:(Builtin.firstCells 1 bs.length (.slice (Y a) bs.length c)).run P w=Jp (bs.map bV).toArray w:=by
    refine run_firstCells_some w 1 bs.length a _ c _ (by simp) (fun j v hv=>?_);rw[D,Jg]at hv;obtain⟨x,hx,rfl⟩:=hv;obtain⟨hj,rfl⟩:=List.getElem?_eq_some_iff.1 hx;obtain⟨b,f,ho,_,hc⟩:=h (by intro e;rw[e]at hj;simp at hj);cases ho;rw[Z3,hc j hj];simp[O,hj]
   simp only[Builtin.firstCells,Js]at h1;rw[h1,List.map_map];rfl
  rw[run_bytesToString w a _ c _ hl]
  have key:∀(l:List UInt8)(s:ByteArray),(l.map fun b=>(b.toNat:Int)).foldl (fun r n=>r.push (X n.toNat)) s=⟨s.data++l.toArray⟩:=by
   intro l
   induction l with
   |nil=>intro s;simp
   |cons b l ih =>
    intro s;rw[QD,List.foldl_cons,ih];have e1:X ((b.toNat:Int)).toNat=b:=by rw[J2,UInt8.ofNat_toNat]
    rw[e1];congr 1;show s.data.push b++l.toArray=_;rw[List.toArray_cons,<-Array.append_assoc];rfl
  rw[key];show Jp (Value.string ⟨#[]++bs.toArray⟩) w=_;rw[Array.empty_append];rfl
theorem ZIf(a b:ByteArray):Z8S .eql a b=decide (a.data.toList=b.data.toList):=by
 simp only[Z8S,ByteArray.toList_eq];by_cases h:a.data.toList=b.data.toList
 ·rw[decide_eq_true h,h];simp
 ·rw[decide_eq_false h];simpa using h
theorem Z2f(a b:List UInt8):Z8S .eql (Z9b a) (Z9b b)=decide (a=b):=by
 rw[ZIf];rfl
end Go.Vcg
end
section
namespace Go.Proofs.YtfghidehlnfdiaaGreat
open Go Go.Vcg Go.Trie
theorem ZD{P:Program}{f:FuncId}{args:Array Value}{w:I}{Q:Ending->I->Prop}(h:∀R:Ending->I->Prop,(∀e w',Q e w'->R e w')->Jk P f args w R):Jk P f args w Q :=
 h Q (fun _ _ h=>h)
theorem Z2Q{t:J3}{z:Value}{s b:Nat}(h:(Tryz.prog.info? t).map (fun i=>(i.zero,i.size,i.bytes))=Y (Y z,s,b)):∃i,Tryz.prog.info? t=Y i/\i.zero=Y z/\i.size=s/\i.bytes=b:=by
 obtain⟨i,hi,h1⟩:=Option.map_eq_some_iff.1 h;simp only[Prod.mk.injEq]at h1;exact⟨i,hi,h1⟩
theorem ZX{w0 w:I}{o:Option Addr}{n k:Nat}{b:List UInt8}{ty:J3}(F:ZU w0 w tU8 1 o n k (b.map bV)){o2:Option Addr}{c:List UInt8}{k2:Nat}(hr:RdB w o2 c)(hn:n+c.length<=2^40) :
  ∃o' c' w',JM J7 (builtinV .append #[Zw,Zw] ty #[.slice o n k,.slice o2 c.length k2]) w=Jp (.slice o' (n+c.length) c') w'/\ZU w0 w' tU8 1 o' (n+c.length) c' ((b++c).map bV):=by
 obtain⟨i,hi,hz,hs,hb⟩:=Z2Q Z7h;rw[Jm];exact F.push ZW hi hz hs rfl (Z7G ZW hr) (by simp only[Jf];omega) (by rw[hb];omega)
theorem Z1v{w0 w:I}(M:Vcg.Mod NoB w0 w){o2:Option Addr}{c:List UInt8}{k2:Nat}{ty:J3}(hr:RdB w o2 c)(hn:c.length<=2^40) :
  ∃o' c' w',JM J7 (builtinV .append #[Zw,Zw] ty #[.slice JD 0 0,.slice o2 c.length k2]) w=Jp (.slice o' c.length c') w'/\ZU w0 w' tU8 1 o' c.length c' (c.map bV):=by
 have:=ZX (k2:=k2) (ty:=ty) (b:=[]) (ZU.nil M tU8 1) hr (by omega);simpa using this
theorem ZK{w0 w:I}{o:Option Addr}{l k:Nat}{bs:List UInt8}(F:ZU w0 w tU8 1 o l k (bs.map bV)):RdB w o bs:=F.own.bytes
theorem Z0t{w:I}{o:Option Addr}{bs:List UInt8}(h:RdB w o bs){i:Nat}(hi:i<bs.length):∃b f,o=Y ⟨b,f,JD⟩/\b<w.heap.size/\w.cell? ⟨b,f+i,JD⟩=Y (bV bs[i]):=by
 obtain⟨b,f,ho,hb,hc⟩:=h (by intro e;rw[e]at hi;simp at hi);refine⟨b,f,ho,hb,?_⟩;rw[hc i hi];simp[O,hi]
theorem ZCp{w:I}(a b:UInt8){n m:Int}(hn:n=(a.toNat:Int))(hm:m=(b.toNat:Int)):RdB (w.alloc (JH #[.int Jb n,.int Jb m] 5)) (Y ⟨w.heap.size,0,JD⟩) [a,b]:=by
 subst hn hm
 exact RdB.of_blk (Blk.new w 5 #[bV a,bV b]) (fun i hi=>by
  rcases i with _|_|i
  ·rfl
  ·rfl
  ·exact absurd hi (by simp))
theorem ZKX(b:UInt8):QO (b.toNat:Int) 16=((b>>>4).toNat:Int):=by
 have:∀n:Fin 256,QO ((JJ n).toNat:Int) 16=((JJ n>>>4).toNat:Int):=by decide +kernel
 exact this b.toFin
theorem ZKd(b:UInt8):bitsI .and Jb (b.toNat:Int) 15=((b&&&15).toNat:Int):=by
 have:∀n:Fin 256,bitsI .and Jb ((JJ n).toNat:Int) 15=((JJ n&&&15).toNat:Int):=by decide +kernel
 exact this b.toFin
theorem ZQ(k:By):(nibbles k).length=2*k.length:=by
 induction k with
 |nil=>rfl
 |cons a r ih =>
  show([a>>>4,a&&&15]++nibbles r).length=_;rw[JB,ih];simp;omega
theorem Z43(k:By)(a:UInt8):nibbles (k++[a])=nibbles k++[a>>>4,a&&&15]:=by
 unfold nibbles;rw[List.flatMap_append];rfl
theorem Z26{w:I}{o:Option Addr}{k:Nat}{bs:List UInt8}(hr:RdB w o bs)(hl:bs.length<=2^30) :
  Jk J7 Z2g.n #[.slice o bs.length k] w (fun e w'=>∃o' k',e=J8 (.slice o' (nibbles bs).length k')/\ZU w w' tU8 1 o' (nibbles bs).length k' ((nibbles bs).map bV)):=by
 refine Z2g.vc _ _ _ _ _ ?_;unfold Z2g.Vc
 refine⟨fun o' l' k' i w'=>∃j:Nat,i=(j:Int)/\j<=bs.length/\l'=(nibbles (bs.take j)).length/\ZU w w' tU8 1 o' l' k' ((nibbles (bs.take j)).map bV),fun _ _ _ i _=>((bs.length:Int)-i).toNat,
  ⟨0,rfl,JI _,rfl,ZU.nil (Mod.refl w) _ _⟩,?_⟩
 rintro o' _ k' _ _ w1⟨j,rfl,hj,rfl,F⟩;refine⟨fun hlt=>?_,fun hge=>?_⟩
 ·have hjl:j<bs.length:=by omega
  obtain⟨b,f,rfl,hb,hc⟩:=Z0t hr hjl;have htk:bs.take (j+1)=bs.take j++[bs[j]]:=by rw[JC,Z hjl];rfl
  refine⟨_,rfl,by omega,_,by rw[Z3,J2];exact(ZN F.mod hb (fun h=>h)).trans hc,?_⟩;rintro d w2⟨rfl,rfl⟩;have hnl:=ZQ (bs.take j);rw[JK]at hnl;obtain⟨o3,k3,w3,hr3,F3⟩:=ZX (ty:=Zw) (k2:=2) (F.mod' (Mod.alloc _ _)) (ZCp (w:=w1) (bs[j]>>>4) (bs[j]&&&15) (ZKX _) (ZKd _)) (by simp;omega);refine⟨_,w3,hr3,_,_,_,rfl,⟨j+1,by rw[Z0 (by omega) (by omega)];omega,hjl,?_,?_⟩,?_⟩
  ·rw[htk,Z43,JB]
  ·rw[htk,Z43];exact F3
  ·dsimp only
   rw[Z0 (by omega) (by omega)];omega
 ·obtain rfl:j=bs.length:=by omega
  rw[JS]at F ⊢;exact⟨_,_,rfl,F⟩
theorem Z1s{w:I}{o:Option Addr}{k:Nat}{bs:List UInt8}(hr:RdB w o bs)(hl:bs.length<=2^40) :
  Jk J7 Z2r.n #[.slice o bs.length k] w (fun e w'=>∃o' k',e=J8 (.slice o' bs.length k')/\ZU w w' tU8 1 o' bs.length k' (bs.map bV)):=by
 refine Z2r.vc _ _ _ _ _ ?_;unfold Z2r.Vc;refine⟨fun h=>?_,fun h=>?_⟩
 ·subst h
  have:bs=[]:=by
   by_cases hne:bs=[]
   ·exact hne
   ·obtain⟨b,f,ho,_⟩:=hr hne;cases ho
  subst this;exact⟨JD,0,rfl,ZU.nil (Mod.refl w) _ _⟩
 ·rintro d w2⟨rfl,rfl⟩
  have M2:=Mod.alloc (S:=NoB) w (JH #[] 5)
  have F:ZU w (w.alloc (JH #[] 5)) tU8 1 (Y ⟨w.heap.size,0,JD⟩) 0 0 (([]:List UInt8).map bV) :=
   ⟨⟨rfl,.inr ⟨_,#[],rfl,Blk.new w 5 #[],J6 _,by simp[Jf],rfl,rfl⟩⟩,M2,fun k hk=>by obtain⟨d,hd,rfl⟩:=hk;cases hd;exact J6 _⟩
  obtain⟨o3,k3,w3,hr3,F3⟩:=ZX (ty:=Zw) (k2:=k) F (hr.mod' M2) (by omega);rw[Q2]at hr3 F3;rw[Q9]at F3;exact⟨_,w3,hr3,_,_,_,rfl,_,_,rfl,F3⟩
end Go.Proofs.YtfghidehlnfdiaaGreat
end
section
namespace Go.Trie
theorem Z7m:∀(n:Nat) (x:By) (a b:UInt8),x.length=2*n->Z4v (x++[a,b])=Z4v x++[a<<<4|||b]
 |0,[],a,b,_=>rfl
 |0,_::_,a,b,h=>by simp at h
 |n+1,[],a,b,h=>by simp at h
 |n+1,[_],a,b,h=>by simp at h;omega
 |n+1,c::d::r,a,b,h=>by
  have:=Z7m n r a b (by simp at h;omega);show Z4v (c::d::(r++[a,b]))=Z4v (c::d::r)++_;simp only[Z4v,this,Je]
theorem Z71:∀(n:Nat) (x:By),x.length=2*n->(Z4v x).length=n
 |0,[],_=>rfl
 |0,_::_,h=>by simp at h
 |n+1,[],h=>by simp at h
 |n+1,[_],h=>by simp at h;omega
 |n+1,c::d::r,h=>by
  simp only[Z4v,J5,Z71 n r (by simp at h;omega)]
def Z2Y(p:By)(leaf:Bool):By:=if p.length%2=1 then[Z2F leaf+1]else[Z2F leaf,0]
theorem Z6s(p:By)(leaf:Bool):headed p leaf=Z2Y p leaf++p:=by
 unfold headed Z2Y;split<;>rfl
theorem Z6Q(p:By)(leaf:Bool):∃n,(headed p leaf).length=2*n:=by
 unfold headed;split
 ·rename_i h;exact⟨(p.length+1)/2,by rw[J5];omega⟩
 ·rename_i h;exact⟨(p.length+2)/2,by rw[J5,J5];omega⟩
theorem Z5d:∀(n:Nat) (p q:By),p.take n=q.take n->n<=p.length->n<=q.length->n<=shared p q
 |0,p,q,_,_,_=>JI _
 |n+1,a::p,b::q,h,h1,h2=>by
  simp only[List.take_succ_cons,Jn]at h;have:=Z5d n p q h.2 (by simp at h1;omega) (by simp at h2;omega);simp only[shared,if_pos h.1];omega
 |n+1,[],q,_,h,_=>by simp at h
 |n+1,_::_,[],_,_,h=>by simp at h
theorem ZCi{n:Nat}{p q:By}(h:p.take n=q.take n)(h1:n<=p.length)(h2:n<=q.length)(h3:n=p.length\/n=q.length\/∃(x:n<p.length) (y:n<q.length),p[n]≠q[n]):shared p q=n:=by
 have ge:=Z5d n p q h h1 h2;obtain⟨l1,l2⟩:=Z3x p q;rcases h3 with rfl|rfl|⟨x,y,hne⟩
 ·omega
 ·omega
 ·by_cases hlt:n<shared p q
  ·have ht:=Z3y p q
   have e1:(p.take (shared p q))[n]?=(q.take (shared p q))[n]?:=by rw[ht]
   rw[Jz,Jz,if_pos hlt,if_pos hlt,Z x,Z y]at e1;exact(hne (Option.some.inj e1)).elim
  ·omega
end Go.Trie
end
section
namespace Go.Proofs.YtfghidehlnfdiaaGreat
open Go Go.Vcg Go.Trie
theorem ZDZ{w:I}{o:Option Addr}{k:Nat}{bs:List UInt8}(hr:RdB w o bs)(hl:bs.length<=2^30) :
  Jk J7 Z3j.n #[.slice o bs.length k] w (fun e w'=>w'=w/\∃n,e=J8 (.int Jb n)/\(n>=16↔∃x∈bs,x>=16)):=by
 refine Z3j.vc _ _ _ _ _ ?_;unfold Z3j.Vc;refine⟨fun n i w'=>∃j:Nat,i=(j:Int)/\j<=bs.length/\w'=w/\(n>=16↔∃x∈bs.take j,x>=16),fun _ i _=>((bs.length:Int)-i).toNat,⟨0,rfl,JI _,rfl,by simp⟩,?_⟩;rintro n _ _ _⟨j,rfl,hj,rfl,hn⟩;refine⟨fun hlt=>?_,fun hge=>?_⟩
 ·have hjl:j<bs.length:=by omega
  obtain⟨b,f,rfl,hb,hc⟩:=Z0t hr hjl;have htk:bs.take (j+1)=bs.take j++[bs[j]]:=by rw[JC,Z hjl];rfl
  refine⟨_,rfl,by omega,_,by rw[Z3,J2];exact hc,⟨j+1,by rw[Z0 (by omega) (by omega)];omega,hjl,rfl,?_⟩,?_⟩
  ·rw[htk]
   simp only[List.mem_append,List.mem_singleton]
   have hx:((bs[j].toNat:Int)>=16)↔bs[j]>=16:=by
    have:bs[j]>=16↔(16:UInt8).toNat<=bs[j].toNat:=UInt8.le_iff_toNat_le;rw[this];show _↔16<=bs[j].toNat;omega
   constructor
   ·intro h
    by_cases h1:n>=16
    ·obtain⟨x,hx1,hx2⟩:=hn.1 h1
     exact⟨x,.inl hx1,hx2⟩
    ·exact⟨_,.inr rfl,hx.1 (by omega)⟩
   ·rintro⟨x,hx1|rfl,hx2⟩
    ·have:=hn.2 ⟨x,hx1,hx2⟩;omega
    ·have:=hx.2 hx2;omega
  ·dsimp only
   rw[Z0 (by omega) (by omega)];omega
 ·obtain rfl:j=bs.length:=by omega
  rw[JS]at hn;exact⟨rfl,n,rfl,hn⟩
theorem shl4(a:UInt8):J Jb ((a.toNat:Int)*16)=((a<<<4).toNat:Int):=by
 have:∀n:Fin 256,J Jb (((JJ n).toNat:Int)*16)=((JJ n<<<4).toNat:Int):=by decide +kernel
 exact this a.toFin
theorem Z5K(w:I)(cs:List UInt8)(A:Array Value)(hA:A.toList=cs.map bV)(hl:cs.length<=Jf):ZU w (w.alloc (JH A 5)) tU8 1 (Y ⟨w.heap.size,0,JD⟩) cs.length cs.length (cs.map bV):=by
 have hs:A.size=cs.length:=by rw[<-Array.length_toList,hA,Jj]
 refine⟨⟨by simp,.inr ⟨_,A,rfl,Blk.new w 5 A,J6 _,hl,by omega,?_⟩⟩,Mod.alloc _ _,fun k hk=>by obtain⟨d,hd,rfl⟩:=hk;cases hd;exact J6 _⟩;rw[hA,Ji (by rw[Jj];omega)]
theorem ZU.from_{w w0 w1:I}{e:J3}{sz:Nat}{o:Option Addr}{l c:Nat}{xs:List Value}(h:ZU w0 w1 e sz o l c xs)(M:Vcg.Mod NoB w w0):ZU w w1 e sz o l c xs :=
 ⟨h.own,M.trans h.mod (fun _ _ h=>h),fun k hk=>Q4 M.size (h.new k hk)⟩
theorem Z5l{w:I}{o:Option Addr}{k:Nat}{bs:List UInt8}(hr:RdB w o bs)(hl:bs.length<=2^30)(leaf:Bool) :
  Jk J7 Z4d.n #[.slice o bs.length k,.bool leaf] w (fun e w'=>∃o' k',e=J8 (.tuple #[.slice o' (Z8a bs leaf).1.length k',.int JW (Z8a bs leaf).2])/\ZU w w' tU8 1 o' (Z8a bs leaf).1.length k' ((Z8a bs leaf).1.map bV)):=by
 refine ZD fun R hR=>Z4d.vc _ _ _ _ _ _ ?_;unfold Z4d.Vc
 have bad:Z3v bs->R (J8 (.tuple #[.slice JD 0 0,.int JW 140])) w:=fun h=>by
  refine hR _ _ ⟨JD,0,?_,?_⟩
  ·unfold Z8a;rw[if_pos h];rfl
  ·unfold Z8a;rw[if_pos h];exact ZU.nil (Mod.refl w) _ _
 refine⟨fun h=>bad (.inl (by omega)),fun h128=>?_⟩;refine(ZDZ hr hl).mono ?_;rintro _ w1⟨rfl,n,rfl,hn⟩;refine⟨_,rfl,fun h=>bad (.inr (hn.1 h)),fun h16=>?_⟩
 have hgood:¬Z3v bs:=by
  rintro(h|h)
  ·omega
  ·exact h16 (hn.2 h)
 have hpk:Z8a bs leaf=(Z4v (headed bs leaf),0):=by unfold Z8a;rw[if_neg hgood]
 rw[hpk]at hR;refine⟨fun m w'=>m=((Z2F leaf).toNat:Int)/\w'=w1,⟨fun h=>⟨by rw[h];rfl,rfl⟩,fun h=>⟨by rw[h];rfl,rfl⟩⟩,?_⟩;rintro _ _ w7⟨rfl,rfl⟩;rintro d8 w9⟨rfl,rfl⟩;have hho:(Z2Y bs leaf).length<=2:=by unfold Z2Y;split<;>simp
 refine⟨fun o' l' k' w'=>∃k0,k'=k0/\l'=(Z2Y bs leaf).length/\ZU w7 w' tU8 1 o' l' k' ((Z2Y bs leaf).map bV),⟨fun hodd=>?_,fun hev=>?_⟩,?_⟩
 ·rintro d11 w12⟨rfl,rfl⟩
  have ho:bs.length%2=1:=by
   have:QA ((bs.length:Nat):Int) 2=((bs.length%2:Nat):Int):=rfl;omega
  have e:Z2Y bs leaf=[Z2F leaf+1]:=by unfold Z2Y;rw[if_pos ho]
  rw[e];have hw:J Jb (((Z2F leaf).toNat:Int)+1)=((Z2F leaf+1).toNat:Int):=by cases leaf<;>decide
  rw[hw];exact⟨_,rfl,rfl,ZU.from_ (Z5K _ [Z2F leaf+1] _ rfl (by simp[Jf])) (Mod.alloc _ _)⟩
 ·have ho:¬bs.length%2=1:=by
    have:QA ((bs.length:Nat):Int) 2=((bs.length%2:Nat):Int):=rfl;omega
  have e:Z2Y bs leaf=[Z2F leaf,0]:=by unfold Z2Y;rw[if_neg ho]
  rw[e];exact⟨_,rfl,rfl,Z5K _ [Z2F leaf,0] _ rfl (by simp[Jf])⟩
 ·rintro o13 _ _ _ w14⟨c13,rfl,rfl,F14⟩
  obtain⟨o16,k16,w16,hr16,F16⟩:=ZX (ty:=Zw) (k2:=k) F14 (hr.mod' F14.mod) (by omega);rw[<-Z6s]at F16;have hlh:(Z2Y bs leaf).length+bs.length=(headed bs leaf).length:=by rw[Z6s,JB]
  rw[hlh]at hr16 F16;refine⟨_,w16,hr16,_,_,_,rfl,?_⟩;obtain⟨N,hN⟩:=Z6Q bs leaf;have hrh:=ZK F16;generalize headed bs leaf=H at *
  refine⟨fun o' l' k' i w'=>∃j:Nat,i=((2*j:Nat):Int)/\j<=N/\l'=(Z4v (H.take (2*j))).length/\ZU w16 w' tU8 1 o' l' k' ((Z4v (H.take (2*j))).map bV),fun _ _ _ i _=>((H.length:Int)-i).toNat,
   ⟨0,rfl,JI _,rfl,ZU.nil (Mod.refl w16) _ _⟩,?_⟩
  rintro o' _ k' _ _ w23⟨j,rfl,hj,rfl,F⟩;refine⟨fun hlt=>?_,fun hge=>?_⟩
  ·rintro _ rfl
   have h1:2*j<H.length:=by omega
   have h2:2*j+1<H.length:=by omega
   have F24:=F.mod' (Mod.drew (S:=NoB) w23);obtain⟨b,f,rfl,hb,hc1⟩:=Z0t hrh h1;obtain⟨b',f',hb',_,hc2⟩:=Z0t hrh h2;cases hb';have e1:J JW (((2*j:Nat):Int)+1)=((2*j+1:Nat):Int):=by rw[Z0 (by omega) (by omega)];omega
   have e2:J JW (((2*j:Nat):Int)+2)=((2*(j+1):Nat):Int):=by rw[Z0 (by omega) (by omega)];omega
   rw[e1,e2];refine⟨_,rfl,by omega,_,by rw[Z3,J2];exact(ZN F24.mod hb (fun h=>h)).trans hc1,_,rfl,by omega,_,by rw[Z3,J2];exact(ZN F24.mod hb (fun h=>h)).trans hc2,?_⟩;rw[shl4,Z6H];rintro d29 w30⟨rfl,rfl⟩
   have htk:H.take (2*(j+1))=H.take (2*j)++[H[2*j],H[2*j+1]]:=by
    rw[show 2*(j+1)=2*j+1+1 by omega,JC,JC,Z h1,Z h2,J1];rfl
   have htl:(H.take (2*j)).length=2*j:=by rw[JK];omega
   have hps:=Z7m j (H.take (2*j)) H[2*j] H[2*j+1] htl;have hpl:=Z71 j (H.take (2*j)) htl
   have one:RdB (w23.drew.alloc (JH #[.int Jb ((H[2*j]<<<4|||H[2*j+1]).toNat:Int)] 5)) (Y ⟨w23.drew.heap.size,0,JD⟩) [H[2*j]<<<4|||H[2*j+1]] :=
    RdB.of_blk (Blk.new w23.drew 5 #[bV (H[2*j]<<<4|||H[2*j+1])]) (fun i hi=>by
     obtain rfl:i=0:=by simpa using hi
     rfl)
   obtain⟨o31,k31,w31,hr31,F31⟩:=ZX (ty:=Zw) (k2:=1) (F24.mod' (Mod.alloc _ _)) one (by simp;omega);refine⟨_,w31,hr31,_,_,_,rfl,⟨j+1,rfl,by omega,?_,?_⟩,by dsimp only;omega⟩
   ·rw[htk,hps,JB]
   ·rw[htk,hps];exact F31
  ·obtain rfl:j=N:=by omega
   rw[Ji (by omega)]at F ⊢;exact hR _ _ ⟨_,_,rfl,ZU.from_ F F16.mod⟩
end Go.Proofs.YtfghidehlnfdiaaGreat
end
section
namespace Go.Trie
def digitsF:Nat->Nat->By
 |0,_=>[]
 |f+1,n=>if n=0 then[]else digitsF f (n/256)++[X n]
def Z3I(n:Nat):By:=digitsF 8 n
def Z3P(n base:Nat):By:=if n<=55 then[X (base+n)]else X (base+55+(Z3I n).length)::Z3I n
def own:By->Bool
 |[a]=>decide (a<128)
 |_=>QE
mutual
def enc:It->By
 | .s b=>if own b then b else Z3P b.length 128++b
 | .l xs=>Z3P (Z1r xs).length 192++Z1r xs
def Z1r:List It->By
 |[]=>[]
 |x::r=>enc x++Z1r r
end
theorem ZAA:∀(f n:Nat),(digitsF f n).length<=f
 |0,_=>by simp[digitsF]
 |f+1,n=>by
  have:=ZAA f (n/256);simp only[digitsF];split
  ·simp
  ·rw[JB];simp;omega
theorem Z4N(n:Nat):(Z3I n).length<=8:=ZAA 8 n
end Go.Trie
namespace Go.Proofs.YtfghidehlnfdiaaGreat
open Go Go.Vcg Go.Trie
theorem Z24:Tryz.prog.underlying 5=Y (.int Jb):=by kernel_rfl
theorem Z2V:Tryz.prog.underlying 9=Y .string:=by kernel_rfl
theorem Z2q{w:I}{o1 o2:Option Addr}{k1 k2:Nat}{a b:List UInt8}(h1:RdB w o1 a)(h2:RdB w o2 b) :
  Jk J7 Z2s.n #[.slice o1 a.length k1,.slice o2 b.length k2] w (fun e w'=>e=J8 (.bool (decide (a=b)))/\w'=w):=by
 refine Z2s.vc _ _ _ _ _ _ _ _ ?_;unfold Z2s.Vc;refine⟨_,Z0u ZW Z24 Z2V h1,_,rfl,_,Z0u ZW Z24 Z2V h2,_,rfl,?_,rfl⟩;rw[Z2f]
theorem Z2j{w:I}{o1 o2:Option Addr}{k1 k2:Nat}{a b:List UInt8}(h1:RdB w o1 a)(hk:a.length<=k1)(h2:RdB w o2 b) :
  Jk J7 Z1L.n #[.slice o1 a.length k1,.slice o2 b.length k2] w (fun e w'=>e=J8 (.bool (b.isPrefixOf a))/\w'=w):=by
 refine Z1L.vc _ _ _ _ _ _ _ _ ?_;unfold Z1L.Vc;refine⟨fun hge=>⟨by omega,?_⟩,fun hlt=>⟨?_,rfl⟩⟩
 ·rw[J2]
  have hl:(a.take b.length).length=b.length:=by rw[JK];omega
  have hc:=Z2q (k1:=k1) (k2:=k2) (h1.take b.length) h2;rw[hl]at hc;refine hc.mono ?_;rintro _ w'⟨rfl,rfl⟩;refine⟨_,rfl,?_,rfl⟩;congr 2;rw[Jl,decide_eq_true_eq,List.isPrefixOf_iff_prefix,List.prefix_iff_eq_take];exact⟨fun h=>h.symm,fun h=>h.symm⟩
 ·congr 2
  symm
  rw[Bool.eq_false_iff];intro h;have:=(List.isPrefixOf_iff_prefix.1 h).length_le;omega
theorem Z8K{w:I}{o1 o2:Option Addr}{k1 k2:Nat}{a b:List UInt8}(h1:RdB w o1 a)(h2:RdB w o2 b)(hl:a.length<=2^30) :
  Jk J7 Z35.n #[.slice o1 a.length k1,.slice o2 b.length k2] w (fun e w'=>e=J8 (.int JW (shared a b:Int))/\Vcg.Mod NoB w w'):=by
 refine Z35.vc _ _ _ _ _ _ _ _ ?_;unfold Z35.Vc;refine⟨fun i w'=>∃j:Nat,i=(j:Int)/\j<=a.length/\j<=b.length/\a.take j=b.take j/\Vcg.Mod NoB w w',fun i _=>((a.length:Int)-i).toNat,⟨0,rfl,JI _,JI _,rfl,Mod.refl w⟩,?_⟩;rintro _ _ w1⟨j,rfl,hja,hjb,ht,M⟩;rintro _ rfl;have M2:=M.step_drew
 have fin:(j=a.length\/j=b.length\/∃(x:j<a.length)(y:j<b.length),a[j]≠b[j])->(J8 (Value.int JW (j:Int))=J8 (.int JW (shared a b:Int))/\Vcg.Mod NoB w w1.drew):=fun h =>
  ⟨by rw[ZCi ht hja hjb h],M2⟩
 refine⟨fun hla=>⟨fun hlb=>?_,fun hlb=>fin (.inr (.inl (by omega)))⟩,fun hla=>fin (.inl (by omega))⟩;have ha:j<a.length:=by omega
 have hb:j<b.length:=by omega
 obtain⟨ba,fa,rfl,hba,hca⟩:=Z0t h1 ha;obtain⟨bb,fb,rfl,hbb,hcb⟩:=Z0t h2 hb;refine⟨_,rfl,by omega,_,by rw[Z3,J2];exact(ZN M2 hba (fun h=>h)).trans hca,_,rfl,by omega,_,by rw[Z3,J2];exact(ZN M2 hbb (fun h=>h)).trans hcb,fun he=>?_,fun he=>fin (.inr (.inr ⟨ha,hb,fun e=>he (by rw[e])⟩))⟩;have hab:a[j]=b[j]:=UInt8.toNat_inj.1 (by exact_mod_cast he);refine⟨⟨j+1,by rw[Z0 (by omega) (by omega)];omega,ha,hb,?_,M2⟩,?_⟩
 ·rw[JC,JC,ht,Z ha,Z hb,hab]
 ·dsimp only
  rw[Z0 (by omega) (by omega)];omega
theorem Z6z{w:I}{o:Option Addr}{k:Nat}{b:List UInt8}(h:RdB w o b) :
  Jk J7 Z7p.n #[.slice o b.length k] w (fun e w'=>e=J8 (.bool (own b))/\w'=w):=by
 refine Z7p.vc _ _ _ _ _ ?_;unfold Z7p.Vc;refine⟨fun h1=>?_,fun h1=>⟨?_,rfl⟩⟩
 ·obtain⟨a,rfl⟩:∃a,b=[a]:=List.length_eq_one_iff.1 (by omega)
  obtain⟨B,f,rfl,hB,hc⟩:=Z0t h (i:=0) (by simp)
  have h2:a<128↔a.toNat<128:=by
   have:∀n:Fin 256,(JJ n<128↔(JJ n).toNat<128):=by decide +kernel
   exact this a.toFin
  have h3:decide ((a.toNat:Int)<128)=own [a]:=by
   show _=decide (a<128);rw[Jl,decide_eq_true_eq,decide_eq_true_eq,h2];omega
  rw[<-h3];exact⟨_,rfl,by omega,_,by rw[Z3];exact hc,rfl,rfl⟩
 ·have:own b=QE:=by
    unfold own;split
    ·simp at h1
    ·rfl
  rw[this]
theorem Z4u(w:I)(a:UInt8){n:Int}(hn:n=(a.toNat:Int)):ZU w (w.alloc (JH #[.int Jb n] 5)) tU8 1 (Y ⟨w.heap.size,0,JD⟩) 1 1 ([a].map bV):=by
 subst hn;exact Z5K w [a] #[bV a] rfl (by simp[Jf])
theorem Z36(n:Nat):J Jb (n:Int)=((X n).toNat:Int):=by
 rw[J9];show(n:Int)%256=_;omega
theorem ZBx{w:I}(N:Nat)(hN:N<2^63) :
  Jk J7 Z3h.n #[.int Q1 (N:Int)] w (fun e w'=>∃o k,e=J8 (.slice o (Z3I N).length k)/\ZU w w' tU8 1 o (Z3I N).length k ((Z3I N).map bV)):=by
 refine Z3h.vc _ _ _ ?_;unfold Z3h.Vc
 refine⟨fun n o l k w'=>∃(f m:Nat)(row:By),n=(m:Int)/\m<256^f/\f<=8/\Z3I N=digitsF f m++row/\l=row.length/\ZU w w' tU8 1 o l k (row.map bV),fun n _ _ _ _=>n.toNat,
  ⟨8,N,[],rfl,by omega,J6 _,by rw[JV];rfl,rfl,ZU.nil (Mod.refl w) _ _⟩,?_⟩
 rintro _ o _ k _ w1⟨f,m,row,rfl,hm,hf,hd,rfl,F⟩;have hlen:=Z4N N;rw[hd,JB]at hlen;refine⟨fun hpos=>?_,fun hz=>?_⟩
 ·rintro d w2⟨rfl,rfl⟩
  cases f with
  |zero=>simp at hm;omega
  |succ g =>
   have hM:=Mod.alloc (S:=NoB) w1 (JH #[.int Jb (J Jb (m:Int))] 5);have F1:=Z4u w1 (X m) (n:=J Jb (m:Int)) (Z36 m);obtain⟨o3,k3,w3,hr3,F3⟩:=ZX (ty:=Zw) (k2:=k) F1 ((ZK F).mod' hM) (by omega)
   have hstep:digitsF (g+1) m=digitsF g (m/256)++[X m]:=by
    simp only[digitsF];rw[if_neg (by omega)]
   have hfd:QO (m:Int) 256=((m/256:Nat):Int):=by
    rw[Int.fdiv_eq_ediv_of_nonneg _ (by omega)];omega
   rw[hfd];refine⟨_,w3,hr3,_,_,_,rfl,⟨g,m/256,X m::row,rfl,?_,by omega,?_,?_,?_⟩,?_⟩
   ·rw[Nat.pow_succ]at hm
    exact Nat.div_lt_of_lt_mul (by rw[Nat.mul_comm];exact hm)
   ·rw[hd,hstep,J1];rfl
   ·simp;omega
   ·exact ZU.from_ F3 F.mod
   ·dsimp only;omega
 ·have hm0:m=0:=by omega
  subst hm0;have h0:digitsF f 0=[]:=by cases f<;>simp[digitsF]
  rw[h0,Q9]at hd;rw[hd];exact⟨_,_,rfl,F⟩
theorem Z5n{w:I}(n base:Nat)(hn:n<2^31)(hb:base<=192) :
  Jk J7 Z5r.n #[.int JW (n:Int),.int JW (base:Int)] w (fun e w'=>∃o k,e=J8 (.slice o (Trie.Z3P n base).length k)/\ZU w w' tU8 1 o (Trie.Z3P n base).length k ((Trie.Z3P n base).map bV)):=by
 refine Z5r.vc _ _ _ _ ?_;unfold Z5r.Vc;refine⟨fun hs=>?_,fun hs=>?_⟩
 ·rintro d w2⟨rfl,rfl⟩
  have e:Trie.Z3P n base=[X (base+n)]:=by unfold Trie.Z3P;rw[if_pos (by omega)]
  have ew:J JW ((base:Int)+(n:Int))=((base+n:Nat):Int):=by rw[Z0 (by omega) (by omega)];omega
  rw[e,ew];exact⟨_,_,rfl,Z4u w _ (Z36 _)⟩
 ·have e:Trie.Z3P n base=X (base+55+(Z3I n).length)::Z3I n:=by unfold Trie.Z3P;rw[if_neg (by omega)]
  have ew:J Q1 (n:Int)=(n:Int):=by
   show(n:Int)%18446744073709551616=_;omega
  rw[ew];refine(ZBx n (by omega)).mono ?_;rintro _ w2⟨o,k,rfl,F⟩;have hdl:=Z4N n;refine⟨_,_,_,rfl,?_⟩;rintro d w3⟨rfl,rfl⟩
  have ew2:J JW (J JW ((base:Int)+55)+(((Z3I n).length:Nat):Int))=((base+55+(Z3I n).length:Nat):Int):=by
   rw[Z0 (n:=(base:Int)+55) (by omega) (by omega),Z0 (by omega) (by omega)];omega
  rw[ew2];obtain⟨o4,k4,w4,hr4,F4⟩:=ZX (ty:=Zw) (k2:=k) (Z4u w2 _ (Z36 (base+55+(Z3I n).length))) ((ZK F).mod' (Mod.alloc _ _)) (by omega);refine⟨_,w4,hr4,_,_,_,rfl,o4,k4,?_,?_⟩
  ·rw[e,J5,QK]
  ·rw[e,J5,QK]
   exact ZU.from_ F4 F.mod
end Go.Proofs.YtfghidehlnfdiaaGreat
end
