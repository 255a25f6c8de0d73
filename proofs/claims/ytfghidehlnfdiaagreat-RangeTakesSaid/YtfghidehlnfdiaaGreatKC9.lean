/- Keccak in plain Lean: lanes as functions, the round, the permutation. -/
/- Contracts of Keccak's small functions and of one round. -/
/- Contracts: the tables, the plan, all rounds. -/
/- Contracts: the plan, all rounds, the program's permutation. -/
/- Contract: the document's permutation. -/
/- Slices of bytes that are read. -/
/- Slices that the code itself made: appended to, copied into. -/
/- Contracts: words out of bytes, one block absorbed. -/
/- The numbers of the types that the texts below name. -/
/- Contracts: the sponge. -/
/- Contract: Write. -/
/- Contracts: Little; the hash out of a sponge. -/
/- Contracts: the program's hash of lists. -/
import Derived.Test.YtfghidehlnfdiaaGreatXMem
set_option linter.unusedVariables false
set_option linter.unusedSimpArgs false
open Array renaming getElem?_toList->J8,replicate->G,size_replicate->O
open BitVec renaming eq_of_toNat_eq->JI,ofInt->Q0,rotateLeft_def->JJ,toNat_setWidth->Jd,xor_assoc->Jr
open Go renaming Calls->JN,Ending->Q1,TypeId->A,World->K,maxLen->Jw,run_firstCells_none->Jg,run_firstCells_some->JO,typeInfo->Q3
open Go.Builtin renaming copy_->Jy,firstCells->JG,lenOf->Jz
open Go.Ending renaming returned->F
open Go.IntKind renaming bits->JH,i64->I,signed->Ju,u64->V,u8->Jn,wrap->J
open Go.Obj renaming cells->Z
open Go.Proofs.Tryz renaming prog->W
open Go.Sem renaming run->Jf
open Go.Value renaming agg->JZ,int->Y,pointer->JR
open Go.World renaming cell?_of_block->JK,frozen?->Jx
open Int renaming fdiv_eq_ediv_of_nonneg->JP,natCast_ediv->Jq,natCast_nonneg->Jk,tmod->JE,toNat->JX,toNat_natCast->U
open List renaming append_assoc->Jm,drop_append_of_le_length->JL,drop_drop->Jv,eq_nil_of_length_eq_zero->J1,ext_getElem?->JT,getD_eq_getElem?_getD->X,getElem?_append_left->JC,getElem?_append_right->JA,getElem?_drop->Jj,getElem?_eq_getElem->JW,getElem?_eq_none->J9,getElem?_map->D,getElem?_range->JD,getElem?_take->J5,getElem?_take_of_lt->JV,length_append->J4,length_drop->H,length_map->JM,length_take->JB,map_append->Jt,nil_append->Jc,range->J3,take->Jo,take_of_length_le->J6
open Nat renaming add_assoc->Ji,add_mul->Je,add_sub_cancel_left->Ja,div_eq_of_lt->JY,le_refl->JU,lt_irrefl->Jh,lt_of_lt_of_le->JQ,min->Q4,min_eq_left->JF,min_eq_right->Jp,mod_eq_of_lt->E,mod_lt->Jl,mul_one->Js,not_lt_zero->J7,shiftRight_eq_div_pow->JS,sub_zero->Q2,zero_add->J0
open Option renaming map_eq_some_iff->Jb,none->C,some->J2
section
namespace Go.Vcg
def ZR(n:Nat)(f:Nat->Value):Array Value:=Array.ofFn (n:=n) fun i=>f i
@[simp] theorem Z03(n:Nat)(f):(ZR n f).size=n:=by simp[ZR]
theorem ZCC(n:Nat)(f)(i:Nat):(ZR n f)[i]?=if i<n then J2 (f i)else C:=by
 simp[ZR,Array.getElem?_ofFn]
theorem ZF{n:Nat}{f}{i:Nat}(h:i<n):(ZR n f)[i]?=J2 (f i):=by rw[ZCC,if_pos h]
theorem ZH{n:Nat}{f g:Nat->Value}(h:∀i,i<n->f i=g i):ZR n f=ZR n g:=by
 apply Array.ext<;>simp[ZR];exact fun i hi=>h i hi
theorem ZAx{n:Nat}{f:Nat->Value}{cs:Array Value}(hs:cs.size=n)(h:∀i,i<n->cs[i]?=J2 (f i)):cs=ZR n f:=by
 apply Array.ext
 ·simpa using hs
 ·intro i h1 h2
  have:=h i (by omega);rw[Array.getElem?_eq_getElem h1]at this;simpa[ZR]using this
theorem Z0W(n:Nat)(f:Nat->Value)(i:Nat)(v:Value):(ZR n f).setIfInBounds i v=ZR n (fun j=>if j=i then v else f j):=by
 apply Array.ext
 ·simp
 ·intro j h1 h2
  simp only[ZR,Array.getElem_ofFn];rw[Array.getElem_setIfInBounds (by simpa using h1)];split<;>simp_all[eq_comm]
theorem Zm(n:Nat)(v:Value):G n v=ZR n (fun _=>v):=by
 apply Array.ext<;>simp[ZR]
theorem ZCl(n o m:Nat)(f g:Nat->Value)(h:o+m<=n) :
  ((ZR n f).toList.take o++(ZR m g).toList++(ZR n f).toList.drop (o+m)).toArray=ZR n (fun i=>if i<o then f i else if i<o+m then g (i-o)else f i):=by
 have ef:∀n f,(ZR n f).toList=(J3 n).map f:=by
  intro n f;apply JT;intro i;rw[J8,ZCC,D];by_cases hi:i<n
  ·rw[if_pos hi,JD hi];rfl
  ·rw[if_neg hi,J9 (by simp;omega)];rfl
 refine ZAx ?_ (fun i hi=>?_)
 ·simp[ef];omega
 ·rw[List.getElem?_toArray,ef,ef]
  have l1:(Jo o ((J3 n).map f)).length=o:=by simp;omega
  have l2:(Jo o ((J3 n).map f)++(J3 m).map g).length=o+m:=by rw[J4,l1];simp
  by_cases h1:i<o
  ·rw[if_pos h1,Jm,JC (by omega),J5,if_pos h1,D,JD hi];rfl
  ·rw[if_neg h1]
   by_cases h2:i<o+m
   ·rw[if_pos h2,JC (by omega),JA (by omega),l1,D,JD (by omega)];rfl
   ·rw[if_neg h2,JA (by omega),l2,Jj,D,show o+m+(i-(o+m))=i by omega,JD hi];rfl
abbrev uI(x:BitVec 64):Int:=(x.toNat:Int)
abbrev uV(x:BitVec 64):Value:=Y V (uI x)
theorem ZBD(x:BitVec 64):Q0 64 (uI x)=x:=by
 apply JI;simp
theorem Z5y(n:Int):J V n=n%18446744073709551616:=by
 simp[J,JH,Ju]
theorem ZCv(n:Nat)(h:n<2^64):J V (n:Int)=n:=by
 rw[Z5y];omega
theorem Z9i(x:BitVec 64):J V (uI x)=uI x:=ZCv _ x.isLt
theorem Z0g(x y:BitVec 64):bitsI .xor V (uI x) (uI y)=uI (x^^^y):=by
 simp only[bitsI,JH,ZBD];exact Z9i _
theorem ZBo(x y:BitVec 64):bitsI .and V (uI x) (uI y)=uI (x&&&y):=by
 simp only[bitsI,JH,ZBD];exact Z9i _
theorem Z6i(x y:BitVec 64):bitsI .or V (uI x) (uI y)=uI (x|||y):=by
 simp only[bitsI,JH,ZBD];exact Z9i _
theorem ZBp(x:BitVec 64):bitsI .xor V 18446744073709551615 (uI x)=uI (~~~ x):=by
 have:(18446744073709551615:Int)=uI (BitVec.allOnes 64):=by decide
 rw[this,Z0g];congr 2
theorem ZAc(x:BitVec 64)(n:Nat):shlI V (uI x) (n:Int)=uI (x<<<n):=by
 unfold shlI;rw[Z5y];show(x.toNat:Int)*2^(min (JX (n:Int)) 64)%18446744073709551616=((x<<<n).toNat:Int);rw[U,BitVec.toNat_shiftLeft,Nat.shiftLeft_eq];by_cases h:n<=64
 ·rw[JF h]
  have e:(2:Int)^n=((2^n:Nat):Int):=by simp
  rw[e,<-Int.natCast_mul];omega
 ·rw[Jp (by omega)]
  have h0:x.toNat*2^n%2^64=0:=by
   have h1:2^n=2^(n-64)*2^64:=by rw[<-Nat.pow_add];congr 1;omega
   rw[h1,<-Nat.mul_assoc,Nat.mul_mod_left]
  rw[h0];omega
theorem ZEs(x:BitVec 64)(n:Nat)(k:IntKind)(hk:k.bits=64):shrI k (uI x) (n:Int)=uI (x>>>n):=by
 unfold shrI;rw[hk,U];show Int.fdiv (x.toNat:Int) (2^(min n 64))=((x>>>n).toNat:Int);rw[BitVec.toNat_ushiftRight,JS];have hx:=x.isLt;have e:∀m:Nat,(2:Int)^m=((2^m:Nat):Int):=by intro m;simp
 by_cases h:n<=64
 ·rw[JF h,e,JP _ (Jk _),Jq]
 ·rw[Jp (by omega),e,JP _ (Jk _),<-Jq]
  have h1:x.toNat/2^n=0:=JY (Nat.lt_trans hx (Nat.pow_lt_pow_right (by decide) (by omega)));rw[h1,JY hx]
theorem Z8l(n:Int):J I n=(n+9223372036854775808)%18446744073709551616-9223372036854775808:=by
 unfold J;show(if(true&&decide (n%18446744073709551616>=9223372036854775808))=true then n%18446744073709551616-18446744073709551616 else n%18446744073709551616)=_;simp only[Bool.true_and,decide_eq_true_eq];split<;>omega
theorem Z0{n:Int}(h: -9223372036854775808<=n)(h':n<9223372036854775808):J I n=n:=by
 rw[Z8l];omega
theorem Z2z(a b:Int)(h:0<=a):JE a b=a%b:=Int.tmod_eq_emod_of_nonneg h
abbrev St:=Nat->BitVec 64
def lanesA(s:St):Array Value:=ZR 25 (fun i=>uV (s i))
theorem ZM(s:St):(lanesA s).size=25:=Z03 _ _
theorem Z3n{n:Nat}{f:Nat->Value}(h:∀i,(f i).oneCell'=true):∀v∈(ZR n f).toList,v.oneCell'=true:=by
 intro v hv;simp only[ZR,Array.mem_toList_iff,Array.mem_ofFn]at hv;obtain⟨i,rfl⟩:=hv;exact h i
theorem Z28(s:St):∀v∈(lanesA s).toList,v.oneCell'=true:=Z3n (fun _=>rfl)
theorem ZCM{s r:St}(h:∀i,i<25->s i=r i):lanesA s=lanesA r:=ZH (fun i hi=>by rw[h i hi])
theorem ZZ(s:St){i:Nat}(h:i<25):(lanesA s)[i]?=J2 (uV (s i)):=ZF h
def ZHc:List Nat:=[0,1,62,28,27,36,44,6,55,20,3,10,43,25,39,41,45,15,21,8,18,2,61,56,14]
def turnOf(i:Nat):Nat:=ZHc.getD i 0
def rcL:List (BitVec 64):=[0x0000000000000001,0x0000000000008082,0x800000000000808a,0x8000000080008000,0x000000000000808b,0x0000000080000001,0x8000000080008081,0x8000000000008009,0x000000000000008a,0x0000000000000088,0x0000000080008009,0x000000008000000a,0x000000008000808b,0x800000000000008b,0x8000000000008089,0x8000000000008003,0x8000000000008002,0x8000000000000080,0x000000000000800a,0x800000008000000a,0x8000000080008081,0x8000000000008080,0x0000000080000001,0x8000000080008008]
def ZFr(i:Nat):BitVec 64:=rcL.getD i 0
theorem ZCo(i:Nat):turnOf i<64:=by
 unfold turnOf;by_cases h:i<25
 ·have:∀i,i<25->ZHc.getD i 0<64:=by decide
  exact this i h
 ·rw[X,J9 (by simp[ZHc];omega)];simp
def ZFo(s:St)(x:Nat):Nat->BitVec 64
 |0=>0
 |k+1=>ZFo s x k^^^s (x+5*k)
def par(s:St)(x:Nat):BitVec 64:=ZFo s x 5
def ddK(s:St)(x:Nat):BitVec 64:=par s ((x+4)%5)^^^(par s ((x+1)%5)).rotateLeft 1
def bbXY(s:St)(x y:Nat):BitVec 64:=(s (x+5*y)^^^ddK s x).rotateLeft (turnOf (x+5*y))
def bbK(s:St)(j:Nat):BitVec 64:=bbXY s ((j%5+3*(j/5))%5) (j%5)
def Z6L(b:St)(j:Nat):BitVec 64:=b j^^^(~~~ b ((j%5+1)%5+5*(j/5))&&&b ((j%5+2)%5+5*(j/5)))
def rnd(n:Nat)(s:St):St:=fun j=>if j=0 then Z6L (bbK s) 0^^^ZFr n else Z6L (bbK s) j
def ZHG:Nat->St->St
 |0,s=>s
 |n+1,s=>rnd n (ZHG n s)
def Z7i(s:St):St:=ZHG 24 s
def regOf:Nat->Nat
 |0=>1
 |k+1=>if 2*regOf k>255 then(2*regOf k-256)^^^0x71 else 2*regOf k
def Z77(i:Nat):Nat->BitVec 64
 |0=>0
 |j+1=>Z77 i j|||((if regOf (7*i+j)%2=1 then(1:BitVec 64)else 0)<<<(2^j-1))
def Z5W(i:Nat):Nat->BitVec 64
 |0=>0
 |j+1=>Z5W i j^^^((if regOf (7*i+j)%2=1 then(1:BitVec 64)else 0)<<<(2^j-1))
def Z9j:Nat->Nat×Nat
 |0=>(1,0)
 |t+1=>((Z9j t).2,(2*(Z9j t).1+3*(Z9j t).2)%5)
def tarr:Nat->Nat->Nat
 |0=>fun _=>0
 |t+1=>fun j=>if j=(Z9j t).1+5*(Z9j t).2 then(t+1)*(t+2)/2%64 else tarr t j
theorem ZJI:∀k:Nat,k<169->regOf k<256:=by decide +kernel
theorem ZFb:∀i:Nat,i<24->Z77 i 7=ZFr i:=by decide +kernel
theorem ZH9:∀i:Nat,i<24->Z5W i 7=ZFr i:=by decide +kernel
theorem ZKy:∀t:Nat,t<25->(Z9j t).1<5/\(Z9j t).2<5:=by decide +kernel
theorem ZEx:∀j:Nat,j<25->tarr 24 j=turnOf j:=by decide +kernel
theorem ZEp:∀k:Nat,k<168->(regOf k*2>255->bitsI .xor I ((regOf k*2-256:Nat):Int) 113=(regOf (k+1):Int)):=by decide +kernel
theorem ZCd(k:Nat)(h:¬regOf k*2>255):regOf (k+1)=regOf k*2:=by
 rw[regOf,if_neg (by omega)];omega
theorem ZJr:∀k:Nat,k<168->bitsI .and I (regOf k:Int) 1=(regOf k%2:Nat):=by decide +kernel
theorem ZJH:∀j:Nat,j<7->J V (shlI V 1 (j:Int)-1)=((2^j-1:Nat):Int):=by decide +kernel
theorem ZEy:∀t:Nat,t<24->JE (J I (Int.tdiv (J I ((J I ((t:Int)+1))*(J I ((t:Int)+2)))) 2)) 64=(((t+1)*(t+2)/2%64:Nat):Int):=by decide +kernel
end Go.Vcg
end
section
namespace Go.Proofs.YtfghidehlnfdiaaGreat
open Go Go.Vcg
theorem Z3T{R:Q1->K->Prop}{w:K}{n0 n1:Int}(x y:Nat)(h0:n0=(x:Int))(h1:n1=(y:Int))(hx:x<1000)(hy:y<1000)
  (h:R (F (Y I ((x%5+5*(y%5):Nat):Int))) w):JN W Z4Q.n #[Y I n0,Y I n1] w R:=by
 subst h0 h1;refine Z4Q.vc _ _ _ _ ?_;unfold Z4Q.Vc
 have e:J I (JE (x:Int) 5+J I (5*JE (y:Int) 5))=((x%5+5*(y%5):Nat):Int):=by
  simp(disch:=omega) only[Z2z,Z0];omega
 rw[e];exact h
theorem ZAZ{R:Q1->K->Prop}{w:K}{n0 n1:Int}(x:BitVec 64)(k:Nat)(h0:n0=uI x)(h1:n1=(k:Int))(hk:k<64)
  (h:R (F (uV (x.rotateLeft k))) w):JN W Zu.n #[Y V n0,Y I n1] w R:=by
 subst h0 h1;refine Zu.vc _ _ _ _ ?_;unfold Zu.Vc
 have e1:bitsI .and V (J V (k:Int)) 63=(k:Int):=by
  have:∀k:Nat,k<64->bitsI .and V (J V (k:Int)) 63=(k:Int):=by decide +kernel
  exact this k hk
 have e2:J V (64-(k:Int))=((64-k:Nat):Int):=by
  rw[Z5y];omega
 rw[e1,e2];refine⟨by omega,by omega,?_⟩;rw[ZAc,ZEs _ _ _ rfl,Z6i]
 have e3:x<<<k|||x>>>(64-k)=x.rotateLeft k:=by
  rw[JJ];rw[E hk]
 rw[e3];exact h
structure Z63 (w:K) (b o:Nat):Prop where
 lt:b<w.heap.size
 rc:∀i,i<24->w.cell? ⟨b,o+i,C⟩=J2 (uV (ZFr i))
 turn:∀i,i<25->w.cell? ⟨b,o+24+i,C⟩=J2 (Y I (turnOf i))
theorem ZN{S:Nat->Prop}{w w':K}(m:Mod S w w'){b i:Nat}(hb:b<w.heap.size)(hs:¬S b):w'.cell? ⟨b,i,C⟩=w.cell? ⟨b,i,C⟩ :=
 JK (m.block b hb hs)
theorem Z63.mod{S:Nat->Prop}{w w':K}{b o:Nat}(h:Z63 w b o)(m:Mod S w w')(hs:¬S b):Z63 w' b o :=
 ⟨JQ h.lt m.size,fun i hi=>(ZN m h.lt hs).trans (h.rc i hi),fun i hi=>(ZN m h.lt hs).trans (h.turn i hi)⟩
theorem ZGD:((J3 5).all fun x=>(J3 5).all fun k=>(J3 25).all fun j =>
 (decide ((j%5+3*(j/5))%5<x)||(decide ((j%5+3*(j/5))%5=x)&&decide (j%5<k+1))) == (decide (j=k%5+5*((2*x+3*k)%5))||(decide ((j%5+3*(j/5))%5<x)||(decide ((j%5+3*(j/5))%5=x)&&decide (j%5<k)))))=true:=by decide +kernel
theorem ZKT(x:Nat)(hx:x<5)(k:Nat)(hk:k<5)(j:Nat)(hj:j<25) :
  (((j%5+3*(j/5))%5<x\/(j%5+3*(j/5))%5=x/\j%5<k+1)↔(j=k%5+5*((2*x+3*k)%5)\/((j%5+3*(j/5))%5<x\/(j%5+3*(j/5))%5=x/\j%5<k))):=by
 have h:=ZGD;simp only[List.all_eq_true,List.mem_range]at h;have h1:=h x hx k hk j hj;simp only[beq_iff_eq]at h1;rw[Bool.eq_iff_iff]at h1;simpa only[Bool.or_eq_true,Bool.and_eq_true,decide_eq_true_eq]using h1
theorem ZJ6:∀x:Nat,x<5->∀k:Nat,k<5->(k%5+5*((2*x+3*k)%5))<25/\((k%5+5*((2*x+3*k)%5))%5+3*((k%5+5*((2*x+3*k)%5))/5))%5=x/\(k%5+5*((2*x+3*k)%5))%5=k:=by decide +kernel
theorem ZDi{w:K}(s:St)(b o:Nat)(n:Nat)(hn:n<24)(hp:Z63 w b o) :
  JN W Z0X.n #[JZ (lanesA s),JR (J2 ⟨b,o,C⟩),Y I (n:Int)] w
   (fun e w'=>e=F (JZ (lanesA (rnd n s)))/\Mod NoB w w'):=by
 refine Z0X.vc _ _ _ _ _ ?_;unfold Z0X.Vc;rintro d3 w4⟨rfl,rfl⟩ d5 w6⟨rfl,rfl⟩ d7 w8⟨rfl,rfl⟩;have B3:=((Blk.new w 173 (lanesA s)).alloc (Z (G 25 (Y V 0)) 173)).alloc (Z #[(Y V 0),(Y V 0),(Y V 0),(Y V 0),(Y V 0)] 181);have B5:=(Blk.new (w.alloc (Z (lanesA s) 173)) 173 (G 25 (Y V 0))).alloc (Z #[(Y V 0),(Y V 0),(Y V 0),(Y V 0),(Y V 0)] 181);have B7:=Blk.new ((w.alloc (Z (lanesA s) 173)).alloc (Z (G 25 (Y V 0)) 173)) 181 #[(Y V 0),(Y V 0),(Y V 0),(Y V 0),(Y V 0)];have M:=((Mod.alloc (S:=NoB) w (Z (lanesA s) 173)).step_alloc (Z (G 25 (Y V 0)) 173)).step_alloc (Z #[(Y V 0),(Y V 0),(Y V 0),(Y V 0),(Y V 0)] 181);simp only[ZE]at B5 B7 ⊢;generalize((w.alloc (Z (lanesA s) 173)).alloc (Z (G 25 (Y V 0)) 173)).alloc (Z #[(Y V 0),(Y V 0),(Y V 0),(Y V 0),(Y V 0)] 181)=w8 at *
 have hN:=hp.lt;generalize hNe:w.heap.size=N at *
 have e5:#[(Y V 0),(Y V 0),(Y V 0),(Y V 0),(Y V 0)]=ZR 5 (fun i=>uV (if i<0 then par s i else 0)):=by rfl
 rw[e5]at B7;clear e5
 refine Z5P 5 (fun x w'=>Vcg.Mod NoB w w'/\Blk w' N 173 (lanesA s)/\Blk w' (N+1) 173 (G 25 (Y V 0)) /\
  Blk w' (N+1+1) 181 (ZR 5 (fun i=>uV (if i<x then par s i else 0)))) rfl ⟨M,B3,B5,B7⟩ ?_ ?_
 ·clear M B3 B5 B7
  rintro x _ w1 hx⟨M,B3,B5,B7⟩
  refine Z5P 5 (fun k w'=>Vcg.Mod NoB w w'/\Blk w' N 173 (lanesA s)/\Blk w' (N+1) 173 (G 25 (Y V 0)) /\
   Blk w' (N+1+1) 181 (ZR 5 (fun i=>uV (if i<x then par s i else if i=x then ZFo s x k else 0)))) rfl ⟨M,B3,B5,?_⟩ ?_ ?_
  ·have:(fun i=>uV (if i<x then par s i else if i=x then ZFo s x 0 else 0))=(fun i=>uV (if i<x then par s i else 0)):=by
     funext i;simp[ZFo]
   rw[this];exact B7
  ·clear M B3 B5 B7
   rintro k _ w2 hk⟨M,B3,B5,B7⟩;rintro _ rfl;refine⟨by omega,_,B7.drew.rd0 (ZF (by omega)),Z3T x k rfl rfl (by omega) (by omega) ⟨_,rfl,B7.drew.rd0 (ZF (by omega)),by omega,_,B3.drew.rd0 (ZZ s (by omega)),by omega,B7.drew.canSet0 (by simp;omega) rfl,fun w3 h3=>?_⟩⟩;rw[h3.at];refine Z9k.next (by rw[Z0 (by omega) (by omega)];omega) hk ⟨(M.step_drew).step_set (fun h=>by simp only[hNe]at h;omega),B3.drew.set_ne (by simp;omega),B5.drew.set_ne (by simp),?_⟩;have:=B7.drew.set x (uV (ZFo s x (k+1)));rw[Z0W]at this;simp only[Z0g,if_true,Jh,if_false]
   have e1:ZFo s x (k+1)=ZFo s x k^^^s (x%5+5*(k%5)):=by
    rw[ZFo,E hx,E hk]
   rw[<-e1];refine(ZH (fun j hj=>?_)) ▸ this
   grind
  ·rintro _ w2⟨M,B3,B5,B7⟩
   refine Z9k.next (by rw[Z0 (by omega) (by omega)];omega) hx ⟨M,B3,B5,?_⟩;refine(ZH (fun j hj=>?_)) ▸ B7;have:par s x=ZFo s x 5:=rfl
   grind
 ·clear M B3 B5 B7
  rintro _ w1⟨M,B3,B5,B7⟩ d22 w23⟨rfl,rfl⟩;have hsz:N+1+1<w1.heap.size:=B7.lt;have B8:=Blk.new w1 173 (G 25 (Y V 0))
  replace B3:=B3.alloc (Z (G 25 (Y V 0)) 173)
  replace B5:=B5.alloc (Z (G 25 (Y V 0)) 173)
  replace B7:=B7.alloc (Z (G 25 (Y V 0)) 173)
  replace M:=M.step_alloc (Z (G 25 (Y V 0)) 173)
  generalize w1.alloc (Z (G 25 (Y V 0)) 173)=w2 at *
  generalize w1.heap.size=Q at *
  refine Z5P 5 (fun x w'=>Vcg.Mod NoB w w'/\Blk w' N 173 (lanesA s)/\Blk w' (N+1) 173 (G 25 (Y V 0)) /\
   Blk w' (N+1+1) 181 (ZR 5 (fun i=>uV (if i<5 then par s i else 0)))/\Blk w' Q 173 (ZR 25 (fun j=>uV (if(j%5+3*(j/5))%5<x then bbK s j else 0)))) rfl
   ⟨M,B3,B5,B7,by rw[Zm]at B8;simp only[J7,if_false];exact B8⟩ ?_ ?_
  ·clear M B3 B5 B7 B8
   rintro x _ w2 hx⟨M,B3,B5,B7,B8⟩;rintro _ rfl
   have c1:JE (J I ((J I ((x:Int)+5))-1)) 5=(((x+4)%5:Nat):Int):=by
    simp(disch:=omega) only[Z2z,Z0];omega
   have c2:JE (J I ((x:Int)+1)) 5=(((x+1)%5:Nat):Int):=by
    simp(disch:=omega) only[Z2z,Z0];omega
   rw[c1,c2];clear c1 c2;have l1:(x+4)%5<5:=Jl _ (by decide);have l2:(x+1)%5<5:=Jl _ (by decide);refine⟨by omega,_,B7.drew.rd0 (ZF l1),by omega,_,B7.drew.rd0 (ZF l2),?_⟩;rw[if_pos l1,if_pos l2];refine ZAZ _ 1 rfl rfl (by omega) ⟨_,rfl,by rw[B7.drew.rd0 (ZF l1),if_pos l1],?_⟩;rw[Z0g]
   refine Z5P 5 (fun k w'=>Vcg.Mod NoB w w'/\Blk w' N 173 (lanesA s)/\Blk w' (N+1) 173 (G 25 (Y V 0)) /\
    Blk w' (N+1+1) 181 (ZR 5 (fun i=>uV (if i<5 then par s i else 0)))/\Blk w' Q 173 (ZR 25 (fun j=>uV (if(j%5+3*(j/5))%5<x\/(j%5+3*(j/5))%5=x/\j%5<k then bbK s j else 0)))) rfl
    ⟨M.step_drew,B3,B5,B7,by simpa using B8.drew⟩ ?_ ?_
   ·clear M B3 B5 B7 B8
    rintro k _ w3 hk⟨M,B3,B5,B7,B8⟩;rintro _ rfl;have c3:=ZJ6 x hx k hk;have hp':=hp.mod (M.step_drew) (fun h=>h);refine Z3T k (2*x+3*k) rfl (by simp(disch:=omega) only[Z0];omega) (by omega) (by omega) ⟨_,rfl,?_⟩;refine Z3T x k rfl rfl (by omega) (by omega) ⟨_,rfl,by omega,_,B3.drew.rd0 (ZZ s (by omega)),?_⟩;refine Z3T x k rfl rfl (by omega) (by omega) ⟨_,rfl,B3.drew.rd0 (ZZ s (by omega)),by omega,_,by rw[Z3,Z3,U];exact hp'.turn _ (by omega),?_⟩;refine ZAZ (s (x%5+5*(k%5))^^^(par s ((x+4)%5)^^^(par s ((x+1)%5)).rotateLeft 1)) (turnOf (x%5+5*(k%5))) (by rw[Z0g]) rfl (ZCo _) ⟨_,rfl,by omega,B8.drew.canSet0 (by simp;omega) rfl,fun w4 h4=>?_⟩;rw[h4.at];refine Z9k.next (by rw[Z0 (by omega) (by omega)];omega) hk ⟨(M.step_drew).step_set (fun h=>by simp only[hNe]at h;omega),B3.drew.set_ne (by simp;omega),B5.drew.set_ne (by simp;omega),B7.drew.set_ne (by simp;omega),?_⟩;have:=B8.drew.set (k%5+5*((2*x+3*k)%5)) (uV ((s (x%5+5*(k%5))^^^(par s ((x+4)%5)^^^(par s ((x+1)%5)).rotateLeft 1)).rotateLeft (turnOf (x%5+5*(k%5)))));rw[Z0W]at this;refine(ZH (fun j hj=>?_)) ▸ this
    have e1:bbK s (k%5+5*((2*x+3*k)%5))=(s (x%5+5*(k%5))^^^(par s ((x+4)%5)^^^(par s ((x+1)%5)).rotateLeft 1)).rotateLeft (turnOf (x%5+5*(k%5))):=by
     rw[bbK,c3.2.1,c3.2.2,bbXY,E hx,E hk,ddK]
    have c4:=ZKT x hx k hk j hj;rw[<-e1];by_cases hj':j=k%5+5*((2*x+3*k)%5)
    ·rw[if_pos hj',if_pos (c4.2 (.inl hj')),hj']
    ·rw[if_neg hj']
     congr 2;simp only[c4,hj',false_or]
   ·rintro _ w3⟨M,B3,B5,B7,B8⟩
    refine Z9k.next (by rw[Z0 (by omega) (by omega)];omega) hx ⟨M,B3,B5,B7,?_⟩;refine(ZH (fun j hj=>?_)) ▸ B8;congr 2;have:j%5<5:=by omega
    simp only[this,and_true];have:(j%5+3*(j/5))%5<x+1↔(j%5+3*(j/5))%5<x\/(j%5+3*(j/5))%5=x:=by omega
    simp only[this]
  ·clear M B3 B5 B7 B8
   rintro _ w1⟨M,B3,B5,B7,B8⟩ d52 w53⟨rfl,rfl⟩;have hsz:Q<w1.heap.size:=B8.lt;have hsz5:N+1<w1.heap.size:=B5.lt;have B9:=Blk.new w1 173 (G 25 (Y V 0))
   replace B5:=B5.alloc (Z (G 25 (Y V 0)) 173)
   replace B8:=B8.alloc (Z (G 25 (Y V 0)) 173)
   replace M:=M.step_alloc (Z (G 25 (Y V 0)) 173)
   clear B3 B7
   have e8:ZR 25 (fun j=>uV (if(j%5+3*(j/5))%5<5 then bbK s j else 0))=lanesA (bbK s) :=
    ZH (fun j hj=>by rw[if_pos (by omega)])
   rw[e8]at B8;generalize w1.alloc (Z (G 25 (Y V 0)) 173)=w2 at *
   generalize w1.heap.size=T at *
   refine Z5P 5 (fun x w'=>Vcg.Mod NoB w w'/\Blk w' (N+1) 173 (G 25 (Y V 0))/\Blk w' Q 173 (lanesA (bbK s)) /\
    Blk w' T 173 (ZR 25 (fun j=>uV (if j%5<x then Z6L (bbK s) j else 0)))) rfl
    ⟨M,B5,B8,by rw[Zm]at B9;simp only[J7,if_false];exact B9⟩ ?_ ?_
   ·clear M B5 B8 B9
    rintro x _ w2 hx⟨M,B5,B8,B9⟩
    refine Z5P 5 (fun k w'=>Vcg.Mod NoB w w'/\Blk w' (N+1) 173 (G 25 (Y V 0))/\Blk w' Q 173 (lanesA (bbK s)) /\
     Blk w' T 173 (ZR 25 (fun j=>uV (if j%5<x\/j%5=x/\j/5<k then Z6L (bbK s) j else 0)))) rfl
     ⟨M,B5,B8,by simpa using B9⟩ ?_ ?_
    ·clear M B5 B8 B9
     rintro k _ w3 hk⟨M,B5,B8,B9⟩;rintro _ rfl;refine Z3T x k rfl rfl (by omega) (by omega) ⟨_,rfl,?_⟩;refine Z3T x k rfl rfl (by omega) (by omega) ⟨_,rfl,by omega,_,B8.drew.rd0 (ZZ _ (by omega)),?_⟩;refine Z3T (x+1) k (by rw[Z0 (by omega) (by omega)];omega) rfl (by omega) (by omega) ⟨_,rfl,B8.drew.rd0 (ZZ _ (by omega)),by omega,_,B8.drew.rd0 (ZZ _ (by omega)),?_⟩;refine Z3T (x+2) k (by rw[Z0 (by omega) (by omega)];omega) rfl (by omega) (by omega) ⟨_,rfl,B8.drew.rd0 (ZZ _ (by omega)),B8.drew.rd0 (ZZ _ (by omega)),by omega,_,B8.drew.rd0 (ZZ _ (by omega)),by omega,B9.drew.canSet0 (by simp;omega) rfl,fun w4 h4=>?_⟩;rw[h4.at];refine Z9k.next (by rw[Z0 (by omega) (by omega)];omega) hk ⟨(M.step_drew).step_set (fun h=>by simp only[hNe]at h;omega),B5.drew.set_ne (by simp;omega),B8.drew.set_ne (by simp;omega),?_⟩;rw[ZBp,ZBo,Z0g];have:=B9.drew.set (x%5+5*(k%5)) (uV (bbK s (x%5+5*(k%5))^^^(~~~ bbK s ((x+1)%5+5*(k%5))&&&bbK s ((x+2)%5+5*(k%5)))));rw[Z0W]at this;refine(ZH (fun j hj=>?_)) ▸ this
     have e1:Z6L (bbK s) (x%5+5*(k%5))=bbK s (x%5+5*(k%5))^^^(~~~ bbK s ((x+1)%5+5*(k%5))&&&bbK s ((x+2)%5+5*(k%5))):=by
      rw[Z6L,show(x%5+5*(k%5))%5=x by omega,show(x%5+5*(k%5))/5=k by omega,show k%5=k by omega]
     rw[<-e1];by_cases hj':j=x%5+5*(k%5)
     ·rw[if_pos hj',if_pos (by omega),hj']
     ·rw[if_neg hj']
      congr 2;have:(j%5<x\/j%5=x/\j/5<k+1)↔(j%5<x\/j%5=x/\j/5<k):=by omega
      simp only[this]
    ·rintro _ w3⟨M,B5,B8,B9⟩
     refine Z9k.next (by rw[Z0 (by omega) (by omega)];omega) hx ⟨M,B5,B8,?_⟩;refine(ZH (fun j hj=>?_)) ▸ B9;congr 2;have:j%5<x+1↔j%5<x\/j%5=x/\j/5<5:=by omega
     simp only[this]
   ·clear M B5 B8 B9
    rintro _ w3⟨M,B5,B8,B9⟩ _ rfl;have hp':=hp.mod (M.step_drew) (fun h=>h);refine⟨_,B9.drew.rd1 (ZF (by omega)),by omega,_,by rw[Z3,U];exact hp'.rc _ hn,B9.drew.canSet (by simp) rfl,?_⟩;rintro w4 rfl;have B9':=B9.drew.set 0 (uV (rnd n s 0));rw[Z0W]at B9';rw[if_pos (by omega),Z0g]
    have e9:(ZR 25 fun j=>if j=0 then uV (rnd n s 0)else uV (if j%5<5 then Z6L (bbK s) j else 0))=lanesA (rnd n s) :=
     ZH (fun j hj=>by
      by_cases h0:j=0
      ·rw[if_pos h0,h0]
      ·rw[if_neg h0,if_pos (by omega),rnd,if_neg h0])
    rw[e9]at B9';have B5':Blk (w3.drew.setCell ⟨T,0,C⟩ (uV (rnd n s 0))) (N+1) 173 (G 25 (Y V 0)):=B5.drew.set_ne (by simp;omega);have M':Vcg.Mod NoB w (w3.drew.setCell ⟨T,0,C⟩ (uV (rnd n s 0))):=(M.step_drew).step_set (fun h=>by simp only[hNe]at h;omega);have e10:Z6L (bbK s) 0^^^ZFr n=rnd n s 0:=by simp[rnd]
    rw[e10];refine⟨_,B9'.rowAll (ZM _),_,B5'.storeAll (L:=lanesA (rnd n s)) (by rw[ZM];kernel_rfl) (by rw[ZM,O]) (Z28 _),_,(B5'.row_same _).rowAll (ZM _),rfl,M'.step_row (fun h=>by omega)⟩
def rcA:Array Value:=ZR 24 (fun i=>uV (ZFr i))
def turnA:Array Value:=ZR 25 (fun i=>Y I (turnOf i:Int))
theorem Z7F:rcA.size=24:=Z03 _ _
theorem Z4a:turnA.size=25:=Z03 _ _
theorem ZDq(w:K):JN W Z1y.n #[] w (fun e w'=>e=F (JZ turnA)/\Vcg.Mod NoB w w'):=by
 refine Z1y.vc _ _ ?_;unfold Z1y.Vc;rintro d0 w1⟨rfl,rfl⟩ d2 w3⟨rfl,rfl⟩;have B0:=(Blk.new w 169 (G 25 (Y I 0))).alloc (Z (G 25 (Y I 0)) 169);have B2:=Blk.new (w.alloc (Z (G 25 (Y I 0)) 169)) 169 (G 25 (Y I 0));have M:=(Mod.alloc (S:=NoB) w (Z (G 25 (Y I 0)) 169)).step_alloc (Z (G 25 (Y I 0)) 169);simp only[ZE]at B2 ⊢;generalize(w.alloc (Z (G 25 (Y I 0)) 169)).alloc (Z (G 25 (Y I 0)) 169)=w3 at *
 generalize hNe:w.heap.size=N at *
 refine⟨fun n5 n6 n7 w'=>∃t:Nat,n7=t/\t<=24/\n5=((Z9j t).1:Nat)/\n6=((Z9j t).2:Nat)/\Vcg.Mod NoB w w'/\Blk w' N 169 (G 25 (Y I 0)) /\
  Blk w' (N+1) 169 (ZR 25 (fun i=>Y I (tarr t i:Int))),fun _ _ n _=>(24-n).toNat,⟨0,rfl,by omega,rfl,rfl,M,B0,by rw[Zm]at B2;exact B2⟩,?_⟩
 clear M B0 B2;rintro _ _ _ _ w4⟨t,rfl,ht,rfl,rfl,M,B0,B2⟩;refine⟨fun hlt=>?_,fun hge=>?_⟩
 ·have hxy:=ZKy t (by omega)
  refine Z3T (Z9j t).1 (Z9j t).2 rfl rfl (by omega) (by omega) ⟨_,rfl,by omega,B2.canSet0 (by simp;omega) rfl,fun w5 h5=>?_⟩;rw[h5.at];refine⟨⟨t+1,by rw[Z0 (by omega) (by omega)];omega,by omega,rfl,?_,M.step_set (fun h=>by simp only[hNe]at h;omega),B0.set_ne (by simp),?_⟩,?_⟩
  ·simp only[Z9j]
   simp(disch:=omega) only[Z2z,Z0];omega
  ·have:=B2.set ((Z9j t).1%5+5*((Z9j t).2%5)) (Y I ((((t+1)*(t+2)/2%64:Nat)):Int))
   rw[Z0W]at this;rw[ZEy t (by omega)];refine(ZH (fun j hj=>?_)) ▸ this;rw[tarr,E hxy.1,E hxy.2];dsimp only;split<;>rfl
  ·dsimp only
   rw[Z0 (n:=(t:Int)+1) (by omega) (by omega)];omega
 ·obtain rfl:t=24:=by omega
  have e:(ZR 25 fun i=>Y I (tarr 24 i:Int))=turnA:=ZH (fun j hj=>by rw[ZEx j hj]);rw[e]at B2
  exact⟨_,B2.rowAll Z4a,_,B0.storeAll (L:=turnA) (by rw[Z4a];kernel_rfl) (by rw[Z4a,O]) (Z3n (fun _=>rfl)),_,
   (B0.row_same _).rowAll Z4a,rfl,M.step_row (fun h=>by omega)⟩
theorem Z90(w:K):JN W Z0d.n #[] w (fun e w'=>e=F (JZ rcA)/\Vcg.Mod NoB w w'):=by
 refine Z0d.vc _ _ ?_;unfold Z0d.Vc;rintro d0 w1⟨rfl,rfl⟩ d2 w3⟨rfl,rfl⟩;have B0:=(Blk.new w 168 (G 24 (Y V 0))).alloc (Z (G 24 (Y V 0)) 168);have B2:=Blk.new (w.alloc (Z (G 24 (Y V 0)) 168)) 168 (G 24 (Y V 0));have M:=(Mod.alloc (S:=NoB) w (Z (G 24 (Y V 0)) 168)).step_alloc (Z (G 24 (Y V 0)) 168);simp only[ZE]at B2 ⊢;generalize(w.alloc (Z (G 24 (Y V 0)) 168)).alloc (Z (G 24 (Y V 0)) 168)=w3 at *
 generalize hNe:w.heap.size=N at *
 refine⟨fun n5 n6 w'=>∃i:Nat,n6=i/\i<=24/\n5=(regOf (7*i):Nat)/\Vcg.Mod NoB w w'/\Blk w' N 168 (G 24 (Y V 0)) /\
  Blk w' (N+1) 168 (ZR 24 (fun j=>uV (if j<i then ZFr j else 0))),fun _ n _=>(24-n).toNat,⟨0,rfl,by omega,rfl,M,B0,by rw[Zm]at B2;exact B2⟩,?_⟩
 clear M B0 B2;rintro _ _ _ w4⟨i,rfl,hi,rfl,M,B0,B2⟩;refine⟨fun hlt=>?_,fun hge=>?_⟩
 ·refine⟨fun n9 n10 w'=>∃j:Nat,n10=j/\j<=7/\n9=(regOf (7*i+j):Nat)/\Vcg.Mod NoB w w'/\Blk w' N 168 (G 24 (Y V 0)) /\
    Blk w' (N+1) 168 (ZR 24 (fun k=>uV (if k<i then ZFr k else if k=i then Z77 i j else 0))),fun _ n _=>(7-n).toNat,⟨0,rfl,by omega,rfl,M,B0,?_⟩,?_⟩
  ·refine(ZH (fun k hk=>?_)) ▸ B2
   simp[Z77]
  clear M B0 B2;rintro _ _ _ w5⟨j,rfl,hj,rfl,M,B0,B2⟩;refine⟨fun hlt'=>?_,fun hge'=>?_⟩
  ·rintro _ rfl
   have hr:=ZJI (7*i+j) (by omega);rw[ZJH j (by omega),ZJr _ (by omega)];refine⟨by omega,_,B2.drew.rd0 (ZF (by omega)),by omega,by omega,by omega,B2.drew.canSet0 (by simp;omega) rfl,fun w6 h6=>?_⟩;rw[h6.at]
   have e0:J V ((regOf (7*i+j)%2:Nat):Int)=uI (if regOf (7*i+j)%2=1 then(1:BitVec 64)else 0):=by
    rw[Z5y];by_cases h1:regOf (7*i+j)%2=1
    ·rw[if_pos h1,h1];decide
    ·rw[if_neg h1,show regOf (7*i+j)%2=0 by omega];decide
   rw[e0,ZAc];simp only[if_true,Jh,if_false];rw[Z6i];have B0':Blk (w5.drew.setCell ⟨N+1,i,C⟩ (uV (Z77 i (j+1)))) N 168 (G 24 (Y V 0)):=B0.drew.set_ne (by simp);have M':Vcg.Mod NoB w (w5.drew.setCell ⟨N+1,i,C⟩ (uV (Z77 i (j+1)))):=(M.step_drew).step_set (fun h=>by simp only[hNe]at h;omega);have B2':=B2.drew.set i (uV (Z77 i (j+1)));rw[Z0W]at B2'
   have B2'':Blk (w5.drew.setCell ⟨N+1,i,C⟩ (uV (Z77 i (j+1)))) (N+1) 168 (ZR 24 (fun k=>uV (if k<i then ZFr k else if k=i then Z77 i (j+1)else 0))):=by
    refine(ZH (fun k hk=>?_)) ▸ B2'
    grind
   have ew:J I ((regOf (7*i+j):Int)*2)=((regOf (7*i+j)*2:Nat):Int):=by rw[Z0 (by omega) (by omega)];omega
   rw[ew];have em:(7-J I ((j:Int)+1)).toNat<(7-(j:Int)).toNat:=by rw[Z0 (by omega) (by omega)];omega
   refine⟨fun h=>⟨⟨j+1,by rw[Z0 (by omega) (by omega)];omega,by omega,?_,M',B0',B2''⟩,em⟩,fun h=>⟨⟨j+1,by rw[Z0 (by omega) (by omega)];omega,by omega,?_,M',B0',B2''⟩,em⟩⟩
   ·rw[Z0 (by omega) (by omega)]
    have:=ZEp (7*i+j) (by omega) (by omega);refine Eq.trans ?_ this;congr 1;omega
   ·rw[<-ZCd _ (by omega)];rfl
  ·obtain rfl:j=7:=by omega
   refine⟨⟨i+1,by rw[Z0 (by omega) (by omega)];omega,by omega,rfl,M,B0,?_⟩,by rw[Z0 (by omega) (by omega)];dsimp only;omega⟩;refine(ZH (fun k hk=>?_)) ▸ B2;have:=ZFb i (by omega)
   grind
 ·obtain rfl:i=24:=by omega
  have e:(ZR 24 fun j=>uV (if j<24 then ZFr j else 0))=rcA:=ZH (fun j hj=>by rw[if_pos hj]);rw[e]at B2
  exact⟨_,B2.rowAll Z7F,_,B0.storeAll (L:=rcA) (by rw[Z7F];kernel_rfl) (by rw[Z7F,O]) (Z3n (fun _=>rfl)),_,
   (B0.row_same _).rowAll Z7F,rfl,M.step_row (fun h=>by omega)⟩
def ZBF:Array Value:=ZR 49 (fun i=>if i<24 then uV (ZFr i)else Y I (turnOf (i-24):Int))
theorem Z5u:ZBF.size=49:=Z03 _ _
theorem ZH4:∀v∈ZBF.toList,v.oneCell'=true:=Z3n (fun i=>by split<;>rfl)
theorem Z63.of_blk{w:K}{b o:Nat}{t:A}{cs:Array Value}(h:Blk w b t cs)(hc:∀i,i<49->cs[o+i]?=ZBF[i]?):Z63 w b o:=by
 refine⟨h.lt,fun i hi=>?_,fun i hi=>?_⟩
 ·rw[h.cell,hc i (by omega),ZBF,ZF (by omega),if_pos hi]
 ·rw[h.cell,Ji,hc (24+i) (by omega),ZBF,ZF (by omega),if_neg (by omega),Ja]
theorem ZBG(w:K):JN W Z1E.n #[] w (fun e w'=>e=F (JZ ZBF)/\Vcg.Mod NoB w w'):=by
 refine Z1E.vc _ _ ?_;unfold Z1E.Vc;rintro d0 w1⟨rfl,rfl⟩;refine(Z90 _).mono ?_;rintro _ w2⟨rfl,M2⟩;refine⟨_,rfl,(ZDq _).mono ?_⟩;rintro _ w3⟨rfl,M3⟩;refine⟨_,rfl,Z7F,Z4a,?_⟩;have M:=((Mod.alloc (S:=NoB) w _).none_trans M2).none_trans M3;have B:=((Blk.new w _ _).mod' M2).mod' M3;rw[show lputL (lputL _ 0 24 rcA) 24 25 turnA=ZBF from by kernel_rfl];exact⟨_,B.storeAll (L:=ZBF) (by rw[Z5u];kernel_rfl) (by rw[Z5u];rfl) ZH4,_,(B.row_same _).rowAll Z5u,rfl,M.step_row (fun h=>by omega)⟩
theorem Z9w{w:K}(s:St)(b o:Nat)(hp:Z63 w b o) :
  JN W Z01.n #[JZ (lanesA s),JR (J2 ⟨b,o,C⟩)] w
   (fun e w'=>e=F (JZ (lanesA (Z7i s)))/\Vcg.Mod NoB w w'):=by
 refine Z01.vc _ _ _ _ ?_;unfold Z01.Vc;rintro d2 w3⟨rfl,rfl⟩ d4 w5⟨rfl,rfl⟩;have B2:=(Blk.new w 173 (lanesA s)).alloc (Z (G 25 (Y V 0)) 173);have B4:=Blk.new (w.alloc (Z (lanesA s) 173)) 173 (G 25 (Y V 0));have M:=(Mod.alloc (S:=NoB) w (Z (lanesA s) 173)).step_alloc (Z (G 25 (Y V 0)) 173);simp only[ZE]at B4 ⊢;generalize(w.alloc (Z (lanesA s) 173)).alloc (Z (G 25 (Y V 0)) 173)=w5 at *
 generalize hNe:w.heap.size=N at *
 refine Z5P 24 (fun n w'=>Vcg.Mod NoB w w'/\Blk w' N 173 (lanesA (ZHG n s))/\Blk w' (N+1) 173 (G 25 (Y V 0))) rfl ⟨M,B2,B4⟩ ?_ ?_
 ·clear M B2 B4
  rintro n _ w6 hn⟨M,B2,B4⟩;refine⟨_,B2.rowAll (ZM _),(ZDi (ZHG n s) b o n hn (hp.mod M (fun h=>h))).mono ?_⟩;rintro _ w7⟨rfl,M7⟩;refine⟨_,rfl,_,(B2.mod' M7).storeAll (L:=lanesA (ZHG (n+1) s)) (by rw[ZM];kernel_rfl) (by rw[ZM,ZM]) (Z28 _),?_⟩;exact Z9k.next (by rw[Z0 (by omega) (by omega)];omega) hn ⟨(M.none_trans M7).step_row (fun h=>by omega),(B2.mod' M7).row_same _,(B4.mod' M7).row_ne (by omega)⟩
 ·clear M B2 B4
  rintro _ w6⟨M,B2,B4⟩
  exact⟨_,B2.rowAll (ZM _),_,B4.storeAll (L:=lanesA (Z7i s)) (by rw[ZM];kernel_rfl) (by rw[ZM,O]) (Z28 _),_,
   (B4.row_same _).rowAll (ZM _),rfl,M.step_row (fun h=>by omega)⟩
theorem ZAQ{R:Q1->K->Prop}{w:K}{n0 n1:Int}(x:BitVec 64)(k:Nat)(h0:n0=uI x)(h1:n1=(k:Int))(hk:k<64)
  (h:∀w',Vcg.Mod NoB w w'->w'.heap=w.heap->R (F (uV (x.rotateLeft k))) w'):JN W Z16.n #[Y V n0,Y I n1] w R:=by
 subst h0 h1;refine Z16.vc _ _ _ _ ?_;unfold Z16.Vc;refine⟨fun hz=>?_,fun hz=>?_⟩
 ·have:x.rotateLeft k=x:=by
    obtain rfl:k=0:=by omega
    rw[JJ];apply JI;simp[JS,JY x.isLt]
  rw[this]at h;exact h w (Mod.refl w) rfl
 ·rintro _ rfl
  have e2:J I (64-(k:Int))=((64-k:Nat):Int):=by
   rw[Z0 (by omega) (by omega)];omega
  rw[e2];refine⟨by omega,by omega,?_⟩;rw[ZAc,ZEs _ _ _ rfl,Z6i]
  have e3:x<<<k|||x>>>(64-k)=x.rotateLeft k:=by
   rw[JJ,E hk]
  rw[e3];exact h _ (Mod.drew w) rfl
theorem ZKl(s:St)(x:Nat):par s x=s x^^^s (x+5)^^^s (x+10)^^^s (x+15)^^^s (x+20):=by
 simp[par,ZFo]
theorem Z8Q(w:K)(s:St) :
  JN W Z0I.n #[JZ (lanesA s)] w (fun e w'=>e=F (JZ (lanesA (Z7i s)))/\Vcg.Mod NoB w w'):=by
 refine Z0I.vc _ _ _ ?_;unfold Z0I.Vc;rintro d1 w2⟨rfl,rfl⟩ d3 w4⟨rfl,rfl⟩ d5 w6⟨rfl,rfl⟩;have B1:=((Blk.new w 149 (lanesA s)).alloc (Z (G 25 (Y V 0)) 149)).alloc (Z (G 25 (Y I 0)) 169);have B3:=(Blk.new (w.alloc (Z (lanesA s) 149)) 149 (G 25 (Y V 0))).alloc (Z (G 25 (Y I 0)) 169);have B5:=Blk.new ((w.alloc (Z (lanesA s) 149)).alloc (Z (G 25 (Y V 0)) 149)) 169 (G 25 (Y I 0));have M:=((Mod.alloc (S:=NoB) w (Z (lanesA s) 149)).step_alloc (Z (G 25 (Y V 0)) 149)).step_alloc (Z (G 25 (Y I 0)) 169);simp only[ZE]at B3 B5 ⊢;generalize((w.alloc (Z (lanesA s) 149)).alloc (Z (G 25 (Y V 0)) 149)).alloc (Z (G 25 (Y I 0)) 169)=w6 at *
 generalize hNe:w.heap.size=N at *
 refine⟨_,B5.storeAll (L:=G 25 (Y I 0)) (by rw[O];kernel_rfl) (by rw[O]) (by rw[Zm];exact Z3n (fun _=>rfl)),?_⟩
 replace B1:=B1.row_ne (g:=N+1+1) (c:=G 25 (Y I 0)) (by omega)
 replace B3:=B3.row_ne (g:=N+1+1) (c:=G 25 (Y I 0)) (by omega)
 replace B5:=B5.row_same (G 25 (Y I 0))
 replace M:=M.step_row (g:=N+1+1) (cs:=G 25 (Y I 0)) (fun h=>by omega)
 generalize w6.setRow (N+1+1) (G 25 (Y I 0))=w7 at *
 refine⟨fun n5 n6 n7 w'=>∃t:Nat,n7=t/\t<=24/\n5=((Z9j t).1:Nat)/\n6=((Z9j t).2:Nat)/\Vcg.Mod NoB w w'/\Blk w' N 149 (lanesA s)/\Blk w' (N+1) 149 (G 25 (Y V 0)) /\
  Blk w' (N+1+1) 169 (ZR 25 (fun i=>Y I (tarr t i:Int))),fun _ _ n _=>(24-n).toNat,⟨0,rfl,by omega,rfl,rfl,M,B1,B3,by rw[Zm]at B5;exact B5⟩,?_⟩
 clear M B1 B3 B5;rintro _ _ _ _ w4⟨t,rfl,ht,rfl,rfl,M,B1,B3,B5⟩;refine⟨fun hlt=>?_,fun hge=>?_⟩
 ·have hxy:=ZKy t (by omega)
  have ei:J I (((Z9j t).1:Int)+J I (5*((Z9j t).2:Int)))=(((Z9j t).1+5*(Z9j t).2:Nat):Int):=by
   simp(disch:=omega) only[Z0];omega
  rw[ei];refine⟨by omega,B5.canSet0 (by simp;omega) rfl,fun w5 h5=>?_⟩;rw[h5.at];refine⟨⟨t+1,by rw[Z0 (by omega) (by omega)];omega,by omega,rfl,?_,M.step_set (fun h=>by simp only[hNe]at h;omega),B1.set_ne (by simp;omega),B3.set_ne (by simp),?_⟩,?_⟩
  ·simp only[Z9j]
   simp(disch:=omega) only[Z2z,Z0];omega
  ·have:=B5.set ((Z9j t).1+5*(Z9j t).2) (Y I ((((t+1)*(t+2)/2%64:Nat)):Int))
   rw[Z0W]at this;rw[ZEy t (by omega)];refine(ZH (fun j hj=>?_)) ▸ this;rw[tarr];dsimp only;split<;>rfl
  ·dsimp only
   rw[Z0 (n:=(t:Int)+1) (by omega) (by omega)];omega
 obtain rfl:t=24:=by omega
 have e:(ZR 25 fun i=>Y I (tarr 24 i:Int))=turnA:=ZH (fun j hj=>by rw[ZEx j hj]);rw[e]at B5;clear e
 refine⟨fun n15 n16 w'=>∃r:Nat,n16=r/\r<=24/\n15=(regOf (7*r):Nat)/\Vcg.Mod NoB w w'/\Blk w' N 149 (lanesA (ZHG r s))/\Blk w' (N+1) 149 (G 25 (Y V 0)) /\
  Blk w' (N+1+1) 169 turnA,fun _ n _=>(24-n).toNat,⟨0,rfl,by omega,rfl,M,B1,B3,B5⟩,?_⟩
 clear M B1 B3 B5;rintro _ _ _ w1⟨r,rfl,hr,rfl,M,B1,B3,B5⟩;refine⟨fun hlt=>?_,fun hge=>?_⟩
 ·rintro d18 w19⟨rfl,rfl⟩
  have hq:N+1+1<w1.heap.size:=B5.lt;have B7:=Blk.new w1 181 #[(Y V 0),(Y V 0),(Y V 0),(Y V 0),(Y V 0)]
  replace B1:=B1.alloc (Z #[(Y V 0),(Y V 0),(Y V 0),(Y V 0),(Y V 0)] 181)
  replace B3:=B3.alloc (Z #[(Y V 0),(Y V 0),(Y V 0),(Y V 0),(Y V 0)] 181)
  replace B5:=B5.alloc (Z #[(Y V 0),(Y V 0),(Y V 0),(Y V 0),(Y V 0)] 181)
  replace M:=M.step_alloc (Z #[(Y V 0),(Y V 0),(Y V 0),(Y V 0),(Y V 0)] 181)
  generalize w1.alloc (Z #[(Y V 0),(Y V 0),(Y V 0),(Y V 0),(Y V 0)] 181)=w2 at *
  generalize w1.heap.size=Q at *
  generalize hs':ZHG r s=s' at *
  have e5:#[(Y V 0),(Y V 0),(Y V 0),(Y V 0),(Y V 0)]=ZR 5 (fun i=>uV (if i<0 then par s' i else 0)):=by rfl
  rw[e5]at B7;clear e5
  refine Z5P 5 (fun x w'=>Vcg.Mod NoB w w'/\Blk w' N 149 (lanesA s')/\Blk w' (N+1) 149 (G 25 (Y V 0))/\Blk w' (N+1+1) 169 turnA /\
   Blk w' Q 181 (ZR 5 (fun i=>uV (if i<x then par s' i else 0)))) rfl ⟨M,B1,B3,B5,B7⟩ ?_ ?_
  ·clear M B1 B3 B5 B7
   rintro x _ w3 hx⟨M,B1,B3,B5,B7⟩;rintro _ rfl;have e5:J I ((x:Int)+5)=((x+5:Nat):Int):=by rw[Z0 (by omega) (by omega)];omega
   have e10:J I ((x:Int)+10)=((x+10:Nat):Int):=by rw[Z0 (by omega) (by omega)];omega
   have e15:J I ((x:Int)+15)=((x+15:Nat):Int):=by rw[Z0 (by omega) (by omega)];omega
   have e20:J I ((x:Int)+20)=((x+20:Nat):Int):=by rw[Z0 (by omega) (by omega)];omega
   rw[e5,e10,e15,e20];clear e5 e10 e15 e20;refine⟨by omega,_,B1.drew.rd0 (ZZ _ (by omega)),by omega,_,B1.drew.rd0 (ZZ _ (by omega)),by omega,_,B1.drew.rd0 (ZZ _ (by omega)),by omega,_,B1.drew.rd0 (ZZ _ (by omega)),by omega,_,B1.drew.rd0 (ZZ _ (by omega)),by omega,B7.drew.canSet0 (by simp;omega) rfl,fun w4 h4=>?_⟩;rw[h4.at,Z0g,Z0g,Z0g,Z0g,<-ZKl];refine Z9k.next (by rw[Z0 (by omega) (by omega)];omega) hx ⟨(M.step_drew).step_set (fun h=>by simp only[hNe]at h;omega),B1.drew.set_ne (by simp;omega),B3.drew.set_ne (by simp;omega),B5.drew.set_ne (by simp;omega),?_⟩;have:=B7.drew.set x (uV (par s' x));rw[Z0W]at this;refine(ZH (fun j hj=>?_)) ▸ this
   grind
  clear M B1 B3 B5 B7;rintro _ w3⟨M,B1,B3,B5,B7⟩ d30 w31⟨rfl,rfl⟩;have hq2:Q<w3.heap.size:=B7.lt;have B8:=Blk.new w3 149 (G 25 (Y V 0))
  replace B1:=B1.alloc (Z (G 25 (Y V 0)) 149)
  replace B3:=B3.alloc (Z (G 25 (Y V 0)) 149)
  replace B5:=B5.alloc (Z (G 25 (Y V 0)) 149)
  replace B7:=B7.alloc (Z (G 25 (Y V 0)) 149)
  replace M:=M.step_alloc (Z (G 25 (Y V 0)) 149)
  have e7:ZR 5 (fun i=>uV (if i<5 then par s' i else 0))=ZR 5 (fun i=>uV (par s' i)):=ZH (fun i hi=>by rw[if_pos hi]);rw[e7]at B7;clear e7;generalize w3.alloc (Z (G 25 (Y V 0)) 149)=w4 at *
  generalize w3.heap.size=T at *
  refine Z5P 5 (fun x w'=>Vcg.Mod NoB w w'/\Blk w' N 149 (lanesA s')/\Blk w' (N+1) 149 (G 25 (Y V 0))/\Blk w' (N+1+1) 169 turnA /\
   Blk w' Q 181 (ZR 5 (fun i=>uV (par s' i)))/\Blk w' T 149 (ZR 25 (fun j=>uV (if(j%5+3*(j/5))%5<x then bbK s' j else 0)))) rfl
   ⟨M,B1,B3,B5,B7,by rw[Zm]at B8;simp only[J7,if_false];exact B8⟩ ?_ ?_
  ·clear M B1 B3 B5 B7 B8
   rintro x _ w5 hx⟨M,B1,B3,B5,B7,B8⟩
   refine Z5P 5 (fun k w'=>Vcg.Mod NoB w w'/\Blk w' N 149 (lanesA s')/\Blk w' (N+1) 149 (G 25 (Y V 0))/\Blk w' (N+1+1) 169 turnA /\
    Blk w' Q 181 (ZR 5 (fun i=>uV (par s' i)))/\Blk w' T 149 (ZR 25 (fun j=>uV (if(j%5+3*(j/5))%5<x\/(j%5+3*(j/5))%5=x/\j%5<k then bbK s' j else 0)))) rfl
    ⟨M,B1,B3,B5,B7,by simpa using B8⟩ ?_ ?_
   ·clear M B1 B3 B5 B7 B8
    rintro k _ w5 hk⟨M,B1,B3,B5,B7,B8⟩;rintro _ rfl;have c3:=ZJ6 x hx k hk;have a1:J I ((x:Int)+J I (5*(k:Int)))=((x+5*k:Nat):Int):=by simp(disch:=omega) only[Z0];omega
    have a2:JE (J I ((x:Int)+4)) 5=(((x+4)%5:Nat):Int):=by simp(disch:=omega) only[Z2z,Z0];omega
    have a3:JE (J I ((x:Int)+1)) 5=(((x+1)%5:Nat):Int):=by simp(disch:=omega) only[Z2z,Z0];omega
    have a4:J I ((k:Int)+J I (5*JE (J I (J I (2*(x:Int))+J I (3*(k:Int)))) 5))=((k%5+5*((2*x+3*k)%5):Nat):Int):=by
     simp(disch:=omega) only[Z2z,Z0];omega
    rw[a1,a2,a3,a4];clear a1 a2 a3 a4;have l1:(x+4)%5<5:=Jl _ (by decide);have l2:(x+1)%5<5:=Jl _ (by decide);refine⟨by omega,_,B1.drew.rd0 (ZZ _ (by omega)),by omega,_,B7.drew.rd0 (ZF l1),by omega,_,B7.drew.rd0 (ZF l2),ZAQ _ 1 rfl rfl (by omega) fun w6 M6 E6=>⟨_,rfl,(B7.drew.mod' M6).rd0 (ZF l1),(B1.drew.mod' M6).rd0 (ZZ _ (by omega)),by omega,_,(B5.drew.mod' M6).rd0 (ZF (by omega)),?_⟩⟩;rw[Z0g,Z0g];refine ZAQ _ (turnOf (x+5*k)) rfl rfl (ZCo _) fun w7 M7 E7=>⟨_,rfl,by omega,((B8.drew.mod' M6).mod' M7).canSet0 (by simp;omega) rfl,fun w8 h8=>?_⟩;rw[h8.at];refine Z9k.next (by rw[Z0 (by omega) (by omega)];omega) hk ⟨(((M.step_drew).none_trans M6).none_trans M7).step_set (fun h=>by simp only[hNe]at h;omega),((B1.drew.mod' M6).mod' M7).set_ne (by simp;omega),((B3.drew.mod' M6).mod' M7).set_ne (by simp;omega),((B5.drew.mod' M6).mod' M7).set_ne (by simp;omega),((B7.drew.mod' M6).mod' M7).set_ne (by simp;omega),?_⟩;have:=((B8.drew.mod' M6).mod' M7).set (k%5+5*((2*x+3*k)%5)) (uV ((s' (x+5*k)^^^par s' ((x+4)%5)^^^(par s' ((x+1)%5)).rotateLeft 1).rotateLeft (turnOf (x+5*k))));rw[Z0W]at this;refine(ZH (fun j hj=>?_)) ▸ this
    have e1:bbK s' (k%5+5*((2*x+3*k)%5))=(s' (x+5*k)^^^par s' ((x+4)%5)^^^(par s' ((x+1)%5)).rotateLeft 1).rotateLeft (turnOf (x+5*k)):=by
     rw[bbK,c3.2.1,c3.2.2,bbXY,ddK,Jr]
    have c4:=ZKT x hx k hk j hj;rw[<-e1];by_cases hj':j=k%5+5*((2*x+3*k)%5)
    ·rw[if_pos hj',if_pos (c4.2 (.inl hj')),hj']
    ·rw[if_neg hj']
     congr 2;simp only[c4,hj',false_or]
   ·rintro _ w6⟨M,B1,B3,B5,B7,B8⟩
    refine Z9k.next (by rw[Z0 (by omega) (by omega)];omega) hx ⟨M,B1,B3,B5,B7,?_⟩;refine(ZH (fun j hj=>?_)) ▸ B8;congr 2;have:j%5<5:=by omega
    simp only[this,and_true];have:(j%5+3*(j/5))%5<x+1↔(j%5+3*(j/5))%5<x\/(j%5+3*(j/5))%5=x:=by omega
    simp only[this]
  clear M B1 B3 B5 B7 B8;rintro _ w5⟨M,B1,B3,B5,_,B8⟩
  have e8:ZR 25 (fun j=>uV (if(j%5+3*(j/5))%5<5 then bbK s' j else 0))=lanesA (bbK s') :=
   ZH (fun j hj=>by rw[if_pos (by omega)])
  rw[e8]at B8;clear e8
  refine Z5P 5 (fun x w'=>Vcg.Mod NoB w w'/\Blk w' N 149 (ZR 25 (fun j=>uV (if j%5<x then Z6L (bbK s') j else s' j)))/\Blk w' (N+1) 149 (G 25 (Y V 0))/\Blk w' (N+1+1) 169 turnA /\
   Blk w' T 149 (lanesA (bbK s'))) rfl
   ⟨M,by simp only[J7,if_false];exact B1,B3,B5,B8⟩ ?_ ?_
  ·clear M B1 B3 B5 B8
   rintro x _ w6 hx⟨M,B1,B3,B5,B8⟩
   refine Z5P 5 (fun k w'=>Vcg.Mod NoB w w'/\Blk w' N 149 (ZR 25 (fun j=>uV (if j%5<x\/j%5=x/\j/5<k then Z6L (bbK s') j else s' j)))/\Blk w' (N+1) 149 (G 25 (Y V 0))/\Blk w' (N+1+1) 169 turnA /\
    Blk w' T 149 (lanesA (bbK s'))) rfl ⟨M,by simpa using B1,B3,B5,B8⟩ ?_ ?_
   ·clear M B1 B3 B5 B8
    rintro k _ w6 hk⟨M,B1,B3,B5,B8⟩;rintro _ rfl;have a1:J I ((x:Int)+J I (5*(k:Int)))=((x+5*k:Nat):Int):=by simp(disch:=omega) only[Z0];omega
    have a2:J I (JE (J I ((x:Int)+1)) 5+J I (5*(k:Int)))=(((x+1)%5+5*k:Nat):Int):=by
     simp(disch:=omega) only[Z2z,Z0];omega
    have a3:J I (JE (J I ((x:Int)+2)) 5+J I (5*(k:Int)))=(((x+2)%5+5*k:Nat):Int):=by
     simp(disch:=omega) only[Z2z,Z0];omega
    rw[a1,a2,a3];clear a1 a2 a3;refine⟨by omega,_,B8.drew.rd0 (ZZ _ (by omega)),by omega,_,B8.drew.rd0 (ZZ _ (by omega)),by omega,_,B8.drew.rd0 (ZZ _ (by omega)),by omega,B1.drew.canSet0 (by simp;omega) rfl,fun w7 h7=>?_⟩;rw[h7.at,ZBp,ZBo,Z0g];refine Z9k.next (by rw[Z0 (by omega) (by omega)];omega) hk ⟨(M.step_drew).step_set (fun h=>by simp only[hNe]at h;omega),?_,B3.drew.set_ne (by simp),B5.drew.set_ne (by simp;omega),B8.drew.set_ne (by simp;omega)⟩;have:=B1.drew.set (x+5*k) (uV (bbK s' (x+5*k)^^^(~~~ bbK s' ((x+1)%5+5*k)&&&bbK s' ((x+2)%5+5*k))));rw[Z0W]at this;refine(ZH (fun j hj=>?_)) ▸ this
    have e1:Z6L (bbK s') (x+5*k)=bbK s' (x+5*k)^^^(~~~ bbK s' ((x+1)%5+5*k)&&&bbK s' ((x+2)%5+5*k)):=by
     rw[Z6L,show(x+5*k)%5=x by omega,show(x+5*k)/5=k by omega]
    rw[<-e1];by_cases hj':j=x+5*k
    ·rw[if_pos hj',if_pos (by omega),hj']
    ·rw[if_neg hj']
     congr 2;have:(j%5<x\/j%5=x/\j/5<k+1)↔(j%5<x\/j%5=x/\j/5<k):=by omega
     simp only[this]
   ·rintro _ w7⟨M,B1,B3,B5,B8⟩
    refine Z9k.next (by rw[Z0 (by omega) (by omega)];omega) hx ⟨M,?_,B3,B5,B8⟩;refine(ZH (fun j hj=>?_)) ▸ B1;congr 2;have:j%5<x+1↔j%5<x\/j%5=x/\j/5<5:=by omega
    simp only[this]
  clear M B1 B3 B5 B8;rintro _ w6⟨M,B1,B3,B5,B8⟩
  have e9:ZR 25 (fun j=>uV (if j%5<5 then Z6L (bbK s') j else s' j))=ZR 25 (fun j=>uV (if j=0 then Z6L (bbK s') 0^^^Z5W r 0 else Z6L (bbK s') j)) :=
   ZH (fun j hj=>by rw[if_pos (by omega)];by_cases h0:j=0<;>simp[h0,Z5W])
  rw[e9]at B1;clear e9 B8
  refine⟨fun n62 n63 w'=>∃j:Nat,n63=j/\j<=7/\n62=(regOf (7*r+j):Nat)/\Vcg.Mod NoB w w'/\Blk w' N 149 (ZR 25 (fun i=>uV (if i=0 then Z6L (bbK s') 0^^^Z5W r j else Z6L (bbK s') i)))/\Blk w' (N+1) 149 (G 25 (Y V 0)) /\
   Blk w' (N+1+1) 169 turnA,fun _ n _=>(7-n).toNat,⟨0,rfl,by omega,rfl,M,B1,B3,B5⟩,?_⟩
  clear M B1 B3 B5;rintro _ _ _ w7⟨j,rfl,hj,rfl,M,B1,B3,B5⟩;refine⟨fun hlt'=>?_,fun hge'=>?_⟩
  ·have hreg:=ZJI (7*r+j) (by omega)
   have em:(7-J I ((j:Int)+1)).toNat<(7-(j:Int)).toNat:=by rw[Z0 (by omega) (by omega)];omega
   have ew:J I (2*(regOf (7*r+j):Int))=((regOf (7*r+j)*2:Nat):Int):=by rw[Z0 (by omega) (by omega)];omega
   have ej:J I ((j:Int)+1)=((j+1:Nat):Int):=by rw[Z0 (by omega) (by omega)];omega
   have g1:((regOf (7*r+j)*2:Nat):Int)>=256->bitsI .xor I (J I (((regOf (7*r+j)*2:Nat):Int)-256)) 113=(regOf (7*r+(j+1)):Int):=by
    intro h;rw[Z0 (by omega) (by omega)];have:=ZEp (7*r+j) (by omega) (by omega);refine Eq.trans ?_ this;congr 1;omega
   have g2:¬((regOf (7*r+j)*2:Nat):Int)>=256->((regOf (7*r+j)*2:Nat):Int)=(regOf (7*r+(j+1)):Int):=by
    intro h;rw[<-ZCd _ (by omega)];rfl
   rw[Z2z _ _ (by omega),ew,ZJH j (by omega)];refine⟨fun h1=>?_,fun h1=>?_⟩
   ·rintro _ rfl
    refine⟨_,B1.drew.rd1 (ZF (by omega)),by omega,by omega,B1.drew.canSet (by simp) rfl,?_⟩;rintro w8 rfl;rw[if_pos rfl];have e1:(1:Int)=uI (1:BitVec 64):=by decide
    have e2:bitsI .xor V (uI (Z6L (bbK s') 0^^^Z5W r j)) (shlI V 1 ((2^j-1:Nat):Int))=uI (Z6L (bbK s') 0^^^Z5W r (j+1)):=by
     rw[e1,ZAc,Z0g,Z5W,if_pos (by omega),Jr]
    rw[e2];have B1':=B1.drew.set 0 (uV (Z6L (bbK s') 0^^^Z5W r (j+1)));rw[Z0W]at B1'
    have e3:(ZR 25 fun i=>if i=0 then uV (Z6L (bbK s') 0^^^Z5W r (j+1))else uV (if i=0 then Z6L (bbK s') 0^^^Z5W r j else Z6L (bbK s') i))=ZR 25 (fun i=>uV (if i=0 then Z6L (bbK s') 0^^^Z5W r (j+1)else Z6L (bbK s') i)) :=
     ZH (fun i hi=>by by_cases h0:i=0<;>simp[h0])
    rw[e3]at B1';have M':Vcg.Mod NoB w (w7.drew.setCell ⟨N,0,C⟩ (uV (Z6L (bbK s') 0^^^Z5W r (j+1)))):=(M.step_drew).step_set (fun h=>by simp only[hNe]at h;omega);exact⟨fun h=>⟨⟨j+1,ej,by omega,g1 h,M',B1',B3.drew.set_ne (by simp),B5.drew.set_ne (by simp;omega)⟩,em⟩,fun h=>⟨⟨j+1,ej,by omega,g2 h,M',B1',B3.drew.set_ne (by simp),B5.drew.set_ne (by simp;omega)⟩,em⟩⟩
   ·have e2:Z5W r (j+1)=Z5W r j:=by
      rw[Z5W,if_neg (by omega)];simp
    rw[<-e2]at B1;exact⟨fun h=>⟨⟨j+1,ej,by omega,g1 h,M,B1,B3,B5⟩,em⟩,fun h=>⟨⟨j+1,ej,by omega,g2 h,M,B1,B3,B5⟩,em⟩⟩
  ·obtain rfl:j=7:=by omega
   refine⟨⟨r+1,by rw[Z0 (by omega) (by omega)];omega,by omega,rfl,M,?_,B3,B5⟩,by rw[Z0 (by omega) (by omega)];dsimp only;omega⟩
   have e:ZR 25 (fun i=>uV (if i=0 then Z6L (bbK s') 0^^^Z5W r 7 else Z6L (bbK s') i))=lanesA (ZHG (r+1) s) :=
    ZH (fun i hi=>by rw[ZH9 r (by omega),ZHG,hs',rnd])
   exact e ▸ B1
 ·obtain rfl:r=24:=by omega
  exact⟨_,B1.rowAll (ZM _),_,B3.storeAll (L:=lanesA (Z7i s)) (by rw[ZM];kernel_rfl) (by rw[ZM,O]) (Z28 _),_,
   (B3.row_same _).rowAll (ZM _),rfl,M.step_row (fun h=>by omega)⟩
end Go.Proofs.YtfghidehlnfdiaaGreat
end
section
namespace Go.Vcg
abbrev bV(b:UInt8):Value:=Y Jn (b.toNat:Int)
def RdB(w:K)(o:Option Addr)(bs:List UInt8):Prop :=
 bs≠[]->∃b f,o=J2 ⟨b,f,C⟩/\b<w.heap.size/\∀i,i<bs.length->w.cell? ⟨b,f+i,C⟩=J2 (bV (bs.getD i 0))
def Off(S:Nat->Prop)(o:Option Addr):Prop:=∀d,o=J2 d->¬S d.block
theorem RdB.nil(w:K)(o:Option Addr):RdB w o []:=fun h=>(h rfl).elim
theorem RdB.mod{S:Nat->Prop}{w w':K}{o:Option Addr}{bs:List UInt8}(h:RdB w o bs)(m:Mod S w w')(hs:Off S o):RdB w' o bs:=by
 intro hb;obtain⟨b,f,rfl,hl,hc⟩:=h hb;exact⟨b,f,rfl,JQ hl m.size,fun i hi=>(JK (m.block b hl (hs _ rfl))).trans (hc i hi)⟩
theorem RdB.mod'{w w':K}{o:Option Addr}{bs:List UInt8}(h:RdB w o bs)(m:Mod NoB w w'):RdB w' o bs:=h.mod m (fun _ _ h=>h)
theorem RdB.sub{w:K}{o:Option Addr}{bs:List UInt8}{c lo n:Nat}(h:RdB w o bs)(hl:bs.length<=c):RdB w (subO o c lo 1) ((bs.drop lo).take n):=by
 intro hne
 have h1:lo<bs.length:=by
  rcases Nat.lt_or_ge lo bs.length with h|h
  ·exact h
  ·rw[List.drop_eq_nil_of_le h]at hne;simp at hne
 have hb:bs≠[]:=by intro e;rw[e]at h1;simp at h1
 obtain⟨b,f,rfl,hlt,hc⟩:=h hb;refine⟨b,f+lo,?_,hlt,fun i hi=>?_⟩
 ·rw[subO,if_neg (by omega)];simp
 ·rw[JB,H]at hi
  rw[Ji,hc (lo+i) (by omega)];congr 2;simp only[X];rw[JV (by omega),Jj]
theorem RdB.take{w:K}{o:Option Addr}{bs:List UInt8}(h:RdB w o bs)(n:Nat):RdB w o (bs.take n):=by
 intro hne;have hb:bs≠[]:=by intro e;rw[e]at hne;simp at hne
 obtain⟨b,f,rfl,hlt,hc⟩:=h hb;refine⟨b,f,rfl,hlt,fun i hi=>?_⟩;rw[JB]at hi;rw[hc i (by omega)];simp only[X];rw[JV (by omega)]
theorem RdB.get{w:K}{o:Option Addr}{bs:List UInt8}(h:RdB w o bs){i:Nat}(hi:i<bs.length) :
  ∃d,o=J2 d/\w.cell? (Addr.add d (JX (i:Int)))=J2 (bV (bs.getD i 0)):=by
 obtain⟨b,f,rfl,hlt,hc⟩:=h (by intro e;rw[e]at hi;simp at hi);exact⟨_,rfl,by rw[U,Z3];exact hc i hi⟩
theorem RdB.of_blk{w:K}{b f:Nat}{t:A}{cs:Array Value}{bs:List UInt8}(h:Blk w b t cs)(hc:∀i,i<bs.length->cs[f+i]?=J2 (bV (bs.getD i 0))):RdB w (J2 ⟨b,f,C⟩) bs :=
 fun _=>⟨b,f,rfl,h.lt,fun i hi=>by rw[h.cell,hc i hi]⟩
def Z7X(b:UInt8):BitVec 64:=b.toBitVec.setWidth 64
theorem ZEz(b:UInt8):uI (Z7X b)=(b.toNat:Int):=by
 simp only[uI,Z7X,Jd,UInt8.toNat_toBitVec];have:=b.toNat_lt;omega
def leK(bs:List UInt8):Nat->BitVec 64
 |0=>0
 |k+1=>leK bs k|||(Z7X (bs.getD k 0)<<<(8*k))
def ZEX(bs:List UInt8):BitVec 64:=leK bs bs.length
def ZAO(x:BitVec 64)(i:Nat):UInt8:=UInt8.ofBitVec ((x>>>(8*i)).setWidth 8)
def leL(x:BitVec 64)(k:Nat):List UInt8:=(J3 k).map (ZAO x)
theorem Z4R(x:BitVec 64)(k:Nat):(leL x k).length=k:=by simp[leL]
theorem ZIJ(x:BitVec 64)(k:Nat):leL x (k+1)=leL x k++[ZAO x k]:=by simp[leL,List.range_succ]
theorem ZE1(n:Int):J Jn n=n%256:=by simp[J,JH,Ju]
theorem Z8N(y:BitVec 64):J Jn (uI y)=((UInt8.ofBitVec (y.setWidth 8)).toNat:Int):=by
 rw[ZE1];show(y.toNat:Int)%256=((y.setWidth 8).toNat:Int);rw[Jd];omega
theorem Z6H(a b:UInt8):bitsI .or Jn (a.toNat:Int) (b.toNat:Int)=((a|||b).toNat:Int):=by
 have h:∀x:UInt8,Q0 8 (x.toNat:Int)=x.toBitVec:=by
  intro x;apply JI;have:=x.toNat_lt;simp
 simp only[bitsI,JH,h,ZE1];show(((a.toBitVec|||b.toBitVec:BitVec 8).toNat:Nat):Int)%256=(((a|||b).toBitVec).toNat:Int);rw[UInt8.toBitVec_or];have:=(a.toBitVec|||b.toBitVec:BitVec 8).isLt;omega
def ZFl(s:St)(blk:List UInt8):St:=fun i=>if i<17 then s i^^^ZEX ((blk.drop (8*i)).take 8)else s i
def Z8r(s:St)(blk:List UInt8):St:=Z7i (ZFl s blk)
def ZD0(s:St)(bs:List UInt8):Nat->St
 |0=>s
 |k+1=>Z8r (ZD0 s bs k) ((bs.drop (136*k)).take 136)
def ZHt:St:=fun _=>0
def ZFs(m:List UInt8):St:=ZD0 ZHt m (m.length/136)
def restOf(m:List UInt8):List UInt8:=m.drop (136*(m.length/136))
def ZFY(r:List UInt8)(i:Nat):UInt8:=(if i<r.length then r.getD i 0 else if i=r.length then 1 else 0)|||(if i=135 then 128 else 0)
def ZGz(r:List UInt8):List UInt8:=(J3 136).map (ZFY r)
def Z61(m:List UInt8):St:=Z8r (ZFs m) (ZGz (restOf m))
def Z5U(s:St)(i:Nat):UInt8:=UInt8.ofBitVec ((s (i/8)>>>(8*(i%8))).setWidth 8)
def sumOf(m:List UInt8):List UInt8:=(J3 32).map (Z5U (Z61 m))
def hashA(h:List UInt8):Array Value:=ZR 32 (fun i=>bV (h.getD i 0))
theorem ZEF(s:St)(bs:List UInt8)(q:Nat):∀k,ZD0 s bs (q+k)=ZD0 (ZD0 s bs q) (bs.drop (136*q)) k
 |0=>rfl
 |k+1=>by
  rw[<-Ji,ZD0,ZEF s bs q k,ZD0,Jv];congr 4;omega
theorem Z94(s:St)(m b:List UInt8):∀k,136*k<=m.length->ZD0 s (m++b) k=ZD0 s m k
 |0,_=>rfl
 |k+1,h=>by
  rw[ZD0,Z94 s m b k (by omega),ZD0];congr 1;rw[JL (by omega),List.take_append_of_le_length (by rw[H];omega)]
theorem Z6v(m:List UInt8):(restOf m).length=m.length%136:=by
 rw[restOf,H];omega
theorem ZCg(m:List UInt8):(restOf m).length<136:=by rw[Z6v];omega
theorem Z9U(m b:List UInt8):restOf m++b=(m++b).drop (136*(m.length/136)):=by
 rw[restOf,JL (by omega)]
theorem ZDm(m b:List UInt8):ZFs (m++b)=ZD0 (ZFs m) (restOf m++b) ((restOf m++b).length/136):=by
 rw[Z9U,ZFs,ZFs]
 have h1:(m++b).length/136=m.length/136+((m++b).drop (136*(m.length/136))).length/136:=by
  rw[H,J4];omega
 rw[h1,ZEF,Z94 _ _ _ _ (by omega)]
theorem ZBJ(m b:List UInt8):restOf (m++b)=(restOf m++b).drop (136*((restOf m++b).length/136)):=by
 rw[Z9U,restOf,Jv];congr 1;rw[H,J4];omega
theorem ZO(m:List UInt8):(sumOf m).length=32:=by simp[sumOf]
theorem Z6R(r:List UInt8):(ZGz r).length=136:=by simp[ZGz]
theorem ZGS(r:List UInt8){i:Nat}(h:i<136):(ZGz r).getD i 0=ZFY r i:=by simp[ZGz,X,h]
theorem ZAI(m:List UInt8){i:Nat}(h:i<32):(sumOf m).getD i 0=Z5U (Z61 m) i:=by simp[sumOf,X,h]
def Own(w:K)(e:A)(sz:Nat)(o:Option Addr)(l c:Nat)(xs:List Value):Prop :=
 xs.length=l*sz/\((o=C/\l=0/\c=0) \/
  ∃g cur,o=J2 ⟨g,0,C⟩/\Blk w g e cur/\l<=c/\c<=Jw/\cur.size=c*sz/\cur.toList.take (l*sz)=xs)
def OB(o:Option Addr):Nat->Prop:=fun k=>∃d,o=J2 d/\d.block=k
theorem Z4j(k:Nat):¬OB C k:=by rintro⟨d,h,_⟩;cases h
theorem Own.nil(w:K)(e:A)(sz:Nat):Own w e sz C 0 0 []:=⟨by simp,.inl ⟨rfl,rfl,rfl⟩⟩
theorem Own.mod{S:Nat->Prop}{w w':K}{e:A}{sz:Nat}{o:Option Addr}{l c:Nat}{xs:List Value}(h:Own w e sz o l c xs)(m:Mod S w w')(hs:∀k,OB o k->¬S k):Own w' e sz o l c xs:=by
 refine⟨h.1,?_⟩;rcases h.2 with hn|⟨g,cur,rfl,hb,rest⟩
 ·exact .inl hn
 ·exact .inr ⟨g,cur,rfl,hb.mod m (hs g ⟨_,rfl,rfl⟩),rest⟩
theorem Own.mod'{w w':K}{e:A}{sz:Nat}{o:Option Addr}{l c:Nat}{xs:List Value}(h:Own w e sz o l c xs)(m:Mod NoB w w'):Own w' e sz o l c xs:=h.mod m (fun _ _ h=>h)
theorem Own.lt{w:K}{e:A}{sz:Nat}{o:Option Addr}{l c:Nat}{xs:List Value}(h:Own w e sz o l c xs){k:Nat}(hk:OB o k):k<w.heap.size:=by
 obtain⟨d,rfl,rfl⟩:=hk;rcases h.2 with⟨h,_⟩|⟨g,cur,h,hb,rest⟩
 ·cases h
 ·cases h;exact hb.lt
theorem Own.len{w:K}{e:A}{o:Option Addr}{l c:Nat}{xs:List Value}(h:Own w e 1 o l c xs):xs.length=l:=by have:=h.1;omega
theorem Own.cap{w:K}{e:A}{sz:Nat}{o:Option Addr}{l c:Nat}{xs:List Value}(h:Own w e sz o l c xs):l<=c/\c<=Jw:=by
 rcases h.2 with⟨_,rfl,rfl⟩|⟨g,cur,_,_,h1,h2,_⟩
 ·exact⟨JU _,Nat.zero_le _⟩
 ·exact⟨h1,h2⟩
theorem Own.cell{w:K}{e:A}{sz:Nat}{o:Option Addr}{l c:Nat}{xs:List Value}(h:Own w e sz o l c xs){i:Nat}{v:Value}(hv:xs[i]?=J2 v) :
  ∃g,o=J2 ⟨g,0,C⟩/\w.cell? ⟨g,i,C⟩=J2 v:=by
 rcases h.2 with⟨_,rfl,_⟩|⟨g,cur,ho,hb,_,_,hs,ht⟩
 ·have:=h.1;simp at this;subst this;simp at hv
 ·refine⟨g,ho,?_⟩
  rw[hb.cell];rw[<-ht,J5]at hv;split at hv
  ·simpa using hv
  ·cases hv
theorem Own.bytes{w:K}{e:A}{o:Option Addr}{l c:Nat}{bs:List UInt8}(h:Own w e 1 o l c (bs.map bV)):RdB w o bs:=by
 intro hne;have hl:0<bs.length:=by cases bs<;>simp_all
 obtain⟨g,rfl,_⟩:=h.cell (i:=0) (v:=bV (bs.getD 0 0)) (by rw[D];simp[X,hl]);refine⟨g,0,rfl,?_,fun i hi=>?_⟩
 ·exact h.lt ⟨_,rfl,rfl⟩
 ·obtain⟨g',hg,hc⟩:=h.cell (i:=i) (v:=bV (bs.getD i 0)) (by rw[D];simp[X,hi])
  cases hg;rw[J0];exact hc
theorem Z7G{P:Program}{w:K}{tx e':A}(hk:P.underlying tx=J2 (.slice e')){o:Option Addr}{c:Nat}{bs:List UInt8}(h:RdB w o bs) :
  Src P 1 tx (.slice o bs.length c) bs.length (bs.map bV) w:=by
 by_cases hb:bs=[]
 ·subst hb
  cases o with
  |none=>exact Src.ofNil w hk c
  |some a=>exact Src.ofSlice w hk a 0 c [] (by simp) (by simp) (by simp)
 ·obtain⟨b,f,rfl,hl,hc⟩:=h hb
  refine Src.ofSlice w hk _ _ c _ (by simp) (fun j u hu=>?_) (by simp;intro a _;rfl);rw[Z3];rw[D,Jb]at hu;obtain⟨x,hx,rfl⟩:=hu;obtain⟨hj,rfl⟩:=List.getElem?_eq_some_iff.1 hx;rw[hc j hj];simp[X,hj]
theorem Z52{P:Program}{w:K}{tx e':A}(hk:P.underlying tx=J2 (.slice e')){b:Nat}{t:A}{cs:Array Value}{sz:Nat}(h:Blk w b t cs)(hs:cs.size=sz)(h1:∀v∈cs.toList,v.oneCell'=true) :
  Src P sz tx (.slice (J2 ⟨b,0,C⟩) 1 1) 1 cs.toList w :=
 Src.ofSlice w hk _ 1 1 _ (by simp[hs]) (fun j u hu=>by rw[Z3,h.cell,J0];simpa using hu) h1
theorem Z86(w:K)(g:Nat):∀(vs:List Value) (o:Nat),Mod (·=g) w (w.setCells g o vs)
 |[],_=>Mod.refl w
 |v::vs,o=>by
  have h1:=Mod.setCell w ⟨g,o,C⟩ v
  suffices ∀w1:K,Mod (·=g) w w1->∀(vs:List Value)(o:Nat),Mod (·=g) w (w1.setCells g o vs)from this _ h1 vs (o+1)
  intro w1 h1 vs
  induction vs generalizing w1 with
  |nil=>intro _;exact h1
  |cons v vs ih=>exact fun o=>ih _ (h1.trans (Mod.setCell _ _ _) (fun _ _ h=>h)) _
theorem Z5D{g:Nat}{t:A}:∀(vs:List Value) (o:Nat) {cs:Array Value} {w:K},Blk w g t cs->Blk (w.setCells g o vs) g t (setsAt cs o vs)
 |[],_,_,_,h=>h
 |v::vs,o,cs,w,h=>by
  rw[World.setCells,setsAt];exact Z5D vs (o+1) (h.set o v)
theorem Zi:∀(vs:List Value) (o:Nat) (cs:Array Value),(setsAt cs o vs).size=cs.size
 |[],_,_=>rfl
 |v::vs,o,cs=>by rw[setsAt,Zi vs];simp
theorem Zn:∀(vs:List Value) (o:Nat) (cs:Array Value) (i:Nat),o+vs.length<=cs.size->(setsAt cs o vs)[i]?=if o<=i/\i<o+vs.length then vs[i-o]? else cs[i]?
 |[],o,cs,i,h=>by rw[setsAt,if_neg (by simp)]
 |v::vs,o,cs,i,h=>by
  rw[List.length_cons]at h;rw[setsAt,Zn vs (o+1) _ i (by simp;omega),Array.getElem?_setIfInBounds];by_cases h1:i=o
  ·subst h1
   rw[if_neg (by omega),if_pos rfl,if_pos (by omega),if_pos (by simp)];simp
  ·by_cases h2:o+1<=i/\i<o+1+vs.length
   ·rw[if_pos h2,if_pos (by simp;omega),show i-o=(i-(o+1))+1 by omega]
    simp
   ·rw[if_neg h2,if_neg (by omega),if_neg (by simp;omega)]
theorem Z3Y{P:Program}{w:K}{t tx ty e:A}{i:TypeInfo}{z:Value}{sz:Nat}{o:Option Addr}{l c:Nat}{xs:List Value}{x:Value}{n:Nat}{news:List Value}
  (ht:P.underlying t=J2 (.slice e)) (hi:P.info? e=J2 i) (hz:i.zero=J2 z) (hs:i.size=sz) (hzs:z.cells.size=sz)
  (h:Own w e sz o l c xs) (src:Src P sz tx x n news w) (h63:l+n<=Jw) (hb:(l+n)*i.bytes<=140737488355328) :
  ∃o' c' w',Jf P (builtinV .append #[t,tx] ty #[.slice o l c,x]) w=.ok (.slice o' (l+n) c') w'/\Own w' e sz o' (l+n) c' (xs++news)/\Mod (OB o) w w' /\
   (∀k,OB o' k->OB o k\/w.heap.size<=k):=by
 have hlen:(xs++news).length=(l+n)*sz:=by rw[J4,h.1,src.newsLen,Je]
 by_cases hroom:l+n<=c
 ·rcases h.2 with⟨rfl,rfl,rfl⟩|⟨g,cur,rfl,hB,hlc,hcm,hcs,htk⟩
  ·obtain rfl:n=0:=by omega
   have hn:news=[]:=J1 (by simpa using src.newsLen);have hx:xs=[]:=J1 (by simpa using h.1);subst hn hx;refine⟨C,0,w,?_,Own.nil _ _ _,Mod.refl w,fun k hk=>.inl hk⟩;have hc:=src.cells;subst hs;rcases src.kind with⟨e',hk⟩|hk<;>simp[builtinV,Builtin.append_,run_underlying ht,run_underlying hk,sizeOf,Q3,hi,src.len,hc]
  ·subst hs
   have hfit:l*i.size+news.length<=cur.size:=by rw[src.newsLen,hcs,<-Je];exact Nat.mul_le_mul_right _ hroom
   have hr:=run_append_room_src (P:=P) w t tx ty e i ht hi g 0 l c x n news src hroom
    (fun j hj=>by rw[J0,hB.cell];simp;omega) (fun j hj=>by simp[Jx,show w.heap[g]?=_ from hB])
   rw[J0]at hr;refine⟨_,_,_,hr,⟨hlen,.inr ⟨g,_,rfl,Z5D news _ hB,hroom,hcm,by rw[Zi,hcs],?_⟩⟩,(Z86 w g news _).mono (fun k _ hk=>⟨_,rfl,hk.symm⟩),fun k hk=>.inl hk⟩;apply JT;intro j;rw[J5];have hxl:xs.length=l*i.size:=h.1;by_cases hj:j<(l+n)*i.size
   ·rw[if_pos hj,J8,Zn _ _ _ _ hfit]
    by_cases hj2:j<l*i.size
    ·rw[if_neg (by omega),JC (by omega),<-htk,J5,if_pos hj2,J8]
    ·rw[if_pos (by rw[src.newsLen,<-Je];omega),JA (by omega),hxl]
   ·rw[if_neg hj,J9 (by omega)]
 ·have hold:(JG i.size l (.slice o l c)).run P w.drew=.ok xs.toArray w.drew:=by
    subst hs;rcases h.2 with⟨rfl,rfl,rfl⟩|⟨g,cur,rfl,hB,hlc,hcm,hcs,htk⟩
    ·have hx:xs=[]:=J1 (by simpa using h.1)
     subst hx;exact Jg w.drew i.size 0 0 0
    ·exact JO w.drew i.size l _ l c xs h.1 (fun j v hv=>by
      rw[Z3,J0];obtain⟨g',hg',hc'⟩:=h.cell hv;cases hg';exact hc')
  have hr:=run_append_grow_src (P:=P) w t tx ty e i z ht hi hz o l c xs hold x n news (hs ▸ src) (by omega) (by simp only[Jw]at h63;omega) (growslice_fits (by omega) hb);have hge:=grownCap_ge w (l+n) c e;have hcm:grownCap w (l+n) c e<=Jw:=grownCap_le_maxLen w (l+n) c e h63;refine⟨_,_,_,hr,⟨hlen,.inr ⟨_,_,rfl,Blk.new w.drew e _,hge,hcm,?_,?_⟩⟩,((Mod.drew w).step_alloc _),fun k hk=>.inr ?_⟩
  ·rw[Array.size_append,List.size_toArray,hlen,size_zeroCells,hzs,<-Je]
   congr 1;omega
  ·rw[Array.toList_append]
   show Jo _ ((xs++news)++_)=_;rw[<-hlen];exact List.take_left
  ·obtain⟨d,hd,rfl⟩:=hk
   cases hd;exact JU _
theorem Z5m{P:Program}{w:K}{t tx ty e:A}{g o dLen dCap c n:Nat}{cur:Array Value}{te:A}{o2:Option Addr}{bs:List UInt8}
  (ht:P.underlying t=J2 (.slice e)) (hi:(P.info? e).map (·.size)=J2 1) (h:Blk w g te cur) (hr:RdB w o2 bs) (hn:n=Q4 bs.length dLen) (hfit:o+n<=cur.size) :
  ∃w',Jf P (builtinV .copy #[t,tx] ty #[.slice (J2 ⟨g,o,C⟩) dLen dCap,.slice o2 bs.length c]) w=.ok (Y I (n:Int)) w'/\Blk w' g te (setsAt cur o ((bs.take n).map bV))/\Mod (·=g) w w':=by
 obtain⟨i,hi1,hi2⟩:=Option.map_eq_some_iff.1 hi
 have hlen:((bs.take n).map bV).length=n:=by
  rw[JM,JB];have:n<=bs.length:=by rw[hn];exact Nat.min_le_left _ _
  omega
 have hone:∀v∈(bs.take n).map bV,v.oneCell'=true:=by
  intro v hv;obtain⟨x,_,rfl⟩:=List.mem_map.1 hv;rfl
 have hcells:(JG 1 n (.slice o2 bs.length c)).run P w=.ok ((bs.take n).map bV).toArray w:=by
  have h1:=hr.take n;by_cases hb:bs.take n=[]
  ·have h0:n=0:=by rw[<-hlen,hb];rfl
   rw[hb,h0];cases o2 with
   |none=>exact Jg w 1 0 _ _
   |some a=>exact JO w 1 0 a _ _ [] (by simp) (by simp)
  ·obtain⟨b,f,rfl,hl,hc⟩:=h1 hb
   refine JO w 1 n _ _ _ _ (by rw[hlen];omega) (fun j u hu=>?_);rw[Z3];rw[D,Jb]at hu;obtain⟨x,hx,rfl⟩:=hu;obtain⟨hj,rfl⟩:=List.getElem?_eq_some_iff.1 hx;rw[hc j hj];simp only[X,hx,Option.getD_some]
 have hst:=run_storeCells_cells (P:=P) g o ((bs.take n).map bV) 0 w
  (fun j hj=>by rw[h.cell];simp;omega) (fun j hj=>by simp[Jx,show w.heap[g]?=_ from h]) hone
 simp only[Nat.add_zero]at hst;refine⟨w.setCells g o ((bs.take n).map bV),?_,Z5D _ _ h,Z86 _ _ _ _⟩;have hm:(JG 1 (Q4 bs.length dLen) (.slice o2 bs.length c)).run P w=.ok ((bs.take n).map bV).toArray w:=hn ▸ hcells;clear hcells hone hr;subst hn;generalize(bs.take (Q4 bs.length dLen)).map bV=L at *
 simp only[Jy,builtinV];simp[run_underlying ht,Jz,sizeOf,Q3,hi1,hi2,hm,hst,goInt]
theorem ZGE{P:Program}{w:K}{t tx ty e:A}{o:Option Addr}{l c lo:Nat}{bs:List UInt8}
  (ht:P.underlying t=J2 (.slice e)) (hi:(P.info? e).map (·.size)=J2 1) (h:Own w e 1 o l c (bs.map bV)) (hlo:lo<=l) :
  ∃w',Jf P (builtinV .copy #[t,tx] ty #[.slice o l c,.slice (subO o c lo 1) (l-lo) (c-lo)]) w=.ok (Y I ((l-lo:Nat):Int)) w'/\Own w' e 1 o (l-lo) c ((bs.drop lo).map bV)/\Mod (OB o) w w':=by
 have hl:bs.length=l:=by have:=h.len;simpa using this
 have hr:=h.bytes
 have hr':RdB w (subO o c lo 1) (bs.drop lo):=by
  have:=hr.sub (c:=c) (lo:=lo) (n:=bs.length) (by rw[hl];exact h.cap.1)
  rwa[J6 (by simp)]at this
 rcases h.2 with⟨rfl,rfl,rfl⟩|⟨g,cur,rfl,hB,hlc,hcm,hcs,htk⟩
 ·obtain rfl:lo=0:=by omega
  have:bs=[]:=J1 hl;subst this;refine⟨w,?_,Own.nil _ _ _,Mod.refl w⟩;obtain⟨i,hi1,hi2⟩:=Option.map_eq_some_iff.1 hi;simp[builtinV,Jy,run_underlying ht,Jz,sizeOf,Q3,hi1,JG,subO,goInt]
 ·obtain⟨w',h1,h2,h3⟩:=Z5m (P:=P) (ty:=ty) (tx:=tx) (dLen:=l) (dCap:=c) (n:=l-lo) (o:=0) (c:=c-lo) ht hi hB hr' (by rw[H,hl];exact(JF (by omega)).symm) (by omega)
  rw[H,hl]at h1;have hdl:(bs.drop lo).length=l-lo:=by rw[H,hl]
  rw[J6 (by omega)]at h2;have hml:((bs.drop lo).map bV).length=l-lo:=by rw[JM,hdl]
  refine⟨w',h1,⟨by rw[hml,Js],.inr ⟨g,_,rfl,h2,by omega,hcm,by rw[Zi,hcs],?_⟩⟩,h3.mono (fun k _ hk=>⟨_,rfl,hk.symm⟩)⟩;apply JT;intro j;rw[J5,Js];by_cases hj:j<l-lo
  ·rw[if_pos hj,J8,Zn _ _ _ _ (by omega),if_pos (by omega),Q2]
  ·rw[if_neg hj,J9 (by omega)]
theorem Z8J(n o:Nat)(f g:Nat->Value)(m:Nat)(vs:List Value)(hm:vs.length=m)(hg:∀i,i<m->vs[i]?=J2 (g i))(h:o+m<=n) :
  setsAt (ZR n f) o vs=ZR n (fun i=>if o<=i/\i<o+m then g (i-o)else f i):=by
 subst hm;refine ZAx (by rw[Zi,Z03]) (fun i hi=>?_);rw[Zn _ _ _ _ (by simpa using h)];by_cases h1:o<=i/\i<o+vs.length
 ·rw[if_pos h1,if_pos h1,hg _ (by omega)]
 ·rw[if_neg h1,if_neg h1,ZF hi]
theorem Z5o{bs:List UInt8}{i:Nat}(h:i<bs.length):(bs.map bV)[i]?=J2 (bV (bs.getD i 0)):=by
 rw[D,JW h];simp[X,h]
def ZFn(w:K)(o:Option Addr)(ls:List (List UInt8)):Prop :=
 ∀i,i<ls.length->∃b f oi ci,o=J2 ⟨b,f,C⟩/\b<w.heap.size/\w.cell? ⟨b,f+i,C⟩=J2 (.slice oi (ls.getD i []).length ci)/\RdB w oi (ls.getD i [])
theorem ZFn.mod'{w w':K}{o:Option Addr}{ls:List (List UInt8)}(h:ZFn w o ls)(m:Mod NoB w w'):ZFn w' o ls:=by
 intro i hi;obtain⟨b,f,oi,ci,rfl,hl,hc,hr⟩:=h i hi;exact⟨b,f,oi,ci,rfl,JQ hl m.size,(JK (m.block b hl (fun h=>h))).trans hc,hr.mod' m⟩
theorem ZFn.one{w:K}{b:Nat}{t:A}{o:Option Addr}{c:Nat}{bs:List UInt8}(h:Blk w b t #[.slice o bs.length c])(hr:RdB w o bs):ZFn w (J2 ⟨b,0,C⟩) [bs]:=by
 intro i hi;obtain rfl:i=0:=by simpa using hi
 exact⟨b,0,o,c,rfl,h.lt,by rw[h.cell];rfl,hr⟩
theorem Z7f(ls:List (List UInt8))(i:Nat)(h:i<ls.length):(ls.take (i+1)).flatten=(ls.take i).flatten++ls.getD i []:=by
 rw[List.take_add_one,List.flatten_append,JW h];simp[X,h]
end Go.Vcg
end
section
namespace Go.Proofs.YtfghidehlnfdiaaGreat
open Go Go.Vcg
theorem Z9p{R:Q1->K->Prop}{w:K}{o:Option Addr}{l c:Nat}(bs:List UInt8)(hl:l=bs.length)(h8:bs.length<=8)(hr:RdB w o bs)
  (h:R (F (uV (ZEX bs))) w):JN W Z1f.n #[.slice o l c] w R:=by
 subst hl;refine Z1f.vc _ _ _ _ _ ?_;unfold Z1f.Vc;refine⟨fun n2 n3 w'=>∃i:Nat,n3=i/\i<=bs.length/\n2=uI (leK bs i)/\w'=w,fun _ n _=>((bs.length:Int)-n).toNat,⟨0,rfl,by omega,rfl,rfl⟩,?_⟩;rintro _ _ _ _⟨i,rfl,hi,rfl,rfl⟩;refine⟨fun hlt=>?_,fun hge=>?_⟩
 ·obtain⟨d,rfl,hd⟩:=hr.get (i:=i) (by omega)
  refine⟨d,rfl,by omega,_,hd,?_⟩;have e1:J I (8*(i:Int))=((8*i:Nat):Int):=by rw[Z0 (by omega) (by omega)];omega
  have e2:J V ((bs.getD i 0).toNat:Int)=uI (Z7X (bs.getD i 0)):=by rw[<-ZEz,Z9i]
  rw[e1,e2,ZAc,Z6i];exact⟨by omega,⟨i+1,by rw[Z0 (by omega) (by omega)];omega,by omega,rfl,rfl⟩,by rw[Z0 (by omega) (by omega)];dsimp only;omega⟩
 ·obtain rfl:i=bs.length:=by omega
  exact h
theorem Z5B{w:K}(s:St)(b o:Nat)(hp:Z63 w b o){o2:Option Addr}{l2 c2:Nat}(blk:List UInt8)(hl:blk.length=136)(hl2:l2=136)(hc:136<=c2)(hr:RdB w o2 blk) :
  JN W Z0G.n #[JZ (lanesA s),JR (J2 ⟨b,o,C⟩),.slice o2 l2 c2] w
   (fun e w'=>e=F (JZ (lanesA (Z8r s blk)))/\Vcg.Mod NoB w w'):=by
 subst hl2;refine Z0G.vc _ _ _ _ _ _ _ ?_;unfold Z0G.Vc;rintro d3 w4⟨rfl,rfl⟩ d5 w6⟨rfl,rfl⟩;have B2:=(Blk.new w 173 (lanesA s)).alloc (Z (G 25 (Y V 0)) 173);have B4:=Blk.new (w.alloc (Z (lanesA s) 173)) 173 (G 25 (Y V 0));have M:=(Mod.alloc (S:=NoB) w (Z (lanesA s) 173)).step_alloc (Z (G 25 (Y V 0)) 173);simp only[ZE]at B4 ⊢;generalize(w.alloc (Z (lanesA s) 173)).alloc (Z (G 25 (Y V 0)) 173)=w5 at *
 generalize hNe:w.heap.size=N at *
 refine Z5P 17 (fun n w'=>Vcg.Mod NoB w w'/\Blk w' N 173 (ZR 25 (fun i=>uV (if i<n then ZFl s blk i else s i)))/\Blk w' (N+1) 173 (G 25 (Y V 0))) rfl
  ⟨M,by simp only[J7,if_false];exact B2,B4⟩ ?_ ?_
 ·clear M B2 B4
  rintro n _ w6 hn⟨M,B2,B4⟩;rintro _ rfl;have e1:J I (8*(n:Int))=((8*n:Nat):Int):=by rw[Z0 (by omega) (by omega)];omega
  have e2:J I (((8*n:Nat):Int)+8)=((8*n+8:Nat):Int):=by rw[Z0 (by omega) (by omega)];omega
  rw[e1,e2];clear e1 e2;refine⟨by omega,_,B2.drew.rd0 (ZF (by omega)),by omega,by omega,?_⟩;rw[U,U];have hr':=((hr.mod' (M.step_drew)).sub (c:=c2) (lo:=8*n) (n:=8) (by omega));have hlen:((blk.drop (8*n)).take 8).length=8:=by rw[JB,H];omega
  refine Z9p ((blk.drop (8*n)).take 8) (by rw[hlen];omega) (by omega) hr' ⟨_,rfl,B2.drew.rd0 (ZF (by omega)),by omega,B2.drew.canSet0 (by simp;omega) rfl,fun w7 h7=>?_⟩;rw[h7.at,Z0g];simp only[Jh,if_false];refine Z9k.next (by rw[Z0 (by omega) (by omega)];omega) hn ⟨(M.step_drew).step_set (fun h=>by simp only[hNe]at h;omega),?_,B4.drew.set_ne (by simp)⟩;have:=B2.drew.set n (uV (ZFl s blk n));rw[Z0W]at this;have e3:s n^^^ZEX ((blk.drop (8*n)).take 8)=ZFl s blk n:=by rw[ZFl,if_pos hn]
  rw[e3];refine(ZH (fun j hj=>?_)) ▸ this
  grind
 ·clear M B2 B4
  rintro _ w6⟨M,B2,B4⟩
  have e:(ZR 25 fun i=>uV (if i<17 then ZFl s blk i else s i))=lanesA (ZFl s blk):=ZH (fun i hi=>by
   by_cases h:i<17
   ·rw[if_pos h]
   ·rw[if_neg h,ZFl,if_neg h])
  rw[e]at B2;refine⟨_,B2.rowAll (ZM _),(Z9w _ b o (hp.mod M (fun h=>h))).mono ?_⟩;rintro _ w7⟨rfl,M7⟩
  exact⟨_,rfl,_,(B4.mod' M7).storeAll (L:=lanesA (Z7i (ZFl s blk))) (by rw[ZM];kernel_rfl) (by rw[ZM,O]) (Z28 _),_,
   ((B4.mod' M7).row_same _).rowAll (ZM _),rfl,(M.none_trans M7).step_row (fun h=>by omega)⟩
end Go.Proofs.YtfghidehlnfdiaaGreat
end
section
namespace Go.Proofs.YtfghidehlnfdiaaGreat
open Go
abbrev tU8:A:=5
abbrev Zw:A:=23
abbrev Z55:A:=175
abbrev Z9c:A:=173
abbrev tHash:A:=27
abbrev tLast:A:=178
abbrev tLanes:A:=149
theorem ZW:Tryz.prog.underlying Zw=J2 (.slice tU8):=by kernel_rfl
theorem Z7h:(Tryz.prog.info? tU8).map (fun i=>(i.zero,i.size,i.bytes))=J2 (J2 (Y Jn 0),1,1):=by kernel_rfl
theorem Z1X:(Tryz.prog.info? tU8).map (·.size)=J2 1:=by kernel_rfl
end Go.Proofs.YtfghidehlnfdiaaGreat
end
section
namespace Go.Proofs.YtfghidehlnfdiaaGreat
open Go Go.Vcg
theorem ZBk{w:K}{o:Option Addr}{l c:Nat}{xs:List Value}{x:Value}{tx ty:A}{n:Nat}{news:List Value}(h:Own w tU8 1 o l c xs)(src:Src W 1 tx x n news w)(hb:l+n<=140737488355328) :
  ∃o' c' w',Jf W (builtinV .append #[Zw,tx] ty #[.slice o l c,x]) w=.ok (.slice o' (l+n) c') w'/\Own w' tU8 1 o' (l+n) c' (xs++news)/\Vcg.Mod (OB o) w w'/\(∀k,OB o' k->OB o k\/w.heap.size<=k):=by
 obtain⟨i,hi,h1⟩:=Option.map_eq_some_iff.1 Z7h;simp only[Prod.mk.injEq]at h1;exact Z3Y ZW hi h1.1 h1.2.1 rfl h src (by simp only[Jw];omega) (by rw[h1.2.2];omega)
def Z5f(s:St)(o:Option Addr)(l c:Nat)(i:Nat):Value :=
 if i<24 then uV (ZFr i)else if i<49 then Y I (turnOf (i-24):Int)else if i<74 then uV (s (i-49))else .slice o l c
def Z0y(s:St)(o:Option Addr)(l c:Nat):Array Value:=ZR 75 (Z5f s o l c)
def Z6g(w:K)(b:Nat)(o:Option Addr)(m:List UInt8):Prop :=
 ∃l c,Blk w b Z55 (Z0y (ZFs m) o l c)/\Own w tU8 1 o l c ((restOf m).map bV)/\¬OB o b
def SpB(b:Nat)(o:Option Addr):Nat->Prop:=fun k=>k=b\/OB o k
theorem Z4H{w:K}{b:Nat}{s:St}{o:Option Addr}{l c:Nat}(h:Blk w b Z55 (Z0y s o l c)):Z63 w b 0 :=
 Z63.of_blk h (fun i hi=>by
  rw[J0,Z0y,ZBF,ZF (by omega),ZF hi,Z5f];by_cases h1:i<24
  ·rw[if_pos h1,if_pos h1]
  ·rw[if_neg h1,if_neg h1,if_pos hi])
theorem Z3r{w:K}{b:Nat}{s:St}{o:Option Addr}{l c:Nat}(h:Blk w b Z55 (Z0y s o l c)):ZG w ⟨b,49,C⟩ 25 (lanesA s) :=
 h.rowAt (ZM s) (fun i hi=>by
  rw[Z0y,ZF (by omega),ZZ s hi,Z5f,if_neg (by omega),if_neg (by omega),if_pos (by omega),Ja])
theorem Z0j{w:K}{b:Nat}{s:St}{o:Option Addr}{l c:Nat}(h:Blk w b Z55 (Z0y s o l c)):w.cell? ⟨b,74,C⟩=J2 (.slice o l c) :=
 h.rd1 (by rw[Z0y,ZF (by omega)];rfl)
theorem ZEr{w:K}{b:Nat}{s:St}{o o':Option Addr}{l c l' c':Nat}(h:Blk w b Z55 (Z0y s o l c)):Blk (w.setCell ⟨b,74,C⟩ (.slice o' l' c')) b Z55 (Z0y s o' l' c'):=by
 have:=h.set 74 (.slice o' l' c');rw[Z0y,Z0W]at this;refine(show _=Z0y s o' l' c' from ZH (fun j hj=>?_)) ▸ this;unfold Z5f;by_cases h0:j=74
 ·subst h0;rfl
 ·rw[if_neg h0]
  by_cases h1:j<24
  ·rw[if_pos h1,if_pos h1]
  ·rw[if_neg h1,if_neg h1]
   by_cases h2:j<49
   ·rw[if_pos h2,if_pos h2]
   ·rw[if_neg h2,if_neg h2,if_pos (by omega),if_pos (by omega)]
theorem ZDn{w:K}{b:Nat}{s s':St}{o:Option Addr}{l c:Nat}(h:Blk w b Z55 (Z0y s o l c)) :
  ∃w',Jf W (Instr.storeAt Z9c (JR (J2 ⟨b,49,C⟩)) (JZ (lanesA s'))) w=.ok () w'/\Blk w' b Z55 (Z0y s' o l c)/\Vcg.Mod (·=b) w w':=by
 have hi:(Tryz.prog.info? Z9c).map (·.size)=J2 25:=by kernel_rfl
 obtain⟨i,hi1,hi2⟩:=Option.map_eq_some_iff.1 hi;have hs:=h.storeAt (L:=lanesA s') (o:=49) hi1 (by rw[ZM];exact hi2) (by rw[ZM,Z0y,Z03];decide) (Z28 _)
 have e2:ZR 75 (fun i=>if i<49 then Z5f s o l c i else if i<49+25 then uV (s' (i-49))else Z5f s o l c i)=Z0y s' o l c :=
  ZH (fun i hi=>by
   unfold Z5f;by_cases h1:i<24
   ·rw[if_pos h1,if_pos (by omega),if_pos h1]
   ·rw[if_neg h1,if_neg h1]
    by_cases h2:i<49
    ·rw[if_pos h2,if_pos h2,if_pos h2]
    ·rw[if_neg h2,if_neg h2,if_neg h2]
     by_cases h3:i<74
     ·rw[if_pos (by omega),if_pos h3]
     ·rw[if_neg (by omega),if_neg h3,if_neg h3])
 have hA:(Jo 49 (Z0y s o l c).toList++(lanesA s').toList++List.drop (49+(lanesA s').size) (Z0y s o l c).toList).toArray=Z0y s' o l c:=by
  rw[ZM,<-e2];exact ZCl 75 49 25 (Z5f s o l c) (fun i=>uV (s' i)) (by decide)
 rw[hA]at hs;exact⟨_,hs,h.row_same _,Mod.setRow w b _⟩
theorem ZFy(w:K):JN W Z2w.n #[] w (fun e w'=>∃b,e=F (JR (J2 ⟨b,0,C⟩))/\Z6g w' b C []/\Vcg.Mod NoB w w'/\w.heap.size<=b):=by
 refine Z2w.vc _ _ ?_;unfold Z2w.Vc;refine(ZBG _).mono ?_;rintro _ w1⟨rfl,M1⟩;refine⟨_,rfl,Z5u,?_⟩;rintro d3 w4⟨rfl,rfl⟩;refine⟨_,rfl,⟨0,0,?_,Own.nil _ _ _,Z4j _⟩,M1.step_alloc _,M1.size⟩;exact(show _=Z0y (ZFs []) C 0 0 from by kernel_rfl) ▸ Blk.new w1 _ _
theorem ZDA{w:K}{b:Nat}{o o1:Option Addr}{l1 c1:Nat}{m bs:List UInt8}(hS:Z6g w b o m)(hr:RdB w o1 bs)(hl:l1=bs.length)(hmax:bs.length<=2^40) :
  JN W Z0F.n #[JR (J2 ⟨b,0,C⟩),.slice o1 l1 c1] w
   (fun e w'=>e=F (.tuple #[])/\∃o',Z6g w' b o' (m++bs)/\Vcg.Mod (SpB b o) w w'/\∀k,OB o' k->OB o k\/w.heap.size<=k):=by
 subst hl;obtain⟨l,c,hB,hO,hn⟩:=hS;refine Z0F.vc _ _ _ _ _ _ ?_;unfold Z0F.Vc;simp only[Z3,J0];have hrl:(restOf m).length=l:=by have:=hO.len;simpa using this
 have hlt:=ZCg m;obtain⟨o',c',w1,h1,hO1,M1,hF1⟩:=ZBk (ty:=Zw) hO (Z7G (c:=c1) ZW hr) (by omega);have hnb:¬OB o' b:=fun h=>(hF1 b h).elim hn (fun h=>by have:=hB.lt;omega);rw[<-Jt]at hO1;have hB1:=hB.mod M1 hn;refine⟨_,_,_,Z0j hB,_,w1,h1,_,_,_,rfl,hB1.canSet (by rw[Z0y,Z03];decide) rfl,?_⟩;rintro _ rfl;have hB2:=ZEr (o':=o') (l':=l+bs.length) (c':=c') hB1;have hO2:=hO1.mod (Mod.setCell w1 ⟨b,74,C⟩ (.slice o' (l+bs.length) c')) (fun k hk(hkb:k=b)=>hnb (hkb ▸ hk));have M2:Vcg.Mod (SpB b o) w (w1.setCell ⟨b,74,C⟩ (.slice o' (l+bs.length) c')):=(M1.mono (T:=SpB b o) (fun k _ h=>.inr h)).step_set (fun _=>.inl rfl);generalize w1.setCell ⟨b,74,C⟩ (.slice o' (l+bs.length) c')=w2 at *
 generalize hall:restOf m++bs=all at *
 have hlen:l+bs.length=all.length:=by rw[<-hall,J4,hrl]
 rw[hlen]at hB2 hO2;have hmax':all.length<2^41:=by omega
 refine⟨fun n w'=>∃k:Nat,n=((136*k:Nat):Int)/\136*k<=all.length/\Vcg.Mod (SpB b o) w w'/\Blk w' b Z55 (Z0y (ZD0 (ZFs m) all k) o' all.length c')/\Own w' tU8 1 o' all.length c' (all.map bV),
  fun n _=>((all.length:Int)-n).toNat,⟨0,rfl,by omega,M2,hB2,hO2⟩,?_⟩
 rintro _ _ w3⟨k,rfl,hk,M3,hB3,hO3⟩;refine⟨_,_,_,Z0j hB3,?_⟩;have ew:J I (((all.length:Nat):Int)-((136*k:Nat):Int))=((all.length-136*k:Nat):Int):=by rw[Z0 (by omega) (by omega)];omega
 rw[ew];refine⟨fun hge=>?_,fun hlt'=>?_⟩
 ·rintro _ rfl
  have e2:J I (((136*k:Nat):Int)+136)=((136*k+136:Nat):Int):=by rw[Z0 (by omega) (by omega)];omega
  rw[e2,U,U];have hcap:=hO3.cap;refine⟨_,Z3r hB3.drew,_,_,_,Z0j hB3.drew,by omega,by omega,?_⟩;refine(Z5B _ b 0 (Z4H hB3.drew) ((all.drop (136*k)).take 136) (by rw[JB,H];omega) (by omega) (by omega) (((hO3.mod' (Mod.drew w3)).bytes).sub (by omega))).mono ?_;rintro _ w4⟨rfl,M4⟩;obtain⟨w5,h5,hB5,M5⟩:=ZDn (s':=Z8r (ZD0 (ZFs m) all k) ((all.drop (136*k)).take 136)) (hB3.drew.mod' M4);refine⟨_,rfl,w5,h5,⟨k+1,by omega,by omega,((M3.step_drew).none_trans M4).trans M5 (fun i _ hi=>.inl hi),hB5,((hO3.mod' (Mod.drew w3)).mod' M4).mod M5 (fun i hi(hib:i=b)=>hnb (hib ▸ hi))⟩,by dsimp only;omega⟩
 ·rintro _ rfl
  have hcap:=hO3.cap;have hkq:k=all.length/136:=by omega
  rw[U];obtain⟨w4,h4,hO4,M4⟩:=ZGE (P:=W) (t:=Zw) (tx:=Zw) (ty:=3) (lo:=136*k) ZW Z1X (hO3.mod' (Mod.drew w3)) hk;have hB4:=hB3.drew.mod M4 hnb;refine⟨_,_,_,Z0j hB3.drew,_,_,_,Z0j hB3.drew,_,_,_,Z0j hB3.drew,by omega,_,w4,h4,_,rfl,Z0j hB4,by omega,hB4.canSet (by rw[Z0y,Z03];decide) rfl,?_⟩;rintro _ rfl;rw[U];have hB5:=ZEr (o':=o') (l':=all.length-136*k) (c':=c') hB4;have M5:=Mod.setCell w4 ⟨b,74,C⟩ (.slice o' (all.length-136*k) c');refine⟨trivial,o',⟨all.length-136*k,c',?_,?_,hnb⟩,?_,hF1⟩
  ·rw[ZDm,hall,<-hkq];exact hB5
  ·rw[ZBJ,hall,<-hkq];exact hO4.mod M5 (fun i hi(hib:i=b)=>hnb (hib ▸ hi))
  ·exact(((M3.step_drew).trans M4 (fun i hi h=>(hF1 i h).elim (fun h=>.inr h) (fun h=>by omega)))).step_set (fun _=>.inl rfl)
theorem ZBe{w:K}{o:Option Addr}{l c:Nat}{bs:List UInt8}{n1 n2:Int}(x:BitVec 64)(k:Nat)(h1:n1=uI x)(h2:n2=(k:Int))(hk:k<=8)(hO:Own w tU8 1 o l c (bs.map bV))(hl:l<=2^40) :
  JN W Z1z.n #[.slice o l c,Y V n1,Y I n2] w (fun e w'=>∃o' c',e=F (.slice o' (l+k) c')/\Own w' tU8 1 o' (l+k) c' ((bs++leL x k).map bV)/\Vcg.Mod (OB o) w w'/\∀i,OB o' i->OB o i\/w.heap.size<=i):=by
 subst h1 h2;refine Z1z.vc _ _ _ _ _ _ _ ?_;unfold Z1z.Vc
 refine⟨fun o' l' c' n w'=>∃i:Nat,n=i/\i<=k/\l'=l+i/\Own w' tU8 1 o' l' c' ((bs++leL x i).map bV)/\Vcg.Mod (OB o) w w'/\∀i,OB o' i->OB o i\/w.heap.size<=i,
  fun _ _ _ n _=>((k:Int)-n).toNat,⟨0,rfl,by omega,rfl,by simpa[leL]using hO,Mod.refl w,fun i h=>.inl h⟩,?_⟩
 rintro o' _ c' _ _ w1⟨i,rfl,hi,rfl,hO1,M1,hF⟩;refine⟨fun hlt=>?_,fun hge=>?_⟩
 ·have e1:J I (8*(i:Int))=((8*i:Nat):Int):=by rw[Z0 (by omega) (by omega)];omega
  rw[e1,ZEs _ _ _ rfl,Z8N];refine⟨by omega,?_⟩;rintro d7 w8⟨rfl,rfl⟩;have hB:=Blk.new w1 tU8 #[bV (ZAO x i)];have hO2:=hO1.mod' (Mod.alloc w1 (Z #[bV (ZAO x i)] tU8));have hsrc:=Z52 (P:=W) (tx:=Zw) ZW hB (sz:=1) rfl (by intro v hv;simp at hv;subst hv;rfl);obtain⟨o2,c2,w2,h2,hO3,M2,hF2⟩:=ZBk (ty:=Zw) hO2 hsrc (by omega);refine⟨_,w2,h2,_,_,_,rfl,⟨i+1,by rw[Z0 (by omega) (by omega)];omega,by omega,rfl,?_,?_,?_⟩,by dsimp only;rw[Z0 (by omega) (by omega)];omega⟩
  ·rw[ZIJ,<-Jm,Jt]
   exact hO3
  ·exact(M1.step_alloc _).trans M2 (fun j hj h=>(hF j h).elim id (fun h=>by omega))
  ·intro j hj
   rcases hF2 j hj with h|h
   ·exact hF j h
   ·right;rw[ZE]at h;have:=M1.size;omega
 ·obtain rfl:i=k:=by omega
  exact⟨o',c',rfl,hO1,M1,hF⟩
theorem or_u8(a:UInt8):bitsI .or Jn (a.toNat:Int) 128=((a|||128:UInt8).toNat:Int):=Z6H a 128
theorem Z2k(h:List UInt8):∀v∈(hashA h).toList,v.oneCell'=true:=Z3n (fun _=>rfl)
theorem ZB(h:List UInt8):(hashA h).size=32:=Z03 _ _
theorem ZEj{w w1:K}{s:St}{Q N:Nat}{R:Q1->K->Prop}(M:Vcg.Mod NoB w w1)(hN:w.heap.size=N)
  (B0:Blk w1 N tHash (G 32 (Y Jn 0))) (BQ:Blk w1 Q Z9c (lanesA s)) (hQ:N<Q)
  (hR:∀w',Vcg.Mod NoB w w'->R (F (JZ (ZR 32 (fun i=>bV (Z5U s i))))) w') :
  ∀(d23:Addr)(w24:K),ZC w1 tHash (G 32 (Y Jn 0)) d23 w24 ->
   ∃(I25:Int->K->Prop)(μ25:Int->K->Nat),I25 0 w24 /\
   (∀(n26:Int)(j27:Nat->Value)(w27:K),I25 n26 w27 ->
     (((n26<4 ->
       ∀w28:K,ZJ w27 w28 ->
       (0<=(J I (8*n26))/\(J I (8*n26))<=((32:Nat):Int)) /\
       (0<=n26/\n26<((25:Nat):Int)) /\
       ∃n29:Int,World.cell? w28 (Addr.add ⟨Q,0,C⟩ (JX n26))=J2 (Y V n29) /\
       JN W Z1z.n #[(.slice C 0 0),(Y V n29),(Y I 8)] w28 (fun e30 w31 =>
        ∃o32:Option Addr,∃l33:Nat,∃l34:Nat,e30=F (.slice o32 l33 l34) /\
        ∃(v35:Value)(w36:K),Jf W (builtinV .copy #[Zw,Zw] 3 #[(.slice (J2 (subD d23 32 (JX (J I (8*n26))) 1)) (32-(JX (J I (8*n26)))) (32-(JX (J I (8*n26))))),(.slice o32 l33 l34)]) w31=.ok v35 w36 /\
        ∃n37:Int,v35=(Y I n37) /\
        I25 (J I (n26+1)) w36/\μ25 (J I (n26+1)) w36<μ25 n26 w27))) /\
      ((¬n26<4 ->
       ∃L38:Array Value,ZG w27 d23 32 L38 /\
       ∃w39:K,Jf W (Instr.storeAt tHash (JR (J2 ⟨N,0,C⟩)) (JZ L38)) w27=.ok () w39 /\
       ∃L40:Array Value,ZG w39 ⟨N,0,C⟩ 32 L40 /\
       R (F (JZ L40)) w39)))):=by
 rintro d23 w24⟨rfl,rfl⟩;have hQl:=BQ.lt;have BT:=Blk.new w1 tHash (G 32 (Y Jn 0))
 replace B0:=B0.alloc (Z (G 32 (Y Jn 0)) tHash)
 replace BQ:=BQ.alloc (Z (G 32 (Y Jn 0)) tHash)
 replace M:=M.step_alloc (Z (G 32 (Y Jn 0)) tHash)
 generalize w1.alloc (Z (G 32 (Y Jn 0)) tHash)=w2 at *
 generalize w1.heap.size=T at *
 refine Z5P 4 (fun i w'=>Vcg.Mod NoB w w'/\Blk w' N tHash (G 32 (Y Jn 0))/\Blk w' Q Z9c (lanesA s)/\Blk w' T tHash (ZR 32 (fun j=>bV (if j<8*i then Z5U s j else 0)))) rfl
  ⟨M,B0,BQ,by rw[Zm]at BT;simp only[Nat.mul_zero,J7,if_false];exact BT⟩ ?_ ?_
 ·clear M B0 BQ BT
  rintro i _ w3 hi⟨M,B0,BQ,BT⟩;rintro _ rfl;have e1:J I (8*(i:Int))=((8*i:Nat):Int):=by rw[Z0 (by omega) (by omega)];omega
  rw[e1];refine⟨by omega,by omega,_,BQ.drew.rd0 (ZZ _ (by omega)),(ZBe (bs:=[]) (s i) 8 rfl rfl (by omega) (Own.nil _ _ _) (by omega)).mono ?_⟩;rintro _ w4⟨o4,c4,rfl,hO4,M4,hF4⟩;have M4':Vcg.Mod NoB w3.drew w4:=M4.mono (fun k _ h=>Z4j k h);have BT4:=BT.drew.mod' M4'
  obtain⟨w5,h5,BT5,M5⟩:=Z5m (P:=W) (tx:=Zw) (ty:=3) (o:=8*i) (dLen:=32-8*i) (dCap:=32-8*i) (c:=c4) (n:=8) ZW Z1X BT4 hO4.bytes
   (by rw[Jc,Z4R];exact(JF (by omega)).symm) (by rw[Z03];omega)
  rw[Jc,Z4R]at h5;rw[U (8*i),subD,if_neg (by omega),Z3,Js,J0 (8*i)];refine⟨_,_,_,rfl,_,w5,h5,_,rfl,Z9k.next (by rw[Z0 (by omega) (by omega)];omega) hi ⟨((M.step_drew).none_trans M4').trans M5 (fun j hj h=>by simp only[hN]at hj;omega),(B0.drew.mod' M4').mod M5 (by omega),(BQ.drew.mod' M4').mod M5 (by omega),?_⟩⟩
  rw[Jc,J6 (by rw[Z4R];omega),Z8J 32 (8*i) _ (fun j=>bV (ZAO (s i) j)) 8 _ (by rw[JM,Z4R]) (fun j hj=>by
   rw[Z5o (by rw[Z4R];exact hj)];simp[leL,X,hj]) (by omega)]at BT5
  refine(show _=ZR 32 (fun j=>bV (if j<8*(i+1)then Z5U s j else 0))from ZH (fun j hj=>?_)) ▸ BT5;by_cases h1:8*i<=j/\j<8*i+8
  ·rw[if_pos h1,if_pos (by omega),Z5U,ZAO,show j/8=i by omega,show j%8=j-8*i by omega]
  ·rw[if_neg h1]
   by_cases h2:j<8*i
   ·rw[if_pos h2,if_pos (by omega)]
   ·rw[if_neg h2,if_neg (by omega)]
 ·clear M B0 BQ BT
  rintro _ w3⟨M,B0,BQ,BT⟩;have e:ZR 32 (fun j=>bV (if j<8*4 then Z5U s j else 0))=ZR 32 (fun i=>bV (Z5U s i)):=ZH (fun i hi=>by rw[if_pos (by omega)]);rw[e]at BT;exact⟨_,BT.rowAll (Z03 _ _),_,B0.storeAll (L:=ZR 32 (fun i=>bV (Z5U s i))) (by rw[Z03];kernel_rfl) (by rw[Z03,O]) (Z3n (fun _=>rfl)),_,(B0.row_same _).rowAll (Z03 _ _),hR _ (M.step_row (fun h=>by omega))⟩
set_option maxRecDepth 20000 in
theorem ZD9{w:K}{b:Nat}{o:Option Addr}{m:List UInt8}(hS:Z6g w b o m) :
  JN W Z0l.n #[JR (J2 ⟨b,0,C⟩)] w (fun e w'=>e=F (JZ (hashA (sumOf m)))/\Vcg.Mod NoB w w'):=by
 obtain⟨l,c,hB,hO,hn⟩:=hS;refine Z0l.vc _ _ _ ?_;unfold Z0l.Vc;simp only[Z3,J0];rintro d1 w2⟨rfl,rfl⟩ d3 w4⟨rfl,rfl⟩ _ rfl;have hbl:=hB.lt;have B1:=((Blk.new w tHash (G 32 (Y Jn 0))).alloc (Z (G 136 (Y Jn 0)) tLast)).drew;have B3:=(Blk.new (w.alloc (Z (G 32 (Y Jn 0)) tHash)) tLast (G 136 (Y Jn 0))).drew;have M:=((Mod.alloc (S:=NoB) w (Z (G 32 (Y Jn 0)) tHash)).step_alloc (Z (G 136 (Y Jn 0)) tLast)).step_drew;have hB1:=hB.mod' M;have hO1:=hO.mod' M;simp only[ZE]at B3 ⊢;generalize((w.alloc (Z (G 32 (Y Jn 0)) tHash)).alloc (Z (G 136 (Y Jn 0)) tLast)).drew=w5 at *
 generalize hNe:w.heap.size=N at *
 have hrl:(restOf m).length=l:=by have:=hO.len;simpa using this
 have hlt:=ZCg m
 obtain⟨w6,h6,B6,M6⟩:=Z5m (P:=W) (tx:=Zw) (ty:=3) (o:=0) (dLen:=136) (dCap:=136) (c:=c) (n:=(restOf m).length) ZW Z1X B3 hO1.bytes
  (JF (by omega)).symm (by rw[O];omega)
 rw[J6 (JU _),Zm,Z8J 136 0 _ (fun j=>bV ((restOf m).getD j 0)) (restOf m).length _ (by rw[JM]) (fun j hj=>Z5o hj) (by omega)]at B6;rw[hrl]at h6 B6;refine⟨_,_,_,Z0j hB1,_,w6,h6,_,rfl,by omega,B6.canSet0 (by rw[Z03];omega) rfl,fun w7 h7=>?_⟩;have h7':=h7.at;subst h7';clear h7;simp only[Z3,J0];have B7:=B6.set l (bV 1);rw[Z0W]at B7;have M7:=M6.trans (Mod.setCell w6 ⟨N+1,l,C⟩ (Y Jn 1)) (fun i _ h=>h)
 have e7:(ZR 136 fun j=>if j=l then bV 1 else if 0<=j/\j<0+l then bV ((restOf m).getD (j-0) 0)else Y Jn 0)=ZR 136 (fun j=>bV (if j<l then(restOf m).getD j 0 else if j=l then 1 else 0)) :=
  ZH (fun j hj=>by
   by_cases h1:j=l
   ·rw[if_pos h1,if_neg (by omega),if_pos h1]
   ·rw[if_neg h1]
    by_cases h2:j<l
    ·rw[if_pos (by omega),if_pos h2,Q2]
    ·rw[if_neg (by omega),if_neg h2,if_neg h1];rfl)
 rw[e7]at B7;refine⟨_,B7.rd1 (ZF (by omega)),B7.canSet (by rw[Z03];omega) rfl,?_⟩;rintro _ rfl;rw[or_u8];have B8:=B7.set 135 (bV ((if 135<l then(restOf m).getD 135 0 else if 135=l then 1 else 0)|||128));rw[Z0W]at B8
 have e8:(ZR 136 fun j=>if j=135 then bV ((if 135<l then(restOf m).getD 135 0 else if 135=l then 1 else 0)|||128)else bV (if j<l then(restOf m).getD j 0 else if j=l then 1 else 0))=ZR 136 (fun j=>bV (ZFY (restOf m) j)) :=
  ZH (fun j hj=>by
   unfold ZFY;rw[hrl];by_cases h1:j=135
   ·subst h1;rw[if_pos rfl,if_pos rfl]
   ·rw[if_neg h1,if_neg h1];congr 2;simp)
 rw[e8]at B8;change Blk ((w6.setCell ⟨N+1,l,C⟩ (Y Jn 1)).setCell ⟨N+1,135,C⟩ (bV ((if 135<l then(restOf m).getD 135 0 else if 135=l then 1 else 0)|||128))) _ _ _ at B8;have M8:=M7.trans (Mod.setCell _ ⟨N+1,135,C⟩ (bV ((if 135<l then(restOf m).getD 135 0 else if 135=l then 1 else 0)|||128))) (fun i _ h=>h);have hq:N<w5.heap.size:=B1.lt;have hq3:N+1<w5.heap.size:=B3.lt;have B18:=B1.mod M8 (by omega);have hB8:=hB1.mod M8 (by omega);have Mw8:=M.trans M8 (fun i hi h=>by simp only[hNe]at hi;omega);have hs8:=M8.size;generalize((w6.setCell ⟨N+1,l,C⟩ (Y Jn 1)).setCell ⟨N+1,135,C⟩ (bV ((if 135<l then(restOf m).getD 135 0 else if 135=l then 1 else 0)|||128)))=w8 at *
 have hlast:∀w',Blk w' (N+1) tLast (ZR 136 (fun j=>bV (ZFY (restOf m) j)))->RdB w' (J2 ⟨N+1,0,C⟩) (ZGz (restOf m)):=fun w' h =>
  RdB.of_blk h (fun i hi=>by rw[Z6R]at hi;rw[J0,ZF hi,ZGS _ hi])
 have hfin:∀w',Vcg.Mod NoB w w'->(fun e w'=>e=F (JZ (hashA (sumOf m)))/\Vcg.Mod NoB w w') (F (JZ (ZR 32 (fun i=>bV (Z5U (Z61 m) i))))) w':=fun w' h=>by
  refine⟨?_,h⟩;have:hashA (sumOf m)=ZR 32 (fun i=>bV (Z5U (Z61 m) i)):=ZH (fun i hi=>by rw[ZAI m hi]);rw[this]
 rintro _ rfl;refine⟨_,Z3r hB8.drew,?_,?_⟩
 ·refine(Z5B (ZFs m) b 0 (Z4H hB8.drew) (ZGz (restOf m)) (Z6R _) rfl (JU _) (hlast _ B8.drew)).mono ?_
  rintro _ w9⟨rfl,M9⟩;refine⟨_,rfl,?_⟩;rintro d20 w21⟨rfl,rfl⟩;have BQ:=Blk.new w9 Z9c (G 25 (Y V 0));have hs9:=M9.size;have hs9':=(B18.drew.mod' M9).lt;refine⟨_,BQ.storeAll (L:=lanesA (Z61 m)) (by rw[ZM];kernel_rfl) (by rw[ZM,O]) (Z28 _),?_⟩;exact ZEj (s:=Z61 m) (R:=fun e w'=>e=F (JZ (hashA (sumOf m)))/\Vcg.Mod NoB w w') (((Mw8.step_drew).none_trans M9).step_alloc _ |>.step_row (fun h=>by omega)) hNe (((B18.drew.mod' M9).alloc _).row_ne (by omega)) (BQ.row_same _) (by omega) hfin
 ·rintro d41 w42⟨rfl,rfl⟩
  have BQ:=Blk.new w8.drew Z9c (G 25 (Y V 0));have hB9:=hB8.drew.alloc (Z (G 25 (Y V 0)) Z9c);refine⟨Z3r hB9,(Z5B (ZFs m) b 0 (Z4H hB9) (ZGz (restOf m)) (Z6R _) rfl (JU _) (hlast _ (B8.drew.alloc _))).mono ?_⟩;rintro _ w9⟨rfl,M9⟩;have hs9':=(B18.drew).lt;refine⟨_,rfl,_,(BQ.mod' M9).storeAll (L:=lanesA (Z61 m)) (by rw[ZM];kernel_rfl) (by rw[ZM,O]) (Z28 _),?_⟩;have hsz:w8.drew.heap.size=w8.heap.size:=rfl;exact ZEj (s:=Z61 m) (R:=fun e w'=>e=F (JZ (hashA (sumOf m)))/\Vcg.Mod NoB w w') ((((Mw8.step_drew).step_alloc _).none_trans M9).step_row (fun h=>by omega)) hNe (((B18.drew.alloc _).mod' M9).row_ne (by omega)) ((BQ.mod' M9).row_same _) (by omega) hfin
theorem Z4J{w:K}{o0:Option Addr}{l0 c0:Nat}(ls:List (List UInt8))(hl:l0=ls.length)(hl0:l0<=2^40)(hr:ZFn w o0 ls)(hmax:∀b∈ls,b.length<=2^40) :
  JN W Z3Z.n #[.slice o0 l0 c0] w (fun e w'=>e=F (JZ (hashA (sumOf ls.flatten)))/\Vcg.Mod NoB w w'):=by
 subst hl;refine Z3Z.vc _ _ _ _ _ ?_;unfold Z3Z.Vc;rintro d1 w2⟨rfl,rfl⟩;have B1:=Blk.new w tHash (G 32 (Y Jn 0));have M:=Mod.alloc (S:=NoB) w (Z (G 32 (Y Jn 0)) tHash);refine(ZFy _).mono ?_;rintro _ w3⟨b,rfl,hS,M3,hb⟩;rw[ZE]at hb;have B1':=B1.mod' M3;have M':=M.none_trans M3;refine⟨_,rfl,?_⟩
 refine Z5P ls.length (fun i w'=>Vcg.Mod NoB w w'/\Blk w' w.heap.size tHash (G 32 (Y Jn 0))/\∃o,Z6g w' b o (ls.take i).flatten/\∀k,SpB b o k->w.heap.size<k) rfl
  ⟨M',B1',C,hS,fun k hk=>hk.elim (fun h=>by omega) (fun h=>(Z4j k h).elim)⟩ ?_ ?_
 ·rintro i _ w4 hi⟨M4,B4,o,hS4,hF⟩
  obtain⟨bb,f,oi,ci,rfl,hbl,hc,hri⟩:=(hr.mod' M4) i hi;refine⟨_,rfl,by omega,_,_,_,by rw[Z3,U];exact hc,?_⟩;refine(ZDA hS4 hri rfl (hmax _ (by simp[X,hi]))).mono ?_;rintro _ w5⟨rfl,o',hS5,M5,hF5⟩;refine⟨rfl,Z9k.next (by rw[Z0 (by omega) (by omega)];omega) hi ⟨M4.trans M5 (fun k hk h=>by have:=hF k h;omega),B4.mod M5 (fun h=>by have:=hF _ h;omega),o',?_,?_⟩⟩
  ·rw[Z7f _ _ hi];exact hS5
  ·intro k hk
   have hs:=M4.size;rcases hk with rfl|hk
   ·exact hF _ (.inl rfl)
   ·rcases hF5 k hk with h|h
    ·exact hF _ (.inr h)
    ·have:=B4.lt;omega
 ·rintro _ w4⟨M4,B4,o,hS4,hF⟩
  rw[List.take_length]at hS4;refine(ZD9 hS4).mono ?_;rintro _ w5⟨rfl,M5⟩;exact⟨_,rfl,_,(B4.mod' M5).storeAll (L:=hashA (sumOf ls.flatten)) (by rw[ZB];kernel_rfl) (by rw[ZB,O]) (Z2k _),_,((B4.mod' M5).row_same _).rowAll (ZB _),rfl,(M4.none_trans M5).step_row (fun h=>by omega)⟩
end Go.Proofs.YtfghidehlnfdiaaGreat
end
