/- Regions whose order is open: one walk in an order of our choice serves every order. No program is named here. -/
/- A symbolic executor over the model's code, generic over what its leaves are: over propositions it is a verification condition (XSound), over text it prints one. -/
/- The executor over propositions is sound: what it asks is enough for the code's own weakest precondition. -/
/- Each operation that the executor takes by its form does what the form says. -/
/- The operations that yield their value in whatever world. -/
import Derived.Orders
import Derived.WalkKit
set_option linter.unusedVariables false
set_option linter.unusedSimpArgs false
open Array renaming ext_getElem?->Je,extract->Jw,getElem?_eq_getElem->JH,getElem?_eq_none->JD,getElem?_setIfInBounds_ne->JL,getElem_mem->Jh,replicate->JW,size->JR
open Bool renaming and_eq_true->JB,false->Y,false_eq_true->Jf,not_eq_true'->Jg,or_eq_true->JV,true->H
open Go renaming Act->Jm,BinOp->JQ,BoundsCode->JU,Ending->Jt,FuncId->Q2,Oper->J8,Operand->J1,Tmp->Q5,TypeDesc->JE,TypeId->X,Value->Z,World->J0,binOp->JC,eqGuard->Jx,getD_set_true->JI,yielded->Jc
open Go.Callee renaming builtin->JK
open Go.Instr renaming fill->JT,slice->Q1,sliceAt->JA,sliceBound->J2,sliceBounds->Jj
open Go.Op renaming call->Q6,convert->Jq,entryStore->Q0,equal->JF,equalIn->J9,extract->Jz,fieldAddr->Jr,indexAddr->Js,intArith->JO,intCmp->Q4,intDiv->Jl,makeInterface->Jb,select->Q3,shift->Ju,sliceToArrayPointer->JN,typeAssert->Jn
open Go.Region renaming binds->JG,ready->J5,wanted->JM
open Go.Result renaming andThen_ok->F,ok->JJ
open Go.Sem renaming run_bind->J3,run_pure->J6
open Go.TypeDesc renaming array->Ja,interface->J7,invalid->Jy,struct->Ji
open Go.Value.int renaming injEq->JP
open List renaming all_eq_true->JS,contains_eq_mem->JZ,getD_eq_getElem?_getD->J4,getElem?_eq_none->JX,map_cons->Jd,mem_range->JY,range->Jo,replicate->Jp
open Option renaming bind_some->Jk,isNone->Jv,none->U,some->G
section
namespace Go.Vcg
def Z6b(i:Nat):List J8->List Bool->List Bool
 |[],acc=>acc
 |o::rest,acc=>Z6b i rest (acc++[o.after.any fun e=>JG .any e&&(e.on == i||acc.getD e.on Y)])
def Z2B(ops:Array J8)(i:Nat):List Bool:=Z6b i ops.toList []
def Z1i(ops:Array J8)(listed:Array Bool):Prop :=
 ∀(j:Nat)(o:J8),ops[j]?=G o->listed.getD j Y=H->∀e∈o.after,JG .any e=H->listed.getD e.on Y=H
theorem Z2q{ops:Array J8}{i:Nat}:∀(l:List J8) (acc:List Bool),(∀k,l[k]?=ops[acc.length+k]?) ->
  (∀k o,acc.getD k Y=H->ops[k]?=G o->∀listed,Z1i ops listed->(∀e∈o.after,JG .any e=H->listed.getD e.on Y=H)->listed.getD i Y=H) ->
  ∀k o,(Z6b i l acc).getD k Y=H->ops[k]?=G o->∀listed,Z1i ops listed->(∀e∈o.after,JG .any e=H->listed.getD e.on Y=H)->listed.getD i Y=H
 |[],_,_,h=>h
 |o::l,acc,hl,h=>by
  have h0:ops[acc.length]?=G o:=by simpa using(hl 0).symm
  refine Z2q l _ (fun k=>?_) ?_
  ·have:=hl (k+1)
   simpa[Nat.add_assoc,Nat.add_comm 1 k]using this
  ·intro k o' hk ho' listed hc hp
   rcases Nat.lt_trichotomy k acc.length with hlt|heq|hgt
   ·refine h k o' ?_ ho' listed hc hp
    simpa[J4,List.getElem?_append_left hlt]using hk
   ·subst heq
    rw[h0]at ho';cases ho';simp only[J4,List.getElem?_append_right (Nat.le_refl _),Nat.sub_self,List.getElem?_cons_zero,Option.getD_some]at hk;obtain⟨e,he,hb⟩:=Array.any_eq_true'.1 hk;simp only[JB,JV,beq_iff_eq]at hb;have hon:=hp e he hb.1;rcases hb.2 with h1|h1
    ·rw[<-h1];exact hon
    ·have h2:acc.getD e.on Y=H:=by simpa[J4]using h1
     have hlen:e.on<acc.length:=by
      rcases Nat.lt_or_ge e.on acc.length with h'|h'
      ·exact h'
      ·simp[J4,JX h']at h2
     have hex:∃ok,ops[e.on]?=G ok:=by
      have hs:acc.length<ops.size:=(Array.getElem?_eq_some_iff.1 h0).1;exact⟨_,JH (by omega)⟩
     obtain⟨ok,hok⟩:=hex;exact h e.on ok h2 hok listed hc (hc e.on ok hok hon)
   ·have:(acc++[o.after.any fun e=>JG .any e&&(e.on == i||acc.getD e.on Y)]).length<=k:=by simp;omega
    rw[J4,JX this]at hk;cases hk
theorem Z6c{ops:Array J8}{i j:Nat}{listed:Array Bool}(hc:Z1i ops listed)(hj:j∈J5 .any ops listed)(hi:listed.getD i Y=Y) :
  (Z2B ops i).getD j Y=Y:=by
 cases h:(Z2B ops i).getD j Y with
 |false=>rfl
 |true =>
  obtain⟨_,o,ho,hall⟩:=mem_ready.1 hj;have:=Z2q (ops:=ops) (i:=i) ops.toList [] (by simp) (by simp) j o h ho listed hc hall;rw[hi]at this;cases this
theorem Z9F{ops:Array J8}{i j:Nat}{o:J8}{listed:Array Bool}(hc:Z1i ops listed)(ho:ops[j]?=G o)(hj:listed.getD j Y=H)
  (h:(Z2B ops i).getD j Y=H):listed.getD i Y=H :=
 Z2q (ops:=ops) (i:=i) ops.toList [] (by simp) (by simp) j o h ho listed hc (hc j o ho hj)
theorem Z1i.start(ops:Array J8)(n:Nat):Z1i ops (JW n Y):=by
 intro j o _ h;exfalso;by_cases hn:j<n<;>simp[hn]at h
theorem Z0q{listed:Array Bool}{i:Nat}(h:i<listed.size):(listed.setIfInBounds i H).getD i Y=H:=by simp[h]
theorem Z0o{listed:Array Bool}{i j:Nat}(h:i≠j):(listed.setIfInBounds i H).getD j Y=listed.getD j Y:=by
 simp[JL h]
theorem Z1i.set{ops:Array J8}{listed:Array Bool}(hc:Z1i ops listed){j:Nat}(hj:j∈J5 .any ops listed):Z1i ops (listed.setIfInBounds j H):=by
 intro k o ho hk e he hb;by_cases hkj:j=k
 ·subst hkj
  obtain⟨_,o',ho',hall⟩:=mem_ready.1 hj;rw[ho]at ho';cases ho';exact JI (hall e he hb)
 ·rw[Z0o hkj]at hk
  exact JI (hc k o ho hk e he hb)
def ssa(ops:Array J8):Bool :=
 Region.noSelect ops &&
 (Jo ops.size).all fun i =>
   match ops[i]? with
   |none=>H
   |some oi =>
    (oi.after.all fun e=> !JG .any e||decide (e.on<i)) &&
    match oi.dst with
    |none=>H
    |some d =>
     let ds:=Z2B ops i
     !(oi.looksAt ops).contains d&&(Jo ops.size).all fun j=>j == i||match ops[j]? with
       |none=>H
       |some oj=>oj.dst != G d&&(!(oj.looksAt ops).contains d||ds.getD j Y||(Z2B ops j).getD i Y)
def ZEX(ops:Array J8)(i:Nat):Bool :=
 match ops[i]? with
 |none=>Y
 |some oi=>match oi.dst with
  |none=>H
  |some d =>
   let ds:=Z2B ops i
   (Jo ops.size).all fun j=>j == i||match ops[j]? with
     |none=>H
     |some oj=> !(oj.looksAt ops).contains d||ds.getD j Y
theorem Z3U{ops:Array J8}(h:ssa ops=H){i:Nat}{oi:J8}(hi:ops[i]?=G oi) :
  (∀e∈oi.after,JG .any e=H->e.on<i) /\
  ∀d,oi.dst=G d->d ∉ oi.looksAt ops/\∀(j:Nat)(oj:J8),ops[j]?=G oj->j≠i->oj.dst≠G d/\(d∈oj.looksAt ops->(Z2B ops i).getD j Y=H\/(Z2B ops j).getD i Y=H):=by
 simp only[ssa,JB,JS,JY]at h;have hlt:i<ops.size:=(Array.getElem?_eq_some_iff.1 hi).1;have h1:=h.2 i hlt;simp only[hi,JB]at h1;refine⟨fun e he hb=>?_,fun d hd=>?_⟩
 ·have h2:=Array.all_eq_true_iff_forall_mem.1 h1.1 e he
  simpa[hb]using h2
 ·have h2:=h1.2
  simp only[hd,JB,JS,JY]at h2;refine⟨by simpa using h2.1,fun j oj hj hne=>?_⟩;have h3:=h2.2 j (Array.getElem?_eq_some_iff.1 hj).1;simp only[hj,JV,beq_iff_eq,hne,false_or,JB,bne_iff_ne,ne_eq,Jg,JZ]at h3;refine⟨h3.1,fun hm=>?_⟩;rcases h3.2 with(h4|h4)|h4
  ·simp[hm]at h4
  ·exact .inl h4
  ·exact .inr h4
theorem Z9R{ops:Array J8}{i:Nat}{oi:J8}(h:ZEX ops i=H)(hi:ops[i]?=G oi){d:Q5}(hd:oi.dst=G d){j:Nat}{oj:J8}(hj:ops[j]?=G oj)(hne:j≠i)
  (hm:d∈oj.looksAt ops):(Z2B ops i).getD j Y=H:=by
 simp only[ZEX,hi,hd,JS,JY]at h;have h3:=h j (Array.getElem?_eq_some_iff.1 hj).1;simp only[hj,JV,beq_iff_eq,hne,false_or,Jg,JZ]at h3;rcases h3 with h4|h4
 ·simp[hm]at h4
 ·exact h4
section
variable{P:Program}{ops:Array J8}{Q:Exit->Jm->J0->Prop}
def YA(P:Program)(ops:Array J8)(i:Nat)(v:Z)(a:Jm)(w:J0):Prop :=
 ∃o,ops[i]?=G o/\((JM o (Jc ops a.tmps)=H/\(execOp a.eval o).run P w=JJ (.value v) w)\/(JM o (Jc ops a.tmps)=Y/\v=undef))
def wpG(P:Program)(ops:Array J8)(Q:Exit->Jm->J0->Prop):Nat->Array Bool->List (Nat×Z)->Jm->J0->Prop
 |0,_,_,_,_=>False
 |n+1,listed,pend,a,w =>
  (J5 .any ops listed=[]/\Q .normal a w) \/
  (∃i o v,i∈J5 .any ops listed/\ops[i]?=G o/\ZEX ops i=H/\YA P ops i v a w/\wpG P ops Q n (listed.setIfInBounds i H) ((i,v)::pend) (a.put o.dst v) w) \/
  (J5 .any ops listed≠[]/\∀j∈J5 .any ops listed,wpOp P ops Q j (fun a' w' =>
    (∀p∈pend,(Z2B ops p.1).getD j Y=Y->YA P ops p.1 p.2 a' w')/\wpG P ops Q n (listed.setIfInBounds j H) (pend.filter fun p=> !(Z2B ops p.1).getD j Y) a' w') a w)
structure Rel (P:Program) (ops:Array J8) (lR lG:Array Bool) (pend:List (Nat×Z)) (aR aG:Jm) (w:J0):Prop where
 sR:lR.size=ops.size
 sG:lG.size=ops.size
 cR:Z1i ops lR
 cG:Z1i ops lG
 sub:∀j,lR.getD j Y=H->lG.getD j Y=H
 defers:aR.defers=aG.defers
 size:aR.tmps.size=aG.tmps.size
 same:∀d,(∀t o,lG.getD t Y=H->lR.getD t Y=Y->ops[t]?=G o->o.dst≠G d)->aR.tmps[d]?=aG.tmps[d]?
 held:∀t o,lG.getD t Y=H->lR.getD t Y=Y->ops[t]?=G o ->
  ZEX ops t=H/\∃v,(t,v)∈pend/\YA P ops t v aG w/\∀d,o.dst=G d->d<aG.tmps.size->aG.tmps[d]?=G v
theorem ZCp{lR lG:Array Bool}{pend:List (Nat×Z)}{aR aG:Jm}{w:J0}(h:Rel P ops lR lG pend aR aG w)(hs:ssa ops=H)
  {j:Nat} {oj:J8} (hj:j∈J5 .any ops lR) (hoj:ops[j]?=G oj) (d:Q5) (hd:d∈oj.looksAt ops):aR.tmps[d]?=aG.tmps[d]?:=by
 refine h.same d fun t o hG hR ho hdst=>?_;have h0:=(Z3U hs ho).2 d hdst;by_cases htj:j=t
 ·subst htj
  rw[ho]at hoj;cases hoj;exact h0.1 hd
 ·have h1:=Z9R (h.held t o hG hR ho).1 ho hdst hoj htj hd
  rw[Z6c h.cR hj hR]at h1;cases h1
theorem ZFo(hs:ssa ops=H)(j:Nat)(o:J8)(ho:ops[j]?=G o)(cs:Array SelectCase)(b:Bool):o.op≠Q3 cs b:=by
 simp only[ssa,JB]at hs;exact Region.noSelect_spec hs.1 j o cs b ho
theorem Z4o{o:J8}{a b:Jm}(hsel:∀cs bb,o.op≠Q3 cs bb)(h:∀d∈o.looksAt ops,a.tmps[d]?=b.tmps[d]?) :
  execOp a.eval o=execOp b.eval o :=
 execOp_congr o hsel fun x hx=>by
  cases x with
  |tmp t =>
   have ht:t∈o.looksAt ops:=List.mem_append_left _ (List.mem_filterMap.2 ⟨.tmp t,by simpa using hx,rfl⟩);simp only[Act.eval,Array.getD_eq_getD_getElem?,h t ht]
  |_=>rfl
theorem Z4f{o:J8}{a b:Jm}(h:∀d∈o.looksAt ops,a.tmps[d]?=b.tmps[d]?) :
  JM o (Jc ops a.tmps)=JM o (Jc ops b.tmps):=by
 unfold JM;cases hg:o.guard with
 |none=>rfl
 |some gw =>
  obtain⟨g,want⟩:=gw
  have:Jc ops a.tmps g=Jc ops b.tmps g:=by
   unfold Jc;cases ht:(ops[g]?).bind (·.dst)with
   |none=>rfl
   |some t =>
    have:=h t (by simp[Oper.looksAt,hg,ht]);simp only[Jk,this]
  simp only[this]
theorem YA.of_same{i:Nat}{v:Z}{a b:Jm}{w:J0}(hs:ssa ops=H)(h:YA P ops i v a w)(hsame:∀o,ops[i]?=G o->∀d∈o.looksAt ops,a.tmps[d]?=b.tmps[d]?):YA P ops i v b w:=by
 obtain⟨o,ho,h⟩:=h;refine⟨o,ho,?_⟩;rw[<-Z4f (hsame o ho),<-Z4o (ZFo hs i o ho) (hsame o ho)];exact h
theorem Z0w{a:Jm}{dst:Option Q5}{v:Z}{d:Q5}(h:dst≠G d):(a.put dst v).tmps[d]?=a.tmps[d]?:=by
 cases dst with
 |none=>rfl
 |some e =>
  have:e≠d:=fun he=>h (he ▸ rfl);simp[Act.put,JL this]
theorem put_size{a:Jm}{dst:Option Q5}{v:Z}:(a.put dst v).tmps.size=a.tmps.size:=by
 cases dst<;>simp[Act.put]
theorem Z2j{a:Jm}{d:Q5}{v:Z}(h:d<a.tmps.size):(a.put (G d) v).tmps[d]?=G v:=by
 simp[Act.put,h]
theorem Zd{a:Jm}{dst:Option Q5}{v:Z}:(a.put dst v).defers=a.defers:=by
 cases dst<;>rfl
theorem YA.put_later{i j:Nat}{oj:J8}{v u:Z}{a:Jm}{w:J0}{lG:Array Bool}(hs:ssa ops=H)(hcG:Z1i ops lG)(hj:ops[j]?=G oj)
  (hfree:ZEX ops j=H\/(Z2B ops i).getD j Y=Y) (hlj:lG.getD j Y=Y) (hi:lG.getD i Y=H) (h:YA P ops i v a w):YA P ops i v (a.put oj.dst u) w:=by
 refine h.of_same hs fun o ho d hd=>(Z0w fun hdst=>?_).symm;have h1:=(Z3U hs hj).2 d hdst;by_cases hij:i=j
 ·subst hij;rw[hi]at hlj;cases hlj
 ·have h2:(Z2B ops j).getD i Y=H:=by
    rcases hfree with hf|hf
    ·exact Z9R hf hj hdst ho hij hd
    ·rcases (h1.2 i o ho hij).2 hd with h3|h3
     ·exact h3
     ·rw[hf]at h3;cases h3
  have:=Z9F hcG ho hi h2;rw[hlj]at this;cases this
theorem ZDl{j:Nat}{oj:J8}{aR aG:Jm}{w:J0}(hoj:ops[j]?=G oj)(hsel:∀cs bb,oj.op≠Q3 cs bb)
  (hsame:∀d∈oj.looksAt ops,aR.tmps[d]?=aG.tmps[d]?) (hdef:aR.defers=aG.defers) (hout:∀d,(∀(t:Nat) o,ops[t]?=G o->o.dst≠G d)->aR.tmps[d]?=aG.tmps[d]?) (hQ:∀c(a a':Jm) w,a.defers=a'.defers->(∀d,(∀(t:Nat) o,ops[t]?=G o->o.dst≠G d)->a.tmps[d]?=a'.tmps[d]?)->Q (.panic c) a w->Q (.panic c) a' w) {K:Jm->J0->Prop}
  (h:wpOp P ops Q j K aG w) :
  wpOp P ops Q j (fun a' w'=>∃v ds,a'=({ aR with defers:=ds++aR.defers }:Jm).put oj.dst v/\K (({ aG with defers:=ds++aG.defers }:Jm).put oj.dst v) w') aR w:=by
 unfold wpOp at *
 simp only[hoj]at *
 rw[Z4f hsame];split
 ·rename_i hw
  simp only[hw,if_true]at h;rcases h with h|⟨hasks,hlets⟩
  case inr=>exact .inr ⟨by unfold Oper.asks at *;rw[Z4o hsel hsame];exact hasks,hlets⟩
  refine .inl ?_;unfold Oper.wp at *
  rw[Z4o hsel hsame];generalize(execOp aG.eval oj).run P w=r at *
  cases r with
  |ok n w' =>
   cases n<;>simp only[Oper.upon]at h ⊢
   case value u=>exact⟨u,[],rfl,h⟩
   case skip=>exact⟨undef,[],rfl,h⟩
   case defer d=>exact⟨undef,[d],rfl,h⟩
   case enter f args =>
    refine Calls.mono h fun e w'' he=>?_;cases e with
    |returned u=>exact⟨u,[],rfl,he⟩
    |panicked c=>exact hQ _ _ _ _ hdef.symm (fun d hd=>(hout d hd).symm) he
    |outgrown=>exact he
   case row row args=>exact Rows.mono h fun u w'' he=>⟨u,[],rfl,he⟩
  |halt x w' =>
   cases x<;>simp only[Oper.upon]at h ⊢
   case panic u=>exact hQ _ _ _ _ hdef.symm (fun d hd=>(hout d hd).symm) h
 ·rename_i hw
  simp only[hw]at h;exact⟨undef,[],rfl,h⟩
theorem Z3P{j:Nat}{listed:Array Bool}(hj:j∈J5 .any ops listed):j<ops.size/\listed.getD j Y=Y:=by
 obtain⟨h0,o,ho,_⟩:=mem_ready.1 hj;refine⟨(Array.getElem?_eq_some_iff.1 ho).1,?_⟩;by_cases hj':j<listed.size
 ·simpa[hj']using h0
 ·simp[hj']at h0
theorem count_set{l:Array Bool}{j:Nat}(h:l.getD j H=Y){m:Nat}(hm:l.count Y<=m+1):(l.setIfInBounds j H).count Y<=m:=by
 have hj:j<l.size:=by
  rcases Nat.lt_or_ge j l.size with h'|h'
  ·exact h'
  ·simp[Nat.not_lt.2 h']at h
 have hv:l[j]=Y:=by simpa[hj]using h
 rw[Array.setIfInBounds,dif_pos hj,Array.count_set];have hpos:0<l.count Y:=Array.count_pos_iff.2 (by rw[<-hv];exact Jh hj);simp[hv];omega
theorem sim(hs:ssa ops=H)(hQ:∀c (a a':Jm) w,a.defers=a'.defers->(∀d,(∀(t:Nat) o,ops[t]?=G o->o.dst≠G d)->a.tmps[d]?=a'.tmps[d]?)->Q (.panic c) a w->Q (.panic c) a' w) :
  ∀(m:Nat)(lR lG:Array Bool)(pend:List (Nat×Z))(aR aG:Jm)(w:J0)(n:Nat),lR.count Y<=m ->
   Rel P ops lR lG pend aR aG w->wpG P ops Q n lG pend aG w->wpAny P .any ops Q m lR aR w:=by
 intro m
 induction m with
 |zero =>
  intro lR lG pend aR aG w n hm hrel hG
  have hall:∀j,j<ops.size->lR.getD j Y=H:=fun j hj=>by
   have h0:Y ∉ lR:=Array.count_eq_zero.1 (Nat.le_zero.1 hm);have hj':j<lR.size:=by rw[hrel.sR];exact hj
   cases hv:lR[j]with
   |true=>simp[hj',hv]
   |false=>exact absurd (hv ▸ Jh hj') h0
  have hready:∀l:Array Bool,(∀j,j<ops.size->l.getD j Y=H)->J5 .any ops l=[]:=fun l hl=>by
   refine List.eq_nil_iff_forall_not_mem.2 fun j hj=>?_;have:=Z3P hj;rw[hl j this.1]at this;cases this.2
  have hG':=hready lG fun j hj=>hrel.sub j (hall j hj);cases n with
  |zero=>exact hG.elim
  |succ n =>
   refine⟨hready lR hall,?_⟩
   have heq:aR=aG:=by
    have h1:aR.tmps=aG.tmps:=Je fun d=>hrel.same d fun t o hGt hRt ho=>by
     rw[hall t (Array.getElem?_eq_some_iff.1 ho).1]at hRt;cases hRt
    have h2:=hrel.defers;cases aR;cases aG
    simp_all
   rcases hG with⟨_,hq⟩|⟨i,o,v,hi,_⟩|⟨hne,_⟩
   ·rw[heq];exact hq
   ·rw[hG']at hi;cases hi
   ·exact absurd hG' hne
 |succ m ih =>
  intro lR lG pend aR aG w n hm hrel hG;refine⟨fun hR=>?_,fun j hj=>?_⟩
  ·
   have hnone:∀t o,lG.getD t Y=H->lR.getD t Y=Y->ops[t]?=G o->False:=by
    intro t
    induction t using Nat.strongRecOn with
    |_ t iht =>
     intro o hGt hRt ho
     have hmem:t∈J5 .any ops lR:=by
      refine mem_ready.2 ⟨?_,o,ho,fun e he hb=>?_⟩
      ·have hlt:t<lR.size:=by rw[hrel.sR];exact(Array.getElem?_eq_some_iff.1 ho).1
       simpa[hlt]using hRt
      ·have hlt:=(Z3U hs ho).1 e he hb
       have hGe:=hrel.cG t o ho hGt e he hb;cases hRe:lR.getD e.on Y with
       |true=>rfl
       |false =>
        have hsz:e.on<ops.size:=Nat.lt_trans hlt (Array.getElem?_eq_some_iff.1 ho).1;exact(iht e.on hlt _ hGe hRe (JH hsz)).elim
     rw[hR]at hmem;cases hmem
   have heq:aR=aG:=by
    have h1:aR.tmps=aG.tmps:=Je fun d=>hrel.same d fun t o hGt hRt ho=>(hnone t o hGt hRt ho).elim;have h2:=hrel.defers;cases aR;cases aG
    simp_all
   have hl:lR=lG:=by
    refine Array.ext (by rw[hrel.sR,hrel.sG]) fun t h1 h2=>?_;have ho:∃o,ops[t]?=G o:=⟨_,JH (by rw[<-hrel.sR];exact h1)⟩;obtain⟨o,ho⟩:=ho;cases hv:lR[t]with
    |true =>
     have:=hrel.sub t (by simp[h1,hv]);simpa[h2]using this.symm
    |false =>
     cases hv':lG[t]with
     |false=>rfl
     |true=>exact(hnone t o (by simp[h2,hv']) (by simp[h1,hv]) ho).elim
   cases n with
   |zero=>exact hG.elim
   |succ n =>
    rcases hG with⟨_,hq⟩|⟨i,o,v,hi,_⟩|⟨hne,_⟩
    ·rw[heq];exact hq
    ·rw[<-hl,hR]at hi;cases hi
    ·exact absurd (hl ▸ hR) hne
  ·
   obtain⟨hjlt,hjR⟩:=Z3P hj;obtain⟨hj0,oj,hoj,hall⟩:=mem_ready.1 hj;have hsel:=ZFo hs j oj hoj;have hcount:=count_set hj0 hm;have hjs:j<lR.size:=by rw[hrel.sR];exact hjlt
   clear hj0
   induction n generalizing lG pend aG with
   |zero=>exact hG.elim
   |succ n ihn =>
    have hlook:=fun d hd=>ZCp hrel hs hj hoj d hd;by_cases hjG:lG.getD j Y=H
    ·
     obtain⟨_,v,hmem,⟨o',ho',hya⟩,hval⟩:=hrel.held j oj hjG hjR hoj;rw[hoj]at ho';cases ho'
     have hnew:Rel P ops (lR.setIfInBounds j H) lG pend (aR.put oj.dst v) aG w:={
      sR:=by simpa using hrel.sR
      sG:=hrel.sG
      cR:=hrel.cR.set hj
      cG:=hrel.cG
      sub:=fun k hk=>by
       by_cases hkj:j=k
       ·subst hkj;exact hjG
       ·rw[Z0o hkj]at hk;exact hrel.sub k hk
      defers:=by rw[Zd];exact hrel.defers
      size:=by rw[put_size];exact hrel.size
      same:=fun d hd=>by
       by_cases hdj:oj.dst=G d
       ·rw[hdj]
        by_cases hlt:d<aG.tmps.size
        ·rw[Z2j (by rw[hrel.size];exact hlt),hval d hdj hlt]
        ·have e1:(aR.put (G d) v).tmps[d]?=U:=JD (by rw[put_size,hrel.size];exact Nat.not_lt.1 hlt)
         have e2:aG.tmps[d]?=U:=JD (Nat.not_lt.1 hlt);rw[e1,e2]
       ·rw[Z0w hdj]
        refine hrel.same d fun t o hGt hRt ho=>?_;by_cases htj:j=t
        ·subst htj;rw[hoj]at ho;cases ho;exact hdj
        ·exact hd t o hGt (by rw[Z0o htj];exact hRt) ho
      held:=fun t o hGt hRt ho=>by
       by_cases htj:j=t
       ·subst htj;rw[Z0q hjs]at hRt;cases hRt
       ·rw[Z0o htj]at hRt;exact hrel.held t o hGt hRt ho }
     have hnext:=ih (lR.setIfInBounds j H) lG pend (aR.put oj.dst v) aG w (n+1) hcount hnew hG;unfold wpOp;simp only[hoj];rw[Z4f hlook];rcases hya with⟨hw,hrun⟩|⟨hw,rfl⟩
     ·simp only[hw,if_true]
      refine .inl ?_;unfold Oper.wp;rw[Z4o hsel hlook,hrun];exact hnext
     ·simp only[hw]
      exact hnext
    ·have hjG':lG.getD j Y=Y:=by simpa using hjG
     have hjrG:j∈J5 .any ops lG:=by
      refine mem_ready.2 ⟨?_,oj,hoj,fun e he hb=>hrel.sub _ (hall e he hb)⟩;have:j<lG.size:=by rw[hrel.sG];exact hjlt
      simpa[this]using hjG'
     rcases hG with⟨hnil,_⟩|⟨i,oi,v,hi,hoi,hfi,hyi,hG⟩|⟨_,hev⟩
     ·rw[hnil]at hjrG;cases hjrG
     ·
      obtain⟨hilt,hiG⟩:=Z3P hi;have his:i<lG.size:=by rw[hrel.sG];exact hilt
      have hiR:lR.getD i Y=Y:=by
       cases h:lR.getD i Y with
       |false=>rfl
       |true=>rw[hrel.sub i h]at hiG;cases hiG
      refine ihn (lG.setIfInBounds i H) ((i,v)::pend) (aG.put oi.dst v) ?_ hG
      ·exact{
        sR:=hrel.sR
        sG:=by simpa using hrel.sG
        cR:=hrel.cR
        cG:=hrel.cG.set hi
        sub:=fun k hk=>JI (hrel.sub k hk)
        defers:=by rw[Zd];exact hrel.defers
        size:=by rw[put_size];exact hrel.size
        same:=fun d hd=>by
         have hne:oi.dst≠G d:=hd i oi (Z0q his) hiR hoi;rw[Z0w hne];exact hrel.same d fun t o hGt hRt ho=>hd t o (JI hGt) hRt ho
        held:=fun t o hGt hRt ho=>by
         by_cases hti:i=t
         ·subst hti
          rw[hoi]at ho;cases ho;refine⟨hfi,v,by simp,?_,fun d hd hlt=>?_⟩
          ·refine hyi.of_same hs fun o' ho' d hd=>(Z0w fun hdst=>?_).symm
           rw[hoi]at ho';cases ho';exact((Z3U hs hoi).2 d hdst).1 hd
          ·rw[hd];rw[put_size]at hlt;exact Z2j hlt
         ·rw[Z0o hti]at hGt
          obtain⟨hft,u,hu,hyu,hv⟩:=hrel.held t o hGt hRt ho;refine⟨hft,u,by simp[hu],hyu.put_later hs hrel.cG hoi (.inl hfi) hiG hGt,fun d hd hlt=>?_⟩;rw[put_size]at hlt;have hne:oi.dst≠G d:=fun he=>((Z3U hs hoi).2 d he).2 t o ho (Ne.symm hti) |>.1 hd;rw[Z0w hne];exact hv d hd hlt }
     ·
      refine wpOp_mono ?_ (ZDl hoj hsel hlook hrel.defers (fun d hd=>hrel.same d (fun t o _ _ ho=>hd t o ho)) hQ (hev j hjrG));rintro a' w'⟨v,ds,rfl,hpend,hG'⟩;have hjsG:j<lG.size:=by rw[hrel.sG];exact hjlt
      refine ih (lR.setIfInBounds j H) (lG.setIfInBounds j H) _ _ _ w' n hcount ?_ hG'
      exact{
       sR:=by simpa using hrel.sR
       sG:=by simpa using hrel.sG
       cR:=hrel.cR.set hj
       cG:=hrel.cG.set hjrG
       sub:=fun k hk=>by
        by_cases hkj:j=k
        ·subst hkj;exact Z0q hjsG
        ·rw[Z0o hkj]at hk;exact JI (hrel.sub k hk)
       defers:=by simp only[Zd,hrel.defers]
       size:=by simp only[put_size,hrel.size]
       same:=fun d hd=>by
        by_cases hdj:oj.dst=G d
        ·rw[hdj]
         by_cases hlt:d<aG.tmps.size
         ·rw[Z2j (by simpa[hrel.size]using hlt),Z2j (by simpa using hlt)]
         ·have e1:(({ aR with defers:=ds++aR.defers }:Jm).put (G d) v).tmps[d]?=U:=JD (by simp only[put_size,hrel.size];exact Nat.not_lt.1 hlt)
          have e2:(({ aG with defers:=ds++aG.defers }:Jm).put (G d) v).tmps[d]?=U:=JD (by simp only[put_size];exact Nat.not_lt.1 hlt);rw[e1,e2]
        ·rw[Z0w hdj,Z0w hdj]
         refine hrel.same d fun t o hGt hRt ho=>?_;by_cases htj:j=t
         ·subst htj;rw[hoj]at ho;cases ho;exact hdj
         ·exact hd t o (JI hGt) (by rw[Z0o htj];exact hRt) ho
       held:=fun t o hGt hRt ho=>by
        by_cases htj:j=t
        ·subst htj;rw[Z0q hjs]at hRt;cases hRt
        ·rw[Z0o htj]at hRt hGt
         obtain⟨hft,u,hu,_,hv⟩:=hrel.held t o hGt hRt ho;have hdt:=Z6c hrel.cR hj hRt;refine⟨hft,u,List.mem_filter.2 ⟨hu,by show(!(Z2B ops t).getD j Y)=H;rw[hdt];rfl⟩,hpend (t,u) hu hdt,fun d hd hlt=>?_⟩;have hne:oj.dst≠G d:=fun he=>((Z3U hs hoj).2 d he).2 t o ho (Ne.symm htj) |>.1 hd;rw[Z0w hne];rw[put_size]at hlt;exact hv d hd hlt }
theorem ZB0{id n:Nat}{a:Jm}{w:J0}(hm:P.follows .mixedOrders=H)(hs:ssa ops=H)(hQ:∀c (a a':Jm) w,a.defers=a'.defers->(∀d,(∀(t:Nat) o,ops[t]?=G o->o.dst≠G d)->a.tmps[d]?=a'.tmps[d]?)->Q (.panic c) a w->Q (.panic c) a' w)
  (h:wpG P ops Q n (JW ops.size Y) [] a { w with drawn:=w.drawn+1 }):(Code.region id ops H).wp P Q a w:=by
 refine wp_region_any hm (sim hs hQ _ _ _ [] a a _ n ?_ ?_ h)
 ·simp
 ·exact{
   sR:=by simp
   sG:=by simp
   cR:=Z1i.start _ _
   cG:=Z1i.start _ _
   sub:=fun _ h=>h
   defers:=rfl
   size:=rfl
   same:=fun _ _=>rfl
   held:=fun t o h1 h2 _=>by rw[h1]at h2;cases h2 }
end
structure Car where
 (I B S O D N V L M W E J R:Type)
inductive BX (C:Car) where
 |var (b:C.B)
 |icmp (op:JQ) (a b:C.I)
 |scmp (op:JQ) (a b:C.S)
 |isNil (o:C.O)
 |isNilM (m:C.M)
 |not (a:BX C)
inductive SV (C:Car) where
 |bool (b:BX C)
 |blit (b:Bool)
 |int (k:IntKind) (n:C.I)
 |ilit (k:IntKind) (n:Int)
 |str (s:C.S)
 |ptr (o:C.O)
 |addr (d:C.D)
 |slice (o:C.O) (len cap:C.N)
 |map (m:C.M)
 |func (fn:Fn) (first cap:List (SV C))
 |iface (t:X) (v:SV C)
 |nilIface
 |nilFunc
 |agg (cs:List (SV C))
 |big (n:Nat) (l:C.L)
 |tup (vs:List (SV C))
 |raw (v:C.V)
inductive Z6M where
 |int (k:IntKind)|bool|str|ptr|slice|map|raw|addr
 deriving DecidableEq,Repr,Inhabited
inductive Shape1 where
 |cell (c:Z6M)
 |agg (cs:List Z6M)
 |big (n:Nat)
 deriving Repr,Inhabited
inductive Shape where
 |one (s:Shape1)
 |tup (ss:List Shape1)
 deriving Repr,Inhabited
abbrev Env(C:Car):=List (Nat×SV C)
def Z3A{C:Car}:Env C->Nat->SV C
 |[],_=>.tup []
 |(u,v)::r,t=>bif Nat.beq u t then v else Z3A r t
structure Alg (C:Car) where
 il:Int->C.I
 nl:Nat->C.N
 sl:ByteArray->C.S
 onil:C.O
 osome:C.D->C.O
 mnil:C.M
 dl:Nat->Nat->C.D
 wrap:IntKind->C.I->C.I
 add:C.I->C.I->C.I
 sub:C.I->C.I->C.I
 mul:C.I->C.I->C.I
 tdiv:C.I->C.I->C.I
 tmod:C.I->C.I->C.I
 fdiv:C.I->C.I->C.I
 bits:JQ->IntKind->C.I->C.I->C.I
 shl:IntKind->C.I->C.I->C.I
 shr:IntKind->C.I->C.I->C.I
 ssize:C.S->C.N
 sext:C.S->C.N->C.N->C.S
 sat:C.S->C.N->C.I
 n2i:C.N->C.I
 i2n:C.I->C.N
 nsub:C.N->C.N->C.N
 nmul:C.N->Nat->C.N
 dadd:C.D->C.N->C.D
 osub:C.O->C.N->C.N->Nat->C.O
 dsub:C.D->Nat->C.N->Nat->C.D
 lext:C.L->Nat->Nat->C.L
 lget:C.L->Nat->C.V
 lconst:Z->C.L
 vlit:Z->C.V
 lput:C.L->Nat->List (SV C)->C.L
 lputL:C.L->Nat->Nat->C.L->C.L
 junk:C.J->Nat->C.V
 /-- v fills one cell -/
 one:C.V->C.R->C.R
 /-- l has n cells -/
 lsz:C.L->Nat->C.R->C.R
 fail:String->C.R
 and:C.R->C.R->C.R
 imp:BX C->Bool->C.R->C.R
 exI:(C.I->C.R)->C.R
 exB:(C.B->C.R)->C.R
 exS:(C.S->C.R)->C.R
 exO:(C.O->C.R)->C.R
 exD:(C.D->C.R)->C.R
 exN:(C.N->C.R)->C.R
 exV:(C.V->C.R)->C.R
 exL:(C.L->C.R)->C.R
 exM:(C.M->C.R)->C.R
 allI:(C.I->C.R)->C.R
 allB:(C.B->C.R)->C.R
 allS:(C.S->C.R)->C.R
 allO:(C.O->C.R)->C.R
 allN:(C.N->C.R)->C.R
 allV:(C.V->C.R)->C.R
 allL:(C.L->C.R)->C.R
 allM:(C.M->C.R)->C.R
 cellEq:C.W->C.D->SV C->C.R->C.R
 cellsEq:C.W->C.D->Nat->C.L->C.R->C.R
 endEq:C.E->SV C->C.R->C.R
 valEq:C.V->SV C->C.R->C.R
 okO:C.O->C.D->C.R->C.R
 /-- 0<=i<n -/
 rng:C.I->C.N->C.R->C.R
 /-- 0<=i<=n -/
 rle:C.I->C.N->C.R->C.R
 /-- a<=b -/
 nle:C.N->C.N->C.R->C.R
 neZ:C.I->C.R->C.R
 geZ:C.I->C.R->C.R
 ifNil:C.V->C.R->C.R->C.R
 isIf:C.V->C.R->C.R
 okM:C.V->String->C.R->C.R
 imax:C.I->C.I->C.I
 imin:C.I->C.I->C.I
 st:C.W->C.D->SV C->(C.W->C.R)->C.R
 new:X->List (SV C)->C.W->(C.D->C.W->C.R)->C.R
 newL:X->Nat->C.L->C.W->(C.D->C.W->C.R)->C.R
 drew:C.W->(C.W->C.R)->C.R
 call:Q2->List (SV C)->C.W->(C.E->C.W->C.R)->C.R
 callV:C.V->List (SV C)->C.W->(C.E->C.W->C.R)->C.R
 callM:C.V->String->List (SV C)->C.W->(C.E->C.W->C.R)->C.R
 ext:Q2->List (SV C)->C.W->(C.V->C.W->C.R)->C.R
 read:J8->(J1->SV C)->C.W->(C.V->C.R)->C.R
 reread:J8->(J1->SV C)->SV C->C.W->C.R->C.R
 run:J8->(J1->SV C)->C.W->(C.V->C.W->C.R)->C.R
 runU:J8->(J1->SV C)->C.W->(C.W->C.R)->C.R
 done:SV C->C.W->C.R
 panic:SV C->C.W->C.R
 join:List Shape1->((List (SV C)->C.W->C.R)->C.R)->(List (SV C)->C.J->C.W->C.R)->C.R
 loop:List Shape1->List (SV C)->C.W->(List (SV C)->C.J->C.W->(List (SV C)->C.W->C.R)->C.R)->C.R
section
variable{C:Car}(A:Alg C)(P:Program)
def und(t:X):JE:=(P.underlying t).getD Jy
def Z0E(t:X):Nat:=((P.info? t).map (·.size)).getD 0
def ZET:JE->Z6M
 | .int k=>.int k
 | .bool=>.bool
 | .string=>.str
 | .pointer _=>.ptr
 | .slice _=>.slice
 | .map _ _=>.map
 |_=>.raw
def Z5n:JE->Bool
 | Ji _| Ja _ _=>H
 |_=>Y
def ZB9:Nat->X->List Z6M
 |0,_=>[]
 |n+1,t=>match und P t with
  | Ji fs=>fs.toList.flatMap fun f=>ZB9 n f.type
  | Ja k e=>(Jp k (ZB9 n e)).flatten
  |d=>[ZET d]
def Z3o:Nat:=8
def Z37(t:X):Shape1 :=
 match und P t with
 | Ji _| Ja _ _=>if Z0E P t<=Z3o/\(ZB9 P 8 t).length=Z0E P t then .agg (ZB9 P 8 t)else .big (Z0E P t)
 |d=>.cell (ZET d)
def Z82(t:X):Shape :=
 match und P t with
 | .tuple ts=>.tup (ts.toList.map (Z37 P))
 |_=>.one (Z37 P t)
def ZFx(o:J8):Shape :=
 match o.op with
 | Jn _ _ t H=>.tup [Z37 P t,.cell .bool]
 |_=>Z82 P o.type
def Z9P:Z6M->(SV C->C.R)->C.R
 | .int k,f=>A.exI fun n=>f (.int k n)
 | .bool,f=>A.exB fun b=>f (.bool (.var b))
 | .str,f=>A.exS fun s=>f (.str s)
 | .ptr,f=>A.exO fun o=>f (.ptr o)
 | .slice,f=>A.exO fun o=>A.exN fun l=>A.exN fun c=>f (.slice o l c)
 | .map,f=>A.exM fun m=>f (.map m)
 | .raw,f=>A.exV fun v=>f (.raw v)
 | .addr,f=>A.exD fun d=>f (.addr d)
def Z5P:List Z6M->(List (SV C)->C.R)->C.R
 |[],f=>f []
 |c::cs,f=>Z9P A c fun v=>Z5P cs fun vs=>f (v::vs)
def Z8M:Shape1->(SV C->C.R)->C.R
 | .cell c,f=>Z9P A c f
 | .agg cs,f=>Z5P A cs fun vs=>f (.agg vs)
 | .big n,f=>A.exL fun l=>f (.big n l)
def Z6e:List Shape1->(List (SV C)->C.R)->C.R
 |[],f=>f []
 |s::ss,f=>Z8M A s fun v=>Z6e ss fun vs=>f (v::vs)
def Z3I:Shape->(SV C->C.R)->C.R
 | .one s,f=>Z8M A s f
 | .tup ss,f=>Z6e A ss fun vs=>f (.tup vs)
def Z2C:Z->SV C
 | .bool b=>.blit b
 | .int k n=>.ilit k n
 | .string s=>.str (A.sl s)
 | .pointer o=>match o with
   |none=>.ptr A.onil
   |some d=>match d.spot with
    |none=>.addr (A.dl d.block d.off)
    |some _=>.raw (A.vlit (.pointer (G d)))
 | .slice o l c=>match o with
   |none=>.slice A.onil (A.nl l) (A.nl c)
   |some _=>.raw (A.vlit (.slice o l c))
 | .map m=>match m with
   |none=>.map A.mnil
   |some _=>.raw (A.vlit (.map m))
 | .nilIface=>.nilIface
 | .nilFunc=>.nilFunc
 | .tuple vs=>if vs.size=0 then .tup []else .raw (A.vlit (.tuple vs))
 |v=>.raw (A.vlit v)
def Z5d:Z->List (SV C)
 | .agg cs=>cs.toList.map (Z2C A)
 |z=>[Z2C A z]
def ZE6:Z->SV C
 | .agg cs=>if cs.size<=Z3o then .agg (cs.toList.map (Z2C A))else .big cs.size (A.lconst (.agg cs))
 | .iface t v=>.iface t (Z2C A v)
 |v=>Z2C A v
def ev(env:Env C):J1->SV C
 | .tmp t=>Z3A env t
 | .const v=>ZE6 A v
 | .global g=>.addr (A.dl g 0)
 | .func f=>.func (.func f) [] []
def asI:SV C->Option (IntKind×C.I)
 | .int k n=>G (k,n)
 | .ilit k n=>G (k,A.il n)
 |_=>U
def ZBU:JQ->Int->Int->Option Bool
 | .eql,a,b=>G (a == b)
 | .neq,a,b=>G (a != b)
 | .lss,a,b=>G (decide (a<b))
 | .leq,a,b=>G (decide (a<=b))
 | .gtr,a,b=>G (decide (a>b))
 | .geq,a,b=>G (decide (a>=b))
 |_,_,_=>U
def binS(op:JQ)(x y:SV C)(k:SV C->C.R):Option C.R :=
 match x,y with
 | .str a,.str b =>
   match op with
   | .eql| .neq| .lss| .leq| .gtr| .geq=>G (k (.bool (.scmp op a b)))
   |_=>U
 | .ilit ka a,.ilit kb b =>
   match op with
   | .add=>if ka=kb then G (k (.ilit ka (ka.wrap (a+b))))else U
   | .sub=>if ka=kb then G (k (.ilit ka (ka.wrap (a-b))))else U
   | .mul=>if ka=kb then G (k (.ilit ka (ka.wrap (a*b))))else U
   |_=>match ZBU op a b with
    |some t=>if ka=kb then G (k (.blit t))else U
    |none=>U
 |x,y =>
  match asI A x,asI A y with
  |some (ka,a),G (kb,b) =>
   match op with
   | .shl=>match y with
     | .ilit _ c=>if 0<=c then G (k (.int ka (A.wrap ka (A.mul a (A.il (2^min c.toNat ka.bits))))))else U
     |_=>G (A.geZ b (k (.int ka (A.shl ka a b))))
   | .shr=>match y with
     | .ilit _ c=>if 0<=c then G (k (.int ka (A.fdiv a (A.il (2^min c.toNat ka.bits)))))else U
     |_=>G (A.geZ b (k (.int ka (A.shr ka a b))))
   |_ =>
    if ka=kb then
     match op with
     | .add=>G (k (.int ka (A.wrap ka (A.add a b))))
     | .sub=>G (k (.int ka (A.wrap ka (A.sub a b))))
     | .mul=>G (k (.int ka (A.wrap ka (A.mul a b))))
     | .quo=>match y with
       | .ilit _ c=>if c=0 then U else G (k (.int ka (A.wrap ka (A.tdiv a b))))
       |_=>G (A.neZ b (k (.int ka (A.wrap ka (A.tdiv a b)))))
     | .rem=>match y with
       | .ilit _ c=>if c=0 then U else G (k (.int ka (A.tmod a b)))
       |_=>G (A.neZ b (k (.int ka (A.tmod a b))))
     | .and| .or| .xor| .andNot=>G (k (.int ka (A.bits op ka a b)))
     | .eql| .neq| .lss| .leq| .gtr| .geq=>G (k (.bool (.icmp op a b)))
     |_=>U
    else U
  |_,_=>U
inductive ZFN (C:Car) where
 |b (x:BX C)
 |lit (b:Bool)
 |either (v:C.V)
def ZE5(d:JE)(cx cy:Bool)(x y:SV C):Option (ZFN C) :=
 match d,x,y with
 | J7 _,.nilIface,.nilIface=>if cx||cy then G (.lit H)else U
 | J7 _,.iface _ _,.nilIface=>G (.lit Y)
 | J7 _,.nilIface,.iface _ _=>G (.lit Y)
 | J7 _,.raw v,.nilIface=>if cx||cy then G (.either v)else U
 | .pointer _,.ptr o,.ptr _=>if cy then G (.b (.isNil o))else U
 | .pointer _,.addr _,.ptr _=>if cy then G (.lit Y)else U
 | .slice _,.slice o _ _,.slice _ _ _=>if cy then G (.b (.isNil o))else U
 | .map _ _,.map o,.map _=>if cy then G (.b (.isNilM o))else U
 |_,_,_=>U
def nilK(A:Alg C)(neg:Bool)(k:SV C->C.R):ZFN C->C.R
 | .b x=>k (.bool (if neg then .not x else x))
 | .lit b=>k (.blit (if neg then !b else b))
 | .either v=>A.ifNil v (k (.blit (!neg))) (k (.blit neg))
def nilS(op:JQ)(d:JE)(cx cy:Bool)(x y:SV C)(k:SV C->C.R):Option C.R :=
 match op with
 | .eql=>(ZE5 d cx cy x y).map (nilK A Y k)
 | .neq=>(ZE5 d cx cy x y).map (nilK A H k)
 |_=>U
def ZP:J1->Bool
 | .const .nilIface| .const (.pointer U)| .const (.slice U _ _)| .const (.map U)=>H
 |_=>Y
def ZEh:List (SV C)->C.R->C.R
 |[],r=>r
 | .raw v::vs,r=>A.one v (ZEh vs r)
 |_::vs,r=>ZEh vs r
def Z4k:SV C->Option (List (SV C))
 | .agg cs=>G cs
 | .big _ _=>U
 | .tup _=>U
 |v=>G [v]
def Z8h:List (SV C)->Nat->List (SV C)->List (SV C)
 |l,_,[]=>l
 |l,i,v::vs=>Z8h (l.set i v) (i+1) vs
def Z2w(place:Nat->Option (Nat×Nat))(ev:J1->SV C):List (SV C)->List (Nat×J1)->Option (List (SV C))
 |cells,[]=>G cells
 |cells,(i,x)::rest=>match place i with
  |none=>U
  |some (off,size)=>match Z4k (ev x)with
   |none=>U
   |some vs=>if vs.length=size/\off+size<=cells.length then Z2w place ev (Z8h cells off vs) rest else U
def Z3D(place:Nat->Option (Nat×Nat))(ev:J1->SV C)(n:Nat):C.L->List (Nat×J1)->(C.L->C.R)->Option C.R
 |l,[],k=>G (k l)
 |l,(i,x)::rest,k=>match place i with
  |none=>U
  |some (off,size) =>
   match ev x with
   | .big m l'=>if m=size/\off+size<=n then(Z3D place ev n (A.lputL l off m l') rest k).map (A.lsz l' m)else U
   |v=>match Z4k v with
    |none=>U
    |some vs=>if vs.length=size/\off+size<=n then Z3D place ev n (A.lput l off vs) rest k else U
def ZDB(t:X):Option (Nat->Option (Nat×Nat)) :=
 match P.underlying t with
 |some (Ja _ e)=>match P.info? e with
  |some ie=>G fun i=>G (i*ie.size,ie.size)
  |none=>U
 |some (Ji fields)=>(fields.toList.mapM fun f=>(P.info? f.type).map fun i=>(f.offset,i.size)).map fun places i=>places.toArray[i]?
 |_=>U
def Z4J(t:X):Option Z:=(P.info? t).bind (·.zero)
def ZAg:List (SV C)->C.L->Nat->Nat->C.R->C.R
 |[],_,_,_,r=>r
 |v::vs,l,off,i,r=>A.valEq (A.lget l (off+i)) v (ZAg vs l off (i+1) r)
def ZEA(t:X)(x:SV C)(off:Nat)(k:SV C->C.R):Option C.R :=
 match Z37 P t,x with
 | .cell _,.agg cs=>(cs[off]?).map k
 | .cell c,.big n l=>if off<n then G (A.lsz l n (Z9P A c fun sv=>A.valEq (A.lget l off) sv (k sv)))else U
 | .agg ds,.agg cs=>if off+ds.length<=cs.length then G (k (.agg ((cs.drop off).take ds.length)))else U
 | .agg ds,.big n l=>if off+ds.length<=n then G (A.lsz l n (Z5P A ds fun svs=>ZAg A svs l off 0 (k (.agg svs))))else U
 | .big m,.big n l=>if off+m<=n then G (A.lsz l n (k (.big m (A.lext l off m))))else U
 |_,_=>U
def ZCc(x:SV C)(most:C.N)(k:C.N->C.R):Option C.R :=
 match x with
 | .ilit _ n=>if 0<=n then G (A.nle (A.nl n.toNat) most (k (A.nl n.toNat)))else U
 | .int _ n=>G (A.rle n most (k (A.i2n n)))
 |_=>U
def hiS(hi:Option (SV C))(dflt most:C.N)(low:C.N->Option C.R):Option C.R :=
 match hi with
 |none=>low dflt
 |some (.ilit _ n)=>if 0<=n then(low (A.nl n.toNat)).map (A.nle (A.nl n.toNat) most)else U
 |some (.int _ n)=>(low (A.i2n n)).map (A.rle n most)
 |_=>U
def loS(lo:Option (SV C))(h:C.N)(k0:C.R)(k:C.N->C.R):Option C.R :=
 match lo with
 |none=>G k0
 |some (.ilit _ 0)=>G k0
 |some x=>ZCc A x h k
def ZDZ(t:X)(x:SV C)(lo hi:Option (SV C))(k:SV C->C.R):Option C.R :=
 match und P t,x with
 | .slice e,.slice o len cap =>
   if(P.info? e).isSome then hiS A hi len cap fun h=>loS A lo h (k (.slice o h cap)) fun l=>k (.slice (A.osub o cap l (Z0E P e)) (A.nsub h l) (A.nsub cap l))else U
 | Ja n e,.addr d =>
   if(P.info? e).isSome then hiS A hi (A.nl n) (A.nl n) fun h=>loS A lo h (k (.slice (A.osome d) h (A.nl n))) fun l=>k (.slice (A.osome (A.dsub d n l (Z0E P e))) (A.nsub h l) (A.nsub (A.nl n) l))else U
 | .string,.str s =>
   hiS A hi (A.ssize s) (A.ssize s) fun h=>loS A lo h (k (.str (A.sext s (A.nl 0) h))) fun l=>k (.str (A.sext s l h))
 |_,_=>U
def Z1F(o:J8)(ev:J1->SV C)(k:SV C->C.R):Option C.R :=
 match o.op with
 | .move x| .assign x=>G (k (ev x))
 | .pick c a b=>match ev c with
   | .blit t=>G (k (if t then ev a else ev b))
   | .bool b'=>G (A.and (A.imp b' H (k (ev a))) (A.imp b' Y (k (ev b))))
   |_=>U
 | .build t parts=>match Z4J P t,ZDB P t with
   |some (.agg cs),G place =>
    if cs.size<=Z3o then(Z2w place ev (cs.toList.map (Z2C A)) parts.toList).map fun l=>ZEh A (parts.toList.map fun p=>ev p.2) (k (.agg l))
    else(Z3D A place ev cs.size (A.lconst (.agg cs)) parts.toList fun l=>k (.big cs.size l)).map (ZEh A (parts.toList.map fun p=>ev p.2))
   |_,_=>U
 | .nilCheck x=>match ev x with
   | .addr d=>G (k (.addr d))
   | .ptr o=>G (A.exD fun d=>A.okO o d (k (.addr d)))
   | .func (.func f) a b=>G (k (.func (.func f) a b))
   | .iface t v=>G (k (.iface t v))
   | .raw v=>G (A.isIf v (k (.raw v)))
   | .func (.method m) [.raw v] []=>G (A.okM v m (k (.func (.method m) [.raw v] [])))
   |_=>U
 | .binOp op t x y _=>match binS A op (ev x) (ev y) k with
   |some r=>G r
   |none=>nilS A op (und P t) (ZP x) (ZP y) (ev x) (ev y) k
 | .unOp op _ x=>match op,ev x with
   | .not,.bool b=>G (k (.bool (.not b)))
   | .not,.blit b=>G (k (.blit (!b)))
   | .neg,.int ka n=>G (k (.int ka (A.wrap ka (A.sub (A.il 0) n))))
   | .neg,.ilit ka n=>G (k (.ilit ka (ka.wrap (0-n))))
   | .xor,.int ka n=>G (k (.int ka (A.bits .xor ka (A.il (if ka.signed then -1 else ka.max)) n)))
   |_,_=>U
 | Jq src dst x=>if(P.underlying src).isNone then U else match und P dst,ev x with
   | .int kd,.int _ n=>G (k (.int kd (A.wrap kd n)))
   | .int kd,.ilit _ n=>G (k (.ilit kd (kd.wrap n)))
   | .string,.str s=>match und P src with
     | .string=>G (k (.str s))
     |_=>U
   |_,_=>U
 | Jb t x=>match und P t with
   | J7 _| Jy=>U
   |_=>G (k (.iface t (ev x)))
 | .makeFunc fn a b=>G (k (.func fn (a.toList.map ev) (b.toList.map ev)))
 | .slice t x lo hi U=>ZDZ A P t (ev x) (lo.map ev) (hi.map ev) k
 | Jr s x f=>match ev x,und P s with
   | .addr d,Ji fs=>match fs[f]? with
     |some fd=>if Z0E P fd.type=0 then U else if(P.underlying fd.type).isNone then U else G (k (.addr (if fd.offset=0 then d else A.dadd d (A.nl fd.offset))))
     |none=>U
   |_,_=>U
 | .field s x f=>match und P s with
   | Ji fs=>match fs[f]? with
     |some fd=>if(P.underlying fd.type).isNone then U else ZEA A P fd.type (ev x) fd.offset k
     |none=>U
   |_=>U
 | Js t x i=>match und P t,ev x with
   | .slice e,.slice o len _=>match asI A (ev i)with
     |some (_,n)=>if(P.info? e).isNone then U else G (A.exD fun d=>A.okO o d (A.rng n len (k (.addr (A.dadd d (idx (Z0E P e) (ev i) n))))))
     |none=>U
   | Ja m e,.addr d=>if(P.info? e).isNone then U else match ev i with
     | .ilit _ n=>if 0<=n/\n<m then G (k (.addr (if n=0 then d else A.dadd d (A.nl (n.toNat*Z0E P e)))))else U
     | .int _ n=>G (A.rng n (A.nl m) (k (.addr (A.dadd d (if Z0E P e=1 then A.i2n n else A.nmul (A.i2n n) (Z0E P e))))))
     |_=>U
   |_,_=>U
 | .index t x i=>match und P t,ev x,ev i with
   | Ja m e,v,.ilit _ n=>if(P.underlying e).isNone then U else if 0<=n/\n<m then ZEA A P e v (n.toNat*Z0E P e) k else U
   | .string,.str s,i=>match asI A i with
     |some (_,n)=>G (A.rng n (A.ssize s) (k (.int .u8 (A.sat s (A.i2n n)))))
     |none=>U
   |_,_,_=>U
 | Jz x i=>match ev x with
   | .tup vs=>(vs[i]?).map k
   |_=>U
 | JN t x=>match und P t,ev x with
   | Ja n _,.slice o len _=>G (A.nle (A.nl n) len (k (.ptr o)))
   |_,_=>U
 | Q6 c=>match c.callee,c.args.toList,c.argTypes.toList with
   | JK .len,[x],[t]=>match und P t,ev x with
     | .slice _,.slice _ l _=>G (k (.int .i64 (A.n2i l)))
     | .string,.str s=>G (k (.int .i64 (A.n2i (A.ssize s))))
     | Ja n _,_=>G (k (.ilit .i64 n))
     |_,_=>U
   | JK .cap,[x],[t]=>match und P t,ev x with
     | .slice _,.slice _ _ c=>G (k (.int .i64 (A.n2i c)))
     |_,_=>U
   | JK .max,[x,y],_=>match asI A (ev x),asI A (ev y)with
     |some (ka,a),G (kb,b)=>if ka=kb then G (k (.int ka (A.imax a b)))else U
     |_,_=>U
   | JK .min,[x,y],_=>match asI A (ev x),asI A (ev y)with
     |some (ka,a),G (kb,b)=>if ka=kb then G (k (.int ka (A.imin a b)))else U
     |_,_=>U
   |_,_,_=>U
 |_=>U
 where
 idx (sz:Nat) (i:SV C) (n:C.I):C.N:=match i with
  | .ilit _ c=>A.nl (c.toNat*sz)
  |_=>if sz=1 then A.i2n n else A.nmul (A.i2n n) sz
def ZDF(o:J8):Bool :=
 match o.op with
 | .move _| .assign _| .pick .. | .build .. | .load .. | .nilCheck _| .binOp .. | .unOp .. | Jb .. | .makeFunc .. | .slice .. | Jr .. | .field ..
 | Js .. | .index .. | .lookup .. | Jz .. | JN .. | Jn ..=>H
 | Jq _ dst _=>match und P dst with
   | .slice _=>Y
   |_=>H
 | Q6 c=>match c.callee with
   | JK .len| JK .cap| JK .max| JK .min=>H
   |_=>Y
 |_=>Y
def Z8H(w:C.W)(d:C.D):Nat->List (SV C)->C.R->C.R
 |_,[],r=>r
 |i,v::vs,r=>A.cellEq w (if i=0 then d else A.dadd d (A.nl i)) v (Z8H w d (i+1) vs r)
def ZD0(t:X)(d:C.D)(w:C.W)(k:SV C->C.R):C.R :=
 if(P.underlying t).isNone then A.fail "load: type" else
 match Z37 P t with
 | .cell c=>Z9P A c fun sv=>A.cellEq w d sv (k sv)
 | .agg cs=>Z5P A cs fun svs=>Z8H A w d 0 svs (k (.agg svs))
 | .big n=>A.exL fun l=>A.cellsEq w d n l (k (.big n l))
def Z5a(t:X)(d:C.D)(w:C.W)(sv:SV C)(r:C.R):C.R :=
 match Z37 P t,sv with
 | .cell _,sv=>A.cellEq w d sv r
 | .agg _,.agg svs=>Z8H A w d 0 svs r
 | .big n,.big _ l=>A.cellsEq w d n l r
 |_,_=>A.fail "load"
def ZBc(o:J8)(ev:J1->SV C)(w:C.W)(k:SV C->C.R):C.R :=
 match o.op with
 | .load t x=>match ev x with
   | .addr d=>ZD0 A P t d w k
   | .ptr o=>A.exD fun d=>A.okO o d (ZD0 A P t d w k)
   |_=>A.fail "load: no address"
 |_=>A.read o ev w fun v=>Z3I A (ZFx P o) fun sv=>A.valEq v sv (k sv)
def Z45(o:J8)(ev:J1->SV C)(sv:SV C)(w:C.W)(r:C.R):C.R :=
 match o.op with
 | .load t x=>match ev x with
   | .addr d=>Z5a A P t d w sv r
   | .ptr o=>A.exD fun d=>A.okO o d (Z5a A P t d w sv r)
   |_=>A.fail "load: no address"
 |_=>A.reread o ev sv w r
def ZFH(d:C.D):Nat->List (SV C)->C.W->(C.W->C.R)->C.R
 |_,[],w,k=>k w
 |i,v::vs,w,k=>A.st w (if i=0 then d else A.dadd d (A.nl i)) v fun w=>ZFH d (i+1) vs w k
def Z7g(f:Q2):Bool:=match P.funcs[f]? with
 |some fn=>fn.body.isSome&&fn.name != "runtime.NumGoroutine"
 |none=>Y
def ZEy(f:Q2):Bool:=match P.funcs[f]? with
 |some fn=>fn.body.isNone
 |none=>Y
def evOp(o:J8)(ev:J1->SV C)(w:C.W)(k:SV C->C.W->C.R):C.R :=
 let res (e:C.E) (w:C.W):C.R:=Z3I A (Z82 P o.type) fun sv=>A.endEq e sv (k sv w)
 let ran:C.R:=A.run o ev w fun v w=>Z3I A (Z82 P o.type) fun sv=>A.valEq v sv (k sv w)
 match o.op with
 | .alloc t=>match Z4J P t with
   |some (.agg cs)=>if cs.size<=Z3o then A.new t (cs.toList.map (Z2C A)) w fun d w=>k (.addr d) w else A.newL t cs.size (A.lconst (.agg cs)) w fun d w=>k (.addr d) w
   |some z=>A.new t [Z2C A z] w fun d w=>k (.addr d) w
   |none=>A.fail "alloc: no zero"
 | .box t x=>match ev x with
   | .big n l=>A.newL t n l w fun d w=>k (.addr d) w
   |v=>match Z4k v with
    |some cs=>ZEh A [v] (A.new t cs w fun d w=>k (.addr d) w)
    |none=>A.fail "box: no cells"
 | .buildSlice t n parts=>match und P t with
   | .slice e=>match Z4J P e with
     |some z =>
      if(Z5d A z).length=Z0E P e/\n*Z0E P e<=256/\(1<n\/Z0E P e<=Z3o)then
       match Z2w (fun i=>G (i*Z0E P e,Z0E P e)) ev ((Jp n (Z5d A z)).flatten) parts.toList with
       |some cells=>ZEh A (parts.toList.map fun p=>ev p.2) (A.new e cells w fun d w=>k (.slice (A.osome d) (A.nl n) (A.nl n)) w)
       |none=>A.fail "buildSlice: parts"
      else if n=1/\(Z5d A z).length=Z0E P e/\Z0E P e<=4096 then
       match Z3D A (fun i=>G (i*Z0E P e,Z0E P e)) ev (Z0E P e) (A.lconst z) parts.toList fun l=>A.newL e (Z0E P e) l w fun d w=>k (.slice (A.osome d) (A.nl n) (A.nl n)) w with
       |some r=>ZEh A (parts.toList.map fun p=>ev p.2) r
       |none=>A.fail "buildSlice: parts"
      else A.fail "buildSlice: size"
     |none=>A.fail "buildSlice: zero"
   |_=>A.fail "buildSlice: type"
 | .store t x y=>match ev x with
   | .addr d=>match Z4k (ev y)with
     |some cs=>if cs.length=Z0E P t/\(P.info? t).isSome then ZFH A d 0 cs w fun w=>k (.tup []) w else A.fail "store: size"
     |none=>A.runU o ev w fun w=>k (.tup []) w
   |_=>A.fail "store: no address"
 | .mapUpdate .. | .insert .. | Q0 ..=>A.runU o ev w fun w=>k (.tup []) w
 | Q6 c =>
   let args:=c.args.toList.map ev
   match c.callee with
   | JK _=>ran
   | .value f=>match ev f with
     | .func (.func f) first cap =>
       if Z7g P f then A.call f (first++args++cap) w res
       else if ZEy P f then A.ext f (first++args++cap) w fun v w=>Z3I A (Z82 P o.type) fun sv=>A.valEq v sv (k sv w)
       else A.fail "call: what function?"
     | .func (.method m) [.raw v] []=>A.callM v m args w res
     | .raw v=>A.callV v args w res
     |_=>A.fail "call: no function"
   | .invoke x m=>match ev x with
     | .raw v=>A.callM v m args w res
     |_=>A.fail "invoke: no interface value"
 | .range .. | .next .. | .entry ..=>A.run o ev w fun v w=>k (.raw v) w
 | .makeMap .. | .makeSlice .. | Jq .. | .mapEntry ..=>ran
 | .panic x=>match ev x with
   | .iface t v=>A.panic (.iface t v) w
   |_=>A.fail "panic: no interface value"
 |_=>A.fail "no such operation"
def doOp(o:J8)(env:Env C)(w:C.W)(k:SV C->C.W->C.R):C.R :=
 match Z1F A P o (ev A env) fun sv=>k sv w with
 |some r=>r
 |none=>if ZDF P o then ZBc A P o (ev A env) w fun sv=>k sv w else evOp A P o (ev A env) w k
def ZCL(env:Env C)(dst:Option Q5)(v:SV C):Env C:=match dst with
 |some d=>(d,v)::env
 |none=>env
def Z9V(ops:Array J8)(o:J8)(env:Env C)(yes no:Env C->C.R):C.R :=
 match o.guard with
 |none=>yes env
 |some (j,want)=>match (ops[j]?).bind (·.dst)with
  |none=>no env
  |some t=>match Z3A env t with
   | .blit b=>if b == want then yes env else no env
   | .bool b=>A.and (A.imp b H (if want then yes ((t,.blit H)::env)else no ((t,.blit H)::env)))
    (A.imp b Y (if want then no ((t,.blit Y)::env)else yes ((t,.blit Y)::env)))
   | .tup []=>no env
   |_=>A.fail "guard"
def Z5Z(ops:Array J8):List J8->Env C->C.W->(Env C->C.W->C.R)->C.R
 |[],env,w,k=>k env w
 |o::rest,env,w,k=>Z9V A ops o env
   (fun env=>doOp A P o env w fun sv w=>Z5Z ops rest (ZCL env o.dst sv) w k)
   (fun env=>Z5Z ops rest (ZCL env o.dst (.tup [])) w k)
structure ZEO (C:Car) where
 i:Nat
 again:C.W->C.R->C.R
def Z3C(ops:Array J8)(j:Nat)(w:C.W):List (ZEO C)->C.R->C.R
 |[],r=>r
 |p::ps,r=>if(Z2B ops p.i).getD j Y then Z3C ops j w ps r else p.again w (Z3C ops j w ps r)
def ZCX:List C.R->C.R
 |[]=>A.fail "nobody may come up"
 |[r]=>r
 |r::rs=>A.and r (ZCX rs)
def Z2x(ops:Array J8):List Nat->Option Nat
 |[]=>U
 |i::r=>match ops[i]? with
  |some o=>if ZDF P o&&ZEX ops i then G i else Z2x ops r
  |none=>Z2x ops r
def Z3Q(ops:Array J8):Nat->Array Bool->List (ZEO C)->Env C->C.W->(Env C->C.W->C.R)->C.R
 |0,_,_,_,_,_=>A.fail "region: fuel"
 |n+1,listed,pend,env,w,k =>
  match J5 .any ops listed with
  |[]=>k env w
  |rs =>
   match Z2x P ops rs with
   |some i=>match ops[i]? with
    |none=>A.fail "region"
    |some o=>Z9V A ops o env
     (fun env=>match Z1F A P o (ev A env) fun sv=>Z3Q ops n (listed.setIfInBounds i H) pend (ZCL env o.dst sv) w k with
       |some r=>r
       |none=>ZBc A P o (ev A env) w fun sv =>
        Z3Q ops n (listed.setIfInBounds i H) (⟨i,Z45 A P o (ev A env) sv⟩::pend) (ZCL env o.dst sv) w k)
     (fun env=>Z3Q ops n (listed.setIfInBounds i H) pend (ZCL env o.dst (.tup [])) w k)
   |none=>ZCX A (rs.map fun j=>match ops[j]? with
    |none=>A.fail "region"
    |some o=>Z9V A ops o env
     (fun env=>doOp A P o env w fun sv w=>Z3C ops j w pend (Z3Q ops n (listed.setIfInBounds j H) (pend.filter fun p=> !(Z2B ops p.i).getD j Y) (ZCL env o.dst sv) w k))
     (fun env=>Z3C ops j w pend (Z3Q ops n (listed.setIfInBounds j H) (pend.filter fun p=> !(Z2B ops p.i).getD j Y) (ZCL env o.dst (.tup [])) w k)))
structure Kont (C:Car) where
 nrm:Env C->C.W->C.R
 exit:Nat->Env C->C.W->C.R
 ret:Env C->C.W->C.R
def ZZ:Code->List Q5
 | .region _ ops _=>ops.toList.filterMap (·.dst)
 | .seq a b=>ZZ a++ZZ b
 | .cond _ a b=>ZZ a++ZZ b
 | .block _ c=>ZZ c
 | .loop c=>ZZ c
 |_=>[]
def Z1o:Code->Nat
 | .region id _ _=>id
 | .seq a _=>Z1o a
 | .cond _ a _=>Z1o a
 | .block _ c=>Z1o c
 | .loop c=>Z1o c
 |_=>0
def Z6l(jk:C.J)(live:List Q5)(svs:List (SV C))(written:List Q5)(env:Env C):Env C :=
 live.zip svs++(written.map fun t=>(t,SV.raw (A.junk jk t)))++env
def Z15(n:Nat):Code->Bool
 | .region _ ops _=>ops.all fun o=>match o.dst with
   |some d=>decide (d<n)
   |none=>H
 | .seq a b=>Z15 n a&&Z15 n b
 | .cond _ a b=>Z15 n a&&Z15 n b
 | .block _ c=>Z15 n c
 | .loop c=>Z15 n c
 |_=>H
def setC(env:Env C)(c:J1)(b:Bool):Env C:=match c with
 | .tmp s=>(s,.blit b)::env
 |_=>env
def ZF4(b:Code):Nat:=1000000+Z1o b
def Z7T(ann:List (Nat×List (Q5×Shape1)))(ops:Code)(env:Env C)(w:C.W)(K:Kont C):C.R :=
 match ops with
 | .skip=>K.nrm env w
 | .region _ ops draw =>
   if draw then
    if ssa ops then A.drew w fun w=>Z3Q A P ops (ops.size+1) (JW ops.size Y) [] env w K.nrm else A.fail "region: temporaries"
   else Z5Z A P ops ops.toList env w K.nrm
 | .seq a b=>match ann.find? (·.1 == ZF4 b)with
   |none=>Z7T ann a env w { K with nrm:=fun env w=>Z7T ann b env w K }
   |some (_,live) =>
    let slots:=live.map (·.1)
    A.join (live.map (·.2)) (fun enter=>Z7T ann a env w { K with nrm:=fun env w=>enter (slots.map (Z3A env)) w })
     fun svs jk w=>Z7T ann b (Z6l A jk slots svs (ZZ a) env) w K
 | .cond c a b=>match ev A env c with
   | .blit t=>if t then Z7T ann a env w K else Z7T ann b env w K
   | .bool t =>
     A.and (A.imp t H (Z7T ann a (setC env c H) w K)) (A.imp t Y (Z7T ann b (setC env c Y) w K))
   |_=>A.fail "cond"
 | .block id c=>Z7T ann c env w { K with exit:=fun i env w=>if i=id then K.nrm env w else K.exit i env w }
 | .loop c=>match ann.find? (·.1 == Z1o c)with
   |none=>A.fail "loop: nothing is said of it"
   |some (_,live) =>
    let slots:=live.map (·.1)
    A.loop (live.map (·.2)) (slots.map (Z3A env)) w fun svs jk w again =>
     Z7T ann c (Z6l A jk slots svs (ZZ c) env) w { K with nrm:=fun env w=>again (slots.map (Z3A env)) w }
 | .exit id=>K.exit id env w
 | .ret=>K.ret env w
 |_=>A.fail "code"
def ZAl(r:ResultVar)(env:Env C)(w:C.W)(k:SV C->C.R):C.R :=
 match r with
 | .tmp t=>k (Z3A env t)
 | .cell a t=>match Z3A env a with
   | .addr d=>ZD0 A P t d w k
   |_=>A.fail "result"
def Z6D:List ResultVar->Env C->C.W->(List (SV C)->C.R)->C.R
 |[],_,_,k=>k []
 |r::rs,env,w,k=>ZAl A P r env w fun v=>Z6D rs env w fun vs=>k (v::vs)
def ZFC(fn:Func)(env:Env C)(w:C.W):C.R :=
 Z6D A P fn.results.toList env w fun vs=>match vs with
  |[v]=>A.done v w
  |vs=>A.done (.tup vs) w
def Z1J:Nat->List (SV C)->Env C
 |_,[]=>[]
 |i,v::vs=>(i,v)::Z1J (i+1) vs
def Z4S(ann:List (Nat×List (Q5×Shape1)))(fn:Func)(args:List (SV C))(w:C.W):C.R :=
 match fn.body with
 |none=>A.fail "no body"
 |some c=>if args.length<=fn.ntmps/\Z15 fn.ntmps c=H then
   Z7T A P ann c (Z1J 0 args) w { nrm:=ZFC A P fn,exit:=fun _ _ _=>A.fail "exit",ret:=ZFC A P fn }
  else A.fail "arguments"
end
end Go.Vcg
end
section
namespace Go.Vcg
def bitsI(op:JQ)(k:IntKind)(a b:Int):Int :=
 let x:=BitVec.ofInt k.bits a
 let y:=BitVec.ofInt k.bits b
 k.wrap (match op with
  | .and=>(x&&&y).toNat
  | .or=>(x|||y).toNat
  | .xor=>(x^^^y).toNat
  |_=>(x &&& ~~~y).toNat)
def shlI(k:IntKind)(a b:Int):Int:=k.wrap (a*2^min b.toNat k.bits)
def shrI(k:IntKind)(a b:Int):Int:=a.fdiv (2^min b.toNat k.bits)
def Z76(op:JQ)(x y:ByteArray):Bool :=
 let eq:=x.toList == y.toList
 let lt:=Op.bytesLess x.toList y.toList
 match op with
 | .eql=>eq
 | .neq=> !eq
 | .lss=>lt
 | .leq=>lt||eq
 | .gtr=> !(lt||eq)
 |_=> !lt
def strAt(s:ByteArray)(i:Nat):Int:=((s[i]?).map fun b=>(b.toNat:Int)).getD 0
def subO(o:Option Addr)(cap lo sz:Nat):Option Addr:=if cap=lo then o else o.map (·.add (lo*sz))
def subD(d:Addr)(n lo sz:Nat):Addr:=if n=lo then d else d.add (lo*sz)
def lget(l:Array Z)(i:Nat):Z:=l.getD i undef
def ZY:Array Z->Nat->List Z->Array Z
 |l,_,[]=>l
 |l,i,v::vs=>ZY (l.setIfInBounds i v) (i+1) vs
def lputL(l:Array Z)(i n:Nat)(l':Array Z):Array Z:=ZY l i (l'.toList.take n)
def ZD(w:J0)(d:Addr)(n:Nat)(l:Array Z):Prop:=l.size=n/\∀i,i<n->w.cell? (d.add i)=l[i]?
def Z1(w:J0)(d:Addr)(v:Z):Prop:=v.oneCell'=H/\(∃u,w.cell? d=G u)/\w.frozen? d=Y
def Z3(w:J0)(d:Addr)(v:Z)(w':J0):Prop:=w'=w.setCell d v
def Z5(w:J0)(t:X)(cs:Array Z)(d:Addr)(w':J0):Prop:=d=⟨w.heap.size,0,U⟩/\w'=w.alloc (.cells cs t)
def ZF(w w':J0):Prop:=w'=w.drew
def ZCQ(v:Z):Prop:=∃t x,v=.iface t x
def OkM(P:Program)(v:Z)(name:String):Prop:=∃t x,v=.iface t x/\∀w,(nilAhead (P.types.size+Made.depth) t x name).run P w=JJ (G Y) w
def Z6L(P:Program)(v:Z)(args:Array Z)(w:J0)(R:Jt->J0->Prop):Prop :=
 ∃f first cap,v=.func (.func f) first cap/\Z7g P f=H/\Calls P f (first++args++cap) w R
def ZFR(P:Program)(v:Z)(name:String)(args:Array Z)(w:J0)(R:Jt->J0->Prop):Prop :=
 ∃t x f recv,v=.iface t x/\(method (P.types.size+Made.depth) t x name).run P w=JJ (f,recv) w/\Z7g P f=H/\Calls P f (#[recv]++args) w R
def Z07(op:JQ)(t:X)(x y:J1)(a b:Z):Sem Z:=do Jx op t x y a b;JC op t a b
def builtinV(b:Builtin)(ts:Array X)(t:X)(args:Array Z):Sem Z :=
 match b with
 | .append=>Builtin.append_ ts t args
 | .cap=>Builtin.cap_ ts t args
 | .clear=>Builtin.clear_ ts t args
 | .copy=>Builtin.copy_ ts t args
 | .delete=>Builtin.delete_ ts t args
 | .len=>Builtin.len_ ts t args
 | .max=>Builtin.max_ ts t args
 | .min=>Builtin.min_ ts t args
 |_=>stuck "builtinV"
abbrev pC:Car:={ I:=Int,B:=Bool,S:=ByteArray,O:=Option Addr,D:=Addr,N:=Nat,V:=Z,L:=Array Z,M:=Option Nat,W:=J0,E:=Jt,J:=Nat->Z,R:=Prop }
def den:BX pC->Bool
 | .var b=>b
 | .icmp op a b=>match op with
   | .eql=>decide ((a:Int)=b)
   | .neq=> !decide ((a:Int)=b)
   | .lss=>decide ((a:Int)<b)
   | .leq=>decide ((a:Int)<=b)
   | .gtr=>decide ((a:Int)>b)
   |_=>decide ((a:Int)>=b)
 | .scmp op a b=>Z76 op a b
 | .isNil o=>Jv o
 | .isNilM o=>Jv o
 | .not a=> !den a
def ZFP:BX pC->Bool->Prop->Prop
 | .var b,t,r=>(b:Bool)=t->r
 | .icmp op a b,t,r =>
   match op,t with
   | .eql,H=>(a:Int)=b->r
   | .eql,Y=>(a:Int)≠b->r
   | .neq,H=>(a:Int)≠b->r
   | .neq,Y=>(a:Int)=b->r
   | .lss,H=>(a:Int)<b->r
   | .lss,Y=>¬(a:Int)<b->r
   | .leq,H=>(a:Int)<=b->r
   | .leq,Y=>¬(a:Int)<=b->r
   | .gtr,H=>(a:Int)>b->r
   | .gtr,Y=>¬(a:Int)>b->r
   |_,H=>(a:Int)>=b->r
   |_,Y=>¬(a:Int)>=b->r
 | .scmp op a b,t,r=>Z76 op a b=t->r
 | .isNil o,H,r=>(o:Option Addr)=U->r
 | .isNil o,Y,r=>(o:Option Addr)≠U->r
 | .isNilM o,H,r=>(o:Option Nat)=U->r
 | .isNilM o,Y,r=>(o:Option Nat)≠U->r
 | .not a,t,r=>ZFP a (!t) r
theorem Z2Y:∀(b:BX pC) (t:Bool) (r:Prop),ZFP b t r->den b=t->r
 | .var _,_,_,h,e=>h e
 | .icmp op a b,t,r,h,e=>by
   cases op<;>cases t<;>simp only[ZFP,den]at h e<;>first
    |exact h (by simpa using e)
 | .scmp _ _ _,_,_,h,e=>h e
 | .isNil o,t,r,h,e=>by
   cases t<;>simp only[ZFP,den]at h e
   ·exact h (by cases o<;>simp_all)
   ·exact h (by cases o<;>simp_all)
 | .isNilM o,t,r,h,e=>by
   cases t<;>simp only[ZFP,den]at h e
   ·exact h (by cases o<;>simp_all)
   ·exact h (by cases o<;>simp_all)
 | .not a,t,r,h,e=>Z2Y a (!t) r h (by simp only[den]at e;cases t<;>simp_all)
mutual
def toV:SV pC->Z
 | .bool b=>.bool (den b)
 | .blit b=>.bool b
 | .int k n=>.int k n
 | .ilit k n=>.int k n
 | .str s=>.string s
 | .ptr o=>.pointer o
 | .addr d=>.pointer (G d)
 | .slice o l c=>.slice o l c
 | .map m=>.map m
 | .func fn a b=>.func fn (toVs a).toArray (toVs b).toArray
 | .iface t v=>.iface t (toV v)
 | .nilIface=>.nilIface
 | .nilFunc=>.nilFunc
 | .agg cs=>.agg (toVs cs).toArray
 | .big _ l=>.agg l
 | .tup vs=>.tuple (toVs vs).toArray
 | .raw v=>v
def toVs:List (SV pC)->List Z
 |[]=>[]
 |v::vs=>toV v::toVs vs
end
theorem Z1H(l:List (SV pC)):toVs l=l.map toV:=by induction l<;>simp_all[toVs]
def ZFV(c:Z6M)(T:Type):Type:=match c with
 | .int _=>Int->T
 | .bool=>Bool->T
 | .str=>ByteArray->T
 | .ptr=>Option Addr->T
 | .slice=>Option Addr->Nat->Nat->T
 | .map=>Option Nat->T
 | .raw=>Z->T
 | .addr=>Addr->T
def ZCP:List Z6M->Type->Type
 |[],T=>T
 |c::cs,T=>ZFV c (ZCP cs T)
def Inv1(s:Shape1)(T:Type):Type:=match s with
 | .cell c=>ZFV c T
 | .agg cs=>ZCP cs T
 | .big _=>Array Z->T
def ZEp:List Shape1->Type->Type
 |[],T=>J0->T
 |s::ss,T=>Inv1 s (ZEp ss T)
def ZA4{T:Type}:(c:Z6M)->ZFV c T->SV pC->Option T
 | .int k,I,.int k' n=>if k=k' then G (I n)else U
 | .int k,I,.ilit k' n=>if k=k' then G (I n)else U
 | .bool,I,.bool b=>G (I (den b))
 | .bool,I,.blit b=>G (I b)
 | .str,I,.str s=>G (I s)
 | .ptr,I,.ptr o=>G (I o)
 | .ptr,I,.addr d=>G (I (G d))
 | .slice,I,.slice o l c=>G (I o l c)
 | .map,I,.map m=>G (I m)
 | .raw,I,v=>G (I (toV v))
 | .addr,I,.addr d=>G (I d)
 |_,_,_=>U
def ZAF{T:Type}:(cs:List Z6M)->ZCP cs T->List (SV pC)->Option T
 |[],I,[]=>G I
 |c::cs,I,v::vs=>(ZA4 c I v).bind fun I=>ZAF cs I vs
 |_,_,_=>U
def ZDr{T:Type}:(s:Shape1)->Inv1 s T->SV pC->Option T
 | .cell c,I,v=>ZA4 c I v
 | .agg cs,I,.agg vs=>ZAF cs I vs
 | .big n,I,.big m l=>if n=m then G (I l)else U
 |_,_,_=>U
def Z8s{T:Type}:(ss:List Shape1)->ZEp ss T->List (SV pC)->J0->Option T
 |[],I,[],w=>G (I w)
 |s::ss,I,v::vs,w=>(ZDr s I v).bind fun I=>Z8s ss I vs w
 |_,_,_,_=>U
def ZEt:Z6M->(SV pC->Prop)->Prop
 | .int k,f=>∀n:Int,f (.int k n)
 | .bool,f=>∀b:Bool,f (.bool (.var b))
 | .str,f=>∀s:ByteArray,f (.str s)
 | .ptr,f=>∀o:Option Addr,f (.ptr o)
 | .slice,f=>∀(o:Option Addr)(l c:Nat),f (.slice o l c)
 | .map,f=>∀m:Option Nat,f (.map m)
 | .raw,f=>∀v:Z,f (.raw v)
 | .addr,f=>∀d:Addr,f (.addr d)
def ZB6:List Z6M->(List (SV pC)->Prop)->Prop
 |[],f=>f []
 |c::cs,f=>ZEt c fun v=>ZB6 cs fun vs=>f (v::vs)
def ZFa:Shape1->(SV pC->Prop)->Prop
 | .cell c,f=>ZEt c f
 | .agg cs,f=>ZB6 cs fun vs=>f (.agg vs)
 | .big n,f=>∀l:Array Z,f (.big n l)
def ZCW:List Shape1->(List (SV pC)->Prop)->Prop
 |[],f=>f []
 |s::ss,f=>ZFa s fun v=>ZCW ss fun vs=>f (v::vs)
def ZEI:Option Prop->Prop
 |some p=>p
 |none=>False
def theN:Option Nat->Nat
 |some n=>n
 |none=>0
def loopP(ss:List Shape1)(init:List (SV pC))(w:J0)(body:List (SV pC)->(Nat->Z)->J0->(List (SV pC)->J0->Prop)->Prop):Prop :=
 ∃(I:ZEp ss Prop)(μ:ZEp ss Nat),ZEI (Z8s ss I init w) /\
  ZCW ss fun svs=>∀(jk:Nat->Z)(w':J0),ZEI (Z8s ss I svs w') ->
   body svs jk w' fun svs' w''=>ZEI (Z8s ss I svs' w'')/\theN (Z8s ss μ svs' w'')<theN (Z8s ss μ svs w')
def joinP(ss:List Shape1)(pre:(List (SV pC)->J0->Prop)->Prop)(rest:List (SV pC)->(Nat->Z)->J0->Prop):Prop :=
 ∃I:ZEp ss Prop,pre (fun svs w=>ZEI (Z8s ss I svs w)) /\
  ZCW ss fun svs=>∀(jk:Nat->Z)(w':J0),ZEI (Z8s ss I svs w')->rest svs jk w'
def ZDU(o:J8)(ev:J1->Z):Option (Sem Z) :=
 match o.op with
 | .lookup t m k ok=>G (Instr.lookup t (ev m) (ev k) ok)
 | Jn x xt t ok=>G (Instr.typeAssert (ev x) xt t ok)
 | Jq a b x=>G (convert a b (ev x))
 | .binOp op t x y _=>G (Z07 op t x y (ev x) (ev y))
 | .unOp op _ x=>G (Op.unary op (ev x))
 | .field t x f=>G (Instr.field t (ev x) f)
 | .index t x i=>G (Instr.index t (ev x) (ev i))
 | Js t x i=>G (Instr.indexAt t (ev x) (ev i))
 | .slice t x lo hi mx=>G (JA t (ev x) (lo.map ev) (hi.map ev) (mx.map ev))
 | Jz x i=>G (Instr.extract (ev x) i)
 | JN t x=>G (Instr.arrayAt t (ev x))
 | .build t parts=>G (Instr.build t (parts.map fun(i,x)=>(i,ev x)))
 | Jb t x=>G (Instr.makeInterface t (ev x))
 | Jr t x f=>G (Instr.fieldAt t (ev x) f)
 | .makeMap t r=>G (Instr.makeMap t (r.map ev))
 | .makeSlice t l c=>G (Instr.makeSlice t (ev l) (ev c))
 | .mapEntry t m k=>G (Instr.mapEntry t (ev m) (ev k))
 | .range t x=>G (Instr.range t (ev x))
 | .next it s=>G (Instr.next (ev it) s o.type)
 | .entry it=>G (Instr.entry (ev it))
 | Q6 c=>match c.callee with
   | JK b=>match b with
     | .append| .cap| .clear| .copy| .delete| .len| .max| .min=>G (builtinV b c.argTypes o.type (c.args.map ev))
     |_=>U
   |_=>U
 |_=>U
def semU(o:J8)(ev:J1->Z):Option (Sem Unit) :=
 match o.op with
 | .mapUpdate t m k x| .insert t m k x=>G (Instr.mapUpdate t (ev m) (ev k) (ev x))
 | Q0 t m s x=>G (Instr.entryStore t (ev m) (ev s) (ev x))
 | .store t a x=>G (Instr.storeAt t (ev a) (ev x))
 |_=>U
structure Z5f where
 fin:Jt->J0->Prop
 pan:Bool
abbrev ZD9(v:Z):List PanicEntry:=[{ v:=v,recovered:=Y }]
def Z5f.call(R:Z5f)(e:Jt)(w:J0)(r:Prop):Prop:=match R.pan with
 |true=>(∃ch,e=.panicked ch/\R.fin (.panicked ch) w)\/r
 |false=>r
theorem Z5f.call_or{R:Z5f}{e:Jt}{w:J0}{r:Prop}(h:R.call e w r):(∃ch,e=.panicked ch/\R.fin (.panicked ch) w)\/r:=by
 unfold Z5f.call at h;cases hp:R.pan with
 |true=>rw[hp]at h;exact h
 |false=>rw[hp]at h;exact .inr h
def pA(P:Program)(R:Z5f):Alg pC where
 il:=fun n=>(n:Int)
 nl:=fun n=>(n:Nat)
 sl:=fun s=>(s:ByteArray)
 onil:=(U:Option Addr)
 osome:=fun d=>(G d:Option Addr)
 mnil:=(U:Option Nat)
 dl:=fun b o=>(⟨b,o,U⟩:Addr)
 wrap:=fun k n=>(IntKind.wrap k n:Int)
 add:=fun a b=>((a:Int)+b:Int)
 sub:=fun a b=>((a:Int)-b:Int)
 mul:=fun a b=>((a:Int)*b:Int)
 tdiv:=fun a b=>(Int.tdiv a b:Int)
 tmod:=fun a b=>(Int.tmod a b:Int)
 fdiv:=fun a b=>(Int.fdiv a b:Int)
 bits:=fun op k a b=>(bitsI op k a b:Int)
 shl:=fun k a b=>(shlI k a b:Int)
 shr:=fun k a b=>(shrI k a b:Int)
 ssize:=fun s=>(ByteArray.size s:Nat)
 sext:=fun s a b=>(ByteArray.extract s a b:ByteArray)
 sat:=fun s i=>(strAt s i:Int)
 n2i:=fun n=>(((n:Nat):Int):Int)
 i2n:=fun i=>(Int.toNat i:Nat)
 nsub:=fun a b=>((a:Nat)-b:Nat)
 nmul:=fun a b=>((a:Nat)*b:Nat)
 dadd:=fun d n=>(Addr.add d n:Addr)
 osub:=fun o cap lo sz=>(subO o cap lo sz:Option Addr)
 dsub:=fun d n lo sz=>(subD d n lo sz:Addr)
 lext:=fun l a n=>(Jw l a (a+n):Array Z)
 lget:=fun l i=>(lget l i:Z)
 lconst:=fun v=>((match v with| .agg cs=>cs|v=>#[v]):Array Z)
 vlit:=fun v=>(v:Z)
 lput:=fun l i vs=>(ZY l i (toVs vs):Array Z)
 lputL:=fun l i n l'=>(lputL l i n l':Array Z)
 junk:=fun j t=>((j:Nat->Z) t:Z)
 lsz:=fun l n r=>JR l=n/\r
 one:=fun v r=>Value.oneCell' v=H/\r
 fail:=fun _=>False
 and:=fun a b=>a/\b
 imp:=fun b t r=>ZFP b t r
 exI:=fun f=>∃n:Int,f n
 exB:=fun f=>∃b:Bool,f b
 exS:=fun f=>∃s:ByteArray,f s
 exO:=fun f=>∃o:Option Addr,f o
 exD:=fun f=>∃d:Addr,f d
 exN:=fun f=>∃n:Nat,f n
 exV:=fun f=>∃v:Z,f v
 exL:=fun f=>∃l:Array Z,f l
 exM:=fun f=>∃m:Option Nat,f m
 allI:=fun f=>∀n:Int,f n
 allB:=fun f=>∀b:Bool,f b
 allS:=fun f=>∀s:ByteArray,f s
 allO:=fun f=>∀o:Option Addr,f o
 allN:=fun f=>∀n:Nat,f n
 allV:=fun f=>∀v:Z,f v
 allL:=fun f=>∀l:Array Z,f l
 allM:=fun f=>∀m:Option Nat,f m
 cellEq:=fun w d v r=>World.cell? w d=G (toV v)/\r
 cellsEq:=fun w d n l r=>ZD w d n l/\r
 endEq:=fun e v r=>e=Ending.returned (toV v)/\r
 valEq:=fun v sv r=>v=toV sv/\r
 okO:=fun o d r=>o=G d/\r
 rng:=fun i n r=>(0<=(i:Int)/\(i:Int)<((n:Nat):Int))/\r
 rle:=fun i n r=>(0<=(i:Int)/\(i:Int)<=((n:Nat):Int))/\r
 nle:=fun a b r=>(a:Nat)<=b/\r
 neZ:=fun i r=>(i:Int)≠0/\r
 geZ:=fun i r=>0<=(i:Int)/\r
 ifNil:=fun v a b=>(v=Value.nilIface/\a)\/(ZCQ v/\b)
 isIf:=fun v r=>ZCQ v/\r
 okM:=fun v m r=>OkM P v m/\r
 imax:=fun a b=>(max (a:Int) b:Int)
 imin:=fun a b=>(min (a:Int) b:Int)
 st:=fun w d v k=>Z1 w d (toV v)/\∀w':J0,Z3 w d (toV v) w'->k w'
 new:=fun t cs w k=>∀(d:Addr)(w':J0),Z5 w t (toVs cs).toArray d w'->k d w'
 newL:=fun t _ l w k=>∀(d:Addr)(w':J0),Z5 w t l d w'->k d w'
 drew:=fun w k=>∀w':J0,ZF w w'->k w'
 call:=fun f args w k=>Calls P f (toVs args).toArray w fun e w'=>R.call e w' (k e w')
 callV:=fun v args w k=>Z6L P v (toVs args).toArray w fun e w'=>R.call e w' (k e w')
 callM:=fun v m args w k=>ZFR P v m (toVs args).toArray w fun e w'=>R.call e w' (k e w')
 ext:=fun f args w k=>∃(v:Z)(w':J0),(callFunc f (toVs args).toArray).run P w=JJ (.value v) w'/\k v w'
 read:=fun o ev w k=>match ZDU o fun x=>toV (ev x)with
  |some s=>∃v:Z,s.run P w=JJ v w/\k v
  |none=>False
 reread:=fun o ev sv w r=>match ZDU o fun x=>toV (ev x)with
  |some s=>s.run P w=JJ (toV sv) w/\r
  |none=>False
 run:=fun o ev w k=>match ZDU o fun x=>toV (ev x)with
  |some s=>∃(v:Z)(w':J0),s.run P w=JJ v w'/\k v w'
  |none=>False
 runU:=fun o ev w k=>match semU o fun x=>toV (ev x)with
  |some s=>∃w':J0,s.run P w=JJ () w'/\k w'
  |none=>False
 done:=fun v w=>R.fin (.returned (toV v)) w
 panic:=fun v w=>match R.pan with
  |true=>R.fin (.panicked (ZD9 (toV v))) w
  |false=>False
 join:=joinP
 loop:=loopP
end Go.Vcg
end
section
namespace Go.Vcg
theorem Z1K{P:Program}{w:J0}{op:JQ}{t:X}{x y:J1}{a b v:Z}
  (h1:a=.nilIface->b≠.nilIface) (h2:∀cs,a=.agg cs->∀ds,b≠.agg ds) (h:(JC op t a b).run P w=JJ v w) :
  (Z07 op t x y a b).run P w=JJ v w:=by
 unfold Z07
 have:(Jx op t x y a b).run P w=JJ () w:=by
  unfold Jx
  split<;>first
   |rfl
   |(cases a<;>cases b<;>first
      |rfl
      |exact absurd rfl (h1 rfl)
      |exact absurd rfl (h2 _ rfl _))
 simp[this,h]
theorem ZAb{P:Program}{w:J0}{op:JQ}{a b:Int}{t:Bool}(h:ZBU op a b=G t):(Q4 op a b).run P w=JJ (.bool t) w:=by
 cases op<;>simp[ZBU]at h<;>subst h<;>simp[Q4]
theorem Z8D{A:Alg pC}{P:Program}{R:Z5f}(hA:A=pA P R){x:SV pC}{k:IntKind}{n:Int}(h:asI A x=G (k,n)):toV x=.int k n:=by
 subst hA;cases x<;>simp[asI]at h
 case int=>obtain⟨rfl,rfl⟩:=h;rfl
 case ilit=>obtain⟨rfl,rfl⟩:=h;rfl
theorem ZC2{P:Program}{R:Z5f}{op:JQ}{x y:SV pC}{k:SV pC->Prop}{r:Prop}(h:binS (pA P R) op x y k=G r)(hr:r) :
  ∃sv,(∀(w:J0)(t:X)(ox oy:J1),(Z07 op t ox oy (toV x) (toV y)).run P w=JJ (toV sv) w)/\k sv:=by
 unfold binS at h;split at h
 ·rename_i a b
  have key:∀(bb:Bool),(∀(w:J0)(t:X)(_ _:J1),(JC op t (.string a) (.string b)).run P w=JJ (.bool bb) w) ->
    ∀(w:J0)(t:X)(ox oy:J1),(Z07 op t ox oy (toV (.str a)) (toV (.str b))).run P w=JJ (.bool bb) w :=
   fun bb hb w t ox oy=>Z1K (by simp[toV]) (by simp[toV]) (hb w t ox oy)
  cases op<;>cases h <;>
   refine⟨_,?_,hr⟩<;>simp only[toV,den] <;>
   exact key _ (fun w t _ _=>by simp[JC,Op.stringOp,Z76])
 ·rename_i ka a kb b
  have key:∀(v:Z),(∀(w:J0)(t:X)(_ _:J1),(JC op t (.int ka a) (.int kb b)).run P w=JJ v w) ->
    ∀(w:J0)(t:X)(ox oy:J1),(Z07 op t ox oy (toV (.ilit ka a)) (toV (.ilit kb b))).run P w=JJ v w :=
   fun v hb w t ox oy=>Z1K (by simp[toV]) (by simp[toV]) (hb w t ox oy)
  split at h
  ·split at h
   ·rename_i hk;subst hk
    cases h;exact⟨_,key _ (fun w t _ _=>by simp[JC,JO,toV]),hr⟩
   ·cases h
  ·split at h
   ·rename_i hk;subst hk
    cases h;exact⟨_,key _ (fun w t _ _=>by simp[JC,JO,toV]),hr⟩
   ·cases h
  ·split at h
   ·rename_i hk;subst hk
    cases h;exact⟨_,key _ (fun w t _ _=>by simp[JC,JO,toV]),hr⟩
   ·cases h
  ·split at h
   ·rename_i t ht
    split at h
    ·rename_i hk;subst hk
     cases h;refine⟨_,key _ (fun w t' _ _=>?_),hr⟩;have:=ZAb (P:=P) (w:=w) ht;cases op<;>simp[ZBU]at ht<;>simpa[JC,toV]using this
    ·cases h
   ·cases h
 ·split at h
  ·rename_i ka a kb b hx hy
   have ex:=Z8D rfl hx;have ey:=Z8D rfl hy
   have key:∀(v:Z),(∀(w:J0)(t:X)(_ _:J1),(JC op t (.int ka a) (.int kb b)).run P w=JJ v w) ->
     ∀(w:J0)(t:X)(ox oy:J1),(Z07 op t ox oy (toV x) (toV y)).run P w=JJ v w :=
    fun v hb w t ox oy=>by
     rw[ex,ey];exact Z1K (by simp) (by simp) (hb w t ox oy)
   split at h
   ·
    split at h
    ·simp only[toV,JP]at ey
     obtain⟨rfl,rfl⟩:=ey;split at h
     ·rename_i h0
      cases h;refine⟨_,key _ (fun w t _ _=>?_),hr⟩;simp[JC,Ju,toV,Int.not_lt.2 h0,pA]
     ·cases h
    ·cases h
     refine⟨_,key _ (fun w t _ _=>?_),hr.2⟩;have h0:0<=b:=hr.1;simp[JC,Ju,toV,Int.not_lt.2 h0,pA,shlI]
   ·split at h
    ·simp only[toV,JP]at ey
     obtain⟨rfl,rfl⟩:=ey;split at h
     ·rename_i h0
      cases h;refine⟨_,key _ (fun w t _ _=>?_),hr⟩;simp[JC,Ju,toV,Int.not_lt.2 h0,pA]
     ·cases h
    ·cases h
     refine⟨_,key _ (fun w t _ _=>?_),hr.2⟩;have h0:0<=b:=hr.1;simp[JC,Ju,toV,Int.not_lt.2 h0,pA,shrI]
   ·split at h
    ·rename_i hk;subst hk
     split at h
     ·cases h;exact⟨_,key _ (fun w t _ _=>by simp[JC,JO,toV,pA]),hr⟩
     ·cases h;exact⟨_,key _ (fun w t _ _=>by simp[JC,JO,toV,pA]),hr⟩
     ·cases h;exact⟨_,key _ (fun w t _ _=>by simp[JC,JO,toV,pA]),hr⟩
     ·split at h
      ·simp only[toV,JP]at ey
       obtain⟨rfl,rfl⟩:=ey;split at h
       ·cases h
       ·rename_i h0
        cases h;exact⟨_,key _ (fun w t _ _=>by simp[JC,Jl,toV,pA,h0]),hr⟩
      ·cases h
       have h0:b≠0:=hr.1;exact⟨_,key _ (fun w t _ _=>by simp[JC,Jl,toV,pA,h0]),hr.2⟩
     ·split at h
      ·simp only[toV,JP]at ey
       obtain⟨rfl,rfl⟩:=ey;split at h
       ·cases h
       ·rename_i h0
        cases h;exact⟨_,key _ (fun w t _ _=>by simp[JC,Jl,toV,pA,h0]),hr⟩
      ·cases h
       have h0:b≠0:=hr.1;exact⟨_,key _ (fun w t _ _=>by simp[JC,Jl,toV,pA,h0]),hr.2⟩
     all_goals first
      |(cases h;refine⟨_,key _ (fun w t _ _=>?_),hr⟩;simp[JC,Op.intBits,toV,pA,bitsI];done)
      |(cases h;refine⟨_,key _ (fun w t _ _=>?_),hr⟩;simp[JC];rfl)
      |(cases h;done)
    ·cases h
  ·cases h
theorem ZX{P:Program}{w:J0}{t:X}{d:JE}(h:P.underlying t=G d):(underlying t).run P w=JJ d w:=by
 simp[underlying,h]
theorem ZFf{P:Program}{w:J0}{t:X}{a b:Z}{r:Bool}(op:JQ)(h:(JF t a b).run P w=JJ r w)(hs:op=.eql\/op=.neq)
  (h1:∀x,a≠.string x) (h2:∀k x,a≠.int k x) (h3:∀k x,a≠.float k x) (h4:∀k x y,a≠.complex k x y) :
  (JC op t a b).run P w=JJ (.bool (if op=.eql then r else !r)) w:=by
 rcases hs with rfl|rfl
 ·have:JC .eql t a b=(do pure (.bool (<-JF t a b))):=by
    cases a<;>first
     |rfl
     |exact absurd rfl (h1 _)
     |exact absurd rfl (h2 _ _)
     |exact absurd rfl (h3 _ _)
     |exact absurd rfl (h4 _ _ _)
  rw[this];simp[h]
 ·have:JC .neq t a b=(do pure (.bool (!(<-JF t a b)))):=by
    cases a<;>first
     |rfl
     |exact absurd rfl (h1 _)
     |exact absurd rfl (h2 _ _)
     |exact absurd rfl (h3 _ _)
     |exact absurd rfl (h4 _ _ _)
  rw[this];simp[h]
section
variable{P:Program}{w:J0}{t:X}
theorem Z9M{e:X}(h:P.underlying t=G (.pointer e))(o:Option Addr)(d:Nat):(J9 (d+1) t (.pointer o) (.pointer U)).run P w=JJ o.isNone w:=by
 cases o<;>simp[J9,ZX h]
theorem Z7S{e:X}(h:P.underlying t=G (.slice e))(o:Option Addr)(l c l' c':Nat)(d:Nat):(J9 (d+1) t (.slice o l c) (.slice U l' c')).run P w=JJ o.isNone w:=by
 cases o<;>simp[J9,ZX h]
theorem Z9K{e e':X}(h:P.underlying t=G (.map e e'))(o:Option Nat)(d:Nat):(J9 (d+1) t (.map o) (.map U)).run P w=JJ o.isNone w:=by
 cases o<;>simp[J9,ZX h]
theorem Z9L{ms:Array (String×X)}(h:P.underlying t=G (J7 ms))(d:Nat):(J9 (d+1) t .nilIface .nilIface).run P w=JJ H w:=by
 simp[J9,ZX h]
theorem Z7Q{u:X}{v:Z}{ms:Array (String×X)}(h:P.underlying t=G (J7 ms))(d:Nat):(J9 (d+1) t (.iface u v) .nilIface).run P w=JJ Y w:=by
 simp[J9,ZX h]
theorem Z7R{u:X}{v:Z}{ms:Array (String×X)}(h:P.underlying t=G (J7 ms))(d:Nat):(J9 (d+1) t .nilIface (.iface u v)).run P w=JJ Y w:=by
 simp[J9,ZX h]
theorem Z7i{e:X}(h:P.underlying t=G (.pointer e))(o:Option Addr):(JF t (.pointer o) (.pointer U)).run P w=JJ o.isNone w:=Z9M h o 9999
theorem Z9O{e:X}(h:P.underlying t=G (.slice e))(o:Option Addr)(l c l' c':Nat):(JF t (.slice o l c) (.slice U l' c')).run P w=JJ o.isNone w:=Z7S h o l c l' c' 9999
theorem ZC3{e e':X}(h:P.underlying t=G (.map e e'))(o:Option Nat):(JF t (.map o) (.map U)).run P w=JJ o.isNone w:=Z9K h o 9999
theorem Z7h{ms:Array (String×X)}(h:P.underlying t=G (J7 ms)):(JF t .nilIface .nilIface).run P w=JJ H w:=Z9L h 9999
theorem Z5k{u:X}{v:Z}{ms:Array (String×X)}(h:P.underlying t=G (J7 ms)):(JF t (.iface u v) .nilIface).run P w=JJ Y w:=Z7Q h 9999
theorem Z9N{u:X}{v:Z}{ms:Array (String×X)}(h:P.underlying t=G (J7 ms)):(JF t .nilIface (.iface u v)).run P w=JJ Y w:=Z7R h 9999
end
theorem Z7X{P:Program}{w:J0}{op:JQ}{t:X}{x y:J1}{v:Z}(hc:(ZP x||ZP y)=H)
  (h:(JC op t .nilIface .nilIface).run P w=JJ v w):(Z07 op t x y .nilIface .nilIface).run P w=JJ v w:=by
 unfold Z07
 have:(Jx op t x y .nilIface .nilIface).run P w=JJ () w:=by
  cases x<;>cases y<;>first
   |(simp[ZP]at hc;done)
   |(cases op<;>rfl)
 simp[this,h]
theorem ZFn{P:Program}{R:Z5f}{env:Env pC}{y:J1}(h:ZP y=H) :
  toV (ev (pA P R) env y)=.nilIface\/toV (ev (pA P R) env y)=.pointer U\/(∃l c,toV (ev (pA P R) env y)=.slice U l c)\/toV (ev (pA P R) env y)=.map U:=by
 unfold ZP at h
 split at h<;>first
  |(simp[ev,ZE6,Z2C,toV,pA];done)
  |cases h
def ZAh:Z->Bool
 | .string _| .int _ _| .float _ _| .complex _ _ _| .agg _=>Y
 |_=>H
theorem Z6E{P:Program}{w:J0}{t:X}{ox oy:J1}{a b:Z}{r:Bool}(op:JQ)(h:(JF t a b).run P w=JJ r w)(hs:op=.eql\/op=.neq)
  (hp:ZAh a=H) (hg:a=.nilIface->b=.nilIface->(ZP ox||ZP oy)=H) :
  (Z07 op t ox oy a b).run P w=JJ (.bool (if op=.eql then r else !r)) w:=by
 have hb:=ZFf op h hs (by rintro x rfl;cases hp) (by rintro k x rfl;cases hp) (by rintro k x rfl;cases hp) (by rintro k x y rfl;cases hp);by_cases hn:a=.nilIface/\b=.nilIface
 ·obtain⟨rfl,rfl⟩:=hn
  exact Z7X (hg rfl rfl) hb
 ·exact Z1K (fun h1 h2=>hn ⟨h1,h2⟩) (by rintro cs rfl;cases hp) hb
def ZFW(P:Program)(t:X)(a b:Z)(g:Bool):ZFN pC->Prop
 | .b x=>ZAh a=H/\(a=.nilIface->b=.nilIface->g=H)/\∀w,(JF t a b).run P w=JJ (den x) w
 | .lit c=>ZAh a=H/\(a=.nilIface->b=.nilIface->g=H)/\∀w,(JF t a b).run P w=JJ c w
 | .either v=>a=v/\b=.nilIface/\g=H
theorem Z7u{P:Program}{R:Z5f}{t:X}{d:JE}{env:Env pC}{ox oy:J1}{nv:ZFN pC}(hu:P.underlying t=G d)
  (h:ZE5 d (ZP ox) (ZP oy) (ev (pA P R) env ox) (ev (pA P R) env oy)=G nv) :
  ZFW P t (toV (ev (pA P R) env ox)) (toV (ev (pA P R) env oy)) (ZP ox||ZP oy) nv:=by
 have hv:=fun h=>ZFn (P:=P) (R:=R) (env:=env) (y:=oy) h;generalize ev (pA P R) env ox=x at *
 generalize ev (pA P R) env oy=y at *
 unfold ZE5 at h;split at h
 ·split at h
  ·rename_i hc;cases h;exact⟨rfl,fun _ _=>hc,fun w=>Z7h hu⟩
  ·cases h
 ·cases h;exact⟨rfl,by simp[toV],fun w=>Z5k hu⟩
 ·cases h;exact⟨rfl,by simp[toV],fun w=>Z9N hu⟩
 ·split at h
  ·rename_i hc;cases h;exact⟨rfl,rfl,hc⟩
  ·cases h
 ·split at h
  ·rename_i o o' hc
   cases h;have:=hv hc;simp[toV]at this;subst this;exact⟨rfl,by simp[toV],fun w=>Z7i hu o⟩
  ·cases h
 ·split at h
  ·rename_i d o' hc
   cases h;have:=hv hc;simp[toV]at this;subst this;exact⟨rfl,by simp[toV],fun w=>Z7i hu (G d)⟩
  ·cases h
 ·split at h
  ·rename_i o l c o' l' c' hc
   cases h;have:=hv hc;simp[toV]at this;subst this;exact⟨rfl,by simp[toV],fun w=>Z9O hu o l c l' c'⟩
  ·cases h
 ·split at h
  ·rename_i o o' hc
   cases h;have:=hv hc;simp[toV]at this;subst this;exact⟨rfl,by simp[toV],fun w=>ZC3 hu o⟩
  ·cases h
 ·cases h
theorem Z7t{P:Program}{R:Z5f}{op:JQ}{t:X}{d:JE}{ox oy:J1}{a b:Z}{nv:ZFN pC}(hu:P.underlying t=G d)
  (hd:∃ms,d=J7 ms\/∀v,nv≠.either v)
  (hn:ZFW P t a b (ZP ox||ZP oy) nv) {neg:Bool} (hop:op=if neg then .neq else .eql) {k:SV pC->Prop} (hr:nilK (pA P R) neg k nv) :
  ∃sv,(∀w,(Z07 op t ox oy a b).run P w=JJ (toV sv) w)/\k sv:=by
 have hs:op=.eql\/op=.neq:=by cases neg<;>simp[hop]
 have hif:∀r:Bool,(if op=.eql then r else !r)=(if neg then !r else r):=by intro r;cases neg<;>simp[hop]
 cases nv with
 |b x =>
  obtain⟨h1,h2,h3⟩:=hn;refine⟨_,fun w=>?_,hr⟩;rw[Z6E op (h3 w) hs h1 h2,hif];cases neg<;>rfl
 |lit c =>
  obtain⟨h1,h2,h3⟩:=hn;refine⟨_,fun w=>?_,hr⟩;rw[Z6E op (h3 w) hs h1 h2,hif];cases neg<;>rfl
 |either v =>
  obtain⟨rfl,rfl,hg⟩:=hn;obtain⟨ms,rfl|hd⟩:=hd
  ·rcases hr with⟨rfl,hk⟩|⟨⟨u,x,rfl⟩,hk⟩
   ·refine⟨_,fun w=>?_,hk⟩
    rw[Z6E op (Z7h hu) hs rfl (fun _ _=>hg),hif];cases neg<;>rfl
   ·refine⟨_,fun w=>?_,hk⟩
    rw[Z6E op (Z5k hu) hs rfl (by simp),hif];cases neg<;>rfl
  ·exact absurd rfl (hd a)
theorem Z6r{d:JE}{cx cy:Bool}{x y:SV pC}{nv:ZFN pC}(h:ZE5 d cx cy x y=G nv):∃ms,d=J7 ms\/∀v,nv≠.either v:=by
 unfold ZE5 at h
 split at h<;>first
  |exact⟨_,.inl rfl⟩
  |(split at h<;>first
     |(cases h;exact⟨#[],.inr (by simp)⟩)
     |cases h)
  |(cases h;done)
theorem ZCB{P:Program}{R:Z5f}{op:JQ}{t:X}{d:JE}{env:Env pC}{ox oy:J1}{k:SV pC->Prop}{r:Prop}(hu:P.underlying t=G d)
  (h:nilS (pA P R) op d (ZP ox) (ZP oy) (ev (pA P R) env ox) (ev (pA P R) env oy) k=G r) (hr:r) :
  ∃sv,(∀(w:J0),(Z07 op t ox oy (toV (ev (pA P R) env ox)) (toV (ev (pA P R) env oy))).run P w=JJ (toV sv) w)/\k sv:=by
 unfold nilS at h;split at h
 ·cases hn:ZE5 d (ZP ox) (ZP oy) (ev (pA P R) env ox) (ev (pA P R) env oy)with
  |none=>rw[hn]at h;cases h
  |some nv=>rw[hn]at h;cases h;exact Z7t hu (Z6r hn) (Z7u hu hn) (neg:=Y) rfl hr
 ·cases hn:ZE5 d (ZP ox) (ZP oy) (ev (pA P R) env ox) (ev (pA P R) env oy)with
  |none=>rw[hn]at h;cases h
  |some nv=>rw[hn]at h;cases h;exact Z7t hu (Z6r hn) (Z7u hu hn) (neg:=H) rfl hr
 ·cases h
variable{P:Program}{R:Z5f}
theorem Z1G{t:X}{d:JE}(h:und P t=d)(hd:d≠Jy):P.underlying t=G d:=by
 unfold und at h;cases hu:P.underlying t with
 |none=>rw[hu]at h;exact absurd h.symm hd
 |some e=>rw[hu]at h;simpa using h
theorem Z0e{t:X}{i:TypeInfo}(h:P.info? t=G i)(w:J0):(sizeOf t).run P w=JJ (Z0E P t) w:=by
 simp[sizeOf,typeInfo,h,Z0E]
theorem Z3J{t:X}{d:JE}(h:P.underlying t=G d):∃i,P.info? t=G i:=by
 unfold Program.underlying at h;cases hi:P.info? t with
 |none=>rw[hi]at h;cases h
 |some i=>exact⟨i,rfl⟩
theorem Z53{t:X}{d:JE}(h:P.underlying t=G d)(w:J0):(isAgg t).run P w=JJ (Z5n d) w:=by
 unfold isAgg;simp only[J3,ZX h,F];cases d<;>rfl
theorem ZBw{t:X}{z:Z}(h:Z4J P t=G z)(w:J0):(zeroValue t).run P w=JJ z w:=by
 unfold Z4J at h;cases hi:P.info? t with
 |none=>rw[hi]at h;cases h
 |some i =>
  rw[hi]at h;simp only[Jk]at h;simp[zeroValue,typeInfo,hi,h]
theorem toVs_getElem?(l:List (SV pC))(i:Nat):(toVs l)[i]?=(l[i]?).map toV:=by rw[Z1H];simp
theorem Ze(l:List (SV pC)):(toVs l).length=l.length:=by rw[Z1H];simp
theorem Z3H:∀(c:Z6M) (f:SV pC->Prop),Z9P (pA P R) c f->∃sv,f sv
 | .int _,_,⟨n,h⟩=>⟨_,h⟩
 | .bool,_,⟨n,h⟩=>⟨_,h⟩
 | .str,_,⟨n,h⟩=>⟨_,h⟩
 | .ptr,_,⟨n,h⟩=>⟨_,h⟩
 | .slice,_,⟨o,l,c,h⟩=>⟨_,h⟩
 | .map,_,⟨n,h⟩=>⟨_,h⟩
 | .raw,_,⟨n,h⟩=>⟨_,h⟩
 | .addr,_,⟨d,h⟩=>⟨_,h⟩
theorem Z2h:∀(cs:List Z6M) (f:List (SV pC)->Prop),Z5P (pA P R) cs f->∃svs,svs.length=cs.length/\f svs
 |[],_,h=>⟨[],rfl,h⟩
 |c::cs,f,h=>by
  obtain⟨sv,h⟩:=Z3H c _ h;obtain⟨svs,hl,h⟩:=Z2h cs _ h;exact⟨sv::svs,by simp[hl],h⟩
theorem Z4n:∀(s:Shape1) (f:SV pC->Prop),Z8M (pA P R) s f->∃sv,f sv
 | .cell c,f,h=>Z3H c f h
 | .agg cs,f,h=>let⟨svs,_,h⟩:=Z2h cs _ h;⟨_,h⟩
 | .big _,f,⟨l,h⟩=>⟨_,h⟩
theorem Z4G:∀(ss:List Shape1) (f:List (SV pC)->Prop),Z6e (pA P R) ss f->∃svs,f svs
 |[],_,h=>⟨[],h⟩
 |s::ss,f,h=>by
  obtain⟨sv,h⟩:=Z4n s _ h;obtain⟨svs,h⟩:=Z4G ss _ h;exact⟨sv::svs,h⟩
theorem Z3j:∀(s:Shape) (f:SV pC->Prop),Z3I (pA P R) s f->∃sv,f sv
 | .one s,f,h=>Z4n s f h
 | .tup ss,f,h=>let⟨svs,h⟩:=Z4G ss _ h;⟨_,h⟩
theorem Z5r:∀(svs:List (SV pC)) (l:Array Z) (off i:Nat) (r:Prop),ZAg (pA P R) svs l off i r->(∀j sv,svs[j]?=G sv->lget l (off+(i+j))=toV sv)/\r
 |[],_,_,_,_,h=>⟨by simp,h⟩
 |v::vs,l,off,i,r,h=>by
  obtain⟨h1,h2⟩:=h;obtain⟨h3,h4⟩:=Z5r vs l off (i+1) r h2;refine⟨fun j sv hj=>?_,h4⟩;cases j with
  |zero=>simp at hj;subst hj;exact h1
  |succ j =>
   simp at hj;have:=h3 j sv hj;rw[show off+(i+(j+1))=off+(i+1+j)from by omega];exact this
theorem Z3E{t:X}{cs:List Z6M}(h:Z37 P t=.agg cs):Z5n (und P t)=H/\cs.length=Z0E P t:=by
 unfold Z37 at h;split at h
 ·split at h
  ·rename_i hu hc;cases h;exact⟨by rw[hu];rfl,hc.2⟩
  ·cases h
 ·split at h
  ·rename_i hu hc;cases h;exact⟨by rw[hu];rfl,hc.2⟩
  ·cases h
 ·cases h
theorem Z96{t:X}{n:Nat}(h:Z37 P t=.big n):Z5n (und P t)=H/\n=Z0E P t:=by
 unfold Z37 at h;split at h
 ·split at h
  ·cases h
  ·rename_i hu hc;cases h;exact⟨by rw[hu];rfl,rfl⟩
 ·split at h
  ·cases h
  ·rename_i hu hc;cases h;exact⟨by rw[hu];rfl,rfl⟩
 ·cases h
theorem Z5L{t:X}{c:Z6M}(h:Z37 P t=.cell c):Z5n (und P t)=Y:=by
 unfold Z37 at h;split at h
 ·split at h<;>cases h
 ·split at h<;>cases h
 ·rename_i d h1 h2
  cases hu:und P t<;>first
   |rfl
   |exact absurd hu (h1 _)
   |exact absurd hu (h2 _ _)
theorem Z3v{t:X}{cs:Array Z}{off:Nat}(hag:Z5n (und P t)=H)(w:J0) :
  (part t cs off).run P w=JJ (.agg (cs.extract off (off+Z0E P t))) w:=by
 have hu:P.underlying t=G (und P t):=Z1G rfl (by intro he;rw[he]at hag;cases hag);obtain⟨i,hi⟩:=Z3J hu;unfold part;simp only[J3,Z53 hu,F,hag,if_true,Z0e hi,J6]
theorem Z54{t:X}{cs:Array Z}{off:Nat}{v:Z}(hi:∃i,P.underlying t=G i)(hag:Z5n (und P t)=Y)(hv:cs[off]?=G v)(w:J0) :
  (part t cs off).run P w=JJ v w:=by
 obtain⟨d,hu⟩:=hi;have hd:und P t=d:=by simp[und,hu]
 unfold part;simp only[J3,Z53 hu,F,<-hd,hag,Jf,if_false,hv,J6]
theorem Z6w{t:X}{x:SV pC}{off:Nat}{k:SV pC->Prop}{r:Prop}(hd:∃d,P.underlying t=G d)(h:ZEA (pA P R) P t x off k=G r)(hr:r) :
  ∃sv,(∃cs,toV x=.agg cs/\∀w,(part t cs off).run P w=JJ (toV sv) w)/\k sv:=by
 unfold ZEA at h;split at h
 ·rename_i c cs hs
  cases hc:cs[off]? with
  |none=>rw[hc]at h;cases h
  |some sv =>
   rw[hc]at h;cases h;exact⟨sv,⟨(toVs cs).toArray,rfl,fun w=>Z54 hd (Z5L hs) (by simp[toVs_getElem?,hc]) w⟩,hr⟩
 ·rename_i c n l hs
  split at h
  ·rename_i hlt
   cases h;obtain⟨hl,hr⟩:=hr;obtain⟨sv,hv,hk⟩:=Z3H _ _ hr;refine⟨sv,⟨_,rfl,fun w=>Z54 hd (Z5L hs) ?_ w⟩,hk⟩;have hoff:off<JR l:=by rw[hl];exact hlt
   have hv:lget l off=toV sv:=hv;rw[<-hv,lget];simp[hoff]
  ·cases h
 ·rename_i ds cs hs
  split at h
  ·cases h
   obtain⟨hag,hlen⟩:=Z3E hs;refine⟨_,⟨(toVs cs).toArray,rfl,fun w=>?_⟩,hr⟩;rw[Z3v hag];simp[toV,Z1H,hlen,List.map_take,List.map_drop,List.extract_eq_take_drop]
  ·cases h
 ·rename_i ds n l hs
  split at h
  ·rename_i hle
   cases h;obtain⟨hl,hr⟩:=hr;obtain⟨hag,hlen⟩:=Z3E hs;obtain⟨svs,hsl,hr⟩:=Z2h _ _ hr;obtain⟨heq,hk⟩:=Z5r _ _ _ _ _ hr;refine⟨_,⟨_,rfl,fun w=>?_⟩,hk⟩;rw[Z3v hag];have hl:JR l=n:=hl
   have:Jw l off (off+Z0E P t)=(toVs svs).toArray:=by
    refine Array.ext (by simp[Ze];omega) fun i h1 h2=>?_;simp[Ze]at h2;have hi:=heq i svs[i] (by simp[h2]);simp only[Nat.zero_add,lget]at hi;have hoi:off+i<JR l:=by omega
    simp only[Array.getElem_extract,Z1H,List.getElem_toArray,List.getElem_map,<-hi];simp[hoi]
   simp only[toV,this]
  ·cases h
 ·rename_i m n l hs
  split at h
  ·cases h
   obtain⟨hl,hr⟩:=hr;obtain⟨hag,hlen⟩:=Z96 hs;refine⟨_,⟨_,rfl,fun w=>?_⟩,hr⟩;rw[Z3v hag,hlen];rfl
  ·cases h
 ·cases h
end Go.Vcg
end
section
namespace Go.Vcg
variable{P:Program}{R:Z5f}
theorem Z1v(v:Z):toV (Z2C (pA P R) v)=v:=by
 cases v with
 |pointer o=>cases o with
  |none=>rfl
  |some d =>
   obtain⟨b,off,sp⟩:=d;cases sp<;>rfl
 |slice o l c=>cases o<;>rfl
 |map m=>cases m<;>rfl
 |tuple vs =>
  simp only[Z2C];split
  ·rename_i h
   have:vs=#[]:=Array.size_eq_zero_iff.1 h;subst this;rfl
  ·rfl
 |_=>rfl
theorem ZDe(v:Z):toV (ZE6 (pA P R) v)=v:=by
 unfold ZE6;split
 ·split
  ·simp only[toV,Z1H,List.map_map]
   congr 1;have:(toV ∘ Z2C (pA P R))=id:=funext fun v=>Z1v v;rw[this];simp
  ·rfl
 ·simp only[toV,Z1v]
 ·exact Z1v _
def Rep(env:Env pC)(a:Jm):Prop:=∀t,a.tmps.getD t undef=toV (Z3A env t)
theorem Rep.eval{env:Env pC}{a:Jm}(h:Rep env a)(x:J1):a.eval x=toV (ev (pA P R) env x):=by
 cases x with
 |tmp t=>exact h t
 |const v=>exact(ZDe v).symm
 |global g=>rfl
 |func f=>rfl
theorem Z62(off:Nat):∀(l:List Z) (k:Nat) (cs:Array Z),(l.zipIdx k).foldl (fun cs (x:Z×Nat)=>cs.setIfInBounds (off+x.2) x.1) cs=ZY cs (off+k) l
 |[],_,_=>rfl
 |v::vs,k,cs=>by
  simp only[List.zipIdx_cons,List.foldl_cons,ZY];exact Z62 off vs (k+1) _
theorem Z6f(place:Nat->Option (Nat×Nat))(cells:Array Z)(i:Nat)(v:Z)(rest:List (Nat×Z)){off size:Nat}(hp:place i=G (off,size))(h1:v.cells.size=size)(h2:off+size<=cells.size) :
  JT place cells ((i,v)::rest)=JT place (ZY cells off v.cells.toList) rest:=by
 simp only[JT,hp];have:(v.cells.size != size||decide (off+v.cells.size>cells.size))=Y:=by simp[h1];omega
 rw[if_neg (by simp[h1];omega)];congr 1;rw[<-Array.foldl_toList,Array.toList_zipIdx];exact Z62 off _ 0 cells
def ZC0:SV pC->Prop
 | .raw v=>Value.oneCell' v=H
 |_=>True
theorem Z2b:∀(vs:List (SV pC)) (r:Prop),ZEh (pA P R) vs r->(∀v∈vs,ZC0 v)/\r
 |[],r,h=>⟨by simp,h⟩
 |v::vs,r,h=>by
  cases v with
  |raw u =>
   obtain⟨h1,h2⟩:=Z2b vs r h.2;exact⟨List.forall_mem_cons.2 ⟨h.1,h1⟩,h2⟩
  |_ =>
   obtain⟨h1,h2⟩:=Z2b vs r h;exact⟨List.forall_mem_cons.2 ⟨trivial,h1⟩,h2⟩
theorem ZCe{v:Z}(h:Value.oneCell' v=H):v.cells=#[v]:=by
 cases v<;>first
  |rfl
  |cases h
theorem Z67{v:SV pC}{cs:List (SV pC)}(hr:ZC0 v)(h:Z4k v=G cs):(toV v).cells=(toVs cs).toArray:=by
 cases v with
 |raw u=>cases h;exact ZCe hr
 |big=>cases h
 |tup=>cases h
 |_=>cases h;rfl
theorem Z5x:∀(vs cells:List (SV pC)) (off:Nat),(ZY (toVs cells).toArray off (toVs vs))=(toVs (Z8h cells off vs)).toArray
 |[],_,_=>rfl
 |v::vs,cells,off=>by
  simp only[toVs,ZY,Z8h];rw[<-Z5x vs (cells.set off (v)) (off+1)];congr 1;simp[Z1H]
theorem Z2A{place:Nat->Option (Nat×Nat)}{ev:J1->SV pC}:∀(parts:List (Nat×J1)) (cells out:List (SV pC)),(∀v∈parts.map fun p=>ev p.2,ZC0 v)->Z2w place ev cells parts=G out ->
  JT place (toVs cells).toArray (parts.map fun(i,x)=>(i,toV (ev x)))=G (toVs out).toArray
 |[],cells,out,_,h=>by cases h;rfl
 |(i,x)::rest,cells,out,hrw,h=>by
  unfold Z2w at h;split at h
  ·cases h
  ·rename_i off size hp
   split at h
   ·cases h
   ·rename_i vs hvs
    split at h
    ·rename_i hc
     have e:=Z67 (hrw _ (by simp)) hvs;have h1:=Z2A rest _ out (fun v hv=>hrw v (by simp at hv ⊢;exact .inr hv)) h;rw[<-Z5x]at h1;rw[Jd,Z6f place _ i _ _ hp (by rw[e];simpa[Ze]using hc.1) (by simpa[Ze]using hc.2),e];exact h1
    ·cases h
theorem Z4d:∀(vs:List Z) (l:Array Z) (i:Nat),(ZY l i vs).size=l.size
 |[],_,_=>rfl
 |v::vs,l,i=>by simp[ZY,Z4d vs]
theorem Z1z{place:Nat->Option (Nat×Nat)}{ev:J1->SV pC}{n:Nat}{k:Array Z->Prop}:∀(parts:List (Nat×J1)) (l:Array Z) (r:Prop),(∀v∈parts.map fun p=>ev p.2,ZC0 v) ->
  l.size=n->Z3D (pA P R) place ev n l parts k=G r->r ->
  ∃out,JT place l (parts.map fun(i,x)=>(i,toV (ev x)))=G out/\k out
 |[],l,r,_,_,h,hr=>by cases h;exact⟨l,rfl,hr⟩
 |(i,x)::rest,l,r,hrw,hl,h,hr=>by
  have hrw':∀v∈rest.map fun p=>ev p.2,ZC0 v:=fun v hv=>hrw v (by simp at hv ⊢;exact .inr hv);unfold Z3D at h;split at h
  ·cases h
  ·rename_i off size hp
   split at h
   ·rename_i m l' hx
    split at h
    ·rename_i hc
     cases hb:Z3D (pA P R) place ev n ((pA P R).lputL l off m l') rest k with
     |none=>rw[hb]at h;cases h
     |some r' =>
      rw[hb]at h;cases h;obtain⟨hsz,hr⟩:=hr;have hsz:JR l'=m:=hsz;obtain⟨out,ho,hk⟩:=Z1z rest _ r' hrw' (by show(ZY l off _).size=n;rw[Z4d,hl]) hb hr;refine⟨out,?_,hk⟩;have e:toV (ev x)=.agg l':=by rw[hx];rfl
      rw[Jd,Z6f place l i _ _ hp (by rw[e];show JR l'=size;omega) (by omega),e]
      have:ZY l off (Value.agg l').cells.toList=(pA P R).lputL l off m l':=by
       show _=ZY l off (l'.toList.take m);rw[List.take_of_length_le (by simp;omega)];rfl
      rw[this];exact ho
    ·cases h
   ·split at h
    ·cases h
    ·rename_i vs hvs
     split at h
     ·rename_i hc
      have e:=Z67 (hrw _ (by simp)) hvs;obtain⟨out,ho,hk⟩:=Z1z rest _ r hrw' (by show(ZY l off _).size=n;rw[Z4d,hl]) h hr;refine⟨out,?_,hk⟩;rw[Jd,Z6f place l i _ _ hp (by rw[e];simpa[Ze]using hc.1) (by omega),e];exact ho
     ·cases h
end Go.Vcg
end
section
namespace Go.Vcg
variable{P:Program}{R:Z5f}
theorem map_some{α β:Type}{o:Option α}{f:α->β}{r:β}(h:o.map f=G r):∃a,o=G a/\f a=r:=by
 cases o with
 |none=>cases h
 |some a=>exact⟨a,rfl,by simpa using h⟩
theorem ZCH{x:SV pC}{most:Nat}{k:Nat->Prop}{r:Prop}(h:ZCc (pA P R) x most k=G r)(hr:r)(code:JU) :
  ∃n,(∀w,(J2 (toV x) most code).run P w=JJ n w)/\n<=most/\k n:=by
 unfold ZCc at h;split at h
 ·rename_i n
  split at h
  ·rename_i h0
   cases h;obtain⟨h1,hk⟩:=hr;have h1:n.toNat<=most:=h1;refine⟨n.toNat,fun w=>?_,h1,hk⟩;simp only[J2,toV,asIntOf,J3,J6,F];rw[if_pos ⟨h0,by omega⟩];rfl
  ·cases h
 ·rename_i n
  cases h;obtain⟨⟨h0,h1⟩,hk⟩:=hr;refine⟨Int.toNat n,fun w=>?_,Int.toNat_le.2 h1,hk⟩;simp only[J2,toV,asIntOf,J3,J6,F];rw[if_pos ⟨h0,h1⟩];rfl
 ·cases h
theorem Z52{k:IntKind}{n:Int}{most:Nat}(h0:0<=n)(h1:n.toNat<=most)(code:JU)(w:J0) :
  (J2 (.int k n) most code).run P w=JJ n.toNat w:=by
 simp only[J2,asIntOf,J3,J6,F];rw[if_pos ⟨h0,by omega⟩];rfl
theorem Z8e{k:IntKind}{n:Int}{most:Nat}(h:0<=n/\n<=(most:Nat))(code:JU)(w:J0) :
  (J2 (.int k n) most code).run P w=JJ n.toNat w:=by
 simp only[J2,asIntOf,J3,J6,F];rw[if_pos h];rfl
theorem Z8Q{hi:Option (SV pC)}{dflt most:Nat}{low:Nat->Option Prop}{r:Prop}(code:JU)(h:hiS (pA P R) hi dflt most low=G r)(hr:r) :
  ∃n r',(∀w,(match hi.map toV with
   |some v=>J2 v most code
   |none=>pure dflt:Sem Nat).run P w=JJ n w)/\low n=G r'/\r'/\(hi=U/\n=dflt\/n<=most):=by
 unfold hiS at h;split at h
 ·exact⟨dflt,r,fun w=>rfl,h,hr,.inl ⟨rfl,rfl⟩⟩
 ·rename_i k n
  split at h
  ·rename_i h0
   obtain⟨r',hl,rfl⟩:=map_some h;obtain⟨h1,hr⟩:=hr;have h1:n.toNat<=most:=h1;exact⟨n.toNat,r',fun w=>Z52 h0 h1 code w,hl,hr,.inr h1⟩
  ·cases h
 ·rename_i k n
  obtain⟨r',hl,rfl⟩:=map_some h;obtain⟨h1,hr⟩:=hr;exact⟨Int.toNat n,r',fun w=>Z8e h1 code w,hl,hr,.inr (Int.toNat_le.2 h1.2)⟩
 ·cases h
theorem Z8R{lo:Option (SV pC)}{hgh:Nat}{k0:Prop}{k:Nat->Prop}{r:Prop}(code:JU)(h:loS (pA P R) lo hgh k0 k=G r)(hr:r) :
  ∃n,(∀w,(match lo.map toV with
   |some v=>J2 v hgh code
   |none=>pure 0:Sem Nat).run P w=JJ n w)/\n<=hgh/\((n=0/\k0)\/k n):=by
 unfold loS at h;split at h
 ·cases h;exact⟨0,fun w=>rfl,Nat.zero_le _,.inl ⟨rfl,hr⟩⟩
 ·cases h
  exact⟨0,fun w=>Z52 (n:=0) (by omega) (by simp) code w,Nat.zero_le _,.inl ⟨rfl,hr⟩⟩
 ·obtain⟨n,h1,h2,h3⟩:=ZCH h hr code
  exact⟨n,h1,h2,.inr h3⟩
theorem Z2d{isS:Bool}{len cap:Nat}{lo hi:Option Z}{h l:Nat}{w:J0}
  (hh:(match hi with
    |some v=>J2 v cap (if isS then .sliceAcap else .sliceAlen)
    |none=>pure len:Sem Nat).run P w=JJ h w)
  (hl:(match lo with
    |some v=>J2 v h .sliceB
    |none=>pure 0:Sem Nat).run P w=JJ l w) :
  (Jj isS len cap lo hi U).run P w=JJ (l,h,cap) w:=by
 unfold Jj;cases hi with
 |none =>
  have:len=h:=by simpa using hh
  subst this;cases lo with
  |none =>
   have:0=l:=by simpa using hl
   subst this;rfl
  |some v=>simp at hl ⊢;simp[hl]
 |some u =>
  cases lo with
  |none =>
   have:0=l:=by simpa using hl
   subst this;simp at hh ⊢;simp[hh]
  |some v=>simp at hh hl ⊢;simp[hh,hl]
end Go.Vcg
end
section
namespace Go.Vcg
variable{P:Program}{R:Z5f}
theorem ZJ{o:J8}{ρ:J1->Z}{s:Sem Z}{v:Z}{w w':J0}(ho:execOp ρ o=(do pure (.value (<-s))))(h:s.run P w=JJ v w') :
  (execOp ρ o).run P w=JJ (.value v) w':=by
 rw[ho];simp[h]
theorem Z2t(d:Addr):d.add 0=d:=by simp[Addr.add]
theorem Z9e(o:Option Addr):o.map (fun d=>d.add 0)=o:=by cases o<;>simp[Z2t]
theorem ZAr{t:X}{x:SV pC}{lo hi:Option (SV pC)}{k:SV pC->Prop}{r:Prop}(h:ZDZ (pA P R) P t x lo hi k=G r)(hr:r) :
  ∃sv,(∀w,(JA t (toV x) (lo.map toV) (hi.map toV) U).run P w=JJ (toV sv) w)/\k sv:=by
 unfold ZDZ at h;split at h
 ·
  rename_i e ol len cap hu;have hu:=Z1G hu (by simp);split at h
  ·rename_i hsz
   obtain⟨i,hi'⟩:=Option.isSome_iff_exists.1 hsz;obtain⟨hh,r',hh1,hh2,hr',hh3⟩:=Z8Q (P:=P) (R:=R) .sliceAcap h hr;obtain⟨l,hl1,hl2,hl3⟩:=Z8R (P:=P) (R:=R) .sliceB hh2 hr'
   have hrun:∀w,(JA t (toV (.slice ol len cap)) (lo.map toV) (hi.map toV) U).run P w=JJ (.slice (if cap=l then ol else Option.map (·.add (l*Z0E P e)) ol) (hh-l) (cap-l)) w:=by
    intro w;unfold JA;simp only[J3,ZX hu,F,toV];unfold Q1;simp only[J3,ZX hu,F];rw[Z2d (isS:=H) (hh1 w) (hl1 w)];simp only[F,Z0e hi',J6]
   rcases hl3 with⟨rfl,hk⟩|hk
   ·refine⟨_,fun w=>?_,hk⟩
    rw[hrun w];simp only[toV,Nat.zero_mul,Nat.sub_zero,Z9e,ite_self]
   ·refine⟨_,fun w=>?_,hk⟩;exact hrun w
  ·cases h
 ·rename_i n e d hu
  have hu:=Z1G hu (by simp);split at h
  ·rename_i hsz
   obtain⟨i,hi'⟩:=Option.isSome_iff_exists.1 hsz;obtain⟨hh,r',hh1,hh2,hr',hh3⟩:=Z8Q (P:=P) (R:=R) (dflt:=n) (most:=n) .sliceAlen h hr;obtain⟨l,hl1,hl2,hl3⟩:=Z8R (P:=P) (R:=R) .sliceB hh2 hr'
   have hrun:∀w,(JA t (toV (.addr d)) (lo.map toV) (hi.map toV) U).run P w=JJ (.slice (G (if n=l then d else Addr.add d (l*Z0E P e))) (hh-l) (n-l)) w:=by
    intro w;unfold JA;simp only[J3,ZX hu,F,toV,Instr.sureAddr,J6];rw[Z2d (isS:=Y) (hh1 w) (hl1 w)];simp only[F,Z0e hi',J6]
   rcases hl3 with⟨rfl,hk⟩|hk
   ·refine⟨_,fun w=>?_,hk⟩
    rw[hrun w];simp only[toV,Nat.zero_mul,Nat.sub_zero,Z2t,ite_self];rfl
   ·refine⟨_,fun w=>?_,hk⟩;exact hrun w
  ·cases h
 ·rename_i s hu
  have hu:=Z1G hu (by simp);obtain⟨hh,r',hh1,hh2,hr',hh3⟩:=Z8Q (P:=P) (R:=R) (dflt:=ByteArray.size s) (most:=ByteArray.size s) .sliceAlen h hr;obtain⟨l,hl1,hl2,hl3⟩:=Z8R (P:=P) (R:=R) .sliceB hh2 hr'
  have hrun:∀w,(JA t (toV (.str s)) (lo.map toV) (hi.map toV) U).run P w=JJ (.string (ByteArray.extract s l hh)) w:=by
   intro w;unfold JA;simp only[J3,ZX hu,F,toV];unfold Q1;simp only[J3,ZX hu,F];simp only[Option.isSome_none,Jf,if_false,J3,J6,F];rw[Z2d (isS:=Y) (hh1 w) (hl1 w)];simp only[F,J6]
  rcases hl3 with⟨rfl,hk⟩|hk
  ·refine⟨_,fun w=>?_,hk⟩;exact hrun w
  ·refine⟨_,fun w=>?_,hk⟩;exact hrun w
 ·cases h
end Go.Vcg
end
