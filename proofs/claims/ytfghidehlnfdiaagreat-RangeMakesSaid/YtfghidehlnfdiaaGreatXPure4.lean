/- Regions whose order is open: one walk in an order of our choice serves every order. No program is named here. -/
/- A symbolic executor over the model's code, generic over what its leaves are: over propositions it is a verification condition (XSound), over text it prints one. -/
/- The executor over propositions is sound: what it asks is enough for the code's own weakest precondition. -/
/- Each operation that the executor takes by its form does what the form says. -/
/- The operations that yield their value in whatever world. -/
import Derived.Orders
import Derived.WalkKit
set_option linter.unusedVariables false
set_option linter.unusedSimpArgs false
open Array renaming ext_getElem?->Jd,extract->Jv,getElem?_eq_getElem->JG,getElem?_eq_none->JC,getElem?_setIfInBounds_ne->JK,getElem_mem->Jg,replicate->JV,size->JQ
open Bool renaming and_eq_true->JA,false->Y,false_eq_true->Je,not_eq_true'->Jf,or_eq_true->JU,true->F
open Go renaming Act->Jl,BinOp->JP,BoundsCode->JT,Ending->Js,FuncId->Q1,Oper->J7,Operand->J0,Tmp->Q4,TypeDesc->JD,TypeId->Z,World->H,binOp->JB,eqGuard->Jw,getD_set_true->JH,yielded->Jb
open Go.Callee renaming builtin->JJ
open Go.Instr renaming fill->JS,slice->Q0,sliceAt->J9,sliceBound->J1,sliceBounds->Ji
open Go.Op renaming call->Q5,convert->Jp,entryStore->Jz,equal->JE,equalIn->J8,extract->Jy,fieldAddr->Jq,indexAddr->Jr,intArith->JN,intCmp->Q3,intDiv->Jk,makeInterface->Ja,select->Q2,shift->Jt,sliceToArrayPointer->JM,typeAssert->Jm
open Go.Region renaming binds->JF,ready->J4,wanted->JL
open Go.Result renaming andThen_ok->U,ok->JI
open Go.Sem renaming run_bind->J2,run_pure->J5
open Go.TypeDesc renaming array->JZ,interface->J6,invalid->Jx,struct->Jh
open Go.Value.int renaming injEq->JO
open List renaming all_eq_true->JR,contains_eq_mem->JY,getD_eq_getElem?_getD->J3,getElem?_eq_none->JW,map_cons->Jc,mem_range->JX,range->Jn,replicate->Jo
open Option renaming bind_some->Jj,isNone->Ju,none->X,some->G
section
namespace Go.Vcg
def Z7D(i:Nat):List J7->List Bool->List Bool
 |[],acc=>acc
 |o::rest,acc=>Z7D i rest (acc++[o.after.any fun e=>JF .any e&&(e.on == i||acc.getD e.on Y)])
def Z2R(ops:Array J7)(i:Nat):List Bool:=Z7D i ops.toList []
def Z1x(ops:Array J7)(listed:Array Bool):Prop :=
 ∀(j:Nat)(o:J7),ops[j]?=G o->listed.getD j Y=F->∀e∈o.after,JF .any e=F->listed.getD e.on Y=F
theorem Z3E{ops:Array J7}{i:Nat}:∀(l:List J7) (acc:List Bool),(∀k,l[k]?=ops[acc.length+k]?) ->
  (∀k o,acc.getD k Y=F->ops[k]?=G o->∀listed,Z1x ops listed->(∀e∈o.after,JF .any e=F->listed.getD e.on Y=F)->listed.getD i Y=F) ->
  ∀k o,(Z7D i l acc).getD k Y=F->ops[k]?=G o->∀listed,Z1x ops listed->(∀e∈o.after,JF .any e=F->listed.getD e.on Y=F)->listed.getD i Y=F
 |[],_,_,h=>h
 |o::l,acc,hl,h=>by
  have h0:ops[acc.length]?=G o:=by simpa using(hl 0).symm
  refine Z3E l _ (fun k=>?_) ?_
  ·have:=hl (k+1)
   simpa[Nat.add_assoc,Nat.add_comm 1 k]using this
  ·intro k o' hk ho' listed hc hp
   rcases Nat.lt_trichotomy k acc.length with hlt|heq|hgt
   ·refine h k o' ?_ ho' listed hc hp
    simpa[J3,List.getElem?_append_left hlt]using hk
   ·subst heq
    rw[h0]at ho';cases ho';simp only[J3,List.getElem?_append_right (Nat.le_refl _),Nat.sub_self,List.getElem?_cons_zero,Option.getD_some]at hk;obtain⟨e,he,hb⟩:=Array.any_eq_true'.1 hk;simp only[JA,JU,beq_iff_eq]at hb;have hon:=hp e he hb.1;rcases hb.2 with h1|h1
    ·rw[<-h1];exact hon
    ·have h2:acc.getD e.on Y=F:=by simpa[J3]using h1
     have hlen:e.on<acc.length:=by
      rcases Nat.lt_or_ge e.on acc.length with h'|h'
      ·exact h'
      ·simp[J3,JW h']at h2
     have hex:∃ok,ops[e.on]?=G ok:=by
      have hs:acc.length<ops.size:=(Array.getElem?_eq_some_iff.1 h0).1;exact⟨_,JG (by omega)⟩
     obtain⟨ok,hok⟩:=hex;exact h e.on ok h2 hok listed hc (hc e.on ok hok hon)
   ·have:(acc++[o.after.any fun e=>JF .any e&&(e.on == i||acc.getD e.on Y)]).length<=k:=by simp;omega
    rw[J3,JW this]at hk;cases hk
theorem Z7E{ops:Array J7}{i j:Nat}{listed:Array Bool}(hc:Z1x ops listed)(hj:j∈J4 .any ops listed)(hi:listed.getD i Y=Y) :
  (Z2R ops i).getD j Y=Y:=by
 cases h:(Z2R ops i).getD j Y with
 |false=>rfl
 |true =>
  obtain⟨_,o,ho,hall⟩:=mem_ready.1 hj;have:=Z3E (ops:=ops) (i:=i) ops.toList [] (by simp) (by simp) j o h ho listed hc hall;rw[hi]at this;cases this
theorem Z9t{ops:Array J7}{i j:Nat}{o:J7}{listed:Array Bool}(hc:Z1x ops listed)(ho:ops[j]?=G o)(hj:listed.getD j Y=F)
  (h:(Z2R ops i).getD j Y=F):listed.getD i Y=F :=
 Z3E (ops:=ops) (i:=i) ops.toList [] (by simp) (by simp) j o h ho listed hc (hc j o ho hj)
theorem Z1x.start(ops:Array J7)(n:Nat):Z1x ops (JV n Y):=by
 intro j o _ h;exfalso;by_cases hn:j<n<;>simp[hn]at h
theorem Z10{listed:Array Bool}{i:Nat}(h:i<listed.size):(listed.setIfInBounds i F).getD i Y=F:=by simp[h]
theorem Z0x{listed:Array Bool}{i j:Nat}(h:i≠j):(listed.setIfInBounds i F).getD j Y=listed.getD j Y:=by
 simp[JK h]
theorem Z1x.set{ops:Array J7}{listed:Array Bool}(hc:Z1x ops listed){j:Nat}(hj:j∈J4 .any ops listed):Z1x ops (listed.setIfInBounds j F):=by
 intro k o ho hk e he hb;by_cases hkj:j=k
 ·subst hkj
  obtain⟨_,o',ho',hall⟩:=mem_ready.1 hj;rw[ho]at ho';cases ho';exact JH (hall e he hb)
 ·rw[Z0x hkj]at hk
  exact JH (hc k o ho hk e he hb)
def ssa(ops:Array J7):Bool :=
 Region.noSelect ops &&
 (Jn ops.size).all fun i =>
   match ops[i]? with
   |none=>F
   |some oi =>
    (oi.after.all fun e=> !JF .any e||decide (e.on<i)) &&
    match oi.dst with
    |none=>F
    |some d =>
     let ds:=Z2R ops i
     !(oi.looksAt ops).contains d&&(Jn ops.size).all fun j=>j == i||match ops[j]? with
       |none=>F
       |some oj=>oj.dst != G d&&(!(oj.looksAt ops).contains d||ds.getD j Y||(Z2R ops j).getD i Y)
def ZG0(ops:Array J7)(i:Nat):Bool :=
 match ops[i]? with
 |none=>Y
 |some oi=>match oi.dst with
  |none=>F
  |some d =>
   let ds:=Z2R ops i
   (Jn ops.size).all fun j=>j == i||match ops[j]? with
     |none=>F
     |some oj=> !(oj.looksAt ops).contains d||ds.getD j Y
theorem Z3s{ops:Array J7}(h:ssa ops=F){i:Nat}{oi:J7}(hi:ops[i]?=G oi) :
  (∀e∈oi.after,JF .any e=F->e.on<i) /\
  ∀d,oi.dst=G d->d ∉ oi.looksAt ops/\∀(j:Nat)(oj:J7),ops[j]?=G oj->j≠i->oj.dst≠G d/\(d∈oj.looksAt ops->(Z2R ops i).getD j Y=F\/(Z2R ops j).getD i Y=F):=by
 simp only[ssa,JA,JR,JX]at h;have hlt:i<ops.size:=(Array.getElem?_eq_some_iff.1 hi).1;have h1:=h.2 i hlt;simp only[hi,JA]at h1;refine⟨fun e he hb=>?_,fun d hd=>?_⟩
 ·have h2:=Array.all_eq_true_iff_forall_mem.1 h1.1 e he
  simpa[hb]using h2
 ·have h2:=h1.2
  simp only[hd,JA,JR,JX]at h2;refine⟨by simpa using h2.1,fun j oj hj hne=>?_⟩;have h3:=h2.2 j (Array.getElem?_eq_some_iff.1 hj).1;simp only[hj,JU,beq_iff_eq,hne,false_or,JA,bne_iff_ne,ne_eq,Jf,JY]at h3;refine⟨h3.1,fun hm=>?_⟩;rcases h3.2 with(h4|h4)|h4
  ·simp[hm]at h4
  ·exact .inl h4
  ·exact .inr h4
theorem ZA5{ops:Array J7}{i:Nat}{oi:J7}(h:ZG0 ops i=F)(hi:ops[i]?=G oi){d:Q4}(hd:oi.dst=G d){j:Nat}{oj:J7}(hj:ops[j]?=G oj)(hne:j≠i)
  (hm:d∈oj.looksAt ops):(Z2R ops i).getD j Y=F:=by
 simp only[ZG0,hi,hd,JR,JX]at h;have h3:=h j (Array.getElem?_eq_some_iff.1 hj).1;simp only[hj,JU,beq_iff_eq,hne,false_or,Jf,JY]at h3;rcases h3 with h4|h4
 ·simp[hm]at h4
 ·exact h4
section
variable{P:Program}{ops:Array J7}{Q:Exit->Jl->H->Prop}
def YA(P:Program)(ops:Array J7)(i:Nat)(v:Value)(a:Jl)(w:H):Prop :=
 ∃o,ops[i]?=G o/\((JL o (Jb ops a.tmps)=F/\(execOp a.eval o).run P w=JI (.value v) w)\/(JL o (Jb ops a.tmps)=Y/\v=undef))
def wpG(P:Program)(ops:Array J7)(Q:Exit->Jl->H->Prop):Nat->Array Bool->List (Nat×Value)->Jl->H->Prop
 |0,_,_,_,_=>False
 |n+1,listed,pend,a,w =>
  (J4 .any ops listed=[]/\Q .normal a w) \/
  (∃i o v,i∈J4 .any ops listed/\ops[i]?=G o/\ZG0 ops i=F/\YA P ops i v a w/\wpG P ops Q n (listed.setIfInBounds i F) ((i,v)::pend) (a.put o.dst v) w) \/
  (J4 .any ops listed≠[]/\∀j∈J4 .any ops listed,wpOp P ops Q j (fun a' w' =>
    (∀p∈pend,(Z2R ops p.1).getD j Y=Y->YA P ops p.1 p.2 a' w')/\wpG P ops Q n (listed.setIfInBounds j F) (pend.filter fun p=> !(Z2R ops p.1).getD j Y) a' w') a w)
structure Rel (P:Program) (ops:Array J7) (lR lG:Array Bool) (pend:List (Nat×Value)) (aR aG:Jl) (w:H):Prop where
 sR:lR.size=ops.size
 sG:lG.size=ops.size
 cR:Z1x ops lR
 cG:Z1x ops lG
 sub:∀j,lR.getD j Y=F->lG.getD j Y=F
 defers:aR.defers=aG.defers
 size:aR.tmps.size=aG.tmps.size
 same:∀d,(∀t o,lG.getD t Y=F->lR.getD t Y=Y->ops[t]?=G o->o.dst≠G d)->aR.tmps[d]?=aG.tmps[d]?
 held:∀t o,lG.getD t Y=F->lR.getD t Y=Y->ops[t]?=G o ->
  ZG0 ops t=F/\∃v,(t,v)∈pend/\YA P ops t v aG w/\∀d,o.dst=G d->d<aG.tmps.size->aG.tmps[d]?=G v
theorem ZDu{lR lG:Array Bool}{pend:List (Nat×Value)}{aR aG:Jl}{w:H}(h:Rel P ops lR lG pend aR aG w)(hs:ssa ops=F)
  {j:Nat} {oj:J7} (hj:j∈J4 .any ops lR) (hoj:ops[j]?=G oj) (d:Q4) (hd:d∈oj.looksAt ops):aR.tmps[d]?=aG.tmps[d]?:=by
 refine h.same d fun t o hG hR ho hdst=>?_;have h0:=(Z3s hs ho).2 d hdst;by_cases htj:j=t
 ·subst htj
  rw[ho]at hoj;cases hoj;exact h0.1 hd
 ·have h1:=ZA5 (h.held t o hG hR ho).1 ho hdst hoj htj hd
  rw[Z7E h.cR hj hR]at h1;cases h1
theorem ZHO(hs:ssa ops=F)(j:Nat)(o:J7)(ho:ops[j]?=G o)(cs:Array SelectCase)(b:Bool):o.op≠Q2 cs b:=by
 simp only[ssa,JA]at hs;exact Region.noSelect_spec hs.1 j o cs b ho
theorem Z5L{o:J7}{a b:Jl}(hsel:∀cs bb,o.op≠Q2 cs bb)(h:∀d∈o.looksAt ops,a.tmps[d]?=b.tmps[d]?) :
  execOp a.eval o=execOp b.eval o :=
 execOp_congr o hsel fun x hx=>by
  cases x with
  |tmp t =>
   have ht:t∈o.looksAt ops:=List.mem_append_left _ (List.mem_filterMap.2 ⟨.tmp t,by simpa using hx,rfl⟩);simp only[Act.eval,Array.getD_eq_getD_getElem?,h t ht]
  |_=>rfl
theorem Z5F{o:J7}{a b:Jl}(h:∀d∈o.looksAt ops,a.tmps[d]?=b.tmps[d]?) :
  JL o (Jb ops a.tmps)=JL o (Jb ops b.tmps):=by
 unfold JL;cases hg:o.guard with
 |none=>rfl
 |some gw =>
  obtain⟨g,want⟩:=gw
  have:Jb ops a.tmps g=Jb ops b.tmps g:=by
   unfold Jb;cases ht:(ops[g]?).bind (·.dst)with
   |none=>rfl
   |some t =>
    have:=h t (by simp[Oper.looksAt,hg,ht]);simp only[Jj,this]
  simp only[this]
theorem YA.of_same{i:Nat}{v:Value}{a b:Jl}{w:H}(hs:ssa ops=F)(h:YA P ops i v a w)(hsame:∀o,ops[i]?=G o->∀d∈o.looksAt ops,a.tmps[d]?=b.tmps[d]?):YA P ops i v b w:=by
 obtain⟨o,ho,h⟩:=h;refine⟨o,ho,?_⟩;rw[<-Z5F (hsame o ho),<-Z5L (ZHO hs i o ho) (hsame o ho)];exact h
theorem Z1A{a:Jl}{dst:Option Q4}{v:Value}{d:Q4}(h:dst≠G d):(a.put dst v).tmps[d]?=a.tmps[d]?:=by
 cases dst with
 |none=>rfl
 |some e =>
  have:e≠d:=fun he=>h (he ▸ rfl);simp[Act.put,JK this]
theorem put_size{a:Jl}{dst:Option Q4}{v:Value}:(a.put dst v).tmps.size=a.tmps.size:=by
 cases dst<;>simp[Act.put]
theorem Z37{a:Jl}{d:Q4}{v:Value}(h:d<a.tmps.size):(a.put (G d) v).tmps[d]?=G v:=by
 simp[Act.put,h]
theorem Zo{a:Jl}{dst:Option Q4}{v:Value}:(a.put dst v).defers=a.defers:=by
 cases dst<;>rfl
theorem YA.put_later{i j:Nat}{oj:J7}{v u:Value}{a:Jl}{w:H}{lG:Array Bool}(hs:ssa ops=F)(hcG:Z1x ops lG)(hj:ops[j]?=G oj)
  (hfree:ZG0 ops j=F\/(Z2R ops i).getD j Y=Y) (hlj:lG.getD j Y=Y) (hi:lG.getD i Y=F) (h:YA P ops i v a w):YA P ops i v (a.put oj.dst u) w:=by
 refine h.of_same hs fun o ho d hd=>(Z1A fun hdst=>?_).symm;have h1:=(Z3s hs hj).2 d hdst;by_cases hij:i=j
 ·subst hij;rw[hi]at hlj;cases hlj
 ·have h2:(Z2R ops j).getD i Y=F:=by
    rcases hfree with hf|hf
    ·exact ZA5 hf hj hdst ho hij hd
    ·rcases (h1.2 i o ho hij).2 hd with h3|h3
     ·exact h3
     ·rw[hf]at h3;cases h3
  have:=Z9t hcG ho hi h2;rw[hlj]at this;cases this
theorem ZF2{j:Nat}{oj:J7}{aR aG:Jl}{w:H}(hoj:ops[j]?=G oj)(hsel:∀cs bb,oj.op≠Q2 cs bb)
  (hsame:∀d∈oj.looksAt ops,aR.tmps[d]?=aG.tmps[d]?) (hdef:aR.defers=aG.defers) (hout:∀d,(∀(t:Nat) o,ops[t]?=G o->o.dst≠G d)->aR.tmps[d]?=aG.tmps[d]?) (hQ:∀c(a a':Jl) w,a.defers=a'.defers->(∀d,(∀(t:Nat) o,ops[t]?=G o->o.dst≠G d)->a.tmps[d]?=a'.tmps[d]?)->Q (.panic c) a w->Q (.panic c) a' w) {K:Jl->H->Prop}
  (h:wpOp P ops Q j K aG w) :
  wpOp P ops Q j (fun a' w'=>∃v ds,a'=({ aR with defers:=ds++aR.defers }:Jl).put oj.dst v/\K (({ aG with defers:=ds++aG.defers }:Jl).put oj.dst v) w') aR w:=by
 unfold wpOp at *
 simp only[hoj]at *
 rw[Z5F hsame];split
 ·rename_i hw
  simp only[hw,if_true]at h;rcases h with h|⟨hasks,hlets⟩
  case inr=>exact .inr ⟨by unfold Oper.asks at *;rw[Z5L hsel hsame];exact hasks,hlets⟩
  refine .inl ?_;unfold Oper.wp at *
  rw[Z5L hsel hsame];generalize(execOp aG.eval oj).run P w=r at *
  cases r with
  |ok n w' =>
   cases n<;>simp only[Oper.upon]at h ⊢
   case value u=>exact⟨u,[],rfl,h⟩
   case skip=>exact⟨undef,[],rfl,h⟩
   case defer d=>exact⟨undef,[d],rfl,h⟩
   case enter f args =>
    refine Calls.mono h fun e w'' he=>?_;cases e with
    |returned u=>exact⟨u,[],rfl,he⟩
    |panicked c=>exact hQ _ _ _ _ hdef.symm (fun d hd=>(hout d hd).symm) he
    |outgrown=>exact he
   case row row args=>exact Rows.mono h fun u w'' he=>⟨u,[],rfl,he⟩
  |halt x w' =>
   cases x<;>simp only[Oper.upon]at h ⊢
   case panic u=>exact hQ _ _ _ _ hdef.symm (fun d hd=>(hout d hd).symm) h
 ·rename_i hw
  simp only[hw]at h;exact⟨undef,[],rfl,h⟩
theorem Z3o{j:Nat}{listed:Array Bool}(hj:j∈J4 .any ops listed):j<ops.size/\listed.getD j Y=Y:=by
 obtain⟨h0,o,ho,_⟩:=mem_ready.1 hj;refine⟨(Array.getElem?_eq_some_iff.1 ho).1,?_⟩;by_cases hj':j<listed.size
 ·simpa[hj']using h0
 ·simp[hj']at h0
theorem count_set{l:Array Bool}{j:Nat}(h:l.getD j F=Y){m:Nat}(hm:l.count Y<=m+1):(l.setIfInBounds j F).count Y<=m:=by
 have hj:j<l.size:=by
  rcases Nat.lt_or_ge j l.size with h'|h'
  ·exact h'
  ·simp[Nat.not_lt.2 h']at h
 have hv:l[j]=Y:=by simpa[hj]using h
 rw[Array.setIfInBounds,dif_pos hj,Array.count_set];have hpos:0<l.count Y:=Array.count_pos_iff.2 (by rw[<-hv];exact Jg hj);simp[hv];omega
theorem sim(hs:ssa ops=F)(hQ:∀c (a a':Jl) w,a.defers=a'.defers->(∀d,(∀(t:Nat) o,ops[t]?=G o->o.dst≠G d)->a.tmps[d]?=a'.tmps[d]?)->Q (.panic c) a w->Q (.panic c) a' w) :
  ∀(m:Nat)(lR lG:Array Bool)(pend:List (Nat×Value))(aR aG:Jl)(w:H)(n:Nat),lR.count Y<=m ->
   Rel P ops lR lG pend aR aG w->wpG P ops Q n lG pend aG w->wpAny P .any ops Q m lR aR w:=by
 intro m
 induction m with
 |zero =>
  intro lR lG pend aR aG w n hm hrel hG
  have hall:∀j,j<ops.size->lR.getD j Y=F:=fun j hj=>by
   have h0:Y ∉ lR:=Array.count_eq_zero.1 (Nat.le_zero.1 hm);have hj':j<lR.size:=by rw[hrel.sR];exact hj
   cases hv:lR[j]with
   |true=>simp[hj',hv]
   |false=>exact absurd (hv ▸ Jg hj') h0
  have hready:∀l:Array Bool,(∀j,j<ops.size->l.getD j Y=F)->J4 .any ops l=[]:=fun l hl=>by
   refine List.eq_nil_iff_forall_not_mem.2 fun j hj=>?_;have:=Z3o hj;rw[hl j this.1]at this;cases this.2
  have hG':=hready lG fun j hj=>hrel.sub j (hall j hj);cases n with
  |zero=>exact hG.elim
  |succ n =>
   refine⟨hready lR hall,?_⟩
   have heq:aR=aG:=by
    have h1:aR.tmps=aG.tmps:=Jd fun d=>hrel.same d fun t o hGt hRt ho=>by
     rw[hall t (Array.getElem?_eq_some_iff.1 ho).1]at hRt;cases hRt
    have h2:=hrel.defers;cases aR;cases aG
    simp_all
   rcases hG with⟨_,hq⟩|⟨i,o,v,hi,_⟩|⟨hne,_⟩
   ·rw[heq];exact hq
   ·rw[hG']at hi;cases hi
   ·exact absurd hG' hne
 |succ m ih =>
  intro lR lG pend aR aG w n hm hrel hG;refine⟨fun hR=>?_,fun j hj=>?_⟩
  ·
   have hnone:∀t o,lG.getD t Y=F->lR.getD t Y=Y->ops[t]?=G o->False:=by
    intro t
    induction t using Nat.strongRecOn with
    |_ t iht =>
     intro o hGt hRt ho
     have hmem:t∈J4 .any ops lR:=by
      refine mem_ready.2 ⟨?_,o,ho,fun e he hb=>?_⟩
      ·have hlt:t<lR.size:=by rw[hrel.sR];exact(Array.getElem?_eq_some_iff.1 ho).1
       simpa[hlt]using hRt
      ·have hlt:=(Z3s hs ho).1 e he hb
       have hGe:=hrel.cG t o ho hGt e he hb;cases hRe:lR.getD e.on Y with
       |true=>rfl
       |false =>
        have hsz:e.on<ops.size:=Nat.lt_trans hlt (Array.getElem?_eq_some_iff.1 ho).1;exact(iht e.on hlt _ hGe hRe (JG hsz)).elim
     rw[hR]at hmem;cases hmem
   have heq:aR=aG:=by
    have h1:aR.tmps=aG.tmps:=Jd fun d=>hrel.same d fun t o hGt hRt ho=>(hnone t o hGt hRt ho).elim;have h2:=hrel.defers;cases aR;cases aG
    simp_all
   have hl:lR=lG:=by
    refine Array.ext (by rw[hrel.sR,hrel.sG]) fun t h1 h2=>?_;have ho:∃o,ops[t]?=G o:=⟨_,JG (by rw[<-hrel.sR];exact h1)⟩;obtain⟨o,ho⟩:=ho;cases hv:lR[t]with
    |true =>
     have:=hrel.sub t (by simp[h1,hv]);simpa[h2]using this.symm
    |false =>
     cases hv':lG[t]with
     |false=>rfl
     |true=>exact(hnone t o (by simp[h2,hv']) (by simp[h1,hv]) ho).elim
   cases n with
   |zero=>exact hG.elim
   |succ n =>
    rcases hG with⟨_,hq⟩|⟨i,o,v,hi,_⟩|⟨hne,_⟩
    ·rw[heq];exact hq
    ·rw[<-hl,hR]at hi;cases hi
    ·exact absurd (hl ▸ hR) hne
  ·
   obtain⟨hjlt,hjR⟩:=Z3o hj;obtain⟨hj0,oj,hoj,hall⟩:=mem_ready.1 hj;have hsel:=ZHO hs j oj hoj;have hcount:=count_set hj0 hm;have hjs:j<lR.size:=by rw[hrel.sR];exact hjlt
   clear hj0
   induction n generalizing lG pend aG with
   |zero=>exact hG.elim
   |succ n ihn =>
    have hlook:=fun d hd=>ZDu hrel hs hj hoj d hd;by_cases hjG:lG.getD j Y=F
    ·
     obtain⟨_,v,hmem,⟨o',ho',hya⟩,hval⟩:=hrel.held j oj hjG hjR hoj;rw[hoj]at ho';cases ho'
     have hnew:Rel P ops (lR.setIfInBounds j F) lG pend (aR.put oj.dst v) aG w:={
      sR:=by simpa using hrel.sR
      sG:=hrel.sG
      cR:=hrel.cR.set hj
      cG:=hrel.cG
      sub:=fun k hk=>by
       by_cases hkj:j=k
       ·subst hkj;exact hjG
       ·rw[Z0x hkj]at hk;exact hrel.sub k hk
      defers:=by rw[Zo];exact hrel.defers
      size:=by rw[put_size];exact hrel.size
      same:=fun d hd=>by
       by_cases hdj:oj.dst=G d
       ·rw[hdj]
        by_cases hlt:d<aG.tmps.size
        ·rw[Z37 (by rw[hrel.size];exact hlt),hval d hdj hlt]
        ·have e1:(aR.put (G d) v).tmps[d]?=X:=JC (by rw[put_size,hrel.size];exact Nat.not_lt.1 hlt)
         have e2:aG.tmps[d]?=X:=JC (Nat.not_lt.1 hlt);rw[e1,e2]
       ·rw[Z1A hdj]
        refine hrel.same d fun t o hGt hRt ho=>?_;by_cases htj:j=t
        ·subst htj;rw[hoj]at ho;cases ho;exact hdj
        ·exact hd t o hGt (by rw[Z0x htj];exact hRt) ho
      held:=fun t o hGt hRt ho=>by
       by_cases htj:j=t
       ·subst htj;rw[Z10 hjs]at hRt;cases hRt
       ·rw[Z0x htj]at hRt;exact hrel.held t o hGt hRt ho }
     have hnext:=ih (lR.setIfInBounds j F) lG pend (aR.put oj.dst v) aG w (n+1) hcount hnew hG;unfold wpOp;simp only[hoj];rw[Z5F hlook];rcases hya with⟨hw,hrun⟩|⟨hw,rfl⟩
     ·simp only[hw,if_true]
      refine .inl ?_;unfold Oper.wp;rw[Z5L hsel hlook,hrun];exact hnext
     ·simp only[hw]
      exact hnext
    ·have hjG':lG.getD j Y=Y:=by simpa using hjG
     have hjrG:j∈J4 .any ops lG:=by
      refine mem_ready.2 ⟨?_,oj,hoj,fun e he hb=>hrel.sub _ (hall e he hb)⟩;have:j<lG.size:=by rw[hrel.sG];exact hjlt
      simpa[this]using hjG'
     rcases hG with⟨hnil,_⟩|⟨i,oi,v,hi,hoi,hfi,hyi,hG⟩|⟨_,hev⟩
     ·rw[hnil]at hjrG;cases hjrG
     ·
      obtain⟨hilt,hiG⟩:=Z3o hi;have his:i<lG.size:=by rw[hrel.sG];exact hilt
      have hiR:lR.getD i Y=Y:=by
       cases h:lR.getD i Y with
       |false=>rfl
       |true=>rw[hrel.sub i h]at hiG;cases hiG
      refine ihn (lG.setIfInBounds i F) ((i,v)::pend) (aG.put oi.dst v) ?_ hG
      ·exact{
        sR:=hrel.sR
        sG:=by simpa using hrel.sG
        cR:=hrel.cR
        cG:=hrel.cG.set hi
        sub:=fun k hk=>JH (hrel.sub k hk)
        defers:=by rw[Zo];exact hrel.defers
        size:=by rw[put_size];exact hrel.size
        same:=fun d hd=>by
         have hne:oi.dst≠G d:=hd i oi (Z10 his) hiR hoi;rw[Z1A hne];exact hrel.same d fun t o hGt hRt ho=>hd t o (JH hGt) hRt ho
        held:=fun t o hGt hRt ho=>by
         by_cases hti:i=t
         ·subst hti
          rw[hoi]at ho;cases ho;refine⟨hfi,v,by simp,?_,fun d hd hlt=>?_⟩
          ·refine hyi.of_same hs fun o' ho' d hd=>(Z1A fun hdst=>?_).symm
           rw[hoi]at ho';cases ho';exact((Z3s hs hoi).2 d hdst).1 hd
          ·rw[hd];rw[put_size]at hlt;exact Z37 hlt
         ·rw[Z0x hti]at hGt
          obtain⟨hft,u,hu,hyu,hv⟩:=hrel.held t o hGt hRt ho;refine⟨hft,u,by simp[hu],hyu.put_later hs hrel.cG hoi (.inl hfi) hiG hGt,fun d hd hlt=>?_⟩;rw[put_size]at hlt;have hne:oi.dst≠G d:=fun he=>((Z3s hs hoi).2 d he).2 t o ho (Ne.symm hti) |>.1 hd;rw[Z1A hne];exact hv d hd hlt }
     ·
      refine wpOp_mono ?_ (ZF2 hoj hsel hlook hrel.defers (fun d hd=>hrel.same d (fun t o _ _ ho=>hd t o ho)) hQ (hev j hjrG));rintro a' w'⟨v,ds,rfl,hpend,hG'⟩;have hjsG:j<lG.size:=by rw[hrel.sG];exact hjlt
      refine ih (lR.setIfInBounds j F) (lG.setIfInBounds j F) _ _ _ w' n hcount ?_ hG'
      exact{
       sR:=by simpa using hrel.sR
       sG:=by simpa using hrel.sG
       cR:=hrel.cR.set hj
       cG:=hrel.cG.set hjrG
       sub:=fun k hk=>by
        by_cases hkj:j=k
        ·subst hkj;exact Z10 hjsG
        ·rw[Z0x hkj]at hk;exact JH (hrel.sub k hk)
       defers:=by simp only[Zo,hrel.defers]
       size:=by simp only[put_size,hrel.size]
       same:=fun d hd=>by
        by_cases hdj:oj.dst=G d
        ·rw[hdj]
         by_cases hlt:d<aG.tmps.size
         ·rw[Z37 (by simpa[hrel.size]using hlt),Z37 (by simpa using hlt)]
         ·have e1:(({ aR with defers:=ds++aR.defers }:Jl).put (G d) v).tmps[d]?=X:=JC (by simp only[put_size,hrel.size];exact Nat.not_lt.1 hlt)
          have e2:(({ aG with defers:=ds++aG.defers }:Jl).put (G d) v).tmps[d]?=X:=JC (by simp only[put_size];exact Nat.not_lt.1 hlt);rw[e1,e2]
        ·rw[Z1A hdj,Z1A hdj]
         refine hrel.same d fun t o hGt hRt ho=>?_;by_cases htj:j=t
         ·subst htj;rw[hoj]at ho;cases ho;exact hdj
         ·exact hd t o (JH hGt) (by rw[Z0x htj];exact hRt) ho
       held:=fun t o hGt hRt ho=>by
        by_cases htj:j=t
        ·subst htj;rw[Z10 hjs]at hRt;cases hRt
        ·rw[Z0x htj]at hRt hGt
         obtain⟨hft,u,hu,_,hv⟩:=hrel.held t o hGt hRt ho;have hdt:=Z7E hrel.cR hj hRt;refine⟨hft,u,List.mem_filter.2 ⟨hu,by show(!(Z2R ops t).getD j Y)=F;rw[hdt];rfl⟩,hpend (t,u) hu hdt,fun d hd hlt=>?_⟩;have hne:oj.dst≠G d:=fun he=>((Z3s hs hoj).2 d he).2 t o ho (Ne.symm htj) |>.1 hd;rw[Z1A hne];rw[put_size]at hlt;exact hv d hd hlt }
theorem ZBp{id n:Nat}{a:Jl}{w:H}(hm:P.follows .mixedOrders=F)(hs:ssa ops=F)(hQ:∀c (a a':Jl) w,a.defers=a'.defers->(∀d,(∀(t:Nat) o,ops[t]?=G o->o.dst≠G d)->a.tmps[d]?=a'.tmps[d]?)->Q (.panic c) a w->Q (.panic c) a' w)
  (h:wpG P ops Q n (JV ops.size Y) [] a { w with drawn:=w.drawn+1 }):(Code.region id ops F).wp P Q a w:=by
 refine wp_region_any hm (sim hs hQ _ _ _ [] a a _ n ?_ ?_ h)
 ·simp
 ·exact{
   sR:=by simp
   sG:=by simp
   cR:=Z1x.start _ _
   cG:=Z1x.start _ _
   sub:=fun _ h=>h
   defers:=rfl
   size:=rfl
   same:=fun _ _=>rfl
   held:=fun t o h1 h2 _=>by rw[h1]at h2;cases h2 }
end
structure Car where
 (I B S O D N V L M W E J R:Type)
inductive BX (C:Car) where
 |var (b:C.B)
 |icmp (op:JP) (a b:C.I)
 |scmp (op:JP) (a b:C.S)
 |isNil (o:C.O)
 |isNilM (m:C.M)
 |not (a:BX C)
inductive SV (C:Car) where
 |bool (b:BX C)
 |blit (b:Bool)
 |int (k:IntKind) (n:C.I)
 |ilit (k:IntKind) (n:Int)
 |str (s:C.S)
 |ptr (o:C.O)
 |addr (d:C.D)
 |slice (o:C.O) (len cap:C.N)
 |map (m:C.M)
 |func (fn:Fn) (first cap:List (SV C))
 |iface (t:Z) (v:SV C)
 |nilIface
 |nilFunc
 |agg (cs:List (SV C))
 |big (n:Nat) (l:C.L)
 |tup (vs:List (SV C))
 |raw (v:C.V)
inductive Z71 where
 |int (k:IntKind)|bool|str|ptr|slice|map|raw|addr
 deriving DecidableEq,Repr,Inhabited
inductive Shape1 where
 |cell (c:Z71)
 |agg (cs:List Z71)
 |big (n:Nat)
 deriving Repr,Inhabited
inductive Shape where
 |one (s:Shape1)
 |tup (ss:List Shape1)
 deriving Repr,Inhabited
abbrev Env(C:Car):=List (Nat×SV C)
def Z3Z{C:Car}:Env C->Nat->SV C
 |[],_=>.tup []
 |(u,v)::r,t=>bif Nat.beq u t then v else Z3Z r t
structure Alg (C:Car) where
 il:Int->C.I
 nl:Nat->C.N
 sl:ByteArray->C.S
 onil:C.O
 osome:C.D->C.O
 mnil:C.M
 dl:Nat->Nat->C.D
 wrap:IntKind->C.I->C.I
 add:C.I->C.I->C.I
 sub:C.I->C.I->C.I
 mul:C.I->C.I->C.I
 tdiv:C.I->C.I->C.I
 tmod:C.I->C.I->C.I
 fdiv:C.I->C.I->C.I
 bits:JP->IntKind->C.I->C.I->C.I
 shl:IntKind->C.I->C.I->C.I
 shr:IntKind->C.I->C.I->C.I
 ssize:C.S->C.N
 sext:C.S->C.N->C.N->C.S
 sat:C.S->C.N->C.I
 n2i:C.N->C.I
 i2n:C.I->C.N
 nsub:C.N->C.N->C.N
 nmul:C.N->Nat->C.N
 dadd:C.D->C.N->C.D
 osub:C.O->C.N->C.N->Nat->C.O
 dsub:C.D->Nat->C.N->Nat->C.D
 lext:C.L->Nat->Nat->C.L
 lget:C.L->Nat->C.V
 lconst:Value->C.L
 vlit:Value->C.V
 lput:C.L->Nat->List (SV C)->C.L
 lputL:C.L->Nat->Nat->C.L->C.L
 junk:C.J->Nat->C.V
 /-- v fills one cell -/
 one:C.V->C.R->C.R
 /-- l has n cells -/
 lsz:C.L->Nat->C.R->C.R
 fail:String->C.R
 and:C.R->C.R->C.R
 imp:BX C->Bool->C.R->C.R
 exI:(C.I->C.R)->C.R
 exB:(C.B->C.R)->C.R
 exS:(C.S->C.R)->C.R
 exO:(C.O->C.R)->C.R
 exD:(C.D->C.R)->C.R
 exN:(C.N->C.R)->C.R
 exV:(C.V->C.R)->C.R
 exL:(C.L->C.R)->C.R
 exM:(C.M->C.R)->C.R
 allI:(C.I->C.R)->C.R
 allB:(C.B->C.R)->C.R
 allS:(C.S->C.R)->C.R
 allO:(C.O->C.R)->C.R
 allN:(C.N->C.R)->C.R
 allV:(C.V->C.R)->C.R
 allL:(C.L->C.R)->C.R
 allM:(C.M->C.R)->C.R
 cellEq:C.W->C.D->SV C->C.R->C.R
 cellsEq:C.W->C.D->Nat->C.L->C.R->C.R
 endEq:C.E->SV C->C.R->C.R
 valEq:C.V->SV C->C.R->C.R
 okO:C.O->C.D->C.R->C.R
 /-- 0<=i<n -/
 rng:C.I->C.N->C.R->C.R
 /-- 0<=i<=n -/
 rle:C.I->C.N->C.R->C.R
 /-- a<=b -/
 nle:C.N->C.N->C.R->C.R
 neZ:C.I->C.R->C.R
 geZ:C.I->C.R->C.R
 ifNil:C.V->C.R->C.R->C.R
 isIf:C.V->C.R->C.R
 okM:C.V->String->C.R->C.R
 imax:C.I->C.I->C.I
 imin:C.I->C.I->C.I
 st:C.W->C.D->SV C->(C.W->C.R)->C.R
 new:Z->List (SV C)->C.W->(C.D->C.W->C.R)->C.R
 newL:Z->Nat->C.L->C.W->(C.D->C.W->C.R)->C.R
 drew:C.W->(C.W->C.R)->C.R
 call:Q1->List (SV C)->C.W->(C.E->C.W->C.R)->C.R
 callV:C.V->List (SV C)->C.W->(C.E->C.W->C.R)->C.R
 callM:C.V->String->List (SV C)->C.W->(C.E->C.W->C.R)->C.R
 ext:Q1->List (SV C)->C.W->(C.V->C.W->C.R)->C.R
 read:J7->(J0->SV C)->C.W->(C.V->C.R)->C.R
 reread:J7->(J0->SV C)->SV C->C.W->C.R->C.R
 run:J7->(J0->SV C)->C.W->(C.V->C.W->C.R)->C.R
 runU:J7->(J0->SV C)->C.W->(C.W->C.R)->C.R
 done:SV C->C.W->C.R
 panic:SV C->C.W->C.R
 join:List Shape1->((List (SV C)->C.W->C.R)->C.R)->(List (SV C)->C.J->C.W->C.R)->C.R
 loop:List Shape1->List (SV C)->C.W->(List (SV C)->C.J->C.W->(List (SV C)->C.W->C.R)->C.R)->C.R
section
variable{C:Car}(A:Alg C)(P:Program)
def und(t:Z):JD:=(P.underlying t).getD Jx
def Z0O(t:Z):Nat:=((P.info? t).map (·.size)).getD 0
def ZFx:JD->Z71
 | .int k=>.int k
 | .bool=>.bool
 | .string=>.str
 | .pointer _=>.ptr
 | .slice _=>.slice
 | .map _ _=>.map
 |_=>.raw
def Z6O:JD->Bool
 | Jh _| JZ _ _=>F
 |_=>Y
def ZBz:Nat->Z->List Z71
 |0,_=>[]
 |n+1,t=>match und P t with
  | Jh fs=>fs.toList.flatMap fun f=>ZBz n f.type
  | JZ k e=>(Jo k (ZBz n e)).flatten
  |d=>[ZFx d]
def Z4D:Nat:=8
def Z3W(t:Z):Shape1 :=
 match und P t with
 | Jh _| JZ _ _=>if Z0O P t<=Z4D/\(ZBz P 8 t).length=Z0O P t then .agg (ZBz P 8 t)else .big (Z0O P t)
 |d=>.cell (ZFx d)
def Z8j(t:Z):Shape :=
 match und P t with
 | .tuple ts=>.tup (ts.toList.map (Z3W P))
 |_=>.one (Z3W P t)
def ZHY(o:J7):Shape :=
 match o.op with
 | Jm _ _ t F=>.tup [Z3W P t,.cell .bool]
 |_=>Z8j P o.type
def ZA0:Z71->(SV C->C.R)->C.R
 | .int k,f=>A.exI fun n=>f (.int k n)
 | .bool,f=>A.exB fun b=>f (.bool (.var b))
 | .str,f=>A.exS fun s=>f (.str s)
 | .ptr,f=>A.exO fun o=>f (.ptr o)
 | .slice,f=>A.exO fun o=>A.exN fun l=>A.exN fun c=>f (.slice o l c)
 | .map,f=>A.exM fun m=>f (.map m)
 | .raw,f=>A.exV fun v=>f (.raw v)
 | .addr,f=>A.exD fun d=>f (.addr d)
def Z60:List Z71->(List (SV C)->C.R)->C.R
 |[],f=>f []
 |c::cs,f=>ZA0 A c fun v=>Z60 cs fun vs=>f (v::vs)
def Z92:Shape1->(SV C->C.R)->C.R
 | .cell c,f=>ZA0 A c f
 | .agg cs,f=>Z60 A cs fun vs=>f (.agg vs)
 | .big n,f=>A.exL fun l=>f (.big n l)
def Z7G:List Shape1->(List (SV C)->C.R)->C.R
 |[],f=>f []
 |s::ss,f=>Z92 A s fun v=>Z7G ss fun vs=>f (v::vs)
def Z3g:Shape->(SV C->C.R)->C.R
 | .one s,f=>Z92 A s f
 | .tup ss,f=>Z7G A ss fun vs=>f (.tup vs)
def Z2T:Value->SV C
 | .bool b=>.blit b
 | .int k n=>.ilit k n
 | .string s=>.str (A.sl s)
 | .pointer o=>match o with
   |none=>.ptr A.onil
   |some d=>match d.spot with
    |none=>.addr (A.dl d.block d.off)
    |some _=>.raw (A.vlit (.pointer (G d)))
 | .slice o l c=>match o with
   |none=>.slice A.onil (A.nl l) (A.nl c)
   |some _=>.raw (A.vlit (.slice o l c))
 | .map m=>match m with
   |none=>.map A.mnil
   |some _=>.raw (A.vlit (.map m))
 | .nilIface=>.nilIface
 | .nilFunc=>.nilFunc
 | .tuple vs=>if vs.size=0 then .tup []else .raw (A.vlit (.tuple vs))
 |v=>.raw (A.vlit v)
def Z6G:Value->List (SV C)
 | .agg cs=>cs.toList.map (Z2T A)
 |z=>[Z2T A z]
def ZFW:Value->SV C
 | .agg cs=>if cs.size<=Z4D then .agg (cs.toList.map (Z2T A))else .big cs.size (A.lconst (.agg cs))
 | .iface t v=>.iface t (Z2T A v)
 |v=>Z2T A v
def ev(env:Env C):J0->SV C
 | .tmp t=>Z3Z env t
 | .const v=>ZFW A v
 | .global g=>.addr (A.dl g 0)
 | .func f=>.func (.func f) [] []
def asI:SV C->Option (IntKind×C.I)
 | .int k n=>G (k,n)
 | .ilit k n=>G (k,A.il n)
 |_=>X
def ZCK:JP->Int->Int->Option Bool
 | .eql,a,b=>G (a == b)
 | .neq,a,b=>G (a != b)
 | .lss,a,b=>G (decide (a<b))
 | .leq,a,b=>G (decide (a<=b))
 | .gtr,a,b=>G (decide (a>b))
 | .geq,a,b=>G (decide (a>=b))
 |_,_,_=>X
def binS(op:JP)(x y:SV C)(k:SV C->C.R):Option C.R :=
 match x,y with
 | .str a,.str b =>
   match op with
   | .eql| .neq| .lss| .leq| .gtr| .geq=>G (k (.bool (.scmp op a b)))
   |_=>X
 | .ilit ka a,.ilit kb b =>
   match op with
   | .add=>if ka=kb then G (k (.ilit ka (ka.wrap (a+b))))else X
   | .sub=>if ka=kb then G (k (.ilit ka (ka.wrap (a-b))))else X
   | .mul=>if ka=kb then G (k (.ilit ka (ka.wrap (a*b))))else X
   |_=>match ZCK op a b with
    |some t=>if ka=kb then G (k (.blit t))else X
    |none=>X
 |x,y =>
  match asI A x,asI A y with
  |some (ka,a),G (kb,b) =>
   match op with
   | .shl=>match y with
     | .ilit _ c=>if 0<=c then G (k (.int ka (A.wrap ka (A.mul a (A.il (2^min c.toNat ka.bits))))))else X
     |_=>G (A.geZ b (k (.int ka (A.shl ka a b))))
   | .shr=>match y with
     | .ilit _ c=>if 0<=c then G (k (.int ka (A.fdiv a (A.il (2^min c.toNat ka.bits)))))else X
     |_=>G (A.geZ b (k (.int ka (A.shr ka a b))))
   |_ =>
    if ka=kb then
     match op with
     | .add=>G (k (.int ka (A.wrap ka (A.add a b))))
     | .sub=>G (k (.int ka (A.wrap ka (A.sub a b))))
     | .mul=>G (k (.int ka (A.wrap ka (A.mul a b))))
     | .quo=>match y with
       | .ilit _ c=>if c=0 then X else G (k (.int ka (A.wrap ka (A.tdiv a b))))
       |_=>G (A.neZ b (k (.int ka (A.wrap ka (A.tdiv a b)))))
     | .rem=>match y with
       | .ilit _ c=>if c=0 then X else G (k (.int ka (A.tmod a b)))
       |_=>G (A.neZ b (k (.int ka (A.tmod a b))))
     | .and| .or| .xor| .andNot=>G (k (.int ka (A.bits op ka a b)))
     | .eql| .neq| .lss| .leq| .gtr| .geq=>G (k (.bool (.icmp op a b)))
     |_=>X
    else X
  |_,_=>X
inductive ZGs (C:Car) where
 |b (x:BX C)
 |lit (b:Bool)
 |either (v:C.V)
def ZFT(d:JD)(cx cy:Bool)(x y:SV C):Option (ZGs C) :=
 match d,x,y with
 | J6 _,.nilIface,.nilIface=>if cx||cy then G (.lit F)else X
 | J6 _,.iface _ _,.nilIface=>G (.lit Y)
 | J6 _,.nilIface,.iface _ _=>G (.lit Y)
 | J6 _,.raw v,.nilIface=>if cx||cy then G (.either v)else X
 | .pointer _,.ptr o,.ptr _=>if cy then G (.b (.isNil o))else X
 | .pointer _,.addr _,.ptr _=>if cy then G (.lit Y)else X
 | .slice _,.slice o _ _,.slice _ _ _=>if cy then G (.b (.isNil o))else X
 | .map _ _,.map o,.map _=>if cy then G (.b (.isNilM o))else X
 |_,_,_=>X
def nilK(A:Alg C)(neg:Bool)(k:SV C->C.R):ZGs C->C.R
 | .b x=>k (.bool (if neg then .not x else x))
 | .lit b=>k (.blit (if neg then !b else b))
 | .either v=>A.ifNil v (k (.blit (!neg))) (k (.blit neg))
def nilS(op:JP)(d:JD)(cx cy:Bool)(x y:SV C)(k:SV C->C.R):Option C.R :=
 match op with
 | .eql=>(ZFT d cx cy x y).map (nilK A Y k)
 | .neq=>(ZFT d cx cy x y).map (nilK A F k)
 |_=>X
def ZZ:J0->Bool
 | .const .nilIface| .const (.pointer X)| .const (.slice X _ _)| .const (.map X)=>F
 |_=>Y
def ZGB:List (SV C)->C.R->C.R
 |[],r=>r
 | .raw v::vs,r=>A.one v (ZGB vs r)
 |_::vs,r=>ZGB vs r
def Z5J:SV C->Option (List (SV C))
 | .agg cs=>G cs
 | .big _ _=>X
 | .tup _=>X
 |v=>G [v]
def Z9M:List (SV C)->Nat->List (SV C)->List (SV C)
 |l,_,[]=>l
 |l,i,v::vs=>Z9M (l.set i v) (i+1) vs
def Z3K(place:Nat->Option (Nat×Nat))(ev:J0->SV C):List (SV C)->List (Nat×J0)->Option (List (SV C))
 |cells,[]=>G cells
 |cells,(i,x)::rest=>match place i with
  |none=>X
  |some (off,size)=>match Z5J (ev x)with
   |none=>X
   |some vs=>if vs.length=size/\off+size<=cells.length then Z3K place ev (Z9M cells off vs) rest else X
def Z3b(place:Nat->Option (Nat×Nat))(ev:J0->SV C)(n:Nat):C.L->List (Nat×J0)->(C.L->C.R)->Option C.R
 |l,[],k=>G (k l)
 |l,(i,x)::rest,k=>match place i with
  |none=>X
  |some (off,size) =>
   match ev x with
   | .big m l'=>if m=size/\off+size<=n then(Z3b place ev n (A.lputL l off m l') rest k).map (A.lsz l' m)else X
   |v=>match Z5J v with
    |none=>X
    |some vs=>if vs.length=size/\off+size<=n then Z3b place ev n (A.lput l off vs) rest k else X
def ZER(t:Z):Option (Nat->Option (Nat×Nat)) :=
 match P.underlying t with
 |some (JZ _ e)=>match P.info? e with
  |some ie=>G fun i=>G (i*ie.size,ie.size)
  |none=>X
 |some (Jh fields)=>(fields.toList.mapM fun f=>(P.info? f.type).map fun i=>(f.offset,i.size)).map fun places i=>places.toArray[i]?
 |_=>X
def Z4s(t:Z):Option Value:=(P.info? t).bind (·.zero)
def ZBQ:List (SV C)->C.L->Nat->Nat->C.R->C.R
 |[],_,_,_,r=>r
 |v::vs,l,off,i,r=>A.valEq (A.lget l (off+i)) v (ZBQ vs l off (i+1) r)
def ZFa(t:Z)(x:SV C)(off:Nat)(k:SV C->C.R):Option C.R :=
 match Z3W P t,x with
 | .cell _,.agg cs=>(cs[off]?).map k
 | .cell c,.big n l=>if off<n then G (A.lsz l n (ZA0 A c fun sv=>A.valEq (A.lget l off) sv (k sv)))else X
 | .agg ds,.agg cs=>if off+ds.length<=cs.length then G (k (.agg ((cs.drop off).take ds.length)))else X
 | .agg ds,.big n l=>if off+ds.length<=n then G (A.lsz l n (Z60 A ds fun svs=>ZBQ A svs l off 0 (k (.agg svs))))else X
 | .big m,.big n l=>if off+m<=n then G (A.lsz l n (k (.big m (A.lext l off m))))else X
 |_,_=>X
def ZDg(x:SV C)(most:C.N)(k:C.N->C.R):Option C.R :=
 match x with
 | .ilit _ n=>if 0<=n then G (A.nle (A.nl n.toNat) most (k (A.nl n.toNat)))else X
 | .int _ n=>G (A.rle n most (k (A.i2n n)))
 |_=>X
def hiS(hi:Option (SV C))(dflt most:C.N)(low:C.N->Option C.R):Option C.R :=
 match hi with
 |none=>low dflt
 |some (.ilit _ n)=>if 0<=n then(low (A.nl n.toNat)).map (A.nle (A.nl n.toNat) most)else X
 |some (.int _ n)=>(low (A.i2n n)).map (A.rle n most)
 |_=>X
def loS(lo:Option (SV C))(h:C.N)(k0:C.R)(k:C.N->C.R):Option C.R :=
 match lo with
 |none=>G k0
 |some (.ilit _ 0)=>G k0
 |some x=>ZDg A x h k
def ZEp(t:Z)(x:SV C)(lo hi:Option (SV C))(k:SV C->C.R):Option C.R :=
 match und P t,x with
 | .slice e,.slice o len cap =>
   if(P.info? e).isSome then hiS A hi len cap fun h=>loS A lo h (k (.slice o h cap)) fun l=>k (.slice (A.osub o cap l (Z0O P e)) (A.nsub h l) (A.nsub cap l))else X
 | JZ n e,.addr d =>
   if(P.info? e).isSome then hiS A hi (A.nl n) (A.nl n) fun h=>loS A lo h (k (.slice (A.osome d) h (A.nl n))) fun l=>k (.slice (A.osome (A.dsub d n l (Z0O P e))) (A.nsub h l) (A.nsub (A.nl n) l))else X
 | .string,.str s =>
   hiS A hi (A.ssize s) (A.ssize s) fun h=>loS A lo h (k (.str (A.sext s (A.nl 0) h))) fun l=>k (.str (A.sext s l h))
 |_,_=>X
def Z1U(o:J7)(ev:J0->SV C)(k:SV C->C.R):Option C.R :=
 match o.op with
 | .move x| .assign x=>G (k (ev x))
 | .pick c a b=>match ev c with
   | .blit t=>G (k (if t then ev a else ev b))
   | .bool b'=>G (A.and (A.imp b' F (k (ev a))) (A.imp b' Y (k (ev b))))
   |_=>X
 | .build t parts=>match Z4s P t,ZER P t with
   |some (.agg cs),G place =>
    if cs.size<=Z4D then(Z3K place ev (cs.toList.map (Z2T A)) parts.toList).map fun l=>ZGB A (parts.toList.map fun p=>ev p.2) (k (.agg l))
    else(Z3b A place ev cs.size (A.lconst (.agg cs)) parts.toList fun l=>k (.big cs.size l)).map (ZGB A (parts.toList.map fun p=>ev p.2))
   |_,_=>X
 | .nilCheck x=>match ev x with
   | .addr d=>G (k (.addr d))
   | .ptr o=>G (A.exD fun d=>A.okO o d (k (.addr d)))
   | .func (.func f) a b=>G (k (.func (.func f) a b))
   | .iface t v=>G (k (.iface t v))
   | .raw v=>G (A.isIf v (k (.raw v)))
   | .func (.method m) [.raw v] []=>G (A.okM v m (k (.func (.method m) [.raw v] [])))
   |_=>X
 | .binOp op t x y _=>match binS A op (ev x) (ev y) k with
   |some r=>G r
   |none=>nilS A op (und P t) (ZZ x) (ZZ y) (ev x) (ev y) k
 | .unOp op _ x=>match op,ev x with
   | .not,.bool b=>G (k (.bool (.not b)))
   | .not,.blit b=>G (k (.blit (!b)))
   | .neg,.int ka n=>G (k (.int ka (A.wrap ka (A.sub (A.il 0) n))))
   | .neg,.ilit ka n=>G (k (.ilit ka (ka.wrap (0-n))))
   | .xor,.int ka n=>G (k (.int ka (A.bits .xor ka (A.il (if ka.signed then -1 else ka.max)) n)))
   |_,_=>X
 | Jp src dst x=>if(P.underlying src).isNone then X else match und P dst,ev x with
   | .int kd,.int _ n=>G (k (.int kd (A.wrap kd n)))
   | .int kd,.ilit _ n=>G (k (.ilit kd (kd.wrap n)))
   | .string,.str s=>match und P src with
     | .string=>G (k (.str s))
     |_=>X
   |_,_=>X
 | Ja t x=>match und P t with
   | J6 _| Jx=>X
   |_=>G (k (.iface t (ev x)))
 | .makeFunc fn a b=>G (k (.func fn (a.toList.map ev) (b.toList.map ev)))
 | .slice t x lo hi X=>ZEp A P t (ev x) (lo.map ev) (hi.map ev) k
 | Jq s x f=>match ev x,und P s with
   | .addr d,Jh fs=>match fs[f]? with
     |some fd=>if Z0O P fd.type=0 then X else if(P.underlying fd.type).isNone then X else G (k (.addr (if fd.offset=0 then d else A.dadd d (A.nl fd.offset))))
     |none=>X
   |_,_=>X
 | .field s x f=>match und P s with
   | Jh fs=>match fs[f]? with
     |some fd=>if(P.underlying fd.type).isNone then X else ZFa A P fd.type (ev x) fd.offset k
     |none=>X
   |_=>X
 | Jr t x i=>match und P t,ev x with
   | .slice e,.slice o len _=>match asI A (ev i)with
     |some (_,n)=>if(P.info? e).isNone then X else G (A.exD fun d=>A.okO o d (A.rng n len (k (.addr (A.dadd d (idx (Z0O P e) (ev i) n))))))
     |none=>X
   | JZ m e,.addr d=>if(P.info? e).isNone then X else match ev i with
     | .ilit _ n=>if 0<=n/\n<m then G (k (.addr (if n=0 then d else A.dadd d (A.nl (n.toNat*Z0O P e)))))else X
     | .int _ n=>G (A.rng n (A.nl m) (k (.addr (A.dadd d (if Z0O P e=1 then A.i2n n else A.nmul (A.i2n n) (Z0O P e))))))
     |_=>X
   |_,_=>X
 | .index t x i=>match und P t,ev x,ev i with
   | JZ m e,v,.ilit _ n=>if(P.underlying e).isNone then X else if 0<=n/\n<m then ZFa A P e v (n.toNat*Z0O P e) k else X
   | .string,.str s,i=>match asI A i with
     |some (_,n)=>G (A.rng n (A.ssize s) (k (.int .u8 (A.sat s (A.i2n n)))))
     |none=>X
   |_,_,_=>X
 | Jy x i=>match ev x with
   | .tup vs=>(vs[i]?).map k
   |_=>X
 | JM t x=>match und P t,ev x with
   | JZ n _,.slice o len _=>G (A.nle (A.nl n) len (k (.ptr o)))
   |_,_=>X
 | Q5 c=>match c.callee,c.args.toList,c.argTypes.toList with
   | JJ .len,[x],[t]=>match und P t,ev x with
     | .slice _,.slice _ l _=>G (k (.int .i64 (A.n2i l)))
     | .string,.str s=>G (k (.int .i64 (A.n2i (A.ssize s))))
     | JZ n _,_=>G (k (.ilit .i64 n))
     |_,_=>X
   | JJ .cap,[x],[t]=>match und P t,ev x with
     | .slice _,.slice _ _ c=>G (k (.int .i64 (A.n2i c)))
     |_,_=>X
   | JJ .max,[x,y],_=>match asI A (ev x),asI A (ev y)with
     |some (ka,a),G (kb,b)=>if ka=kb then G (k (.int ka (A.imax a b)))else X
     |_,_=>X
   | JJ .min,[x,y],_=>match asI A (ev x),asI A (ev y)with
     |some (ka,a),G (kb,b)=>if ka=kb then G (k (.int ka (A.imin a b)))else X
     |_,_=>X
   |_,_,_=>X
 |_=>X
 where
 idx (sz:Nat) (i:SV C) (n:C.I):C.N:=match i with
  | .ilit _ c=>A.nl (c.toNat*sz)
  |_=>if sz=1 then A.i2n n else A.nmul (A.i2n n) sz
def ZEV(o:J7):Bool :=
 match o.op with
 | .move _| .assign _| .pick .. | .build .. | .load .. | .nilCheck _| .binOp .. | .unOp .. | Ja .. | .makeFunc .. | .slice .. | Jq .. | .field ..
 | Jr .. | .index .. | .lookup .. | Jy .. | JM .. | Jm ..=>F
 | Jp _ dst _=>match und P dst with
   | .slice _=>Y
   |_=>F
 | Q5 c=>match c.callee with
   | JJ .len| JJ .cap| JJ .max| JJ .min=>F
   |_=>Y
 |_=>Y
def Z8w(w:C.W)(d:C.D):Nat->List (SV C)->C.R->C.R
 |_,[],r=>r
 |i,v::vs,r=>A.cellEq w (if i=0 then d else A.dadd d (A.nl i)) v (Z8w w d (i+1) vs r)
def ZEB(t:Z)(d:C.D)(w:C.W)(k:SV C->C.R):C.R :=
 if(P.underlying t).isNone then A.fail "load: type" else
 match Z3W P t with
 | .cell c=>ZA0 A c fun sv=>A.cellEq w d sv (k sv)
 | .agg cs=>Z60 A cs fun svs=>Z8w A w d 0 svs (k (.agg svs))
 | .big n=>A.exL fun l=>A.cellsEq w d n l (k (.big n l))
def Z6B(t:Z)(d:C.D)(w:C.W)(sv:SV C)(r:C.R):C.R :=
 match Z3W P t,sv with
 | .cell _,sv=>A.cellEq w d sv r
 | .agg _,.agg svs=>Z8w A w d 0 svs r
 | .big n,.big _ l=>A.cellsEq w d n l r
 |_,_=>A.fail "load"
def ZCV(o:J7)(ev:J0->SV C)(w:C.W)(k:SV C->C.R):C.R :=
 match o.op with
 | .load t x=>match ev x with
   | .addr d=>ZEB A P t d w k
   | .ptr o=>A.exD fun d=>A.okO o d (ZEB A P t d w k)
   |_=>A.fail "load: no address"
 |_=>A.read o ev w fun v=>Z3g A (ZHY P o) fun sv=>A.valEq v sv (k sv)
def Z4Y(o:J7)(ev:J0->SV C)(sv:SV C)(w:C.W)(r:C.R):C.R :=
 match o.op with
 | .load t x=>match ev x with
   | .addr d=>Z6B A P t d w sv r
   | .ptr o=>A.exD fun d=>A.okO o d (Z6B A P t d w sv r)
   |_=>A.fail "load: no address"
 |_=>A.reread o ev sv w r
def ZGi(d:C.D):Nat->List (SV C)->C.W->(C.W->C.R)->C.R
 |_,[],w,k=>k w
 |i,v::vs,w,k=>A.st w (if i=0 then d else A.dadd d (A.nl i)) v fun w=>ZGi d (i+1) vs w k
def Z8I(f:Q1):Bool:=match P.funcs[f]? with
 |some fn=>fn.body.isSome&&fn.name != "runtime.NumGoroutine"
 |none=>Y
def ZGP(f:Q1):Bool:=match P.funcs[f]? with
 |some fn=>fn.body.isNone
 |none=>Y
def evOp(o:J7)(ev:J0->SV C)(w:C.W)(k:SV C->C.W->C.R):C.R :=
 let res (e:C.E) (w:C.W):C.R:=Z3g A (Z8j P o.type) fun sv=>A.endEq e sv (k sv w)
 let ran:C.R:=A.run o ev w fun v w=>Z3g A (Z8j P o.type) fun sv=>A.valEq v sv (k sv w)
 match o.op with
 | .alloc t=>match Z4s P t with
   |some (.agg cs)=>if cs.size<=Z4D then A.new t (cs.toList.map (Z2T A)) w fun d w=>k (.addr d) w else A.newL t cs.size (A.lconst (.agg cs)) w fun d w=>k (.addr d) w
   |some z=>A.new t [Z2T A z] w fun d w=>k (.addr d) w
   |none=>A.fail "alloc: no zero"
 | .box t x=>match ev x with
   | .big n l=>A.newL t n l w fun d w=>k (.addr d) w
   |v=>match Z5J v with
    |some cs=>ZGB A [v] (A.new t cs w fun d w=>k (.addr d) w)
    |none=>A.fail "box: no cells"
 | .buildSlice t n parts=>match und P t with
   | .slice e=>match Z4s P e with
     |some z =>
      if(Z6G A z).length=Z0O P e/\n*Z0O P e<=256/\(1<n\/Z0O P e<=Z4D)then
       match Z3K (fun i=>G (i*Z0O P e,Z0O P e)) ev ((Jo n (Z6G A z)).flatten) parts.toList with
       |some cells=>ZGB A (parts.toList.map fun p=>ev p.2) (A.new e cells w fun d w=>k (.slice (A.osome d) (A.nl n) (A.nl n)) w)
       |none=>A.fail "buildSlice: parts"
      else if n=1/\(Z6G A z).length=Z0O P e/\Z0O P e<=4096 then
       match Z3b A (fun i=>G (i*Z0O P e,Z0O P e)) ev (Z0O P e) (A.lconst z) parts.toList fun l=>A.newL e (Z0O P e) l w fun d w=>k (.slice (A.osome d) (A.nl n) (A.nl n)) w with
       |some r=>ZGB A (parts.toList.map fun p=>ev p.2) r
       |none=>A.fail "buildSlice: parts"
      else A.fail "buildSlice: size"
     |none=>A.fail "buildSlice: zero"
   |_=>A.fail "buildSlice: type"
 | .store t x y=>match ev x with
   | .addr d=>match Z5J (ev y)with
     |some cs=>if cs.length=Z0O P t/\(P.info? t).isSome then ZGi A d 0 cs w fun w=>k (.tup []) w else A.fail "store: size"
     |none=>A.runU o ev w fun w=>k (.tup []) w
   |_=>A.fail "store: no address"
 | .mapUpdate .. | .insert .. | Jz ..=>A.runU o ev w fun w=>k (.tup []) w
 | Q5 c =>
   let args:=c.args.toList.map ev
   match c.callee with
   | JJ _=>ran
   | .value f=>match ev f with
     | .func (.func f) first cap =>
       if Z8I P f then A.call f (first++args++cap) w res
       else if ZGP P f then A.ext f (first++args++cap) w fun v w=>Z3g A (Z8j P o.type) fun sv=>A.valEq v sv (k sv w)
       else A.fail "call: what function?"
     | .func (.method m) [.raw v] []=>A.callM v m args w res
     | .raw v=>A.callV v args w res
     |_=>A.fail "call: no function"
   | .invoke x m=>match ev x with
     | .raw v=>A.callM v m args w res
     |_=>A.fail "invoke: no interface value"
 | .range .. | .next .. | .entry ..=>A.run o ev w fun v w=>k (.raw v) w
 | .makeMap .. | .makeSlice .. | Jp .. | .mapEntry ..=>ran
 | .panic x=>match ev x with
   | .iface t v=>A.panic (.iface t v) w
   |_=>A.fail "panic: no interface value"
 |_=>A.fail "no such operation"
def doOp(o:J7)(env:Env C)(w:C.W)(k:SV C->C.W->C.R):C.R :=
 match Z1U A P o (ev A env) fun sv=>k sv w with
 |some r=>r
 |none=>if ZEV P o then ZCV A P o (ev A env) w fun sv=>k sv w else evOp A P o (ev A env) w k
def ZDL(env:Env C)(dst:Option Q4)(v:SV C):Env C:=match dst with
 |some d=>(d,v)::env
 |none=>env
def ZA8(ops:Array J7)(o:J7)(env:Env C)(yes no:Env C->C.R):C.R :=
 match o.guard with
 |none=>yes env
 |some (j,want)=>match (ops[j]?).bind (·.dst)with
  |none=>no env
  |some t=>match Z3Z env t with
   | .blit b=>if b == want then yes env else no env
   | .bool b=>A.and (A.imp b F (if want then yes ((t,.blit F)::env)else no ((t,.blit F)::env)))
    (A.imp b Y (if want then no ((t,.blit Y)::env)else yes ((t,.blit Y)::env)))
   | .tup []=>no env
   |_=>A.fail "guard"
def Z6A(ops:Array J7):List J7->Env C->C.W->(Env C->C.W->C.R)->C.R
 |[],env,w,k=>k env w
 |o::rest,env,w,k=>ZA8 A ops o env
   (fun env=>doOp A P o env w fun sv w=>Z6A ops rest (ZDL env o.dst sv) w k)
   (fun env=>Z6A ops rest (ZDL env o.dst (.tup [])) w k)
structure ZFs (C:Car) where
 i:Nat
 again:C.W->C.R->C.R
def Z3a(ops:Array J7)(j:Nat)(w:C.W):List (ZFs C)->C.R->C.R
 |[],r=>r
 |p::ps,r=>if(Z2R ops p.i).getD j Y then Z3a ops j w ps r else p.again w (Z3a ops j w ps r)
def ZDa:List C.R->C.R
 |[]=>A.fail "nobody may come up"
 |[r]=>r
 |r::rs=>A.and r (ZDa rs)
def Z3L(ops:Array J7):List Nat->Option Nat
 |[]=>X
 |i::r=>match ops[i]? with
  |some o=>if ZEV P o&&ZG0 ops i then G i else Z3L ops r
  |none=>Z3L ops r
def Z3p(ops:Array J7):Nat->Array Bool->List (ZFs C)->Env C->C.W->(Env C->C.W->C.R)->C.R
 |0,_,_,_,_,_=>A.fail "region: fuel"
 |n+1,listed,pend,env,w,k =>
  match J4 .any ops listed with
  |[]=>k env w
  |rs =>
   match Z3L P ops rs with
   |some i=>match ops[i]? with
    |none=>A.fail "region"
    |some o=>ZA8 A ops o env
     (fun env=>match Z1U A P o (ev A env) fun sv=>Z3p ops n (listed.setIfInBounds i F) pend (ZDL env o.dst sv) w k with
       |some r=>r
       |none=>ZCV A P o (ev A env) w fun sv =>
        Z3p ops n (listed.setIfInBounds i F) (⟨i,Z4Y A P o (ev A env) sv⟩::pend) (ZDL env o.dst sv) w k)
     (fun env=>Z3p ops n (listed.setIfInBounds i F) pend (ZDL env o.dst (.tup [])) w k)
   |none=>ZDa A (rs.map fun j=>match ops[j]? with
    |none=>A.fail "region"
    |some o=>ZA8 A ops o env
     (fun env=>doOp A P o env w fun sv w=>Z3a ops j w pend (Z3p ops n (listed.setIfInBounds j F) (pend.filter fun p=> !(Z2R ops p.i).getD j Y) (ZDL env o.dst sv) w k))
     (fun env=>Z3a ops j w pend (Z3p ops n (listed.setIfInBounds j F) (pend.filter fun p=> !(Z2R ops p.i).getD j Y) (ZDL env o.dst (.tup [])) w k)))
structure Kont (C:Car) where
 nrm:Env C->C.W->C.R
 exit:Nat->Env C->C.W->C.R
 ret:Env C->C.W->C.R
def Zj:Code->List Q4
 | .region _ ops _=>ops.toList.filterMap (·.dst)
 | .seq a b=>Zj a++Zj b
 | .cond _ a b=>Zj a++Zj b
 | .block _ c=>Zj c
 | .loop c=>Zj c
 |_=>[]
def Z24:Code->Nat
 | .region id _ _=>id
 | .seq a _=>Z24 a
 | .cond _ a _=>Z24 a
 | .block _ c=>Z24 c
 | .loop c=>Z24 c
 |_=>0
def Z7M(jk:C.J)(live:List Q4)(svs:List (SV C))(written:List Q4)(env:Env C):Env C :=
 live.zip svs++(written.map fun t=>(t,SV.raw (A.junk jk t)))++env
def Z1J(n:Nat):Code->Bool
 | .region _ ops _=>ops.all fun o=>match o.dst with
   |some d=>decide (d<n)
   |none=>F
 | .seq a b=>Z1J n a&&Z1J n b
 | .cond _ a b=>Z1J n a&&Z1J n b
 | .block _ c=>Z1J n c
 | .loop c=>Z1J n c
 |_=>F
def setC(env:Env C)(c:J0)(b:Bool):Env C:=match c with
 | .tmp s=>(s,.blit b)::env
 |_=>env
def ZGV(b:Code):Nat:=1000000+Z24 b
def Z85(ann:List (Nat×List (Q4×Shape1)))(ops:Code)(env:Env C)(w:C.W)(K:Kont C):C.R :=
 match ops with
 | .skip=>K.nrm env w
 | .region _ ops draw =>
   if draw then
    if ssa ops then A.drew w fun w=>Z3p A P ops (ops.size+1) (JV ops.size Y) [] env w K.nrm else A.fail "region: temporaries"
   else Z6A A P ops ops.toList env w K.nrm
 | .seq a b=>match ann.find? (·.1 == ZGV b)with
   |none=>Z85 ann a env w { K with nrm:=fun env w=>Z85 ann b env w K }
   |some (_,live) =>
    let slots:=live.map (·.1)
    A.join (live.map (·.2)) (fun enter=>Z85 ann a env w { K with nrm:=fun env w=>enter (slots.map (Z3Z env)) w })
     fun svs jk w=>Z85 ann b (Z7M A jk slots svs (Zj a) env) w K
 | .cond c a b=>match ev A env c with
   | .blit t=>if t then Z85 ann a env w K else Z85 ann b env w K
   | .bool t =>
     A.and (A.imp t F (Z85 ann a (setC env c F) w K)) (A.imp t Y (Z85 ann b (setC env c Y) w K))
   |_=>A.fail "cond"
 | .block id c=>Z85 ann c env w { K with exit:=fun i env w=>if i=id then K.nrm env w else K.exit i env w }
 | .loop c=>match ann.find? (·.1 == Z24 c)with
   |none=>A.fail "loop: nothing is said of it"
   |some (_,live) =>
    let slots:=live.map (·.1)
    A.loop (live.map (·.2)) (slots.map (Z3Z env)) w fun svs jk w again =>
     Z85 ann c (Z7M A jk slots svs (Zj c) env) w { K with nrm:=fun env w=>again (slots.map (Z3Z env)) w }
 | .exit id=>K.exit id env w
 | .ret=>K.ret env w
 |_=>A.fail "code"
def ZBU(r:ResultVar)(env:Env C)(w:C.W)(k:SV C->C.R):C.R :=
 match r with
 | .tmp t=>k (Z3Z env t)
 | .cell a t=>match Z3Z env a with
   | .addr d=>ZEB A P t d w k
   |_=>A.fail "result"
def Z6s:List ResultVar->Env C->C.W->(List (SV C)->C.R)->C.R
 |[],_,_,k=>k []
 |r::rs,env,w,k=>ZBU A P r env w fun v=>Z6s rs env w fun vs=>k (v::vs)
def ZGd(fn:Func)(env:Env C)(w:C.W):C.R :=
 Z6s A P fn.results.toList env w fun vs=>match vs with
  |[v]=>A.done v w
  |vs=>A.done (.tup vs) w
def Z1Y:Nat->List (SV C)->Env C
 |_,[]=>[]
 |i,v::vs=>(i,v)::Z1Y (i+1) vs
def Z4h(ann:List (Nat×List (Q4×Shape1)))(fn:Func)(args:List (SV C))(w:C.W):C.R :=
 match fn.body with
 |none=>A.fail "no body"
 |some c=>if args.length<=fn.ntmps/\Z1J fn.ntmps c=F then
   Z85 A P ann c (Z1Y 0 args) w { nrm:=ZGd A P fn,exit:=fun _ _ _=>A.fail "exit",ret:=ZGd A P fn }
  else A.fail "arguments"
end
end Go.Vcg
end
section
namespace Go.Vcg
def bitsI(op:JP)(k:IntKind)(a b:Int):Int :=
 let x:=BitVec.ofInt k.bits a
 let y:=BitVec.ofInt k.bits b
 k.wrap (match op with
  | .and=>(x&&&y).toNat
  | .or=>(x|||y).toNat
  | .xor=>(x^^^y).toNat
  |_=>(x &&& ~~~y).toNat)
def shlI(k:IntKind)(a b:Int):Int:=k.wrap (a*2^min b.toNat k.bits)
def shrI(k:IntKind)(a b:Int):Int:=a.fdiv (2^min b.toNat k.bits)
def Z9V(op:JP)(x y:ByteArray):Bool :=
 let eq:=x.toList == y.toList
 let lt:=Op.bytesLess x.toList y.toList
 match op with
 | .eql=>eq
 | .neq=> !eq
 | .lss=>lt
 | .leq=>lt||eq
 | .gtr=> !(lt||eq)
 |_=> !lt
def strAt(s:ByteArray)(i:Nat):Int:=((s[i]?).map fun b=>(b.toNat:Int)).getD 0
def subO(o:Option Addr)(cap lo sz:Nat):Option Addr:=if cap=lo then o else o.map (·.add (lo*sz))
def subD(d:Addr)(n lo sz:Nat):Addr:=if n=lo then d else d.add (lo*sz)
def lget(l:Array Value)(i:Nat):Value:=l.getD i undef
def setsAt:Array Value->Nat->List Value->Array Value
 |l,_,[]=>l
 |l,i,v::vs=>setsAt (l.setIfInBounds i v) (i+1) vs
def lputL(l:Array Value)(i n:Nat)(l':Array Value):Array Value:=setsAt l i (l'.toList.take n)
def ZH(w:H)(d:Addr)(n:Nat)(l:Array Value):Prop:=l.size=n/\∀i,i<n->w.cell? (d.add i)=l[i]?
def Z1(w:H)(d:Addr)(v:Value):Prop:=v.oneCell'=F/\(∃u,w.cell? d=G u)/\w.frozen? d=Y
def Z8(w:H)(d:Addr)(v:Value)(w':H):Prop:=w'=w.setCell d v
def ZB(w:H)(t:Z)(cs:Array Value)(d:Addr)(w':H):Prop:=d=⟨w.heap.size,0,X⟩/\w'=w.alloc (.cells cs t)
def ZL(w w':H):Prop:=w'=w.drew
def ZDQ(v:Value):Prop:=∃t x,v=.iface t x
def OkM(P:Program)(v:Value)(name:String):Prop:=∃t x,v=.iface t x/\∀w,(nilAhead (P.types.size+Made.depth) t x name).run P w=JI (G Y) w
def Z3G(P:Program)(v:Value)(args:Array Value)(w:H)(R:Js->H->Prop):Prop :=
 ∃f first cap,v=.func (.func f) first cap/\Z8I P f=F/\Calls P f (first++args++cap) w R
def ZGx(P:Program)(v:Value)(name:String)(args:Array Value)(w:H)(R:Js->H->Prop):Prop :=
 ∃t x f recv,v=.iface t x/\(method (P.types.size+Made.depth) t x name).run P w=JI (f,recv) w/\Z8I P f=F/\Calls P f (#[recv]++args) w R
def Z0Z(op:JP)(t:Z)(x y:J0)(a b:Value):Sem Value:=do Jw op t x y a b;JB op t a b
def builtinV(b:Builtin)(ts:Array Z)(t:Z)(args:Array Value):Sem Value :=
 match b with
 | .append=>Builtin.append_ ts t args
 | .cap=>Builtin.cap_ ts t args
 | .clear=>Builtin.clear_ ts t args
 | .copy=>Builtin.copy_ ts t args
 | .delete=>Builtin.delete_ ts t args
 | .len=>Builtin.len_ ts t args
 | .max=>Builtin.max_ ts t args
 | .min=>Builtin.min_ ts t args
 |_=>stuck "builtinV"
abbrev pC:Car:={ I:=Int,B:=Bool,S:=ByteArray,O:=Option Addr,D:=Addr,N:=Nat,V:=Value,L:=Array Value,M:=Option Nat,W:=H,E:=Js,J:=Nat->Value,R:=Prop }
def den:BX pC->Bool
 | .var b=>b
 | .icmp op a b=>match op with
   | .eql=>decide ((a:Int)=b)
   | .neq=> !decide ((a:Int)=b)
   | .lss=>decide ((a:Int)<b)
   | .leq=>decide ((a:Int)<=b)
   | .gtr=>decide ((a:Int)>b)
   |_=>decide ((a:Int)>=b)
 | .scmp op a b=>Z9V op a b
 | .isNil o=>Ju o
 | .isNilM o=>Ju o
 | .not a=> !den a
def ZGu:BX pC->Bool->Prop->Prop
 | .var b,t,r=>(b:Bool)=t->r
 | .icmp op a b,t,r =>
   match op,t with
   | .eql,F=>(a:Int)=b->r
   | .eql,Y=>(a:Int)≠b->r
   | .neq,F=>(a:Int)≠b->r
   | .neq,Y=>(a:Int)=b->r
   | .lss,F=>(a:Int)<b->r
   | .lss,Y=>¬(a:Int)<b->r
   | .leq,F=>(a:Int)<=b->r
   | .leq,Y=>¬(a:Int)<=b->r
   | .gtr,F=>(a:Int)>b->r
   | .gtr,Y=>¬(a:Int)>b->r
   |_,F=>(a:Int)>=b->r
   |_,Y=>¬(a:Int)>=b->r
 | .scmp op a b,t,r=>Z9V op a b=t->r
 | .isNil o,F,r=>(o:Option Addr)=X->r
 | .isNil o,Y,r=>(o:Option Addr)≠X->r
 | .isNilM o,F,r=>(o:Option Nat)=X->r
 | .isNilM o,Y,r=>(o:Option Nat)≠X->r
 | .not a,t,r=>ZGu a (!t) r
theorem Z2s:∀(b:BX pC) (t:Bool) (r:Prop),ZGu b t r->den b=t->r
 | .var _,_,_,h,e=>h e
 | .icmp op a b,t,r,h,e=>by
   cases op<;>cases t<;>simp only[ZGu,den]at h e<;>first
    |exact h (by simpa using e)
 | .scmp _ _ _,_,_,h,e=>h e
 | .isNil o,t,r,h,e=>by
   cases t<;>simp only[ZGu,den]at h e
   ·exact h (by cases o<;>simp_all)
   ·exact h (by cases o<;>simp_all)
 | .isNilM o,t,r,h,e=>by
   cases t<;>simp only[ZGu,den]at h e
   ·exact h (by cases o<;>simp_all)
   ·exact h (by cases o<;>simp_all)
 | .not a,t,r,h,e=>Z2s a (!t) r h (by simp only[den]at e;cases t<;>simp_all)
mutual
def toV:SV pC->Value
 | .bool b=>.bool (den b)
 | .blit b=>.bool b
 | .int k n=>.int k n
 | .ilit k n=>.int k n
 | .str s=>.string s
 | .ptr o=>.pointer o
 | .addr d=>.pointer (G d)
 | .slice o l c=>.slice o l c
 | .map m=>.map m
 | .func fn a b=>.func fn (toVs a).toArray (toVs b).toArray
 | .iface t v=>.iface t (toV v)
 | .nilIface=>.nilIface
 | .nilFunc=>.nilFunc
 | .agg cs=>.agg (toVs cs).toArray
 | .big _ l=>.agg l
 | .tup vs=>.tuple (toVs vs).toArray
 | .raw v=>v
def toVs:List (SV pC)->List Value
 |[]=>[]
 |v::vs=>toV v::toVs vs
end
theorem Z1W(l:List (SV pC)):toVs l=l.map toV:=by induction l<;>simp_all[toVs]
def ZGz(c:Z71)(T:Type):Type:=match c with
 | .int _=>Int->T
 | .bool=>Bool->T
 | .str=>ByteArray->T
 | .ptr=>Option Addr->T
 | .slice=>Option Addr->Nat->Nat->T
 | .map=>Option Nat->T
 | .raw=>Value->T
 | .addr=>Addr->T
def ZDP:List Z71->Type->Type
 |[],T=>T
 |c::cs,T=>ZGz c (ZDP cs T)
def Inv1(s:Shape1)(T:Type):Type:=match s with
 | .cell c=>ZGz c T
 | .agg cs=>ZDP cs T
 | .big _=>Array Value->T
def ZGI:List Shape1->Type->Type
 |[],T=>H->T
 |s::ss,T=>Inv1 s (ZGI ss T)
def ZAm{T:Type}:(c:Z71)->ZGz c T->SV pC->Option T
 | .int k,I,.int k' n=>if k=k' then G (I n)else X
 | .int k,I,.ilit k' n=>if k=k' then G (I n)else X
 | .bool,I,.bool b=>G (I (den b))
 | .bool,I,.blit b=>G (I b)
 | .str,I,.str s=>G (I s)
 | .ptr,I,.ptr o=>G (I o)
 | .ptr,I,.addr d=>G (I (G d))
 | .slice,I,.slice o l c=>G (I o l c)
 | .map,I,.map m=>G (I m)
 | .raw,I,v=>G (I (toV v))
 | .addr,I,.addr d=>G (I d)
 |_,_,_=>X
def ZAy{T:Type}:(cs:List Z71)->ZDP cs T->List (SV pC)->Option T
 |[],I,[]=>G I
 |c::cs,I,v::vs=>(ZAm c I v).bind fun I=>ZAy cs I vs
 |_,_,_=>X
def ZF9{T:Type}:(s:Shape1)->Inv1 s T->SV pC->Option T
 | .cell c,I,v=>ZAm c I v
 | .agg cs,I,.agg vs=>ZAy cs I vs
 | .big n,I,.big m l=>if n=m then G (I l)else X
 |_,_,_=>X
def Z9U{T:Type}:(ss:List Shape1)->ZGI ss T->List (SV pC)->H->Option T
 |[],I,[],w=>G (I w)
 |s::ss,I,v::vs,w=>(ZF9 s I v).bind fun I=>Z9U ss I vs w
 |_,_,_,_=>X
def ZGL:Z71->(SV pC->Prop)->Prop
 | .int k,f=>∀n:Int,f (.int k n)
 | .bool,f=>∀b:Bool,f (.bool (.var b))
 | .str,f=>∀s:ByteArray,f (.str s)
 | .ptr,f=>∀o:Option Addr,f (.ptr o)
 | .slice,f=>∀(o:Option Addr)(l c:Nat),f (.slice o l c)
 | .map,f=>∀m:Option Nat,f (.map m)
 | .raw,f=>∀v:Value,f (.raw v)
 | .addr,f=>∀d:Addr,f (.addr d)
def ZBw:List Z71->(List (SV pC)->Prop)->Prop
 |[],f=>f []
 |c::cs,f=>ZGL c fun v=>ZBw cs fun vs=>f (v::vs)
def ZH5:Shape1->(SV pC->Prop)->Prop
 | .cell c,f=>ZGL c f
 | .agg cs,f=>ZBw cs fun vs=>f (.agg vs)
 | .big n,f=>∀l:Array Value,f (.big n l)
def ZDZ:List Shape1->(List (SV pC)->Prop)->Prop
 |[],f=>f []
 |s::ss,f=>ZH5 s fun v=>ZDZ ss fun vs=>f (v::vs)
def ZFk:Option Prop->Prop
 |some p=>p
 |none=>False
def theN:Option Nat->Nat
 |some n=>n
 |none=>0
def loopP(ss:List Shape1)(init:List (SV pC))(w:H)(body:List (SV pC)->(Nat->Value)->H->(List (SV pC)->H->Prop)->Prop):Prop :=
 ∃(I:ZGI ss Prop)(μ:ZGI ss Nat),ZFk (Z9U ss I init w) /\
  ZDZ ss fun svs=>∀(jk:Nat->Value)(w':H),ZFk (Z9U ss I svs w') ->
   body svs jk w' fun svs' w''=>ZFk (Z9U ss I svs' w'')/\theN (Z9U ss μ svs' w'')<theN (Z9U ss μ svs w')
def joinP(ss:List Shape1)(pre:(List (SV pC)->H->Prop)->Prop)(rest:List (SV pC)->(Nat->Value)->H->Prop):Prop :=
 ∃I:ZGI ss Prop,pre (fun svs w=>ZFk (Z9U ss I svs w)) /\
  ZDZ ss fun svs=>∀(jk:Nat->Value)(w':H),ZFk (Z9U ss I svs w')->rest svs jk w'
def ZEk(o:J7)(ev:J0->Value):Option (Sem Value) :=
 match o.op with
 | .lookup t m k ok=>G (Instr.lookup t (ev m) (ev k) ok)
 | Jm x xt t ok=>G (Instr.typeAssert (ev x) xt t ok)
 | Jp a b x=>G (convert a b (ev x))
 | .binOp op t x y _=>G (Z0Z op t x y (ev x) (ev y))
 | .unOp op _ x=>G (Op.unary op (ev x))
 | .field t x f=>G (Instr.field t (ev x) f)
 | .index t x i=>G (Instr.index t (ev x) (ev i))
 | Jr t x i=>G (Instr.indexAt t (ev x) (ev i))
 | .slice t x lo hi mx=>G (J9 t (ev x) (lo.map ev) (hi.map ev) (mx.map ev))
 | Jy x i=>G (Instr.extract (ev x) i)
 | JM t x=>G (Instr.arrayAt t (ev x))
 | .build t parts=>G (Instr.build t (parts.map fun(i,x)=>(i,ev x)))
 | Ja t x=>G (Instr.makeInterface t (ev x))
 | Jq t x f=>G (Instr.fieldAt t (ev x) f)
 | .makeMap t r=>G (Instr.makeMap t (r.map ev))
 | .makeSlice t l c=>G (Instr.makeSlice t (ev l) (ev c))
 | .mapEntry t m k=>G (Instr.mapEntry t (ev m) (ev k))
 | .range t x=>G (Instr.range t (ev x))
 | .next it s=>G (Instr.next (ev it) s o.type)
 | .entry it=>G (Instr.entry (ev it))
 | Q5 c=>match c.callee with
   | JJ b=>match b with
     | .append| .cap| .clear| .copy| .delete| .len| .max| .min=>G (builtinV b c.argTypes o.type (c.args.map ev))
     |_=>X
   |_=>X
 |_=>X
def semU(o:J7)(ev:J0->Value):Option (Sem Unit) :=
 match o.op with
 | .mapUpdate t m k x| .insert t m k x=>G (Instr.mapUpdate t (ev m) (ev k) (ev x))
 | Jz t m s x=>G (Instr.entryStore t (ev m) (ev s) (ev x))
 | .store t a x=>G (Instr.storeAt t (ev a) (ev x))
 |_=>X
structure Z6I where
 fin:Js->H->Prop
 pan:Bool
abbrev ZEP(v:Value):List PanicEntry:=[{ v:=v,recovered:=Y }]
def Z6I.call(R:Z6I)(e:Js)(w:H)(r:Prop):Prop:=match R.pan with
 |true=>(∃ch,e=.panicked ch/\R.fin (.panicked ch) w)\/r
 |false=>r
theorem Z6I.call_or{R:Z6I}{e:Js}{w:H}{r:Prop}(h:R.call e w r):(∃ch,e=.panicked ch/\R.fin (.panicked ch) w)\/r:=by
 unfold Z6I.call at h;cases hp:R.pan with
 |true=>rw[hp]at h;exact h
 |false=>rw[hp]at h;exact .inr h
def pA(P:Program)(R:Z6I):Alg pC where
 il:=fun n=>(n:Int)
 nl:=fun n=>(n:Nat)
 sl:=fun s=>(s:ByteArray)
 onil:=(X:Option Addr)
 osome:=fun d=>(G d:Option Addr)
 mnil:=(X:Option Nat)
 dl:=fun b o=>(⟨b,o,X⟩:Addr)
 wrap:=fun k n=>(IntKind.wrap k n:Int)
 add:=fun a b=>((a:Int)+b:Int)
 sub:=fun a b=>((a:Int)-b:Int)
 mul:=fun a b=>((a:Int)*b:Int)
 tdiv:=fun a b=>(Int.tdiv a b:Int)
 tmod:=fun a b=>(Int.tmod a b:Int)
 fdiv:=fun a b=>(Int.fdiv a b:Int)
 bits:=fun op k a b=>(bitsI op k a b:Int)
 shl:=fun k a b=>(shlI k a b:Int)
 shr:=fun k a b=>(shrI k a b:Int)
 ssize:=fun s=>(ByteArray.size s:Nat)
 sext:=fun s a b=>(ByteArray.extract s a b:ByteArray)
 sat:=fun s i=>(strAt s i:Int)
 n2i:=fun n=>(((n:Nat):Int):Int)
 i2n:=fun i=>(Int.toNat i:Nat)
 nsub:=fun a b=>((a:Nat)-b:Nat)
 nmul:=fun a b=>((a:Nat)*b:Nat)
 dadd:=fun d n=>(Addr.add d n:Addr)
 osub:=fun o cap lo sz=>(subO o cap lo sz:Option Addr)
 dsub:=fun d n lo sz=>(subD d n lo sz:Addr)
 lext:=fun l a n=>(Jv l a (a+n):Array Value)
 lget:=fun l i=>(lget l i:Value)
 lconst:=fun v=>((match v with| .agg cs=>cs|v=>#[v]):Array Value)
 vlit:=fun v=>(v:Value)
 lput:=fun l i vs=>(setsAt l i (toVs vs):Array Value)
 lputL:=fun l i n l'=>(lputL l i n l':Array Value)
 junk:=fun j t=>((j:Nat->Value) t:Value)
 lsz:=fun l n r=>JQ l=n/\r
 one:=fun v r=>Value.oneCell' v=F/\r
 fail:=fun _=>False
 and:=fun a b=>a/\b
 imp:=fun b t r=>ZGu b t r
 exI:=fun f=>∃n:Int,f n
 exB:=fun f=>∃b:Bool,f b
 exS:=fun f=>∃s:ByteArray,f s
 exO:=fun f=>∃o:Option Addr,f o
 exD:=fun f=>∃d:Addr,f d
 exN:=fun f=>∃n:Nat,f n
 exV:=fun f=>∃v:Value,f v
 exL:=fun f=>∃l:Array Value,f l
 exM:=fun f=>∃m:Option Nat,f m
 allI:=fun f=>∀n:Int,f n
 allB:=fun f=>∀b:Bool,f b
 allS:=fun f=>∀s:ByteArray,f s
 allO:=fun f=>∀o:Option Addr,f o
 allN:=fun f=>∀n:Nat,f n
 allV:=fun f=>∀v:Value,f v
 allL:=fun f=>∀l:Array Value,f l
 allM:=fun f=>∀m:Option Nat,f m
 cellEq:=fun w d v r=>World.cell? w d=G (toV v)/\r
 cellsEq:=fun w d n l r=>ZH w d n l/\r
 endEq:=fun e v r=>e=Ending.returned (toV v)/\r
 valEq:=fun v sv r=>v=toV sv/\r
 okO:=fun o d r=>o=G d/\r
 rng:=fun i n r=>(0<=(i:Int)/\(i:Int)<((n:Nat):Int))/\r
 rle:=fun i n r=>(0<=(i:Int)/\(i:Int)<=((n:Nat):Int))/\r
 nle:=fun a b r=>(a:Nat)<=b/\r
 neZ:=fun i r=>(i:Int)≠0/\r
 geZ:=fun i r=>0<=(i:Int)/\r
 ifNil:=fun v a b=>(v=Value.nilIface/\a)\/(ZDQ v/\b)
 isIf:=fun v r=>ZDQ v/\r
 okM:=fun v m r=>OkM P v m/\r
 imax:=fun a b=>(max (a:Int) b:Int)
 imin:=fun a b=>(min (a:Int) b:Int)
 st:=fun w d v k=>Z1 w d (toV v)/\∀w':H,Z8 w d (toV v) w'->k w'
 new:=fun t cs w k=>∀(d:Addr)(w':H),ZB w t (toVs cs).toArray d w'->k d w'
 newL:=fun t _ l w k=>∀(d:Addr)(w':H),ZB w t l d w'->k d w'
 drew:=fun w k=>∀w':H,ZL w w'->k w'
 call:=fun f args w k=>Calls P f (toVs args).toArray w fun e w'=>R.call e w' (k e w')
 callV:=fun v args w k=>Z3G P v (toVs args).toArray w fun e w'=>R.call e w' (k e w')
 callM:=fun v m args w k=>ZGx P v m (toVs args).toArray w fun e w'=>R.call e w' (k e w')
 ext:=fun f args w k=>∃(v:Value)(w':H),(callFunc f (toVs args).toArray).run P w=JI (.value v) w'/\k v w'
 read:=fun o ev w k=>match ZEk o fun x=>toV (ev x)with
  |some s=>∃v:Value,s.run P w=JI v w/\k v
  |none=>False
 reread:=fun o ev sv w r=>match ZEk o fun x=>toV (ev x)with
  |some s=>s.run P w=JI (toV sv) w/\r
  |none=>False
 run:=fun o ev w k=>match ZEk o fun x=>toV (ev x)with
  |some s=>∃(v:Value)(w':H),s.run P w=JI v w'/\k v w'
  |none=>False
 runU:=fun o ev w k=>match semU o fun x=>toV (ev x)with
  |some s=>∃w':H,s.run P w=JI () w'/\k w'
  |none=>False
 done:=fun v w=>R.fin (.returned (toV v)) w
 panic:=fun v w=>match R.pan with
  |true=>R.fin (.panicked (ZEP (toV v))) w
  |false=>False
 join:=joinP
 loop:=loopP
end Go.Vcg
end
section
namespace Go.Vcg
theorem Z1Z{P:Program}{w:H}{op:JP}{t:Z}{x y:J0}{a b v:Value}
  (h1:a=.nilIface->b≠.nilIface) (h2:∀cs,a=.agg cs->∀ds,b≠.agg ds) (h:(JB op t a b).run P w=JI v w) :
  (Z0Z op t x y a b).run P w=JI v w:=by
 unfold Z0Z
 have:(Jw op t x y a b).run P w=JI () w:=by
  unfold Jw
  split<;>first
   |rfl
   |(cases a<;>cases b<;>first
      |rfl
      |exact absurd rfl (h1 rfl)
      |exact absurd rfl (h2 _ rfl _))
 simp[this,h]
theorem ZBL{P:Program}{w:H}{op:JP}{a b:Int}{t:Bool}(h:ZCK op a b=G t):(Q3 op a b).run P w=JI (.bool t) w:=by
 cases op<;>simp[ZCK]at h<;>subst h<;>simp[Q3]
theorem Z8t{A:Alg pC}{P:Program}{R:Z6I}(hA:A=pA P R){x:SV pC}{k:IntKind}{n:Int}(h:asI A x=G (k,n)):toV x=.int k n:=by
 subst hA;cases x<;>simp[asI]at h
 case int=>obtain⟨rfl,rfl⟩:=h;rfl
 case ilit=>obtain⟨rfl,rfl⟩:=h;rfl
theorem ZCx{P:Program}{R:Z6I}{op:JP}{x y:SV pC}{k:SV pC->Prop}{r:Prop}(h:binS (pA P R) op x y k=G r)(hr:r) :
  ∃sv,(∀(w:H)(t:Z)(ox oy:J0),(Z0Z op t ox oy (toV x) (toV y)).run P w=JI (toV sv) w)/\k sv:=by
 unfold binS at h;split at h
 ·rename_i a b
  have key:∀(bb:Bool),(∀(w:H)(t:Z)(_ _:J0),(JB op t (.string a) (.string b)).run P w=JI (.bool bb) w) ->
    ∀(w:H)(t:Z)(ox oy:J0),(Z0Z op t ox oy (toV (.str a)) (toV (.str b))).run P w=JI (.bool bb) w :=
   fun bb hb w t ox oy=>Z1Z (by simp[toV]) (by simp[toV]) (hb w t ox oy)
  cases op<;>cases h <;>
   refine⟨_,?_,hr⟩<;>simp only[toV,den] <;>
   exact key _ (fun w t _ _=>by simp[JB,Op.stringOp,Z9V])
 ·rename_i ka a kb b
  have key:∀(v:Value),(∀(w:H)(t:Z)(_ _:J0),(JB op t (.int ka a) (.int kb b)).run P w=JI v w) ->
    ∀(w:H)(t:Z)(ox oy:J0),(Z0Z op t ox oy (toV (.ilit ka a)) (toV (.ilit kb b))).run P w=JI v w :=
   fun v hb w t ox oy=>Z1Z (by simp[toV]) (by simp[toV]) (hb w t ox oy)
  split at h
  ·split at h
   ·rename_i hk;subst hk
    cases h;exact⟨_,key _ (fun w t _ _=>by simp[JB,JN,toV]),hr⟩
   ·cases h
  ·split at h
   ·rename_i hk;subst hk
    cases h;exact⟨_,key _ (fun w t _ _=>by simp[JB,JN,toV]),hr⟩
   ·cases h
  ·split at h
   ·rename_i hk;subst hk
    cases h;exact⟨_,key _ (fun w t _ _=>by simp[JB,JN,toV]),hr⟩
   ·cases h
  ·split at h
   ·rename_i t ht
    split at h
    ·rename_i hk;subst hk
     cases h;refine⟨_,key _ (fun w t' _ _=>?_),hr⟩;have:=ZBL (P:=P) (w:=w) ht;cases op<;>simp[ZCK]at ht<;>simpa[JB,toV]using this
    ·cases h
   ·cases h
 ·split at h
  ·rename_i ka a kb b hx hy
   have ex:=Z8t rfl hx;have ey:=Z8t rfl hy
   have key:∀(v:Value),(∀(w:H)(t:Z)(_ _:J0),(JB op t (.int ka a) (.int kb b)).run P w=JI v w) ->
     ∀(w:H)(t:Z)(ox oy:J0),(Z0Z op t ox oy (toV x) (toV y)).run P w=JI v w :=
    fun v hb w t ox oy=>by
     rw[ex,ey];exact Z1Z (by simp) (by simp) (hb w t ox oy)
   split at h
   ·
    split at h
    ·simp only[toV,JO]at ey
     obtain⟨rfl,rfl⟩:=ey;split at h
     ·rename_i h0
      cases h;refine⟨_,key _ (fun w t _ _=>?_),hr⟩;simp[JB,Jt,toV,Int.not_lt.2 h0,pA]
     ·cases h
    ·cases h
     refine⟨_,key _ (fun w t _ _=>?_),hr.2⟩;have h0:0<=b:=hr.1;simp[JB,Jt,toV,Int.not_lt.2 h0,pA,shlI]
   ·split at h
    ·simp only[toV,JO]at ey
     obtain⟨rfl,rfl⟩:=ey;split at h
     ·rename_i h0
      cases h;refine⟨_,key _ (fun w t _ _=>?_),hr⟩;simp[JB,Jt,toV,Int.not_lt.2 h0,pA]
     ·cases h
    ·cases h
     refine⟨_,key _ (fun w t _ _=>?_),hr.2⟩;have h0:0<=b:=hr.1;simp[JB,Jt,toV,Int.not_lt.2 h0,pA,shrI]
   ·split at h
    ·rename_i hk;subst hk
     split at h
     ·cases h;exact⟨_,key _ (fun w t _ _=>by simp[JB,JN,toV,pA]),hr⟩
     ·cases h;exact⟨_,key _ (fun w t _ _=>by simp[JB,JN,toV,pA]),hr⟩
     ·cases h;exact⟨_,key _ (fun w t _ _=>by simp[JB,JN,toV,pA]),hr⟩
     ·split at h
      ·simp only[toV,JO]at ey
       obtain⟨rfl,rfl⟩:=ey;split at h
       ·cases h
       ·rename_i h0
        cases h;exact⟨_,key _ (fun w t _ _=>by simp[JB,Jk,toV,pA,h0]),hr⟩
      ·cases h
       have h0:b≠0:=hr.1;exact⟨_,key _ (fun w t _ _=>by simp[JB,Jk,toV,pA,h0]),hr.2⟩
     ·split at h
      ·simp only[toV,JO]at ey
       obtain⟨rfl,rfl⟩:=ey;split at h
       ·cases h
       ·rename_i h0
        cases h;exact⟨_,key _ (fun w t _ _=>by simp[JB,Jk,toV,pA,h0]),hr⟩
      ·cases h
       have h0:b≠0:=hr.1;exact⟨_,key _ (fun w t _ _=>by simp[JB,Jk,toV,pA,h0]),hr.2⟩
     all_goals first
      |(cases h;refine⟨_,key _ (fun w t _ _=>?_),hr⟩;simp[JB,Op.intBits,toV,pA,bitsI];done)
      |(cases h;refine⟨_,key _ (fun w t _ _=>?_),hr⟩;simp[JB];rfl)
      |(cases h;done)
    ·cases h
  ·cases h
theorem Zh{P:Program}{w:H}{t:Z}{d:JD}(h:P.underlying t=G d):(underlying t).run P w=JI d w:=by
 simp[underlying,h]
theorem ZHA{P:Program}{w:H}{t:Z}{a b:Value}{r:Bool}(op:JP)(h:(JE t a b).run P w=JI r w)(hs:op=.eql\/op=.neq)
  (h1:∀x,a≠.string x) (h2:∀k x,a≠.int k x) (h3:∀k x,a≠.float k x) (h4:∀k x y,a≠.complex k x y) :
  (JB op t a b).run P w=JI (.bool (if op=.eql then r else !r)) w:=by
 rcases hs with rfl|rfl
 ·have:JB .eql t a b=(do pure (.bool (<-JE t a b))):=by
    cases a<;>first
     |rfl
     |exact absurd rfl (h1 _)
     |exact absurd rfl (h2 _ _)
     |exact absurd rfl (h3 _ _)
     |exact absurd rfl (h4 _ _ _)
  rw[this];simp[h]
 ·have:JB .neq t a b=(do pure (.bool (!(<-JE t a b)))):=by
    cases a<;>first
     |rfl
     |exact absurd rfl (h1 _)
     |exact absurd rfl (h2 _ _)
     |exact absurd rfl (h3 _ _)
     |exact absurd rfl (h4 _ _ _)
  rw[this];simp[h]
section
variable{P:Program}{w:H}{t:Z}
theorem Z9x{e:Z}(h:P.underlying t=G (.pointer e))(o:Option Addr)(d:Nat):(J8 (d+1) t (.pointer o) (.pointer X)).run P w=JI o.isNone w:=by
 cases o<;>simp[J8,Zh h]
theorem Z84{e:Z}(h:P.underlying t=G (.slice e))(o:Option Addr)(l c l' c':Nat)(d:Nat):(J8 (d+1) t (.slice o l c) (.slice X l' c')).run P w=JI o.isNone w:=by
 cases o<;>simp[J8,Zh h]
theorem Z9v{e e':Z}(h:P.underlying t=G (.map e e'))(o:Option Nat)(d:Nat):(J8 (d+1) t (.map o) (.map X)).run P w=JI o.isNone w:=by
 cases o<;>simp[J8,Zh h]
theorem Z9w{ms:Array (String×Z)}(h:P.underlying t=G (J6 ms))(d:Nat):(J8 (d+1) t .nilIface .nilIface).run P w=JI F w:=by
 simp[J8,Zh h]
theorem Z82{u:Z}{v:Value}{ms:Array (String×Z)}(h:P.underlying t=G (J6 ms))(d:Nat):(J8 (d+1) t (.iface u v) .nilIface).run P w=JI Y w:=by
 simp[J8,Zh h]
theorem Z83{u:Z}{v:Value}{ms:Array (String×Z)}(h:P.underlying t=G (J6 ms))(d:Nat):(J8 (d+1) t .nilIface (.iface u v)).run P w=JI Y w:=by
 simp[J8,Zh h]
theorem Z8K{e:Z}(h:P.underlying t=G (.pointer e))(o:Option Addr):(JE t (.pointer o) (.pointer X)).run P w=JI o.isNone w:=Z9x h o 9999
theorem Z9z{e:Z}(h:P.underlying t=G (.slice e))(o:Option Addr)(l c l' c':Nat):(JE t (.slice o l c) (.slice X l' c')).run P w=JI o.isNone w:=Z84 h o l c l' c' 9999
theorem ZCz{e e':Z}(h:P.underlying t=G (.map e e'))(o:Option Nat):(JE t (.map o) (.map X)).run P w=JI o.isNone w:=Z9v h o 9999
theorem Z8J{ms:Array (String×Z)}(h:P.underlying t=G (J6 ms)):(JE t .nilIface .nilIface).run P w=JI F w:=Z9w h 9999
theorem Z6N{u:Z}{v:Value}{ms:Array (String×Z)}(h:P.underlying t=G (J6 ms)):(JE t (.iface u v) .nilIface).run P w=JI Y w:=Z82 h 9999
theorem Z9y{u:Z}{v:Value}{ms:Array (String×Z)}(h:P.underlying t=G (J6 ms)):(JE t .nilIface (.iface u v)).run P w=JI Y w:=Z83 h 9999
end
theorem Z88{P:Program}{w:H}{op:JP}{t:Z}{x y:J0}{v:Value}(hc:(ZZ x||ZZ y)=F)
  (h:(JB op t .nilIface .nilIface).run P w=JI v w):(Z0Z op t x y .nilIface .nilIface).run P w=JI v w:=by
 unfold Z0Z
 have:(Jw op t x y .nilIface .nilIface).run P w=JI () w:=by
  cases x<;>cases y<;>first
   |(simp[ZZ]at hc;done)
   |(cases op<;>rfl)
 simp[this,h]
theorem ZHN{P:Program}{R:Z6I}{env:Env pC}{y:J0}(h:ZZ y=F) :
  toV (ev (pA P R) env y)=.nilIface\/toV (ev (pA P R) env y)=.pointer X\/(∃l c,toV (ev (pA P R) env y)=.slice X l c)\/toV (ev (pA P R) env y)=.map X:=by
 unfold ZZ at h
 split at h<;>first
  |(simp[ev,ZFW,Z2T,toV,pA];done)
  |cases h
def ZBR:Value->Bool
 | .string _| .int _ _| .float _ _| .complex _ _ _| .agg _=>Y
 |_=>F
theorem Z6u{P:Program}{w:H}{t:Z}{ox oy:J0}{a b:Value}{r:Bool}(op:JP)(h:(JE t a b).run P w=JI r w)(hs:op=.eql\/op=.neq)
  (hp:ZBR a=F) (hg:a=.nilIface->b=.nilIface->(ZZ ox||ZZ oy)=F) :
  (Z0Z op t ox oy a b).run P w=JI (.bool (if op=.eql then r else !r)) w:=by
 have hb:=ZHA op h hs (by rintro x rfl;cases hp) (by rintro k x rfl;cases hp) (by rintro k x rfl;cases hp) (by rintro k x y rfl;cases hp);by_cases hn:a=.nilIface/\b=.nilIface
 ·obtain⟨rfl,rfl⟩:=hn
  exact Z88 (hg rfl rfl) hb
 ·exact Z1Z (fun h1 h2=>hn ⟨h1,h2⟩) (by rintro cs rfl;cases hp) hb
def ZH0(P:Program)(t:Z)(a b:Value)(g:Bool):ZGs pC->Prop
 | .b x=>ZBR a=F/\(a=.nilIface->b=.nilIface->g=F)/\∀w,(JE t a b).run P w=JI (den x) w
 | .lit c=>ZBR a=F/\(a=.nilIface->b=.nilIface->g=F)/\∀w,(JE t a b).run P w=JI c w
 | .either v=>a=v/\b=.nilIface/\g=F
theorem Z8Z{P:Program}{R:Z6I}{t:Z}{d:JD}{env:Env pC}{ox oy:J0}{nv:ZGs pC}(hu:P.underlying t=G d)
  (h:ZFT d (ZZ ox) (ZZ oy) (ev (pA P R) env ox) (ev (pA P R) env oy)=G nv) :
  ZH0 P t (toV (ev (pA P R) env ox)) (toV (ev (pA P R) env oy)) (ZZ ox||ZZ oy) nv:=by
 have hv:=fun h=>ZHN (P:=P) (R:=R) (env:=env) (y:=oy) h;generalize ev (pA P R) env ox=x at *
 generalize ev (pA P R) env oy=y at *
 unfold ZFT at h;split at h
 ·split at h
  ·rename_i hc;cases h;exact⟨rfl,fun _ _=>hc,fun w=>Z8J hu⟩
  ·cases h
 ·cases h;exact⟨rfl,by simp[toV],fun w=>Z6N hu⟩
 ·cases h;exact⟨rfl,by simp[toV],fun w=>Z9y hu⟩
 ·split at h
  ·rename_i hc;cases h;exact⟨rfl,rfl,hc⟩
  ·cases h
 ·split at h
  ·rename_i o o' hc
   cases h;have:=hv hc;simp[toV]at this;subst this;exact⟨rfl,by simp[toV],fun w=>Z8K hu o⟩
  ·cases h
 ·split at h
  ·rename_i d o' hc
   cases h;have:=hv hc;simp[toV]at this;subst this;exact⟨rfl,by simp[toV],fun w=>Z8K hu (G d)⟩
  ·cases h
 ·split at h
  ·rename_i o l c o' l' c' hc
   cases h;have:=hv hc;simp[toV]at this;subst this;exact⟨rfl,by simp[toV],fun w=>Z9z hu o l c l' c'⟩
  ·cases h
 ·split at h
  ·rename_i o o' hc
   cases h;have:=hv hc;simp[toV]at this;subst this;exact⟨rfl,by simp[toV],fun w=>ZCz hu o⟩
  ·cases h
 ·cases h
theorem Z8Y{P:Program}{R:Z6I}{op:JP}{t:Z}{d:JD}{ox oy:J0}{a b:Value}{nv:ZGs pC}(hu:P.underlying t=G d)
  (hd:∃ms,d=J6 ms\/∀v,nv≠.either v)
  (hn:ZH0 P t a b (ZZ ox||ZZ oy) nv) {neg:Bool} (hop:op=if neg then .neq else .eql) {k:SV pC->Prop} (hr:nilK (pA P R) neg k nv) :
  ∃sv,(∀w,(Z0Z op t ox oy a b).run P w=JI (toV sv) w)/\k sv:=by
 have hs:op=.eql\/op=.neq:=by cases neg<;>simp[hop]
 have hif:∀r:Bool,(if op=.eql then r else !r)=(if neg then !r else r):=by intro r;cases neg<;>simp[hop]
 cases nv with
 |b x =>
  obtain⟨h1,h2,h3⟩:=hn;refine⟨_,fun w=>?_,hr⟩;rw[Z6u op (h3 w) hs h1 h2,hif];cases neg<;>rfl
 |lit c =>
  obtain⟨h1,h2,h3⟩:=hn;refine⟨_,fun w=>?_,hr⟩;rw[Z6u op (h3 w) hs h1 h2,hif];cases neg<;>rfl
 |either v =>
  obtain⟨rfl,rfl,hg⟩:=hn;obtain⟨ms,rfl|hd⟩:=hd
  ·rcases hr with⟨rfl,hk⟩|⟨⟨u,x,rfl⟩,hk⟩
   ·refine⟨_,fun w=>?_,hk⟩
    rw[Z6u op (Z8J hu) hs rfl (fun _ _=>hg),hif];cases neg<;>rfl
   ·refine⟨_,fun w=>?_,hk⟩
    rw[Z6u op (Z6N hu) hs rfl (by simp),hif];cases neg<;>rfl
  ·exact absurd rfl (hd a)
theorem Z7U{d:JD}{cx cy:Bool}{x y:SV pC}{nv:ZGs pC}(h:ZFT d cx cy x y=G nv):∃ms,d=J6 ms\/∀v,nv≠.either v:=by
 unfold ZFT at h
 split at h<;>first
  |exact⟨_,.inl rfl⟩
  |(split at h<;>first
     |(cases h;exact⟨#[],.inr (by simp)⟩)
     |cases h)
  |(cases h;done)
theorem ZD9{P:Program}{R:Z6I}{op:JP}{t:Z}{d:JD}{env:Env pC}{ox oy:J0}{k:SV pC->Prop}{r:Prop}(hu:P.underlying t=G d)
  (h:nilS (pA P R) op d (ZZ ox) (ZZ oy) (ev (pA P R) env ox) (ev (pA P R) env oy) k=G r) (hr:r) :
  ∃sv,(∀(w:H),(Z0Z op t ox oy (toV (ev (pA P R) env ox)) (toV (ev (pA P R) env oy))).run P w=JI (toV sv) w)/\k sv:=by
 unfold nilS at h;split at h
 ·cases hn:ZFT d (ZZ ox) (ZZ oy) (ev (pA P R) env ox) (ev (pA P R) env oy)with
  |none=>rw[hn]at h;cases h
  |some nv=>rw[hn]at h;cases h;exact Z8Y hu (Z7U hn) (Z8Z hu hn) (neg:=Y) rfl hr
 ·cases hn:ZFT d (ZZ ox) (ZZ oy) (ev (pA P R) env ox) (ev (pA P R) env oy)with
  |none=>rw[hn]at h;cases h
  |some nv=>rw[hn]at h;cases h;exact Z8Y hu (Z7U hn) (Z8Z hu hn) (neg:=F) rfl hr
 ·cases h
variable{P:Program}{R:Z6I}
theorem Z1V{t:Z}{d:JD}(h:und P t=d)(hd:d≠Jx):P.underlying t=G d:=by
 unfold und at h;cases hu:P.underlying t with
 |none=>rw[hu]at h;exact absurd h.symm hd
 |some e=>rw[hu]at h;simpa using h
theorem Z0l{t:Z}{i:TypeInfo}(h:P.info? t=G i)(w:H):(sizeOf t).run P w=JI (Z0O P t) w:=by
 simp[sizeOf,typeInfo,h,Z0O]
theorem Z3h{t:Z}{d:JD}(h:P.underlying t=G d):∃i,P.info? t=G i:=by
 unfold Program.underlying at h;cases hi:P.info? t with
 |none=>rw[hi]at h;cases h
 |some i=>exact⟨i,rfl⟩
theorem Z5f{t:Z}{d:JD}(h:P.underlying t=G d)(w:H):(isAgg t).run P w=JI (Z6O d) w:=by
 unfold isAgg;simp only[J2,Zh h,U];cases d<;>rfl
theorem ZCq{t:Z}{z:Value}(h:Z4s P t=G z)(w:H):(zeroValue t).run P w=JI z w:=by
 unfold Z4s at h;cases hi:P.info? t with
 |none=>rw[hi]at h;cases h
 |some i =>
  rw[hi]at h;simp only[Jj]at h;simp[zeroValue,typeInfo,hi,h]
theorem toVs_getElem?(l:List (SV pC))(i:Nat):(toVs l)[i]?=(l[i]?).map toV:=by rw[Z1W];simp
theorem Zp(l:List (SV pC)):(toVs l).length=l.length:=by rw[Z1W];simp
theorem Z3f:∀(c:Z71) (f:SV pC->Prop),ZA0 (pA P R) c f->∃sv,f sv
 | .int _,_,⟨n,h⟩=>⟨_,h⟩
 | .bool,_,⟨n,h⟩=>⟨_,h⟩
 | .str,_,⟨n,h⟩=>⟨_,h⟩
 | .ptr,_,⟨n,h⟩=>⟨_,h⟩
 | .slice,_,⟨o,l,c,h⟩=>⟨_,h⟩
 | .map,_,⟨n,h⟩=>⟨_,h⟩
 | .raw,_,⟨n,h⟩=>⟨_,h⟩
 | .addr,_,⟨d,h⟩=>⟨_,h⟩
theorem Z35:∀(cs:List Z71) (f:List (SV pC)->Prop),Z60 (pA P R) cs f->∃svs,svs.length=cs.length/\f svs
 |[],_,h=>⟨[],rfl,h⟩
 |c::cs,f,h=>by
  obtain⟨sv,h⟩:=Z3f c _ h;obtain⟨svs,hl,h⟩:=Z35 cs _ h;exact⟨sv::svs,by simp[hl],h⟩
theorem Z5K:∀(s:Shape1) (f:SV pC->Prop),Z92 (pA P R) s f->∃sv,f sv
 | .cell c,f,h=>Z3f c f h
 | .agg cs,f,h=>let⟨svs,_,h⟩:=Z35 cs _ h;⟨_,h⟩
 | .big _,f,⟨l,h⟩=>⟨_,h⟩
theorem Z4n:∀(ss:List Shape1) (f:List (SV pC)->Prop),Z7G (pA P R) ss f->∃svs,f svs
 |[],_,h=>⟨[],h⟩
 |s::ss,f,h=>by
  obtain⟨sv,h⟩:=Z5K s _ h;obtain⟨svs,h⟩:=Z4n ss _ h;exact⟨sv::svs,h⟩
theorem Z47:∀(s:Shape) (f:SV pC->Prop),Z3g (pA P R) s f->∃sv,f sv
 | .one s,f,h=>Z5K s f h
 | .tup ss,f,h=>let⟨svs,h⟩:=Z4n ss _ h;⟨_,h⟩
theorem Z6T:∀(svs:List (SV pC)) (l:Array Value) (off i:Nat) (r:Prop),ZBQ (pA P R) svs l off i r->(∀j sv,svs[j]?=G sv->lget l (off+(i+j))=toV sv)/\r
 |[],_,_,_,_,h=>⟨by simp,h⟩
 |v::vs,l,off,i,r,h=>by
  obtain⟨h1,h2⟩:=h;obtain⟨h3,h4⟩:=Z6T vs l off (i+1) r h2;refine⟨fun j sv hj=>?_,h4⟩;cases j with
  |zero=>simp at hj;subst hj;exact h1
  |succ j =>
   simp at hj;have:=h3 j sv hj;rw[show off+(i+(j+1))=off+(i+1+j)from by omega];exact this
theorem Z3d{t:Z}{cs:List Z71}(h:Z3W P t=.agg cs):Z6O (und P t)=F/\cs.length=Z0O P t:=by
 unfold Z3W at h;split at h
 ·split at h
  ·rename_i hu hc;cases h;exact⟨by rw[hu];rfl,hc.2⟩
  ·cases h
 ·split at h
  ·rename_i hu hc;cases h;exact⟨by rw[hu];rfl,hc.2⟩
  ·cases h
 ·cases h
theorem Z9k{t:Z}{n:Nat}(h:Z3W P t=.big n):Z6O (und P t)=F/\n=Z0O P t:=by
 unfold Z3W at h;split at h
 ·split at h
  ·cases h
  ·rename_i hu hc;cases h;exact⟨by rw[hu];rfl,rfl⟩
 ·split at h
  ·cases h
  ·rename_i hu hc;cases h;exact⟨by rw[hu];rfl,rfl⟩
 ·cases h
theorem Z5x{t:Z}{c:Z71}(h:Z3W P t=.cell c):Z6O (und P t)=Y:=by
 unfold Z3W at h;split at h
 ·split at h<;>cases h
 ·split at h<;>cases h
 ·rename_i d h1 h2
  cases hu:und P t<;>first
   |rfl
   |exact absurd hu (h1 _)
   |exact absurd hu (h2 _ _)
theorem Z4L{t:Z}{cs:Array Value}{off:Nat}(hag:Z6O (und P t)=F)(w:H) :
  (part t cs off).run P w=JI (.agg (cs.extract off (off+Z0O P t))) w:=by
 have hu:P.underlying t=G (und P t):=Z1V rfl (by intro he;rw[he]at hag;cases hag);obtain⟨i,hi⟩:=Z3h hu;unfold part;simp only[J2,Z5f hu,U,hag,if_true,Z0l hi,J5]
theorem Z5g{t:Z}{cs:Array Value}{off:Nat}{v:Value}(hi:∃i,P.underlying t=G i)(hag:Z6O (und P t)=Y)(hv:cs[off]?=G v)(w:H) :
  (part t cs off).run P w=JI v w:=by
 obtain⟨d,hu⟩:=hi;have hd:und P t=d:=by simp[und,hu]
 unfold part;simp only[J2,Z5f hu,U,<-hd,hag,Je,if_false,hv,J5]
theorem Z7Z{t:Z}{x:SV pC}{off:Nat}{k:SV pC->Prop}{r:Prop}(hd:∃d,P.underlying t=G d)(h:ZFa (pA P R) P t x off k=G r)(hr:r) :
  ∃sv,(∃cs,toV x=.agg cs/\∀w,(part t cs off).run P w=JI (toV sv) w)/\k sv:=by
 unfold ZFa at h;split at h
 ·rename_i c cs hs
  cases hc:cs[off]? with
  |none=>rw[hc]at h;cases h
  |some sv =>
   rw[hc]at h;cases h;exact⟨sv,⟨(toVs cs).toArray,rfl,fun w=>Z5g hd (Z5x hs) (by simp[toVs_getElem?,hc]) w⟩,hr⟩
 ·rename_i c n l hs
  split at h
  ·rename_i hlt
   cases h;obtain⟨hl,hr⟩:=hr;obtain⟨sv,hv,hk⟩:=Z3f _ _ hr;refine⟨sv,⟨_,rfl,fun w=>Z5g hd (Z5x hs) ?_ w⟩,hk⟩;have hoff:off<JQ l:=by rw[hl];exact hlt
   have hv:lget l off=toV sv:=hv;rw[<-hv,lget];simp[hoff]
  ·cases h
 ·rename_i ds cs hs
  split at h
  ·cases h
   obtain⟨hag,hlen⟩:=Z3d hs;refine⟨_,⟨(toVs cs).toArray,rfl,fun w=>?_⟩,hr⟩;rw[Z4L hag];simp[toV,Z1W,hlen,List.map_take,List.map_drop,List.extract_eq_take_drop]
  ·cases h
 ·rename_i ds n l hs
  split at h
  ·rename_i hle
   cases h;obtain⟨hl,hr⟩:=hr;obtain⟨hag,hlen⟩:=Z3d hs;obtain⟨svs,hsl,hr⟩:=Z35 _ _ hr;obtain⟨heq,hk⟩:=Z6T _ _ _ _ _ hr;refine⟨_,⟨_,rfl,fun w=>?_⟩,hk⟩;rw[Z4L hag];have hl:JQ l=n:=hl
   have:Jv l off (off+Z0O P t)=(toVs svs).toArray:=by
    refine Array.ext (by simp[Zp];omega) fun i h1 h2=>?_;simp[Zp]at h2;have hi:=heq i svs[i] (by simp[h2]);simp only[Nat.zero_add,lget]at hi;have hoi:off+i<JQ l:=by omega
    simp only[Array.getElem_extract,Z1W,List.getElem_toArray,List.getElem_map,<-hi];simp[hoi]
   simp only[toV,this]
  ·cases h
 ·rename_i m n l hs
  split at h
  ·cases h
   obtain⟨hl,hr⟩:=hr;obtain⟨hag,hlen⟩:=Z9k hs;refine⟨_,⟨_,rfl,fun w=>?_⟩,hr⟩;rw[Z4L hag,hlen];rfl
  ·cases h
 ·cases h
end Go.Vcg
end
section
namespace Go.Vcg
variable{P:Program}{R:Z6I}
theorem Z2A(v:Value):toV (Z2T (pA P R) v)=v:=by
 cases v with
 |pointer o=>cases o with
  |none=>rfl
  |some d =>
   obtain⟨b,off,sp⟩:=d;cases sp<;>rfl
 |slice o l c=>cases o<;>rfl
 |map m=>cases m<;>rfl
 |tuple vs =>
  simp only[Z2T];split
  ·rename_i h
   have:vs=#[]:=Array.size_eq_zero_iff.1 h;subst this;rfl
  ·rfl
 |_=>rfl
theorem ZEu(v:Value):toV (ZFW (pA P R) v)=v:=by
 unfold ZFW;split
 ·split
  ·simp only[toV,Z1W,List.map_map]
   congr 1;have:(toV ∘ Z2T (pA P R))=id:=funext fun v=>Z2A v;rw[this];simp
  ·rfl
 ·simp only[toV,Z2A]
 ·exact Z2A _
def Rep(env:Env pC)(a:Jl):Prop:=∀t,a.tmps.getD t undef=toV (Z3Z env t)
theorem Rep.eval{env:Env pC}{a:Jl}(h:Rep env a)(x:J0):a.eval x=toV (ev (pA P R) env x):=by
 cases x with
 |tmp t=>exact h t
 |const v=>exact(ZEu v).symm
 |global g=>rfl
 |func f=>rfl
theorem Z6h(off:Nat):∀(l:List Value) (k:Nat) (cs:Array Value),(l.zipIdx k).foldl (fun cs (x:Value×Nat)=>cs.setIfInBounds (off+x.2) x.1) cs=setsAt cs (off+k) l
 |[],_,_=>rfl
 |v::vs,k,cs=>by
  simp only[List.zipIdx_cons,List.foldl_cons,setsAt];exact Z6h off vs (k+1) _
theorem Z7H(place:Nat->Option (Nat×Nat))(cells:Array Value)(i:Nat)(v:Value)(rest:List (Nat×Value)){off size:Nat}(hp:place i=G (off,size))(h1:v.cells.size=size)(h2:off+size<=cells.size) :
  JS place cells ((i,v)::rest)=JS place (setsAt cells off v.cells.toList) rest:=by
 simp only[JS,hp];have:(v.cells.size != size||decide (off+v.cells.size>cells.size))=Y:=by simp[h1];omega
 rw[if_neg (by simp[h1];omega)];congr 1;rw[<-Array.foldl_toList,Array.toList_zipIdx];exact Z6h off _ 0 cells
def ZCu:SV pC->Prop
 | .raw v=>Value.oneCell' v=F
 |_=>True
theorem Z2w:∀(vs:List (SV pC)) (r:Prop),ZGB (pA P R) vs r->(∀v∈vs,ZCu v)/\r
 |[],r,h=>⟨by simp,h⟩
 |v::vs,r,h=>by
  cases v with
  |raw u =>
   obtain⟨h1,h2⟩:=Z2w vs r h.2;exact⟨List.forall_mem_cons.2 ⟨h.1,h1⟩,h2⟩
  |_ =>
   obtain⟨h1,h2⟩:=Z2w vs r h;exact⟨List.forall_mem_cons.2 ⟨trivial,h1⟩,h2⟩
theorem ZDi{v:Value}(h:Value.oneCell' v=F):v.cells=#[v]:=by
 cases v<;>first
  |rfl
  |cases h
theorem Z6m{v:SV pC}{cs:List (SV pC)}(hr:ZCu v)(h:Z5J v=G cs):(toV v).cells=(toVs cs).toArray:=by
 cases v with
 |raw u=>cases h;exact ZDi hr
 |big=>cases h
 |tup=>cases h
 |_=>cases h;rfl
theorem Z6b:∀(vs cells:List (SV pC)) (off:Nat),(setsAt (toVs cells).toArray off (toVs vs))=(toVs (Z9M cells off vs)).toArray
 |[],_,_=>rfl
 |v::vs,cells,off=>by
  simp only[toVs,setsAt,Z9M];rw[<-Z6b vs (cells.set off (v)) (off+1)];congr 1;simp[Z1W]
theorem Z2Q{place:Nat->Option (Nat×Nat)}{ev:J0->SV pC}:∀(parts:List (Nat×J0)) (cells out:List (SV pC)),(∀v∈parts.map fun p=>ev p.2,ZCu v)->Z3K place ev cells parts=G out ->
  JS place (toVs cells).toArray (parts.map fun(i,x)=>(i,toV (ev x)))=G (toVs out).toArray
 |[],cells,out,_,h=>by cases h;rfl
 |(i,x)::rest,cells,out,hrw,h=>by
  unfold Z3K at h;split at h
  ·cases h
  ·rename_i off size hp
   split at h
   ·cases h
   ·rename_i vs hvs
    split at h
    ·rename_i hc
     have e:=Z6m (hrw _ (by simp)) hvs;have h1:=Z2Q rest _ out (fun v hv=>hrw v (by simp at hv ⊢;exact .inr hv)) h;rw[<-Z6b]at h1;rw[Jc,Z7H place _ i _ _ hp (by rw[e];simpa[Zp]using hc.1) (by simpa[Zp]using hc.2),e];exact h1
    ·cases h
theorem Z5D:∀(vs:List Value) (l:Array Value) (i:Nat),(setsAt l i vs).size=l.size
 |[],_,_=>rfl
 |v::vs,l,i=>by simp[setsAt,Z5D vs]
theorem Z2F{place:Nat->Option (Nat×Nat)}{ev:J0->SV pC}{n:Nat}{k:Array Value->Prop}:∀(parts:List (Nat×J0)) (l:Array Value) (r:Prop),(∀v∈parts.map fun p=>ev p.2,ZCu v) ->
  l.size=n->Z3b (pA P R) place ev n l parts k=G r->r ->
  ∃out,JS place l (parts.map fun(i,x)=>(i,toV (ev x)))=G out/\k out
 |[],l,r,_,_,h,hr=>by cases h;exact⟨l,rfl,hr⟩
 |(i,x)::rest,l,r,hrw,hl,h,hr=>by
  have hrw':∀v∈rest.map fun p=>ev p.2,ZCu v:=fun v hv=>hrw v (by simp at hv ⊢;exact .inr hv);unfold Z3b at h;split at h
  ·cases h
  ·rename_i off size hp
   split at h
   ·rename_i m l' hx
    split at h
    ·rename_i hc
     cases hb:Z3b (pA P R) place ev n ((pA P R).lputL l off m l') rest k with
     |none=>rw[hb]at h;cases h
     |some r' =>
      rw[hb]at h;cases h;obtain⟨hsz,hr⟩:=hr;have hsz:JQ l'=m:=hsz;obtain⟨out,ho,hk⟩:=Z2F rest _ r' hrw' (by show(setsAt l off _).size=n;rw[Z5D,hl]) hb hr;refine⟨out,?_,hk⟩;have e:toV (ev x)=.agg l':=by rw[hx];rfl
      rw[Jc,Z7H place l i _ _ hp (by rw[e];show JQ l'=size;omega) (by omega),e]
      have:setsAt l off (Value.agg l').cells.toList=(pA P R).lputL l off m l':=by
       show _=setsAt l off (l'.toList.take m);rw[List.take_of_length_le (by simp;omega)];rfl
      rw[this];exact ho
    ·cases h
   ·split at h
    ·cases h
    ·rename_i vs hvs
     split at h
     ·rename_i hc
      have e:=Z6m (hrw _ (by simp)) hvs;obtain⟨out,ho,hk⟩:=Z2F rest _ r hrw' (by show(setsAt l off _).size=n;rw[Z5D,hl]) h hr;refine⟨out,?_,hk⟩;rw[Jc,Z7H place l i _ _ hp (by rw[e];simpa[Zp]using hc.1) (by omega),e];exact ho
     ·cases h
end Go.Vcg
end
section
namespace Go.Vcg
variable{P:Program}{R:Z6I}
theorem map_some{α β:Type}{o:Option α}{f:α->β}{r:β}(h:o.map f=G r):∃a,o=G a/\f a=r:=by
 cases o with
 |none=>cases h
 |some a=>exact⟨a,rfl,by simpa using h⟩
theorem ZDF{x:SV pC}{most:Nat}{k:Nat->Prop}{r:Prop}(h:ZDg (pA P R) x most k=G r)(hr:r)(code:JT) :
  ∃n,(∀w,(J1 (toV x) most code).run P w=JI n w)/\n<=most/\k n:=by
 unfold ZDg at h;split at h
 ·rename_i n
  split at h
  ·rename_i h0
   cases h;obtain⟨h1,hk⟩:=hr;have h1:n.toNat<=most:=h1;refine⟨n.toNat,fun w=>?_,h1,hk⟩;simp only[J1,toV,asIntOf,J2,J5,U];rw[if_pos ⟨h0,by omega⟩];rfl
  ·cases h
 ·rename_i n
  cases h;obtain⟨⟨h0,h1⟩,hk⟩:=hr;refine⟨Int.toNat n,fun w=>?_,Int.toNat_le.2 h1,hk⟩;simp only[J1,toV,asIntOf,J2,J5,U];rw[if_pos ⟨h0,h1⟩];rfl
 ·cases h
theorem Z5e{k:IntKind}{n:Int}{most:Nat}(h0:0<=n)(h1:n.toNat<=most)(code:JT)(w:H) :
  (J1 (.int k n) most code).run P w=JI n.toNat w:=by
 simp only[J1,asIntOf,J2,J5,U];rw[if_pos ⟨h0,by omega⟩];rfl
theorem Z9J{k:IntKind}{n:Int}{most:Nat}(h:0<=n/\n<=(most:Nat))(code:JT)(w:H) :
  (J1 (.int k n) most code).run P w=JI n.toNat w:=by
 simp only[J1,asIntOf,J2,J5,U];rw[if_pos h];rfl
theorem Z96{hi:Option (SV pC)}{dflt most:Nat}{low:Nat->Option Prop}{r:Prop}(code:JT)(h:hiS (pA P R) hi dflt most low=G r)(hr:r) :
  ∃n r',(∀w,(match hi.map toV with
   |some v=>J1 v most code
   |none=>pure dflt:Sem Nat).run P w=JI n w)/\low n=G r'/\r'/\(hi=X/\n=dflt\/n<=most):=by
 unfold hiS at h;split at h
 ·exact⟨dflt,r,fun w=>rfl,h,hr,.inl ⟨rfl,rfl⟩⟩
 ·rename_i k n
  split at h
  ·rename_i h0
   obtain⟨r',hl,rfl⟩:=map_some h;obtain⟨h1,hr⟩:=hr;have h1:n.toNat<=most:=h1;exact⟨n.toNat,r',fun w=>Z5e h0 h1 code w,hl,hr,.inr h1⟩
  ·cases h
 ·rename_i k n
  obtain⟨r',hl,rfl⟩:=map_some h;obtain⟨h1,hr⟩:=hr;exact⟨Int.toNat n,r',fun w=>Z9J h1 code w,hl,hr,.inr (Int.toNat_le.2 h1.2)⟩
 ·cases h
theorem Z99{lo:Option (SV pC)}{hgh:Nat}{k0:Prop}{k:Nat->Prop}{r:Prop}(code:JT)(h:loS (pA P R) lo hgh k0 k=G r)(hr:r) :
  ∃n,(∀w,(match lo.map toV with
   |some v=>J1 v hgh code
   |none=>pure 0:Sem Nat).run P w=JI n w)/\n<=hgh/\((n=0/\k0)\/k n):=by
 unfold loS at h;split at h
 ·cases h;exact⟨0,fun w=>rfl,Nat.zero_le _,.inl ⟨rfl,hr⟩⟩
 ·cases h
  exact⟨0,fun w=>Z5e (n:=0) (by omega) (by simp) code w,Nat.zero_le _,.inl ⟨rfl,hr⟩⟩
 ·obtain⟨n,h1,h2,h3⟩:=ZDF h hr code
  exact⟨n,h1,h2,.inr h3⟩
theorem Z2y{isS:Bool}{len cap:Nat}{lo hi:Option Value}{h l:Nat}{w:H}
  (hh:(match hi with
    |some v=>J1 v cap (if isS then .sliceAcap else .sliceAlen)
    |none=>pure len:Sem Nat).run P w=JI h w)
  (hl:(match lo with
    |some v=>J1 v h .sliceB
    |none=>pure 0:Sem Nat).run P w=JI l w) :
  (Ji isS len cap lo hi X).run P w=JI (l,h,cap) w:=by
 unfold Ji;cases hi with
 |none =>
  have:len=h:=by simpa using hh
  subst this;cases lo with
  |none =>
   have:0=l:=by simpa using hl
   subst this;rfl
  |some v=>simp at hl ⊢;simp[hl]
 |some u =>
  cases lo with
  |none =>
   have:0=l:=by simpa using hl
   subst this;simp at hh ⊢;simp[hh]
  |some v=>simp at hh hl ⊢;simp[hh,hl]
end Go.Vcg
end
section
namespace Go.Vcg
variable{P:Program}{R:Z6I}
theorem ZR{o:J7}{ρ:J0->Value}{s:Sem Value}{v:Value}{w w':H}(ho:execOp ρ o=(do pure (.value (<-s))))(h:s.run P w=JI v w') :
  (execOp ρ o).run P w=JI (.value v) w':=by
 rw[ho];simp[h]
theorem Z3H(d:Addr):d.add 0=d:=by simp[Addr.add]
theorem ZAJ(o:Option Addr):o.map (fun d=>d.add 0)=o:=by cases o<;>simp[Z3H]
theorem ZBe{t:Z}{x:SV pC}{lo hi:Option (SV pC)}{k:SV pC->Prop}{r:Prop}(h:ZEp (pA P R) P t x lo hi k=G r)(hr:r) :
  ∃sv,(∀w,(J9 t (toV x) (lo.map toV) (hi.map toV) X).run P w=JI (toV sv) w)/\k sv:=by
 unfold ZEp at h;split at h
 ·
  rename_i e ol len cap hu;have hu:=Z1V hu (by simp);split at h
  ·rename_i hsz
   obtain⟨i,hi'⟩:=Option.isSome_iff_exists.1 hsz;obtain⟨hh,r',hh1,hh2,hr',hh3⟩:=Z96 (P:=P) (R:=R) .sliceAcap h hr;obtain⟨l,hl1,hl2,hl3⟩:=Z99 (P:=P) (R:=R) .sliceB hh2 hr'
   have hrun:∀w,(J9 t (toV (.slice ol len cap)) (lo.map toV) (hi.map toV) X).run P w=JI (.slice (if cap=l then ol else Option.map (·.add (l*Z0O P e)) ol) (hh-l) (cap-l)) w:=by
    intro w;unfold J9;simp only[J2,Zh hu,U,toV];unfold Q0;simp only[J2,Zh hu,U];rw[Z2y (isS:=F) (hh1 w) (hl1 w)];simp only[U,Z0l hi',J5]
   rcases hl3 with⟨rfl,hk⟩|hk
   ·refine⟨_,fun w=>?_,hk⟩
    rw[hrun w];simp only[toV,Nat.zero_mul,Nat.sub_zero,ZAJ,ite_self]
   ·refine⟨_,fun w=>?_,hk⟩;exact hrun w
  ·cases h
 ·rename_i n e d hu
  have hu:=Z1V hu (by simp);split at h
  ·rename_i hsz
   obtain⟨i,hi'⟩:=Option.isSome_iff_exists.1 hsz;obtain⟨hh,r',hh1,hh2,hr',hh3⟩:=Z96 (P:=P) (R:=R) (dflt:=n) (most:=n) .sliceAlen h hr;obtain⟨l,hl1,hl2,hl3⟩:=Z99 (P:=P) (R:=R) .sliceB hh2 hr'
   have hrun:∀w,(J9 t (toV (.addr d)) (lo.map toV) (hi.map toV) X).run P w=JI (.slice (G (if n=l then d else Addr.add d (l*Z0O P e))) (hh-l) (n-l)) w:=by
    intro w;unfold J9;simp only[J2,Zh hu,U,toV,Instr.sureAddr,J5];rw[Z2y (isS:=Y) (hh1 w) (hl1 w)];simp only[U,Z0l hi',J5]
   rcases hl3 with⟨rfl,hk⟩|hk
   ·refine⟨_,fun w=>?_,hk⟩
    rw[hrun w];simp only[toV,Nat.zero_mul,Nat.sub_zero,Z3H,ite_self];rfl
   ·refine⟨_,fun w=>?_,hk⟩;exact hrun w
  ·cases h
 ·rename_i s hu
  have hu:=Z1V hu (by simp);obtain⟨hh,r',hh1,hh2,hr',hh3⟩:=Z96 (P:=P) (R:=R) (dflt:=ByteArray.size s) (most:=ByteArray.size s) .sliceAlen h hr;obtain⟨l,hl1,hl2,hl3⟩:=Z99 (P:=P) (R:=R) .sliceB hh2 hr'
  have hrun:∀w,(J9 t (toV (.str s)) (lo.map toV) (hi.map toV) X).run P w=JI (.string (ByteArray.extract s l hh)) w:=by
   intro w;unfold J9;simp only[J2,Zh hu,U,toV];unfold Q0;simp only[J2,Zh hu,U];simp only[Option.isSome_none,Je,if_false,J2,J5,U];rw[Z2y (isS:=Y) (hh1 w) (hl1 w)];simp only[U,J5]
  rcases hl3 with⟨rfl,hk⟩|hk
  ·refine⟨_,fun w=>?_,hk⟩;exact hrun w
  ·refine⟨_,fun w=>?_,hk⟩;exact hrun w
 ·cases h
end Go.Vcg
end
