/- Loads, and what else only reads. -/
/- What changes the world, or calls. -/
/- Regions, control, functions. -/
/- Loops, code, functions. -/
/- The verification conditions of some functions, printed by a program of ours (wip/PrintVc.lean). -/
import Derived.Test.YtfghidehlnfdiaaGreatXPure4
import Derived.Test.YtfghidehlnfdiaaGreatProg
import Derived.KernelRfl
set_option linter.unusedVariables false
set_option linter.unusedSimpArgs false
open Array renaming ext'->JE,getD_eq_getD_getElem?->B,getElem?_append_left->J5,mem_of_getElem?->H,range->Q3,replicate->JU,toList_inj->Jf
open Bool renaming and_eq_true->JF,false->M,false_eq_true->Ja,true->E
open Go renaming Act->JL,Calls->N,Ending->J0,Exit->Q6,Func->QB,FuncId->Jz,Oper->JQ,Operand->JP,Tmp->Jm,TypeId->Jc,World->Z,asAddr->Q7,callFunc->Jb,getD_set_true->Jq,invoke->Jg,loadVar->JA,resolve->JW,results->Q9,yielded->JX
open Go.Builtin renaming append->JM,cap_->Ju,len_->JS,max2->Jv,min2->Jx
open Go.Departure renaming mixedOrders->JC
open Go.Ending renaming panicked->JI,returned->Y
open Go.Instr renaming alloc->Ji,arrayAt->Jp,box->Jt,build->Q1,buildSlice->JO,extract->Jo,field->Q2,fieldAt->Jn,fill->Q5,index->JV,indexAt->J8,loadAt->JB,makeInterface->JY,storeAt->JZ,sureAddr->J4
open Go.IntKind renaming i64->L,u8->Je,wrap->O
open Go.Next renaming skip->Q8,value->J9
open Go.Proofs.Tryz renaming prog->X
open Go.Result renaming andThen_ok->G,ok->JG
open Go.Sem renaming run->JD,run_bind->F,run_pure->S
open Go.Value renaming cells->Jh,iface->Jk,pointer->JJ,tuple->J1
open Int renaming fdiv->Q4,le_of_lt->Jw,tmod->QC,toNat->J7
open List renaming any_cons->Jr,length->Jj,map->QA,map_cons->Js,map_map->JR,mem_append->Jl,mem_cons_of_mem->J6,replicate->A,take_of_length_le->JT,zip_cons_cons->JK
open Nat renaming beq->J2,beq_refl->Q0,eq_of_beq_eq_true->D,zero_add->Jy
open Option renaming bind_some->Jd,none->JN,some->U
open Or renaming inl->J3,inr->JH
section
namespace Go.Vcg
variable{P:Program}{R:Z6I}
theorem Z87{d:Addr}{f:Field}{i:TypeInfo}(hi:P.info? f.type=U i)(h:Z0O P f.type≠0)(w:Z):(fieldPlace d f).run P w=JG (d.add f.offset) w:=by
 unfold fieldPlace;simp only[F,Z0l hi,G];rw[if_neg h];rfl
theorem ZCv{x:SV pC}{k:IntKind}{n:Int}(h:asI (pA P R) x=U (k,n)):toV x=.int k n:=Z8t rfl h
theorem ZB1{t:Jc}{parts:Array (Nat×JP)}{ev:JP->SV pC}{k:SV pC->Prop}{r:Prop}{o:JQ}(ho:o.op=.build t parts)(h:Z1U (pA P R) P o ev k=U r)(hr:r) :
  ∃sv,(∀w,(Q1 t (parts.map fun(i,x)=>(i,toV (ev x)))).run P w=JG (toV sv) w)/\k sv:=by
 unfold Z1U at h;simp only[ho]at h;split at h
 ·rename_i cs place hz hp
  have hbuilt:∀(ps:List (Nat×Value)),P.built t ps=Q5 place cs ps:=by
   intro ps;unfold ZER at hp;unfold Z4s at hz;unfold Program.built;cases hi:P.info? t with
   |none=>rw[hi]at hz;cases hz
   |some it =>
    rw[hi]at hz;simp only[Jd]at hz;split at hp
    ·rename_i n e hu
     cases he:P.info? e with
     |none=>rw[he]at hp;cases hp
     |some ie=>rw[he]at hp;cases hp;simp[hu,hz,he,Jh]
    ·rename_i fields hu
     cases hm:fields.toList.mapM (fun f=>(P.info? f.type).map fun i=>(f.offset,i.size))with
     |none=>rw[hm]at hp;cases hp
     |some places=>rw[hm]at hp;cases hp;simp[hu,hz,hm,Jh]
    ·cases hp
  have hl:(parts.map fun(i,x)=>(i,toV (ev x))).toList=parts.toList.map fun(i,x)=>(i,toV (ev x)):=by simp
  split at h
  ·obtain⟨l,hb,rfl⟩:=map_some h
   obtain⟨hrw,hk⟩:=Z2w _ _ hr;have:=Z2Q (place:=place) (ev:=ev) parts.toList _ l hrw hb;refine⟨_,fun w=>run_build w t _ _ ?_,hk⟩;rw[hbuilt,hl]
   have e:(toVs (QA (Z2T (pA P R)) cs.toList)).toArray=cs:=by
    rw[Z1W,JR];have:(toV ∘ Z2T (pA P R))=id:=funext fun v=>Z2A v;rw[this];simp
   rw[e]at this;exact this
  ·obtain⟨r',hb,rfl⟩:=map_some h
   obtain⟨hrw,hk⟩:=Z2w _ _ hr;obtain⟨out,ho',hk'⟩:=Z2F (place:=place) (ev:=ev) (n:=cs.size) parts.toList cs r' hrw rfl hb hk;refine⟨_,fun w=>run_build w t _ out ?_,hk'⟩;rw[hbuilt,hl];exact ho'
 ·cases h
theorem Z6V{o:JQ}{env:Env pC}{a:JL}(hrep:Rep env a){k:SV pC->Prop}{r:Prop}(h:Z1U (pA P R) P o (ev (pA P R) env) k=U r)(hr:r) :
  ∃sv,(∀w,(execOp a.eval o).run P w=JG (J9 (toV sv)) w)/\k sv:=by
 have hev:∀x,a.eval x=toV (ev (pA P R) env x):=fun x=>hrep.eval x;obtain⟨dst,op,ty,pos,after,guard⟩:=o;cases op with
 |move x=>cases h;exact⟨_,fun w=>by simp[execOp,hev],hr⟩
 |assign x=>cases h;exact⟨_,fun w=>by simp[execOp,hev],hr⟩
 |pick c x y =>
  simp only[Z1U]at h;split at h
  ·rename_i t hc
   cases h;refine⟨_,fun w=>?_,hr⟩;simp only[execOp,hev,hc,toV,asBool];cases t<;>rfl
  ·rename_i b hc
   cases h;obtain⟨h1,h2⟩:=hr;cases hb:den b with
   |true =>
    refine⟨_,fun w=>?_,Z2s _ _ _ h1 hb⟩;simp only[execOp,hev,hc,toV,asBool,hb];rfl
   |false =>
    refine⟨_,fun w=>?_,Z2s _ _ _ h2 hb⟩;simp only[execOp,hev,hc,toV,asBool,hb];rfl
  ·cases h
 |build t parts =>
  obtain⟨sv,h1,h2⟩:=ZB1 rfl h hr;refine⟨sv,fun w=>ZR (s:=Q1 t (parts.map fun(i,x)=>(i,a.eval x))) rfl ?_,h2⟩;have:(parts.map fun(i,x)=>(i,a.eval x))=parts.map fun(i,x)=>(i,toV (ev (pA P R) env x)):=by simp only[hev]
  rw[this];exact h1 w
 |nilCheck x =>
  simp only[Z1U]at h;split at h
  ·rename_i d hx;cases h;exact⟨_,fun w=>by simp[execOp,hev,hx,toV],hr⟩
  ·rename_i o hx
   cases h;obtain⟨d,hd,hk⟩:=hr;have hd:(o:Option Addr)=U d:=hd;subst hd;exact⟨_,fun w=>by simp[execOp,hev,hx,toV],hk⟩
  ·rename_i f a b hx;cases h;exact⟨_,fun w=>by simp[execOp,hev,hx,toV],hr⟩
  ·rename_i t v hx;cases h;exact⟨_,fun w=>by simp[execOp,hev,hx,toV],hr⟩
  ·rename_i v hx
   cases h;obtain⟨⟨t,u,hv⟩,hk⟩:=hr;have hv:(v:Value)=.iface t u:=hv;subst hv;exact⟨_,fun w=>by simp[execOp,hev,hx,toV],hk⟩
  ·rename_i m v hx
   cases h;obtain⟨⟨t,u,hv,hn⟩,hk⟩:=hr;have hv:(v:Value)=.iface t u:=hv;subst hv;refine⟨_,fun w=>?_,hk⟩;have e:(U (U M) != U (U M))=M:=rfl;simp[execOp,hev,hx,toV,toVs,hn w]
  ·cases h
 |binOp op t x y yt =>
  have hex:∀v w,(Z0Z op t x y (toV (ev (pA P R) env x)) (toV (ev (pA P R) env y))).run P w=JG v w ->
    (execOp a.eval ⟨dst,.binOp op t x y yt,ty,pos,after,guard⟩).run P w=JG (J9 v) w:=by
   intro v w hs;refine ZR (s:=Z0Z op t x y (a.eval x) (a.eval y)) rfl ?_;rw[hev,hev];exact hs
  simp only[Z1U]at h;split at h
  ·rename_i r' hb
   cases h;obtain⟨sv,h1,h2⟩:=ZCx hb hr;exact⟨sv,fun w=>hex _ w (h1 w t x y),h2⟩
  ·cases hu:P.underlying t with
   |none =>
    have:und P t=.invalid:=by simp[und,hu]
    rw[this]at h;unfold nilS at h;cases op<;>simp[ZFT]at h
   |some d =>
    have:und P t=d:=by simp[und,hu]
    rw[this]at h;obtain⟨sv,h1,h2⟩:=ZD9 hu h hr;exact⟨sv,fun w=>hex _ w (h1 w),h2⟩
 |unOp op t x =>
  simp only[Z1U]at h;split at h
  ·rename_i b hx;cases h;refine⟨_,fun w=>ZR (s:=Op.unary .not (a.eval x)) rfl ?_,hr⟩;rw[hev,hx];rfl
  ·rename_i b hx;cases h;refine⟨_,fun w=>ZR (s:=Op.unary .not (a.eval x)) rfl ?_,hr⟩;rw[hev,hx];rfl
  ·rename_i ka n hx;cases h;refine⟨_,fun w=>ZR (s:=Op.unary .neg (a.eval x)) rfl ?_,hr⟩;rw[hev,hx];rfl
  ·rename_i ka n hx;cases h;refine⟨_,fun w=>ZR (s:=Op.unary .neg (a.eval x)) rfl ?_,hr⟩;rw[hev,hx];rfl
  ·rename_i ka n hx;cases h;refine⟨_,fun w=>ZR (s:=Op.unary .xor (a.eval x)) rfl ?_,hr⟩;rw[hev,hx];rfl
  ·cases h
 |convert src d x =>
  simp only[Z1U]at h;split at h
  ·cases h
  ·rename_i hsrc
   obtain⟨ds,hs⟩:∃ds,P.underlying src=U ds:=by
    cases hs:P.underlying src with
    |none=>rw[hs]at hsrc;exact absurd rfl hsrc
    |some ds=>exact⟨ds,rfl⟩
   split at h
   ·rename_i kd k' n hu hx
    cases h;have hu:=Z1V hu (by simp);refine⟨_,fun w=>ZR (s:=convert src d (a.eval x)) rfl ?_,hr⟩;rw[hev,hx];unfold convert;simp only[F,Zh hs,Zh hu,G,toV];rfl
   ·rename_i kd k' n hu hx
    cases h;have hu:=Z1V hu (by simp);refine⟨_,fun w=>ZR (s:=convert src d (a.eval x)) rfl ?_,hr⟩;rw[hev,hx];unfold convert;simp only[F,Zh hs,Zh hu,G,toV];rfl
   ·rename_i s hu hx
    have hu:=Z1V hu (by simp);split at h
    ·rename_i hs'
     have hs':=Z1V hs' (by simp);cases h;refine⟨_,fun w=>ZR (s:=convert src d (a.eval x)) rfl ?_,hr⟩;rw[hev,hx];unfold convert;simp only[F,Zh hs',Zh hu,G,toV];rfl
    ·cases h
   ·cases h
 |makeInterface t x =>
  simp only[Z1U]at h;split at h
  ·cases h
  ·cases h
  ·rename_i h1 h2
   cases h;have hu:P.underlying t=U (und P t):=Z1V rfl h2;refine⟨_,fun w=>ZR (s:=JY t (a.eval x)) rfl ?_,hr⟩;rw[hev];unfold JY;simp only[F,Zh hu,G,toV]
   cases hd:und P t<;>first
    |rfl
    |exact absurd hd (h1 _)
 |makeFunc fn first cap =>
  simp only[Z1U]at h;cases h;refine⟨_,fun w=>ZR (s:=Instr.makeFunc fn (first.map a.eval) (cap.map a.eval)) rfl ?_,hr⟩
  have:∀xs:Array JP,xs.map a.eval=(toVs (xs.toList.map (ev (pA P R) env))).toArray:=by
   intro xs;rw[Z1W,JR];have:toV ∘ ev (pA P R) env=a.eval:=funext fun x=>(hev x).symm;rw[this];exact JE (by simp)
  rw[this,this];rfl
 |slice t x lo hi mx =>
  simp only[Z1U]at h;cases mx with
  |some m=>cases h
  |none =>
   obtain⟨sv,h1,h2⟩:=ZBe h hr;refine⟨sv,fun w=>ZR (s:=Instr.sliceAt t (a.eval x) (lo.map a.eval) (hi.map a.eval) JN) rfl ?_,h2⟩
   have e:∀z:Option JP,z.map a.eval=(z.map (ev (pA P R) env)).map toV:=by
    intro z;cases z<;>simp[hev]
   rw[e,e,hev];exact h1 w
 |fieldAddr s x f =>
  simp only[Z1U]at h;split at h
  ·rename_i d fs hx hu
   have hu:=Z1V hu (by simp);split at h
   ·rename_i fd hf
    split at h
    ·cases h
    ·rename_i hne
     split at h
     ·cases h
     ·rename_i hsome
      cases h
      obtain⟨du,hdu⟩:∃du,P.underlying fd.type=U du:=by
       cases hs:P.underlying fd.type with
       |none=>rw[hs]at hsome;exact absurd rfl hsome
       |some ds=>exact⟨ds,rfl⟩
      obtain⟨i,hi⟩:=Z3h hdu;refine⟨_,fun w=>ZR (s:=Jn s (a.eval x) f) rfl ?_,hr⟩;rw[hev,hx];unfold Jn;simp only[F,Zh hu,G,hf,toV,J4,S,Z87 hi hne];by_cases h0:fd.offset=0
      ·rw[if_pos h0,h0,Z3H]
      ·rw[if_neg h0];rfl
   ·cases h
  ·cases h
 |field s x f =>
  simp only[Z1U]at h;split at h
  ·rename_i fs hu
   have hu:=Z1V hu (by simp);split at h
   ·rename_i fd hf
    split at h
    ·cases h
    ·rename_i hsome
     have hd:∃du,P.underlying fd.type=U du:=by
      cases hs:P.underlying fd.type with
      |none=>rw[hs]at hsome;exact absurd rfl hsome
      |some ds=>exact⟨ds,rfl⟩
     obtain⟨sv,⟨cs,hc,h1⟩,h2⟩:=Z7Z hd h hr;refine⟨sv,fun w=>ZR (s:=Q2 s (a.eval x) f) rfl ?_,h2⟩;rw[hev,hc];unfold Q2;simp only[F,Zh hu,G,hf,asAgg,S,h1]
   ·cases h
  ·cases h
 |indexAddr t x i =>
  simp only[Z1U]at h;split at h
  ·rename_i e o len cap hu hx
   have hu:=Z1V hu (by simp);split at h
   ·rename_i kk n hi
    split at h
    ·cases h
    ·rename_i hsome
     obtain⟨ie,hie⟩:∃ie,P.info? e=U ie:=by
      cases hs:P.info? e with
      |none=>rw[hs]at hsome;exact absurd rfl hsome
      |some ds=>exact⟨ds,rfl⟩
     cases h;obtain⟨d,hd,hn,hk⟩:=hr;have hd:(o:Option Addr)=U d:=hd;subst hd;refine⟨_,fun w=>ZR (s:=J8 t (a.eval x) (a.eval i)) rfl ?_,hk⟩;rw[hev,hev,hx,ZCv hi];unfold J8;have hn:0<=n/\n<((len:Nat):Int):=hn;simp only[F,asIntOf,S,G,Zh hu,toV,if_pos hn,Z0l hie]
     have:Addr.add d (J7 n*Z0O P e)=Addr.add d (Z1U.idx (pA P R) (Z0O P e) (ev (pA P R) env i) n):=by
      congr 1;unfold Z1U.idx;split
      ·rename_i k c hc
       rw[hc]at hi;cases hi;rfl
      ·split
       ·rename_i h1;rw[h1];simp[pA]
       ·rfl
     rw[this];rfl
   ·cases h
  ·rename_i m e d hu hx
   have hu:=Z1V hu (by simp);split at h
   ·cases h
   ·rename_i hsome
    obtain⟨ie,hie⟩:∃ie,P.info? e=U ie:=by
     cases hs:P.info? e with
     |none=>rw[hs]at hsome;exact absurd rfl hsome
     |some ds=>exact⟨ds,rfl⟩
    split at h
    ·rename_i kk n hi
     split at h
     ·rename_i hn
      cases h;refine⟨_,fun w=>ZR (s:=J8 t (a.eval x) (a.eval i)) rfl ?_,hr⟩;rw[hev,hev,hx,hi];unfold J8;simp only[F,asIntOf,S,G,Zh hu,toV,J4,if_pos hn,Z0l hie];by_cases h0:n=0
      ·rw[if_pos h0,h0];simp[Z3H]
      ·rw[if_neg h0];rfl
     ·cases h
    ·rename_i kk n hi
     cases h;obtain⟨hn,hk⟩:=hr;have hn:0<=n/\n<((m:Nat):Int):=hn;refine⟨_,fun w=>ZR (s:=J8 t (a.eval x) (a.eval i)) rfl ?_,hk⟩;rw[hev,hev,hx,hi];unfold J8;simp only[F,asIntOf,S,G,Zh hu,toV,J4,if_pos hn,Z0l hie];by_cases h1:Z0O P e=1
     ·rw[if_pos h1,h1,Nat.mul_one];rfl
     ·rw[if_neg h1];rfl
    ·cases h
  ·cases h
 |index t x i =>
  simp only[Z1U]at h;split at h
  ·rename_i v m e kk n hu hi
   have hu:=Z1V hu (by simp);split at h
   ·cases h
   ·rename_i hsome
    have hd:∃du,P.underlying e=U du:=by
     cases hs:P.underlying e with
     |none=>rw[hs]at hsome;exact absurd rfl hsome
     |some ds=>exact⟨ds,rfl⟩
    split at h
    ·rename_i hn
     obtain⟨du,hdu⟩:=hd;obtain⟨ie,hie⟩:=Z3h hdu;obtain⟨sv,⟨cs,hc,h1⟩,h2⟩:=Z7Z ⟨du,hdu⟩ h hr;refine⟨sv,fun w=>ZR (s:=JV t (a.eval x) (a.eval i)) rfl ?_,h2⟩;rw[hev,hev,hc,hi];unfold JV;simp only[F,asIntOf,S,G,Zh hu,toV,if_pos hn,Z0l hie,h1]
    ·cases h
  ·rename_i i' s hu hx
   have hu:=Z1V hu (by simp);split at h
   ·rename_i kk n hi
    cases h;obtain⟨hn,hk⟩:=hr;have hn:0<=n/\n<((ByteArray.size s:Nat):Int):=hn;refine⟨_,fun w=>ZR (s:=JV t (a.eval x) (a.eval i)) rfl ?_,hk⟩;rw[hev,hev,hx,ZCv hi];unfold JV;simp only[F,asIntOf,S,G,Zh hu,toV];have hlt:J7 n<ByteArray.size s:=(Int.toNat_lt hn.1).2 hn.2;rw[if_pos hn.1];have hg:s[J7 n]?=U (s[J7 n]'hlt):=by simp[hlt]
    simp only[hg,S];show _=JG (Value.int Je (strAt s (J7 n))) w;simp only[strAt,hg,Option.map_some,Option.getD_some]
   ·cases h
  ·cases h
 |extract x i =>
  simp only[Z1U]at h;split at h
  ·rename_i vs hx
   obtain⟨v,hv,rfl⟩:=map_some h;refine⟨v,fun w=>ZR (s:=Jo (a.eval x) i) rfl ?_,hr⟩;rw[hev,hx];simp[Jo,toV,toVs_getElem?,hv]
  ·cases h
 |sliceToArrayPointer t x =>
  simp only[Z1U]at h;split at h
  ·rename_i n e o len cap hu hx
   have hu:=Z1V hu (by simp);cases h;obtain⟨h1,hk⟩:=hr;have h1:n<=(len:Nat):=h1;refine⟨_,fun w=>ZR (s:=Jp t (a.eval x)) rfl ?_,hk⟩;rw[hev,hx];unfold Jp;simp only[F,Zh hu,G,toV];rw[if_neg (Nat.not_lt.2 h1)];rfl
  ·cases h
 |call c =>
  simp only[Z1U]at h;obtain⟨callee,args,ats⟩:=c;have hargs:∀l,args.toList=l->args=l.toArray:=fun l hl=>by rw[<-hl]
  split at h
  ·
   rename_i x t hc ha ht;subst hc;obtain rfl:=hargs _ ha;have ht':ats=#[t]:=by rw[<-Jf];exact ht
   subst ht'
   have key:∀v,(∀w,(JS #[t] ty #[toV (ev (pA P R) env x)]).run P w=JG v w)->∀w,(execOp a.eval ⟨dst,.call ⟨.builtin .len,[x].toArray,#[t]⟩,ty,pos,after,guard⟩).run P w=JG (J9 v) w:=by
    intro v hv w;have:=hv w;simp[execOp,JW,Jg,builtin,hev,this]
   split at h
   ·rename_i e o l cap hu hx
    have hu:=Z1V hu (by simp);cases h;refine⟨_,key _ fun w=>?_,hr⟩;rw[hx];simp[JS,Zh hu,toV,goInt];rfl
   ·rename_i s hu hx
    have hu:=Z1V hu (by simp);cases h;refine⟨_,key _ fun w=>?_,hr⟩;rw[hx];simp[JS,Zh hu,toV,goInt];rfl
   ·rename_i n e hu
    have hu:=Z1V hu (by simp);cases h;refine⟨_,key _ fun w=>?_,hr⟩;simp[JS,Zh hu,toV,goInt]
   ·cases h
  ·rename_i x t hc ha ht
   subst hc;obtain rfl:=hargs _ ha;have ht':ats=#[t]:=by rw[<-Jf];exact ht
   subst ht'
   have key:∀v,(∀w,(Ju #[t] ty #[toV (ev (pA P R) env x)]).run P w=JG v w)->∀w,(execOp a.eval ⟨dst,.call ⟨.builtin .cap,[x].toArray,#[t]⟩,ty,pos,after,guard⟩).run P w=JG (J9 v) w:=by
    intro v hv w;have:=hv w;simp[execOp,JW,Jg,builtin,hev,this]
   split at h
   ·rename_i e o l cap hu hx
    have hu:=Z1V hu (by simp);cases h;refine⟨_,key _ fun w=>?_,hr⟩;rw[hx];simp[Ju,Zh hu,toV,goInt,pA]
   ·cases h
  ·rename_i x y hc ha
   subst hc;obtain rfl:=hargs _ ha
   have key:∀v,(∀w,(Jv (toV (ev (pA P R) env x)) (toV (ev (pA P R) env y))).run P w=JG v w)->∀w,(execOp a.eval ⟨dst,.call ⟨.builtin .max,[x,y].toArray,ats⟩,ty,pos,after,guard⟩).run P w=JG (J9 v) w:=by
    intro v hv w;have:=hv w;simp[execOp,JW,Jg,builtin,hev,Builtin.max_,this]
   split at h
   ·rename_i ka n kb m hx hy
    split at h
    ·rename_i hk
     subst hk;cases h;have ex:=ZCv hx;have ey:=ZCv hy;refine⟨_,key _ fun w=>?_,hr⟩;rw[ex,ey];simp only[Jv,pA,toV];by_cases hlt:(n:Int)<m
     ·rw[if_pos hlt,Int.max_eq_right (Jw hlt)];rfl
     ·rw[if_neg hlt,Int.max_eq_left (Int.not_lt.1 hlt)];rfl
    ·cases h
   ·cases h
  ·rename_i x y hc ha
   subst hc;obtain rfl:=hargs _ ha
   have key:∀v,(∀w,(Jx (toV (ev (pA P R) env x)) (toV (ev (pA P R) env y))).run P w=JG v w)->∀w,(execOp a.eval ⟨dst,.call ⟨.builtin .min,[x,y].toArray,ats⟩,ty,pos,after,guard⟩).run P w=JG (J9 v) w:=by
    intro v hv w;have:=hv w;simp[execOp,JW,Jg,builtin,hev,Builtin.min_,this]
   split at h
   ·rename_i ka n kb m hx hy
    split at h
    ·rename_i hk
     subst hk;cases h;have ex:=ZCv hx;have ey:=ZCv hy;refine⟨_,key _ fun w=>?_,hr⟩;rw[ex,ey];simp only[Jx,pA,toV];by_cases hlt:(m:Int)<n
     ·rw[if_pos hlt,Int.min_eq_right (Jw hlt)];rfl
     ·rw[if_neg hlt,Int.min_eq_left (Int.not_lt.1 hlt)];rfl
    ·cases h
   ·cases h
  ·cases h
 |_=>cases h
end Go.Vcg
end
section
namespace Go.Vcg
variable{P:Program}{R:Z6I}
theorem Z45{w:Z}{d:Addr}:∀(svs:List (SV pC)) (i:Nat) (r:Prop),Z8w (pA P R) w d i svs r->(∀j sv,svs[j]?=U sv->w.cell? (d.add (i+j))=U (toV sv))/\r
 |[],_,_,h=>⟨by simp,h⟩
 |v::vs,i,r,h=>by
  obtain⟨h1,h2⟩:=h;obtain⟨h3,h4⟩:=Z45 vs (i+1) r h2;refine⟨fun j sv hj=>?_,h4⟩;cases j with
  |zero =>
   simp at hj;subst hj;by_cases h0:i=0
   ·rw[if_pos h0]at h1
    rw[h0,Nat.add_zero,Z3H];exact h1
   ·rw[if_neg h0]at h1
    exact h1
  |succ j =>
   simp at hj;have:=h3 j sv hj;rw[show i+(j+1)=i+1+j from by omega];exact this
theorem Z4K{t:Jc}{d:Addr}{w:Z}{vs:List Value}(hag:Z6O (und P t)=E)(hsz:Z0O P t=vs.length)(hc:∀j v,vs[j]?=U v->w.cell? (d.add j)=U v) :
  (JA t d).run P w=JG (.agg vs.toArray) w:=by
 have hu:P.underlying t=U (und P t):=Z1V rfl (by intro he;rw[he]at hag;cases hag);obtain⟨i,hi⟩:=Z3h hu;unfold JA;simp only[F,Z5f hu,G,hag,if_true,Z0l hi,hsz];rw[run_loadCells_list _ d vs hc];rfl
theorem Z6k{t:Jc}{d:Addr}{w:Z}{v:Value}{du:TypeDesc}(hu:P.underlying t=U du)(hag:Z6O (und P t)=M)(hc:w.cell? d=U v) :
  (JA t d).run P w=JG v w:=by
 have hd:und P t=du:=by simp[und,hu]
 unfold JA;simp only[F,Z5f hu,G,<-hd,hag,Ja,if_false,run_load,hc]
theorem Z2c{t:Jc}{d:Addr}{w:Z}{sv:SV pC}{du:TypeDesc}(hu:P.underlying t=U du)
  (h:match Z3W P t,sv with
    | .cell _,sv=>w.cell? d=U (toV sv)
    | .agg cs,.agg svs=>svs.length=cs.length/\∀j sv,svs[j]?=U sv->w.cell? (d.add j)=U (toV sv)
    | .big n,.big m l=>m=n/\ZH w d n l
    |_,_=>False):(JA t d).run P w=JG (toV sv) w:=by
 split at h
 ·rename_i c hs
  exact Z6k hu (Z5x hs) h
 ·rename_i cs svs hs
  obtain⟨hag,hlen⟩:=Z3d hs;obtain⟨h1,h2⟩:=h;refine Z4K hag (by rw[Zp];omega) fun j v hj=>?_;rw[toVs_getElem?]at hj;cases hsj:svs[j]? with
  |none=>rw[hsj]at hj;cases hj
  |some sv=>rw[hsj]at hj;cases hj;exact h2 j sv hsj
 ·rename_i n m l hs
  obtain⟨rfl,h1,h2⟩:=h;obtain⟨hag,hlen⟩:=Z9k hs
  have:=Z4K (w:=w) (d:=d) (vs:=Array.toList l) hag (by rw[<-hlen,<-h1];simp) fun j v hj=>by
   have hlt:j<m:=by
    rw[<-h1];have:=(List.getElem?_eq_some_iff.1 hj).1;simpa using this
   rw[h2 j hlt];simpa using hj
  simpa[toV]using this
 ·cases h
theorem ZBB{cs:List Z71}{f:List (SV pC)->Prop}(h:Z60 (pA P R) cs f):∃svs,svs.length=cs.length/\f svs:=Z35 cs f h
theorem Z58{t:Jc}{d:Addr}{w:Z}{k:SV pC->Prop}(h:ZEB (pA P R) P t d w k) :
  ∃sv,(JA t d).run P w=JG (toV sv) w/\k sv/\∀w' r,Z6B (pA P R) P t d w' sv r->(JA t d).run P w'=JG (toV sv) w'/\r:=by
 unfold ZEB at h;split at h
 ·exact h.elim
 ·rename_i hsome
  obtain⟨du,hu⟩:∃du,P.underlying t=U du:=by
   cases hs:P.underlying t with
   |none=>rw[hs]at hsome;exact absurd rfl hsome
   |some ds=>exact⟨ds,rfl⟩
  split at h
  ·rename_i c hs
   obtain⟨sv,h1,h2⟩:=Z3f _ _ h;refine⟨sv,Z2c hu (by rw[hs];exact h1),h2,fun w' r hr=>?_⟩;unfold Z6B at hr;rw[hs]at hr;exact⟨Z2c hu (by rw[hs];exact hr.1),hr.2⟩
  ·rename_i cs hs
   obtain⟨svs,hl,h⟩:=ZBB h;obtain⟨h1,h2⟩:=Z45 _ _ _ h;simp only[Jy]at h1;refine⟨.agg svs,Z2c hu (by rw[hs];exact⟨hl,h1⟩),h2,fun w' r hr=>?_⟩;unfold Z6B at hr;rw[hs]at hr;obtain⟨h3,h4⟩:=Z45 _ _ _ hr;simp only[Jy]at h3;exact⟨Z2c hu (by rw[hs];exact⟨hl,h3⟩),h4⟩
  ·rename_i n hs
   obtain⟨l,h1,h2⟩:=h;refine⟨.big n l,Z2c hu (by rw[hs];exact⟨rfl,h1⟩),h2,fun w' r hr=>?_⟩;unfold Z6B at hr;rw[hs]at hr;exact⟨Z2c hu (by rw[hs];exact⟨rfl,hr.1⟩),hr.2⟩
theorem Z5i{o:JQ}{ρ:JP->Value}{s:Sem Value}(h:ZEk o ρ=U s):execOp ρ o=(do pure (J9 (<-s))):=by
 obtain⟨dst,op,ty,pos,after,guard⟩:=o;cases op with
 |call c =>
  obtain⟨callee,args,ats⟩:=c;simp only[ZEk]at h;cases callee with
  |builtin b=>cases b<;>first
   |(cases h;rfl)
   |(cases h;done)
  |_=>cases h
 |_=>first
  |(cases h;rfl)
  |cases h
theorem Z6Y{o:JQ}{env:Env pC}{a:JL}{w:Z}(hrep:Rep env a){k:SV pC->Prop}(h:ZCV (pA P R) P o (ev (pA P R) env) w k) :
  ∃sv,(execOp a.eval o).run P w=JG (J9 (toV sv)) w/\k sv /\
   ∀w' r,Z4Y (pA P R) P o (ev (pA P R) env) sv w' r->(execOp a.eval o).run P w'=JG (J9 (toV sv)) w'/\r:=by
 have hev:∀x,a.eval x=toV (ev (pA P R) env x):=fun x=>hrep.eval x;have hfun:(fun x=>toV (ev (pA P R) env x))=a.eval:=funext fun x=>(hev x).symm;unfold ZCV at h;split at h
 ·rename_i t x ho
  split at h
  ·rename_i d hx
   obtain⟨sv,h1,h2,h3⟩:=Z58 h;have hex:execOp a.eval o=(do pure (J9 (<-JB t (a.eval x)))):=by unfold execOp;simp only[ho]
   have hl:∀w,(JB t (a.eval x)).run P w=(JA t d).run P w:=fun w=>by
    rw[hev,hx];simp[JB,toV,J4]
   refine⟨sv,ZR hex (by rw[hl];exact h1),h2,fun w' r hr=>?_⟩;unfold Z4Y at hr;simp only[ho,hx]at hr;obtain⟨h4,h5⟩:=h3 w' r hr;exact⟨ZR hex (by rw[hl];exact h4),h5⟩
  ·rename_i oo hx
   obtain⟨d,ho',h⟩:=h;obtain⟨sv,h1,h2,h3⟩:=Z58 h;have hex:execOp a.eval o=(do pure (J9 (<-JB t (a.eval x)))):=by unfold execOp;simp only[ho]
   have hl:∀w,(JB t (a.eval x)).run P w=(JA t d).run P w:=fun w=>by
    rw[hev,hx];simp[JB,toV,J4,ho']
   refine⟨sv,ZR hex (by rw[hl];exact h1),h2,fun w' r hr=>?_⟩;unfold Z4Y at hr;simp only[ho,hx]at hr;obtain⟨d',ho2,hr⟩:=hr
   obtain rfl:d=d':=by
    have e:=ho'.symm.trans ho2;injection e
   obtain⟨h4,h5⟩:=h3 w' r hr;exact⟨ZR hex (by rw[hl];exact h4),h5⟩
  ·exact h.elim
 ·rename_i hno
  simp only[pA]at h;cases hs:ZEk o (fun x=>toV (ev (pA P R) env x))with
  |none=>have h':=h;simp only[pA]at hs;rw[hs]at h';exact h'.elim
  |some s =>
   have h':=h;simp only[pA]at hs;rw[hs]at h';obtain⟨v,h1,h2⟩:=h';obtain⟨sv,h3,h4⟩:=Z47 (P:=P) (R:=R) _ _ h2;have h3:v=toV sv:=h3;subst h3;have hs':ZEk o a.eval=U s:=by rw[<-hfun];exact hs
   refine⟨sv,ZR (Z5i hs') h1,h4,fun w' r hr=>?_⟩;unfold Z4Y at hr;split at hr
   ·rename_i t x ho;exact absurd ho (hno t x)
   ·simp only[pA]at hr
    rw[hs]at hr;exact⟨ZR (Z5i hs') hr.1,hr.2⟩
end Go.Vcg
end
section
namespace Go.Vcg
variable{P:Program}{R:Z6I}
theorem Z8m{d:Addr}:∀(svs:List (SV pC)) (i:Nat) (w:Z) (k:Z->Prop),ZGi (pA P R) d i svs w k->∃w',(storeCells d (toVs svs) i).run P w=JG () w'/\(∀sv∈svs,(toV sv).oneCell'=E)/\k w'
 |[],i,w,k,h=>⟨w,rfl,by simp,h⟩
 |v::vs,i,w,k,h=>by
  obtain⟨⟨h1,⟨u,hu⟩,h2⟩,h⟩:=h;obtain⟨w',h3,h4,h5⟩:=Z8m vs (i+1) _ k (h _ rfl)
  have hd:(if i=0 then d else(pA P R).dadd d ((pA P R).nl i))=Addr.add d i:=by
   by_cases h0:i=0
   ·rw[if_pos h0,h0,Z3H]
   ·rw[if_neg h0];rfl
  rw[hd]at hu h2 h3;refine⟨w',?_,List.forall_mem_cons.2 ⟨h1,h4⟩,h5⟩;simp only[toVs,storeCells,F,run_store P w _ _ _ h1,hu,h2];exact h3
theorem Z6e(cs:List Value):toVs (cs.map (Z2T (pA P R)))=cs:=by
 rw[Z1W,JR];have:(toV ∘ Z2T (pA P R))=id:=funext fun v=>Z2A v;rw[this];simp
theorem Z8g{t:Jc}{v:Value}{w:Z}:(newVar t v).run P w=JG ⟨w.heap.size,0,JN⟩ (w.alloc (.cells v.cells t)):=by
 simp[newVar,newRow]
section
variable{o:JQ}{a:JL}{w:Z}{next:JL->Z->Prop}{Q:Q6->JL->Z->Prop}
theorem Z1b{v:Value}{w':Z}(h:(execOp a.eval o).run P w=JG (J9 v) w')(hn:next (a.put o.dst v) w'):o.wp P a w next Q:=by
 unfold Oper.wp;rw[h];exact hn
theorem ZCp{w':Z}(h:(execOp a.eval o).run P w=JG Q8 w')(hn:next (a.put o.dst undef) w'):o.wp P a w next Q:=by
 unfold Oper.wp;rw[h];exact hn
theorem Z70{f:Jz}{args:Array Value}{w':Z}(h:(execOp a.eval o).run P w=JG (.enter f args) w')(hn:N P f args w' fun e w''=>(∃ch,e=JI ch/\Q (.panic ch) a w'')\/∃v,e=Y v/\next (a.put o.dst v) w''):o.wp P a w next Q:=by
 unfold Oper.wp;rw[h]
 exact hn.mono fun e w'' hh=>by
  rcases hh with⟨ch,he,hv⟩|⟨v,he,hv⟩
  ·subst he;exact hv
  ·subst he;exact hv
theorem ZA2{ρ:JP->Value}{s:Sem Unit}{w w':Z}(ho:execOp ρ o=(do s;pure Q8))(h:s.run P w=JG () w') :
  (execOp ρ o).run P w=JG Q8 w':=by
 rw[ho];simp[h]
theorem ZEj{ρ:JP->Value}{s:Sem Unit}(h:semU o ρ=U s):execOp ρ o=(do s;pure Q8):=by
 obtain⟨dst,op,ty,pos,after,guard⟩:=o
 cases op<;>first
  |(cases h;rfl)
  |(cases h;done)
end
theorem Z2N{f:Jz}{args:Array Value}(h:Z8I P f=E)(w:Z):(Jb f args).run P w=JG (.enter f args) w:=by
 unfold Z8I at h;cases hf:P.funcs[f]? with
 |none=>rw[hf]at h;cases h
 |some fn =>
  rw[hf]at h;simp only[JF,bne_iff_ne,ne_eq]at h;unfold Jb;have hb:fn.body≠JN:=by rintro hb;rw[hb]at h;cases h.1
  simp[hf,h.2,hb]
theorem ZFH{sh:Shape}{e:J0}{k:SV pC->Prop}(h:Z3g (pA P R) sh fun sv=>(pA P R).endEq e sv (k sv)):∃sv,e=Y (toV sv)/\k sv :=
 Z47 (P:=P) (R:=R) _ _ h
theorem ZHc{sh:Shape}{v:Value}{k:SV pC->Prop}(h:Z3g (pA P R) sh fun sv=>(pA P R).valEq v sv (k sv)):∃sv,v=toV sv/\k sv :=
 Z47 (P:=P) (R:=R) _ _ h
theorem Z6g(z:Value):toVs (Z6G (pA P R) z)=z.cells.toList:=by
 unfold Z6G;split
 ·rw[Z6e];rfl
 ·rename_i h
  simp only[toVs,Z2A]
  cases z<;>first
   |rfl
   |exact absurd rfl (h _)
theorem ZFr(n:Nat)(l:List (SV pC)):toVs (A n l).flatten=(A n (toVs l)).flatten:=by
 simp[Z1W,List.map_flatten]
theorem ZC7{α:Type}(l:List α):∀(n i:Nat),i<n*l.length->(A n l).flatten[i]?=l[i%l.length]?
 |0,i,h=>by simp at h
 |n+1,i,h=>by
  rw[List.replicate_succ,List.flatten_cons];by_cases hi:i<l.length
  ·rw[List.getElem?_append_left hi,Nat.mod_eq_of_lt hi]
  ·have hle:l.length<=i:=Nat.not_lt.1 hi
   rw[List.getElem?_append_right hle,ZC7 l n (i-l.length) (by rw[Nat.add_mul,Nat.one_mul]at h;omega),<-Nat.mod_eq_sub_mod hle]
theorem ZBs(l:Array Value)(n:Nat):((Q3 (n*l.size)).map fun i=>l[i%l.size]!)=((A n l.toList).flatten).toArray:=by
 have hlen:(A n l.toList).flatten.length=n*l.size:=by simp
 refine Array.ext (by simp) fun i h1 h2=>?_;have hi:i<n*l.size:=by simpa using h1
 have hpos:0<l.size:=by
  rcases Nat.eq_zero_or_pos l.size with h|h
  ·rw[h,Nat.mul_zero]at hi;omega
  ·exact h
 have hm:i%l.size<l.size:=Nat.mod_lt _ hpos;have:=ZC7 l.toList n i (by simpa using hi);rw[List.getElem?_eq_getElem (by rw[hlen];exact hi)]at this;simp only[Array.getElem_map,Array.getElem_range,List.getElem_toArray];have e:l.toList[i%l.toList.length]?=U l[i%l.size]:=by simp[hm]
 rw[e]at this;simp only[Option.some.injEq]at this;rw[this];simp[hm]
theorem Z4r{t e:Jc}{n:Nat}{z:Value}{cells:Array Value}{parts:Array (Nat×Value)}{ie:TypeInfo}{w:Z}(hu:P.underlying t=U (.slice e))(hie:P.info? e=U ie)
  (hz:Z4s P e=U z) (hsz:z.cells.size=Z0O P e) (hn:n*Z0O P e<=4096)
  (hf:Q5 (fun i=>U (i*Z0O P e,Z0O P e)) ((A n z.cells.toList).flatten).toArray parts.toList=U cells) :
  (JO t n parts).run P w=JG (.slice (U ⟨w.heap.size,0,JN⟩) n n) (w.alloc (.cells cells e)):=by
 unfold JO;simp only[F,Zh hu,G,Z0l hie];have hbig:¬n*Z0O P e>2^24:=by omega
 rw[if_neg hbig];by_cases h0:n*Z0O P e=0
 ·have hnil:(A n z.cells.toList).flatten=[]:=by
    rw[<-List.length_eq_zero_iff];simp[hsz,h0]
  rw[hnil]at hf;have e0:(Array.map (fun x=>(default:Value)) (Q3 0))=#[]:=by simp
  simp[h0,e0,hf,newRow]
 ·have hr:=ZBs z.cells n
  rw[hsz]at hr;rw[<-hr]at hf;simp[h0,ZCq hz,hsz,hf,newRow]
theorem ZD0{o:JQ}{env:Env pC}{a:JL}{w:Z}(hrep:Rep env a){k:SV pC->Z->Prop}(h:evOp (pA P R) P o (ev (pA P R) env) w k)
  {next:JL->Z->Prop} {Q:Q6->JL->Z->Prop} (hR:∀ch w',R.fin (JI ch) w'->Q (.panic ch) a w') (hk:∀sv w',k sv w'->next (a.put o.dst (toV sv)) w'):o.wp P a w next Q:=by
 have hev:∀x,a.eval x=toV (ev (pA P R) env x):=fun x=>hrep.eval x;have hfun:(fun x=>toV (ev (pA P R) env x))=a.eval:=funext fun x=>(hev x).symm
 have ran:(pA P R).run o (ev (pA P R) env) w (fun v w=>Z3g (pA P R) (Z8j P o.type) fun sv=>(pA P R).valEq v sv (k sv w))->o.wp P a w next Q:=by
  intro h;simp only[pA]at h;cases hs:ZEk o (fun x=>toV (ev (pA P R) env x))with
  |none=>have h':=h;simp only[pA]at hs;rw[hs]at h';exact h'.elim
  |some s =>
   have h':=h;simp only[pA]at hs;rw[hs]at h';obtain⟨v,w',h1,h2⟩:=h';obtain⟨sv,h3,h4⟩:=ZHc (P:=P) (R:=R) h2;subst h3;have hs':ZEk o a.eval=U s:=by rw[<-hfun];exact hs
   exact Z1b (ZR (Z5i hs') h1) (hk _ _ h4)
 have ranR:(pA P R).run o (ev (pA P R) env) w (fun v w=>k (.raw v) w)->o.wp P a w next Q:=by
  intro h;simp only[pA]at h;cases hs:ZEk o (fun x=>toV (ev (pA P R) env x))with
  |none=>have h':=h;simp only[pA]at hs;rw[hs]at h';exact h'.elim
  |some s =>
   have h':=h;simp only[pA]at hs;rw[hs]at h';obtain⟨v,w',h1,h2⟩:=h';have hs':ZEk o a.eval=U s:=by rw[<-hfun];exact hs
   exact Z1b (ZR (Z5i hs') h1) (hk _ _ h2)
 have ranU:(pA P R).runU o (ev (pA P R) env) w (fun w=>k (.tup []) w)->o.wp P a w next Q:=by
  intro h;simp only[pA]at h;cases hs:semU o (fun x=>toV (ev (pA P R) env x))with
  |none=>have h':=h;simp only[pA]at hs;rw[hs]at h';exact h'.elim
  |some s =>
   have h':=h;simp only[pA]at hs;rw[hs]at h';obtain⟨w',h1,h2⟩:=h';have hs':semU o a.eval=U s:=by rw[<-hfun];exact hs
   exact ZCp (ZA2 (ZEj hs') h1) (hk _ _ h2)
 have panicC:∀x,o.op=.panic x->∀t v,ev (pA P R) env x=.iface t v->(pA P R).panic (.iface t v) w->o.wp P a w next Q:=by
  intro x ho t v hx h
  have h:(match R.pan with
   |true=>R.fin (JI (ZEP (toV (.iface t v)))) w
   |false=>False):=h
  split at h
  case h_2=>exact h.elim
  have he:a.eval x=.iface t (toV v):=by rw[hev,hx];rfl
  have hex:(execOp a.eval o).run P w=.halt (.panic (.iface t (toV v))) w:=by
   simp only[execOp,ho,he];rfl
  unfold Oper.wp;rw[hex];exact hR _ _ h
 unfold evOp at h;simp only at h;split at h
 ·
  rename_i t ho;have hex:execOp a.eval o=(do pure (J9 (<-Ji t E (J1 #[])))):=by unfold execOp;simp only[ho]
  have key:∀z,Z4s P t=U z->(Ji t E (J1 #[])).run P w=JG (JJ (U ⟨w.heap.size,0,JN⟩)) (w.alloc (.cells z.cells t)):=by
   intro z hz;unfold Ji;simp only[F,ZCq hz,G,Z8g,S]
  split at h
  ·rename_i cs hz
   split at h
   ·have h':=h _ _ ⟨rfl,rfl⟩
    refine Z1b (ZR hex (key _ hz)) ?_;have:=hk _ _ h';rw[Z6e]at this;simpa[Jh,toV]using this
   ·have h':=h _ _ ⟨rfl,rfl⟩
    exact Z1b (ZR hex (key _ hz)) (hk _ _ h')
  ·rename_i z hn hz
   have h':=h _ _ ⟨rfl,rfl⟩;refine Z1b (ZR hex (key _ hz)) ?_;have:=hk _ _ h'
   have hc:z.cells=#[z]:=by
    cases z<;>first
     |rfl
     |exact absurd rfl (hn _)
   simp only[toVs,Z2A,toV]at this;rw[hc];exact this
  ·exact h.elim
 ·
  rename_i t x ho;have hex:execOp a.eval o=(do pure (J9 (<-Jt t (a.eval x)))):=by unfold execOp;simp only[ho]
  have key:(Jt t (a.eval x)).run P w=JG (JJ (U ⟨w.heap.size,0,JN⟩)) (w.alloc (.cells (a.eval x).cells t)):=by
   unfold Jt;simp only[F,G,Z8g,S]
  split at h
  ·rename_i n l hx
   have h':=h _ _ ⟨rfl,rfl⟩;refine Z1b (ZR hex key) ?_;rw[hev,hx];exact hk _ _ h'
  ·split at h
   ·rename_i cs hcs
    obtain⟨hrw,h⟩:=Z2w _ _ h;have h':=h _ _ ⟨rfl,rfl⟩;refine Z1b (ZR hex key) ?_;rw[hev,Z6m (hrw _ (by simp)) hcs];exact hk _ _ h'
   ·exact h.elim
 ·
  rename_i t n parts ho;have hex:execOp a.eval o=(do pure (J9 (<-JO t n (parts.map fun(i,x)=>(i,a.eval x))))):=by unfold execOp;simp only[ho]
  split at h
  ·rename_i e hu
   have hu:=Z1V hu (by simp);split at h
   ·rename_i z hz
    split at h
    ·rename_i hc
     split at h
     ·rename_i cells hb
      obtain⟨hrw,h⟩:=Z2w _ _ h;have h':=h _ _ ⟨rfl,rfl⟩;refine Z1b (ZR hex ?_) (hk _ _ h')
      have hie:∃ie,P.info? e=U ie:=by
       cases hi:P.info? e with
       |none=>simp[Z4s,hi]at hz
       |some ie=>exact⟨ie,rfl⟩
      obtain⟨ie,hie⟩:=hie;have hfill:=Z2Q (place:=fun i=>U (i*Z0O P e,Z0O P e)) (ev:=ev (pA P R) env) parts.toList _ cells hrw hb;have hl:(parts.map fun(i,x)=>(i,a.eval x)).toList=parts.toList.map fun(i,x)=>(i,toV (ev (pA P R) env x)):=by simp[hev]
      have hzs:(toVs (Z6G (pA P R) z)).length=Z0O P e:=by rw[Zp];exact hc.1
      rw[<-hl,ZFr]at hfill;rw[Z6g]at hzs hfill;exact Z4r hu hie hz (by simpa using hzs) (Nat.le_trans hc.2.1 (by decide)) hfill
     ·exact h.elim
    ·split at h
     ·rename_i hn1
      obtain⟨rfl,hlen,hle⟩:=hn1;split at h
      ·rename_i r hb
       obtain⟨hrw,h⟩:=Z2w _ _ h
       have hie:∃ie,P.info? e=U ie:=by
        cases hi:P.info? e with
        |none=>simp[Z4s,hi]at hz
        |some ie=>exact⟨ie,rfl⟩
       obtain⟨ie,hie⟩:=hie;have hzc:(pA P R).lconst z=z.cells:=by cases z<;>rfl
       have hzs:z.cells.size=Z0O P e:=by
        have h1:=Z6g (P:=P) (R:=R) z;have h2:=congrArg Jj h1;rw[Zp,hlen]at h2;simpa using h2.symm
       rw[hzc]at hb;obtain⟨out,ho',hk'⟩:=Z2F (place:=fun i=>U (i*Z0O P e,Z0O P e)) (ev:=ev (pA P R) env) (n:=Z0O P e) parts.toList z.cells r hrw hzs hb h;have h':=hk' _ _ ⟨rfl,rfl⟩;have hl:(parts.map fun(i,x)=>(i,a.eval x)).toList=parts.toList.map fun(i,x)=>(i,toV (ev (pA P R) env x)):=by simp[hev]
       rw[<-hl]at ho';refine Z1b (ZR hex (Z4r hu hie hz hzs (by omega) ?_)) (hk _ _ h');simpa using ho'
      ·exact h.elim
     ·exact h.elim
   ·exact h.elim
  ·exact h.elim
 ·
  rename_i t x y ho;have hex:execOp a.eval o=(do JZ t (a.eval x) (a.eval y);pure Q8):=by unfold execOp;simp only[ho]
  split at h
  ·rename_i d hx
   split at h
   ·rename_i cs hcs
    split at h
    ·rename_i hlen
     obtain⟨w',h1,h2,h3⟩:=Z8m _ _ _ _ h;refine ZCp (ZA2 hex ?_) (hk _ _ h3)
     have hrw:ZCu (ev (pA P R) env y):=by
      cases hy:ev (pA P R) env y with
      |raw v =>
       rw[hy]at hcs;cases hcs;exact h2 (.raw v) (by simp)
      |_=>trivial
     obtain⟨i,hi⟩:=Option.isSome_iff_exists.1 hlen.2;have hc:=Z6m hrw hcs;rw[hev,hev,hx];unfold JZ;simp only[toV,J4,F,S,G];unfold storeVar;simp only[F,Z0l hi,G,hc,List.size_toArray,Zp,hlen.1];simpa using h1
    ·exact h.elim
   ·exact ranU h
  ·exact h.elim
 ·exact ranU h
 ·exact ranU h
 ·exact ranU h
 ·
  rename_i c ho
  have hargs:∀l:List JP,(l.map (ev (pA P R) env)).map toV=l.map a.eval:=fun l=>by
   rw[JR];exact congrArg (fun f=>QA f l) hfun
  split at h
  ·exact ran h
  ·rename_i f hc
   have hex:∀fn first cap,a.eval f=.func (.func fn) first cap->(execOp a.eval o).run P w=(Jb fn (first++c.args.map a.eval++cap)).run P w:=by
    intro fn first cap hf
    simp[execOp,ho,JW,hc,Deferred.ofValue,hf,Jg]
   split at h
   ·rename_i fn first cap hf
    have hf':a.eval f=.func (.func fn) (toVs first).toArray (toVs cap).toArray:=by rw[hev,hf];rfl
    have hall:(toVs (first++c.args.toList.map (ev (pA P R) env)++cap)).toArray=(toVs first).toArray++c.args.map a.eval++(toVs cap).toArray:=by
     refine JE ?_;simp only[Z1W,List.map_append,hargs];simp
    split at h
    ·rename_i hen
     have h:N P fn (toVs (first++c.args.toList.map (ev (pA P R) env)++cap)).toArray w (fun e w=>R.call e w (Z3g (pA P R) (Z8j P o.type) fun sv=>(pA P R).endEq e sv (k sv w))):=h;rw[hall]at h;refine Z70 ((hex _ _ _ hf').trans (Z2N hen w)) (h.mono fun e w'' he=>?_);rcases Z6I.call_or he with⟨ch,he,hv⟩|he
     ·exact J3 ⟨ch,he,hR _ _ hv⟩
     obtain⟨sv,h1,h2⟩:=ZFH (P:=P) (R:=R) he;exact JH ⟨_,h1,hk _ _ h2⟩
    ·split at h
     ·obtain⟨v,w',h1,h2⟩:=h
      obtain⟨sv,h3,h4⟩:=ZHc (P:=P) (R:=R) h2;subst h3;rw[hall]at h1;exact Z1b ((hex _ _ _ hf').trans h1) (hk _ _ h4)
     ·exact h.elim
   ·rename_i m v hf
    obtain⟨t,y,fn,recv,hv,hm,hen,h⟩:=h
    have hf':a.eval f=.func (.method m) #[.iface t y] #[]:=by
     rw[hev,hf,<-hv];rfl
    have hall:(toVs (c.args.toList.map (ev (pA P R) env))).toArray=c.args.map a.eval:=by
     rw[Z1W,hargs];exact JE (by simp)
    rw[hall]at h
    have hex:(execOp a.eval o).run P w=(Jb fn (#[recv]++c.args.map a.eval)).run P w:=by
     have hget:((#[Jk t y]++c.args.map a.eval)[0]?:Option Value)=U (.iface t y):=by rw[J5 (by simp)];rfl
     have hext:(#[Jk t y]++c.args.map a.eval).extract 1 (#[Jk t y]++c.args.map a.eval).size=c.args.map a.eval :=
      JE (by simp;exact JT (by simp))
     simp only[execOp,ho,JW,hc,Deferred.ofValue,hf',F,S,G,Jg,hget,hext,callMethod,run_program,hm]
    refine Z70 (hex.trans (Z2N hen w)) (h.mono fun e w'' he=>?_);rcases Z6I.call_or he with⟨ch,he,hv⟩|he
    ·exact J3 ⟨ch,he,hR _ _ hv⟩
    obtain⟨sv,h1,h2⟩:=ZFH (P:=P) (R:=R) he;exact JH ⟨_,h1,hk _ _ h2⟩
   ·rename_i v hf
    obtain⟨fn,first,cap,hv,hen,h⟩:=h;have hf':a.eval f=.func (.func fn) first cap:=by rw[hev,hf,<-hv];rfl
    have hall:first++(toVs (c.args.toList.map (ev (pA P R) env))).toArray++cap=first++c.args.map a.eval++cap:=by
     rw[Z1W,hargs];congr 2;exact JE (by simp)
    rw[hall]at h;refine Z70 ((hex _ _ _ hf').trans (Z2N hen w)) (h.mono fun e w'' he=>?_);rcases Z6I.call_or he with⟨ch,he,hv⟩|he
    ·exact J3 ⟨ch,he,hR _ _ hv⟩
    obtain⟨sv,h1,h2⟩:=ZFH (P:=P) (R:=R) he;exact JH ⟨_,h1,hk _ _ h2⟩
   ·exact h.elim
  ·rename_i x m hc
   split at h
   ·rename_i v hx
    obtain⟨t,y,f,recv,hv,hm,hen,h⟩:=h;have hx':a.eval x=.iface t y:=by rw[hev,hx,<-hv];rfl
    have hall:(toVs (c.args.toList.map (ev (pA P R) env))).toArray=c.args.map a.eval:=by
     rw[Z1W,hargs];exact JE (by simp)
    rw[hall]at h
    have hex:(execOp a.eval o).run P w=(Jb f (#[recv]++c.args.map a.eval)).run P w:=by
     have hget:((#[a.eval x]++c.args.map a.eval)[0]?:Option Value)=U (a.eval x):=by rw[J5 (by simp)];rfl
     have hext:(#[a.eval x]++c.args.map a.eval).extract 1 (#[a.eval x]++c.args.map a.eval).size=c.args.map a.eval :=
      JE (by simp;exact JT (by simp))
     rw[hx']at hget hext;simp only[execOp,ho,JW,hc,F,S,G,Jg,hx',hget,hext,callMethod,run_program,hm]
    refine Z70 (hex.trans (Z2N hen w)) (h.mono fun e w'' he=>?_);rcases Z6I.call_or he with⟨ch,he,hv⟩|he
    ·exact J3 ⟨ch,he,hR _ _ hv⟩
    obtain⟨sv,h1,h2⟩:=ZFH (P:=P) (R:=R) he;exact JH ⟨_,h1,hk _ _ h2⟩
   ·exact h.elim
 all_goals first
  |(rename_i x ho;generalize hx:ev (pA P R) env x=y at h;cases y<;>first|exact h.elim|exact panicC x ho _ _ hx h)
  |exact ran h
  |exact ranR h
  |exact h.elim
end Go.Vcg
end
section
namespace Go.Vcg
variable{P:Program}{R:Z6I}
theorem Rep.put{env:Env pC}{a:JL}(h:Rep env a){dst:Option Jm}{sv:SV pC}(hd:∀d,dst=U d->d<a.tmps.size):Rep (ZDL env dst sv) (a.put dst (toV sv)):=by
 cases dst with
 |none=>exact h
 |some d =>
  intro t;have hlt:=hd d rfl;simp only[ZDL,Z3Z];by_cases ht:d=t
  ·subst ht
   simp[Act.put,hlt]
  ·have:J2 d t=M:=by
     cases hb:J2 d t with
     |false=>rfl
     |true=>exact absurd (D hb) ht
   simp only[this,cond_false];rw[<-h t];simp[Act.put,Array.getElem?_setIfInBounds_ne ht]
theorem Rep.refine{env:Env pC}{a:JL}(h:Rep env a){t:Jm}{sv:SV pC}(hs:toV (Z3Z env t)=toV sv):Rep ((t,sv)::env) a:=by
 intro u;simp only[Z3Z];cases hb:J2 t u with
 |true=>simp only[cond_true];rw[<-D hb,<-hs];exact h t
 |false=>simp only[cond_false];exact h u
theorem Rep.tmp?{env:Env pC}{a:JL}(h:Rep env a){t:Jm}(hn:toV (Z3Z env t)≠undef):a.tmps[t]?=U (toV (Z3Z env t)):=by
 have:=h t;rw[B]at this;cases ht:a.tmps[t]? with
 |none=>rw[ht]at this;exact absurd this.symm hn
 |some v=>rw[ht]at this;simpa using this
theorem Z53{ops:Array JQ}{o:JQ}{env:Env pC}{a:JL}(hrep:Rep env a){yes no:Env pC->Prop}(h:ZA8 (pA P R) ops o env yes no) :
  (Region.wanted o (JX ops a.tmps)=E/\∃env',Rep env' a/\yes env')\/(Region.wanted o (JX ops a.tmps)=M/\∃env',Rep env' a/\no env'):=by
 unfold ZA8 at h;unfold Region.wanted;cases hg:o.guard with
 |none=>rw[hg]at h;exact J3 ⟨rfl,env,hrep,h⟩
 |some jw =>
  obtain⟨j,want⟩:=jw;rw[hg]at h;simp only at h ⊢;cases ht:(ops[j]?).bind (·.dst)with
  |none =>
   rw[ht]at h;refine JH ⟨?_,env,hrep,h⟩;simp[JX,ht]
  |some t =>
   rw[ht]at h;simp only at h
   have hy:∀b:Bool,toV (Z3Z env t)=.bool b->JX ops a.tmps j=U b:=by
    intro b hb;have:=hrep.tmp? (t:=t) (by rw[hb];simp[undef]);simp[JX,ht,this,hb]
   split at h
   ·rename_i b hb
    have:=hy b (by rw[hb];rfl);rw[this];by_cases hbw:b=want
    ·subst hbw
     simp only[beq_self_eq_true,if_true]at h;exact J3 ⟨by simp,env,hrep,h⟩
    ·have hne:(b == want)=M:=by simpa using hbw
     rw[hne]at h;exact JH ⟨by simpa using hbw,env,hrep,h⟩
   ·rename_i b hb
    obtain⟨h1,h2⟩:=h;have hv:toV (Z3Z env t)=.bool (den b):=by rw[hb];rfl
    rw[hy _ hv];cases hd:den b with
    |true =>
     have h1:=Z2s _ _ _ h1 hd;have hr:Rep ((t,.blit E)::env) a:=hrep.refine (by rw[hv,hd];rfl);cases want with
     |true=>exact J3 ⟨rfl,_,hr,h1⟩
     |false=>exact JH ⟨rfl,_,hr,h1⟩
    |false =>
     have h2:=Z2s _ _ _ h2 hd;have hr:Rep ((t,.blit M)::env) a:=hrep.refine (by rw[hv,hd];rfl);cases want with
     |true=>exact JH ⟨rfl,_,hr,h2⟩
     |false=>exact J3 ⟨rfl,_,hr,h2⟩
   ·rename_i hb
    refine JH ⟨?_,env,hrep,h⟩;have hu:a.tmps.getD t undef=J1 #[]:=by rw[hrep t,hb];rfl
    have hn:JX ops a.tmps j=JN:=by
     unfold JX;rw[ht];simp only[Jd];rw[B]at hu;cases hx:a.tmps[t]? with
     |none=>rfl
     |some v=>rw[hx]at hu;simp at hu;subst hu;rfl
    rw[hn];rfl
   ·exact h.elim
theorem Z8F{o:JQ}{env:Env pC}{a:JL}{w:Z}(hrep:Rep env a){k:SV pC->Z->Prop}(h:doOp (pA P R) P o env w k)
  {next:JL->Z->Prop} {Q:Q6->JL->Z->Prop} (hR:∀ch w',R.fin (JI ch) w'->Q (.panic ch) a w') (hk:∀sv w',k sv w'->next (a.put o.dst (toV sv)) w'):o.wp P a w next Q:=by
 unfold doOp at h;split at h
 ·rename_i r hp
  obtain⟨sv,h1,h2⟩:=Z6V hrep hp h;exact Z1b (h1 w) (hk _ _ h2)
 ·split at h
  ·obtain⟨sv,h1,h2,_⟩:=Z6Y hrep h
   exact Z1b h1 (hk _ _ h2)
  ·exact ZD0 hrep h hR hk
def ZDp(n:Nat)(o:JQ):Prop:=∀d,o.dst=U d->d<n
def Keep(W:List Jm)(a a':JL):Prop:=∀t,t ∉ W->a'.tmps.getD t undef=a.tmps.getD t undef
theorem Keep.refl(W:List Jm)(a:JL):Keep W a a:=fun _ _=>rfl
theorem Keep.trans{W:List Jm}{a b c:JL}(h:Keep W a b)(k:Keep W b c):Keep W a c:=fun t ht=>(k t ht).trans (h t ht)
theorem Keep.mono{W W':List Jm}{a b:JL}(h:Keep W a b)(hs:∀t∈W,t∈W'):Keep W' a b:=fun t ht=>h t fun hm=>ht (hs t hm)
theorem Keep.put{W:List Jm}{a:JL}{dst:Option Jm}{v:Value}(h:∀d,dst=U d->d∈W):Keep W a (a.put dst v):=by
 intro t ht;have hne:dst≠U t:=fun he=>ht (h t he);rw[B,Z1A hne,B]
theorem Z2a{ops:Array JQ}{n:Nat}{W:List Jm}{Q:Q6->JL->Z->Prop}:∀(l:List JQ) (env:Env pC) (a:JL) (w:Z) (k:Env pC->Z->Prop),Rep env a->a.tmps.size=n ->
  (∀o∈l,ZDp n o)->(∀o∈l,∀d,o.dst=U d->d∈W)->Z6A (pA P R) P ops l env w k->(∀ch(a':JL) w',a'.defers=a.defers->Keep W a a'->R.fin (JI ch) w'->Q (.panic ch) a' w') ->
  (∀env' a' w',Rep env' a'->a'.tmps.size=n->a'.defers=a.defers->Keep W a a'->k env' w'->Q .normal a' w')->wpList P ops Q l a w
 |[],env,a,w,k,hrep,hn,hd,hW,h,hp,hk=>hk env a w hrep hn rfl (Keep.refl _ _) h
 |o::rest,env,a,w,k,hrep,hn,hd,hW,h,hp,hk=>by
  unfold Z6A at h;unfold wpList;have hdo:ZDp n o:=hd o (by simp);rcases Z53 hrep h with⟨hw,env',hrep',h⟩|⟨hw,env',hrep',h⟩
  ·rw[if_pos hw]
   refine J3 (Z8F hrep' h (fun ch w' hf=>hp ch a w' rfl (Keep.refl _ _) hf) fun sv w' hr=>?_);refine Z2a rest _ _ _ k (hrep'.put fun d hd'=>by rw[hn];exact hdo d hd') (by rw[put_size,hn]) (fun o ho=>hd o (by simp[ho])) (fun o ho=>hW o (by simp[ho])) hr (fun ch a' w' hd' hkp hf=>hp ch a' w' (by rw[hd',Zo]) ((Keep.put (hW o (by simp))).trans hkp) hf) ?_;intro env'' a'' w'' h1 h2 h3 h5 h4;exact hk _ _ _ h1 h2 (by rw[h3,Zo]) ((Keep.put (hW o (by simp))).trans h5) h4
  ·rw[if_neg (by simp[hw])]
   have hrep2:Rep (ZDL env' o.dst (.tup [])) (a.put o.dst undef):=hrep'.put (sv:=.tup []) fun d hd'=>by rw[hn];exact hdo d hd'
   refine Z2a rest _ _ _ k hrep2 (by rw[put_size,hn]) (fun o ho=>hd o (by simp[ho])) (fun o ho=>hW o (by simp[ho])) h (fun ch a' w' hd' hkp hf=>hp ch a' w' (by rw[hd',Zo]) ((Keep.put (hW o (by simp))).trans hkp) hf) ?_;intro env'' a'' w'' h1 h2 h3 h5 h4;exact hk _ _ _ h1 h2 (by rw[h3,Zo]) ((Keep.put (hW o (by simp))).trans h5) h4
def ZDO(p:ZFs pC):Prop:=∀w r,p.again w r->r
theorem Z5v{ops:Array JQ}{j:Nat}{w:Z}:∀(ps:List (ZFs pC)) (r:Prop),(∀p∈ps,ZDO p)->Z3a ops j w ps r ->
  (∀p∈ps,(Z2R ops p.i).getD j M=M->∃r',p.again w r')/\r
 |[],r,_,h=>⟨by simp,h⟩
 |p::ps,r,hok,h=>by
  unfold Z3a at h;have hps:=fun q hq=>hok q (J6 p hq);split at h
  ·rename_i hd
   obtain⟨h1,h2⟩:=Z5v ps r hps h;refine⟨fun q hq hqd=>?_,h2⟩;rcases List.mem_cons.1 hq with rfl|hq
   ·rw[hd]at hqd;cases hqd
   ·exact h1 q hq hqd
  ·have hr:=hok p (by simp) _ _ h
   obtain⟨h1,h2⟩:=Z5v ps r hps hr;refine⟨fun q hq hqd=>?_,h2⟩;rcases List.mem_cons.1 hq with rfl|hq
   ·exact⟨_,h⟩
   ·exact h1 q hq hqd
theorem Z76:∀(rs:List Prop),ZDa (pA P R) rs->∀r∈rs,r
 |[],h,_,_=>h.elim
 |[r],h,r',hr=>by rw[List.mem_singleton.1 hr];exact h
 |r::r2::rs,h,r',hr=>by
  obtain⟨h1,h2⟩:=h;rcases List.mem_cons.1 hr with rfl|hr
  ·exact h1
  ·exact Z76 (r2::rs) h2 r' hr
theorem Z2p{ops:Array JQ}:∀(rs:List Nat) (i:Nat),Z3L P ops rs=U i->i∈rs/\ZG0 ops i=E/\∃o,ops[i]?=U o
 |[],i,h=>by cases h
 |r::rs,i,h=>by
  unfold Z3L at h;split at h
  ·rename_i o ho
   split at h
   ·rename_i hq
    simp only[JF]at hq;cases h;exact⟨by simp,hq.2,o,ho⟩
   ·obtain⟨h1,h2⟩:=Z2p rs i h
    exact⟨J6 _ h1,h2⟩
  ·obtain⟨h1,h2⟩:=Z2p rs i h
   exact⟨J6 _ h1,h2⟩
def Z4v(P:Program)(ops:Array JQ)(listed:Array Bool)(a:JL)(pend:List (ZFs pC))(pv:List (Nat×Value)):Prop :=
 ∀q∈pv,listed.getD q.1 M=E/\((∀w,YA P ops q.1 q.2 a w)\/∃p∈pend,p.i=q.1/\∀w r,p.again w r->YA P ops q.1 q.2 a w)
theorem Z4v.step{ops:Array JQ}{listed:Array Bool}{a:JL}{pend:List (ZFs pC)}{pv:List (Nat×Value)}(hs:ssa ops=E)(hc:Z1x ops listed)(h:Z4v P ops listed a pend pv)
  {j:Nat} {oj:JQ} (hj:j∈Region.ready .any ops listed) (hoj:ops[j]?=U oj) (hf:ZG0 ops j=E) (u:Value):Z4v P ops (listed.setIfInBounds j E) (a.put oj.dst u) pend pv:=by
 intro q hq;obtain⟨h1,h2⟩:=h q hq;obtain⟨_,hlj⟩:=Z3o hj;refine⟨Jq h1,?_⟩;rcases h2 with h2|⟨p,hp,hpi,h2⟩
 ·exact J3 fun w=>(h2 w).put_later hs hc hoj (J3 hf) hlj h1
 ·exact JH ⟨p,hp,hpi,fun w r hr=>(h2 w r hr).put_later hs hc hoj (J3 hf) hlj h1⟩
theorem Z4v.event{ops:Array JQ}{listed:Array Bool}{a:JL}{pend:List (ZFs pC)}{pv:List (Nat×Value)}(hs:ssa ops=E)(hc:Z1x ops listed)(h:Z4v P ops listed a pend pv)
  {j:Nat} {oj:JQ} (hj:j∈Region.ready .any ops listed) (hoj:ops[j]?=U oj) (u:Value) :
  Z4v P ops (listed.setIfInBounds j E) (a.put oj.dst u) (pend.filter fun p=> !(Z2R ops p.i).getD j M) (pv.filter fun p=> !(Z2R ops p.1).getD j M):=by
 intro q hq;obtain⟨hq,hqd⟩:=List.mem_filter.1 hq
 have hqd:(Z2R ops q.1).getD j M=M:=by
  cases hb:(Z2R ops q.1).getD j M with
  |false=>rfl
  |true=>rw[hb]at hqd;cases hqd
 obtain⟨h1,h2⟩:=h q hq;obtain⟨_,hlj⟩:=Z3o hj;refine⟨Jq h1,?_⟩;rcases h2 with h2|⟨p,hp,hpi,h2⟩
 ·exact J3 fun w=>(h2 w).put_later hs hc hoj (JH hqd) hlj h1
 ·refine JH ⟨p,List.mem_filter.2 ⟨hp,?_⟩,hpi,fun w r hr=>(h2 w r hr).put_later hs hc hoj (JH hqd) hlj h1⟩
  rw[hpi,hqd];rfl
theorem Z1w{ops:Array JQ}{n:Nat}{W:List Jm}{Q:Q6->JL->Z->Prop}(hs:ssa ops=E)(hd:∀o∈ops,ZDp n o)(hW:∀o∈ops,∀d,o.dst=U d->d∈W):∀(fuel:Nat) (listed:Array Bool) (pend:List (ZFs pC)) (pv:List (Nat×Value)) (env:Env pC) (a:JL) (w:Z) (k:Env pC->Z->Prop),
  listed.size=ops.size->Z1x ops listed->Rep env a->a.tmps.size=n->(∀p∈pend,ZDO p)->Z4v P ops listed a pend pv ->
  Z3p (pA P R) P ops fuel listed pend env w k->(∀ch(a':JL) w',a'.defers=a.defers->Keep W a a'->R.fin (JI ch) w'->Q (.panic ch) a' w') ->
  (∀env' a' w',Rep env' a'->a'.tmps.size=n->a'.defers=a.defers->Keep W a a'->k env' w'->Q .normal a' w')->wpG P ops Q fuel listed pv a w
 |0,_,_,_,_,_,_,_,_,_,_,_,_,_,h,_,_=>h.elim
 |fuel+1,listed,pend,pv,env,a,w,k,hsz,hcl,hrep,hn,hok,hpr,h,hp,hk=>by
  unfold Z3p at h;unfold wpG;split at h
  ·rename_i hr
   exact J3 ⟨hr,hk env a w hrep hn rfl (Keep.refl _ _) h⟩
  ·rename_i rs hne
   split at h
   ·rename_i i hi
    obtain⟨him,hfi,o,ho⟩:=Z2p _ _ hi;rw[ho]at h;simp only at h;obtain⟨hilt,hiu⟩:=Z3o him;have hdo:∀d,o.dst=U d->d<a.tmps.size:=fun d hd'=>by rw[hn];exact hd o (H ho) d hd'
    have his:i<listed.size:=by rw[hsz];exact hilt
    have hsz':(listed.setIfInBounds i E).size=ops.size:=by simpa using hsz
    have hself:∀(v:Value)(u:Value)(w:Z),YA P ops i u a w->YA P ops i u (a.put o.dst v) w:=by
     intro v u w hy;refine hy.of_same hs fun o' ho' d hd'=>(Z1A fun hdst=>?_).symm;rw[ho]at ho';cases ho';exact((Z3s hs ho).2 d hdst).1 hd'
    rcases Z53 hrep h with⟨hw,env',hrep',h⟩|⟨hw,env',hrep',h⟩
    ·split at h
     ·rename_i r hpo
      obtain⟨sv,h1,h2⟩:=Z6V hrep' hpo h;have hya:∀w,YA P ops i (toV sv) a w:=fun w=>⟨o,ho,J3 ⟨hw,h1 w⟩⟩;refine JH (J3 ⟨i,o,toV sv,him,ho,hfi,hya w,?_⟩);refine Z1w hs hd hW fuel _ pend _ _ _ w k hsz' (hcl.set him) (hrep'.put hdo) (by rw[put_size,hn]) hok ?_ h2 (fun ch a' w' hd' hkp hf=>hp ch a' w' (by rw[hd',Zo]) ((Keep.put (hW o (H ho))).trans hkp) hf) ?_
      ·intro q hq
       rcases List.mem_cons.1 hq with rfl|hq
       ·exact⟨Z10 his,J3 fun w=>hself _ _ _ (hya w)⟩
       ·exact hpr.step hs hcl him ho hfi _ q hq
      ·intro env'' a'' w'' h3 h4 h5 h7 h6
       exact hk _ _ _ h3 h4 (by rw[h5,Zo]) ((Keep.put (hW o (H ho))).trans h7) h6
     ·obtain⟨sv,h1,h2,h3⟩:=Z6Y hrep' h
      have hya:YA P ops i (toV sv) a w:=⟨o,ho,J3 ⟨hw,h1⟩⟩;refine JH (J3 ⟨i,o,toV sv,him,ho,hfi,hya,?_⟩);refine Z1w hs hd hW fuel _ _ _ _ _ w k hsz' (hcl.set him) (hrep'.put hdo) (by rw[put_size,hn]) ?_ ?_ h2 (fun ch a' w' hd' hkp hf=>hp ch a' w' (by rw[hd',Zo]) ((Keep.put (hW o (H ho))).trans hkp) hf) ?_
      ·exact List.forall_mem_cons.2 ⟨fun w r hr=>(h3 w r hr).2,hok⟩
      ·intro q hq
       rcases List.mem_cons.1 hq with rfl|hq
       ·refine⟨Z10 his,JH ⟨⟨i,Z4Y (pA P R) P o (ev (pA P R) env') sv⟩,List.mem_cons_self,rfl,fun w r hr=>hself _ _ _ ⟨o,ho,J3 ⟨hw,(h3 w r hr).1⟩⟩⟩⟩
       ·obtain⟨h4,h5⟩:=hpr.step hs hcl him ho hfi (toV sv) q hq
        refine⟨h4,?_⟩;rcases h5 with h5|⟨p,hp,h5⟩
        ·exact J3 h5
        ·exact JH ⟨p,J6 _ hp,h5⟩
      ·intro env'' a'' w'' h3 h4 h5 h7 h6
       exact hk _ _ _ h3 h4 (by rw[h5,Zo]) ((Keep.put (hW o (H ho))).trans h7) h6
    ·have hya:∀w,YA P ops i undef a w:=fun w=>⟨o,ho,JH ⟨hw,rfl⟩⟩
     refine JH (J3 ⟨i,o,undef,him,ho,hfi,hya w,?_⟩);have hrep2:Rep (ZDL env' o.dst (.tup [])) (a.put o.dst undef):=hrep'.put (sv:=.tup []) hdo;refine Z1w hs hd hW fuel _ pend _ _ _ w k hsz' (hcl.set him) hrep2 (by rw[put_size,hn]) hok ?_ h (fun ch a' w' hd' hkp hf=>hp ch a' w' (by rw[hd',Zo]) ((Keep.put (hW o (H ho))).trans hkp) hf) ?_
     ·intro q hq
      rcases List.mem_cons.1 hq with rfl|hq
      ·exact⟨Z10 his,J3 fun w=>hself _ _ _ (hya w)⟩
      ·exact hpr.step hs hcl him ho hfi _ q hq
     ·intro env'' a'' w'' h3 h4 h5 h7 h6
      exact hk _ _ _ h3 h4 (by rw[h5,Zo]) ((Keep.put (hW o (H ho))).trans h7) h6
   ·refine JH (JH ⟨hne,fun j hj=>?_⟩)
    obtain⟨hjlt,hju⟩:=Z3o hj;have h:=Z76 _ h _ (List.mem_map.2 ⟨j,hj,rfl⟩);obtain⟨oj,hoj⟩:∃oj,ops[j]?=U oj:=⟨_,Array.getElem?_eq_getElem hjlt⟩;simp only[hoj]at h;have hdo:∀d,oj.dst=U d->d<a.tmps.size:=fun d hd'=>by rw[hn];exact hd oj (H hoj) d hd'
    have hsz':(listed.setIfInBounds j E).size=ops.size:=by simpa using hsz
    have fin:∀(env':Env pC)(sv:SV pC)(w':Z),Rep env' a ->
      Z3a ops j w' pend (Z3p (pA P R) P ops fuel (listed.setIfInBounds j E) (pend.filter fun p=> !(Z2R ops p.i).getD j M) (ZDL env' oj.dst sv) w' k) ->
      (∀p∈pv,(Z2R ops p.1).getD j M=M->YA P ops p.1 p.2 (a.put oj.dst (toV sv)) w') /\
        wpG P ops Q fuel (listed.setIfInBounds j E) (pv.filter fun p=> !(Z2R ops p.1).getD j M) (a.put oj.dst (toV sv)) w':=by
     intro env' sv w' hrep' hag;obtain⟨h1,h2⟩:=Z5v _ _ hok hag;have hpr':=hpr.event hs hcl hj hoj (toV sv);refine⟨fun q hq hqd=>?_,?_⟩
     ·rcases (hpr' q (List.mem_filter.2 ⟨hq,by rw[hqd];rfl⟩)).2 with h3|⟨p,hp,hpi,h3⟩
      ·exact h3 w'
      ·obtain⟨r',hr'⟩:=h1 p (List.mem_filter.1 hp).1 (by rw[hpi];exact hqd)
       exact h3 w' r' hr'
     ·refine Z1w hs hd hW fuel _ _ _ _ _ w' k hsz' (hcl.set hj) (hrep'.put hdo) (by rw[put_size,hn]) (fun p hp=>hok p (List.mem_filter.1 hp).1) hpr' h2 (fun ch a' w' hd' hkp hf=>hp ch a' w' (by rw[hd',Zo]) ((Keep.put (hW oj (H hoj))).trans hkp) hf) ?_
      intro env'' a'' w'' h3 h4 h5 h7 h6;exact hk _ _ _ h3 h4 (by rw[h5,Zo]) ((Keep.put (hW oj (H hoj))).trans h7) h6
    unfold wpOp;simp only[hoj];rcases Z53 hrep h with⟨hw,env',hrep',h⟩|⟨hw,env',hrep',h⟩
    ·rw[if_pos hw]
     exact J3 (Z8F hrep' h (fun ch w' hf=>hp ch a w' rfl (Keep.refl _ _) hf) fun sv w' hr=>fin env' sv w' hrep' hr)
    ·rw[if_neg (by simp[hw])]
     exact fin env' (.tup []) w hrep' h
end Go.Vcg
end
section
namespace Go.Vcg
variable{P:Program}{R:Z6I}
theorem Z9S{c:Code}{Q:Q6->JL->Z->Prop}{a:JL}{w:Z}(I:Nat->JL->Z->Prop){n:Nat}(h₀:I n a w)
  (round:∀n a w,I n a w->c.wp P (Exit.then (fun a' w'=>∃m,m<n/\I m a' w') Q) a w):(Code.loop c).wp P Q a w:=by
 intro b k cs
 have key:∀n a w,I n a w->∃e a' w',Q e a' w'/\Arrives P (lone (b.at a (.code c :: .inLoop c::k)) cs w) b k cs e a' w':=by
  intro n
  induction n using Nat.strongRecOn with
  |_ n ih =>
   intro a w hI;obtain⟨e,a₁,w₁,hq,harr⟩:=round n a w hI b (.inLoop c::k) cs;cases e with
   |normal =>
    obtain⟨m,hlt,hI₁⟩:=hq;obtain⟨e₂,a₂,w₂,hq₂,harr₂⟩:=ih m hlt a₁ w₁ hI₁;exact⟨e₂,a₂,w₂,hq₂,.of_steps (Steps.trans harr (.one step_inLoop)) harr₂⟩
   |exit id=>exact⟨_,a₁,w₁,hq,.pass (x:=.inLoop c) rfl (fun _ _=>J3 (by simp)) harr⟩
   |goto l=>exact⟨_,a₁,w₁,hq,.pass (x:=.inLoop c) rfl (fun _ _=>J3 (by simp)) harr⟩
   |ret=>exact⟨_,a₁,w₁,hq,.pass (x:=.inLoop c) rfl (fun _ _=>J3 (by simp)) harr⟩
   |panic ch=>exact⟨_,a₁,w₁,hq,.pass (x:=.inLoop c) rfl (fun _ _=>J3 (by simp)) harr⟩
   |outgrown=>exact⟨_,a₁,w₁,hq,.pass (x:=.inLoop c) rfl (fun _ _=>J3 (by simp)) harr⟩
 obtain⟨e,a',w',hq,harr⟩:=key n a w h₀;exact⟨e,a',w',hq,.of_steps (.one step_loop) harr⟩
def InC:Z71->SV pC->Prop
 | .int k,sv=>∃n:Int,sv=.int k n
 | .bool,sv=>∃b:Bool,sv=.bool (.var b)
 | .str,sv=>∃s:ByteArray,sv=.str s
 | .ptr,sv=>∃o:Option Addr,sv=.ptr o
 | .slice,sv=>∃(o:Option Addr)(l c:Nat),sv=.slice o l c
 | .map,sv=>∃m:Option Nat,sv=.map m
 | .raw,sv=>∃v:Value,sv=.raw v
 | .addr,sv=>∃d:Addr,sv=.addr d
def InCs:List Z71->List (SV pC)->Prop
 |[],svs=>svs=[]
 |c::cs,svs=>∃v vs,svs=v::vs/\InC c v/\InCs cs vs
def In1:Shape1->SV pC->Prop
 | .cell c,sv=>InC c sv
 | .agg cs,sv=>∃vs,sv=.agg vs/\InCs cs vs
 | .big n,sv=>∃l:Array Value,sv=.big n l
def InT:List Shape1->List (SV pC)->Prop
 |[],svs=>svs=[]
 |s::ss,svs=>∃v vs,svs=v::vs/\In1 s v/\InT ss vs
theorem ZBv:∀(c:Z71) (f:SV pC->Prop) (sv:SV pC),ZGL c f->InC c sv->f sv
 | .int _,f,_,h,⟨n,e⟩=>e ▸ h n
 | .bool,f,_,h,⟨n,e⟩=>e ▸ h n
 | .str,f,_,h,⟨n,e⟩=>e ▸ h n
 | .ptr,f,_,h,⟨n,e⟩=>e ▸ h n
 | .slice,f,_,h,⟨o,l,c,e⟩=>e ▸ h o l c
 | .map,f,_,h,⟨n,e⟩=>e ▸ h n
 | .raw,f,_,h,⟨n,e⟩=>e ▸ h n
 | .addr,f,_,h,⟨n,e⟩=>e ▸ h n
theorem Z9f:∀(cs:List Z71) (f:List (SV pC)->Prop) (svs:List (SV pC)),ZBw cs f->InCs cs svs->f svs
 |[],f,_,h,e=>by cases e;exact h
 |c::cs,f,_,h,⟨v,vs,e,h1,h2⟩=>by
  subst e;exact Z9f cs (fun vs=>f (v::vs)) vs (ZBv c (fun v=>ZBw cs fun vs=>f (v::vs)) v h h1) h2
theorem ZFC:∀(s:Shape1) (f:SV pC->Prop) (sv:SV pC),ZH5 s f->In1 s sv->f sv
 | .cell c,f,sv,h,hi=>ZBv c f sv h hi
 | .agg cs,f,_,h,⟨vs,e,hi⟩=>by subst e;exact Z9f cs (fun vs=>f (.agg vs)) vs h hi
 | .big n,f,_,h,⟨l,e⟩=>e ▸ h l
theorem Z8s:∀(ss:List Shape1) (f:List (SV pC)->Prop) (svs:List (SV pC)),ZDZ ss f->InT ss svs->f svs
 |[],f,_,h,e=>by cases e;exact h
 |s::ss,f,_,h,⟨v,vs,e,h1,h2⟩=>by
  subst e;exact Z8s ss (fun vs=>f (v::vs)) vs (ZFC s (fun v=>ZDZ ss fun vs=>f (v::vs)) v h h1) h2
theorem Z9g:∀(c:Z71) (sv:SV pC),(∃(T:Type) (I:ZGz c T),(ZAm c I sv).isSome)->∃sv',InC c sv'/\toV sv'=toV sv/\∀(T:Type) (I:ZGz c T),ZAm c I sv'=ZAm c I sv
 |c,sv,⟨T,I,h⟩=>by
  cases c with
  |int k =>
   cases sv<;>simp only[ZAm]at h<;>first
    |(cases h;done)
    |(split at h
      ·rename_i hk;subst hk;exact⟨.int k _,⟨_,rfl⟩,rfl,fun T I=>rfl⟩
      ·cases h)
  |bool =>
   cases sv<;>simp only[ZAm]at h<;>first
    |(cases h;done)
    |exact⟨.bool (.var (den _)),⟨_,rfl⟩,rfl,fun T I=>rfl⟩
    |exact⟨.bool (.var _),⟨_,rfl⟩,rfl,fun T I=>rfl⟩
  |str=>cases sv<;>simp only[ZAm]at h<;>first
   |(cases h;done)
   |exact⟨.str _,⟨_,rfl⟩,rfl,fun T I=>rfl⟩
  |ptr=>cases sv<;>simp only[ZAm]at h<;>first
   |(cases h;done)
   |exact⟨.ptr _,⟨_,rfl⟩,rfl,fun T I=>rfl⟩
   |exact⟨.ptr (U _),⟨_,rfl⟩,rfl,fun T I=>rfl⟩
  |slice=>cases sv<;>simp only[ZAm]at h<;>first
   |(cases h;done)
   |exact⟨.slice _ _ _,⟨_,_,_,rfl⟩,rfl,fun T I=>rfl⟩
  |map=>cases sv<;>simp only[ZAm]at h<;>first
   |(cases h;done)
   |exact⟨.map _,⟨_,rfl⟩,rfl,fun T I=>rfl⟩
  |raw=>exact⟨.raw (toV sv),⟨_,rfl⟩,rfl,fun T I=>by cases sv<;>rfl⟩
  |addr=>cases sv<;>simp only[ZAm]at h<;>first
   |(cases h;done)
   |exact⟨.addr _,⟨_,rfl⟩,rfl,fun T I=>rfl⟩
theorem Z89:∀(cs:List Z71) (svs:List (SV pC)),(∃(T:Type) (I:ZDP cs T),(ZAy cs I svs).isSome)->∃svs',InCs cs svs'/\toVs svs'=toVs svs/\∀(T:Type) (I:ZDP cs T),ZAy cs I svs'=ZAy cs I svs
 |[],[],_=>⟨[],rfl,rfl,fun _ _=>rfl⟩
 |[],v::vs,⟨T,I,h⟩=>by cases h
 |c::cs,[],⟨T,I,h⟩=>by cases h
 |c::cs,v::vs,⟨T,I,h⟩=>by
  simp only[ZAy]at h;cases hc:ZAm c I v with
  |none=>rw[hc]at h;cases h
  |some I' =>
   rw[hc]at h;obtain⟨v',h1,h2,h3⟩:=Z9g c v ⟨_,I,by rw[hc];rfl⟩;obtain⟨vs',h4,h5,h6⟩:=Z89 cs vs ⟨T,I',h⟩;refine⟨v'::vs',⟨v',vs',rfl,h1,h4⟩,by simp only[toVs,h2,h5],fun T I=>?_⟩;simp only[ZAy];rw[show ZAm c I v'=ZAm c I v from h3 _ I];cases ZAm c I v with
   |none=>rfl
   |some J=>exact h6 T J
theorem ZDd:∀(s:Shape1) (sv:SV pC),(∃(T:Type) (I:Inv1 s T),(ZF9 s I sv).isSome)->∃sv',In1 s sv'/\toV sv'=toV sv/\∀(T:Type) (I:Inv1 s T),ZF9 s I sv'=ZF9 s I sv
 | .cell c,sv,h=>Z9g c sv h
 | .agg cs,sv,⟨T,I,h⟩=>by
   cases sv<;>simp only[ZF9]at h<;>first
    |(cases h;done)
    |(obtain⟨vs',h1,h2,h3⟩:=Z89 cs _ ⟨T,I,h⟩
      exact⟨.agg vs',⟨vs',rfl,h1⟩,by simp only[toV,h2],fun T I=>h3 T I⟩)
 | .big n,sv,⟨T,I,h⟩=>by
   cases sv<;>simp only[ZF9]at h<;>first
    |(cases h;done)
    |(split at h
      ·rename_i hk;subst hk;exact⟨.big n _,⟨_,rfl⟩,rfl,fun T I=>rfl⟩
      ·cases h)
theorem Z77:∀(ss:List Shape1) (svs:List (SV pC)),(∃(T:Type) (I:ZGI ss T) (w:Z),(Z9U ss I svs w).isSome)->∃svs',InT ss svs'/\toVs svs'=toVs svs/\∀(T:Type) (I:ZGI ss T) (w:Z),Z9U ss I svs' w=Z9U ss I svs w
 |[],[],_=>⟨[],rfl,rfl,fun _ _ _=>rfl⟩
 |[],v::vs,⟨T,I,w,h⟩=>by cases h
 |s::ss,[],⟨T,I,w,h⟩=>by cases h
 |s::ss,v::vs,⟨T,I,w,h⟩=>by
  simp only[Z9U]at h;cases hc:ZF9 s I v with
  |none=>rw[hc]at h;cases h
  |some I' =>
   rw[hc]at h;obtain⟨v',h1,h2,h3⟩:=ZDd s v ⟨_,I,by rw[hc];rfl⟩;obtain⟨vs',h4,h5,h6⟩:=Z77 ss vs ⟨T,I',w,h⟩;refine⟨v'::vs',⟨v',vs',rfl,h1,h4⟩,by simp only[toVs,h2,h5],fun T I w=>?_⟩;simp only[Z9U];rw[show ZF9 s I v'=ZF9 s I v from h3 _ I];cases ZF9 s I v with
   |none=>rfl
   |some J=>exact h6 T J w
theorem Z7o{o:Option Prop}(h:ZFk o):o.isSome:=by cases o<;>first|rfl|cases h
theorem ZC8{e1 e2:Env pC}{t:Nat}:Z3Z (e1++e2) t=if(e1.any fun p=>J2 p.1 t)then Z3Z e1 t else Z3Z e2 t:=by
 induction e1 with
 |nil=>simp[Z3Z]
 |cons p e1 ih =>
  obtain⟨u,v⟩:=p;simp only[List.cons_append,Z3Z,Jr];by_cases hb:J2 u t=E
  ·simp[hb]
  ·have hb:J2 u t=M:=Bool.eq_false_iff.2 hb
   simp only[hb,cond_false,Bool.false_or];exact ih
theorem ZC9:∀(ts:List Jm) (vs vs':List (SV pC)) (t:Nat),toVs vs=toVs vs'->toV (Z3Z (ts.zip vs) t)=toV (Z3Z (ts.zip vs') t)
 |[],_,_,_,_=>rfl
 |_::_,[],[],_,_=>rfl
 |_::_,[],_::_,_,h=>by simp[toVs]at h
 |_::_,_::_,[],_,h=>by simp[toVs]at h
 |u::ts,v::vs,v'::vs',t,h=>by
  simp only[toVs,List.cons.injEq]at h;simp only[JK,Z3Z];cases J2 u t with
  |true=>exact h.1
  |false=>exact ZC9 ts vs vs' t h.2
theorem ZDc:∀(ts:List Jm) (vs:List (SV pC)) (t:Nat),vs.length=ts.length->((ts.zip vs).any fun p=>J2 p.1 t)=ts.any fun u=>J2 u t
 |[],_,_,_=>rfl
 |u::ts,[],_,h=>by cases h
 |u::ts,v::vs,t,h=>by
  simp only[JK,Jr];rw[ZDc ts vs t (by simpa using h)]
theorem ZCD{env env':Env pC}{a a':JL}{live written:List Jm}{svs:List (SV pC)}(hr:Rep env a)(hr':Rep env' a')
  (hlen:svs.length=live.length) (hcar:toVs svs=toVs (live.map (Z3Z env'))) (hkeep:∀t,t ∉ written->a'.tmps.getD t undef=a.tmps.getD t undef) :
  Rep (Z7M (pA P R) (fun t=>a'.tmps.getD t undef) live svs written env) a':=by
 intro t;unfold Z7M;rw[List.append_assoc,ZC8,ZDc live svs t hlen];split
 ·rename_i hmem
  rw[ZC9 live svs _ t hcar];obtain⟨u,hu,hb⟩:=List.any_eq_true.1 hmem
  have key:∀(ts:List Jm),(∃u∈ts,J2 u t=E)->toV (Z3Z (ts.zip (ts.map (Z3Z env'))) t)=toV (Z3Z env' t):=by
   intro ts
   induction ts with
   |nil=>rintro⟨u,hu,_⟩;cases hu
   |cons x ts ih =>
    rintro⟨u,hu,hb⟩;simp only[Js,JK,Z3Z];cases hx:J2 x t with
    |true=>rw[D hx];rfl
    |false =>
     refine ih ⟨u,?_,hb⟩;rcases List.mem_cons.1 hu with rfl|hu
     ·rw[hx]at hb;cases hb
     ·exact hu
  rw[key live ⟨u,hu,hb⟩];exact hr' t
 ·rw[ZC8]
  split
  ·rename_i hmem
   have key:∀(ws:List Jm),(∃u∈ws,J2 u t=E)->toV (Z3Z (ws.map fun u=>(u,SV.raw (C:=pC) ((pA P R).junk (fun t=>a'.tmps.getD t undef) u))) t)=a'.tmps.getD t undef:=by
    intro ws
    induction ws with
    |nil=>rintro⟨u,hu,_⟩;cases hu
    |cons x ws ih =>
     rintro⟨u,hu,hb⟩;simp only[Js,Z3Z];cases hx:J2 x t with
     |true=>rw[D hx];rfl
     |false =>
      refine ih ⟨u,?_,hb⟩;rcases List.mem_cons.1 hu with rfl|hu
      ·rw[hx]at hb;cases hb
      ·exact hu
   rw[key written];obtain⟨p,hp,hb⟩:=List.any_eq_true.1 hmem;obtain⟨u,hu,rfl⟩:=List.mem_map.1 hp;exact⟨u,hu,hb⟩
  ·rename_i hno
   rw[hkeep t ?_]
   ·exact hr t
   ·intro hmem
    apply hno;refine List.any_eq_true.2 ⟨(t,_),List.mem_map.2 ⟨t,hmem,rfl⟩,?_⟩;exact Q0 t
structure Post (n:Nat) (W:List Jm) (K:Kont pC) (a:JL) (Q:Q6->JL->Z->Prop):Prop where
 nrm:∀env' a' w',Rep env' a'->a'.tmps.size=n->a'.defers=a.defers->Keep W a a'->K.nrm env' w'->Q .normal a' w'
 exit:∀i env' a' w',Rep env' a'->a'.tmps.size=n->a'.defers=a.defers->Keep W a a'->K.exit i env' w'->Q (.exit i) a' w'
 ret:∀env' a' w',Rep env' a'->a'.tmps.size=n->a'.defers=a.defers->Keep W a a'->K.ret env' w'->Q .ret a' w'
theorem Z61{ann:List (Nat×List (Jm×Shape1))}(hm:P.follows JC=E){n:Nat}:∀(c:Code) (W:List Jm) (env:Env pC) (a:JL) (w:Z) (K:Kont pC) (Q:Q6->JL->Z->Prop),
  Rep env a->a.tmps.size=n->Z1J n c=E->(∀t∈Zj c,t∈W)->(∀ch(a a':JL) w,a.defers=a'.defers->(∀t,t ∉ W->a.tmps.getD t undef=a'.tmps.getD t undef)->Q (.panic ch) a w->Q (.panic ch) a' w)->(∀ch(a':JL) w',a'.defers=a.defers->Keep W a a'->R.fin (JI ch) w'->Q (.panic ch) a' w') ->
  Z85 (pA P R) P ann c env w K->Post n W K a Q->c.wp P Q a w:=by
 intro c
 induction c with
 |skip=>intro W env a w K Q hrep hn hs hW hQ hR h hp;exact wp_skip (hp.nrm _ _ _ hrep hn rfl (Keep.refl _ _) h)
 |region id ops draw =>
  intro W env a w K Q hrep hn hs hW hQ hR h hp
  have hd:∀o∈ops,ZDp n o:=by
   intro o ho d hdst;have:=Array.all_eq_true_iff_forall_mem.1 hs o ho;simp only[hdst,decide_eq_true_eq]at this;exact this
  have hW':∀o∈ops,∀d,o.dst=U d->d∈W:=by
   intro o ho d hdst;refine hW d ?_;simp only[Zj,List.mem_filterMap,Array.mem_toList_iff];exact⟨o,ho,hdst⟩
  unfold Z85 at h;cases draw with
  |true =>
   simp only[if_true]at h;split at h
   ·rename_i hssa
    have h:=h _ rfl;refine ZBp hm hssa (fun ch a a' w hd hk=>hQ ch a a' w hd (fun t ht=>by rw[B,B,hk t (fun q o ho hdst=>ht (hW' o (H ho) t hdst))])) (Z1w hssa hd hW' _ _ [] [] env a _ K.nrm (by simp) (Z1x.start _ _) hrep hn (by simp) (by intro q hq;cases hq) h hR hp.nrm)
   ·exact h.elim
  |false =>
   simp only[Ja,if_false]at h;exact wp_region_list (Z2a ops.toList env a w K.nrm hrep hn (fun o ho=>hd o (Array.mem_toList_iff.1 ho)) (fun o ho=>hW' o (Array.mem_toList_iff.1 ho)) h hR hp.nrm)
 |seq x y ihx ihy =>
  intro W env a w K Q hrep hn hs hW hQ hR h hp;simp only[Z1J,JF]at hs;simp only[Zj,Jl]at hW;unfold Z85 at h;split at h
  ·refine wp_seq (ihx W env a w _ _ hrep hn hs.1 (fun t ht=>hW t (J3 ht)) (fun ch a a' w=>hQ ch a a' w) (fun ch a' w'=>hR ch a' w') h ?_)
   exact{
    nrm:=fun env' a' w' h1 h2 h3 h4 h5=>ihy W env' a' w' K Q h1 h2 hs.2 (fun t ht=>hW t (JH ht)) hQ (fun ch a2 w2 hd hk=>hR ch a2 w2 (hd.trans h3) (h4.trans hk)) h5 {
     nrm:=fun env'' a'' w'' g1 g2 g3 g4 g5=>hp.nrm _ _ _ g1 g2 (g3.trans h3) (h4.trans g4) g5
     exit:=fun i env'' a'' w'' g1 g2 g3 g4 g5=>hp.exit _ _ _ _ g1 g2 (g3.trans h3) (h4.trans g4) g5
     ret:=fun env'' a'' w'' g1 g2 g3 g4 g5=>hp.ret _ _ _ g1 g2 (g3.trans h3) (h4.trans g4) g5 }
    exit:=fun i env' a' w' h1 h2 h3 h4 h5=>hp.exit i _ _ _ h1 h2 h3 h4 h5
    ret:=fun env' a' w' h1 h2 h3 h4 h5=>hp.ret _ _ _ h1 h2 h3 h4 h5 }
  ·rename_i id live hann
   obtain⟨I,hpre,hrest⟩:=h;have hlen:∀e:Env pC,((live.map (·.1)).map (Z3Z e)).length=(live.map (·.1)).length:=fun e=>by simp
   refine wp_seq (ihx (Zj x) env a w _ _ hrep hn hs.1 (fun t ht=>ht) (fun ch a1 a2 w hd hk=>hQ ch a1 a2 w hd (fun t ht=>hk t (fun hm=>ht (hW t (J3 hm))))) (fun ch a' w' hd hk=>hR ch a' w' hd (hk.mono fun t ht=>hW t (J3 ht))) hpre ?_)
   exact{
    nrm:=fun env' a' w' h1 h2 h3 h4 h5=>by
     have h5:ZFk (Z9U (live.map (·.2)) I ((live.map (·.1)).map (Z3Z env')) w'):=h5;obtain⟨svs,k1,k2,k3⟩:=Z77 _ _ ⟨_,I,w',Z7o h5⟩
     have hl:svs.length=(live.map (·.1)).length:=by
      have:=congrArg Jj k2;rw[Zp,Zp]at this;rw[this];exact hlen env'
     have hb:=Z8s _ _ _ hrest k1 (fun t=>a'.tmps.getD t undef) w' (by rw[k3];exact h5);have h4':Keep W a a':=h4.mono fun t ht=>hW t (J3 ht)
     exact ihy W _ a' w' K Q (ZCD hrep h1 hl k2 h4) h2 hs.2 (fun t ht=>hW t (JH ht)) hQ (fun ch a2 w2 hd hk=>hR ch a2 w2 (hd.trans h3) (h4'.trans hk)) hb {
      nrm:=fun env'' a'' w'' g1 g2 g3 g4 g5=>hp.nrm _ _ _ g1 g2 (g3.trans h3) (h4'.trans g4) g5
      exit:=fun i env'' a'' w'' g1 g2 g3 g4 g5=>hp.exit _ _ _ _ g1 g2 (g3.trans h3) (h4'.trans g4) g5
      ret:=fun env'' a'' w'' g1 g2 g3 g4 g5=>hp.ret _ _ _ g1 g2 (g3.trans h3) (h4'.trans g4) g5 }
    exit:=fun i env' a' w' h1 h2 h3 h4 h5=>hp.exit i _ _ _ h1 h2 h3 (h4.mono fun t ht=>hW t (J3 ht)) h5
    ret:=fun env' a' w' h1 h2 h3 h4 h5=>hp.ret _ _ _ h1 h2 h3 (h4.mono fun t ht=>hW t (J3 ht)) h5 }
 |cond c x y ihx ihy =>
  intro W env a w K Q hrep hn hs hW hQ hR h hp;simp only[Z1J,JF]at hs;simp only[Zj,Jl]at hW;unfold Z85 at h;have hev:a.eval c=toV (ev (pA P R) env c):=hrep.eval c;split at h
  ·rename_i t hc
   have hc':a.eval c=.bool t:=by rw[hev,hc];rfl
   refine wp_cond hc' ?_;cases t with
   |true=>exact ihx W env a w K Q hrep hn hs.1 (fun t ht=>hW t (J3 ht)) hQ hR h hp
   |false=>exact ihy W env a w K Q hrep hn hs.2 (fun t ht=>hW t (JH ht)) hQ hR h hp
  ·rename_i t hc
   obtain⟨h1,h2⟩:=h;have hc':a.eval c=.bool (den t):=by rw[hev,hc];rfl
   have henv:∀b:Bool,den t=b->Rep (setC env c b) a:=by
    intro b hb;unfold setC;cases c with
    |tmp s =>
     refine hrep.refine ?_;have:toV (Z3Z env s)=toV (ev (pA P R) env (.tmp s)):=rfl;rw[this,hc,<-hb];rfl
    |_=>exact hrep
   refine wp_cond hc' ?_;cases hd:den t with
   |true=>exact ihx W _ a w K Q (henv E hd) hn hs.1 (fun t ht=>hW t (J3 ht)) hQ hR (Z2s _ _ _ h1 hd) hp
   |false=>exact ihy W _ a w K Q (henv M hd) hn hs.2 (fun t ht=>hW t (JH ht)) hQ hR (Z2s _ _ _ h2 hd) hp
  ·exact h.elim
 |block id c ih =>
  intro W env a w K Q hrep hn hs hW hQ hR h hp;unfold Z85 at h;refine wp_block (ih W env a w _ _ hrep hn hs hW (fun ch a a' w=>hQ ch a a' w) (fun ch a' w'=>hR ch a' w') h ?_)
  exact{
   nrm:=hp.nrm
   exit:=fun i env' a' w' h1 h2 h3 h4 h5=>by
    have h5:if i=id then K.nrm env' w' else K.exit i env' w':=h5;simp only[Exit.inBlock];split
    ·rename_i hi;rw[if_pos hi]at h5;exact hp.nrm _ _ _ h1 h2 h3 h4 h5
    ·rename_i hi;rw[if_neg hi]at h5;exact hp.exit i _ _ _ h1 h2 h3 h4 h5
   ret:=hp.ret }
 |loop c ih =>
  intro W env a w K Q hrep hn hs hW hQ hR h hp;unfold Z85 at h;split at h
  ·exact h.elim
  ·rename_i id live hann
   obtain⟨I,μ,h0,hround⟩:=h;have hlen:∀e:Env pC,((live.map (·.1)).map (Z3Z e)).length=(live.map (·.1)).length:=fun e=>by simp
   let Inv:Nat->JL->Z->Prop:=fun m a' w'=>∃svs jk,InT (live.map (·.2)) svs/\Rep (Z7M (pA P R) jk (live.map (·.1)) svs (Zj c) env) a'/\a'.tmps.size=n/\a'.defers=a.defers/\Keep (Zj c) a a' /\
    ZFk (Z9U (live.map (·.2)) I svs w')/\theN (Z9U (live.map (·.2)) μ svs w')=m
   have enter:∀(env':Env pC)(a':JL)(w':Z),Rep env' a'->a'.tmps.size=n->a'.defers=a.defers->Keep (Zj c) a a' ->
     ZFk (Z9U (live.map (·.2)) I ((live.map (·.1)).map (Z3Z env')) w')->Inv (theN (Z9U (live.map (·.2)) μ ((live.map (·.1)).map (Z3Z env')) w')) a' w':=by
    intro env' a' w' hrep' hn' hdef hkeep hI;obtain⟨svs,h1,h2,h3⟩:=Z77 _ _ ⟨_,I,w',Z7o hI⟩;refine⟨svs,fun t=>a'.tmps.getD t undef,h1,?_,hn',hdef,hkeep,by rw[h3];exact hI,by rw[h3]⟩
    have hl:svs.length=(live.map (·.1)).length:=by
     have:=congrArg Jj h2;rw[Zp,Zp]at this;rw[this];exact hlen env'
    exact ZCD hrep hrep' hl h2 hkeep
   refine Z9S Inv (enter env a w hrep hn rfl (Keep.refl _ _) h0) ?_;rintro m a' w'⟨svs,jk,h1,h2,h3,h4,h5,h6,rfl⟩;have hb:=Z8s _ _ _ hround h1 jk w' h6;refine ih (Zj c) _ a' w' _ _ h2 h3 hs (fun t ht=>ht) (fun ch a1 a2 w hd hk=>hQ ch a1 a2 w hd (fun t ht=>hk t (fun hm=>ht (hW t hm)))) (fun ch a2 w2 hd hk=>hR ch a2 w2 (hd.trans h4) ((h5.mono fun t ht=>hW t ht).trans (hk.mono fun t ht=>hW t ht))) hb ?_;have hkW:Keep W a a':=h5.mono fun t ht=>hW t ht
   exact{
    nrm:=fun env'' a'' w'' g1 g2 g3 g4 g5=>by
     obtain⟨g5,g6⟩:=g5;exact⟨_,g6,enter env'' a'' w'' g1 g2 (g3.trans h4) (h5.trans g4) g5⟩
    exit:=fun i env'' a'' w'' g1 g2 g3 g4 g5=>hp.exit i _ _ _ g1 g2 (g3.trans h4) (hkW.trans (g4.mono fun t ht=>hW t ht)) g5
    ret:=fun env'' a'' w'' g1 g2 g3 g4 g5=>hp.ret _ _ _ g1 g2 (g3.trans h4) (hkW.trans (g4.mono fun t ht=>hW t ht)) g5 }
 |exit id=>intro W env a w K Q hrep hn hs hW hQ hR h hp;exact wp_exit (hp.exit _ _ _ _ hrep hn rfl (Keep.refl _ _) h)
 |ret=>intro W env a w K Q hrep hn hs hW hQ hR h hp;exact wp_ret (hp.ret _ _ _ hrep hn rfl (Keep.refl _ _) h)
 |rangeFunc=>intro W env a w K Q hrep hn hs hW hQ hR h hp;exact h.elim
 |scope=>intro W env a w K Q hrep hn hs hW hQ hR h hp;exact h.elim
 |label=>intro W env a w K Q hrep hn hs hW hQ hR h hp;exact h.elim
 |goto=>intro W env a w K Q hrep hn hs hW hQ hR h hp;exact h.elim
 |refuse=>intro W env a w K Q hrep hn hs hW hQ hR h hp;exact h.elim
theorem Z9I{r:ResultVar}{env:Env pC}{a:JL}{w:Z}{k:SV pC->Prop}(hrep:Rep env a)(h:ZBU (pA P R) P r env w k) :
  ∃sv,((match r with
   | .tmp t=>pure (a.tmps.getD t undef)
   | .cell d t=>do JA t (<-Q7 (a.tmps.getD d undef))):Sem Value).run P w=JG (toV sv) w/\k sv:=by
 cases r with
 |tmp t =>
  refine⟨_,?_,h⟩;simp only[S];rw[hrep t]
 |cell d t =>
  unfold ZBU at h;simp only at h;split at h
  ·rename_i dd hd
   obtain⟨sv,h1,h2,_⟩:=Z58 h;refine⟨sv,?_,h2⟩;simp only[F];rw[hrep d,hd];simp[toV,Q7,h1]
  ·exact h.elim
theorem Z4p{env:Env pC}{a:JL}{w:Z}(hrep:Rep env a):∀(rs:List ResultVar) (k:List (SV pC)->Prop),Z6s (pA P R) P rs env w k ->
  ∃svs,(rs.mapM fun r=>(match r with
   | .tmp t=>pure (a.tmps.getD t undef)
   | .cell d t=>do JA t (<-Q7 (a.tmps.getD d undef)):Sem Value)).run P w=JG (toVs svs) w/\k svs
 |[],k,h=>⟨[],rfl,h⟩
 |r::rs,k,h=>by
  unfold Z6s at h;obtain⟨sv,h1,h⟩:=Z9I hrep h;obtain⟨svs,h2,h⟩:=Z4p hrep rs _ h;refine⟨sv::svs,?_,h⟩;rw[List.mapM_cons];simp only[F,h1,h2,G,S,toVs]
theorem Z4Z{fn:QB}{env:Env pC}{a:JL}{w:Z}(hrep:Rep env a)(h:ZGd (pA P R) P fn env w) :
  ∃v,(Q9 fn a.tmps).run P w=JG v w/\R.fin (Y v) w:=by
 unfold ZGd at h;obtain⟨svs,h1,h2⟩:=Z4p hrep _ _ h
 have hm:(fn.results.mapM fun r=>(match r with
   | .tmp t=>pure (a.tmps.getD t undef)
   | .cell d t=>do JA t (<-Q7 (a.tmps.getD d undef)):Sem Value)).run P w=JG (toVs svs).toArray w:=by
  rw[Array.mapM_eq_mapM_toList];simp only[Sem.run_map,h1,G]
 have hr:(Q9 fn a.tmps).run P w=JG (if h:(toVs svs).toArray.size=1 then(toVs svs).toArray[0]else J1 (toVs svs).toArray) w:=by
  unfold Q9;simp only[F]
  erw [hm]
  rfl
 clear h1 hm
 match svs,h2,hr with
 |[v],h2,hr=>exact⟨_,hr,h2⟩
 |[],h2,hr=>exact⟨_,hr,h2⟩
 |v::v2::vs,h2,hr =>
  refine⟨_,hr,?_⟩;have:¬(toVs (v::v2::vs)).toArray.size=1:=by simp[toVs]
  rw[dif_neg this];exact h2
theorem Z4F:∀(l:List (SV pC)) (i t:Nat),toV (Z3Z (Z1Y i l) t)=if i<=t then(toVs l).getD (t-i) undef else undef
 |[],i,t=>by simp[Z1Y,Z3Z,toVs,toV,undef]
 |v::vs,i,t=>by
  simp only[Z1Y,Z3Z];by_cases hb:J2 i t=E
  ·have:=D hb
   subst this;simp[hb,toVs]
  ·have hne:i≠t:=fun h=>hb (by rw[h];exact Q0 t)
   have hb:J2 i t=M:=Bool.eq_false_iff.2 hb;simp only[hb,cond_false];rw[Z4F vs (i+1) t];by_cases hle:i<=t
   ·rw[if_pos (by omega),if_pos hle]
    rw[show t-i=(t-(i+1))+1 from by omega];simp[toVs]
   ·rw[if_neg (by omega),if_neg hle]
theorem Z6Q{fn:QB}{args:List (SV pC)}:Rep (Z1Y 0 args) ({ tmps:=(toVs args).toArray++JU (fn.ntmps-(toVs args).toArray.size) undef,defers:=[] }:JL):=by
 intro t;rw[Z4F];simp only[Nat.zero_le,if_true,Nat.sub_zero];rw[B];by_cases ht:t<(toVs args).length
 ·rw[J5 (by simpa using ht)]
  simp
 ·rw[Array.getElem?_append_right (by simpa using ht)]
  simp only[Array.getElem?_replicate,List.getD_eq_getElem?_getD];rw[List.getElem?_eq_none (by omega)];split<;>rfl
theorem ZC3{ann:List (Nat×List (Jm×Shape1))}{fn:QB}{args:List (SV pC)}{w:Z}(hm:P.follows JC=E)
  (h:Z4h (pA P R) P ann fn args w):∃c,fn.body=U c/\c.wp P (bodyPost P fn R.fin) { tmps:=(toVs args).toArray++JU (fn.ntmps-(toVs args).toArray.size) undef,defers:=[] } w:=by
 unfold Z4h at h;split at h
 ·exact h.elim
 ·rename_i c hb
  split at h
  ·rename_i hc
   refine⟨c,hb,?_⟩;refine Z61 hm c (Zj c) _ _ w _ _ Z6Q ?_ hc.2 (fun t ht=>ht) ?_ (fun ch a' w' hd _ hf=>⟨hd,hf⟩) h ?_
   ·simp[Zp];omega
   ·intro ch a a' w hd _ hq
    exact⟨hd ▸ hq.1,hq.2⟩
   ·exact{
     nrm:=fun env' a' w' h1 h2 h3 h4 h5=>⟨h3,Z4Z h1 h5⟩
     exit:=fun i env' a' w' h1 h2 h3 h4 h5=>h5.elim
     ret:=fun env' a' w' h1 h2 h3 _ h5=>⟨h3,Z4Z h1 h5⟩ }
  ·exact h.elim
theorem Z0z{ann:List (Nat×List (Jm×Shape1))}{f:Jz}{fn:QB}{args:List (SV pC)}{w:Z}(hf:P.funcs[f]?=U fn)(hm:P.follows JC=E)
  (h:Z4h (pA P R) P ann fn args w):N P f (toVs args).toArray w R.fin:=by
 obtain⟨c,hb,hw⟩:=ZC3 hm h;exact calls_of_wp hf hb hw
theorem xs{P:Program}{R:J0->Z->Prop}{V:Prop}{f:Jz}{fn:QB}{w:Z}(ann:List (Nat×List (Jm×Shape1)))(args:List (SV pC))(hf:P.funcs[f]?=U fn)(hm:P.follows JC=E)
 (e:V=Z4h (pA P ⟨R,M⟩) P ann fn args w) (h:V):N P f (toVs args).toArray w R:=Z0z (R:=⟨R,M⟩) hf hm (Eq.mp e h)
theorem xt{P:Program}{R:J0->Z->Prop}{V:Prop}{f:Jz}{fn:QB}{w:Z}(ann:List (Nat×List (Jm×Shape1)))(args:List (SV pC))(hf:P.funcs[f]?=U fn)(hm:P.follows JC=E)
 (e:V=Z4h (pA P ⟨R,E⟩) P ann fn args w) (h:V):N P f (toVs args).toArray w R:=Z0z (R:=⟨R,E⟩) hf hm (Eq.mp e h)
end Go.Vcg
end
section
namespace Go.Proofs.YtfghidehlnfdiaaGreat
open Go Go.Vcg
theorem ZO:Tryz.prog.follows JC=E:=by kernel_rfl
abbrev Z2B.n:Nat:=68
def Z2B.Vc  (w:Z)(R:J0->Z->Prop):Prop :=
 ∀a b,ZB w 27 (JU 32 (.int Je 0)) a b ->
 ∀c d,ZB b 5 #[.int Je 128] c d ->
 ∀b e,ZB d 23 #[.slice (U c) 1 1] b e ->
 N X 53 #[.slice (U b) 1 1] e (fun b c =>
 ∃d,b=Y (.agg d) /\
 ∃b,JD X (JZ 27 (JJ (U a)) (.agg d)) c=JG () b /\
 ∃c,ZH b a 32 c /\
 R (Y (.agg c)) b)
theorem Z2B.vc  (w:Z)(R:J0->Z->Prop)(h:Z2B.Vc w R):N X 68 #[] w R :=
 Z0z (R:=⟨R,M⟩) (ann:=[]) (args:=[]) Tryz.func68 ZO (Eq.mp (by kernel_rfl:Z2B.Vc w R=Z4h (pA X ⟨R,M⟩) X [] Tryz.f68 [] w) h)
abbrev Z3Y.n:Nat:=120
def Z3Y.Vc(a:Option Addr)(b c:Nat)(d:Bool)(w:Z)(R:J0->Z->Prop):Prop :=
 (((b:Int)>128 ->
 R (Y (J1 #[.slice JN 0 0,.int L 140])) w) /\
 (¬(b:Int)>128 ->
 N X 134 #[.slice a b c] w (fun e f =>
 ∃g,e=Y (.int Je g) /\
 ((g>=16 ->
 R (Y (J1 #[.slice JN 0 0,.int L 140])) f) /\
 (¬g>=16 ->
 ∃(e:Int->Z->Prop),((d=E ->
 e 2 f) /\
 (d=M ->
 e 0 f)) /\
 (∀(d:Int)(f:Nat->Value)(f:Z),e d f ->
 ∀e g,ZB f 5 #[.int Je d,.int Je 0] e g ->
 ∃(f:Option Addr->Nat->Nat->Z->Prop),(((QC (b:Int) 2)=1 ->
 ∀h i,ZB g 5 #[.int Je (O Je (d+1))] h i ->
 f (U h) 1 1 i) /\
 ((QC (b:Int) 2)≠1 ->
 f (U e) 2 2 g)) /\
 (∀(d:Option Addr)(e:Nat)(g:Nat)(h:Nat->Value)(h:Z),f d e g h ->
 ∃f i,JD X (builtinV JM #[23,23] 23 #[.slice d e g,.slice a b c]) h=JG f i /\
 ∃a b c,f=(.slice a b c) /\
 ∃(c:Option Addr->Nat->Nat->Int->Z->Prop)(d:Option Addr->Nat->Nat->Int->Z->Nat),c JN 0 0 0 i /\
 (∀(e:Option Addr)(f:Nat)(g:Nat)(h:Int)(i:Nat->Value)(i:Z),c e f g h i ->
 ((h<(b:Int) ->
 ∀j,ZL i j ->
 ∃k,a=U k /\
 ((0:Int)<=h/\h<(b:Int)) /\
 ∃l,j.cell? (k.add h.toNat)=U (.int Je l) /\
 ∃k,a=U k /\
 ((0:Int)<=(O L (h+1))/\(O L (h+1))<(b:Int)) /\
 ∃a,j.cell? (k.add (J7 (O L (h+1))))=U (.int Je a) /\
 ∀k m,ZB j 5 #[.int Je (bitsI .or Je (O Je (l*16)) a)] k m ->
 ∃a j,JD X (builtinV JM #[23,23] 23 #[.slice e f g,.slice (U k) 1 1]) m=JG a j /\
 ∃k l m,a=(.slice k l m) /\
 c k l m (O L (h+2)) j/\d k l m (O L (h+2)) j<d e f g h i) /\
 (¬h<(b:Int) ->
 R (Y (J1 #[.slice e f g,.int L 0])) i))))))))))
theorem Z3Y.vc(a b c d w R)(h:Z3Y.Vc a b c d w R):N X 120 #[(.slice a b c),(.bool d)] w R:=xs [(1000006,[(6,.cell (.int Je))]),(1000009,[(7,.cell (.slice))]),(12,[(8,.cell (.slice)),(9,.cell (.int L))])] [.slice a b c,.bool (.var d)] Tryz.func120 ZO (by kernel_rfl) h
abbrev Z1q.n:Nat:=43
def Z1q.Vc(a:Option Addr)(b c:Nat)(w:Z)(R:J0->Z->Prop):Prop :=
 ∃(c:Option Addr->Nat->Nat->Int->Z->Prop)(d:Option Addr->Nat->Nat->Int->Z->Nat),c JN 0 0 0 w /\
 (∀(e:Option Addr)(f:Nat)(g:Nat)(h:Int)(i:Nat->Value)(i:Z),c e f g h i ->
 ((h<(b:Int) ->
 ∃j,a=U j /\
 ((0:Int)<=h/\h<(b:Int)) /\
 ∃a,i.cell? (j.add h.toNat)=U (.int Je a) /\
 ∀j k,ZB i 5 #[.int Je (Q4 a 16),.int Je (bitsI .and Je a 15)] j k ->
 ∃a l,JD X (builtinV JM #[23,23] 23 #[.slice e f g,.slice (U j) 2 2]) k=JG a l /\
 ∃j k m,a=(.slice j k m) /\
 c j k m (O L (h+1)) l/\d j k m (O L (h+1)) l<d e f g h i) /\
 (¬h<(b:Int) ->
 R (Y (.slice e f g)) i)))
theorem Z1q.vc(a b c w R)(h:Z1q.Vc a b c w R):N X 43 #[(.slice a b c)] w R:=xs [(3,[(3,.cell (.slice)),(8,.cell (.int L))])] [.slice a b c] Tryz.func43 ZO (by kernel_rfl) h
abbrev Z2i.n:Nat:=134
def Z2i.Vc(a:Option Addr)(b c:Nat)(w:Z)(R:J0->Z->Prop):Prop :=
 ∃(c:Int->Int->Z->Prop)(d:Int->Int->Z->Nat),c 0 0 w /\
 (∀(e:Int)(f:Int)(g:Nat->Value)(g:Z),c e f g ->
 ((f<(b:Int) ->
 ∃h,a=U h /\
 ((0:Int)<=f/\f<(b:Int)) /\
 ∃a,g.cell? (h.add f.toNat)=U (.int Je a) /\
 c (max e a) (O L (f+1)) g/\d (max e a) (O L (f+1)) g<d e f g) /\
 (¬f<(b:Int) ->
 R (Y (.int Je e)) g)))
theorem Z2i.vc(a b c w R)(h:Z2i.Vc a b c w R):N X 134 #[(.slice a b c)] w R:=xs [(3,[(3,.cell (.int Je)),(8,.cell (.int L))])] [.slice a b c] Tryz.func134 ZO (by kernel_rfl) h
abbrev Z20.n:Nat:=36
def Z20.Vc(a:Option Addr)(b c:Nat)(w:Z)(R:J0->Z->Prop):Prop :=
 ((a=JN ->
 R (Y (.slice JN 0 0)) w) /\
 (a≠JN ->
 ∀d e,ZB w 5 #[] d e ->
 ∃f g,JD X (builtinV JM #[23,23] 23 #[.slice (U d) 0 0,.slice a b c]) e=JG f g /\
 ∃a b c,f=(.slice a b c) /\
 R (Y (.slice a b c)) g))
theorem Z20.vc(a b c w R)(h:Z20.Vc a b c w R):N X 36 #[(.slice a b c)] w R:=xs [] [.slice a b c] Tryz.func36 ZO (by kernel_rfl) h
abbrev Z21.n:Nat:=82
def Z21.Vc(a:Option Addr)(b c:Nat)(d:Option Addr)(e f:Nat)(w:Z)(R:J0->Z->Prop):Prop :=
 ∃g,JD X (convert 23 9 (.slice a b c)) w=JG g w /\
 ∃a,g=(.string a) /\
 ∃b,JD X (convert 23 9 (.slice d e f)) w=JG b w /\
 ∃c,b=(.string c) /\
 R (Y (.bool (Z9V .eql a c))) w
theorem Z21.vc(a b c d e f w R)(h:Z21.Vc a b c d e f w R):N X 82 #[(.slice a b c),(.slice d e f)] w R:=xs [] [.slice a b c,.slice d e f] Tryz.func82 ZO (by kernel_rfl) h
abbrev Z0q.n:Nat:=84
def Z0q.Vc(a:Option Addr)(b c:Nat)(d:Option Addr)(e f:Nat)(w:Z)(R:J0->Z->Prop):Prop :=
 N X 108 #[.slice a b c,.slice d e f] w (fun d f =>
 ∃g,d=Y (.bool g) /\
 ((g=M ->
 R (Y (J1 #[.slice a b c,.bool M])) f) /\
 (g=E ->
 ((0:Int)<=(e:Int)/\(e:Int)<=(b:Int)) /\
 R (Y (J1 #[.slice (subO a c (J7 (e:Int)) 1) (b-(J7 (e:Int))) (c-(J7 (e:Int))),.bool E])) f)))
theorem Z0q.vc(a b c d e f w R)(h:Z0q.Vc a b c d e f w R):N X 84 #[(.slice a b c),(.slice d e f)] w R:=xs [] [.slice a b c,.slice d e f] Tryz.func84 ZO (by kernel_rfl) h
abbrev Z0r.n:Nat:=108
def Z0r.Vc(a:Option Addr)(b c:Nat)(d:Option Addr)(e f:Nat)(w:Z)(R:J0->Z->Prop):Prop :=
 (((b:Int)>=(e:Int) ->
 ((0:Int)<=(e:Int)/\(e:Int)<=(c:Int)) /\
 N X 82 #[.slice a (J7 (e:Int)) c,.slice d e f] w (fun a c =>
 ∃d,a=Y (.bool d) /\
 R (Y (.bool d)) c)) /\
 (¬(b:Int)>=(e:Int) ->
 R (Y (.bool M)) w))
theorem Z0r.vc(a b c d e f w R)(h:Z0r.Vc a b c d e f w R):N X 108 #[(.slice a b c),(.slice d e f)] w R:=xs [] [.slice a b c,.slice d e f] Tryz.func108 ZO (by kernel_rfl) h
abbrev Z2f.n:Nat:=143
def Z2f.Vc(a:Bool)(b:Option Addr)(c d:Nat)(e:Option Addr)(f g:Nat)(w:Z)(R:J0->Z->Prop):Prop :=
 ∀h i,ZB w 111 #[.bool a,.slice b c d,.slice e f g] h i ->
 ∀a b,ZB i 217 #[.int L 0] a b ->
 ∃c d e f g i j,b.cell? h=U (.bool c) /\
 b.cell? (h.add 1)=U (.slice d e f) /\
 b.cell? (h.add 2)=U (.slice g i j) /\
 N X 155 #[JJ (U a),.agg #[.bool c,.slice d e f,.slice g i j],.int L 1] b (fun a b =>
 ∃c d,a=Y (J1 #[.int L c,.int L d]) /\
 ((d≠0 ->
 R (Y (J1 #[.slice JN 0 0,.int L d])) b) /\
 (d=0 ->
 ((c>65536 ->
 R (Y (J1 #[.slice JN 0 0,.int L 44])) b) /\
 (¬c>65536 ->
 ∃a c d e f g i,b.cell? h=U (.bool a) /\
 b.cell? (h.add 1)=U (.slice c d e) /\
 b.cell? (h.add 2)=U (.slice f g i) /\
 N X 156 #[.agg #[.bool a,.slice c d e,.slice f g i]] b (fun a b =>
 ∃c d e,a=Y (.slice c d e) /\
 R (Y (J1 #[.slice c d e,.int L 0])) b))))))
theorem Z2f.vc(a b c d e f g w R)(h:Z2f.Vc a b c d e f g w R):N X 143 #[(.agg #[(.bool a),(.slice b c d),(.slice e f g)])] w R:=xs [] [.agg [.bool (.var a),.slice b c d,.slice e f g]] Tryz.func143 ZO (by kernel_rfl) h
abbrev Zz.n:Nat:=155
def Zz.Vc(a:Addr)(b:Bool)(c:Option Addr)(d e:Nat)(f:Option Addr)(g h:Nat)(i:Int)(w:Z)(R:J0->Z->Prop):Prop :=
 ∀j k,ZB w 111 #[.bool b,.slice c d e,.slice f g h] j k ->
 N X 148 #[JJ (U a),.int L i] k (fun b c =>
 ∃d,b=Y (.int L d) /\
 ((d≠0 ->
 R (Y (J1 #[.int L 0,.int L d])) c) /\
 (d=0 ->
 ∃(b:Z->Prop),(∃(d:Bool->Z->Prop),(∃e,c.cell? j=U (.bool e) /\
 ((e=E ->
 ∃f g h,c.cell? (j.add 1)=U (.slice f g h) /\
 (((g:Int)>0 ->
 d E c) /\
 (¬(g:Int)>0 ->
 ∃f,c.cell? j=U (.bool f) /\
 ((f=M ->
 ∃g h k,c.cell? (j.add 2)=U (.slice g h k) /\
 d (decide ((h:Int)>0)) c) /\
 (f=E ->
 d M c))))) /\
 (e=M ->
 ∃e,c.cell? j=U (.bool e) /\
 ((e=M ->
 ∃f g h,c.cell? (j.add 2)=U (.slice f g h) /\
 d (decide ((g:Int)>0)) c) /\
 (e=E ->
 d M c))))) /\
 (∀(c:Bool)(e:Nat->Value)(e:Z),d c e ->
 ((c=E ->
 R (Y (J1 #[.int L 0,.int L 40])) e) /\
 (c=M ->
 ∃c d f,e.cell? (j.add 1)=U (.slice c d f) /\
 N X 150 #[.slice c d f] e (fun c d =>
 ∃e,c=Y (.bool e) /\
 ((e=E ->
 R (Y (J1 #[.int L 1,.int L 0])) d) /\
 (e=M ->
 b  d))))))) /\
 (∀  (c:Nat->Value)(c:Z),b  c ->
 ∃b d e,c.cell? (j.add 1)=U (.slice b d e) /\
 ∃b e f,c.cell? (j.add 2)=U (.slice b e f) /\
 ∃(f:Int->Int->Z->Prop)(g:Int->Int->Z->Nat),f (d:Int) 0 c /\
 (∀(c:Int)(d:Int)(h:Nat->Value)(h:Z),f c d h ->
 ((d<(e:Int) ->
 ∃j,b=U j /\
 ((0:Int)<=d/\d<(e:Int)) /\
 ∃b k l m n o p,h.cell? (j.add (d.toNat*3))=U (.bool b) /\
 h.cell? ((j.add (d.toNat*3)).add 1)=U (.slice k l m) /\
 h.cell? ((j.add (d.toNat*3)).add 2)=U (.slice n o p) /\
 ∀j q,ZB h 111 #[.bool M,.slice JN 0 0,.slice JN 0 0] j q ->
 Z1 q j (.bool b)/\∀r,Z8 q j (.bool b) r ->
 Z1 r (j.add 1) (.slice k l m)/\∀b,Z8 r (j.add 1) (.slice k l m) b ->
 Z1 b (j.add 2) (.slice n o p)/\∀k,Z8 b (j.add 2) (.slice n o p) k ->
 ∃b l m n o p q,k.cell? j=U (.bool b) /\
 k.cell? (j.add 1)=U (.slice l m n) /\
 k.cell? (j.add 2)=U (.slice o p q) /\
 N X 155 #[JJ (U a),.agg #[.bool b,.slice l m n,.slice o p q],.int L (O L (i+1))] k (fun a b =>
 ∃i j,a=Y (J1 #[.int L i,.int L j]) /\
 ((j≠0 ->
 R (Y (J1 #[.int L 0,.int L j])) b) /\
 (j=0 ->
 f (O L (c+i)) (O L (d+1)) b/\g (O L (c+i)) (O L (d+1)) b<g c d h)))) /\
 (¬d<(e:Int) ->
 N X 160 #[.int L c,.int L 0] h (fun a b =>
 ∃d e f,a=Y (.slice d e f) /\
 R (Y (J1 #[.int L (O L (c+(e:Int))),.int L 0])) b))))))))
theorem Zz.vc(a b c d e f g i j w R)(h:Zz.Vc a b c d e f g i j w R):N X 155 #[(JJ (U a)),(.agg #[(.bool b),(.slice c d e),(.slice f g i)]),(.int L j)] w R:=xs [(1000009,[]),(1000006,[(20,.cell (.bool))]),(11,[(9,.cell (.int L)),(48,.cell (.int L))])] [.addr a,.agg [.bool (.var b),.slice c d e,.slice f g i],.int L j] Tryz.func155 ZO (by kernel_rfl) h
abbrev Z3q.n:Nat:=156
def Z3q.Vc(a:Bool)(b:Option Addr)(c d:Nat)(e:Option Addr)(f g:Nat)(w:Z)(R:J0->Z->Prop):Prop :=
 ∀h i,ZB w 111 #[.bool a,.slice b c d,.slice e f g] h i ->
 ∃a,i.cell? h=U (.bool a) /\
 ((a=M ->
 ∃b c d,i.cell? (h.add 1)=U (.slice b c d) /\
 N X 150 #[.slice b c d] i (fun b c =>
 ∃d,b=Y (.bool d) /\
 ((d=E ->
 ∃b e f,c.cell? (h.add 1)=U (.slice b e f) /\
 N X 36 #[.slice b e f] c (fun b e =>
 ∃f g j,b=Y (.slice f g j) /\
 R (Y (.slice f g j)) e)) /\
 (d=M ->
 ∀b,ZL c b ->
 ∃c d e,b.cell? (h.add 1)=U (.slice c d e) /\
 ∃c e f,b.cell? (h.add 1)=U (.slice c e f) /\
 N X 160 #[.int L (d:Int),.int L 128] b (fun b d =>
 ∃g j k,b=Y (.slice g j k) /\
 d.cell? (h.add 1)=U (.slice c e f) /\
 ∃b l,JD X (builtinV JM #[23,23] 23 #[.slice g j k,.slice c e f]) d=JG b l /\
 ∃c d e,b=(.slice c d e) /\
 R (Y (.slice c d e)) l))))) /\
 (a=E ->
 ∃a b c,i.cell? (h.add 2)=U (.slice a b c) /\
 ∃(c:Option Addr->Nat->Nat->Int->Z->Prop)(d:Option Addr->Nat->Nat->Int->Z->Nat),c JN 0 0 0 i /\
 (∀(e:Option Addr)(f:Nat)(g:Nat)(h:Int)(i:Nat->Value)(i:Z),c e f g h i ->
 ((h<(b:Int) ->
 ∃j,a=U j /\
 ((0:Int)<=h/\h<(b:Int)) /\
 ∃a k l m n o p,i.cell? (j.add (h.toNat*3))=U (.bool a) /\
 i.cell? ((j.add (h.toNat*3)).add 1)=U (.slice k l m) /\
 i.cell? ((j.add (h.toNat*3)).add 2)=U (.slice n o p) /\
 ∀j q,ZB i 111 #[.bool M,.slice JN 0 0,.slice JN 0 0] j q ->
 Z1 q j (.bool a)/\∀r,Z8 q j (.bool a) r ->
 Z1 r (j.add 1) (.slice k l m)/\∀a,Z8 r (j.add 1) (.slice k l m) a ->
 Z1 a (j.add 2) (.slice n o p)/\∀k,Z8 a (j.add 2) (.slice n o p) k ->
 ∃a l m n o p q,k.cell? j=U (.bool a) /\
 k.cell? (j.add 1)=U (.slice l m n) /\
 k.cell? (j.add 2)=U (.slice o p q) /\
 N X 156 #[.agg #[.bool a,.slice l m n,.slice o p q]] k (fun a j =>
 ∃k l m,a=Y (.slice k l m) /\
 ∃a n,JD X (builtinV JM #[23,23] 23 #[.slice e f g,.slice k l m]) j=JG a n /\
 ∃j k l,a=(.slice j k l) /\
 c j k l (O L (h+1)) n/\d j k l (O L (h+1)) n<d e f g h i)) /\
 (¬h<(b:Int) ->
 N X 160 #[.int L (f:Int),.int L 192] i (fun a b =>
 ∃c d h,a=Y (.slice c d h) /\
 ∃a i,JD X (builtinV JM #[23,23] 23 #[.slice c d h,.slice e f g]) b=JG a i /\
 ∃b c d,a=(.slice b c d) /\
 R (Y (.slice b c d)) i))))))
theorem Z3q.vc(a b c d e f g w R)(h:Z3q.Vc a b c d e f g w R):N X 156 #[(.agg #[(.bool a),(.slice b c d),(.slice e f g)])] w R:=xs [(7,[(3,.cell (.slice)),(25,.cell (.int L))])] [.agg [.bool (.var a),.slice b c d,.slice e f g]] Tryz.func156 ZO (by kernel_rfl) h
abbrev Zm.n:Nat:=148
def Zm.Vc(a:Addr)(b:Int)(w:Z)(R:J0->Z->Prop):Prop :=
 ((b>16 ->
 R (Y (.int L 43)) w) /\
 (¬b>16 ->
 ∃b,w.cell? a=U (.int L b) /\
 ((b=4096 ->
 R (Y (.int L 43)) w) /\
 (b≠4096 ->
 ∃b,w.cell? a=U (.int L b) /\
 Z1 w a (.int L (O L (b+1)))/\∀c,Z8 w a (.int L (O L (b+1))) c ->
 R (Y (.int L 0)) c))))
theorem Zm.vc(a b w R)(h:Zm.Vc a b w R):N X 148 #[(JJ (U a)),(.int L b)] w R:=xs [] [.addr a,.int L b] Tryz.func148 ZO (by kernel_rfl) h
abbrev Z6C.n:Nat:=150
def Z6C.Vc(a:Option Addr)(b c:Nat)(w:Z)(R:J0->Z->Prop):Prop :=
 (((b:Int)=1 ->
 ∃c,a=U c /\
 ((0:Int)<=0/\0<(b:Int)) /\
 ∃a,w.cell? (c.add 0)=U (.int Je a) /\
 R (Y (.bool (decide (a<128)))) w) /\
 ((b:Int)≠1 ->
 R (Y (.bool M)) w))
theorem Z6C.vc(a b c w R)(h:Z6C.Vc a b c w R):N X 150 #[(.slice a b c)] w R:=xs [] [.slice a b c] Tryz.func150 ZO (by kernel_rfl) h
abbrev Z4a.n:Nat:=160
def Z4a.Vc(a b:Int)(w:Z)(R:J0->Z->Prop):Prop :=
 ((a<=55 ->
 ∀c d,ZB w 5 #[.int Je (O Je (O L (b+a)))] c d ->
 R (Y (.slice (U c) 1 1)) d) /\
 (¬a<=55 ->
 N X 161 #[.int .u64 (O .u64 a)] w (fun a c =>
 ∃d e f,a=Y (.slice d e f) /\
 ∀a g,ZB c 5 #[.int Je (O Je (O L ((O L (b+55))+(e:Int))))] a g ->
 ∃b c,JD X (builtinV JM #[23,23] 23 #[.slice (U a) 1 1,.slice d e f]) g=JG b c /\
 ∃a d e,b=(.slice a d e) /\
 R (Y (.slice a d e)) c)))
theorem Z4a.vc(a b w R)(h:Z4a.Vc a b w R):N X 160 #[(.int L a),(.int L b)] w R:=xs [] [.int L a,.int L b] Tryz.func160 ZO (by kernel_rfl) h
abbrev Z2g.n:Nat:=161
def Z2g.Vc(a:Int)(w:Z)(R:J0->Z->Prop):Prop :=
 ∃(b:Int->Option Addr->Nat->Nat->Z->Prop)(c:Int->Option Addr->Nat->Nat->Z->Nat),b a JN 0 0 w /\
 (∀(a:Int)(d:Option Addr)(e:Nat)(f:Nat)(g:Nat->Value)(g:Z),b a d e f g ->
 ((a>0 ->
 ∀h i,ZB g 5 #[.int Je (O Je a)] h i ->
 ∃j k,JD X (builtinV JM #[23,23] 23 #[.slice (U h) 1 1,.slice d e f]) i=JG j k /\
 ∃h i l,j=(.slice h i l) /\
 b (Q4 a 256) h i l k/\c (Q4 a 256) h i l k<c a d e f g) /\
 (¬a>0 ->
 R (Y (.slice d e f)) g)))
theorem Z2g.vc(a w R)(h:Z2g.Vc a w R):N X 161 #[(.int .u64 a)] w R:=xs [(2,[(0,.cell (.int .u64)),(3,.cell (.slice))])] [.int .u64 a] Tryz.func161 ZO (by kernel_rfl) h
end Go.Proofs.YtfghidehlnfdiaaGreat
end
