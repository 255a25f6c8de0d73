/- Loads, and what else only reads. -/
/- What changes the world, or calls. -/
/- Regions, control, functions. -/
/- Loops, code, functions. -/
import Derived.Test.YtfghidehlnfdiaaGreatXPure4
set_option linter.unusedVariables false
set_option linter.unusedSimpArgs false
open Array renaming ext'->J4,getD_eq_getD_getElem?->X,getElem?_append_left->D,mem_of_getElem?->Z,range->Jq,replicate->JW,toList_inj->JR
open Bool renaming and_eq_true->J5,false->S,false_eq_true->JN,true->J0
open Go renaming Act->JA,Calls->Jv,Exit->Js,Func->Jz,FuncId->Jm,Oper->JE,Operand->JD,Tmp->JX,TypeId->JP,World->O,asAddr->Jt,callFunc->JO,getD_set_true->Jc,invoke->JS,loadVar->J2,resolve->JK,results->Jw,yielded->JL
open Go.Builtin renaming cap_->Jh,len_->JG,max2->Ji,min2->Jk
open Go.Departure renaming mixedOrders->J7
open Go.Ending renaming panicked->J8,returned->Jf
open Go.Instr renaming alloc->JT,arrayAt->Ja,box->Jg,build->Jo,buildSlice->JC,extract->JZ,field->Jp,fieldAt->JY,fill->Jr,index->JI,indexAt->A,loadAt->J3,makeInterface->JM,storeAt->Jb,sureAddr->N
open Go.Next renaming skip->Ju,value->J1
open Go.Result renaming andThen_ok->G,ok->JB
open Go.Sem renaming run_bind->Y,run_pure->U
open Int renaming le_of_lt->Jj,toNat->JJ
open List renaming any_cons->Jd,length->JU,map->Jy,map_cons->Je,map_map->JF,mem_append->JV,mem_cons_of_mem->E,replicate->B,take_of_length_le->JH,zip_cons_cons->J9
open Nat renaming beq->L,beq_refl->Jn,eq_of_beq_eq_true->H,zero_add->Jl
open Option renaming bind_some->JQ,none->Jx,some->F
open Or renaming inl->M,inr->J6
section
namespace Go.Vcg
variable{P:Program}{R:Z7w}
theorem Z9y{d:Addr}{f:Field}{i:TypeInfo}(hi:P.info? f.type=F i)(h:Z0f P f.type≠0)(w:O):(fieldPlace d f).run P w=JB (d.add f.offset) w:=by
 unfold fieldPlace;simp only[Y,Z0s hi,G];rw[if_neg h];rfl
theorem ZFF{x:SV pC}{k:IntKind}{n:Int}(h:asI (pA P R) x=F (k,n)):toV x=.int k n:=ZAo rfl h
theorem ZDE{t:JP}{parts:Array (Nat×JD)}{ev:JD->SV pC}{k:SV pC->Prop}{r:Prop}{o:JE}(ho:o.op=.build t parts)(h:Z2G (pA P R) P o ev k=F r)(hr:r) :
  ∃sv,(∀w,(Jo t (parts.map fun(i,x)=>(i,toV (ev x)))).run P w=JB (toV sv) w)/\k sv:=by
 unfold Z2G at h;simp only[ho]at h;split at h
 ·rename_i cs place hz hp
  have hbuilt:∀(ps:List (Nat×Value)),P.built t ps=Jr place cs ps:=by
   intro ps;unfold ZH3 at hp;unfold Z6D at hz;unfold Program.built;cases hi:P.info? t with
   |none=>rw[hi]at hz;cases hz
   |some it =>
    rw[hi]at hz;simp only[JQ]at hz;split at hp
    ·rename_i n e hu
     cases he:P.info? e with
     |none=>rw[he]at hp;cases hp
     |some ie=>rw[he]at hp;cases hp;simp[hu,hz,he,Value.cells]
    ·rename_i fields hu
     cases hm:fields.toList.mapM (fun f=>(P.info? f.type).map fun i=>(f.offset,i.size))with
     |none=>rw[hm]at hp;cases hp
     |some places=>rw[hm]at hp;cases hp;simp[hu,hz,hm,Value.cells]
    ·cases hp
  have hl:(parts.map fun(i,x)=>(i,toV (ev x))).toList=parts.toList.map fun(i,x)=>(i,toV (ev x)):=by simp
  split at h
  ·obtain⟨l,hb,rfl⟩:=map_some h
   obtain⟨hrw,hk⟩:=Z3u _ _ hr;have:=Z3N (place:=place) (ev:=ev) parts.toList _ l hrw hb;refine⟨_,fun w=>run_build w t _ _ ?_,hk⟩;rw[hbuilt,hl]
   have e:(toVs (Jy (Z3R (pA P R)) cs.toList)).toArray=cs:=by
    rw[Z2I,JF];have:(toV ∘ Z3R (pA P R))=id:=funext fun v=>Z30 v;rw[this];simp
   rw[e]at this;exact this
  ·obtain⟨r',hb,rfl⟩:=map_some h
   obtain⟨hrw,hk⟩:=Z3u _ _ hr;obtain⟨out,ho',hk'⟩:=Z38 (place:=place) (ev:=ev) (n:=cs.size) parts.toList cs r' hrw rfl hb hk;refine⟨_,fun w=>run_build w t _ out ?_,hk'⟩;rw[hbuilt,hl];exact ho'
 ·cases h
theorem Z8B{o:JE}{env:Env pC}{a:JA}(hrep:Rep env a){k:SV pC->Prop}{r:Prop}(h:Z2G (pA P R) P o (ev (pA P R) env) k=F r)(hr:r) :
  ∃sv,(∀w,(execOp a.eval o).run P w=JB (J1 (toV sv)) w)/\k sv:=by
 have hev:∀x,a.eval x=toV (ev (pA P R) env x):=fun x=>hrep.eval x;obtain⟨dst,op,ty,pos,after,guard⟩:=o;cases op with
 |move x=>cases h;exact⟨_,fun w=>by simp[execOp,hev],hr⟩
 |assign x=>cases h;exact⟨_,fun w=>by simp[execOp,hev],hr⟩
 |pick c x y =>
  simp only[Z2G]at h;split at h
  ·rename_i t hc
   cases h;refine⟨_,fun w=>?_,hr⟩;simp only[execOp,hev,hc,toV,asBool];cases t<;>rfl
  ·rename_i b hc
   cases h;obtain⟨h1,h2⟩:=hr;cases hb:den b with
   |true =>
    refine⟨_,fun w=>?_,Z3q _ _ _ h1 hb⟩;simp only[execOp,hev,hc,toV,asBool,hb];rfl
   |false =>
    refine⟨_,fun w=>?_,Z3q _ _ _ h2 hb⟩;simp only[execOp,hev,hc,toV,asBool,hb];rfl
  ·cases h
 |build t parts =>
  obtain⟨sv,h1,h2⟩:=ZDE rfl h hr;refine⟨sv,fun w=>ZV (s:=Jo t (parts.map fun(i,x)=>(i,a.eval x))) rfl ?_,h2⟩;have:(parts.map fun(i,x)=>(i,a.eval x))=parts.map fun(i,x)=>(i,toV (ev (pA P R) env x)):=by simp only[hev]
  rw[this];exact h1 w
 |nilCheck x =>
  simp only[Z2G]at h;split at h
  ·rename_i d hx;cases h;exact⟨_,fun w=>by simp[execOp,hev,hx,toV],hr⟩
  ·rename_i o hx
   cases h;obtain⟨d,hd,hk⟩:=hr;have hd:(o:Option Addr)=F d:=hd;subst hd;exact⟨_,fun w=>by simp[execOp,hev,hx,toV],hk⟩
  ·rename_i f a b hx;cases h;exact⟨_,fun w=>by simp[execOp,hev,hx,toV],hr⟩
  ·rename_i t v hx;cases h;exact⟨_,fun w=>by simp[execOp,hev,hx,toV],hr⟩
  ·rename_i v hx
   cases h;obtain⟨⟨t,u,hv⟩,hk⟩:=hr;have hv:(v:Value)=.iface t u:=hv;subst hv;exact⟨_,fun w=>by simp[execOp,hev,hx,toV],hk⟩
  ·rename_i m v hx
   cases h;obtain⟨⟨t,u,hv,hn⟩,hk⟩:=hr;have hv:(v:Value)=.iface t u:=hv;subst hv;refine⟨_,fun w=>?_,hk⟩;have e:(F (F S) != F (F S))=S:=rfl;simp[execOp,hev,hx,toV,toVs,hn w]
  ·cases h
 |binOp op t x y yt =>
  have hex:∀v w,(Z02 op t x y (toV (ev (pA P R) env x)) (toV (ev (pA P R) env y))).run P w=JB v w ->
    (execOp a.eval ⟨dst,.binOp op t x y yt,ty,pos,after,guard⟩).run P w=JB (J1 v) w:=by
   intro v w hs;refine ZV (s:=Z02 op t x y (a.eval x) (a.eval y)) rfl ?_;rw[hev,hev];exact hs
  simp only[Z2G]at h;split at h
  ·rename_i r' hb
   cases h;obtain⟨sv,h1,h2⟩:=ZFG hb hr;exact⟨sv,fun w=>hex _ w (h1 w t x y),h2⟩
  ·cases hu:P.underlying t with
   |none =>
    have:und P t=.invalid:=by simp[und,hu]
    rw[this]at h;unfold nilS at h;cases op<;>simp[ZIO]at h
   |some d =>
    have:und P t=d:=by simp[und,hu]
    rw[this]at h;obtain⟨sv,h1,h2⟩:=ZFT hu h hr;exact⟨sv,fun w=>hex _ w (h1 w),h2⟩
 |unOp op t x =>
  simp only[Z2G]at h;split at h
  ·rename_i b hx;cases h;refine⟨_,fun w=>ZV (s:=Op.unary .not (a.eval x)) rfl ?_,hr⟩;rw[hev,hx];rfl
  ·rename_i b hx;cases h;refine⟨_,fun w=>ZV (s:=Op.unary .not (a.eval x)) rfl ?_,hr⟩;rw[hev,hx];rfl
  ·rename_i ka n hx;cases h;refine⟨_,fun w=>ZV (s:=Op.unary .neg (a.eval x)) rfl ?_,hr⟩;rw[hev,hx];rfl
  ·rename_i ka n hx;cases h;refine⟨_,fun w=>ZV (s:=Op.unary .neg (a.eval x)) rfl ?_,hr⟩;rw[hev,hx];rfl
  ·rename_i ka n hx;cases h;refine⟨_,fun w=>ZV (s:=Op.unary .xor (a.eval x)) rfl ?_,hr⟩;rw[hev,hx];rfl
  ·cases h
 |convert src d x =>
  simp only[Z2G]at h;split at h
  ·cases h
  ·rename_i hsrc
   obtain⟨ds,hs⟩:∃ds,P.underlying src=F ds:=by
    cases hs:P.underlying src with
    |none=>rw[hs]at hsrc;exact absurd rfl hsrc
    |some ds=>exact⟨ds,rfl⟩
   split at h
   ·rename_i kd k' n hu hx
    cases h;have hu:=Z2H hu (by simp);refine⟨_,fun w=>ZV (s:=convert src d (a.eval x)) rfl ?_,hr⟩;rw[hev,hx];unfold convert;simp only[Y,Zc hs,Zc hu,G,toV];rfl
   ·rename_i kd k' n hu hx
    cases h;have hu:=Z2H hu (by simp);refine⟨_,fun w=>ZV (s:=convert src d (a.eval x)) rfl ?_,hr⟩;rw[hev,hx];unfold convert;simp only[Y,Zc hs,Zc hu,G,toV];rfl
   ·rename_i s hu hx
    have hu:=Z2H hu (by simp);split at h
    ·rename_i hs'
     have hs':=Z2H hs' (by simp);cases h;refine⟨_,fun w=>ZV (s:=convert src d (a.eval x)) rfl ?_,hr⟩;rw[hev,hx];unfold convert;simp only[Y,Zc hs',Zc hu,G,toV];rfl
    ·cases h
   ·cases h
 |makeInterface t x =>
  simp only[Z2G]at h;split at h
  ·cases h
  ·cases h
  ·rename_i h1 h2
   cases h;have hu:P.underlying t=F (und P t):=Z2H rfl h2;refine⟨_,fun w=>ZV (s:=JM t (a.eval x)) rfl ?_,hr⟩;rw[hev];unfold JM;simp only[Y,Zc hu,G,toV]
   cases hd:und P t<;>first
    |rfl
    |exact absurd hd (h1 _)
 |makeFunc fn first cap =>
  simp only[Z2G]at h;cases h;refine⟨_,fun w=>ZV (s:=Instr.makeFunc fn (first.map a.eval) (cap.map a.eval)) rfl ?_,hr⟩
  have:∀xs:Array JD,xs.map a.eval=(toVs (xs.toList.map (ev (pA P R) env))).toArray:=by
   intro xs;rw[Z2I,JF];have:toV ∘ ev (pA P R) env=a.eval:=funext fun x=>(hev x).symm;rw[this];exact J4 (by simp)
  rw[this,this];rfl
 |slice t x lo hi mx =>
  simp only[Z2G]at h;cases mx with
  |some m=>cases h
  |none =>
   obtain⟨sv,h1,h2⟩:=ZDk h hr;refine⟨sv,fun w=>ZV (s:=Instr.sliceAt t (a.eval x) (lo.map a.eval) (hi.map a.eval) Jx) rfl ?_,h2⟩
   have e:∀z:Option JD,z.map a.eval=(z.map (ev (pA P R) env)).map toV:=by
    intro z;cases z<;>simp[hev]
   rw[e,e,hev];exact h1 w
 |fieldAddr s x f =>
  simp only[Z2G]at h;split at h
  ·rename_i d fs hx hu
   have hu:=Z2H hu (by simp);split at h
   ·rename_i fd hf
    split at h
    ·cases h
    ·rename_i hne
     split at h
     ·cases h
     ·rename_i hsome
      cases h
      obtain⟨du,hdu⟩:∃du,P.underlying fd.type=F du:=by
       cases hs:P.underlying fd.type with
       |none=>rw[hs]at hsome;exact absurd rfl hsome
       |some ds=>exact⟨ds,rfl⟩
      obtain⟨i,hi⟩:=Z4s hdu;refine⟨_,fun w=>ZV (s:=JY s (a.eval x) f) rfl ?_,hr⟩;rw[hev,hx];unfold JY;simp only[Y,Zc hu,G,hf,toV,N,U,Z9y hi hne];by_cases h0:fd.offset=0
      ·rw[if_pos h0,h0,Z4K]
      ·rw[if_neg h0];rfl
   ·cases h
  ·cases h
 |field s x f =>
  simp only[Z2G]at h;split at h
  ·rename_i fs hu
   have hu:=Z2H hu (by simp);split at h
   ·rename_i fd hf
    split at h
    ·cases h
    ·rename_i hsome
     have hd:∃du,P.underlying fd.type=F du:=by
      cases hs:P.underlying fd.type with
      |none=>rw[hs]at hsome;exact absurd rfl hsome
      |some ds=>exact⟨ds,rfl⟩
     obtain⟨sv,⟨cs,hc,h1⟩,h2⟩:=Z9N hd h hr;refine⟨sv,fun w=>ZV (s:=Jp s (a.eval x) f) rfl ?_,h2⟩;rw[hev,hc];unfold Jp;simp only[Y,Zc hu,G,hf,asAgg,U,h1]
   ·cases h
  ·cases h
 |indexAddr t x i =>
  simp only[Z2G]at h;split at h
  ·rename_i e o len cap hu hx
   have hu:=Z2H hu (by simp);split at h
   ·rename_i kk n hi
    split at h
    ·cases h
    ·rename_i hsome
     obtain⟨ie,hie⟩:∃ie,P.info? e=F ie:=by
      cases hs:P.info? e with
      |none=>rw[hs]at hsome;exact absurd rfl hsome
      |some ds=>exact⟨ds,rfl⟩
     cases h;obtain⟨d,hd,hn,hk⟩:=hr;have hd:(o:Option Addr)=F d:=hd;subst hd;refine⟨_,fun w=>ZV (s:=A t (a.eval x) (a.eval i)) rfl ?_,hk⟩;rw[hev,hev,hx,ZFF hi];unfold A;have hn:0<=n/\n<((len:Nat):Int):=hn;simp only[Y,asIntOf,U,G,Zc hu,toV,if_pos hn,Z0s hie]
     have:Addr.add d (JJ n*Z0f P e)=Addr.add d (Z2G.idx (pA P R) (Z0f P e) (ev (pA P R) env i) n):=by
      congr 1;unfold Z2G.idx;split
      ·rename_i k c hc
       rw[hc]at hi;cases hi;rfl
      ·split
       ·rename_i h1;rw[h1];simp[pA]
       ·rfl
     rw[this];rfl
   ·cases h
  ·rename_i m e d hu hx
   have hu:=Z2H hu (by simp);split at h
   ·cases h
   ·rename_i hsome
    obtain⟨ie,hie⟩:∃ie,P.info? e=F ie:=by
     cases hs:P.info? e with
     |none=>rw[hs]at hsome;exact absurd rfl hsome
     |some ds=>exact⟨ds,rfl⟩
    split at h
    ·rename_i kk n hi
     split at h
     ·rename_i hn
      cases h;refine⟨_,fun w=>ZV (s:=A t (a.eval x) (a.eval i)) rfl ?_,hr⟩;rw[hev,hev,hx,hi];unfold A;simp only[Y,asIntOf,U,G,Zc hu,toV,N,if_pos hn,Z0s hie];by_cases h0:n=0
      ·rw[if_pos h0,h0];simp[Z4K]
      ·rw[if_neg h0];rfl
     ·cases h
    ·rename_i kk n hi
     cases h;obtain⟨hn,hk⟩:=hr;have hn:0<=n/\n<((m:Nat):Int):=hn;refine⟨_,fun w=>ZV (s:=A t (a.eval x) (a.eval i)) rfl ?_,hk⟩;rw[hev,hev,hx,hi];unfold A;simp only[Y,asIntOf,U,G,Zc hu,toV,N,if_pos hn,Z0s hie];by_cases h1:Z0f P e=1
     ·rw[if_pos h1,h1,Nat.mul_one];rfl
     ·rw[if_neg h1];rfl
    ·cases h
  ·cases h
 |index t x i =>
  simp only[Z2G]at h;split at h
  ·rename_i v m e kk n hu hi
   have hu:=Z2H hu (by simp);split at h
   ·cases h
   ·rename_i hsome
    have hd:∃du,P.underlying e=F du:=by
     cases hs:P.underlying e with
     |none=>rw[hs]at hsome;exact absurd rfl hsome
     |some ds=>exact⟨ds,rfl⟩
    split at h
    ·rename_i hn
     obtain⟨du,hdu⟩:=hd;obtain⟨ie,hie⟩:=Z4s hdu;obtain⟨sv,⟨cs,hc,h1⟩,h2⟩:=Z9N ⟨du,hdu⟩ h hr;refine⟨sv,fun w=>ZV (s:=JI t (a.eval x) (a.eval i)) rfl ?_,h2⟩;rw[hev,hev,hc,hi];unfold JI;simp only[Y,asIntOf,U,G,Zc hu,toV,if_pos hn,Z0s hie,h1]
    ·cases h
  ·rename_i i' s hu hx
   have hu:=Z2H hu (by simp);split at h
   ·rename_i kk n hi
    cases h;obtain⟨hn,hk⟩:=hr;have hn:0<=n/\n<((ByteArray.size s:Nat):Int):=hn;refine⟨_,fun w=>ZV (s:=JI t (a.eval x) (a.eval i)) rfl ?_,hk⟩;rw[hev,hev,hx,ZFF hi];unfold JI;simp only[Y,asIntOf,U,G,Zc hu,toV];have hlt:JJ n<ByteArray.size s:=(Int.toNat_lt hn.1).2 hn.2;rw[if_pos hn.1];have hg:s[JJ n]?=F (s[JJ n]'hlt):=by simp[hlt]
    simp only[hg,U];show _=JB (Value.int .u8 (strAt s (JJ n))) w;simp only[strAt,hg,Option.map_some,Option.getD_some]
   ·cases h
  ·cases h
 |extract x i =>
  simp only[Z2G]at h;split at h
  ·rename_i vs hx
   obtain⟨v,hv,rfl⟩:=map_some h;refine⟨v,fun w=>ZV (s:=JZ (a.eval x) i) rfl ?_,hr⟩;rw[hev,hx];simp[JZ,toV,toVs_getElem?,hv]
  ·cases h
 |sliceToArrayPointer t x =>
  simp only[Z2G]at h;split at h
  ·rename_i n e o len cap hu hx
   have hu:=Z2H hu (by simp);cases h;obtain⟨h1,hk⟩:=hr;have h1:n<=(len:Nat):=h1;refine⟨_,fun w=>ZV (s:=Ja t (a.eval x)) rfl ?_,hk⟩;rw[hev,hx];unfold Ja;simp only[Y,Zc hu,G,toV];rw[if_neg (Nat.not_lt.2 h1)];rfl
  ·cases h
 |call c =>
  simp only[Z2G]at h;obtain⟨callee,args,ats⟩:=c;have hargs:∀l,args.toList=l->args=l.toArray:=fun l hl=>by rw[<-hl]
  split at h
  ·
   rename_i x t hc ha ht;subst hc;obtain rfl:=hargs _ ha;have ht':ats=#[t]:=by rw[<-JR];exact ht
   subst ht'
   have key:∀v,(∀w,(JG #[t] ty #[toV (ev (pA P R) env x)]).run P w=JB v w)->∀w,(execOp a.eval ⟨dst,.call ⟨.builtin .len,[x].toArray,#[t]⟩,ty,pos,after,guard⟩).run P w=JB (J1 v) w:=by
    intro v hv w;have:=hv w;simp[execOp,JK,JS,builtin,hev,this]
   split at h
   ·rename_i e o l cap hu hx
    have hu:=Z2H hu (by simp);cases h;refine⟨_,key _ fun w=>?_,hr⟩;rw[hx];simp[JG,Zc hu,toV,goInt];rfl
   ·rename_i s hu hx
    have hu:=Z2H hu (by simp);cases h;refine⟨_,key _ fun w=>?_,hr⟩;rw[hx];simp[JG,Zc hu,toV,goInt];rfl
   ·rename_i n e hu
    have hu:=Z2H hu (by simp);cases h;refine⟨_,key _ fun w=>?_,hr⟩;simp[JG,Zc hu,toV,goInt]
   ·cases h
  ·rename_i x t hc ha ht
   subst hc;obtain rfl:=hargs _ ha;have ht':ats=#[t]:=by rw[<-JR];exact ht
   subst ht'
   have key:∀v,(∀w,(Jh #[t] ty #[toV (ev (pA P R) env x)]).run P w=JB v w)->∀w,(execOp a.eval ⟨dst,.call ⟨.builtin .cap,[x].toArray,#[t]⟩,ty,pos,after,guard⟩).run P w=JB (J1 v) w:=by
    intro v hv w;have:=hv w;simp[execOp,JK,JS,builtin,hev,this]
   split at h
   ·rename_i e o l cap hu hx
    have hu:=Z2H hu (by simp);cases h;refine⟨_,key _ fun w=>?_,hr⟩;rw[hx];simp[Jh,Zc hu,toV,goInt,pA]
   ·cases h
  ·rename_i x y hc ha
   subst hc;obtain rfl:=hargs _ ha
   have key:∀v,(∀w,(Ji (toV (ev (pA P R) env x)) (toV (ev (pA P R) env y))).run P w=JB v w)->∀w,(execOp a.eval ⟨dst,.call ⟨.builtin .max,[x,y].toArray,ats⟩,ty,pos,after,guard⟩).run P w=JB (J1 v) w:=by
    intro v hv w;have:=hv w;simp[execOp,JK,JS,builtin,hev,Builtin.max_,this]
   split at h
   ·rename_i ka n kb m hx hy
    split at h
    ·rename_i hk
     subst hk;cases h;have ex:=ZFF hx;have ey:=ZFF hy;refine⟨_,key _ fun w=>?_,hr⟩;rw[ex,ey];simp only[Ji,pA,toV];by_cases hlt:(n:Int)<m
     ·rw[if_pos hlt,Int.max_eq_right (Jj hlt)];rfl
     ·rw[if_neg hlt,Int.max_eq_left (Int.not_lt.1 hlt)];rfl
    ·cases h
   ·cases h
  ·rename_i x y hc ha
   subst hc;obtain rfl:=hargs _ ha
   have key:∀v,(∀w,(Jk (toV (ev (pA P R) env x)) (toV (ev (pA P R) env y))).run P w=JB v w)->∀w,(execOp a.eval ⟨dst,.call ⟨.builtin .min,[x,y].toArray,ats⟩,ty,pos,after,guard⟩).run P w=JB (J1 v) w:=by
    intro v hv w;have:=hv w;simp[execOp,JK,JS,builtin,hev,Builtin.min_,this]
   split at h
   ·rename_i ka n kb m hx hy
    split at h
    ·rename_i hk
     subst hk;cases h;have ex:=ZFF hx;have ey:=ZFF hy;refine⟨_,key _ fun w=>?_,hr⟩;rw[ex,ey];simp only[Jk,pA,toV];by_cases hlt:(m:Int)<n
     ·rw[if_pos hlt,Int.min_eq_right (Jj hlt)];rfl
     ·rw[if_neg hlt,Int.min_eq_left (Int.not_lt.1 hlt)];rfl
    ·cases h
   ·cases h
  ·cases h
 |_=>cases h
end Go.Vcg
end
section
namespace Go.Vcg
variable{P:Program}{R:Z7w}
theorem Z5H{w:O}{d:Addr}:∀(svs:List (SV pC)) (i:Nat) (r:Prop),ZAq (pA P R) w d i svs r->(∀j sv,svs[j]?=F sv->w.cell? (d.add (i+j))=F (toV sv))/\r
 |[],_,_,h=>⟨by simp,h⟩
 |v::vs,i,r,h=>by
  obtain⟨h1,h2⟩:=h;obtain⟨h3,h4⟩:=Z5H vs (i+1) r h2;refine⟨fun j sv hj=>?_,h4⟩;cases j with
  |zero =>
   simp at hj;subst hj;by_cases h0:i=0
   ·rw[if_pos h0]at h1
    rw[h0,Nat.add_zero,Z4K];exact h1
   ·rw[if_neg h0]at h1
    exact h1
  |succ j =>
   simp at hj;have:=h3 j sv hj;rw[show i+(j+1)=i+1+j from by omega];exact this
theorem Z5a{t:JP}{d:Addr}{w:O}{vs:List Value}(hag:Z85 (und P t)=J0)(hsz:Z0f P t=vs.length)(hc:∀j v,vs[j]?=F v->w.cell? (d.add j)=F v) :
  (J2 t d).run P w=JB (.agg vs.toArray) w:=by
 have hu:P.underlying t=F (und P t):=Z2H rfl (by intro he;rw[he]at hag;cases hag);obtain⟨i,hi⟩:=Z4s hu;unfold J2;simp only[Y,Z7C hu,G,hag,if_true,Z0s hi,hsz];rw[run_loadCells_list _ d vs hc];rfl
theorem Z8R{t:JP}{d:Addr}{w:O}{v:Value}{du:TypeDesc}(hu:P.underlying t=F du)(hag:Z85 (und P t)=S)(hc:w.cell? d=F v) :
  (J2 t d).run P w=JB v w:=by
 have hd:und P t=du:=by simp[und,hu]
 unfold J2;simp only[Y,Z7C hu,G,<-hd,hag,JN,if_false,run_load,hc]
theorem Z3b{t:JP}{d:Addr}{w:O}{sv:SV pC}{du:TypeDesc}(hu:P.underlying t=F du)
  (h:match Z4Z P t,sv with
    | .cell _,sv=>w.cell? d=F (toV sv)
    | .agg cs,.agg svs=>svs.length=cs.length/\∀j sv,svs[j]?=F sv->w.cell? (d.add j)=F (toV sv)
    | .big n,.big m l=>m=n/\ZG w d n l
    |_,_=>False):(J2 t d).run P w=JB (toV sv) w:=by
 split at h
 ·rename_i c hs
  exact Z8R hu (Z7Y hs) h
 ·rename_i cs svs hs
  obtain⟨hag,hlen⟩:=Z4m hs;obtain⟨h1,h2⟩:=h;refine Z5a hag (by rw[Z00];omega) fun j v hj=>?_;rw[toVs_getElem?]at hj;cases hsj:svs[j]? with
  |none=>rw[hsj]at hj;cases hj
  |some sv=>rw[hsj]at hj;cases hj;exact h2 j sv hsj
 ·rename_i n m l hs
  obtain⟨rfl,h1,h2⟩:=h;obtain⟨hag,hlen⟩:=ZBn hs
  have:=Z5a (w:=w) (d:=d) (vs:=Array.toList l) hag (by rw[<-hlen,<-h1];simp) fun j v hj=>by
   have hlt:j<m:=by
    rw[<-h1];have:=(List.getElem?_eq_some_iff.1 hj).1;simpa using this
   rw[h2 j hlt];simpa using hj
  simpa[toV]using this
 ·cases h
theorem ZDP{cs:List Z8m}{f:List (SV pC)->Prop}(h:Z7c (pA P R) cs f):∃svs,svs.length=cs.length/\f svs:=Z42 cs f h
theorem Z6S{t:JP}{d:Addr}{w:O}{k:SV pC->Prop}(h:ZGm (pA P R) P t d w k) :
  ∃sv,(J2 t d).run P w=JB (toV sv) w/\k sv/\∀w' r,Z7o (pA P R) P t d w' sv r->(J2 t d).run P w'=JB (toV sv) w'/\r:=by
 unfold ZGm at h;split at h
 ·exact h.elim
 ·rename_i hsome
  obtain⟨du,hu⟩:∃du,P.underlying t=F du:=by
   cases hs:P.underlying t with
   |none=>rw[hs]at hsome;exact absurd rfl hsome
   |some ds=>exact⟨ds,rfl⟩
  split at h
  ·rename_i c hs
   obtain⟨sv,h1,h2⟩:=Z4p _ _ h;refine⟨sv,Z3b hu (by rw[hs];exact h1),h2,fun w' r hr=>?_⟩;unfold Z7o at hr;rw[hs]at hr;exact⟨Z3b hu (by rw[hs];exact hr.1),hr.2⟩
  ·rename_i cs hs
   obtain⟨svs,hl,h⟩:=ZDP h;obtain⟨h1,h2⟩:=Z5H _ _ _ h;simp only[Jl]at h1;refine⟨.agg svs,Z3b hu (by rw[hs];exact⟨hl,h1⟩),h2,fun w' r hr=>?_⟩;unfold Z7o at hr;rw[hs]at hr;obtain⟨h3,h4⟩:=Z5H _ _ _ hr;simp only[Jl]at h3;exact⟨Z3b hu (by rw[hs];exact⟨hl,h3⟩),h4⟩
  ·rename_i n hs
   obtain⟨l,h1,h2⟩:=h;refine⟨.big n l,Z3b hu (by rw[hs];exact⟨rfl,h1⟩),h2,fun w' r hr=>?_⟩;unfold Z7o at hr;rw[hs]at hr;exact⟨Z3b hu (by rw[hs];exact⟨rfl,hr.1⟩),hr.2⟩
theorem Z7E{o:JE}{ρ:JD->Value}{s:Sem Value}(h:ZHM o ρ=F s):execOp ρ o=(do pure (J1 (<-s))):=by
 obtain⟨dst,op,ty,pos,after,guard⟩:=o;cases op with
 |call c =>
  obtain⟨callee,args,ats⟩:=c;simp only[ZHM]at h;cases callee with
  |builtin b=>cases b<;>first
   |(cases h;rfl)
   |(cases h;done)
  |_=>cases h
 |_=>first
  |(cases h;rfl)
  |cases h
theorem Z8F{o:JE}{env:Env pC}{a:JA}{w:O}(hrep:Rep env a){k:SV pC->Prop}(h:ZEm (pA P R) P o (ev (pA P R) env) w k) :
  ∃sv,(execOp a.eval o).run P w=JB (J1 (toV sv)) w/\k sv /\
   ∀w' r,Z5p (pA P R) P o (ev (pA P R) env) sv w' r->(execOp a.eval o).run P w'=JB (J1 (toV sv)) w'/\r:=by
 have hev:∀x,a.eval x=toV (ev (pA P R) env x):=fun x=>hrep.eval x;have hfun:(fun x=>toV (ev (pA P R) env x))=a.eval:=funext fun x=>(hev x).symm;unfold ZEm at h;split at h
 ·rename_i t x ho
  split at h
  ·rename_i d hx
   obtain⟨sv,h1,h2,h3⟩:=Z6S h;have hex:execOp a.eval o=(do pure (J1 (<-J3 t (a.eval x)))):=by unfold execOp;simp only[ho]
   have hl:∀w,(J3 t (a.eval x)).run P w=(J2 t d).run P w:=fun w=>by
    rw[hev,hx];simp[J3,toV,N]
   refine⟨sv,ZV hex (by rw[hl];exact h1),h2,fun w' r hr=>?_⟩;unfold Z5p at hr;simp only[ho,hx]at hr;obtain⟨h4,h5⟩:=h3 w' r hr;exact⟨ZV hex (by rw[hl];exact h4),h5⟩
  ·rename_i oo hx
   obtain⟨d,ho',h⟩:=h;obtain⟨sv,h1,h2,h3⟩:=Z6S h;have hex:execOp a.eval o=(do pure (J1 (<-J3 t (a.eval x)))):=by unfold execOp;simp only[ho]
   have hl:∀w,(J3 t (a.eval x)).run P w=(J2 t d).run P w:=fun w=>by
    rw[hev,hx];simp[J3,toV,N,ho']
   refine⟨sv,ZV hex (by rw[hl];exact h1),h2,fun w' r hr=>?_⟩;unfold Z5p at hr;simp only[ho,hx]at hr;obtain⟨d',ho2,hr⟩:=hr
   obtain rfl:d=d':=by
    have e:=ho'.symm.trans ho2;injection e
   obtain⟨h4,h5⟩:=h3 w' r hr;exact⟨ZV hex (by rw[hl];exact h4),h5⟩
  ·exact h.elim
 ·rename_i hno
  simp only[pA]at h;cases hs:ZHM o (fun x=>toV (ev (pA P R) env x))with
  |none=>have h':=h;simp only[pA]at hs;rw[hs]at h';exact h'.elim
  |some s =>
   have h':=h;simp only[pA]at hs;rw[hs]at h';obtain⟨v,h1,h2⟩:=h';obtain⟨sv,h3,h4⟩:=Z5I (P:=P) (R:=R) _ _ h2;have h3:v=toV sv:=h3;subst h3;have hs':ZHM o a.eval=F s:=by rw[<-hfun];exact hs
   refine⟨sv,ZV (Z7E hs') h1,h4,fun w' r hr=>?_⟩;unfold Z5p at hr;split at hr
   ·rename_i t x ho;exact absurd ho (hno t x)
   ·simp only[pA]at hr
    rw[hs]at hr;exact⟨ZV (Z7E hs') hr.1,hr.2⟩
end Go.Vcg
end
section
namespace Go.Vcg
variable{P:Program}{R:Z7w}
theorem ZAe{d:Addr}:∀(svs:List (SV pC)) (i:Nat) (w:O) (k:O->Prop),ZK3 (pA P R) d i svs w k->∃w',(storeCells d (toVs svs) i).run P w=JB () w'/\(∀sv∈svs,(toV sv).oneCell'=J0)/\k w'
 |[],i,w,k,h=>⟨w,rfl,by simp,h⟩
 |v::vs,i,w,k,h=>by
  obtain⟨⟨h1,⟨u,hu⟩,h2⟩,h⟩:=h;obtain⟨w',h3,h4,h5⟩:=ZAe vs (i+1) _ k (h _ rfl)
  have hd:(if i=0 then d else(pA P R).dadd d ((pA P R).nl i))=Addr.add d i:=by
   by_cases h0:i=0
   ·rw[if_pos h0,h0,Z4K]
   ·rw[if_neg h0];rfl
  rw[hd]at hu h2 h3;refine⟨w',?_,List.forall_mem_cons.2 ⟨h1,h4⟩,h5⟩;simp only[toVs,storeCells,Y,run_store P w _ _ _ h1,hu,h2];exact h3
theorem Z8M(cs:List Value):toVs (cs.map (Z3R (pA P R)))=cs:=by
 rw[Z2I,JF];have:(toV ∘ Z3R (pA P R))=id:=funext fun v=>Z30 v;rw[this];simp
theorem ZAa{t:JP}{v:Value}{w:O}:(newVar t v).run P w=JB ⟨w.heap.size,0,Jx⟩ (w.alloc (.cells v.cells t)):=by
 simp[newVar,newRow]
section
variable{o:JE}{a:JA}{w:O}{next:JA->O->Prop}{Q:Js->JA->O->Prop}
theorem Z2P{v:Value}{w':O}(h:(execOp a.eval o).run P w=JB (J1 v) w')(hn:next (a.put o.dst v) w'):o.wp P a w next Q:=by
 unfold Oper.wp;rw[h];exact hn
theorem ZF5{w':O}(h:(execOp a.eval o).run P w=JB Ju w')(hn:next (a.put o.dst undef) w'):o.wp P a w next Q:=by
 unfold Oper.wp;rw[h];exact hn
theorem Z8k{f:Jm}{args:Array Value}{w':O}(h:(execOp a.eval o).run P w=JB (.enter f args) w')(hn:Jv P f args w' fun e w''=>(∃ch,e=J8 ch/\Q (.panic ch) a w'')\/∃v,e=Jf v/\next (a.put o.dst v) w''):o.wp P a w next Q:=by
 unfold Oper.wp;rw[h]
 exact hn.mono fun e w'' hh=>by
  rcases hh with⟨ch,he,hv⟩|⟨v,he,hv⟩
  ·subst he;exact hv
  ·subst he;exact hv
theorem ZC5{ρ:JD->Value}{s:Sem Unit}{w w':O}(ho:execOp ρ o=(do s;pure Ju))(h:s.run P w=JB () w') :
  (execOp ρ o).run P w=JB Ju w':=by
 rw[ho];simp[h]
theorem ZHL{ρ:JD->Value}{s:Sem Unit}(h:semU o ρ=F s):execOp ρ o=(do s;pure Ju):=by
 obtain⟨dst,op,ty,pos,after,guard⟩:=o
 cases op<;>first
  |(cases h;rfl)
  |(cases h;done)
end
theorem Z3K{f:Jm}{args:Array Value}(h:ZAE P f=J0)(w:O):(JO f args).run P w=JB (.enter f args) w:=by
 unfold ZAE at h;cases hf:P.funcs[f]? with
 |none=>rw[hf]at h;cases h
 |some fn =>
  rw[hf]at h;simp only[J5,bne_iff_ne,ne_eq]at h;unfold JO;have hb:fn.body≠Jx:=by rintro hb;rw[hb]at h;cases h.1
  simp[hf,h.2,hb]
theorem ZI8{sh:Shape}{e:Ending}{k:SV pC->Prop}(h:Z4q (pA P R) sh fun sv=>(pA P R).endEq e sv (k sv)):∃sv,e=Jf (toV sv)/\k sv :=
 Z5I (P:=P) (R:=R) _ _ h
theorem ZKv{sh:Shape}{v:Value}{k:SV pC->Prop}(h:Z4q (pA P R) sh fun sv=>(pA P R).valEq v sv (k sv)):∃sv,v=toV sv/\k sv :=
 Z5I (P:=P) (R:=R) _ _ h
theorem Z8O(z:Value):toVs (Z7u (pA P R) z)=z.cells.toList:=by
 unfold Z7u;split
 ·rw[Z8M];rfl
 ·rename_i h
  simp only[toVs,Z30]
  cases z<;>first
   |rfl
   |exact absurd rfl (h _)
theorem ZIz(n:Nat)(l:List (SV pC)):toVs (B n l).flatten=(B n (toVs l)).flatten:=by
 simp[Z2I,List.map_flatten]
theorem ZEJ{α:Type}(l:List α):∀(n i:Nat),i<n*l.length->(B n l).flatten[i]?=l[i%l.length]?
 |0,i,h=>by simp at h
 |n+1,i,h=>by
  rw[List.replicate_succ,List.flatten_cons];by_cases hi:i<l.length
  ·rw[List.getElem?_append_left hi,Nat.mod_eq_of_lt hi]
  ·have hle:l.length<=i:=Nat.not_lt.1 hi
   rw[List.getElem?_append_right hle,ZEJ l n (i-l.length) (by rw[Nat.add_mul,Nat.one_mul]at h;omega),<-Nat.mod_eq_sub_mod hle]
theorem ZE3(l:Array Value)(n:Nat):((Jq (n*l.size)).map fun i=>l[i%l.size]!)=((B n l.toList).flatten).toArray:=by
 have hlen:(B n l.toList).flatten.length=n*l.size:=by simp
 refine Array.ext (by simp) fun i h1 h2=>?_;have hi:i<n*l.size:=by simpa using h1
 have hpos:0<l.size:=by
  rcases Nat.eq_zero_or_pos l.size with h|h
  ·rw[h,Nat.mul_zero]at hi;omega
  ·exact h
 have hm:i%l.size<l.size:=Nat.mod_lt _ hpos;have:=ZEJ l.toList n i (by simpa using hi);rw[List.getElem?_eq_getElem (by rw[hlen];exact hi)]at this;simp only[Array.getElem_map,Array.getElem_range,List.getElem_toArray];have e:l.toList[i%l.toList.length]?=F l[i%l.size]:=by simp[hm]
 rw[e]at this;simp only[Option.some.injEq]at this;rw[this];simp[hm]
theorem Z6C{t e:JP}{n:Nat}{z:Value}{cells:Array Value}{parts:Array (Nat×Value)}{ie:TypeInfo}{w:O}(hu:P.underlying t=F (.slice e))(hie:P.info? e=F ie)
  (hz:Z6D P e=F z) (hsz:z.cells.size=Z0f P e) (hn:n*Z0f P e<=4096)
  (hf:Jr (fun i=>F (i*Z0f P e,Z0f P e)) ((B n z.cells.toList).flatten).toArray parts.toList=F cells) :
  (JC t n parts).run P w=JB (.slice (F ⟨w.heap.size,0,Jx⟩) n n) (w.alloc (.cells cells e)):=by
 unfold JC;simp only[Y,Zc hu,G,Z0s hie];have hbig:¬n*Z0f P e>2^24:=by omega
 rw[if_neg hbig];by_cases h0:n*Z0f P e=0
 ·have hnil:(B n z.cells.toList).flatten=[]:=by
    rw[<-List.length_eq_zero_iff];simp[hsz,h0]
  rw[hnil]at hf;have e0:(Array.map (fun x=>(default:Value)) (Jq 0))=#[]:=by simp
  simp[h0,e0,hf,newRow]
 ·have hr:=ZE3 z.cells n
  rw[hsz]at hr;rw[<-hr]at hf;simp[h0,ZF6 hz,hsz,hf,newRow]
theorem ZFJ{o:JE}{env:Env pC}{a:JA}{w:O}(hrep:Rep env a){k:SV pC->O->Prop}(h:evOp (pA P R) P o (ev (pA P R) env) w k)
  {next:JA->O->Prop} {Q:Js->JA->O->Prop} (hR:∀ch w',R.fin (J8 ch) w'->Q (.panic ch) a w') (hk:∀sv w',k sv w'->next (a.put o.dst (toV sv)) w'):o.wp P a w next Q:=by
 have hev:∀x,a.eval x=toV (ev (pA P R) env x):=fun x=>hrep.eval x;have hfun:(fun x=>toV (ev (pA P R) env x))=a.eval:=funext fun x=>(hev x).symm
 have ran:(pA P R).run o (ev (pA P R) env) w (fun v w=>Z4q (pA P R) (ZAb P o.type) fun sv=>(pA P R).valEq v sv (k sv w))->o.wp P a w next Q:=by
  intro h;simp only[pA]at h;cases hs:ZHM o (fun x=>toV (ev (pA P R) env x))with
  |none=>have h':=h;simp only[pA]at hs;rw[hs]at h';exact h'.elim
  |some s =>
   have h':=h;simp only[pA]at hs;rw[hs]at h';obtain⟨v,w',h1,h2⟩:=h';obtain⟨sv,h3,h4⟩:=ZKv (P:=P) (R:=R) h2;subst h3;have hs':ZHM o a.eval=F s:=by rw[<-hfun];exact hs
   exact Z2P (ZV (Z7E hs') h1) (hk _ _ h4)
 have ranR:(pA P R).run o (ev (pA P R) env) w (fun v w=>k (.raw v) w)->o.wp P a w next Q:=by
  intro h;simp only[pA]at h;cases hs:ZHM o (fun x=>toV (ev (pA P R) env x))with
  |none=>have h':=h;simp only[pA]at hs;rw[hs]at h';exact h'.elim
  |some s =>
   have h':=h;simp only[pA]at hs;rw[hs]at h';obtain⟨v,w',h1,h2⟩:=h';have hs':ZHM o a.eval=F s:=by rw[<-hfun];exact hs
   exact Z2P (ZV (Z7E hs') h1) (hk _ _ h2)
 have ranU:(pA P R).runU o (ev (pA P R) env) w (fun w=>k (.tup []) w)->o.wp P a w next Q:=by
  intro h;simp only[pA]at h;cases hs:semU o (fun x=>toV (ev (pA P R) env x))with
  |none=>have h':=h;simp only[pA]at hs;rw[hs]at h';exact h'.elim
  |some s =>
   have h':=h;simp only[pA]at hs;rw[hs]at h';obtain⟨w',h1,h2⟩:=h';have hs':semU o a.eval=F s:=by rw[<-hfun];exact hs
   exact ZF5 (ZC5 (ZHL hs') h1) (hk _ _ h2)
 have panicC:∀x,o.op=.panic x->∀t v,ev (pA P R) env x=.iface t v->(pA P R).panic (.iface t v) w->o.wp P a w next Q:=by
  intro x ho t v hx h
  have h:(match R.pan with
   |true=>R.fin (J8 (ZH1 (toV (.iface t v)))) w
   |false=>False):=h
  split at h
  case h_2=>exact h.elim
  have he:a.eval x=.iface t (toV v):=by rw[hev,hx];rfl
  have hex:(execOp a.eval o).run P w=.halt (.panic (.iface t (toV v))) w:=by
   simp only[execOp,ho,he];rfl
  unfold Oper.wp;rw[hex];exact hR _ _ h
 unfold evOp at h;simp only at h;split at h
 ·
  rename_i t ho;have hex:execOp a.eval o=(do pure (J1 (<-JT t J0 (.tuple #[])))):=by unfold execOp;simp only[ho]
  have key:∀z,Z6D P t=F z->(JT t J0 (.tuple #[])).run P w=JB (.pointer (F ⟨w.heap.size,0,Jx⟩)) (w.alloc (.cells z.cells t)):=by
   intro z hz;unfold JT;simp only[Y,ZF6 hz,G,ZAa,U]
  split at h
  ·rename_i cs hz
   split at h
   ·have h':=h _ _ ⟨rfl,rfl⟩
    refine Z2P (ZV hex (key _ hz)) ?_;have:=hk _ _ h';rw[Z8M]at this;simpa[Value.cells,toV]using this
   ·have h':=h _ _ ⟨rfl,rfl⟩
    exact Z2P (ZV hex (key _ hz)) (hk _ _ h')
  ·rename_i z hn hz
   have h':=h _ _ ⟨rfl,rfl⟩;refine Z2P (ZV hex (key _ hz)) ?_;have:=hk _ _ h'
   have hc:z.cells=#[z]:=by
    cases z<;>first
     |rfl
     |exact absurd rfl (hn _)
   simp only[toVs,Z30,toV]at this;rw[hc];exact this
  ·exact h.elim
 ·
  rename_i t x ho;have hex:execOp a.eval o=(do pure (J1 (<-Jg t (a.eval x)))):=by unfold execOp;simp only[ho]
  have key:(Jg t (a.eval x)).run P w=JB (.pointer (F ⟨w.heap.size,0,Jx⟩)) (w.alloc (.cells (a.eval x).cells t)):=by
   unfold Jg;simp only[Y,G,ZAa,U]
  split at h
  ·rename_i n l hx
   have h':=h _ _ ⟨rfl,rfl⟩;refine Z2P (ZV hex key) ?_;rw[hev,hx];exact hk _ _ h'
  ·split at h
   ·rename_i cs hcs
    obtain⟨hrw,h⟩:=Z3u _ _ h;have h':=h _ _ ⟨rfl,rfl⟩;refine Z2P (ZV hex key) ?_;rw[hev,Z8T (hrw _ (by simp)) hcs];exact hk _ _ h'
   ·exact h.elim
 ·
  rename_i t n parts ho;have hex:execOp a.eval o=(do pure (J1 (<-JC t n (parts.map fun(i,x)=>(i,a.eval x))))):=by unfold execOp;simp only[ho]
  split at h
  ·rename_i e hu
   have hu:=Z2H hu (by simp);split at h
   ·rename_i z hz
    split at h
    ·rename_i hc
     split at h
     ·rename_i cells hb
      obtain⟨hrw,h⟩:=Z3u _ _ h;have h':=h _ _ ⟨rfl,rfl⟩;refine Z2P (ZV hex ?_) (hk _ _ h')
      have hie:∃ie,P.info? e=F ie:=by
       cases hi:P.info? e with
       |none=>simp[Z6D,hi]at hz
       |some ie=>exact⟨ie,rfl⟩
      obtain⟨ie,hie⟩:=hie;have hfill:=Z3N (place:=fun i=>F (i*Z0f P e,Z0f P e)) (ev:=ev (pA P R) env) parts.toList _ cells hrw hb;have hl:(parts.map fun(i,x)=>(i,a.eval x)).toList=parts.toList.map fun(i,x)=>(i,toV (ev (pA P R) env x)):=by simp[hev]
      have hzs:(toVs (Z7u (pA P R) z)).length=Z0f P e:=by rw[Z00];exact hc.1
      rw[<-hl,ZIz]at hfill;rw[Z8O]at hzs hfill;exact Z6C hu hie hz (by simpa using hzs) (Nat.le_trans hc.2.1 (by decide)) hfill
     ·exact h.elim
    ·split at h
     ·rename_i hn1
      obtain⟨rfl,hlen,hle⟩:=hn1;split at h
      ·rename_i r hb
       obtain⟨hrw,h⟩:=Z3u _ _ h
       have hie:∃ie,P.info? e=F ie:=by
        cases hi:P.info? e with
        |none=>simp[Z6D,hi]at hz
        |some ie=>exact⟨ie,rfl⟩
       obtain⟨ie,hie⟩:=hie;have hzc:(pA P R).lconst z=z.cells:=by cases z<;>rfl
       have hzs:z.cells.size=Z0f P e:=by
        have h1:=Z8O (P:=P) (R:=R) z;have h2:=congrArg JU h1;rw[Z00,hlen]at h2;simpa using h2.symm
       rw[hzc]at hb;obtain⟨out,ho',hk'⟩:=Z38 (place:=fun i=>F (i*Z0f P e,Z0f P e)) (ev:=ev (pA P R) env) (n:=Z0f P e) parts.toList z.cells r hrw hzs hb h;have h':=hk' _ _ ⟨rfl,rfl⟩;have hl:(parts.map fun(i,x)=>(i,a.eval x)).toList=parts.toList.map fun(i,x)=>(i,toV (ev (pA P R) env x)):=by simp[hev]
       rw[<-hl]at ho';refine Z2P (ZV hex (Z6C hu hie hz hzs (by omega) ?_)) (hk _ _ h');simpa using ho'
      ·exact h.elim
     ·exact h.elim
   ·exact h.elim
  ·exact h.elim
 ·
  rename_i t x y ho;have hex:execOp a.eval o=(do Jb t (a.eval x) (a.eval y);pure Ju):=by unfold execOp;simp only[ho]
  split at h
  ·rename_i d hx
   split at h
   ·rename_i cs hcs
    split at h
    ·rename_i hlen
     obtain⟨w',h1,h2,h3⟩:=ZAe _ _ _ _ h;refine ZF5 (ZC5 hex ?_) (hk _ _ h3)
     have hrw:ZFA (ev (pA P R) env y):=by
      cases hy:ev (pA P R) env y with
      |raw v =>
       rw[hy]at hcs;cases hcs;exact h2 (.raw v) (by simp)
      |_=>trivial
     obtain⟨i,hi⟩:=Option.isSome_iff_exists.1 hlen.2;have hc:=Z8T hrw hcs;rw[hev,hev,hx];unfold Jb;simp only[toV,N,Y,U,G];unfold storeVar;simp only[Y,Z0s hi,G,hc,List.size_toArray,Z00,hlen.1];simpa using h1
    ·exact h.elim
   ·exact ranU h
  ·exact h.elim
 ·exact ranU h
 ·exact ranU h
 ·exact ranU h
 ·
  rename_i c ho
  have hargs:∀l:List JD,(l.map (ev (pA P R) env)).map toV=l.map a.eval:=fun l=>by
   rw[JF];exact congrArg (fun f=>Jy f l) hfun
  split at h
  ·exact ran h
  ·rename_i f hc
   have hex:∀fn first cap,a.eval f=.func (.func fn) first cap->(execOp a.eval o).run P w=(JO fn (first++c.args.map a.eval++cap)).run P w:=by
    intro fn first cap hf
    simp[execOp,ho,JK,hc,Deferred.ofValue,hf,JS]
   split at h
   ·rename_i fn first cap hf
    have hf':a.eval f=.func (.func fn) (toVs first).toArray (toVs cap).toArray:=by rw[hev,hf];rfl
    have hall:(toVs (first++c.args.toList.map (ev (pA P R) env)++cap)).toArray=(toVs first).toArray++c.args.map a.eval++(toVs cap).toArray:=by
     refine J4 ?_;simp only[Z2I,List.map_append,hargs];simp
    split at h
    ·rename_i hen
     have h:Jv P fn (toVs (first++c.args.toList.map (ev (pA P R) env)++cap)).toArray w (fun e w=>R.call e w (Z4q (pA P R) (ZAb P o.type) fun sv=>(pA P R).endEq e sv (k sv w))):=h;rw[hall]at h;refine Z8k ((hex _ _ _ hf').trans (Z3K hen w)) (h.mono fun e w'' he=>?_);rcases Z7w.call_or he with⟨ch,he,hv⟩|he
     ·exact M ⟨ch,he,hR _ _ hv⟩
     obtain⟨sv,h1,h2⟩:=ZI8 (P:=P) (R:=R) he;exact J6 ⟨_,h1,hk _ _ h2⟩
    ·split at h
     ·obtain⟨v,w',h1,h2⟩:=h
      obtain⟨sv,h3,h4⟩:=ZKv (P:=P) (R:=R) h2;subst h3;rw[hall]at h1;exact Z2P ((hex _ _ _ hf').trans h1) (hk _ _ h4)
     ·exact h.elim
   ·rename_i m v hf
    obtain⟨t,y,fn,recv,hv,hm,hen,h⟩:=h
    have hf':a.eval f=.func (.method m) #[.iface t y] #[]:=by
     rw[hev,hf,<-hv];rfl
    have hall:(toVs (c.args.toList.map (ev (pA P R) env))).toArray=c.args.map a.eval:=by
     rw[Z2I,hargs];exact J4 (by simp)
    rw[hall]at h
    have hex:(execOp a.eval o).run P w=(JO fn (#[recv]++c.args.map a.eval)).run P w:=by
     have hget:((#[Value.iface t y]++c.args.map a.eval)[0]?:Option Value)=F (.iface t y):=by rw[D (by simp)];rfl
     have hext:(#[Value.iface t y]++c.args.map a.eval).extract 1 (#[Value.iface t y]++c.args.map a.eval).size=c.args.map a.eval :=
      J4 (by simp;exact JH (by simp))
     simp only[execOp,ho,JK,hc,Deferred.ofValue,hf',Y,U,G,JS,hget,hext,callMethod,run_program,hm]
    refine Z8k (hex.trans (Z3K hen w)) (h.mono fun e w'' he=>?_);rcases Z7w.call_or he with⟨ch,he,hv⟩|he
    ·exact M ⟨ch,he,hR _ _ hv⟩
    obtain⟨sv,h1,h2⟩:=ZI8 (P:=P) (R:=R) he;exact J6 ⟨_,h1,hk _ _ h2⟩
   ·rename_i v hf
    obtain⟨fn,first,cap,hv,hen,h⟩:=h;have hf':a.eval f=.func (.func fn) first cap:=by rw[hev,hf,<-hv];rfl
    have hall:first++(toVs (c.args.toList.map (ev (pA P R) env))).toArray++cap=first++c.args.map a.eval++cap:=by
     rw[Z2I,hargs];congr 2;exact J4 (by simp)
    rw[hall]at h;refine Z8k ((hex _ _ _ hf').trans (Z3K hen w)) (h.mono fun e w'' he=>?_);rcases Z7w.call_or he with⟨ch,he,hv⟩|he
    ·exact M ⟨ch,he,hR _ _ hv⟩
    obtain⟨sv,h1,h2⟩:=ZI8 (P:=P) (R:=R) he;exact J6 ⟨_,h1,hk _ _ h2⟩
   ·exact h.elim
  ·rename_i x m hc
   split at h
   ·rename_i v hx
    obtain⟨t,y,f,recv,hv,hm,hen,h⟩:=h;have hx':a.eval x=.iface t y:=by rw[hev,hx,<-hv];rfl
    have hall:(toVs (c.args.toList.map (ev (pA P R) env))).toArray=c.args.map a.eval:=by
     rw[Z2I,hargs];exact J4 (by simp)
    rw[hall]at h
    have hex:(execOp a.eval o).run P w=(JO f (#[recv]++c.args.map a.eval)).run P w:=by
     have hget:((#[a.eval x]++c.args.map a.eval)[0]?:Option Value)=F (a.eval x):=by rw[D (by simp)];rfl
     have hext:(#[a.eval x]++c.args.map a.eval).extract 1 (#[a.eval x]++c.args.map a.eval).size=c.args.map a.eval :=
      J4 (by simp;exact JH (by simp))
     rw[hx']at hget hext;simp only[execOp,ho,JK,hc,Y,U,G,JS,hx',hget,hext,callMethod,run_program,hm]
    refine Z8k (hex.trans (Z3K hen w)) (h.mono fun e w'' he=>?_);rcases Z7w.call_or he with⟨ch,he,hv⟩|he
    ·exact M ⟨ch,he,hR _ _ hv⟩
    obtain⟨sv,h1,h2⟩:=ZI8 (P:=P) (R:=R) he;exact J6 ⟨_,h1,hk _ _ h2⟩
   ·exact h.elim
 all_goals first
  |(rename_i x ho;generalize hx:ev (pA P R) env x=y at h;cases y<;>first|exact h.elim|exact panicC x ho _ _ hx h)
  |exact ran h
  |exact ranR h
  |exact h.elim
end Go.Vcg
end
section
namespace Go.Vcg
variable{P:Program}{R:Z7w}
theorem Rep.put{env:Env pC}{a:JA}(h:Rep env a){dst:Option JX}{sv:SV pC}(hd:∀d,dst=F d->d<a.tmps.size):Rep (ZFq env dst sv) (a.put dst (toV sv)):=by
 cases dst with
 |none=>exact h
 |some d =>
  intro t;have hlt:=hd d rfl;simp only[ZFq,Z4h];by_cases ht:d=t
  ·subst ht
   simp[Act.put,hlt]
  ·have:L d t=S:=by
     cases hb:L d t with
     |false=>rfl
     |true=>exact absurd (H hb) ht
   simp only[this,cond_false];rw[<-h t];simp[Act.put,Array.getElem?_setIfInBounds_ne ht]
theorem Rep.refine{env:Env pC}{a:JA}(h:Rep env a){t:JX}{sv:SV pC}(hs:toV (Z4h env t)=toV sv):Rep ((t,sv)::env) a:=by
 intro u;simp only[Z4h];cases hb:L t u with
 |true=>simp only[cond_true];rw[<-H hb,<-hs];exact h t
 |false=>simp only[cond_false];exact h u
theorem Rep.tmp?{env:Env pC}{a:JA}(h:Rep env a){t:JX}(hn:toV (Z4h env t)≠undef):a.tmps[t]?=F (toV (Z4h env t)):=by
 have:=h t;rw[X]at this;cases ht:a.tmps[t]? with
 |none=>rw[ht]at this;exact absurd this.symm hn
 |some v=>rw[ht]at this;simpa using this
theorem Z6O{ops:Array JE}{o:JE}{env:Env pC}{a:JA}(hrep:Rep env a){yes no:Env pC->Prop}(h:ZCE (pA P R) ops o env yes no) :
  (Region.wanted o (JL ops a.tmps)=J0/\∃env',Rep env' a/\yes env')\/(Region.wanted o (JL ops a.tmps)=S/\∃env',Rep env' a/\no env'):=by
 unfold ZCE at h;unfold Region.wanted;cases hg:o.guard with
 |none=>rw[hg]at h;exact M ⟨rfl,env,hrep,h⟩
 |some jw =>
  obtain⟨j,want⟩:=jw;rw[hg]at h;simp only at h ⊢;cases ht:(ops[j]?).bind (·.dst)with
  |none =>
   rw[ht]at h;refine J6 ⟨?_,env,hrep,h⟩;simp[JL,ht]
  |some t =>
   rw[ht]at h;simp only at h
   have hy:∀b:Bool,toV (Z4h env t)=.bool b->JL ops a.tmps j=F b:=by
    intro b hb;have:=hrep.tmp? (t:=t) (by rw[hb];simp[undef]);simp[JL,ht,this,hb]
   split at h
   ·rename_i b hb
    have:=hy b (by rw[hb];rfl);rw[this];by_cases hbw:b=want
    ·subst hbw
     simp only[beq_self_eq_true,if_true]at h;exact M ⟨by simp,env,hrep,h⟩
    ·have hne:(b == want)=S:=by simpa using hbw
     rw[hne]at h;exact J6 ⟨by simpa using hbw,env,hrep,h⟩
   ·rename_i b hb
    obtain⟨h1,h2⟩:=h;have hv:toV (Z4h env t)=.bool (den b):=by rw[hb];rfl
    rw[hy _ hv];cases hd:den b with
    |true =>
     have h1:=Z3q _ _ _ h1 hd;have hr:Rep ((t,.blit J0)::env) a:=hrep.refine (by rw[hv,hd];rfl);cases want with
     |true=>exact M ⟨rfl,_,hr,h1⟩
     |false=>exact J6 ⟨rfl,_,hr,h1⟩
    |false =>
     have h2:=Z3q _ _ _ h2 hd;have hr:Rep ((t,.blit S)::env) a:=hrep.refine (by rw[hv,hd];rfl);cases want with
     |true=>exact J6 ⟨rfl,_,hr,h2⟩
     |false=>exact M ⟨rfl,_,hr,h2⟩
   ·rename_i hb
    refine J6 ⟨?_,env,hrep,h⟩;have hu:a.tmps.getD t undef=.tuple #[]:=by rw[hrep t,hb];rfl
    have hn:JL ops a.tmps j=Jx:=by
     unfold JL;rw[ht];simp only[JQ];rw[X]at hu;cases hx:a.tmps[t]? with
     |none=>rfl
     |some v=>rw[hx]at hu;simp at hu;subst hu;rfl
    rw[hn];rfl
   ·exact h.elim
theorem ZAB{o:JE}{env:Env pC}{a:JA}{w:O}(hrep:Rep env a){k:SV pC->O->Prop}(h:doOp (pA P R) P o env w k)
  {next:JA->O->Prop} {Q:Js->JA->O->Prop} (hR:∀ch w',R.fin (J8 ch) w'->Q (.panic ch) a w') (hk:∀sv w',k sv w'->next (a.put o.dst (toV sv)) w'):o.wp P a w next Q:=by
 unfold doOp at h;split at h
 ·rename_i r hp
  obtain⟨sv,h1,h2⟩:=Z8B hrep hp h;exact Z2P (h1 w) (hk _ _ h2)
 ·split at h
  ·obtain⟨sv,h1,h2,_⟩:=Z8F hrep h
   exact Z2P h1 (hk _ _ h2)
  ·exact ZFJ hrep h hR hk
def ZGL(n:Nat)(o:JE):Prop:=∀d,o.dst=F d->d<n
def Keep(W:List JX)(a a':JA):Prop:=∀t,t ∉ W->a'.tmps.getD t undef=a.tmps.getD t undef
theorem Keep.refl(W:List JX)(a:JA):Keep W a a:=fun _ _=>rfl
theorem Keep.trans{W:List JX}{a b c:JA}(h:Keep W a b)(k:Keep W b c):Keep W a c:=fun t ht=>(k t ht).trans (h t ht)
theorem Keep.mono{W W':List JX}{a b:JA}(h:Keep W a b)(hs:∀t∈W,t∈W'):Keep W' a b:=fun t ht=>h t fun hm=>ht (hs t hm)
theorem Keep.put{W:List JX}{a:JA}{dst:Option JX}{v:Value}(h:∀d,dst=F d->d∈W):Keep W a (a.put dst v):=by
 intro t ht;have hne:dst≠F t:=fun he=>ht (h t he);rw[X,Z1i hne,X]
theorem Z3W{ops:Array JE}{n:Nat}{W:List JX}{Q:Js->JA->O->Prop}:∀(l:List JE) (env:Env pC) (a:JA) (w:O) (k:Env pC->O->Prop),Rep env a->a.tmps.size=n ->
  (∀o∈l,ZGL n o)->(∀o∈l,∀d,o.dst=F d->d∈W)->Z7n (pA P R) P ops l env w k->(∀ch(a':JA) w',a'.defers=a.defers->Keep W a a'->R.fin (J8 ch) w'->Q (.panic ch) a' w') ->
  (∀env' a' w',Rep env' a'->a'.tmps.size=n->a'.defers=a.defers->Keep W a a'->k env' w'->Q .normal a' w')->wpList P ops Q l a w
 |[],env,a,w,k,hrep,hn,hd,hW,h,hp,hk=>hk env a w hrep hn rfl (Keep.refl _ _) h
 |o::rest,env,a,w,k,hrep,hn,hd,hW,h,hp,hk=>by
  unfold Z7n at h;unfold wpList;have hdo:ZGL n o:=hd o (by simp);rcases Z6O hrep h with⟨hw,env',hrep',h⟩|⟨hw,env',hrep',h⟩
  ·rw[if_pos hw]
   refine M (ZAB hrep' h (fun ch w' hf=>hp ch a w' rfl (Keep.refl _ _) hf) fun sv w' hr=>?_);refine Z3W rest _ _ _ k (hrep'.put fun d hd'=>by rw[hn];exact hdo d hd') (by rw[put_size,hn]) (fun o ho=>hd o (by simp[ho])) (fun o ho=>hW o (by simp[ho])) hr (fun ch a' w' hd' hkp hf=>hp ch a' w' (by rw[hd',Zz]) ((Keep.put (hW o (by simp))).trans hkp) hf) ?_;intro env'' a'' w'' h1 h2 h3 h5 h4;exact hk _ _ _ h1 h2 (by rw[h3,Zz]) ((Keep.put (hW o (by simp))).trans h5) h4
  ·rw[if_neg (by simp[hw])]
   have hrep2:Rep (ZFq env' o.dst (.tup [])) (a.put o.dst undef):=hrep'.put (sv:=.tup []) fun d hd'=>by rw[hn];exact hdo d hd'
   refine Z3W rest _ _ _ k hrep2 (by rw[put_size,hn]) (fun o ho=>hd o (by simp[ho])) (fun o ho=>hW o (by simp[ho])) h (fun ch a' w' hd' hkp hf=>hp ch a' w' (by rw[hd',Zz]) ((Keep.put (hW o (by simp))).trans hkp) hf) ?_;intro env'' a'' w'' h1 h2 h3 h5 h4;exact hk _ _ _ h1 h2 (by rw[h3,Zz]) ((Keep.put (hW o (by simp))).trans h5) h4
def ZFt(p:ZJ0 pC):Prop:=∀w r,p.again w r->r
theorem Z7U{ops:Array JE}{j:Nat}{w:O}:∀(ps:List (ZJ0 pC)) (r:Prop),(∀p∈ps,ZFt p)->Z4k ops j w ps r ->
  (∀p∈ps,(Z3O ops p.i).getD j S=S->∃r',p.again w r')/\r
 |[],r,_,h=>⟨by simp,h⟩
 |p::ps,r,hok,h=>by
  unfold Z4k at h;have hps:=fun q hq=>hok q (E p hq);split at h
  ·rename_i hd
   obtain⟨h1,h2⟩:=Z7U ps r hps h;refine⟨fun q hq hqd=>?_,h2⟩;rcases List.mem_cons.1 hq with rfl|hq
   ·rw[hd]at hqd;cases hqd
   ·exact h1 q hq hqd
  ·have hr:=hok p (by simp) _ _ h
   obtain⟨h1,h2⟩:=Z7U ps r hps hr;refine⟨fun q hq hqd=>?_,h2⟩;rcases List.mem_cons.1 hq with rfl|hq
   ·exact⟨_,h⟩
   ·exact h1 q hq hqd
theorem Z8s:∀(rs:List Prop),ZG5 (pA P R) rs->∀r∈rs,r
 |[],h,_,_=>h.elim
 |[r],h,r',hr=>by rw[List.mem_singleton.1 hr];exact h
 |r::r2::rs,h,r',hr=>by
  obtain⟨h1,h2⟩:=h;rcases List.mem_cons.1 hr with rfl|hr
  ·exact h1
  ·exact Z8s (r2::rs) h2 r' hr
theorem Z3p{ops:Array JE}:∀(rs:List Nat) (i:Nat),Z4O P ops rs=F i->i∈rs/\ZJ7 ops i=J0/\∃o,ops[i]?=F o
 |[],i,h=>by cases h
 |r::rs,i,h=>by
  unfold Z4O at h;split at h
  ·rename_i o ho
   split at h
   ·rename_i hq
    simp only[J5]at hq;cases h;exact⟨by simp,hq.2,o,ho⟩
   ·obtain⟨h1,h2⟩:=Z3p rs i h
    exact⟨E _ h1,h2⟩
  ·obtain⟨h1,h2⟩:=Z3p rs i h
   exact⟨E _ h1,h2⟩
def Z6G(P:Program)(ops:Array JE)(listed:Array Bool)(a:JA)(pend:List (ZJ0 pC))(pv:List (Nat×Value)):Prop :=
 ∀q∈pv,listed.getD q.1 S=J0/\((∀w,YA P ops q.1 q.2 a w)\/∃p∈pend,p.i=q.1/\∀w r,p.again w r->YA P ops q.1 q.2 a w)
theorem Z6G.step{ops:Array JE}{listed:Array Bool}{a:JA}{pend:List (ZJ0 pC)}{pv:List (Nat×Value)}(hs:ssa ops=J0)(hc:Z2o ops listed)(h:Z6G P ops listed a pend pv)
  {j:Nat} {oj:JE} (hj:j∈Region.ready .any ops listed) (hoj:ops[j]?=F oj) (hf:ZJ7 ops j=J0) (u:Value):Z6G P ops (listed.setIfInBounds j J0) (a.put oj.dst u) pend pv:=by
 intro q hq;obtain⟨h1,h2⟩:=h q hq;obtain⟨_,hlj⟩:=Z4z hj;refine⟨Jc h1,?_⟩;rcases h2 with h2|⟨p,hp,hpi,h2⟩
 ·exact M fun w=>(h2 w).put_later hs hc hoj (M hf) hlj h1
 ·exact J6 ⟨p,hp,hpi,fun w r hr=>(h2 w r hr).put_later hs hc hoj (M hf) hlj h1⟩
theorem Z6G.event{ops:Array JE}{listed:Array Bool}{a:JA}{pend:List (ZJ0 pC)}{pv:List (Nat×Value)}(hs:ssa ops=J0)(hc:Z2o ops listed)(h:Z6G P ops listed a pend pv)
  {j:Nat} {oj:JE} (hj:j∈Region.ready .any ops listed) (hoj:ops[j]?=F oj) (u:Value) :
  Z6G P ops (listed.setIfInBounds j J0) (a.put oj.dst u) (pend.filter fun p=> !(Z3O ops p.i).getD j S) (pv.filter fun p=> !(Z3O ops p.1).getD j S):=by
 intro q hq;obtain⟨hq,hqd⟩:=List.mem_filter.1 hq
 have hqd:(Z3O ops q.1).getD j S=S:=by
  cases hb:(Z3O ops q.1).getD j S with
  |false=>rfl
  |true=>rw[hb]at hqd;cases hqd
 obtain⟨h1,h2⟩:=h q hq;obtain⟨_,hlj⟩:=Z4z hj;refine⟨Jc h1,?_⟩;rcases h2 with h2|⟨p,hp,hpi,h2⟩
 ·exact M fun w=>(h2 w).put_later hs hc hoj (J6 hqd) hlj h1
 ·refine J6 ⟨p,List.mem_filter.2 ⟨hp,?_⟩,hpi,fun w r hr=>(h2 w r hr).put_later hs hc hoj (J6 hqd) hlj h1⟩
  rw[hpi,hqd];rfl
theorem Z2m{ops:Array JE}{n:Nat}{W:List JX}{Q:Js->JA->O->Prop}(hs:ssa ops=J0)(hd:∀o∈ops,ZGL n o)(hW:∀o∈ops,∀d,o.dst=F d->d∈W):∀(fuel:Nat) (listed:Array Bool) (pend:List (ZJ0 pC)) (pv:List (Nat×Value)) (env:Env pC) (a:JA) (w:O) (k:Env pC->O->Prop),
  listed.size=ops.size->Z2o ops listed->Rep env a->a.tmps.size=n->(∀p∈pend,ZFt p)->Z6G P ops listed a pend pv ->
  Z50 (pA P R) P ops fuel listed pend env w k->(∀ch(a':JA) w',a'.defers=a.defers->Keep W a a'->R.fin (J8 ch) w'->Q (.panic ch) a' w') ->
  (∀env' a' w',Rep env' a'->a'.tmps.size=n->a'.defers=a.defers->Keep W a a'->k env' w'->Q .normal a' w')->wpG P ops Q fuel listed pv a w
 |0,_,_,_,_,_,_,_,_,_,_,_,_,_,h,_,_=>h.elim
 |fuel+1,listed,pend,pv,env,a,w,k,hsz,hcl,hrep,hn,hok,hpr,h,hp,hk=>by
  unfold Z50 at h;unfold wpG;split at h
  ·rename_i hr
   exact M ⟨hr,hk env a w hrep hn rfl (Keep.refl _ _) h⟩
  ·rename_i rs hne
   split at h
   ·rename_i i hi
    obtain⟨him,hfi,o,ho⟩:=Z3p _ _ hi;rw[ho]at h;simp only at h;obtain⟨hilt,hiu⟩:=Z4z him;have hdo:∀d,o.dst=F d->d<a.tmps.size:=fun d hd'=>by rw[hn];exact hd o (Z ho) d hd'
    have his:i<listed.size:=by rw[hsz];exact hilt
    have hsz':(listed.setIfInBounds i J0).size=ops.size:=by simpa using hsz
    have hself:∀(v:Value)(u:Value)(w:O),YA P ops i u a w->YA P ops i u (a.put o.dst v) w:=by
     intro v u w hy;refine hy.of_same hs fun o' ho' d hd'=>(Z1i fun hdst=>?_).symm;rw[ho]at ho';cases ho';exact((Z53 hs ho).2 d hdst).1 hd'
    rcases Z6O hrep h with⟨hw,env',hrep',h⟩|⟨hw,env',hrep',h⟩
    ·split at h
     ·rename_i r hpo
      obtain⟨sv,h1,h2⟩:=Z8B hrep' hpo h;have hya:∀w,YA P ops i (toV sv) a w:=fun w=>⟨o,ho,M ⟨hw,h1 w⟩⟩;refine J6 (M ⟨i,o,toV sv,him,ho,hfi,hya w,?_⟩);refine Z2m hs hd hW fuel _ pend _ _ _ w k hsz' (hcl.set him) (hrep'.put hdo) (by rw[put_size,hn]) hok ?_ h2 (fun ch a' w' hd' hkp hf=>hp ch a' w' (by rw[hd',Zz]) ((Keep.put (hW o (Z ho))).trans hkp) hf) ?_
      ·intro q hq
       rcases List.mem_cons.1 hq with rfl|hq
       ·exact⟨Z1Z his,M fun w=>hself _ _ _ (hya w)⟩
       ·exact hpr.step hs hcl him ho hfi _ q hq
      ·intro env'' a'' w'' h3 h4 h5 h7 h6
       exact hk _ _ _ h3 h4 (by rw[h5,Zz]) ((Keep.put (hW o (Z ho))).trans h7) h6
     ·obtain⟨sv,h1,h2,h3⟩:=Z8F hrep' h
      have hya:YA P ops i (toV sv) a w:=⟨o,ho,M ⟨hw,h1⟩⟩;refine J6 (M ⟨i,o,toV sv,him,ho,hfi,hya,?_⟩);refine Z2m hs hd hW fuel _ _ _ _ _ w k hsz' (hcl.set him) (hrep'.put hdo) (by rw[put_size,hn]) ?_ ?_ h2 (fun ch a' w' hd' hkp hf=>hp ch a' w' (by rw[hd',Zz]) ((Keep.put (hW o (Z ho))).trans hkp) hf) ?_
      ·exact List.forall_mem_cons.2 ⟨fun w r hr=>(h3 w r hr).2,hok⟩
      ·intro q hq
       rcases List.mem_cons.1 hq with rfl|hq
       ·refine⟨Z1Z his,J6 ⟨⟨i,Z5p (pA P R) P o (ev (pA P R) env') sv⟩,List.mem_cons_self,rfl,fun w r hr=>hself _ _ _ ⟨o,ho,M ⟨hw,(h3 w r hr).1⟩⟩⟩⟩
       ·obtain⟨h4,h5⟩:=hpr.step hs hcl him ho hfi (toV sv) q hq
        refine⟨h4,?_⟩;rcases h5 with h5|⟨p,hp,h5⟩
        ·exact M h5
        ·exact J6 ⟨p,E _ hp,h5⟩
      ·intro env'' a'' w'' h3 h4 h5 h7 h6
       exact hk _ _ _ h3 h4 (by rw[h5,Zz]) ((Keep.put (hW o (Z ho))).trans h7) h6
    ·have hya:∀w,YA P ops i undef a w:=fun w=>⟨o,ho,J6 ⟨hw,rfl⟩⟩
     refine J6 (M ⟨i,o,undef,him,ho,hfi,hya w,?_⟩);have hrep2:Rep (ZFq env' o.dst (.tup [])) (a.put o.dst undef):=hrep'.put (sv:=.tup []) hdo;refine Z2m hs hd hW fuel _ pend _ _ _ w k hsz' (hcl.set him) hrep2 (by rw[put_size,hn]) hok ?_ h (fun ch a' w' hd' hkp hf=>hp ch a' w' (by rw[hd',Zz]) ((Keep.put (hW o (Z ho))).trans hkp) hf) ?_
     ·intro q hq
      rcases List.mem_cons.1 hq with rfl|hq
      ·exact⟨Z1Z his,M fun w=>hself _ _ _ (hya w)⟩
      ·exact hpr.step hs hcl him ho hfi _ q hq
     ·intro env'' a'' w'' h3 h4 h5 h7 h6
      exact hk _ _ _ h3 h4 (by rw[h5,Zz]) ((Keep.put (hW o (Z ho))).trans h7) h6
   ·refine J6 (J6 ⟨hne,fun j hj=>?_⟩)
    obtain⟨hjlt,hju⟩:=Z4z hj;have h:=Z8s _ h _ (List.mem_map.2 ⟨j,hj,rfl⟩);obtain⟨oj,hoj⟩:∃oj,ops[j]?=F oj:=⟨_,Array.getElem?_eq_getElem hjlt⟩;simp only[hoj]at h;have hdo:∀d,oj.dst=F d->d<a.tmps.size:=fun d hd'=>by rw[hn];exact hd oj (Z hoj) d hd'
    have hsz':(listed.setIfInBounds j J0).size=ops.size:=by simpa using hsz
    have fin:∀(env':Env pC)(sv:SV pC)(w':O),Rep env' a ->
      Z4k ops j w' pend (Z50 (pA P R) P ops fuel (listed.setIfInBounds j J0) (pend.filter fun p=> !(Z3O ops p.i).getD j S) (ZFq env' oj.dst sv) w' k) ->
      (∀p∈pv,(Z3O ops p.1).getD j S=S->YA P ops p.1 p.2 (a.put oj.dst (toV sv)) w') /\
        wpG P ops Q fuel (listed.setIfInBounds j J0) (pv.filter fun p=> !(Z3O ops p.1).getD j S) (a.put oj.dst (toV sv)) w':=by
     intro env' sv w' hrep' hag;obtain⟨h1,h2⟩:=Z7U _ _ hok hag;have hpr':=hpr.event hs hcl hj hoj (toV sv);refine⟨fun q hq hqd=>?_,?_⟩
     ·rcases (hpr' q (List.mem_filter.2 ⟨hq,by rw[hqd];rfl⟩)).2 with h3|⟨p,hp,hpi,h3⟩
      ·exact h3 w'
      ·obtain⟨r',hr'⟩:=h1 p (List.mem_filter.1 hp).1 (by rw[hpi];exact hqd)
       exact h3 w' r' hr'
     ·refine Z2m hs hd hW fuel _ _ _ _ _ w' k hsz' (hcl.set hj) (hrep'.put hdo) (by rw[put_size,hn]) (fun p hp=>hok p (List.mem_filter.1 hp).1) hpr' h2 (fun ch a' w' hd' hkp hf=>hp ch a' w' (by rw[hd',Zz]) ((Keep.put (hW oj (Z hoj))).trans hkp) hf) ?_
      intro env'' a'' w'' h3 h4 h5 h7 h6;exact hk _ _ _ h3 h4 (by rw[h5,Zz]) ((Keep.put (hW oj (Z hoj))).trans h7) h6
    unfold wpOp;simp only[hoj];rcases Z6O hrep h with⟨hw,env',hrep',h⟩|⟨hw,env',hrep',h⟩
    ·rw[if_pos hw]
     exact M (ZAB hrep' h (fun ch w' hf=>hp ch a w' rfl (Keep.refl _ _) hf) fun sv w' hr=>fin env' sv w' hrep' hr)
    ·rw[if_neg (by simp[hw])]
     exact fin env' (.tup []) w hrep' h
end Go.Vcg
end
section
namespace Go.Vcg
variable{P:Program}{R:Z7w}
theorem ZBW{c:Code}{Q:Js->JA->O->Prop}{a:JA}{w:O}(I:Nat->JA->O->Prop){n:Nat}(h₀:I n a w)
  (round:∀n a w,I n a w->c.wp P (Exit.then (fun a' w'=>∃m,m<n/\I m a' w') Q) a w):(Code.loop c).wp P Q a w:=by
 intro b k cs
 have key:∀n a w,I n a w->∃e a' w',Q e a' w'/\Arrives P (lone (b.at a (.code c :: .inLoop c::k)) cs w) b k cs e a' w':=by
  intro n
  induction n using Nat.strongRecOn with
  |_ n ih =>
   intro a w hI;obtain⟨e,a₁,w₁,hq,harr⟩:=round n a w hI b (.inLoop c::k) cs;cases e with
   |normal =>
    obtain⟨m,hlt,hI₁⟩:=hq;obtain⟨e₂,a₂,w₂,hq₂,harr₂⟩:=ih m hlt a₁ w₁ hI₁;exact⟨e₂,a₂,w₂,hq₂,.of_steps (Steps.trans harr (.one step_inLoop)) harr₂⟩
   |exit id=>exact⟨_,a₁,w₁,hq,.pass (x:=.inLoop c) rfl (fun _ _=>M (by simp)) harr⟩
   |goto l=>exact⟨_,a₁,w₁,hq,.pass (x:=.inLoop c) rfl (fun _ _=>M (by simp)) harr⟩
   |ret=>exact⟨_,a₁,w₁,hq,.pass (x:=.inLoop c) rfl (fun _ _=>M (by simp)) harr⟩
   |panic ch=>exact⟨_,a₁,w₁,hq,.pass (x:=.inLoop c) rfl (fun _ _=>M (by simp)) harr⟩
   |outgrown=>exact⟨_,a₁,w₁,hq,.pass (x:=.inLoop c) rfl (fun _ _=>M (by simp)) harr⟩
 obtain⟨e,a',w',hq,harr⟩:=key n a w h₀;exact⟨e,a',w',hq,.of_steps (.one step_loop) harr⟩
def InC:Z8m->SV pC->Prop
 | .int k,sv=>∃n:Int,sv=.int k n
 | .bool,sv=>∃b:Bool,sv=.bool (.var b)
 | .str,sv=>∃s:ByteArray,sv=.str s
 | .ptr,sv=>∃o:Option Addr,sv=.ptr o
 | .slice,sv=>∃(o:Option Addr)(l c:Nat),sv=.slice o l c
 | .map,sv=>∃m:Option Nat,sv=.map m
 | .raw,sv=>∃v:Value,sv=.raw v
 | .addr,sv=>∃d:Addr,sv=.addr d
def InCs:List Z8m->List (SV pC)->Prop
 |[],svs=>svs=[]
 |c::cs,svs=>∃v vs,svs=v::vs/\InC c v/\InCs cs vs
def In1:Shape1->SV pC->Prop
 | .cell c,sv=>InC c sv
 | .agg cs,sv=>∃vs,sv=.agg vs/\InCs cs vs
 | .big n,sv=>∃l:Array Value,sv=.big n l
def InT:List Shape1->List (SV pC)->Prop
 |[],svs=>svs=[]
 |s::ss,svs=>∃v vs,svs=v::vs/\In1 s v/\InT ss vs
theorem ZE7:∀(c:Z8m) (f:SV pC->Prop) (sv:SV pC),ZJR c f->InC c sv->f sv
 | .int _,f,_,h,⟨n,e⟩=>e ▸ h n
 | .bool,f,_,h,⟨n,e⟩=>e ▸ h n
 | .str,f,_,h,⟨n,e⟩=>e ▸ h n
 | .ptr,f,_,h,⟨n,e⟩=>e ▸ h n
 | .slice,f,_,h,⟨o,l,c,e⟩=>e ▸ h o l c
 | .map,f,_,h,⟨n,e⟩=>e ▸ h n
 | .raw,f,_,h,⟨n,e⟩=>e ▸ h n
 | .addr,f,_,h,⟨n,e⟩=>e ▸ h n
theorem ZBi:∀(cs:List Z8m) (f:List (SV pC)->Prop) (svs:List (SV pC)),ZE8 cs f->InCs cs svs->f svs
 |[],f,_,h,e=>by cases e;exact h
 |c::cs,f,_,h,⟨v,vs,e,h1,h2⟩=>by
  subst e;exact ZBi cs (fun vs=>f (v::vs)) vs (ZE7 c (fun v=>ZE8 cs fun vs=>f (v::vs)) v h h1) h2
theorem ZI3:∀(s:Shape1) (f:SV pC->Prop) (sv:SV pC),ZKO s f->In1 s sv->f sv
 | .cell c,f,sv,h,hi=>ZE7 c f sv h hi
 | .agg cs,f,_,h,⟨vs,e,hi⟩=>by subst e;exact ZBi cs (fun vs=>f (.agg vs)) vs h hi
 | .big n,f,_,h,⟨l,e⟩=>e ▸ h l
theorem ZAn:∀(ss:List Shape1) (f:List (SV pC)->Prop) (svs:List (SV pC)),ZG4 ss f->InT ss svs->f svs
 |[],f,_,h,e=>by cases e;exact h
 |s::ss,f,_,h,⟨v,vs,e,h1,h2⟩=>by
  subst e;exact ZAn ss (fun vs=>f (v::vs)) vs (ZI3 s (fun v=>ZG4 ss fun vs=>f (v::vs)) v h h1) h2
theorem ZBj:∀(c:Z8m) (sv:SV pC),(∃(T:Type) (I:ZKI c T),(ZCy c I sv).isSome)->∃sv',InC c sv'/\toV sv'=toV sv/\∀(T:Type) (I:ZKI c T),ZCy c I sv'=ZCy c I sv
 |c,sv,⟨T,I,h⟩=>by
  cases c with
  |int k =>
   cases sv<;>simp only[ZCy]at h<;>first
    |(cases h;done)
    |(split at h
      ·rename_i hk;subst hk;exact⟨.int k _,⟨_,rfl⟩,rfl,fun T I=>rfl⟩
      ·cases h)
  |bool =>
   cases sv<;>simp only[ZCy]at h<;>first
    |(cases h;done)
    |exact⟨.bool (.var (den _)),⟨_,rfl⟩,rfl,fun T I=>rfl⟩
    |exact⟨.bool (.var _),⟨_,rfl⟩,rfl,fun T I=>rfl⟩
  |str=>cases sv<;>simp only[ZCy]at h<;>first
   |(cases h;done)
   |exact⟨.str _,⟨_,rfl⟩,rfl,fun T I=>rfl⟩
  |ptr=>cases sv<;>simp only[ZCy]at h<;>first
   |(cases h;done)
   |exact⟨.ptr _,⟨_,rfl⟩,rfl,fun T I=>rfl⟩
   |exact⟨.ptr (F _),⟨_,rfl⟩,rfl,fun T I=>rfl⟩
  |slice=>cases sv<;>simp only[ZCy]at h<;>first
   |(cases h;done)
   |exact⟨.slice _ _ _,⟨_,_,_,rfl⟩,rfl,fun T I=>rfl⟩
  |map=>cases sv<;>simp only[ZCy]at h<;>first
   |(cases h;done)
   |exact⟨.map _,⟨_,rfl⟩,rfl,fun T I=>rfl⟩
  |raw=>exact⟨.raw (toV sv),⟨_,rfl⟩,rfl,fun T I=>by cases sv<;>rfl⟩
  |addr=>cases sv<;>simp only[ZCy]at h<;>first
   |(cases h;done)
   |exact⟨.addr _,⟨_,rfl⟩,rfl,fun T I=>rfl⟩
theorem ZA2:∀(cs:List Z8m) (svs:List (SV pC)),(∃(T:Type) (I:ZFu cs T),(ZDB cs I svs).isSome)->∃svs',InCs cs svs'/\toVs svs'=toVs svs/\∀(T:Type) (I:ZFu cs T),ZDB cs I svs'=ZDB cs I svs
 |[],[],_=>⟨[],rfl,rfl,fun _ _=>rfl⟩
 |[],v::vs,⟨T,I,h⟩=>by cases h
 |c::cs,[],⟨T,I,h⟩=>by cases h
 |c::cs,v::vs,⟨T,I,h⟩=>by
  simp only[ZDB]at h;cases hc:ZCy c I v with
  |none=>rw[hc]at h;cases h
  |some I' =>
   rw[hc]at h;obtain⟨v',h1,h2,h3⟩:=ZBj c v ⟨_,I,by rw[hc];rfl⟩;obtain⟨vs',h4,h5,h6⟩:=ZA2 cs vs ⟨T,I',h⟩;refine⟨v'::vs',⟨v',vs',rfl,h1,h4⟩,by simp only[toVs,h2,h5],fun T I=>?_⟩;simp only[ZDB];rw[show ZCy c I v'=ZCy c I v from h3 _ I];cases ZCy c I v with
   |none=>rfl
   |some J=>exact h6 T J
theorem ZG7:∀(s:Shape1) (sv:SV pC),(∃(T:Type) (I:Inv1 s T),(ZHw s I sv).isSome)->∃sv',In1 s sv'/\toV sv'=toV sv/\∀(T:Type) (I:Inv1 s T),ZHw s I sv'=ZHw s I sv
 | .cell c,sv,h=>ZBj c sv h
 | .agg cs,sv,⟨T,I,h⟩=>by
   cases sv<;>simp only[ZHw]at h<;>first
    |(cases h;done)
    |(obtain⟨vs',h1,h2,h3⟩:=ZA2 cs _ ⟨T,I,h⟩
      exact⟨.agg vs',⟨vs',rfl,h1⟩,by simp only[toV,h2],fun T I=>h3 T I⟩)
 | .big n,sv,⟨T,I,h⟩=>by
   cases sv<;>simp only[ZHw]at h<;>first
    |(cases h;done)
    |(split at h
      ·rename_i hk;subst hk;exact⟨.big n _,⟨_,rfl⟩,rfl,fun T I=>rfl⟩
      ·cases h)
theorem Z8t:∀(ss:List Shape1) (svs:List (SV pC)),(∃(T:Type) (I:ZJO ss T) (w:O),(ZBa ss I svs w).isSome)->∃svs',InT ss svs'/\toVs svs'=toVs svs/\∀(T:Type) (I:ZJO ss T) (w:O),ZBa ss I svs' w=ZBa ss I svs w
 |[],[],_=>⟨[],rfl,rfl,fun _ _ _=>rfl⟩
 |[],v::vs,⟨T,I,w,h⟩=>by cases h
 |s::ss,[],⟨T,I,w,h⟩=>by cases h
 |s::ss,v::vs,⟨T,I,w,h⟩=>by
  simp only[ZBa]at h;cases hc:ZHw s I v with
  |none=>rw[hc]at h;cases h
  |some I' =>
   rw[hc]at h;obtain⟨v',h1,h2,h3⟩:=ZG7 s v ⟨_,I,by rw[hc];rfl⟩;obtain⟨vs',h4,h5,h6⟩:=Z8t ss vs ⟨T,I',w,h⟩;refine⟨v'::vs',⟨v',vs',rfl,h1,h4⟩,by simp only[toVs,h2,h5],fun T I w=>?_⟩;simp only[ZBa];rw[show ZHw s I v'=ZHw s I v from h3 _ I];cases ZHw s I v with
   |none=>rfl
   |some J=>exact h6 T J w
theorem Z9d{o:Option Prop}(h:ZIm o):o.isSome:=by cases o<;>first|rfl|cases h
theorem ZEL{e1 e2:Env pC}{t:Nat}:Z4h (e1++e2) t=if(e1.any fun p=>L p.1 t)then Z4h e1 t else Z4h e2 t:=by
 induction e1 with
 |nil=>simp[Z4h]
 |cons p e1 ih =>
  obtain⟨u,v⟩:=p;simp only[List.cons_append,Z4h,Jd];by_cases hb:L u t=J0
  ·simp[hb]
  ·have hb:L u t=S:=Bool.eq_false_iff.2 hb
   simp only[hb,cond_false,Bool.false_or];exact ih
theorem ZEM:∀(ts:List JX) (vs vs':List (SV pC)) (t:Nat),toVs vs=toVs vs'->toV (Z4h (ts.zip vs) t)=toV (Z4h (ts.zip vs') t)
 |[],_,_,_,_=>rfl
 |_::_,[],[],_,_=>rfl
 |_::_,[],_::_,_,h=>by simp[toVs]at h
 |_::_,_::_,[],_,h=>by simp[toVs]at h
 |u::ts,v::vs,v'::vs',t,h=>by
  simp only[toVs,List.cons.injEq]at h;simp only[J9,Z4h];cases L u t with
  |true=>exact h.1
  |false=>exact ZEM ts vs vs' t h.2
theorem ZG6:∀(ts:List JX) (vs:List (SV pC)) (t:Nat),vs.length=ts.length->((ts.zip vs).any fun p=>L p.1 t)=ts.any fun u=>L u t
 |[],_,_,_=>rfl
 |u::ts,[],_,h=>by cases h
 |u::ts,v::vs,t,h=>by
  simp only[J9,Jd];rw[ZG6 ts vs t (by simpa using h)]
theorem ZEQ{env env':Env pC}{a a':JA}{live written:List JX}{svs:List (SV pC)}(hr:Rep env a)(hr':Rep env' a')
  (hlen:svs.length=live.length) (hcar:toVs svs=toVs (live.map (Z4h env'))) (hkeep:∀t,t ∉ written->a'.tmps.getD t undef=a.tmps.getD t undef) :
  Rep (Z9A (pA P R) (fun t=>a'.tmps.getD t undef) live svs written env) a':=by
 intro t;unfold Z9A;rw[List.append_assoc,ZEL,ZG6 live svs t hlen];split
 ·rename_i hmem
  rw[ZEM live svs _ t hcar];obtain⟨u,hu,hb⟩:=List.any_eq_true.1 hmem
  have key:∀(ts:List JX),(∃u∈ts,L u t=J0)->toV (Z4h (ts.zip (ts.map (Z4h env'))) t)=toV (Z4h env' t):=by
   intro ts
   induction ts with
   |nil=>rintro⟨u,hu,_⟩;cases hu
   |cons x ts ih =>
    rintro⟨u,hu,hb⟩;simp only[Je,J9,Z4h];cases hx:L x t with
    |true=>rw[H hx];rfl
    |false =>
     refine ih ⟨u,?_,hb⟩;rcases List.mem_cons.1 hu with rfl|hu
     ·rw[hx]at hb;cases hb
     ·exact hu
  rw[key live ⟨u,hu,hb⟩];exact hr' t
 ·rw[ZEL]
  split
  ·rename_i hmem
   have key:∀(ws:List JX),(∃u∈ws,L u t=J0)->toV (Z4h (ws.map fun u=>(u,SV.raw (C:=pC) ((pA P R).junk (fun t=>a'.tmps.getD t undef) u))) t)=a'.tmps.getD t undef:=by
    intro ws
    induction ws with
    |nil=>rintro⟨u,hu,_⟩;cases hu
    |cons x ws ih =>
     rintro⟨u,hu,hb⟩;simp only[Je,Z4h];cases hx:L x t with
     |true=>rw[H hx];rfl
     |false =>
      refine ih ⟨u,?_,hb⟩;rcases List.mem_cons.1 hu with rfl|hu
      ·rw[hx]at hb;cases hb
      ·exact hu
   rw[key written];obtain⟨p,hp,hb⟩:=List.any_eq_true.1 hmem;obtain⟨u,hu,rfl⟩:=List.mem_map.1 hp;exact⟨u,hu,hb⟩
  ·rename_i hno
   rw[hkeep t ?_]
   ·exact hr t
   ·intro hmem
    apply hno;refine List.any_eq_true.2 ⟨(t,_),List.mem_map.2 ⟨t,hmem,rfl⟩,?_⟩;exact Jn t
structure Post (n:Nat) (W:List JX) (K:Kont pC) (a:JA) (Q:Js->JA->O->Prop):Prop where
 nrm:∀env' a' w',Rep env' a'->a'.tmps.size=n->a'.defers=a.defers->Keep W a a'->K.nrm env' w'->Q .normal a' w'
 exit:∀i env' a' w',Rep env' a'->a'.tmps.size=n->a'.defers=a.defers->Keep W a a'->K.exit i env' w'->Q (.exit i) a' w'
 ret:∀env' a' w',Rep env' a'->a'.tmps.size=n->a'.defers=a.defers->Keep W a a'->K.ret env' w'->Q .ret a' w'
theorem Z7d{ann:List (Nat×List (JX×Shape1))}(hm:P.follows J7=J0){n:Nat}:∀(c:Code) (W:List JX) (env:Env pC) (a:JA) (w:O) (K:Kont pC) (Q:Js->JA->O->Prop),
  Rep env a->a.tmps.size=n->Z22 n c=J0->(∀t∈Zt c,t∈W)->(∀ch(a a':JA) w,a.defers=a'.defers->(∀t,t ∉ W->a.tmps.getD t undef=a'.tmps.getD t undef)->Q (.panic ch) a w->Q (.panic ch) a' w)->(∀ch(a':JA) w',a'.defers=a.defers->Keep W a a'->R.fin (J8 ch) w'->Q (.panic ch) a' w') ->
  Z9u (pA P R) P ann c env w K->Post n W K a Q->c.wp P Q a w:=by
 intro c
 induction c with
 |skip=>intro W env a w K Q hrep hn hs hW hQ hR h hp;exact wp_skip (hp.nrm _ _ _ hrep hn rfl (Keep.refl _ _) h)
 |region id ops draw =>
  intro W env a w K Q hrep hn hs hW hQ hR h hp
  have hd:∀o∈ops,ZGL n o:=by
   intro o ho d hdst;have:=Array.all_eq_true_iff_forall_mem.1 hs o ho;simp only[hdst,decide_eq_true_eq]at this;exact this
  have hW':∀o∈ops,∀d,o.dst=F d->d∈W:=by
   intro o ho d hdst;refine hW d ?_;simp only[Zt,List.mem_filterMap,Array.mem_toList_iff];exact⟨o,ho,hdst⟩
  unfold Z9u at h;cases draw with
  |true =>
   simp only[if_true]at h;split at h
   ·rename_i hssa
    have h:=h _ rfl;refine ZE0 hm hssa (fun ch a a' w hd hk=>hQ ch a a' w hd (fun t ht=>by rw[X,X,hk t (fun q o ho hdst=>ht (hW' o (Z ho) t hdst))])) (Z2m hssa hd hW' _ _ [] [] env a _ K.nrm (by simp) (Z2o.start _ _) hrep hn (by simp) (by intro q hq;cases hq) h hR hp.nrm)
   ·exact h.elim
  |false =>
   simp only[JN,if_false]at h;exact wp_region_list (Z3W ops.toList env a w K.nrm hrep hn (fun o ho=>hd o (Array.mem_toList_iff.1 ho)) (fun o ho=>hW' o (Array.mem_toList_iff.1 ho)) h hR hp.nrm)
 |seq x y ihx ihy =>
  intro W env a w K Q hrep hn hs hW hQ hR h hp;simp only[Z22,J5]at hs;simp only[Zt,JV]at hW;unfold Z9u at h;split at h
  ·refine wp_seq (ihx W env a w _ _ hrep hn hs.1 (fun t ht=>hW t (M ht)) (fun ch a a' w=>hQ ch a a' w) (fun ch a' w'=>hR ch a' w') h ?_)
   exact{
    nrm:=fun env' a' w' h1 h2 h3 h4 h5=>ihy W env' a' w' K Q h1 h2 hs.2 (fun t ht=>hW t (J6 ht)) hQ (fun ch a2 w2 hd hk=>hR ch a2 w2 (hd.trans h3) (h4.trans hk)) h5 {
     nrm:=fun env'' a'' w'' g1 g2 g3 g4 g5=>hp.nrm _ _ _ g1 g2 (g3.trans h3) (h4.trans g4) g5
     exit:=fun i env'' a'' w'' g1 g2 g3 g4 g5=>hp.exit _ _ _ _ g1 g2 (g3.trans h3) (h4.trans g4) g5
     ret:=fun env'' a'' w'' g1 g2 g3 g4 g5=>hp.ret _ _ _ g1 g2 (g3.trans h3) (h4.trans g4) g5 }
    exit:=fun i env' a' w' h1 h2 h3 h4 h5=>hp.exit i _ _ _ h1 h2 h3 h4 h5
    ret:=fun env' a' w' h1 h2 h3 h4 h5=>hp.ret _ _ _ h1 h2 h3 h4 h5 }
  ·rename_i id live hann
   obtain⟨I,hpre,hrest⟩:=h;have hlen:∀e:Env pC,((live.map (·.1)).map (Z4h e)).length=(live.map (·.1)).length:=fun e=>by simp
   refine wp_seq (ihx (Zt x) env a w _ _ hrep hn hs.1 (fun t ht=>ht) (fun ch a1 a2 w hd hk=>hQ ch a1 a2 w hd (fun t ht=>hk t (fun hm=>ht (hW t (M hm))))) (fun ch a' w' hd hk=>hR ch a' w' hd (hk.mono fun t ht=>hW t (M ht))) hpre ?_)
   exact{
    nrm:=fun env' a' w' h1 h2 h3 h4 h5=>by
     have h5:ZIm (ZBa (live.map (·.2)) I ((live.map (·.1)).map (Z4h env')) w'):=h5;obtain⟨svs,k1,k2,k3⟩:=Z8t _ _ ⟨_,I,w',Z9d h5⟩
     have hl:svs.length=(live.map (·.1)).length:=by
      have:=congrArg JU k2;rw[Z00,Z00]at this;rw[this];exact hlen env'
     have hb:=ZAn _ _ _ hrest k1 (fun t=>a'.tmps.getD t undef) w' (by rw[k3];exact h5);have h4':Keep W a a':=h4.mono fun t ht=>hW t (M ht)
     exact ihy W _ a' w' K Q (ZEQ hrep h1 hl k2 h4) h2 hs.2 (fun t ht=>hW t (J6 ht)) hQ (fun ch a2 w2 hd hk=>hR ch a2 w2 (hd.trans h3) (h4'.trans hk)) hb {
      nrm:=fun env'' a'' w'' g1 g2 g3 g4 g5=>hp.nrm _ _ _ g1 g2 (g3.trans h3) (h4'.trans g4) g5
      exit:=fun i env'' a'' w'' g1 g2 g3 g4 g5=>hp.exit _ _ _ _ g1 g2 (g3.trans h3) (h4'.trans g4) g5
      ret:=fun env'' a'' w'' g1 g2 g3 g4 g5=>hp.ret _ _ _ g1 g2 (g3.trans h3) (h4'.trans g4) g5 }
    exit:=fun i env' a' w' h1 h2 h3 h4 h5=>hp.exit i _ _ _ h1 h2 h3 (h4.mono fun t ht=>hW t (M ht)) h5
    ret:=fun env' a' w' h1 h2 h3 h4 h5=>hp.ret _ _ _ h1 h2 h3 (h4.mono fun t ht=>hW t (M ht)) h5 }
 |cond c x y ihx ihy =>
  intro W env a w K Q hrep hn hs hW hQ hR h hp;simp only[Z22,J5]at hs;simp only[Zt,JV]at hW;unfold Z9u at h;have hev:a.eval c=toV (ev (pA P R) env c):=hrep.eval c;split at h
  ·rename_i t hc
   have hc':a.eval c=.bool t:=by rw[hev,hc];rfl
   refine wp_cond hc' ?_;cases t with
   |true=>exact ihx W env a w K Q hrep hn hs.1 (fun t ht=>hW t (M ht)) hQ hR h hp
   |false=>exact ihy W env a w K Q hrep hn hs.2 (fun t ht=>hW t (J6 ht)) hQ hR h hp
  ·rename_i t hc
   obtain⟨h1,h2⟩:=h;have hc':a.eval c=.bool (den t):=by rw[hev,hc];rfl
   have henv:∀b:Bool,den t=b->Rep (setC env c b) a:=by
    intro b hb;unfold setC;cases c with
    |tmp s =>
     refine hrep.refine ?_;have:toV (Z4h env s)=toV (ev (pA P R) env (.tmp s)):=rfl;rw[this,hc,<-hb];rfl
    |_=>exact hrep
   refine wp_cond hc' ?_;cases hd:den t with
   |true=>exact ihx W _ a w K Q (henv J0 hd) hn hs.1 (fun t ht=>hW t (M ht)) hQ hR (Z3q _ _ _ h1 hd) hp
   |false=>exact ihy W _ a w K Q (henv S hd) hn hs.2 (fun t ht=>hW t (J6 ht)) hQ hR (Z3q _ _ _ h2 hd) hp
  ·exact h.elim
 |block id c ih =>
  intro W env a w K Q hrep hn hs hW hQ hR h hp;unfold Z9u at h;refine wp_block (ih W env a w _ _ hrep hn hs hW (fun ch a a' w=>hQ ch a a' w) (fun ch a' w'=>hR ch a' w') h ?_)
  exact{
   nrm:=hp.nrm
   exit:=fun i env' a' w' h1 h2 h3 h4 h5=>by
    have h5:if i=id then K.nrm env' w' else K.exit i env' w':=h5;simp only[Exit.inBlock];split
    ·rename_i hi;rw[if_pos hi]at h5;exact hp.nrm _ _ _ h1 h2 h3 h4 h5
    ·rename_i hi;rw[if_neg hi]at h5;exact hp.exit i _ _ _ h1 h2 h3 h4 h5
   ret:=hp.ret }
 |loop c ih =>
  intro W env a w K Q hrep hn hs hW hQ hR h hp;unfold Z9u at h;split at h
  ·exact h.elim
  ·rename_i id live hann
   obtain⟨I,μ,h0,hround⟩:=h;have hlen:∀e:Env pC,((live.map (·.1)).map (Z4h e)).length=(live.map (·.1)).length:=fun e=>by simp
   let Inv:Nat->JA->O->Prop:=fun m a' w'=>∃svs jk,InT (live.map (·.2)) svs/\Rep (Z9A (pA P R) jk (live.map (·.1)) svs (Zt c) env) a'/\a'.tmps.size=n/\a'.defers=a.defers/\Keep (Zt c) a a' /\
    ZIm (ZBa (live.map (·.2)) I svs w')/\theN (ZBa (live.map (·.2)) μ svs w')=m
   have enter:∀(env':Env pC)(a':JA)(w':O),Rep env' a'->a'.tmps.size=n->a'.defers=a.defers->Keep (Zt c) a a' ->
     ZIm (ZBa (live.map (·.2)) I ((live.map (·.1)).map (Z4h env')) w')->Inv (theN (ZBa (live.map (·.2)) μ ((live.map (·.1)).map (Z4h env')) w')) a' w':=by
    intro env' a' w' hrep' hn' hdef hkeep hI;obtain⟨svs,h1,h2,h3⟩:=Z8t _ _ ⟨_,I,w',Z9d hI⟩;refine⟨svs,fun t=>a'.tmps.getD t undef,h1,?_,hn',hdef,hkeep,by rw[h3];exact hI,by rw[h3]⟩
    have hl:svs.length=(live.map (·.1)).length:=by
     have:=congrArg JU h2;rw[Z00,Z00]at this;rw[this];exact hlen env'
    exact ZEQ hrep hrep' hl h2 hkeep
   refine ZBW Inv (enter env a w hrep hn rfl (Keep.refl _ _) h0) ?_;rintro m a' w'⟨svs,jk,h1,h2,h3,h4,h5,h6,rfl⟩;have hb:=ZAn _ _ _ hround h1 jk w' h6;refine ih (Zt c) _ a' w' _ _ h2 h3 hs (fun t ht=>ht) (fun ch a1 a2 w hd hk=>hQ ch a1 a2 w hd (fun t ht=>hk t (fun hm=>ht (hW t hm)))) (fun ch a2 w2 hd hk=>hR ch a2 w2 (hd.trans h4) ((h5.mono fun t ht=>hW t ht).trans (hk.mono fun t ht=>hW t ht))) hb ?_;have hkW:Keep W a a':=h5.mono fun t ht=>hW t ht
   exact{
    nrm:=fun env'' a'' w'' g1 g2 g3 g4 g5=>by
     obtain⟨g5,g6⟩:=g5;exact⟨_,g6,enter env'' a'' w'' g1 g2 (g3.trans h4) (h5.trans g4) g5⟩
    exit:=fun i env'' a'' w'' g1 g2 g3 g4 g5=>hp.exit i _ _ _ g1 g2 (g3.trans h4) (hkW.trans (g4.mono fun t ht=>hW t ht)) g5
    ret:=fun env'' a'' w'' g1 g2 g3 g4 g5=>hp.ret _ _ _ g1 g2 (g3.trans h4) (hkW.trans (g4.mono fun t ht=>hW t ht)) g5 }
 |exit id=>intro W env a w K Q hrep hn hs hW hQ hR h hp;exact wp_exit (hp.exit _ _ _ _ hrep hn rfl (Keep.refl _ _) h)
 |ret=>intro W env a w K Q hrep hn hs hW hQ hR h hp;exact wp_ret (hp.ret _ _ _ hrep hn rfl (Keep.refl _ _) h)
 |rangeFunc=>intro W env a w K Q hrep hn hs hW hQ hR h hp;exact h.elim
 |scope=>intro W env a w K Q hrep hn hs hW hQ hR h hp;exact h.elim
 |label=>intro W env a w K Q hrep hn hs hW hQ hR h hp;exact h.elim
 |goto=>intro W env a w K Q hrep hn hs hW hQ hR h hp;exact h.elim
 |refuse=>intro W env a w K Q hrep hn hs hW hQ hR h hp;exact h.elim
theorem ZBK{r:ResultVar}{env:Env pC}{a:JA}{w:O}{k:SV pC->Prop}(hrep:Rep env a)(h:ZDg (pA P R) P r env w k) :
  ∃sv,((match r with
   | .tmp t=>pure (a.tmps.getD t undef)
   | .cell d t=>do J2 t (<-Jt (a.tmps.getD d undef))):Sem Value).run P w=JB (toV sv) w/\k sv:=by
 cases r with
 |tmp t =>
  refine⟨_,?_,h⟩;simp only[U];rw[hrep t]
 |cell d t =>
  unfold ZDg at h;simp only at h;split at h
  ·rename_i dd hd
   obtain⟨sv,h1,h2,_⟩:=Z6S h;refine⟨sv,?_,h2⟩;simp only[Y];rw[hrep d,hd];simp[toV,Jt,h1]
  ·exact h.elim
theorem Z6B{env:Env pC}{a:JA}{w:O}(hrep:Rep env a):∀(rs:List ResultVar) (k:List (SV pC)->Prop),Z8c (pA P R) P rs env w k ->
  ∃svs,(rs.mapM fun r=>(match r with
   | .tmp t=>pure (a.tmps.getD t undef)
   | .cell d t=>do J2 t (<-Jt (a.tmps.getD d undef)):Sem Value)).run P w=JB (toVs svs) w/\k svs
 |[],k,h=>⟨[],rfl,h⟩
 |r::rs,k,h=>by
  unfold Z8c at h;obtain⟨sv,h1,h⟩:=ZBK hrep h;obtain⟨svs,h2,h⟩:=Z6B hrep rs _ h;refine⟨sv::svs,?_,h⟩;rw[List.mapM_cons];simp only[Y,h1,h2,G,U,toVs]
theorem Z5q{fn:Jz}{env:Env pC}{a:JA}{w:O}(hrep:Rep env a)(h:ZJu (pA P R) P fn env w) :
  ∃v,(Jw fn a.tmps).run P w=JB v w/\R.fin (Jf v) w:=by
 unfold ZJu at h;obtain⟨svs,h1,h2⟩:=Z6B hrep _ _ h
 have hm:(fn.results.mapM fun r=>(match r with
   | .tmp t=>pure (a.tmps.getD t undef)
   | .cell d t=>do J2 t (<-Jt (a.tmps.getD d undef)):Sem Value)).run P w=JB (toVs svs).toArray w:=by
  rw[Array.mapM_eq_mapM_toList];simp only[Sem.run_map,h1,G]
 have hr:(Jw fn a.tmps).run P w=JB (if h:(toVs svs).toArray.size=1 then(toVs svs).toArray[0]else .tuple (toVs svs).toArray) w:=by
  unfold Jw;simp only[Y]
  erw [hm]
  rfl
 clear h1 hm
 match svs,h2,hr with
 |[v],h2,hr=>exact⟨_,hr,h2⟩
 |[],h2,hr=>exact⟨_,hr,h2⟩
 |v::v2::vs,h2,hr =>
  refine⟨_,hr,?_⟩;have:¬(toVs (v::v2::vs)).toArray.size=1:=by simp[toVs]
  rw[dif_neg this];exact h2
theorem Z5S:∀(l:List (SV pC)) (i t:Nat),toV (Z4h (Z2M i l) t)=if i<=t then(toVs l).getD (t-i) undef else undef
 |[],i,t=>by simp[Z2M,Z4h,toVs,toV,undef]
 |v::vs,i,t=>by
  simp only[Z2M,Z4h];by_cases hb:L i t=J0
  ·have:=H hb
   subst this;simp[hb,toVs]
  ·have hne:i≠t:=fun h=>hb (by rw[h];exact Jn t)
   have hb:L i t=S:=Bool.eq_false_iff.2 hb;simp only[hb,cond_false];rw[Z5S vs (i+1) t];by_cases hle:i<=t
   ·rw[if_pos (by omega),if_pos hle]
    rw[show t-i=(t-(i+1))+1 from by omega];simp[toVs]
   ·rw[if_neg (by omega),if_neg hle]
theorem Z87{fn:Jz}{args:List (SV pC)}:Rep (Z2M 0 args) ({ tmps:=(toVs args).toArray++JW (fn.ntmps-(toVs args).toArray.size) undef,defers:=[] }:JA):=by
 intro t;rw[Z5S];simp only[Nat.zero_le,if_true,Nat.sub_zero];rw[X];by_cases ht:t<(toVs args).length
 ·rw[D (by simpa using ht)]
  simp
 ·rw[Array.getElem?_append_right (by simpa using ht)]
  simp only[Array.getElem?_replicate,List.getD_eq_getElem?_getD];rw[List.getElem?_eq_none (by omega)];split<;>rfl
theorem ZEG{ann:List (Nat×List (JX×Shape1))}{fn:Jz}{args:List (SV pC)}{w:O}(hm:P.follows J7=J0)
  (h:Z6N (pA P R) P ann fn args w):∃c,fn.body=F c/\c.wp P (bodyPost P fn R.fin) { tmps:=(toVs args).toArray++JW (fn.ntmps-(toVs args).toArray.size) undef,defers:=[] } w:=by
 unfold Z6N at h;split at h
 ·exact h.elim
 ·rename_i c hb
  split at h
  ·rename_i hc
   refine⟨c,hb,?_⟩;refine Z7d hm c (Zt c) _ _ w _ _ Z87 ?_ hc.2 (fun t ht=>ht) ?_ (fun ch a' w' hd _ hf=>⟨hd,hf⟩) h ?_
   ·simp[Z00];omega
   ·intro ch a a' w hd _ hq
    exact⟨hd ▸ hq.1,hq.2⟩
   ·exact{
     nrm:=fun env' a' w' h1 h2 h3 h4 h5=>⟨h3,Z5q h1 h5⟩
     exit:=fun i env' a' w' h1 h2 h3 h4 h5=>h5.elim
     ret:=fun env' a' w' h1 h2 h3 _ h5=>⟨h3,Z5q h1 h5⟩ }
  ·exact h.elim
theorem Z1Y{ann:List (Nat×List (JX×Shape1))}{f:Jm}{fn:Jz}{args:List (SV pC)}{w:O}(hf:P.funcs[f]?=F fn)(hm:P.follows J7=J0)
  (h:Z6N (pA P R) P ann fn args w):Jv P f (toVs args).toArray w R.fin:=by
 obtain⟨c,hb,hw⟩:=ZEG hm h;exact calls_of_wp hf hb hw
theorem xs{P:Program}{R:Ending->O->Prop}{V:Prop}{f:Jm}{fn:Jz}{w:O}(ann:List (Nat×List (JX×Shape1)))(args:List (SV pC))(hf:P.funcs[f]?=F fn)(hm:P.follows J7=J0)
 (e:V=Z6N (pA P ⟨R,S⟩) P ann fn args w) (h:V):Jv P f (toVs args).toArray w R:=Z1Y (R:=⟨R,S⟩) hf hm (Eq.mp e h)
theorem xt{P:Program}{R:Ending->O->Prop}{V:Prop}{f:Jm}{fn:Jz}{w:O}(ann:List (Nat×List (JX×Shape1)))(args:List (SV pC))(hf:P.funcs[f]?=F fn)(hm:P.follows J7=J0)
 (e:V=Z6N (pA P ⟨R,J0⟩) P ann fn args w) (h:V):Jv P f (toVs args).toArray w R:=Z1Y (R:=⟨R,J0⟩) hf hm (Eq.mp e h)
end Go.Vcg
end
