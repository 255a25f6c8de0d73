/- Functions with deferred calls: their condition, and that it is enough. -/
/- The verification conditions of some functions, printed by a program of ours (wip/PrintVc.lean). -/
/- The verification conditions of some functions, printed by a program of ours (wip/PrintVc.lean). -/
/- The verification conditions of some functions, printed by a program of ours (wip/PrintVc.lean). -/
/- References and nodes of package proof in memory; contracts: refOf, isBranch, valueIf, CutPrefix. -/
import Derived.Test.YtfghidehlnfdiaaGreatTV
import Derived.Defers
import Derived.Test.YtfghidehlnfdiaaGreatPW1
import Derived.Test.YtfghidehlnfdiaaGreatProg
import Derived.KernelRfl
set_option linter.unusedVariables false
set_option linter.unusedSimpArgs false
open Array renaming ext'->Je,ext_getElem?->JT,getElem?_eq_none->J9,mapM_eq_mapM_toList->JK,replicate->JH,size->JS
open Bool renaming and_eq_true->JE,false->O,true->J5
open Go renaming Act->Jb,Calls->J1,CallsD->Jd,Deferred->Jc,Ending->J7,Exit->Jg,FrameMode->JN,Func->JZ,FuncId->JU,TypeId->Jf,Value->J4,World->I,bodyPostD->JI,convert->J8,results->JL,wpList->JV
open Go.Addr renaming add->JG
open Go.Code renaming region->JX,wp_mono->JO
open Go.Ending renaming panicked->E,returned->G
open Go.FrameMode renaming panicking->JA,returning->JD
open Go.Instr renaming lookup->Ja,storeAt->J6
open Go.IntKind renaming i64->J0,u8->V,wrap->J2
open Go.Obj renaming cells->JR
open Go.Proofs.Tryz renaming prog->J
open Go.Result renaming ok->JB
open Go.Sem renaming run->J3
open Go.Value renaming pointer->U,string->JM,tuple->T
open Int renaming toNat->JF
open List renaming getElem?_append_right->JJ,getElem?_toArray->JC,mapM_cons->JY,mem_append->JW,mem_of_mem_take->JQ,take_of_length_le->JP
open Option renaming none->N,some->Y
section
namespace Go.Vcg
structure ZDq (C:Car) where
 f:JU
 args:List (SV C)
def Z4B(P:Program)(rt:I->Prop)(R:J7->I->Prop):List (JU×Array J4)->JN->I->Prop
 |[],JD,w=>rt w
 |[],JA chain,w=>R (E chain) w
 |[],.run,_=>False
 |(f,args)::ds,u,w=>u≠.run/\Jd P f args u w fun
    | G _,u',w'=>Z4B P rt R ds (settle u') w'
    | E chain,u',w'=>Z4B P rt R ds (raised u' chain) w'
    | .outgrown,_,w'=>R .outgrown w'
section
variable{C:Car}(A:List (ZDq C)->(C.W->C.R)->Alg C)(leav:List (ZDq C)->(C.W->C.R)->C.W->C.R)(P:Program)
def pieces:Code->List Code
 | .seq a b=>pieces a++pieces b
 |c=>[c]
def ZCk:Code->Option (Array Oper×Oper×Call)
 | JX _ ops O=>match ops.back? with
   |some o=>match o.op with
    | .defer c=>if o.guard.isNone&&o.dst.isNone then Y (ops,o,c)else N
    |_=>N
   |none=>N
 |_=>N
def ZAs(fn:JZ):List Tmp:=fn.results.toList.map fun
 | .tmp t=>t
 | .cell a _=>a
def Z6X(fn:JZ)(rest:List Code):Bool:=rest.all fun c=>(ZZ c).all fun t=> !(ZAs fn).contains t
def endD(fn:JZ)(ds:List (ZDq C))(rt:C.W->C.R)(env:Env C)(w:C.W):C.R:=match ds with
 |[]=>ZFC (A [] rt) P fn env w
 |ds=>leav ds rt w
def ZCq(ann:List (Nat×List (Tmp×Shape1)))(fn:JZ):List Code->List (ZDq C)->(C.W->C.R)->Env C->C.W->C.R
 |[],ds,rt,env,w=>endD A leav P fn ds rt env w
 |c::rest,ds,rt,env,w =>
  match ZCk c with
  |some (ops,o,call)=>Z5Z (A ds rt) P ops (ops.toList.take (ops.size-1)) env w fun env w =>
   match call.callee with
   | .value f=>match ev (A ds rt) env f with
     | .func (.func g) first cap=>if Z7g P g&&Z6X fn rest then
       ZCq ann fn rest (⟨g,first++call.args.toList.map (ev (A ds rt) env)++cap⟩::ds) (match ds with|[]=>fun w=>ZFC (A ds rt) P fn env w|_=>rt) env w
       else(A ds rt).fail "defer"
     |_=>(A ds rt).fail "defer: what function?"
   |_=>(A ds rt).fail "defer"
  |none=>Z7T (A ds rt) P ann c env w { nrm:=fun env w=>ZCq ann fn rest ds rt env w,exit:=fun _ _ _=>(A ds rt).fail "exit",ret:=fun env w=>endD A leav P fn ds rt env w }
def ZBD(ann:List (Nat×List (Tmp×Shape1)))(fn:JZ)(args:List (SV C))(fl:C.R)(w:C.W):C.R :=
 match fn.body with
 |none=>fl
 |some c=>if args.length<=fn.ntmps/\Z15 fn.ntmps c=J5 then ZCq A leav P ann fn (pieces c) [] (fun _=>fl) (Z1J 0 args) w else fl
end
def dsV(ds:List (ZDq pC)):List (JU×Array J4):=ds.map fun d=>(d.f,(toVs d.args).toArray)
def finD(P:Program)(R:J7->I->Prop)(ds:List (ZDq pC))(rt:I->Prop)(e:J7)(w:I):Prop:=match ds with
 |[]=>R e w
 |d::ds=>match e with
  | E ch=>Z4B P rt R (dsV (d::ds)) (JA ch) w
  |e=>R e w
def aD(P:Program)(R:J7->I->Prop)(ds:List (ZDq pC))(rt:I->Prop):Alg pC:=pA P ⟨finD P R ds rt,J5⟩
def ZCz(P:Program)(R:J7->I->Prop)(ds:List (ZDq pC))(rt:I->Prop)(w:I):Prop:=Z4B P rt R (dsV ds) JD w
section
variable{P:Program}{R:J7->I->Prop}
def Z1L(P:Program):List Code->(Jg->Jb->I->Prop)->Jb->I->Prop
 |[],Q,a,w=>Q .normal a w
 |c::cs,Q,a,w=>c.wp P (Exit.then (Z1L P cs Q) Q) a w
theorem Z5E{Q Q':Jg->Jb->I->Prop}(hq:∀e a w,Q e a w->Q' e a w):∀(cs:List Code) (a:Jb) (w:I),Z1L P cs Q a w->Z1L P cs Q' a w
 |[],a,w,h=>hq _ _ _ h
 |c::cs,a,w,h=>JO (fun e a w q=>by cases e<;>first|exact Z5E hq cs _ _ q|exact hq _ _ _ q) h
theorem Z41:∀(xs ys:List Code) (Q:Jg->Jb->I->Prop) (a:Jb) (w:I),Z1L P (xs++ys) Q a w->Z1L P xs (Exit.then (Z1L P ys Q) Q) a w
 |[],ys,Q,a,w,h=>h
 |x::xs,ys,Q,a,w,h=>JO (fun e a w q=>by cases e<;>first|exact Z41 xs ys Q a w q|exact q) h
theorem ZDm:∀(c:Code) (Q:Jg->Jb->I->Prop) (a:Jb) (w:I),Z1L P (pieces c) Q a w->c.wp P Q a w:=by
 intro c
 induction c with
 |seq x y ihx ihy =>
  intro Q a w h;unfold pieces at h;refine wp_seq (ihx _ _ _ (Z5E (fun e a w q=>?_) _ _ _ (Z41 _ _ _ _ _ h)));cases e<;>first|exact ihy _ _ _ q|exact q
 |_ =>
  intro Q a w h;refine JO (fun e a w q=>?_) h;cases e<;>exact q
theorem Z7y{fn:JZ}{t t':Array J4}(h:∀s∈ZAs fn,t.getD s undef=t'.getD s undef):JL fn t=JL fn t':=by
 unfold JL
 have:∀(l:List ResultVar),(∀s∈(l.map fun|ResultVar.tmp t=>t| .cell a _=>a),t.getD s undef=t'.getD s undef) ->
   (l.mapM fun r=>(match r with
     | .tmp s=>pure (t.getD s undef)
     | .cell a ty=>do loadVar ty (<-asAddr (t.getD a undef)):Sem J4))=l.mapM fun r=>(match r with
     | .tmp s=>pure (t'.getD s undef)
     | .cell a ty=>do loadVar ty (<-asAddr (t'.getD a undef)):Sem J4):=by
  intro l
  induction l with
  |nil=>intro _;rfl
  |cons r l ih =>
   intro h;rw[JY,JY,ih (fun s hs=>h s (by simp[hs]))];cases r with
   |tmp s=>simp only[h s (by simp)]
   |cell a ty=>simp only[h a (by simp)]
 have h1:=this fn.results.toList h;rw[JK,JK]
 erw [h1]
 rfl
theorem ZFM{o:Oper}{a:Jb}{w:I}{K:Jb->I->Prop}{Q Q':Jg->Jb->I->Prop}(h:o.wp P a w K Q)(hp:∀ch a w,Q (.panic ch) a w->Q' (.panic ch) a w)(ho:LetsOut Q->LetsOut Q'):o.wp P a w K Q':=by
 unfold Oper.wp at *
 generalize(execOp a.eval o).run P w=r at *
 cases r with
 |ok n w' =>
  cases n<;>simp only[Oper.upon]at h ⊢ <;>
   first
    |exact h
    |exact Calls.mono h (fun e w'' he=>by cases e<;>first|exact he|exact hp _ _ _ he|exact ho he)
 |halt x w'=>cases x<;>simp only[Oper.upon]at h ⊢ <;> first|exact hp _ _ _ h|exact h
theorem Z3W{ops:Array Oper}{Q:Jg->Jb->I->Prop}:∀(xs ys:List Oper) (a:Jb) (w:I),JV P ops (Exit.then (JV P ops Q ys) Q) xs a w->JV P ops Q (xs++ys) a w
 |[],ys,a,w,h=>h
 |x::xs,ys,a,w,h=>by
  rw[List.cons_append];unfold JV at h ⊢;split
  ·rename_i hw
   rw[if_pos hw]at h;rcases h with h|⟨h1,h2⟩
   ·exact .inl (ZFM (Oper.wp_mono (fun a w=>Z3W xs ys a w) h) (fun _ _ _ h=>h) (fun⟨a,w,h⟩=>⟨a,w,h⟩))
   ·exact .inr ⟨h1,by obtain⟨a,w,h⟩:=h2;exact⟨a,w,h⟩⟩
  ·rename_i hw
   rw[if_neg hw]at h;exact Z3W xs ys _ w h
def Z8t(P:Program):List (JU×Array J4)->List Jc->Prop
 |[],[]=>True
 |(f,args)::ds,d::dd=>(∃fv cap,d.target=.fn fv cap/\∀w,(invoke d.target d.args).run P w=JB (.enter f args) w)/\Z8t P ds dd
 |_,_=>False
theorem Z2a{fn:JZ}{tmps:Array J4}{rt:I->Prop}(hrt:∀w,rt w->∃v,(JL fn tmps).run P w=JB v w/\R (G v) w):∀(ds:List (JU×Array J4)) (dd:List Jc) (u:JN) (w:I),Z8t P ds dd ->
  Z4B P rt R ds u w->Leaves P fn tmps R dd u w
 |[],[],u,w,_,h=>by
  cases u with
  |run=>exact h
  |returning=>exact hrt w h
  |panicking ch=>exact h
 |(f,args)::ds,[],_,_,h,_=>h.elim
 |[],d::dd,_,_,h,_=>h.elim
 |(f,args)::ds,d::dd,u,w,hd,h=>by
  obtain⟨⟨fv,cap,h1,h2⟩,h3⟩:=hd;obtain⟨hu,hc⟩:=h;refine⟨hu,fv,cap,f,args,h1,h2 w,hc.mono fun e u' w' he=>?_⟩;cases e with
  |returned v=>exact Z2a hrt ds dd _ _ h3 he
  |panicked ch=>exact Z2a hrt ds dd _ _ h3 he
  |outgrown=>exact he
theorem ZDA{n:Nat}:∀(c:Code),Z15 n c=J5->∀p∈pieces c,Z15 n p=J5:=by
 intro c
 induction c with
 |seq x y ihx ihy =>
  intro h p hp;simp only[Z15,JE]at h;simp only[pieces,JW]at hp;rcases hp with hp|hp
  ·exact ihx h.1 p hp
  ·exact ihy h.2 p hp
 |_=>intro h p hp;simp only[pieces,List.mem_singleton]at hp;subst hp;exact h
def RtOK(P:Program)(R:J7->I->Prop)(fn:JZ)(rt:I->Prop)(a:Jb):Prop:=∀w,rt w->∃v,(JL fn a.tmps).run P w=JB v w/\R (G v) w
theorem ZAR{ann:List (Nat×List (Tmp×Shape1))}(hm:P.follows .mixedOrders=J5){fn:JZ}{n:Nat}:∀(cs:List Code) (ds:List (ZDq pC)) (rt:I->Prop) (env:Env pC) (a:Jb) (w:I),
  Rep env a->a.tmps.size=n->(∀c∈cs,Z15 n c=J5)->Z8t P (dsV ds) a.defers->(ds≠[]->RtOK P R fn rt a/\Z6X fn cs=J5) ->
  ZCq (aD P R) (ZCz P R) P ann fn cs ds rt env w->Z1L P cs (JI P fn R) a w:=by
 have endS:∀(ds:List (ZDq pC))(rt:I->Prop)(env:Env pC)(a:Jb)(w:I),Rep env a->Z8t P (dsV ds) a.defers->(ds≠[]->RtOK P R fn rt a)->endD (aD P R) (ZCz P R) P fn ds rt env w->Leaves P fn a.tmps R a.defers JD w:=by
  intro ds rt env a w hrep hdd hrt h;cases ds with
  |nil =>
   have h:ZFC (pA P ⟨R,J5⟩) P fn env w:=h
   have he:a.defers=[]:=by
    cases hq:a.defers with
    |nil=>rfl
    |cons d dd=>rw[hq]at hdd;exact hdd.elim
   rw[he];exact Z46 hrep h
  |cons d ds=>exact Z2a (hrt (by simp)) _ _ _ _ hdd h
 intro cs
 induction cs with
 |nil=>intro ds rt env a w hrep hn hs hdd hrt h;exact endS ds rt env a w hrep hdd (fun hne=>(hrt hne).1) h
 |cons c rest ih =>
  intro ds rt env a w hrep hn hs hdd hrt h;unfold ZCq at h;have hrest:∀c∈rest,Z15 n c=J5:=fun c hc=>hs c (by simp[hc])
  have hclr:Z6X fn (c::rest)=J5->Z6X fn rest=J5/\∀t∈ZAs fn,t ∉ ZZ c:=by
   intro hc;simp only[Z6X,List.all_cons,JE]at hc;refine⟨hc.2,fun t ht hw=>?_⟩;have:=List.all_eq_true.1 hc.1 t hw;simp only[List.contains_eq_mem,decide_eq_true ht,Bool.not_true]at this;cases this
  have keepRt:∀(a':Jb),(∀t,t ∉ ZZ c->a'.tmps.getD t undef=a.tmps.getD t undef)->ds≠[]->RtOK P R fn rt a':=by
   intro a' hk hne w' hw;obtain⟨h1,h2⟩:=hrt hne;have he:JL fn a'.tmps=JL fn a.tmps:=Z7y fun s hsl=>hk s ((hclr h2).2 s hsl);rw[he];exact h1 w' hw
  split at h
  ·rename_i ops o call hdf
   have hc:∃id,c=JX id ops O/\ops.back?=Y o/\o.op=.defer call/\o.guard=N/\o.dst=N:=by
    unfold ZCk at hdf;split at hdf
    ·rename_i id ops'
     split at hdf
     ·rename_i o' ho
      split at hdf
      ·rename_i c' hop
       split at hdf
       ·rename_i hg
        simp only[JE,Option.isNone_iff_eq_none]at hg;cases hdf;exact⟨id,rfl,ho,hop,hg.1,hg.2⟩
       ·cases hdf
      ·cases hdf
     ·cases hdf
    ·cases hdf
   obtain⟨id,rfl,hback,hop,hguard,hdst⟩:=hc;have hsc:=hs (JX id ops O) (by simp)
   have hd:∀o∈ops.toList,ZCl n o:=by
    intro o ho d hdst;have:=Array.all_eq_true_iff_forall_mem.1 hsc o (Array.mem_toList_iff.1 ho);simp only[hdst,decide_eq_true_eq]at this;exact this
   have hW':∀o∈ops.toList,∀d,o.dst=Y d->d∈ZZ (JX id ops O):=by
    intro o ho d hdst;simp only[ZZ,List.mem_filterMap];exact⟨o,ho,hdst⟩
   have hsplit:ops.toList=ops.toList.take (ops.size-1)++[o]:=by
    have hl:ops.toList.length=ops.size:=Array.length_toList;have hb:ops.toList.getLast?=Y o:=by rw[Array.getLast?_toList];exact hback
    obtain⟨ys,hys⟩:=List.getLast?_eq_some_iff.1 hb;have h1:ops.size-1=ys.length:=by rw[<-hl,hys];simp
    rw[h1,hys,List.take_left]
   refine wp_region_list ?_;rw[hsplit];refine Z3W _ _ _ _ (Z2H (W:=ZZ (JX id ops O)) _ env a w _ hrep hn (fun o ho=>hd o (JQ ho)) (fun o ho=>hW' o (JQ ho)) h ?_ ?_)
   ·
    intro ch a' w' hd' hk hf;show Leaves P fn a'.tmps R a'.defers (JA ch) w';rw[hd'];cases ds with
    |nil =>
     have he:a.defers=[]:=by
      cases hq:a.defers with
      |nil=>rfl
      |cons d dd=>rw[hq]at hdd;exact hdd.elim
     rw[he];exact hf
    |cons d ds=>exact Z2a (keepRt a' hk (by simp)) _ _ _ _ hdd hf
   ·intro env' a' w' hrep' hn' hd' hk h
    show JV P ops (Exit.then (Z1L P rest (JI P fn R)) (JI P fn R)) [o] a' w';split at h
    case h_2=>exact h.elim
    rename_i f hcal;split at h
    case h_2=>exact h.elim
    rename_i g first cap hev
    split at h
    case isFalse=>exact h.elim
    rename_i hg;simp only[JE]at hg;have hev':a'.eval f=.func (.func g) (toVs first).toArray (toVs cap).toArray:=by rw[hrep'.eval f];erw [hev];rfl
    have hargs:call.args.map a'.eval=(toVs (call.args.toList.map (ev (aD P R ds rt) env'))).toArray:=by
     rw[Z1H,List.map_map];apply Je;simp only[Array.toList_map];exact List.map_congr_left fun x _=>hrep'.eval x
    have hex:(execOp a'.eval o).run P w'=JB (.defer { target:=.fn (.func g) (toVs cap).toArray,args:=(toVs first).toArray++call.args.map a'.eval }) w':=by
     simp[execOp,hop,resolve,hcal,Deferred.ofValue,hev']
    unfold JV;have hwant:Region.wanted o (yielded ops a'.tmps)=J5:=by simp[Region.wanted,hguard]
    rw[if_pos hwant];refine .inl ?_;unfold Oper.wp;rw[hex];rw[Oper.upon_defer];unfold JV;show Z1L P rest (JI P fn R) _ w';rw[hdst];refine ih (⟨g,first++call.args.toList.map (ev (aD P R ds rt) env')++cap⟩::ds) _ env' _ w' hrep' hn' hrest (And.intro ⟨.func g,(toVs cap).toArray,rfl,fun w''=>?_⟩ ?_) (fun _=>⟨?_,hg.2⟩) h
    ·show(callFunc g _).run P w''=_
     rw[Z29 hg.1];congr 2;rw[hargs];apply Je;simp[Z1H]
    ·show Z8t P (dsV ds) a'.defers
     rw[hd'];exact hdd
    ·intro w'' hw''
     cases ds with
     |nil=>exact Z46 (R:=⟨R,J5⟩) hrep' hw''
     |cons d ds=>exact keepRt a' hk (by simp) w'' hw''
  ·refine JO (Q:=fun e a' w'=>Exit.then (Z1L P rest (JI P fn R)) (JI P fn R) e a' w'/\(∀ch,e=.panic ch->ds=[]->a'.defers=[])) (fun e a' w' hq=>hq.1) ?_
   have hnil:ds=[]->a.defers=[]:=by
    rintro rfl;cases hq:a.defers with
    |nil=>rfl
    |cons d dd=>rw[hq]at hdd;exact hdd.elim
   refine Z5Q (R:=⟨finD P R ds rt,J5⟩) hm c (ZZ c) env a w _ _ hrep hn (hs c (by simp)) (fun t ht=>ht) ?_ ?_ h ?_
   ·intro ch a1 a2 w' hd' hk⟨h1,h2⟩
    refine⟨?_,fun ch' _ hne=>by rw[<-hd'];exact h2 ch rfl hne⟩;have h1:Leaves P fn a1.tmps R a1.defers (JA ch) w':=h1;show Leaves P fn a2.tmps R a2.defers (JA ch) w';rw[<-hd'];by_cases hne:ds=[]
    ·rw[h2 ch rfl hne]at h1 ⊢;exact h1
    ·have he:JL fn a1.tmps=JL fn a2.tmps:=Z7y fun s hsl=>hk s ((hclr (hrt hne).2).2 s hsl)
     have cong:∀(dd:List Jc)(u:JN)(w:I),Leaves P fn a1.tmps R dd u w->Leaves P fn a2.tmps R dd u w:=by
      intro dd
      induction dd with
      |nil =>
       intro u w hl;cases u with
       |run=>exact hl
       |returning=>obtain⟨v,hv⟩:=hl;exact⟨v,by rw[<-he];exact hv⟩
       |panicking ch=>exact hl
      |cons d dd ihd =>
       intro u w⟨g1,fv,cap,f,args,g2,g3,g4⟩;refine⟨g1,fv,cap,f,args,g2,g3,g4.mono fun e u' w' hh=>?_⟩;cases e with
       |returned v=>exact ihd _ _ hh
       |panicked ch=>exact ihd _ _ hh
       |outgrown=>exact hh
     exact cong _ _ _ h1
   ·intro ch a' w' hd' hk hf
    refine⟨?_,fun ch' _ hne=>by rw[hd'];exact hnil hne⟩;show Leaves P fn a'.tmps R a'.defers (JA ch) w';rw[hd'];cases ds with
    |nil=>rw[hnil rfl];exact hf
    |cons d ds=>exact Z2a (keepRt a' hk (by simp)) _ _ _ _ hdd hf
   ·exact{
     nrm:=fun env' a' w' h1 h2 h3 h4 h5=>by
      refine⟨?_,fun ch he=>by cases he⟩;show Z1L P rest (JI P fn R) a' w';exact ih ds rt env' a' w' h1 h2 hrest (by rw[h3];exact hdd) (fun hne=>⟨keepRt a' h4 hne,(hclr (hrt hne).2).1⟩) h5
     exit:=fun i env' a' w' h1 h2 h3 h4 h5=>h5.elim
     ret:=fun env' a' w' h1 h2 h3 h4 h5=>by
      refine⟨?_,fun ch he=>by cases he⟩;show Leaves P fn a'.tmps R a'.defers JD w';exact endS ds rt env' a' w' h1 (by rw[h3];exact hdd) (fun hne=>keepRt a' h4 hne) h5 }
theorem Z5l{ann:List (Nat×List (Tmp×Shape1))}{f:JU}{fn:JZ}{args:List (SV pC)}{w:I}(hf:P.funcs[f]?=Y fn)(hm:P.follows .mixedOrders=J5)
  (h:ZBD (aD P R) (ZCz P R) P ann fn args False w):J1 P f (toVs args).toArray w R:=by
 unfold ZBD at h;split at h
 ·exact h.elim
 ·rename_i c hb
  split at h
  ·rename_i hc
   refine calls_of_wp_defers hf hb (ZDm _ _ _ _ ?_);have hrep:Rep (Z1J 0 args) ({ tmps:=(toVs args).toArray++JH (fn.ntmps-(toVs args).toArray.size) undef,defers:=[] }:Jb):=Z5q;exact ZAR hm (pieces c) [] _ _ _ w hrep (by simp[Ze];omega) (ZDA c hc.2) trivial (fun h=>(h rfl).elim) h
  ·exact h.elim
theorem Z5m{ann:List (Nat×List (Tmp×Shape1))}{f:JU}{fn:JZ}{args:List (SV pC)}{u:JN}{w:I}(hf:P.funcs[f]?=Y fn)(hm:P.follows .mixedOrders=J5)
  (h:Z4S (pA P ⟨R,O⟩) P ann fn args w):Jd P f (toVs args).toArray u w fun e u' w'=>u'=u/\R e w':=by
 obtain⟨c,hb,hw⟩:=ZBE hm h;exact callsD_of_wp hf hb hw
end
end Go.Vcg
end
section
namespace Go.Proofs.YtfghidehlnfdiaaGreat
open Go Go.Vcg
abbrev Z1Y.n:Nat:=29
def Z1Y.Vc(a:Option Addr)(b c:Nat)(c:Bool)(w:I)(R:J7->I->Prop):Prop :=
 ∀d e,Z5 w 69 #[.map N,.bool O] d e ->
 (((b:Int)>4096 ->
 Z1 e d (.map N)/\∀f,Z3 e d (.map N) f ->
 Z1 f (d.add 1) (.bool O)/\∀g,Z3 f (d.add 1) (.bool O) g ->
 ∃f:Option Nat,∃h,g.cell? d=Y (.map f) /\
 g.cell? (d.add 1)=Y (.bool h) /\
 R (G (T #[.agg #[.map f,.bool h],.int J0 162])) g) /\
 (¬(b:Int)>4096 ->
 ∃f g,J3 J (Instr.makeMap 67 N) e=JB f g /\
 ∃e:Option Nat,f=(.map e) /\
 ∀f h,Z5 g 69 #[.map N,.bool O] f h ->
 Z1 h f (.map e)/\∀g,Z3 h f (.map e) g ->
 Z1 g (f.add 1) (.bool c)/\∀e,Z3 g (f.add 1) (.bool c) e ->
 ∃(c:Int->I->Prop)(g:Int->I->Nat),c 0 e /\
 (∀(e:Int)(h:Nat->J4)(h:I),c e h ->
 ((e<(b:Int) ->
 ∃i,a=Y i /\
 ((0:Int)<=e/\e<(b:Int)) /\
 ∃a,ZD h (i.add (e.toNat*33)) 33 a /\
 ∀i j,Z5 h 48 #[.int V 0,.int V 0,.int V 0,.int V 0,.int V 0,.int V 0,.int V 0,.int V 0,.int V 0,.int V 0,.int V 0,.int V 0,.int V 0,.int V 0,.int V 0,.int V 0,.int V 0,.int V 0,.int V 0,.int V 0,.int V 0,.int V 0,.int V 0,.int V 0,.int V 0,.int V 0,.int V 0,.int V 0,.int V 0,.int V 0,.int V 0,.int V 0,.slice N 0 0] i j ->
 ∃k,J3 J (J6 48 (U (Y i)) (.agg a)) j=JB () k /\
 ∃a:Option Nat,k.cell? f=Y (.map a) /\
 ∃j,ZD k i 32 j /\
 ∃l,J3 J (Ja 67 (.map a) (.agg j) J5) k=JB l k /\
 ∃a j m n,l=(T #[.slice a j m,.bool n]) /\
 ((n=O ->
 ∃a:Option Nat,k.cell? f=Y (.map a) /\
 ∃j,ZD k i 32 j /\
 ∃l m o,k.cell? (i.add 32)=Y (.slice l m o) /\
 ∃i,J3 J (Instr.mapUpdate 67 (.map a) (.agg j) (.slice l m o)) k=JB () i /\
 c (J2 J0 (e+1)) i/\g (J2 J0 (e+1)) i<g e h) /\
 (n=J5 ->
 c (J2 J0 (e+1)) k/\g (J2 J0 (e+1)) k<g e h))) /\
 (¬e<(b:Int) ->
 ∃a:Option Nat,∃b,h.cell? f=Y (.map a) /\
 h.cell? (f.add 1)=Y (.bool b) /\
 Z1 h d (.map a)/\∀c,Z3 h d (.map a) c ->
 Z1 c (d.add 1) (.bool b)/\∀a,Z3 c (d.add 1) (.bool b) a ->
 ∃b:Option Nat,∃c,a.cell? d=Y (.map b) /\
 a.cell? (d.add 1)=Y (.bool c) /\
 R (G (T #[.agg #[.map b,.bool c],.int J0 0])) a)))))
theorem Z1Y.vc(a b c d w R)(h:Z1Y.Vc a b c d w R):J1 J 29 #[(.slice a b c),(.bool d)] w R:=xs [(5,[(20,.cell (.int J0))])] [.slice a b c,.bool (.var d)] Tryz.func29 ZI (by kernel_rfl) h
abbrev Zv.n:Nat:=37
def Zv.Vc(a:Option Nat)(b:Bool)(c:Array J4)(w:I)(R:J7->I->Prop):Prop :=
 ∀d e,Z5 w 69 #[.map a,.bool b] d e ->
 ∀a b,Z5 e 27 c a b ->
 ∃c:Option Nat,b.cell? d=Y (.map c) /\
 ∃e,ZD b a 32 e /\
 ∃f,J3 J (Ja 67 (.map c) (.agg e) J5) b=JB f b /\
 ∃c e g h,f=(T #[.slice c e g,.bool h]) /\
 ((h=O ->
 J1 J 45 #[.int J0 160] b (fun f i =>
 ((∃ch,f=E ch/\R (E ch) i) \/
 f=G (T #[]) /\
 R (G (.slice c e g)) i))) /\
 (h=J5 ->
 ∀f,ZF b f ->
 ∃b,f.cell? (d.add 1)=Y (.bool b) /\
 ((b=J5 ->
 ∃d,ZD f a 32 d /\
 ∀h i,Z5 f 23 #[.slice c e g] h i ->
 ZD i a 32 d /\
 J1 J 53 #[.slice (Y h) 1 1] i (fun h i =>
 ((∃ch,h=E ch/\R (E ch) i) \/
 ∃j,h=G (.agg j) /\
 ZD i a 32 d /\
 ∃a,J3 J (Z07 .neq 27 (.tmp 24) (.tmp 25) (.agg j) (.agg d)) i=JB a i /\
 ∃d,a=(.bool d) /\
 ((d=J5 ->
 J1 J 45 #[.int J0 161] i (fun a h =>
 ((∃ch,a=E ch/\R (E ch) h) \/
 a=G (T #[]) /\
 R (G (.slice c e g)) h))) /\
 (d=O ->
 R (G (.slice c e g)) i))))) /\
 (b=O ->
 R (G (.slice c e g)) f))))
theorem Zv.vc(a b c w R)(h:Zv.Vc a b c w R):J1 J 37 #[(.agg #[(.map a),(.bool b)]),(.agg c)] w R:=xt [] [.agg [.map a,.bool (.var b)],.big 32 c] Tryz.func37 ZI (by kernel_rfl) h
abbrev Z1X.n:Nat:=39
def Z1X.Vc(a:Array J4)(w:I)(R:J7->I->Prop):Prop :=
 ∀b c,Z5 w 27 a b c ->
 ∀a d,Z5 c 82 #[.int V 0,.int V 0,.int V 0,.int V 0,.int V 0,.int V 0,.int V 0,.int V 0,.int V 0,.int V 0,.int V 0,.int V 0,.int V 0,.int V 0,.int V 0,.int V 0,.int V 0,.int V 0,.int V 0,.int V 0,.int V 0,.int V 0,.int V 0,.int V 0,.int V 0,.int V 0,.int V 0,.int V 0,.int V 0,.int V 0,.int V 0,.int V 0,U N,.bool O] a d ->
 ∀c,ZF d c ->
 ∃d,ZD c b 32 d /\
 ∃e,ZD c b 32 e /\
 J1 J 68 #[] c (fun c f =>
 ∃g,c=G (.agg g) /\
 ZD f b 32 e /\
 ZD f b 32 d /\
 ∃b,J3 J (Z07 .neq 27 (.tmp 4) (.tmp 5) (.agg e) (.agg g)) f=JB b f /\
 ∃c,b=(.bool c) /\
 JS d=32 /\
 ∃b,J3 J (J6 82 (U (Y a)) (.agg (ZY (lputL #[.int V 0,.int V 0,.int V 0,.int V 0,.int V 0,.int V 0,.int V 0,.int V 0,.int V 0,.int V 0,.int V 0,.int V 0,.int V 0,.int V 0,.int V 0,.int V 0,.int V 0,.int V 0,.int V 0,.int V 0,.int V 0,.int V 0,.int V 0,.int V 0,.int V 0,.int V 0,.int V 0,.int V 0,.int V 0,.int V 0,.int V 0,.int V 0,U N,.bool O] 0 32 d) 33 [.bool c]))) f=JB () b /\
 ∃c,ZD b a 34 c /\
 R (G (.agg c)) b)
theorem Z1X.vc(a w R)(h:Z1X.Vc a w R):J1 J 39 #[(.agg a)] w R:=xs [] [.big 32 a] Tryz.func39 ZI (by kernel_rfl) h
abbrev Z1V.n:Nat:=65
def Z1V.Vc(a:Bool)(b:Option Addr)(c d:Nat)(e:Option Addr)(f g:Nat)(w:I)(R:J7->I->Prop):Prop :=
 ∀h i,Z5 w 111 #[.bool a,.slice b c d,.slice e f g] h i ->
 ∀a b,Z5 i 86 #[.bool O,.slice N 0 0,.slice N 0 0,.slice N 0 0] a b ->
 ∃c d e,b.cell? (h.add 2)=Y (.slice c d e) /\
 (((d:Int)=2 ->
 ∃c e f,b.cell? (h.add 2)=Y (.slice c e f) /\
 ∃f,c=Y f /\
 ((0:Int)<=0/\0<(e:Int)) /\
 ∃c e g,b.cell? ((f.add 0).add 1)=Y (.slice c e g) /\
 J1 J 99 #[.slice c e g] b (fun c e =>
 ∃f g i j k,c=G (T #[.slice f g i,.bool j,.int J0 k]) /\
 ((j=J5 ->
 ∃c k l,e.cell? (h.add 2)=Y (.slice c k l) /\
 ∃l,c=Y l /\
 ((0:Int)<=1/\1<(k:Int)) /\
 ∃c k m,e.cell? ((l.add 3).add 1)=Y (.slice c k m) /\
 Z1 e a (.bool J5)/\∀l,Z3 e a (.bool J5) l ->
 Z1 l (a.add 1) (.slice f g i)/\∀n,Z3 l (a.add 1) (.slice f g i) n ->
 Z1 n (a.add 2) (.slice N 0 0)/\∀l,Z3 n (a.add 2) (.slice N 0 0) l ->
 Z1 l (a.add 3) (.slice c k m)/\∀n,Z3 l (a.add 3) (.slice c k m) n ->
 ∃c k l m o p q r s t,n.cell? a=Y (.bool c) /\
 n.cell? (a.add 1)=Y (.slice k l m) /\
 n.cell? (a.add 2)=Y (.slice o p q) /\
 n.cell? (a.add 3)=Y (.slice r s t) /\
 R (G (.agg #[.bool c,.slice k l m,.slice o p q,.slice r s t])) n) /\
 (j=O ->
 ∃c j k,e.cell? (h.add 2)=Y (.slice c j k) /\
 ∃k,c=Y k /\
 ((0:Int)<=1/\1<(j:Int)) /\
 ∃c j l m n o p,e.cell? (k.add 3)=Y (.bool c) /\
 e.cell? ((k.add 3).add 1)=Y (.slice j l m) /\
 e.cell? ((k.add 3).add 2)=Y (.slice n o p) /\
 J1 J 100 #[.agg #[.bool c,.slice j l m,.slice n o p]] e (fun c e =>
 ∃j,c=G (.agg j) /\
 JS j=34 /\
 ∀c k,Z5 e 82 (lputL #[.int V 0,.int V 0,.int V 0,.int V 0,.int V 0,.int V 0,.int V 0,.int V 0,.int V 0,.int V 0,.int V 0,.int V 0,.int V 0,.int V 0,.int V 0,.int V 0,.int V 0,.int V 0,.int V 0,.int V 0,.int V 0,.int V 0,.int V 0,.int V 0,.int V 0,.int V 0,.int V 0,.int V 0,.int V 0,.int V 0,.int V 0,.int V 0,U N,.bool O] 0 34 j) c k ->
 Z1 k a (.bool O)/\∀e,Z3 k a (.bool O) e ->
 Z1 e (a.add 1) (.slice f g i)/\∀j,Z3 e (a.add 1) (.slice f g i) j ->
 Z1 j (a.add 2) (.slice (Y c) 1 1)/\∀e,Z3 j (a.add 2) (.slice (Y c) 1 1) e ->
 Z1 e (a.add 3) (.slice N 0 0)/\∀c,Z3 e (a.add 3) (.slice N 0 0) c ->
 ∃e f g i j k l m n o,c.cell? a=Y (.bool e) /\
 c.cell? (a.add 1)=Y (.slice f g i) /\
 c.cell? (a.add 2)=Y (.slice j k l) /\
 c.cell? (a.add 3)=Y (.slice m n o) /\
 R (G (.agg #[.bool e,.slice f g i,.slice j k l,.slice m n o])) c))))) /\
 ((d:Int)≠2 ->
 ∃c d e,b.cell? (h.add 2)=Y (.slice c d e) /\
 ∃e,c=Y e /\
 ((0:Int)<=16/\16<(d:Int)) /\
 ∃c d f,b.cell? ((e.add 48).add 1)=Y (.slice c d f) /\
 ∀e g,Z5 b 86 #[.bool O,.slice N 0 0,.slice N 0 0,.slice N 0 0] e g ->
 Z1 g e (.bool O)/\∀b,Z3 g e (.bool O) b ->
 Z1 b (e.add 1) (.slice N 0 0)/\∀g,Z3 b (e.add 1) (.slice N 0 0) g ->
 Z1 g (e.add 2) (.slice N 0 0)/\∀b,Z3 g (e.add 2) (.slice N 0 0) b ->
 Z1 b (e.add 3) (.slice c d f)/\∀g,Z3 b (e.add 3) (.slice c d f) g ->
 ∃b c d,g.cell? (h.add 2)=Y (.slice b c d) /\
 16<=d /\
 ∃(c:Int->I->Prop)(d:Int->I->Nat),c 0 g /\
 (∀(f:Int)(g:Nat->J4)(g:I),c f g ->
 ((f<(16:Int) ->
 ∃h,b=Y h /\
 ((0:Int)<=f/\f<(16:Int)) /\
 ∃b i j k l m n,g.cell? (h.add (f.toNat*3))=Y (.bool b) /\
 g.cell? ((h.add (f.toNat*3)).add 1)=Y (.slice i j k) /\
 g.cell? ((h.add (f.toNat*3)).add 2)=Y (.slice l m n) /\
 ∀h o,Z5 g 111 #[.bool O,.slice N 0 0,.slice N 0 0] h o ->
 Z1 o h (.bool b)/\∀p,Z3 o h (.bool b) p ->
 Z1 p (h.add 1) (.slice i j k)/\∀b,Z3 p (h.add 1) (.slice i j k) b ->
 Z1 b (h.add 2) (.slice l m n)/\∀i,Z3 b (h.add 2) (.slice l m n) i ->
 ∀b,ZF i b ->
 ∃i j k,b.cell? (e.add 2)=Y (.slice i j k) /\
 ∃l m n o p q r,b.cell? h=Y (.bool l) /\
 b.cell? (h.add 1)=Y (.slice m n o) /\
 b.cell? (h.add 2)=Y (.slice p q r) /\
 J1 J 100 #[.agg #[.bool l,.slice m n o,.slice p q r]] b (fun b h =>
 ∃l,b=G (.agg l) /\
 h.cell? (e.add 2)=Y (.slice i j k) /\
 JS l=34 /\
 ∀b m,Z5 h 82 (lputL #[.int V 0,.int V 0,.int V 0,.int V 0,.int V 0,.int V 0,.int V 0,.int V 0,.int V 0,.int V 0,.int V 0,.int V 0,.int V 0,.int V 0,.int V 0,.int V 0,.int V 0,.int V 0,.int V 0,.int V 0,.int V 0,.int V 0,.int V 0,.int V 0,.int V 0,.int V 0,.int V 0,.int V 0,.int V 0,.int V 0,.int V 0,.int V 0,U N,.bool O] 0 34 l) b m ->
 m.cell? (e.add 2)=Y (.slice i j k) /\
 ∃h l,J3 J (builtinV .append #[84,84] 84 #[.slice i j k,.slice (Y b) 1 1]) m=JB h l /\
 ∃b i j,h=(.slice b i j) /\
 Z1 l (e.add 2) (.slice b i j)/\∀h,Z3 l (e.add 2) (.slice b i j) h ->
 c (J2 J0 (f+1)) h/\d (J2 J0 (f+1)) h<d f g)) /\
 (¬f<(16:Int) ->
 ∃b c d f h i j k l m,g.cell? e=Y (.bool b) /\
 g.cell? (e.add 1)=Y (.slice c d f) /\
 g.cell? (e.add 2)=Y (.slice h i j) /\
 g.cell? (e.add 3)=Y (.slice k l m) /\
 Z1 g a (.bool b)/\∀e,Z3 g a (.bool b) e ->
 Z1 e (a.add 1) (.slice c d f)/\∀b,Z3 e (a.add 1) (.slice c d f) b ->
 Z1 b (a.add 2) (.slice h i j)/\∀c,Z3 b (a.add 2) (.slice h i j) c ->
 Z1 c (a.add 3) (.slice k l m)/\∀b,Z3 c (a.add 3) (.slice k l m) b ->
 ∃c d e f g h i j k l,b.cell? a=Y (.bool c) /\
 b.cell? (a.add 1)=Y (.slice d e f) /\
 b.cell? (a.add 2)=Y (.slice g h i) /\
 b.cell? (a.add 3)=Y (.slice j k l) /\
 R (G (.agg #[.bool c,.slice d e f,.slice g h i,.slice j k l])) b)))))
theorem Z1V.vc(a b c d e f g w R)(h:Z1V.Vc a b c d e f g w R):J1 J 65 #[(.agg #[(.bool a),(.slice b c d),(.slice e f g)])] w R:=xs [(8,[(49,.cell (.int J0))])] [.agg [.bool (.var a),.slice b c d,.slice e f g]] Tryz.func65 ZI (by kernel_rfl) h
abbrev Z1W.n:Nat:=66
def Z1W.Vc(a:Option Addr)(b c:Nat)(w:I)(R:J7->I->Prop):Prop :=
 ∀d e,Z5 w 86 #[.bool O,.slice N 0 0,.slice N 0 0,.slice N 0 0] d e ->
 J1 J 101 #[.slice a b c] e (fun e f =>
 ∃g,e=G (.int J0 g) /\
 ((g≠0 ->
 Z1 f d (.bool O)/\∀e,Z3 f d (.bool O) e ->
 Z1 e (d.add 1) (.slice N 0 0)/\∀h,Z3 e (d.add 1) (.slice N 0 0) h ->
 Z1 h (d.add 2) (.slice N 0 0)/\∀e,Z3 h (d.add 2) (.slice N 0 0) e ->
 Z1 e (d.add 3) (.slice N 0 0)/\∀h,Z3 e (d.add 3) (.slice N 0 0) h ->
 ∃e i j k l m n o p q,h.cell? d=Y (.bool e) /\
 h.cell? (d.add 1)=Y (.slice i j k) /\
 h.cell? (d.add 2)=Y (.slice l m n) /\
 h.cell? (d.add 3)=Y (.slice o p q) /\
 R (G (T #[.agg #[.bool e,.slice i j k,.slice l m n,.slice o p q],.int J0 161])) h) /\
 (g=0 ->
 J1 J 102 #[.slice a b c] f (fun a b =>
 ∃c e f g h i j k,a=G (T #[.agg #[.bool c,.slice e f g,.slice h i j],.int J0 k]) /\
 ∀a k,Z5 b 111 #[.bool O,.slice N 0 0,.slice N 0 0] a k ->
 Z1 k a (.bool c)/\∀b,Z3 k a (.bool c) b ->
 Z1 b (a.add 1) (.slice e f g)/\∀c,Z3 b (a.add 1) (.slice e f g) c ->
 Z1 c (a.add 2) (.slice h i j)/\∀b,Z3 c (a.add 2) (.slice h i j) b ->
 ∃c e f g h i j,b.cell? a=Y (.bool c) /\
 b.cell? (a.add 1)=Y (.slice e f g) /\
 b.cell? (a.add 2)=Y (.slice h i j) /\
 J1 J 65 #[.agg #[.bool c,.slice e f g,.slice h i j]] b (fun a b =>
 ∃c e f g h i j k l m,a=G (.agg #[.bool c,.slice e f g,.slice h i j,.slice k l m]) /\
 Z1 b d (.bool c)/\∀a,Z3 b d (.bool c) a ->
 Z1 a (d.add 1) (.slice e f g)/\∀b,Z3 a (d.add 1) (.slice e f g) b ->
 Z1 b (d.add 2) (.slice h i j)/\∀a,Z3 b (d.add 2) (.slice h i j) a ->
 Z1 a (d.add 3) (.slice k l m)/\∀b,Z3 a (d.add 3) (.slice k l m) b ->
 ∃a c e f g h i j k l,b.cell? d=Y (.bool a) /\
 b.cell? (d.add 1)=Y (.slice c e f) /\
 b.cell? (d.add 2)=Y (.slice g h i) /\
 b.cell? (d.add 3)=Y (.slice j k l) /\
 R (G (T #[.agg #[.bool a,.slice c e f,.slice g h i,.slice j k l],.int J0 0])) b)))))
theorem Z1W.vc(a b c w R)(h:Z1W.Vc a b c w R):J1 J 66 #[(.slice a b c)] w R:=xs [] [.slice a b c] Tryz.func66 ZI (by kernel_rfl) h
abbrev Z1A.n:Nat:=83
def Z1A.Vc(a:Option Addr)(b c:Nat)(d:Bool)(w:I)(R:J7->I->Prop):Prop :=
 ((d=O ->
 R (G (T #[.slice N 0 0,.bool O])) w) /\
 (d=J5 ->
 J1 J 36 #[.slice a b c] w (fun a b =>
 ∃c d e,a=G (.slice c d e) /\
 R (G (T #[.slice c d e,.bool J5])) b)))
theorem Z1A.vc(a b c d w R)(h:Z1A.Vc a b c d w R):J1 J 83 #[(.slice a b c),(.bool d)] w R:=xs [] [.slice a b c,.bool (.var d)] Tryz.func83 ZI (by kernel_rfl) h
abbrev Zu.n:Nat:=67
def Zu.Vc(a:Bool)(b:Option Addr)(c d:Nat)(e:Option Addr)(f g:Nat)(h:Option Addr)(i j:Nat)(w:I)(R:J7->I->Prop):Prop :=
 ∀k l,Z5 w 86 #[.bool a,.slice b c d,.slice e f g,.slice h i j] k l ->
 ∃a b c,l.cell? (k.add 2)=Y (.slice a b c) /\
 R (G (.bool (decide ((b:Int)=16)))) l
theorem Zu.vc(a b c d e f g i j k w R)(h:Zu.Vc a b c d e f g i j k w R):J1 J 67 #[(.agg #[(.bool a),(.slice b c d),(.slice e f g),(.slice i j k)])] w R:=xs [] [.agg [.bool (.var a),.slice b c d,.slice e f g,.slice i j k]] Tryz.func67 ZI (by kernel_rfl) h
abbrev Z1R.n:Nat:=100
def Z1R.Vc(a:Bool)(b:Option Addr)(c d:Nat)(e:Option Addr)(f g:Nat)(w:I)(R:J7->I->Prop):Prop :=
 ∀h i,Z5 w 111 #[.bool a,.slice b c d,.slice e f g] h i ->
 ∀a b,Z5 i 82 #[.int V 0,.int V 0,.int V 0,.int V 0,.int V 0,.int V 0,.int V 0,.int V 0,.int V 0,.int V 0,.int V 0,.int V 0,.int V 0,.int V 0,.int V 0,.int V 0,.int V 0,.int V 0,.int V 0,.int V 0,.int V 0,.int V 0,.int V 0,.int V 0,.int V 0,.int V 0,.int V 0,.int V 0,.int V 0,.int V 0,.int V 0,.int V 0,U N,.bool O] a b ->
 ∃c,b.cell? h=Y (.bool c) /\
 ((c=J5 ->
 ∃d,J3 J (J6 82 (U (Y a)) (.agg (ZY (ZY #[.int V 0,.int V 0,.int V 0,.int V 0,.int V 0,.int V 0,.int V 0,.int V 0,.int V 0,.int V 0,.int V 0,.int V 0,.int V 0,.int V 0,.int V 0,.int V 0,.int V 0,.int V 0,.int V 0,.int V 0,.int V 0,.int V 0,.int V 0,.int V 0,.int V 0,.int V 0,.int V 0,.int V 0,.int V 0,.int V 0,.int V 0,.int V 0,U N,.bool O] 32 [U (Y h)]) 33 [.bool J5]))) b=JB () d /\
 ∃e,ZD d a 34 e /\
 R (G (.agg e)) d) /\
 (c=O ->
 ∃c d e,b.cell? (h.add 1)=Y (.slice c d e) /\
 (((d:Int)=0 ->
 ∃c,J3 J (J6 82 (U (Y a)) (.agg #[.int V 0,.int V 0,.int V 0,.int V 0,.int V 0,.int V 0,.int V 0,.int V 0,.int V 0,.int V 0,.int V 0,.int V 0,.int V 0,.int V 0,.int V 0,.int V 0,.int V 0,.int V 0,.int V 0,.int V 0,.int V 0,.int V 0,.int V 0,.int V 0,.int V 0,.int V 0,.int V 0,.int V 0,.int V 0,.int V 0,.int V 0,.int V 0,U N,.bool O])) b=JB () c /\
 ∃e,ZD c a 34 e /\
 R (G (.agg e)) c) /\
 ((d:Int)≠0 ->
 ∃c d e,b.cell? (h.add 1)=Y (.slice c d e) /\
 32<=d /\
 ∃d,c=Y d /\
 ∃c,ZD b d 32 c /\
 JS c=32 /\
 ∃d,J3 J (J6 82 (U (Y a)) (.agg (ZY (lputL #[.int V 0,.int V 0,.int V 0,.int V 0,.int V 0,.int V 0,.int V 0,.int V 0,.int V 0,.int V 0,.int V 0,.int V 0,.int V 0,.int V 0,.int V 0,.int V 0,.int V 0,.int V 0,.int V 0,.int V 0,.int V 0,.int V 0,.int V 0,.int V 0,.int V 0,.int V 0,.int V 0,.int V 0,.int V 0,.int V 0,.int V 0,.int V 0,U N,.bool O] 0 32 c) 33 [.bool J5]))) b=JB () d /\
 ∃b,ZD d a 34 b /\
 R (G (.agg b)) d))))
theorem Z1R.vc(a b c d e f g w R)(h:Z1R.Vc a b c d e f g w R):J1 J 100 #[(.agg #[(.bool a),(.slice b c d),(.slice e f g)])] w R:=xs [] [.agg [.bool (.var a),.slice b c d,.slice e f g]] Tryz.func100 ZI (by kernel_rfl) h
abbrev Z32.n:Nat:=49
def Z32.Vc(a:Array J4)(b:Option Addr)(c d:Nat)(e:J4)(w:I)(R:J7->I->Prop):Prop :=
 ∀f g,Z5 w 27 a f g ->
 J1 J 43 #[.slice b c d] g (fun a b =>
 ((∃ch,a=E ch/\R (E ch) b) \/
 ∃c d g,a=G (.slice c d g) /\
 ∃a,ZD b f 32 a /\
 J1 J 39 #[.agg a] b (fun a b =>
 ((∃ch,a=E ch/\R (E ch) b) \/
 ∃f,a=G (.agg f) /\
 ∀a h,Z5 b 82 #[.int V 0,.int V 0,.int V 0,.int V 0,.int V 0,.int V 0,.int V 0,.int V 0,.int V 0,.int V 0,.int V 0,.int V 0,.int V 0,.int V 0,.int V 0,.int V 0,.int V 0,.int V 0,.int V 0,.int V 0,.int V 0,.int V 0,.int V 0,.int V 0,.int V 0,.int V 0,.int V 0,.int V 0,.int V 0,.int V 0,.int V 0,.int V 0,U N,.bool O] a h ->
 ∃b,J3 J (J6 82 (U (Y a)) (.agg f)) h=JB () b /\
 ∃(f:Option Addr->Nat->Nat->Addr->I->Prop)(h:Option Addr->Nat->Nat->Addr->I->Nat),f c d g a b /\
 (∀(a:Option Addr)(b:Nat)(c:Nat)(d:Addr)(g:Nat->J4)(g:I),f a b c d g ->
 ∃i,g.cell? (d.add 33)=Y (.bool i) /\
 ((i=J5 ->
 ∀j k,Z5 g 86 #[.bool O,.slice N 0 0,.slice N 0 0,.slice N 0 0] j k ->
 ∃(l:I->Prop),(∃m,k.cell? (d.add 32)=Y (U m) /\
 ((m≠N ->
 ∃n,k.cell? (d.add 32)=Y (U n) /\
 ∃o,n=Y o /\
 ∃n p q r s t u,k.cell? o=Y (.bool n) /\
 k.cell? (o.add 1)=Y (.slice p q r) /\
 k.cell? (o.add 2)=Y (.slice s t u) /\
 J1 J 65 #[.agg #[.bool n,.slice p q r,.slice s t u]] k (fun n o =>
 ((∃ch,n=E ch/\R (E ch) o) \/
 ∃p q r s t u v x y z,n=G (.agg #[.bool p,.slice q r s,.slice t u v,.slice x y z]) /\
 Z1 o j (.bool p)/\∀n,Z3 o j (.bool p) n ->
 Z1 n (j.add 1) (.slice q r s)/\∀o,Z3 n (j.add 1) (.slice q r s) o ->
 Z1 o (j.add 2) (.slice t u v)/\∀n,Z3 o (j.add 2) (.slice t u v) n ->
 Z1 n (j.add 3) (.slice x y z)/\∀o,Z3 n (j.add 3) (.slice x y z) o ->
 l  o))) /\
 (m=N ->
 ∃m,ZD k d 32 m /\
 Z6L J e #[.agg m] k (fun e k =>
 ((∃ch,e=E ch/\R (E ch) k) \/
 ∃m n o,e=G (.slice m n o) /\
 J1 J 66 #[.slice m n o] k (fun e k =>
 ((∃ch,e=E ch/\R (E ch) k) \/
 ∃m n o p q r s t u v x,e=G (T #[.agg #[.bool m,.slice n o p,.slice q r s,.slice t u v],.int J0 x]) /\
 Z1 k j (.bool m)/\∀e,Z3 k j (.bool m) e ->
 Z1 e (j.add 1) (.slice n o p)/\∀k,Z3 e (j.add 1) (.slice n o p) k ->
 Z1 k (j.add 2) (.slice q r s)/\∀e,Z3 k (j.add 2) (.slice q r s) e ->
 Z1 e (j.add 3) (.slice t u v)/\∀k,Z3 e (j.add 3) (.slice t u v) k ->
 J1 J 45 #[.int J0 x] k (fun e k =>
 ((∃ch,e=E ch/\R (E ch) k) \/
 e=G (T #[]) /\
 l  k))))))))) /\
 (∀  (e:Nat->J4)(e:I),l  e ->
 ∃k,e.cell? j=Y (.bool k) /\
 ((k=J5 ->
 ∃l m n,e.cell? (j.add 1)=Y (.slice l m n) /\
 J1 J 82 #[.slice l m n,.slice a b c] e (fun l m =>
 ((∃ch,l=E ch/\R (E ch) m) \/
 ∃n,l=G (.bool n) /\
 ∃l o p,m.cell? (j.add 3)=Y (.slice l o p) /\
 J1 J 83 #[.slice l o p,.bool n] m (fun l m =>
 ((∃ch,l=E ch/\R (E ch) m) \/
 ∃n o p q,l=G (T #[.slice n o p,.bool q]) /\
 R (G (T #[.slice n o p,.bool q])) m))))) /\
 (k=O ->
 ∃k l m n o p q r s t,e.cell? j=Y (.bool k) /\
 e.cell? (j.add 1)=Y (.slice l m n) /\
 e.cell? (j.add 2)=Y (.slice o p q) /\
 e.cell? (j.add 3)=Y (.slice r s t) /\
 J1 J 67 #[.agg #[.bool k,.slice l m n,.slice o p q,.slice r s t]] e (fun e k =>
 ((∃ch,e=E ch/\R (E ch) k) \/
 ∃l,e=G (.bool l) /\
 ((l=O ->
 ∃e m n,k.cell? (j.add 1)=Y (.slice e m n) /\
 J1 J 84 #[.slice a b c,.slice e m n] k (fun e m =>
 ((∃ch,e=E ch/\R (E ch) m) \/
 ∃n o p q,e=G (T #[.slice n o p,.bool q]) /\
 ((q=O ->
 R (G (T #[.slice N 0 0,.bool O])) m) /\
 (q=J5 ->
 ∃e q r,m.cell? (j.add 2)=Y (.slice e q r) /\
 ∃r,e=Y r /\
 ((0:Int)<=0/\0<(q:Int)) /\
 ∃e,ZD m (r.add 0) 34 e /\
 ∃q,J3 J (J6 82 (U (Y d)) (.agg e)) m=JB () q /\
 ∃e,ZD q d 34 e /\
 ∀m r,Z5 q 82 #[.int V 0,.int V 0,.int V 0,.int V 0,.int V 0,.int V 0,.int V 0,.int V 0,.int V 0,.int V 0,.int V 0,.int V 0,.int V 0,.int V 0,.int V 0,.int V 0,.int V 0,.int V 0,.int V 0,.int V 0,.int V 0,.int V 0,.int V 0,.int V 0,.int V 0,.int V 0,.int V 0,.int V 0,.int V 0,.int V 0,.int V 0,.int V 0,U N,.bool O] m r ->
 ∃q,J3 J (J6 82 (U (Y m)) (.agg e)) r=JB () q /\
 f n o p m q/\h n o p m q<h a b c d g))))) /\
 (l=J5 ->
 (((b:Int)=0 ->
 ∃e l m,k.cell? (j.add 3)=Y (.slice e l m) /\
 ∃n o p,k.cell? (j.add 3)=Y (.slice n o p) /\
 J1 J 83 #[.slice e l m,.bool (decide ((o:Int)>0))] k (fun e l =>
 ((∃ch,e=E ch/\R (E ch) l) \/
 ∃m n o p,e=G (T #[.slice m n o,.bool p]) /\
 R (G (T #[.slice m n o,.bool p])) l))) /\
 ((b:Int)≠0 ->
 ∀e,ZF k e ->
 ∃k l m,e.cell? (j.add 2)=Y (.slice k l m) /\
 ∃j,a=Y j /\
 ((0:Int)<=0/\0<(b:Int)) /\
 ∃m,e.cell? (j.add 0)=Y (.int V m) /\
 ∃j,k=Y j /\
 ((0:Int)<=m/\m<(l:Int)) /\
 ∃k,ZD e (j.add (m.toNat*34)) 34 k /\
 1<=b /\
 ∃j,J3 J (J6 82 (U (Y d)) (.agg k)) e=JB () j /\
 ∃e,ZD j d 34 e /\
 ∀k l,Z5 j 82 #[.int V 0,.int V 0,.int V 0,.int V 0,.int V 0,.int V 0,.int V 0,.int V 0,.int V 0,.int V 0,.int V 0,.int V 0,.int V 0,.int V 0,.int V 0,.int V 0,.int V 0,.int V 0,.int V 0,.int V 0,.int V 0,.int V 0,.int V 0,.int V 0,.int V 0,.int V 0,.int V 0,.int V 0,.int V 0,.int V 0,.int V 0,.int V 0,U N,.bool O] k l ->
 ∃j,J3 J (J6 82 (U (Y k)) (.agg e)) l=JB () j /\
 f (subO a c 1 1) (b-1) (c-1) k j/\h (subO a c 1 1) (b-1) (c-1) k j<h a b c d g)))))))))) /\
 (i=O ->
 R (G (T #[.slice N 0 0,.bool O])) g)))))))
theorem Z32.vc(a b c d e w R)(h:Z32.Vc a b c d e w R):J1 J 49 #[(.agg a),(.slice b c d),e] w R:=xt [(3,[(8,.cell (.slice)),(9,.cell (.addr))]),(1000011,[])] [.big 32 a,.slice b c d,.raw e] Tryz.func49 ZI (by kernel_rfl) h
def Z0r.Vc(a b:Addr)(w:I)(R:J7->I->Prop):Prop :=
 ∃c,w.cell? a=Y (.int J0 c) /\
 ((c≠0 ->
 Z1 w b (.slice N 0 0)/\∀a,Z3 w b (.slice N 0 0) a ->
 R (G (T #[])) a) /\
 (c=0 ->
 R (G (T #[])) w))
theorem Z0r.vcd(u:JN)(a:Addr)(b:Addr)(w:I)(R:J7->I->Prop)(h:Z0r.Vc a b w R):Jd J 48 #[(U (Y a)),(U (Y b))] u w (fun e u' w'=>u'=u/\R e w') :=
 Z5m (R:=R) (ann:=[]) (args:=[.addr a,.addr b]) Tryz.func48 ZI (Eq.mp (by kernel_rfl:Z0r.Vc a b w R=Z4S (pA J ⟨R,O⟩) J [] Tryz.f48 [.addr a,.addr b] w) h)
def Z2G.Vc(a:Array J4)(b c:Addr)(w:I)(R:J7->I->Prop):Prop :=
 ∀d e,Z5 w 27 a d e ->
 ∃a:Option Nat,∃f,e.cell? b=Y (.map a) /\
 e.cell? (b.add 1)=Y (.bool f) /\
 ∃b,ZD e d 32 b /\
 J1 J 37 #[.agg #[.map a,.bool f],.agg b] e (fun a b =>
 ((∃ch,a=E ch/\R (E ch) b) \/
 ∃d e f,a=G (.slice d e f) /\
 ∀a,ZF b a ->
 ∃b g h,a.cell? c=Y (.slice b g h) /\
 J1 J 36 #[.slice d e f] a (fun a i =>
 ((∃ch,a=E ch/\R (E ch) i) \/
 ∃j k l,a=G (.slice j k l) /\
 i.cell? c=Y (.slice b g h) /\
 ∀a m,Z5 i 23 #[.slice j k l] a m ->
 m.cell? c=Y (.slice b g h) /\
 ∃i j,J3 J (builtinV .append #[31,31] 31 #[.slice b g h,.slice (Y a) 1 1]) m=JB i j /\
 ∃a b g,i=(.slice a b g) /\
 Z1 j c (.slice a b g)/\∀h,Z3 j c (.slice a b g) h ->
 R (G (.slice d e f)) h))))
theorem Z2G.vc(a b c w R)(h:Z2G.Vc a b c w R):J1 J 50 #[(.agg a),(U (Y b)),(U (Y c))] w R:=xt [] [.big 32 a,.addr b,.addr c] Tryz.func50 ZI (by kernel_rfl) h
def Z0g.Vc(a b c:Addr)(w:I)(R:J7->I->Prop):Prop :=
 ∃d,w.cell? a=Y (.int J0 d) /\
 ((d≠0 ->
 Z1 w b (.slice N 0 0)/\∀a,Z3 w b (.slice N 0 0) a ->
 Z1 a c (.bool O)/\∀b,Z3 a c (.bool O) b ->
 R (G (T #[])) b) /\
 (d=0 ->
 R (G (T #[])) w))
theorem Z0g.vcd(u:JN)(a:Addr)(b:Addr)(c:Addr)(w:I)(R:J7->I->Prop)(h:Z0g.Vc a b c w R):Jd J 51 #[(U (Y a)),(U (Y b)),(U (Y c))] u w (fun e u' w'=>u'=u/\R e w') :=
 Z5m (R:=R) (ann:=[]) (args:=[.addr a,.addr b,.addr c]) Tryz.func51 ZI (Eq.mp (by kernel_rfl:Z0g.Vc a b c w R=Z4S (pA J ⟨R,O⟩) J [] Tryz.f51 [.addr a,.addr b,.addr c] w) h)
def Z22.Vc(a:Array J4)(b c:Addr)(w:I)(R:J7->I->Prop):Prop :=
 ∀d e,Z5 w 27 a d e ->
 ∃(a:I->Prop),(∃f,e.cell? b=Y (.int J0 f) /\
 ∃g h i,e.cell? c=Y (.slice g h i) /\
 ((f=(h:Int) ->
 J1 J 45 #[.int J0 160] e (fun g i =>
 ((∃ch,g=E ch/\R (E ch) i) \/
 g=G (T #[]) /\
 a  i))) /\
 (f≠(h:Int) ->
 a  e))) /\
 (∀  (e:Nat->J4)(e:I),a  e ->
 ∃a f g,e.cell? c=Y (.slice a f g) /\
 ∃c,e.cell? b=Y (.int J0 c) /\
 ∃g,a=Y g /\
 ((0:Int)<=c/\c<(f:Int)) /\
 ∃a f h,e.cell? (g.add c.toNat)=Y (.slice a f h) /\
 ∃c,e.cell? b=Y (.int J0 c) /\
 Z1 e b (.int J0 (J2 J0 (c+1)))/\∀g,Z3 e b (.int J0 (J2 J0 (c+1))) g ->
 ∀b,ZF g b ->
 ∃c,ZD b d 32 c /\
 ∀e g,Z5 b 23 #[.slice a f h] e g ->
 ZD g d 32 c /\
 J1 J 53 #[.slice (Y e) 1 1] g (fun b e =>
 ((∃ch,b=E ch/\R (E ch) e) \/
 ∃g,b=G (.agg g) /\
 ZD e d 32 c /\
 ∃b,J3 J (Z07 .neq 27 (.tmp 19) (.tmp 20) (.agg g) (.agg c)) e=JB b e /\
 ∃c,b=(.bool c) /\
 ((c=J5 ->
 J1 J 45 #[.int J0 163] e (fun b d =>
 ((∃ch,b=E ch/\R (E ch) d) \/
 b=G (T #[]) /\
 R (G (.slice a f h)) d))) /\
 (c=O ->
 R (G (.slice a f h)) e)))))
theorem Z22.vc(a b c w R)(h:Z22.Vc a b c w R):J1 J 52 #[(.agg a),(U (Y b)),(U (Y c))] w R:=xt [(1000003,[])] [.big 32 a,.addr b,.addr c] Tryz.func52 ZI (by kernel_rfl) h
abbrev Z1Q.n:Nat:=21
def Z1Q.Vc(a:Option Addr)(b c:Nat)(d:Array J4)(e:Option Addr)(f g:Nat)(w:I)(R:J7->I->Prop):Prop :=
 ∀h i,Z5 w 27 d h i ->
 ∀d j,Z5 i 31 #[.slice N 0 0] d j ->
 ∀i k,Z5 j 40 #[.int J0 0] i k ->
 J1 J 29 #[.slice a b c,.bool O] k (fun a b =>
 ((∃ch,a=E ch/\R (E ch) b) \/
 ∃c:Option Nat,∃j k,a=G (T #[.agg #[.map c,.bool j],.int J0 k]) /\
 ∀a l,Z5 b 69 #[.map N,.bool O] a l ->
 Z1 l a (.map c)/\∀b,Z3 l a (.map c) b ->
 Z1 b (a.add 1) (.bool j)/\∀c,Z3 b (a.add 1) (.bool j) c ->
 Z1 c i (.int J0 k)/\∀b,Z3 c i (.int J0 k) b ->
 ∃c,b.cell? i=Y (.int J0 c) /\
 ((c≠0 ->
 ∀j,ZF b j ->
 ∃k,j.cell? i=Y (.int J0 k) /\
 Z1 j d (.slice N 0 0)/\∀l,Z3 j d (.slice N 0 0) l ->
 l.cell? i=Y (.int J0 k) /\
 Z1 l i (.int J0 k)/\∀j,Z3 l i (.int J0 k) j ->
 ∃k l m,j.cell? d=Y (.slice k l m) /\
 ∃n,j.cell? i=Y (.int J0 n) /\
 R (G (T #[.slice k l m,.int J0 n])) j) /\
 (c=0 ->
 (((f:Int)>64 ->
 Z1 b d (.slice N 0 0)/\∀c,Z3 b d (.slice N 0 0) c ->
 Z1 c i (.int J0 140)/\∀j,Z3 c i (.int J0 140) j ->
 ∃c k l,j.cell? d=Y (.slice c k l) /\
 ∃m,j.cell? i=Y (.int J0 m) /\
 R (G (T #[.slice c k l,.int J0 m])) j) /\
 (¬(f:Int)>64 ->
 ∃c,ZD b h 32 c /\
 J1 J 49 #[.agg c,.slice e f g,.func (.func 50) #[] #[U (Y a),U (Y d)]] b (fun a b =>
 ((∃ch,a=E ch/\Z4B J (fun c =>
 ∃e f g,c.cell? d=Y (.slice e f g) /\
 ∃h,c.cell? i=Y (.int J0 h) /\
 R (G (T #[.slice e f g,.int J0 h])) c) R [(32,#[U (Y i)]),(48,#[U (Y i),U (Y d)])] (JA ch) b) \/
 ∃c e f g,a=G (T #[.slice c e f,.bool g]) /\
 ∃a c e,b.cell? d=Y (.slice a c e) /\
 Z1 b d (.slice a c e)/\∀f,Z3 b d (.slice a c e) f ->
 Z1 f i (.int J0 0)/\∀a,Z3 f i (.int J0 0) a ->
 Z4B J (fun b =>
 ∃c e f,b.cell? d=Y (.slice c e f) /\
 ∃g,b.cell? i=Y (.int J0 g) /\
 R (G (T #[.slice c e f,.int J0 g])) b) R [(32,#[U (Y i)]),(48,#[U (Y i),U (Y d)])] JD a))))))))
theorem Z1Q.vc(a:Option Addr)(b:Nat)(c:Nat)(d:Array J4)(e:Option Addr)(f:Nat)(g:Nat)(w:I)(R:J7->I->Prop)(h:Z1Q.Vc a b c d e f g w R):J1 J 21 #[(.slice a b c),(.agg d),(.slice e f g)] w R :=
 Z5l (ann:=[]) (args:=[.slice a b c,.big 32 d,.slice e f g]) Tryz.func21 ZI (Eq.mp (by kernel_rfl:Z1Q.Vc a b c d e f g w R=ZBD (aD J R) (ZCz J R) J [] Tryz.f21 [.slice a b c,.big 32 d,.slice e f g] False w) h)
abbrev Z14.n:Nat:=22
def Z14.Vc(a:Array J4)(b:Option Addr)(c d:Nat)(e:Option Addr)(f g:Nat)(w:I)(R:J7->I->Prop):Prop :=
 ∀h i,Z5 w 27 a h i ->
 ∀a j,Z5 i 31 #[.slice e f g] a j ->
 ∀e f,Z5 j 23 #[.slice N 0 0] e f ->
 ∀g i,Z5 f 4 #[.bool O] g i ->
 ∀f j,Z5 i 40 #[.int J0 0] f j ->
 ∃i k l,j.cell? a=Y (.slice i k l) /\
 (((k:Int)>256 ->
 Z1 j e (.slice N 0 0)/\∀i,Z3 j e (.slice N 0 0) i ->
 Z1 i g (.bool O)/\∀l,Z3 i g (.bool O) l ->
 Z1 l f (.int J0 162)/\∀i,Z3 l f (.int J0 162) i ->
 ∃l m n,i.cell? e=Y (.slice l m n) /\
 ∃o,i.cell? g=Y (.bool o) /\
 ∃p,i.cell? f=Y (.int J0 p) /\
 R (G (T #[.slice l m n,.bool o,.int J0 p])) i) /\
 (¬(k:Int)>256 ->
 (((c:Int)>64 ->
 Z1 j e (.slice N 0 0)/\∀i,Z3 j e (.slice N 0 0) i ->
 Z1 i g (.bool O)/\∀k,Z3 i g (.bool O) k ->
 Z1 k f (.int J0 140)/\∀i,Z3 k f (.int J0 140) i ->
 ∃k l m,i.cell? e=Y (.slice k l m) /\
 ∃n,i.cell? g=Y (.bool n) /\
 ∃o,i.cell? f=Y (.int J0 o) /\
 R (G (T #[.slice k l m,.bool n,.int J0 o])) i) /\
 (¬(c:Int)>64 ->
 ∀i k,Z5 j 3 #[.int J0 0] i k ->
 Z1 k i (.int J0 0)/\∀j,Z3 k i (.int J0 0) j ->
 ∃k,ZD j h 32 k /\
 J1 J 49 #[.agg k,.slice b c d,.func (.func 52) #[] #[U (Y i),U (Y a)]] j (fun b c =>
 ((∃ch,b=E ch/\Z4B J (fun d =>
 ∃h j k,d.cell? e=Y (.slice h j k) /\
 ∃l,d.cell? g=Y (.bool l) /\
 ∃m,d.cell? f=Y (.int J0 m) /\
 R (G (T #[.slice h j k,.bool l,.int J0 m])) d) R [(32,#[U (Y f)]),(51,#[U (Y f),U (Y e),U (Y g)])] (JA ch) c) \/
 ∃d h j k,b=G (T #[.slice d h j,.bool k]) /\
 Z1 c e (.slice d h j)/\∀b,Z3 c e (.slice d h j) b ->
 Z1 b g (.bool k)/\∀c,Z3 b g (.bool k) c ->
 ∃b,c.cell? i=Y (.int J0 b) /\
 ∃d h i,c.cell? a=Y (.slice d h i) /\
 ((b<(h:Int) ->
 J1 J 45 #[.int J0 162] c (fun a d =>
 ((∃ch,a=E ch/\Z4B J (fun i =>
 ∃j k l,i.cell? e=Y (.slice j k l) /\
 ∃m,i.cell? g=Y (.bool m) /\
 ∃n,i.cell? f=Y (.int J0 n) /\
 R (G (T #[.slice j k l,.bool m,.int J0 n])) i) R [(32,#[U (Y f)]),(51,#[U (Y f),U (Y e),U (Y g)])] (JA ch) d) \/
 a=G (T #[]) /\
 ∀a,ZF d a ->
 ∃d i j,a.cell? e=Y (.slice d i j) /\
 ∃k,a.cell? g=Y (.bool k) /\
 Z1 a e (.slice d i j)/\∀l,Z3 a e (.slice d i j) l ->
 l.cell? g=Y (.bool k) /\
 Z1 l g (.bool k)/\∀a,Z3 l g (.bool k) a ->
 Z1 a f (.int J0 0)/\∀d,Z3 a f (.int J0 0) d ->
 Z4B J (fun a =>
 ∃i j k,a.cell? e=Y (.slice i j k) /\
 ∃l,a.cell? g=Y (.bool l) /\
 ∃m,a.cell? f=Y (.int J0 m) /\
 R (G (T #[.slice i j k,.bool l,.int J0 m])) a) R [(32,#[U (Y f)]),(51,#[U (Y f),U (Y e),U (Y g)])] JD d))) /\
 (¬b<(h:Int) ->
 ∀a,ZF c a ->
 ∃b c d,a.cell? e=Y (.slice b c d) /\
 ∃h,a.cell? g=Y (.bool h) /\
 Z1 a e (.slice b c d)/\∀i,Z3 a e (.slice b c d) i ->
 i.cell? g=Y (.bool h) /\
 Z1 i g (.bool h)/\∀a,Z3 i g (.bool h) a ->
 Z1 a f (.int J0 0)/\∀b,Z3 a f (.int J0 0) b ->
 Z4B J (fun a =>
 ∃c d h,a.cell? e=Y (.slice c d h) /\
 ∃i,a.cell? g=Y (.bool i) /\
 ∃j,a.cell? f=Y (.int J0 j) /\
 R (G (T #[.slice c d h,.bool i,.int J0 j])) a) R [(32,#[U (Y f)]),(51,#[U (Y f),U (Y e),U (Y g)])] JD b))))))))
theorem Z14.vc(a:Array J4)(b:Option Addr)(c:Nat)(d:Nat)(e:Option Addr)(f:Nat)(g:Nat)(w:I)(R:J7->I->Prop)(h:Z14.Vc a b c d e f g w R):J1 J 22 #[(.agg a),(.slice b c d),(.slice e f g)] w R :=
 Z5l (ann:=[]) (args:=[.big 32 a,.slice b c d,.slice e f g]) Tryz.func22 ZI (Eq.mp (by kernel_rfl:Z14.Vc a b c d e f g w R=ZBD (aD J R) (ZCz J R) J [] Tryz.f22 [.big 32 a,.slice b c d,.slice e f g] False w) h)
abbrev Z1r.n:Nat:=45
def Z1r.Vc(a:Int)(w:I)(R:J7->I->Prop):Prop :=
 ((a≠0 ->
 R (E (ZD9 (.iface 127 (.agg #[.int J0 a])))) w) /\
 (a=0 ->
 R (G (T #[])) w))
theorem Z1r.vc(a w R)(h:Z1r.Vc a w R):J1 J 45 #[(.int J0 a)] w R:=xt [] [.int J0 a] Tryz.func45 ZI (by kernel_rfl) h
abbrev Z0X.n:Nat:=25
def Z0X.Vc(a:Option Addr)(b c:Nat)(d:Array J4)(e:Option Addr)(f g:Nat)(w:I)(R:J7->I->Prop):Prop :=
 ∀h i,Z5 w 27 d h i ->
 (((f:Int)>64 ->
 R (G (T #[.slice N 0 0,.bool O,.slice N 0 0,.int J0 140])) i) /\
 (¬(f:Int)>64 ->
 ∀d,ZF i d ->
 ∃i,ZD d h 32 i /\
 J1 J 40 #[] d (fun d j =>
 ∃k,d=G (.agg k) /\
 ZD j h 32 i /\
 ∃d,J3 J (Z07 .eql 27 (.tmp 23) (.tmp 24) (.agg i) (.agg k)) j=JB d j /\
 ∃i,d=(.bool i) /\
 ((i=J5 ->
 R (G (T #[.slice N 0 0,.bool O,.slice N 0 0,.int J0 0])) j) /\
 (i=O ->
 J1 J 54 #[.slice e f g] j (fun d e =>
 ∃f g i,d=G (.slice f g i) /\
 ∃d,ZD e h 32 d /\
 ∀h j,Z5 e 27 (JH 32 (.int V 0)) h j ->
 ∃e,J3 J (J6 27 (U (Y h)) (.agg d)) j=JB () e /\
 ∃(d:Option Addr->Nat->Nat->Option Addr->Nat->Nat->I->Prop)(j:Option Addr->Nat->Nat->Option Addr->Nat->Nat->I->Nat),d N 0 0 f g i e /\
 (∀(e:Option Addr)(f:Nat)(g:Nat)(i:Option Addr)(k:Nat)(l:Nat)(m:Nat->J4)(m:I),d e f g i k l m ->
 ∃n,ZD m h 32 n /\
 J1 J 58 #[.slice a b c,.agg n] m (fun a b =>
 ∃c n o p,a=G (T #[.slice c n o,.bool p]) /\
 ((p=O ->
 R (G (T #[.slice N 0 0,.bool O,.slice e f g,.int J0 142])) b) /\
 (p=J5 ->
 J1 J 59 #[.slice c n o] b (fun a b =>
 ∃p,a=G (.int J0 p) /\
 ((p≠0 ->
 R (G (T #[.slice N 0 0,.bool O,.slice e f g,.int J0 143])) b) /\
 (p=0 ->
 ∀a p,Z5 b 23 #[.slice c n o] a p ->
 ∃b q,J3 J (builtinV .append #[31,31] 31 #[.slice e f g,.slice (Y a) 1 1]) p=JB b q /\
 ∃a p r,b=(.slice a p r) /\
 J1 J 60 #[.slice c n o] q (fun b c =>
 ∃n o q s t u v x,b=G (T #[.agg #[.bool n,.slice o q s,.slice t u v],.int J0 x]) /\
 ∀b x,Z5 c 111 #[.bool O,.slice N 0 0,.slice N 0 0] b x ->
 Z1 x b (.bool n)/\∀c,Z3 x b (.bool n) c ->
 Z1 c (b.add 1) (.slice o q s)/\∀n,Z3 c (b.add 1) (.slice o q s) n ->
 Z1 n (b.add 2) (.slice t u v)/\∀c,Z3 n (b.add 2) (.slice t u v) c ->
 ∃n o q s t u v,c.cell? b=Y (.bool n) /\
 c.cell? (b.add 1)=Y (.slice o q s) /\
 c.cell? (b.add 2)=Y (.slice t u v) /\
 J1 J 61 #[.agg #[.bool n,.slice o q s,.slice t u v],.slice i k l] c (fun b c =>
 ∃n o q s t u v x y z A B C,b=G (T #[.slice n o q,.slice s t u,.agg #[.bool v,.slice x y z,.slice A B C]]) /\
 ∀b D,Z5 c 111 #[.bool O,.slice N 0 0,.slice N 0 0] b D ->
 Z1 D b (.bool v)/\∀c,Z3 D b (.bool v) c ->
 Z1 c (b.add 1) (.slice x y z)/\∀v,Z3 c (b.add 1) (.slice x y z) v ->
 Z1 v (b.add 2) (.slice A B C)/\∀c,Z3 v (b.add 2) (.slice A B C) c ->
 ∃v,c.cell? b=Y (.bool v) /\
 ((v=J5 ->
 R (G (T #[.slice n o q,.bool (decide ((o:Int)>0)),.slice a p r,.int J0 0])) c) /\
 (v=O ->
 ∃v x y,c.cell? (b.add 1)=Y (.slice v x y) /\
 (((x:Int)=0 ->
 R (G (T #[.slice n o q,.bool (decide ((o:Int)>0)),.slice a p r,.int J0 0])) c) /\
 ((x:Int)≠0 ->
 ∀n,ZF c n ->
 ∃c o q,n.cell? (b.add 1)=Y (.slice c o q) /\
 ∃b v,J3 J (builtinV .copy #[23,23] 3 #[.slice (Y h) 32 32,.slice c o q]) n=JB b v /\
 ∃c,b=(.int J0 c) /\
 d a p r s t u v/\j a p r s t u v<j e f g i k l m)))))))))))))))))))
theorem Z0X.vc(a b c d e f g w R)(h:Z0X.Vc a b c d e f g w R):J1 J 25 #[(.slice a b c),(.agg d),(.slice e f g)] w R:=xs [(8,[(10,.cell (.slice)),(11,.cell (.slice))])] [.slice a b c,.big 32 d,.slice e f g] Tryz.func25 ZI (by kernel_rfl) h
abbrev Z0J.n:Nat:=61
def Z0J.Vc(a:Bool)(b:Option Addr)(c d:Nat)(e:Option Addr)(f g:Nat)(h:Option Addr)(i j:Nat)(w:I)(R:J7->I->Prop):Prop :=
 ∀k l,Z5 w 111 #[.bool a,.slice b c d,.slice e f g] k l ->
 ∀a b,Z5 l 111 #[.bool O,.slice N 0 0,.slice N 0 0] a b ->
 ∃(c:Option Addr->Nat->Nat->I->Prop)(d:Option Addr->Nat->Nat->I->Nat),c h i j b /\
 (∀(b:Option Addr)(e:Nat)(f:Nat)(g:Nat->J4)(g:I),c b e f g ->
 ∃h,g.cell? k=Y (.bool h) /\
 ((h=J5 ->
 ∃i j l,g.cell? (k.add 2)=Y (.slice i j l) /\
 (((j:Int)=2 ->
 ∃i l m,g.cell? (k.add 2)=Y (.slice i l m) /\
 ∃m,i=Y m /\
 ((0:Int)<=0/\0<(l:Int)) /\
 ∃i l n,g.cell? ((m.add 0).add 1)=Y (.slice i l n) /\
 J1 J 95 #[.slice i l n] g (fun i l =>
 ∃m n o p q,i=G (T #[.slice m n o,.bool p,.int J0 q]) /\
 ((p=J5 ->
 ∃i,J3 J (J8 23 9 (.slice m n o)) l=JB i l /\
 ∃q,i=(JM q) /\
 ∃i,J3 J (J8 23 9 (.slice b e f)) l=JB i l /\
 ∃r,i=(JM r) /\
 ((Z76 .eql q r=J5 ->
 ∃i s t,l.cell? (k.add 2)=Y (.slice i s t) /\
 ∃t,i=Y t /\
 ((0:Int)<=1/\1<(s:Int)) /\
 ∃i s u,l.cell? ((t.add 3).add 1)=Y (.slice i s u) /\
 Z1 l a (.bool O)/\∀t,Z3 l a (.bool O) t ->
 Z1 t (a.add 1) (.slice N 0 0)/\∀v,Z3 t (a.add 1) (.slice N 0 0) v ->
 Z1 v (a.add 2) (.slice N 0 0)/\∀t,Z3 v (a.add 2) (.slice N 0 0) t ->
 ∃v x y z A B C,t.cell? a=Y (.bool v) /\
 t.cell? (a.add 1)=Y (.slice x y z) /\
 t.cell? (a.add 2)=Y (.slice A B C) /\
 R (G (T #[.slice i s u,.slice N 0 0,.agg #[.bool v,.slice x y z,.slice A B C]])) t) /\
 (Z76 .eql q r=O ->
 Z1 l a (.bool O)/\∀i,Z3 l a (.bool O) i ->
 Z1 i (a.add 1) (.slice N 0 0)/\∀q,Z3 i (a.add 1) (.slice N 0 0) q ->
 Z1 q (a.add 2) (.slice N 0 0)/\∀i,Z3 q (a.add 2) (.slice N 0 0) i ->
 ∃q r s t u v x,i.cell? a=Y (.bool q) /\
 i.cell? (a.add 1)=Y (.slice r s t) /\
 i.cell? (a.add 2)=Y (.slice u v x) /\
 R (G (T #[.slice N 0 0,.slice N 0 0,.agg #[.bool q,.slice r s t,.slice u v x]])) i))) /\
 (p=O ->
 ∀i,ZF l i ->
 (((e:Int)<(n:Int) ->
 Z1 i a (.bool O)/\∀l,Z3 i a (.bool O) l ->
 Z1 l (a.add 1) (.slice N 0 0)/\∀p,Z3 l (a.add 1) (.slice N 0 0) p ->
 Z1 p (a.add 2) (.slice N 0 0)/\∀l,Z3 p (a.add 2) (.slice N 0 0) l ->
 ∃p q r s t u v,l.cell? a=Y (.bool p) /\
 l.cell? (a.add 1)=Y (.slice q r s) /\
 l.cell? (a.add 2)=Y (.slice t u v) /\
 R (G (T #[.slice N 0 0,.slice N 0 0,.agg #[.bool p,.slice q r s,.slice t u v]])) l) /\
 (¬(e:Int)<(n:Int) ->
 ((0:Int)<=(n:Int)/\(n:Int)<=(f:Int)) /\
 ∃l,J3 J (J8 23 9 (.slice b (JF (n:Int)) f)) i=JB l i /\
 ∃p,l=(JM p) /\
 ∃l,J3 J (J8 23 9 (.slice m n o)) i=JB l i /\
 ∃m,l=(JM m) /\
 ((Z76 .neq p m=J5 ->
 Z1 i a (.bool O)/\∀l,Z3 i a (.bool O) l ->
 Z1 l (a.add 1) (.slice N 0 0)/\∀o,Z3 l (a.add 1) (.slice N 0 0) o ->
 Z1 o (a.add 2) (.slice N 0 0)/\∀l,Z3 o (a.add 2) (.slice N 0 0) l ->
 ∃o q r s t u v,l.cell? a=Y (.bool o) /\
 l.cell? (a.add 1)=Y (.slice q r s) /\
 l.cell? (a.add 2)=Y (.slice t u v) /\
 R (G (T #[.slice N 0 0,.slice N 0 0,.agg #[.bool o,.slice q r s,.slice t u v]])) l) /\
 (Z76 .neq p m=O ->
 ((0:Int)<=(n:Int)/\(n:Int)<=(e:Int)) /\
 ∃l m o,i.cell? (k.add 2)=Y (.slice l m o) /\
 ∃o,l=Y o /\
 ((0:Int)<=1/\1<(m:Int)) /\
 ∃l m p q r s t,i.cell? (o.add 3)=Y (.bool l) /\
 i.cell? ((o.add 3).add 1)=Y (.slice m p q) /\
 i.cell? ((o.add 3).add 2)=Y (.slice r s t) /\
 Z1 i k (.bool l)/\∀o,Z3 i k (.bool l) o ->
 Z1 o (k.add 1) (.slice m p q)/\∀i,Z3 o (k.add 1) (.slice m p q) i ->
 Z1 i (k.add 2) (.slice r s t)/\∀l,Z3 i (k.add 2) (.slice r s t) l ->
 c (subO b f (JF (n:Int)) 1) (e-(JF (n:Int))) (f-(JF (n:Int))) l/\d (subO b f (JF (n:Int)) 1) (e-(JF (n:Int))) (f-(JF (n:Int))) l<d b e f g)))))))) /\
 ((j:Int)≠2 ->
 (((e:Int)=0 ->
 ∃i j l,g.cell? (k.add 2)=Y (.slice i j l) /\
 ∃l,i=Y l /\
 ((0:Int)<=16/\16<(j:Int)) /\
 ∃i j m,g.cell? ((l.add 48).add 1)=Y (.slice i j m) /\
 Z1 g a (.bool O)/\∀l,Z3 g a (.bool O) l ->
 Z1 l (a.add 1) (.slice N 0 0)/\∀n,Z3 l (a.add 1) (.slice N 0 0) n ->
 Z1 n (a.add 2) (.slice N 0 0)/\∀l,Z3 n (a.add 2) (.slice N 0 0) l ->
 ∃n o p q r s t,l.cell? a=Y (.bool n) /\
 l.cell? (a.add 1)=Y (.slice o p q) /\
 l.cell? (a.add 2)=Y (.slice r s t) /\
 R (G (T #[.slice i j m,.slice N 0 0,.agg #[.bool n,.slice o p q,.slice r s t]])) l) /\
 ((e:Int)≠0 ->
 ∃i,b=Y i /\
 ((0:Int)<=0/\0<(e:Int)) /\
 ∃j,g.cell? (i.add 0)=Y (.int V j) /\
 1<=e /\
 ∃i l m,g.cell? (k.add 2)=Y (.slice i l m) /\
 ∃m,i=Y m /\
 ((0:Int)<=j/\j<(l:Int)) /\
 ∃i l n o p q r,g.cell? (m.add (j.toNat*3))=Y (.bool i) /\
 g.cell? ((m.add (j.toNat*3)).add 1)=Y (.slice l n o) /\
 g.cell? ((m.add (j.toNat*3)).add 2)=Y (.slice p q r) /\
 Z1 g k (.bool i)/\∀j,Z3 g k (.bool i) j ->
 Z1 j (k.add 1) (.slice l n o)/\∀i,Z3 j (k.add 1) (.slice l n o) i ->
 Z1 i (k.add 2) (.slice p q r)/\∀j,Z3 i (k.add 2) (.slice p q r) j ->
 c (subO b f 1 1) (e-1) (f-1) j/\d (subO b f 1 1) (e-1) (f-1) j<d b e f g))))) /\
 (h=O ->
 ∀c,ZF g c ->
 ∃d g h i j l m,c.cell? k=Y (.bool d) /\
 c.cell? (k.add 1)=Y (.slice g h i) /\
 c.cell? (k.add 2)=Y (.slice j l m) /\
 Z1 c a (.bool d)/\∀k,Z3 c a (.bool d) k ->
 Z1 k (a.add 1) (.slice g h i)/\∀c,Z3 k (a.add 1) (.slice g h i) c ->
 Z1 c (a.add 2) (.slice j l m)/\∀d,Z3 c (a.add 2) (.slice j l m) d ->
 ∃c g h i j k l,d.cell? a=Y (.bool c) /\
 d.cell? (a.add 1)=Y (.slice g h i) /\
 d.cell? (a.add 2)=Y (.slice j k l) /\
 R (G (T #[.slice N 0 0,.slice b e f,.agg #[.bool c,.slice g h i,.slice j k l]])) d)))
theorem Z0J.vc(a b c d e f g i j k w R)(h:Z0J.Vc a b c d e f g i j k w R):J1 J 61 #[(.agg #[(.bool a),(.slice b c d),(.slice e f g)]),(.slice i j k)] w R:=xs [(1,[(1,.cell (.slice))])] [.agg [.bool (.var a),.slice b c d,.slice e f g],.slice i j k] Tryz.func61 ZI (by kernel_rfl) h
abbrev Z0L.n:Nat:=58
def Z0L.Vc(a:Option Addr)(b c:Nat)(c:Array J4)(w:I)(R:J7->I->Prop):Prop :=
 ∀d e,Z5 w 27 c d e ->
 ∃(c:Int->I->Prop)(f:Int->I->Nat),c 0 e /\
 (∀(e:Int)(g:Nat->J4)(g:I),c e g ->
 ((e<(b:Int) ->
 ∀h,ZF g h ->
 ∃i,a=Y i /\
 ((0:Int)<=e/\e<(b:Int)) /\
 ∃j,ZD h (i.add (e.toNat*33)) 32 j /\
 ∃i,ZD h d 32 i /\
 ∃d,J3 J (Z07 .eql 27 (.tmp 17) (.tmp 18) (.agg j) (.agg i)) h=JB d h /\
 ∃i,d=(.bool i) /\
 ((i=J5 ->
 ∃d,a=Y d /\
 ((0:Int)<=e/\e<(b:Int)) /\
 ∃a j k,h.cell? ((d.add (e.toNat*33)).add 32)=Y (.slice a j k) /\
 R (G (T #[.slice a j k,.bool J5])) h) /\
 (i=O ->
 c (J2 J0 (e+1)) h/\f (J2 J0 (e+1)) h<f e g))) /\
 (¬e<(b:Int) ->
 R (G (T #[.slice N 0 0,.bool O])) g)))
theorem Z0L.vc(a b c d w R)(h:Z0L.Vc a b c d w R):J1 J 58 #[(.slice a b c),(.agg d)] w R:=xs [(2,[(6,.cell (.int J0))])] [.slice a b c,.big 32 d] Tryz.func58 ZI (by kernel_rfl) h
abbrev Z05.n:Nat:=9
def Z05.Vc(a:Option Addr)(b c:Nat)(d:Array J4)(e:Option Addr)(f g:Nat)(w:I)(R:J7->I->Prop):Prop :=
 ∀h i,Z5 w 27 d h i ->
 (((b:Int)>4096 ->
 R (G (T #[.slice N 0 0,.int J0 162])) i) /\
 (¬(b:Int)>4096 ->
 ∃d,ZD i h 32 d /\
 J1 J 25 #[.slice a b c,.agg d,.slice e f g] i (fun a b =>
 ∃c d e f g h i j,a=G (T #[.slice c d e,.bool f,.slice g h i,.int J0 j]) /\
 ((j=142 ->
 R (G (T #[.slice N 0 0,.int J0 160])) b) /\
 (j≠142 ->
 ((j=143 ->
 R (G (T #[.slice N 0 0,.int J0 161])) b) /\
 (j≠143 ->
 ((j≠0 ->
 R (G (T #[.slice N 0 0,.int J0 j])) b) /\
 (j=0 ->
 R (G (T #[.slice g h i,.int J0 0])) b)))))))))
theorem Z05.vc(a b c d e f g w R)(h:Z05.Vc a b c d e f g w R):J1 J 9 #[(.slice a b c),(.agg d),(.slice e f g)] w R:=xs [] [.slice a b c,.big 32 d,.slice e f g] Tryz.func9 ZI (by kernel_rfl) h
abbrev Zs.n:Nat:=26
def Zs.Vc(a:Array J4)(b:Option Addr)(c d:Nat)(e:Option Addr)(f g:Nat)(w:I)(R:J7->I->Prop):Prop :=
 ∀g h,Z5 w 27 a g h ->
 (((f:Int)>256 ->
 R (G (T #[.slice N 0 0,.bool O,.int J0 162])) h) /\
 (¬(f:Int)>256 ->
 (((c:Int)>64 ->
 R (G (T #[.slice N 0 0,.bool O,.int J0 140])) h) /\
 (¬(c:Int)>64 ->
 ∀a,ZF h a ->
 ∃h,ZD a g 32 h /\
 J1 J 40 #[] a (fun a i =>
 ∃j,a=G (.agg j) /\
 ZD i g 32 h /\
 ∃a,J3 J (Z07 .eql 27 (.tmp 23) (.tmp 24) (.agg h) (.agg j)) i=JB a i /\
 ∃h,a=(.bool h) /\
 ((h=J5 ->
 (((f:Int)>0 ->
 R (G (T #[.slice N 0 0,.bool O,.int J0 162])) i) /\
 (¬(f:Int)>0 ->
 R (G (T #[.slice N 0 0,.bool O,.int J0 0])) i))) /\
 (h=O ->
 J1 J 54 #[.slice b c d] i (fun a b =>
 ∃c d h,a=G (.slice c d h) /\
 ∃a,ZD b g 32 a /\
 ∀g i,Z5 b 27 (JH 32 (.int V 0)) g i ->
 ∃b,J3 J (J6 27 (U (Y g)) (.agg a)) i=JB () b /\
 ∃(a:Option Addr->Nat->Nat->Int->I->Prop)(i:Option Addr->Nat->Nat->Int->I->Nat),a c d h 0 b /\
 (∀(b:Option Addr)(c:Nat)(d:Nat)(h:Int)(j:Nat->J4)(j:I),a b c d h j ->
 ((h=(f:Int) ->
 R (G (T #[.slice N 0 0,.bool O,.int J0 160])) j) /\
 (h≠(f:Int) ->
 ∀k,ZF j k ->
 ∃l,e=Y l /\
 ((0:Int)<=h/\h<(f:Int)) /\
 ∃m n o,k.cell? (l.add h.toNat)=Y (.slice m n o) /\
 ∃l,ZD k g 32 l /\
 J1 J 56 #[.slice m n o] k (fun k m =>
 ∃n,k=G (.agg n) /\
 ZD m g 32 l /\
 ∃k,J3 J (Z07 .neq 27 (.tmp 42) (.tmp 43) (.agg n) (.agg l)) m=JB k m /\
 ∃l,k=(.bool l) /\
 ((l=J5 ->
 R (G (T #[.slice N 0 0,.bool O,.int J0 163])) m) /\
 (l=O ->
 ∃k,e=Y k /\
 ((0:Int)<=h/\h<(f:Int)) /\
 ∃l n o,m.cell? (k.add h.toNat)=Y (.slice l n o) /\
 J1 J 59 #[.slice l n o] m (fun k l =>
 ∃m,k=G (.int J0 m) /\
 ((m≠0 ->
 R (G (T #[.slice N 0 0,.bool O,.int J0 161])) l) /\
 (m=0 ->
 ∃k,e=Y k /\
 ((0:Int)<=h/\h<(f:Int)) /\
 ∃e m n,l.cell? (k.add h.toNat)=Y (.slice e m n) /\
 J1 J 60 #[.slice e m n] l (fun e k =>
 ∃l m n o p q r s,e=G (T #[.agg #[.bool l,.slice m n o,.slice p q r],.int J0 s]) /\
 ∀e s,Z5 k 111 #[.bool O,.slice N 0 0,.slice N 0 0] e s ->
 Z1 s e (.bool l)/\∀k,Z3 s e (.bool l) k ->
 Z1 k (e.add 1) (.slice m n o)/\∀l,Z3 k (e.add 1) (.slice m n o) l ->
 Z1 l (e.add 2) (.slice p q r)/\∀k,Z3 l (e.add 2) (.slice p q r) k ->
 ∃l m n o p q r,k.cell? e=Y (.bool l) /\
 k.cell? (e.add 1)=Y (.slice m n o) /\
 k.cell? (e.add 2)=Y (.slice p q r) /\
 J1 J 61 #[.agg #[.bool l,.slice m n o,.slice p q r],.slice b c d] k (fun e k =>
 ∃l m n o p q r s t u v x y,e=G (T #[.slice l m n,.slice o p q,.agg #[.bool r,.slice s t u,.slice v x y]]) /\
 ∀e z,Z5 k 111 #[.bool O,.slice N 0 0,.slice N 0 0] e z ->
 Z1 z e (.bool r)/\∀k,Z3 z e (.bool r) k ->
 Z1 k (e.add 1) (.slice s t u)/\∀r,Z3 k (e.add 1) (.slice s t u) r ->
 Z1 r (e.add 2) (.slice v x y)/\∀k,Z3 r (e.add 2) (.slice v x y) k ->
 ∃(r:Bool->I->Prop),(∃s,k.cell? e=Y (.bool s) /\
 ((s=J5 ->
 r J5 k) /\
 (s=O ->
 ∃s t u,k.cell? (e.add 1)=Y (.slice s t u) /\
 r (decide ((t:Int)=0)) k))) /\
 (∀(k:Bool)(s:Nat->J4)(s:I),r k s ->
 ((k=J5 ->
 (((J2 J0 (h+1))<(f:Int) ->
 R (G (T #[.slice N 0 0,.bool O,.int J0 162])) s) /\
 (¬(J2 J0 (h+1))<(f:Int) ->
 R (G (T #[.slice l m n,.bool (decide ((m:Int)>0)),.int J0 0])) s))) /\
 (k=O ->
 ∀f,ZF s f ->
 ∃k l m,f.cell? (e.add 1)=Y (.slice k l m) /\
 ∃e n,J3 J (builtinV .copy #[23,23] 3 #[.slice (Y g) 32 32,.slice k l m]) f=JB e n /\
 ∃f,e=(.int J0 f) /\
 a o p q (J2 J0 (h+1)) n/\i o p q (J2 J0 (h+1)) n<i b c d h j))))))))))))))))))))))
theorem Zs.vc(a b c d e f g w R)(h:Zs.Vc a b c d e f g w R):J1 J 26 #[(.agg a),(.slice b c d),(.slice e f g)] w R:=xs [(13,[(9,.cell (.slice)),(11,.cell (.int J0))]),(1000022,[(73,.cell (.bool))])] [.big 32 a,.slice b c d,.slice e f g] Tryz.func26 ZI (by kernel_rfl) h
abbrev Z0I.n:Nat:=28
def Z0I.Vc(a:Option Addr)(b c:Nat)(c:Option Addr)(d e:Nat)(w:I)(R:J7->I->Prop):Prop :=
 (((b:Int)≠(d:Int) ->
 R (G (.bool O)) w) /\
 ((b:Int)=(d:Int) ->
 ∃(e:Int->I->Prop)(f:Int->I->Nat),e 0 w /\
 (∀(g:Int)(h:Nat->J4)(h:I),e g h ->
 ((g<(b:Int) ->
 ∀i,ZF h i ->
 ∃j,a=Y j /\
 ((0:Int)<=g/\g<(b:Int)) /\
 ∃a k l,i.cell? (j.add g.toNat)=Y (.slice a k l) /\
 ∃j,J3 J (J8 23 9 (.slice a k l)) i=JB j i /\
 ∃a,j=(JM a) /\
 ∃j,c=Y j /\
 ((0:Int)<=g/\g<(d:Int)) /\
 ∃c d k,i.cell? (j.add g.toNat)=Y (.slice c d k) /\
 ∃j,J3 J (J8 23 9 (.slice c d k)) i=JB j i /\
 ∃c,j=(JM c) /\
 ((Z76 .neq a c=J5 ->
 R (G (.bool O)) i) /\
 (Z76 .neq a c=O ->
 e (J2 J0 (g+1)) i/\f (J2 J0 (g+1)) i<f g h))) /\
 (¬g<(b:Int) ->
 R (G (.bool J5)) h)))))
theorem Z0I.vc(a b c d e f w R)(h:Z0I.Vc a b c d e f w R):J1 J 28 #[(.slice a b c),(.slice d e f)] w R:=xs [(4,[(5,.cell (.int J0))])] [.slice a b c,.slice d e f] Tryz.func28 ZI (by kernel_rfl) h
abbrev Zg.n:Nat:=11
def Zg.Vc(a:Option Addr)(b c:Nat)(w:I)(R:J7->I->Prop):Prop :=
 ∃(c:Option Addr->Nat->Nat->Int->I->Prop)(d:Option Addr->Nat->Nat->Int->I->Nat),c N 0 0 0 w /\
 (∀(e:Option Addr)(f:Nat)(g:Nat)(h:Int)(i:Nat->J4)(i:I),c e f g h i ->
 ((h<(b:Int) ->
 ∃j,a=Y j /\
 ((0:Int)<=h/\h<(b:Int)) /\
 ∃a k l,i.cell? (j.add h.toNat)=Y (.slice a k l) /\
 ∃j m,J3 J (builtinV .append #[23,23] 23 #[.slice N 0 0,.slice a k l]) i=JB j m /\
 ∃a k l,j=(.slice a k l) /\
 ∀j n,Z5 m 23 #[.slice a k l] j n ->
 ∃a k,J3 J (builtinV .append #[31,31] 31 #[.slice e f g,.slice (Y j) 1 1]) n=JB a k /\
 ∃j l m,a=(.slice j l m) /\
 c j l m (J2 J0 (h+1)) k/\d j l m (J2 J0 (h+1)) k<d e f g h i) /\
 (¬h<(b:Int) ->
 R (G (.slice e f g)) i)))
theorem Zg.vc(a b c w R)(h:Zg.Vc a b c w R):J1 J 11 #[(.slice a b c)] w R:=xs [(3,[(3,.cell (.slice)),(4,.cell (.int J0))])] [.slice a b c] Tryz.func11 ZI (by kernel_rfl) h
abbrev Zk.n:Nat:=6
def Zk.Vc  (w:I)(R:J7->I->Prop):Prop :=
 ∀a b,Z5 w 5 #[.int V 97] a b ->
 ∃c d,J3 J (J8 23 23 (.slice (Y a) 1 1)) b=JB c d /\
 ∃a b e,c=(.slice a b e) /\
 ∀c f,Z5 d 5 #[.int V 49] c f ->
 ∃d g,J3 J (J8 23 23 (.slice (Y c) 1 1)) f=JB d g /\
 ∃c f h,d=(.slice c f h) /\
 ∀d i,Z5 g 53 #[.slice a b e,.slice c f h] d i ->
 J1 J 8 #[.slice (Y d) 1 1] i (fun a b =>
 ∃c d e f,a=G (T #[.agg c,.slice d e f]) /\
 ∀a g,Z5 b 27 (JH 32 (.int V 0)) a g ->
 ∃b,J3 J (J6 27 (U (Y a)) (.agg c)) g=JB () b /\
 ∀c,ZF b c ->
 ∃b,ZD c a 32 b /\
 ((J1 J 10 #[.slice d e f] c (fun g h =>
 ∃i j k,g=G (.slice i j k) /\
 ZD h a 32 b /\
 ∀g l,Z5 h 5 #[.int V 97] g l ->
 ZD l a 32 b /\
 ∃h m,J3 J (J8 23 23 (.slice (Y g) 1 1)) l=JB h m /\
 ∃g l n,h=(.slice g l n) /\
 ZD m a 32 b /\
 J1 J 21 #[.slice i j k,.agg b,.slice g l n] m (fun g h =>
 ∃i j k l,g=G (T #[.slice i j k,.int J0 l]) /\
 ∃g,ZD h a 32 g /\
 ∀m n,Z5 h 5 #[.int V 97] m n ->
 ∃h o,J3 J (J8 23 23 (.slice (Y m) 1 1)) n=JB h o /\
 ∃m n p,h=(.slice m n p) /\
 J1 J 22 #[.agg g,.slice m n p,.slice i j k] o (fun g h =>
 ∃m n o p q,g=G (T #[.slice m n o,.bool p,.int J0 q]) /\
 ∃g,ZD h a 32 g /\
 ∀r s,Z5 h 5 #[.int V 98] r s ->
 ∃h t,J3 J (J8 23 23 (.slice (Y r) 1 1)) s=JB h t /\
 ∃r s u,h=(.slice r s u) /\
 J1 J 22 #[.agg g,.slice r s u,.slice i j k] t (fun g h =>
 ∃i k r s t,g=G (T #[.slice i k r,.bool s,.int J0 t]) /\
 ((l=0 ->
 ((q=0 ->
 ((t=0 ->
 ((p=J5 ->
 ((s=O ->
 (((j:Int)=1 ->
 ∃g,J3 J (J8 23 9 (.slice m n o)) h=JB g h /\
 ∃i,g=(JM i) /\
 R (G (.bool (Z76 .eql i ⟨#[49]⟩))) h) /\
 ((j:Int)≠1 ->
 R (G (.bool O)) h))) /\
 (s=J5 ->
 R (G (.bool O)) h))) /\
 (p=O ->
 R (G (.bool O)) h))) /\
 (t≠0 ->
 R (G (.bool O)) h))) /\
 (q≠0 ->
 R (G (.bool O)) h))) /\
 (l≠0 ->
 R (G (.bool O)) h))))))) /\
 (∀g h,Z5 c 5 #[.int V 97] g h ->
 ZD h a 32 b /\
 ((J1 J 10 #[.slice d e f] h (fun c i =>
 ∃j k l,c=G (.slice j k l) /\
 ZD i a 32 b /\
 ∃c m,J3 J (J8 23 23 (.slice (Y g) 1 1)) i=JB c m /\
 ∃i n o,c=(.slice i n o) /\
 ZD m a 32 b /\
 J1 J 21 #[.slice j k l,.agg b,.slice i n o] m (fun c i =>
 ∃j k l m,c=G (T #[.slice j k l,.int J0 m]) /\
 ∃c,ZD i a 32 c /\
 ∀n o,Z5 i 5 #[.int V 97] n o ->
 ∃i p,J3 J (J8 23 23 (.slice (Y n) 1 1)) o=JB i p /\
 ∃n o q,i=(.slice n o q) /\
 J1 J 22 #[.agg c,.slice n o q,.slice j k l] p (fun c i =>
 ∃n o p q r,c=G (T #[.slice n o p,.bool q,.int J0 r]) /\
 ∃c,ZD i a 32 c /\
 ∀s t,Z5 i 5 #[.int V 98] s t ->
 ∃i u,J3 J (J8 23 23 (.slice (Y s) 1 1)) t=JB i u /\
 ∃s t v,i=(.slice s t v) /\
 J1 J 22 #[.agg c,.slice s t v,.slice j k l] u (fun c i =>
 ∃j l s t u,c=G (T #[.slice j l s,.bool t,.int J0 u]) /\
 ((m=0 ->
 ((r=0 ->
 ((u=0 ->
 ((q=J5 ->
 ((t=O ->
 (((k:Int)=1 ->
 ∃c,J3 J (J8 23 9 (.slice n o p)) i=JB c i /\
 ∃j,c=(JM j) /\
 R (G (.bool (Z76 .eql j ⟨#[49]⟩))) i) /\
 ((k:Int)≠1 ->
 R (G (.bool O)) i))) /\
 (t=J5 ->
 R (G (.bool O)) i))) /\
 (q=O ->
 R (G (.bool O)) i))) /\
 (u≠0 ->
 R (G (.bool O)) i))) /\
 (r≠0 ->
 R (G (.bool O)) i))) /\
 (m≠0 ->
 R (G (.bool O)) i))))))) /\
 (∃c i,J3 J (J8 23 23 (.slice (Y g) 1 1)) h=JB c i /\
 ∃g h j,c=(.slice g h j) /\
 ZD i a 32 b /\
 J1 J 10 #[.slice d e f] i (fun c d =>
 ∃e f i,c=G (.slice e f i) /\
 ZD d a 32 b /\
 J1 J 21 #[.slice e f i,.agg b,.slice g h j] d (fun b c =>
 ∃d e f g,b=G (T #[.slice d e f,.int J0 g]) /\
 ∃b,ZD c a 32 b /\
 ∀h i,Z5 c 5 #[.int V 97] h i ->
 ∃c j,J3 J (J8 23 23 (.slice (Y h) 1 1)) i=JB c j /\
 ∃h i k,c=(.slice h i k) /\
 J1 J 22 #[.agg b,.slice h i k,.slice d e f] j (fun b c =>
 ∃h i j k l,b=G (T #[.slice h i j,.bool k,.int J0 l]) /\
 ∃b,ZD c a 32 b /\
 ∀a m,Z5 c 5 #[.int V 98] a m ->
 ∃c n,J3 J (J8 23 23 (.slice (Y a) 1 1)) m=JB c n /\
 ∃a m o,c=(.slice a m o) /\
 J1 J 22 #[.agg b,.slice a m o,.slice d e f] n (fun a b =>
 ∃c d f m n,a=G (T #[.slice c d f,.bool m,.int J0 n]) /\
 ((g=0 ->
 ((l=0 ->
 ((n=0 ->
 ((k=J5 ->
 ((m=O ->
 (((e:Int)=1 ->
 ∃a,J3 J (J8 23 9 (.slice h i j)) b=JB a b /\
 ∃c,a=(JM c) /\
 R (G (.bool (Z76 .eql c ⟨#[49]⟩))) b) /\
 ((e:Int)≠1 ->
 R (G (.bool O)) b))) /\
 (m=J5 ->
 R (G (.bool O)) b))) /\
 (k=O ->
 R (G (.bool O)) b))) /\
 (n≠0 ->
 R (G (.bool O)) b))) /\
 (l≠0 ->
 R (G (.bool O)) b))) /\
 (g≠0 ->
 R (G (.bool O)) b)))))))))))
theorem Zk.vc  (w:I)(R:J7->I->Prop)(h:Zk.Vc w R):J1 J 6 #[] w R :=
 Z0p (R:=⟨R,O⟩) (ann:=[]) (args:=[]) Tryz.func6 ZI (Eq.mp (by kernel_rfl:Zk.Vc w R=Z4S (pA J ⟨R,O⟩) J [] Tryz.f6 [] w) h)
abbrev Z0W.n:Nat:=7
def Z0W.Vc(a:Option Addr)(b c:Nat)(w:I)(R:J7->I->Prop):Prop :=
 (((b:Int)>40 ->
 R (G (.bool O)) w) /\
 (¬(b:Int)>40 ->
 ∃(c:Int->I->Prop)(d:Int->I->Nat),c 0 w /\
 (∀(e:Int)(f:Nat->J4)(f:I),c e f ->
 ((e<(b:Int) ->
 ∀g,ZF f g ->
 ∃h,a=Y h /\
 ((0:Int)<=e/\e<(b:Int)) /\
 ∃i j k,g.cell? (h.add (e.toNat*2))=Y (.slice i j k) /\
 (((j:Int)>64 ->
 R (G (.bool O)) g) /\
 (¬(j:Int)>64 ->
 ∃h,a=Y h /\
 ((0:Int)<=e/\e<(b:Int)) /\
 ∃i j k,g.cell? ((h.add (e.toNat*2)).add 1)=Y (.slice i j k) /\
 (((j:Int)<1 ->
 R (G (.bool O)) g) /\
 (¬(j:Int)<1 ->
 ∃h,a=Y h /\
 ((0:Int)<=e/\e<(b:Int)) /\
 ∃i j k,g.cell? ((h.add (e.toNat*2)).add 1)=Y (.slice i j k) /\
 (((j:Int)>300 ->
 R (G (.bool O)) g) /\
 (¬(j:Int)>300 ->
 ((e>0 ->
 ∃h,a=Y h /\
 ((0:Int)<=(J2 J0 (e-1))/\(J2 J0 (e-1))<(b:Int)) /\
 ∃i j k,g.cell? (h.add ((JF (J2 J0 (e-1)))*2))=Y (.slice i j k) /\
 ∃h,a=Y h /\
 ((0:Int)<=e/\e<(b:Int)) /\
 ∃a l m,g.cell? (h.add (e.toNat*2))=Y (.slice a l m) /\
 J1 J 23 #[.slice i j k,.slice a l m] g (fun a h =>
 ∃i,a=G (.int J0 i) /\
 ((i>=0 ->
 R (G (.bool O)) h) /\
 (¬i>=0 ->
 c (J2 J0 (e+1)) h/\d (J2 J0 (e+1)) h<d e f)))) /\
 (¬e>0 ->
 c (J2 J0 (e+1)) g/\d (J2 J0 (e+1)) g<d e f))))))))) /\
 (¬e<(b:Int) ->
 R (G (.bool J5)) f)))))
theorem Z0W.vc(a b c w R)(h:Z0W.Vc a b c w R):J1 J 7 #[(.slice a b c)] w R:=xs [(4,[(3,.cell (.int J0))])] [.slice a b c] Tryz.func7 ZI (by kernel_rfl) h
abbrev ZT.n:Nat:=12
def ZT.Vc(a:Array J4)(b:Option Addr)(c d:Nat)(e:Option Addr)(f g:Nat)(w:I)(R:J7->I->Prop):Prop :=
 ∀h i,Z5 w 27 a h i ->
 J1 J 6 #[] i (fun a i =>
 ∃j,a=G (.bool j) /\
 ((j=O ->
 R (G (.bool O)) i) /\
 (j=J5 ->
 (((f:Int)>300 ->
 R (G (.bool J5)) i) /\
 (¬(f:Int)>300 ->
 ∃(a:Int->I->Prop)(j:Int->I->Nat),a 0 i /\
 (∀(i:Int)(k:Nat->J4)(k:I),a i k ->
 ((i<(f:Int) ->
 ∃l,e=Y l /\
 ((0:Int)<=i/\i<(f:Int)) /\
 ∃m n o,k.cell? (l.add i.toNat)=Y (.slice m n o) /\
 (((n:Int)>3000 ->
 R (G (.bool J5)) k) /\
 (¬(n:Int)>3000 ->
 a (J2 J0 (i+1)) k/\j (J2 J0 (i+1)) k<j i k))) /\
 (¬i<(f:Int) ->
 J1 J 11 #[.slice e f g] k (fun a i =>
 ∃j k l,a=G (.slice j k l) /\
 ∃a,ZD i h 32 a /\
 J1 J 22 #[.agg a,.slice b c d,.slice j k l] i (fun a i =>
 ∃m n o p q,a=G (T #[.slice m n o,.bool p,.int J0 q]) /\
 ∃a,ZD i h 32 a /\
 J1 J 26 #[.agg a,.slice b c d,.slice e f g] i (fun a b =>
 ∃c d h i r,a=G (T #[.slice c d h,.bool i,.int J0 r]) /\
 ((q=r ->
 ∃a,J3 J (Z07 .eql 4 (.tmp 54) (.tmp 55) (.bool p) (.bool i)) b=JB a b /\
 ∃i,a=(.bool i) /\
 ((i=J5 ->
 J1 J 27 #[.slice m n o,.slice c d h] b (fun a c =>
 ∃d,a=G (.bool d) /\
 ((d=J5 ->
 J1 J 28 #[.slice j k l,.slice e f g] c (fun a e =>
 ∃f,a=G (.bool f) /\
 R (G (.bool f)) e)) /\
 (d=O ->
 R (G (.bool O)) c)))) /\
 (i=O ->
 R (G (.bool O)) b))) /\
 (q≠r ->
 R (G (.bool O)) b)))))))))))))
theorem ZT.vc(a b c d e f g w R)(h:ZT.Vc a b c d e f g w R):J1 J 12 #[(.agg a),(.slice b c d),(.slice e f g)] w R:=xs [(6,[(7,.cell (.int J0))])] [.big 32 a,.slice b c d,.slice e f g] Tryz.func12 ZI (by kernel_rfl) h
end Go.Proofs.YtfghidehlnfdiaaGreat
end
section
namespace Go.Proofs.YtfghidehlnfdiaaGreat
open Go Go.Vcg Go.Trie
section
variable{D:Nat}{t:Jf}{w:I}
theorem set4{a b c d v1 v2 v3 v4:J4}{R':I->Prop}(X:Blk w D t #[a,b,c,d])(h1:v1.oneCell'=J5)(h2:v2.oneCell'=J5)(h3:v3.oneCell'=J5)(h4:v4.oneCell'=J5)(K:∀w',Blk w' D t #[v1,v2,v3,v4]->Vcg.Mod (·=D) w w'->R' w') :
  Z1 w ⟨D,0,N⟩ v1/\∀w1:I,Z3 w ⟨D,0,N⟩ v1 w1->Z1 w1 (JG ⟨D,0,N⟩ 1) v2/\∀w2:I,Z3 w1 (JG ⟨D,0,N⟩ 1) v2 w2->Z1 w2 (JG ⟨D,0,N⟩ 2) v3/\∀w3:I,Z3 w2 (JG ⟨D,0,N⟩ 2) v3 w3 ->
   Z1 w3 (JG ⟨D,0,N⟩ 3) v4/\∀w4:I,Z3 w3 (JG ⟨D,0,N⟩ 3) v4 w4->R' w4:=by
 refine⟨X.canSet (by simp) h1,?_⟩;rintro _ rfl;have X1:=X.set 0 v1;have Q1:Vcg.Mod (·=D) w _:=Mod.setCell w ⟨D,0,N⟩ v1;rw[Z2,Nat.zero_add];refine⟨X1.canSet (by simp) h2,?_⟩;rintro _ rfl;have X2:=X1.set 1 v2;have Q2:=Q1.step_set (a:=⟨D,1,N⟩) (v:=v2) (fun _=>rfl);rw[Z2,Nat.zero_add];refine⟨X2.canSet (by simp) h3,?_⟩;rintro _ rfl;have X3:=X2.set 2 v3;have Q3:=Q2.step_set (a:=⟨D,2,N⟩) (v:=v3) (fun _=>rfl);rw[Z2,Nat.zero_add];refine⟨X3.canSet (by simp) h4,?_⟩;rintro _ rfl;have X4:=X3.set 3 v4;have Q4:=Q3.step_set (a:=⟨D,3,N⟩) (v:=v4) (fun _=>rfl);exact K _ X4 Q4
theorem get4{b:Bool}{o1 o2 o3:Option Addr}{l1 k1 l2 k2 l3 k3:Nat}{R':Bool->Option Addr->Nat->Nat->Option Addr->Nat->Nat->Option Addr->Nat->Nat->Prop}(X:Blk w D t #[.bool b,.slice o1 l1 k1,.slice o2 l2 k2,.slice o3 l3 k3])(h:R' b o1 l1 k1 o2 l2 k2 o3 l3 k3) :
  ∃b65:Bool,∃o66:Option Addr,∃l67:Nat,∃l68:Nat,∃o69:Option Addr,∃l70:Nat,∃l71:Nat,∃o72:Option Addr,∃l73:Nat,∃l74:Nat,World.cell? w ⟨D,0,N⟩=Y (.bool b65) /\
   World.cell? w (JG ⟨D,0,N⟩ 1)=Y (.slice o66 l67 l68)/\World.cell? w (JG ⟨D,0,N⟩ 2)=Y (.slice o69 l70 l71)/\World.cell? w (JG ⟨D,0,N⟩ 3)=Y (.slice o72 l73 l74)/\R' b65 o66 l67 l68 o69 l70 l71 o72 l73 l74 :=
 ⟨_,_,_,_,_,_,_,_,_,_,X.rd1 rfl,by rw[Z2];exact X.rd1 rfl,by rw[Z2];exact X.rd1 rfl,by rw[Z2];exact X.rd1 rfl,h⟩
end
abbrev ZDs:Jf:=82
abbrev ZFz:Jf:=84
theorem Z9x:Tryz.prog.underlying ZFz=Y (.slice ZDs):=by kernel_rfl
def zeros32:List J4:=List.replicate 32 (.int V 0)
def rfA(h:List J4)(p:Option Addr)(b:Bool):Array J4:=(h++[U p,Value.bool b]).toArray
theorem Z0S{h:List J4}(hh:h.length=32)(p:Option Addr)(b:Bool):(rfA h p b).size=34:=by simp[rfA,hh]
theorem ZE0:(Tryz.prog.info? ZDs).map (fun i=>(i.zero,i.size,i.bytes))=Y (Y (.agg (rfA zeros32 N O)),34,48):=by kernel_rfl
theorem ZEE:(Tryz.prog.info? ZDs).map (·.size)=Y 34:=by kernel_rfl
theorem Z4c{h:List J4}(hh:∀v∈h,v.oneCell'=J5)(p:Option Addr)(b:Bool):∀v∈(rfA h p b).toList,v.oneCell'=J5:=by
 intro v hv;simp only[rfA,JW,List.mem_cons,List.not_mem_nil,or_false]at hv;rcases hv with hv|rfl|rfl
 ·exact hh v hv
 ·rfl
 ·rfl
theorem Z5F:∀v∈zeros32,v.oneCell'=J5:=fun v hv=>by rw[List.eq_of_mem_replicate hv];rfl
theorem ZEk{h:List J4}(hh:h.length=32){p:Option Addr}{b:Bool}{i:Nat}(hi:i<32):(rfA h p b)[i]?=h[i]?:=by
 unfold rfA;rw[JC,List.getElem?_append_left (by omega)]
theorem ZBg{h:List J4}(hh:h.length=32){p:Option Addr}{b:Bool}:(rfA h p b)[32]?=Y (U p):=by
 unfold rfA;rw[JC,JJ (by omega),hh];rfl
theorem ZBh{h:List J4}(hh:h.length=32){p:Option Addr}{b:Bool}:(rfA h p b)[33]?=Y (.bool b):=by
 unfold rfA;rw[JC,JJ (by omega),hh];rfl
theorem Z9c{n:Nat}{Z L:Array J4}(hZ:Z.size=n)(hL:L.size=n):lputL Z 0 n L=L:=by
 unfold lputL;have ht:L.toList.take n=L.toList:=JP (by simp[hL]);rw[ht];apply JT;intro i;rw[Z0V _ _ _ _ (by simp[hL,hZ])];by_cases hi:i<n
 ·rw[if_pos ⟨Nat.zero_le _,by simp[hL];exact hi⟩,Nat.sub_zero,Array.getElem?_toList]
 ·rw[if_neg (by simp[hL];omega),J9 (by omega),J9 (by omega)]
theorem ZBi{Z H:Array J4}{p:Option Addr}{b0:Bool}(hZ:Z=rfA zeros32 p b0)(hH:H.size=32)(b:Bool):ZY (lputL Z 0 32 H) 33 [.bool b]=rfA H.toList p b:=by
 have hl:H.toList.length=32:=by simp[hH]
 have hzs:Z.size=34:=by rw[hZ];exact Z0S rfl _ _
 have ht:H.toList.take 32=H.toList:=JP (by omega);have e1:lputL Z 0 32 H=ZY Z 0 H.toList:=by unfold lputL;rw[ht]
 have hs1:(ZY Z 0 H.toList).size=34:=by rw[Z0R,hzs]
 rw[e1];apply JT;intro i;rw[Z0V _ _ _ _ (by rw[hs1];simp)];by_cases h33:i=33
 ·subst h33
  rw[if_pos (by simp),ZBh hl];rfl
 ·rw[if_neg (by simp;omega),Z0V _ _ _ _ (by rw[hzs,hl];omega)]
  by_cases hi:i<32
  ·rw[if_pos ⟨Nat.zero_le _,by rw[hl];omega⟩,Nat.sub_zero,ZEk hl hi]
  ·rw[if_neg (by rw[hl];omega),hZ]
   by_cases h32:i=32
   ·subst h32;rw[ZBg hl];exact ZBg rfl
   ·rw[J9 (by rw[Z0S rfl];omega),J9 (by rw[Z0S hl];omega)]
theorem ZDM{H:Array J4}(hH:H.size=32)(b:Bool):ZY (lputL #[(.int V 0),(.int V 0),(.int V 0),(.int V 0),(.int V 0),(.int V 0),(.int V 0),(.int V 0),(.int V 0),(.int V 0),(.int V 0),(.int V 0),(.int V 0),(.int V 0),(.int V 0),(.int V 0),(.int V 0),(.int V 0),(.int V 0),(.int V 0),(.int V 0),(.int V 0),(.int V 0),(.int V 0),(.int V 0),(.int V 0),(.int V 0),(.int V 0),(.int V 0),(.int V 0),(.int V 0),(.int V 0),(U N),(.bool O)] 0 32 H) 33 [.bool b]=rfA H.toList N b:=ZBi (p:=N) (b0:=O) rfl hH b
theorem ZAk(w:I):w.alloc (JR #[(.int V 0),(.int V 0),(.int V 0),(.int V 0),(.int V 0),(.int V 0),(.int V 0),(.int V 0),(.int V 0),(.int V 0),(.int V 0),(.int V 0),(.int V 0),(.int V 0),(.int V 0),(.int V 0),(.int V 0),(.int V 0),(.int V 0),(.int V 0),(.int V 0),(.int V 0),(.int V 0),(.int V 0),(.int V 0),(.int V 0),(.int V 0),(.int V 0),(.int V 0),(.int V 0),(.int V 0),(.int V 0),(U N),(.bool O)] 82)=w.alloc (JR (rfA zeros32 N O) 82):=rfl
section
variable{A:Nat->Prop}{w w':I}
def RdA(A:Nat->Prop)(w:I)(o:Option Addr)(b:By):Prop:=RdB w o b/\(b≠[]->∀d,o=Y d->¬A d.block)
theorem RdA.modA{S:Nat->Prop}{o:Option Addr}{b:By}(h:RdA A w o b)(M:Vcg.Mod S w w')(hS:∀b,S b->A b):RdA A w' o b:=by
 refine⟨fun hne=>?_,h.2⟩;obtain⟨g,f,ho,hg,hc⟩:=h.1 hne;exact⟨g,f,ho,Nat.lt_of_lt_of_le hg M.size,fun i hi=>(ZK M hg (fun hh=>h.2 hne _ ho (hS _ hh))).trans (hc i hi)⟩
theorem RdA.mod'{o:Option Addr}{b:By}(h:RdA A w o b)(M:Vcg.Mod NoB w w'):RdA A w' o b:=h.modA M (fun _ h=>h.elim)
theorem RdA.mono{A':Nat->Prop}{o:Option Addr}{b:By}(h:RdA A w o b)(hA:∀b,b<w.heap.size->A' b->A b):RdA A' w o b :=
 ⟨h.1,fun hne d hd hh=>by
  obtain⟨g,f,ho,hg,_⟩:=h.1 hne;rw[ho]at hd;cases hd;exact h.2 hne _ ho (hA _ hg hh)⟩
theorem RdA.sub{o:Option Addr}{b:By}{c lo n:Nat}(h:RdA A w o b)(hl:b.length<=c):RdA A w (subO o c lo 1) ((b.drop lo).take n):=by
 refine⟨h.1.sub hl,fun hne d hd=>?_⟩;have hb:b≠[]:=fun e=>hne (by rw[e];simp);obtain⟨g,f,rfl,_,_⟩:=h.1 hb;unfold subO at hd;split at hd
 ·exact h.2 hb d hd
 ·simp only[Option.map_some,Option.some.injEq]at hd
  rw[<-hd,Z2];exact h.2 hb ⟨g,f,N⟩ rfl
theorem RdA.nil(A:Nat->Prop)(w:I)(o:Option Addr):RdA A w o []:=⟨fun h=>(h rfl).elim,fun h=>(h rfl).elim⟩
theorem ItC.restr{A':Nat->Prop}(hA:∀b,b<w.heap.size->A' b->A b){x:It}{v1 v2 v3:J4}(h:ItC A w x v1 v2 v3):ItC A' w x v1 v2 v3 :=
 ItC.mono (fun b hb=>(Nat.lt_or_ge b w.heap.size).imp (fun h=>hA b h hb) id) _ (ItC.old _ h)
theorem Z1I.restr{A':Nat->Prop}(hA:∀b,b<w.heap.size->A' b->A b){xs:List It}{o:Option Addr}{k:Nat}(h:Z1I A w xs o k):Z1I A' w xs o k :=
 Z1I.mono (fun b hb=>(Nat.lt_or_ge b w.heap.size).imp (fun h=>hA b h hb) id) _ (Z1I.old _ h)
def RfC(A:Nat->Prop)(w:I):It->Array J4->Prop
 | .s b,L=>(b=[]/\∃h:List J4,h.length=32/\(∀v∈h,v.oneCell'=J5)/\L=rfA h N O)\/(b.length=32/\L=rfA (hashA b).toList N J5)
 | .l xs,L=>∃D v1 v2 v3,L=rfA zeros32 (Y ⟨D,0,N⟩) J5/\¬A D/\Blk w D 111 #[v1,v2,v3]/\ItC A w (.l xs) v1 v2 v3
theorem RfC.modA{S:Nat->Prop}{x:It}{L:Array J4}(h:RfC A w x L)(M:Vcg.Mod S w w')(hS:∀b,S b->A b):RfC A w' x L:=by
 cases x with
 |s b=>exact h
 |l xs =>
  obtain⟨D,v1,v2,v3,h1,h2,h3,h4⟩:=h;exact⟨D,v1,v2,v3,h1,h2,h3.mod M (fun h=>h2 (hS _ h)),ItC.modA M hS _ h4⟩
theorem RfC.mod'{x:It}{L:Array J4}(h:RfC A w x L)(M:Vcg.Mod NoB w w'):RfC A w' x L:=h.modA M (fun _ h=>h.elim)
theorem RfC.restr{A':Nat->Prop}(hA:∀b,b<w.heap.size->A' b->A b){x:It}{L:Array J4}(h:RfC A w x L):RfC A' w x L:=by
 cases x with
 |s b=>exact h
 |l xs =>
  obtain⟨D,v1,v2,v3,h1,h2,h3,h4⟩:=h;exact⟨D,v1,v2,v3,h1,fun hh=>h2 (hA D h3.lt hh),h3,ItC.restr hA h4⟩
theorem RfC.size{x:It}{L:Array J4}(h:RfC A w x L):L.size=34:=by
 cases x with
 |s b =>
  rcases h with⟨_,h,hh,_,rfl⟩|⟨_,rfl⟩
  ·exact Z0S hh _ _
  ·exact Z0S (Z1e _) _ _
 |l xs=>obtain⟨D,v1,v2,v3,rfl,_⟩:=h;exact Z0S rfl _ _
theorem RfC.one{x:It}{L:Array J4}(h:RfC A w x L):∀v∈L.toList,v.oneCell'=J5:=by
 cases x with
 |s b =>
  rcases h with⟨_,h,_,hh,rfl⟩|⟨_,rfl⟩
  ·exact Z4c hh _ _
  ·exact Z4c (Z25 _) _ _
 |l xs=>obtain⟨D,v1,v2,v3,rfl,_⟩:=h;exact Z4c Z5F _ _
theorem Z33{D:Nat}{t:Jf}{cs L:Array J4}{x:It}{A:Nat->Prop}{w w0:I}(H:Blk w D t cs)(hs:cs.size=34)(hL:L.size=34)(h1:∀v∈L.toList,v.oneCell'=J5) :
  ∃w',J3 J (J6 ZDs (U (Y ⟨D,0,N⟩)) (.agg L)) w=JB () w'/\Blk w' D t L/\Vcg.Mod (·=D) w w' :=
 ⟨_,H.storeAll (by rw[hL];exact ZEE) (by omega) h1,H.row_same L,Mod.setRow w D L⟩
theorem ZDH{x:It}{v1 v2 v3:J4}(hg:∀b,x=.s b->b=[]\/b.length=32)(hA:∀b,w.heap.size<=b->¬A b)(hx:ItC A w x v1 v2 v3) :
  J1 J Z1R.n #[.agg #[v1,v2,v3]] w (fun e w'=>∃L,e=G (.agg L)/\Vcg.Mod NoB w w'/\RfC A w' x L):=by
 obtain⟨b,o1,l1,c1,o2,l2,c2,rfl,rfl,rfl⟩:=hx.vals;refine Z1R.vc _ _ _ _ _ _ _ _ _ ?_;unfold Z1R.Vc;rintro d3 w1⟨rfl,rfl⟩;have M1:=Mod.alloc (S:=NoB) w (JR #[.bool b,.slice o1 l1 c1,.slice o2 l2 c2] 111);have X1:=Blk.new w 111 #[.bool b,.slice o1 l1 c1,.slice o2 l2 c2];have hAD:=hA _ (Nat.le_refl w.heap.size);have hx1:=ItC.mod M1 _ hx;have hs1:=Z6 w (JR #[.bool b,.slice o1 l1 c1,.slice o2 l2 c2] 111);generalize w.heap.size=D at *
 generalize w.alloc (JR #[.bool b,.slice o1 l1 c1,.slice o2 l2 c2] 111)=w1 at *
 rintro d5 w2⟨rfl,rfl⟩;have M2:=Mod.alloc (S:=NoB) w1 (JR (rfA zeros32 N O) 82);have H2:=Blk.new w1 82 (rfA zeros32 N O);have hgen:w1.alloc (JR #[(.int V 0),(.int V 0),(.int V 0),(.int V 0),(.int V 0),(.int V 0),(.int V 0),(.int V 0),(.int V 0),(.int V 0),(.int V 0),(.int V 0),(.int V 0),(.int V 0),(.int V 0),(.int V 0),(.int V 0),(.int V 0),(.int V 0),(.int V 0),(.int V 0),(.int V 0),(.int V 0),(.int V 0),(.int V 0),(.int V 0),(.int V 0),(.int V 0),(.int V 0),(.int V 0),(.int V 0),(.int V 0),(U N),(.bool O)] 82)=w1.alloc (JR (rfA zeros32 N O) 82):=rfl;rw[hgen];have X2:=X1.mod' M2;have hx2:=ItC.mod M2 _ hx1;have M02:=M1.none_trans M2;generalize hH:w1.heap.size=H at *
 generalize w1.alloc (JR (rfA zeros32 N O) 82)=w2 at *
 have hz:(rfA zeros32 N O).size=34:=Z0S rfl _ _;cases x with
 |l xs =>
  have hx2':=hx2;simp only[ItC]at hx2;obtain⟨h1,h2,o,c,h3,h4,hcap⟩:=hx2;cases h1;cases h2;cases h3;obtain⟨w3,hr3,H3,Q3⟩:=Z33 (x:=.l xs) (A:=A) (w0:=w) H2 hz (Z0S (h:=zeros32) rfl (Y ⟨D,0,N⟩) J5) (Z4c Z5F _ _);have M23:Vcg.Mod NoB w1 w3:=ZC M2 Q3 (by omega);have X3:=X2.mod Q3 (by omega);refine⟨_,X2.rd1 rfl,fun _=>⟨w3,hr3,_,H3.rowAll (Z0S rfl _ _),_,rfl,M1.none_trans M23,D,_,_,_,rfl,hAD,X3,?_⟩,fun h=>(by cases h)⟩;exact ItC.mod M23 _ hx1
 |s bs =>
  have hx2':=hx2;simp only[ItC]at hx2;obtain⟨h1,⟨o,c,h2,h3,h4⟩,h5⟩:=hx2;cases h1;cases h2;cases h5;refine⟨_,X2.rd1 rfl,fun h=>(by cases h),fun _=>⟨_,_,_,by rw[Z2];exact X2.rd1 rfl,fun h0=>?_,fun h0=>?_⟩⟩
  ·have hb:bs=[]:=List.eq_nil_of_length_eq_zero (by omega)
   obtain⟨w3,hr3,H3,Q3⟩:=Z33 (x:=.s bs) (A:=A) (w0:=w) H2 hz (Z0S (h:=zeros32) rfl N O) (Z4c Z5F _ _);exact⟨w3,hr3,_,H3.rowAll (Z0S rfl _ _),_,rfl,M1.none_trans (ZC M2 Q3 (by omega)),.inl ⟨hb,zeros32,rfl,Z5F,rfl⟩⟩
  ·have hb:bs.length=32:=(hg bs rfl).resolve_left (by rintro rfl;simp at h0)
   obtain⟨g,f0,rfl,hgl,hc⟩:=h3 (by rintro rfl;simp at h0);obtain⟨w3,hr3,H3,Q3⟩:=Z33 (x:=.s bs) (A:=A) (w0:=w) H2 hz (Z0S (h:=(hashA bs).toList) (Z1e _) N J5) (Z4c (Z25 _) _ _);refine⟨_,_,_,by rw[Z2];exact X2.rd1 rfl,by omega,_,rfl,hashA bs,⟨Z4 bs,fun i hi=>?_⟩,Z4 bs,w3,?_,_,H3.rowAll (Z0S (Z1e _) _ _),_,rfl,M1.none_trans (ZC M2 Q3 (by omega)),.inr ⟨hb,rfl⟩⟩
   ·rw[Z2,hc i (by omega)]
    simp only[hashA];exact(Z8 (f:=fun i=>bV (bs.getD i 0)) hi).symm
   ·rw[ZBi (Z:=#[(.int V 0),(.int V 0),(.int V 0),(.int V 0),(.int V 0),(.int V 0),(.int V 0),(.int V 0),(.int V 0),(.int V 0),(.int V 0),(.int V 0),(.int V 0),(.int V 0),(.int V 0),(.int V 0),(.int V 0),(.int V 0),(.int V 0),(.int V 0),(.int V 0),(.int V 0),(.int V 0),(.int V 0),(.int V 0),(.int V 0),(.int V 0),(.int V 0),(.int V 0),(.int V 0),(.int V 0),(.int V 0),(U N),(.bool O)]) (p:=N) (b0:=O) rfl (Z4 bs) J5]
    exact hr3
theorem Z6y{x:It}{v1 v2 v3:J4}(hg:Z2f x)(hA:∀b,w.heap.size<=b->¬A b)(hx:ItC A w x v1 v2 v3) :
  J1 J Z1R.n #[.agg #[v1,v2,v3]] w (fun e w'=>∃L,e=G (.agg L)/\Vcg.Mod NoB w w'/\RfC A w' x L) :=
 ZDH (fun b e=>by subst e;exact hg.str) hA hx
theorem Z7U{b:Bool}{o1 o2 o3:Option Addr}{l1 k1 l2 k2 l3 k3:Nat} :
  J1 J Zu.n #[.agg #[.bool b,.slice o1 l1 k1,.slice o2 l2 k2,.slice o3 l3 k3]] w (fun e w'=>e=G (.bool (decide (l2=16)))/\Vcg.Mod NoB w w'):=by
 refine Zu.vc _ _ _ _ _ _ _ _ _ _ _ _ ?_;unfold Zu.Vc;rintro d w1⟨rfl,rfl⟩;have X:=Blk.new w 86 #[.bool b,.slice o1 l1 k1,.slice o2 l2 k2,.slice o3 l3 k3];refine⟨_,_,_,by rw[Z2];exact X.rd1 rfl,?_,Mod.alloc w _⟩;congr 2;rw[Bool.eq_iff_iff,decide_eq_true_eq,decide_eq_true_eq];omega
theorem Z5B{o:Option Addr}{k:Nat}{b:By}{ok:Bool}(hr:RdB w o b)(hl:b.length<=2^40) :
  J1 J Z1A.n #[.slice o b.length k,.bool ok] w (fun e w'=>∃o' k',e=G (T #[.slice o' (if ok then b else[]).length k',.bool ok])/\Vcg.Mod NoB w w'/\RdB w' o' (if ok then b else[])/\∀d,o'=Y d->w.heap.size<=d.block):=by
 refine Z1A.vc _ _ _ _ _ _ ?_;unfold Z1A.Vc;refine⟨fun h=>?_,fun h=>?_⟩
 ·subst h
  exact⟨N,0,rfl,Mod.refl w,fun h=>(h rfl).elim,fun d h=>(by cases h)⟩
 ·subst h
  refine(Z3B hr hl).mono ?_;rintro _ w1⟨o',k',rfl,F⟩;exact⟨_,_,_,rfl,o',k',rfl,F.mod,F.own.bytes,fun d hd=>F.new d.block ⟨d,hd,rfl⟩⟩
theorem Z6N{o1 o2:Option Addr}{k1 k2:Nat}{a b:By}(h1:RdB w o1 a)(hk:a.length<=k1)(h2:RdB w o2 b) :
  J1 J Z0h.n #[.slice o1 a.length k1,.slice o2 b.length k2] w (fun e w'=>w'=w/\if b.isPrefixOf a then e=G (T #[.slice (subO o1 k1 b.length 1) (a.length-b.length) (k1-b.length),.bool J5])else e=G (T #[.slice o1 a.length k1,.bool O])):=by
 refine Z0h.vc _ _ _ _ _ _ _ _ ?_;unfold Z0h.Vc;refine(Z6O h1 hk h2).mono ?_;rintro _ w1⟨rfl,rfl⟩;refine⟨_,rfl,fun h=>⟨rfl,by rw[if_neg (by rw[h];decide)]⟩,fun h=>⟨?_,rfl,by rw[if_pos h,Int.toNat_natCast]⟩⟩;have:=(List.isPrefixOf_iff_prefix.1 h).length_le;omega
end
end Go.Proofs.YtfghidehlnfdiaaGreat
end
