/- Ways from a root down to a key, through nodes that are told by their hashes: plain Lean. -/
/- Functions with deferred calls: their condition, and that it is enough. -/
/- The verification conditions of some functions, printed by a program of ours (wip/PrintVc.lean). -/
/- The verification conditions of some functions, printed by a program of ours (wip/PrintVc.lean). -/
/- References and nodes of package proof in memory; contracts: refOf, isBranch, valueIf, CutPrefix. -/
import Derived.Test.YtfghidehlnfdiaaGreatDD14
import Derived.Test.YtfghidehlnfdiaaGreatTV
import Derived.Defers
import Derived.Test.YtfghidehlnfdiaaGreatProg
import Derived.KernelRfl
set_option linter.unusedVariables false
set_option linter.unusedSimpArgs false
open Array renaming ext'->Jl,ext_getElem?->JQ,getElem?_eq_none->J7,mapM_eq_mapM_toList->JH,replicate->JZ,size->JP
open Bool renaming and_eq_true->J6,false->I,true->J3
open Except renaming error->JJ
open Go renaming Act->Jh,Calls->J0,CallsD->Jk,Deferred->Ji,Ending->J5,Exit->Jo,FrameMode->JK,Func->Jd,FuncId->JW,TypeId->Jm,World->U,bodyPostD->JF,convert->JA,results->JI,wpList->JX
open Go.Addr renaming add->JE
open Go.Code renaming region->Ja,wp_mono->JL
open Go.Ending renaming panicked->T,returned->G
open Go.FrameMode renaming panicking->J8,returning->JC
open Go.Instr renaming lookup->Je,storeAt->J4
open Go.IntKind renaming i64->E,u8->Y,wrap->J1
open Go.Obj renaming cells->JO
open Go.Proofs.Tryz renaming prog->J
open Go.Sem renaming run->J2
open Go.Value renaming pointer->O,string->Jn,tuple->N
open List renaming drop_suffix->JT,getElem?_append_right->JG,getElem?_toArray->JB,getElem_mem->JS,length_cons->JU,length_drop->J9,mapM_cons->Jb,mem_append->JY,mem_cons->Jc,mem_of_mem_take->JN,not_mem_nil->JV,take_of_length_le->JM
open Nat renaming le_refl->JD,lt_or_ge->Jg,sub_zero->Jf,zero_add->JR,zero_le->Jj
open Option renaming none->B,some->V
section
namespace Go.Proofs.YtfghidehlnfdiaaGreat
open Go Go.Vcg Go.Trie
theorem ZHC{b:By}{e:Int}(h:Trie.hd b=JJ e):e≠0:=by
 unfold Trie.hd at h;simp only at h;split at h
 ·cases h
 ·generalize(if(b.getD 0 0).toNat>=192 then 192 else 128)=base at *
  split at h
  ·cases h
  ·split at h
   ·cases h;decide
   ·split at h
    ·cases h;decide
    ·cases h
theorem ZHB:∀(f:Nat),(∀d n b,2*b.length+1<=f->dcd f d n b≠JJ 0)/\(∀d n b,2*b.length+2<=f->Z7v f d n b≠JJ 0)
 |0=>⟨fun d n b h=>absurd h (by omega),fun d n b h=>absurd h (by omega)⟩
 |f+1=>by
  have ih:=ZHB f;refine⟨fun d n b hf he=>?_,fun d n b hf he=>?_⟩
  ·by_cases hb:b=[]
   ·subst hb;rw[ZB8]at he;cases he
   ·by_cases hd:d>16\/n=4096
    ·rw[Z6n hb hd]at he;cases he
    ·rw[ZDn hb hd]at he
     cases hh:Trie.hd b with
     |error e =>
      rw[hh]at he;simp only at he;cases he;exact ZHC hh rfl
     |ok r =>
      obtain⟨lst,a,k,ow⟩:=r;rw[hh]at he;simp only at he;obtain⟨g1,g2⟩:=ZGS hh hb;split at he
      ·cases he
      ·rename_i hk
       split at he
       ·split at he
        ·cases he
        ·cases he
       ·rename_i hl
        have how:ow=I:=by
         cases ow with
         |false=>rfl
         |true=>exact absurd (g1 rfl).1 hl
        obtain⟨ha,hal,_⟩:=g2 how;have hlen:((b.drop a).take k).length<=b.length-a:=by rw[List.length_take,J9];omega
        cases hs:Z7v f (d+1) (n+1) ((b.drop a).take k)with
        |error e =>
         rw[hs]at he;simp only at he;cases he;exact ih.2 _ _ _ (by omega) hs
        |ok r=>rw[hs]at he;cases he
  ·by_cases hb:b=[]
   ·subst hb;rw[Z8y]at he;cases he
   ·rw[ZB9 hb]at he
    cases hx:dcd f d n b with
    |error e =>
     rw[hx]at he;simp only at he;cases he;exact ih.1 _ _ _ (by omega) hx
    |ok r =>
     obtain⟨x,k,m⟩:=r;rw[hx]at he;simp only at he;obtain⟨a1,a2,_⟩:=(Z7C _ _ _ _).1 _ _ _ hx;cases hs:Z7v f d m (b.drop k)with
     |error e =>
      rw[hs]at he;simp only at he;cases he;exact ih.2 _ _ _ (by rw[J9];omega) hs
     |ok r=>rw[hs]at he;cases he
theorem ZFG{b:By}{x:Int}(h:Z4U b=JJ x):x≠0:=by
 unfold Z4U at h;split at h
 ·cases h;decide
 ·cases hd:dcd (2*b.length+1) 1 0 b with
  |error e =>
   rw[hd]at h;simp only at h;cases h;rintro rfl;exact(ZHB _).1 _ _ _ (JD _) hd
  |ok r =>
   obtain⟨y,k,m⟩:=r;rw[hd]at h;simp only at h;split at h
   ·cases h;decide
   ·cases h
def itB:It->By
 | .s b=>b
 | .l _=>[]
def Z32(x:It):Prop:=x=.s []\/(∃b,x=.s b/\b.length=32)\/∃xs g,x=.l xs/\Z3Q g xs=J3/\ZBt (.l xs)
theorem Z32.nil:Z32 (.s []):=.inl rfl
theorem Z32.hash{b:By}(h:b.length=32):Z32 (.s b):=.inr (.inl ⟨b,rfl,h⟩)
theorem Z32.node{xs:List It}(h:Z32 (.l xs)):∃g,Z3Q (g+1) xs=J3/\ZBt (.l xs):=by
 rcases h with h|⟨b,h,_⟩|⟨ys,g,h,h1,h2⟩
 ·cases h
 ·cases h
 ·cases h
  cases g with
  |zero=>simp[Z3Q]at h1
  |succ g=>exact⟨g,h1,h2⟩
theorem Z32.str{b:By}(h:Z32 (.s b)):b=[]\/b.length=32:=by
 rcases h with h|⟨b,h,h'⟩|⟨ys,g,h,h1,h2⟩
 ·cases h;exact .inl rfl
 ·cases h;exact .inr h'
 ·cases h
theorem ZCA{g:Nat}{x:It}(h:Z4j g x=J3)(hf:ZBt x):Z32 x/\isE x=I:=by
 refine⟨?_,Z9G h⟩;cases x with
 |s b=>simp only[Z4j,decide_eq_true_eq]at h;exact .hash h
 |l xs =>
  simp only[Z4j,J6]at h;exact .inr (.inr ⟨xs,g,rfl,h.2,hf⟩)
theorem Z32.two{xs:List It}(h:Z32 (.l xs))(h2:xs.length=2):∃p lf,Z15 (xs.getD 0 (.s []))=V (p,lf)/\(lf=J3->∃v,xs.getD 1 (.s [])=.s v/\v≠[])/\(lf=I->p≠[]/\Z32 (xs.getD 1 (.s []))/\isE (xs.getD 1 (.s []))=I):=by
 obtain⟨g,hn,hf⟩:=h.node;rw[Z7V h2]at hn;have hm:xs.getD 1 (.s [])∈xs:=by rw[Z1E (by omega)];exact JS (by omega)
 split at hn
 ·cases hn
 ·rename_i p he
  refine⟨p,J3,he,fun _=>?_,fun h=>by cases h⟩;generalize xs.getD 1 (.s [])=y at hn;cases y with
  |l ys=>cases hn
  |s v =>
   cases v with
   |nil=>cases hn
   |cons a r=>exact⟨_,rfl,by simp⟩
 ·rename_i p he
  simp only[J6,decide_eq_true_eq]at hn;exact⟨p,I,he,fun h=>(by cases h),fun _=>⟨hn.1,ZCA hn.2 (hf.mem hm)⟩⟩
theorem Z32.many{xs:List It}(h:Z32 (.l xs))(h2:xs.length≠2):xs.length=17/\(∃v,xs.getD 16 (.s [])=.s v)/\∀j,j<16->Z32 (xs.getD j (.s [])):=by
 obtain⟨g,hn,hf⟩:=h.node
 have h17:xs.length=17:=by
  by_cases h17:xs.length=17
  ·exact h17
  ·rw[Z9B h2 h17]at hn;cases hn
 rw[Z67 h17]at hn;split at hn
 ·cases hn
 ·rename_i v he
  rw[J6,List.all_eq_true]at hn;refine⟨h17,⟨v,he⟩,fun j hj=>?_⟩;rw[Z1E (by omega)];have hm:xs[j]∈xs:=JS (by omega);have:=hn.1 (xs[j]'(by omega)) (by rw[List.mem_take_iff_getElem];exact⟨j,by omega,rfl⟩);rw[Bool.or_eq_true]at this;rcases this with h|h
  ·generalize xs[j]=y at h
   cases y with
   |l ys=>cases h
   |s b =>
    cases b with
    |nil=>exact .nil
    |cons a r=>cases h
  ·exact(ZCA h (hf.mem hm)).1
theorem ZGR{b:By}{x:It}(h:Z4U b=.ok x)(hn:isN 17 x=J3):∃xs,x=.l xs/\Z32 x:=by
 cases x with
 |s b=>cases hn
 |l xs=>exact⟨xs,rfl,.inr (.inr ⟨xs,17,rfl,hn,ZBF h⟩)⟩
theorem Z22{b:By}(h:Z0B b=0):∃xs,Z4U b=.ok (.l xs)/\isN 17 (.l xs)=J3/\Z32 (.l xs):=by
 unfold Z0B at h;cases hd:Z4U b with
 |error x =>
  rw[hd]at h;simp only at h;have:=ZFG hd;exact(this h).elim
 |ok x =>
  rw[hd]at h;simp only at h;by_cases hn:isN 17 x=J3
  ·obtain⟨xs,rfl,hg⟩:=ZGR hd hn
   exact⟨xs,rfl,hn,hg⟩
  ·rw[if_neg hn]at h;exact absurd h (by decide)
section
variable{σ:Type}(step:σ->By->σ×Except Int By)
def Z2Y(go:σ->It->By->σ×Except Int By)(s:σ)(xs:List It)(path:By):σ×Except Int By :=
 if xs.length=2 then(match Z15 (xs.getD 0 (.s []))with
  |some (p,J3)=>(s,.ok (if p=path then itB (xs.getD 1 (.s []))else[]))
  |some (p,I)=>if p.isPrefixOf path then go s (xs.getD 1 (.s [])) (path.drop p.length)else(s,.ok [])
  |none=>(s,.ok []))
 else match path with
  |[]=>(s,.ok (itB (xs.getD 16 (.s []))))
  |n::r=>go s (xs.getD n.toNat (.s [])) r
def ZAo:Nat->σ->It->By->σ×Except Int By
 |0,s,_,_=>(s,.ok [])
 |f+1,s,.l xs,path=>Z2Y (ZAo f) s xs path
 |f+1,s,.s b,path=>if b=[]then(s,.ok [])else match step s b with
  |(s',JJ e)=>(s',JJ e)
  |(s',.ok c)=>if Z0B c≠0 then(s',JJ 161)else match Z4U c with
   | .ok (.l xs)=>Z2Y (ZAo f) s' xs path
   |_=>(s',JJ 161)
def way(s:σ)(x:It)(path:By):σ×Except Int By:=ZAo step (path.length+1) s x path
variable{step}
theorem ZBP{go go':σ->It->By->σ×Except Int By}{s:σ}{xs:List It}{path:By}(hg:Z32 (.l xs))(h:∀(s:σ) (y:It) (q:By),Z32 y->q.length<path.length->go s y q=go' s y q)(hn:∀n∈path,n.toNat<16):Z2Y go s xs path=Z2Y go' s xs path:=by
 unfold Z2Y;by_cases h2:xs.length=2
 ·rw[if_pos h2,if_pos h2]
  obtain⟨p,lf,he,h1,h3⟩:=hg.two h2;rw[he];cases lf with
  |true=>rfl
  |false =>
   obtain⟨hp,hgy,_⟩:=h3 rfl;simp only;by_cases hpre:p.isPrefixOf path=J3
   ·rw[if_pos hpre,if_pos hpre]
    have hpl:0<p.length:=List.length_pos_iff.2 hp;have hle:p.length<=path.length:=(List.isPrefixOf_iff_prefix.1 hpre).length_le;exact h s _ _ hgy (by rw[J9];omega)
   ·rw[if_neg hpre,if_neg hpre]
 ·rw[if_neg h2,if_neg h2]
  obtain⟨h17,_,hk⟩:=hg.many h2;cases path with
  |nil=>rfl
  |cons n r=>exact h s _ _ (hk _ (hn n (by simp))) (by simp)
theorem ZAi:∀(m f f':Nat) (s:σ) (x:It) (path:By),path.length<=m->path.length<f->path.length<f'->Z32 x->(∀n∈path,n.toNat<16)->ZAo step f s x path=ZAo step f' s x path:=by
 intro m
 induction m with
 |zero =>
  intro f f' s x path hm hf hf' hg hn;obtain⟨f,rfl⟩:∃g,f=g+1:=⟨f-1,by omega⟩;obtain⟨f',rfl⟩:∃g,f'=g+1:=⟨f'-1,by omega⟩;have key:∀(s:σ)(xs:List It),Z32 (.l xs)->Z2Y (ZAo step f) s xs path=Z2Y (ZAo step f') s xs path:=fun s xs hg=>ZBP hg (fun s y q _ hq=>absurd hq (by omega)) hn;cases x with
  |l xs=>exact key s xs hg
  |s b =>
   simp only[ZAo];split
   ·rfl
   ·split
    ·rfl
    ·split
     ·rfl
     ·rename_i hc
      obtain⟨xs,hd,_,hgx⟩:=Z22 (Decidable.not_not.1 hc);rw[hd];exact key _ xs hgx
 |succ m ih =>
  intro f f' s x path hm hf hf' hg hn;obtain⟨f,rfl⟩:∃g,f=g+1:=⟨f-1,by omega⟩;obtain⟨f',rfl⟩:∃g,f'=g+1:=⟨f'-1,by omega⟩
  have key:∀(s:σ)(xs:List It),Z32 (.l xs)->Z2Y (ZAo step f) s xs path=Z2Y (ZAo step f') s xs path:=by
   intro s xs hg;have hsub:∀(q:By),q <:+ path->∀n∈q,n.toNat<16:=fun q hq n hnq=>hn n (hq.subset hnq);unfold Z2Y;by_cases h2:xs.length=2
   ·rw[if_pos h2,if_pos h2]
    obtain⟨p,lf,he,h1,h3⟩:=hg.two h2;rw[he];cases lf with
    |true=>rfl
    |false =>
     obtain⟨hp,hgy,_⟩:=h3 rfl;simp only;by_cases hpre:p.isPrefixOf path=J3
     ·rw[if_pos hpre,if_pos hpre]
      have hpl:0<p.length:=List.length_pos_iff.2 hp;have hle:p.length<=path.length:=(List.isPrefixOf_iff_prefix.1 hpre).length_le;have hl:(path.drop p.length).length=path.length-p.length:=J9;exact ih f f' s _ _ (by omega) (by omega) (by omega) hgy (hsub _ (JT _ _))
     ·rw[if_neg hpre,if_neg hpre]
   ·rw[if_neg h2,if_neg h2]
    obtain⟨h17,_,hk⟩:=hg.many h2;cases path with
    |nil=>rfl
    |cons n r =>
     simp only[JU]at hm hf hf';exact ih f f' s _ _ (by omega) (by omega) (by omega) (hk _ (hn n (by simp))) (fun q hq=>hn q (by simp[hq]))
  cases x with
  |l xs=>exact key s xs hg
  |s b =>
   simp only[ZAo];split
   ·rfl
   ·split
    ·rfl
    ·split
     ·rfl
     ·rename_i hc
      obtain⟨xs,hd,_,hgx⟩:=Z22 (Decidable.not_not.1 hc);rw[hd];exact key _ xs hgx
theorem ZAL{f:Nat}{s:σ}{xs:List It}{path:By}(hg:Z32 (.l xs))(hf:path.length<=f)(hn:∀n∈path,n.toNat<16):Z2Y (ZAo step f) s xs path=Z2Y (way step) s xs path:=by
 unfold Z2Y;by_cases h2:xs.length=2
 ·rw[if_pos h2,if_pos h2]
  obtain⟨p,lf,he,h1,h3⟩:=hg.two h2;rw[he];cases lf with
  |true=>rfl
  |false =>
   obtain⟨hp,hgy,_⟩:=h3 rfl;simp only;by_cases hpre:p.isPrefixOf path=J3
   ·rw[if_pos hpre,if_pos hpre]
    have hpl:0<p.length:=List.length_pos_iff.2 hp;have hle:p.length<=path.length:=(List.isPrefixOf_iff_prefix.1 hpre).length_le;have hl:(path.drop p.length).length=path.length-p.length:=J9;exact ZAi _ _ _ s _ _ (JD _) (by omega) (by omega) hgy (fun n hnq=>hn n ((JT _ _).subset hnq))
   ·rw[if_neg hpre,if_neg hpre]
 ·rw[if_neg h2,if_neg h2]
  obtain⟨h17,_,hk⟩:=hg.many h2;cases path with
  |nil=>rfl
  |cons n r =>
   simp only[JU]at hf;exact ZAi _ _ _ s _ _ (JD _) (by omega) (by omega) (hk _ (hn n (by simp))) (fun q hq=>hn q (by simp[hq]))
theorem ZGq(s:σ)(path:By):way step s (.s []) path=(s,.ok []):=by simp only[way,ZAo,if_true]
theorem ZFp{s:σ}{xs:List It}{path:By}(hg:Z32 (.l xs))(hn:∀n∈path,n.toNat<16):way step s (.l xs) path=Z2Y (way step) s xs path:=ZAL hg (JD _) hn
theorem ZGp{s s':σ}{b path:By}{e:Int}(hb:b≠[])(h:step s b=(s',JJ e)):way step s (.s b) path=(s',JJ e):=by
 simp only[way,ZAo];rw[if_neg hb,h]
theorem ZFo{s s':σ}{b c path:By}(hb:b≠[])(h:step s b=(s',.ok c))(hc:Z0B c≠0):way step s (.s b) path=(s',JJ 161):=by
 simp only[way,ZAo];rw[if_neg hb,h];simp only;rw[if_pos hc]
theorem ZCn{s s':σ}{b c path:By}{xs:List It}(hb:b≠[])(h:step s b=(s',.ok c))(hc:Z0B c=0)(hd:Z4U c=.ok (.l xs))(hg:Z32 (.l xs))(hn:∀n∈path,n.toNat<16):way step s (.s b) path=Z2Y (way step) s' xs path:=by
 simp only[way,ZAo];rw[if_neg hb,h];simp only;rw[if_neg (by simp[hc]),hd];exact ZAL hg (JD _) hn
theorem ZAM{go:σ->It->By->σ×Except Int By}{s:σ}{xs:List It}{path p:By}(h2:xs.length=2)(he:Z15 (xs.getD 0 (.s []))=V (p,J3)):Z2Y go s xs path=(s,.ok (if p=path then itB (xs.getD 1 (.s []))else[])):=by
 unfold Z2Y;rw[if_pos h2,he]
theorem ZCS{go:σ->It->By->σ×Except Int By}{s:σ}{xs:List It}{path p:By}(h2:xs.length=2)(he:Z15 (xs.getD 0 (.s []))=V (p,I)):Z2Y go s xs path=if p.isPrefixOf path then go s (xs.getD 1 (.s [])) (path.drop p.length)else(s,.ok []):=by
 unfold Z2Y;rw[if_pos h2,he]
theorem ZFU{go:σ->It->By->σ×Except Int By}{s:σ}{xs:List It}(h2:xs.length≠2):Z2Y go s xs []=(s,.ok (itB (xs.getD 16 (.s [])))):=by
 unfold Z2Y;rw[if_neg h2]
theorem ZFV{go:σ->It->By->σ×Except Int By}{s:σ}{xs:List It}{n:UInt8}{r:By}(h2:xs.length≠2):Z2Y go s xs (n::r)=go s (xs.getD n.toNat (.s [])) r:=by
 unfold Z2Y;rw[if_neg h2]
end
theorem nib_lt(k:By):∀n∈nibbles k,n.toNat<16:=by
 intro n hn;unfold nibbles at hn;obtain⟨c,_,hc⟩:=List.mem_flatMap.1 hn;simp only[Jc,JV,or_false]at hc;have h1:∀n:Fin 256,((UInt8.ofFin n)>>>4).toNat<16:=by decide +kernel
 have h2:∀n:Fin 256,((UInt8.ofFin n)&&&15).toNat<16:=by decide +kernel
 rcases hc with rfl|rfl
 ·exact h1 c.toFin
 ·exact h2 c.toFin
end Go.Proofs.YtfghidehlnfdiaaGreat
end
section
namespace Go.Vcg
structure ZF8 (C:Car) where
 f:JW
 args:List (SV C)
def Z2m(P:Program)(rt:U->Prop)(R:J5->U->Prop):List (JW×Array Value)->JK->U->Prop
 |[],JC,w=>rt w
 |[],J8 chain,w=>R (T chain) w
 |[],.run,_=>False
 |(f,args)::ds,u,w=>u≠.run/\Jk P f args u w fun
    | G _,u',w'=>Z2m P rt R ds (settle u') w'
    | T chain,u',w'=>Z2m P rt R ds (raised u' chain) w'
    | .outgrown,_,w'=>R .outgrown w'
section
variable{C:Car}(A:List (ZF8 C)->(C.W->C.R)->Alg C)(leav:List (ZF8 C)->(C.W->C.R)->C.W->C.R)(P:Program)
def pieces:Code->List Code
 | .seq a b=>pieces a++pieces b
 |c=>[c]
def ZDo:Code->Option (Array Oper×Oper×Call)
 | Ja _ ops I=>match ops.back? with
   |some o=>match o.op with
    | .defer c=>if o.guard.isNone&&o.dst.isNone then V (ops,o,c)else B
    |_=>B
   |none=>B
 |_=>B
def ZBf(fn:Jd):List Tmp:=fn.results.toList.map fun
 | .tmp t=>t
 | .cell a _=>a
def Z79(fn:Jd)(rest:List Code):Bool:=rest.all fun c=>(Zj c).all fun t=> !(ZBf fn).contains t
def endD(fn:Jd)(ds:List (ZF8 C))(rt:C.W->C.R)(env:Env C)(w:C.W):C.R:=match ds with
 |[]=>ZGd (A [] rt) P fn env w
 |ds=>leav ds rt w
def ZDv(ann:List (Nat×List (Tmp×Shape1)))(fn:Jd):List Code->List (ZF8 C)->(C.W->C.R)->Env C->C.W->C.R
 |[],ds,rt,env,w=>endD A leav P fn ds rt env w
 |c::rest,ds,rt,env,w =>
  match ZDo c with
  |some (ops,o,call)=>Z6A (A ds rt) P ops (ops.toList.take (ops.size-1)) env w fun env w =>
   match call.callee with
   | .value f=>match ev (A ds rt) env f with
     | .func (.func g) first cap=>if Z8I P g&&Z79 fn rest then
       ZDv ann fn rest (⟨g,first++call.args.toList.map (ev (A ds rt) env)++cap⟩::ds) (match ds with|[]=>fun w=>ZGd (A ds rt) P fn env w|_=>rt) env w
       else(A ds rt).fail "defer"
     |_=>(A ds rt).fail "defer: what function?"
   |_=>(A ds rt).fail "defer"
  |none=>Z85 (A ds rt) P ann c env w { nrm:=fun env w=>ZDv ann fn rest ds rt env w,exit:=fun _ _ _=>(A ds rt).fail "exit",ret:=fun env w=>endD A leav P fn ds rt env w }
def ZA1(ann:List (Nat×List (Tmp×Shape1)))(fn:Jd)(args:List (SV C))(fl:C.R)(w:C.W):C.R :=
 match fn.body with
 |none=>fl
 |some c=>if args.length<=fn.ntmps/\Z1J fn.ntmps c=J3 then ZDv A leav P ann fn (pieces c) [] (fun _=>fl) (Z1Y 0 args) w else fl
end
def dsV(ds:List (ZF8 pC)):List (JW×Array Value):=ds.map fun d=>(d.f,(toVs d.args).toArray)
def finD(P:Program)(R:J5->U->Prop)(ds:List (ZF8 pC))(rt:U->Prop)(e:J5)(w:U):Prop:=match ds with
 |[]=>R e w
 |d::ds=>match e with
  | T ch=>Z2m P rt R (dsV (d::ds)) (J8 ch) w
  |e=>R e w
def aD(P:Program)(R:J5->U->Prop)(ds:List (ZF8 pC))(rt:U->Prop):Alg pC:=pA P ⟨finD P R ds rt,J3⟩
def ZD4(P:Program)(R:J5->U->Prop)(ds:List (ZF8 pC))(rt:U->Prop)(w:U):Prop:=Z2m P rt R (dsV ds) JC w
section
variable{P:Program}{R:J5->U->Prop}
def Z1a(P:Program):List Code->(Jo->Jh->U->Prop)->Jh->U->Prop
 |[],Q,a,w=>Q .normal a w
 |c::cs,Q,a,w=>c.wp P (Exit.then (Z1a P cs Q) Q) a w
theorem Z5r{Q Q':Jo->Jh->U->Prop}(hq:∀e a w,Q e a w->Q' e a w):∀(cs:List Code) (a:Jh) (w:U),Z1a P cs Q a w->Z1a P cs Q' a w
 |[],a,w,h=>hq _ _ _ h
 |c::cs,a,w,h=>JL (fun e a w q=>by cases e<;>first|exact Z5r hq cs _ _ q|exact hq _ _ _ q) h
theorem Z4R:∀(xs ys:List Code) (Q:Jo->Jh->U->Prop) (a:Jh) (w:U),Z1a P (xs++ys) Q a w->Z1a P xs (Exit.then (Z1a P ys Q) Q) a w
 |[],ys,Q,a,w,h=>h
 |x::xs,ys,Q,a,w,h=>JL (fun e a w q=>by cases e<;>first|exact Z4R xs ys Q a w q|exact q) h
theorem ZF3:∀(c:Code) (Q:Jo->Jh->U->Prop) (a:Jh) (w:U),Z1a P (pieces c) Q a w->c.wp P Q a w:=by
 intro c
 induction c with
 |seq x y ihx ihy =>
  intro Q a w h;unfold pieces at h;refine wp_seq (ihx _ _ _ (Z5r (fun e a w q=>?_) _ _ _ (Z4R _ _ _ _ _ h)));cases e<;>first|exact ihy _ _ _ q|exact q
 |_ =>
  intro Q a w h;refine JL (fun e a w q=>?_) h;cases e<;>exact q
theorem Z8e{fn:Jd}{t t':Array Value}(h:∀s∈ZBf fn,t.getD s undef=t'.getD s undef):JI fn t=JI fn t':=by
 unfold JI
 have:∀(l:List ResultVar),(∀s∈(l.map fun|ResultVar.tmp t=>t| .cell a _=>a),t.getD s undef=t'.getD s undef) ->
   (l.mapM fun r=>(match r with
     | .tmp s=>pure (t.getD s undef)
     | .cell a ty=>do loadVar ty (<-asAddr (t.getD a undef)):Sem Value))=l.mapM fun r=>(match r with
     | .tmp s=>pure (t'.getD s undef)
     | .cell a ty=>do loadVar ty (<-asAddr (t'.getD a undef)):Sem Value):=by
  intro l
  induction l with
  |nil=>intro _;rfl
  |cons r l ih =>
   intro h;rw[Jb,Jb,ih (fun s hs=>h s (by simp[hs]))];cases r with
   |tmp s=>simp only[h s (by simp)]
   |cell a ty=>simp only[h a (by simp)]
 have h1:=this fn.results.toList h;rw[JH,JH]
 erw [h1]
 rfl
theorem ZGr{o:Oper}{a:Jh}{w:U}{K:Jh->U->Prop}{Q Q':Jo->Jh->U->Prop}(h:o.wp P a w K Q)(hp:∀ch a w,Q (.panic ch) a w->Q' (.panic ch) a w)(ho:LetsOut Q->LetsOut Q'):o.wp P a w K Q':=by
 unfold Oper.wp at *
 generalize(execOp a.eval o).run P w=r at *
 cases r with
 |ok n w' =>
  cases n<;>simp only[Oper.upon]at h ⊢ <;>
   first
    |exact h
    |exact Calls.mono h (fun e w'' he=>by cases e<;>first|exact he|exact hp _ _ _ he|exact ho he)
 |halt x w'=>cases x<;>simp only[Oper.upon]at h ⊢ <;> first|exact hp _ _ _ h|exact h
theorem Z3u{ops:Array Oper}{Q:Jo->Jh->U->Prop}:∀(xs ys:List Oper) (a:Jh) (w:U),JX P ops (Exit.then (JX P ops Q ys) Q) xs a w->JX P ops Q (xs++ys) a w
 |[],ys,a,w,h=>h
 |x::xs,ys,a,w,h=>by
  rw[List.cons_append];unfold JX at h ⊢;split
  ·rename_i hw
   rw[if_pos hw]at h;rcases h with h|⟨h1,h2⟩
   ·exact .inl (ZGr (Oper.wp_mono (fun a w=>Z3u xs ys a w) h) (fun _ _ _ h=>h) (fun⟨a,w,h⟩=>⟨a,w,h⟩))
   ·exact .inr ⟨h1,by obtain⟨a,w,h⟩:=h2;exact⟨a,w,h⟩⟩
  ·rename_i hw
   rw[if_neg hw]at h;exact Z3u xs ys _ w h
def Z9W(P:Program):List (JW×Array Value)->List Ji->Prop
 |[],[]=>True
 |(f,args)::ds,d::dd=>(∃fv cap,d.target=.fn fv cap/\∀w,(invoke d.target d.args).run P w=.ok (.enter f args) w)/\Z9W P ds dd
 |_,_=>False
theorem Z2u{fn:Jd}{tmps:Array Value}{rt:U->Prop}(hrt:∀w,rt w->∃v,(JI fn tmps).run P w=.ok v w/\R (G v) w):∀(ds:List (JW×Array Value)) (dd:List Ji) (u:JK) (w:U),Z9W P ds dd ->
  Z2m P rt R ds u w->Leaves P fn tmps R dd u w
 |[],[],u,w,_,h=>by
  cases u with
  |run=>exact h
  |returning=>exact hrt w h
  |panicking ch=>exact h
 |(f,args)::ds,[],_,_,h,_=>h.elim
 |[],d::dd,_,_,h,_=>h.elim
 |(f,args)::ds,d::dd,u,w,hd,h=>by
  obtain⟨⟨fv,cap,h1,h2⟩,h3⟩:=hd;obtain⟨hu,hc⟩:=h;refine⟨hu,fv,cap,f,args,h1,h2 w,hc.mono fun e u' w' he=>?_⟩;cases e with
  |returned v=>exact Z2u hrt ds dd _ _ h3 he
  |panicked ch=>exact Z2u hrt ds dd _ _ h3 he
  |outgrown=>exact he
theorem ZEQ{n:Nat}:∀(c:Code),Z1J n c=J3->∀p∈pieces c,Z1J n p=J3:=by
 intro c
 induction c with
 |seq x y ihx ihy =>
  intro h p hp;simp only[Z1J,J6]at h;simp only[pieces,JY]at hp;rcases hp with hp|hp
  ·exact ihx h.1 p hp
  ·exact ihy h.2 p hp
 |_=>intro h p hp;simp only[pieces,List.mem_singleton]at hp;subst hp;exact h
def RtOK(P:Program)(R:J5->U->Prop)(fn:Jd)(rt:U->Prop)(a:Jh):Prop:=∀w,rt w->∃v,(JI fn a.tmps).run P w=.ok v w/\R (G v) w
theorem ZBC{ann:List (Nat×List (Tmp×Shape1))}(hm:P.follows .mixedOrders=J3){fn:Jd}{n:Nat}:∀(cs:List Code) (ds:List (ZF8 pC)) (rt:U->Prop) (env:Env pC) (a:Jh) (w:U),
  Rep env a->a.tmps.size=n->(∀c∈cs,Z1J n c=J3)->Z9W P (dsV ds) a.defers->(ds≠[]->RtOK P R fn rt a/\Z79 fn cs=J3) ->
  ZDv (aD P R) (ZD4 P R) P ann fn cs ds rt env w->Z1a P cs (JF P fn R) a w:=by
 have endS:∀(ds:List (ZF8 pC))(rt:U->Prop)(env:Env pC)(a:Jh)(w:U),Rep env a->Z9W P (dsV ds) a.defers->(ds≠[]->RtOK P R fn rt a)->endD (aD P R) (ZD4 P R) P fn ds rt env w->Leaves P fn a.tmps R a.defers JC w:=by
  intro ds rt env a w hrep hdd hrt h;cases ds with
  |nil =>
   have h:ZGd (pA P ⟨R,J3⟩) P fn env w:=h
   have he:a.defers=[]:=by
    cases hq:a.defers with
    |nil=>rfl
    |cons d dd=>rw[hq]at hdd;exact hdd.elim
   rw[he];exact Z4Z hrep h
  |cons d ds=>exact Z2u (hrt (by simp)) _ _ _ _ hdd h
 intro cs
 induction cs with
 |nil=>intro ds rt env a w hrep hn hs hdd hrt h;exact endS ds rt env a w hrep hdd (fun hne=>(hrt hne).1) h
 |cons c rest ih =>
  intro ds rt env a w hrep hn hs hdd hrt h;unfold ZDv at h;have hrest:∀c∈rest,Z1J n c=J3:=fun c hc=>hs c (by simp[hc])
  have hclr:Z79 fn (c::rest)=J3->Z79 fn rest=J3/\∀t∈ZBf fn,t ∉ Zj c:=by
   intro hc;simp only[Z79,List.all_cons,J6]at hc;refine⟨hc.2,fun t ht hw=>?_⟩;have:=List.all_eq_true.1 hc.1 t hw;simp only[List.contains_eq_mem,decide_eq_true ht,Bool.not_true]at this;cases this
  have keepRt:∀(a':Jh),(∀t,t ∉ Zj c->a'.tmps.getD t undef=a.tmps.getD t undef)->ds≠[]->RtOK P R fn rt a':=by
   intro a' hk hne w' hw;obtain⟨h1,h2⟩:=hrt hne;have he:JI fn a'.tmps=JI fn a.tmps:=Z8e fun s hsl=>hk s ((hclr h2).2 s hsl);rw[he];exact h1 w' hw
  split at h
  ·rename_i ops o call hdf
   have hc:∃id,c=Ja id ops I/\ops.back?=V o/\o.op=.defer call/\o.guard=B/\o.dst=B:=by
    unfold ZDo at hdf;split at hdf
    ·rename_i id ops'
     split at hdf
     ·rename_i o' ho
      split at hdf
      ·rename_i c' hop
       split at hdf
       ·rename_i hg
        simp only[J6,Option.isNone_iff_eq_none]at hg;cases hdf;exact⟨id,rfl,ho,hop,hg.1,hg.2⟩
       ·cases hdf
      ·cases hdf
     ·cases hdf
    ·cases hdf
   obtain⟨id,rfl,hback,hop,hguard,hdst⟩:=hc;have hsc:=hs (Ja id ops I) (by simp)
   have hd:∀o∈ops.toList,ZDp n o:=by
    intro o ho d hdst;have:=Array.all_eq_true_iff_forall_mem.1 hsc o (Array.mem_toList_iff.1 ho);simp only[hdst,decide_eq_true_eq]at this;exact this
   have hW':∀o∈ops.toList,∀d,o.dst=V d->d∈Zj (Ja id ops I):=by
    intro o ho d hdst;simp only[Zj,List.mem_filterMap];exact⟨o,ho,hdst⟩
   have hsplit:ops.toList=ops.toList.take (ops.size-1)++[o]:=by
    have hl:ops.toList.length=ops.size:=Array.length_toList;have hb:ops.toList.getLast?=V o:=by rw[Array.getLast?_toList];exact hback
    obtain⟨ys,hys⟩:=List.getLast?_eq_some_iff.1 hb;have h1:ops.size-1=ys.length:=by rw[<-hl,hys];simp
    rw[h1,hys,List.take_left]
   refine wp_region_list ?_;rw[hsplit];refine Z3u _ _ _ _ (Z2a (W:=Zj (Ja id ops I)) _ env a w _ hrep hn (fun o ho=>hd o (JN ho)) (fun o ho=>hW' o (JN ho)) h ?_ ?_)
   ·
    intro ch a' w' hd' hk hf;show Leaves P fn a'.tmps R a'.defers (J8 ch) w';rw[hd'];cases ds with
    |nil =>
     have he:a.defers=[]:=by
      cases hq:a.defers with
      |nil=>rfl
      |cons d dd=>rw[hq]at hdd;exact hdd.elim
     rw[he];exact hf
    |cons d ds=>exact Z2u (keepRt a' hk (by simp)) _ _ _ _ hdd hf
   ·intro env' a' w' hrep' hn' hd' hk h
    show JX P ops (Exit.then (Z1a P rest (JF P fn R)) (JF P fn R)) [o] a' w';split at h
    case h_2=>exact h.elim
    rename_i f hcal;split at h
    case h_2=>exact h.elim
    rename_i g first cap hev
    split at h
    case isFalse=>exact h.elim
    rename_i hg;simp only[J6]at hg;have hev':a'.eval f=.func (.func g) (toVs first).toArray (toVs cap).toArray:=by rw[hrep'.eval f];erw [hev];rfl
    have hargs:call.args.map a'.eval=(toVs (call.args.toList.map (ev (aD P R ds rt) env'))).toArray:=by
     rw[Z1W,List.map_map];apply Jl;simp only[Array.toList_map];exact List.map_congr_left fun x _=>hrep'.eval x
    have hex:(execOp a'.eval o).run P w'=.ok (.defer { target:=.fn (.func g) (toVs cap).toArray,args:=(toVs first).toArray++call.args.map a'.eval }) w':=by
     simp[execOp,hop,resolve,hcal,Deferred.ofValue,hev']
    unfold JX;have hwant:Region.wanted o (yielded ops a'.tmps)=J3:=by simp[Region.wanted,hguard]
    rw[if_pos hwant];refine .inl ?_;unfold Oper.wp;rw[hex];rw[Oper.upon_defer];unfold JX;show Z1a P rest (JF P fn R) _ w';rw[hdst];refine ih (⟨g,first++call.args.toList.map (ev (aD P R ds rt) env')++cap⟩::ds) _ env' _ w' hrep' hn' hrest (And.intro ⟨.func g,(toVs cap).toArray,rfl,fun w''=>?_⟩ ?_) (fun _=>⟨?_,hg.2⟩) h
    ·show(callFunc g _).run P w''=_
     rw[Z2N hg.1];congr 2;rw[hargs];apply Jl;simp[Z1W]
    ·show Z9W P (dsV ds) a'.defers
     rw[hd'];exact hdd
    ·intro w'' hw''
     cases ds with
     |nil=>exact Z4Z (R:=⟨R,J3⟩) hrep' hw''
     |cons d ds=>exact keepRt a' hk (by simp) w'' hw''
  ·refine JL (Q:=fun e a' w'=>Exit.then (Z1a P rest (JF P fn R)) (JF P fn R) e a' w'/\(∀ch,e=.panic ch->ds=[]->a'.defers=[])) (fun e a' w' hq=>hq.1) ?_
   have hnil:ds=[]->a.defers=[]:=by
    rintro rfl;cases hq:a.defers with
    |nil=>rfl
    |cons d dd=>rw[hq]at hdd;exact hdd.elim
   refine Z61 (R:=⟨finD P R ds rt,J3⟩) hm c (Zj c) env a w _ _ hrep hn (hs c (by simp)) (fun t ht=>ht) ?_ ?_ h ?_
   ·intro ch a1 a2 w' hd' hk⟨h1,h2⟩
    refine⟨?_,fun ch' _ hne=>by rw[<-hd'];exact h2 ch rfl hne⟩;have h1:Leaves P fn a1.tmps R a1.defers (J8 ch) w':=h1;show Leaves P fn a2.tmps R a2.defers (J8 ch) w';rw[<-hd'];by_cases hne:ds=[]
    ·rw[h2 ch rfl hne]at h1 ⊢;exact h1
    ·have he:JI fn a1.tmps=JI fn a2.tmps:=Z8e fun s hsl=>hk s ((hclr (hrt hne).2).2 s hsl)
     have cong:∀(dd:List Ji)(u:JK)(w:U),Leaves P fn a1.tmps R dd u w->Leaves P fn a2.tmps R dd u w:=by
      intro dd
      induction dd with
      |nil =>
       intro u w hl;cases u with
       |run=>exact hl
       |returning=>obtain⟨v,hv⟩:=hl;exact⟨v,by rw[<-he];exact hv⟩
       |panicking ch=>exact hl
      |cons d dd ihd =>
       intro u w⟨g1,fv,cap,f,args,g2,g3,g4⟩;refine⟨g1,fv,cap,f,args,g2,g3,g4.mono fun e u' w' hh=>?_⟩;cases e with
       |returned v=>exact ihd _ _ hh
       |panicked ch=>exact ihd _ _ hh
       |outgrown=>exact hh
     exact cong _ _ _ h1
   ·intro ch a' w' hd' hk hf
    refine⟨?_,fun ch' _ hne=>by rw[hd'];exact hnil hne⟩;show Leaves P fn a'.tmps R a'.defers (J8 ch) w';rw[hd'];cases ds with
    |nil=>rw[hnil rfl];exact hf
    |cons d ds=>exact Z2u (keepRt a' hk (by simp)) _ _ _ _ hdd hf
   ·exact{
     nrm:=fun env' a' w' h1 h2 h3 h4 h5=>by
      refine⟨?_,fun ch he=>by cases he⟩;show Z1a P rest (JF P fn R) a' w';exact ih ds rt env' a' w' h1 h2 hrest (by rw[h3];exact hdd) (fun hne=>⟨keepRt a' h4 hne,(hclr (hrt hne).2).1⟩) h5
     exit:=fun i env' a' w' h1 h2 h3 h4 h5=>h5.elim
     ret:=fun env' a' w' h1 h2 h3 h4 h5=>by
      refine⟨?_,fun ch he=>by cases he⟩;show Leaves P fn a'.tmps R a'.defers JC w';exact endS ds rt env' a' w' h1 (by rw[h3];exact hdd) (fun hne=>keepRt a' h4 hne) h5 }
theorem Z48{ann:List (Nat×List (Tmp×Shape1))}{f:JW}{fn:Jd}{args:List (SV pC)}{w:U}(hf:P.funcs[f]?=V fn)(hm:P.follows .mixedOrders=J3)
  (h:ZA1 (aD P R) (ZD4 P R) P ann fn args False w):J0 P f (toVs args).toArray w R:=by
 unfold ZA1 at h;split at h
 ·exact h.elim
 ·rename_i c hb
  split at h
  ·rename_i hc
   refine calls_of_wp_defers hf hb (ZF3 _ _ _ _ ?_);have hrep:Rep (Z1Y 0 args) ({ tmps:=(toVs args).toArray++JZ (fn.ntmps-(toVs args).toArray.size) undef,defers:=[] }:Jh):=Z6Q;exact ZBC hm (pieces c) [] _ _ _ w hrep (by simp[Zp];omega) (ZEQ c hc.2) trivial (fun h=>(h rfl).elim) h
  ·exact h.elim
theorem Z49{ann:List (Nat×List (Tmp×Shape1))}{f:JW}{fn:Jd}{args:List (SV pC)}{u:JK}{w:U}(hf:P.funcs[f]?=V fn)(hm:P.follows .mixedOrders=J3)
  (h:Z4h (pA P ⟨R,I⟩) P ann fn args w):Jk P f (toVs args).toArray u w fun e u' w'=>u'=u/\R e w':=by
 obtain⟨c,hb,hw⟩:=ZC3 hm h;exact callsD_of_wp hf hb hw
end
end Go.Vcg
end
section
namespace Go.Proofs.YtfghidehlnfdiaaGreat
open Go Go.Vcg
abbrev Z1p.n:Nat:=29
def Z1p.Vc(a:Option Addr)(b c:Nat)(c:Bool)(w:U)(R:J5->U->Prop):Prop :=
 ∀d e,ZB w 69 #[.map B,.bool I] d e ->
 (((b:Int)>4096 ->
 Z1 e d (.map B)/\∀f,Z8 e d (.map B) f ->
 Z1 f (d.add 1) (.bool I)/\∀g,Z8 f (d.add 1) (.bool I) g ->
 ∃f:Option Nat,∃h,g.cell? d=V (.map f) /\
 g.cell? (d.add 1)=V (.bool h) /\
 R (G (N #[.agg #[.map f,.bool h],.int E 162])) g) /\
 (¬(b:Int)>4096 ->
 ∃f g,J2 J (Instr.makeMap 67 B) e=.ok f g /\
 ∃e:Option Nat,f=(.map e) /\
 ∀f h,ZB g 69 #[.map B,.bool I] f h ->
 Z1 h f (.map e)/\∀g,Z8 h f (.map e) g ->
 Z1 g (f.add 1) (.bool c)/\∀e,Z8 g (f.add 1) (.bool c) e ->
 ∃(c:Int->U->Prop)(g:Int->U->Nat),c 0 e /\
 (∀(e:Int)(h:Nat->Value)(h:U),c e h ->
 ((e<(b:Int) ->
 ∃i,a=V i /\
 ((0:Int)<=e/\e<(b:Int)) /\
 ∃a,ZH h (i.add (e.toNat*33)) 33 a /\
 ∀i j,ZB h 48 #[.int Y 0,.int Y 0,.int Y 0,.int Y 0,.int Y 0,.int Y 0,.int Y 0,.int Y 0,.int Y 0,.int Y 0,.int Y 0,.int Y 0,.int Y 0,.int Y 0,.int Y 0,.int Y 0,.int Y 0,.int Y 0,.int Y 0,.int Y 0,.int Y 0,.int Y 0,.int Y 0,.int Y 0,.int Y 0,.int Y 0,.int Y 0,.int Y 0,.int Y 0,.int Y 0,.int Y 0,.int Y 0,.slice B 0 0] i j ->
 ∃k,J2 J (J4 48 (O (V i)) (.agg a)) j=.ok () k /\
 ∃a:Option Nat,k.cell? f=V (.map a) /\
 ∃j,ZH k i 32 j /\
 ∃l,J2 J (Je 67 (.map a) (.agg j) J3) k=.ok l k /\
 ∃a j m n,l=(N #[.slice a j m,.bool n]) /\
 ((n=I ->
 ∃a:Option Nat,k.cell? f=V (.map a) /\
 ∃j,ZH k i 32 j /\
 ∃l m o,k.cell? (i.add 32)=V (.slice l m o) /\
 ∃i,J2 J (Instr.mapUpdate 67 (.map a) (.agg j) (.slice l m o)) k=.ok () i /\
 c (J1 E (e+1)) i/\g (J1 E (e+1)) i<g e h) /\
 (n=J3 ->
 c (J1 E (e+1)) k/\g (J1 E (e+1)) k<g e h))) /\
 (¬e<(b:Int) ->
 ∃a:Option Nat,∃b,h.cell? f=V (.map a) /\
 h.cell? (f.add 1)=V (.bool b) /\
 Z1 h d (.map a)/\∀c,Z8 h d (.map a) c ->
 Z1 c (d.add 1) (.bool b)/\∀a,Z8 c (d.add 1) (.bool b) a ->
 ∃b:Option Nat,∃c,a.cell? d=V (.map b) /\
 a.cell? (d.add 1)=V (.bool c) /\
 R (G (N #[.agg #[.map b,.bool c],.int E 0])) a)))))
theorem Z1p.vc(a b c d w R)(h:Z1p.Vc a b c d w R):J0 J 29 #[(.slice a b c),(.bool d)] w R:=xs [(5,[(20,.cell (.int E))])] [.slice a b c,.bool (.var d)] Tryz.func29 ZO (by kernel_rfl) h
abbrev Z08.n:Nat:=37
def Z08.Vc(a:Option Nat)(b:Bool)(c:Array Value)(w:U)(R:J5->U->Prop):Prop :=
 ∀d e,ZB w 69 #[.map a,.bool b] d e ->
 ∀a b,ZB e 27 c a b ->
 ∃c:Option Nat,b.cell? d=V (.map c) /\
 ∃e,ZH b a 32 e /\
 ∃f,J2 J (Je 67 (.map c) (.agg e) J3) b=.ok f b /\
 ∃c e g h,f=(N #[.slice c e g,.bool h]) /\
 ((h=I ->
 J0 J 45 #[.int E 160] b (fun f i =>
 ((∃ch,f=T ch/\R (T ch) i) \/
 f=G (N #[]) /\
 R (G (.slice c e g)) i))) /\
 (h=J3 ->
 ∀f,ZL b f ->
 ∃b,f.cell? (d.add 1)=V (.bool b) /\
 ((b=J3 ->
 ∃d,ZH f a 32 d /\
 ∀h i,ZB f 23 #[.slice c e g] h i ->
 ZH i a 32 d /\
 J0 J 53 #[.slice (V h) 1 1] i (fun h i =>
 ((∃ch,h=T ch/\R (T ch) i) \/
 ∃j,h=G (.agg j) /\
 ZH i a 32 d /\
 ∃a,J2 J (Z0Z .neq 27 (.tmp 24) (.tmp 25) (.agg j) (.agg d)) i=.ok a i /\
 ∃d,a=(.bool d) /\
 ((d=J3 ->
 J0 J 45 #[.int E 161] i (fun a h =>
 ((∃ch,a=T ch/\R (T ch) h) \/
 a=G (N #[]) /\
 R (G (.slice c e g)) h))) /\
 (d=I ->
 R (G (.slice c e g)) i))))) /\
 (b=I ->
 R (G (.slice c e g)) f))))
theorem Z08.vc(a b c w R)(h:Z08.Vc a b c w R):J0 J 37 #[(.agg #[(.map a),(.bool b)]),(.agg c)] w R:=xt [] [.agg [.map a,.bool (.var b)],.big 32 c] Tryz.func37 ZO (by kernel_rfl) h
abbrev Z1n.n:Nat:=39
def Z1n.Vc(a:Array Value)(w:U)(R:J5->U->Prop):Prop :=
 ∀b c,ZB w 27 a b c ->
 ∀a d,ZB c 82 #[.int Y 0,.int Y 0,.int Y 0,.int Y 0,.int Y 0,.int Y 0,.int Y 0,.int Y 0,.int Y 0,.int Y 0,.int Y 0,.int Y 0,.int Y 0,.int Y 0,.int Y 0,.int Y 0,.int Y 0,.int Y 0,.int Y 0,.int Y 0,.int Y 0,.int Y 0,.int Y 0,.int Y 0,.int Y 0,.int Y 0,.int Y 0,.int Y 0,.int Y 0,.int Y 0,.int Y 0,.int Y 0,O B,.bool I] a d ->
 ∀c,ZL d c ->
 ∃d,ZH c b 32 d /\
 ∃e,ZH c b 32 e /\
 J0 J 68 #[] c (fun c f =>
 ∃g,c=G (.agg g) /\
 ZH f b 32 e /\
 ZH f b 32 d /\
 ∃b,J2 J (Z0Z .neq 27 (.tmp 4) (.tmp 5) (.agg e) (.agg g)) f=.ok b f /\
 ∃c,b=(.bool c) /\
 JP d=32 /\
 ∃b,J2 J (J4 82 (O (V a)) (.agg (setsAt (lputL #[.int Y 0,.int Y 0,.int Y 0,.int Y 0,.int Y 0,.int Y 0,.int Y 0,.int Y 0,.int Y 0,.int Y 0,.int Y 0,.int Y 0,.int Y 0,.int Y 0,.int Y 0,.int Y 0,.int Y 0,.int Y 0,.int Y 0,.int Y 0,.int Y 0,.int Y 0,.int Y 0,.int Y 0,.int Y 0,.int Y 0,.int Y 0,.int Y 0,.int Y 0,.int Y 0,.int Y 0,.int Y 0,O B,.bool I] 0 32 d) 33 [.bool c]))) f=.ok () b /\
 ∃c,ZH b a 34 c /\
 R (G (.agg c)) b)
theorem Z1n.vc(a w R)(h:Z1n.Vc a w R):J0 J 39 #[(.agg a)] w R:=xs [] [.big 32 a] Tryz.func39 ZO (by kernel_rfl) h
abbrev Z1l.n:Nat:=65
def Z1l.Vc(a:Bool)(b:Option Addr)(c d:Nat)(e:Option Addr)(f g:Nat)(w:U)(R:J5->U->Prop):Prop :=
 ∀h i,ZB w 111 #[.bool a,.slice b c d,.slice e f g] h i ->
 ∀a b,ZB i 86 #[.bool I,.slice B 0 0,.slice B 0 0,.slice B 0 0] a b ->
 ∃c d e,b.cell? (h.add 2)=V (.slice c d e) /\
 (((d:Int)=2 ->
 ∃c e f,b.cell? (h.add 2)=V (.slice c e f) /\
 ∃f,c=V f /\
 ((0:Int)<=0/\0<(e:Int)) /\
 ∃c e g,b.cell? ((f.add 0).add 1)=V (.slice c e g) /\
 J0 J 99 #[.slice c e g] b (fun c e =>
 ∃f g i j k,c=G (N #[.slice f g i,.bool j,.int E k]) /\
 ((j=J3 ->
 ∃c k l,e.cell? (h.add 2)=V (.slice c k l) /\
 ∃l,c=V l /\
 ((0:Int)<=1/\1<(k:Int)) /\
 ∃c k m,e.cell? ((l.add 3).add 1)=V (.slice c k m) /\
 Z1 e a (.bool J3)/\∀l,Z8 e a (.bool J3) l ->
 Z1 l (a.add 1) (.slice f g i)/\∀n,Z8 l (a.add 1) (.slice f g i) n ->
 Z1 n (a.add 2) (.slice B 0 0)/\∀l,Z8 n (a.add 2) (.slice B 0 0) l ->
 Z1 l (a.add 3) (.slice c k m)/\∀n,Z8 l (a.add 3) (.slice c k m) n ->
 ∃c k l m o p q r s t,n.cell? a=V (.bool c) /\
 n.cell? (a.add 1)=V (.slice k l m) /\
 n.cell? (a.add 2)=V (.slice o p q) /\
 n.cell? (a.add 3)=V (.slice r s t) /\
 R (G (.agg #[.bool c,.slice k l m,.slice o p q,.slice r s t])) n) /\
 (j=I ->
 ∃c j k,e.cell? (h.add 2)=V (.slice c j k) /\
 ∃k,c=V k /\
 ((0:Int)<=1/\1<(j:Int)) /\
 ∃c j l m n o p,e.cell? (k.add 3)=V (.bool c) /\
 e.cell? ((k.add 3).add 1)=V (.slice j l m) /\
 e.cell? ((k.add 3).add 2)=V (.slice n o p) /\
 J0 J 100 #[.agg #[.bool c,.slice j l m,.slice n o p]] e (fun c e =>
 ∃j,c=G (.agg j) /\
 JP j=34 /\
 ∀c k,ZB e 82 (lputL #[.int Y 0,.int Y 0,.int Y 0,.int Y 0,.int Y 0,.int Y 0,.int Y 0,.int Y 0,.int Y 0,.int Y 0,.int Y 0,.int Y 0,.int Y 0,.int Y 0,.int Y 0,.int Y 0,.int Y 0,.int Y 0,.int Y 0,.int Y 0,.int Y 0,.int Y 0,.int Y 0,.int Y 0,.int Y 0,.int Y 0,.int Y 0,.int Y 0,.int Y 0,.int Y 0,.int Y 0,.int Y 0,O B,.bool I] 0 34 j) c k ->
 Z1 k a (.bool I)/\∀e,Z8 k a (.bool I) e ->
 Z1 e (a.add 1) (.slice f g i)/\∀j,Z8 e (a.add 1) (.slice f g i) j ->
 Z1 j (a.add 2) (.slice (V c) 1 1)/\∀e,Z8 j (a.add 2) (.slice (V c) 1 1) e ->
 Z1 e (a.add 3) (.slice B 0 0)/\∀c,Z8 e (a.add 3) (.slice B 0 0) c ->
 ∃e f g i j k l m n o,c.cell? a=V (.bool e) /\
 c.cell? (a.add 1)=V (.slice f g i) /\
 c.cell? (a.add 2)=V (.slice j k l) /\
 c.cell? (a.add 3)=V (.slice m n o) /\
 R (G (.agg #[.bool e,.slice f g i,.slice j k l,.slice m n o])) c))))) /\
 ((d:Int)≠2 ->
 ∃c d e,b.cell? (h.add 2)=V (.slice c d e) /\
 ∃e,c=V e /\
 ((0:Int)<=16/\16<(d:Int)) /\
 ∃c d f,b.cell? ((e.add 48).add 1)=V (.slice c d f) /\
 ∀e g,ZB b 86 #[.bool I,.slice B 0 0,.slice B 0 0,.slice B 0 0] e g ->
 Z1 g e (.bool I)/\∀b,Z8 g e (.bool I) b ->
 Z1 b (e.add 1) (.slice B 0 0)/\∀g,Z8 b (e.add 1) (.slice B 0 0) g ->
 Z1 g (e.add 2) (.slice B 0 0)/\∀b,Z8 g (e.add 2) (.slice B 0 0) b ->
 Z1 b (e.add 3) (.slice c d f)/\∀g,Z8 b (e.add 3) (.slice c d f) g ->
 ∃b c d,g.cell? (h.add 2)=V (.slice b c d) /\
 16<=d /\
 ∃(c:Int->U->Prop)(d:Int->U->Nat),c 0 g /\
 (∀(f:Int)(g:Nat->Value)(g:U),c f g ->
 ((f<(16:Int) ->
 ∃h,b=V h /\
 ((0:Int)<=f/\f<(16:Int)) /\
 ∃b i j k l m n,g.cell? (h.add (f.toNat*3))=V (.bool b) /\
 g.cell? ((h.add (f.toNat*3)).add 1)=V (.slice i j k) /\
 g.cell? ((h.add (f.toNat*3)).add 2)=V (.slice l m n) /\
 ∀h o,ZB g 111 #[.bool I,.slice B 0 0,.slice B 0 0] h o ->
 Z1 o h (.bool b)/\∀p,Z8 o h (.bool b) p ->
 Z1 p (h.add 1) (.slice i j k)/\∀b,Z8 p (h.add 1) (.slice i j k) b ->
 Z1 b (h.add 2) (.slice l m n)/\∀i,Z8 b (h.add 2) (.slice l m n) i ->
 ∀b,ZL i b ->
 ∃i j k,b.cell? (e.add 2)=V (.slice i j k) /\
 ∃l m n o p q r,b.cell? h=V (.bool l) /\
 b.cell? (h.add 1)=V (.slice m n o) /\
 b.cell? (h.add 2)=V (.slice p q r) /\
 J0 J 100 #[.agg #[.bool l,.slice m n o,.slice p q r]] b (fun b h =>
 ∃l,b=G (.agg l) /\
 h.cell? (e.add 2)=V (.slice i j k) /\
 JP l=34 /\
 ∀b m,ZB h 82 (lputL #[.int Y 0,.int Y 0,.int Y 0,.int Y 0,.int Y 0,.int Y 0,.int Y 0,.int Y 0,.int Y 0,.int Y 0,.int Y 0,.int Y 0,.int Y 0,.int Y 0,.int Y 0,.int Y 0,.int Y 0,.int Y 0,.int Y 0,.int Y 0,.int Y 0,.int Y 0,.int Y 0,.int Y 0,.int Y 0,.int Y 0,.int Y 0,.int Y 0,.int Y 0,.int Y 0,.int Y 0,.int Y 0,O B,.bool I] 0 34 l) b m ->
 m.cell? (e.add 2)=V (.slice i j k) /\
 ∃h l,J2 J (builtinV .append #[84,84] 84 #[.slice i j k,.slice (V b) 1 1]) m=.ok h l /\
 ∃b i j,h=(.slice b i j) /\
 Z1 l (e.add 2) (.slice b i j)/\∀h,Z8 l (e.add 2) (.slice b i j) h ->
 c (J1 E (f+1)) h/\d (J1 E (f+1)) h<d f g)) /\
 (¬f<(16:Int) ->
 ∃b c d f h i j k l m,g.cell? e=V (.bool b) /\
 g.cell? (e.add 1)=V (.slice c d f) /\
 g.cell? (e.add 2)=V (.slice h i j) /\
 g.cell? (e.add 3)=V (.slice k l m) /\
 Z1 g a (.bool b)/\∀e,Z8 g a (.bool b) e ->
 Z1 e (a.add 1) (.slice c d f)/\∀b,Z8 e (a.add 1) (.slice c d f) b ->
 Z1 b (a.add 2) (.slice h i j)/\∀c,Z8 b (a.add 2) (.slice h i j) c ->
 Z1 c (a.add 3) (.slice k l m)/\∀b,Z8 c (a.add 3) (.slice k l m) b ->
 ∃c d e f g h i j k l,b.cell? a=V (.bool c) /\
 b.cell? (a.add 1)=V (.slice d e f) /\
 b.cell? (a.add 2)=V (.slice g h i) /\
 b.cell? (a.add 3)=V (.slice j k l) /\
 R (G (.agg #[.bool c,.slice d e f,.slice g h i,.slice j k l])) b)))))
theorem Z1l.vc(a b c d e f g w R)(h:Z1l.Vc a b c d e f g w R):J0 J 65 #[(.agg #[(.bool a),(.slice b c d),(.slice e f g)])] w R:=xs [(8,[(49,.cell (.int E))])] [.agg [.bool (.var a),.slice b c d,.slice e f g]] Tryz.func65 ZO (by kernel_rfl) h
abbrev Z1m.n:Nat:=66
def Z1m.Vc(a:Option Addr)(b c:Nat)(w:U)(R:J5->U->Prop):Prop :=
 ∀d e,ZB w 86 #[.bool I,.slice B 0 0,.slice B 0 0,.slice B 0 0] d e ->
 J0 J 101 #[.slice a b c] e (fun e f =>
 ∃g,e=G (.int E g) /\
 ((g≠0 ->
 Z1 f d (.bool I)/\∀e,Z8 f d (.bool I) e ->
 Z1 e (d.add 1) (.slice B 0 0)/\∀h,Z8 e (d.add 1) (.slice B 0 0) h ->
 Z1 h (d.add 2) (.slice B 0 0)/\∀e,Z8 h (d.add 2) (.slice B 0 0) e ->
 Z1 e (d.add 3) (.slice B 0 0)/\∀h,Z8 e (d.add 3) (.slice B 0 0) h ->
 ∃e i j k l m n o p q,h.cell? d=V (.bool e) /\
 h.cell? (d.add 1)=V (.slice i j k) /\
 h.cell? (d.add 2)=V (.slice l m n) /\
 h.cell? (d.add 3)=V (.slice o p q) /\
 R (G (N #[.agg #[.bool e,.slice i j k,.slice l m n,.slice o p q],.int E 161])) h) /\
 (g=0 ->
 J0 J 102 #[.slice a b c] f (fun a b =>
 ∃c e f g h i j k,a=G (N #[.agg #[.bool c,.slice e f g,.slice h i j],.int E k]) /\
 ∀a k,ZB b 111 #[.bool I,.slice B 0 0,.slice B 0 0] a k ->
 Z1 k a (.bool c)/\∀b,Z8 k a (.bool c) b ->
 Z1 b (a.add 1) (.slice e f g)/\∀c,Z8 b (a.add 1) (.slice e f g) c ->
 Z1 c (a.add 2) (.slice h i j)/\∀b,Z8 c (a.add 2) (.slice h i j) b ->
 ∃c e f g h i j,b.cell? a=V (.bool c) /\
 b.cell? (a.add 1)=V (.slice e f g) /\
 b.cell? (a.add 2)=V (.slice h i j) /\
 J0 J 65 #[.agg #[.bool c,.slice e f g,.slice h i j]] b (fun a b =>
 ∃c e f g h i j k l m,a=G (.agg #[.bool c,.slice e f g,.slice h i j,.slice k l m]) /\
 Z1 b d (.bool c)/\∀a,Z8 b d (.bool c) a ->
 Z1 a (d.add 1) (.slice e f g)/\∀b,Z8 a (d.add 1) (.slice e f g) b ->
 Z1 b (d.add 2) (.slice h i j)/\∀a,Z8 b (d.add 2) (.slice h i j) a ->
 Z1 a (d.add 3) (.slice k l m)/\∀b,Z8 a (d.add 3) (.slice k l m) b ->
 ∃a c e f g h i j k l,b.cell? d=V (.bool a) /\
 b.cell? (d.add 1)=V (.slice c e f) /\
 b.cell? (d.add 2)=V (.slice g h i) /\
 b.cell? (d.add 3)=V (.slice j k l) /\
 R (G (N #[.agg #[.bool a,.slice c e f,.slice g h i,.slice j k l],.int E 0])) b)))))
theorem Z1m.vc(a b c w R)(h:Z1m.Vc a b c w R):J0 J 66 #[(.slice a b c)] w R:=xs [] [.slice a b c] Tryz.func66 ZO (by kernel_rfl) h
abbrev Z1P.n:Nat:=83
def Z1P.Vc(a:Option Addr)(b c:Nat)(d:Bool)(w:U)(R:J5->U->Prop):Prop :=
 ((d=I ->
 R (G (N #[.slice B 0 0,.bool I])) w) /\
 (d=J3 ->
 J0 J 36 #[.slice a b c] w (fun a b =>
 ∃c d e,a=G (.slice c d e) /\
 R (G (N #[.slice c d e,.bool J3])) b)))
theorem Z1P.vc(a b c d w R)(h:Z1P.Vc a b c d w R):J0 J 83 #[(.slice a b c),(.bool d)] w R:=xs [] [.slice a b c,.bool (.var d)] Tryz.func83 ZO (by kernel_rfl) h
abbrev Z07.n:Nat:=67
def Z07.Vc(a:Bool)(b:Option Addr)(c d:Nat)(e:Option Addr)(f g:Nat)(h:Option Addr)(i j:Nat)(w:U)(R:J5->U->Prop):Prop :=
 ∀k l,ZB w 86 #[.bool a,.slice b c d,.slice e f g,.slice h i j] k l ->
 ∃a b c,l.cell? (k.add 2)=V (.slice a b c) /\
 R (G (.bool (decide ((b:Int)=16)))) l
theorem Z07.vc(a b c d e f g i j k w R)(h:Z07.Vc a b c d e f g i j k w R):J0 J 67 #[(.agg #[(.bool a),(.slice b c d),(.slice e f g),(.slice i j k)])] w R:=xs [] [.agg [.bool (.var a),.slice b c d,.slice e f g,.slice i j k]] Tryz.func67 ZO (by kernel_rfl) h
abbrev Z1f.n:Nat:=100
def Z1f.Vc(a:Bool)(b:Option Addr)(c d:Nat)(e:Option Addr)(f g:Nat)(w:U)(R:J5->U->Prop):Prop :=
 ∀h i,ZB w 111 #[.bool a,.slice b c d,.slice e f g] h i ->
 ∀a b,ZB i 82 #[.int Y 0,.int Y 0,.int Y 0,.int Y 0,.int Y 0,.int Y 0,.int Y 0,.int Y 0,.int Y 0,.int Y 0,.int Y 0,.int Y 0,.int Y 0,.int Y 0,.int Y 0,.int Y 0,.int Y 0,.int Y 0,.int Y 0,.int Y 0,.int Y 0,.int Y 0,.int Y 0,.int Y 0,.int Y 0,.int Y 0,.int Y 0,.int Y 0,.int Y 0,.int Y 0,.int Y 0,.int Y 0,O B,.bool I] a b ->
 ∃c,b.cell? h=V (.bool c) /\
 ((c=J3 ->
 ∃d,J2 J (J4 82 (O (V a)) (.agg (setsAt (setsAt #[.int Y 0,.int Y 0,.int Y 0,.int Y 0,.int Y 0,.int Y 0,.int Y 0,.int Y 0,.int Y 0,.int Y 0,.int Y 0,.int Y 0,.int Y 0,.int Y 0,.int Y 0,.int Y 0,.int Y 0,.int Y 0,.int Y 0,.int Y 0,.int Y 0,.int Y 0,.int Y 0,.int Y 0,.int Y 0,.int Y 0,.int Y 0,.int Y 0,.int Y 0,.int Y 0,.int Y 0,.int Y 0,O B,.bool I] 32 [O (V h)]) 33 [.bool J3]))) b=.ok () d /\
 ∃e,ZH d a 34 e /\
 R (G (.agg e)) d) /\
 (c=I ->
 ∃c d e,b.cell? (h.add 1)=V (.slice c d e) /\
 (((d:Int)=0 ->
 ∃c,J2 J (J4 82 (O (V a)) (.agg #[.int Y 0,.int Y 0,.int Y 0,.int Y 0,.int Y 0,.int Y 0,.int Y 0,.int Y 0,.int Y 0,.int Y 0,.int Y 0,.int Y 0,.int Y 0,.int Y 0,.int Y 0,.int Y 0,.int Y 0,.int Y 0,.int Y 0,.int Y 0,.int Y 0,.int Y 0,.int Y 0,.int Y 0,.int Y 0,.int Y 0,.int Y 0,.int Y 0,.int Y 0,.int Y 0,.int Y 0,.int Y 0,O B,.bool I])) b=.ok () c /\
 ∃e,ZH c a 34 e /\
 R (G (.agg e)) c) /\
 ((d:Int)≠0 ->
 ∃c d e,b.cell? (h.add 1)=V (.slice c d e) /\
 32<=d /\
 ∃d,c=V d /\
 ∃c,ZH b d 32 c /\
 JP c=32 /\
 ∃d,J2 J (J4 82 (O (V a)) (.agg (setsAt (lputL #[.int Y 0,.int Y 0,.int Y 0,.int Y 0,.int Y 0,.int Y 0,.int Y 0,.int Y 0,.int Y 0,.int Y 0,.int Y 0,.int Y 0,.int Y 0,.int Y 0,.int Y 0,.int Y 0,.int Y 0,.int Y 0,.int Y 0,.int Y 0,.int Y 0,.int Y 0,.int Y 0,.int Y 0,.int Y 0,.int Y 0,.int Y 0,.int Y 0,.int Y 0,.int Y 0,.int Y 0,.int Y 0,O B,.bool I] 0 32 c) 33 [.bool J3]))) b=.ok () d /\
 ∃b,ZH d a 34 b /\
 R (G (.agg b)) d))))
theorem Z1f.vc(a b c d e f g w R)(h:Z1f.Vc a b c d e f g w R):J0 J 100 #[(.agg #[(.bool a),(.slice b c d),(.slice e f g)])] w R:=xs [] [.agg [.bool (.var a),.slice b c d,.slice e f g]] Tryz.func100 ZO (by kernel_rfl) h
abbrev Z3R.n:Nat:=49
def Z3R.Vc(a:Array Value)(b:Option Addr)(c d:Nat)(e:Value)(w:U)(R:J5->U->Prop):Prop :=
 ∀f g,ZB w 27 a f g ->
 J0 J 43 #[.slice b c d] g (fun a b =>
 ((∃ch,a=T ch/\R (T ch) b) \/
 ∃c d g,a=G (.slice c d g) /\
 ∃a,ZH b f 32 a /\
 J0 J 39 #[.agg a] b (fun a b =>
 ((∃ch,a=T ch/\R (T ch) b) \/
 ∃f,a=G (.agg f) /\
 ∀a h,ZB b 82 #[.int Y 0,.int Y 0,.int Y 0,.int Y 0,.int Y 0,.int Y 0,.int Y 0,.int Y 0,.int Y 0,.int Y 0,.int Y 0,.int Y 0,.int Y 0,.int Y 0,.int Y 0,.int Y 0,.int Y 0,.int Y 0,.int Y 0,.int Y 0,.int Y 0,.int Y 0,.int Y 0,.int Y 0,.int Y 0,.int Y 0,.int Y 0,.int Y 0,.int Y 0,.int Y 0,.int Y 0,.int Y 0,O B,.bool I] a h ->
 ∃b,J2 J (J4 82 (O (V a)) (.agg f)) h=.ok () b /\
 ∃(f:Option Addr->Nat->Nat->Addr->U->Prop)(h:Option Addr->Nat->Nat->Addr->U->Nat),f c d g a b /\
 (∀(a:Option Addr)(b:Nat)(c:Nat)(d:Addr)(g:Nat->Value)(g:U),f a b c d g ->
 ∃i,g.cell? (d.add 33)=V (.bool i) /\
 ((i=J3 ->
 ∀j k,ZB g 86 #[.bool I,.slice B 0 0,.slice B 0 0,.slice B 0 0] j k ->
 ∃(l:U->Prop),(∃m,k.cell? (d.add 32)=V (O m) /\
 ((m≠B ->
 ∃n,k.cell? (d.add 32)=V (O n) /\
 ∃o,n=V o /\
 ∃n p q r s t u,k.cell? o=V (.bool n) /\
 k.cell? (o.add 1)=V (.slice p q r) /\
 k.cell? (o.add 2)=V (.slice s t u) /\
 J0 J 65 #[.agg #[.bool n,.slice p q r,.slice s t u]] k (fun n o =>
 ((∃ch,n=T ch/\R (T ch) o) \/
 ∃p q r s t u v x y z,n=G (.agg #[.bool p,.slice q r s,.slice t u v,.slice x y z]) /\
 Z1 o j (.bool p)/\∀n,Z8 o j (.bool p) n ->
 Z1 n (j.add 1) (.slice q r s)/\∀o,Z8 n (j.add 1) (.slice q r s) o ->
 Z1 o (j.add 2) (.slice t u v)/\∀n,Z8 o (j.add 2) (.slice t u v) n ->
 Z1 n (j.add 3) (.slice x y z)/\∀o,Z8 n (j.add 3) (.slice x y z) o ->
 l  o))) /\
 (m=B ->
 ∃m,ZH k d 32 m /\
 Z3G J e #[.agg m] k (fun e k =>
 ((∃ch,e=T ch/\R (T ch) k) \/
 ∃m n o,e=G (.slice m n o) /\
 J0 J 66 #[.slice m n o] k (fun e k =>
 ((∃ch,e=T ch/\R (T ch) k) \/
 ∃m n o p q r s t u v x,e=G (N #[.agg #[.bool m,.slice n o p,.slice q r s,.slice t u v],.int E x]) /\
 Z1 k j (.bool m)/\∀e,Z8 k j (.bool m) e ->
 Z1 e (j.add 1) (.slice n o p)/\∀k,Z8 e (j.add 1) (.slice n o p) k ->
 Z1 k (j.add 2) (.slice q r s)/\∀e,Z8 k (j.add 2) (.slice q r s) e ->
 Z1 e (j.add 3) (.slice t u v)/\∀k,Z8 e (j.add 3) (.slice t u v) k ->
 J0 J 45 #[.int E x] k (fun e k =>
 ((∃ch,e=T ch/\R (T ch) k) \/
 e=G (N #[]) /\
 l  k))))))))) /\
 (∀  (e:Nat->Value)(e:U),l  e ->
 ∃k,e.cell? j=V (.bool k) /\
 ((k=J3 ->
 ∃l m n,e.cell? (j.add 1)=V (.slice l m n) /\
 J0 J 82 #[.slice l m n,.slice a b c] e (fun l m =>
 ((∃ch,l=T ch/\R (T ch) m) \/
 ∃n,l=G (.bool n) /\
 ∃l o p,m.cell? (j.add 3)=V (.slice l o p) /\
 J0 J 83 #[.slice l o p,.bool n] m (fun l m =>
 ((∃ch,l=T ch/\R (T ch) m) \/
 ∃n o p q,l=G (N #[.slice n o p,.bool q]) /\
 R (G (N #[.slice n o p,.bool q])) m))))) /\
 (k=I ->
 ∃k l m n o p q r s t,e.cell? j=V (.bool k) /\
 e.cell? (j.add 1)=V (.slice l m n) /\
 e.cell? (j.add 2)=V (.slice o p q) /\
 e.cell? (j.add 3)=V (.slice r s t) /\
 J0 J 67 #[.agg #[.bool k,.slice l m n,.slice o p q,.slice r s t]] e (fun e k =>
 ((∃ch,e=T ch/\R (T ch) k) \/
 ∃l,e=G (.bool l) /\
 ((l=I ->
 ∃e m n,k.cell? (j.add 1)=V (.slice e m n) /\
 J0 J 84 #[.slice a b c,.slice e m n] k (fun e m =>
 ((∃ch,e=T ch/\R (T ch) m) \/
 ∃n o p q,e=G (N #[.slice n o p,.bool q]) /\
 ((q=I ->
 R (G (N #[.slice B 0 0,.bool I])) m) /\
 (q=J3 ->
 ∃e q r,m.cell? (j.add 2)=V (.slice e q r) /\
 ∃r,e=V r /\
 ((0:Int)<=0/\0<(q:Int)) /\
 ∃e,ZH m (r.add 0) 34 e /\
 ∃q,J2 J (J4 82 (O (V d)) (.agg e)) m=.ok () q /\
 ∃e,ZH q d 34 e /\
 ∀m r,ZB q 82 #[.int Y 0,.int Y 0,.int Y 0,.int Y 0,.int Y 0,.int Y 0,.int Y 0,.int Y 0,.int Y 0,.int Y 0,.int Y 0,.int Y 0,.int Y 0,.int Y 0,.int Y 0,.int Y 0,.int Y 0,.int Y 0,.int Y 0,.int Y 0,.int Y 0,.int Y 0,.int Y 0,.int Y 0,.int Y 0,.int Y 0,.int Y 0,.int Y 0,.int Y 0,.int Y 0,.int Y 0,.int Y 0,O B,.bool I] m r ->
 ∃q,J2 J (J4 82 (O (V m)) (.agg e)) r=.ok () q /\
 f n o p m q/\h n o p m q<h a b c d g))))) /\
 (l=J3 ->
 (((b:Int)=0 ->
 ∃e l m,k.cell? (j.add 3)=V (.slice e l m) /\
 ∃n o p,k.cell? (j.add 3)=V (.slice n o p) /\
 J0 J 83 #[.slice e l m,.bool (decide ((o:Int)>0))] k (fun e l =>
 ((∃ch,e=T ch/\R (T ch) l) \/
 ∃m n o p,e=G (N #[.slice m n o,.bool p]) /\
 R (G (N #[.slice m n o,.bool p])) l))) /\
 ((b:Int)≠0 ->
 ∀e,ZL k e ->
 ∃k l m,e.cell? (j.add 2)=V (.slice k l m) /\
 ∃j,a=V j /\
 ((0:Int)<=0/\0<(b:Int)) /\
 ∃m,e.cell? (j.add 0)=V (.int Y m) /\
 ∃j,k=V j /\
 ((0:Int)<=m/\m<(l:Int)) /\
 ∃k,ZH e (j.add (m.toNat*34)) 34 k /\
 1<=b /\
 ∃j,J2 J (J4 82 (O (V d)) (.agg k)) e=.ok () j /\
 ∃e,ZH j d 34 e /\
 ∀k l,ZB j 82 #[.int Y 0,.int Y 0,.int Y 0,.int Y 0,.int Y 0,.int Y 0,.int Y 0,.int Y 0,.int Y 0,.int Y 0,.int Y 0,.int Y 0,.int Y 0,.int Y 0,.int Y 0,.int Y 0,.int Y 0,.int Y 0,.int Y 0,.int Y 0,.int Y 0,.int Y 0,.int Y 0,.int Y 0,.int Y 0,.int Y 0,.int Y 0,.int Y 0,.int Y 0,.int Y 0,.int Y 0,.int Y 0,O B,.bool I] k l ->
 ∃j,J2 J (J4 82 (O (V k)) (.agg e)) l=.ok () j /\
 f (subO a c 1 1) (b-1) (c-1) k j/\h (subO a c 1 1) (b-1) (c-1) k j<h a b c d g)))))))))) /\
 (i=I ->
 R (G (N #[.slice B 0 0,.bool I])) g)))))))
theorem Z3R.vc(a b c d e w R)(h:Z3R.Vc a b c d e w R):J0 J 49 #[(.agg a),(.slice b c d),e] w R:=xt [(3,[(8,.cell (.slice)),(9,.cell (.addr))]),(1000011,[])] [.big 32 a,.slice b c d,.raw e] Tryz.func49 ZO (by kernel_rfl) h
def Z13.Vc(a b:Addr)(w:U)(R:J5->U->Prop):Prop :=
 ∃c,w.cell? a=V (.int E c) /\
 ((c≠0 ->
 Z1 w b (.slice B 0 0)/\∀a,Z8 w b (.slice B 0 0) a ->
 R (G (N #[])) a) /\
 (c=0 ->
 R (G (N #[])) w))
theorem Z13.vcd(u:JK)(a:Addr)(b:Addr)(w:U)(R:J5->U->Prop)(h:Z13.Vc a b w R):Jk J 48 #[(O (V a)),(O (V b))] u w (fun e u' w'=>u'=u/\R e w') :=
 Z49 (R:=R) (ann:=[]) (args:=[.addr a,.addr b]) Tryz.func48 ZO (Eq.mp (by kernel_rfl:Z13.Vc a b w R=Z4h (pA J ⟨R,I⟩) J [] Tryz.f48 [.addr a,.addr b] w) h)
def Z2Z.Vc(a:Array Value)(b c:Addr)(w:U)(R:J5->U->Prop):Prop :=
 ∀d e,ZB w 27 a d e ->
 ∃a:Option Nat,∃f,e.cell? b=V (.map a) /\
 e.cell? (b.add 1)=V (.bool f) /\
 ∃b,ZH e d 32 b /\
 J0 J 37 #[.agg #[.map a,.bool f],.agg b] e (fun a b =>
 ((∃ch,a=T ch/\R (T ch) b) \/
 ∃d e f,a=G (.slice d e f) /\
 ∀a,ZL b a ->
 ∃b g h,a.cell? c=V (.slice b g h) /\
 J0 J 36 #[.slice d e f] a (fun a i =>
 ((∃ch,a=T ch/\R (T ch) i) \/
 ∃j k l,a=G (.slice j k l) /\
 i.cell? c=V (.slice b g h) /\
 ∀a m,ZB i 23 #[.slice j k l] a m ->
 m.cell? c=V (.slice b g h) /\
 ∃i j,J2 J (builtinV .append #[31,31] 31 #[.slice b g h,.slice (V a) 1 1]) m=.ok i j /\
 ∃a b g,i=(.slice a b g) /\
 Z1 j c (.slice a b g)/\∀h,Z8 j c (.slice a b g) h ->
 R (G (.slice d e f)) h))))
theorem Z2Z.vc(a b c w R)(h:Z2Z.Vc a b c w R):J0 J 50 #[(.agg a),(O (V b)),(O (V c))] w R:=xt [] [.big 32 a,.addr b,.addr c] Tryz.func50 ZO (by kernel_rfl) h
def Z0p.Vc(a b c:Addr)(w:U)(R:J5->U->Prop):Prop :=
 ∃d,w.cell? a=V (.int E d) /\
 ((d≠0 ->
 Z1 w b (.slice B 0 0)/\∀a,Z8 w b (.slice B 0 0) a ->
 Z1 a c (.bool I)/\∀b,Z8 a c (.bool I) b ->
 R (G (N #[])) b) /\
 (d=0 ->
 R (G (N #[])) w))
theorem Z0p.vcd(u:JK)(a:Addr)(b:Addr)(c:Addr)(w:U)(R:J5->U->Prop)(h:Z0p.Vc a b c w R):Jk J 51 #[(O (V a)),(O (V b)),(O (V c))] u w (fun e u' w'=>u'=u/\R e w') :=
 Z49 (R:=R) (ann:=[]) (args:=[.addr a,.addr b,.addr c]) Tryz.func51 ZO (Eq.mp (by kernel_rfl:Z0p.Vc a b c w R=Z4h (pA J ⟨R,I⟩) J [] Tryz.f51 [.addr a,.addr b,.addr c] w) h)
def Z2I.Vc(a:Array Value)(b c:Addr)(w:U)(R:J5->U->Prop):Prop :=
 ∀d e,ZB w 27 a d e ->
 ∃(a:U->Prop),(∃f,e.cell? b=V (.int E f) /\
 ∃g h i,e.cell? c=V (.slice g h i) /\
 ((f=(h:Int) ->
 J0 J 45 #[.int E 160] e (fun g i =>
 ((∃ch,g=T ch/\R (T ch) i) \/
 g=G (N #[]) /\
 a  i))) /\
 (f≠(h:Int) ->
 a  e))) /\
 (∀  (e:Nat->Value)(e:U),a  e ->
 ∃a f g,e.cell? c=V (.slice a f g) /\
 ∃c,e.cell? b=V (.int E c) /\
 ∃g,a=V g /\
 ((0:Int)<=c/\c<(f:Int)) /\
 ∃a f h,e.cell? (g.add c.toNat)=V (.slice a f h) /\
 ∃c,e.cell? b=V (.int E c) /\
 Z1 e b (.int E (J1 E (c+1)))/\∀g,Z8 e b (.int E (J1 E (c+1))) g ->
 ∀b,ZL g b ->
 ∃c,ZH b d 32 c /\
 ∀e g,ZB b 23 #[.slice a f h] e g ->
 ZH g d 32 c /\
 J0 J 53 #[.slice (V e) 1 1] g (fun b e =>
 ((∃ch,b=T ch/\R (T ch) e) \/
 ∃g,b=G (.agg g) /\
 ZH e d 32 c /\
 ∃b,J2 J (Z0Z .neq 27 (.tmp 19) (.tmp 20) (.agg g) (.agg c)) e=.ok b e /\
 ∃c,b=(.bool c) /\
 ((c=J3 ->
 J0 J 45 #[.int E 163] e (fun b d =>
 ((∃ch,b=T ch/\R (T ch) d) \/
 b=G (N #[]) /\
 R (G (.slice a f h)) d))) /\
 (c=I ->
 R (G (.slice a f h)) e)))))
theorem Z2I.vc(a b c w R)(h:Z2I.Vc a b c w R):J0 J 52 #[(.agg a),(O (V b)),(O (V c))] w R:=xt [(1000003,[])] [.big 32 a,.addr b,.addr c] Tryz.func52 ZO (by kernel_rfl) h
abbrev Z1e.n:Nat:=21
def Z1e.Vc(a:Option Addr)(b c:Nat)(d:Array Value)(e:Option Addr)(f g:Nat)(w:U)(R:J5->U->Prop):Prop :=
 ∀h i,ZB w 27 d h i ->
 ∀d j,ZB i 31 #[.slice B 0 0] d j ->
 ∀i k,ZB j 40 #[.int E 0] i k ->
 J0 J 29 #[.slice a b c,.bool I] k (fun a b =>
 ((∃ch,a=T ch/\R (T ch) b) \/
 ∃c:Option Nat,∃j k,a=G (N #[.agg #[.map c,.bool j],.int E k]) /\
 ∀a l,ZB b 69 #[.map B,.bool I] a l ->
 Z1 l a (.map c)/\∀b,Z8 l a (.map c) b ->
 Z1 b (a.add 1) (.bool j)/\∀c,Z8 b (a.add 1) (.bool j) c ->
 Z1 c i (.int E k)/\∀b,Z8 c i (.int E k) b ->
 ∃c,b.cell? i=V (.int E c) /\
 ((c≠0 ->
 ∀j,ZL b j ->
 ∃k,j.cell? i=V (.int E k) /\
 Z1 j d (.slice B 0 0)/\∀l,Z8 j d (.slice B 0 0) l ->
 l.cell? i=V (.int E k) /\
 Z1 l i (.int E k)/\∀j,Z8 l i (.int E k) j ->
 ∃k l m,j.cell? d=V (.slice k l m) /\
 ∃n,j.cell? i=V (.int E n) /\
 R (G (N #[.slice k l m,.int E n])) j) /\
 (c=0 ->
 (((f:Int)>64 ->
 Z1 b d (.slice B 0 0)/\∀c,Z8 b d (.slice B 0 0) c ->
 Z1 c i (.int E 140)/\∀j,Z8 c i (.int E 140) j ->
 ∃c k l,j.cell? d=V (.slice c k l) /\
 ∃m,j.cell? i=V (.int E m) /\
 R (G (N #[.slice c k l,.int E m])) j) /\
 (¬(f:Int)>64 ->
 ∃c,ZH b h 32 c /\
 J0 J 49 #[.agg c,.slice e f g,.func (.func 50) #[] #[O (V a),O (V d)]] b (fun a b =>
 ((∃ch,a=T ch/\Z2m J (fun c =>
 ∃e f g,c.cell? d=V (.slice e f g) /\
 ∃h,c.cell? i=V (.int E h) /\
 R (G (N #[.slice e f g,.int E h])) c) R [(32,#[O (V i)]),(48,#[O (V i),O (V d)])] (J8 ch) b) \/
 ∃c e f g,a=G (N #[.slice c e f,.bool g]) /\
 ∃a c e,b.cell? d=V (.slice a c e) /\
 Z1 b d (.slice a c e)/\∀f,Z8 b d (.slice a c e) f ->
 Z1 f i (.int E 0)/\∀a,Z8 f i (.int E 0) a ->
 Z2m J (fun b =>
 ∃c e f,b.cell? d=V (.slice c e f) /\
 ∃g,b.cell? i=V (.int E g) /\
 R (G (N #[.slice c e f,.int E g])) b) R [(32,#[O (V i)]),(48,#[O (V i),O (V d)])] JC a))))))))
theorem Z1e.vc(a:Option Addr)(b:Nat)(c:Nat)(d:Array Value)(e:Option Addr)(f:Nat)(g:Nat)(w:U)(R:J5->U->Prop)(h:Z1e.Vc a b c d e f g w R):J0 J 21 #[(.slice a b c),(.agg d),(.slice e f g)] w R :=
 Z48 (ann:=[]) (args:=[.slice a b c,.big 32 d,.slice e f g]) Tryz.func21 ZO (Eq.mp (by kernel_rfl:Z1e.Vc a b c d e f g w R=ZA1 (aD J R) (ZD4 J R) J [] Tryz.f21 [.slice a b c,.big 32 d,.slice e f g] False w) h)
abbrev Z1I.n:Nat:=22
def Z1I.Vc(a:Array Value)(b:Option Addr)(c d:Nat)(e:Option Addr)(f g:Nat)(w:U)(R:J5->U->Prop):Prop :=
 ∀h i,ZB w 27 a h i ->
 ∀a j,ZB i 31 #[.slice e f g] a j ->
 ∀e f,ZB j 23 #[.slice B 0 0] e f ->
 ∀g i,ZB f 4 #[.bool I] g i ->
 ∀f j,ZB i 40 #[.int E 0] f j ->
 ∃i k l,j.cell? a=V (.slice i k l) /\
 (((k:Int)>256 ->
 Z1 j e (.slice B 0 0)/\∀i,Z8 j e (.slice B 0 0) i ->
 Z1 i g (.bool I)/\∀l,Z8 i g (.bool I) l ->
 Z1 l f (.int E 162)/\∀i,Z8 l f (.int E 162) i ->
 ∃l m n,i.cell? e=V (.slice l m n) /\
 ∃o,i.cell? g=V (.bool o) /\
 ∃p,i.cell? f=V (.int E p) /\
 R (G (N #[.slice l m n,.bool o,.int E p])) i) /\
 (¬(k:Int)>256 ->
 (((c:Int)>64 ->
 Z1 j e (.slice B 0 0)/\∀i,Z8 j e (.slice B 0 0) i ->
 Z1 i g (.bool I)/\∀k,Z8 i g (.bool I) k ->
 Z1 k f (.int E 140)/\∀i,Z8 k f (.int E 140) i ->
 ∃k l m,i.cell? e=V (.slice k l m) /\
 ∃n,i.cell? g=V (.bool n) /\
 ∃o,i.cell? f=V (.int E o) /\
 R (G (N #[.slice k l m,.bool n,.int E o])) i) /\
 (¬(c:Int)>64 ->
 ∀i k,ZB j 3 #[.int E 0] i k ->
 Z1 k i (.int E 0)/\∀j,Z8 k i (.int E 0) j ->
 ∃k,ZH j h 32 k /\
 J0 J 49 #[.agg k,.slice b c d,.func (.func 52) #[] #[O (V i),O (V a)]] j (fun b c =>
 ((∃ch,b=T ch/\Z2m J (fun d =>
 ∃h j k,d.cell? e=V (.slice h j k) /\
 ∃l,d.cell? g=V (.bool l) /\
 ∃m,d.cell? f=V (.int E m) /\
 R (G (N #[.slice h j k,.bool l,.int E m])) d) R [(32,#[O (V f)]),(51,#[O (V f),O (V e),O (V g)])] (J8 ch) c) \/
 ∃d h j k,b=G (N #[.slice d h j,.bool k]) /\
 Z1 c e (.slice d h j)/\∀b,Z8 c e (.slice d h j) b ->
 Z1 b g (.bool k)/\∀c,Z8 b g (.bool k) c ->
 ∃b,c.cell? i=V (.int E b) /\
 ∃d h i,c.cell? a=V (.slice d h i) /\
 ((b<(h:Int) ->
 J0 J 45 #[.int E 162] c (fun a d =>
 ((∃ch,a=T ch/\Z2m J (fun i =>
 ∃j k l,i.cell? e=V (.slice j k l) /\
 ∃m,i.cell? g=V (.bool m) /\
 ∃n,i.cell? f=V (.int E n) /\
 R (G (N #[.slice j k l,.bool m,.int E n])) i) R [(32,#[O (V f)]),(51,#[O (V f),O (V e),O (V g)])] (J8 ch) d) \/
 a=G (N #[]) /\
 ∀a,ZL d a ->
 ∃d i j,a.cell? e=V (.slice d i j) /\
 ∃k,a.cell? g=V (.bool k) /\
 Z1 a e (.slice d i j)/\∀l,Z8 a e (.slice d i j) l ->
 l.cell? g=V (.bool k) /\
 Z1 l g (.bool k)/\∀a,Z8 l g (.bool k) a ->
 Z1 a f (.int E 0)/\∀d,Z8 a f (.int E 0) d ->
 Z2m J (fun a =>
 ∃i j k,a.cell? e=V (.slice i j k) /\
 ∃l,a.cell? g=V (.bool l) /\
 ∃m,a.cell? f=V (.int E m) /\
 R (G (N #[.slice i j k,.bool l,.int E m])) a) R [(32,#[O (V f)]),(51,#[O (V f),O (V e),O (V g)])] JC d))) /\
 (¬b<(h:Int) ->
 ∀a,ZL c a ->
 ∃b c d,a.cell? e=V (.slice b c d) /\
 ∃h,a.cell? g=V (.bool h) /\
 Z1 a e (.slice b c d)/\∀i,Z8 a e (.slice b c d) i ->
 i.cell? g=V (.bool h) /\
 Z1 i g (.bool h)/\∀a,Z8 i g (.bool h) a ->
 Z1 a f (.int E 0)/\∀b,Z8 a f (.int E 0) b ->
 Z2m J (fun a =>
 ∃c d h,a.cell? e=V (.slice c d h) /\
 ∃i,a.cell? g=V (.bool i) /\
 ∃j,a.cell? f=V (.int E j) /\
 R (G (N #[.slice c d h,.bool i,.int E j])) a) R [(32,#[O (V f)]),(51,#[O (V f),O (V e),O (V g)])] JC b))))))))
theorem Z1I.vc(a:Array Value)(b:Option Addr)(c:Nat)(d:Nat)(e:Option Addr)(f:Nat)(g:Nat)(w:U)(R:J5->U->Prop)(h:Z1I.Vc a b c d e f g w R):J0 J 22 #[(.agg a),(.slice b c d),(.slice e f g)] w R :=
 Z48 (ann:=[]) (args:=[.big 32 a,.slice b c d,.slice e f g]) Tryz.func22 ZO (Eq.mp (by kernel_rfl:Z1I.Vc a b c d e f g w R=ZA1 (aD J R) (ZD4 J R) J [] Tryz.f22 [.big 32 a,.slice b c d,.slice e f g] False w) h)
abbrev Z27.n:Nat:=45
def Z27.Vc(a:Int)(w:U)(R:J5->U->Prop):Prop :=
 ((a≠0 ->
 R (T (ZEP (.iface 127 (.agg #[.int E a])))) w) /\
 (a=0 ->
 R (G (N #[])) w))
theorem Z27.vc(a w R)(h:Z27.Vc a w R):J0 J 45 #[(.int E a)] w R:=xt [] [.int E a] Tryz.func45 ZO (by kernel_rfl) h
abbrev Zw.n:Nat:=6
def Zw.Vc  (w:U)(R:J5->U->Prop):Prop :=
 ∀a b,ZB w 5 #[.int Y 97] a b ->
 ∃c d,J2 J (JA 23 23 (.slice (V a) 1 1)) b=.ok c d /\
 ∃a b e,c=(.slice a b e) /\
 ∀c f,ZB d 5 #[.int Y 49] c f ->
 ∃d g,J2 J (JA 23 23 (.slice (V c) 1 1)) f=.ok d g /\
 ∃c f h,d=(.slice c f h) /\
 ∀d i,ZB g 53 #[.slice a b e,.slice c f h] d i ->
 J0 J 8 #[.slice (V d) 1 1] i (fun a b =>
 ∃c d e f,a=G (N #[.agg c,.slice d e f]) /\
 ∀a g,ZB b 27 (JZ 32 (.int Y 0)) a g ->
 ∃b,J2 J (J4 27 (O (V a)) (.agg c)) g=.ok () b /\
 ∀c,ZL b c ->
 ∃b,ZH c a 32 b /\
 ((J0 J 10 #[.slice d e f] c (fun g h =>
 ∃i j k,g=G (.slice i j k) /\
 ZH h a 32 b /\
 ∀g l,ZB h 5 #[.int Y 97] g l ->
 ZH l a 32 b /\
 ∃h m,J2 J (JA 23 23 (.slice (V g) 1 1)) l=.ok h m /\
 ∃g l n,h=(.slice g l n) /\
 ZH m a 32 b /\
 J0 J 21 #[.slice i j k,.agg b,.slice g l n] m (fun g h =>
 ∃i j k l,g=G (N #[.slice i j k,.int E l]) /\
 ∃g,ZH h a 32 g /\
 ∀m n,ZB h 5 #[.int Y 97] m n ->
 ∃h o,J2 J (JA 23 23 (.slice (V m) 1 1)) n=.ok h o /\
 ∃m n p,h=(.slice m n p) /\
 J0 J 22 #[.agg g,.slice m n p,.slice i j k] o (fun g h =>
 ∃m n o p q,g=G (N #[.slice m n o,.bool p,.int E q]) /\
 ∃g,ZH h a 32 g /\
 ∀r s,ZB h 5 #[.int Y 98] r s ->
 ∃h t,J2 J (JA 23 23 (.slice (V r) 1 1)) s=.ok h t /\
 ∃r s u,h=(.slice r s u) /\
 J0 J 22 #[.agg g,.slice r s u,.slice i j k] t (fun g h =>
 ∃i k r s t,g=G (N #[.slice i k r,.bool s,.int E t]) /\
 ((l=0 ->
 ((q=0 ->
 ((t=0 ->
 ((p=J3 ->
 ((s=I ->
 (((j:Int)=1 ->
 ∃g,J2 J (JA 23 9 (.slice m n o)) h=.ok g h /\
 ∃i,g=(Jn i) /\
 R (G (.bool (Z9V .eql i ⟨#[49]⟩))) h) /\
 ((j:Int)≠1 ->
 R (G (.bool I)) h))) /\
 (s=J3 ->
 R (G (.bool I)) h))) /\
 (p=I ->
 R (G (.bool I)) h))) /\
 (t≠0 ->
 R (G (.bool I)) h))) /\
 (q≠0 ->
 R (G (.bool I)) h))) /\
 (l≠0 ->
 R (G (.bool I)) h))))))) /\
 (∀g h,ZB c 5 #[.int Y 97] g h ->
 ZH h a 32 b /\
 ((J0 J 10 #[.slice d e f] h (fun c i =>
 ∃j k l,c=G (.slice j k l) /\
 ZH i a 32 b /\
 ∃c m,J2 J (JA 23 23 (.slice (V g) 1 1)) i=.ok c m /\
 ∃i n o,c=(.slice i n o) /\
 ZH m a 32 b /\
 J0 J 21 #[.slice j k l,.agg b,.slice i n o] m (fun c i =>
 ∃j k l m,c=G (N #[.slice j k l,.int E m]) /\
 ∃c,ZH i a 32 c /\
 ∀n o,ZB i 5 #[.int Y 97] n o ->
 ∃i p,J2 J (JA 23 23 (.slice (V n) 1 1)) o=.ok i p /\
 ∃n o q,i=(.slice n o q) /\
 J0 J 22 #[.agg c,.slice n o q,.slice j k l] p (fun c i =>
 ∃n o p q r,c=G (N #[.slice n o p,.bool q,.int E r]) /\
 ∃c,ZH i a 32 c /\
 ∀s t,ZB i 5 #[.int Y 98] s t ->
 ∃i u,J2 J (JA 23 23 (.slice (V s) 1 1)) t=.ok i u /\
 ∃s t v,i=(.slice s t v) /\
 J0 J 22 #[.agg c,.slice s t v,.slice j k l] u (fun c i =>
 ∃j l s t u,c=G (N #[.slice j l s,.bool t,.int E u]) /\
 ((m=0 ->
 ((r=0 ->
 ((u=0 ->
 ((q=J3 ->
 ((t=I ->
 (((k:Int)=1 ->
 ∃c,J2 J (JA 23 9 (.slice n o p)) i=.ok c i /\
 ∃j,c=(Jn j) /\
 R (G (.bool (Z9V .eql j ⟨#[49]⟩))) i) /\
 ((k:Int)≠1 ->
 R (G (.bool I)) i))) /\
 (t=J3 ->
 R (G (.bool I)) i))) /\
 (q=I ->
 R (G (.bool I)) i))) /\
 (u≠0 ->
 R (G (.bool I)) i))) /\
 (r≠0 ->
 R (G (.bool I)) i))) /\
 (m≠0 ->
 R (G (.bool I)) i))))))) /\
 (∃c i,J2 J (JA 23 23 (.slice (V g) 1 1)) h=.ok c i /\
 ∃g h j,c=(.slice g h j) /\
 ZH i a 32 b /\
 J0 J 10 #[.slice d e f] i (fun c d =>
 ∃e f i,c=G (.slice e f i) /\
 ZH d a 32 b /\
 J0 J 21 #[.slice e f i,.agg b,.slice g h j] d (fun b c =>
 ∃d e f g,b=G (N #[.slice d e f,.int E g]) /\
 ∃b,ZH c a 32 b /\
 ∀h i,ZB c 5 #[.int Y 97] h i ->
 ∃c j,J2 J (JA 23 23 (.slice (V h) 1 1)) i=.ok c j /\
 ∃h i k,c=(.slice h i k) /\
 J0 J 22 #[.agg b,.slice h i k,.slice d e f] j (fun b c =>
 ∃h i j k l,b=G (N #[.slice h i j,.bool k,.int E l]) /\
 ∃b,ZH c a 32 b /\
 ∀a m,ZB c 5 #[.int Y 98] a m ->
 ∃c n,J2 J (JA 23 23 (.slice (V a) 1 1)) m=.ok c n /\
 ∃a m o,c=(.slice a m o) /\
 J0 J 22 #[.agg b,.slice a m o,.slice d e f] n (fun a b =>
 ∃c d f m n,a=G (N #[.slice c d f,.bool m,.int E n]) /\
 ((g=0 ->
 ((l=0 ->
 ((n=0 ->
 ((k=J3 ->
 ((m=I ->
 (((e:Int)=1 ->
 ∃a,J2 J (JA 23 9 (.slice h i j)) b=.ok a b /\
 ∃c,a=(Jn c) /\
 R (G (.bool (Z9V .eql c ⟨#[49]⟩))) b) /\
 ((e:Int)≠1 ->
 R (G (.bool I)) b))) /\
 (m=J3 ->
 R (G (.bool I)) b))) /\
 (k=I ->
 R (G (.bool I)) b))) /\
 (n≠0 ->
 R (G (.bool I)) b))) /\
 (l≠0 ->
 R (G (.bool I)) b))) /\
 (g≠0 ->
 R (G (.bool I)) b)))))))))))
theorem Zw.vc  (w:U)(R:J5->U->Prop)(h:Zw.Vc w R):J0 J 6 #[] w R :=
 Z0z (R:=⟨R,I⟩) (ann:=[]) (args:=[]) Tryz.func6 ZO (Eq.mp (by kernel_rfl:Zw.Vc w R=Z4h (pA J ⟨R,I⟩) J [] Tryz.f6 [] w) h)
abbrev Z0e.n:Nat:=7
def Z0e.Vc(a:Option Addr)(b c:Nat)(w:U)(R:J5->U->Prop):Prop :=
 (((b:Int)>40 ->
 R (G (.bool I)) w) /\
 (¬(b:Int)>40 ->
 ∃(c:Int->U->Prop)(d:Int->U->Nat),c 0 w /\
 (∀(e:Int)(f:Nat->Value)(f:U),c e f ->
 ((e<(b:Int) ->
 ∀g,ZL f g ->
 ∃h,a=V h /\
 ((0:Int)<=e/\e<(b:Int)) /\
 ∃i j k,g.cell? (h.add (e.toNat*2))=V (.slice i j k) /\
 (((j:Int)>64 ->
 R (G (.bool I)) g) /\
 (¬(j:Int)>64 ->
 ∃h,a=V h /\
 ((0:Int)<=e/\e<(b:Int)) /\
 ∃i j k,g.cell? ((h.add (e.toNat*2)).add 1)=V (.slice i j k) /\
 (((j:Int)<1 ->
 R (G (.bool I)) g) /\
 (¬(j:Int)<1 ->
 ∃h,a=V h /\
 ((0:Int)<=e/\e<(b:Int)) /\
 ∃i j k,g.cell? ((h.add (e.toNat*2)).add 1)=V (.slice i j k) /\
 (((j:Int)>300 ->
 R (G (.bool I)) g) /\
 (¬(j:Int)>300 ->
 ((e>0 ->
 ∃h,a=V h /\
 ((0:Int)<=(J1 E (e-1))/\(J1 E (e-1))<(b:Int)) /\
 ∃i j k,g.cell? (h.add ((Int.toNat (J1 E (e-1)))*2))=V (.slice i j k) /\
 ∃h,a=V h /\
 ((0:Int)<=e/\e<(b:Int)) /\
 ∃a l m,g.cell? (h.add (e.toNat*2))=V (.slice a l m) /\
 J0 J 23 #[.slice i j k,.slice a l m] g (fun a h =>
 ∃i,a=G (.int E i) /\
 ((i>=0 ->
 R (G (.bool I)) h) /\
 (¬i>=0 ->
 c (J1 E (e+1)) h/\d (J1 E (e+1)) h<d e f)))) /\
 (¬e>0 ->
 c (J1 E (e+1)) g/\d (J1 E (e+1)) g<d e f))))))))) /\
 (¬e<(b:Int) ->
 R (G (.bool J3)) f)))))
theorem Z0e.vc(a b c w R)(h:Z0e.Vc a b c w R):J0 J 7 #[(.slice a b c)] w R:=xs [(4,[(3,.cell (.int E))])] [.slice a b c] Tryz.func7 ZO (by kernel_rfl) h
abbrev Z03.n:Nat:=14
def Z03.Vc(a:Option Addr)(b c:Nat)(d:Int)(e:Option Addr)(f g:Nat)(w:U)(R:J5->U->Prop):Prop :=
 ((d<0 ->
 R (G (.slice a b c)) w) /\
 (¬d<0 ->
 ((d>=(b:Int) ->
 R (G (.slice a b c)) w) /\
 (¬d>=(b:Int) ->
 ∃h i,J2 J (builtinV .append #[34,34] 34 #[.slice B 0 0,.slice a b c]) w=.ok h i /\
 ∃a b c,h=(.slice a b c) /\
 (((f:Int)=0 ->
 ∀h,ZL i h ->
 ∃j,J2 J (Instr.sliceAt 34 (.slice a b c) B (V (.int E d)) (V (.int E d))) h=.ok j h /\
 ∃k l m,j=(.slice k l m) /\
 ((0:Int)<=(J1 E (d+1))/\(J1 E (d+1))<=(b:Int)) /\
 ∃j n,J2 J (builtinV .append #[34,34] 34 #[.slice k l m,.slice (subO a c (Int.toNat (J1 E (d+1))) 33) (b-(Int.toNat (J1 E (d+1)))) (c-(Int.toNat (J1 E (d+1))))]) h=.ok j n /\
 ∃h k l,j=(.slice h k l) /\
 R (G (.slice h k l)) n) /\
 ((f:Int)≠0 ->
 ∃h,a=V h /\
 ((0:Int)<=d/\d<(b:Int)) /\
 Z1 i ((h.add (d.toNat*33)).add 32) (.slice e f g)/\∀j,Z8 i ((h.add (d.toNat*33)).add 32) (.slice e f g) j ->
 R (G (.slice a b c)) j))))))
theorem Z03.vc(a b c d e f g w R)(h:Z03.Vc a b c d e f g w R):J0 J 14 #[(.slice a b c),(.int E d),(.slice e f g)] w R:=xs [] [.slice a b c,.int E d,.slice e f g] Tryz.func14 ZO (by kernel_rfl) h
end Go.Proofs.YtfghidehlnfdiaaGreat
end
section
namespace Go.Proofs.YtfghidehlnfdiaaGreat
open Go Go.Vcg Go.Trie
section
variable{D:Nat}{t:Jm}{w:U}
theorem ZGv{a b c d v1 v2 v3 v4:Value}{R':U->Prop}(X:Blk w D t #[a,b,c,d])(h1:v1.oneCell'=J3)(h2:v2.oneCell'=J3)(h3:v3.oneCell'=J3)(h4:v4.oneCell'=J3)(K:∀w',Blk w' D t #[v1,v2,v3,v4]->Vcg.Mod (·=D) w w'->R' w') :
  Z1 w ⟨D,0,B⟩ v1/\∀w1:U,Z8 w ⟨D,0,B⟩ v1 w1->Z1 w1 (JE ⟨D,0,B⟩ 1) v2/\∀w2:U,Z8 w1 (JE ⟨D,0,B⟩ 1) v2 w2->Z1 w2 (JE ⟨D,0,B⟩ 2) v3/\∀w3:U,Z8 w2 (JE ⟨D,0,B⟩ 2) v3 w3 ->
   Z1 w3 (JE ⟨D,0,B⟩ 3) v4/\∀w4:U,Z8 w3 (JE ⟨D,0,B⟩ 3) v4 w4->R' w4:=by
 refine⟨X.canSet (by simp) h1,?_⟩;rintro _ rfl;have X1:=X.set 0 v1;have Q1:Vcg.Mod (·=D) w _:=Mod.setCell w ⟨D,0,B⟩ v1;rw[Z6,JR];refine⟨X1.canSet (by simp) h2,?_⟩;rintro _ rfl;have X2:=X1.set 1 v2;have Q2:=Q1.step_set (a:=⟨D,1,B⟩) (v:=v2) (fun _=>rfl);rw[Z6,JR];refine⟨X2.canSet (by simp) h3,?_⟩;rintro _ rfl;have X3:=X2.set 2 v3;have Q3:=Q2.step_set (a:=⟨D,2,B⟩) (v:=v3) (fun _=>rfl);rw[Z6,JR];refine⟨X3.canSet (by simp) h4,?_⟩;rintro _ rfl;have X4:=X3.set 3 v4;have Q4:=Q3.step_set (a:=⟨D,3,B⟩) (v:=v4) (fun _=>rfl);exact K _ X4 Q4
theorem get4{b:Bool}{o1 o2 o3:Option Addr}{l1 k1 l2 k2 l3 k3:Nat}{R':Bool->Option Addr->Nat->Nat->Option Addr->Nat->Nat->Option Addr->Nat->Nat->Prop}(X:Blk w D t #[.bool b,.slice o1 l1 k1,.slice o2 l2 k2,.slice o3 l3 k3])(h:R' b o1 l1 k1 o2 l2 k2 o3 l3 k3) :
  ∃b65:Bool,∃o66:Option Addr,∃l67:Nat,∃l68:Nat,∃o69:Option Addr,∃l70:Nat,∃l71:Nat,∃o72:Option Addr,∃l73:Nat,∃l74:Nat,World.cell? w ⟨D,0,B⟩=V (.bool b65) /\
   World.cell? w (JE ⟨D,0,B⟩ 1)=V (.slice o66 l67 l68)/\World.cell? w (JE ⟨D,0,B⟩ 2)=V (.slice o69 l70 l71)/\World.cell? w (JE ⟨D,0,B⟩ 3)=V (.slice o72 l73 l74)/\R' b65 o66 l67 l68 o69 l70 l71 o72 l73 l74 :=
 ⟨_,_,_,_,_,_,_,_,_,_,X.rd1 rfl,by rw[Z6];exact X.rd1 rfl,by rw[Z6];exact X.rd1 rfl,by rw[Z6];exact X.rd1 rfl,h⟩
end
abbrev ZFA:Jm:=82
abbrev ZHa:Jm:=84
theorem ZAg:Tryz.prog.underlying ZHa=V (.slice ZFA):=by kernel_rfl
def zeros32:List Value:=List.replicate 32 (.int Y 0)
def rfA(h:List Value)(p:Option Addr)(b:Bool):Array Value:=(h++[O p,Value.bool b]).toArray
theorem Z0a{h:List Value}(hh:h.length=32)(p:Option Addr)(b:Bool):(rfA h p b).size=34:=by simp[rfA,hh]
theorem ZFJ:(Tryz.prog.info? ZFA).map (fun i=>(i.zero,i.size,i.bytes))=V (V (.agg (rfA zeros32 B I)),34,48):=by kernel_rfl
theorem ZFf:(Tryz.prog.info? ZFA).map (·.size)=V 34:=by kernel_rfl
theorem Z5C{h:List Value}(hh:∀v∈h,v.oneCell'=J3)(p:Option Addr)(b:Bool):∀v∈(rfA h p b).toList,v.oneCell'=J3:=by
 intro v hv;simp only[rfA,JY,Jc,JV,or_false]at hv;rcases hv with hv|rfl|rfl
 ·exact hh v hv
 ·rfl
 ·rfl
theorem Z5s:∀v∈zeros32,v.oneCell'=J3:=fun v hv=>by rw[List.eq_of_mem_replicate hv];rfl
theorem ZCZ{h:List Value}(hh:h.length=32){p:Option Addr}{b:Bool}{i:Nat}(hi:i<32):(rfA h p b)[i]?=h[i]?:=by
 unfold rfA;rw[JB,List.getElem?_append_left (by omega)]
theorem Z4q{h:List Value}(hh:h.length=32){p:Option Addr}{b:Bool}:(rfA h p b)[32]?=V (O p):=by
 unfold rfA;rw[JB,JG (by omega),hh];rfl
theorem Z7f{h:List Value}(hh:h.length=32){p:Option Addr}{b:Bool}:(rfA h p b)[33]?=V (.bool b):=by
 unfold rfA;rw[JB,JG (by omega),hh];rfl
theorem ZAH{n:Nat}{Z L:Array Value}(hZ:Z.size=n)(hL:L.size=n):lputL Z 0 n L=L:=by
 unfold lputL;have ht:L.toList.take n=L.toList:=JM (by simp[hL]);rw[ht];apply JQ;intro i;rw[Zq _ _ _ _ (by simp[hL,hZ])];by_cases hi:i<n
 ·rw[if_pos ⟨Jj _,by simp[hL];exact hi⟩,Jf,Array.getElem?_toList]
 ·rw[if_neg (by simp[hL];omega),J7 (by omega),J7 (by omega)]
theorem ZCa{Z H:Array Value}{p:Option Addr}{b0:Bool}(hZ:Z=rfA zeros32 p b0)(hH:H.size=32)(b:Bool):setsAt (lputL Z 0 32 H) 33 [.bool b]=rfA H.toList p b:=by
 have hl:H.toList.length=32:=by simp[hH]
 have hzs:Z.size=34:=by rw[hZ];exact Z0a rfl _ _
 have ht:H.toList.take 32=H.toList:=JM (by omega);have e1:lputL Z 0 32 H=setsAt Z 0 H.toList:=by unfold lputL;rw[ht]
 have hs1:(setsAt Z 0 H.toList).size=34:=by rw[ZX,hzs]
 rw[e1];apply JQ;intro i;rw[Zq _ _ _ _ (by rw[hs1];simp)];by_cases h33:i=33
 ·subst h33
  rw[if_pos (by simp),Z7f hl];rfl
 ·rw[if_neg (by simp;omega),Zq _ _ _ _ (by rw[hzs,hl];omega)]
  by_cases hi:i<32
  ·rw[if_pos ⟨Jj _,by rw[hl];omega⟩,Jf,ZCZ hl hi]
  ·rw[if_neg (by rw[hl];omega),hZ]
   by_cases h32:i=32
   ·subst h32;rw[Z4q hl];exact Z4q rfl
   ·rw[J7 (by rw[Z0a rfl];omega),J7 (by rw[Z0a hl];omega)]
theorem ZEc{H:Array Value}(hH:H.size=32)(b:Bool):setsAt (lputL #[(.int Y 0),(.int Y 0),(.int Y 0),(.int Y 0),(.int Y 0),(.int Y 0),(.int Y 0),(.int Y 0),(.int Y 0),(.int Y 0),(.int Y 0),(.int Y 0),(.int Y 0),(.int Y 0),(.int Y 0),(.int Y 0),(.int Y 0),(.int Y 0),(.int Y 0),(.int Y 0),(.int Y 0),(.int Y 0),(.int Y 0),(.int Y 0),(.int Y 0),(.int Y 0),(.int Y 0),(.int Y 0),(.int Y 0),(.int Y 0),(.int Y 0),(.int Y 0),(O B),(.bool I)] 0 32 H) 33 [.bool b]=rfA H.toList B b:=ZCa (p:=B) (b0:=I) rfl hH b
theorem Z7b(w:U):w.alloc (JO #[(.int Y 0),(.int Y 0),(.int Y 0),(.int Y 0),(.int Y 0),(.int Y 0),(.int Y 0),(.int Y 0),(.int Y 0),(.int Y 0),(.int Y 0),(.int Y 0),(.int Y 0),(.int Y 0),(.int Y 0),(.int Y 0),(.int Y 0),(.int Y 0),(.int Y 0),(.int Y 0),(.int Y 0),(.int Y 0),(.int Y 0),(.int Y 0),(.int Y 0),(.int Y 0),(.int Y 0),(.int Y 0),(.int Y 0),(.int Y 0),(.int Y 0),(.int Y 0),(O B),(.bool I)] 82)=w.alloc (JO (rfA zeros32 B I) 82):=rfl
section
variable{A:Nat->Prop}{w w':U}
def RdA(A:Nat->Prop)(w:U)(o:Option Addr)(b:By):Prop:=RdB w o b/\(b≠[]->∀d,o=V d->¬A d.block)
theorem RdA.modA{S:Nat->Prop}{o:Option Addr}{b:By}(h:RdA A w o b)(M:Vcg.Mod S w w')(hS:∀b,S b->A b):RdA A w' o b:=by
 refine⟨fun hne=>?_,h.2⟩;obtain⟨g,f,ho,hg,hc⟩:=h.1 hne;exact⟨g,f,ho,Nat.lt_of_lt_of_le hg M.size,fun i hi=>(ZU M hg (fun hh=>h.2 hne _ ho (hS _ hh))).trans (hc i hi)⟩
theorem RdA.mod'{o:Option Addr}{b:By}(h:RdA A w o b)(M:Vcg.Mod NoB w w'):RdA A w' o b:=h.modA M (fun _ h=>h.elim)
theorem RdA.mono{A':Nat->Prop}{o:Option Addr}{b:By}(h:RdA A w o b)(hA:∀b,b<w.heap.size->A' b->A b):RdA A' w o b :=
 ⟨h.1,fun hne d hd hh=>by
  obtain⟨g,f,ho,hg,_⟩:=h.1 hne;rw[ho]at hd;cases hd;exact h.2 hne _ ho (hA _ hg hh)⟩
theorem ItC.restr{A':Nat->Prop}(hA:∀b,b<w.heap.size->A' b->A b){x:It}{v1 v2 v3:Value}(h:ItC A w x v1 v2 v3):ItC A' w x v1 v2 v3 :=
 ItC.mono (fun b hb=>(Jg b w.heap.size).imp (fun h=>hA b h hb) id) _ (ItC.old _ h)
theorem Z1X.restr{A':Nat->Prop}(hA:∀b,b<w.heap.size->A' b->A b){xs:List It}{o:Option Addr}{k:Nat}(h:Z1X A w xs o k):Z1X A' w xs o k :=
 Z1X.mono (fun b hb=>(Jg b w.heap.size).imp (fun h=>hA b h hb) id) _ (Z1X.old _ h)
def RfC(A:Nat->Prop)(w:U):It->Array Value->Prop
 | .s b,L=>(b=[]/\∃h:List Value,h.length=32/\(∀v∈h,v.oneCell'=J3)/\L=rfA h B I)\/(b.length=32/\L=rfA (hashA b).toList B J3)
 | .l xs,L=>∃D v1 v2 v3,L=rfA zeros32 (V ⟨D,0,B⟩) J3/\¬A D/\Blk w D 111 #[v1,v2,v3]/\ItC A w (.l xs) v1 v2 v3
theorem RfC.modA{S:Nat->Prop}{x:It}{L:Array Value}(h:RfC A w x L)(M:Vcg.Mod S w w')(hS:∀b,S b->A b):RfC A w' x L:=by
 cases x with
 |s b=>exact h
 |l xs =>
  obtain⟨D,v1,v2,v3,h1,h2,h3,h4⟩:=h;exact⟨D,v1,v2,v3,h1,h2,h3.mod M (fun h=>h2 (hS _ h)),ItC.modA M hS _ h4⟩
theorem RfC.mod'{x:It}{L:Array Value}(h:RfC A w x L)(M:Vcg.Mod NoB w w'):RfC A w' x L:=h.modA M (fun _ h=>h.elim)
theorem RfC.restr{A':Nat->Prop}(hA:∀b,b<w.heap.size->A' b->A b){x:It}{L:Array Value}(h:RfC A w x L):RfC A' w x L:=by
 cases x with
 |s b=>exact h
 |l xs =>
  obtain⟨D,v1,v2,v3,h1,h2,h3,h4⟩:=h;exact⟨D,v1,v2,v3,h1,fun hh=>h2 (hA D h3.lt hh),h3,ItC.restr hA h4⟩
theorem RfC.size{x:It}{L:Array Value}(h:RfC A w x L):L.size=34:=by
 cases x with
 |s b =>
  rcases h with⟨_,h,hh,_,rfl⟩|⟨_,rfl⟩
  ·exact Z0a hh _ _
  ·exact Z0a (Z0n _) _ _
 |l xs=>obtain⟨D,v1,v2,v3,rfl,_⟩:=h;exact Z0a rfl _ _
theorem RfC.one{x:It}{L:Array Value}(h:RfC A w x L):∀v∈L.toList,v.oneCell'=J3:=by
 cases x with
 |s b =>
  rcases h with⟨_,h,_,hh,rfl⟩|⟨_,rfl⟩
  ·exact Z5C hh _ _
  ·exact Z5C (Z2M _) _ _
 |l xs=>obtain⟨D,v1,v2,v3,rfl,_⟩:=h;exact Z5C Z5s _ _
theorem Z3S{D:Nat}{t:Jm}{cs L:Array Value}{x:It}{A:Nat->Prop}{w w0:U}(H:Blk w D t cs)(hs:cs.size=34)(hL:L.size=34)(h1:∀v∈L.toList,v.oneCell'=J3) :
  ∃w',J2 J (J4 ZFA (O (V ⟨D,0,B⟩)) (.agg L)) w=.ok () w'/\Blk w' D t L/\Vcg.Mod (·=D) w w' :=
 ⟨_,H.storeAll (by rw[hL];exact ZFf) (by omega) h1,H.row_same L,Mod.setRow w D L⟩
theorem ZEY{x:It}{v1 v2 v3:Value}(hg:∀b,x=.s b->b=[]\/b.length=32)(hA:∀b,w.heap.size<=b->¬A b)(hx:ItC A w x v1 v2 v3) :
  J0 J Z1f.n #[.agg #[v1,v2,v3]] w (fun e w'=>∃L,e=G (.agg L)/\Vcg.Mod NoB w w'/\RfC A w' x L):=by
 obtain⟨b,o1,l1,c1,o2,l2,c2,rfl,rfl,rfl⟩:=hx.vals;refine Z1f.vc _ _ _ _ _ _ _ _ _ ?_;unfold Z1f.Vc;rintro d3 w1⟨rfl,rfl⟩;have M1:=Mod.alloc (S:=NoB) w (JO #[.bool b,.slice o1 l1 c1,.slice o2 l2 c2] 111);have X1:=Blk.new w 111 #[.bool b,.slice o1 l1 c1,.slice o2 l2 c2];have hAD:=hA _ (JD w.heap.size);have hx1:=ItC.mod M1 _ hx;have hs1:=ZC w (JO #[.bool b,.slice o1 l1 c1,.slice o2 l2 c2] 111);generalize w.heap.size=D at *
 generalize w.alloc (JO #[.bool b,.slice o1 l1 c1,.slice o2 l2 c2] 111)=w1 at *
 rintro d5 w2⟨rfl,rfl⟩;have M2:=Mod.alloc (S:=NoB) w1 (JO (rfA zeros32 B I) 82);have H2:=Blk.new w1 82 (rfA zeros32 B I);have hgen:w1.alloc (JO #[(.int Y 0),(.int Y 0),(.int Y 0),(.int Y 0),(.int Y 0),(.int Y 0),(.int Y 0),(.int Y 0),(.int Y 0),(.int Y 0),(.int Y 0),(.int Y 0),(.int Y 0),(.int Y 0),(.int Y 0),(.int Y 0),(.int Y 0),(.int Y 0),(.int Y 0),(.int Y 0),(.int Y 0),(.int Y 0),(.int Y 0),(.int Y 0),(.int Y 0),(.int Y 0),(.int Y 0),(.int Y 0),(.int Y 0),(.int Y 0),(.int Y 0),(.int Y 0),(O B),(.bool I)] 82)=w1.alloc (JO (rfA zeros32 B I) 82):=rfl;rw[hgen];have X2:=X1.mod' M2;have hx2:=ItC.mod M2 _ hx1;have M02:=M1.none_trans M2;generalize hH:w1.heap.size=H at *
 generalize w1.alloc (JO (rfA zeros32 B I) 82)=w2 at *
 have hz:(rfA zeros32 B I).size=34:=Z0a rfl _ _;cases x with
 |l xs =>
  have hx2':=hx2;simp only[ItC]at hx2;obtain⟨h1,h2,o,c,h3,h4,hcap⟩:=hx2;cases h1;cases h2;cases h3;obtain⟨w3,hr3,H3,Q3⟩:=Z3S (x:=.l xs) (A:=A) (w0:=w) H2 hz (Z0a (h:=zeros32) rfl (V ⟨D,0,B⟩) J3) (Z5C Z5s _ _);have M23:Vcg.Mod NoB w1 w3:=ZK M2 Q3 (by omega);have X3:=X2.mod Q3 (by omega);refine⟨_,X2.rd1 rfl,fun _=>⟨w3,hr3,_,H3.rowAll (Z0a rfl _ _),_,rfl,M1.none_trans M23,D,_,_,_,rfl,hAD,X3,?_⟩,fun h=>(by cases h)⟩;exact ItC.mod M23 _ hx1
 |s bs =>
  have hx2':=hx2;simp only[ItC]at hx2;obtain⟨h1,⟨o,c,h2,h3,h4⟩,h5⟩:=hx2;cases h1;cases h2;cases h5;refine⟨_,X2.rd1 rfl,fun h=>(by cases h),fun _=>⟨_,_,_,by rw[Z6];exact X2.rd1 rfl,fun h0=>?_,fun h0=>?_⟩⟩
  ·have hb:bs=[]:=List.eq_nil_of_length_eq_zero (by omega)
   obtain⟨w3,hr3,H3,Q3⟩:=Z3S (x:=.s bs) (A:=A) (w0:=w) H2 hz (Z0a (h:=zeros32) rfl B I) (Z5C Z5s _ _);exact⟨w3,hr3,_,H3.rowAll (Z0a rfl _ _),_,rfl,M1.none_trans (ZK M2 Q3 (by omega)),.inl ⟨hb,zeros32,rfl,Z5s,rfl⟩⟩
  ·have hb:bs.length=32:=(hg bs rfl).resolve_left (by rintro rfl;simp at h0)
   obtain⟨g,f0,rfl,hgl,hc⟩:=h3 (by rintro rfl;simp at h0);obtain⟨w3,hr3,H3,Q3⟩:=Z3S (x:=.s bs) (A:=A) (w0:=w) H2 hz (Z0a (h:=(hashA bs).toList) (Z0n _) B J3) (Z5C (Z2M _) _ _);refine⟨_,_,_,by rw[Z6];exact X2.rd1 rfl,by omega,_,rfl,hashA bs,⟨ZA bs,fun i hi=>?_⟩,ZA bs,w3,?_,_,H3.rowAll (Z0a (Z0n _) _ _),_,rfl,M1.none_trans (ZK M2 Q3 (by omega)),.inr ⟨hb,rfl⟩⟩
   ·rw[Z6,hc i (by omega)]
    simp only[hashA];exact(ZE (f:=fun i=>bV (bs.getD i 0)) hi).symm
   ·rw[ZCa (Z:=#[(.int Y 0),(.int Y 0),(.int Y 0),(.int Y 0),(.int Y 0),(.int Y 0),(.int Y 0),(.int Y 0),(.int Y 0),(.int Y 0),(.int Y 0),(.int Y 0),(.int Y 0),(.int Y 0),(.int Y 0),(.int Y 0),(.int Y 0),(.int Y 0),(.int Y 0),(.int Y 0),(.int Y 0),(.int Y 0),(.int Y 0),(.int Y 0),(.int Y 0),(.int Y 0),(.int Y 0),(.int Y 0),(.int Y 0),(.int Y 0),(.int Y 0),(.int Y 0),(O B),(.bool I)]) (p:=B) (b0:=I) rfl (ZA bs) J3]
    exact hr3
theorem Z7c{x:It}{v1 v2 v3:Value}(hg:Z32 x)(hA:∀b,w.heap.size<=b->¬A b)(hx:ItC A w x v1 v2 v3) :
  J0 J Z1f.n #[.agg #[v1,v2,v3]] w (fun e w'=>∃L,e=G (.agg L)/\Vcg.Mod NoB w w'/\RfC A w' x L) :=
 ZEY (fun b e=>by subst e;exact hg.str) hA hx
theorem Z4o{b:Bool}{o1 o2 o3:Option Addr}{l1 k1 l2 k2 l3 k3:Nat} :
  J0 J Z07.n #[.agg #[.bool b,.slice o1 l1 k1,.slice o2 l2 k2,.slice o3 l3 k3]] w (fun e w'=>e=G (.bool (decide (l2=16)))/\Vcg.Mod NoB w w'):=by
 refine Z07.vc _ _ _ _ _ _ _ _ _ _ _ _ ?_;unfold Z07.Vc;rintro d w1⟨rfl,rfl⟩;have X:=Blk.new w 86 #[.bool b,.slice o1 l1 k1,.slice o2 l2 k2,.slice o3 l3 k3];refine⟨_,_,_,by rw[Z6];exact X.rd1 rfl,?_,Mod.alloc w _⟩;congr 2;rw[Bool.eq_iff_iff,decide_eq_true_eq,decide_eq_true_eq];omega
theorem Z5q{o:Option Addr}{k:Nat}{b:By}{ok:Bool}(hr:RdB w o b)(hl:b.length<=2^40) :
  J0 J Z1P.n #[.slice o b.length k,.bool ok] w (fun e w'=>∃o' k',e=G (N #[.slice o' (if ok then b else[]).length k',.bool ok])/\Vcg.Mod NoB w w'/\RdB w' o' (if ok then b else[])/\∀d,o'=V d->w.heap.size<=d.block):=by
 refine Z1P.vc _ _ _ _ _ _ ?_;unfold Z1P.Vc;refine⟨fun h=>?_,fun h=>?_⟩
 ·subst h
  exact⟨B,0,rfl,Mod.refl w,fun h=>(h rfl).elim,fun d h=>(by cases h)⟩
 ·subst h
  refine(Z1z hr hl).mono ?_;rintro _ w1⟨o',k',rfl,F⟩;exact⟨_,_,_,rfl,o',k',rfl,F.mod,F.own.bytes,fun d hd=>F.new d.block ⟨d,hd,rfl⟩⟩
theorem Z72{o1 o2:Option Addr}{k1 k2:Nat}{a b:By}(h1:RdB w o1 a)(hk:a.length<=k1)(h2:RdB w o2 b) :
  J0 J Z0q.n #[.slice o1 a.length k1,.slice o2 b.length k2] w (fun e w'=>w'=w/\if b.isPrefixOf a then e=G (N #[.slice (subO o1 k1 b.length 1) (a.length-b.length) (k1-b.length),.bool J3])else e=G (N #[.slice o1 a.length k1,.bool I])):=by
 refine Z0q.vc _ _ _ _ _ _ _ _ ?_;unfold Z0q.Vc;refine(Z73 h1 hk h2).mono ?_;rintro _ w1⟨rfl,rfl⟩;refine⟨_,rfl,fun h=>⟨rfl,by rw[if_neg (by rw[h];decide)]⟩,fun h=>⟨?_,rfl,by rw[if_pos h,Int.toNat_natCast]⟩⟩;have:=(List.isPrefixOf_iff_prefix.1 h).length_le;omega
end
end Go.Proofs.YtfghidehlnfdiaaGreat
end
