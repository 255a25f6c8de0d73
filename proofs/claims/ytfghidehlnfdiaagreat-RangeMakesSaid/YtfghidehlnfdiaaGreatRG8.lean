/- The nodes of a range: plain Lean. -/
/- Contracts: bytes.Compare, bytes.Repeat, join, where a path lies. -/
/- Contracts: where a path lies (the program's, the reference's); spanOf. -/
/- Contracts: where a path lies (the reference's). -/
/- Contracts: at (the node of a reference). -/
/- Contracts: each (a node's references). -/
/- Contracts: ProveRange's walk (its closure). -/
/- Contracts: ProveRange (package proof). -/
import Derived.Test.YtfghidehlnfdiaaGreatTVB
import Derived.Lib.BytesEntry
import Derived.Lib.MakeNoZero
set_option linter.unusedVariables false
set_option linter.unusedSimpArgs false
open Array renaming getElem?_toList->JH
open Bool renaming false->JA,true->JZ
open Go renaming Calls->JQ,Ending->Jb,TypeId->Jf,World->J2,madeCells->JW,run_callFunc_extern->JT
open Go.Addr renaming add->JG
open Go.Ending renaming panicked->JP,returned->J4
open Go.IntKind renaming i64->JE,u64->JL,u8->Jg,wrap->U
open Go.Obj renaming cells->Y
open Go.Proofs.Tryz renaming prog->W
open Go.Value renaming agg->JR,bool->JB,int->J8,map->Jh,pointer->C,slice->G,tuple->JM
open Go.World renaming cell?->JJ
open Int renaming fdiv->JI,toNat_natCast->JF
open List renaming append_assoc->JN,getD_eq_getElem?_getD->JD,getElem?_map->JU,getElem?_replicate->JO,length_append->J3,length_cons->JV,length_map->JY,length_replicate->Z,map_append->JK,nil_append->Ja,range->Je,replicate->J1,replicate_succ->JS
open Nat renaming le_refl->J9,mul_one->Jd,zero_add->J5,zero_le->Jc
open Option renaming none->J,some->J0
open Or renaming inl->JC,inr->J6
open UInt8 renaming lt_irrefl->JX,ofNat->J7
section
namespace Go.Proofs.YtfghidehlnfdiaaGreat
open Go Go.Vcg Go.Trie
theorem Z7Q:∀(p q:By),ltB p q\/p=q\/ltB q p
 |[],[]=>J6 (JC rfl)
 |[],_::_=>JC trivial
 |_::_,[]=>J6 (J6 trivial)
 |a::p,b::q=>by
  simp only[ltB,List.cons.injEq];rcases Nat.lt_trichotomy a.toNat b.toNat with h|h|h
  ·exact JC (JC (UInt8.lt_iff_toNat_lt.2 h))
  ·obtain rfl:=UInt8.toNat_inj.1 h
   rcases Z7Q p q with h|h|h
   ·exact JC (J6 ⟨rfl,h⟩)
   ·exact J6 (JC ⟨rfl,h⟩)
   ·exact J6 (J6 (J6 ⟨rfl,h⟩))
  ·exact J6 (J6 (JC (UInt8.lt_iff_toNat_lt.2 h)))
theorem Z8x{p q:By}:Z1i p q>0↔ltB q p:=by
 constructor
 ·intro h
  rcases Z7Q p q with h1|h1|h1
  ·have:=Z1t.2 h1;omega
  ·have:=ZB4.2 h1;omega
  ·exact h1
 ·intro h
  have h1:¬Z1i p q<0:=fun h2=>Z3P _ (Z2v h (Z1t.1 h2));have h2:¬Z1i p q=0:=fun h2=>by rw[ZB4.1 h2]at h;exact Z3P _ h
  omega
theorem Z5S{p q r:By}(h1:¬ltB q p)(h2:¬ltB r q):¬ltB r p:=fun h=>by
 rcases Z7Q p q with h3|rfl|h3
 ·exact h2 (Z2v h h3)
 ·exact h2 h
 ·exact h1 h3
def Z3y(p:By):By:=p++J1 (64-p.length) 0
def Z3x(p:By):By:=p++J1 (64-p.length) 15
def Z3i(a b p:By):Int :=
 if Z1i (Z3x p) a<0\/Z1i (Z3y p) b>0 then -1 else if Z1i (Z3y p) a>=0/\Z1i (Z3x p) b<=0 then 1 else 0
theorem ZEI:∀(x:By) (n:Nat),x.length=n->¬ltB x (J1 n 0)
 |[],_,h=>by subst h;exact Z3j _
 |a::r,n,h=>by
  obtain⟨m,rfl⟩:∃m,n=m+1:=⟨r.length,by rw[<-h];rfl⟩;simp only[JS,ltB];rintro(h1|⟨_,h1⟩)
  ·have:=UInt8.lt_iff_toNat_lt.1 h1;simp at this
  ·exact ZEI r m (by simpa using h) h1
theorem ZEH:∀(x:By) (n:Nat),x.length=n->Nib x->¬ltB (J1 n 15) x
 |[],_,h,_=>by subst h;exact Z3j _
 |a::r,n,h,hn=>by
  obtain⟨m,rfl⟩:∃m,n=m+1:=⟨r.length,by rw[<-h];rfl⟩;simp only[JS,ltB];rintro(h1|⟨_,h1⟩)
  ·have:=UInt8.lt_iff_toNat_lt.1 h1
   have h2:=hn a (by simp);have h3:(15:UInt8).toNat=15:=rfl;omega
  ·exact ZEH r m (by simpa using h) (fun x hx=>hn x (by simp[hx])) h1
theorem ZFP{p q:By}(h:(p++q).length<=64):Z3y (p++q)=p++(q++J1 (64-(p++q).length) 0):=by
 unfold Z3y;rw[JN]
theorem ZEA{p q:By}(h:(p++q).length<=64):¬ltB (Z3y (p++q)) (Z3y p):=by
 rw[ZFP h];unfold Z3y;rw[Z4X];rw[J3]at h;exact ZEI _ _ (by rw[J3,Z,J3];omega)
theorem ZE1{p q:By}(h:(p++q).length<=64)(hq:Nib q):¬ltB (Z3x p) (Z3x (p++q)):=by
 have e:Z3x (p++q)=p++(q++J1 (64-(p++q).length) 15):=by unfold Z3x;rw[JN]
 rw[e];unfold Z3x;rw[Z4X];rw[J3]at h;refine ZEH _ _ (by rw[J3,Z,J3];omega) (fun x hx=>?_);rcases List.mem_append.1 hx with hx|hx
 ·exact hq x hx
 ·rw[List.eq_of_mem_replicate hx];decide
theorem ZHH{p:By}:¬ltB (Z3x p) (Z3y p):=by
 unfold Z3y Z3x;rw[Z4X];refine ZEI _ _ (Z ..)
theorem Z98{a b p:By}:Z3i a b p= -1↔ltB (Z3x p) a\/ltB b (Z3y p):=by
 have e0:(Z1i (Z3x p) a<0\/Z1i (Z3y p) b>0)↔(ltB (Z3x p) a\/ltB b (Z3y p)):=or_congr Z1t Z8x;unfold Z3i;split
 ·exact⟨fun _=>e0.1 ‹_›,fun _=>rfl⟩
 ·split
  ·exact⟨fun h=>absurd h (by decide),fun h=>absurd (e0.2 h) ‹_›⟩
  ·exact⟨fun h=>absurd h (by decide),fun h=>absurd (e0.2 h) ‹_›⟩
theorem ZE9{a b p:By}:Z3i a b p=1↔¬ltB (Z3y p) a/\¬ltB b (Z3x p):=by
 have e0:(Z1i (Z3x p) a<0\/Z1i (Z3y p) b>0)↔(ltB (Z3x p) a\/ltB b (Z3y p)):=or_congr Z1t Z8x;have e1:Z1i (Z3y p) a>=0↔¬ltB (Z3y p) a:=by rw[<-Z1t];omega
 have e2:Z1i (Z3x p) b<=0↔¬ltB b (Z3x p):=by rw[<-Z8x];omega
 have e3:(Z1i (Z3y p) a>=0/\Z1i (Z3x p) b<=0)↔(¬ltB (Z3y p) a/\¬ltB b (Z3x p)):=and_congr e1 e2;unfold Z3i;split
 ·rename_i h
  refine⟨fun h=>absurd h (by decide),fun h'=>?_⟩;rcases e0.1 h with h|h
  ·exact absurd h (Z5S h'.1 ZHH)
  ·exact absurd h (Z5S ZHH h'.2)
 ·split
  ·exact⟨fun _=>e3.1 ‹_›,fun _=>rfl⟩
  ·exact⟨fun h=>absurd h (by decide),fun h=>absurd (e3.2 h) ‹_›⟩
theorem ZFO{a b p q:By}(h:(p++q).length<=64)(hq:Nib q)(hp:Z3i a b p≠0):Z3i a b (p++q)=Z3i a b p:=by
 have hc:Z3i a b p= -1\/Z3i a b p=1:=by
  unfold Z3i at hp ⊢;split
  ·exact JC rfl
  ·split
   ·exact J6 rfl
   ·rename_i h1 h2
    rw[if_neg h1,if_neg h2]at hp;exact absurd rfl hp
 rcases hc with hc|hc
 ·rw[hc]
  rcases Z98.1 hc with h1|h1
  ·exact Z98.2 (JC (by
    rcases Z7Q (Z3x (p++q)) (Z3x p)with h2|h2|h2
    ·exact Z2v h2 h1
    ·rw[h2];exact h1
    ·exact absurd h2 (ZE1 h hq)))
  ·exact Z98.2 (J6 (by
    rcases Z7Q (Z3y p) (Z3y (p++q))with h2|h2|h2
    ·exact Z2v h1 h2
    ·rw[<-h2];exact h1
    ·exact absurd h2 (ZEA h)))
 ·rw[hc]
  obtain⟨h1,h2⟩:=ZE9.1 hc;exact ZE9.2 ⟨Z5S h1 (ZEA h),Z5S (ZE1 h hq) h2⟩
def Off(a b p:By):Prop:=p.length>64\/Z3i a b p≠0
instance (a b p:By):Decidable (Off a b p):=by unfold Off;infer_instance
theorem Off.far{a b p q:By}(h:Off a b p)(hq:Nib q):Off a b (p++q):=by
 by_cases hl:(p++q).length>64
 ·exact JC hl
 ·rcases h with h|h
  ·rw[J3]at hl;omega
  ·exact J6 (by rw[ZFO (by omega) hq h];exact h)
abbrev RS:=List (By×By)
section
variable{σ:Type}
def foldK(go:σ->It->By->σ×Option Int):σ->List (It×By)->σ×Option Int
 |s,[]=>(s,J)
 |s,y::r=>match go s y.1 y.2 with
  |(s',J)=>foldK go s' r
  |(s',J0 e)=>(s',J0 e)
theorem Z52{go go':σ->It->By->σ×Option Int}:∀{l:List (It×By)} {s:σ},(∀s,∀y∈l,go s y.1 y.2=go' s y.1 y.2)->foldK go s l=foldK go' s l
 |[],_,_=>rfl
 |y::r,s,h=>by
  simp only[foldK,h s y (by simp)];split
  ·exact Z52 (fun s z hz=>h s z (by simp[hz]))
  ·rfl
theorem Z8L{go:σ->It->By->σ×Option Int}:∀{l:List (It×By)} {s:σ},(∀s,∀y∈l,go s y.1 y.2=(s,J))->foldK go s l=(s,J)
 |[],_,_=>rfl
 |y::r,s,h=>by
  simp only[foldK,h s y (by simp)];exact Z8L (fun s z hz=>h s z (by simp[hz]))
theorem ZA4{go:σ->It->By->σ×Option Int}{I:σ->Prop}:∀{l:List (It×By)} {s:σ},I s->(∀s,∀y∈l,I s->I (go s y.1 y.2).1)->I (foldK go s l).1
 |[],_,h,_=>h
 |y::r,s,h,hf=>by
  have h1:=hf s y (by simp) h;simp only[foldK];generalize go s y.1 y.2=q at h1;obtain⟨s',o⟩:=q;cases o with
  |none=>exact ZA4 h1 (fun s z hz=>hf s z (by simp[hz]))
  |some e=>exact h1
def subsOf(xs:List It)(path:By):List (It×By) :=
 if xs.length=2 then(match Z15 (xs.getD 0 (.s []))with
  |some (p,JA)=>[(xs.getD 1 (.s []),path++p)]
  |_=>[])
 else(Je 16).map fun j=>(xs.getD j (.s []),path++[J7 j])
def eachW(go:σ->It->By->σ×Option Int)(s:σ)(xs:List It)(path:By):σ×Option Int:=foldK go s (subsOf xs path)
end
def Z55(go:RS->It->By->RS×Option Int)(l:RS)(s:RS)(h path:By):RS×Option Int :=
 match Z14 l h with
 |none=>(s,J0 160)
 |some c=>if Z0B c≠0 then(s,J0 161)else match Z4U c with
  | .ok (.l xs)=>eachW go (if met s h then s else s++[(h,c)]) xs path
  |_=>(s,J0 161)
def visP(l:RS)(a b:By):Nat->RS->It->By->RS×Option Int
 |0,s,_,_=>(s,J)
 |f+1,s,.l xs,path=>if Off a b path then(s,J)else eachW (visP l a b f) s xs path
 |f+1,s,.s h,path=>if Off a b path\/h=[]then(s,J)else Z55 (visP l a b f) l s h path
def visQ(l:RS)(a b:By):Nat->RS->It->By->RS×Option Int
 |0,s,_,_=>(s,J)
 |f+1,s,.l xs,path=>if path.length>64 then(s,J)else eachW (visQ l a b f) s xs path
 |f+1,s,.s h,path=>if Off a b path\/h=[]then(s,J)else Z55 (visQ l a b f) l s h path
theorem nib_one{j:Nat}(hj:j<16):Nib [J7 j]:=by
 intro x hx;obtain rfl:=List.mem_singleton.1 hx;rw[UInt8.toNat_ofNat'];omega
theorem ZCR{x:It}{p:By}{lf:Bool}(h:Z15 x=J0 (p,lf)):Nib p:=by
 cases x with
 |l ys=>cases h
 |s b =>
  have h:Z1C b=J0 (p,lf):=h;cases b with
  |nil=>cases h
  |cons a r =>
   simp only[Z1C]at h;by_cases c1:65<r.length+1\/3<(a>>>4).toNat
   ·rw[if_pos c1]at h;cases h
   ·rw[if_neg c1]at h
    by_cases c2:(a>>>4).toNat%2=0
    ·rw[if_pos c2]at h
     by_cases c3:(a&&&15).toNat≠0
     ·rw[if_pos c3]at h;cases h
     ·rw[if_neg c3]at h;cases h;exact Z12 r
    ·rw[if_neg c2]at h
     by_cases c3:64<=r.length
     ·rw[if_pos c3]at h;cases h
     ·rw[if_neg c3]at h
      cases h;intro x hx;rcases List.mem_cons.1 hx with rfl|hx
      ·have:∀n:Fin 256,(UInt8.ofFin n&&&15).toNat<16:=by decide +kernel
       exact this a.toFin
      ·exact Z12 r x hx
theorem ZBo{x:It}{p:By}{lf:Bool}(h:Z15 x=J0 (p,lf)):p.length<=130:=by
 cases x with
 |l ys=>cases h
 |s b =>
  have h:Z1C b=J0 (p,lf):=h;cases b with
  |nil=>cases h
  |cons a r =>
   simp only[Z1C]at h;by_cases c1:65<r.length+1\/3<(a>>>4).toNat
   ·rw[if_pos c1]at h;cases h
   ·rw[if_neg c1]at h
    have hn:=ZQ r;by_cases c2:(a>>>4).toNat%2=0
    ·rw[if_pos c2]at h
     by_cases c3:(a&&&15).toNat≠0
     ·rw[if_pos c3]at h;cases h
     ·rw[if_neg c3]at h;cases h;omega
    ·rw[if_neg c2]at h
     by_cases c3:64<=r.length
     ·rw[if_pos c3]at h;cases h
     ·rw[if_neg c3]at h;cases h;rw[JV];omega
theorem Z5m{xs:List It}{path:By}(hg:Z32 (.l xs)):∀y∈subsOf xs path,Z32 y.1/\∃q,y.2=path++q/\Nib q/\q≠[]/\q.length<=130:=by
 intro y hy;unfold subsOf at hy;by_cases h2:xs.length=2
 ·rw[if_pos h2]at hy
  obtain⟨p,lf,he,h1,h3⟩:=hg.two h2;rw[he]at hy;cases lf with
  |true=>cases hy
  |false =>
   obtain rfl:=List.mem_singleton.1 hy;obtain⟨hp,hgy,_⟩:=h3 rfl;exact⟨hgy,p,rfl,ZCR he,hp,ZBo he⟩
 ·rw[if_neg h2]at hy
  obtain⟨h17,_,hk⟩:=hg.many h2;obtain⟨j,hj,rfl⟩:=List.mem_map.1 hy;exact⟨hk j (List.mem_range.1 hj),_,rfl,nib_one (List.mem_range.1 hj),by simp,by simp⟩
theorem Z9R{l:RS}{a b:By}:∀{f:Nat} {s:RS} {x:It} {path:By},Z32 x->Off a b path->visQ l a b f s x path=(s,J)
 |0,_,_,_,_,_=>rfl
 |f+1,s,.l xs,path,hg,ho=>by
  simp only[visQ];split
  ·rfl
  ·refine Z8L (fun s y hy=>?_)
   obtain⟨g,q,e,hq,_⟩:=Z5m hg y hy;rw[e];exact Z9R g (ho.far hq)
 |f+1,s,.s h,path,_,ho=>by
  simp only[visQ];rw[if_pos (JC ho)]
theorem ZCm{l:RS}{a b:By}:∀{f:Nat} {s:RS} {x:It} {path:By},Z32 x->visQ l a b f s x path=visP l a b f s x path
 |0,_,_,_,_=>rfl
 |f+1,s,.l xs,path,hg=>by
  by_cases ho:Off a b path
  ·rw[Z9R hg ho]
   simp only[visP];rw[if_pos ho]
  ·simp only[visQ,visP]
   rw[if_neg ho,if_neg (fun h=>ho (JC h))];exact Z52 (fun s y hy=>ZCm (Z5m hg y hy).1)
 |f+1,s,.s h,path,_=>by
  simp only[visQ,visP];split
  ·rfl
  ·unfold Z55
   split
   ·rfl
   ·split
    ·rfl
    ·rename_i hc
     obtain⟨xs,hd,_,hgx⟩:=Z22 (Decidable.not_not.1 hc);rw[hd];exact Z52 (fun s y hy=>ZCm (Z5m hgx y hy).1)
structure Z74 (l s:RS):Prop where
 nodup:(s.map Prod.fst).Nodup
 from_:∀x∈s,Z14 l x.1=J0 x.2
theorem Z5M:∀{l:RS} {h b:By},Z14 l h=J0 b->(h,b)∈l
 |[],_,_,e=>by cases e
 |x::r,h,b,e=>by
  unfold Z14 at e;split at e
  ·rename_i hx
   cases e;rw[<-hx];exact List.mem_cons_self ..
  ·exact List.mem_cons_of_mem _ (Z5M e)
theorem ZAO{α:Type}[DecidableEq α]:∀{s l:List α},s.Nodup->(∀x∈s,x∈l)->s.length<=l.length
 |[],_,_,_=>Jc _
 |x::r,l,h,hm=>by
  rw[List.nodup_cons]at h
  have h1:=ZAO (l:=l.erase x) h.2 (fun y hy=>by
   rw[List.mem_erase_of_ne (fun e=>h.1 (by rw[<-e];exact hy))];exact hm y (by simp[hy]))
  rw[List.length_erase_of_mem (hm x (by simp))]at h1;have:0<l.length:=List.length_pos_of_mem (hm x (by simp));simp only[JV];omega
theorem Z74.len{l s:RS}(h:Z74 l s):s.length<=l.length:=by
 have:=ZAO (l:=l.map Prod.fst) h.nodup (fun x hx=>by
  obtain⟨y,hy,rfl⟩:=List.mem_map.1 hx;exact List.mem_map.2 ⟨_,Z5M (h.from_ y hy),rfl⟩)
 simpa using this
theorem Z74.nil(l:RS):Z74 l []:=⟨List.nodup_nil,fun x hx=>by cases hx⟩
theorem ZGZ{s:RS}{h:By}(hm:met s h=JA):h ∉ s.map Prod.fst:=fun hc=>by
 obtain⟨x,hx,e⟩:=List.mem_map.1 hc;have:=List.any_eq_false.1 hm x hx;simp[e]at this
theorem Z74.push{l s:RS}{h b:By}(H:Z74 l s)(hf:Z14 l h=J0 b)(hm:met s h=JA):Z74 l (s++[(h,b)]):=by
 refine⟨?_,fun x hx=>?_⟩
 ·rw[JK,List.nodup_append]
  refine⟨H.nodup,by simp,fun x hx y hy e=>?_⟩;simp only[List.map_cons,List.map_nil,List.mem_singleton]at hy;subst hy;subst e;exact ZGZ hm hx
 ·rcases List.mem_append.1 hx with hx|hx
  ·exact H.from_ x hx
  ·obtain rfl:=List.mem_singleton.1 hx
   exact hf
theorem Z8G{l:RS}{go:RS->It->By->RS×Option Int}{s:RS}{xs:List It}{path:By}(h:Z74 l s)(hg:∀s y q,Z74 l s->Z74 l (go s y q).1):Z74 l (eachW go s xs path).1 :=
 ZA4 h (fun s y _ hs=>hg _ _ _ hs)
theorem ZD3{l:RS}{go:RS->It->By->RS×Option Int}{s:RS}{h path:By}(H:Z74 l s)(hg:∀s y q,Z74 l s->Z74 l (go s y q).1):Z74 l (Z55 go l s h path).1:=by
 unfold Z55;split
 ·exact H
 ·split
  ·exact H
  ·split
   ·refine Z8G ?_ hg
    split
    ·exact H
    ·exact H.push ‹_› (Bool.not_eq_true _ ▸ ‹_›)
   ·exact H
theorem Z7q{l:RS}{a b:By}:∀{f:Nat} {s:RS} {x:It} {path:By},Z74 l s->Z74 l (visP l a b f s x path).1
 |0,_,_,_,h=>h
 |f+1,s,.l xs,path,h=>by
  simp only[visP];split
  ·exact h
  ·exact Z8G h (fun s y q hs=>Z7q hs)
 |f+1,s,.s k,path,h=>by
  simp only[visP];split
  ·exact h
  ·exact ZD3 h (fun s y q hs=>Z7q hs)
def Z2V(l:RS)(root least most:By):RS×Int :=
 if l.length>4096 then([],162)else if Z1i most least<0 then([],164)else
 match visP l (nibbles least) (nibbles most) 66 [] (rootIt root) []with
 |(s,J)=>(s,0)
 |(_,J0 e)=>([],e)
theorem ZC0:∀(a b:By),Lib.compareBytes a b=Z1i a b
 |[],[]=>rfl
 |[],_::_=>rfl
 |_::_,[]=>rfl
 |a::p,b::q=>by
  simp only[Lib.compareBytes,Z1i];by_cases hab:a=b
  ·subst hab
   rw[if_neg (JX a),if_neg (JX a),if_pos rfl,ZC0]
  ·rw[if_neg hab]
   by_cases hlt:a<b
   ·rw[if_pos hlt,if_pos hlt]
   ·rw[if_neg hlt,if_neg hlt,if_pos (UInt8.lt_of_le_of_ne (UInt8.not_lt.1 hlt) (Ne.symm hab))]
theorem ZA3{w:J2}{o:Option Addr}{k:Nat}{a:By}(h:RdB w o a):(Extern.Bytes.bytesOf (G o a.length k)).run W w=.ok ⟨a.toArray⟩ w:=by
 cases o with
 |none =>
  have:a=[]:=by
   by_cases hne:a=[]
   ·exact hne
   ·obtain⟨b,f,ho,_⟩:=h hne;cases ho
  subst this;rfl
 |some d =>
  have hl:=Lib.run_loadBytesX (P:=W) w (a.map fun x=>(x.toNat:Int)) d .empty (fun j x hj=>by
   rw[JU,Option.map_eq_some_iff]at hj;obtain⟨y,hy,rfl⟩:=hj;obtain⟨hj,rfl⟩:=List.getElem?_eq_some_iff.1 hy;obtain⟨b,f,ho,hb,hc⟩:=h (by intro e;rw[e]at hj;simp at hj);cases ho;rw[Z6,hc j hj];simp[JD,hj])
  rw[JY]at hl;refine hl.trans ?_;congr 1;apply ByteArray.ext
  have:Lib.bytesOf (a.map fun x=>(x.toNat:Int))=a:=by
   unfold Lib.bytesOf;rw[List.map_map]
   conv=>rhs;rw[<-List.map_id a]
   refine List.map_congr_left (fun x _=>?_);simp
  rw[this];show(#[]:Array UInt8)++a.toArray=a.toArray;simp
theorem ZH8:∃fn,Tryz.prog.funcs[96]?=J0 fn/\(fn.name == "runtime.NumGoroutine")=JA/\fn.body.isNone=JZ/\Extern.findNext fn=J/\Extern.find fn=J0 Extern.BytealgCompare.compare :=
 ⟨Tryz.f96,Tryz.func96,by kernel_rfl,by kernel_rfl,by kernel_rfl,by kernel_rfl⟩
theorem Z1s{w:J2}{o1 o2:Option Addr}{k1 k2:Nat}{a b:By}(h1:RdB w o1 a)(h2:RdB w o2 b) :
  JQ W Z1L.n #[G o1 a.length k1,G o2 b.length k2] w (fun e w'=>e=J4 (J8 JE (Z1i a b))/\w'=w):=by
 refine Z1L.vc _ _ _ _ _ _ _ _ ?_;unfold Z1L.Vc;obtain⟨fn,f1,f2,f3,f4,f5⟩:=ZH8;refine⟨_,w,?_,Z1i a b,rfl,rfl,rfl⟩;rw[JT f1 f2 f3 f4 f5];change((Sem.run W (do pure (goInt (Extern.BytealgCompare.cmp (<-Extern.Bytes.bytesOf (G o1 a.length k1)) (<-Extern.Bytes.bytesOf (G o2 b.length k2))))) w).andThen _)=_;simp only[Sem.run_bind,ZA3 h1,ZA3 h2,Sem.run_pure,Result.andThen];rw[Lib.cmp_eq,ZC0];rfl
theorem ZFI:∃fn,Tryz.prog.funcs[98]?=J0 fn/\(fn.name == "runtime.NumGoroutine")=JA/\fn.body.isNone=JZ/\Extern.findNext fn=J/\Extern.find fn=J0 (Extern.BytealgMakeNoZero.makeNoZero #[3] #[Zu]) :=
 ⟨Tryz.f98,Tryz.func98,by kernel_rfl,by kernel_rfl,by kernel_rfl,by kernel_rfl⟩
theorem ZDU{w:J2}{n:Nat}(hn:n<=64) :
  JQ W Z1O.n #[J8 JL 1,J8 JL (n:Int)] w (fun e w'=>e=J4 (JM #[J8 JL 0,J8 JL (n:Int)])/\w'=w):=by
 refine Z1O.vc _ _ _ _ ?_;unfold Z1O.Vc;refine Z1u.vc _ _ _ _ ?_;unfold Z1u.Vc;have key:∀m:Fin 65,(U JL ((U JL ((U JL ((JI 1 4294967296)*(JI (m.val:Int) 4294967296)))+(JI (U JL ((U JL ((JI 1 4294967296)*(bitsI .and JL (m.val:Int) 4294967295)))+(JI (U JL ((bitsI .and JL 1 4294967295)*(bitsI .and JL (m.val:Int) 4294967295))) 4294967296))) 4294967296)))+(JI (U JL ((bitsI .and JL (U JL ((U JL ((JI 1 4294967296)*(bitsI .and JL (m.val:Int) 4294967295)))+(JI (U JL ((bitsI .and JL 1 4294967295)*(bitsI .and JL (m.val:Int) 4294967295))) 4294967296))) 4294967295)+(U JL ((bitsI .and JL 1 4294967295)*(JI (m.val:Int) 4294967296))))) 4294967296)))=0/\U JL (1*(m.val:Int))=(m.val:Int):=by decide +kernel
 obtain⟨k1,k2⟩:=key ⟨n,by omega⟩;dsimp only at k1 k2;rw[k1,k2];exact⟨0,n,rfl,rfl,rfl⟩
theorem Z9c{w:J2}{o:Option Addr}{k n:Nat}{x:UInt8}(hr:RdB w o [x])(hn:n<=64) :
  JQ W Z1h.n #[G o 1 k,J8 JE (n:Int)] w (fun e w'=>∃o' k',e=J4 (G o' n k')/\RdB w' o' (J1 n x)/\Vcg.Mod NoB w w'):=by
 refine ZG fun R hR=>Z1h.vc _ _ _ _ _ _ ?_;unfold Z1h.Vc;refine⟨fun h0=>?_,fun h0=>?_⟩
 ·obtain rfl:n=0:=by omega
  rintro d w2⟨rfl,rfl⟩;exact hR _ _ ⟨_,_,rfl,RdB.nil _ _,Mod.alloc _ _⟩
 ·have hw:∀m:Fin 65,U JL (m.val:Int)=(m.val:Int)/\U JE (m.val:Int)=(m.val:Int):=by decide +kernel
  obtain⟨e1,e2⟩:=hw ⟨n,by omega⟩;dsimp only at e1 e2;refine⟨fun w'=>w'=w,⟨fun h=>absurd h (by omega),fun _=>rfl⟩,?_⟩;rintro _ w rfl;rw[e1,show U JL (((1:Nat):Int))=1 from by decide];refine(ZDU hn).mono ?_;rintro _ w⟨rfl,rfl⟩;refine⟨_,_,rfl,fun w'=>w'=w,⟨fun h=>absurd h (by decide),fun _=>⟨fun h=>absurd h (by omega),fun _=>rfl⟩⟩,?_⟩;rintro _ w rfl;rw[e2];refine⟨fun h=>absurd h (by decide),fun _=>⟨fun m w'=>m=(n:Int)/\w'=w,⟨fun h=>absurd h (by omega),fun _=>⟨rfl,rfl⟩⟩,?_⟩⟩;rintro _ _ w⟨rfl,rfl⟩;obtain⟨fn,f1,f2,f3,f4,f5⟩:=ZFI;obtain⟨cs,hc,hcs,hcm⟩:=Lib.run_makeNoZero (P:=W) w #[3] Zu 5 Zn n (by omega);have M2:Vcg.Mod NoB w (w.drew.drew.alloc (Y cs 5)):=((Mod.drew w).step_drew).step_alloc _;have B2:Blk (w.drew.drew.alloc (Y cs 5)) w.heap.size 5 cs:=Blk.new w.drew.drew 5 cs;refine⟨G (J0 ⟨w.heap.size,0,J⟩) n cs.size,w.drew.drew.alloc (Y cs 5),by rw[JT f1 f2 f3 f4 f5,hc];rfl,_,_,_,rfl,?_⟩;generalize hD:w.heap.size=D at *
  generalize w.drew.drew.alloc (Y cs 5)=w2 at *
  obtain⟨iu,hiu,_⟩:=Z25 Z64;refine⟨_,Z8h Zn hiu w2 hcs,_,_,_,rfl,?_⟩;obtain⟨w3,hr3,B3,Q3⟩:=Z4T (P:=W) (t:=23) (tx:=23) (ty:=3) (dLen:=n) (dCap:=n) (n:=1) (o:=0) (c:=k) Zn Z0y B2 (hr.mod' M2) (by show 1=Nat.min 1 n;exact(Nat.min_eq_left (by omega)).symm) (by omega);refine⟨_,w3,hr3,_,rfl,?_⟩;have M3:=ZK M2 Q3 (by omega);have hs0:(setsAt cs 0 (([x]:By).take 1 |>.map bV)).size=cs.size:=ZX _ _ _
  have hg0:∀i,i<1->(setsAt cs 0 (([x]:By).take 1 |>.map bV))[i]?=J0 (bV x):=fun i hi=>by
   obtain rfl:i=0:=by omega
   rw[Zq _ _ _ _ (by simp;omega),if_pos (by simp)];rfl
  generalize setsAt cs 0 (([x]:By).take 1 |>.map bV)=cur0 at *
  refine⟨fun m w'=>∃(j:Nat)(cur:Array Value),m=(j:Int)/\1<=j/\j<=n/\Vcg.Mod NoB w w'/\Blk w' D 5 cur/\cur.size=cs.size/\∀i,i<j->cur[i]?=J0 (bV x),fun m _=>((n:Int)-m).toNat,⟨1,cur0,rfl,J9 _,by omega,M3,B3,hs0,hg0⟩,?_⟩;rintro _ _ w4⟨j,cur,rfl,hj1,hjn,M4,B4,hs4,hg4⟩
  have rd:∀(w':J2)(cur:Array Value)(q:Nat),Blk w' D 5 cur->(∀i,i<q->cur[i]?=J0 (bV x))->RdB w' (J0 ⟨D,0,J⟩) (J1 q x):=fun w' cur q B hg=>RdB.of_blk B (fun i hi=>by
   rw[Z]at hi;rw[J5,hg i hi];simp[JD,hi])
  refine⟨fun hlt=>?_,fun hge=>?_⟩
  ·rintro _ rfl
   have B5:=B4.drew;have M5:=M4.step_drew;have hmin:min (j:Int) (n:Int)=((j:Nat):Int):=by omega
   rw[hmin];refine⟨⟨by omega,by omega⟩,⟨by omega,by omega⟩,?_⟩
   have hsub:subO (J0 ⟨D,0,J⟩) n (Int.toNat (j:Int)) 1=J0 ⟨D,j,J⟩:=by
    rw[JF];unfold subO;rw[if_neg (by omega)];simp only[Option.map_some,Jd];rw[Z6,J5]
   rw[hsub,JF];have hcl:(J1 j x).length=j:=Z;obtain⟨w6,hr6,B6,Q6⟩:=Z4T (P:=W) (t:=23) (tx:=23) (ty:=3) (g:=D) (dLen:=n-j) (dCap:=n-j) (n:=min j (n-j)) (o:=j) (c:=n) Zn Z0y B5 (rd _ cur j B5 hg4) (by rw[hcl]) (by omega);rw[hcl]at hr6;refine⟨_,w6,hr6,_,rfl,?_⟩;have ew:U JE ((j:Int)+((min j (n-j):Nat):Int))=((j+min j (n-j):Nat):Int):=by rw[Z0 (by omega) (by omega)];omega
   rw[ew];refine⟨⟨j+min j (n-j),_,rfl,by omega,by omega,ZK M5 Q6 (by omega),B6,by rw[ZX];exact hs4,fun i hi=>?_⟩,by dsimp only;omega⟩;have htl:(((J1 j x).take (min j (n-j))).map bV).length=min j (n-j):=by rw[JY,List.length_take,hcl];omega
   rw[Zq _ _ _ _ (by rw[htl];omega),htl];by_cases hij:i<j
   ·rw[if_neg (by omega)];exact hg4 i hij
   ·rw[if_pos (by omega),JU,List.getElem?_take,if_pos (by omega),JO,if_pos (by omega)]
    rfl
  ·obtain rfl:j=n:=by omega
   exact hR _ _ ⟨_,_,rfl,rd _ cur j B4 hg4,M4⟩
theorem Z4W{w:J2}{o o2:Option Addr}{k k2:Nat}{p q:By}(hp:RdB w o p)(hq:RdB w o2 q)(hl:p.length+q.length<=2^30) :
  JQ W Z2d.n #[G o p.length k,G o2 q.length k2] w (fun e w'=>∃o' k',e=J4 (G o' (p++q).length k')/\ZT w w' tU8 1 o' (p++q).length k' ((p++q).map bV)):=by
 refine Z2d.vc _ _ _ _ _ _ _ _ ?_;unfold Z2d.Vc;refine(Z1z hp (by omega)).mono ?_;rintro _ w1⟨o1,k1,rfl,F1⟩;obtain⟨o3,k3,w3,hr3,F3⟩:=ZW (ty:=Zu) (k2:=k2) F1 (hq.mod' F1.mod) (by omega);rw[<-J3]at hr3 F3;exact⟨_,_,_,rfl,_,_,hr3,_,_,_,rfl,_,_,rfl,F3⟩
def Z8c(a b p:By):Int:=if Z3i a b p= -1 then 1 else if Z3i a b p=1 then 0 else 2
theorem Z6U{a b p:By}:Z8c a b p=2↔Z3i a b p=0:=by
 unfold Z8c Z3i;by_cases h1:Z1i (Z3x p) a<0\/Z1i (Z3y p) b>0
 ·rw[if_pos h1];decide
 ·rw[if_neg h1]
  by_cases h2:Z1i (Z3y p) a>=0/\Z1i (Z3x p) b<=0
  ·rw[if_pos h2];decide
  ·rw[if_neg h2];decide
theorem ZFb{a b p:By}:Z8c a b p=if Z1i (Z3x p) a<0\/Z1i (Z3y p) b>0 then 1 else if Z1i (Z3y p) a>=0/\Z1i (Z3x p) b<=0 then 0 else 2:=by
 unfold Z8c Z3i;by_cases h1:Z1i (Z3x p) a<0\/Z1i (Z3y p) b>0
 ·rw[if_pos h1,if_pos h1,if_pos rfl]
 ·rw[if_neg h1,if_neg h1]
  by_cases h2:Z1i (Z3y p) a>=0/\Z1i (Z3x p) b<=0
  ·rw[if_pos h2,if_pos h2,if_neg (by decide),if_pos rfl]
  ·rw[if_neg h2,if_neg h2,if_neg (by decide),if_neg (by decide)]
theorem ZDJ{w:J2}{n:Nat}:RdB (w.alloc (Y (JW (J8 Jg 0).cells n) 5)) (J0 ⟨w.heap.size,0,J⟩) (J1 n 0) :=
 RdB.of_blk (Blk.new w 5 _) (fun i hi=>by
  rw[Z]at hi;show(JW #[J8 Jg 0] n)[0+i]?=_;rw[<-JH,toList_madeCells_one,J5,JO,if_pos hi];simp[JD,hi,bV])
section
variable{w:J2}
theorem ZD6{o1 o2 o:Option Addr}{k1 k2 k:Nat}{a b p:By}(h1:RdB w o1 a)(h2:RdB w o2 b)(hp:RdB w o p)(hl:p.length<=64) :
  JQ W Z0w.n #[JR #[G o1 a.length k1,G o2 b.length k2],G o p.length k] w (fun e w'=>e=J4 (J8 JE (Z8c a b p))/\Vcg.Mod NoB w w'):=by
 refine ZG fun R hR=>Z0w.vc _ _ _ _ _ _ _ _ _ _ _ ?_;unfold Z0w.Vc;rintro d w1⟨rfl,rfl⟩;have M1:=Mod.alloc (S:=NoB) w (Y #[G o1 a.length k1,G o2 b.length k2] 73);have S1:=Blk.new w 73 #[G o1 a.length k1,G o2 b.length k2];generalize w.heap.size=D at *
 generalize w.alloc (Y #[G o1 a.length k1,G o2 b.length k2] 73)=w1 at *
 have ew:U JE (64-(p.length:Int))=((64-p.length:Nat):Int):=by rw[Z0 (by omega) (by omega)];omega
 rw[ew];obtain⟨iu,hiu,hz,hs,hb⟩:=Z25 Z64;have hmk:=run_make (P:=W) w1 23 5 iu _ Zn hiu hz JE JE ((64-p.length:Nat):Int) ((64-p.length:Nat):Int) (by omega) (Int.le_refl _) (by rw[hb];omega) (by omega);rw[JF,hs,Jd]at hmk;have M2:=Mod.alloc (S:=NoB) w1 (Y (JW (J8 Jg 0).cells (64-p.length)) 5);have Z2:=ZDJ (w:=w1) (n:=64-p.length);refine⟨_,_,hmk,_,_,_,rfl,?_⟩;generalize w1.alloc (Y (JW (J8 Jg 0).cells (64-p.length)) 5)=w2 at *
 generalize(J0 ⟨w1.heap.size,0,J⟩:Option Addr)=oz at *
 have M02:=M1.none_trans M2;have hj:=Z4W (k:=k) (k2:=64-p.length) (hp.mod' M02) Z2 (by rw[Z];omega);rw[Z]at hj;refine hj.mono ?_;rintro _ w3⟨ol,kl,rfl,FL⟩;have M03:=M02.none_trans FL.mod;refine⟨_,_,_,rfl,?_⟩;rintro d4 w4⟨rfl,rfl⟩;have M4:=Mod.alloc (S:=NoB) w3 (Y #[J8 Jg 15] 5)
 have X4:RdB (w3.alloc (Y #[J8 Jg 15] 5)) (J0 ⟨w3.heap.size,0,J⟩) [15]:=RdB.of_blk (Blk.new w3 5 #[bV 15]) (fun j hj=>by
  obtain rfl:j=0:=by simpa using hj
  rfl)
 generalize w3.alloc (Y #[J8 Jg 15] 5)=w4 at *
 generalize(J0 ⟨w3.heap.size,0,J⟩:Option Addr)=ox at *
 refine(Z9c (n:=64-p.length) X4 (by omega)).mono ?_;rintro _ w5⟨or,kr,rfl,hr5,M5⟩;have M05:=(M03.none_trans M4).none_trans M5;refine⟨_,_,_,rfl,?_⟩;have hj:=Z4W (k:=k) (k2:=kr) (hp.mod' M05) hr5 (by rw[Z];omega);rw[Z]at hj;refine hj.mono ?_;rintro _ w6⟨oh,kh,rfl,FH⟩;have M06:=M05.none_trans FH.mod;have L6:RdB w6 ol (Z3y p):=(ZN FL).mod' (((M4.none_trans M5)).none_trans FH.mod);have H6:RdB w6 oh (Z3x p):=ZN FH;have S6:=S1.mod' ((((M2.none_trans FL.mod).none_trans M4).none_trans M5).none_trans FH.mod);have a6:=h1.mod' M06;have b6:=h2.mod' M06;refine⟨_,_,_,rfl,fun t w'=>w'=w6/\t=decide (Z1i (Z3x p) a<0\/Z1i (Z3y p) b>0),⟨_,_,_,S6.rd1 rfl,?_⟩,?_⟩
 ·refine(Z1s (a:=Z3x p) H6 a6).mono ?_
  rintro _ w6⟨rfl,rfl⟩;refine⟨_,rfl,fun h=>⟨rfl,by rw[decide_eq_true (JC h)]⟩,fun h=>⟨_,_,_,by rw[Z6];exact S6.rd1 rfl,?_⟩⟩;refine(Z1s (a:=Z3y p) L6 b6).mono ?_;rintro _ w6⟨rfl,rfl⟩;refine⟨_,rfl,rfl,?_⟩;exact decide_eq_decide.2 ⟨fun h'=>J6 h',fun h'=>h'.resolve_left h⟩
 ·rintro _ _ w6⟨rfl,rfl⟩
  have hR':=fun v w'(hv:v=Z8c a b p)(M:Vcg.Mod NoB w w')=>hR (J4 (J8 JE v)) w' ⟨by rw[hv],M⟩;rw[ZFb]at hR';refine⟨fun h=>hR' _ _ (by rw[if_pos (of_decide_eq_true h)]) M06,fun h=>?_⟩;have hn:=of_decide_eq_false h;rw[if_neg hn]at hR';refine⟨_,_,_,S6.rd1 rfl,?_⟩;refine(Z1s (a:=Z3y p) L6 a6).mono ?_;rintro _ w6⟨rfl,rfl⟩;refine⟨_,rfl,fun h1=>⟨_,_,_,by rw[Z6];exact S6.rd1 rfl,?_⟩,fun h1=>hR' _ _ (by rw[if_neg (fun h=>h1 h.1)]) M06⟩;refine(Z1s (a:=Z3x p) H6 b6).mono ?_;rintro _ w6⟨rfl,rfl⟩;exact⟨_,rfl,fun h2=>hR' _ _ (by rw[if_pos ⟨h1,h2⟩]) M06,fun h2=>hR' _ _ (by rw[if_neg (fun h=>h2 h.2)]) M06⟩
theorem ZAb{a b:By}(ha:a.length=32)(hb:b.length=32) :
  JQ W Z1o.n #[JR (hashA a),JR (hashA b)] w (fun e w'=>∃o1 k1 o2 k2,e=J4 (JM #[JR #[G o1 (nibbles a).length k1,G o2 (nibbles b).length k2],JB (decide (Z1i a b<=0))])/\Vcg.Mod NoB w w'/\RdB w' o1 (nibbles a)/\RdB w' o2 (nibbles b)/\(∀d,o1=J0 d->w.heap.size<=d.block)/\∀d,o2=J0 d->w.heap.size<=d.block):=by
 refine ZG fun R hR=>Z1o.vc _ _ _ _ ?_;unfold Z1o.Vc;rintro d w1⟨rfl,rfl⟩;have M1:=Mod.alloc (S:=NoB) w (Y (hashA a) 27);have A1:=Blk.new w 27 (hashA a);generalize w.alloc (Y (hashA a) 27)=w1 at *
 rintro d w2⟨rfl,rfl⟩;have M2:=Mod.alloc (S:=NoB) w1 (Y (hashA b) 27);have B2:=Blk.new w1 27 (hashA b);have A2:=A1.mod' M2;generalize w1.alloc (Y (hashA b) 27)=w2 at *
 rintro d w3⟨rfl,rfl⟩;have M3:=Mod.alloc (S:=NoB) w2 (Y #[G J 0 0,G J 0 0] 73);have S3:=Blk.new w2 73 #[G J 0 0,G J 0 0];have A3:=A2.mod' M3;have B3:=B2.mod' M3;have hs2:w.heap.size<=w2.heap.size:=(M1.none_trans M2).size;generalize w2.alloc (Y #[G J 0 0,G J 0 0] 73)=w3 at *
 rintro _ rfl;have M4:=((M1.none_trans M2).none_trans M3).step_drew;have A4:=A3.drew;have B4:=B3.drew;have S4:=S3.drew;have h43:w3.heap.size<=w3.drew.heap.size:=(Mod.drew (S:=NoB) w3).size;generalize w3.drew=w4 at *
 have rd:∀{w':J2}{D:Nat}{h:By},h.length=32->Blk w' D 27 (hashA h)->RdB w' (J0 ⟨D,0,J⟩) h:=fun hh B=>RdB.of_blk B (fun i hi=>by rw[J5];exact ZE (by omega));have hn:=Z2W (k:=32) (rd ha A4) (by omega);rw[ha]at hn;refine hn.mono ?_;rintro _ w5⟨o1,k1,rfl,F5⟩;refine⟨_,_,_,rfl,?_⟩;have hn:=Z2W (k:=32) (rd hb (B4.mod' F5.mod)) (by omega);rw[hb]at hn;refine hn.mono ?_;rintro _ w6⟨o2,k2,rfl,F6⟩;refine⟨_,_,_,rfl,?_⟩;have M46:=F5.mod.none_trans F6.mod;have hc:=Z1s (k1:=32) (k2:=32) (rd ha (A4.mod' M46)) (rd hb (B4.mod' M46));rw[ha,hb]at hc;refine hc.mono ?_;rintro _ w6⟨rfl,rfl⟩;have S6:=S4.mod' M46;have M6:=M4.none_trans M46;refine⟨_,rfl,S6.canSet (by simp) rfl,?_⟩;rintro _ rfl;have S7:=S6.set 0 (G o1 (nibbles a).length k1);have Q7:Vcg.Mod (·=w2.heap.size) w6 _:=Mod.setCell w6 ⟨w2.heap.size,0,J⟩ (G o1 (nibbles a).length k1);rw[Z6,J5];refine⟨S7.canSet (by simp) rfl,?_⟩;rintro _ rfl;have S8:=S7.set 1 (G o2 (nibbles b).length k2);have Q8:=Q7.step_set (a:=⟨w2.heap.size,1,J⟩) (v:=G o2 (nibbles b).length k2) (fun _=>rfl)
 have hne:∀{o:Option Addr}{x:J2}{l k:Nat}{vs:List Value},ZT x w6 tU8 1 o l k vs->w3.heap.size<=x.heap.size->∀d,o=J0 d->¬d.block=w2.heap.size:=fun F hx d hd e=>by
  have:=F.new d.block ⟨d,hd,rfl⟩;have:=S3.lt;omega
 refine⟨_,_,_,_,_,_,S8.rd1 rfl,S8.rd1 rfl,hR _ _ ⟨o1,k1,o2,k2,rfl,ZK M6 Q8 hs2,?_,?_,fun d hd=>?_,fun d hd=>?_⟩⟩
 ·exact(ZN (F5.mod' F6.mod)).mod Q8 (fun d hd=>hne (F5.mod' F6.mod) h43 d hd)
 ·exact(ZN F6).mod Q8 (fun d hd=>hne F6 (by have:=F5.mod.size;omega) d hd)
 ·have:=F5.new d.block ⟨d,hd,rfl⟩;have:=M4.size;omega
 ·have:=F6.new d.block ⟨d,hd,rfl⟩;have:=F5.mod.size;have:=M4.size;omega
end
theorem ZCU{w:J2}{lab:Nat->Nat}{c:Nat}{o:Option Addr}{n k:Nat}{b:By}{ty:Jf}(H:COw w lab c tU8 1 o n k (b.map bV)){o2:Option Addr}{x:By}{k2:Nat}(hr:RdB w o2 x)(hn:n+x.length<=2^40) :
  ∃o' c' w',Sem.run W (builtinV .append #[Zu,Zu] ty #[G o n k,G o2 x.length k2]) w=.ok (G o' (n+x.length) c') w'/\COw w' (ext lab w.heap.size c) c tU8 1 o' (n+x.length) c' ((b++x).map bV)/\Stp (·=c) w lab w' (ext lab w.heap.size c):=by
 obtain⟨i,hi,hz,hs,hb⟩:=Z25 Z64;rw[JK];exact COw.append Zn hi hz hs rfl H (Z5k Zn hr) (by simp only[maxLen];omega) (by rw[hb];omega)
theorem Z9r{w:J2}{o1 o2:Option Addr}{k1 k2 l1 l2:Nat}{a b:By}(e1:l1=a.length)(e2:l2=b.length)(h1:RdB w o1 a)(h2:RdB w o2 b)(hl:a.length<=2^62) :
  JQ W Z05.n #[G o1 l1 k1,G o2 l2 k2] w (fun e w'=>e=J4 (J8 JE (Z1i a b))/\Vcg.Mod NoB w w'):=by
 subst e1 e2;exact Z9s h1 h2 hl
theorem ZBX{w:J2}{o:Option Addr}{k:Nat}{a b p:By}(ha:a.length=32)(hb:b.length=32)(hp:RdB w o p)(hl:p.length<=64) :
  JQ W Z0V.n #[G o p.length k,JR (hashA a),JR (hashA b)] w (fun e w'=>e=J4 (J8 JE (Z3i (nibbles a) (nibbles b) p))/\Vcg.Mod NoB w w'):=by
 refine ZG fun R hR=>Z0V.vc _ _ _ _ _ _ _ ?_;unfold Z0V.Vc;rintro d w1⟨rfl,rfl⟩;have M1:=Mod.alloc (S:=NoB) w (Y (hashA a) 27);have A1:=Blk.new w 27 (hashA a);generalize w.alloc (Y (hashA a) 27)=w1 at *
 rintro d w2⟨rfl,rfl⟩;have M2:=Mod.alloc (S:=NoB) w1 (Y (hashA b) 27);have B2:=Blk.new w1 27 (hashA b);have A2:=A1.mod' M2;generalize w1.alloc (Y (hashA b) 27)=w2 at *
 rintro _ rfl;have M3:=(M1.none_trans M2).step_drew;have A3:=A2.drew;have B3:=B2.drew;generalize w2.drew=w3 at *
 have rd:∀{w':J2}{D:Nat}{h:By},h.length=32->Blk w' D 27 (hashA h)->RdB w' (J0 ⟨D,0,J⟩) h:=fun hh B=>RdB.of_blk B (fun i hi=>by rw[J5];exact ZE (by omega));have hn:=Z2J (k:=32) (rd ha A3) (by omega);rw[ha]at hn;refine hn.mono ?_;rintro _ w4⟨o1,k1,rfl,F1⟩;refine⟨_,_,_,rfl,?_⟩;have hn:=Z2J (k:=32) (rd hb (B3.mod' F1.mod)) (by omega);rw[hb]at hn;refine hn.mono ?_;rintro _ w5⟨o2,k2,rfl,F2⟩;refine⟨_,_,_,rfl,?_⟩;have M5:=(M3.none_trans F1.mod).none_trans F2.mod;have p5:=hp.mod' M5;have a5:CBy w5 (fun _=>0) 0 o1 (nibbles a):=⟨(ZN F1).mod' F2.mod,fun _ _ _=>rfl⟩;have b5:CBy w5 (fun _=>0) 0 o2 (nibbles b):=⟨ZN F2,fun _ _ _=>rfl⟩;have c5:CBy w5 (fun _=>0) 0 o p:=⟨p5,fun _ _ _=>rfl⟩;obtain⟨ol,kl,w6,hr6,L6,s6⟩:=ZCU (w:=w5) (lab:=fun _=>0) (c:=1) (b:=[]) (ty:=23) (k2:=k) (COw.nil w5 _ 1 tU8 1) p5 (by omega);rw[J5]at hr6 L6;rw[Ja]at L6;refine⟨_,w6,hr6,_,_,_,rfl,?_⟩;have c6:=c5.stp s6 (by decide);obtain⟨oh,kh,w7,hr7,H7,s7⟩:=ZCU (w:=w6) (c:=2) (b:=[]) (ty:=23) (k2:=k) (COw.nil w6 (ext (fun _=>0) w5.heap.size 1) 2 tU8 1) c6.rd (by omega);rw[J5]at hr7 H7;rw[Ja]at H7;refine⟨_,w7,hr7,_,_,_,rfl,?_⟩;have s57:=(s6.mono (T:=fun k=>k=1\/k=2) (fun _ h=>JC h)).trans (s7.mono (fun _ h=>J6 h));have L7:=L6.stp s7 (by decide);generalize ext (ext (fun _=>0) w5.heap.size 1) w6.heap.size 2=lab7 at *
 refine⟨fun o1' l1' k1' o2' l2' k2' w'=>∃(lab:Nat->Nat)(j:Nat),p.length+j<=64/\l1'=p.length+j/\l2'=p.length+j/\COw w' lab 1 tU8 1 o1' l1' k1' ((p++J1 j 0).map bV)/\COw w' lab 2 tU8 1 o2' l2' k2' ((p++J1 j 15).map bV)/\Stp (fun k=>k=1\/k=2) w5 (fun _=>0) w' lab,
  fun _ l _ _ _ _ _=>64-l,⟨lab7,0,by omega,rfl,rfl,by simpa using L7,by simpa using H7,s57⟩,?_⟩
 rintro o1' _ k1' o2' _ k2' _ w8⟨lab8,j,hj,rfl,rfl,L8,H8,s8⟩;refine⟨fun hlt=>?_,fun hge=>?_⟩
 ·rintro d9 w9⟨rfl,rfl⟩
  have s9:Stp NoS w8 lab8 (w8.alloc (Y #[J8 Jg 0] 5)) (ext lab8 w8.heap.size 9):=Stp.alloc NoS w8 lab8 _ 9
  have Z9:RdB (w8.alloc (Y #[J8 Jg 0] 5)) (J0 ⟨w8.heap.size,0,J⟩) [0]:=RdB.of_blk (Blk.new w8 5 #[bV 0]) (fun j hj=>by
   obtain rfl:j=0:=by simpa using hj
   rfl)
  have L9:=L8.stp s9 (fun h=>h);have H9:=H8.stp s9 (fun h=>h);obtain⟨o10,k10,w10,hr10,L10,s10⟩:=ZCU (ty:=23) (k2:=1) L9 Z9 (by simp;omega);refine⟨_,w10,hr10,_,_,_,rfl,?_⟩;have H10:=H9.stp s10 (by decide);have s8':=(s8.trans (s9.mono (fun _ h=>h.elim))).trans (s10.mono (T:=fun k=>k=1\/k=2) (fun _ h=>JC h));clear s9 Z9 L9 H9 hr10 s10;generalize ext (ext lab8 w8.heap.size 9) (w8.alloc (Y #[J8 Jg 0] 5)).heap.size 1=lab10 at *
  rintro d11 w11⟨rfl,rfl⟩;have s11:Stp NoS w10 lab10 (w10.alloc (Y #[J8 Jg 15] 5)) (ext lab10 w10.heap.size 9):=Stp.alloc NoS w10 lab10 _ 9
  have Z11:RdB (w10.alloc (Y #[J8 Jg 15] 5)) (J0 ⟨w10.heap.size,0,J⟩) [15]:=RdB.of_blk (Blk.new w10 5 #[bV 15]) (fun j hj=>by
   obtain rfl:j=0:=by simpa using hj
   rfl)
  have L11:=L10.stp s11 (fun h=>h);have H11:=H10.stp s11 (fun h=>h);obtain⟨o12,k12,w12,hr12,H12,s12⟩:=ZCU (ty:=23) (k2:=1) H11 Z11 (by simp;omega);refine⟨_,w12,hr12,_,_,_,rfl,?_⟩;have L12:=L11.stp s12 (by decide);have s12':=(s8'.trans (s11.mono (fun _ h=>h.elim))).trans (s12.mono (T:=fun k=>k=1\/k=2) (fun _ h=>J6 h));have e1:∀x:UInt8,p++J1 j x++[x]=p++J1 (j+1) x:=fun x=>by rw[JN,List.replicate_succ']
  rw[e1]at L12 H12;exact⟨⟨_,j+1,by omega,rfl,rfl,L12,H12,s12'⟩,by simp;omega⟩
 ·obtain rfl:j=64-p.length:=by omega
  have M58:Vcg.Mod NoB w5 w8:=s8.mod (fun k hk hs=>by rcases hs with h|h<;>cases h);have M8:=M5.none_trans M58;have a8:=(a5.stp s8 (by decide)).rd;have b8:=(b5.stp s8 (by decide)).rd;have l8:RdB w8 o1' (Z3y p):=L8.own.bytes;have h8:RdB w8 o2' (Z3x p):=H8.own.bytes;have el:p.length+(64-p.length)=(Z3y p).length:=by unfold Z3y;rw[J3,Z]
  have eh:p.length+(64-p.length)=(Z3x p).length:=by unfold Z3x;rw[J3,Z]
  have hll:(Z3y p).length<=2^62:=by omega
  have hhl:(Z3x p).length<=2^62:=by omega
  have na:(nibbles a).length<=2^62:=by rw[ZQ];omega
  have place:∀v w',v=Z3i (nibbles a) (nibbles b) p->Vcg.Mod NoB w8 w'->R (J4 (J8 JE v)) w':=fun v w' hv M=>hR _ _ ⟨by rw[hv],M8.none_trans M⟩;unfold Z3i at place;refine(Z9r (k1:=k2') (k2:=k1) eh rfl h8 a8 hhl).mono ?_;rintro _ w9⟨rfl,M9⟩;refine⟨_,rfl,fun h1=>place _ _ (by rw[if_pos (JC h1)]) M9,fun h1=>?_⟩;refine(Z9r (k1:=k1') (k2:=k2) el rfl (l8.mod' M9) (b8.mod' M9) hll).mono ?_;rintro _ w10⟨rfl,M10⟩;have M810:=M9.none_trans M10;refine⟨_,rfl,fun h2=>place _ _ (by rw[if_pos (J6 h2)]) M810,fun h2=>?_⟩;have hn:¬(Z1i (Z3x p) (nibbles a)<0\/Z1i (Z3y p) (nibbles b)>0):=fun h=>h.elim h1 h2;rw[if_neg hn]at place;refine(Z9r (k1:=k1') (k2:=k1) el rfl (l8.mod' M810) (a8.mod' M810) hll).mono ?_;rintro _ w11⟨rfl,M11⟩;have M811:=M810.none_trans M11;refine⟨_,rfl,fun h3=>?_,fun h3=>place _ _ (by rw[if_neg (fun h=>h3 h.1)]) M811⟩;refine(Z9r (k1:=k2') (k2:=k2) eh rfl (h8.mod' M811) (b8.mod' M811) hhl).mono ?_;rintro _ w12⟨rfl,M12⟩;have M812:=M811.none_trans M12;exact⟨_,rfl,fun h4=>place _ _ (by rw[if_pos ⟨h3,h4⟩]) M812,fun h4=>place _ _ (by rw[if_neg (fun h=>h4 h.2)]) M812⟩
def Z5W(l:RS):It->Except Int (List It)
 | .l xs=>.ok xs
 | .s h=>match Z14 l h with
   |none=>.error 160
   |some c=>if Z0B c≠0 then .error 161 else match Z4U c with
    | .ok (.l xs)=>.ok xs
    |_=>.error 161
theorem ZDA{l:RS}{x:It}{xs:List It}(hg:Z32 x)(h:Z5W l x=.ok xs):Z32 (.l xs):=by
 cases x with
 |l ys=>cases h;exact hg
 |s b =>
  simp only[Z5W]at h;split at h
  ·cases h
  ·split at h
   ·cases h
   ·rename_i hc
    obtain⟨ys,hd,_,hgy⟩:=Z22 (Decidable.not_not.1 hc);rw[hd]at h;cases h;exact hgy
theorem ZAK{w:J2}{lab:Nat->Nat}{A:Nat->Prop}{cm c m:Nat}{l:RS}{x:It}{L:Array Value}(hM:ZAv w lab cm c l m)(hL:RfC A w x L)(hg:Z32 x)(hne:isE x=JA)(hA:∀b,w.heap.size<=b->¬A b) :
  JQ W Z19.n #[JR #[Jh (J0 m),JB JA],JR L] w (fun e w'=>Vcg.Mod NoB w w'/\match Z5W l x with
   | .error er=>e=JP (Z2o er)/\er≠0
   | .ok xs=>∃b s1 s2 s3,e=J4 (nvV b s1 s2 s3)/\NvC A w' xs b s1 s2 s3):=by
 refine ZG fun R hR=>Z19.vc _ _ _ _ _ ?_;unfold Z19.Vc;rintro d1 w1⟨rfl,rfl⟩;have M1:=Mod.alloc (S:=NoB) w (Y #[Jh (J0 m),JB JA] 69);have S1:=Blk.new w 69 #[Jh (J0 m),JB JA];generalize w.alloc (Y #[Jh (J0 m),JB JA] 69)=w1 at *
 rintro d2 w2⟨rfl,rfl⟩;have M12:=Mod.alloc (S:=NoB) w1 (Y L 82);have X2:=Blk.new w1 82 L;have S2:=S1.mod' M12;have M2:=M1.none_trans M12;generalize w1.heap.size=D at *
 generalize w1.alloc (Y L 82)=w2 at *
 rintro d3 w3⟨rfl,rfl⟩;have M23:=Mod.alloc (S:=NoB) w2 (Y #[JB JA,G J 0 0,G J 0 0,G J 0 0] 86);have V3:=Blk.new w2 86 #[JB JA,G J 0 0,G J 0 0,G J 0 0];have S3:=S2.mod' M23;have X3:=X2.mod' M23;have M3:=M2.none_trans M23;have hs2:=M2.size;have hs3:=ZC w2 (Y #[JB JA,G J 0 0,G J 0 0,G J 0 0] 86);generalize hN:w2.heap.size=N at *
 generalize w2.alloc (Y #[JB JA,G J 0 0,G J 0 0,G J 0 0] 86)=w3 at *
 have hL3:=hL.mod' M3
 have fin:∀(w':J2)(xs:List It)(b:Bool)(s1 s2 s3:Option Addr×Nat×Nat),Vcg.Mod NoB w w'->NvC (fun k=>A k\/k=N) w' xs b s1 s2 s3->Z5W l x=.ok xs->∀w4,Vcg.Mod (·=N) w' w4->R (J4 (nvV b s1 s2 s3)) w4:=by
  intro w' xs b s1 s2 s3 M hn hx w4 Q;refine hR _ _ ⟨ZK M Q (by omega),?_⟩;rw[hx];exact⟨b,s1,s2,s3,rfl,(hn.modA Q (fun b hb=>J6 hb)).restr (fun b _ h=>JC h)⟩
 cases x with
 |l xs =>
  obtain⟨Dx,v1,v2,v3,rfl,hADx,BDx,hit⟩:=hL3;obtain⟨b,p1,q1,r1,p2,q2,r2,rfl,rfl,rfl⟩:=hit.vals;have hcell:JJ w3 (JG ⟨D,0,J⟩ 32)=J0 (C (J0 ⟨Dx,0,J⟩)):=by rw[Z6];exact X3.rd1 (Z4q rfl)
  refine⟨_,hcell,fun _=>⟨_,hcell,_,rfl,Z7w BDx ?_⟩,fun h=>(by cases h)⟩
  have hit':ItC (fun k=>A k\/k=N) w3 (.l xs) (JB b) (G p1 q1 r1) (G p2 q2 r2):=by
   have h0:ItC A w (.l xs) (JB b) (G p1 q1 r1) (G p2 q2 r2):=by
    obtain⟨Dy,u1,u2,u3,hu,hAy,By_,hiy⟩:=hL
    have e:(J0 ⟨Dx,0,J⟩:Option Addr)=J0 ⟨Dy,0,J⟩:=by
     have h1:=Z4q (h:=zeros32) rfl (p:=J0 ⟨Dx,0,J⟩) (b:=JZ);rw[hu,Z4q rfl]at h1;cases h1;rfl
    cases e;have hb:=By_.mod' M3;have c1:=BDx.rd1 (i:=0) rfl;have c2:=BDx.rd1 (i:=1) rfl;have c3:=BDx.rd1 (i:=2) rfl;have d1:=hb.rd1 (i:=0) rfl;have d2:=hb.rd1 (i:=1) rfl;have d3:=hb.rd1 (i:=2) rfl;rw[c1]at d1;rw[c2]at d2;rw[c3]at d3;cases d1;cases d2;cases d3;exact hiy
   exact ItC.mod M3 _ (ItC.restr (A':=fun k=>A k\/k=N) (fun k hk hh=>hh.elim id (fun h=>by omega)) h0)
  refine(Z4E hg (fun k hk hh=>by
   rcases hh with hh|hh
   ·exact hA k (by omega) hh
   ·omega) hit').mono ?_
  rintro _ w4⟨bb,s1,s2,s3,rfl,M4,hn4⟩;exact J6 ⟨_,_,_,_,_,_,_,_,_,_,rfl,ZBV (b1:=bb) (s1:=s1) (s2:=s2) (s3:=s3) (V3.mod' M4) (fun w' Q=>fin w4 xs bb s1 s2 s3 (M3.none_trans M4) hn4 rfl w' Q)⟩
 |s h =>
  have hne':h≠[]:=by rintro rfl;cases hne
  rcases hL3 with⟨rfl,_⟩|⟨h32,rfl⟩
  ·exact(hne' rfl).elim
  have hcell:JJ w3 (JG ⟨D,0,J⟩ 32)=J0 (C J):=by rw[Z6];exact X3.rd1 (Z4q (Z0n _))
  refine⟨_,hcell,fun h=>(h rfl).elim,fun _=>⟨_,_,S3.rd1 rfl,by rw[Z6];exact S3.rd1 rfl,hashA h,X3.rowAt (ZA h) (fun i hi=>by rw[J5,ZCZ (Z0n _) hi,JH]),?_⟩⟩;have hM3:ZAv w3 (ext lab w.heap.size c) cm c l m:=hM.stp (S:=NoS) (Stp.of_nob M3 c) (fun h=>h) (fun h=>h);refine(Z3c hM3 h32).mono ?_;rintro e w4⟨M4,hno,hyes⟩;have V4:=V3.mod' M4;have M04:=M3.none_trans M4;cases hf:Z14 l h with
  |none =>
   obtain rfl:=hno hf;refine JC ⟨_,rfl,hR _ _ ⟨M04,?_⟩⟩;have hnr:Z5W l (.s h)=.error 160:=by simp only[Z5W,hf]
   rw[hnr];exact⟨rfl,by decide⟩
  |some bs =>
   obtain⟨ob,kb,rfl,hb,hbk⟩:=hyes bs hf;refine J6 ⟨_,_,_,rfl,?_⟩;have hb4:=hb.rd.mod' M4;have hNlt:=V4.lt
   refine(Z6S (A:=fun k=>A k\/k=N) (fun k hk hh=>by
    rcases hh with hh|hh
    ·exact hA k (by have:=M04.size;omega) hh
    ·omega) hb4 hbk).mono ?_
   rintro e w5⟨M5,h0,hne5⟩;have V5:=V4.mod' M5;have M05:=M04.none_trans M5;by_cases hck:Z0B bs=0
   ·obtain⟨xs,bb,s1,s2,s3,hdc,hgx,rfl,hn5⟩:=h0 hck
    have hnr:Z5W l (.s h)=.ok xs:=by simp only[Z5W,hf];rw[if_neg (by simp[hck]),hdc]
    refine J6 ⟨_,_,_,_,_,_,_,_,_,_,_,rfl,?_⟩;rintro d6 w6⟨rfl,rfl⟩;have M6:=Mod.alloc (S:=NoB) w5 (Y #[JB JA,G J 0 0,G J 0 0,G J 0 0] 86);have Y6:=Blk.new w5 86 #[JB JA,G J 0 0,G J 0 0,G J 0 0];have V6:=V5.mod' M6;have hn6:=hn5.restr (A':=fun k=>(A k\/k=N)\/k=w5.heap.size) (fun k hk hh=>hh.elim id (fun h=>by omega));have hn6:=hn6.mod' M6;have h5N:w5.heap.size≠N:=by have:=V5.lt;omega
    refine ZGv (v1:=JB bb) (v2:=G s1.1 s1.2.1 s1.2.2) (v3:=G s2.1 s2.2.1 s2.2.2) (v4:=G s3.1 s3.2.1 s3.2.2) Y6 rfl rfl rfl rfl (fun w7 Y7 Q7=>?_);have V7:=V6.mod Q7 (fun h=>h5N h.symm);have M07:Vcg.Mod NoB w w7:=ZK (M05.none_trans M6) Q7 (by have:=M05.size;omega);have hn7:=(hn6.modA Q7 (fun k hk=>J6 hk)).restr (A':=fun k=>A k\/k=N) (fun k _ h=>JC h);refine(Z1F w7 0).mono ?_;rintro e w8⟨rfl,he⟩;rw[if_pos rfl]at he;refine J6 ⟨he,get4 Y7 (ZBV (b1:=bb) (s1:=s1) (s2:=s2) (s3:=s3) V7 (fun w' Q=>fin _ xs bb s1 s2 s3 M07 hn7 hnr w' Q))⟩
   ·have he:=hne5 hck
    subst he;have hnr:Z5W l (.s h)=.error 161:=by simp only[Z5W,hf];rw[if_pos hck]
    refine J6 ⟨_,_,_,_,_,_,_,_,_,_,_,rfl,?_⟩;rintro d6 w6⟨rfl,rfl⟩;have M6:=Mod.alloc (S:=NoB) w5 (Y #[JB JA,G J 0 0,G J 0 0,G J 0 0] 86);have Y6:=Blk.new w5 86 #[JB JA,G J 0 0,G J 0 0,G J 0 0];refine ZGv (v1:=JB JA) (v2:=G J 0 0) (v3:=G J 0 0) (v4:=G J 0 0) Y6 rfl rfl rfl rfl (fun w7 Y7 Q7=>?_);have M07:Vcg.Mod NoB w w7:=ZK (M05.none_trans M6) Q7 (by have:=M05.size;omega);refine(Z1F w7 161).mono ?_;rintro e w8⟨rfl,he⟩;rw[if_neg (by decide)]at he;subst he;refine JC ⟨_,rfl,hR _ _ ⟨M07,?_⟩⟩;rw[hnr];exact⟨rfl,by decide⟩
def Back(r:Option Int)(e:Jb):Prop:=match r with
 |none=>e=J4 (JM #[])
 |some er=>e=JP (Z2o er)/\er≠0
structure ZH3 {σ:Type} (f:Value) (T:Nat->Prop) (Inv:J2->(Nat->Nat)->σ->Prop) (go:σ->It->By->σ×Option Int) (ok:By->Prop):Prop where
 s5:¬T 5
 s6:¬T 6
 stp:∀{w w':J2}{lab lab':Nat->Nat}{s:σ},Inv w lab s->Stp NoS w lab w' lab'->Inv w' lab' s
 nil:∀{s:σ}{x:It}{path:By},isE x=JZ->go s x path=(s,J)
 run:∀{w:J2}{lab:Nat->Nat}{s:σ}{x:It}{L:Array Value}{o:Option Addr}{k:Nat}{path:By},Inv w lab s->RfC (fun b=>lab b≠6) w x L->Z32 x->isE x=JA->CBy w lab 6 o path->path.length<=k->Nib path->ok path ->
  Z3G W f #[JR L,G o path.length k] w (fun e w'=>∃lab',Stp T w lab w' lab'/\Inv w' lab' (go s x path).1/\Back (go s x path).2 e)
theorem ZFh{xs:List It}{path:By}:(subsOf xs path).length<=16:=by
 unfold subsOf;split
 ·split
  ·simp
  ·simp
 ·simp
theorem ZHV{A:Nat->Prop}{w:J2}{x:It}{L:Array Value}(h:RfC A w x L):L[33]?=J0 (JB (!isE x)):=by
 cases x with
 |s b =>
  rcases h with⟨rfl,h',hh',_,rfl⟩|⟨hb32,rfl⟩
  ·exact Z7f hh'
  ·cases b with
   |nil=>cases hb32
   |cons a r=>exact Z7f (Z0n _)
 |l xs=>obtain⟨Dx,v1,v2,v3,rfl,_⟩:=h;exact Z7f rfl
theorem ZCg{lab:Nat->Nat}{w:J2}{xs:List It}{b:Bool}{s1 s2 s3:Option Addr×Nat×Nat}{path:By}(h:NvC (fun b=>lab b≠6) w xs b s1 s2 s3) :
  s2.2.1=(subsOf xs path).length/\∀j(hj:j<(subsOf xs path).length),∃g L,s2.1=J0 ⟨g,0,J⟩/\ZH w ⟨g,j*34,J⟩ 34 L/\RfC (fun b=>lab b≠6) w (subsOf xs path)[j].1 L /\
   ((s2.2.1=16/\(subsOf xs path)[j].2=path++[J7 j]/\j<16)\/(s2.2.1≠16/\∃p,(subsOf xs path)[j].2=path++p/\s1.2.1=p.length/\CBy w lab 6 s1.1 p/\p.length<=130)):=by
 have cb:∀{o:Option Addr}{p:By},RdA (fun b=>lab b≠6) w o p->CBy w lab 6 o p:=fun h=>⟨h.1,fun hne d hd=>Decidable.not_not.1 (h.2 hne d hd)⟩;rcases h with⟨p,v,h1,h2,h3,h4,h5,h6,rfl,h8,h9⟩|⟨p,D,L,h1,h2,h3,h4,h5,rfl,h7,h8,h9,h10⟩|⟨g,v,h1,h2,h3,h4,h5,h6,h7,h8,h9,h10,h11⟩
 ·have e:subsOf xs path=[]:=by unfold subsOf;rw[if_pos h1,h2]
  rw[e];exact⟨rfl,fun j hj=>absurd hj (by simp)⟩
 ·have e:subsOf xs path=[(xs.getD 1 (.s []),path++p)]:=by unfold subsOf;rw[if_pos h1,h2]
  simp only[e];refine⟨rfl,fun j hj=>?_⟩;obtain rfl:j=0:=by simpa using hj
  exact⟨D,L,rfl,by rw[Nat.zero_mul];exact h8.rowAll h9.size,h9,J6 ⟨by show ¬(1:Nat)=16;decide,p,rfl,h4,cb h5,ZBo h2⟩⟩
 ·have e:subsOf xs path=(Je 16).map fun j=>(xs.getD j (.s []),path++[J7 j]):=by unfold subsOf;rw[if_neg (by omega)]
  have el:(subsOf xs path).length=16:=by rw[e];simp
  refine⟨by omega,fun j hj=>?_⟩;obtain⟨L,hr,hc⟩:=h9 j (by omega);have ej:(subsOf xs path)[j]=(xs.getD j (.s []),path++[J7 j]):=by simp only[e];simp
  rw[ej];exact⟨g,L,h5,hr,hc,JC ⟨h6,rfl,by omega⟩⟩
theorem ZD1{σ:Type}{go:σ->It->By->σ×Option Int}{s:σ}{l:List (It×By)}{j:Nat}(hj:j<l.length):foldK go s (l.drop j)=match go s l[j].1 l[j].2 with
  |(s',J)=>foldK go s' (l.drop (j+1))
  |(s',J0 e)=>(s',J0 e):=by
 rw[List.drop_eq_getElem_cons hj];rfl
theorem Z6F{j:Nat}(h:j<16):J8 Jg (U Jg (j:Int))=bV (J7 j):=by
 have:∀m:Fin 16,U Jg (m.val:Int)=((J7 m.val).toNat:Int):=by decide +kernel
 simp only[bV];rw[this ⟨j,h⟩]
section
variable{σ:Type}{f:Value}{T:Nat->Prop}{Inv:J2->(Nat->Nat)->σ->Prop}{go:σ->It->By->σ×Option Int}{ok:By->Prop}
theorem ZCy(V:ZH3 f T Inv go ok){w:J2}{lab:Nat->Nat}{s:σ}{xs:List It}{b:Bool}{s1 s2 s3:Option Addr×Nat×Nat}{o:Option Addr}{k:Nat}{path:By}(hI:Inv w lab s)(hg:Z32 (.l xs))(hn:NvC (fun b=>lab b≠6) w xs b s1 s2 s3)(hp:CBy w lab 6 o path)(hl:path.length<=64)(hnib:Nib path)(hok:∀q,q≠[]->ok (path++q)) :
  JQ W Z0Y.n #[nvV b s1 s2 s3,G o path.length k,f] w (fun e w'=>∃lab',Stp T w lab w' lab'/\Inv w' lab' (eachW go s xs path).1/\Back (eachW go s xs path).2 e):=by
 refine ZG fun R hR=>Z0Y.vc _ _ _ _ _ _ _ _ _ _ _ _ _ _ _ _ ?_;unfold Z0Y.Vc;rintro d1 w1⟨rfl,rfl⟩;have st1:Stp NoS w lab (w.alloc (Y #[JB b,G s1.1 s1.2.1 s1.2.2,G s2.1 s2.2.1 s2.2.2,G s3.1 s3.2.1 s3.2.2] 86)) (ext lab w.heap.size 5):=Stp.alloc NoS w lab _ 5;have N1:=CB.new w lab 5 86 #[JB b,G s1.1 s1.2.1 s1.2.2,G s2.1 s2.2.1 s2.2.2,G s3.1 s3.2.1 s3.2.2];have I1:=V.stp hI st1;have hn1:=hn.stp st1 (fun h=>h);have P1:=hp.stp st1 (fun h=>h);generalize hD:w.heap.size=D at *
 generalize w.alloc (Y #[JB b,G s1.1 s1.2.1 s1.2.2,G s2.1 s2.2.1 s2.2.2,G s3.1 s3.2.1 s3.2.2] 86)=w1 at *
 generalize ext lab D 5=lab1 at *
 refine⟨_,_,_,by rw[Z6];exact N1.blk.rd1 rfl,?_⟩;have hlen:=(ZCg (path:=path) hn1).1;have h16l:=ZFh (xs:=xs) (path:=path);refine⟨fun i w'=>∃(j:Nat)(lab':Nat->Nat)(s':σ),i=(j:Int)/\j<=(subsOf xs path).length/\Stp T w1 lab1 w' lab'/\Inv w' lab' s'/\foldK go s' ((subsOf xs path).drop j)=eachW go s xs path,fun i _=>((s2.2.1:Int)-i).toNat,⟨0,lab1,s,rfl,Jc _,Stp.refl _ _ _,I1,rfl⟩,?_⟩;rintro _ _ w2⟨j,lab2,s',rfl,hj,st2,I2,heq⟩;have N2:=N1.stp st2 V.s5;have hn2:=hn1.stp st2 V.s6;have P2:=P1.stp st2 V.s6;refine⟨fun hlt=>?_,fun hge=>?_⟩
 ·have hjl:j<(subsOf xs path).length:=by omega
  obtain⟨g,L,hg0,hrow,hL,hcase⟩:=(ZCg (path:=path) hn2).2 j hjl;obtain⟨gx,q,hq,hqn,hqe,hql⟩:=Z5m (path:=path) hg _ (List.getElem_mem hjl);rw[ZD1 hjl]at heq;generalize hx:(subsOf xs path)[j].1=x at *
  generalize hy:(subsOf xs path)[j].2=y at *
  refine⟨_,hg0,⟨by omega,by omega⟩,L,by rw[Z6,JF,J5];exact hrow,?_⟩;rintro d3 w3⟨rfl,rfl⟩;rw[Z7b];obtain⟨w4,hr4,V4,st4⟩:=Z6t hL;have st24:=st2.trans (st4.mono (fun _ h=>h.elim));have I4:=V.stp I2 st4;have N4:=N2.stp st4 (fun h=>h);have P4:=P2.stp st4 (fun h=>h);have hn4:=hn2.stp st4 (fun h=>h);have hlab4:ext lab2 w2.heap.size 5 w2.heap.size=5:=ext_new (J9 _);generalize w2.heap.size=E at *
  generalize ext lab2 E 5=lab4 at *
  obtain⟨_,L4,B4,hL4⟩:=V4;refine⟨w4,hr4,!isE x,by rw[Z6,J5];exact B4.rd1 (ZHV hL4),fun hb=>?_,fun hb=>?_⟩
  ·have hE:isE x=JZ:=by simpa using hb
   rw[V.nil hE]at heq;exact⟨⟨j+1,lab4,s',by rw[Z0 (by omega) (by omega)];omega,by omega,st24,I4,heq⟩,by dsimp only;rw[Z0 (by omega) (by omega)];omega⟩
  ·have hE:isE x=JA:=by simpa using hb
   refine get4 N4.blk ?_;refine Z4o.mono ?_;rintro _ w5⟨rfl,M5⟩;have st5:Stp NoS w4 lab4 w5 (ext lab4 w4.heap.size 5):=Stp.of_nob M5 5;have B5:=(CB.mk B4 hlab4).stp st5 (fun h=>h);have I5:=V.stp I4 st5;have N5:=N4.stp st5 (fun h=>h);have P5:=P4.stp st5 (fun h=>h);have hn5:=hn4.stp st5 (fun h=>h);have hL5:=hL4.stp st5 (fun h=>h);have st25:=st24.trans (st5.mono (fun _ h=>h.elim));generalize ext lab4 w4.heap.size 5=lab5 at *
   have stD:∀(w0:J2)(lab0:Nat->Nat),Stp NoS w0 lab0 w0.drew lab0:=fun w0 lab0=>Stp.drew NoS w0 lab0
   have go_on:∀(w6:J2)(lab6:Nat->Nat)(op:Option Addr)(kp:Nat),Stp NoS w5 lab5 w6 lab6->CBy w6 lab6 6 op y->y.length<=kp ->
     ZH w6 ⟨E,0,J⟩ 34 L4/\Z3G W f #[JR L4,G op y.length kp] w6 (fun e42 w43=>(∃ch,e42=JP ch/\R (JP ch) w43)\/e42=J4 (JM #[])/\(∃(j_1:Nat)(lab':Nat->Nat)(s'_1:σ),U JE ((j:Int)+1)=(j_1:Int)/\j_1<=(subsOf xs path).length/\Stp T w1 lab1 w43 lab'/\Inv w43 lab' s'_1/\foldK go s'_1 ((subsOf xs path).drop j_1)=eachW go s xs path)/\((s2.2.1:Int)-U JE ((j:Int)+1)).toNat<((s2.2.1:Int)-(j:Int)).toNat):=by
    intro w6 lab6 op kp st6 P6 hk;have I6:=V.stp I5 st6;have B6:=B5.stp st6 (fun h=>h);have hL6:=hL5.stp st6 (fun h=>h);refine⟨B6.blk.rowAll hL4.size,?_⟩;refine Z3G.mono (V.run I6 hL6 gx hE P6 hk (by rw[hq];intro c hc;exact(List.mem_append.1 hc).elim (hnib c) (hqn c)) (by rw[hq];exact hok q hqe)) ?_;rintro e w7⟨lab7,st7,I7,hb7⟩;have st27:=(st25.trans (st6.mono (fun _ h=>h.elim))).trans st7;generalize go s' x y=r at heq I7 hb7;obtain⟨s'',oe⟩:=r;cases oe with
    |none =>
     exact J6 ⟨hb7,⟨j+1,lab7,s'',by rw[Z0 (by omega) (by omega)];omega,by omega,st27,I7,heq⟩,by rw[Z0 (by omega) (by omega)];omega⟩
    |some er =>
     dsimp only at heq;rw[<-heq]at hR;obtain⟨rfl,hne⟩:=hb7;exact JC ⟨_,rfl,hR _ _ ⟨lab7,(st1.mono (fun _ h=>h.elim)).trans st27,I7,rfl,hne⟩⟩
   refine J6 ⟨_,rfl,fun hbr=>?_,fun hbr=>?_⟩
   ·have h16:s2.2.1=16:=of_decide_eq_true hbr
    obtain⟨_,hy',hj16⟩:=hcase.resolve_right (fun h=>h.1 h16);rintro _ rfl;have st6:=stD w5 lab5;refine⟨L4,(B5.blk.drew).rowAll hL4.size,?_⟩;have P6:=P5.stp st6 (fun h=>h);generalize w5.drew=w6 at *
    rintro d7 w7⟨rfl,rfl⟩;rw[Z6F hj16];have st7:Stp NoS w6 lab5 (w6.alloc (Y #[bV (J7 j)] 5)) (ext lab5 w6.heap.size 5):=Stp.alloc NoS w6 lab5 _ 5
    have Z7:RdB (w6.alloc (Y #[bV (J7 j)] 5)) (J0 ⟨w6.heap.size,0,J⟩) [J7 j]:=RdB.of_blk (Blk.new w6 5 #[bV (J7 j)]) (fun i hi=>by
     obtain rfl:i=0:=by simpa using hi
     rfl)
    have P7:=P6.stp st7 (fun h=>h);have B7:=(B5.stp st6 (fun h=>h)).stp st7 (fun h=>h);generalize w6.alloc (Y #[bV (J7 j)] 5)=w7 at *
    generalize(J0 ⟨w6.heap.size,0,J⟩:Option Addr)=oz at *
    generalize ext lab5 w6.heap.size 5=lab7 at *
    refine⟨B7.blk.rowAll hL4.size,?_⟩;refine(Z4W (k:=k) (k2:=1) P7.rd Z7 (by simp;omega)).mono ?_;rintro _ w8⟨o8,k8,rfl,F8⟩;have st8:Stp NoS w7 lab7 w8 (ext lab7 w7.heap.size 6):=Stp.of_nob F8.mod 6;have P8:CBy w8 (ext lab7 w7.heap.size 6) 6 o8 (path++[J7 j]):=⟨ZN F8,fun _ d hd=>ext_new (F8.new d.block ⟨d,hd,rfl⟩)⟩;rw[<-hy']at P8 ⊢;exact J6 ⟨_,_,_,rfl,go_on w8 _ o8 k8 ((st6.trans st7).trans st8) P8 (by have:=F8.own.cap.1;rwa[<-hy']at this)⟩
   ·have h16:s2.2.1≠16:=of_decide_eq_false hbr
    obtain⟨_,p,hy',hpl,hpc,hp130⟩:=hcase.resolve_left (fun h=>h16 h.1);rintro _ rfl;have st6:=stD w5 lab5;have P6:=P5.stp st6 (fun h=>h);have N6:=N5.stp st6 (fun h=>h);have p6:=((hpc.stp st4 (fun h=>h)).stp st5 (fun h=>h)).stp st6 (fun h=>h);refine⟨L4,(B5.blk.drew).rowAll hL4.size,?_⟩;generalize w5.drew=w6 at *
    obtain⟨o1,l1,k1⟩:=s1;dsimp only at hpl hpc p6 N6;subst hpl;refine⟨_,_,_,by rw[Z6];exact N6.blk.rd1 rfl,?_⟩;refine(Z4W (k:=k) (k2:=k1) P6.rd p6.rd (by omega)).mono ?_;rintro _ w8⟨o8,k8,rfl,F8⟩;have st8:Stp NoS w6 lab5 w8 (ext lab5 w6.heap.size 6):=Stp.of_nob F8.mod 6;have P8:CBy w8 (ext lab5 w6.heap.size 6) 6 o8 (path++p):=⟨ZN F8,fun _ d hd=>ext_new (F8.new d.block ⟨d,hd,rfl⟩)⟩;rw[<-hy']at P8 ⊢;exact J6 ⟨_,_,_,rfl,go_on w8 _ o8 k8 (st6.trans st8) P8 (by have:=F8.own.cap.1;rwa[<-hy']at this)⟩
 ·have hjl:j=(subsOf xs path).length:=by omega
  rw[hjl,List.drop_length]at heq;rw[<-heq]at hR;exact hR _ _ ⟨lab2,(st1.mono (fun _ h=>h.elim)).trans st2,I2,rfl⟩
end
theorem ZFn{l:RS}{a b:By}{f:Nat}{s:RS}{x:It}{path:By}(h:Off a b path):visP l a b f s x path=(s,J):=by
 cases f with
 |zero=>rfl
 |succ f =>
  cases x with
  |l xs=>simp only[visP];rw[if_pos h]
  |s k=>simp only[visP];rw[if_pos (JC h)]
def addR(l s:RS):It->RS
 | .l _=>s
 | .s h=>if met s h then s else match Z14 l h with
   |some c=>s++[(h,c)]
   |none=>s
theorem ZGo{l:RS}{a b:By}{f:Nat}{s:RS}{x:It}{path:By}(h:¬Off a b path)(hx:isE x=JA):visP l a b (f+1) s x path=match Z5W l x with
  | .error er=>(s,J0 er)
  | .ok xs=>eachW (visP l a b f) (addR l s x) xs path:=by
 cases x with
 |l xs=>simp only[visP];rw[if_neg h];rfl
 |s k =>
  have hk:k≠[]:=by rintro rfl;cases hx
  simp only[visP];rw[if_neg (fun h'=>h'.elim h hk)];simp only[Z55,Z5W,addR];cases Z14 l k with
  |none=>rfl
  |some c =>
   simp only;by_cases hc:Z0B c≠0
   ·rw[if_pos hc,if_pos hc]
   ·rw[if_neg hc,if_neg hc]
    cases Z4U c with
    |error e=>rfl
    |ok y=>cases y<;>rfl
abbrev SR:Nat->Prop:=fun k=>k=2\/k=7\/k=8
structure RgS (l:RS) (a b:By) (d2 d3 d4 d5 d6 mS m:Nat) (w:J2) (lab:Nat->Nat) (out:RS):Prop where
 sp:∃oa ka ob kb,CB w lab 1 d2 73 #[G oa a.length ka,G ob b.length kb]/\CBy w lab 6 oa a/\CBy w lab 6 ob b
 st:CB w lab 1 d3 69 #[Jh (J0 mS),JB JA]
 store:ZAv w lab 9 0 l mS
 mc:CB w lab 1 d4 78 #[Jh (J0 m)]
 met:∃es:List (H32×Value),CM (fun _=>True) ZDq w lab 2 m es/\(es.map fun x=>x.1.1)=out.map Prod.fst/\∀x∈es,x.2=JR #[]
 outs:∃o n k,CB w lab 7 d5 34 #[G o n k]/\Z4g w lab 8 10 out o n k
 f:CB w lab 1 d6 79 #[.func (.func 33) #[] #[C (J0 ⟨d2,0,J⟩),C (J0 ⟨d3,0,J⟩),C (J0 ⟨d4,0,J⟩),C (J0 ⟨d5,0,J⟩),C (J0 ⟨d6,0,J⟩)]]
 laid:Z74 l out
section
variable{l:RS}{a b:By}{d2 d3 d4 d5 d6 mS m:Nat}{w w':J2}{lab lab':Nat->Nat}{out:RS}
theorem RgS.stp{S:Nat->Prop}(h:RgS l a b d2 d3 d4 d5 d6 mS m w lab out)(s:Stp S w lab w' lab')(h0:¬S 0)(h1:¬S 1)(h2:¬S 2)(h6:¬S 6)(h7:¬S 7)(h8:¬S 8)(h9:¬S 9)(h10:¬S 10):RgS l a b d2 d3 d4 d5 d6 mS m w' lab' out:=by
 obtain⟨oa,ka,ob,kb,e1,e2,e3⟩:=h.sp;obtain⟨es,m1,m2⟩:=h.met;obtain⟨o,n,k,o1,o2⟩:=h.outs;exact⟨⟨oa,ka,ob,kb,e1.stp s h1,e2.stp s h6,e3.stp s h6⟩,h.st.stp s h1,h.store.stp s h9 h0,h.mc.stp s h1,⟨es,m1.stp s h2,m2⟩,⟨o,n,k,o1.stp s h7,o2.stp s h8 h10⟩,h.f.stp s h1,h.laid⟩
theorem RgS.no(h:RgS l a b d2 d3 d4 d5 d6 mS m w lab out)(s:Stp NoS w lab w' lab'):RgS l a b d2 d3 d4 d5 d6 mS m w' lab' out :=
 h.stp s (fun h=>h) (fun h=>h) (fun h=>h) (fun h=>h) (fun h=>h) (fun h=>h) (fun h=>h) (fun h=>h)
theorem ZFS{bb:Bool}{s1 s2 s3:Option Addr×Nat×Nat}{K:Addr->J2->Prop}(h:∀w' lab' N,Stp NoS w lab w' lab'->CB w' lab' 5 N 86 #[JB bb,G s1.1 s1.2.1 s1.2.2,G s2.1 s2.2.1 s2.2.2,G s3.1 s3.2.1 s3.2.2]->K ⟨N,0,J⟩ w') :
  ∀(d33:Addr)(w34:J2),ZB w 86 #[(JB JA),(G J 0 0),(G J 0 0),(G J 0 0)] d33 w34 ->
   Z1 w34 d33 (JB bb)/\∀w35:J2,Z8 w34 d33 (JB bb) w35->Z1 w35 (JG d33 1) (G s1.1 s1.2.1 s1.2.2)/\∀w36:J2,Z8 w35 (JG d33 1) (G s1.1 s1.2.1 s1.2.2) w36 ->
   Z1 w36 (JG d33 2) (G s2.1 s2.2.1 s2.2.2)/\∀w37:J2,Z8 w36 (JG d33 2) (G s2.1 s2.2.1 s2.2.2) w37->Z1 w37 (JG d33 3) (G s3.1 s3.2.1 s3.2.2)/\∀w38:J2,Z8 w37 (JG d33 3) (G s3.1 s3.2.1 s3.2.2) w38->K d33 w38:=by
 rintro d w1⟨rfl,rfl⟩;have M1:=Mod.alloc (S:=NoB) w (Y #[JB JA,G J 0 0,G J 0 0,G J 0 0] 86)
 exact ZGv (v1:=JB bb) (v2:=G s1.1 s1.2.1 s1.2.2) (v3:=G s2.1 s2.2.1 s2.2.2) (v4:=G s3.1 s3.2.1 s3.2.2) (Blk.new w 86 #[JB JA,G J 0 0,G J 0 0,G J 0 0]) rfl rfl rfl rfl (fun w2 B2 Q2 =>
  h w2 (ext lab w.heap.size 5) w.heap.size (Stp.of_nob (ZK M1 Q2 (J9 _)) 5) ⟨B2,ext_new (J9 _)⟩)
theorem ZAZ(hb:∀x∈l,x.2.length<=2^30)(hlen:l.length<=4096):∀(f:Nat) {w:J2} {lab:Nat->Nat} {s:RS} {x:It} {L:Array Value} {o:Option Addr} {k:Nat} {path:By},RgS l a b d2 d3 d4 d5 d6 mS m w lab s->RfC (fun b=>lab b≠6) w x L->Z32 x->isE x=JA->CBy w lab 6 o path->path.length<=k->Nib path->66<=f+path.length ->
  JQ W Zi.n #[JR L,G o path.length k,C (J0 ⟨d2,0,J⟩),C (J0 ⟨d3,0,J⟩),C (J0 ⟨d4,0,J⟩),C (J0 ⟨d5,0,J⟩),C (J0 ⟨d6,0,J⟩)] w (fun e w'=>∃lab',Stp SR w lab w' lab'/\RgS l a b d2 d3 d4 d5 d6 mS m w' lab' (visP l a b f s x path).1/\Back (visP l a b f s x path).2 e):=by
 intro f
 induction f with
 |zero =>
  intro w lab s x L o k path hI hL hg hE hp hk hnib hf;refine ZG fun R hR=>Zi.vc _ _ _ _ _ _ _ _ _ _ _ ?_;unfold Zi.Vc;rintro d7 w1⟨rfl,rfl⟩;have st1:Stp NoS w lab (w.alloc (Y L 82)) (ext lab w.heap.size 5):=Stp.alloc NoS w lab _ 5;exact⟨fun _=>hR _ _ ⟨_,st1.mono (fun _ h=>h.elim),hI.no st1,rfl⟩,fun h=>absurd h (by omega)⟩
 |succ f ih =>
  intro w lab s x L o k path hI hL hg hE hp hk hnib hf;refine ZG fun R hR=>Zi.vc _ _ _ _ _ _ _ _ _ _ _ ?_;unfold Zi.Vc;rintro d7 w1⟨rfl,rfl⟩;have st1:Stp NoS w lab (w.alloc (Y L 82)) (ext lab w.heap.size 5):=Stp.alloc NoS w lab _ 5;have X1:=CB.new w lab 5 82 L;have I1:=hI.no st1;have P1:=hp.stp st1 (fun h=>h);have hL1:=hL.stp st1 (fun h=>h);generalize w.heap.size=D at *
  generalize w.alloc (Y L 82)=w1 at *
  generalize ext lab D 5=lab1 at *
  have off:∀w' lab',Stp NoS w1 lab1 w' lab'->Off a b path->R (J4 (JM #[])) w':=fun w' lab' st ho=>by
   rw[ZFn ho]at hR;exact hR _ _ ⟨lab',(st1.trans st).mono (fun _ h=>h.elim),I1.no st,rfl⟩
  refine⟨fun h=>off _ _ (Stp.refl _ _ _) (JC (by omega)),fun hle=>?_⟩;have hl64:path.length<=64:=by omega
  obtain⟨oa,ka,ob,kb,e1,e2,e3⟩:=I1.sp;refine⟨_,_,_,_,_,_,e1.blk.rd1 rfl,by rw[Z6];exact e1.blk.rd1 rfl,?_⟩;refine(ZD6 (k:=k) e2.rd e3.rd P1.rd hl64).mono ?_;rintro _ w2⟨rfl,M2⟩;have st2:Stp NoS w1 lab1 w2 (ext lab1 w1.heap.size 5):=Stp.of_nob M2 5;refine J6 ⟨_,rfl,fun hp2=>off _ _ st2 (J6 (fun h=>hp2 (Z6U.2 h))),fun hp2=>?_⟩;have hon:¬Off a b path:=fun h=>h.elim (fun h=>by omega) (fun h=>h (Z6U.1 hp2));rw[ZGo hon hE]at hR;have I2:=I1.no st2;have X2:=X1.stp st2 (fun h=>h);have P2:=P1.stp st2 (fun h=>h);have hL2:=hL1.stp st2 (fun h=>h);have st02:=st1.trans st2;generalize ext lab1 w1.heap.size 5=lab2 at *
  clear e1 e2 e3 off I1 X1 P1 hL1 st1 st2 M2;refine⟨_,_,I2.st.blk.rd1 rfl,by rw[Z6];exact I2.st.blk.rd1 rfl,L,X2.blk.rowAll hL2.size,?_⟩;refine(ZAK (A:=fun b=>ext lab2 w2.heap.size 6 b≠6) I2.store (RfC.restr (fun b hb h=>by rwa[Z23 hb]at h) hL2) hg hE (fun b hb h=>h (ext_new hb))).mono ?_;rintro e w3⟨M3,hres⟩;have st3:Stp NoS w2 lab2 w3 (ext lab2 w2.heap.size 6):=Stp.of_nob M3 6;have I3:=I2.no st3;have X3:=X2.stp st3 (fun h=>h);have P3:=P2.stp st3 (fun h=>h);have hL3:=hL2.stp st3 (fun h=>h);have st03:=st02.trans st3;generalize ext lab2 w2.heap.size 6=lab3 at *
  clear I2 X2 P2 hL2 st02 st3 M3;cases hnr:Z5W l x with
  |error er =>
   rw[hnr]at hres hR;obtain⟨rfl,hne⟩:=hres;exact JC ⟨_,rfl,hR _ _ ⟨lab3,st03.mono (fun _ h=>h.elim),I3,rfl,hne⟩⟩
  |ok xs =>
  rw[hnr]at hres hR;obtain⟨bb,s1,s2,s3,rfl,hn3⟩:=hres;have hgx:=ZDA hg hnr;refine J6 ⟨_,_,_,_,_,_,_,_,_,_,rfl,?_⟩;refine ZFS (lab:=lab3) (fun w4 lab4 N st4 N4=>?_);have I4:=I3.no st4;have X4:=X3.stp st4 (fun h=>h);have P4:=P3.stp st4 (fun h=>h);have hL4:=hL3.stp st4 (fun h=>h);have hn4:=hn3.stp st4 (fun h=>h);have st04:=st03.trans st4;clear I3 X3 P3 hL3 hn3 st03 st4
  have go_on:∀w' lab' s',Stp SR w lab w' lab'->RgS l a b d2 d3 d4 d5 d6 mS m w' lab' s'->NvC (fun b=>lab' b≠6) w' xs bb s1 s2 s3->CBy w' lab' 6 o path->s'=addR l s x ->
    JQ W Z0Y.n #[nvV bb s1 s2 s3,G o path.length k,.func (.func 33) #[] #[C (J0 ⟨d2,0,J⟩),C (J0 ⟨d3,0,J⟩),C (J0 ⟨d4,0,J⟩),C (J0 ⟨d5,0,J⟩),C (J0 ⟨d6,0,J⟩)]] w' (fun e w''=>(∃ch,e=JP ch/\R (JP ch) w'')\/e=J4 (JM #[])/\R (J4 (JM #[])) w''):=by
   intro w' lab' s' st' I' hn' P' hs';subst hs'
   have V:ZH3 (.func (.func 33) #[] #[C (J0 ⟨d2,0,J⟩),C (J0 ⟨d3,0,J⟩),C (J0 ⟨d4,0,J⟩),C (J0 ⟨d5,0,J⟩),C (J0 ⟨d6,0,J⟩)]) SR (RgS l a b d2 d3 d4 d5 d6 mS m) (visP l a b f) (fun q=>66<=f+q.length):={
    s5:=by decide
    s6:=by decide
    stp:=fun h s=>h.no s
    nil:=fun{s x path} h=>by
     cases x with
     |l xs=>cases h
     |s c =>
      cases c with
      |cons y r=>cases h
      |nil =>
       cases f with
       |zero=>rfl
       |succ f=>simp only[visP];rw[if_pos (J6 trivial)]
    run:=fun{w lab s x L o k path} hI hL hg hE hp hk hnib hf=>⟨33,#[],_,rfl,by kernel_rfl,ih hI hL hg hE hp hk hnib hf⟩ }
   refine(ZCy V I' hgx hn' P' hl64 hnib (fun q hq=>by
    have:0<q.length:=List.length_pos_iff.2 hq;rw[J3];omega)).mono ?_
   rintro e w''⟨lab'',st'',I'',hb''⟩;have fin:∀r,Back (eachW (visP l a b f) (addR l s x) xs path).2 r->R r w'':=fun r hr=>hR _ _ ⟨lab'',st'.trans st'',I'',hr⟩;revert hb'' fin;generalize(eachW (visP l a b f) (addR l s x) xs path).2=oe;intro hb'' fin;cases oe with
   |none=>obtain rfl:=hb'';exact J6 ⟨rfl,fin _ rfl⟩
   |some er=>obtain⟨rfl,hne⟩:=hb'';exact JC ⟨_,rfl,fin _ ⟨rfl,hne⟩⟩
  cases x with
  |l ys =>
   obtain⟨Dx,v1,v2,v3,rfl,_⟩:=hL4;refine⟨_,by rw[Z6];exact X4.blk.rd1 (Z4q rfl),fun h=>(by cases h),fun _=>?_⟩;exact get4 N4.blk ⟨_,I4.f.blk.rd1 rfl,go_on _ _ _ (st04.mono (fun _ h=>h.elim)) I4 hn4 P4 rfl⟩
  |s h =>
   have hne':h≠[]:=by rintro rfl;cases hE
   rcases hL4 with⟨rfl,_⟩|⟨h32,rfl⟩
   ·exact(hne' rfl).elim
   refine⟨J,by rw[Z6];exact X4.blk.rd1 (Z4q (Z0n _)),fun _=>?_,fun h=>(h rfl).elim⟩;have hrow:∀{w':J2}{lab':Nat->Nat},CB w' lab' 5 D 82 (rfA (hashA h).toList J JZ)->ZH w' ⟨D,0,J⟩ 32 (hashA h):=fun X=>X.blk.rowAt (ZA h) (fun i hi=>by rw[J5,ZCZ (Z0n _) hi,JH]);obtain⟨es,m1,m2,m3⟩:=I4.met;have hlook:=Z2K.look m1.map Z7O ZBk (ZF7 w4) (k:=⟨h,h32⟩) trivial JZ;rw[if_pos rfl,Z8B m3,Z4S,ZDb es s m2]at hlook;refine⟨_,I4.mc.blk.rd1 rfl,_,hrow X4,_,hlook,_,rfl,?_⟩;rintro d44 w5⟨rfl,rfl⟩;have st5:Stp NoS w4 lab4 (w4.alloc (Y #[] 88)) (ext lab4 w4.heap.size 5):=Stp.alloc NoS w4 lab4 _ 5;have I5:=I4.no st5;have X5:=X4.stp st5 (fun h=>h);have P5:=P4.stp st5 (fun h=>h);have N5:=N4.stp st5 (fun h=>h);have hn5:=hn4.stp st5 (fun h=>h);have st05:=(st04.trans st5).mono (T:=SR) (fun _ h=>h.elim);generalize w4.alloc (Y #[] 88)=w5 at *
   generalize ext lab4 w4.heap.size 5=lab5 at *
   clear I4 X4 P4 N4 hn4 st04 st5 m1 m2 m3 hlook;refine⟨fun hm=>?_,fun hm=>?_⟩
   ·have hm:met s h=JA:=hm
    obtain⟨es,m1,m2,m3⟩:=I5.met
    obtain⟨c,hf⟩:∃c,Z14 l h=J0 c:=by
     simp only[Z5W]at hnr;cases hq:Z14 l h with
     |none=>rw[hq]at hnr;cases hnr
     |some c=>exact⟨c,rfl⟩
    have hadd:addR l s (.s h)=s++[(h,c)]:=by simp only[addR];rw[hm,hf];rfl
    obtain⟨w6,hr6,hm6,M6⟩:=Z2K.update m1.map Z7O ZBk (k:=⟨h,h32⟩) trivial (JR #[]);have c1:lab5 m=2:=m1.clr
    have hnew:∀x∈es,x.1≠⟨h,h32⟩:=fun x hx e=>by
     have hs:(Z33 (⟨h,h32⟩:H32) es).isSome=JA:=by rw[Z4S,ZDb es s m2];exact hm
     rw[Z4S]at hs;have:=List.any_eq_false.1 hs x hx;rw[e]at this;exact this (decide_eq_true rfl)
    rw[Z6y hnew]at hm6;have st6:Stp (fun k=>k=2) w5 lab5 w6 (ext lab5 w5.heap.size 5):=Stp.of_mod M6 5 (fun k _ e=>by subst e;exact c1);have cm6:CM (fun _=>True) ZDq w6 (ext lab5 w5.heap.size 5) 2 m (es++[(⟨h,h32⟩,JR #[])]):=⟨hm6,(st6.lab m m1.map.lt).trans c1⟩;refine⟨_,I5.mc.blk.rd1 rfl,_,hrow X5,w6,hr6,?_⟩;rintro _ rfl;have st7:=st6.trans (Stp.drew (fun k=>k=2) w6 (ext lab5 w5.heap.size 5));have cm7:=cm6.stp (Stp.drew NoS w6 _) (fun h=>h);clear st6 cm6 hr6 hm6 M6;generalize w6.drew=w7 at *
    generalize ext lab5 w5.heap.size 5=lab7 at *
    obtain⟨sa,ska,sb,skb,sp1,sp2,sp3⟩:=I5.sp;obtain⟨oo,on,ok,q1,q2⟩:=I5.outs;have X7:=X5.stp st7 (by decide);have P7:=P5.stp st7 (by decide);have N7:=N5.stp st7 (by decide);have hn7:=hn5.stp st7 (by decide);have S7:=I5.st.stp st7 (by decide);have SM7:=I5.store.stp st7 (by decide) (by decide);have q17:=q1.stp st7 (by decide);have q27:=q2.stp st7 (by decide) (by decide);have spa:=sp1.stp st7 (by decide);have spb:=sp2.stp st7 (by decide);have spc:=sp3.stp st7 (by decide);have mc7:=I5.mc.stp st7 (by decide);have f7:=I5.f.stp st7 (by decide);refine⟨_,_,_,q17.blk.rd1 rfl,hashA h,hrow X7,_,_,S7.blk.rd1 rfl,by rw[Z6];exact S7.blk.rd1 rfl,hashA h,hrow X7,?_⟩;refine(Z3c SM7 h32).mono ?_;rintro e w8⟨M8,_,hyes⟩;obtain⟨oc,kc,rfl,hc8,hck⟩:=hyes c hf;have st8:Stp NoS w7 lab7 w8 (ext lab7 w7.heap.size 5):=Stp.of_nob M8 5;have X8:=X7.stp st8 (fun h=>h);have q18:=q17.stp st8 (fun h=>h);refine J6 ⟨_,_,_,rfl,hrow X8,q18.blk.rd1 rfl,?_⟩;have hc30:c.length<=2^30:=hb _ (Z5M hf);refine(Z1z (k:=kc) (hc8.rd.mod' M8) (by omega)).mono ?_;rintro _ w9⟨o9,k9,rfl,F9⟩;have st9:Stp NoS w8 (ext lab7 w7.heap.size 5) w9 (ext (ext lab7 w7.heap.size 5) w8.heap.size 10):=Stp.of_nob F9.mod 10;have c9:CBy w9 (ext (ext lab7 w7.heap.size 5) w8.heap.size 10) 10 o9 c:=⟨ZN F9,fun _ d hd=>ext_new (F9.new d.block ⟨d,hd,rfl⟩)⟩;have st79:=st8.trans st9;have X9:=X8.stp st9 (fun h=>h);have q19:=q18.stp st9 (fun h=>h);have q29:=q27.stp st79 (fun h=>h) (fun h=>h);have hZ:nd0.size=33:=rfl;refine J6 ⟨_,_,_,rfl,hrow X9,q19.blk.rd1 rfl,ZA h,by rw[ZX];unfold lputL;rw[ZX,hZ],?_⟩;rw[Z6p hZ];clear st8 st9 X8 q18 M8 hc8 hyes;generalize ext (ext lab7 w7.heap.size 5) w8.heap.size 10=lab9 at *
    rintro d10 w10⟨rfl,rfl⟩;have st10:Stp NoS w9 lab9 (w9.alloc (Y (ndA h o9 c.length k9) tNd)) (ext lab9 w9.heap.size 5):=Stp.alloc NoS w9 lab9 _ 5;have B10:=Blk.new w9 tNd (ndA h o9 c.length k9);have q1x:=q19.stp st10 (fun h=>h);have q2x:=q29.stp st10 (fun h=>h) (fun h=>h);have c10:=c9.stp st10 (fun h=>h);have st7x:=st79.trans st10;change JJ (w9.alloc (Y (ndA h o9 c.length k9) tNd)) ⟨d5,0,J⟩=J0 (G oo on ok)/\∃(v69:Value)(w70:J2),Sem.run W (builtinV .append #[Z2z,Z2z] Z2z #[(G oo on ok),(G (J0 ⟨w9.heap.size,0,J⟩) 1 1)]) (w9.alloc (Y (ndA h o9 c.length k9) tNd))=.ok v69 w70/\_;generalize w9.alloc (Y (ndA h o9 c.length k9) tNd)=w10 at *
    generalize ext lab9 w9.heap.size 5=lab10 at *
    have hsl:=I5.laid.len;obtain⟨o11,k11,w11,hr11,O11,st11⟩:=q2x.push (by decide) B10 h32 c10 F9.own.cap.1 (by omega);have q111:=q1x.stp st11 (by decide);refine⟨q1x.blk.rd1 rfl,_,w11,hr11,o11,_,k11,rfl,q111.blk.canSet (by simp) rfl,?_⟩;rintro _ rfl;have st12:Stp (fun k=>k=7) w11 (ext lab10 w10.heap.size 8) (w11.setCell ⟨d5,0,J⟩ (G o11 (on+1) k11)) (ext lab10 w10.heap.size 8):=Stp.setCell q111.clr;have q112:=q111.set 0 (G o11 (on+1) k11);have O12:=O11.stp st12 (by decide) (by decide);have st712:Stp SR w7 lab7 (w11.setCell ⟨d5,0,J⟩ (G o11 (on+1) k11)) (ext lab10 w10.heap.size 8):=((st7x.mono (fun _ h=>h.elim)).trans (st11.mono (fun _ h=>J6 (J6 h)))).trans (st12.mono (fun _ h=>J6 (JC h)));have st7_12:Stp (fun k=>k=7\/k=8) w7 lab7 (w11.setCell ⟨d5,0,J⟩ (G o11 (on+1) k11)) (ext lab10 w10.heap.size 8):=((st7x.mono (fun _ h=>h.elim)).trans (st11.mono (fun _ h=>J6 h))).trans (st12.mono (fun _ h=>JC h));generalize w11.setCell ⟨d5,0,J⟩ (G o11 (on+1) k11)=w12 at *
    generalize ext lab10 w10.heap.size 8=lab12 at *
    have hl12:Z74 l (s++[(h,c)]):=I5.laid.push hf hm
    have I12:RgS l a b d2 d3 d4 d5 d6 mS m w12 lab12 (s++[(h,c)]):=⟨⟨sa,ska,sb,skb,spa.stp st7_12 (by decide),spb.stp st7_12 (by decide),spc.stp st7_12 (by decide)⟩,S7.stp st7_12 (by decide),SM7.stp st7_12 (by decide) (by decide),mc7.stp st7_12 (by decide),
     ⟨_,cm7.stp st7_12 (by decide),by rw[JK,m2,JK];rfl,fun x hx=>by
      rcases List.mem_append.1 hx with hx|hx
      ·exact m3 x hx
      ·simp at hx;rw[hx]⟩,⟨o11,_,k11,q112,O12⟩,f7.stp st7_12 (by decide),hl12⟩
    refine get4 (N7.stp st7_12 (by decide)).blk ⟨_,I12.f.blk.rd1 rfl,?_⟩;exact go_on _ _ _ ((st05.trans (st7.mono (fun _ h=>JC h))).trans st712) I12 (hn7.stp st7_12 (by decide)) (P7.stp st7_12 (by decide)) hadd.symm
   ·have hm:met s h=JZ:=hm
    have hadd:addR l s (.s h)=s:=by simp only[addR];rw[hm];rfl
    exact get4 N5.blk ⟨_,I5.f.blk.rd1 rfl,go_on _ _ _ st05 I5 hn5 P5 hadd.symm⟩
end
def Z2P(r:RS×Int)(w:J2)(e:Jb)(w':J2):Prop :=
 Vcg.Mod NoB w w'/\∃o k,e=J4 (JM #[G o r.1.length k,J8 JE r.2])/\Z0m w' (fun _=>0) 0 r.1 o r.1.length
theorem Z2P.none_{w w':J2}{n:Int}(M:Vcg.Mod NoB w w'):Z2P ([],n) w (J4 (JM #[G J 0 0,J8 JE n])) w':=⟨M,J,0,rfl,Z0m.nil _ _ _ _⟩
theorem Z4g.row{w:J2}{lab:Nat->Nat}{c cb:Nat}{l:RS}{o:Option Addr}{n k:Nat}(h:Z4g w lab c cb l o n k):Z0m w (fun _=>0) 0 l o n:=by
 obtain⟨h1,vs,h2,h3⟩:=h;refine⟨h1,vs,fun j v hv=>?_,h3.1,fun j hj=>?_⟩
 ·obtain⟨g,f,a1,a2,_,a3⟩:=h2.row j v hv
  exact⟨g,f,a1,a2,rfl,a3⟩
 ·obtain⟨b1,b2,ob,kb,b3,b4,b5⟩:=h3.2 j hj
  exact⟨b1,b2,ob,kb,b3,⟨b4.rd,fun _ _ _=>rfl⟩,b5⟩
theorem ZAY{R:Jb->J2->Prop}{rt:J2->Prop}{dE dO:Nat}{n n0:Int}{o:Option Addr}{l k:Nat}{w:J2}(hn:n≠0)(hne:dE≠dO)(E:Blk w dE 40 #[J8 JE n0])(O:Blk w dO 34 #[G o l k])
  (K:∀w',Blk w' dE 40 #[J8 JE n]->Blk w' dO 34 #[G J 0 0]->Vcg.Mod (fun b=>b=dE\/b=dO) w w'->rt w') :
  Z2m W rt R [(32,#[C (J0 ⟨dE,0,J⟩)]),(31,#[C (J0 ⟨dE,0,J⟩),C (J0 ⟨dO,0,J⟩)])] (.panicking (Z2o n)) w:=by
 refine⟨fun h=>(by cases h),(Z44 E).mono ?_⟩;rintro _ _ w1⟨rfl,rfl,E1,M1⟩;have O1:=O.mod M1 (fun h=>hne h.symm);refine⟨fun h=>(by cases h),?_⟩;refine(Zy.vcd .returning _ _ w1 (fun e w'=>e=J4 (JM #[])/\Blk w' dE 40 #[J8 JE n]/\Blk w' dO 34 #[G J 0 0]/\Vcg.Mod (·=dO) w1 w') ?_).mono ?_
 ·unfold Zy.Vc
  refine⟨n,E1.rd1 rfl,fun _=>⟨O1.canSet (by simp) rfl,?_⟩,fun h=>(hn h).elim⟩;rintro _ rfl;exact⟨rfl,E1.set_ne (by exact hne),O1.set 0 _,Mod.setCell w1 ⟨dO,0,J⟩ _⟩
 ·rintro _ _ w2⟨rfl,rfl,E2,O2,M2⟩
  exact K w2 E2 O2 ((M1.mono (fun _ _ h=>JC h)).trans M2 (fun _ _ h=>J6 h))
theorem ZBW{R:Jb->J2->Prop}{rt:J2->Prop}{dE dO:Nat}{w:J2}(E:Blk w dE 40 #[J8 JE 0])(K:rt w) :
  Z2m W rt R [(32,#[C (J0 ⟨dE,0,J⟩)]),(31,#[C (J0 ⟨dE,0,J⟩),C (J0 ⟨dO,0,J⟩)])] .returning w:=by
 refine⟨fun h=>(by cases h),Z4y.mono ?_⟩;rintro _ _ w1⟨rfl,rfl,rfl⟩;refine⟨fun h=>(by cases h),?_⟩;refine(Zy.vcd .returning _ _ w1 (fun e w'=>e=J4 (JM #[])/\w'=w1) ?_).mono ?_
 ·unfold Zy.Vc
  exact⟨0,E.rd1 rfl,fun h=>(h rfl).elim,fun _=>⟨rfl,rfl⟩⟩
 ·rintro _ _ w2⟨rfl,rfl,rfl⟩
  exact K
section
variable{w:J2}{lab:Nat->Nat}
theorem ZHL{t:Jf}{c:Nat}{v0:Value}{v:Addr->Value}{K:Addr->J2->Prop}(hv:∀d,(v d).oneCell'=JZ)(h:∀w',Stp NoS w lab w' (ext lab w.heap.size c)->CB w' (ext lab w.heap.size c) c w.heap.size t #[v ⟨w.heap.size,0,J⟩]->K ⟨w.heap.size,0,J⟩ w') :
  ∀(d:Addr)(w1:J2),ZB w t #[v0] d w1->Z1 w1 d (v d)/\∀w2:J2,Z8 w1 d (v d) w2->K d w2:=by
 rintro d w1⟨rfl,rfl⟩;have M1:=Mod.alloc (S:=NoB) w (Y #[v0] t);have B1:=Blk.new w t #[v0];refine⟨B1.canSet (by simp) (hv _),?_⟩;rintro _ rfl;exact h _ (Stp.of_nob (ZK M1 (Mod.setCell _ ⟨w.heap.size,0,J⟩ (v ⟨w.heap.size,0,J⟩)) (J9 _)) c) ⟨B1.set 0 _,ext_new (J9 _)⟩
theorem ZHM{t:Jf}{c:Nat}{u0 v0 u v:Value}{K:Addr->J2->Prop}(hu:u.oneCell'=JZ)(hv:v.oneCell'=JZ)(h:∀w',Stp NoS w lab w' (ext lab w.heap.size c)->CB w' (ext lab w.heap.size c) c w.heap.size t #[u,v]->K ⟨w.heap.size,0,J⟩ w') :
  ∀(d:Addr)(w1:J2),ZB w t #[u0,v0] d w1->Z1 w1 d u/\∀w2:J2,Z8 w1 d u w2->Z1 w2 (JG d 1) v/\∀w3:J2,Z8 w2 (JG d 1) v w3->K d w3:=by
 rintro d w1⟨rfl,rfl⟩;have M1:=Mod.alloc (S:=NoB) w (Y #[u0,v0] t);have B1:=Blk.new w t #[u0,v0];refine⟨B1.canSet (by simp) hu,?_⟩;rintro _ rfl;have B2:=B1.set 0 u;have M2:=ZK M1 (Mod.setCell _ ⟨w.heap.size,0,J⟩ u) (J9 _);rw[Z6,J5];refine⟨B2.canSet (by simp) hv,?_⟩;rintro _ rfl;exact h _ (Stp.of_nob (ZK M2 (Mod.setCell _ ⟨w.heap.size,1,J⟩ v) (J9 _)) c) ⟨B2.set 1 v,ext_new (J9 _)⟩
theorem ZBa{D c:Nat}{t:Jf}{v0 v:Value}{P:J2->Prop}(B:CB w lab c D t #[v0])(hv:v.oneCell'=JZ)(h:∀w',Stp (·=c) w lab w' lab->CB w' lab c D t #[v]->P w') :
  Z1 w ⟨D,0,J⟩ v/\∀w1:J2,Z8 w ⟨D,0,J⟩ v w1->P w1:=by
 refine⟨B.blk.canSet (by simp) hv,?_⟩;rintro _ rfl;exact h _ (Stp.setCell B.clr) (B.set 0 v)
end
abbrev SA:Nat->Prop:=fun k=>k=2\/k=3\/k=7\/k=8
def labR(N:Nat):Nat->Nat:=fun k=>if k=N+3 then 7 else if k=N+4 then 3 else if N<=k then 1 else 0
theorem ZCF{N k:Nat}(h:k<N):labR N k=0:=by unfold labR;rw[if_neg (by omega),if_neg (by omega),if_neg (by omega)]
theorem Z6i{w:J2}{lab:Nat->Nat}{c:Nat}{l:RS}{o:Option Addr}{k:Nat}{root least most:By}(h:Z0m w lab c l o l.length)(hlen:l.length<=2^40)(hb:∀x∈l,x.2.length<=2^30)(hr:root.length=32)(hl:least.length=32)(hm:most.length=32) :
  JQ W Z0M.n #[G o l.length k,JR (hashA root),JR (hashA least),JR (hashA most)] w (Z2P (Z2V l root least most) w):=by
 refine ZG fun R hR=>Z0M.vc _ _ _ _ _ _ _ _ ?_;unfold Z0M.Vc;have hN:Z0m w (labR w.heap.size) 0 l o l.length:=Z0m.re h (fun k hk _=>ZCF hk);rintro d1 w1⟨rfl,rfl⟩;have M1:=Mod.alloc (S:=NoB) w (Y (hashA root) 27);have X1:=Blk.new w 27 (hashA root);have z1:=ZC w (Y (hashA root) 27);have lab0:∀k,k<w.heap.size->labR w.heap.size k=0:=fun k hk=>ZCF hk;generalize hNe:w.heap.size=N at *
 generalize w.alloc (Y (hashA root) 27)=w1 at *
 rintro d2 w2⟨rfl,rfl⟩;have M12:=Mod.alloc (S:=NoB) w1 (Y (hashA least) 27);have A2:=Blk.new w1 27 (hashA least);have z2:=ZC w1 (Y (hashA least) 27);have X2:=X1.mod' M12;have M2:=M1.none_trans M12;rw[z1]at A2 z2 ⊢;generalize w1.alloc (Y (hashA least) 27)=w2 at *
 rintro d3 w3⟨rfl,rfl⟩;have M23:=Mod.alloc (S:=NoB) w2 (Y (hashA most) 27);have B3:=Blk.new w2 27 (hashA most);have z3:=ZC w2 (Y (hashA most) 27);have X3:=X2.mod' M23;have A3:=A2.mod' M23;have M3:=M2.none_trans M23;rw[z2]at B3 z3 ⊢;generalize w2.alloc (Y (hashA most) 27)=w3 at *
 rintro d4 w4⟨rfl,rfl⟩;have M34:=Mod.alloc (S:=NoB) w3 (Y #[G J 0 0] 34);have O4:=Blk.new w3 34 #[G J 0 0];have z4:=ZC w3 (Y #[G J 0 0] 34);have X4:=X3.mod' M34;have A4:=A3.mod' M34;have B4:=B3.mod' M34;have M4:=M3.none_trans M34;rw[z3]at O4 z4 ⊢;generalize w3.alloc (Y #[G J 0 0] 34)=w4 at *
 rintro d5 w5⟨rfl,rfl⟩;have M45:=Mod.alloc (S:=NoB) w4 (Y #[J8 JE 0] 40);have E5:=Blk.new w4 40 #[J8 JE 0];have z5:=ZC w4 (Y #[J8 JE 0] 40);have X5:=X4.mod' M45;have A5:=A4.mod' M45;have B5:=B4.mod' M45;have O5:=O4.mod' M45;have M5:=M4.none_trans M45;rw[z4]at E5 z5 ⊢;generalize w4.alloc (Y #[J8 JE 0] 40)=w5 at *
 have s5:Stp NoS w (labR N) w5 (labR N):=⟨M5.os,M5.tape,M5.output,M5.size,fun _ _=>rfl,fun q hq _=>M5.block q hq (fun h=>h)⟩;have hN5:=hN.stp s5 (fun h=>h);have lX:labR N N=1:=by unfold labR;rw[if_neg (by omega),if_neg (by omega),if_pos (by omega)]
 have lA:labR N (N+1)=1:=by unfold labR;rw[if_neg (by omega),if_neg (by omega),if_pos (by omega)]
 have lB:labR N (N+1+1)=1:=by unfold labR;rw[if_neg (by omega),if_neg (by omega),if_pos (by omega)]
 have lO:labR N (N+1+1+1)=7:=if_pos rfl;have lE:labR N (N+1+1+1+1)=3:=by unfold labR;rw[if_neg (by omega),if_pos (by omega)]
 have X5:CB w5 (labR N) 1 N 27 (hashA root):=⟨X5,lX⟩;have A5:CB w5 (labR N) 1 (N+1) 27 (hashA least):=⟨A5,lA⟩;have B5:CB w5 (labR N) 1 (N+1+1) 27 (hashA most):=⟨B5,lB⟩;have O5:CB w5 (labR N) 7 (N+1+1+1) 34 #[G J 0 0]:=⟨O5,lO⟩;have E5:CB w5 (labR N) 3 (N+1+1+1+1) 40 #[J8 JE 0]:=⟨E5,lE⟩;clear M1 M12 M2 M23 M3 M34 M4 M45 M5 X1 X2 X3 X4 A2 A3 A4 B3 B4 O4 lX lA lB lO lE;have hEO:N+1+1+1+1≠N+1+1+1:=by omega
 have fin:∀(r:RS×Int)(e:Jb)(w':J2)(lab':Nat->Nat),Stp SA w (labR N) w' lab'->Z2V l root least most=r->(Vcg.Mod NoB w w'->Z2P r w e w')->R e w':=fun r e w' lab' st hrr hi=>by
  have M:Vcg.Mod NoB w w':=st.nob (fun k hk hs=>by rw[lab0 k (by omega)]at hs;rcases hs with h|h|h|h<;>cases h);exact hR _ _ (by rw[hrr];exact hi M)
 generalize hdO:N+1+1+1=dO at *
 generalize hdE:dO+1=dE at *
 refine(Z6d (k:=k) (held:=JA) hN5 hlen).mono ?_;rintro e w6⟨M6,hbig,hsmall⟩;have st6:Stp NoS w5 (labR N) w6 (ext (labR N) w5.heap.size 9):=Stp.of_nob M6 9
 obtain⟨m11,b12,n13,rfl,hcase⟩:∃m11 b12 n13,e=J4 (JM #[JR #[Jh m11,JB b12],J8 JE n13])/\((n13=162/\l.length>4096)\/(n13=0/\l.length<=4096/\b12=JA/\∃m,m11=J0 m/\ZAv w6 (ext (labR N) w5.heap.size 9) 9 0 l m)):=by
  by_cases hl:l.length>4096
  ·exact⟨_,_,_,hbig hl,JC ⟨rfl,hl⟩⟩
  ·obtain⟨m,he,hm⟩:=hsmall (by omega)
   exact⟨_,_,_,he,J6 ⟨rfl,by omega,rfl,m,rfl,hm⟩⟩
 have X6:=X5.stp st6 (fun h=>h);have A6:=A5.stp st6 (fun h=>h);have B6:=B5.stp st6 (fun h=>h);have O6:=O5.stp st6 (fun h=>h);have E6:=E5.stp st6 (fun h=>h);have s6:=s5.trans st6;clear hbig hsmall X5 A5 B5 O5 E5 hN5 st6 s5 M6;generalize ext (labR N) w5.heap.size 9=lab6 at *
 refine J6 ⟨_,_,_,rfl,?_⟩;refine ZHM (lab:=lab6) (c:=1) rfl rfl (fun w7 st7 D7=>?_);have X7:=X6.stp st7 (fun h=>h);have A7:=A6.stp st7 (fun h=>h);have B7:=B6.stp st7 (fun h=>h);have O7:=O6.stp st7 (fun h=>h);have E7:=E6.stp st7 (fun h=>h);have s7:=s6.trans st7;have hSM7:∀m,ZAv w6 lab6 9 0 l m->ZAv w7 (ext lab6 w6.heap.size 1) 9 0 l m:=fun m h=>h.stp st7 (fun h=>h) (fun h=>h);clear X6 A6 B6 O6 E6 s6 st7;generalize w6.heap.size=dS at *
 generalize ext lab6 dS 1=lab7 at *
 refine ZBa E7 rfl (fun w8 st8 E8=>?_);have X8:=X7.stp st8 (by decide);have A8:=A7.stp st8 (by decide);have B8:=B7.stp st8 (by decide);have O8:=O7.stp st8 (by decide);have D8:=D7.stp st8 (by decide);have s8:Stp SA w (labR N) w8 lab7:=(s7.mono (fun _ h=>h.elim)).trans (st8.mono (fun _ h=>J6 (JC h)));have hSM8:∀m,ZAv w6 lab6 9 0 l m->ZAv w8 lab7 9 0 l m:=fun m h=>(hSM7 m h).stp st8 (by decide) (by decide);clear X7 A7 B7 O7 E7 D7 s7 st8 hSM7;refine⟨_,E8.blk.rd1 rfl,fun hne=>?_,fun h0=>?_⟩
 ·obtain⟨rfl,hl⟩:=hcase.resolve_right (fun h=>hne h.1)
  rintro _ rfl;have st9:Stp NoS w8 lab7 w8.drew lab7:=Stp.drew NoS w8 lab7;have E9:=E8.stp st9 (fun h=>h);have O9:=O8.stp st9 (fun h=>h);refine⟨_,E9.blk.rd1 rfl,ZBa O9 rfl (fun w10 st10 O10=>?_)⟩;have E10:=E9.stp st10 (by decide);refine⟨E10.blk.rd1 rfl,ZBa E10 rfl (fun w11 st11 E11=>?_)⟩;have O11:=O10.stp st11 (by decide);refine⟨_,_,_,O11.blk.rd1 rfl,_,E11.blk.rd1 rfl,fin ([],162) _ _ _ (((s8.trans (st9.mono (fun _ h=>h.elim))).trans (st10.mono (fun _ h=>J6 (J6 (JC h))))).trans (st11.mono (fun _ h=>J6 (JC h)))) (by unfold Z2V;rw[if_pos hl]) (fun M=>Z2P.none_ M)⟩
 ·obtain⟨rfl,hl4,rfl,mS,rfl,hSM⟩:=hcase.resolve_left (fun h=>by rw[h.1]at h0;exact absurd h0 (by decide))
  have SM8:=hSM8 mS hSM;clear hSM hSM8 hcase;refine⟨hashA least,A8.blk.rowAll (ZA _),hashA most,B8.blk.rowAll (ZA _),?_⟩;refine(ZAb hl hm).mono ?_;rintro _ w9⟨oa,ka,ob,kb,rfl,M9,ra,rb,na,nb⟩;have st9:Stp NoS w8 lab7 w9 (ext lab7 w8.heap.size 6):=Stp.of_nob M9 6;have ca:CBy w9 (ext lab7 w8.heap.size 6) 6 oa (nibbles least):=⟨ra,fun _ d hd=>ext_new (na d hd)⟩;have cb:CBy w9 (ext lab7 w8.heap.size 6) 6 ob (nibbles most):=⟨rb,fun _ d hd=>ext_new (nb d hd)⟩;have X9:=X8.stp st9 (fun h=>h);have O9:=O8.stp st9 (fun h=>h);have E9:=E8.stp st9 (fun h=>h);have D9:=D8.stp st9 (fun h=>h);have SM9:=SM8.stp st9 (fun h=>h) (fun h=>h);have s9:=s8.trans (st9.mono (T:=SA) (fun _ h=>h.elim));clear X8 A8 B8 O8 E8 D8 SM8 s8 st9 M9 ra rb na nb;generalize ext lab7 w8.heap.size 6=lab9 at *
  refine J6 ⟨_,_,_,_,_,_,_,rfl,?_⟩;refine ZHM (lab:=lab9) (c:=1) rfl rfl (fun w10 st10 S10=>?_);have X10:=X9.stp st10 (fun h=>h);have O10:=O9.stp st10 (fun h=>h);have E10:=E9.stp st10 (fun h=>h);have D10:=D9.stp st10 (fun h=>h);have SM10:=SM9.stp st10 (fun h=>h) (fun h=>h);have ca10:=ca.stp st10 (fun h=>h);have cb10:=cb.stp st10 (fun h=>h);have s10:=s9.trans (st10.mono (T:=SA) (fun _ h=>h.elim));clear X9 O9 E9 D9 SM9 ca cb s9 st10;generalize w9.heap.size=dP at *
  generalize ext lab9 dP 1=lab10 at *
  have hsp:Z1i most least<0↔¬Z1i least most<=0:=by
   rw[Z1t,<-Z8x];omega
  refine⟨fun hbf=>?_,fun hbt=>?_⟩
  ·have hbf:=of_decide_eq_false hbf
   refine ZBa O10 rfl (fun w11 st11 O11=>?_);have E11:=E10.stp st11 (by decide);refine ZBa E11 rfl (fun w12 st12 E12=>?_);have O12:=O11.stp st12 (by decide);refine⟨_,_,_,O12.blk.rd1 rfl,_,E12.blk.rd1 rfl,fin ([],164) _ _ _ ((s10.trans (st11.mono (fun _ h=>J6 (J6 (JC h))))).trans (st12.mono (fun _ h=>J6 (JC h)))) (by unfold Z2V;rw[if_neg (by omega),if_pos (hsp.2 hbf)]) (fun M=>Z2P.none_ M)⟩
  ·have hbt:=of_decide_eq_true hbt
   obtain⟨w11,hr11,M11,hmap⟩:=Z7i ZBk w10;refine⟨_,w11,hr11,_,rfl,?_⟩;have st11:Stp NoS w10 lab10 w11 (ext lab10 w10.heap.size 2):=Stp.of_nob M11 2;have cm11:CM (fun _=>True) ZDq w11 (ext lab10 w10.heap.size 2) 2 w10.heap.size ([]:List (H32×Value)):=⟨⟨#[],0,hmap,Go.MapKept.stamped_empty 0,rfl,fun _ h=>by cases h⟩,ext_new (J9 _)⟩;have X11:=X10.stp st11 (fun h=>h);have O11:=O10.stp st11 (fun h=>h);have E11:=E10.stp st11 (fun h=>h);have D11:=D10.stp st11 (fun h=>h);have SM11:=SM10.stp st11 (fun h=>h) (fun h=>h);have ca11:=ca10.stp st11 (fun h=>h);have cb11:=cb10.stp st11 (fun h=>h);have S11:=S10.stp st11 (fun h=>h);have s11:=s10.trans (st11.mono (T:=SA) (fun _ h=>h.elim));clear X10 O10 E10 D10 SM10 ca10 cb10 S10 s10 st11 hr11 M11 hmap;generalize w10.heap.size=dm at *
   generalize ext lab10 dm 2=lab11 at *
   refine ZHL (lab:=lab11) (c:=1) (fun _=>rfl) (fun w12 st12 MC12=>?_);have X12:=X11.stp st12 (fun h=>h);have O12:=O11.stp st12 (fun h=>h);have E12:=E11.stp st12 (fun h=>h);have D12:=D11.stp st12 (fun h=>h);have SM12:=SM11.stp st12 (fun h=>h) (fun h=>h);have ca12:=ca11.stp st12 (fun h=>h);have cb12:=cb11.stp st12 (fun h=>h);have S12:=S11.stp st12 (fun h=>h);have cm12:=cm11.stp st12 (fun h=>h);have s12:=s11.trans (st12.mono (T:=SA) (fun _ h=>h.elim));clear X11 O11 E11 D11 SM11 ca11 cb11 S11 cm11 s11 st12;generalize w11.heap.size=dM at *
   generalize ext lab11 dM 1=lab12 at *
   refine ZHL (lab:=lab12) (c:=1) (fun _=>rfl) (fun w13 st13 F13=>?_);have X13:=X12.stp st13 (fun h=>h);have O13:=O12.stp st13 (fun h=>h);have E13:=E12.stp st13 (fun h=>h);have s13:=s12.trans (st13.mono (T:=SA) (fun _ h=>h.elim))
   have I13:RgS l (nibbles least) (nibbles most) dP dS dM dO w12.heap.size mS dm w13 (ext lab12 w12.heap.size 1) [] :=
    ⟨⟨_,_,_,_,S12.stp st13 (fun h=>h),ca12.stp st13 (fun h=>h),cb12.stp st13 (fun h=>h)⟩,D12.stp st13 (fun h=>h),SM12.stp st13 (fun h=>h) (fun h=>h),MC12.stp st13 (fun h=>h),⟨[],cm12.stp st13 (fun h=>h),rfl,fun x hx=>by cases hx⟩,⟨J,0,0,O13,Z4g.nil _ _ _ _⟩,F13,Z74.nil l⟩
   clear X12 O12 E12 D12 SM12 ca12 cb12 S12 cm12 MC12 F13 s12 st13;generalize w12.heap.size=dF at *
   generalize ext lab12 dF 1=lab13 at *
   refine⟨hashA root,X13.blk.rowAll (ZA _),?_⟩;refine(Z6a (A:=fun b=>ext lab13 w13.heap.size 6 b≠6) hr).mono ?_;rintro _ w14⟨L,rfl,M14,hL14⟩;have st14:Stp NoS w13 lab13 w14 (ext lab13 w13.heap.size 6):=Stp.of_nob M14 6;have E14:=E13.stp st14 (fun h=>h);have I14:=I13.no st14;have s14:=s13.trans (st14.mono (T:=SA) (fun _ h=>h.elim));clear X13 O13 E13 I13 s13 st14 M14;generalize ext lab13 w13.heap.size 6=lab14 at *
   refine J6 ⟨L,rfl,?_⟩;rintro d15 w15⟨rfl,rfl⟩;rw[Z7b];obtain⟨w16,hr16,V16,st16⟩:=Z6t hL14;have E16:=E14.stp st16 (fun h=>h);have I16:=I14.no st16;have s16:=s14.trans (st16.mono (T:=SA) (fun _ h=>h.elim));clear E14 I14 s14 st16 hL14;generalize ext lab14 w14.heap.size 5=lab16 at *
   obtain⟨_,L16,B16,hL16⟩:=V16;refine⟨w16,hr16,_,by rw[Z6];exact B16.rd1 (ZHV hL16),?_⟩
   have hrr:Z2V l root least most=match visP l (nibbles least) (nibbles most) 66 [] (rootIt root) []with
     |(s,J)=>(s,0)
     |(_,J0 e)=>([],e):=by
    unfold Z2V;exact(if_neg (show ¬l.length>4096 by omega)).trans (if_neg (fun h=>hsp.1 h hbt))
   have well:∀w' lab' s,Stp SA w (labR N) w' lab'->RgS l (nibbles least) (nibbles most) dP dS dM dO dF mS dm w' lab' s->CB w' lab' 3 dE 40 #[J8 JE 0]->Z2V l root least most=(s,0) ->
     ∃o85:Option Addr,∃l86:Nat,∃l87:Nat,JJ w' ⟨dO,0,J⟩=J0 (G o85 l86 l87)/\Z1 w' ⟨dO,0,J⟩ (G o85 l86 l87)/\∀w88:J2,Z8 w' ⟨dO,0,J⟩ (G o85 l86 l87) w88->Z1 w88 ⟨dE,0,J⟩ (J8 JE 0)/\∀w89:J2,Z8 w88 ⟨dE,0,J⟩ (J8 JE 0) w89 ->
      Z2m W (fun w90=>∃o91:Option Addr,∃l92:Nat,∃l93:Nat,JJ w90 ⟨dO,0,J⟩=J0 (G o91 l92 l93)/\∃n94:Int,JJ w90 ⟨dE,0,J⟩=J0 (J8 JE n94)/\R (J4 (JM #[(G o91 l92 l93),(J8 JE n94)])) w90) R [(32,#[(C (J0 ⟨dE,0,J⟩))]),(31,#[(C (J0 ⟨dE,0,J⟩)),(C (J0 ⟨dO,0,J⟩))])] .returning w89:=by
    intro w' lab' s st I E hs;obtain⟨o1,n1,k1,q1,q2⟩:=I.outs;refine⟨_,_,_,q1.blk.rd1 rfl,ZBa q1 rfl (fun w2 st2 q12=>?_)⟩;have E2:=E.stp st2 (by decide);have q22:=q2.stp st2 (by decide) (by decide);refine ZBa E2 rfl (fun w3 st3 E3=>?_);have q13:=q12.stp st3 (by decide);have q23:=q22.stp st3 (by decide) (by decide);obtain⟨rfl,_⟩:=id q23;exact ZBW E3.blk ⟨_,_,_,q13.blk.rd1 rfl,_,E3.blk.rd1 rfl,fin (s,0) _ _ _ ((st.trans (st2.mono (fun _ h=>J6 (J6 (JC h))))).trans (st3.mono (fun _ h=>J6 (JC h)))) hs (fun M=>⟨M,o1,k1,rfl,q23.row⟩)⟩
   refine⟨fun hb'=>?_,fun hb'=>?_⟩
   ·have hEx:isE (rootIt root)=JA:=by simpa using hb'
    refine⟨_,I16.f.blk.rd1 rfl,L16,B16.rowAll hL16.size,⟨33,#[],_,rfl,by kernel_rfl,?_⟩⟩;refine(ZAZ hb hl4 66 (k:=0) (o:=J) (path:=[]) I16 hL16 (Z7K hr) hEx (CBy.nil _ _ _ _) (J9 _) (fun x hx=>by cases hx) (by simp)).mono ?_;rintro e w17⟨lab17,st17,I17,hb17⟩;have E17:=E16.stp st17 (by decide);have s17:=s16.trans (st17.mono (T:=SA) (fun _ h=>h.elim JC (fun h=>J6 (J6 h))));generalize visP l (nibbles least) (nibbles most) 66 [] (rootIt root) []=res at hrr I17 hb17;obtain⟨s,oe⟩:=res;cases oe with
    |none =>
     obtain rfl:=hb17;exact J6 ⟨rfl,well w17 lab17 s s17 I17 E17 hrr⟩
    |some er =>
     obtain⟨rfl,hne⟩:=hb17;obtain⟨o1,n1,k1,q1,q2⟩:=I17.outs;refine JC ⟨_,rfl,ZAY hne (by omega) E17.blk q1.blk (fun w18 E18 O18 M18=>?_)⟩;have s18:Stp (fun k=>k=3\/k=7) w17 lab17 w18 (ext lab17 w17.heap.size 5):=Stp.of_mod M18 5 (fun k _ hk=>hk.elim (fun h=>by rw[h];exact JC E17.clr) (fun h=>by rw[h];exact J6 q1.clr));exact⟨_,_,_,O18.rd1 rfl,_,E18.rd1 rfl,fin ([],er) _ _ _ (s17.trans (s18.mono (T:=SA) (fun _ h=>h.elim (fun h=>J6 (JC h)) (fun h=>J6 (J6 (JC h)))))) hrr (fun M=>Z2P.none_ M)⟩
   ·have hEx:isE (rootIt root)=JZ:=by simpa using hb'
    have hvis:visP l (nibbles least) (nibbles most) 66 [] (rootIt root) []=([],J):=by
     have hx:rootIt root=.s []:=by
      unfold rootIt at hEx ⊢;by_cases he:root=emptyH
      ·rw[if_pos he]
      ·rw[if_neg he]at hEx
       cases root with
       |nil=>cases hr
       |cons y r=>cases hEx
     rw[hx];show(if Off (nibbles least) (nibbles most) []\/([]:By)=[]then(([]:RS),(J:Option Int))else _)=_;rw[if_pos (J6 rfl)]
    rw[hvis]at hrr;exact well w16 lab16 [] s16 I16 E16 hrr
end Go.Proofs.YtfghidehlnfdiaaGreat
end
