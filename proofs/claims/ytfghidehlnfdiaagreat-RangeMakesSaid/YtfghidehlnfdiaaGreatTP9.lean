/- Maps: what a map's block holds, read, written, gone through. -/
/- Tries as plain Lean: items, nodes, paths. -/
/- Tries as plain Lean: there is but one canonical trie of a map. -/
/- Tries as plain Lean: what putting does. -/
/- Tries as plain Lean: what taking away does. -/
/- Rows that a call makes anew: copied, appended to, and handed on; rows of cells that are only read. -/
/- Bytes as strings; slices that are made. -/
/- Contracts: bytes that are made anew; nibbles; packed paths. -/
/- Contracts: packed paths; what two paths share. -/
/- Contracts: bytes held against one another; heads of items. -/
/- Contracts: items in memory, and as bytes. -/
/- Contracts: an item's size; its encoding. -/
/- Tries as plain Lean: a node's item, its bytes, its reference; how big they get. -/
/- Tries as plain Lean: bounds. -/
/- Decoding: plain Lean. -/
/- Nodes in memory. -/
/- Contracts: a node that is in sight; a leaf laid into a new branch. -/
/- Contracts: a node behind nibbles. -/
import Derived.Test.YtfghidehlnfdiaaGreatXClr
import Derived.Maps.Range
import Derived.DeepKeys4
import Derived.StringKeys
import Derived.Test.YtfghidehlnfdiaaGreatXPure4
import Derived.Laws.BytesString
import Derived.Laws.MakeOwn
import Derived.Test.YtfghidehlnfdiaaGreatTV
set_option linter.unusedVariables false
set_option linter.unusedSimpArgs false
open Bool renaming eq_iff_iff->QE,false->JA,true->Jj
open Except renaming error->J4
open Go renaming Calls->Jd,MapEntry->QK,TypeId->JY,World->J0,maxLen->Jp,run_firstCells_some->Jz
open Go.Builtin renaming append->QG,firstCells->Jh
open Go.Ending renaming returned->J7
open Go.IntKind renaming i64->JL,u8->QO,wrap->I
open Go.MapKept renaming heap_set->QL,run_getObj_map->JJ,run_setObj_map->Jo
open Go.Obj renaming cells->J8
open Go.Proofs.Tryz renaming prog->J6
open Go.Result renaming andThen->Je,andThen_ok->Ji
open Go.Value renaming agg->QQ,bool->J2,tuple->QF
open Go.Value.bool renaming injEq->JZ
open Go.Value.slice renaming injEq->JV
open Int renaming fdiv->QN,tmod->QP,toNat_natCast->O
open List renaming append_assoc->J3,append_cancel_left->JF,append_cancel_left_eq->JC,append_nil->JM,cons_append->JR,drop_left->Jx,finRange->Jk,foldl_cons->QC,getD_eq_getElem?_getD->JP,getElem?_append_right->Jf,getElem?_cons_succ->Jl,getElem?_eq_getElem->U,getElem?_map->J9,getElem?_take->Q6,getElem?_toArray->Ju,getElem_cons_zero->JU,getElem_drop->Q7,getElem_mem->Jm,length->QA,length_append->G,length_cons->J,length_drop->JB,length_map->QD,length_nil->JN,length_singleton->JX,length_take->JG,map_append->Jr,map_cons->Q4,mem_cons_of_mem->Jv,mem_cons_self->Q5,mem_map_of_mem->JE,mem_of_getElem?->Jw,nil_append->Jc,nodup_cons->QB,prefix_append->J1,sizeOf_lt_of_mem->Jt,take_add_one->JD,take_append_drop->JO,take_length->JH,take_of_length_le->Jq,take_succ_cons->Q0,take_zero->JW
open List.cons renaming inj->Ja,injEq->Js
open Nat renaming add_comm->QJ,add_mul->QM,add_zero->Q8,le_refl->JI,le_trans->QH,lt_irrefl->JS,lt_of_lt_of_le->Jg,mul_comm->QI,mul_le_mul_right->Jy,pow_succ->Q9,zero_add->J5,zero_le->JT
open Option renaming map_eq_some_iff->Jn,none->L,some->T
open Prod renaming fst->Jb
open UInt8 renaming ofFin->JQ,ofNat->Z,toNat_ofNat'->JK
section
namespace Go.Vcg
open Go.ChangeMaps (setBlock)
open Go.Maps (Keyed)
open Go.MapKept
section
variable{K:Type}[DecidableEq K]{V:Type}
def Z33(k:K):List (K×V)->Option V
 |[]=>L
 |x::r=>if x.1=k then T x.2 else Z33 k r
def upd(k:K)(v:V):List (K×V)->List (K×V)
 |[]=>[(k,v)]
 |x::r=>if x.1=k then(k,v)::r else x::upd k v r
theorem Z8A{k:K}:∀{es:List (K×V)},(∀x∈es,x.1≠k)->Z33 k es=L
 |[],_=>rfl
 |x::r,h=>by
  rw[Z33,if_neg (h x (Q5 ..)),Z8A (fun y hy=>h y (Jv _ hy))]
theorem Z6y{k:K}{v:V}:∀{es:List (K×V)},(∀x∈es,x.1≠k)->upd k v es=es++[(k,v)]
 |[],_=>rfl
 |x::r,h=>by
  rw[upd,if_neg (h x (Q5 ..)),Z6y (fun y hy=>h y (Jv _ hy))];rfl
theorem ZBy{k:K}:∀{es:List (K×V)} {j:Nat} {x:K×V},(es.map Jb).Nodup->es[j]?=T x->x.1=k->Z33 k es=T x.2
 |[],_,_,_,h,_=>by simp at h
 |y::r,0,x,_,h,hk=>by simp at h;subst h;rw[Z33,if_pos hk]
 |y::r,j+1,x,hn,h,hk=>by
  rw[Jl]at h
  have hne:y.1≠k:=by
   rintro rfl;exact(List.nodup_cons.1 hn).1 (hk ▸ JE (Jw h))
  rw[Z33,if_neg hne,ZBy (List.nodup_cons.1 hn).2 h hk]
theorem ZEx{k:K}{v:V}:∀{es:List (K×V)} {j:Nat} {x:K×V},(es.map Jb).Nodup->es[j]?=T x->x.1=k->upd k v es=es.set j (k,v)
 |[],_,_,_,h,_=>by simp at h
 |y::r,0,x,_,h,hk=>by simp at h;subst h;rw[upd,if_pos hk];rfl
 |y::r,j+1,x,hn,h,hk=>by
  rw[Jl]at h
  have hne:y.1≠k:=by
   rintro rfl;exact(List.nodup_cons.1 hn).1 (hk ▸ JE (Jw h))
  rw[upd,if_neg hne,ZEx (List.nodup_cons.1 hn).2 h hk];rfl
end
section
variable{K:Type}{P:Program}{kt:JY}{enc:K->Value}
structure Z9Y (P:Program) (kt:JY) (enc:K->Value) (good:K->Prop):Prop where
 keyed:Keyed P kt
 ok:∀k,good k->∃l,keyOf P kt (enc k)=T l
 inj:∀a b,enc a=enc b->a=b
def dec(enc:K->Value)(x:K×Value):Value×Value:=(enc x.1,x.2)
def cellE(e:QK):Value×Value:=(e.key,e.val)
def Z2K(good:K->Prop)(enc:K->Value)(w:J0)(m:Nat)(es:List (K×Value)):Prop :=
 ∃(A:Array QK)(clock:Nat),w.heap[m]?=T (.map A clock)/\Stamped A clock/\A.toList.map cellE=es.map (dec enc)/\∀x∈es,good x.1
variable{good:K->Prop}{w w':J0}{m:Nat}{es:List (K×Value)}
theorem Z2K.lt(h:Z2K good enc w m es):m<w.heap.size:=by
 obtain⟨A,clock,hb,_⟩:=h;exact(Array.getElem?_eq_some_iff.1 hb).1
theorem Z2K.same(h:Z2K good enc w m es)(hb:w'.heap[m]?=w.heap[m]?):Z2K good enc w' m es:=by
 obtain⟨A,clock,h1,h2⟩:=h;exact⟨A,clock,hb.trans h1,h2⟩
theorem Z2K.nodup(h:Z2K good enc w m es):(es.map Jb).Nodup:=by
 obtain⟨A,clock,_,hs,he,_⟩:=h
 have h1:(A.toList.map (·.key))=(es.map Jb).map enc:=by
  have:=congrArg (List.map Jb) he;simpa[cellE,dec,Function.comp_def]using this
 have h2:=hs.2.2;rw[h1]at h2;generalize es.map Jb=l at h2;clear h1
 induction l with
 |nil=>exact List.nodup_nil
 |cons a l ih =>
  rw[Q4,QB]at h2;rw[QB];exact⟨fun h=>h2.1 (JE h),ih h2.2⟩
private theorem find_split(E:Z9Y P kt enc good)(w:J0){A:Array QK}{k:K}(hk:good k)(he:A.toList.map cellE=es.map (dec enc))(hg:∀x∈es,good x.1) :
  ((Instr.findKey kt (enc k) A.toList).run P w=.ok L w/\(∀x∈es,x.1≠k)/\∀e∈A.toList,e.key≠enc k) \/
  ∃j e v,(Instr.findKey kt (enc k) A.toList).run P w=.ok (T (j,v)) w/\A.toList[j]?=T e/\e.key=enc k/\e.val=v/\es[j]?=T (k,v):=by
 obtain⟨lk,hl⟩:=E.ok k hk
 have hall:∀e∈A.toList,∃l,keyOf P kt e.key=T l:=fun e hm=>by
  have:cellE e∈es.map (dec enc):=he ▸ JE hm;obtain⟨x,hx,hxe⟩:=List.mem_map.1 this;have h1:e.key=enc x.1:=(congrArg Jb hxe).symm;rw[h1];exact E.ok _ (hg x hx)
 rcases E.keyed.find w hl A.toList hall with⟨h1,h2⟩|⟨j,e,h1,h2,h3⟩
 ·refine .inl ⟨h1,fun x hx hxk=>?_,h2⟩
  have:dec enc x∈A.toList.map cellE:=he ▸ JE hx;obtain⟨e,hm,hee⟩:=List.mem_map.1 this;exact h2 e hm (by rw[show e.key=enc x.1 from congrArg Jb hee,hxk])
 ·refine .inr ⟨j,e,e.val,h1,h2,h3,rfl,?_⟩
  have h4:(es.map (dec enc))[j]?=T (cellE e):=by rw[<-he,J9,h2];rfl
  rw[J9,Jn]at h4;obtain⟨x,hx,hxe⟩:=h4;have e1:enc x.1=enc k:=(congrArg Jb hxe).trans h3;have e2:x.2=e.val:=congrArg Prod.snd hxe;rw[hx,<-E.inj _ _ e1,<-e2]
theorem Z2K.check(E:Z9Y P kt enc good){k:K}(hk:good k)(em:Bool)(w:J0):(Instr.checkKey em 10000 kt (enc k)).run P w=.ok () w:=by
 obtain⟨lk,hl⟩:=E.ok k hk;exact E.keyed.check w em hl
theorem Z2K.look[DecidableEq K](h:Z2K good enc w m es)(E:Z9Y P kt enc good){t e:JY}(ht:P.underlying t=T (.map kt e)){z:Value}(hz:(zeroValue e).run P w=.ok z w){k:K}(hk:good k)(c:Bool) :
  (Instr.lookup t (.map (T m)) (enc k) c).run P w=.ok (if c then QF #[(Z33 k es).getD z,J2 (Z33 k es).isSome]else(Z33 k es).getD z) w:=by
 have hn:=h.nodup;obtain⟨A,clock,hb,hs,he,hg⟩:=h;rcases find_split E w hk he hg with⟨h1,h2,_⟩|⟨j,e0,v,h1,h2,h3,h4,h5⟩
 ·rw[Z8A h2]
  simp[Instr.lookup,run_underlying ht,JJ hb,Z2K.check E hk,h1,hz,Je]
 ·rw[ZBy hn h5 rfl]
  simp[Instr.lookup,run_underlying ht,JJ hb,Z2K.check E hk,h1,Je]
theorem Z2K.update[DecidableEq K](h:Z2K good enc w m es)(E:Z9Y P kt enc good){t e:JY}(ht:P.underlying t=T (.map kt e)){k:K}(hk:good k)(v:Value) :
  ∃w',(Instr.mapUpdate t (.map (T m)) (enc k) v).run P w=.ok () w'/\Z2K good enc w' m (upd k v es)/\Mod (·=m) w w':=by
 have hn:=h.nodup;obtain⟨A,clock,hb,hs,he,hg⟩:=h;have hmod:∀o,Mod (·=m) w (setBlock w m o):=fun o=>⟨rfl,rfl,rfl,by simp[setBlock],fun k _ hk=>(QL hb).2 k hk⟩;rcases find_split E w hk he hg with⟨h1,h2,h2'⟩|⟨j,e0,v0,h1,h2,h3,h4,h5⟩
 ·refine⟨setBlock w m (.map (A.push ⟨enc k,v,clock⟩) (clock+1)),?_,⟨_,_,(QL hb).1,stamped_push hs h2',?_,?_⟩,hmod _⟩
  ·simp[Instr.mapUpdate,run_underlying ht,JJ hb,Z2K.check E hk,h1,Jo _ hb,Je,setBlock]
  ·rw[Z6y h2,Array.toList_push,Jr,Jr,he];rfl
  ·rw[Z6y h2]
   intro x hx;rcases List.mem_append.1 hx with hx|hx
   ·exact hg x hx
   ·simp at hx;subst hx;exact hk
 ·obtain⟨lk,hl⟩:=E.ok k hk
  have hj:j<A.size:=by simpa using(List.getElem?_eq_some_iff.1 h2).1
  have hA:A[j]?=T e0:=by simpa using h2
  refine⟨setBlock w m (.map (A.modify j fun e=>{ e with key:=enc k,val:=v }) clock),?_,⟨_,_,(QL hb).1,stamped_modify hs j _ (fun _ _=>rfl) (fun e hm hej=>?_),?_,?_⟩,hmod _⟩
  ·have hst:=E.keyed.stays w hl
   simp[Instr.mapUpdate,run_underlying ht,JJ hb,Z2K.check E hk,h1,hA,h3,hst,Jo _ hb,Je,setBlock]
  ·rw[hA]at hej
   cases hej;exact h3.symm
  ·rw[ZEx hn h5 rfl]
   apply List.ext_getElem?;intro i;have hi:(A.toList.map cellE)[i]?=(es.map (dec enc))[i]?:=by rw[he]
   rw[J9,J9]at hi;rw[J9,J9,Array.getElem?_toList,Array.getElem?_modify,List.getElem?_set];rw[Array.getElem?_toList]at hi;by_cases hij:j=i
   ·subst hij
    rw[if_pos rfl,if_pos rfl,if_pos (by have:=(List.getElem?_eq_some_iff.1 h5).1;exact this),hA];rfl
   ·rw[if_neg hij,if_neg hij,hi]
  ·rw[ZEx hn h5 rfl]
   intro x hx;rcases List.mem_or_eq_of_mem_set hx with hx|rfl
   ·exact hg x hx
   ·exact hk
variable{i:Nat}{todo:List (K×Value)}
end
section
variable{C:Type}{S:C->Prop}{w w':J0}{lab lab':Nat->C}{c:C}{K:Type}{good:K->Prop}{enc:K->Value}{m:Nat}{es:List (K×Value)}
structure CM (good:K->Prop) (enc:K->Value) (w:J0) (lab:Nat->C) (c:C) (m:Nat) (es:List (K×Value)):Prop where
 map:Z2K good enc w m es
 clr:lab m=c
theorem CM.stp(h:CM good enc w lab c m es)(s:Stp S w lab w' lab')(hs:¬S c):CM good enc w' lab' c m es :=
 ⟨h.map.same (s.block m h.map.lt (by rw[h.clr];exact hs)),(s.lab m h.map.lt).trans h.clr⟩
end
end Go.Vcg
end
section
namespace Go.Trie
abbrev By:=List UInt8
inductive It where
 |s (b:By)
 |l (xs:List It)
inductive Nd where
 |nil
 |leaf (p v:By)
 |row (p:By) (c:Nd)
 |branch (cs:Fin 16->Nd) (v:By)
def nibbles(k:By):By:=k.flatMap fun(c:UInt8)=>[c>>>4,c&&&15]
def Z3l:By->By
 |a::b::r=>(a<<<4|||b)::Z3l r
 |_=>[]
def Z1T(leaf:Bool):UInt8:=if leaf then 2 else 0
def headed(p:By)(leaf:Bool):By:=if p.length%2=1 then(Z1T leaf+1)::p else Z1T leaf::0::p
def Z2x(p:By):Prop:=p.length>128\/∃x∈p,x>=16
instance (p:By):Decidable (Z2x p):=by unfold Z2x;infer_instance
def Z7x(p:By)(leaf:Bool):By×Int:=if Z2x p then([],140)else(Z3l (headed p leaf),0)
def ZI:By->By->Nat
 |a::p,b::q=>if a=b then ZI p q+1 else 0
 |_,_=>0
theorem Z4M:∀(p q:By),ZI p q<=p.length/\ZI p q<=q.length
 |[],q=>by simp[ZI]
 |a::p,[]=>by simp[ZI]
 |a::p,b::q=>by
  have:=Z4M p q;simp only[ZI];split<;>simp<;>omega
theorem Z3r:∀(p q:By),p.take (ZI p q)=q.take (ZI p q)
 |[],q=>by simp[ZI]
 |a::p,[]=>by simp[ZI]
 |a::p,b::q=>by
  simp only[ZI];split
  ·rename_i h
   subst h;simp[Z3r p q]
  ·simp
theorem ZAa:∀(p q:By) (h1:ZI p q<p.length) (h2:ZI p q<q.length),p[ZI p q]≠q[ZI p q]
 |a::p,b::q,h1,h2=>by
  by_cases hab:a=b
  ·subst hab
   have e:ZI (a::p) (a::q)=ZI p q+1:=by simp[ZI]
   simp only[e,List.getElem_cons_succ];exact ZAa p q (by simp only[e,J]at h1;omega) (by simp only[e,J]at h2;omega)
  ·have e:ZI (a::p) (b::q)=0:=by simp[ZI,hab]
   simp only[e,JU];exact hab
 |[],q,h1,_=>by simp at h1
 |a::p,[],_,h2=>by simp at h2
def Z3v(p:By)(n:Nd):Nd :=
 if p=[]then n else match n with
  | .leaf q v=>.leaf (p++q) v
  | .row q c=>.row (p++q) c
  |n=>.row p n
def upd(cs:Fin 16->Nd)(a:UInt8)(n:Nd):Fin 16->Nd:=fun i=>if i.val=a.toNat then n else cs i
def at_(cs:Fin 16->Nd)(a:UInt8):Nd:=if h:a.toNat<16 then cs ⟨a.toNat,h⟩else .nil
def lay(cs:Fin 16->Nd)(v:By)(p x:By):Nd:=match p with
 |[]=>.branch cs x
 |a::r=>.branch (upd cs a (.leaf r x)) v
def ZG6(n:Nd)(p x:By):Nd:=match n with
 | .branch cs v=>lay cs v p x
 |n=>n
def Z0D:Fin 16->Nd:=fun _=>.nil
def put(n:Nd)(p x:By):Nd:=match n with
 | .nil=>.leaf p x
 | .leaf q v =>
   if ZI q p=q.length/\ZI q p=p.length then .leaf p x
   else Z3v (p.take (ZI q p)) (ZG6 (lay Z0D [] (q.drop (ZI q p)) v) (p.drop (ZI q p)) x)
 | .row q c =>
   if ZI q p=q.length then .row q (put c (p.drop (ZI q p)) x)
   else Z3v (p.take (ZI q p)) (lay (upd Z0D (q.getD (ZI q p) 0) (Z3v (q.drop (ZI q p+1)) c)) [] (p.drop (ZI q p)) x)
 | .branch cs v=>match p with
   |[]=>.branch cs x
   |a::r=>.branch (fun i=>if i.val=a.toNat then put (cs i) r x else cs i) v
def get(n:Nd)(p:By):Option By:=match n with
 | .nil=>L
 | .leaf q v=>if q=p then T v else L
 | .row q c=>if q.isPrefixOf p then get c (p.drop q.length)else L
 | .branch cs v=>match p with
   |[]=>if v=[]then L else T v
   |a::r=>if h:a.toNat<16 then get (cs ⟨a.toNat,h⟩) r else L
def Nib(p:By):Prop:=∀x∈p,x.toNat<16
def Z34:Nd->Prop
 | .branch _ _=>True
 |_=>False
def Many(cs:Fin 16->Nd)(v:By):Prop:=(v≠[]/\∃i,cs i≠.nil)\/∃i j,i≠j/\cs i≠.nil/\cs j≠.nil
def Z1c:Nd->Prop
 | .nil=>True
 | .leaf p v=>Nib p/\v≠[]
 | .row p c=>p≠[]/\Nib p/\Z34 c/\Z1c c
 | .branch cs v=>(∀i,Z1c (cs i))/\Many cs v
theorem Z16(p r:By)(c:Nd):get (.row p c) (p++r)=get c r:=by
 simp only[get];rw[if_pos (List.isPrefixOf_iff_prefix.2 (J1 _ _)),Jx]
theorem ZA7{p k:By}{c:Nd}{v:By}(h:get (.row p c) k=T v):∃r,k=p++r/\get c r=T v:=by
 simp only[get]at h;split at h
 ·rename_i hp
  obtain⟨r,rfl⟩:=List.isPrefixOf_iff_prefix.1 hp;rw[Jx]at h;exact⟨r,rfl,h⟩
 ·cases h
theorem ZY(cs:Fin 16->Nd)(v:By):get (.branch cs v) []=if v=[]then L else T v:=by simp only[get]
theorem Z0s(cs:Fin 16->Nd)(v:By)(i:Fin 16)(r:By):get (.branch cs v) (Z i.val::r)=get (cs i) r:=by
 have hi:(Z i.val).toNat=i.val:=by
  rw[JK];have:=i.isLt;omega
 simp only[get];rw[dif_pos (by rw[hi];exact i.isLt)];congr 2;exact Fin.ext hi
theorem ZAP{i j:Fin 16}(h:Z i.val=Z j.val):i=j:=by
 have h1:=congrArg UInt8.toNat h;rw[JK,JK]at h1;have:=i.isLt;have:=j.isLt;exact Fin.ext (by omega)
theorem Z54:∀{n:Nd},Z1c n->n≠.nil->∃k v,get n k=T v
 | .nil,_,h=>(h rfl).elim
 | .leaf p v,_,_=>⟨p,v,by simp[get]⟩
 | .row p c,h,_=>by
   obtain⟨k,v,hk⟩:=Z54 (n:=c) h.2.2.2 (by intro e;rw[e]at h;exact h.2.2.1);exact⟨p++k,v,by rw[Z16];exact hk⟩
 | .branch cs v,h,_=>by
   rcases h.2 with⟨hv,_⟩|⟨i,j,_,hi,_⟩
   ·exact⟨[],v,by rw[ZY,if_neg hv]⟩
   ·obtain⟨k,w,hk⟩:=Z54 (n:=cs i) (h.1 i) hi
    exact⟨Z i.val::k,w,by rw[Z0s];exact hk⟩
def Part(a b:By):Prop:=a≠b/\∀x r s,¬(a=x::r/\b=x::s)
theorem Z9Q{n:Nd}(h:Z1c n)(hb:Z34 n):∃k1 v1 k2 v2,get n k1=T v1/\get n k2=T v2/\Part k1 k2:=by
 cases n with
 |nil=>exact hb.elim
 |leaf p v=>exact hb.elim
 |row p c=>exact hb.elim
 |branch cs v =>
  rcases h.2 with⟨hv,i,hi⟩|⟨i,j,hij,hi,hj⟩
  ·obtain⟨k,w,hk⟩:=Z54 (h.1 i) hi
   exact⟨[],v,Z i.val::k,w,by rw[ZY,if_neg hv],by rw[Z0s];exact hk,by simp,fun x r s h=>by cases h.1⟩
  ·obtain⟨k,w,hk⟩:=Z54 (h.1 i) hi
   obtain⟨k',w',hk'⟩:=Z54 (h.1 j) hj;refine⟨Z i.val::k,w,Z j.val::k',w',by rw[Z0s];exact hk,by rw[Z0s];exact hk',?_,fun x r s h=>?_⟩
   ·intro e
    exact hij (ZAP (Ja e).1)
   ·exact hij (ZAP ((Ja h.1).1.trans (Ja h.2).1.symm))
theorem ZGn{p:By}{c:Nd}(h:Z1c (.row p c)):∃k1 v1 k2 v2,get (.row p c) k1=T v1/\get (.row p c) k2=T v2/\k1≠k2:=by
 obtain⟨k1,v1,k2,v2,h1,h2,hp⟩:=Z9Q h.2.2.2 h.2.2.1;exact⟨p++k1,v1,p++k2,v2,by rw[Z16];exact h1,by rw[Z16];exact h2,fun e=>hp.1 (JF e)⟩
theorem Nib.left{p q:By}(h:Nib (p++q)):Nib p:=fun x hx=>h x (List.mem_append_left _ hx)
theorem Nib.right{p q:By}(h:Nib (p++q)):Nib q:=fun x hx=>h x (List.mem_append_right _ hx)
theorem Nib.append{p q:By}(h:Nib p)(k:Nib q):Nib (p++q):=fun x hx=>(List.mem_append.1 hx).elim (h x) (k x)
def behind(p k:By)(n:Nd):Option By:=if p.isPrefixOf k then get n (k.drop p.length)else L
theorem Z09(p r:By)(n:Nd):behind p (p++r) n=get n r:=by
 unfold behind;rw[if_pos (List.isPrefixOf_iff_prefix.2 (J1 _ _)),Jx]
theorem Zv{p k:By}{n:Nd}(h:¬p <+: k):behind p k n=L:=by
 unfold behind;rw[if_neg (fun hp=>h (List.isPrefixOf_iff_prefix.1 hp))]
theorem Z4B(p:By)(c:Nd)(k:By):get (.row p c) k=behind p k c:=by simp only[get,behind]
theorem Z7J(p:By)(n:Nd)(k:By):get (Z3v p n) k=behind p k n:=by
 unfold Z3v;split
 ·rename_i h
  subst h;unfold behind;simp
 ·cases n with
  |nil=>exact Z4B _ _ _
  |branch cs v=>exact Z4B _ _ _
  |leaf q v =>
   by_cases hp:p <+: k
   ·obtain⟨r,rfl⟩:=hp
    rw[Z09];simp only[get,JC]
   ·rw[Zv hp]
    simp only[get];rw[if_neg (fun(e:p++q=k)=>hp (by rw[<-e];exact J1 _ _))]
  |row q c =>
   by_cases hp:p <+: k
   ·obtain⟨r,rfl⟩:=hp
    rw[Z09,Z4B,Z4B];by_cases hq:q <+: r
    ·obtain⟨s,rfl⟩:=hq
     rw[<-J3,Z09,Z09]
    ·rw[Zv hq,Zv]
     rintro⟨s,hs⟩;rw[J3]at hs;exact hq ⟨s,JF hs⟩
   ·rw[Zv hp]
    show get (.row (p++q) c) k=L;rw[Z4B,Zv];rintro⟨s,rfl⟩;rw[J3]at hp;exact hp (J1 _ _)
theorem Z4x{p:By}{n:Nd}(hp:Nib p)(hn:Z1c n)(h0:n≠.nil):Z1c (Z3v p n)/\Z3v p n≠.nil:=by
 unfold Z3v;split
 ·exact⟨hn,h0⟩
 ·rename_i hne
  cases n with
  |nil=>exact(h0 rfl).elim
  |leaf q v=>exact⟨⟨hp.append hn.1,hn.2⟩,by simp⟩
  |row q c=>exact⟨⟨by simp[hne],hp.append hn.2.1,hn.2.2⟩,by simp⟩
  |branch cs v=>exact⟨⟨hne,hp,trivial,hn⟩,by simp⟩
theorem Z0A(cs:Fin 16->Nd)(v:By)(a:UInt8)(r:By):get (.branch cs v) (a::r)=get (at_ cs a) r:=by
 simp only[get,at_];split<;>simp[get]
theorem Z78{cs:Fin 16->Nd}{a:UInt8}{n:Nd}(h:a.toNat<16):at_ (upd cs a n) a=n:=by
 unfold at_ upd;rw[dif_pos h,if_pos rfl]
theorem Z3J{cs:Fin 16->Nd}{a b:UInt8}{n:Nd}(h:b≠a):at_ (upd cs a n) b=at_ cs b:=by
 unfold at_ upd;split
 ·rw[if_neg (fun e=>h (UInt8.toNat_inj.1 e))]
 ·rfl
theorem Z93{cs:Fin 16->Nd}{v p x:By}(hp:Nib p)(hx:x≠[])(h1:p=[]->v=[])(h2:∀a r,p=a::r->at_ cs a=.nil)(k:By):get (lay cs v p x) k=if k=p then T x else get (.branch cs v) k:=by
 cases p with
 |nil =>
  show get (.branch cs x) k=_;cases k with
  |nil=>rw[ZY,if_neg hx,if_pos rfl]
  |cons b r=>rw[if_neg (by simp),Z0A,Z0A]
 |cons a r =>
  show get (.branch (upd cs a (.leaf r x)) v) k=_;have ha:a.toNat<16:=hp a (by simp);cases k with
  |nil=>rw[ZY,ZY,if_neg (show ¬([]:By)=a::r by simp)]
  |cons b s =>
   rw[Z0A,Z0A];by_cases hb:b=a
   ·subst hb
    rw[Z78 ha,h2 b r rfl];simp only[get,Js,true_and];by_cases hrs:r=s
    ·rw[if_pos hrs,if_pos hrs.symm]
    ·rw[if_neg hrs,if_neg (fun e=>hrs e.symm)]
   ·rw[Z3J hb,if_neg (by simp[hb])]
theorem Z43{cs:Fin 16->Nd}{a:UInt8}{n:Nd}(h:∀i,Z1c (cs i))(hn:Z1c n):∀i,Z1c (upd cs a n i):=fun i=>by
 unfold upd;split
 ·exact hn
 ·exact h i
theorem ZFu{cs:Fin 16->Nd}{a:UInt8}(h:a.toNat<16):at_ cs a=cs ⟨a.toNat,h⟩:=dif_pos h
theorem Z3D(a:UInt8):at_ Z0D a=.nil:=by unfold at_;split<;>rfl
theorem Z8O(k:By):get (.branch Z0D []) k=L:=by
 cases k with
 |nil=>rfl
 |cons a r=>rw[Z0A,Z3D];simp[get]
theorem ZG1{a b:UInt8}(ha:a.toNat<16)(hb:b.toNat<16)(h:a≠b):(⟨a.toNat,ha⟩:Fin 16)≠⟨b.toNat,hb⟩:=fun e=>h (UInt8.toNat_inj.1 (Fin.mk.inj e))
theorem ZGY{q p v x:By}(hq:Nib q)(hp:Nib p)(hv:v≠[])(hx:x≠[])(hne:q≠p)(hh:∀a r s,¬(q=a::r/\p=a::s)) :
  Z1c (ZG6 (lay Z0D [] q v) p x)/\Z34 (ZG6 (lay Z0D [] q v) p x)/\∀k,get (ZG6 (lay Z0D [] q v) p x) k=if k=p then T x else if k=q then T v else L:=by
 have g1:=fun k=>Z93 (cs:=Z0D) (v:=[]) (x:=v) hq hv (fun _=>rfl) (fun a r _=>Z3D a) k;cases q with
 |nil =>
  cases p with
  |nil=>exact(hne rfl).elim
  |cons b s =>
   have hb:b.toNat<16:=hp b (by simp);refine⟨⟨Z43 (fun _=>trivial) ⟨fun y hy=>hp y (by simp[hy]),hx⟩,.inl ⟨hv,⟨b.toNat,hb⟩,by unfold upd;rw[if_pos rfl];simp⟩⟩,trivial,fun k=>?_⟩;have g2:=Z93 (cs:=Z0D) (v:=v) hp hx (fun h=>by cases h) (fun a r _=>Z3D a) k;show get (lay Z0D v (b::s) x) k=_;rw[g2];split
   ·rfl
   ·have:=g1 k
    rw[Z8O]at this;exact this
 |cons a r =>
  have ha:a.toNat<16:=hq a (by simp);have e:lay Z0D [] (a::r) v=.branch (upd Z0D a (.leaf r v)) []:=rfl;rw[e]at g1 ⊢;show Z1c (lay (upd Z0D a (.leaf r v)) [] p x)/\Z34 (lay (upd Z0D a (.leaf r v)) [] p x)/\∀k,get (lay (upd Z0D a (.leaf r v)) [] p x) k=_;have hc1:∀i,Z1c (upd Z0D a (.leaf r v) i):=Z43 (fun _=>trivial) ⟨fun y hy=>hq y (by simp[hy]),hv⟩
  have hp2:∀b s,p=b::s->at_ (upd Z0D a (.leaf r v)) b=.nil:=fun b s h=>by
   rw[Z3J (fun h2=>hh a r s ⟨rfl,by rw[h,h2]⟩),Z3D]
  refine⟨?_,?_,fun k=>?_⟩
  ·cases p with
   |nil=>exact⟨hc1,.inl ⟨hx,⟨a.toNat,ha⟩,by unfold upd;rw[if_pos rfl];simp⟩⟩
   |cons b s =>
    have hb:b.toNat<16:=hp b (by simp);have hab:a≠b:=fun h=>hh a r s ⟨rfl,by rw[h]⟩;refine⟨Z43 hc1 ⟨fun y hy=>hp y (by simp[hy]),hx⟩,.inr ⟨⟨a.toNat,ha⟩,⟨b.toNat,hb⟩,ZG1 ha hb hab,?_,?_⟩⟩
    ·unfold upd
     rw[if_neg (fun h=>hab (UInt8.toNat_inj.1 h)),if_pos rfl];simp
    ·unfold upd
     rw[if_pos rfl];simp
  ·cases p<;>exact trivial
  ·rw[Z93 hp hx (fun _=>rfl) hp2 k]
   split
   ·rfl
   ·have:=g1 k
    rw[Z8O]at this;exact this
theorem Z39(q p:By):∃t q' p',q=t++q'/\p=t++p'/\t=p.take (ZI q p)/\q'=q.drop (ZI q p)/\p'=p.drop (ZI q p)/\t.length=ZI q p/\∀a r s,¬(q'=a::r/\p'=a::s):=by
 have hl:=Z4M q p;refine⟨p.take (ZI q p),q.drop (ZI q p),p.drop (ZI q p),?_,(JO _ _).symm,rfl,rfl,rfl,by rw[JG];omega,fun a r s h=>?_⟩
 ·rw[<-Z3r];exact(JO _ _).symm
 ·have h1:ZI q p<q.length:=by
    have:=congrArg QA h.1;rw[JB]at this;simp at this;omega
  have h2:ZI q p<p.length:=by
   have:=congrArg QA h.2;rw[JB]at this;simp at this;omega
  refine ZAa q p h1 h2 ?_
  have e1:q[ZI q p]=a:=by
   have:=Q7 (xs:=q) (i:=ZI q p) (j:=0) (h:=by rw[JB];omega);simp only[h.1,JU,Q8]at this;exact this.symm
  have e2:p[ZI q p]=a:=by
   have:=Q7 (xs:=p) (i:=ZI q p) (j:=0) (h:=by rw[JB];omega);simp only[h.2,JU,Q8]at this;exact this.symm
  rw[e1,e2]
theorem Z8d:∀{n:Nd} {p x:By},Z1c n->Nib p->x≠[]->Z1c (put n p x)/\put n p x≠.nil/\(Z34 n->Z34 (put n p x))/\∀k,get (put n p x) k=if k=p then T x else get n k
 | .nil,p,x,hn,hp,hx=>by
   refine⟨⟨hp,hx⟩,by simp[put],fun h=>h.elim,fun k=>?_⟩;simp only[put,get];by_cases h:p=k
   ·rw[if_pos h,if_pos h.symm]
   ·rw[if_neg h,if_neg (fun e=>h e.symm)]
 | .leaf q v,p,x,hn,hp,hx=>by
   simp only[put];obtain⟨t,q',p',hq,hpe,ht,hq',hp',htl,hh⟩:=Z39 q p;split
   ·rename_i hs
    have hqp:q=p:=by
     have h1:=Z3r q p;rw[hs.1,JH]at h1;have h2:q.length=p.length:=hs.1.symm.trans hs.2;rw[h2,JH]at h1;exact h1
    subst hqp;refine⟨⟨hp,hx⟩,by simp,fun h=>h.elim,fun k=>?_⟩;simp only[get];by_cases h:q=k
    ·rw[if_pos h,if_pos h.symm]
    ·rw[if_neg h,if_neg (fun e=>h e.symm),if_neg h]
   ·rename_i hs
    have hne:q'≠p':=by
     rintro rfl;cases q' with
     |nil =>
      simp only[JM]at hq hpe;exact hs ⟨by rw[<-htl,<-hq],by rw[<-htl,<-hpe]⟩
     |cons a r=>exact hh a r r ⟨rfl,rfl⟩
    have hnq:Nib q':=(hq ▸ hn.1:Nib (t++q')).right;have hnp:Nib p':=(hpe ▸ hp:Nib (t++p')).right;have hnt:Nib t:=(hpe ▸ hp:Nib (t++p')).left;obtain⟨hc,hb,hg⟩:=ZGY hnq hnp hn.2 hx hne hh;rw[<-ht,<-hq',<-hp'];have hnz:ZG6 (lay Z0D [] q' v) p' x≠.nil:=by intro e;rw[e]at hb;exact hb
    obtain⟨h1,h2⟩:=Z4x hnt hc hnz;refine⟨h1,h2,fun h=>h.elim,fun k=>?_⟩;rw[Z7J];simp only[get];by_cases hk:t <+: k
    ·obtain⟨k',rfl⟩:=hk
     rw[Z09,hg,hpe,hq];simp only[JC];split
     ·rfl
     ·by_cases h:k'=q'
      ·rw[if_pos h,if_pos h.symm]
      ·rw[if_neg h,if_neg (fun e=>h e.symm)]
    ·rw[Zv hk,if_neg (fun(e:k=p)=>hk (by rw[e,hpe];exact J1 _ _)),if_neg (fun(e:q=k)=>hk (by rw[<-e,hq];exact J1 _ _))]
 | .row q c,p,x,hn,hp,hx=>by
   simp only[put];obtain⟨t,q',p',hq,hpe,ht,hq',hp',htl,hh⟩:=Z39 q p;have hnp:Nib p':=(hpe ▸ hp:Nib (t++p')).right;have hnt:Nib t:=(hpe ▸ hp:Nib (t++p')).left;split
   ·rename_i hs
    have hq0:q'=[]:=by rw[hq',hs,List.drop_length]
    rw[hq0,JM]at hq;subst hq;rw[<-hp'];obtain⟨h1,h2,h3,h4⟩:=Z8d (p:=p') (x:=x) hn.2.2.2 hnp hx;refine⟨⟨hn.1,hn.2.1,h3 hn.2.2.1,h1⟩,by simp,fun h=>h.elim,fun k=>?_⟩;rw[Z4B,Z4B];by_cases hk:q <+: k
    ·obtain⟨k',rfl⟩:=hk
     rw[Z09,Z09,h4,hpe];simp only[JC]
    ·rw[Zv hk,Zv hk,if_neg (fun(e:k=p)=>hk (by rw[e,hpe];exact J1 _ _))]
   ·rename_i hs
    have hlt:ZI q p<q.length:=by have:=(Z4M q p).1;omega
    obtain⟨a,q2,hq2⟩:∃a q2,q'=a::q2:=by
     cases h:q' with
     |nil=>rw[hq',List.drop_eq_nil_iff]at h;omega
     |cons a r=>exact⟨a,r,rfl⟩
    have hga:q.getD (ZI q p) 0=a:=by
     have h3:q[t.length]?=T a:=by rw[hq,Jf (JI _),Nat.sub_self,hq2];rfl
     rw[<-htl,JP,h3];rfl
    have hgd:q.drop (ZI q p+1)=q2:=by
     rw[<-List.drop_drop,<-hq',hq2];rfl
    rw[hga,hgd,<-ht,<-hp'];have hnq:Nib q':=(hq ▸ hn.2.1:Nib (t++q')).right;rw[hq2]at hnq;have ha:a.toNat<16:=hnq a (by simp);have hcn:c≠.nil:=by intro e;rw[e]at hn;exact hn.2.2.1
    obtain⟨r1,r2⟩:=Z4x (p:=q2) (n:=c) (fun y hy=>hnq y (by simp[hy])) hn.2.2.2 hcn;have hc1:∀i,Z1c (upd Z0D a (Z3v q2 c) i):=Z43 (fun _=>trivial) r1
    have hp2:∀b s,p'=b::s->at_ (upd Z0D a (Z3v q2 c)) b=.nil:=fun b s h=>by
     rw[Z3J (fun h2=>hh a q2 s ⟨hq2,by rw[h,h2]⟩),Z3D]
    have hcl:Z1c (lay (upd Z0D a (Z3v q2 c)) [] p' x)/\Z34 (lay (upd Z0D a (Z3v q2 c)) [] p' x):=by
     cases hpp:p' with
     |nil=>exact⟨⟨hc1,.inl ⟨hx,⟨a.toNat,ha⟩,by unfold upd;rw[if_pos rfl];exact r2⟩⟩,trivial⟩
     |cons b s =>
      rw[hpp]at hnp;have hb:b.toNat<16:=hnp b (by simp);have hab:a≠b:=fun h=>hh a q2 s ⟨hq2,by rw[hpp,h]⟩;refine⟨⟨Z43 hc1 ⟨fun y hy=>hnp y (by simp[hy]),hx⟩,.inr ⟨⟨a.toNat,ha⟩,⟨b.toNat,hb⟩,ZG1 ha hb hab,?_,?_⟩⟩,trivial⟩
      ·unfold upd
       rw[if_neg (fun h=>hab (UInt8.toNat_inj.1 h)),if_pos rfl];exact r2
      ·unfold upd
       rw[if_pos rfl];simp
    have hnz:lay (upd Z0D a (Z3v q2 c)) [] p' x≠.nil:=by intro e;rw[e]at hcl;exact hcl.2
    obtain⟨h1,h2⟩:=Z4x hnt hcl.1 hnz;refine⟨h1,h2,fun h=>h.elim,fun k=>?_⟩;rw[Z7J,Z4B];by_cases hk:t <+: k
    ·obtain⟨k',rfl⟩:=hk
     rw[Z09,Z93 hnp hx (fun _=>rfl) hp2,hpe,hq,hq2];simp only[JC];split
     ·rfl
     ·cases k' with
      |nil =>
       rw[ZY,if_pos rfl,JM,Zv];intro hpre;have:=hpre.length_le;simp at this;omega
      |cons b s =>
       rw[Z0A];by_cases hba:b=a
       ·subst hba
        rw[Z78 ha,Z7J];by_cases hqs:q2 <+: s
        ·obtain⟨u,rfl⟩:=hqs
         rw[Z09,show t++b::(q2++u)=(t++b::q2)++u by simp,Z09]
        ·rw[Zv hqs,Zv]
         rintro⟨u,hu⟩;rw[J3]at hu;have:=JF hu;rw[JR]at this;exact hqs ⟨u,(Ja this).2⟩
       ·rw[Z3J hba,Z3D,Zv]
        ·simp[get]
        ·rintro⟨u,hu⟩
         rw[J3]at hu;have:=JF hu;rw[JR]at this;exact hba (Ja this).1.symm
    ·rw[Zv hk,if_neg (fun(e:k=p)=>hk (by rw[e,hpe];exact J1 _ _)),Zv]
     rintro⟨u,rfl⟩;rw[hq,J3]at hk;exact hk (J1 _ _)
 | .branch cs v,[],x,hn,hp,hx=>by
   refine⟨⟨hn.1,?_⟩,by simp[put],fun _=>trivial,fun k=>?_⟩
   ·rcases hn.2 with⟨_,h⟩|h
    ·exact .inl ⟨hx,h⟩
    ·exact .inr h
   ·simp only[put]
    cases k with
    |nil=>rw[ZY,if_neg hx,if_pos rfl]
    |cons b r=>rw[if_neg (by simp),Z0A,Z0A]
 | .branch cs v,a::r,x,hn,hp,hx=>by
   have ha:a.toNat<16:=hp a (by simp);have hr:Nib r:=fun y hy=>hp y (by simp[hy]);have ih:=fun i=>Z8d (n:=cs i) (p:=r) (x:=x) (hn.1 i) hr hx;simp only[put];refine⟨⟨fun i=>?_,?_⟩,by simp,fun _=>trivial,fun k=>?_⟩
   ·dsimp only
    split
    ·exact(ih i).1
    ·exact hn.1 i
   ·have keep:∀i,cs i≠.nil->(if i.val=a.toNat then put (cs i) r x else cs i)≠.nil:=fun i hi=>by
      split
      ·exact(ih i).2.1
      ·exact hi
    rcases hn.2 with⟨hv,i,hi⟩|⟨i,j,hij,hi,hj⟩
    ·exact .inl ⟨hv,i,keep i hi⟩
    ·exact .inr ⟨i,j,hij,keep i hi,keep j hj⟩
   ·cases k with
    |nil=>rw[ZY,ZY,if_neg (show ¬([]:By)=a::r by simp)]
    |cons b s =>
     rw[Z0A,Z0A];by_cases hb:b=a
     ·subst hb
      rw[ZFu ha,ZFu ha,if_pos rfl,(ih _).2.2.2];simp only[Js,true_and]
     ·rw[if_neg (by simp[hb])]
      unfold at_;split
      ·rename_i hb16
       dsimp only;rw[if_neg (fun e=>hb (UInt8.toNat_inj.1 e))]
      ·rfl
def isNil:Nd->Bool
 | .nil=>Jj
 |_=>JA
def there(cs:Fin 16->Nd):List (Fin 16):=(Jk 16).filter fun i=> !isNil (cs i)
theorem nib_one(i:Fin 16):Nib [Z i.val]:=fun x hx=>by
 simp at hx;subst hx;rw[JK];have:=i.isLt;omega
end Go.Trie
end
section
namespace Go.Vcg
structure ZT (w0 w:J0) (e:JY) (sz:Nat) (o:Option Addr) (l c:Nat) (xs:List Value):Prop where
 own:Own w e sz o l c xs
 mod:Mod NoB w0 w
 new:∀k,OB o k->w0.heap.size<=k
variable{P:Program}{w0 w w':J0}{e t tx ty:JY}{sz l c n:Nat}{o:Option Addr}{xs news:List Value}{x:Value}{i:TypeInfo}{z:Value}
theorem ZT.nil(M:Mod NoB w0 w)(e:JY)(sz:Nat):ZT w0 w e sz L 0 0 []:=⟨Own.nil w e sz,M,fun k h=>(Z3z k h).elim⟩
theorem ZT.mod'(h:ZT w0 w e sz o l c xs)(M:Mod NoB w w'):ZT w0 w' e sz o l c xs:=⟨h.own.mod' M,h.mod.trans M (fun _ _ h=>h),h.new⟩
theorem ZT.push(h:ZT w0 w e sz o l c xs)(ht:P.underlying t=T (.slice e))(hi:P.info? e=T i)(hz:i.zero=T z)(hs:i.size=sz)(hzs:z.cells.size=sz)
  (src:Src P sz tx x n news w) (h63:l+n<=Jp) (hb:(l+n)*i.bytes<=140737488355328) :
  ∃o' c' w',Sem.run P (builtinV QG #[t,tx] ty #[.slice o l c,x]) w=.ok (.slice o' (l+n) c') w'/\ZT w0 w' e sz o' (l+n) c' (xs++news):=by
 obtain⟨o',c',w',h1,h2,h3,h4⟩:=Z3I (ty:=ty) ht hi hz hs hzs h.own src h63 hb;refine⟨o',c',w',h1,h2,h.mod.trans h3 (fun k hk hob=>absurd (h.new k hob) (by omega)),fun k hk=>?_⟩;rcases h4 k hk with h5|h5
 ·exact h.new k h5
 ·exact QH h.mod.size h5
theorem ZT.set(h:ZT w0 w e sz o l c xs){j:Nat}(hj:j<l*sz){v:Value}(hv:v.oneCell'=Jj) :
  ∃g,o=T ⟨g,0,L⟩/\Z1 w ⟨g,j,L⟩ v/\ZT w0 (w.setCell ⟨g,j,L⟩ v) e sz o l c (xs.set j v):=by
 rcases h.own.2 with⟨_,rfl,_⟩|⟨g,cur,rfl,hb,hlc,hcm,hcs,ht⟩
 ·simp at hj
 ·have hle:l*sz<=c*sz:=Jy _ hlc
  refine⟨g,rfl,hb.canSet (by rw[hcs];omega) hv,⟨by rw[List.length_set];exact h.own.1,.inr ⟨g,_,rfl,hb.set j v,hlc,hcm,by simpa using hcs,?_⟩⟩,?_,h.new⟩
  ·rw[Array.toList_setIfInBounds,List.take_set,ht]
  ·exact h.mod.step_set (fun hk=>absurd (h.new g ⟨_,rfl,rfl⟩) (by show ¬_<=_;have:g<w0.heap.size:=hk;omega))
section
variable{C:Type}{lab:Nat->C}
theorem ZT.done(h:ZT w0 w e sz o l c xs)(cl:C):COw w (ext lab w0.heap.size cl) cl e sz o l c xs/\Stp (fun _=>False) w0 lab w (ext lab w0.heap.size cl) :=
 ⟨⟨h.own,fun k hk=>ext_new (h.new k hk)⟩,Stp.of_nob h.mod cl⟩
def Z4k(w:J0)(lab:Nat->C)(c:C)(o:Option Addr)(xs:List Value):Prop :=
 ∀(j:Nat)(v:Value),xs[j]?=T v->∃b f,o=T ⟨b,f,L⟩/\b<w.heap.size/\lab b=c/\w.cell? ⟨b,f+j,L⟩=T v
variable{cl:C}{S:C->Prop}{lab':Nat->C}
theorem Z4k.nil(w:J0)(lab:Nat->C)(cl:C)(o:Option Addr):Z4k w lab cl o []:=fun j v h=>by simp at h
theorem Z4k.stp(h:Z4k w lab cl o xs)(s:Stp S w lab w' lab')(hs:¬S cl):Z4k w' lab' cl o xs:=fun j v hv=>by
 obtain⟨b,f,ho,hb,hl,hc⟩:=h j v hv;exact⟨b,f,ho,Jg hb s.size,(s.lab b hb).trans hl,(World.cell?_of_block (s.block b hb (by rw[hl];exact hs))).trans hc⟩
theorem COw.row(h:COw w lab cl e sz o l c xs):Z4k w lab cl o xs:=fun j v hv=>by
 obtain⟨g,rfl,hc⟩:=h.own.cell hv;exact⟨g,0,rfl,h.own.lt ⟨_,rfl,rfl⟩,h.clr _ ⟨_,rfl,rfl⟩,by rw[J5];exact hc⟩
theorem Z4k.src(h:Z4k w lab cl o xs)(hk:P.underlying tx=T (.slice e))(hl:xs.length=n*sz)(h1:∀u∈xs,u.oneCell'=Jj)(c:Nat)(hz:0<sz):Src P sz tx (.slice o n c) n xs w:=by
 cases xs with
 |nil =>
  have:n=0:=by
   have:n*sz=0:=by simpa using hl.symm
   rcases Nat.mul_eq_zero.1 this with h|h<;>omega
  subst this;cases o with
  |none=>exact Src.ofNil w hk c
  |some a=>exact Src.ofSlice w hk a 0 c [] hl (by simp) (by simp)
 |cons v r =>
  obtain⟨b,f,rfl,_,_,_⟩:=h 0 v rfl;refine Src.ofSlice w hk _ n c _ hl (fun j u hu=>?_) h1;obtain⟨b',f',ho,_,_,hc⟩:=h j u hu;cases ho;rw[Z6];exact hc
theorem ZAz{o:Option Addr}{news:List Value}{x:Value}{m:Nat}(h:Z4k w lab cl o xs)(ht:P.underlying t=T (.slice e))(hi:P.info? e=T i)(hz:i.zero=T z)(hs:i.size=sz)(hzs:z.cells.size=sz)(hsz:0<sz)
  (hl:xs.length=l*sz) (src:Src P sz tx x (m+1) news w) (h63:l+(m+1)<=Jp) (hb:(l+(m+1))*i.bytes<=140737488355328) :
  ∃o' c' w',Sem.run P (builtinV QG #[t,tx] ty #[.slice o l l,x]) w=.ok (.slice o' (l+(m+1)) c') w'/\ZT w w' e sz o' (l+(m+1)) c' (xs++news):=by
 have hold:(Jh i.size l (.slice o l l)).run P w.drew=.ok xs.toArray w.drew:=by
  subst hs;cases o with
  |none =>
   have:xs=[]:=by
    cases xs with
    |nil=>rfl
    |cons v r=>obtain⟨b,f,ho,_⟩:=h 0 v rfl;cases ho
   subst this
   have:l=0:=by
    have:l*i.size=0:=by simpa using hl.symm
    rcases Nat.mul_eq_zero.1 this with h|h<;>omega
   subst this;exact run_firstCells_none w.drew i.size 0 0 0
  |some a =>
   exact Jz w.drew i.size l _ l l xs hl (fun j v hv=>by
    obtain⟨b,f,ho,_,_,hc⟩:=h j v hv;cases ho;rw[Z6];exact hc)
 have hr:=run_append_grow_src (P:=P) w t tx ty e i z ht hi hz o l l xs hold x (m+1) news (hs ▸ src) (by omega) (by simp only[Jp]at h63;omega) (growslice_fits (by omega) hb);have hlen:(xs++news).length=(l+(m+1))*sz:=by rw[G,hl,src.newsLen,<-QM]
 have hge:=grownCap_ge w (l+(m+1)) l e;have hcm:grownCap w (l+(m+1)) l e<=Jp:=grownCap_le_maxLen w (l+(m+1)) l e h63;refine⟨_,_,_,hr,⟨hlen,.inr ⟨_,_,rfl,Blk.new w.drew e _,hge,hcm,?_,?_⟩⟩,((Mod.drew w).step_alloc _),fun k hk=>?_⟩
 ·rw[Array.size_append,List.size_toArray,hlen,size_zeroCells,hzs,<-QM]
  congr 1;omega
 ·rw[Array.toList_append]
  show List.take _ ((xs++news)++_)=_;rw[<-hlen];exact List.take_left
 ·obtain⟨d,hd,rfl⟩:=hk
  cases hd;exact JI _
theorem Z9e(o:Option Addr)(k:Nat):Option.map (fun a=>Addr.add a (0*k)) o=o:=by
 cases o with
 |none=>rfl
 |some a=>simp[Addr.add]
theorem Z8h{o:Option Addr}{l c h:Nat}(ht:P.underlying t=T (.slice e))(hi:P.info? e=T i)(w:J0)(hh:h<=c) :
  Sem.run P (Instr.sliceAt t (.slice o l c) L (T (.int JL (h:Int))) (T (.int JL (h:Int)))) w=.ok (.slice o h h) w:=by
 have e1:∀(y:Nat)(code:BoundsCode),h<=y->(Instr.sliceBound (.int JL (h:Int)) y code).run P w=.ok h w:=by
  intro y code hy;simp[Instr.sliceBound,asIntOf,hy]
 have e2:(Instr.sliceBounds Jj l c L (T (.int JL (h:Int))) (T (.int JL (h:Int)))).run P w=.ok (0,h,h) w:=by
  unfold Instr.sliceBounds;simp only[Sem.run_bind,e1 c _ hh,Ji,e1 h _ (JI _),Sem.run_pure]
 unfold Instr.sliceAt;simp only[Sem.run_bind,Zh ht,Ji];unfold Instr.slice;simp only[Sem.run_bind,Zh ht,Ji,e2,Z0l hi,Sem.run_pure,Z9e,ite_self,Nat.sub_zero]
end
end Go.Vcg
end
section
namespace Go.Vcg
def Z7m(bs:List UInt8):ByteArray:=⟨bs.toArray⟩
theorem Z7j{P:Program}{w:J0}{src dst e:JY}(hs:P.underlying src=T (.slice e))(he:P.underlying e=T (.int QO))(hd:P.underlying dst=T .string){o:Option Addr}{c:Nat}{bs:List UInt8}(h:RdB w o bs) :
  (convert src dst (.slice o bs.length c)).run P w=.ok (.string (Z7m bs)) w:=by
 rw[run_convert_bytes_string w src dst e o bs.length c hs he hd];cases o with
 |none =>
  have:bs=[]:=by
   by_cases hne:bs=[]
   ·exact hne
   ·obtain⟨b,f,h,_⟩:=h hne;cases h
  subst this;rfl
 |some a =>
  have hl:(loadCells a bs.length).run P w=.ok ((bs.map fun b=>(b.toNat:Int)).map (Value.int QO)).toArray w:=by
   have h1:(Jh 1 bs.length (.slice (T a) bs.length c)).run P w=.ok (bs.map bV).toArray w:=by
    refine Jz w 1 bs.length a _ c _ (by simp) (fun j v hv=>?_);rw[J9,Jn]at hv;obtain⟨x,hx,rfl⟩:=hv;obtain⟨hj,rfl⟩:=List.getElem?_eq_some_iff.1 hx;obtain⟨b,f,ho,_,hc⟩:=h (by intro e;rw[e]at hj;simp at hj);cases ho;rw[Z6,hc j hj];simp[JP,hj]
   simp only[Jh,Nat.mul_one]at h1;rw[h1,List.map_map];rfl
  rw[run_bytesToString w a _ c _ hl]
  have key:∀(l:List UInt8)(s:ByteArray),(l.map fun b=>(b.toNat:Int)).foldl (fun r n=>r.push (Z n.toNat)) s=⟨s.data++l.toArray⟩:=by
   intro l
   induction l with
   |nil=>intro s;simp
   |cons b l ih =>
    intro s;rw[Q4,QC,ih];have e1:Z ((b.toNat:Int)).toNat=b:=by rw[O,UInt8.ofNat_toNat]
    rw[e1];congr 1;show s.data.push b++l.toArray=_;rw[List.toArray_cons,<-Array.append_assoc];rfl
  rw[key];show Result.ok (Value.string ⟨#[]++bs.toArray⟩) w=_;rw[Array.empty_append];rfl
theorem ZFg(a b:ByteArray):Z9V .eql a b=decide (a.data.toList=b.data.toList):=by
 simp only[Z9V,ByteArray.toList_eq];by_cases h:a.data.toList=b.data.toList
 ·rw[decide_eq_true h,h];simp
 ·rw[decide_eq_false h];simpa using h
theorem Z6E(a b:List UInt8):Z9V .eql (Z7m a) (Z7m b)=decide (a=b):=by
 rw[ZFg];rfl
end Go.Vcg
end
section
namespace Go.Proofs.YtfghidehlnfdiaaGreat
open Go Go.Vcg Go.Trie
theorem ZG{P:Program}{f:FuncId}{args:Array Value}{w:J0}{Q:Ending->J0->Prop}(h:∀R:Ending->J0->Prop,(∀e w',Q e w'->R e w')->Jd P f args w R):Jd P f args w Q :=
 h Q (fun _ _ h=>h)
theorem Z25{t:JY}{z:Value}{s b:Nat}(h:(Tryz.prog.info? t).map (fun i=>(i.zero,i.size,i.bytes))=T (T z,s,b)):∃i,Tryz.prog.info? t=T i/\i.zero=T z/\i.size=s/\i.bytes=b:=by
 obtain⟨i,hi,h1⟩:=Option.map_eq_some_iff.1 h;simp only[Prod.mk.injEq]at h1;exact⟨i,hi,h1⟩
theorem ZW{w0 w:J0}{o:Option Addr}{n k:Nat}{b:List UInt8}{ty:JY}(F:ZT w0 w tU8 1 o n k (b.map bV)){o2:Option Addr}{c:List UInt8}{k2:Nat}(hr:RdB w o2 c)(hn:n+c.length<=2^40) :
  ∃o' c' w',Sem.run J6 (builtinV QG #[Zu,Zu] ty #[.slice o n k,.slice o2 c.length k2]) w=.ok (.slice o' (n+c.length) c') w'/\ZT w0 w' tU8 1 o' (n+c.length) c' ((b++c).map bV):=by
 obtain⟨i,hi,hz,hs,hb⟩:=Z25 Z64;rw[Jr];exact F.push Zn hi hz hs rfl (Z5k Zn hr) (by simp only[Jp];omega) (by rw[hb];omega)
theorem Z1D{w0 w:J0}(M:Vcg.Mod NoB w0 w){o2:Option Addr}{c:List UInt8}{k2:Nat}{ty:JY}(hr:RdB w o2 c)(hn:c.length<=2^40) :
  ∃o' c' w',Sem.run J6 (builtinV QG #[Zu,Zu] ty #[.slice L 0 0,.slice o2 c.length k2]) w=.ok (.slice o' c.length c') w'/\ZT w0 w' tU8 1 o' c.length c' (c.map bV):=by
 have:=ZW (k2:=k2) (ty:=ty) (b:=[]) (ZT.nil M tU8 1) hr (by omega);simpa using this
theorem ZN{w0 w:J0}{o:Option Addr}{l k:Nat}{bs:List UInt8}(F:ZT w0 w tU8 1 o l k (bs.map bV)):RdB w o bs:=F.own.bytes
theorem Z1g{w:J0}{o:Option Addr}{bs:List UInt8}(h:RdB w o bs){i:Nat}(hi:i<bs.length):∃b f,o=T ⟨b,f,L⟩/\b<w.heap.size/\w.cell? ⟨b,f+i,L⟩=T (bV bs[i]):=by
 obtain⟨b,f,ho,hb,hc⟩:=h (by intro e;rw[e]at hi;simp at hi);refine⟨b,f,ho,hb,?_⟩;rw[hc i hi];simp[JP,hi]
theorem ZAf{w:J0}(a b:UInt8){n m:Int}(hn:n=(a.toNat:Int))(hm:m=(b.toNat:Int)):RdB (w.alloc (J8 #[.int QO n,.int QO m] 5)) (T ⟨w.heap.size,0,L⟩) [a,b]:=by
 subst hn hm
 exact RdB.of_blk (Blk.new w 5 #[bV a,bV b]) (fun i hi=>by
  rcases i with _|_|i
  ·rfl
  ·rfl
  ·exact absurd hi (by simp))
theorem ZHD(b:UInt8):QN (b.toNat:Int) 16=((b>>>4).toNat:Int):=by
 have:∀n:Fin 256,QN ((JQ n).toNat:Int) 16=((JQ n>>>4).toNat:Int):=by decide +kernel
 exact this b.toFin
theorem ZHI(b:UInt8):bitsI .and QO (b.toNat:Int) 15=((b&&&15).toNat:Int):=by
 have:∀n:Fin 256,bitsI .and QO ((JQ n).toNat:Int) 15=((JQ n&&&15).toNat:Int):=by decide +kernel
 exact this b.toFin
theorem ZQ(k:By):(nibbles k).length=2*k.length:=by
 induction k with
 |nil=>rfl
 |cons a r ih =>
  show([a>>>4,a&&&15]++nibbles r).length=_;rw[G,ih];simp;omega
theorem Z36(k:By)(a:UInt8):nibbles (k++[a])=nibbles k++[a>>>4,a&&&15]:=by
 unfold nibbles;rw[List.flatMap_append];rfl
theorem Z2W{w:J0}{o:Option Addr}{k:Nat}{bs:List UInt8}(hr:RdB w o bs)(hl:bs.length<=2^30) :
  Jd J6 Z1q.n #[.slice o bs.length k] w (fun e w'=>∃o' k',e=J7 (.slice o' (nibbles bs).length k')/\ZT w w' tU8 1 o' (nibbles bs).length k' ((nibbles bs).map bV)):=by
 refine Z1q.vc _ _ _ _ _ ?_;unfold Z1q.Vc
 refine⟨fun o' l' k' i w'=>∃j:Nat,i=(j:Int)/\j<=bs.length/\l'=(nibbles (bs.take j)).length/\ZT w w' tU8 1 o' l' k' ((nibbles (bs.take j)).map bV),fun _ _ _ i _=>((bs.length:Int)-i).toNat,
  ⟨0,rfl,JT _,rfl,ZT.nil (Mod.refl w) _ _⟩,?_⟩
 rintro o' _ k' _ _ w1⟨j,rfl,hj,rfl,F⟩;refine⟨fun hlt=>?_,fun hge=>?_⟩
 ·have hjl:j<bs.length:=by omega
  obtain⟨b,f,rfl,hb,hc⟩:=Z1g hr hjl;have htk:bs.take (j+1)=bs.take j++[bs[j]]:=by rw[JD,U hjl];rfl
  refine⟨_,rfl,by omega,_,by rw[Z6,O];exact(ZU F.mod hb (fun h=>h)).trans hc,?_⟩;rintro d w2⟨rfl,rfl⟩;have hnl:=ZQ (bs.take j);rw[JG]at hnl;obtain⟨o3,k3,w3,hr3,F3⟩:=ZW (ty:=Zu) (k2:=2) (F.mod' (Mod.alloc _ _)) (ZAf (w:=w1) (bs[j]>>>4) (bs[j]&&&15) (ZHD _) (ZHI _)) (by simp;omega);refine⟨_,w3,hr3,_,_,_,rfl,⟨j+1,by rw[Z0 (by omega) (by omega)];omega,hjl,?_,?_⟩,?_⟩
  ·rw[htk,Z36,G]
  ·rw[htk,Z36];exact F3
  ·dsimp only
   rw[Z0 (by omega) (by omega)];omega
 ·obtain rfl:j=bs.length:=by omega
  rw[JH]at F ⊢;exact⟨_,_,rfl,F⟩
theorem Z1z{w:J0}{o:Option Addr}{k:Nat}{bs:List UInt8}(hr:RdB w o bs)(hl:bs.length<=2^40) :
  Jd J6 Z20.n #[.slice o bs.length k] w (fun e w'=>∃o' k',e=J7 (.slice o' bs.length k')/\ZT w w' tU8 1 o' bs.length k' (bs.map bV)):=by
 refine Z20.vc _ _ _ _ _ ?_;unfold Z20.Vc;refine⟨fun h=>?_,fun h=>?_⟩
 ·subst h
  have:bs=[]:=by
   by_cases hne:bs=[]
   ·exact hne
   ·obtain⟨b,f,ho,_⟩:=hr hne;cases ho
  subst this;exact⟨L,0,rfl,ZT.nil (Mod.refl w) _ _⟩
 ·rintro d w2⟨rfl,rfl⟩
  have M2:=Mod.alloc (S:=NoB) w (J8 #[] 5)
  have F:ZT w (w.alloc (J8 #[] 5)) tU8 1 (T ⟨w.heap.size,0,L⟩) 0 0 (([]:List UInt8).map bV) :=
   ⟨⟨rfl,.inr ⟨_,#[],rfl,Blk.new w 5 #[],JI _,by simp[Jp],rfl,rfl⟩⟩,M2,fun k hk=>by obtain⟨d,hd,rfl⟩:=hk;cases hd;exact JI _⟩
  obtain⟨o3,k3,w3,hr3,F3⟩:=ZW (ty:=Zu) (k2:=k) F (hr.mod' M2) (by omega);rw[J5]at hr3 F3;rw[Jc]at F3;exact⟨_,w3,hr3,_,_,_,rfl,_,_,rfl,F3⟩
end Go.Proofs.YtfghidehlnfdiaaGreat
end
section
namespace Go.Trie
theorem Z68:∀(n:Nat) (x:By) (a b:UInt8),x.length=2*n->Z3l (x++[a,b])=Z3l x++[a<<<4|||b]
 |0,[],a,b,_=>rfl
 |0,_::_,a,b,h=>by simp at h
 |n+1,[],a,b,h=>by simp at h
 |n+1,[_],a,b,h=>by simp at h;omega
 |n+1,c::d::r,a,b,h=>by
  have:=Z68 n r a b (by simp at h;omega);show Z3l (c::d::(r++[a,b]))=Z3l (c::d::r)++_;simp only[Z3l,this,JR]
theorem Z5Z:∀(n:Nat) (x:By),x.length=2*n->(Z3l x).length=n
 |0,[],_=>rfl
 |0,_::_,h=>by simp at h
 |n+1,[],h=>by simp at h
 |n+1,[_],h=>by simp at h;omega
 |n+1,c::d::r,h=>by
  simp only[Z3l,J,Z5Z n r (by simp at h;omega)]
def Z1k(p:By)(leaf:Bool):By:=if p.length%2=1 then[Z1T leaf+1]else[Z1T leaf,0]
theorem Z5R(p:By)(leaf:Bool):headed p leaf=Z1k p leaf++p:=by
 unfold headed Z1k;split<;>rfl
theorem Z56(p:By)(leaf:Bool):∃n,(headed p leaf).length=2*n:=by
 unfold headed;split
 ·rename_i h;exact⟨(p.length+1)/2,by rw[J];omega⟩
 ·rename_i h;exact⟨(p.length+2)/2,by rw[J,J];omega⟩
theorem Z4N:∀(n:Nat) (p q:By),p.take n=q.take n->n<=p.length->n<=q.length->n<=ZI p q
 |0,p,q,_,_,_=>JT _
 |n+1,a::p,b::q,h,h1,h2=>by
  simp only[Q0,Js]at h;have:=Z4N n p q h.2 (by simp at h1;omega) (by simp at h2;omega);simp only[ZI,if_pos h.1];omega
 |n+1,[],q,_,h,_=>by simp at h
 |n+1,_::_,[],_,_,h=>by simp at h
theorem ZEo{n:Nat}{p q:By}(h:p.take n=q.take n)(h1:n<=p.length)(h2:n<=q.length)(h3:n=p.length\/n=q.length\/∃(x:n<p.length) (y:n<q.length),p[n]≠q[n]):ZI p q=n:=by
 have ge:=Z4N n p q h h1 h2;obtain⟨l1,l2⟩:=Z4M p q;rcases h3 with rfl|rfl|⟨x,y,hne⟩
 ·omega
 ·omega
 ·by_cases hlt:n<ZI p q
  ·have ht:=Z3r p q
   have e1:(p.take (ZI p q))[n]?=(q.take (ZI p q))[n]?:=by rw[ht]
   rw[Q6,Q6,if_pos hlt,if_pos hlt,U x,U y]at e1;exact(hne (Option.some.inj e1)).elim
  ·omega
end Go.Trie
end
section
namespace Go.Proofs.YtfghidehlnfdiaaGreat
open Go Go.Vcg Go.Trie
theorem ZBM{w:J0}{o:Option Addr}{k:Nat}{bs:List UInt8}(hr:RdB w o bs)(hl:bs.length<=2^30) :
  Jd J6 Z2i.n #[.slice o bs.length k] w (fun e w'=>w'=w/\∃n,e=J7 (.int QO n)/\(n>=16↔∃x∈bs,x>=16)):=by
 refine Z2i.vc _ _ _ _ _ ?_;unfold Z2i.Vc;refine⟨fun n i w'=>∃j:Nat,i=(j:Int)/\j<=bs.length/\w'=w/\(n>=16↔∃x∈bs.take j,x>=16),fun _ i _=>((bs.length:Int)-i).toNat,⟨0,rfl,JT _,rfl,by simp⟩,?_⟩;rintro n _ _ _⟨j,rfl,hj,rfl,hn⟩;refine⟨fun hlt=>?_,fun hge=>?_⟩
 ·have hjl:j<bs.length:=by omega
  obtain⟨b,f,rfl,hb,hc⟩:=Z1g hr hjl;have htk:bs.take (j+1)=bs.take j++[bs[j]]:=by rw[JD,U hjl];rfl
  refine⟨_,rfl,by omega,_,by rw[Z6,O];exact hc,⟨j+1,by rw[Z0 (by omega) (by omega)];omega,hjl,rfl,?_⟩,?_⟩
  ·rw[htk]
   simp only[List.mem_append,List.mem_singleton]
   have hx:((bs[j].toNat:Int)>=16)↔bs[j]>=16:=by
    have:bs[j]>=16↔(16:UInt8).toNat<=bs[j].toNat:=UInt8.le_iff_toNat_le;rw[this];show _↔16<=bs[j].toNat;omega
   constructor
   ·intro h
    by_cases h1:n>=16
    ·obtain⟨x,hx1,hx2⟩:=hn.1 h1
     exact⟨x,.inl hx1,hx2⟩
    ·exact⟨_,.inr rfl,hx.1 (by omega)⟩
   ·rintro⟨x,hx1|rfl,hx2⟩
    ·have:=hn.2 ⟨x,hx1,hx2⟩;omega
    ·have:=hx.2 hx2;omega
  ·dsimp only
   rw[Z0 (by omega) (by omega)];omega
 ·obtain rfl:j=bs.length:=by omega
  rw[JH]at hn;exact⟨rfl,n,rfl,hn⟩
theorem shl4(a:UInt8):I QO ((a.toNat:Int)*16)=((a<<<4).toNat:Int):=by
 have:∀n:Fin 256,I QO (((JQ n).toNat:Int)*16)=((JQ n<<<4).toNat:Int):=by decide +kernel
 exact this a.toFin
theorem Z4A(w:J0)(cs:List UInt8)(A:Array Value)(hA:A.toList=cs.map bV)(hl:cs.length<=Jp):ZT w (w.alloc (J8 A 5)) tU8 1 (T ⟨w.heap.size,0,L⟩) cs.length cs.length (cs.map bV):=by
 have hs:A.size=cs.length:=by rw[<-Array.length_toList,hA,QD]
 refine⟨⟨by simp,.inr ⟨_,A,rfl,Blk.new w 5 A,JI _,hl,by omega,?_⟩⟩,Mod.alloc _ _,fun k hk=>by obtain⟨d,hd,rfl⟩:=hk;cases hd;exact JI _⟩;rw[hA,Jq (by rw[QD];omega)]
theorem ZT.from_{w w0 w1:J0}{e:JY}{sz:Nat}{o:Option Addr}{l c:Nat}{xs:List Value}(h:ZT w0 w1 e sz o l c xs)(M:Vcg.Mod NoB w w0):ZT w w1 e sz o l c xs :=
 ⟨h.own,M.trans h.mod (fun _ _ h=>h),fun k hk=>QH M.size (h.new k hk)⟩
theorem ZCt{w:J0}{o:Option Addr}{k:Nat}{bs:List UInt8}(hr:RdB w o bs)(hl:bs.length<=2^30)(leaf:Bool) :
  Jd J6 Z3Y.n #[.slice o bs.length k,J2 leaf] w (fun e w'=>∃o' k',e=J7 (QF #[.slice o' (Z7x bs leaf).1.length k',.int JL (Z7x bs leaf).2])/\ZT w w' tU8 1 o' (Z7x bs leaf).1.length k' ((Z7x bs leaf).1.map bV)):=by
 refine ZG fun R hR=>Z3Y.vc _ _ _ _ _ _ ?_;unfold Z3Y.Vc
 have bad:Z2x bs->R (J7 (QF #[.slice L 0 0,.int JL 140])) w:=fun h=>by
  refine hR _ _ ⟨L,0,?_,?_⟩
  ·unfold Z7x;rw[if_pos h];rfl
  ·unfold Z7x;rw[if_pos h];exact ZT.nil (Mod.refl w) _ _
 refine⟨fun h=>bad (.inl (by omega)),fun h128=>?_⟩;refine(ZBM hr hl).mono ?_;rintro _ w1⟨rfl,n,rfl,hn⟩;refine⟨_,rfl,fun h=>bad (.inr (hn.1 h)),fun h16=>?_⟩
 have hgood:¬Z2x bs:=by
  rintro(h|h)
  ·omega
  ·exact h16 (hn.2 h)
 have hpk:Z7x bs leaf=(Z3l (headed bs leaf),0):=by unfold Z7x;rw[if_neg hgood]
 rw[hpk]at hR;refine⟨fun m w'=>m=((Z1T leaf).toNat:Int)/\w'=w1,⟨fun h=>⟨by rw[h];rfl,rfl⟩,fun h=>⟨by rw[h];rfl,rfl⟩⟩,?_⟩;rintro _ _ w7⟨rfl,rfl⟩;rintro d8 w9⟨rfl,rfl⟩;have hho:(Z1k bs leaf).length<=2:=by unfold Z1k;split<;>simp
 refine⟨fun o' l' k' w'=>∃k0,k'=k0/\l'=(Z1k bs leaf).length/\ZT w7 w' tU8 1 o' l' k' ((Z1k bs leaf).map bV),⟨fun hodd=>?_,fun hev=>?_⟩,?_⟩
 ·rintro d11 w12⟨rfl,rfl⟩
  have ho:bs.length%2=1:=by
   have:QP ((bs.length:Nat):Int) 2=((bs.length%2:Nat):Int):=rfl;omega
  have e:Z1k bs leaf=[Z1T leaf+1]:=by unfold Z1k;rw[if_pos ho]
  rw[e];have hw:I QO (((Z1T leaf).toNat:Int)+1)=((Z1T leaf+1).toNat:Int):=by cases leaf<;>decide
  rw[hw];exact⟨_,rfl,rfl,ZT.from_ (Z4A _ [Z1T leaf+1] _ rfl (by simp[Jp])) (Mod.alloc _ _)⟩
 ·have ho:¬bs.length%2=1:=by
    have:QP ((bs.length:Nat):Int) 2=((bs.length%2:Nat):Int):=rfl;omega
  have e:Z1k bs leaf=[Z1T leaf,0]:=by unfold Z1k;rw[if_neg ho]
  rw[e];exact⟨_,rfl,rfl,Z4A _ [Z1T leaf,0] _ rfl (by simp[Jp])⟩
 ·rintro o13 _ _ _ w14⟨c13,rfl,rfl,F14⟩
  obtain⟨o16,k16,w16,hr16,F16⟩:=ZW (ty:=Zu) (k2:=k) F14 (hr.mod' F14.mod) (by omega);rw[<-Z5R]at F16;have hlh:(Z1k bs leaf).length+bs.length=(headed bs leaf).length:=by rw[Z5R,G]
  rw[hlh]at hr16 F16;refine⟨_,w16,hr16,_,_,_,rfl,?_⟩;obtain⟨N,hN⟩:=Z56 bs leaf;have hrh:=ZN F16;generalize headed bs leaf=H at *
  refine⟨fun o' l' k' i w'=>∃j:Nat,i=((2*j:Nat):Int)/\j<=N/\l'=(Z3l (H.take (2*j))).length/\ZT w16 w' tU8 1 o' l' k' ((Z3l (H.take (2*j))).map bV),fun _ _ _ i _=>((H.length:Int)-i).toNat,
   ⟨0,rfl,JT _,rfl,ZT.nil (Mod.refl w16) _ _⟩,?_⟩
  rintro o' _ k' _ _ w23⟨j,rfl,hj,rfl,F⟩;refine⟨fun hlt=>?_,fun hge=>?_⟩
  ·rintro _ rfl
   have h1:2*j<H.length:=by omega
   have h2:2*j+1<H.length:=by omega
   have F24:=F.mod' (Mod.drew (S:=NoB) w23);obtain⟨b,f,rfl,hb,hc1⟩:=Z1g hrh h1;obtain⟨b',f',hb',_,hc2⟩:=Z1g hrh h2;cases hb';have e1:I JL (((2*j:Nat):Int)+1)=((2*j+1:Nat):Int):=by rw[Z0 (by omega) (by omega)];omega
   have e2:I JL (((2*j:Nat):Int)+2)=((2*(j+1):Nat):Int):=by rw[Z0 (by omega) (by omega)];omega
   rw[e1,e2];refine⟨_,rfl,by omega,_,by rw[Z6,O];exact(ZU F24.mod hb (fun h=>h)).trans hc1,_,rfl,by omega,_,by rw[Z6,O];exact(ZU F24.mod hb (fun h=>h)).trans hc2,?_⟩;rw[shl4,Z4w];rintro d29 w30⟨rfl,rfl⟩
   have htk:H.take (2*(j+1))=H.take (2*j)++[H[2*j],H[2*j+1]]:=by
    rw[show 2*(j+1)=2*j+1+1 by omega,JD,JD,U h1,U h2,J3];rfl
   have htl:(H.take (2*j)).length=2*j:=by rw[JG];omega
   have hps:=Z68 j (H.take (2*j)) H[2*j] H[2*j+1] htl;have hpl:=Z5Z j (H.take (2*j)) htl
   have one:RdB (w23.drew.alloc (J8 #[.int QO ((H[2*j]<<<4|||H[2*j+1]).toNat:Int)] 5)) (T ⟨w23.drew.heap.size,0,L⟩) [H[2*j]<<<4|||H[2*j+1]] :=
    RdB.of_blk (Blk.new w23.drew 5 #[bV (H[2*j]<<<4|||H[2*j+1])]) (fun i hi=>by
     obtain rfl:i=0:=by simpa using hi
     rfl)
   obtain⟨o31,k31,w31,hr31,F31⟩:=ZW (ty:=Zu) (k2:=1) (F24.mod' (Mod.alloc _ _)) one (by simp;omega);refine⟨_,w31,hr31,_,_,_,rfl,⟨j+1,rfl,by omega,?_,?_⟩,by dsimp only;omega⟩
   ·rw[htk,hps,G]
   ·rw[htk,hps];exact F31
  ·obtain rfl:j=N:=by omega
   rw[Jq (by omega)]at F ⊢;exact hR _ _ ⟨_,_,rfl,ZT.from_ F F16.mod⟩
end Go.Proofs.YtfghidehlnfdiaaGreat
end
section
namespace Go.Trie
def digitsF:Nat->Nat->By
 |0,_=>[]
 |f+1,n=>if n=0 then[]else digitsF f (n/256)++[Z n]
def Z2L(n:Nat):By:=digitsF 8 n
def Z2r(n base:Nat):By:=if n<=55 then[Z (base+n)]else Z (base+55+(Z2L n).length)::Z2L n
def own:By->Bool
 |[a]=>decide (a<128)
 |_=>JA
mutual
def enc:It->By
 | .s b=>if own b then b else Z2r b.length 128++b
 | .l xs=>Z2r (Z1d xs).length 192++Z1d xs
def Z1d:List It->By
 |[]=>[]
 |x::r=>enc x++Z1d r
end
theorem Z8E:∀(f n:Nat),(digitsF f n).length<=f
 |0,_=>by simp[digitsF]
 |f+1,n=>by
  have:=Z8E f (n/256);simp only[digitsF];split
  ·simp
  ·rw[G];simp;omega
theorem Z46(n:Nat):(Z2L n).length<=8:=Z8E 8 n
end Go.Trie
namespace Go.Proofs.YtfghidehlnfdiaaGreat
open Go Go.Vcg Go.Trie
theorem Z5p:Tryz.prog.underlying 5=T (.int QO):=by kernel_rfl
theorem ZBl:Tryz.prog.underlying 9=T .string:=by kernel_rfl
theorem Z4t{w:J0}{o1 o2:Option Addr}{k1 k2:Nat}{a b:List UInt8}(h1:RdB w o1 a)(h2:RdB w o2 b) :
  Jd J6 Z21.n #[.slice o1 a.length k1,.slice o2 b.length k2] w (fun e w'=>e=J7 (J2 (decide (a=b)))/\w'=w):=by
 refine Z21.vc _ _ _ _ _ _ _ _ ?_;unfold Z21.Vc;refine⟨_,Z7j Zn Z5p ZBl h1,_,rfl,_,Z7j Zn Z5p ZBl h2,_,rfl,?_,rfl⟩;rw[Z6E]
theorem Z73{w:J0}{o1 o2:Option Addr}{k1 k2:Nat}{a b:List UInt8}(h1:RdB w o1 a)(hk:a.length<=k1)(h2:RdB w o2 b) :
  Jd J6 Z0r.n #[.slice o1 a.length k1,.slice o2 b.length k2] w (fun e w'=>e=J7 (J2 (b.isPrefixOf a))/\w'=w):=by
 refine Z0r.vc _ _ _ _ _ _ _ _ ?_;unfold Z0r.Vc;refine⟨fun hge=>⟨by omega,?_⟩,fun hlt=>⟨?_,rfl⟩⟩
 ·rw[O]
  have hl:(a.take b.length).length=b.length:=by rw[JG];omega
  have hc:=Z4t (k1:=k1) (k2:=k2) (h1.take b.length) h2;rw[hl]at hc;refine hc.mono ?_;rintro _ w'⟨rfl,rfl⟩;refine⟨_,rfl,?_,rfl⟩;congr 2;rw[QE,decide_eq_true_eq,List.isPrefixOf_iff_prefix,List.prefix_iff_eq_take];exact⟨fun h=>h.symm,fun h=>h.symm⟩
 ·congr 2
  symm
  rw[Bool.eq_false_iff];intro h;have:=(List.isPrefixOf_iff_prefix.1 h).length_le;omega
theorem Z5X{w:J0}{o:Option Addr}{k:Nat}{b:List UInt8}(h:RdB w o b) :
  Jd J6 Z6C.n #[.slice o b.length k] w (fun e w'=>e=J7 (J2 (own b))/\w'=w):=by
 refine Z6C.vc _ _ _ _ _ ?_;unfold Z6C.Vc;refine⟨fun h1=>?_,fun h1=>⟨?_,rfl⟩⟩
 ·obtain⟨a,rfl⟩:∃a,b=[a]:=List.length_eq_one_iff.1 (by omega)
  obtain⟨B,f,rfl,hB,hc⟩:=Z1g h (i:=0) (by simp)
  have h2:a<128↔a.toNat<128:=by
   have:∀n:Fin 256,(JQ n<128↔(JQ n).toNat<128):=by decide +kernel
   exact this a.toFin
  have h3:decide ((a.toNat:Int)<128)=own [a]:=by
   show _=decide (a<128);rw[QE,decide_eq_true_eq,decide_eq_true_eq,h2];omega
  rw[<-h3];exact⟨_,rfl,by omega,_,by rw[Z6];exact hc,rfl,rfl⟩
 ·have:own b=JA:=by
    unfold own;split
    ·simp at h1
    ·rfl
  rw[this]
theorem Z3k(w:J0)(a:UInt8){n:Int}(hn:n=(a.toNat:Int)):ZT w (w.alloc (J8 #[.int QO n] 5)) tU8 1 (T ⟨w.heap.size,0,L⟩) 1 1 ([a].map bV):=by
 subst hn;exact Z4A w [a] #[bV a] rfl (by simp[Jp])
theorem Z2D(n:Nat):I QO (n:Int)=((Z n).toNat:Int):=by
 rw[JK];show(n:Int)%256=_;omega
theorem Z9u{w:J0}(N:Nat)(hN:N<2^63) :
  Jd J6 Z2g.n #[.int .u64 (N:Int)] w (fun e w'=>∃o k,e=J7 (.slice o (Z2L N).length k)/\ZT w w' tU8 1 o (Z2L N).length k ((Z2L N).map bV)):=by
 refine Z2g.vc _ _ _ ?_;unfold Z2g.Vc
 refine⟨fun n o l k w'=>∃(f m:Nat)(row:By),n=(m:Int)/\m<256^f/\f<=8/\Z2L N=digitsF f m++row/\l=row.length/\ZT w w' tU8 1 o l k (row.map bV),fun n _ _ _ _=>n.toNat,
  ⟨8,N,[],rfl,by omega,JI _,by rw[JM];rfl,rfl,ZT.nil (Mod.refl w) _ _⟩,?_⟩
 rintro _ o _ k _ w1⟨f,m,row,rfl,hm,hf,hd,rfl,F⟩;have hlen:=Z46 N;rw[hd,G]at hlen;refine⟨fun hpos=>?_,fun hz=>?_⟩
 ·rintro d w2⟨rfl,rfl⟩
  cases f with
  |zero=>simp at hm;omega
  |succ g =>
   have hM:=Mod.alloc (S:=NoB) w1 (J8 #[.int QO (I QO (m:Int))] 5);have F1:=Z3k w1 (Z m) (n:=I QO (m:Int)) (Z2D m);obtain⟨o3,k3,w3,hr3,F3⟩:=ZW (ty:=Zu) (k2:=k) F1 ((ZN F).mod' hM) (by omega)
   have hstep:digitsF (g+1) m=digitsF g (m/256)++[Z m]:=by
    simp only[digitsF];rw[if_neg (by omega)]
   have hfd:QN (m:Int) 256=((m/256:Nat):Int):=by
    rw[Int.fdiv_eq_ediv_of_nonneg _ (by omega)];omega
   rw[hfd];refine⟨_,w3,hr3,_,_,_,rfl,⟨g,m/256,Z m::row,rfl,?_,by omega,?_,?_,?_⟩,?_⟩
   ·rw[Q9]at hm
    exact Nat.div_lt_of_lt_mul (by rw[QI];exact hm)
   ·rw[hd,hstep,J3];rfl
   ·simp;omega
   ·exact ZT.from_ F3 F.mod
   ·dsimp only;omega
 ·have hm0:m=0:=by omega
  subst hm0;have h0:digitsF f 0=[]:=by cases f<;>simp[digitsF]
  rw[h0,Jc]at hd;rw[hd];exact⟨_,_,rfl,F⟩
theorem Z4V{w:J0}(n base:Nat)(hn:n<2^31)(hb:base<=192) :
  Jd J6 Z4a.n #[.int JL (n:Int),.int JL (base:Int)] w (fun e w'=>∃o k,e=J7 (.slice o (Trie.Z2r n base).length k)/\ZT w w' tU8 1 o (Trie.Z2r n base).length k ((Trie.Z2r n base).map bV)):=by
 refine Z4a.vc _ _ _ _ ?_;unfold Z4a.Vc;refine⟨fun hs=>?_,fun hs=>?_⟩
 ·rintro d w2⟨rfl,rfl⟩
  have e:Trie.Z2r n base=[Z (base+n)]:=by unfold Trie.Z2r;rw[if_pos (by omega)]
  have ew:I JL ((base:Int)+(n:Int))=((base+n:Nat):Int):=by rw[Z0 (by omega) (by omega)];omega
  rw[e,ew];exact⟨_,_,rfl,Z3k w _ (Z2D _)⟩
 ·have e:Trie.Z2r n base=Z (base+55+(Z2L n).length)::Z2L n:=by unfold Trie.Z2r;rw[if_neg (by omega)]
  have ew:I .u64 (n:Int)=(n:Int):=by
   show(n:Int)%18446744073709551616=_;omega
  rw[ew];refine(Z9u n (by omega)).mono ?_;rintro _ w2⟨o,k,rfl,F⟩;have hdl:=Z46 n;refine⟨_,_,_,rfl,?_⟩;rintro d w3⟨rfl,rfl⟩
  have ew2:I JL (I JL ((base:Int)+55)+(((Z2L n).length:Nat):Int))=((base+55+(Z2L n).length:Nat):Int):=by
   rw[Z0 (n:=(base:Int)+55) (by omega) (by omega),Z0 (by omega) (by omega)];omega
  rw[ew2];obtain⟨o4,k4,w4,hr4,F4⟩:=ZW (ty:=Zu) (k2:=k) (Z3k w2 _ (Z2D (base+55+(Z2L n).length))) ((ZN F).mod' (Mod.alloc _ _)) (by omega);refine⟨_,w4,hr4,_,_,_,rfl,o4,k4,?_,?_⟩
  ·rw[e,J,QJ]
  ·rw[e,J,QJ]
   exact ZT.from_ F4 F.mod
end Go.Proofs.YtfghidehlnfdiaaGreat
end
section
namespace Go.Proofs.YtfghidehlnfdiaaGreat
open Go Go.Vcg Go.Trie
abbrev ZFj:JY:=111
abbrev ZGj:JY:=109
theorem Z8p:Tryz.prog.underlying ZGj=T (.slice ZFj):=by kernel_rfl
theorem ZE3:(Tryz.prog.info? ZFj).map (fun i=>(i.zero,i.size,i.bytes))=T (T (QQ #[J2 JA,.slice L 0 0,.slice L 0 0]),3,56):=by kernel_rfl
mutual
def ItC(A:Nat->Prop)(w:J0):It->Value->Value->Value->Prop
 | .s b,v1,v2,v3=>v1=J2 JA/\(∃o c,v2=.slice o b.length c/\RdB w o b/\(b≠[]->∀d,o=T d->¬A d.block))/\v3=.slice L 0 0
 | .l xs,v1,v2,v3=>v1=J2 Jj/\v2=.slice L 0 0/\∃o c,v3=.slice o xs.length c/\Z1X A w xs o 0/\xs.length<=c
def Z1X(A:Nat->Prop)(w:J0):List It->Option Addr->Nat->Prop
 |[],_,_=>True
 |x::r,o,k=>(∃b f v1 v2 v3,o=T ⟨b,f,L⟩/\b<w.heap.size/\¬A b/\w.cell? ⟨b,f+k*3,L⟩=T v1/\w.cell? ⟨b,f+k*3+1,L⟩=T v2/\w.cell? ⟨b,f+k*3+2,L⟩=T v3/\ItC A w x v1 v2 v3)/\Z1X A w r o (k+1)
end
section
variable{A:Nat->Prop}
mutual
theorem ItC.modA{S:Nat->Prop}{w w':J0}(M:Vcg.Mod S w w')(hS:∀b,S b->A b):∀(x:It) {v1 v2 v3:Value},ItC A w x v1 v2 v3->ItC A w' x v1 v2 v3
 | .s b,_,_,_,h=>by
   simp only[ItC]at h ⊢;obtain⟨h1,⟨o,c,h2,h3,h5⟩,h4⟩:=h;refine⟨h1,⟨o,c,h2,?_,h5⟩,h4⟩;intro hne;obtain⟨d,f,ho,hd,hc⟩:=h3 hne;exact⟨d,f,ho,Jg hd M.size,fun i hi=>(ZU M hd (fun hh=>h5 hne _ ho (hS _ hh))).trans (hc i hi)⟩
 | .l xs,_,_,_,h=>by
   simp only[ItC]at h ⊢;obtain⟨h1,h2,o,c,h3,h4,h5⟩:=h;exact⟨h1,h2,o,c,h3,Z1X.modA M hS xs h4,h5⟩
theorem Z1X.modA{S:Nat->Prop}{w w':J0}(M:Vcg.Mod S w w')(hS:∀b,S b->A b):∀(xs:List It) {o:Option Addr} {k:Nat},Z1X A w xs o k->Z1X A w' xs o k
 |[],_,_,_=>by simp only[Z1X]
 |x::r,_,_,h=>by
  simp only[Z1X]at h ⊢;obtain⟨⟨b,f,v1,v2,v3,ho,hb,hA,h1,h2,h3,h4⟩,h5⟩:=h;exact⟨⟨b,f,v1,v2,v3,ho,Jg hb M.size,hA,(ZU M hb (fun h=>hA (hS _ h))).trans h1,(ZU M hb (fun h=>hA (hS _ h))).trans h2,(ZU M hb (fun h=>hA (hS _ h))).trans h3,ItC.modA M hS x h4⟩,Z1X.modA M hS r h5⟩
end
theorem ItC.mod{w w':J0}(M:Vcg.Mod NoB w w')(x:It){v1 v2 v3:Value}(h:ItC A w x v1 v2 v3):ItC A w' x v1 v2 v3:=ItC.modA M (fun _ h=>h.elim) x h
theorem Z1X.mod{w w':J0}(M:Vcg.Mod NoB w w')(xs:List It){o:Option Addr}{k:Nat}(h:Z1X A w xs o k):Z1X A w' xs o k:=Z1X.modA M (fun _ h=>h.elim) xs h
mutual
theorem ItC.mono{A':Nat->Prop}{w:J0}(hA:∀b,A' b->A b):∀(x:It) {v1 v2 v3:Value},ItC A w x v1 v2 v3->ItC A' w x v1 v2 v3
 | .s b,_,_,_,h=>by
   simp only[ItC]at h ⊢;obtain⟨h1,⟨o,c,h2,h3,h5⟩,h4⟩:=h;exact⟨h1,⟨o,c,h2,h3,fun hne d hd hh=>h5 hne d hd (hA _ hh)⟩,h4⟩
 | .l xs,_,_,_,h=>by
   simp only[ItC]at h ⊢;obtain⟨h1,h2,o,c,h3,h4,h5⟩:=h;exact⟨h1,h2,o,c,h3,Z1X.mono hA xs h4,h5⟩
theorem Z1X.mono{A':Nat->Prop}{w:J0}(hA:∀b,A' b->A b):∀(xs:List It) {o:Option Addr} {k:Nat},Z1X A w xs o k->Z1X A' w xs o k
 |[],_,_,_=>by simp only[Z1X]
 |x::r,_,_,h=>by
  simp only[Z1X]at h ⊢;obtain⟨⟨b,f,v1,v2,v3,ho,hb,hB,h1,h2,h3,h4⟩,h5⟩:=h;exact⟨⟨b,f,v1,v2,v3,ho,hb,fun hh=>hB (hA _ hh),h1,h2,h3,ItC.mono hA x h4⟩,Z1X.mono hA r h5⟩
end
theorem Z1X.get{w:J0}:∀{xs:List It} {o:Option Addr} {k:Nat},Z1X A w xs o k->∀(j:Nat) (hj:j<xs.length),∃b f v1 v2 v3,o=T ⟨b,f,L⟩/\b<w.heap.size/\w.cell? ⟨b,f+(k+j)*3,L⟩=T v1/\w.cell? ⟨b,f+(k+j)*3+1,L⟩=T v2/\w.cell? ⟨b,f+(k+j)*3+2,L⟩=T v3/\ItC A w xs[j] v1 v2 v3
 |x::r,o,k,h,0,_=>by
  simp only[Z1X]at h;obtain⟨⟨b,f,v1,v2,v3,ho,hb,hB,hr⟩,_⟩:=h;exact⟨b,f,v1,v2,v3,ho,hb,hr⟩
 |x::r,o,k,h,j+1,hj=>by
  simp only[Z1X]at h;have:=h.2.get j (by simpa using hj);rw[show k+1+j=k+(j+1) by omega]at this;exact this
theorem ItC.vals{w:J0}{x:It}{v1 v2 v3:Value}(h:ItC A w x v1 v2 v3):∃b o1 l1 c1 o2 l2 c2,v1=J2 b/\v2=.slice o1 l1 c1/\v3=.slice o2 l2 c2:=by
 cases x with
 |s b =>
  simp only[ItC]at h;obtain⟨h1,⟨o,c,h2,h3⟩,h4⟩:=h;exact⟨_,_,_,_,_,_,_,h1,h2,h4⟩
 |l xs =>
  simp only[ItC]at h;obtain⟨h1,h2,o,c,h3,h4⟩:=h;exact⟨_,_,_,_,_,_,_,h1,h2,h3⟩
theorem encs_append:∀(xs ys:List It),Z1d (xs++ys)=Z1d xs++Z1d ys
 |[],ys=>by simp only[Z1d,Jc]
 |x::r,ys=>by simp only[Z1d,JR,encs_append r ys,J3]
theorem Z1j(xs:List It)(j:Nat):(Z1d (xs.take j)).length<=(Z1d xs).length:=by
 have:=congrArg QA (congrArg Z1d (JO j xs));rw[encs_append,G]at this;omega
theorem Z5Q(n b:Nat):1<=(Trie.Z2r n b).length/\(Trie.Z2r n b).length<=9:=by
 have:=Z46 n;unfold Trie.Z2r;split<;>simp<;>omega
theorem ZAT:∀(x:It) {w:J0} {b:Bool} {o1:Option Addr} {l1 c1:Nat} {o2:Option Addr} {l2 c2:Nat},ItC A w x (J2 b) (.slice o1 l1 c1) (.slice o2 l2 c2)->(enc x).length<=2^20 ->
  Jd J6 Z3q.n #[QQ #[J2 b,.slice o1 l1 c1,.slice o2 l2 c2]] w (fun e w'=>∃o k,e=J7 (.slice o (enc x).length k)/\ZT w w' tU8 1 o (enc x).length k ((enc x).map bV))
 | .s bs,w,b,o1,l1,c1,o2,l2,c2,h,hlen=>by
   simp only[ItC,JZ,JV]at h;obtain⟨rfl,⟨o,c,⟨rfl,rfl,rfl⟩,hr,_⟩,rfl,rfl,rfl⟩:=h;refine ZG fun R hR=>Z3q.vc _ _ _ _ _ _ _ _ _ ?_;unfold Z3q.Vc;rintro d w1⟨rfl,rfl⟩;have X:=Blk.new w 111 #[J2 JA,.slice o1 bs.length c1,.slice L 0 0];have M:=Mod.alloc (S:=NoB) w (J8 #[J2 JA,.slice o1 bs.length c1,.slice L 0 0] 111);have hr1:=hr.mod' M;generalize w.alloc (J8 #[J2 JA,.slice o1 bs.length c1,.slice L 0 0] 111)=w1 at *
   simp only[Z6,J5];refine⟨_,X.rd1 rfl,fun _=>⟨_,_,_,X.rd1 rfl,?_⟩,fun h=>by cases h⟩;refine(Z5X hr1).mono ?_;rintro _ w2⟨rfl,rfl⟩;simp only[enc]at hlen hR;refine⟨_,rfl,fun ho=>⟨_,_,_,X.rd1 rfl,?_⟩,fun ho=>?_⟩
   ·rw[if_pos ho]at hR hlen
    refine(Z1z hr1 (by omega)).mono ?_;rintro _ w3⟨o3,k3,rfl,F3⟩;exact⟨_,_,_,rfl,hR _ _ ⟨o3,k3,rfl,ZT.from_ F3 M⟩⟩
   ·rw[if_neg (by rw[ho];simp),G]at hlen
    rw[if_neg (by rw[ho];simp)]at hR;rintro _ rfl;have MD:=M.step_drew;have X2:=X.mod' (Mod.drew (S:=NoB) w2);have hr2:=hr1.mod' (Mod.drew (S:=NoB) w2);generalize w2.drew=w3 at *
    refine⟨_,_,_,X2.rd1 rfl,_,_,_,X2.rd1 rfl,?_⟩;refine(Z4V bs.length 128 (by omega) (by omega)).mono ?_;rintro _ w4⟨o4,k4,rfl,F4⟩;obtain⟨o5,k5,w5,hr5,F5⟩:=ZW (ty:=Zu) (k2:=c1) F4 (hr2.mod' F4.mod) (by omega);refine⟨_,_,_,rfl,(X2.mod' F4.mod).rd1 rfl,_,w5,hr5,_,_,_,rfl,hR _ _ ⟨o5,k5,?_,?_⟩⟩
    ·rw[G]
    ·rw[G];exact ZT.from_ F5 MD
 | .l xs,w,b,o1,l1,c1,o2,l2,c2,h,hlen=>by
   have ih:∀y∈xs,∀{w:J0}{b:Bool}{o1:Option Addr}{l1 c1:Nat}{o2:Option Addr}{l2 c2:Nat},ItC A w y (J2 b) (.slice o1 l1 c1) (.slice o2 l2 c2)->(enc y).length<=2^20 ->
    Jd J6 Z3q.n #[QQ #[J2 b,.slice o1 l1 c1,.slice o2 l2 c2]] w (fun e w'=>∃o k,e=J7 (.slice o (enc y).length k)/\ZT w w' tU8 1 o (enc y).length k ((enc y).map bV)) :=
    fun y hy=>ZAT y
   simp only[ItC,JZ,JV]at h;obtain⟨rfl,⟨rfl,rfl,rfl⟩,o,c,⟨rfl,rfl,rfl⟩,hI,hcc⟩:=h;clear hcc;refine ZG fun R hR=>Z3q.vc _ _ _ _ _ _ _ _ _ ?_;unfold Z3q.Vc;rintro d w1⟨rfl,rfl⟩;have X:=Blk.new w 111 #[J2 Jj,.slice L 0 0,.slice o2 xs.length c2];have M:=Mod.alloc (S:=NoB) w (J8 #[J2 Jj,.slice L 0 0,.slice o2 xs.length c2] 111);have hI1:=Z1X.mod M xs hI;generalize w.alloc (J8 #[J2 Jj,.slice L 0 0,.slice o2 xs.length c2] 111)=w1 at *
   simp only[Z6,J5];simp only[enc,G]at hlen;simp only[enc]at hR;refine⟨_,X.rd1 rfl,fun h=>(by cases h),fun _=>⟨_,_,_,X.rd1 rfl,?_⟩⟩
   refine⟨fun o' l' k' i w'=>∃j:Nat,i=(j:Int)/\j<=xs.length/\l'=(Z1d (xs.take j)).length/\ZT w1 w' tU8 1 o' l' k' ((Z1d (xs.take j)).map bV),fun _ _ _ i _=>((xs.length:Int)-i).toNat,
    ⟨0,rfl,JT _,by rw[JW];simp only[Z1d];rfl,by rw[JW];simp only[Z1d];exact ZT.nil (Mod.refl w1) _ _⟩,?_⟩
   have hxl:xs.length<=(Z1d xs).length:=by
    clear hI hI1 hlen hR ih X M
    induction xs with
    |nil=>simp
    |cons x r ihr =>
     have:1<=(enc x).length:=by
      cases x with
      |s b =>
       simp only[enc];split
       ·rename_i ho
        cases b with
        |nil=>simp[own]at ho
        |cons a r=>simp
       ·rw[G];have:=(Z5Q b.length 128).1;omega
      |l ys=>simp only[enc,G];have:=(Z5Q (Z1d ys).length 192).1;omega
     simp only[Z1d,G,J];omega
   rintro o' _ k' _ _ w2⟨j,rfl,hj,rfl,F⟩;have hjle:=Z1j xs j;refine⟨fun hlt=>?_,fun hge=>?_⟩
   ·have hjl:j<xs.length:=by omega
    obtain⟨B,f,v1,v2,v3,rfl,hB,h1,h2,h3,hx⟩:=(Z1X.mod F.mod xs hI1).get j hjl;obtain⟨b,p1,q1,r1,p2,q2,r2,rfl,rfl,rfl⟩:=hx.vals
    have htk:Z1d (xs.take (j+1))=Z1d (xs.take j)++enc xs[j]:=by
     rw[JD,U hjl,encs_append];show _++Z1d [xs[j]]=_;simp only[Z1d,JM]
    have hle2:=Z1j xs (j+1);rw[htk,G]at hle2;rw[J5]at h1 h2 h3;have ew:I JL ((j:Int)+1)=((j+1:Nat):Int):=by rw[Z0 (by omega) (by omega)];omega
    rw[ew];refine⟨_,rfl,by omega,_,_,_,_,_,_,_,by rw[Z6,O];exact h1,by rw[Z6,Z6,O];exact h2,by rw[Z6,Z6,O];exact h3,?_⟩;rintro d w3⟨rfl,rfl⟩;have Y:=Blk.new w2 111 #[J2 JA,.slice L 0 0,.slice L 0 0];have N:=Mod.alloc (S:=NoB) w2 (J8 #[J2 JA,.slice L 0 0,.slice L 0 0] 111);simp only[Z6,J5];refine⟨Y.canSet (by simp) rfl,?_⟩;rintro _ rfl;have Y1:=Y.set 0 (J2 b);have N1:=N.step_set (a:=⟨w2.heap.size,0,L⟩) (v:=J2 b) (fun h=>(JS _ h).elim);refine⟨Y1.canSet (by simp) rfl,?_⟩;rintro _ rfl;have Y2:=Y1.set 1 (.slice p1 q1 r1);have N2:=N1.step_set (a:=⟨w2.heap.size,1,L⟩) (v:=.slice p1 q1 r1) (fun h=>(JS _ h).elim);refine⟨Y2.canSet (by simp) rfl,?_⟩;rintro _ rfl;have Y3:=Y2.set 2 (.slice p2 q2 r2);have N3:=N2.step_set (a:=⟨w2.heap.size,2,L⟩) (v:=.slice p2 q2 r2) (fun h=>(JS _ h).elim);refine⟨_,_,_,_,_,_,_,Y3.rd1 rfl,Y3.rd1 rfl,Y3.rd1 rfl,?_⟩;refine(ih _ (Jm hjl) (ItC.mod N3 _ hx) (by omega)).mono ?_;rintro _ w4⟨o4,k4,rfl,F4⟩;obtain⟨o5,k5,w5,hr5,F5⟩:=ZW (ty:=Zu) (k2:=k4) ((F.mod' N3).mod' F4.mod) (ZN F4) (by omega);refine⟨_,_,_,rfl,_,w5,hr5,_,_,_,rfl,⟨j+1,rfl,hjl,?_,?_⟩,by omega⟩
    ·rw[htk,G]
    ·rw[htk];exact F5
   ·obtain rfl:j=xs.length:=by omega
    rw[JH]at F ⊢;refine(Z4V (Z1d xs).length 192 (by omega) (by omega)).mono ?_;rintro _ w4⟨o4,k4,rfl,F4⟩;have hhl:=(Z5Q (Z1d xs).length 192).2;obtain⟨o5,k5,w5,hr5,F5⟩:=ZW (ty:=Zu) (k2:=k') F4 ((ZN F).mod' F4.mod) (by omega);refine⟨_,_,_,rfl,_,w5,hr5,_,_,_,rfl,hR _ _ ⟨o5,k5,?_,?_⟩⟩
    ·rw[G]
    ·rw[G]
     exact ZT.from_ (ZT.from_ F5 F.mod) M
 termination_by x=>SizeOf.sizeOf x
 decreasing_by
  have:=Jt hy;simp;omega
end
end Go.Proofs.YtfghidehlnfdiaaGreat
end
section
namespace Go.Trie
mutual
def count:It->Nat
 | .s _=>1
 | .l xs=>1+Z0b xs
def Z0b:List It->Nat
 |[]=>0
 |x::r=>count x+Z0b r
end
mutual
def dep:It->Nat
 | .s _=>1
 | .l xs=>1+ZFz xs
def ZFz:List It->Nat
 |[]=>0
 |x::r=>max (dep x) (ZFz r)
end
theorem Z3e:∀(xs ys:List It),Z0b (xs++ys)=Z0b xs+Z0b ys
 |[],ys=>by simp only[Z0b,Jc,J5]
 |x::r,ys=>by simp only[Z0b,JR,Z3e r ys,Nat.add_assoc]
theorem Z4m(xs:List It)(j:Nat):Z0b (xs.take j)<=Z0b xs:=by
 have:=congrArg Z0b (JO j xs);rw[Z3e]at this;omega
theorem Z5z:∀{xs:List It} {x:It},x∈xs->dep x<=ZFz xs
 |y::r,x,h=>by
  simp only[ZFz];rcases List.mem_cons.1 h with rfl|h
  ·omega
  ·have:=Z5z h;omega
theorem ZDm(x:It):1<=count x:=by cases x<;>simp only[count]<;>omega
theorem ZBA(x:It):1<=dep x:=by cases x<;>simp only[dep]<;>omega
theorem Z5y:∀(xs:List It),xs.length<=Z0b xs
 |[]=>JT _
 |x::r=>by
  have h1:=Z5y r;have h2:=ZDm x;simp only[Z0b,J];omega
theorem ZAA(n b c:Nat):(Z2r n b).length=(Z2r n c).length:=by unfold Z2r;split<;>simp
end Go.Trie
namespace Go.Proofs.YtfghidehlnfdiaaGreat
open Go Go.Vcg Go.Trie
section
variable{A:Nat->Prop}
theorem Z59{w:J0}{D n depth:Nat}(W:Blk w D 217 #[.int JL (n:Int)])(hd:depth<=16)(hn:n<4096) :
  Jd J6 Zm.n #[.pointer (T ⟨D,0,L⟩),.int JL (depth:Int)] w (fun e w'=>e=J7 (.int JL 0)/\Vcg.Mod (·=D) w w'/\Blk w' D 217 #[.int JL ((n+1:Nat):Int)]):=by
 refine Zm.vc _ _ _ _ ?_;unfold Zm.Vc;refine⟨fun h=>by omega,fun _=>⟨_,W.rd1 rfl,fun h=>by omega,fun _=>⟨_,W.rd1 rfl,W.canSet (by simp) rfl,?_⟩⟩⟩;rintro _ rfl;have ew:I JL ((n:Int)+1)=((n+1:Nat):Int):=by rw[Z0 (by omega) (by omega)];omega
 rw[ew];exact⟨rfl,Mod.setCell w ⟨D,0,L⟩ _,W.set 0 _⟩
theorem ZK{w0 w w':J0}{D:Nat}(M:Vcg.Mod NoB w0 w)(h:Vcg.Mod (·=D) w w')(hD:w0.heap.size<=D):Vcg.Mod NoB w0 w' :=
 M.trans h (fun i hi e=>by subst e;omega)
theorem Z8l:∀(x:It) {w0 w:J0} {b:Bool} {o1:Option Addr} {l1 c1:Nat} {o2:Option Addr} {l2 c2:Nat} {D n depth:Nat},ItC A w0 x (J2 b) (.slice o1 l1 c1) (.slice o2 l2 c2)->Vcg.Mod NoB w0 w->w0.heap.size<=D->Blk w D 217 #[.int JL (n:Int)]->depth+dep x<=17->n+count x<=4096->(enc x).length<=2^20 ->
  Jd J6 Zz.n #[.pointer (T ⟨D,0,L⟩),QQ #[J2 b,.slice o1 l1 c1,.slice o2 l2 c2],.int JL (depth:Int)] w (fun e w'=>e=J7 (QF #[.int JL (((enc x).length:Nat):Int),.int JL 0])/\Vcg.Mod (·=D) w w'/\Blk w' D 217 #[.int JL ((n+count x:Nat):Int)])
 | .s bs,w0,w,b,o1,l1,c1,o2,l2,c2,D,n,depth,h,M,hD,W,hdp,hn,hlen=>by
   simp only[ItC,JZ,JV]at h;obtain⟨rfl,⟨o,c,⟨rfl,rfl,rfl⟩,hr,_⟩,rfl,rfl,rfl⟩:=h;simp only[dep,count]at hdp hn ⊢;refine ZG fun R hR=>Zz.vc _ _ _ _ _ _ _ _ _ _ _ ?_;unfold Zz.Vc;rintro d w1⟨rfl,rfl⟩;have X:=Blk.new w 111 #[J2 JA,.slice o1 bs.length c1,.slice L 0 0];have M1:=Mod.alloc (S:=(·=D)) w (J8 #[J2 JA,.slice o1 bs.length c1,.slice L 0 0] 111);have W1:=W.alloc (J8 #[J2 JA,.slice o1 bs.length c1,.slice L 0 0] 111);have hne:w.heap.size≠D:=by have:=W.lt;omega
   generalize w.alloc (J8 #[J2 JA,.slice o1 bs.length c1,.slice L 0 0] 111)=w1 at *
   generalize w.heap.size=N at *
   refine(Z59 W1 (by omega) (by omega)).mono ?_;rintro _ w2⟨rfl,M2,W2⟩;have X2:=X.mod M2 hne;have M02:=M1.trans M2 (fun _ _ h=>h);have hr2:=hr.mod' (ZK M M02 hD);refine⟨_,rfl,fun h=>(h rfl).elim,fun _=>?_⟩;simp only[Z6,J5];simp only[enc]at hlen hR;refine⟨fun w'=>w'=w2/\own bs=JA,⟨fun b w'=>b=JA/\w'=w2,⟨_,X2.rd1 rfl,fun h=>(by cases h),fun _=>⟨_,X2.rd1 rfl,fun _=>⟨_,_,_,X2.rd1 rfl,by simp,rfl⟩,fun h=>by cases h⟩⟩,?_⟩,?_⟩
   ·rintro _ _ _⟨rfl,rfl⟩
    refine⟨fun h=>(by cases h),fun _=>⟨_,_,_,X2.rd1 rfl,?_⟩⟩;refine(Z5X hr2).mono ?_;rintro _ w3⟨rfl,rfl⟩;refine⟨_,rfl,fun ho=>?_,fun ho=>⟨rfl,ho⟩⟩;rw[if_pos ho]at hR
    have hl1:bs.length=1:=by
     cases bs with
     |nil=>simp[own]at ho
     |cons a r=>cases r with
      |nil=>rfl
      |cons b r=>simp[own]at ho
    exact hR _ _ ⟨by rw[hl1];rfl,M02,W2⟩
   ·rintro _ w2⟨rfl,ho⟩
    rw[if_neg (by rw[ho];simp),G]at hR hlen;refine⟨_,_,_,X2.rd1 rfl,_,_,_,X2.rd1 rfl,?_⟩;refine⟨fun a i w'=>a=((bs.length:Nat):Int)/\i=0/\w'=w2,fun _ _ _=>0,⟨rfl,rfl,rfl⟩,?_⟩;rintro _ _ _ _⟨rfl,rfl,rfl⟩;refine⟨fun h=>absurd h (by simp),fun _=>?_⟩;refine(Z4V bs.length 0 (by omega) (by omega)).mono ?_;rintro _ w4⟨o4,k4,rfl,F4⟩;refine⟨_,_,_,rfl,hR _ _ ⟨?_,M02.trans (F4.mod.mono (fun _ _ h=>h.elim)) (fun _ _ h=>h),W2.mod' F4.mod⟩⟩;have hb:=ZAA bs.length 0 128
    have ew:I JL (((bs.length:Nat):Int)+(((Trie.Z2r bs.length 0).length:Nat):Int))=(((Trie.Z2r bs.length 128).length+bs.length:Nat):Int):=by
     rw[hb,Z0 (by omega) (by omega)];omega
    rw[ew]
 | .l xs,w0,w,b,o1,l1,c1,o2,l2,c2,D,n,depth,h,M,hD,W,hdp,hn,hlen=>by
   have ih:∀y∈xs,∀{w0 w:J0}{b:Bool}{o1:Option Addr}{l1 c1:Nat}{o2:Option Addr}{l2 c2:Nat}{D n depth:Nat},ItC A w0 y (J2 b) (.slice o1 l1 c1) (.slice o2 l2 c2)->Vcg.Mod NoB w0 w->w0.heap.size<=D->Blk w D 217 #[.int JL (n:Int)]->depth+dep y<=17->n+count y<=4096->(enc y).length<=2^20 ->
    Jd J6 Zz.n #[.pointer (T ⟨D,0,L⟩),QQ #[J2 b,.slice o1 l1 c1,.slice o2 l2 c2],.int JL (depth:Int)] w (fun e w'=>e=J7 (QF #[.int JL (((enc y).length:Nat):Int),.int JL 0])/\Vcg.Mod (·=D) w w'/\Blk w' D 217 #[.int JL ((n+count y:Nat):Int)]) :=
    fun y hy=>Z8l y
   simp only[ItC,JZ,JV]at h;obtain⟨rfl,⟨rfl,rfl,rfl⟩,o,c,⟨rfl,rfl,rfl⟩,hI,hcc⟩:=h;clear hcc;simp only[dep,count]at hdp hn ⊢;refine ZG fun R hR=>Zz.vc _ _ _ _ _ _ _ _ _ _ _ ?_;unfold Zz.Vc;rintro d w1⟨rfl,rfl⟩;have X:=Blk.new w 111 #[J2 Jj,.slice L 0 0,.slice o2 xs.length c2];have M1:=Mod.alloc (S:=(·=D)) w (J8 #[J2 Jj,.slice L 0 0,.slice o2 xs.length c2] 111);have W1:=W.alloc (J8 #[J2 Jj,.slice L 0 0,.slice o2 xs.length c2] 111);have hne:w.heap.size≠D:=by have:=W.lt;omega
   generalize w.alloc (J8 #[J2 Jj,.slice L 0 0,.slice o2 xs.length c2] 111)=w1 at *
   generalize w.heap.size=N at *
   refine(Z59 W1 (by omega) (by omega)).mono ?_;rintro _ w2⟨rfl,M2,W2⟩;have X2:=X.mod M2 hne;have M02:=M1.trans M2 (fun _ _ h=>h);refine⟨_,rfl,fun h=>(h rfl).elim,fun _=>?_⟩;simp only[Z6,J5];simp only[enc,G]at hlen hR;refine⟨fun w'=>w'=w2,⟨fun b w'=>b=JA/\w'=w2,⟨_,X2.rd1 rfl,fun _=>⟨_,_,_,X2.rd1 rfl,fun h=>absurd h (by simp),fun _=>⟨_,X2.rd1 rfl,fun h=>(by cases h),fun _=>⟨rfl,rfl⟩⟩⟩,fun h=>by cases h⟩,?_⟩,?_⟩
   ·rintro _ _ _⟨rfl,rfl⟩
    refine⟨fun h=>(by cases h),fun _=>⟨_,_,_,X2.rd1 rfl,?_⟩⟩;refine(Z5X (b:=[]) (RdB.nil _ _)).mono ?_;rintro _ w3⟨rfl,rfl⟩;exact⟨_,rfl,fun ho=>(by simp[own]at ho),fun _=>rfl⟩
   ·rintro _ w2 rfl
    refine⟨_,_,_,X2.rd1 rfl,_,_,_,X2.rd1 rfl,?_⟩
    refine⟨fun a i w'=>∃j:Nat,i=(j:Int)/\j<=xs.length/\a=(((Z1d (xs.take j)).length:Nat):Int)/\Vcg.Mod (·=D) w w'/\Blk w' D 217 #[.int JL ((n+1+Z0b (xs.take j):Nat):Int)],fun _ i _=>((xs.length:Int)-i).toNat,
     ⟨0,rfl,JT _,by rw[JW];simp only[Z1d];rfl,M02,by rw[JW];simp only[Z0b];exact W2⟩,?_⟩
    have hcl:=Z5y xs;rintro _ _ _ w4⟨j,rfl,hj,rfl,M4,W4⟩;have hle1:=Z1j xs j;refine⟨fun hlt=>?_,fun hge=>?_⟩
    ·have hjl:j<xs.length:=by omega
     have M04:=ZK M M4 hD;obtain⟨B,f,v1,v2,v3,rfl,hB,h1,h2,h3,hx⟩:=hI.get j hjl;obtain⟨b,p1,q1,r1,p2,q2,r2,rfl,rfl,rfl⟩:=hx.vals;have htk:xs.take (j+1)=xs.take j++[xs[j]]:=by rw[JD,U hjl];rfl
     have he:Z1d (xs.take (j+1))=Z1d (xs.take j)++enc xs[j]:=by rw[htk,encs_append];simp only[Z1d,JM]
     have hcn:Z0b (xs.take (j+1))=Z0b (xs.take j)+count xs[j]:=by rw[htk,Z3e];simp only[Z0b,Q8]
     have hle2:=Z1j xs (j+1);have hc2:=Z4m xs (j+1);have hdm:=Z5z (Jm hjl);rw[he,G]at hle2;rw[hcn]at hc2;rw[J5]at h1 h2 h3;have cl:∀i,w4.cell? ⟨B,i,L⟩=w0.cell? ⟨B,i,L⟩:=fun i=>ZU M04 hB (fun h=>h);have ew:I JL ((j:Int)+1)=((j+1:Nat):Int):=by rw[Z0 (by omega) (by omega)];omega
     have ew2:I JL ((depth:Int)+1)=((depth+1:Nat):Int):=by rw[Z0 (by omega) (by omega)];omega
     rw[ew,ew2];refine⟨_,rfl,by omega,_,_,_,_,_,_,_,by rw[Z6,O];exact(cl _).trans h1,by rw[Z6,Z6,O];exact(cl _).trans h2,by rw[Z6,Z6,O];exact(cl _).trans h3,?_⟩;rintro d w5⟨rfl,rfl⟩;have Y:=Blk.new w4 111 #[J2 JA,.slice L 0 0,.slice L 0 0];have Q:=Mod.alloc (S:=NoB) w4 (J8 #[J2 JA,.slice L 0 0,.slice L 0 0] 111);simp only[Z6,J5];refine⟨Y.canSet (by simp) rfl,?_⟩;rintro _ rfl;have Y1:=Y.set 0 (J2 b);have Q1:=Q.step_set (a:=⟨w4.heap.size,0,L⟩) (v:=J2 b) (fun h=>(JS _ h).elim);refine⟨Y1.canSet (by simp) rfl,?_⟩;rintro _ rfl;have Y2:=Y1.set 1 (.slice p1 q1 r1);have Q2:=Q1.step_set (a:=⟨w4.heap.size,1,L⟩) (v:=.slice p1 q1 r1) (fun h=>(JS _ h).elim);refine⟨Y2.canSet (by simp) rfl,?_⟩;rintro _ rfl;have Y3:=Y2.set 2 (.slice p2 q2 r2);have Q3:=Q2.step_set (a:=⟨w4.heap.size,2,L⟩) (v:=.slice p2 q2 r2) (fun h=>(JS _ h).elim);refine⟨_,_,_,_,_,_,_,Y3.rd1 rfl,Y3.rd1 rfl,Y3.rd1 rfl,?_⟩;refine(ih _ (Jm hjl) hx (M04.trans Q3 (fun _ _ h=>h)) hD (W4.mod' Q3) (depth:=depth+1) (by omega) (by omega) (by omega)).mono ?_;rintro _ w6⟨rfl,M6,W6⟩;refine⟨_,_,rfl,fun h=>(h rfl).elim,fun _=>⟨⟨j+1,rfl,hjl,?_,(M4.trans (Q3.mono (fun _ _ h=>h.elim)) (fun _ _ h=>h)).trans M6 (fun _ _ h=>h),?_⟩,by omega⟩⟩
     ·rw[he,G,Z0 (by omega) (by omega)];omega
     ·rw[hcn,show n+1+(Z0b (xs.take j)+count xs[j])=n+1+Z0b (xs.take j)+count xs[j] by omega];exact W6
    ·obtain rfl:j=xs.length:=by omega
     rw[JH]at W4 ⊢;refine(Z4V (Z1d xs).length 0 (by omega) (by omega)).mono ?_;rintro _ w5⟨o5,k5,rfl,F5⟩;have hb:=ZAA (Z1d xs).length 0 192;refine⟨_,_,_,rfl,hR _ _ ⟨?_,M4.trans (F5.mod.mono (fun _ _ h=>h.elim)) (fun _ _ h=>h),?_⟩⟩
     ·have ew:I JL ((((Z1d xs).length:Nat):Int)+(((Trie.Z2r (Z1d xs).length 0).length:Nat):Int))=(((Trie.Z2r (Z1d xs).length 192).length+(Z1d xs).length:Nat):Int):=by
        rw[hb,Z0 (by omega) (by omega)];omega
      rw[ew]
     ·rw[show n+(1+Z0b xs)=n+1+Z0b xs by omega]
      exact W4.mod' F5.mod
 termination_by x=>SizeOf.sizeOf x
 decreasing_by
  have:=Jt hy;simp;omega
theorem Z9X{x:It}{w:J0}{v1 v2 v3:Value}(h:ItC A w x v1 v2 v3)(hd:dep x<=16)(hn:count x<=4096)(hl:(enc x).length<=65536) :
  Jd J6 Z2f.n #[QQ #[v1,v2,v3]] w (fun e w'=>∃o k,e=J7 (QF #[.slice o (enc x).length k,.int JL 0])/\ZT w w' tU8 1 o (enc x).length k ((enc x).map bV)):=by
 obtain⟨b,o1,l1,c1,o2,l2,c2,rfl,rfl,rfl⟩:=h.vals;refine Z2f.vc _ _ _ _ _ _ _ _ _ ?_;unfold Z2f.Vc;rintro d w1⟨rfl,rfl⟩ d5 w2⟨rfl,rfl⟩;have M1:=Mod.alloc (S:=NoB) w (J8 #[J2 b,.slice o1 l1 c1,.slice o2 l2 c2] 111);have M2:=M1.step_alloc (J8 #[.int JL 0] 217);have X:=(Blk.new w 111 #[J2 b,.slice o1 l1 c1,.slice o2 l2 c2]).alloc (J8 #[.int JL 0] 217);have W:=Blk.new (w.alloc (J8 #[J2 b,.slice o1 l1 c1,.slice o2 l2 c2] 111)) 217 #[.int JL 0];have hsz:(w.alloc (J8 #[J2 b,.slice o1 l1 c1,.slice o2 l2 c2] 111)).heap.size=w.heap.size+1:=ZC _ _;generalize(w.alloc (J8 #[J2 b,.slice o1 l1 c1,.slice o2 l2 c2] 111)).heap.size=D at *
 generalize(w.alloc (J8 #[J2 b,.slice o1 l1 c1,.slice o2 l2 c2] 111)).alloc (J8 #[.int JL 0] 217)=w2 at *
 simp only[Z6,J5];refine⟨_,_,_,_,_,_,_,X.rd1 rfl,X.rd1 rfl,X.rd1 rfl,?_⟩;refine(Z8l x h M2 (by omega) W (n:=0) (depth:=1) (by omega) (by omega) (by omega)).mono ?_;rintro _ w3⟨rfl,M3,_⟩;have X3:=X.mod M3 (by omega);have M03:=ZK M2 M3 (by omega);refine⟨_,_,rfl,fun h=>(h rfl).elim,fun _=>⟨fun h=>by omega,fun _=>⟨_,_,_,_,_,_,_,X3.rd1 rfl,X3.rd1 rfl,X3.rd1 rfl,?_⟩⟩⟩;refine(ZAT x (ItC.mod M03 x h) (by omega)).mono ?_;rintro _ w4⟨o4,k4,rfl,F4⟩;exact⟨_,_,_,rfl,o4,k4,rfl,ZT.from_ F4 M03⟩
end
end Go.Proofs.YtfghidehlnfdiaaGreat
end
section
namespace Go.Trie
open Go.Vcg
def Z31(x:It):It:=if 32<=(enc x).length then .s (sumOf (enc x))else x
def Z2U(p:By)(leaf:Bool):By:=(Z7x p leaf).1
def Z1y:Nd->It
 | .nil=>.s []
 | .leaf p v=>.l [.s (Z2U p Jj),.s v]
 | .row p c=>.l [.s (Z2U p JA),Z31 (Z1y c)]
 | .branch cs v=>.l (((Jk 16).map fun i=>Z31 (Z1y (cs i)))++[.s v])
def Z5B(n:Nd):It:=Z31 (Z1y n)
def bytesOf(n:Nd):By:=enc (Z1y n)
theorem ZCC(n b:Nat):1<=(Z2r n b).length:=by unfold Z2r;split<;>simp
theorem Z95(n b:Nat):(Z2r n b).length<=9:=by
 have:=Z46 n;unfold Z2r;split<;>simp<;>omega
theorem ZDs(x:It):1<=(enc x).length:=by
 cases x with
 |s b =>
  simp only[enc];split
  ·rename_i ho
   cases b with
   |nil=>simp[own]at ho
   |cons a r=>simp
  ·rw[G];have:=ZCC b.length 128;omega
 |l xs=>simp only[enc,G];have:=ZCC (Z1d xs).length 192;omega
theorem Z90:∀(xs:List It),xs.length<=(Z1d xs).length
 |[]=>by simp
 |x::r=>by
  have h1:=ZDs x;have h2:=Z90 r;simp only[Z1d,G,J];omega
theorem ZDr:∀{xs:List It} {x:It},x∈xs->(enc x).length+xs.length<=(Z1d xs).length+1
 |y::r,x,h=>by
  simp only[Z1d,G,J];rcases List.mem_cons.1 h with rfl|h
  ·have:=Z90 r;omega
  ·have h1:=ZDr h
   have h2:=ZDs y;omega
theorem Z2H(b:By):(enc (.s b)).length<=9+b.length:=by
 simp only[enc];split
 ·omega
 ·rw[G];have:=Z95 b.length 128;omega
def Z5u:Nd->Prop
 | .nil=>True
 | .leaf p v=>p.length<=128/\v.length<=1024
 | .row p c=>p.length<=128/\Z5u c
 | .branch cs v=>v.length<=1024/\∀i,Z5u (cs i)
theorem Z5Y(p:By)(leaf:Bool)(h:p.length<=128):(Z2U p leaf).length<=65:=by
 unfold Z2U Z7x;split
 ·simp
 ·obtain⟨n,hn⟩:=Z56 p leaf
  rw[Z5Z n _ hn];have:(headed p leaf).length<=2+p.length:=by unfold headed;split<;>simp<;>omega
  omega
theorem ZCX(n:Nd):(enc (Z5B n)).length<=41:=by
 unfold Z5B Z31;split
 ·have:=Z2H (sumOf (enc (Z1y n)))
  rw[Zs]at this;omega
 ·omega
theorem Z51(cs:Fin 16->Nd):∀(l:List (Fin 16)),(Z1d (l.map fun i=>Z31 (Z1y (cs i)))).length<=41*l.length
 |[]=>by simp[Z1d]
 |i::r=>by
  have h1:=ZCX (cs i);have h2:=Z51 cs r;unfold Z5B at h1;simp only[Q4,Z1d,G,J];omega
theorem Z8u{n:Nd}(h:Z5u n):(bytesOf n).length<=2000:=by
 cases n with
 |nil=>simp only[bytesOf,Z1y];have:=Z2H [];simp at this;omega
 |leaf p v =>
  have h1:=Z5Y p Jj h.1;have h2:=Z2H (Z2U p Jj);have h3:=Z2H v;have h4:=h.2;simp only[bytesOf,Z1y];rw[enc];simp only[Z1d,G,JN];have:=Z95 (enc (It.s (Z2U p Jj))++(enc (It.s v)++[])).length 192;simp only[G,JN]at this;omega
 |row p c =>
  have h1:=Z5Y p JA h.1;have h2:=Z2H (Z2U p JA);have h3:=ZCX c;unfold Z5B at h3;simp only[bytesOf,Z1y];rw[enc];simp only[Z1d,G,JN];have:=Z95 (enc (It.s (Z2U p JA))++(enc (Z31 (Z1y c))++[])).length 192;simp only[G,JN]at this;omega
 |branch cs v =>
  have h1:=Z51 cs (Jk 16);rw[List.length_finRange]at h1;have h2:=Z2H v;have h3:=h.1;simp only[bytesOf,Z1y];rw[enc,Go.Proofs.YtfghidehlnfdiaaGreat.encs_append];simp only[Z1d,G,JN];have:=Z95 (Z1d ((Jk 16).map fun i=>Z31 (Z1y (cs i)))++(enc (It.s v)++[])).length 192;simp only[G,JN]at this;omega
end Go.Trie
end
section
namespace Go.Trie
def be(b:By):Nat:=b.foldl (fun n d=>n*256+d.toNat) 0
theorem ZGM(b:By)(d:UInt8):be (b++[d])=be b*256+d.toNat:=by simp[be]
theorem ZFv:∀(b:By) (n:Nat),b.foldl (fun n d=>n*256+d.toNat) n<(n+1)*256^b.length
 |[],n=>by simp
 |d::r,n=>by
  have h1:=ZFv r (n*256+d.toNat);have h2:=d.toNat_lt;have h3:(n*256+d.toNat+1)*256^r.length<=((n+1)*256)*256^r.length:=Jy _ (by omega);rw[QC,J,Q9,QI (256^r.length) 256,<-Nat.mul_assoc];omega
theorem ZH7(b:By):be b<256^b.length:=by
 have:=ZFv b 0;simpa[be]using this
def hd(b:By):Except Int (Bool×Nat×Nat×Bool) :=
 let c:=(b.getD 0 0).toNat
 if c<128 then .ok (JA,0,1,Jj)
 else
  let base:=if c>=192 then 192 else 128
  if c-base<=55 then .ok (decide (c>=192),1,c-base,JA)
  else
   let k:=c-base-55
   if b.length<1+k then J4 41
   else
    let m:=be ((b.drop 1).take k)
    if b.getD 1 0=0\/m<=55\/m>2147483648 then J4 40
    else .ok (decide (c>=192),1+k,m,JA)
mutual
def dcd:Nat->Nat->Nat->By->Except Int (It×Nat×Nat)
 |0,_,_,_=>J4 0
 |f+1,d,n,b =>
  if b=[]then J4 41
  else if d>16\/n=4096 then J4 43
  else match hd b with
  | J4 e=>J4 e
  | .ok (lst,a,k,ow) =>
    if k>b.length-a then J4 41
    else if lst=JA then
     (if ow=JA/\own ((b.drop a).take k)=Jj then J4 40 else .ok (.s ((b.drop a).take k),a+k,n+1))
    else match Z7v f (d+1) (n+1) ((b.drop a).take k)with
    | J4 e=>J4 e
    | .ok (xs,m)=>.ok (.l xs,a+k,m)
def Z7v:Nat->Nat->Nat->By->Except Int (List It×Nat)
 |0,_,_,_=>J4 0
 |f+1,d,n,b =>
  if b=[]then .ok ([],n)
  else match dcd f d n b with
  | J4 e=>J4 e
  | .ok (x,k,m)=>match Z7v f d m (b.drop k)with
    | J4 e=>J4 e
    | .ok (xs,m')=>.ok (x::xs,m')
end
def Z4U(b:By):Except Int It :=
 if b.length>65536 then J4 44
 else match dcd (2*b.length+1) 1 0 b with
 | J4 e=>J4 e
 | .ok (x,k,_)=>if k<b.length then J4 42 else .ok x
theorem ZGS{b:By}{l o:Bool}{a k:Nat}(h:hd b=.ok (l,a,k,o))(hb:b≠[]) :
  (o=Jj->l=JA/\a=0/\k=1/\(b.getD 0 0).toNat<128)/\(o=JA->1<=a/\a<=b.length/\∀base,(Z2r k base).length<=a):=by
 unfold hd at h;simp only at h;split at h
 ·rename_i hc
  cases h;exact⟨fun _=>⟨rfl,rfl,rfl,hc⟩,fun h=>by cases h⟩
 ·have hbl:1<=b.length:=List.length_pos_iff.2 hb
  generalize(if(b.getD 0 0).toNat>=192 then 192 else 128)=base at *
  split at h
  ·rename_i hle
   cases h;exact⟨fun h=>(by cases h),fun _=>⟨JI _,hbl,fun b=>by unfold Z2r;rw[if_pos hle];simp⟩⟩
  ·split at h
   ·cases h
   ·rename_i hlen
    split at h
    ·cases h
    ·cases h
     refine⟨fun h=>(by cases h),fun _=>⟨by omega,by omega,fun b'=>?_⟩⟩;have hm:=ZH7 ((b.drop 1).take ((b.getD 0 0).toNat-base-55));rw[JG,JB,Nat.min_eq_left (by omega)]at hm;generalize be ((b.drop 1).take ((b.getD 0 0).toNat-base-55))=m at *
     have hd:∀f q k,m<256^k->q=m->(digitsF f q).length<=k:=by
      clear hm
      have:∀f q k,q<256^k->(digitsF f q).length<=k:=by
       intro f
       induction f with
       |zero=>intro q k _;simp[digitsF]
       |succ f ih =>
        intro q k hq;simp only[digitsF];split
        ·simp
        ·rename_i hq0
         cases k with
         |zero=>simp at hq;omega
         |succ k =>
          rw[Q9]at hq;have:=ih (q/256) k (by omega);simp only[G,JX];omega
      intro f q k h1 h2;exact this f q k (h2 ▸ h1)
     have:=hd 8 m _ hm rfl;unfold Z2r;split
     ·simp only[JX];omega
     ·simp only[J,Z2L];omega
theorem Z7C:∀(f d n:Nat) (b:By),(∀x k m,dcd f d n b=.ok (x,k,m)->1<=k/\k<=b.length/\(enc x).length<=k/\dep x+d<=17/\m=n+count x/\(n<=4096->m<=4096)) /\
  (∀xs m,Z7v f d n b=.ok (xs,m)->(Z1d xs).length<=b.length/\(xs=[]\/ZFz xs+d<=17)/\m=n+Z0b xs/\(n<=4096->m<=4096))
 |0,_,_,_=>⟨fun x k m h=>by simp[dcd]at h,fun xs m h=>by simp[Z7v]at h⟩
 |f+1,d,n,b=>by
  refine⟨fun x k m h=>?_,fun xs m h=>?_⟩
  ·simp only[dcd]at h
   split at h
   ·cases h
   ·rename_i hb
    split at h
    ·cases h
    ·rename_i hdn
     split at h
     ·cases h
     ·rename_i lst a k' ow hh
      obtain⟨ho1,ho2⟩:=ZGS hh hb;have hbl:1<=b.length:=List.length_pos_iff.2 hb;split at h
      ·cases h
      ·rename_i hk
       have hil:((b.drop a).take k').length=k':=by rw[JG,JB];omega
       split at h
       ·rename_i hl
        split at h
        ·cases h
        ·rename_i how
         cases h;cases ow with
         |true =>
          obtain⟨_,rfl,rfl,hc⟩:=ho1 rfl;refine⟨by omega,by omega,?_,by simp only[dep];omega,by simp only[count],by omega⟩
          obtain⟨c,r,rfl⟩:∃c r,b=c::r:=by cases b with
           |nil=>exact(hb rfl).elim
           |cons c r=>exact⟨c,r,rfl⟩
          simp only[List.drop_zero,Q0,JW,enc]
          have:own [c]=Jj:=by
           simp only[own,decide_eq_true_eq];rw[UInt8.lt_iff_toNat_lt];simpa using hc
          rw[if_pos this];simp
         |false =>
          obtain⟨h1,h2,h3⟩:=ho2 rfl
          have hno:own ((b.drop a).take k')=JA:=by
           cases hh:own ((b.drop a).take k')with
           |false=>rfl
           |true=>exact(how ⟨rfl,hh⟩).elim
          refine⟨by omega,by omega,?_,by simp only[dep];omega,by simp only[count],by omega⟩;simp only[enc];rw[hno,if_neg (by simp),G,hil];have:=h3 128;omega
       ·rename_i hl
        have hlt:lst=Jj:=by cases lst<;>simp_all
        have hof:ow=JA:=by
         cases ow with
         |true=>have:=(ho1 rfl).1;rw[hlt]at this;cases this
         |false=>rfl
        obtain⟨h1,h2,h3⟩:=ho2 hof;split at h
        ·cases h
        ·rename_i xs m' hr
         cases h;obtain⟨i1,i2,i3,i4⟩:=(Z7C f (d+1) (n+1) ((b.drop a).take k')).2 _ _ hr;rw[hil]at i1;refine⟨by omega,by omega,?_,?_,by simp only[count];omega,by omega⟩
         ·simp only[enc,G]
          have hmono:(Z2r (Z1d xs).length 192).length<=(Z2r k' 192).length:=by
           have hdl:∀f p q,p<=q->(digitsF f p).length<=(digitsF f q).length:=by
            intro f
            induction f with
            |zero=>intro p q _;simp[digitsF]
            |succ f ih =>
             intro p q hpq;simp only[digitsF];split
             ·simp
             ·rw[if_neg (by omega)]
              have:=ih (p/256) (q/256) (Nat.div_le_div_right hpq);simp only[G,JX];omega
           unfold Z2r;split
           ·split<;>simp
           ·rw[if_neg (by omega)]
            simp only[J,Z2L];have:=hdl 8 _ _ i1;omega
          have:=h3 192;omega
         ·simp only[dep]
          rcases i2 with rfl|i2
          ·simp only[ZFz];omega
          ·omega
  ·simp only[Z7v]at h
   split at h
   ·cases h
    exact⟨by simp[Z1d],.inl rfl,by simp[Z0b],by omega⟩
   ·rename_i hb
    split at h
    ·cases h
    ·rename_i x k m1 hx
     split at h
     ·cases h
     ·rename_i ys m2 hy
      cases h;obtain⟨a1,a2,a3,a4,a5,a6⟩:=(Z7C f d n b).1 _ _ _ hx;obtain⟨b1,b2,b3,b4⟩:=(Z7C f d m1 (b.drop k)).2 _ _ hy;rw[JB]at b1;refine⟨?_,.inr ?_,?_,by omega⟩
      ·simp only[Z1d,G];omega
      ·simp only[ZFz]
       rcases b2 with rfl|b2
       ·simp only[ZFz];omega
       ·omega
      ·simp only[Z0b];omega
theorem ZGO{b:By}{x:It}(h:Z4U b=.ok x):b.length<=65536/\(enc x).length<=b.length/\dep x<=16/\count x<=4096:=by
 unfold Z4U at h;split at h
 ·cases h
 ·split at h
  ·cases h
  ·rename_i y k m hd
   split at h
   ·cases h
   ·cases h
    obtain⟨a1,a2,a3,a4,a5,a6⟩:=(Z7C _ _ _ _).1 _ _ _ hd;refine⟨by omega,by omega,by omega,by omega⟩
theorem ZB8(f d n:Nat):dcd (f+1) d n []=J4 41:=by simp[dcd]
theorem Z6n{f d n:Nat}{b:By}(hb:b≠[])(h:d>16\/n=4096):dcd (f+1) d n b=J4 43:=by simp only[dcd];rw[if_neg hb,if_pos h]
theorem ZDn{f d n:Nat}{b:By}(hb:b≠[])(h:¬(d>16\/n=4096)):dcd (f+1) d n b=(match hd b with
  | J4 e=>J4 e
  | .ok (lst,a,k,ow) =>
    if k>b.length-a then J4 41
    else if lst=JA then
     (if ow=JA/\own ((b.drop a).take k)=Jj then J4 40 else .ok (.s ((b.drop a).take k),a+k,n+1))
    else match Z7v f (d+1) (n+1) ((b.drop a).take k)with
    | J4 e=>J4 e
    | .ok (xs,m)=>.ok (.l xs,a+k,m)):=by
 simp only[dcd];rw[if_neg hb,if_neg h]
theorem Z8y(f d n:Nat):Z7v (f+1) d n []=.ok ([],n):=by simp[Z7v]
theorem ZB9{f d n:Nat}{b:By}(hb:b≠[]):Z7v (f+1) d n b=(match dcd f d n b with
  | J4 e=>J4 e
  | .ok (x,k,m)=>match Z7v f d m (b.drop k)with
    | J4 e=>J4 e
    | .ok (xs,m')=>.ok (x::xs,m')):=by
 simp only[Z7v];rw[if_neg hb]
theorem ZCB{b:By}{l o:Bool}{a k:Nat}(h:hd b=.ok (l,a,k,o)):k<=2147483648:=by
 have h255:=(b.getD 0 0).toNat_lt;unfold hd at h;simp only at h;split at h
 ·cases h;decide
 ·generalize(if(b.getD 0 0).toNat>=192 then 192 else 128)=base at *
  split at h
  ·cases h;omega
  ·split at h
   ·cases h
   ·split at h
    ·cases h
    ·rename_i h';cases h;omega
end Go.Trie
end
section
namespace Go.Proofs.YtfghidehlnfdiaaGreat
open Go Go.Vcg Go.Trie
section
variable{C:Type}{S:C->Prop}{w w':J0}{lab lab':Nat->C}{c:C}
def brA(vs:Fin 16->Value)(o:Option Addr)(l k:Nat):Array Value:=(List.ofFn vs++[Value.slice o l k]).toArray
theorem Z6l(vs:Fin 16->Value)(o:Option Addr)(l k:Nat):(brA vs o l k).size=17:=by simp[brA]
theorem ZFw(vs:Fin 16->Value)(o:Option Addr)(l k:Nat)(i:Fin 16):(brA vs o l k)[i.val]?=T (vs i):=by
 unfold brA;rw[Ju,List.getElem?_append_left (by rw[List.length_ofFn];exact i.isLt),List.getElem?_ofFn,dif_pos i.isLt]
theorem ZB0(vs:Fin 16->Value)(o:Option Addr)(l k:Nat):(brA vs o l k)[16]?=T (.slice o l k):=by
 unfold brA;rw[Ju,Jf (by simp)];simp
end
section
variable{C:Type}{S:C->Prop}{w w':J0}{lab lab':Nat->C}{c:C}
def ZGw(vs:Fin 16->Value)(a:Nat)(v:Value):Fin 16->Value:=fun i=>if i.val=a then v else vs i
theorem ZGN(vs:Fin 16->Value)(o:Option Addr)(l k a:Nat)(ha:a<16)(v:Value):(brA vs o l k).setIfInBounds a v=brA (ZGw vs a v) o l k:=by
 apply Array.ext_getElem?;intro i;rw[Array.getElem?_setIfInBounds,Z6l];by_cases hi:i<16
 ·rw[ZFw (ZGw vs a v) o l k ⟨i,hi⟩,ZFw vs o l k ⟨i,hi⟩]
  unfold ZGw;by_cases hai:a=i
  ·subst hai;rw[if_pos rfl,if_pos (by omega),if_pos rfl]
  ·rw[if_neg hai,if_neg (fun e=>hai e.symm)]
 ·by_cases h16:i=16
  ·subst h16
   rw[if_neg (by omega),ZB0,ZB0]
  ·rw[if_neg (by omega),Array.getElem?_eq_none (by rw[Z6l];omega),Array.getElem?_eq_none (by rw[Z6l];omega)]
end
section
variable{C:Type}{S:C->Prop}{w w1 w':J0}{lab lab':Nat->C}{c:C}
theorem Z2q{o:Option Addr}{l k:Nat}{bs:List UInt8}(F:ZT w w1 tU8 1 o l k (bs.map bV))(M:Vcg.Mod NoB w1 w'):CBy w' (ext lab w.heap.size c) c o bs :=
 ⟨F.own.bytes.mod' M,fun hne d hd=>ext_new (F.new d.block ⟨d,hd,rfl⟩)⟩
abbrev NoS{C:Type}:C->Prop:=fun _=>False
end
end Go.Proofs.YtfghidehlnfdiaaGreat
end
