/- Tries as plain Lean: items, nodes, paths. -/
/- Tries as plain Lean: there is but one canonical trie of a map. -/
/- Tries as plain Lean: what putting does. -/
/- Tries as plain Lean: what taking away does. -/
/- Rows that a call makes anew: copied, appended to, and handed on; rows of cells that are only read. -/
/- Bytes as strings; slices that are made. -/
/- Contracts: bytes that are made anew; nibbles; packed paths. -/
/- Contracts: packed paths; what two paths share. -/
/- Contracts: bytes held against one another; heads of items. -/
/- Contracts: items in memory, and as bytes. -/
/- Contracts: an item's size; its encoding. -/
/- Tries as plain Lean: a node's item, its bytes, its reference; how big they get. -/
/- Tries as plain Lean: bounds. -/
/- Decoding: plain Lean. -/
/- Nodes in memory. -/
/- Contracts: a node that is in sight; a leaf laid into a new branch. -/
/- Contracts: a node behind nibbles. -/
/- Contracts: items of nodes. -/
/- Rows of items that grow; a branch's item. -/
/- Nodes in memory under other labels; contracts: Get. -/
/- Contracts: put. -/
import Derived.Test.YtfghidehlnfdiaaGreatXMap
import Derived.Test.YtfghidehlnfdiaaGreatXPure4
import Derived.Laws.BytesString
import Derived.Laws.MakeOwn
import Derived.Test.YtfghidehlnfdiaaGreatTV
set_option linter.unusedVariables false
set_option linter.unusedSimpArgs false
open Bool renaming eq_iff_iff->Jv,false->J7,true->Jc
open Except renaming error->J3
open Go renaming Calls->JX,TypeId->Jg,Value->JA,World->U,maxLen->Jh,run_firstCells_some->Jn
open Go.Builtin renaming append->Jx,firstCells->Ja
open Go.Ending renaming returned->J4
open Go.IntKind renaming i64->JH,u8->QA,wrap->V
open Go.Obj renaming cells->J6
open Go.Proofs.Tryz renaming prog->J5
open Go.Result renaming andThen_ok->Jb
open Go.Value renaming agg->QB,bool->J1,tuple->Jz
open Go.Value.bool renaming injEq->JU
open Go.Value.slice renaming injEq->JR
open Int renaming fdiv->Q6,tmod->QC,toNat_natCast->Z
open List renaming append_assoc->J2,append_cancel_left->JD,append_cancel_left_eq->J9,append_nil->JI,cons_append->JM,drop_left->Jm,finRange->Jd,foldl_cons->Jt,getD_eq_getElem?_getD->JL,getElem?_append_right->JY,getElem?_eq_getElem->K,getElem?_take->Jp,getElem?_toArray->Jl,getElem_cons_zero->JQ,getElem_drop->Jq,getElem_mem->Je,length->Js,length_append->G,length_cons->J,length_drop->J8,length_map->Ju,length_nil->JJ,length_singleton->JT,length_take->JE,map_cons->Jw,nil_append->JW,prefix_append->J0,sizeOf_lt_of_mem->Jk,take_add_one->JC,take_append_drop->JK,take_length->JF,take_of_length_le->Ji,take_succ_cons->Jo,take_zero->JS
open List.cons renaming inj->JV,injEq->Jj
open Nat renaming add_comm->Q4,add_mul->Q5,add_zero->Jf,le_refl->JG,le_trans->Jy,lt_irrefl->JN,lt_of_lt_of_le->JZ,mul_comm->Q0,pow_succ->Jr,zero_add->T,zero_le->JP
open Option renaming none->O,some->E
open UInt8 renaming ofFin->JB,ofNat->I,toNat_ofNat'->JO
section
namespace Go.Trie
abbrev By:=List UInt8
inductive It where
 |s (b:By)
 |l (xs:List It)
inductive Nd where
 |nil
 |leaf (p v:By)
 |row (p:By) (c:Nd)
 |branch (cs:Fin 16->Nd) (v:By)
def nibbles(k:By):By:=k.flatMap fun(c:UInt8)=>[c>>>4,c&&&15]
def Z3L:By->By
 |a::b::r=>(a<<<4|||b)::Z3L r
 |_=>[]
def Z1E(leaf:Bool):UInt8:=if leaf then 2 else 0
def headed(p:By)(leaf:Bool):By:=if p.length%2=1 then(Z1E leaf+1)::p else Z1E leaf::0::p
def Z2c(p:By):Prop:=p.length>128\/∃x∈p,x>=16
instance (p:By):Decidable (Z2c p):=by unfold Z2c;infer_instance
def Z7K(p:By)(leaf:Bool):By×Int:=if Z2c p then([],140)else(Z3L (headed p leaf),0)
def ZA:By->By->Nat
 |a::p,b::q=>if a=b then ZA p q+1 else 0
 |_,_=>0
theorem Z3w:∀(p q:By),ZA p q<=p.length/\ZA p q<=q.length
 |[],q=>by simp[ZA]
 |a::p,[]=>by simp[ZA]
 |a::p,b::q=>by
  have:=Z3w p q;simp only[ZA];split<;>simp<;>omega
theorem Z3S:∀(p q:By),p.take (ZA p q)=q.take (ZA p q)
 |[],q=>by simp[ZA]
 |a::p,[]=>by simp[ZA]
 |a::p,b::q=>by
  simp only[ZA];split
  ·rename_i h
   subst h;simp[Z3S p q]
  ·simp
theorem Z9s:∀(p q:By) (h1:ZA p q<p.length) (h2:ZA p q<q.length),p[ZA p q]≠q[ZA p q]
 |a::p,b::q,h1,h2=>by
  by_cases hab:a=b
  ·subst hab
   have e:ZA (a::p) (a::q)=ZA p q+1:=by simp[ZA]
   simp only[e,List.getElem_cons_succ];exact Z9s p q (by simp only[e,J]at h1;omega) (by simp only[e,J]at h2;omega)
  ·have e:ZA (a::p) (b::q)=0:=by simp[ZA,hab]
   simp only[e,JQ];exact hab
 |[],q,h1,_=>by simp at h1
 |a::p,[],_,h2=>by simp at h2
def Z3X(p:By)(n:Nd):Nd :=
 if p=[]then n else match n with
  | .leaf q v=>.leaf (p++q) v
  | .row q c=>.row (p++q) c
  |n=>.row p n
def upd(cs:Fin 16->Nd)(a:UInt8)(n:Nd):Fin 16->Nd:=fun i=>if i.val=a.toNat then n else cs i
def at_(cs:Fin 16->Nd)(a:UInt8):Nd:=if h:a.toNat<16 then cs ⟨a.toNat,h⟩else .nil
def lay(cs:Fin 16->Nd)(v:By)(p x:By):Nd:=match p with
 |[]=>.branch cs x
 |a::r=>.branch (upd cs a (.leaf r x)) v
def ZEd(n:Nd)(p x:By):Nd:=match n with
 | .branch cs v=>lay cs v p x
 |n=>n
def Z00:Fin 16->Nd:=fun _=>.nil
def put(n:Nd)(p x:By):Nd:=match n with
 | .nil=>.leaf p x
 | .leaf q v =>
   if ZA q p=q.length/\ZA q p=p.length then .leaf p x
   else Z3X (p.take (ZA q p)) (ZEd (lay Z00 [] (q.drop (ZA q p)) v) (p.drop (ZA q p)) x)
 | .row q c =>
   if ZA q p=q.length then .row q (put c (p.drop (ZA q p)) x)
   else Z3X (p.take (ZA q p)) (lay (upd Z00 (q.getD (ZA q p) 0) (Z3X (q.drop (ZA q p+1)) c)) [] (p.drop (ZA q p)) x)
 | .branch cs v=>match p with
   |[]=>.branch cs x
   |a::r=>.branch (fun i=>if i.val=a.toNat then put (cs i) r x else cs i) v
def get(n:Nd)(p:By):Option By:=match n with
 | .nil=>O
 | .leaf q v=>if q=p then E v else O
 | .row q c=>if q.isPrefixOf p then get c (p.drop q.length)else O
 | .branch cs v=>match p with
   |[]=>if v=[]then O else E v
   |a::r=>if h:a.toNat<16 then get (cs ⟨a.toNat,h⟩) r else O
def Nib(p:By):Prop:=∀x∈p,x.toNat<16
def Z2g:Nd->Prop
 | .branch _ _=>True
 |_=>False
def Many(cs:Fin 16->Nd)(v:By):Prop:=(v≠[]/\∃i,cs i≠.nil)\/∃i j,i≠j/\cs i≠.nil/\cs j≠.nil
def Z1N:Nd->Prop
 | .nil=>True
 | .leaf p v=>Nib p/\v≠[]
 | .row p c=>p≠[]/\Nib p/\Z2g c/\Z1N c
 | .branch cs v=>(∀i,Z1N (cs i))/\Many cs v
theorem Z0t(p r:By)(c:Nd):get (.row p c) (p++r)=get c r:=by
 simp only[get];rw[if_pos (List.isPrefixOf_iff_prefix.2 (J0 _ _)),Jm]
theorem Z9T{p k:By}{c:Nd}{v:By}(h:get (.row p c) k=E v):∃r,k=p++r/\get c r=E v:=by
 simp only[get]at h;split at h
 ·rename_i hp
  obtain⟨r,rfl⟩:=List.isPrefixOf_iff_prefix.1 hp;rw[Jm]at h;exact⟨r,rfl,h⟩
 ·cases h
theorem ZO(cs:Fin 16->Nd)(v:By):get (.branch cs v) []=if v=[]then O else E v:=by simp only[get]
theorem Z0j(cs:Fin 16->Nd)(v:By)(i:Fin 16)(r:By):get (.branch cs v) (I i.val::r)=get (cs i) r:=by
 have hi:(I i.val).toNat=i.val:=by
  rw[JO];have:=i.isLt;omega
 simp only[get];rw[dif_pos (by rw[hi];exact i.isLt)];congr 2;exact Fin.ext hi
theorem Z9h{i j:Fin 16}(h:I i.val=I j.val):i=j:=by
 have h1:=congrArg UInt8.toNat h;rw[JO,JO]at h1;have:=i.isLt;have:=j.isLt;exact Fin.ext (by omega)
theorem Z4U:∀{n:Nd},Z1N n->n≠.nil->∃k v,get n k=E v
 | .nil,_,h=>(h rfl).elim
 | .leaf p v,_,_=>⟨p,v,by simp[get]⟩
 | .row p c,h,_=>by
   obtain⟨k,v,hk⟩:=Z4U (n:=c) h.2.2.2 (by intro e;rw[e]at h;exact h.2.2.1);exact⟨p++k,v,by rw[Z0t];exact hk⟩
 | .branch cs v,h,_=>by
   rcases h.2 with⟨hv,_⟩|⟨i,j,_,hi,_⟩
   ·exact⟨[],v,by rw[ZO,if_neg hv]⟩
   ·obtain⟨k,w,hk⟩:=Z4U (n:=cs i) (h.1 i) hi
    exact⟨I i.val::k,w,by rw[Z0j];exact hk⟩
def Part(a b:By):Prop:=a≠b/\∀x r s,¬(a=x::r/\b=x::s)
theorem Z8m{n:Nd}(h:Z1N n)(hb:Z2g n):∃k1 v1 k2 v2,get n k1=E v1/\get n k2=E v2/\Part k1 k2:=by
 cases n with
 |nil=>exact hb.elim
 |leaf p v=>exact hb.elim
 |row p c=>exact hb.elim
 |branch cs v =>
  rcases h.2 with⟨hv,i,hi⟩|⟨i,j,hij,hi,hj⟩
  ·obtain⟨k,w,hk⟩:=Z4U (h.1 i) hi
   exact⟨[],v,I i.val::k,w,by rw[ZO,if_neg hv],by rw[Z0j];exact hk,by simp,fun x r s h=>by cases h.1⟩
  ·obtain⟨k,w,hk⟩:=Z4U (h.1 i) hi
   obtain⟨k',w',hk'⟩:=Z4U (h.1 j) hj;refine⟨I i.val::k,w,I j.val::k',w',by rw[Z0j];exact hk,by rw[Z0j];exact hk',?_,fun x r s h=>?_⟩
   ·intro e
    exact hij (Z9h (JV e).1)
   ·exact hij (Z9h ((JV h.1).1.trans (JV h.2).1.symm))
theorem ZFL{p:By}{c:Nd}(h:Z1N (.row p c)):∃k1 v1 k2 v2,get (.row p c) k1=E v1/\get (.row p c) k2=E v2/\k1≠k2:=by
 obtain⟨k1,v1,k2,v2,h1,h2,hp⟩:=Z8m h.2.2.2 h.2.2.1;exact⟨p++k1,v1,p++k2,v2,by rw[Z0t];exact h1,by rw[Z0t];exact h2,fun e=>hp.1 (JD e)⟩
theorem Nib.left{p q:By}(h:Nib (p++q)):Nib p:=fun x hx=>h x (List.mem_append_left _ hx)
theorem Nib.right{p q:By}(h:Nib (p++q)):Nib q:=fun x hx=>h x (List.mem_append_right _ hx)
theorem Nib.append{p q:By}(h:Nib p)(k:Nib q):Nib (p++q):=fun x hx=>(List.mem_append.1 hx).elim (h x) (k x)
def behind(p k:By)(n:Nd):Option By:=if p.isPrefixOf k then get n (k.drop p.length)else O
theorem Zw(p r:By)(n:Nd):behind p (p++r) n=get n r:=by
 unfold behind;rw[if_pos (List.isPrefixOf_iff_prefix.2 (J0 _ _)),Jm]
theorem Zi{p k:By}{n:Nd}(h:¬p <+: k):behind p k n=O:=by
 unfold behind;rw[if_neg (fun hp=>h (List.isPrefixOf_iff_prefix.1 hp))]
theorem Z3m(p:By)(c:Nd)(k:By):get (.row p c) k=behind p k c:=by simp only[get,behind]
theorem Z6j(p:By)(n:Nd)(k:By):get (Z3X p n) k=behind p k n:=by
 unfold Z3X;split
 ·rename_i h
  subst h;unfold behind;simp
 ·cases n with
  |nil=>exact Z3m _ _ _
  |branch cs v=>exact Z3m _ _ _
  |leaf q v =>
   by_cases hp:p <+: k
   ·obtain⟨r,rfl⟩:=hp
    rw[Zw];simp only[get,J9]
   ·rw[Zi hp]
    simp only[get];rw[if_neg (fun(e:p++q=k)=>hp (by rw[<-e];exact J0 _ _))]
  |row q c =>
   by_cases hp:p <+: k
   ·obtain⟨r,rfl⟩:=hp
    rw[Zw,Z3m,Z3m];by_cases hq:q <+: r
    ·obtain⟨s,rfl⟩:=hq
     rw[<-J2,Zw,Zw]
    ·rw[Zi hq,Zi]
     rintro⟨s,hs⟩;rw[J2]at hs;exact hq ⟨s,JD hs⟩
   ·rw[Zi hp]
    show get (.row (p++q) c) k=O;rw[Z3m,Zi];rintro⟨s,rfl⟩;rw[J2]at hp;exact hp (J0 _ _)
theorem Z4N{p:By}{n:Nd}(hp:Nib p)(hn:Z1N n)(h0:n≠.nil):Z1N (Z3X p n)/\Z3X p n≠.nil:=by
 unfold Z3X;split
 ·exact⟨hn,h0⟩
 ·rename_i hne
  cases n with
  |nil=>exact(h0 rfl).elim
  |leaf q v=>exact⟨⟨hp.append hn.1,hn.2⟩,by simp⟩
  |row q c=>exact⟨⟨by simp[hne],hp.append hn.2.1,hn.2.2⟩,by simp⟩
  |branch cs v=>exact⟨⟨hne,hp,trivial,hn⟩,by simp⟩
theorem Zx(cs:Fin 16->Nd)(v:By)(a:UInt8)(r:By):get (.branch cs v) (a::r)=get (at_ cs a) r:=by
 simp only[get,at_];split<;>simp[get]
theorem Z6V{cs:Fin 16->Nd}{a:UInt8}{n:Nd}(h:a.toNat<16):at_ (upd cs a n) a=n:=by
 unfold at_ upd;rw[dif_pos h,if_pos rfl]
theorem Z2v{cs:Fin 16->Nd}{a b:UInt8}{n:Nd}(h:b≠a):at_ (upd cs a n) b=at_ cs b:=by
 unfold at_ upd;split
 ·rw[if_neg (fun e=>h (UInt8.toNat_inj.1 e))]
 ·rfl
theorem Z8N{cs:Fin 16->Nd}{v p x:By}(hp:Nib p)(hx:x≠[])(h1:p=[]->v=[])(h2:∀a r,p=a::r->at_ cs a=.nil)(k:By):get (lay cs v p x) k=if k=p then E x else get (.branch cs v) k:=by
 cases p with
 |nil =>
  show get (.branch cs x) k=_;cases k with
  |nil=>rw[ZO,if_neg hx,if_pos rfl]
  |cons b r=>rw[if_neg (by simp),Zx,Zx]
 |cons a r =>
  show get (.branch (upd cs a (.leaf r x)) v) k=_;have ha:a.toNat<16:=hp a (by simp);cases k with
  |nil=>rw[ZO,ZO,if_neg (show ¬([]:By)=a::r by simp)]
  |cons b s =>
   rw[Zx,Zx];by_cases hb:b=a
   ·subst hb
    rw[Z6V ha,h2 b r rfl];simp only[get,Jj,true_and];by_cases hrs:r=s
    ·rw[if_pos hrs,if_pos hrs.symm]
    ·rw[if_neg hrs,if_neg (fun e=>hrs e.symm)]
   ·rw[Z2v hb,if_neg (by simp[hb])]
theorem Z3f{cs:Fin 16->Nd}{a:UInt8}{n:Nd}(h:∀i,Z1N (cs i))(hn:Z1N n):∀i,Z1N (upd cs a n i):=fun i=>by
 unfold upd;split
 ·exact hn
 ·exact h i
theorem ZEQ{cs:Fin 16->Nd}{a:UInt8}(h:a.toNat<16):at_ cs a=cs ⟨a.toNat,h⟩:=dif_pos h
theorem Z2p(a:UInt8):at_ Z00 a=.nil:=by unfold at_;split<;>rfl
theorem Z7k(k:By):get (.branch Z00 []) k=O:=by
 cases k with
 |nil=>rfl
 |cons a r=>rw[Zx,Z2p];simp[get]
theorem ZEY{a b:UInt8}(ha:a.toNat<16)(hb:b.toNat<16)(h:a≠b):(⟨a.toNat,ha⟩:Fin 16)≠⟨b.toNat,hb⟩:=fun e=>h (UInt8.toNat_inj.1 (Fin.mk.inj e))
theorem ZF7{q p v x:By}(hq:Nib q)(hp:Nib p)(hv:v≠[])(hx:x≠[])(hne:q≠p)(hh:∀a r s,¬(q=a::r/\p=a::s)) :
  Z1N (ZEd (lay Z00 [] q v) p x)/\Z2g (ZEd (lay Z00 [] q v) p x)/\∀k,get (ZEd (lay Z00 [] q v) p x) k=if k=p then E x else if k=q then E v else O:=by
 have g1:=fun k=>Z8N (cs:=Z00) (v:=[]) (x:=v) hq hv (fun _=>rfl) (fun a r _=>Z2p a) k;cases q with
 |nil =>
  cases p with
  |nil=>exact(hne rfl).elim
  |cons b s =>
   have hb:b.toNat<16:=hp b (by simp);refine⟨⟨Z3f (fun _=>trivial) ⟨fun y hy=>hp y (by simp[hy]),hx⟩,.inl ⟨hv,⟨b.toNat,hb⟩,by unfold upd;rw[if_pos rfl];simp⟩⟩,trivial,fun k=>?_⟩;have g2:=Z8N (cs:=Z00) (v:=v) hp hx (fun h=>by cases h) (fun a r _=>Z2p a) k;show get (lay Z00 v (b::s) x) k=_;rw[g2];split
   ·rfl
   ·have:=g1 k
    rw[Z7k]at this;exact this
 |cons a r =>
  have ha:a.toNat<16:=hq a (by simp);have e:lay Z00 [] (a::r) v=.branch (upd Z00 a (.leaf r v)) []:=rfl;rw[e]at g1 ⊢;show Z1N (lay (upd Z00 a (.leaf r v)) [] p x)/\Z2g (lay (upd Z00 a (.leaf r v)) [] p x)/\∀k,get (lay (upd Z00 a (.leaf r v)) [] p x) k=_;have hc1:∀i,Z1N (upd Z00 a (.leaf r v) i):=Z3f (fun _=>trivial) ⟨fun y hy=>hq y (by simp[hy]),hv⟩
  have hp2:∀b s,p=b::s->at_ (upd Z00 a (.leaf r v)) b=.nil:=fun b s h=>by
   rw[Z2v (fun h2=>hh a r s ⟨rfl,by rw[h,h2]⟩),Z2p]
  refine⟨?_,?_,fun k=>?_⟩
  ·cases p with
   |nil=>exact⟨hc1,.inl ⟨hx,⟨a.toNat,ha⟩,by unfold upd;rw[if_pos rfl];simp⟩⟩
   |cons b s =>
    have hb:b.toNat<16:=hp b (by simp);have hab:a≠b:=fun h=>hh a r s ⟨rfl,by rw[h]⟩;refine⟨Z3f hc1 ⟨fun y hy=>hp y (by simp[hy]),hx⟩,.inr ⟨⟨a.toNat,ha⟩,⟨b.toNat,hb⟩,ZEY ha hb hab,?_,?_⟩⟩
    ·unfold upd
     rw[if_neg (fun h=>hab (UInt8.toNat_inj.1 h)),if_pos rfl];simp
    ·unfold upd
     rw[if_pos rfl];simp
  ·cases p<;>exact trivial
  ·rw[Z8N hp hx (fun _=>rfl) hp2 k]
   split
   ·rfl
   ·have:=g1 k
    rw[Z7k]at this;exact this
theorem Z2m(q p:By):∃t q' p',q=t++q'/\p=t++p'/\t=p.take (ZA q p)/\q'=q.drop (ZA q p)/\p'=p.drop (ZA q p)/\t.length=ZA q p/\∀a r s,¬(q'=a::r/\p'=a::s):=by
 have hl:=Z3w q p;refine⟨p.take (ZA q p),q.drop (ZA q p),p.drop (ZA q p),?_,(JK _ _).symm,rfl,rfl,rfl,by rw[JE];omega,fun a r s h=>?_⟩
 ·rw[<-Z3S];exact(JK _ _).symm
 ·have h1:ZA q p<q.length:=by
    have:=congrArg Js h.1;rw[J8]at this;simp at this;omega
  have h2:ZA q p<p.length:=by
   have:=congrArg Js h.2;rw[J8]at this;simp at this;omega
  refine Z9s q p h1 h2 ?_
  have e1:q[ZA q p]=a:=by
   have:=Jq (xs:=q) (i:=ZA q p) (j:=0) (h:=by rw[J8];omega);simp only[h.1,JQ,Jf]at this;exact this.symm
  have e2:p[ZA q p]=a:=by
   have:=Jq (xs:=p) (i:=ZA q p) (j:=0) (h:=by rw[J8];omega);simp only[h.2,JQ,Jf]at this;exact this.symm
  rw[e1,e2]
theorem Z7x:∀{n:Nd} {p x:By},Z1N n->Nib p->x≠[]->Z1N (put n p x)/\put n p x≠.nil/\(Z2g n->Z2g (put n p x))/\∀k,get (put n p x) k=if k=p then E x else get n k
 | .nil,p,x,hn,hp,hx=>by
   refine⟨⟨hp,hx⟩,by simp[put],fun h=>h.elim,fun k=>?_⟩;simp only[put,get];by_cases h:p=k
   ·rw[if_pos h,if_pos h.symm]
   ·rw[if_neg h,if_neg (fun e=>h e.symm)]
 | .leaf q v,p,x,hn,hp,hx=>by
   simp only[put];obtain⟨t,q',p',hq,hpe,ht,hq',hp',htl,hh⟩:=Z2m q p;split
   ·rename_i hs
    have hqp:q=p:=by
     have h1:=Z3S q p;rw[hs.1,JF]at h1;have h2:q.length=p.length:=hs.1.symm.trans hs.2;rw[h2,JF]at h1;exact h1
    subst hqp;refine⟨⟨hp,hx⟩,by simp,fun h=>h.elim,fun k=>?_⟩;simp only[get];by_cases h:q=k
    ·rw[if_pos h,if_pos h.symm]
    ·rw[if_neg h,if_neg (fun e=>h e.symm),if_neg h]
   ·rename_i hs
    have hne:q'≠p':=by
     rintro rfl;cases q' with
     |nil =>
      simp only[JI]at hq hpe;exact hs ⟨by rw[<-htl,<-hq],by rw[<-htl,<-hpe]⟩
     |cons a r=>exact hh a r r ⟨rfl,rfl⟩
    have hnq:Nib q':=(hq ▸ hn.1:Nib (t++q')).right;have hnp:Nib p':=(hpe ▸ hp:Nib (t++p')).right;have hnt:Nib t:=(hpe ▸ hp:Nib (t++p')).left;obtain⟨hc,hb,hg⟩:=ZF7 hnq hnp hn.2 hx hne hh;rw[<-ht,<-hq',<-hp'];have hnz:ZEd (lay Z00 [] q' v) p' x≠.nil:=by intro e;rw[e]at hb;exact hb
    obtain⟨h1,h2⟩:=Z4N hnt hc hnz;refine⟨h1,h2,fun h=>h.elim,fun k=>?_⟩;rw[Z6j];simp only[get];by_cases hk:t <+: k
    ·obtain⟨k',rfl⟩:=hk
     rw[Zw,hg,hpe,hq];simp only[J9];split
     ·rfl
     ·by_cases h:k'=q'
      ·rw[if_pos h,if_pos h.symm]
      ·rw[if_neg h,if_neg (fun e=>h e.symm)]
    ·rw[Zi hk,if_neg (fun(e:k=p)=>hk (by rw[e,hpe];exact J0 _ _)),if_neg (fun(e:q=k)=>hk (by rw[<-e,hq];exact J0 _ _))]
 | .row q c,p,x,hn,hp,hx=>by
   simp only[put];obtain⟨t,q',p',hq,hpe,ht,hq',hp',htl,hh⟩:=Z2m q p;have hnp:Nib p':=(hpe ▸ hp:Nib (t++p')).right;have hnt:Nib t:=(hpe ▸ hp:Nib (t++p')).left;split
   ·rename_i hs
    have hq0:q'=[]:=by rw[hq',hs,List.drop_length]
    rw[hq0,JI]at hq;subst hq;rw[<-hp'];obtain⟨h1,h2,h3,h4⟩:=Z7x (p:=p') (x:=x) hn.2.2.2 hnp hx;refine⟨⟨hn.1,hn.2.1,h3 hn.2.2.1,h1⟩,by simp,fun h=>h.elim,fun k=>?_⟩;rw[Z3m,Z3m];by_cases hk:q <+: k
    ·obtain⟨k',rfl⟩:=hk
     rw[Zw,Zw,h4,hpe];simp only[J9]
    ·rw[Zi hk,Zi hk,if_neg (fun(e:k=p)=>hk (by rw[e,hpe];exact J0 _ _))]
   ·rename_i hs
    have hlt:ZA q p<q.length:=by have:=(Z3w q p).1;omega
    obtain⟨a,q2,hq2⟩:∃a q2,q'=a::q2:=by
     cases h:q' with
     |nil=>rw[hq',List.drop_eq_nil_iff]at h;omega
     |cons a r=>exact⟨a,r,rfl⟩
    have hga:q.getD (ZA q p) 0=a:=by
     have h3:q[t.length]?=E a:=by rw[hq,JY (JG _),Nat.sub_self,hq2];rfl
     rw[<-htl,JL,h3];rfl
    have hgd:q.drop (ZA q p+1)=q2:=by
     rw[<-List.drop_drop,<-hq',hq2];rfl
    rw[hga,hgd,<-ht,<-hp'];have hnq:Nib q':=(hq ▸ hn.2.1:Nib (t++q')).right;rw[hq2]at hnq;have ha:a.toNat<16:=hnq a (by simp);have hcn:c≠.nil:=by intro e;rw[e]at hn;exact hn.2.2.1
    obtain⟨r1,r2⟩:=Z4N (p:=q2) (n:=c) (fun y hy=>hnq y (by simp[hy])) hn.2.2.2 hcn;have hc1:∀i,Z1N (upd Z00 a (Z3X q2 c) i):=Z3f (fun _=>trivial) r1
    have hp2:∀b s,p'=b::s->at_ (upd Z00 a (Z3X q2 c)) b=.nil:=fun b s h=>by
     rw[Z2v (fun h2=>hh a q2 s ⟨hq2,by rw[h,h2]⟩),Z2p]
    have hcl:Z1N (lay (upd Z00 a (Z3X q2 c)) [] p' x)/\Z2g (lay (upd Z00 a (Z3X q2 c)) [] p' x):=by
     cases hpp:p' with
     |nil=>exact⟨⟨hc1,.inl ⟨hx,⟨a.toNat,ha⟩,by unfold upd;rw[if_pos rfl];exact r2⟩⟩,trivial⟩
     |cons b s =>
      rw[hpp]at hnp;have hb:b.toNat<16:=hnp b (by simp);have hab:a≠b:=fun h=>hh a q2 s ⟨hq2,by rw[hpp,h]⟩;refine⟨⟨Z3f hc1 ⟨fun y hy=>hnp y (by simp[hy]),hx⟩,.inr ⟨⟨a.toNat,ha⟩,⟨b.toNat,hb⟩,ZEY ha hb hab,?_,?_⟩⟩,trivial⟩
      ·unfold upd
       rw[if_neg (fun h=>hab (UInt8.toNat_inj.1 h)),if_pos rfl];exact r2
      ·unfold upd
       rw[if_pos rfl];simp
    have hnz:lay (upd Z00 a (Z3X q2 c)) [] p' x≠.nil:=by intro e;rw[e]at hcl;exact hcl.2
    obtain⟨h1,h2⟩:=Z4N hnt hcl.1 hnz;refine⟨h1,h2,fun h=>h.elim,fun k=>?_⟩;rw[Z6j,Z3m];by_cases hk:t <+: k
    ·obtain⟨k',rfl⟩:=hk
     rw[Zw,Z8N hnp hx (fun _=>rfl) hp2,hpe,hq,hq2];simp only[J9];split
     ·rfl
     ·cases k' with
      |nil =>
       rw[ZO,if_pos rfl,JI,Zi];intro hpre;have:=hpre.length_le;simp at this;omega
      |cons b s =>
       rw[Zx];by_cases hba:b=a
       ·subst hba
        rw[Z6V ha,Z6j];by_cases hqs:q2 <+: s
        ·obtain⟨u,rfl⟩:=hqs
         rw[Zw,show t++b::(q2++u)=(t++b::q2)++u by simp,Zw]
        ·rw[Zi hqs,Zi]
         rintro⟨u,hu⟩;rw[J2]at hu;have:=JD hu;rw[JM]at this;exact hqs ⟨u,(JV this).2⟩
       ·rw[Z2v hba,Z2p,Zi]
        ·simp[get]
        ·rintro⟨u,hu⟩
         rw[J2]at hu;have:=JD hu;rw[JM]at this;exact hba (JV this).1.symm
    ·rw[Zi hk,if_neg (fun(e:k=p)=>hk (by rw[e,hpe];exact J0 _ _)),Zi]
     rintro⟨u,rfl⟩;rw[hq,J2]at hk;exact hk (J0 _ _)
 | .branch cs v,[],x,hn,hp,hx=>by
   refine⟨⟨hn.1,?_⟩,by simp[put],fun _=>trivial,fun k=>?_⟩
   ·rcases hn.2 with⟨_,h⟩|h
    ·exact .inl ⟨hx,h⟩
    ·exact .inr h
   ·simp only[put]
    cases k with
    |nil=>rw[ZO,if_neg hx,if_pos rfl]
    |cons b r=>rw[if_neg (by simp),Zx,Zx]
 | .branch cs v,a::r,x,hn,hp,hx=>by
   have ha:a.toNat<16:=hp a (by simp);have hr:Nib r:=fun y hy=>hp y (by simp[hy]);have ih:=fun i=>Z7x (n:=cs i) (p:=r) (x:=x) (hn.1 i) hr hx;simp only[put];refine⟨⟨fun i=>?_,?_⟩,by simp,fun _=>trivial,fun k=>?_⟩
   ·dsimp only
    split
    ·exact(ih i).1
    ·exact hn.1 i
   ·have keep:∀i,cs i≠.nil->(if i.val=a.toNat then put (cs i) r x else cs i)≠.nil:=fun i hi=>by
      split
      ·exact(ih i).2.1
      ·exact hi
    rcases hn.2 with⟨hv,i,hi⟩|⟨i,j,hij,hi,hj⟩
    ·exact .inl ⟨hv,i,keep i hi⟩
    ·exact .inr ⟨i,j,hij,keep i hi,keep j hj⟩
   ·cases k with
    |nil=>rw[ZO,ZO,if_neg (show ¬([]:By)=a::r by simp)]
    |cons b s =>
     rw[Zx,Zx];by_cases hb:b=a
     ·subst hb
      rw[ZEQ ha,ZEQ ha,if_pos rfl,(ih _).2.2.2];simp only[Jj,true_and]
     ·rw[if_neg (by simp[hb])]
      unfold at_;split
      ·rename_i hb16
       dsimp only;rw[if_neg (fun e=>hb (UInt8.toNat_inj.1 e))]
      ·rfl
def isNil:Nd->Bool
 | .nil=>Jc
 |_=>J7
def there(cs:Fin 16->Nd):List (Fin 16):=(Jd 16).filter fun i=> !isNil (cs i)
end Go.Trie
end
section
namespace Go.Vcg
structure ZM (w0 w:U) (e:Jg) (sz:Nat) (o:Option Addr) (l c:Nat) (xs:List JA):Prop where
 own:Own w e sz o l c xs
 mod:Mod NoB w0 w
 new:∀k,OB o k->w0.heap.size<=k
variable{P:Program}{w0 w w':U}{e t tx ty:Jg}{sz l c n:Nat}{o:Option Addr}{xs news:List JA}{x:JA}{i:TypeInfo}{z:JA}
theorem ZM.nil(M:Mod NoB w0 w)(e:Jg)(sz:Nat):ZM w0 w e sz O 0 0 []:=⟨Own.nil w e sz,M,fun k h=>(Z3Z k h).elim⟩
theorem ZM.mod'(h:ZM w0 w e sz o l c xs)(M:Mod NoB w w'):ZM w0 w' e sz o l c xs:=⟨h.own.mod' M,h.mod.trans M (fun _ _ h=>h),h.new⟩
theorem ZM.push(h:ZM w0 w e sz o l c xs)(ht:P.underlying t=E (.slice e))(hi:P.info? e=E i)(hz:i.zero=E z)(hs:i.size=sz)(hzs:z.cells.size=sz)
  (src:Src P sz tx x n news w) (h63:l+n<=Jh) (hb:(l+n)*i.bytes<=140737488355328) :
  ∃o' c' w',Sem.run P (builtinV Jx #[t,tx] ty #[.slice o l c,x]) w=.ok (.slice o' (l+n) c') w'/\ZM w0 w' e sz o' (l+n) c' (xs++news):=by
 obtain⟨o',c',w',h1,h2,h3,h4⟩:=Z2u (ty:=ty) ht hi hz hs hzs h.own src h63 hb;refine⟨o',c',w',h1,h2,h.mod.trans h3 (fun k hk hob=>absurd (h.new k hob) (by omega)),fun k hk=>?_⟩;rcases h4 k hk with h5|h5
 ·exact h.new k h5
 ·exact Jy h.mod.size h5
section
variable{C:Type}{lab:Nat->C}
theorem ZM.done(h:ZM w0 w e sz o l c xs)(cl:C):COw w (ext lab w0.heap.size cl) cl e sz o l c xs/\Stp (fun _=>False) w0 lab w (ext lab w0.heap.size cl) :=
 ⟨⟨h.own,fun k hk=>Z0D (h.new k hk)⟩,Stp.of_nob h.mod cl⟩
def Z42(w:U)(lab:Nat->C)(c:C)(o:Option Addr)(xs:List JA):Prop :=
 ∀(j:Nat)(v:JA),xs[j]?=E v->∃b f,o=E ⟨b,f,O⟩/\b<w.heap.size/\lab b=c/\w.cell? ⟨b,f+j,O⟩=E v
variable{cl:C}{S:C->Prop}{lab':Nat->C}
theorem Z42.nil(w:U)(lab:Nat->C)(cl:C)(o:Option Addr):Z42 w lab cl o []:=fun j v h=>by simp at h
theorem Z42.stp(h:Z42 w lab cl o xs)(s:Stp S w lab w' lab')(hs:¬S cl):Z42 w' lab' cl o xs:=fun j v hv=>by
 obtain⟨b,f,ho,hb,hl,hc⟩:=h j v hv;exact⟨b,f,ho,JZ hb s.size,(s.lab b hb).trans hl,(World.cell?_of_block (s.block b hb (by rw[hl];exact hs))).trans hc⟩
theorem COw.row(h:COw w lab cl e sz o l c xs):Z42 w lab cl o xs:=fun j v hv=>by
 obtain⟨g,rfl,hc⟩:=h.own.cell hv;exact⟨g,0,rfl,h.own.lt ⟨_,rfl,rfl⟩,h.clr _ ⟨_,rfl,rfl⟩,by rw[T];exact hc⟩
theorem Z42.src(h:Z42 w lab cl o xs)(hk:P.underlying tx=E (.slice e))(hl:xs.length=n*sz)(h1:∀u∈xs,u.oneCell'=Jc)(c:Nat)(hz:0<sz):Src P sz tx (.slice o n c) n xs w:=by
 cases xs with
 |nil =>
  have:n=0:=by
   have:n*sz=0:=by simpa using hl.symm
   rcases Nat.mul_eq_zero.1 this with h|h<;>omega
  subst this;cases o with
  |none=>exact Src.ofNil w hk c
  |some a=>exact Src.ofSlice w hk a 0 c [] hl (by simp) (by simp)
 |cons v r =>
  obtain⟨b,f,rfl,_,_,_⟩:=h 0 v rfl;refine Src.ofSlice w hk _ n c _ hl (fun j u hu=>?_) h1;obtain⟨b',f',ho,_,_,hc⟩:=h j u hu;cases ho;rw[Z2];exact hc
theorem Z6U{o:Option Addr}{news:List JA}{x:JA}{m:Nat}(h:Z42 w lab cl o xs)(ht:P.underlying t=E (.slice e))(hi:P.info? e=E i)(hz:i.zero=E z)(hs:i.size=sz)(hzs:z.cells.size=sz)(hsz:0<sz)
  (hl:xs.length=l*sz) (src:Src P sz tx x (m+1) news w) (h63:l+(m+1)<=Jh) (hb:(l+(m+1))*i.bytes<=140737488355328) :
  ∃o' c' w',Sem.run P (builtinV Jx #[t,tx] ty #[.slice o l l,x]) w=.ok (.slice o' (l+(m+1)) c') w'/\ZM w w' e sz o' (l+(m+1)) c' (xs++news):=by
 have hold:(Ja i.size l (.slice o l l)).run P w.drew=.ok xs.toArray w.drew:=by
  subst hs;cases o with
  |none =>
   have:xs=[]:=by
    cases xs with
    |nil=>rfl
    |cons v r=>obtain⟨b,f,ho,_⟩:=h 0 v rfl;cases ho
   subst this
   have:l=0:=by
    have:l*i.size=0:=by simpa using hl.symm
    rcases Nat.mul_eq_zero.1 this with h|h<;>omega
   subst this;exact run_firstCells_none w.drew i.size 0 0 0
  |some a =>
   exact Jn w.drew i.size l _ l l xs hl (fun j v hv=>by
    obtain⟨b,f,ho,_,_,hc⟩:=h j v hv;cases ho;rw[Z2];exact hc)
 have hr:=run_append_grow_src (P:=P) w t tx ty e i z ht hi hz o l l xs hold x (m+1) news (hs ▸ src) (by omega) (by simp only[Jh]at h63;omega) (growslice_fits (by omega) hb);have hlen:(xs++news).length=(l+(m+1))*sz:=by rw[G,hl,src.newsLen,<-Q5]
 have hge:=grownCap_ge w (l+(m+1)) l e;have hcm:grownCap w (l+(m+1)) l e<=Jh:=grownCap_le_maxLen w (l+(m+1)) l e h63;refine⟨_,_,_,hr,⟨hlen,.inr ⟨_,_,rfl,Blk.new w.drew e _,hge,hcm,?_,?_⟩⟩,((Mod.drew w).step_alloc _),fun k hk=>?_⟩
 ·rw[Array.size_append,List.size_toArray,hlen,size_zeroCells,hzs,<-Q5]
  congr 1;omega
 ·rw[Array.toList_append]
  show List.take _ ((xs++news)++_)=_;rw[<-hlen];exact List.take_left
 ·obtain⟨d,hd,rfl⟩:=hk
  cases hd;exact JG _
theorem Z90(o:Option Addr)(k:Nat):Option.map (fun a=>Addr.add a (0*k)) o=o:=by
 cases o with
 |none=>rfl
 |some a=>simp[Addr.add]
theorem Z81{o:Option Addr}{l c h:Nat}(ht:P.underlying t=E (.slice e))(hi:P.info? e=E i)(w:U)(hh:h<=c) :
  Sem.run P (Instr.sliceAt t (.slice o l c) O (E (.int JH (h:Int))) (E (.int JH (h:Int)))) w=.ok (.slice o h h) w:=by
 have e1:∀(y:Nat)(code:BoundsCode),h<=y->(Instr.sliceBound (.int JH (h:Int)) y code).run P w=.ok h w:=by
  intro y code hy;simp[Instr.sliceBound,asIntOf,hy]
 have e2:(Instr.sliceBounds Jc l c O (E (.int JH (h:Int))) (E (.int JH (h:Int)))).run P w=.ok (0,h,h) w:=by
  unfold Instr.sliceBounds;simp only[Sem.run_bind,e1 c _ hh,Jb,e1 h _ (JG _),Sem.run_pure]
 unfold Instr.sliceAt;simp only[Sem.run_bind,ZX ht,Jb];unfold Instr.slice;simp only[Sem.run_bind,ZX ht,Jb,e2,Z0e hi,Sem.run_pure,Z90,ite_self,Nat.sub_zero]
end
end Go.Vcg
end
section
namespace Go.Vcg
def Z77(bs:List UInt8):ByteArray:=⟨bs.toArray⟩
theorem Z72{P:Program}{w:U}{src dst e:Jg}(hs:P.underlying src=E (.slice e))(he:P.underlying e=E (.int QA))(hd:P.underlying dst=E .string){o:Option Addr}{c:Nat}{bs:List UInt8}(h:RdB w o bs) :
  (convert src dst (.slice o bs.length c)).run P w=.ok (.string (Z77 bs)) w:=by
 rw[run_convert_bytes_string w src dst e o bs.length c hs he hd];cases o with
 |none =>
  have:bs=[]:=by
   by_cases hne:bs=[]
   ·exact hne
   ·obtain⟨b,f,h,_⟩:=h hne;cases h
  subst this;rfl
 |some a =>
  have hl:(loadCells a bs.length).run P w=.ok ((bs.map fun b=>(b.toNat:Int)).map (Value.int QA)).toArray w:=by
   have h1:(Ja 1 bs.length (.slice (E a) bs.length c)).run P w=.ok (bs.map bV).toArray w:=by
    refine Jn w 1 bs.length a _ c _ (by simp) (fun j v hv=>?_);rw[List.getElem?_map,Option.map_eq_some_iff]at hv;obtain⟨x,hx,rfl⟩:=hv;obtain⟨hj,rfl⟩:=List.getElem?_eq_some_iff.1 hx;obtain⟨b,f,ho,_,hc⟩:=h (by intro e;rw[e]at hj;simp at hj);cases ho;rw[Z2,hc j hj];simp[JL,hj]
   simp only[Ja,Nat.mul_one]at h1;rw[h1,List.map_map];rfl
  rw[run_bytesToString w a _ c _ hl]
  have key:∀(l:List UInt8)(s:ByteArray),(l.map fun b=>(b.toNat:Int)).foldl (fun r n=>r.push (I n.toNat)) s=⟨s.data++l.toArray⟩:=by
   intro l
   induction l with
   |nil=>intro s;simp
   |cons b l ih =>
    intro s;rw[Jw,Jt,ih];have e1:I ((b.toNat:Int)).toNat=b:=by rw[Z,UInt8.ofNat_toNat]
    rw[e1];congr 1;show s.data.push b++l.toArray=_;rw[List.toArray_cons,<-Array.append_assoc];rfl
  rw[key];show Result.ok (Value.string ⟨#[]++bs.toArray⟩) w=_;rw[Array.empty_append];rfl
theorem ZEF(a b:ByteArray):Z76 .eql a b=decide (a.data.toList=b.data.toList):=by
 simp only[Z76,ByteArray.toList_eq];by_cases h:a.data.toList=b.data.toList
 ·rw[decide_eq_true h,h];simp
 ·rw[decide_eq_false h];simpa using h
theorem Z2N(a b:List UInt8):Z76 .eql (Z77 a) (Z77 b)=decide (a=b):=by
 rw[ZEF];rfl
end Go.Vcg
end
section
namespace Go.Proofs.YtfghidehlnfdiaaGreat
open Go Go.Vcg Go.Trie
theorem Z9{P:Program}{f:FuncId}{args:Array JA}{w:U}{Q:Ending->U->Prop}(h:∀R:Ending->U->Prop,(∀e w',Q e w'->R e w')->JX P f args w R):JX P f args w Q :=
 h Q (fun _ _ h=>h)
theorem Z1f{t:Jg}{z:JA}{s b:Nat}(h:(Tryz.prog.info? t).map (fun i=>(i.zero,i.size,i.bytes))=E (E z,s,b)):∃i,Tryz.prog.info? t=E i/\i.zero=E z/\i.size=s/\i.bytes=b:=by
 obtain⟨i,hi,h1⟩:=Option.map_eq_some_iff.1 h;simp only[Prod.mk.injEq]at h1;exact⟨i,hi,h1⟩
theorem ZW{w0 w:U}{o:Option Addr}{n k:Nat}{b:List UInt8}{ty:Jg}(F:ZM w0 w tU8 1 o n k (b.map bV)){o2:Option Addr}{c:List UInt8}{k2:Nat}(hr:RdB w o2 c)(hn:n+c.length<=2^40) :
  ∃o' c' w',Sem.run J5 (builtinV Jx #[Zy,Zy] ty #[.slice o n k,.slice o2 c.length k2]) w=.ok (.slice o' (n+c.length) c') w'/\ZM w0 w' tU8 1 o' (n+c.length) c' ((b++c).map bV):=by
 obtain⟨i,hi,hz,hs,hb⟩:=Z1f ZAX;rw[List.map_append];exact F.push Zn hi hz hs rfl (Z75 Zn hr) (by simp only[Jh];omega) (by rw[hb];omega)
theorem Z3F{w0 w:U}(M:Vcg.Mod NoB w0 w){o2:Option Addr}{c:List UInt8}{k2:Nat}{ty:Jg}(hr:RdB w o2 c)(hn:c.length<=2^40) :
  ∃o' c' w',Sem.run J5 (builtinV Jx #[Zy,Zy] ty #[.slice O 0 0,.slice o2 c.length k2]) w=.ok (.slice o' c.length c') w'/\ZM w0 w' tU8 1 o' c.length c' (c.map bV):=by
 have:=ZW (k2:=k2) (ty:=ty) (b:=[]) (ZM.nil M tU8 1) hr (by omega);simpa using this
theorem Zj{w0 w:U}{o:Option Addr}{l k:Nat}{bs:List UInt8}(F:ZM w0 w tU8 1 o l k (bs.map bV)):RdB w o bs:=F.own.bytes
theorem Z1S{w:U}{o:Option Addr}{bs:List UInt8}(h:RdB w o bs){i:Nat}(hi:i<bs.length):∃b f,o=E ⟨b,f,O⟩/\b<w.heap.size/\w.cell? ⟨b,f+i,O⟩=E (bV bs[i]):=by
 obtain⟨b,f,ho,hb,hc⟩:=h (by intro e;rw[e]at hi;simp at hi);refine⟨b,f,ho,hb,?_⟩;rw[hc i hi];simp[JL,hi]
theorem Z9w{w:U}(a b:UInt8){n m:Int}(hn:n=(a.toNat:Int))(hm:m=(b.toNat:Int)):RdB (w.alloc (J6 #[.int QA n,.int QA m] 5)) (E ⟨w.heap.size,0,O⟩) [a,b]:=by
 subst hn hm
 exact RdB.of_blk (Blk.new w 5 #[bV a,bV b]) (fun i hi=>by
  rcases i with _|_|i
  ·rfl
  ·rfl
  ·exact absurd hi (by simp))
theorem ZFi(b:UInt8):Q6 (b.toNat:Int) 16=((b>>>4).toNat:Int):=by
 have:∀n:Fin 256,Q6 ((JB n).toNat:Int) 16=((JB n>>>4).toNat:Int):=by decide +kernel
 exact this b.toFin
theorem ZFm(b:UInt8):bitsI .and QA (b.toNat:Int) 15=((b&&&15).toNat:Int):=by
 have:∀n:Fin 256,bitsI .and QA ((JB n).toNat:Int) 15=((JB n&&&15).toNat:Int):=by decide +kernel
 exact this b.toFin
theorem ZG(k:By):(nibbles k).length=2*k.length:=by
 induction k with
 |nil=>rfl
 |cons a r ih =>
  show([a>>>4,a&&&15]++nibbles r).length=_;rw[G,ih];simp;omega
theorem Z2i(k:By)(a:UInt8):nibbles (k++[a])=nibbles k++[a>>>4,a&&&15]:=by
 unfold nibbles;rw[List.flatMap_append];rfl
theorem Z4h{w:U}{o:Option Addr}{k:Nat}{bs:List UInt8}(hr:RdB w o bs)(hl:bs.length<=2^30) :
  JX J5 Z1Z.n #[.slice o bs.length k] w (fun e w'=>∃o' k',e=J4 (.slice o' (nibbles bs).length k')/\ZM w w' tU8 1 o' (nibbles bs).length k' ((nibbles bs).map bV)):=by
 refine Z1Z.vc _ _ _ _ _ ?_;unfold Z1Z.Vc
 refine⟨fun o' l' k' i w'=>∃j:Nat,i=(j:Int)/\j<=bs.length/\l'=(nibbles (bs.take j)).length/\ZM w w' tU8 1 o' l' k' ((nibbles (bs.take j)).map bV),fun _ _ _ i _=>((bs.length:Int)-i).toNat,
  ⟨0,rfl,JP _,rfl,ZM.nil (Mod.refl w) _ _⟩,?_⟩
 rintro o' _ k' _ _ w1⟨j,rfl,hj,rfl,F⟩;refine⟨fun hlt=>?_,fun hge=>?_⟩
 ·have hjl:j<bs.length:=by omega
  obtain⟨b,f,rfl,hb,hc⟩:=Z1S hr hjl;have htk:bs.take (j+1)=bs.take j++[bs[j]]:=by rw[JC,K hjl];rfl
  refine⟨_,rfl,by omega,_,by rw[Z2,Z];exact(ZK F.mod hb (fun h=>h)).trans hc,?_⟩;rintro d w2⟨rfl,rfl⟩;have hnl:=ZG (bs.take j);rw[JE]at hnl;obtain⟨o3,k3,w3,hr3,F3⟩:=ZW (ty:=Zy) (k2:=2) (F.mod' (Mod.alloc _ _)) (Z9w (w:=w1) (bs[j]>>>4) (bs[j]&&&15) (ZFi _) (ZFm _)) (by simp;omega);refine⟨_,w3,hr3,_,_,_,rfl,⟨j+1,by rw[Z0 (by omega) (by omega)];omega,hjl,?_,?_⟩,?_⟩
  ·rw[htk,Z2i,G]
  ·rw[htk,Z2i];exact F3
  ·dsimp only
   rw[Z0 (by omega) (by omega)];omega
 ·obtain rfl:j=bs.length:=by omega
  rw[JF]at F ⊢;exact⟨_,_,rfl,F⟩
theorem Z3B{w:U}{o:Option Addr}{k:Nat}{bs:List UInt8}(hr:RdB w o bs)(hl:bs.length<=2^40) :
  JX J5 Z1k.n #[.slice o bs.length k] w (fun e w'=>∃o' k',e=J4 (.slice o' bs.length k')/\ZM w w' tU8 1 o' bs.length k' (bs.map bV)):=by
 refine Z1k.vc _ _ _ _ _ ?_;unfold Z1k.Vc;refine⟨fun h=>?_,fun h=>?_⟩
 ·subst h
  have:bs=[]:=by
   by_cases hne:bs=[]
   ·exact hne
   ·obtain⟨b,f,ho,_⟩:=hr hne;cases ho
  subst this;exact⟨O,0,rfl,ZM.nil (Mod.refl w) _ _⟩
 ·rintro d w2⟨rfl,rfl⟩
  have M2:=Mod.alloc (S:=NoB) w (J6 #[] 5)
  have F:ZM w (w.alloc (J6 #[] 5)) tU8 1 (E ⟨w.heap.size,0,O⟩) 0 0 (([]:List UInt8).map bV) :=
   ⟨⟨rfl,.inr ⟨_,#[],rfl,Blk.new w 5 #[],JG _,by simp[Jh],rfl,rfl⟩⟩,M2,fun k hk=>by obtain⟨d,hd,rfl⟩:=hk;cases hd;exact JG _⟩
  obtain⟨o3,k3,w3,hr3,F3⟩:=ZW (ty:=Zy) (k2:=k) F (hr.mod' M2) (by omega);rw[T]at hr3 F3;rw[JW]at F3;exact⟨_,w3,hr3,_,_,_,rfl,_,_,rfl,F3⟩
end Go.Proofs.YtfghidehlnfdiaaGreat
end
section
namespace Go.Trie
theorem Z5X:∀(n:Nat) (x:By) (a b:UInt8),x.length=2*n->Z3L (x++[a,b])=Z3L x++[a<<<4|||b]
 |0,[],a,b,_=>rfl
 |0,_::_,a,b,h=>by simp at h
 |n+1,[],a,b,h=>by simp at h
 |n+1,[_],a,b,h=>by simp at h;omega
 |n+1,c::d::r,a,b,h=>by
  have:=Z5X n r a b (by simp at h;omega);show Z3L (c::d::(r++[a,b]))=Z3L (c::d::r)++_;simp only[Z3L,this,JM]
theorem Z4z:∀(n:Nat) (x:By),x.length=2*n->(Z3L x).length=n
 |0,[],_=>rfl
 |0,_::_,h=>by simp at h
 |n+1,[],h=>by simp at h
 |n+1,[_],h=>by simp at h;omega
 |n+1,c::d::r,h=>by
  simp only[Z3L,J,Z4z n r (by simp at h;omega)]
def Z1U(p:By)(leaf:Bool):By:=if p.length%2=1 then[Z1E leaf+1]else[Z1E leaf,0]
theorem Z4r(p:By)(leaf:Bool):headed p leaf=Z1U p leaf++p:=by
 unfold headed Z1U;split<;>rfl
theorem Z4V(p:By)(leaf:Bool):∃n,(headed p leaf).length=2*n:=by
 unfold headed;split
 ·rename_i h;exact⟨(p.length+1)/2,by rw[J];omega⟩
 ·rename_i h;exact⟨(p.length+2)/2,by rw[J,J];omega⟩
theorem Z3x:∀(n:Nat) (p q:By),p.take n=q.take n->n<=p.length->n<=q.length->n<=ZA p q
 |0,p,q,_,_,_=>JP _
 |n+1,a::p,b::q,h,h1,h2=>by
  simp only[Jo,Jj]at h;have:=Z3x n p q h.2 (by simp at h1;omega) (by simp at h2;omega);simp only[ZA,if_pos h.1];omega
 |n+1,[],q,_,h,_=>by simp at h
 |n+1,_::_,[],_,_,h=>by simp at h
theorem ZDY{n:Nat}{p q:By}(h:p.take n=q.take n)(h1:n<=p.length)(h2:n<=q.length)(h3:n=p.length\/n=q.length\/∃(x:n<p.length) (y:n<q.length),p[n]≠q[n]):ZA p q=n:=by
 have ge:=Z3x n p q h h1 h2;obtain⟨l1,l2⟩:=Z3w p q;rcases h3 with rfl|rfl|⟨x,y,hne⟩
 ·omega
 ·omega
 ·by_cases hlt:n<ZA p q
  ·have ht:=Z3S p q
   have e1:(p.take (ZA p q))[n]?=(q.take (ZA p q))[n]?:=by rw[ht]
   rw[Jp,Jp,if_pos hlt,if_pos hlt,K x,K y]at e1;exact(hne (Option.some.inj e1)).elim
  ·omega
end Go.Trie
end
section
namespace Go.Proofs.YtfghidehlnfdiaaGreat
open Go Go.Vcg Go.Trie
theorem ZAc{w:U}{o:Option Addr}{k:Nat}{bs:List UInt8}(hr:RdB w o bs)(hl:bs.length<=2^30) :
  JX J5 Z2P.n #[.slice o bs.length k] w (fun e w'=>w'=w/\∃n,e=J4 (.int QA n)/\(n>=16↔∃x∈bs,x>=16)):=by
 refine Z2P.vc _ _ _ _ _ ?_;unfold Z2P.Vc;refine⟨fun n i w'=>∃j:Nat,i=(j:Int)/\j<=bs.length/\w'=w/\(n>=16↔∃x∈bs.take j,x>=16),fun _ i _=>((bs.length:Int)-i).toNat,⟨0,rfl,JP _,rfl,by simp⟩,?_⟩;rintro n _ _ _⟨j,rfl,hj,rfl,hn⟩;refine⟨fun hlt=>?_,fun hge=>?_⟩
 ·have hjl:j<bs.length:=by omega
  obtain⟨b,f,rfl,hb,hc⟩:=Z1S hr hjl;have htk:bs.take (j+1)=bs.take j++[bs[j]]:=by rw[JC,K hjl];rfl
  refine⟨_,rfl,by omega,_,by rw[Z2,Z];exact hc,⟨j+1,by rw[Z0 (by omega) (by omega)];omega,hjl,rfl,?_⟩,?_⟩
  ·rw[htk]
   simp only[List.mem_append,List.mem_singleton]
   have hx:((bs[j].toNat:Int)>=16)↔bs[j]>=16:=by
    have:bs[j]>=16↔(16:UInt8).toNat<=bs[j].toNat:=UInt8.le_iff_toNat_le;rw[this];show _↔16<=bs[j].toNat;omega
   constructor
   ·intro h
    by_cases h1:n>=16
    ·obtain⟨x,hx1,hx2⟩:=hn.1 h1
     exact⟨x,.inl hx1,hx2⟩
    ·exact⟨_,.inr rfl,hx.1 (by omega)⟩
   ·rintro⟨x,hx1|rfl,hx2⟩
    ·have:=hn.2 ⟨x,hx1,hx2⟩;omega
    ·have:=hx.2 hx2;omega
  ·dsimp only
   rw[Z0 (by omega) (by omega)];omega
 ·obtain rfl:j=bs.length:=by omega
  rw[JF]at hn;exact⟨rfl,n,rfl,hn⟩
theorem shl4(a:UInt8):V QA ((a.toNat:Int)*16)=((a<<<4).toNat:Int):=by
 have:∀n:Fin 256,V QA (((JB n).toNat:Int)*16)=((JB n<<<4).toNat:Int):=by decide +kernel
 exact this a.toFin
theorem Z3l(w:U)(cs:List UInt8)(A:Array JA)(hA:A.toList=cs.map bV)(hl:cs.length<=Jh):ZM w (w.alloc (J6 A 5)) tU8 1 (E ⟨w.heap.size,0,O⟩) cs.length cs.length (cs.map bV):=by
 have hs:A.size=cs.length:=by rw[<-Array.length_toList,hA,Ju]
 refine⟨⟨by simp,.inr ⟨_,A,rfl,Blk.new w 5 A,JG _,hl,by omega,?_⟩⟩,Mod.alloc _ _,fun k hk=>by obtain⟨d,hd,rfl⟩:=hk;cases hd;exact JG _⟩;rw[hA,Ji (by rw[Ju];omega)]
theorem ZM.from_{w w0 w1:U}{e:Jg}{sz:Nat}{o:Option Addr}{l c:Nat}{xs:List JA}(h:ZM w0 w1 e sz o l c xs)(M:Vcg.Mod NoB w w0):ZM w w1 e sz o l c xs :=
 ⟨h.own,M.trans h.mod (fun _ _ h=>h),fun k hk=>Jy M.size (h.new k hk)⟩
theorem ZBz{w:U}{o:Option Addr}{k:Nat}{bs:List UInt8}(hr:RdB w o bs)(hl:bs.length<=2^30)(leaf:Bool) :
  JX J5 Z39.n #[.slice o bs.length k,J1 leaf] w (fun e w'=>∃o' k',e=J4 (Jz #[.slice o' (Z7K bs leaf).1.length k',.int JH (Z7K bs leaf).2])/\ZM w w' tU8 1 o' (Z7K bs leaf).1.length k' ((Z7K bs leaf).1.map bV)):=by
 refine Z9 fun R hR=>Z39.vc _ _ _ _ _ _ ?_;unfold Z39.Vc
 have bad:Z2c bs->R (J4 (Jz #[.slice O 0 0,.int JH 140])) w:=fun h=>by
  refine hR _ _ ⟨O,0,?_,?_⟩
  ·unfold Z7K;rw[if_pos h];rfl
  ·unfold Z7K;rw[if_pos h];exact ZM.nil (Mod.refl w) _ _
 refine⟨fun h=>bad (.inl (by omega)),fun h128=>?_⟩;refine(ZAc hr hl).mono ?_;rintro _ w1⟨rfl,n,rfl,hn⟩;refine⟨_,rfl,fun h=>bad (.inr (hn.1 h)),fun h16=>?_⟩
 have hgood:¬Z2c bs:=by
  rintro(h|h)
  ·omega
  ·exact h16 (hn.2 h)
 have hpk:Z7K bs leaf=(Z3L (headed bs leaf),0):=by unfold Z7K;rw[if_neg hgood]
 rw[hpk]at hR;refine⟨fun m w'=>m=((Z1E leaf).toNat:Int)/\w'=w1,⟨fun h=>⟨by rw[h];rfl,rfl⟩,fun h=>⟨by rw[h];rfl,rfl⟩⟩,?_⟩;rintro _ _ w7⟨rfl,rfl⟩;rintro d8 w9⟨rfl,rfl⟩;have hho:(Z1U bs leaf).length<=2:=by unfold Z1U;split<;>simp
 refine⟨fun o' l' k' w'=>∃k0,k'=k0/\l'=(Z1U bs leaf).length/\ZM w7 w' tU8 1 o' l' k' ((Z1U bs leaf).map bV),⟨fun hodd=>?_,fun hev=>?_⟩,?_⟩
 ·rintro d11 w12⟨rfl,rfl⟩
  have ho:bs.length%2=1:=by
   have:QC ((bs.length:Nat):Int) 2=((bs.length%2:Nat):Int):=rfl;omega
  have e:Z1U bs leaf=[Z1E leaf+1]:=by unfold Z1U;rw[if_pos ho]
  rw[e];have hw:V QA (((Z1E leaf).toNat:Int)+1)=((Z1E leaf+1).toNat:Int):=by cases leaf<;>decide
  rw[hw];exact⟨_,rfl,rfl,ZM.from_ (Z3l _ [Z1E leaf+1] _ rfl (by simp[Jh])) (Mod.alloc _ _)⟩
 ·have ho:¬bs.length%2=1:=by
    have:QC ((bs.length:Nat):Int) 2=((bs.length%2:Nat):Int):=rfl;omega
  have e:Z1U bs leaf=[Z1E leaf,0]:=by unfold Z1U;rw[if_neg ho]
  rw[e];exact⟨_,rfl,rfl,Z3l _ [Z1E leaf,0] _ rfl (by simp[Jh])⟩
 ·rintro o13 _ _ _ w14⟨c13,rfl,rfl,F14⟩
  obtain⟨o16,k16,w16,hr16,F16⟩:=ZW (ty:=Zy) (k2:=k) F14 (hr.mod' F14.mod) (by omega);rw[<-Z4r]at F16;have hlh:(Z1U bs leaf).length+bs.length=(headed bs leaf).length:=by rw[Z4r,G]
  rw[hlh]at hr16 F16;refine⟨_,w16,hr16,_,_,_,rfl,?_⟩;obtain⟨N,hN⟩:=Z4V bs leaf;have hrh:=Zj F16;generalize headed bs leaf=H at *
  refine⟨fun o' l' k' i w'=>∃j:Nat,i=((2*j:Nat):Int)/\j<=N/\l'=(Z3L (H.take (2*j))).length/\ZM w16 w' tU8 1 o' l' k' ((Z3L (H.take (2*j))).map bV),fun _ _ _ i _=>((H.length:Int)-i).toNat,
   ⟨0,rfl,JP _,rfl,ZM.nil (Mod.refl w16) _ _⟩,?_⟩
  rintro o' _ k' _ _ w23⟨j,rfl,hj,rfl,F⟩;refine⟨fun hlt=>?_,fun hge=>?_⟩
  ·rintro _ rfl
   have h1:2*j<H.length:=by omega
   have h2:2*j+1<H.length:=by omega
   have F24:=F.mod' (Mod.drew (S:=NoB) w23);obtain⟨b,f,rfl,hb,hc1⟩:=Z1S hrh h1;obtain⟨b',f',hb',_,hc2⟩:=Z1S hrh h2;cases hb';have e1:V JH (((2*j:Nat):Int)+1)=((2*j+1:Nat):Int):=by rw[Z0 (by omega) (by omega)];omega
   have e2:V JH (((2*j:Nat):Int)+2)=((2*(j+1):Nat):Int):=by rw[Z0 (by omega) (by omega)];omega
   rw[e1,e2];refine⟨_,rfl,by omega,_,by rw[Z2,Z];exact(ZK F24.mod hb (fun h=>h)).trans hc1,_,rfl,by omega,_,by rw[Z2,Z];exact(ZK F24.mod hb (fun h=>h)).trans hc2,?_⟩;rw[shl4,Z4M];rintro d29 w30⟨rfl,rfl⟩
   have htk:H.take (2*(j+1))=H.take (2*j)++[H[2*j],H[2*j+1]]:=by
    rw[show 2*(j+1)=2*j+1+1 by omega,JC,JC,K h1,K h2,J2];rfl
   have htl:(H.take (2*j)).length=2*j:=by rw[JE];omega
   have hps:=Z5X j (H.take (2*j)) H[2*j] H[2*j+1] htl;have hpl:=Z4z j (H.take (2*j)) htl
   have one:RdB (w23.drew.alloc (J6 #[.int QA ((H[2*j]<<<4|||H[2*j+1]).toNat:Int)] 5)) (E ⟨w23.drew.heap.size,0,O⟩) [H[2*j]<<<4|||H[2*j+1]] :=
    RdB.of_blk (Blk.new w23.drew 5 #[bV (H[2*j]<<<4|||H[2*j+1])]) (fun i hi=>by
     obtain rfl:i=0:=by simpa using hi
     rfl)
   obtain⟨o31,k31,w31,hr31,F31⟩:=ZW (ty:=Zy) (k2:=1) (F24.mod' (Mod.alloc _ _)) one (by simp;omega);refine⟨_,w31,hr31,_,_,_,rfl,⟨j+1,rfl,by omega,?_,?_⟩,by dsimp only;omega⟩
   ·rw[htk,hps,G]
   ·rw[htk,hps];exact F31
  ·obtain rfl:j=N:=by omega
   rw[Ji (by omega)]at F ⊢;exact hR _ _ ⟨_,_,rfl,ZM.from_ F F16.mod⟩
end Go.Proofs.YtfghidehlnfdiaaGreat
end
section
namespace Go.Trie
def digitsF:Nat->Nat->By
 |0,_=>[]
 |f+1,n=>if n=0 then[]else digitsF f (n/256)++[I n]
def Z24(n:Nat):By:=digitsF 8 n
def Z2X(n base:Nat):By:=if n<=55 then[I (base+n)]else I (base+55+(Z24 n).length)::Z24 n
def own:By->Bool
 |[a]=>decide (a<128)
 |_=>J7
mutual
def enc:It->By
 | .s b=>if own b then b else Z2X b.length 128++b
 | .l xs=>Z2X (Z1O xs).length 192++Z1O xs
def Z1O:List It->By
 |[]=>[]
 |x::r=>enc x++Z1O r
end
theorem Z7d:∀(f n:Nat),(digitsF f n).length<=f
 |0,_=>by simp[digitsF]
 |f+1,n=>by
  have:=Z7d f (n/256);simp only[digitsF];split
  ·simp
  ·rw[G];simp;omega
theorem Z3i(n:Nat):(Z24 n).length<=8:=Z7d 8 n
end Go.Trie
namespace Go.Proofs.YtfghidehlnfdiaaGreat
open Go Go.Vcg Go.Trie
theorem Z7C:Tryz.prog.underlying 5=E (.int QA):=by kernel_rfl
theorem ZAw:Tryz.prog.underlying 9=E .string:=by kernel_rfl
theorem Z4K{w:U}{o1 o2:Option Addr}{k1 k2:Nat}{a b:List UInt8}(h1:RdB w o1 a)(h2:RdB w o2 b) :
  JX J5 Z1l.n #[.slice o1 a.length k1,.slice o2 b.length k2] w (fun e w'=>e=J4 (J1 (decide (a=b)))/\w'=w):=by
 refine Z1l.vc _ _ _ _ _ _ _ _ ?_;unfold Z1l.Vc;refine⟨_,Z72 Zn Z7C ZAw h1,_,rfl,_,Z72 Zn Z7C ZAw h2,_,rfl,?_,rfl⟩;rw[Z2N]
theorem Z6O{w:U}{o1 o2:Option Addr}{k1 k2:Nat}{a b:List UInt8}(h1:RdB w o1 a)(hk:a.length<=k1)(h2:RdB w o2 b) :
  JX J5 Z0i.n #[.slice o1 a.length k1,.slice o2 b.length k2] w (fun e w'=>e=J4 (J1 (b.isPrefixOf a))/\w'=w):=by
 refine Z0i.vc _ _ _ _ _ _ _ _ ?_;unfold Z0i.Vc;refine⟨fun hge=>⟨by omega,?_⟩,fun hlt=>⟨?_,rfl⟩⟩
 ·rw[Z]
  have hl:(a.take b.length).length=b.length:=by rw[JE];omega
  have hc:=Z4K (k1:=k1) (k2:=k2) (h1.take b.length) h2;rw[hl]at hc;refine hc.mono ?_;rintro _ w'⟨rfl,rfl⟩;refine⟨_,rfl,?_,rfl⟩;congr 2;rw[Jv,decide_eq_true_eq,List.isPrefixOf_iff_prefix,List.prefix_iff_eq_take];exact⟨fun h=>h.symm,fun h=>h.symm⟩
 ·congr 2
  symm
  rw[Bool.eq_false_iff];intro h;have:=(List.isPrefixOf_iff_prefix.1 h).length_le;omega
theorem Z4x{w:U}{o:Option Addr}{k:Nat}{b:List UInt8}(h:RdB w o b) :
  JX J5 Z5b.n #[.slice o b.length k] w (fun e w'=>e=J4 (J1 (own b))/\w'=w):=by
 refine Z5b.vc _ _ _ _ _ ?_;unfold Z5b.Vc;refine⟨fun h1=>?_,fun h1=>⟨?_,rfl⟩⟩
 ·obtain⟨a,rfl⟩:∃a,b=[a]:=List.length_eq_one_iff.1 (by omega)
  obtain⟨B,f,rfl,hB,hc⟩:=Z1S h (i:=0) (by simp)
  have h2:a<128↔a.toNat<128:=by
   have:∀n:Fin 256,(JB n<128↔(JB n).toNat<128):=by decide +kernel
   exact this a.toFin
  have h3:decide ((a.toNat:Int)<128)=own [a]:=by
   show _=decide (a<128);rw[Jv,decide_eq_true_eq,decide_eq_true_eq,h2];omega
  rw[<-h3];exact⟨_,rfl,by omega,_,by rw[Z2];exact hc,rfl,rfl⟩
 ·have:own b=J7:=by
    unfold own;split
    ·simp at h1
    ·rfl
  rw[this]
theorem Z3K(w:U)(a:UInt8){n:Int}(hn:n=(a.toNat:Int)):ZM w (w.alloc (J6 #[.int QA n] 5)) tU8 1 (E ⟨w.heap.size,0,O⟩) 1 1 ([a].map bV):=by
 subst hn;exact Z3l w [a] #[bV a] rfl (by simp[Jh])
theorem Z1y(n:Nat):V QA (n:Int)=((I n).toNat:Int):=by
 rw[JO];show(n:Int)%256=_;omega
theorem Z9G{w:U}(N:Nat)(hN:N<2^63) :
  JX J5 Z2M.n #[.int .u64 (N:Int)] w (fun e w'=>∃o k,e=J4 (.slice o (Z24 N).length k)/\ZM w w' tU8 1 o (Z24 N).length k ((Z24 N).map bV)):=by
 refine Z2M.vc _ _ _ ?_;unfold Z2M.Vc
 refine⟨fun n o l k w'=>∃(f m:Nat)(row:By),n=(m:Int)/\m<256^f/\f<=8/\Z24 N=digitsF f m++row/\l=row.length/\ZM w w' tU8 1 o l k (row.map bV),fun n _ _ _ _=>n.toNat,
  ⟨8,N,[],rfl,by omega,JG _,by rw[JI];rfl,rfl,ZM.nil (Mod.refl w) _ _⟩,?_⟩
 rintro _ o _ k _ w1⟨f,m,row,rfl,hm,hf,hd,rfl,F⟩;have hlen:=Z3i N;rw[hd,G]at hlen;refine⟨fun hpos=>?_,fun hz=>?_⟩
 ·rintro d w2⟨rfl,rfl⟩
  cases f with
  |zero=>simp at hm;omega
  |succ g =>
   have hM:=Mod.alloc (S:=NoB) w1 (J6 #[.int QA (V QA (m:Int))] 5);have F1:=Z3K w1 (I m) (n:=V QA (m:Int)) (Z1y m);obtain⟨o3,k3,w3,hr3,F3⟩:=ZW (ty:=Zy) (k2:=k) F1 ((Zj F).mod' hM) (by omega)
   have hstep:digitsF (g+1) m=digitsF g (m/256)++[I m]:=by
    simp only[digitsF];rw[if_neg (by omega)]
   have hfd:Q6 (m:Int) 256=((m/256:Nat):Int):=by
    rw[Int.fdiv_eq_ediv_of_nonneg _ (by omega)];omega
   rw[hfd];refine⟨_,w3,hr3,_,_,_,rfl,⟨g,m/256,I m::row,rfl,?_,by omega,?_,?_,?_⟩,?_⟩
   ·rw[Jr]at hm
    exact Nat.div_lt_of_lt_mul (by rw[Q0];exact hm)
   ·rw[hd,hstep,J2];rfl
   ·simp;omega
   ·exact ZM.from_ F3 F.mod
   ·dsimp only;omega
 ·have hm0:m=0:=by omega
  subst hm0;have h0:digitsF f 0=[]:=by cases f<;>simp[digitsF]
  rw[h0,JW]at hd;rw[hd];exact⟨_,_,rfl,F⟩
theorem Z44{w:U}(n base:Nat)(hn:n<2^31)(hb:base<=192) :
  JX J5 Z47.n #[.int JH (n:Int),.int JH (base:Int)] w (fun e w'=>∃o k,e=J4 (.slice o (Trie.Z2X n base).length k)/\ZM w w' tU8 1 o (Trie.Z2X n base).length k ((Trie.Z2X n base).map bV)):=by
 refine Z47.vc _ _ _ _ ?_;unfold Z47.Vc;refine⟨fun hs=>?_,fun hs=>?_⟩
 ·rintro d w2⟨rfl,rfl⟩
  have e:Trie.Z2X n base=[I (base+n)]:=by unfold Trie.Z2X;rw[if_pos (by omega)]
  have ew:V JH ((base:Int)+(n:Int))=((base+n:Nat):Int):=by rw[Z0 (by omega) (by omega)];omega
  rw[e,ew];exact⟨_,_,rfl,Z3K w _ (Z1y _)⟩
 ·have e:Trie.Z2X n base=I (base+55+(Z24 n).length)::Z24 n:=by unfold Trie.Z2X;rw[if_neg (by omega)]
  have ew:V .u64 (n:Int)=(n:Int):=by
   show(n:Int)%18446744073709551616=_;omega
  rw[ew];refine(Z9G n (by omega)).mono ?_;rintro _ w2⟨o,k,rfl,F⟩;have hdl:=Z3i n;refine⟨_,_,_,rfl,?_⟩;rintro d w3⟨rfl,rfl⟩
  have ew2:V JH (V JH ((base:Int)+55)+(((Z24 n).length:Nat):Int))=((base+55+(Z24 n).length:Nat):Int):=by
   rw[Z0 (n:=(base:Int)+55) (by omega) (by omega),Z0 (by omega) (by omega)];omega
  rw[ew2];obtain⟨o4,k4,w4,hr4,F4⟩:=ZW (ty:=Zy) (k2:=k) (Z3K w2 _ (Z1y (base+55+(Z24 n).length))) ((Zj F).mod' (Mod.alloc _ _)) (by omega);refine⟨_,w4,hr4,_,_,_,rfl,o4,k4,?_,?_⟩
  ·rw[e,J,Q4]
  ·rw[e,J,Q4]
   exact ZM.from_ F4 F.mod
end Go.Proofs.YtfghidehlnfdiaaGreat
end
section
namespace Go.Proofs.YtfghidehlnfdiaaGreat
open Go Go.Vcg Go.Trie
abbrev ZEH:Jg:=111
abbrev ZFI:Jg:=109
theorem Z89:Tryz.prog.underlying ZFI=E (.slice ZEH):=by kernel_rfl
theorem ZCt:(Tryz.prog.info? ZEH).map (fun i=>(i.zero,i.size,i.bytes))=E (E (QB #[J1 J7,.slice O 0 0,.slice O 0 0]),3,56):=by kernel_rfl
mutual
def ItC(A:Nat->Prop)(w:U):It->JA->JA->JA->Prop
 | .s b,v1,v2,v3=>v1=J1 J7/\(∃o c,v2=.slice o b.length c/\RdB w o b/\(b≠[]->∀d,o=E d->¬A d.block))/\v3=.slice O 0 0
 | .l xs,v1,v2,v3=>v1=J1 Jc/\v2=.slice O 0 0/\∃o c,v3=.slice o xs.length c/\Z1I A w xs o 0/\xs.length<=c
def Z1I(A:Nat->Prop)(w:U):List It->Option Addr->Nat->Prop
 |[],_,_=>True
 |x::r,o,k=>(∃b f v1 v2 v3,o=E ⟨b,f,O⟩/\b<w.heap.size/\¬A b/\w.cell? ⟨b,f+k*3,O⟩=E v1/\w.cell? ⟨b,f+k*3+1,O⟩=E v2/\w.cell? ⟨b,f+k*3+2,O⟩=E v3/\ItC A w x v1 v2 v3)/\Z1I A w r o (k+1)
end
section
variable{A:Nat->Prop}
mutual
theorem ItC.modA{S:Nat->Prop}{w w':U}(M:Vcg.Mod S w w')(hS:∀b,S b->A b):∀(x:It) {v1 v2 v3:JA},ItC A w x v1 v2 v3->ItC A w' x v1 v2 v3
 | .s b,_,_,_,h=>by
   simp only[ItC]at h ⊢;obtain⟨h1,⟨o,c,h2,h3,h5⟩,h4⟩:=h;refine⟨h1,⟨o,c,h2,?_,h5⟩,h4⟩;intro hne;obtain⟨d,f,ho,hd,hc⟩:=h3 hne;exact⟨d,f,ho,JZ hd M.size,fun i hi=>(ZK M hd (fun hh=>h5 hne _ ho (hS _ hh))).trans (hc i hi)⟩
 | .l xs,_,_,_,h=>by
   simp only[ItC]at h ⊢;obtain⟨h1,h2,o,c,h3,h4,h5⟩:=h;exact⟨h1,h2,o,c,h3,Z1I.modA M hS xs h4,h5⟩
theorem Z1I.modA{S:Nat->Prop}{w w':U}(M:Vcg.Mod S w w')(hS:∀b,S b->A b):∀(xs:List It) {o:Option Addr} {k:Nat},Z1I A w xs o k->Z1I A w' xs o k
 |[],_,_,_=>by simp only[Z1I]
 |x::r,_,_,h=>by
  simp only[Z1I]at h ⊢;obtain⟨⟨b,f,v1,v2,v3,ho,hb,hA,h1,h2,h3,h4⟩,h5⟩:=h;exact⟨⟨b,f,v1,v2,v3,ho,JZ hb M.size,hA,(ZK M hb (fun h=>hA (hS _ h))).trans h1,(ZK M hb (fun h=>hA (hS _ h))).trans h2,(ZK M hb (fun h=>hA (hS _ h))).trans h3,ItC.modA M hS x h4⟩,Z1I.modA M hS r h5⟩
end
theorem ItC.mod{w w':U}(M:Vcg.Mod NoB w w')(x:It){v1 v2 v3:JA}(h:ItC A w x v1 v2 v3):ItC A w' x v1 v2 v3:=ItC.modA M (fun _ h=>h.elim) x h
theorem Z1I.mod{w w':U}(M:Vcg.Mod NoB w w')(xs:List It){o:Option Addr}{k:Nat}(h:Z1I A w xs o k):Z1I A w' xs o k:=Z1I.modA M (fun _ h=>h.elim) xs h
mutual
theorem ItC.mono{A':Nat->Prop}{w:U}(hA:∀b,A' b->A b):∀(x:It) {v1 v2 v3:JA},ItC A w x v1 v2 v3->ItC A' w x v1 v2 v3
 | .s b,_,_,_,h=>by
   simp only[ItC]at h ⊢;obtain⟨h1,⟨o,c,h2,h3,h5⟩,h4⟩:=h;exact⟨h1,⟨o,c,h2,h3,fun hne d hd hh=>h5 hne d hd (hA _ hh)⟩,h4⟩
 | .l xs,_,_,_,h=>by
   simp only[ItC]at h ⊢;obtain⟨h1,h2,o,c,h3,h4,h5⟩:=h;exact⟨h1,h2,o,c,h3,Z1I.mono hA xs h4,h5⟩
theorem Z1I.mono{A':Nat->Prop}{w:U}(hA:∀b,A' b->A b):∀(xs:List It) {o:Option Addr} {k:Nat},Z1I A w xs o k->Z1I A' w xs o k
 |[],_,_,_=>by simp only[Z1I]
 |x::r,_,_,h=>by
  simp only[Z1I]at h ⊢;obtain⟨⟨b,f,v1,v2,v3,ho,hb,hB,h1,h2,h3,h4⟩,h5⟩:=h;exact⟨⟨b,f,v1,v2,v3,ho,hb,fun hh=>hB (hA _ hh),h1,h2,h3,ItC.mono hA x h4⟩,Z1I.mono hA r h5⟩
end
theorem Z1I.get{w:U}:∀{xs:List It} {o:Option Addr} {k:Nat},Z1I A w xs o k->∀(j:Nat) (hj:j<xs.length),∃b f v1 v2 v3,o=E ⟨b,f,O⟩/\b<w.heap.size/\w.cell? ⟨b,f+(k+j)*3,O⟩=E v1/\w.cell? ⟨b,f+(k+j)*3+1,O⟩=E v2/\w.cell? ⟨b,f+(k+j)*3+2,O⟩=E v3/\ItC A w xs[j] v1 v2 v3
 |x::r,o,k,h,0,_=>by
  simp only[Z1I]at h;obtain⟨⟨b,f,v1,v2,v3,ho,hb,hB,hr⟩,_⟩:=h;exact⟨b,f,v1,v2,v3,ho,hb,hr⟩
 |x::r,o,k,h,j+1,hj=>by
  simp only[Z1I]at h;have:=h.2.get j (by simpa using hj);rw[show k+1+j=k+(j+1) by omega]at this;exact this
theorem ItC.vals{w:U}{x:It}{v1 v2 v3:JA}(h:ItC A w x v1 v2 v3):∃b o1 l1 c1 o2 l2 c2,v1=J1 b/\v2=.slice o1 l1 c1/\v3=.slice o2 l2 c2:=by
 cases x with
 |s b =>
  simp only[ItC]at h;obtain⟨h1,⟨o,c,h2,h3⟩,h4⟩:=h;exact⟨_,_,_,_,_,_,_,h1,h2,h4⟩
 |l xs =>
  simp only[ItC]at h;obtain⟨h1,h2,o,c,h3,h4⟩:=h;exact⟨_,_,_,_,_,_,_,h1,h2,h3⟩
theorem encs_append:∀(xs ys:List It),Z1O (xs++ys)=Z1O xs++Z1O ys
 |[],ys=>by simp only[Z1O,JW]
 |x::r,ys=>by simp only[Z1O,JM,encs_append r ys,J2]
theorem Z1T(xs:List It)(j:Nat):(Z1O (xs.take j)).length<=(Z1O xs).length:=by
 have:=congrArg Js (congrArg Z1O (JK j xs));rw[encs_append,G]at this;omega
theorem Z4q(n b:Nat):1<=(Trie.Z2X n b).length/\(Trie.Z2X n b).length<=9:=by
 have:=Z3i n;unfold Trie.Z2X;split<;>simp<;>omega
theorem Z9m:∀(x:It) {w:U} {b:Bool} {o1:Option Addr} {l1 c1:Nat} {o2:Option Addr} {l2 c2:Nat},ItC A w x (J1 b) (.slice o1 l1 c1) (.slice o2 l2 c2)->(enc x).length<=2^20 ->
  JX J5 Z3R.n #[QB #[J1 b,.slice o1 l1 c1,.slice o2 l2 c2]] w (fun e w'=>∃o k,e=J4 (.slice o (enc x).length k)/\ZM w w' tU8 1 o (enc x).length k ((enc x).map bV))
 | .s bs,w,b,o1,l1,c1,o2,l2,c2,h,hlen=>by
   simp only[ItC,JU,JR]at h;obtain⟨rfl,⟨o,c,⟨rfl,rfl,rfl⟩,hr,_⟩,rfl,rfl,rfl⟩:=h;refine Z9 fun R hR=>Z3R.vc _ _ _ _ _ _ _ _ _ ?_;unfold Z3R.Vc;rintro d w1⟨rfl,rfl⟩;have X:=Blk.new w 111 #[J1 J7,.slice o1 bs.length c1,.slice O 0 0];have M:=Mod.alloc (S:=NoB) w (J6 #[J1 J7,.slice o1 bs.length c1,.slice O 0 0] 111);have hr1:=hr.mod' M;generalize w.alloc (J6 #[J1 J7,.slice o1 bs.length c1,.slice O 0 0] 111)=w1 at *
   simp only[Z2,T];refine⟨_,X.rd1 rfl,fun _=>⟨_,_,_,X.rd1 rfl,?_⟩,fun h=>by cases h⟩;refine(Z4x hr1).mono ?_;rintro _ w2⟨rfl,rfl⟩;simp only[enc]at hlen hR;refine⟨_,rfl,fun ho=>⟨_,_,_,X.rd1 rfl,?_⟩,fun ho=>?_⟩
   ·rw[if_pos ho]at hR hlen
    refine(Z3B hr1 (by omega)).mono ?_;rintro _ w3⟨o3,k3,rfl,F3⟩;exact⟨_,_,_,rfl,hR _ _ ⟨o3,k3,rfl,ZM.from_ F3 M⟩⟩
   ·rw[if_neg (by rw[ho];simp),G]at hlen
    rw[if_neg (by rw[ho];simp)]at hR;rintro _ rfl;have MD:=M.step_drew;have X2:=X.mod' (Mod.drew (S:=NoB) w2);have hr2:=hr1.mod' (Mod.drew (S:=NoB) w2);generalize w2.drew=w3 at *
    refine⟨_,_,_,X2.rd1 rfl,_,_,_,X2.rd1 rfl,?_⟩;refine(Z44 bs.length 128 (by omega) (by omega)).mono ?_;rintro _ w4⟨o4,k4,rfl,F4⟩;obtain⟨o5,k5,w5,hr5,F5⟩:=ZW (ty:=Zy) (k2:=c1) F4 (hr2.mod' F4.mod) (by omega);refine⟨_,_,_,rfl,(X2.mod' F4.mod).rd1 rfl,_,w5,hr5,_,_,_,rfl,hR _ _ ⟨o5,k5,?_,?_⟩⟩
    ·rw[G]
    ·rw[G];exact ZM.from_ F5 MD
 | .l xs,w,b,o1,l1,c1,o2,l2,c2,h,hlen=>by
   have ih:∀y∈xs,∀{w:U}{b:Bool}{o1:Option Addr}{l1 c1:Nat}{o2:Option Addr}{l2 c2:Nat},ItC A w y (J1 b) (.slice o1 l1 c1) (.slice o2 l2 c2)->(enc y).length<=2^20 ->
    JX J5 Z3R.n #[QB #[J1 b,.slice o1 l1 c1,.slice o2 l2 c2]] w (fun e w'=>∃o k,e=J4 (.slice o (enc y).length k)/\ZM w w' tU8 1 o (enc y).length k ((enc y).map bV)) :=
    fun y hy=>Z9m y
   simp only[ItC,JU,JR]at h;obtain⟨rfl,⟨rfl,rfl,rfl⟩,o,c,⟨rfl,rfl,rfl⟩,hI,hcc⟩:=h;clear hcc;refine Z9 fun R hR=>Z3R.vc _ _ _ _ _ _ _ _ _ ?_;unfold Z3R.Vc;rintro d w1⟨rfl,rfl⟩;have X:=Blk.new w 111 #[J1 Jc,.slice O 0 0,.slice o2 xs.length c2];have M:=Mod.alloc (S:=NoB) w (J6 #[J1 Jc,.slice O 0 0,.slice o2 xs.length c2] 111);have hI1:=Z1I.mod M xs hI;generalize w.alloc (J6 #[J1 Jc,.slice O 0 0,.slice o2 xs.length c2] 111)=w1 at *
   simp only[Z2,T];simp only[enc,G]at hlen;simp only[enc]at hR;refine⟨_,X.rd1 rfl,fun h=>(by cases h),fun _=>⟨_,_,_,X.rd1 rfl,?_⟩⟩
   refine⟨fun o' l' k' i w'=>∃j:Nat,i=(j:Int)/\j<=xs.length/\l'=(Z1O (xs.take j)).length/\ZM w1 w' tU8 1 o' l' k' ((Z1O (xs.take j)).map bV),fun _ _ _ i _=>((xs.length:Int)-i).toNat,
    ⟨0,rfl,JP _,by rw[JS];simp only[Z1O];rfl,by rw[JS];simp only[Z1O];exact ZM.nil (Mod.refl w1) _ _⟩,?_⟩
   have hxl:xs.length<=(Z1O xs).length:=by
    clear hI hI1 hlen hR ih X M
    induction xs with
    |nil=>simp
    |cons x r ihr =>
     have:1<=(enc x).length:=by
      cases x with
      |s b =>
       simp only[enc];split
       ·rename_i ho
        cases b with
        |nil=>simp[own]at ho
        |cons a r=>simp
       ·rw[G];have:=(Z4q b.length 128).1;omega
      |l ys=>simp only[enc,G];have:=(Z4q (Z1O ys).length 192).1;omega
     simp only[Z1O,G,J];omega
   rintro o' _ k' _ _ w2⟨j,rfl,hj,rfl,F⟩;have hjle:=Z1T xs j;refine⟨fun hlt=>?_,fun hge=>?_⟩
   ·have hjl:j<xs.length:=by omega
    obtain⟨B,f,v1,v2,v3,rfl,hB,h1,h2,h3,hx⟩:=(Z1I.mod F.mod xs hI1).get j hjl;obtain⟨b,p1,q1,r1,p2,q2,r2,rfl,rfl,rfl⟩:=hx.vals
    have htk:Z1O (xs.take (j+1))=Z1O (xs.take j)++enc xs[j]:=by
     rw[JC,K hjl,encs_append];show _++Z1O [xs[j]]=_;simp only[Z1O,JI]
    have hle2:=Z1T xs (j+1);rw[htk,G]at hle2;rw[T]at h1 h2 h3;have ew:V JH ((j:Int)+1)=((j+1:Nat):Int):=by rw[Z0 (by omega) (by omega)];omega
    rw[ew];refine⟨_,rfl,by omega,_,_,_,_,_,_,_,by rw[Z2,Z];exact h1,by rw[Z2,Z2,Z];exact h2,by rw[Z2,Z2,Z];exact h3,?_⟩;rintro d w3⟨rfl,rfl⟩;have Y:=Blk.new w2 111 #[J1 J7,.slice O 0 0,.slice O 0 0];have N:=Mod.alloc (S:=NoB) w2 (J6 #[J1 J7,.slice O 0 0,.slice O 0 0] 111);simp only[Z2,T];refine⟨Y.canSet (by simp) rfl,?_⟩;rintro _ rfl;have Y1:=Y.set 0 (J1 b);have N1:=N.step_set (a:=⟨w2.heap.size,0,O⟩) (v:=J1 b) (fun h=>(JN _ h).elim);refine⟨Y1.canSet (by simp) rfl,?_⟩;rintro _ rfl;have Y2:=Y1.set 1 (.slice p1 q1 r1);have N2:=N1.step_set (a:=⟨w2.heap.size,1,O⟩) (v:=.slice p1 q1 r1) (fun h=>(JN _ h).elim);refine⟨Y2.canSet (by simp) rfl,?_⟩;rintro _ rfl;have Y3:=Y2.set 2 (.slice p2 q2 r2);have N3:=N2.step_set (a:=⟨w2.heap.size,2,O⟩) (v:=.slice p2 q2 r2) (fun h=>(JN _ h).elim);refine⟨_,_,_,_,_,_,_,Y3.rd1 rfl,Y3.rd1 rfl,Y3.rd1 rfl,?_⟩;refine(ih _ (Je hjl) (ItC.mod N3 _ hx) (by omega)).mono ?_;rintro _ w4⟨o4,k4,rfl,F4⟩;obtain⟨o5,k5,w5,hr5,F5⟩:=ZW (ty:=Zy) (k2:=k4) ((F.mod' N3).mod' F4.mod) (Zj F4) (by omega);refine⟨_,_,_,rfl,_,w5,hr5,_,_,_,rfl,⟨j+1,rfl,hjl,?_,?_⟩,by omega⟩
    ·rw[htk,G]
    ·rw[htk];exact F5
   ·obtain rfl:j=xs.length:=by omega
    rw[JF]at F ⊢;refine(Z44 (Z1O xs).length 192 (by omega) (by omega)).mono ?_;rintro _ w4⟨o4,k4,rfl,F4⟩;have hhl:=(Z4q (Z1O xs).length 192).2;obtain⟨o5,k5,w5,hr5,F5⟩:=ZW (ty:=Zy) (k2:=k') F4 ((Zj F).mod' F4.mod) (by omega);refine⟨_,_,_,rfl,_,w5,hr5,_,_,_,rfl,hR _ _ ⟨o5,k5,?_,?_⟩⟩
    ·rw[G]
    ·rw[G]
     exact ZM.from_ (ZM.from_ F5 F.mod) M
 termination_by x=>SizeOf.sizeOf x
 decreasing_by
  have:=Jk hy;simp;omega
end
end Go.Proofs.YtfghidehlnfdiaaGreat
end
section
namespace Go.Trie
mutual
def count:It->Nat
 | .s _=>1
 | .l xs=>1+Z0T xs
def Z0T:List It->Nat
 |[]=>0
 |x::r=>count x+Z0T r
end
mutual
def dep:It->Nat
 | .s _=>1
 | .l xs=>1+ZEV xs
def ZEV:List It->Nat
 |[]=>0
 |x::r=>max (dep x) (ZEV r)
end
theorem Z3G:∀(xs ys:List It),Z0T (xs++ys)=Z0T xs+Z0T ys
 |[],ys=>by simp only[Z0T,JW,T]
 |x::r,ys=>by simp only[Z0T,JM,Z3G r ys,Nat.add_assoc]
theorem Z4F(xs:List It)(j:Nat):Z0T (xs.take j)<=Z0T xs:=by
 have:=congrArg Z0T (JK j xs);rw[Z3G]at this;omega
theorem Z5N:∀{xs:List It} {x:It},x∈xs->dep x<=ZEV xs
 |y::r,x,h=>by
  simp only[ZEV];rcases List.mem_cons.1 h with rfl|h
  ·omega
  ·have:=Z5N h;omega
theorem ZCi(x:It):1<=count x:=by cases x<;>simp only[count]<;>omega
theorem ZAP(x:It):1<=dep x:=by cases x<;>simp only[dep]<;>omega
theorem Z5M:∀(xs:List It),xs.length<=Z0T xs
 |[]=>JP _
 |x::r=>by
  have h1:=Z5M r;have h2:=ZCi x;simp only[Z0T,J];omega
theorem Z9X(n b c:Nat):(Z2X n b).length=(Z2X n c).length:=by unfold Z2X;split<;>simp
end Go.Trie
namespace Go.Proofs.YtfghidehlnfdiaaGreat
open Go Go.Vcg Go.Trie
section
variable{A:Nat->Prop}
theorem Z4Z{w:U}{D n depth:Nat}(W:Blk w D 217 #[.int JH (n:Int)])(hd:depth<=16)(hn:n<4096) :
  JX J5 Zc.n #[.pointer (E ⟨D,0,O⟩),.int JH (depth:Int)] w (fun e w'=>e=J4 (.int JH 0)/\Vcg.Mod (·=D) w w'/\Blk w' D 217 #[.int JH ((n+1:Nat):Int)]):=by
 refine Zc.vc _ _ _ _ ?_;unfold Zc.Vc;refine⟨fun h=>by omega,fun _=>⟨_,W.rd1 rfl,fun h=>by omega,fun _=>⟨_,W.rd1 rfl,W.canSet (by simp) rfl,?_⟩⟩⟩;rintro _ rfl;have ew:V JH ((n:Int)+1)=((n+1:Nat):Int):=by rw[Z0 (by omega) (by omega)];omega
 rw[ew];exact⟨rfl,Mod.setCell w ⟨D,0,O⟩ _,W.set 0 _⟩
theorem ZC{w0 w w':U}{D:Nat}(M:Vcg.Mod NoB w0 w)(h:Vcg.Mod (·=D) w w')(hD:w0.heap.size<=D):Vcg.Mod NoB w0 w' :=
 M.trans h (fun i hi e=>by subst e;omega)
theorem Z84:∀(x:It) {w0 w:U} {b:Bool} {o1:Option Addr} {l1 c1:Nat} {o2:Option Addr} {l2 c2:Nat} {D n depth:Nat},ItC A w0 x (J1 b) (.slice o1 l1 c1) (.slice o2 l2 c2)->Vcg.Mod NoB w0 w->w0.heap.size<=D->Blk w D 217 #[.int JH (n:Int)]->depth+dep x<=17->n+count x<=4096->(enc x).length<=2^20 ->
  JX J5 Zm.n #[.pointer (E ⟨D,0,O⟩),QB #[J1 b,.slice o1 l1 c1,.slice o2 l2 c2],.int JH (depth:Int)] w (fun e w'=>e=J4 (Jz #[.int JH (((enc x).length:Nat):Int),.int JH 0])/\Vcg.Mod (·=D) w w'/\Blk w' D 217 #[.int JH ((n+count x:Nat):Int)])
 | .s bs,w0,w,b,o1,l1,c1,o2,l2,c2,D,n,depth,h,M,hD,W,hdp,hn,hlen=>by
   simp only[ItC,JU,JR]at h;obtain⟨rfl,⟨o,c,⟨rfl,rfl,rfl⟩,hr,_⟩,rfl,rfl,rfl⟩:=h;simp only[dep,count]at hdp hn ⊢;refine Z9 fun R hR=>Zm.vc _ _ _ _ _ _ _ _ _ _ _ ?_;unfold Zm.Vc;rintro d w1⟨rfl,rfl⟩;have X:=Blk.new w 111 #[J1 J7,.slice o1 bs.length c1,.slice O 0 0];have M1:=Mod.alloc (S:=(·=D)) w (J6 #[J1 J7,.slice o1 bs.length c1,.slice O 0 0] 111);have W1:=W.alloc (J6 #[J1 J7,.slice o1 bs.length c1,.slice O 0 0] 111);have hne:w.heap.size≠D:=by have:=W.lt;omega
   generalize w.alloc (J6 #[J1 J7,.slice o1 bs.length c1,.slice O 0 0] 111)=w1 at *
   generalize w.heap.size=N at *
   refine(Z4Z W1 (by omega) (by omega)).mono ?_;rintro _ w2⟨rfl,M2,W2⟩;have X2:=X.mod M2 hne;have M02:=M1.trans M2 (fun _ _ h=>h);have hr2:=hr.mod' (ZC M M02 hD);refine⟨_,rfl,fun h=>(h rfl).elim,fun _=>?_⟩;simp only[Z2,T];simp only[enc]at hlen hR;refine⟨fun w'=>w'=w2/\own bs=J7,⟨fun b w'=>b=J7/\w'=w2,⟨_,X2.rd1 rfl,fun h=>(by cases h),fun _=>⟨_,X2.rd1 rfl,fun _=>⟨_,_,_,X2.rd1 rfl,by simp,rfl⟩,fun h=>by cases h⟩⟩,?_⟩,?_⟩
   ·rintro _ _ _⟨rfl,rfl⟩
    refine⟨fun h=>(by cases h),fun _=>⟨_,_,_,X2.rd1 rfl,?_⟩⟩;refine(Z4x hr2).mono ?_;rintro _ w3⟨rfl,rfl⟩;refine⟨_,rfl,fun ho=>?_,fun ho=>⟨rfl,ho⟩⟩;rw[if_pos ho]at hR
    have hl1:bs.length=1:=by
     cases bs with
     |nil=>simp[own]at ho
     |cons a r=>cases r with
      |nil=>rfl
      |cons b r=>simp[own]at ho
    exact hR _ _ ⟨by rw[hl1];rfl,M02,W2⟩
   ·rintro _ w2⟨rfl,ho⟩
    rw[if_neg (by rw[ho];simp),G]at hR hlen;refine⟨_,_,_,X2.rd1 rfl,_,_,_,X2.rd1 rfl,?_⟩;refine⟨fun a i w'=>a=((bs.length:Nat):Int)/\i=0/\w'=w2,fun _ _ _=>0,⟨rfl,rfl,rfl⟩,?_⟩;rintro _ _ _ _⟨rfl,rfl,rfl⟩;refine⟨fun h=>absurd h (by simp),fun _=>?_⟩;refine(Z44 bs.length 0 (by omega) (by omega)).mono ?_;rintro _ w4⟨o4,k4,rfl,F4⟩;refine⟨_,_,_,rfl,hR _ _ ⟨?_,M02.trans (F4.mod.mono (fun _ _ h=>h.elim)) (fun _ _ h=>h),W2.mod' F4.mod⟩⟩;have hb:=Z9X bs.length 0 128
    have ew:V JH (((bs.length:Nat):Int)+(((Trie.Z2X bs.length 0).length:Nat):Int))=(((Trie.Z2X bs.length 128).length+bs.length:Nat):Int):=by
     rw[hb,Z0 (by omega) (by omega)];omega
    rw[ew]
 | .l xs,w0,w,b,o1,l1,c1,o2,l2,c2,D,n,depth,h,M,hD,W,hdp,hn,hlen=>by
   have ih:∀y∈xs,∀{w0 w:U}{b:Bool}{o1:Option Addr}{l1 c1:Nat}{o2:Option Addr}{l2 c2:Nat}{D n depth:Nat},ItC A w0 y (J1 b) (.slice o1 l1 c1) (.slice o2 l2 c2)->Vcg.Mod NoB w0 w->w0.heap.size<=D->Blk w D 217 #[.int JH (n:Int)]->depth+dep y<=17->n+count y<=4096->(enc y).length<=2^20 ->
    JX J5 Zm.n #[.pointer (E ⟨D,0,O⟩),QB #[J1 b,.slice o1 l1 c1,.slice o2 l2 c2],.int JH (depth:Int)] w (fun e w'=>e=J4 (Jz #[.int JH (((enc y).length:Nat):Int),.int JH 0])/\Vcg.Mod (·=D) w w'/\Blk w' D 217 #[.int JH ((n+count y:Nat):Int)]) :=
    fun y hy=>Z84 y
   simp only[ItC,JU,JR]at h;obtain⟨rfl,⟨rfl,rfl,rfl⟩,o,c,⟨rfl,rfl,rfl⟩,hI,hcc⟩:=h;clear hcc;simp only[dep,count]at hdp hn ⊢;refine Z9 fun R hR=>Zm.vc _ _ _ _ _ _ _ _ _ _ _ ?_;unfold Zm.Vc;rintro d w1⟨rfl,rfl⟩;have X:=Blk.new w 111 #[J1 Jc,.slice O 0 0,.slice o2 xs.length c2];have M1:=Mod.alloc (S:=(·=D)) w (J6 #[J1 Jc,.slice O 0 0,.slice o2 xs.length c2] 111);have W1:=W.alloc (J6 #[J1 Jc,.slice O 0 0,.slice o2 xs.length c2] 111);have hne:w.heap.size≠D:=by have:=W.lt;omega
   generalize w.alloc (J6 #[J1 Jc,.slice O 0 0,.slice o2 xs.length c2] 111)=w1 at *
   generalize w.heap.size=N at *
   refine(Z4Z W1 (by omega) (by omega)).mono ?_;rintro _ w2⟨rfl,M2,W2⟩;have X2:=X.mod M2 hne;have M02:=M1.trans M2 (fun _ _ h=>h);refine⟨_,rfl,fun h=>(h rfl).elim,fun _=>?_⟩;simp only[Z2,T];simp only[enc,G]at hlen hR;refine⟨fun w'=>w'=w2,⟨fun b w'=>b=J7/\w'=w2,⟨_,X2.rd1 rfl,fun _=>⟨_,_,_,X2.rd1 rfl,fun h=>absurd h (by simp),fun _=>⟨_,X2.rd1 rfl,fun h=>(by cases h),fun _=>⟨rfl,rfl⟩⟩⟩,fun h=>by cases h⟩,?_⟩,?_⟩
   ·rintro _ _ _⟨rfl,rfl⟩
    refine⟨fun h=>(by cases h),fun _=>⟨_,_,_,X2.rd1 rfl,?_⟩⟩;refine(Z4x (b:=[]) (RdB.nil _ _)).mono ?_;rintro _ w3⟨rfl,rfl⟩;exact⟨_,rfl,fun ho=>(by simp[own]at ho),fun _=>rfl⟩
   ·rintro _ w2 rfl
    refine⟨_,_,_,X2.rd1 rfl,_,_,_,X2.rd1 rfl,?_⟩
    refine⟨fun a i w'=>∃j:Nat,i=(j:Int)/\j<=xs.length/\a=(((Z1O (xs.take j)).length:Nat):Int)/\Vcg.Mod (·=D) w w'/\Blk w' D 217 #[.int JH ((n+1+Z0T (xs.take j):Nat):Int)],fun _ i _=>((xs.length:Int)-i).toNat,
     ⟨0,rfl,JP _,by rw[JS];simp only[Z1O];rfl,M02,by rw[JS];simp only[Z0T];exact W2⟩,?_⟩
    have hcl:=Z5M xs;rintro _ _ _ w4⟨j,rfl,hj,rfl,M4,W4⟩;have hle1:=Z1T xs j;refine⟨fun hlt=>?_,fun hge=>?_⟩
    ·have hjl:j<xs.length:=by omega
     have M04:=ZC M M4 hD;obtain⟨B,f,v1,v2,v3,rfl,hB,h1,h2,h3,hx⟩:=hI.get j hjl;obtain⟨b,p1,q1,r1,p2,q2,r2,rfl,rfl,rfl⟩:=hx.vals;have htk:xs.take (j+1)=xs.take j++[xs[j]]:=by rw[JC,K hjl];rfl
     have he:Z1O (xs.take (j+1))=Z1O (xs.take j)++enc xs[j]:=by rw[htk,encs_append];simp only[Z1O,JI]
     have hcn:Z0T (xs.take (j+1))=Z0T (xs.take j)+count xs[j]:=by rw[htk,Z3G];simp only[Z0T,Jf]
     have hle2:=Z1T xs (j+1);have hc2:=Z4F xs (j+1);have hdm:=Z5N (Je hjl);rw[he,G]at hle2;rw[hcn]at hc2;rw[T]at h1 h2 h3;have cl:∀i,w4.cell? ⟨B,i,O⟩=w0.cell? ⟨B,i,O⟩:=fun i=>ZK M04 hB (fun h=>h);have ew:V JH ((j:Int)+1)=((j+1:Nat):Int):=by rw[Z0 (by omega) (by omega)];omega
     have ew2:V JH ((depth:Int)+1)=((depth+1:Nat):Int):=by rw[Z0 (by omega) (by omega)];omega
     rw[ew,ew2];refine⟨_,rfl,by omega,_,_,_,_,_,_,_,by rw[Z2,Z];exact(cl _).trans h1,by rw[Z2,Z2,Z];exact(cl _).trans h2,by rw[Z2,Z2,Z];exact(cl _).trans h3,?_⟩;rintro d w5⟨rfl,rfl⟩;have Y:=Blk.new w4 111 #[J1 J7,.slice O 0 0,.slice O 0 0];have Q:=Mod.alloc (S:=NoB) w4 (J6 #[J1 J7,.slice O 0 0,.slice O 0 0] 111);simp only[Z2,T];refine⟨Y.canSet (by simp) rfl,?_⟩;rintro _ rfl;have Y1:=Y.set 0 (J1 b);have Q1:=Q.step_set (a:=⟨w4.heap.size,0,O⟩) (v:=J1 b) (fun h=>(JN _ h).elim);refine⟨Y1.canSet (by simp) rfl,?_⟩;rintro _ rfl;have Y2:=Y1.set 1 (.slice p1 q1 r1);have Q2:=Q1.step_set (a:=⟨w4.heap.size,1,O⟩) (v:=.slice p1 q1 r1) (fun h=>(JN _ h).elim);refine⟨Y2.canSet (by simp) rfl,?_⟩;rintro _ rfl;have Y3:=Y2.set 2 (.slice p2 q2 r2);have Q3:=Q2.step_set (a:=⟨w4.heap.size,2,O⟩) (v:=.slice p2 q2 r2) (fun h=>(JN _ h).elim);refine⟨_,_,_,_,_,_,_,Y3.rd1 rfl,Y3.rd1 rfl,Y3.rd1 rfl,?_⟩;refine(ih _ (Je hjl) hx (M04.trans Q3 (fun _ _ h=>h)) hD (W4.mod' Q3) (depth:=depth+1) (by omega) (by omega) (by omega)).mono ?_;rintro _ w6⟨rfl,M6,W6⟩;refine⟨_,_,rfl,fun h=>(h rfl).elim,fun _=>⟨⟨j+1,rfl,hjl,?_,(M4.trans (Q3.mono (fun _ _ h=>h.elim)) (fun _ _ h=>h)).trans M6 (fun _ _ h=>h),?_⟩,by omega⟩⟩
     ·rw[he,G,Z0 (by omega) (by omega)];omega
     ·rw[hcn,show n+1+(Z0T (xs.take j)+count xs[j])=n+1+Z0T (xs.take j)+count xs[j] by omega];exact W6
    ·obtain rfl:j=xs.length:=by omega
     rw[JF]at W4 ⊢;refine(Z44 (Z1O xs).length 0 (by omega) (by omega)).mono ?_;rintro _ w5⟨o5,k5,rfl,F5⟩;have hb:=Z9X (Z1O xs).length 0 192;refine⟨_,_,_,rfl,hR _ _ ⟨?_,M4.trans (F5.mod.mono (fun _ _ h=>h.elim)) (fun _ _ h=>h),?_⟩⟩
     ·have ew:V JH ((((Z1O xs).length:Nat):Int)+(((Trie.Z2X (Z1O xs).length 0).length:Nat):Int))=(((Trie.Z2X (Z1O xs).length 192).length+(Z1O xs).length:Nat):Int):=by
        rw[hb,Z0 (by omega) (by omega)];omega
      rw[ew]
     ·rw[show n+(1+Z0T xs)=n+1+Z0T xs by omega]
      exact W4.mod' F5.mod
 termination_by x=>SizeOf.sizeOf x
 decreasing_by
  have:=Jk hy;simp;omega
theorem Z8u{x:It}{w:U}{v1 v2 v3:JA}(h:ItC A w x v1 v2 v3)(hd:dep x<=16)(hn:count x<=4096)(hl:(enc x).length<=65536) :
  JX J5 Z2L.n #[QB #[v1,v2,v3]] w (fun e w'=>∃o k,e=J4 (Jz #[.slice o (enc x).length k,.int JH 0])/\ZM w w' tU8 1 o (enc x).length k ((enc x).map bV)):=by
 obtain⟨b,o1,l1,c1,o2,l2,c2,rfl,rfl,rfl⟩:=h.vals;refine Z2L.vc _ _ _ _ _ _ _ _ _ ?_;unfold Z2L.Vc;rintro d w1⟨rfl,rfl⟩ d5 w2⟨rfl,rfl⟩;have M1:=Mod.alloc (S:=NoB) w (J6 #[J1 b,.slice o1 l1 c1,.slice o2 l2 c2] 111);have M2:=M1.step_alloc (J6 #[.int JH 0] 217);have X:=(Blk.new w 111 #[J1 b,.slice o1 l1 c1,.slice o2 l2 c2]).alloc (J6 #[.int JH 0] 217);have W:=Blk.new (w.alloc (J6 #[J1 b,.slice o1 l1 c1,.slice o2 l2 c2] 111)) 217 #[.int JH 0];have hsz:(w.alloc (J6 #[J1 b,.slice o1 l1 c1,.slice o2 l2 c2] 111)).heap.size=w.heap.size+1:=Z6 _ _;generalize(w.alloc (J6 #[J1 b,.slice o1 l1 c1,.slice o2 l2 c2] 111)).heap.size=D at *
 generalize(w.alloc (J6 #[J1 b,.slice o1 l1 c1,.slice o2 l2 c2] 111)).alloc (J6 #[.int JH 0] 217)=w2 at *
 simp only[Z2,T];refine⟨_,_,_,_,_,_,_,X.rd1 rfl,X.rd1 rfl,X.rd1 rfl,?_⟩;refine(Z84 x h M2 (by omega) W (n:=0) (depth:=1) (by omega) (by omega) (by omega)).mono ?_;rintro _ w3⟨rfl,M3,_⟩;have X3:=X.mod M3 (by omega);have M03:=ZC M2 M3 (by omega);refine⟨_,_,rfl,fun h=>(h rfl).elim,fun _=>⟨fun h=>by omega,fun _=>⟨_,_,_,_,_,_,_,X3.rd1 rfl,X3.rd1 rfl,X3.rd1 rfl,?_⟩⟩⟩;refine(Z9m x (ItC.mod M03 x h) (by omega)).mono ?_;rintro _ w4⟨o4,k4,rfl,F4⟩;exact⟨_,_,_,rfl,o4,k4,rfl,ZM.from_ F4 M03⟩
end
end Go.Proofs.YtfghidehlnfdiaaGreat
end
section
namespace Go.Trie
open Go.Vcg
def Z2e(x:It):It:=if 32<=(enc x).length then .s (sumOf (enc x))else x
def Z2D(p:By)(leaf:Bool):By:=(Z7K p leaf).1
def Z1j:Nd->It
 | .nil=>.s []
 | .leaf p v=>.l [.s (Z2D p Jc),.s v]
 | .row p c=>.l [.s (Z2D p J7),Z2e (Z1j c)]
 | .branch cs v=>.l (((Jd 16).map fun i=>Z2e (Z1j (cs i)))++[.s v])
def Z4b(n:Nd):It:=Z2e (Z1j n)
def bytesOf(n:Nd):By:=enc (Z1j n)
theorem ZBN(n b:Nat):1<=(Z2X n b).length:=by unfold Z2X;split<;>simp
theorem Z8P(n b:Nat):(Z2X n b).length<=9:=by
 have:=Z3i n;unfold Z2X;split<;>simp<;>omega
theorem ZCn(x:It):1<=(enc x).length:=by
 cases x with
 |s b =>
  simp only[enc];split
  ·rename_i ho
   cases b with
   |nil=>simp[own]at ho
   |cons a r=>simp
  ·rw[G];have:=ZBN b.length 128;omega
 |l xs=>simp only[enc,G];have:=ZBN (Z1O xs).length 192;omega
theorem Z8L:∀(xs:List It),xs.length<=(Z1O xs).length
 |[]=>by simp
 |x::r=>by
  have h1:=ZCn x;have h2:=Z8L r;simp only[Z1O,G,J];omega
theorem ZCm:∀{xs:List It} {x:It},x∈xs->(enc x).length+xs.length<=(Z1O xs).length+1
 |y::r,x,h=>by
  simp only[Z1O,G,J];rcases List.mem_cons.1 h with rfl|h
  ·have:=Z8L r;omega
  ·have h1:=ZCm h
   have h2:=ZCn y;omega
theorem Z21(b:By):(enc (.s b)).length<=9+b.length:=by
 simp only[enc];split
 ·omega
 ·rw[G];have:=Z8P b.length 128;omega
def Z5I:Nd->Prop
 | .nil=>True
 | .leaf p v=>p.length<=128/\v.length<=1024
 | .row p c=>p.length<=128/\Z5I c
 | .branch cs v=>v.length<=1024/\∀i,Z5I (cs i)
theorem Z4y(p:By)(leaf:Bool)(h:p.length<=128):(Z2D p leaf).length<=65:=by
 unfold Z2D Z7K;split
 ·simp
 ·obtain⟨n,hn⟩:=Z4V p leaf
  rw[Z4z n _ hn];have:(headed p leaf).length<=2+p.length:=by unfold headed;split<;>simp<;>omega
  omega
theorem ZBe(n:Nd):(enc (Z4b n)).length<=41:=by
 unfold Z4b Z2e;split
 ·have:=Z21 (sumOf (enc (Z1j n)))
  rw[ZN]at this;omega
 ·omega
theorem Z4R(cs:Fin 16->Nd):∀(l:List (Fin 16)),(Z1O (l.map fun i=>Z2e (Z1j (cs i)))).length<=41*l.length
 |[]=>by simp[Z1O]
 |i::r=>by
  have h1:=ZBe (cs i);have h2:=Z4R cs r;unfold Z4b at h1;simp only[Jw,Z1O,G,J];omega
theorem Z8F{n:Nd}(h:Z5I n):(bytesOf n).length<=2000:=by
 cases n with
 |nil=>simp only[bytesOf,Z1j];have:=Z21 [];simp at this;omega
 |leaf p v =>
  have h1:=Z4y p Jc h.1;have h2:=Z21 (Z2D p Jc);have h3:=Z21 v;have h4:=h.2;simp only[bytesOf,Z1j];rw[enc];simp only[Z1O,G,JJ];have:=Z8P (enc (It.s (Z2D p Jc))++(enc (It.s v)++[])).length 192;simp only[G,JJ]at this;omega
 |row p c =>
  have h1:=Z4y p J7 h.1;have h2:=Z21 (Z2D p J7);have h3:=ZBe c;unfold Z4b at h3;simp only[bytesOf,Z1j];rw[enc];simp only[Z1O,G,JJ];have:=Z8P (enc (It.s (Z2D p J7))++(enc (Z2e (Z1j c))++[])).length 192;simp only[G,JJ]at this;omega
 |branch cs v =>
  have h1:=Z4R cs (Jd 16);rw[List.length_finRange]at h1;have h2:=Z21 v;have h3:=h.1;simp only[bytesOf,Z1j];rw[enc,Go.Proofs.YtfghidehlnfdiaaGreat.encs_append];simp only[Z1O,G,JJ];have:=Z8P (Z1O ((Jd 16).map fun i=>Z2e (Z1j (cs i)))++(enc (It.s v)++[])).length 192;simp only[G,JJ]at this;omega
end Go.Trie
end
section
namespace Go.Trie
def be(b:By):Nat:=b.foldl (fun n d=>n*256+d.toNat) 0
theorem ZEu(b:By)(d:UInt8):be (b++[d])=be b*256+d.toNat:=by simp[be]
theorem ZER:∀(b:By) (n:Nat),b.foldl (fun n d=>n*256+d.toNat) n<(n+1)*256^b.length
 |[],n=>by simp
 |d::r,n=>by
  have h1:=ZER r (n*256+d.toNat);have h2:=d.toNat_lt;have h3:(n*256+d.toNat+1)*256^r.length<=((n+1)*256)*256^r.length:=Nat.mul_le_mul_right _ (by omega);rw[Jt,J,Jr,Q0 (256^r.length) 256,<-Nat.mul_assoc];omega
theorem ZFc(b:By):be b<256^b.length:=by
 have:=ZER b 0;simpa[be]using this
def hd(b:By):Except Int (Bool×Nat×Nat×Bool) :=
 let c:=(b.getD 0 0).toNat
 if c<128 then .ok (J7,0,1,Jc)
 else
  let base:=if c>=192 then 192 else 128
  if c-base<=55 then .ok (decide (c>=192),1,c-base,J7)
  else
   let k:=c-base-55
   if b.length<1+k then J3 41
   else
    let m:=be ((b.drop 1).take k)
    if b.getD 1 0=0\/m<=55\/m>2147483648 then J3 40
    else .ok (decide (c>=192),1+k,m,J7)
mutual
def dcd:Nat->Nat->Nat->By->Except Int (It×Nat×Nat)
 |0,_,_,_=>J3 0
 |f+1,d,n,b =>
  if b=[]then J3 41
  else if d>16\/n=4096 then J3 43
  else match hd b with
  | J3 e=>J3 e
  | .ok (lst,a,k,ow) =>
    if k>b.length-a then J3 41
    else if lst=J7 then
     (if ow=J7/\own ((b.drop a).take k)=Jc then J3 40 else .ok (.s ((b.drop a).take k),a+k,n+1))
    else match Z7J f (d+1) (n+1) ((b.drop a).take k)with
    | J3 e=>J3 e
    | .ok (xs,m)=>.ok (.l xs,a+k,m)
def Z7J:Nat->Nat->Nat->By->Except Int (List It×Nat)
 |0,_,_,_=>J3 0
 |f+1,d,n,b =>
  if b=[]then .ok ([],n)
  else match dcd f d n b with
  | J3 e=>J3 e
  | .ok (x,k,m)=>match Z7J f d m (b.drop k)with
    | J3 e=>J3 e
    | .ok (xs,m')=>.ok (x::xs,m')
end
def Z4Q(b:By):Except Int It :=
 if b.length>65536 then J3 44
 else match dcd (2*b.length+1) 1 0 b with
 | J3 e=>J3 e
 | .ok (x,k,_)=>if k<b.length then J3 42 else .ok x
theorem ZF1{b:By}{l o:Bool}{a k:Nat}(h:hd b=.ok (l,a,k,o))(hb:b≠[]) :
  (o=Jc->l=J7/\a=0/\k=1/\(b.getD 0 0).toNat<128)/\(o=J7->1<=a/\a<=b.length/\∀base,(Z2X k base).length<=a):=by
 unfold hd at h;simp only at h;split at h
 ·rename_i hc
  cases h;exact⟨fun _=>⟨rfl,rfl,rfl,hc⟩,fun h=>by cases h⟩
 ·have hbl:1<=b.length:=List.length_pos_iff.2 hb
  generalize(if(b.getD 0 0).toNat>=192 then 192 else 128)=base at *
  split at h
  ·rename_i hle
   cases h;exact⟨fun h=>(by cases h),fun _=>⟨JG _,hbl,fun b=>by unfold Z2X;rw[if_pos hle];simp⟩⟩
  ·split at h
   ·cases h
   ·rename_i hlen
    split at h
    ·cases h
    ·cases h
     refine⟨fun h=>(by cases h),fun _=>⟨by omega,by omega,fun b'=>?_⟩⟩;have hm:=ZFc ((b.drop 1).take ((b.getD 0 0).toNat-base-55));rw[JE,J8,Nat.min_eq_left (by omega)]at hm;generalize be ((b.drop 1).take ((b.getD 0 0).toNat-base-55))=m at *
     have hd:∀f q k,m<256^k->q=m->(digitsF f q).length<=k:=by
      clear hm
      have:∀f q k,q<256^k->(digitsF f q).length<=k:=by
       intro f
       induction f with
       |zero=>intro q k _;simp[digitsF]
       |succ f ih =>
        intro q k hq;simp only[digitsF];split
        ·simp
        ·rename_i hq0
         cases k with
         |zero=>simp at hq;omega
         |succ k =>
          rw[Jr]at hq;have:=ih (q/256) k (by omega);simp only[G,JT];omega
      intro f q k h1 h2;exact this f q k (h2 ▸ h1)
     have:=hd 8 m _ hm rfl;unfold Z2X;split
     ·simp only[JT];omega
     ·simp only[J,Z24];omega
theorem Z6a:∀(f d n:Nat) (b:By),(∀x k m,dcd f d n b=.ok (x,k,m)->1<=k/\k<=b.length/\(enc x).length<=k/\dep x+d<=17/\m=n+count x/\(n<=4096->m<=4096)) /\
  (∀xs m,Z7J f d n b=.ok (xs,m)->(Z1O xs).length<=b.length/\(xs=[]\/ZEV xs+d<=17)/\m=n+Z0T xs/\(n<=4096->m<=4096))
 |0,_,_,_=>⟨fun x k m h=>by simp[dcd]at h,fun xs m h=>by simp[Z7J]at h⟩
 |f+1,d,n,b=>by
  refine⟨fun x k m h=>?_,fun xs m h=>?_⟩
  ·simp only[dcd]at h
   split at h
   ·cases h
   ·rename_i hb
    split at h
    ·cases h
    ·rename_i hdn
     split at h
     ·cases h
     ·rename_i lst a k' ow hh
      obtain⟨ho1,ho2⟩:=ZF1 hh hb;have hbl:1<=b.length:=List.length_pos_iff.2 hb;split at h
      ·cases h
      ·rename_i hk
       have hil:((b.drop a).take k').length=k':=by rw[JE,J8];omega
       split at h
       ·rename_i hl
        split at h
        ·cases h
        ·rename_i how
         cases h;cases ow with
         |true =>
          obtain⟨_,rfl,rfl,hc⟩:=ho1 rfl;refine⟨by omega,by omega,?_,by simp only[dep];omega,by simp only[count],by omega⟩
          obtain⟨c,r,rfl⟩:∃c r,b=c::r:=by cases b with
           |nil=>exact(hb rfl).elim
           |cons c r=>exact⟨c,r,rfl⟩
          simp only[List.drop_zero,Jo,JS,enc]
          have:own [c]=Jc:=by
           simp only[own,decide_eq_true_eq];rw[UInt8.lt_iff_toNat_lt];simpa using hc
          rw[if_pos this];simp
         |false =>
          obtain⟨h1,h2,h3⟩:=ho2 rfl
          have hno:own ((b.drop a).take k')=J7:=by
           cases hh:own ((b.drop a).take k')with
           |false=>rfl
           |true=>exact(how ⟨rfl,hh⟩).elim
          refine⟨by omega,by omega,?_,by simp only[dep];omega,by simp only[count],by omega⟩;simp only[enc];rw[hno,if_neg (by simp),G,hil];have:=h3 128;omega
       ·rename_i hl
        have hlt:lst=Jc:=by cases lst<;>simp_all
        have hof:ow=J7:=by
         cases ow with
         |true=>have:=(ho1 rfl).1;rw[hlt]at this;cases this
         |false=>rfl
        obtain⟨h1,h2,h3⟩:=ho2 hof;split at h
        ·cases h
        ·rename_i xs m' hr
         cases h;obtain⟨i1,i2,i3,i4⟩:=(Z6a f (d+1) (n+1) ((b.drop a).take k')).2 _ _ hr;rw[hil]at i1;refine⟨by omega,by omega,?_,?_,by simp only[count];omega,by omega⟩
         ·simp only[enc,G]
          have hmono:(Z2X (Z1O xs).length 192).length<=(Z2X k' 192).length:=by
           have hdl:∀f p q,p<=q->(digitsF f p).length<=(digitsF f q).length:=by
            intro f
            induction f with
            |zero=>intro p q _;simp[digitsF]
            |succ f ih =>
             intro p q hpq;simp only[digitsF];split
             ·simp
             ·rw[if_neg (by omega)]
              have:=ih (p/256) (q/256) (Nat.div_le_div_right hpq);simp only[G,JT];omega
           unfold Z2X;split
           ·split<;>simp
           ·rw[if_neg (by omega)]
            simp only[J,Z24];have:=hdl 8 _ _ i1;omega
          have:=h3 192;omega
         ·simp only[dep]
          rcases i2 with rfl|i2
          ·simp only[ZEV];omega
          ·omega
  ·simp only[Z7J]at h
   split at h
   ·cases h
    exact⟨by simp[Z1O],.inl rfl,by simp[Z0T],by omega⟩
   ·rename_i hb
    split at h
    ·cases h
    ·rename_i x k m1 hx
     split at h
     ·cases h
     ·rename_i ys m2 hy
      cases h;obtain⟨a1,a2,a3,a4,a5,a6⟩:=(Z6a f d n b).1 _ _ _ hx;obtain⟨b1,b2,b3,b4⟩:=(Z6a f d m1 (b.drop k)).2 _ _ hy;rw[J8]at b1;refine⟨?_,.inr ?_,?_,by omega⟩
      ·simp only[Z1O,G];omega
      ·simp only[ZEV]
       rcases b2 with rfl|b2
       ·simp only[ZEV];omega
       ·omega
      ·simp only[Z0T];omega
theorem ZEw{b:By}{x:It}(h:Z4Q b=.ok x):b.length<=65536/\(enc x).length<=b.length/\dep x<=16/\count x<=4096:=by
 unfold Z4Q at h;split at h
 ·cases h
 ·split at h
  ·cases h
  ·rename_i y k m hd
   split at h
   ·cases h
   ·cases h
    obtain⟨a1,a2,a3,a4,a5,a6⟩:=(Z6a _ _ _ _).1 _ _ _ hd;refine⟨by omega,by omega,by omega,by omega⟩
theorem ZAN(f d n:Nat):dcd (f+1) d n []=J3 41:=by simp[dcd]
theorem Z68{f d n:Nat}{b:By}(hb:b≠[])(h:d>16\/n=4096):dcd (f+1) d n b=J3 43:=by simp only[dcd];rw[if_neg hb,if_pos h]
theorem ZCj{f d n:Nat}{b:By}(hb:b≠[])(h:¬(d>16\/n=4096)):dcd (f+1) d n b=(match hd b with
  | J3 e=>J3 e
  | .ok (lst,a,k,ow) =>
    if k>b.length-a then J3 41
    else if lst=J7 then
     (if ow=J7/\own ((b.drop a).take k)=Jc then J3 40 else .ok (.s ((b.drop a).take k),a+k,n+1))
    else match Z7J f (d+1) (n+1) ((b.drop a).take k)with
    | J3 e=>J3 e
    | .ok (xs,m)=>.ok (.l xs,a+k,m)):=by
 simp only[dcd];rw[if_neg hb,if_neg h]
theorem Z8I(f d n:Nat):Z7J (f+1) d n []=.ok ([],n):=by simp[Z7J]
theorem ZAO{f d n:Nat}{b:By}(hb:b≠[]):Z7J (f+1) d n b=(match dcd f d n b with
  | J3 e=>J3 e
  | .ok (x,k,m)=>match Z7J f d m (b.drop k)with
    | J3 e=>J3 e
    | .ok (xs,m')=>.ok (x::xs,m')):=by
 simp only[Z7J];rw[if_neg hb]
theorem ZBM{b:By}{l o:Bool}{a k:Nat}(h:hd b=.ok (l,a,k,o)):k<=2147483648:=by
 have h255:=(b.getD 0 0).toNat_lt;unfold hd at h;simp only at h;split at h
 ·cases h;decide
 ·generalize(if(b.getD 0 0).toNat>=192 then 192 else 128)=base at *
  split at h
  ·cases h;omega
  ·split at h
   ·cases h
   ·split at h
    ·cases h
    ·rename_i h';cases h;omega
end Go.Trie
end
section
namespace Go.Proofs.YtfghidehlnfdiaaGreat
open Go Go.Vcg Go.Trie
section
variable{C:Type}{S:C->Prop}{w w':U}{lab lab':Nat->C}{c:C}
def brA(vs:Fin 16->JA)(o:Option Addr)(l k:Nat):Array JA:=(List.ofFn vs++[Value.slice o l k]).toArray
theorem Z66(vs:Fin 16->JA)(o:Option Addr)(l k:Nat):(brA vs o l k).size=17:=by simp[brA]
theorem ZES(vs:Fin 16->JA)(o:Option Addr)(l k:Nat)(i:Fin 16):(brA vs o l k)[i.val]?=E (vs i):=by
 unfold brA;rw[Jl,List.getElem?_append_left (by rw[List.length_ofFn];exact i.isLt),List.getElem?_ofFn,dif_pos i.isLt]
theorem ZAG(vs:Fin 16->JA)(o:Option Addr)(l k:Nat):(brA vs o l k)[16]?=E (.slice o l k):=by
 unfold brA;rw[Jl,JY (by simp)];simp
end
section
variable{C:Type}{S:C->Prop}{w w':U}{lab lab':Nat->C}{c:C}
def ZFQ(vs:Fin 16->JA)(a:Nat)(v:JA):Fin 16->JA:=fun i=>if i.val=a then v else vs i
theorem ZEv(vs:Fin 16->JA)(o:Option Addr)(l k a:Nat)(ha:a<16)(v:JA):(brA vs o l k).setIfInBounds a v=brA (ZFQ vs a v) o l k:=by
 apply Array.ext_getElem?;intro i;rw[Array.getElem?_setIfInBounds,Z66];by_cases hi:i<16
 ·rw[ZES (ZFQ vs a v) o l k ⟨i,hi⟩,ZES vs o l k ⟨i,hi⟩]
  unfold ZFQ;by_cases hai:a=i
  ·subst hai;rw[if_pos rfl,if_pos (by omega),if_pos rfl]
  ·rw[if_neg hai,if_neg (fun e=>hai e.symm)]
 ·by_cases h16:i=16
  ·subst h16
   rw[if_neg (by omega),ZAG,ZAG]
  ·rw[if_neg (by omega),Array.getElem?_eq_none (by rw[Z66];omega),Array.getElem?_eq_none (by rw[Z66];omega)]
end
section
variable{C:Type}{S:C->Prop}{w w1 w':U}{lab lab':Nat->C}{c:C}
theorem Z2W{o:Option Addr}{l k:Nat}{bs:List UInt8}(F:ZM w w1 tU8 1 o l k (bs.map bV))(M:Vcg.Mod NoB w1 w'):CBy w' (ext lab w.heap.size c) c o bs :=
 ⟨F.own.bytes.mod' M,fun hne d hd=>Z0D (F.new d.block ⟨d,hd,rfl⟩)⟩
abbrev NoS{C:Type}:C->Prop:=fun _=>False
end
section
variable{C:Type}{S:C->Prop}{w0 w w1 w':U}{lab lab':Nat->C}{c:C}
theorem ret3{A A':Nat->Prop}{N:Nat}{x:It}{v1 v2 v3 a b d:JA}{R:Ending->U->Prop}(X:Blk w N 111 #[a,b,d])(hI:ItC A w x v1 v2 v3)(hN:A N)(hA:∀b,A' b->A b)
  (hR:∀w',Vcg.Mod (·=N) w w'->ItC A' w' x v1 v2 v3->R (J4 (QB #[v1,v2,v3])) w') :
  Z1 w ⟨N,0,O⟩ v1/\∀w1:U,Z3 w ⟨N,0,O⟩ v1 w1->Z1 w1 ⟨N,1,O⟩ v2/\∀w2:U,Z3 w1 ⟨N,1,O⟩ v2 w2->Z1 w2 ⟨N,2,O⟩ v3/\∀w3:U,Z3 w2 ⟨N,2,O⟩ v3 w3 ->
   ∃b6:Bool,∃o7:Option Addr,∃l8:Nat,∃l9:Nat,∃o10:Option Addr,∃l11:Nat,∃l12:Nat,World.cell? w3 ⟨N,0,O⟩=E (J1 b6)/\World.cell? w3 ⟨N,1,O⟩=E (.slice o7 l8 l9)/\World.cell? w3 ⟨N,2,O⟩=E (.slice o10 l11 l12) /\
   R (J4 (QB #[(J1 b6),(.slice o7 l8 l9),(.slice o10 l11 l12)])) w3:=by
 obtain⟨b7,p7,q7,r7,p8,q8,r8,rfl,rfl,rfl⟩:=hI.vals;refine⟨X.canSet (by simp) rfl,?_⟩;rintro _ rfl;have X7:=X.set 0 (J1 b7);have Q7:Vcg.Mod (·=N) w _:=Mod.setCell w ⟨N,0,O⟩ (J1 b7);refine⟨X7.canSet (by simp) rfl,?_⟩;rintro _ rfl;have X8:=X7.set 1 (.slice p7 q7 r7);have Q8:=Q7.step_set (a:=⟨N,1,O⟩) (v:=.slice p7 q7 r7) (fun _=>rfl);refine⟨X8.canSet (by simp) rfl,?_⟩;rintro _ rfl;have X9:=X8.set 2 (.slice p8 q8 r8);have Q9:=Q8.step_set (a:=⟨N,2,O⟩) (v:=.slice p8 q8 r8) (fun _=>rfl);exact⟨_,_,_,_,_,_,_,X9.rd1 rfl,X9.rd1 rfl,X9.rd1 rfl,hR _ Q9 (ItC.mono hA x (ItC.modA Q9 (fun b h=>by subst h;exact hN) x hI))⟩
end
end Go.Proofs.YtfghidehlnfdiaaGreat
end
section
namespace Go.Proofs.YtfghidehlnfdiaaGreat
open Go Go.Vcg Go.Trie
section
variable{C:Type}{S:C->Prop}{A:Nat->Prop}{w0 w w1 w':U}{lab lab':Nat->C}{c:C}
mutual
theorem ItC.old{w:U}:∀(x:It) {v1 v2 v3:JA},ItC A w x v1 v2 v3->ItC (fun b=>A b\/w.heap.size<=b) w x v1 v2 v3
 | .s b,_,_,_,h=>by
   simp only[ItC]at h ⊢;obtain⟨h1,⟨o,c,h2,h3,h5⟩,h4⟩:=h;refine⟨h1,⟨o,c,h2,h3,fun hne d hd hh=>?_⟩,h4⟩;rcases hh with hh|hh
   ·exact h5 hne d hd hh
   ·obtain⟨e,f,ho,he,_⟩:=h3 hne
    rw[ho]at hd;cases hd;exact absurd he (Nat.not_lt.2 hh)
 | .l xs,_,_,_,h=>by
   simp only[ItC]at h ⊢;obtain⟨h1,h2,o,c,h3,h4,h5⟩:=h;exact⟨h1,h2,o,c,h3,Z1I.old xs h4,h5⟩
theorem Z1I.old{w:U}:∀(xs:List It) {o:Option Addr} {k:Nat},Z1I A w xs o k->Z1I (fun b=>A b\/w.heap.size<=b) w xs o k
 |[],_,_,_=>by simp only[Z1I]
 |x::r,_,_,h=>by
  simp only[Z1I]at h ⊢;obtain⟨⟨b,f,v1,v2,v3,ho,hb,hB,h1,h2,h3,h4⟩,h5⟩:=h;exact⟨⟨b,f,v1,v2,v3,ho,hb,fun hh=>hh.elim hB (fun hh=>absurd hb (Nat.not_lt.2 hh)),h1,h2,h3,ItC.old x h4⟩,Z1I.old r h5⟩
end
theorem ZEa:∀(xs:List It) (k:Nat) {o:Option Addr},(∀j (hj:j<xs.length),∃g v1 v2 v3,o=E ⟨g,0,O⟩/\g<w.heap.size/\¬A g/\w.cell? ⟨g,(k+j)*3,O⟩=E v1/\w.cell? ⟨g,(k+j)*3+1,O⟩=E v2/\w.cell? ⟨g,(k+j)*3+2,O⟩=E v3/\ItC A w xs[j] v1 v2 v3)->Z1I A w xs o k
 |[],_,_,_=>by simp only[Z1I]
 |x::r,k,o,h=>by
  simp only[Z1I];constructor
  ·obtain⟨g,v1,v2,v3,a,b,d,e,f,h5,h6⟩:=h 0 (by simp)
   rw[Jf]at e f h5;exact⟨g,0,v1,v2,v3,a,b,d,by rw[T];exact e,by rw[T];exact f,by rw[T];exact h5,h6⟩
  ·refine ZEa r (k+1) (fun j hj=>?_)
   obtain⟨g,v1,v2,v3,a,b,d,e,f,h5,h6⟩:=h (j+1) (by simpa using hj);rw[show k+(j+1)=k+1+j by omega]at e f h5;exact⟨g,v1,v2,v3,a,b,d,e,f,h5,h6⟩
end
end Go.Proofs.YtfghidehlnfdiaaGreat
end
section
namespace Go.Proofs.YtfghidehlnfdiaaGreat
open Go Go.Vcg Go.Trie
section
variable{C C':Type}{S:C->Prop}{w0 w w1 w':U}{lab lab2:Nat->C}{lab':Nat->C'}{c:C}{c':C'}
theorem CBy.re{o:Option Addr}{bs:By}(h:CBy w lab c o bs)(hl:∀k,k<w.heap.size->lab k=c->lab' k=c'):CBy w lab' c' o bs:=by
 refine⟨h.rd,fun hne d hd=>?_⟩;obtain⟨b,f,ho,hb,_⟩:=h.rd hne;rw[ho]at hd;cases hd;exact hl _ hb (h.clr hne _ ho)
theorem Z1P(k:By):Nib (nibbles k):=by
 intro x hx;obtain⟨a,_,ha⟩:=List.mem_flatMap.1 hx
 have h1:(a>>>4).toNat<16:=by
  have:∀n:Fin 256,(JB n>>>4).toNat<16:=by decide +kernel
  exact this a.toFin
 have h2:(a&&&15).toNat<16:=by
  have:∀n:Fin 256,(JB n&&&15).toNat<16:=by decide +kernel
  exact this a.toFin
 simp only[List.mem_cons,List.mem_nil_iff,or_false]at ha;rcases ha with rfl|rfl
 ·exact h1
 ·exact h2
def says(r:Option By):By×Bool:=match r with
 |some v=>(v,Jc)
 |none=>([],J7)
end
end Go.Proofs.YtfghidehlnfdiaaGreat
end
section
namespace Go.Trie

end Go.Trie
end
section
namespace Go.Proofs.YtfghidehlnfdiaaGreat
open Go Go.Vcg Go.Trie
section
variable{C:Type}{S:C->Prop}{w0 w w1 w':U}{lab lab2:Nat->C}{c:C}
theorem Stp.same{C:Type}{w w':U}(M:Vcg.Mod NoB w w')(L:Nat->C):Stp NoS w L w' L:=⟨M.os,M.tape,M.output,M.size,fun _ _=>rfl,fun k hk _=>M.block k hk (fun h=>h)⟩
end
end Go.Proofs.YtfghidehlnfdiaaGreat
end
