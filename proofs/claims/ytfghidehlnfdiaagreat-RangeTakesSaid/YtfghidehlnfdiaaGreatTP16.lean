/- Contracts: items in memory, and as bytes. -/
/- Contracts: an item's size; its encoding. -/
/- Tries as plain Lean: a node's item, its bytes, its reference; how big they get. -/
/- Tries as plain Lean: bounds. -/
/- Decoding: plain Lean. -/
/- Nodes in memory. -/
/- What a type assertion says of a node. -/
/- Contracts: a node that is in sight; a leaf laid into a new branch. -/
/- Contracts: a node behind nibbles. -/
/- Contracts: items of nodes. -/
/- Contracts: a node's bytes, its reference; a row's item. -/
/- Contracts: a row's item. -/
/- Rows of items that grow; a branch's item. -/
/- Contracts: a branch's item; the items of all nodes. -/
/- Nodes in memory under other labels; contracts: Get. -/
/- Contracts: put. -/
import Derived.Test.YtfghidehlnfdiaaGreatTP3
set_option linter.unusedVariables false
set_option linter.unusedSimpArgs false
open Array renaming ext_getElem?->Jo,getElem?_eq_none->JE,getElem?_setIfInBounds->JV,replicate->Jt
open Bool renaming false->U,true->JK
open Except renaming error->J5
open Go renaming Calls->JP,TypeId->JH,World->T,zeroValue->Je
open Go.Ending renaming returned->E
open Go.Instr renaming index->Jz,typeAssert->J8
open Go.IntKind renaming i64->JS,wrap->JN
open Go.Obj renaming cells->K
open Go.Proofs.Tryz renaming prog->O
open Go.Result renaming andThen_ok->JC
open Go.Sem renaming run->Jp,run_bind->JO,run_pure->JW
open Go.Value renaming agg->Jn,bool->Z,iface->Jm,int->JX,nilIface->J1,tuple->Jf
open Go.Value.bool renaming injEq->JR
open Go.Value.slice renaming injEq->JL
open Go.World renaming cell?->JU
open Int renaming toNat_natCast->J6
open List renaming append_nil->Jh,cons_append->Jq,drop_zero->Ju,eq_nil_of_length_eq_zero->JT,finRange->J7,getElem?_append_left->JA,getElem?_append_right->J9,getElem?_eq_getElem->JJ,getElem?_ofFn->JY,getElem?_toArray->JG,getElem_cons_zero->JF,getElem_mem->Ja,length_append->G,length_cons->J0,length_drop->Jd,length_finRange->JI,length_map->Ji,length_nil->J4,length_singleton->JQ,length_take->Jc,nil_append->Js,ofFn->Jr,sizeOf_lt_of_mem->Jk,take_add_one->JZ,take_append_drop->Jj,take_length->Jb,take_zero->JM
open Nat renaming add_zero->Jv,le_refl->JB,le_trans->Jx,lt_irrefl->J3,lt_of_lt_of_le->JD,lt_trans->Jg,pow_succ->Jw,sub_self->Jy,zero_add->V,zero_le->Jl
open Option renaming none->J,some->J2
section
namespace Go.Proofs.YtfghidehlnfdiaaGreat
open Go Go.Vcg Go.Trie
abbrev ZBR:JH:=111
abbrev ZK6:JH:=109
theorem Z5x:Tryz.prog.underlying ZK6=J2 (.slice ZBR):=by kernel_rfl
theorem ZCH:(Tryz.prog.info? ZBR).map (fun i=>(i.zero,i.size,i.bytes))=J2 (J2 (Jn #[Z U,.slice J 0 0,.slice J 0 0]),3,56):=by kernel_rfl
mutual
def ItC(A:Nat->Prop)(w:T):It->Value->Value->Value->Prop
 | .s b,v1,v2,v3=>v1=Z U/\(∃o c,v2=.slice o b.length c/\RdB w o b/\(b≠[]->∀d,o=J2 d->¬A d.block))/\v3=.slice J 0 0
 | .l xs,v1,v2,v3=>v1=Z JK/\v2=.slice J 0 0/\∃o c,v3=.slice o xs.length c/\Z1q A w xs o 0/\xs.length<=c
def Z1q(A:Nat->Prop)(w:T):List It->Option Addr->Nat->Prop
 |[],_,_=>True
 |x::r,o,k=>(∃b f v1 v2 v3,o=J2 ⟨b,f,J⟩/\b<w.heap.size/\¬A b/\w.cell? ⟨b,f+k*3,J⟩=J2 v1/\w.cell? ⟨b,f+k*3+1,J⟩=J2 v2/\w.cell? ⟨b,f+k*3+2,J⟩=J2 v3/\ItC A w x v1 v2 v3)/\Z1q A w r o (k+1)
end
section
variable{A:Nat->Prop}
mutual
theorem ItC.modA{S:Nat->Prop}{w w':T}(M:Vcg.Mod S w w')(hS:∀b,S b->A b):∀(x:It) {v1 v2 v3:Value},ItC A w x v1 v2 v3->ItC A w' x v1 v2 v3
 | .s b,_,_,_,h=>by
   simp only[ItC]at h ⊢;obtain⟨h1,⟨o,c,h2,h3,h5⟩,h4⟩:=h;refine⟨h1,⟨o,c,h2,?_,h5⟩,h4⟩;intro hne;obtain⟨d,f,ho,hd,hc⟩:=h3 hne;exact⟨d,f,ho,JD hd M.size,fun i hi=>(ZN M hd (fun hh=>h5 hne _ ho (hS _ hh))).trans (hc i hi)⟩
 | .l xs,_,_,_,h=>by
   simp only[ItC]at h ⊢;obtain⟨h1,h2,o,c,h3,h4,h5⟩:=h;exact⟨h1,h2,o,c,h3,Z1q.modA M hS xs h4,h5⟩
theorem Z1q.modA{S:Nat->Prop}{w w':T}(M:Vcg.Mod S w w')(hS:∀b,S b->A b):∀(xs:List It) {o:Option Addr} {k:Nat},Z1q A w xs o k->Z1q A w' xs o k
 |[],_,_,_=>by simp only[Z1q]
 |x::r,_,_,h=>by
  simp only[Z1q]at h ⊢;obtain⟨⟨b,f,v1,v2,v3,ho,hb,hA,h1,h2,h3,h4⟩,h5⟩:=h;exact⟨⟨b,f,v1,v2,v3,ho,JD hb M.size,hA,(ZN M hb (fun h=>hA (hS _ h))).trans h1,(ZN M hb (fun h=>hA (hS _ h))).trans h2,(ZN M hb (fun h=>hA (hS _ h))).trans h3,ItC.modA M hS x h4⟩,Z1q.modA M hS r h5⟩
end
theorem ItC.mod{w w':T}(M:Vcg.Mod NoB w w')(x:It){v1 v2 v3:Value}(h:ItC A w x v1 v2 v3):ItC A w' x v1 v2 v3:=ItC.modA M (fun _ h=>h.elim) x h
theorem Z1q.mod{w w':T}(M:Vcg.Mod NoB w w')(xs:List It){o:Option Addr}{k:Nat}(h:Z1q A w xs o k):Z1q A w' xs o k:=Z1q.modA M (fun _ h=>h.elim) xs h
mutual
theorem ItC.mono{A':Nat->Prop}{w:T}(hA:∀b,A' b->A b):∀(x:It) {v1 v2 v3:Value},ItC A w x v1 v2 v3->ItC A' w x v1 v2 v3
 | .s b,_,_,_,h=>by
   simp only[ItC]at h ⊢;obtain⟨h1,⟨o,c,h2,h3,h5⟩,h4⟩:=h;exact⟨h1,⟨o,c,h2,h3,fun hne d hd hh=>h5 hne d hd (hA _ hh)⟩,h4⟩
 | .l xs,_,_,_,h=>by
   simp only[ItC]at h ⊢;obtain⟨h1,h2,o,c,h3,h4,h5⟩:=h;exact⟨h1,h2,o,c,h3,Z1q.mono hA xs h4,h5⟩
theorem Z1q.mono{A':Nat->Prop}{w:T}(hA:∀b,A' b->A b):∀(xs:List It) {o:Option Addr} {k:Nat},Z1q A w xs o k->Z1q A' w xs o k
 |[],_,_,_=>by simp only[Z1q]
 |x::r,_,_,h=>by
  simp only[Z1q]at h ⊢;obtain⟨⟨b,f,v1,v2,v3,ho,hb,hB,h1,h2,h3,h4⟩,h5⟩:=h;exact⟨⟨b,f,v1,v2,v3,ho,hb,fun hh=>hB (hA _ hh),h1,h2,h3,ItC.mono hA x h4⟩,Z1q.mono hA r h5⟩
end
theorem Z1q.get{w:T}:∀{xs:List It} {o:Option Addr} {k:Nat},Z1q A w xs o k->∀(j:Nat) (hj:j<xs.length),∃b f v1 v2 v3,o=J2 ⟨b,f,J⟩/\b<w.heap.size/\w.cell? ⟨b,f+(k+j)*3,J⟩=J2 v1/\w.cell? ⟨b,f+(k+j)*3+1,J⟩=J2 v2/\w.cell? ⟨b,f+(k+j)*3+2,J⟩=J2 v3/\ItC A w xs[j] v1 v2 v3
 |x::r,o,k,h,0,_=>by
  simp only[Z1q]at h;obtain⟨⟨b,f,v1,v2,v3,ho,hb,hB,hr⟩,_⟩:=h;exact⟨b,f,v1,v2,v3,ho,hb,hr⟩
 |x::r,o,k,h,j+1,hj=>by
  simp only[Z1q]at h;have:=h.2.get j (by simpa using hj);rw[show k+1+j=k+(j+1) by omega]at this;exact this
theorem ItC.vals{w:T}{x:It}{v1 v2 v3:Value}(h:ItC A w x v1 v2 v3):∃b o1 l1 c1 o2 l2 c2,v1=Z b/\v2=.slice o1 l1 c1/\v3=.slice o2 l2 c2:=by
 cases x with
 |s b =>
  simp only[ItC]at h;obtain⟨h1,⟨o,c,h2,h3⟩,h4⟩:=h;exact⟨_,_,_,_,_,_,_,h1,h2,h4⟩
 |l xs =>
  simp only[ItC]at h;obtain⟨h1,h2,o,c,h3,h4⟩:=h;exact⟨_,_,_,_,_,_,_,h1,h2,h3⟩
theorem Z4b{w:T}{o:Option Addr}{k:Nat}{b:List UInt8}(h:RdB w o b)(hA:b≠[]->∀d,o=J2 d->¬A d.block) :
  JP O Z4f.n #[.slice o b.length k] w (fun e w'=>∃v1 v2 v3,e=E (Jn #[v1,v2,v3])/\ItC A w' (.s b) v1 v2 v3/\Vcg.Mod NoB w w'):=by
 refine Z4f.vc _ _ _ _ _ ?_;unfold Z4f.Vc;rintro d w1⟨rfl,rfl⟩;have X:=Blk.new w 111 #[Z U,.slice J 0 0,.slice J 0 0];have M:=Mod.alloc (S:=NoB) w (K #[Z U,.slice J 0 0,.slice J 0 0] 111);simp only[Z3,V];refine⟨X.canSet (by simp) rfl,?_⟩;rintro _ rfl;have X1:=X.set 0 (Z U);have M1:=M.step_set (a:=⟨w.heap.size,0,J⟩) (v:=Z U) (fun h=>(J3 _ h).elim);refine⟨X1.canSet (by simp) rfl,?_⟩;rintro _ rfl;have X2:=X1.set 1 (.slice o b.length k);have M2:=M1.step_set (a:=⟨w.heap.size,1,J⟩) (v:=.slice o b.length k) (fun h=>(J3 _ h).elim);refine⟨X2.canSet (by simp) rfl,?_⟩;rintro _ rfl;have X3:=X2.set 2 (.slice J 0 0);have M3:=M2.step_set (a:=⟨w.heap.size,2,J⟩) (v:=.slice J 0 0) (fun h=>(J3 _ h).elim);refine⟨_,_,_,_,_,_,_,X3.rd1 rfl,X3.rd1 rfl,X3.rd1 rfl,_,_,_,rfl,?_,M3⟩;simp only[ItC];exact⟨trivial,⟨o,k,rfl,h.mod' M3,hA⟩,trivial⟩
theorem Z7j{w:T}{o:Option Addr}{k:Nat}{xs:List It}(h:Z1q A w xs o 0)(hk:xs.length<=k) :
  JP O Z4e.n #[.slice o xs.length k] w (fun e w'=>∃v1 v2 v3,e=E (Jn #[v1,v2,v3])/\ItC A w' (.l xs) v1 v2 v3/\Vcg.Mod NoB w w'):=by
 refine Z4e.vc _ _ _ _ _ ?_;unfold Z4e.Vc;rintro d w1⟨rfl,rfl⟩;have X:=Blk.new w 111 #[Z U,.slice J 0 0,.slice J 0 0];have M:=Mod.alloc (S:=NoB) w (K #[Z U,.slice J 0 0,.slice J 0 0] 111);simp only[Z3,V];refine⟨X.canSet (by simp) rfl,?_⟩;rintro _ rfl;have X1:=X.set 0 (Z JK);have M1:=M.step_set (a:=⟨w.heap.size,0,J⟩) (v:=Z JK) (fun h=>(J3 _ h).elim);refine⟨X1.canSet (by simp) rfl,?_⟩;rintro _ rfl;have X2:=X1.set 1 (.slice J 0 0);have M2:=M1.step_set (a:=⟨w.heap.size,1,J⟩) (v:=.slice J 0 0) (fun h=>(J3 _ h).elim);refine⟨X2.canSet (by simp) rfl,?_⟩;rintro _ rfl;have X3:=X2.set 2 (.slice o xs.length k);have M3:=M2.step_set (a:=⟨w.heap.size,2,J⟩) (v:=.slice o xs.length k) (fun h=>(J3 _ h).elim);refine⟨_,_,_,_,_,_,_,X3.rd1 rfl,X3.rd1 rfl,X3.rd1 rfl,_,_,_,rfl,?_,M3⟩;simp only[ItC];exact⟨trivial,trivial,o,k,rfl,Z1q.mod M3 xs h,hk⟩
theorem encs_append:∀(xs ys:List It),Z1r (xs++ys)=Z1r xs++Z1r ys
 |[],ys=>by simp only[Z1r,Js]
 |x::r,ys=>by simp only[Z1r,Jq,encs_append r ys,List.append_assoc]
theorem Z2X(xs:List It)(j:Nat):(Z1r (xs.take j)).length<=(Z1r xs).length:=by
 have:=congrArg List.length (congrArg Z1r (Jj j xs));rw[encs_append,G]at this;omega
theorem Z6q(n b:Nat):1<=(Trie.Z3P n b).length/\(Trie.Z3P n b).length<=9:=by
 have:=Z4N n;unfold Trie.Z3P;split<;>simp<;>omega
theorem ZCZ:∀(x:It) {w:T} {b:Bool} {o1:Option Addr} {l1 c1:Nat} {o2:Option Addr} {l2 c2:Nat},ItC A w x (Z b) (.slice o1 l1 c1) (.slice o2 l2 c2)->(enc x).length<=2^20 ->
  JP O Z51.n #[Jn #[Z b,.slice o1 l1 c1,.slice o2 l2 c2]] w (fun e w'=>∃o k,e=E (.slice o (enc x).length k)/\ZU w w' tU8 1 o (enc x).length k ((enc x).map bV))
 | .s bs,w,b,o1,l1,c1,o2,l2,c2,h,hlen=>by
   simp only[ItC,JR,JL]at h;obtain⟨rfl,⟨o,c,⟨rfl,rfl,rfl⟩,hr,_⟩,rfl,rfl,rfl⟩:=h;refine ZD fun R hR=>Z51.vc _ _ _ _ _ _ _ _ _ ?_;unfold Z51.Vc;rintro d w1⟨rfl,rfl⟩;have X:=Blk.new w 111 #[Z U,.slice o1 bs.length c1,.slice J 0 0];have M:=Mod.alloc (S:=NoB) w (K #[Z U,.slice o1 bs.length c1,.slice J 0 0] 111);have hr1:=hr.mod' M;generalize w.alloc (K #[Z U,.slice o1 bs.length c1,.slice J 0 0] 111)=w1 at *
   simp only[Z3,V];refine⟨_,X.rd1 rfl,fun _=>⟨_,_,_,X.rd1 rfl,?_⟩,fun h=>by cases h⟩;refine(Z6z hr1).mono ?_;rintro _ w2⟨rfl,rfl⟩;simp only[enc]at hlen hR;refine⟨_,rfl,fun ho=>⟨_,_,_,X.rd1 rfl,?_⟩,fun ho=>?_⟩
   ·rw[if_pos ho]at hR hlen
    refine(Z1s hr1 (by omega)).mono ?_;rintro _ w3⟨o3,k3,rfl,F3⟩;exact⟨_,_,_,rfl,hR _ _ ⟨o3,k3,rfl,ZU.from_ F3 M⟩⟩
   ·rw[if_neg (by rw[ho];simp),G]at hlen
    rw[if_neg (by rw[ho];simp)]at hR;rintro _ rfl;have MD:=M.step_drew;have X2:=X.mod' (Mod.drew (S:=NoB) w2);have hr2:=hr1.mod' (Mod.drew (S:=NoB) w2);generalize w2.drew=w3 at *
    refine⟨_,_,_,X2.rd1 rfl,_,_,_,X2.rd1 rfl,?_⟩;refine(Z5n bs.length 128 (by omega) (by omega)).mono ?_;rintro _ w4⟨o4,k4,rfl,F4⟩;obtain⟨o5,k5,w5,hr5,F5⟩:=ZX (ty:=Zw) (k2:=c1) F4 (hr2.mod' F4.mod) (by omega);refine⟨_,_,_,rfl,(X2.mod' F4.mod).rd1 rfl,_,w5,hr5,_,_,_,rfl,hR _ _ ⟨o5,k5,?_,?_⟩⟩
    ·rw[G]
    ·rw[G];exact ZU.from_ F5 MD
 | .l xs,w,b,o1,l1,c1,o2,l2,c2,h,hlen=>by
   have ih:∀y∈xs,∀{w:T}{b:Bool}{o1:Option Addr}{l1 c1:Nat}{o2:Option Addr}{l2 c2:Nat},ItC A w y (Z b) (.slice o1 l1 c1) (.slice o2 l2 c2)->(enc y).length<=2^20 ->
    JP O Z51.n #[Jn #[Z b,.slice o1 l1 c1,.slice o2 l2 c2]] w (fun e w'=>∃o k,e=E (.slice o (enc y).length k)/\ZU w w' tU8 1 o (enc y).length k ((enc y).map bV)) :=
    fun y hy=>ZCZ y
   simp only[ItC,JR,JL]at h;obtain⟨rfl,⟨rfl,rfl,rfl⟩,o,c,⟨rfl,rfl,rfl⟩,hI,hcc⟩:=h;clear hcc;refine ZD fun R hR=>Z51.vc _ _ _ _ _ _ _ _ _ ?_;unfold Z51.Vc;rintro d w1⟨rfl,rfl⟩;have X:=Blk.new w 111 #[Z JK,.slice J 0 0,.slice o2 xs.length c2];have M:=Mod.alloc (S:=NoB) w (K #[Z JK,.slice J 0 0,.slice o2 xs.length c2] 111);have hI1:=Z1q.mod M xs hI;generalize w.alloc (K #[Z JK,.slice J 0 0,.slice o2 xs.length c2] 111)=w1 at *
   simp only[Z3,V];simp only[enc,G]at hlen;simp only[enc]at hR;refine⟨_,X.rd1 rfl,fun h=>(by cases h),fun _=>⟨_,_,_,X.rd1 rfl,?_⟩⟩
   refine⟨fun o' l' k' i w'=>∃j:Nat,i=(j:Int)/\j<=xs.length/\l'=(Z1r (xs.take j)).length/\ZU w1 w' tU8 1 o' l' k' ((Z1r (xs.take j)).map bV),fun _ _ _ i _=>((xs.length:Int)-i).toNat,
    ⟨0,rfl,Jl _,by rw[JM];simp only[Z1r];rfl,by rw[JM];simp only[Z1r];exact ZU.nil (Mod.refl w1) _ _⟩,?_⟩
   have hxl:xs.length<=(Z1r xs).length:=by
    clear hI hI1 hlen hR ih X M
    induction xs with
    |nil=>simp
    |cons x r ihr =>
     have:1<=(enc x).length:=by
      cases x with
      |s b =>
       simp only[enc];split
       ·rename_i ho
        cases b with
        |nil=>simp[own]at ho
        |cons a r=>simp
       ·rw[G];have:=(Z6q b.length 128).1;omega
      |l ys=>simp only[enc,G];have:=(Z6q (Z1r ys).length 192).1;omega
     simp only[Z1r,G,J0];omega
   rintro o' _ k' _ _ w2⟨j,rfl,hj,rfl,F⟩;have hjle:=Z2X xs j;refine⟨fun hlt=>?_,fun hge=>?_⟩
   ·have hjl:j<xs.length:=by omega
    obtain⟨B,f,v1,v2,v3,rfl,hB,h1,h2,h3,hx⟩:=(Z1q.mod F.mod xs hI1).get j hjl;obtain⟨b,p1,q1,r1,p2,q2,r2,rfl,rfl,rfl⟩:=hx.vals
    have htk:Z1r (xs.take (j+1))=Z1r (xs.take j)++enc xs[j]:=by
     rw[JZ,JJ hjl,encs_append];show _++Z1r [xs[j]]=_;simp only[Z1r,Jh]
    have hle2:=Z2X xs (j+1);rw[htk,G]at hle2;rw[V]at h1 h2 h3;have ew:JN JS ((j:Int)+1)=((j+1:Nat):Int):=by rw[Z0 (by omega) (by omega)];omega
    rw[ew];refine⟨_,rfl,by omega,_,_,_,_,_,_,_,by rw[Z3,J6];exact h1,by rw[Z3,Z3,J6];exact h2,by rw[Z3,Z3,J6];exact h3,?_⟩;rintro d w3⟨rfl,rfl⟩;have Y:=Blk.new w2 111 #[Z U,.slice J 0 0,.slice J 0 0];have N:=Mod.alloc (S:=NoB) w2 (K #[Z U,.slice J 0 0,.slice J 0 0] 111);simp only[Z3,V];refine⟨Y.canSet (by simp) rfl,?_⟩;rintro _ rfl;have Y1:=Y.set 0 (Z b);have N1:=N.step_set (a:=⟨w2.heap.size,0,J⟩) (v:=Z b) (fun h=>(J3 _ h).elim);refine⟨Y1.canSet (by simp) rfl,?_⟩;rintro _ rfl;have Y2:=Y1.set 1 (.slice p1 q1 r1);have N2:=N1.step_set (a:=⟨w2.heap.size,1,J⟩) (v:=.slice p1 q1 r1) (fun h=>(J3 _ h).elim);refine⟨Y2.canSet (by simp) rfl,?_⟩;rintro _ rfl;have Y3:=Y2.set 2 (.slice p2 q2 r2);have N3:=N2.step_set (a:=⟨w2.heap.size,2,J⟩) (v:=.slice p2 q2 r2) (fun h=>(J3 _ h).elim);refine⟨_,_,_,_,_,_,_,Y3.rd1 rfl,Y3.rd1 rfl,Y3.rd1 rfl,?_⟩;refine(ih _ (Ja hjl) (ItC.mod N3 _ hx) (by omega)).mono ?_;rintro _ w4⟨o4,k4,rfl,F4⟩;obtain⟨o5,k5,w5,hr5,F5⟩:=ZX (ty:=Zw) (k2:=k4) ((F.mod' N3).mod' F4.mod) (ZK F4) (by omega);refine⟨_,_,_,rfl,_,w5,hr5,_,_,_,rfl,⟨j+1,rfl,hjl,?_,?_⟩,by omega⟩
    ·rw[htk,G]
    ·rw[htk];exact F5
   ·obtain rfl:j=xs.length:=by omega
    rw[Jb]at F ⊢;refine(Z5n (Z1r xs).length 192 (by omega) (by omega)).mono ?_;rintro _ w4⟨o4,k4,rfl,F4⟩;have hhl:=(Z6q (Z1r xs).length 192).2;obtain⟨o5,k5,w5,hr5,F5⟩:=ZX (ty:=Zw) (k2:=k') F4 ((ZK F).mod' F4.mod) (by omega);refine⟨_,_,_,rfl,_,w5,hr5,_,_,_,rfl,hR _ _ ⟨o5,k5,?_,?_⟩⟩
    ·rw[G]
    ·rw[G]
     exact ZU.from_ (ZU.from_ F5 F.mod) M
 termination_by x=>SizeOf.sizeOf x
 decreasing_by
  have:=Jk hy;simp;omega
end
end Go.Proofs.YtfghidehlnfdiaaGreat
end
section
namespace Go.Trie
mutual
def count:It->Nat
 | .s _=>1
 | .l xs=>1+Z0h xs
def Z0h:List It->Nat
 |[]=>0
 |x::r=>count x+Z0h r
end
mutual
def dep:It->Nat
 | .s _=>1
 | .l xs=>1+ZCz xs
def ZCz:List It->Nat
 |[]=>0
 |x::r=>max (dep x) (ZCz r)
end
theorem Z4n:∀(xs ys:List It),Z0h (xs++ys)=Z0h xs+Z0h ys
 |[],ys=>by simp only[Z0h,Js,V]
 |x::r,ys=>by simp only[Z0h,Jq,Z4n r ys,Nat.add_assoc]
theorem Z65(xs:List It)(j:Nat):Z0h (xs.take j)<=Z0h xs:=by
 have:=congrArg Z0h (Jj j xs);rw[Z4n]at this;omega
theorem Z7b:∀{xs:List It} {x:It},x∈xs->dep x<=ZCz xs
 |y::r,x,h=>by
  simp only[ZCz];rcases List.mem_cons.1 h with rfl|h
  ·omega
  ·have:=Z7b h;omega
theorem ZGG(x:It):1<=count x:=by cases x<;>simp only[count]<;>omega
theorem ZDN(x:It):1<=dep x:=by cases x<;>simp only[dep]<;>omega
theorem Z7a:∀(xs:List It),xs.length<=Z0h xs
 |[]=>Jl _
 |x::r=>by
  have h1:=Z7a r;have h2:=ZGG x;simp only[Z0h,J0];omega
theorem ZCF(n b c:Nat):(Z3P n b).length=(Z3P n c).length:=by unfold Z3P;split<;>simp
end Go.Trie
namespace Go.Proofs.YtfghidehlnfdiaaGreat
open Go Go.Vcg Go.Trie
section
variable{A:Nat->Prop}
theorem Z6T{w:T}{D n depth:Nat}(W:Blk w D 217 #[JX JS (n:Int)])(hd:depth<=16)(hn:n<4096) :
  JP O Zx.n #[.pointer (J2 ⟨D,0,J⟩),JX JS (depth:Int)] w (fun e w'=>e=E (JX JS 0)/\Vcg.Mod (·=D) w w'/\Blk w' D 217 #[JX JS ((n+1:Nat):Int)]):=by
 refine Zx.vc _ _ _ _ ?_;unfold Zx.Vc;refine⟨fun h=>by omega,fun _=>⟨_,W.rd1 rfl,fun h=>by omega,fun _=>⟨_,W.rd1 rfl,W.canSet (by simp) rfl,?_⟩⟩⟩;rintro _ rfl;have ew:JN JS ((n:Int)+1)=((n+1:Nat):Int):=by rw[Z0 (by omega) (by omega)];omega
 rw[ew];exact⟨rfl,Mod.setCell w ⟨D,0,J⟩ _,W.set 0 _⟩
theorem ZI{w0 w w':T}{D:Nat}(M:Vcg.Mod NoB w0 w)(h:Vcg.Mod (·=D) w w')(hD:w0.heap.size<=D):Vcg.Mod NoB w0 w' :=
 M.trans h (fun i hi e=>by subst e;omega)
theorem ZAd:∀(x:It) {w0 w:T} {b:Bool} {o1:Option Addr} {l1 c1:Nat} {o2:Option Addr} {l2 c2:Nat} {D n depth:Nat},ItC A w0 x (Z b) (.slice o1 l1 c1) (.slice o2 l2 c2)->Vcg.Mod NoB w0 w->w0.heap.size<=D->Blk w D 217 #[JX JS (n:Int)]->depth+dep x<=17->n+count x<=4096->(enc x).length<=2^20 ->
  JP O Z08.n #[.pointer (J2 ⟨D,0,J⟩),Jn #[Z b,.slice o1 l1 c1,.slice o2 l2 c2],JX JS (depth:Int)] w (fun e w'=>e=E (Jf #[JX JS (((enc x).length:Nat):Int),JX JS 0])/\Vcg.Mod (·=D) w w'/\Blk w' D 217 #[JX JS ((n+count x:Nat):Int)])
 | .s bs,w0,w,b,o1,l1,c1,o2,l2,c2,D,n,depth,h,M,hD,W,hdp,hn,hlen=>by
   simp only[ItC,JR,JL]at h;obtain⟨rfl,⟨o,c,⟨rfl,rfl,rfl⟩,hr,_⟩,rfl,rfl,rfl⟩:=h;simp only[dep,count]at hdp hn ⊢;refine ZD fun R hR=>Z08.vc _ _ _ _ _ _ _ _ _ _ _ ?_;unfold Z08.Vc;rintro d w1⟨rfl,rfl⟩;have X:=Blk.new w 111 #[Z U,.slice o1 bs.length c1,.slice J 0 0];have M1:=Mod.alloc (S:=(·=D)) w (K #[Z U,.slice o1 bs.length c1,.slice J 0 0] 111);have W1:=W.alloc (K #[Z U,.slice o1 bs.length c1,.slice J 0 0] 111);have hne:w.heap.size≠D:=by have:=W.lt;omega
   generalize w.alloc (K #[Z U,.slice o1 bs.length c1,.slice J 0 0] 111)=w1 at *
   generalize w.heap.size=N at *
   refine(Z6T W1 (by omega) (by omega)).mono ?_;rintro _ w2⟨rfl,M2,W2⟩;have X2:=X.mod M2 hne;have M02:=M1.trans M2 (fun _ _ h=>h);have hr2:=hr.mod' (ZI M M02 hD);refine⟨_,rfl,fun h=>(h rfl).elim,fun _=>?_⟩;simp only[Z3,V];simp only[enc]at hlen hR;refine⟨fun w'=>w'=w2/\own bs=U,⟨fun b w'=>b=U/\w'=w2,⟨_,X2.rd1 rfl,fun h=>(by cases h),fun _=>⟨_,X2.rd1 rfl,fun _=>⟨_,_,_,X2.rd1 rfl,by simp,rfl⟩,fun h=>by cases h⟩⟩,?_⟩,?_⟩
   ·rintro _ _ _⟨rfl,rfl⟩
    refine⟨fun h=>(by cases h),fun _=>⟨_,_,_,X2.rd1 rfl,?_⟩⟩;refine(Z6z hr2).mono ?_;rintro _ w3⟨rfl,rfl⟩;refine⟨_,rfl,fun ho=>?_,fun ho=>⟨rfl,ho⟩⟩;rw[if_pos ho]at hR
    have hl1:bs.length=1:=by
     cases bs with
     |nil=>simp[own]at ho
     |cons a r=>cases r with
      |nil=>rfl
      |cons b r=>simp[own]at ho
    exact hR _ _ ⟨by rw[hl1];rfl,M02,W2⟩
   ·rintro _ w2⟨rfl,ho⟩
    rw[if_neg (by rw[ho];simp),G]at hR hlen;refine⟨_,_,_,X2.rd1 rfl,_,_,_,X2.rd1 rfl,?_⟩;refine⟨fun a i w'=>a=((bs.length:Nat):Int)/\i=0/\w'=w2,fun _ _ _=>0,⟨rfl,rfl,rfl⟩,?_⟩;rintro _ _ _ _⟨rfl,rfl,rfl⟩;refine⟨fun h=>absurd h (by simp),fun _=>?_⟩;refine(Z5n bs.length 0 (by omega) (by omega)).mono ?_;rintro _ w4⟨o4,k4,rfl,F4⟩;refine⟨_,_,_,rfl,hR _ _ ⟨?_,M02.trans (F4.mod.mono (fun _ _ h=>h.elim)) (fun _ _ h=>h),W2.mod' F4.mod⟩⟩;have hb:=ZCF bs.length 0 128
    have ew:JN JS (((bs.length:Nat):Int)+(((Trie.Z3P bs.length 0).length:Nat):Int))=(((Trie.Z3P bs.length 128).length+bs.length:Nat):Int):=by
     rw[hb,Z0 (by omega) (by omega)];omega
    rw[ew]
 | .l xs,w0,w,b,o1,l1,c1,o2,l2,c2,D,n,depth,h,M,hD,W,hdp,hn,hlen=>by
   have ih:∀y∈xs,∀{w0 w:T}{b:Bool}{o1:Option Addr}{l1 c1:Nat}{o2:Option Addr}{l2 c2:Nat}{D n depth:Nat},ItC A w0 y (Z b) (.slice o1 l1 c1) (.slice o2 l2 c2)->Vcg.Mod NoB w0 w->w0.heap.size<=D->Blk w D 217 #[JX JS (n:Int)]->depth+dep y<=17->n+count y<=4096->(enc y).length<=2^20 ->
    JP O Z08.n #[.pointer (J2 ⟨D,0,J⟩),Jn #[Z b,.slice o1 l1 c1,.slice o2 l2 c2],JX JS (depth:Int)] w (fun e w'=>e=E (Jf #[JX JS (((enc y).length:Nat):Int),JX JS 0])/\Vcg.Mod (·=D) w w'/\Blk w' D 217 #[JX JS ((n+count y:Nat):Int)]) :=
    fun y hy=>ZAd y
   simp only[ItC,JR,JL]at h;obtain⟨rfl,⟨rfl,rfl,rfl⟩,o,c,⟨rfl,rfl,rfl⟩,hI,hcc⟩:=h;clear hcc;simp only[dep,count]at hdp hn ⊢;refine ZD fun R hR=>Z08.vc _ _ _ _ _ _ _ _ _ _ _ ?_;unfold Z08.Vc;rintro d w1⟨rfl,rfl⟩;have X:=Blk.new w 111 #[Z JK,.slice J 0 0,.slice o2 xs.length c2];have M1:=Mod.alloc (S:=(·=D)) w (K #[Z JK,.slice J 0 0,.slice o2 xs.length c2] 111);have W1:=W.alloc (K #[Z JK,.slice J 0 0,.slice o2 xs.length c2] 111);have hne:w.heap.size≠D:=by have:=W.lt;omega
   generalize w.alloc (K #[Z JK,.slice J 0 0,.slice o2 xs.length c2] 111)=w1 at *
   generalize w.heap.size=N at *
   refine(Z6T W1 (by omega) (by omega)).mono ?_;rintro _ w2⟨rfl,M2,W2⟩;have X2:=X.mod M2 hne;have M02:=M1.trans M2 (fun _ _ h=>h);refine⟨_,rfl,fun h=>(h rfl).elim,fun _=>?_⟩;simp only[Z3,V];simp only[enc,G]at hlen hR;refine⟨fun w'=>w'=w2,⟨fun b w'=>b=U/\w'=w2,⟨_,X2.rd1 rfl,fun _=>⟨_,_,_,X2.rd1 rfl,fun h=>absurd h (by simp),fun _=>⟨_,X2.rd1 rfl,fun h=>(by cases h),fun _=>⟨rfl,rfl⟩⟩⟩,fun h=>by cases h⟩,?_⟩,?_⟩
   ·rintro _ _ _⟨rfl,rfl⟩
    refine⟨fun h=>(by cases h),fun _=>⟨_,_,_,X2.rd1 rfl,?_⟩⟩;refine(Z6z (b:=[]) (RdB.nil _ _)).mono ?_;rintro _ w3⟨rfl,rfl⟩;exact⟨_,rfl,fun ho=>(by simp[own]at ho),fun _=>rfl⟩
   ·rintro _ w2 rfl
    refine⟨_,_,_,X2.rd1 rfl,_,_,_,X2.rd1 rfl,?_⟩
    refine⟨fun a i w'=>∃j:Nat,i=(j:Int)/\j<=xs.length/\a=(((Z1r (xs.take j)).length:Nat):Int)/\Vcg.Mod (·=D) w w'/\Blk w' D 217 #[JX JS ((n+1+Z0h (xs.take j):Nat):Int)],fun _ i _=>((xs.length:Int)-i).toNat,
     ⟨0,rfl,Jl _,by rw[JM];simp only[Z1r];rfl,M02,by rw[JM];simp only[Z0h];exact W2⟩,?_⟩
    have hcl:=Z7a xs;rintro _ _ _ w4⟨j,rfl,hj,rfl,M4,W4⟩;have hle1:=Z2X xs j;refine⟨fun hlt=>?_,fun hge=>?_⟩
    ·have hjl:j<xs.length:=by omega
     have M04:=ZI M M4 hD;obtain⟨B,f,v1,v2,v3,rfl,hB,h1,h2,h3,hx⟩:=hI.get j hjl;obtain⟨b,p1,q1,r1,p2,q2,r2,rfl,rfl,rfl⟩:=hx.vals;have htk:xs.take (j+1)=xs.take j++[xs[j]]:=by rw[JZ,JJ hjl];rfl
     have he:Z1r (xs.take (j+1))=Z1r (xs.take j)++enc xs[j]:=by rw[htk,encs_append];simp only[Z1r,Jh]
     have hcn:Z0h (xs.take (j+1))=Z0h (xs.take j)+count xs[j]:=by rw[htk,Z4n];simp only[Z0h,Jv]
     have hle2:=Z2X xs (j+1);have hc2:=Z65 xs (j+1);have hdm:=Z7b (Ja hjl);rw[he,G]at hle2;rw[hcn]at hc2;rw[V]at h1 h2 h3;have cl:∀i,w4.cell? ⟨B,i,J⟩=w0.cell? ⟨B,i,J⟩:=fun i=>ZN M04 hB (fun h=>h);have ew:JN JS ((j:Int)+1)=((j+1:Nat):Int):=by rw[Z0 (by omega) (by omega)];omega
     have ew2:JN JS ((depth:Int)+1)=((depth+1:Nat):Int):=by rw[Z0 (by omega) (by omega)];omega
     rw[ew,ew2];refine⟨_,rfl,by omega,_,_,_,_,_,_,_,by rw[Z3,J6];exact(cl _).trans h1,by rw[Z3,Z3,J6];exact(cl _).trans h2,by rw[Z3,Z3,J6];exact(cl _).trans h3,?_⟩;rintro d w5⟨rfl,rfl⟩;have Y:=Blk.new w4 111 #[Z U,.slice J 0 0,.slice J 0 0];have Q:=Mod.alloc (S:=NoB) w4 (K #[Z U,.slice J 0 0,.slice J 0 0] 111);simp only[Z3,V];refine⟨Y.canSet (by simp) rfl,?_⟩;rintro _ rfl;have Y1:=Y.set 0 (Z b);have Q1:=Q.step_set (a:=⟨w4.heap.size,0,J⟩) (v:=Z b) (fun h=>(J3 _ h).elim);refine⟨Y1.canSet (by simp) rfl,?_⟩;rintro _ rfl;have Y2:=Y1.set 1 (.slice p1 q1 r1);have Q2:=Q1.step_set (a:=⟨w4.heap.size,1,J⟩) (v:=.slice p1 q1 r1) (fun h=>(J3 _ h).elim);refine⟨Y2.canSet (by simp) rfl,?_⟩;rintro _ rfl;have Y3:=Y2.set 2 (.slice p2 q2 r2);have Q3:=Q2.step_set (a:=⟨w4.heap.size,2,J⟩) (v:=.slice p2 q2 r2) (fun h=>(J3 _ h).elim);refine⟨_,_,_,_,_,_,_,Y3.rd1 rfl,Y3.rd1 rfl,Y3.rd1 rfl,?_⟩;refine(ih _ (Ja hjl) hx (M04.trans Q3 (fun _ _ h=>h)) hD (W4.mod' Q3) (depth:=depth+1) (by omega) (by omega) (by omega)).mono ?_;rintro _ w6⟨rfl,M6,W6⟩;refine⟨_,_,rfl,fun h=>(h rfl).elim,fun _=>⟨⟨j+1,rfl,hjl,?_,(M4.trans (Q3.mono (fun _ _ h=>h.elim)) (fun _ _ h=>h)).trans M6 (fun _ _ h=>h),?_⟩,by omega⟩⟩
     ·rw[he,G,Z0 (by omega) (by omega)];omega
     ·rw[hcn,show n+1+(Z0h (xs.take j)+count xs[j])=n+1+Z0h (xs.take j)+count xs[j] by omega];exact W6
    ·obtain rfl:j=xs.length:=by omega
     rw[Jb]at W4 ⊢;refine(Z5n (Z1r xs).length 0 (by omega) (by omega)).mono ?_;rintro _ w5⟨o5,k5,rfl,F5⟩;have hb:=ZCF (Z1r xs).length 0 192;refine⟨_,_,_,rfl,hR _ _ ⟨?_,M4.trans (F5.mod.mono (fun _ _ h=>h.elim)) (fun _ _ h=>h),?_⟩⟩
     ·have ew:JN JS ((((Z1r xs).length:Nat):Int)+(((Trie.Z3P (Z1r xs).length 0).length:Nat):Int))=(((Trie.Z3P (Z1r xs).length 192).length+(Z1r xs).length:Nat):Int):=by
        rw[hb,Z0 (by omega) (by omega)];omega
      rw[ew]
     ·rw[show n+(1+Z0h xs)=n+1+Z0h xs by omega]
      exact W4.mod' F5.mod
 termination_by x=>SizeOf.sizeOf x
 decreasing_by
  have:=Jk hy;simp;omega
theorem Z3F{x:It}{w:T}{v1 v2 v3:Value}(h:ItC A w x v1 v2 v3)(hd:dep x<=16)(hn:count x<=4096)(hl:(enc x).length<=65536) :
  JP O Z3g.n #[Jn #[v1,v2,v3]] w (fun e w'=>∃o k,e=E (Jf #[.slice o (enc x).length k,JX JS 0])/\ZU w w' tU8 1 o (enc x).length k ((enc x).map bV)):=by
 obtain⟨b,o1,l1,c1,o2,l2,c2,rfl,rfl,rfl⟩:=h.vals;refine Z3g.vc _ _ _ _ _ _ _ _ _ ?_;unfold Z3g.Vc;rintro d w1⟨rfl,rfl⟩ d5 w2⟨rfl,rfl⟩;have M1:=Mod.alloc (S:=NoB) w (K #[Z b,.slice o1 l1 c1,.slice o2 l2 c2] 111);have M2:=M1.step_alloc (K #[JX JS 0] 217);have X:=(Blk.new w 111 #[Z b,.slice o1 l1 c1,.slice o2 l2 c2]).alloc (K #[JX JS 0] 217);have W:=Blk.new (w.alloc (K #[Z b,.slice o1 l1 c1,.slice o2 l2 c2] 111)) 217 #[JX JS 0];have hsz:(w.alloc (K #[Z b,.slice o1 l1 c1,.slice o2 l2 c2] 111)).heap.size=w.heap.size+1:=ZE _ _;generalize(w.alloc (K #[Z b,.slice o1 l1 c1,.slice o2 l2 c2] 111)).heap.size=D at *
 generalize(w.alloc (K #[Z b,.slice o1 l1 c1,.slice o2 l2 c2] 111)).alloc (K #[JX JS 0] 217)=w2 at *
 simp only[Z3,V];refine⟨_,_,_,_,_,_,_,X.rd1 rfl,X.rd1 rfl,X.rd1 rfl,?_⟩;refine(ZAd x h M2 (by omega) W (n:=0) (depth:=1) (by omega) (by omega) (by omega)).mono ?_;rintro _ w3⟨rfl,M3,_⟩;have X3:=X.mod M3 (by omega);have M03:=ZI M2 M3 (by omega);refine⟨_,_,rfl,fun h=>(h rfl).elim,fun _=>⟨fun h=>by omega,fun _=>⟨_,_,_,_,_,_,_,X3.rd1 rfl,X3.rd1 rfl,X3.rd1 rfl,?_⟩⟩⟩;refine(ZCZ x (ItC.mod M03 x h) (by omega)).mono ?_;rintro _ w4⟨o4,k4,rfl,F4⟩;exact⟨_,_,_,rfl,o4,k4,rfl,ZU.from_ F4 M03⟩
end
end Go.Proofs.YtfghidehlnfdiaaGreat
end
section
namespace Go.Trie
open Go.Vcg
def ZY(x:It):It:=if 32<=(enc x).length then .s (sumOf (enc x))else x
def Z1o(p:By)(leaf:Bool):By:=(Z8a p leaf).1
def itemOf:Nd->It
 | .nil=>.s []
 | .leaf p v=>.l [.s (Z1o p JK),.s v]
 | .row p c=>.l [.s (Z1o p U),ZY (itemOf c)]
 | .branch cs v=>.l (((J7 16).map fun i=>ZY (itemOf (cs i)))++[.s v])
def Z2U(n:Nd):It:=ZY (itemOf n)
def bytesOf(n:Nd):By:=enc (itemOf n)
theorem Z6r(n b:Nat):1<=(Z3P n b).length:=by unfold Z3P;split<;>simp
theorem ZB2(n b:Nat):(Z3P n b).length<=9:=by
 have:=Z4N n;unfold Z3P;split<;>simp<;>omega
theorem ZDO(x:It):1<=(enc x).length:=by
 cases x with
 |s b =>
  simp only[enc];split
  ·rename_i ho
   cases b with
   |nil=>simp[own]at ho
   |cons a r=>simp
  ·rw[G];have:=Z6r b.length 128;omega
 |l xs=>simp only[enc,G];have:=Z6r (Z1r xs).length 192;omega
theorem Z8X:∀(xs:List It),xs.length<=(Z1r xs).length
 |[]=>by simp
 |x::r=>by
  have h1:=ZDO x;have h2:=Z8X r;simp only[Z1r,G,J0];omega
theorem ZGM(xs:List It):1+xs.length<=(enc (.l xs)).length:=by
 have h1:=Z8X xs;have h2:=Z6r (Z1r xs).length 192;simp only[enc,G];omega
theorem ZAv:∀{xs:List It} {x:It},x∈xs->(enc x).length+xs.length<=(Z1r xs).length+1
 |y::r,x,h=>by
  simp only[Z1r,G,J0];rcases List.mem_cons.1 h with rfl|h
  ·have:=Z8X r;omega
  ·have h1:=ZAv h
   have h2:=ZDO y;omega
theorem Z3A(b:By):(enc (.s b)).length<=9+b.length:=by
 simp only[enc];split
 ·omega
 ·rw[G];have:=ZB2 b.length 128;omega
theorem ZA5(cs:Fin 16->Nd)(v:By):18<=(bytesOf (.branch cs v)).length:=by
 have:=ZGM (((J7 16).map fun i=>ZY (itemOf (cs i)))++[.s v]);simp only[G,Ji,JI,J0,J4]at this;simp only[bytesOf,itemOf];omega
theorem ZGK{xs:List It}{d:Nat}(h:∀x∈xs,dep x<=d):ZCz xs<=d:=by
 induction xs with
 |nil=>simp[ZCz]
 |cons x r ih =>
  simp only[ZCz];have h1:=h x (by simp);have h2:=ih (fun y hy=>h y (by simp[hy]));omega
theorem ZBv:∀{n:Nd},Z0x n->(bytesOf n).length<32->dep (itemOf n)<=(match n with| .nil=>1| .leaf _ _=>2| .branch _ _=>3| .row _ _=>4)
 | .nil,_,_=>by simp[itemOf,dep]
 | .leaf p v,_,_=>by simp[itemOf,dep,ZCz]
 | .branch cs v,hc,hl=>by
   have key:∀x∈((J7 16).map fun i=>ZY (itemOf (cs i)))++[.s v],dep x<=2:=by
    intro x hx;have hm:=ZAv hx
    have he:(bytesOf (.branch cs v)).length=(Z3P (Z1r (((J7 16).map fun i=>ZY (itemOf (cs i)))++[.s v])).length 192).length+(Z1r (((J7 16).map fun i=>ZY (itemOf (cs i)))++[.s v])).length:=by
     simp only[bytesOf,itemOf,enc,G]
    have hh:=Z6r (Z1r (((J7 16).map fun i=>ZY (itemOf (cs i)))++[.s v])).length 192;simp only[G,Ji,JI,J0,J4]at hm he hh;have hx15:(enc x).length<=15:=by omega
    rcases List.mem_append.1 hx with hx|hx
    ·obtain⟨i,_,rfl⟩:=List.mem_map.1 hx
     unfold ZY at hx15 ⊢;split
     ·simp[dep]
     ·rename_i hlt
      rw[if_neg hlt]at hx15;cases hci:cs i with
      |nil=>simp[itemOf,dep]
      |leaf p w=>simp[itemOf,dep,ZCz]
      |branch cs' w =>
       rw[hci]at hx15;have:=ZA5 cs' w;simp only[bytesOf]at this;omega
      |row p c =>
       rw[hci]at hx15;have hcr:=hc.1 i;rw[hci]at hcr;cases hcc:c with
       |branch cs' w =>
        have hb:=ZA5 cs' w;have hm2:=ZAv (xs:=[.s (Z1o p U),ZY (itemOf c)]) (x:=ZY (itemOf c)) (by simp)
        have h18:18<=(enc (ZY (itemOf c))).length:=by
         unfold ZY;split
         ·have hs:(sumOf (enc (itemOf c))).length=32:=ZO _
          simp only[enc];split
          ·rename_i ho
           exfalso
           have:(sumOf (enc (itemOf c))).length=1:=by
            revert ho;generalize sumOf (enc (itemOf c))=z;intro ho;cases z with
            |nil=>simp[own]at ho
            |cons a r=>cases r with
             |nil=>rfl
             |cons b r=>simp[own]at ho
           omega
          ·rw[G];omega
         ·rw[hcc];simp only[bytesOf]at hb;exact hb
        simp only[itemOf,enc,G]at hx15;simp only[J0,J4]at hm2;omega
       |nil=>rw[hcc]at hcr;exact hcr.2.2.1.elim
       |leaf p w=>rw[hcc]at hcr;exact hcr.2.2.1.elim
       |row p c=>rw[hcc]at hcr;exact hcr.2.2.1.elim
    ·simp at hx;subst hx;simp[dep]
   have:=ZGK key;simp only[itemOf,dep];omega
 | .row p c,hc,hl=>by
   have hd:dep (ZY (itemOf c))<=3:=by
    unfold ZY;split
    ·simp[dep]
    ·rename_i hlt
     have:=ZBv hc.2.2.2 (by simp only[bytesOf];omega);cases hcc:c with
     |branch cs' w=>rw[hcc]at this;exact this
     |nil=>rw[hcc]at hc;exact hc.2.2.1.elim
     |leaf p w=>rw[hcc]at hc;exact hc.2.2.1.elim
     |row p c=>rw[hcc]at hc;exact hc.2.2.1.elim
   simp only[itemOf,dep,ZCz];omega
end Go.Trie
end
section
namespace Go.Trie
open Go.Vcg
def Z58:Nd->Prop
 | .nil=>True
 | .leaf p v=>p.length<=128/\v.length<=1024
 | .row p c=>p.length<=128/\Z58 c
 | .branch cs v=>v.length<=1024/\∀i,Z58 (cs i)
theorem Z70(p:By)(leaf:Bool)(h:p.length<=128):(Z1o p leaf).length<=65:=by
 unfold Z1o Z8a;split
 ·simp
 ·obtain⟨n,hn⟩:=Z6Q p leaf
  rw[Z71 n _ hn];have:(headed p leaf).length<=2+p.length:=by unfold headed;split<;>simp<;>omega
  omega
theorem ZEo(n:Nd):(enc (Z2U n)).length<=41:=by
 unfold Z2U ZY;split
 ·have:=Z3A (sumOf (enc (itemOf n)))
  rw[ZO]at this;omega
 ·omega
theorem Z6M(cs:Fin 16->Nd):∀(l:List (Fin 16)),(Z1r (l.map fun i=>ZY (itemOf (cs i)))).length<=41*l.length
 |[]=>by simp[Z1r]
 |i::r=>by
  have h1:=ZEo (cs i);have h2:=Z6M cs r;unfold Z2U at h1;simp only[List.map_cons,Z1r,G,J0];omega
theorem Z41{n:Nd}(h:Z58 n):(bytesOf n).length<=2000:=by
 cases n with
 |nil=>simp only[bytesOf,itemOf];have:=Z3A [];simp at this;omega
 |leaf p v =>
  have h1:=Z70 p JK h.1;have h2:=Z3A (Z1o p JK);have h3:=Z3A v;have h4:=h.2;simp only[bytesOf,itemOf];rw[enc];simp only[Z1r,G,J4];have:=ZB2 (enc (It.s (Z1o p JK))++(enc (It.s v)++[])).length 192;simp only[G,J4]at this;omega
 |row p c =>
  have h1:=Z70 p U h.1;have h2:=Z3A (Z1o p U);have h3:=ZEo c;unfold Z2U at h3;simp only[bytesOf,itemOf];rw[enc];simp only[Z1r,G,J4];have:=ZB2 (enc (It.s (Z1o p U))++(enc (ZY (itemOf c))++[])).length 192;simp only[G,J4]at this;omega
 |branch cs v =>
  have h1:=Z6M cs (J7 16);rw[JI]at h1;have h2:=Z3A v;have h3:=h.1;simp only[bytesOf,itemOf];rw[enc,Go.Proofs.YtfghidehlnfdiaaGreat.encs_append];simp only[Z1r,G,J4];have:=ZB2 (Z1r ((J7 16).map fun i=>ZY (itemOf (cs i)))++(enc (It.s v)++[])).length 192;simp only[G,J4]at this;omega
mutual
theorem Z3H:∀(x:It),count x<=(enc x).length
 | .s b=>by have:=ZDO (.s b);simp only[count];exact this
 | .l xs=>by
   have h1:=Z64 xs;have h2:=Z6r (Z1r xs).length 192;simp only[count,enc,G];omega
theorem Z64:∀(xs:List It),Z0h xs<=(Z1r xs).length
 |[]=>by simp[Z0h]
 |x::r=>by
  have h1:=Z3H x;have h2:=Z64 r;simp only[Z0h,Z1r,G];omega
end
theorem ZGJ{n:Nd}(h:Z0x n):dep (Z2U n)<=4:=by
 unfold Z2U ZY;split
 ·simp[dep]
 ·have:=ZBv h (by simp only[bytesOf];omega)
  cases n<;>simp only at this<;>omega
theorem Z8V{n:Nd}(h:Z0x n):dep (itemOf n)<=5:=by
 cases n with
 |nil=>simp[itemOf,dep]
 |leaf p v=>simp[itemOf,dep,ZCz]
 |row p c =>
  have:=ZGJ h.2.2.2;unfold Z2U at this;simp only[itemOf,dep,ZCz];omega
 |branch cs v =>
  have key:∀x∈((J7 16).map fun i=>ZY (itemOf (cs i)))++[.s v],dep x<=4:=by
   intro x hx;rcases List.mem_append.1 hx with hx|hx
   ·obtain⟨i,_,rfl⟩:=List.mem_map.1 hx
    exact ZGJ (h.1 i)
   ·simp at hx;subst hx;simp[dep]
  have:=ZGK key;simp only[itemOf,dep];omega
end Go.Trie
end
section
namespace Go.Trie
def be(b:By):Nat:=b.foldl (fun n d=>n*256+d.toNat) 0
theorem ZJS(b:By)(d:UInt8):be (b++[d])=be b*256+d.toNat:=by simp[be]
theorem ZJ4:∀(b:By) (n:Nat),b.foldl (fun n d=>n*256+d.toNat) n<(n+1)*256^b.length
 |[],n=>by simp
 |d::r,n=>by
  have h1:=ZJ4 r (n*256+d.toNat);have h2:=d.toNat_lt;have h3:(n*256+d.toNat+1)*256^r.length<=((n+1)*256)*256^r.length:=Nat.mul_le_mul_right _ (by omega);rw[List.foldl_cons,J0,Jw,Nat.mul_comm (256^r.length) 256,<-Nat.mul_assoc];omega
theorem ZKQ(b:By):be b<256^b.length:=by
 have:=ZJ4 b 0;simpa[be]using this
def hd(b:By):Except Int (Bool×Nat×Nat×Bool) :=
 let c:=(b.getD 0 0).toNat
 if c<128 then .ok (U,0,1,JK)
 else
  let base:=if c>=192 then 192 else 128
  if c-base<=55 then .ok (decide (c>=192),1,c-base,U)
  else
   let k:=c-base-55
   if b.length<1+k then J5 41
   else
    let m:=be ((b.drop 1).take k)
    if b.getD 1 0=0\/m<=55\/m>2147483648 then J5 40
    else .ok (decide (c>=192),1+k,m,U)
mutual
def dcd:Nat->Nat->Nat->By->Except Int (It×Nat×Nat)
 |0,_,_,_=>J5 0
 |f+1,d,n,b =>
  if b=[]then J5 41
  else if d>16\/n=4096 then J5 43
  else match hd b with
  | J5 e=>J5 e
  | .ok (lst,a,k,ow) =>
    if k>b.length-a then J5 41
    else if lst=U then
     (if ow=U/\own ((b.drop a).take k)=JK then J5 40 else .ok (.s ((b.drop a).take k),a+k,n+1))
    else match Z9l f (d+1) (n+1) ((b.drop a).take k)with
    | J5 e=>J5 e
    | .ok (xs,m)=>.ok (.l xs,a+k,m)
def Z9l:Nat->Nat->Nat->By->Except Int (List It×Nat)
 |0,_,_,_=>J5 0
 |f+1,d,n,b =>
  if b=[]then .ok ([],n)
  else match dcd f d n b with
  | J5 e=>J5 e
  | .ok (x,k,m)=>match Z9l f d m (b.drop k)with
    | J5 e=>J5 e
    | .ok (xs,m')=>.ok (x::xs,m')
end
def Z5z(b:By):Except Int It :=
 if b.length>65536 then J5 44
 else match dcd (2*b.length+1) 1 0 b with
 | J5 e=>J5 e
 | .ok (x,k,_)=>if k<b.length then J5 42 else .ok x
theorem ZJZ{b:By}{l o:Bool}{a k:Nat}(h:hd b=.ok (l,a,k,o))(hb:b≠[]) :
  (o=JK->l=U/\a=0/\k=1/\(b.getD 0 0).toNat<128)/\(o=U->1<=a/\a<=b.length/\∀base,(Z3P k base).length<=a):=by
 unfold hd at h;simp only at h;split at h
 ·rename_i hc
  cases h;exact⟨fun _=>⟨rfl,rfl,rfl,hc⟩,fun h=>by cases h⟩
 ·have hbl:1<=b.length:=List.length_pos_iff.2 hb
  generalize(if(b.getD 0 0).toNat>=192 then 192 else 128)=base at *
  split at h
  ·rename_i hle
   cases h;exact⟨fun h=>(by cases h),fun _=>⟨JB _,hbl,fun b=>by unfold Z3P;rw[if_pos hle];simp⟩⟩
  ·split at h
   ·cases h
   ·rename_i hlen
    split at h
    ·cases h
    ·cases h
     refine⟨fun h=>(by cases h),fun _=>⟨by omega,by omega,fun b'=>?_⟩⟩;have hm:=ZKQ ((b.drop 1).take ((b.getD 0 0).toNat-base-55));rw[Jc,Jd,Nat.min_eq_left (by omega)]at hm;generalize be ((b.drop 1).take ((b.getD 0 0).toNat-base-55))=m at *
     have hd:∀f q k,m<256^k->q=m->(digitsF f q).length<=k:=by
      clear hm
      have:∀f q k,q<256^k->(digitsF f q).length<=k:=by
       intro f
       induction f with
       |zero=>intro q k _;simp[digitsF]
       |succ f ih =>
        intro q k hq;simp only[digitsF];split
        ·simp
        ·rename_i hq0
         cases k with
         |zero=>simp at hq;omega
         |succ k =>
          rw[Jw]at hq;have:=ih (q/256) k (by omega);simp only[G,JQ];omega
      intro f q k h1 h2;exact this f q k (h2 ▸ h1)
     have:=hd 8 m _ hm rfl;unfold Z3P;split
     ·simp only[JQ];omega
     ·simp only[J0,Z3I];omega
theorem Z91:∀(f d n:Nat) (b:By),(∀x k m,dcd f d n b=.ok (x,k,m)->1<=k/\k<=b.length/\(enc x).length<=k/\dep x+d<=17/\m=n+count x/\(n<=4096->m<=4096)) /\
  (∀xs m,Z9l f d n b=.ok (xs,m)->(Z1r xs).length<=b.length/\(xs=[]\/ZCz xs+d<=17)/\m=n+Z0h xs/\(n<=4096->m<=4096))
 |0,_,_,_=>⟨fun x k m h=>by simp[dcd]at h,fun xs m h=>by simp[Z9l]at h⟩
 |f+1,d,n,b=>by
  refine⟨fun x k m h=>?_,fun xs m h=>?_⟩
  ·simp only[dcd]at h
   split at h
   ·cases h
   ·rename_i hb
    split at h
    ·cases h
    ·rename_i hdn
     split at h
     ·cases h
     ·rename_i lst a k' ow hh
      obtain⟨ho1,ho2⟩:=ZJZ hh hb;have hbl:1<=b.length:=List.length_pos_iff.2 hb;split at h
      ·cases h
      ·rename_i hk
       have hil:((b.drop a).take k').length=k':=by rw[Jc,Jd];omega
       split at h
       ·rename_i hl
        split at h
        ·cases h
        ·rename_i how
         cases h;cases ow with
         |true =>
          obtain⟨_,rfl,rfl,hc⟩:=ho1 rfl;refine⟨by omega,by omega,?_,by simp only[dep];omega,by simp only[count],by omega⟩
          obtain⟨c,r,rfl⟩:∃c r,b=c::r:=by cases b with
           |nil=>exact(hb rfl).elim
           |cons c r=>exact⟨c,r,rfl⟩
          simp only[Ju,List.take_succ_cons,JM,enc]
          have:own [c]=JK:=by
           simp only[own,decide_eq_true_eq];rw[UInt8.lt_iff_toNat_lt];simpa using hc
          rw[if_pos this];simp
         |false =>
          obtain⟨h1,h2,h3⟩:=ho2 rfl
          have hno:own ((b.drop a).take k')=U:=by
           cases hh:own ((b.drop a).take k')with
           |false=>rfl
           |true=>exact(how ⟨rfl,hh⟩).elim
          refine⟨by omega,by omega,?_,by simp only[dep];omega,by simp only[count],by omega⟩;simp only[enc];rw[hno,if_neg (by simp),G,hil];have:=h3 128;omega
       ·rename_i hl
        have hlt:lst=JK:=by cases lst<;>simp_all
        have hof:ow=U:=by
         cases ow with
         |true=>have:=(ho1 rfl).1;rw[hlt]at this;cases this
         |false=>rfl
        obtain⟨h1,h2,h3⟩:=ho2 hof;split at h
        ·cases h
        ·rename_i xs m' hr
         cases h;obtain⟨i1,i2,i3,i4⟩:=(Z91 f (d+1) (n+1) ((b.drop a).take k')).2 _ _ hr;rw[hil]at i1;refine⟨by omega,by omega,?_,?_,by simp only[count];omega,by omega⟩
         ·simp only[enc,G]
          have hmono:(Z3P (Z1r xs).length 192).length<=(Z3P k' 192).length:=by
           have hdl:∀f p q,p<=q->(digitsF f p).length<=(digitsF f q).length:=by
            intro f
            induction f with
            |zero=>intro p q _;simp[digitsF]
            |succ f ih =>
             intro p q hpq;simp only[digitsF];split
             ·simp
             ·rw[if_neg (by omega)]
              have:=ih (p/256) (q/256) (Nat.div_le_div_right hpq);simp only[G,JQ];omega
           unfold Z3P;split
           ·split<;>simp
           ·rw[if_neg (by omega)]
            simp only[J0,Z3I];have:=hdl 8 _ _ i1;omega
          have:=h3 192;omega
         ·simp only[dep]
          rcases i2 with rfl|i2
          ·simp only[ZCz];omega
          ·omega
  ·simp only[Z9l]at h
   split at h
   ·cases h
    exact⟨by simp[Z1r],.inl rfl,by simp[Z0h],by omega⟩
   ·rename_i hb
    split at h
    ·cases h
    ·rename_i x k m1 hx
     split at h
     ·cases h
     ·rename_i ys m2 hy
      cases h;obtain⟨a1,a2,a3,a4,a5,a6⟩:=(Z91 f d n b).1 _ _ _ hx;obtain⟨b1,b2,b3,b4⟩:=(Z91 f d m1 (b.drop k)).2 _ _ hy;rw[Jd]at b1;refine⟨?_,.inr ?_,?_,by omega⟩
      ·simp only[Z1r,G];omega
      ·simp only[ZCz]
       rcases b2 with rfl|b2
       ·simp only[ZCz];omega
       ·omega
      ·simp only[Z0h];omega
theorem ZJV{b:By}{x:It}(h:Z5z b=.ok x):b.length<=65536/\(enc x).length<=b.length/\dep x<=16/\count x<=4096:=by
 unfold Z5z at h;split at h
 ·cases h
 ·split at h
  ·cases h
  ·rename_i y k m hd
   split at h
   ·cases h
   ·cases h
    obtain⟨a1,a2,a3,a4,a5,a6⟩:=(Z91 _ _ _ _).1 _ _ _ hd;refine⟨by omega,by omega,by omega,by omega⟩
theorem ZDL(f d n:Nat):dcd (f+1) d n []=J5 41:=by simp[dcd]
theorem Z8U{f d n:Nat}{b:By}(hb:b≠[])(h:d>16\/n=4096):dcd (f+1) d n b=J5 43:=by simp only[dcd];rw[if_neg hb,if_pos h]
theorem ZGH{f d n:Nat}{b:By}(hb:b≠[])(h:¬(d>16\/n=4096)):dcd (f+1) d n b=(match hd b with
  | J5 e=>J5 e
  | .ok (lst,a,k,ow) =>
    if k>b.length-a then J5 41
    else if lst=U then
     (if ow=U/\own ((b.drop a).take k)=JK then J5 40 else .ok (.s ((b.drop a).take k),a+k,n+1))
    else match Z9l f (d+1) (n+1) ((b.drop a).take k)with
    | J5 e=>J5 e
    | .ok (xs,m)=>.ok (.l xs,a+k,m)):=by
 simp only[dcd];rw[if_neg hb,if_neg h]
theorem ZAt(f d n:Nat):Z9l (f+1) d n []=.ok ([],n):=by simp[Z9l]
theorem ZDM{f d n:Nat}{b:By}(hb:b≠[]):Z9l (f+1) d n b=(match dcd f d n b with
  | J5 e=>J5 e
  | .ok (x,k,m)=>match Z9l f d m (b.drop k)with
    | J5 e=>J5 e
    | .ok (xs,m')=>.ok (x::xs,m')):=by
 simp only[Z9l];rw[if_neg hb]
theorem ZEP{b:By}{l o:Bool}{a k:Nat}(h:hd b=.ok (l,a,k,o)):k<=2147483648:=by
 have h255:=(b.getD 0 0).toNat_lt;unfold hd at h;simp only at h;split at h
 ·cases h;decide
 ·generalize(if(b.getD 0 0).toNat>=192 then 192 else 128)=base at *
  split at h
  ·cases h;omega
  ·split at h
   ·cases h
   ·split at h
    ·cases h
    ·rename_i h';cases h;omega
end Go.Trie
end
section
namespace Go.Proofs.YtfghidehlnfdiaaGreat
open Go Go.Vcg Go.Trie
abbrev ZK5:JH:=197
abbrev ZEw:JH:=226
abbrev ZCn:JH:=241
abbrev ZIj:JH:=249
abbrev Z7I:JH:=244
abbrev ZBS:JH:=243
abbrev ZIk:JH:=251
abbrev tBranch:JH:=247
section
variable{C:Type}{S:C->Prop}{w w':T}{lab lab':Nat->C}{c:C}
def brA(vs:Fin 16->Value)(o:Option Addr)(l k:Nat):Array Value:=(Jr vs++[Value.slice o l k]).toArray
theorem Z1n(vs:Fin 16->Value)(o:Option Addr)(l k:Nat):(brA vs o l k).size=17:=by simp[brA]
theorem ZA4(vs:Fin 16->Value)(o:Option Addr)(l k:Nat)(i:Fin 16):(brA vs o l k)[i.val]?=J2 (vs i):=by
 unfold brA;rw[JG,JA (by rw[List.length_ofFn];exact i.isLt),JY,dif_pos i.isLt]
theorem Z8w(vs:Fin 16->Value)(o:Option Addr)(l k:Nat):(brA vs o l k)[16]?=J2 (.slice o l k):=by
 unfold brA;rw[JG,J9 (by simp)];simp
def Z04(w:T)(lab:Nat->C)(c:C):Nd->Value->Prop
 | .nil,v=>v=J1
 | .leaf p x,v=>∃b op cp ov cv,v=Jm ZCn (.pointer (J2 ⟨b,0,J⟩))/\CB w lab c b ZBS #[.slice op p.length cp,.slice ov x.length cv]/\CBy w lab c op p/\p.length<=cp/\CBy w lab c ov x
 | .row p k,v=>∃b op cp vk,v=Jm ZIj (.pointer (J2 ⟨b,0,J⟩))/\CB w lab c b ZIk #[.slice op p.length cp,vk]/\CBy w lab c op p/\p.length<=cp/\Z04 w lab c k vk
 | .branch cs x,v=>∃b vs ov cv,v=Jm Z7I (.pointer (J2 ⟨b,0,J⟩))/\CB w lab c b tBranch (brA vs ov x.length cv)/\CBy w lab c ov x/\∀i,Z04 w lab c (cs i) (vs i)
theorem Z04.stp(s:Stp S w lab w' lab')(hs:¬S c):∀{n:Nd} {v:Value},Z04 w lab c n v->Z04 w' lab' c n v
 | .nil,_,h=>h
 | .leaf p x,_,h=>by
   obtain⟨b,op,cp,ov,cv,h1,h2,h3,h4,h5⟩:=h;exact⟨b,op,cp,ov,cv,h1,h2.stp s hs,h3.stp s hs,h4,h5.stp s hs⟩
 | .row p k,_,h=>by
   obtain⟨b,op,cp,vk,h1,h2,h3,h4,h5⟩:=h;exact⟨b,op,cp,vk,h1,h2.stp s hs,h3.stp s hs,h4,Z04.stp s hs h5⟩
 | .branch cs x,_,h=>by
   obtain⟨b,vs,ov,cv,h1,h2,h3,h4⟩:=h;exact⟨b,vs,ov,cv,h1,h2.stp s hs,h3.stp s hs,fun i=>Z04.stp s hs (h4 i)⟩
theorem Z04.one{n:Nd}{v:Value}(h:Z04 w lab c n v):v.oneCell'=JK:=by
 cases n with
 |nil=>cases h;rfl
 |leaf p x=>obtain⟨b,op,cp,ov,cv,rfl,_⟩:=h;rfl
 |row p k=>obtain⟨b,op,cp,vk,rfl,_⟩:=h;rfl
 |branch cs x=>obtain⟨b,vs,ov,cv,rfl,_⟩:=h;rfl
end
theorem Z3L:Tryz.prog.underlying ZCn=J2 (.pointer ZBS):=by kernel_rfl
theorem Z5w:Tryz.prog.underlying ZIj=J2 (.pointer ZIk):=by kernel_rfl
theorem Z9e:Tryz.prog.underlying Z7I=J2 (.pointer tBranch):=by kernel_rfl
theorem Z1I:Tryz.prog.underlying ZEw=J2 (.pointer 228):=by kernel_rfl
theorem Z3m(w:T):(Je ZCn).run O w=.ok (.pointer J) w:=by kernel_rfl
theorem Z7Q(w:T):(Je ZIj).run O w=.ok (.pointer J) w:=by kernel_rfl
theorem ZCw(w:T):(Je Z7I).run O w=.ok (.pointer J) w:=by kernel_rfl
theorem Z0k(w:T):(Je ZEw).run O w=.ok (.pointer J) w:=by kernel_rfl
theorem Z7V{t e xt:JH}(ht:Tryz.prog.underlying t=J2 (.pointer e))(hz:∀w,(Je t).run O w=.ok (.pointer J) w)(w:T) :
  Jp O (J8 J1 xt t JK) w=.ok (Jf #[.pointer J,Z U]) w:=by
 unfold J8;simp only[JO,Zc ht,JC,if_true,hz,JW]
theorem Z8u{t e xt:JH}{x:Value}(ht:Tryz.prog.underlying t=J2 (.pointer e))(w:T) :
  Jp O (J8 (Jm t x) xt t JK) w=.ok (Jf #[x,Z JK]) w:=by
 unfold J8;simp only[JO,Zc ht,JC,if_true,JW]
theorem Z3o{t e xt u:JH}{x:Value}(ht:Tryz.prog.underlying t=J2 (.pointer e))(hz:∀w,(Je t).run O w=.ok (.pointer J) w)(hu:u≠t)(w:T) :
  Jp O (J8 (Jm u x) xt t JK) w=.ok (Jf #[.pointer J,Z U]) w:=by
 unfold J8;simp only[JO,Zc ht,JC,if_neg hu,if_true,hz,JW]
section
variable{C:Type}{S:C->Prop}{w w':T}{lab lab':Nat->C}{c:C}
theorem Z5s{n:Nd}{v:Value}(h:Z04 w lab c n v)(t:Nat) :
  JP O Z1k.n #[.pointer (J2 ⟨t,0,J⟩),v] w (fun e w'=>e=E (Jf #[v,JX JS 0])/\w'=w):=by
 refine Z1k.vc _ _ _ _ ?_;unfold Z1k.Vc;cases n with
 |nil =>
  cases h;exact⟨_,Z7V Z1I Z0k w,_,_,rfl,fun _=>⟨rfl,rfl⟩,fun h=>by cases h⟩
 |leaf p x =>
  obtain⟨b,op,cp,ov,cv,rfl,_⟩:=h;exact⟨_,Z3o Z1I Z0k (by decide) w,_,_,rfl,fun _=>⟨rfl,rfl⟩,fun h=>by cases h⟩
 |row p k =>
  obtain⟨b,op,cp,vk,rfl,_⟩:=h;exact⟨_,Z3o Z1I Z0k (by decide) w,_,_,rfl,fun _=>⟨rfl,rfl⟩,fun h=>by cases h⟩
 |branch cs x =>
  obtain⟨b,vs,ov,cv,rfl,_⟩:=h;exact⟨_,Z3o Z1I Z0k (by decide) w,_,_,rfl,fun _=>⟨rfl,rfl⟩,fun h=>by cases h⟩
def ZIq(vs:Fin 16->Value)(a:Nat)(v:Value):Fin 16->Value:=fun i=>if i.val=a then v else vs i
theorem ZDD(vs:Fin 16->Value)(o:Option Addr)(l k a:Nat)(ha:a<16)(v:Value):(brA vs o l k).setIfInBounds a v=brA (ZIq vs a v) o l k:=by
 apply Jo;intro i;rw[JV,Z1n];by_cases hi:i<16
 ·rw[ZA4 (ZIq vs a v) o l k ⟨i,hi⟩,ZA4 vs o l k ⟨i,hi⟩]
  unfold ZIq;by_cases hai:a=i
  ·subst hai;rw[if_pos rfl,if_pos (by omega),if_pos rfl]
  ·rw[if_neg hai,if_neg (fun e=>hai e.symm)]
 ·by_cases h16:i=16
  ·subst h16
   rw[if_neg (by omega),Z8w,Z8w]
  ·rw[if_neg (by omega),JE (by rw[Z1n];omega),JE (by rw[Z1n];omega)]
theorem ZEB(vs:Fin 16->Value)(o o':Option Addr)(l k l' k':Nat):(brA vs o l k).setIfInBounds 16 (.slice o' l' k')=brA vs o' l' k':=by
 apply Jo;intro i;rw[JV,Z1n];by_cases hi:i<16
 ·rw[if_neg (by omega),ZA4 vs o l k ⟨i,hi⟩,ZA4 vs o' l' k' ⟨i,hi⟩]
 ·by_cases h16:i=16
  ·subst h16
   rw[if_pos rfl,if_pos (by omega),Z8w]
  ·rw[if_neg (by omega),JE (by rw[Z1n];omega),JE (by rw[Z1n];omega)]
theorem ZGi{D:Nat}{vs:Fin 16->Value}{ov:Option Addr}{lv kv:Nat}{o ox:Option Addr}{k kx lx:Nat}{p:By}(B:Blk w D tBranch (brA vs ov lv kv))(hp:RdB w o p)(hn:Nib p) :
  JP O Z0v.n #[.pointer (J2 ⟨D,0,J⟩),.slice o p.length k,.slice ox lx kx] w (fun e w'=>e=E (Jf #[])/\Vcg.Mod (·=D) w w' /\
   (p=[]->Blk w' D tBranch (brA vs ox lx kx))/\∀a r,p=a::r->∃b,w.heap.size<=b/\Blk w' b ZBS #[.slice (subO o k 1 1) r.length (k-1),.slice ox lx kx]/\Blk w' D tBranch (brA (ZIq vs a.toNat (Jm ZCn (.pointer (J2 ⟨b,0,J⟩)))) ov lv kv)):=by
 refine ZD fun R hR=>Z0v.vc _ _ _ _ _ _ _ _ _ ?_;unfold Z0v.Vc;simp only[Z3,V];refine⟨fun h0=>?_,fun h0=>?_⟩
 ·have hp0:p=[]:=JT (by omega)
  subst hp0;refine⟨B.canSet (by rw[Z1n];omega) rfl,?_⟩;rintro _ rfl;have B1:=B.set 16 (.slice ox lx kx);rw[ZEB]at B1;exact hR _ _ ⟨rfl,Mod.setCell w ⟨D,16,J⟩ _,fun _=>B1,fun a r h=>by cases h⟩
 ·rintro _ rfl
  cases p with
  |nil=>simp at h0
  |cons a r =>
   have ha:a.toNat<16:=hn a (by simp);have MD:=Mod.drew (S:=NoB) w;obtain⟨b,f,rfl,hb,hc⟩:=Z0t (hp.mod' MD) (i:=0) (by simp);have B1:=B.mod' MD;generalize hw:w.drew=w1 at *
   have hsz:w1.heap.size=w.heap.size:=by rw[<-hw];rfl
   refine⟨_,rfl,by simp,_,by rw[Z3];exact hc,by simp,?_⟩;rintro d w2⟨rfl,rfl⟩;have L:=Blk.new w1 243 #[.slice (subO (J2 ⟨b,f,J⟩) k 1 1) ((a::r).length-1) (k-1),.slice ox lx kx];have M2:=Mod.alloc (S:=NoB) w1 (K #[.slice (subO (J2 ⟨b,f,J⟩) k 1 1) ((a::r).length-1) (k-1),.slice ox lx kx] 243);have B2:=B1.mod' M2;have hne:w1.heap.size≠D:=by have:=B1.lt;omega
   simp only[JF]at hc;refine⟨by rw[Z3];exact(ZN M2 hb (fun h=>h)).trans hc,by simp only[JF];omega,?_⟩;simp only[JF,J6];refine⟨B2.canSet (by rw[Z1n];omega) rfl,?_⟩;rintro _ rfl;have B3:=B2.set a.toNat (Jm ZCn (.pointer (J2 ⟨w1.heap.size,0,J⟩)));rw[ZDD _ _ _ _ _ ha]at B3;refine hR _ _ ⟨rfl,((MD.mono (fun _ _ h=>h.elim)).trans (M2.mono (fun _ _ h=>h.elim)) (fun _ _ h=>h)).trans (Mod.setCell _ ⟨D,a.toNat,J⟩ _) (fun _ _ h=>h),(fun h=>by cases h),?_⟩;rintro a' r' h;cases h;exact⟨w1.heap.size,by omega,L.set_ne (a:=⟨D,a.toNat,J⟩) hne,B3⟩
end
section
variable{C:Type}{S:C->Prop}{w w1 w':T}{lab lab':Nat->C}{c:C}
theorem Z1x{o:Option Addr}{l k:Nat}{bs:List UInt8}(F:ZU w w1 tU8 1 o l k (bs.map bV))(M:Vcg.Mod NoB w1 w'):CBy w' (ext lab w.heap.size c) c o bs :=
 ⟨F.own.bytes.mod' M,fun hne d hd=>ext_new (F.new d.block ⟨d,hd,rfl⟩)⟩
theorem ZAT(M:Vcg.Mod NoB w w1)(t:JH)(cs:Array Value):CB (w1.alloc (K cs t)) (ext lab w.heap.size c) c w1.heap.size t cs:=⟨Blk.new w1 t cs,ext_new M.size⟩
abbrev NoS{C:Type}:C->Prop:=fun _=>False
def ZJq:Nd->Nat
 | .leaf p _=>p.length
 | .row p _=>p.length
 |_=>0
theorem ZFZ{n:Nd}(h:Z58 n):ZJq n<=128:=by
 cases n with
 |nil=>simp[ZJq]
 |leaf p v=>exact h.1
 |row p k=>exact h.1
 |branch cs v=>simp[ZJq]
theorem Z9W{n:Nd}{v:Value}{o:Option Addr}{k:Nat}{p:By}(h:Z04 w lab c n v)(hs:ZJq n<=128)(hp:CBy w lab c o p)(hk:p.length<=k)(hl:p.length<=2^30) :
  JP O Z34.n #[.slice o p.length k,v] w (fun e w'=>∃v' lab',e=E v'/\Stp NoS w lab w' lab'/\Z04 w' lab' c (rowed p n) v'):=by
 refine ZD fun R hR=>Z34.vc _ _ _ _ _ _ ?_;unfold Z34.Vc;refine⟨fun h0=>?_,fun h0=>?_⟩
 ·have hp0:p=[]:=JT (by omega)
  subst hp0;exact hR _ _ ⟨v,lab,rfl,Stp.refl _ _ _,by unfold rowed;rw[if_pos rfl];exact h⟩
 have hpne:p≠[]:=by rintro rfl;simp at h0
 have mkrow:v.oneCell'=JK->(∀v',Z04 w lab c n v->rowed p n=.row p n)->R (E (Jm ZIj (.pointer (J2 ⟨w.heap.size,0,J⟩)))) (w.alloc (K #[.slice o p.length k,v] ZIk)):=fun _ hrow=>by
  have M:=Mod.alloc (S:=NoB) w (K #[.slice o p.length k,v] ZIk);have s:Stp NoS w lab (w.alloc (K #[.slice o p.length k,v] ZIk)) (ext lab w.heap.size c):=Stp.of_nob M _;refine hR _ _ ⟨_,_,rfl,s,?_⟩;rw[hrow v h];exact⟨_,o,k,v,rfl,ZAT (Mod.refl w) _ _,hp.stp s (fun h=>h),hk,h.stp s (fun h=>h)⟩
 have hone:=h.one;cases n with
 |nil =>
  have h':=h;cases h';refine⟨_,Z7V Z3L Z3m w,_,_,rfl,fun h=>(by cases h),fun _=>⟨_,Z7V Z5w Z7Q w,_,_,rfl,fun h=>(by cases h),fun _=>⟨hone,?_⟩⟩⟩;rintro d w2⟨rfl,rfl⟩;exact mkrow hone (fun _ _=>by unfold rowed;rw[if_neg hpne])
 |branch cs x =>
  have h':=h;obtain⟨b,vs,ov,cv,rfl,_⟩:=h';refine⟨_,Z3o Z3L Z3m (by decide) w,_,_,rfl,fun h=>(by cases h),fun _=>⟨_,Z3o Z5w Z7Q (by decide) w,_,_,rfl,fun h=>(by cases h),fun _=>⟨hone,?_⟩⟩⟩;rintro d w2⟨rfl,rfl⟩;exact mkrow hone (fun _ _=>by unfold rowed;rw[if_neg hpne])
 |leaf q x =>
  obtain⟨b,oq,cq,ox,cx,rfl,B,hq,hqc,hx⟩:=h;refine⟨_,Z8u Z3L w,_,_,rfl,fun _=>?_,fun h=>by cases h⟩;rintro _ rfl;have MD:=Mod.drew (S:=NoB) w;have B1:=B.blk.mod' MD;have hp1:=hp.rd.mod' MD;have hq1:=hq.rd.mod' MD;have hx1:=hx.rd.mod' MD;generalize w.drew=w1 at *
  simp only[Option.some.injEq,exists_eq_left',Z3,V];refine⟨_,_,_,B1.rd1 rfl,_,_,_,B1.rd1 rfl,?_⟩;refine(Z1s hp1 (by omega)).mono ?_;rintro _ w2⟨o2,k2,rfl,F2⟩;have B2:=B1.mod' F2.mod;have hsm:q.length<=128:=hs;obtain⟨o3,k3,w3,hr3,F3⟩:=ZX (ty:=Zw) (k2:=cq) F2 (hq1.mod' F2.mod) (by omega);have M3:=MD.trans F3.mod (fun _ _ h=>h);have B3:Blk w3 b ZBS #[.slice oq q.length cq,.slice ox x.length cx]:=B1.mod' F3.mod;refine⟨_,_,_,rfl,B2.rd1 rfl,B2.rd1 rfl,_,w3,hr3,_,_,_,rfl,B3.rd1 rfl,?_⟩;rintro d w4⟨rfl,rfl⟩;have M4:=M3.step_alloc (K #[.slice o3 (p.length+q.length) k3,.slice ox x.length cx] 243);have s:Stp NoS w lab (w3.alloc (K #[.slice o3 (p.length+q.length) k3,.slice ox x.length cx] 243)) (ext lab w.heap.size c):=Stp.of_nob M4 _;refine hR _ _ ⟨_,_,rfl,s,?_⟩;have hrw:rowed p (.leaf q x)=.leaf (p++q) x:=by unfold rowed;rw[if_neg hpne]
  rw[hrw];have hcap:=F3.own.cap.1;refine⟨w3.heap.size,o3,k3,ox,cx,rfl,?_,Z1x (ZU.from_ F3 MD) (Mod.alloc _ _),by rw[G];exact hcap,hx.stp s (fun h=>h)⟩;rw[G];exact ZAT M3 _ _
 |row q kid =>
  obtain⟨b,oq,cq,vk,rfl,B,hq,hqc,hkid⟩:=h;have honek:=hkid.one;refine⟨_,Z3o Z3L Z3m (by decide) w,_,_,rfl,fun h=>(by cases h),fun _=>⟨_,Z8u Z5w w,_,_,rfl,fun _=>?_,fun h=>by cases h⟩⟩;rintro _ rfl;have MD:=Mod.drew (S:=NoB) w;have B1:=B.blk.mod' MD;have hp1:=hp.rd.mod' MD;have hq1:=hq.rd.mod' MD;generalize w.drew=w1 at *
  simp only[Option.some.injEq,exists_eq_left',Z3,V];refine⟨_,_,_,B1.rd1 rfl,_,B1.rd1 rfl,?_⟩;refine(Z1s hp1 (by omega)).mono ?_;rintro _ w2⟨o2,k2,rfl,F2⟩;have B2:=B1.mod' F2.mod;have hsm:q.length<=128:=hs;obtain⟨o3,k3,w3,hr3,F3⟩:=ZX (ty:=Zw) (k2:=cq) F2 (hq1.mod' F2.mod) (by omega);have M3:=MD.trans F3.mod (fun _ _ h=>h);have B3:Blk w3 b ZIk #[.slice oq q.length cq,vk]:=B1.mod' F3.mod;refine⟨_,_,_,rfl,B2.rd1 rfl,B2.rd1 rfl,_,w3,hr3,_,_,_,rfl,B3.rd1 rfl,honek,?_⟩;rintro d w4⟨rfl,rfl⟩;have M4:=M3.step_alloc (K #[.slice o3 (p.length+q.length) k3,vk] 251);have s:Stp NoS w lab (w3.alloc (K #[.slice o3 (p.length+q.length) k3,vk] 251)) (ext lab w.heap.size c):=Stp.of_nob M4 _;refine hR _ _ ⟨_,_,rfl,s,?_⟩;have hrw:rowed p (.row q kid)=.row (p++q) kid:=by unfold rowed;rw[if_neg hpne]
  rw[hrw];have hcap:=F3.own.cap.1;refine⟨w3.heap.size,o3,k3,vk,rfl,?_,Z1x (ZU.from_ F3 MD) (Mod.alloc _ _),by rw[G];exact hcap,hkid.stp s (fun h=>h)⟩;rw[G];exact ZAT M3 _ _
end
def Btw(w0 w:T)(b:Nat):Prop:=w0.heap.size<=b/\b<w.heap.size
section
variable{C:Type}{S:C->Prop}{w0 w w1 w':T}{lab lab':Nat->C}{c:C}
theorem ZJo{w2:T}{o:Option Addr}{b:By}(h:RdB w0 o b):b≠[]->∀d,o=J2 d->¬Btw w0 w2 d.block:=by
 intro hne d hd hh;obtain⟨e,f,ho,he,_⟩:=h hne;rw[ho]at hd;cases hd;exact absurd hh.1 (Nat.not_le.2 he)
theorem ZGw{w2 w3:T}{ty:JH}{s:Nat}{o:Option Addr}{l k:Nat}{vs:List Value}(F:ZU w2 w3 ty s o l k vs){w1:T}(h:w1.heap.size<=w2.heap.size):∀d,o=J2 d->¬Btw w0 w1 d.block:=by
 intro d hd hh;have:=F.new d.block ⟨d,hd,rfl⟩;exact absurd hh.2 (by omega)
theorem ret3{A A':Nat->Prop}{N:Nat}{x:It}{v1 v2 v3 a b d:Value}{R:Ending->T->Prop}(X:Blk w N 111 #[a,b,d])(hI:ItC A w x v1 v2 v3)(hN:A N)(hA:∀b,A' b->A b)
  (hR:∀w',Vcg.Mod (·=N) w w'->ItC A' w' x v1 v2 v3->R (E (Jn #[v1,v2,v3])) w') :
  Z1 w ⟨N,0,J⟩ v1/\∀w1:T,ZA w ⟨N,0,J⟩ v1 w1->Z1 w1 ⟨N,1,J⟩ v2/\∀w2:T,ZA w1 ⟨N,1,J⟩ v2 w2->Z1 w2 ⟨N,2,J⟩ v3/\∀w3:T,ZA w2 ⟨N,2,J⟩ v3 w3 ->
   ∃b6:Bool,∃o7:Option Addr,∃l8:Nat,∃l9:Nat,∃o10:Option Addr,∃l11:Nat,∃l12:Nat,JU w3 ⟨N,0,J⟩=J2 (Z b6)/\JU w3 ⟨N,1,J⟩=J2 (.slice o7 l8 l9)/\JU w3 ⟨N,2,J⟩=J2 (.slice o10 l11 l12) /\
   R (E (Jn #[(Z b6),(.slice o7 l8 l9),(.slice o10 l11 l12)])) w3:=by
 obtain⟨b7,p7,q7,r7,p8,q8,r8,rfl,rfl,rfl⟩:=hI.vals;refine⟨X.canSet (by simp) rfl,?_⟩;rintro _ rfl;have X7:=X.set 0 (Z b7);have Q7:Vcg.Mod (·=N) w _:=Mod.setCell w ⟨N,0,J⟩ (Z b7);refine⟨X7.canSet (by simp) rfl,?_⟩;rintro _ rfl;have X8:=X7.set 1 (.slice p7 q7 r7);have Q8:=Q7.step_set (a:=⟨N,1,J⟩) (v:=.slice p7 q7 r7) (fun _=>rfl);refine⟨X8.canSet (by simp) rfl,?_⟩;rintro _ rfl;have X9:=X8.set 2 (.slice p8 q8 r8);have Q9:=Q8.step_set (a:=⟨N,2,J⟩) (v:=.slice p8 q8 r8) (fun _=>rfl);exact⟨_,_,_,_,_,_,_,X9.rd1 rfl,X9.rd1 rfl,X9.rd1 rfl,hR _ Q9 (ItC.mono hA x (ItC.modA Q9 (fun b h=>by subst h;exact hN) x hI))⟩
theorem Z88{o:Option Addr}{k:Nat}{p:By}(hp:RdB w o p)(hl:p.length<=2^30)(leaf:Bool) :
  JP O Z33.n #[.slice o p.length k,Z leaf] w (fun e w'=>∃o' k',e=E (.slice o' (Z1o p leaf).length k')/\ZU w w' tU8 1 o' (Z1o p leaf).length k' ((Z1o p leaf).map bV)):=by
 refine Z33.vc _ _ _ _ _ _ ?_;unfold Z33.Vc;refine(Z5l hp hl leaf).mono ?_;rintro _ w1⟨o',k',rfl,F⟩;exact⟨_,_,_,_,rfl,o',k',rfl,F⟩
theorem Z9E{b:Nat}{op:Option Addr}{cp:Nat}{ov:Option Addr}{cv:Nat}{p x:By}(B:Blk w0 b ZBS #[.slice op p.length cp,.slice ov x.length cv])(hp:RdB w0 op p)(hx:RdB w0 ov x)(hl:p.length<=2^30)(M0:Vcg.Mod NoB w0 w) :
  JP O Z1H.n #[.pointer (J2 ⟨b,0,J⟩)] w (fun e w'=>∃v1 v2 v3,e=E (Jn #[v1,v2,v3])/\ItC (Btw w0 w) w' (itemOf (.leaf p x)) v1 v2 v3/\Vcg.Mod NoB w w'):=by
 refine ZD fun R hR=>Z1H.vc _ _ _ ?_;unfold Z1H.Vc;rintro d1 w1⟨rfl,rfl⟩;rintro _ rfl;have X:=(Blk.new w 111 #[Z U,.slice J 0 0,.slice J 0 0]).mod' (Mod.drew (S:=NoB) _);have M1:=(Mod.alloc (S:=NoB) w (K #[Z U,.slice J 0 0,.slice J 0 0] 111)).step_drew;have hN:w.heap.size<(w.alloc (K #[Z U,.slice J 0 0,.slice J 0 0] 111)).drew.heap.size:=X.lt;generalize(w.alloc (K #[Z U,.slice J 0 0,.slice J 0 0] 111)).drew=w1 at *
 have M01:=M0.trans M1 (fun _ _ h=>h);have B1:=B.mod' M01;simp only[Z3,V];refine⟨_,_,_,B1.rd1 rfl,_,_,_,B1.rd1 rfl,?_⟩;refine(Z88 (hp.mod' M01) hl JK).mono ?_;rintro _ w2⟨o2,k2,rfl,F2⟩;have M2:=F2.mod;have B2:=B1.mod' M2;have M02:=M01.trans M2 (fun _ _ h=>h);refine⟨_,_,_,rfl,B2.rd1 rfl,?_⟩;refine(Z4b (A:=Btw w0 w1) (ZK F2) (fun _=>ZGw F2 (JB _))).mono ?_;rintro _ w3⟨v1,v2,v3,rfl,hI3,M3⟩;have M03:=M02.trans M3 (fun _ _ h=>h);obtain⟨b1,p1,q1,r1,p2,q2,r2,rfl,rfl,rfl⟩:=hI3.vals;refine⟨_,_,_,_,_,_,_,rfl,(B2.mod' M3).rd1 rfl,?_⟩;refine(Z4b (A:=Btw w0 w1) (hx.mod' M03) (ZJo hx)).mono ?_;rintro _ w4⟨v4,v5,v6,rfl,hI4,M4⟩;have M14:Vcg.Mod NoB w1 w4:=(M2.trans M3 (fun _ _ h=>h)).trans M4 (fun _ _ h=>h);obtain⟨b4,p4,q4,r4,p5,q5,r5,rfl,rfl,rfl⟩:=hI4.vals;refine⟨_,_,_,_,_,_,_,rfl,?_⟩;rintro d33 w5⟨rfl,rfl⟩;have Y:=Blk.new w4 111 #[Z b1,.slice p1 q1 r1,.slice p2 q2 r2,Z b4,.slice p4 q4 r4,.slice p5 q5 r5];have M5:=Mod.alloc (S:=NoB) w4 (K #[Z b1,.slice p1 q1 r1,.slice p2 q2 r2,Z b4,.slice p4 q4 r4,.slice p5 q5 r5] 111);have hI3':=ItC.mod (M4.trans M5 (fun _ _ h=>h)) _ hI3;have hI4':=ItC.mod M5 _ hI4;have hY:¬Btw w0 w1 w4.heap.size:=fun h=>absurd h.2 (by have:=M14.size;omega)
 have hIts:Z1q (Btw w0 w1) (w4.alloc (K #[Z b1,.slice p1 q1 r1,.slice p2 q2 r2,Z b4,.slice p4 q4 r4,.slice p5 q5 r5] 111)) [.s (Z1o p JK),.s x] (J2 ⟨w4.heap.size,0,J⟩) 0:=by
  simp only[Z1q];exact⟨⟨_,0,_,_,_,rfl,Y.lt,hY,Y.rd1 rfl,Y.rd1 rfl,Y.rd1 rfl,hI3'⟩,⟨_,0,_,_,_,rfl,Y.lt,hY,Y.rd1 rfl,Y.rd1 rfl,Y.rd1 rfl,hI4'⟩,trivial⟩
 refine(Z7j hIts (JB 2)).mono ?_;rintro _ w6⟨v7,v8,v9,rfl,hI6,M6⟩;have M16:Vcg.Mod NoB w1 w6:=M14.trans (M5.trans M6 (fun _ _ h=>h)) (fun _ _ h=>h);have X6:=X.mod' M16;have hret:=ret3 (A':=Btw w0 w) (R:=R) X6 hI6 ⟨M0.size,hN⟩ (fun b h=>⟨h.1,Jg h.2 hN⟩) (fun w7 Q hI7=>hR _ _ ⟨_,_,_,rfl,hI7,ZI (M1.trans M16 (fun _ _ h=>h)) Q (JB _)⟩);obtain⟨b7,p7,q7,r7,p8,q8,r8,rfl,rfl,rfl⟩:=hI6.vals;exact⟨_,_,_,_,_,_,_,rfl,hret⟩
end
section
variable{C:Type}{S:C->Prop}{w0 w w1 w':T}{lab lab':Nat->C}{c:C}
def Z6e(lab:Nat->C)(c:C)(n:Nd):Prop:=∀(w0 w:T) (v:Value),Z04 w0 lab c n v->Vcg.Mod NoB w0 w->v≠J1 ->
 ZA0 O v "moraine/trie.item" #[] w (fun e w'=>∃v1 v2 v3,e=E (Jn #[v1,v2,v3])/\ItC (Btw w0 w) w' (itemOf n) v1 v2 v3/\Vcg.Mod NoB w w')
def ZFB(lab:Nat->C)(c:C)(n:Nd):Prop:=∀(w0 w:T) (v:Value),Z04 w0 lab c n v->Vcg.Mod NoB w0 w ->
 JP O Z1l.n #[v] w (fun e w'=>∃v1 v2 v3,e=E (Jn #[v1,v2,v3])/\ItC (Btw w0 w) w' (Z2U n) v1 v2 v3/\Vcg.Mod NoB w w')
theorem Z8x{P:Program}{v:Value}{m:String}{args:Array Value}{w:T}{R R':Ending->T->Prop}(h:ZA0 P v m args w R)(hR:∀e w',R e w'->R' e w'):ZA0 P v m args w R':=by
 obtain⟨t,x,f,recv,h1,h2,h3,h4⟩:=h;exact⟨t,x,f,recv,h1,h2,h3,h4.mono hR⟩
theorem ZAD{n:Nd}(hI:Z6e lab c n)(hc:Z0x n)(hs:Z58 n){v:Value}(h:Z04 w0 lab c n v)(M:Vcg.Mod NoB w0 w)(hv:v≠J1) :
  JP O Z23.n #[v] w (fun e w'=>∃o k,e=E (.slice o (bytesOf n).length k)/\ZU w w' tU8 1 o (bytesOf n).length k ((bytesOf n).map bV)):=by
 refine Z23.vc _ _ _ ?_;unfold Z23.Vc;refine Z8x (hI w0 w v h M hv) ?_;rintro _ w1⟨v1,v2,v3,rfl,hI1,M1⟩;have h1:=Z41 hs;have h2:=Z3H (itemOf n);have h3:=Z8V hc;have hE:=Z3F hI1 (by omega) (by simp only[bytesOf]at h1;omega) (by simp only[bytesOf]at h1;omega);obtain⟨b4,p4,q4,r4,p5,q5,r5,rfl,rfl,rfl⟩:=hI1.vals;refine⟨_,_,_,_,_,_,_,rfl,hE.mono ?_⟩;rintro _ w2⟨o,k,rfl,F⟩;exact⟨_,_,_,_,rfl,o,k,rfl,ZU.from_ F M1⟩
theorem Z46{n:Nd}(hI:n≠.nil->Z6e lab c n)(hc:Z0x n)(hs:Z58 n):ZFB lab c n:=by
 intro w0 w v h M0;refine ZD fun R hR=>Z1l.vc _ _ _ ?_;unfold Z1l.Vc;rintro d1 w1⟨rfl,rfl⟩;have X:=Blk.new w 111 #[Z U,.slice J 0 0,.slice J 0 0];have M1:=Mod.alloc (S:=NoB) w (K #[Z U,.slice J 0 0,.slice J 0 0] 111);have hN:w.heap.size<(w.alloc (K #[Z U,.slice J 0 0,.slice J 0 0] 111)).heap.size:=X.lt;generalize w.alloc (K #[Z U,.slice J 0 0,.slice J 0 0] 111)=w1 at *
 have M01:=M0.trans M1 (fun _ _ h=>h);simp only[Z3,V]
 have fin:∀{w6:T}{x:It}{v1 v2 v3:Value},x=Z2U n->Vcg.Mod NoB w1 w6->ItC (Btw w0 w1) w6 x v1 v2 v3->Z1 w6 ⟨w.heap.size,0,J⟩ v1/\∀w2:T,ZA w6 ⟨w.heap.size,0,J⟩ v1 w2->Z1 w2 ⟨w.heap.size,1,J⟩ v2/\∀w3:T,ZA w2 ⟨w.heap.size,1,J⟩ v2 w3->Z1 w3 ⟨w.heap.size,2,J⟩ v3/\∀w4:T,ZA w3 ⟨w.heap.size,2,J⟩ v3 w4 ->
   ∃b6:Bool,∃o7:Option Addr,∃l8:Nat,∃l9:Nat,∃o10:Option Addr,∃l11:Nat,∃l12:Nat,JU w4 ⟨w.heap.size,0,J⟩=J2 (Z b6)/\JU w4 ⟨w.heap.size,1,J⟩=J2 (.slice o7 l8 l9)/\JU w4 ⟨w.heap.size,2,J⟩=J2 (.slice o10 l11 l12) /\
   R (E (Jn #[(Z b6),(.slice o7 l8 l9),(.slice o10 l11 l12)])) w4:=by
  intro w6 x v1 v2 v3 hx M6 hI6;subst hx;exact ret3 (A':=Btw w0 w) (R:=R) (X.mod' M6) hI6 ⟨M0.size,hN⟩ (fun b h=>⟨h.1,Jg h.2 hN⟩) (fun w7 Q hI7=>hR _ _ ⟨_,_,_,rfl,hI7,ZI (M1.trans M6 (fun _ _ h=>h)) Q (JB _)⟩)
 by_cases hnil:n=.nil
 ·subst hnil
  cases h;left;refine⟨rfl,fin (x:=.s []) (by unfold Z2U ZY;rw[if_neg (by simp[itemOf,enc,own,Trie.Z3P])];rfl) (Mod.refl _) ?_⟩;simp only[ItC];exact⟨trivial,⟨J,0,rfl,RdB.nil _ _,fun h=>(h rfl).elim⟩,trivial⟩
 ·right
  have hI:=hI hnil
  have hv:v≠J1/\Z7R v/\∃r,Jp O (J8 v 197 226 JK) w1=.ok r w1/\∃o,r=Jf #[.pointer o,Z U]:=by
   cases n with
   |nil=>exact(hnil rfl).elim
   |leaf p x =>
    obtain⟨b,op,cp,ov,cv,rfl,_⟩:=h;exact⟨by simp,⟨_,_,rfl⟩,_,Z3o Z1I Z0k (by decide) w1,_,rfl⟩
   |row p k =>
    obtain⟨b,op,cp,vk,rfl,_⟩:=h;exact⟨by simp,⟨_,_,rfl⟩,_,Z3o Z1I Z0k (by decide) w1,_,rfl⟩
   |branch cs x =>
    obtain⟨b,vs,ov,cv,rfl,_⟩:=h;exact⟨by simp,⟨_,_,rfl⟩,_,Z3o Z1I Z0k (by decide) w1,_,rfl⟩
  obtain⟨hv,hif,r,hr,o,rfl⟩:=hv;refine⟨hif,_,hr,_,_,rfl,fun h=>(by cases h),fun _=>?_⟩;refine(ZAD hI hc hs h M01 hv).mono ?_;rintro _ w2⟨o2,k2,rfl,F2⟩;have hbl:=Z41 hs;refine⟨_,_,_,rfl,fun h32=>?_,fun h32=>?_⟩
  ·rintro d40 w3⟨rfl,rfl⟩
   have L:=Blk.new w2 23 #[.slice o2 (bytesOf n).length k2];have M3:=Mod.alloc (S:=NoB) w2 (K #[.slice o2 (bytesOf n).length k2] 23);refine(Z4J [bytesOf n] rfl (by simp) (ZFn.one L ((ZK F2).mod' M3)) (by simp;omega)).mono ?_;rintro _ w4⟨rfl,M4⟩;refine⟨_,rfl,?_⟩;rintro d45 w5⟨rfl,rfl⟩;have H:=Blk.new w4 27 (Jt 32 (JX .u8 0));have M14:Vcg.Mod NoB w1 w4:=(F2.mod.trans M3 (fun _ _ h=>h)).trans M4 (fun _ _ h=>h);have M15:=M14.step_alloc (K (Jt 32 (JX .u8 0)) 27);refine⟨_,H.storeAll (L:=hashA (sumOf [bytesOf n].flatten)) (by rw[ZB];kernel_rfl) (by rw[ZB,Array.size_replicate]) (Z2k _),?_⟩;have H2:=H.row_same (hashA (sumOf [bytesOf n].flatten));have M16:=M15.step_row (g:=w4.heap.size) (cs:=hashA (sumOf [bytesOf n].flatten)) (fun h=>by have:=M14.size;omega)
   have hrd:RdB _ (J2 ⟨w4.heap.size,0,J⟩) (sumOf (bytesOf n)):=RdB.of_blk H2 (fun i hi=>by
    rw[ZO]at hi;simp only[List.flatten_cons,List.flatten_nil,Jh,V,hashA];exact ZF hi)
   have hl32:(sumOf (bytesOf n)).length=32:=ZO _;have htx:=Z4b (A:=Btw w0 w1) (k:=32) hrd (fun _ d hd hh=>by cases hd;exact absurd hh.2 (by have:=M14.size;dsimp only;omega));rw[hl32]at htx;refine htx.mono ?_;rintro _ w7⟨v1,v2,v3,rfl,hI7,M7⟩;have:=fin (by unfold Z2U ZY;rw[if_pos (by simp only[bytesOf]at h32;omega)];rfl) (M16.trans M7 (fun _ _ h=>h)) hI7;obtain⟨b4,p4,q4,r4,p5,q5,r5,rfl,rfl,rfl⟩:=hI7.vals;exact⟨_,_,_,_,_,_,_,rfl,this⟩
  ·refine Z8x (hI w0 w2 v h (M01.trans F2.mod (fun _ _ h=>h)) hv) ?_
   rintro _ w7⟨v1,v2,v3,rfl,hI7,M7⟩;have h12:=F2.mod.size;have:=fin (by unfold Z2U ZY;rw[if_neg (by simp only[bytesOf]at h32;omega)]) (F2.mod.trans M7 (fun _ _ h=>h)) (ItC.mono (fun b h=>⟨h.1,JD h.2 h12⟩) _ hI7);obtain⟨b4,p4,q4,r4,p5,q5,r5,rfl,rfl,rfl⟩:=hI7.vals;exact⟨_,_,_,_,_,_,_,rfl,this⟩
end
section
variable{C:Type}{S:C->Prop}{w0 w w1 w':T}{lab lab':Nat->C}{c:C}
theorem Z9x{kid:Nd}(hK:ZFB lab c kid){b:Nat}{op:Option Addr}{cp:Nat}{vk:Value}{p:By}(B:Blk w0 b ZIk #[.slice op p.length cp,vk])(hp:RdB w0 op p)(hl:p.length<=2^30)(hk:Z04 w0 lab c kid vk)(M0:Vcg.Mod NoB w0 w) :
  JP O Z1b.n #[.pointer (J2 ⟨b,0,J⟩)] w (fun e w'=>∃v1 v2 v3,e=E (Jn #[v1,v2,v3])/\ItC (Btw w0 w) w' (itemOf (.row p kid)) v1 v2 v3/\Vcg.Mod NoB w w'):=by
 refine ZD fun R hR=>Z1b.vc _ _ _ ?_;unfold Z1b.Vc;rintro d1 w1⟨rfl,rfl⟩;rintro _ rfl;have X:=(Blk.new w 111 #[Z U,.slice J 0 0,.slice J 0 0]).mod' (Mod.drew (S:=NoB) _);have M1:=(Mod.alloc (S:=NoB) w (K #[Z U,.slice J 0 0,.slice J 0 0] 111)).step_drew;have hN:w.heap.size<(w.alloc (K #[Z U,.slice J 0 0,.slice J 0 0] 111)).drew.heap.size:=X.lt;generalize(w.alloc (K #[Z U,.slice J 0 0,.slice J 0 0] 111)).drew=w1 at *
 have M01:=M0.trans M1 (fun _ _ h=>h);have B1:=B.mod' M01;simp only[Z3,V];refine⟨_,_,_,B1.rd1 rfl,_,B1.rd1 rfl,?_⟩;refine(Z88 (hp.mod' M01) hl U).mono ?_;rintro _ w2⟨o2,k2,rfl,F2⟩;have M2:=F2.mod;have B2:=B1.mod' M2;have M02:=M01.trans M2 (fun _ _ h=>h);refine⟨_,_,_,rfl,B2.rd1 rfl,?_⟩;refine(Z4b (A:=Btw w0 w1) (ZK F2) (fun _=>ZGw F2 (JB _))).mono ?_;rintro _ w3⟨v1,v2,v3,rfl,hI3,M3⟩;have M03:=M02.trans M3 (fun _ _ h=>h);have M13:=M2.trans M3 (fun _ _ h=>h);obtain⟨b1,p1,q1,r1,p2,q2,r2,rfl,rfl,rfl⟩:=hI3.vals;refine⟨_,_,_,_,_,_,_,rfl,(B2.mod' M3).rd1 rfl,?_⟩;refine(hK w0 w3 vk hk M03).mono ?_;rintro _ w4⟨v4,v5,v6,rfl,hI4,M4⟩;have M14:Vcg.Mod NoB w1 w4:=M13.trans M4 (fun _ _ h=>h)
 replace hI4:ItC (Btw w0 w1) w4 _ _ _ _:=ItC.mono (fun b h=>⟨h.1,JD h.2 M13.size⟩) _ hI4
 obtain⟨b4,p4,q4,r4,p5,q5,r5,rfl,rfl,rfl⟩:=hI4.vals;refine⟨_,_,_,_,_,_,_,rfl,?_⟩;rintro d33 w5⟨rfl,rfl⟩;have Y:=Blk.new w4 111 #[Z b1,.slice p1 q1 r1,.slice p2 q2 r2,Z b4,.slice p4 q4 r4,.slice p5 q5 r5];have M5:=Mod.alloc (S:=NoB) w4 (K #[Z b1,.slice p1 q1 r1,.slice p2 q2 r2,Z b4,.slice p4 q4 r4,.slice p5 q5 r5] 111);have hI3':=ItC.mod (M4.trans M5 (fun _ _ h=>h)) _ hI3;have hI4':=ItC.mod M5 _ hI4;have hY:¬Btw w0 w1 w4.heap.size:=fun h=>absurd h.2 (by have:=M14.size;omega)
 have hIts:Z1q (Btw w0 w1) (w4.alloc (K #[Z b1,.slice p1 q1 r1,.slice p2 q2 r2,Z b4,.slice p4 q4 r4,.slice p5 q5 r5] 111)) [.s (Z1o p U),Z2U kid] (J2 ⟨w4.heap.size,0,J⟩) 0:=by
  simp only[Z1q];exact⟨⟨_,0,_,_,_,rfl,Y.lt,hY,Y.rd1 rfl,Y.rd1 rfl,Y.rd1 rfl,hI3'⟩,⟨_,0,_,_,_,rfl,Y.lt,hY,Y.rd1 rfl,Y.rd1 rfl,Y.rd1 rfl,hI4'⟩,trivial⟩
 refine(Z7j hIts (JB 2)).mono ?_;rintro _ w6⟨v7,v8,v9,rfl,hI6,M6⟩;have M16:Vcg.Mod NoB w1 w6:=M14.trans (M5.trans M6 (fun _ _ h=>h)) (fun _ _ h=>h);have X6:=X.mod' M16;have hret:=ret3 (A':=Btw w0 w) (R:=R) X6 hI6 ⟨M0.size,hN⟩ (fun b h=>⟨h.1,Jg h.2 hN⟩) (fun w7 Q hI7=>hR _ _ ⟨_,_,_,rfl,hI7,ZI (M1.trans M16 (fun _ _ h=>h)) Q (JB _)⟩);obtain⟨b7,p7,q7,r7,p8,q8,r8,rfl,rfl,rfl⟩:=hI6.vals;exact⟨_,_,_,_,_,_,_,rfl,hret⟩
theorem ZGb(p x:By)(hl:p.length<=2^30):Z6e lab c (.leaf p x):=by
 intro w0 w v h M0 _;obtain⟨b,op,cp,ov,cv,rfl,B,hp,hk,hx⟩:=h;exact⟨_,_,Z1H.n,_,rfl,by kernel_rfl,by kernel_rfl,Z9E B.blk hp.rd hx.rd hl M0⟩
theorem ZIE{kid:Nd}(hK:ZFB lab c kid)(p:By)(hl:p.length<=2^30):Z6e lab c (.row p kid):=by
 intro w0 w v h M0 _;obtain⟨b,op,cp,vk,rfl,B,hp,hk,hkid⟩:=h;exact⟨_,_,Z1b.n,_,rfl,by kernel_rfl,by kernel_rfl,Z9x hK B.blk hp.rd hl hkid M0⟩
end
end Go.Proofs.YtfghidehlnfdiaaGreat
end
section
namespace Go.Proofs.YtfghidehlnfdiaaGreat
open Go Go.Vcg Go.Trie
section
variable{C:Type}{S:C->Prop}{A:Nat->Prop}{w0 w w1 w':T}{lab lab':Nat->C}{c:C}
mutual
theorem ItC.old{w:T}:∀(x:It) {v1 v2 v3:Value},ItC A w x v1 v2 v3->ItC (fun b=>A b\/w.heap.size<=b) w x v1 v2 v3
 | .s b,_,_,_,h=>by
   simp only[ItC]at h ⊢;obtain⟨h1,⟨o,c,h2,h3,h5⟩,h4⟩:=h;refine⟨h1,⟨o,c,h2,h3,fun hne d hd hh=>?_⟩,h4⟩;rcases hh with hh|hh
   ·exact h5 hne d hd hh
   ·obtain⟨e,f,ho,he,_⟩:=h3 hne
    rw[ho]at hd;cases hd;exact absurd he (Nat.not_lt.2 hh)
 | .l xs,_,_,_,h=>by
   simp only[ItC]at h ⊢;obtain⟨h1,h2,o,c,h3,h4,h5⟩:=h;exact⟨h1,h2,o,c,h3,Z1q.old xs h4,h5⟩
theorem Z1q.old{w:T}:∀(xs:List It) {o:Option Addr} {k:Nat},Z1q A w xs o k->Z1q (fun b=>A b\/w.heap.size<=b) w xs o k
 |[],_,_,_=>by simp only[Z1q]
 |x::r,_,_,h=>by
  simp only[Z1q]at h ⊢;obtain⟨⟨b,f,v1,v2,v3,ho,hb,hB,h1,h2,h3,h4⟩,h5⟩:=h;exact⟨⟨b,f,v1,v2,v3,ho,hb,fun hh=>hh.elim hB (fun hh=>absurd hb (Nat.not_lt.2 hh)),h1,h2,h3,ItC.old x h4⟩,Z1q.old r h5⟩
end
def Z4B(A:Nat->Prop)(w0 w:T)(xs:List It)(o:Option Addr)(l k:Nat):Prop :=
 l=xs.length/\∃vs,ZU w0 w ZBR 3 o l k vs/\∀j(hj:j<xs.length),∃v1 v2 v3,vs[j*3]?=J2 v1/\vs[j*3+1]?=J2 v2/\vs[j*3+2]?=J2 v3/\ItC (fun b=>A b\/OB o b) w xs[j] v1 v2 v3
theorem Z4B.nil(M:Vcg.Mod NoB w0 w):Z4B A w0 w [] J 0 0:=⟨rfl,[],ZU.nil M _ _,fun j hj=>absurd hj (by simp)⟩
theorem Z4B.mod'{xs:List It}{o:Option Addr}{l k:Nat}(h:Z4B A w0 w xs o l k)(M:Vcg.Mod NoB w w'):Z4B A w0 w' xs o l k:=by
 obtain⟨h1,vs,F,h2⟩:=h;refine⟨h1,vs,F.mod' M,fun j hj=>?_⟩;obtain⟨v1,v2,v3,a,b,d,e⟩:=h2 j hj;exact⟨v1,v2,v3,a,b,d,ItC.mod M _ e⟩
theorem Z4B.fmod{xs:List It}{o:Option Addr}{l k:Nat}(h:Z4B A w0 w xs o l k):Vcg.Mod NoB w0 w:=by
 obtain⟨h1,vs,F,h2⟩:=h;exact F.mod
theorem Z4B.push{xs:List It}{o:Option Addr}{l k:Nat}(h:Z4B A w0 w xs o l k){D:Nat}{x:It}{v1 v2 v3:Value}(B:Blk w D ZBR #[v1,v2,v3])(hx:ItC (fun b=>A b\/OB o b) w x v1 v2 v3)(hl:xs.length<=2^20) :
  ∃o' k' w',Jp O (builtinV .append #[109,109] 109 #[.slice o l k,.slice (J2 ⟨D,0,J⟩) 1 1]) w=.ok (.slice o' (l+1) k') w'/\Z4B A w0 w' (xs++[x]) o' (l+1) k'/\Vcg.Mod (OB o) w w'/\∀b,OB o' b->OB o b\/w.heap.size<=b:=by
 obtain⟨rfl,vs,F,hv⟩:=h;obtain⟨i,hi,hz,hs,hb⟩:=Z2Q ZCH;obtain⟨b,p1,q1,r1,p2,q2,r2,rfl,rfl,rfl⟩:=hx.vals;obtain⟨o',k',w',h1,h2,h3,h4⟩:=Z3Y (ty:=109) Z5x hi hz hs rfl F.own (Z52 Z5x B rfl (by simp[Value.oneCell'])) (by simp only[maxLen];omega) (by rw[hb];omega)
 have hF:ZU w0 w' ZBR 3 o' (xs.length+1) k' (vs++[Z b,.slice p1 q1 r1,.slice p2 q2 r2]):=by
  refine⟨h2,F.mod.trans h3 (fun k hk hob=>absurd (F.new k hob) (by omega)),fun k hk=>?_⟩;rcases h4 k hk with h5|h5
  ·exact F.new k h5
  ·exact Jx F.mod.size h5
 have hlen:vs.length=xs.length*3:=F.own.1
 have step:∀{y:It}{v1 v2 v3:Value},ItC (fun b=>A b\/OB o b) w y v1 v2 v3->ItC (fun b=>A b\/OB o' b) w' y v1 v2 v3:=fun hy =>
  ItC.mono (fun b hb=>hb.elim (fun h=>.inl (.inl h)) (fun h=>(h4 b h).elim (fun h=>.inl (.inr h)) .inr)) _ (ItC.modA h3 (fun b h=>.inl (.inr h)) _ (ItC.old _ hy))
 refine⟨o',k',w',h1,⟨by simp,_,hF,fun j hj=>?_⟩,h3,h4⟩;rw[G,J0,J4]at hj;by_cases hjx:j<xs.length
 ·obtain⟨v1,v2,v3,a,b,d,e⟩:=hv j hjx
  refine⟨v1,v2,v3,?_,?_,?_,?_⟩
  ·rw[JA (by omega)];exact a
  ·rw[JA (by omega)];exact b
  ·rw[JA (by omega)];exact d
  ·rw[List.getElem_append_left hjx];exact step e
 ·obtain rfl:j=xs.length:=by omega
  refine⟨Z b,.slice p1 q1 r1,.slice p2 q2 r2,?_,?_,?_,?_⟩
  ·rw[J9 (by omega),hlen,Jy];rfl
  ·rw[J9 (by omega),hlen,show xs.length*3+1-xs.length*3=1 by omega];rfl
  ·rw[J9 (by omega),hlen,show xs.length*3+2-xs.length*3=2 by omega];rfl
  ·rw[List.getElem_append_right (JB _)]
   simp only[Jy,JF];exact step hx
theorem ZES:∀(xs:List It) (k:Nat) {o:Option Addr},(∀j (hj:j<xs.length),∃g v1 v2 v3,o=J2 ⟨g,0,J⟩/\g<w.heap.size/\¬A g/\w.cell? ⟨g,(k+j)*3,J⟩=J2 v1/\w.cell? ⟨g,(k+j)*3+1,J⟩=J2 v2/\w.cell? ⟨g,(k+j)*3+2,J⟩=J2 v3/\ItC A w xs[j] v1 v2 v3)->Z1q A w xs o k
 |[],_,_,_=>by simp only[Z1q]
 |x::r,k,o,h=>by
  simp only[Z1q];constructor
  ·obtain⟨g,v1,v2,v3,a,b,d,e,f,h5,h6⟩:=h 0 (by simp)
   rw[Jv]at e f h5;exact⟨g,0,v1,v2,v3,a,b,d,by rw[V];exact e,by rw[V];exact f,by rw[V];exact h5,h6⟩
  ·refine ZES r (k+1) (fun j hj=>?_)
   obtain⟨g,v1,v2,v3,a,b,d,e,f,h5,h6⟩:=h (j+1) (by simpa using hj);rw[show k+(j+1)=k+1+j by omega]at e f h5;exact⟨g,v1,v2,v3,a,b,d,e,f,h5,h6⟩
theorem Z4B.its{xs:List It}{o:Option Addr}{l k:Nat}(h:Z4B A w0 w xs o l k)(hA:∀b,A b->b<w0.heap.size):Z1q A w xs o 0:=by
 obtain⟨rfl,vs,F,hv⟩:=h;refine ZES xs 0 (fun j hj=>?_);obtain⟨v1,v2,v3,a,b,d,e⟩:=hv j hj;obtain⟨g,ho,hc1⟩:=F.own.cell a;obtain⟨g',ho',hc2⟩:=F.own.cell b;obtain⟨g'',ho'',hc3⟩:=F.own.cell d;rw[ho]at ho' ho'';cases ho';cases ho'';rw[V];exact⟨g,v1,v2,v3,ho,F.own.lt ⟨_,ho,rfl⟩,fun h=>absurd (hA _ h) (Nat.not_lt.2 (F.new g ⟨_,ho,rfl⟩)),hc1,hc2,hc3,ItC.mono (fun _ h=>.inl h) _ e⟩
end
end Go.Proofs.YtfghidehlnfdiaaGreat
end
section
namespace Go.Vcg
theorem ZFe{P:Program}{t e:JH}{n j:Nat}{ie:TypeInfo}{cs:Array Value}{v:Value}(ht:P.underlying t=J2 (.array n e))(hi:P.info? e=J2 ie)(hs:ie.size=1)
  (ha:∀w,(isAgg e).run P w=.ok U w) (hj:j<n) (hv:cs[j]?=J2 v) (w:T) :
  Jp P (Jz t (Jn cs) (JX JS (j:Int))) w=.ok v w:=by
 unfold Jz;simp only[JO,asIntOf,JW,JC,Zc ht];rw[if_pos (by omega)];have h1:Z0f P e=1:=by unfold Z0f;rw[hi];exact hs
 simp only[JO,Z0s hi,JC,h1,Nat.mul_one,J6];unfold part;simp only[JO,ha,JC,Bool.false_eq_true,if_false,hv,JW]
end Go.Vcg
end
section
namespace Go.Proofs.YtfghidehlnfdiaaGreat
open Go Go.Vcg Go.Trie
abbrev tKids:JH:=245
theorem ZIo:Tryz.prog.underlying tKids=J2 (.array 16 ZK5):=by kernel_rfl
theorem ZGZ:(Tryz.prog.info? ZK5).map (fun i=>(i.zero,i.size,i.bytes))=J2 (J2 J1,1,16):=by kernel_rfl
theorem ZI2(w:T):(isAgg ZK5).run O w=.ok U w:=by kernel_rfl
section
variable{C:Type}{S:C->Prop}{w0 w w1 w':T}{lab lab':Nat->C}{c:C}
theorem Z7W{kids:Fin 16->Nd}(hK:∀i,ZFB lab c (kids i)){b:Nat}{vs:Fin 16->Value}{ov:Option Addr}{cv:Nat}{x:By}(B:Blk w0 b tBranch (brA vs ov x.length cv))(hx:RdB w0 ov x)(hk:∀i,Z04 w0 lab c (kids i) (vs i))(M0:Vcg.Mod NoB w0 w) :
  JP O Z0e.n #[.pointer (J2 ⟨b,0,J⟩)] w (fun e w'=>∃v1 v2 v3,e=E (Jn #[v1,v2,v3])/\ItC (Btw w0 w) w' (itemOf (.branch kids x)) v1 v2 v3/\Vcg.Mod NoB w w'):=by
 refine ZD fun R hR=>Z0e.vc _ _ _ ?_;unfold Z0e.Vc;rintro d1 w1⟨rfl,rfl⟩;have X:=Blk.new w 111 #[Z U,.slice J 0 0,.slice J 0 0];have M1:=Mod.alloc (S:=NoB) w (K #[Z U,.slice J 0 0,.slice J 0 0] 111);have hN:w.heap.size<(w.alloc (K #[Z U,.slice J 0 0,.slice J 0 0] 111)).heap.size:=X.lt;generalize w.alloc (K #[Z U,.slice J 0 0,.slice J 0 0] 111)=w1 at *
 have M01:=M0.trans M1 (fun _ _ h=>h);have B1:=B.mod' M01
 have hL:∀i,i<16->(brA vs ov x.length cv)[0+i]?=(Jr vs).toArray[i]?:=by
  intro i hi;rw[V,ZA4 vs ov x.length cv ⟨i,hi⟩,JG,JY,dif_pos hi]
 refine⟨(Jr vs).toArray,B1.rowAt (by simp) hL,?_⟩;have hA:∀b,Btw w0 w1 b->b<w1.heap.size:=fun b h=>h.2
 let done:Nat->List It:=fun j=>((J7 16).take j).map fun i=>ZY (itemOf (kids i))
 have hdl:∀j,j<=16->(done j).length=j:=fun j hj=>by simp only[done,Ji,Jc,JI];omega
 refine⟨fun o l k i w'=>∃j:Nat,i=(j:Int)/\j<=16/\Z4B (Btw w0 w1) w1 w' (done j) o l k,fun _ _ _ i _=>((16:Int)-i).toNat,⟨0,rfl,Jl _,Z4B.nil (Mod.refl w1)⟩,?_⟩;rintro o l k _ _ w2⟨j,rfl,hj,I⟩;have hl:=I.1;rw[hdl j hj]at hl;subst hl;have M12:=I.fmod;refine⟨fun hlt=>?_,fun hge=>?_⟩
 ·have hjl:l<16:=by omega
  obtain⟨ie,hie,hz,hs,hb⟩:=Z2Q ZGZ;have hv:(Jr vs).toArray[l]?=J2 (vs ⟨l,hjl⟩):=by rw[JG,JY,dif_pos hjl]
  refine⟨_,ZFe ZIo hie hs ZI2 hjl hv w2,_,rfl,?_⟩;refine(hK ⟨l,hjl⟩ w0 w2 _ (hk _) (M01.trans M12 (fun _ _ h=>h))).mono ?_;rintro _ w3⟨v1,v2,v3,rfl,hI,M3⟩;obtain⟨b4,p4,q4,r4,p5,q5,r5,rfl,rfl,rfl⟩:=hI.vals;refine⟨_,_,_,_,_,_,_,rfl,?_⟩;rintro d w4⟨rfl,rfl⟩;have Y:=Blk.new w3 111 #[Z b4,.slice p4 q4 r4,.slice p5 q5 r5];have M4:=Mod.alloc (S:=NoB) w3 (K #[Z b4,.slice p4 q4 r4,.slice p5 q5 r5] 111);have I4:=(I.mod' M3).mod' M4;have hob:∀b,OB o b->b<w2.heap.size:=fun b hb=>by obtain⟨_,vs',F,_⟩:=I;exact F.own.lt hb
  have hI':ItC (fun b=>Btw w0 w1 b\/OB o b) w3 (Z2U (kids ⟨l,hjl⟩)) (Z b4) (.slice p4 q4 r4) (.slice p5 q5 r5):=ItC.mono (fun b h=>h.elim (fun h=>⟨h.1,JD h.2 M12.size⟩) (fun h=>⟨Jx M01.size (by obtain⟨_,vs',F,_⟩:=I;exact F.new b h),hob b h⟩)) _ hI;obtain⟨o5,k5,w5,hr5,I5,_⟩:=I4.push Y (ItC.mod M4 _ hI') (by rw[hdl l hj];omega);refine⟨_,w5,hr5,_,_,_,rfl,⟨l+1,by rw[Z0 (by omega) (by omega)];omega,hjl,?_⟩,by dsimp only;rw[Z0 (by omega) (by omega)];omega⟩
  have e:done (l+1)=done l++[Z2U (kids ⟨l,hjl⟩)]:=by
   simp only[done];rw[JZ,JJ (by simpa using hjl),List.map_append];simp[Z2U]
  rw[e];exact I5
 ·obtain rfl:l=16:=by omega
  have B2:=B1.mod' M12;refine⟨_,_,_,by rw[Z3,V];exact B2.rd1 (Z8w vs ov x.length cv),?_⟩;have hob:∀b,OB o b->w1.heap.size<=b/\b<w2.heap.size:=fun b hb=>by obtain⟨_,vs',F,_⟩:=I;exact⟨F.new b hb,F.own.lt hb⟩
  refine(Z4b (A:=fun b=>Btw w0 w1 b\/OB o b) (hx.mod' (M01.trans M12 (fun _ _ h=>h))) (fun hne d hd hh=>by
   obtain⟨e,f,ho,he,_⟩:=hx hne;rw[ho]at hd;cases hd;rcases hh with hh|hh
   ·exact absurd hh.1 (Nat.not_le.2 he)
   ·have:=(hob _ hh).1
    have:=M01.size;exact absurd he (by dsimp only at *;omega))).mono ?_
  rintro _ w3⟨v1,v2,v3,rfl,hI3,M3⟩;obtain⟨b4,p4,q4,r4,p5,q5,r5,rfl,rfl,rfl⟩:=hI3.vals;refine⟨_,_,_,_,_,_,_,rfl,?_⟩;rintro d w4⟨rfl,rfl⟩;have Y:=Blk.new w3 111 #[Z b4,.slice p4 q4 r4,.slice p5 q5 r5];have M4:=Mod.alloc (S:=NoB) w3 (K #[Z b4,.slice p4 q4 r4,.slice p5 q5 r5] 111);obtain⟨o5,k5,w5,hr5,I5,_⟩:=((I.mod' M3).mod' M4).push Y (ItC.mod M4 _ hI3) (by rw[hdl 16 hj];omega);refine⟨_,w5,hr5,_,_,_,rfl,?_⟩;have hl5:(done 16++[It.s x]).length=17:=by rw[G,hdl 16 hj];rfl
  have hIts:=I5.its hA;have hLc:=Z7j (k:=k5) hIts (by obtain⟨h1,vs,F,_⟩:=I5;have:=F.own.cap.1;omega);rw[hl5]at hLc;refine hLc.mono ?_;rintro _ w6⟨v7,v8,v9,rfl,hI6,M6⟩;have M16:Vcg.Mod NoB w1 w6:=I5.fmod.trans M6 (fun _ _ h=>h);have X6:=X.mod' M16
  have e6:It.l (done 16++[It.s x])=itemOf (.branch kids x):=by
   simp only[done,itemOf];rw[List.take_of_length_le (by simp)]
  rw[e6]at hI6;have hret:=ret3 (A':=Btw w0 w) (R:=R) X6 hI6 ⟨M0.size,hN⟩ (fun b h=>⟨h.1,Jg h.2 hN⟩) (fun w7 Q hI7=>hR _ _ ⟨_,_,_,rfl,hI7,ZI (M1.trans M16 (fun _ _ h=>h)) Q (JB _)⟩);obtain⟨b7,p7,q7,r7,p8,q8,r8,rfl,rfl,rfl⟩:=hI6.vals;simp only[Z3,V];exact⟨_,_,_,_,_,_,_,rfl,hret⟩
theorem ZDV{kids:Fin 16->Nd}(hK:∀i,ZFB lab c (kids i))(x:By):Z6e lab c (.branch kids x):=by
 intro w0 w v h M0 _;obtain⟨b,vs,ov,cv,rfl,B,hx,hk⟩:=h;exact⟨_,_,Z0e.n,_,rfl,by kernel_rfl,by kernel_rfl,Z7W hK B.blk hx.rd hk M0⟩
theorem ZB5:∀(n:Nd),Z0x n->Z58 n->(n≠.nil->Z6e lab c n)/\ZFB lab c n
 | .nil,hc,hs=>⟨fun h=>(h rfl).elim,Z46 (fun h=>(h rfl).elim) hc hs⟩
 | .leaf p x,hc,hs=>by
   have hI:Z6e lab c (.leaf p x):=ZGb p x (by have:=hs.1;omega);exact⟨fun _=>hI,Z46 (fun _=>hI) hc hs⟩
 | .row p k,hc,hs=>by
   have ih:=ZB5 k hc.2.2.2 hs.2;have hI:Z6e lab c (.row p k):=ZIE ih.2 p (by have:=hs.1;omega);exact⟨fun _=>hI,Z46 (fun _=>hI) hc hs⟩
 | .branch cs x,hc,hs=>by
   have ih:=fun i=>ZB5 (cs i) (hc.1 i) (hs.2 i);have hI:Z6e lab c (.branch cs x):=ZDV (fun i=>(ih i).2) x;exact⟨fun _=>hI,Z46 (fun _=>hI) hc hs⟩
theorem ZAw{n:Nd}(hc:Z0x n)(hs:Z58 n)(hn:n≠.nil){v:Value}(h:Z04 w0 lab c n v)(M:Vcg.Mod NoB w0 w) :
  JP O Z23.n #[v] w (fun e w'=>∃o k,e=E (.slice o (bytesOf n).length k)/\ZU w w' tU8 1 o (bytesOf n).length k ((bytesOf n).map bV)) :=
 ZAD ((ZB5 n hc hs).1 hn) hc hs h M (by
  intro e;cases n with
  |nil=>exact hn rfl
  |leaf p x=>obtain⟨b,op,cp,ov,cv,rfl,_⟩:=h;cases e
  |row p k=>obtain⟨b,op,cp,vk,rfl,_⟩:=h;cases e
  |branch cs x=>obtain⟨b,vs,ov,cv,rfl,_⟩:=h;cases e)
end
section
variable{C C':Type}{S:C->Prop}{w0 w w1 w':T}{lab lab2:Nat->C}{lab':Nat->C'}{c:C}{c':C'}
theorem CB.re{b:Nat}{t:JH}{cs:Array Value}(h:CB w lab c b t cs)(hl:∀k,k<w.heap.size->lab k=c->lab' k=c'):CB w lab' c' b t cs :=
 ⟨h.blk,hl _ h.blk.lt h.clr⟩
theorem CBy.re{o:Option Addr}{bs:By}(h:CBy w lab c o bs)(hl:∀k,k<w.heap.size->lab k=c->lab' k=c'):CBy w lab' c' o bs:=by
 refine⟨h.rd,fun hne d hd=>?_⟩;obtain⟨b,f,ho,hb,_⟩:=h.rd hne;rw[ho]at hd;cases hd;exact hl _ hb (h.clr hne _ ho)
theorem Z04.re(hl:∀k,k<w.heap.size->lab k=c->lab' k=c'):∀{n:Nd} {v:Value},Z04 w lab c n v->Z04 w lab' c' n v
 | .nil,_,h=>h
 | .leaf p x,_,h=>by
   obtain⟨b,op,cp,ov,cv,h1,h2,h3,h4,h5⟩:=h;exact⟨b,op,cp,ov,cv,h1,CB.re h2 hl,CBy.re h3 hl,h4,CBy.re h5 hl⟩
 | .row p k,_,h=>by
   obtain⟨b,op,cp,vk,h1,h2,h3,h4,h5⟩:=h;exact⟨b,op,cp,vk,h1,CB.re h2 hl,CBy.re h3 hl,h4,Z04.re hl h5⟩
 | .branch cs x,_,h=>by
   obtain⟨b,vs,ov,cv,h1,h2,h3,h4⟩:=h;exact⟨b,vs,ov,cv,h1,CB.re h2 hl,CBy.re h3 hl,fun i=>Z04.re hl (h4 i)⟩
def Z9n(w:T)(lab:Nat->C)(c:C)(w':T)(n:Nd)(v:Value):Prop:=Vcg.Mod NoB w w'/\Z04 w' (ext lab w.heap.size c) c n v
theorem Z9n.stp{n:Nd}{v:Value}(h:Z9n w lab c w' n v):Stp NoS w lab w' (ext lab w.heap.size c):=Stp.of_nob h.1 c
theorem Z8Y{n:Nd}{v:Value}(s:Stp NoS w lab w' lab2)(h:Z04 w' lab2 c n v):Z9n w lab c w' n v:=by
 refine⟨s.nob (fun _ _ h=>h),h.re (fun k hk hc=>?_)⟩;by_cases hlt:k<w.heap.size
 ·rw[Z1M hlt,<-s.lab k hlt];exact hc
 ·exact ext_new (by omega)
theorem Zs(k:By):Nib (nibbles k):=by
 intro x hx;obtain⟨a,_,ha⟩:=List.mem_flatMap.1 hx
 have h1:(a>>>4).toNat<16:=by
  have:∀n:Fin 256,(UInt8.ofFin n>>>4).toNat<16:=by decide +kernel
  exact this a.toFin
 have h2:(a&&&15).toNat<16:=by
  have:∀n:Fin 256,(UInt8.ofFin n&&&15).toNat<16:=by decide +kernel
  exact this a.toFin
 simp only[List.mem_cons,List.mem_nil_iff,or_false]at ha;rcases ha with rfl|rfl
 ·exact h1
 ·exact h2
def says(r:Option By):By×Bool:=match r with
 |some v=>(v,JK)
 |none=>([],U)
end
end Go.Proofs.YtfghidehlnfdiaaGreat
end
section
namespace Go.Trie
theorem ZJj(cs:Fin 16->Nd)(v x:By):lay cs v [] x=.branch cs x:=rfl
theorem ZII(cs:Fin 16->Nd)(v x:By)(a:UInt8)(r:By):lay cs v (a::r) x=.branch (upd cs a (.leaf r x)) v:=rfl
end Go.Trie
end
section
namespace Go.Proofs.YtfghidehlnfdiaaGreat
open Go Go.Vcg Go.Trie
section
variable{C:Type}{S:C->Prop}{w0 w w1 w':T}{lab lab2:Nat->C}{c:C}
structure Z6E (w:T) (lab:Nat->C) (c:C) (D:Nat) (cs:Fin 16->Nd) (x:By):Prop where
 mk::(ex:∃vs ov cv,Blk w D tBranch (brA vs ov x.length cv)/\CBy w lab c ov x/\∀i,Z04 w lab c (cs i) (vs i))
theorem Z6E.node{D:Nat}{cs:Fin 16->Nd}{x:By}(h:Z6E w lab c D cs x)(hD:lab D=c):Z04 w lab c (.branch cs x) (Jm Z7I (.pointer (J2 ⟨D,0,J⟩))):=by
 obtain⟨vs,ov,cv,h1,h2,h3⟩:=h.ex;exact⟨D,vs,ov,cv,rfl,⟨h1,hD⟩,h2,h3⟩
theorem Z6E.stp{lab':Nat->C}{D:Nat}{cs:Fin 16->Nd}{x:By}(h:Z6E w lab c D cs x)(s:Stp S w lab w' lab')(hs:¬S c)(hD:¬S (lab D)):Z6E w' lab' c D cs x:=by
 obtain⟨vs,ov,cv,h1,h2,h3⟩:=h.ex;exact⟨⟨vs,ov,cv,(s.block D h1.lt hD).trans h1,h2.stp s hs,fun i=>(h3 i).stp s hs⟩⟩
theorem Z6E.re{C':Type}{lab':Nat->C'}{c':C'}{D:Nat}{cs:Fin 16->Nd}{x:By}(h:Z6E w lab c D cs x)(hl:∀k,k<w.heap.size->lab k=c->lab' k=c'):Z6E w lab' c' D cs x:=by
 obtain⟨vs,ov,cv,h1,h2,h3⟩:=h.ex;exact⟨⟨vs,ov,cv,h1,CBy.re h2 hl,fun i=>Z04.re hl (h3 i)⟩⟩
abbrev br0:Array Value:=#[J1,J1,J1,J1,J1,J1,J1,J1,J1,J1,J1,J1,J1,J1,J1,J1,(.slice J 0 0)]
theorem ZKR:br0=brA (fun _=>J1) J 0 0:=by kernel_rfl
theorem Z6E.new(w:T)(lab:Nat->C)(c:C):Z6E (w.alloc (K br0 tBranch)) lab c w.heap.size Z0D []:=by
 refine⟨⟨fun _=>J1,J,0,?_,CBy.nil _ _ _ _,fun i=>rfl⟩⟩;have:=Blk.new w tBranch br0;rw[ZKR]at this ⊢;exact this
theorem ZGh{D:Nat}{cs:Fin 16->Nd}{v p x:By}{o ox:Option Addr}{k kx:Nat}(h:Z6E w lab c D cs v)(hD:lab D≠c)(hp:CBy w lab c o p)(hpk:p.length<=k)(hn:Nib p)(hx:CBy w lab c ox x) :
  JP O Z0v.n #[.pointer (J2 ⟨D,0,J⟩),.slice o p.length k,.slice ox x.length kx] w (fun e w'=>e=E (Jf #[])/\Vcg.Mod (·=D) w w' /\
   ∃cs' v',lay cs v p x=.branch cs' v'/\Z6E w' (ext lab w.heap.size c) c D cs' v'):=by
 obtain⟨vs,ov,cv,h1,h2,h3⟩:=h.ex;refine(ZGi (kx:=kx) h1 hp.rd hn).mono ?_;rintro _ w1⟨rfl,M,hnil,hcons⟩;have s:Stp (fun z=>z≠c) w lab w1 (ext lab w.heap.size c):=Stp.of_mod M c (fun k hk e=>by subst e;exact hD);refine⟨rfl,M,?_⟩;cases p with
 |nil=>exact⟨cs,x,ZJj _ _ _,⟨⟨vs,ox,kx,hnil rfl,hx.stp s (fun h=>h rfl),fun i=>(h3 i).stp s (fun h=>h rfl)⟩⟩⟩
 |cons a r =>
  obtain⟨b,hb,hB,hD'⟩:=hcons a r rfl;refine⟨_,_,ZII _ _ _ _ _,⟨⟨_,ov,cv,hD',h2.stp s (fun h=>h rfl),fun i=>?_⟩⟩⟩;unfold Trie.upd ZIq;split
  ·have hsub:=hp.sub (lo:=1) (n:=r.length) hpk
   simp only[List.drop_succ_cons,Ju,Jb]at hsub;exact⟨b,_,_,ox,kx,rfl,⟨hB,ext_new hb⟩,hsub.stp s (fun h=>h rfl),by simp at hpk ⊢;omega,hx.stp s (fun h=>h rfl)⟩
  ·exact(h3 i).stp s (fun h=>h rfl)
end
end Go.Proofs.YtfghidehlnfdiaaGreat
end
