/- Contracts: put. -/
/- The verification conditions of some functions, printed by a program of ours (wip/PrintVc.lean). -/
/- Contracts: collapsed. -/
/- Contracts: remove, pruned. -/
/- Hashes as keys of maps; rows of nodes with their hashes. -/
/- Contracts: Nodes, its closure. -/
/- Contracts: New, Empty, Root, Put, Delete, Nodes. -/
/- Contracts: Nodes; bounds on how many nodes there are. -/
/- Contracts: Nodes. -/
/- Sorted entries and the canonical trie that they make: plain Lean. -/
/- Contracts of the reference: comparison, heads, strings, lists, nibbles. -/
import Derived.Test.YtfghidehlnfdiaaGreatTP16
import Derived.Test.YtfghidehlnfdiaaGreatXMem
import Derived.Test.YtfghidehlnfdiaaGreatProg
import Derived.KernelRfl
import Derived.Test.YtfghidehlnfdiaaGreatTP3
import Derived.Maps.Keyed
import Derived.DeepKeys5
set_option linter.unusedVariables false
set_option linter.unusedSimpArgs false
open Array renaming getElem?_toList->JB,length_toList->E,replicate->U,size->Jm
open Bool renaming eq_iff_iff->Jt,false->JL,true->Jk
open Go renaming Calls->A,Ending->JP,TypeId->Jq,World->X
open Go.Builtin renaming append->J8
open Go.Ending renaming returned->V
open Go.Instr renaming storeAt->JG
open Go.IntKind renaming i64->Q,u8->K,wrap->J
open Go.Obj renaming cells->J0
open Go.Proofs.Tryz renaming prog->Y
open Go.Result renaming ok->Ja
open Go.Sem renaming run->J1
open Go.Value renaming agg->JK,bool->Q2,nilIface->Je,pointer->J3,tuple->JN
open Int renaming tdiv->Jd,tmod->JQ,toNat->JI,toNat_natCast->J4
open List renaming cons_append->JT,drop_eq_getElem_cons->JC,drop_left->JY,drop_of_length_le->JF,drop_succ_cons->JW,drop_zero->Ji,eq_nil_of_length_eq_zero->JU,finRange->JJ,getD_eq_getElem?_getD->JH,getElem?_append_left->JD,getElem?_append_right->JA,getElem?_eq_getElem->J6,getElem?_eq_none->Jg,getElem?_toArray->JR,getElem_cons_zero->JO,length->Q1,length_append->W,length_cons->JS,length_drop->I,length_take->Jc,map_cons->Jv,mem_append->Jf,mem_map->Jz,mem_of_getLast?->Jj,mem_singleton->Jl,pairwise_cons->Jn,pairwise_map->Jo,sum_cons->Jw,take_add_one->Jb,take_append_drop->Jh,take_length->Jp,take_of_length_le->J2
open Nat renaming add_comm->Q0,add_zero->Jx,le_refl->J7,sub_zero->Jy,zero_add->JX,zero_le->Jr
open Option renaming none->J5,some->O
open Option.some renaming inj->Js,injEq->JE
open UInt8 renaming lt_irrefl->JV,lt_trans->Ju,ofFin->JM,ofNat->J9,toNat_ofNat'->JZ
section
namespace Go.Trie
theorem Z9O(cs:Fin 16->Nd)(y:By)(a:UInt8)(r x:By)(ha:a.toNat<16):put (.branch cs y) (a::r) x=.branch (fun i=>if i.val=a.toNat then put (cs ⟨a.toNat,ha⟩) r x else cs i) y:=by
 simp only[put];congr 1;funext i;by_cases hi:i.val=a.toNat
 ·rw[if_pos hi,if_pos hi,show i=⟨a.toNat,ha⟩from Fin.ext hi]
 ·rw[if_neg hi,if_neg hi]
end Go.Trie
end
section
namespace Go.Proofs.YtfghidehlnfdiaaGreat
open Go Go.Vcg Go.Trie
section
variable{C:Type}{S:C->Prop}{w0 w w1 w':X}{lab lab2:Nat->C}{c:C}
def ZEb(lab:Nat->C)(c:C)(N D:Nat):Nat->Prop:=fun k=>k≠D/\(k<N->lab k=c)
theorem Stp.same{C:Type}{w w':X}(M:Vcg.Mod NoB w w')(L:Nat->C):Stp NoS w L w' L:=⟨M.os,M.tape,M.output,M.size,fun _ _=>rfl,fun k hk _=>M.block k hk (fun h=>h)⟩
theorem ZDY{N D:Nat}(hN:w.heap.size<=N)(hD:N<=D):∀k,k<w.heap.size->lab k=c->ZEb lab c N D k=True:=fun k hk hc=>eq_true ⟨by omega,fun _=>hc⟩
theorem ZAS{N D:Nat}:ZEb lab c N D D≠True:=fun h=>(of_eq_true h).1 rfl
theorem Z9G{N D M:Nat}(hN:N<=M)(hD:D<M):∀k,M<=k->ZEb lab c N D k=True:=fun k hk=>eq_true ⟨by omega,fun h=>by omega⟩
theorem ZIN{N D:Nat}(w:X):∀k,k<w.heap.size->ZEb lab c N D k=True->ext lab N c k=c:=fun k _ h=>by
 by_cases hk:k<N
 ·rw[Z1M hk];exact(of_eq_true h).2 hk
 ·exact ext_new (by omega)
theorem ZHf{L:Nat->Prop}{M:Nat}(w:X)(h:∀k,M<=k->L k=True):∀k,k<w.heap.size->ext L M True k=True->L k=True:=fun k _ he=>by
 by_cases hk:k<M
 ·rw[Z1M hk]at he;exact he
 ·exact h k (by omega)
theorem Z6E.kid{D a:Nat}{cs:Fin 16->Nd}{x:By}{L:Nat->C}{n:Nd}{v:Value}(h:Z6E w L c D cs x)(hD:L D≠c)(ha:a<16)(hn:Z04 w L c n v) :
  Z1 w ⟨D,a,J5⟩ v/\Z6E (w.setCell ⟨D,a,J5⟩ v) L c D (fun i=>if i.val=a then n else cs i) x:=by
 obtain⟨vs,ov,cv,h1,h2,h3⟩:=h.ex;have B1:=h1.set a v;rw[ZDD _ _ _ _ _ ha]at B1;have s:Stp (fun z=>z≠c) w L (w.setCell ⟨D,a,J5⟩ v) L:=Stp.setCell hD;refine⟨h1.canSet (by rw[Z1n];omega) hn.one,⟨⟨_,ov,cv,B1,h2.stp s (fun h=>h rfl),fun i=>?_⟩⟩⟩;unfold ZIq;split
 ·exact hn.stp s (fun h=>h rfl)
 ·exact(h3 i).stp s (fun h=>h rfl)
theorem Z6E.val{D:Nat}{cs:Fin 16->Nd}{x y:By}{L:Nat->C}{o:Option Addr}{k:Nat}(h:Z6E w L c D cs x)(hD:L D≠c)(hy:CBy w L c o y) :
  Z1 w ⟨D,16,J5⟩ (.slice o y.length k)/\Z6E (w.setCell ⟨D,16,J5⟩ (.slice o y.length k)) L c D cs y:=by
 obtain⟨vs,ov,cv,h1,h2,h3⟩:=h.ex;have B1:=h1.set 16 (.slice o y.length k);rw[ZEB]at B1;have s:Stp (fun z=>z≠c) w L (w.setCell ⟨D,16,J5⟩ (.slice o y.length k)) L:=Stp.setCell hD;exact⟨h1.canSet (by rw[Z1n];omega) rfl,⟨⟨_,o,k,B1,hy.stp s (fun h=>h rfl),fun i=>(h3 i).stp s (fun h=>h rfl)⟩⟩⟩
theorem Z6E.grown{N D:Nat}{cs:Fin 16->Nd}{x:By}(h:Z6E w1 (ZEb lab c w.heap.size D) True D cs x)(M:Vcg.Mod NoB w w1)(hD:w.heap.size<=D):Z9n w lab c w1 (.branch cs x) (.iface Z7I (J3 (O ⟨D,0,J5⟩))) :=
 ⟨M,(Z6E.re h (ZIN w1)).node (ext_new hD)⟩
theorem Z9n.rowed{w2:X}{n:Nd}{v:Value}{o:Option Addr}{k:Nat}{p:By}(h:Z9n w lab c w1 n v)(hs:ZJq n<=128)(hp:CBy w lab c o p)(hk:p.length<=k)(hl:p.length<=2^30) :
  A Y Z34.n #[.slice o p.length k,v] w1 (fun e w2=>∃v',e=V v'/\Z9n w lab c w2 (rowed p n) v'):=by
 refine(Z9W h.2 hs (hp.stp (S:=NoS) h.stp (fun h=>h)) hk hl).mono ?_;rintro _ w2⟨v',lab',rfl,s,h'⟩;exact⟨v',rfl,Z8Y (h.stp.trans s) h'⟩
end
theorem ZDU:(Tryz.prog.info? tBranch).map (·.size)=O 17:=by kernel_rfl
theorem ZCT{C:Type}{w:X}{lab:Nat->C}{c:C}{cs:Fin 16->Nd}{vs:Fin 16->Value}{o:Option Addr}{l k:Nat}(h:∀i,Z04 w lab c (cs i) (vs i)):∀v∈(brA vs o l k).toList,v.oneCell'=Jk:=by
 intro v hv;simp only[brA,Jf,List.mem_ofFn,Jl]at hv;rcases hv with⟨i,rfl⟩|rfl
 ·exact(h i).one
 ·rfl
theorem Z7q:∀(n:Nd) {C:Type} {w:X} {lab:Nat->C} {c:C} {v:Value} {o ox:Option Addr} {k kx t:Nat} {p x:By},Z04 w lab c n v->Z0x n->Z58 n->CBy w lab c o p->p.length<=k->p.length<=128->Nib p->CBy w lab c ox x->x.length<=1024 ->
  A Y Zy.n #[J3 (O ⟨t,0,J5⟩),v,.slice o p.length k,.slice ox x.length kx] w (fun e w'=>∃v',e=V (JN #[v',.int Q 0])/\Z9n w lab c w' (Trie.put n p x) v')
 | .nil,C,w,lab,c,v,o,ox,k,kx,t,p,x,h,hc,hs,hp,hk,hpl,hn,hx,hxl=>by
   refine ZD fun R hR=>Zy.vc _ _ _ _ _ _ _ _ _ _ ?_;unfold Zy.Vc;refine(Z5s h t).mono ?_;rintro _ w⟨rfl,rfl⟩;cases h;refine⟨_,_,rfl,fun h=>(h rfl).elim,fun _=>⟨_,Z7V Z3L Z3m _,_,_,rfl,fun h=>(by cases h),fun _=>⟨_,Z7V Z5w Z7Q _,_,_,rfl,fun h=>(by cases h),fun _=>⟨_,Z7V Z9e ZCw _,_,_,rfl,fun h=>(by cases h),fun _=>?_⟩⟩⟩⟩;rintro d w2⟨rfl,rfl⟩;have M:=Mod.alloc (S:=NoB) w (J0 #[.slice o p.length k,.slice ox x.length kx] ZBS);have s:Stp NoS w lab (w.alloc (J0 #[.slice o p.length k,.slice ox x.length kx] ZBS)) (ext lab w.heap.size c):=Stp.of_nob M _;exact hR _ _ ⟨_,rfl,M,_,o,k,ox,kx,rfl,ZAT (Mod.refl w) _ _,hp.stp s (fun h=>h),hk,hx.stp s (fun h=>h)⟩
 | .leaf q y,C,w,lab,c,v,o,ox,k,kx,t,p,x,h,hc,hs,hp,hk,hpl,hn,hx,hxl=>by
   refine ZD fun R hR=>Zy.vc _ _ _ _ _ _ _ _ _ _ ?_;unfold Zy.Vc;refine(Z5s h t).mono ?_;rintro _ w⟨rfl,rfl⟩;have h':=h;obtain⟨b,oq,cq,oy,cy,rfl,B,hq,hqc,hy⟩:=h';refine⟨_,_,rfl,fun h=>(h rfl).elim,fun _=>⟨_,Z8u Z3L _,_,_,rfl,fun _=>?_,fun h=>by cases h⟩⟩;simp only[JE,exists_eq_left',Z3,JX];refine⟨_,_,_,B.blk.rd1 rfl,?_⟩;refine(Z8K hq.rd hp.rd (by have:=hs.1;omega)).mono ?_;rintro _ w1⟨rfl,M1⟩;have B1:=B.blk.mod' M1;obtain⟨sl1,sl2⟩:=Z3x q p;refine⟨_,rfl,fun w'=>w'=w1/\¬(shared q p=q.length/\shared q p=p.length),⟨_,_,_,B1.rd1 rfl,fun e1=>⟨fun e2=>?_,fun e2=>⟨rfl,fun h=>e2 (by rw[h.2])⟩⟩,fun e1=>⟨rfl,fun h=>e1 (by rw[h.1])⟩⟩,?_⟩
   ·rintro d w2⟨rfl,rfl⟩
    have M:=M1.step_alloc (J0 #[.slice o p.length k,.slice ox x.length kx] ZBS);have s:Stp NoS w lab (w1.alloc (J0 #[.slice o p.length k,.slice ox x.length kx] ZBS)) (ext lab w.heap.size c):=Stp.of_nob M _;refine hR _ _ ⟨_,rfl,?_⟩;simp only[Trie.put];rw[if_pos ⟨by omega,by omega⟩];exact⟨M,_,o,k,ox,kx,rfl,ZAT M1 _ _,hp.stp s (fun h=>h),hk,hx.stp s (fun h=>h)⟩
   ·rintro _ w1⟨rfl,hne⟩
    rintro d w2⟨rfl,rfl⟩ _ rfl;have hsz:=M1.size;generalize hD:w1.heap.size=D at *
    have M2:Vcg.Mod NoB w (w1.alloc (J0 br0 tBranch)).drew:=(M1.step_alloc _).step_drew;have Br:=Z6E.new w1 (ZEb lab c w.heap.size D) True;rw[hD]at Br
    replace Br:=Br.stp (Stp.drew NoS _ _) (fun h=>h) (fun h=>h)
    have hsz2:(w1.alloc (J0 br0 tBranch)).drew.heap.size=D+1:=by rw[ZCj,ZE,hD]
    have B2:=B.blk.mod' M2;generalize(w1.alloc (J0 br0 tBranch)).drew=w2 at *
    have inL:=ZDY (lab:=lab) (c:=c) (w:=w) (J7 _) hsz;have s2:=Stp.same M2 (ZEb lab c w.heap.size D);have hqL:=(CBy.re hq inL).stp s2 (fun h=>h);have hyL:=(CBy.re hy inL).stp s2 (fun h=>h);refine⟨_,_,_,B2.rd1 rfl,⟨by omega,by omega⟩,_,_,_,B2.rd1 rfl,?_⟩;have hqd:=hqL.sub (lo:=shared q p) (n:=q.length-shared q p) hqc;rw[J2 (by rw[I];omega)]at hqd;have hlay:=ZGh (k:=cq-shared q p) (kx:=cy) Br ZAS hqd (by rw[I];omega) (Nib.drop hc.1 _) hyL;rw[I]at hlay;simp only[J4];refine hlay.mono ?_;rintro _ w3⟨rfl,M3,cs3,v3,e3,Br3⟩;have M03:=ZI M2 M3 hsz
    replace Br3:=Z6E.re Br3 (ZHf w3 (Z9G (by omega) (by omega)))
    have s3:=Stp.same M03 (ZEb lab c w.heap.size D);have hpL:=(CBy.re hp inL).stp s3 (fun h=>h);have hxL:=(CBy.re hx inL).stp s3 (fun h=>h);refine⟨rfl,⟨by omega,by omega⟩,?_⟩;have hpd:=hpL.sub (lo:=shared q p) (n:=p.length-shared q p) hk;rw[J2 (by rw[I];omega)]at hpd;have hlay:=ZGh (k:=k-shared q p) (kx:=kx) Br3 ZAS hpd (by rw[I];omega) (Nib.drop hn _) hxL;rw[I]at hlay;refine hlay.mono ?_;rintro _ w4⟨rfl,M4,cs4,v4,e4,Br4⟩;have M04:=ZI M03 M4 hsz;have hsz3:=M3.size
    replace Br4:=Z6E.re Br4 (ZHf w4 (Z9G (by omega) (by omega)))
    have G:=Z6E.grown (N:=0) Br4 M04 hsz;have htl:(p.take (shared q p)).length=shared q p:=by rw[Jc];omega
    have hrow:=Z9n.rowed (k:=k) (w2:=w4) G (by simp[ZJq]) (hp.take (shared q p)) (by omega) (by omega);rw[htl]at hrow;refine⟨rfl,⟨by omega,by omega⟩,hrow.mono ?_⟩;rintro _ w5⟨v5,rfl,G5⟩;refine⟨_,rfl,hR _ _ ⟨v5,rfl,?_⟩⟩;simp only[Trie.put];rw[if_neg hne,e3];simp only[ZIH];rw[e4];exact G5
 | .row q m,C,w,lab,c,v,o,ox,k,kx,t,p,x,h,hc,hs,hp,hk,hpl,hn,hx,hxl=>by
   have ih:=@Z7q m;refine ZD fun R hR=>Zy.vc _ _ _ _ _ _ _ _ _ _ ?_;unfold Zy.Vc;refine(Z5s h t).mono ?_;rintro _ w⟨rfl,rfl⟩;have h':=h;obtain⟨b,oq,cq,vm,rfl,B,hq,hqc,hm⟩:=h';refine⟨_,_,rfl,fun h=>(h rfl).elim,fun _=>⟨_,Z3o Z3L Z3m (by decide) _,_,_,rfl,fun h=>(by cases h),fun _=>⟨_,Z8u Z5w _,_,_,rfl,fun _=>?_,fun h=>by cases h⟩⟩⟩;simp only[JE,exists_eq_left',Z3,JX];refine⟨_,_,_,B.blk.rd1 rfl,?_⟩;refine(Z8K hq.rd hp.rd (by have:=hs.1;omega)).mono ?_;rintro _ w1⟨rfl,M1⟩;have B1:=B.blk.mod' M1;obtain⟨sl1,sl2⟩:=Z3x q p;refine⟨_,rfl,_,_,_,B1.rd1 rfl,fun e1=>?_,fun e1=>?_⟩
   ·rintro _ rfl
    have M2:=M1.step_drew;have s2:Stp NoS w lab w1.drew (ext lab w.heap.size c):=Stp.of_nob M2 c;have B2:=B.blk.mod' M2;refine⟨_,B2.rd1 rfl,⟨by omega,by omega⟩,?_⟩;have hp2:=hp.stp s2 (fun h=>h);have hpd:=hp2.sub (lo:=shared q p) (n:=p.length-shared q p) hk;rw[J2 (by rw[I];omega)]at hpd;have hput:=ih (k:=k-shared q p) (kx:=kx) (t:=t) (hm.stp s2 (fun h=>h)) hc.2.2.2 hs.2 hpd (by rw[I];omega) (by rw[I];omega) (hn.drop _) (hx.stp s2 (fun h=>h)) hxl;rw[I]at hput;simp only[J4];refine hput.mono ?_;rintro _ w3⟨v3,rfl,G3⟩;have M3:=M2.trans G3.1 (fun _ _ h=>h);have B3:=B.blk.mod' M3;refine⟨_,_,rfl,fun h=>(h rfl).elim,fun _=>⟨_,_,_,B3.rd1 rfl,G3.2.one,?_⟩⟩;rintro d w4⟨rfl,rfl⟩;have M4:=M3.step_alloc (J0 #[.slice oq q.length cq,v3] ZIk);have s4:Stp NoS w lab (w3.alloc (J0 #[.slice oq q.length cq,v3] ZIk)) (ext lab w.heap.size c):=Stp.of_nob M4 c;refine hR _ _ ⟨_,rfl,M4,?_⟩;simp only[Trie.put];rw[if_pos (by omega)];have hg:=(Z8Y (s2.trans G3.stp) G3.2).2;exact⟨_,oq,cq,v3,rfl,ZAT M3 _ _,hq.stp s4 (fun h=>h),hqc,hg.stp (Stp.same (Mod.alloc w3 _) (ext lab w.heap.size c)) (fun h=>h)⟩
   ·have hlt:shared q p<q.length:=by omega
    rintro d w2⟨rfl,rfl⟩ _ rfl;have hsz:=M1.size;generalize hD:w1.heap.size=D at *
    have M2:Vcg.Mod NoB w (w1.alloc (J0 br0 tBranch)).drew:=(M1.step_alloc _).step_drew;have Br:=Z6E.new w1 (ZEb lab c w.heap.size D) True;rw[hD]at Br
    replace Br:=Br.stp (Stp.drew NoS _ _) (fun h=>h) (fun h=>h)
    have hsz2:(w1.alloc (J0 br0 tBranch)).drew.heap.size=D+1:=by rw[ZCj,ZE,hD]
    have B2:=B.blk.mod' M2;generalize(w1.alloc (J0 br0 tBranch)).drew=w2 at *
    have inL:=ZDY (lab:=lab) (c:=c) (w:=w) (J7 _) hsz;have s2:=Stp.same M2 (ZEb lab c w.heap.size D);have hqL:=(CBy.re hq inL).stp s2 (fun h=>h);have hmL:=(Z04.re inL hm).stp s2 (fun h=>h);obtain⟨qb,qf,rfl,hqb,hqcell⟩:=Z0t hqL.rd hlt;have hnq:(q[shared q p]).toNat<16:=hc.2.1 _ (List.getElem_mem _);have ew:J Q ((shared q p:Int)+1)=((shared q p+1:Nat):Int):=by have:=hs.1;rw[Z0 (by omega) (by omega)];omega
    rw[ew];simp only[JE,exists_eq_left',Z3,J4];refine⟨_,_,_,B2.rd1 rfl,_,rfl,⟨by omega,by omega⟩,_,by rw[Z3];exact hqcell,_,_,_,B2.rd1 rfl,⟨by omega,by omega⟩,_,B2.rd1 rfl,?_⟩;have hqd:=hqL.sub (lo:=shared q p+1) (n:=q.length-(shared q p+1)) hqc;rw[J2 (by rw[I];omega)]at hqd;have hrow:=Z9W (k:=cq-(shared q p+1)) hmL (ZFZ hs.2) hqd (by rw[I];omega) (by rw[I];have:=hs.1;omega);rw[I]at hrow;refine hrow.mono ?_;rintro _ w3⟨v3,lab3,rfl,s3,hn3⟩;have G3:=Z8Y s3 hn3;have M03:=M2.trans G3.1 (fun _ _ h=>h);have hn3:=Z04.re (ZHf w3 (Z9G (by omega) (by omega))) G3.2;have Br3:=Br.stp (Stp.same G3.1 _) (fun h=>h) (fun h=>h);have hsz3:=G3.1.size;refine⟨_,rfl,by rw[Z3];exact(ZN G3.1 hqb (fun h=>h)).trans hqcell,(B2.mod' G3.1).rd1 rfl,⟨by omega,by omega⟩,?_⟩;obtain⟨hset,Br4⟩:=Br3.kid ZAS hnq hn3;simp only[J4,JX];refine⟨hset,?_⟩;rintro _ rfl;have M4:Vcg.Mod (·=D) w3 (w3.setCell ⟨D,(q[shared q p]).toNat,J5⟩ v3):=Mod.setCell w3 ⟨D,_,J5⟩ _;have M04:=ZI M03 M4 hsz;have hsz4:=M4.size;generalize w3.setCell ⟨D,(q[shared q p]).toNat,J5⟩ v3=w4 at *
    have s4:=Stp.same M04 (ZEb lab c w.heap.size D);have hpL:=(CBy.re hp inL).stp s4 (fun h=>h);have hxL:=(CBy.re hx inL).stp s4 (fun h=>h);refine⟨⟨by omega,by omega⟩,?_⟩;have hpd:=hpL.sub (lo:=shared q p) (n:=p.length-shared q p) hk;rw[J2 (by rw[I];omega)]at hpd;have hlay:=ZGh (k:=k-shared q p) (kx:=kx) Br4 ZAS hpd (by rw[I];omega) (Nib.drop hn _) hxL;rw[I]at hlay;refine hlay.mono ?_;rintro _ w5⟨rfl,M5,cs5,v5,e5,Br5⟩;have M05:=ZI M04 M5 hsz
    replace Br5:=Z6E.re Br5 (ZHf w5 (Z9G (by omega) (by omega)))
    have G:=Z6E.grown (N:=0) Br5 M05 hsz;have eu:(fun i:Fin 16=>if i.val=(q[shared q p]).toNat then rowed (q.drop (shared q p+1)) m else Z0D i)=upd Z0D (q[shared q p]) (rowed (q.drop (shared q p+1)) m):=rfl;rw[eu]at e5;have htl:(p.take (shared q p)).length=shared q p:=by rw[Jc];omega
    have hrow:=Z9n.rowed (k:=k) (w2:=w5) G (by simp[ZJq]) (hp.take (shared q p)) (by omega) (by omega);rw[htl]at hrow;refine⟨rfl,⟨by omega,by omega⟩,hrow.mono ?_⟩;rintro _ w6⟨v6,rfl,G6⟩;refine⟨_,rfl,hR _ _ ⟨v6,rfl,?_⟩⟩;simp only[Trie.put];rw[if_neg (by omega),JH,J6 hlt];simp only[Option.getD_some];rw[e5];exact G6
 | .branch cs y,C,w,lab,c,v,o,ox,k,kx,t,p,x,h,hc,hs,hp,hk,hpl,hn,hx,hxl=>by
   have ih:=fun i=>@Z7q (cs i);refine ZD fun R hR=>Zy.vc _ _ _ _ _ _ _ _ _ _ ?_;unfold Zy.Vc;refine(Z5s h t).mono ?_;rintro _ w⟨rfl,rfl⟩;have h':=h;obtain⟨b,vs,oy,cy,rfl,B,hy,hkids⟩:=h';refine⟨_,_,rfl,fun h=>(h rfl).elim,fun _=>⟨_,Z3o Z3L Z3m (by decide) _,_,_,rfl,fun h=>(by cases h),fun _=>⟨_,Z3o Z5w Z7Q (by decide) _,_,_,rfl,fun h=>(by cases h),fun _=>⟨_,Z8u Z9e _,_,_,rfl,fun _=>?_,fun h=>by cases h⟩⟩⟩⟩;simp only[JE,exists_eq_left',Z3,JX];refine⟨_,B.blk.rowAll (Z1n _ _ _ _),?_⟩;rintro d w1⟨rfl,rfl⟩;have D1:=Blk.new w tBranch br0;have M1:=Mod.alloc (S:=NoB) w (J0 br0 tBranch);have hst:=D1.storeAll (P:=Y) (ty:=tBranch) (L:=brA vs oy y.length cy) (by rw[Z1n];exact ZDU) (by rw[Z1n];rfl) (ZCT hkids);refine⟨_,hst,?_⟩;have D2:=D1.row_same (brA vs oy y.length cy);have M2:Vcg.Mod NoB w ((w.alloc (J0 br0 tBranch)).setRow w.heap.size (brA vs oy y.length cy)):=M1.step_row (fun h=>(Nat.lt_irrefl _ h).elim);have hsz2:((w.alloc (J0 br0 tBranch)).setRow w.heap.size (brA vs oy y.length cy)).heap.size=w.heap.size+1:=by rw[Z9Z,ZE]
   have inL:=ZDY (lab:=lab) (c:=c) (w:=w) (J7 _) (J7 w.heap.size);have hD0:w.heap.size<=w.heap.size:=J7 _;generalize(w.alloc (J0 br0 tBranch)).setRow w.heap.size (brA vs oy y.length cy)=w2 at *
   have s2:=Stp.same M2 (ZEb lab c w.heap.size w.heap.size);have Br:Z6E w2 (ZEb lab c w.heap.size w.heap.size) True w.heap.size cs y:=⟨⟨vs,oy,cy,D2,(CBy.re hy inL).stp s2 (fun h=>h),fun i=>(Z04.re inL (hkids i)).stp s2 (fun h=>h)⟩⟩;have hpL:=(CBy.re hp inL).stp s2 (fun h=>h);have hxL:=(CBy.re hx inL).stp s2 (fun h=>h);refine⟨fun h0=>?_,fun h0=>?_⟩
   ·have hp0:p=[]:=JU (by omega)
    subst hp0;obtain⟨hset,Br3⟩:=Br.val (k:=kx) ZAS hxL;refine⟨hset,?_⟩;rintro _ rfl;have M3:=ZI M2 (Mod.setCell w2 ⟨w.heap.size,16,J5⟩ (.slice ox x.length kx)) hD0;exact hR _ _ ⟨_,rfl,by simp only[Trie.put];exact Z6E.grown (N:=0) Br3 M3 hD0⟩
   ·rintro _ rfl
    cases p with
    |nil=>simp at h0
    |cons a r =>
     have ha:a.toNat<16:=hn a (by simp);have MD:=Mod.drew (S:=NoB) w2;have s3:=Stp.same MD (ZEb lab c w.heap.size w.heap.size)
     replace Br:=Br.stp s3 (fun h=>h) (fun h=>h)
     replace hpL:=hpL.stp s3 (fun h=>h)
     replace hxL:=hxL.stp s3 (fun h=>h)
     have M3:=M2.trans MD (fun _ _ h=>h);have B3:=B.blk.mod' M3;have hsz3:w2.drew.heap.size=w.heap.size+1:=hsz2;generalize w2.drew=w3 at *
     obtain⟨pb,pf,rfl,hpb,hpc⟩:=Z0t hpL.rd (i:=0) (by simp);simp only[JO,Jx]at hpc;simp only[JE,exists_eq_left',Z3,Jx];have hkid:=(Z04.re inL (hkids ⟨a.toNat,ha⟩)).stp (Stp.same M3 _) (fun h=>h);refine⟨by simp,_,hpc,by omega,vs ⟨a.toNat,ha⟩,by rw[J4];exact B3.rd1 (ZA4 vs oy y.length cy ⟨a.toNat,ha⟩),by simp,?_⟩;have hpr:=hpL.sub (lo:=1) (n:=r.length) hk;simp only[JW,Ji,Jp]at hpr;refine(ih ⟨a.toNat,ha⟩ (t:=t) (k:=k-1) (kx:=kx) hkid (hc.1 _) (hs.2 _) hpr (by simp at hk ⊢;omega) (by simp at hpl ⊢;omega) (fun z hz=>hn z (by simp[hz])) hxL hxl).mono ?_;rintro _ w4⟨v4,rfl,G4⟩;have Br4:=Br.stp (Stp.same G4.1 _) (fun h=>h) (fun h=>h);have hn4:=Z04.re (ZHf w4 (Z9G (by omega) (by omega))) G4.2;have hpc4:=(ZN G4.1 hpb (fun h=>h)).trans hpc;obtain⟨hset,Br5⟩:=Br4.kid ZAS ha hn4;refine⟨_,_,rfl,fun h=>(h rfl).elim,fun _=>⟨by simp,_,hpc4,by omega,?_⟩⟩;simp only[J4,JX];refine⟨hset,?_⟩;rintro _ rfl;have M5:=ZI (M3.trans G4.1 (fun _ _ h=>h)) (Mod.setCell w4 ⟨w.heap.size,a.toNat,J5⟩ v4) hD0;refine hR _ _ ⟨_,rfl,?_⟩;rw[Z9O cs y a r x ha];exact Z6E.grown (N:=0) Br5 M5 hD0
end Go.Proofs.YtfghidehlnfdiaaGreat
end
section
namespace Go.Proofs.YtfghidehlnfdiaaGreat
open Go Go.Vcg
abbrev Zq.n:Nat:=23
def Zq.Vc(a:Option Addr)(b c:Nat)(c:Option Addr)(d e:Nat)(w:X)(R:JP->X->Prop):Prop :=
 ∃(e:X->Prop),(∃(f:Int->X->Prop)(g:Int->X->Nat),f 0 w /\
 (∀(h:Int)(i:Nat->Value)(i:X),f h i ->
 ((h<(b:Int) ->
 ((h<(d:Int) ->
 ∀j,ZJ i j ->
 ∃k,a=O k /\
 ((0:Int)<=h/\h<(b:Int)) /\
 ∃l,j.cell? (k.add h.toNat)=O (.int K l) /\
 ∃k,c=O k /\
 ((0:Int)<=h/\h<(d:Int)) /\
 ∃m,j.cell? (k.add h.toNat)=O (.int K m) /\
 ((l≠m ->
 ∀k,ZJ j k ->
 ∃n,a=O n /\
 ((0:Int)<=h/\h<(b:Int)) /\
 ∃a,k.cell? (n.add h.toNat)=O (.int K a) /\
 ∃n,c=O n /\
 ((0:Int)<=h/\h<(d:Int)) /\
 ∃c,k.cell? (n.add h.toNat)=O (.int K c) /\
 ((a<c ->
 R (V (.int Q (-1))) k) /\
 (¬a<c ->
 R (V (.int Q 1)) k))) /\
 (l=m ->
 f (J Q (h+1)) j/\g (J Q (h+1)) j<g h i))) /\
 (¬h<(d:Int) ->
 e  i))) /\
 (¬h<(b:Int) ->
 e  i)))) /\
 (∀  (a:Nat->Value)(a:X),e  a ->
 (((b:Int)<(d:Int) ->
 R (V (.int Q (-1))) a) /\
 (¬(b:Int)<(d:Int) ->
 (((b:Int)>(d:Int) ->
 R (V (.int Q 1)) a) /\
 (¬(b:Int)>(d:Int) ->
 R (V (.int Q 0)) a)))))
theorem Zq.vc(a b c d e f w R)(h:Zq.Vc a b c d e f w R):A Y 23 #[(.slice a b c),(.slice d e f)] w R:=xs [(1000008,[]),(2,[(5,.cell (.int Q))])] [.slice a b c,.slice d e f] Tryz.func23 ZL (by kernel_rfl) h
abbrev Z19.n:Nat:=114
def Z19.Vc(a b:Int)(w:X)(R:JP->X->Prop):Prop :=
 ((b<=55 ->
 ∀c d,ZC w 5 #[.int K (J K (J Q (a+b)))] c d ->
 R (V (.slice (O c) 1 1)) d) /\
 (¬b<=55 ->
 ∃(c:Option Addr->Nat->Nat->Int->X->Prop)(d:Option Addr->Nat->Nat->Int->X->Nat),c J5 0 0 b w /\
 (∀(b:Option Addr)(e:Nat)(f:Nat)(g:Int)(h:Nat->Value)(h:X),c b e f g h ->
 ((g>0 ->
 ∀i j,ZC h 5 #[.int K (J K (JQ g 256))] i j ->
 ∃k l,J1 Y (builtinV J8 #[23,23] 23 #[.slice (O i) 1 1,.slice b e f]) j=Ja k l /\
 ∃i j m,k=(.slice i j m) /\
 c i j m (J Q (Jd g 256)) l/\d i j m (J Q (Jd g 256)) l<d b e f g h) /\
 (¬g>0 ->
 ∀c d,ZC h 5 #[.int K (J K (J Q ((J Q (a+55))+(e:Int))))] c d ->
 ∃a g,J1 Y (builtinV J8 #[23,23] 23 #[.slice (O c) 1 1,.slice b e f]) d=Ja a g /\
 ∃b c d,a=(.slice b c d) /\
 R (V (.slice b c d)) g)))))
theorem Z19.vc(a b w R)(h:Z19.Vc a b w R):A Y 114 #[(.int Q a),(.int Q b)] w R:=xs [(5,[(5,.cell (.slice)),(6,.cell (.int Q))])] [.int Q a,.int Q b] Tryz.func114 ZL (by kernel_rfl) h
abbrev Z0q.n:Nat:=109
def Z0q.Vc(a:Option Addr)(b c:Nat)(w:X)(R:JP->X->Prop):Prop :=
 (((b:Int)=1 ->
 ∃d,a=O d /\
 ((0:Int)<=0/\0<(b:Int)) /\
 ∃e,w.cell? (d.add 0)=O (.int K e) /\
 ((e<128 ->
 ∃d,a=O d /\
 ((0:Int)<=0/\0<(b:Int)) /\
 ∃f,w.cell? (d.add 0)=O (.int K f) /\
 ∀d g,ZC w 5 #[.int K f] d g ->
 R (V (.slice (O d) 1 1)) g) /\
 (¬e<128 ->
 A Y 114 #[.int Q 128,.int Q (b:Int)] w (fun d e =>
 ∃f g h,d=V (.slice f g h) /\
 ∃d i,J1 Y (builtinV J8 #[23,23] 23 #[.slice f g h,.slice a b c]) e=Ja d i /\
 ∃e f g,d=(.slice e f g) /\
 R (V (.slice e f g)) i)))) /\
 ((b:Int)≠1 ->
 A Y 114 #[.int Q 128,.int Q (b:Int)] w (fun d e =>
 ∃f g h,d=V (.slice f g h) /\
 ∃d i,J1 Y (builtinV J8 #[23,23] 23 #[.slice f g h,.slice a b c]) e=Ja d i /\
 ∃a b c,d=(.slice a b c) /\
 R (V (.slice a b c)) i)))
theorem Z0q.vc(a b c w R)(h:Z0q.Vc a b c w R):A Y 109 #[(.slice a b c)] w R:=xs [] [.slice a b c] Tryz.func109 ZL (by kernel_rfl) h
abbrev Z18.n:Nat:=89
def Z18.Vc(a:Option Addr)(b c:Nat)(w:X)(R:JP->X->Prop):Prop :=
 A Y 114 #[.int Q 192,.int Q (b:Int)] w (fun d e =>
 ∃f g h,d=V (.slice f g h) /\
 ∃d i,J1 Y (builtinV J8 #[23,23] 23 #[.slice f g h,.slice a b c]) e=Ja d i /\
 ∃a b c,d=(.slice a b c) /\
 R (V (.slice a b c)) i)
theorem Z18.vc(a b c w R)(h:Z18.Vc a b c w R):A Y 89 #[(.slice a b c)] w R:=xs [] [.slice a b c] Tryz.func89 ZL (by kernel_rfl) h
abbrev Z15.n:Nat:=90
def Z15.Vc(a:Option Addr)(b c:Nat)(w:X)(R:JP->X->Prop):Prop :=
 A Y 109 #[.slice a b c] w (fun a b =>
 ∃c d e,a=V (.slice c d e) /\
 R (V (.slice c d e)) b)
theorem Z15.vc(a b c w R)(h:Z15.Vc a b c w R):A Y 90 #[(.slice a b c)] w R:=xs [] [.slice a b c] Tryz.func90 ZL (by kernel_rfl) h
abbrev Z09.n:Nat:=54
def Z09.Vc(a:Option Addr)(b c:Nat)(w:X)(R:JP->X->Prop):Prop :=
 ∃(c:Option Addr->Nat->Nat->Int->X->Prop)(d:Option Addr->Nat->Nat->Int->X->Nat),c J5 0 0 0 w /\
 (∀(e:Option Addr)(f:Nat)(g:Nat)(h:Int)(i:Nat->Value)(i:X),c e f g h i ->
 ((h<(b:Int) ->
 ∀j,ZJ i j ->
 ∃k,a=O k /\
 ((0:Int)<=h/\h<(b:Int)) /\
 ∃l,j.cell? (k.add h.toNat)=O (.int K l) /\
 ∃k,a=O k /\
 ((0:Int)<=h/\h<(b:Int)) /\
 ∃a,j.cell? (k.add h.toNat)=O (.int K a) /\
 ∀k m,ZC j 5 #[.int K (J K (Jd l 16)),.int K (JQ a 16)] k m ->
 ∃a j,J1 Y (builtinV J8 #[23,23] 23 #[.slice e f g,.slice (O k) 2 2]) m=Ja a j /\
 ∃k l m,a=(.slice k l m) /\
 c k l m (J Q (h+1)) j/\d k l m (J Q (h+1)) j<d e f g h i) /\
 (¬h<(b:Int) ->
 R (V (.slice e f g)) i)))
theorem Z09.vc(a b c w R)(h:Z09.Vc a b c w R):A Y 54 #[(.slice a b c)] w R:=xs [(3,[(3,.cell (.slice)),(4,.cell (.int Q))])] [.slice a b c] Tryz.func54 ZL (by kernel_rfl) h
abbrev Z0m.n:Nat:=88
def Z0m.Vc(a:Option Addr)(b c:Nat)(d:Bool)(w:X)(R:JP->X->Prop):Prop :=
 (((b:Int)>128 ->
 R (V (JN #[.slice J5 0 0,.int Q 140])) w) /\
 (¬(b:Int)>128 ->
 ∃(e:Int->X->Prop)(f:Int->X->Nat),e 0 w /\
 (∀(g:Int)(h:Nat->Value)(h:X),e g h ->
 ((g<(b:Int) ->
 ∃i,a=O i /\
 ((0:Int)<=g/\g<(b:Int)) /\
 ∃j,h.cell? (i.add g.toNat)=O (.int K j) /\
 ((j>15 ->
 R (V (JN #[.slice J5 0 0,.int Q 140])) h) /\
 (¬j>15 ->
 e (J Q (g+1)) h/\f (J Q (g+1)) h<f g h))) /\
 (¬g<(b:Int) ->
 ∃(e:Int->X->Prop),((d=Jk ->
 e 2 h) /\
 (d=JL ->
 e 0 h)) /\
 (∀(d:Int)(f:Nat->Value)(f:X),e d f ->
 ∀e g,ZC f 5 #[.int K d,.int K 0] e g ->
 ∃(f:Option Addr->Nat->Nat->X->Prop),(((JQ (b:Int) 2)=1 ->
 ∀h i,ZC g 5 #[.int K (J K (d+1))] h i ->
 f (O h) 1 1 i) /\
 ((JQ (b:Int) 2)≠1 ->
 f (O e) 2 2 g)) /\
 (∀(d:Option Addr)(e:Nat)(g:Nat)(h:Nat->Value)(h:X),f d e g h ->
 ∃f i,J1 Y (builtinV J8 #[23,23] 23 #[.slice d e g,.slice a b c]) h=Ja f i /\
 ∃a b c,f=(.slice a b c) /\
 ∃(c:Option Addr->Nat->Nat->Int->X->Prop)(d:Option Addr->Nat->Nat->Int->X->Nat),c J5 0 0 0 i /\
 (∀(e:Option Addr)(f:Nat)(g:Nat)(h:Int)(i:Nat->Value)(i:X),c e f g h i ->
 ((h<(b:Int) ->
 ∀j,ZJ i j ->
 ∃k,a=O k /\
 ((0:Int)<=h/\h<(b:Int)) /\
 ∃l,j.cell? (k.add h.toNat)=O (.int K l) /\
 ∃k,a=O k /\
 ((0:Int)<=(J Q (h+1))/\(J Q (h+1))<(b:Int)) /\
 ∃a,j.cell? (k.add (JI (J Q (h+1))))=O (.int K a) /\
 ∀k m,ZC j 5 #[.int K (J K ((J K (16*l))+a))] k m ->
 ∃a j,J1 Y (builtinV J8 #[23,23] 23 #[.slice e f g,.slice (O k) 1 1]) m=Ja a j /\
 ∃k l m,a=(.slice k l m) /\
 c k l m (J Q (h+2)) j/\d k l m (J Q (h+2)) j<d e f g h i) /\
 (¬h<(b:Int) ->
 R (V (JN #[.slice e f g,.int Q 0])) i))))))))))
theorem Z0m.vc(a b c d w R)(h:Z0m.Vc a b c d w R):A Y 88 #[(.slice a b c),(.bool d)] w R:=xs [(4,[(6,.cell (.int Q))]),(1000011,[(7,.cell (.int K))]),(1000014,[(8,.cell (.slice))]),(17,[(9,.cell (.slice)),(10,.cell (.int Q))])] [.slice a b c,.bool (.var d)] Tryz.func88 ZL (by kernel_rfl) h
abbrev Z07.n:Nat:=40
def Z07.Vc  (w:X)(R:JP->X->Prop):Prop :=
 ∀a b,ZC w 27 (U 32 (.int K 0)) a b ->
 ∀c d,ZC b 5 #[.int K 128] c d ->
 A Y 56 #[.slice (O c) 1 1] d (fun b c =>
 ∃d,b=V (JK d) /\
 ∃b,J1 Y (JG 27 (J3 (O a)) (JK d)) c=Ja () b /\
 ∃c,ZG b a 32 c /\
 R (V (JK c)) b)
theorem Z07.vc  (w:X)(R:JP->X->Prop)(h:Z07.Vc w R):A Y 40 #[] w R :=
 Z1Y (R:=⟨R,JL⟩) (ann:=[]) (args:=[]) Tryz.func40 ZL (Eq.mp (by kernel_rfl:Z07.Vc w R=Z6N (pA Y ⟨R,JL⟩) Y [] Tryz.f40 [] w) h)
abbrev ZP.n:Nat:=55
def ZP.Vc(a:Addr)(b c d:Int)(w:X)(R:JP->X->Prop):Prop :=
 ((c=(J Q (b+1)) ->
 ∃e f g,w.cell? (a.add 1)=O (.slice e f g) /\
 ∃g,e=O g /\
 ((0:Int)<=b/\b<(f:Int)) /\
 ∃e f h,w.cell? (g.add b.toNat)=O (.slice e f h) /\
 ((0:Int)<=d/\d<=(f:Int)) /\
 A Y 88 #[.slice (subO e h d.toNat 1) (f-d.toNat) (h-d.toNat),.bool Jk] w (fun e f =>
 ∃g h i j,e=V (JN #[.slice g h i,.int Q j]) /\
 ∀e,ZJ f e ->
 ∃f j k,e.cell? a=O (.slice f j k) /\
 ∃l,f=O l /\
 ((0:Int)<=b/\b<(j:Int)) /\
 ∃m n o,e.cell? ((l.add (b.toNat*2)).add 1)=O (.slice m n o) /\
 A Y 90 #[.slice g h i] e (fun e g =>
 ∃h i p,e=V (.slice h i p) /\
 g.cell? ((l.add (b.toNat*2)).add 1)=O (.slice m n o) /\
 g.cell? a=O (.slice f j k) /\
 A Y 90 #[.slice m n o] g (fun e f =>
 ∃g j k,e=V (.slice g j k) /\
 ∃e l,J1 Y (builtinV J8 #[23,23] 23 #[.slice h i p,.slice g j k]) f=Ja e l /\
 ∃f g h,e=(.slice f g h) /\
 A Y 89 #[.slice f g h] l (fun e f =>
 ∃g h i,e=V (.slice g h i) /\
 R (V (.slice g h i)) f))))) /\
 (c≠(J Q (b+1)) ->
 ∃(e:Int->X->Prop),(∃(f:Int->X->Prop)(g:Int->X->Nat),f 0 w /\
 (∀(h:Int)(i:Nat->Value)(i:X),f h i ->
 ∀j,ZJ i j ->
 ∃k l m,j.cell? (a.add 1)=O (.slice k l m) /\
 ∃m,k=O m /\
 ((0:Int)<=b/\b<(l:Int)) /\
 ∃k l n,j.cell? (m.add b.toNat)=O (.slice k l n) /\
 (((l:Int)>(J Q (d+h)) ->
 ∃k m n,j.cell? (a.add 1)=O (.slice k m n) /\
 ∃n,k=O n /\
 ((0:Int)<=(J Q (c-1))/\(J Q (c-1))<(m:Int)) /\
 ∃k m o,j.cell? (n.add (JI (J Q (c-1))))=O (.slice k m o) /\
 (((m:Int)>(J Q (d+h)) ->
 ∃k n o,j.cell? (a.add 1)=O (.slice k n o) /\
 ∃o,k=O o /\
 ((0:Int)<=b/\b<(n:Int)) /\
 ∃k n p,j.cell? (o.add b.toNat)=O (.slice k n p) /\
 ∃o,k=O o /\
 ((0:Int)<=(J Q (d+h))/\(J Q (d+h))<(n:Int)) /\
 ∃k,j.cell? (o.add (JI (J Q (d+h))))=O (.int K k) /\
 ∃n o p,j.cell? (a.add 1)=O (.slice n o p) /\
 ∃p,n=O p /\
 ((0:Int)<=(J Q (c-1))/\(J Q (c-1))<(o:Int)) /\
 ∃n o q,j.cell? (p.add (JI (J Q (c-1))))=O (.slice n o q) /\
 ∃p,n=O p /\
 ((0:Int)<=(J Q (d+h))/\(J Q (d+h))<(o:Int)) /\
 ∃n,j.cell? (p.add (JI (J Q (d+h))))=O (.int K n) /\
 ((k=n ->
 f (J Q (h+1)) j/\g (J Q (h+1)) j<g h i) /\
 (k≠n ->
 e h j))) /\
 (¬(m:Int)>(J Q (d+h)) ->
 e h j))) /\
 (¬(l:Int)>(J Q (d+h)) ->
 e h j)))) /\
 (∀(f:Int)(g:Nat->Value)(g:X),e f g ->
 ((f>0 ->
 ∃e h i,g.cell? (a.add 1)=O (.slice e h i) /\
 ∃i,e=O i /\
 ((0:Int)<=b/\b<(h:Int)) /\
 ∃e h j,g.cell? (i.add b.toNat)=O (.slice e h j) /\
 ((0:Int)<=(J Q (d+f))/\(J Q (d+f))<=(j:Int)) /\
 ((0:Int)<=d/\d<=(((JI (J Q (d+f))):Nat):Int)) /\
 A Y 88 #[.slice (subO e j d.toNat 1) ((JI (J Q (d+f)))-d.toNat) (j-d.toNat),.bool JL] g (fun e h =>
 ∃i j k l,e=V (JN #[.slice i j k,.int Q l]) /\
 A Y 90 #[.slice i j k] h (fun e h =>
 ∃i j k,e=V (.slice i j k) /\
 A Y 91 #[J3 (O a),.int Q b,.int Q c,.int Q (J Q (d+f))] h (fun e h =>
 ∃l m n,e=V (.slice l m n) /\
 ∃e o,J1 Y (builtinV J8 #[23,23] 23 #[.slice i j k,.slice l m n]) h=Ja e o /\
 ∃h i j,e=(.slice h i j) /\
 A Y 89 #[.slice h i j] o (fun e h =>
 ∃i j k,e=V (.slice i j k) /\
 R (V (.slice i j k)) h))))) /\
 (¬f>0 ->
 ∃(e:Int->Option Addr->Nat->Nat->X->Prop),(∃f h i,g.cell? (a.add 1)=O (.slice f h i) /\
 ∃i,f=O i /\
 ((0:Int)<=b/\b<(h:Int)) /\
 ∃f h j,g.cell? (i.add b.toNat)=O (.slice f h j) /\
 (((h:Int)=d ->
 ∃f i j,g.cell? a=O (.slice f i j) /\
 ∃j,f=O j /\
 ((0:Int)<=b/\b<(i:Int)) /\
 ∃f i k,g.cell? ((j.add (b.toNat*2)).add 1)=O (.slice f i k) /\
 e (J Q (b+1)) f i k g) /\
 ((h:Int)≠d ->
 e b J5 0 0 g))) /\
 (∀(b:Int)(f:Option Addr)(g:Nat)(h:Nat)(i:Nat->Value)(i:X),e b f g h i ->
 ∃(e:Option Addr->Nat->Nat->Int->Int->X->Prop)(j:Option Addr->Nat->Nat->Int->Int->X->Nat),e J5 0 0 b 0 i /\
 (∀(b:Option Addr)(i:Nat)(k:Nat)(l:Int)(m:Int)(n:Nat->Value)(n:X),e b i k l m n ->
 ((m<16 ->
 ∃(o:Int->X->Prop),(∃(p:Int->X->Prop)(q:Int->X->Nat),p l n /\
 (∀(r:Int)(s:Nat->Value)(s:X),p r s ->
 ((r<c ->
 ∃t u v,s.cell? (a.add 1)=O (.slice t u v) /\
 ∃v,t=O v /\
 ((0:Int)<=r/\r<(u:Int)) /\
 ∃t u x,s.cell? (v.add r.toNat)=O (.slice t u x) /\
 ∃v,t=O v /\
 ((0:Int)<=d/\d<(u:Int)) /\
 ∃t,s.cell? (v.add d.toNat)=O (.int K t) /\
 (((J Q t)=m ->
 p (J Q (r+1)) s/\q (J Q (r+1)) s<q r s) /\
 ((J Q t)≠m ->
 o r s))) /\
 (¬r<c ->
 o r s)))) /\
 (∀(c:Int)(p:Nat->Value)(p:X),o c p ->
 ((c=l ->
 ∀o q,ZC p 5 #[.int K 128] o q ->
 ∃r s,J1 Y (builtinV J8 #[23,23] 23 #[.slice b i k,.slice (O o) 1 1]) q=Ja r s /\
 ∃o q t,r=(.slice o q t) /\
 e o q t c (J Q (m+1)) s/\j o q t c (J Q (m+1)) s<j b i k l m n) /\
 (c≠l ->
 A Y 91 #[J3 (O a),.int Q l,.int Q c,.int Q (J Q (d+1))] p (fun a d =>
 ∃o p q,a=V (.slice o p q) /\
 ∃a r,J1 Y (builtinV J8 #[23,23] 23 #[.slice b i k,.slice o p q]) d=Ja a r /\
 ∃d o p,a=(.slice d o p) /\
 e d o p c (J Q (m+1)) r/\j d o p c (J Q (m+1)) r<j b i k l m n))))) /\
 (¬m<16 ->
 A Y 90 #[.slice f g h] n (fun a c =>
 ∃d e f,a=V (.slice d e f) /\
 ∃a g,J1 Y (builtinV J8 #[23,23] 23 #[.slice b i k,.slice d e f]) c=Ja a g /\
 ∃b c d,a=(.slice b c d) /\
 A Y 89 #[.slice b c d] g (fun a b =>
 ∃c d e,a=V (.slice c d e) /\
 R (V (.slice c d e)) b)))))))))))
theorem ZP.vc(a b c d w R)(h:ZP.Vc a b c d w R):A Y 55 #[(J3 (O a)),(.int Q b),(.int Q c),(.int Q d)] w R:=xs [(1000007,[(11,.cell (.int Q))]),(5,[(11,.cell (.int Q))]),(1000016,[(15,.cell (.int Q)),(16,.cell (.slice))]),(17,[(14,.cell (.slice)),(15,.cell (.int Q)),(17,.cell (.int Q))]),(1000022,[(18,.cell (.int Q))]),(20,[(18,.cell (.int Q))])] [.addr a,.int Q b,.int Q c,.int Q d] Tryz.func55 ZL (by kernel_rfl) h
abbrev Zv.n:Nat:=91
def Zv.Vc(a:Addr)(b c d:Int)(w:X)(R:JP->X->Prop):Prop :=
 A Y 55 #[J3 (O a),.int Q b,.int Q c,.int Q d] w (fun b c =>
 ∃d e f,b=V (.slice d e f) /\
 (((e:Int)<32 ->
 R (V (.slice d e f)) c) /\
 (¬(e:Int)<32 ->
 A Y 56 #[.slice d e f] c (fun b c =>
 ∃g,b=V (JK g) /\
 ∀b h,ZC c 27 (U 32 (.int K 0)) b h ->
 ∃c,J1 Y (JG 27 (J3 (O b)) (JK g)) h=Ja () c /\
 ∃g,ZG c b 32 g /\
 A Y 57 #[J3 (O a),JK g,.slice d e f] c (fun a c =>
 a=V (JN #[]) /\
 ∃a d,J1 Y (builtinV J8 #[23,23] 23 #[.slice J5 0 0,.slice (O b) 32 32]) c=Ja a d /\
 ∃b c e,a=(.slice b c e) /\
 A Y 90 #[.slice b c e] d (fun a b =>
 ∃c d e,a=V (.slice c d e) /\
 R (V (.slice c d e)) b))))))
theorem Zv.vc(a b c d w R)(h:Zv.Vc a b c d w R):A Y 91 #[(J3 (O a)),(.int Q b),(.int Q c),(.int Q d)] w R:=xs [] [.addr a,.int Q b,.int Q c,.int Q d] Tryz.func91 ZL (by kernel_rfl) h
abbrev Zp.n:Nat:=57
def Zp.Vc(a:Addr)(b:Array Value)(c:Option Addr)(d e:Nat)(w:X)(R:JP->X->Prop):Prop :=
 ∀f g,ZC w 27 b f g ->
 ∃(b:X->Prop),(∃(h:Int->X->Prop)(i:Int->X->Nat),h 0 g /\
 (∀(g:Int)(j:Nat->Value)(j:X),h g j ->
 ∃k l m,j.cell? (a.add 2)=O (.slice k l m) /\
 ((g<(l:Int) ->
 ∃k,j.cell? (a.add 3)=O (.bool k) /\
 ((k=JL ->
 ∀m,ZJ j m ->
 ∃n o p,m.cell? (a.add 2)=O (.slice n o p) /\
 ∃p,n=O p /\
 ((0:Int)<=g/\g<(o:Int)) /\
 ∃n,ZG m (p.add (g.toNat*33)) 32 n /\
 ∃o,ZG m f 32 o /\
 ∃p,J1 Y (Z02 .eql 27 (.tmp 30) (.tmp 31) (JK n) (JK o)) m=Ja p m /\
 ∃n,p=(.bool n) /\
 ((n=Jk ->
 R (V (JN #[])) m) /\
 (n=JL ->
 h (J Q (g+1)) m/\i (J Q (g+1)) m<i g j))) /\
 (k=Jk ->
 b  j))) /\
 (¬g<(l:Int) ->
 b  j)))) /\
 (∀  (g:Nat->Value)(g:X),b  g ->
 ∀b,ZJ g b ->
 ∃g h i,b.cell? (a.add 2)=O (.slice g h i) /\
 ∃j,ZG b f 32 j /\
 Jm j=32 /\
 Jm (setsAt (lputL #[.int K 0,.int K 0,.int K 0,.int K 0,.int K 0,.int K 0,.int K 0,.int K 0,.int K 0,.int K 0,.int K 0,.int K 0,.int K 0,.int K 0,.int K 0,.int K 0,.int K 0,.int K 0,.int K 0,.int K 0,.int K 0,.int K 0,.int K 0,.int K 0,.int K 0,.int K 0,.int K 0,.int K 0,.int K 0,.int K 0,.int K 0,.int K 0,.slice J5 0 0] 0 32 j) 32 [.slice c d e])=33 /\
 ∀f k,ZC b 62 (lputL #[.int K 0,.int K 0,.int K 0,.int K 0,.int K 0,.int K 0,.int K 0,.int K 0,.int K 0,.int K 0,.int K 0,.int K 0,.int K 0,.int K 0,.int K 0,.int K 0,.int K 0,.int K 0,.int K 0,.int K 0,.int K 0,.int K 0,.int K 0,.int K 0,.int K 0,.int K 0,.int K 0,.int K 0,.int K 0,.int K 0,.int K 0,.int K 0,.slice J5 0 0] 0 33 (setsAt (lputL #[.int K 0,.int K 0,.int K 0,.int K 0,.int K 0,.int K 0,.int K 0,.int K 0,.int K 0,.int K 0,.int K 0,.int K 0,.int K 0,.int K 0,.int K 0,.int K 0,.int K 0,.int K 0,.int K 0,.int K 0,.int K 0,.int K 0,.int K 0,.int K 0,.int K 0,.int K 0,.int K 0,.int K 0,.int K 0,.int K 0,.int K 0,.int K 0,.slice J5 0 0] 0 32 j) 32 [.slice c d e])) f k ->
 k.cell? (a.add 2)=O (.slice g h i) /\
 ∃b c,J1 Y (builtinV J8 #[28,28] 28 #[.slice g h i,.slice (O f) 1 1]) k=Ja b c /\
 ∃d e f,b=(.slice d e f) /\
 Z1 c (a.add 2) (.slice d e f)/\∀b,ZA c (a.add 2) (.slice d e f) b ->
 R (V (JN #[])) b)
theorem Zp.vc(a b c d e w R)(h:Zp.Vc a b c d e w R):A Y 57 #[(J3 (O a)),(JK b),(.slice c d e)] w R:=xs [(1000005,[]),(2,[(6,.cell (.int Q))])] [.addr a,.big 32 b,.slice c d e] Tryz.func57 ZL (by kernel_rfl) h
abbrev Z1Q.n:Nat:=8
def Z1Q.Vc(a:Option Addr)(b c:Nat)(w:X)(R:JP->X->Prop):Prop :=
 ∀d e,ZC w 27 (U 32 (.int K 0)) d e ->
 A Y 24 #[.slice a b c,.bool JL] e (fun a b =>
 ∃c e f g,a=V (JN #[JK c,.slice e f g]) /\
 ∃a,J1 Y (JG 27 (J3 (O d)) (JK c)) b=Ja () a /\
 ∃b,ZG a d 32 b /\
 R (V (JN #[JK b,.slice e f g])) a)
theorem Z1Q.vc(a b c w R)(h:Z1Q.Vc a b c w R):A Y 8 #[(.slice a b c)] w R:=xs [] [.slice a b c] Tryz.func8 ZL (by kernel_rfl) h
abbrev Z0n.n:Nat:=24
def Z0n.Vc(a:Option Addr)(b c:Nat)(d:Bool)(w:X)(R:JP->X->Prop):Prop :=
 ∀e f,ZC w 27 (U 32 (.int K 0)) e f ->
 (((b:Int)=0 ->
 A Y 40 #[] f (fun g h =>
 ∃i,g=V (JK i) /\
 ∃g,J1 Y (JG 27 (J3 (O e)) (JK i)) h=Ja () g /\
 ∃h,ZG g e 32 h /\
 R (V (JN #[JK h,.slice J5 0 0])) g)) /\
 ((b:Int)≠0 ->
 ∀g h,ZC f 118 #[.slice a b c,.slice J5 0 0,.slice J5 0 0,.bool d] g h ->
 ∃(c:Int->X->Prop)(d:Int->X->Nat),c 0 h /\
 (∀(f:Int)(h:Nat->Value)(h:X),c f h ->
 ((f<(b:Int) ->
 ∀i,ZJ h i ->
 ∃j k l,i.cell? (g.add 1)=O (.slice j k l) /\
 ∃m,a=O m /\
 ((0:Int)<=f/\f<(b:Int)) /\
 ∃a n o,i.cell? (m.add (f.toNat*2))=O (.slice a n o) /\
 A Y 54 #[.slice a n o] i (fun a i =>
 ∃m n o,a=V (.slice m n o) /\
 i.cell? (g.add 1)=O (.slice j k l) /\
 ∀a p,ZC i 23 #[.slice m n o] a p ->
 p.cell? (g.add 1)=O (.slice j k l) /\
 ∃i m,J1 Y (builtinV J8 #[31,31] 31 #[.slice j k l,.slice (O a) 1 1]) p=Ja i m /\
 ∃a j k,i=(.slice a j k) /\
 Z1 m (g.add 1) (.slice a j k)/\∀i,ZA m (g.add 1) (.slice a j k) i ->
 c (J Q (f+1)) i/\d (J Q (f+1)) i<d f h)) /\
 (¬f<(b:Int) ->
 A Y 55 #[J3 (O g),.int Q 0,.int Q (b:Int),.int Q 0] h (fun a b =>
 ∃c d f,a=V (.slice c d f) /\
 A Y 56 #[.slice c d f] b (fun a b =>
 ∃h,a=V (JK h) /\
 ∀a i,ZC b 27 (U 32 (.int K 0)) a i ->
 ∃b,J1 Y (JG 27 (J3 (O a)) (JK h)) i=Ja () b /\
 ∃h,ZG b a 32 h /\
 A Y 57 #[J3 (O g),JK h,.slice c d f] b (fun b c =>
 b=V (JN #[]) /\
 ∀b,ZJ c b ->
 ∃c,ZG b a 32 c /\
 ∃a d f,b.cell? (g.add 2)=O (.slice a d f) /\
 ∃h,J1 Y (JG 27 (J3 (O e)) (JK c)) b=Ja () h /\
 h.cell? (g.add 2)=O (.slice a d f) /\
 ∃b,ZG h e 32 b /\
 R (V (JN #[JK b,.slice a d f])) h))))))))
theorem Z0n.vc(a b c d w R)(h:Z0n.Vc a b c d w R):A Y 24 #[(.slice a b c),(.bool d)] w R:=xs [(5,[(7,.cell (.int Q))])] [.slice a b c,.bool (.var d)] Tryz.func24 ZL (by kernel_rfl) h
abbrev Z0Z.n:Nat:=10
def Z0Z.Vc(a:Option Addr)(b c:Nat)(w:X)(R:JP->X->Prop):Prop :=
 ∃(c:Option Addr->Nat->Nat->Int->X->Prop)(d:Option Addr->Nat->Nat->Int->X->Nat),c J5 0 0 0 w /\
 (∀(e:Option Addr)(f:Nat)(g:Nat)(h:Int)(i:Nat->Value)(i:X),c e f g h i ->
 ((h<(b:Int) ->
 ∀j,ZJ i j ->
 ∃k,a=O k /\
 ((0:Int)<=h/\h<(b:Int)) /\
 ∃l,ZG j (k.add (h.toNat*33)) 32 l /\
 ∃m,a=O m /\
 ((0:Int)<=h/\h<(b:Int)) /\
 ∃a n o,j.cell? ((m.add (h.toNat*33)).add 32)=O (.slice a n o) /\
 ∃m p,J1 Y (builtinV J8 #[23,23] 23 #[.slice J5 0 0,.slice a n o]) j=Ja m p /\
 ∃a j n,m=(.slice a j n) /\
 ZG p (k.add (h.toNat*33)) 32 l /\
 Jm l=32 /\
 Jm (setsAt (lputL #[.int K 0,.int K 0,.int K 0,.int K 0,.int K 0,.int K 0,.int K 0,.int K 0,.int K 0,.int K 0,.int K 0,.int K 0,.int K 0,.int K 0,.int K 0,.int K 0,.int K 0,.int K 0,.int K 0,.int K 0,.int K 0,.int K 0,.int K 0,.int K 0,.int K 0,.int K 0,.int K 0,.int K 0,.int K 0,.int K 0,.int K 0,.int K 0,.slice J5 0 0] 0 32 l) 32 [.slice a j n])=33 /\
 ∀k m,ZC p 48 (lputL #[.int K 0,.int K 0,.int K 0,.int K 0,.int K 0,.int K 0,.int K 0,.int K 0,.int K 0,.int K 0,.int K 0,.int K 0,.int K 0,.int K 0,.int K 0,.int K 0,.int K 0,.int K 0,.int K 0,.int K 0,.int K 0,.int K 0,.int K 0,.int K 0,.int K 0,.int K 0,.int K 0,.int K 0,.int K 0,.int K 0,.int K 0,.int K 0,.slice J5 0 0] 0 33 (setsAt (lputL #[.int K 0,.int K 0,.int K 0,.int K 0,.int K 0,.int K 0,.int K 0,.int K 0,.int K 0,.int K 0,.int K 0,.int K 0,.int K 0,.int K 0,.int K 0,.int K 0,.int K 0,.int K 0,.int K 0,.int K 0,.int K 0,.int K 0,.int K 0,.int K 0,.int K 0,.int K 0,.int K 0,.int K 0,.int K 0,.int K 0,.int K 0,.int K 0,.slice J5 0 0] 0 32 l) 32 [.slice a j n])) k m ->
 ∃a j,J1 Y (builtinV J8 #[34,34] 34 #[.slice e f g,.slice (O k) 1 1]) m=Ja a j /\
 ∃k l m,a=(.slice k l m) /\
 c k l m (J Q (h+1)) j/\d k l m (J Q (h+1)) j<d e f g h i) /\
 (¬h<(b:Int) ->
 R (V (.slice e f g)) i)))
theorem Z0Z.vc(a b c w R)(h:Z0Z.Vc a b c w R):A Y 10 #[(.slice a b c)] w R:=xs [(3,[(3,.cell (.slice)),(4,.cell (.int Q))])] [.slice a b c] Tryz.func10 ZL (by kernel_rfl) h
end Go.Proofs.YtfghidehlnfdiaaGreat
end
section
namespace Go.Trie

end Go.Trie
end
section
namespace Go.Proofs.YtfghidehlnfdiaaGreat
open Go Go.Vcg Go.Trie
section
variable{C:Type}{S:C->Prop}{w0 w w1 w':X}{lab lab2:Nat->C}{c:C}
theorem ZFV{n:Nd}{v:Value}(h:Z04 w lab c n v):(v=Je/\isNil n=Jk)\/(Z7R v/\isNil n=JL):=by
 cases n with
 |nil=>exact .inl ⟨h,rfl⟩
 |leaf p x=>obtain⟨b,op,cp,ov,cv,rfl,_⟩:=h;exact .inr ⟨⟨_,_,rfl⟩,rfl⟩
 |row p k=>obtain⟨b,op,cp,vk,rfl,_⟩:=h;exact .inr ⟨⟨_,_,rfl⟩,rfl⟩
 |branch cs x=>obtain⟨b,vs,ov,cv,rfl,_⟩:=h;exact .inr ⟨⟨_,_,rfl⟩,rfl⟩
end
end Go.Proofs.YtfghidehlnfdiaaGreat
end
section
namespace Go.Trie
def ZE4(n:Nd):Prop:=∀k v,get n k=O v->k.length<=128/\v.length<=1024
theorem ZE4.row{q:By}{c:Nd}(h:ZE4 (.row q c)):ZE4 c:=fun k v hg=>by
 have:=h (q++k) v (by rw[Z1d];exact hg);rw[W]at this;exact⟨by omega,this.2⟩
theorem ZE4.kid{cs:Fin 16->Nd}{x:By}(h:ZE4 (.branch cs x))(i:Fin 16):ZE4 (cs i):=fun k v hg=>by
 have:=h (J9 i.val::k) v (by rw[Z1N];exact hg);simp only[JS]at this;exact⟨by omega,this.2⟩
theorem Z3X:∀{n:Nd},Z0x n->ZE4 n->Z58 n
 | .nil,_,_=>trivial
 | .leaf p v,_,h=>h p v (by simp[get])
 | .row p c,hc,h=>by
   refine⟨?_,Z3X hc.2.2.2 h.row⟩;obtain⟨k,v,hk⟩:=Z6P hc.2.2.2 (by rintro rfl;exact hc.2.2.1);have:=(h (p++k) v (by rw[Z1d];exact hk)).1;rw[W]at this;omega
 | .branch cs x,hc,h=>by
   refine⟨?_,fun i=>Z3X (hc.1 i) (h.kid i)⟩;by_cases hx:x=[]
   ·simp[hx]
   ·exact(h [] x (by rw[Zd,if_neg hx])).2
theorem ZE4.put{n:Nd}{p x:By}(h:ZE4 n)(hc:Z0x n)(hp:Nib p)(hx:x≠[])(hpl:p.length<=128)(hxl:x.length<=1024):ZE4 (put n p x):=fun k v hg=>by
 rw[(Z8C hc hp hx).2.2.2 k]at hg;split at hg
 ·rename_i hk
  cases hg;exact⟨by rw[hk];exact hpl,hxl⟩
 ·exact h k v hg
end Go.Trie
end
section
namespace Go.Proofs.YtfghidehlnfdiaaGreat
open Go Go.Vcg Go.Trie
abbrev H32:={h:By // h.length=32}
instance:DecidableEq H32:=fun a b=>decidable_of_iff (a.1=b.1) Subtype.ext_iff.symm
def ZHx(h:H32):Value:=JK (hashA h.1)
theorem ZKP{a b:UInt8}(h:bV a=bV b):a=b:=by
 simp only[bV,Value.int.injEq,true_and]at h;exact UInt8.toNat_inj.1 (by exact_mod_cast h)
theorem Z99{a b:By}(ha:a.length=32)(hb:b.length=32)(h:hashA a=hashA b):a=b:=by
 apply List.ext_getElem (by omega);intro i h1 h2;have hi:i<32:=by omega
 have e:=congrArg (fun x:Array Value=>x[i]?) h;simp only[hashA,ZF hi,JE]at e;have:=ZKP e;simpa[JH,h1,h2]using this
theorem laidOut:laidOutB Y=Jk:=by kernel_rfl
theorem Z48:Tryz.prog.underlying tHash=O (.array 32 5):=by kernel_rfl
theorem ZCQ{α β:Type}{f:α->Option β}:∀(l:List α),(∀x∈l,∃y,f x=O y)->∃ys,l.mapM f=O ys
 |[],_=>⟨[],rfl⟩
 |x::r,h=>by
  obtain⟨y,hy⟩:=h x (by simp);obtain⟨ys,hys⟩:=ZCQ r (fun z hz=>h z (by simp[hz]));exact⟨y::ys,by rw[List.mapM_cons,hy,hys];rfl⟩
theorem ZGe{P:Program}{k e:Jq}{n:Nat}{q:IntKind}{v:Value}(hu:P.underlying k=O (.array n e))(hk:P.keyType k=Jk)(hf:v.formed P k=Jk)(hs:1<=P.types.size)(he:P.underlying e=O (.int q))(hc:P.cellsOf e=1)
  (hcl:v.cells.toList.length=P.cellsOf k) (hcells:∀i,i<n->∃m,v.cells.toList[i]?=O (.int q m)/\(Lit.int q m).wf=Jk):∃l,keyOf P k v=O l:=by
 obtain⟨d,hd⟩:∃d,P.types.size=d+1:=⟨P.types.size-1,by omega⟩;unfold keyOf;simp only[hu,hk,hf,Bool.and_self,if_true,hd,Program.keyLits,hcl]
 obtain⟨ys,hys⟩:=ZCQ (f:=fun i=>P.keyLits (d+1) e ((v.cells.toList.drop (i*P.cellsOf e)).take (P.cellsOf e))) (List.range n) (fun i hi=>by
  obtain⟨m,h1,h2⟩:=hcells i (List.mem_range.1 hi)
  have e1:((v.cells.toList.drop (i*P.cellsOf e)).take (P.cellsOf e))=[.int q m]:=by
   rw[hc,Nat.mul_one]
   have hl:i<v.cells.toList.length:=by
    rcases Nat.lt_or_ge i v.cells.toList.length with h|h
    ·exact h
    ·rw[Jg h]at h1;cases h1
   rw[J6 hl]at h1;rw[JC hl,Js h1];rfl
  refine⟨[.int q m],?_⟩;rw[e1];simp only[Program.keyLits,he];exact if_pos ⟨trivial,h2⟩)
 simp only[Program.keyLits]at hys;refine⟨.string (keyBytes ys.flatten),?_⟩;rw[hys];rfl
theorem wf_u8(b:UInt8):(Lit.int K (b.toNat:Int)).wf=Jk:=by
 have:∀n:Fin 256,(Lit.int K ((JM n).toNat:Int)).wf=Jk:=by decide +kernel
 exact this b.toFin
theorem ZA6:Tryz.prog.cellsOf tHash=32:=by kernel_rfl
theorem ZAC(h:H32):(ZHx h).cells=hashA h.1:=rfl
theorem ZB6:ZBd Y tHash ZHx (fun _=>True) where
 keyed:=Go.Maps.Keyed.of_law (deep_law_gate laidOut (of_decide_eq_true (by kernel_rfl)) (of_decide_eq_true (by kernel_rfl)) (by kernel_rfl) (by kernel_rfl))
 ok h _:=ZGe Z48 (by kernel_rfl) (by simp only[ZHx,Value.formed,Z48,ZA6,ZB];rfl) (of_decide_eq_true (by kernel_rfl)) Z24 (by kernel_rfl)
  (by rw[ZAC,E,ZB,ZA6]) (fun i hi=>⟨((h.1.getD i 0).toNat:Int),by rw[ZAC,JB];exact ZF hi,wf_u8 _⟩)
 inj a b h:=by
  simp only[ZHx,Value.agg.injEq]at h;exact Subtype.ext (Z99 a.2 b.2 h)
abbrev tNd:Jq:=48
abbrev ZHW:Jq:=34
theorem Z8i:Tryz.prog.underlying ZHW=O (.slice tNd):=by kernel_rfl
def ndA(h:By)(o:Option Addr)(l k:Nat):Array Value:=((hashA h).toList++[Value.slice o l k]).toArray
abbrev nd0:Array Value:=#[(.int K 0),(.int K 0),(.int K 0),(.int K 0),(.int K 0),(.int K 0),(.int K 0),(.int K 0),(.int K 0),(.int K 0),(.int K 0),(.int K 0),(.int K 0),(.int K 0),(.int K 0),(.int K 0),(.int K 0),(.int K 0),(.int K 0),(.int K 0),(.int K 0),(.int K 0),(.int K 0),(.int K 0),(.int K 0),(.int K 0),(.int K 0),(.int K 0),(.int K 0),(.int K 0),(.int K 0),(.int K 0),(.slice J5 0 0)]
theorem ZJc:(Tryz.prog.info? tNd).map (fun i=>(i.zero,i.size,i.bytes))=O (O (JK nd0),33,56):=by kernel_rfl
theorem Z5t(h:By)(o:Option Addr)(l k:Nat):(ndA h o l k).size=33:=by simp[ndA,ZB]
theorem ZEd{h:By}{o:Option Addr}{l k i:Nat}(hi:i<32):(ndA h o l k)[i]?=O (bV (h.getD i 0)):=by
 unfold ndA;rw[JR,JD (by rw[E,ZB];exact hi),JB];exact ZF hi
theorem ZEc{h:By}{o:Option Addr}{l k:Nat}:(ndA h o l k)[32]?=O (.slice o l k):=by
 unfold ndA;rw[JR,JA (by rw[E,ZB];omega),E,ZB];rfl
theorem ZDb(h:By)(o:Option Addr)(l k:Nat):∀v∈(ndA h o l k).toList,v.oneCell'=Jk:=by
 intro v hv;simp only[ndA,Jf,Jl]at hv;rcases hv with hv|rfl
 ·exact Z2k h v hv
 ·rfl
theorem ZEe{Z:Array Value}(hZ:Z.size=33)(h:By)(s:Value):lputL Z 0 33 (setsAt (lputL Z 0 32 (hashA h)) 32 [s])=((hashA h).toList++[s]).toArray:=by
 have e1:(lputL Z 0 32 (hashA h)).size=33:=by unfold lputL;rw[Zi,hZ]
 have hh:(hashA h).toList.take 32=(hashA h).toList:=J2 (by rw[E,ZB];omega);have hl:(hashA h).toList.length=32:=by rw[E,ZB]
 have e2:(setsAt (lputL Z 0 32 (hashA h)) 32 [s]).size=33:=by rw[Zi,e1]
 apply Array.ext_getElem?;intro i;have hr:(((hashA h).toList++[s]).toArray)[i]?=((hashA h).toList++[s])[i]?:=JR ..;rw[hr];have e3:lputL Z 0 33 (setsAt (lputL Z 0 32 (hashA h)) 32 [s])=setsAt Z 0 ((setsAt (lputL Z 0 32 (hashA h)) 32 [s]).toList.take 33):=rfl;have ht:((setsAt (lputL Z 0 32 (hashA h)) 32 [s]).toList.take 33)=(setsAt (lputL Z 0 32 (hashA h)) 32 [s]).toList:=J2 (by rw[E,e2];omega);rw[e3,ht,Zn _ _ _ _ (by rw[E,e2,hZ];omega),E,e2];by_cases hi:i<33
 ·rw[if_pos (by omega),Jy,JB,Zn _ _ _ _ (by rw[e1];simp)]
  by_cases h32:i=32
  ·subst h32
   rw[if_pos (by simp),JA (by omega),hl]
  ·rw[if_neg (by simp;omega),JD (by omega)]
   unfold lputL;rw[hh,Zn _ _ _ _ (by omega),if_pos (by omega),Jy]
 ·rw[if_neg (by omega),Array.getElem?_eq_none (by omega),Jg (by rw[W,hl];simp;omega)]
section
variable{C:Type}{S:C->Prop}{w0 w w1 w':X}{lab lab':Nat->C}{c cb:C}
def Z0S(w:X)(lab:Nat->C)(cb:C)(vs:List Value)(l:List (By×By)):Prop :=
 vs.length=l.length*33/\∀(j:Nat)(hj:j<l.length),l[j].1.length=32/\(∀i,i<32->vs[j*33+i]?=O (bV (l[j].1.getD i 0)))/\∃ob kb,vs[j*33+32]?=O (.slice ob l[j].2.length kb)/\CBy w lab cb ob l[j].2/\l[j].2.length<=kb
theorem Z0S.nil(w:X)(lab:Nat->C)(cb:C):Z0S w lab cb [] []:=⟨rfl,fun j hj=>absurd hj (by simp)⟩
theorem Z0S.stp{vs:List Value}{l:List (By×By)}(h:Z0S w lab cb vs l)(s:Stp S w lab w' lab')(hs:¬S cb):Z0S w' lab' cb vs l :=
 ⟨h.1,fun j hj=>by obtain⟨h1,h2,ob,kb,h3,h4⟩:=h.2 j hj;exact⟨h1,h2,ob,kb,h3,h4.1.stp s hs,h4.2⟩⟩
theorem Z0S.push{vs:List Value}{l:List (By×By)}{h b:By}{ob:Option Addr}{kb:Nat}(H:Z0S w lab cb vs l)(hh:h.length=32)(hb:CBy w lab cb ob b)(hk:b.length<=kb) :
  Z0S w lab cb (vs++(ndA h ob b.length kb).toList) (l++[(h,b)]):=by
 have hnl:(ndA h ob b.length kb).toList.length=33:=by rw[E,Z5t]
 refine⟨by rw[W,hnl,H.1,W];simp;omega,fun j hj=>?_⟩;rw[W,List.length_singleton]at hj;have hv:=H.1;by_cases hl:j<l.length
 ·rw[List.getElem_append_left hl]
  obtain⟨h1,h2,ob,kb,h3,h4⟩:=H.2 j hl;exact⟨h1,fun i hi=>by rw[JD (by omega)];exact h2 i hi,ob,kb,by rw[JD (by omega)];exact h3,h4⟩
 ·obtain rfl:j=l.length:=by omega
  rw[List.getElem_append_right (J7 _)];simp only[Nat.sub_self,JO];refine⟨hh,fun i hi=>?_,ob,kb,?_,hb,hk⟩
  ·rw[JA (by omega),hv,show l.length*33+i-l.length*33=i by omega,JB]
   exact ZEd hi
  ·rw[JA (by omega),hv,show l.length*33+32-l.length*33=32 by omega,JB]
   exact ZEc
def Z9o(w:X)(lab:Nat->C)(c cb:C)(l:List (By×By))(o:Option Addr)(n k:Nat):Prop :=
 n=l.length/\∃vs,COw w lab c tNd 33 o n k vs/\Z0S w lab cb vs l
theorem Z9o.nil(w:X)(lab:Nat->C)(c cb:C):Z9o w lab c cb [] J5 0 0:=⟨rfl,[],COw.nil w lab c _ _,Z0S.nil w lab cb⟩
theorem Z9o.stp{l:List (By×By)}{o:Option Addr}{n k:Nat}(h:Z9o w lab c cb l o n k)(s:Stp S w lab w' lab')(hs:¬S c)(hb:¬S cb):Z9o w' lab' c cb l o n k:=by
 obtain⟨h1,vs,h2,h3⟩:=h;exact⟨h1,vs,h2.stp s hs,h3.stp s hb⟩
theorem Z9o.push{l:List (By×By)}{o:Option Addr}{n k D:Nat}{h b:By}{ob:Option Addr}{kb:Nat}(H:Z9o w lab c cb l o n k)(hcb:cb≠c)(B:Blk w D tNd (ndA h ob b.length kb))(hh:h.length=32)(hb:CBy w lab cb ob b)(hk:b.length<=kb)(hl:l.length<=2^20) :
  ∃o' k' w',J1 Y (builtinV J8 #[ZHW,ZHW] ZHW #[.slice o n k,.slice (O ⟨D,0,J5⟩) 1 1]) w=Ja (.slice o' (n+1) k') w' /\
   Z9o w' (ext lab w.heap.size c) c cb (l++[(h,b)]) o' (n+1) k'/\Stp (·=c) w lab w' (ext lab w.heap.size c):=by
 obtain⟨rfl,vs,hO,hC⟩:=H;obtain⟨i,hi,hz,hs,hbt⟩:=Z2Q ZJc;obtain⟨o',k',w',h1,h2,h3⟩:=COw.append (ty:=ZHW) Z8i hi hz hs (by rfl) hO (Z52 Z8i B (Z5t _ _ _ _) (ZDb _ _ _ _)) (by simp only[maxLen];omega) (by rw[hbt];omega);exact⟨o',k',w',h1,⟨by simp,_,h2,(hC.push hh hb hk).stp h3 hcb⟩,h3⟩
end
end Go.Proofs.YtfghidehlnfdiaaGreat
end
section
namespace Go.Trie
def met(out:List (By×By))(h:By):Bool:=out.any fun x=>decide (x.1=h)
def Z3Q(out:List (By×By))(top:Bool)(b:By):List (By×By):=if met out (Go.Vcg.sumOf b)||(!top&&decide (b.length<32))then out else out++[(Go.Vcg.sumOf b,b)]
def Z2L:Nd->Bool->List (By×By)->List (By×By)
 | .nil,_,out=>out
 | .leaf p v,top,out=>Z3Q out top (bytesOf (.leaf p v))
 | .row p c,top,out=>Z3Q (Z2L c JL out) top (bytesOf (.row p c))
 | .branch cs v,top,out=>Z3Q ((JJ 16).foldl (fun o i=>Z2L (cs i) JL o) out) top (bytesOf (.branch cs v))
def Z3t(n:Nd):List (By×By):=Z2L n Jk []
def cnt:Nd->Nat
 | .nil=>0
 | .leaf _ _=>1
 | .row _ c=>1+cnt c
 | .branch cs _=>1+((JJ 16).map fun i=>cnt (cs i)).sum
theorem Z6W(out:List (By×By))(top:Bool)(b:By):(Z3Q out top b).length<=out.length+1:=by
 unfold Z3Q;split<;>simp
theorem Z6p{cs:Fin 16->Nd}(ih:∀i out,(Z2L (cs i) JL out).length<=out.length+cnt (cs i)):∀(l:List (Fin 16)) (out:List (By×By)),(l.foldl (fun o i=>Z2L (cs i) JL o) out).length<=out.length+(l.map fun i=>cnt (cs i)).sum
 |[],out=>by simp
 |i::r,out=>by
  simp only[List.foldl_cons,Jv,Jw];have h1:=Z6p ih r (Z2L (cs i) JL out);have h2:=ih i out;omega
theorem Z4g:∀(n:Nd) (top:Bool) (out:List (By×By)),(Z2L n top out).length<=out.length+cnt n
 | .nil,_,out=>by simp[Z2L]
 | .leaf p v,top,out=>by simp only[Z2L,cnt];exact Z6W _ _ _
 | .row p c,top,out=>by
   simp only[Z2L,cnt];have h1:=Z6W (Z2L c JL out) top (bytesOf (.row p c));have h2:=Z4g c JL out;omega
 | .branch cs v,top,out=>by
   simp only[Z2L,cnt];have h1:=Z6W ((JJ 16).foldl (fun o i=>Z2L (cs i) JL o) out) top (bytesOf (.branch cs v));have h2:=Z6p (fun i out=>Z4g (cs i) JL out) (JJ 16) out;omega
end Go.Trie
end
section
namespace Go.Proofs.YtfghidehlnfdiaaGreat
open Go Go.Vcg Go.Trie
abbrev tMet:Jq:=78
theorem ZDr:Tryz.prog.underlying tMet=O (.map tHash 88):=by kernel_rfl
end Go.Proofs.YtfghidehlnfdiaaGreat
end
section
namespace Go.Trie
def emptyH:By:=Go.Vcg.sumOf [128]
def Z2K(n:Nd):By:=Go.Vcg.sumOf (bytesOf n)
theorem Z6k:bytesOf .nil=[128]:=by simp[bytesOf,itemOf,enc,own,Z3P]
def ZEl(n:Nd)(k x:By):Int×Nd:=if k.length>64 then(140,n)else if x=[]\/x.length>1024 then(141,n)else(0,put n (nibbles k) x)
end Go.Trie
end
section
namespace Go.Proofs.YtfghidehlnfdiaaGreat
open Go Go.Vcg Go.Trie
theorem ZAK:Tryz.prog.eqGuardType Tryz.prog.depth tHash=JL:=by kernel_rfl
theorem ZGY:(Tryz.prog.info? tHash).map (·.size)=O 32:=by kernel_rfl
theorem Z7g{w:X}(x y:Operand){a b:By}(ha:a.length=32)(hb:b.length=32):J1 Y (Z02 .neq tHash x y (JK (hashA a)) (JK (hashA b))) w=Ja (.bool (decide (a≠b))) w:=by
 have h:=ZHK (P:=Y) (w:=w) Z48 Z24 Z1X ZAK x y (fun i=>((a.getD i 0).toNat:Int)) (fun i=>((b.getD i 0).toNat:Int));refine h.trans (congrArg (fun x=>Ja (Q2 x) w) ?_);rw[Jt,Bool.not_eq_true',decide_eq_false_iff_not,decide_eq_true_eq,ne_eq];refine not_congr ?_;constructor
 ·intro h
  refine Z99 ha hb (ZH (fun i hi=>?_));have:=h i hi;simp only[bV,this]
 ·rintro rfl i _;rfl
theorem ZB1{w:X}(x y:Operand){a b:By}(ha:a.length=32)(hb:b.length=32):J1 Y (Z02 .eql tHash x y (JK (hashA a)) (JK (hashA b))) w=Ja (.bool (decide (a=b))) w:=by
 have h:=ZHJ (P:=Y) (w:=w) Z48 Z24 Z1X ZAK x y (fun i=>((a.getD i 0).toNat:Int)) (fun i=>((b.getD i 0).toNat:Int));refine h.trans (congrArg (fun x=>Ja (Q2 x) w) ?_);rw[Jt,decide_eq_true_eq,decide_eq_true_eq];constructor
 ·intro h
  refine Z99 ha hb (ZH (fun i hi=>?_));have:=h i hi;simp only[bV,this]
 ·rintro rfl i _;rfl
theorem Z12{w:X}{D:Nat}{cs:Array Value}(H:Blk w D tHash cs)(hs:cs.size=32)(h:By) :
  J1 Y (JG 27 (J3 (O ⟨D,0,J5⟩)) (JK (hashA h))) w=Ja () (w.setRow D (hashA h))/\Blk (w.setRow D (hashA h)) D tHash (hashA h)/\Vcg.Mod (·=D) w (w.setRow D (hashA h)) :=
 ⟨H.storeAll (by rw[ZB];exact ZGY) (by rw[hs,ZB]) (Z2k _),H.row_same _,Mod.setRow _ _ _⟩
theorem ZEi(w:X):RdB (w.alloc (J0 #[.int K 128] 5)) (O ⟨w.heap.size,0,J5⟩) [128] :=
 RdB.of_blk (Blk.new w 5 #[bV 128]) (fun j hj=>by
  obtain rfl:j=0:=by simpa using hj
  rfl)
theorem Z4i(w:X):A Y Z31.n #[] w (fun e w'=>e=V (JK (hashA emptyH))/\Vcg.Mod NoB w w'):=by
 refine Z31.vc _ _ ?_;unfold Z31.Vc;rintro d1 w1⟨rfl,rfl⟩ d2 w2⟨rfl,rfl⟩ d3 w3⟨rfl,rfl⟩;have M1:=Mod.alloc (S:=NoB) w (J0 (U 32 (.int K 0)) 27);have H:=Blk.new w 27 (U 32 (.int K 0));have hs:=ZE w (J0 (U 32 (.int K 0)) 27);generalize w.alloc (J0 (U 32 (.int K 0)) 27)=w1 at *
 have r2:=ZEi w1;have M2:=Mod.alloc (S:=NoB) w1 (J0 #[.int K 128] 5);generalize w1.alloc (J0 #[.int K 128] 5)=w2 at *
 have B3:=Blk.new w2 23 #[.slice (O ⟨w1.heap.size,0,J5⟩) 1 1];have M3:=Mod.alloc (S:=NoB) w2 (J0 #[.slice (O ⟨w1.heap.size,0,J5⟩) 1 1] 23);refine(Z4J [[128]] rfl (by simp) (ZFn.one B3 (r2.mod' M3)) (by simp)).mono ?_;rintro _ w4⟨rfl,M4⟩;have M24:=(M2.trans M3 (fun _ _ h=>h)).trans M4 (fun _ _ h=>h);obtain⟨h1,h2,h3⟩:=Z12 (H.mod' M24) (by simp) (sumOf [[128]].flatten);exact⟨_,rfl,_,h1,_,h2.rowAll (ZB _),rfl,ZI (M1.trans M24 (fun _ _ h=>h)) h3 (J7 _)⟩
abbrev ZIl:Jq:=225
theorem ZF9{w:X}{v:Value}(hv:v.oneCell'=Jk):A Y Z4c.n #[JK (hashA emptyH),v] w (fun e w'=>∃t,e=V (J3 (O ⟨t,0,J5⟩))/\Vcg.Mod NoB w w'/\w.heap.size<=t/\Blk w' t ZIl #[Je,v]):=by
 refine Z4c.vc _ _ _ _ ?_;unfold Z4c.Vc;rintro d1 w1⟨rfl,rfl⟩;refine⟨hv,?_⟩;rintro d2 w2⟨rfl,rfl⟩ _ rfl;have M1:=Mod.alloc (S:=NoB) w (J0 (hashA emptyH) 27);have H1:=Blk.new w 27 (hashA emptyH);have hs:=ZE w (J0 (hashA emptyH) 27);generalize w.alloc (J0 (hashA emptyH) 27)=w1 at *
 have M2:=(Mod.alloc (S:=NoB) w1 (J0 #[Je,v] 225)).step_drew;have T:=(Blk.new w1 225 #[Je,v]).drew;generalize(w1.alloc (J0 #[Je,v] 225)).drew=w2 at *
 refine⟨hashA emptyH,(H1.mod' M2).rowAll (ZB _),(Z4i w2).mono ?_⟩;rintro _ w3⟨rfl,M3⟩;refine⟨_,rfl,((H1.mod' M2).mod' M3).rowAll (ZB _),_,Z7g _ _ (ZO _) (ZO _),_,rfl,fun h=>absurd (of_decide_eq_true h) (fun h=>h rfl),fun _=>⟨_,rfl,(M1.trans M2 (fun _ _ h=>h)).trans M3 (fun _ _ h=>h),by omega,T.mod' M3⟩⟩
theorem ZDs:Tryz.prog.underlying 67=O (.map tHash Zw):=by kernel_rfl
theorem Z6Z{P:Program}{t k e:Jq}(h:P.underlying t=O (.map k e))(w:X):∃w',J1 P (Instr.makeMap t J5) w=Ja (.map (O w.heap.size)) w'/\Vcg.Mod NoB w w'/\w'.heap[w.heap.size]?=O (.map #[] 0):=by
 exact⟨w.alloc (.map #[] 0),rfl,Mod.alloc _ _,heap_alloc_new _ _⟩
theorem ZFh(w:X)(c:Nat):A Y Z5v.n #[JK (hashA emptyH),.slice J5 0 c] w (fun e w'=>∃t v,e=V (J3 (O ⟨t,0,J5⟩))/\Vcg.Mod NoB w w'/\w.heap.size<=t/\Blk w' t ZIl #[Je,v]):=by
 refine Z5v.vc _ _ _ _ _ _ ?_;unfold Z5v.Vc;rintro d1 w1⟨rfl,rfl⟩;have M1:=Mod.alloc (S:=NoB) w (J0 (hashA emptyH) 27);have H1:=Blk.new w 27 (hashA emptyH);generalize w.alloc (J0 (hashA emptyH) 27)=w1 at *
 obtain⟨w2,hr2,M2,_⟩:=Z6Z ZDs w1;refine⟨_,w2,hr2,_,rfl,?_⟩;rintro d3 w3⟨rfl,rfl⟩;have M3:=Mod.alloc (S:=NoB) w2 (J0 #[.map J5] 67);have B3:=Blk.new w2 67 #[.map J5];have M03:=(M1.trans M2 (fun _ _ h=>h)).trans M3 (fun _ _ h=>h);have hsz:w.heap.size<=w2.heap.size:=(M1.trans M2 (fun _ _ h=>h)).size;have H3:=H1.mod' (M2.trans M3 (fun _ _ h=>h));have hlt:=H1.lt;have hle:=M2.size;generalize w2.alloc (J0 #[.map J5] 67)=w3 at *
 refine⟨B3.canSet (by simp) rfl,?_⟩;rintro _ rfl;have H4:=H3.set_ne (a:=⟨w2.heap.size,0,J5⟩) (v:=.map (O w1.heap.size)) (by dsimp only;omega);have M04:Vcg.Mod NoB w _:=M03.step_set (a:=⟨w2.heap.size,0,J5⟩) (v:=.map (O w1.heap.size)) (fun h=>absurd h (by dsimp only;omega));generalize w3.setCell ⟨w2.heap.size,0,J5⟩ (.map (O w1.heap.size))=w4 at *
 refine⟨fun n w'=>n=0/\w'=w4,fun _ _=>0,⟨rfl,rfl⟩,?_⟩;rintro _ _ _⟨rfl,rfl⟩;refine⟨fun h=>absurd h (by simp),fun _=>⟨_,H4.rowAll (ZB _),(ZF9 rfl).mono ?_⟩⟩;rintro _ w5⟨t,rfl,M5,ht,T⟩;exact⟨_,rfl,t,_,rfl,M04.trans M5 (fun _ _ h=>h),Nat.le_trans M04.size ht,T⟩
section
variable{C:Type}{S:C->Prop}{w0 w w1 w':X}{lab lab2:Nat->C}{ct c:C}
def Z6h(w:X)(lab:Nat->C)(ct c:C)(t:Nat)(n:Nd):Prop:=∃v g,CB w lab ct t ZIl #[v,g]/\Z04 w lab c n v/\Z0x n/\ZE4 n
theorem Z6h.stp{lab':Nat->C}{t:Nat}{n:Nd}(h:Z6h w lab ct c t n)(s:Stp S w lab w' lab')(h1:¬S ct)(h2:¬S c):Z6h w' lab' ct c t n:=by
 obtain⟨v,g,a,b,d⟩:=h;exact⟨v,g,a.stp s h1,b.stp s h2,d⟩
theorem ZJm(k:By)(h:k.length<=64):(nibbles k).length<=128:=by rw[ZQ];omega
theorem ZEH:ZE4 .nil:=fun k v h=>by simp[Trie.get]at h
theorem ZG0{t:Nat}{n:Nd}{o ox:Option Addr}{k kx:Nat}{key x:By}(h:Z6h w lab ct c t n)(hne:ct≠c)(hk:RdB w o key)(hx:RdB w ox x) :
  A Y Z2C.n #[J3 (O ⟨t,0,J5⟩),.slice o key.length k,.slice ox x.length kx] w (fun e w'=>e=V (.int Q (ZEl n key x).1)/\Stp (·=ct) w lab w' (ext lab w.heap.size c)/\Z6h w' (ext lab w.heap.size c) ct c t (ZEl n key x).2):=by
 refine ZD fun R hR=>Z2C.vc _ _ _ _ _ _ _ _ _ ?_;unfold Z2C.Vc;obtain⟨v,g,T,hn,hc,hf⟩:=h;have s0:Stp NoS w lab w (ext lab w.heap.size c):=Stp.of_nob (Mod.refl w) c;have T0:Z6h w (ext lab w.heap.size c) ct c t n:=⟨v,g,T.stp s0 (fun h=>h),hn.stp s0 (fun h=>h),hc,hf⟩
 have stay:∀z,ZEl n key x=(z,n)->R (V (.int Q z)) w:=fun z e=>by
  rw[e]at hR;exact hR _ _ ⟨rfl,s0.mono (fun _ h=>h.elim),T0⟩
 refine⟨fun h1=>stay _ (by unfold ZEl;rw[if_pos (by omega)]),fun h1=>⟨fun h2=>stay _ ?_,fun h2=>⟨fun h3=>stay _ ?_,fun h3=>?_⟩⟩⟩
 ·unfold ZEl;rw[if_neg (by omega),if_pos (.inl (JU (by omega)))]
 ·unfold ZEl;rw[if_neg (by omega),if_pos (.inr (by omega))]
 rintro _ rfl;have hxne:x≠[]:=by rintro rfl;simp at h2
 have e:ZEl n key x=(0,Trie.put n (nibbles key) x):=by
  unfold ZEl;rw[if_neg (by omega),if_neg];rintro(h|h)
  ·exact hxne h
  ·omega
 rw[e]at hR;have MD:=Mod.drew (S:=NoB) w;have hnl:=ZJm key (by omega);refine⟨v,T.blk.drew.rd1 rfl,(Z26 (hk.mod' MD) (by omega)).mono ?_⟩;rintro _ w1⟨o1,k1,rfl,F1⟩;have M1:=MD.trans F1.mod (fun _ _ h=>h);refine⟨_,_,_,rfl,(T.blk.mod' M1).rd1 rfl,(Z1s (hx.mod' M1) (by omega)).mono ?_⟩;rintro _ w2⟨o2,k2,rfl,F2⟩;have M2:=M1.trans F2.mod (fun _ _ h=>h);have s2:Stp NoS w lab w2 (ext lab w.heap.size c):=Stp.of_nob M2 c;have F1':=ZU.from_ F1 MD;have F2':=ZU.from_ F2 M1;refine⟨_,_,_,rfl,(T.blk.mod' M2).rd1 rfl,?_⟩;refine(Z7q n (t:=t) (hn.stp s2 (fun h=>h)) hc (Z3X hc hf) (Z1x F1' F2.mod) F1.own.cap.1 hnl (Zs key) (Z1x F2' (Mod.refl _)) (by omega)).mono ?_;rintro _ w3⟨v3,rfl,G3⟩;have G3':=Z8Y (s2.trans G3.stp) G3.2;have M3:=G3'.1;have T3:=T.blk.mod' M3;have hpo:=Z8C hc (Zs key) hxne;refine⟨_,_,rfl,fun _=>⟨T3.canSet (by simp) G3'.2.one,?_⟩,fun h=>(h rfl).elim⟩;rintro _ rfl;have lt:ext lab w.heap.size c t=ct:=by rw[Z1M T.blk.lt];exact T.clr
 have s4:Stp (·=ct) w3 (ext lab w.heap.size c) (w3.setCell ⟨t,0,J5⟩ v3) (ext lab w.heap.size c):=Stp.setCell lt;refine hR _ _ ⟨rfl,(G3'.stp.mono (fun _ h=>h.elim)).trans s4,v3,g,⟨T3.set 0 v3,lt⟩,G3'.2.stp s4 (fun h=>hne h.symm),hpo.1,hf.put hc (Zs key) hxne hnl (by omega)⟩
theorem ZFC{t:Nat}{n:Nd}(h:Z6h w lab ct c t n) :
  A Y Z1j.n #[J3 (O ⟨t,0,J5⟩)] w (fun e w'=>e=V (JK (hashA (Trie.Z2K n)))/\Vcg.Mod NoB w w'):=by
 refine Z1j.vc _ _ _ ?_;unfold Z1j.Vc;obtain⟨v,g,T,hn,hc,hf⟩:=h;rintro d1 w1⟨rfl,rfl⟩;have M1:=Mod.alloc (S:=NoB) w (J0 (U 32 (.int K 0)) 27);have H:=Blk.new w 27 (U 32 (.int K 0));generalize w.alloc (J0 (U 32 (.int K 0)) 27)=w1 at *
 refine⟨v,(T.blk.mod' M1).rd1 rfl,?_⟩;by_cases hnil:n=.nil
 ·subst hnil
  refine .inl ⟨hn,(Z4i w1).mono ?_⟩;rintro _ w2⟨rfl,M2⟩;obtain⟨h1,h2,h3⟩:=Z12 (H.mod' M2) (by simp) emptyH;refine⟨_,rfl,_,h1,_,h2.rowAll (ZB _),?_,ZI (M1.trans M2 (fun _ _ h=>h)) h3 (J7 _)⟩;rw[Trie.Z2K,Z6k];rfl
 ·right
  have hif:=(ZFV hn).resolve_left (fun h=>hnil (ZGa.1 h.2))
  have hask:∃r,J1 Y (Instr.typeAssert v 197 226 Jk) w1=Ja r w1/\∃o,r=JN #[J3 o,.bool JL]:=by
   cases n with
   |nil=>exact(hnil rfl).elim
   |leaf p x=>obtain⟨b,op,cp,ov,cv,rfl,_⟩:=hn;exact⟨_,Z3o Z1I Z0k (by decide) w1,_,rfl⟩
   |row p k=>obtain⟨b,op,cp,vk,rfl,_⟩:=hn;exact⟨_,Z3o Z1I Z0k (by decide) w1,_,rfl⟩
   |branch cs x=>obtain⟨b,vs,ov,cv,rfl,_⟩:=hn;exact⟨_,Z3o Z1I Z0k (by decide) w1,_,rfl⟩
  obtain⟨r,hr,o,rfl⟩:=hask;have hs:=Z3X hc hf;have hbl:=Z41 hs;refine⟨hif.1,_,hr,_,_,rfl,fun h=>(by cases h),fun _=>⟨v,(T.blk.mod' M1).rd1 rfl,(ZAw hc hs hnil hn M1).mono ?_⟩⟩;rintro _ w2⟨o2,k2,rfl,F2⟩;refine⟨_,_,_,rfl,?_⟩;rintro d3 w3⟨rfl,rfl⟩;have B3:=Blk.new w2 23 #[.slice o2 (bytesOf n).length k2];have M3:=Mod.alloc (S:=NoB) w2 (J0 #[.slice o2 (bytesOf n).length k2] 23);refine(Z4J [bytesOf n] rfl (by simp) (ZFn.one B3 ((ZK F2).mod' M3)) (by simp;omega)).mono ?_;rintro _ w4⟨rfl,M4⟩;have M14:=(F2.mod.trans M3 (fun _ _ h=>h)).trans M4 (fun _ _ h=>h);have e2:[bytesOf n].flatten=bytesOf n:=by simp
  rw[e2];obtain⟨h1,h2,h3⟩:=Z12 (H.mod' M14) (by simp) (sumOf (bytesOf n));exact⟨_,rfl,_,h1,_,h2.rowAll (ZB _),rfl,ZI (M1.trans M14 (fun _ _ h=>h)) h3 (J7 _)⟩
end
end Go.Proofs.YtfghidehlnfdiaaGreat
end
section
namespace Go.Trie
theorem Z8z(p:By)(n:Nd):cnt (rowed p n)<=cnt n+1:=by
 unfold rowed;split
 ·omega
 ·cases n<;>simp only[cnt]<;>omega
theorem ZAf(f g:Fin 16->Nat)(d:Nat)(a:Nat)(h:∀i:Fin 16,i.val≠a->f i=g i)(ha:∀i:Fin 16,i.val=a->f i<=g i+d):∀(l:List (Fin 16)),l.Nodup->(l.map f).sum<=(l.map g).sum+d
 |[],_=>by simp
 |i::r,hn=>by
  rw[List.nodup_cons]at hn;simp only[Jv,Jw];by_cases hi:i.val=a
  ·have h1:=ha i hi
   have h2:r.map f=r.map g:=List.map_congr_left (fun j hj=>h j (fun e=>hn.1 (by rw[Fin.ext (hi.trans e.symm)];exact hj)));rw[h2];omega
  ·have h1:=h i hi
   have h2:=ZAf f g d a h ha r hn.2;omega
theorem ZDI{cs cs':Fin 16->Nd}{x y:By}{a d:Nat}(h:∀i:Fin 16,i.val≠a->cs' i=cs i)(ha:∀i:Fin 16,i.val=a->cnt (cs' i)<=cnt (cs i)+d):cnt (.branch cs' y)<=cnt (.branch cs x)+d:=by
 simp only[cnt];have:=ZAf (fun i=>cnt (cs' i)) (fun i=>cnt (cs i)) d a (fun i hi=>by simp only[h i hi]) ha (JJ 16) (List.nodup_finRange 16);omega
theorem ZDJ(cs:Fin 16->Nd)(v p x:By)(h:∀a r,p=a::r->at_ cs a=.nil):cnt (lay cs v p x)<=cnt (.branch cs v)+1:=by
 cases p with
 |nil=>simp only[lay,cnt];omega
 |cons a r =>
  simp only[lay];refine ZDI (a:=a.toNat) (fun i hi=>by unfold upd;rw[if_neg hi]) (fun i hi=>?_);unfold upd;rw[if_pos hi];simp only[cnt];omega
theorem ZEE(v:By):cnt (.branch Z0D v)=1:=by
 have:((JJ 16).map fun i=>cnt (Z0D i))=List.replicate 16 0:=by decide
 simp only[cnt,this];rfl
theorem ZI4{q p:By}{y:By}{a:UInt8}{r:By}{cs:Fin 16->Nd}{v:By}(h:lay Z0D [] q y=.branch cs v)(hp:p=a::r)(hh:∀b s t,¬(q=b::s/\p=b::t)):at_ cs a=.nil:=by
 cases q with
 |nil =>
  simp only[lay,Nd.branch.injEq]at h;rw[<-h.1];exact Z4D a
 |cons b s =>
  simp only[lay,Nd.branch.injEq]at h;rw[<-h.1];have hne:a≠b:=fun e=>hh b s r ⟨rfl,by rw[hp,e]⟩;rw[Z4L hne];exact Z4D a
theorem ZDK:∀(n:Nd) (p x:By),cnt (put n p x)<=cnt n+4
 | .nil,p,x=>by simp only[put,cnt];omega
 | .leaf q v,p,x=>by
   simp only[put];split
   ·simp only[cnt];omega
   ·obtain⟨t,q',p',_,_,_,hq',hp',_,hh⟩:=Z47 q p
    have h1:=Z8z (p.take (shared q p)) (ZIH (lay Z0D [] (q.drop (shared q p)) v) (p.drop (shared q p)) x);have h2:=ZDJ Z0D [] (q.drop (shared q p)) v (fun a r _=>Z4D a);rw[ZEE]at h2
    have h3:cnt (ZIH (lay Z0D [] (q.drop (shared q p)) v) (p.drop (shared q p)) x)<=cnt (lay Z0D [] (q.drop (shared q p)) v)+1:=by
     cases hl:lay Z0D [] (q.drop (shared q p)) v with
     |branch cs w =>
      simp only[ZIH];exact ZDJ cs w _ x (fun a r hp=>ZI4 hl hp (by rw[<-hq',<-hp'];exact hh))
     |nil=>cases hd:q.drop (shared q p)<;>rw[hd]at hl<;>simp[lay]at hl
     |leaf a b=>cases hd:q.drop (shared q p)<;>rw[hd]at hl<;>simp[lay]at hl
     |row a b=>cases hd:q.drop (shared q p)<;>rw[hd]at hl<;>simp[lay]at hl
    simp only[cnt];omega
 | .row q c,p,x=>by
   simp only[put];split
   ·have:=ZDK c (p.drop (shared q p)) x
    simp only[cnt];omega
   ·rename_i hne
    obtain⟨t,q',p',_,_,_,hq',hp',_,hh⟩:=Z47 q p;have hlt:shared q p<q.length:=by have:=(Z3x q p).1;omega
    have h1:=Z8z (p.take (shared q p)) (lay (upd Z0D (q.getD (shared q p) 0) (rowed (q.drop (shared q p+1)) c)) [] (p.drop (shared q p)) x);have hqd:q.getD (shared q p) 0=q[shared q p]:=by simp[JH,hlt]
    have h2:=ZDJ (upd Z0D (q.getD (shared q p) 0) (rowed (q.drop (shared q p+1)) c)) [] (p.drop (shared q p)) x (fun a r hp=>by
     have hd:q.drop (shared q p)=q[shared q p]::q.drop (shared q p+1):=JC hlt;have hne:a≠q.getD (shared q p) 0:=fun e=>hh a _ r ⟨by rw[hq',hd,<-hqd,<-e],by rw[hp'];exact hp⟩;rw[Z4L hne];exact Z4D a)
    have h3:cnt (.branch (upd Z0D (q.getD (shared q p) 0) (rowed (q.drop (shared q p+1)) c)) [])<=cnt (.branch Z0D [])+(1+cnt c):=by
     refine ZDI (a:=(q.getD (shared q p) 0).toNat) (fun i hi=>by unfold upd;rw[if_neg hi]) (fun i hi=>?_);unfold upd;rw[if_pos hi];have:=Z8z (q.drop (shared q p+1)) c;omega
    rw[ZEE]at h3;simp only[cnt]at *;omega
 | .branch cs v,p,x=>by
   cases p with
   |nil=>simp only[put,cnt];omega
   |cons a r =>
    simp only[put];refine ZDI (a:=a.toNat) (fun i hi=>by rw[if_neg hi]) (fun i hi=>?_);rw[if_pos hi];exact ZDK (cs i) r x
end Go.Trie
end
section
namespace Go.Proofs.YtfghidehlnfdiaaGreat
open Go Go.Vcg Go.Trie
section
variable{C C':Type}{S:C->Prop}{w0 w w1 w':X}{lab:Nat->C}{lab':Nat->C'}{ct c cb:C}{c' cb':C'}
theorem COw.re{e:Jq}{sz:Nat}{o:Option Addr}{l k:Nat}{xs:List Value}(h:COw w lab c e sz o l k xs)(hl:∀k,k<w.heap.size->lab k=c->lab' k=c'):COw w lab' c' e sz o l k xs :=
 ⟨h.own,fun k hk=>hl k (h.own.lt hk) (h.clr k hk)⟩
theorem Z0S.re{vs:List Value}{l:List (By×By)}(h:Z0S w lab cb vs l)(hl:∀k,k<w.heap.size->lab k=cb->lab' k=cb'):Z0S w lab' cb' vs l :=
 ⟨h.1,fun j hj=>by obtain⟨h1,h2,ob,kb,h3,h4⟩:=h.2 j hj;exact⟨h1,h2,ob,kb,h3,CBy.re h4.1 hl,h4.2⟩⟩
def Z1V(w:X)(lab:Nat->C)(c:C)(l:List (By×By))(o:Option Addr)(n:Nat):Prop :=
 n=l.length/\∃vs,ZBZ w lab c o vs/\Z0S w lab c vs l
theorem Z1V.stp{lab2:Nat->C}{l:List (By×By)}{o:Option Addr}{n:Nat}(h:Z1V w lab c l o n)(s:Stp S w lab w' lab2)(hs:¬S c):Z1V w' lab2 c l o n:=by
 obtain⟨h1,vs,h2,h3⟩:=h;exact⟨h1,vs,h2.stp s hs,h3.stp s hs⟩
theorem Z1V.nil(w:X)(lab:Nat->C)(c:C)(o:Option Addr):Z1V w lab c [] o 0:=⟨rfl,[],ZBZ.nil w lab c o,Z0S.nil w lab c⟩
end
end Go.Proofs.YtfghidehlnfdiaaGreat
end
section
namespace Go.Trie
def ltB:By->By->Prop
 |_,[]=>False
 |[],_::_=>True
 |a::p,b::q=>a<b\/(a=b/\ltB p q)
theorem Z4G(p:By):¬ltB p []:=by cases p<;>simp[ltB]
theorem Z29:∀(p:By),¬ltB p p
 |[],h=>h
 |a::p,h=>by
  rcases h with h|h
  ·exact absurd h (JV a)
  ·exact Z29 p h.2
theorem Z3J:∀{p q r:By},ltB p q->ltB q r->ltB p r
 |p,q,[],_,h=>(Z4G _ h).elim
 |p,[],c::r,h,_=>(Z4G _ h).elim
 |[],b::q,c::r,_,_=>trivial
 |a::p,b::q,c::r,h1,h2=>by
  rcases h1 with h1|⟨rfl,h1⟩
  ·rcases h2 with h2|⟨rfl,h2⟩
   ·exact .inl (Ju h1 h2)
   ·exact .inl h1
  ·rcases h2 with h2|⟨rfl,h2⟩
   ·exact .inl h2
   ·exact .inr ⟨rfl,Z3J h1 h2⟩
theorem ZEa{a:UInt8}{p q:By}:ltB (a::p) (a::q)↔ltB p q:=by
 simp only[ltB];constructor
 ·rintro(h|h)
  ·exact absurd h (JV a)
  ·exact h.2
 ·exact fun h=>.inr ⟨trivial,h⟩
theorem Z4T{t p q:By}:ltB (t++p) (t++q)↔ltB p q:=by
 induction t with
 |nil=>exact Iff.rfl
 |cons a t ih=>rw[JT,JT,ZEa,ih]
def Rep(s:List (By×By))(n:Nd):Prop:=s.Pairwise (fun x y=>ltB x.1 y.1)/\∀k v,get n k=O v↔(k,v)∈s
theorem Rep.nil:Rep [] .nil:=⟨List.Pairwise.nil,fun k v=>by simp[get]⟩
theorem Rep.nil_inv{n:Nd}(h:Rep [] n)(hc:Z0x n):n=.nil:=by
 by_cases hn:n=.nil
 ·exact hn
 ·obtain⟨k,v,hk⟩:=Z6P hc hn
  have:=(h.2 k v).1 hk;simp at this
theorem Rep.ne{s:List (By×By)}{n:Nd}(h:Rep s n)(hs:s≠[]):n≠.nil:=by
 rintro rfl;cases s with
 |nil=>exact hs rfl
 |cons x r =>
  have:=(h.2 x.1 x.2).2 (by simp);simp[get]at this
theorem Rep.leaf{s:List (By×By)}{p v:By}(h:Rep s (.leaf p v)):s=[(p,v)]:=by
 have hm:∀x∈s,x=(p,v):=fun x hx=>by
  have:=(h.2 x.1 x.2).2 hx;simp only[get]at this;split at this
  ·rename_i hp
   cases this;exact Prod.ext hp.symm rfl
  ·cases this
 have hin:(p,v)∈s:=(h.2 p v).1 (by simp[get]);cases s with
 |nil=>simp at hin
 |cons x r =>
  cases r with
  |nil=>rw[hm x (by simp)]
  |cons y r =>
   have h1:=hm x (by simp);have h2:=hm y (by simp);have:=(List.pairwise_cons.1 h.1).1 y (by simp);rw[h1,h2]at this;exact(Z29 _ this).elim
theorem Rep.two{s:List (By×By)}{n:Nd}(h:Rep s n){k1 v1 k2 v2:By}(h1:get n k1=O v1)(h2:get n k2=O v2)(hne:k1≠k2):2<=s.length:=by
 have m1:=(h.2 _ _).1 h1;have m2:=(h.2 _ _).1 h2
 match s,m1,m2 with
 |[x],m1,m2 =>
  simp at m1 m2;exact(hne (by rw[<-m2]at m1;exact(Prod.mk.inj m1).1)).elim
 |x::y::r,_,_=>simp
theorem Rep.row{s:List (By×By)}{p:By}{c:Nd}(h:Rep s (.row p c)):(∀x∈s,p <+: x.1)/\Rep (s.map fun x=>(x.1.drop p.length,x.2)) c:=by
 have hp:∀x∈s,p <+: x.1:=fun x hx=>by
  obtain⟨r,hr,_⟩:=ZCD ((h.2 x.1 x.2).2 hx);exact⟨r,hr.symm⟩
 refine⟨hp,?_,fun k v=>?_⟩
 ·rw[Jo]
  refine List.Pairwise.imp_of_mem (fun{x y} hx hy hxy=>?_) h.1;obtain⟨r,hr⟩:=hp x hx;obtain⟨t,ht⟩:=hp y hy;rw[<-hr,<-ht,Z4T]at hxy;simp only[<-hr,<-ht,JY];exact hxy
 ·rw[<-Z1d p k c,h.2]
  simp only[Jz];constructor
  ·intro hm
   exact⟨_,hm,by simp⟩
  ·rintro⟨x,hx,he⟩
   obtain⟨r,hr⟩:=hp x hx;simp only[Prod.mk.injEq]at he;rw[<-hr,JY]at he;obtain⟨rfl,rfl⟩:=he;rw[hr];exact hx
theorem ZBQ(t p q:By):shared (t++p) (t++q)=t.length+shared p q:=by
 induction t with
 |nil=>simp
 |cons a t ih=>simp only[JT,shared,if_true,ih,JS];omega
theorem ZE9{s:List (By×By)}(hs:s.Pairwise (fun x y=>ltB x.1 y.1)){x y:By×By}{a:UInt8}{p q:By}(hx:s.head?=O x)(hy:s.getLast?=O y)(hxa:x.1=a::p)(hya:y.1=a::q):∀z∈s,∃r,z.1=a::r:=by
 have hlast:∀{s:List (By×By)}{y:By×By},s.Pairwise (fun x y=>ltB x.1 y.1)->s.getLast?=O y->∀z∈s,z=y\/ltB z.1 y.1:=by
  intro s
  induction s with
  |nil=>intro y _ h;simp at h
  |cons x r ih =>
   intro y hp hl z hz;rw[Jn]at hp;cases r with
   |nil=>simp at hl hz;subst hl;exact .inl hz
   |cons x2 r2 =>
    rw[List.getLast?_cons_cons]at hl;rcases List.mem_cons.1 hz with rfl|hz
    ·have hy:y∈x2::r2:=Jj hl
     exact .inr (hp.1 y hy)
    ·exact ih hp.2 hl z hz
 have hfirst:∀z∈s,z=x\/ltB x.1 z.1:=by
  intro z hz;cases s with
  |nil=>simp at hx
  |cons x' r =>
   simp at hx;subst hx;rcases List.mem_cons.1 hz with rfl|hz
   ·exact .inl rfl
   ·exact .inr ((List.pairwise_cons.1 hs).1 z hz)
 intro z hz;rcases hfirst z hz with rfl|h1
 ·exact⟨p,hxa⟩
 rcases hlast hs hy z hz with rfl|h2
 ·exact⟨q,hya⟩
 rw[hxa]at h1;rw[hya]at h2;cases hzz:z.1 with
 |nil=>rw[hzz]at h1;exact(Z4G _ h1).elim
 |cons b r =>
  rw[hzz]at h1 h2
  have hab:a=b:=by
   have h3:a<b\/a=b:=h1.elim .inl (fun h=>.inr h.1);have h4:b<a\/b=a:=h2.elim .inl (fun h=>.inr h.1);rcases h3 with h3|h3
   ·rcases h4 with h4|h4
    ·exact absurd (Ju h3 h4) (JV a)
    ·exact h4.symm
   ·exact h3
  exact⟨r,by rw[hab]⟩
theorem Rep.parts{s:List (By×By)}{n:Nd}(h:Rep s n)(hc:Z0x n)(hb:Z40 n){x y:By×By}(hx:s.head?=O x)(hy:s.getLast?=O y):shared x.1 y.1=0:=by
 cases hx1:x.1 with
 |nil=>simp[shared]
 |cons a p =>
  cases hy1:y.1 with
  |nil=>simp[shared]
  |cons b q =>
   simp only[shared];split
   ·rename_i hab
    subst hab;exfalso;obtain⟨k1,v1,k2,v2,h1,h2,hp⟩:=Z7L hc hb;obtain⟨r1,e1⟩:=ZE9 h.1 hx hy hx1 hy1 _ ((h.2 _ _).1 h1);obtain⟨r2,e2⟩:=ZE9 h.1 hx hy hx1 hy1 _ ((h.2 _ _).1 h2);exact hp.2 a r1 r2 ⟨e1,e2⟩
   ·rfl
theorem Rep.shared_row{s:List (By×By)}{p:By}{c:Nd}(h:Rep s (.row p c))(hc:Z0x (.row p c)){x y:By×By}(hx:s.head?=O x)(hy:s.getLast?=O y):shared x.1 y.1=p.length:=by
 obtain⟨hp,hr⟩:=h.row;have hxs:x∈s:=List.mem_of_mem_head? hx;have hys:y∈s:=Jj hy;obtain⟨r,er⟩:=hp x hxs;obtain⟨t,et⟩:=hp y hys;have:=hr.parts hc.2.2.2 hc.2.2.1 (x:=(x.1.drop p.length,x.2)) (y:=(y.1.drop p.length,y.2)) (by rw[List.head?_map,hx];rfl) (by rw[List.getLast?_map,hy];rfl);rw[<-er,<-et,JY,JY]at this;rw[<-er,<-et,ZBQ,this];omega
def Z68(a:Nat)(p:By):Prop:=match p with
 |[]=>True
 |b::_=>b.toNat<a
def Z83(a:Nat)(p:By):Prop:=match p with
 |[]=>False
 |b::_=>a<=b.toNat
theorem Rep.kid{s s1 t s3:List (By×By)}{cs:Fin 16->Nd}{v:By}(h:Rep s (.branch cs v))(a:Fin 16)(he:s=s1++(t++s3))(h1:∀x∈s1,Z68 a.val x.1)(ht:∀x∈t,∃r,x.1=J9 a.val::r)(h3:∀x∈s3,Z83 (a.val+1) x.1) :
  Rep (t.map fun x=>(x.1.drop 1,x.2)) (cs a):=by
 have ha:(J9 a.val).toNat=a.val:=by rw[JZ];have:=a.isLt;omega
 have hpt:t.Pairwise (fun x y=>ltB x.1 y.1):=by
  have:=h.1;rw[he]at this;exact((List.pairwise_append.1 ((List.pairwise_append.1 this).2.1))).1
 refine⟨?_,fun k w=>?_⟩
 ·rw[Jo]
  refine List.Pairwise.imp_of_mem (fun{x y} hx hy hxy=>?_) hpt;obtain⟨r,hr⟩:=ht x hx;obtain⟨q,hq⟩:=ht y hy;rw[hr,hq,ZEa]at hxy;simp only[hr,hq,JW,Ji];exact hxy
 ·rw[<-Z1N cs v a k,h.2,he]
  simp only[Jf,Jz];constructor
  ·rintro(hm|hm|hm)
   ·have:=h1 _ hm
    simp only[Z68,ha]at this;omega
   ·exact⟨_,hm,by simp⟩
   ·have:=h3 _ hm
    simp only[Z83,ha]at this;omega
  ·rintro⟨x,hx,hxe⟩
   obtain⟨r,hr⟩:=ht x hx;simp only[hr,JW,Ji,Prod.mk.injEq]at hxe;obtain⟨rfl,rfl⟩:=hxe;rw[<-hr];exact .inr (.inl hx)
theorem ZHC{s2 t s3:List (By×By)}{a:Nat}(hs:s2.Pairwise (fun x y=>ltB x.1 y.1))(he:s2=t++s3)(hge:∀x∈s2,Z83 a x.1)(hne:∀x,s3.head?=O x->∀b r,x.1=b::r->b.toNat≠a):∀x∈s3,Z83 (a+1) x.1:=by
 subst he;cases s3 with
 |nil=>intro x hx;simp at hx
 |cons y r =>
  have hy:=hge y (by simp);have hps:=(List.pairwise_append.1 hs).2.1;rw[Jn]at hps;intro x hx;cases hy1:y.1 with
  |nil=>rw[hy1]at hy;exact hy.elim
  |cons b q =>
   rw[hy1]at hy;have hb:=hne y rfl b q hy1;have hb2:a<=b.toNat:=hy;rcases List.mem_cons.1 hx with rfl|hx
   ·rw[hy1];show a+1<=b.toNat;omega
   ·have hlt:=hps.1 x hx
    rw[hy1]at hlt;cases hx1:x.1 with
    |nil=>rw[hx1]at hlt;exact(Z4G _ hlt).elim
    |cons c p =>
     rw[hx1]at hlt;show a+1<=c.toNat;rcases hlt with hlt|⟨rfl,_⟩
     ·have:b.toNat<c.toNat:=UInt8.lt_iff_toNat_lt.1 hlt
      omega
     ·omega
theorem Rep.value{s:List (By×By)}{cs:Fin 16->Nd}{v:By}(h:Rep s (.branch cs v)){x:By×By}{r:List (By×By)}(hs:s=x::r):(x.1=[]->v=x.2)/\(x.1≠[]->v=[])/\∀y∈r,y.1≠[]:=by
 subst hs;refine⟨fun hx=>?_,fun hx=>?_,fun y hy e=>?_⟩
 ·have:=(h.2 x.1 x.2).2 (by simp)
  rw[hx,Zd]at this;split at this
  ·cases this
  ·exact Js this
 ·by_cases hv:v=[]
  ·exact hv
  ·exfalso
   have:=(h.2 [] v).1 (by rw[Zd,if_neg hv]);rcases List.mem_cons.1 this with e|hm
   ·exact hx (by rw[<-e])
   ·have:=(List.pairwise_cons.1 h.1).1 _ hm
    exact Z4G _ this
 ·have:=(List.pairwise_cons.1 h.1).1 y hy
  rw[e]at this;exact Z4G _ this
def Z25:By->By->Int
 |[],[]=>0
 |[],_::_=> -1
 |_::_,[]=>1
 |a::p,b::q=>if a=b then Z25 p q else if a<b then -1 else 1
theorem Z1u:∀{p q:By},Z25 p q<0↔ltB p q
 |[],[]=>by simp[Z25,ltB]
 |[],_::_=>by simp[Z25,ltB]
 |_::_,[]=>by simp[Z25,ltB]
 |a::p,b::q=>by
  simp only[Z25,ltB];by_cases hab:a=b
  ·subst hab
   rw[if_pos rfl,Z1u];exact⟨fun h=>.inr ⟨rfl,h⟩,fun h=>h.elim (fun h=>absurd h (JV a)) (·.2)⟩
  ·rw[if_neg hab]
   by_cases hlt:a<b
   ·rw[if_pos hlt];simp[hlt]
   ·rw[if_neg hlt];simp[hlt,hab]
theorem ZDH:∀{p q:By},Z25 p q=0↔p=q
 |[],[]=>by simp[Z25]
 |[],_::_=>by simp[Z25]
 |_::_,[]=>by simp[Z25]
 |a::p,b::q=>by
  simp only[Z25,List.cons.injEq];by_cases hab:a=b
  ·rw[if_pos hab,ZDH];simp[hab]
  ·rw[if_neg hab]
   split<;>simp[hab]
theorem ZDG(t p q:By):Z25 (t++p) (t++q)=Z25 p q:=by
 induction t with
 |nil=>rfl
 |cons a t ih=>simp only[JT,Z25,if_true,ih]
theorem Z7J{p q:By}{j:Nat}(h:p.take j=q.take j):Z25 p q=Z25 (p.drop j) (q.drop j):=by
 have:=ZDG (p.take j) (p.drop j) (q.drop j);rw[Jh,h,Jh]at this;exact this
end Go.Trie
end
section
namespace Go.Proofs.YtfghidehlnfdiaaGreat
open Go Go.Vcg Go.Trie
section
variable{w:X}
theorem ZBt{o1 o2:Option Addr}{k1 k2:Nat}{a b:By}(h1:RdB w o1 a)(h2:RdB w o2 b)(hl:a.length<=2^62) :
  A Y Zq.n #[.slice o1 a.length k1,.slice o2 b.length k2] w (fun e w'=>e=V (.int Q (Z25 a b))/\Vcg.Mod NoB w w'):=by
 refine ZD fun R hR=>Zq.vc _ _ _ _ _ _ _ _ ?_;unfold Zq.Vc
 refine⟨fun w'=>Vcg.Mod NoB w w'/\(a.take (min a.length b.length)=b.take (min a.length b.length)),
  ⟨fun i w'=>∃j:Nat,i=(j:Int)/\j<=a.length/\j<=b.length/\a.take j=b.take j/\Vcg.Mod NoB w w',fun i _=>((a.length:Int)-i).toNat,⟨0,rfl,Jr _,Jr _,rfl,Mod.refl w⟩,?_⟩,?_⟩
 ·rintro _ _ w1⟨j,rfl,hja,hjb,ht,M⟩
  refine⟨fun hla=>⟨fun hlb=>?_,fun hlb=>⟨M,by rw[show min a.length b.length=j by omega];exact ht⟩⟩,fun hla=>⟨M,by rw[show min a.length b.length=j by omega];exact ht⟩⟩;rintro _ rfl;have ha:j<a.length:=by omega
  have hb:j<b.length:=by omega
  obtain⟨ba,fa,rfl,hba,hca⟩:=Z0t h1 ha;obtain⟨bb,fb,rfl,hbb,hcb⟩:=Z0t h2 hb;have M2:=M.step_drew;have ca:∀w',Vcg.Mod NoB w w'->w'.cell? (Addr.add ⟨ba,fa,J5⟩ (JI (j:Int)))=O (bV a[j]):=fun w' M=>by rw[Z3,J4];exact(ZN M hba (fun h=>h)).trans hca
  have cb:∀w',Vcg.Mod NoB w w'->w'.cell? (Addr.add ⟨bb,fb,J5⟩ (JI (j:Int)))=O (bV b[j]):=fun w' M=>by rw[Z3,J4];exact(ZN M hbb (fun h=>h)).trans hcb
  refine⟨_,rfl,⟨by omega,by omega⟩,_,ca _ M2,_,rfl,⟨by omega,by omega⟩,_,cb _ M2,fun hne=>?_,fun he=>?_⟩
  ·rintro _ rfl
   have M3:=M2.step_drew;have hab:a[j]≠b[j]:=fun e=>hne (by rw[e])
   have hc:Z25 a b=if a[j]<b[j]then -1 else 1:=by
    rw[Z7J ht,JC ha,JC hb];simp only[Z25];rw[if_neg hab]
   have hlt:a[j]<b[j]↔((a[j].toNat:Int)<(b[j].toNat:Int)):=by rw[UInt8.lt_iff_toNat_lt];omega
   refine⟨_,rfl,⟨by omega,by omega⟩,_,ca _ M3,_,rfl,⟨by omega,by omega⟩,_,cb _ M3,fun h=>hR _ _ ⟨?_,M3⟩,fun h=>hR _ _ ⟨?_,M3⟩⟩
   ·rw[hc,if_pos (hlt.2 h)]
   ·rw[hc,if_neg (fun x=>h (hlt.1 x))]
  ·have hab:a[j]=b[j]:=UInt8.toNat_inj.1 (by exact_mod_cast he)
   refine⟨⟨j+1,by rw[Z0 (by omega) (by omega)];omega,ha,hb,?_,M2⟩,by dsimp only;rw[Z0 (by omega) (by omega)];omega⟩;rw[Jb,Jb,ht,J6 ha,J6 hb,hab]
 ·rintro _ w1⟨M,ht⟩
  have hc:=Z7J ht;refine⟨fun h=>hR _ _ ⟨?_,M⟩,fun h=>⟨fun h'=>hR _ _ ⟨?_,M⟩,fun h'=>hR _ _ ⟨?_,M⟩⟩⟩
  ·rw[hc,JF (l:=a) (by omega)]
   cases hd:b.drop (min a.length b.length)with
   |nil=>have:=congrArg Q1 hd;rw[I]at this;simp at this;omega
   |cons x r=>rfl
  ·rw[hc,JF (l:=b) (by omega)]
   cases hd:a.drop (min a.length b.length)with
   |nil=>have:=congrArg Q1 hd;rw[I]at this;simp at this;omega
   |cons x r=>rfl
  ·rw[hc,JF (l:=a) (by omega),JF (l:=b) (by omega)]
   rfl
theorem ZBX(n:Nat):J K (JQ (n:Int) 256)=((J9 n).toNat:Int):=by
 have:JQ (n:Int) 256=((n%256:Nat):Int):=rfl;rw[this,Z36];have h1:(J9 (n%256)).toNat=(J9 n).toNat:=by rw[JZ,JZ];omega
 rw[h1]
theorem Z9V(base n:Nat)(hn:n<2^31)(hb:base<=192) :
  A Y Z19.n #[.int Q (base:Int),.int Q (n:Int)] w (fun e w'=>∃o k,e=V (.slice o (Trie.Z3P n base).length k)/\ZU w w' tU8 1 o (Trie.Z3P n base).length k ((Trie.Z3P n base).map bV)):=by
 refine ZD fun R hR=>Z19.vc _ _ _ _ ?_;unfold Z19.Vc;refine⟨fun hs=>?_,fun hs=>?_⟩
 ·rintro d w2⟨rfl,rfl⟩
  have e:Trie.Z3P n base=[J9 (base+n)]:=by unfold Trie.Z3P;rw[if_pos (by omega)]
  have ew:J Q ((base:Int)+(n:Int))=((base+n:Nat):Int):=by rw[Z0 (by omega) (by omega)];omega
  rw[e]at hR;rw[ew];exact hR _ _ ⟨_,_,rfl,Z4u w _ (Z36 _)⟩
 ·have e:Trie.Z3P n base=J9 (base+55+(Z3I n).length)::Z3I n:=by unfold Trie.Z3P;rw[if_neg (by omega)]
  refine⟨fun o l k n' w'=>∃(f m:Nat)(row:List UInt8),n'=(m:Int)/\m<=n/\m<256^f/\f<=8/\Z3I n=digitsF f m++row/\l=row.length/\ZU w w' tU8 1 o l k (row.map bV),fun _ _ _ n' _=>n'.toNat,
   ⟨8,n,[],rfl,J7 _,by omega,J7 _,by rw[List.append_nil];rfl,rfl,ZU.nil (Mod.refl w) _ _⟩,?_⟩
  rintro o _ k _ _ w1⟨f,m,row,rfl,hmn,hm,hf,hd,rfl,F⟩;have hlen:=Z4N n;refine⟨fun hpos=>?_,fun hz=>?_⟩
  ·rintro d w2⟨rfl,rfl⟩
   rw[hd,W]at hlen;cases f with
   |zero=>simp at hm;omega
   |succ g =>
    have hM:=Mod.alloc (S:=NoB) w1 (J0 #[.int K (J K (JQ (m:Int) 256))] 5);have F1:=Z4u w1 (J9 m) (n:=J K (JQ (m:Int) 256)) (ZBX m);obtain⟨o3,k3,w3,hr3,F3⟩:=ZX (ty:=Zw) (k2:=k) F1 ((ZK F).mod' hM) (by omega)
    have hstep:digitsF (g+1) m=digitsF g (m/256)++[J9 m]:=by
     simp only[digitsF];rw[if_neg (by omega)]
    have hfd:J Q (Jd (m:Int) 256)=((m/256:Nat):Int):=by
     rw[show Jd (m:Int) 256=((m/256:Nat):Int)from rfl,Z0 (by omega) (by omega)]
    rw[hfd];refine⟨_,w3,hr3,_,_,_,rfl,⟨g,m/256,J9 m::row,rfl,by omega,?_,by omega,?_,?_,?_⟩,?_⟩
    ·rw[Nat.pow_succ]at hm
     exact Nat.div_lt_of_lt_mul (by rw[Nat.mul_comm];exact hm)
    ·rw[hd,hstep,List.append_assoc];rfl
    ·simp;omega
    ·exact ZU.from_ F3 F.mod
    ·dsimp only;omega
  ·have hm0:m=0:=by omega
   subst hm0;have h0:digitsF f 0=[]:=by cases f<;>simp[digitsF]
   rw[h0,List.nil_append]at hd;rw[hd]at hlen;rintro d w3⟨rfl,rfl⟩
   have ew2:J Q (J Q ((base:Int)+55)+(((row.length:Nat):Int)))=((base+55+row.length:Nat):Int):=by
    rw[Z0 (n:=(base:Int)+55) (by omega) (by omega),Z0 (by omega) (by omega)];omega
   rw[ew2];obtain⟨o4,k4,w4,hr4,F4⟩:=ZX (ty:=Zw) (k2:=k) (Z4u w1 _ (Z36 (base+55+row.length))) ((ZK F).mod' (Mod.alloc _ _)) (by omega);refine⟨_,w4,hr4,_,_,_,rfl,hR _ _ ⟨o4,k4,?_,?_⟩⟩
   ·rw[e,JS,Q0,hd]
   ·rw[e,JS,Q0,hd]
    exact ZU.from_ F4 F.mod
theorem Z8D{o:Option Addr}{k:Nat}{b:By}(h:RdB w o b)(hl:b.length<2^30) :
  A Y Z0q.n #[.slice o b.length k] w (fun e w'=>∃o' k',e=V (.slice o' (enc (.s b)).length k')/\ZU w w' tU8 1 o' (enc (.s b)).length k' ((enc (.s b)).map bV)):=by
 refine ZD fun R hR=>Z0q.vc _ _ _ _ _ ?_;unfold Z0q.Vc
 have long:own b=JL->A Y 114 #[(.int Q 128),(.int Q ((b.length:Nat):Int))] w (fun e17 w18 =>
   ∃o19:Option Addr,∃l20:Nat,∃l21:Nat,e17=V (.slice o19 l20 l21) /\
   ∃(v22:Value)(w23:X),J1 Y (builtinV J8 #[23,23] 23 #[(.slice o19 l20 l21),(.slice o b.length k)]) w18=Ja v22 w23 /\
   ∃o24:Option Addr,∃l25:Nat,∃l26:Nat,v22=(.slice o24 l25 l26) /\
   R (V (.slice o24 l25 l26)) w23):=by
  intro ho;have e:enc (.s b)=Trie.Z3P b.length 128++b:=by simp only[enc];rw[if_neg (by rw[ho];simp)]
  rw[e,W]at hR;refine(Z9V 128 b.length (by omega) (by omega)).mono ?_;rintro _ w1⟨o1,k1,rfl,F1⟩;have:=(Z6q b.length 128).2;obtain⟨o2,k2,w2,hr2,F2⟩:=ZX (ty:=Zw) (k2:=k) F1 (h.mod' F1.mod) (by omega);exact⟨_,_,_,rfl,_,w2,hr2,_,_,_,rfl,hR _ _ ⟨o2,k2,rfl,F2⟩⟩
 refine⟨fun h1=>?_,fun h1=>long ?_⟩
 ·obtain⟨a,rfl⟩:∃a,b=[a]:=List.length_eq_one_iff.1 (by omega)
  obtain⟨B,f,rfl,hB,hc⟩:=Z0t h (i:=0) (by simp)
  have h2:a<128↔a.toNat<128:=by
   have:∀n:Fin 256,(JM n<128↔(JM n).toNat<128):=by decide +kernel
   exact this a.toFin
  simp only[JO]at hc;refine⟨_,rfl,⟨by omega,by omega⟩,_,by rw[Z3];exact hc,fun hlt=>⟨_,rfl,⟨by omega,by omega⟩,_,by rw[Z3];exact hc,?_⟩,fun hge=>long (by show decide (a<128)=JL;rw[decide_eq_false_iff_not,h2];omega)⟩;rintro d w2⟨rfl,rfl⟩;have e:enc (.s [a])=[a]:=by simp only[enc];rw[if_pos (by show decide (a<128)=Jk;rw[decide_eq_true_eq,h2];omega)]
  rw[e]at hR;exact hR _ _ ⟨_,_,rfl,Z4u w a rfl⟩
 ·unfold own
  split
  ·simp at h1
  ·rfl
theorem Z5g{o:Option Addr}{k:Nat}{b:By}(h:RdB w o b)(hl:b.length<2^30) :
  A Y Z15.n #[.slice o b.length k] w (fun e w'=>∃o' k',e=V (.slice o' (enc (.s b)).length k')/\ZU w w' tU8 1 o' (enc (.s b)).length k' ((enc (.s b)).map bV)):=by
 refine Z15.vc _ _ _ _ _ ?_;unfold Z15.Vc;refine(Z8D h hl).mono ?_;rintro _ w1⟨o1,k1,rfl,F1⟩;exact⟨_,_,_,rfl,o1,k1,rfl,F1⟩
theorem Z4y{o:Option Addr}{k:Nat}{b:By}(h:RdB w o b)(hl:b.length<2^30) :
  A Y Z18.n #[.slice o b.length k] w (fun e w'=>∃o' k',e=V (.slice o' (Trie.Z3P b.length 192++b).length k')/\ZU w w' tU8 1 o' (Trie.Z3P b.length 192++b).length k' ((Trie.Z3P b.length 192++b).map bV)):=by
 refine Z18.vc _ _ _ _ _ ?_;unfold Z18.Vc;refine(Z9V 192 b.length (by omega) (by omega)).mono ?_;rintro _ w1⟨o1,k1,rfl,F1⟩;have:=(Z6q b.length 192).2;obtain⟨o2,k2,w2,hr2,F2⟩:=ZX (ty:=Zw) (k2:=k) F1 (h.mod' F1.mod) (by omega);exact⟨_,_,_,rfl,_,w2,hr2,_,_,_,rfl,o2,k2,by rw[W],by rw[W];exact F2⟩
theorem ZJw(b:UInt8):J K (Jd (b.toNat:Int) 16)=((b>>>4).toNat:Int):=by
 have:∀n:Fin 256,J K (Jd ((JM n).toNat:Int) 16)=((JM n>>>4).toNat:Int):=by decide +kernel
 exact this b.toFin
theorem ZJx(b:UInt8):JQ (b.toNat:Int) 16=((b&&&15).toNat:Int):=by
 have:∀n:Fin 256,JQ ((JM n).toNat:Int) 16=((JM n&&&15).toNat:Int):=by decide +kernel
 exact this b.toFin
theorem Z1G{o:Option Addr}{k:Nat}{bs:By}(hr:RdB w o bs)(hl:bs.length<=2^30) :
  A Y Z09.n #[.slice o bs.length k] w (fun e w'=>∃o' k',e=V (.slice o' (nibbles bs).length k')/\ZU w w' tU8 1 o' (nibbles bs).length k' ((nibbles bs).map bV)):=by
 refine Z09.vc _ _ _ _ _ ?_;unfold Z09.Vc
 refine⟨fun o' l' k' i w'=>∃j:Nat,i=(j:Int)/\j<=bs.length/\l'=(nibbles (bs.take j)).length/\ZU w w' tU8 1 o' l' k' ((nibbles (bs.take j)).map bV),fun _ _ _ i _=>((bs.length:Int)-i).toNat,
  ⟨0,rfl,Jr _,rfl,ZU.nil (Mod.refl w) _ _⟩,?_⟩
 rintro o' _ k' _ _ w1⟨j,rfl,hj,rfl,F⟩;refine⟨fun hlt=>?_,fun hge=>?_⟩
 ·rintro _ rfl
  have hjl:j<bs.length:=by omega
  obtain⟨b,f,rfl,hb,hc⟩:=Z0t hr hjl;have htk:bs.take (j+1)=bs.take j++[bs[j]]:=by rw[Jb,J6 hjl];rfl
  have F':=F.mod' (Mod.drew (S:=NoB) w1);have hc':w1.drew.cell? (Addr.add ⟨b,f,J5⟩ (JI (j:Int)))=O (bV bs[j]):=by rw[Z3,J4];exact(ZN F'.mod hb (fun h=>h)).trans hc
  refine⟨_,rfl,⟨by omega,by omega⟩,_,hc',_,rfl,⟨by omega,by omega⟩,_,hc',?_⟩;rintro d w2⟨rfl,rfl⟩;have hnl:=ZQ (bs.take j);rw[Jc]at hnl;obtain⟨o3,k3,w3,hr3,F3⟩:=ZX (ty:=Zw) (k2:=2) (F'.mod' (Mod.alloc _ _)) (ZCp (w:=w1.drew) (bs[j]>>>4) (bs[j]&&&15) (ZJw _) (ZJx _)) (by simp;omega);refine⟨_,w3,hr3,_,_,_,rfl,⟨j+1,by rw[Z0 (by omega) (by omega)];omega,hjl,?_,?_⟩,?_⟩
  ·rw[htk,Z43,W]
  ·rw[htk,Z43];exact F3
  ·dsimp only
   rw[Z0 (by omega) (by omega)];omega
 ·obtain rfl:j=bs.length:=by omega
  rw[Jp]at F ⊢;exact⟨_,_,rfl,F⟩
theorem Z8E(w:X):A Y Z07.n #[] w (fun e w'=>e=V (JK (hashA emptyH))/\Vcg.Mod NoB w w'):=by
 refine Z07.vc _ _ ?_;unfold Z07.Vc;rintro d1 w1⟨rfl,rfl⟩ d2 w2⟨rfl,rfl⟩;have M1:=Mod.alloc (S:=NoB) w (J0 (U 32 (.int K 0)) 27);have H:=Blk.new w 27 (U 32 (.int K 0));generalize w.alloc (J0 (U 32 (.int K 0)) 27)=w1 at *
 have r2:=ZEi w1;have M2:=Mod.alloc (S:=NoB) w1 (J0 #[.int K 128] 5);generalize w1.alloc (J0 #[.int K 128] 5)=w2 at *
 refine(Z45 [128] rfl (by simp) r2).mono ?_;rintro _ w4⟨rfl,M4⟩;have M24:=M2.trans M4 (fun _ _ h=>h);obtain⟨h1,h2,h3⟩:=Z12 (H.mod' M24) (by simp) (sumOf [128]);exact⟨_,rfl,_,h1,_,h2.rowAll (ZB _),rfl,ZI (M1.trans M24 (fun _ _ h=>h)) h3 (J7 _)⟩
end
end Go.Proofs.YtfghidehlnfdiaaGreat
end
