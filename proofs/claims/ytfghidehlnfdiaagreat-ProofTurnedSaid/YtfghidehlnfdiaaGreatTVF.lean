/- Contracts of the reference: an item; a reference. -/
/- Contracts of the reference: a row's item. -/
/- Contracts of the reference: a branch's item; all items. -/
/- Contracts of the reference: made, Of. -/
/- Contracts of the reference: Put, Find; the plain map. -/
/- The sorted map and its trie: plain Lean. -/
/- Contracts: Find, Nodes, things held against one another. -/
/- States as lists; a round looks at 25 lanes alone. -/
/- The document's example: the law's own check of it. -/
/- The verification conditions of some functions, printed by a program of ours (wip/PrintVc.lean). -/
/- Unpacking a path, both ways. -/
/- The verification conditions of some functions, printed by a program of ours (wip/PrintVc.lean). -/
import Derived.Test.YtfghidehlnfdiaaGreatTR5
import Derived.Test.YtfghidehlnfdiaaGreatXMap
import Derived.Test.YtfghidehlnfdiaaGreatProg
import Derived.KernelRfl
set_option linter.unusedVariables false
set_option linter.unusedSimpArgs false
open Array renaming replicate->W
open Bool renaming eq_iff_iff->Jd,false->X,true->JT
open Go renaming Calls->JB,Ending->JZ,Value->Ja,World->J5
open Go.Ending renaming returned->V
open Go.IntKind renaming i64->Y,u64->Jg,u8->JS,wrap->J
open Go.Obj renaming cells->J7
open Go.Proofs.Tryz renaming prog->O
open Go.Value renaming agg->JL,bool->G,pointer->J9,tuple->U
open Int renaming tmod->J2,toNat->H,toNat_natCast->J6
open List renaming append_nil->Jc,drop_eq_getElem_cons->JO,eq_nil_of_length_eq_zero->JC,finRange->J1,getElem?_eq_getElem->JA,getElem_mem->J4,length->JK,length_append->J0,length_cons->I,length_drop->J8,length_take->JX,map_append->Jb,map_cons->Je,mem_cons->JR,mem_map->JW,mem_singleton->JM,pairwise_cons->JN,take_add_one->JV,take_length->JY,take_of_length_le->JE
open Nat renaming add_assoc->JJ,le_refl->JG,le_succ->Jf,lt_of_lt_of_le->JU,zero_add->JD,zero_le->JH
open Option renaming none->K,some->Z
open Or renaming inl->JF,inr->J3
open Prod.mk renaming inj->JQ
open UInt8 renaming lt_iff_toNat_lt->JI,ofFin->E,ofNat->JP
section
namespace Go.Proofs.YtfghidehlnfdiaaGreat
open Go Go.Vcg Go.Trie
structure EsOk (es:List (By×By)):Prop where
 len:es.length<=2^20
 paths:∀e∈es,e.1.length<=128
 vals:∀e∈es,e.2.length<=1024
theorem enc2(x y:It):enc (.l [x,y])=Trie.Z2X ((enc x).length+(enc y).length) 192++(enc x++enc y):=by
 simp[enc,Z1O]
def ZCR(n:Nd):Prop:=∀⦃w:J5⦄ ⦃L:Nat->Nat⦄ ⦃d0 a b i:Nat⦄ ⦃es out:List (By×By)⦄,BS w L d0 es out->EsOk es->Z7M es a b i->Rep (seg es a b i) n->out.length+cnt n<=2^20 ->
 JB O ZE.n #[J9 (Z ⟨d0,0,K⟩),.int Y (a:Int),.int Y (b:Int),.int Y (i:Int)] w (fun e w'=>∃o k,e=V (.slice o (bytesOf n).length k)/\∃L',Stp (SI i) w L w' L'/\BS w' L' d0 es (kidsN n out)/\CBy w' L' 5 o (bytesOf n)/\(bytesOf n).length<=k)
def ZFY(n:Nd):Prop:=∀⦃w:J5⦄ ⦃L:Nat->Nat⦄ ⦃d0 a b i:Nat⦄ ⦃es out:List (By×By)⦄,BS w L d0 es out->EsOk es->Z7M es a b i->Rep (seg es a b i) n->out.length+cnt n<=2^20 ->
 JB O Zb.n #[J9 (Z ⟨d0,0,K⟩),.int Y (a:Int),.int Y (b:Int),.int Y (i:Int)] w (fun e w'=>∃o k,e=V (.slice o (enc (Z4b n)).length k)/\∃L',Stp (SI i) w L w' L'/\BS w' L' d0 es (Z16 n X out)/\CBy w' L' 5 o (enc (Z4b n)))
theorem ZDt{i:Nat}:¬SI i 5/\¬SI i 6/\¬SI i 7:=⟨by rintro(h|h|h)<;>omega,by rintro(h|h|h)<;>omega,by rintro(h|h|h)<;>omega⟩
theorem ZDI{n:Nd}(hI:ZCR n)(hn:n≠.nil)(hs:Z5I n):ZFY n:=by
 intro w L d0 a b i es out hB hE hok hR hl;refine Z9 fun R hR'=>Zb.vc _ _ _ _ _ _ ?_;unfold Zb.Vc;refine(hI hB hE hok hR hl).mono ?_;rintro _ w1⟨o1,k1,rfl,L1,s1,B1,x1,hk1⟩;have hbl:=Z8F hs;rw[Z8A hn]at hR';have hkl:=kids_len (n:=n) out;refine⟨_,_,_,rfl,fun h32=>?_,fun h32=>?_⟩
 ·have e1:enc (Z4b n)=bytesOf n:=by unfold Z4b Z2e;rw[if_neg (by simp only[bytesOf]at h32;omega)];rfl
  have e2:Z1g (kidsN n out) X (bytesOf n)=kidsN n out:=by unfold Z1g;rw[decide_eq_true (by omega:(bytesOf n).length<32)];simp
  rw[e1,e2]at hR';exact hR' _ _ ⟨o1,k1,rfl,L1,s1,B1,x1⟩
 ·have e1:enc (Z4b n)=enc (.s (sumOf (bytesOf n))):=by unfold Z4b Z2e;rw[if_pos (by simp only[bytesOf]at h32;omega)];rfl
  rw[e1]at hR';refine(Z2l (bytesOf n) rfl (by omega) x1.rd).mono ?_;rintro _ w2⟨rfl,M2⟩;refine⟨_,rfl,?_⟩;rintro d w3⟨rfl,rfl⟩;have H3:=Blk.new w2 27 (W 32 (.int JS 0));obtain⟨h1,h2,h3⟩:=Z0k H3 (by simp) (sumOf (bytesOf n));have M3:=M2.step_alloc (J7 (W 32 (.int JS 0)) 27);have M4:=ZC M3 h3 M2.size;refine⟨_,h1,_,h2.rowAll (Z4 _),?_⟩;have hge:=M2.size;have hlt4:=h2.lt;generalize w2.heap.size=D at *
  generalize((w2.alloc (J7 (W 32 (.int JS 0)) 27)).setRow D (hashA (sumOf (bytesOf n))))=w4 at *
  have B4:=B1.mod' M4 5;have s4:Stp NoS w1 L1 w4 (ext L1 w1.heap.size 5):=Stp.of_nob M4 5;have x4:=x1.stp s4 (fun h=>h);have D4:CB w4 (ext L1 w1.heap.size 5) 5 D tHash (hashA (sumOf (bytesOf n))):=⟨h2,Z0D hge⟩;generalize ext L1 w1.heap.size 5=L4 at *
  refine(Z7v (k:=k1) B4 x4 (ZN _) hk1 (by omega)).mono ?_;rintro _ w5⟨rfl,L5,s5,_,B5⟩;have D5:=D4.stp s5 (by decide)
  have hrd:RdB w5 (Z ⟨D,0,K⟩) (sumOf (bytesOf n)):=RdB.of_blk D5.blk (fun j hj=>by
   rw[ZN]at hj;simp only[JD,hashA];exact Z8 hj)
  obtain⟨o6,k6,w6,hr6,F6⟩:=Z3F (k2:=32) (ty:=Zy) (Mod.refl w5) hrd (by rw[ZN];omega);rw[ZN]at hr6;refine⟨rfl,_,w6,hr6,_,_,_,rfl,?_⟩;have hst:=Z40 (k:=k6) (Zj F6) (by rw[ZN];omega);rw[ZN]at hst;refine hst.mono ?_;rintro _ w7⟨o7,k7,rfl,F7⟩;have F57:=ZM.from_ F7 F6.mod;have B7:=B5.mod' F57.mod 5;have s7:Stp NoS w5 L5 w7 (ext L5 w5.heap.size 5):=Stp.of_nob F57.mod 5
  have e2:Z1g (kidsN n out) X (bytesOf n)=if met (kidsN n out) (sumOf (bytesOf n))then kidsN n out else kidsN n out++[(sumOf (bytesOf n),bytesOf n)]:=by
   unfold Z1g;rw[decide_eq_false (by omega:¬(bytesOf n).length<32)];simp
  rw[e2]at hR';refine⟨_,_,_,rfl,hR' _ _ ⟨o7,k7,rfl,_,?_,B7,Z2W F57 (Mod.refl _)⟩⟩;exact((s1.trans (s4.mono (fun _ h=>h.elim))).trans (s5.mono (fun k h=>h.elim JF (fun h=>J3 (JF h))))).trans (s7.mono (fun _ h=>h.elim))
theorem BS.path{w:J5}{L:Nat->Nat}{d0:Nat}{es out:List (By×By)}(h:BS w L d0 es out){j:Nat}(hj:j<es.length){i:Nat}(hi:i<=es[j].1.length) :
  ∃op cp b f o k,World.cell? w ⟨d0,1,K⟩=Z (.slice op es.length cp)/\op=Z ⟨b,f,K⟩/\w.cell? ⟨b,f+j,K⟩=Z (.slice o es[j].1.length k)/\es[j].1.length<=k/\CBy w L 5 o es[j].1/\CBy w L 5 (subO o k i 1) (es[j].1.drop i):=by
 obtain⟨ol,cl,op,cp,on,nn,kn,c1,c2,c3,c4⟩:=h.ex;obtain⟨b,f,o,k,e1,e2,e3,e4,e5,e6⟩:=c3 j hj;have:=e6.sub (lo:=i) (n:=es[j].1.length-i) e5;rw[JE (by rw[J8];omega)]at this;exact⟨op,cp,b,f,o,k,c1.blk.rd1 rfl,e1,e4,e5,e6,this⟩
theorem BS.val{w:J5}{L:Nat->Nat}{d0:Nat}{es out:List (By×By)}(h:BS w L d0 es out){j:Nat}(hj:j<es.length) :
  ∃ol cl b f ov kv,World.cell? w ⟨d0,0,K⟩=Z (.slice ol es.length cl)/\ol=Z ⟨b,f,K⟩/\w.cell? ⟨b,f+(j*2+1),K⟩=Z (.slice ov es[j].2.length kv)/\CBy w L 6 ov es[j].2:=by
 obtain⟨ol,cl,op,cp,on,nn,kn,c1,c2,c3,c4⟩:=h.ex;obtain⟨b,f,ov,kv,e1,e2,e3,e4,e5⟩:=c2 j hj;exact⟨ol,cl,b,f,ov,kv,c1.blk.rd1 rfl,e1,e4,e5⟩
theorem Z7o(p v:By):ZCR (.leaf p v):=by
 intro w L d0 a b i es out hB hE hok hR hl;refine Z9 fun R hR'=>ZE.vc _ _ _ _ _ _ ?_;unfold ZE.Vc;have hseg:=hR.leaf
 have hb:b=a+1:=by
  have:=congrArg JK hseg;rw[Z5c hok.le]at this;have:=hok.lt;simp at *;omega
 subst hb;have ha:a<es.length:=by have:=hok.le;omega
 have hla:=hE.len;have e0:=Z55 hok;rw[hseg]at e0;simp only[List.head?_cons,Option.some.injEq,Prod.mk.injEq]at e0;obtain⟨rfl,rfl⟩:=e0;have hi:=hok.len a ha (JG _) (by omega);have hpl:=hE.paths _ (J4 ha);have hvl:=hE.vals _ (J4 ha);have hd:(es[a].1.drop i).length=es[a].1.length-i:=J8;have hpk:=Z4y (es[a].1.drop i) JT (by omega);refine⟨fun _=>?_,fun h=>absurd (by rw[Z0 (by omega) (by omega)];omega) h⟩;obtain⟨op,cp,pb,pf,o,k,h1,rfl,h2,h3,h4,h5⟩:=hB.path ha hi;simp only[Z2,JD,J6];refine⟨_,_,_,h1,_,rfl,⟨by omega,by omega⟩,_,_,_,by rw[Z2];exact h2,⟨by omega,by omega⟩,?_⟩;have hp:=Z6x (k:=k-i) h5.rd (by omega) JT;rw[hd]at hp;refine hp.mono ?_;rintro _ w1⟨o1,k1,rfl,F1⟩;refine⟨_,_,_,_,rfl,?_⟩;rintro _ rfl;have MD:=Mod.drew (S:=NoB) w1;have B2:=hB.mod' (F1.mod.trans MD (fun _ _ h=>h)) 5;obtain⟨ol,cl,vb,vf,ov,kv,g1,rfl,g2,g3⟩:=B2.val ha;refine⟨_,_,_,g1,_,rfl,⟨by omega,by omega⟩,_,_,_,by rw[Z2,Z2,JJ];exact g2,?_⟩;refine(Z40 (b:=Z2D (es[a].1.drop i) JT) ((Zj F1).mod' MD) (by omega)).mono ?_;rintro _ w3⟨o3,k3,rfl,F3⟩;have B3:=B2.mod' F3.mod 5;obtain⟨ol,cl,vb',vf',ov',kv',g1',hol,g2',g3'⟩:=B3.val ha;rw[ZK F3.mod (b:=d0) (by obtain⟨_,_,_,_,_,_,_,c1,_⟩:=B2.ex;exact c1.blk.lt) (fun h=>h),g1]at g1';cases g1';cases hol;have hvb:vb<w1.drew.heap.size:=by obtain⟨ol,cl,op,cp,on,nn,kn,c1,c2,_⟩:=B2.ex;obtain⟨b',f',ov'',kv'',q1,q2,_⟩:=c2 a ha;have:=c1.blk.rd1 (i:=0) rfl;rw[g1]at this;cases this;cases q1;exact q2
 rw[ZK F3.mod hvb (fun h=>h),g2]at g2';cases g2';refine⟨_,_,_,rfl,by rw[Z2,Z2,JJ];exact(ZK F3.mod hvb (fun h=>h)).trans g2,(ZK F3.mod (by obtain⟨_,_,_,_,_,_,_,c1,_⟩:=B2.ex;exact c1.blk.lt) (fun h=>h)).trans g1,?_⟩;refine(Z40 (k:=kv) g3'.rd (by omega)).mono ?_;rintro _ w4⟨o4,k4,rfl,F4⟩;have q1:=Z21 (Z2D (es[a].1.drop i) JT);have q2:=Z21 es[a].2;obtain⟨o5,k5,w5,hr5,F5⟩:=ZW (ty:=Zy) (k2:=k4) (F3.mod' F4.mod) (Zj F4) (by omega);refine⟨_,_,_,rfl,_,w5,hr5,_,_,_,rfl,?_⟩;have hL:=Z3O (k:=k5) (Zj F5) (by rw[J0];omega);rw[J0]at hL;refine hL.mono ?_;rintro _ w6⟨o6,k6,rfl,F6⟩
 have e6:Trie.Z2X ((enc (.s (Z2D (es[a].1.drop i) JT))).length+(enc (.s es[a].2)).length) 192++(enc (.s (Z2D (es[a].1.drop i) JT))++enc (.s es[a].2))=bytesOf (.leaf (es[a].1.drop i) es[a].2):=by
  simp only[bytesOf,Z1j];rw[enc2]
 rw[e6]at F6 ⊢;have M06:=((F1.mod.trans MD (fun _ _ h=>h)).trans F5.mod (fun _ _ h=>h)).trans F6.mod (fun _ _ h=>h);have F06:=ZM.from_ F6 ((F1.mod.trans MD (fun _ _ h=>h)).trans F5.mod (fun _ _ h=>h));exact⟨_,_,_,rfl,hR' _ _ ⟨o6,k6,rfl,_,(Stp.of_nob M06 5).mono (S:=NoS) (fun _ h=>h.elim),hB.mod' M06 5,Z2W F06 (Mod.refl _),F06.own.cap.1⟩⟩
theorem ZCu{c:Nd}(hRef:ZFY c){p:By}(hc:Z1N (.row p c)):ZCR (.row p c):=by
 intro w L d0 a b i es out hB hE hok hR hl;refine Z9 fun R hR'=>ZE.vc _ _ _ _ _ _ ?_;unfold ZE.Vc;have hab:=hok.lt;have hbl:=hok.le;have hla:=hE.len;have ha:a<es.length:=by omega
 have hi:=hok.len a ha (JG _) hab;have hpl:=hE.paths _ (J4 ha);obtain⟨k1,v1,k2,v2,g1,g2,hne⟩:=ZFL hc;have h2:=hR.two g1 g2 hne;rw[Z5c hbl]at h2;have hsh:=hR.shared_row hc (Z55 hok) (ZBl hok);obtain⟨hpre,hRc⟩:=hR.row;have hpre1:=hpre _ (List.mem_of_mem_head? (Z55 hok));have hp1:1<=p.length:=List.length_pos_iff.2 hc.1;have hd:(es[a].1.drop i).length=es[a].1.length-i:=J8;have hple:=hpre1.length_le;simp only at hsh hple;rw[<-ZDQ]at hRc;have htake:(es[a].1.drop i).take p.length=p:=(List.prefix_iff_eq_take.1 hpre1).symm
 have hok':Z7M es a b (i+p.length):=by
  refine⟨hab,hbl,fun j hj h1 h2=>?_⟩;have:=(hpre _ (ZAd (i:=i) hbl h1 h2)).length_le;simp only[J8]at this;have:=hok.len j hj h1 h2;omega
 have hpk:=Z4y p X (by omega);refine⟨fun h=>absurd h (by rw[Z0 (by omega) (by omega)];omega),fun _=>⟨fun n w'=>n=(p.length:Int)/\Vcg.Mod NoB w w',ZEe hB hok hE.paths hE.len (by omega) (fun w' M=>⟨by rw[hsh],M⟩),?_⟩⟩;rintro _ _ w1⟨rfl,M1⟩;refine⟨fun _=>?_,fun h=>absurd h (by omega)⟩;have B1:=hB.mod' M1 5;obtain⟨op,cp,pb,pf,o,k,h1,rfl,h2,h3,h4,h5⟩:=B1.path ha hi;have ew:J Y ((i:Int)+(p.length:Int))=((i+p.length:Nat):Int):=by rw[Z0 (by omega) (by omega)];omega
 simp only[ew,Z2,JD,J6];refine⟨_,_,_,h1,_,rfl,⟨by omega,by omega⟩,_,_,_,by rw[Z2];exact h2,⟨by omega,by omega⟩,⟨by omega,by omega⟩,?_⟩;have hpr:=h5.rd.take p.length;rw[htake]at hpr;have hP:=Z6x (k:=k-i) hpr (by omega) X;rw[show i+p.length-i=p.length by omega];refine hP.mono ?_;rintro _ w2⟨o2,k2,rfl,F2⟩;refine⟨_,_,_,_,rfl,?_⟩;refine(Z40 (b:=Z2D p X) (Zj F2) (by omega)).mono ?_;rintro _ w3⟨o3,k3,rfl,F3⟩;have M03:=(M1.trans F2.mod (fun _ _ h=>h)).trans F3.mod (fun _ _ h=>h);have F03:=ZM.from_ F3 (M1.trans F2.mod (fun _ _ h=>h));have B3:=hB.mod' M03 (8+i);obtain⟨O3,s3⟩:=F03.done (lab:=L) (8+i);generalize ext L w.heap.size (8+i)=L3 at *
 refine⟨_,_,_,rfl,?_⟩;have hcnt:cnt (.row p c)=1+cnt c:=rfl;refine(hRef B3 hE hok' hRc (by omega)).mono ?_;rintro _ w4⟨o4,k4,rfl,L4,s4,B4,x4⟩;have O4:=O3.stp s4 (by rintro(h|h|h)<;>omega);have q1:=Z21 (Z2D p X);have q2:=ZBe c;obtain⟨o5,k5,w5,hr5,O5,s5⟩:=Z6C (ty:=Zy) (k2:=k4) O4 x4.rd (by omega);have B5:=B4.stp s5 (by omega) (by omega) (by omega) (by omega) (by omega);generalize ext L4 w4.heap.size (8+i)=L5 at *
 refine⟨_,_,_,rfl,_,w5,hr5,_,_,_,rfl,?_⟩;have hL:=Z3O (k:=k5) O5.own.bytes (by rw[J0];omega);rw[J0]at hL;refine hL.mono ?_;rintro _ w6⟨o6,k6,rfl,F6⟩
 have e6:Trie.Z2X ((enc (.s (Z2D p X))).length+(enc (Z4b c)).length) 192++(enc (.s (Z2D p X))++enc (Z4b c))=bytesOf (.row p c):=by
  simp only[bytesOf,Z1j];rw[enc2];rfl
 rw[e6]at F6 ⊢;refine⟨_,_,_,rfl,hR' _ _ ⟨o6,k6,rfl,_,?_,B5.mod' F6.mod 5,Z2W F6 (Mod.refl _),F6.own.cap.1⟩⟩;have s6:Stp NoS w5 L5 w6 (ext L5 w5.heap.size 5):=Stp.of_nob F6.mod 5;exact(((s3.mono (fun _ h=>h.elim)).trans (s4.mono (fun k h=>by rcases h with h|h|h;exact JF h;exact J3 (JF h);exact J3 (J3 (by omega))))).trans (s5.mono (fun k h=>J3 (J3 (by omega))))).trans (s6.mono (fun _ h=>h.elim))
end Go.Proofs.YtfghidehlnfdiaaGreat
end
section
namespace Go.Trie
theorem ZEG{f:Fin 16->Nat}{j:Nat}(hj:j<16):(((J1 16).take j).map f).sum+f ⟨j,hj⟩<=((J1 16).map f).sum:=by
 have e:=congrArg List.sum (congrArg (List.map f) (List.take_append_drop j (J1 16)));rw[Jb,List.sum_append]at e
 have e2:(J1 16).drop j=⟨j,hj⟩::(J1 16).drop (j+1):=by
  rw[JO (by simpa using hj)];simp
 rw[e2,Je,List.sum_cons]at e;omega
theorem ZBF{j:Nat}(hj:j<16):(J1 16).take (j+1)=(J1 16).take j++[⟨j,hj⟩]:=by
 rw[JV,JA (by simpa using hj)];simp
theorem ZAW{a b:Nat}{p:By}(h:Z6m a p)(hab:a<=b):Z6m b p:=by
 cases p with
 |nil=>trivial
 |cons c r=>exact JU h hab
end Go.Trie
end
section
namespace Go.Proofs.YtfghidehlnfdiaaGreat
open Go Go.Vcg Go.Trie
theorem enc_l(xs:List It):enc (.l xs)=Trie.Z2X (Z1O xs).length 192++Z1O xs:=by simp only[enc]
theorem Z9Y{cs:Fin 16->Nd}{v:By}(hRef:∀i,ZFY (cs i))(hc:Z1N (.branch cs v)):ZCR (.branch cs v):=by
 intro w0 L0 d0 a b i es out hB0 hE hok hR hl;refine Z9 fun R hR'=>ZE.vc _ _ _ _ _ _ ?_;unfold ZE.Vc;have hab:=hok.lt;have hbl:=hok.le;have hla:=hE.len;have ha:a<es.length:=by omega
 have hi:=hok.len a ha (JG _) hab;have hpl:=hE.paths _ (J4 ha);obtain⟨k1,v1,k2,v2,g1,g2,hne⟩:=Z8m hc trivial;have h2:=hR.two g1 g2 hne.1;rw[Z5c hbl]at h2;have hsh:=hR.parts hc trivial (Z55 hok) (ZBl hok);simp only at hsh;refine⟨fun h=>absurd h (by rw[Z0 (by omega) (by omega)];omega),fun _=>⟨fun n w'=>n=0/\Vcg.Mod NoB w0 w',ZEe hB0 hok hE.paths hE.len (by omega) (fun w' M=>⟨by rw[hsh];rfl,M⟩),?_⟩⟩;rintro _ _ w⟨rfl,M0⟩;refine⟨fun h=>absurd h (by omega),fun _=>?_⟩;have hB:=hB0.mod' M0 5;have sM:Stp NoS w0 L0 w (ext L0 w0.heap.size 5):=Stp.of_nob M0 5;generalize ext L0 w0.heap.size 5=L at *
 obtain⟨hv1,hv2,hv3⟩:=hR.value (ZBk hok);simp only at hv1 hv2;obtain⟨op,cp,pb,pf,o,k,h1,rfl,h2',h3,h4,h5⟩:=hB.path ha hi;obtain⟨ol,cl,vb,vf,ov,kv,f1,rfl,f2,f3⟩:=hB.val ha;simp only[Z2,JD,J6];refine⟨fun n o' l' k' w'=>w'=w/\∃m:Nat,n=(m:Int)/\a<=m/\m<=a+1/\l'=v.length/\CBy w L 6 o' v/\(∀y∈seg es a m i,Z6m 0 y.1)/\(∀y∈seg es m b i,Z7m 0 y.1),?_,?_⟩
 ·refine⟨_,_,_,h1,_,rfl,⟨by omega,by omega⟩,_,_,_,by rw[Z2];exact h2',fun he=>?_,fun he=>?_⟩
  ·have hd0:es[a].1.drop i=[]:=List.drop_eq_nil_of_le (by omega)
   have hvv:=hv1 hd0;refine⟨_,_,_,f1,_,rfl,⟨by omega,by omega⟩,_,_,_,by rw[Z2,Z2,JJ];exact f2,rfl,a+1,by rw[Z0 (by omega) (by omega)];omega,by omega,JG _,by rw[hvv],by rw[hvv];exact f3,?_,?_⟩
   ·intro y hy
    obtain⟨j,hj,q1,q2,rfl⟩:=ZAo (by omega) hy;obtain rfl:j=a:=by omega
    rw[hd0];trivial
   ·intro y hy
    have:=hv3 y hy;cases hy1:y.1 with
    |nil=>exact(this hy1).elim
    |cons c r=>exact JH _
  ·have hdne:es[a].1.drop i≠[]:=fun e=>by
     have:=congrArg JK e;rw[J8]at this;simp at this;omega
   have hvv:=hv2 hdne;refine⟨rfl,a,rfl,JG _,by omega,by rw[hvv];rfl,by rw[hvv];exact CBy.nil _ _ _ _,?_,?_⟩
   ·rw[Z8g];intro y hy;cases hy
   ·intro y hy
    rw[ZBk hok]at hy;rcases List.mem_cons.1 hy with rfl|hy
    ·cases hdd:es[a].1.drop i with
     |nil=>exact(hdne hdd).elim
     |cons c r=>exact JH _
    ·have:=hv3 y hy
     cases hy1:y.1 with
     |nil=>exact(this hy1).elim
     |cons c r=>exact JH _
 ·rintro _ o133 _ c133 _ w⟨rfl,m0,rfl,hm1,hm2,rfl,hval,hlt0,hge0⟩
  let pay:Nat->By:=fun x=>Z1O (((J1 16).take x).map fun i=>Z2e (Z1j (cs i)))
  let outs:Nat->List (By×By):=fun x=>((J1 16).take x).foldl (fun o i=>Z16 (cs i) X o) out
  have hpay:∀x,(pay x).length<=41*16:=fun x=>by
   have h1:=Z4R cs ((J1 16).take x);have h2:((J1 16).take x).length<=16:=by rw[JX,List.length_finRange];omega
   simp only[pay];omega
  refine⟨fun o l k n m w'=>∃x at_:Nat,m=(x:Int)/\x<=16/\n=(at_:Int)/\a<=at_/\at_<=b/\(∀y∈seg es a at_ i,Z6m x y.1)/\(∀y∈seg es at_ b i,Z7m x y.1)/\l=(pay x).length/\∃L',Stp (SI i) w L w' L'/\BS w' L' d0 es (outs x)/\COw w' L' (8+i) tU8 1 o l k ((pay x).map bV),
   fun _ _ _ _ m _=>((16:Int)-m).toNat,⟨0,m0,rfl,JH _,rfl,hm1,by omega,hlt0,hge0,rfl,L,Stp.refl _ _ _,hB,COw.nil _ _ _ _ _⟩,?_⟩
  rintro o136 _ c136 _ _ _ w1⟨x,m,rfl,hx,rfl,hma,hmb,hlt,hge,rfl,L1,s1,B1,O1⟩;refine⟨fun hx16=>?_,fun hx16=>?_⟩
  ·have hx':x<16:=by omega
   have hxb:(JP x).toNat=x:=by rw[UInt8.toNat_ofNat'];omega
   refine⟨fun n w'=>w'=w1/\∃e:Nat,n=(e:Int)/\m<=e/\e<=b/\(∀y∈seg es m e i,∃r,y.1=JP x::r)/\(∀y,(seg es e b i).head?=Z y->∀c r,y.1=c::r->c.toNat≠x),?_,?_⟩
   ·refine⟨fun n w'=>w'=w1/\∃e:Nat,n=(e:Int)/\m<=e/\e<=b/\(∀y∈seg es m e i,∃r,y.1=JP x::r),fun n _=>((b:Int)-n).toNat,⟨rfl,m,rfl,JG _,hmb,by rw[Z8g];intro y hy;cases hy⟩,?_⟩
    rintro _ _ w1⟨rfl,e,rfl,he1,he2,hrun⟩;refine⟨fun heb=>?_,fun heb=>⟨rfl,e,rfl,he1,he2,hrun,by rw[show e=b by omega,Z8g];intro y hy;cases hy⟩⟩;have heb':e<b:=by omega
    have hel:e<es.length:=by omega
    have hei:=hok.len e hel (by omega) heb';have hepl:=hE.paths _ (J4 hel);have hgee:=hge _ (ZAd (i:=i) hbl he1 heb');have hok_e:Z7M es e b i:=⟨heb',hbl,fun j hj q1 q2=>hok.len j hj (by omega) q2⟩;obtain⟨op,cp,pb,pf,o,k,h1,rfl,h2',h3,h4,h5⟩:=B1.path hel hei;cases hdd:es[e].1.drop i with
    |nil=>simp only[hdd]at hgee;exact hgee.elim
    |cons c r =>
     have hile:i<es[e].1.length:=by
      have:=congrArg JK hdd;rw[J8]at this;simp at this;omega
     have hci:es[e].1[i]=c:=by
      have:=JO hile;rw[hdd]at this;exact(List.cons.inj this).1.symm
     obtain⟨qb,qf,rfl,hqb,hqc⟩:=Z1S h4.rd hile;rw[hci]at hqc;have hc256:c.toNat<256:=c.toNat_lt;refine⟨_,_,_,h1,_,rfl,⟨by omega,by omega⟩,_,_,_,by rw[Z2,J6];exact h2',_,rfl,⟨by omega,by omega⟩,_,by rw[Z2];exact hqc,fun hq=>?_,fun hq=>?_⟩
     ·rw[Z0 (by omega) (by omega)]at hq
      have hcx:c=JP x:=by apply UInt8.toNat_inj.1;rw[hxb];omega
      refine⟨⟨rfl,e+1,by rw[Z0 (by omega) (by omega)];omega,by omega,by omega,?_⟩,by dsimp only;rw[Z0 (by omega) (by omega)];omega⟩;intro y hy;rw[Z36 he1 (Jf e)]at hy;rcases List.mem_append.1 hy with hy|hy
      ·exact hrun y hy
      ·obtain⟨j,hj,q1,q2,rfl⟩:=ZAo (by omega) hy
       obtain rfl:j=e:=by omega
       exact⟨r,by rw[hdd,hcx]⟩
     ·rw[Z0 (by omega) (by omega)]at hq
      refine⟨rfl,e,rfl,he1,he2,hrun,?_⟩;rw[Z55 hok_e];rintro y hy c' r' hy1;cases hy;simp only[hdd]at hy1;cases hy1;omega
   ·rintro _ _ w1⟨rfl,e,rfl,he1,he2,hrun,hstop⟩
    have hspl:seg es a b i=seg es a m i++(seg es m e i++seg es e b i):=by rw[<-Z36 he1 he2,<-Z36 hma hmb]
    have hpw:(seg es m b i).Pairwise (fun x y=>ltB x.1 y.1):=by
     have:=hR.1;rw[Z36 hma hmb]at this;exact(List.pairwise_append.1 this).2.1
    have hge':=ZFB hpw (Z36 he1 he2) hge hstop;have hkid:=hR.kid ⟨x,hx'⟩ hspl hlt hrun hge';rw[<-ZDQ]at hkid
    have hlt':∀y∈seg es a e i,Z6m (x+1) y.1:=by
     intro y hy;rw[Z36 hma he1]at hy;rcases List.mem_append.1 hy with hy|hy
     ·exact ZAW (hlt y hy) (Jf x)
     ·obtain⟨r,hr⟩:=hrun y hy
      rw[hr];show(JP x).toNat<x+1;omega
    have epay:pay (x+1)=pay x++enc (Z4b (cs ⟨x,hx'⟩)):=by
     simp only[pay];rw[ZBF hx',Jb,encs_append];simp only[Je,List.map_nil,Z1O,Jc];rfl
    have eout:outs (x+1)=Z16 (cs ⟨x,hx'⟩) X (outs x):=by
     simp only[outs];rw[ZBF hx',List.foldl_append];rfl
    have ewx:J Y ((x:Int)+1)=((x+1:Nat):Int):=by rw[Z0 (by omega) (by omega)];omega
    rw[ewx];have hpx:=hpay x;refine⟨fun hem=>?_,fun hem=>?_⟩
    ·obtain rfl:e=m:=by omega
     rw[Z8g]at hkid;have hnil:=hkid.nil_inv (hc.1 _);rintro d w2⟨rfl,rfl⟩;have M2:=Mod.alloc (S:=NoB) w1 (J7 #[.int JS 128] 5);have r2:=ZD6 w1;have B2:=B1.mod' M2 5;have s2:Stp NoS w1 L1 _ (ext L1 w1.heap.size 5):=Stp.of_nob M2 5;have O2:=O1.stp s2 (fun h=>h);generalize w1.alloc (J7 #[.int JS 128] 5)=w2 at *
     generalize ext L1 w1.heap.size 5=L2 at *
     obtain⟨o5,k5,w5,hr5,O5,s5⟩:=Z6C (ty:=Zy) (k2:=1) O2 r2 (by simp;omega);have B5:=B2.stp s5 (by omega) (by omega) (by omega) (by omega) (by omega)
     have e128:enc (Z4b .nil)=[128]:=by
      unfold Z4b Z2e;rw[if_neg (by simp[Z1j,enc,own,Trie.Z2X])];exact Z99
     rw[hnil,e128]at epay;rw[hnil]at eout;simp only[Z16]at eout;refine⟨_,w5,hr5,_,_,_,rfl,⟨x+1,e,rfl,by omega,rfl,hma,hmb,hlt',hge',by rw[epay,J0],_,(s1.trans (s2.mono (fun _ h=>h.elim))).trans (s5.mono (fun k h=>J3 (J3 (by omega)))),by rw[eout];exact B5,?_⟩,by dsimp only;omega⟩;rw[epay];exact O5
    ·have hme:m<e:=by omega
     have hok_k:Z7M es m e (i+1):=by
      refine⟨hme,by omega,fun j hj q1 q2=>?_⟩;obtain⟨r,hr⟩:=hrun _ (ZAd (i:=i) (by omega:e<=es.length) q1 q2);have:=congrArg JK hr;simp only[J8,I]at this;omega
     have ewi:J Y ((i:Int)+1)=((i+1:Nat):Int):=by rw[Z0 (by omega) (by omega)];omega
     rw[ewi];have hsum:=ZEG (f:=fun i=>cnt (cs i)) hx';have hlen:=Z4p (cs:=cs) (fun i out=>Z2S (cs i) X out) ((J1 16).take x) out;have hcnt:cnt (.branch cs v)=1+((J1 16).map fun i=>cnt (cs i)).sum:=rfl;refine(hRef ⟨x,hx'⟩ B1 hE hok_k hkid (by show(outs x).length+_<=_;simp only[outs];omega)).mono ?_;rintro _ w4⟨o4,k4,rfl,L4,s4,B4,x4⟩;have O4:=O1.stp s4 (by rintro(h|h|h)<;>omega);have q2:=ZBe (cs ⟨x,hx'⟩);obtain⟨o5,k5,w5,hr5,O5,s5⟩:=Z6C (ty:=Zy) (k2:=k4) O4 x4.rd (by omega);have B5:=B4.stp s5 (by omega) (by omega) (by omega) (by omega) (by omega);refine⟨_,_,_,rfl,_,w5,hr5,_,_,_,rfl,⟨x+1,e,rfl,by omega,rfl,by omega,he2,hlt',hge',by rw[epay,J0],_,(s1.trans (s4.mono (fun k h=>by rcases h with h|h|h;exact JF h;exact J3 (JF h);exact J3 (J3 (by omega))))).trans (s5.mono (fun k h=>J3 (J3 (by omega)))),by rw[eout];exact B5,?_⟩,by dsimp only;omega⟩;rw[epay];exact O5
  ·obtain rfl:x=16:=by omega
   have hval1:=hval.stp s1 ZDt.2.1
   have hvl:v.length<=1024:=by
    by_cases hv0:v=[]
    ·rw[hv0];simp
    ·have:=(hR.2 [] v).1 (by rw[ZO,if_neg hv0])
     obtain⟨j,hj,_,_,he⟩:=ZAo hbl this;have:=hE.vals _ (J4 hj);rw[<-(JQ he).2]at this;exact this
   refine(Z40 (k:=c133) hval1.rd (by omega)).mono ?_;rintro _ w2⟨o2,k2,rfl,F2⟩;have B2:=B1.mod' F2.mod 5;have s2:Stp NoS w1 L1 w2 (ext L1 w1.heap.size 5):=Stp.of_nob F2.mod 5;have O2:=O1.stp s2 (fun h=>h);generalize ext L1 w1.heap.size 5=L2 at *
   have q1:=Z21 v;have hp16:=hpay 16;obtain⟨o5,k5,w5,hr5,O5,s5⟩:=Z6C (ty:=Zy) (k2:=k2) O2 (Zj F2) (by omega);have B5:=B2.stp s5 (by omega) (by omega) (by omega) (by omega) (by omega);generalize ext L2 w2.heap.size (8+i)=L5 at *
   refine⟨_,_,_,rfl,_,w5,hr5,_,_,_,rfl,?_⟩;have hL:=Z3O (k:=k5) O5.own.bytes (by rw[J0];omega);rw[J0]at hL;refine hL.mono ?_;rintro _ w6⟨o6,k6,rfl,F6⟩
   have e6:Trie.Z2X ((pay 16).length+(enc (.s v)).length) 192++(pay 16++enc (.s v))=bytesOf (.branch cs v):=by
    simp only[bytesOf,Z1j,pay];rw[JE (by simp),enc_l,encs_append];simp only[Z1O,Jc,J0]
   rw[e6]at F6 ⊢;have eo:outs 16=kidsN (.branch cs v) out:=by simp only[outs,kidsN];rw[JE (by simp)]
   rw[eo]at B5;refine⟨_,_,_,rfl,hR' _ _ ⟨o6,k6,rfl,_,?_,B5.mod' F6.mod 5,Z2W F6 (Mod.refl _),F6.own.cap.1⟩⟩;have s6:Stp NoS w5 L5 w6 (ext L5 w5.heap.size 5):=Stp.of_nob F6.mod 5;exact((((sM.mono (fun _ h=>h.elim)).trans s1).trans (s2.mono (fun _ h=>h.elim))).trans (s5.mono (fun k h=>J3 (J3 (by omega))))).trans (s6.mono (fun _ h=>h.elim))
theorem ZAY:∀(n:Nd),Z1N n->Z5I n->n≠.nil->ZCR n/\ZFY n
 | .nil,_,_,h=>(h rfl).elim
 | .leaf p v,hc,hs,hn=>⟨Z7o p v,ZDI (Z7o p v) hn hs⟩
 | .row p c,hc,hs,hn=>by
   have hcn:c≠.nil:=by rintro rfl;exact hc.2.2.1
   have hI:=ZCu (ZAY c hc.2.2.2 hs.2 hcn).2 hc;exact⟨hI,ZDI hI hn hs⟩
 | .branch cs v,hc,hs,hn=>by
   have hk:∀i,ZFY (cs i):=fun i=>by
    by_cases hcn:cs i=.nil
    ·rw[hcn]
     intro w L d0 a b j es out hB hE hok hR hl
     have:=congrArg JK (show seg es a b j=[]from by
      cases hs:seg es a b j with
      |nil=>rfl
      |cons y r=>exact absurd rfl (hR.ne (by rw[hs];simp)))
     rw[Z5c hok.le]at this;have:=hok.lt;simp at *;omega
    ·exact(ZAY (cs i) (hc.1 i) (hs.2 i) hcn).2
   have hI:=Z9Y hk hc;exact⟨hI,ZDI hI hn hs⟩
theorem Z1D:Tryz.prog.underlying 31=Z (.slice Zy):=by kernel_rfl
theorem Z26:(Tryz.prog.info? Zy).map (fun i=>(i.zero,i.size,i.bytes))=Z (Z (.slice K 0 0),1,24):=by kernel_rfl
section
variable{C C':Type}{S:C->Prop}{w w':J5}{lab:Nat->C}{lab':Nat->C'}{lab2:Nat->C}{c:C}{c':C'}
def Z4g(w:J5)(lab:Nat->C)(c:C)(o:Option Addr)(m:List (By×By)):Prop :=
 ∀(j:Nat)(hj:j<m.length),∃b f ok kk ov kv,o=Z ⟨b,f,K⟩/\b<w.heap.size/\lab b=c/\w.cell? ⟨b,f+j*2,K⟩=Z (.slice ok m[j].1.length kk)/\CBy w lab c ok m[j].1/\w.cell? ⟨b,f+(j*2+1),K⟩=Z (.slice ov m[j].2.length kv)/\CBy w lab c ov m[j].2
theorem Z4g.stp{o:Option Addr}{m:List (By×By)}(h:Z4g w lab c o m)(s:Stp S w lab w' lab2)(hs:¬S c):Z4g w' lab2 c o m:=fun j hj=>by
 obtain⟨b,f,ok,kk,ov,kv,e1,e2,e3,e4,e5,e6,e7⟩:=h j hj;exact⟨b,f,ok,kk,ov,kv,e1,JU e2 s.size,(s.lab b e2).trans e3,(World.cell?_of_block (s.block b e2 (by rw[e3];exact hs))).trans e4,e5.stp s hs,(World.cell?_of_block (s.block b e2 (by rw[e3];exact hs))).trans e6,e7.stp s hs⟩
theorem Z4g.re{o:Option Addr}{m:List (By×By)}(h:Z4g w lab c o m)(hl:∀k,k<w.heap.size->lab k=c->lab' k=c'):Z4g w lab' c' o m:=fun j hj=>by
 obtain⟨b,f,ok,kk,ov,kv,e1,e2,e3,e4,e5,e6,e7⟩:=h j hj;exact⟨b,f,ok,kk,ov,kv,e1,e2,hl b e2 e3,e4,CBy.re e5 hl,e6,CBy.re e7 hl⟩
noncomputable def labB(lab:Nat->C)(c:C)(N d:Nat):Nat->Nat:=fun k=>if k<N then(@ite Nat (lab k=c) (Classical.propDecidable _) 6 0)else if k=d then 1 else if k=N then 2 else 5
theorem ZE1{N d k:Nat}(h:k<N):labB lab c N d k=6\/labB lab c N d k=0:=by
 unfold labB;rw[if_pos h];split
 ·exact JF rfl
 ·exact J3 rfl
theorem ZF5{N d k:Nat}(h:k<N)(hc:lab k=c):labB lab c N d k=6:=by
 unfold labB;rw[if_pos h,if_pos hc]
def Z0A(m:List (By×By)):List (By×By):=m.map fun e=>(nibbles e.1,e.2)
theorem ZFF(es:List (By×By)):seg es 0 es.length 0=es:=by
 unfold seg;rw[List.drop_zero,Nat.sub_zero,JY];have:(fun e:By×By=>(e.1.drop 0,e.2))=id:=by funext e;simp
 rw[this,List.map_id]
structure KvOk (m:List (By×By)):Prop where
 len:m.length<=2^20
 keys:∀e∈m,e.1.length<=64
 vals:∀e∈m,e.2.length<=1024
theorem ZC9{o:Option Addr}{k:Nat}{m:List (By×By)}{n:Nd}(h:Z4g w lab c o m)(hm:KvOk m)(hr:Rep (Z0A m) n)(hc:Z1N n)(hs:Z5I n)(hcn:cnt n<=2^19)(cr:C) :
  JB O Z0M.n #[.slice o m.length k,G X] w (fun e w'=>∃o' k',e=V (U #[JL (hashA (rootOf n)),.slice o' (Z12 n).length k'])/\Vcg.Mod NoB w w'/\Z18 w' (ext lab w.heap.size cr) cr (Z12 n) o' (Z12 n).length):=by
 refine Z9 fun R hR=>Z0M.vc _ _ _ _ _ _ ?_;unfold Z0M.Vc;have hml:=hm.len;rintro d2 w1⟨rfl,rfl⟩;have M1:=Mod.alloc (S:=NoB) w (J7 (W 32 (.int JS 0)) 27);have H1:=Blk.new w 27 (W 32 (.int JS 0));have z1:=Z6 w (J7 (W 32 (.int JS 0)) 27);generalize w.alloc (J7 (W 32 (.int JS 0)) 27)=w1 at *
 generalize hN:w.heap.size=N at *
 refine⟨fun h0=>?_,fun h0=>?_⟩
 ·obtain rfl:m=[]:=JC (by omega)
  have hnil:=hr.nil_inv hc;subst hnil;refine(Z3r w1).mono ?_;rintro _ w2⟨rfl,M2⟩;obtain⟨h1,h2,h3⟩:=Z0k (H1.mod' M2) (by simp) emptyH;refine⟨_,rfl,_,h1,_,h2.rowAll (Z4 _),hR _ _ ⟨K,0,?_,ZC (M1.trans M2 (fun _ _ h=>h)) h3 (by omega),Z18.nil _ _ _ _⟩⟩;rw[Trie.rootOf,Z99];rfl
 rintro d9 w2⟨rfl,rfl⟩;rw[z1];have M2:=Mod.alloc (S:=NoB) w1 (J7 #[.slice o m.length k,.slice K 0 0,.slice K 0 0,G X] 118);have D2:=Blk.new w1 118 #[.slice o m.length k,.slice K 0 0,.slice K 0 0,G X];have z2:=Z6 w1 (J7 #[.slice o m.length k,.slice K 0 0,.slice K 0 0,G X] 118);rw[z1]at D2 z2;have H2:=H1.mod' M2;have M02:=M1.trans M2 (fun _ _ h=>h);generalize w1.alloc (J7 #[.slice o m.length k,.slice K 0 0,.slice K 0 0,G X] 118)=w2 at *
 have lD:labB lab c N (N+1) (N+1)=1:=by unfold labB;rw[if_neg (by omega),if_pos rfl]
 have lH:labB lab c N (N+1) N=2:=by unfold labB;rw[if_neg (by omega),if_neg (by omega),if_pos rfl]
 have hkv:Z4g w2 (labB lab c N (N+1)) 6 o m:=(Z4g.re h (fun k hk hc=>ZF5 (by omega) hc)).stp (Stp.same M02 (labB lab c N (N+1))) (fun h=>h);have D2c:CB w2 (labB lab c N (N+1)) 1 (N+1) ZDb #[.slice o m.length k,.slice K 0 0,.slice K 0 0,G X]:=⟨D2,lD⟩;have H2c:CB w2 (labB lab c N (N+1)) 2 N tHash (W 32 (.int JS 0)):=⟨H2,lH⟩;have hold:∀k,k<N->labB lab c N (N+1) k=6\/labB lab c N (N+1) k=0:=fun k hk=>ZE1 hk;generalize labB lab c N (N+1)=L2 at *
 let P:Nat->By:=fun j=>nibbles ((m[j]?.getD ([],[])).1)
 refine⟨fun i w'=>∃(j:Nat)(L:Nat->Nat)(op:Option Addr)(cp:Nat)(vs:List Ja),i=(j:Int)/\j<=m.length/\Stp (fun k=>k=1\/k=7) w2 L2 w' L /\
   CB w' L 1 (N+1) ZDb #[.slice o m.length k,.slice op j cp,.slice K 0 0,G X]/\COw w' L 7 Zy 1 op j cp vs/\∀i,i<j->∃o k,vs[i]?=Z (.slice o (P i).length k)/\(P i).length<=k/\CBy w' L 5 o (P i),
  fun i _=>((m.length:Int)-i).toNat,⟨0,L2,K,0,[],rfl,JH _,Stp.refl _ _ _,D2c,COw.nil _ _ _ _ _,fun i hi=>absurd hi (by omega)⟩,?_⟩
 rintro _ _ w3⟨j,L3,op,cp,vs,rfl,hj,s3,D3,O3,hvs⟩;have hkv3:=hkv.stp s3 (by decide);refine⟨fun hlt=>?_,fun hge=>?_⟩
 ·have hjl:j<m.length:=by omega
  rintro _ rfl;have sD:Stp NoS w3 L3 w3.drew L3:=Stp.drew _ _ _;have hkv4:=hkv3.stp sD (fun h=>h);have D4:=D3.stp sD (fun h=>h);have O4:=O3.stp sD (fun h=>h);have hvs4:∀i,i<j->∃o k,vs[i]?=Z (.slice o (P i).length k)/\(P i).length<=k/\CBy w3.drew L3 5 o (P i):=fun i hi=>by obtain⟨o,k,a,b,c⟩:=hvs i hi;exact⟨o,k,a,b,c.stp sD (fun h=>h)⟩
  have s4:=s3.trans (sD.mono (T:=fun k=>k=1\/k=7) (fun _ h=>h.elim));generalize w3.drew=w4 at *
  obtain⟨b,f,ok,kk,ov,kv,rfl,e2,e3,e4,e5,e6,e7⟩:=hkv4 j hjl;have hkl:=hm.keys _ (J4 hjl);simp only[Z2,JD,J6];refine⟨_,_,_,D4.blk.rd1 rfl,_,rfl,⟨by omega,by omega⟩,_,_,_,by rw[Z2];exact e4,?_⟩;refine(Z23 e5.rd (by omega)).mono ?_;rintro _ w5⟨o5,k5,rfl,F5⟩;refine⟨_,_,_,rfl,(D4.blk.mod' F5.mod).rd1 rfl,?_⟩;rintro d w6⟨rfl,rfl⟩;have M6:=Mod.alloc (S:=NoB) w5 (J7 #[.slice o5 (nibbles m[j].1).length k5] 23);have N6:=Blk.new w5 23 #[.slice o5 (nibbles m[j].1).length k5];have M46:=F5.mod.trans M6 (fun _ _ h=>h);have s6:Stp NoS w4 L3 (w5.alloc (J7 #[.slice o5 (nibbles m[j].1).length k5] 23)) (ext L3 w4.heap.size 5):=Stp.of_nob M46 5;have b6:CBy (w5.alloc (J7 #[.slice o5 (nibbles m[j].1).length k5] 23)) (ext L3 w4.heap.size 5) 5 o5 (nibbles m[j].1):=Z2W F5 M6;generalize w5.alloc (J7 #[.slice o5 (nibbles m[j].1).length k5] 23)=w6 at *
  have D6:=D4.stp s6 (fun h=>h);have O6:=O4.stp s6 (fun h=>h);have hvs6:∀i,i<j->∃o k,vs[i]?=Z (.slice o (P i).length k)/\(P i).length<=k/\CBy w6 (ext L3 w4.heap.size 5) 5 o (P i):=fun i hi=>by obtain⟨o,k,a,b,c⟩:=hvs4 i hi;exact⟨o,k,a,b,c.stp s6 (fun h=>h)⟩
  generalize ext L3 w4.heap.size 5=L6 at *
  obtain⟨i,hi,hz,hsz,hb⟩:=Z1f Z26;obtain⟨o7,k7,w7,hr7,O7,s7⟩:=COw.append (ty:=31) Z1D hi hz hsz rfl O6 (Z3T Z1D N6 rfl (by simp[Value.oneCell'])) (by simp only[maxLen];omega) (by rw[hb];omega);have D7:=D6.stp s7 (by decide);have b7:=b6.stp s7 (by decide);have hvs7:∀i,i<j->∃o k,vs[i]?=Z (.slice o (P i).length k)/\(P i).length<=k/\CBy w7 (ext L6 w6.heap.size 7) 5 o (P i):=fun i hi=>by obtain⟨o,k,a,b,c⟩:=hvs6 i hi;exact⟨o,k,a,b,c.stp s7 (by decide)⟩
  generalize ext L6 w6.heap.size 7=L7 at *
  refine⟨D6.blk.rd1 rfl,_,w7,hr7,_,_,_,rfl,D7.blk.canSet (by simp) rfl,?_⟩;rintro _ rfl;have s8:Stp (fun k=>k=1) w7 L7 (w7.setCell ⟨N+1,1,K⟩ (.slice o7 (j+1) k7)) L7:=Stp.setCell D7.clr;have hPj:P j=nibbles m[j].1:=by simp only[P];rw[JA hjl];rfl
  have hvl:vs.length=j:=O6.own.len;refine⟨⟨j+1,L7,o7,k7,vs++[.slice o5 (nibbles m[j].1).length k5],by rw[Z0 (by omega) (by omega)];omega,hjl,((s4.trans (s6.mono (fun _ h=>h.elim))).trans (s7.mono (fun _ h=>J3 h))).trans (s8.mono (fun _ h=>JF h)),D7.set 1 _,O7.stp s8 (by decide),fun i hi=>?_⟩,by rw[Z0 (by omega) (by omega)];omega⟩;by_cases hij:i<j
  ·obtain⟨o,k,a,b,c⟩:=hvs7 i hij
   exact⟨o,k,by rw[List.getElem?_append_left (by omega)];exact a,b,c.stp s8 (by decide)⟩
  ·obtain rfl:i=j:=by omega
   refine⟨o5,k5,by rw[List.getElem?_append_right (by omega),hvl,Nat.sub_self,hPj];rfl,by rw[hPj];exact F5.own.cap.1,by rw[hPj];exact b7.stp s8 (by decide)⟩
 ·obtain rfl:j=m.length:=by omega
  have hpl:(Z0A m).length=m.length:=by simp[Z0A]
  have hget:∀(i:Nat)(hi:i<(Z0A m).length),(Z0A m)[i]=(nibbles (m[i]'(by omega)).1,(m[i]'(by omega)).2):=fun i hi=>by simp[Z0A]
  have hBS:BS w3 L3 (N+1) (Z0A m) []:=by
   refine⟨⟨o,k,op,cp,K,0,0,by rw[hpl];exact D3,fun i hi=>?_,fun i hi=>?_,Z7N.nil _ _ _ _⟩⟩
   ·obtain⟨b,f,ok,kk,ov,kv,e1,e2,e3,e4,e5,e6,e7⟩:=hkv3 i (by omega)
    rw[hget i hi];exact⟨b,f,ov,kv,e1,e2,e3,e6,e7⟩
   ·obtain⟨o',k',a,b,d⟩:=hvs i (by omega)
    obtain⟨g,f,ho,hg,hl,hcell⟩:=O3.row i _ a;rw[hget i hi];have hPi:P i=nibbles (m[i]'(by omega)).1:=by simp only[P];rw[JA (by omega)];rfl
    rw[<-hPi];exact⟨g,f,o',k',ho,hg,hl,hcell,b,d⟩
  have hEs:EsOk (Z0A m):=by
   refine⟨by omega,fun e he=>?_,fun e he=>?_⟩
   ·obtain⟨x,hx,rfl⟩:=List.mem_map.1 he
    have:=hm.keys x hx;show(nibbles x.1).length<=128;rw[ZG];omega
   ·obtain⟨x,hx,rfl⟩:=List.mem_map.1 he
    exact hm.vals x hx
  have hne:n≠.nil:=hr.ne (by intro e;have:=congrArg JK e;simp at this;rw[this]at hpl;simp at hpl;omega);have hok:Z7M (Z0A m) 0 m.length 0:=⟨by omega,by omega,fun _ _ _ _=>JH _⟩
  have hrep:Rep (seg (Z0A m) 0 m.length 0) n:=by
   have:=ZFF (Z0A m);rw[hpl]at this;rw[this];exact hr
  have hbl:=Z8F hs;have hkl:=kids_len (n:=n) [];simp only[List.length_nil,JD]at hkl;refine((ZAY n hc hs hne).1 hBS hEs hok hrep (by simp;omega)).mono ?_;rintro _ w4⟨o4,k4,rfl,L4,s4,B4,x4,hk4⟩;refine⟨_,_,_,rfl,?_⟩;refine(Z2l (bytesOf n) rfl (by omega) x4.rd).mono ?_;rintro _ w5⟨rfl,M5⟩;refine⟨_,rfl,?_⟩;rintro d w6⟨rfl,rfl⟩;have N6:=Blk.new w5 27 (W 32 (.int JS 0));obtain⟨h1,h2,h3⟩:=Z0k N6 (by simp) (sumOf (bytesOf n));have M6:=ZC (M5.step_alloc (J7 (W 32 (.int JS 0)) 27)) h3 M5.size;refine⟨_,h1,_,h2.rowAll (Z4 _),?_⟩;have hge:=M5.size;generalize w5.heap.size=D at *
  generalize((w5.alloc (J7 (W 32 (.int JS 0)) 27)).setRow D (hashA (sumOf (bytesOf n))))=w6 at *
  have B6:=B4.mod' M6 5;have s6:Stp NoS w4 L4 w6 (ext L4 w4.heap.size 5):=Stp.of_nob M6 5;have x6:=x4.stp s6 (fun h=>h);have D6:CB w6 (ext L4 w4.heap.size 5) 5 D tHash (hashA (sumOf (bytesOf n))):=⟨h2,Z0D hge⟩;generalize ext L4 w4.heap.size 5=L6 at *
  refine(Z7v (k:=k4) B6 x6 (ZN _) hk4 (by omega)).mono ?_;rintro _ w7⟨rfl,L7,s7,_,B7⟩;have D7:=D6.stp s7 (by decide)
  have enodes:(if met (kidsN n []) (sumOf (bytesOf n))then kidsN n []else kidsN n []++[(sumOf (bytesOf n),bytesOf n)])=Z12 n:=by
   unfold Z12;rw[Z8A hne];unfold Z1g;simp
  rw[enodes]at B7;refine⟨rfl,?_⟩;rintro _ rfl;have sD:Stp NoS w7 L7 w7.drew L7:=Stp.drew _ _ _;have D8:=D7.stp sD (fun h=>h);have B8:=B7.stp sD (fun h=>h) (fun h=>h) (fun h=>h) (fun h=>h) (fun h=>h);generalize w7.drew=w8 at *
  have sAll:Stp (fun k=>k=1\/k=4\/k=7\/8<=k) w2 L2 w8 L7:=by
   refine((((s3.mono ?_).trans (s4.mono ?_)).trans (s6.mono ?_)).trans (s7.mono ?_)).trans (sD.mono ?_)
   ·rintro k(h|h)
    ·exact JF h
    ·exact J3 (J3 (JF h))
   ·rintro k(h|h|h)
    ·exact JF h
    ·exact J3 (JF h)
    ·exact J3 (J3 (J3 (by omega)))
   ·exact fun _ h=>h.elim
   ·rintro k(h|h)
    ·exact JF h
    ·exact J3 (JF h)
   ·exact fun _ h=>h.elim
  obtain⟨ol,cl,op',cp',on,nn,kn,c1,c2,c3,c4⟩:=B8.ex;have H8:=H2c.stp sAll (by decide);obtain⟨g1,g2,g3⟩:=Z0k H8.blk (by simp) (sumOf (bytesOf n));have hNne:N+1≠N:=by omega
  have c9:Blk (w8.setRow N (hashA (sumOf (bytesOf n)))) (N+1) _ _:=c1.blk.row_ne hNne;simp only[Z2,JD];refine⟨_,D8.blk.rowAll (Z4 _),_,_,_,c1.blk.rd1 rfl,_,g1,c9.rd1 rfl,_,g2.rowAll (Z4 _),?_⟩;have hlt8:∀k,k<N->k<w2.heap.size:=fun k hk=>by omega
  have M28:Vcg.Mod NoB w w8:=M02.trans (sAll.mod (Q:=fun k=>N<=k) (fun k hk hs=>Nat.not_lt.1 fun hlt=>by
   rcases hold k hlt with h|h<;>rw[h]at hs<;>rcases hs with hs|hs|hs|hs<;>omega)) (fun i hi hq=>by omega)
  have s9:Stp (fun k=>k=2) w8 L7 (w8.setRow N (hashA (sumOf (bytesOf n)))) L7:=⟨g3.os,g3.tape,g3.output,g3.size,fun _ _=>rfl,fun k hk hn=>g3.block k hk (fun e=>hn (by subst e;exact H8.clr))⟩;obtain⟨rfl,vs',O8,C8⟩:=c4;have M9:=ZC M28 g3 (by omega);have O9:=O8.stp s9 (by decide);have C9:=C8.stp s9 (by decide);have hz9:(w8.setRow N (hashA (sumOf (bytesOf n)))).heap.size=w8.heap.size:=ZAq _ _ _
  have hre:∀q,q=4\/q=5->∀k,k<(w8.setRow N (hashA (sumOf (bytesOf n)))).heap.size->L7 k=q->ext lab N cr k=cr:=fun q hq k hk he=>by
   by_cases hlt:k<N
   ·rw[sAll.lab k (by omega)]at he
    rcases hold k hlt with h|h<;>rw[h]at he<;>omega
   ·exact Z0D (by omega)
  exact hR _ _ ⟨on,kn,rfl,M9,rfl,vs',COw.row (COw.re O9 (hre 4 (JF rfl))),Z08.re C9 (hre 5 (J3 rfl))⟩
theorem Z18.re{o:Option Addr}{l:List (By×By)}{n:Nat}(h:Z18 w lab c l o n)(hl:∀k,k<w.heap.size->lab k=c->lab' k=c'):Z18 w lab' c' l o n:=by
 obtain⟨h1,vs,h2,h3⟩:=h;refine⟨h1,vs,fun j v hv=>?_,Z08.re h3 hl⟩;obtain⟨b,f,ho,hb,hc,hcell⟩:=h2 j v hv;exact⟨b,f,ho,hb,hl b hb hc,hcell⟩
theorem ZB4{o:Option Addr}{k:Nat}{m:List (By×By)}{n:Nd}(h:Z4g w lab c o m)(hm:KvOk m)(hr:Rep (Z0A m) n)(hc:Z1N n)(hs:Z5I n)(hcn:cnt n<=2^19)(cr:C) :
  JB O Z0l.n #[.slice o m.length k] w (fun e w'=>∃o' k',e=V (U #[JL (hashA (rootOf n)),.slice o' (Z12 n).length k'])/\Vcg.Mod NoB w w'/\Z18 w' (ext lab w.heap.size cr) cr (Z12 n) o' (Z12 n).length):=by
 refine Z0l.vc _ _ _ _ _ ?_;unfold Z0l.Vc;rintro d1 w1⟨rfl,rfl⟩;have M1:=Mod.alloc (S:=NoB) w (J7 (W 32 (.int JS 0)) 27);have H1:=Blk.new w 27 (W 32 (.int JS 0));have z1:=Z6 w (J7 (W 32 (.int JS 0)) 27);have h0:Z4g w (fun k=>if k<w.heap.size then Z (lab k)else K) (Z c) o m:=Z4g.re h (fun k hk hc=>by rw[if_pos hk,hc]);have h1:=h0.stp (S:=fun _=>False) (Stp.same M1 _) (fun h=>h);generalize w.alloc (J7 (W 32 (.int JS 0)) 27)=w1 at *
 refine(ZC9 h1 hm hr hc hs hcn (Z cr)).mono ?_;rintro _ w2⟨o2,k2,rfl,M2,N2⟩;have H2:=H1.mod' M2;obtain⟨g1,g2,g3⟩:=Z0k H2 (by simp) (rootOf n)
 have hlab:ext (fun k=>if k<w.heap.size then Z (lab k)else K) w1.heap.size (Z cr) w.heap.size=K:=by
  rw[Z1d (by omega),if_neg (by omega)]
 have s3:Stp (fun z=>z=K) w2 (ext (fun k=>if k<w.heap.size then Z (lab k)else K) w1.heap.size (Z cr)) (w2.setRow w.heap.size (hashA (rootOf n))) (ext (fun k=>if k<w.heap.size then Z (lab k)else K) w1.heap.size (Z cr)) :=
  ⟨g3.os,g3.tape,g3.output,g3.size,fun _ _=>rfl,fun k hk hn=>g3.block k hk (fun e=>hn (by subst e;exact hlab))⟩
 refine⟨_,_,_,_,rfl,_,g1,_,g2.rowAll (Z4 _),o2,k2,rfl,ZC (M1.trans M2 (fun _ _ h=>h)) g3 (JG _),Z18.re (N2.stp s3 (by simp)) (fun k hk he=>?_)⟩;by_cases hlt:k<w.heap.size
 ·rw[Z1d (by omega)]at he
  rw[if_pos hlt]at he;rw[Z1d hlt];exact Option.some.inj he
 ·exact Z0D (by omega)
end
end Go.Proofs.YtfghidehlnfdiaaGreat
end
section
namespace Go.Trie
def ZAi:List (By×By)->By->By->List (By×By)
 |[],k,v=>if v=[]then[]else[(k,v)]
 |x::r,k,v=>if Z9D x.1 k<0 then x::ZAi r k v else(if v=[]then[]else[(k,v)])++(if x.1=k then r else x::r)
end Go.Trie
end
section
namespace Go.Proofs.YtfghidehlnfdiaaGreat
open Go Go.Vcg Go.Trie
abbrev tKv:TypeId:=53
abbrev tSlKv:TypeId:=22
theorem ZBr:Tryz.prog.underlying tSlKv=Z (.slice tKv):=by kernel_rfl
section
variable{C C':Type}{S:C->Prop}{w0 w w':J5}{lab:Nat->C}{lab':Nat->C'}{lab2:Nat->C}{c:C}{c':C'}{xs:List Ja}{o:Option Addr}
theorem Z42.take(h:Z42 w lab c o xs)(n:Nat):Z42 w lab c o (xs.take n):=fun j v hv=>by
 rw[List.getElem?_take]at hv;split at hv
 ·exact h j v hv
 ·cases hv
theorem Z42.drop(h:Z42 w lab c o xs){cap n sz:Nat}(hl:xs.length<=cap*sz):Z42 w lab c (subO o cap n sz) (xs.drop (n*sz)):=fun j v hv=>by
 rw[List.getElem?_drop]at hv;obtain⟨b,f,ho,hb,hl',hc⟩:=h _ v hv
 have hlt:n*sz+j<xs.length:=by
  rcases Nat.lt_or_ge (n*sz+j) xs.length with h|h
  ·exact h
  ·rw[List.getElem?_eq_none h]at hv;cases hv
 have hne:¬cap=n:=by rintro rfl;omega
 refine⟨b,f+n*sz,?_,hb,hl',by rw[JJ];exact hc⟩;unfold subO;rw[if_neg hne,ho];simp
theorem Z42.re(h:Z42 w lab c o xs)(hl:∀k,k<w.heap.size->lab k=c->lab' k=c'):Z42 w lab' c' o xs:=fun j v hv=>by
 obtain⟨b,f,ho,hb,hc,hcell⟩:=h j v hv;exact⟨b,f,ho,hb,hl b hb hc,hcell⟩
noncomputable def ZCw(lab:Nat->C)(c:C)(N:Nat):Nat->Nat:=fun k=>if k<N then(@ite Nat (lab k=c) (Classical.propDecidable _) 0 1)else 0
theorem ZF6{N k:Nat}(hc:lab k=c):ZCw lab c N k=0:=by
 unfold ZCw;rw[if_pos hc];split<;>rfl
theorem ZE2{N k:Nat}(h:k<N):ZCw lab c N k≠2/\(ZCw lab c N k=0->lab k=c):=by
 unfold ZCw;rw[if_pos h];constructor
 ·split<;>decide
 ·split
  ·rename_i h;exact fun _=>h
  ·intro h;cases h
end
end Go.Proofs.YtfghidehlnfdiaaGreat
end
section
namespace Go.Trie
theorem Z6A(a:UInt8):(a>>>4)<<<4|||(a&&&15)=a:=by
 have:∀n:Fin 256,((E n>>>4)<<<4|||(E n&&&15))=E n:=by decide +kernel
 exact this a.toFin
theorem Zz(a:UInt8)(k:By):nibbles (a::k)=(a>>>4)::(a&&&15)::nibbles k:=rfl
theorem Z6q:∀{a b:By},nibbles a=nibbles b->a=b
 |[],[],_=>rfl
 |[],b::q,h=>by simp[Zz]at h;simp[nibbles]at h
 |a::p,[],h=>by simp[Zz]at h;simp[nibbles]at h
 |a::p,b::q,h=>by
  rw[Zz,Zz]at h;simp only[List.cons.injEq]at h;rw[Z6q h.2.2,<-Z6A a,<-Z6A b,h.1,h.2.1]
theorem nib_lt{a b:UInt8}(h:a<b):a>>>4<b>>>4\/(a>>>4=b>>>4/\a&&&15<b&&&15):=by
 have e1:∀x:UInt8,(x>>>4).toNat=x.toNat/16:=fun x=>by
  have:∀n:Fin 256,(E n>>>4).toNat=(E n).toNat/16:=by decide +kernel
  exact this x.toFin
 have e2:∀x:UInt8,(x&&&15).toNat=x.toNat%16:=fun x=>by
  have:∀n:Fin 256,(E n&&&15).toNat=(E n).toNat%16:=by decide +kernel
  exact this x.toFin
 have h':a.toNat<b.toNat:=UInt8.lt_iff_toNat_lt.1 h;by_cases hq:a.toNat/16=b.toNat/16
 ·right
  refine⟨UInt8.toNat_inj.1 (by rw[e1,e1,hq]),?_⟩;rw[JI,e2,e2];omega
 ·left
  rw[JI,e1,e1];omega
theorem Z7s:∀{a b:By},ltB a b->ltB (nibbles a) (nibbles b)
 |p,[],h=>(Z4Y _ h).elim
 |[],b::q,h=>by rw[Zz];trivial
 |a::p,b::q,h=>by
  rw[Zz,Zz];rcases h with h|⟨rfl,h⟩
  ·rcases nib_lt h with h1|⟨h1,h2⟩
   ·exact JF h1
   ·exact J3 ⟨h1,JF h2⟩
  ·exact J3 ⟨rfl,J3 ⟨rfl,Z7s h⟩⟩
abbrev Z0x(m:List (By×By)):Prop:=m.Pairwise (fun x y=>ltB x.1 y.1)
theorem Z6o:∀(a b:By),ltB a b\/a=b\/ltB b a
 |[],[]=>J3 (JF rfl)
 |[],_::_=>JF trivial
 |_::_,[]=>J3 (J3 trivial)
 |a::p,b::q=>by
  by_cases h:a<b
  ·exact JF (JF h)
  ·by_cases h':b<a
   ·exact J3 (J3 (JF h'))
   ·have e:a=b:=UInt8.toNat_inj.1 (by rw[JI]at h h';omega)
    subst e;rcases Z6o p q with h1|h1|h1
    ·exact JF (J3 ⟨rfl,h1⟩)
    ·exact J3 (JF (by rw[h1]))
    ·exact J3 (J3 (J3 ⟨rfl,h1⟩))
theorem Z4v:∀{m:List (By×By)} {k v:By},Z0x m->∀x,x∈ZAi m k v↔(x.1=k/\x.2=v/\v≠[])\/(x.1≠k/\x∈m)
 |[],k,v,_,x=>by
  simp only[ZAi];split
  ·rename_i h;simp[h]
  ·rename_i h
   simp only[JM,List.not_mem_nil,and_false,or_false];constructor
   ·rintro rfl;exact⟨rfl,rfl,h⟩
   ·rintro⟨h1,h2,_⟩;exact Prod.ext h1 h2
 |y::r,k,v,hs,x=>by
  rw[Z0x,JN]at hs;simp only[ZAi];by_cases hy:Z9D y.1 k<0
  ·rw[if_pos hy,JR,Z4v hs.2,JR]
   have hne:y.1≠k:=fun e=>by
    rw[Z3h,e]at hy;exact Z5U _ hy
   constructor
   ·rintro(rfl|h|h)
    ·exact J3 ⟨hne,JF rfl⟩
    ·exact JF h
    ·exact J3 ⟨h.1,J3 h.2⟩
   ·rintro(h|⟨h1,rfl|h2⟩)
    ·exact J3 (JF h)
    ·exact JF rfl
    ·exact J3 (J3 ⟨h1,h2⟩)
  ·rw[if_neg hy,List.mem_append]
   have hrest:∀z∈r,z.1≠k:=fun z hz e=>by
    have h1:=hs.1 z hz;rw[e]at h1;exact hy (Z3h.2 h1)
   have hnew:x∈(if v=[]then[]else[(k,v)])↔x.1=k/\x.2=v/\v≠[]:=by
    split
    ·rename_i h;simp[h]
    ·rename_i h
     rw[JM];constructor
     ·rintro rfl;exact⟨rfl,rfl,h⟩
     ·rintro⟨h1,h2,_⟩;exact Prod.ext h1 h2
   rw[hnew];by_cases hyk:y.1=k
   ·rw[if_pos hyk,JR]
    constructor
    ·rintro(h|h)
     ·exact JF h
     ·exact J3 ⟨hrest x h,J3 h⟩
    ·rintro(h|⟨h1,rfl|h2⟩)
     ·exact JF h
     ·exact(h1 hyk).elim
     ·exact J3 h2
   ·rw[if_neg hyk,JR]
    constructor
    ·rintro(h|rfl|h)
     ·exact JF h
     ·exact J3 ⟨hyk,JF rfl⟩
     ·exact J3 ⟨hrest x h,J3 h⟩
    ·rintro(h|⟨h1,h2⟩)
     ·exact JF h
     ·exact J3 h2
theorem Z73:∀{m:List (By×By)} {k v:By},Z0x m->Z0x (ZAi m k v)
 |[],k,v,_=>by
  simp only[ZAi];split
  ·exact List.Pairwise.nil
  ·exact List.pairwise_singleton _ _
 |y::r,k,v,hs=>by
  have hs0:=hs;rw[Z0x,JN]at hs;by_cases hy:Z9D y.1 k<0
  ·have e:ZAi (y::r) k v=y::ZAi r k v:=by simp only[ZAi];rw[if_pos hy]
   rw[e,Z0x,JN];refine⟨fun z hz=>?_,Z73 hs.2⟩;rcases (Z4v hs.2 z).1 hz with⟨h1,_⟩|⟨_,h2⟩
   ·rw[h1];exact Z3h.1 hy
   ·exact hs.1 z h2
  ·have e:ZAi (y::r) k v=(if v=[]then[]else[(k,v)])++(if y.1=k then r else y::r):=by simp only[ZAi];rw[if_neg hy]
   rw[e,Z0x,List.pairwise_append]
   have hkr:∀z∈r,ltB k z.1:=fun z hz=>by
    have h1:=hs.1 z hz;rcases Z6o k y.1 with h|h|h
    ·exact Z6p h h1
    ·rw[h];exact h1
    ·exact(hy (Z3h.2 h)).elim
   refine⟨by split<;>simp,?_,fun x hx z hz=>?_⟩
   ·split
    ·exact hs.2
    ·exact hs0
   ·have hxk:x.1=k:=by
      split at hx
      ·cases hx
      ·rw[JM]at hx;rw[hx]
    rw[hxk];split at hz
    ·exact hkr z hz
    ·rename_i hyk
     rcases List.mem_cons.1 hz with rfl|hz
     ·rcases Z6o k z.1 with h|h|h
      ·exact h
      ·exact(hyk h.symm).elim
      ·exact(hy (Z3h.2 h)).elim
     ·exact hkr z hz
end Go.Trie
end
section
namespace Go.Proofs.YtfghidehlnfdiaaGreat
open Go Go.Vcg Go.Trie
theorem ZD2{m:List (By×By)}{k v:By}:(nibbles k,v)∈Z0A m↔(k,v)∈m:=by
 unfold Z0A;rw[JW];constructor
 ·rintro⟨x,hx,he⟩
  have h1:=Z6q (JQ he).1;have h2:=(JQ he).2;rw[<-h1,<-h2];exact hx
 ·exact fun h=>⟨_,h,rfl⟩
theorem Z9k{m:List (By×By)}(hs:Z0x m):(Z0A m).Pairwise (fun x y=>ltB x.1 y.1):=by
 unfold Z0A;rw[List.pairwise_map];exact hs.imp (fun h=>Z7s h)
theorem ZFu{m:List (By×By)}{n:Nd}(hs:Z0x m)(h:∀p v,Trie.get n p=Z v↔(p,v)∈Z0A m):Rep (Z0A m) n:=⟨Z9k hs,h⟩
theorem ZDK{m:List (By×By)}{n:Nd}{k v:By}(hr:Rep (Z0A m) n)(hs:Z0x m)(hc:Z1N n)(hv:v≠[]):Rep (Z0A (ZAi m k v)) (Trie.put n (nibbles k) v):=by
 refine ZFu (Z73 hs) (fun p x=>?_);rw[(Z7x hc (Z1P k) hv).2.2.2 p];by_cases hp:p=nibbles k
 ·rw[if_pos hp,hp,ZD2,Z4v hs]
  constructor
  ·intro h;cases h;exact JF ⟨rfl,rfl,hv⟩
  ·rintro(⟨_,h,_⟩|⟨h,_⟩)
   ·exact congrArg Z h.symm
   ·exact(h rfl).elim
 ·rw[if_neg hp,hr.2]
  unfold Z0A;rw[JW,JW];constructor
  ·rintro⟨y,hy,he⟩
   refine⟨y,(Z4v hs y).2 (J3 ⟨fun e=>hp ?_,hy⟩),he⟩;rw[<-(JQ he).1,e]
  ·rintro⟨y,hy,he⟩
   rcases (Z4v hs y).1 hy with⟨h,_⟩|⟨_,h⟩
   ·exact(hp (by rw[<-(JQ he).1,h])).elim
   ·exact⟨y,h,he⟩
theorem ZDJ:Rep (Z0A []) .nil:=Rep.nil
section
variable{C C':Type}{S:C->Prop}{w0 w w':J5}{lab:Nat->C}{lab':Nat->C'}{lab2:Nat->C}{c c1:C}{c':C'}{xs:List Ja}{o:Option Addr}
theorem Z8k{w:J5}{o:Option Addr}{k:Nat}{b:By}(h:RdB w o b):Sem.run O (convert 23 9 (.slice o b.length k)) w=.ok (.string (Z77 b)) w:=Z72 Zn Z7C ZAw h
theorem Z9W{o1 o2:Option Addr}{k1 k2:Nat}{a b:By}(h1:RdB w o1 a)(h2:RdB w o2 b) :
  JB O Z0H.n #[.slice o1 a.length k1,.slice o2 b.length k2] w (fun e w'=>e=V (G (decide (a=b)))/\w'=w):=by
 refine Z0H.vc _ _ _ _ _ _ _ _ ?_;unfold Z0H.Vc;refine⟨_,Z8k h1,_,rfl,_,Z8k h2,_,rfl,?_,rfl⟩;rw[Z2N]
theorem Z6G(a b:By):Z76 .neq (Z77 a) (Z77 b)=decide (a≠b):=by
 have h:=Z2N a b
 have:Z76 .neq (Z77 a) (Z77 b)= !Z76 .eql (Z77 a) (Z77 b):=by
  simp only[Z76,bne]
 rw[this,h];by_cases hab:a=b<;>simp[hab]
theorem Z2k{l:List (By×By)}{k:Nat}(h:Z18 w lab c l o l.length)(hb:∀x∈l,x.2.length<=2^20)(hlen:l.length<=2^20)(cr:C) :
  JB O Z04.n #[.slice o l.length k] w (fun e w'=>∃o' k',e=V (.slice o' l.length k')/\l.length<=k'/\Vcg.Mod NoB w w'/\Z18 w' (ext lab w.heap.size cr) cr l o' l.length):=by
 refine Z9 fun R hR=>Z04.vc _ _ _ _ _ ?_;unfold Z04.Vc;have inL:∀k,k<w.heap.size->lab k=c->ZCw lab c w.heap.size k=0:=fun k _ hc=>ZF6 hc;have h0:Z18 w (ZCw lab c w.heap.size) 0 l o l.length:=Z18.re h inL
 refine⟨fun o' n' k' i w'=>∃(j:Nat)(L:Nat->Nat),i=(j:Int)/\j<=l.length/\n'=j/\Stp (·=2) w (ZCw lab c w.heap.size) w' L/\Z7L w' L 2 3 (l.take j) o' n' k',fun _ _ _ i _=>((l.length:Int)-i).toNat,
  ⟨0,_,rfl,JH _,rfl,Stp.refl _ _ _,by rw[List.take_zero];exact Z7L.nil _ _ _ _⟩,?_⟩
 rintro o1 j k1 _ _ w1⟨j',L1,rfl,hj,hjj,s1,O1⟩;subst hjj;obtain⟨_,vs,hCR,hNC⟩:=h0;refine⟨fun hlt=>?_,fun hge=>?_⟩
 ·rintro _ rfl
  have hjl:j<l.length:=by omega
  have sD:Stp NoS w1 L1 w1.drew L1:=Stp.drew _ _ _;have O2:=O1.stp sD (fun h=>h) (fun h=>h);have s2:=s1.trans (sD.mono (T:=fun k=>k=2) (fun _ h=>h.elim));generalize w1.drew=w2 at *
  have CR2:=hCR.stp s2 (by decide);have NC2:=hNC.stp s2 (by decide);obtain⟨g,f,rfl,hg,hlg,hrow⟩:=NC2.hash CR2 hjl;obtain⟨g',f',hgf,_,ob,kb,hcell,hby,_⟩:=NC2.bytes CR2 hjl;cases hgf;have hlen32:=(NC2.2 j hjl).1;have hbl:=hb _ (J4 hjl);obtain⟨o3,k3,w3,hr3,F3⟩:=Z3F (k2:=kb) (ty:=Zy) (Mod.refl w2) hby.rd (by omega)
  have hrow':∀w',Vcg.Mod NoB w2 w'->ZD w' (Addr.add ⟨g,f,K⟩ (H (j:Int)*33)) 32 (hashA l[j].1):=fun w' M=>by
   rw[Z2,J6];exact⟨hrow.1,fun i hi=>by rw[<-hrow.2 i hi,Z2];exact ZK M hg (fun h=>h)⟩
  have hZ:nd0.size=33:=rfl;refine⟨_,rfl,⟨by omega,by omega⟩,_,hrow' _ (Mod.refl _),_,rfl,⟨by omega,by omega⟩,_,_,_,by rw[Z2,Z2,J6,JJ];exact hcell,_,w3,hr3,_,_,_,rfl,hrow' _ F3.mod,Z4 _,by rw[Z0R];unfold lputL;rw[Z0R,hZ],?_⟩;rw[ZBZ hZ];rintro d w4⟨rfl,rfl⟩;have M4:=Mod.alloc (S:=NoB) w3 (J7 (ndA l[j].1 o3 l[j].2.length k3) tNd);have N4:=Blk.new w3 tNd (ndA l[j].1 o3 l[j].2.length k3);have M24:=F3.mod.trans M4 (fun _ _ h=>h);have s4:Stp NoS w2 L1 (w3.alloc (J7 (ndA l[j].1 o3 l[j].2.length k3) tNd)) (ext L1 w2.heap.size 3):=Stp.of_nob M24 3;have b4:CBy (w3.alloc (J7 (ndA l[j].1 o3 l[j].2.length k3) tNd)) (ext L1 w2.heap.size 3) 3 o3 l[j].2:=Z2W F3 M4;show ∃(v30:Ja)(w31:J5),Sem.run O (builtinV .append #[34,34] 34 #[(.slice o1 j k1),(.slice (Z ⟨w3.heap.size,0,K⟩) 1 1)]) (w3.alloc (J7 (ndA l[j].1 o3 l[j].2.length k3) tNd))=.ok v30 w31/\_;generalize w3.alloc (J7 (ndA l[j].1 o3 l[j].2.length k3) tNd)=w4 at *
  have O4:=O2.stp s4 (fun h=>h) (fun h=>h);have htl:(l.take j).length=j:=by rw[JX];omega
  obtain⟨o5,k5,w5,hr5,O5,s5⟩:=O4.push (by decide) N4 hlen32 b4 F3.own.cap.1 (by omega);have htk:l.take (j+1)=l.take j++[(l[j].1,l[j].2)]:=by rw[JV,JA hjl];rfl
  refine⟨_,w5,hr5,_,_,_,rfl,⟨j+1,_,by rw[Z0 (by omega) (by omega)];omega,hjl,rfl,(s2.trans (s4.mono (fun _ h=>h.elim))).trans s5,by rw[htk];exact O5⟩,by dsimp only;rw[Z0 (by omega) (by omega)];omega⟩
 ·obtain rfl:j=l.length:=by omega
  rw[JY]at O1;obtain⟨_,us,hO,hC⟩:=O1;have M1:Vcg.Mod NoB w w1:=(s1.mod (Q:=fun k=>w.heap.size<=k) (fun k hk hs=>Nat.not_lt.1 fun hlt=>(ZE2 hlt).1 hs)).mono (fun i hi h=>by omega)
  have out:∀q,q=2\/q=3->∀z,z<w1.heap.size->L1 z=q->ext lab w.heap.size cr z=cr:=fun q hq z hz he=>by
   by_cases hlt:z<w.heap.size
   ·rw[s1.lab z hlt]at he
    have:ZCw lab c w.heap.size z=0\/ZCw lab c w.heap.size z=1:=by
     unfold ZCw;rw[if_pos hlt];split
     ·exact JF rfl
     ·exact J3 rfl
    rcases this with h|h<;>rw[h]at he<;>omega
   ·exact Z0D (by omega)
  exact hR _ _ ⟨o1,k1,rfl,hO.own.cap.1,M1,rfl,us,Z42.re (COw.row hO) (out 2 (JF rfl)),Z08.re hC (out 3 (J3 rfl))⟩
end
end Go.Proofs.YtfghidehlnfdiaaGreat
end
section
namespace Go.Vcg
def lk(l:List (BitVec 64)):St:=fun i=>l.getD i 0
theorem ZDO{s r:St}(n:Nat)(h:∀i,i<25->s i=r i):∀j,j<25->rnd n s j=rnd n r j:=by
 have hp:∀x,x<5->par s x=par r x:=fun x hx=>by
  simp only[par,ZCK];rw[h (x+5*0) (by omega),h (x+5*1) (by omega),h (x+5*2) (by omega),h (x+5*3) (by omega),h (x+5*4) (by omega)]
 have hb:∀j,j<25->bbK s j=bbK r j:=fun j hj=>by
  simp only[bbK,bbXY,ddK];rw[h _ (by omega),hp _ (by omega),hp _ (by omega)]
 have hc:∀j,j<25->Z4P (bbK s) j=Z4P (bbK r) j:=fun j hj=>by
  simp only[Z4P];rw[hb _ (by omega),hb _ (by omega),hb _ (by omega)]
 intro j hj;simp only[rnd];rw[hc 0 (by omega),hc j hj]
end Go.Vcg
end
section
namespace Go.Trie
open Go.Vcg
def kDo:By:=[100,111]
def kDog:By:=[100,111,103]
def kDoge:By:=[100,111,103,101]
def ZFk:By:=[104,111,114,115,101]
def vVerb:By:=[118,101,114,98]
def vPuppy:By:=[112,117,112,112,121]
def vCoin:By:=[99,111,105,110]
def ZDh:By:=[115,116,97,108,108,105,111,110]
def n1:Nd:=(putT .nil kDo vVerb).2
def n2:Nd:=(putT n1 kDog vPuppy).2
def n3:Nd:=(putT n2 kDoge vCoin).2
def n4:Nd:=(putT n3 ZFk ZDh).2
theorem get4:get n4 (nibbles kDog)=Z vPuppy:=by kernel_rfl
end Go.Trie
end
section
namespace Go.Proofs.YtfghidehlnfdiaaGreat
open Go Go.Vcg Go.Trie
theorem Z30(w:J5){bs:By}{A:Array Ja}(hA:A.toList=bs.map bV)(l k:Nat) :
  ∃w2,Sem.run O (convert 23 23 (.slice (Z ⟨w.heap.size,0,K⟩) l k)) (w.alloc (J7 A 5))=.ok (.slice (Z ⟨w.heap.size,0,K⟩) l k) w2/\Vcg.Mod NoB w w2/\RdB w2 (Z ⟨w.heap.size,0,K⟩) bs:=by
 have B:=Blk.new w 5 A;obtain⟨w2,h2,M2,hc2⟩:=Z5j (P:=O) (t:=Zy) (l:=l) (c:=k) Zn (by kernel_rfl) B;refine⟨w2,h2,ZC (Mod.alloc w _) M2 (JG _),fun hne=>⟨w.heap.size,0,rfl,?_,fun i hi=>?_⟩⟩
 ·have:=M2.size
  have:=B.lt;omega
 ·rw[hc2,B.cell,JD,<-Array.getElem?_toList,hA]
  exact Z5V hi
end Go.Proofs.YtfghidehlnfdiaaGreat
end
section
namespace Go.Proofs.YtfghidehlnfdiaaGreat
open Go Go.Vcg
abbrev Z1x.n:Nat:=99
def Z1x.Vc(a:Option Addr)(b c:Nat)(w:J5)(R:JZ->J5->Prop):Prop :=
 JB O 43 #[.slice a b c] w (fun d e =>
 ∃f g h,d=V (.slice f g h) /\
 (((g:Int)=0 ->
 R (V (U #[.slice K 0 0,G X,.int Y 143])) e) /\
 ((g:Int)≠0 ->
 ∃d,f=Z d /\
 ((0:Int)<=0/\0<(g:Int)) /\
 ∃i,e.cell? (d.add 0)=Z (.int JS i) /\
 ((i>3 ->
 R (V (U #[.slice K 0 0,G X,.int Y 143])) e) /\
 (¬i>3 ->
 (((g:Int)>130 ->
 R (V (U #[.slice K 0 0,G X,.int Y 143])) e) /\
 (¬(g:Int)>130 ->
 ∃d,f=Z d /\
 ((0:Int)<=0/\0<(g:Int)) /\
 ∃i,e.cell? (d.add 0)=Z (.int JS i) /\
 1<=g /\
 ∃(d:Option Addr->Nat->Nat->J5->Prop),(∃j,f=Z j /\
 ((0:Int)<=0/\0<(g:Int)) /\
 ∃k,e.cell? (j.add 0)=Z (.int JS k) /\
 (((J2 k 2)=0 ->
 2<=g /\
 d (subO f h 2 1) (g-2) (h-2) e) /\
 ((J2 k 2)≠0 ->
 d (subO f h 1 1) (g-1) (h-1) e))) /\
 (∀(e:Option Addr)(f:Nat)(g:Nat)(h:Nat->Ja)(h:J5),d e f g h ->
 JB O 120 #[.slice e f g,G (decide (i>1))] h (fun d h =>
 ∃j k l m,d=V (U #[.slice j k l,.int Y m]) /\
 ((m≠0 ->
 R (V (U #[.slice K 0 0,G X,.int Y 143])) h) /\
 (m=0 ->
 JB O 82 #[.slice j k l,.slice a b c] h (fun a b =>
 ∃c,a=V (G c) /\
 ((c=X ->
 R (V (U #[.slice K 0 0,G X,.int Y 143])) b) /\
 (c=JT ->
 R (V (U #[.slice e f g,G (decide (i>1)),.int Y 0])) b))))))))))))))
theorem Z1x.vc(a b c w R)(h:Z1x.Vc a b c w R):JB O 99 #[(.slice a b c)] w R:=xs [(1000008,[(7,.cell (.slice))])] [.slice a b c] Tryz.func99 ZI (by kernel_rfl) h
abbrev Zr.n:Nat:=95
def Zr.Vc(a:Option Addr)(b c:Nat)(w:J5)(R:JZ->J5->Prop):Prop :=
 (((b:Int)=0 ->
 R (V (U #[.slice K 0 0,G X,.int Y 143])) w) /\
 ((b:Int)≠0 ->
 (((b:Int)>65 ->
 R (V (U #[.slice K 0 0,G X,.int Y 143])) w) /\
 (¬(b:Int)>65 ->
 JB O 54 #[.slice a b c] w (fun a b =>
 ∃c d e,a=V (.slice c d e) /\
 ∃a,c=Z a /\
 ((0:Int)<=0/\0<(d:Int)) /\
 ∃f,b.cell? (a.add 0)=Z (.int JS f) /\
 ((f>3 ->
 R (V (U #[.slice K 0 0,G X,.int Y 143])) b) /\
 (¬f>3 ->
 (((J2 f 2)=0 ->
 ∃a,c=Z a /\
 ((0:Int)<=1/\1<(d:Int)) /\
 ∃g,b.cell? (a.add 1)=Z (.int JS g) /\
 ((g≠0 ->
 R (V (U #[.slice K 0 0,G X,.int Y 143])) b) /\
 (g=0 ->
 ((0:Int)<=(J JS (2-(J2 f 2)))/\(J JS (2-(J2 f 2)))<=(d:Int)) /\
 (((((d-(H (J JS (2-(J2 f 2))))):Nat):Int)>128 ->
 R (V (U #[.slice K 0 0,G X,.int Y 143])) b) /\
 (¬(((d-(H (J JS (2-(J2 f 2))))):Nat):Int)>128 ->
 R (V (U #[.slice (subO c e (H (J JS (2-(J2 f 2)))) 1) (d-(H (J JS (2-(J2 f 2))))) (e-(H (J JS (2-(J2 f 2))))),G (decide (f>1)),.int Y 0])) b))))) /\
 ((J2 f 2)≠0 ->
 ((0:Int)<=(J JS (2-(J2 f 2)))/\(J JS (2-(J2 f 2)))<=(d:Int)) /\
 (((((d-(H (J JS (2-(J2 f 2))))):Nat):Int)>128 ->
 R (V (U #[.slice K 0 0,G X,.int Y 143])) b) /\
 (¬(((d-(H (J JS (2-(J2 f 2))))):Nat):Int)>128 ->
 R (V (U #[.slice (subO c e (H (J JS (2-(J2 f 2)))) 1) (d-(H (J JS (2-(J2 f 2))))) (e-(H (J JS (2-(J2 f 2))))),G (decide (f>1)),.int Y 0])) b)))))))))))
theorem Zr.vc(a b c w R)(h:Zr.Vc a b c w R):JB O 95 #[(.slice a b c)] w R:=xs [] [.slice a b c] Tryz.func95 ZI (by kernel_rfl) h
end Go.Proofs.YtfghidehlnfdiaaGreat
end
section
namespace Go.Proofs.YtfghidehlnfdiaaGreat
open Go Go.Vcg Go.Trie
def Z1b:By->Option (By×Bool)
 |[]=>K
 |a::r =>
  if 65<r.length+1\/3<(a>>>4).toNat then K
  else if(a>>>4).toNat%2=0 then(if(a&&&15).toNat≠0 then K else Z (nibbles r,decide ((a>>>4).toNat>1)))
  else if 64<=r.length then K else Z ((a&&&15)::nibbles r,decide ((a>>>4).toNat>1))
theorem Z3M:∀(r:By),Z3L (nibbles r)=r
 |[]=>rfl
 |a::r=>by
  rw[Zz];simp only[Z3L];rw[Z6A,Z3M r]
theorem ZD4{p:By}(h:Nib p):Z2c p↔128<p.length:=by
 unfold Z2c;constructor
 ·rintro(h1|⟨x,hx,h1⟩)
  ·exact h1
  ·have:=h x hx
   have h2:=UInt8.le_iff_toNat_le.1 h1;simp at h2;omega
 ·exact JF
theorem Z8X{a:UInt8}{r:By}(h3:¬3<(a>>>4).toNat)(ho:(a>>>4).toNat%2≠0):(Z7K ((a&&&15)::nibbles r) (decide ((a>>>4).toNat>1)))=if 64<=r.length then([],140)else(a::r,0):=by
 have hn:Nib ((a&&&15)::nibbles r):=fun x hx=>Z1P (a::r) x (by rw[Zz];exact List.mem_cons_of_mem _ hx);unfold Z7K;have hl:((a&&&15)::nibbles r).length=1+2*r.length:=by rw[I,ZG];omega
 rw[show(if Z2c _ then((([]:By),(140:Int)))else _)=_ from ite_congr (propext (ZD4 hn)) (fun _=>rfl) (fun _=>rfl),hl];by_cases h:64<=r.length
 ·rw[if_pos (by omega),if_pos h]
 ·rw[if_neg (by omega),if_neg h]
  unfold headed;rw[if_pos (by omega)];simp only[Z3L];rw[Z3M]
  have:Z1E (decide ((a>>>4).toNat>1))+(1:UInt8)=a>>>4:=by
   have:∀n:Fin 256,¬3<(E n>>>4).toNat->(E n>>>4).toNat%2≠0->Z1E (decide ((E n>>>4).toNat>1))+(1:UInt8)=E n>>>4:=by decide +kernel
   exact this a.toFin h3 ho
  rw[this,Z6A]
theorem Z6v{a:UInt8}{r:By}(h3:¬3<(a>>>4).toNat)(he:(a>>>4).toNat%2=0):(Z7K (nibbles r) (decide ((a>>>4).toNat>1)))=if 64<r.length then([],(140:Int))else((a>>>4)<<<4::r,(0:Int)):=by
 have hn:Nib (nibbles r):=Z1P r;unfold Z7K;have hl:(nibbles r).length=2*r.length:=by rw[ZG]
 rw[show(if Z2c _ then((([]:By),(140:Int)))else _)=_ from ite_congr (propext (ZD4 hn)) (fun _=>rfl) (fun _=>rfl),hl];by_cases h:64<r.length
 ·rw[if_pos (by omega),if_pos h]
 ·rw[if_neg (by omega),if_neg h]
  unfold headed;rw[if_neg (by omega)];simp only[Z3L];rw[Z3M]
  have:Z1E (decide ((a>>>4).toNat>1))=a>>>4:=by
   have:∀n:Fin 256,¬3<(E n>>>4).toNat->(E n>>>4).toNat%2=0->Z1E (decide ((E n>>>4).toNat>1))=E n>>>4:=by decide +kernel
   exact this a.toFin h3 he
  rw[this];congr 2;exact UInt8.or_zero
theorem ZBV(a:UInt8):(a>>>4)<<<4=a↔(a&&&15).toNat=0:=by
 have:∀n:Fin 256,((E n>>>4)<<<4=E n↔(E n&&&15).toNat=0):=by decide +kernel
 exact this a.toFin
theorem Z8j(h:Nat):J2 (h:Int) 2=((h%2:Nat):Int):=(Int.ofNat_tmod h 2).symm
def upk(b:By):By×Bool×Int:=match Z1b b with
 |none=>([],X,143)
 |some (p,l)=>(p,l,0)
section
variable{w:J5}{o:Option Addr}{k:Nat}{bs:By}
theorem Z6n{a:UInt8}{r:By}(h:RdB w o (a::r)):∃d,o=Z d/\w.cell? (Addr.add d 0)=Z (.int JS (a.toNat:Int)):=by
 obtain⟨b,f,rfl,hb,hc⟩:=h (by simp);exact⟨_,rfl,by rw[Z2];exact hc 0 (by simp)⟩
theorem Z6H{o:Option Addr}{c n N:Nat}(h:∀k,OB o k->N<=k):∀d,subO o c n 1=Z d->N<=d.block:=by
 intro d hd;unfold subO at hd;split at hd
 ·exact h _ ⟨d,hd,rfl⟩
 ·cases o with
  |none=>simp at hd
  |some a =>
   simp only[Option.map_some,Option.some.injEq]at hd;rw[<-hd]
   have e:(a.add (n*1)).block=a.block:=by
    obtain⟨b,f,s⟩:=a;simp only[Addr.add];split<;>rfl
   rw[e];exact h a.block ⟨a,rfl,rfl⟩
theorem Z58{c n:Nat}(h:RdB w o bs)(hl:bs.length<=c):RdB w (subO o c n 1) (bs.drop n):=by
 have:=h.sub (c:=c) (lo:=n) (n:=bs.length) hl
 rwa[JE (by simp)]at this
theorem Z5g(hr:RdB w o bs)(hl:bs.length<=2^20) :
  JB O Z1x.n #[.slice o bs.length k] w (fun e w'=>∃o' k',e=V (U #[.slice o' (upk bs).1.length k',G (upk bs).2.1,.int Y (upk bs).2.2])/\Vcg.Mod NoB w w'/\RdB w' o' (upk bs).1/\∀d,o'=Z d->w.heap.size<=d.block):=by
 refine Z9 fun R hR=>Z1x.vc _ _ _ _ _ ?_;unfold Z1x.Vc;refine(Z4h hr (by omega)).mono ?_;rintro _ w1⟨o1,k1,rfl,F⟩
 have bad:∀w',Z1b bs=K->Vcg.Mod NoB w w'->R (V (U #[.slice K 0 0,G X,.int Y 143])) w':=fun w' h M=>by
  refine hR _ _ ⟨K,0,?_,M,?_,fun d h=>by cases h⟩
  ·unfold upk;rw[h];rfl
  ·unfold upk;rw[h];exact RdB.nil _ _
 refine⟨_,_,_,rfl,fun h0=>?_,fun h0=>?_⟩
 ·refine bad _ ?_ F.mod
  have:bs=[]:=JC (by rw[ZG]at h0;omega);rw[this];rfl
 ·cases bs with
  |nil=>simp[ZG]at h0
  |cons a r =>
   have hR1:=F.own.bytes;rw[Zz]at hR1;obtain⟨d,rfl,hc⟩:=Z6n hR1;have hlen:(nibbles (a::r)).length=2*(r.length+1):=by rw[ZG,I]
   have hcap:=F.own.cap.1;rw[hlen]at *
   refine⟨_,rfl,⟨by omega,by omega⟩,_,hc,fun h3=>bad _ ?_ F.mod,fun h3=>⟨fun h65=>bad _ ?_ F.mod,fun h65=>?_⟩⟩
   ·simp only[Z1b];rw[if_pos (J3 (by omega))]
   ·simp only[Z1b];rw[if_pos (JF (by omega))]
   refine⟨_,rfl,⟨by omega,by omega⟩,_,hc,by omega,?_⟩;have hn3:¬3<(a>>>4).toNat:=by omega
   have edec:decide (((a>>>4).toNat:Int)>1)=decide ((a>>>4).toNat>1):=by rw[Jd,decide_eq_true_eq,decide_eq_true_eq];omega
   rw[edec]
   let path:By:=if(a>>>4).toNat%2=0 then nibbles r else(a&&&15)::nibbles r
   have hpl:path.length<=2^30:=by
    simp only[path];simp only[I]at hl;split
    ·rw[ZG];omega
    ·rw[I,ZG];omega
   refine⟨fun o' n' c' w'=>w'=w1/\n'=path.length/\RdB w1 o' path/\∀d,o'=Z d->w.heap.size<=d.block,?_,?_⟩
   ·refine⟨_,rfl,⟨by omega,by omega⟩,_,hc,fun he=>?_,fun he=>?_⟩
    ·rw[Z8j]at he
     have he':(a>>>4).toNat%2=0:=by omega
     refine⟨by omega,rfl,?_,?_,Z6H F.new⟩
     ·simp only[path,if_pos he',ZG];omega
     ·simp only[path,if_pos he']
      exact Z58 (n:=2) hR1 (by simp only[I,ZG];omega)
    ·rw[Z8j]at he
     have he':¬(a>>>4).toNat%2=0:=by omega
     refine⟨rfl,?_,?_,Z6H F.new⟩
     ·simp only[path,if_neg he',I,ZG];omega
     ·simp only[path,if_neg he']
      exact Z58 (n:=1) hR1 (by simp only[I,ZG];omega)
   ·rintro o3 _ c3 _ w1⟨rfl,rfl,h3,hnew⟩
    refine(ZBz (k:=c3) h3 hpl _).mono ?_;rintro _ w2⟨o4,k4,rfl,F4⟩;have M02:=F.mod.trans F4.mod (fun _ _ h=>h);refine⟨_,_,_,_,rfl,fun hn=>bad _ ?_ M02,fun hz=>?_⟩
    ·simp only[path]at hn
     simp only[Z1b];rw[if_neg (by omega)];by_cases he:(a>>>4).toNat%2=0
     ·rw[if_pos he,Z6v hn3 he,if_neg (by omega)]at hn
      exact(hn rfl).elim
     ·rw[if_neg he,Z8X hn3 he]at hn
      rw[if_neg he];by_cases h64:64<=r.length
      ·rw[if_pos h64]
      ·rw[if_neg h64]at hn;exact(hn rfl).elim
    ·have hq:=(Z4K (k1:=k4) (k2:=k) F4.own.bytes (hr.mod' M02))
     refine hq.mono ?_;rintro _ w2⟨rfl,rfl⟩;refine⟨_,rfl,fun hf=>bad _ ?_ M02,fun ht=>?_⟩
     ·have hf:=of_decide_eq_false hf
      simp only[path]at hf hz;simp only[Z1b];rw[if_neg (by omega)];by_cases he:(a>>>4).toNat%2=0
      ·rw[if_pos he,Z6v hn3 he,if_neg (by omega)]at hf
       rw[if_pos he,if_pos (fun h=>hf ?_)];show(a>>>4)<<<4::r=a::r;rw[(ZBV a).2 h]
      ·rw[if_neg he,Z8X hn3 he]at hf hz
       by_cases h64:64<=r.length
       ·rw[if_pos h64]at hz;exact absurd hz (by decide)
       ·rw[if_neg h64]at hf;exact(hf rfl).elim
     ·have ht:=of_decide_eq_true ht
      have hu:Z1b (a::r)=Z (path,decide ((a>>>4).toNat>1)):=by
       simp only[path]at ht hz ⊢;simp only[Z1b];rw[if_neg (by omega)];by_cases he:(a>>>4).toNat%2=0
       ·rw[if_pos he,Z6v hn3 he,if_neg (by omega)]at ht
        simp only[List.cons.injEq,and_true]at ht;rw[if_pos he,if_neg (fun h=>h ((ZBV a).1 ht)),if_pos he]
       ·rw[if_neg he,Z8X hn3 he]at hz
        rw[if_neg he];by_cases h64:64<=r.length
        ·rw[if_pos h64]at hz;exact absurd hz (by decide)
        ·rw[if_neg h64,if_neg he]
      refine hR _ _ ⟨o3,c3,?_,M02,?_,hnew⟩
      ·unfold upk;rw[hu]
      ·unfold upk;rw[hu];exact h3.mod' F4.mod
theorem Z50(hr:RdB w o bs)(hl:bs.length<=2^20) :
  JB O Zr.n #[.slice o bs.length k] w (fun e w'=>∃o' k',e=V (U #[.slice o' (upk bs).1.length k',G (upk bs).2.1,.int Y (upk bs).2.2])/\Vcg.Mod NoB w w'/\RdB w' o' (upk bs).1/\∀d,o'=Z d->w.heap.size<=d.block):=by
 refine Z9 fun R hR=>Zr.vc _ _ _ _ _ ?_;unfold Zr.Vc
 have bad:∀w',Z1b bs=K->Vcg.Mod NoB w w'->R (V (U #[.slice K 0 0,G X,.int Y 143])) w':=fun w' h M=>by
  refine hR _ _ ⟨K,0,?_,M,?_,fun d h=>by cases h⟩
  ·unfold upk;rw[h];rfl
  ·unfold upk;rw[h];exact RdB.nil _ _
 refine⟨fun h0=>?_,fun h0=>⟨fun h65=>?_,fun h65=>?_⟩⟩
 ·refine bad _ ?_ (Mod.refl w)
  have:bs=[]:=JC (by omega);rw[this];rfl
 ·cases bs with
  |nil=>simp at h0
  |cons a r =>
   simp only[I]at h65;refine bad _ ?_ (Mod.refl w);simp only[Z1b];rw[if_pos (JF (by omega))]
 ·refine(Z23 hr (by omega)).mono ?_
  rintro _ w1⟨o1,k1,rfl,F⟩;cases bs with
  |nil=>simp at h0
  |cons a r =>
   simp only[I]at h65;have hR1:=F.own.bytes;rw[Zz]at hR1;have hlen:(nibbles (a::r)).length=2*(r.length+1):=by rw[ZG,I]
   have hcap:2*(r.length+1)<=k1:=by have:=F.own.cap.1;rwa[hlen]at this
   rw[hlen];obtain⟨b,f,rfl,hb,hcs⟩:=hR1 (by simp);have c0:=hcs 0 (by simp);have c1:=hcs 1 (by simp);refine⟨_,_,_,rfl,_,rfl,⟨by omega,by omega⟩,((a>>>4).toNat:Int),by rw[Z2];exact c0,fun h3=>bad _ ?_ F.mod,fun h3=>?_⟩
   ·simp only[Z1b];rw[if_pos (J3 (by omega))]
   ·rw[Z8j]
    have hn3:¬3<(a>>>4).toNat:=by omega
    have edec:decide (((a>>>4).toNat:Int)>1)=decide ((a>>>4).toNat>1):=by rw[Jd,decide_eq_true_eq,decide_eq_true_eq];omega
    rw[edec];refine⟨fun he=>?_,fun he=>?_⟩
    ·have he':(a>>>4).toNat%2=0:=by omega
     refine⟨_,rfl,⟨by omega,by omega⟩,((a&&&15).toNat:Int),by rw[Z2];exact c1,fun hn=>bad _ ?_ F.mod,fun hz=>?_⟩
     ·simp only[Z1b]
      rw[if_neg (by omega),if_pos he',if_pos (by omega)]
     ·have ew:J JS ((2:Int)-(((a>>>4).toNat%2:Nat):Int))=2:=by rw[he'];decide
      rw[ew]
      have hu:Z1b (a::r)=Z (nibbles r,decide ((a>>>4).toNat>1)):=by
       simp only[Z1b];rw[if_neg (by omega),if_pos he',if_neg (by omega)]
      refine⟨⟨by omega,by omega⟩,fun h=>absurd h (by simp only[show H 2=2 from rfl];omega),fun h=>hR _ _ ⟨subO (Z ⟨b,f,K⟩) k1 2 1,k1-2,?_,F.mod,?_,?_⟩⟩
      ·unfold upk;rw[hu]
       simp only[show H 2=2 from rfl,ZG];rw[show 2*(r.length+1)-2=2*r.length by omega]
      ·unfold upk;rw[hu]
       exact Z58 (n:=2) hR1 (by simp only[I,ZG];omega)
      ·exact Z6H F.new
    ·have he':(a>>>4).toNat%2=1:=by omega
     have ew:J JS ((2:Int)-(((a>>>4).toNat%2:Nat):Int))=1:=by rw[he'];decide
     rw[ew];refine⟨⟨by omega,by omega⟩,fun h=>bad _ ?_ F.mod,fun h=>?_⟩
     ·simp only[show H 1=1 from rfl]at h
      simp only[Z1b];rw[if_neg (by omega),if_neg (by omega),if_pos (by omega)]
     ·simp only[show H 1=1 from rfl]at h ⊢
      have hu:Z1b (a::r)=Z ((a&&&15)::nibbles r,decide ((a>>>4).toNat>1)):=by
       simp only[Z1b];rw[if_neg (by omega),if_neg (by omega),if_neg (by omega)]
      refine hR _ _ ⟨subO (Z ⟨b,f,K⟩) k1 1 1,k1-1,?_,F.mod,?_,?_⟩
      ·unfold upk;rw[hu]
       simp only[I,ZG];rw[show 2*(r.length+1)-1=2*r.length+1 by omega]
      ·unfold upk;rw[hu]
       exact Z58 (n:=1) hR1 (by simp only[I,ZG];omega)
      ·exact Z6H F.new
end
end Go.Proofs.YtfghidehlnfdiaaGreat
end
section
namespace Go.Proofs.YtfghidehlnfdiaaGreat
open Go Go.Vcg
abbrev Z2K.n:Nat:=102
def Z2K.Vc(a:Option Addr)(b c:Nat)(w:J5)(R:JZ->J5->Prop):Prop :=
 ∀d e,Z5 w 111 #[G X,.slice K 0 0,.slice K 0 0] d e ->
 JB O 122 #[.slice a b c] e (fun a c =>
 ∃e f g h i j k l m,a=V (U #[JL #[G e,.slice f g h,.slice i j k],.int Y l,.int Y m]) /\
 ∀a n,Z5 c 111 #[G X,.slice K 0 0,.slice K 0 0] a n ->
 Z1 n a (G e)/\∀c,Z3 n a (G e) c ->
 Z1 c (a.add 1) (.slice f g h)/\∀e,Z3 c (a.add 1) (.slice f g h) e ->
 Z1 e (a.add 2) (.slice i j k)/\∀c,Z3 e (a.add 2) (.slice i j k) c ->
 ((m≠0 ->
 Z1 c d (G X)/\∀e,Z3 c d (G X) e ->
 Z1 e (d.add 1) (.slice K 0 0)/\∀f,Z3 e (d.add 1) (.slice K 0 0) f ->
 Z1 f (d.add 2) (.slice K 0 0)/\∀e,Z3 f (d.add 2) (.slice K 0 0) e ->
 ∃f g h i j k n,e.cell? d=Z (G f) /\
 e.cell? (d.add 1)=Z (.slice g h i) /\
 e.cell? (d.add 2)=Z (.slice j k n) /\
 R (V (U #[JL #[G f,.slice g h i,.slice j k n],.int Y m])) e) /\
 (m=0 ->
 ((l<(b:Int) ->
 Z1 c d (G X)/\∀e,Z3 c d (G X) e ->
 Z1 e (d.add 1) (.slice K 0 0)/\∀f,Z3 e (d.add 1) (.slice K 0 0) f ->
 Z1 f (d.add 2) (.slice K 0 0)/\∀e,Z3 f (d.add 2) (.slice K 0 0) e ->
 ∃f g h i j k m,e.cell? d=Z (G f) /\
 e.cell? (d.add 1)=Z (.slice g h i) /\
 e.cell? (d.add 2)=Z (.slice j k m) /\
 R (V (U #[JL #[G f,.slice g h i,.slice j k m],.int Y 42])) e) /\
 (¬l<(b:Int) ->
 ∃b e f g h i j,c.cell? a=Z (G b) /\
 c.cell? (a.add 1)=Z (.slice e f g) /\
 c.cell? (a.add 2)=Z (.slice h i j) /\
 Z1 c d (G b)/\∀a,Z3 c d (G b) a ->
 Z1 a (d.add 1) (.slice e f g)/\∀b,Z3 a (d.add 1) (.slice e f g) b ->
 Z1 b (d.add 2) (.slice h i j)/\∀a,Z3 b (d.add 2) (.slice h i j) a ->
 ∃b c e f g h i,a.cell? d=Z (G b) /\
 a.cell? (d.add 1)=Z (.slice c e f) /\
 a.cell? (d.add 2)=Z (.slice g h i) /\
 R (V (U #[JL #[G b,.slice c e f,.slice g h i],.int Y 0])) a)))))
theorem Z2K.vc(a b c w R)(h:Z2K.Vc a b c w R):JB O 102 #[(.slice a b c)] w R:=xs [] [.slice a b c] Tryz.func102 ZI (by kernel_rfl) h
abbrev Z34.n:Nat:=122
def Z34.Vc(a:Option Addr)(b c:Nat)(w:J5)(R:JZ->J5->Prop):Prop :=
 ∀d e,Z5 w 111 #[G X,.slice K 0 0,.slice K 0 0] d e ->
 (((b:Int)>65536 ->
 Z1 e d (G X)/\∀f,Z3 e d (G X) f ->
 Z1 f (d.add 1) (.slice K 0 0)/\∀g,Z3 f (d.add 1) (.slice K 0 0) g ->
 Z1 g (d.add 2) (.slice K 0 0)/\∀f,Z3 g (d.add 2) (.slice K 0 0) f ->
 ∃g h i j k l m,f.cell? d=Z (G g) /\
 f.cell? (d.add 1)=Z (.slice h i j) /\
 f.cell? (d.add 2)=Z (.slice k l m) /\
 R (V (U #[JL #[G g,.slice h i j,.slice k l m],.int Y 0,.int Y 44])) f) /\
 (¬(b:Int)>65536 ->
 ∀f g,Z5 e 217 #[.int Y 0] f g ->
 JB O 136 #[J9 (Z f),.slice a b c,.int Y 1] g (fun a b =>
 ∃c e f g h i j k l,a=V (U #[JL #[G c,.slice e f g,.slice h i j],.int Y k,.int Y l]) /\
 Z1 b d (G c)/\∀a,Z3 b d (G c) a ->
 Z1 a (d.add 1) (.slice e f g)/\∀b,Z3 a (d.add 1) (.slice e f g) b ->
 Z1 b (d.add 2) (.slice h i j)/\∀a,Z3 b (d.add 2) (.slice h i j) a ->
 ∃b c e f g h i,a.cell? d=Z (G b) /\
 a.cell? (d.add 1)=Z (.slice c e f) /\
 a.cell? (d.add 2)=Z (.slice g h i) /\
 R (V (U #[JL #[G b,.slice c e f,.slice g h i],.int Y k,.int Y l])) a)))
theorem Z34.vc(a b c w R)(h:Z34.Vc a b c w R):JB O 122 #[(.slice a b c)] w R:=xs [] [.slice a b c] Tryz.func122 ZI (by kernel_rfl) h
abbrev Z0d.n:Nat:=136
def Z0d.Vc(a:Addr)(b:Option Addr)(c d:Nat)(e:Int)(w:J5)(R:JZ->J5->Prop):Prop :=
 ∀f g,Z5 w 111 #[G X,.slice K 0 0,.slice K 0 0] f g ->
 (((c:Int)=0 ->
 Z1 g f (G X)/\∀h,Z3 g f (G X) h ->
 Z1 h (f.add 1) (.slice K 0 0)/\∀i,Z3 h (f.add 1) (.slice K 0 0) i ->
 Z1 i (f.add 2) (.slice K 0 0)/\∀h,Z3 i (f.add 2) (.slice K 0 0) h ->
 ∃i j k l m n o,h.cell? f=Z (G i) /\
 h.cell? (f.add 1)=Z (.slice j k l) /\
 h.cell? (f.add 2)=Z (.slice m n o) /\
 R (V (U #[JL #[G i,.slice j k l,.slice m n o],.int Y 0,.int Y 41])) h) /\
 ((c:Int)≠0 ->
 JB O 148 #[J9 (Z a),.int Y e] g (fun g h =>
 ∃i,g=V (.int Y i) /\
 ((i≠0 ->
 Z1 h f (G X)/\∀g,Z3 h f (G X) g ->
 Z1 g (f.add 1) (.slice K 0 0)/\∀j,Z3 g (f.add 1) (.slice K 0 0) j ->
 Z1 j (f.add 2) (.slice K 0 0)/\∀g,Z3 j (f.add 2) (.slice K 0 0) g ->
 ∃j k l m n o p,g.cell? f=Z (G j) /\
 g.cell? (f.add 1)=Z (.slice k l m) /\
 g.cell? (f.add 2)=Z (.slice n o p) /\
 R (V (U #[JL #[G j,.slice k l m,.slice n o p],.int Y 0,.int Y i])) g) /\
 (i=0 ->
 JB O 149 #[.slice b c d] h (fun g h =>
 ∃i j k l m n,g=V (U #[JL #[G i,.int Y j,.int Y k,G l,G m],.int Y n]) /\
 ∀g o,Z5 h 237 #[G X,.int Y 0,.int Y 0,G X,G X] g o ->
 Z1 o g (G i)/\∀h,Z3 o g (G i) h ->
 Z1 h (g.add 1) (.int Y j)/\∀i,Z3 h (g.add 1) (.int Y j) i ->
 Z1 i (g.add 2) (.int Y k)/\∀h,Z3 i (g.add 2) (.int Y k) h ->
 Z1 h (g.add 3) (G l)/\∀i,Z3 h (g.add 3) (G l) i ->
 Z1 i (g.add 4) (G m)/\∀h,Z3 i (g.add 4) (G m) h ->
 ((n≠0 ->
 Z1 h f (G X)/\∀i,Z3 h f (G X) i ->
 Z1 i (f.add 1) (.slice K 0 0)/\∀j,Z3 i (f.add 1) (.slice K 0 0) j ->
 Z1 j (f.add 2) (.slice K 0 0)/\∀i,Z3 j (f.add 2) (.slice K 0 0) i ->
 ∃j k l m o p q,i.cell? f=Z (G j) /\
 i.cell? (f.add 1)=Z (.slice k l m) /\
 i.cell? (f.add 2)=Z (.slice o p q) /\
 R (V (U #[JL #[G j,.slice k l m,.slice o p q],.int Y 0,.int Y n])) i) /\
 (n=0 ->
 ∃i,h.cell? (g.add 2)=Z (.int Y i) /\
 ∃j,h.cell? (g.add 1)=Z (.int Y j) /\
 ((i>(J Y ((c:Int)-j)) ->
 Z1 h f (G X)/\∀k,Z3 h f (G X) k ->
 Z1 k (f.add 1) (.slice K 0 0)/\∀l,Z3 k (f.add 1) (.slice K 0 0) l ->
 Z1 l (f.add 2) (.slice K 0 0)/\∀k,Z3 l (f.add 2) (.slice K 0 0) k ->
 ∃l m n o p q r,k.cell? f=Z (G l) /\
 k.cell? (f.add 1)=Z (.slice m n o) /\
 k.cell? (f.add 2)=Z (.slice p q r) /\
 R (V (U #[JL #[G l,.slice m n o,.slice p q r],.int Y 0,.int Y 41])) k) /\
 (¬i>(J Y ((c:Int)-j)) ->
 ∃c,h.cell? (g.add 1)=Z (.int Y c) /\
 ∃i,h.cell? (g.add 1)=Z (.int Y i) /\
 ∃j,h.cell? (g.add 2)=Z (.int Y j) /\
 ((0:Int)<=(J Y (i+j))/\(J Y (i+j))<=(d:Int)) /\
 ((0:Int)<=c/\c<=(((H (J Y (i+j))):Nat):Int)) /\
 ∃k,h.cell? (g.add 1)=Z (.int Y k) /\
 ∃l,h.cell? (g.add 2)=Z (.int Y l) /\
 ∃m,h.cell? g=Z (G m) /\
 ((m=X ->
 ∃n,h.cell? (g.add 3)=Z (G n) /\
 ((n=X ->
 JB O 150 #[.slice (subO b d c.toNat 1) ((H (J Y (i+j)))-c.toNat) (d-c.toNat)] h (fun g o =>
 ∃p,g=V (G p) /\
 ((p=JT ->
 Z1 o f (G X)/\∀g,Z3 o f (G X) g ->
 Z1 g (f.add 1) (.slice K 0 0)/\∀q,Z3 g (f.add 1) (.slice K 0 0) q ->
 Z1 q (f.add 2) (.slice K 0 0)/\∀g,Z3 q (f.add 2) (.slice K 0 0) g ->
 ∃q r s t u v x,g.cell? f=Z (G q) /\
 g.cell? (f.add 1)=Z (.slice r s t) /\
 g.cell? (f.add 2)=Z (.slice u v x) /\
 R (V (U #[JL #[G q,.slice r s t,.slice u v x],.int Y 0,.int Y 40])) g) /\
 (p=X ->
 JB O 36 #[.slice (subO b d c.toNat 1) ((H (J Y (i+j)))-c.toNat) (d-c.toNat)] o (fun g o =>
 ∃p q r,g=V (.slice p q r) /\
 Z1 o f (G X)/\∀g,Z3 o f (G X) g ->
 Z1 g (f.add 1) (.slice p q r)/\∀o,Z3 g (f.add 1) (.slice p q r) o ->
 Z1 o (f.add 2) (.slice K 0 0)/\∀g,Z3 o (f.add 2) (.slice K 0 0) g ->
 ∃o p q r s t u,g.cell? f=Z (G o) /\
 g.cell? (f.add 1)=Z (.slice p q r) /\
 g.cell? (f.add 2)=Z (.slice s t u) /\
 R (V (U #[JL #[G o,.slice p q r,.slice s t u],.int Y (J Y (k+l)),.int Y 0])) g))))) /\
 (n=JT ->
 JB O 36 #[.slice (subO b d c.toNat 1) ((H (J Y (i+j)))-c.toNat) (d-c.toNat)] h (fun g n =>
 ∃o p q,g=V (.slice o p q) /\
 Z1 n f (G X)/\∀g,Z3 n f (G X) g ->
 Z1 g (f.add 1) (.slice o p q)/\∀n,Z3 g (f.add 1) (.slice o p q) n ->
 Z1 n (f.add 2) (.slice K 0 0)/\∀g,Z3 n (f.add 2) (.slice K 0 0) g ->
 ∃n o p q r s t,g.cell? f=Z (G n) /\
 g.cell? (f.add 1)=Z (.slice o p q) /\
 g.cell? (f.add 2)=Z (.slice r s t) /\
 R (V (U #[JL #[G n,.slice o p q,.slice r s t],.int Y (J Y (k+l)),.int Y 0])) g)))) /\
 (m=JT ->
 ∀g m,Z5 h 111 #[G X,.slice K 0 0,.slice K 0 0] g m ->
 Z1 m g (G JT)/\∀h,Z3 m g (G JT) h ->
 Z1 h (g.add 1) (.slice K 0 0)/\∀m,Z3 h (g.add 1) (.slice K 0 0) m ->
 Z1 m (g.add 2) (.slice K 0 0)/\∀h,Z3 m (g.add 2) (.slice K 0 0) h ->
 ∃(m:Option Addr->Nat->Nat->J5->Prop)(n:Option Addr->Nat->Nat->J5->Nat),m (subO b d c.toNat 1) ((H (J Y (i+j)))-c.toNat) (d-c.toNat) h /\
 (∀(b:Option Addr)(c:Nat)(d:Nat)(h:Nat->Ja)(h:J5),m b c d h ->
 (((c:Int)>0 ->
 JB O 136 #[J9 (Z a),.slice b c d,.int Y (J Y (e+1))] h (fun a e =>
 ∃i j o p q r s t u,a=V (U #[JL #[G i,.slice j o p,.slice q r s],.int Y t,.int Y u]) /\
 ∀a v,Z5 e 111 #[G X,.slice K 0 0,.slice K 0 0] a v ->
 Z1 v a (G i)/\∀e,Z3 v a (G i) e ->
 Z1 e (a.add 1) (.slice j o p)/\∀i,Z3 e (a.add 1) (.slice j o p) i ->
 Z1 i (a.add 2) (.slice q r s)/\∀e,Z3 i (a.add 2) (.slice q r s) e ->
 ((u≠0 ->
 Z1 e f (G X)/\∀i,Z3 e f (G X) i ->
 Z1 i (f.add 1) (.slice K 0 0)/\∀j,Z3 i (f.add 1) (.slice K 0 0) j ->
 Z1 j (f.add 2) (.slice K 0 0)/\∀i,Z3 j (f.add 2) (.slice K 0 0) i ->
 ∃j o p q r s v,i.cell? f=Z (G j) /\
 i.cell? (f.add 1)=Z (.slice o p q) /\
 i.cell? (f.add 2)=Z (.slice r s v) /\
 R (V (U #[JL #[G j,.slice o p q,.slice r s v],.int Y 0,.int Y u])) i) /\
 (u=0 ->
 ∀i,ZF e i ->
 ∃e j o,i.cell? (g.add 2)=Z (.slice e j o) /\
 ∃p q r s u v x,i.cell? a=Z (G p) /\
 i.cell? (a.add 1)=Z (.slice q r s) /\
 i.cell? (a.add 2)=Z (.slice u v x) /\
 ((0:Int)<=t/\t<=(c:Int)) /\
 ∀a y,Z5 i 111 #[G p,.slice q r s,.slice u v x] a y ->
 y.cell? (g.add 2)=Z (.slice e j o) /\
 ∃i p,Sem.run O (builtinV .append #[109,109] 109 #[.slice e j o,.slice (Z a) 1 1]) y=.ok i p /\
 ∃a e j,i=(.slice a e j) /\
 Z1 p (g.add 2) (.slice a e j)/\∀i,Z3 p (g.add 2) (.slice a e j) i ->
 m (subO b d t.toNat 1) (c-t.toNat) (d-t.toNat) i/\n (subO b d t.toNat 1) (c-t.toNat) (d-t.toNat) i<n b c d h)))) /\
 (¬(c:Int)>0 ->
 ∃a b c d e i j,h.cell? g=Z (G a) /\
 h.cell? (g.add 1)=Z (.slice b c d) /\
 h.cell? (g.add 2)=Z (.slice e i j) /\
 Z1 h f (G a)/\∀g,Z3 h f (G a) g ->
 Z1 g (f.add 1) (.slice b c d)/\∀a,Z3 g (f.add 1) (.slice b c d) a ->
 Z1 a (f.add 2) (.slice e i j)/\∀b,Z3 a (f.add 2) (.slice e i j) b ->
 ∃a c d e g h i,b.cell? f=Z (G a) /\
 b.cell? (f.add 1)=Z (.slice c d e) /\
 b.cell? (f.add 2)=Z (.slice g h i) /\
 R (V (U #[JL #[G a,.slice c d e,.slice g h i],.int Y (J Y (k+l)),.int Y 0])) b)))))))))))))))
theorem Z0d.vc(a b c d e w R)(h:Z0d.Vc a b c d e w R):JB O 136 #[(J9 (Z a)),(.slice b c d),(.int Y e)] w R:=xs [(18,[(12,.cell (.slice))])] [.addr a,.slice b c d,.int Y e] Tryz.func136 ZI (by kernel_rfl) h
abbrev Z35.n:Nat:=149
def Z35.Vc(a:Option Addr)(b c:Nat)(w:J5)(R:JZ->J5->Prop):Prop :=
 ∀d e,Z5 w 237 #[G X,.int Y 0,.int Y 0,G X,G X] d e ->
 ∃f,a=Z f /\
 ((0:Int)<=0/\0<(b:Int)) /\
 ∃g,e.cell? (f.add 0)=Z (.int JS g) /\
 ∀f h,Z5 e 3 #[.int Y 0] f h ->
 Z1 h f (.int Y (J Y g))/\∀e,Z3 h f (.int Y (J Y g)) e ->
 ∀g h,Z5 e 237 #[G X,.int Y 0,.int Y 0,G X,G X] g h ->
 Z1 h g (G X)/\∀e,Z3 h g (G X) e ->
 Z1 e (g.add 1) (.int Y 1)/\∀h,Z3 e (g.add 1) (.int Y 1) h ->
 Z1 h (g.add 2) (.int Y 0)/\∀e,Z3 h (g.add 2) (.int Y 0) e ->
 Z1 e (g.add 3) (G X)/\∀h,Z3 e (g.add 3) (G X) h ->
 Z1 h (g.add 4) (G X)/\∀e,Z3 h (g.add 4) (G X) e ->
 ∀h i,Z5 e 3 #[.int Y 0] h i ->
 Z1 i h (.int Y 0)/\∀e,Z3 i h (.int Y 0) e ->
 ∃(i:J5->Prop),(∃j,e.cell? f=Z (.int Y j) /\
 ((j<128 ->
 Z1 e d (G X)/\∀k,Z3 e d (G X) k ->
 Z1 k (d.add 1) (.int Y 0)/\∀l,Z3 k (d.add 1) (.int Y 0) l ->
 Z1 l (d.add 2) (.int Y 1)/\∀k,Z3 l (d.add 2) (.int Y 1) k ->
 Z1 k (d.add 3) (G JT)/\∀l,Z3 k (d.add 3) (G JT) l ->
 Z1 l (d.add 4) (G X)/\∀k,Z3 l (d.add 4) (G X) k ->
 ∃l m n o p,k.cell? d=Z (G l) /\
 k.cell? (d.add 1)=Z (.int Y m) /\
 k.cell? (d.add 2)=Z (.int Y n) /\
 k.cell? (d.add 3)=Z (G o) /\
 k.cell? (d.add 4)=Z (G p) /\
 R (V (U #[JL #[G l,.int Y m,.int Y n,G o,G p],.int Y 0])) k) /\
 (¬j<128 ->
 ∃j,e.cell? f=Z (.int Y j) /\
 ((j>=192 ->
 Z1 e g (G JT)/\∀k,Z3 e g (G JT) k ->
 JB O 159 #[.int Y 192,J9 (Z f),J9 (Z h),J9 (Z g)] k (fun k l =>
 k=V (U #[]) /\
 i  l)) /\
 (¬j>=192 ->
 JB O 159 #[.int Y 128,J9 (Z f),J9 (Z h),J9 (Z g)] e (fun e f =>
 e=V (U #[]) /\
 i  f)))))) /\
 (∀  (e:Nat->Ja)(e:J5),i  e ->
 ∃f,e.cell? h=Z (.int Y f) /\
 ((f=0 ->
 ∃i j k l m,e.cell? g=Z (G i) /\
 e.cell? (g.add 1)=Z (.int Y j) /\
 e.cell? (g.add 2)=Z (.int Y k) /\
 e.cell? (g.add 3)=Z (G l) /\
 e.cell? (g.add 4)=Z (G m) /\
 Z1 e d (G i)/\∀n,Z3 e d (G i) n ->
 Z1 n (d.add 1) (.int Y j)/\∀i,Z3 n (d.add 1) (.int Y j) i ->
 Z1 i (d.add 2) (.int Y k)/\∀j,Z3 i (d.add 2) (.int Y k) j ->
 Z1 j (d.add 3) (G l)/\∀i,Z3 j (d.add 3) (G l) i ->
 Z1 i (d.add 4) (G m)/\∀j,Z3 i (d.add 4) (G m) j ->
 ∃i k l m n,j.cell? d=Z (G i) /\
 j.cell? (d.add 1)=Z (.int Y k) /\
 j.cell? (d.add 2)=Z (.int Y l) /\
 j.cell? (d.add 3)=Z (G m) /\
 j.cell? (d.add 4)=Z (G n) /\
 R (V (U #[JL #[G i,.int Y k,.int Y l,G m,G n],.int Y 0])) j) /\
 (f≠0 ->
 ∃f,e.cell? h=Z (.int Y f) /\
 (((b:Int)<(J Y (1+f)) ->
 ∃i j k l m,e.cell? g=Z (G i) /\
 e.cell? (g.add 1)=Z (.int Y j) /\
 e.cell? (g.add 2)=Z (.int Y k) /\
 e.cell? (g.add 3)=Z (G l) /\
 e.cell? (g.add 4)=Z (G m) /\
 Z1 e d (G i)/\∀n,Z3 e d (G i) n ->
 Z1 n (d.add 1) (.int Y j)/\∀i,Z3 n (d.add 1) (.int Y j) i ->
 Z1 i (d.add 2) (.int Y k)/\∀j,Z3 i (d.add 2) (.int Y k) j ->
 Z1 j (d.add 3) (G l)/\∀i,Z3 j (d.add 3) (G l) i ->
 Z1 i (d.add 4) (G m)/\∀j,Z3 i (d.add 4) (G m) j ->
 ∃i k l m n,j.cell? d=Z (G i) /\
 j.cell? (d.add 1)=Z (.int Y k) /\
 j.cell? (d.add 2)=Z (.int Y l) /\
 j.cell? (d.add 3)=Z (G m) /\
 j.cell? (d.add 4)=Z (G n) /\
 R (V (U #[JL #[G i,.int Y k,.int Y l,G m,G n],.int Y 41])) j) /\
 (¬(b:Int)<(J Y (1+f)) ->
 ∃f,e.cell? h=Z (.int Y f) /\
 ((0:Int)<=(J Y (1+f))/\(J Y (1+f))<=(c:Int)) /\
 1<=(H (J Y (1+f))) /\
 ∃(i:Int->Int->J5->Prop)(j:Int->Int->J5->Nat),i 0 0 e /\
 (∀(e:Int)(k:Int)(l:Nat->Ja)(l:J5),i e k l ->
 ((k<((((H (J Y (1+f)))-1):Nat):Int) ->
 ∃m,(subO a c 1 1)=Z m /\
 ((0:Int)<=k/\k<((((H (J Y (1+f)))-1):Nat):Int)) /\
 ∃c,l.cell? (m.add k.toNat)=Z (.int JS c) /\
 i (bitsI .or Jg (J Jg (e*256)) (J Jg c)) (J Y (k+1)) l/\j (bitsI .or Jg (J Jg (e*256)) (J Jg c)) (J Y (k+1)) l<j e k l) /\
 (¬k<((((H (J Y (1+f)))-1):Nat):Int) ->
 ∃c,a=Z c /\
 ((0:Int)<=1/\1<(b:Int)) /\
 ∃a,l.cell? (c.add 1)=Z (.int JS a) /\
 ((a=0 ->
 ∃b c f i j,l.cell? g=Z (G b) /\
 l.cell? (g.add 1)=Z (.int Y c) /\
 l.cell? (g.add 2)=Z (.int Y f) /\
 l.cell? (g.add 3)=Z (G i) /\
 l.cell? (g.add 4)=Z (G j) /\
 Z1 l d (G b)/\∀k,Z3 l d (G b) k ->
 Z1 k (d.add 1) (.int Y c)/\∀b,Z3 k (d.add 1) (.int Y c) b ->
 Z1 b (d.add 2) (.int Y f)/\∀c,Z3 b (d.add 2) (.int Y f) c ->
 Z1 c (d.add 3) (G i)/\∀b,Z3 c (d.add 3) (G i) b ->
 Z1 b (d.add 4) (G j)/\∀c,Z3 b (d.add 4) (G j) c ->
 ∃b f i j k,c.cell? d=Z (G b) /\
 c.cell? (d.add 1)=Z (.int Y f) /\
 c.cell? (d.add 2)=Z (.int Y i) /\
 c.cell? (d.add 3)=Z (G j) /\
 c.cell? (d.add 4)=Z (G k) /\
 R (V (U #[JL #[G b,.int Y f,.int Y i,G j,G k],.int Y 40])) c) /\
 (a≠0 ->
 ((e<=55 ->
 ∃a b c f i,l.cell? g=Z (G a) /\
 l.cell? (g.add 1)=Z (.int Y b) /\
 l.cell? (g.add 2)=Z (.int Y c) /\
 l.cell? (g.add 3)=Z (G f) /\
 l.cell? (g.add 4)=Z (G i) /\
 Z1 l d (G a)/\∀j,Z3 l d (G a) j ->
 Z1 j (d.add 1) (.int Y b)/\∀a,Z3 j (d.add 1) (.int Y b) a ->
 Z1 a (d.add 2) (.int Y c)/\∀b,Z3 a (d.add 2) (.int Y c) b ->
 Z1 b (d.add 3) (G f)/\∀a,Z3 b (d.add 3) (G f) a ->
 Z1 a (d.add 4) (G i)/\∀b,Z3 a (d.add 4) (G i) b ->
 ∃a c f i j,b.cell? d=Z (G a) /\
 b.cell? (d.add 1)=Z (.int Y c) /\
 b.cell? (d.add 2)=Z (.int Y f) /\
 b.cell? (d.add 3)=Z (G i) /\
 b.cell? (d.add 4)=Z (G j) /\
 R (V (U #[JL #[G a,.int Y c,.int Y f,G i,G j],.int Y 40])) b) /\
 (¬e<=55 ->
 ((e>2147483648 ->
 ∃a b c f i,l.cell? g=Z (G a) /\
 l.cell? (g.add 1)=Z (.int Y b) /\
 l.cell? (g.add 2)=Z (.int Y c) /\
 l.cell? (g.add 3)=Z (G f) /\
 l.cell? (g.add 4)=Z (G i) /\
 Z1 l d (G a)/\∀j,Z3 l d (G a) j ->
 Z1 j (d.add 1) (.int Y b)/\∀a,Z3 j (d.add 1) (.int Y b) a ->
 Z1 a (d.add 2) (.int Y c)/\∀b,Z3 a (d.add 2) (.int Y c) b ->
 Z1 b (d.add 3) (G f)/\∀a,Z3 b (d.add 3) (G f) a ->
 Z1 a (d.add 4) (G i)/\∀b,Z3 a (d.add 4) (G i) b ->
 ∃a c f i j,b.cell? d=Z (G a) /\
 b.cell? (d.add 1)=Z (.int Y c) /\
 b.cell? (d.add 2)=Z (.int Y f) /\
 b.cell? (d.add 3)=Z (G i) /\
 b.cell? (d.add 4)=Z (G j) /\
 R (V (U #[JL #[G a,.int Y c,.int Y f,G i,G j],.int Y 40])) b) /\
 (¬e>2147483648 ->
 ∃a,l.cell? h=Z (.int Y a) /\
 Z1 l (g.add 1) (.int Y (J Y (1+a)))/\∀b,Z3 l (g.add 1) (.int Y (J Y (1+a))) b ->
 Z1 b (g.add 2) (.int Y (J Y e))/\∀a,Z3 b (g.add 2) (.int Y (J Y e)) a ->
 ∃b c e f h,a.cell? g=Z (G b) /\
 a.cell? (g.add 1)=Z (.int Y c) /\
 a.cell? (g.add 2)=Z (.int Y e) /\
 a.cell? (g.add 3)=Z (G f) /\
 a.cell? (g.add 4)=Z (G h) /\
 Z1 a d (G b)/\∀g,Z3 a d (G b) g ->
 Z1 g (d.add 1) (.int Y c)/\∀a,Z3 g (d.add 1) (.int Y c) a ->
 Z1 a (d.add 2) (.int Y e)/\∀b,Z3 a (d.add 2) (.int Y e) b ->
 Z1 b (d.add 3) (G f)/\∀a,Z3 b (d.add 3) (G f) a ->
 Z1 a (d.add 4) (G h)/\∀b,Z3 a (d.add 4) (G h) b ->
 ∃a c e f g,b.cell? d=Z (G a) /\
 b.cell? (d.add 1)=Z (.int Y c) /\
 b.cell? (d.add 2)=Z (.int Y e) /\
 b.cell? (d.add 3)=Z (G f) /\
 b.cell? (d.add 4)=Z (G g) /\
 R (V (U #[JL #[G a,.int Y c,.int Y e,G f,G g],.int Y 0])) b))))))))))))))
theorem Z35.vc(a b c w R)(h:Z35.Vc a b c w R):JB O 149 #[(.slice a b c)] w R:=xs [(1000011,[]),(17,[(8,.cell (.int Jg)),(43,.cell (.int Y))])] [.slice a b c] Tryz.func149 ZI (by kernel_rfl) h
abbrev Z1s.n:Nat:=159
def Z1s.Vc(a:Int)(b c d:Addr)(w:J5)(R:JZ->J5->Prop):Prop :=
 ∃e,w.cell? b=Z (.int Y e) /\
 Z1 w c (.int Y (max (J Y ((J Y (e-a))-55)) 0))/\∀f,Z3 w c (.int Y (max (J Y ((J Y (e-a))-55)) 0)) f ->
 ∃c,f.cell? b=Z (.int Y c) /\
 Z1 f (d.add 2) (.int Y (J Y (c-a)))/\∀b,Z3 f (d.add 2) (.int Y (J Y (c-a))) b ->
 R (V (U #[])) b
theorem Z1s.vc(a b c d w R)(h:Z1s.Vc a b c d w R):JB O 159 #[(.int Y a),(J9 (Z b)),(J9 (Z c)),(J9 (Z d))] w R:=xs [] [.int Y a,.addr b,.addr c,.addr d] Tryz.func159 ZI (by kernel_rfl) h
end Go.Proofs.YtfghidehlnfdiaaGreat
end
