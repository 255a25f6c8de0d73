/- Contracts: moraineref4.First, Decode. -/
/- Contracts: moraineref4.Of. What an item is: plain Lean. -/
/- The verification conditions of some functions, printed by a program of ours (wip/PrintVc.lean). -/
/- What item is a node: plain Lean; and the nodes that the trie makes of items. -/
/- Contracts: trie.branched, noded, decoded, Check. -/
/- The verification conditions of some functions, printed by a program of ours (wip/PrintVc.lean). -/
/- Contracts: the reference's is and ref (moraineref14). -/
/- Contracts: trie.decoded, Check, Children. -/
/- The hashes that a node's item refers to; rows of hashes. -/
/- Ways from a root down to a key, through nodes that are told by their hashes: plain Lean. -/
import Derived.Test.YtfghidehlnfdiaaGreatDD5
import Derived.Test.YtfghidehlnfdiaaGreatProg
import Derived.KernelRfl
set_option linter.unusedVariables false
set_option linter.unusedSimpArgs false
open Bool renaming and_eq_true->JE,and_self->JP,eq_iff_iff->JK,false->Y,false_and->JN,true->E,true_and->JI
open Except renaming error->JB,ok->JV
open Go renaming Calls->J2,Ending->JM,Value->JH,World->T
open Go.Ending renaming returned->G
open Go.IntKind renaming i64->J1,wrap->Q
open Go.Obj renaming cells->P
open Go.Proofs.Tryz renaming prog->V
open Go.Value renaming iface->JD,nilIface->J,pointer->J7,tuple->K
open Int renaming toNat_natCast->W
open List renaming all_append->JG,all_cons->JO,all_eq_false->JT,all_nil->JU,drop_suffix->J8,eq_nil_of_length_eq_zero->C,filter_append->JA,getElem_mem->J4,length_append->U,length_cons->J3,length_drop->J5,length_filter_le->JL,length_take->JJ,mem_take_iff_getElem->J9,take_succ_eq_append_getElem->J6
open Nat renaming le_refl->I,le_trans->JS,zero_add->JC,zero_le->JF
open Option renaming none->J0,some->O
open Or renaming inl->JQ,inr->JR
section
namespace Go.Proofs.YtfghidehlnfdiaaGreat
open Go Go.Vcg Go.Trie
theorem ZFv(B:By):sg B 0 B.length=B:=by simp[sg]
theorem Z9n{w:T}{o:Option Addr}{k:Nat}{bs:By}(hr:RdB w o bs)(hk:bs.length<=k) :
  J2 V Z0P.n #[.slice o bs.length k] w (fun e w'=>Vcg.Mod NoB w w'/\Z2n bs w e w'):=by
 refine Z9 fun R hR=>Z0P.vc _ _ _ _ _ ?_;unfold Z0P.Vc;rintro d1 w1⟨rfl,rfl⟩;have M1:Vcg.Mod NoB w _:=Mod.alloc w (P #[.bool Y,.slice J0 0 0,.slice J0 0 0] 111);have X1:=Blk.new w 111 #[.bool Y,.slice J0 0 0,.slice J0 0 0];have hs1:=Z6 w (P #[.bool Y,.slice J0 0 0,.slice J0 0 0] 111);have hr1:=hr.mod' M1;generalize hN:w.heap.size=N at *
 generalize w.alloc (P #[.bool Y,.slice J0 0 0,.slice J0 0 0] 111)=w1 at *
 refine⟨fun hbig=>?_,fun hbig=>?_⟩
 ·refine Z0z X1 (fun w2 M2=>hR _ _ ⟨ZC M1 M2 (by omega),?_⟩)
  unfold Z2n;rw[if_pos (by omega)];exact⟨_,_,_,_,_,_,_,_,rfl⟩
 ·rintro d2 w2⟨rfl,rfl⟩
  have M12:Vcg.Mod NoB w1 _:=Mod.alloc w1 (P #[.slice o bs.length k,.int J1 0,.int J1 0] 187);have W2:=Blk.new w1 187 #[.slice o bs.length k,.int J1 ((0:Nat):Int),.int J1 0];have X2:=X1.mod' M12;have hr2:=hr1.mod' M12;have M2:=M1.none_trans M12;have hs2:=Z6 w1 (P #[.slice o bs.length k,.int J1 0,.int J1 0] 187)
  have hoff:bs≠[]->Off (·=w1.heap.size) o:=fun hne e he h=>by
   obtain⟨b,f,ho,hb,_⟩:=hr hne;rw[ho]at he;cases he;simp only at h;omega
  have hc:=Z7n (2*bs.length+1) 1 0 0 bs.length bs (k:=k) (by omega) (JF _) (I _) (by omega) hr2 hk W2 hoff (by omega) (by omega);rw[ZFv]at hc;refine Calls.mono (R:=fun e w'=>Vcg.Mod (·=w1.heap.size) (w1.alloc (P #[.slice o bs.length k,.int J1 0,.int J1 0] 187)) w'/\RdIs (dcd (2*bs.length+1) 1 0 bs) (.slice o bs.length k) 0 (w1.alloc (P #[.slice o bs.length k,.int J1 0,.int J1 0] 187)) w1.heap.size e w') hc ?_;rintro e w3⟨M3,hd⟩;have M03:Vcg.Mod NoB w w3:=ZC M2 M3 (by omega);have X3:=X2.mod M3 (by omega);have hs3:=M3.size;generalize hD:w1.heap.size=D at *
  have key:∃(y:It)(v1 v2 v3:JH)(nx:Int)(m':Nat)(x:Int),e=G (K #[.agg #[v1,v2,v3],.int J1 nx])/\ItC (fun b=>b<D) w3 y v1 v2 v3/\Blk w3 D 187 #[.slice o bs.length k,.int J1 (m':Int),.int J1 x] /\
    ((x≠0/\dcd (2*bs.length+1) 1 0 bs=JB x)\/(x=0/\∃q,dcd (2*bs.length+1) 1 0 bs=JV (y,q,m')/\nx=(q:Int))):=by
   cases hdc:dcd (2*bs.length+1) 1 0 bs with
   |error x =>
    rw[hdc]at hd;obtain⟨hx0,rfl,m',W3⟩:=hd;exact⟨.s [],_,_,_,_,m',x,rfl,Z9Z _ _,W3,JQ ⟨hx0,rfl⟩⟩
   |ok r =>
    obtain⟨y,q,m⟩:=r;rw[hdc]at hd;obtain⟨W3,v1,v2,v3,rfl,hy⟩:=hd;refine⟨y,v1,v2,v3,_,m,0,rfl,ItC.mono (fun b hb=>?_) _ hy,W3,JR ⟨rfl,q,rfl,by rw[JC]⟩⟩;show b<_;rw[hs2];have hb':b<D:=hb;omega
  obtain⟨y,v1,v2,v3,nx,m',x,rfl,hy,W3,hout⟩:=key;clear hd hc;obtain⟨bb,p1,q1,r1,p2,q2,r2,rfl,rfl,rfl⟩:=hy.vals;refine⟨_,_,_,_,_,_,_,_,rfl,?_⟩;rintro d4 w4⟨rfl,rfl⟩;have H:=Blk.new w3 111 #[.bool Y,.slice J0 0 0,.slice J0 0 0];have M34:Vcg.Mod NoB w3 _:=Mod.alloc w3 (P #[.bool Y,.slice J0 0 0,.slice J0 0 0] 111);refine Z65 H rfl rfl rfl (fun w5 H5 Q5=>?_);have M35:Vcg.Mod NoB w3 w5:=ZC M34 Q5 (I _);have X5:=X3.mod' M35;have W5:=W3.mod' M35;have hy5:=ItC.mod M35 _ hy;have M05:=M03.none_trans M35;have hs5:=M35.size;clear H M34 Q5 X3 W3 hy M03 M35;refine⟨x,by rw[Z2];exact W5.rd1 rfl,fun hx0=>?_,fun hx0=>?_⟩
  ·rcases hout with⟨_,hdc⟩|⟨h,_⟩
   ·rintro _ rfl
    have M6:Vcg.Mod NoB w5 w5.drew:=Mod.drew w5;have W6:=W5.mod' M6;have X6:=X5.mod' M6;have M06:=M05.none_trans M6;generalize w5.drew=w6 at *
    refine⟨x,by rw[Z2];exact W6.rd1 rfl,Z65 X6 rfl rfl rfl (fun w7 X7 Q7=>⟨by rw[Z2];exact(W6.mod Q7 (by omega)).rd1 rfl,Z6i X7 (hR _ _ ⟨ZC M06 Q7 (by omega),?_⟩)⟩)⟩;unfold Z2n;rw[if_neg (by omega),hdc];exact⟨hx0,_,_,_,_,_,_,_,_,rfl⟩
   ·exact(hx0 h).elim
  ·rcases hout with⟨h,_⟩|⟨_,q,hdc,rfl⟩
   ·exact(h hx0).elim
   ·refine Z6i H5 (Z0z X5 (fun w7 Q7=>hR _ _ ⟨ZC M05 Q7 (by omega),?_⟩))
    unfold Z2n;rw[if_neg (by omega),hdc];refine⟨_,_,_,rfl,ItC.mono (fun b hb=>?_) _ (ItC.modA Q7 (fun b hb=>?_) _ hy5)⟩
    ·have hb':b<w.heap.size:=hb
     show b<D;omega
    ·show b<D
     omega
theorem Z3N{w:T}{o:Option Addr}{k:Nat}{bs:By}(hr:RdB w o bs)(hk:bs.length<=k) :
  J2 V Z06.n #[.slice o bs.length k] w (fun e w'=>Vcg.Mod NoB w w'/\Z1c bs w e w'):=by
 refine Z9 fun R hR=>Z06.vc _ _ _ _ _ ?_;unfold Z06.Vc;rintro d1 w1⟨rfl,rfl⟩;have M1:Vcg.Mod NoB w _:=Mod.alloc w (P #[.bool Y,.slice J0 0 0,.slice J0 0 0] 111);have X1:=Blk.new w 111 #[.bool Y,.slice J0 0 0,.slice J0 0 0];have hs1:=Z6 w (P #[.bool Y,.slice J0 0 0,.slice J0 0 0] 111);have hr1:=hr.mod' M1;generalize hN:w.heap.size=N at *
 generalize w.alloc (P #[.bool Y,.slice J0 0 0,.slice J0 0 0] 111)=w1 at *
 refine(Z9n hr1 hk).mono ?_;rintro e w2⟨M2,hf⟩;have M02:=M1.none_trans M2;have X2:=X1.mod' M2;have hs2:=M2.size
 have bad:∀(w':T)(x:Int),Z4Q bs=JB x->x≠0->Vcg.Mod NoB w w'->Blk w' N 111 #[.bool Y,.slice J0 0 0,.slice J0 0 0]->∀w'':T,Vcg.Mod (·=N) w' w''->R (G (K #[.agg #[.bool Y,.slice J0 0 0,.slice J0 0 0],.int J1 x])) w'':=by
  intro w' x hx h0 M X w'' M';refine hR _ _ ⟨ZC M M' (by omega),?_⟩;unfold Z1c;rw[hx];exact⟨h0,_,_,_,_,_,_,_,rfl⟩
 have key:(∃b p1 q1 r1 p2 q2 r2 n1 x,e=G (K #[.agg #[.bool b,.slice p1 q1 r1,.slice p2 q2 r2],.int J1 n1,.int J1 x])/\x≠0/\Z4Q bs=JB x) \/
   (∃y q m v1 v2 v3,¬bs.length>65536/\dcd (2*bs.length+1) 1 0 bs=JV (y,q,m)/\e=G (K #[.agg #[v1,v2,v3],.int J1 (q:Int),.int J1 0])/\ItC (fun b=>b<w1.heap.size) w2 y v1 v2 v3):=by
  unfold Z2n at hf;split at hf
  ·rename_i hbig
   obtain⟨b,p1,q1,r1,p2,q2,r2,n1,he⟩:=hf;exact JQ ⟨_,_,_,_,_,_,_,_,_,he,by decide,by unfold Z4Q;rw[if_pos hbig]⟩
  ·rename_i hbig
   split at hf
   ·rename_i x hdc
    obtain⟨hx,b,p1,q1,r1,p2,q2,r2,n1,he⟩:=hf;exact JQ ⟨_,_,_,_,_,_,_,_,_,he,hx,by unfold Z4Q;rw[if_neg hbig,hdc]⟩
   ·rename_i y q m hdc
    obtain⟨v1,v2,v3,he,hy⟩:=hf;exact JR ⟨_,_,_,_,_,_,hbig,hdc,he,hy⟩
 rcases key with⟨b,p1,q1,r1,p2,q2,r2,n1,x,rfl,hx,hdc⟩|⟨y,q,m,v1,v2,v3,hbig,hdc,rfl,hy⟩
 ·refine⟨_,_,_,_,_,_,_,_,_,rfl,?_⟩
  rintro d3 w3⟨rfl,rfl⟩;have H:=Blk.new w2 111 #[.bool Y,.slice J0 0 0,.slice J0 0 0];have M23:Vcg.Mod NoB w2 _:=Mod.alloc w2 (P #[.bool Y,.slice J0 0 0,.slice J0 0 0] 111);refine Z65 H rfl rfl rfl (fun w4 H4 Q4=>?_);have M24:Vcg.Mod NoB w2 w4:=ZC M23 Q4 (I _);exact⟨fun h=>(hx h).elim,fun _=>⟨fun _=>Z0z (X2.mod' M24) (bad w4 x hdc hx (M02.none_trans M24) (X2.mod' M24)),fun h=>(hx h).elim⟩⟩
 ·obtain⟨bb,p1,q1,r1,p2,q2,r2,rfl,rfl,rfl⟩:=hy.vals
  refine⟨_,_,_,_,_,_,_,_,_,rfl,?_⟩;rintro d3 w3⟨rfl,rfl⟩;have H:=Blk.new w2 111 #[.bool Y,.slice J0 0 0,.slice J0 0 0];have M23:Vcg.Mod NoB w2 _:=Mod.alloc w2 (P #[.bool Y,.slice J0 0 0,.slice J0 0 0] 111);refine Z65 H rfl rfl rfl (fun w4 H4 Q4=>?_);have M24:Vcg.Mod NoB w2 w4:=ZC M23 Q4 (I _);have X4:=X2.mod' M24;have hy4:=ItC.mod M24 _ hy;refine⟨fun _=>⟨fun hlt=>?_,fun hlt=>⟨fun h=>(h rfl).elim,fun _=>?_⟩⟩,fun h=>(h rfl).elim⟩
  ·refine Z0z X4 (bad w4 42 ?_ (by decide) (M02.none_trans M24) X4)
   unfold Z4Q;rw[if_neg hbig,hdc];simp only;rw[if_pos (by omega)]
  ·refine Z6i H4 (Z0z X4 (fun w5 M5=>hR _ _ ⟨ZC (M02.none_trans M24) M5 (by omega),?_⟩))
   have hd:Z4Q bs=JV y:=by
    unfold Z4Q;rw[if_neg hbig,hdc];simp only;rw[if_neg (by omega)]
   unfold Z1c;rw[hd];refine⟨_,_,_,rfl,ItC.mono (fun b hb=>?_) _ (ItC.modA M5 (fun b hb=>?_) _ hy4)⟩
   ·have:b<w.heap.size:=hb
    show b<w1.heap.size;omega
   ·show b<w1.heap.size
    omega
theorem ZCo(xs:List It){j:Nat}(hj:j<xs.length):Z1O (xs.take (j+1))=Z1O (xs.take j)++enc xs[j]:=by
 rw[J6 hj,encs_append];simp[Z1O]
theorem Z8x:∀(f:Nat) (x:It) {A:Nat->Prop} {w0 w:T} {b:Bool} {o1:Option Addr} {l1 c1:Nat} {o2:Option Addr} {l2 c2:Nat},dep x<=f->ItC A w0 x (.bool b) (.slice o1 l1 c1) (.slice o2 l2 c2)->Vcg.Mod NoB w0 w->(enc x).length<=65536 ->
  J2 V Z0u.n #[.agg #[.bool b,.slice o1 l1 c1,.slice o2 l2 c2]] w (fun e w'=>∃o' k',e=G (.slice o' (enc x).length k')/\ZM w w' tU8 1 o' (enc x).length k' ((enc x).map bV))
 |0,x,_,_,_,_,_,_,_,_,_,_,hd,_,_,_=>absurd (ZAP x) (by omega)
 |f+1,x,A,w0,w,b,o1,l1,c1,o2,l2,c2,hd,h,M,hl=>by
  refine Z9 fun R hR=>Z0u.vc _ _ _ _ _ _ _ _ _ ?_;unfold Z0u.Vc;rintro d3 w1⟨rfl,rfl⟩;have M1:Vcg.Mod NoB w _:=Mod.alloc w (P #[.bool b,.slice o1 l1 c1,.slice o2 l2 c2] 111);have X1:=Blk.new w 111 #[.bool b,.slice o1 l1 c1,.slice o2 l2 c2];have hs1:=Z6 w (P #[.bool b,.slice o1 l1 c1,.slice o2 l2 c2] 111);generalize hN:w.heap.size=N at *
  generalize w.alloc (P #[.bool b,.slice o1 l1 c1,.slice o2 l2 c2] 111)=w1 at *
  have M01:=M.none_trans M1;have from1:∀{w2:T}{o:Option Addr}{l k:Nat}{vs:List JH},ZM w1 w2 tU8 1 o l k vs->ZM w w2 tU8 1 o l k vs:=fun F=>⟨F.own,M1.none_trans F.mod,fun k hk=>by have:=F.new k hk;omega⟩;cases x with
  |s bs =>
   simp only[ItC]at h;obtain⟨h1,⟨o,c,h2,h3,h4⟩,h5⟩:=h;cases h1;cases h2;cases h5
   have hbl:bs.length<2^30:=by
    have:bs.length<=(enc (.s bs)).length:=by
     simp only[enc];split
     ·exact I _
     ·rw[U];omega
    omega
   refine⟨_,X1.rd1 rfl,fun _=>⟨_,_,_,by rw[Z2];exact X1.rd1 rfl,?_⟩,fun hb=>(by cases hb)⟩;refine(Z5t (h3.mod' M01) hbl).mono ?_;rintro _ w2⟨o',k',rfl,F⟩;exact⟨_,_,_,rfl,hR _ _ ⟨o',k',rfl,from1 F⟩⟩
  |l xs =>
   simp only[ItC]at h;obtain⟨h1,h2,o,c,h3,h4,_⟩:=h;cases h1;cases h2;cases h3
   have hel:(Z1O xs).length<=65536:=by
    simp only[enc,U]at hl;omega
   refine⟨_,X1.rd1 rfl,fun hb=>(by cases hb),fun _=>?_⟩;refine⟨fun o' l' k' i w'=>∃j:Nat,i=(j:Int)/\j<=xs.length/\l'=(Z1O (xs.take j)).length/\ZM w1 w' tU8 1 o' l' k' ((Z1O (xs.take j)).map bV),fun _ _ _ i _=>((xs.length:Int)-i).toNat,⟨0,rfl,JF _,rfl,ZM.nil (Mod.refl w1) _ _⟩,?_⟩;rintro o4 _ k4 _ _ w4⟨j,rfl,hj,rfl,F4⟩;have X4:=X1.mod' F4.mod;have hlen:=Z5M xs;have hc:=Z8L xs;refine⟨_,_,_,by rw[Z2];exact X4.rd1 rfl,fun hlt=>⟨fun hle=>?_,fun hgt=>?_⟩,fun hge=>?_⟩
   ·have hjl:j<xs.length:=by omega
    have M04:=M01.none_trans F4.mod;obtain⟨g,f0,v1,v2,v3,ho,hg,e1,e2,e3,hi⟩:=(Z1I.mod M04 _ h4).get j hjl;obtain⟨bb,p1,q1,r1,p2,q2,r2,rfl,rfl,rfl⟩:=hi.vals;rw[JC]at e1 e2 e3
    have hdj:dep xs[j]<=f:=by
     have:=Z5N (J4 hjl);simp only[dep]at hd;omega
    have hej:=ZCo xs hjl;have hle2:=Z1T xs (j+1);rw[hej,U]at hle2;refine⟨_,_,_,by rw[Z2];exact X4.rd1 rfl,_,ho,⟨by omega,by omega⟩,_,_,_,_,_,_,_,by rw[Z2,W];exact e1,by rw[Z2,Z2,W];exact e2,by rw[Z2,Z2,W];exact e3,?_⟩;refine(Z8x f xs[j] hdj hi (Mod.refl w4) (by omega)).mono ?_;rintro _ w5⟨o5,k5,rfl,F5⟩;obtain⟨o6,k6,w6,hr6,F6⟩:=ZW (k2:=k5) (ty:=23) (F4.mod' F5.mod) F5.own.bytes (by omega);have ew:Q J1 ((j:Int)+1)=((j+1:Nat):Int):=by rw[Z0 (by omega) (by omega)];omega
    rw[ew];rw[<-hej]at F6;refine⟨_,_,_,rfl,_,w6,hr6,_,_,_,rfl,⟨j+1,rfl,hjl,?_,?_⟩,by dsimp only;omega⟩
    ·rw[hej,U]
    ·exact F6
   ·have:=Z1T xs j
    omega
   ·obtain rfl:j=xs.length:=by omega
    rw[List.take_length]at F4 ⊢;refine(Z3O F4.own.bytes (by omega)).mono ?_;rintro _ w5⟨o5,k5,rfl,F5⟩;refine⟨_,_,_,rfl,hR _ _ ⟨o5,k5,?_,?_⟩⟩
    ·simp only[enc]
    ·simp only[enc]
     exact from1 ⟨F5.own,F4.mod.none_trans F5.mod,fun k hk=>JS F4.mod.size (F5.new k hk)⟩
end Go.Proofs.YtfghidehlnfdiaaGreat
end
section
namespace Go.Proofs.YtfghidehlnfdiaaGreat
open Go Go.Vcg
abbrev Z1a.n:Nat:=121
def Z1a.Vc(a:Option Addr)(b c:Nat)(w:T)(R:JM->T->Prop):Prop :=
 J2 V 102 #[.slice a b c] w (fun a b =>
 ∃c d e f g h i j,a=G (K #[.agg #[.bool c,.slice d e f,.slice g h i],.int J1 j]) /\
 ∀a k,Z5 b 111 #[.bool Y,.slice J0 0 0,.slice J0 0 0] a k ->
 Z1 k a (.bool c)/\∀b,Z3 k a (.bool c) b ->
 Z1 b (a.add 1) (.slice d e f)/\∀c,Z3 b (a.add 1) (.slice d e f) c ->
 Z1 c (a.add 2) (.slice g h i)/\∀b,Z3 c (a.add 2) (.slice g h i) b ->
 ((j≠0 ->
 R (G (K #[J,.int J1 j])) b) /\
 (j=0 ->
 ∃c d e f g h i,b.cell? a=O (.bool c) /\
 b.cell? (a.add 1)=O (.slice d e f) /\
 b.cell? (a.add 2)=O (.slice g h i) /\
 J2 V 135 #[.agg #[.bool c,.slice d e f,.slice g h i]] b (fun a b =>
 ∃c d,a=G (K #[c,.bool d]) /\
 ((d=Y ->
 R (G (K #[J,.int J1 143])) b) /\
 (d=E ->
 R (G (K #[c,.int J1 0])) b))))))
theorem Z1a.vc(a b c w R)(h:Z1a.Vc a b c w R):J2 V 121 #[(.slice a b c)] w R:=xs [] [.slice a b c] Tryz.func121 ZI (by kernel_rfl) h
abbrev Z2Q.n:Nat:=135
def Z2Q.Vc(a:Bool)(b:Option Addr)(c d:Nat)(e:Option Addr)(f g:Nat)(w:T)(R:JM->T->Prop):Prop :=
 ∀h i,Z5 w 111 #[.bool a,.slice b c d,.slice e f g] h i ->
 ∃a,i.cell? h=O (.bool a) /\
 ((a=Y ->
 R (G (K #[J,.bool Y])) i) /\
 (a=E ->
 ∃a b c,i.cell? (h.add 2)=O (.slice a b c) /\
 (((b:Int)=2 ->
 ∀a,ZF i a ->
 ∃c d e,a.cell? (h.add 2)=O (.slice c d e) /\
 ∃e,c=O e /\
 ((0:Int)<=0/\0<(d:Int)) /\
 ∃c d f g j k l,a.cell? (e.add 0)=O (.bool c) /\
 a.cell? ((e.add 0).add 1)=O (.slice d f g) /\
 a.cell? ((e.add 0).add 2)=O (.slice j k l) /\
 ∃e m n,a.cell? (h.add 2)=O (.slice e m n) /\
 ∃n,e=O n /\
 ((0:Int)<=1/\1<(m:Int)) /\
 ∃e m o p q r s,a.cell? (n.add 3)=O (.bool e) /\
 a.cell? ((n.add 3).add 1)=O (.slice m o p) /\
 a.cell? ((n.add 3).add 2)=O (.slice q r s) /\
 J2 V 146 #[.agg #[.bool c,.slice d f g,.slice j k l],.agg #[.bool e,.slice m o p,.slice q r s]] a (fun a c =>
 ∃d e,a=G (K #[d,.bool e]) /\
 R (G (K #[d,.bool e])) c)) /\
 ((b:Int)≠2 ->
 ∃a b c,i.cell? (h.add 2)=O (.slice a b c) /\
 (((b:Int)=17 ->
 ∃a c d,i.cell? (h.add 2)=O (.slice a c d) /\
 J2 V 147 #[.slice a c d] i (fun a c =>
 ∃d e,a=G (K #[d,.bool e]) /\
 R (G (K #[d,.bool e])) c)) /\
 ((b:Int)≠17 ->
 R (G (K #[J,.bool Y])) i))))))
theorem Z2Q.vc(a b c d e f g w R)(h:Z2Q.Vc a b c d e f g w R):J2 V 135 #[(.agg #[(.bool a),(.slice b c d),(.slice e f g)])] w R:=xs [] [.agg [.bool (.var a),.slice b c d,.slice e f g]] Tryz.func135 ZI (by kernel_rfl) h
abbrev Z2R.n:Nat:=146
def Z2R.Vc(a:Bool)(b:Option Addr)(c d:Nat)(e:Option Addr)(f g:Nat)(h:Bool)(i:Option Addr)(j k:Nat)(l:Option Addr)(m n:Nat)(w:T)(R:JM->T->Prop):Prop :=
 ∀o p,Z5 w 111 #[.bool a,.slice b c d,.slice e f g] o p ->
 ∀a b,Z5 p 111 #[.bool h,.slice i j k,.slice l m n] a b ->
 ∃c,b.cell? o=O (.bool c) /\
 ((c=E ->
 R (G (K #[J,.bool Y])) b) /\
 (c=Y ->
 ∃c d e,b.cell? (o.add 1)=O (.slice c d e) /\
 J2 V 99 #[.slice c d e] b (fun b c =>
 ∃d e f g h,b=G (K #[.slice d e f,.bool g,.int J1 h]) /\
 ((h≠0 ->
 R (G (K #[J,.bool Y])) c) /\
 (h=0 ->
 ((g=E ->
 ∀b,ZF c b ->
 ∃h i j,b.cell? (a.add 1)=O (.slice h i j) /\
 ∃k,b.cell? a=O (.bool k) /\
 ((k=Y ->
 ∃l m n,b.cell? (a.add 1)=O (.slice l m n) /\
 ∀o p,Z5 b 243 #[.slice d e f,.slice h i j] o p ->
 p.cell? (a.add 1)=O (.slice l m n) /\
 p.cell? a=O (.bool k) /\
 R (G (K #[JD 241 (J7 (O o)),.bool (decide ((m:Int)>0))])) p) /\
 (k=E ->
 ∀l m,Z5 b 243 #[.slice d e f,.slice h i j] l m ->
 m.cell? a=O (.bool k) /\
 R (G (K #[JD 241 (J7 (O l)),.bool Y])) m))) /\
 (g=Y ->
 (((e:Int)=0 ->
 R (G (K #[J,.bool Y])) c) /\
 ((e:Int)≠0 ->
 ∃b g h i j k l,c.cell? a=O (.bool b) /\
 c.cell? (a.add 1)=O (.slice g h i) /\
 c.cell? (a.add 2)=O (.slice j k l) /\
 J2 V 158 #[.agg #[.bool b,.slice g h i,.slice j k l]] c (fun a b =>
 ∃c g,a=G (K #[c,.bool g]) /\
 Value.oneCell' c=E /\
 ∀a h,Z5 b 251 #[.slice d e f,c] a h ->
 R (G (K #[JD 249 (J7 (O a)),.bool g])) h))))))))))
theorem Z2R.vc(a b c d e f g i j k l m n o w R)(h:Z2R.Vc a b c d e f g i j k l m n o w R):J2 V 146 #[(.agg #[(.bool a),(.slice b c d),(.slice e f g)]),(.agg #[(.bool i),(.slice j k l),(.slice m n o)])] w R:=xs [] [.agg [.bool (.var a),.slice b c d,.slice e f g],.agg [.bool (.var i),.slice j k l,.slice m n o]] Tryz.func146 ZI (by kernel_rfl) h
abbrev Z1B.n:Nat:=147
def Z1B.Vc(a:Option Addr)(b c:Nat)(w:T)(R:JM->T->Prop):Prop :=
 ∃d,a=O d /\
 ((0:Int)<=16/\16<(b:Int)) /\
 ∃e,w.cell? (d.add 48)=O (.bool e) /\
 ((e=E ->
 R (G (K #[J,.bool Y])) w) /\
 (e=Y ->
 ∃d,a=O d /\
 ((0:Int)<=16/\16<(b:Int)) /\
 ∃b e f,w.cell? ((d.add 48).add 1)=O (.slice b e f) /\
 ∀d g,Z5 w 247 (ZY #[J,J,J,J,J,J,J,J,J,J,J,J,J,J,J,J,.slice J0 0 0] 16 [.slice b e f]) d g ->
 ∃(b:Int->T->Prop),(∃e f h,g.cell? (d.add 16)=O (.slice e f h) /\
 (((f:Int)>0 ->
 b 1 g) /\
 (¬(f:Int)>0 ->
 b 0 g))) /\
 (∀(e:Int)(f:Nat->JH)(f:T),b e f ->
 16<=c /\
 ∃(b:Int->Int->T->Prop)(c:Int->Int->T->Nat),b e 0 f /\
 (∀(e:Int)(f:Int)(g:Nat->JH)(g:T),b e f g ->
 ((f<(16:Int) ->
 ∃h,a=O h /\
 ((0:Int)<=f/\f<(16:Int)) /\
 ∃a i j k l m n,g.cell? (h.add (f.toNat*3))=O (.bool a) /\
 g.cell? ((h.add (f.toNat*3)).add 1)=O (.slice i j k) /\
 g.cell? ((h.add (f.toNat*3)).add 2)=O (.slice l m n) /\
 ∀h o,Z5 g 111 #[.bool Y,.slice J0 0 0,.slice J0 0 0] h o ->
 Z1 o h (.bool a)/\∀p,Z3 o h (.bool a) p ->
 Z1 p (h.add 1) (.slice i j k)/\∀a,Z3 p (h.add 1) (.slice i j k) a ->
 Z1 a (h.add 2) (.slice l m n)/\∀i,Z3 a (h.add 2) (.slice l m n) i ->
 ∃(a:T->Prop),(∃j,i.cell? h=O (.bool j) /\
 ((j=Y ->
 ∃k l m,i.cell? (h.add 1)=O (.slice k l m) /\
 (((l:Int)=0 ->
 b e (Q J1 (f+1)) i/\c e (Q J1 (f+1)) i<c e f g) /\
 ((l:Int)≠0 ->
 a  i))) /\
 (j=E ->
 a  i))) /\
 (∀  (i:Nat->JH)(i:T),a  i ->
 ∃a j k l m n o,i.cell? h=O (.bool a) /\
 i.cell? (h.add 1)=O (.slice j k l) /\
 i.cell? (h.add 2)=O (.slice m n o) /\
 J2 V 158 #[.agg #[.bool a,.slice j k l,.slice m n o]] i (fun a h =>
 ∃i j,a=G (K #[i,.bool j]) /\
 ((j=Y ->
 R (G (K #[J,.bool Y])) h) /\
 (j=E ->
 ((0:Int)<=f/\f<(16:Int)) /\
 Z1 h (d.add f.toNat) i/\∀a,Z3 h (d.add f.toNat) i a ->
 b (Q J1 (e+1)) (Q J1 (f+1)) a/\c (Q J1 (e+1)) (Q J1 (f+1)) a<c e f g))))) /\
 (¬f<(16:Int) ->
 R (G (K #[JD 244 (J7 (O d)),.bool (decide (e>1))])) g))))))
theorem Z1B.vc(a b c w R)(h:Z1B.Vc a b c w R):J2 V 147 #[(.slice a b c)] w R:=xs [(1000007,[(5,.cell (.int J1))]),(8,[(5,.cell (.int J1)),(31,.cell (.int J1))]),(1000011,[])] [.slice a b c] Tryz.func147 ZI (by kernel_rfl) h
abbrev Z1C.n:Nat:=158
def Z1C.Vc(a:Bool)(b:Option Addr)(c d:Nat)(e:Option Addr)(f g:Nat)(w:T)(R:JM->T->Prop):Prop :=
 ∀h i,Z5 w 111 #[.bool a,.slice b c d,.slice e f g] h i ->
 ∃a,i.cell? h=O (.bool a) /\
 ((a=Y ->
 ∃b c d,i.cell? (h.add 1)=O (.slice b c d) /\
 (((c:Int)≠32 ->
 R (G (K #[J,.bool Y])) i) /\
 ((c:Int)=32 ->
 ∃b c d,i.cell? (h.add 1)=O (.slice b c d) /\
 32<=c /\
 ∃c,b=O c /\
 ∃b,ZD i c 32 b /\
 Array.size b=32 /\
 ∀c d,Z5 i 228 (lputL (Array.replicate 32 (.int .u8 0)) 0 32 b) c d ->
 R (G (K #[JD 226 (J7 (O c)),.bool E])) d))) /\
 (a=E ->
 ∃a b c d e f g,i.cell? h=O (.bool a) /\
 i.cell? (h.add 1)=O (.slice b c d) /\
 i.cell? (h.add 2)=O (.slice e f g) /\
 J2 V 143 #[.agg #[.bool a,.slice b c d,.slice e f g]] i (fun a b =>
 ∃c d e f,a=G (K #[.slice c d e,.int J1 f]) /\
 ((f≠0 ->
 R (G (K #[J,.bool Y])) b) /\
 (f=0 ->
 (((d:Int)>=32 ->
 R (G (K #[J,.bool Y])) b) /\
 (¬(d:Int)>=32 ->
 ∃a c d e f g i,b.cell? h=O (.bool a) /\
 b.cell? (h.add 1)=O (.slice c d e) /\
 b.cell? (h.add 2)=O (.slice f g i) /\
 J2 V 135 #[.agg #[.bool a,.slice c d e,.slice f g i]] b (fun a b =>
 ∃c d,a=G (K #[c,.bool d]) /\
 R (G (K #[c,.bool d])) b))))))))
theorem Z1C.vc(a b c d e f g w R)(h:Z1C.Vc a b c d e f g w R):J2 V 158 #[(.agg #[(.bool a),(.slice b c d),(.slice e f g)])] w R:=xs [] [.agg [.bool (.var a),.slice b c d,.slice e f g]] Tryz.func158 ZI (by kernel_rfl) h
abbrev Z2O.n:Nat:=101
def Z2O.Vc(a:Option Addr)(b c:Nat)(w:T)(R:JM->T->Prop):Prop :=
 J2 V 121 #[.slice a b c] w (fun a b =>
 ∃c d,a=G (K #[c,.int J1 d]) /\
 R (G (.int J1 d)) b)
theorem Z2O.vc(a b c w R)(h:Z2O.Vc a b c w R):J2 V 101 #[(.slice a b c)] w R:=xs [] [.slice a b c] Tryz.func101 ZI (by kernel_rfl) h
end Go.Proofs.YtfghidehlnfdiaaGreat
end
section
namespace Go.Trie
def isE:It->Bool
 | .s []=>E
 |_=>Y
def ZDi:It->Bool
 | .s (_::_)=>E
 |_=>Y
end Go.Trie
end
section
namespace Go.Proofs.YtfghidehlnfdiaaGreat
open Go Go.Vcg Go.Trie
def Z0s:It->Option (By×Bool)
 | .s p=>Z1b p
 | .l _=>J0
def Z31:Nat->List It->Bool
 |0,_=>Y
 |f+1,xs =>
  let ref:It->Bool:=fun x=>match x with
   | .s b=>decide (b.length=32)
   | .l ys=>decide ((enc (.l ys)).length<32)&&Z31 f ys
  if xs.length=2 then
   match Z0s (xs.getD 0 (.s []))with
   |none=>Y
   |some (_,E)=>ZDi (xs.getD 1 (.s []))
   |some (p,Y)=>decide (p≠[])&&ref (xs.getD 1 (.s []))
  else if xs.length=17 then
   match xs.getD 16 (.s [])with
   | .l _=>Y
   | .s v=>(xs.take 16).all (fun x=>isE x||ref x)&&decide (2<=(if v=[]then 0 else 1)+((xs.take 16).filter (fun x=> !isE x)).length)
  else Y
def Z4D(f:Nat)(x:It):Bool:=match x with
 | .s b=>decide (b.length=32)
 | .l ys=>decide ((enc (.l ys)).length<32)&&Z31 f ys
def isN(f:Nat)(x:It):Bool:=match x with
 | .s _=>Y
 | .l xs=>Z31 f xs
theorem Z6s{f:Nat}{xs:List It}(h:xs.length=2):Z31 (f+1) xs=(match Z0s (xs.getD 0 (.s []))with
  |none=>Y
  |some (_,E)=>ZDi (xs.getD 1 (.s []))
  |some (p,Y)=>decide (p≠[])&&Z4D f (xs.getD 1 (.s []))):=by
 simp only[Z31];rw[if_pos h];rfl
theorem Z5W{f:Nat}{xs:List It}(h:xs.length=17):Z31 (f+1) xs=(match xs.getD 16 (.s [])with
  | .l _=>Y
  | .s v=>(xs.take 16).all (fun x=>isE x||Z4D f x)&&decide (2<=(if v=[]then 0 else 1)+((xs.take 16).filter (fun x=> !isE x)).length)):=by
 simp only[Z31];rw[if_neg (by omega),if_pos h];rfl
theorem Z8T{f:Nat}{xs:List It}(h:xs.length≠2)(h':xs.length≠17):Z31 (f+1) xs=Y:=by
 simp only[Z31];rw[if_neg h,if_neg h']
def RV(N:Nat):Nat->T->It->JH->Prop
 |_,w,.s b,v=>(b=[]/\v=J)\/(b.length=32/\∃D,N<=D/\v=JD 226 (J7 (O ⟨D,0,J0⟩))/\Blk w D 228 (hashA b))
 |0,_,.l _,_=>False
 |f+1,w,.l xs,v =>
  (xs.length=2/\(∃p,Z0s (xs.getD 0 (.s []))=O (p,E))/\∃d:Addr,v=JD 241 (J7 (O d))) \/
  (xs.length=2/\(∃p,Z0s (xs.getD 0 (.s []))=O (p,Y))/\∃D s vc,N<=D/\v=JD 249 (J7 (O ⟨D,0,J0⟩))/\Blk w D 251 #[s,vc]/\RV N f w (xs.getD 1 (.s [])) vc) \/
  (xs.length=17/\∃D vs ov lv kv,N<=D/\v=JD 244 (J7 (O ⟨D,0,J0⟩))/\Blk w D 247 (brA vs ov lv kv)/\∀i:Fin 16,RV N f w (xs.getD i.val (.s [])) (vs i))
theorem RV.modS{S:Nat->Prop}{N N':Nat}{w w':T}(M:Vcg.Mod S w w')(hS:∀b,S b->b<N)(hN:N'<=N):∀{f:Nat} {x:It} {v:JH},RV N f w x v->RV N' f w' x v
 |f,.s b,v,h=>by
  simp only[RV]at h ⊢;rcases h with h|⟨h1,D,h0,h2,h3⟩
  ·exact JQ h
  ·exact JR ⟨h1,D,by omega,h2,h3.mod M (fun h=>by have:=hS _ h;omega)⟩
 |0,.l _,_,h=>by simp only[RV]at h
 |f+1,.l xs,v,h=>by
  simp only[RV]at h ⊢;rcases h with h|⟨h1,h2,D,s,vc,h0,h3,h4,h5⟩|⟨h1,D,vs,ov,lv,kv,h0,h2,h3,h4⟩
  ·exact JQ h
  ·exact JR (JQ ⟨h1,h2,D,s,vc,by omega,h3,h4.mod M (fun h=>by have:=hS _ h;omega),RV.modS M hS hN h5⟩)
  ·exact JR (JR ⟨h1,D,vs,ov,lv,kv,by omega,h2,h3.mod M (fun h=>by have:=hS _ h;omega),fun i=>RV.modS M hS hN (h4 i)⟩)
theorem RV.mod'{N N':Nat}{w w':T}(M:Vcg.Mod NoB w w')(hN:N'<=N){f:Nat}{x:It}{v:JH}(h:RV N f w x v):RV N' f w' x v:=RV.modS M (fun _ h=>h.elim) hN h
def ZB3(x:It):Prop:=dep x<=16/\count x<=4096/\(enc x).length<=65536
theorem ZB3.mem{xs:List It}(h:ZB3 (.l xs)){x:It}(hx:x∈xs):ZB3 x:=by
 obtain⟨h1,h2,h3⟩:=h;have hd:=Z5N hx;have he:=ZCm hx
 have hc:count x<=Z0T xs:=by
  clear h1 h2 h3 hd he
  induction xs with
  |nil=>cases hx
  |cons y r ih =>
   simp only[Z0T];rcases List.mem_cons.1 hx with rfl|hx
   ·omega
   ·have:=ih hx;omega
 have hl:1<=xs.length:=List.length_pos_iff.2 (List.ne_nil_of_mem hx);simp only[dep]at h1;simp only[count]at h2;simp only[enc,U]at h3;exact⟨by omega,by omega,by omega⟩
def ZCU(f:Nat):Prop:=∀(x:It) {A:Nat->Prop} {w:T} {v1 v2 v3:JH},dep x<=f->ZB3 x->ItC A w x v1 v2 v3 ->
 J2 V Z2Q.n #[.agg #[v1,v2,v3]] w (fun e w'=>∃v,e=G (K #[v,.bool (isN f x)])/\Vcg.Mod NoB w w'/\v.oneCell'=E/\(isN f x=E->RV w.heap.size f w' x v))
def ZAC(f:Nat):Prop:=∀(x:It) {A:Nat->Prop} {w:T} {v1 v2 v3:JH},dep x<=f->ZB3 x->ItC A w x v1 v2 v3 ->
 J2 V Z1C.n #[.agg #[v1,v2,v3]] w (fun e w'=>∃v,e=G (K #[v,.bool (Z4D f x)])/\Vcg.Mod NoB w w'/\v.oneCell'=E/\(Z4D f x=E->RV w.heap.size f w' x v))
theorem ZE4{Z L:Array JH}(hZ:Z.size=32)(hL:L.size=32):lputL Z 0 32 L=L:=by
 unfold lputL;have ht:L.toList.take 32=L.toList:=List.take_of_length_le (by simp[hL]);rw[ht];apply Array.ext_getElem?;intro i;rw[Z0V _ _ _ _ (by simp[hL,hZ])];by_cases hi:i<32
 ·rw[if_pos ⟨JF _,by simp[hL];exact hi⟩,Nat.sub_zero,Array.getElem?_toList]
 ·rw[if_neg (by simp[hL];omega),Array.getElem?_eq_none (by omega),Array.getElem?_eq_none (by omega)]
theorem ZEB{f:Nat}(hN:ZCU f):ZAC f:=by
 intro x A w v1 v2 v3 hdp hf hx;obtain⟨b,o1,l1,c1,o2,l2,c2,rfl,rfl,rfl⟩:=hx.vals;refine Z9 fun R hR=>Z1C.vc _ _ _ _ _ _ _ _ _ ?_;unfold Z1C.Vc;rintro d3 w1⟨rfl,rfl⟩;have M1:Vcg.Mod NoB w _:=Mod.alloc w (P #[.bool b,.slice o1 l1 c1,.slice o2 l2 c2] 111);have X1:=Blk.new w 111 #[.bool b,.slice o1 l1 c1,.slice o2 l2 c2];generalize w.alloc (P #[.bool b,.slice o1 l1 c1,.slice o2 l2 c2] 111)=w1 at *
 have hx1:=ItC.mod M1 _ hx;cases x with
 |s bs =>
  have hx1':=hx1;simp only[ItC]at hx1;obtain⟨h1,⟨o,c,h2,h3,h4⟩,h5⟩:=hx1;cases h1;cases h2;cases h5;refine⟨_,X1.rd1 rfl,fun _=>⟨_,_,_,by rw[Z2];exact X1.rd1 rfl,fun hn=>?_,fun hn=>⟨_,_,_,by rw[Z2];exact X1.rd1 rfl,by omega,?_⟩⟩,fun h=>(by cases h)⟩
  ·refine hR _ _ ⟨J,?_,M1,rfl,fun h=>?_⟩
   ·simp only[Z4D];rw[decide_eq_false (by omega)]
   ·simp only[Z4D,decide_eq_true_eq]at h;omega
  ·obtain⟨g,f0,rfl,hg,hc⟩:=h3 (by rintro rfl;simp at hn)
   refine⟨_,rfl,hashA bs,⟨Z4 bs,fun i hi=>?_⟩,Z4 bs,?_⟩
   ·rw[Z2,hc i (by omega)]
    simp only[hashA];exact(Z8 (f:=fun i=>bV (bs.getD i 0)) hi).symm
   ·rw[ZE4 (by simp) (Z4 bs)]
    rintro d4 w2⟨rfl,rfl⟩;refine hR _ _ ⟨JD 226 (J7 (O ⟨w1.heap.size,0,J0⟩)),?_,M1.step_alloc _,rfl,fun _=>?_⟩
    ·simp only[Z4D];rw[decide_eq_true (by omega)]
    ·simp only[RV]
     exact JR ⟨by omega,_,M1.size,rfl,Blk.new w1 228 (hashA bs)⟩
 |l xs =>
  have hx1':=hx1;simp only[ItC]at hx1;obtain⟨h1,h2,o,c,h3,h4,hcap⟩:=hx1;cases h1;cases h2;cases h3;refine⟨_,X1.rd1 rfl,fun h=>(by cases h),fun _=>Z6i X1 ?_⟩;refine(Z8u hx1' hf.1 hf.2.1 hf.2.2).mono ?_;rintro _ w2⟨o',k',rfl,F⟩;have M02:=M1.none_trans F.mod;have X2:=X1.mod' F.mod;refine⟨_,_,_,_,rfl,fun h=>(h rfl).elim,fun _=>⟨fun hge=>?_,fun hlt=>Z6i X2 ?_⟩⟩
  ·refine hR _ _ ⟨J,?_,M02,rfl,fun h=>?_⟩
   ·simp only[Z4D];rw[decide_eq_false (by omega)];rfl
   ·simp only[Z4D,JE,decide_eq_true_eq]at h;omega
  ·refine(hN (.l xs) hdp hf (ItC.mod F.mod _ hx1')).mono ?_
   rintro _ w3⟨v,rfl,M3,hv,hrv⟩
   have e:Z4D f (.l xs)=isN f (.l xs):=by
    simp only[Z4D,isN];rw[decide_eq_true (by omega)];rfl
   exact⟨_,_,rfl,hR _ _ ⟨v,by rw[e],M02.none_trans M3,hv,fun h=>RV.mod' (Mod.refl _) M02.size (hrv (by rw[<-e];exact h))⟩⟩
theorem ZAp{f:Nat}(hRf:ZAC f){x y:It}{A:Nat->Prop}{w:T}{v1 v2 v3 u1 u2 u3:JH}(hdy:dep y<=f)(hfx:ZB3 x)(hfy:ZB3 y)(hx:ItC A w x v1 v2 v3)(hy:ItC A w y u1 u2 u3) :
  J2 V Z2R.n #[.agg #[v1,v2,v3],.agg #[u1,u2,u3]] w (fun e w'=>∃v,e=G (K #[v,.bool (Z31 (f+1) [x,y])])/\Vcg.Mod NoB w w'/\v.oneCell'=E/\(Z31 (f+1) [x,y]=E->RV w.heap.size (f+1) w' (.l [x,y]) v)):=by
 obtain⟨b,o1,l1,c1,o2,l2,c2,rfl,rfl,rfl⟩:=hx.vals;obtain⟨b',p1,q1,r1,p2,q2,r2,rfl,rfl,rfl⟩:=hy.vals;refine Z9 fun R hR=>Z2R.vc _ _ _ _ _ _ _ _ _ _ _ _ _ _ _ _ ?_;unfold Z2R.Vc
 have hnode:Z31 (f+1) [x,y]=(match Z0s x with
  |none=>Y
  |some (_,E)=>ZDi y
  |some (p,Y)=>decide (p≠[])&&Z4D f y):=Z6s rfl
 rintro d6 w1⟨rfl,rfl⟩;have M1:Vcg.Mod NoB w _:=Mod.alloc w (P #[.bool b,.slice o1 l1 c1,.slice o2 l2 c2] 111);have X1:=Blk.new w 111 #[.bool b,.slice o1 l1 c1,.slice o2 l2 c2];generalize w.alloc (P #[.bool b,.slice o1 l1 c1,.slice o2 l2 c2] 111)=w1 at *
 rintro d8 w2⟨rfl,rfl⟩;have M12:Vcg.Mod NoB w1 _:=Mod.alloc w1 (P #[.bool b',.slice p1 q1 r1,.slice p2 q2 r2] 111);have Y2:=Blk.new w1 111 #[.bool b',.slice p1 q1 r1,.slice p2 q2 r2];have X2:=X1.mod' M12;have M2:=M1.none_trans M12;generalize w1.heap.size=N' at *
 generalize w1.alloc (P #[.bool b',.slice p1 q1 r1,.slice p2 q2 r2] 111)=w2 at *
 have hx2:=ItC.mod M2 _ hx;have hy2:=ItC.mod M2 _ hy
 have no:∀w',Z0s x=J0->Vcg.Mod NoB w w'->R (G (K #[J,.bool Y])) w':=fun w' h M=>by
  rw[h]at hnode;exact hR _ _ ⟨J,by rw[hnode],M,rfl,fun h=>by rw[hnode]at h;cases h⟩
 refine⟨_,X2.rd1 rfl,fun hb=>no _ ?_ M2,fun hb=>⟨_,_,_,by rw[Z2];exact X2.rd1 rfl,?_⟩⟩
 ·cases x with
  |s bs=>simp only[ItC]at hx2;cases hx2.1;cases hb
  |l xs=>rfl
 cases x with
 |l xs=>simp only[ItC]at hx2;cases hx2.1;cases hb
 |s bs =>
  simp only[ItC]at hx2;obtain⟨h1,⟨o,c,h2,h3,h4⟩,h5⟩:=hx2;cases h1;cases h2;cases h5
  have hbl:bs.length<=2^20:=by
   have:bs.length<=(enc (.s bs)).length:=by
    simp only[enc];split
    ·exact I _
    ·rw[U];omega
   have:=hfx.2.2;omega
  simp only[Z0s]at hnode no;refine(Z5g h3 hbl).mono ?_;rintro _ w3⟨o',k',rfl,M3,R3,_⟩;have M03:=M2.none_trans M3;have Y3:=Y2.mod' M3;have hy3:=ItC.mod M3 _ hy2;cases hu:Z1b bs with
  |none =>
   have e:upk bs=([],Y,143):=by unfold upk;rw[hu]
   rw[e];exact⟨_,_,_,_,_,rfl,fun _=>no _ hu M03,fun h=>absurd h (by decide)⟩
  |some r =>
   obtain⟨p,lf⟩:=r;have e:upk bs=(p,lf,0):=by unfold upk;rw[hu]
   rw[e];rw[hu]at hnode;refine⟨_,_,_,_,_,rfl,fun h=>(h rfl).elim,fun _=>⟨fun hlf=>?_,fun hlf=>?_⟩⟩
   ·subst hlf
    simp only at hnode;rintro _ rfl;have M4:Vcg.Mod NoB w3 w3.drew:=Mod.drew w3;have Y4:=Y3.mod' M4;have M04:=M03.none_trans M4;generalize w3.drew=w4 at *
    have hrv:∀(w':T)(d:Addr),RV w.heap.size (f+1) w' (.l [.s bs,y]) (JD 241 (J7 (O d))):=fun w' d=>by
     simp only[RV];exact JQ ⟨rfl,⟨p,hu⟩,d,rfl⟩
    cases y with
    |s vs =>
     simp only[ItC]at hy3;obtain⟨h1,⟨oy,cy,h2,h3',h4'⟩,h5⟩:=hy3;cases h1;cases h2;cases h5;refine⟨_,_,_,by rw[Z2];exact Y4.rd1 rfl,_,Y4.rd1 rfl,fun _=>⟨_,_,_,by rw[Z2];exact Y4.rd1 rfl,?_⟩,fun h=>(by cases h)⟩;rintro d5 w5⟨rfl,rfl⟩;refine⟨by rw[Z2];exact(Y4.mod' (Mod.alloc w4 _)).rd1 rfl,(Y4.mod' (Mod.alloc w4 _)).rd1 rfl,hR _ _ ⟨JD 241 (J7 (O ⟨w4.heap.size,0,J0⟩)),?_,M04.none_trans (Mod.alloc w4 _),rfl,fun _=>hrv _ _⟩⟩;rw[hnode];cases vs with
     |nil=>rfl
     |cons a r=>rw[decide_eq_true (by simp only[J3];omega)];rfl
    |l ys =>
     simp only[ItC]at hy3;obtain⟨h1,h2,oy,cy,h3',h4',_⟩:=hy3;cases h1;cases h2;cases h3';refine⟨_,_,_,by rw[Z2];exact Y4.rd1 rfl,_,Y4.rd1 rfl,fun h=>(by cases h),fun _=>?_⟩;rintro d5 w5⟨rfl,rfl⟩;refine⟨(Y4.mod' (Mod.alloc w4 _)).rd1 rfl,hR _ _ ⟨JD 241 (J7 (O ⟨w4.heap.size,0,J0⟩)),?_,M04.none_trans (Mod.alloc w4 _),rfl,fun _=>hrv _ _⟩⟩;rw[hnode];rfl
   ·subst hlf
    simp only at hnode;refine⟨fun hz=>?_,fun hz=>Z6i Y3 ?_⟩
    ·have hp:p=[]:=C (by dsimp only at hz;omega)
     rw[hp]at hnode;simp only[ne_eq,not_true_eq_false,decide_false,JN]at hnode;exact hR _ _ ⟨J,by rw[hnode],M03,rfl,fun h=>by rw[hnode]at h;cases h⟩
    ·have hp:p≠[]:=by rintro rfl;simp at hz
     rw[decide_eq_true hp,JI]at hnode;refine(hRf y hdy hfy hy3).mono ?_;rintro _ w4⟨v,rfl,M4,hv,hrv⟩;refine⟨_,_,rfl,hv,?_⟩;rintro d5 w5⟨rfl,rfl⟩;have M5:Vcg.Mod NoB w4 _:=Mod.alloc w4 (P #[.slice o' p.length k',v] 251);refine hR _ _ ⟨JD 249 (J7 (O ⟨w4.heap.size,0,J0⟩)),by rw[hnode],(M03.none_trans M4).none_trans M5,rfl,fun h=>?_⟩;rw[hnode]at h;simp only[RV];exact JR (JQ ⟨rfl,⟨p,hu⟩,_,_,v,(M03.none_trans M4).size,rfl,Blk.new w4 251 _,RV.mod' M5 M03.size (hrv h)⟩)
theorem Z0y{xs:List It}{j:Nat}(h:j<xs.length):xs.getD j (.s [])=xs[j]:=by
 rw[List.getD_eq_getElem?_getD,List.getElem?_eq_getElem h];rfl
theorem Z7P{f:Nat}(hRf:ZAC f){xs:List It}{A:Nat->Prop}{w:T}{o:Option Addr}{c:Nat}(h17:xs.length=17)(hd:∀x∈xs,dep x<=f)(hf:∀x∈xs,ZB3 x)(hx:Z1I A w xs o 0)(hc:xs.length<=c) :
  J2 V Z1B.n #[.slice o xs.length c] w (fun e w'=>∃v,e=G (K #[v,.bool (Z31 (f+1) xs)])/\Vcg.Mod NoB w w'/\v.oneCell'=E/\(Z31 (f+1) xs=E->RV w.heap.size (f+1) w' (.l xs) v)):=by
 refine Z9 fun R hR=>Z1B.vc _ _ _ _ _ ?_;unfold Z1B.Vc;have hnode:=Z5W (f:=f) h17;rw[Z0y (by omega)]at hnode;obtain⟨g,f0,v1,v2,v3,rfl,hg,e1,e2,e3,hi⟩:=hx.get 16 (by omega);have at16:=hi;refine⟨_,rfl,⟨by omega,by omega⟩,?_⟩;generalize hx16:xs[16]=x16 at *
 cases x16 with
 |l ys =>
  simp only[ItC]at hi;obtain⟨rfl,_⟩:=hi;refine⟨E,by rw[Z2];exact e1,fun _=>hR _ _ ⟨J,by rw[hnode],Mod.refl w,rfl,fun h=>by rw[hnode]at h;cases h⟩,fun h=>(by cases h)⟩
 |s v =>
  simp only[ItC]at hi;obtain⟨rfl,⟨ov,cv,rfl,hv,_⟩,rfl⟩:=hi;refine⟨Y,by rw[Z2];exact e1,fun h=>(by cases h),fun _=>⟨_,rfl,⟨by omega,by omega⟩,_,_,_,by rw[Z2,Z2];exact e2,?_⟩⟩;simp only at hnode;rintro d7 w1⟨rfl,rfl⟩;have hZ:ZY #[J,J,J,J,J,J,J,J,J,J,J,J,J,J,J,J,(.slice J0 0 0)] 16 [(.slice ov v.length cv)]=brA (fun _=>J) ov v.length cv:=rfl;rw[hZ];have M1:Vcg.Mod NoB w _:=Mod.alloc w (P (brA (fun _=>J) ov v.length cv) 247);have B1:=Blk.new w 247 (brA (fun _=>J) ov v.length cv);have hs1:=Z6 w (P (brA (fun _=>J) ov v.length cv) 247);generalize hN:w.heap.size=N at *
  generalize w.alloc (P (brA (fun _=>J) ov v.length cv) 247)=w1 at *
  generalize hbase:(if v=[]then 0 else 1)=base at *
  refine⟨fun n w'=>w'=w1/\n=(base:Int),⟨_,_,_,by rw[Z2,JC];exact B1.rd1 (ZAG _ _ _ _),fun h=>⟨rfl,?_⟩,fun h=>⟨rfl,?_⟩⟩,?_⟩
  ·rw[<-hbase,if_neg (by rintro rfl;simp at h)];rfl
  ·rw[<-hbase,if_pos (C (by omega))];rfl
  rintro _ _ w1⟨rfl,rfl⟩;have hb1:base<=1:=by rw[<-hbase];split<;>omega
  refine⟨by omega,fun n i w'=>∃(j:Nat)(vs:Fin 16->JH),i=(j:Int)/\j<=16/\n=((base+((xs.take j).filter (fun x=> !isE x)).length:Nat):Int)/\(xs.take j).all (fun x=>isE x||Z4D f x)=E/\Vcg.Mod NoB w w'/\w1.heap.size<=w'.heap.size/\Blk w' N 247 (brA vs ov v.length cv)/\(∀q:Fin 16,q.val<j->RV w1.heap.size f w' (xs.getD q.val (.s [])) (vs q))/\(∀q:Fin 16,j<=q.val->vs q=J),fun _ i _=>((16:Int)-i).toNat,⟨0,fun _=>J,rfl,JF _,by simp,by simp,M1,I _,B1,fun q h=>absurd h (by omega),fun _ _=>rfl⟩,?_⟩;rintro _ _ _ w2⟨j,vs,rfl,hj,rfl,hall,M2,hs2,B2,hdone,hrest⟩;have ew:Q J1 ((j:Int)+1)=((j+1:Nat):Int):=by rw[Z0 (by omega) (by omega)];omega
  have hcl:((xs.take j).filter (fun x=> !isE x)).length<=16:=JS (JL _ _) (by rw[JJ];omega);refine⟨fun hlt=>?_,fun hge=>?_⟩
  ·have hjl:j<xs.length:=by omega
   have hj16:j<16:=by omega
   obtain⟨g',f',u1,u2,u3,ho,hg',d1,d2,d3,hij⟩:=(Z1I.mod M2 _ hx).get j hjl;cases ho;rw[JC]at d1 d2 d3;obtain⟨b,p1,q1,r1,p2,q2,r2,rfl,rfl,rfl⟩:=hij.vals;refine⟨_,rfl,⟨by omega,by omega⟩,_,_,_,_,_,_,_,by rw[Z2,W];exact d1,by rw[Z2,Z2,W];exact d2,by rw[Z2,Z2,W];exact d3,?_⟩;rintro d27 w3⟨rfl,rfl⟩;have H:=Blk.new w2 111 #[.bool Y,.slice J0 0 0,.slice J0 0 0];have M23:Vcg.Mod NoB w2 _:=Mod.alloc w2 (P #[.bool Y,.slice J0 0 0,.slice J0 0 0] 111);refine Z65 H rfl rfl rfl (fun w4 H4 Q4=>?_);have M24:Vcg.Mod NoB w2 w4:=ZC M23 Q4 (I _);have M4:=M2.none_trans M24;have B4:=B2.mod' M24;have hij4:=ItC.mod M24 _ hij;have hs4:=M24.size;have hdone4:∀q:Fin 16,q.val<j->RV w1.heap.size f w4 (xs.getD q.val (.s [])) (vs q):=fun q hq=>RV.mod' M24 (I _) (hdone q hq);generalize w2.heap.size=HH at *
   clear M23 Q4 H M24 B2 hij hdone;have htk:xs.take (j+1)=xs.take j++[xs[j]]:=J6 hjl;refine⟨fun w'=>w'=w4/\isE xs[j]=Y,⟨_,H4.rd1 rfl,fun hb=>⟨_,_,_,by rw[Z2];exact H4.rd1 rfl,fun hz=>?_,fun hz=>⟨rfl,?_⟩⟩,fun hb=>⟨rfl,?_⟩⟩,?_⟩
   ·
    have he:xs[j]=.s []:=by
     cases hq:xs[j]with
     |l ys=>rw[hq]at hij4;simp only[ItC]at hij4;cases hij4.1;cases hb
     |s bs =>
      rw[hq]at hij4;simp only[ItC]at hij4;obtain⟨_,⟨oo,cc,h2,_⟩,_⟩:=hij4;cases h2;rw[C (by omega:bs.length=0)]
    rw[ew];refine⟨⟨j+1,vs,rfl,hj16,?_,?_,M4,by omega,B4,fun q hq=>?_,fun q hq=>hrest q (by omega)⟩,by dsimp only;omega⟩
    ·rw[htk,JA,he];simp[isE]
    ·rw[htk,JG,hall,he];simp[isE]
    ·by_cases hqj:q.val<j
     ·exact hdone4 q hqj
     ·have hqe:q.val=j:=by omega
      rw[hqe,Z0y hjl,he,hrest q (by omega)];simp only[RV];exact JQ ⟨trivial,trivial⟩
   ·cases hq:xs[j]with
    |l ys=>rfl
    |s bs =>
     rw[hq]at hij4;simp only[ItC]at hij4;obtain⟨_,⟨oo,cc,h2,_⟩,_⟩:=hij4;cases h2;cases bs with
     |nil=>simp at hz
     |cons a r=>rfl
   ·cases hq:xs[j]with
    |l ys=>rfl
    |s bs =>
     rw[hq]at hij4;simp only[ItC]at hij4;cases hij4.1;cases hb
   ·rintro _ w4⟨rfl,hne⟩
    refine Z6i H4 ?_;refine(hRf xs[j] (hd _ (J4 hjl)) (hf _ (J4 hjl)) hij4).mono ?_;rintro _ w5⟨u,rfl,M5,hu,hru⟩;have M05:=M4.none_trans M5;have B5:=B4.mod' M5;have hs5:=M5.size;refine⟨_,_,rfl,fun hb=>?_,fun hb=>⟨⟨by omega,by omega⟩,?_⟩⟩
    ·have hfalse:Z31 (f+1) xs=Y:=by
       rw[hnode]
       have:(xs.take 16).all (fun x=>isE x||Z4D f x)=Y:=by
        rw[JT];refine⟨xs[j],?_,by rw[hne,hb];decide⟩;rw[J9];exact⟨j,by omega,rfl⟩
       rw[this,JN]
     exact hR _ _ ⟨J,by rw[hfalse],M05,rfl,fun h=>by rw[hfalse]at h;cases h⟩
    ·rw[Z2,JC,W]
     refine⟨B5.canSet (by rw[Z66];omega) hu,?_⟩;rintro _ rfl;have Q6:Vcg.Mod (·=N) w5 _:=Mod.setCell w5 ⟨N,j,J0⟩ u;have B6:=B5.set j u;rw[ZEv _ _ _ _ _ hj16]at B6;have M06:Vcg.Mod NoB w _:=ZC M05 Q6 (by omega)
     have en:Q J1 (((base+((xs.take j).filter (fun x=> !isE x)).length:Nat):Int)+1)=((base+((xs.take (j+1)).filter (fun x=> !isE x)).length:Nat):Int):=by
      rw[Z0 (by omega) (by omega),htk,JA,U];simp only[List.filter_cons,hne,Bool.not_false,if_true,List.filter_nil,List.length_singleton];omega
     rw[ew,en];refine⟨⟨j+1,ZFQ vs j u,rfl,hj16,rfl,?_,M06,by rw[Z3y];omega,B6,fun q hq=>?_,fun q hq=>?_⟩,by dsimp only;omega⟩
     ·rw[htk,JG,hall]
      simp only[JO,JU,hb,Bool.or_true,JP,Bool.and_true]
     ·unfold ZFQ
      by_cases hqj:q.val=j
      ·rw[if_pos hqj,hqj,Z0y hjl]
       exact RV.modS Q6 (fun b h=>by omega) (by omega) (hru hb)
      ·rw[if_neg hqj]
       exact RV.modS Q6 (fun b h=>by omega) (I _) (RV.mod' M5 (I _) (hdone4 q (by omega)))
     ·unfold ZFQ
      rw[if_neg (by omega)];exact hrest q (by omega)
  ·obtain rfl:j=16:=by omega
   have hdec:decide (((base+((xs.take 16).filter (fun x=> !isE x)).length:Nat):Int)>1)=Z31 (f+1) xs:=by
    rw[hnode,hall,JI,JK,decide_eq_true_eq,decide_eq_true_eq];omega
   rw[hdec];refine hR _ _ ⟨JD 244 (J7 (O ⟨N,0,J0⟩)),rfl,M2,rfl,fun _=>?_⟩;simp only[RV];exact JR (JR ⟨h17,N,vs,ov,v.length,cv,by omega,rfl,B2,fun q=>RV.mod' (Mod.refl _) (by omega) (hdone q q.isLt)⟩)
theorem Z9g:∀f,ZCU f
 |0,x,_,_,_,_,_,hd,_,_=>absurd (ZAP x) (by omega)
 |f+1,x,A,w,v1,v2,v3,hd,hf,hx=>by
  have hRf:=ZEB (Z9g f);obtain⟨b,o1,l1,c1,o2,l2,c2,rfl,rfl,rfl⟩:=hx.vals;refine Z9 fun R hR=>Z2Q.vc _ _ _ _ _ _ _ _ _ ?_;unfold Z2Q.Vc;rintro d3 w1⟨rfl,rfl⟩;have M1:Vcg.Mod NoB w _:=Mod.alloc w (P #[.bool b,.slice o1 l1 c1,.slice o2 l2 c2] 111);have X1:=Blk.new w 111 #[.bool b,.slice o1 l1 c1,.slice o2 l2 c2];generalize w.alloc (P #[.bool b,.slice o1 l1 c1,.slice o2 l2 c2] 111)=w1 at *
  have hx1:=ItC.mod M1 _ hx;cases x with
  |s bs =>
   simp only[ItC]at hx1;obtain⟨h1,_,_⟩:=hx1;cases h1;exact⟨_,X1.rd1 rfl,fun _=>hR _ _ ⟨J,rfl,M1,rfl,fun h=>by cases h⟩,fun h=>(by cases h)⟩
  |l xs =>
   simp only[ItC]at hx1;obtain⟨h1,h2,o,c,h3,h4,hc⟩:=hx1;cases h1;cases h2;cases h3
   have hds:∀x∈xs,dep x<=f:=fun x hx=>by
    have:=Z5N hx;simp only[dep]at hd;omega
   refine⟨_,X1.rd1 rfl,fun h=>(by cases h),fun _=>⟨_,_,_,by rw[Z2];exact X1.rd1 rfl,fun h2=>?_,fun h2=>⟨_,_,_,by rw[Z2];exact X1.rd1 rfl,fun h17=>⟨_,_,_,by rw[Z2];exact X1.rd1 rfl,?_⟩,fun h17=>?_⟩⟩⟩
   ·obtain⟨x,y,rfl⟩:∃x y,xs=[x,y]:=by
      cases xs with
      |nil=>simp at h2
      |cons x r =>
       cases r with
       |nil=>simp at h2
       |cons y r =>
        cases r with
        |nil=>exact⟨x,y,rfl⟩
        |cons z r=>simp at h2;omega
    rintro _ rfl;have M2:Vcg.Mod NoB w1 w1.drew:=Mod.drew w1;have X2:=X1.mod' M2;have h4':=Z1I.mod M2 _ h4;have M02:=M1.none_trans M2;generalize w1.drew=w2 at *
    obtain⟨g,f0,u1,u2,u3,rfl,hg,e1,e2,e3,hi⟩:=h4'.get 0 (by simp);obtain⟨g',f0',t1,t2,t3,ho,hg',d1,d2,d3,hi'⟩:=h4'.get 1 (by simp);cases ho;have hix:ItC A w2 x u1 u2 u3:=hi;have hiy:ItC A w2 y t1 t2 t3:=hi';obtain⟨_,_,_,_,_,_,_,rfl,rfl,rfl⟩:=hix.vals;obtain⟨_,_,_,_,_,_,_,rfl,rfl,rfl⟩:=hiy.vals;refine⟨_,_,_,by rw[Z2];exact X2.rd1 rfl,_,rfl,⟨by decide,by simp⟩,_,_,_,_,_,_,_,by rw[Z2];exact e1,by rw[Z2,Z2];exact e2,by rw[Z2,Z2];exact e3,_,_,_,by rw[Z2];exact X2.rd1 rfl,_,rfl,⟨by decide,by simp⟩,_,_,_,_,_,_,_,by rw[Z2];exact d1,by rw[Z2,Z2];exact d2,by rw[Z2,Z2];exact d3,?_⟩;refine(ZAp hRf (hds y (by simp)) (hf.mem (by simp)) (hf.mem (by simp)) hix hiy).mono ?_;rintro _ w3⟨v,rfl,M3,hv,hrv⟩;exact⟨_,_,rfl,hR _ _ ⟨v,rfl,M02.none_trans M3,hv,fun h=>RV.mod' (Mod.refl _) M02.size (hrv h)⟩⟩
   ·have h17':xs.length=17:=by omega
    refine(Z7P hRf h17' hds (fun x hx=>hf.mem hx) h4 hc).mono ?_;rintro _ w3⟨v,rfl,M3,hv,hrv⟩;exact⟨_,_,rfl,hR _ _ ⟨v,rfl,M1.none_trans M3,hv,fun h=>RV.mod' (Mod.refl _) M1.size (hrv h)⟩⟩
   ·have hno:isN (f+1) (.l xs)=Y:=Z8T (by omega) (by omega)
    exact hR _ _ ⟨J,by rw[hno],M1,rfl,fun h=>by rw[hno]at h;cases h⟩
end Go.Proofs.YtfghidehlnfdiaaGreat
end
section
namespace Go.Proofs.YtfghidehlnfdiaaGreat
open Go Go.Vcg
abbrev Z0m.n:Nat:=93
def Z0m.Vc(a:Bool)(b:Option Addr)(c d:Nat)(e:Option Addr)(f g:Nat)(w:T)(R:JM->T->Prop):Prop :=
 ∀h i,Z5 w 111 #[.bool a,.slice b c d,.slice e f g] h i ->
 ∃a,i.cell? h=O (.bool a) /\
 ((a=Y ->
 R (G (.bool Y)) i) /\
 (a=E ->
 ∃a b c,i.cell? (h.add 2)=O (.slice a b c) /\
 (((b:Int)=2 ->
 ∃a c d,i.cell? (h.add 2)=O (.slice a c d) /\
 ∃d,a=O d /\
 ((0:Int)<=0/\0<(c:Int)) /\
 ∃a,i.cell? (d.add 0)=O (.bool a) /\
 ((a=E ->
 R (G (.bool Y)) i) /\
 (a=Y ->
 ∃a c d,i.cell? (h.add 2)=O (.slice a c d) /\
 ∃d,a=O d /\
 ((0:Int)<=0/\0<(c:Int)) /\
 ∃a c e,i.cell? ((d.add 0).add 1)=O (.slice a c e) /\
 J2 V 95 #[.slice a c e] i (fun a c =>
 ∃d e f g j,a=G (K #[.slice d e f,.bool g,.int J1 j]) /\
 ((j≠0 ->
 R (G (.bool Y)) c) /\
 (j=0 ->
 ((g=E ->
 ∃a d f,c.cell? (h.add 2)=O (.slice a d f) /\
 ∃f,a=O f /\
 ((0:Int)<=1/\1<(d:Int)) /\
 ∃a,c.cell? (f.add 3)=O (.bool a) /\
 ((a=Y ->
 ∃d f j,c.cell? (h.add 2)=O (.slice d f j) /\
 ∃j,d=O j /\
 ((0:Int)<=1/\1<(f:Int)) /\
 ∃d f k,c.cell? ((j.add 3).add 1)=O (.slice d f k) /\
 R (G (.bool (decide ((f:Int)>0)))) c) /\
 (a=E ->
 R (G (.bool Y)) c))) /\
 (g=Y ->
 ∃a d f,c.cell? (h.add 2)=O (.slice a d f) /\
 ∃f,a=O f /\
 ((0:Int)<=1/\1<(d:Int)) /\
 ∃a d g j k l m,c.cell? (f.add 3)=O (.bool a) /\
 c.cell? ((f.add 3).add 1)=O (.slice d g j) /\
 c.cell? ((f.add 3).add 2)=O (.slice k l m) /\
 J2 V 116 #[.agg #[.bool a,.slice d g j,.slice k l m]] c (fun a c =>
 ∃d f,a=G (K #[.bool d,.bool f]) /\
 (((e:Int)>0 ->
 ((d=E ->
 R (G (.bool f)) c) /\
 (d=Y ->
 R (G (.bool Y)) c))) /\
 (¬(e:Int)>0 ->
 R (G (.bool Y)) c))))))))))) /\
 ((b:Int)≠2 ->
 (((b:Int)=17 ->
 ∃(a:Int->Int->T->Prop)(c:Int->Int->T->Nat),a 0 0 i /\
 (∀(d:Int)(e:Int)(f:Nat->JH)(f:T),a d e f ->
 ((e<16 ->
 ∃g j k,f.cell? (h.add 2)=O (.slice g j k) /\
 ∃k,g=O k /\
 ((0:Int)<=e/\e<(j:Int)) /\
 ∃g j l m n o p,f.cell? (k.add (e.toNat*3))=O (.bool g) /\
 f.cell? ((k.add (e.toNat*3)).add 1)=O (.slice j l m) /\
 f.cell? ((k.add (e.toNat*3)).add 2)=O (.slice n o p) /\
 J2 V 116 #[.agg #[.bool g,.slice j l m,.slice n o p]] f (fun g j =>
 ∃k l,g=G (K #[.bool k,.bool l]) /\
 ((k=Y ->
 R (G (.bool Y)) j) /\
 (k=E ->
 ((l=E ->
 a (Q J1 (d+1)) (Q J1 (e+1)) j/\c (Q J1 (d+1)) (Q J1 (e+1)) j<c d e f) /\
 (l=Y ->
 a d (Q J1 (e+1)) j/\c d (Q J1 (e+1)) j<c d e f)))))) /\
 (¬e<16 ->
 ∃a c e,f.cell? (h.add 2)=O (.slice a c e) /\
 ∃e,a=O e /\
 ((0:Int)<=16/\16<(c:Int)) /\
 ∃a,f.cell? (e.add 48)=O (.bool a) /\
 ((a=E ->
 R (G (.bool Y)) f) /\
 (a=Y ->
 ∃a c e,f.cell? (h.add 2)=O (.slice a c e) /\
 ∃e,a=O e /\
 ((0:Int)<=16/\16<(c:Int)) /\
 ∃a c g,f.cell? ((e.add 48).add 1)=O (.slice a c g) /\
 (((c:Int)>0 ->
 R (G (.bool (decide ((Q J1 (d+1))>=2)))) f) /\
 (¬(c:Int)>0 ->
 R (G (.bool (decide (d>=2)))) f)))))))) /\
 ((b:Int)≠17 ->
 R (G (.bool Y)) i))))))
theorem Z0m.vc(a b c d e f g w R)(h:Z0m.Vc a b c d e f g w R):J2 V 93 #[(.agg #[(.bool a),(.slice b c d),(.slice e f g)])] w R:=xs [(17,[(8,.cell (.int J1)),(9,.cell (.int J1))])] [.agg [.bool (.var a),.slice b c d,.slice e f g]] Tryz.func93 ZI (by kernel_rfl) h
abbrev Z0Y.n:Nat:=116
def Z0Y.Vc(a:Bool)(b:Option Addr)(c d:Nat)(e:Option Addr)(f g:Nat)(w:T)(R:JM->T->Prop):Prop :=
 ∀h i,Z5 w 111 #[.bool a,.slice b c d,.slice e f g] h i ->
 ∃a,i.cell? h=O (.bool a) /\
 ((a=Y ->
 ∀b,ZF i b ->
 ∃c d e,b.cell? (h.add 1)=O (.slice c d e) /\
 (((d:Int)=32 ->
 ∃c e f,b.cell? (h.add 1)=O (.slice c e f) /\
 R (G (K #[.bool E,.bool (decide ((e:Int)>0))])) b) /\
 ((d:Int)≠32 ->
 ∃c d e,b.cell? (h.add 1)=O (.slice c d e) /\
 ∃c e f,b.cell? (h.add 1)=O (.slice c e f) /\
 R (G (K #[.bool (decide ((d:Int)=0)),.bool (decide ((e:Int)>0))])) b))) /\
 (a=E ->
 ∃a b c d e f g,i.cell? h=O (.bool a) /\
 i.cell? (h.add 1)=O (.slice b c d) /\
 i.cell? (h.add 2)=O (.slice e f g) /\
 J2 V 79 #[.agg #[.bool a,.slice b c d,.slice e f g]] i (fun a b =>
 ∃c d e,a=G (.slice c d e) /\
 (((d:Int)<32 ->
 ∃a c e f g i j,b.cell? h=O (.bool a) /\
 b.cell? (h.add 1)=O (.slice c e f) /\
 b.cell? (h.add 2)=O (.slice g i j) /\
 J2 V 93 #[.agg #[.bool a,.slice c e f,.slice g i j]] b (fun a c =>
 ∃e,a=G (.bool e) /\
 R (G (K #[.bool e,.bool E])) c)) /\
 (¬(d:Int)<32 ->
 R (G (K #[.bool Y,.bool E])) b)))))
theorem Z0Y.vc(a b c d e f g w R)(h:Z0Y.Vc a b c d e f g w R):J2 V 116 #[(.agg #[(.bool a),(.slice b c d),(.slice e f g)])] w R:=xs [] [.agg [.bool (.var a),.slice b c d,.slice e f g]] Tryz.func116 ZI (by kernel_rfl) h
abbrev Z03.n:Nat:=59
def Z03.Vc(a:Option Addr)(b c:Nat)(w:T)(R:JM->T->Prop):Prop :=
 J2 V 60 #[.slice a b c] w (fun a b =>
 ∃c d e f g h i j,a=G (K #[.agg #[.bool c,.slice d e f,.slice g h i],.int J1 j]) /\
 ∀a k,Z5 b 111 #[.bool Y,.slice J0 0 0,.slice J0 0 0] a k ->
 Z1 k a (.bool c)/\∀b,Z3 k a (.bool c) b ->
 Z1 b (a.add 1) (.slice d e f)/\∀c,Z3 b (a.add 1) (.slice d e f) c ->
 Z1 c (a.add 2) (.slice g h i)/\∀b,Z3 c (a.add 2) (.slice g h i) b ->
 ((j≠0 ->
 R (G (.int J1 j)) b) /\
 (j=0 ->
 ∃c d e f g h i,b.cell? a=O (.bool c) /\
 b.cell? (a.add 1)=O (.slice d e f) /\
 b.cell? (a.add 2)=O (.slice g h i) /\
 J2 V 93 #[.agg #[.bool c,.slice d e f,.slice g h i]] b (fun a b =>
 ∃c,a=G (.bool c) /\
 ((c=Y ->
 R (G (.int J1 143)) b) /\
 (c=E ->
 R (G (.int J1 0)) b))))))
theorem Z03.vc(a b c w R)(h:Z03.Vc a b c w R):J2 V 59 #[(.slice a b c)] w R:=xs [] [.slice a b c] Tryz.func59 ZI (by kernel_rfl) h
end Go.Proofs.YtfghidehlnfdiaaGreat
end
section
namespace Go.Proofs.YtfghidehlnfdiaaGreat
open Go Go.Vcg Go.Trie
theorem Z8b{f:Nat}{x:It}(h:Z4D f x=E):isE x=Y:=by
 cases x with
 |l ys=>rfl
 |s bs =>
  cases bs with
  |nil=>simp[Z4D]at h
  |cons a r=>rfl
def IsAt(f:Nat):Prop:=∀(x:It) {A:Nat->Prop} {w:T} {v1 v2 v3:JH},dep x<=f->ZB3 x->ItC A w x v1 v2 v3 ->
 J2 V Z0m.n #[.agg #[v1,v2,v3]] w (fun e w'=>e=G (.bool (isN f x))/\Vcg.Mod NoB w w')
def ZEr(f:Nat):Prop:=∀(x:It) {A:Nat->Prop} {w:T} {v1 v2 v3:JH},dep x<=f->ZB3 x->ItC A w x v1 v2 v3 ->
 J2 V Z0Y.n #[.agg #[v1,v2,v3]] w (fun e w'=>e=G (K #[.bool (isE x||Z4D f x),.bool (!isE x)])/\Vcg.Mod NoB w w')
theorem ZEC{f:Nat}(hN:IsAt f):ZEr f:=by
 intro x A w v1 v2 v3 hdp hf hx;obtain⟨b,o1,l1,c1,o2,l2,c2,rfl,rfl,rfl⟩:=hx.vals;refine Z0Y.vc _ _ _ _ _ _ _ _ _ ?_;unfold Z0Y.Vc;rintro d3 w1⟨rfl,rfl⟩;have M1:Vcg.Mod NoB w _:=Mod.alloc w (P #[.bool b,.slice o1 l1 c1,.slice o2 l2 c2] 111);have X1:=Blk.new w 111 #[.bool b,.slice o1 l1 c1,.slice o2 l2 c2];generalize w.alloc (P #[.bool b,.slice o1 l1 c1,.slice o2 l2 c2] 111)=w1 at *
 have hx1:=ItC.mod M1 _ hx;cases x with
 |s bs =>
  simp only[ItC]at hx1;obtain⟨h1,⟨o,c,h2,h3,h4⟩,h5⟩:=hx1;cases h1;cases h2;cases h5;refine⟨_,X1.rd1 rfl,fun _=>?_,fun h=>(by cases h)⟩;rintro _ rfl;have X2:=X1.drew;have M2:=M1.step_drew;refine⟨_,_,_,by rw[Z2];exact X2.rd1 rfl,fun h32=>⟨_,_,_,by rw[Z2];exact X2.rd1 rfl,?_,M2⟩,fun h32=>⟨_,_,_,by rw[Z2];exact X2.rd1 rfl,_,_,_,by rw[Z2];exact X2.rd1 rfl,?_,M2⟩⟩
  ·have e1:Z4D f (.s bs)=E:=by simp only[Z4D];exact decide_eq_true (by omega)
   rw[e1,Z8b e1,decide_eq_true (by omega)];rfl
  ·have e1:Z4D f (.s bs)=Y:=by simp only[Z4D];exact decide_eq_false (by omega)
   rw[e1];cases bs with
   |nil=>rfl
   |cons a r=>rw[decide_eq_false (by simp only[J3];omega),decide_eq_true (by simp only[J3];omega)];rfl
 |l xs =>
  have hx1':=hx1;simp only[ItC]at hx1;obtain⟨h1,h2,o,c,h3,h4,hcap⟩:=hx1;cases h1;cases h2;cases h3;refine⟨_,X1.rd1 rfl,fun h=>(by cases h),fun _=>Z6i X1 ?_⟩;refine(Z8x f (.l xs) hdp hx1' (Mod.refl w1) hf.2.2).mono ?_;rintro _ w2⟨o',k',rfl,F⟩;have M02:=M1.none_trans F.mod;have X2:=X1.mod' F.mod;refine⟨_,_,_,rfl,fun hlt=>Z6i X2 ?_,fun hge=>⟨?_,M02⟩⟩
  ·refine(hN (.l xs) hdp hf (ItC.mod F.mod _ hx1')).mono ?_
   rintro _ w3⟨rfl,M3⟩
   have e:Z4D f (.l xs)=isN f (.l xs):=by
    simp only[Z4D,isN];rw[decide_eq_true (by omega)];rfl
   exact⟨_,rfl,by rw[e];rfl,M02.none_trans M3⟩
  ·have e:Z4D f (.l xs)=Y:=by simp only[Z4D];rw[decide_eq_false (by omega)];rfl
   rw[e];rfl
theorem ZEZ:∀f,IsAt f
 |0,x,_,_,_,_,_,hd,_,_=>absurd (ZAP x) (by omega)
 |f+1,x,A,w,v1,v2,v3,hd,hf,hx=>by
  have hRf:=ZEC (ZEZ f);obtain⟨b,o1,l1,c1,o2,l2,c2,rfl,rfl,rfl⟩:=hx.vals;refine Z0m.vc _ _ _ _ _ _ _ _ _ ?_;unfold Z0m.Vc;rintro d3 w1⟨rfl,rfl⟩;have M1:Vcg.Mod NoB w _:=Mod.alloc w (P #[.bool b,.slice o1 l1 c1,.slice o2 l2 c2] 111);have X1:=Blk.new w 111 #[.bool b,.slice o1 l1 c1,.slice o2 l2 c2];generalize w.alloc (P #[.bool b,.slice o1 l1 c1,.slice o2 l2 c2] 111)=w1 at *
  have hx1:=ItC.mod M1 _ hx;cases x with
  |s bs =>
   simp only[ItC]at hx1;obtain⟨h1,_,_⟩:=hx1;cases h1;exact⟨_,X1.rd1 rfl,fun _=>⟨rfl,M1⟩,fun h=>(by cases h)⟩
  |l xs =>
   simp only[ItC]at hx1;obtain⟨h1,h2,o,c,h3,h4,hc⟩:=hx1;cases h1;cases h2;cases h3
   have hds:∀x∈xs,dep x<=f:=fun x hx=>by
    have:=Z5N hx;simp only[dep]at hd;omega
   refine⟨_,X1.rd1 rfl,fun h=>(by cases h),fun _=>⟨_,_,_,by rw[Z2];exact X1.rd1 rfl,fun h2=>?_,fun h2=>⟨fun h17=>?_,fun h17=>?_⟩⟩⟩
   ·obtain⟨x,y,rfl⟩:∃x y,xs=[x,y]:=by
      cases xs with
      |nil=>simp at h2
      |cons x r =>
       cases r with
       |nil=>simp at h2
       |cons y r =>
        cases r with
        |nil=>exact⟨x,y,rfl⟩
        |cons z r=>simp at h2;omega
    have hnode0:Z31 (f+1) [x,y]=(match Z0s x with
     |none=>Y
     |some (_,E)=>ZDi y
     |some (p,Y)=>decide (p≠[])&&Z4D f y):=Z6s rfl
    have hnode:isN (f+1) (.l [x,y])=(match Z0s x with
     |none=>Y
     |some (_,E)=>ZDi y
     |some (p,Y)=>decide (p≠[])&&Z4D f y):=hnode0
    obtain⟨g,f0,u1,u2,u3,rfl,hg,e1,e2,e3,hi⟩:=h4.get 0 (by simp);have hix:ItC A w1 x u1 u2 u3:=hi;refine⟨_,_,_,by rw[Z2];exact X1.rd1 rfl,_,rfl,⟨by decide,by simp⟩,?_⟩;cases x with
    |l ys =>
     simp only[ItC]at hix;obtain⟨rfl,_⟩:=hix;exact⟨E,by rw[Z2];exact e1,fun _=>⟨by rw[hnode];rfl,M1⟩,fun h=>(by cases h)⟩
    |s bs =>
     have hfx:=hf.mem (x:=.s bs) (by simp);simp only[ItC]at hix;obtain⟨rfl,⟨ox,cx,rfl,hrx,_⟩,rfl⟩:=hix
     have hbl:bs.length<=2^20:=by
      have:bs.length<=(enc (.s bs)).length:=by
       simp only[enc];split
       ·exact I _
       ·rw[U];omega
      have:=hfx.2.2;omega
     simp only[Z0s]at hnode;refine⟨Y,by rw[Z2];exact e1,fun h=>(by cases h),fun _=>⟨_,_,_,by rw[Z2];exact X1.rd1 rfl,_,rfl,⟨by decide,by simp⟩,_,_,_,by rw[Z2,Z2];exact e2,?_⟩⟩;refine(Z50 hrx hbl).mono ?_;rintro _ w2⟨o',k',rfl,M2,R2,_⟩;have M02:=M1.none_trans M2;have X2:=X1.mod' M2;obtain⟨g',f0',t1,t2,t3,ho,hg',d1,d2,d3,hi'⟩:=(Z1I.mod M2 _ h4).get 1 (by simp);cases ho;have hiy:ItC A w2 y t1 t2 t3:=hi';cases hu:Z1b bs with
     |none =>
      have e:upk bs=([],Y,143):=by unfold upk;rw[hu]
      rw[hu]at hnode;rw[e];exact⟨_,_,_,_,_,rfl,fun _=>⟨by rw[hnode],M02⟩,fun h=>absurd h (by decide)⟩
     |some r =>
      obtain⟨p,lf⟩:=r;have e:upk bs=(p,lf,0):=by unfold upk;rw[hu]
      rw[hu]at hnode;rw[e];refine⟨_,_,_,_,_,rfl,fun h=>(h rfl).elim,fun _=>⟨fun hlf=>?_,fun hlf=>?_⟩⟩
      ·subst hlf
       simp only at hnode;refine⟨_,_,_,by rw[Z2];exact X2.rd1 rfl,_,rfl,⟨by decide,by simp⟩,?_⟩;cases y with
       |s vs =>
        simp only[ItC]at hiy;obtain⟨rfl,⟨oy,cy,rfl,_⟩,rfl⟩:=hiy;refine⟨Y,by rw[Z2];exact d1,fun _=>⟨_,_,_,by rw[Z2];exact X2.rd1 rfl,_,rfl,⟨by decide,by simp⟩,_,_,_,by rw[Z2,Z2];exact d2,?_,M02⟩,fun h=>(by cases h)⟩;rw[hnode];cases vs with
        |nil=>rfl
        |cons a r=>rw[decide_eq_true (by simp only[J3];omega)];rfl
       |l ys =>
        simp only[ItC]at hiy;obtain⟨rfl,_⟩:=hiy;exact⟨E,by rw[Z2];exact d1,fun h=>(by cases h),fun _=>⟨by rw[hnode];rfl,M02⟩⟩
      ·subst hlf
       simp only at hnode;obtain⟨_,_,_,_,_,_,_,rfl,rfl,rfl⟩:=hiy.vals;refine⟨_,_,_,by rw[Z2];exact X2.rd1 rfl,_,rfl,⟨by decide,by simp⟩,_,_,_,_,_,_,_,by rw[Z2];exact d1,by rw[Z2,Z2];exact d2,by rw[Z2,Z2];exact d3,?_⟩;refine(hRf y (hds y (by simp)) (hf.mem (by simp)) hiy).mono ?_;rintro _ w3⟨rfl,M3⟩;have M03:=M02.none_trans M3;refine⟨_,_,rfl,fun hp=>⟨fun hb=>⟨?_,M03⟩,fun hb=>⟨?_,M03⟩⟩,fun hp=>⟨?_,M03⟩⟩
       ·have hpn:p≠[]:=by rintro rfl;simp at hp
        rw[hnode,decide_eq_true hpn,JI];cases hr:Z4D f y with
        |true=>rw[Z8b hr];rfl
        |false=>rw[hr,Bool.or_false]at hb;rw[hb];rfl
       ·rw[Bool.or_eq_false_iff]at hb
        rw[hnode,hb.2,Bool.and_false]
       ·have hpn:p=[]:=C (by dsimp only at hp;omega)
        rw[hnode,hpn];rfl
   ·have h17':xs.length=17:=by omega
    have hnode:isN (f+1) (.l xs)=_:=Z5W (f:=f) h17';rw[Z0y (by omega)]at hnode;refine⟨fun n i w'=>∃j:Nat,i=(j:Int)/\j<=16/\n=((((xs.take j).filter (fun x=> !isE x)).length:Nat):Int)/\(xs.take j).all (fun x=>isE x||Z4D f x)=E/\Vcg.Mod NoB w1 w',fun _ i _=>((16:Int)-i).toNat,⟨0,rfl,JF _,by simp,by simp,Mod.refl w1⟩,?_⟩;rintro _ _ _ w2⟨j,rfl,hj,rfl,hall,M2⟩;have X2:=X1.mod' M2;have hcl:((xs.take j).filter (fun x=> !isE x)).length<=16:=JS (JL _ _) (by rw[JJ];omega);refine⟨fun hlt=>?_,fun hge=>?_⟩
    ·have hjl:j<xs.length:=by omega
     obtain⟨g',f',u1,u2,u3,ho,hg',d1,d2,d3,hij⟩:=(Z1I.mod M2 _ h4).get j hjl;rw[JC]at d1 d2 d3;obtain⟨_,_,_,_,_,_,_,rfl,rfl,rfl⟩:=hij.vals;refine⟨_,_,_,by rw[Z2];exact X2.rd1 rfl,_,ho,⟨by omega,by omega⟩,_,_,_,_,_,_,_,by rw[Z2,W];exact d1,by rw[Z2,Z2,W];exact d2,by rw[Z2,Z2,W];exact d3,?_⟩;refine(hRf xs[j] (hds _ (J4 hjl)) (hf.mem (J4 hjl)) hij).mono ?_;rintro _ w3⟨rfl,M3⟩;have htk:xs.take (j+1)=xs.take j++[xs[j]]:=J6 hjl;have ew:Q J1 ((j:Int)+1)=((j+1:Nat):Int):=by rw[Z0 (by omega) (by omega)];omega
     have en:Q J1 (((((xs.take j).filter (fun x=> !isE x)).length:Nat):Int)+1)=((((xs.take j).filter (fun x=> !isE x)).length+1:Nat):Int):=by rw[Z0 (by omega) (by omega)];omega
     rw[ew,en];refine⟨_,_,rfl,fun hb=>⟨?_,M1.none_trans (M2.none_trans M3)⟩,fun hb=>⟨fun hn=>?_,fun hn=>?_⟩⟩
     ·have:(xs.take 16).all (fun x=>isE x||Z4D f x)=Y:=by
        rw[JT];refine⟨xs[j],?_,by rw[hb];decide⟩;rw[J9];exact⟨j,by omega,rfl⟩
      rw[hnode];cases xs[16]with
      |l ys=>rfl
      |s v=>simp only;rw[this,JN]
     ·refine⟨⟨j+1,rfl,by omega,?_,?_,M2.none_trans M3⟩,by dsimp only;omega⟩
      ·rw[htk,JA,U]
       simp[hn]
      ·rw[htk,JG,hall];simp only[JO,JU,hb,JP]
     ·refine⟨⟨j+1,rfl,by omega,?_,?_,M2.none_trans M3⟩,by dsimp only;omega⟩
      ·rw[htk,JA,U]
       simp[hn]
      ·rw[htk,JG,hall];simp only[JO,JU,hb,JP]
    ·obtain rfl:j=16:=by omega
     have M02:=M1.none_trans M2;obtain⟨g',f',u1,u2,u3,ho,hg',d1,d2,d3,hij⟩:=(Z1I.mod M2 _ h4).get 16 (by omega);rw[hall]at hnode;refine⟨_,_,_,by rw[Z2];exact X2.rd1 rfl,_,ho,⟨by omega,by omega⟩,?_⟩;generalize hx16:xs[16]=x16 at *
     cases x16 with
     |l ys =>
      simp only[ItC]at hij;obtain⟨rfl,_⟩:=hij;exact⟨E,by rw[Z2];exact d1,fun _=>⟨by rw[hnode],M02⟩,fun h=>(by cases h)⟩
     |s v =>
      simp only[ItC]at hij;obtain⟨rfl,⟨ov,cv,rfl,hv,_⟩,rfl⟩:=hij;simp only[JI]at hnode;have en:Q J1 (((((xs.take 16).filter (fun x=> !isE x)).length:Nat):Int)+1)=((((xs.take 16).filter (fun x=> !isE x)).length+1:Nat):Int):=by rw[Z0 (by omega) (by omega)];omega
      rw[en];refine⟨Y,by rw[Z2];exact d1,fun h=>(by cases h),fun _=>⟨_,_,_,by rw[Z2];exact X2.rd1 rfl,_,ho,⟨by omega,by omega⟩,_,_,_,by rw[Z2,Z2];exact d2,fun hp=>⟨?_,M02⟩,fun hp=>⟨?_,M02⟩⟩⟩
      ·have hvn:v≠[]:=by rintro rfl;simp at hp
       rw[hnode,if_neg hvn];congr 2;rw[JK,decide_eq_true_eq,decide_eq_true_eq];omega
      ·have hvn:v=[]:=C (by omega)
       rw[hnode,if_pos hvn];congr 2;rw[JK,decide_eq_true_eq,decide_eq_true_eq];omega
   ·have hno:isN (f+1) (.l xs)=Y:=Z8T (by omega) (by omega)
    exact⟨by rw[hno],M1⟩
def Z0Q(b:By):Int:=match Z4Q b with
 | JB x=>x
 | JV x=>if isN 17 x=E then 0 else 143
theorem ZAU{b:By}{x:It}(h:Z4Q b=JV x):ZB3 x:=by
 obtain⟨h1,h2,h3,h4⟩:=ZEw h;exact⟨h3,h4,by omega⟩
theorem Z8J{w:T}{o:Option Addr}{k:Nat}{bs:By}(hr:RdB w o bs)(hk:bs.length<=k) :
  J2 V Z1a.n #[.slice o bs.length k] w (fun e w'=>Vcg.Mod NoB w w'/\∃v,e=G (K #[v,.int J1 (Z0Q bs)])/\(Z0Q bs=0->∃x,Z4Q bs=JV x/\isN 17 x=E/\RV 0 17 w' x v)):=by
 refine Z9 fun R hR=>Z1a.vc _ _ _ _ _ ?_;unfold Z1a.Vc;refine(Z5e hr hk).mono ?_;rintro e w1⟨M1,hd⟩;unfold Z1c at hd;cases hdc:Z4Q bs with
 |error x =>
  rw[hdc]at hd;obtain⟨hx,b,p1,q1,r1,p2,q2,r2,rfl⟩:=hd;refine⟨_,_,_,_,_,_,_,_,rfl,?_⟩;rintro d2 w2⟨rfl,rfl⟩;have H:=Blk.new w1 111 #[.bool Y,.slice J0 0 0,.slice J0 0 0];refine Z65 H rfl rfl rfl (fun w3 H3 Q3=>?_);have M3:Vcg.Mod NoB w w3:=M1.none_trans (ZC (Mod.alloc w1 _) Q3 (I _));have hck:Z0Q bs=x:=by unfold Z0Q;rw[hdc]
  refine⟨fun _=>hR _ _ ⟨M3,_,by rw[hck],fun h=>(hx (by rw[<-hck];exact h)).elim⟩,fun h=>(hx h).elim⟩
 |ok x =>
  rw[hdc]at hd;obtain⟨v1,v2,v3,rfl,hx⟩:=hd;obtain⟨b,p1,q1,r1,p2,q2,r2,rfl,rfl,rfl⟩:=hx.vals;have hf:=ZAU hdc;refine⟨_,_,_,_,_,_,_,_,rfl,?_⟩;rintro d2 w2⟨rfl,rfl⟩;have H:=Blk.new w1 111 #[.bool Y,.slice J0 0 0,.slice J0 0 0];refine Z65 H rfl rfl rfl (fun w3 H3 Q3=>?_);have M13:Vcg.Mod NoB w1 w3:=ZC (Mod.alloc w1 _) Q3 (I _);refine⟨fun h=>(h rfl).elim,fun _=>Z6i H3 ?_⟩;refine(Z9g 17 x (by have:=hf.1;omega) hf (ItC.mod M13 _ hx)).mono ?_;rintro _ w4⟨v,rfl,M4,hv,hrv⟩;have M04:=(M1.none_trans M13).none_trans M4;refine⟨_,_,rfl,fun hb=>hR _ _ ⟨M04,J,?_,fun h=>?_⟩,fun hb=>hR _ _ ⟨M04,v,?_,fun _=>⟨x,hdc,hb,RV.mod' (Mod.refl _) (JF _) (hrv hb)⟩⟩⟩
  ·unfold Z0Q;rw[hdc];simp only[hb];rfl
  ·unfold Z0Q at h;rw[hdc]at h;simp only[hb]at h;exact absurd h (by decide)
  ·unfold Z0Q;rw[hdc];simp only[hb];rfl
theorem ZA7{w:T}{o:Option Addr}{k:Nat}{bs:By}(hr:RdB w o bs)(hk:bs.length<=k) :
  J2 V Z2O.n #[.slice o bs.length k] w (fun e w'=>e=G (.int J1 (Z0Q bs))/\Vcg.Mod NoB w w'):=by
 refine Z2O.vc _ _ _ _ _ ?_;unfold Z2O.Vc;refine(Z8J hr hk).mono ?_;rintro _ w1⟨M1,v,rfl,_⟩;exact⟨_,_,rfl,rfl,M1⟩
theorem Z5u{w:T}{o:Option Addr}{k:Nat}{bs:By}(hr:RdB w o bs)(hk:bs.length<=k) :
  J2 V Z03.n #[.slice o bs.length k] w (fun e w'=>e=G (.int J1 (Z0Q bs))/\Vcg.Mod NoB w w'):=by
 refine Z03.vc _ _ _ _ _ ?_;unfold Z03.Vc;refine(Z3N hr hk).mono ?_;rintro e w1⟨M1,hd⟩;unfold Z1c at hd;cases hdc:Z4Q bs with
 |error x =>
  rw[hdc]at hd;obtain⟨hx,b,p1,q1,r1,p2,q2,r2,rfl⟩:=hd;refine⟨_,_,_,_,_,_,_,_,rfl,?_⟩;rintro d2 w2⟨rfl,rfl⟩;have H:=Blk.new w1 111 #[.bool Y,.slice J0 0 0,.slice J0 0 0];refine Z65 H rfl rfl rfl (fun w3 H3 Q3=>?_);have M3:Vcg.Mod NoB w w3:=M1.none_trans (ZC (Mod.alloc w1 _) Q3 (I _));have hck:Z0Q bs=x:=by unfold Z0Q;rw[hdc]
  exact⟨fun _=>⟨by rw[hck],M3⟩,fun h=>(hx h).elim⟩
 |ok x =>
  rw[hdc]at hd;obtain⟨v1,v2,v3,rfl,hx⟩:=hd;obtain⟨b,p1,q1,r1,p2,q2,r2,rfl,rfl,rfl⟩:=hx.vals;have hf:=ZAU hdc;refine⟨_,_,_,_,_,_,_,_,rfl,?_⟩;rintro d2 w2⟨rfl,rfl⟩;have H:=Blk.new w1 111 #[.bool Y,.slice J0 0 0,.slice J0 0 0];refine Z65 H rfl rfl rfl (fun w3 H3 Q3=>?_);have M13:Vcg.Mod NoB w1 w3:=ZC (Mod.alloc w1 _) Q3 (I _);refine⟨fun h=>(h rfl).elim,fun _=>Z6i H3 ?_⟩;refine(ZEZ 17 x (by have:=hf.1;omega) hf (ItC.mod M13 _ hx)).mono ?_;rintro _ w4⟨rfl,M4⟩;have M04:=(M1.none_trans M13).none_trans M4;refine⟨_,rfl,fun hb=>⟨?_,M04⟩,fun hb=>⟨?_,M04⟩⟩
  ·unfold Z0Q;rw[hdc];simp only[hb];rfl
  ·unfold Z0Q;rw[hdc];simp only[hb];rfl
def kidsN:Nat->It->List By
 |_,.s b=>if b.length=32 then[b]else[]
 |0,.l _=>[]
 |f+1,.l xs=>if xs.length=2 then(match Z0s (xs.getD 0 (.s []))with
   |some (_,E)=>[]
   |_=>kidsN f (xs.getD 1 (.s [])))else(xs.take 16).flatMap (kidsN f)
theorem ZBH{g:It->List By}(hg:∀y,(g y).length<=count y):∀(xs:List It),(xs.flatMap g).length<=Z0T xs
 |[]=>by simp[Z0T]
 |x::r=>by
  have h1:=hg x;have h2:=ZBH hg r;simp only[List.flatMap_cons,U,Z0T];omega
theorem kids_len:∀(f:Nat) (x:It),(kidsN f x).length<=count x
 |_,.s b=>by
  simp only[kidsN,count];split<;>simp
 |0,.l _=>by simp[kidsN]
 |f+1,.l xs=>by
  simp only[kidsN,count];split
  ·rename_i h2
   split
   ·simp
   ·have h1:=kids_len f (xs.getD 1 (.s []))
    have hc:count (xs.getD 1 (.s []))<=Z0T xs:=by
     obtain⟨x,y,rfl⟩:∃x y,xs=[x,y]:=by
      cases xs with
      |nil=>simp at h2
      |cons x r =>
       cases r with
       |nil=>simp at h2
       |cons y r =>
        cases r with
        |nil=>exact⟨x,y,rfl⟩
        |cons z r=>simp at h2
     show count y<=count x+(count y+0);omega
    omega
  ·have h1:=ZBH (kids_len f) (xs.take 16)
   have h2:=Z4F xs 16;omega
def hsC(hs:List By):List JH:=(hs.map fun h=>(hashA h).toList).flatten
theorem Z1e(h:By):(hashA h).toList.length=32:=by rw[Array.length_toList,Z4]
theorem ZFh{b:By}{e:Int}(h:Trie.hd b=JB e):e≠0:=by
 unfold Trie.hd at h;simp only at h;split at h
 ·cases h
 ·generalize(if(b.getD 0 0).toNat>=192 then 192 else 128)=base at *
  split at h
  ·cases h
  ·split at h
   ·cases h;decide
   ·split at h
    ·cases h;decide
    ·cases h
theorem ZFg:∀(f:Nat),(∀d n b,2*b.length+1<=f->dcd f d n b≠JB 0)/\(∀d n b,2*b.length+2<=f->Z7J f d n b≠JB 0)
 |0=>⟨fun d n b h=>absurd h (by omega),fun d n b h=>absurd h (by omega)⟩
 |f+1=>by
  have ih:=ZFg f;refine⟨fun d n b hf he=>?_,fun d n b hf he=>?_⟩
  ·by_cases hb:b=[]
   ·subst hb;rw[ZAN]at he;cases he
   ·by_cases hd:d>16\/n=4096
    ·rw[Z68 hb hd]at he;cases he
    ·rw[ZCj hb hd]at he
     cases hh:Trie.hd b with
     |error e =>
      rw[hh]at he;simp only at he;cases he;exact ZFh hh rfl
     |ok r =>
      obtain⟨lst,a,k,ow⟩:=r;rw[hh]at he;simp only at he;obtain⟨g1,g2⟩:=ZF1 hh hb;split at he
      ·cases he
      ·rename_i hk
       split at he
       ·split at he
        ·cases he
        ·cases he
       ·rename_i hl
        have how:ow=Y:=by
         cases ow with
         |false=>rfl
         |true=>exact absurd (g1 rfl).1 hl
        obtain⟨ha,hal,_⟩:=g2 how;have hlen:((b.drop a).take k).length<=b.length-a:=by rw[JJ,J5];omega
        cases hs:Z7J f (d+1) (n+1) ((b.drop a).take k)with
        |error e =>
         rw[hs]at he;simp only at he;cases he;exact ih.2 _ _ _ (by omega) hs
        |ok r=>rw[hs]at he;cases he
  ·by_cases hb:b=[]
   ·subst hb;rw[Z8I]at he;cases he
   ·rw[ZAO hb]at he
    cases hx:dcd f d n b with
    |error e =>
     rw[hx]at he;simp only at he;cases he;exact ih.1 _ _ _ (by omega) hx
    |ok r =>
     obtain⟨x,k,m⟩:=r;rw[hx]at he;simp only at he;obtain⟨a1,a2,_⟩:=(Z6a _ _ _ _).1 _ _ _ hx;cases hs:Z7J f d m (b.drop k)with
     |error e =>
      rw[hs]at he;simp only at he;cases he;exact ih.2 _ _ _ (by rw[J5];omega) hs
     |ok r=>rw[hs]at he;cases he
theorem ZDy{b:By}{x:Int}(h:Z4Q b=JB x):x≠0:=by
 unfold Z4Q at h;split at h
 ·cases h;decide
 ·cases hd:dcd (2*b.length+1) 1 0 b with
  |error e =>
   rw[hd]at h;simp only at h;cases h;rintro rfl;exact(ZFg _).1 _ _ _ (I _) hd
  |ok r =>
   obtain⟨y,k,m⟩:=r;rw[hd]at h;simp only at h;split at h
   ·cases h;decide
   ·cases h
def itB:It->By
 | .s b=>b
 | .l _=>[]
def Z2f(x:It):Prop:=x=.s []\/(∃b,x=.s b/\b.length=32)\/∃xs g,x=.l xs/\Z31 g xs=E/\ZB3 (.l xs)
theorem Z2f.nil:Z2f (.s []):=JQ rfl
theorem Z2f.hash{b:By}(h:b.length=32):Z2f (.s b):=JR (JQ ⟨b,rfl,h⟩)
theorem Z2f.node{xs:List It}(h:Z2f (.l xs)):∃g,Z31 (g+1) xs=E/\ZB3 (.l xs):=by
 rcases h with h|⟨b,h,_⟩|⟨ys,g,h,h1,h2⟩
 ·cases h
 ·cases h
 ·cases h
  cases g with
  |zero=>simp[Z31]at h1
  |succ g=>exact⟨g,h1,h2⟩
theorem Z2f.str{b:By}(h:Z2f (.s b)):b=[]\/b.length=32:=by
 rcases h with h|⟨b,h,h'⟩|⟨ys,g,h,h1,h2⟩
 ·cases h;exact JQ rfl
 ·cases h;exact JR h'
 ·cases h
theorem ZBL{g:Nat}{x:It}(h:Z4D g x=E)(hf:ZB3 x):Z2f x/\isE x=Y:=by
 refine⟨?_,Z8b h⟩;cases x with
 |s b=>simp only[Z4D,decide_eq_true_eq]at h;exact .hash h
 |l xs =>
  simp only[Z4D,JE]at h;exact JR (JR ⟨xs,g,rfl,h.2,hf⟩)
theorem Z2f.two{xs:List It}(h:Z2f (.l xs))(h2:xs.length=2):∃p lf,Z0s (xs.getD 0 (.s []))=O (p,lf)/\(lf=E->∃v,xs.getD 1 (.s [])=.s v/\v≠[])/\(lf=Y->p≠[]/\Z2f (xs.getD 1 (.s []))/\isE (xs.getD 1 (.s []))=Y):=by
 obtain⟨g,hn,hf⟩:=h.node;rw[Z6s h2]at hn;have hm:xs.getD 1 (.s [])∈xs:=by rw[Z0y (by omega)];exact J4 (by omega)
 split at hn
 ·cases hn
 ·rename_i p he
  refine⟨p,E,he,fun _=>?_,fun h=>by cases h⟩;generalize xs.getD 1 (.s [])=y at hn;cases y with
  |l ys=>cases hn
  |s v =>
   cases v with
   |nil=>cases hn
   |cons a r=>exact⟨_,rfl,by simp⟩
 ·rename_i p he
  simp only[JE,decide_eq_true_eq]at hn;exact⟨p,Y,he,fun h=>(by cases h),fun _=>⟨hn.1,ZBL hn.2 (hf.mem hm)⟩⟩
theorem Z2f.many{xs:List It}(h:Z2f (.l xs))(h2:xs.length≠2):xs.length=17/\(∃v,xs.getD 16 (.s [])=.s v)/\∀j,j<16->Z2f (xs.getD j (.s [])):=by
 obtain⟨g,hn,hf⟩:=h.node
 have h17:xs.length=17:=by
  by_cases h17:xs.length=17
  ·exact h17
  ·rw[Z8T h2 h17]at hn;cases hn
 rw[Z5W h17]at hn;split at hn
 ·cases hn
 ·rename_i v he
  rw[JE,List.all_eq_true]at hn;refine⟨h17,⟨v,he⟩,fun j hj=>?_⟩;rw[Z0y (by omega)];have hm:xs[j]∈xs:=J4 (by omega);have:=hn.1 (xs[j]'(by omega)) (by rw[J9];exact⟨j,by omega,rfl⟩);rw[Bool.or_eq_true]at this;rcases this with h|h
  ·generalize xs[j]=y at h
   cases y with
   |l ys=>cases h
   |s b =>
    cases b with
    |nil=>exact .nil
    |cons a r=>cases h
  ·exact(ZBL h (hf.mem hm)).1
theorem ZF0{b:By}{x:It}(h:Z4Q b=JV x)(hn:isN 17 x=E):∃xs,x=.l xs/\Z2f x:=by
 cases x with
 |s b=>cases hn
 |l xs=>exact⟨xs,rfl,JR (JR ⟨xs,17,rfl,hn,ZAU h⟩)⟩
theorem Z1m{b:By}(h:Z0Q b=0):∃xs,Z4Q b=JV (.l xs)/\isN 17 (.l xs)=E/\Z2f (.l xs):=by
 unfold Z0Q at h;cases hd:Z4Q b with
 |error x =>
  rw[hd]at h;simp only at h;have:=ZDy hd;exact(this h).elim
 |ok x =>
  rw[hd]at h;simp only at h;by_cases hn:isN 17 x=E
  ·obtain⟨xs,rfl,hg⟩:=ZF0 hd hn
   exact⟨xs,rfl,hn,hg⟩
  ·rw[if_neg hn]at h;exact absurd h (by decide)
section
variable{σ:Type}(step:σ->By->σ×Except Int By)
def Z27(go:σ->It->By->σ×Except Int By)(s:σ)(xs:List It)(path:By):σ×Except Int By :=
 if xs.length=2 then(match Z0s (xs.getD 0 (.s []))with
  |some (p,E)=>(s,JV (if p=path then itB (xs.getD 1 (.s []))else[]))
  |some (p,Y)=>if p.isPrefixOf path then go s (xs.getD 1 (.s [])) (path.drop p.length)else(s,JV [])
  |none=>(s,JV []))
 else match path with
  |[]=>(s,JV (itB (xs.getD 16 (.s []))))
  |n::r=>go s (xs.getD n.toNat (.s [])) r
def ZA6:Nat->σ->It->By->σ×Except Int By
 |0,s,_,_=>(s,JV [])
 |f+1,s,.l xs,path=>Z27 (ZA6 f) s xs path
 |f+1,s,.s b,path=>if b=[]then(s,JV [])else match step s b with
  |(s',JB e)=>(s',JB e)
  |(s',JV c)=>if Z0Q c≠0 then(s',JB 161)else match Z4Q c with
   | JV (.l xs)=>Z27 (ZA6 f) s' xs path
   |_=>(s',JB 161)
def way(s:σ)(x:It)(path:By):σ×Except Int By:=ZA6 step (path.length+1) s x path
variable{step}
theorem ZAf{go go':σ->It->By->σ×Except Int By}{s:σ}{xs:List It}{path:By}(hg:Z2f (.l xs))(h:∀(s:σ) (y:It) (q:By),Z2f y->q.length<path.length->go s y q=go' s y q)(hn:∀n∈path,n.toNat<16):Z27 go s xs path=Z27 go' s xs path:=by
 unfold Z27;by_cases h2:xs.length=2
 ·rw[if_pos h2,if_pos h2]
  obtain⟨p,lf,he,h1,h3⟩:=hg.two h2;rw[he];cases lf with
  |true=>rfl
  |false =>
   obtain⟨hp,hgy,_⟩:=h3 rfl;simp only;by_cases hpre:p.isPrefixOf path=E
   ·rw[if_pos hpre,if_pos hpre]
    have hpl:0<p.length:=List.length_pos_iff.2 hp;have hle:p.length<=path.length:=(List.isPrefixOf_iff_prefix.1 hpre).length_le;exact h s _ _ hgy (by rw[J5];omega)
   ·rw[if_neg hpre,if_neg hpre]
 ·rw[if_neg h2,if_neg h2]
  obtain⟨h17,_,hk⟩:=hg.many h2;cases path with
  |nil=>rfl
  |cons n r=>exact h s _ _ (hk _ (hn n (by simp))) (by simp)
theorem Z9z:∀(m f f':Nat) (s:σ) (x:It) (path:By),path.length<=m->path.length<f->path.length<f'->Z2f x->(∀n∈path,n.toNat<16)->ZA6 step f s x path=ZA6 step f' s x path:=by
 intro m
 induction m with
 |zero =>
  intro f f' s x path hm hf hf' hg hn;obtain⟨f,rfl⟩:∃g,f=g+1:=⟨f-1,by omega⟩;obtain⟨f',rfl⟩:∃g,f'=g+1:=⟨f'-1,by omega⟩;have key:∀(s:σ)(xs:List It),Z2f (.l xs)->Z27 (ZA6 step f) s xs path=Z27 (ZA6 step f') s xs path:=fun s xs hg=>ZAf hg (fun s y q _ hq=>absurd hq (by omega)) hn;cases x with
  |l xs=>exact key s xs hg
  |s b =>
   simp only[ZA6];split
   ·rfl
   ·split
    ·rfl
    ·split
     ·rfl
     ·rename_i hc
      obtain⟨xs,hd,_,hgx⟩:=Z1m (Decidable.not_not.1 hc);rw[hd];exact key _ xs hgx
 |succ m ih =>
  intro f f' s x path hm hf hf' hg hn;obtain⟨f,rfl⟩:∃g,f=g+1:=⟨f-1,by omega⟩;obtain⟨f',rfl⟩:∃g,f'=g+1:=⟨f'-1,by omega⟩
  have key:∀(s:σ)(xs:List It),Z2f (.l xs)->Z27 (ZA6 step f) s xs path=Z27 (ZA6 step f') s xs path:=by
   intro s xs hg;have hsub:∀(q:By),q <:+ path->∀n∈q,n.toNat<16:=fun q hq n hnq=>hn n (hq.subset hnq);unfold Z27;by_cases h2:xs.length=2
   ·rw[if_pos h2,if_pos h2]
    obtain⟨p,lf,he,h1,h3⟩:=hg.two h2;rw[he];cases lf with
    |true=>rfl
    |false =>
     obtain⟨hp,hgy,_⟩:=h3 rfl;simp only;by_cases hpre:p.isPrefixOf path=E
     ·rw[if_pos hpre,if_pos hpre]
      have hpl:0<p.length:=List.length_pos_iff.2 hp;have hle:p.length<=path.length:=(List.isPrefixOf_iff_prefix.1 hpre).length_le;have hl:(path.drop p.length).length=path.length-p.length:=J5;exact ih f f' s _ _ (by omega) (by omega) (by omega) hgy (hsub _ (J8 _ _))
     ·rw[if_neg hpre,if_neg hpre]
   ·rw[if_neg h2,if_neg h2]
    obtain⟨h17,_,hk⟩:=hg.many h2;cases path with
    |nil=>rfl
    |cons n r =>
     simp only[J3]at hm hf hf';exact ih f f' s _ _ (by omega) (by omega) (by omega) (hk _ (hn n (by simp))) (fun q hq=>hn q (by simp[hq]))
  cases x with
  |l xs=>exact key s xs hg
  |s b =>
   simp only[ZA6];split
   ·rfl
   ·split
    ·rfl
    ·split
     ·rfl
     ·rename_i hc
      obtain⟨xs,hd,_,hgx⟩:=Z1m (Decidable.not_not.1 hc);rw[hd];exact key _ xs hgx
theorem Z9f{f:Nat}{s:σ}{xs:List It}{path:By}(hg:Z2f (.l xs))(hf:path.length<=f)(hn:∀n∈path,n.toNat<16):Z27 (ZA6 step f) s xs path=Z27 (way step) s xs path:=by
 unfold Z27;by_cases h2:xs.length=2
 ·rw[if_pos h2,if_pos h2]
  obtain⟨p,lf,he,h1,h3⟩:=hg.two h2;rw[he];cases lf with
  |true=>rfl
  |false =>
   obtain⟨hp,hgy,_⟩:=h3 rfl;simp only;by_cases hpre:p.isPrefixOf path=E
   ·rw[if_pos hpre,if_pos hpre]
    have hpl:0<p.length:=List.length_pos_iff.2 hp;have hle:p.length<=path.length:=(List.isPrefixOf_iff_prefix.1 hpre).length_le;have hl:(path.drop p.length).length=path.length-p.length:=J5;exact Z9z _ _ _ s _ _ (I _) (by omega) (by omega) hgy (fun n hnq=>hn n ((J8 _ _).subset hnq))
   ·rw[if_neg hpre,if_neg hpre]
 ·rw[if_neg h2,if_neg h2]
  obtain⟨h17,_,hk⟩:=hg.many h2;cases path with
  |nil=>rfl
  |cons n r =>
   simp only[J3]at hf;exact Z9z _ _ _ s _ _ (I _) (by omega) (by omega) (hk _ (hn n (by simp))) (fun q hq=>hn q (by simp[hq]))
theorem Z7E(s:σ)(path:By):way step s (.s []) path=(s,JV []):=by simp only[way,ZA6,if_true]
theorem Z5D{s:σ}{xs:List It}{path:By}(hg:Z2f (.l xs))(hn:∀n∈path,n.toNat<16):way step s (.l xs) path=Z27 (way step) s xs path:=Z9f hg (I _) hn
theorem Z7D{s s':σ}{b path:By}{e:Int}(hb:b≠[])(h:step s b=(s',JB e)):way step s (.s b) path=(s',JB e):=by
 simp only[way,ZA6];rw[if_neg hb,h]
theorem Z6J{s s':σ}{b c path:By}(hb:b≠[])(h:step s b=(s',JV c))(hc:Z0Q c≠0):way step s (.s b) path=(s',JB 161):=by
 simp only[way,ZA6];rw[if_neg hb,h];simp only;rw[if_pos hc]
theorem Z5C{s s':σ}{b c path:By}{xs:List It}(hb:b≠[])(h:step s b=(s',JV c))(hc:Z0Q c=0)(hd:Z4Q c=JV (.l xs))(hg:Z2f (.l xs))(hn:∀n∈path,n.toNat<16):way step s (.s b) path=Z27 (way step) s' xs path:=by
 simp only[way,ZA6];rw[if_neg hb,h];simp only;rw[if_neg (by simp[hc]),hd];exact Z9f hg (I _) hn
theorem Z4w{go:σ->It->By->σ×Except Int By}{s:σ}{xs:List It}{path p:By}(h2:xs.length=2)(he:Z0s (xs.getD 0 (.s []))=O (p,E)):Z27 go s xs path=(s,JV (if p=path then itB (xs.getD 1 (.s []))else[])):=by
 unfold Z27;rw[if_pos h2,he]
theorem Z6B{go:σ->It->By->σ×Except Int By}{s:σ}{xs:List It}{path p:By}(h2:xs.length=2)(he:Z0s (xs.getD 0 (.s []))=O (p,Y)):Z27 go s xs path=if p.isPrefixOf path then go s (xs.getD 1 (.s [])) (path.drop p.length)else(s,JV []):=by
 unfold Z27;rw[if_pos h2,he]
theorem Z8U{go:σ->It->By->σ×Except Int By}{s:σ}{xs:List It}(h2:xs.length≠2):Z27 go s xs []=(s,JV (itB (xs.getD 16 (.s [])))):=by
 unfold Z27;rw[if_neg h2]
theorem Z8V{go:σ->It->By->σ×Except Int By}{s:σ}{xs:List It}{n:UInt8}{r:By}(h2:xs.length≠2):Z27 go s xs (n::r)=go s (xs.getD n.toNat (.s [])) r:=by
 unfold Z27;rw[if_neg h2]
def downR:Nat->It->By->By×By×By
 |0,_,_=>([],[],[])
 |_+1,.s b,path=>([],path,b)
 |f+1,.l xs,path =>
  if xs.length=2 then(match Z0s (xs.getD 0 (.s []))with
   |some (p,E)=>(if p=path then itB (xs.getD 1 (.s []))else[],[],[])
   |some (p,Y)=>if p.isPrefixOf path then downR f (xs.getD 1 (.s [])) (path.drop p.length)else([],[],[])
   |none=>([],[],[]))
  else match path with
   |[]=>(itB (xs.getD 16 (.s [])),[],[])
   |n::r=>downR f (xs.getD n.toNat (.s [])) r
def Z6R(s:σ)(t:By×By×By):σ×Except Int By:=match t.2.2 with
 |[]=>(s,JV t.1)
 |a::r=>way step s (.s (a::r)) t.2.1
theorem Z5O{f:Nat}{xs:List It}{path p:By}(h2:xs.length=2)(he:Z0s (xs.getD 0 (.s []))=O (p,E)):downR (f+1) (.l xs) path=(if p=path then itB (xs.getD 1 (.s []))else[],[],[]):=by
 simp only[downR];rw[if_pos h2,he]
theorem Z4m{f:Nat}{xs:List It}{path p:By}(h2:xs.length=2)(he:Z0s (xs.getD 0 (.s []))=O (p,Y)):downR (f+1) (.l xs) path=if p.isPrefixOf path then downR f (xs.getD 1 (.s [])) (path.drop p.length)else([],[],[]):=by
 simp only[downR];rw[if_pos h2,he]
theorem Z9H{f:Nat}{xs:List It}(h2:xs.length≠2):downR (f+1) (.l xs) []=(itB (xs.getD 16 (.s [])),[],[]):=by
 simp only[downR];rw[if_neg h2]
theorem Z9I{f:Nat}{xs:List It}{n:UInt8}{r:By}(h2:xs.length≠2):downR (f+1) (.l xs) (n::r)=downR f (xs.getD n.toNat (.s [])) r:=by
 simp only[downR];rw[if_neg h2]
theorem Z69:∀(f:Nat) (s:σ) (x:It) (path:By),path.length<f->Z2f x->(∀n∈path,n.toNat<16)->way step s x path=Z6R (step:=step) s (downR f x path)
 |0,_,_,_,h,_,_=>absurd h (by omega)
 |f+1,s,.s b,path,h,hg,hn=>by
  cases b with
  |nil=>rw[Z7E];rfl
  |cons a r=>rfl
 |f+1,s,.l xs,path,h,hg,hn=>by
  rw[Z5D hg hn];by_cases h2:xs.length=2
  ·obtain⟨p,lf,he,h1,h3⟩:=hg.two h2
   cases lf with
   |true=>rw[Z4w h2 he,Z5O h2 he];rfl
   |false =>
    obtain⟨hp,hgy,_⟩:=h3 rfl;rw[Z6B h2 he,Z4m h2 he];by_cases hpre:p.isPrefixOf path=E
    ·rw[if_pos hpre,if_pos hpre]
     have hpl:0<p.length:=List.length_pos_iff.2 hp;have hle:p.length<=path.length:=(List.isPrefixOf_iff_prefix.1 hpre).length_le;have hl:(path.drop p.length).length=path.length-p.length:=J5;exact Z69 f s _ _ (by omega) hgy (fun n hnq=>hn n ((J8 _ _).subset hnq))
    ·rw[if_neg hpre,if_neg hpre];rfl
  ·obtain⟨h17,_,hk⟩:=hg.many h2
   cases path with
   |nil=>rw[Z8U h2,Z9H h2];rfl
   |cons n r =>
    rw[Z8V h2,Z9I h2];simp only[J3]at h;exact Z69 f s _ _ (by omega) (hk _ (hn n (by simp))) (fun q hq=>hn q (by simp[hq]))
theorem Z8K:∀(f:Nat) (x:It) (path:By),Z2f x->(∀n∈path,n.toNat<16)->(downR f x path).2.2=[]\/(downR f x path).2.2.length=32
 |0,_,_,_,_=>JQ rfl
 |f+1,.s b,path,hg,hn=>by simp only[downR];exact hg.str
 |f+1,.l xs,path,hg,hn=>by
  simp only[downR];by_cases h2:xs.length=2
  ·obtain⟨p,lf,he,h1,h3⟩:=hg.two h2
   rw[if_pos h2,he];cases lf with
   |true=>exact JQ rfl
   |false =>
    obtain⟨hp,hgy,_⟩:=h3 rfl;simp only;by_cases hpre:p.isPrefixOf path=E
    ·rw[if_pos hpre]
     exact Z8K f _ _ hgy (fun n hnq=>hn n ((J8 _ _).subset hnq))
    ·rw[if_neg hpre];exact JQ rfl
  ·obtain⟨h17,_,hk⟩:=hg.many h2
   rw[if_neg h2];cases path with
   |nil=>exact JQ rfl
   |cons n r=>exact Z8K f _ _ (hk _ (hn n (by simp))) (fun q hq=>hn q (by simp[hq]))
theorem Z9J:∀(f:Nat) (xs:List It) (path:By),Z2f (.l xs)->(∀n∈path,n.toNat<16)->(downR f (.l xs) path).2.2≠[]->(downR f (.l xs) path).2.1.length<path.length/\∀n∈(downR f (.l xs) path).2.1,n.toNat<16:=by
 have key:∀(f:Nat)(x:It)(path:By),Z2f x->(∀n∈path,n.toNat<16)->(downR f x path).2.2≠[]->(downR f x path).2.1.length<=path.length/\(∀n∈(downR f x path).2.1,n.toNat<16)/\((∃xs,x=.l xs)->(downR f x path).2.1.length<path.length):=by
  intro f
  induction f with
  |zero=>intro x path _ _ h;exact(h rfl).elim
  |succ f ih =>
   intro x path hg hn h;cases x with
   |s b=>exact⟨I _,hn,fun⟨xs,h⟩=>by cases h⟩
   |l xs =>
    simp only[downR]at h ⊢;by_cases h2:xs.length=2
    ·obtain⟨p,lf,he,h1,h3⟩:=hg.two h2
     rw[if_pos h2,he]at h ⊢;cases lf with
     |true=>exact(h rfl).elim
     |false =>
      obtain⟨hp,hgy,_⟩:=h3 rfl;simp only at h ⊢;by_cases hpre:p.isPrefixOf path=E
      ·rw[if_pos hpre]at h ⊢
       have hpl:0<p.length:=List.length_pos_iff.2 hp;have hle:p.length<=path.length:=(List.isPrefixOf_iff_prefix.1 hpre).length_le;have hl:(path.drop p.length).length=path.length-p.length:=J5;obtain⟨k1,k2,_⟩:=ih _ _ hgy (fun n hnq=>hn n ((J8 _ _).subset hnq)) h;exact⟨by omega,k2,fun _=>by omega⟩
      ·rw[if_neg hpre]at h;exact(h rfl).elim
    ·obtain⟨h17,_,hk⟩:=hg.many h2
     rw[if_neg h2]at h ⊢;cases path with
     |nil=>exact(h rfl).elim
     |cons n r =>
      simp only[J3]at h ⊢;obtain⟨k1,k2,_⟩:=ih _ _ (hk _ (hn n (by simp))) (fun q hq=>hn q (by simp[hq])) h;exact⟨by omega,k2,fun _=>by omega⟩
 intro f xs path hg hn h;obtain⟨_,k2,k3⟩:=key f (.l xs) path hg hn h;exact⟨k3 ⟨xs,rfl⟩,k2⟩
end
theorem nib_lt(k:By):∀n∈nibbles k,n.toNat<16:=by
 intro n hn;unfold nibbles at hn;obtain⟨c,_,hc⟩:=List.mem_flatMap.1 hn;simp only[List.mem_cons,List.not_mem_nil,or_false]at hc;have h1:∀n:Fin 256,((UInt8.ofFin n)>>>4).toNat<16:=by decide +kernel
 have h2:∀n:Fin 256,((UInt8.ofFin n)&&&15).toNat<16:=by decide +kernel
 rcases hc with rfl|rfl
 ·exact h1 c.toFin
 ·exact h2 c.toFin
end Go.Proofs.YtfghidehlnfdiaaGreat
end
