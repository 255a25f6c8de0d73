/- Contracts: few, turned (morainelaw16). -/
/- The walk of ProofMakes. -/
/- Entries as arguments. -/
/- The verification conditions of some functions, printed by a program of ours (wip/PrintVc.lean). -/
/- The walk of ProofTurned. -/
/- The walk of ProofTurned, on. -/
import Derived.Test.YtfghidehlnfdiaaGreatPW18
import Derived.Test.YtfghidehlnfdiaaGreatPW2
import Derived.Test.YtfghidehlnfdiaaGreatProg
import Derived.KernelRfl
set_option linter.unusedVariables false
set_option linter.unusedSimpArgs false
open Array renaming getElem?_toList->JB,replicate->J1
open Go renaming Calls->JG,Value->JH,World->J2
open Go.Ending renaming returned->Y
open Go.IntKind renaming bits->JL,i64->JA,u8->JM,wrap->I
open Go.Proofs.Tryz renaming prog->J
open Go.Sem renaming run->J7
open Int renaming toNat->JF,toNat_natCast->U
open List renaming drop_eq_nil_of_le->J8,getD_eq_getElem?_getD->J4,getElem?_eq_getElem->X,getElem?_map->JJ,getElem?_take->J3,getElem_of_mem->T,getElem_take->E,length_append->K,length_cons->J6,length_drop->V,length_set->Q,length_take->Z,mem_cons_of_mem->JD,mem_cons_self->JI
open Nat renaming le_refl->J5,mul_one->JE,zero_add->J9,zero_le->JK
open Option renaming none->JC,some->J0
section
namespace Go.Proofs.YtfghidehlnfdiaaGreat
open Go Go.Vcg Go.Trie
structure ZBx (l:List (By×By)):Prop where
 len:l.length<=40
 keys:∀e∈l,e.1.length<=64
 vals:∀e∈l,e.2≠[]/\e.2.length<=300
 srt:Z0x l
theorem Z74{l:List (By×By)}{j:Nat}(hj:j<l.length)(h:Z0x (l.take j))(hl:0<j->∃h1:j-1<l.length,ltB l[j-1].1 l[j].1):Z0x (l.take (j+1)):=by
 rw[List.take_succ_eq_append_getElem hj];refine List.pairwise_append.2 ⟨h,List.pairwise_singleton _ _,fun x hx y hy=>?_⟩;obtain rfl:=List.mem_singleton.1 hy;obtain⟨q,hq,rfl⟩:=T hx;rw[Z]at hq;obtain⟨h1,h2⟩:=hl (by omega);rw[E];by_cases he:q=j-1
 ·subst he;exact h2
 ·have hp:=List.pairwise_iff_getElem.1 h q (j-1) (by rw[Z];omega) (by rw[Z];omega) (by omega)
  rw[E,E]at hp;exact Z6p hp h2
theorem ZAT{w:J2}{o:Option Addr}{k:Nat}{l:List (By×By)}(h:StR w o l) :
  JG J Z0W.n #[.slice o l.length k] w (fun e w'=>∃b:Bool,e=Y (.bool b)/\(b=true->ZBx l)/\Vcg.Mod NoB w w'):=by
 refine Z0W.vc _ _ _ _ _ ?_;unfold Z0W.Vc;refine⟨fun _=>⟨false,rfl,fun h=>(by cases h),Mod.refl w⟩,fun hl=>?_⟩;have no:∀w',Vcg.Mod NoB w w'->∃b:Bool,Y (.bool false)=Y (.bool b)/\(b=true->ZBx l)/\Vcg.Mod NoB w w':=fun w' M=>⟨false,rfl,fun h=>(by cases h),M⟩;refine⟨fun i w'=>∃j:Nat,i=(j:Int)/\j<=l.length/\Vcg.Mod NoB w w'/\Z0x (l.take j)/\∀q(hq:q<l.length),q<j->l[q].1.length<=64/\l[q].2≠[]/\l[q].2.length<=300,fun i _=>((l.length:Int)-i).toNat,⟨0,rfl,JK _,Mod.refl w,by rw[List.take_zero];exact List.Pairwise.nil,fun q hq h=>by omega⟩,?_⟩;rintro _ _ w1⟨j,rfl,hj,M,hs,hall⟩;refine⟨fun hlt=>?_,fun hge=>?_⟩
 ·rintro _ rfl
  have hjl:j<l.length:=by omega
  have M2:=M.step_drew;generalize w1.drew=w2 at *
  obtain⟨b,f,ok,kk,ov,kv,rfl,e2,e3,e4,e5,e6⟩:=h.mod' M2 j hjl;have ck:w2.cell? (Addr.add ⟨b,f,JC⟩ (JF (j:Int)*2))=J0 (.slice ok l[j].1.length kk):=by rw[Z2,U];exact e3
  have cv:w2.cell? (Addr.add (Addr.add ⟨b,f,JC⟩ (JF (j:Int)*2)) 1)=J0 (.slice ov l[j].2.length kv):=by rw[Z2,Z2,U,Nat.add_assoc];exact e5
  refine⟨_,rfl,⟨by omega,by omega⟩,_,_,_,ck,fun _=>no _ M2,fun h1=>⟨_,rfl,⟨by omega,by omega⟩,_,_,_,cv,fun _=>no _ M2,fun h2=>⟨_,rfl,⟨by omega,by omega⟩,_,_,_,cv,fun _=>no _ M2,fun h3=>?_⟩⟩⟩;have ew:I JA ((j:Int)+1)=((j+1:Nat):Int):=by rw[Z0 (by omega) (by omega)];omega
  have hv:l[j].2≠[]:=by intro e;rw[e]at h2;simp at h2
  have hall':∀q(hq:q<l.length),q<j+1->l[q].1.length<=64/\l[q].2≠[]/\l[q].2.length<=300:=fun q hq hqj=>by
   by_cases hqe:q=j
   ·subst hqe;exact⟨by omega,hv,by omega⟩
   ·exact hall q hq (by omega)
  refine⟨fun hpos=>?_,fun hz=>?_⟩
  ·have ew1:I JA ((j:Int)-1)=((j-1:Nat):Int):=by rw[Z0 (by omega) (by omega)];omega
   obtain⟨b',f',ok',kk',ov',kv',hb',g2,g3,g4,g5,g6⟩:=h.mod' M2 (j-1) (by omega);cases hb';refine⟨_,rfl,by rw[ew1];exact⟨by omega,by omega⟩,_,_,_,by rw[Z2,ew1,U];exact g3,_,rfl,⟨by omega,by omega⟩,_,_,_,ck,?_⟩;have hkl:=(hall (j-1) (by omega) (by omega)).1;refine(ZCf g4 e4 (by omega)).mono ?_;rintro _ w3⟨rfl,M3⟩;have M23:=M2.none_trans M3;refine⟨_,rfl,fun _=>no _ M23,fun hneg=>?_⟩;rw[ew];exact⟨⟨j+1,rfl,hjl,M23,Z74 hjl hs (fun _=>⟨by omega,Z3h.1 (by omega)⟩),hall'⟩,by dsimp only;omega⟩
  ·rw[ew]
   exact⟨⟨j+1,rfl,hjl,M2,Z74 hjl hs (fun h=>by omega),hall'⟩,by dsimp only;omega⟩
 ·obtain rfl:j=l.length:=by omega
  rw[List.take_of_length_le (J5 _)]at hs;refine⟨true,rfl,fun _=>⟨by omega,fun e he=>?_,fun e he=>?_,hs⟩,M⟩
  ·obtain⟨q,hq,rfl⟩:=T he
   exact(hall q hq hq).1
  ·obtain⟨q,hq,rfl⟩:=T he
   exact(hall q hq hq).2
section
variable{w w':J2}{lab:Nat->Nat}{c:Nat}
end
theorem StR.kv{w:J2}{o:Option Addr}{m:List (By×By)}(h:StR w o m):Z4g w (fun _=>0) 0 o m:=fun j hj=>by
 obtain⟨b,f,ok,kk,ov,kv,e1,e2,e3,e4,e5,e6⟩:=h j hj;exact⟨b,f,ok,kk,ov,kv,e1,e2,rfl,e3,⟨e4,fun _ _ _=>rfl⟩,e5,⟨e6,fun _ _ _=>rfl⟩⟩
theorem ZBx.kv{m:List (By×By)}(h:ZBx m):KvOk m:=⟨by have:=h.len;omega,h.keys,fun e he=>by have:=(h.vals e he).2;omega⟩
theorem ZBx.trie{m:List (By×By)}(h:ZBx m):∃n,Rep (Z0A m) n/\Z1N n/\Z5I n/\cnt n<=160:=by
 obtain⟨n,h1,h2,h3,h4⟩:=ZFJ m h.srt h.keys (fun e he=>⟨(h.vals e he).1,by have:=(h.vals e he).2;omega⟩);have:=h.len;exact⟨n,h1,h2,Z6F h2 h3,by omega⟩
theorem ZE8{H:Type}{enc:TypeId×JH->H}{W:J2}{sp:Nat->Bool}{held:Bool}{base:Nat}{fuel:Nat}{v:JH}{d:DataW H}{ps:List MemPlace}(h:DataW.trod enc J W base sp held fuel 22 [v]=J0 (d,ps)) :
  ∃o c l,v=.slice o l.length c/\l.length<=c/\StR W o l:=by
 obtain⟨o,c,l,h1,h2,h3,_⟩:=ZD7 ZBr (by kernel_rfl) Tryz.underlying53 rfl rfl rfl rfl rfl rfl h;exact⟨o,c,l,h1,h2,h3⟩
end Go.Proofs.YtfghidehlnfdiaaGreat
end
section
namespace Go.Proofs.YtfghidehlnfdiaaGreat
open Go Go.Vcg
abbrev ZQ.n:Nat:=3
def ZQ.Vc(a:Option Addr)(b c:Nat)(d:Option Addr)(e f:Nat)(g h i:Int)(j:Option Addr)(k l:Nat)(w:J2)(R:Ending->J2->Prop):Prop :=
 JG J 6 #[] w (fun m n =>
 ∃o,m=Y (.bool o) /\
 ((o=false ->
 R (Y (.bool false)) n) /\
 (o=true ->
 JG J 7 #[.slice a b c] n (fun m n =>
 ∃o,m=Y (.bool o) /\
 ((o=false ->
 R (Y (.bool true)) n) /\
 (o=true ->
 (((k:Int)>300 ->
 R (Y (.bool true)) n) /\
 (¬(k:Int)>300 ->
 JG J 8 #[.slice a b c] n (fun a b =>
 ∃c m n o,a=Y (.tuple #[.agg c,.slice m n o]) /\
 ∀a p,Z5 b 27 (J1 32 (.int JM 0)) a p ->
 ∃b,J7 J (Instr.storeAt 27 (.pointer (J0 a)) (.agg c)) p=.ok () b /\
 ∀c,ZF b c ->
 ∃b,ZD c a 32 b /\
 JG J 10 #[.slice m n o] c (fun c m =>
 ∃n o p,c=Y (.slice n o p) /\
 ZD m a 32 b /\
 JG J 9 #[.slice n o p,.agg b,.slice d e f] m (fun b c =>
 ∃m n o p,b=Y (.tuple #[.slice m n o,.int JA p]) /\
 ((p≠0 ->
 R (Y (.bool true)) c) /\
 (p=0 ->
 ∃(b:Option Addr->Nat->Nat->J2->Prop),(∃(p:Bool->J2->Prop),((g>=0 ->
 p (decide (g<(n:Int))) c) /\
 (¬g>=0 ->
 p false c)) /\
 (∀(c:Bool)(q:Nat->JH)(q:J2),p c q ->
 ((c=true ->
 JG J 11 #[.slice m n o] q (fun p r =>
 ∃s t u,p=Y (.slice s t u) /\
 ∃(p:Bool->J2->Prop),((h>=0 ->
 ∃v,s=J0 v /\
 ((0:Int)<=g/\g<(t:Int)) /\
 ∃x y z,r.cell? (v.add g.toNat)=J0 (.slice x y z) /\
 p (decide (h<(y:Int))) r) /\
 (¬h>=0 ->
 p false r)) /\
 (∀(r:Bool)(v:Nat->JH)(v:J2),p r v ->
 ((r=true ->
 ∀p,ZF v p ->
 ∃x,s=J0 x /\
 ((0:Int)<=g/\g<(t:Int)) /\
 ∃y z A,p.cell? (x.add g.toNat)=J0 (.slice y z A) /\
 ∃x,s=J0 x /\
 ((0:Int)<=g/\g<(t:Int)) /\
 ∃A B C,p.cell? (x.add g.toNat)=J0 (.slice A B C) /\
 ∃x,A=J0 x /\
 ((0:Int)<=h/\h<(B:Int)) /\
 ∃A,p.cell? (x.add h.toNat)=J0 (.int JM A) /\
 ∃x,y=J0 x /\
 ((0:Int)<=h/\h<(z:Int)) /\
 Z1 p (x.add h.toNat) (.int JM (bitsI .xor JM A i))/\∀y,Z3 p (x.add h.toNat) (.int JM (bitsI .xor JM A i)) y ->
 b s t u y) /\
 (r=false ->
 ∀h,ZF v h ->
 ∃i,J7 J (Instr.sliceAt 31 (.slice s t u) JC (J0 (.int JA g)) (J0 (.int JA g))) h=.ok i h /\
 ∃p r v,i=(.slice p r v) /\
 ((0:Int)<=(I JA (g+1))/\(I JA (g+1))<=(t:Int)) /\
 ∃i x,J7 J (builtinV .append #[31,31] 31 #[.slice p r v,.slice (subO s u (JF (I JA (g+1))) 1) (t-(JF (I JA (g+1)))) (u-(JF (I JA (g+1))))]) h=.ok i x /\
 ∃g h p,i=(.slice g h p) /\
 b g h p x))))) /\
 (c=false ->
 b m n o q)))) /\
 (∀(c:Option Addr)(g:Nat)(h:Nat)(i:Nat->JH)(i:J2),b c g h i ->
 (((k:Int)>0 ->
 ∃b,J7 J (Instr.sliceAt 31 (.slice c g h) JC (J0 (.int JA (g:Int))) (J0 (.int JA (g:Int)))) i=.ok b i /\
 ∃m n o,b=(.slice m n o) /\
 ∀b p,Z5 i 23 #[.slice j k l] b p ->
 ∃j l,J7 J (builtinV .append #[31,31] 31 #[.slice m n o,.slice (J0 b) 1 1]) p=.ok j l /\
 ∃b m n,j=(.slice b m n) /\
 ∃j,ZD l a 32 j /\
 JG J 12 #[.agg j,.slice d e f,.slice b m n] l (fun b j =>
 ∃l,b=Y (.bool l) /\
 R (Y (.bool l)) j)) /\
 (¬(k:Int)>0 ->
 ∃b,ZD i a 32 b /\
 JG J 12 #[.agg b,.slice d e f,.slice c g h] i (fun a b =>
 ∃c,a=Y (.bool c) /\
 R (Y (.bool c)) b)))))))))))))))))
theorem ZQ.vc(a b c d e f g i j k l m w R)(h:ZQ.Vc a b c d e f g i j k l m w R):JG J 3 #[(.slice a b c),(.slice d e f),(.int JA g),(.int JA i),(.int JM j),(.slice k l m)] w R:=xs [(1000014,[(15,.cell (.slice))]),(1000010,[(49,.cell (.bool))]),(1000012,[(62,.cell (.bool))])] [.slice a b c,.slice d e f,.int JA g,.int JA i,.int JM j,.slice k l m] Tryz.func3 ZI (by kernel_rfl) h
end Go.Proofs.YtfghidehlnfdiaaGreat
end
section
namespace Go.Proofs.YtfghidehlnfdiaaGreat
open Go Go.Vcg Go.Trie
theorem Z6g:∀{l:List (By×By)} {h b:By},Z1n l h=J0 b->(h,b)∈l
 |[],h,b,e=>by simp[Z1n]at e
 |x::r,h,b,e=>by
  simp only[Z1n]at e;split at e
  ·rename_i hx
   cases e;rw[<-hx];exact JI
  ·exact JD _ (Z6g e)
theorem ZAz{l:List (By×By)}:∀(k:Nat) (path:By),path.length<=k->(∀n∈path,n.toNat<16) ->
  (∀s xs,Z2f (.l xs)->∃r,(Z27 (way (pStep l)) s xs path).1=s++r/\r.length<=path.length/\∀b∈r,∃h,(h,b)∈l)/\(∀s x,Z2f x->∃r,(way (pStep l) s x path).1=s++r/\r.length<=path.length+1/\∀b∈r,∃h,(h,b)∈l)
 |k,path,hk,hn=>by
  have JC:∀s:List By,∃r:List By,s=s++r/\r.length<=path.length/\∀b∈r,∃h,(h,b)∈l:=fun s=>⟨[],by simp,JK _,fun b hb=>by cases hb⟩;have none1:∀s:List By,∃r:List By,s=s++r/\r.length<=path.length+1/\∀b∈r,∃h,(h,b)∈l:=fun s=>⟨[],by simp,JK _,fun b hb=>by cases hb⟩
  have hnode:∀s xs,Z2f (.l xs)->∃r,(Z27 (way (pStep l)) s xs path).1=s++r/\r.length<=path.length/\∀b∈r,∃h,(h,b)∈l:=by
   intro s xs hg;by_cases hx:xs.length=2
   ·obtain⟨p,lf,he,hv,hp⟩:=hg.two hx
    cases lf with
    |true=>rw[Z4w hx he];exact JC s
    |false =>
     obtain⟨hpn,hgy,_⟩:=hp rfl;rw[Z6B hx he];by_cases hpre:p.isPrefixOf path=true
     ·rw[if_pos hpre]
      have hpl:0<p.length:=List.length_pos_iff.2 hpn;have hle:p.length<=path.length:=(List.isPrefixOf_iff_prefix.1 hpre).length_le;obtain⟨k',rfl⟩:∃k',k=k'+1:=⟨k-1,by omega⟩;obtain⟨r,e1,e2,e3⟩:=(ZAz k' (path.drop p.length) (by rw[V];omega) (fun n hm=>hn n (List.mem_of_mem_drop hm))).2 s _ hgy;rw[V]at e2;exact⟨r,e1,by omega,e3⟩
     ·rw[if_neg hpre];exact JC s
   ·obtain⟨_,_,hkid⟩:=hg.many hx
    cases path with
    |nil=>rw[Z8U hx];exact JC s
    |cons n r =>
     rw[Z8V hx];obtain⟨k',rfl⟩:∃k',k=k'+1:=⟨k-1,by simp only[J6]at hk;omega⟩;obtain⟨r2,e1,e2,e3⟩:=(ZAz k' r (by simp only[J6]at hk;omega) (fun m hm=>hn m (JD _ hm))).2 s _ (hkid n.toNat (hn n JI));exact⟨r2,e1,by simp only[J6];omega,e3⟩
  refine⟨hnode,fun s x hg=>?_⟩;cases x with
  |s b =>
   by_cases hb:b=[]
   ·subst hb;rw[Z7E];exact none1 s
   ·cases hf:Z1n l b with
    |none=>rw[Z7D hb (show pStep l s b=(s,.error 160) by unfold pStep;rw[hf])];exact none1 s
    |some c =>
     have hst:pStep l s b=(s++[c],.ok c):=by unfold pStep;rw[hf]
     by_cases hc:Z0Q c=0
     ·obtain⟨xs,hd,_,hgx⟩:=Z1m hc
      rw[Z5C hb hst hc hd hgx hn];obtain⟨r,e1,e2,e3⟩:=hnode (s++[c]) xs hgx;refine⟨[c]++r,by rw[e1,List.append_assoc],by simp;omega,fun x hx=>?_⟩;rcases List.mem_append.1 hx with hx|hx
      ·obtain rfl:=List.mem_singleton.1 hx
       exact⟨_,Z6g hf⟩
      ·exact e3 x hx
     ·rw[Z6J hb hst hc]
      exact⟨[c],rfl,by simp,fun x hx=>by
       obtain rfl:=List.mem_singleton.1 hx;exact⟨_,Z6g hf⟩⟩
  |l xs =>
   rw[Z5D hg hn];obtain⟨r,e1,e2,e3⟩:=hnode s xs hg;exact⟨r,e1,by omega,e3⟩
theorem ZCD{l:List (By×By)}{root key:By}{p:List By}(h:Z28 l root key=.ok p)(h32:root.length=32):p.length<=129/\∀b∈p,∃h,(h,b)∈l:=by
 by_cases h1:l.length>4096
 ·unfold Z28 at h;rw[if_pos h1]at h;cases h
 ·by_cases h2:key.length>64
  ·unfold Z28 at h;rw[if_neg h1,if_pos h2]at h;cases h
  ·rw[Z5Y h1 h2]at h
   have hnl:=ZG key;obtain⟨r,e1,e2,e3⟩:=(ZAz (l:=l) _ (nibbles key) (J5 _) (nib_lt key)).2 [] _ (Z9U h32);cases hw:way (pStep l) [] (rootIt root) (nibbles key)with
   |mk out res =>
    rw[hw]at h e1;simp only[List.nil_append]at e1;cases res with
    |error er=>cases h
    |ok v =>
     cases h;rw[e1];exact⟨by omega,e3⟩
def LsR(w:J2)(o:Option Addr)(ls:List By):Prop:=∃vs,Z42 w (fun _=>(0:Nat)) 0 o vs/\Z0C w (fun _=>0) 0 vs ls
section
variable{w w':J2}{o:Option Addr}{ls:List By}
theorem LsR.rd(h:LsR w o ls):Z5G w (fun _=>0) 0 ls o:=fun j hj=>by
 obtain⟨vs,h1,h2⟩:=h;obtain⟨ob,kb,e1,e2,e3⟩:=h2.2 j hj;obtain⟨g,f,ho,hg,hl,hc⟩:=h1 _ _ e1;exact⟨g,f,ob,kb,ho,hg,hl,hc,e2,e3⟩
theorem Z0C.re0{lab:Nat->Nat}{cb:Nat}{vs:List JH}(h:Z0C w lab cb vs ls):Z0C w (fun _=>0) 0 vs ls :=
 ⟨h.1,fun j hj=>by obtain⟨ob,kb,e1,e2,e3⟩:=h.2 j hj;exact⟨ob,kb,e1,CBy.re e2 (fun _ _ _=>rfl),e3⟩⟩
theorem LsR.mod'(h:LsR w o ls)(M:Vcg.Mod NoB w w'):LsR w' o ls:=by
 obtain⟨vs,h1,h2⟩:=h;exact⟨vs,Z42.re (h1.stp (S:=NoS) (Stp.of_nob M 0) (fun h=>h)) (fun _ _ _=>rfl),(h2.stp (S:=NoS) (Stp.of_nob M 0) (fun h=>h)).re0⟩
theorem Z2T.rows{lab:Nat->Nat}{c cb n k:Nat}(h:Z2T w lab c cb ls o n k):LsR w o ls:=by
 obtain⟨_,vs,h1,h2⟩:=h;exact⟨vs,Z42.re (COw.row h1) (fun _ _ _=>rfl),h2.re0⟩
theorem LsC.rows{lab:Nat->Nat}{n k:Nat}(h:LsC w lab ls o n k):LsR w o ls:=by
 obtain⟨_,vs,h1,h2,h3⟩:=h;refine⟨vs,Z42.re (COw.row h1) (fun _ _ _=>rfl),h2,fun j hj=>?_⟩;obtain⟨ob,kb,e1,e2⟩:=h3 j hj;exact⟨ob,kb,e1,⟨e2.own.bytes,fun _ _ _=>rfl⟩,e2.own.cap.1⟩
theorem Z0C.take{vs:List JH}{lab:Nat->Nat}{cb:Nat}(h:Z0C w lab cb vs ls){n:Nat}(hn:n<=ls.length):Z0C w lab cb (vs.take n) (ls.take n):=by
 refine⟨by rw[Z,Z,h.1],fun j hj=>?_⟩;rw[Z]at hj;obtain⟨ob,kb,a,b,e⟩:=h.2 j (by omega);rw[E];exact⟨ob,kb,by rw[J3,if_pos (by omega)];exact a,b,e⟩
theorem Z0C.drop{vs:List JH}{lab:Nat->Nat}{cb:Nat}(h:Z0C w lab cb vs ls)(n:Nat):Z0C w lab cb (vs.drop n) (ls.drop n):=by
 refine⟨by rw[V,V,h.1],fun j hj=>?_⟩;rw[V]at hj;obtain⟨ob,kb,a,b,e⟩:=h.2 (n+j) (by omega);rw[List.getElem_drop];exact⟨ob,kb,by rw[List.getElem?_drop];exact a,b,e⟩
theorem Z0C.append{vs us:List JH}{ms:List By}{lab:Nat->Nat}{cb:Nat}(h:Z0C w lab cb vs ls)(k:Z0C w lab cb us ms):Z0C w lab cb (vs++us) (ls++ms):=by
 have h1:=h.1;have k1:=k.1;refine⟨by rw[K,K,h1,k1],fun j hj=>?_⟩;rw[K]at hj;by_cases hl:j<ls.length
 ·rw[List.getElem_append_left hl,List.getElem?_append_left (by omega)]
  exact h.2 j hl
 ·rw[List.getElem_append_right (by omega),List.getElem?_append_right (by omega),h1]
  exact k.2 (j-ls.length) (by omega)
theorem Z0C.one{vs:List JH}{lab:Nat->Nat}{cb:Nat}(h:Z0C w lab cb vs ls):∀u∈vs,u.oneCell'=true:=fun u hu=>by
 obtain⟨q,hq,rfl⟩:=T hu;obtain⟨ob,kb,a,_⟩:=h.2 q (by rw[<-h.1];exact hq);rw[X hq]at a;rw[Option.some.inj a];rfl
theorem Z94{g f l c:Nat}{x:JH}(src:Src J 1 Z1t x 0 [] w)(hl:l<=c) :
  J7 J (builtinV .append #[Z1t,Z1t] Z1t #[.slice (J0 ⟨g,f,JC⟩) l c,x]) w=.ok (.slice (J0 ⟨g,f,JC⟩) l c) w:=by
 obtain⟨i,hi,hz,hs,hb⟩:=Z1f Z26;exact run_append_room_src (P:=J) w Z1t Z1t Z1t Zy i Z1D hi g f l c x 0 [] (hs ▸ src) (by omega) (fun j hj=>by simp at hj) (fun j hj=>by simp at hj)
theorem ZFe{k at_:Nat}(h:LsR w o ls)(ha:at_<ls.length)(hk:ls.length<=k)(hl:ls.length<=2^20) :
  ∃o' k' w',J7 J (builtinV .append #[Z1t,Z1t] Z1t #[.slice o at_ at_,.slice (subO o k (at_+1) 1) (ls.length-(at_+1)) (k-(at_+1))]) w=.ok (.slice o' (ls.take at_++ls.drop (at_+1)).length k') w'/\(ls.take at_++ls.drop (at_+1)).length<=k'/\Vcg.Mod NoB w w'/\LsR w' o' (ls.take at_++ls.drop (at_+1)):=by
 obtain⟨vs,C,N⟩:=h;have hvl:=N.1;obtain⟨i,hi,hz,hs,hbt⟩:=Z1f Z26;have T1:=Z42.take C at_;have T2:=Z42.drop C (cap:=k) (n:=at_+1) (sz:=1) (by omega);rw[JE]at T2;have K1:=N.take (n:=at_) (by omega);have K2:=N.drop (at_+1);have hl1:(ls.take at_++ls.drop (at_+1)).length=at_+(ls.length-(at_+1)):=by rw[K,Z,V];omega
 have src2:Src J 1 Z1t (.slice (subO o k (at_+1) 1) (ls.length-(at_+1)) (k-(at_+1))) (ls.length-(at_+1)) (vs.drop (at_+1)) w:=Z42.src T2 Z1D (by rw[V,hvl];omega) K2.one _ (by omega);rcases Nat.eq_zero_or_pos (ls.length-(at_+1))with hq|hq
 ·have hd:vs.drop (at_+1)=[]:=J8 (by omega)
  have hdl:ls.drop (at_+1)=[]:=J8 (by omega);rw[hd,hq]at src2;rw[hq,hl1,hq];obtain⟨b,f,ho,_⟩:=C 0 (vs[0]'(by omega)) (X _);subst ho;refine⟨J0 ⟨b,f,JC⟩,at_,w,Z94 src2 (J5 _),J5 _,Mod.refl w,?_⟩;rw[hdl,List.append_nil];exact⟨_,T1,K1⟩
 ·obtain⟨q,hq2⟩:∃q,ls.length-(at_+1)=q+1:=⟨ls.length-(at_+1)-1,by omega⟩
  rw[hq2]at src2 hl1 ⊢;obtain⟨o',c',w6,hr,F⟩:=Z6U (tx:=Z1t) (ty:=Z1t) T1 Z1D hi hz hs (by rfl) (by decide) (l:=at_) (by rw[Z,hvl];omega) src2 (by simp only[maxLen];omega) (by rw[hbt];omega);refine⟨o',c',w6,by rw[hl1];exact hr,by rw[hl1];exact F.own.cap.1,F.mod,_,Z42.re (F.done (lab:=fun _=>(0:Nat)) 0).1.row (fun _ _ _=>rfl),?_⟩;have s6:Stp NoS w (fun _=>(0:Nat)) w6 _:=Stp.of_nob F.mod 0;exact(Z0C.append (K1.stp s6 (fun h=>h)) (K2.stp s6 (fun h=>h))).re0
theorem ZF8{D:Nat}{b:By}{ob:Option Addr}{kb:Nat}(h:LsR w o ls)(B:Blk w D Zy #[.slice ob b.length kb])(hb:RdB w ob b)(hk:b.length<=kb)(hl:ls.length<=2^20) :
  ∃o' k' w',J7 J (builtinV .append #[Z1t,Z1t] Z1t #[.slice o ls.length ls.length,.slice (J0 ⟨D,0,JC⟩) 1 1]) w=.ok (.slice o' (ls++[b]).length k') w'/\Vcg.Mod NoB w w'/\LsR w' o' (ls++[b]):=by
 obtain⟨vs,C,N⟩:=h;obtain⟨i,hi,hz,hs,hbt⟩:=Z1f Z26;obtain⟨o',c',w6,hr,F⟩:=Z6U (tx:=Z1t) (ty:=Z1t) (m:=0) C Z1D hi hz hs (by rfl) (by decide) (l:=ls.length) (by rw[N.1,JE]) (Z3T Z1D B rfl (by simp[Value.oneCell'])) (by simp only[maxLen];omega) (by rw[hbt];omega);refine⟨o',c',w6,by rw[K,List.length_singleton];exact hr,F.mod,_,Z42.re (F.done (lab:=fun _=>(0:Nat)) 0).1.row (fun _ _ _=>rfl),?_⟩;have s6:Stp NoS w (fun _=>(0:Nat)) w6 _:=Stp.of_nob F.mod 0;exact((N.push ⟨hb,fun _ _ _=>rfl⟩ hk).stp s6 (fun h=>h)).re0
theorem LsC.write{L:Nat->Nat}{n k at_ place:Nat}{x:UInt8}(h:LsC w L ls o n k)(ha:at_<ls.length)(hp:place<ls[at_].length) :
  ∃g kb G,(∀w',Vcg.Mod NoB w w'->(∃d,o=J0 d/\w'.cell? (d.add at_)=J0 (.slice (J0 ⟨g,0,JC⟩) ls[at_].length kb))/\w'.cell? ⟨g,place,JC⟩=J0 (bV ls[at_][place])/\Z1 w' ⟨g,place,JC⟩ (bV x)/\LsR (w'.setCell ⟨g,place,JC⟩ (bV x)) o (ls.set at_ (ls[at_].set place x)))/\L g=10+at_/\G=g:=by
 obtain⟨rfl,vs,h1,h2,h3⟩:=h;obtain⟨ob,kb,e1,e2⟩:=h3 at_ ha;obtain⟨G,hG,hcell⟩:=h1.own.cell e1;rcases e2.own.2 with⟨_,h0,_⟩|⟨g,cur,rfl,hB,hlc,hcm,hcs,htk⟩
 ·omega
 have hLg:L g=10+at_:=e2.clr g ⟨_,rfl,rfl⟩;have hglt:=hB.lt;refine⟨g,kb,g,fun w' M=>?_,hLg,rfl⟩;have s:=Stp.same M L;have hB':=hB.mod' M;have hsz:place<cur.size:=by rw[hcs];omega
 have hcv:cur[place]?=J0 (bV ls[at_][place]):=by
  have:=congrArg (fun l=>l[place]?) htk;simp only[J3,JE,hp,if_true,JJ]at this;rw[JB]at this;rw[this,X hp];rfl
 refine⟨⟨_,hG,by rw[Z2,J9,ZK M (h1.own.lt ⟨_,hG,rfl⟩) (fun h=>h)];exact hcell⟩,by rw[hB'.cell];exact hcv,hB'.canSet hsz rfl,?_⟩;have s2:Stp (·=10+at_) w' L (w'.setCell ⟨g,place,JC⟩ (bV x)) L:=Stp.setCell (w:=w') (a:=⟨g,place,JC⟩) hLg;have O:=(h1.stp s (fun h=>h)).stp s2 (by omega);refine⟨vs,Z42.re (COw.row O) (fun _ _ _=>rfl),by rw[h2,Q],fun j hj=>?_⟩;rw[Q]at hj;by_cases hja:j=at_
 ·subst hja
  rw[List.getElem_set_self];refine⟨_,kb,by rw[e1,Q],⟨RdB.of_blk (hB'.set place (bV x)) (fun i hi=>?_),fun _ _ _=>rfl⟩,by rw[Q];exact hlc⟩;rw[Q]at hi;rw[J9];by_cases hip:i=place
  ·subst hip
   rw[Array.getElem?_setIfInBounds_self_of_lt hsz];simp[J4,hi]
  ·rw[Array.getElem?_setIfInBounds_ne (by omega)]
   have hcv:cur[i]?=J0 (bV ls[j][i]):=by
    have:=congrArg (fun l=>l[i]?) htk;simp only[J3,JE,hi,if_true,JJ]at this;rw[JB]at this;rw[this,X hi];rfl
   rw[hcv,J4,List.getElem?_set_ne (fun e=>hip e.symm),X hi];rfl
 ·rw[List.getElem_set_ne (fun e=>hja e.symm)]
  obtain⟨ob',kb',a1,a2⟩:=h3 j hj;have O2:=(a2.stp s (fun h=>h)).stp s2 (by omega);exact⟨ob',kb',a1,⟨O2.own.bytes,fun _ _ _=>rfl⟩,O2.own.cap.1⟩
end
def TurnJ(w0:J2)(D:Nat)(root:By)(o:Option Addr)(l c:Nat)(w:J2):Prop :=
 Vcg.Mod NoB w0 w/\Blk w D 27 (hashA root)/\∃ls:List By,l=ls.length/\l<=c/\l<=2^20/\LsR w o ls
theorem ZEM(a b:Int):∃x:UInt8,(Value.int JM (bitsI .xor JM a b))=bV x:=by
 obtain⟨x,hx⟩:=ZA2 (((BitVec.ofInt (JL JM) a)^^^(BitVec.ofInt (JL JM) b)).toNat:Int);exact⟨x,by unfold bV bitsI;simp only;rw[hx]⟩
theorem Z8z(w:J2){o0 o1 o5:Option Addr}{c0 c1 c5:Nat}{m:List (By×By)}{key more:By}{at_ place by_:Int}(hm:StR w o0 m)(hkey:RdB w o1 key)(hmore:RdB w o5 more)(hmk:more.length<=c5) :
  JG J ZQ.n #[.slice o0 m.length c0,.slice o1 key.length c1,.int JA at_,.int JA place,.int JM by_,.slice o5 more.length c5] w (fun e w'=>e=Y (.bool true)/\Vcg.Mod NoB w w'):=by
 refine ZQ.vc _ _ _ _ _ _ _ _ _ _ _ _ _ _ ?_;unfold ZQ.Vc;refine(Z4s w).mono ?_;rintro _ w1⟨rfl,M1⟩;refine⟨_,rfl,fun h=>(by cases h),fun _=>?_⟩;refine(ZAT (k:=c0) (hm.mod' M1)).mono ?_;rintro _ w2⟨bf,rfl,hfew,M12⟩;have M2:=M1.none_trans M12;refine⟨_,rfl,fun _=>⟨rfl,M2⟩,fun hbf=>⟨fun _=>⟨rfl,M2⟩,fun hml=>?_⟩⟩;have hf:=hfew hbf;obtain⟨n,q1,q2,q3,q4⟩:=hf.trie;have hnl:=ZD3 n;refine(ZB4 (k:=c0) (hm.mod' M2).kv hf.kv q1 q2 q3 (by omega) 0).mono ?_;rintro _ w3⟨o3,k3,rfl,M23,N3⟩;have M3:=M2.none_trans M23;refine⟨_,_,_,_,rfl,?_⟩;rintro d w4⟨rfl,rfl⟩;have H4:=Blk.new w3 27 (J1 32 (.int JM 0));obtain⟨g1,g2,g3⟩:=Z0k H4 (by simp) (rootOf n);have M34:=ZC (Mod.alloc w3 (.cells (J1 32 (.int JM 0)) 27)) g3 (J5 _);refine⟨_,g1,?_⟩;rintro _ rfl;have M35:=M34.step_drew;have M5:=M3.none_trans M35;have H5:=g2.drew;have N5:Z18 _ (fun _=>0) 0 (Z12 n) o3 (Z12 n).length:=(N3.stp (S:=NoS) (Stp.of_nob M35 0) (fun h=>h)).re (lab':=fun _=>0) (c':=0) (fun _ _ _=>rfl);generalize w3.heap.size=D at *
 generalize((w3.alloc (.cells (J1 32 (.int JM 0)) 27)).setRow D (hashA (rootOf n))).drew=w5 at *
 refine⟨_,H5.rowAll (Z4 _),?_⟩;refine(Z2k (k:=k3) N5 (Z6t q3) (by omega) 0).mono ?_;rintro _ w6⟨o6,k6,rfl,_,M56,N6⟩;have M6:=M5.none_trans M56;have H6:=H5.mod' M56;refine⟨_,_,_,rfl,H6.rowAll (Z4 _),?_⟩;refine(Z9o (root:=rootOf n) (k:=k6) (kk:=c1) N6 (by omega) (ZN _) (hkey.mod' M6)).mono ?_;intro e7 w7 hp7;have M67:=hp7.1;have M7:=M6.none_trans M67;have H7:=H6.mod' M67;cases hpr:Z28 (Z12 n) (rootOf n) key with
 |error er =>
  obtain⟨_,hpe⟩:=hp7;rw[hpr]at hpe;obtain⟨her,rfl⟩:=hpe;exact⟨_,_,_,_,rfl,fun _=>⟨rfl,M7⟩,fun h=>(her h).elim⟩
 |ok p =>
  obtain⟨_,o7,n7,k7,rfl,lab,c,cb,hO⟩:=hp7.ok hpr;obtain⟨hpl,hpm⟩:=ZCD hpr (ZN _)
  have hpb:∀x∈p,x.length<=2^30:=fun x hx=>by
   obtain⟨h,hh⟩:=hpm x hx;have:=Z6t q3 _ hh;dsimp only at this;omega
  have hR7:=hO.rows;have hcap:n7<=k7:=by obtain⟨_,vs,h1,_⟩:=hO;exact h1.own.cap.1
  obtain rfl:n7=p.length:=hO.1;refine⟨_,_,_,_,rfl,fun h=>(h rfl).elim,fun _=>?_⟩;refine⟨TurnJ w D (rootOf n),⟨fun b w'=>w'=w7/\(b=true->0<=at_/\at_<p.length),⟨fun h0=>⟨rfl,fun h=>⟨h0,of_decide_eq_true h⟩⟩,fun _=>⟨rfl,fun h=>(by cases h)⟩⟩,?_⟩,?_⟩
  ·rintro b _ w8⟨rfl,hb⟩
   refine⟨fun hbt=>?_,fun _=>⟨M7,H7,p,rfl,hcap,by omega,hR7⟩⟩;obtain⟨ha0,hal⟩:=hb hbt;obtain⟨a,rfl⟩:∃a:Nat,at_=(a:Int):=⟨at_.toNat,by omega⟩;have hap:a<p.length:=by omega
   refine(Z3Y (k:=k7) hR7.rd (by omega) hpb).mono ?_;rintro _ w9⟨L,o9,k9,rfl,M89,hC,hL0⟩;have M9:=M7.none_trans M89;have H9:=H7.mod' M89;have hk9:p.length<=k9:=by obtain⟨_,vs,h1,_⟩:=hC;exact h1.own.cap.1
   refine⟨_,_,_,rfl,fun b w'=>w'=w9/\(b=true->0<=place/\place<p[a].length),⟨fun h0=>?_,fun _=>⟨rfl,fun h=>(by cases h)⟩⟩,?_⟩
   ·obtain⟨d,ob,kb,rfl,e1,e2,e3⟩:=hC.read.cell hap (Mod.refl w9)
    exact⟨_,rfl,⟨by omega,by omega⟩,_,_,_,e1,rfl,fun h=>⟨h0,of_decide_eq_true h⟩⟩
   ·rintro b _ w10⟨rfl,hb2⟩
    refine⟨fun hbt=>?_,fun _=>?_⟩
    ·obtain⟨hp0,hpl2⟩:=hb2 hbt
     obtain⟨pl,rfl⟩:∃pl:Nat,place=(pl:Int):=⟨place.toNat,by omega⟩;rintro _ rfl;obtain⟨x,hx⟩:=ZEM (p[a][pl]'(by omega)).toNat by_;obtain⟨g,kb,_,hw,hLg,_⟩:=hC.write (x:=x) hap (show pl<p[a].length by omega);obtain⟨⟨d,hd,c1'⟩,c2,c3,c4⟩:=hw _ (Mod.drew (S:=NoB) w10);have M10:=M9.step_drew;have H10:=H9.drew;subst hd;simp only[U];refine⟨_,rfl,⟨by omega,by omega⟩,_,_,_,c1',_,rfl,⟨by omega,by omega⟩,_,_,_,c1',_,rfl,⟨by omega,by omega⟩,_,by rw[Z2,J9];exact c2,_,rfl,⟨by omega,by omega⟩,?_⟩;rw[hx];simp only[Z2,J9];refine⟨c3,?_⟩;rintro _ rfl
     have hgN:∀q,q<w8.heap.size->g≠q:=fun q hq e=>by
      have:=hL0 q hq;rw[<-e,hLg]at this;omega
     refine⟨M10.step_set (fun hk=>absurd rfl (hgN g (Nat.lt_of_lt_of_le hk M7.size))),H10.set_ne (fun e=>hgN D H7.lt e.symm),p.set a (p[a].set pl x),by rw[Q],hk9,by omega,c4⟩
    ·rintro _ rfl
     have hR10:=(LsC.rows hC).mod' (Mod.drew (S:=NoB) w10);obtain⟨i,hi,hz,hs,hbt⟩:=Z1f Z26;have ew:I JA ((a:Int)+1)=((a+1:Nat):Int):=by rw[Z0 (by omega) (by omega)];omega
     refine⟨_,Z81 Z1D hi _ (by omega),_,_,_,rfl,by rw[ew];exact⟨by omega,by omega⟩,?_⟩;rw[ew,U];obtain⟨o11,k11,w11,h11,hk11,M11,R11⟩:=ZFe hR10 hap hk9 (by omega);refine⟨_,w11,h11,_,_,_,rfl,(M9.step_drew).none_trans M11,H9.drew.mod' M11,_,rfl,hk11,?_,R11⟩;rw[K,Z,V];omega
  ·rintro o8 _ c8 _ w8⟨M8,H8,ls,rfl,hlc,hll,R8⟩
   refine⟨fun hpos=>?_,fun _=>⟨_,H8.rowAll (Z4 _),?_⟩⟩
   ·obtain⟨i,hi,hz,hs,hbt⟩:=Z1f Z26
    refine⟨_,Z81 Z1D hi _ hlc,_,_,_,rfl,?_⟩;rintro d w9⟨rfl,rfl⟩;have M89:=Mod.alloc (S:=NoB) w8 (.cells #[.slice o5 more.length c5] 23);have B9:=Blk.new w8 23 #[.slice o5 more.length c5];have M9:=M8.none_trans M89;obtain⟨o10,k10,w10,h10,M10,R10⟩:=ZF8 (R8.mod' M89) B9 (hmore.mod' M9) hmk (by omega);refine⟨_,w10,h10,_,_,_,rfl,_,((H8.mod' M89).mod' M10).rowAll (Z4 _),?_⟩;have M010:=M9.none_trans M10;refine(Z6P w10 (root:=rootOf n) (ZN _) (hkey.mod' M010) R10.rd).mono ?_;rintro _ w11⟨rfl,M11⟩;exact⟨_,rfl,rfl,M010.none_trans M11⟩
   ·refine(Z6P w8 (root:=rootOf n) (ZN _) (hkey.mod' M8) R8.rd).mono ?_
    rintro _ w11⟨rfl,M11⟩;exact⟨_,rfl,rfl,M8.none_trans M11⟩
end Go.Proofs.YtfghidehlnfdiaaGreat
end
