/- Contracts: Prove (package proof). -/
/- Contracts: the reference's Down, find (moraineref14). -/
/- Contracts: the reference's find, Get (moraineref14), Prove (moraineref16). -/
/- Contracts: what Verify asks, Verify (package proof). -/
/- Contracts: Verify (package proof). -/
/- Contracts: few, does. -/
/- The walk of TrieOne. -/
/- Two Keccak values: of the empty text's encoding, of the leaf of one short key. -/
/- The law's own check of the document's proofs. -/
/- The verification conditions of some functions, printed by a program of ours (wip/PrintVc.lean). -/
/- The nodes of a range: plain Lean. -/
/- Contracts: bytes.Compare, bytes.Repeat, join, where a path lies. -/
/- Contracts: where a path lies (the program's, the reference's); spanOf. -/
/- Contracts: where a path lies (the reference's). -/
/- Contracts: at (the node of a reference). -/
import Derived.Test.YtfghidehlnfdiaaGreatPW8
import Derived.Test.YtfghidehlnfdiaaGreatTVP
import Derived.Test.YtfghidehlnfdiaaGreatTVY
import Derived.Test.YtfghidehlnfdiaaGreatDD4
import Derived.Test.YtfghidehlnfdiaaGreatProg
import Derived.KernelRfl
import Derived.Lib.BytesEntry
import Derived.Lib.MakeNoZero
set_option linter.unusedVariables false
set_option linter.unusedSimpArgs false
open Array renaming replicate->JO
open Bool renaming false->J7,true->Jb
open Except renaming error->JA
open Go renaming Calls->J3,Ending->JD,World->W,convert->Jf,run_callFunc_extern->JR
open Go.Ending renaming panicked->JC,returned->J
open Go.FrameMode renaming panicking->JZ,returning->JI
open Go.IntKind renaming i64->I,u64->J2,u8->JE,wrap->G
open Go.Obj renaming cells->U
open Go.Proofs.Tryz renaming prog->Y
open Go.Sem renaming run->JB
open Go.Value renaming int->Jc,pointer->J4,tuple->J8
open Go.World renaming cell?->JG
open Int renaming fdiv->J6,tdiv->Jd,toNat->Jg,toNat_natCast->JF
open List renaming append_assoc->JM,getD_eq_getElem?_getD->J5,getElem?_map->JS,getElem?_replicate->JN,getElem_mem->JU,length_append->J1,length_cons->JV,length_map->JX,length_replicate->L,map_congr_left->JP,nil_append->JY,range->Ja,replicate->J0,replicate_succ->JQ
open Nat renaming le_of_not_lt->JT,le_refl->JL,lt_of_lt_of_le->JJ,mul_one->Je,zero_add->J9,zero_le->JW
open Option renaming none->X,some->C
open Or renaming inl->JK,inr->JH
section
namespace Go.Proofs.YtfghidehlnfdiaaGreat
open Go Go.Vcg Go.Trie
def Z73(l:List (By×By))(root key:By):Except Int (List By) :=
 if l.length>4096 then JA 162 else if key.length>64 then JA 140 else
 match way (pStep l) [] (rootIt root) (nibbles key)with
 |(out,.ok _)=>.ok out
 |(_,JA e)=>JA e
def ZD6(l:List (By×By))(root key:By)(w:W)(e:JD)(w':W):Prop :=
 Vcg.Mod NoB w w'/\match Z73 l root key with
  | JA er=>er≠0/\e=J (J8 #[.slice X 0 0,.int I er])
  | .ok out=>∃o n k,e=J (J8 #[.slice o n k,.int I 0])/\∃lab' c cb,Z3M w' lab' c cb out o n k
def lab8(N:Nat):Nat->Nat:=fun k=>if k=N+1 then 7 else if N<=k then 1 else 0
theorem ZET{N k:Nat}(h:k<N):lab8 N k=0:=by unfold lab8;rw[if_neg (by omega),if_neg (by omega)]
theorem ZDW{R:JD->W->Prop}{rt:W->Prop}{dE dO:Nat}{n n0:Int}{o:Option Addr}{l k:Nat}{w:W}(hn:n≠0)(hne:dE≠dO)(E:Blk w dE 40 #[.int I n0])(O:Blk w dO 31 #[.slice o l k])
  (K:∀w',Blk w' dE 40 #[.int I n]->Blk w' dO 31 #[.slice X 0 0]->Vcg.Mod (fun b=>b=dE\/b=dO) w w'->rt w') :
  Z3S Y rt R [(32,#[J4 (C ⟨dE,0,X⟩)]),(48,#[J4 (C ⟨dE,0,X⟩),J4 (C ⟨dO,0,X⟩)])] (JZ (Z2u n)) w:=by
 refine⟨fun h=>(by cases h),(Z5G E).mono ?_⟩;rintro _ _ w1⟨rfl,rfl,E1,M1⟩;have O1:=O.mod M1 (fun h=>hne h.symm);refine⟨fun h=>(by cases h),?_⟩;refine(Z1a.vcd JI _ _ w1 (fun e w'=>e=J (J8 #[])/\Blk w' dE 40 #[.int I n]/\Blk w' dO 31 #[.slice X 0 0]/\Vcg.Mod (·=dO) w1 w') ?_).mono ?_
 ·unfold Z1a.Vc
  refine⟨n,E1.rd1 rfl,fun _=>⟨O1.canSet (by simp) rfl,?_⟩,fun h=>(hn h).elim⟩;rintro _ rfl;exact⟨rfl,E1.set_ne (by exact hne),O1.set 0 _,Mod.setCell w1 ⟨dO,0,X⟩ _⟩
 ·rintro _ _ w2⟨rfl,rfl,E2,O2,M2⟩
  exact K w2 E2 O2 ((M1.mono (fun _ _ h=>JK h)).trans M2 (fun _ _ h=>JH h))
theorem ZFQ{R:JD->W->Prop}{rt:W->Prop}{dE dO:Nat}{w:W}(E:Blk w dE 40 #[.int I 0])(K:rt w) :
  Z3S Y rt R [(32,#[J4 (C ⟨dE,0,X⟩)]),(48,#[J4 (C ⟨dE,0,X⟩),J4 (C ⟨dO,0,X⟩)])] JI w:=by
 refine⟨fun h=>(by cases h),Z6J.mono ?_⟩;rintro _ _ w1⟨rfl,rfl,rfl⟩;refine⟨fun h=>(by cases h),?_⟩;refine(Z1a.vcd JI _ _ w1 (fun e w'=>e=J (J8 #[])/\w'=w1) ?_).mono ?_
 ·unfold Z1a.Vc
  exact⟨0,E.rd1 rfl,fun h=>(h rfl).elim,fun _=>⟨rfl,rfl⟩⟩
 ·rintro _ _ w2⟨rfl,rfl,rfl⟩
  exact K
theorem ZD7{w:W}{lab:Nat->Nat}{c:Nat}{l:List (By×By)}{o ok:Option Addr}{k kk:Nat}{root key:By}(h:Z1V w lab c l o l.length)(hlen:l.length<=2^40)(hb:∀x∈l,x.2.length<=2^30)(hroot:root.length=32)(hkey:RdB w ok key) :
  J3 Y Z2R.n #[.slice o l.length k,.agg (hashA root),.slice ok key.length kk] w (ZD6 l root key w):=by
 refine ZD fun R hR=>Z2R.vc _ _ _ _ _ _ _ _ _ ?_;unfold Z2R.Vc;have hN:Z1V w (lab8 w.heap.size) 0 l o l.length:=Z1V.re h (fun k hk _=>ZET hk);rintro d3 w1⟨rfl,rfl⟩;have M1:=Mod.alloc (S:=NoB) w (U (hashA root) 27);have X1:=Blk.new w 27 (hashA root);have z1:=ZE w (U (hashA root) 27);generalize hNe:w.heap.size=N at *
 generalize w.alloc (U (hashA root) 27)=w1 at *
 rintro d5 w2⟨rfl,rfl⟩;have M12:=Mod.alloc (S:=NoB) w1 (U #[.slice X 0 0] 31);have O2:=Blk.new w1 31 #[.slice X 0 0];have z2:=ZE w1 (U #[.slice X 0 0] 31);have X2:=X1.mod' M12;have M2:=M1.none_trans M12;rw[z1]at O2 z2 ⊢;generalize w1.alloc (U #[.slice X 0 0] 31)=w2 at *
 rintro d7 w3⟨rfl,rfl⟩;have M23:=Mod.alloc (S:=NoB) w2 (U #[.int I 0] 40);have E3:=Blk.new w2 40 #[.int I 0];have z3:=ZE w2 (U #[.int I 0] 40);have X3:=X2.mod' M23;have O3:=O2.mod' M23;have M3:=M2.none_trans M23;rw[z2]at E3 z3 ⊢;generalize w2.alloc (U #[.int I 0] 40)=w3 at *
 have s3:Stp NoS w (lab8 N) w3 (lab8 N):=⟨M3.os,M3.tape,M3.output,M3.size,fun _ _=>rfl,fun q hq _=>M3.block q hq (fun h=>h)⟩;have hN3:=hN.stp s3 (fun h=>h);have lO:lab8 N (N+1)=7:=if_pos rfl;have lX:lab8 N N=1:=by unfold lab8;rw[if_neg (by omega),if_pos (JL _)]
 have lE:lab8 N (N+1+1)=1:=by unfold lab8;rw[if_neg (by omega),if_pos (by omega)]
 refine(Z8L (k:=k) (held:=J7) hN3 hlen).mono ?_;rintro e w4⟨M4,hbig,hsmall⟩;have s34:Stp NoS w3 (lab8 N) w4 (ext (lab8 N) w3.heap.size 9):=Stp.of_nob M4 9;have M04:=M3.none_trans M4;have z4:=M4.size
 obtain⟨m11,b12,n13,rfl,hcase⟩:∃m11 b12 n13,e=J (J8 #[.agg #[.map m11,.bool b12],.int I n13])/\((n13=162/\l.length>4096)\/(n13=0/\l.length<=4096/\b12=J7/\∃m,m11=C m/\ZJ2 w4 (ext (lab8 N) w3.heap.size 9) 9 0 l m)):=by
  by_cases hl:l.length>4096
  ·exact⟨_,_,_,hbig hl,JK ⟨rfl,hl⟩⟩
  ·obtain⟨m,he,hm⟩:=hsmall (by omega)
   exact⟨_,_,_,he,JH ⟨rfl,by omega,rfl,m,rfl,hm⟩⟩
 have X4:CB w4 (ext (lab8 N) w3.heap.size 9) 1 N 27 (hashA root):=(CB.mk X3 lX).stp s34 (fun h=>h);have O4:CB w4 (ext (lab8 N) w3.heap.size 9) 7 (N+1) 31 #[.slice X 0 0]:=(CB.mk O3 lO).stp s34 (fun h=>h);have E4:CB w4 (ext (lab8 N) w3.heap.size 9) 1 (N+1+1) 40 #[.int I 0]:=(CB.mk E3 lE).stp s34 (fun h=>h)
 have hlab4:∀b,ext (lab8 N) w3.heap.size 9 b=5\/ext (lab8 N) w3.heap.size 9 b=7\/ext (lab8 N) w3.heap.size 9 b=8->N<=b:=by
  intro b hb;refine JT fun hlt=>?_;rw[Z1M (by omega),ZET hlt]at hb;omega
 clear hbig hsmall X3 O3 E3 hN3 s34 s3;generalize ext (lab8 N) w3.heap.size 9=lab4 at *
 refine JH ⟨_,_,_,rfl,?_⟩;rintro d14 w5⟨rfl,rfl⟩;have s45:Stp NoS w4 lab4 (w4.alloc (U #[.map X,.bool J7] 69)) (ext lab4 w4.heap.size 1):=Stp.alloc NoS w4 lab4 _ 1;have M45:=Mod.alloc (S:=NoB) w4 (U #[.map X,.bool J7] 69);have D5:=CB.new w4 lab4 1 69 #[.map X,.bool J7];have X5:=X4.stp s45 (fun h=>h);have O5:=O4.stp s45 (fun h=>h);have E5:=E4.stp s45 (fun h=>h)
 have hlab5:∀b,ext lab4 w4.heap.size 1 b=5\/ext lab4 w4.heap.size 1 b=7\/ext lab4 w4.heap.size 1 b=8->N<=b:=by
  intro b hb;by_cases hlt:b<w4.heap.size
  ·rw[Z1M hlt]at hb;exact hlab4 b hb
  ·omega
 have M05:=M04.none_trans M45;have hD:N+1+1<w4.heap.size:=by omega
 generalize w4.heap.size=D at *
 generalize w4.alloc (U #[.map X,.bool J7] 69)=w5 at *
 generalize ext lab4 D 1=lab5 at *
 refine⟨D5.blk.canSet (by simp) rfl,?_⟩;rintro _ rfl;have D6:=D5.set 0 (.map m11);have Q6:Vcg.Mod (·=D) w5 _:=Mod.setCell w5 ⟨D,0,X⟩ (.map m11);rw[Z3,J9];refine⟨D6.blk.canSet (by simp) rfl,?_⟩;rintro _ rfl;have D7:=D6.set 1 (.bool b12);have Q7:=Q6.step_set (a:=⟨D,1,X⟩) (v:=.bool b12) (fun _=>rfl);have s57:Stp (·=1) w5 lab5 _ lab5:=⟨Q7.os,Q7.tape,Q7.output,Q7.size,fun _ _=>rfl,fun q hq hn=>Q7.block q hq (fun e=>hn (by rw[e];exact D5.clr))⟩;have E7:=E5.blk.mod Q7 (by omega);have X7:=X5.blk.mod Q7 (by omega);have O7:=O5.stp s57 (by decide);generalize((w5.setCell ⟨D,0,X⟩ (.map m11)).setCell ⟨D,1,X⟩ (.bool b12))=w7 at *
 refine⟨E7.canSet (by simp) rfl,?_⟩;rintro _ rfl;have E8:=E7.set 0 (.int I n13);have Q8:Vcg.Mod (·=N+1+1) w7 _:=Mod.setCell w7 ⟨N+1+1,0,X⟩ (.int I n13);have s78:Stp (·=1) w7 lab5 _ lab5:=⟨Q8.os,Q8.tape,Q8.output,Q8.size,fun _ _=>rfl,fun q hq hn=>Q8.block q hq (fun e=>hn (by rw[e];exact E5.clr))⟩;have X8:=X7.mod Q8 (by omega);have O8:=O7.stp s78 (by decide);have D8:CB (w7.setCell ⟨N+1+1,0,X⟩ (.int I n13)) lab5 1 D 69 #[.map m11,.bool b12]:=⟨D7.blk.mod Q8 (by omega),D7.clr⟩;have M08:Vcg.Mod NoB w _:=ZI (ZI M05 Q7 (by omega)) Q8 (by omega);have E8c:CB (w7.setCell ⟨N+1+1,0,X⟩ (.int I n13)) lab5 1 (N+1+1) 40 #[.int I n13]:=⟨E8,E5.clr⟩;have s48:=(s45.mono (T:=fun k=>k=1) (fun _ h=>h.elim)).trans (s57.trans s78);generalize w7.setCell ⟨N+1+1,0,X⟩ (.int I n13)=w8 at *
 refine⟨_,E8.rd1 rfl,fun hne=>?_,fun h0=>?_⟩
 ·obtain⟨rfl,hl⟩:=hcase.resolve_right (fun h=>hne h.1)
  rintro _ rfl;have E9:=E8.drew;have O9:=O8.blk.drew;have M09:=M08.step_drew;refine⟨_,E9.rd1 rfl,O9.canSet (by simp) rfl,?_⟩;rintro _ rfl;have O10:=O9.set 0 (.slice X 0 0);have E10:=E9.set_ne (a:=⟨N+1,0,X⟩) (v:=.slice X 0 0) (by show N+1+1≠N+1;omega);have M10:Vcg.Mod NoB w _:=ZI M09 (Mod.setCell w8.drew ⟨N+1,0,X⟩ (.slice X 0 0)) (by show w.heap.size<=N+1;omega);refine⟨E10.rd1 rfl,E10.canSet (by simp) rfl,?_⟩;rintro _ rfl;have E11:=E10.set 0 (.int I 162);have O11:=O10.set_ne (a:=⟨N+1+1,0,X⟩) (v:=.int I 162) (by show N+1≠N+1+1;omega);refine⟨_,_,_,O11.rd1 rfl,_,E11.rd1 rfl,hR _ _ ⟨ZI M10 (Mod.setCell _ ⟨N+1+1,0,X⟩ (.int I 162)) (by show w.heap.size<=N+1+1;omega),?_⟩⟩;unfold Z73;rw[if_pos hl];exact⟨by decide,rfl⟩
 ·obtain⟨rfl,hl,rfl,m,rfl,hSM⟩:=hcase.resolve_left (fun h=>by rw[h.1]at h0;exact absurd h0 (by decide))
  refine⟨fun hk=>?_,fun hk=>?_⟩
  ·refine⟨O8.blk.canSet (by simp) rfl,?_⟩
   rintro _ rfl;have O10:=O8.blk.set 0 (.slice X 0 0);have E10:=E8.set_ne (a:=⟨N+1,0,X⟩) (v:=.slice X 0 0) (by show N+1+1≠N+1;omega);have M10:Vcg.Mod NoB w _:=ZI M08 (Mod.setCell w8 ⟨N+1,0,X⟩ (.slice X 0 0)) (by show w.heap.size<=N+1;omega);refine⟨E10.canSet (by simp) rfl,?_⟩;rintro _ rfl;have E11:=E10.set 0 (.int I 140);have O11:=O10.set_ne (a:=⟨N+1+1,0,X⟩) (v:=.int I 140) (by show N+1≠N+1+1;omega);refine⟨_,_,_,O11.rd1 rfl,_,E11.rd1 rfl,hR _ _ ⟨ZI M10 (Mod.setCell _ ⟨N+1+1,0,X⟩ (.int I 140)) (by show w.heap.size<=N+1+1;omega),?_⟩⟩;unfold Z73;rw[if_neg (by omega),if_pos (by omega)];exact⟨by decide,rfl⟩
  ·refine⟨_,X8.rowAll (ZB _),?_⟩
   have hI:ZKK l D (N+1) m w8 lab5 []:=⟨D8,hSM.stp s48 (by decide) (by decide),X,0,0,O8,Z3M.nil _ _ _ _⟩;refine(ZCu (askP (dS:=D) (dO:=N+1) (m:=m) hb) hI (by simp) hroot (hkey.mod' M08) (by omega)).mono ?_;rintro e w9⟨lab9,s89,I9,hw⟩
   have hpr:Z73 l root key=(match way (pStep l) [] (rootIt root) (nibbles key)with
     |(out,.ok _)=>.ok out
     |(_,JA e)=>JA e):=by
    unfold Z73;rw[if_neg (by omega),if_neg (by omega)]
   have E9:=E8c.stp s89 (by decide);obtain⟨_,_,o9,n9,k9,O9,L9⟩:=I9;have M89:Vcg.Mod (fun b=>N<=b) w8 w9:=s89.mod (fun q hq hs=>hlab5 q hs);have M09:Vcg.Mod NoB w w9:=M08.trans M89 (fun i hi h=>by omega);generalize way (pStep l) [] (rootIt root) (nibbles key)=res at hw hpr L9;obtain⟨out,r⟩:=res;cases r with
   |error er =>
    obtain⟨rfl,hne⟩:=hw;refine JK ⟨_,rfl,ZDW hne (by omega) E9.blk O9.blk (fun w10 E10 O10 M10=>?_)⟩;refine⟨_,_,_,O10.rd1 rfl,_,E10.rd1 rfl,hR _ _ ⟨M09.trans M10 (fun i hi h=>by omega),?_⟩⟩;rw[hpr];exact⟨hne,rfl⟩
   |ok v =>
    obtain⟨ov,kv,rfl,hv⟩:=hw;refine JH ⟨_,_,_,_,rfl,_,_,_,O9.blk.rd1 rfl,O9.blk.canSet (by simp) rfl,?_⟩;rintro _ rfl;have O10:=O9.set 0 (.slice o9 n9 k9);have s910:Stp (·=7) w9 lab9 _ lab9:=Stp.setCell (a:=⟨N+1,0,X⟩) (v:=.slice o9 n9 k9) O9.clr;have L10:=L9.stp s910 (by decide) (by decide);have E10:=E9.stp s910 (by decide);have M10:Vcg.Mod NoB w _:=ZI M09 (Mod.setCell w9 ⟨N+1,0,X⟩ (.slice o9 n9 k9)) (by show w.heap.size<=N+1;omega);refine⟨E10.blk.canSet (by simp) rfl,?_⟩;rintro _ rfl;have E11:=E10.set 0 (.int I 0);have s1011:Stp (·=1) (w9.setCell ⟨N+1,0,X⟩ (.slice o9 n9 k9)) lab9 _ lab9:=Stp.setCell (a:=⟨N+1+1,0,X⟩) (v:=.int I 0) E10.clr;have L11:=L10.stp s1011 (by decide) (by decide);have O11:=O10.stp s1011 (by decide);refine ZFQ E11.blk ⟨_,_,_,O11.blk.rd1 rfl,_,E11.blk.rd1 rfl,hR _ _ ⟨ZI M10 (Mod.setCell _ ⟨N+1+1,0,X⟩ (.int I 0)) (by show w.heap.size<=N+1+1;omega),?_⟩⟩;rw[hpr];exact⟨o9,n9,k9,rfl,lab9,8,9,L11⟩
theorem Z2p.dec{xs:List It}{j:Nat}(hg:Z2p (.l xs))(hj:j<xs.length){b:By}(h:xs[j]=.s b):b.length<=2^20:=by
 obtain⟨g,_,hf⟩:=hg.node;have hm:=hf.mem (JU hj);rw[h]at hm
 have:b.length<=(enc (.s b)).length:=by
  simp only[enc];split
  ·exact JL _
  ·rw[J1];omega
 have:=hm.2.2;omega
theorem ZGF{Z:Array Value}{b:By}(hZ:Z.size=32)(hb:b.length=32):setsAt Z 0 ((b.take 32).map bV)=hashA b:=by
 have ht:b.take 32=b:=List.take_of_length_le (by omega);rw[ht];apply Array.ext_getElem?;intro i;rw[Zn _ _ _ _ (by simp[hb,hZ])];by_cases hi:i<32
 ·rw[if_pos ⟨JW _,by simp[hb];exact hi⟩,Nat.sub_zero]
  simp only[hashA];rw[ZF hi];simp[J5,hb,hi]
 ·rw[if_neg (by simp[hb];omega),Array.getElem?_eq_none (by omega),Array.getElem?_eq_none (by rw[ZB];omega)]
section
variable{w:W}{lab:Nat->Nat}{c:Nat}
end
theorem ZFa{l:List (By×By)}{root key:By}(h1:¬l.length>4096)(h2:¬key.length>64):Z73 l root key=(match way (pStep l) [] (rootIt root) (nibbles key)with
  |(out,.ok _)=>.ok out
  |(_,JA e)=>JA e):=by
 unfold Z73;exact(if_neg h1).trans (if_neg h2)
def ZG2(w:W)(lab:Nat->Nat)(c:Nat)(ls:List By)(o:Option Addr):Prop :=
 ∀(j:Nat)(hj:j<ls.length),∃g f ob kb,o=C ⟨g,f,X⟩/\g<w.heap.size/\lab g=c/\w.cell? ⟨g,f+j,X⟩=C (.slice ob ls[j].length kb)/\CBy w lab c ob ls[j]/\ls[j].length<=kb
section
variable{w w':W}{lab lab':Nat->Nat}{c:Nat}{ls:List By}{o:Option Addr}
theorem ZG2.stp{S:Nat->Prop}(h:ZG2 w lab c ls o)(s:Stp S w lab w' lab')(hs:¬S c):ZG2 w' lab' c ls o:=fun j hj=>by
 obtain⟨g,f,ob,kb,h1,h2,h3,h4,h5,h6⟩:=h j hj;exact⟨g,f,ob,kb,h1,JJ h2 s.size,(s.lab g h2).trans h3,(World.cell?_of_block (s.block g h2 (by rw[h3];exact hs))).trans h4,h5.stp s hs,h6⟩
theorem ZG2.re{c':Nat}(h:ZG2 w lab c ls o)(hl:∀k,k<w.heap.size->lab k=c->lab' k=c'):ZG2 w lab' c' ls o:=fun j hj=>by
 obtain⟨g,f,ob,kb,h1,h2,h3,h4,h5,h6⟩:=h j hj;exact⟨g,f,ob,kb,h1,h2,hl g h2 h3,h4,CBy.re h5 hl,h6⟩
theorem Z3M.read{c cb n k:Nat}(h:Z3M w lab c cb ls o n k)(hl:∀k,k<w.heap.size->lab k=c\/lab k=cb->lab' k=0):ZG2 w lab' 0 ls o:=fun j hj=>by
 obtain⟨rfl,vs,h1,h2,h3⟩:=h;obtain⟨ob,kb,e1,e2,e3⟩:=h3 j hj;obtain⟨g,hg,hc⟩:=h1.own.cell e1;have hlt:=h1.own.lt ⟨_,hg,rfl⟩;exact⟨g,0,ob,kb,hg,hlt,hl g hlt (JK (h1.clr g ⟨_,hg,rfl⟩)),by rw[J9];exact hc,CBy.re e2 (fun k hk he=>hl k hk (JH he)),e3⟩
end
def vStep(p:List By)(at_:Nat)(h:By):Nat×Except Int By:=match p[at_]? with
 |none=>(at_,JA 160)
 |some b=>(at_+1,if sumOf b=h then .ok b else JA 163)
def ZKE(p:List By)(o:Option Addr)(k:Nat)(dA dP:Nat)(w:W)(lab:Nat->Nat)(at_:Nat):Prop :=
 CB w lab 7 dA 3 #[.int I (at_:Int)]/\CB w lab 1 dP 31 #[.slice o p.length k]/\ZG2 w lab 0 p o/\at_<=p.length
theorem ZKE.stp{S:Nat->Prop}{p:List By}{o:Option Addr}{k dA dP at_:Nat}{w w':W}{lab lab':Nat->Nat}(h:ZKE p o k dA dP w lab at_)(s:Stp S w lab w' lab')(h0:¬S 0)(hS1:¬S 1)(h7:¬S 7):ZKE p o k dA dP w' lab' at_:=by
 obtain⟨h1,h2,h3,h4⟩:=h;exact⟨h1.stp s h7,h2.stp s hS1,h3.stp s h0,h4⟩
theorem askV{p:List By}{o:Option Addr}{k dA dP:Nat}(hp:p.length<=2^40)(hb:∀x∈p,x.length<=2^30):ZJN (.func (.func 52) #[] #[J4 (C ⟨dA,0,X⟩),J4 (C ⟨dP,0,X⟩)]) (fun q=>q=7) (ZKE p o k dA dP) (vStep p) (fun _ _=>True) where
 le _ _:=trivial
 s5:=by decide
 s6:=by decide
 stp h s:=h.stp s (by decide) (by decide) (by decide)
 run:=by
  intro w lab at_ h n hI _ hh;refine⟨52,#[],_,rfl,by kernel_rfl,?_⟩;refine ZD fun R hR=>Z3C.vc _ _ _ _ _ ?_;unfold Z3C.Vc;rintro d3 w1⟨rfl,rfl⟩;have s1:Stp NoS w lab (w.alloc (U (hashA h) 27)) (ext lab w.heap.size 9):=Stp.alloc NoS w lab _ 9;have X1:=CB.new w lab 9 27 (hashA h);have I1:=hI.stp s1 (fun h=>h) (fun h=>h) (fun h=>h);generalize w.heap.size=D3 at *
  generalize w.alloc (U (hashA h) 27)=w1 at *
  generalize ext lab D3 9=lab1 at *
  obtain⟨bA,bP,hL,hat⟩:=id I1;refine⟨fun w'=>w'=w1/\at_<p.length,⟨_,bA.blk.rd1 rfl,_,_,_,bP.blk.rd1 rfl,fun heq=>?_,fun hne=>⟨rfl,by omega⟩⟩,?_⟩
  ·have hn:p[at_]?=X:=List.getElem?_eq_none (by omega)
   have hst:vStep p at_ h=(at_,JA 160):=by unfold vStep;rw[hn]
   rw[hst]at hR;refine(Z1D w1 160).mono ?_;rintro e w2⟨rfl,he⟩;rw[if_neg (by decide)]at he;subst he;refine JK ⟨_,rfl,hR _ _ ⟨lab1,s1.mono (fun _ h=>h.elim),I1,trivial,fun er her=>?_,fun b hb=>by cases hb⟩⟩;cases her;exact⟨rfl,by decide⟩
  ·rintro _ w2⟨rfl,hlt⟩
   obtain⟨g,f,ob,kb,rfl,hg,hlg,hcell,hby,hkb⟩:=hL at_ hlt;have ew:G I ((at_:Int)+1)=((at_+1:Nat):Int):=by rw[Z0 (by omega) (by omega)];omega
   have hsm:p[at_]?=C p[at_]:=List.getElem?_eq_getElem hlt;have hbl:=hb _ (JU hlt);refine⟨_,_,_,bP.blk.rd1 rfl,_,bA.blk.rd1 rfl,_,rfl,⟨by omega,by omega⟩,_,_,_,by rw[Z3,JF];exact hcell,_,bA.blk.rd1 rfl,bA.blk.canSet (by simp) rfl,?_⟩;rintro _ rfl;rw[ew];have s2:Stp (·=7) w2 lab1 (w2.setCell ⟨dA,0,X⟩ (.int I ((at_+1:Nat):Int))) lab1:=Stp.setCell bA.clr;have bA2:=bA.set 0 (.int I ((at_+1:Nat):Int));have bP2:=bP.stp s2 (by decide);have hL2:=hL.stp s2 (by decide);have hby2:=hby.stp s2 (by decide);have X2:=X1.stp s2 (by decide);generalize w2.setCell ⟨dA,0,X⟩ (.int I ((at_+1:Nat):Int))=w3 at *
   rintro _ rfl;have s3:Stp NoS w3 lab1 w3.drew lab1:=Stp.drew _ _ _;have bA3:=bA2.stp s3 (fun h=>h);have bP3:=bP2.stp s3 (fun h=>h);have hL3:=hL2.stp s3 (fun h=>h);have hby3:=hby2.stp s3 (fun h=>h);have X3:=X2.stp s3 (fun h=>h);generalize w3.drew=w4 at *
   refine⟨_,X3.blk.rowAll (ZB _),?_⟩;rintro d25 w5⟨rfl,rfl⟩;have s4:Stp NoS w4 lab1 (w4.alloc (U #[.slice ob p[at_].length kb] 23)) (ext lab1 w4.heap.size 9):=Stp.alloc NoS w4 lab1 _ 9;have N5:=Blk.new w4 23 #[.slice ob p[at_].length kb];have bA5:=bA3.stp s4 (fun h=>h);have bP5:=bP3.stp s4 (fun h=>h);have hL5:=hL3.stp s4 (fun h=>h);have hby5:=hby3.stp s4 (fun h=>h);have X5:=X3.stp s4 (fun h=>h);have s05:Stp (fun q=>q=7) w lab _ _:=(((s1.mono (T:=fun q=>q=7) (fun _ h=>h.elim)).trans s2).trans (s3.mono (fun _ h=>h.elim))).trans (s4.mono (fun _ h=>h.elim));generalize w4.heap.size=D5 at *
   generalize w4.alloc (U #[.slice ob p[at_].length kb] 23)=w5 at *
   generalize ext lab1 D5 9=lab5 at *
   refine⟨X5.blk.rowAll (ZB _),?_⟩;refine(Z4J [p[at_]] rfl (by simp) (ZFn.one N5 hby5.rd) (by simp;omega)).mono ?_;rintro _ w6⟨rfl,M6⟩;have s6:Stp NoS w5 lab5 w6 (ext lab5 w5.heap.size 9):=Stp.of_nob M6 9;have bA6:=bA5.stp s6 (fun h=>h);have bP6:=bP5.stp s6 (fun h=>h);have hL6:=hL5.stp s6 (fun h=>h);have hby6:=hby5.stp s6 (fun h=>h);have X6:=X5.stp s6 (fun h=>h);have s06:=s05.trans (s6.mono (T:=fun q=>q=7) (fun _ h=>h.elim));generalize ext lab5 w5.heap.size 9=lab6 at *
   have e2:[p[at_]].flatten=p[at_]:=by simp
   rw[e2];have I6:ZKE p (C ⟨g,f,X⟩) k dA dP w6 lab6 (at_+1):=⟨bA6,bP6,hL6,hlt⟩;refine JH ⟨_,rfl,X6.blk.rowAll (ZB _),_,Z7g _ _ (ZO _) hh,_,rfl,fun hb'=>?_,fun hb'=>?_⟩
   ·rw[decide_eq_true_eq]at hb'
    have hst:vStep p at_ h=(at_+1,JA 163):=by unfold vStep;rw[hsm];simp only;rw[if_neg hb']
    rw[hst]at hR;refine(Z1D w6 163).mono ?_;rintro e w7⟨rfl,he⟩;rw[if_neg (by decide)]at he;subst he;refine JK ⟨_,rfl,hR _ _ ⟨lab6,s06,I6,trivial,fun er her=>?_,fun b hb=>by cases hb⟩⟩;cases her;exact⟨rfl,by decide⟩
   ·rw[decide_eq_false_iff_not,ne_eq,Decidable.not_not]at hb'
    have hst:vStep p at_ h=(at_+1,.ok p[at_]):=by unfold vStep;rw[hsm];simp only;rw[if_pos hb']
    rw[hst]at hR;refine hR _ _ ⟨lab6,s06,I6,trivial,fun er her=>(by cases her),fun b hb=>?_⟩;cases hb;exact⟨ob,kb,rfl,hby6.rd,hkb⟩
def Z3z(p:List By)(root key:By):Except Int By :=
 if p.length>256 then JA 162 else if key.length>64 then JA 140 else
 match way (vStep p) 0 (rootIt root) (nibbles key)with
 |(at_,.ok v)=>if at_<p.length then JA 162 else .ok v
 |(_,JA e)=>JA e
def ZAm(p:List By)(root key:By)(w:W)(e:JD)(w':W):Prop :=
 Vcg.Mod NoB w w'/\match Z3z p root key with
  | JA er=>er≠0/\e=J (J8 #[.slice X 0 0,.bool J7,.int I er])
  | .ok v=>∃o k,e=J (J8 #[.slice o v.length k,.bool (decide (v≠[])),.int I 0])/\RdB w' o v
theorem ZCr{R:JD->W->Prop}{rt:W->Prop}{dE dV dB:Nat}{n n0:Int}{o:Option Addr}{l k:Nat}{b:Bool}{w:W}(hn:n≠0)(h1:dE≠dV)(h2:dE≠dB)(h3:dV≠dB)(E:Blk w dE 40 #[.int I n0])(V:Blk w dV 23 #[.slice o l k])(B:Blk w dB 4 #[.bool b])
  (K:∀w',Blk w' dE 40 #[.int I n]->Blk w' dV 23 #[.slice X 0 0]->Blk w' dB 4 #[.bool J7]->Vcg.Mod (fun b=>b=dE\/b=dV\/b=dB) w w'->rt w') :
  Z3S Y rt R [(32,#[J4 (C ⟨dE,0,X⟩)]),(51,#[J4 (C ⟨dE,0,X⟩),J4 (C ⟨dV,0,X⟩),J4 (C ⟨dB,0,X⟩)])] (JZ (Z2u n)) w:=by
 refine⟨fun h=>(by cases h),(Z5G E).mono ?_⟩;rintro _ _ w1⟨rfl,rfl,E1,M1⟩;have V1:=V.mod M1 (fun h=>h1 h.symm);have B1:=B.mod M1 (fun h=>h2 h.symm);refine⟨fun h=>(by cases h),?_⟩;refine(Z1F.vcd JI _ _ _ w1 (fun e w'=>e=J (J8 #[])/\Blk w' dE 40 #[.int I n]/\Blk w' dV 23 #[.slice X 0 0]/\Blk w' dB 4 #[.bool J7]/\Vcg.Mod (fun b=>b=dV\/b=dB) w1 w') ?_).mono ?_
 ·unfold Z1F.Vc
  refine⟨n,E1.rd1 rfl,fun _=>⟨V1.canSet (by simp) rfl,?_⟩,fun h=>(hn h).elim⟩;rintro _ rfl;have V2:=V1.set 0 (.slice X 0 0);have B2:=B1.set_ne (a:=⟨dV,0,X⟩) (v:=.slice X 0 0) (fun e=>h3 e.symm);have E2:=E1.set_ne (a:=⟨dV,0,X⟩) (v:=.slice X 0 0) h1;refine⟨B2.canSet (by simp) rfl,?_⟩;rintro _ rfl;exact⟨rfl,E2.set_ne h2,V2.set_ne h3,B2.set 0 _,((Mod.setCell w1 ⟨dV,0,X⟩ _).mono (fun _ _ h=>JK h)).trans (Mod.setCell _ ⟨dB,0,X⟩ _) (fun _ _ h=>JH h)⟩
 ·rintro _ _ w2⟨rfl,rfl,E2,V2,B2,M2⟩
  exact K w2 E2 V2 B2 ((M1.mono (fun _ _ h=>JK h)).trans M2 (fun _ _ h=>JH h))
theorem ZDv{R:JD->W->Prop}{rt:W->Prop}{dE dV dB:Nat}{w:W}(E:Blk w dE 40 #[.int I 0])(K:rt w) :
  Z3S Y rt R [(32,#[J4 (C ⟨dE,0,X⟩)]),(51,#[J4 (C ⟨dE,0,X⟩),J4 (C ⟨dV,0,X⟩),J4 (C ⟨dB,0,X⟩)])] JI w:=by
 refine⟨fun h=>(by cases h),Z6J.mono ?_⟩;rintro _ _ w1⟨rfl,rfl,rfl⟩;refine⟨fun h=>(by cases h),?_⟩;refine(Z1F.vcd JI _ _ _ w1 (fun e w'=>e=J (J8 #[])/\w'=w1) ?_).mono ?_
 ·unfold Z1F.Vc
  exact⟨0,E.rd1 rfl,fun h=>(h rfl).elim,fun _=>⟨rfl,rfl⟩⟩
 ·rintro _ _ w2⟨rfl,rfl,rfl⟩
  exact K
def ZGg(N:Nat):Nat->Nat:=fun k=>if k=N+5 then 7 else if N<=k then 1 else 0
theorem ZEV{N k:Nat}(h:k<N):ZGg N k=0:=by unfold ZGg;rw[if_neg (by omega),if_neg (by omega)]
theorem ZEU{N k:Nat}(h:N<=k)(h5:k≠N+5):ZGg N k=1:=by unfold ZGg;rw[if_neg h5,if_pos h]
theorem ZKb{N:Nat}:ZGg N (N+5)=7:=if_pos rfl
theorem Z9g{p:List By}{root key:By}(h1:¬p.length>256)(h2:¬key.length>64):Z3z p root key=(match way (vStep p) 0 (rootIt root) (nibbles key)with
  |(at_,.ok v)=>if at_<p.length then JA 162 else .ok v
  |(_,JA e)=>JA e):=by
 unfold Z3z;exact(if_neg h1).trans (if_neg h2)
theorem Z7y{w:W}{lab:Nat->Nat}{c:Nat}{p:List By}{o ok:Option Addr}{k kk:Nat}{root key:By}(h:ZG2 w lab c p o)(hlen:p.length<=2^40)(hb:∀x∈p,x.length<=2^30)(hroot:root.length=32)(hkey:RdB w ok key) :
  J3 Y Z20.n #[.agg (hashA root),.slice ok key.length kk,.slice o p.length k] w (ZAm p root key w):=by
 refine ZD fun R hR=>Z20.vc _ _ _ _ _ _ _ _ _ ?_;unfold Z20.Vc;have hL:ZG2 w (ZGg w.heap.size) 0 p o:=h.re (fun k hk _=>ZEV hk);rintro d3 w1⟨rfl,rfl⟩;have M1:=Mod.alloc (S:=NoB) w (U (hashA root) 27);have X1:=Blk.new w 27 (hashA root);have z1:=ZE w (U (hashA root) 27);generalize hNe:w.heap.size=N at *
 generalize w.alloc (U (hashA root) 27)=w1 at *
 rintro d5 w2⟨rfl,rfl⟩;have M12:=Mod.alloc (S:=NoB) w1 (U #[.slice o p.length k] 31);have P2:=Blk.new w1 31 #[.slice o p.length k];have z2:=ZE w1 (U #[.slice o p.length k] 31);have X2:=X1.mod' M12;have M2:=M1.none_trans M12;rw[z1]at P2 z2 ⊢;generalize w1.alloc (U #[.slice o p.length k] 31)=w2 at *
 rintro d7 w3⟨rfl,rfl⟩;have M23:=Mod.alloc (S:=NoB) w2 (U #[.slice X 0 0] 23);have V3:=Blk.new w2 23 #[.slice X 0 0];have z3:=ZE w2 (U #[.slice X 0 0] 23);have X3:=X2.mod' M23;have P3:=P2.mod' M23;have M3:=M2.none_trans M23;rw[z2]at V3 z3 ⊢;generalize w2.alloc (U #[.slice X 0 0] 23)=w3 at *
 rintro d9 w4⟨rfl,rfl⟩;have M34:=Mod.alloc (S:=NoB) w3 (U #[.bool J7] 4);have B4:=Blk.new w3 4 #[.bool J7];have z4:=ZE w3 (U #[.bool J7] 4);have X4:=X3.mod' M34;have P4:=P3.mod' M34;have V4:=V3.mod' M34;have M4:=M3.none_trans M34;rw[z3]at B4 z4 ⊢;generalize w3.alloc (U #[.bool J7] 4)=w4 at *
 rintro d11 w5⟨rfl,rfl⟩;have M45:=Mod.alloc (S:=NoB) w4 (U #[.int I 0] 40);have E5:=Blk.new w4 40 #[.int I 0];have z5:=ZE w4 (U #[.int I 0] 40);have X5:=X4.mod' M45;have P5:=P4.mod' M45;have V5:=V4.mod' M45;have B5:=B4.mod' M45;have M5:=M4.none_trans M45;rw[z4]at E5 z5 ⊢;generalize w4.alloc (U #[.int I 0] 40)=w5 at *
 clear X1 X2 X3 X4 P2 P3 P4 V3 V4 B4 M1 M12 M2 M23 M3 M34 M4 M45 z1 z2 z3 z4;simp only[show N+1+1=N+2 from rfl,show N+2+1=N+3 from rfl,show N+3+1=N+4 from rfl,show N+4+1=N+5 from rfl]at *
 have ret3:∀(wa:W)(er:Int),er≠0->Z3z p root key=JA er->Blk wa (N+2) 23 #[.slice X 0 0]->Blk wa (N+3) 4 #[.bool J7]->Blk wa (N+4) 40 #[.int I 0]->Vcg.Mod NoB w wa ->
   Z1 wa ⟨N+2,0,X⟩ (.slice X 0 0)/\∀w16:W,ZA wa ⟨N+2,0,X⟩ (.slice X 0 0) w16 ->
   Z1 w16 ⟨N+3,0,X⟩ (.bool J7)/\∀w17:W,ZA w16 ⟨N+3,0,X⟩ (.bool J7) w17 ->
   Z1 w17 ⟨N+4,0,X⟩ (.int I er)/\∀w18:W,ZA w17 ⟨N+4,0,X⟩ (.int I er) w18 ->
   ∃o19:Option Addr,∃l20:Nat,∃l21:Nat,JG w18 ⟨N+2,0,X⟩=C (.slice o19 l20 l21) /\
   ∃b22:Bool,JG w18 ⟨N+3,0,X⟩=C (.bool b22) /\
   ∃n23:Int,JG w18 ⟨N+4,0,X⟩=C (.int I n23)/\R (J (J8 #[(.slice o19 l20 l21),(.bool b22),(.int I n23)])) w18:=by
  intro wa er her hv Va Ba Ea Ma;refine⟨Va.canSet (by simp) rfl,?_⟩;rintro _ rfl;have Vb:=Va.set 0 (.slice X 0 0);have Bb:=Ba.set_ne (a:=⟨N+2,0,X⟩) (v:=.slice X 0 0) (by show N+3≠N+2;omega);have Eb:=Ea.set_ne (a:=⟨N+2,0,X⟩) (v:=.slice X 0 0) (by show N+4≠N+2;omega);have Mb:Vcg.Mod NoB w _:=ZI Ma (Mod.setCell wa ⟨N+2,0,X⟩ (.slice X 0 0)) (by show w.heap.size<=N+2;omega);refine⟨Bb.canSet (by simp) rfl,?_⟩;rintro _ rfl;have Vc:=Vb.set_ne (a:=⟨N+3,0,X⟩) (v:=.bool J7) (by show N+2≠N+3;omega);have Bc:=Bb.set 0 (.bool J7);have Ec:=Eb.set_ne (a:=⟨N+3,0,X⟩) (v:=.bool J7) (by show N+4≠N+3;omega);have Mc:Vcg.Mod NoB w _:=ZI Mb (Mod.setCell _ ⟨N+3,0,X⟩ (.bool J7)) (by show w.heap.size<=N+3;omega);refine⟨Ec.canSet (by simp) rfl,?_⟩;rintro _ rfl;have Vd:=Vc.set_ne (a:=⟨N+4,0,X⟩) (v:=.int I er) (by show N+2≠N+4;omega);have Bd:=Bc.set_ne (a:=⟨N+4,0,X⟩) (v:=.int I er) (by show N+3≠N+4;omega);have Ed:=Ec.set 0 (.int I er);refine⟨_,_,_,Vd.rd1 rfl,_,Bd.rd1 rfl,_,Ed.rd1 rfl,hR _ _ ⟨ZI Mc (Mod.setCell _ ⟨N+4,0,X⟩ (.int I er)) (by show w.heap.size<=N+4;omega),?_⟩⟩;rw[hv];exact⟨her,rfl⟩
 refine⟨_,_,_,P5.rd1 rfl,fun hbig=>?_,fun hbig=>⟨fun hk=>?_,fun hk=>?_⟩⟩
 ·exact ret3 w5 162 (by decide) (by unfold Z3z;rw[if_pos (by omega)]) V5 B5 E5 M5
 ·exact ret3 w5 140 (by decide) (by unfold Z3z;rw[if_neg (by omega),if_pos (by omega)]) V5 B5 E5 M5
 ·rintro d32 w6⟨rfl,rfl⟩
  have M56:=Mod.alloc (S:=NoB) w5 (U #[.int I 0] 3);have A6:=Blk.new w5 3 #[.int I 0];have z6:=ZE w5 (U #[.int I 0] 3);have X6:=X5.mod' M56;have P6:=P5.mod' M56;have V6:=V5.mod' M56;have B6:=B5.mod' M56;have E6:=E5.mod' M56;have M6:=M5.none_trans M56;rw[z5]at A6 z6 ⊢;generalize w5.alloc (U #[.int I 0] 3)=w6 at *
  refine⟨A6.canSet (by simp) rfl,?_⟩;rintro _ rfl;have A7:Blk (w6.setCell ⟨N+5,0,X⟩ (.int I 0)) (N+5) 3 #[.int I 0]:=A6.set 0 (.int I 0);have Q7:Vcg.Mod (·=N+5) w6 _:=Mod.setCell w6 ⟨N+5,0,X⟩ (.int I 0);have X7:=X6.mod Q7 (by omega);have P7:=P6.mod Q7 (by omega);have V7:=V6.mod Q7 (by omega);have B7:=B6.mod Q7 (by omega);have E7:=E6.mod Q7 (by omega);have M7:Vcg.Mod NoB w _:=ZI M6 Q7 (by omega);generalize w6.setCell ⟨N+5,0,X⟩ (.int I 0)=w7 at *
  have s7:Stp NoS w (ZGg N) w7 (ZGg N):=⟨M7.os,M7.tape,M7.output,M7.size,fun _ _=>rfl,fun q hq _=>M7.block q hq (fun h=>h)⟩;have I7:ZKE p o k (N+5) (N+1) w7 (ZGg N) 0:=⟨⟨A7,ZKb⟩,⟨P7,ZEU (by omega) (by omega)⟩,hL.stp s7 (fun h=>h),JW _⟩;have hlab:∀b,ZGg N b=5\/ZGg N b=7->N<=b:=fun b hb=>JT fun hlt=>by rw[ZEV hlt]at hb;omega
  refine⟨_,X7.rowAll (ZB _),?_⟩;refine(ZCu (askV (o:=o) (k:=k) (dA:=N+5) (dP:=N+1) hlen hb) I7 trivial hroot (hkey.mod' M7) (by omega)).mono ?_;rintro e w8⟨lab8,s78,I8,hw⟩;have V8:=(CB.mk V7 (ZEU (N:=N) (by omega) (by omega))).stp s78 (by decide);have B8:=(CB.mk B7 (ZEU (N:=N) (by omega) (by omega))).stp s78 (by decide);have E8:=(CB.mk E7 (ZEU (N:=N) (by omega) (by omega))).stp s78 (by decide);have M78:Vcg.Mod (fun b=>N<=b) w7 w8:=s78.mod (fun q hq hs=>hlab q hs);have M8:Vcg.Mod NoB w w8:=M7.trans M78 (fun i hi h=>by omega);have hvr:=Z9g (root:=root) (p:=p) (key:=key) (by omega) (by omega);obtain⟨A8,P8,_,hat⟩:=I8;generalize way (vStep p) 0 (rootIt root) (nibbles key)=res at hw hvr A8 hat;obtain⟨at_,r⟩:=res;dsimp only at A8 hat hvr
  have bad:∀(wa:W)(er:Int)(oV:Option Addr)(lV kV:Nat)(bB:Bool),er≠0->Z3z p root key=JA er->Blk wa (N+2) 23 #[.slice oV lV kV]->Blk wa (N+3) 4 #[.bool bB]->Blk wa (N+4) 40 #[.int I 0]->Vcg.Mod NoB w wa ->
    Z3S Y (fun w38 =>
     ∃o39:Option Addr,∃l40:Nat,∃l41:Nat,JG w38 ⟨N+2,0,X⟩=C (.slice o39 l40 l41) /\
     ∃b42:Bool,JG w38 ⟨N+3,0,X⟩=C (.bool b42) /\
     ∃n43:Int,JG w38 ⟨N+4,0,X⟩=C (.int I n43) /\
     R (J (J8 #[(.slice o39 l40 l41),(.bool b42),(.int I n43)])) w38) R [(32,#[(J4 (C ⟨N+4,0,X⟩))]),(51,#[(J4 (C ⟨N+4,0,X⟩)),(J4 (C ⟨N+2,0,X⟩)),(J4 (C ⟨N+3,0,X⟩))])] (JZ (Z2u er)) wa:=by
   intro wa er oV lV kV bB her hv Va Ba Ea Ma;refine ZCr her (by omega) (by omega) (by omega) Ea Va Ba (fun w' E' V' B' M'=>?_);refine⟨_,_,_,V'.rd1 rfl,_,B'.rd1 rfl,_,E'.rd1 rfl,hR _ _ ⟨Ma.trans M' (fun i hi h=>by omega),?_⟩⟩;rw[hv];exact⟨her,rfl⟩
  cases r with
  |error er =>
   obtain⟨rfl,hne⟩:=hw;exact JK ⟨_,rfl,bad w8 er _ _ _ _ hne hvr V8.blk B8.blk E8.blk M8⟩
  |ok v =>
   obtain⟨ov,kv,rfl,hv⟩:=hw;refine JH ⟨_,_,_,_,rfl,V8.blk.canSet (by simp) rfl,?_⟩;rintro _ rfl;have V9:=V8.blk.set 0 (.slice ov v.length kv);have Q9:Vcg.Mod (·=N+2) w8 _:=Mod.setCell w8 ⟨N+2,0,X⟩ (.slice ov v.length kv);have s89:Stp (·=1) w8 lab8 _ lab8:=Stp.setCell (a:=⟨N+2,0,X⟩) (v:=.slice ov v.length kv) V8.clr;have B9:=B8.blk.mod Q9 (by omega);have E9:=E8.blk.mod Q9 (by omega);have A9:=A8.blk.mod Q9 (by omega);have P9:=P8.blk.mod Q9 (by omega);have hv9:=hv.stp s89 (by decide);have M9:Vcg.Mod NoB w _:=ZI M8 Q9 (by omega);generalize w8.setCell ⟨N+2,0,X⟩ (.slice ov v.length kv)=w9 at *
   refine⟨B9.canSet (by simp) rfl,?_⟩;rintro _ rfl;have B10:=B9.set 0 (.bool (decide (v≠[])));have Q10:Vcg.Mod (·=N+3) w9 _:=Mod.setCell w9 ⟨N+3,0,X⟩ (.bool (decide (v≠[])));have s910:Stp (·=1) w9 lab8 _ lab8:=Stp.setCell (a:=⟨N+3,0,X⟩) (v:=.bool (decide (v≠[]))) B8.clr;have V10:=V9.mod Q10 (by omega);have E10:=E9.mod Q10 (by omega);have A10:=A9.mod Q10 (by omega);have P10:=P9.mod Q10 (by omega);have hv10:=hv9.stp s910 (by decide);have M10:Vcg.Mod NoB w _:=ZI M9 Q10 (by omega);generalize w9.setCell ⟨N+3,0,X⟩ (.bool (decide (v≠[])))=w10 at *
   refine⟨_,A10.rd1 rfl,_,_,_,P10.rd1 rfl,fun hlt=>?_,fun hge=>?_⟩
   ·simp only at hvr
    rw[if_pos (by omega)]at hvr;refine(Z1D w10 162).mono ?_;rintro e w11⟨rfl,he⟩;rw[if_neg (by decide)]at he;subst he;exact JK ⟨_,rfl,bad _ 162 _ _ _ _ (by decide) hvr V10 B10 E10 M10⟩
   ·simp only at hvr
    rw[if_neg (by omega)]at hvr;rintro _ rfl;have s11:Stp NoS w10 lab8 w10.drew lab8:=Stp.drew _ _ _;have V11:=V10.drew;have B11:=B10.drew;have E11:=E10.drew;have hv11:=hv10.stp s11 (fun h=>h);have M11:=M10.step_drew;generalize w10.drew=w11 at *
    refine⟨_,_,_,V11.rd1 rfl,_,B11.rd1 rfl,V11.canSet (by simp) rfl,?_⟩;rintro _ rfl;have V12:=V11.set 0 (.slice ov v.length kv);have Q12:Vcg.Mod (·=N+2) w11 _:=Mod.setCell w11 ⟨N+2,0,X⟩ (.slice ov v.length kv);have s12:Stp (·=1) w11 lab8 _ lab8:=Stp.setCell (a:=⟨N+2,0,X⟩) (v:=.slice ov v.length kv) V8.clr;have B12:=B11.mod Q12 (by omega);have E12:=E11.mod Q12 (by omega);have hv12:=hv11.stp s12 (by decide);have M12:Vcg.Mod NoB w _:=ZI M11 Q12 (by omega);generalize w11.setCell ⟨N+2,0,X⟩ (.slice ov v.length kv)=w12 at *
    refine⟨B12.rd1 rfl,B12.canSet (by simp) rfl,?_⟩;rintro _ rfl;have B13:=B12.set 0 (.bool (decide (v≠[])));have Q13:Vcg.Mod (·=N+3) w12 _:=Mod.setCell w12 ⟨N+3,0,X⟩ (.bool (decide (v≠[])));have s13:Stp (·=1) w12 lab8 _ lab8:=Stp.setCell (a:=⟨N+3,0,X⟩) (v:=.bool (decide (v≠[]))) B8.clr;have V13:=V12.mod Q13 (by omega);have E13:=E12.mod Q13 (by omega);have hv13:=hv12.stp s13 (by decide);have M13:Vcg.Mod NoB w _:=ZI M12 Q13 (by omega);generalize w12.setCell ⟨N+3,0,X⟩ (.bool (decide (v≠[])))=w13 at *
    refine⟨E13.canSet (by simp) rfl,?_⟩;rintro _ rfl;have E14:=E13.set 0 (.int I 0);have Q14:Vcg.Mod (·=N+4) w13 _:=Mod.setCell w13 ⟨N+4,0,X⟩ (.int I 0);have s14:Stp (·=1) w13 lab8 _ lab8:=Stp.setCell (a:=⟨N+4,0,X⟩) (v:=.int I 0) E8.clr;have V14:=V13.mod Q14 (by omega);have B14:=B13.mod Q14 (by omega);have hv14:=hv13.stp s14 (by decide);refine ZDv E14 ⟨_,_,_,V14.rd1 rfl,_,B14.rd1 rfl,_,E14.rd1 rfl,hR _ _ ⟨ZI M13 Q14 (by omega),?_⟩⟩;rw[hvr];exact⟨ov,kv,rfl,hv14.rd⟩
end Go.Proofs.YtfghidehlnfdiaaGreat
end
section
namespace Go.Trie

end Go.Trie
end
section
namespace Go.Proofs.YtfghidehlnfdiaaGreat
open Go Go.Vcg Go.Trie
def StR(w:W)(o:Option Addr)(l:List (By×By)):Prop :=
 ∀(j:Nat)(hj:j<l.length),∃b f ok kk ov kv,o=C ⟨b,f,X⟩/\b<w.heap.size/\w.cell? ⟨b,f+j*2,X⟩=C (.slice ok l[j].1.length kk)/\RdB w ok l[j].1/\w.cell? ⟨b,f+(j*2+1),X⟩=C (.slice ov l[j].2.length kv)/\RdB w ov l[j].2
theorem StR.mod'{w w':W}{o:Option Addr}{l:List (By×By)}(h:StR w o l)(M:Vcg.Mod NoB w w'):StR w' o l:=fun j hj=>by
 obtain⟨b,f,ok,kk,ov,kv,e1,e2,e3,e4,e5,e6⟩:=h j hj;exact⟨b,f,ok,kk,ov,kv,e1,JJ e2 M.size,(ZN M e2 (fun h=>h)).trans e3,e4.mod' M,(ZN M e2 (fun h=>h)).trans e5,e6.mod' M⟩
end Go.Proofs.YtfghidehlnfdiaaGreat
end
section
namespace Go.Trie
theorem ZAX(p v:By):Z3t (.leaf p v)=[(Z2K (.leaf p v),bytesOf (.leaf p v))]:=by
 simp[Z3t,Z2L,Z3Q,met,Z2K]
end Go.Trie
end
section
namespace Go.Proofs.YtfghidehlnfdiaaGreat
open Go Go.Vcg Go.Trie

end Go.Proofs.YtfghidehlnfdiaaGreat
end
section
namespace Go.Vcg
def kFm:List UInt8:=[128]
def kFh:List UInt8:=[86,232,31,23,27,204,85,166,255,131,69,230,146,192,248,110,91,72,224,27,153,108,173,192,1,98,47,181,227,99,180,33]
def kGm:List UInt8:=[196,130,32,97,49]
def kGh:List UInt8:=[89,182,151,164,219,12,71,85,64,72,98,21,193,232,246,73,69,164,160,173,141,41,29,230,205,144,33,196,251,246,57,221]
def matS(s:St):St:=lk ((Ja 25).map s)
theorem ZJD{s r:St}(h:∀j,j<25->s j=r j):∀j,j<25->matS s j=r j:=fun j hj=>by
 rw[<-h j hj];simp[matS,lk,J5,hj]
def rndM:Nat->St->St
 |0,s=>s
 |n+1,s=>matS (rnd n (rndM n s))
theorem ZHE{s r:St}(h:∀j,j<25->s j=r j):∀(n:Nat),∀j,j<25->rndM n s j=ZHG n r j
 |0=>h
 |n+1=>ZJD (ZHF n (ZHE h n))
theorem ZJL{m h:List UInt8}(hl:Z61 m=ZHG 24 (ZFl ZHt (ZGz m)))(he:(Ja 32).map (Z5U (rndM 24 (matS (ZFl ZHt (ZGz m)))))=h):sumOf m=h:=by
 rw[<-he];unfold sumOf;refine JP (fun i hi=>?_);have hi:=List.mem_range.1 hi;simp only[Z5U];rw[hl,ZHE (ZJD (fun _ _=>rfl)) 24 (i/8) (by omega)]
theorem ZKZ:sumOf kFm=kFh:=ZJL rfl (by decide +kernel)
theorem ZJA:sumOf kGm=kGh:=ZJL rfl (by decide +kernel)
end Go.Vcg
end
section
namespace Go.Proofs.YtfghidehlnfdiaaGreat
open Go Go.Vcg Go.Trie
theorem ZAP:bytesOf (.leaf (nibbles [97]) [49])=kGm:=by kernel_rfl
theorem ZCN:Z2K (.leaf (nibbles [97]) [49])=kGh:=(congrArg sumOf ZAP).trans ZJA
theorem ZJp:Rep (ZT [([97],[49])]) (.leaf (nibbles [97]) [49])/\Z0x (.leaf (nibbles [97]) [49])/\Z58 (.leaf (nibbles [97]) [49]):=by
 have e:Trie.put .nil (nibbles [97]) [49]=.leaf (nibbles [97]) [49]:=by simp[Trie.put]
 have h1:=ZJt (k:=[97]) (v:=[49]) ZJs List.Pairwise.nil trivial (by simp);have h2:=(Z8C (n:=.nil) (p:=nibbles [97]) (x:=[49]) trivial (Zs _) (by simp)).1;have h3:=ZE4.put (p:=nibbles [97]) (x:=[49]) ZEH trivial (Zs _) (by simp) (by decide) (by decide);rw[e]at h1 h2 h3;exact⟨h1,h2,Z3X h2 h3⟩
theorem ZJB:kGh≠emptyH:=by
 have:emptyH=kFh:=ZKZ;rw[this];decide
theorem ZF4{σ:Type}{step:σ->By->σ×Except Int By}{s s':σ}{path:By}(hn:∀n∈path,n.toNat<16)(h:step s kGh=(s',.ok kGm)):way step s (.s kGh) path=(s',.ok (if[6,1]=path then[49]else[])):=by
 have hc:Z0T kGm=0:=by kernel_rfl
 have hd:Z5z kGm=.ok (.l [.s [32,97],.s [49]]):=by kernel_rfl
 obtain⟨xs,hd',_,hg⟩:=Z2t hc;rw[hd]at hd';cases hd';have hh:Z1C (.s [32,97])=C ([6,1],Jb):=by kernel_rfl
 rw[ZF3 (by decide) h hc hd hg hn,ZCU (xs:=[.s [32,97],.s [49]]) rfl hh];rfl
theorem ZKm:Z73 [(kGh,kGm)] kGh [97]=.ok [kGm]:=by
 rw[ZFa (by decide) (by decide)];have h:pStep [(kGh,kGm)] [] kGh=([kGm],.ok kGm):=by kernel_rfl
 have hr:rootIt kGh=.s kGh:=if_neg ZJB;rw[hr,ZF4 (nib_lt _) h]
theorem ZHl(key:By)(hk:key.length<=64):Z3z [kGm] kGh key=.ok (if[6,1]=nibbles key then[49]else[]):=by
 rw[Z9g (by decide) (by omega)]
 have h:vStep [kGm] 0 kGh=(1,.ok kGm):=by
  unfold vStep;simp only[List.getElem?_cons_zero,ZJA,if_true]
 have hr:rootIt kGh=.s kGh:=if_neg ZJB;rw[hr,ZF4 (nib_lt _) h];rfl
theorem Z3M.any{w w':W}{lab:Nat->Nat}{c cb:Nat}{ls:List By}{o:Option Addr}{n k:Nat}(h:Z3M w lab c cb ls o n k)(M:Vcg.Mod NoB w w'):n=ls.length/\ZG2 w' (fun _=>0) 0 ls o :=
 ⟨h.1,(h.stp (S:=NoS) (Stp.of_nob M 0) (fun h=>h) (fun h=>h)).read (fun _ _ _=>rfl)⟩
theorem ZD6.ok{l:List (By×By)}{root key:By}{out:List By}{w w':W}{e:JD}(h:ZD6 l root key w e w')(hr:Z73 l root key=.ok out):Vcg.Mod NoB w w'/\∃o n k,e=J (J8 #[.slice o n k,.int I 0])/\∃lab' c cb,Z3M w' lab' c cb out o n k:=by
 obtain⟨h1,h2⟩:=h;rw[hr]at h2;exact⟨h1,h2⟩
theorem ZAm.ok{p:List By}{root key v:By}{w w':W}{e:JD}(h:ZAm p root key w e w')(hr:Z3z p root key=.ok v):Vcg.Mod NoB w w'/\∃o k,e=J (J8 #[.slice o v.length k,.bool (decide (v≠[])),.int I 0])/\RdB w' o v:=by
 obtain⟨h1,h2⟩:=h;rw[hr]at h2;exact⟨h1,h2⟩
theorem ZIs:Z3z [kGm] kGh [97]=.ok [49]:=by rw[ZHl _ (by decide),if_pos (by kernel_rfl)]
theorem ZIt:Z3z [kGm] kGh [98]=.ok []:=by rw[ZHl _ (by decide),if_neg (by decide)]
theorem ZB7(w:W):J3 Y Z06.n #[] w (fun e w'=>e=J (.bool Jb)/\Vcg.Mod NoB w w'):=by
 refine ZD fun Q hQ=>Z06.vc _ _ ?_
 have tail:∀{w30:W}{D:Nat}{oN oK:Option Addr}{kN kK:Nat},Vcg.Mod NoB w w30->Blk w30 D 27 (hashA kGh)->Z1V w30 (fun _=>0) 0 [(kGh,kGm)] oN 1->RdB w30 oK [97]->∀(d22:Addr),d22=⟨D,0,X⟩ ->
   J3 Y 21 #[.slice oN 1 kN,.agg (hashA kGh),.slice oK 1 kK] w30 (fun e39 w40 =>
   ∃o41 l42 l43 n44,e39=J (J8 #[(.slice o41 l42 l43),(.int I n44)]) /\
   ∃L45,ZG w40 d22 32 L45 /\
   ∀d46 w47,ZC w40 5 #[(.int JE 97)] d46 w47 ->
   ∃v48 w49,JB Y (Jf 23 23 (.slice (C d46) 1 1)) w47=.ok v48 w49 /\
   ∃o50 l51 l52,v48=(.slice o50 l51 l52) /\
   J3 Y 22 #[(.agg L45),(.slice o50 l51 l52),(.slice o41 l42 l43)] w49 (fun e53 w54 =>
   ∃o55 l56 l57 b58 n59,e53=J (J8 #[(.slice o55 l56 l57),(.bool b58),(.int I n59)]) /\
   ∃L60,ZG w54 d22 32 L60 /\
   ∀d61 w62,ZC w54 5 #[(.int JE 98)] d61 w62 ->
   ∃v63 w64,JB Y (Jf 23 23 (.slice (C d61) 1 1)) w62=.ok v63 w64 /\
   ∃o65 l66 l67,v63=(.slice o65 l66 l67) /\
   J3 Y 22 #[(.agg L60),(.slice o65 l66 l67),(.slice o41 l42 l43)] w64 (fun e68 w69 =>
   ∃o70 l71 l72 b73 n74,e68=J (J8 #[(.slice o70 l71 l72),(.bool b73),(.int I n74)]) /\
   (((n44=0 ->
   (((n59=0 ->
   (((n74=0 ->
   (((b58=Jb ->
   (((b73=J7 ->
   (((((l42:Nat):Int)=1 ->
   ∃v75,JB Y (Jf 23 9 (.slice o55 l56 l57)) w69=.ok v75 w69 /\
   ∃s76,v75=(.string s76) /\
   Q (J (.bool (Z8S .eql s76 ⟨#[49]⟩))) w69)) /\
   ((((l42:Nat):Int)≠1 ->
   Q (J (.bool J7)) w69))))) /\
   ((b73=Jb ->
   Q (J (.bool J7)) w69))))) /\
   ((b58=J7 ->
   Q (J (.bool J7)) w69))))) /\
   ((n74≠0 ->
   Q (J (.bool J7)) w69))))) /\
   ((n59≠0 ->
   Q (J (.bool J7)) w69))))) /\
   ((n44≠0 ->
   Q (J (.bool J7)) w69)))))):=by
  rintro w30 D oN oK kN kK M H N r _ rfl;refine(ZD7 (l:=[(kGh,kGm)]) (key:=[97]) N (by decide) (by simp[kGm]) (by decide) r).mono ?_;intro e w40 hp;obtain⟨M40,op,np,kp,rfl,labp,c,cb,hO⟩:=hp.ok ZKm;refine⟨_,_,_,_,rfl,_,(H.mod' M40).rowAll (ZB _),?_⟩;rintro d w47⟨rfl,rfl⟩;obtain⟨w49,h49,M49,r49⟩:=Z4S w40 (bs:=[97]) (A:=#[(.int JE 97)]) rfl 1 1;obtain⟨rfl,hL⟩:=hO.any M49;refine⟨_,w49,h49,_,_,_,rfl,?_⟩;refine(Z7y (p:=[kGm]) (key:=[97]) (root:=kGh) hL (by decide) (by simp[kGm]) (by decide) r49).mono ?_;intro e w54 hv;obtain⟨M54,ov,kv,rfl,hrv⟩:=hv.ok ZIs;have M4054:=M49.none_trans M54;refine⟨_,_,_,_,_,rfl,_,((H.mod' M40).mod' M4054).rowAll (ZB _),?_⟩;rintro d w62⟨rfl,rfl⟩;obtain⟨w64,h64,M64,r64⟩:=Z4S w54 (bs:=[98]) (A:=#[(.int JE 98)]) rfl 1 1;obtain⟨_,hL2⟩:=hO.any (M4054.none_trans M64);refine⟨_,w64,h64,_,_,_,rfl,?_⟩;refine(Z7y (p:=[kGm]) (key:=[98]) (root:=kGh) hL2 (by decide) (by simp[kGm]) (by decide) r64).mono ?_;intro e w69 hv2;obtain⟨M69,ov2,kv2,rfl,_⟩:=hv2.ok ZIt;have Mall:Vcg.Mod NoB w w69:=((M.none_trans M40).none_trans M4054).none_trans (M64.none_trans M69);refine⟨_,_,_,_,_,rfl,fun _=>⟨fun _=>⟨fun _=>⟨fun _=>⟨fun _=>⟨fun _=>⟨_,toStr (hrv.mod' (M64.none_trans M69)),_,rfl,hQ _ _ ⟨?_,Mall⟩⟩,fun h=>(h rfl).elim⟩,fun h=>(by cases h)⟩,fun h=>(by cases h)⟩,fun h=>(h rfl).elim⟩,fun h=>(h rfl).elim⟩,fun h=>(h rfl).elim⟩;have e:Z8S .eql (Z9b [49]) ⟨#[49]⟩=Jb:=Z2f [49] [49];rw[e]
 unfold Z06.Vc;rintro d w1⟨rfl,rfl⟩;obtain⟨w2,h2,M2,r2⟩:=Z4S w (bs:=[97]) (A:=#[(.int JE 97)]) rfl 1 1;refine⟨_,w2,h2,_,_,_,rfl,?_⟩;rintro d w3⟨rfl,rfl⟩;obtain⟨w4,h4,M4,r4⟩:=Z4S w2 (bs:=[49]) (A:=#[(.int JE 49)]) rfl 1 1;refine⟨_,w4,h4,_,_,_,rfl,?_⟩;rintro d w5⟨rfl,rfl⟩;have M5:=Mod.alloc (S:=NoB) w4 (U #[(.slice (C ⟨w.heap.size,0,X⟩) 1 1),(.slice (C ⟨w2.heap.size,0,X⟩) 1 1)] 53);have B5:=Blk.new w4 53 #[(.slice (C ⟨w.heap.size,0,X⟩) 1 1),(.slice (C ⟨w2.heap.size,0,X⟩) 1 1)];have r2':=r2.mod' (M4.none_trans M5);have r4':=r4.mod' M5;have M05:=(M2.none_trans M4).none_trans M5
 have hKv:Z2J _ (fun _=>0) 0 (C ⟨w4.heap.size,0,X⟩) [([97],[49])]:=fun j hj=>by
  obtain rfl:j=0:=by simpa using hj
  exact⟨_,_,_,_,_,_,rfl,B5.lt,rfl,B5.cell 0,⟨r2',fun _ _ _=>rfl⟩,B5.cell 1,⟨r4',fun _ _ _=>rfl⟩⟩
 obtain⟨p1,p2,p3⟩:=ZJp;generalize w4.alloc (U #[(.slice (C ⟨w.heap.size,0,X⟩) 1 1),(.slice (C ⟨w2.heap.size,0,X⟩) 1 1)] 53)=w6 at *
 refine(ZE5 hKv ⟨by decide,by simp,by simp⟩ p1 p2 p3 (by simp[cnt]) 0).mono ?_;rintro _ w7⟨o7,k7,rfl,M7,N7⟩
 have hN7:Z1V w7 (fun _=>0) 0 [(kGh,kGm)] o7 1:=by
  rw[ZAX,ZCN,ZAP]at N7;exact N7.re (fun _ _ _=>rfl)
 have hlen:(Z3t (.leaf (nibbles [97]) [49])).length=1:=by rw[ZAX];rfl
 rw[hlen,ZCN];refine⟨_,_,_,_,rfl,?_⟩;rintro d w8⟨rfl,rfl⟩;have H8:=Blk.new w7 27 (JO 32 (.int JE 0));obtain⟨g1,g2,g3⟩:=Z12 H8 (by simp) kGh;have M8:=ZI (Mod.alloc w7 (U (JO 32 (.int JE 0)) 27)) g3 (JL _);refine⟨_,g1,?_⟩;have M08:=(M05.none_trans M7).none_trans M8;have N8:Z1V _ (fun _=>0) 0 [(kGh,kGm)] o7 1:=(hN7.stp (S:=NoS) (Stp.of_nob M8 0) (fun h=>h)).re (lab':=fun _=>0) (c':=0) (fun _ _ _=>rfl);generalize w7.heap.size=D at *
 generalize((w7.alloc (U (JO 32 (.int JE 0)) 27)).setRow D (hashA kGh))=w8 at *
 rintro _ rfl;have H9:=g2.drew;have M09:=M08.step_drew;have N9:Z1V w8.drew (fun _=>0) 0 [(kGh,kGm)] o7 1:=(N8.stp (S:=NoS) (Stp.drew _ _ _) (fun h=>h)).re (lab':=fun _=>0) (c':=0) (fun _ _ _=>rfl);generalize w8.drew=w9 at *
 refine⟨_,H9.rowAll (ZB _),?_,?_⟩
 ·refine(Z5V (k:=k7) N9 (by simp[kGm]) (by decide) 0).mono ?_
  rintro _ w10⟨o10,k10,rfl,_,M10,N10⟩;refine⟨_,_,_,rfl,(H9.mod' M10).rowAll (ZB _),?_⟩;rintro d w11⟨rfl,rfl⟩;obtain⟨w12,h12,M12,r12⟩:=Z4S w10 (bs:=[97]) (A:=#[(.int JE 97)]) rfl 1 1;have Ma:=Mod.alloc (S:=NoB) w10 (U #[(.int JE 97)] 5);refine⟨((H9.mod' M10).mod' Ma).rowAll (ZB _),_,w12,h12,_,_,_,rfl,((H9.mod' M10).mod' M12).rowAll (ZB _),?_⟩;exact tail ((M09.none_trans M10).none_trans M12) ((H9.mod' M10).mod' M12) ((N10.stp (S:=NoS) (Stp.of_nob M12 0) (fun h=>h)).re (fun _ _ _=>rfl)) r12 _ rfl
 ·rintro d w11⟨rfl,rfl⟩
  obtain⟨w12,h12,M12,r12⟩:=Z4S w9 (bs:=[97]) (A:=#[(.int JE 97)]) rfl 1 1;have Ma:=Mod.alloc (S:=NoB) w9 (U #[(.int JE 97)] 5);refine⟨(H9.mod' Ma).rowAll (ZB _),?_,?_⟩
  ·have Na:Z1V _ (fun _=>0) 0 [(kGh,kGm)] o7 1:=(N9.stp (S:=NoS) (Stp.of_nob Ma 0) (fun h=>h)).re (lab':=fun _=>0) (c':=0) (fun _ _ _=>rfl)
   have Ba:=Blk.new w9 5 #[(.int JE 97)];have Ha:=H9.mod' Ma;have hDE:=Nat.ne_of_lt H9.lt;have hE:w9.heap.size<=w9.heap.size:=JL _;generalize hEe:w9.heap.size=E at Ba hDE h12 M12 r12 ⊢;rw[hEe]at hE;generalize w9.alloc (U #[(.int JE 97)] 5)=wa at *
   refine(Z5V (k:=k7) (Na.re (lab':=fun _=>1) (c':=1) (fun _ _ _=>rfl)) (by simp[kGm]) (by decide) 0).mono ?_;rintro _ w10⟨o10,k10,rfl,_,M10,N10⟩;have B10:=Ba.mod' M10;obtain⟨wc,hc,Mc,hcc⟩:=Z80 (P:=Y) (t:=Zw) (l:=1) (c:=1) ZW (by kernel_rfl) B10;have Hc:=(Ha.mod' M10).mod Mc (by intro e;exact hDE e);have M9c:Vcg.Mod NoB w9 wc:=ZI (Ma.none_trans M10) Mc (Nat.le_of_eq hEe);have sc:Stp (·=1) w10 (ext (fun _=>1) wa.heap.size 0) wc (ext (ext (fun _=>1) wa.heap.size 0) w10.heap.size 0):=Stp.of_mod Mc 0 (fun q _ e=>by rw[e];exact Z1M Ba.lt);refine⟨_,_,_,rfl,(Ha.mod' M10).rowAll (ZB _),_,wc,hc,_,_,_,rfl,Hc.rowAll (ZB _),?_⟩
   have rc:RdB wc (C ⟨E,0,X⟩) [97]:=fun hne=>⟨E,0,rfl,JJ B10.lt Mc.size,fun i hi=>by
    obtain rfl:i=0:=by simpa using hi
    rw[hcc,B10.cell];rfl⟩
   exact tail (M09.none_trans M9c) Hc ((N10.stp sc (by decide)).re (fun _ _ _=>rfl)) rc _ rfl
  ·refine⟨_,w12,h12,_,_,_,rfl,(H9.mod' M12).rowAll (ZB _),?_⟩
   have N12:Z1V w12 (fun _=>0) 0 [(kGh,kGm)] o7 1:=(N9.stp (S:=NoS) (Stp.of_nob M12 0) (fun h=>h)).re (lab':=fun _=>0) (c':=0) (fun _ _ _=>rfl);refine(Z5V (k:=k7) N12 (by simp[kGm]) (by decide) 0).mono ?_;rintro _ w13⟨o13,k13,rfl,_,M13,N13⟩;refine⟨_,_,_,rfl,((H9.mod' M12).mod' M13).rowAll (ZB _),?_⟩;exact tail ((M09.none_trans M12).none_trans M13) ((H9.mod' M12).mod' M13) (N13.re (fun _ _ _=>rfl)) (r12.mod' M13) _ rfl
end Go.Proofs.YtfghidehlnfdiaaGreat
end
section
namespace Go.Proofs.YtfghidehlnfdiaaGreat
open Go Go.Vcg
abbrev Z2d.n:Nat:=30
def Z2d.Vc(a b:Array Value)(w:W)(R:JD->W->Prop):Prop :=
 ∀c d,ZC w 27 a c d ->
 ∀a e,ZC d 27 b a e ->
 ∀b d,ZC e 73 #[.slice X 0 0,.slice X 0 0] b d ->
 ∀e,ZJ d e ->
 J3 Y 43 #[.slice (C c) 32 32] e (fun d e =>
 ∃f g h,d=J (.slice f g h) /\
 J3 Y 43 #[.slice (C a) 32 32] e (fun d e =>
 ∃i j k,d=J (.slice i j k) /\
 J3 Y 62 #[.slice (C c) 32 32,.slice (C a) 32 32] e (fun a c =>
 ∃d,a=J (.int I d) /\
 Z1 c b (.slice f g h)/\∀a,ZA c b (.slice f g h) a ->
 Z1 a (b.add 1) (.slice i j k)/\∀c,ZA a (b.add 1) (.slice i j k) c ->
 ∃a e f g h i,c.cell? b=C (.slice a e f) /\
 c.cell? (b.add 1)=C (.slice g h i) /\
 R (J (J8 #[.agg #[.slice a e f,.slice g h i],.bool (decide (d<=0))])) c)))
theorem Z2d.vc(a b w R)(h:Z2d.Vc a b w R):J3 Y 30 #[(.agg a),(.agg b)] w R:=xs [] [.big 32 a,.big 32 b] Tryz.func30 ZL (by kernel_rfl) h
abbrev Z1U.n:Nat:=34
def Z1U.Vc(a:Option Addr)(b c:Nat)(d:Option Addr)(e f:Nat)(g:Option Addr)(h i:Nat)(w:W)(R:JD->W->Prop):Prop :=
 ∀j k,ZC w 73 #[.slice a b c,.slice d e f] j k ->
 ∃a b,JB Y (Instr.makeSlice 23 (.int I (G I (64-(h:Int)))) (.int I (G I (64-(h:Int))))) k=.ok a b /\
 ∃c d e,a=(.slice c d e) /\
 J3 Y 63 #[.slice g h i,.slice c d e] b (fun a b =>
 ∃c d e,a=J (.slice c d e) /\
 ∀a f,ZC b 5 #[.int JE 15] a f ->
 J3 Y 64 #[.slice (C a) 1 1,.int I (G I (64-(h:Int)))] f (fun a b =>
 ∃f k l,a=J (.slice f k l) /\
 J3 Y 63 #[.slice g h i,.slice f k l] b (fun a b =>
 ∃f g h,a=J (.slice f g h) /\
 ∃(a:Bool->W->Prop),(∃i k l,b.cell? j=C (.slice i k l) /\
 J3 Y 62 #[.slice f g h,.slice i k l] b (fun b i =>
 ∃k,b=J (.int I k) /\
 ((k<0 ->
 a Jb i) /\
 (¬k<0 ->
 ∃b k l,i.cell? (j.add 1)=C (.slice b k l) /\
 J3 Y 62 #[.slice c d e,.slice b k l] i (fun b i =>
 ∃k,b=J (.int I k) /\
 a (decide (k>0)) i))))) /\
 (∀(b:Bool)(i:Nat->Value)(i:W),a b i ->
 ((b=Jb ->
 R (J (.int I 1)) i) /\
 (b=J7 ->
 ∃a b k,i.cell? j=C (.slice a b k) /\
 J3 Y 62 #[.slice c d e,.slice a b k] i (fun a b =>
 ∃c,a=J (.int I c) /\
 ((c>=0 ->
 ∃a d e,b.cell? (j.add 1)=C (.slice a d e) /\
 J3 Y 62 #[.slice f g h,.slice a d e] b (fun a d =>
 ∃e,a=J (.int I e) /\
 ((e<=0 ->
 R (J (.int I 0)) d) /\
 (¬e<=0 ->
 R (J (.int I 2)) d)))) /\
 (¬c>=0 ->
 R (J (.int I 2)) b)))))))))
theorem Z1U.vc(a b c d e f g i j w R)(h:Z1U.Vc a b c d e f g i j w R):J3 Y 34 #[(.agg #[(.slice a b c),(.slice d e f)]),(.slice g i j)] w R:=xs [(1000004,[(20,.cell (.bool))])] [.agg [.slice a b c,.slice d e f],.slice g i j] Tryz.func34 ZL (by kernel_rfl) h
abbrev Z3d.n:Nat:=63
def Z3d.Vc(a:Option Addr)(b c:Nat)(d:Option Addr)(e f:Nat)(w:W)(R:JD->W->Prop):Prop :=
 J3 Y 36 #[.slice a b c] w (fun a b =>
 ∃c g h,a=J (.slice c g h) /\
 ∃a i,JB Y (builtinV .append #[23,23] 23 #[.slice c g h,.slice d e f]) b=.ok a i /\
 ∃b c d,a=(.slice b c d) /\
 R (J (.slice b c d)) i)
theorem Z3d.vc(a b c d e f w R)(h:Z3d.Vc a b c d e f w R):J3 Y 63 #[(.slice a b c),(.slice d e f)] w R:=xs [] [.slice a b c,.slice d e f] Tryz.func63 ZL (by kernel_rfl) h
abbrev Z27.n:Nat:=62
def Z27.Vc(a:Option Addr)(b c:Nat)(d:Option Addr)(e f:Nat)(w:W)(R:JD->W->Prop):Prop :=
 ∃g h,JB Y (callFunc 96 #[.slice a b c,.slice d e f]) w=.ok (.value g) h /\
 ∃a,g=(.int I a) /\
 R (J (.int I a)) h
theorem Z27.vc(a b c d e f w R)(h:Z27.Vc a b c d e f w R):J3 Y 62 #[(.slice a b c),(.slice d e f)] w R:=xs [] [.slice a b c,.slice d e f] Tryz.func62 ZL (by kernel_rfl) h
abbrev Z2W.n:Nat:=64
def Z2W.Vc(a:Option Addr)(b c:Nat)(d:Int)(w:W)(R:JD->W->Prop):Prop :=
 ((d=0 ->
 ∀e f,ZC w 5 #[] e f ->
 R (J (.slice (C e) 0 0)) f) /\
 (d≠0 ->
 ∃(e:W->Prop),((d<0 ->
 False /- panic -/) /\
 (¬d<0 ->
 e  w)) /\
 (∀  (f:Nat->Value)(f:W),e  f ->
 J3 Y 97 #[.int J2 (G J2 (b:Int)),.int J2 (G J2 d)] f (fun d e =>
 ∃f g,d=J (J8 #[.int J2 f,.int J2 g]) /\
 ∃(d:W->Prop),((f>0 ->
 False /- panic -/) /\
 (¬f>0 ->
 ((g>9223372036854775807 ->
 False /- panic -/) /\
 (¬g>9223372036854775807 ->
 d  e)))) /\
 (∀  (e:Nat->Value)(e:W),d  e ->
 (((b:Int)=0 ->
 ∀d f,ZC e 5 #[] d f ->
 R (J (.slice (C d) 0 0)) f) /\
 ((b:Int)≠0 ->
 ∃(d:Int->W->Prop),(((G I g)>8192 ->
 (b:Int)≠(0:Int) /\
 (((G I ((G I (Jd 8192 (b:Int)))*(b:Int)))=0 ->
 d (b:Int) e) /\
 ((G I ((G I (Jd 8192 (b:Int)))*(b:Int)))≠0 ->
 d (G I ((G I (Jd 8192 (b:Int)))*(b:Int))) e))) /\
 (¬(G I g)>8192 ->
 d (G I g) e)) /\
 (∀(e:Int)(f:Nat->Value)(f:W),d e f ->
 ∃d h,JB Y (callFunc 98 #[.int I (G I g)]) f=.ok (.value d) h /\
 ∃f i j,d=(.slice f i j) /\
 ∃d,JB Y (Instr.sliceAt 23 (.slice f i j) X (C (.int I (G I g))) (C (.int I (G I g)))) h=.ok d h /\
 ∃f i j,d=(.slice f i j) /\
 ∃d k,JB Y (builtinV .copy #[23,23] 3 #[.slice f i j,.slice a b c]) h=.ok d k /\
 ∃a,d=(.int I a) /\
 ∃(b:Int->W->Prop)(c:Int->W->Nat),b a k /\
 (∀(a:Int)(d:Nat->Value)(d:W),b a d ->
 ((a<(G I g) ->
 ∀h,ZJ d h ->
 ((0:Int)<=a/\a<=(i:Int)) /\
 ((0:Int)<=(min a e)/\(min a e)<=(j:Int)) /\
 ∃k l,JB Y (builtinV .copy #[23,23] 3 #[.slice (subO f j a.toNat 1) (i-a.toNat) (j-a.toNat),.slice f (Jg (min a e)) j]) h=.ok k l /\
 ∃e,k=(.int I e) /\
 b (G I (a+e)) l/\c (G I (a+e)) l<c a d) /\
 (¬a<(G I g) ->
 R (J (.slice f i j)) d)))))))))))
theorem Z2W.vc(a b c d w R)(h:Z2W.Vc a b c d w R):J3 Y 64 #[(.slice a b c),(.int I d)] w R:=xs [(1000005,[]),(1000008,[]),(1000016,[(8,.cell (.int I))]),(18,[(10,.cell (.int I))])] [.slice a b c,.int I d] Tryz.func64 ZL (by kernel_rfl) h
abbrev Z2A.n:Nat:=97
def Z2A.Vc(a b:Int)(w:W)(R:JD->W->Prop):Prop :=
 J3 Y 119 #[.int J2 a,.int J2 b] w (fun a b =>
 ∃c d,a=J (J8 #[.int J2 c,.int J2 d]) /\
 R (J (J8 #[.int J2 c,.int J2 d])) b)
theorem Z2A.vc(a b w R)(h:Z2A.Vc a b w R):J3 Y 97 #[(.int J2 a),(.int J2 b)] w R:=xs [] [.int J2 a,.int J2 b] Tryz.func97 ZL (by kernel_rfl) h
def Z2l.Vc(a b:Int)(w:W)(R:JD->W->Prop):Prop :=
 R (J (J8 #[.int J2 (G J2 ((G J2 ((G J2 ((J6 a 4294967296)*(J6 b 4294967296)))+(J6 (G J2 ((G J2 ((J6 a 4294967296)*(bitsI .and J2 b 4294967295)))+(J6 (G J2 ((bitsI .and J2 a 4294967295)*(bitsI .and J2 b 4294967295))) 4294967296))) 4294967296)))+(J6 (G J2 ((bitsI .and J2 (G J2 ((G J2 ((J6 a 4294967296)*(bitsI .and J2 b 4294967295)))+(J6 (G J2 ((bitsI .and J2 a 4294967295)*(bitsI .and J2 b 4294967295))) 4294967296))) 4294967295)+(G J2 ((bitsI .and J2 a 4294967295)*(J6 b 4294967296))))) 4294967296))),.int J2 (G J2 (a*b))])) w
theorem Z2l.vc(a b w R)(h:Z2l.Vc a b w R):J3 Y 119 #[(.int J2 a),(.int J2 b)] w R:=xs [] [.int J2 a,.int J2 b] Tryz.func119 ZL (by kernel_rfl) h
abbrev Z1T.n:Nat:=38
def Z1T.Vc(a:Bool)(b:Option Addr)(c d:Nat)(e:Option Addr)(f g:Nat)(h:Option Addr)(i j:Nat)(k:Option Addr)(l m:Nat)(n:Value)(w:W)(R:JD->W->Prop):Prop :=
 ∀o p,ZC w 86 #[.bool a,.slice b c d,.slice e f g,.slice h i j] o p ->
 ∃a b c,p.cell? (o.add 2)=C (.slice a b c) /\
 ∃(c:Int->W->Prop)(d:Int->W->Nat),c 0 p /\
 (∀(e:Int)(f:Nat->Value)(f:W),c e f ->
 ((e<(b:Int) ->
 ∃g,a=C g /\
 ((0:Int)<=e/\e<(b:Int)) /\
 ∃a,ZG f (g.add (e.toNat*34)) 34 a /\
 ∀g h,ZC f 82 #[.int JE 0,.int JE 0,.int JE 0,.int JE 0,.int JE 0,.int JE 0,.int JE 0,.int JE 0,.int JE 0,.int JE 0,.int JE 0,.int JE 0,.int JE 0,.int JE 0,.int JE 0,.int JE 0,.int JE 0,.int JE 0,.int JE 0,.int JE 0,.int JE 0,.int JE 0,.int JE 0,.int JE 0,.int JE 0,.int JE 0,.int JE 0,.int JE 0,.int JE 0,.int JE 0,.int JE 0,.int JE 0,J4 X,.bool J7] g h ->
 ∃i,JB Y (Instr.storeAt 82 (J4 (C g)) (.agg a)) h=.ok () i /\
 ∃a,i.cell? (g.add 33)=C (.bool a) /\
 ((a=J7 ->
 c (G I (e+1)) i/\d (G I (e+1)) i<d e f) /\
 (a=Jb ->
 ∃a h j p q r s t u v,i.cell? o=C (.bool a) /\
 i.cell? (o.add 1)=C (.slice h j p) /\
 i.cell? (o.add 2)=C (.slice q r s) /\
 i.cell? (o.add 3)=C (.slice t u v) /\
 J3 Y 67 #[.agg #[.bool a,.slice h j p,.slice q r s,.slice t u v]] i (fun a h =>
 ((∃ch,a=JC ch/\R (JC ch) h) \/
 ∃i,a=J (.bool i) /\
 ((i=Jb ->
 ∀a,ZJ h a ->
 ∃j,ZG a g 34 j /\
 ∀p q,ZC a 5 #[.int JE (G JE e)] p q ->
 ZG q g 34 j /\
 J3 Y 63 #[.slice k l m,.slice (C p) 1 1] q (fun a p =>
 ((∃ch,a=JC ch/\R (JC ch) p) \/
 ∃q r s,a=J (.slice q r s) /\
 ZG p g 34 j /\
 Z3E Y n #[.agg j,.slice q r s] p (fun a j =>
 ((∃ch,a=JC ch/\R (JC ch) j) \/
 a=J (J8 #[]) /\
 c (G I (e+1)) j/\d (G I (e+1)) j<d e f))))) /\
 (i=J7 ->
 ∀a,ZJ h a ->
 ∃h,ZG a g 34 h /\
 ∃i j p,a.cell? (o.add 1)=C (.slice i j p) /\
 J3 Y 63 #[.slice k l m,.slice i j p] a (fun a i =>
 ((∃ch,a=JC ch/\R (JC ch) i) \/
 ∃j k l,a=J (.slice j k l) /\
 ZG i g 34 h /\
 Z3E Y n #[.agg h,.slice j k l] i (fun a g =>
 ((∃ch,a=JC ch/\R (JC ch) g) \/
 a=J (J8 #[]) /\
 c (G I (e+1)) g/\d (G I (e+1)) g<d e f))))))))))) /\
 (¬e<(b:Int) ->
 R (J (J8 #[])) f)))
theorem Z1T.vc(a b c d e f g i j k l m n o w R)(h:Z1T.Vc a b c d e f g i j k l m n o w R):J3 Y 38 #[(.agg #[(.bool a),(.slice b c d),(.slice e f g),(.slice i j k)]),(.slice l m n),o] w R:=xt [(2,[(11,.cell (.int I))])] [.agg [.bool (.var a),.slice b c d,.slice e f g,.slice i j k],.slice l m n,.raw o] Tryz.func38 ZL (by kernel_rfl) h
abbrev Z0p.n:Nat:=46
def Z0p.Vc(a:Option Addr)(b c:Nat)(d e:Array Value)(w:W)(R:JD->W->Prop):Prop :=
 ∀f g,ZC w 27 d f g ->
 ∀d h,ZC g 27 e d h ->
 ∀e,ZJ h e ->
 J3 Y 54 #[.slice (C f) 32 32] e (fun e f =>
 ∃g h i,e=J (.slice g h i) /\
 J3 Y 54 #[.slice (C d) 32 32] f (fun d e =>
 ∃f j k,d=J (.slice f j k) /\
 ∃d l,JB Y (builtinV .append #[23,23] 23 #[.slice X 0 0,.slice a b c]) e=.ok d l /\
 ∃e m n,d=(.slice e m n) /\
 ∃d o,JB Y (builtinV .append #[23,23] 23 #[.slice X 0 0,.slice a b c]) l=.ok d o /\
 ∃a b c,d=(.slice a b c) /\
 ∃(d:Option Addr->Nat->Nat->Option Addr->Nat->Nat->W->Prop)(l:Option Addr->Nat->Nat->Option Addr->Nat->Nat->W->Nat),d e m n a b c o /\
 (∀(a:Option Addr)(b:Nat)(c:Nat)(e:Option Addr)(m:Nat)(n:Nat)(o:Nat->Value)(o:W),d a b c e m n o ->
 (((b:Int)<64 ->
 ∀p q,ZC o 5 #[.int JE 0] p q ->
 ∃r s,JB Y (builtinV .append #[23,23] 23 #[.slice a b c,.slice (C p) 1 1]) q=.ok r s /\
 ∃p q t,r=(.slice p q t) /\
 ∀r u,ZC s 5 #[.int JE 15] r u ->
 ∃s v,JB Y (builtinV .append #[23,23] 23 #[.slice e m n,.slice (C r) 1 1]) u=.ok s v /\
 ∃r u x,s=(.slice r u x) /\
 d p q t r u x v/\l p q t r u x v<l a b c e m n o) /\
 (¬(b:Int)<64 ->
 J3 Y 23 #[.slice e m n,.slice g h i] o (fun d l =>
 ∃o,d=J (.int I o) /\
 ((o<0 ->
 R (J (.int I (-1))) l) /\
 (¬o<0 ->
 J3 Y 23 #[.slice a b c,.slice f j k] l (fun d l =>
 ∃o,d=J (.int I o) /\
 ((o>0 ->
 R (J (.int I (-1))) l) /\
 (¬o>0 ->
 J3 Y 23 #[.slice a b c,.slice g h i] l (fun a b =>
 ∃c,a=J (.int I c) /\
 ((c>=0 ->
 J3 Y 23 #[.slice e m n,.slice f j k] b (fun a d =>
 ∃e,a=J (.int I e) /\
 ((e<=0 ->
 R (J (.int I 1)) d) /\
 (¬e<=0 ->
 R (J (.int I 0)) d)))) /\
 (¬c>=0 ->
 R (J (.int I 0)) b))))))))))))))
theorem Z0p.vc(a b c d e w R)(h:Z0p.Vc a b c d e w R):J3 Y 46 #[(.slice a b c),(.agg d),(.agg e)] w R:=xs [(4,[(9,.cell (.slice)),(10,.cell (.slice))])] [.slice a b c,.big 32 d,.big 32 e] Tryz.func46 ZL (by kernel_rfl) h
end Go.Proofs.YtfghidehlnfdiaaGreat
end
section
namespace Go.Proofs.YtfghidehlnfdiaaGreat
open Go Go.Vcg Go.Trie
theorem Z7k:∀(p q:By),ltB p q\/p=q\/ltB q p
 |[],[]=>JH (JK rfl)
 |[],_::_=>JK trivial
 |_::_,[]=>JH (JH trivial)
 |a::p,b::q=>by
  simp only[ltB,List.cons.injEq];rcases Nat.lt_trichotomy a.toNat b.toNat with h|h|h
  ·exact JK (JK (UInt8.lt_iff_toNat_lt.2 h))
  ·obtain rfl:=UInt8.toNat_inj.1 h
   rcases Z7k p q with h|h|h
   ·exact JK (JH ⟨rfl,h⟩)
   ·exact JH (JK ⟨rfl,h⟩)
   ·exact JH (JH (JH ⟨rfl,h⟩))
  ·exact JH (JH (JK (UInt8.lt_iff_toNat_lt.2 h)))
theorem Z7Z{p q:By}:Z25 p q>0↔ltB q p:=by
 constructor
 ·intro h
  rcases Z7k p q with h1|h1|h1
  ·have:=Z1u.2 h1;omega
  ·have:=ZDH.2 h1;omega
  ·exact h1
 ·intro h
  have h1:¬Z25 p q<0:=fun h2=>Z29 _ (Z3J h (Z1u.1 h2));have h2:¬Z25 p q=0:=fun h2=>by rw[ZDH.1 h2]at h;exact Z29 _ h
  omega
theorem Z6u{p q r:By}(h1:¬ltB q p)(h2:¬ltB r q):¬ltB r p:=fun h=>by
 rcases Z7k p q with h3|rfl|h3
 ·exact h2 (Z3J h h3)
 ·exact h2 h
 ·exact h1 h3
def Z57(p:By):By:=p++J0 (64-p.length) 0
def hi64(p:By):By:=p++J0 (64-p.length) 15
def Z0C(a b p:By):Int :=
 if Z25 (hi64 p) a<0\/Z25 (Z57 p) b>0 then -1 else if Z25 (Z57 p) a>=0/\Z25 (hi64 p) b<=0 then 1 else 0
theorem ZGt:∀(x:By) (n:Nat),x.length=n->¬ltB x (J0 n 0)
 |[],_,h=>by subst h;exact Z4G _
 |a::r,n,h=>by
  obtain⟨m,rfl⟩:∃m,n=m+1:=⟨r.length,by rw[<-h];rfl⟩;simp only[JQ,ltB];rintro(h1|⟨_,h1⟩)
  ·have:=UInt8.lt_iff_toNat_lt.1 h1;simp at this
  ·exact ZGt r m (by simpa using h) h1
theorem ZGs:∀(x:By) (n:Nat),x.length=n->Nib x->¬ltB (J0 n 15) x
 |[],_,h,_=>by subst h;exact Z4G _
 |a::r,n,h,hn=>by
  obtain⟨m,rfl⟩:∃m,n=m+1:=⟨r.length,by rw[<-h];rfl⟩;simp only[JQ,ltB];rintro(h1|⟨_,h1⟩)
  ·have:=UInt8.lt_iff_toNat_lt.1 h1
   have h2:=hn a (by simp);have h3:(15:UInt8).toNat=15:=rfl;omega
  ·exact ZGs r m (by simpa using h) (fun x hx=>hn x (by simp[hx])) h1
theorem ZIL{p q:By}(h:(p++q).length<=64):Z57 (p++q)=p++(q++J0 (64-(p++q).length) 0):=by
 unfold Z57;rw[JM]
theorem ZGl{p q:By}(h:(p++q).length<=64):¬ltB (Z57 (p++q)) (Z57 p):=by
 rw[ZIL h];unfold Z57;rw[Z4T];rw[J1]at h;exact ZGt _ _ (by rw[J1,L,J1];omega)
theorem ZGW{p q:By}(h:(p++q).length<=64)(hq:Nib q):¬ltB (hi64 p) (hi64 (p++q)):=by
 have e:hi64 (p++q)=p++(q++J0 (64-(p++q).length) 15):=by unfold hi64;rw[JM]
 rw[e];unfold hi64;rw[Z4T];rw[J1]at h;refine ZGs _ _ (by rw[J1,L,J1];omega) (fun x hx=>?_);rcases List.mem_append.1 hx with hx|hx
 ·exact hq x hx
 ·rw[List.eq_of_mem_replicate hx];decide
theorem ZKc{p:By}:¬ltB (hi64 p) (Z57 p):=by
 unfold Z57 hi64;rw[Z4T];refine ZGt _ _ (L ..)
theorem ZB8{a b p:By}:Z0C a b p= -1↔ltB (hi64 p) a\/ltB b (Z57 p):=by
 have e0:(Z25 (hi64 p) a<0\/Z25 (Z57 p) b>0)↔(ltB (hi64 p) a\/ltB b (Z57 p)):=or_congr Z1u Z7Z;unfold Z0C;split
 ·exact⟨fun _=>e0.1 ‹_›,fun _=>rfl⟩
 ·split
  ·exact⟨fun h=>absurd h (by decide),fun h=>absurd (e0.2 h) ‹_›⟩
  ·exact⟨fun h=>absurd h (by decide),fun h=>absurd (e0.2 h) ‹_›⟩
theorem ZGk{a b p:By}:Z0C a b p=1↔¬ltB (Z57 p) a/\¬ltB b (hi64 p):=by
 have e0:(Z25 (hi64 p) a<0\/Z25 (Z57 p) b>0)↔(ltB (hi64 p) a\/ltB b (Z57 p)):=or_congr Z1u Z7Z;have e1:Z25 (Z57 p) a>=0↔¬ltB (Z57 p) a:=by rw[<-Z1u];omega
 have e2:Z25 (hi64 p) b<=0↔¬ltB b (hi64 p):=by rw[<-Z7Z];omega
 have e3:(Z25 (Z57 p) a>=0/\Z25 (hi64 p) b<=0)↔(¬ltB (Z57 p) a/\¬ltB b (hi64 p)):=and_congr e1 e2;unfold Z0C;split
 ·rename_i h
  refine⟨fun h=>absurd h (by decide),fun h'=>?_⟩;rcases e0.1 h with h|h
  ·exact absurd h (Z6u h'.1 ZKc)
  ·exact absurd h (Z6u ZKc h'.2)
 ·split
  ·exact⟨fun _=>e3.1 ‹_›,fun _=>rfl⟩
  ·exact⟨fun h=>absurd h (by decide),fun h=>absurd (e3.2 h) ‹_›⟩
theorem ZIK{a b p q:By}(h:(p++q).length<=64)(hq:Nib q)(hp:Z0C a b p≠0):Z0C a b (p++q)=Z0C a b p:=by
 have hc:Z0C a b p= -1\/Z0C a b p=1:=by
  unfold Z0C at hp ⊢;split
  ·exact JK rfl
  ·split
   ·exact JH rfl
   ·rename_i h1 h2
    rw[if_neg h1,if_neg h2]at hp;exact absurd rfl hp
 rcases hc with hc|hc
 ·rw[hc]
  rcases ZB8.1 hc with h1|h1
  ·exact ZB8.2 (JK (by
    rcases Z7k (hi64 (p++q)) (hi64 p)with h2|h2|h2
    ·exact Z3J h2 h1
    ·rw[h2];exact h1
    ·exact absurd h2 (ZGW h hq)))
  ·exact ZB8.2 (JH (by
    rcases Z7k (Z57 p) (Z57 (p++q))with h2|h2|h2
    ·exact Z3J h1 h2
    ·rw[<-h2];exact h1
    ·exact absurd h2 (ZGl h)))
 ·rw[hc]
  obtain⟨h1,h2⟩:=ZGk.1 hc;exact ZGk.2 ⟨Z6u h1 (ZGl h),Z6u (ZGW h hq) h2⟩
def Off(a b p:By):Prop:=p.length>64\/Z0C a b p≠0
instance (a b p:By):Decidable (Off a b p):=by unfold Off;infer_instance
abbrev RS:=List (By×By)
section
variable{σ:Type}
def foldK(go:σ->It->By->σ×Option Int):σ->List (It×By)->σ×Option Int
 |s,[]=>(s,X)
 |s,y::r=>match go s y.1 y.2 with
  |(s',X)=>foldK go s' r
  |(s',C e)=>(s',C e)
def subsOf(xs:List It)(path:By):List (It×By) :=
 if xs.length=2 then(match Z1C (xs.getD 0 (.s []))with
  |some (p,J7)=>[(xs.getD 1 (.s []),path++p)]
  |_=>[])
 else(Ja 16).map fun j=>(xs.getD j (.s []),path++[UInt8.ofNat j])
def eachW(go:σ->It->By->σ×Option Int)(s:σ)(xs:List It)(path:By):σ×Option Int:=foldK go s (subsOf xs path)
end
theorem nib_one{j:Nat}(hj:j<16):Nib [UInt8.ofNat j]:=by
 intro x hx;obtain rfl:=List.mem_singleton.1 hx;rw[UInt8.toNat_ofNat'];omega
theorem ZBB{x:It}{p:By}{lf:Bool}(h:Z1C x=C (p,lf)):Nib p:=by
 cases x with
 |l ys=>cases h
 |s b =>
  have h:Z1p b=C (p,lf):=h;cases b with
  |nil=>cases h
  |cons a r =>
   simp only[Z1p]at h;by_cases c1:65<r.length+1\/3<(a>>>4).toNat
   ·rw[if_pos c1]at h;cases h
   ·rw[if_neg c1]at h
    by_cases c2:(a>>>4).toNat%2=0
    ·rw[if_pos c2]at h
     by_cases c3:(a&&&15).toNat≠0
     ·rw[if_pos c3]at h;cases h
     ·rw[if_neg c3]at h;cases h;exact Zs r
    ·rw[if_neg c2]at h
     by_cases c3:64<=r.length
     ·rw[if_pos c3]at h;cases h
     ·rw[if_neg c3]at h
      cases h;intro x hx;rcases List.mem_cons.1 hx with rfl|hx
      ·have:∀n:Fin 256,(UInt8.ofFin n&&&15).toNat<16:=by decide +kernel
       exact this a.toFin
      ·exact Zs r x hx
theorem Z7s{x:It}{p:By}{lf:Bool}(h:Z1C x=C (p,lf)):p.length<=130:=by
 cases x with
 |l ys=>cases h
 |s b =>
  have h:Z1p b=C (p,lf):=h;cases b with
  |nil=>cases h
  |cons a r =>
   simp only[Z1p]at h;by_cases c1:65<r.length+1\/3<(a>>>4).toNat
   ·rw[if_pos c1]at h;cases h
   ·rw[if_neg c1]at h
    have hn:=ZQ r;by_cases c2:(a>>>4).toNat%2=0
    ·rw[if_pos c2]at h
     by_cases c3:(a&&&15).toNat≠0
     ·rw[if_pos c3]at h;cases h
     ·rw[if_neg c3]at h;cases h;omega
    ·rw[if_neg c2]at h
     by_cases c3:64<=r.length
     ·rw[if_pos c3]at h;cases h
     ·rw[if_neg c3]at h;cases h;rw[JV];omega
theorem ZHT{xs:List It}{path:By}(hg:Z2p (.l xs)):∀y∈subsOf xs path,Z2p y.1/\∃q,y.2=path++q/\Nib q/\q≠[]/\q.length<=130:=by
 intro y hy;unfold subsOf at hy;by_cases h2:xs.length=2
 ·rw[if_pos h2]at hy
  obtain⟨p,lf,he,h1,h3⟩:=hg.two h2;rw[he]at hy;cases lf with
  |true=>cases hy
  |false =>
   obtain rfl:=List.mem_singleton.1 hy;obtain⟨hp,hgy,_⟩:=h3 rfl;exact⟨hgy,p,rfl,ZBB he,hp,Z7s he⟩
 ·rw[if_neg h2]at hy
  obtain⟨h17,_,hk⟩:=hg.many h2;obtain⟨j,hj,rfl⟩:=List.mem_map.1 hy;exact⟨hk j (List.mem_range.1 hj),_,rfl,nib_one (List.mem_range.1 hj),by simp,by simp⟩
theorem ZC8:∀{l:RS} {h b:By},Z4F l h=C b->(h,b)∈l
 |[],_,_,e=>by cases e
 |x::r,h,b,e=>by
  unfold Z4F at e;split at e
  ·rename_i hx
   cases e;rw[<-hx];exact List.mem_cons_self ..
  ·exact List.mem_cons_of_mem _ (ZC8 e)
theorem Z9L{α:Type}[DecidableEq α]:∀{s l:List α},s.Nodup->(∀x∈s,x∈l)->s.length<=l.length
 |[],_,_,_=>JW _
 |x::r,l,h,hm=>by
  rw[List.nodup_cons]at h
  have h1:=Z9L (l:=l.erase x) h.2 (fun y hy=>by
   rw[List.mem_erase_of_ne (fun e=>h.1 (by rw[<-e];exact hy))];exact hm y (by simp[hy]))
  rw[List.length_erase_of_mem (hm x (by simp))]at h1;have:0<l.length:=List.length_pos_of_mem (hm x (by simp));simp only[JV];omega
theorem ZED:∀(a b:By),Lib.compareBytes a b=Z25 a b
 |[],[]=>rfl
 |[],_::_=>rfl
 |_::_,[]=>rfl
 |a::p,b::q=>by
  simp only[Lib.compareBytes,Z25];by_cases hab:a=b
  ·subst hab
   rw[if_neg (UInt8.lt_irrefl a),if_neg (UInt8.lt_irrefl a),if_pos rfl,ZED]
  ·rw[if_neg hab]
   by_cases hlt:a<b
   ·rw[if_pos hlt,if_pos hlt]
   ·rw[if_neg hlt,if_neg hlt,if_pos (UInt8.lt_of_le_of_ne (UInt8.not_lt.1 hlt) (Ne.symm hab))]
theorem ZC6{w:W}{o:Option Addr}{k:Nat}{a:By}(h:RdB w o a):(Extern.Bytes.bytesOf (.slice o a.length k)).run Y w=.ok ⟨a.toArray⟩ w:=by
 cases o with
 |none =>
  have:a=[]:=by
   by_cases hne:a=[]
   ·exact hne
   ·obtain⟨b,f,ho,_⟩:=h hne;cases ho
  subst this;rfl
 |some d =>
  have hl:=Lib.run_loadBytesX (P:=Y) w (a.map fun x=>(x.toNat:Int)) d .empty (fun j x hj=>by
   rw[JS,Option.map_eq_some_iff]at hj;obtain⟨y,hy,rfl⟩:=hj;obtain⟨hj,rfl⟩:=List.getElem?_eq_some_iff.1 hy;obtain⟨b,f,ho,hb,hc⟩:=h (by intro e;rw[e]at hj;simp at hj);cases ho;rw[Z3,hc j hj];simp[J5,hj])
  rw[JX]at hl;refine hl.trans ?_;congr 1;apply ByteArray.ext
  have:Lib.bytesOf (a.map fun x=>(x.toNat:Int))=a:=by
   unfold Lib.bytesOf;rw[List.map_map]
   conv=>rhs;rw[<-List.map_id a]
   refine JP (fun x _=>?_);simp
  rw[this];show(#[]:Array UInt8)++a.toArray=a.toArray;simp
theorem ZKS:∃fn,Tryz.prog.funcs[96]?=C fn/\(fn.name == "runtime.NumGoroutine")=J7/\fn.body.isNone=Jb/\Extern.findNext fn=X/\Extern.find fn=C Extern.BytealgCompare.compare :=
 ⟨Tryz.f96,Tryz.func96,by kernel_rfl,by kernel_rfl,by kernel_rfl,by kernel_rfl⟩
theorem Z1B{w:W}{o1 o2:Option Addr}{k1 k2:Nat}{a b:By}(h1:RdB w o1 a)(h2:RdB w o2 b) :
  J3 Y Z27.n #[.slice o1 a.length k1,.slice o2 b.length k2] w (fun e w'=>e=J (.int I (Z25 a b))/\w'=w):=by
 refine Z27.vc _ _ _ _ _ _ _ _ ?_;unfold Z27.Vc;obtain⟨fn,f1,f2,f3,f4,f5⟩:=ZKS;refine⟨_,w,?_,Z25 a b,rfl,rfl,rfl⟩;rw[JR f1 f2 f3 f4 f5];change((JB Y (do pure (goInt (Extern.BytealgCompare.cmp (<-Extern.Bytes.bytesOf (.slice o1 a.length k1)) (<-Extern.Bytes.bytesOf (.slice o2 b.length k2))))) w).andThen _)=_;simp only[Sem.run_bind,ZC6 h1,ZC6 h2,Sem.run_pure,Result.andThen];rw[Lib.cmp_eq,ZED];rfl
theorem ZIA:∃fn,Tryz.prog.funcs[98]?=C fn/\(fn.name == "runtime.NumGoroutine")=J7/\fn.body.isNone=Jb/\Extern.findNext fn=X/\Extern.find fn=C (Extern.BytealgMakeNoZero.makeNoZero #[3] #[Zw]) :=
 ⟨Tryz.f98,Tryz.func98,by kernel_rfl,by kernel_rfl,by kernel_rfl,by kernel_rfl⟩
theorem ZFx{w:W}{n:Nat}(hn:n<=64) :
  J3 Y Z2A.n #[.int J2 1,.int J2 (n:Int)] w (fun e w'=>e=J (J8 #[.int J2 0,.int J2 (n:Int)])/\w'=w):=by
 refine Z2A.vc _ _ _ _ ?_;unfold Z2A.Vc;refine Z2l.vc _ _ _ _ ?_;unfold Z2l.Vc;have key:∀m:Fin 65,(G J2 ((G J2 ((G J2 ((J6 1 4294967296)*(J6 (m.val:Int) 4294967296)))+(J6 (G J2 ((G J2 ((J6 1 4294967296)*(bitsI .and J2 (m.val:Int) 4294967295)))+(J6 (G J2 ((bitsI .and J2 1 4294967295)*(bitsI .and J2 (m.val:Int) 4294967295))) 4294967296))) 4294967296)))+(J6 (G J2 ((bitsI .and J2 (G J2 ((G J2 ((J6 1 4294967296)*(bitsI .and J2 (m.val:Int) 4294967295)))+(J6 (G J2 ((bitsI .and J2 1 4294967295)*(bitsI .and J2 (m.val:Int) 4294967295))) 4294967296))) 4294967295)+(G J2 ((bitsI .and J2 1 4294967295)*(J6 (m.val:Int) 4294967296))))) 4294967296)))=0/\G J2 (1*(m.val:Int))=(m.val:Int):=by decide +kernel
 obtain⟨k1,k2⟩:=key ⟨n,by omega⟩;dsimp only at k1 k2;rw[k1,k2];exact⟨0,n,rfl,rfl,rfl⟩
theorem ZBg{w:W}{o:Option Addr}{k n:Nat}{x:UInt8}(hr:RdB w o [x])(hn:n<=64) :
  J3 Y Z2W.n #[.slice o 1 k,.int I (n:Int)] w (fun e w'=>∃o' k',e=J (.slice o' n k')/\RdB w' o' (J0 n x)/\Vcg.Mod NoB w w'):=by
 refine ZD fun R hR=>Z2W.vc _ _ _ _ _ _ ?_;unfold Z2W.Vc;refine⟨fun h0=>?_,fun h0=>?_⟩
 ·obtain rfl:n=0:=by omega
  rintro d w2⟨rfl,rfl⟩;exact hR _ _ ⟨_,_,rfl,RdB.nil _ _,Mod.alloc _ _⟩
 ·have hw:∀m:Fin 65,G J2 (m.val:Int)=(m.val:Int)/\G I (m.val:Int)=(m.val:Int):=by decide +kernel
  obtain⟨e1,e2⟩:=hw ⟨n,by omega⟩;dsimp only at e1 e2;refine⟨fun w'=>w'=w,⟨fun h=>absurd h (by omega),fun _=>rfl⟩,?_⟩;rintro _ w rfl;rw[e1,show G J2 (((1:Nat):Int))=1 from by decide];refine(ZFx hn).mono ?_;rintro _ w⟨rfl,rfl⟩;refine⟨_,_,rfl,fun w'=>w'=w,⟨fun h=>absurd h (by decide),fun _=>⟨fun h=>absurd h (by omega),fun _=>rfl⟩⟩,?_⟩;rintro _ w rfl;rw[e2];refine⟨fun h=>absurd h (by decide),fun _=>⟨fun m w'=>m=(n:Int)/\w'=w,⟨fun h=>absurd h (by omega),fun _=>⟨rfl,rfl⟩⟩,?_⟩⟩;rintro _ _ w⟨rfl,rfl⟩;obtain⟨fn,f1,f2,f3,f4,f5⟩:=ZIA;obtain⟨cs,hc,hcs,hcm⟩:=Lib.run_makeNoZero (P:=Y) w #[3] Zw 5 ZW n (by omega);have M2:Vcg.Mod NoB w (w.drew.drew.alloc (U cs 5)):=((Mod.drew w).step_drew).step_alloc _;have B2:Blk (w.drew.drew.alloc (U cs 5)) w.heap.size 5 cs:=Blk.new w.drew.drew 5 cs;refine⟨.slice (C ⟨w.heap.size,0,X⟩) n cs.size,w.drew.drew.alloc (U cs 5),by rw[JR f1 f2 f3 f4 f5,hc];rfl,_,_,_,rfl,?_⟩;generalize hD:w.heap.size=D at *
  generalize w.drew.drew.alloc (U cs 5)=w2 at *
  obtain⟨iu,hiu,_⟩:=Z2Q Z7h;refine⟨_,ZFg ZW hiu w2 hcs,_,_,_,rfl,?_⟩;obtain⟨w3,hr3,B3,Q3⟩:=Z5m (P:=Y) (t:=23) (tx:=23) (ty:=3) (dLen:=n) (dCap:=n) (n:=1) (o:=0) (c:=k) ZW Z1X B2 (hr.mod' M2) (by show 1=Nat.min 1 n;exact(Nat.min_eq_left (by omega)).symm) (by omega);refine⟨_,w3,hr3,_,rfl,?_⟩;have M3:=ZI M2 Q3 (by omega);have hs0:(setsAt cs 0 (([x]:By).take 1 |>.map bV)).size=cs.size:=Zi _ _ _
  have hg0:∀i,i<1->(setsAt cs 0 (([x]:By).take 1 |>.map bV))[i]?=C (bV x):=fun i hi=>by
   obtain rfl:i=0:=by omega
   rw[Zn _ _ _ _ (by simp;omega),if_pos (by simp)];rfl
  generalize setsAt cs 0 (([x]:By).take 1 |>.map bV)=cur0 at *
  refine⟨fun m w'=>∃(j:Nat)(cur:Array Value),m=(j:Int)/\1<=j/\j<=n/\Vcg.Mod NoB w w'/\Blk w' D 5 cur/\cur.size=cs.size/\∀i,i<j->cur[i]?=C (bV x),fun m _=>((n:Int)-m).toNat,⟨1,cur0,rfl,JL _,by omega,M3,B3,hs0,hg0⟩,?_⟩;rintro _ _ w4⟨j,cur,rfl,hj1,hjn,M4,B4,hs4,hg4⟩
  have rd:∀(w':W)(cur:Array Value)(q:Nat),Blk w' D 5 cur->(∀i,i<q->cur[i]?=C (bV x))->RdB w' (C ⟨D,0,X⟩) (J0 q x):=fun w' cur q B hg=>RdB.of_blk B (fun i hi=>by
   rw[L]at hi;rw[J9,hg i hi];simp[J5,hi])
  refine⟨fun hlt=>?_,fun hge=>?_⟩
  ·rintro _ rfl
   have B5:=B4.drew;have M5:=M4.step_drew;have hmin:min (j:Int) (n:Int)=((j:Nat):Int):=by omega
   rw[hmin];refine⟨⟨by omega,by omega⟩,⟨by omega,by omega⟩,?_⟩
   have hsub:subO (C ⟨D,0,X⟩) n (Jg (j:Int)) 1=C ⟨D,j,X⟩:=by
    rw[JF];unfold subO;rw[if_neg (by omega)];simp only[Option.map_some,Je];rw[Z3,J9]
   rw[hsub,JF];have hcl:(J0 j x).length=j:=L;obtain⟨w6,hr6,B6,Q6⟩:=Z5m (P:=Y) (t:=23) (tx:=23) (ty:=3) (g:=D) (dLen:=n-j) (dCap:=n-j) (n:=min j (n-j)) (o:=j) (c:=n) ZW Z1X B5 (rd _ cur j B5 hg4) (by rw[hcl]) (by omega);rw[hcl]at hr6;refine⟨_,w6,hr6,_,rfl,?_⟩;have ew:G I ((j:Int)+((min j (n-j):Nat):Int))=((j+min j (n-j):Nat):Int):=by rw[Z0 (by omega) (by omega)];omega
   rw[ew];refine⟨⟨j+min j (n-j),_,rfl,by omega,by omega,ZI M5 Q6 (by omega),B6,by rw[Zi];exact hs4,fun i hi=>?_⟩,by dsimp only;omega⟩;have htl:(((J0 j x).take (min j (n-j))).map bV).length=min j (n-j):=by rw[JX,List.length_take,hcl];omega
   rw[Zn _ _ _ _ (by rw[htl];omega),htl];by_cases hij:i<j
   ·rw[if_neg (by omega)];exact hg4 i hij
   ·rw[if_pos (by omega),JS,List.getElem?_take,if_pos (by omega),JN,if_pos (by omega)]
    rfl
  ·obtain rfl:j=n:=by omega
   exact hR _ _ ⟨_,_,rfl,rd _ cur j B4 hg4,M4⟩
theorem Z4P{w:W}{o o2:Option Addr}{k k2:Nat}{p q:By}(hp:RdB w o p)(hq:RdB w o2 q)(hl:p.length+q.length<=2^30) :
  J3 Y Z3d.n #[.slice o p.length k,.slice o2 q.length k2] w (fun e w'=>∃o' k',e=J (.slice o' (p++q).length k')/\ZU w w' tU8 1 o' (p++q).length k' ((p++q).map bV)):=by
 refine Z3d.vc _ _ _ _ _ _ _ _ ?_;unfold Z3d.Vc;refine(Z1s hp (by omega)).mono ?_;rintro _ w1⟨o1,k1,rfl,F1⟩;obtain⟨o3,k3,w3,hr3,F3⟩:=ZX (ty:=Zw) (k2:=k2) F1 (hq.mod' F1.mod) (by omega);rw[<-J1]at hr3 F3;exact⟨_,_,_,rfl,_,_,hr3,_,_,_,rfl,_,_,rfl,F3⟩
def Z6A(a b p:By):Int:=if Z0C a b p= -1 then 1 else if Z0C a b p=1 then 0 else 2
theorem ZIX{a b p:By}:Z6A a b p=if Z25 (hi64 p) a<0\/Z25 (Z57 p) b>0 then 1 else if Z25 (Z57 p) a>=0/\Z25 (hi64 p) b<=0 then 0 else 2:=by
 unfold Z6A Z0C;by_cases h1:Z25 (hi64 p) a<0\/Z25 (Z57 p) b>0
 ·rw[if_pos h1,if_pos h1,if_pos rfl]
 ·rw[if_neg h1,if_neg h1]
  by_cases h2:Z25 (Z57 p) a>=0/\Z25 (hi64 p) b<=0
  ·rw[if_pos h2,if_pos h2,if_neg (by decide),if_pos rfl]
  ·rw[if_neg h2,if_neg h2,if_neg (by decide),if_neg (by decide)]
theorem ZFm{w:W}{n:Nat}:RdB (w.alloc (U (madeCells (Jc JE 0).cells n) 5)) (C ⟨w.heap.size,0,X⟩) (J0 n 0) :=
 RdB.of_blk (Blk.new w 5 _) (fun i hi=>by
  rw[L]at hi;show(madeCells #[.int JE 0] n)[0+i]?=_;rw[<-Array.getElem?_toList,toList_madeCells_one,J9,JN,if_pos hi];simp[J5,hi,bV])
section
variable{w:W}
theorem ZAR{o1 o2 o:Option Addr}{k1 k2 k:Nat}{a b p:By}(h1:RdB w o1 a)(h2:RdB w o2 b)(hp:RdB w o p)(hl:p.length<=64) :
  J3 Y Z1U.n #[.agg #[.slice o1 a.length k1,.slice o2 b.length k2],.slice o p.length k] w (fun e w'=>e=J (.int I (Z6A a b p))/\Vcg.Mod NoB w w'):=by
 refine ZD fun R hR=>Z1U.vc _ _ _ _ _ _ _ _ _ _ _ ?_;unfold Z1U.Vc;rintro d w1⟨rfl,rfl⟩;have M1:=Mod.alloc (S:=NoB) w (U #[.slice o1 a.length k1,.slice o2 b.length k2] 73);have S1:=Blk.new w 73 #[.slice o1 a.length k1,.slice o2 b.length k2];generalize w.heap.size=D at *
 generalize w.alloc (U #[.slice o1 a.length k1,.slice o2 b.length k2] 73)=w1 at *
 have ew:G I (64-(p.length:Int))=((64-p.length:Nat):Int):=by rw[Z0 (by omega) (by omega)];omega
 rw[ew];obtain⟨iu,hiu,hz,hs,hb⟩:=Z2Q Z7h;have hmk:=run_make (P:=Y) w1 23 5 iu _ ZW hiu hz I I ((64-p.length:Nat):Int) ((64-p.length:Nat):Int) (by omega) (Int.le_refl _) (by rw[hb];omega) (by omega);rw[JF,hs,Je]at hmk;have M2:=Mod.alloc (S:=NoB) w1 (U (madeCells (Jc JE 0).cells (64-p.length)) 5);have Z2:=ZFm (w:=w1) (n:=64-p.length);refine⟨_,_,hmk,_,_,_,rfl,?_⟩;generalize w1.alloc (U (madeCells (Jc JE 0).cells (64-p.length)) 5)=w2 at *
 generalize(C ⟨w1.heap.size,0,X⟩:Option Addr)=oz at *
 have M02:=M1.none_trans M2;have hj:=Z4P (k:=k) (k2:=64-p.length) (hp.mod' M02) Z2 (by rw[L];omega);rw[L]at hj;refine hj.mono ?_;rintro _ w3⟨ol,kl,rfl,FL⟩;have M03:=M02.none_trans FL.mod;refine⟨_,_,_,rfl,?_⟩;rintro d4 w4⟨rfl,rfl⟩;have M4:=Mod.alloc (S:=NoB) w3 (U #[.int JE 15] 5)
 have X4:RdB (w3.alloc (U #[.int JE 15] 5)) (C ⟨w3.heap.size,0,X⟩) [15]:=RdB.of_blk (Blk.new w3 5 #[bV 15]) (fun j hj=>by
  obtain rfl:j=0:=by simpa using hj
  rfl)
 generalize w3.alloc (U #[.int JE 15] 5)=w4 at *
 generalize(C ⟨w3.heap.size,0,X⟩:Option Addr)=ox at *
 refine(ZBg (n:=64-p.length) X4 (by omega)).mono ?_;rintro _ w5⟨or,kr,rfl,hr5,M5⟩;have M05:=(M03.none_trans M4).none_trans M5;refine⟨_,_,_,rfl,?_⟩;have hj:=Z4P (k:=k) (k2:=kr) (hp.mod' M05) hr5 (by rw[L];omega);rw[L]at hj;refine hj.mono ?_;rintro _ w6⟨oh,kh,rfl,FH⟩;have M06:=M05.none_trans FH.mod;have L6:RdB w6 ol (Z57 p):=(ZK FL).mod' (((M4.none_trans M5)).none_trans FH.mod);have H6:RdB w6 oh (hi64 p):=ZK FH;have S6:=S1.mod' ((((M2.none_trans FL.mod).none_trans M4).none_trans M5).none_trans FH.mod);have a6:=h1.mod' M06;have b6:=h2.mod' M06;refine⟨_,_,_,rfl,fun t w'=>w'=w6/\t=decide (Z25 (hi64 p) a<0\/Z25 (Z57 p) b>0),⟨_,_,_,S6.rd1 rfl,?_⟩,?_⟩
 ·refine(Z1B (a:=hi64 p) H6 a6).mono ?_
  rintro _ w6⟨rfl,rfl⟩;refine⟨_,rfl,fun h=>⟨rfl,by rw[decide_eq_true (JK h)]⟩,fun h=>⟨_,_,_,by rw[Z3];exact S6.rd1 rfl,?_⟩⟩;refine(Z1B (a:=Z57 p) L6 b6).mono ?_;rintro _ w6⟨rfl,rfl⟩;refine⟨_,rfl,rfl,?_⟩;exact decide_eq_decide.2 ⟨fun h'=>JH h',fun h'=>h'.resolve_left h⟩
 ·rintro _ _ w6⟨rfl,rfl⟩
  have hR':=fun v w'(hv:v=Z6A a b p)(M:Vcg.Mod NoB w w')=>hR (J (.int I v)) w' ⟨by rw[hv],M⟩;rw[ZIX]at hR';refine⟨fun h=>hR' _ _ (by rw[if_pos (of_decide_eq_true h)]) M06,fun h=>?_⟩;have hn:=of_decide_eq_false h;rw[if_neg hn]at hR';refine⟨_,_,_,S6.rd1 rfl,?_⟩;refine(Z1B (a:=Z57 p) L6 a6).mono ?_;rintro _ w6⟨rfl,rfl⟩;refine⟨_,rfl,fun h1=>⟨_,_,_,by rw[Z3];exact S6.rd1 rfl,?_⟩,fun h1=>hR' _ _ (by rw[if_neg (fun h=>h1 h.1)]) M06⟩;refine(Z1B (a:=hi64 p) H6 b6).mono ?_;rintro _ w6⟨rfl,rfl⟩;exact⟨_,rfl,fun h2=>hR' _ _ (by rw[if_pos ⟨h1,h2⟩]) M06,fun h2=>hR' _ _ (by rw[if_neg (fun h=>h2 h.2)]) M06⟩
theorem ZCk{a b:By}(ha:a.length=32)(hb:b.length=32) :
  J3 Y Z2d.n #[.agg (hashA a),.agg (hashA b)] w (fun e w'=>∃o1 k1 o2 k2,e=J (J8 #[.agg #[.slice o1 (nibbles a).length k1,.slice o2 (nibbles b).length k2],.bool (decide (Z25 a b<=0))])/\Vcg.Mod NoB w w'/\RdB w' o1 (nibbles a)/\RdB w' o2 (nibbles b)/\(∀d,o1=C d->w.heap.size<=d.block)/\∀d,o2=C d->w.heap.size<=d.block):=by
 refine ZD fun R hR=>Z2d.vc _ _ _ _ ?_;unfold Z2d.Vc;rintro d w1⟨rfl,rfl⟩;have M1:=Mod.alloc (S:=NoB) w (U (hashA a) 27);have A1:=Blk.new w 27 (hashA a);generalize w.alloc (U (hashA a) 27)=w1 at *
 rintro d w2⟨rfl,rfl⟩;have M2:=Mod.alloc (S:=NoB) w1 (U (hashA b) 27);have B2:=Blk.new w1 27 (hashA b);have A2:=A1.mod' M2;generalize w1.alloc (U (hashA b) 27)=w2 at *
 rintro d w3⟨rfl,rfl⟩;have M3:=Mod.alloc (S:=NoB) w2 (U #[.slice X 0 0,.slice X 0 0] 73);have S3:=Blk.new w2 73 #[.slice X 0 0,.slice X 0 0];have A3:=A2.mod' M3;have B3:=B2.mod' M3;have hs2:w.heap.size<=w2.heap.size:=(M1.none_trans M2).size;generalize w2.alloc (U #[.slice X 0 0,.slice X 0 0] 73)=w3 at *
 rintro _ rfl;have M4:=((M1.none_trans M2).none_trans M3).step_drew;have A4:=A3.drew;have B4:=B3.drew;have S4:=S3.drew;have h43:w3.heap.size<=w3.drew.heap.size:=(Mod.drew (S:=NoB) w3).size;generalize w3.drew=w4 at *
 have rd:∀{w':W}{D:Nat}{h:By},h.length=32->Blk w' D 27 (hashA h)->RdB w' (C ⟨D,0,X⟩) h:=fun hh B=>RdB.of_blk B (fun i hi=>by rw[J9];exact ZF (by omega));have hn:=Z26 (k:=32) (rd ha A4) (by omega);rw[ha]at hn;refine hn.mono ?_;rintro _ w5⟨o1,k1,rfl,F5⟩;refine⟨_,_,_,rfl,?_⟩;have hn:=Z26 (k:=32) (rd hb (B4.mod' F5.mod)) (by omega);rw[hb]at hn;refine hn.mono ?_;rintro _ w6⟨o2,k2,rfl,F6⟩;refine⟨_,_,_,rfl,?_⟩;have M46:=F5.mod.none_trans F6.mod;have hc:=Z1B (k1:=32) (k2:=32) (rd ha (A4.mod' M46)) (rd hb (B4.mod' M46));rw[ha,hb]at hc;refine hc.mono ?_;rintro _ w6⟨rfl,rfl⟩;have S6:=S4.mod' M46;have M6:=M4.none_trans M46;refine⟨_,rfl,S6.canSet (by simp) rfl,?_⟩;rintro _ rfl;have S7:=S6.set 0 (.slice o1 (nibbles a).length k1);have Q7:Vcg.Mod (·=w2.heap.size) w6 _:=Mod.setCell w6 ⟨w2.heap.size,0,X⟩ (.slice o1 (nibbles a).length k1);rw[Z3,J9];refine⟨S7.canSet (by simp) rfl,?_⟩;rintro _ rfl;have S8:=S7.set 1 (.slice o2 (nibbles b).length k2);have Q8:=Q7.step_set (a:=⟨w2.heap.size,1,X⟩) (v:=.slice o2 (nibbles b).length k2) (fun _=>rfl)
 have hne:∀{o:Option Addr}{x:W}{l k:Nat}{vs:List Value},ZU x w6 tU8 1 o l k vs->w3.heap.size<=x.heap.size->∀d,o=C d->¬d.block=w2.heap.size:=fun F hx d hd e=>by
  have:=F.new d.block ⟨d,hd,rfl⟩;have:=S3.lt;omega
 refine⟨_,_,_,_,_,_,S8.rd1 rfl,S8.rd1 rfl,hR _ _ ⟨o1,k1,o2,k2,rfl,ZI M6 Q8 hs2,?_,?_,fun d hd=>?_,fun d hd=>?_⟩⟩
 ·exact(ZK (F5.mod' F6.mod)).mod Q8 (fun d hd=>hne (F5.mod' F6.mod) h43 d hd)
 ·exact(ZK F6).mod Q8 (fun d hd=>hne F6 (by have:=F5.mod.size;omega) d hd)
 ·have:=F5.new d.block ⟨d,hd,rfl⟩;have:=M4.size;omega
 ·have:=F6.new d.block ⟨d,hd,rfl⟩;have:=F5.mod.size;have:=M4.size;omega
end
theorem ZEk{w:W}{lab:Nat->Nat}{c:Nat}{o:Option Addr}{n k:Nat}{b:By}{ty:TypeId}(H:COw w lab c tU8 1 o n k (b.map bV)){o2:Option Addr}{x:By}{k2:Nat}(hr:RdB w o2 x)(hn:n+x.length<=2^40) :
  ∃o' c' w',JB Y (builtinV .append #[Zw,Zw] ty #[.slice o n k,.slice o2 x.length k2]) w=.ok (.slice o' (n+x.length) c') w'/\COw w' (ext lab w.heap.size c) c tU8 1 o' (n+x.length) c' ((b++x).map bV)/\Stp (·=c) w lab w' (ext lab w.heap.size c):=by
 obtain⟨i,hi,hz,hs,hb⟩:=Z2Q Z7h;rw[List.map_append];exact COw.append ZW hi hz hs rfl H (Z7G ZW hr) (by simp only[maxLen];omega) (by rw[hb];omega)
theorem ZA8{w:W}{o1 o2:Option Addr}{k1 k2 l1 l2:Nat}{a b:By}(e1:l1=a.length)(e2:l2=b.length)(h1:RdB w o1 a)(h2:RdB w o2 b)(hl:a.length<=2^62) :
  J3 Y Zq.n #[.slice o1 l1 k1,.slice o2 l2 k2] w (fun e w'=>e=J (.int I (Z25 a b))/\Vcg.Mod NoB w w'):=by
 subst e1 e2;exact ZBt h1 h2 hl
theorem Z6Y{w:W}{o:Option Addr}{k:Nat}{a b p:By}(ha:a.length=32)(hb:b.length=32)(hp:RdB w o p)(hl:p.length<=64) :
  J3 Y Z0p.n #[.slice o p.length k,.agg (hashA a),.agg (hashA b)] w (fun e w'=>e=J (.int I (Z0C (nibbles a) (nibbles b) p))/\Vcg.Mod NoB w w'):=by
 refine ZD fun R hR=>Z0p.vc _ _ _ _ _ _ _ ?_;unfold Z0p.Vc;rintro d w1⟨rfl,rfl⟩;have M1:=Mod.alloc (S:=NoB) w (U (hashA a) 27);have A1:=Blk.new w 27 (hashA a);generalize w.alloc (U (hashA a) 27)=w1 at *
 rintro d w2⟨rfl,rfl⟩;have M2:=Mod.alloc (S:=NoB) w1 (U (hashA b) 27);have B2:=Blk.new w1 27 (hashA b);have A2:=A1.mod' M2;generalize w1.alloc (U (hashA b) 27)=w2 at *
 rintro _ rfl;have M3:=(M1.none_trans M2).step_drew;have A3:=A2.drew;have B3:=B2.drew;generalize w2.drew=w3 at *
 have rd:∀{w':W}{D:Nat}{h:By},h.length=32->Blk w' D 27 (hashA h)->RdB w' (C ⟨D,0,X⟩) h:=fun hh B=>RdB.of_blk B (fun i hi=>by rw[J9];exact ZF (by omega));have hn:=Z1G (k:=32) (rd ha A3) (by omega);rw[ha]at hn;refine hn.mono ?_;rintro _ w4⟨o1,k1,rfl,F1⟩;refine⟨_,_,_,rfl,?_⟩;have hn:=Z1G (k:=32) (rd hb (B3.mod' F1.mod)) (by omega);rw[hb]at hn;refine hn.mono ?_;rintro _ w5⟨o2,k2,rfl,F2⟩;refine⟨_,_,_,rfl,?_⟩;have M5:=(M3.none_trans F1.mod).none_trans F2.mod;have p5:=hp.mod' M5;have a5:CBy w5 (fun _=>0) 0 o1 (nibbles a):=⟨(ZK F1).mod' F2.mod,fun _ _ _=>rfl⟩;have b5:CBy w5 (fun _=>0) 0 o2 (nibbles b):=⟨ZK F2,fun _ _ _=>rfl⟩;have c5:CBy w5 (fun _=>0) 0 o p:=⟨p5,fun _ _ _=>rfl⟩;obtain⟨ol,kl,w6,hr6,L6,s6⟩:=ZEk (w:=w5) (lab:=fun _=>0) (c:=1) (b:=[]) (ty:=23) (k2:=k) (COw.nil w5 _ 1 tU8 1) p5 (by omega);rw[J9]at hr6 L6;rw[JY]at L6;refine⟨_,w6,hr6,_,_,_,rfl,?_⟩;have c6:=c5.stp s6 (by decide);obtain⟨oh,kh,w7,hr7,H7,s7⟩:=ZEk (w:=w6) (c:=2) (b:=[]) (ty:=23) (k2:=k) (COw.nil w6 (ext (fun _=>0) w5.heap.size 1) 2 tU8 1) c6.rd (by omega);rw[J9]at hr7 H7;rw[JY]at H7;refine⟨_,w7,hr7,_,_,_,rfl,?_⟩;have s57:=(s6.mono (T:=fun k=>k=1\/k=2) (fun _ h=>JK h)).trans (s7.mono (fun _ h=>JH h));have L7:=L6.stp s7 (by decide);generalize ext (ext (fun _=>0) w5.heap.size 1) w6.heap.size 2=lab7 at *
 refine⟨fun o1' l1' k1' o2' l2' k2' w'=>∃(lab:Nat->Nat)(j:Nat),p.length+j<=64/\l1'=p.length+j/\l2'=p.length+j/\COw w' lab 1 tU8 1 o1' l1' k1' ((p++J0 j 0).map bV)/\COw w' lab 2 tU8 1 o2' l2' k2' ((p++J0 j 15).map bV)/\Stp (fun k=>k=1\/k=2) w5 (fun _=>0) w' lab,
  fun _ l _ _ _ _ _=>64-l,⟨lab7,0,by omega,rfl,rfl,by simpa using L7,by simpa using H7,s57⟩,?_⟩
 rintro o1' _ k1' o2' _ k2' _ w8⟨lab8,j,hj,rfl,rfl,L8,H8,s8⟩;refine⟨fun hlt=>?_,fun hge=>?_⟩
 ·rintro d9 w9⟨rfl,rfl⟩
  have s9:Stp NoS w8 lab8 (w8.alloc (U #[.int JE 0] 5)) (ext lab8 w8.heap.size 9):=Stp.alloc NoS w8 lab8 _ 9
  have Z9:RdB (w8.alloc (U #[.int JE 0] 5)) (C ⟨w8.heap.size,0,X⟩) [0]:=RdB.of_blk (Blk.new w8 5 #[bV 0]) (fun j hj=>by
   obtain rfl:j=0:=by simpa using hj
   rfl)
  have L9:=L8.stp s9 (fun h=>h);have H9:=H8.stp s9 (fun h=>h);obtain⟨o10,k10,w10,hr10,L10,s10⟩:=ZEk (ty:=23) (k2:=1) L9 Z9 (by simp;omega);refine⟨_,w10,hr10,_,_,_,rfl,?_⟩;have H10:=H9.stp s10 (by decide);have s8':=(s8.trans (s9.mono (fun _ h=>h.elim))).trans (s10.mono (T:=fun k=>k=1\/k=2) (fun _ h=>JK h));clear s9 Z9 L9 H9 hr10 s10;generalize ext (ext lab8 w8.heap.size 9) (w8.alloc (U #[.int JE 0] 5)).heap.size 1=lab10 at *
  rintro d11 w11⟨rfl,rfl⟩;have s11:Stp NoS w10 lab10 (w10.alloc (U #[.int JE 15] 5)) (ext lab10 w10.heap.size 9):=Stp.alloc NoS w10 lab10 _ 9
  have Z11:RdB (w10.alloc (U #[.int JE 15] 5)) (C ⟨w10.heap.size,0,X⟩) [15]:=RdB.of_blk (Blk.new w10 5 #[bV 15]) (fun j hj=>by
   obtain rfl:j=0:=by simpa using hj
   rfl)
  have L11:=L10.stp s11 (fun h=>h);have H11:=H10.stp s11 (fun h=>h);obtain⟨o12,k12,w12,hr12,H12,s12⟩:=ZEk (ty:=23) (k2:=1) H11 Z11 (by simp;omega);refine⟨_,w12,hr12,_,_,_,rfl,?_⟩;have L12:=L11.stp s12 (by decide);have s12':=(s8'.trans (s11.mono (fun _ h=>h.elim))).trans (s12.mono (T:=fun k=>k=1\/k=2) (fun _ h=>JH h));have e1:∀x:UInt8,p++J0 j x++[x]=p++J0 (j+1) x:=fun x=>by rw[JM,List.replicate_succ']
  rw[e1]at L12 H12;exact⟨⟨_,j+1,by omega,rfl,rfl,L12,H12,s12'⟩,by simp;omega⟩
 ·obtain rfl:j=64-p.length:=by omega
  have M58:Vcg.Mod NoB w5 w8:=s8.mod (fun k hk hs=>by rcases hs with h|h<;>cases h);have M8:=M5.none_trans M58;have a8:=(a5.stp s8 (by decide)).rd;have b8:=(b5.stp s8 (by decide)).rd;have l8:RdB w8 o1' (Z57 p):=L8.own.bytes;have h8:RdB w8 o2' (hi64 p):=H8.own.bytes;have el:p.length+(64-p.length)=(Z57 p).length:=by unfold Z57;rw[J1,L]
  have eh:p.length+(64-p.length)=(hi64 p).length:=by unfold hi64;rw[J1,L]
  have hll:(Z57 p).length<=2^62:=by omega
  have hhl:(hi64 p).length<=2^62:=by omega
  have na:(nibbles a).length<=2^62:=by rw[ZQ];omega
  have place:∀v w',v=Z0C (nibbles a) (nibbles b) p->Vcg.Mod NoB w8 w'->R (J (.int I v)) w':=fun v w' hv M=>hR _ _ ⟨by rw[hv],M8.none_trans M⟩;unfold Z0C at place;refine(ZA8 (k1:=k2') (k2:=k1) eh rfl h8 a8 hhl).mono ?_;rintro _ w9⟨rfl,M9⟩;refine⟨_,rfl,fun h1=>place _ _ (by rw[if_pos (JK h1)]) M9,fun h1=>?_⟩;refine(ZA8 (k1:=k1') (k2:=k2) el rfl (l8.mod' M9) (b8.mod' M9) hll).mono ?_;rintro _ w10⟨rfl,M10⟩;have M810:=M9.none_trans M10;refine⟨_,rfl,fun h2=>place _ _ (by rw[if_pos (JH h2)]) M810,fun h2=>?_⟩;have hn:¬(Z25 (hi64 p) (nibbles a)<0\/Z25 (Z57 p) (nibbles b)>0):=fun h=>h.elim h1 h2;rw[if_neg hn]at place;refine(ZA8 (k1:=k1') (k2:=k1) el rfl (l8.mod' M810) (a8.mod' M810) hll).mono ?_;rintro _ w11⟨rfl,M11⟩;have M811:=M810.none_trans M11;refine⟨_,rfl,fun h3=>?_,fun h3=>place _ _ (by rw[if_neg (fun h=>h3 h.1)]) M811⟩;refine(ZA8 (k1:=k2') (k2:=k2) eh rfl (h8.mod' M811) (b8.mod' M811) hhl).mono ?_;rintro _ w12⟨rfl,M12⟩;have M812:=M811.none_trans M12;exact⟨_,rfl,fun h4=>place _ _ (by rw[if_pos ⟨h3,h4⟩]) M812,fun h4=>place _ _ (by rw[if_neg (fun h=>h4 h.2)]) M812⟩
end Go.Proofs.YtfghidehlnfdiaaGreat
end
