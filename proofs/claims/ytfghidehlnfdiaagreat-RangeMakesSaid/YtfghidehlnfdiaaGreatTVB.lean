/- Contracts: Verify (package proof). -/
/- Contracts: few, does. -/
/- The walk of TrieRoots. -/
/- The walk of TrieOrder. -/
/- The walk of TrieOne. -/
/- Two Keccak values: of the empty text's encoding, of the leaf of one short key. -/
/- The law's own check of the document's proofs. -/
/- Contracts: few, turned (morainelaw16). -/
/- The verification conditions of some functions, printed by a program of ours (wip/PrintVc.lean). -/
/- The verification conditions of some functions, printed by a program of ours (wip/PrintVc.lean). -/
import Derived.Test.YtfghidehlnfdiaaGreatPW12
import Derived.Test.YtfghidehlnfdiaaGreatTL9
import Derived.Test.YtfghidehlnfdiaaGreatPW2
import Derived.Test.YtfghidehlnfdiaaGreatProg
import Derived.KernelRfl
set_option linter.unusedVariables false
set_option linter.unusedSimpArgs false
open Array renaming replicate->JC,size->JM
open Bool renaming false->J2,true->JD
open Go renaming Calls->T,Ending->J6,World->I,convert->JZ
open Go.Builtin renaming append->J9
open Go.Ending renaming panicked->W,returned->J
open Go.IntKind renaming i64->O,u64->J8,u8->X,wrap->Z
open Go.Obj renaming cells->J5
open Go.Proofs.Tryz renaming prog->Y
open Go.Sem renaming run->J1
open Go.Value renaming pointer->K,tuple->U
open Go.World renaming cell?->JG
open Int renaming fdiv->JJ,tdiv->JX,toNat->JU,toNat_natCast->J4
open List renaming drop_eq_nil_of_le->JO,eq_nil_of_length_eq_zero->JH,getElem?_append_left->JN,getElem?_append_right->JL,getElem?_drop->JT,getElem?_eq_getElem->J7,getElem?_set_ne->JI,getElem?_take->JS,getElem_of_mem->JB,getElem_take->JF,length_append->JE,length_drop->JA,length_set->JK,length_take->J3,mem_append_left->JP,range->JY
open Nat renaming le_refl->JQ,lt_of_lt_of_le->JR,zero_add->JV,zero_le->JW
open Option renaming none->J0,some->V
section
namespace Go.Proofs.YtfghidehlnfdiaaGreat
open Go Go.Vcg Go.Trie
def ZE7(N:Nat):Nat->Nat:=fun k=>if k=N+5 then 7 else if N<=k then 1 else 0
theorem ZCH{N k:Nat}(h:k<N):ZE7 N k=0:=by unfold ZE7;rw[if_neg (by omega),if_neg (by omega)]
theorem ZCG{N k:Nat}(h:N<=k)(h5:k≠N+5):ZE7 N k=1:=by unfold ZE7;rw[if_neg h5,if_pos h]
theorem ZHG{N:Nat}:ZE7 N (N+5)=7:=if_pos rfl
theorem Z7p{p:List By}{root key:By}(h1:¬p.length>256)(h2:¬key.length>64):Z30 p root key=(match way (vStep p) 0 (rootIt root) (nibbles key)with
  |(at_,.ok v)=>if at_<p.length then .error 162 else .ok v
  |(_,.error e)=>.error e):=by
 unfold Z30;exact(if_neg h1).trans (if_neg h2)
theorem Z6K{w:I}{lab:Nat->Nat}{c:Nat}{p:List By}{o ok:Option Addr}{k kk:Nat}{root key:By}(h:ZDY w lab c p o)(hlen:p.length<=2^40)(hb:∀x∈p,x.length<=2^30)(hroot:root.length=32)(hkey:RdB w ok key) :
  T Y Z1I.n #[.agg (hashA root),.slice ok key.length kk,.slice o p.length k] w (Z8r p root key w):=by
 refine ZG fun R hR=>Z1I.vc _ _ _ _ _ _ _ _ _ ?_;unfold Z1I.Vc;have hL:ZDY w (ZE7 w.heap.size) 0 p o:=h.re (fun k hk _=>ZCH hk);rintro d3 w1⟨rfl,rfl⟩;have M1:=Mod.alloc (S:=NoB) w (J5 (hashA root) 27);have X1:=Blk.new w 27 (hashA root);have z1:=ZC w (J5 (hashA root) 27);generalize hNe:w.heap.size=N at *
 generalize w.alloc (J5 (hashA root) 27)=w1 at *
 rintro d5 w2⟨rfl,rfl⟩;have M12:=Mod.alloc (S:=NoB) w1 (J5 #[.slice o p.length k] 31);have P2:=Blk.new w1 31 #[.slice o p.length k];have z2:=ZC w1 (J5 #[.slice o p.length k] 31);have X2:=X1.mod' M12;have M2:=M1.none_trans M12;rw[z1]at P2 z2 ⊢;generalize w1.alloc (J5 #[.slice o p.length k] 31)=w2 at *
 rintro d7 w3⟨rfl,rfl⟩;have M23:=Mod.alloc (S:=NoB) w2 (J5 #[.slice J0 0 0] 23);have V3:=Blk.new w2 23 #[.slice J0 0 0];have z3:=ZC w2 (J5 #[.slice J0 0 0] 23);have X3:=X2.mod' M23;have P3:=P2.mod' M23;have M3:=M2.none_trans M23;rw[z2]at V3 z3 ⊢;generalize w2.alloc (J5 #[.slice J0 0 0] 23)=w3 at *
 rintro d9 w4⟨rfl,rfl⟩;have M34:=Mod.alloc (S:=NoB) w3 (J5 #[.bool J2] 4);have B4:=Blk.new w3 4 #[.bool J2];have z4:=ZC w3 (J5 #[.bool J2] 4);have X4:=X3.mod' M34;have P4:=P3.mod' M34;have V4:=V3.mod' M34;have M4:=M3.none_trans M34;rw[z3]at B4 z4 ⊢;generalize w3.alloc (J5 #[.bool J2] 4)=w4 at *
 rintro d11 w5⟨rfl,rfl⟩;have M45:=Mod.alloc (S:=NoB) w4 (J5 #[.int O 0] 40);have E5:=Blk.new w4 40 #[.int O 0];have z5:=ZC w4 (J5 #[.int O 0] 40);have X5:=X4.mod' M45;have P5:=P4.mod' M45;have V5:=V4.mod' M45;have B5:=B4.mod' M45;have M5:=M4.none_trans M45;rw[z4]at E5 z5 ⊢;generalize w4.alloc (J5 #[.int O 0] 40)=w5 at *
 clear X1 X2 X3 X4 P2 P3 P4 V3 V4 B4 M1 M12 M2 M23 M3 M34 M4 M45 z1 z2 z3 z4;simp only[show N+1+1=N+2 from rfl,show N+2+1=N+3 from rfl,show N+3+1=N+4 from rfl,show N+4+1=N+5 from rfl]at *
 have ret3:∀(wa:I)(er:Int),er≠0->Z30 p root key=.error er->Blk wa (N+2) 23 #[.slice J0 0 0]->Blk wa (N+3) 4 #[.bool J2]->Blk wa (N+4) 40 #[.int O 0]->Vcg.Mod NoB w wa ->
   Z1 wa ⟨N+2,0,J0⟩ (.slice J0 0 0)/\∀w16:I,Z8 wa ⟨N+2,0,J0⟩ (.slice J0 0 0) w16 ->
   Z1 w16 ⟨N+3,0,J0⟩ (.bool J2)/\∀w17:I,Z8 w16 ⟨N+3,0,J0⟩ (.bool J2) w17 ->
   Z1 w17 ⟨N+4,0,J0⟩ (.int O er)/\∀w18:I,Z8 w17 ⟨N+4,0,J0⟩ (.int O er) w18 ->
   ∃o19:Option Addr,∃l20:Nat,∃l21:Nat,JG w18 ⟨N+2,0,J0⟩=V (.slice o19 l20 l21) /\
   ∃b22:Bool,JG w18 ⟨N+3,0,J0⟩=V (.bool b22) /\
   ∃n23:Int,JG w18 ⟨N+4,0,J0⟩=V (.int O n23)/\R (J (U #[(.slice o19 l20 l21),(.bool b22),(.int O n23)])) w18:=by
  intro wa er her hv Va Ba Ea Ma;refine⟨Va.canSet (by simp) rfl,?_⟩;rintro _ rfl;have Vb:=Va.set 0 (.slice J0 0 0);have Bb:=Ba.set_ne (a:=⟨N+2,0,J0⟩) (v:=.slice J0 0 0) (by show N+3≠N+2;omega);have Eb:=Ea.set_ne (a:=⟨N+2,0,J0⟩) (v:=.slice J0 0 0) (by show N+4≠N+2;omega);have Mb:Vcg.Mod NoB w _:=ZK Ma (Mod.setCell wa ⟨N+2,0,J0⟩ (.slice J0 0 0)) (by show w.heap.size<=N+2;omega);refine⟨Bb.canSet (by simp) rfl,?_⟩;rintro _ rfl;have Vc:=Vb.set_ne (a:=⟨N+3,0,J0⟩) (v:=.bool J2) (by show N+2≠N+3;omega);have Bc:=Bb.set 0 (.bool J2);have Ec:=Eb.set_ne (a:=⟨N+3,0,J0⟩) (v:=.bool J2) (by show N+4≠N+3;omega);have Mc:Vcg.Mod NoB w _:=ZK Mb (Mod.setCell _ ⟨N+3,0,J0⟩ (.bool J2)) (by show w.heap.size<=N+3;omega);refine⟨Ec.canSet (by simp) rfl,?_⟩;rintro _ rfl;have Vd:=Vc.set_ne (a:=⟨N+4,0,J0⟩) (v:=.int O er) (by show N+2≠N+4;omega);have Bd:=Bc.set_ne (a:=⟨N+4,0,J0⟩) (v:=.int O er) (by show N+3≠N+4;omega);have Ed:=Ec.set 0 (.int O er);refine⟨_,_,_,Vd.rd1 rfl,_,Bd.rd1 rfl,_,Ed.rd1 rfl,hR _ _ ⟨ZK Mc (Mod.setCell _ ⟨N+4,0,J0⟩ (.int O er)) (by show w.heap.size<=N+4;omega),?_⟩⟩;rw[hv];exact⟨her,rfl⟩
 refine⟨_,_,_,P5.rd1 rfl,fun hbig=>?_,fun hbig=>⟨fun hk=>?_,fun hk=>?_⟩⟩
 ·exact ret3 w5 162 (by decide) (by unfold Z30;rw[if_pos (by omega)]) V5 B5 E5 M5
 ·exact ret3 w5 140 (by decide) (by unfold Z30;rw[if_neg (by omega),if_pos (by omega)]) V5 B5 E5 M5
 ·rintro d32 w6⟨rfl,rfl⟩
  have M56:=Mod.alloc (S:=NoB) w5 (J5 #[.int O 0] 3);have A6:=Blk.new w5 3 #[.int O 0];have z6:=ZC w5 (J5 #[.int O 0] 3);have X6:=X5.mod' M56;have P6:=P5.mod' M56;have V6:=V5.mod' M56;have B6:=B5.mod' M56;have E6:=E5.mod' M56;have M6:=M5.none_trans M56;rw[z5]at A6 z6 ⊢;generalize w5.alloc (J5 #[.int O 0] 3)=w6 at *
  refine⟨A6.canSet (by simp) rfl,?_⟩;rintro _ rfl;have A7:Blk (w6.setCell ⟨N+5,0,J0⟩ (.int O 0)) (N+5) 3 #[.int O 0]:=A6.set 0 (.int O 0);have Q7:Vcg.Mod (·=N+5) w6 _:=Mod.setCell w6 ⟨N+5,0,J0⟩ (.int O 0);have X7:=X6.mod Q7 (by omega);have P7:=P6.mod Q7 (by omega);have V7:=V6.mod Q7 (by omega);have B7:=B6.mod Q7 (by omega);have E7:=E6.mod Q7 (by omega);have M7:Vcg.Mod NoB w _:=ZK M6 Q7 (by omega);generalize w6.setCell ⟨N+5,0,J0⟩ (.int O 0)=w7 at *
  have s7:Stp NoS w (ZE7 N) w7 (ZE7 N):=⟨M7.os,M7.tape,M7.output,M7.size,fun _ _=>rfl,fun q hq _=>M7.block q hq (fun h=>h)⟩;have I7:ZGt p o k (N+5) (N+1) w7 (ZE7 N) 0:=⟨⟨A7,ZHG⟩,⟨P7,ZCG (by omega) (by omega)⟩,hL.stp s7 (fun h=>h),JW _⟩;have hlab:∀b,ZE7 N b=5\/ZE7 N b=7->N<=b:=fun b hb=>Nat.le_of_not_lt fun hlt=>by rw[ZCH hlt]at hb;omega
  refine⟨_,X7.rowAll (ZA _),?_⟩;refine(ZAj (askV (o:=o) (k:=k) (dA:=N+5) (dP:=N+1) hlen hb) I7 trivial hroot (hkey.mod' M7) (by omega)).mono ?_;rintro e w8⟨lab8,s78,I8,hw⟩;have V8:=(CB.mk V7 (ZCG (N:=N) (by omega) (by omega))).stp s78 (by decide);have B8:=(CB.mk B7 (ZCG (N:=N) (by omega) (by omega))).stp s78 (by decide);have E8:=(CB.mk E7 (ZCG (N:=N) (by omega) (by omega))).stp s78 (by decide);have M78:Vcg.Mod (fun b=>N<=b) w7 w8:=s78.mod (fun q hq hs=>hlab q hs);have M8:Vcg.Mod NoB w w8:=M7.trans M78 (fun i hi h=>by omega);have hvr:=Z7p (root:=root) (p:=p) (key:=key) (by omega) (by omega);obtain⟨A8,P8,_,hat⟩:=I8;generalize way (vStep p) 0 (rootIt root) (nibbles key)=res at hw hvr A8 hat;obtain⟨at_,r⟩:=res;dsimp only at A8 hat hvr
  have bad:∀(wa:I)(er:Int)(oV:Option Addr)(lV kV:Nat)(bB:Bool),er≠0->Z30 p root key=.error er->Blk wa (N+2) 23 #[.slice oV lV kV]->Blk wa (N+3) 4 #[.bool bB]->Blk wa (N+4) 40 #[.int O 0]->Vcg.Mod NoB w wa ->
    Z2m Y (fun w38 =>
     ∃o39:Option Addr,∃l40:Nat,∃l41:Nat,JG w38 ⟨N+2,0,J0⟩=V (.slice o39 l40 l41) /\
     ∃b42:Bool,JG w38 ⟨N+3,0,J0⟩=V (.bool b42) /\
     ∃n43:Int,JG w38 ⟨N+4,0,J0⟩=V (.int O n43) /\
     R (J (U #[(.slice o39 l40 l41),(.bool b42),(.int O n43)])) w38) R [(32,#[(K (V ⟨N+4,0,J0⟩))]),(51,#[(K (V ⟨N+4,0,J0⟩)),(K (V ⟨N+2,0,J0⟩)),(K (V ⟨N+3,0,J0⟩))])] (.panicking (Z2o er)) wa:=by
   intro wa er oV lV kV bB her hv Va Ba Ea Ma;refine ZAh her (by omega) (by omega) (by omega) Ea Va Ba (fun w' E' V' B' M'=>?_);refine⟨_,_,_,V'.rd1 rfl,_,B'.rd1 rfl,_,E'.rd1 rfl,hR _ _ ⟨Ma.trans M' (fun i hi h=>by omega),?_⟩⟩;rw[hv];exact⟨her,rfl⟩
  cases r with
  |error er =>
   obtain⟨rfl,hne⟩:=hw;exact .inl ⟨_,rfl,bad w8 er _ _ _ _ hne hvr V8.blk B8.blk E8.blk M8⟩
  |ok v =>
   obtain⟨ov,kv,rfl,hv⟩:=hw;refine .inr ⟨_,_,_,_,rfl,V8.blk.canSet (by simp) rfl,?_⟩;rintro _ rfl;have V9:=V8.blk.set 0 (.slice ov v.length kv);have Q9:Vcg.Mod (·=N+2) w8 _:=Mod.setCell w8 ⟨N+2,0,J0⟩ (.slice ov v.length kv);have s89:Stp (·=1) w8 lab8 _ lab8:=Stp.setCell (a:=⟨N+2,0,J0⟩) (v:=.slice ov v.length kv) V8.clr;have B9:=B8.blk.mod Q9 (by omega);have E9:=E8.blk.mod Q9 (by omega);have A9:=A8.blk.mod Q9 (by omega);have P9:=P8.blk.mod Q9 (by omega);have hv9:=hv.stp s89 (by decide);have M9:Vcg.Mod NoB w _:=ZK M8 Q9 (by omega);generalize w8.setCell ⟨N+2,0,J0⟩ (.slice ov v.length kv)=w9 at *
   refine⟨B9.canSet (by simp) rfl,?_⟩;rintro _ rfl;have B10:=B9.set 0 (.bool (decide (v≠[])));have Q10:Vcg.Mod (·=N+3) w9 _:=Mod.setCell w9 ⟨N+3,0,J0⟩ (.bool (decide (v≠[])));have s910:Stp (·=1) w9 lab8 _ lab8:=Stp.setCell (a:=⟨N+3,0,J0⟩) (v:=.bool (decide (v≠[]))) B8.clr;have V10:=V9.mod Q10 (by omega);have E10:=E9.mod Q10 (by omega);have A10:=A9.mod Q10 (by omega);have P10:=P9.mod Q10 (by omega);have hv10:=hv9.stp s910 (by decide);have M10:Vcg.Mod NoB w _:=ZK M9 Q10 (by omega);generalize w9.setCell ⟨N+3,0,J0⟩ (.bool (decide (v≠[])))=w10 at *
   refine⟨_,A10.rd1 rfl,_,_,_,P10.rd1 rfl,fun hlt=>?_,fun hge=>?_⟩
   ·simp only at hvr
    rw[if_pos (by omega)]at hvr;refine(Z1F w10 162).mono ?_;rintro e w11⟨rfl,he⟩;rw[if_neg (by decide)]at he;subst he;exact .inl ⟨_,rfl,bad _ 162 _ _ _ _ (by decide) hvr V10 B10 E10 M10⟩
   ·simp only at hvr
    rw[if_neg (by omega)]at hvr;rintro _ rfl;have s11:Stp NoS w10 lab8 w10.drew lab8:=Stp.drew _ _ _;have V11:=V10.drew;have B11:=B10.drew;have E11:=E10.drew;have hv11:=hv10.stp s11 (fun h=>h);have M11:=M10.step_drew;generalize w10.drew=w11 at *
    refine⟨_,_,_,V11.rd1 rfl,_,B11.rd1 rfl,V11.canSet (by simp) rfl,?_⟩;rintro _ rfl;have V12:=V11.set 0 (.slice ov v.length kv);have Q12:Vcg.Mod (·=N+2) w11 _:=Mod.setCell w11 ⟨N+2,0,J0⟩ (.slice ov v.length kv);have s12:Stp (·=1) w11 lab8 _ lab8:=Stp.setCell (a:=⟨N+2,0,J0⟩) (v:=.slice ov v.length kv) V8.clr;have B12:=B11.mod Q12 (by omega);have E12:=E11.mod Q12 (by omega);have hv12:=hv11.stp s12 (by decide);have M12:Vcg.Mod NoB w _:=ZK M11 Q12 (by omega);generalize w11.setCell ⟨N+2,0,J0⟩ (.slice ov v.length kv)=w12 at *
    refine⟨B12.rd1 rfl,B12.canSet (by simp) rfl,?_⟩;rintro _ rfl;have B13:=B12.set 0 (.bool (decide (v≠[])));have Q13:Vcg.Mod (·=N+3) w12 _:=Mod.setCell w12 ⟨N+3,0,J0⟩ (.bool (decide (v≠[])));have s13:Stp (·=1) w12 lab8 _ lab8:=Stp.setCell (a:=⟨N+3,0,J0⟩) (v:=.bool (decide (v≠[]))) B8.clr;have V13:=V12.mod Q13 (by omega);have E13:=E12.mod Q13 (by omega);have hv13:=hv12.stp s13 (by decide);have M13:Vcg.Mod NoB w _:=ZK M12 Q13 (by omega);generalize w12.setCell ⟨N+3,0,J0⟩ (.bool (decide (v≠[])))=w13 at *
    refine⟨E13.canSet (by simp) rfl,?_⟩;rintro _ rfl;have E14:=E13.set 0 (.int O 0);have Q14:Vcg.Mod (·=N+4) w13 _:=Mod.setCell w13 ⟨N+4,0,J0⟩ (.int O 0);have s14:Stp (·=1) w13 lab8 _ lab8:=Stp.setCell (a:=⟨N+4,0,J0⟩) (v:=.int O 0) E8.clr;have V14:=V13.mod Q14 (by omega);have B14:=B13.mod Q14 (by omega);have hv14:=hv13.stp s14 (by decide);refine ZBn E14 ⟨_,_,_,V14.rd1 rfl,_,B14.rd1 rfl,_,E14.rd1 rfl,hR _ _ ⟨ZK M13 Q14 (by omega),?_⟩⟩;rw[hvr];exact⟨ov,kv,rfl,hv14.rd⟩
end Go.Proofs.YtfghidehlnfdiaaGreat
end
section
namespace Go.Trie

end Go.Trie
end
section
namespace Go.Proofs.YtfghidehlnfdiaaGreat
open Go Go.Vcg Go.Trie
def StR(w:I)(o:Option Addr)(l:List (By×By)):Prop :=
 ∀(j:Nat)(hj:j<l.length),∃b f ok kk ov kv,o=V ⟨b,f,J0⟩/\b<w.heap.size/\w.cell? ⟨b,f+j*2,J0⟩=V (.slice ok l[j].1.length kk)/\RdB w ok l[j].1/\w.cell? ⟨b,f+(j*2+1),J0⟩=V (.slice ov l[j].2.length kv)/\RdB w ov l[j].2
theorem StR.mod'{w w':I}{o:Option Addr}{l:List (By×By)}(h:StR w o l)(M:Vcg.Mod NoB w w'):StR w' o l:=fun j hj=>by
 obtain⟨b,f,ok,kk,ov,kv,e1,e2,e3,e4,e5,e6⟩:=h j hj;exact⟨b,f,ok,kk,ov,kv,e1,JR e2 M.size,(ZU M e2 (fun h=>h)).trans e3,e4.mod' M,(ZU M e2 (fun h=>h)).trans e5,e6.mod' M⟩
end Go.Proofs.YtfghidehlnfdiaaGreat
end
section
namespace Go.Trie
theorem ZBm:∀{n:Nd},Z5u n->∀(top:Bool) (out:List (By×By)),(∀x∈out,x.2.length<=2000)->∀x∈Z1K n top out,x.2.length<=2000:=by
 have put:∀{m:Nd}(out:List (By×By))(top:Bool),Z5u m->(∀x∈out,x.2.length<=2000)->∀x∈Z1v out top (bytesOf m),x.2.length<=2000:=by
  intro m out top hm ho x hx;unfold Z1v at hx;split at hx
  ·exact ho x hx
  ·rcases List.mem_append.1 hx with hx|hx
   ·exact ho x hx
   ·simp only[List.mem_singleton]at hx
    rw[hx];exact Z8u hm
 intro n
 induction n with
 |nil=>intro hs top out ho x hx;exact ho x hx
 |leaf p v=>intro hs top out ho x hx;exact put out top hs ho x hx
 |row p c ih=>intro hs top out ho x hx;exact put _ top hs (ih hs.2 J2 out ho) x hx
 |branch cs v ih =>
  intro hs top out ho x hx
  have hf:∀(l:List (Fin 16))(o:List (By×By)),(∀x∈o,x.2.length<=2000)->∀x∈l.foldl (fun o i=>Z1K (cs i) J2 o) o,x.2.length<=2000:=by
   intro l
   induction l with
   |nil=>intro o ho x hx;exact ho x hx
   |cons i r ihr=>intro o ho x hx;exact ihr _ (ih i (hs.2 i) J2 o ho) x hx
  exact put _ top hs (hf _ out ho) x hx
theorem Z7W{n:Nd}(hs:Z5u n):∀x∈Z0c n,x.2.length<=2^20:=fun x hx=>by
 have:=ZBm hs JD [] (fun _ h=>by cases h) x hx;omega
theorem ZEJ(n:Nd):(Z0c n).length<=cnt n:=by
 have:=Z2l n JD [];simpa[Z0c]using this
end Go.Trie
end
section
namespace Go.Proofs.YtfghidehlnfdiaaGreat
open Go Go.Vcg Go.Trie

end Go.Proofs.YtfghidehlnfdiaaGreat
end
section
namespace Go.Trie
theorem ZAS:∀{m:List (By×By)} {x:By×By},Z1B (m++[x])->x.2≠[]->ZBS m x.1 x.2=m++[x]
 |[],x,_,hv=>by simp only[ZBS];rw[if_neg hv];rfl
 |y::r,x,hs,hv=>by
  rw[Z1B,List.cons_append,List.pairwise_cons]at hs;simp only[ZBS];rw[if_pos (Z1t.2 (hs.1 x (by simp))),ZAS hs.2 hv];rfl
end Go.Trie
end
section
namespace Go.Proofs.YtfghidehlnfdiaaGreat
open Go Go.Vcg Go.Trie
section
variable{w0 w w':I}{L L':Nat->Nat}{ta tb:Nat}{na nb n':Nd}{o:Option Addr}{m:List (By×By)}
end
end Go.Proofs.YtfghidehlnfdiaaGreat
end
section
namespace Go.Trie
theorem Z8b(p v:By):Z0c (.leaf p v)=[(rootOf (.leaf p v),bytesOf (.leaf p v))]:=by
 simp[Z0c,Z1K,Z1v,met,rootOf]
end Go.Trie
end
section
namespace Go.Proofs.YtfghidehlnfdiaaGreat
open Go Go.Vcg Go.Trie

end Go.Proofs.YtfghidehlnfdiaaGreat
end
section
namespace Go.Vcg
def kFm:List UInt8:=[128]
def kFh:List UInt8:=[86,232,31,23,27,204,85,166,255,131,69,230,146,192,248,110,91,72,224,27,153,108,173,192,1,98,47,181,227,99,180,33]
def kGm:List UInt8:=[196,130,32,97,49]
def kGh:List UInt8:=[89,182,151,164,219,12,71,85,64,72,98,21,193,232,246,73,69,164,160,173,141,41,29,230,205,144,33,196,251,246,57,221]
def matS(s:St):St:=lk ((JY 25).map s)
theorem ZG8{s r:St}(h:∀j,j<25->s j=r j):∀j,j<25->matS s j=r j:=fun j hj=>by
 rw[<-h j hj];simp[matS,lk,List.getD_eq_getElem?_getD,hj]
def rndM:Nat->St->St
 |0,s=>s
 |n+1,s=>matS (rnd n (rndM n s))
theorem ZEd{s r:St}(h:∀j,j<25->s j=r j):∀(n:Nat),∀j,j<25->rndM n s j=ZEf n r j
 |0=>h
 |n+1=>ZG8 (ZEe n (ZEd h n))
theorem ZGG{m h:List UInt8}(hl:Z4i m=ZEf 24 (ZDI ZF6 (ZEO m)))(he:(JY 32).map (Z4G (rndM 24 (matS (ZDI ZF6 (ZEO m)))))=h):sumOf m=h:=by
 rw[<-he];unfold sumOf;refine List.map_congr_left (fun i hi=>?_);have hi:=List.mem_range.1 hi;simp only[Z4G];rw[hl,ZEd (ZG8 (fun _ _=>rfl)) 24 (i/8) (by omega)]
theorem ZHE:sumOf kFm=kFh:=ZGG rfl (by decide +kernel)
theorem ZG4:sumOf kGm=kGh:=ZGG rfl (by decide +kernel)
end Go.Vcg
end
section
namespace Go.Proofs.YtfghidehlnfdiaaGreat
open Go Go.Vcg Go.Trie
theorem Z8U:bytesOf (.leaf (nibbles [97]) [49])=kGm:=by kernel_rfl
theorem ZAG:rootOf (.leaf (nibbles [97]) [49])=kGh:=(congrArg sumOf Z8U).trans ZG4
theorem ZGl(m:List (By×By))(hs:Z1B m)(hk:∀e∈m,e.1.length<=64)(hv:∀e∈m,e.2≠[]/\e.2.length<=1024):∃n,Rep (Z0L m) n/\Z1c n/\ZCs n/\cnt n<=4*m.length:=by
 generalize hl:m.length=l
 induction l generalizing m with
 |zero =>
  obtain rfl:=JH hl;exact⟨.nil,ZEa,trivial,ZC5,by simp[cnt]⟩
 |succ l ih =>
  rcases List.eq_nil_or_concat m with rfl|⟨m',x,rfl⟩
  ·cases hl
  ·rw[List.concat_eq_append]at *
   have hs':Z1B m':=(List.pairwise_append.1 hs).1;obtain⟨n,h1,h2,h3,h4⟩:=ih m' hs' (fun e he=>hk e (JP _ he)) (fun e he=>hv e (JP _ he)) (by simpa using hl);have hx:=hv x (by simp);have hxk:=hk x (by simp);have hxl:=ZQ x.1;have hr:=ZEb h1 hs' h2 hx.1 (k:=x.1);rw[ZAS hs hx.1]at hr;have:=ZB7 n (nibbles x.1) x.2;exact⟨_,hr,(Z8d h2 (Z12 _) hx.1).1,h3.put h2 (Z12 _) hx.1 (by omega) hx.2,by omega⟩
theorem ZGa:Rep (Z0L [([97],[49])]) (.leaf (nibbles [97]) [49])/\Z1c (.leaf (nibbles [97]) [49])/\Z5u (.leaf (nibbles [97]) [49]):=by
 have e:Trie.put .nil (nibbles [97]) [49]=.leaf (nibbles [97]) [49]:=by simp[Trie.put]
 have h1:=ZEb (k:=[97]) (v:=[49]) ZEa List.Pairwise.nil trivial (by simp);have h2:=(Z8d (n:=.nil) (p:=nibbles [97]) (x:=[49]) trivial (Z12 _) (by simp)).1;have h3:=ZCs.put (p:=nibbles [97]) (x:=[49]) ZC5 trivial (Z12 _) (by simp) (by decide) (by decide);rw[e]at h1 h2 h3;exact⟨h1,h2,Z6v h2 h3⟩
theorem ZG5:kGh≠emptyH:=by
 have:emptyH=kFh:=ZHE;rw[this];decide
theorem ZCo{σ:Type}{step:σ->By->σ×Except Int By}{s s':σ}{path:By}(hn:∀n∈path,n.toNat<16)(h:step s kGh=(s',.ok kGm)):way step s (.s kGh) path=(s',.ok (if[6,1]=path then[49]else[])):=by
 have hc:Z0B kGm=0:=by kernel_rfl
 have hd:Z4U kGm=.ok (.l [.s [32,97],.s [49]]):=by kernel_rfl
 obtain⟨xs,hd',_,hg⟩:=Z22 hc;rw[hd]at hd';cases hd';have hh:Z15 (.s [32,97])=V ([6,1],JD):=by kernel_rfl
 rw[ZCn (by decide) h hc hd hg hn,ZAM (xs:=[.s [32,97],.s [49]]) rfl hh];rfl
theorem ZHT:Z5a [(kGh,kGm)] kGh [97]=.ok [kGm]:=by
 rw[ZDC (by decide) (by decide)];have h:pStep [(kGh,kGm)] [] kGh=([kGm],.ok kGm):=by kernel_rfl
 have hr:rootIt kGh=.s kGh:=if_neg ZG5;rw[hr,ZCo (nib_lt _) h]
theorem ZF1(key:By)(hk:key.length<=64):Z30 [kGm] kGh key=.ok (if[6,1]=nibbles key then[49]else[]):=by
 rw[Z7p (by decide) (by omega)]
 have h:vStep [kGm] 0 kGh=(1,.ok kGm):=by
  unfold vStep;simp only[List.getElem?_cons_zero,ZG4,if_true]
 have hr:rootIt kGh=.s kGh:=if_neg ZG5;rw[hr,ZCo (nib_lt _) h];rfl
theorem Z4f.any{w w':I}{lab:Nat->Nat}{c cb:Nat}{ls:List By}{o:Option Addr}{n k:Nat}(h:Z4f w lab c cb ls o n k)(M:Vcg.Mod NoB w w'):n=ls.length/\ZDY w' (fun _=>0) 0 ls o :=
 ⟨h.1,(h.stp (S:=NoS) (Stp.of_nob M 0) (fun h=>h) (fun h=>h)).read (fun _ _ _=>rfl)⟩
theorem ZAs.ok{l:List (By×By)}{root key:By}{out:List By}{w w':I}{e:J6}(h:ZAs l root key w e w')(hr:Z5a l root key=.ok out):Vcg.Mod NoB w w'/\∃o n k,e=J (U #[.slice o n k,.int O 0])/\∃lab' c cb,Z4f w' lab' c cb out o n k:=by
 obtain⟨h1,h2⟩:=h;rw[hr]at h2;exact⟨h1,h2⟩
theorem Z8r.ok{p:List By}{root key v:By}{w w':I}{e:J6}(h:Z8r p root key w e w')(hr:Z30 p root key=.ok v):Vcg.Mod NoB w w'/\∃o k,e=J (U #[.slice o v.length k,.bool (decide (v≠[])),.int O 0])/\RdB w' o v:=by
 obtain⟨h1,h2⟩:=h;rw[hr]at h2;exact⟨h1,h2⟩
theorem ZFl:Z30 [kGm] kGh [97]=.ok [49]:=by rw[ZF1 _ (by decide),if_pos (by kernel_rfl)]
theorem ZFm:Z30 [kGm] kGh [98]=.ok []:=by rw[ZF1 _ (by decide),if_neg (by decide)]
theorem Z97(w:I):T Y Zw.n #[] w (fun e w'=>e=J (.bool JD)/\Vcg.Mod NoB w w'):=by
 refine ZG fun Q hQ=>Zw.vc _ _ ?_
 have tail:∀{w30:I}{D:Nat}{oN oK:Option Addr}{kN kK:Nat},Vcg.Mod NoB w w30->Blk w30 D 27 (hashA kGh)->Z0m w30 (fun _=>0) 0 [(kGh,kGm)] oN 1->RdB w30 oK [97]->∀(d22:Addr),d22=⟨D,0,J0⟩ ->
   T Y 21 #[.slice oN 1 kN,.agg (hashA kGh),.slice oK 1 kK] w30 (fun e39 w40 =>
   ∃o41 l42 l43 n44,e39=J (U #[(.slice o41 l42 l43),(.int O n44)]) /\
   ∃L45,ZH w40 d22 32 L45 /\
   ∀d46 w47,ZB w40 5 #[(.int X 97)] d46 w47 ->
   ∃v48 w49,J1 Y (JZ 23 23 (.slice (V d46) 1 1)) w47=.ok v48 w49 /\
   ∃o50 l51 l52,v48=(.slice o50 l51 l52) /\
   T Y 22 #[(.agg L45),(.slice o50 l51 l52),(.slice o41 l42 l43)] w49 (fun e53 w54 =>
   ∃o55 l56 l57 b58 n59,e53=J (U #[(.slice o55 l56 l57),(.bool b58),(.int O n59)]) /\
   ∃L60,ZH w54 d22 32 L60 /\
   ∀d61 w62,ZB w54 5 #[(.int X 98)] d61 w62 ->
   ∃v63 w64,J1 Y (JZ 23 23 (.slice (V d61) 1 1)) w62=.ok v63 w64 /\
   ∃o65 l66 l67,v63=(.slice o65 l66 l67) /\
   T Y 22 #[(.agg L60),(.slice o65 l66 l67),(.slice o41 l42 l43)] w64 (fun e68 w69 =>
   ∃o70 l71 l72 b73 n74,e68=J (U #[(.slice o70 l71 l72),(.bool b73),(.int O n74)]) /\
   (((n44=0 ->
   (((n59=0 ->
   (((n74=0 ->
   (((b58=JD ->
   (((b73=J2 ->
   (((((l42:Nat):Int)=1 ->
   ∃v75,J1 Y (JZ 23 9 (.slice o55 l56 l57)) w69=.ok v75 w69 /\
   ∃s76,v75=(.string s76) /\
   Q (J (.bool (Z9V .eql s76 ⟨#[49]⟩))) w69)) /\
   ((((l42:Nat):Int)≠1 ->
   Q (J (.bool J2)) w69))))) /\
   ((b73=JD ->
   Q (J (.bool J2)) w69))))) /\
   ((b58=J2 ->
   Q (J (.bool J2)) w69))))) /\
   ((n74≠0 ->
   Q (J (.bool J2)) w69))))) /\
   ((n59≠0 ->
   Q (J (.bool J2)) w69))))) /\
   ((n44≠0 ->
   Q (J (.bool J2)) w69)))))):=by
  rintro w30 D oN oK kN kK M H N r _ rfl;refine(ZAt (l:=[(kGh,kGm)]) (key:=[97]) N (by decide) (by simp[kGm]) (by decide) r).mono ?_;intro e w40 hp;obtain⟨M40,op,np,kp,rfl,labp,c,cb,hO⟩:=hp.ok ZHT;refine⟨_,_,_,_,rfl,_,(H.mod' M40).rowAll (ZA _),?_⟩;rintro d w47⟨rfl,rfl⟩;obtain⟨w49,h49,M49,r49⟩:=Z3O w40 (bs:=[97]) (A:=#[(.int X 97)]) rfl 1 1;obtain⟨rfl,hL⟩:=hO.any M49;refine⟨_,w49,h49,_,_,_,rfl,?_⟩;refine(Z6K (p:=[kGm]) (key:=[97]) (root:=kGh) hL (by decide) (by simp[kGm]) (by decide) r49).mono ?_;intro e w54 hv;obtain⟨M54,ov,kv,rfl,hrv⟩:=hv.ok ZFl;have M4054:=M49.none_trans M54;refine⟨_,_,_,_,_,rfl,_,((H.mod' M40).mod' M4054).rowAll (ZA _),?_⟩;rintro d w62⟨rfl,rfl⟩;obtain⟨w64,h64,M64,r64⟩:=Z3O w54 (bs:=[98]) (A:=#[(.int X 98)]) rfl 1 1;obtain⟨_,hL2⟩:=hO.any (M4054.none_trans M64);refine⟨_,w64,h64,_,_,_,rfl,?_⟩;refine(Z6K (p:=[kGm]) (key:=[98]) (root:=kGh) hL2 (by decide) (by simp[kGm]) (by decide) r64).mono ?_;intro e w69 hv2;obtain⟨M69,ov2,kv2,rfl,_⟩:=hv2.ok ZFm;have Mall:Vcg.Mod NoB w w69:=((M.none_trans M40).none_trans M4054).none_trans (M64.none_trans M69);refine⟨_,_,_,_,_,rfl,fun _=>⟨fun _=>⟨fun _=>⟨fun _=>⟨fun _=>⟨fun _=>⟨_,ZGk (hrv.mod' (M64.none_trans M69)),_,rfl,hQ _ _ ⟨?_,Mall⟩⟩,fun h=>(h rfl).elim⟩,fun h=>(by cases h)⟩,fun h=>(by cases h)⟩,fun h=>(h rfl).elim⟩,fun h=>(h rfl).elim⟩,fun h=>(h rfl).elim⟩;have e:Z9V .eql (Z7m [49]) ⟨#[49]⟩=JD:=Z6E [49] [49];rw[e]
 unfold Zw.Vc;rintro d w1⟨rfl,rfl⟩;obtain⟨w2,h2,M2,r2⟩:=Z3O w (bs:=[97]) (A:=#[(.int X 97)]) rfl 1 1;refine⟨_,w2,h2,_,_,_,rfl,?_⟩;rintro d w3⟨rfl,rfl⟩;obtain⟨w4,h4,M4,r4⟩:=Z3O w2 (bs:=[49]) (A:=#[(.int X 49)]) rfl 1 1;refine⟨_,w4,h4,_,_,_,rfl,?_⟩;rintro d w5⟨rfl,rfl⟩;have M5:=Mod.alloc (S:=NoB) w4 (J5 #[(.slice (V ⟨w.heap.size,0,J0⟩) 1 1),(.slice (V ⟨w2.heap.size,0,J0⟩) 1 1)] 53);have B5:=Blk.new w4 53 #[(.slice (V ⟨w.heap.size,0,J0⟩) 1 1),(.slice (V ⟨w2.heap.size,0,J0⟩) 1 1)];have r2':=r2.mod' (M4.none_trans M5);have r4':=r4.mod' M5;have M05:=(M2.none_trans M4).none_trans M5
 have hKv:Z5G _ (fun _=>0) 0 (V ⟨w4.heap.size,0,J0⟩) [([97],[49])]:=fun j hj=>by
  obtain rfl:j=0:=by simpa using hj
  exact⟨_,_,_,_,_,_,rfl,B5.lt,rfl,B5.cell 0,⟨r2',fun _ _ _=>rfl⟩,B5.cell 1,⟨r4',fun _ _ _=>rfl⟩⟩
 obtain⟨p1,p2,p3⟩:=ZGa;generalize w4.alloc (J5 #[(.slice (V ⟨w.heap.size,0,J0⟩) 1 1),(.slice (V ⟨w2.heap.size,0,J0⟩) 1 1)] 53)=w6 at *
 refine(ZBu hKv ⟨by decide,by simp,by simp⟩ p1 p2 p3 (by simp[cnt]) 0).mono ?_;rintro _ w7⟨o7,k7,rfl,M7,N7⟩
 have hN7:Z0m w7 (fun _=>0) 0 [(kGh,kGm)] o7 1:=by
  rw[Z8b,ZAG,Z8U]at N7;exact N7.re (fun _ _ _=>rfl)
 have hlen:(Z0c (.leaf (nibbles [97]) [49])).length=1:=by rw[Z8b];rfl
 rw[hlen,ZAG];refine⟨_,_,_,_,rfl,?_⟩;rintro d w8⟨rfl,rfl⟩;have H8:=Blk.new w7 27 (JC 32 (.int X 0));obtain⟨g1,g2,g3⟩:=Z1M H8 (by simp) kGh;have M8:=ZK (Mod.alloc w7 (J5 (JC 32 (.int X 0)) 27)) g3 (JQ _);refine⟨_,g1,?_⟩;have M08:=(M05.none_trans M7).none_trans M8;have N8:Z0m _ (fun _=>0) 0 [(kGh,kGm)] o7 1:=(hN7.stp (S:=NoS) (Stp.of_nob M8 0) (fun h=>h)).re (lab':=fun _=>0) (c':=0) (fun _ _ _=>rfl);generalize w7.heap.size=D at *
 generalize((w7.alloc (J5 (JC 32 (.int X 0)) 27)).setRow D (hashA kGh))=w8 at *
 rintro _ rfl;have H9:=g2.drew;have M09:=M08.step_drew;have N9:Z0m w8.drew (fun _=>0) 0 [(kGh,kGm)] o7 1:=(N8.stp (S:=NoS) (Stp.drew _ _ _) (fun h=>h)).re (lab':=fun _=>0) (c':=0) (fun _ _ _=>rfl);generalize w8.drew=w9 at *
 refine⟨_,H9.rowAll (ZA _),?_,?_⟩
 ·refine(Z38 (k:=k7) N9 (by simp[kGm]) (by decide) 0).mono ?_
  rintro _ w10⟨o10,k10,rfl,_,M10,N10⟩;refine⟨_,_,_,rfl,(H9.mod' M10).rowAll (ZA _),?_⟩;rintro d w11⟨rfl,rfl⟩;obtain⟨w12,h12,M12,r12⟩:=Z3O w10 (bs:=[97]) (A:=#[(.int X 97)]) rfl 1 1;have Ma:=Mod.alloc (S:=NoB) w10 (J5 #[(.int X 97)] 5);refine⟨((H9.mod' M10).mod' Ma).rowAll (ZA _),_,w12,h12,_,_,_,rfl,((H9.mod' M10).mod' M12).rowAll (ZA _),?_⟩;exact tail ((M09.none_trans M10).none_trans M12) ((H9.mod' M10).mod' M12) ((N10.stp (S:=NoS) (Stp.of_nob M12 0) (fun h=>h)).re (fun _ _ _=>rfl)) r12 _ rfl
 ·rintro d w11⟨rfl,rfl⟩
  obtain⟨w12,h12,M12,r12⟩:=Z3O w9 (bs:=[97]) (A:=#[(.int X 97)]) rfl 1 1;have Ma:=Mod.alloc (S:=NoB) w9 (J5 #[(.int X 97)] 5);refine⟨(H9.mod' Ma).rowAll (ZA _),?_,?_⟩
  ·have Na:Z0m _ (fun _=>0) 0 [(kGh,kGm)] o7 1:=(N9.stp (S:=NoS) (Stp.of_nob Ma 0) (fun h=>h)).re (lab':=fun _=>0) (c':=0) (fun _ _ _=>rfl)
   have Ba:=Blk.new w9 5 #[(.int X 97)];have Ha:=H9.mod' Ma;have hDE:=Nat.ne_of_lt H9.lt;have hE:w9.heap.size<=w9.heap.size:=JQ _;generalize hEe:w9.heap.size=E at Ba hDE h12 M12 r12 ⊢;rw[hEe]at hE;generalize w9.alloc (J5 #[(.int X 97)] 5)=wa at *
   refine(Z38 (k:=k7) (Na.re (lab':=fun _=>1) (c':=1) (fun _ _ _=>rfl)) (by simp[kGm]) (by decide) 0).mono ?_;rintro _ w10⟨o10,k10,rfl,_,M10,N10⟩;have B10:=Ba.mod' M10;obtain⟨wc,hc,Mc,hcc⟩:=Z6M (P:=Y) (t:=Zu) (l:=1) (c:=1) Zn (by kernel_rfl) B10;have Hc:=(Ha.mod' M10).mod Mc (by intro e;exact hDE e);have M9c:Vcg.Mod NoB w9 wc:=ZK (Ma.none_trans M10) Mc (Nat.le_of_eq hEe);have sc:Stp (·=1) w10 (ext (fun _=>1) wa.heap.size 0) wc (ext (ext (fun _=>1) wa.heap.size 0) w10.heap.size 0):=Stp.of_mod Mc 0 (fun q _ e=>by rw[e];exact Z23 Ba.lt);refine⟨_,_,_,rfl,(Ha.mod' M10).rowAll (ZA _),_,wc,hc,_,_,_,rfl,Hc.rowAll (ZA _),?_⟩
   have rc:RdB wc (V ⟨E,0,J0⟩) [97]:=fun hne=>⟨E,0,rfl,JR B10.lt Mc.size,fun i hi=>by
    obtain rfl:i=0:=by simpa using hi
    rw[hcc,B10.cell];rfl⟩
   exact tail (M09.none_trans M9c) Hc ((N10.stp sc (by decide)).re (fun _ _ _=>rfl)) rc _ rfl
  ·refine⟨_,w12,h12,_,_,_,rfl,(H9.mod' M12).rowAll (ZA _),?_⟩
   have N12:Z0m w12 (fun _=>0) 0 [(kGh,kGm)] o7 1:=(N9.stp (S:=NoS) (Stp.of_nob M12 0) (fun h=>h)).re (lab':=fun _=>0) (c':=0) (fun _ _ _=>rfl);refine(Z38 (k:=k7) N12 (by simp[kGm]) (by decide) 0).mono ?_;rintro _ w13⟨o13,k13,rfl,_,M13,N13⟩;refine⟨_,_,_,rfl,((H9.mod' M12).mod' M13).rowAll (ZA _),?_⟩;exact tail ((M09.none_trans M12).none_trans M13) ((H9.mod' M12).mod' M13) (N13.re (fun _ _ _=>rfl)) (r12.mod' M13) _ rfl
structure ZCr (l:List (By×By)):Prop where
 len:l.length<=40
 keys:∀e∈l,e.1.length<=64
 vals:∀e∈l,e.2≠[]/\e.2.length<=300
 srt:Z1B l
theorem Z7l{l:List (By×By)}{j:Nat}(hj:j<l.length)(h:Z1B (l.take j))(hl:0<j->∃h1:j-1<l.length,ltB l[j-1].1 l[j].1):Z1B (l.take (j+1)):=by
 rw[List.take_succ_eq_append_getElem hj];refine List.pairwise_append.2 ⟨h,List.pairwise_singleton _ _,fun x hx y hy=>?_⟩;obtain rfl:=List.mem_singleton.1 hy;obtain⟨q,hq,rfl⟩:=JB hx;rw[J3]at hq;obtain⟨h1,h2⟩:=hl (by omega);rw[JF];by_cases he:q=j-1
 ·subst he;exact h2
 ·have hp:=List.pairwise_iff_getElem.1 h q (j-1) (by rw[J3];omega) (by rw[J3];omega) (by omega)
  rw[JF,JF]at hp;exact Z2v hp h2
theorem ZBE{w:I}{o:Option Addr}{k:Nat}{l:List (By×By)}(h:StR w o l) :
  T Y Z0e.n #[.slice o l.length k] w (fun e w'=>∃b:Bool,e=J (.bool b)/\(b=JD->ZCr l)/\Vcg.Mod NoB w w'):=by
 refine Z0e.vc _ _ _ _ _ ?_;unfold Z0e.Vc;refine⟨fun _=>⟨J2,rfl,fun h=>(by cases h),Mod.refl w⟩,fun hl=>?_⟩;have no:∀w',Vcg.Mod NoB w w'->∃b:Bool,J (.bool J2)=J (.bool b)/\(b=JD->ZCr l)/\Vcg.Mod NoB w w':=fun w' M=>⟨J2,rfl,fun h=>(by cases h),M⟩;refine⟨fun i w'=>∃j:Nat,i=(j:Int)/\j<=l.length/\Vcg.Mod NoB w w'/\Z1B (l.take j)/\∀q(hq:q<l.length),q<j->l[q].1.length<=64/\l[q].2≠[]/\l[q].2.length<=300,fun i _=>((l.length:Int)-i).toNat,⟨0,rfl,JW _,Mod.refl w,by rw[List.take_zero];exact List.Pairwise.nil,fun q hq h=>by omega⟩,?_⟩;rintro _ _ w1⟨j,rfl,hj,M,hs,hall⟩;refine⟨fun hlt=>?_,fun hge=>?_⟩
 ·rintro _ rfl
  have hjl:j<l.length:=by omega
  have M2:=M.step_drew;generalize w1.drew=w2 at *
  obtain⟨b,f,ok,kk,ov,kv,rfl,e2,e3,e4,e5,e6⟩:=h.mod' M2 j hjl;have ck:w2.cell? (Addr.add ⟨b,f,J0⟩ (JU (j:Int)*2))=V (.slice ok l[j].1.length kk):=by rw[Z6,J4];exact e3
  have cv:w2.cell? (Addr.add (Addr.add ⟨b,f,J0⟩ (JU (j:Int)*2)) 1)=V (.slice ov l[j].2.length kv):=by rw[Z6,Z6,J4,Nat.add_assoc];exact e5
  refine⟨_,rfl,⟨by omega,by omega⟩,_,_,_,ck,fun _=>no _ M2,fun h1=>⟨_,rfl,⟨by omega,by omega⟩,_,_,_,cv,fun _=>no _ M2,fun h2=>⟨_,rfl,⟨by omega,by omega⟩,_,_,_,cv,fun _=>no _ M2,fun h3=>?_⟩⟩⟩;have ew:Z O ((j:Int)+1)=((j+1:Nat):Int):=by rw[Z0 (by omega) (by omega)];omega
  have hv:l[j].2≠[]:=by intro e;rw[e]at h2;simp at h2
  have hall':∀q(hq:q<l.length),q<j+1->l[q].1.length<=64/\l[q].2≠[]/\l[q].2.length<=300:=fun q hq hqj=>by
   by_cases hqe:q=j
   ·subst hqe;exact⟨by omega,hv,by omega⟩
   ·exact hall q hq (by omega)
  refine⟨fun hpos=>?_,fun hz=>?_⟩
  ·have ew1:Z O ((j:Int)-1)=((j-1:Nat):Int):=by rw[Z0 (by omega) (by omega)];omega
   obtain⟨b',f',ok',kk',ov',kv',hb',g2,g3,g4,g5,g6⟩:=h.mod' M2 (j-1) (by omega);cases hb';refine⟨_,rfl,by rw[ew1];exact⟨by omega,by omega⟩,_,_,_,by rw[Z6,ew1,J4];exact g3,_,rfl,⟨by omega,by omega⟩,_,_,_,ck,?_⟩;have hkl:=(hall (j-1) (by omega) (by omega)).1;refine(Z9s g4 e4 (by omega)).mono ?_;rintro _ w3⟨rfl,M3⟩;have M23:=M2.none_trans M3;refine⟨_,rfl,fun _=>no _ M23,fun hneg=>?_⟩;rw[ew];exact⟨⟨j+1,rfl,hjl,M23,Z7l hjl hs (fun _=>⟨by omega,Z1t.1 (by omega)⟩),hall'⟩,by dsimp only;omega⟩
  ·rw[ew]
   exact⟨⟨j+1,rfl,hjl,M2,Z7l hjl hs (fun h=>by omega),hall'⟩,by dsimp only;omega⟩
 ·obtain rfl:j=l.length:=by omega
  rw[List.take_of_length_le (JQ _)]at hs;refine⟨JD,rfl,fun _=>⟨by omega,fun e he=>?_,fun e he=>?_,hs⟩,M⟩
  ·obtain⟨q,hq,rfl⟩:=JB he
   exact(hall q hq hq).1
  ·obtain⟨q,hq,rfl⟩:=JB he
   exact(hall q hq hq).2
section
variable{w w':I}{lab:Nat->Nat}{c:Nat}
theorem ZS.take{vs:List Value}{l:List (By×By)}(h:ZS w lab c vs l){n:Nat}(hn:n<=l.length):ZS w lab c (vs.take (n*33)) (l.take n):=by
 refine⟨by rw[J3,J3,h.1];omega,fun j hj=>?_⟩;rw[J3]at hj;obtain⟨a,b,ob,kb,d,e⟩:=h.2 j (by omega);rw[JF];exact⟨a,fun i hi=>by rw[JS,if_pos (by omega)];exact b i hi,ob,kb,by rw[JS,if_pos (by omega)];exact d,e⟩
theorem ZS.drop{vs:List Value}{l:List (By×By)}(h:ZS w lab c vs l){n:Nat}(hn:n<=l.length):ZS w lab c (vs.drop (n*33)) (l.drop n):=by
 refine⟨by rw[JA,JA,h.1];omega,fun j hj=>?_⟩;rw[JA]at hj;obtain⟨a,b,ob,kb,d,e⟩:=h.2 (n+j) (by omega);rw[List.getElem_drop];exact⟨a,fun i hi=>by rw[JT,show n*33+(j*33+i)=(n+j)*33+i by omega];exact b i hi,ob,kb,by rw[JT,show n*33+(j*33+32)=(n+j)*33+32 by omega];exact d,e⟩
theorem ZS.append{vs us:List Value}{l m:List (By×By)}(h:ZS w lab c vs l)(k:ZS w lab c us m):ZS w lab c (vs++us) (l++m):=by
 have h1:=h.1;have k1:=k.1;refine⟨by rw[JE,JE,h1,k1];omega,fun j hj=>?_⟩;rw[JE]at hj;by_cases hl:j<l.length
 ·rw[List.getElem_append_left hl]
  obtain⟨a,b,ob,kb,d,e⟩:=h.2 j hl;exact⟨a,fun i hi=>by rw[JN (by omega)];exact b i hi,ob,kb,by rw[JN (by omega)];exact d,e⟩
 ·rw[List.getElem_append_right (by omega)]
  obtain⟨a,b,ob,kb,d,e⟩:=k.2 (j-l.length) (by omega);exact⟨a,fun i hi=>by rw[JL (by omega),h1,show j*33+i-l.length*33=(j-l.length)*33+i by omega];exact b i hi,ob,kb,by rw[JL (by omega),h1,show j*33+32-l.length*33=(j-l.length)*33+32 by omega];exact d,e⟩
theorem ZS.setB{vs:List Value}{l:List (By×By)}(h:ZS w lab c vs l){g:Nat}(hg:g<l.length){ob:Option Addr}{bad:By}{kb:Nat}(hb:CBy w lab c ob bad)(hk:bad.length<=kb) :
  ZS w lab c (vs.set (g*33+32) (.slice ob bad.length kb)) (l.set g (l[g].1,bad)):=by
 have h1:=h.1;refine⟨by rw[JK,JK,h1],fun j hj=>?_⟩;rw[JK]at hj;obtain⟨a,b,ob',kb',d,e⟩:=h.2 j hj;by_cases hjg:j=g
 ·subst hjg
  rw[List.getElem_set_self];exact⟨a,fun i hi=>by rw[JI (by omega)];exact b i hi,ob,kb,by rw[List.getElem?_set_self (by omega)],hb,hk⟩
 ·rw[List.getElem_set_ne (fun e=>hjg e.symm)]
  exact⟨a,fun i hi=>by rw[JI (by omega)];exact b i hi,ob',kb',by rw[JI (by omega)];exact d,e⟩
theorem ZS.one{vs:List Value}{l:List (By×By)}(h:ZS w lab c vs l):∀u∈vs,u.oneCell'=JD:=fun u hu=>by
 obtain⟨q,hq,rfl⟩:=JB hu;have h1:=h.1;obtain⟨a,b,ob,kb,d,e⟩:=h.2 (q/33) (by omega);by_cases h32:q%33=32
 ·rw[show q/33*33+32=q by omega,J7 hq]at d
  rw[Option.some.inj d];rfl
 ·have:=b (q%33) (by omega)
  rw[show q/33*33+q%33=q by omega,J7 hq]at this;rw[Option.some.inj this];rfl
end
theorem Z9i{w:I}{g f l c:Nat}{x:Value}(src:Src Y 33 Z2z x 0 [] w)(hl:l<=c) :
  J1 Y (builtinV J9 #[Z2z,Z2z] Z2z #[.slice (V ⟨g,f,J0⟩) l c,x]) w=.ok (.slice (V ⟨g,f,J0⟩) l c) w:=by
 obtain⟨i,hi,hz,hs,hb⟩:=Z25 ZBI;exact run_append_room_src (P:=Y) w Z2z Z2z Z2z tNd i Z3A hi g f l c x 0 [] (hs ▸ src) (by omega) (fun j hj=>by simp at hj) (fun j hj=>by simp at hj)
def Z3w(l:List (By×By))(gone:Int)(bad:By):List (By×By) :=
 if gone<0\/gone>=l.length then l else if bad=[]then l.take gone.toNat++l.drop (gone.toNat+1)else match l[gone.toNat]? with
  |some x=>l.set gone.toNat (x.1,bad)
  |none=>l
theorem ZAe{w:I}{lab:Nat->Nat}{c:Nat}{l:List (By×By)}{o o2:Option Addr}{k k2:Nat}{gone:Int}{bad:By}(h:Z0m w lab c l o l.length)(hlen:l.length<=2^20)(hbad:RdB w o2 bad)(hk:bad.length<=k2) :
  T Y Z03.n #[.slice o l.length k,.int O gone,.slice o2 bad.length k2] w (fun e w'=>∃o' k',e=J (.slice o' (Z3w l gone bad).length k')/\Vcg.Mod NoB w w'/\Z0m w' (fun _=>0) 0 (Z3w l gone bad) o' (Z3w l gone bad).length):=by
 refine ZG fun R hR=>Z03.vc _ _ _ _ _ _ _ _ _ ?_;unfold Z03.Vc;have h0:Z0m w (fun _=>0) 0 l o l.length:=h.re (fun _ _ _=>rfl)
 have same:gone<0\/gone>=l.length->R (J (.slice o l.length k)) w:=fun hg=>by
  have e:Z3w l gone bad=l:=by unfold Z3w;rw[if_pos hg]
  rw[e]at hR;exact hR _ _ ⟨o,k,rfl,Mod.refl w,h0⟩
 refine⟨fun hg=>same (.inl hg),fun hg=>⟨fun hg2=>same (.inr hg2),fun hg2=>?_⟩⟩;obtain⟨g,rfl⟩:∃g:Nat,gone=(g:Int):=⟨gone.toNat,by omega⟩;have hgl:g<l.length:=by omega
 have hno:¬((g:Int)<0\/(g:Int)>=l.length):=by omega
 obtain⟨_,vs,hCR,hNC⟩:=h0;have hvl:=hNC.1;obtain⟨i,hi,hz,hs,hbt⟩:=Z25 ZBI;have src:Src Y 33 Z2z (.slice o l.length k) l.length vs w:=Z4k.src hCR Z3A hvl hNC.one k (by omega);obtain⟨o4,k4,w4,hr4,F4⟩:=(ZT.nil (Mod.refl w) tNd 33).push (ty:=Z2z) Z3A hi hz hs rfl src (by simp only[maxLen];omega) (by rw[hbt];omega);rw[JV]at hr4 F4;rw[List.nil_append]at F4;have hcap:=F4.own.cap.1;have read:∀{wx:I}{l':List (By×By)}{vs':List Value}{ox:Option Addr}{nx kx:Nat},ZT w wx tNd 33 ox nx kx vs'->ZS wx (fun _=>0) 0 vs' l'->Z0m wx (fun _=>0) 0 l' ox l'.length:=fun F N=>⟨rfl,_,Z4k.re (F.done (lab:=fun _=>(0:Nat)) 0).1.row (fun _ _ _=>rfl),N⟩;have keepN:∀{wx:I}{l':List (By×By)}{vs':List Value},Vcg.Mod NoB w wx->ZS w (fun _=>(0:Nat)) 0 vs' l'->ZS wx (fun _=>0) 0 vs' l':=fun M N=>ZS.re (N.stp (S:=NoS) (Stp.of_nob M 0) (fun h=>h)) (fun _ _ _=>rfl);refine⟨_,w4,hr4,_,_,_,rfl,fun hb0=>?_,fun hb1=>?_⟩
 ·have hbn:bad=[]:=JH (by omega)
  have e:Z3w l (g:Int) bad=l.take g++l.drop (g+1):=by unfold Z3w;rw[if_neg hno,if_pos hbn,J4]
  rw[e]at hR;rintro _ rfl;have ew:Z O ((g:Int)+1)=((g+1:Nat):Int):=by rw[Z0 (by omega) (by omega)];omega
  have F5:=F4.mod' (Mod.drew (S:=NoB) w4);generalize w4.drew=w5 at *
  refine⟨_,Z8h Z3A hi w5 (by omega),_,_,_,rfl,by rw[ew];exact⟨by omega,by omega⟩,?_⟩;rw[ew,J4];have C5:Z4k w5 (fun _=>(0:Nat)) 0 o4 vs:=Z4k.re (F5.done (lab:=fun _=>(0:Nat)) 0).1.row (fun _ _ _=>rfl);have N5:=keepN F5.mod hNC;have T1:=Z4k.take C5 (g*33);have T2:=Z4k.drop C5 (cap:=k4) (n:=g+1) (sz:=33) (by rw[hvl];omega);have K1:=N5.take (n:=g) (by omega);have K2:=N5.drop (n:=g+1) (by omega);have hl1:(l.take g++l.drop (g+1)).length=g+(l.length-(g+1)):=by rw[JE,J3,JA];omega
  have src2:Src Y 33 Z2z (.slice (subO o4 k4 (g+1) 33) (l.length-(g+1)) (k4-(g+1))) (l.length-(g+1)) (vs.drop ((g+1)*33)) w5:=Z4k.src T2 Z3A (by rw[JA,hvl];omega) K2.one _ (by omega);rcases Nat.eq_zero_or_pos (l.length-(g+1))with hq|hq
  ·have hd:vs.drop ((g+1)*33)=[]:=JO (by omega)
   have hdl:l.drop (g+1)=[]:=JO (by omega);rw[hd,hq]at src2;rw[hq]
   have hne:∃b f,o4=V ⟨b,f,J0⟩:=by
    obtain⟨b,f,ho,_⟩:=C5 0 (vs[0]'(by omega)) (J7 _);exact⟨b,f,ho⟩
   obtain⟨b,f,rfl⟩:=hne;refine⟨_,w5,Z9i src2 (JQ _),_,_,_,rfl,hR _ _ ⟨V ⟨b,f,J0⟩,g,?_,F5.mod,?_⟩⟩
   ·rw[hl1,hq];rfl
   ·rw[hdl,List.append_nil]
    exact⟨rfl,_,T1,K1⟩
  ·obtain⟨q,hq2⟩:∃q,l.length-(g+1)=q+1:=⟨l.length-(g+1)-1,by omega⟩
   rw[hq2]at src2 hl1 ⊢;obtain⟨o',c',w6,hr,F⟩:=ZAz (tx:=Z2z) (ty:=Z2z) T1 Z3A hi hz hs rfl (by decide) (l:=g) (by rw[J3,hvl];omega) src2 (by simp only[maxLen];omega) (by rw[hbt];omega);have M6:=F5.mod.none_trans F.mod;refine⟨_,w6,hr,_,_,_,rfl,hR _ _ ⟨o',c',by rw[hl1],M6,?_⟩⟩;exact⟨rfl,_,Z4k.re (F.done (lab:=fun _=>(0:Nat)) 0).1.row (fun _ _ _=>rfl),keepN M6 ((hNC.take (n:=g) (by omega)).append (hNC.drop (n:=g+1) (by omega)))⟩
 ·have hbn:bad≠[]:=by rintro rfl;exact hb1 rfl
  have e:Z3w l (g:Int) bad=l.set g (l[g].1,bad):=by
   unfold Z3w;rw[if_neg hno,if_neg hbn,J4,J7 hgl]
  rw[e]at hR;obtain⟨G,rfl,hcs,F5⟩:=F4.set (j:=g*33+32) (v:=.slice o2 bad.length k2) (by omega) rfl;refine⟨_,rfl,⟨by omega,by omega⟩,?_⟩;simp only[Z6,J4,JV];refine⟨hcs,?_⟩;rintro _ rfl;refine hR _ _ ⟨_,k4,by rw[JK],F5.mod,?_⟩;refine read F5 ?_;exact ZS.setB (keepN F5.mod hNC) hgl ⟨hbad.mod' F5.mod,fun _ _ _=>rfl⟩ hk
end Go.Proofs.YtfghidehlnfdiaaGreat
end
section
namespace Go.Proofs.YtfghidehlnfdiaaGreat
open Go Go.Vcg
abbrev Z1o.n:Nat:=30
def Z1o.Vc(a b:Array Value)(w:I)(R:J6->I->Prop):Prop :=
 ∀c d,ZB w 27 a c d ->
 ∀a e,ZB d 27 b a e ->
 ∀b d,ZB e 73 #[.slice J0 0 0,.slice J0 0 0] b d ->
 ∀e,ZL d e ->
 T Y 43 #[.slice (V c) 32 32] e (fun d e =>
 ∃f g h,d=J (.slice f g h) /\
 T Y 43 #[.slice (V a) 32 32] e (fun d e =>
 ∃i j k,d=J (.slice i j k) /\
 T Y 62 #[.slice (V c) 32 32,.slice (V a) 32 32] e (fun a c =>
 ∃d,a=J (.int O d) /\
 Z1 c b (.slice f g h)/\∀a,Z8 c b (.slice f g h) a ->
 Z1 a (b.add 1) (.slice i j k)/\∀c,Z8 a (b.add 1) (.slice i j k) c ->
 ∃a e f g h i,c.cell? b=V (.slice a e f) /\
 c.cell? (b.add 1)=V (.slice g h i) /\
 R (J (U #[.agg #[.slice a e f,.slice g h i],.bool (decide (d<=0))])) c)))
theorem Z1o.vc(a b w R)(h:Z1o.Vc a b w R):T Y 30 #[(.agg a),(.agg b)] w R:=xs [] [.big 32 a,.big 32 b] Tryz.func30 ZO (by kernel_rfl) h
abbrev Z0w.n:Nat:=34
def Z0w.Vc(a:Option Addr)(b c:Nat)(d:Option Addr)(e f:Nat)(g:Option Addr)(h i:Nat)(w:I)(R:J6->I->Prop):Prop :=
 ∀j k,ZB w 73 #[.slice a b c,.slice d e f] j k ->
 ∃a b,J1 Y (Instr.makeSlice 23 (.int O (Z O (64-(h:Int)))) (.int O (Z O (64-(h:Int))))) k=.ok a b /\
 ∃c d e,a=(.slice c d e) /\
 T Y 63 #[.slice g h i,.slice c d e] b (fun a b =>
 ∃c d e,a=J (.slice c d e) /\
 ∀a f,ZB b 5 #[.int X 15] a f ->
 T Y 64 #[.slice (V a) 1 1,.int O (Z O (64-(h:Int)))] f (fun a b =>
 ∃f k l,a=J (.slice f k l) /\
 T Y 63 #[.slice g h i,.slice f k l] b (fun a b =>
 ∃f g h,a=J (.slice f g h) /\
 ∃(a:Bool->I->Prop),(∃i k l,b.cell? j=V (.slice i k l) /\
 T Y 62 #[.slice f g h,.slice i k l] b (fun b i =>
 ∃k,b=J (.int O k) /\
 ((k<0 ->
 a JD i) /\
 (¬k<0 ->
 ∃b k l,i.cell? (j.add 1)=V (.slice b k l) /\
 T Y 62 #[.slice c d e,.slice b k l] i (fun b i =>
 ∃k,b=J (.int O k) /\
 a (decide (k>0)) i))))) /\
 (∀(b:Bool)(i:Nat->Value)(i:I),a b i ->
 ((b=JD ->
 R (J (.int O 1)) i) /\
 (b=J2 ->
 ∃a b k,i.cell? j=V (.slice a b k) /\
 T Y 62 #[.slice c d e,.slice a b k] i (fun a b =>
 ∃c,a=J (.int O c) /\
 ((c>=0 ->
 ∃a d e,b.cell? (j.add 1)=V (.slice a d e) /\
 T Y 62 #[.slice f g h,.slice a d e] b (fun a d =>
 ∃e,a=J (.int O e) /\
 ((e<=0 ->
 R (J (.int O 0)) d) /\
 (¬e<=0 ->
 R (J (.int O 2)) d)))) /\
 (¬c>=0 ->
 R (J (.int O 2)) b)))))))))
theorem Z0w.vc(a b c d e f g i j w R)(h:Z0w.Vc a b c d e f g i j w R):T Y 34 #[(.agg #[(.slice a b c),(.slice d e f)]),(.slice g i j)] w R:=xs [(1000004,[(20,.cell (.bool))])] [.agg [.slice a b c,.slice d e f],.slice g i j] Tryz.func34 ZO (by kernel_rfl) h
abbrev Z2d.n:Nat:=63
def Z2d.Vc(a:Option Addr)(b c:Nat)(d:Option Addr)(e f:Nat)(w:I)(R:J6->I->Prop):Prop :=
 T Y 36 #[.slice a b c] w (fun a b =>
 ∃c g h,a=J (.slice c g h) /\
 ∃a i,J1 Y (builtinV J9 #[23,23] 23 #[.slice c g h,.slice d e f]) b=.ok a i /\
 ∃b c d,a=(.slice b c d) /\
 R (J (.slice b c d)) i)
theorem Z2d.vc(a b c d e f w R)(h:Z2d.Vc a b c d e f w R):T Y 63 #[(.slice a b c),(.slice d e f)] w R:=xs [] [.slice a b c,.slice d e f] Tryz.func63 ZO (by kernel_rfl) h
abbrev Z1L.n:Nat:=62
def Z1L.Vc(a:Option Addr)(b c:Nat)(d:Option Addr)(e f:Nat)(w:I)(R:J6->I->Prop):Prop :=
 ∃g h,J1 Y (callFunc 96 #[.slice a b c,.slice d e f]) w=.ok (.value g) h /\
 ∃a,g=(.int O a) /\
 R (J (.int O a)) h
theorem Z1L.vc(a b c d e f w R)(h:Z1L.Vc a b c d e f w R):T Y 62 #[(.slice a b c),(.slice d e f)] w R:=xs [] [.slice a b c,.slice d e f] Tryz.func62 ZO (by kernel_rfl) h
abbrev Z1h.n:Nat:=64
def Z1h.Vc(a:Option Addr)(b c:Nat)(d:Int)(w:I)(R:J6->I->Prop):Prop :=
 ((d=0 ->
 ∀e f,ZB w 5 #[] e f ->
 R (J (.slice (V e) 0 0)) f) /\
 (d≠0 ->
 ∃(e:I->Prop),((d<0 ->
 False /- panic -/) /\
 (¬d<0 ->
 e  w)) /\
 (∀  (f:Nat->Value)(f:I),e  f ->
 T Y 97 #[.int J8 (Z J8 (b:Int)),.int J8 (Z J8 d)] f (fun d e =>
 ∃f g,d=J (U #[.int J8 f,.int J8 g]) /\
 ∃(d:I->Prop),((f>0 ->
 False /- panic -/) /\
 (¬f>0 ->
 ((g>9223372036854775807 ->
 False /- panic -/) /\
 (¬g>9223372036854775807 ->
 d  e)))) /\
 (∀  (e:Nat->Value)(e:I),d  e ->
 (((b:Int)=0 ->
 ∀d f,ZB e 5 #[] d f ->
 R (J (.slice (V d) 0 0)) f) /\
 ((b:Int)≠0 ->
 ∃(d:Int->I->Prop),(((Z O g)>8192 ->
 (b:Int)≠(0:Int) /\
 (((Z O ((Z O (JX 8192 (b:Int)))*(b:Int)))=0 ->
 d (b:Int) e) /\
 ((Z O ((Z O (JX 8192 (b:Int)))*(b:Int)))≠0 ->
 d (Z O ((Z O (JX 8192 (b:Int)))*(b:Int))) e))) /\
 (¬(Z O g)>8192 ->
 d (Z O g) e)) /\
 (∀(e:Int)(f:Nat->Value)(f:I),d e f ->
 ∃d h,J1 Y (callFunc 98 #[.int O (Z O g)]) f=.ok (.value d) h /\
 ∃f i j,d=(.slice f i j) /\
 ∃d,J1 Y (Instr.sliceAt 23 (.slice f i j) J0 (V (.int O (Z O g))) (V (.int O (Z O g)))) h=.ok d h /\
 ∃f i j,d=(.slice f i j) /\
 ∃d k,J1 Y (builtinV .copy #[23,23] 3 #[.slice f i j,.slice a b c]) h=.ok d k /\
 ∃a,d=(.int O a) /\
 ∃(b:Int->I->Prop)(c:Int->I->Nat),b a k /\
 (∀(a:Int)(d:Nat->Value)(d:I),b a d ->
 ((a<(Z O g) ->
 ∀h,ZL d h ->
 ((0:Int)<=a/\a<=(i:Int)) /\
 ((0:Int)<=(min a e)/\(min a e)<=(j:Int)) /\
 ∃k l,J1 Y (builtinV .copy #[23,23] 3 #[.slice (subO f j a.toNat 1) (i-a.toNat) (j-a.toNat),.slice f (JU (min a e)) j]) h=.ok k l /\
 ∃e,k=(.int O e) /\
 b (Z O (a+e)) l/\c (Z O (a+e)) l<c a d) /\
 (¬a<(Z O g) ->
 R (J (.slice f i j)) d)))))))))))
theorem Z1h.vc(a b c d w R)(h:Z1h.Vc a b c d w R):T Y 64 #[(.slice a b c),(.int O d)] w R:=xs [(1000005,[]),(1000008,[]),(1000016,[(8,.cell (.int O))]),(18,[(10,.cell (.int O))])] [.slice a b c,.int O d] Tryz.func64 ZO (by kernel_rfl) h
abbrev Z1O.n:Nat:=97
def Z1O.Vc(a b:Int)(w:I)(R:J6->I->Prop):Prop :=
 T Y 119 #[.int J8 a,.int J8 b] w (fun a b =>
 ∃c d,a=J (U #[.int J8 c,.int J8 d]) /\
 R (J (U #[.int J8 c,.int J8 d])) b)
theorem Z1O.vc(a b w R)(h:Z1O.Vc a b w R):T Y 97 #[(.int J8 a),(.int J8 b)] w R:=xs [] [.int J8 a,.int J8 b] Tryz.func97 ZO (by kernel_rfl) h
def Z1u.Vc(a b:Int)(w:I)(R:J6->I->Prop):Prop :=
 R (J (U #[.int J8 (Z J8 ((Z J8 ((Z J8 ((JJ a 4294967296)*(JJ b 4294967296)))+(JJ (Z J8 ((Z J8 ((JJ a 4294967296)*(bitsI .and J8 b 4294967295)))+(JJ (Z J8 ((bitsI .and J8 a 4294967295)*(bitsI .and J8 b 4294967295))) 4294967296))) 4294967296)))+(JJ (Z J8 ((bitsI .and J8 (Z J8 ((Z J8 ((JJ a 4294967296)*(bitsI .and J8 b 4294967295)))+(JJ (Z J8 ((bitsI .and J8 a 4294967295)*(bitsI .and J8 b 4294967295))) 4294967296))) 4294967295)+(Z J8 ((bitsI .and J8 a 4294967295)*(JJ b 4294967296))))) 4294967296))),.int J8 (Z J8 (a*b))])) w
theorem Z1u.vc(a b w R)(h:Z1u.Vc a b w R):T Y 119 #[(.int J8 a),(.int J8 b)] w R:=xs [] [.int J8 a,.int J8 b] Tryz.func119 ZO (by kernel_rfl) h
abbrev Z0Y.n:Nat:=38
def Z0Y.Vc(a:Bool)(b:Option Addr)(c d:Nat)(e:Option Addr)(f g:Nat)(h:Option Addr)(i j:Nat)(k:Option Addr)(l m:Nat)(n:Value)(w:I)(R:J6->I->Prop):Prop :=
 ∀o p,ZB w 86 #[.bool a,.slice b c d,.slice e f g,.slice h i j] o p ->
 ∃a b c,p.cell? (o.add 2)=V (.slice a b c) /\
 ∃(c:Int->I->Prop)(d:Int->I->Nat),c 0 p /\
 (∀(e:Int)(f:Nat->Value)(f:I),c e f ->
 ((e<(b:Int) ->
 ∃g,a=V g /\
 ((0:Int)<=e/\e<(b:Int)) /\
 ∃a,ZH f (g.add (e.toNat*34)) 34 a /\
 ∀g h,ZB f 82 #[.int X 0,.int X 0,.int X 0,.int X 0,.int X 0,.int X 0,.int X 0,.int X 0,.int X 0,.int X 0,.int X 0,.int X 0,.int X 0,.int X 0,.int X 0,.int X 0,.int X 0,.int X 0,.int X 0,.int X 0,.int X 0,.int X 0,.int X 0,.int X 0,.int X 0,.int X 0,.int X 0,.int X 0,.int X 0,.int X 0,.int X 0,.int X 0,K J0,.bool J2] g h ->
 ∃i,J1 Y (Instr.storeAt 82 (K (V g)) (.agg a)) h=.ok () i /\
 ∃a,i.cell? (g.add 33)=V (.bool a) /\
 ((a=J2 ->
 c (Z O (e+1)) i/\d (Z O (e+1)) i<d e f) /\
 (a=JD ->
 ∃a h j p q r s t u v,i.cell? o=V (.bool a) /\
 i.cell? (o.add 1)=V (.slice h j p) /\
 i.cell? (o.add 2)=V (.slice q r s) /\
 i.cell? (o.add 3)=V (.slice t u v) /\
 T Y 67 #[.agg #[.bool a,.slice h j p,.slice q r s,.slice t u v]] i (fun a h =>
 ((∃ch,a=W ch/\R (W ch) h) \/
 ∃i,a=J (.bool i) /\
 ((i=JD ->
 ∀a,ZL h a ->
 ∃j,ZH a g 34 j /\
 ∀p q,ZB a 5 #[.int X (Z X e)] p q ->
 ZH q g 34 j /\
 T Y 63 #[.slice k l m,.slice (V p) 1 1] q (fun a p =>
 ((∃ch,a=W ch/\R (W ch) p) \/
 ∃q r s,a=J (.slice q r s) /\
 ZH p g 34 j /\
 Z3G Y n #[.agg j,.slice q r s] p (fun a j =>
 ((∃ch,a=W ch/\R (W ch) j) \/
 a=J (U #[]) /\
 c (Z O (e+1)) j/\d (Z O (e+1)) j<d e f))))) /\
 (i=J2 ->
 ∀a,ZL h a ->
 ∃h,ZH a g 34 h /\
 ∃i j p,a.cell? (o.add 1)=V (.slice i j p) /\
 T Y 63 #[.slice k l m,.slice i j p] a (fun a i =>
 ((∃ch,a=W ch/\R (W ch) i) \/
 ∃j k l,a=J (.slice j k l) /\
 ZH i g 34 h /\
 Z3G Y n #[.agg h,.slice j k l] i (fun a g =>
 ((∃ch,a=W ch/\R (W ch) g) \/
 a=J (U #[]) /\
 c (Z O (e+1)) g/\d (Z O (e+1)) g<d e f))))))))))) /\
 (¬e<(b:Int) ->
 R (J (U #[])) f)))
theorem Z0Y.vc(a b c d e f g i j k l m n o w R)(h:Z0Y.Vc a b c d e f g i j k l m n o w R):T Y 38 #[(.agg #[(.bool a),(.slice b c d),(.slice e f g),(.slice i j k)]),(.slice l m n),o] w R:=xt [(2,[(11,.cell (.int O))])] [.agg [.bool (.var a),.slice b c d,.slice e f g,.slice i j k],.slice l m n,.raw o] Tryz.func38 ZO (by kernel_rfl) h
abbrev Z0V.n:Nat:=46
def Z0V.Vc(a:Option Addr)(b c:Nat)(d e:Array Value)(w:I)(R:J6->I->Prop):Prop :=
 ∀f g,ZB w 27 d f g ->
 ∀d h,ZB g 27 e d h ->
 ∀e,ZL h e ->
 T Y 54 #[.slice (V f) 32 32] e (fun e f =>
 ∃g h i,e=J (.slice g h i) /\
 T Y 54 #[.slice (V d) 32 32] f (fun d e =>
 ∃f j k,d=J (.slice f j k) /\
 ∃d l,J1 Y (builtinV J9 #[23,23] 23 #[.slice J0 0 0,.slice a b c]) e=.ok d l /\
 ∃e m n,d=(.slice e m n) /\
 ∃d o,J1 Y (builtinV J9 #[23,23] 23 #[.slice J0 0 0,.slice a b c]) l=.ok d o /\
 ∃a b c,d=(.slice a b c) /\
 ∃(d:Option Addr->Nat->Nat->Option Addr->Nat->Nat->I->Prop)(l:Option Addr->Nat->Nat->Option Addr->Nat->Nat->I->Nat),d e m n a b c o /\
 (∀(a:Option Addr)(b:Nat)(c:Nat)(e:Option Addr)(m:Nat)(n:Nat)(o:Nat->Value)(o:I),d a b c e m n o ->
 (((b:Int)<64 ->
 ∀p q,ZB o 5 #[.int X 0] p q ->
 ∃r s,J1 Y (builtinV J9 #[23,23] 23 #[.slice a b c,.slice (V p) 1 1]) q=.ok r s /\
 ∃p q t,r=(.slice p q t) /\
 ∀r u,ZB s 5 #[.int X 15] r u ->
 ∃s v,J1 Y (builtinV J9 #[23,23] 23 #[.slice e m n,.slice (V r) 1 1]) u=.ok s v /\
 ∃r u x,s=(.slice r u x) /\
 d p q t r u x v/\l p q t r u x v<l a b c e m n o) /\
 (¬(b:Int)<64 ->
 T Y 23 #[.slice e m n,.slice g h i] o (fun d l =>
 ∃o,d=J (.int O o) /\
 ((o<0 ->
 R (J (.int O (-1))) l) /\
 (¬o<0 ->
 T Y 23 #[.slice a b c,.slice f j k] l (fun d l =>
 ∃o,d=J (.int O o) /\
 ((o>0 ->
 R (J (.int O (-1))) l) /\
 (¬o>0 ->
 T Y 23 #[.slice a b c,.slice g h i] l (fun a b =>
 ∃c,a=J (.int O c) /\
 ((c>=0 ->
 T Y 23 #[.slice e m n,.slice f j k] b (fun a d =>
 ∃e,a=J (.int O e) /\
 ((e<=0 ->
 R (J (.int O 1)) d) /\
 (¬e<=0 ->
 R (J (.int O 0)) d)))) /\
 (¬c>=0 ->
 R (J (.int O 0)) b))))))))))))))
theorem Z0V.vc(a b c d e w R)(h:Z0V.Vc a b c d e w R):T Y 46 #[(.slice a b c),(.agg d),(.agg e)] w R:=xs [(4,[(9,.cell (.slice)),(10,.cell (.slice))])] [.slice a b c,.big 32 d,.big 32 e] Tryz.func46 ZO (by kernel_rfl) h
abbrev Z19.n:Nat:=35
def Z19.Vc(a:Option Nat)(b:Bool)(c:Array Value)(w:I)(R:J6->I->Prop):Prop :=
 ∀d e,ZB w 69 #[.map a,.bool b] d e ->
 ∀a b,ZB e 82 c a b ->
 ∀c e,ZB b 86 #[.bool J2,.slice J0 0 0,.slice J0 0 0,.slice J0 0 0] c e ->
 ∃b,e.cell? (a.add 32)=V (K b) /\
 ((b≠J0 ->
 ∃f,e.cell? (a.add 32)=V (K f) /\
 ∃g,f=V g /\
 ∃f h i j k l m,e.cell? g=V (.bool f) /\
 e.cell? (g.add 1)=V (.slice h i j) /\
 e.cell? (g.add 2)=V (.slice k l m) /\
 T Y 65 #[.agg #[.bool f,.slice h i j,.slice k l m]] e (fun f g =>
 ((∃ch,f=W ch/\R (W ch) g) \/
 ∃h i j k l m n o p q,f=J (.agg #[.bool h,.slice i j k,.slice l m n,.slice o p q]) /\
 Z1 g c (.bool h)/\∀f,Z8 g c (.bool h) f ->
 Z1 f (c.add 1) (.slice i j k)/\∀g,Z8 f (c.add 1) (.slice i j k) g ->
 Z1 g (c.add 2) (.slice l m n)/\∀f,Z8 g (c.add 2) (.slice l m n) f ->
 Z1 f (c.add 3) (.slice o p q)/\∀g,Z8 f (c.add 3) (.slice o p q) g ->
 ∃f h i j k l m n o p,g.cell? c=V (.bool f) /\
 g.cell? (c.add 1)=V (.slice h i j) /\
 g.cell? (c.add 2)=V (.slice k l m) /\
 g.cell? (c.add 3)=V (.slice n o p) /\
 R (J (.agg #[.bool f,.slice h i j,.slice k l m,.slice n o p])) g))) /\
 (b=J0 ->
 ∃b:Option Nat,∃f,e.cell? d=V (.map b) /\
 e.cell? (d.add 1)=V (.bool f) /\
 ∃d,ZH e a 32 d /\
 T Y 37 #[.agg #[.map b,.bool f],.agg d] e (fun a b =>
 ((∃ch,a=W ch/\R (W ch) b) \/
 ∃d e f,a=J (.slice d e f) /\
 T Y 66 #[.slice d e f] b (fun a b =>
 ((∃ch,a=W ch/\R (W ch) b) \/
 ∃d e f g h i j k l m n,a=J (U #[.agg #[.bool d,.slice e f g,.slice h i j,.slice k l m],.int O n]) /\
 ∀a o,ZB b 86 #[.bool J2,.slice J0 0 0,.slice J0 0 0,.slice J0 0 0] a o ->
 Z1 o a (.bool d)/\∀b,Z8 o a (.bool d) b ->
 Z1 b (a.add 1) (.slice e f g)/\∀d,Z8 b (a.add 1) (.slice e f g) d ->
 Z1 d (a.add 2) (.slice h i j)/\∀b,Z8 d (a.add 2) (.slice h i j) b ->
 Z1 b (a.add 3) (.slice k l m)/\∀d,Z8 b (a.add 3) (.slice k l m) d ->
 T Y 45 #[.int O n] d (fun b d =>
 ((∃ch,b=W ch/\R (W ch) d) \/
 b=J (U #[]) /\
 ∃b e f g h i j k l m,d.cell? a=V (.bool b) /\
 d.cell? (a.add 1)=V (.slice e f g) /\
 d.cell? (a.add 2)=V (.slice h i j) /\
 d.cell? (a.add 3)=V (.slice k l m) /\
 Z1 d c (.bool b)/\∀a,Z8 d c (.bool b) a ->
 Z1 a (c.add 1) (.slice e f g)/\∀b,Z8 a (c.add 1) (.slice e f g) b ->
 Z1 b (c.add 2) (.slice h i j)/\∀a,Z8 b (c.add 2) (.slice h i j) a ->
 Z1 a (c.add 3) (.slice k l m)/\∀b,Z8 a (c.add 3) (.slice k l m) b ->
 ∃a d e f g h i j k l,b.cell? c=V (.bool a) /\
 b.cell? (c.add 1)=V (.slice d e f) /\
 b.cell? (c.add 2)=V (.slice g h i) /\
 b.cell? (c.add 3)=V (.slice j k l) /\
 R (J (.agg #[.bool a,.slice d e f,.slice g h i,.slice j k l])) b))))))))
theorem Z19.vc(a b c w R)(h:Z19.Vc a b c w R):T Y 35 #[(.agg #[(.map a),(.bool b)]),(.agg c)] w R:=xt [] [.agg [.map a,.bool (.var b)],.big 34 c] Tryz.func35 ZO (by kernel_rfl) h
abbrev Z0M.n:Nat:=15
def Z0M.Vc(a:Option Addr)(b c:Nat)(d e f:Array Value)(w:I)(R:J6->I->Prop):Prop :=
 ∀g h,ZB w 27 d g h ->
 ∀d i,ZB h 27 e d i ->
 ∀e h,ZB i 27 f e h ->
 ∀f i,ZB h 34 #[.slice J0 0 0] f i ->
 ∀h j,ZB i 40 #[.int O 0] h j ->
 T Y 29 #[.slice a b c,.bool J2] j (fun a b =>
 ((∃ch,a=W ch/\R (W ch) b) \/
 ∃c:Option Nat,∃i j,a=J (U #[.agg #[.map c,.bool i],.int O j]) /\
 ∀a k,ZB b 69 #[.map J0,.bool J2] a k ->
 Z1 k a (.map c)/\∀b,Z8 k a (.map c) b ->
 Z1 b (a.add 1) (.bool i)/\∀c,Z8 b (a.add 1) (.bool i) c ->
 Z1 c h (.int O j)/\∀b,Z8 c h (.int O j) b ->
 ∃c,b.cell? h=V (.int O c) /\
 ((c≠0 ->
 ∀i,ZL b i ->
 ∃j,i.cell? h=V (.int O j) /\
 Z1 i f (.slice J0 0 0)/\∀k,Z8 i f (.slice J0 0 0) k ->
 k.cell? h=V (.int O j) /\
 Z1 k h (.int O j)/\∀i,Z8 k h (.int O j) i ->
 ∃j k l,i.cell? f=V (.slice j k l) /\
 ∃m,i.cell? h=V (.int O m) /\
 R (J (U #[.slice j k l,.int O m])) i) /\
 (c=0 ->
 ∃c,ZH b d 32 c /\
 ∃d,ZH b e 32 d /\
 T Y 30 #[.agg c,.agg d] b (fun b c =>
 ((∃ch,b=W ch/\R (W ch) c) \/
 ∃d e i j k l m,b=J (U #[.agg #[.slice d e i,.slice j k l],.bool m]) /\
 ∀b n,ZB c 73 #[.slice J0 0 0,.slice J0 0 0] b n ->
 Z1 n b (.slice d e i)/\∀c,Z8 n b (.slice d e i) c ->
 Z1 c (b.add 1) (.slice j k l)/\∀d,Z8 c (b.add 1) (.slice j k l) d ->
 ((m=J2 ->
 Z1 d f (.slice J0 0 0)/\∀c,Z8 d f (.slice J0 0 0) c ->
 Z1 c h (.int O 164)/\∀e,Z8 c h (.int O 164) e ->
 ∃c i j,e.cell? f=V (.slice c i j) /\
 ∃k,e.cell? h=V (.int O k) /\
 R (J (U #[.slice c i j,.int O k])) e) /\
 (m=JD ->
 ∃c e,J1 Y (Instr.makeMap 78 J0) d=.ok c e /\
 ∃d:Option Nat,c=(.map d) /\
 ∀c i,ZB e 78 #[.map J0] c i ->
 Z1 i c (.map d)/\∀e,Z8 i c (.map d) e ->
 ∀d i,ZB e 79 #[.nilFunc] d i ->
 Z1 i d (.func (.func 33) #[] #[K (V b),K (V a),K (V c),K (V f),K (V d)])/\∀e,Z8 i d (.func (.func 33) #[] #[K (V b),K (V a),K (V c),K (V f),K (V d)]) e ->
 ∃a,ZH e g 32 a /\
 T Y 39 #[.agg a] e (fun a b =>
 ((∃ch,a=W ch/\Z2m Y (fun c =>
 ∃e g i,c.cell? f=V (.slice e g i) /\
 ∃j,c.cell? h=V (.int O j) /\
 R (J (U #[.slice e g i,.int O j])) c) R [(32,#[K (V h)]),(31,#[K (V h),K (V f)])] (.panicking ch) b) \/
 ∃c,a=J (.agg c) /\
 ∀a e,ZB b 82 #[.int X 0,.int X 0,.int X 0,.int X 0,.int X 0,.int X 0,.int X 0,.int X 0,.int X 0,.int X 0,.int X 0,.int X 0,.int X 0,.int X 0,.int X 0,.int X 0,.int X 0,.int X 0,.int X 0,.int X 0,.int X 0,.int X 0,.int X 0,.int X 0,.int X 0,.int X 0,.int X 0,.int X 0,.int X 0,.int X 0,.int X 0,.int X 0,K J0,.bool J2] a e ->
 ∃b,J1 Y (Instr.storeAt 82 (K (V a)) (.agg c)) e=.ok () b /\
 ∃c,b.cell? (a.add 33)=V (.bool c) /\
 ((c=JD ->
 ∃e,b.cell? d=V e /\
 ∃d,ZH b a 34 d /\
 Z3G Y e #[.agg d,.slice J0 0 0] b (fun a d =>
 ((∃ch,a=W ch/\Z2m Y (fun e =>
 ∃g i j,e.cell? f=V (.slice g i j) /\
 ∃k,e.cell? h=V (.int O k) /\
 R (J (U #[.slice g i j,.int O k])) e) R [(32,#[K (V h)]),(31,#[K (V h),K (V f)])] (.panicking ch) d) \/
 a=J (U #[]) /\
 ∃a e g,d.cell? f=V (.slice a e g) /\
 Z1 d f (.slice a e g)/\∀i,Z8 d f (.slice a e g) i ->
 Z1 i h (.int O 0)/\∀a,Z8 i h (.int O 0) a ->
 Z2m Y (fun d =>
 ∃e g i,d.cell? f=V (.slice e g i) /\
 ∃j,d.cell? h=V (.int O j) /\
 R (J (U #[.slice e g i,.int O j])) d) R [(32,#[K (V h)]),(31,#[K (V h),K (V f)])] .returning a))) /\
 (c=J2 ->
 ∃a c d,b.cell? f=V (.slice a c d) /\
 Z1 b f (.slice a c d)/\∀e,Z8 b f (.slice a c d) e ->
 Z1 e h (.int O 0)/\∀a,Z8 e h (.int O 0) a ->
 Z2m Y (fun b =>
 ∃c d e,b.cell? f=V (.slice c d e) /\
 ∃g,b.cell? h=V (.int O g) /\
 R (J (U #[.slice c d e,.int O g])) b) R [(32,#[K (V h)]),(31,#[K (V h),K (V f)])] .returning a))))))))))))
theorem Z0M.vc(a:Option Addr)(b:Nat)(c:Nat)(d:Array Value)(e:Array Value)(f:Array Value)(w:I)(R:J6->I->Prop)(h:Z0M.Vc a b c d e f w R):T Y 15 #[(.slice a b c),(.agg d),(.agg e),(.agg f)] w R :=
 Z48 (ann:=[]) (args:=[.slice a b c,.big 32 d,.big 32 e,.big 32 f]) Tryz.func15 ZO (Eq.mp (by kernel_rfl:Z0M.Vc a b c d e f w R=ZA1 (aD Y R) (ZD4 Y R) Y [] Tryz.f15 [.slice a b c,.big 32 d,.big 32 e,.big 32 f] False w) h)
def Zy.Vc(a b:Addr)(w:I)(R:J6->I->Prop):Prop :=
 ∃c,w.cell? a=V (.int O c) /\
 ((c≠0 ->
 Z1 w b (.slice J0 0 0)/\∀a,Z8 w b (.slice J0 0 0) a ->
 R (J (U #[])) a) /\
 (c=0 ->
 R (J (U #[])) w))
theorem Zy.vcd(u:FrameMode)(a:Addr)(b:Addr)(w:I)(R:J6->I->Prop)(h:Zy.Vc a b w R):CallsD Y 31 #[(K (V a)),(K (V b))] u w (fun e u' w'=>u'=u/\R e w') :=
 Z49 (R:=R) (ann:=[]) (args:=[.addr a,.addr b]) Tryz.func31 ZO (Eq.mp (by kernel_rfl:Zy.Vc a b w R=Z4h (pA Y ⟨R,J2⟩) Y [] Tryz.f31 [.addr a,.addr b] w) h)
abbrev Zi.n:Nat:=33
def Zi.Vc(a:Array Value)(b:Option Addr)(c d:Nat)(e f g h i:Addr)(w:I)(R:J6->I->Prop):Prop :=
 ∀j k,ZB w 82 a j k ->
 (((c:Int)>64 ->
 R (J (U #[])) k) /\
 (¬(c:Int)>64 ->
 ∃a l m n o p,k.cell? e=V (.slice a l m) /\
 k.cell? (e.add 1)=V (.slice n o p) /\
 T Y 34 #[.agg #[.slice a l m,.slice n o p],.slice b c d] k (fun a e =>
 ((∃ch,a=W ch/\R (W ch) e) \/
 ∃k,a=J (.int O k) /\
 ((k≠2 ->
 R (J (U #[])) e) /\
 (k=2 ->
 ∃a:Option Nat,∃k,e.cell? f=V (.map a) /\
 e.cell? (f.add 1)=V (.bool k) /\
 ∃l,ZH e j 34 l /\
 T Y 35 #[.agg #[.map a,.bool k],.agg l] e (fun a e =>
 ((∃ch,a=W ch/\R (W ch) e) \/
 ∃k l m n o p q r s t,a=J (.agg #[.bool k,.slice l m n,.slice o p q,.slice r s t]) /\
 ∀a u,ZB e 86 #[.bool J2,.slice J0 0 0,.slice J0 0 0,.slice J0 0 0] a u ->
 Z1 u a (.bool k)/\∀e,Z8 u a (.bool k) e ->
 Z1 e (a.add 1) (.slice l m n)/\∀k,Z8 e (a.add 1) (.slice l m n) k ->
 Z1 k (a.add 2) (.slice o p q)/\∀e,Z8 k (a.add 2) (.slice o p q) e ->
 Z1 e (a.add 3) (.slice r s t)/\∀k,Z8 e (a.add 3) (.slice r s t) k ->
 ∃e,k.cell? (j.add 32)=V (K e) /\
 ((e=J0 ->
 ∃l:Option Nat,k.cell? g=V (.map l) /\
 ∃m,ZH k j 32 m /\
 ∃n,J1 Y (Instr.lookup 78 (.map l) (.agg m) JD) k=.ok n k /\
 ∃l,n=(U #[.agg #[],.bool l]) /\
 ∀m n,ZB k 88 #[] m n ->
 ((l=J2 ->
 ∃m:Option Nat,n.cell? g=V (.map m) /\
 ∃g,ZH n j 32 g /\
 ∃o,J1 Y (Instr.mapUpdate 78 (.map m) (.agg g) (.agg #[])) n=.ok () o /\
 ∀g,ZL o g ->
 ∃m o p,g.cell? h=V (.slice m o p) /\
 ∃q,ZH g j 32 q /\
 ∃r:Option Nat,∃s,g.cell? f=V (.map r) /\
 g.cell? (f.add 1)=V (.bool s) /\
 ∃f,ZH g j 32 f /\
 T Y 37 #[.agg #[.map r,.bool s],.agg f] g (fun f g =>
 ((∃ch,f=W ch/\R (W ch) g) \/
 ∃r s t,f=J (.slice r s t) /\
 ZH g j 32 q /\
 g.cell? h=V (.slice m o p) /\
 T Y 36 #[.slice r s t] g (fun f g =>
 ((∃ch,f=W ch/\R (W ch) g) \/
 ∃r s t,f=J (.slice r s t) /\
 ZH g j 32 q /\
 g.cell? h=V (.slice m o p) /\
 JM q=32 /\
 JM (setsAt (lputL #[.int X 0,.int X 0,.int X 0,.int X 0,.int X 0,.int X 0,.int X 0,.int X 0,.int X 0,.int X 0,.int X 0,.int X 0,.int X 0,.int X 0,.int X 0,.int X 0,.int X 0,.int X 0,.int X 0,.int X 0,.int X 0,.int X 0,.int X 0,.int X 0,.int X 0,.int X 0,.int X 0,.int X 0,.int X 0,.int X 0,.int X 0,.int X 0,.slice J0 0 0] 0 32 q) 32 [.slice r s t])=33 /\
 ∀f j,ZB g 48 (lputL #[.int X 0,.int X 0,.int X 0,.int X 0,.int X 0,.int X 0,.int X 0,.int X 0,.int X 0,.int X 0,.int X 0,.int X 0,.int X 0,.int X 0,.int X 0,.int X 0,.int X 0,.int X 0,.int X 0,.int X 0,.int X 0,.int X 0,.int X 0,.int X 0,.int X 0,.int X 0,.int X 0,.int X 0,.int X 0,.int X 0,.int X 0,.int X 0,.slice J0 0 0] 0 33 (setsAt (lputL #[.int X 0,.int X 0,.int X 0,.int X 0,.int X 0,.int X 0,.int X 0,.int X 0,.int X 0,.int X 0,.int X 0,.int X 0,.int X 0,.int X 0,.int X 0,.int X 0,.int X 0,.int X 0,.int X 0,.int X 0,.int X 0,.int X 0,.int X 0,.int X 0,.int X 0,.int X 0,.int X 0,.int X 0,.int X 0,.int X 0,.int X 0,.int X 0,.slice J0 0 0] 0 32 q) 32 [.slice r s t])) f j ->
 j.cell? h=V (.slice m o p) /\
 ∃g q,J1 Y (builtinV J9 #[34,34] 34 #[.slice m o p,.slice (V f) 1 1]) j=.ok g q /\
 ∃f j m,g=(.slice f j m) /\
 Z1 q h (.slice f j m)/\∀g,Z8 q h (.slice f j m) g ->
 ∃f h j m o p q r s t,g.cell? a=V (.bool f) /\
 g.cell? (a.add 1)=V (.slice h j m) /\
 g.cell? (a.add 2)=V (.slice o p q) /\
 g.cell? (a.add 3)=V (.slice r s t) /\
 ∃u,g.cell? i=V u /\
 T Y 38 #[.agg #[.bool f,.slice h j m,.slice o p q,.slice r s t],.slice b c d,u] g (fun f g =>
 ((∃ch,f=W ch/\R (W ch) g) \/
 f=J (U #[]) /\
 R (J (U #[])) g))))))) /\
 (l=JD ->
 ∃f g h j l m o p q r,n.cell? a=V (.bool f) /\
 n.cell? (a.add 1)=V (.slice g h j) /\
 n.cell? (a.add 2)=V (.slice l m o) /\
 n.cell? (a.add 3)=V (.slice p q r) /\
 ∃s,n.cell? i=V s /\
 T Y 38 #[.agg #[.bool f,.slice g h j,.slice l m o,.slice p q r],.slice b c d,s] n (fun f g =>
 ((∃ch,f=W ch/\R (W ch) g) \/
 f=J (U #[]) /\
 R (J (U #[])) g))))) /\
 (e≠J0 ->
 ∃e f g h j l m n o p,k.cell? a=V (.bool e) /\
 k.cell? (a.add 1)=V (.slice f g h) /\
 k.cell? (a.add 2)=V (.slice j l m) /\
 k.cell? (a.add 3)=V (.slice n o p) /\
 ∃a,k.cell? i=V a /\
 T Y 38 #[.agg #[.bool e,.slice f g h,.slice j l m,.slice n o p],.slice b c d,a] k (fun a b =>
 ((∃ch,a=W ch/\R (W ch) b) \/
 a=J (U #[]) /\
 R (J (U #[])) b))))))))))))
theorem Zi.vc(a b c d e f g i j w R)(h:Zi.Vc a b c d e f g i j w R):T Y 33 #[(.agg a),(.slice b c d),(K (V e)),(K (V f)),(K (V g)),(K (V i)),(K (V j))] w R:=xt [] [.big 34 a,.slice b c d,.addr e,.addr f,.addr g,.addr i,.addr j] Tryz.func33 ZO (by kernel_rfl) h
abbrev Z0U.n:Nat:=69
def Z0U.Vc(a:Option Addr)(b c:Nat)(c:Array Value)(w:I)(R:J6->I->Prop):Prop :=
 ∀d e,ZB w 27 c d e ->
 ∃(c:Int->I->Prop)(f:Int->I->Nat),c 0 e /\
 (∀(e:Int)(g:Nat->Value)(g:I),c e g ->
 ((e<(b:Int) ->
 ∀h,ZL g h ->
 ∃i,a=V i /\
 ((0:Int)<=e/\e<(b:Int)) /\
 ∃j,ZH h (i.add (e.toNat*33)) 32 j /\
 ∃i,ZH h d 32 i /\
 ∃d,J1 Y (Z0Z .eql 27 (.tmp 17) (.tmp 18) (.agg j) (.agg i)) h=.ok d h /\
 ∃i,d=(.bool i) /\
 ((i=JD ->
 ∃d,a=V d /\
 ((0:Int)<=e/\e<(b:Int)) /\
 ∃a j k,h.cell? ((d.add (e.toNat*33)).add 32)=V (.slice a j k) /\
 R (J (U #[.slice a j k,.bool JD])) h) /\
 (i=J2 ->
 c (Z O (e+1)) h/\f (Z O (e+1)) h<f e g))) /\
 (¬e<(b:Int) ->
 R (J (U #[.slice J0 0 0,.bool J2])) g)))
theorem Z0U.vc(a b c d w R)(h:Z0U.Vc a b c d w R):T Y 69 #[(.slice a b c),(.agg d)] w R:=xs [(2,[(6,.cell (.int O))])] [.slice a b c,.big 32 d] Tryz.func69 ZO (by kernel_rfl) h
abbrev Zf.n:Nat:=41
def Zf.Vc(a:Addr)(b:Array Value)(c:Option Addr)(d e:Nat)(w:I)(R:J6->I->Prop):Prop :=
 ∀f g,ZB w 27 b f g ->
 ∀b,ZL g b ->
 ∃g,b.cell? (a.add 66)=V (.int O g) /\
 ((g≠0 ->
 R (J (U #[])) b) /\
 (g=0 ->
 ∃g,ZH b (a.add 1) 32 g /\
 ∃h,ZH b (a.add 33) 32 h /\
 T Y 46 #[.slice c d e,.agg g,.agg h] b (fun b g =>
 ∃h,b=J (.int O h) /\
 ((h≠0 ->
 R (J (U #[])) g) /\
 (h=0 ->
 ∀b,ZL g b ->
 ∃g h i,b.cell? a=V (.slice g h i) /\
 ∃j,ZH b f 32 j /\
 T Y 69 #[.slice g h i,.agg j] b (fun b g =>
 ∃h i j k,b=J (U #[.slice h i j,.bool k]) /\
 ((k=J2 ->
 Z1 g (a.add 66) (.int O 160)/\∀b,Z8 g (a.add 66) (.int O 160) b ->
 R (J (U #[])) b) /\
 (k=JD ->
 T Y 59 #[.slice h i j] g (fun b g =>
 ∃k,b=J (.int O k) /\
 ((k≠0 ->
 Z1 g (a.add 66) (.int O 161)/\∀b,Z8 g (a.add 66) (.int O 161) b ->
 R (J (U #[])) b) /\
 (k=0 ->
 ∀b,ZL g b ->
 ∃g k l,b.cell? (a.add 65)=V (.slice g k l) /\
 ∃m,ZH b f 32 m /\
 T Y 69 #[.slice g k l,.agg m] b (fun b g =>
 ∃k l m n,b=J (U #[.slice k l m,.bool n]) /\
 ∃(b:I->Prop),((n=J2 ->
 ∀k,ZL g k ->
 ∃l m o,k.cell? (a.add 65)=V (.slice l m o) /\
 ∃p,ZH k f 32 p /\
 ∃q r,J1 Y (builtinV J9 #[23,23] 23 #[.slice J0 0 0,.slice h i j]) k=.ok q r /\
 ∃k s t,q=(.slice k s t) /\
 ZH r f 32 p /\
 r.cell? (a.add 65)=V (.slice l m o) /\
 JM p=32 /\
 JM (setsAt (lputL #[.int X 0,.int X 0,.int X 0,.int X 0,.int X 0,.int X 0,.int X 0,.int X 0,.int X 0,.int X 0,.int X 0,.int X 0,.int X 0,.int X 0,.int X 0,.int X 0,.int X 0,.int X 0,.int X 0,.int X 0,.int X 0,.int X 0,.int X 0,.int X 0,.int X 0,.int X 0,.int X 0,.int X 0,.int X 0,.int X 0,.int X 0,.int X 0,.slice J0 0 0] 0 32 p) 32 [.slice k s t])=33 /\
 ∀f q,ZB r 48 (lputL #[.int X 0,.int X 0,.int X 0,.int X 0,.int X 0,.int X 0,.int X 0,.int X 0,.int X 0,.int X 0,.int X 0,.int X 0,.int X 0,.int X 0,.int X 0,.int X 0,.int X 0,.int X 0,.int X 0,.int X 0,.int X 0,.int X 0,.int X 0,.int X 0,.int X 0,.int X 0,.int X 0,.int X 0,.int X 0,.int X 0,.int X 0,.int X 0,.slice J0 0 0] 0 33 (setsAt (lputL #[.int X 0,.int X 0,.int X 0,.int X 0,.int X 0,.int X 0,.int X 0,.int X 0,.int X 0,.int X 0,.int X 0,.int X 0,.int X 0,.int X 0,.int X 0,.int X 0,.int X 0,.int X 0,.int X 0,.int X 0,.int X 0,.int X 0,.int X 0,.int X 0,.int X 0,.int X 0,.int X 0,.int X 0,.int X 0,.int X 0,.int X 0,.int X 0,.slice J0 0 0] 0 32 p) 32 [.slice k s t])) f q ->
 q.cell? (a.add 65)=V (.slice l m o) /\
 ∃k p,J1 Y (builtinV J9 #[34,34] 34 #[.slice l m o,.slice (V f) 1 1]) q=.ok k p /\
 ∃f l m,k=(.slice f l m) /\
 Z1 p (a.add 65) (.slice f l m)/\∀k,Z8 p (a.add 65) (.slice f l m) k ->
 b  k) /\
 (n=JD ->
 b  g)) /\
 (∀  (f:Nat->Value)(f:I),b  f ->
 T Y 60 #[.slice h i j] f (fun b f =>
 ∃g h i j k l m n,b=J (U #[.agg #[.bool g,.slice h i j,.slice k l m],.int O n]) /\
 ∀b n,ZB f 111 #[.bool J2,.slice J0 0 0,.slice J0 0 0] b n ->
 Z1 n b (.bool g)/\∀f,Z8 n b (.bool g) f ->
 Z1 f (b.add 1) (.slice h i j)/\∀g,Z8 f (b.add 1) (.slice h i j) g ->
 Z1 g (b.add 2) (.slice k l m)/\∀f,Z8 g (b.add 2) (.slice k l m) f ->
 ∃g h i j k l m,f.cell? b=V (.bool g) /\
 f.cell? (b.add 1)=V (.slice h i j) /\
 f.cell? (b.add 2)=V (.slice k l m) /\
 T Y 70 #[K (V a),.agg #[.bool g,.slice h i j,.slice k l m],.slice c d e] f (fun a b =>
 a=J (U #[]) /\
 R (J (U #[])) b)))))))))))))))
theorem Zf.vc(a b c d e w R)(h:Zf.Vc a b c d e w R):T Y 41 #[(K (V a)),(.agg b),(.slice c d e)] w R:=xs [(1000010,[])] [.addr a,.big 32 b,.slice c d e] Tryz.func41 ZO (by kernel_rfl) h
abbrev ZD.n:Nat:=70
def ZD.Vc(a:Addr)(b:Bool)(c:Option Addr)(d e:Nat)(f:Option Addr)(g h:Nat)(i:Option Addr)(j k:Nat)(w:I)(R:J6->I->Prop):Prop :=
 ∀l m,ZB w 111 #[.bool b,.slice c d e,.slice f g h] l m ->
 ∃b,m.cell? (a.add 66)=V (.int O b) /\
 ((b≠0 ->
 R (J (U #[])) m) /\
 (b=0 ->
 (((j:Int)>64 ->
 R (J (U #[])) m) /\
 (¬(j:Int)>64 ->
 ∃b,m.cell? l=V (.bool b) /\
 ((b=J2 ->
 ∃c d e,m.cell? (l.add 1)=V (.slice c d e) /\
 (((d:Int)=32 ->
 ∀c e,ZB m 27 (JC 32 (.int X 0)) c e ->
 ∀f,ZL e f ->
 ∃e g h,f.cell? (l.add 1)=V (.slice e g h) /\
 ∃n o,J1 Y (builtinV .copy #[23,23] 3 #[.slice (V c) 32 32,.slice e g h]) f=.ok n o /\
 ∃e,n=(.int O e) /\
 ∃e,ZH o c 32 e /\
 T Y 41 #[K (V a),.agg e,.slice i j k] o (fun c e =>
 c=J (U #[]) /\
 R (J (U #[])) e)) /\
 ((d:Int)≠32 ->
 R (J (U #[])) m))) /\
 (b=JD ->
 ∃b c d,m.cell? (l.add 2)=V (.slice b c d) /\
 (((c:Int)=2 ->
 ∃b d e,m.cell? (l.add 2)=V (.slice b d e) /\
 ∃e,b=V e /\
 ((0:Int)<=0/\0<(d:Int)) /\
 ∃b d f,m.cell? ((e.add 0).add 1)=V (.slice b d f) /\
 T Y 95 #[.slice b d f] m (fun b d =>
 ∃e f g h n,b=J (U #[.slice e f g,.bool h,.int O n]) /\
 ((h=J2 ->
 ∀b,ZL d b ->
 ∃n o p,b.cell? (l.add 2)=V (.slice n o p) /\
 ∃q,n=V q /\
 ((0:Int)<=1/\1<(o:Int)) /\
 ∃r s t u v x y,b.cell? (q.add 3)=V (.bool r) /\
 b.cell? ((q.add 3).add 1)=V (.slice s t u) /\
 b.cell? ((q.add 3).add 2)=V (.slice v x y) /\
 ∃z A,J1 Y (builtinV J9 #[23,23] 23 #[.slice J0 0 0,.slice i j k]) b=.ok z A /\
 ∃b B C,z=(.slice b B C) /\
 A.cell? (q.add 3)=V (.bool r) /\
 A.cell? ((q.add 3).add 1)=V (.slice s t u) /\
 A.cell? ((q.add 3).add 2)=V (.slice v x y) /\
 A.cell? (l.add 2)=V (.slice n o p) /\
 ∃z D,J1 Y (builtinV J9 #[23,23] 23 #[.slice b B C,.slice e f g]) A=.ok z D /\
 ∃b e f,z=(.slice b e f) /\
 D.cell? (q.add 3)=V (.bool r) /\
 D.cell? ((q.add 3).add 1)=V (.slice s t u) /\
 D.cell? ((q.add 3).add 2)=V (.slice v x y) /\
 D.cell? (l.add 2)=V (.slice n o p) /\
 T Y 70 #[K (V a),.agg #[.bool r,.slice s t u,.slice v x y],.slice b e f] D (fun b e =>
 b=J (U #[]) /\
 R (J (U #[])) e)) /\
 (h=JD ->
 R (J (U #[])) d)))) /\
 ((c:Int)≠2 ->
 ∃(b:Int->I->Prop)(c:Int->I->Nat),b 0 m /\
 (∀(d:Int)(e:Nat->Value)(e:I),b d e ->
 ((d<16 ->
 ∀f,ZL e f ->
 ∃g h m,f.cell? (l.add 2)=V (.slice g h m) /\
 ∃n,g=V n /\
 ((0:Int)<=d/\d<(h:Int)) /\
 ∃o p q r s t u,f.cell? (n.add (d.toNat*3))=V (.bool o) /\
 f.cell? ((n.add (d.toNat*3)).add 1)=V (.slice p q r) /\
 f.cell? ((n.add (d.toNat*3)).add 2)=V (.slice s t u) /\
 ((∃v x,J1 Y (builtinV J9 #[23,23] 23 #[.slice J0 0 0,.slice i j k]) f=.ok v x /\
 ∃y z A,v=(.slice y z A) /\
 x.cell? (n.add (d.toNat*3))=V (.bool o) /\
 x.cell? ((n.add (d.toNat*3)).add 1)=V (.slice p q r) /\
 x.cell? ((n.add (d.toNat*3)).add 2)=V (.slice s t u) /\
 x.cell? (l.add 2)=V (.slice g h m) /\
 ∀v B,ZB x 5 #[.int X (Z X d)] v B ->
 B.cell? (n.add (d.toNat*3))=V (.bool o) /\
 B.cell? ((n.add (d.toNat*3)).add 1)=V (.slice p q r) /\
 B.cell? ((n.add (d.toNat*3)).add 2)=V (.slice s t u) /\
 B.cell? (l.add 2)=V (.slice g h m) /\
 ∃x C,J1 Y (builtinV J9 #[23,23] 23 #[.slice y z A,.slice (V v) 1 1]) B=.ok x C /\
 ∃v y z,x=(.slice v y z) /\
 C.cell? (n.add (d.toNat*3))=V (.bool o) /\
 C.cell? ((n.add (d.toNat*3)).add 1)=V (.slice p q r) /\
 C.cell? ((n.add (d.toNat*3)).add 2)=V (.slice s t u) /\
 C.cell? (l.add 2)=V (.slice g h m) /\
 T Y 70 #[K (V a),.agg #[.bool o,.slice p q r,.slice s t u],.slice v y z] C (fun v x =>
 v=J (U #[]) /\
 b (Z O (d+1)) x/\c (Z O (d+1)) x<c d e)) /\
 (∀v x,ZB f 5 #[.int X (Z X d)] v x ->
 x.cell? (n.add (d.toNat*3))=V (.bool o) /\
 x.cell? ((n.add (d.toNat*3)).add 1)=V (.slice p q r) /\
 x.cell? ((n.add (d.toNat*3)).add 2)=V (.slice s t u) /\
 x.cell? (l.add 2)=V (.slice g h m) /\
 ∃f y,J1 Y (builtinV J9 #[23,23] 23 #[.slice J0 0 0,.slice i j k]) x=.ok f y /\
 ∃i j k,f=(.slice i j k) /\
 y.cell? (n.add (d.toNat*3))=V (.bool o) /\
 y.cell? ((n.add (d.toNat*3)).add 1)=V (.slice p q r) /\
 y.cell? ((n.add (d.toNat*3)).add 2)=V (.slice s t u) /\
 y.cell? (l.add 2)=V (.slice g h m) /\
 ∃f x,J1 Y (builtinV J9 #[23,23] 23 #[.slice i j k,.slice (V v) 1 1]) y=.ok f x /\
 ∃i j k,f=(.slice i j k) /\
 x.cell? (n.add (d.toNat*3))=V (.bool o) /\
 x.cell? ((n.add (d.toNat*3)).add 1)=V (.slice p q r) /\
 x.cell? ((n.add (d.toNat*3)).add 2)=V (.slice s t u) /\
 x.cell? (l.add 2)=V (.slice g h m) /\
 T Y 70 #[K (V a),.agg #[.bool o,.slice p q r,.slice s t u],.slice i j k] x (fun a f =>
 a=J (U #[]) /\
 b (Z O (d+1)) f/\c (Z O (d+1)) f<c d e)))) /\
 (¬d<16 ->
 R (J (U #[])) e)))))))))))
theorem ZD.vc(a b c d e f g i j k l w R)(h:ZD.Vc a b c d e f g i j k l w R):T Y 70 #[(K (V a)),(.agg #[(.bool b),(.slice c d e),(.slice f g i)]),(.slice j k l)] w R:=xs [(12,[(10,.cell (.int O))])] [.addr a,.agg [.bool (.var b),.slice c d e,.slice f g i],.slice j k l] Tryz.func70 ZO (by kernel_rfl) h
abbrev Ze.n:Nat:=16
def Ze.Vc(a:Option Addr)(b c:Nat)(d e f:Array Value)(w:I)(R:J6->I->Prop):Prop :=
 ∀g h,ZB w 27 d g h ->
 ∀d i,ZB h 27 e d i ->
 ∀e h,ZB i 27 f e h ->
 (((b:Int)>4096 ->
 R (J (U #[.slice J0 0 0,.int O 162])) h) /\
 (¬(b:Int)>4096 ->
 ∀f,ZL h f ->
 T Y 23 #[.slice (V e) 32 32,.slice (V d) 32 32] f (fun f h =>
 ∃i,f=J (.int O i) /\
 ((i<0 ->
 R (J (U #[.slice J0 0 0,.int O 164])) h) /\
 (¬i<0 ->
 ∃f,ZH h d 32 f /\
 ∃d,ZH h e 32 d /\
 JM f=32 /\
 JM d=32 /\
 ∀e i,ZB h 96 (lputL (lputL (setsAt #[.slice J0 0 0,.int X 0,.int X 0,.int X 0,.int X 0,.int X 0,.int X 0,.int X 0,.int X 0,.int X 0,.int X 0,.int X 0,.int X 0,.int X 0,.int X 0,.int X 0,.int X 0,.int X 0,.int X 0,.int X 0,.int X 0,.int X 0,.int X 0,.int X 0,.int X 0,.int X 0,.int X 0,.int X 0,.int X 0,.int X 0,.int X 0,.int X 0,.int X 0,.int X 0,.int X 0,.int X 0,.int X 0,.int X 0,.int X 0,.int X 0,.int X 0,.int X 0,.int X 0,.int X 0,.int X 0,.int X 0,.int X 0,.int X 0,.int X 0,.int X 0,.int X 0,.int X 0,.int X 0,.int X 0,.int X 0,.int X 0,.int X 0,.int X 0,.int X 0,.int X 0,.int X 0,.int X 0,.int X 0,.int X 0,.int X 0,.slice J0 0 0,.int O 0] 0 [.slice a b c]) 1 32 f) 33 32 d) e i ->
 ∃(a:I->Prop),(∀b,ZL i b ->
 ∃c,ZH b g 32 c /\
 T Y 40 #[] b (fun b d =>
 ∃f,b=J (.agg f) /\
 ZH d g 32 c /\
 ∃b,J1 Y (Z0Z .neq 27 (.tmp 23) (.tmp 24) (.agg c) (.agg f)) d=.ok b d /\
 ∃c,b=(.bool c) /\
 ((c=JD ->
 ∃b,ZH d g 32 b /\
 T Y 41 #[K (V e),.agg b,.slice J0 0 0] d (fun b f =>
 b=J (U #[]) /\
 a  f)) /\
 (c=J2 ->
 a  d)))) /\
 (∀  (b:Nat->Value)(b:I),a  b ->
 ∃a,b.cell? (e.add 66)=V (.int O a) /\
 ((a≠0 ->
 ∀c,ZL b c ->
 ∃d,c.cell? (e.add 66)=V (.int O d) /\
 R (J (U #[.slice J0 0 0,.int O d])) c) /\
 (a=0 ->
 ∃a c d,b.cell? (e.add 65)=V (.slice a c d) /\
 R (J (U #[.slice a c d,.int O 0])) b))))))))
theorem Ze.vc(a b c d e f w R)(h:Ze.Vc a b c d e f w R):T Y 16 #[(.slice a b c),(.agg d),(.agg e),(.agg f)] w R:=xs [(1000008,[])] [.slice a b c,.big 32 d,.big 32 e,.big 32 f] Tryz.func16 ZO (by kernel_rfl) h
abbrev Z0G.n:Nat:=13
def Z0G.Vc(a:Option Addr)(b c:Nat)(w:I)(R:J6->I->Prop):Prop :=
 ∃(c:Int->I->Prop)(d:Int->I->Nat),c 0 w /\
 (∀(e:Int)(f:Nat->Value)(f:I),c e f ->
 ((e<(b:Int) ->
 ∃g,a=V g /\
 ((0:Int)<=e/\e<(b:Int)) /\
 ∃a h i,f.cell? (g.add (e.toNat*2))=V (.slice a h i) /\
 (((h:Int)≠32 ->
 R (J (.bool J2)) f) /\
 ((h:Int)=32 ->
 c (Z O (e+1)) f/\d (Z O (e+1)) f<d e f))) /\
 (¬e<(b:Int) ->
 R (J (.bool JD)) f)))
theorem Z0G.vc(a b c w R)(h:Z0G.Vc a b c w R):T Y 13 #[(.slice a b c)] w R:=xs [(2,[(3,.cell (.int O))])] [.slice a b c] Tryz.func13 ZO (by kernel_rfl) h
abbrev Zc.n:Nat:=4
def Zc.Vc(a:Option Addr)(b c:Nat)(d:Int)(e f:Array Value)(w:I)(R:J6->I->Prop):Prop :=
 ∀g h,ZB w 27 e g h ->
 ∀e i,ZB h 27 f e i ->
 T Y 6 #[] i (fun f h =>
 ∃i,f=J (.bool i) /\
 ((i=J2 ->
 R (J (.bool J2)) h) /\
 (i=JD ->
 T Y 7 #[.slice a b c] h (fun f h =>
 ∃i,f=J (.bool i) /\
 ((i=J2 ->
 R (J (.bool JD)) h) /\
 (i=JD ->
 T Y 13 #[.slice a b c] h (fun f h =>
 ∃i,f=J (.bool i) /\
 ((i=J2 ->
 R (J (.bool JD)) h) /\
 (i=JD ->
 T Y 8 #[.slice a b c] h (fun a b =>
 ∃c f h i,a=J (U #[.agg c,.slice f h i]) /\
 ∀a j,ZB b 27 (JC 32 (.int X 0)) a j ->
 ∃b,J1 Y (Instr.storeAt 27 (K (V a)) (.agg c)) j=.ok () b /\
 T Y 10 #[.slice f h i] b (fun b c =>
 ∃f h i,b=J (.slice f h i) /\
 T Y 14 #[.slice f h i,.int O d,.slice J0 0 0] c (fun b c =>
 ∃d f h,b=J (.slice d f h) /\
 ∃b,ZH c a 32 b /\
 ∃i,ZH c g 32 i /\
 ∃j,ZH c e 32 j /\
 T Y 15 #[.slice d f h,.agg b,.agg i,.agg j] c (fun b c =>
 ∃i j k l,b=J (U #[.slice i j k,.int O l]) /\
 ∃b,ZH c a 32 b /\
 ∃a,ZH c g 32 a /\
 ∃g,ZH c e 32 g /\
 T Y 16 #[.slice d f h,.agg b,.agg a,.agg g] c (fun a b =>
 ∃c d e f,a=J (U #[.slice c d e,.int O f]) /\
 ((l=f ->
 T Y 17 #[.slice i j k,.slice c d e] b (fun a c =>
 ∃d,a=J (.bool d) /\
 R (J (.bool d)) c)) /\
 (l≠f ->
 R (J (.bool J2)) b))))))))))))))))
theorem Zc.vc(a b c d e f w R)(h:Zc.Vc a b c d e f w R):T Y 4 #[(.slice a b c),(.int O d),(.agg e),(.agg f)] w R:=xs [] [.slice a b c,.int O d,.big 32 e,.big 32 f] Tryz.func4 ZO (by kernel_rfl) h
end Go.Proofs.YtfghidehlnfdiaaGreat
end
