/- Contracts: the reference's find, Get (moraineref14), Prove (moraineref16). -/
/- Contracts: what Verify asks, Verify (package proof). -/
/- Contracts: Verify (package proof). -/
/- Contracts: the reference's Verify (moraineref16). -/
/- Contracts: lists of bytes held against one another, and copied. -/
/- What the laws of tries hold on to: a trie beside its map. -/
/- Contracts: few, does. -/
/- The walk of TrieRoots. -/
/- The walk of TrieOrder. -/
/- The walk of TrieOne. -/
/- Two Keccak values: of the empty text's encoding, of the leaf of one short key. -/
/- The law's own check of the document's proofs. -/
/- The walk of TriePaths. -/
/- The walk of ProofTakes. -/
/- Arguments: how long they can be. -/
/- Keys with values as arguments; how long what came in can be. -/
/- A hash, lists of bytes as arguments. -/
import Derived.Test.YtfghidehlnfdiaaGreatPW10
import Derived.Test.YtfghidehlnfdiaaGreatTVF
import Derived.Test.YtfghidehlnfdiaaGreatPW2
import Derived.Test.YtfghidehlnfdiaaGreatXMap
import Derived.SizedLaws
import Derived.Test.YtfghidehlnfdiaaGreatRows
set_option linter.unusedVariables false
set_option linter.unusedSimpArgs false
open Array renaming getElem?_eq_none->JQ,replicate->C
open Bool renaming and_eq_true->JE,false->J1,true->JX
open Except renaming error->J2
open Go renaming Calls->JU,Ending->JY,MemPlace->JW,TypeId->JN,Value->JT,World->F,convert->Ji
open Go.DataW renaming trod->U,weightsEach->JL
open Go.Ending renaming returned->J
open Go.IntKind renaming i64->J0,u8->Je,wrap->Jb
open Go.Obj renaming cells->Y
open Go.Proofs.Tryz renaming prog->O
open Go.Value renaming bool->I,pointer->J5,tuple->J8
open Go.World renaming cell?->JA
open Int renaming toNat->Jf,toNat_natCast->J9
open List renaming all_append->JG,eq_nil_of_length_eq_zero->J6,getD_eq_getElem?_getD->JH,getElem?_eq_getElem->JC,getElem?_eq_none->JS,getElem?_map->JK,getElem?_range->JB,getElem_append_left->JM,getElem_mem->JP,length_append->JZ,length_range->JJ,length_singleton->JR,mem_append_left->JV,mem_of_getElem?->JF,range->Ja,take_of_length_le->J7,take_succ_eq_append_getElem->J4
open Nat renaming le_of_not_lt->JO,le_refl->J3,lt_of_lt_of_le->JI,lt_of_not_le->Jc,lt_succ_self->Jd,sub_self->Jh,zero_add->Jg,zero_le->JD
open Option renaming none->G,some->X
section
namespace Go.Proofs.YtfghidehlnfdiaaGreat
open Go Go.Vcg Go.Trie
theorem Z9E{Z:Array JT}{b:By}(hZ:Z.size=32)(hb:b.length=32):ZY Z 0 ((b.take 32).map bV)=hashA b:=by
 have ht:b.take 32=b:=J7 (by omega);rw[ht];apply Array.ext_getElem?;intro i;rw[Z0V _ _ _ _ (by simp[hb,hZ])];by_cases hi:i<32
 ·rw[if_pos ⟨JD _,by simp[hb];exact hi⟩,Nat.sub_zero]
  simp only[hashA];rw[Z8 hi];simp[JH,hb,hi]
 ·rw[if_neg (by simp[hb];omega),JQ (by omega),JQ (by rw[Z4];omega)]
section
variable{w:F}{lab:Nat->Nat}{c:Nat}
theorem ZC5{o:Option Addr}{k:Nat}{l:List (By×By)}{h:By}(hN:Z18 w lab c l o l.length)(hh:h.length=32)(hlen:l.length<=2^40) :
  JU O Z0L.n #[.slice o l.length k,.agg (hashA h)] w (fun e w'=>Vcg.Mod NoB w w'/\(Z1n l h=G->e=J (J8 #[.slice G 0 0,I J1])) /\
   (∀b,Z1n l h=X b->∃ob kb,e=J (J8 #[.slice ob b.length kb,I JX])/\CBy w lab c ob b/\b.length<=kb)):=by
 refine Z9 fun R hR=>Z0L.vc _ _ _ _ _ _ ?_;unfold Z0L.Vc;obtain⟨_,vs,hCR,hNC⟩:=hN;rintro d2 w1⟨rfl,rfl⟩;have M1:=Mod.alloc (S:=NoB) w (Y (hashA h) 27);have X1:=Blk.new w 27 (hashA h);generalize w.heap.size=D at *
 generalize w.alloc (Y (hashA h) 27)=w1 at *
 refine⟨fun i w'=>∃j:Nat,i=(j:Int)/\j<=l.length/\Vcg.Mod NoB w w'/\Blk w' D 27 (hashA h)/\Z1n l h=Z1n (l.drop j) h,fun i _=>((l.length:Int)-i).toNat,⟨0,rfl,JD _,M1,X1,by simp⟩,?_⟩;rintro _ _ w2⟨j,rfl,hj,M2,X2,hf⟩;refine⟨fun hlt=>?_,fun hge=>?_⟩
 ·have hjl:j<l.length:=by omega
  rintro _ rfl;have M3:=M2.step_drew;have X3:=X2.drew;generalize w2.drew=w3 at *
  obtain⟨g,f,ob,kb,rfl,hrow,hby,hkb,h32⟩:=ZEg hNC hCR hjl
  have hgl:g<w.heap.size:=by
   obtain⟨g',f',ho',hg',_,_⟩:=hCR _ _ ((hNC.2 j hjl).2.1 0 (by omega));cases ho';exact hg'
  have cell:∀i,i<33->w3.cell? ⟨g,f+j*33+i,G⟩=(ndA l[j].1 ob l[j].2.length kb)[i]?:=fun i hi=>by
   rw[ZK M3 hgl (fun h=>h),<-hrow.2 i hi,Z2]
  have hrow3:ZD w3 (Addr.add ⟨g,f,G⟩ (Jf (j:Int)*33)) 32 (hashA l[j].1):=⟨Z4 _,fun i hi=>by
   rw[J9,Z2,Z2,cell i (by omega),ZBY hi];exact(Z8 (f:=fun i=>bV (l[j].1.getD i 0)) hi).symm⟩
  have hd:l.drop j=l[j]::l.drop (j+1):=List.drop_eq_getElem_cons hjl;refine⟨_,rfl,⟨by omega,by omega⟩,_,hrow3,_,X3.rowAll (Z4 _),_,Z8O _ _ h32 hh,_,rfl,fun hb=>?_,fun hb=>?_⟩
  ·rw[decide_eq_true_eq]at hb
   refine⟨_,rfl,⟨by omega,by omega⟩,ob,_,kb,by rw[J9,Z2,Z2,cell 32 (by omega),ZBX],hR _ _ ⟨M3,fun hn=>?_,fun b hb'=>?_⟩⟩
   ·rw[hf,hd,Z1n,if_pos hb]at hn;cases hn
   ·rw[hf,hd,Z1n,if_pos hb]at hb'
    cases hb';exact⟨ob,kb,rfl,hby,hkb⟩
  ·rw[decide_eq_false_iff_not]at hb
   refine⟨⟨j+1,by rw[Z0 (by omega) (by omega)];omega,hjl,M3,X3,?_⟩,by dsimp only;rw[Z0 (by omega) (by omega)];omega⟩;rw[hf,hd,Z1n,if_neg hb]
 ·obtain rfl:j=l.length:=by omega
  rw[List.drop_length]at hf;exact hR _ _ ⟨M2,fun _=>rfl,fun b hb=>by rw[hf]at hb;cases hb⟩
end
def ZFU(l:List (By×By))(root key:By)(w:F)(e:JY)(w':F):Prop :=
 Vcg.Mod NoB w w'/\if key.length>64 then e=J (J8 #[.slice G 0 0,I J1,.slice G 0 0,.int J0 140])else
  match way (pStep l) [] (rootIt root) (nibbles key)with
  |(out,.ok v)=>∃ov kv o n k,e=J (J8 #[.slice ov v.length kv,I (decide (v≠[])),.slice o n k,.int J0 0])/\∃lab' c cb,Z2T w' lab' c cb out o n k
  |(out,J2 er)=>∃o n k m,e=J (J8 #[.slice G 0 0,I J1,.slice o n k,.int J0 m])/\((er=160/\m=142)\/(er=161/\m=143))
theorem ZCE{w:F}{lab:Nat->Nat}{c:Nat}{l:List (By×By)}{o ok:Option Addr}{k kk:Nat}{root key:By}(h:Z18 w lab c l o l.length)(hlen:l.length<=2^40)(hroot:root.length=32)(hkey:RdB w ok key) :
  JU O Z0X.n #[.slice o l.length k,.agg (hashA root),.slice ok key.length kk] w (ZFU l root key w):=by
 refine Z9 fun R hR=>Z0X.vc _ _ _ _ _ _ _ _ _ ?_;unfold Z0X.Vc;rintro d3 w1⟨rfl,rfl⟩;have M1:=Mod.alloc (S:=NoB) w (Y (hashA root) 27);have X1:=Blk.new w 27 (hashA root);generalize w.heap.size=D at *
 generalize w.alloc (Y (hashA root) 27)=w1 at *
 refine⟨fun hk=>hR _ _ ⟨M1,by rw[if_pos (by omega)]⟩,fun hk=>?_⟩;have hk64:¬key.length>64:=by omega
 unfold ZFU at hR;simp only[if_neg hk64]at hR;rintro _ rfl;have X2:=X1.drew;have M2:=M1.step_drew;refine⟨_,X2.rowAll (Z4 _),?_⟩;refine(Z3r w1.drew).mono ?_;rintro _ w3⟨rfl,M3⟩;have X3:=X2.mod' M3;have M03:=M2.none_trans M3;clear X2 M2 M3 X1 M1;refine⟨_,rfl,X3.rowAll (Z4 _),_,Z8O _ _ hroot (by unfold emptyH;exact ZN _),_,rfl,fun he=>?_,fun he=>?_⟩
 ·rw[decide_eq_true_eq]at he
  have hw:way (pStep l) [] (rootIt root) (nibbles key)=([],.ok []):=by unfold rootIt;rw[if_pos he,Z7E]
  rw[hw]at hR;exact hR _ _ ⟨M03,G,0,G,0,0,rfl,fun _=>0,0,0,Z2T.nil _ _ _ _⟩
 ·rw[decide_eq_false_iff_not]at he
  have hrt:rootIt root=.s root:=by unfold rootIt;rw[if_neg he]
  refine(Z23 (hkey.mod' M03) (by omega)).mono ?_;rintro _ w4⟨op,kp,rfl,F4⟩;have X4:=X3.mod' F4.mod;have M04:=M03.none_trans F4.mod;refine⟨_,_,_,rfl,_,X4.rowAll (Z4 _),?_⟩;have hnl:=ZG key;have hpc:=F4.own.cap.1;rintro d18 w5⟨rfl,rfl⟩;have M5:=Mod.alloc (S:=NoB) w4 (Y (C 32 (.int Je 0)) 27);have H5:=Blk.new w4 27 (C 32 (.int Je 0));obtain⟨hst,H6,Q6⟩:=Z0k H5 (by simp) root;refine⟨_,hst,?_⟩;have M46:Vcg.Mod NoB w4 _:=ZC M5 Q6 (J3 _);have hHlt:=H6.lt;generalize hHe:w4.heap.size=H at *
  generalize((w4.alloc (Y (C 32 (.int Je 0)) 27)).setRow H (hashA root))=w6 at *
  have M06:=M04.none_trans M46;have P6:=(F4.mod' M46)
  let lab6:Nat->Nat:=fun q=>if q<w.heap.size then 0 else if q=H then 5 else 6
  have hHw:w.heap.size<=H:=by rw[<-hHe];exact M04.size
  have s06:Stp NoS w (fun _=>0) w6 lab6:=⟨M06.os,M06.tape,M06.output,M06.size,fun q hq=>if_pos hq,fun q hq _=>M06.block q hq (fun h=>h)⟩;have hN6:Z18 w6 lab6 0 l o l.length:=(Z18.re (lab':=fun _=>0) (c':=0) h (fun _ _ _=>rfl)).stp s06 (fun h=>h);have hH6:CB w6 lab6 5 H tHash (hashA root):=⟨H6,by show(if H<w.heap.size then 0 else if H=H then 5 else 6)=5;rw[if_neg (by omega),if_pos rfl]⟩
  have hP6:RdA (fun b=>lab6 b≠6) w6 op (nibbles key):=⟨P6.own.bytes,fun _ d hd hh=>by
   have h1:=F4.new d.block ⟨d,hd,rfl⟩;have h2:=F4.own.lt ⟨d,hd,rfl⟩;have h3:=M03.size;refine hh ?_;show(if d.block<w.heap.size then 0 else if d.block=H then 5 else 6)=6;rw[if_neg (by omega),if_neg (by omega)]⟩
  have hlab:∀q,lab6 q=5\/lab6 q=8->w.heap.size<=q:=fun q hq=>by
   refine JO fun hlt=>?_;have h0:lab6 q=0:=if_pos hlt;omega
  clear_value lab6
  refine⟨fun o' n' k' op' l' kp' w'=>∃(L:Nat->Nat)(out:List By)(hh path:By),Stp (fun q=>q=5\/q=8) w6 lab6 w' L/\Z18 w' L 0 l o l.length/\CB w' L 5 H tHash (hashA hh)/\hh.length=32/\Z2T w' L 8 0 out o' n' k'/\RdA (fun b=>L b≠6) w' op' path/\l'=path.length/\path.length<=kp'/\(∀n∈path,n.toNat<16)/\out.length+path.length<=128/\path.length<=128 /\
   way (pStep l) out (.s hh) path=way (pStep l) [] (rootIt root) (nibbles key),fun _ _ _ _ l' _ _=>l',⟨lab6,[],root,nibbles key,Stp.refl _ _ _,hN6,hH6,hroot,Z2T.nil _ _ _ _,hP6,rfl,hpc,nib_lt key,by simp;omega,by omega,by rw[hrt]⟩,?_⟩
  clear hN6 hH6 hP6 P6 s06 hst H6 Q6 H5 M5 X4 F4 X3 hpc;rintro o' _ k' op' _ kp' _ w7⟨L,out,hh,path,s67,hN7,hH7,hh32,hO7,hP7,rfl,hpk,hnib,hob,hpl,heq⟩;obtain⟨rfl,vs7,hvs⟩:=id hO7;have modw:∀w' L',Stp (fun q=>q=5\/q=8) w6 lab6 w' L'->Vcg.Mod NoB w w':=fun w' L' s=>M06.trans (s.mod (Q:=fun q=>w.heap.size<=q) (fun q _ hs=>hlab q hs)) (fun i hi hs=>by omega);have hhn:hh≠[]:=by rintro rfl;cases hh32
  refine⟨_,hH7.blk.rowAll (Z4 _),?_⟩;refine(ZC5 hN7 hh32 hlen).mono ?_;rintro e w8⟨M8,hnone,hsome⟩;have s78:Stp NoS w7 L w8 (ext L w7.heap.size 6):=Stp.of_nob M8 6;cases hf:Z1n l hh with
  |none =>
   have he:=hnone hf;subst he;refine⟨_,_,_,_,rfl,fun _=>?_,fun h=>(by cases h)⟩;have hst:pStep l out hh=(out,J2 160):=by unfold pStep;rw[hf]
   rw[Z7D hhn hst]at heq;rw[<-heq]at hR;exact hR _ _ ⟨modw _ _ (s67.trans (s78.mono (fun _ h=>h.elim))),_,_,_,_,rfl,.inl ⟨rfl,rfl⟩⟩
  |some b =>
   obtain⟨ob,kb,rfl,hby,hkb⟩:=hsome b hf;have hst:pStep l out hh=(out++[b],.ok b):=by unfold pStep;rw[hf]
   have hby8:=hby.stp s78 (fun h=>h);have hN8:=hN7.stp s78 (fun h=>h);have hH8:=hH7.stp s78 (fun h=>h);have hO8:=hO7.stp s78 (fun h=>h) (fun h=>h);have hP8:RdA (fun b=>ext L w7.heap.size 6 b≠6) w8 op' path:=((hP7.mono (A':=fun b=>L b≠6\/w7.heap.size<=b) (fun b hb hh=>hh.resolve_right (by omega))).mod' M8).mono (fun b _ hh=>Z2r s78 b hh);have s68:=s67.trans (s78.mono (T:=fun q=>q=5\/q=8) (fun _ h=>h.elim));generalize ext L w7.heap.size 6=L8 at *
   refine⟨_,_,_,_,rfl,fun h=>(by cases h),fun _=>?_⟩;refine(Z5u hby8.rd hkb).mono ?_;rintro _ w9⟨rfl,M9⟩;have s89:Stp NoS w8 L8 w9 (ext L8 w8.heap.size 6):=Stp.of_nob M9 6;have hby9:=hby8.stp s89 (fun h=>h);have hN9:=hN8.stp s89 (fun h=>h);have hH9:=hH8.stp s89 (fun h=>h);have hO9:=hO8.stp s89 (fun h=>h) (fun h=>h);have hP9:RdA (fun b=>ext L8 w8.heap.size 6 b≠6) w9 op' path:=((hP8.mono (A':=fun b=>L8 b≠6\/w8.heap.size<=b) (fun b hb hh=>hh.resolve_right (by omega))).mod' M9).mono (fun b _ hh=>Z2r s89 b hh);have s69:=s68.trans (s89.mono (T:=fun q=>q=5\/q=8) (fun _ h=>h.elim));generalize ext L8 w8.heap.size 6=L9 at *
   refine⟨_,rfl,fun hne=>?_,fun h0=>?_⟩
   ·rw[Z6J hhn hst hne]at heq
    rw[<-heq]at hR;exact hR _ _ ⟨modw _ _ s69,_,_,_,_,rfl,.inr ⟨rfl,rfl⟩⟩
   ·obtain⟨xs,hdc,hn,hg⟩:=Z1m h0
    rintro d35 w10⟨rfl,rfl⟩;have s910:Stp NoS w9 L9 (w9.alloc (Y #[.slice ob b.length kb] 23)) (ext L9 w9.heap.size 6):=Stp.alloc NoS w9 L9 _ 6;have N10:=Blk.new w9 23 #[.slice ob b.length kb];have M910:=Mod.alloc (S:=NoB) w9 (Y #[.slice ob b.length kb] 23);have hby10:=hby9.stp s910 (fun h=>h);have hN10:=hN9.stp s910 (fun h=>h);have hH10:=hH9.stp s910 (fun h=>h);have hO10:=hO9.stp s910 (fun h=>h) (fun h=>h);have hP10:RdA (fun b=>ext L9 w9.heap.size 6 b≠6) _ op' path:=((hP9.mono (A':=fun b=>L9 b≠6\/w9.heap.size<=b) (fun b hb hh=>hh.resolve_right (by omega))).mod' M910).mono (fun b _ hh=>Z2r s910 b hh);have s610:=s69.trans (s910.mono (T:=fun q=>q=5\/q=8) (fun _ h=>h.elim));generalize w9.heap.size=D10 at *
    generalize w9.alloc (Y #[.slice ob b.length kb] 23)=w10 at *
    generalize ext L9 D10 6=L10 at *
    obtain⟨o11,k11,w11,hr11,hO11,s1011⟩:=hO10.push (by decide) N10 hby10 hkb (by omega);have hby11:=hby10.stp s1011 (by decide);have hN11:=hN10.stp s1011 (by decide);have hH11:=hH10.stp s1011 (by decide);have hP11:RdA (fun b=>ext L10 w10.heap.size 8 b≠6) w11 op' path:=((hP10.mono (A':=fun b=>L10 b≠6\/w10.heap.size<=b) (fun b hb hh=>hh.resolve_right (by omega))).modA (frz s1011 (by decide)) (fun b hb=>.inl hb)).mono (fun b _ hh=>Z2r s1011 b hh);have s611:=s610.trans (s1011.mono (T:=fun q=>q=5\/q=8) (fun _ h=>.inr h));generalize ext L10 w10.heap.size 8=L11 at *
    refine⟨_,w11,hr11,_,_,_,rfl,?_⟩;refine(Z3N hby11.rd hkb).mono ?_;rintro e w12⟨M12,hd⟩;unfold Z1c at hd;rw[hdc]at hd;obtain⟨v1,v2,v3,rfl,hx⟩:=hd;obtain⟨bb,p1,q1,r1,p2,q2,r2,rfl,rfl,rfl⟩:=hx.vals;refine⟨_,_,_,_,_,_,_,_,rfl,?_⟩;rintro d52 w13⟨rfl,rfl⟩;have B13:=Blk.new w12 111 #[I J1,.slice G 0 0,.slice G 0 0];refine Z65 B13 rfl rfl rfl (fun w14 B14 Q14=>?_);have M1214:Vcg.Mod NoB w12 w14:=ZC (Mod.alloc w12 _) Q14 (J3 _);have M1114:=M12.none_trans M1214;refine Z6i B14 ?_;have s1114:Stp NoS w11 L11 w14 (ext L11 w11.heap.size 6):=Stp.of_nob M1114 6;have hx14:ItC (fun b=>ext L11 w11.heap.size 6 b≠6) w14 (.l xs) (I bb) (.slice p1 q1 r1) (.slice p2 q2 r2):=ItC.restr (fun b _ hb=>Jc fun hle=>hb (Z0D hle)) (ItC.mod M1214 _ hx);have hN14:=hN11.stp s1114 (fun h=>h);have hH14:=hH11.stp s1114 (fun h=>h);have hO14:=hO11.stp s1114 (fun h=>h) (fun h=>h);have hP14:RdA (fun b=>ext L11 w11.heap.size 6 b≠6) w14 op' path:=((hP11.mono (A':=fun b=>L11 b≠6\/w11.heap.size<=b) (fun b hb hh=>hh.resolve_right (by omega))).mod' M1114).mono (fun b _ hh=>Z2r s1114 b hh);have s614:=s611.trans (s1114.mono (T:=fun q=>q=5\/q=8) (fun _ h=>h.elim));generalize ext L11 w11.heap.size 6=L14 at *
    refine(Z7Y hg hx14 hP14 hpk hnib hpl).mono ?_;rintro e w15⟨M15,ov,kv,orr,kr,on,kn,rfl,hv,hrr,hkr,hnx⟩;refine⟨_,_,_,_,_,_,_,_,_,_,_,_,_,rfl,?_⟩;have s1415:Stp NoS w14 L14 w15 (ext L14 w14.heap.size 6):=Stp.of_nob M15 6;rintro d79 w16⟨rfl,rfl⟩;have B16:=Blk.new w15 111 #[I J1,.slice G 0 0,.slice G 0 0];refine Z65 B16 rfl rfl rfl (fun w17 B17 Q17=>?_);have M1417:Vcg.Mod NoB w14 w17:=M15.none_trans (ZC (Mod.alloc w15 _) Q17 (J3 _));have s1417:Stp NoS w14 L14 w17 (ext L14 w14.heap.size 6):=Stp.of_nob M1417 6;have hN17:=hN14.stp s1417 (fun h=>h);have hH17:=hH14.stp s1417 (fun h=>h);have hO17:=hO14.stp s1417 (fun h=>h) (fun h=>h)
    have keep:∀{o:Option Addr}{b:By},RdA (fun b=>L14 b≠6) w14 o b->RdA (fun b=>ext L14 w14.heap.size 6 b≠6) w17 o b:=fun h =>
     ((h.mono (A':=fun b=>L14 b≠6\/w14.heap.size<=b) (fun b hb hh=>hh.resolve_right (by omega))).mod' M1417).mono (fun b _ hh=>Z2r s1417 b hh)
    have hv17:=keep hv;have hrr17:=keep hrr;have hnx17:=keep hnx;have s617:=s614.trans (s1417.mono (T:=fun q=>q=5\/q=8) (fun _ h=>h.elim))
    have hwd:way (pStep l) out (.s hh) path=Z6R (step:=pStep l) (out++[b]) (downR (path.length+1) (.l xs) path):=by
     rw[Z5C hhn hst h0 hdc hg hnib,<-Z5D hg hnib,Z69 (path.length+1) _ _ _ (Jd _) hg hnib]
    rw[hwd]at heq;have h32:=Z8K (path.length+1) _ _ hg hnib;have hrest:=Z9J (path.length+1) _ _ hg hnib;generalize ext L14 w14.heap.size 6=L17 at *
    generalize downR (path.length+1) (.l xs) path=t at *
    obtain⟨tv,tr,tn⟩:=t;dsimp only at hv17 hrr17 hnx17 h32 hrest hkr B17 ⊢;refine⟨_,B17.rd1 rfl,fun h=>(by cases h),fun _=>⟨_,_,_,by rw[Z2];exact B17.rd1 rfl,fun hz=>?_,fun hnz=>?_⟩⟩
    ·have htn:tn=[]:=J6 (by omega)
     subst htn;have hres:Z6R (step:=pStep l) (out++[b]) (tv,tr,[])=(out++[b],.ok tv):=rfl;rw[hres]at heq;rw[<-heq]at hR
     have hdv:decide (((tv.length:Nat):Int)>0)=decide (tv≠[]):=by
      cases tv with
      |nil=>rfl
      |cons a r=>rw[decide_eq_true (by simp),decide_eq_true (by simp)]
     rw[hdv];exact hR _ _ ⟨modw _ _ s617,ov,kv,_,_,_,rfl,L17,8,0,hO17⟩
    ·have htn:tn≠[]:=by rintro rfl;exact hnz rfl
     have htl:tn.length=32:=h32.resolve_left htn;obtain⟨hrl,hrn⟩:=hrest htn;rintro _ rfl;have s1718:Stp NoS w17 L17 w17.drew L17:=Stp.drew _ _ _;have B18:=B17.drew;have hN18:=hN17.stp s1718 (fun h=>h);have hH18:=hH17.stp s1718 (fun h=>h);have hO18:=hO17.stp s1718 (fun h=>h) (fun h=>h);have hrr18:=hrr17.mod' (Mod.drew (S:=NoB) w17);have hnx18:=hnx17.mod' (Mod.drew (S:=NoB) w17);have s618:=s617.trans (s1718.mono (T:=fun q=>q=5\/q=8) (fun _ h=>h.elim));generalize w17.drew=w18 at *
     obtain⟨w19,h19,H19,Q19⟩:=Z4l (P:=O) (t:=23) (tx:=23) (ty:=3) (dLen:=32) (dCap:=32) (n:=32) (o:=0) (c:=kn) Zn Z10 hH18.blk hnx18.1 (by rw[htl];rfl) (by rw[Z4];omega);rw[Z9E (Z4 _) htl]at H19;refine⟨_,_,_,by rw[Z2];exact B18.rd1 rfl,_,w19,h19,_,rfl,?_⟩;have s1819:Stp (·=5) w18 L17 w19 (ext L17 w18.heap.size 6):=Stp.of_mod Q19 6 (fun q _ e=>by rw[e];exact hH18.clr);have hP19:RdA (fun b=>ext L17 w18.heap.size 6 b≠6) w19 orr tr:=((hrr18.mono (A':=fun b=>L17 b≠6\/w18.heap.size<=b) (fun b hb hh=>hh.resolve_right (by omega))).modA (frz s1819 (by decide)) (fun b hb=>.inl hb)).mono (fun b _ hh=>Z2r s1819 b hh)
     have hafter:Z6R (step:=pStep l) (out++[b]) (tv,tr,tn)=way (pStep l) (out++[b]) (.s tn) tr:=by
      cases tn with
      |nil=>exact(htn rfl).elim
      |cons a r=>rfl
     refine⟨⟨_,out++[b],tn,tr,s618.trans (s1819.mono (fun _ h=>.inl h)),hN18.stp s1819 (by decide),⟨H19,by rw[Z1d hH18.blk.lt];exact hH18.clr⟩,htl,hO18.stp s1819 (by decide) (by decide),hP19,rfl,hkr,hrn,by rw[JZ,JR];omega,by omega,by rw[<-heq,hafter]⟩,by omega⟩
theorem Z5Y{l:List (By×By)}{root key:By}(h1:¬l.length>4096)(h2:¬key.length>64):Z28 l root key=(match way (pStep l) [] (rootIt root) (nibbles key)with
  |(out,.ok _)=>.ok out
  |(_,J2 e)=>J2 e):=by
 unfold Z28;exact(if_neg h1).trans (if_neg h2)
theorem Z9o{w:F}{lab:Nat->Nat}{c:Nat}{l:List (By×By)}{o ok:Option Addr}{k kk:Nat}{root key:By}(h:Z18 w lab c l o l.length)(hlen:l.length<=2^40)(hroot:root.length=32)(hkey:RdB w ok key) :
  JU O Z05.n #[.slice o l.length k,.agg (hashA root),.slice ok key.length kk] w (Z8B l root key w):=by
 refine Z9 fun R hR=>Z05.vc _ _ _ _ _ _ _ _ _ ?_;unfold Z05.Vc;rintro d3 w1⟨rfl,rfl⟩;have M1:=Mod.alloc (S:=NoB) w (Y (hashA root) 27);have X1:=Blk.new w 27 (hashA root);have hN1:Z18 (w.alloc (Y (hashA root) 27)) (ext lab w.heap.size c) c l o l.length:=h.stp (S:=NoS) (Stp.of_nob M1 c) (fun h=>h);generalize ext lab w.heap.size c=lab1 at *
 generalize w.heap.size=D at *
 generalize w.alloc (Y (hashA root) 27)=w1 at *
 refine⟨fun hbig=>hR _ _ ⟨M1,?_⟩,fun hbig=>?_⟩
 ·unfold Z28
  rw[if_pos (by omega)];exact⟨by decide,rfl⟩
 ·refine⟨_,X1.rowAll (Z4 _),?_⟩
  refine(ZCE hN1 hlen hroot (hkey.mod' M1)).mono ?_;rintro e w2⟨M2,hg⟩;have M02:=M1.none_trans M2
  have hpr:∀r,Z28 l root key=r->(∀(e:JY)(w':F),(Vcg.Mod NoB w w'/\match r with
   | J2 er=>er≠0/\e=J (J8 #[.slice G 0 0,.int J0 er])
   | .ok out=>∃o n k,e=J (J8 #[.slice o n k,.int J0 0])/\∃lab' c cb,Z2T w' lab' c cb out o n k)->R e w'):=fun r hr e w' hh=>hR e w' ⟨hh.1,by rw[hr];exact hh.2⟩
  by_cases hk:key.length>64
  ·rw[if_pos hk]at hg
   subst hg;have hp:Z28 l root key=J2 140:=by unfold Z28;rw[if_neg (by omega),if_pos hk]
   exact⟨_,_,_,_,_,_,_,_,rfl,fun h=>absurd h (by decide),fun _=>⟨fun h=>absurd h (by decide),fun _=>⟨fun _=>hpr _ hp _ _ ⟨M02,by decide,rfl⟩,fun h=>absurd h (by decide)⟩⟩⟩
  ·rw[if_neg hk]at hg
   have hp:=Z5Y (root:=root) (l:=l) (key:=key) (by omega) hk;generalize way (pStep l) [] (rootIt root) (nibbles key)=res at hg hp;obtain⟨out,r⟩:=res;cases r with
   |ok v =>
    obtain⟨ov,kv,o',n',k',rfl,hO⟩:=hg;exact⟨_,_,_,_,_,_,_,_,rfl,fun h=>absurd h (by decide),fun _=>⟨fun h=>absurd h (by decide),fun _=>⟨fun h=>(h rfl).elim,fun _=>hpr _ hp _ _ ⟨M02,o',n',k',rfl,hO⟩⟩⟩⟩
   |error er =>
    obtain⟨o',n',k',m,rfl,hm⟩:=hg;rcases hm with⟨rfl,rfl⟩|⟨rfl,rfl⟩
    ·exact⟨_,_,_,_,_,_,_,_,rfl,fun _=>hpr _ hp _ _ ⟨M02,by decide,rfl⟩,fun h=>(h rfl).elim⟩
    ·exact⟨_,_,_,_,_,_,_,_,rfl,fun h=>absurd h (by decide),fun _=>⟨fun _=>hpr _ hp _ _ ⟨M02,by decide,rfl⟩,fun h=>(h rfl).elim⟩⟩
def Z5G(w:F)(lab:Nat->Nat)(c:Nat)(ls:List By)(o:Option Addr):Prop :=
 ∀(j:Nat)(hj:j<ls.length),∃g f ob kb,o=X ⟨g,f,G⟩/\g<w.heap.size/\lab g=c/\w.cell? ⟨g,f+j,G⟩=X (.slice ob ls[j].length kb)/\CBy w lab c ob ls[j]/\ls[j].length<=kb
section
variable{w w':F}{lab lab':Nat->Nat}{c:Nat}{ls:List By}{o:Option Addr}
theorem Z5G.stp{S:Nat->Prop}(h:Z5G w lab c ls o)(s:Stp S w lab w' lab')(hs:¬S c):Z5G w' lab' c ls o:=fun j hj=>by
 obtain⟨g,f,ob,kb,h1,h2,h3,h4,h5,h6⟩:=h j hj;exact⟨g,f,ob,kb,h1,JI h2 s.size,(s.lab g h2).trans h3,(World.cell?_of_block (s.block g h2 (by rw[h3];exact hs))).trans h4,h5.stp s hs,h6⟩
theorem Z5G.re{c':Nat}(h:Z5G w lab c ls o)(hl:∀k,k<w.heap.size->lab k=c->lab' k=c'):Z5G w lab' c' ls o:=fun j hj=>by
 obtain⟨g,f,ob,kb,h1,h2,h3,h4,h5,h6⟩:=h j hj;exact⟨g,f,ob,kb,h1,h2,hl g h2 h3,h4,CBy.re h5 hl,h6⟩
theorem Z2T.read{c cb n k:Nat}(h:Z2T w lab c cb ls o n k)(hl:∀k,k<w.heap.size->lab k=c\/lab k=cb->lab' k=0):Z5G w lab' 0 ls o:=fun j hj=>by
 obtain⟨rfl,vs,h1,h2,h3⟩:=h;obtain⟨ob,kb,e1,e2,e3⟩:=h3 j hj;obtain⟨g,hg,hc⟩:=h1.own.cell e1;have hlt:=h1.own.lt ⟨_,hg,rfl⟩;exact⟨g,0,ob,kb,hg,hlt,hl g hlt (.inl (h1.clr g ⟨_,hg,rfl⟩)),by rw[Jg];exact hc,CBy.re e2 (fun k hk he=>hl k hk (.inr he)),e3⟩
end
def vStep(p:List By)(at_:Nat)(h:By):Nat×Except Int By:=match p[at_]? with
 |none=>(at_,J2 160)
 |some b=>(at_+1,if sumOf b=h then .ok b else J2 163)
def ZFO(p:List By)(o:Option Addr)(k:Nat)(dA dP:Nat)(w:F)(lab:Nat->Nat)(at_:Nat):Prop :=
 CB w lab 7 dA 3 #[.int J0 (at_:Int)]/\CB w lab 1 dP 31 #[.slice o p.length k]/\Z5G w lab 0 p o/\at_<=p.length
theorem ZFO.stp{S:Nat->Prop}{p:List By}{o:Option Addr}{k dA dP at_:Nat}{w w':F}{lab lab':Nat->Nat}(h:ZFO p o k dA dP w lab at_)(s:Stp S w lab w' lab')(h0:¬S 0)(hS1:¬S 1)(h7:¬S 7):ZFO p o k dA dP w' lab' at_:=by
 obtain⟨h1,h2,h3,h4⟩:=h;exact⟨h1.stp s h7,h2.stp s hS1,h3.stp s h0,h4⟩
theorem askV{p:List By}{o:Option Addr}{k dA dP:Nat}(hp:p.length<=2^40)(hb:∀x∈p,x.length<=2^30):ZEo (.func (.func 52) #[] #[J5 (X ⟨dA,0,G⟩),J5 (X ⟨dP,0,G⟩)]) (fun q=>q=7) (ZFO p o k dA dP) (vStep p) (fun _ _=>True) where
 le _ _:=trivial
 s5:=by decide
 s6:=by decide
 stp h s:=h.stp s (by decide) (by decide) (by decide)
 run:=by
  intro w lab at_ h n hI _ hh;refine⟨52,#[],_,rfl,by kernel_rfl,?_⟩;refine Z9 fun R hR=>Z22.vc _ _ _ _ _ ?_;unfold Z22.Vc;rintro d3 w1⟨rfl,rfl⟩;have s1:Stp NoS w lab (w.alloc (Y (hashA h) 27)) (ext lab w.heap.size 9):=Stp.alloc NoS w lab _ 9;have X1:=CB.new w lab 9 27 (hashA h);have I1:=hI.stp s1 (fun h=>h) (fun h=>h) (fun h=>h);generalize w.heap.size=D3 at *
  generalize w.alloc (Y (hashA h) 27)=w1 at *
  generalize ext lab D3 9=lab1 at *
  obtain⟨bA,bP,hL,hat⟩:=id I1;refine⟨fun w'=>w'=w1/\at_<p.length,⟨_,bA.blk.rd1 rfl,_,_,_,bP.blk.rd1 rfl,fun heq=>?_,fun hne=>⟨rfl,by omega⟩⟩,?_⟩
  ·have hn:p[at_]?=G:=JS (by omega)
   have hst:vStep p at_ h=(at_,J2 160):=by unfold vStep;rw[hn]
   rw[hst]at hR;refine(Z1p w1 160).mono ?_;rintro e w2⟨rfl,he⟩;rw[if_neg (by decide)]at he;subst he;refine .inl ⟨_,rfl,hR _ _ ⟨lab1,s1.mono (fun _ h=>h.elim),I1,trivial,fun er her=>?_,fun b hb=>by cases hb⟩⟩;cases her;exact⟨rfl,by decide⟩
  ·rintro _ w2⟨rfl,hlt⟩
   obtain⟨g,f,ob,kb,rfl,hg,hlg,hcell,hby,hkb⟩:=hL at_ hlt;have ew:Jb J0 ((at_:Int)+1)=((at_+1:Nat):Int):=by rw[Z0 (by omega) (by omega)];omega
   have hsm:p[at_]?=X p[at_]:=JC hlt;have hbl:=hb _ (JP hlt);refine⟨_,_,_,bP.blk.rd1 rfl,_,bA.blk.rd1 rfl,_,rfl,⟨by omega,by omega⟩,_,_,_,by rw[Z2,J9];exact hcell,_,bA.blk.rd1 rfl,bA.blk.canSet (by simp) rfl,?_⟩;rintro _ rfl;rw[ew];have s2:Stp (·=7) w2 lab1 (w2.setCell ⟨dA,0,G⟩ (.int J0 ((at_+1:Nat):Int))) lab1:=Stp.setCell bA.clr;have bA2:=bA.set 0 (.int J0 ((at_+1:Nat):Int));have bP2:=bP.stp s2 (by decide);have hL2:=hL.stp s2 (by decide);have hby2:=hby.stp s2 (by decide);have X2:=X1.stp s2 (by decide);generalize w2.setCell ⟨dA,0,G⟩ (.int J0 ((at_+1:Nat):Int))=w3 at *
   rintro _ rfl;have s3:Stp NoS w3 lab1 w3.drew lab1:=Stp.drew _ _ _;have bA3:=bA2.stp s3 (fun h=>h);have bP3:=bP2.stp s3 (fun h=>h);have hL3:=hL2.stp s3 (fun h=>h);have hby3:=hby2.stp s3 (fun h=>h);have X3:=X2.stp s3 (fun h=>h);generalize w3.drew=w4 at *
   refine⟨_,X3.blk.rowAll (Z4 _),?_⟩;rintro d25 w5⟨rfl,rfl⟩;have s4:Stp NoS w4 lab1 (w4.alloc (Y #[.slice ob p[at_].length kb] 23)) (ext lab1 w4.heap.size 9):=Stp.alloc NoS w4 lab1 _ 9;have N5:=Blk.new w4 23 #[.slice ob p[at_].length kb];have bA5:=bA3.stp s4 (fun h=>h);have bP5:=bP3.stp s4 (fun h=>h);have hL5:=hL3.stp s4 (fun h=>h);have hby5:=hby3.stp s4 (fun h=>h);have X5:=X3.stp s4 (fun h=>h);have s05:Stp (fun q=>q=7) w lab _ _:=(((s1.mono (T:=fun q=>q=7) (fun _ h=>h.elim)).trans s2).trans (s3.mono (fun _ h=>h.elim))).trans (s4.mono (fun _ h=>h.elim));generalize w4.heap.size=D5 at *
   generalize w4.alloc (Y #[.slice ob p[at_].length kb] 23)=w5 at *
   generalize ext lab1 D5 9=lab5 at *
   refine⟨X5.blk.rowAll (Z4 _),?_⟩;refine(Z8y [p[at_]] rfl (by simp) (ZEP.one N5 hby5.rd) (by simp;omega)).mono ?_;rintro _ w6⟨rfl,M6⟩;have s6:Stp NoS w5 lab5 w6 (ext lab5 w5.heap.size 9):=Stp.of_nob M6 9;have bA6:=bA5.stp s6 (fun h=>h);have bP6:=bP5.stp s6 (fun h=>h);have hL6:=hL5.stp s6 (fun h=>h);have hby6:=hby5.stp s6 (fun h=>h);have X6:=X5.stp s6 (fun h=>h);have s06:=s05.trans (s6.mono (T:=fun q=>q=7) (fun _ h=>h.elim));generalize ext lab5 w5.heap.size 9=lab6 at *
   have e2:[p[at_]].flatten=p[at_]:=by simp
   rw[e2];have I6:ZFO p (X ⟨g,f,G⟩) k dA dP w6 lab6 (at_+1):=⟨bA6,bP6,hL6,hlt⟩;refine .inr ⟨_,rfl,X6.blk.rowAll (Z4 _),_,ZAV _ _ (ZN _) hh,_,rfl,fun hb'=>?_,fun hb'=>?_⟩
   ·rw[decide_eq_true_eq]at hb'
    have hst:vStep p at_ h=(at_+1,J2 163):=by unfold vStep;rw[hsm];simp only;rw[if_neg hb']
    rw[hst]at hR;refine(Z1p w6 163).mono ?_;rintro e w7⟨rfl,he⟩;rw[if_neg (by decide)]at he;subst he;refine .inl ⟨_,rfl,hR _ _ ⟨lab6,s06,I6,trivial,fun er her=>?_,fun b hb=>by cases hb⟩⟩;cases her;exact⟨rfl,by decide⟩
   ·rw[decide_eq_false_iff_not,ne_eq,Decidable.not_not]at hb'
    have hst:vStep p at_ h=(at_+1,.ok p[at_]):=by unfold vStep;rw[hsm];simp only;rw[if_pos hb']
    rw[hst]at hR;refine hR _ _ ⟨lab6,s06,I6,trivial,fun er her=>(by cases her),fun b hb=>?_⟩;cases hb;exact⟨ob,kb,rfl,hby6.rd,hkb⟩
def verifyR(p:List By)(root key:By):Except Int By :=
 if p.length>256 then J2 162 else if key.length>64 then J2 140 else
 match way (vStep p) 0 (rootIt root) (nibbles key)with
 |(at_,.ok v)=>if at_<p.length then J2 162 else .ok v
 |(_,J2 e)=>J2 e
def Z43(p:List By)(root key:By)(w:F)(e:JY)(w':F):Prop :=
 Vcg.Mod NoB w w'/\match verifyR p root key with
  | J2 er=>er≠0/\e=J (J8 #[.slice G 0 0,I J1,.int J0 er])
  | .ok v=>∃o k,e=J (J8 #[.slice o v.length k,I (decide (v≠[])),.int J0 0])/\RdB w' o v
theorem Z9y{R:JY->F->Prop}{rt:F->Prop}{dE dV dB:Nat}{n n0:Int}{o:Option Addr}{l k:Nat}{b:Bool}{w:F}(hn:n≠0)(h1:dE≠dV)(h2:dE≠dB)(h3:dV≠dB)(E:Blk w dE 40 #[.int J0 n0])(V:Blk w dV 23 #[.slice o l k])(B:Blk w dB 4 #[I b])
  (K:∀w',Blk w' dE 40 #[.int J0 n]->Blk w' dV 23 #[.slice G 0 0]->Blk w' dB 4 #[I J1]->Vcg.Mod (fun b=>b=dE\/b=dV\/b=dB) w w'->rt w') :
  Z4B O rt R [(32,#[J5 (X ⟨dE,0,G⟩)]),(51,#[J5 (X ⟨dE,0,G⟩),J5 (X ⟨dV,0,G⟩),J5 (X ⟨dB,0,G⟩)])] (.panicking (Z3k n)) w:=by
 refine⟨fun h=>(by cases h),(Z5h E).mono ?_⟩;rintro _ _ w1⟨rfl,rfl,E1,M1⟩;have V1:=V.mod M1 (fun h=>h1 h.symm);have B1:=B.mod M1 (fun h=>h2 h.symm);refine⟨fun h=>(by cases h),?_⟩;refine(Z0g.vcd .returning _ _ _ w1 (fun e w'=>e=J (J8 #[])/\Blk w' dE 40 #[.int J0 n]/\Blk w' dV 23 #[.slice G 0 0]/\Blk w' dB 4 #[I J1]/\Vcg.Mod (fun b=>b=dV\/b=dB) w1 w') ?_).mono ?_
 ·unfold Z0g.Vc
  refine⟨n,E1.rd1 rfl,fun _=>⟨V1.canSet (by simp) rfl,?_⟩,fun h=>(hn h).elim⟩;rintro _ rfl;have V2:=V1.set 0 (.slice G 0 0);have B2:=B1.set_ne (a:=⟨dV,0,G⟩) (v:=.slice G 0 0) (fun e=>h3 e.symm);have E2:=E1.set_ne (a:=⟨dV,0,G⟩) (v:=.slice G 0 0) h1;refine⟨B2.canSet (by simp) rfl,?_⟩;rintro _ rfl;exact⟨rfl,E2.set_ne h2,V2.set_ne h3,B2.set 0 _,((Mod.setCell w1 ⟨dV,0,G⟩ _).mono (fun _ _ h=>.inl h)).trans (Mod.setCell _ ⟨dB,0,G⟩ _) (fun _ _ h=>.inr h)⟩
 ·rintro _ _ w2⟨rfl,rfl,E2,V2,B2,M2⟩
  exact K w2 E2 V2 B2 ((M1.mono (fun _ _ h=>.inl h)).trans M2 (fun _ _ h=>.inr h))
theorem ZAy{R:JY->F->Prop}{rt:F->Prop}{dE dV dB:Nat}{w:F}(E:Blk w dE 40 #[.int J0 0])(K:rt w) :
  Z4B O rt R [(32,#[J5 (X ⟨dE,0,G⟩)]),(51,#[J5 (X ⟨dE,0,G⟩),J5 (X ⟨dV,0,G⟩),J5 (X ⟨dB,0,G⟩)])] .returning w:=by
 refine⟨fun h=>(by cases h),Z6W.mono ?_⟩;rintro _ _ w1⟨rfl,rfl,rfl⟩;refine⟨fun h=>(by cases h),?_⟩;refine(Z0g.vcd .returning _ _ _ w1 (fun e w'=>e=J (J8 #[])/\w'=w1) ?_).mono ?_
 ·unfold Z0g.Vc
  exact⟨0,E.rd1 rfl,fun h=>(h rfl).elim,fun _=>⟨rfl,rfl⟩⟩
 ·rintro _ _ w2⟨rfl,rfl,rfl⟩
  exact K
def ZCx(N:Nat):Nat->Nat:=fun k=>if k=N+5 then 7 else if N<=k then 1 else 0
theorem ZBR{N k:Nat}(h:k<N):ZCx N k=0:=by unfold ZCx;rw[if_neg (by omega),if_neg (by omega)]
theorem ZBQ{N k:Nat}(h:N<=k)(h5:k≠N+5):ZCx N k=1:=by unfold ZCx;rw[if_neg h5,if_pos h]
theorem ZFl{N:Nat}:ZCx N (N+5)=7:=if_pos rfl
theorem Z4e{p:List By}{root key:By}(h1:¬p.length>256)(h2:¬key.length>64):verifyR p root key=(match way (vStep p) 0 (rootIt root) (nibbles key)with
  |(at_,.ok v)=>if at_<p.length then J2 162 else .ok v
  |(_,J2 e)=>J2 e):=by
 unfold verifyR;exact(if_neg h1).trans (if_neg h2)
theorem Z3a{w:F}{lab:Nat->Nat}{c:Nat}{p:List By}{o ok:Option Addr}{k kk:Nat}{root key:By}(h:Z5G w lab c p o)(hlen:p.length<=2^40)(hb:∀x∈p,x.length<=2^30)(hroot:root.length=32)(hkey:RdB w ok key) :
  JU O Z14.n #[.agg (hashA root),.slice ok key.length kk,.slice o p.length k] w (Z43 p root key w):=by
 refine Z9 fun R hR=>Z14.vc _ _ _ _ _ _ _ _ _ ?_;unfold Z14.Vc;have hL:Z5G w (ZCx w.heap.size) 0 p o:=h.re (fun k hk _=>ZBR hk);rintro d3 w1⟨rfl,rfl⟩;have M1:=Mod.alloc (S:=NoB) w (Y (hashA root) 27);have X1:=Blk.new w 27 (hashA root);have z1:=Z6 w (Y (hashA root) 27);generalize hNe:w.heap.size=N at *
 generalize w.alloc (Y (hashA root) 27)=w1 at *
 rintro d5 w2⟨rfl,rfl⟩;have M12:=Mod.alloc (S:=NoB) w1 (Y #[.slice o p.length k] 31);have P2:=Blk.new w1 31 #[.slice o p.length k];have z2:=Z6 w1 (Y #[.slice o p.length k] 31);have X2:=X1.mod' M12;have M2:=M1.none_trans M12;rw[z1]at P2 z2 ⊢;generalize w1.alloc (Y #[.slice o p.length k] 31)=w2 at *
 rintro d7 w3⟨rfl,rfl⟩;have M23:=Mod.alloc (S:=NoB) w2 (Y #[.slice G 0 0] 23);have V3:=Blk.new w2 23 #[.slice G 0 0];have z3:=Z6 w2 (Y #[.slice G 0 0] 23);have X3:=X2.mod' M23;have P3:=P2.mod' M23;have M3:=M2.none_trans M23;rw[z2]at V3 z3 ⊢;generalize w2.alloc (Y #[.slice G 0 0] 23)=w3 at *
 rintro d9 w4⟨rfl,rfl⟩;have M34:=Mod.alloc (S:=NoB) w3 (Y #[I J1] 4);have B4:=Blk.new w3 4 #[I J1];have z4:=Z6 w3 (Y #[I J1] 4);have X4:=X3.mod' M34;have P4:=P3.mod' M34;have V4:=V3.mod' M34;have M4:=M3.none_trans M34;rw[z3]at B4 z4 ⊢;generalize w3.alloc (Y #[I J1] 4)=w4 at *
 rintro d11 w5⟨rfl,rfl⟩;have M45:=Mod.alloc (S:=NoB) w4 (Y #[.int J0 0] 40);have E5:=Blk.new w4 40 #[.int J0 0];have z5:=Z6 w4 (Y #[.int J0 0] 40);have X5:=X4.mod' M45;have P5:=P4.mod' M45;have V5:=V4.mod' M45;have B5:=B4.mod' M45;have M5:=M4.none_trans M45;rw[z4]at E5 z5 ⊢;generalize w4.alloc (Y #[.int J0 0] 40)=w5 at *
 clear X1 X2 X3 X4 P2 P3 P4 V3 V4 B4 M1 M12 M2 M23 M3 M34 M4 M45 z1 z2 z3 z4;simp only[show N+1+1=N+2 from rfl,show N+2+1=N+3 from rfl,show N+3+1=N+4 from rfl,show N+4+1=N+5 from rfl]at *
 have ret3:∀(wa:F)(er:Int),er≠0->verifyR p root key=J2 er->Blk wa (N+2) 23 #[.slice G 0 0]->Blk wa (N+3) 4 #[I J1]->Blk wa (N+4) 40 #[.int J0 0]->Vcg.Mod NoB w wa ->
   Z1 wa ⟨N+2,0,G⟩ (.slice G 0 0)/\∀w16:F,Z3 wa ⟨N+2,0,G⟩ (.slice G 0 0) w16 ->
   Z1 w16 ⟨N+3,0,G⟩ (I J1)/\∀w17:F,Z3 w16 ⟨N+3,0,G⟩ (I J1) w17 ->
   Z1 w17 ⟨N+4,0,G⟩ (.int J0 er)/\∀w18:F,Z3 w17 ⟨N+4,0,G⟩ (.int J0 er) w18 ->
   ∃o19:Option Addr,∃l20:Nat,∃l21:Nat,JA w18 ⟨N+2,0,G⟩=X (.slice o19 l20 l21) /\
   ∃b22:Bool,JA w18 ⟨N+3,0,G⟩=X (I b22) /\
   ∃n23:Int,JA w18 ⟨N+4,0,G⟩=X (.int J0 n23)/\R (J (J8 #[(.slice o19 l20 l21),(I b22),(.int J0 n23)])) w18:=by
  intro wa er her hv Va Ba Ea Ma;refine⟨Va.canSet (by simp) rfl,?_⟩;rintro _ rfl;have Vb:=Va.set 0 (.slice G 0 0);have Bb:=Ba.set_ne (a:=⟨N+2,0,G⟩) (v:=.slice G 0 0) (by show N+3≠N+2;omega);have Eb:=Ea.set_ne (a:=⟨N+2,0,G⟩) (v:=.slice G 0 0) (by show N+4≠N+2;omega);have Mb:Vcg.Mod NoB w _:=ZC Ma (Mod.setCell wa ⟨N+2,0,G⟩ (.slice G 0 0)) (by show w.heap.size<=N+2;omega);refine⟨Bb.canSet (by simp) rfl,?_⟩;rintro _ rfl;have Vc:=Vb.set_ne (a:=⟨N+3,0,G⟩) (v:=I J1) (by show N+2≠N+3;omega);have Bc:=Bb.set 0 (I J1);have Ec:=Eb.set_ne (a:=⟨N+3,0,G⟩) (v:=I J1) (by show N+4≠N+3;omega);have Mc:Vcg.Mod NoB w _:=ZC Mb (Mod.setCell _ ⟨N+3,0,G⟩ (I J1)) (by show w.heap.size<=N+3;omega);refine⟨Ec.canSet (by simp) rfl,?_⟩;rintro _ rfl;have Vd:=Vc.set_ne (a:=⟨N+4,0,G⟩) (v:=.int J0 er) (by show N+2≠N+4;omega);have Bd:=Bc.set_ne (a:=⟨N+4,0,G⟩) (v:=.int J0 er) (by show N+3≠N+4;omega);have Ed:=Ec.set 0 (.int J0 er);refine⟨_,_,_,Vd.rd1 rfl,_,Bd.rd1 rfl,_,Ed.rd1 rfl,hR _ _ ⟨ZC Mc (Mod.setCell _ ⟨N+4,0,G⟩ (.int J0 er)) (by show w.heap.size<=N+4;omega),?_⟩⟩;rw[hv];exact⟨her,rfl⟩
 refine⟨_,_,_,P5.rd1 rfl,fun hbig=>?_,fun hbig=>⟨fun hk=>?_,fun hk=>?_⟩⟩
 ·exact ret3 w5 162 (by decide) (by unfold verifyR;rw[if_pos (by omega)]) V5 B5 E5 M5
 ·exact ret3 w5 140 (by decide) (by unfold verifyR;rw[if_neg (by omega),if_pos (by omega)]) V5 B5 E5 M5
 ·rintro d32 w6⟨rfl,rfl⟩
  have M56:=Mod.alloc (S:=NoB) w5 (Y #[.int J0 0] 3);have A6:=Blk.new w5 3 #[.int J0 0];have z6:=Z6 w5 (Y #[.int J0 0] 3);have X6:=X5.mod' M56;have P6:=P5.mod' M56;have V6:=V5.mod' M56;have B6:=B5.mod' M56;have E6:=E5.mod' M56;have M6:=M5.none_trans M56;rw[z5]at A6 z6 ⊢;generalize w5.alloc (Y #[.int J0 0] 3)=w6 at *
  refine⟨A6.canSet (by simp) rfl,?_⟩;rintro _ rfl;have A7:Blk (w6.setCell ⟨N+5,0,G⟩ (.int J0 0)) (N+5) 3 #[.int J0 0]:=A6.set 0 (.int J0 0);have Q7:Vcg.Mod (·=N+5) w6 _:=Mod.setCell w6 ⟨N+5,0,G⟩ (.int J0 0);have X7:=X6.mod Q7 (by omega);have P7:=P6.mod Q7 (by omega);have V7:=V6.mod Q7 (by omega);have B7:=B6.mod Q7 (by omega);have E7:=E6.mod Q7 (by omega);have M7:Vcg.Mod NoB w _:=ZC M6 Q7 (by omega);generalize w6.setCell ⟨N+5,0,G⟩ (.int J0 0)=w7 at *
  have s7:Stp NoS w (ZCx N) w7 (ZCx N):=⟨M7.os,M7.tape,M7.output,M7.size,fun _ _=>rfl,fun q hq _=>M7.block q hq (fun h=>h)⟩;have I7:ZFO p o k (N+5) (N+1) w7 (ZCx N) 0:=⟨⟨A7,ZFl⟩,⟨P7,ZBQ (by omega) (by omega)⟩,hL.stp s7 (fun h=>h),JD _⟩;have hlab:∀b,ZCx N b=5\/ZCx N b=7->N<=b:=fun b hb=>JO fun hlt=>by rw[ZBR hlt]at hb;omega
  refine⟨_,X7.rowAll (Z4 _),?_⟩;refine(ZA0 (askV (o:=o) (k:=k) (dA:=N+5) (dP:=N+1) hlen hb) I7 trivial hroot (hkey.mod' M7) (by omega)).mono ?_;rintro e w8⟨lab8,s78,I8,hw⟩;have V8:=(CB.mk V7 (ZBQ (N:=N) (by omega) (by omega))).stp s78 (by decide);have B8:=(CB.mk B7 (ZBQ (N:=N) (by omega) (by omega))).stp s78 (by decide);have E8:=(CB.mk E7 (ZBQ (N:=N) (by omega) (by omega))).stp s78 (by decide);have M78:Vcg.Mod (fun b=>N<=b) w7 w8:=s78.mod (fun q hq hs=>hlab q hs);have M8:Vcg.Mod NoB w w8:=M7.trans M78 (fun i hi h=>by omega);have hvr:=Z4e (root:=root) (p:=p) (key:=key) (by omega) (by omega);obtain⟨A8,P8,_,hat⟩:=I8;generalize way (vStep p) 0 (rootIt root) (nibbles key)=res at hw hvr A8 hat;obtain⟨at_,r⟩:=res;dsimp only at A8 hat hvr
  have bad:∀(wa:F)(er:Int)(oV:Option Addr)(lV kV:Nat)(bB:Bool),er≠0->verifyR p root key=J2 er->Blk wa (N+2) 23 #[.slice oV lV kV]->Blk wa (N+3) 4 #[I bB]->Blk wa (N+4) 40 #[.int J0 0]->Vcg.Mod NoB w wa ->
    Z4B O (fun w38 =>
     ∃o39:Option Addr,∃l40:Nat,∃l41:Nat,JA w38 ⟨N+2,0,G⟩=X (.slice o39 l40 l41) /\
     ∃b42:Bool,JA w38 ⟨N+3,0,G⟩=X (I b42) /\
     ∃n43:Int,JA w38 ⟨N+4,0,G⟩=X (.int J0 n43) /\
     R (J (J8 #[(.slice o39 l40 l41),(I b42),(.int J0 n43)])) w38) R [(32,#[(J5 (X ⟨N+4,0,G⟩))]),(51,#[(J5 (X ⟨N+4,0,G⟩)),(J5 (X ⟨N+2,0,G⟩)),(J5 (X ⟨N+3,0,G⟩))])] (.panicking (Z3k er)) wa:=by
   intro wa er oV lV kV bB her hv Va Ba Ea Ma;refine Z9y her (by omega) (by omega) (by omega) Ea Va Ba (fun w' E' V' B' M'=>?_);refine⟨_,_,_,V'.rd1 rfl,_,B'.rd1 rfl,_,E'.rd1 rfl,hR _ _ ⟨Ma.trans M' (fun i hi h=>by omega),?_⟩⟩;rw[hv];exact⟨her,rfl⟩
  cases r with
  |error er =>
   obtain⟨rfl,hne⟩:=hw;exact .inl ⟨_,rfl,bad w8 er _ _ _ _ hne hvr V8.blk B8.blk E8.blk M8⟩
  |ok v =>
   obtain⟨ov,kv,rfl,hv⟩:=hw;refine .inr ⟨_,_,_,_,rfl,V8.blk.canSet (by simp) rfl,?_⟩;rintro _ rfl;have V9:=V8.blk.set 0 (.slice ov v.length kv);have Q9:Vcg.Mod (·=N+2) w8 _:=Mod.setCell w8 ⟨N+2,0,G⟩ (.slice ov v.length kv);have s89:Stp (·=1) w8 lab8 _ lab8:=Stp.setCell (a:=⟨N+2,0,G⟩) (v:=.slice ov v.length kv) V8.clr;have B9:=B8.blk.mod Q9 (by omega);have E9:=E8.blk.mod Q9 (by omega);have A9:=A8.blk.mod Q9 (by omega);have P9:=P8.blk.mod Q9 (by omega);have hv9:=hv.stp s89 (by decide);have M9:Vcg.Mod NoB w _:=ZC M8 Q9 (by omega);generalize w8.setCell ⟨N+2,0,G⟩ (.slice ov v.length kv)=w9 at *
   refine⟨B9.canSet (by simp) rfl,?_⟩;rintro _ rfl;have B10:=B9.set 0 (I (decide (v≠[])));have Q10:Vcg.Mod (·=N+3) w9 _:=Mod.setCell w9 ⟨N+3,0,G⟩ (I (decide (v≠[])));have s910:Stp (·=1) w9 lab8 _ lab8:=Stp.setCell (a:=⟨N+3,0,G⟩) (v:=I (decide (v≠[]))) B8.clr;have V10:=V9.mod Q10 (by omega);have E10:=E9.mod Q10 (by omega);have A10:=A9.mod Q10 (by omega);have P10:=P9.mod Q10 (by omega);have hv10:=hv9.stp s910 (by decide);have M10:Vcg.Mod NoB w _:=ZC M9 Q10 (by omega);generalize w9.setCell ⟨N+3,0,G⟩ (I (decide (v≠[])))=w10 at *
   refine⟨_,A10.rd1 rfl,_,_,_,P10.rd1 rfl,fun hlt=>?_,fun hge=>?_⟩
   ·simp only at hvr
    rw[if_pos (by omega)]at hvr;refine(Z1p w10 162).mono ?_;rintro e w11⟨rfl,he⟩;rw[if_neg (by decide)]at he;subst he;exact .inl ⟨_,rfl,bad _ 162 _ _ _ _ (by decide) hvr V10 B10 E10 M10⟩
   ·simp only at hvr
    rw[if_neg (by omega)]at hvr;rintro _ rfl;have s11:Stp NoS w10 lab8 w10.drew lab8:=Stp.drew _ _ _;have V11:=V10.drew;have B11:=B10.drew;have E11:=E10.drew;have hv11:=hv10.stp s11 (fun h=>h);have M11:=M10.step_drew;generalize w10.drew=w11 at *
    refine⟨_,_,_,V11.rd1 rfl,_,B11.rd1 rfl,V11.canSet (by simp) rfl,?_⟩;rintro _ rfl;have V12:=V11.set 0 (.slice ov v.length kv);have Q12:Vcg.Mod (·=N+2) w11 _:=Mod.setCell w11 ⟨N+2,0,G⟩ (.slice ov v.length kv);have s12:Stp (·=1) w11 lab8 _ lab8:=Stp.setCell (a:=⟨N+2,0,G⟩) (v:=.slice ov v.length kv) V8.clr;have B12:=B11.mod Q12 (by omega);have E12:=E11.mod Q12 (by omega);have hv12:=hv11.stp s12 (by decide);have M12:Vcg.Mod NoB w _:=ZC M11 Q12 (by omega);generalize w11.setCell ⟨N+2,0,G⟩ (.slice ov v.length kv)=w12 at *
    refine⟨B12.rd1 rfl,B12.canSet (by simp) rfl,?_⟩;rintro _ rfl;have B13:=B12.set 0 (I (decide (v≠[])));have Q13:Vcg.Mod (·=N+3) w12 _:=Mod.setCell w12 ⟨N+3,0,G⟩ (I (decide (v≠[])));have s13:Stp (·=1) w12 lab8 _ lab8:=Stp.setCell (a:=⟨N+3,0,G⟩) (v:=I (decide (v≠[]))) B8.clr;have V13:=V12.mod Q13 (by omega);have E13:=E12.mod Q13 (by omega);have hv13:=hv12.stp s13 (by decide);have M13:Vcg.Mod NoB w _:=ZC M12 Q13 (by omega);generalize w12.setCell ⟨N+3,0,G⟩ (I (decide (v≠[])))=w13 at *
    refine⟨E13.canSet (by simp) rfl,?_⟩;rintro _ rfl;have E14:=E13.set 0 (.int J0 0);have Q14:Vcg.Mod (·=N+4) w13 _:=Mod.setCell w13 ⟨N+4,0,G⟩ (.int J0 0);have s14:Stp (·=1) w13 lab8 _ lab8:=Stp.setCell (a:=⟨N+4,0,G⟩) (v:=.int J0 0) E8.clr;have V14:=V13.mod Q14 (by omega);have B14:=B13.mod Q14 (by omega);have hv14:=hv13.stp s14 (by decide);refine ZAy E14 ⟨_,_,_,V14.rd1 rfl,_,B14.rd1 rfl,_,E14.rd1 rfl,hR _ _ ⟨ZC M13 Q14 (by omega),?_⟩⟩;rw[hvr];exact⟨ov,kv,rfl,hv14.rd⟩
theorem RdA.keep{w w':F}{L L':Nat->Nat}{S:Nat->Prop}{o:Option Addr}{b:By}(h:RdA (fun b=>L b≠6) w o b)(s:Stp S w L w' L')(h6:¬S 6):RdA (fun b=>L' b≠6) w' o b :=
 ((h.mono (A':=fun b=>L b≠6\/w.heap.size<=b) (fun b hb hh=>hh.resolve_right (by omega))).modA (frz s h6) (fun b hb=>.inl hb)).mono (fun b _ hh=>Z2r s b hh)
theorem Z8a{w:F}{lab:Nat->Nat}{c:Nat}{p:List By}{o ok:Option Addr}{k kk:Nat}{root key:By}(h:Z5G w lab c p o)(hlen:p.length<=2^40)(hbs:∀x∈p,x.length<=2^30)(hroot:root.length=32)(hkey:RdB w ok key) :
  JU O Zs.n #[.agg (hashA root),.slice ok key.length kk,.slice o p.length k] w (Z43 p root key w):=by
 refine Z9 fun R hR=>Zs.vc _ _ _ _ _ _ _ _ _ ?_;unfold Zs.Vc;have bad:∀(wa:F)(er:Int),Vcg.Mod NoB w wa->er≠0->verifyR p root key=J2 er->R (J (J8 #[.slice G 0 0,I J1,.int J0 er])) wa:=fun wa er M her hv=>hR _ _ ⟨M,by rw[hv];exact⟨her,rfl⟩⟩;rintro d3 w1⟨rfl,rfl⟩;have M1:=Mod.alloc (S:=NoB) w (Y (hashA root) 27);have X1:=Blk.new w 27 (hashA root);generalize w.heap.size=D at *
 generalize w.alloc (Y (hashA root) 27)=w1 at *
 refine⟨fun hbig=>bad _ _ M1 (by decide) (by unfold verifyR;rw[if_pos (by omega)]),fun hbig=>⟨fun hk=>bad _ _ M1 (by decide) (by unfold verifyR;rw[if_neg (by omega),if_pos (by omega)]),fun hk=>?_⟩⟩;have hvr:=Z4e (root:=root) (p:=p) (key:=key) (by omega) (by omega);rintro _ rfl;have X2:=X1.drew;have M2:=M1.step_drew;refine⟨_,X2.rowAll (Z4 _),?_⟩;refine(Z3r w1.drew).mono ?_;rintro _ w3⟨rfl,M3⟩;have X3:=X2.mod' M3;have M03:=M2.none_trans M3;clear X2 M2 M3 X1 M1;refine⟨_,rfl,X3.rowAll (Z4 _),_,Z8O _ _ hroot (by unfold emptyH;exact ZN _),_,rfl,fun he=>?_,fun he=>?_⟩
 ·rw[decide_eq_true_eq]at he
  have hw:way (vStep p) 0 (rootIt root) (nibbles key)=(0,.ok []):=by unfold rootIt;rw[if_pos he,Z7E]
  rw[hw]at hvr;simp only at hvr;refine⟨fun hp=>?_,fun hp=>?_⟩
  ·rw[if_pos (by omega)]at hvr
   exact bad _ _ M03 (by decide) hvr
  ·rw[if_neg (by omega)]at hvr
   exact hR _ _ ⟨M03,by rw[hvr];exact⟨G,0,rfl,fun h=>(h rfl).elim⟩⟩
 ·rw[decide_eq_false_iff_not]at he
  have hrt:rootIt root=.s root:=by unfold rootIt;rw[if_neg he]
  refine(Z23 (hkey.mod' M03) (by omega)).mono ?_;rintro _ w4⟨op,kp,rfl,F4⟩;have X4:=X3.mod' F4.mod;have M04:=M03.none_trans F4.mod;refine⟨_,_,_,rfl,_,X4.rowAll (Z4 _),?_⟩;have hnl:=ZG key;have hpc:=F4.own.cap.1;rintro d18 w5⟨rfl,rfl⟩;have M5:=Mod.alloc (S:=NoB) w4 (Y (C 32 (.int Je 0)) 27);have H5:=Blk.new w4 27 (C 32 (.int Je 0));obtain⟨hst,H6,Q6⟩:=Z0k H5 (by simp) root;refine⟨_,hst,?_⟩;have M46:Vcg.Mod NoB w4 _:=ZC M5 Q6 (J3 _);have hHlt:=H6.lt;generalize hHe:w4.heap.size=H at *
  generalize((w4.alloc (Y (C 32 (.int Je 0)) 27)).setRow H (hashA root))=w6 at *
  have M06:=M04.none_trans M46;have P6:=(F4.mod' M46)
  let lab6:Nat->Nat:=fun q=>if q<w.heap.size then 0 else if q=H then 5 else 6
  have hHw:w.heap.size<=H:=by rw[<-hHe];exact M04.size
  have s06:Stp NoS w (fun _=>0) w6 lab6:=⟨M06.os,M06.tape,M06.output,M06.size,fun q hq=>if_pos hq,fun q hq _=>M06.block q hq (fun h=>h)⟩;have hN6:Z5G w6 lab6 0 p o:=(Z5G.re (lab':=fun _=>0) (c':=0) h (fun _ _ _=>rfl)).stp s06 (fun h=>h);have hH6:CB w6 lab6 5 H tHash (hashA root):=⟨H6,by show(if H<w.heap.size then 0 else if H=H then 5 else 6)=5;rw[if_neg (by omega),if_pos rfl]⟩
  have hP6:RdA (fun b=>lab6 b≠6) w6 op (nibbles key):=⟨P6.own.bytes,fun _ d hd hh=>by
   have h1:=F4.new d.block ⟨d,hd,rfl⟩;have h2:=F4.own.lt ⟨d,hd,rfl⟩;have h3:=M03.size;refine hh ?_;show(if d.block<w.heap.size then 0 else if d.block=H then 5 else 6)=6;rw[if_neg (by omega),if_neg (by omega)]⟩
  have hlab:∀q,lab6 q=5->w.heap.size<=q:=fun q hq=>by
   refine JO fun hlt=>?_;have h0:lab6 q=0:=if_pos hlt;omega
  clear_value lab6
  refine⟨fun op' l' kp' i w'=>∃(L:Nat->Nat)(at_:Nat)(hh path:By),i=(at_:Int)/\at_<=p.length/\Stp (·=5) w6 lab6 w' L/\Z5G w' L 0 p o/\CB w' L 5 H tHash (hashA hh)/\hh.length=32/\RdA (fun b=>L b≠6) w' op' path/\l'=path.length/\path.length<=kp'/\(∀n∈path,n.toNat<16)/\path.length<=128 /\
   way (vStep p) at_ (.s hh) path=way (vStep p) 0 (rootIt root) (nibbles key),fun _ _ _ i _=>((p.length:Int)-i).toNat,⟨lab6,0,root,nibbles key,rfl,JD _,Stp.refl _ _ _,hN6,hH6,hroot,hP6,rfl,hpc,nib_lt key,by omega,by rw[hrt]⟩,?_⟩
  clear hN6 hH6 hP6 P6 s06 hst H6 Q6 H5 M5 X4 F4 X3 hpc;rintro op' _ kp' _ _ w7⟨L,at_,hh,path,rfl,hat,s67,hN7,hH7,hh32,hP7,rfl,hpk,hnib,hpl,heq⟩;have modw:∀w' L',Stp (·=5) w6 lab6 w' L'->Vcg.Mod NoB w w':=fun w' L' s=>M06.trans (s.mod (Q:=fun q=>w.heap.size<=q) (fun q _ hs=>hlab q hs)) (fun i hi hs=>by omega);have hhn:hh≠[]:=by rintro rfl;cases hh32
  rw[<-heq]at hvr;have ew:Jb J0 ((at_:Int)+1)=((at_+1:Nat):Int):=by rw[Z0 (by omega) (by omega)];omega
  refine⟨fun hend=>?_,fun hend=>?_⟩
  ·have hn:p[at_]?=G:=JS (by omega)
   have hst:vStep p at_ hh=(at_,J2 160):=by unfold vStep;rw[hn]
   rw[Z7D hhn hst]at hvr;exact bad _ _ (modw _ _ s67) (by decide) hvr
  ·have hlt:at_<p.length:=by omega
   have hsm:p[at_]?=X p[at_]:=JC hlt;have hbl:=hbs _ (JP hlt);rintro _ rfl;have s8:Stp NoS w7 L w7.drew L:=Stp.drew _ _ _;have hN8:=hN7.stp s8 (fun h=>h);have hH8:=hH7.stp s8 (fun h=>h);have hP8:=hP7.keep s8 (fun h=>h);have s68:=s67.trans (s8.mono (T:=fun q=>q=5) (fun _ h=>h.elim));generalize w7.drew=w8 at *
   obtain⟨g,f,ob,kb,rfl,hg,hlg,hcell,hby,hkb⟩:=hN8 at_ hlt;have c8:∀w',Vcg.Mod NoB w8 w'->JA w' (Addr.add ⟨g,f,G⟩ (Jf (at_:Int)))=X (.slice ob p[at_].length kb):=fun w' M=>by rw[Z2,J9,ZK M hg (fun h=>h)];exact hcell
   refine⟨_,rfl,⟨by omega,by omega⟩,_,_,_,c8 _ (Mod.refl _),_,hH8.blk.rowAll (Z4 _),?_⟩;refine(Z2l p[at_] rfl (by omega) hby.rd).mono ?_;rintro _ w9⟨rfl,M9⟩;have s9:Stp NoS w8 L w9 (ext L w8.heap.size 6):=Stp.of_nob M9 6;have hH9:=hH8.stp s9 (fun h=>h);refine⟨_,rfl,hH9.blk.rowAll (Z4 _),_,ZAV _ _ (ZN _) hh32,_,rfl,fun hb'=>?_,fun hb'=>?_⟩
   ·rw[decide_eq_true_eq]at hb'
    have hst:vStep p at_ hh=(at_+1,J2 163):=by unfold vStep;rw[hsm];simp only;rw[if_neg hb']
    rw[Z7D hhn hst]at hvr;exact bad _ _ (modw _ _ (s68.trans (s9.mono (fun _ h=>h.elim)))) (by decide) hvr
   ·rw[decide_eq_false_iff_not,ne_eq,Decidable.not_not]at hb'
    have hst:vStep p at_ hh=(at_+1,.ok p[at_]):=by unfold vStep;rw[hsm];simp only;rw[if_pos hb']
    refine⟨_,rfl,⟨by omega,by omega⟩,_,_,_,c8 _ M9,?_⟩;refine(Z5u (hby.rd.mod' M9) hkb).mono ?_;rintro _ w10⟨rfl,M10⟩;have M810:=M9.none_trans M10;refine⟨_,rfl,fun hne=>?_,fun h0=>?_⟩
    ·rw[Z6J hhn hst hne]at hvr
     exact bad _ _ (modw _ _ (s68.trans ((Stp.of_nob M810 6).mono (S:=NoS) (fun _ h=>h.elim)))) (by decide) hvr
    ·obtain⟨xs,hdc,hn,hgx⟩:=Z1m h0
     refine⟨_,rfl,⟨by omega,by omega⟩,_,_,_,c8 _ M810,?_⟩;refine(Z3N (hby.rd.mod' M810) hkb).mono ?_;rintro e w12⟨M12,hd⟩;unfold Z1c at hd;rw[hdc]at hd;obtain⟨v1,v2,v3,rfl,hx⟩:=hd;obtain⟨bb,p1,q1,r1,p2,q2,r2,rfl,rfl,rfl⟩:=hx.vals;refine⟨_,_,_,_,_,_,_,_,rfl,?_⟩;rintro d52 w13⟨rfl,rfl⟩;have B13:=Blk.new w12 111 #[I J1,.slice G 0 0,.slice G 0 0];refine Z65 B13 rfl rfl rfl (fun w14 B14 Q14=>?_);have M1214:Vcg.Mod NoB w12 w14:=ZC (Mod.alloc w12 _) Q14 (J3 _);have M814:=(M810.none_trans M12).none_trans M1214;refine Z6i B14 ?_;have s14:Stp NoS w8 L w14 (ext L w8.heap.size 6):=Stp.of_nob M814 6;have hz:=M810.size;have hx14:ItC (fun b=>ext L w8.heap.size 6 b≠6) w14 (.l xs) (I bb) (.slice p1 q1 r1) (.slice p2 q2 r2):=ItC.restr (fun b _ hb=>Jc fun hle=>hb (Z0D (by omega))) (ItC.mod M1214 _ hx);have hN14:=hN8.stp s14 (fun h=>h);have hH14:=hH8.stp s14 (fun h=>h);have hP14:=hP8.keep s14 (fun h=>h);have s614:=s68.trans (s14.mono (T:=fun q=>q=5) (fun _ h=>h.elim));generalize ext L w8.heap.size 6=L14 at *
     refine(Z7Y hgx hx14 hP14 hpk hnib hpl).mono ?_;rintro e w15⟨M15,ov,kv,orr,kr,on,kn,rfl,hv,hrr,hkr,hnx⟩;refine⟨_,_,_,_,_,_,_,_,_,_,_,_,_,rfl,?_⟩;rintro d79 w16⟨rfl,rfl⟩;have B16:=Blk.new w15 111 #[I J1,.slice G 0 0,.slice G 0 0];refine Z65 B16 rfl rfl rfl (fun w17 B17 Q17=>?_);have M1417:Vcg.Mod NoB w14 w17:=M15.none_trans (ZC (Mod.alloc w15 _) Q17 (J3 _));have s17:Stp NoS w14 L14 w17 (ext L14 w14.heap.size 6):=Stp.of_nob M1417 6;have hN17:=hN14.stp s17 (fun h=>h);have hH17:=hH14.stp s17 (fun h=>h);have hv17:=hv.keep s17 (fun h=>h);have hrr17:=hrr.keep s17 (fun h=>h);have hnx17:=hnx.keep s17 (fun h=>h);have s617:=s614.trans (s17.mono (T:=fun q=>q=5) (fun _ h=>h.elim))
     have hwd:way (vStep p) at_ (.s hh) path=Z6R (step:=vStep p) (at_+1) (downR (path.length+1) (.l xs) path):=by
      rw[Z5C hhn hst h0 hdc hgx hnib,<-Z5D hgx hnib,Z69 (path.length+1) _ _ _ (Jd _) hgx hnib]
     rw[hwd]at heq hvr;have h32:=Z8K (path.length+1) _ _ hgx hnib;have hrest:=Z9J (path.length+1) _ _ hgx hnib;generalize ext L14 w14.heap.size 6=L17 at *
     generalize downR (path.length+1) (.l xs) path=t at *
     obtain⟨tv,tr,tn⟩:=t;dsimp only at hv17 hrr17 hnx17 h32 hrest hkr B17 ⊢;refine⟨fun b w'=>w'=w17/\b=decide (tn=[]),⟨_,B17.rd1 rfl,fun h=>(by cases h),fun _=>⟨_,_,_,by rw[Z2];exact B17.rd1 rfl,rfl,?_⟩⟩,?_⟩
     ·rw[Bool.eq_iff_iff,decide_eq_true_eq,decide_eq_true_eq]
      exact⟨fun h=>J6 (by omega),fun h=>by rw[h];rfl⟩
     rintro _ _ w18⟨rfl,rfl⟩;rw[ew];refine⟨fun hz=>?_,fun hnz=>?_⟩
     ·rw[decide_eq_true_eq]at hz
      subst hz;have hres:Z6R (step:=vStep p) (at_+1) (tv,tr,[])=(at_+1,.ok tv):=rfl;rw[hres]at hvr;simp only at hvr;refine⟨fun hlt'=>?_,fun hge=>?_⟩
      ·rw[if_pos (by omega)]at hvr
       exact bad _ _ (modw _ _ s617) (by decide) hvr
      ·rw[if_neg (by omega)]at hvr
       have hdv:decide (((tv.length:Nat):Int)>0)=decide (tv≠[]):=by
        cases tv with
        |nil=>rfl
        |cons a r=>rw[decide_eq_true (by simp),decide_eq_true (by simp)]
       rw[hdv];exact hR _ _ ⟨modw _ _ s617,by rw[hvr];exact⟨ov,kv,rfl,hv17.1⟩⟩
     ·rw[decide_eq_false_iff_not]at hnz
      have htl:tn.length=32:=h32.resolve_left hnz;obtain⟨hrl,hrn⟩:=hrest hnz;rintro _ rfl;have s18:Stp NoS w18 L17 w18.drew L17:=Stp.drew _ _ _;have B18:=B17.drew;have hN18:=hN17.stp s18 (fun h=>h);have hH18:=hH17.stp s18 (fun h=>h);have hrr18:=hrr17.keep s18 (fun h=>h);have hnx18:=hnx17.keep s18 (fun h=>h);have s618:=s617.trans (s18.mono (T:=fun q=>q=5) (fun _ h=>h.elim));generalize w18.drew=w19 at *
      obtain⟨w20,h20,H20,Q20⟩:=Z4l (P:=O) (t:=23) (tx:=23) (ty:=3) (dLen:=32) (dCap:=32) (n:=32) (o:=0) (c:=kn) Zn Z10 hH18.blk hnx18.1 (by rw[htl];rfl) (by rw[Z4];omega);rw[Z9E (Z4 _) htl]at H20;refine⟨_,_,_,by rw[Z2];exact B18.rd1 rfl,_,w20,h20,_,rfl,?_⟩;have s20:Stp (·=5) w19 L17 w20 (ext L17 w19.heap.size 6):=Stp.of_mod Q20 6 (fun q _ e=>by rw[e];exact hH18.clr);have hP20:=hrr18.keep s20 (by decide)
      have hafter:Z6R (step:=vStep p) (at_+1) (tv,tr,tn)=way (vStep p) (at_+1) (.s tn) tr:=by
       cases tn with
       |nil=>exact(hnz rfl).elim
       |cons a r=>rfl
      refine⟨⟨_,at_+1,tn,tr,rfl,hlt,s618.trans s20,hN18.stp s20 (by decide),⟨H20,by rw[Z1d hH18.blk.lt];exact hH18.clr⟩,htl,hP20,rfl,hkr,hrn,by omega,by rw[<-heq,hafter]⟩,by omega⟩
theorem Z5G.cell{w:F}{lab:Nat->Nat}{c:Nat}{ls:List By}{o:Option Addr}(h:Z5G w lab c ls o){j:Nat}(hj:j<ls.length){w':F}(M:Vcg.Mod NoB w w') :
  ∃d ob kb,o=X d/\w'.cell? (d.add (Jf (j:Int)))=X (.slice ob ls[j].length kb)/\RdB w' ob ls[j]/\ls[j].length<=kb:=by
 obtain⟨g,f,ob,kb,rfl,hg,hl,hc,hb,hk⟩:=h j hj;exact⟨_,ob,kb,rfl,by rw[Z2,J9,ZK M hg (fun h=>h)];exact hc,hb.rd.mod' M,hk⟩
theorem ZAA{w:F}{lab lab2:Nat->Nat}{c c2:Nat}{a b:List By}{o o2:Option Addr}{k k2:Nat}(ha:Z5G w lab c a o)(hb:Z5G w lab2 c2 b o2)(hl:a.length<=2^63-1) :
  JU O Z0I.n #[.slice o a.length k,.slice o2 b.length k2] w (fun e w'=>e=J (I (decide (a=b)))/\Vcg.Mod NoB w w'):=by
 refine Z0I.vc _ _ _ _ _ _ _ _ ?_;unfold Z0I.Vc;refine⟨fun hne=>⟨?_,Mod.refl _⟩,fun he=>?_⟩
 ·have:a≠b:=by rintro rfl;exact hne rfl
  rw[decide_eq_false this]
 have hlen:a.length=b.length:=by omega
 refine⟨fun i w'=>∃j:Nat,i=(j:Int)/\j<=a.length/\Vcg.Mod NoB w w'/\a.take j=b.take j,fun i _=>((a.length:Int)-i).toNat,⟨0,rfl,JD _,Mod.refl w,rfl⟩,?_⟩;rintro _ _ w1⟨j,rfl,hj,M,hf⟩;refine⟨fun hlt=>?_,fun hge=>?_⟩
 ·rintro _ rfl
  have hja:j<a.length:=by omega
  have hjb:j<b.length:=by omega
  have M2:=M.step_drew;obtain⟨d,ob,kb,rfl,h1,h2,_⟩:=ha.cell hja M2;obtain⟨d',ob',kb',rfl,h1',h2',_⟩:=hb.cell hjb M2;refine⟨_,rfl,⟨by omega,by omega⟩,_,_,_,h1,_,Z8k h2,_,rfl,_,rfl,⟨by omega,by omega⟩,_,_,_,h1',_,Z8k h2',_,rfl,fun hb=>?_,fun hb=>?_⟩
  ·rw[Z6G]at hb
   have hne:=of_decide_eq_true hb;have:a≠b:=by rintro rfl;exact hne rfl
   exact⟨by rw[decide_eq_false this],M2⟩
  ·rw[Z6G]at hb
   have hee:a[j]=b[j]:=Decidable.not_not.1 (of_decide_eq_false hb);refine⟨⟨j+1,by rw[Z0 (by omega) (by omega)];omega,hja,M2,?_⟩,by dsimp only;rw[Z0 (by omega) (by omega)];omega⟩;rw[J4 hja,J4 hjb,hf,hee]
 ·have h1:a.take j=a:=J7 (by omega)
  have h2:b.take j=b:=J7 (by omega);rw[h1,h2]at hf;exact⟨by rw[decide_eq_true hf],M⟩
def LsC(w:F)(lab:Nat->Nat)(ls:List By)(o:Option Addr)(n k:Nat):Prop :=
 n=ls.length/\∃vs,COw w lab 2 Zy 1 o n k vs/\vs.length=ls.length/\∀(j:Nat)(hj:j<ls.length),∃ob kb,vs[j]?=X (.slice ob ls[j].length kb)/\COw w lab (10+j) tU8 1 ob ls[j].length kb (ls[j].map bV)
section
variable{w w':F}{lab lab':Nat->Nat}{ls:List By}{o:Option Addr}{n k:Nat}
theorem LsC.nil(w:F)(lab:Nat->Nat):LsC w lab [] G 0 0:=⟨rfl,[],COw.nil w lab _ _ _,rfl,fun j hj=>absurd hj (by simp)⟩
theorem LsC.stp{S:Nat->Prop}(h:LsC w lab ls o n k)(s:Stp S w lab w' lab')(h2:¬S 2)(hs:∀j,j<ls.length->¬S (10+j)):LsC w' lab' ls o n k:=by
 obtain⟨h1,vs,h3,h4,h5⟩:=h;exact⟨h1,vs,h3.stp s h2,h4,fun j hj=>by obtain⟨ob,kb,e1,e2⟩:=h5 j hj;exact⟨ob,kb,e1,e2.stp s (hs j hj)⟩⟩
theorem LsC.read(h:LsC w lab ls o n k):Z5G w (fun _=>0) 0 ls o:=fun j hj=>by
 obtain⟨rfl,vs,h1,h2,h3⟩:=h;obtain⟨ob,kb,e1,e2⟩:=h3 j hj;obtain⟨g,hg,hc⟩:=h1.own.cell e1;exact⟨g,0,ob,kb,hg,h1.own.lt ⟨_,hg,rfl⟩,rfl,by rw[Jg];exact hc,⟨e2.own.bytes,fun _ _ _=>rfl⟩,e2.own.cap.1⟩
theorem LsC.push{D:Nat}{b:By}{ob:Option Addr}{kb:Nat}(H:LsC w lab ls o n k)(B:Blk w D Zy #[.slice ob b.length kb])(hb:COw w lab (10+ls.length) tU8 1 ob b.length kb (b.map bV))(hl:ls.length<=2^20) :
  ∃o' k' w',Sem.run O (builtinV .append #[Z1t,Z1t] Z1t #[.slice o n k,.slice (X ⟨D,0,G⟩) 1 1]) w=.ok (.slice o' (n+1) k') w' /\
   LsC w' (ext lab w.heap.size 2) (ls++[b]) o' (n+1) k'/\Stp (·=2) w lab w' (ext lab w.heap.size 2):=by
 obtain⟨rfl,vs,hO,hv,hC⟩:=H;obtain⟨i,hi,hz,hs,hbt⟩:=Z1f Z26;obtain⟨o',k',w',h1,h2,h3⟩:=COw.append (ty:=Z1t) Z1D hi hz hs (by rfl) hO (Z3T Z1D B rfl (by simp[Value.oneCell'])) (by simp only[maxLen];omega) (by rw[hbt];omega);refine⟨o',k',w',h1,⟨by simp,_,h2,by simp[hv],fun j hj=>?_⟩,h3⟩;rw[JZ,JR]at hj;by_cases hlt:j<ls.length
 ·obtain⟨ob',kb',e1,e2⟩:=hC j hlt
  refine⟨ob',kb',?_,?_⟩
  ·rw[List.getElem?_append_left (by omega),e1,JM hlt]
  ·rw[JM hlt];exact e2.stp h3 (by omega)
 ·obtain rfl:j=ls.length:=by omega
  rw[List.getElem_append_right (J3 _)];simp only[Jh,List.getElem_cons_zero];refine⟨ob,kb,?_,hb.stp h3 (by omega)⟩;rw[List.getElem?_append_right (by omega),hv,Jh];rfl
end
theorem Z3Y{w:F}{lab:Nat->Nat}{c:Nat}{p:List By}{o:Option Addr}{k:Nat}(h:Z5G w lab c p o)(hl:p.length<=2^20)(hb:∀x∈p,x.length<=2^30) :
  JU O Zg.n #[.slice o p.length k] w (fun e w'=>∃L o' k',e=J (.slice o' p.length k')/\Vcg.Mod NoB w w'/\LsC w' L p o' p.length k'/\∀q,q<w.heap.size->L q=0):=by
 refine Z9 fun R hR=>Zg.vc _ _ _ _ _ ?_;unfold Zg.Vc;have h0:Z5G w (fun _=>0) 0 p o:=h.re (fun _ _ _=>rfl)
 refine⟨fun o' n' k' i w'=>∃(j:Nat)(L:Nat->Nat),i=(j:Int)/\j<=p.length/\n'=j/\Stp (fun q=>q=2) w (fun _=>0) w' L/\LsC w' L (p.take j) o' n' k',fun _ _ _ i _=>((p.length:Int)-i).toNat,
  ⟨0,_,rfl,JD _,rfl,Stp.refl _ _ _,by rw[List.take_zero];exact LsC.nil _ _⟩,?_⟩
 rintro o1 j k1 _ _ w1⟨j',L1,rfl,hj,hjj,s1,O1⟩;subst hjj;refine⟨fun hlt=>?_,fun hge=>?_⟩
 ·have hjl:j<p.length:=by omega
  have M1:Vcg.Mod NoB w w1:=s1.nob (fun q hq=>by decide);obtain⟨d,ob,kb,rfl,h1,h2,h3⟩:=h0.cell hjl M1;have hbl:=hb _ (JP hjl);obtain⟨o3,k3,w3,hr3,F3⟩:=Z3F (k2:=kb) (ty:=Zy) (Mod.refl w1) h2 (by omega);refine⟨_,rfl,⟨by omega,by omega⟩,_,_,_,h1,_,w3,hr3,_,_,_,rfl,?_⟩;rintro d4 w4⟨rfl,rfl⟩;obtain⟨C3,s3⟩:=F3.done (lab:=L1) (10+j);have O3:=O1.stp s3 (fun h=>h) (fun _ _ h=>h);have s4:Stp NoS w3 (ext L1 w1.heap.size (10+j)) (w3.alloc (Y #[.slice o3 p[j].length k3] 23)) (ext (ext L1 w1.heap.size (10+j)) w3.heap.size 1):=Stp.alloc NoS w3 _ _ 1;have C4:=C3.stp s4 (fun h=>h);have O4:=O3.stp s4 (fun h=>h) (fun _ _ h=>h);have B4:=Blk.new w3 23 #[.slice o3 p[j].length k3];have s14:=(s1.trans (s3.mono (T:=fun q=>q=2) (fun _ h=>h.elim))).trans (s4.mono (fun _ h=>h.elim));have htl:(p.take j).length=j:=by rw[List.length_take];omega
  obtain⟨o5,k5,w5,hr5,O5,s5⟩:=O4.push B4 (by rw[htl];exact C4) (by omega);refine⟨_,w5,hr5,_,_,_,rfl,?_⟩;rw[show p.take j++[p[j]]=p.take (j+1)from(J4 hjl).symm]at O5;exact⟨⟨j+1,_,by rw[Z0 (by omega) (by omega)];omega,hjl,rfl,s14.trans s5,O5⟩,by dsimp only;rw[Z0 (by omega) (by omega)];omega⟩
 ·obtain rfl:j=p.length:=by omega
  rw[J7 (J3 _)]at O1;exact hR _ _ ⟨L1,o1,k1,rfl,s1.nob (fun q hq=>by decide),O1,fun q hq=>s1.lab q hq⟩
section
variable{w0 w w':F}{L L':Nat->Nat}{t k b:Nat}{n:Nd}{o:Option Addr}{m:List (By×By)}
end
theorem ZA2(z:Int):∃b:UInt8,Jb Je z=(b.toNat:Int):=by
 refine⟨UInt8.ofNat (z%256).toNat,?_⟩;rw[UInt8.toNat_ofNat',Z8q];omega
end Go.Proofs.YtfghidehlnfdiaaGreat
end
section
namespace Go.Trie

end Go.Trie
end
section
namespace Go.Proofs.YtfghidehlnfdiaaGreat
open Go Go.Vcg Go.Trie
def StR(w:F)(o:Option Addr)(l:List (By×By)):Prop :=
 ∀(j:Nat)(hj:j<l.length),∃b f ok kk ov kv,o=X ⟨b,f,G⟩/\b<w.heap.size/\w.cell? ⟨b,f+j*2,G⟩=X (.slice ok l[j].1.length kk)/\RdB w ok l[j].1/\w.cell? ⟨b,f+(j*2+1),G⟩=X (.slice ov l[j].2.length kv)/\RdB w ov l[j].2
theorem StR.mod'{w w':F}{o:Option Addr}{l:List (By×By)}(h:StR w o l)(M:Vcg.Mod NoB w w'):StR w' o l:=fun j hj=>by
 obtain⟨b,f,ok,kk,ov,kv,e1,e2,e3,e4,e5,e6⟩:=h j hj;exact⟨b,f,ok,kk,ov,kv,e1,JI e2 M.size,(ZK M e2 (fun h=>h)).trans e3,e4.mod' M,(ZK M e2 (fun h=>h)).trans e5,e6.mod' M⟩
end Go.Proofs.YtfghidehlnfdiaaGreat
end
section
namespace Go.Trie
theorem ZAx:∀{n:Nd},Z5I n->∀(top:Bool) (out:List (By×By)),(∀x∈out,x.2.length<=2000)->∀x∈Z16 n top out,x.2.length<=2000:=by
 have put:∀{m:Nd}(out:List (By×By))(top:Bool),Z5I m->(∀x∈out,x.2.length<=2000)->∀x∈Z1g out top (bytesOf m),x.2.length<=2000:=by
  intro m out top hm ho x hx;unfold Z1g at hx;split at hx
  ·exact ho x hx
  ·rcases List.mem_append.1 hx with hx|hx
   ·exact ho x hx
   ·simp only[List.mem_singleton]at hx
    rw[hx];exact Z8F hm
 intro n
 induction n with
 |nil=>intro hs top out ho x hx;exact ho x hx
 |leaf p v=>intro hs top out ho x hx;exact put out top hs ho x hx
 |row p c ih=>intro hs top out ho x hx;exact put _ top hs (ih hs.2 J1 out ho) x hx
 |branch cs v ih =>
  intro hs top out ho x hx
  have hf:∀(l:List (Fin 16))(o:List (By×By)),(∀x∈o,x.2.length<=2000)->∀x∈l.foldl (fun o i=>Z16 (cs i) J1 o) o,x.2.length<=2000:=by
   intro l
   induction l with
   |nil=>intro o ho x hx;exact ho x hx
   |cons i r ihr=>intro o ho x hx;exact ihr _ (ih i (hs.2 i) J1 o ho) x hx
  exact put _ top hs (hf _ out ho) x hx
theorem Z6t{n:Nd}(hs:Z5I n):∀x∈Z12 n,x.2.length<=2^20:=fun x hx=>by
 have:=ZAx hs JX [] (fun _ h=>by cases h) x hx;omega
theorem ZD3(n:Nd):(Z12 n).length<=cnt n:=by
 have:=Z2S n JX [];simpa[Z12]using this
end Go.Trie
end
section
namespace Go.Proofs.YtfghidehlnfdiaaGreat
open Go Go.Vcg Go.Trie

end Go.Proofs.YtfghidehlnfdiaaGreat
end
section
namespace Go.Trie
theorem Z9l:∀{m:List (By×By)} {x:By×By},Z0x (m++[x])->x.2≠[]->ZAi m x.1 x.2=m++[x]
 |[],x,_,hv=>by simp only[ZAi];rw[if_neg hv];rfl
 |y::r,x,hs,hv=>by
  rw[Z0x,List.cons_append,List.pairwise_cons]at hs;simp only[ZAi];rw[if_pos (Z3h.2 (hs.1 x (by simp))),Z9l hs.2 hv];rfl
end Go.Trie
end
section
namespace Go.Proofs.YtfghidehlnfdiaaGreat
open Go Go.Vcg Go.Trie
section
variable{w0 w w':F}{L L':Nat->Nat}{ta tb:Nat}{na nb n':Nd}{o:Option Addr}{m:List (By×By)}
end
end Go.Proofs.YtfghidehlnfdiaaGreat
end
section
namespace Go.Trie
theorem Z7w(p v:By):Z12 (.leaf p v)=[(rootOf (.leaf p v),bytesOf (.leaf p v))]:=by
 simp[Z12,Z16,Z1g,met,rootOf]
end Go.Trie
end
section
namespace Go.Proofs.YtfghidehlnfdiaaGreat
open Go Go.Vcg Go.Trie

end Go.Proofs.YtfghidehlnfdiaaGreat
end
section
namespace Go.Vcg
def kFm:List UInt8:=[128]
def kFh:List UInt8:=[86,232,31,23,27,204,85,166,255,131,69,230,146,192,248,110,91,72,224,27,153,108,173,192,1,98,47,181,227,99,180,33]
def kGm:List UInt8:=[196,130,32,97,49]
def kGh:List UInt8:=[89,182,151,164,219,12,71,85,64,72,98,21,193,232,246,73,69,164,160,173,141,41,29,230,205,144,33,196,251,246,57,221]
def matS(s:St):St:=lk ((Ja 25).map s)
theorem ZEf{s r:St}(h:∀j,j<25->s j=r j):∀j,j<25->matS s j=r j:=fun j hj=>by
 rw[<-h j hj];simp[matS,lk,JH,hj]
def rndM:Nat->St->St
 |0,s=>s
 |n+1,s=>matS (rnd n (rndM n s))
theorem ZDN{s r:St}(h:∀j,j<25->s j=r j):∀(n:Nat),∀j,j<25->rndM n s j=ZDP n r j
 |0=>h
 |n+1=>ZEf (ZDO n (ZDN h n))
theorem ZEn{m h:List UInt8}(hl:Z4C m=ZDP 24 (ZCJ ZDp (ZD8 m)))(he:(Ja 32).map (Z3q (rndM 24 (matS (ZCJ ZDp (ZD8 m)))))=h):sumOf m=h:=by
 rw[<-he];unfold sumOf;refine List.map_congr_left (fun i hi=>?_);have hi:=List.mem_range.1 hi;simp only[Z3q];rw[hl,ZDN (ZEf (fun _ _=>rfl)) 24 (i/8) (by omega)]
theorem ZFj:sumOf kFm=kFh:=ZEn rfl (by decide +kernel)
theorem ZEb:sumOf kGm=kGh:=ZEn rfl (by decide +kernel)
end Go.Vcg
end
section
namespace Go.Proofs.YtfghidehlnfdiaaGreat
open Go Go.Vcg Go.Trie
theorem Z7q:bytesOf (.leaf (nibbles [97]) [49])=kGm:=by kernel_rfl
theorem Z9b:rootOf (.leaf (nibbles [97]) [49])=kGh:=(congrArg sumOf Z7q).trans ZEb
theorem ZFJ(m:List (By×By))(hs:Z0x m)(hk:∀e∈m,e.1.length<=64)(hv:∀e∈m,e.2≠[]/\e.2.length<=1024):∃n,Rep (Z0A m) n/\Z1N n/\ZBy n/\cnt n<=4*m.length:=by
 generalize hl:m.length=l
 induction l generalizing m with
 |zero =>
  obtain rfl:=J6 hl;exact⟨.nil,ZDJ,trivial,ZBG,by simp[cnt]⟩
 |succ l ih =>
  rcases List.eq_nil_or_concat m with rfl|⟨m',x,rfl⟩
  ·cases hl
  ·rw[List.concat_eq_append]at *
   have hs':Z0x m':=(List.pairwise_append.1 hs).1;obtain⟨n,h1,h2,h3,h4⟩:=ih m' hs' (fun e he=>hk e (JV _ he)) (fun e he=>hv e (JV _ he)) (by simpa using hl);have hx:=hv x (by simp);have hxk:=hk x (by simp);have hxl:=ZG x.1;have hr:=ZDK h1 hs' h2 hx.1 (k:=x.1);rw[Z9l hs hx.1]at hr;have:=ZAM n (nibbles x.1) x.2;exact⟨_,hr,(Z7x h2 (Z1P _) hx.1).1,h3.put h2 (Z1P _) hx.1 (by omega) hx.2,by omega⟩
theorem ZF9:Rep (Z0A [([97],[49])]) (.leaf (nibbles [97]) [49])/\Z1N (.leaf (nibbles [97]) [49])/\Z5I (.leaf (nibbles [97]) [49]):=by
 have e:Trie.put .nil (nibbles [97]) [49]=.leaf (nibbles [97]) [49]:=by simp[Trie.put]
 have h1:=ZDK (k:=[97]) (v:=[49]) ZDJ List.Pairwise.nil trivial (by simp);have h2:=(Z7x (n:=.nil) (p:=nibbles [97]) (x:=[49]) trivial (Z1P _) (by simp)).1;have h3:=ZBy.put (p:=nibbles [97]) (x:=[49]) ZBG trivial (Z1P _) (by simp) (by decide) (by decide);rw[e]at h1 h2 h3;exact⟨h1,h2,Z6F h2 h3⟩
theorem ZEc:kGh≠emptyH:=by
 have:emptyH=kFh:=ZFj;rw[this];decide
theorem ZBu{σ:Type}{step:σ->By->σ×Except Int By}{s s':σ}{path:By}(hn:∀n∈path,n.toNat<16)(h:step s kGh=(s',.ok kGm)):way step s (.s kGh) path=(s',.ok (if[6,1]=path then[49]else[])):=by
 have hc:Z0Q kGm=0:=by kernel_rfl
 have hd:Z4Q kGm=.ok (.l [.s [32,97],.s [49]]):=by kernel_rfl
 obtain⟨xs,hd',_,hg⟩:=Z1m hc;rw[hd]at hd';cases hd';have hh:Z0s (.s [32,97])=X ([6,1],JX):=by kernel_rfl
 rw[Z5C (by decide) h hc hd hg hn,Z4w (xs:=[.s [32,97],.s [49]]) rfl hh];rfl
theorem ZFt:Z28 [(kGh,kGm)] kGh [97]=.ok [kGm]:=by
 rw[Z5Y (by decide) (by decide)];have h:pStep [(kGh,kGm)] [] kGh=([kGm],.ok kGm):=by kernel_rfl
 have hr:rootIt kGh=.s kGh:=if_neg ZEc;rw[hr,ZBu (nib_lt _) h]
theorem ZDk(key:By)(hk:key.length<=64):verifyR [kGm] kGh key=.ok (if[6,1]=nibbles key then[49]else[]):=by
 rw[Z4e (by decide) (by omega)]
 have h:vStep [kGm] 0 kGh=(1,.ok kGm):=by
  unfold vStep;simp only[List.getElem?_cons_zero,ZEb,if_true]
 have hr:rootIt kGh=.s kGh:=if_neg ZEc;rw[hr,ZBu (nib_lt _) h];rfl
theorem Z2T.any{w w':F}{lab:Nat->Nat}{c cb:Nat}{ls:List By}{o:Option Addr}{n k:Nat}(h:Z2T w lab c cb ls o n k)(M:Vcg.Mod NoB w w'):n=ls.length/\Z5G w' (fun _=>0) 0 ls o :=
 ⟨h.1,(h.stp (S:=NoS) (Stp.of_nob M 0) (fun h=>h) (fun h=>h)).read (fun _ _ _=>rfl)⟩
theorem Z8B.ok{l:List (By×By)}{root key:By}{out:List By}{w w':F}{e:JY}(h:Z8B l root key w e w')(hr:Z28 l root key=.ok out):Vcg.Mod NoB w w'/\∃o n k,e=J (J8 #[.slice o n k,.int J0 0])/\∃lab' c cb,Z2T w' lab' c cb out o n k:=by
 obtain⟨h1,h2⟩:=h;rw[hr]at h2;exact⟨h1,h2⟩
theorem Z43.ok{p:List By}{root key v:By}{w w':F}{e:JY}(h:Z43 p root key w e w')(hr:verifyR p root key=.ok v):Vcg.Mod NoB w w'/\∃o k,e=J (J8 #[.slice o v.length k,I (decide (v≠[])),.int J0 0])/\RdB w' o v:=by
 obtain⟨h1,h2⟩:=h;rw[hr]at h2;exact⟨h1,h2⟩
theorem ZEJ:verifyR [kGm] kGh [97]=.ok [49]:=by rw[ZDk _ (by decide),if_pos (by kernel_rfl)]
theorem ZEK:verifyR [kGm] kGh [98]=.ok []:=by rw[ZDk _ (by decide),if_neg (by decide)]
theorem Z4s(w:F):JU O Zk.n #[] w (fun e w'=>e=J (I JX)/\Vcg.Mod NoB w w'):=by
 refine Z9 fun Q hQ=>Zk.vc _ _ ?_
 have tail:∀{w30:F}{D:Nat}{oN oK:Option Addr}{kN kK:Nat},Vcg.Mod NoB w w30->Blk w30 D 27 (hashA kGh)->Z18 w30 (fun _=>0) 0 [(kGh,kGm)] oN 1->RdB w30 oK [97]->∀(d22:Addr),d22=⟨D,0,G⟩ ->
   JU O 21 #[.slice oN 1 kN,.agg (hashA kGh),.slice oK 1 kK] w30 (fun e39 w40 =>
   ∃o41 l42 l43 n44,e39=J (J8 #[(.slice o41 l42 l43),(.int J0 n44)]) /\
   ∃L45,ZD w40 d22 32 L45 /\
   ∀d46 w47,Z5 w40 5 #[(.int Je 97)] d46 w47 ->
   ∃v48 w49,Sem.run O (Ji 23 23 (.slice (X d46) 1 1)) w47=.ok v48 w49 /\
   ∃o50 l51 l52,v48=(.slice o50 l51 l52) /\
   JU O 22 #[(.agg L45),(.slice o50 l51 l52),(.slice o41 l42 l43)] w49 (fun e53 w54 =>
   ∃o55 l56 l57 b58 n59,e53=J (J8 #[(.slice o55 l56 l57),(I b58),(.int J0 n59)]) /\
   ∃L60,ZD w54 d22 32 L60 /\
   ∀d61 w62,Z5 w54 5 #[(.int Je 98)] d61 w62 ->
   ∃v63 w64,Sem.run O (Ji 23 23 (.slice (X d61) 1 1)) w62=.ok v63 w64 /\
   ∃o65 l66 l67,v63=(.slice o65 l66 l67) /\
   JU O 22 #[(.agg L60),(.slice o65 l66 l67),(.slice o41 l42 l43)] w64 (fun e68 w69 =>
   ∃o70 l71 l72 b73 n74,e68=J (J8 #[(.slice o70 l71 l72),(I b73),(.int J0 n74)]) /\
   (((n44=0 ->
   (((n59=0 ->
   (((n74=0 ->
   (((b58=JX ->
   (((b73=J1 ->
   (((((l42:Nat):Int)=1 ->
   ∃v75,Sem.run O (Ji 23 9 (.slice o55 l56 l57)) w69=.ok v75 w69 /\
   ∃s76,v75=(.string s76) /\
   Q (J (I (Z76 .eql s76 ⟨#[49]⟩))) w69)) /\
   ((((l42:Nat):Int)≠1 ->
   Q (J (I J1)) w69))))) /\
   ((b73=JX ->
   Q (J (I J1)) w69))))) /\
   ((b58=J1 ->
   Q (J (I J1)) w69))))) /\
   ((n74≠0 ->
   Q (J (I J1)) w69))))) /\
   ((n59≠0 ->
   Q (J (I J1)) w69))))) /\
   ((n44≠0 ->
   Q (J (I J1)) w69)))))):=by
  rintro w30 D oN oK kN kK M H N r _ rfl;refine(ZAB (l:=[(kGh,kGm)]) (key:=[97]) N (by decide) (by simp[kGm]) (by decide) r).mono ?_;intro e w40 hp;obtain⟨M40,op,np,kp,rfl,labp,c,cb,hO⟩:=hp.ok ZFt;refine⟨_,_,_,_,rfl,_,(H.mod' M40).rowAll (Z4 _),?_⟩;rintro d w47⟨rfl,rfl⟩;obtain⟨w49,h49,M49,r49⟩:=Z30 w40 (bs:=[97]) (A:=#[(.int Je 97)]) rfl 1 1;obtain⟨rfl,hL⟩:=hO.any M49;refine⟨_,w49,h49,_,_,_,rfl,?_⟩;refine(Z3a (p:=[kGm]) (key:=[97]) (root:=kGh) hL (by decide) (by simp[kGm]) (by decide) r49).mono ?_;intro e w54 hv;obtain⟨M54,ov,kv,rfl,hrv⟩:=hv.ok ZEJ;have M4054:=M49.none_trans M54;refine⟨_,_,_,_,_,rfl,_,((H.mod' M40).mod' M4054).rowAll (Z4 _),?_⟩;rintro d w62⟨rfl,rfl⟩;obtain⟨w64,h64,M64,r64⟩:=Z30 w54 (bs:=[98]) (A:=#[(.int Je 98)]) rfl 1 1;obtain⟨_,hL2⟩:=hO.any (M4054.none_trans M64);refine⟨_,w64,h64,_,_,_,rfl,?_⟩;refine(Z3a (p:=[kGm]) (key:=[98]) (root:=kGh) hL2 (by decide) (by simp[kGm]) (by decide) r64).mono ?_;intro e w69 hv2;obtain⟨M69,ov2,kv2,rfl,_⟩:=hv2.ok ZEK;have Mall:Vcg.Mod NoB w w69:=((M.none_trans M40).none_trans M4054).none_trans (M64.none_trans M69);refine⟨_,_,_,_,_,rfl,fun _=>⟨fun _=>⟨fun _=>⟨fun _=>⟨fun _=>⟨fun _=>⟨_,Z8k (hrv.mod' (M64.none_trans M69)),_,rfl,hQ _ _ ⟨?_,Mall⟩⟩,fun h=>(h rfl).elim⟩,fun h=>(by cases h)⟩,fun h=>(by cases h)⟩,fun h=>(h rfl).elim⟩,fun h=>(h rfl).elim⟩,fun h=>(h rfl).elim⟩;have e:Z76 .eql (Z77 [49]) ⟨#[49]⟩=JX:=Z2N [49] [49];rw[e]
 unfold Zk.Vc;rintro d w1⟨rfl,rfl⟩;obtain⟨w2,h2,M2,r2⟩:=Z30 w (bs:=[97]) (A:=#[(.int Je 97)]) rfl 1 1;refine⟨_,w2,h2,_,_,_,rfl,?_⟩;rintro d w3⟨rfl,rfl⟩;obtain⟨w4,h4,M4,r4⟩:=Z30 w2 (bs:=[49]) (A:=#[(.int Je 49)]) rfl 1 1;refine⟨_,w4,h4,_,_,_,rfl,?_⟩;rintro d w5⟨rfl,rfl⟩;have M5:=Mod.alloc (S:=NoB) w4 (Y #[(.slice (X ⟨w.heap.size,0,G⟩) 1 1),(.slice (X ⟨w2.heap.size,0,G⟩) 1 1)] 53);have B5:=Blk.new w4 53 #[(.slice (X ⟨w.heap.size,0,G⟩) 1 1),(.slice (X ⟨w2.heap.size,0,G⟩) 1 1)];have r2':=r2.mod' (M4.none_trans M5);have r4':=r4.mod' M5;have M05:=(M2.none_trans M4).none_trans M5
 have hKv:Z4g _ (fun _=>0) 0 (X ⟨w4.heap.size,0,G⟩) [([97],[49])]:=fun j hj=>by
  obtain rfl:j=0:=by simpa using hj
  exact⟨_,_,_,_,_,_,rfl,B5.lt,rfl,B5.cell 0,⟨r2',fun _ _ _=>rfl⟩,B5.cell 1,⟨r4',fun _ _ _=>rfl⟩⟩
 obtain⟨p1,p2,p3⟩:=ZF9;generalize w4.alloc (Y #[(.slice (X ⟨w.heap.size,0,G⟩) 1 1),(.slice (X ⟨w2.heap.size,0,G⟩) 1 1)] 53)=w6 at *
 refine(ZB4 hKv ⟨by decide,by simp,by simp⟩ p1 p2 p3 (by simp[cnt]) 0).mono ?_;rintro _ w7⟨o7,k7,rfl,M7,N7⟩
 have hN7:Z18 w7 (fun _=>0) 0 [(kGh,kGm)] o7 1:=by
  rw[Z7w,Z9b,Z7q]at N7;exact N7.re (fun _ _ _=>rfl)
 have hlen:(Z12 (.leaf (nibbles [97]) [49])).length=1:=by rw[Z7w];rfl
 rw[hlen,Z9b];refine⟨_,_,_,_,rfl,?_⟩;rintro d w8⟨rfl,rfl⟩;have H8:=Blk.new w7 27 (C 32 (.int Je 0));obtain⟨g1,g2,g3⟩:=Z0k H8 (by simp) kGh;have M8:=ZC (Mod.alloc w7 (Y (C 32 (.int Je 0)) 27)) g3 (J3 _);refine⟨_,g1,?_⟩;have M08:=(M05.none_trans M7).none_trans M8;have N8:Z18 _ (fun _=>0) 0 [(kGh,kGm)] o7 1:=(hN7.stp (S:=NoS) (Stp.of_nob M8 0) (fun h=>h)).re (lab':=fun _=>0) (c':=0) (fun _ _ _=>rfl);generalize w7.heap.size=D at *
 generalize((w7.alloc (Y (C 32 (.int Je 0)) 27)).setRow D (hashA kGh))=w8 at *
 rintro _ rfl;have H9:=g2.drew;have M09:=M08.step_drew;have N9:Z18 w8.drew (fun _=>0) 0 [(kGh,kGm)] o7 1:=(N8.stp (S:=NoS) (Stp.drew _ _ _) (fun h=>h)).re (lab':=fun _=>0) (c':=0) (fun _ _ _=>rfl);generalize w8.drew=w9 at *
 refine⟨_,H9.rowAll (Z4 _),?_,?_⟩
 ·refine(Z2k (k:=k7) N9 (by simp[kGm]) (by decide) 0).mono ?_
  rintro _ w10⟨o10,k10,rfl,_,M10,N10⟩;refine⟨_,_,_,rfl,(H9.mod' M10).rowAll (Z4 _),?_⟩;rintro d w11⟨rfl,rfl⟩;obtain⟨w12,h12,M12,r12⟩:=Z30 w10 (bs:=[97]) (A:=#[(.int Je 97)]) rfl 1 1;have Ma:=Mod.alloc (S:=NoB) w10 (Y #[(.int Je 97)] 5);refine⟨((H9.mod' M10).mod' Ma).rowAll (Z4 _),_,w12,h12,_,_,_,rfl,((H9.mod' M10).mod' M12).rowAll (Z4 _),?_⟩;exact tail ((M09.none_trans M10).none_trans M12) ((H9.mod' M10).mod' M12) ((N10.stp (S:=NoS) (Stp.of_nob M12 0) (fun h=>h)).re (fun _ _ _=>rfl)) r12 _ rfl
 ·rintro d w11⟨rfl,rfl⟩
  obtain⟨w12,h12,M12,r12⟩:=Z30 w9 (bs:=[97]) (A:=#[(.int Je 97)]) rfl 1 1;have Ma:=Mod.alloc (S:=NoB) w9 (Y #[(.int Je 97)] 5);refine⟨(H9.mod' Ma).rowAll (Z4 _),?_,?_⟩
  ·have Na:Z18 _ (fun _=>0) 0 [(kGh,kGm)] o7 1:=(N9.stp (S:=NoS) (Stp.of_nob Ma 0) (fun h=>h)).re (lab':=fun _=>0) (c':=0) (fun _ _ _=>rfl)
   have Ba:=Blk.new w9 5 #[(.int Je 97)];have Ha:=H9.mod' Ma;have hDE:=Nat.ne_of_lt H9.lt;have hE:w9.heap.size<=w9.heap.size:=J3 _;generalize hEe:w9.heap.size=E at Ba hDE h12 M12 r12 ⊢;rw[hEe]at hE;generalize w9.alloc (Y #[(.int Je 97)] 5)=wa at *
   refine(Z2k (k:=k7) (Na.re (lab':=fun _=>1) (c':=1) (fun _ _ _=>rfl)) (by simp[kGm]) (by decide) 0).mono ?_;rintro _ w10⟨o10,k10,rfl,_,M10,N10⟩;have B10:=Ba.mod' M10;obtain⟨wc,hc,Mc,hcc⟩:=Z5j (P:=O) (t:=Zy) (l:=1) (c:=1) Zn (by kernel_rfl) B10;have Hc:=(Ha.mod' M10).mod Mc (by intro e;exact hDE e);have M9c:Vcg.Mod NoB w9 wc:=ZC (Ma.none_trans M10) Mc (Nat.le_of_eq hEe);have sc:Stp (·=1) w10 (ext (fun _=>1) wa.heap.size 0) wc (ext (ext (fun _=>1) wa.heap.size 0) w10.heap.size 0):=Stp.of_mod Mc 0 (fun q _ e=>by rw[e];exact Z1d Ba.lt);refine⟨_,_,_,rfl,(Ha.mod' M10).rowAll (Z4 _),_,wc,hc,_,_,_,rfl,Hc.rowAll (Z4 _),?_⟩
   have rc:RdB wc (X ⟨E,0,G⟩) [97]:=fun hne=>⟨E,0,rfl,JI B10.lt Mc.size,fun i hi=>by
    obtain rfl:i=0:=by simpa using hi
    rw[hcc,B10.cell];rfl⟩
   exact tail (M09.none_trans M9c) Hc ((N10.stp sc (by decide)).re (fun _ _ _=>rfl)) rc _ rfl
  ·refine⟨_,w12,h12,_,_,_,rfl,(H9.mod' M12).rowAll (Z4 _),?_⟩
   have N12:Z18 w12 (fun _=>0) 0 [(kGh,kGm)] o7 1:=(N9.stp (S:=NoS) (Stp.of_nob M12 0) (fun h=>h)).re (lab':=fun _=>0) (c':=0) (fun _ _ _=>rfl);refine(Z2k (k:=k7) N12 (by simp[kGm]) (by decide) 0).mono ?_;rintro _ w13⟨o13,k13,rfl,_,M13,N13⟩;refine⟨_,_,_,rfl,((H9.mod' M12).mod' M13).rowAll (Z4 _),?_⟩;exact tail ((M09.none_trans M12).none_trans M13) ((H9.mod' M12).mod' M13) (N13.re (fun _ _ _=>rfl)) (r12.mod' M13) _ rfl
theorem ZEx{w:F}(x y:Operand)(a:Bool):Sem.run O (Z07 .eql 4 x y (I a) (I a)) w=.ok (I JX) w:=by
 cases a<;>kernel_rfl
theorem Z5G.mod'{w w':F}{lab:Nat->Nat}{c:Nat}{ls:List By}{o:Option Addr}(h:Z5G w lab c ls o)(M:Vcg.Mod NoB w w'):Z5G w' (fun _=>0) 0 ls o :=
 Z5G.re (h.stp (S:=NoS) (Stp.of_nob M c) (fun h=>h)) (fun _ _ _=>rfl)
def vAns:Except Int By->By×Bool×Int
 | J2 er=>([],J1,er)
 | .ok v=>(v,decide (v≠[]),0)
theorem Z43.ans{p:List By}{root key:By}{w w':F}{e:JY}(h:Z43 p root key w e w'):Vcg.Mod NoB w w'/\∃o k,e=J (J8 #[.slice o (vAns (verifyR p root key)).1.length k,I (vAns (verifyR p root key)).2.1,.int J0 (vAns (verifyR p root key)).2.2])/\RdB w' o (vAns (verifyR p root key)).1:=by
 obtain⟨M,h⟩:=h;refine⟨M,?_⟩;generalize verifyR p root key=r at h;cases r with
 |error er=>exact⟨G,0,h.2,fun h=>(h rfl).elim⟩
 |ok v=>exact h
theorem Z6P(w:F){o2 ok:Option Addr}{k2 kk:Nat}{root key:By}{p:List By}(hroot:root.length=32)(hkey:RdB w ok key){lab:Nat->Nat}{c:Nat}(hp:Z5G w lab c p o2) :
  JU O ZT.n #[.agg (hashA root),.slice ok key.length kk,.slice o2 p.length k2] w (fun e w'=>e=J (I JX)/\Vcg.Mod NoB w w'):=by
 refine ZT.vc _ _ _ _ _ _ _ _ _ ?_;unfold ZT.Vc;rintro d w1⟨rfl,rfl⟩;have M1:=Mod.alloc (S:=NoB) w (Y (hashA root) 27);have X1:=Blk.new w 27 (hashA root);generalize w.heap.size=D at *
 generalize w.alloc (Y (hashA root) 27)=w1 at *
 refine(Z4s w1).mono ?_;rintro _ w2⟨rfl,M12⟩;have M2:=M1.none_trans M12;have X2:=X1.mod' M12;refine⟨_,rfl,fun h=>(by cases h),fun _=>⟨fun _=>⟨rfl,M2⟩,fun hl=>?_⟩⟩;have hp2:=hp.mod' M2;refine⟨fun i w'=>∃j:Nat,i=(j:Int)/\j<=p.length/\w'=w2/\∀(q:Nat)(hq:q<p.length),q<j->p[q].length<=3000,fun i _=>((p.length:Int)-i).toNat,⟨0,rfl,JD _,rfl,fun q hq h=>by omega⟩,?_⟩;rintro _ _ w3⟨j,rfl,hj,rfl,hall⟩;refine⟨fun hlt=>?_,fun hge=>?_⟩
 ·have hjl:j<p.length:=by omega
  obtain⟨d,ob,kb,rfl,h1,h2,h3⟩:=hp2.cell hjl (Mod.refl _);refine⟨_,rfl,⟨by omega,by omega⟩,_,_,_,h1,fun _=>⟨rfl,M2⟩,fun hs=>⟨⟨j+1,by rw[Z0 (by omega) (by omega)];omega,hjl,rfl,fun q hq hqj=>?_⟩,by dsimp only;rw[Z0 (by omega) (by omega)];omega⟩⟩;by_cases hqe:q=j
  ·subst hqe;omega
  ·exact hall q hq (by omega)
 ·have hall':∀x∈p,x.length<=2^30:=fun x hx=>by
    obtain⟨q,hq,rfl⟩:=List.getElem_of_mem hx;have:=hall q hq (by omega);omega
  refine(Z3Y (k:=k2) hp2 (by omega) hall').mono ?_;rintro _ w4⟨L,o4,k4,rfl,M4,hL,_⟩;have M04:=M2.none_trans M4;have X4:=X2.mod' M4;refine⟨_,_,_,rfl,_,X4.rowAll (Z4 _),?_⟩;refine(Z3a (k:=k4) (kk:=kk) hL.read (by omega) hall' hroot (hkey.mod' M04)).mono ?_;intro e5 w5 hv5;obtain⟨M45,o5,k5,rfl,r5⟩:=hv5.ans;have M05:=M04.none_trans M45;have X5:=X4.mod' M45;refine⟨_,_,_,_,_,rfl,_,X5.rowAll (Z4 _),?_⟩;refine(Z8a (k:=k2) (kk:=kk) (hp.mod' M05) (by omega) hall' hroot (hkey.mod' M05)).mono ?_;intro e6 w6 hv6;obtain⟨M56,o6,k6,rfl,r6⟩:=hv6.ans;have M06:=M05.none_trans M56;generalize vAns (verifyR p root key)=a at *
  refine⟨_,_,_,_,_,rfl,fun _=>⟨_,ZEx _ _ _,_,rfl,fun _=>?_,fun h=>(by cases h)⟩,fun h=>(h rfl).elim⟩;refine(Z9W (r5.mod' M56) r6).mono ?_;rintro _ w7⟨rfl,rfl⟩;refine⟨_,rfl,fun _=>?_,fun h=>(by simp at h)⟩;refine(ZAA (k:=k4) (k2:=k2) (hL.read.mod' (M45.none_trans M56)) (hp.mod' M06) (by omega)).mono ?_;rintro _ w8⟨rfl,M8⟩;exact⟨_,rfl,by rw[decide_eq_true rfl],M06.none_trans M8⟩
end Go.Proofs.YtfghidehlnfdiaaGreat
end
section
namespace Go.Vcg
open Go
theorem Z4u{α β:Type}{f:α->Option β}:∀{l:List α} {ys:List β},l.mapM f=X ys->ys.length=l.length/\∀(i:Nat) (x:α),l[i]?=X x->∃y,ys[i]?=X y/\f x=X y
 |[],ys,h=>by
  rw[List.mapM_nil]at h;cases h;exact⟨rfl,fun i x hx=>by simp at hx⟩
 |a::l,ys,h=>by
  rw[List.mapM_cons]at h;cases ha:f a with
  |none=>simp[ha]at h
  |some b =>
   cases hl:l.mapM f with
   |none=>simp[ha,hl]at h
   |some bs =>
    simp[ha,hl]at h;subst h;obtain⟨h1,h2⟩:=Z4u hl;refine⟨by simp[h1],fun i x hx=>?_⟩;cases i with
    |zero=>simp at hx;subst hx;exact⟨b,rfl,ha⟩
    |succ i=>simp at hx;exact h2 i x hx
section
variable{H:Type}{enc:JN×JT->H}{P:Program}{W:F}{sp:Nat->Bool}{held:Bool}{base:Nat}
theorem Z7B{fuel:Nat}{t e:JN}{v:JT}{d:DataW H}{ps:List JW}(ht:P.underlying t=X (.slice e))(hce:P.cellsOf e=1)
  (h:U enc P W base sp held fuel t [v]=X (d,ps)) :
  ∃o l c,v=.slice o l c/\l<=c/\c<=maxLen/\((l=0/\d=.nil)\/∃elems spare,d=.slice elems spare/\elems.length=l /\
   ∀i,i<l->∃b f u d' ps' fuel',o=X ⟨b,f,G⟩/\b<W.heap.size/\W.cell? ⟨b,f+i,G⟩=X u/\U enc P W base sp held fuel' e [u]=X (d',ps')/\elems[i]?=X d'):=by
 obtain⟨o,l,c,rfl,hlc,hcm,hall⟩:=Z88 ht hce h;refine⟨o,l,c,rfl,hlc,hcm,?_⟩;cases fuel with
 |zero=>simp[U]at h
 |succ fuel =>
  cases o with
  |none =>
   left
   have:l=0/\c=0:=by
    rcases l with _|l<;>rcases c with _|c<;>simp[U,ht]at h ⊢
   obtain⟨rfl,rfl⟩:=this;simp[U,ht]at h;exact⟨rfl,h.1.symm⟩
  |some a =>
   right;simp only[U,ht,hce,Nat.mul_one]at h;split at h
   ·obtain⟨els,hm,h2⟩:=Option.bind_eq_some_iff.1 h
    obtain⟨rest,_,h3⟩:=Option.map_eq_some_iff.1 h2;cases h3;obtain⟨hl,hg⟩:=Z4u hm;rw[JJ]at hl;refine⟨_,_,rfl,by simp[hl],fun i hi=>?_⟩;obtain⟨b,f,u,d',ps',fuel',ho,hb,hu,hd⟩:=hall i hi;cases ho;obtain⟨y,hy,hfy⟩:=hg i i (by rw[JB hi]);obtain⟨vs,hv,hd2⟩:=Option.bind_eq_some_iff.1 hfy;obtain⟨u2,rfl,hu2⟩:=Z4O hv;rw[Z2,hu]at hu2;cases hu2;exact⟨b,f,u,y.1,y.2,fuel,rfl,hb,hu,hd2,by rw[JK,hy];rfl⟩
   ·cases h
theorem Z8o{t e:JN}{elems spare:List (DataW H)}{n0:Nat}(ht:P.underlying t=X (.slice e))(h:((DataW.slice elems spare).weights P t).all (·<=n0)=JX) :
  elems.length*P.bytesOf e<=n0/\∀d∈elems,(d.weights P e).all (·<=n0)=JX:=by
 simp only[DataW.weights,ht,List.all_cons,JE,JG]at h;refine⟨?_,fun d hd=>?_⟩
 ·have h1:(elems.length+spare.length)*P.bytesOf e<=n0:=of_decide_eq_true h.1
  exact Nat.le_trans (Nat.mul_le_mul_right _ (Nat.le_add_right _ _)) h1
 ·have h2:=h.2.1
  clear h
  induction elems with
  |nil=>cases hd
  |cons x r ih =>
   simp only[DataW.weightsAll,JG,JE]at h2;rcases List.mem_cons.1 hd with rfl|hd
   ·exact h2.1
   ·exact ih hd h2.2
theorem Z7A{fuel:Nat}{t e:JN}{v:JT}{d:DataW H}{ps:List JW}(ht:P.underlying t=X (.slice e))(he:P.underlying e=X (.int Je))(hce:P.cellsOf e=1)
  (h:U enc P W base sp held fuel t [v]=X (d,ps)):∃o c bs,v=.slice o bs.length c/\bs.length<=c/\c<=maxLen/\RdB W o bs/\∀n0,(d.weights P t).all (·<=n0)=JX->bs.length*P.bytesOf e<=n0:=by
 obtain⟨o,c,bs,rfl,h1,h2,h3⟩:=Z87 ht he hce h;refine⟨o,c,bs,rfl,h1,h2,h3,fun n0 hw=>?_⟩;obtain⟨o',l',c',hv,_,_,h4⟩:=Z7B ht hce h;cases hv;rcases h4 with⟨h5,_⟩|⟨elems,spare,rfl,h5,_⟩
 ·rw[h5];simp
 ·rw[<-h5];exact(Z8o ht hw).1
end
theorem Z17{H:Type}{P:Program}{n0:Nat}:∀{ts:List JN} {ds:List (DataW H)},(JL P ts ds).all (·<=n0)=JX->∀(j:Nat) (t:JN) (d:DataW H),ts[j]?=X t->ds[j]?=X d->(d.weights P t).all (·<=n0)=JX
 |t0::ts,d0::ds,h,0,t,d,ht,hd=>by
  simp at ht hd;subst ht hd;simp only[JL,JG,JE]at h;exact h.1
 |t0::ts,d0::ds,h,j+1,t,d,ht,hd=>by
  simp only[JL,JG,JE]at h;exact Z17 h.2 j t d (by simpa using ht) (by simpa using hd)
 |[],_,_,_,_,_,ht,_=>by simp at ht
 |_::_,[],_,_,_,_,_,hd=>by simp at hd
end Go.Vcg
end
section
namespace Go.Vcg
section
variable{H:Type}{enc:JN×JT->H}{P:Program}{W:F}{sp:Nat->Bool}{held:Bool}{base:Nat}
theorem Z7c{a:Addr}{n:Nat}{vs:List JT}(h:W.cells? base a n=X vs):vs.length=n/\∀j u,vs[j]?=X u->W.cell? (a.add j)=X u:=by
 unfold World.cells? at h;split at h
 ·obtain⟨hl,hg⟩:=Z4u h
  rw[JJ]at hl;refine⟨hl,fun j u hu=>?_⟩;have hj:j<n:=by rw[<-hl];exact(List.getElem?_eq_some_iff.1 hu).1
  obtain⟨y,hy,hc⟩:=hg j j (by rw[JB hj]);rw[hy]at hu;cases hu;exact hc
 ·cases h
theorem ZCd{a:Addr}{u:JT}(h:W.cell? a=X u):a.spot=G/\a.block<W.heap.size:=by
 unfold JA at h;cases hs:a.spot with
 |none =>
  rw[hs]at h;refine⟨rfl,?_⟩;split at h
  ·rename_i hb;exact(Array.getElem?_eq_some_iff.1 hb).1
  ·cases h
 |some x =>
  rw[hs]at h;split at h<;>simp at h
theorem Z8l{fuel:Nat}{t e:JN}{v:JT}{d:DataW H}{ps:List JW}{n:Nat}(ht:P.underlying t=X (.slice e))(hce:P.cellsOf e=n)(hn:0<n)
  (h:U enc P W base sp held fuel t [v]=X (d,ps)) :
  ∃o l c,v=.slice o l c/\l<=c/\((l=0/\d=.nil)\/∃elems spare,d=.slice elems spare/\elems.length=l/\∀i,i<l->∃b f us d' ps' fuel',o=X ⟨b,f,G⟩/\b<W.heap.size/\us.length=n/\(∀j u,us[j]?=X u->W.cell? ⟨b,f+i*n+j,G⟩=X u)/\U enc P W base sp held fuel' e us=X (d',ps')/\elems[i]?=X d'):=by
 cases fuel with
 |zero=>simp[U]at h
 |succ fuel =>
  cases v with
  |slice o l c =>
   cases o with
   |none =>
    have:l=0/\c=0:=by
     rcases l with _|l<;>rcases c with _|c<;>simp[U,ht]at h ⊢
    obtain⟨rfl,rfl⟩:=this;simp[U,ht]at h;exact⟨G,0,0,rfl,J3 _,.inl ⟨rfl,h.1.symm⟩⟩
   |some a =>
    simp only[U,ht,hce]at h;split at h
    ·rename_i hb0
     obtain⟨els,hm,h2⟩:=Option.bind_eq_some_iff.1 h;obtain⟨rest,_,h3⟩:=Option.map_eq_some_iff.1 h2;cases h3;obtain⟨hl,hg⟩:=Z4u hm;rw[JJ]at hl;refine⟨X a,l,c,rfl,hb0.2.1,.inr ⟨_,_,rfl,by simp[hl],fun i hi=>?_⟩⟩;obtain⟨y,hy1,hy⟩:=hg i i (by rw[JB hi]);obtain⟨vs,hv,hd⟩:=Option.bind_eq_some_iff.1 hy;obtain⟨hlv,hgv⟩:=Z7c hv;obtain⟨y0,_,hy0⟩:=hg 0 0 (by rw[JB (by omega)]);obtain⟨vs0,hv0,_⟩:=Option.bind_eq_some_iff.1 hy0;obtain⟨hl0,hg0⟩:=Z7c hv0;obtain⟨u,hu⟩:∃u,vs0[0]?=X u:=⟨vs0[0]'(by omega),JC (by omega)⟩;obtain⟨hs,hb⟩:=ZCd (hg0 0 u hu);obtain⟨b,f,spot⟩:=a;have hs':spot=G:=by simpa[Addr.add]using hs
     have hb':b<W.heap.size:=by simpa[Addr.add]using hb
     subst hs';refine⟨b,f,vs,y.1,y.2,fuel,rfl,hb',hlv,fun j u hu=>?_,hd,by rw[JK,hy1];rfl⟩;have:=hgv j u hu;rw[Z2,Z2]at this;exact this
    ·cases h
  |_=>simp[U,ht]at h
theorem ZCI{fuel:Nat}{t:JN}{fs:Array Field}{us:List JT}{d:DataW H}{ps:List JW}(ht:P.underlying t=X (.struct fs))(h:U enc P W base sp held fuel t us=X (d,ps)) :
  us.length=P.cellsOf t/\∃parts,d=.agg parts/\∀(k:Nat)(f:Field),fs[k]?=X f->∃fuel' d' ps',U enc P W base sp held fuel' f.type ((us.drop f.offset).take (P.cellsOf f.type))=X (d',ps')/\parts[k]?=X d':=by
 cases fuel with
 |zero=>simp[U]at h
 |succ fuel =>
  simp only[U,ht]at h;split at h
  ·rename_i hl
   obtain⟨xs,hm,he⟩:=Option.map_eq_some_iff.1 h;cases he;refine⟨hl,_,rfl,fun k f hf=>?_⟩;obtain⟨_,hg⟩:=Z4u hm;obtain⟨y,hy1,hy⟩:=hg k f (by rw[Array.getElem?_toList];exact hf);exact⟨fuel,y.1,y.2,hy,by rw[JK,hy1];rfl⟩
  ·cases h
end
end Go.Vcg
end
section
namespace Go.Proofs.YtfghidehlnfdiaaGreat
open Go Go.Vcg Go.Trie
namespace Bulk
theorem ZFp{H:Type}(d:DataW H):1<=Rows.uptoBulk d:=by
 cases d with
 |lit l=>cases l<;>simp[Rows.uptoBulk]
 |nil=>simp[Rows.uptoBulk]
 |ptr d=>simp[Rows.uptoBulk]
 |slice elems spare=>simp[Rows.uptoBulk]
 |agg parts=>simp[Rows.uptoBulk]
 |iface t d=>simp[Rows.uptoBulk]
 |map entries=>simp[Rows.uptoBulk]
 |held h=>simp[Rows.uptoBulk]
theorem part_le{H:Type}{d:DataW H}{l:List (DataW H)}(h:d∈l):Rows.uptoBulk d<=Rows.uptoBulkAll l:=by
 induction l with
 |nil=>cases h
 |cons x r ih =>
  simp only[Rows.uptoBulkAll];cases List.mem_cons.1 h with
  |inl e=>subst e;omega
  |inr e=>have:=ih e;omega
theorem length_le{H:Type}(l:List (DataW H)):l.length<=Rows.uptoBulkAll l:=by
 induction l with
 |nil=>simp[Rows.uptoBulkAll]
 |cons x r ih=>have:=ZFp x;simp only[Rows.uptoBulkAll,List.length_cons];omega
theorem slice_elems{H:Type}(elems spare:List (DataW H)):Rows.uptoBulkAll elems+1<=Rows.uptoBulk (.slice elems spare):=by
 simp only[Rows.uptoBulk];omega
theorem agg_parts{H:Type}(parts:List (DataW H)):Rows.uptoBulkAll parts+1<=Rows.uptoBulk (.agg parts):=by
 simp only[Rows.uptoBulk];omega
theorem bound{H:Type}{l:List (DataW H)}(hk:Rows.uptoSmall H l=JX):Rows.uptoBulkAll l<=1048576:=of_decide_eq_true hk
end Bulk
section
variable{H:Type}{enc:JN×JT->H}{W:F}{sp:Nat->Bool}{held:Bool}{base:Nat}
theorem Z6u{fuel:Nat}{v:JT}{d:DataW H}{ps:List JW}(h:U enc O W base sp held fuel 23 [v]=X (d,ps)) :
  ∃o c bs,v=.slice o bs.length c/\bs.length<=c/\RdB W o bs/\bs.length<=Rows.uptoBulk d:=by
 obtain⟨o,c,bs,rfl,h1,h2,h3⟩:=Z87 Zn Z7C (by kernel_rfl) h;refine⟨o,c,bs,rfl,h1,h3,?_⟩;obtain⟨o',l',c',hv,_,_,h4⟩:=Z7B Zn (by kernel_rfl) h;cases hv;rcases h4 with⟨h5,_⟩|⟨elems,spare,rfl,h5,_⟩
 ·rw[h5];omega
 ·rw[<-h5]
  have h6:=Bulk.length_le elems;have h7:=Bulk.slice_elems elems spare;omega
theorem ZD7{fuel:Nat}{t e:JN}{fs:Array Field}{f0 f1:Field}{v:JT}{d:DataW H}{ps:List JW}(ht:Tryz.prog.underlying t=X (.slice e))(hce:Tryz.prog.cellsOf e=2)(he:Tryz.prog.underlying e=X (.struct fs))
  (h0:fs[0]?=X f0) (h1:fs[1]?=X f1) (t0:f0.type=23) (t1:f1.type=23) (o0:f0.offset=0) (o1:f1.offset=1) (h:U enc O W base sp held fuel t [v]=X (d,ps)) :
  ∃o c l,v=.slice o l.length c/\l.length<=c/\StR W o l/\∀x∈l,x.1.length<=Rows.uptoBulk d/\x.2.length<=Rows.uptoBulk d:=by
 obtain⟨o,l,c,rfl,hlc,h4⟩:=Z8l ht hce (by omega) h;rcases h4 with⟨rfl,rfl⟩|⟨elems,spare,rfl,h5,h6⟩
 ·exact⟨o,c,[],rfl,hlc,fun j hj=>absurd hj (by simp),fun x hx=>by cases hx⟩
 ·have hx:∀i,∃x:By×By,i<l->(∃b f ok kk ov kv,o=X ⟨b,f,G⟩/\b<W.heap.size/\W.cell? ⟨b,f+i*2,G⟩=X (.slice ok x.1.length kk)/\RdB W ok x.1/\W.cell? ⟨b,f+(i*2+1),G⟩=X (.slice ov x.2.length kv)/\RdB W ov x.2)/\x.1.length<=Rows.uptoBulk (.slice elems spare)/\x.2.length<=Rows.uptoBulk (.slice elems spare):=fun i=>by
    by_cases hi:i<l
    ·obtain⟨b,f,us,d',ps',fuel',ho,hb,hl,hg,hd,hel⟩:=h6 i hi
     obtain⟨_,parts,rfl,hf⟩:=ZCI he hd
     obtain⟨u0,u1,rfl⟩:∃u0 u1,us=[u0,u1]:=by
      rcases us with _|⟨a,_|⟨b,_|⟨c,r⟩⟩⟩<;>simp at hl ⊢
     obtain⟨fa,da,pa,ha,hpa⟩:=hf 0 f0 h0;obtain⟨fb,db,pb,hb',hpb⟩:=hf 1 f1 h1;rw[t0,o0,show Tryz.prog.cellsOf 23=1 from by kernel_rfl]at ha;rw[t1,o1,show Tryz.prog.cellsOf 23=1 from by kernel_rfl]at hb';obtain⟨ok,kk,key,rfl,_,hrk,hlk⟩:=Z6u ha;obtain⟨ov,kv,val,rfl,_,hrv,hlv⟩:=Z6u hb';have p1:=Bulk.part_le (JF hpa);have p2:=Bulk.part_le (JF hpb);have p3:=Bulk.agg_parts parts;have p4:=Bulk.part_le (JF hel);have p5:=Bulk.slice_elems elems spare;exact⟨(key,val),fun _=>⟨⟨b,f,ok,kk,ov,kv,ho,hb,hg 0 _ rfl,hrk,hg 1 _ rfl,hrv⟩,by show key.length<=_;omega,by show val.length<=_;omega⟩⟩
    ·exact⟨([],[]),fun h=>(hi h).elim⟩
  have hl:((Ja l).map (fun i=>Classical.choose (hx i))).length=l:=by simp
  refine⟨o,c,(Ja l).map (fun i=>Classical.choose (hx i)),by rw[hl],by rw[hl];exact hlc,fun j hj=>?_,fun x hxm=>?_⟩
  ·have hjl:j<l:=by rw[<-hl];exact hj
   have:=(Classical.choose_spec (hx j) hjl).1;simp only[List.getElem_map,List.getElem_range];exact this
  ·obtain⟨i,hi,rfl⟩:=List.mem_map.1 hxm
   exact(Classical.choose_spec (hx i) (List.mem_range.1 hi)).2
end
end Go.Proofs.YtfghidehlnfdiaaGreat
end
