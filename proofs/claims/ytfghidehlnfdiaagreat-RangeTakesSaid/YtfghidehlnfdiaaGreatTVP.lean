/- Contracts of the reference: Pack; a node that is laid down. -/
/- Contracts of the reference: what a build holds; a node that is laid down. -/
/- The reference's build: segments of entries; what two paths share. -/
/- Contracts of the reference: an item; a reference. -/
/- Contracts of the reference: a row's item. -/
/- Contracts of the reference: a branch's item; all items. -/
/- Contracts of the reference: made, Of. -/
/- Contracts of the reference: Put, Find; the plain map. -/
/- The sorted map and its trie: plain Lean. -/
/- Contracts: Find, Nodes, things held against one another. -/
/- States as lists; a round looks at 25 lanes alone. -/
/- The document's example: the law's own check of it. -/
/- The verification conditions of some functions, printed by a program of ours (wip/PrintVc.lean). -/
import Derived.Test.YtfghidehlnfdiaaGreatTR2
import Derived.Test.YtfghidehlnfdiaaGreatKC9
import Derived.Test.YtfghidehlnfdiaaGreatProg
import Derived.KernelRfl
set_option linter.unusedVariables false
set_option linter.unusedSimpArgs false
open Array renaming replicate->Z
open Bool renaming false->J7,true->Jp
open Go renaming Calls->Jb,TypeId->Jj,World->J6,maxLen->Ji
open Go.Addr renaming add->JK
open Go.Ending renaming returned->V
open Go.IntKind renaming i64->JD,u8->JX,wrap->G
open Go.Obj renaming cells->J0
open Go.Proofs.Tryz renaming prog->U
open Go.Sem renaming run->Jd
open Go.Value renaming bool->JJ,int->JC,pointer->Jn,tuple->JI
open Go.World renaming cell?->J2,cell?_of_block->JA
open Int renaming tmod->J5,toNat->J1,toNat_natCast->O
open List renaming append_nil->Jh,drop_drop->Jl,drop_eq_getElem_cons->JM,finRange->I,getElem?_append_left->JN,getElem?_append_right->JL,getElem?_drop->JU,getElem?_eq_getElem->J,getElem_drop->Jf,getElem_mem->X,length->JS,length_append->Y,length_drop->E,length_take->JR,map_append->JT,map_cons->Je,mem_cons->JZ,mem_map->Jg,mem_singleton->JO,pairwise_cons->JV,take_add_one->J4,take_length->Ja,take_of_length_le->JB,take_zero->Jk
open Nat renaming add_assoc->JY,le_refl->JH,le_succ->Jo,lt_of_lt_of_le->J8,sub_self->Jm,zero_add->J9,zero_le->JE
open Option renaming none->W,some->K
open Or renaming inl->JF,inr->J3
open Prod.mk renaming inj->JW
open UInt8 renaming le_iff_toNat_le->Jc,lt_iff_toNat_lt->JQ,ofFin->JG,ofNat->JP
section
namespace Go.Proofs.YtfghidehlnfdiaaGreat
open Go Go.Vcg Go.Trie
theorem ZIV(a b:UInt8)(hb:b.toNat<16):G JX (G JX (16*(a.toNat:Int))+(b.toNat:Int))=((a<<<4|||b).toNat:Int):=by
 have:∀(n:Fin 256)(m:Fin 16),G JX (G JX (16*((JG n).toNat:Int))+(m.val:Int))=((JG n<<<4|||JP m.val).toNat:Int):=by decide +kernel
 have h:=this a.toFin ⟨b.toNat,hb⟩;simp only at h;rw[show JP b.toNat=b by simp]at h;exact h
theorem ZFS{p:By}(h:Nib p)(leaf:Bool):Nib (headed p leaf):=by
 intro x hx;unfold headed at hx;split at hx
 ·rcases List.mem_cons.1 hx with rfl|hx
  ·cases leaf<;>decide
  ·exact h x hx
 ·rcases List.mem_cons.1 hx with rfl|hx
  ·cases leaf<;>decide
  ·rcases List.mem_cons.1 hx with rfl|hx
   ·decide
   ·exact h x hx
section
variable{w:J6}
theorem Z9P{o:Option Addr}{k:Nat}{bs:By}(hr:RdB w o bs)(hl:bs.length<=2^30)(leaf:Bool) :
  Jb U Z0m.n #[.slice o bs.length k,JJ leaf] w (fun e w'=>∃o' k',e=V (JI #[.slice o' (Z8a bs leaf).1.length k',JC JD (Z8a bs leaf).2])/\ZU w w' tU8 1 o' (Z8a bs leaf).1.length k' ((Z8a bs leaf).1.map bV)):=by
 refine ZD fun R hR=>Z0m.vc _ _ _ _ _ _ ?_;unfold Z0m.Vc
 have bad:Z3v bs->R (V (JI #[.slice W 0 0,JC JD 140])) w:=fun h=>by
  refine hR _ _ ⟨W,0,?_,?_⟩
  ·unfold Z8a;rw[if_pos h];rfl
  ·unfold Z8a;rw[if_pos h];exact ZU.nil (Mod.refl w) _ _
 refine⟨fun h=>bad (JF (by omega)),fun h128=>?_⟩;refine⟨fun i w'=>∃j:Nat,i=(j:Int)/\j<=bs.length/\w'=w/\∀x∈bs.take j,x.toNat<16,fun i _=>((bs.length:Int)-i).toNat,⟨0,rfl,JE _,rfl,by simp⟩,?_⟩;rintro _ _ w⟨j,rfl,hj,rfl,hn⟩;refine⟨fun hlt=>?_,fun hge=>?_⟩
 ·have hjl:j<bs.length:=by omega
  obtain⟨b,f,rfl,hb,hc⟩:=Z0t hr hjl;have htk:bs.take (j+1)=bs.take j++[bs[j]]:=by rw[J4,J hjl];rfl
  refine⟨_,rfl,⟨by omega,by omega⟩,_,by rw[Z3,O];exact hc,fun h=>bad (J3 ⟨bs[j],X _,?_⟩),fun h=>⟨⟨j+1,by rw[Z0 (by omega) (by omega)];omega,hjl,rfl,?_⟩,by dsimp only;rw[Z0 (by omega) (by omega)];omega⟩⟩
  ·show(16:UInt8)<=bs[j]
   rw[Jc];show 16<=_;omega
  ·intro x hx
   rw[htk]at hx;rcases List.mem_append.1 hx with hx|hx
   ·exact hn x hx
   ·simp only[JO]at hx;subst hx;omega
 ·obtain rfl:j=bs.length:=by omega
  rw[Ja]at hn;have hnib:Nib bs:=hn
  have hgood:¬Z3v bs:=by
   rintro(h|⟨x,hx,h⟩)
   ·omega
   ·have h1:=hn x hx
    have h2:(16:UInt8)<=x:=h;rw[Jc]at h2;have h3:16<=x.toNat:=h2;omega
  have hpk:Z8a bs leaf=(Z4v (headed bs leaf),0):=by unfold Z8a;rw[if_neg hgood]
  rw[hpk]at hR;refine⟨fun m w'=>m=((Z2F leaf).toNat:Int)/\w'=w,⟨fun h=>⟨by rw[h];rfl,rfl⟩,fun h=>⟨by rw[h];rfl,rfl⟩⟩,?_⟩;rintro _ _ w7⟨rfl,rfl⟩;rintro d8 w9⟨rfl,rfl⟩;have hho:(Z2Y bs leaf).length<=2:=by unfold Z2Y;split<;>simp
  refine⟨fun o' l' k' w'=>∃k0,k'=k0/\l'=(Z2Y bs leaf).length/\ZU w7 w' tU8 1 o' l' k' ((Z2Y bs leaf).map bV),⟨fun hodd=>?_,fun hev=>?_⟩,?_⟩
  ·rintro d11 w12⟨rfl,rfl⟩
   have ho:bs.length%2=1:=by
    have:J5 ((bs.length:Nat):Int) 2=((bs.length%2:Nat):Int):=rfl;omega
   have e:Z2Y bs leaf=[Z2F leaf+1]:=by unfold Z2Y;rw[if_pos ho]
   rw[e];have hw:G JX (((Z2F leaf).toNat:Int)+1)=((Z2F leaf+1).toNat:Int):=by cases leaf<;>decide
   rw[hw];exact⟨_,rfl,rfl,ZU.from_ (Z5K _ [Z2F leaf+1] _ rfl (by simp[Ji])) (Mod.alloc _ _)⟩
  ·have ho:¬bs.length%2=1:=by
     have:J5 ((bs.length:Nat):Int) 2=((bs.length%2:Nat):Int):=rfl;omega
   have e:Z2Y bs leaf=[Z2F leaf,0]:=by unfold Z2Y;rw[if_neg ho]
   rw[e];exact⟨_,rfl,rfl,Z5K _ [Z2F leaf,0] _ rfl (by simp[Ji])⟩
  ·rintro o13 _ _ _ w14⟨c13,rfl,rfl,F14⟩
   obtain⟨o16,k16,w16,hr16,F16⟩:=ZX (ty:=Zw) (k2:=k) F14 (hr.mod' F14.mod) (by omega);rw[<-Z6s]at F16;have hlh:(Z2Y bs leaf).length+bs.length=(headed bs leaf).length:=by rw[Z6s,Y]
   rw[hlh]at hr16 F16;refine⟨_,w16,hr16,_,_,_,rfl,?_⟩;obtain⟨N,hN⟩:=Z6Q bs leaf;have hrh:=ZK F16;have hnh:=ZFS hnib leaf;generalize headed bs leaf=H at *
   refine⟨fun o' l' k' i w'=>∃j:Nat,i=((2*j:Nat):Int)/\j<=N/\l'=(Z4v (H.take (2*j))).length/\ZU w16 w' tU8 1 o' l' k' ((Z4v (H.take (2*j))).map bV),fun _ _ _ i _=>((H.length:Int)-i).toNat,
    ⟨0,rfl,JE _,rfl,ZU.nil (Mod.refl w16) _ _⟩,?_⟩
   rintro o' _ k' _ _ w23⟨j,rfl,hj,rfl,F⟩;refine⟨fun hlt=>?_,fun hge=>?_⟩
   ·rintro _ rfl
    have h1:2*j<H.length:=by omega
    have h2:2*j+1<H.length:=by omega
    have F24:=F.mod' (Mod.drew (S:=NoB) w23);obtain⟨b,f,rfl,hb,hc1⟩:=Z0t hrh h1;obtain⟨b',f',hb',_,hc2⟩:=Z0t hrh h2;cases hb';have e1:G JD (((2*j:Nat):Int)+1)=((2*j+1:Nat):Int):=by rw[Z0 (by omega) (by omega)];omega
    have e2:G JD (((2*j:Nat):Int)+2)=((2*(j+1):Nat):Int):=by rw[Z0 (by omega) (by omega)];omega
    rw[e1,e2];refine⟨_,rfl,⟨by omega,by omega⟩,_,by rw[Z3,O];exact(ZN F24.mod hb (fun h=>h)).trans hc1,_,rfl,⟨by omega,by omega⟩,_,by rw[Z3,O];exact(ZN F24.mod hb (fun h=>h)).trans hc2,?_⟩;rw[ZIV _ _ (hnh _ (X _))];rintro d29 w30⟨rfl,rfl⟩
    have htk:H.take (2*(j+1))=H.take (2*j)++[H[2*j],H[2*j+1]]:=by
     rw[show 2*(j+1)=2*j+1+1 by omega,J4,J4,J h1,J h2,List.append_assoc];rfl
    have htl:(H.take (2*j)).length=2*j:=by rw[JR];omega
    have hps:=Z7m j (H.take (2*j)) H[2*j] H[2*j+1] htl;have hpl:=Z71 j (H.take (2*j)) htl
    have one:RdB (w23.drew.alloc (J0 #[JC JX ((H[2*j]<<<4|||H[2*j+1]).toNat:Int)] 5)) (K ⟨w23.drew.heap.size,0,W⟩) [H[2*j]<<<4|||H[2*j+1]] :=
     RdB.of_blk (Blk.new w23.drew 5 #[bV (H[2*j]<<<4|||H[2*j+1])]) (fun i hi=>by
      obtain rfl:i=0:=by simpa using hi
      rfl)
    obtain⟨o31,k31,w31,hr31,F31⟩:=ZX (ty:=Zw) (k2:=1) (F24.mod' (Mod.alloc _ _)) one (by simp;omega);refine⟨_,w31,hr31,_,_,_,rfl,⟨j+1,rfl,by omega,?_,?_⟩,by dsimp only;omega⟩
    ·rw[htk,hps,Y]
    ·rw[htk,hps];exact F31
   ·obtain rfl:j=N:=by omega
    rw[JB (by omega)]at F ⊢;exact hR _ _ ⟨_,_,rfl,ZU.from_ F F16.mod⟩
end
abbrev tRn:Jj:=62
abbrev ZHX:Jj:=28
theorem ZF0:Tryz.prog.underlying ZHX=K (.slice tRn):=by kernel_rfl
theorem ZJd:(Tryz.prog.info? tRn).map (fun i=>(i.zero,i.size,i.bytes))=K (K (.agg nd0),33,56):=by kernel_rfl
section
variable{C:Type}{S:C->Prop}{w0 w w1 w':J6}{lab lab':Nat->C}{c cb:C}
def Z8q(w:J6)(lab:Nat->C)(c cb:C)(l:List (By×By))(o:Option Addr)(n k:Nat):Prop :=
 n=l.length/\∃vs,COw w lab c tRn 33 o n k vs/\Z0S w lab cb vs l
theorem Z8q.nil(w:J6)(lab:Nat->C)(c cb:C):Z8q w lab c cb [] W 0 0:=⟨rfl,[],COw.nil w lab c _ _,Z0S.nil w lab cb⟩
theorem Z8q.stp{l:List (By×By)}{o:Option Addr}{n k:Nat}(h:Z8q w lab c cb l o n k)(s:Stp S w lab w' lab')(hs:¬S c)(hb:¬S cb):Z8q w' lab' c cb l o n k:=by
 obtain⟨h1,vs,h2,h3⟩:=h;exact⟨h1,vs,h2.stp s hs,h3.stp s hb⟩
theorem Z8q.push{l:List (By×By)}{o:Option Addr}{n k D:Nat}{h b:By}{ob:Option Addr}{kb:Nat}(H:Z8q w lab c cb l o n k)(hcb:cb≠c)(B:Blk w D tRn (ndA h ob b.length kb))(hh:h.length=32)(hb:CBy w lab cb ob b)(hk:b.length<=kb)(hl:l.length<=2^20) :
  ∃o' k' w',Jd U (builtinV .append #[ZHX,ZHX] ZHX #[.slice o n k,.slice (K ⟨D,0,W⟩) 1 1]) w=.ok (.slice o' (n+1) k') w' /\
   Z8q w' (ext lab w.heap.size c) c cb (l++[(h,b)]) o' (n+1) k'/\Stp (·=c) w lab w' (ext lab w.heap.size c):=by
 obtain⟨rfl,vs,hO,hC⟩:=H;obtain⟨i,hi,hz,hs,hbt⟩:=Z2Q ZJd;obtain⟨o',k',w',h1,h2,h3⟩:=COw.append (ty:=ZHX) ZF0 hi hz hs (by rfl) hO (Z52 ZF0 B (Z5t _ _ _ _) (ZDb _ _ _ _)) (by simp only[Ji];omega) (by rw[hbt];omega);exact⟨o',k',w',h1,⟨by simp,_,h2,(hC.push hh hb hk).stp h3 hcb⟩,h3⟩
theorem Z0S.hash{vs:List Value}{l:List (By×By)}{o:Option Addr}(h:Z0S w lab cb vs l)(hR:ZBZ w lab c o vs){j:Nat}(hj:j<l.length):∃g f,o=K ⟨g,f,W⟩/\g<w.heap.size/\lab g=c/\ZG w ⟨g,f+j*33,W⟩ 32 (hashA l[j].1):=by
 obtain⟨h1,h2,ob,kb,h3,h4⟩:=h.2 j hj;obtain⟨g,f,ho,hg,hl,hc⟩:=hR _ _ h3;refine⟨g,f,ho,hg,hl,ZB _,fun i hi=>?_⟩;obtain⟨g',f',ho',_,_,hc'⟩:=hR _ _ (h2 i hi);rw[ho]at ho';cases ho';rw[Z3,show f+j*33+i=f+(j*33+i) by omega,hc'];show _=(ZR 32 (fun i=>bV (l[j].1.getD i 0)))[i]?;rw[ZF hi]
theorem Z0S.bytes{vs:List Value}{l:List (By×By)}{o:Option Addr}(h:Z0S w lab cb vs l)(hR:ZBZ w lab c o vs){j:Nat}(hj:j<l.length):∃g f,o=K ⟨g,f,W⟩/\g<w.heap.size/\∃ob kb,w.cell? ⟨g,f+(j*33+32),W⟩=K (.slice ob l[j].2.length kb)/\CBy w lab cb ob l[j].2/\l[j].2.length<=kb:=by
 obtain⟨h1,h2,ob,kb,h3,h4⟩:=h.2 j hj;obtain⟨g,f,ho,hg,hl,hc⟩:=hR _ _ h3;exact⟨g,f,ho,hg,ob,kb,hc,h4⟩
end
abbrev ZHV:Jj:=118
structure BS (w:J6) (L:Nat->Nat) (d0:Nat) (es:List (By×By)) (out:List (By×By)):Prop where
 ex:∃ol cl op cp on nn kn,CB w L 1 d0 ZHV #[.slice ol es.length cl,.slice op es.length cp,.slice on nn kn,JJ J7] /\
  (∀(j:Nat)(hj:j<es.length),∃b f ov kv,ol=K ⟨b,f,W⟩/\b<w.heap.size/\L b=6/\w.cell? ⟨b,f+(j*2+1),W⟩=K (.slice ov es[j].2.length kv)/\CBy w L 6 ov es[j].2) /\
  (∀(j:Nat)(hj:j<es.length),∃b f o k,op=K ⟨b,f,W⟩/\b<w.heap.size/\L b=7/\w.cell? ⟨b,f+j,W⟩=K (.slice o es[j].1.length k)/\es[j].1.length<=k/\CBy w L 5 o es[j].1) /\
  Z8q w L 4 5 out on nn kn
theorem BS.stp{S:Nat->Prop}{w w':J6}{L L':Nat->Nat}{d0:Nat}{es out:List (By×By)}(h:BS w L d0 es out)(s:Stp S w L w' L')(h1:¬S 1)(h4:¬S 4)(h5:¬S 5)(h6:¬S 6)(h7:¬S 7):BS w' L' d0 es out:=by
 obtain⟨ol,cl,op,cp,on,nn,kn,a,b,c,d⟩:=h.ex;refine⟨⟨ol,cl,op,cp,on,nn,kn,a.stp s h1,fun j hj=>?_,fun j hj=>?_,d.stp s h4 h5⟩⟩
 ·obtain⟨g,f,ov,kv,e1,e2,e3,e4,e5⟩:=b j hj
  exact⟨g,f,ov,kv,e1,J8 e2 s.size,(s.lab g e2).trans e3,(JA (s.block g e2 (by rw[e3];exact h6))).trans e4,e5.stp s h6⟩
 ·obtain⟨g,f,o,k,e1,e2,e3,e4,e5,e6⟩:=c j hj
  exact⟨g,f,o,k,e1,J8 e2 s.size,(s.lab g e2).trans e3,(JA (s.block g e2 (by rw[e3];exact h7))).trans e4,e5,e6.stp s h5⟩
theorem BS.mod'{w w':J6}{L:Nat->Nat}{d0:Nat}{es out:List (By×By)}(h:BS w L d0 es out)(M:Vcg.Mod NoB w w')(q:Nat):BS w' (ext L w.heap.size q) d0 es out :=
 h.stp (S:=NoS) (Stp.of_nob M q) (fun h=>h) (fun h=>h) (fun h=>h) (fun h=>h) (fun h=>h)
abbrev SB1:Nat->Prop:=fun k=>k=1\/k=4
theorem ZAW{w:J6}{L:Nat->Nat}{d0 k:Nat}{es out:List (By×By)}{o:Option Addr}{x h:By}(hB:BS w L d0 es out)(hx:CBy w L 5 o x)(hh:h.length=32)(hk:x.length<=k)(hl:out.length<=2^20) :
  Jb U Zp.n #[Jn (K ⟨d0,0,W⟩),.agg (hashA h),.slice o x.length k] w (fun e w'=>e=V (JI #[])/\∃L',Stp SB1 w L w' L'/\(∀k,w.heap.size<=k->L' k=4\/L' k=5)/\BS w' L' d0 es (if met out h then out else out++[(h,x)])):=by
 refine ZD fun R hR=>Zp.vc _ _ _ _ _ _ _ ?_;unfold Zp.Vc;rintro d3 w1⟨rfl,rfl⟩;have M1:=Mod.alloc (S:=NoB) w (J0 (hashA h) 27);have H1:=Blk.new w 27 (hashA h);generalize w.alloc (J0 (hashA h) 27)=w1 at *
 refine⟨fun w'=>Vcg.Mod NoB w1 w'/\met out h=J7,⟨fun i w'=>∃j:Nat,i=(j:Int)/\j<=out.length/\Vcg.Mod NoB w1 w'/\met (out.take j) h=J7,fun i _=>((out.length:Int)-i).toNat,⟨0,rfl,JE _,Mod.refl _,rfl⟩,?_⟩,?_⟩
 ·rintro _ _ w2⟨j,rfl,hj,M2,hm⟩
  have M02:=M1.trans M2 (fun _ _ h=>h);have B2:=hB.mod' M02 5;obtain⟨ol,cl,op,cp,on,nn,kn,c1,c2,c3,c4⟩:=B2.ex;obtain⟨rfl,vs,O1,O2⟩:=c4;simp only[Z3,J9];refine⟨_,_,_,c1.blk.rd1 rfl,fun hlt=>⟨_,c1.blk.rd1 rfl,fun _=>?_,fun h=>by cases h⟩,fun hge=>⟨M2,?_⟩⟩
  ·rintro _ rfl
   have MD:=Mod.drew (S:=NoB) w2;have hjl:j<out.length:=by omega
   obtain⟨g,f,rfl,hg,_,hrow⟩:=O2.hash O1.row hjl;have hrow':ZG w2.drew (JK ⟨g,f,W⟩ (J1 (j:Int)*33)) 32 (hashA out[j].1):=by rw[Z3,O];exact hrow
   have hlen:=(O2.2 j hjl).1;have htk:out.take (j+1)=out.take j++[out[j]]:=by rw[J4,J hjl];rfl
   have hm2:met (out.take (j+1)) h=decide (out[j].1=h):=by
    rw[htk];unfold met at hm ⊢;rw[List.any_append,hm];simp
   refine⟨_,_,_,(c1.blk.mod' MD).rd1 rfl,_,rfl,⟨by omega,by omega⟩,_,hrow',_,(H1.mod' (M2.trans MD (fun _ _ h=>h))).rowAll (ZB _),_,ZB1 _ _ hlen hh,_,rfl,fun he=>?_,fun he=>?_⟩
   ·have hmt:met out h=Jp:=by
      unfold met;exact List.any_eq_true.2 ⟨out[j],X _,he⟩
    rw[hmt,if_pos rfl]at hR;exact hR _ _ ⟨rfl,_,(Stp.of_nob (M02.trans MD (fun _ _ h=>h)) 5).mono (S:=NoS) (fun _ h=>h.elim),fun k hk=>J3 (ext_new hk),hB.mod' (M02.trans MD (fun _ _ h=>h)) 5⟩
   ·exact⟨⟨j+1,by rw[Z0 (by omega) (by omega)];omega,hjl,M2.trans MD (fun _ _ h=>h),by rw[hm2];exact he⟩,by rw[Z0 (by omega) (by omega)];omega⟩
  ·rw[JB (by omega)]at hm;exact hm
 ·rintro _ w2⟨M2,hm⟩
  rintro _ rfl;rw[hm]at hR;simp only[Bool.false_eq_true,if_false]at hR;have M3:=M2.step_drew;have M03:=M1.trans M3 (fun _ _ h=>h);have H3:=H1.mod' M3;have B3:=hB.mod' M03 5;have s03:Stp NoS w L w2.drew (ext L w.heap.size 5):=Stp.of_nob M03 5;have hx3:=hx.stp s03 (fun h=>h);have hnew3:∀k,w.heap.size<=k->ext L w.heap.size 5 k=4\/ext L w.heap.size 5 k=5:=fun k hk=>J3 (ext_new hk);have hsz3:=M03.size;generalize w2.drew=w3 at *
  generalize ext L w.heap.size 5=L3 at *
  obtain⟨ol,cl,op,cp,on,nn,kn,c1,c2,c3,c4⟩:=B3.ex;have hZ:nd0.size=33:=rfl;simp only[Z3,J9];refine⟨_,_,_,c1.blk.rd1 rfl,_,H3.rowAll (ZB _),ZB _,by rw[Zi];unfold lputL;rw[Zi,hZ],?_⟩;rw[ZEe hZ];rintro d w4⟨rfl,rfl⟩;have M4:=Mod.alloc (S:=NoB) w3 (J0 (ndA h o x.length k) tRn);have N4:=Blk.new w3 tRn (ndA h o x.length k);have s4:Stp NoS w3 L3 (w3.alloc (J0 (ndA h o x.length k) tRn)) (ext L3 w3.heap.size 5):=Stp.of_nob M4 5;show J2 (w3.alloc (J0 (ndA h o x.length k) tRn)) _=_/\∃(v30:Value)(w31:J6),Jd U (builtinV .append #[28,28] 28 #[(.slice on nn kn),(.slice (K ⟨w3.heap.size,0,W⟩) 1 1)]) (w3.alloc (J0 (ndA h o x.length k) tRn))=.ok v30 w31/\_
  have hnew4:∀k,w.heap.size<=k->ext L3 w3.heap.size 5 k=4\/ext L3 w3.heap.size 5 k=5:=fun k hk=>by
   by_cases hlt:k<w3.heap.size
   ·rw[Z1M hlt];exact hnew3 k hk
   ·exact J3 (ext_new (by omega))
  have hsz4:=M4.size;generalize w3.alloc (J0 (ndA h o x.length k) tRn)=w4 at *
  have B4:=B3.stp s4 (fun h=>h) (fun h=>h) (fun h=>h) (fun h=>h) (fun h=>h);have c14:=c1.stp s4 (fun h=>h);have c44:=c4.stp s4 (fun h=>h) (fun h=>h);have hx4:=hx3.stp s4 (fun h=>h);generalize ext L3 w3.heap.size 5=L4 at *
  refine⟨c14.blk.rd1 rfl,?_⟩;obtain⟨o',k',w5,hr5,O5,s5⟩:=c44.push (by decide) N4 hh hx4 hk hl
  have hnew5:∀k,w.heap.size<=k->ext L4 w4.heap.size 4 k=4\/ext L4 w4.heap.size 4 k=5:=fun k hk=>by
   by_cases hlt:k<w4.heap.size
   ·rw[Z1M hlt];exact hnew4 k hk
   ·exact JF (ext_new (by omega))
  have c15:=c14.stp s5 (by decide);have B5:∀(j:Nat)(hj:j<es.length),_:=fun j hj=>c2 j hj;have s35:=(s4.mono (T:=fun k=>k=4) (fun _ h=>h.elim)).trans s5;generalize ext L4 w4.heap.size 4=L5 at *
  refine⟨_,w5,hr5,o',_,k',rfl,c15.blk.canSet (by simp) rfl,?_⟩;rintro _ rfl;have s6:Stp (fun k=>k=1) w5 L5 (w5.setCell ⟨d0,2,W⟩ (.slice o' (nn+1) k')) L5:=Stp.setCell c15.clr;have s36:Stp SB1 w3 L3 (w5.setCell ⟨d0,2,W⟩ (.slice o' (nn+1) k')) L5:=(s35.mono (fun _ h=>J3 h)).trans (s6.mono (fun _ h=>JF h));refine hR _ _ ⟨rfl,L5,(s03.mono (fun _ h=>h.elim)).trans s36,hnew5,⟨⟨ol,cl,op,cp,o',nn+1,k',c15.set 2 _,fun j hj=>?_,fun j hj=>?_,O5.stp s6 (by decide) (by decide)⟩⟩⟩
  ·obtain⟨g,f,ov,kv,e1,e2,e3,e4,e5⟩:=c2 j hj
   exact⟨g,f,ov,kv,e1,J8 e2 s36.size,(s36.lab g e2).trans e3,(JA (s36.block g e2 (by rw[e3];decide))).trans e4,e5.stp s36 (by decide)⟩
  ·obtain⟨g,f,o,k,e1,e2,e3,e4,e5,e6⟩:=c3 j hj
   exact⟨g,f,o,k,e1,J8 e2 s36.size,(s36.lab g e2).trans e3,(JA (s36.block g e2 (by rw[e3];decide))).trans e4,e5,e6.stp s36 (by decide)⟩
end Go.Proofs.YtfghidehlnfdiaaGreat
end
section
namespace Go.Trie
def seg(es:List (By×By))(a b i:Nat):List (By×By):=((es.drop a).take (b-a)).map fun e=>(e.1.drop i,e.2)
structure Z6f (es:List (By×By)) (a b i:Nat):Prop where
 lt:a<b
 le:b<=es.length
 len:∀(j:Nat)(hj:j<es.length),a<=j->j<b->i<=es[j].1.length
theorem Z4I{es:List (By×By)}{a b i:Nat}(h:b<=es.length):(seg es a b i).length=b-a:=by
 unfold seg;rw[List.length_map,JR,E];omega
theorem Z9X{es:List (By×By)}{a b i j:Nat}(h:b<=es.length)(hj:a+j<b):(seg es a b i)[j]?=K (es[a+j].1.drop i,es[a+j].2):=by
 unfold seg;rw[List.getElem?_map,List.getElem?_take,if_pos (by omega),JU,J (by omega)];rfl
theorem Z5c(es:List (By×By))(a i:Nat):seg es a a i=[]:=by unfold seg;rw[Jm,Jk];rfl
theorem Z6a{es:List (By×By)}{a b i:Nat}(h:b<=es.length){x:By×By}(hx:x∈seg es a b i):∃(j:Nat) (hj:j<es.length),a<=j/\j<b/\x=(es[j].1.drop i,es[j].2):=by
 obtain⟨j,hj⟩:=List.mem_iff_getElem?.1 hx
 have hl:j<(seg es a b i).length:=by
  rcases Nat.lt_or_ge j (seg es a b i).length with h|h
  ·exact h
  ·rw[List.getElem?_eq_none h]at hj;cases hj
 rw[Z4I h]at hl;rw[Z9X h (by omega)]at hj;exact⟨a+j,by omega,by omega,by omega,(Option.some.inj hj).symm⟩
theorem ZDa{es:List (By×By)}{a b i j:Nat}(h:b<=es.length)(h1:a<=j)(h2:j<b):(es[j].1.drop i,es[j].2)∈seg es a b i:=by
 have:=Z9X (a:=a) (b:=b) (i:=i) (j:=j-a) h (by omega);simp only[show a+(j-a)=j by omega]at this;exact List.mem_of_getElem? this
theorem Z3D{es:List (By×By)}{a b i:Nat}(h:Z6f es a b i):(seg es a b i).head?=K ((es[a]'(by have:=h.lt;have:=h.le;omega)).1.drop i,(es[a]'(by have:=h.lt;have:=h.le;omega)).2):=by
 have:=Z9X (a:=a) (b:=b) (i:=i) (j:=0) h.le (by have:=h.lt;omega);rw[List.head?_eq_getElem?,this];rfl
theorem Z8d{es:List (By×By)}{a b i:Nat}(h:Z6f es a b i):(seg es a b i).getLast?=K ((es[b-1]'(by have:=h.lt;have:=h.le;omega)).1.drop i,(es[b-1]'(by have:=h.lt;have:=h.le;omega)).2):=by
 have h1:=h.lt;have:=Z9X (a:=a) (b:=b) (i:=i) (j:=b-1-a) h.le (by omega);rw[List.getLast?_eq_getElem?,Z4I h.le,show b-a-1=b-1-a by omega,this];simp only[show a+(b-1-a)=b-1 by omega]
theorem ZBN(es:List (By×By))(a b i j:Nat):seg es a b (i+j)=(seg es a b i).map fun x=>(x.1.drop j,x.2):=by
 unfold seg;rw[List.map_map];congr 1;funext e;simp[Jl]
theorem Z1c{es:List (By×By)}{a m b i:Nat}(h1:a<=m)(h2:m<=b):seg es a b i=seg es a m i++seg es m b i:=by
 unfold seg;rw[<-JT];congr 1;have:b-a=(m-a)+(b-m):=by omega
 rw[this,List.take_add,Jl,show a+(m-a)=m by omega]
theorem ZBO{es:List (By×By)}{a b i:Nat}(h:Z6f es a b i):seg es a b i=((es[a]'(by have:=h.lt;have:=h.le;omega)).1.drop i,(es[a]'(by have:=h.lt;have:=h.le;omega)).2)::seg es (a+1) b i:=by
 have h1:=h.lt;have h2:=h.le;unfold seg;rw[JM (by omega:a<es.length),show b-a=(b-(a+1))+1 by omega,List.take_succ_cons,Je]
def kidsN:Nd->List (By×By)->List (By×By)
 | .row _ c,out=>Z2L c J7 out
 | .branch cs _,out=>(I 16).foldl (fun o i=>Z2L (cs i) J7 o) out
 |_,out=>out
theorem ZAl{n:Nd}(h:n≠.nil)(top:Bool)(out:List (By×By)):Z2L n top out=Z3Q (kidsN n out) top (bytesOf n):=by
 cases n with
 |nil=>exact(h rfl).elim
 |leaf p v=>rfl
 |row p c=>rfl
 |branch cs v=>rfl
theorem kids_len{n:Nd}(out:List (By×By)):(kidsN n out).length<=out.length+cnt n:=by
 cases n with
 |nil=>simp[kidsN]
 |leaf p v=>simp[kidsN]
 |row p c =>
  have:=Z4g c J7 out;simp only[kidsN,cnt];omega
 |branch cs v =>
  have:=Z6p (fun i out=>Z4g (cs i) J7 out) (I 16) out;simp only[kidsN,cnt];omega
end Go.Trie
end
section
namespace Go.Proofs.YtfghidehlnfdiaaGreat
open Go Go.Vcg Go.Trie
abbrev SI(i:Nat):Nat->Prop:=fun k=>k=1\/k=4\/8+i<=k
theorem Z8b{w:J6}{L:Nat->Nat}{q:Nat}{o:Option Addr}{l k:Nat}{b c:By}{o2:Option Addr}{k2:Nat}{ty:Jj}(h:COw w L q tU8 1 o l k (b.map bV))(hr:RdB w o2 c)(hn:l+c.length<=2^40) :
  ∃o' k' w',Jd U (builtinV .append #[Zw,Zw] ty #[.slice o l k,.slice o2 c.length k2]) w=.ok (.slice o' (l+c.length) k') w'/\COw w' (ext L w.heap.size q) q tU8 1 o' (l+c.length) k' ((b++c).map bV)/\Stp (·=q) w L w' (ext L w.heap.size q):=by
 obtain⟨i,hi,hz,hs,hb⟩:=Z2Q Z7h;rw[JT];exact COw.append ZW hi hz hs rfl h (Z7G ZW hr) (by simp only[Ji];omega) (by rw[hb];omega)
theorem ZJC{w:J6}{L:Nat->Nat}{d0 a b i:Nat}{es out:List (By×By)}(hB:BS w L d0 es out)(hok:Z6f es a b i)(hlen:∀e∈es,e.1.length<=128)(hle:es.length<=2^20)(hi:i<=128){J45:Int->J6->Prop}
  (hJ:∀w',Vcg.Mod NoB w w'->J45 (shared ((es[a]'(by have:=hok.lt;have:=hok.le;omega)).1.drop i) ((es[b-1]'(by have:=hok.lt;have:=hok.le;omega)).1.drop i):Int) w') :
  ∃(I46:Int->J6->Prop)(μ46:Int->J6->Nat),I46 0 w /\
   (∀(n47:Int)(j48:Nat->Value)(w48:J6),I46 n47 w48 ->
     ∀w49:J6,ZJ w48 w49 ->
     ∃o50:Option Addr,∃l51:Nat,∃l52:Nat,J2 w49 (JK ⟨d0,0,W⟩ 1)=K (.slice o50 l51 l52) /\
     ∃d53:Addr,o50=K d53 /\
     ((0:Int)<=(a:Int)/\(a:Int)<((l51:Nat):Int)) /\
     ∃o54:Option Addr,∃l55:Nat,∃l56:Nat,J2 w49 (JK d53 (J1 (a:Int)))=K (.slice o54 l55 l56) /\
     (((((l55:Nat):Int)>(G JD ((i:Int)+n47)) ->
       ∃o57:Option Addr,∃l58:Nat,∃l59:Nat,J2 w49 (JK ⟨d0,0,W⟩ 1)=K (.slice o57 l58 l59) /\
       ∃d60:Addr,o57=K d60 /\
       ((0:Int)<=(G JD ((b:Int)-1))/\(G JD ((b:Int)-1))<((l58:Nat):Int)) /\
       ∃o61:Option Addr,∃l62:Nat,∃l63:Nat,J2 w49 (JK d60 (J1 (G JD ((b:Int)-1))))=K (.slice o61 l62 l63) /\
       (((((l62:Nat):Int)>(G JD ((i:Int)+n47)) ->
         ∃o64:Option Addr,∃l65:Nat,∃l66:Nat,J2 w49 (JK ⟨d0,0,W⟩ 1)=K (.slice o64 l65 l66) /\
         ∃d67:Addr,o64=K d67 /\
         ((0:Int)<=(a:Int)/\(a:Int)<((l65:Nat):Int)) /\
         ∃o68:Option Addr,∃l69:Nat,∃l70:Nat,J2 w49 (JK d67 (J1 (a:Int)))=K (.slice o68 l69 l70) /\
         ∃d71:Addr,o68=K d71 /\
         ((0:Int)<=(G JD ((i:Int)+n47))/\(G JD ((i:Int)+n47))<((l69:Nat):Int)) /\
         ∃n72:Int,J2 w49 (JK d71 (J1 (G JD ((i:Int)+n47))))=K (JC JX n72) /\
         ∃o73:Option Addr,∃l74:Nat,∃l75:Nat,J2 w49 (JK ⟨d0,0,W⟩ 1)=K (.slice o73 l74 l75) /\
         ∃d76:Addr,o73=K d76 /\
         ((0:Int)<=(G JD ((b:Int)-1))/\(G JD ((b:Int)-1))<((l74:Nat):Int)) /\
         ∃o77:Option Addr,∃l78:Nat,∃l79:Nat,J2 w49 (JK d76 (J1 (G JD ((b:Int)-1))))=K (.slice o77 l78 l79) /\
         ∃d80:Addr,o77=K d80 /\
         ((0:Int)<=(G JD ((i:Int)+n47))/\(G JD ((i:Int)+n47))<((l78:Nat):Int)) /\
         ∃n81:Int,J2 w49 (JK d80 (J1 (G JD ((i:Int)+n47))))=K (JC JX n81) /\
         (((n72=n81 ->
           I46 (G JD (n47+1)) w49/\μ46 (G JD (n47+1)) w49<μ46 n47 w48)) /\
          ((n72≠n81 ->
           J45 n47 w49))))) /\
        ((¬((l62:Nat):Int)>(G JD ((i:Int)+n47)) ->
         J45 n47 w49))))) /\
      ((¬((l55:Nat):Int)>(G JD ((i:Int)+n47)) ->
       J45 n47 w49)))):=by
 have h1:=hok.lt;have h2:=hok.le;have ha:a<es.length:=by omega
 have hb:b-1<es.length:=by omega
 have la:=hok.len a ha (JH _) h1;have lb:=hok.len (b-1) hb (by omega) (by omega);have l1:=hlen _ (X ha);have l2:=hlen _ (X hb);generalize hf:es[a].1=f at *
 generalize hg:es[b-1].1=g at *
 have hfl:(f.drop i).length=f.length-i:=E;have hgl:(g.drop i).length=g.length-i:=E;refine⟨fun n w'=>∃j:Nat,n=(j:Int)/\i+j<=f.length/\i+j<=g.length/\(f.drop i).take j=(g.drop i).take j/\Vcg.Mod NoB w w',fun n _=>((129:Int)-n).toNat,⟨0,rfl,by omega,by omega,rfl,Mod.refl w⟩,?_⟩;rintro _ _ w1⟨j,rfl,hjf,hjg,ht,M⟩;rintro _ rfl;have M2:=M.step_drew
 have fin:(j=(f.drop i).length\/j=(g.drop i).length\/∃(x:j<(f.drop i).length)(y:j<(g.drop i).length),(f.drop i)[j]≠(g.drop i)[j])->J45 (j:Int) w1.drew:=fun h=>by
  have:=hJ _ M2;rw[ZCi ht (by omega) (by omega) h]at this;exact this
 obtain⟨ol,cl,op,cp,on,nn,kn,c1,c2,c3,c4⟩:=(hB.mod' M2 5).ex;have hc:J2 w1.drew ⟨d0,1,W⟩=K (.slice op es.length cp):=c1.blk.rd1 rfl;obtain⟨g1,f1,o1,k1,e1,e2,e3,e4,e5,e6⟩:=c3 a ha;obtain⟨g2,f2,o2,k2,e1',e2',e3',e4',e5',e6'⟩:=c3 (b-1) hb;subst e1;cases e1';rw[hf]at e4 e5 e6;rw[hg]at e4' e5' e6';have ew:G JD ((i:Int)+(j:Int))=((i+j:Nat):Int):=by rw[Z0 (by omega) (by omega)];omega
 have eb:G JD ((b:Int)-1)=((b-1:Nat):Int):=by rw[Z0 (by omega) (by omega)];omega
 simp only[ew,eb,Z3,J9,O];refine⟨_,_,_,hc,_,rfl,⟨by omega,by omega⟩,_,_,_,by rw[Z3];exact e4,fun hlf=>⟨_,_,_,hc,_,rfl,⟨by omega,by omega⟩,_,_,_,by rw[Z3];exact e4',fun hlg=>?_,fun hlg=>fin (J3 (JF (by omega)))⟩,fun hlf=>fin (JF (by omega))⟩;have hjf':i+j<f.length:=by omega
 have hjg':i+j<g.length:=by omega
 obtain⟨pb,pf,rfl,hpb,hpc⟩:=Z0t e6.rd hjf';obtain⟨qb,qf,rfl,hqb,hqc⟩:=Z0t e6'.rd hjg';refine⟨_,_,_,hc,_,rfl,⟨by omega,by omega⟩,_,_,_,by rw[Z3];exact e4,_,rfl,⟨by omega,by omega⟩,_,by rw[Z3];exact hpc,_,_,_,hc,_,rfl,⟨by omega,by omega⟩,_,_,_,by rw[Z3];exact e4',_,rfl,⟨by omega,by omega⟩,_,by rw[Z3];exact hqc,fun he=>?_,fun he=>fin (J3 (J3 ⟨by omega,by omega,?_⟩))⟩
 ·have hab:f[i+j]=g[i+j]:=UInt8.toNat_inj.1 (by exact_mod_cast he)
  refine⟨⟨j+1,by rw[Z0 (by omega) (by omega)];omega,by omega,by omega,?_,M2⟩,by rw[Z0 (by omega) (by omega)];omega⟩;rw[J4,J4,ht,JU,JU,J hjf',J hjg',hab]
 ·rw[Jf,Jf]
  exact fun e=>he (by rw[e])
structure EsOk (es:List (By×By)):Prop where
 len:es.length<=2^20
 paths:∀e∈es,e.1.length<=128
 vals:∀e∈es,e.2.length<=1024
theorem enc2(x y:It):enc (.l [x,y])=Trie.Z3P ((enc x).length+(enc y).length) 192++(enc x++enc y):=by
 simp[enc,Z1r]
def ZFv(n:Nd):Prop:=∀⦃w:J6⦄ ⦃L:Nat->Nat⦄ ⦃d0 a b i:Nat⦄ ⦃es out:List (By×By)⦄,BS w L d0 es out->EsOk es->Z6f es a b i->Rep (seg es a b i) n->out.length+cnt n<=2^20 ->
 Jb U ZP.n #[Jn (K ⟨d0,0,W⟩),JC JD (a:Int),JC JD (b:Int),JC JD (i:Int)] w (fun e w'=>∃o k,e=V (.slice o (bytesOf n).length k)/\∃L',Stp (SI i) w L w' L'/\BS w' L' d0 es (kidsN n out)/\CBy w' L' 5 o (bytesOf n)/\(bytesOf n).length<=k)
def ZKL(n:Nd):Prop:=∀⦃w:J6⦄ ⦃L:Nat->Nat⦄ ⦃d0 a b i:Nat⦄ ⦃es out:List (By×By)⦄,BS w L d0 es out->EsOk es->Z6f es a b i->Rep (seg es a b i) n->out.length+cnt n<=2^20 ->
 Jb U Zv.n #[Jn (K ⟨d0,0,W⟩),JC JD (a:Int),JC JD (b:Int),JC JD (i:Int)] w (fun e w'=>∃o k,e=V (.slice o (enc (Z2U n)).length k)/\∃L',Stp (SI i) w L w' L'/\BS w' L' d0 es (Z2L n J7 out)/\CBy w' L' 5 o (enc (Z2U n)))
theorem ZI1{i:Nat}:¬SI i 5/\¬SI i 6/\¬SI i 7:=⟨by rintro(h|h|h)<;>omega,by rintro(h|h|h)<;>omega,by rintro(h|h|h)<;>omega⟩
theorem ZHB{n:Nd}(hI:ZFv n)(hn:n≠.nil)(hs:Z58 n):ZKL n:=by
 intro w L d0 a b i es out hB hE hok hR hl;refine ZD fun R hR'=>Zv.vc _ _ _ _ _ _ ?_;unfold Zv.Vc;refine(hI hB hE hok hR hl).mono ?_;rintro _ w1⟨o1,k1,rfl,L1,s1,B1,x1,hk1⟩;have hbl:=Z41 hs;rw[ZAl hn]at hR';have hkl:=kids_len (n:=n) out;refine⟨_,_,_,rfl,fun h32=>?_,fun h32=>?_⟩
 ·have e1:enc (Z2U n)=bytesOf n:=by unfold Z2U ZY;rw[if_neg (by simp only[bytesOf]at h32;omega)];rfl
  have e2:Z3Q (kidsN n out) J7 (bytesOf n)=kidsN n out:=by unfold Z3Q;rw[decide_eq_true (by omega:(bytesOf n).length<32)];simp
  rw[e1,e2]at hR';exact hR' _ _ ⟨o1,k1,rfl,L1,s1,B1,x1⟩
 ·have e1:enc (Z2U n)=enc (.s (sumOf (bytesOf n))):=by unfold Z2U ZY;rw[if_pos (by simp only[bytesOf]at h32;omega)];rfl
  rw[e1]at hR';refine(Z45 (bytesOf n) rfl (by omega) x1.rd).mono ?_;rintro _ w2⟨rfl,M2⟩;refine⟨_,rfl,?_⟩;rintro d w3⟨rfl,rfl⟩;have H3:=Blk.new w2 27 (Z 32 (JC JX 0));obtain⟨h1,h2,h3⟩:=Z12 H3 (by simp) (sumOf (bytesOf n));have M3:=M2.step_alloc (J0 (Z 32 (JC JX 0)) 27);have M4:=ZI M3 h3 M2.size;refine⟨_,h1,_,h2.rowAll (ZB _),?_⟩;have hge:=M2.size;have hlt4:=h2.lt;generalize w2.heap.size=D at *
  generalize((w2.alloc (J0 (Z 32 (JC JX 0)) 27)).setRow D (hashA (sumOf (bytesOf n))))=w4 at *
  have B4:=B1.mod' M4 5;have s4:Stp NoS w1 L1 w4 (ext L1 w1.heap.size 5):=Stp.of_nob M4 5;have x4:=x1.stp s4 (fun h=>h);have D4:CB w4 (ext L1 w1.heap.size 5) 5 D tHash (hashA (sumOf (bytesOf n))):=⟨h2,ext_new hge⟩;generalize ext L1 w1.heap.size 5=L4 at *
  refine(ZAW (k:=k1) B4 x4 (ZO _) hk1 (by omega)).mono ?_;rintro _ w5⟨rfl,L5,s5,_,B5⟩;have D5:=D4.stp s5 (by decide)
  have hrd:RdB w5 (K ⟨D,0,W⟩) (sumOf (bytesOf n)):=RdB.of_blk D5.blk (fun j hj=>by
   rw[ZO]at hj;simp only[J9,hashA];exact ZF hj)
  obtain⟨o6,k6,w6,hr6,F6⟩:=Z1v (k2:=32) (ty:=Zw) (Mod.refl w5) hrd (by rw[ZO];omega);rw[ZO]at hr6;refine⟨rfl,_,w6,hr6,_,_,_,rfl,?_⟩;have hst:=Z5g (k:=k6) (ZK F6) (by rw[ZO];omega);rw[ZO]at hst;refine hst.mono ?_;rintro _ w7⟨o7,k7,rfl,F7⟩;have F57:=ZU.from_ F7 F6.mod;have B7:=B5.mod' F57.mod 5;have s7:Stp NoS w5 L5 w7 (ext L5 w5.heap.size 5):=Stp.of_nob F57.mod 5
  have e2:Z3Q (kidsN n out) J7 (bytesOf n)=if met (kidsN n out) (sumOf (bytesOf n))then kidsN n out else kidsN n out++[(sumOf (bytesOf n),bytesOf n)]:=by
   unfold Z3Q;rw[decide_eq_false (by omega:¬(bytesOf n).length<32)];simp
  rw[e2]at hR';refine⟨_,_,_,rfl,hR' _ _ ⟨o7,k7,rfl,_,?_,B7,Z1x F57 (Mod.refl _)⟩⟩;exact((s1.trans (s4.mono (fun _ h=>h.elim))).trans (s5.mono (fun k h=>h.elim JF (fun h=>J3 (JF h))))).trans (s7.mono (fun _ h=>h.elim))
theorem BS.path{w:J6}{L:Nat->Nat}{d0:Nat}{es out:List (By×By)}(h:BS w L d0 es out){j:Nat}(hj:j<es.length){i:Nat}(hi:i<=es[j].1.length) :
  ∃op cp b f o k,J2 w ⟨d0,1,W⟩=K (.slice op es.length cp)/\op=K ⟨b,f,W⟩/\w.cell? ⟨b,f+j,W⟩=K (.slice o es[j].1.length k)/\es[j].1.length<=k/\CBy w L 5 o es[j].1/\CBy w L 5 (subO o k i 1) (es[j].1.drop i):=by
 obtain⟨ol,cl,op,cp,on,nn,kn,c1,c2,c3,c4⟩:=h.ex;obtain⟨b,f,o,k,e1,e2,e3,e4,e5,e6⟩:=c3 j hj;have:=e6.sub (lo:=i) (n:=es[j].1.length-i) e5;rw[JB (by rw[E];omega)]at this;exact⟨op,cp,b,f,o,k,c1.blk.rd1 rfl,e1,e4,e5,e6,this⟩
theorem BS.val{w:J6}{L:Nat->Nat}{d0:Nat}{es out:List (By×By)}(h:BS w L d0 es out){j:Nat}(hj:j<es.length) :
  ∃ol cl b f ov kv,J2 w ⟨d0,0,W⟩=K (.slice ol es.length cl)/\ol=K ⟨b,f,W⟩/\w.cell? ⟨b,f+(j*2+1),W⟩=K (.slice ov es[j].2.length kv)/\CBy w L 6 ov es[j].2:=by
 obtain⟨ol,cl,op,cp,on,nn,kn,c1,c2,c3,c4⟩:=h.ex;obtain⟨b,f,ov,kv,e1,e2,e3,e4,e5⟩:=c2 j hj;exact⟨ol,cl,b,f,ov,kv,c1.blk.rd1 rfl,e1,e4,e5⟩
theorem ZAN(p v:By):ZFv (.leaf p v):=by
 intro w L d0 a b i es out hB hE hok hR hl;refine ZD fun R hR'=>ZP.vc _ _ _ _ _ _ ?_;unfold ZP.Vc;have hseg:=hR.leaf
 have hb:b=a+1:=by
  have:=congrArg JS hseg;rw[Z4I hok.le]at this;have:=hok.lt;simp at *;omega
 subst hb;have ha:a<es.length:=by have:=hok.le;omega
 have hla:=hE.len;have e0:=Z3D hok;rw[hseg]at e0;simp only[List.head?_cons,Option.some.injEq,Prod.mk.injEq]at e0;obtain⟨rfl,rfl⟩:=e0;have hi:=hok.len a ha (JH _) (by omega);have hpl:=hE.paths _ (X ha);have hvl:=hE.vals _ (X ha);have hd:(es[a].1.drop i).length=es[a].1.length-i:=E;have hpk:=Z70 (es[a].1.drop i) Jp (by omega);refine⟨fun _=>?_,fun h=>absurd (by rw[Z0 (by omega) (by omega)];omega) h⟩;obtain⟨op,cp,pb,pf,o,k,h1,rfl,h2,h3,h4,h5⟩:=hB.path ha hi;simp only[Z3,J9,O];refine⟨_,_,_,h1,_,rfl,⟨by omega,by omega⟩,_,_,_,by rw[Z3];exact h2,⟨by omega,by omega⟩,?_⟩;have hp:=Z9P (k:=k-i) h5.rd (by omega) Jp;rw[hd]at hp;refine hp.mono ?_;rintro _ w1⟨o1,k1,rfl,F1⟩;refine⟨_,_,_,_,rfl,?_⟩;rintro _ rfl;have MD:=Mod.drew (S:=NoB) w1;have B2:=hB.mod' (F1.mod.trans MD (fun _ _ h=>h)) 5;obtain⟨ol,cl,vb,vf,ov,kv,g1,rfl,g2,g3⟩:=B2.val ha;refine⟨_,_,_,g1,_,rfl,⟨by omega,by omega⟩,_,_,_,by rw[Z3,Z3,JY];exact g2,?_⟩;refine(Z5g (b:=Z1o (es[a].1.drop i) Jp) ((ZK F1).mod' MD) (by omega)).mono ?_;rintro _ w3⟨o3,k3,rfl,F3⟩;have B3:=B2.mod' F3.mod 5;obtain⟨ol,cl,vb',vf',ov',kv',g1',hol,g2',g3'⟩:=B3.val ha;rw[ZN F3.mod (b:=d0) (by obtain⟨_,_,_,_,_,_,_,c1,_⟩:=B2.ex;exact c1.blk.lt) (fun h=>h),g1]at g1';cases g1';cases hol;have hvb:vb<w1.drew.heap.size:=by obtain⟨ol,cl,op,cp,on,nn,kn,c1,c2,_⟩:=B2.ex;obtain⟨b',f',ov'',kv'',q1,q2,_⟩:=c2 a ha;have:=c1.blk.rd1 (i:=0) rfl;rw[g1]at this;cases this;cases q1;exact q2
 rw[ZN F3.mod hvb (fun h=>h),g2]at g2';cases g2';refine⟨_,_,_,rfl,by rw[Z3,Z3,JY];exact(ZN F3.mod hvb (fun h=>h)).trans g2,(ZN F3.mod (by obtain⟨_,_,_,_,_,_,_,c1,_⟩:=B2.ex;exact c1.blk.lt) (fun h=>h)).trans g1,?_⟩;refine(Z5g (k:=kv) g3'.rd (by omega)).mono ?_;rintro _ w4⟨o4,k4,rfl,F4⟩;have q1:=Z3A (Z1o (es[a].1.drop i) Jp);have q2:=Z3A es[a].2;obtain⟨o5,k5,w5,hr5,F5⟩:=ZX (ty:=Zw) (k2:=k4) (F3.mod' F4.mod) (ZK F4) (by omega);refine⟨_,_,_,rfl,_,w5,hr5,_,_,_,rfl,?_⟩;have hL:=Z4y (k:=k5) (ZK F5) (by rw[Y];omega);rw[Y]at hL;refine hL.mono ?_;rintro _ w6⟨o6,k6,rfl,F6⟩
 have e6:Trie.Z3P ((enc (.s (Z1o (es[a].1.drop i) Jp))).length+(enc (.s es[a].2)).length) 192++(enc (.s (Z1o (es[a].1.drop i) Jp))++enc (.s es[a].2))=bytesOf (.leaf (es[a].1.drop i) es[a].2):=by
  simp only[bytesOf,itemOf];rw[enc2]
 rw[e6]at F6 ⊢;have M06:=((F1.mod.trans MD (fun _ _ h=>h)).trans F5.mod (fun _ _ h=>h)).trans F6.mod (fun _ _ h=>h);have F06:=ZU.from_ F6 ((F1.mod.trans MD (fun _ _ h=>h)).trans F5.mod (fun _ _ h=>h));exact⟨_,_,_,rfl,hR' _ _ ⟨o6,k6,rfl,_,(Stp.of_nob M06 5).mono (S:=NoS) (fun _ h=>h.elim),hB.mod' M06 5,Z1x F06 (Mod.refl _),F06.own.cap.1⟩⟩
theorem ZGc{c:Nd}(hRef:ZKL c){p:By}(hc:Z0x (.row p c)):ZFv (.row p c):=by
 intro w L d0 a b i es out hB hE hok hR hl;refine ZD fun R hR'=>ZP.vc _ _ _ _ _ _ ?_;unfold ZP.Vc;have hab:=hok.lt;have hbl:=hok.le;have hla:=hE.len;have ha:a<es.length:=by omega
 have hi:=hok.len a ha (JH _) hab;have hpl:=hE.paths _ (X ha);obtain⟨k1,v1,k2,v2,g1,g2,hne⟩:=ZHd hc;have h2:=hR.two g1 g2 hne;rw[Z4I hbl]at h2;have hsh:=hR.shared_row hc (Z3D hok) (Z8d hok);obtain⟨hpre,hRc⟩:=hR.row;have hpre1:=hpre _ (List.mem_of_mem_head? (Z3D hok));have hp1:1<=p.length:=List.length_pos_iff.2 hc.1;have hd:(es[a].1.drop i).length=es[a].1.length-i:=E;have hple:=hpre1.length_le;simp only at hsh hple;rw[<-ZBN]at hRc;have htake:(es[a].1.drop i).take p.length=p:=(List.prefix_iff_eq_take.1 hpre1).symm
 have hok':Z6f es a b (i+p.length):=by
  refine⟨hab,hbl,fun j hj h1 h2=>?_⟩;have:=(hpre _ (ZDa (i:=i) hbl h1 h2)).length_le;simp only[E]at this;have:=hok.len j hj h1 h2;omega
 have hpk:=Z70 p J7 (by omega);refine⟨fun h=>absurd h (by rw[Z0 (by omega) (by omega)];omega),fun _=>⟨fun n w'=>n=(p.length:Int)/\Vcg.Mod NoB w w',ZJC hB hok hE.paths hE.len (by omega) (fun w' M=>⟨by rw[hsh],M⟩),?_⟩⟩;rintro _ _ w1⟨rfl,M1⟩;refine⟨fun _=>?_,fun h=>absurd h (by omega)⟩;have B1:=hB.mod' M1 5;obtain⟨op,cp,pb,pf,o,k,h1,rfl,h2,h3,h4,h5⟩:=B1.path ha hi;have ew:G JD ((i:Int)+(p.length:Int))=((i+p.length:Nat):Int):=by rw[Z0 (by omega) (by omega)];omega
 simp only[ew,Z3,J9,O];refine⟨_,_,_,h1,_,rfl,⟨by omega,by omega⟩,_,_,_,by rw[Z3];exact h2,⟨by omega,by omega⟩,⟨by omega,by omega⟩,?_⟩;have hpr:=h5.rd.take p.length;rw[htake]at hpr;have hP:=Z9P (k:=k-i) hpr (by omega) J7;rw[show i+p.length-i=p.length by omega];refine hP.mono ?_;rintro _ w2⟨o2,k2,rfl,F2⟩;refine⟨_,_,_,_,rfl,?_⟩;refine(Z5g (b:=Z1o p J7) (ZK F2) (by omega)).mono ?_;rintro _ w3⟨o3,k3,rfl,F3⟩;have M03:=(M1.trans F2.mod (fun _ _ h=>h)).trans F3.mod (fun _ _ h=>h);have F03:=ZU.from_ F3 (M1.trans F2.mod (fun _ _ h=>h));have B3:=hB.mod' M03 (8+i);obtain⟨O3,s3⟩:=F03.done (lab:=L) (8+i);generalize ext L w.heap.size (8+i)=L3 at *
 refine⟨_,_,_,rfl,?_⟩;have hcnt:cnt (.row p c)=1+cnt c:=rfl;refine(hRef B3 hE hok' hRc (by omega)).mono ?_;rintro _ w4⟨o4,k4,rfl,L4,s4,B4,x4⟩;have O4:=O3.stp s4 (by rintro(h|h|h)<;>omega);have q1:=Z3A (Z1o p J7);have q2:=ZEo c;obtain⟨o5,k5,w5,hr5,O5,s5⟩:=Z8b (ty:=Zw) (k2:=k4) O4 x4.rd (by omega);have B5:=B4.stp s5 (by omega) (by omega) (by omega) (by omega) (by omega);generalize ext L4 w4.heap.size (8+i)=L5 at *
 refine⟨_,_,_,rfl,_,w5,hr5,_,_,_,rfl,?_⟩;have hL:=Z4y (k:=k5) O5.own.bytes (by rw[Y];omega);rw[Y]at hL;refine hL.mono ?_;rintro _ w6⟨o6,k6,rfl,F6⟩
 have e6:Trie.Z3P ((enc (.s (Z1o p J7))).length+(enc (Z2U c)).length) 192++(enc (.s (Z1o p J7))++enc (Z2U c))=bytesOf (.row p c):=by
  simp only[bytesOf,itemOf];rw[enc2];rfl
 rw[e6]at F6 ⊢;refine⟨_,_,_,rfl,hR' _ _ ⟨o6,k6,rfl,_,?_,B5.mod' F6.mod 5,Z1x F6 (Mod.refl _),F6.own.cap.1⟩⟩;have s6:Stp NoS w5 L5 w6 (ext L5 w5.heap.size 5):=Stp.of_nob F6.mod 5;exact(((s3.mono (fun _ h=>h.elim)).trans (s4.mono (fun k h=>by rcases h with h|h|h;exact JF h;exact J3 (JF h);exact J3 (J3 (by omega))))).trans (s5.mono (fun k h=>J3 (J3 (by omega))))).trans (s6.mono (fun _ h=>h.elim))
end Go.Proofs.YtfghidehlnfdiaaGreat
end
section
namespace Go.Trie
theorem ZIi{f:Fin 16->Nat}{j:Nat}(hj:j<16):(((I 16).take j).map f).sum+f ⟨j,hj⟩<=((I 16).map f).sum:=by
 have e:=congrArg List.sum (congrArg (List.map f) (List.take_append_drop j (I 16)));rw[JT,List.sum_append]at e
 have e2:(I 16).drop j=⟨j,hj⟩::(I 16).drop (j+1):=by
  rw[JM (by simpa using hj)];simp
 rw[e2,Je,List.sum_cons]at e;omega
theorem ZAz{j:Nat}(hj:j<16):(I 16).take (j+1)=(I 16).take j++[⟨j,hj⟩]:=by
 rw[J4,J (by simpa using hj)];simp
theorem Z9B{a b:Nat}{p:By}(h:Z68 a p)(hab:a<=b):Z68 b p:=by
 cases p with
 |nil=>trivial
 |cons c r=>exact J8 h hab
end Go.Trie
end
section
namespace Go.Proofs.YtfghidehlnfdiaaGreat
open Go Go.Vcg Go.Trie
theorem enc_l(xs:List It):enc (.l xs)=Trie.Z3P (Z1r xs).length 192++Z1r xs:=by simp only[enc]
theorem ZCJ{cs:Fin 16->Nd}{v:By}(hRef:∀i,ZKL (cs i))(hc:Z0x (.branch cs v)):ZFv (.branch cs v):=by
 intro w0 L0 d0 a b i es out hB0 hE hok hR hl;refine ZD fun R hR'=>ZP.vc _ _ _ _ _ _ ?_;unfold ZP.Vc;have hab:=hok.lt;have hbl:=hok.le;have hla:=hE.len;have ha:a<es.length:=by omega
 have hi:=hok.len a ha (JH _) hab;have hpl:=hE.paths _ (X ha);obtain⟨k1,v1,k2,v2,g1,g2,hne⟩:=Z7L hc trivial;have h2:=hR.two g1 g2 hne.1;rw[Z4I hbl]at h2;have hsh:=hR.parts hc trivial (Z3D hok) (Z8d hok);simp only at hsh;refine⟨fun h=>absurd h (by rw[Z0 (by omega) (by omega)];omega),fun _=>⟨fun n w'=>n=0/\Vcg.Mod NoB w0 w',ZJC hB0 hok hE.paths hE.len (by omega) (fun w' M=>⟨by rw[hsh];rfl,M⟩),?_⟩⟩;rintro _ _ w⟨rfl,M0⟩;refine⟨fun h=>absurd h (by omega),fun _=>?_⟩;have hB:=hB0.mod' M0 5;have sM:Stp NoS w0 L0 w (ext L0 w0.heap.size 5):=Stp.of_nob M0 5;generalize ext L0 w0.heap.size 5=L at *
 obtain⟨hv1,hv2,hv3⟩:=hR.value (ZBO hok);simp only at hv1 hv2;obtain⟨op,cp,pb,pf,o,k,h1,rfl,h2',h3,h4,h5⟩:=hB.path ha hi;obtain⟨ol,cl,vb,vf,ov,kv,f1,rfl,f2,f3⟩:=hB.val ha;simp only[Z3,J9,O];refine⟨fun n o' l' k' w'=>w'=w/\∃m:Nat,n=(m:Int)/\a<=m/\m<=a+1/\l'=v.length/\CBy w L 6 o' v/\(∀y∈seg es a m i,Z68 0 y.1)/\(∀y∈seg es m b i,Z83 0 y.1),?_,?_⟩
 ·refine⟨_,_,_,h1,_,rfl,⟨by omega,by omega⟩,_,_,_,by rw[Z3];exact h2',fun he=>?_,fun he=>?_⟩
  ·have hd0:es[a].1.drop i=[]:=List.drop_eq_nil_of_le (by omega)
   have hvv:=hv1 hd0;refine⟨_,_,_,f1,_,rfl,⟨by omega,by omega⟩,_,_,_,by rw[Z3,Z3,JY];exact f2,rfl,a+1,by rw[Z0 (by omega) (by omega)];omega,by omega,JH _,by rw[hvv],by rw[hvv];exact f3,?_,?_⟩
   ·intro y hy
    obtain⟨j,hj,q1,q2,rfl⟩:=Z6a (by omega) hy;obtain rfl:j=a:=by omega
    rw[hd0];trivial
   ·intro y hy
    have:=hv3 y hy;cases hy1:y.1 with
    |nil=>exact(this hy1).elim
    |cons c r=>exact JE _
  ·have hdne:es[a].1.drop i≠[]:=fun e=>by
     have:=congrArg JS e;rw[E]at this;simp at this;omega
   have hvv:=hv2 hdne;refine⟨rfl,a,rfl,JH _,by omega,by rw[hvv];rfl,by rw[hvv];exact CBy.nil _ _ _ _,?_,?_⟩
   ·rw[Z5c];intro y hy;cases hy
   ·intro y hy
    rw[ZBO hok]at hy;rcases List.mem_cons.1 hy with rfl|hy
    ·cases hdd:es[a].1.drop i with
     |nil=>exact(hdne hdd).elim
     |cons c r=>exact JE _
    ·have:=hv3 y hy
     cases hy1:y.1 with
     |nil=>exact(this hy1).elim
     |cons c r=>exact JE _
 ·rintro _ o133 _ c133 _ w⟨rfl,m0,rfl,hm1,hm2,rfl,hval,hlt0,hge0⟩
  let pay:Nat->By:=fun x=>Z1r (((I 16).take x).map fun i=>ZY (itemOf (cs i)))
  let outs:Nat->List (By×By):=fun x=>((I 16).take x).foldl (fun o i=>Z2L (cs i) J7 o) out
  have hpay:∀x,(pay x).length<=41*16:=fun x=>by
   have h1:=Z6M cs ((I 16).take x);have h2:((I 16).take x).length<=16:=by rw[JR,List.length_finRange];omega
   simp only[pay];omega
  refine⟨fun o l k n m w'=>∃x at_:Nat,m=(x:Int)/\x<=16/\n=(at_:Int)/\a<=at_/\at_<=b/\(∀y∈seg es a at_ i,Z68 x y.1)/\(∀y∈seg es at_ b i,Z83 x y.1)/\l=(pay x).length/\∃L',Stp (SI i) w L w' L'/\BS w' L' d0 es (outs x)/\COw w' L' (8+i) tU8 1 o l k ((pay x).map bV),
   fun _ _ _ _ m _=>((16:Int)-m).toNat,⟨0,m0,rfl,JE _,rfl,hm1,by omega,hlt0,hge0,rfl,L,Stp.refl _ _ _,hB,COw.nil _ _ _ _ _⟩,?_⟩
  rintro o136 _ c136 _ _ _ w1⟨x,m,rfl,hx,rfl,hma,hmb,hlt,hge,rfl,L1,s1,B1,O1⟩;refine⟨fun hx16=>?_,fun hx16=>?_⟩
  ·have hx':x<16:=by omega
   have hxb:(JP x).toNat=x:=by rw[UInt8.toNat_ofNat'];omega
   refine⟨fun n w'=>w'=w1/\∃e:Nat,n=(e:Int)/\m<=e/\e<=b/\(∀y∈seg es m e i,∃r,y.1=JP x::r)/\(∀y,(seg es e b i).head?=K y->∀c r,y.1=c::r->c.toNat≠x),?_,?_⟩
   ·refine⟨fun n w'=>w'=w1/\∃e:Nat,n=(e:Int)/\m<=e/\e<=b/\(∀y∈seg es m e i,∃r,y.1=JP x::r),fun n _=>((b:Int)-n).toNat,⟨rfl,m,rfl,JH _,hmb,by rw[Z5c];intro y hy;cases hy⟩,?_⟩
    rintro _ _ w1⟨rfl,e,rfl,he1,he2,hrun⟩;refine⟨fun heb=>?_,fun heb=>⟨rfl,e,rfl,he1,he2,hrun,by rw[show e=b by omega,Z5c];intro y hy;cases hy⟩⟩;have heb':e<b:=by omega
    have hel:e<es.length:=by omega
    have hei:=hok.len e hel (by omega) heb';have hepl:=hE.paths _ (X hel);have hgee:=hge _ (ZDa (i:=i) hbl he1 heb');have hok_e:Z6f es e b i:=⟨heb',hbl,fun j hj q1 q2=>hok.len j hj (by omega) q2⟩;obtain⟨op,cp,pb,pf,o,k,h1,rfl,h2',h3,h4,h5⟩:=B1.path hel hei;cases hdd:es[e].1.drop i with
    |nil=>simp only[hdd]at hgee;exact hgee.elim
    |cons c r =>
     have hile:i<es[e].1.length:=by
      have:=congrArg JS hdd;rw[E]at this;simp at this;omega
     have hci:es[e].1[i]=c:=by
      have:=JM hile;rw[hdd]at this;exact(List.cons.inj this).1.symm
     obtain⟨qb,qf,rfl,hqb,hqc⟩:=Z0t h4.rd hile;rw[hci]at hqc;have hc256:c.toNat<256:=c.toNat_lt;refine⟨_,_,_,h1,_,rfl,⟨by omega,by omega⟩,_,_,_,by rw[Z3,O];exact h2',_,rfl,⟨by omega,by omega⟩,_,by rw[Z3];exact hqc,fun hq=>?_,fun hq=>?_⟩
     ·rw[Z0 (by omega) (by omega)]at hq
      have hcx:c=JP x:=by apply UInt8.toNat_inj.1;rw[hxb];omega
      refine⟨⟨rfl,e+1,by rw[Z0 (by omega) (by omega)];omega,by omega,by omega,?_⟩,by dsimp only;rw[Z0 (by omega) (by omega)];omega⟩;intro y hy;rw[Z1c he1 (Jo e)]at hy;rcases List.mem_append.1 hy with hy|hy
      ·exact hrun y hy
      ·obtain⟨j,hj,q1,q2,rfl⟩:=Z6a (by omega) hy
       obtain rfl:j=e:=by omega
       exact⟨r,by rw[hdd,hcx]⟩
     ·rw[Z0 (by omega) (by omega)]at hq
      refine⟨rfl,e,rfl,he1,he2,hrun,?_⟩;rw[Z3D hok_e];rintro y hy c' r' hy1;cases hy;simp only[hdd]at hy1;cases hy1;omega
   ·rintro _ _ w1⟨rfl,e,rfl,he1,he2,hrun,hstop⟩
    have hspl:seg es a b i=seg es a m i++(seg es m e i++seg es e b i):=by rw[<-Z1c he1 he2,<-Z1c hma hmb]
    have hpw:(seg es m b i).Pairwise (fun x y=>ltB x.1 y.1):=by
     have:=hR.1;rw[Z1c hma hmb]at this;exact(List.pairwise_append.1 this).2.1
    have hge':=ZHC hpw (Z1c he1 he2) hge hstop;have hkid:=hR.kid ⟨x,hx'⟩ hspl hlt hrun hge';rw[<-ZBN]at hkid
    have hlt':∀y∈seg es a e i,Z68 (x+1) y.1:=by
     intro y hy;rw[Z1c hma he1]at hy;rcases List.mem_append.1 hy with hy|hy
     ·exact Z9B (hlt y hy) (Jo x)
     ·obtain⟨r,hr⟩:=hrun y hy
      rw[hr];show(JP x).toNat<x+1;omega
    have epay:pay (x+1)=pay x++enc (Z2U (cs ⟨x,hx'⟩)):=by
     simp only[pay];rw[ZAz hx',JT,encs_append];simp only[Je,List.map_nil,Z1r,Jh];rfl
    have eout:outs (x+1)=Z2L (cs ⟨x,hx'⟩) J7 (outs x):=by
     simp only[outs];rw[ZAz hx',List.foldl_append];rfl
    have ewx:G JD ((x:Int)+1)=((x+1:Nat):Int):=by rw[Z0 (by omega) (by omega)];omega
    rw[ewx];have hpx:=hpay x;refine⟨fun hem=>?_,fun hem=>?_⟩
    ·obtain rfl:e=m:=by omega
     rw[Z5c]at hkid;have hnil:=hkid.nil_inv (hc.1 _);rintro d w2⟨rfl,rfl⟩;have M2:=Mod.alloc (S:=NoB) w1 (J0 #[JC JX 128] 5);have r2:=ZEi w1;have B2:=B1.mod' M2 5;have s2:Stp NoS w1 L1 _ (ext L1 w1.heap.size 5):=Stp.of_nob M2 5;have O2:=O1.stp s2 (fun h=>h);generalize w1.alloc (J0 #[JC JX 128] 5)=w2 at *
     generalize ext L1 w1.heap.size 5=L2 at *
     obtain⟨o5,k5,w5,hr5,O5,s5⟩:=Z8b (ty:=Zw) (k2:=1) O2 r2 (by simp;omega);have B5:=B2.stp s5 (by omega) (by omega) (by omega) (by omega) (by omega)
     have e128:enc (Z2U .nil)=[128]:=by
      unfold Z2U ZY;rw[if_neg (by simp[itemOf,enc,own,Trie.Z3P])];exact Z6k
     rw[hnil,e128]at epay;rw[hnil]at eout;simp only[Z2L]at eout;refine⟨_,w5,hr5,_,_,_,rfl,⟨x+1,e,rfl,by omega,rfl,hma,hmb,hlt',hge',by rw[epay,Y],_,(s1.trans (s2.mono (fun _ h=>h.elim))).trans (s5.mono (fun k h=>J3 (J3 (by omega)))),by rw[eout];exact B5,?_⟩,by dsimp only;omega⟩;rw[epay];exact O5
    ·have hme:m<e:=by omega
     have hok_k:Z6f es m e (i+1):=by
      refine⟨hme,by omega,fun j hj q1 q2=>?_⟩;obtain⟨r,hr⟩:=hrun _ (ZDa (i:=i) (by omega:e<=es.length) q1 q2);have:=congrArg JS hr;simp only[E,List.length_cons]at this;omega
     have ewi:G JD ((i:Int)+1)=((i+1:Nat):Int):=by rw[Z0 (by omega) (by omega)];omega
     rw[ewi];have hsum:=ZIi (f:=fun i=>cnt (cs i)) hx';have hlen:=Z6p (cs:=cs) (fun i out=>Z4g (cs i) J7 out) ((I 16).take x) out;have hcnt:cnt (.branch cs v)=1+((I 16).map fun i=>cnt (cs i)).sum:=rfl;refine(hRef ⟨x,hx'⟩ B1 hE hok_k hkid (by show(outs x).length+_<=_;simp only[outs];omega)).mono ?_;rintro _ w4⟨o4,k4,rfl,L4,s4,B4,x4⟩;have O4:=O1.stp s4 (by rintro(h|h|h)<;>omega);have q2:=ZEo (cs ⟨x,hx'⟩);obtain⟨o5,k5,w5,hr5,O5,s5⟩:=Z8b (ty:=Zw) (k2:=k4) O4 x4.rd (by omega);have B5:=B4.stp s5 (by omega) (by omega) (by omega) (by omega) (by omega);refine⟨_,_,_,rfl,_,w5,hr5,_,_,_,rfl,⟨x+1,e,rfl,by omega,rfl,by omega,he2,hlt',hge',by rw[epay,Y],_,(s1.trans (s4.mono (fun k h=>by rcases h with h|h|h;exact JF h;exact J3 (JF h);exact J3 (J3 (by omega))))).trans (s5.mono (fun k h=>J3 (J3 (by omega)))),by rw[eout];exact B5,?_⟩,by dsimp only;omega⟩;rw[epay];exact O5
  ·obtain rfl:x=16:=by omega
   have hval1:=hval.stp s1 ZI1.2.1
   have hvl:v.length<=1024:=by
    by_cases hv0:v=[]
    ·rw[hv0];simp
    ·have:=(hR.2 [] v).1 (by rw[Zd,if_neg hv0])
     obtain⟨j,hj,_,_,he⟩:=Z6a hbl this;have:=hE.vals _ (X hj);rw[<-(JW he).2]at this;exact this
   refine(Z5g (k:=c133) hval1.rd (by omega)).mono ?_;rintro _ w2⟨o2,k2,rfl,F2⟩;have B2:=B1.mod' F2.mod 5;have s2:Stp NoS w1 L1 w2 (ext L1 w1.heap.size 5):=Stp.of_nob F2.mod 5;have O2:=O1.stp s2 (fun h=>h);generalize ext L1 w1.heap.size 5=L2 at *
   have q1:=Z3A v;have hp16:=hpay 16;obtain⟨o5,k5,w5,hr5,O5,s5⟩:=Z8b (ty:=Zw) (k2:=k2) O2 (ZK F2) (by omega);have B5:=B2.stp s5 (by omega) (by omega) (by omega) (by omega) (by omega);generalize ext L2 w2.heap.size (8+i)=L5 at *
   refine⟨_,_,_,rfl,_,w5,hr5,_,_,_,rfl,?_⟩;have hL:=Z4y (k:=k5) O5.own.bytes (by rw[Y];omega);rw[Y]at hL;refine hL.mono ?_;rintro _ w6⟨o6,k6,rfl,F6⟩
   have e6:Trie.Z3P ((pay 16).length+(enc (.s v)).length) 192++(pay 16++enc (.s v))=bytesOf (.branch cs v):=by
    simp only[bytesOf,itemOf,pay];rw[JB (by simp),enc_l,encs_append];simp only[Z1r,Jh,Y]
   rw[e6]at F6 ⊢;have eo:outs 16=kidsN (.branch cs v) out:=by simp only[outs,kidsN];rw[JB (by simp)]
   rw[eo]at B5;refine⟨_,_,_,rfl,hR' _ _ ⟨o6,k6,rfl,_,?_,B5.mod' F6.mod 5,Z1x F6 (Mod.refl _),F6.own.cap.1⟩⟩;have s6:Stp NoS w5 L5 w6 (ext L5 w5.heap.size 5):=Stp.of_nob F6.mod 5;exact((((sM.mono (fun _ h=>h.elim)).trans s1).trans (s2.mono (fun _ h=>h.elim))).trans (s5.mono (fun k h=>J3 (J3 (by omega))))).trans (s6.mono (fun _ h=>h.elim))
theorem ZB4:∀(n:Nd),Z0x n->Z58 n->n≠.nil->ZFv n/\ZKL n
 | .nil,_,_,h=>(h rfl).elim
 | .leaf p v,hc,hs,hn=>⟨ZAN p v,ZHB (ZAN p v) hn hs⟩
 | .row p c,hc,hs,hn=>by
   have hcn:c≠.nil:=by rintro rfl;exact hc.2.2.1
   have hI:=ZGc (ZB4 c hc.2.2.2 hs.2 hcn).2 hc;exact⟨hI,ZHB hI hn hs⟩
 | .branch cs v,hc,hs,hn=>by
   have hk:∀i,ZKL (cs i):=fun i=>by
    by_cases hcn:cs i=.nil
    ·rw[hcn]
     intro w L d0 a b j es out hB hE hok hR hl
     have:=congrArg JS (show seg es a b j=[]from by
      cases hs:seg es a b j with
      |nil=>rfl
      |cons y r=>exact absurd rfl (hR.ne (by rw[hs];simp)))
     rw[Z4I hok.le]at this;have:=hok.lt;simp at *;omega
    ·exact(ZB4 (cs i) (hc.1 i) (hs.2 i) hcn).2
   have hI:=ZCJ hk hc;exact⟨hI,ZHB hI hn hs⟩
theorem Z8j:Tryz.prog.underlying 31=K (.slice Zw):=by kernel_rfl
theorem ZCI:(Tryz.prog.info? Zw).map (fun i=>(i.zero,i.size,i.bytes))=K (K (.slice W 0 0),1,24):=by kernel_rfl
section
variable{C C':Type}{S:C->Prop}{w w':J6}{lab:Nat->C}{lab':Nat->C'}{lab2:Nat->C}{c:C}{c':C'}
def Z2J(w:J6)(lab:Nat->C)(c:C)(o:Option Addr)(m:List (By×By)):Prop :=
 ∀(j:Nat)(hj:j<m.length),∃b f ok kk ov kv,o=K ⟨b,f,W⟩/\b<w.heap.size/\lab b=c/\w.cell? ⟨b,f+j*2,W⟩=K (.slice ok m[j].1.length kk)/\CBy w lab c ok m[j].1/\w.cell? ⟨b,f+(j*2+1),W⟩=K (.slice ov m[j].2.length kv)/\CBy w lab c ov m[j].2
theorem Z2J.stp{o:Option Addr}{m:List (By×By)}(h:Z2J w lab c o m)(s:Stp S w lab w' lab2)(hs:¬S c):Z2J w' lab2 c o m:=fun j hj=>by
 obtain⟨b,f,ok,kk,ov,kv,e1,e2,e3,e4,e5,e6,e7⟩:=h j hj;exact⟨b,f,ok,kk,ov,kv,e1,J8 e2 s.size,(s.lab b e2).trans e3,(JA (s.block b e2 (by rw[e3];exact hs))).trans e4,e5.stp s hs,(JA (s.block b e2 (by rw[e3];exact hs))).trans e6,e7.stp s hs⟩
theorem Z2J.re{o:Option Addr}{m:List (By×By)}(h:Z2J w lab c o m)(hl:∀k,k<w.heap.size->lab k=c->lab' k=c'):Z2J w lab' c' o m:=fun j hj=>by
 obtain⟨b,f,ok,kk,ov,kv,e1,e2,e3,e4,e5,e6,e7⟩:=h j hj;exact⟨b,f,ok,kk,ov,kv,e1,e2,hl b e2 e3,e4,CBy.re e5 hl,e6,CBy.re e7 hl⟩
noncomputable def labB(lab:Nat->C)(c:C)(N d:Nat):Nat->Nat:=fun k=>if k<N then(@ite Nat (lab k=c) (Classical.propDecidable _) 6 0)else if k=d then 1 else if k=N then 2 else 5
theorem ZIF{N d k:Nat}(h:k<N):labB lab c N d k=6\/labB lab c N d k=0:=by
 unfold labB;rw[if_pos h];split
 ·exact JF rfl
 ·exact J3 rfl
theorem ZJg{N d k:Nat}(h:k<N)(hc:lab k=c):labB lab c N d k=6:=by
 unfold labB;rw[if_pos h,if_pos hc]
def ZT(m:List (By×By)):List (By×By):=m.map fun e=>(nibbles e.1,e.2)
theorem ZK0(es:List (By×By)):seg es 0 es.length 0=es:=by
 unfold seg;rw[List.drop_zero,Nat.sub_zero,Ja];have:(fun e:By×By=>(e.1.drop 0,e.2))=id:=by funext e;simp
 rw[this,List.map_id]
structure KvOk (m:List (By×By)):Prop where
 len:m.length<=2^20
 keys:∀e∈m,e.1.length<=64
 vals:∀e∈m,e.2.length<=1024
theorem ZFR{o:Option Addr}{k:Nat}{m:List (By×By)}{n:Nd}(h:Z2J w lab c o m)(hm:KvOk m)(hr:Rep (ZT m) n)(hc:Z0x n)(hs:Z58 n)(hcn:cnt n<=2^19)(cr:C) :
  Jb U Z0n.n #[.slice o m.length k,JJ J7] w (fun e w'=>∃o' k',e=V (JI #[.agg (hashA (Z2K n)),.slice o' (Z3t n).length k'])/\Vcg.Mod NoB w w'/\Z1V w' (ext lab w.heap.size cr) cr (Z3t n) o' (Z3t n).length):=by
 refine ZD fun R hR=>Z0n.vc _ _ _ _ _ _ ?_;unfold Z0n.Vc;have hml:=hm.len;rintro d2 w1⟨rfl,rfl⟩;have M1:=Mod.alloc (S:=NoB) w (J0 (Z 32 (JC JX 0)) 27);have H1:=Blk.new w 27 (Z 32 (JC JX 0));have z1:=ZE w (J0 (Z 32 (JC JX 0)) 27);generalize w.alloc (J0 (Z 32 (JC JX 0)) 27)=w1 at *
 generalize hN:w.heap.size=N at *
 refine⟨fun h0=>?_,fun h0=>?_⟩
 ·obtain rfl:m=[]:=List.eq_nil_of_length_eq_zero (by omega)
  have hnil:=hr.nil_inv hc;subst hnil;refine(Z8E w1).mono ?_;rintro _ w2⟨rfl,M2⟩;obtain⟨h1,h2,h3⟩:=Z12 (H1.mod' M2) (by simp) emptyH;refine⟨_,rfl,_,h1,_,h2.rowAll (ZB _),hR _ _ ⟨W,0,?_,ZI (M1.trans M2 (fun _ _ h=>h)) h3 (by omega),Z1V.nil _ _ _ _⟩⟩;rw[Trie.Z2K,Z6k];rfl
 rintro d9 w2⟨rfl,rfl⟩;rw[z1];have M2:=Mod.alloc (S:=NoB) w1 (J0 #[.slice o m.length k,.slice W 0 0,.slice W 0 0,JJ J7] 118);have D2:=Blk.new w1 118 #[.slice o m.length k,.slice W 0 0,.slice W 0 0,JJ J7];have z2:=ZE w1 (J0 #[.slice o m.length k,.slice W 0 0,.slice W 0 0,JJ J7] 118);rw[z1]at D2 z2;have H2:=H1.mod' M2;have M02:=M1.trans M2 (fun _ _ h=>h);generalize w1.alloc (J0 #[.slice o m.length k,.slice W 0 0,.slice W 0 0,JJ J7] 118)=w2 at *
 have lD:labB lab c N (N+1) (N+1)=1:=by unfold labB;rw[if_neg (by omega),if_pos rfl]
 have lH:labB lab c N (N+1) N=2:=by unfold labB;rw[if_neg (by omega),if_neg (by omega),if_pos rfl]
 have hkv:Z2J w2 (labB lab c N (N+1)) 6 o m:=(Z2J.re h (fun k hk hc=>ZJg (by omega) hc)).stp (Stp.same M02 (labB lab c N (N+1))) (fun h=>h);have D2c:CB w2 (labB lab c N (N+1)) 1 (N+1) ZHV #[.slice o m.length k,.slice W 0 0,.slice W 0 0,JJ J7]:=⟨D2,lD⟩;have H2c:CB w2 (labB lab c N (N+1)) 2 N tHash (Z 32 (JC JX 0)):=⟨H2,lH⟩;have hold:∀k,k<N->labB lab c N (N+1) k=6\/labB lab c N (N+1) k=0:=fun k hk=>ZIF hk;generalize labB lab c N (N+1)=L2 at *
 let P:Nat->By:=fun j=>nibbles ((m[j]?.getD ([],[])).1)
 refine⟨fun i w'=>∃(j:Nat)(L:Nat->Nat)(op:Option Addr)(cp:Nat)(vs:List Value),i=(j:Int)/\j<=m.length/\Stp (fun k=>k=1\/k=7) w2 L2 w' L /\
   CB w' L 1 (N+1) ZHV #[.slice o m.length k,.slice op j cp,.slice W 0 0,JJ J7]/\COw w' L 7 Zw 1 op j cp vs/\∀i,i<j->∃o k,vs[i]?=K (.slice o (P i).length k)/\(P i).length<=k/\CBy w' L 5 o (P i),
  fun i _=>((m.length:Int)-i).toNat,⟨0,L2,W,0,[],rfl,JE _,Stp.refl _ _ _,D2c,COw.nil _ _ _ _ _,fun i hi=>absurd hi (by omega)⟩,?_⟩
 rintro _ _ w3⟨j,L3,op,cp,vs,rfl,hj,s3,D3,O3,hvs⟩;have hkv3:=hkv.stp s3 (by decide);refine⟨fun hlt=>?_,fun hge=>?_⟩
 ·have hjl:j<m.length:=by omega
  rintro _ rfl;have sD:Stp NoS w3 L3 w3.drew L3:=Stp.drew _ _ _;have hkv4:=hkv3.stp sD (fun h=>h);have D4:=D3.stp sD (fun h=>h);have O4:=O3.stp sD (fun h=>h);have hvs4:∀i,i<j->∃o k,vs[i]?=K (.slice o (P i).length k)/\(P i).length<=k/\CBy w3.drew L3 5 o (P i):=fun i hi=>by obtain⟨o,k,a,b,c⟩:=hvs i hi;exact⟨o,k,a,b,c.stp sD (fun h=>h)⟩
  have s4:=s3.trans (sD.mono (T:=fun k=>k=1\/k=7) (fun _ h=>h.elim));generalize w3.drew=w4 at *
  obtain⟨b,f,ok,kk,ov,kv,rfl,e2,e3,e4,e5,e6,e7⟩:=hkv4 j hjl;have hkl:=hm.keys _ (X hjl);simp only[Z3,J9,O];refine⟨_,_,_,D4.blk.rd1 rfl,_,rfl,⟨by omega,by omega⟩,_,_,_,by rw[Z3];exact e4,?_⟩;refine(Z1G e5.rd (by omega)).mono ?_;rintro _ w5⟨o5,k5,rfl,F5⟩;refine⟨_,_,_,rfl,(D4.blk.mod' F5.mod).rd1 rfl,?_⟩;rintro d w6⟨rfl,rfl⟩;have M6:=Mod.alloc (S:=NoB) w5 (J0 #[.slice o5 (nibbles m[j].1).length k5] 23);have N6:=Blk.new w5 23 #[.slice o5 (nibbles m[j].1).length k5];have M46:=F5.mod.trans M6 (fun _ _ h=>h);have s6:Stp NoS w4 L3 (w5.alloc (J0 #[.slice o5 (nibbles m[j].1).length k5] 23)) (ext L3 w4.heap.size 5):=Stp.of_nob M46 5;have b6:CBy (w5.alloc (J0 #[.slice o5 (nibbles m[j].1).length k5] 23)) (ext L3 w4.heap.size 5) 5 o5 (nibbles m[j].1):=Z1x F5 M6;generalize w5.alloc (J0 #[.slice o5 (nibbles m[j].1).length k5] 23)=w6 at *
  have D6:=D4.stp s6 (fun h=>h);have O6:=O4.stp s6 (fun h=>h);have hvs6:∀i,i<j->∃o k,vs[i]?=K (.slice o (P i).length k)/\(P i).length<=k/\CBy w6 (ext L3 w4.heap.size 5) 5 o (P i):=fun i hi=>by obtain⟨o,k,a,b,c⟩:=hvs4 i hi;exact⟨o,k,a,b,c.stp s6 (fun h=>h)⟩
  generalize ext L3 w4.heap.size 5=L6 at *
  obtain⟨i,hi,hz,hsz,hb⟩:=Z2Q ZCI;obtain⟨o7,k7,w7,hr7,O7,s7⟩:=COw.append (ty:=31) Z8j hi hz hsz rfl O6 (Z52 Z8j N6 rfl (by simp[Value.oneCell'])) (by simp only[Ji];omega) (by rw[hb];omega);have D7:=D6.stp s7 (by decide);have b7:=b6.stp s7 (by decide);have hvs7:∀i,i<j->∃o k,vs[i]?=K (.slice o (P i).length k)/\(P i).length<=k/\CBy w7 (ext L6 w6.heap.size 7) 5 o (P i):=fun i hi=>by obtain⟨o,k,a,b,c⟩:=hvs6 i hi;exact⟨o,k,a,b,c.stp s7 (by decide)⟩
  generalize ext L6 w6.heap.size 7=L7 at *
  refine⟨D6.blk.rd1 rfl,_,w7,hr7,_,_,_,rfl,D7.blk.canSet (by simp) rfl,?_⟩;rintro _ rfl;have s8:Stp (fun k=>k=1) w7 L7 (w7.setCell ⟨N+1,1,W⟩ (.slice o7 (j+1) k7)) L7:=Stp.setCell D7.clr;have hPj:P j=nibbles m[j].1:=by simp only[P];rw[J hjl];rfl
  have hvl:vs.length=j:=O6.own.len;refine⟨⟨j+1,L7,o7,k7,vs++[.slice o5 (nibbles m[j].1).length k5],by rw[Z0 (by omega) (by omega)];omega,hjl,((s4.trans (s6.mono (fun _ h=>h.elim))).trans (s7.mono (fun _ h=>J3 h))).trans (s8.mono (fun _ h=>JF h)),D7.set 1 _,O7.stp s8 (by decide),fun i hi=>?_⟩,by rw[Z0 (by omega) (by omega)];omega⟩;by_cases hij:i<j
  ·obtain⟨o,k,a,b,c⟩:=hvs7 i hij
   exact⟨o,k,by rw[JN (by omega)];exact a,b,c.stp s8 (by decide)⟩
  ·obtain rfl:i=j:=by omega
   refine⟨o5,k5,by rw[JL (by omega),hvl,Jm,hPj];rfl,by rw[hPj];exact F5.own.cap.1,by rw[hPj];exact b7.stp s8 (by decide)⟩
 ·obtain rfl:j=m.length:=by omega
  have hpl:(ZT m).length=m.length:=by simp[ZT]
  have hget:∀(i:Nat)(hi:i<(ZT m).length),(ZT m)[i]=(nibbles (m[i]'(by omega)).1,(m[i]'(by omega)).2):=fun i hi=>by simp[ZT]
  have hBS:BS w3 L3 (N+1) (ZT m) []:=by
   refine⟨⟨o,k,op,cp,W,0,0,by rw[hpl];exact D3,fun i hi=>?_,fun i hi=>?_,Z8q.nil _ _ _ _⟩⟩
   ·obtain⟨b,f,ok,kk,ov,kv,e1,e2,e3,e4,e5,e6,e7⟩:=hkv3 i (by omega)
    rw[hget i hi];exact⟨b,f,ov,kv,e1,e2,e3,e6,e7⟩
   ·obtain⟨o',k',a,b,d⟩:=hvs i (by omega)
    obtain⟨g,f,ho,hg,hl,hcell⟩:=O3.row i _ a;rw[hget i hi];have hPi:P i=nibbles (m[i]'(by omega)).1:=by simp only[P];rw[J (by omega)];rfl
    rw[<-hPi];exact⟨g,f,o',k',ho,hg,hl,hcell,b,d⟩
  have hEs:EsOk (ZT m):=by
   refine⟨by omega,fun e he=>?_,fun e he=>?_⟩
   ·obtain⟨x,hx,rfl⟩:=List.mem_map.1 he
    have:=hm.keys x hx;show(nibbles x.1).length<=128;rw[ZQ];omega
   ·obtain⟨x,hx,rfl⟩:=List.mem_map.1 he
    exact hm.vals x hx
  have hne:n≠.nil:=hr.ne (by intro e;have:=congrArg JS e;simp at this;rw[this]at hpl;simp at hpl;omega);have hok:Z6f (ZT m) 0 m.length 0:=⟨by omega,by omega,fun _ _ _ _=>JE _⟩
  have hrep:Rep (seg (ZT m) 0 m.length 0) n:=by
   have:=ZK0 (ZT m);rw[hpl]at this;rw[this];exact hr
  have hbl:=Z41 hs;have hkl:=kids_len (n:=n) [];simp only[List.length_nil,J9]at hkl;refine((ZB4 n hc hs hne).1 hBS hEs hok hrep (by simp;omega)).mono ?_;rintro _ w4⟨o4,k4,rfl,L4,s4,B4,x4,hk4⟩;refine⟨_,_,_,rfl,?_⟩;refine(Z45 (bytesOf n) rfl (by omega) x4.rd).mono ?_;rintro _ w5⟨rfl,M5⟩;refine⟨_,rfl,?_⟩;rintro d w6⟨rfl,rfl⟩;have N6:=Blk.new w5 27 (Z 32 (JC JX 0));obtain⟨h1,h2,h3⟩:=Z12 N6 (by simp) (sumOf (bytesOf n));have M6:=ZI (M5.step_alloc (J0 (Z 32 (JC JX 0)) 27)) h3 M5.size;refine⟨_,h1,_,h2.rowAll (ZB _),?_⟩;have hge:=M5.size;generalize w5.heap.size=D at *
  generalize((w5.alloc (J0 (Z 32 (JC JX 0)) 27)).setRow D (hashA (sumOf (bytesOf n))))=w6 at *
  have B6:=B4.mod' M6 5;have s6:Stp NoS w4 L4 w6 (ext L4 w4.heap.size 5):=Stp.of_nob M6 5;have x6:=x4.stp s6 (fun h=>h);have D6:CB w6 (ext L4 w4.heap.size 5) 5 D tHash (hashA (sumOf (bytesOf n))):=⟨h2,ext_new hge⟩;generalize ext L4 w4.heap.size 5=L6 at *
  refine(ZAW (k:=k4) B6 x6 (ZO _) hk4 (by omega)).mono ?_;rintro _ w7⟨rfl,L7,s7,_,B7⟩;have D7:=D6.stp s7 (by decide)
  have enodes:(if met (kidsN n []) (sumOf (bytesOf n))then kidsN n []else kidsN n []++[(sumOf (bytesOf n),bytesOf n)])=Z3t n:=by
   unfold Z3t;rw[ZAl hne];unfold Z3Q;simp
  rw[enodes]at B7;refine⟨rfl,?_⟩;rintro _ rfl;have sD:Stp NoS w7 L7 w7.drew L7:=Stp.drew _ _ _;have D8:=D7.stp sD (fun h=>h);have B8:=B7.stp sD (fun h=>h) (fun h=>h) (fun h=>h) (fun h=>h) (fun h=>h);generalize w7.drew=w8 at *
  have sAll:Stp (fun k=>k=1\/k=4\/k=7\/8<=k) w2 L2 w8 L7:=by
   refine((((s3.mono ?_).trans (s4.mono ?_)).trans (s6.mono ?_)).trans (s7.mono ?_)).trans (sD.mono ?_)
   ·rintro k(h|h)
    ·exact JF h
    ·exact J3 (J3 (JF h))
   ·rintro k(h|h|h)
    ·exact JF h
    ·exact J3 (JF h)
    ·exact J3 (J3 (J3 (by omega)))
   ·exact fun _ h=>h.elim
   ·rintro k(h|h)
    ·exact JF h
    ·exact J3 (JF h)
   ·exact fun _ h=>h.elim
  obtain⟨ol,cl,op',cp',on,nn,kn,c1,c2,c3,c4⟩:=B8.ex;have H8:=H2c.stp sAll (by decide);obtain⟨g1,g2,g3⟩:=Z12 H8.blk (by simp) (sumOf (bytesOf n));have hNne:N+1≠N:=by omega
  have c9:Blk (w8.setRow N (hashA (sumOf (bytesOf n)))) (N+1) _ _:=c1.blk.row_ne hNne;simp only[Z3,J9];refine⟨_,D8.blk.rowAll (ZB _),_,_,_,c1.blk.rd1 rfl,_,g1,c9.rd1 rfl,_,g2.rowAll (ZB _),?_⟩;have hlt8:∀k,k<N->k<w2.heap.size:=fun k hk=>by omega
  have M28:Vcg.Mod NoB w w8:=M02.trans (sAll.mod (Q:=fun k=>N<=k) (fun k hk hs=>Nat.not_lt.1 fun hlt=>by
   rcases hold k hlt with h|h<;>rw[h]at hs<;>rcases hs with hs|hs|hs|hs<;>omega)) (fun i hi hq=>by omega)
  have s9:Stp (fun k=>k=2) w8 L7 (w8.setRow N (hashA (sumOf (bytesOf n)))) L7:=⟨g3.os,g3.tape,g3.output,g3.size,fun _ _=>rfl,fun k hk hn=>g3.block k hk (fun e=>hn (by subst e;exact H8.clr))⟩;obtain⟨rfl,vs',O8,C8⟩:=c4;have M9:=ZI M28 g3 (by omega);have O9:=O8.stp s9 (by decide);have C9:=C8.stp s9 (by decide);have hz9:(w8.setRow N (hashA (sumOf (bytesOf n)))).heap.size=w8.heap.size:=Z9Z _ _ _
  have hre:∀q,q=4\/q=5->∀k,k<(w8.setRow N (hashA (sumOf (bytesOf n)))).heap.size->L7 k=q->ext lab N cr k=cr:=fun q hq k hk he=>by
   by_cases hlt:k<N
   ·rw[sAll.lab k (by omega)]at he
    rcases hold k hlt with h|h<;>rw[h]at he<;>omega
   ·exact ext_new (by omega)
  exact hR _ _ ⟨on,kn,rfl,M9,rfl,vs',COw.row (COw.re O9 (hre 4 (JF rfl))),Z0S.re C9 (hre 5 (J3 rfl))⟩
theorem Z1V.re{o:Option Addr}{l:List (By×By)}{n:Nat}(h:Z1V w lab c l o n)(hl:∀k,k<w.heap.size->lab k=c->lab' k=c'):Z1V w lab' c' l o n:=by
 obtain⟨h1,vs,h2,h3⟩:=h;refine⟨h1,vs,fun j v hv=>?_,Z0S.re h3 hl⟩;obtain⟨b,f,ho,hb,hc,hcell⟩:=h2 j v hv;exact⟨b,f,ho,hb,hl b hb hc,hcell⟩
theorem ZE5{o:Option Addr}{k:Nat}{m:List (By×By)}{n:Nd}(h:Z2J w lab c o m)(hm:KvOk m)(hr:Rep (ZT m) n)(hc:Z0x n)(hs:Z58 n)(hcn:cnt n<=2^19)(cr:C) :
  Jb U Z1Q.n #[.slice o m.length k] w (fun e w'=>∃o' k',e=V (JI #[.agg (hashA (Z2K n)),.slice o' (Z3t n).length k'])/\Vcg.Mod NoB w w'/\Z1V w' (ext lab w.heap.size cr) cr (Z3t n) o' (Z3t n).length):=by
 refine Z1Q.vc _ _ _ _ _ ?_;unfold Z1Q.Vc;rintro d1 w1⟨rfl,rfl⟩;have M1:=Mod.alloc (S:=NoB) w (J0 (Z 32 (JC JX 0)) 27);have H1:=Blk.new w 27 (Z 32 (JC JX 0));have z1:=ZE w (J0 (Z 32 (JC JX 0)) 27);have h0:Z2J w (fun k=>if k<w.heap.size then K (lab k)else W) (K c) o m:=Z2J.re h (fun k hk hc=>by rw[if_pos hk,hc]);have h1:=h0.stp (S:=fun _=>False) (Stp.same M1 _) (fun h=>h);generalize w.alloc (J0 (Z 32 (JC JX 0)) 27)=w1 at *
 refine(ZFR h1 hm hr hc hs hcn (K cr)).mono ?_;rintro _ w2⟨o2,k2,rfl,M2,N2⟩;have H2:=H1.mod' M2;obtain⟨g1,g2,g3⟩:=Z12 H2 (by simp) (Z2K n)
 have hlab:ext (fun k=>if k<w.heap.size then K (lab k)else W) w1.heap.size (K cr) w.heap.size=W:=by
  rw[Z1M (by omega),if_neg (by omega)]
 have s3:Stp (fun z=>z=W) w2 (ext (fun k=>if k<w.heap.size then K (lab k)else W) w1.heap.size (K cr)) (w2.setRow w.heap.size (hashA (Z2K n))) (ext (fun k=>if k<w.heap.size then K (lab k)else W) w1.heap.size (K cr)) :=
  ⟨g3.os,g3.tape,g3.output,g3.size,fun _ _=>rfl,fun k hk hn=>g3.block k hk (fun e=>hn (by subst e;exact hlab))⟩
 refine⟨_,_,_,_,rfl,_,g1,_,g2.rowAll (ZB _),o2,k2,rfl,ZI (M1.trans M2 (fun _ _ h=>h)) g3 (JH _),Z1V.re (N2.stp s3 (by simp)) (fun k hk he=>?_)⟩;by_cases hlt:k<w.heap.size
 ·rw[Z1M (by omega)]at he
  rw[if_pos hlt]at he;rw[Z1M hlt];exact Option.some.inj he
 ·exact ext_new (by omega)
end
end Go.Proofs.YtfghidehlnfdiaaGreat
end
section
namespace Go.Trie
def ZFp:List (By×By)->By->By->List (By×By)
 |[],k,v=>if v=[]then[]else[(k,v)]
 |x::r,k,v=>if Z25 x.1 k<0 then x::ZFp r k v else(if v=[]then[]else[(k,v)])++(if x.1=k then r else x::r)
end Go.Trie
end
section
namespace Go.Proofs.YtfghidehlnfdiaaGreat
open Go Go.Vcg Go.Trie
abbrev tKv:Jj:=53
abbrev ZFi:Jj:=22
theorem Z8h:Tryz.prog.underlying ZFi=K (.slice tKv):=by kernel_rfl
theorem ZJb:(Tryz.prog.info? tKv).map (fun i=>(i.zero,i.size,i.bytes))=K (K (.agg #[.slice W 0 0,.slice W 0 0]),2,48):=by kernel_rfl
section
variable{C C':Type}{S:C->Prop}{w0 w w':J6}{lab:Nat->C}{lab':Nat->C'}{lab2:Nat->C}{c:C}{c':C'}{xs:List Value}{o:Option Addr}
theorem ZBZ.re(h:ZBZ w lab c o xs)(hl:∀k,k<w.heap.size->lab k=c->lab' k=c'):ZBZ w lab' c' o xs:=fun j v hv=>by
 obtain⟨b,f,ho,hb,hc,hcell⟩:=h j v hv;exact⟨b,f,ho,hb,hl b hb hc,hcell⟩
def Z1t(w:J6)(lab:Nat->C)(c:C)(vs:List Value)(m:List (By×By)):Prop :=
 vs.length=m.length*2/\∀(j:Nat)(hj:j<m.length),∃ok kk ov kv,vs[j*2]?=K (.slice ok m[j].1.length kk)/\CBy w lab c ok m[j].1/\vs[j*2+1]?=K (.slice ov m[j].2.length kv)/\CBy w lab c ov m[j].2
theorem Z1t.nil(w:J6)(lab:Nat->C)(c:C):Z1t w lab c [] []:=⟨rfl,fun j hj=>absurd hj (by simp)⟩
theorem Z1t.stp{vs:List Value}{m:List (By×By)}(h:Z1t w lab c vs m)(s:Stp S w lab w' lab2)(hs:¬S c):Z1t w' lab2 c vs m :=
 ⟨h.1,fun j hj=>by obtain⟨ok,kk,ov,kv,a,b,d,e⟩:=h.2 j hj;exact⟨ok,kk,ov,kv,a,b.stp s hs,d,e.stp s hs⟩⟩
theorem Z1t.re{vs:List Value}{m:List (By×By)}(h:Z1t w lab c vs m)(hl:∀k,k<w.heap.size->lab k=c->lab' k=c'):Z1t w lab' c' vs m :=
 ⟨h.1,fun j hj=>by obtain⟨ok,kk,ov,kv,a,b,d,e⟩:=h.2 j hj;exact⟨ok,kk,ov,kv,a,CBy.re b hl,d,CBy.re e hl⟩⟩
theorem Z1t.append{vs us:List Value}{m n:List (By×By)}(h:Z1t w lab c vs m)(k:Z1t w lab c us n):Z1t w lab c (vs++us) (m++n):=by
 have h1:=h.1;have k1:=k.1;refine⟨by rw[Y,Y,h1,k1];omega,fun j hj=>?_⟩;rw[Y]at hj;by_cases hl:j<m.length
 ·rw[List.getElem_append_left hl]
  obtain⟨ok,kk,ov,kv,a,b,d,e⟩:=h.2 j hl;exact⟨ok,kk,ov,kv,by rw[JN (by omega)];exact a,b,by rw[JN (by omega)];exact d,e⟩
 ·rw[List.getElem_append_right (by omega)]
  obtain⟨ok,kk,ov,kv,a,b,d,e⟩:=k.2 (j-m.length) (by omega);exact⟨ok,kk,ov,kv,by rw[JL (by omega),show j*2-vs.length=(j-m.length)*2 by omega];exact a,b,by rw[JL (by omega),show j*2+1-vs.length=(j-m.length)*2+1 by omega];exact d,e⟩
def KvR(w:J6)(lab:Nat->C)(c:C)(o:Option Addr)(m:List (By×By)):Prop:=∃vs,ZBZ w lab c o vs/\Z1t w lab c vs m
theorem KvR.row{m:List (By×By)}(h:KvR w lab c o m):Z2J w lab c o m:=fun j hj=>by
 obtain⟨vs,hR,hC⟩:=h;obtain⟨ok,kk,ov,kv,a,b,d,e⟩:=hC.2 j hj;obtain⟨g,f,ho,hg,hl,hc⟩:=hR _ _ a;obtain⟨g',f',ho',_,_,hc'⟩:=hR _ _ d;rw[ho]at ho';cases ho';exact⟨g,f,ok,kk,ov,kv,ho,hg,hl,hc,b,hc',e⟩
theorem ZJf{L:Nat->Nat}{q:Nat}{n k:Nat}{vs us:List Value}{o2:Option Addr}{k2 nn:Nat}(F:COw w L q tKv 2 o n k vs)(src:Src U 2 ZFi (.slice o2 nn k2) nn us w)(hn:n+nn<=2^30) :
  ∃o' k' w',Jd U (builtinV .append #[ZFi,ZFi] ZFi #[.slice o n k,.slice o2 nn k2]) w=.ok (.slice o' (n+nn) k') w'/\COw w' (ext L w.heap.size q) q tKv 2 o' (n+nn) k' (vs++us)/\Stp (·=q) w L w' (ext L w.heap.size q):=by
 obtain⟨i,hi,hz,hs,hb⟩:=Z2Q ZJb;exact COw.append (ty:=ZFi) Z8h hi hz hs rfl F src (by simp only[Ji];omega) (by rw[hb];omega)
noncomputable def ZGf(lab:Nat->C)(c:C)(N:Nat):Nat->Nat:=fun k=>if k<N then(@ite Nat (lab k=c) (Classical.propDecidable _) 0 1)else 0
theorem ZJh{N k:Nat}(hc:lab k=c):ZGf lab c N k=0:=by
 unfold ZGf;rw[if_pos hc];split<;>rfl
theorem ZIG{N k:Nat}(h:k<N):ZGf lab c N k≠2/\(ZGf lab c N k=0->lab k=c):=by
 unfold ZGf;rw[if_pos h];constructor
 ·split<;>decide
 ·split
  ·rename_i h;exact fun _=>h
  ·intro h;cases h
end
end Go.Proofs.YtfghidehlnfdiaaGreat
end
section
namespace Go.Trie
theorem Z8Z(a:UInt8):(a>>>4)<<<4|||(a&&&15)=a:=by
 have:∀n:Fin 256,((JG n>>>4)<<<4|||(JG n&&&15))=JG n:=by decide +kernel
 exact this a.toFin
theorem Z0U(a:UInt8)(k:By):nibbles (a::k)=(a>>>4)::(a&&&15)::nibbles k:=rfl
theorem Z6U:∀{a b:By},nibbles a=nibbles b->a=b
 |[],[],_=>rfl
 |[],b::q,h=>by simp[Z0U]at h;simp[nibbles]at h
 |a::p,[],h=>by simp[Z0U]at h;simp[nibbles]at h
 |a::p,b::q,h=>by
  rw[Z0U,Z0U]at h;simp only[List.cons.injEq]at h;rw[Z6U h.2.2,<-Z8Z a,<-Z8Z b,h.1,h.2.1]
theorem nib_lt{a b:UInt8}(h:a<b):a>>>4<b>>>4\/(a>>>4=b>>>4/\a&&&15<b&&&15):=by
 have e1:∀x:UInt8,(x>>>4).toNat=x.toNat/16:=fun x=>by
  have:∀n:Fin 256,(JG n>>>4).toNat=(JG n).toNat/16:=by decide +kernel
  exact this x.toFin
 have e2:∀x:UInt8,(x&&&15).toNat=x.toNat%16:=fun x=>by
  have:∀n:Fin 256,(JG n&&&15).toNat=(JG n).toNat%16:=by decide +kernel
  exact this x.toFin
 have h':a.toNat<b.toNat:=UInt8.lt_iff_toNat_lt.1 h;by_cases hq:a.toNat/16=b.toNat/16
 ·right
  refine⟨UInt8.toNat_inj.1 (by rw[e1,e1,hq]),?_⟩;rw[JQ,e2,e2];omega
 ·left
  rw[JQ,e1,e1];omega
theorem Z3c:∀{a b:By},ltB a b->ltB (nibbles a) (nibbles b)
 |p,[],h=>(Z4G _ h).elim
 |[],b::q,h=>by rw[Z0U];trivial
 |a::p,b::q,h=>by
  rw[Z0U,Z0U];rcases h with h|⟨rfl,h⟩
  ·rcases nib_lt h with h1|⟨h1,h2⟩
   ·exact JF h1
   ·exact J3 ⟨h1,JF h2⟩
  ·exact J3 ⟨rfl,J3 ⟨rfl,Z3c h⟩⟩
abbrev Z4C(m:List (By×By)):Prop:=m.Pairwise (fun x y=>ltB x.1 y.1)
theorem Z9F:∀(a b:By),ltB a b\/a=b\/ltB b a
 |[],[]=>J3 (JF rfl)
 |[],_::_=>JF trivial
 |_::_,[]=>J3 (J3 trivial)
 |a::p,b::q=>by
  by_cases h:a<b
  ·exact JF (JF h)
  ·by_cases h':b<a
   ·exact J3 (J3 (JF h'))
   ·have e:a=b:=UInt8.toNat_inj.1 (by rw[JQ]at h h';omega)
    subst e;rcases Z9F p q with h1|h1|h1
    ·exact JF (J3 ⟨rfl,h1⟩)
    ·exact J3 (JF (by rw[h1]))
    ·exact J3 (J3 (J3 ⟨rfl,h1⟩))
theorem Z6y:∀{m:List (By×By)} {k v:By},Z4C m->∀x,x∈ZFp m k v↔(x.1=k/\x.2=v/\v≠[])\/(x.1≠k/\x∈m)
 |[],k,v,_,x=>by
  simp only[ZFp];split
  ·rename_i h;simp[h]
  ·rename_i h
   simp only[JO,List.not_mem_nil,and_false,or_false];constructor
   ·rintro rfl;exact⟨rfl,rfl,h⟩
   ·rintro⟨h1,h2,_⟩;exact Prod.ext h1 h2
 |y::r,k,v,hs,x=>by
  rw[Z4C,JV]at hs;simp only[ZFp];by_cases hy:Z25 y.1 k<0
  ·rw[if_pos hy,JZ,Z6y hs.2,JZ]
   have hne:y.1≠k:=fun e=>by
    rw[Z1u,e]at hy;exact Z29 _ hy
   constructor
   ·rintro(rfl|h|h)
    ·exact J3 ⟨hne,JF rfl⟩
    ·exact JF h
    ·exact J3 ⟨h.1,J3 h.2⟩
   ·rintro(h|⟨h1,rfl|h2⟩)
    ·exact J3 (JF h)
    ·exact JF rfl
    ·exact J3 (J3 ⟨h1,h2⟩)
  ·rw[if_neg hy,List.mem_append]
   have hrest:∀z∈r,z.1≠k:=fun z hz e=>by
    have h1:=hs.1 z hz;rw[e]at h1;exact hy (Z1u.2 h1)
   have hnew:x∈(if v=[]then[]else[(k,v)])↔x.1=k/\x.2=v/\v≠[]:=by
    split
    ·rename_i h;simp[h]
    ·rename_i h
     rw[JO];constructor
     ·rintro rfl;exact⟨rfl,rfl,h⟩
     ·rintro⟨h1,h2,_⟩;exact Prod.ext h1 h2
   rw[hnew];by_cases hyk:y.1=k
   ·rw[if_pos hyk,JZ]
    constructor
    ·rintro(h|h)
     ·exact JF h
     ·exact J3 ⟨hrest x h,J3 h⟩
    ·rintro(h|⟨h1,rfl|h2⟩)
     ·exact JF h
     ·exact(h1 hyk).elim
     ·exact J3 h2
   ·rw[if_neg hyk,JZ]
    constructor
    ·rintro(h|rfl|h)
     ·exact JF h
     ·exact J3 ⟨hyk,JF rfl⟩
     ·exact J3 ⟨hrest x h,J3 h⟩
    ·rintro(h|⟨h1,h2⟩)
     ·exact JF h
     ·exact J3 h2
theorem Z9a:∀{m:List (By×By)} {k v:By},Z4C m->Z4C (ZFp m k v)
 |[],k,v,_=>by
  simp only[ZFp];split
  ·exact List.Pairwise.nil
  ·exact List.pairwise_singleton _ _
 |y::r,k,v,hs=>by
  have hs0:=hs;rw[Z4C,JV]at hs;by_cases hy:Z25 y.1 k<0
  ·have e:ZFp (y::r) k v=y::ZFp r k v:=by simp only[ZFp];rw[if_pos hy]
   rw[e,Z4C,JV];refine⟨fun z hz=>?_,Z9a hs.2⟩;rcases (Z6y hs.2 z).1 hz with⟨h1,_⟩|⟨_,h2⟩
   ·rw[h1];exact Z1u.1 hy
   ·exact hs.1 z h2
  ·have e:ZFp (y::r) k v=(if v=[]then[]else[(k,v)])++(if y.1=k then r else y::r):=by simp only[ZFp];rw[if_neg hy]
   rw[e,Z4C,List.pairwise_append]
   have hkr:∀z∈r,ltB k z.1:=fun z hz=>by
    have h1:=hs.1 z hz;rcases Z9F k y.1 with h|h|h
    ·exact Z3J h h1
    ·rw[h];exact h1
    ·exact(hy (Z1u.2 h)).elim
   refine⟨by split<;>simp,?_,fun x hx z hz=>?_⟩
   ·split
    ·exact hs.2
    ·exact hs0
   ·have hxk:x.1=k:=by
      split at hx
      ·cases hx
      ·rw[JO]at hx;rw[hx]
    rw[hxk];split at hz
    ·exact hkr z hz
    ·rename_i hyk
     rcases List.mem_cons.1 hz with rfl|hz
     ·rcases Z9F k z.1 with h|h|h
      ·exact h
      ·exact(hyk h.symm).elim
      ·exact(hy (Z1u.2 h)).elim
     ·exact hkr z hz
end Go.Trie
end
section
namespace Go.Proofs.YtfghidehlnfdiaaGreat
open Go Go.Vcg Go.Trie
theorem ZGq{m:List (By×By)}{k v:By}:(nibbles k,v)∈ZT m↔(k,v)∈m:=by
 unfold ZT;rw[Jg];constructor
 ·rintro⟨x,hx,he⟩
  have h1:=Z6U (JW he).1;have h2:=(JW he).2;rw[<-h1,<-h2];exact hx
 ·exact fun h=>⟨_,h,rfl⟩
theorem ZCY{m:List (By×By)}(hs:Z4C m):(ZT m).Pairwise (fun x y=>ltB x.1 y.1):=by
 unfold ZT;rw[List.pairwise_map];exact hs.imp (fun h=>Z3c h)
theorem ZKn{m:List (By×By)}{n:Nd}(hs:Z4C m)(h:∀p v,Trie.get n p=K v↔(p,v)∈ZT m):Rep (ZT m) n:=⟨ZCY hs,h⟩
theorem ZJt{m:List (By×By)}{n:Nd}{k v:By}(hr:Rep (ZT m) n)(hs:Z4C m)(hc:Z0x n)(hv:v≠[]):Rep (ZT (ZFp m k v)) (Trie.put n (nibbles k) v):=by
 refine ZKn (Z9a hs) (fun p x=>?_);rw[(Z8C hc (Zs k) hv).2.2.2 p];by_cases hp:p=nibbles k
 ·rw[if_pos hp,hp,ZGq,Z6y hs]
  constructor
  ·intro h;cases h;exact JF ⟨rfl,rfl,hv⟩
  ·rintro(⟨_,h,_⟩|⟨h,_⟩)
   ·exact congrArg K h.symm
   ·exact(h rfl).elim
 ·rw[if_neg hp,hr.2]
  unfold ZT;rw[Jg,Jg];constructor
  ·rintro⟨y,hy,he⟩
   refine⟨y,(Z6y hs y).2 (J3 ⟨fun e=>hp ?_,hy⟩),he⟩;rw[<-(JW he).1,e]
  ·rintro⟨y,hy,he⟩
   rcases (Z6y hs y).1 hy with⟨h,_⟩|⟨_,h⟩
   ·exact(hp (by rw[<-(JW he).1,h])).elim
   ·exact⟨y,h,he⟩
theorem ZJs:Rep (ZT []) .nil:=Rep.nil
section
variable{C C':Type}{S:C->Prop}{w0 w w':J6}{lab:Nat->C}{lab':Nat->C'}{lab2:Nat->C}{c c1:C}{c':C'}{xs:List Value}{o:Option Addr}
theorem toStr{w:J6}{o:Option Addr}{k:Nat}{b:By}(h:RdB w o b):Jd U (convert 23 9 (.slice o b.length k)) w=.ok (.string (Z9b b)) w:=Z0u ZW Z24 Z2V h
theorem Z8f(a b:By):Z8S .neq (Z9b a) (Z9b b)=decide (a≠b):=by
 have h:=Z2f a b
 have:Z8S .neq (Z9b a) (Z9b b)= !Z8S .eql (Z9b a) (Z9b b):=by
  simp only[Z8S,bne]
 rw[this,h];by_cases hab:a=b<;>simp[hab]
theorem Z5V{l:List (By×By)}{k:Nat}(h:Z1V w lab c l o l.length)(hb:∀x∈l,x.2.length<=2^20)(hlen:l.length<=2^20)(cr:C) :
  Jb U Z0Z.n #[.slice o l.length k] w (fun e w'=>∃o' k',e=V (.slice o' l.length k')/\l.length<=k'/\Vcg.Mod NoB w w'/\Z1V w' (ext lab w.heap.size cr) cr l o' l.length):=by
 refine ZD fun R hR=>Z0Z.vc _ _ _ _ _ ?_;unfold Z0Z.Vc;have inL:∀k,k<w.heap.size->lab k=c->ZGf lab c w.heap.size k=0:=fun k _ hc=>ZJh hc;have h0:Z1V w (ZGf lab c w.heap.size) 0 l o l.length:=Z1V.re h inL
 refine⟨fun o' n' k' i w'=>∃(j:Nat)(L:Nat->Nat),i=(j:Int)/\j<=l.length/\n'=j/\Stp (·=2) w (ZGf lab c w.heap.size) w' L/\Z9o w' L 2 3 (l.take j) o' n' k',fun _ _ _ i _=>((l.length:Int)-i).toNat,
  ⟨0,_,rfl,JE _,rfl,Stp.refl _ _ _,by rw[Jk];exact Z9o.nil _ _ _ _⟩,?_⟩
 rintro o1 j k1 _ _ w1⟨j',L1,rfl,hj,hjj,s1,O1⟩;subst hjj;obtain⟨_,vs,hCR,hNC⟩:=h0;refine⟨fun hlt=>?_,fun hge=>?_⟩
 ·rintro _ rfl
  have hjl:j<l.length:=by omega
  have sD:Stp NoS w1 L1 w1.drew L1:=Stp.drew _ _ _;have O2:=O1.stp sD (fun h=>h) (fun h=>h);have s2:=s1.trans (sD.mono (T:=fun k=>k=2) (fun _ h=>h.elim));generalize w1.drew=w2 at *
  have CR2:=hCR.stp s2 (by decide);have NC2:=hNC.stp s2 (by decide);obtain⟨g,f,rfl,hg,hlg,hrow⟩:=NC2.hash CR2 hjl;obtain⟨g',f',hgf,_,ob,kb,hcell,hby,_⟩:=NC2.bytes CR2 hjl;cases hgf;have hlen32:=(NC2.2 j hjl).1;have hbl:=hb _ (X hjl);obtain⟨o3,k3,w3,hr3,F3⟩:=Z1v (k2:=kb) (ty:=Zw) (Mod.refl w2) hby.rd (by omega)
  have hrow':∀w',Vcg.Mod NoB w2 w'->ZG w' (JK ⟨g,f,W⟩ (J1 (j:Int)*33)) 32 (hashA l[j].1):=fun w' M=>by
   rw[Z3,O];exact⟨hrow.1,fun i hi=>by rw[<-hrow.2 i hi,Z3];exact ZN M hg (fun h=>h)⟩
  have hZ:nd0.size=33:=rfl;refine⟨_,rfl,⟨by omega,by omega⟩,_,hrow' _ (Mod.refl _),_,rfl,⟨by omega,by omega⟩,_,_,_,by rw[Z3,Z3,O,JY];exact hcell,_,w3,hr3,_,_,_,rfl,hrow' _ F3.mod,ZB _,by rw[Zi];unfold lputL;rw[Zi,hZ],?_⟩;rw[ZEe hZ];rintro d w4⟨rfl,rfl⟩;have M4:=Mod.alloc (S:=NoB) w3 (J0 (ndA l[j].1 o3 l[j].2.length k3) tNd);have N4:=Blk.new w3 tNd (ndA l[j].1 o3 l[j].2.length k3);have M24:=F3.mod.trans M4 (fun _ _ h=>h);have s4:Stp NoS w2 L1 (w3.alloc (J0 (ndA l[j].1 o3 l[j].2.length k3) tNd)) (ext L1 w2.heap.size 3):=Stp.of_nob M24 3;have b4:CBy (w3.alloc (J0 (ndA l[j].1 o3 l[j].2.length k3) tNd)) (ext L1 w2.heap.size 3) 3 o3 l[j].2:=Z1x F3 M4;show ∃(v30:Value)(w31:J6),Jd U (builtinV .append #[34,34] 34 #[(.slice o1 j k1),(.slice (K ⟨w3.heap.size,0,W⟩) 1 1)]) (w3.alloc (J0 (ndA l[j].1 o3 l[j].2.length k3) tNd))=.ok v30 w31/\_;generalize w3.alloc (J0 (ndA l[j].1 o3 l[j].2.length k3) tNd)=w4 at *
  have O4:=O2.stp s4 (fun h=>h) (fun h=>h);have htl:(l.take j).length=j:=by rw[JR];omega
  obtain⟨o5,k5,w5,hr5,O5,s5⟩:=O4.push (by decide) N4 hlen32 b4 F3.own.cap.1 (by omega);have htk:l.take (j+1)=l.take j++[(l[j].1,l[j].2)]:=by rw[J4,J hjl];rfl
  refine⟨_,w5,hr5,_,_,_,rfl,⟨j+1,_,by rw[Z0 (by omega) (by omega)];omega,hjl,rfl,(s2.trans (s4.mono (fun _ h=>h.elim))).trans s5,by rw[htk];exact O5⟩,by dsimp only;rw[Z0 (by omega) (by omega)];omega⟩
 ·obtain rfl:j=l.length:=by omega
  rw[Ja]at O1;obtain⟨_,us,hO,hC⟩:=O1;have M1:Vcg.Mod NoB w w1:=(s1.mod (Q:=fun k=>w.heap.size<=k) (fun k hk hs=>Nat.not_lt.1 fun hlt=>(ZIG hlt).1 hs)).mono (fun i hi h=>by omega)
  have out:∀q,q=2\/q=3->∀z,z<w1.heap.size->L1 z=q->ext lab w.heap.size cr z=cr:=fun q hq z hz he=>by
   by_cases hlt:z<w.heap.size
   ·rw[s1.lab z hlt]at he
    have:ZGf lab c w.heap.size z=0\/ZGf lab c w.heap.size z=1:=by
     unfold ZGf;rw[if_pos hlt];split
     ·exact JF rfl
     ·exact J3 rfl
    rcases this with h|h<;>rw[h]at he<;>omega
   ·exact ext_new (by omega)
  exact hR _ _ ⟨o1,k1,rfl,hO.own.cap.1,M1,rfl,us,ZBZ.re (COw.row hO) (out 2 (JF rfl)),Z0S.re hC (out 3 (J3 rfl))⟩
end
end Go.Proofs.YtfghidehlnfdiaaGreat
end
section
namespace Go.Vcg
def lk(l:List (BitVec 64)):St:=fun i=>l.getD i 0
theorem ZHF{s r:St}(n:Nat)(h:∀i,i<25->s i=r i):∀j,j<25->rnd n s j=rnd n r j:=by
 have hp:∀x,x<5->par s x=par r x:=fun x hx=>by
  simp only[par,ZFo];rw[h (x+5*0) (by omega),h (x+5*1) (by omega),h (x+5*2) (by omega),h (x+5*3) (by omega),h (x+5*4) (by omega)]
 have hb:∀j,j<25->bbK s j=bbK r j:=fun j hj=>by
  simp only[bbK,bbXY,ddK];rw[h _ (by omega),hp _ (by omega),hp _ (by omega)]
 have hc:∀j,j<25->Z6L (bbK s) j=Z6L (bbK r) j:=fun j hj=>by
  simp only[Z6L];rw[hb _ (by omega),hb _ (by omega),hb _ (by omega)]
 intro j hj;simp only[rnd];rw[hc 0 (by omega),hc j hj]
end Go.Vcg
end
section
namespace Go.Trie
open Go.Vcg
def kDo:By:=[100,111]
def kDog:By:=[100,111,103]
def kDoge:By:=[100,111,103,101]
def ZKa:By:=[104,111,114,115,101]
def vVerb:By:=[118,101,114,98]
def vPuppy:By:=[112,117,112,112,121]
def vCoin:By:=[99,111,105,110]
def ZHh:By:=[115,116,97,108,108,105,111,110]
def n1:Nd:=(ZEl .nil kDo vVerb).2
def n2:Nd:=(ZEl n1 kDog vPuppy).2
def n3:Nd:=(ZEl n2 kDoge vCoin).2
def n4:Nd:=(ZEl n3 ZKa ZHh).2
theorem get4:get n4 (nibbles kDog)=K vPuppy:=by kernel_rfl
end Go.Trie
end
section
namespace Go.Proofs.YtfghidehlnfdiaaGreat
open Go Go.Vcg Go.Trie
theorem Z4S(w:J6){bs:By}{A:Array Value}(hA:A.toList=bs.map bV)(l k:Nat) :
  ∃w2,Jd U (convert 23 23 (.slice (K ⟨w.heap.size,0,W⟩) l k)) (w.alloc (J0 A 5))=.ok (.slice (K ⟨w.heap.size,0,W⟩) l k) w2/\Vcg.Mod NoB w w2/\RdB w2 (K ⟨w.heap.size,0,W⟩) bs:=by
 have B:=Blk.new w 5 A;obtain⟨w2,h2,M2,hc2⟩:=Z80 (P:=U) (t:=Zw) (l:=l) (c:=k) ZW (by kernel_rfl) B;refine⟨w2,h2,ZI (Mod.alloc w _) M2 (JH _),fun hne=>⟨w.heap.size,0,rfl,?_,fun i hi=>?_⟩⟩
 ·have:=M2.size
  have:=B.lt;omega
 ·rw[hc2,B.cell,J9,<-Array.getElem?_toList,hA]
  exact Z5o hi
theorem ZIn{w w1:J6}{t:Nat}{v:Value}{L:Nat->Nat}(M:Vcg.Mod NoB w w1)(ht:w.heap.size<=t)(T:Blk w1 t ZIl #[.nilIface,v]):Z6h w1 (ext L w.heap.size 1) 1 2 t .nil :=
 ⟨.nilIface,v,⟨T,ext_new ht⟩,rfl,trivial,ZEH⟩
theorem ZK4{w w1 w2:J6}{L1 L2:Nat->Nat}(M:Vcg.Mod NoB w w1)(hL:∀k,k<w.heap.size->L1 k≠1)(s:Stp (·=1) w1 L1 w2 L2):Vcg.Mod NoB w w2/\∀k,k<w.heap.size->L2 k≠1 :=
 ⟨M.trans (s.mod (Q:=fun k=>w.heap.size<=k) (fun k hk hs=>Nat.not_lt.1 fun hlt=>hL k hlt hs)) (fun i hi hq=>by omega),fun k hk=>by rw[s.lab k (J8 hk M.size)];exact hL k hk⟩
theorem ZI9{N M q:Nat}{L:Nat->Nat}(hM:N<=M)(h:∀k,k<N->L k≠1):∀k,k<N->ext L M q k≠1:=fun k hk=>by rw[Z1M (by omega)];exact h k hk
end Go.Proofs.YtfghidehlnfdiaaGreat
end
section
namespace Go.Proofs.YtfghidehlnfdiaaGreat
open Go Go.Vcg
abbrev Z32.n:Nat:=99
def Z32.Vc(a:Option Addr)(b c:Nat)(w:J6)(R:Ending->J6->Prop):Prop :=
 Jb U 43 #[.slice a b c] w (fun d e =>
 ∃f g h,d=V (.slice f g h) /\
 (((g:Int)=0 ->
 R (V (JI #[.slice W 0 0,JJ J7,JC JD 143])) e) /\
 ((g:Int)≠0 ->
 ∃d,f=K d /\
 ((0:Int)<=0/\0<(g:Int)) /\
 ∃i,e.cell? (d.add 0)=K (JC JX i) /\
 ((i>3 ->
 R (V (JI #[.slice W 0 0,JJ J7,JC JD 143])) e) /\
 (¬i>3 ->
 (((g:Int)>130 ->
 R (V (JI #[.slice W 0 0,JJ J7,JC JD 143])) e) /\
 (¬(g:Int)>130 ->
 ∃d,f=K d /\
 ((0:Int)<=0/\0<(g:Int)) /\
 ∃i,e.cell? (d.add 0)=K (JC JX i) /\
 1<=g /\
 ∃(d:Option Addr->Nat->Nat->J6->Prop),(∃j,f=K j /\
 ((0:Int)<=0/\0<(g:Int)) /\
 ∃k,e.cell? (j.add 0)=K (JC JX k) /\
 (((J5 k 2)=0 ->
 2<=g /\
 d (subO f h 2 1) (g-2) (h-2) e) /\
 ((J5 k 2)≠0 ->
 d (subO f h 1 1) (g-1) (h-1) e))) /\
 (∀(e:Option Addr)(f:Nat)(g:Nat)(h:Nat->Value)(h:J6),d e f g h ->
 Jb U 120 #[.slice e f g,JJ (decide (i>1))] h (fun d h =>
 ∃j k l m,d=V (JI #[.slice j k l,JC JD m]) /\
 ((m≠0 ->
 R (V (JI #[.slice W 0 0,JJ J7,JC JD 143])) h) /\
 (m=0 ->
 Jb U 82 #[.slice j k l,.slice a b c] h (fun a b =>
 ∃c,a=V (JJ c) /\
 ((c=J7 ->
 R (V (JI #[.slice W 0 0,JJ J7,JC JD 143])) b) /\
 (c=Jp ->
 R (V (JI #[.slice e f g,JJ (decide (i>1)),JC JD 0])) b))))))))))))))
theorem Z32.vc(a b c w R)(h:Z32.Vc a b c w R):Jb U 99 #[(.slice a b c)] w R:=xs [(1000008,[(7,.cell (.slice))])] [.slice a b c] Tryz.func99 ZL (by kernel_rfl) h
abbrev Z0H.n:Nat:=95
def Z0H.Vc(a:Option Addr)(b c:Nat)(w:J6)(R:Ending->J6->Prop):Prop :=
 (((b:Int)=0 ->
 R (V (JI #[.slice W 0 0,JJ J7,JC JD 143])) w) /\
 ((b:Int)≠0 ->
 (((b:Int)>65 ->
 R (V (JI #[.slice W 0 0,JJ J7,JC JD 143])) w) /\
 (¬(b:Int)>65 ->
 Jb U 54 #[.slice a b c] w (fun a b =>
 ∃c d e,a=V (.slice c d e) /\
 ∃a,c=K a /\
 ((0:Int)<=0/\0<(d:Int)) /\
 ∃f,b.cell? (a.add 0)=K (JC JX f) /\
 ((f>3 ->
 R (V (JI #[.slice W 0 0,JJ J7,JC JD 143])) b) /\
 (¬f>3 ->
 (((J5 f 2)=0 ->
 ∃a,c=K a /\
 ((0:Int)<=1/\1<(d:Int)) /\
 ∃g,b.cell? (a.add 1)=K (JC JX g) /\
 ((g≠0 ->
 R (V (JI #[.slice W 0 0,JJ J7,JC JD 143])) b) /\
 (g=0 ->
 ((0:Int)<=(G JX (2-(J5 f 2)))/\(G JX (2-(J5 f 2)))<=(d:Int)) /\
 (((((d-(J1 (G JX (2-(J5 f 2))))):Nat):Int)>128 ->
 R (V (JI #[.slice W 0 0,JJ J7,JC JD 143])) b) /\
 (¬(((d-(J1 (G JX (2-(J5 f 2))))):Nat):Int)>128 ->
 R (V (JI #[.slice (subO c e (J1 (G JX (2-(J5 f 2)))) 1) (d-(J1 (G JX (2-(J5 f 2))))) (e-(J1 (G JX (2-(J5 f 2))))),JJ (decide (f>1)),JC JD 0])) b))))) /\
 ((J5 f 2)≠0 ->
 ((0:Int)<=(G JX (2-(J5 f 2)))/\(G JX (2-(J5 f 2)))<=(d:Int)) /\
 (((((d-(J1 (G JX (2-(J5 f 2))))):Nat):Int)>128 ->
 R (V (JI #[.slice W 0 0,JJ J7,JC JD 143])) b) /\
 (¬(((d-(J1 (G JX (2-(J5 f 2))))):Nat):Int)>128 ->
 R (V (JI #[.slice (subO c e (J1 (G JX (2-(J5 f 2)))) 1) (d-(J1 (G JX (2-(J5 f 2))))) (e-(J1 (G JX (2-(J5 f 2))))),JJ (decide (f>1)),JC JD 0])) b)))))))))))
theorem Z0H.vc(a b c w R)(h:Z0H.Vc a b c w R):Jb U 95 #[(.slice a b c)] w R:=xs [] [.slice a b c] Tryz.func95 ZL (by kernel_rfl) h
end Go.Proofs.YtfghidehlnfdiaaGreat
end
