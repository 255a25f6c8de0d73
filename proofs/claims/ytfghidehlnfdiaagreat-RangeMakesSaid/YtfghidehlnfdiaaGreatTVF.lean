/- Contracts of the reference: made, Of. -/
/- Contracts of the reference: Put, Find; the plain map. -/
/- The sorted map and its trie: plain Lean. -/
/- Contracts: Find, Nodes, things held against one another. -/
/- States as lists; a round looks at 25 lanes alone. -/
/- The document's example: the law's own check of it. -/
/- The verification conditions of some functions, printed by a program of ours (wip/PrintVc.lean). -/
/- Unpacking a path, both ways. -/
import Derived.Test.YtfghidehlnfdiaaGreatTR8
import Derived.Test.YtfghidehlnfdiaaGreatTN1
import Derived.Test.YtfghidehlnfdiaaGreatXRef
import Derived.Test.YtfghidehlnfdiaaGreatProg
import Derived.KernelRfl
set_option linter.unusedVariables false
set_option linter.unusedSimpArgs false
section
namespace Go.Proofs.YtfghidehlnfdiaaGreat
open Go Go.Vcg Go.Trie
theorem Z72:Tryz.prog.underlying 31=some (.slice Z07):=by kernel_rfl
theorem ZAH:(Tryz.prog.info? Z07).map (fun i=>(i.zero,i.size,i.bytes))=some (some (.slice none 0 0),1,24):=by kernel_rfl
section
variable {C C':Type} {S:C→Prop} {w w':World} {lab:Nat→C} {lab':Nat→C'} {lab2:Nat→C} {c:C} {c':C'}
def Z5M (w:World) (lab:Nat→C) (c:C) (o:Option Addr) (m:List (By×By)):Prop :=
 ∀(j:Nat) (hj:j < m.length),∃b f ok kk ov kv,o=some ⟨b,f,none⟩∧b < w.heap.size∧lab b=c∧w.cell? ⟨b,f+j * 2,none⟩=some (.slice ok m[j].1.length kk)∧CBy w lab c ok m[j].1∧w.cell? ⟨b,f+(j * 2+1),none⟩=some (.slice ov m[j].2.length kv)∧CBy w lab c ov m[j].2
theorem Z5M.stp {o:Option Addr} {m:List (By×By)} (h:Z5M w lab c o m) (s:Stp S w lab w' lab2) (hs:¬S c):Z5M w' lab2 c o m:=fun j hj=>by
 obtain ⟨b,f,ok,kk,ov,kv,e1,e2,e3,e4,e5,e6,e7⟩:=h j hj
 exact ⟨b,f,ok,kk,ov,kv,e1,Nat.lt_of_lt_of_le e2 s.size,(s.lab b e2).trans e3,(World.cell?_of_block (s.block b e2 (by rw [e3]; exact hs))).trans e4,e5.stp s hs,(World.cell?_of_block (s.block b e2 (by rw [e3]; exact hs))).trans e6,e7.stp s hs⟩
theorem Z5M.re {o:Option Addr} {m:List (By×By)} (h:Z5M w lab c o m) (hl:∀k,k < w.heap.size→lab k=c→lab' k=c'):Z5M w lab' c' o m:=fun j hj=>by
 obtain ⟨b,f,ok,kk,ov,kv,e1,e2,e3,e4,e5,e6,e7⟩:=h j hj
 exact ⟨b,f,ok,kk,ov,kv,e1,e2,hl b e2 e3,e4,CBy.re e5 hl,e6,CBy.re e7 hl⟩
noncomputable def labB (lab:Nat→C) (c:C) (N d:Nat):Nat→Nat:=fun k=>if k < N then (@ite Nat (lab k=c) (Classical.propDecidable _) 6 0) else if k=d then 1 else if k=N then 2 else 5
theorem ZFL {N d k:Nat} (h:k < N):labB lab c N d k=6∨labB lab c N d k=0:=by
 unfold labB
 rw [if_pos h]
 split
 ·exact .inl rfl
 ·exact .inr rfl
theorem ZGy {N d k:Nat} (h:k < N) (hc:lab k=c):labB lab c N d k=6:=by
 unfold labB
 rw [if_pos h,if_pos hc]
def Z0e (m:List (By×By)):List (By×By):=m.map fun e=>(nibbles e.1,e.2)
theorem ZH8 (es:List (By×By)):seg es 0 es.length 0=es:=by
 unfold seg
 rw [List.drop_zero,Nat.sub_zero,List.take_length]
 have:(fun e:By×By=>(e.1.drop 0,e.2))=id:=by funext e; simp
 rw [this,List.map_id]
structure KvOk (m:List (By×By)):Prop where
 len:m.length≤2 ^ 20
 keys:∀e∈m,e.1.length≤64
 vals:∀e∈m,e.2.length≤1024
theorem ZDC {o:Option Addr} {k:Nat} {m:List (By×By)} {n:Nd} (h:Z5M w lab c o m) (hm:KvOk m) (hr:Rep (Z0e m) n) (hc:Z1p n) (hs:Z60 n) (hcn:cnt n≤2 ^ 19) (cr:C) :
  Calls Tryz.prog Z0K.n #[.slice o m.length k,.bool false] w (fun e w'=>∃o' k',e=.returned (.tuple #[.agg (hashA (rootOf n)),.slice o' (Z0t n).length k'])∧Vcg.Mod NoB w w'∧Z0w w' (ext lab w.heap.size cr) cr (Z0t n) o' (Z0t n).length):=by
 refine ZH fun R hR=>Z0K.vc _ _ _ _ _ _ ?_
 unfold Z0K.Vc
 have hml:=hm.len
 rintro d2 w1 ⟨rfl,rfl⟩
 have M1:=Mod.alloc (S:=NoB) w (.cells (Array.replicate 32 (.int .u8 0)) 27)
 have H1:=Blk.new w 27 (Array.replicate 32 (.int .u8 0))
 have z1:=ZD w (.cells (Array.replicate 32 (.int .u8 0)) 27)
 generalize w.alloc (.cells (Array.replicate 32 (.int .u8 0)) 27)=w1 at *
 generalize hN:w.heap.size=N at *
 refine ⟨fun h0=>?_,fun h0=>?_⟩
 ·obtain rfl:m=[]:=List.eq_nil_of_length_eq_zero (by omega)
  have hnil:=hr.nil_inv hc
  subst hnil
  refine (Z6c w1).mono ?_
  rintro _ w2 ⟨rfl,M2⟩
  obtain ⟨h1,h2,h3⟩:=Z1c (H1.mod' M2) (by simp) emptyH
  refine ⟨_,rfl,_,h1,_,h2.rowAll (ZB _),hR _ _ ⟨none,0,?_,ZM (M1.trans M2 (fun _ _ h=>h)) h3 (by omega),Z0w.nil _ _ _ _⟩⟩
  rw [Trie.rootOf,Z9s]; rfl
 rintro d9 w2 ⟨rfl,rfl⟩
 rw [z1]
 have M2:=Mod.alloc (S:=NoB) w1 (.cells #[.slice o m.length k,.slice none 0 0,.slice none 0 0,.bool false] 118)
 have D2:=Blk.new w1 118 #[.slice o m.length k,.slice none 0 0,.slice none 0 0,.bool false]
 have z2:=ZD w1 (.cells #[.slice o m.length k,.slice none 0 0,.slice none 0 0,.bool false] 118)
 rw [z1] at D2 z2
 have H2:=H1.mod' M2
 have M02:=M1.trans M2 (fun _ _ h=>h)
 generalize w1.alloc (.cells #[.slice o m.length k,.slice none 0 0,.slice none 0 0,.bool false] 118)=w2 at *
 have lD:labB lab c N (N+1) (N+1)=1:=by unfold labB; rw [if_neg (by omega),if_pos rfl]
 have lH:labB lab c N (N+1) N=2:=by unfold labB; rw [if_neg (by omega),if_neg (by omega),if_pos rfl]
 have hkv:Z5M w2 (labB lab c N (N+1)) 6 o m:=(Z5M.re h (fun k hk hc=>ZGy (by omega) hc)).stp (Stp.same M02 (labB lab c N (N+1))) (fun h=>h)
 have D2c:CB w2 (labB lab c N (N+1)) 1 (N+1) ZEq #[.slice o m.length k,.slice none 0 0,.slice none 0 0,.bool false]:=⟨D2,lD⟩
 have H2c:CB w2 (labB lab c N (N+1)) 2 N tHash (Array.replicate 32 (.int .u8 0)):=⟨H2,lH⟩
 have hold:∀k,k < N→labB lab c N (N+1) k=6∨labB lab c N (N+1) k=0:=fun k hk=>ZFL hk
 generalize labB lab c N (N+1)=L2 at *
 let P:Nat→By:=fun j=>nibbles ((m[j]?.getD ([],[])).1)
 refine ⟨fun i w'=>∃(j:Nat) (L:Nat→Nat) (op:Option Addr) (cp:Nat) (vs:List Value),i=(j:Int)∧j≤m.length∧Stp (fun k=>k=1∨k=7) w2 L2 w' L ∧
   CB w' L 1 (N+1) ZEq #[.slice o m.length k,.slice op j cp,.slice none 0 0,.bool false]∧COw w' L 7 Z07 1 op j cp vs∧∀i,i < j→∃o k,vs[i]?=some (.slice o (P i).length k)∧(P i).length≤k∧CBy w' L 5 o (P i),
  fun i _=>((m.length:Int) - i).toNat,⟨0,L2,none,0,[],rfl,Nat.zero_le _,Stp.refl _ _ _,D2c,COw.nil _ _ _ _ _,fun i hi=>absurd hi (by omega)⟩,?_⟩
 rintro _ _ w3 ⟨j,L3,op,cp,vs,rfl,hj,s3,D3,O3,hvs⟩
 have hkv3:=hkv.stp s3 (by decide)
 refine ⟨fun hlt=>?_,fun hge=>?_⟩
 ·have hjl:j < m.length:=by omega
  rintro _ rfl
  have sD:Stp NoS w3 L3 w3.drew L3:=Stp.drew _ _ _
  have hkv4:=hkv3.stp sD (fun h=>h)
  have D4:=D3.stp sD (fun h=>h)
  have O4:=O3.stp sD (fun h=>h)
  have hvs4:∀i,i < j→∃o k,vs[i]?=some (.slice o (P i).length k)∧(P i).length≤k∧CBy w3.drew L3 5 o (P i):=fun i hi=>by obtain ⟨o,k,a,b,c⟩:=hvs i hi; exact ⟨o,k,a,b,c.stp sD (fun h=>h)⟩
  have s4:=s3.trans (sD.mono (T:=fun k=>k=1∨k=7) (fun _ h=>h.elim))
  generalize w3.drew=w4 at *
  obtain ⟨b,f,ok,kk,ov,kv,rfl,e2,e3,e4,e5,e6,e7⟩:=hkv4 j hjl
  have hkl:=hm.keys _ (List.getElem_mem hjl)
  simp only [Z6,Nat.zero_add,Int.toNat_natCast]
  refine ⟨_,_,_,D4.blk.rd1 rfl,_,rfl,⟨by omega,by omega⟩,_,_,_,by rw [Z6]; exact e4,?_⟩
  refine (Z2Z e5.rd (by omega)).mono ?_
  rintro _ w5 ⟨o5,k5,rfl,F5⟩
  refine ⟨_,_,_,rfl,(D4.blk.mod' F5.mod).rd1 rfl,?_⟩
  rintro d w6 ⟨rfl,rfl⟩
  have M6:=Mod.alloc (S:=NoB) w5 (.cells #[.slice o5 (nibbles m[j].1).length k5] 23)
  have N6:=Blk.new w5 23 #[.slice o5 (nibbles m[j].1).length k5]
  have M46:=F5.mod.trans M6 (fun _ _ h=>h)
  have s6:Stp NoS w4 L3 (w5.alloc (.cells #[.slice o5 (nibbles m[j].1).length k5] 23)) (ext L3 w4.heap.size 5):=Stp.of_nob M46 5
  have b6:CBy (w5.alloc (.cells #[.slice o5 (nibbles m[j].1).length k5] 23)) (ext L3 w4.heap.size 5) 5 o5 (nibbles m[j].1):=Z2x F5 M6
  generalize w5.alloc (.cells #[.slice o5 (nibbles m[j].1).length k5] 23)=w6 at *
  have D6:=D4.stp s6 (fun h=>h)
  have O6:=O4.stp s6 (fun h=>h)
  have hvs6:∀i,i < j→∃o k,vs[i]?=some (.slice o (P i).length k)∧(P i).length≤k∧CBy w6 (ext L3 w4.heap.size 5) 5 o (P i):=fun i hi=>by obtain ⟨o,k,a,b,c⟩:=hvs4 i hi; exact ⟨o,k,a,b,c.stp s6 (fun h=>h)⟩
  generalize ext L3 w4.heap.size 5=L6 at *
  obtain ⟨i,hi,hz,hsz,hb⟩:=Z2G ZAH
  obtain ⟨o7,k7,w7,hr7,O7,s7⟩:=COw.append (ty:=31) Z72 hi hz hsz rfl O6 (Z5K Z72 N6 rfl (by simp [Value.oneCell'])) (by simp only [maxLen]; omega) (by rw [hb]; omega)
  have D7:=D6.stp s7 (by decide)
  have b7:=b6.stp s7 (by decide)
  have hvs7:∀i,i < j→∃o k,vs[i]?=some (.slice o (P i).length k)∧(P i).length≤k∧CBy w7 (ext L6 w6.heap.size 7) 5 o (P i):=fun i hi=>by obtain ⟨o,k,a,b,c⟩:=hvs6 i hi; exact ⟨o,k,a,b,c.stp s7 (by decide)⟩
  generalize ext L6 w6.heap.size 7=L7 at *
  refine ⟨D6.blk.rd1 rfl,_,w7,hr7,_,_,_,rfl,D7.blk.canSet (by simp) rfl,?_⟩
  rintro _ rfl
  have s8:Stp (fun k=>k=1) w7 L7 (w7.setCell ⟨N+1,1,none⟩ (.slice o7 (j+1) k7)) L7:=Stp.setCell D7.clr
  have hPj:P j=nibbles m[j].1:=by simp only [P]; rw [List.getElem?_eq_getElem hjl]; rfl
  have hvl:vs.length=j:=O6.own.len
  refine ⟨⟨j+1,L7,o7,k7,vs++[.slice o5 (nibbles m[j].1).length k5],by rw [Z0 (by omega) (by omega)]; omega,hjl,((s4.trans (s6.mono (fun _ h=>h.elim))).trans (s7.mono (fun _ h=>.inr h))).trans (s8.mono (fun _ h=>.inl h)),D7.set 1 _,O7.stp s8 (by decide),fun i hi=>?_⟩,by rw [Z0 (by omega) (by omega)]; omega⟩
  by_cases hij:i < j
  ·obtain ⟨o,k,a,b,c⟩:=hvs7 i hij
   exact ⟨o,k,by rw [List.getElem?_append_left (by omega)]; exact a,b,c.stp s8 (by decide)⟩
  ·obtain rfl:i=j:=by omega
   refine ⟨o5,k5,by rw [List.getElem?_append_right (by omega),hvl,Nat.sub_self,hPj]; rfl,by rw [hPj]; exact F5.own.cap.1,by rw [hPj]; exact b7.stp s8 (by decide)⟩
 ·obtain rfl:j=m.length:=by omega
  have hpl:(Z0e m).length=m.length:=by simp [Z0e]
  have hget:∀(i:Nat) (hi:i < (Z0e m).length),(Z0e m)[i]=(nibbles (m[i]'(by omega)).1,(m[i]'(by omega)).2):=fun i hi=>by simp [Z0e]
  have hBS:BS w3 L3 (N+1) (Z0e m) []:=by
   refine ⟨⟨o,k,op,cp,none,0,0,by rw [hpl]; exact D3,fun i hi=>?_,fun i hi=>?_,Z84.nil _ _ _ _⟩⟩
   ·obtain ⟨b,f,ok,kk,ov,kv,e1,e2,e3,e4,e5,e6,e7⟩:=hkv3 i (by omega)
    rw [hget i hi]
    exact ⟨b,f,ov,kv,e1,e2,e3,e6,e7⟩
   ·obtain ⟨o',k',a,b,d⟩:=hvs i (by omega)
    obtain ⟨g,f,ho,hg,hl,hcell⟩:=O3.row i _ a
    rw [hget i hi]
    have hPi:P i=nibbles (m[i]'(by omega)).1:=by simp only [P]; rw [List.getElem?_eq_getElem (by omega)]; rfl
    rw [← hPi]
    exact ⟨g,f,o',k',ho,hg,hl,hcell,b,d⟩
  have hEs:EsOk (Z0e m):=by
   refine ⟨by omega,fun e he=>?_,fun e he=>?_⟩
   ·obtain ⟨x,hx,rfl⟩:=List.mem_map.1 he
    have:=hm.keys x hx
    show (nibbles x.1).length≤128
    rw [ZT]; omega
   ·obtain ⟨x,hx,rfl⟩:=List.mem_map.1 he
    exact hm.vals x hx
  have hne:n≠.nil:=hr.ne (by intro e; have:=congrArg List.length e; simp at this; rw [this] at hpl; simp at hpl; omega)
  have hok:Z83 (Z0e m) 0 m.length 0:=⟨by omega,by omega,fun _ _ _ _=>Nat.zero_le _⟩
  have hrep:Rep (seg (Z0e m) 0 m.length 0) n:=by
   have:=ZH8 (Z0e m)
   rw [hpl] at this
   rw [this]; exact hr
  have hbl:=Z8z hs
  have hkl:=kids_len (n:=n) []
  simp only [List.length_nil,Nat.zero_add] at hkl
  refine ((ZBO n hc hs hne).1 hBS hEs hok hrep (by simp; omega)).mono ?_
  rintro _ w4 ⟨o4,k4,rfl,L4,s4,B4,x4,hk4⟩
  refine ⟨_,_,_,rfl,?_⟩
  refine (Z4Q (bytesOf n) rfl (by omega) x4.rd).mono ?_
  rintro _ w5 ⟨rfl,M5⟩
  refine ⟨_,rfl,?_⟩
  rintro d w6 ⟨rfl,rfl⟩
  have N6:=Blk.new w5 27 (Array.replicate 32 (.int .u8 0))
  obtain ⟨h1,h2,h3⟩:=Z1c N6 (by simp) (sumOf (bytesOf n))
  have M6:=ZM (M5.step_alloc (.cells (Array.replicate 32 (.int .u8 0)) 27)) h3 M5.size
  refine ⟨_,h1,_,h2.rowAll (ZB _),?_⟩
  have hge:=M5.size
  generalize w5.heap.size=D at *
  generalize ((w5.alloc (.cells (Array.replicate 32 (.int .u8 0)) 27)).setRow D (hashA (sumOf (bytesOf n))))=w6 at *
  have B6:=B4.mod' M6 5
  have s6:Stp NoS w4 L4 w6 (ext L4 w4.heap.size 5):=Stp.of_nob M6 5
  have x6:=x4.stp s6 (fun h=>h)
  have D6:CB w6 (ext L4 w4.heap.size 5) 5 D tHash (hashA (sumOf (bytesOf n))):=⟨h2,ext_new hge⟩
  generalize ext L4 w4.heap.size 5=L6 at *
  refine (Z8f (k:=k4) B6 x6 (Z04 _) hk4 (by omega)).mono ?_
  rintro _ w7 ⟨rfl,L7,s7,_,B7⟩
  have D7:=D6.stp s7 (by decide)
  have enodes:(if met (kidsN n []) (sumOf (bytesOf n)) then kidsN n [] else kidsN n []++[(sumOf (bytesOf n),bytesOf n)])=Z0t n:=by
   unfold Z0t
   rw [Z8v hne]
   unfold Z27
   simp
  rw [enodes] at B7
  refine ⟨rfl,?_⟩
  rintro _ rfl
  have sD:Stp NoS w7 L7 w7.drew L7:=Stp.drew _ _ _
  have D8:=D7.stp sD (fun h=>h)
  have B8:=B7.stp sD (fun h=>h) (fun h=>h) (fun h=>h) (fun h=>h) (fun h=>h)
  generalize w7.drew=w8 at *
  have sAll:Stp (fun k=>k=1∨k=4∨k=7∨8≤k) w2 L2 w8 L7:=by
   refine ((((s3.mono ?_).trans (s4.mono ?_)).trans (s6.mono ?_)).trans (s7.mono ?_)).trans (sD.mono ?_)
   ·rintro k (h | h)
    ·exact .inl h
    ·exact .inr (.inr (.inl h))
   ·rintro k (h | h | h)
    ·exact .inl h
    ·exact .inr (.inl h)
    ·exact .inr (.inr (.inr (by omega)))
   ·exact fun _ h=>h.elim
   ·rintro k (h | h)
    ·exact .inl h
    ·exact .inr (.inl h)
   ·exact fun _ h=>h.elim
  obtain ⟨ol,cl,op',cp',on,nn,kn,c1,c2,c3,c4⟩:=B8.ex
  have H8:=H2c.stp sAll (by decide)
  obtain ⟨g1,g2,g3⟩:=Z1c H8.blk (by simp) (sumOf (bytesOf n))
  have hNne:N+1≠N:=by omega
  have c9:Blk (w8.setRow N (hashA (sumOf (bytesOf n)))) (N+1) _ _:=c1.blk.row_ne hNne
  simp only [Z6,Nat.zero_add]
  refine ⟨_,D8.blk.rowAll (ZB _),_,_,_,c1.blk.rd1 rfl,_,g1,c9.rd1 rfl,_,g2.rowAll (ZB _),?_⟩
  have hlt8:∀k,k < N→k < w2.heap.size:=fun k hk=>by omega
  have M28:Vcg.Mod NoB w w8:=M02.trans (sAll.mod (Q:=fun k=>N≤k) (fun k hk hs=>Nat.not_lt.1 fun hlt=>by
   rcases hold k hlt with h | h <;> rw [h] at hs <;> rcases hs with hs | hs | hs | hs <;> omega)) (fun i hi hq=>by omega)
  have s9:Stp (fun k=>k=2) w8 L7 (w8.setRow N (hashA (sumOf (bytesOf n)))) L7:=⟨g3.os,g3.tape,g3.output,g3.size,fun _ _=>rfl,fun k hk hn=>g3.block k hk (fun e=>hn (by subst e; exact H8.clr))⟩
  obtain ⟨rfl,vs',O8,C8⟩:=c4
  have M9:=ZM M28 g3 (by omega)
  have O9:=O8.stp s9 (by decide)
  have C9:=C8.stp s9 (by decide)
  have hz9:(w8.setRow N (hashA (sumOf (bytesOf n)))).heap.size=w8.heap.size:=ZBh _ _ _
  have hre:∀q,q=4∨q=5→∀k,k < (w8.setRow N (hashA (sumOf (bytesOf n)))).heap.size→L7 k=q→ext lab N cr k=cr:=fun q hq k hk he=>by
   by_cases hlt:k < N
   ·rw [sAll.lab k (by omega)] at he
    rcases hold k hlt with h | h <;> rw [h] at he <;> omega
   ·exact ext_new (by omega)
  exact hR _ _ ⟨on,kn,rfl,M9,rfl,vs',COw.row (COw.re O9 (hre 4 (.inl rfl))),ZV.re C9 (hre 5 (.inr rfl))⟩
theorem Z0w.re {o:Option Addr} {l:List (By×By)} {n:Nat} (h:Z0w w lab c l o n) (hl:∀k,k < w.heap.size→lab k=c→lab' k=c'):Z0w w lab' c' l o n:=by
 obtain ⟨h1,vs,h2,h3⟩:=h
 refine ⟨h1,vs,fun j v hv=>?_,ZV.re h3 hl⟩
 obtain ⟨b,f,ho,hb,hc,hcell⟩:=h2 j v hv
 exact ⟨b,f,ho,hb,hl b hb hc,hcell⟩
theorem ZBz {o:Option Addr} {k:Nat} {m:List (By×By)} {n:Nd} (h:Z5M w lab c o m) (hm:KvOk m) (hr:Rep (Z0e m) n) (hc:Z1p n) (hs:Z60 n) (hcn:cnt n≤2 ^ 19) (cr:C) :
  Calls Tryz.prog Z0m.n #[.slice o m.length k] w (fun e w'=>∃o' k',e=.returned (.tuple #[.agg (hashA (rootOf n)),.slice o' (Z0t n).length k'])∧Vcg.Mod NoB w w'∧Z0w w' (ext lab w.heap.size cr) cr (Z0t n) o' (Z0t n).length):=by
 refine Z0m.vc _ _ _ _ _ ?_
 unfold Z0m.Vc
 rintro d1 w1 ⟨rfl,rfl⟩
 have M1:=Mod.alloc (S:=NoB) w (.cells (Array.replicate 32 (.int .u8 0)) 27)
 have H1:=Blk.new w 27 (Array.replicate 32 (.int .u8 0))
 have z1:=ZD w (.cells (Array.replicate 32 (.int .u8 0)) 27)
 have h0:Z5M w (fun k=>if k < w.heap.size then some (lab k) else none) (some c) o m:=Z5M.re h (fun k hk hc=>by rw [if_pos hk,hc])
 have h1:=h0.stp (S:=fun _=>False) (Stp.same M1 _) (fun h=>h)
 generalize w.alloc (.cells (Array.replicate 32 (.int .u8 0)) 27)=w1 at *
 refine (ZDC h1 hm hr hc hs hcn (some cr)).mono ?_
 rintro _ w2 ⟨o2,k2,rfl,M2,N2⟩
 have H2:=H1.mod' M2
 obtain ⟨g1,g2,g3⟩:=Z1c H2 (by simp) (rootOf n)
 have hlab:ext (fun k=>if k < w.heap.size then some (lab k) else none) w1.heap.size (some cr) w.heap.size=none:=by
  rw [Z2E (by omega),if_neg (by omega)]
 have s3:Stp (fun z=>z=none) w2 (ext (fun k=>if k < w.heap.size then some (lab k) else none) w1.heap.size (some cr)) (w2.setRow w.heap.size (hashA (rootOf n))) (ext (fun k=>if k < w.heap.size then some (lab k) else none) w1.heap.size (some cr)) :=
  ⟨g3.os,g3.tape,g3.output,g3.size,fun _ _=>rfl,fun k hk hn=>g3.block k hk (fun e=>hn (by subst e; exact hlab))⟩
 refine ⟨_,_,_,_,rfl,_,g1,_,g2.rowAll (ZB _),o2,k2,rfl,ZM (M1.trans M2 (fun _ _ h=>h)) g3 (Nat.le_refl _),Z0w.re (N2.stp s3 (by simp)) (fun k hk he=>?_)⟩
 by_cases hlt:k < w.heap.size
 ·rw [Z2E (by omega)] at he
  rw [if_pos hlt] at he
  rw [Z2E hlt]
  exact Option.some.inj he
 ·exact ext_new (by omega)
end
end Go.Proofs.YtfghidehlnfdiaaGreat
end
section
namespace Go.Trie
def ZBX:List (By×By)→By→By→List (By×By)
 | [],k,v=>if v=[] then [] else [(k,v)]
 | x :: r,k,v=>if Z1z x.1 k < 0 then x :: ZBX r k v else (if v=[] then [] else [(k,v)])++(if x.1=k then r else x :: r)
end Go.Trie
namespace Go.Proofs.YtfghidehlnfdiaaGreat
open Go Go.Vcg Go.Trie
abbrev tKv:TypeId:=53
abbrev tSlKv:TypeId:=22
theorem ZCp:Tryz.prog.underlying tSlKv=some (.slice tKv):=by kernel_rfl
section
variable {C C':Type} {S:C→Prop} {w0 w w':World} {lab:Nat→C} {lab':Nat→C'} {lab2:Nat→C} {c:C} {c':C'} {xs:List Value} {o:Option Addr}
theorem Z4p.take (h:Z4p w lab c o xs) (n:Nat):Z4p w lab c o (xs.take n):=fun j v hv=>by
 rw [List.getElem?_take] at hv
 split at hv
 ·exact h j v hv
 ·cases hv
theorem Z4p.drop (h:Z4p w lab c o xs) {cap n sz:Nat} (hl:xs.length≤cap * sz):Z4p w lab c (subO o cap n sz) (xs.drop (n * sz)):=fun j v hv=>by
 rw [List.getElem?_drop] at hv
 obtain ⟨b,f,ho,hb,hl',hc⟩:=h _ v hv
 have hlt:n * sz+j < xs.length:=by
  rcases Nat.lt_or_ge (n * sz+j) xs.length with h | h
  ·exact h
  ·rw [List.getElem?_eq_none h] at hv; cases hv
 have hne:¬cap=n:=by rintro rfl; omega
 refine ⟨b,f+n * sz,?_,hb,hl',by rw [Nat.add_assoc]; exact hc⟩
 unfold subO
 rw [if_neg hne,ho]
 simp
theorem Z4p.re (h:Z4p w lab c o xs) (hl:∀k,k < w.heap.size→lab k=c→lab' k=c'):Z4p w lab' c' o xs:=fun j v hv=>by
 obtain ⟨b,f,ho,hb,hc,hcell⟩:=h j v hv
 exact ⟨b,f,ho,hb,hl b hb hc,hcell⟩
noncomputable def ZEA (lab:Nat→C) (c:C) (N:Nat):Nat→Nat:=fun k=>if k < N then (@ite Nat (lab k=c) (Classical.propDecidable _) 0 1) else 0
theorem ZGz {N k:Nat} (hc:lab k=c):ZEA lab c N k=0:=by
 unfold ZEA
 rw [if_pos hc]
 split <;> rfl
theorem ZFM {N k:Nat} (h:k < N):ZEA lab c N k≠2∧(ZEA lab c N k=0→lab k=c):=by
 unfold ZEA
 rw [if_pos h]
 constructor
 ·split <;> decide
 ·split
  ·rename_i h; exact fun _=>h
  ·intro h; cases h
end
end Go.Proofs.YtfghidehlnfdiaaGreat
end
section
namespace Go.Trie
theorem Z6v (a:UInt8):(a >>> 4) <<< 4 ||| (a &&& 15)=a:=by
 have:∀n:Fin 256,((UInt8.ofFin n >>> 4) <<< 4 ||| (UInt8.ofFin n &&& 15))=UInt8.ofFin n:=by decide +kernel
 exact this a.toFin
theorem Z0S (a:UInt8) (k:By):nibbles (a :: k)=(a >>> 4) :: (a &&& 15) :: nibbles k:=rfl
theorem Z7Y:∀{a b:By},nibbles a=nibbles b→a=b
 | [],[],_=>rfl
 | [],b :: q,h=>by simp [Z0S] at h; simp [nibbles] at h
 | a :: p,[],h=>by simp [Z0S] at h; simp [nibbles] at h
 | a :: p,b :: q,h=>by
   rw [Z0S,Z0S] at h
   simp only [List.cons.injEq] at h
   rw [Z7Y h.2.2,← Z6v a,← Z6v b,h.1,h.2.1]
theorem nib_lt {a b:UInt8} (h:a < b):a >>> 4 < b >>> 4∨(a >>> 4=b >>> 4∧a &&& 15 < b &&& 15):=by
 have e1:∀x:UInt8,(x >>> 4).toNat=x.toNat / 16:=fun x=>by
  have:∀n:Fin 256,(UInt8.ofFin n >>> 4).toNat=(UInt8.ofFin n).toNat / 16:=by decide +kernel
  exact this x.toFin
 have e2:∀x:UInt8,(x &&& 15).toNat=x.toNat % 16:=fun x=>by
  have:∀n:Fin 256,(UInt8.ofFin n &&& 15).toNat=(UInt8.ofFin n).toNat % 16:=by decide +kernel
  exact this x.toFin
 have h':a.toNat < b.toNat:=UInt8.lt_iff_toNat_lt.1 h
 by_cases hq:a.toNat / 16=b.toNat / 16
 ·right
  refine ⟨UInt8.toNat_inj.1 (by rw [e1,e1,hq]),?_⟩
  rw [UInt8.lt_iff_toNat_lt,e2,e2]; omega
 ·left
  rw [UInt8.lt_iff_toNat_lt,e1,e1]; omega
theorem Z8c:∀{a b:By},ltB a b→ltB (nibbles a) (nibbles b)
 | p,[],h=>(Z3q _ h).elim
 | [],b :: q,h=>by rw [Z0S]; trivial
 | a :: p,b :: q,h=>by
   rw [Z0S,Z0S]
   rcases h with h | ⟨rfl,h⟩
   ·rcases nib_lt h with h1 | ⟨h1,h2⟩
    ·exact .inl h1
    ·exact .inr ⟨h1,.inl h2⟩
   ·exact .inr ⟨rfl,.inr ⟨rfl,Z8c h⟩⟩
abbrev Z1K (m:List (By×By)):Prop:=m.Pairwise (fun x y=>ltB x.1 y.1)
theorem Z7U:∀(a b:By),ltB a b∨a=b∨ltB b a
 | [],[]=>.inr (.inl rfl)
 | [],_ :: _=>.inl trivial
 | _ :: _,[]=>.inr (.inr trivial)
 | a :: p,b :: q=>by
   by_cases h:a < b
   ·exact .inl (.inl h)
   ·by_cases h':b < a
    ·exact .inr (.inr (.inl h'))
    ·have e:a=b:=UInt8.toNat_inj.1 (by rw [UInt8.lt_iff_toNat_lt] at h h'; omega)
     subst e
     rcases Z7U p q with h1 | h1 | h1
     ·exact .inl (.inr ⟨rfl,h1⟩)
     ·exact .inr (.inl (by rw [h1]))
     ·exact .inr (.inr (.inr ⟨rfl,h1⟩))
theorem Z5b:∀{m:List (By×By)} {k v:By},Z1K m→∀x,x∈ZBX m k v↔(x.1=k∧x.2=v∧v≠[])∨(x.1≠k∧x∈m)
 | [],k,v,_,x=>by
   simp only [ZBX]
   split
   ·rename_i h; simp [h]
   ·rename_i h
    simp only [List.mem_singleton,List.not_mem_nil,and_false,or_false]
    constructor
    ·rintro rfl; exact ⟨rfl,rfl,h⟩
    ·rintro ⟨h1,h2,_⟩; exact Prod.ext h1 h2
 | y :: r,k,v,hs,x=>by
   rw [Z1K,List.pairwise_cons] at hs
   simp only [ZBX]
   by_cases hy:Z1z y.1 k < 0
   ·rw [if_pos hy,List.mem_cons,Z5b hs.2,List.mem_cons]
    have hne:y.1≠k:=fun e=>by
     rw [Z24,e] at hy
     exact Z3a _ hy
    constructor
    ·rintro (rfl | h | h)
     ·exact .inr ⟨hne,.inl rfl⟩
     ·exact .inl h
     ·exact .inr ⟨h.1,.inr h.2⟩
    ·rintro (h | ⟨h1,rfl | h2⟩)
     ·exact .inr (.inl h)
     ·exact .inl rfl
     ·exact .inr (.inr ⟨h1,h2⟩)
   ·rw [if_neg hy,List.mem_append]
    have hrest:∀z∈r,z.1≠k:=fun z hz e=>by
     have h1:=hs.1 z hz
     rw [e] at h1
     exact hy (Z24.2 h1)
    have hnew:x∈(if v=[] then [] else [(k,v)])↔x.1=k∧x.2=v∧v≠[]:=by
     split
     ·rename_i h; simp [h]
     ·rename_i h
      rw [List.mem_singleton]
      constructor
      ·rintro rfl; exact ⟨rfl,rfl,h⟩
      ·rintro ⟨h1,h2,_⟩; exact Prod.ext h1 h2
    rw [hnew]
    by_cases hyk:y.1=k
    ·rw [if_pos hyk,List.mem_cons]
     constructor
     ·rintro (h | h)
      ·exact .inl h
      ·exact .inr ⟨hrest x h,.inr h⟩
     ·rintro (h | ⟨h1,rfl | h2⟩)
      ·exact .inl h
      ·exact (h1 hyk).elim
      ·exact .inr h2
    ·rw [if_neg hyk,List.mem_cons]
     constructor
     ·rintro (h | rfl | h)
      ·exact .inl h
      ·exact .inr ⟨hyk,.inl rfl⟩
      ·exact .inr ⟨hrest x h,.inr h⟩
     ·rintro (h | ⟨h1,h2⟩)
      ·exact .inl h
      ·exact .inr h2
theorem Z7p:∀{m:List (By×By)} {k v:By},Z1K m→Z1K (ZBX m k v)
 | [],k,v,_=>by
   simp only [ZBX]
   split
   ·exact List.Pairwise.nil
   ·exact List.pairwise_singleton _ _
 | y :: r,k,v,hs=>by
   have hs0:=hs
   rw [Z1K,List.pairwise_cons] at hs
   by_cases hy:Z1z y.1 k < 0
   ·have e:ZBX (y :: r) k v=y :: ZBX r k v:=by simp only [ZBX]; rw [if_pos hy]
    rw [e,Z1K,List.pairwise_cons]
    refine ⟨fun z hz=>?_,Z7p hs.2⟩
    rcases (Z5b hs.2 z).1 hz with ⟨h1,_⟩ | ⟨_,h2⟩
    ·rw [h1]; exact Z24.1 hy
    ·exact hs.1 z h2
   ·have e:ZBX (y :: r) k v=(if v=[] then [] else [(k,v)])++(if y.1=k then r else y :: r):=by simp only [ZBX]; rw [if_neg hy]
    rw [e,Z1K,List.pairwise_append]
    have hkr:∀z∈r,ltB k z.1:=fun z hz=>by
     have h1:=hs.1 z hz
     rcases Z7U k y.1 with h | h | h
     ·exact Z32 h h1
     ·rw [h]; exact h1
     ·exact (hy (Z24.2 h)).elim
    refine ⟨by split <;> simp,?_,fun x hx z hz=>?_⟩
    ·split
     ·exact hs.2
     ·exact hs0
    ·have hxk:x.1=k:=by
       split at hx
       ·cases hx
       ·rw [List.mem_singleton] at hx; rw [hx]
     rw [hxk]
     split at hz
     ·exact hkr z hz
     ·rename_i hyk
      rcases List.mem_cons.1 hz with rfl | hz
      ·rcases Z7U k z.1 with h | h | h
       ·exact h
       ·exact (hyk h.symm).elim
       ·exact (hy (Z24.2 h)).elim
      ·exact hkr z hz
end Go.Trie
namespace Go.Proofs.YtfghidehlnfdiaaGreat
open Go Go.Vcg Go.Trie
theorem ZEH {m:List (By×By)} {k v:By}:(nibbles k,v)∈Z0e m↔(k,v)∈m:=by
 unfold Z0e
 rw [List.mem_map]
 constructor
 ·rintro ⟨x,hx,he⟩
  have h1:=Z7Y (Prod.mk.inj he).1
  have h2:=(Prod.mk.inj he).2
  rw [← h1,← h2]; exact hx
 ·exact fun h=>⟨_,h,rfl⟩
theorem ZAW {m:List (By×By)} (hs:Z1K m):(Z0e m).Pairwise (fun x y=>ltB x.1 y.1):=by
 unfold Z0e
 rw [List.pairwise_map]
 exact hs.imp (fun h=>Z8c h)
theorem ZHx {m:List (By×By)} {n:Nd} (hs:Z1K m) (h:∀p v,Trie.get n p=some v↔(p,v)∈Z0e m):Rep (Z0e m) n:=⟨ZAW hs,h⟩
theorem ZEd {m:List (By×By)} {n:Nd} {k v:By} (hr:Rep (Z0e m) n) (hs:Z1K m) (hc:Z1p n) (hv:v≠[]):Rep (Z0e (ZBX m k v)) (Trie.put n (nibbles k) v):=by
 refine ZHx (Z7p hs) (fun p x=>?_)
 rw [(Z8i hc (Z1B k) hv).2.2.2 p]
 by_cases hp:p=nibbles k
 ·rw [if_pos hp,hp,ZEH,Z5b hs]
  constructor
  ·intro h; cases h; exact .inl ⟨rfl,rfl,hv⟩
  ·rintro (⟨_,h,_⟩ | ⟨h,_⟩)
   ·exact congrArg some h.symm
   ·exact (h rfl).elim
 ·rw [if_neg hp,hr.2]
  unfold Z0e
  rw [List.mem_map,List.mem_map]
  constructor
  ·rintro ⟨y,hy,he⟩
   refine ⟨y,(Z5b hs y).2 (.inr ⟨fun e=>hp ?_,hy⟩),he⟩
   rw [← (Prod.mk.inj he).1,e]
  ·rintro ⟨y,hy,he⟩
   rcases (Z5b hs y).1 hy with ⟨h,_⟩ | ⟨_,h⟩
   ·exact (hp (by rw [← (Prod.mk.inj he).1,h])).elim
   ·exact ⟨y,h,he⟩
theorem ZEc:Rep (Z0e []) .nil:=Rep.nil
end Go.Proofs.YtfghidehlnfdiaaGreat
end
section
namespace Go.Proofs.YtfghidehlnfdiaaGreat
open Go Go.Vcg Go.Trie
section
variable {C C':Type} {S:C→Prop} {w0 w w':World} {lab:Nat→C} {lab':Nat→C'} {lab2:Nat→C} {c c1:C} {c':C'} {xs:List Value} {o:Option Addr}
theorem ZHD {w:World} {o:Option Addr} {k:Nat} {b:By} (h:RdB w o b):Sem.run Tryz.prog (convert 23 9 (.slice o b.length k)) w=.ok (.string (Z7r b)) w:=Z7o Zt Z5v ZBq h
theorem ZCk (a b:By):Z9a .neq (Z7r a) (Z7r b)=decide (a≠b):=by
 have h:=Z6J a b
 have:Z9a .neq (Z7r a) (Z7r b)= !Z9a .eql (Z7r a) (Z7r b):=by
  simp only [Z9a,bne]
 rw [this,h]
 by_cases hab:a=b <;> simp [hab]
theorem Z3J {l:List (By×By)} {k:Nat} (h:Z0w w lab c l o l.length) (hb:∀x∈l,x.2.length≤2 ^ 20) (hlen:l.length≤2 ^ 20) (cr:C) :
  Calls Tryz.prog Z0E.n #[.slice o l.length k] w (fun e w'=>∃o' k',e=.returned (.slice o' l.length k')∧l.length≤k'∧Vcg.Mod NoB w w'∧Z0w w' (ext lab w.heap.size cr) cr l o' l.length):=by
 refine ZH fun R hR=>Z0E.vc _ _ _ _ _ ?_
 unfold Z0E.Vc
 have inL:∀k,k < w.heap.size→lab k=c→ZEA lab c w.heap.size k=0:=fun k _ hc=>ZGz hc
 have h0:Z0w w (ZEA lab c w.heap.size) 0 l o l.length:=Z0w.re h inL
 refine ⟨fun o' n' k' i w'=>∃(j:Nat) (L:Nat→Nat),i=(j:Int)∧j≤l.length∧n'=j∧Stp (·=2) w (ZEA lab c w.heap.size) w' L∧Z4n w' L 2 3 (l.take j) o' n' k',fun _ _ _ i _=>((l.length:Int) - i).toNat,
  ⟨0,_,rfl,Nat.zero_le _,rfl,Stp.refl _ _ _,by rw [List.take_zero]; exact Z4n.nil _ _ _ _⟩,?_⟩
 rintro o1 j k1 _ _ w1 ⟨j',L1,rfl,hj,hjj,s1,O1⟩
 subst hjj
 obtain ⟨_,vs,hCR,hNC⟩:=h0
 refine ⟨fun hlt=>?_,fun hge=>?_⟩
 ·rintro _ rfl
  have hjl:j < l.length:=by omega
  have sD:Stp NoS w1 L1 w1.drew L1:=Stp.drew _ _ _
  have O2:=O1.stp sD (fun h=>h) (fun h=>h)
  have s2:=s1.trans (sD.mono (T:=fun k=>k=2) (fun _ h=>h.elim))
  generalize w1.drew=w2 at *
  have CR2:=hCR.stp s2 (by decide)
  have NC2:=hNC.stp s2 (by decide)
  obtain ⟨g,f,rfl,hg,hlg,hrow⟩:=NC2.hash CR2 hjl
  obtain ⟨g',f',hgf,_,ob,kb,hcell,hby,_⟩:=NC2.bytes CR2 hjl
  cases hgf
  have hlen32:=(NC2.2 j hjl).1
  have hbl:=hb _ (List.getElem_mem hjl)
  obtain ⟨o3,k3,w3,hr3,F3⟩:=Z1N (k2:=kb) (ty:=Z07) (Mod.refl w2) hby.rd (by omega)
  have hrow':∀w',Vcg.Mod NoB w2 w'→ZJ w' (Addr.add ⟨g,f,none⟩ (Int.toNat (j:Int) * 33)) 32 (hashA l[j].1):=fun w' M=>by
   rw [Z6,Int.toNat_natCast]
   exact ⟨hrow.1,fun i hi=>by rw [← hrow.2 i hi,Z6]; exact ZX M hg (fun h=>h)⟩
  have hZ:nd0.size=33:=rfl
  refine ⟨_,rfl,⟨by omega,by omega⟩,_,hrow' _ (Mod.refl _),_,rfl,⟨by omega,by omega⟩,_,_,_,by rw [Z6,Z6,Int.toNat_natCast,Nat.add_assoc]; exact hcell,_,w3,hr3,_,_,_,rfl,hrow' _ F3.mod,ZB _,by rw [Zb]; unfold lputL; rw [Zb,hZ],?_⟩
  rw [Z6u hZ]
  rintro d w4 ⟨rfl,rfl⟩
  have M4:=Mod.alloc (S:=NoB) w3 (.cells (ndA l[j].1 o3 l[j].2.length k3) tNd)
  have N4:=Blk.new w3 tNd (ndA l[j].1 o3 l[j].2.length k3)
  have M24:=F3.mod.trans M4 (fun _ _ h=>h)
  have s4:Stp NoS w2 L1 (w3.alloc (.cells (ndA l[j].1 o3 l[j].2.length k3) tNd)) (ext L1 w2.heap.size 3):=Stp.of_nob M24 3
  have b4:CBy (w3.alloc (.cells (ndA l[j].1 o3 l[j].2.length k3) tNd)) (ext L1 w2.heap.size 3) 3 o3 l[j].2:=Z2x F3 M4
  show ∃(v30:Value) (w31:World),Sem.run Tryz.prog (builtinV .append #[34,34] 34 #[(.slice o1 j k1),(.slice (some ⟨w3.heap.size,0,none⟩) 1 1)]) (w3.alloc (.cells (ndA l[j].1 o3 l[j].2.length k3) tNd))=.ok v30 w31∧_
  generalize w3.alloc (.cells (ndA l[j].1 o3 l[j].2.length k3) tNd)=w4 at *
  have O4:=O2.stp s4 (fun h=>h) (fun h=>h)
  have htl:(l.take j).length=j:=by rw [List.length_take]; omega
  obtain ⟨o5,k5,w5,hr5,O5,s5⟩:=O4.push (by decide) N4 hlen32 b4 F3.own.cap.1 (by omega)
  have htk:l.take (j+1)=l.take j++[(l[j].1,l[j].2)]:=by rw [List.take_add_one,List.getElem?_eq_getElem hjl]; rfl
  refine ⟨_,w5,hr5,_,_,_,rfl,⟨j+1,_,by rw [Z0 (by omega) (by omega)]; omega,hjl,rfl,(s2.trans (s4.mono (fun _ h=>h.elim))).trans s5,by rw [htk]; exact O5⟩,by dsimp only; rw [Z0 (by omega) (by omega)]; omega⟩
 ·obtain rfl:j=l.length:=by omega
  rw [List.take_length] at O1
  obtain ⟨_,us,hO,hC⟩:=O1
  have M1:Vcg.Mod NoB w w1:=(s1.mod (Q:=fun k=>w.heap.size≤k) (fun k hk hs=>Nat.not_lt.1 fun hlt=>(ZFM hlt).1 hs)).mono (fun i hi h=>by omega)
  have out:∀q,q=2∨q=3→∀z,z < w1.heap.size→L1 z=q→ext lab w.heap.size cr z=cr:=fun q hq z hz he=>by
   by_cases hlt:z < w.heap.size
   ·rw [s1.lab z hlt] at he
    have:ZEA lab c w.heap.size z=0∨ZEA lab c w.heap.size z=1:=by
     unfold ZEA
     rw [if_pos hlt]
     split
     ·exact .inl rfl
     ·exact .inr rfl
    rcases this with h | h <;> rw [h] at he <;> omega
   ·exact ext_new (by omega)
  exact hR _ _ ⟨o1,k1,rfl,hO.own.cap.1,M1,rfl,us,Z4p.re (COw.row hO) (out 2 (.inl rfl)),ZV.re hC (out 3 (.inr rfl))⟩
theorem ZAE {l1 l2:List (By×By)} {o1 o2:Option Addr} {k1 k2:Nat} (h1:Z0w w lab c l1 o1 l1.length) (h2:Z0w w lab c1 l2 o2 l2.length) (hlen:l1.length≤2 ^ 20) :
  Calls Tryz.prog Z0I.n #[.slice o1 l1.length k1,.slice o2 l2.length k2] w (fun e w'=>e=.returned (.bool (decide (l1=l2)))∧Vcg.Mod NoB w w'):=by
 refine ZH fun R hR=>Z0I.vc _ _ _ _ _ _ _ _ ?_
 unfold Z0I.Vc
 obtain ⟨_,vs1,C1,N1⟩:=h1
 obtain ⟨_,vs2,C2,N2⟩:=h2
 have no:l1≠l2→∀w',Vcg.Mod NoB w w'→R (.returned (.bool false)) w':=fun hne w' M=>hR _ _ ⟨by rw [decide_eq_false hne],M⟩
 refine ⟨fun hl=>no (fun e=>hl (by rw [e])) _ (Mod.refl w),fun hl=>?_⟩
 have hl':l1.length=l2.length:=by omega
 refine ⟨fun n w'=>∃j:Nat,n=(j:Int)∧j≤l1.length∧Vcg.Mod NoB w w'∧l1.take j=l2.take j,fun n _=>((l1.length:Int) - n).toNat,⟨0,rfl,Nat.zero_le _,Mod.refl w,rfl⟩,?_⟩
 rintro _ _ w1 ⟨j,rfl,hj,M,ht⟩
 refine ⟨fun hlt=>?_,fun hge=>?_⟩
 ·rintro _ rfl
  have hj1:j < l1.length:=by omega
  have hj2:j < l2.length:=by omega
  have M2:=M.step_drew
  obtain ⟨g,f,rfl,hg,_,hrow⟩:=N1.hash C1 hj1
  obtain ⟨g',f',hgf,_,ob,kb,hcell,hby,_⟩:=N1.bytes C1 hj1
  cases hgf
  obtain ⟨p,q,rfl,hp,_,hrow2⟩:=N2.hash C2 hj2
  obtain ⟨p',q',hpq,_,ob2,kb2,hcell2,hby2,_⟩:=N2.bytes C2 hj2
  cases hpq
  have r1:ZJ w1.drew (Addr.add ⟨g,f,none⟩ (Int.toNat (j:Int) * 33)) 32 (hashA l1[j].1):=by
   rw [Z6,Int.toNat_natCast]
   exact ⟨hrow.1,fun i hi=>by rw [← hrow.2 i hi,Z6]; exact ZX M2 hg (fun h=>h)⟩
  have r2:ZJ w1.drew (Addr.add ⟨p,q,none⟩ (Int.toNat (j:Int) * 33)) 32 (hashA l2[j].1):=by
   rw [Z6,Int.toNat_natCast]
   exact ⟨hrow2.1,fun i hi=>by rw [← hrow2.2 i hi,Z6]; exact ZX M2 hp (fun h=>h)⟩
  have hdiff:l1[j]≠l2[j]→l1≠l2:=fun h e=>h (by simp only [e])
  refine ⟨_,rfl,⟨by omega,by omega⟩,_,r1,_,rfl,⟨by omega,by omega⟩,_,r2,_,Z99 _ _ (N1.2 j hj1).1 (N2.2 j hj2).1,_,rfl,fun he=>no (hdiff (fun e=>of_decide_eq_true he (by rw [e]))) _ M2,fun he=>?_⟩
  have hh:l1[j].1=l2[j].1:=Classical.not_not.1 (of_decide_eq_false he)
  refine ⟨_,rfl,⟨by omega,by omega⟩,_,_,_,by rw [Z6,Z6,Int.toNat_natCast,Nat.add_assoc]; exact (ZX M2 hg (fun h=>h)).trans hcell,_,ZHD (hby.rd.mod' M2),_,rfl,_,rfl,⟨by omega,by omega⟩,_,_,_,by rw [Z6,Z6,Int.toNat_natCast,Nat.add_assoc]; exact (ZX M2 hp (fun h=>h)).trans hcell2,_,ZHD (hby2.rd.mod' M2),_,rfl,fun hb=>?_,fun hb=>?_⟩
  ·rw [ZCk] at hb
   exact no (hdiff (fun e=>of_decide_eq_true hb (by rw [e]))) _ M2
  ·rw [ZCk] at hb
   have hb':l1[j].2=l2[j].2:=Classical.not_not.1 (of_decide_eq_false hb)
   refine ⟨⟨j+1,by rw [Z0 (by omega) (by omega)]; omega,hj1,M2,?_⟩,by dsimp only; rw [Z0 (by omega) (by omega)]; omega⟩
   rw [List.take_add_one,List.take_add_one,ht,List.getElem?_eq_getElem hj1,List.getElem?_eq_getElem hj2,show l1[j]=l2[j] from Prod.ext hh hb']
 ·have hjl:j=l1.length:=by omega
  rw [hjl,List.take_length,hl',List.take_length] at ht
  exact hR _ _ ⟨by rw [decide_eq_true ht],M⟩
end
end Go.Proofs.YtfghidehlnfdiaaGreat
end
section
namespace Go.Vcg
def lk (l:List (BitVec 64)):St:=fun i=>l.getD i 0
theorem ZI {s r:St} (n:Nat) (h:∀i,i < 25→s i=r i):∀j,j < 25→rnd n s j=rnd n r j:=by
 have hp:∀x,x < 5→par s x=par r x:=fun x hx=>by
  simp only [par,ZDO]
  rw [h (x+5 * 0) (by omega),h (x+5 * 1) (by omega),h (x+5 * 2) (by omega),h (x+5 * 3) (by omega),h (x+5 * 4) (by omega)]
 have hb:∀j,j < 25→bbK s j=bbK r j:=fun j hj=>by
  simp only [bbK,bbXY,ddK]
  rw [h _ (by omega),hp _ (by omega),hp _ (by omega)]
 have hc:∀j,j < 25→Z55 (bbK s) j=Z55 (bbK r) j:=fun j hj=>by
  simp only [Z55]
  rw [hb _ (by omega),hb _ (by omega),hb _ (by omega)]
 intro j hj
 simp only [rnd]
 rw [hc 0 (by omega),hc j hj]
end Go.Vcg
end
section
namespace Go.Trie
open Go.Vcg
def kDo:By:=[100,111]
def kDog:By:=[100,111,103]
def kDoge:By:=[100,111,103,101]
def ZHi:By:=[104,111,114,115,101]
def vVerb:By:=[118,101,114,98]
def vPuppy:By:=[112,117,112,112,121]
def vCoin:By:=[99,111,105,110]
def ZEx:By:=[115,116,97,108,108,105,111,110]
def n1:Nd:=(putT .nil kDo vVerb).2
def n2:Nd:=(putT n1 kDog vPuppy).2
def n3:Nd:=(putT n2 kDoge vCoin).2
def n4:Nd:=(putT n3 ZHi ZEx).2
theorem get4:get n4 (nibbles kDog)=some vPuppy:=by kernel_rfl
end Go.Trie
namespace Go.Proofs.YtfghidehlnfdiaaGreat
open Go Go.Vcg Go.Trie
theorem Z3Z (w:World) {bs:By} {A:Array Value} (hA:A.toList=bs.map bV) (l k:Nat) :
  ∃w2,Sem.run Tryz.prog (convert 23 23 (.slice (some ⟨w.heap.size,0,none⟩) l k)) (w.alloc (.cells A 5))=.ok (.slice (some ⟨w.heap.size,0,none⟩) l k) w2∧Vcg.Mod NoB w w2∧RdB w2 (some ⟨w.heap.size,0,none⟩) bs:=by
 have B:=Blk.new w 5 A
 obtain ⟨w2,h2,M2,hc2⟩:=Z6R (P:=Tryz.prog) (t:=Z07) (l:=l) (c:=k) Zt (by kernel_rfl) B
 refine ⟨w2,h2,ZM (Mod.alloc w _) M2 (Nat.le_refl _),fun hne=>⟨w.heap.size,0,rfl,?_,fun i hi=>?_⟩⟩
 ·have:=M2.size
  have:=B.lt
  omega
 ·rw [hc2,B.cell,Nat.zero_add,← Array.getElem?_toList,hA]
  exact Z6C hi
end Go.Proofs.YtfghidehlnfdiaaGreat
end
section
namespace Go.Proofs.YtfghidehlnfdiaaGreat
open Go Go.Vcg
abbrev Z1y.n:Nat:=99
def Z1y.Vc (o0:Option Addr) (l0 c0:Nat) (w:World) (R:Ending→World→Prop):Prop :=
 Calls Tryz.prog 43 #[(.slice o0 l0 c0)] w (fun e1 w2 =>
 ∃o3 l4 l5,e1=.returned (.slice o3 l4 l5) ∧
 (((((l4:Nat):Int)=0 →
 R (.returned (.tuple #[(.slice none 0 0),(.bool false),(.int .i64 143)])) w2)) ∧
 ((((l4:Nat):Int)≠0 →
 ∃d6,o3=some d6 ∧
 ((0:Int)≤0∧0 < ((l4:Nat):Int)) ∧
 ∃n7,World.cell? w2 (Addr.add d6 0)=some (.int .u8 n7) ∧
 (((n7 > 3 →
 R (.returned (.tuple #[(.slice none 0 0),(.bool false),(.int .i64 143)])) w2)) ∧
 ((¬n7 > 3 →
 (((((l4:Nat):Int) > 130 →
 R (.returned (.tuple #[(.slice none 0 0),(.bool false),(.int .i64 143)])) w2)) ∧
 ((¬((l4:Nat):Int) > 130 →
 ∃d8,o3=some d8 ∧
 ((0:Int)≤0∧0 < ((l4:Nat):Int)) ∧
 ∃n9,World.cell? w2 (Addr.add d8 0)=some (.int .u8 n9) ∧
 1≤l4 ∧
 ∃(J10:Option Addr→Nat→Nat→World→Prop),(∃d11,o3=some d11 ∧
 ((0:Int)≤0∧0 < ((l4:Nat):Int)) ∧
 ∃n12,World.cell? w2 (Addr.add d11 0)=some (.int .u8 n12) ∧
 ((((Int.tmod n12 2)=0 →
 2≤l4 ∧
 J10 (subO o3 l5 2 1) (l4 - 2) (l5 - 2) w2)) ∧
 (((Int.tmod n12 2)≠0 →
 J10 (subO o3 l5 1 1) (l4 - 1) (l5 - 1) w2)))) ∧
 (∀(o13:Option Addr) (l13:Nat) (c13:Nat) (j14:Nat→Value) (w14:World),J10 o13 l13 c13 w14 →
 Calls Tryz.prog 120 #[(.slice o13 l13 c13),(.bool (decide (n9 > 1)))] w14 (fun e15 w16 =>
 ∃o17 l18 l19 n20,e15=.returned (.tuple #[(.slice o17 l18 l19),(.int .i64 n20)]) ∧
 (((n20≠0 →
 R (.returned (.tuple #[(.slice none 0 0),(.bool false),(.int .i64 143)])) w16)) ∧
 ((n20=0 →
 Calls Tryz.prog 82 #[(.slice o17 l18 l19),(.slice o0 l0 c0)] w16 (fun e21 w22 =>
 ∃b23,e21=.returned (.bool b23) ∧
 (((b23=false →
 R (.returned (.tuple #[(.slice none 0 0),(.bool false),(.int .i64 143)])) w22)) ∧
 ((b23=true →
 R (.returned (.tuple #[(.slice o13 l13 c13),(.bool (decide (n9 > 1))),(.int .i64 0)])) w22)))))))))))))))))))
theorem Z1y.vc (o0:Option Addr) (l0:Nat) (c0:Nat) (w:World) (R:Ending→World→Prop) (h:Z1y.Vc o0 l0 c0 w R):Calls Tryz.prog 99 #[(.slice o0 l0 c0)] w R :=
 Z8 (R:=⟨R,false⟩) (ann:=[(1000008,[(7,.cell (.slice))])]) (args:=[.slice o0 l0 c0]) Tryz.func99 ZR (Eq.mp (by kernel_rfl:Z1y.Vc o0 l0 c0 w R=ZP (pA Tryz.prog ⟨R,false⟩) Tryz.prog [(1000008,[(7,.cell (.slice))])] Tryz.f99 [.slice o0 l0 c0] w) h)

abbrev Zx.n:Nat:=95
def Zx.Vc (o0:Option Addr) (l0 c0:Nat) (w:World) (R:Ending→World→Prop):Prop :=
 (((((l0:Nat):Int)=0 →
 R (.returned (.tuple #[(.slice none 0 0),(.bool false),(.int .i64 143)])) w)) ∧
 ((((l0:Nat):Int)≠0 →
 (((((l0:Nat):Int) > 65 →
 R (.returned (.tuple #[(.slice none 0 0),(.bool false),(.int .i64 143)])) w)) ∧
 ((¬((l0:Nat):Int) > 65 →
 Calls Tryz.prog 54 #[(.slice o0 l0 c0)] w (fun e1 w2 =>
 ∃o3 l4 l5,e1=.returned (.slice o3 l4 l5) ∧
 ∃d6,o3=some d6 ∧
 ((0:Int)≤0∧0 < ((l4:Nat):Int)) ∧
 ∃n7,World.cell? w2 (Addr.add d6 0)=some (.int .u8 n7) ∧
 (((n7 > 3 →
 R (.returned (.tuple #[(.slice none 0 0),(.bool false),(.int .i64 143)])) w2)) ∧
 ((¬n7 > 3 →
 ((((Int.tmod n7 2)=0 →
 ∃d8,o3=some d8 ∧
 ((0:Int)≤1∧1 < ((l4:Nat):Int)) ∧
 ∃n9,World.cell? w2 (Addr.add d8 1)=some (.int .u8 n9) ∧
 (((n9≠0 →
 R (.returned (.tuple #[(.slice none 0 0),(.bool false),(.int .i64 143)])) w2)) ∧
 ((n9=0 →
 ((0:Int)≤(IntKind.wrap .u8 (2 - (Int.tmod n7 2)))∧(IntKind.wrap .u8 (2 - (Int.tmod n7 2)))≤((l4:Nat):Int)) ∧
 ((((((l4 - (Int.toNat (IntKind.wrap .u8 (2 - (Int.tmod n7 2))))):Nat):Int) > 128 →
 R (.returned (.tuple #[(.slice none 0 0),(.bool false),(.int .i64 143)])) w2)) ∧
 ((¬(((l4 - (Int.toNat (IntKind.wrap .u8 (2 - (Int.tmod n7 2))))):Nat):Int) > 128 →
 R (.returned (.tuple #[(.slice (subO o3 l5 (Int.toNat (IntKind.wrap .u8 (2 - (Int.tmod n7 2)))) 1) (l4 - (Int.toNat (IntKind.wrap .u8 (2 - (Int.tmod n7 2))))) (l5 - (Int.toNat (IntKind.wrap .u8 (2 - (Int.tmod n7 2)))))),(.bool (decide (n7 > 1))),(.int .i64 0)])) w2)))))))) ∧
 (((Int.tmod n7 2)≠0 →
 ((0:Int)≤(IntKind.wrap .u8 (2 - (Int.tmod n7 2)))∧(IntKind.wrap .u8 (2 - (Int.tmod n7 2)))≤((l4:Nat):Int)) ∧
 ((((((l4 - (Int.toNat (IntKind.wrap .u8 (2 - (Int.tmod n7 2))))):Nat):Int) > 128 →
 R (.returned (.tuple #[(.slice none 0 0),(.bool false),(.int .i64 143)])) w2)) ∧
 ((¬(((l4 - (Int.toNat (IntKind.wrap .u8 (2 - (Int.tmod n7 2))))):Nat):Int) > 128 →
 R (.returned (.tuple #[(.slice (subO o3 l5 (Int.toNat (IntKind.wrap .u8 (2 - (Int.tmod n7 2)))) 1) (l4 - (Int.toNat (IntKind.wrap .u8 (2 - (Int.tmod n7 2))))) (l5 - (Int.toNat (IntKind.wrap .u8 (2 - (Int.tmod n7 2)))))),(.bool (decide (n7 > 1))),(.int .i64 0)])) w2))))))))))))))))
theorem Zx.vc (o0:Option Addr) (l0:Nat) (c0:Nat) (w:World) (R:Ending→World→Prop) (h:Zx.Vc o0 l0 c0 w R):Calls Tryz.prog 95 #[(.slice o0 l0 c0)] w R :=
 Z8 (R:=⟨R,false⟩) (ann:=[]) (args:=[.slice o0 l0 c0]) Tryz.func95 ZR (Eq.mp (by kernel_rfl:Zx.Vc o0 l0 c0 w R=ZP (pA Tryz.prog ⟨R,false⟩) Tryz.prog [] Tryz.f95 [.slice o0 l0 c0] w) h)

end Go.Proofs.YtfghidehlnfdiaaGreat
end
section
namespace Go.Proofs.YtfghidehlnfdiaaGreat
open Go Go.Vcg Go.Trie
def Z1L:By→Option (By×Bool)
 | []=>none
 | a :: r =>
   if 65 < r.length+1∨3 < (a >>> 4).toNat then none
   else if (a >>> 4).toNat % 2=0 then (if (a &&& 15).toNat≠0 then none else some (nibbles r,decide ((a >>> 4).toNat > 1)))
   else if 64≤r.length then none else some ((a &&& 15) :: nibbles r,decide ((a >>> 4).toNat > 1))
theorem Z3u:∀(r:By),Z3t (nibbles r)=r
 | []=>rfl
 | a :: r=>by
   rw [Z0S]
   simp only [Z3t]
   rw [Z6v,Z3u r]
theorem ZEO {p:By} (h:Nib p):Z34 p↔128 < p.length:=by
 unfold Z34
 constructor
 ·rintro (h1 | ⟨x,hx,h1⟩)
  ·exact h1
  ·have:=h x hx
   have h2:=UInt8.le_iff_toNat_le.1 h1
   simp at h2
   omega
 ·exact .inl
theorem Z9I {a:UInt8} {r:By} (h3:¬3 < (a >>> 4).toNat) (ho:(a >>> 4).toNat % 2≠0):(Z82 ((a &&& 15) :: nibbles r) (decide ((a >>> 4).toNat > 1)))=if 64≤r.length then ([],140) else (a :: r,0):=by
 have hn:Nib ((a &&& 15) :: nibbles r):=fun x hx=>Z1B (a :: r) x (by rw [Z0S]; exact List.mem_cons_of_mem _ hx)
 unfold Z82
 have hl:((a &&& 15) :: nibbles r).length=1+2 * r.length:=by rw [List.length_cons,ZT]; omega
 rw [show (if Z34 _ then ((([]:By),(140:Int))) else _)=_ from ite_congr (propext (ZEO hn)) (fun _=>rfl) (fun _=>rfl),hl]
 by_cases h:64≤r.length
 ·rw [if_pos (by omega),if_pos h]
 ·rw [if_neg (by omega),if_neg h]
  unfold headed
  rw [if_pos (by omega)]
  simp only [Z3t]
  rw [Z3u]
  have:Z1f (decide ((a >>> 4).toNat > 1))+(1:UInt8)=a >>> 4:=by
   have:∀n:Fin 256,¬3 < (UInt8.ofFin n >>> 4).toNat→(UInt8.ofFin n >>> 4).toNat % 2≠0→Z1f (decide ((UInt8.ofFin n >>> 4).toNat > 1))+(1:UInt8)=UInt8.ofFin n >>> 4:=by decide +kernel
   exact this a.toFin h3 ho
  rw [this,Z6v]
theorem Z7d {a:UInt8} {r:By} (h3:¬3 < (a >>> 4).toNat) (he:(a >>> 4).toNat % 2=0):(Z82 (nibbles r) (decide ((a >>> 4).toNat > 1)))=if 64 < r.length then ([],(140:Int)) else ((a >>> 4) <<< 4 :: r,(0:Int)):=by
 have hn:Nib (nibbles r):=Z1B r
 unfold Z82
 have hl:(nibbles r).length=2 * r.length:=by rw [ZT]
 rw [show (if Z34 _ then ((([]:By),(140:Int))) else _)=_ from ite_congr (propext (ZEO hn)) (fun _=>rfl) (fun _=>rfl),hl]
 by_cases h:64 < r.length
 ·rw [if_pos (by omega),if_pos h]
 ·rw [if_neg (by omega),if_neg h]
  unfold headed
  rw [if_neg (by omega)]
  simp only [Z3t]
  rw [Z3u]
  have:Z1f (decide ((a >>> 4).toNat > 1))=a >>> 4:=by
   have:∀n:Fin 256,¬3 < (UInt8.ofFin n >>> 4).toNat→(UInt8.ofFin n >>> 4).toNat % 2=0→Z1f (decide ((UInt8.ofFin n >>> 4).toNat > 1))=UInt8.ofFin n >>> 4:=by decide +kernel
   exact this a.toFin h3 he
  rw [this]
  congr 2
  exact UInt8.or_zero
theorem ZCQ (a:UInt8):(a >>> 4) <<< 4=a↔(a &&& 15).toNat=0:=by
 have:∀n:Fin 256,((UInt8.ofFin n >>> 4) <<< 4=UInt8.ofFin n↔(UInt8.ofFin n &&& 15).toNat=0):=by decide +kernel
 exact this a.toFin
theorem Z9T (h:Nat):Int.tmod (h:Int) 2=((h % 2:Nat):Int):=(Int.ofNat_tmod h 2).symm
def upk (b:By):By×Bool×Int:=match Z1L b with
 | none=>([],false,143)
 | some (p,l)=>(p,l,0)
section
variable {w:World} {o:Option Addr} {k:Nat} {bs:By}
theorem ZAG {a:UInt8} {r:By} (h:RdB w o (a :: r)):∃d,o=some d∧w.cell? (Addr.add d 0)=some (.int .u8 (a.toNat:Int)):=by
 obtain ⟨b,f,rfl,hb,hc⟩:=h (by simp)
 exact ⟨_,rfl,by rw [Z6]; exact hc 0 (by simp)⟩
theorem Z71 {o:Option Addr} {c n N:Nat} (h:∀k,OB o k→N≤k):∀d,subO o c n 1=some d→N≤d.block:=by
 intro d hd
 unfold subO at hd
 split at hd
 ·exact h _ ⟨d,hd,rfl⟩
 ·cases o with
  | none=>simp at hd
  | some a =>
    simp only [Option.map_some,Option.some.injEq] at hd
    rw [← hd]
    have e:(a.add (n * 1)).block=a.block:=by
     obtain ⟨b,f,s⟩:=a
     simp only [Addr.add]
     split <;> rfl
    rw [e]
    exact h a.block ⟨a,rfl,rfl⟩
theorem Z5r {c n:Nat} (h:RdB w o bs) (hl:bs.length≤c):RdB w (subO o c n 1) (bs.drop n):=by
 have:=h.sub (c:=c) (lo:=n) (n:=bs.length) hl
 rwa [List.take_of_length_le (by simp)] at this
theorem Z6O (hr:RdB w o bs) (hl:bs.length≤2 ^ 20) :
  Calls Tryz.prog Z1y.n #[.slice o bs.length k] w (fun e w'=>∃o' k',e=.returned (.tuple #[.slice o' (upk bs).1.length k',.bool (upk bs).2.1,.int .i64 (upk bs).2.2])∧Vcg.Mod NoB w w'∧RdB w' o' (upk bs).1∧∀d,o'=some d→w.heap.size≤d.block):=by
 refine ZH fun R hR=>Z1y.vc _ _ _ _ _ ?_
 unfold Z1y.Vc
 refine (Z2m hr (by omega)).mono ?_
 rintro _ w1 ⟨o1,k1,rfl,F⟩
 have bad:∀w',Z1L bs=none→Vcg.Mod NoB w w'→R (.returned (.tuple #[.slice none 0 0,.bool false,.int .i64 143])) w':=fun w' h M=>by
  refine hR _ _ ⟨none,0,?_,M,?_,fun d h=>by cases h⟩
  ·unfold upk; rw [h]; rfl
  ·unfold upk; rw [h]; exact RdB.nil _ _
 refine ⟨_,_,_,rfl,fun h0=>?_,fun h0=>?_⟩
 ·refine bad _ ?_ F.mod
  have:bs=[]:=List.eq_nil_of_length_eq_zero (by rw [ZT] at h0; omega)
  rw [this]; rfl
 ·cases bs with
  | nil=>simp [ZT] at h0
  | cons a r =>
    have hR1:=F.own.bytes
    rw [Z0S] at hR1
    obtain ⟨d,rfl,hc⟩:=ZAG hR1
    have hlen:(nibbles (a :: r)).length=2 * (r.length+1):=by rw [ZT,List.length_cons]
    have hcap:=F.own.cap.1
    rw [hlen] at *
    refine ⟨_,rfl,⟨by omega,by omega⟩,_,hc,fun h3=>bad _ ?_ F.mod,fun h3=>⟨fun h65=>bad _ ?_ F.mod,fun h65=>?_⟩⟩
    ·simp only [Z1L]; rw [if_pos (.inr (by omega))]
    ·simp only [Z1L]; rw [if_pos (.inl (by omega))]
    refine ⟨_,rfl,⟨by omega,by omega⟩,_,hc,by omega,?_⟩
    have hn3:¬3 < (a >>> 4).toNat:=by omega
    have edec:decide (((a >>> 4).toNat:Int) > 1)=decide ((a >>> 4).toNat > 1):=by rw [Bool.eq_iff_iff,decide_eq_true_eq,decide_eq_true_eq]; omega
    rw [edec]
    let path:By:=if (a >>> 4).toNat % 2=0 then nibbles r else (a &&& 15) :: nibbles r
    have hpl:path.length≤2 ^ 30:=by
     simp only [path]
     simp only [List.length_cons] at hl
     split
     ·rw [ZT]; omega
     ·rw [List.length_cons,ZT]; omega
    refine ⟨fun o' n' c' w'=>w'=w1∧n'=path.length∧RdB w1 o' path∧∀d,o'=some d→w.heap.size≤d.block,?_,?_⟩
    ·refine ⟨_,rfl,⟨by omega,by omega⟩,_,hc,fun he=>?_,fun he=>?_⟩
     ·rw [Z9T] at he
      have he':(a >>> 4).toNat % 2=0:=by omega
      refine ⟨by omega,rfl,?_,?_,Z71 F.new⟩
      ·simp only [path,if_pos he',ZT]; omega
      ·simp only [path,if_pos he']
       exact Z5r (n:=2) hR1 (by simp only [List.length_cons,ZT]; omega)
     ·rw [Z9T] at he
      have he':¬(a >>> 4).toNat % 2=0:=by omega
      refine ⟨rfl,?_,?_,Z71 F.new⟩
      ·simp only [path,if_neg he',List.length_cons,ZT]; omega
      ·simp only [path,if_neg he']
       exact Z5r (n:=1) hR1 (by simp only [List.length_cons,ZT]; omega)
    ·rintro o3 _ c3 _ w1 ⟨rfl,rfl,h3,hnew⟩
     refine (ZCy (k:=c3) h3 hpl _).mono ?_
     rintro _ w2 ⟨o4,k4,rfl,F4⟩
     have M02:=F.mod.trans F4.mod (fun _ _ h=>h)
     refine ⟨_,_,_,_,rfl,fun hn=>bad _ ?_ M02,fun hz=>?_⟩
     ·simp only [path] at hn
      simp only [Z1L]
      rw [if_neg (by omega)]
      by_cases he:(a >>> 4).toNat % 2=0
      ·rw [if_pos he,Z7d hn3 he,if_neg (by omega)] at hn
       exact (hn rfl).elim
      ·rw [if_neg he,Z9I hn3 he] at hn
       rw [if_neg he]
       by_cases h64:64≤r.length
       ·rw [if_pos h64]
       ·rw [if_neg h64] at hn; exact (hn rfl).elim
     ·have hq:=(Z4y (k1:=k4) (k2:=k) F4.own.bytes (hr.mod' M02))
      refine hq.mono ?_
      rintro _ w2 ⟨rfl,rfl⟩
      refine ⟨_,rfl,fun hf=>bad _ ?_ M02,fun ht=>?_⟩
      ·have hf:=of_decide_eq_false hf
       simp only [path] at hf hz
       simp only [Z1L]
       rw [if_neg (by omega)]
       by_cases he:(a >>> 4).toNat % 2=0
       ·rw [if_pos he,Z7d hn3 he,if_neg (by omega)] at hf
        rw [if_pos he,if_pos (fun h=>hf ?_)]
        show (a >>> 4) <<< 4 :: r=a :: r
        rw [(ZCQ a).2 h]
       ·rw [if_neg he,Z9I hn3 he] at hf hz
        by_cases h64:64≤r.length
        ·rw [if_pos h64] at hz; exact absurd hz (by decide)
        ·rw [if_neg h64] at hf; exact (hf rfl).elim
      ·have ht:=of_decide_eq_true ht
       have hu:Z1L (a :: r)=some (path,decide ((a >>> 4).toNat > 1)):=by
        simp only [path] at ht hz ⊢
        simp only [Z1L]
        rw [if_neg (by omega)]
        by_cases he:(a >>> 4).toNat % 2=0
        ·rw [if_pos he,Z7d hn3 he,if_neg (by omega)] at ht
         simp only [List.cons.injEq,and_true] at ht
         rw [if_pos he,if_neg (fun h=>h ((ZCQ a).1 ht)),if_pos he]
        ·rw [if_neg he,Z9I hn3 he] at hz
         rw [if_neg he]
         by_cases h64:64≤r.length
         ·rw [if_pos h64] at hz; exact absurd hz (by decide)
         ·rw [if_neg h64,if_neg he]
       refine hR _ _ ⟨o3,c3,?_,M02,?_,hnew⟩
       ·unfold upk; rw [hu]
       ·unfold upk; rw [hu]; exact h3.mod' F4.mod
theorem Z5i (hr:RdB w o bs) (hl:bs.length≤2 ^ 20) :
  Calls Tryz.prog Zx.n #[.slice o bs.length k] w (fun e w'=>∃o' k',e=.returned (.tuple #[.slice o' (upk bs).1.length k',.bool (upk bs).2.1,.int .i64 (upk bs).2.2])∧Vcg.Mod NoB w w'∧RdB w' o' (upk bs).1∧∀d,o'=some d→w.heap.size≤d.block):=by
 refine ZH fun R hR=>Zx.vc _ _ _ _ _ ?_
 unfold Zx.Vc
 have bad:∀w',Z1L bs=none→Vcg.Mod NoB w w'→R (.returned (.tuple #[.slice none 0 0,.bool false,.int .i64 143])) w':=fun w' h M=>by
  refine hR _ _ ⟨none,0,?_,M,?_,fun d h=>by cases h⟩
  ·unfold upk; rw [h]; rfl
  ·unfold upk; rw [h]; exact RdB.nil _ _
 refine ⟨fun h0=>?_,fun h0=>⟨fun h65=>?_,fun h65=>?_⟩⟩
 ·refine bad _ ?_ (Mod.refl w)
  have:bs=[]:=List.eq_nil_of_length_eq_zero (by omega)
  rw [this]; rfl
 ·cases bs with
  | nil=>simp at h0
  | cons a r =>
    simp only [List.length_cons] at h65
    refine bad _ ?_ (Mod.refl w)
    simp only [Z1L]; rw [if_pos (.inl (by omega))]
 ·refine (Z2Z hr (by omega)).mono ?_
  rintro _ w1 ⟨o1,k1,rfl,F⟩
  cases bs with
  | nil=>simp at h0
  | cons a r =>
    simp only [List.length_cons] at h65
    have hR1:=F.own.bytes
    rw [Z0S] at hR1
    have hlen:(nibbles (a :: r)).length=2 * (r.length+1):=by rw [ZT,List.length_cons]
    have hcap:2 * (r.length+1)≤k1:=by have:=F.own.cap.1; rwa [hlen] at this
    rw [hlen]
    obtain ⟨b,f,rfl,hb,hcs⟩:=hR1 (by simp)
    have c0:=hcs 0 (by simp)
    have c1:=hcs 1 (by simp)
    refine ⟨_,_,_,rfl,_,rfl,⟨by omega,by omega⟩,((a >>> 4).toNat:Int),by rw [Z6]; exact c0,fun h3=>bad _ ?_ F.mod,fun h3=>?_⟩
    ·simp only [Z1L]; rw [if_pos (.inr (by omega))]
    ·rw [Z9T]
     have hn3:¬3 < (a >>> 4).toNat:=by omega
     have edec:decide (((a >>> 4).toNat:Int) > 1)=decide ((a >>> 4).toNat > 1):=by rw [Bool.eq_iff_iff,decide_eq_true_eq,decide_eq_true_eq]; omega
     rw [edec]
     refine ⟨fun he=>?_,fun he=>?_⟩
     ·have he':(a >>> 4).toNat % 2=0:=by omega
      refine ⟨_,rfl,⟨by omega,by omega⟩,((a &&& 15).toNat:Int),by rw [Z6]; exact c1,fun hn=>bad _ ?_ F.mod,fun hz=>?_⟩
      ·simp only [Z1L]
       rw [if_neg (by omega),if_pos he',if_pos (by omega)]
      ·have ew:IntKind.wrap .u8 ((2:Int) - (((a >>> 4).toNat % 2:Nat):Int))=2:=by rw [he']; decide
       rw [ew]
       have hu:Z1L (a :: r)=some (nibbles r,decide ((a >>> 4).toNat > 1)):=by
        simp only [Z1L]
        rw [if_neg (by omega),if_pos he',if_neg (by omega)]
       refine ⟨⟨by omega,by omega⟩,fun h=>absurd h (by simp only [show Int.toNat 2=2 from rfl]; omega),fun h=>hR _ _ ⟨subO (some ⟨b,f,none⟩) k1 2 1,k1 - 2,?_,F.mod,?_,?_⟩⟩
       ·unfold upk; rw [hu]
        simp only [show Int.toNat 2=2 from rfl,ZT]
        rw [show 2 * (r.length+1) - 2=2 * r.length by omega]
       ·unfold upk; rw [hu]
        exact Z5r (n:=2) hR1 (by simp only [List.length_cons,ZT]; omega)
       ·exact Z71 F.new
     ·have he':(a >>> 4).toNat % 2=1:=by omega
      have ew:IntKind.wrap .u8 ((2:Int) - (((a >>> 4).toNat % 2:Nat):Int))=1:=by rw [he']; decide
      rw [ew]
      refine ⟨⟨by omega,by omega⟩,fun h=>bad _ ?_ F.mod,fun h=>?_⟩
      ·simp only [show Int.toNat 1=1 from rfl] at h
       simp only [Z1L]
       rw [if_neg (by omega),if_neg (by omega),if_pos (by omega)]
      ·simp only [show Int.toNat 1=1 from rfl] at h ⊢
       have hu:Z1L (a :: r)=some ((a &&& 15) :: nibbles r,decide ((a >>> 4).toNat > 1)):=by
        simp only [Z1L]
        rw [if_neg (by omega),if_neg (by omega),if_neg (by omega)]
       refine hR _ _ ⟨subO (some ⟨b,f,none⟩) k1 1 1,k1 - 1,?_,F.mod,?_,?_⟩
       ·unfold upk; rw [hu]
        simp only [List.length_cons,ZT]
        rw [show 2 * (r.length+1) - 1=2 * r.length+1 by omega]
       ·unfold upk; rw [hu]
        exact Z5r (n:=1) hR1 (by simp only [List.length_cons,ZT]; omega)
       ·exact Z71 F.new
end
end Go.Proofs.YtfghidehlnfdiaaGreat
end
section
namespace Go.Proofs.YtfghidehlnfdiaaGreat
open Go Go.Vcg
abbrev Z2K.n:Nat:=102
def Z2K.Vc (o0:Option Addr) (l0 c0:Nat) (w:World) (R:Ending→World→Prop):Prop :=
 ∀d1 w2,ZC w 111 #[(.bool false),(.slice none 0 0),(.slice none 0 0)] d1 w2 →
 Calls Tryz.prog 122 #[(.slice o0 l0 c0)] w2 (fun e3 w4 =>
 ∃b5 o6 l7 l8 o9 l10 l11 n12 n13,e3=.returned (.tuple #[(.agg #[(.bool b5),(.slice o6 l7 l8),(.slice o9 l10 l11)]),(.int .i64 n12),(.int .i64 n13)]) ∧
 ∀d14 w15,ZC w4 111 #[(.bool false),(.slice none 0 0),(.slice none 0 0)] d14 w15 →
 Z1 w15 d14 (.bool b5)∧∀w16,ZA w15 d14 (.bool b5) w16 →
 Z1 w16 (Addr.add d14 1) (.slice o6 l7 l8)∧∀w17,ZA w16 (Addr.add d14 1) (.slice o6 l7 l8) w17 →
 Z1 w17 (Addr.add d14 2) (.slice o9 l10 l11)∧∀w18,ZA w17 (Addr.add d14 2) (.slice o9 l10 l11) w18 →
 (((n13≠0 →
 Z1 w18 d1 (.bool false)∧∀w19,ZA w18 d1 (.bool false) w19 →
 Z1 w19 (Addr.add d1 1) (.slice none 0 0)∧∀w20,ZA w19 (Addr.add d1 1) (.slice none 0 0) w20 →
 Z1 w20 (Addr.add d1 2) (.slice none 0 0)∧∀w21,ZA w20 (Addr.add d1 2) (.slice none 0 0) w21 →
 ∃b22 o23 l24 l25 o26 l27 l28,World.cell? w21 d1=some (.bool b22) ∧
 World.cell? w21 (Addr.add d1 1)=some (.slice o23 l24 l25) ∧
 World.cell? w21 (Addr.add d1 2)=some (.slice o26 l27 l28) ∧
 R (.returned (.tuple #[(.agg #[(.bool b22),(.slice o23 l24 l25),(.slice o26 l27 l28)]),(.int .i64 n13)])) w21)) ∧
 ((n13=0 →
 (((n12 < ((l0:Nat):Int) →
 Z1 w18 d1 (.bool false)∧∀w29,ZA w18 d1 (.bool false) w29 →
 Z1 w29 (Addr.add d1 1) (.slice none 0 0)∧∀w30,ZA w29 (Addr.add d1 1) (.slice none 0 0) w30 →
 Z1 w30 (Addr.add d1 2) (.slice none 0 0)∧∀w31,ZA w30 (Addr.add d1 2) (.slice none 0 0) w31 →
 ∃b32 o33 l34 l35 o36 l37 l38,World.cell? w31 d1=some (.bool b32) ∧
 World.cell? w31 (Addr.add d1 1)=some (.slice o33 l34 l35) ∧
 World.cell? w31 (Addr.add d1 2)=some (.slice o36 l37 l38) ∧
 R (.returned (.tuple #[(.agg #[(.bool b32),(.slice o33 l34 l35),(.slice o36 l37 l38)]),(.int .i64 42)])) w31)) ∧
 ((¬n12 < ((l0:Nat):Int) →
 ∃b39 o40 l41 l42 o43 l44 l45,World.cell? w18 d14=some (.bool b39) ∧
 World.cell? w18 (Addr.add d14 1)=some (.slice o40 l41 l42) ∧
 World.cell? w18 (Addr.add d14 2)=some (.slice o43 l44 l45) ∧
 Z1 w18 d1 (.bool b39)∧∀w46,ZA w18 d1 (.bool b39) w46 →
 Z1 w46 (Addr.add d1 1) (.slice o40 l41 l42)∧∀w47,ZA w46 (Addr.add d1 1) (.slice o40 l41 l42) w47 →
 Z1 w47 (Addr.add d1 2) (.slice o43 l44 l45)∧∀w48,ZA w47 (Addr.add d1 2) (.slice o43 l44 l45) w48 →
 ∃b49 o50 l51 l52 o53 l54 l55,World.cell? w48 d1=some (.bool b49) ∧
 World.cell? w48 (Addr.add d1 1)=some (.slice o50 l51 l52) ∧
 World.cell? w48 (Addr.add d1 2)=some (.slice o53 l54 l55) ∧
 R (.returned (.tuple #[(.agg #[(.bool b49),(.slice o50 l51 l52),(.slice o53 l54 l55)]),(.int .i64 0)])) w48)))))))
theorem Z2K.vc (o0:Option Addr) (l0:Nat) (c0:Nat) (w:World) (R:Ending→World→Prop) (h:Z2K.Vc o0 l0 c0 w R):Calls Tryz.prog 102 #[(.slice o0 l0 c0)] w R :=
 Z8 (R:=⟨R,false⟩) (ann:=[]) (args:=[.slice o0 l0 c0]) Tryz.func102 ZR (Eq.mp (by kernel_rfl:Z2K.Vc o0 l0 c0 w R=ZP (pA Tryz.prog ⟨R,false⟩) Tryz.prog [] Tryz.f102 [.slice o0 l0 c0] w) h)

abbrev Z36.n:Nat:=122
def Z36.Vc (o0:Option Addr) (l0 c0:Nat) (w:World) (R:Ending→World→Prop):Prop :=
 ∀d1 w2,ZC w 111 #[(.bool false),(.slice none 0 0),(.slice none 0 0)] d1 w2 →
 (((((l0:Nat):Int) > 65536 →
 Z1 w2 d1 (.bool false)∧∀w3,ZA w2 d1 (.bool false) w3 →
 Z1 w3 (Addr.add d1 1) (.slice none 0 0)∧∀w4,ZA w3 (Addr.add d1 1) (.slice none 0 0) w4 →
 Z1 w4 (Addr.add d1 2) (.slice none 0 0)∧∀w5,ZA w4 (Addr.add d1 2) (.slice none 0 0) w5 →
 ∃b6 o7 l8 l9 o10 l11 l12,World.cell? w5 d1=some (.bool b6) ∧
 World.cell? w5 (Addr.add d1 1)=some (.slice o7 l8 l9) ∧
 World.cell? w5 (Addr.add d1 2)=some (.slice o10 l11 l12) ∧
 R (.returned (.tuple #[(.agg #[(.bool b6),(.slice o7 l8 l9),(.slice o10 l11 l12)]),(.int .i64 0),(.int .i64 44)])) w5)) ∧
 ((¬((l0:Nat):Int) > 65536 →
 ∀d13 w14,ZC w2 217 #[(.int .i64 0)] d13 w14 →
 Calls Tryz.prog 136 #[(.pointer (some d13)),(.slice o0 l0 c0),(.int .i64 1)] w14 (fun e15 w16 =>
 ∃b17 o18 l19 l20 o21 l22 l23 n24 n25,e15=.returned (.tuple #[(.agg #[(.bool b17),(.slice o18 l19 l20),(.slice o21 l22 l23)]),(.int .i64 n24),(.int .i64 n25)]) ∧
 Z1 w16 d1 (.bool b17)∧∀w26,ZA w16 d1 (.bool b17) w26 →
 Z1 w26 (Addr.add d1 1) (.slice o18 l19 l20)∧∀w27,ZA w26 (Addr.add d1 1) (.slice o18 l19 l20) w27 →
 Z1 w27 (Addr.add d1 2) (.slice o21 l22 l23)∧∀w28,ZA w27 (Addr.add d1 2) (.slice o21 l22 l23) w28 →
 ∃b29 o30 l31 l32 o33 l34 l35,World.cell? w28 d1=some (.bool b29) ∧
 World.cell? w28 (Addr.add d1 1)=some (.slice o30 l31 l32) ∧
 World.cell? w28 (Addr.add d1 2)=some (.slice o33 l34 l35) ∧
 R (.returned (.tuple #[(.agg #[(.bool b29),(.slice o30 l31 l32),(.slice o33 l34 l35)]),(.int .i64 n24),(.int .i64 n25)])) w28))))
theorem Z36.vc (o0:Option Addr) (l0:Nat) (c0:Nat) (w:World) (R:Ending→World→Prop) (h:Z36.Vc o0 l0 c0 w R):Calls Tryz.prog 122 #[(.slice o0 l0 c0)] w R :=
 Z8 (R:=⟨R,false⟩) (ann:=[]) (args:=[.slice o0 l0 c0]) Tryz.func122 ZR (Eq.mp (by kernel_rfl:Z36.Vc o0 l0 c0 w R=ZP (pA Tryz.prog ⟨R,false⟩) Tryz.prog [] Tryz.f122 [.slice o0 l0 c0] w) h)

abbrev Z0g.n:Nat:=136
def Z0g.Vc (d0:Addr) (o1:Option Addr) (l1 c1:Nat) (n2:Int) (w:World) (R:Ending→World→Prop):Prop :=
 ∀d3 w4,ZC w 111 #[(.bool false),(.slice none 0 0),(.slice none 0 0)] d3 w4 →
 (((((l1:Nat):Int)=0 →
 Z1 w4 d3 (.bool false)∧∀w5,ZA w4 d3 (.bool false) w5 →
 Z1 w5 (Addr.add d3 1) (.slice none 0 0)∧∀w6,ZA w5 (Addr.add d3 1) (.slice none 0 0) w6 →
 Z1 w6 (Addr.add d3 2) (.slice none 0 0)∧∀w7,ZA w6 (Addr.add d3 2) (.slice none 0 0) w7 →
 ∃b8 o9 l10 l11 o12 l13 l14,World.cell? w7 d3=some (.bool b8) ∧
 World.cell? w7 (Addr.add d3 1)=some (.slice o9 l10 l11) ∧
 World.cell? w7 (Addr.add d3 2)=some (.slice o12 l13 l14) ∧
 R (.returned (.tuple #[(.agg #[(.bool b8),(.slice o9 l10 l11),(.slice o12 l13 l14)]),(.int .i64 0),(.int .i64 41)])) w7)) ∧
 ((((l1:Nat):Int)≠0 →
 Calls Tryz.prog 148 #[(.pointer (some d0)),(.int .i64 n2)] w4 (fun e15 w16 =>
 ∃n17,e15=.returned (.int .i64 n17) ∧
 (((n17≠0 →
 Z1 w16 d3 (.bool false)∧∀w18,ZA w16 d3 (.bool false) w18 →
 Z1 w18 (Addr.add d3 1) (.slice none 0 0)∧∀w19,ZA w18 (Addr.add d3 1) (.slice none 0 0) w19 →
 Z1 w19 (Addr.add d3 2) (.slice none 0 0)∧∀w20,ZA w19 (Addr.add d3 2) (.slice none 0 0) w20 →
 ∃b21 o22 l23 l24 o25 l26 l27,World.cell? w20 d3=some (.bool b21) ∧
 World.cell? w20 (Addr.add d3 1)=some (.slice o22 l23 l24) ∧
 World.cell? w20 (Addr.add d3 2)=some (.slice o25 l26 l27) ∧
 R (.returned (.tuple #[(.agg #[(.bool b21),(.slice o22 l23 l24),(.slice o25 l26 l27)]),(.int .i64 0),(.int .i64 n17)])) w20)) ∧
 ((n17=0 →
 Calls Tryz.prog 149 #[(.slice o1 l1 c1)] w16 (fun e28 w29 =>
 ∃b30 n31 n32 b33 b34 n35,e28=.returned (.tuple #[(.agg #[(.bool b30),(.int .i64 n31),(.int .i64 n32),(.bool b33),(.bool b34)]),(.int .i64 n35)]) ∧
 ∀d36 w37,ZC w29 237 #[(.bool false),(.int .i64 0),(.int .i64 0),(.bool false),(.bool false)] d36 w37 →
 Z1 w37 d36 (.bool b30)∧∀w38,ZA w37 d36 (.bool b30) w38 →
 Z1 w38 (Addr.add d36 1) (.int .i64 n31)∧∀w39,ZA w38 (Addr.add d36 1) (.int .i64 n31) w39 →
 Z1 w39 (Addr.add d36 2) (.int .i64 n32)∧∀w40,ZA w39 (Addr.add d36 2) (.int .i64 n32) w40 →
 Z1 w40 (Addr.add d36 3) (.bool b33)∧∀w41,ZA w40 (Addr.add d36 3) (.bool b33) w41 →
 Z1 w41 (Addr.add d36 4) (.bool b34)∧∀w42,ZA w41 (Addr.add d36 4) (.bool b34) w42 →
 (((n35≠0 →
 Z1 w42 d3 (.bool false)∧∀w43,ZA w42 d3 (.bool false) w43 →
 Z1 w43 (Addr.add d3 1) (.slice none 0 0)∧∀w44,ZA w43 (Addr.add d3 1) (.slice none 0 0) w44 →
 Z1 w44 (Addr.add d3 2) (.slice none 0 0)∧∀w45,ZA w44 (Addr.add d3 2) (.slice none 0 0) w45 →
 ∃b46 o47 l48 l49 o50 l51 l52,World.cell? w45 d3=some (.bool b46) ∧
 World.cell? w45 (Addr.add d3 1)=some (.slice o47 l48 l49) ∧
 World.cell? w45 (Addr.add d3 2)=some (.slice o50 l51 l52) ∧
 R (.returned (.tuple #[(.agg #[(.bool b46),(.slice o47 l48 l49),(.slice o50 l51 l52)]),(.int .i64 0),(.int .i64 n35)])) w45)) ∧
 ((n35=0 →
 ∃n53,World.cell? w42 (Addr.add d36 2)=some (.int .i64 n53) ∧
 ∃n54,World.cell? w42 (Addr.add d36 1)=some (.int .i64 n54) ∧
 (((n53 > (IntKind.wrap .i64 (((l1:Nat):Int) - n54)) →
 Z1 w42 d3 (.bool false)∧∀w55,ZA w42 d3 (.bool false) w55 →
 Z1 w55 (Addr.add d3 1) (.slice none 0 0)∧∀w56,ZA w55 (Addr.add d3 1) (.slice none 0 0) w56 →
 Z1 w56 (Addr.add d3 2) (.slice none 0 0)∧∀w57,ZA w56 (Addr.add d3 2) (.slice none 0 0) w57 →
 ∃b58 o59 l60 l61 o62 l63 l64,World.cell? w57 d3=some (.bool b58) ∧
 World.cell? w57 (Addr.add d3 1)=some (.slice o59 l60 l61) ∧
 World.cell? w57 (Addr.add d3 2)=some (.slice o62 l63 l64) ∧
 R (.returned (.tuple #[(.agg #[(.bool b58),(.slice o59 l60 l61),(.slice o62 l63 l64)]),(.int .i64 0),(.int .i64 41)])) w57)) ∧
 ((¬n53 > (IntKind.wrap .i64 (((l1:Nat):Int) - n54)) →
 ∃n65,World.cell? w42 (Addr.add d36 1)=some (.int .i64 n65) ∧
 ∃n66,World.cell? w42 (Addr.add d36 1)=some (.int .i64 n66) ∧
 ∃n67,World.cell? w42 (Addr.add d36 2)=some (.int .i64 n67) ∧
 ((0:Int)≤(IntKind.wrap .i64 (n66+n67))∧(IntKind.wrap .i64 (n66+n67))≤((c1:Nat):Int)) ∧
 ((0:Int)≤n65∧n65≤(((Int.toNat (IntKind.wrap .i64 (n66+n67))):Nat):Int)) ∧
 ∃n68,World.cell? w42 (Addr.add d36 1)=some (.int .i64 n68) ∧
 ∃n69,World.cell? w42 (Addr.add d36 2)=some (.int .i64 n69) ∧
 ∃b70,World.cell? w42 d36=some (.bool b70) ∧
 (((b70=false →
 ∃b71,World.cell? w42 (Addr.add d36 3)=some (.bool b71) ∧
 (((b71=false →
 Calls Tryz.prog 150 #[(.slice (subO o1 c1 (Int.toNat n65) 1) ((Int.toNat (IntKind.wrap .i64 (n66+n67))) - (Int.toNat n65)) (c1 - (Int.toNat n65)))] w42 (fun e72 w73 =>
 ∃b74,e72=.returned (.bool b74) ∧
 (((b74=true →
 Z1 w73 d3 (.bool false)∧∀w75,ZA w73 d3 (.bool false) w75 →
 Z1 w75 (Addr.add d3 1) (.slice none 0 0)∧∀w76,ZA w75 (Addr.add d3 1) (.slice none 0 0) w76 →
 Z1 w76 (Addr.add d3 2) (.slice none 0 0)∧∀w77,ZA w76 (Addr.add d3 2) (.slice none 0 0) w77 →
 ∃b78 o79 l80 l81 o82 l83 l84,World.cell? w77 d3=some (.bool b78) ∧
 World.cell? w77 (Addr.add d3 1)=some (.slice o79 l80 l81) ∧
 World.cell? w77 (Addr.add d3 2)=some (.slice o82 l83 l84) ∧
 R (.returned (.tuple #[(.agg #[(.bool b78),(.slice o79 l80 l81),(.slice o82 l83 l84)]),(.int .i64 0),(.int .i64 40)])) w77)) ∧
 ((b74=false →
 Calls Tryz.prog 36 #[(.slice (subO o1 c1 (Int.toNat n65) 1) ((Int.toNat (IntKind.wrap .i64 (n66+n67))) - (Int.toNat n65)) (c1 - (Int.toNat n65)))] w73 (fun e85 w86 =>
 ∃o87 l88 l89,e85=.returned (.slice o87 l88 l89) ∧
 Z1 w86 d3 (.bool false)∧∀w90,ZA w86 d3 (.bool false) w90 →
 Z1 w90 (Addr.add d3 1) (.slice o87 l88 l89)∧∀w91,ZA w90 (Addr.add d3 1) (.slice o87 l88 l89) w91 →
 Z1 w91 (Addr.add d3 2) (.slice none 0 0)∧∀w92,ZA w91 (Addr.add d3 2) (.slice none 0 0) w92 →
 ∃b93 o94 l95 l96 o97 l98 l99,World.cell? w92 d3=some (.bool b93) ∧
 World.cell? w92 (Addr.add d3 1)=some (.slice o94 l95 l96) ∧
 World.cell? w92 (Addr.add d3 2)=some (.slice o97 l98 l99) ∧
 R (.returned (.tuple #[(.agg #[(.bool b93),(.slice o94 l95 l96),(.slice o97 l98 l99)]),(.int .i64 (IntKind.wrap .i64 (n68+n69))),(.int .i64 0)])) w92))))))) ∧
 ((b71=true →
 Calls Tryz.prog 36 #[(.slice (subO o1 c1 (Int.toNat n65) 1) ((Int.toNat (IntKind.wrap .i64 (n66+n67))) - (Int.toNat n65)) (c1 - (Int.toNat n65)))] w42 (fun e100 w101 =>
 ∃o102 l103 l104,e100=.returned (.slice o102 l103 l104) ∧
 Z1 w101 d3 (.bool false)∧∀w105,ZA w101 d3 (.bool false) w105 →
 Z1 w105 (Addr.add d3 1) (.slice o102 l103 l104)∧∀w106,ZA w105 (Addr.add d3 1) (.slice o102 l103 l104) w106 →
 Z1 w106 (Addr.add d3 2) (.slice none 0 0)∧∀w107,ZA w106 (Addr.add d3 2) (.slice none 0 0) w107 →
 ∃b108 o109 l110 l111 o112 l113 l114,World.cell? w107 d3=some (.bool b108) ∧
 World.cell? w107 (Addr.add d3 1)=some (.slice o109 l110 l111) ∧
 World.cell? w107 (Addr.add d3 2)=some (.slice o112 l113 l114) ∧
 R (.returned (.tuple #[(.agg #[(.bool b108),(.slice o109 l110 l111),(.slice o112 l113 l114)]),(.int .i64 (IntKind.wrap .i64 (n68+n69))),(.int .i64 0)])) w107)))))) ∧
 ((b70=true →
 ∀d115 w116,ZC w42 111 #[(.bool false),(.slice none 0 0),(.slice none 0 0)] d115 w116 →
 Z1 w116 d115 (.bool true)∧∀w117,ZA w116 d115 (.bool true) w117 →
 Z1 w117 (Addr.add d115 1) (.slice none 0 0)∧∀w118,ZA w117 (Addr.add d115 1) (.slice none 0 0) w118 →
 Z1 w118 (Addr.add d115 2) (.slice none 0 0)∧∀w119,ZA w118 (Addr.add d115 2) (.slice none 0 0) w119 →
 ∃(I120:Option Addr→Nat→Nat→World→Prop) (μ120:Option Addr→Nat→Nat→World→Nat),I120 (subO o1 c1 (Int.toNat n65) 1) ((Int.toNat (IntKind.wrap .i64 (n66+n67))) - (Int.toNat n65)) (c1 - (Int.toNat n65)) w119 ∧
 (∀(o121:Option Addr) (l121:Nat) (c121:Nat) (j122:Nat→Value) (w122:World),I120 o121 l121 c121 w122 →
 (((((l121:Nat):Int) > 0 →
 Calls Tryz.prog 136 #[(.pointer (some d0)),(.slice o121 l121 c121),(.int .i64 (IntKind.wrap .i64 (n2+1)))] w122 (fun e123 w124 =>
 ∃b125 o126 l127 l128 o129 l130 l131 n132 n133,e123=.returned (.tuple #[(.agg #[(.bool b125),(.slice o126 l127 l128),(.slice o129 l130 l131)]),(.int .i64 n132),(.int .i64 n133)]) ∧
 ∀d134 w135,ZC w124 111 #[(.bool false),(.slice none 0 0),(.slice none 0 0)] d134 w135 →
 Z1 w135 d134 (.bool b125)∧∀w136,ZA w135 d134 (.bool b125) w136 →
 Z1 w136 (Addr.add d134 1) (.slice o126 l127 l128)∧∀w137,ZA w136 (Addr.add d134 1) (.slice o126 l127 l128) w137 →
 Z1 w137 (Addr.add d134 2) (.slice o129 l130 l131)∧∀w138,ZA w137 (Addr.add d134 2) (.slice o129 l130 l131) w138 →
 (((n133≠0 →
 Z1 w138 d3 (.bool false)∧∀w139,ZA w138 d3 (.bool false) w139 →
 Z1 w139 (Addr.add d3 1) (.slice none 0 0)∧∀w140,ZA w139 (Addr.add d3 1) (.slice none 0 0) w140 →
 Z1 w140 (Addr.add d3 2) (.slice none 0 0)∧∀w141,ZA w140 (Addr.add d3 2) (.slice none 0 0) w141 →
 ∃b142 o143 l144 l145 o146 l147 l148,World.cell? w141 d3=some (.bool b142) ∧
 World.cell? w141 (Addr.add d3 1)=some (.slice o143 l144 l145) ∧
 World.cell? w141 (Addr.add d3 2)=some (.slice o146 l147 l148) ∧
 R (.returned (.tuple #[(.agg #[(.bool b142),(.slice o143 l144 l145),(.slice o146 l147 l148)]),(.int .i64 0),(.int .i64 n133)])) w141)) ∧
 ((n133=0 →
 ∀w149,ZN w138 w149 →
 ∃o150 l151 l152,World.cell? w149 (Addr.add d115 2)=some (.slice o150 l151 l152) ∧
 ∃b153 o154 l155 l156 o157 l158 l159,World.cell? w149 d134=some (.bool b153) ∧
 World.cell? w149 (Addr.add d134 1)=some (.slice o154 l155 l156) ∧
 World.cell? w149 (Addr.add d134 2)=some (.slice o157 l158 l159) ∧
 ((0:Int)≤n132∧n132≤((l121:Nat):Int)) ∧
 ∀d160 w161,ZC w149 111 #[(.bool b153),(.slice o154 l155 l156),(.slice o157 l158 l159)] d160 w161 →
 World.cell? w161 (Addr.add d115 2)=some (.slice o150 l151 l152) ∧
 ∃v162 w163,Sem.run Tryz.prog (builtinV .append #[109,109] 109 #[(.slice o150 l151 l152),(.slice (some d160) 1 1)]) w161=.ok v162 w163 ∧
 ∃o164 l165 l166,v162=(.slice o164 l165 l166) ∧
 Z1 w163 (Addr.add d115 2) (.slice o164 l165 l166)∧∀w167,ZA w163 (Addr.add d115 2) (.slice o164 l165 l166) w167 →
 I120 (subO o121 c121 (Int.toNat n132) 1) (l121 - (Int.toNat n132)) (c121 - (Int.toNat n132)) w167∧μ120 (subO o121 c121 (Int.toNat n132) 1) (l121 - (Int.toNat n132)) (c121 - (Int.toNat n132)) w167 < μ120 o121 l121 c121 w122)))))) ∧
 ((¬((l121:Nat):Int) > 0 →
 ∃b168 o169 l170 l171 o172 l173 l174,World.cell? w122 d115=some (.bool b168) ∧
 World.cell? w122 (Addr.add d115 1)=some (.slice o169 l170 l171) ∧
 World.cell? w122 (Addr.add d115 2)=some (.slice o172 l173 l174) ∧
 Z1 w122 d3 (.bool b168)∧∀w175,ZA w122 d3 (.bool b168) w175 →
 Z1 w175 (Addr.add d3 1) (.slice o169 l170 l171)∧∀w176,ZA w175 (Addr.add d3 1) (.slice o169 l170 l171) w176 →
 Z1 w176 (Addr.add d3 2) (.slice o172 l173 l174)∧∀w177,ZA w176 (Addr.add d3 2) (.slice o172 l173 l174) w177 →
 ∃b178 o179 l180 l181 o182 l183 l184,World.cell? w177 d3=some (.bool b178) ∧
 World.cell? w177 (Addr.add d3 1)=some (.slice o179 l180 l181) ∧
 World.cell? w177 (Addr.add d3 2)=some (.slice o182 l183 l184) ∧
 R (.returned (.tuple #[(.agg #[(.bool b178),(.slice o179 l180 l181),(.slice o182 l183 l184)]),(.int .i64 (IntKind.wrap .i64 (n68+n69))),(.int .i64 0)])) w177)))))))))))))))))))))
theorem Z0g.vc (d0:Addr) (o1:Option Addr) (l1:Nat) (c1:Nat) (n2:Int) (w:World) (R:Ending→World→Prop) (h:Z0g.Vc d0 o1 l1 c1 n2 w R):Calls Tryz.prog 136 #[(.pointer (some d0)),(.slice o1 l1 c1),(.int .i64 n2)] w R :=
 Z8 (R:=⟨R,false⟩) (ann:=[(18,[(12,.cell (.slice))])]) (args:=[.addr d0,.slice o1 l1 c1,.int .i64 n2]) Tryz.func136 ZR (Eq.mp (by kernel_rfl:Z0g.Vc d0 o1 l1 c1 n2 w R=ZP (pA Tryz.prog ⟨R,false⟩) Tryz.prog [(18,[(12,.cell (.slice))])] Tryz.f136 [.addr d0,.slice o1 l1 c1,.int .i64 n2] w) h)

abbrev Z37.n:Nat:=149
def Z37.Vc (o0:Option Addr) (l0 c0:Nat) (w:World) (R:Ending→World→Prop):Prop :=
 ∀d1 w2,ZC w 237 #[(.bool false),(.int .i64 0),(.int .i64 0),(.bool false),(.bool false)] d1 w2 →
 ∃d3,o0=some d3 ∧
 ((0:Int)≤0∧0 < ((l0:Nat):Int)) ∧
 ∃n4,World.cell? w2 (Addr.add d3 0)=some (.int .u8 n4) ∧
 ∀d5 w6,ZC w2 3 #[(.int .i64 0)] d5 w6 →
 Z1 w6 d5 (.int .i64 (IntKind.wrap .i64 n4))∧∀w7,ZA w6 d5 (.int .i64 (IntKind.wrap .i64 n4)) w7 →
 ∀d8 w9,ZC w7 237 #[(.bool false),(.int .i64 0),(.int .i64 0),(.bool false),(.bool false)] d8 w9 →
 Z1 w9 d8 (.bool false)∧∀w10,ZA w9 d8 (.bool false) w10 →
 Z1 w10 (Addr.add d8 1) (.int .i64 1)∧∀w11,ZA w10 (Addr.add d8 1) (.int .i64 1) w11 →
 Z1 w11 (Addr.add d8 2) (.int .i64 0)∧∀w12,ZA w11 (Addr.add d8 2) (.int .i64 0) w12 →
 Z1 w12 (Addr.add d8 3) (.bool false)∧∀w13,ZA w12 (Addr.add d8 3) (.bool false) w13 →
 Z1 w13 (Addr.add d8 4) (.bool false)∧∀w14,ZA w13 (Addr.add d8 4) (.bool false) w14 →
 ∀d15 w16,ZC w14 3 #[(.int .i64 0)] d15 w16 →
 Z1 w16 d15 (.int .i64 0)∧∀w17,ZA w16 d15 (.int .i64 0) w17 →
 ∃(J18:World→Prop),(∃n19,World.cell? w17 d5=some (.int .i64 n19) ∧
 (((n19 < 128 →
 Z1 w17 d1 (.bool false)∧∀w20,ZA w17 d1 (.bool false) w20 →
 Z1 w20 (Addr.add d1 1) (.int .i64 0)∧∀w21,ZA w20 (Addr.add d1 1) (.int .i64 0) w21 →
 Z1 w21 (Addr.add d1 2) (.int .i64 1)∧∀w22,ZA w21 (Addr.add d1 2) (.int .i64 1) w22 →
 Z1 w22 (Addr.add d1 3) (.bool true)∧∀w23,ZA w22 (Addr.add d1 3) (.bool true) w23 →
 Z1 w23 (Addr.add d1 4) (.bool false)∧∀w24,ZA w23 (Addr.add d1 4) (.bool false) w24 →
 ∃b25 n26 n27 b28 b29,World.cell? w24 d1=some (.bool b25) ∧
 World.cell? w24 (Addr.add d1 1)=some (.int .i64 n26) ∧
 World.cell? w24 (Addr.add d1 2)=some (.int .i64 n27) ∧
 World.cell? w24 (Addr.add d1 3)=some (.bool b28) ∧
 World.cell? w24 (Addr.add d1 4)=some (.bool b29) ∧
 R (.returned (.tuple #[(.agg #[(.bool b25),(.int .i64 n26),(.int .i64 n27),(.bool b28),(.bool b29)]),(.int .i64 0)])) w24)) ∧
 ((¬n19 < 128 →
 ∃n30,World.cell? w17 d5=some (.int .i64 n30) ∧
 (((n30≥192 →
 Z1 w17 d8 (.bool true)∧∀w31,ZA w17 d8 (.bool true) w31 →
 Calls Tryz.prog 159 #[(.int .i64 192),(.pointer (some d5)),(.pointer (some d15)),(.pointer (some d8))] w31 (fun e32 w33 =>
 e32=.returned (.tuple #[]) ∧
 J18  w33))) ∧
 ((¬n30≥192 →
 Calls Tryz.prog 159 #[(.int .i64 128),(.pointer (some d5)),(.pointer (some d15)),(.pointer (some d8))] w17 (fun e34 w35 =>
 e34=.returned (.tuple #[]) ∧
 J18  w35)))))))) ∧
 (∀  (j36:Nat→Value) (w36:World),J18  w36 →
 ∃n37,World.cell? w36 d15=some (.int .i64 n37) ∧
 (((n37=0 →
 ∃b38 n39 n40 b41 b42,World.cell? w36 d8=some (.bool b38) ∧
 World.cell? w36 (Addr.add d8 1)=some (.int .i64 n39) ∧
 World.cell? w36 (Addr.add d8 2)=some (.int .i64 n40) ∧
 World.cell? w36 (Addr.add d8 3)=some (.bool b41) ∧
 World.cell? w36 (Addr.add d8 4)=some (.bool b42) ∧
 Z1 w36 d1 (.bool b38)∧∀w43,ZA w36 d1 (.bool b38) w43 →
 Z1 w43 (Addr.add d1 1) (.int .i64 n39)∧∀w44,ZA w43 (Addr.add d1 1) (.int .i64 n39) w44 →
 Z1 w44 (Addr.add d1 2) (.int .i64 n40)∧∀w45,ZA w44 (Addr.add d1 2) (.int .i64 n40) w45 →
 Z1 w45 (Addr.add d1 3) (.bool b41)∧∀w46,ZA w45 (Addr.add d1 3) (.bool b41) w46 →
 Z1 w46 (Addr.add d1 4) (.bool b42)∧∀w47,ZA w46 (Addr.add d1 4) (.bool b42) w47 →
 ∃b48 n49 n50 b51 b52,World.cell? w47 d1=some (.bool b48) ∧
 World.cell? w47 (Addr.add d1 1)=some (.int .i64 n49) ∧
 World.cell? w47 (Addr.add d1 2)=some (.int .i64 n50) ∧
 World.cell? w47 (Addr.add d1 3)=some (.bool b51) ∧
 World.cell? w47 (Addr.add d1 4)=some (.bool b52) ∧
 R (.returned (.tuple #[(.agg #[(.bool b48),(.int .i64 n49),(.int .i64 n50),(.bool b51),(.bool b52)]),(.int .i64 0)])) w47)) ∧
 ((n37≠0 →
 ∃n53,World.cell? w36 d15=some (.int .i64 n53) ∧
 (((((l0:Nat):Int) < (IntKind.wrap .i64 (1+n53)) →
 ∃b54 n55 n56 b57 b58,World.cell? w36 d8=some (.bool b54) ∧
 World.cell? w36 (Addr.add d8 1)=some (.int .i64 n55) ∧
 World.cell? w36 (Addr.add d8 2)=some (.int .i64 n56) ∧
 World.cell? w36 (Addr.add d8 3)=some (.bool b57) ∧
 World.cell? w36 (Addr.add d8 4)=some (.bool b58) ∧
 Z1 w36 d1 (.bool b54)∧∀w59,ZA w36 d1 (.bool b54) w59 →
 Z1 w59 (Addr.add d1 1) (.int .i64 n55)∧∀w60,ZA w59 (Addr.add d1 1) (.int .i64 n55) w60 →
 Z1 w60 (Addr.add d1 2) (.int .i64 n56)∧∀w61,ZA w60 (Addr.add d1 2) (.int .i64 n56) w61 →
 Z1 w61 (Addr.add d1 3) (.bool b57)∧∀w62,ZA w61 (Addr.add d1 3) (.bool b57) w62 →
 Z1 w62 (Addr.add d1 4) (.bool b58)∧∀w63,ZA w62 (Addr.add d1 4) (.bool b58) w63 →
 ∃b64 n65 n66 b67 b68,World.cell? w63 d1=some (.bool b64) ∧
 World.cell? w63 (Addr.add d1 1)=some (.int .i64 n65) ∧
 World.cell? w63 (Addr.add d1 2)=some (.int .i64 n66) ∧
 World.cell? w63 (Addr.add d1 3)=some (.bool b67) ∧
 World.cell? w63 (Addr.add d1 4)=some (.bool b68) ∧
 R (.returned (.tuple #[(.agg #[(.bool b64),(.int .i64 n65),(.int .i64 n66),(.bool b67),(.bool b68)]),(.int .i64 41)])) w63)) ∧
 ((¬((l0:Nat):Int) < (IntKind.wrap .i64 (1+n53)) →
 ∃n69,World.cell? w36 d15=some (.int .i64 n69) ∧
 ((0:Int)≤(IntKind.wrap .i64 (1+n69))∧(IntKind.wrap .i64 (1+n69))≤((c0:Nat):Int)) ∧
 1≤(Int.toNat (IntKind.wrap .i64 (1+n69))) ∧
 ∃(I70:Int→Int→World→Prop) (μ70:Int→Int→World→Nat),I70 0 0 w36 ∧
 (∀(n71:Int) (n72:Int) (j73:Nat→Value) (w73:World),I70 n71 n72 w73 →
 (((n72 < ((((Int.toNat (IntKind.wrap .i64 (1+n69))) - 1):Nat):Int) →
 ∃d74,(subO o0 c0 1 1)=some d74 ∧
 ((0:Int)≤n72∧n72 < ((((Int.toNat (IntKind.wrap .i64 (1+n69))) - 1):Nat):Int)) ∧
 ∃n75,World.cell? w73 (Addr.add d74 (Int.toNat n72))=some (.int .u8 n75) ∧
 I70 (bitsI .or .u64 (IntKind.wrap .u64 (n71 * 256)) (IntKind.wrap .u64 n75)) (IntKind.wrap .i64 (n72+1)) w73∧μ70 (bitsI .or .u64 (IntKind.wrap .u64 (n71 * 256)) (IntKind.wrap .u64 n75)) (IntKind.wrap .i64 (n72+1)) w73 < μ70 n71 n72 w73)) ∧
 ((¬n72 < ((((Int.toNat (IntKind.wrap .i64 (1+n69))) - 1):Nat):Int) →
 ∃d76,o0=some d76 ∧
 ((0:Int)≤1∧1 < ((l0:Nat):Int)) ∧
 ∃n77,World.cell? w73 (Addr.add d76 1)=some (.int .u8 n77) ∧
 (((n77=0 →
 ∃b78 n79 n80 b81 b82,World.cell? w73 d8=some (.bool b78) ∧
 World.cell? w73 (Addr.add d8 1)=some (.int .i64 n79) ∧
 World.cell? w73 (Addr.add d8 2)=some (.int .i64 n80) ∧
 World.cell? w73 (Addr.add d8 3)=some (.bool b81) ∧
 World.cell? w73 (Addr.add d8 4)=some (.bool b82) ∧
 Z1 w73 d1 (.bool b78)∧∀w83,ZA w73 d1 (.bool b78) w83 →
 Z1 w83 (Addr.add d1 1) (.int .i64 n79)∧∀w84,ZA w83 (Addr.add d1 1) (.int .i64 n79) w84 →
 Z1 w84 (Addr.add d1 2) (.int .i64 n80)∧∀w85,ZA w84 (Addr.add d1 2) (.int .i64 n80) w85 →
 Z1 w85 (Addr.add d1 3) (.bool b81)∧∀w86,ZA w85 (Addr.add d1 3) (.bool b81) w86 →
 Z1 w86 (Addr.add d1 4) (.bool b82)∧∀w87,ZA w86 (Addr.add d1 4) (.bool b82) w87 →
 ∃b88 n89 n90 b91 b92,World.cell? w87 d1=some (.bool b88) ∧
 World.cell? w87 (Addr.add d1 1)=some (.int .i64 n89) ∧
 World.cell? w87 (Addr.add d1 2)=some (.int .i64 n90) ∧
 World.cell? w87 (Addr.add d1 3)=some (.bool b91) ∧
 World.cell? w87 (Addr.add d1 4)=some (.bool b92) ∧
 R (.returned (.tuple #[(.agg #[(.bool b88),(.int .i64 n89),(.int .i64 n90),(.bool b91),(.bool b92)]),(.int .i64 40)])) w87)) ∧
 ((n77≠0 →
 (((n71≤55 →
 ∃b93 n94 n95 b96 b97,World.cell? w73 d8=some (.bool b93) ∧
 World.cell? w73 (Addr.add d8 1)=some (.int .i64 n94) ∧
 World.cell? w73 (Addr.add d8 2)=some (.int .i64 n95) ∧
 World.cell? w73 (Addr.add d8 3)=some (.bool b96) ∧
 World.cell? w73 (Addr.add d8 4)=some (.bool b97) ∧
 Z1 w73 d1 (.bool b93)∧∀w98,ZA w73 d1 (.bool b93) w98 →
 Z1 w98 (Addr.add d1 1) (.int .i64 n94)∧∀w99,ZA w98 (Addr.add d1 1) (.int .i64 n94) w99 →
 Z1 w99 (Addr.add d1 2) (.int .i64 n95)∧∀w100,ZA w99 (Addr.add d1 2) (.int .i64 n95) w100 →
 Z1 w100 (Addr.add d1 3) (.bool b96)∧∀w101,ZA w100 (Addr.add d1 3) (.bool b96) w101 →
 Z1 w101 (Addr.add d1 4) (.bool b97)∧∀w102,ZA w101 (Addr.add d1 4) (.bool b97) w102 →
 ∃b103 n104 n105 b106 b107,World.cell? w102 d1=some (.bool b103) ∧
 World.cell? w102 (Addr.add d1 1)=some (.int .i64 n104) ∧
 World.cell? w102 (Addr.add d1 2)=some (.int .i64 n105) ∧
 World.cell? w102 (Addr.add d1 3)=some (.bool b106) ∧
 World.cell? w102 (Addr.add d1 4)=some (.bool b107) ∧
 R (.returned (.tuple #[(.agg #[(.bool b103),(.int .i64 n104),(.int .i64 n105),(.bool b106),(.bool b107)]),(.int .i64 40)])) w102)) ∧
 ((¬n71≤55 →
 (((n71 > 2147483648 →
 ∃b108 n109 n110 b111 b112,World.cell? w73 d8=some (.bool b108) ∧
 World.cell? w73 (Addr.add d8 1)=some (.int .i64 n109) ∧
 World.cell? w73 (Addr.add d8 2)=some (.int .i64 n110) ∧
 World.cell? w73 (Addr.add d8 3)=some (.bool b111) ∧
 World.cell? w73 (Addr.add d8 4)=some (.bool b112) ∧
 Z1 w73 d1 (.bool b108)∧∀w113,ZA w73 d1 (.bool b108) w113 →
 Z1 w113 (Addr.add d1 1) (.int .i64 n109)∧∀w114,ZA w113 (Addr.add d1 1) (.int .i64 n109) w114 →
 Z1 w114 (Addr.add d1 2) (.int .i64 n110)∧∀w115,ZA w114 (Addr.add d1 2) (.int .i64 n110) w115 →
 Z1 w115 (Addr.add d1 3) (.bool b111)∧∀w116,ZA w115 (Addr.add d1 3) (.bool b111) w116 →
 Z1 w116 (Addr.add d1 4) (.bool b112)∧∀w117,ZA w116 (Addr.add d1 4) (.bool b112) w117 →
 ∃b118 n119 n120 b121 b122,World.cell? w117 d1=some (.bool b118) ∧
 World.cell? w117 (Addr.add d1 1)=some (.int .i64 n119) ∧
 World.cell? w117 (Addr.add d1 2)=some (.int .i64 n120) ∧
 World.cell? w117 (Addr.add d1 3)=some (.bool b121) ∧
 World.cell? w117 (Addr.add d1 4)=some (.bool b122) ∧
 R (.returned (.tuple #[(.agg #[(.bool b118),(.int .i64 n119),(.int .i64 n120),(.bool b121),(.bool b122)]),(.int .i64 40)])) w117)) ∧
 ((¬n71 > 2147483648 →
 ∃n123,World.cell? w73 d15=some (.int .i64 n123) ∧
 Z1 w73 (Addr.add d8 1) (.int .i64 (IntKind.wrap .i64 (1+n123)))∧∀w124,ZA w73 (Addr.add d8 1) (.int .i64 (IntKind.wrap .i64 (1+n123))) w124 →
 Z1 w124 (Addr.add d8 2) (.int .i64 (IntKind.wrap .i64 n71))∧∀w125,ZA w124 (Addr.add d8 2) (.int .i64 (IntKind.wrap .i64 n71)) w125 →
 ∃b126 n127 n128 b129 b130,World.cell? w125 d8=some (.bool b126) ∧
 World.cell? w125 (Addr.add d8 1)=some (.int .i64 n127) ∧
 World.cell? w125 (Addr.add d8 2)=some (.int .i64 n128) ∧
 World.cell? w125 (Addr.add d8 3)=some (.bool b129) ∧
 World.cell? w125 (Addr.add d8 4)=some (.bool b130) ∧
 Z1 w125 d1 (.bool b126)∧∀w131,ZA w125 d1 (.bool b126) w131 →
 Z1 w131 (Addr.add d1 1) (.int .i64 n127)∧∀w132,ZA w131 (Addr.add d1 1) (.int .i64 n127) w132 →
 Z1 w132 (Addr.add d1 2) (.int .i64 n128)∧∀w133,ZA w132 (Addr.add d1 2) (.int .i64 n128) w133 →
 Z1 w133 (Addr.add d1 3) (.bool b129)∧∀w134,ZA w133 (Addr.add d1 3) (.bool b129) w134 →
 Z1 w134 (Addr.add d1 4) (.bool b130)∧∀w135,ZA w134 (Addr.add d1 4) (.bool b130) w135 →
 ∃b136 n137 n138 b139 b140,World.cell? w135 d1=some (.bool b136) ∧
 World.cell? w135 (Addr.add d1 1)=some (.int .i64 n137) ∧
 World.cell? w135 (Addr.add d1 2)=some (.int .i64 n138) ∧
 World.cell? w135 (Addr.add d1 3)=some (.bool b139) ∧
 World.cell? w135 (Addr.add d1 4)=some (.bool b140) ∧
 R (.returned (.tuple #[(.agg #[(.bool b136),(.int .i64 n137),(.int .i64 n138),(.bool b139),(.bool b140)]),(.int .i64 0)])) w135))))))))))))))))))))
theorem Z37.vc (o0:Option Addr) (l0:Nat) (c0:Nat) (w:World) (R:Ending→World→Prop) (h:Z37.Vc o0 l0 c0 w R):Calls Tryz.prog 149 #[(.slice o0 l0 c0)] w R :=
 Z8 (R:=⟨R,false⟩) (ann:=[(1000011,[]),(17,[(8,.cell (.int .u64)),(43,.cell (.int .i64))])]) (args:=[.slice o0 l0 c0]) Tryz.func149 ZR (Eq.mp (by kernel_rfl:Z37.Vc o0 l0 c0 w R=ZP (pA Tryz.prog ⟨R,false⟩) Tryz.prog [(1000011,[]),(17,[(8,.cell (.int .u64)),(43,.cell (.int .i64))])] Tryz.f149 [.slice o0 l0 c0] w) h)

abbrev Z1x.n:Nat:=159
def Z1x.Vc (n0:Int) (d1 d2 d3:Addr) (w:World) (R:Ending→World→Prop):Prop :=
 ∃n4,World.cell? w d1=some (.int .i64 n4) ∧
 Z1 w d2 (.int .i64 (max (IntKind.wrap .i64 ((IntKind.wrap .i64 (n4 - n0)) - 55)) 0))∧∀w5,ZA w d2 (.int .i64 (max (IntKind.wrap .i64 ((IntKind.wrap .i64 (n4 - n0)) - 55)) 0)) w5 →
 ∃n6,World.cell? w5 d1=some (.int .i64 n6) ∧
 Z1 w5 (Addr.add d3 2) (.int .i64 (IntKind.wrap .i64 (n6 - n0)))∧∀w7,ZA w5 (Addr.add d3 2) (.int .i64 (IntKind.wrap .i64 (n6 - n0))) w7 →
 R (.returned (.tuple #[])) w7
theorem Z1x.vc (n0:Int) (d1:Addr) (d2:Addr) (d3:Addr) (w:World) (R:Ending→World→Prop) (h:Z1x.Vc n0 d1 d2 d3 w R):Calls Tryz.prog 159 #[(.int .i64 n0),(.pointer (some d1)),(.pointer (some d2)),(.pointer (some d3))] w R :=
 Z8 (R:=⟨R,false⟩) (ann:=[]) (args:=[.int .i64 n0,.addr d1,.addr d2,.addr d3]) Tryz.func159 ZR (Eq.mp (by kernel_rfl:Z1x.Vc n0 d1 d2 d3 w R=ZP (pA Tryz.prog ⟨R,false⟩) Tryz.prog [] Tryz.f159 [.int .i64 n0,.addr d1,.addr d2,.addr d3] w) h)

end Go.Proofs.YtfghidehlnfdiaaGreat
end
