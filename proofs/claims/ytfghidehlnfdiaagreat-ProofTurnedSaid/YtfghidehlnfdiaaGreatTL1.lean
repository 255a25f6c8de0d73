/- Contracts: Prove (package proof). -/
/- Contracts: the reference's Down, find (moraineref14). -/
/- Contracts: the reference's find, Get (moraineref14), Prove (moraineref16). -/
/- Contracts: what Verify asks, Verify (package proof). -/
/- Contracts: Verify (package proof). -/
/- Contracts: the reference's Verify (moraineref16). -/
/- Contracts: lists of bytes held against one another, and copied. -/
/- What the laws of tries hold on to: a trie beside its map. -/
/- Contracts: few, does. -/
/- The walk of TrieRoots. -/
/- The walk of TrieOrder. -/
/- The walk of TrieOne. -/
import Derived.Test.YtfghidehlnfdiaaGreatPW8
import Derived.Test.YtfghidehlnfdiaaGreatTVP
set_option linter.unusedVariables false
set_option linter.unusedSimpArgs false
section
namespace Go.Proofs.YtfghidehlnfdiaaGreat
open Go Go.Vcg Go.Trie
def proveR (l:List (By×By)) (root key:By):Except Int (List By) :=
 if l.length > 4096 then .error 162 else if key.length > 64 then .error 140 else
 match way (pStep l) [] (rootIt root) (nibbles key) with
 | (out,.ok _)=>.ok out
 | (_,.error e)=>.error e
def ProveIs (l:List (By×By)) (root key:By) (w:World) (e:Ending) (w':World):Prop :=
 Vcg.Mod NoB w w'∧match proveR l root key with
  | .error er=>er≠0∧e=.returned (.tuple #[.slice none 0 0,.int .i64 er])
  | .ok out=>∃o n k,e=.returned (.tuple #[.slice o n k,.int .i64 0])∧∃lab' c cb,LsOwn w' lab' c cb out o n k
def lab8 (N:Nat):Nat→Nat:=fun k=>if k=N+1 then 7 else if N≤k then 1 else 0
theorem lab8_old {N k:Nat} (h:k < N):lab8 N k=0:=by unfold lab8; rw [if_neg (by omega),if_neg (by omega)]
theorem leave_fault {R:Ending→World→Prop} {rt:World→Prop} {dE dO:Nat} {n n0:Int} {o:Option Addr} {l k:Nat} {w:World} (hn:n≠0) (hne:dE≠dO) (E:Blk w dE 40 #[.int .i64 n0]) (O:Blk w dO 31 #[.slice o l k])
 (K:∀w',Blk w' dE 40 #[.int .i64 n]→Blk w' dO 31 #[.slice none 0 0]→Vcg.Mod (fun b=>b=dE∨b=dO) w w'→rt w') :
 LeavV Tryz.prog rt R [(32,#[.pointer (some ⟨dE,0,none⟩)]),(48,#[.pointer (some ⟨dE,0,none⟩),.pointer (some ⟨dO,0,none⟩)])] (.panicking (faultOf n)) w:=by
 refine ⟨fun h=>(by cases h),(caught_calls E).mono ?_⟩
 rintro _ _ w1 ⟨rfl,rfl,E1,M1⟩
 have O1:=O.mod M1 (fun h=>hne h.symm)
 refine ⟨fun h=>(by cases h),?_⟩
 refine (proof_Prove_1.vcd .returning _ _ w1 (fun e w'=>e=.returned (.tuple #[])∧Blk w' dE 40 #[.int .i64 n]∧Blk w' dO 31 #[.slice none 0 0]∧Vcg.Mod (·=dO) w1 w') ?_).mono ?_
 ·unfold proof_Prove_1.Vc
  refine ⟨n,E1.rd1 rfl,fun _=>⟨O1.canSet (by simp) rfl,?_⟩,fun h=>(hn h).elim⟩
  rintro _ rfl
  exact ⟨rfl,E1.set_ne (by exact hne),O1.set 0 _,Mod.setCell w1 ⟨dO,0,none⟩ _⟩
 ·rintro _ _ w2 ⟨rfl,rfl,E2,O2,M2⟩
  exact K w2 E2 O2 ((M1.mono (fun _ _ h=>.inl h)).trans M2 (fun _ _ h=>.inr h))
theorem leave_well {R:Ending→World→Prop} {rt:World→Prop} {dE dO:Nat} {w:World} (E:Blk w dE 40 #[.int .i64 0]) (K:rt w) :
 LeavV Tryz.prog rt R [(32,#[.pointer (some ⟨dE,0,none⟩)]),(48,#[.pointer (some ⟨dE,0,none⟩),.pointer (some ⟨dO,0,none⟩)])] .returning w:=by
 refine ⟨fun h=>(by cases h),caught_idle.mono ?_⟩
 rintro _ _ w1 ⟨rfl,rfl,rfl⟩
 refine ⟨fun h=>(by cases h),?_⟩
 refine (proof_Prove_1.vcd .returning _ _ w1 (fun e w'=>e=.returned (.tuple #[])∧w'=w1) ?_).mono ?_
 ·unfold proof_Prove_1.Vc
  exact ⟨0,E.rd1 rfl,fun h=>(h rfl).elim,fun _=>⟨rfl,rfl⟩⟩
 ·rintro _ _ w2 ⟨rfl,rfl,rfl⟩
  exact K
theorem Prove_calls {w:World} {lab:Nat→Nat} {c:Nat} {l:List (By×By)} {o ok:Option Addr} {k kk:Nat} {root key:By} (h:NdRow w lab c l o l.length) (hlen:l.length≤2 ^ 40) (hb:∀x∈l,x.2.length≤2 ^ 30) (hroot:root.length=32) (hkey:RdB w ok key) :
 Calls Tryz.prog proof_Prove.n #[.slice o l.length k,.agg (hashA root),.slice ok key.length kk] w (ProveIs l root key w):=by
 refine calls_gen fun R hR=>proof_Prove.vc _ _ _ _ _ _ _ _ _ ?_
 unfold proof_Prove.Vc
 have hN:NdRow w (lab8 w.heap.size) 0 l o l.length:=NdRow.re h (fun k hk _=>lab8_old hk)
 rintro d3 w1 ⟨rfl,rfl⟩
 have M1:=Mod.alloc (S:=NoB) w (.cells (hashA root) 27)
 have X1:=Blk.new w 27 (hashA root)
 have z1:=size_alloc w (.cells (hashA root) 27)
 generalize hNe:w.heap.size=N at *
 generalize w.alloc (.cells (hashA root) 27)=w1 at *
 rintro d5 w2 ⟨rfl,rfl⟩
 have M12:=Mod.alloc (S:=NoB) w1 (.cells #[.slice none 0 0] 31)
 have O2:=Blk.new w1 31 #[.slice none 0 0]
 have z2:=size_alloc w1 (.cells #[.slice none 0 0] 31)
 have X2:=X1.mod' M12
 have M2:=M1.none_trans M12
 rw [z1] at O2 z2 ⊢
 generalize w1.alloc (.cells #[.slice none 0 0] 31)=w2 at *
 rintro d7 w3 ⟨rfl,rfl⟩
 have M23:=Mod.alloc (S:=NoB) w2 (.cells #[.int .i64 0] 40)
 have E3:=Blk.new w2 40 #[.int .i64 0]
 have z3:=size_alloc w2 (.cells #[.int .i64 0] 40)
 have X3:=X2.mod' M23
 have O3:=O2.mod' M23
 have M3:=M2.none_trans M23
 rw [z2] at E3 z3 ⊢
 generalize w2.alloc (.cells #[.int .i64 0] 40)=w3 at *
 have s3:Stp NoS w (lab8 N) w3 (lab8 N):=⟨M3.os,M3.tape,M3.output,M3.size,fun _ _=>rfl,fun q hq _=>M3.block q hq (fun h=>h)⟩
 have hN3:=hN.stp s3 (fun h=>h)
 have lO:lab8 N (N+1)=7:=if_pos rfl
 have lX:lab8 N N=1:=by unfold lab8; rw [if_neg (by omega),if_pos (Nat.le_refl _)]
 have lE:lab8 N (N+1+1)=1:=by unfold lab8; rw [if_neg (by omega),if_pos (by omega)]
 refine (stored_calls (k:=k) (held:=false) hN3 hlen).mono ?_
 rintro e w4 ⟨M4,hbig,hsmall⟩
 have s34:Stp NoS w3 (lab8 N) w4 (ext (lab8 N) w3.heap.size 9):=Stp.of_nob M4 9
 have M04:=M3.none_trans M4
 have z4:=M4.size
 obtain ⟨m11,b12,n13,rfl,hcase⟩:∃m11 b12 n13,e=.returned (.tuple #[.agg #[.map m11,.bool b12],.int .i64 n13])∧((n13=162∧l.length > 4096)∨(n13=0∧l.length≤4096∧b12=false∧∃m,m11=some m∧SMap w4 (ext (lab8 N) w3.heap.size 9) 9 0 l m)):=by
  by_cases hl:l.length > 4096
  ·exact ⟨_,_,_,hbig hl,.inl ⟨rfl,hl⟩⟩
  ·obtain ⟨m,he,hm⟩:=hsmall (by omega)
   exact ⟨_,_,_,he,.inr ⟨rfl,by omega,rfl,m,rfl,hm⟩⟩
 have X4:CB w4 (ext (lab8 N) w3.heap.size 9) 1 N 27 (hashA root):=(CB.mk X3 lX).stp s34 (fun h=>h)
 have O4:CB w4 (ext (lab8 N) w3.heap.size 9) 7 (N+1) 31 #[.slice none 0 0]:=(CB.mk O3 lO).stp s34 (fun h=>h)
 have E4:CB w4 (ext (lab8 N) w3.heap.size 9) 1 (N+1+1) 40 #[.int .i64 0]:=(CB.mk E3 lE).stp s34 (fun h=>h)
 have hlab4:∀b,ext (lab8 N) w3.heap.size 9 b=5∨ext (lab8 N) w3.heap.size 9 b=7∨ext (lab8 N) w3.heap.size 9 b=8→N≤b:=by
  intro b hb
  refine Nat.le_of_not_lt fun hlt=>?_
  rw [ext_old (by omega),lab8_old hlt] at hb
  omega
 clear hbig hsmall X3 O3 E3 hN3 s34 s3
 generalize ext (lab8 N) w3.heap.size 9=lab4 at *
 refine .inr ⟨_,_,_,rfl,?_⟩
 rintro d14 w5 ⟨rfl,rfl⟩
 have s45:Stp NoS w4 lab4 (w4.alloc (.cells #[.map none,.bool false] 69)) (ext lab4 w4.heap.size 1):=Stp.alloc NoS w4 lab4 _ 1
 have M45:=Mod.alloc (S:=NoB) w4 (.cells #[.map none,.bool false] 69)
 have D5:=CB.new w4 lab4 1 69 #[.map none,.bool false]
 have X5:=X4.stp s45 (fun h=>h)
 have O5:=O4.stp s45 (fun h=>h)
 have E5:=E4.stp s45 (fun h=>h)
 have hlab5:∀b,ext lab4 w4.heap.size 1 b=5∨ext lab4 w4.heap.size 1 b=7∨ext lab4 w4.heap.size 1 b=8→N≤b:=by
  intro b hb
  by_cases hlt:b < w4.heap.size
  ·rw [ext_old hlt] at hb; exact hlab4 b hb
  ·omega
 have M05:=M04.none_trans M45
 have hD:N+1+1 < w4.heap.size:=by omega
 generalize w4.heap.size=D at *
 generalize w4.alloc (.cells #[.map none,.bool false] 69)=w5 at *
 generalize ext lab4 D 1=lab5 at *
 refine ⟨D5.blk.canSet (by simp) rfl,?_⟩
 rintro _ rfl
 have D6:=D5.set 0 (.map m11)
 have Q6:Vcg.Mod (·=D) w5 _:=Mod.setCell w5 ⟨D,0,none⟩ (.map m11)
 rw [add_at,Nat.zero_add]
 refine ⟨D6.blk.canSet (by simp) rfl,?_⟩
 rintro _ rfl
 have D7:=D6.set 1 (.bool b12)
 have Q7:=Q6.step_set (a:=⟨D,1,none⟩) (v:=.bool b12) (fun _=>rfl)
 have s57:Stp (·=1) w5 lab5 _ lab5:=⟨Q7.os,Q7.tape,Q7.output,Q7.size,fun _ _=>rfl,fun q hq hn=>Q7.block q hq (fun e=>hn (by rw [e]; exact D5.clr))⟩
 have E7:=E5.blk.mod Q7 (by omega)
 have X7:=X5.blk.mod Q7 (by omega)
 have O7:=O5.stp s57 (by decide)
 generalize ((w5.setCell ⟨D,0,none⟩ (.map m11)).setCell ⟨D,1,none⟩ (.bool b12))=w7 at *
 refine ⟨E7.canSet (by simp) rfl,?_⟩
 rintro _ rfl
 have E8:=E7.set 0 (.int .i64 n13)
 have Q8:Vcg.Mod (·=N+1+1) w7 _:=Mod.setCell w7 ⟨N+1+1,0,none⟩ (.int .i64 n13)
 have s78:Stp (·=1) w7 lab5 _ lab5:=⟨Q8.os,Q8.tape,Q8.output,Q8.size,fun _ _=>rfl,fun q hq hn=>Q8.block q hq (fun e=>hn (by rw [e]; exact E5.clr))⟩
 have X8:=X7.mod Q8 (by omega)
 have O8:=O7.stp s78 (by decide)
 have D8:CB (w7.setCell ⟨N+1+1,0,none⟩ (.int .i64 n13)) lab5 1 D 69 #[.map m11,.bool b12]:=⟨D7.blk.mod Q8 (by omega),D7.clr⟩
 have M08:Vcg.Mod NoB w _:=mod_of (mod_of M05 Q7 (by omega)) Q8 (by omega)
 have E8c:CB (w7.setCell ⟨N+1+1,0,none⟩ (.int .i64 n13)) lab5 1 (N+1+1) 40 #[.int .i64 n13]:=⟨E8,E5.clr⟩
 have s48:=(s45.mono (T:=fun k=>k=1) (fun _ h=>h.elim)).trans (s57.trans s78)
 generalize w7.setCell ⟨N+1+1,0,none⟩ (.int .i64 n13)=w8 at *
 refine ⟨_,E8.rd1 rfl,fun hne=>?_,fun h0=>?_⟩
 ·obtain ⟨rfl,hl⟩:=hcase.resolve_right (fun h=>hne h.1)
  rintro _ rfl
  have E9:=E8.drew
  have O9:=O8.blk.drew
  have M09:=M08.step_drew
  refine ⟨_,E9.rd1 rfl,O9.canSet (by simp) rfl,?_⟩
  rintro _ rfl
  have O10:=O9.set 0 (.slice none 0 0)
  have E10:=E9.set_ne (a:=⟨N+1,0,none⟩) (v:=.slice none 0 0) (by show N+1+1≠N+1; omega)
  have M10:Vcg.Mod NoB w _:=mod_of M09 (Mod.setCell w8.drew ⟨N+1,0,none⟩ (.slice none 0 0)) (by show w.heap.size≤N+1; omega)
  refine ⟨E10.rd1 rfl,E10.canSet (by simp) rfl,?_⟩
  rintro _ rfl
  have E11:=E10.set 0 (.int .i64 162)
  have O11:=O10.set_ne (a:=⟨N+1+1,0,none⟩) (v:=.int .i64 162) (by show N+1≠N+1+1; omega)
  refine ⟨_,_,_,O11.rd1 rfl,_,E11.rd1 rfl,hR _ _ ⟨mod_of M10 (Mod.setCell _ ⟨N+1+1,0,none⟩ (.int .i64 162)) (by show w.heap.size≤N+1+1; omega),?_⟩⟩
  unfold proveR
  rw [if_pos hl]
  exact ⟨by decide,rfl⟩
 ·obtain ⟨rfl,hl,rfl,m,rfl,hSM⟩:=hcase.resolve_left (fun h=>by rw [h.1] at h0; exact absurd h0 (by decide))
  refine ⟨fun hk=>?_,fun hk=>?_⟩
  ·refine ⟨O8.blk.canSet (by simp) rfl,?_⟩
   rintro _ rfl
   have O10:=O8.blk.set 0 (.slice none 0 0)
   have E10:=E8.set_ne (a:=⟨N+1,0,none⟩) (v:=.slice none 0 0) (by show N+1+1≠N+1; omega)
   have M10:Vcg.Mod NoB w _:=mod_of M08 (Mod.setCell w8 ⟨N+1,0,none⟩ (.slice none 0 0)) (by show w.heap.size≤N+1; omega)
   refine ⟨E10.canSet (by simp) rfl,?_⟩
   rintro _ rfl
   have E11:=E10.set 0 (.int .i64 140)
   have O11:=O10.set_ne (a:=⟨N+1+1,0,none⟩) (v:=.int .i64 140) (by show N+1≠N+1+1; omega)
   refine ⟨_,_,_,O11.rd1 rfl,_,E11.rd1 rfl,hR _ _ ⟨mod_of M10 (Mod.setCell _ ⟨N+1+1,0,none⟩ (.int .i64 140)) (by show w.heap.size≤N+1+1; omega),?_⟩⟩
   unfold proveR
   rw [if_neg (by omega),if_pos (by omega)]
   exact ⟨by decide,rfl⟩
  ·refine ⟨_,X8.rowAll (size_hashA _),?_⟩
   have hI:PInv l D (N+1) m w8 lab5 []:=⟨D8,hSM.stp s48 (by decide) (by decide),none,0,0,O8,LsOwn.nil _ _ _ _⟩
   refine (way_calls (askP (dS:=D) (dO:=N+1) (m:=m) hb) hI (by simp) hroot (hkey.mod' M08) (by omega)).mono ?_
   rintro e w9 ⟨lab9,s89,I9,hw⟩
   have hpr:proveR l root key=(match way (pStep l) [] (rootIt root) (nibbles key) with
    | (out,.ok _)=>.ok out
    | (_,.error e)=>.error e):=by
    unfold proveR; rw [if_neg (by omega),if_neg (by omega)]
   have E9:=E8c.stp s89 (by decide)
   obtain ⟨_,_,o9,n9,k9,O9,L9⟩:=I9
   have M89:Vcg.Mod (fun b=>N≤b) w8 w9:=s89.mod (fun q hq hs=>hlab5 q hs)
   have M09:Vcg.Mod NoB w w9:=M08.trans M89 (fun i hi h=>by omega)
   generalize way (pStep l) [] (rootIt root) (nibbles key)=res at hw hpr L9
   obtain ⟨out,r⟩:=res
   cases r with
   | error er =>
     obtain ⟨rfl,hne⟩:=hw
     refine .inl ⟨_,rfl,leave_fault hne (by omega) E9.blk O9.blk (fun w10 E10 O10 M10=>?_)⟩
     refine ⟨_,_,_,O10.rd1 rfl,_,E10.rd1 rfl,hR _ _ ⟨M09.trans M10 (fun i hi h=>by omega),?_⟩⟩
     rw [hpr]
     exact ⟨hne,rfl⟩
   | ok v =>
     obtain ⟨ov,kv,rfl,hv⟩:=hw
     refine .inr ⟨_,_,_,_,rfl,_,_,_,O9.blk.rd1 rfl,O9.blk.canSet (by simp) rfl,?_⟩
     rintro _ rfl
     have O10:=O9.set 0 (.slice o9 n9 k9)
     have s910:Stp (·=7) w9 lab9 _ lab9:=Stp.setCell (a:=⟨N+1,0,none⟩) (v:=.slice o9 n9 k9) O9.clr
     have L10:=L9.stp s910 (by decide) (by decide)
     have E10:=E9.stp s910 (by decide)
     have M10:Vcg.Mod NoB w _:=mod_of M09 (Mod.setCell w9 ⟨N+1,0,none⟩ (.slice o9 n9 k9)) (by show w.heap.size≤N+1; omega)
     refine ⟨E10.blk.canSet (by simp) rfl,?_⟩
     rintro _ rfl
     have E11:=E10.set 0 (.int .i64 0)
     have s1011:Stp (·=1) (w9.setCell ⟨N+1,0,none⟩ (.slice o9 n9 k9)) lab9 _ lab9:=Stp.setCell (a:=⟨N+1+1,0,none⟩) (v:=.int .i64 0) E10.clr
     have L11:=L10.stp s1011 (by decide) (by decide)
     have O11:=O10.stp s1011 (by decide)
     refine leave_well E11.blk ⟨_,_,_,O11.blk.rd1 rfl,_,E11.blk.rd1 rfl,hR _ _ ⟨mod_of M10 (Mod.setCell _ ⟨N+1+1,0,none⟩ (.int .i64 0)) (by show w.heap.size≤N+1+1; omega),?_⟩⟩
     rw [hpr]
     exact ⟨o9,n9,k9,rfl,lab9,8,9,L11⟩
end Go.Proofs.YtfghidehlnfdiaaGreat
end
section
namespace Go.Proofs.YtfghidehlnfdiaaGreat
open Go Go.Vcg Go.Trie
theorem Good.dec {xs:List It} {j:Nat} (hg:Good (.l xs)) (hj:j < xs.length) {b:By} (h:xs[j]=.s b):b.length≤2 ^ 20:=by
 obtain ⟨g,_,hf⟩:=hg.node
 have hm:=hf.mem (List.getElem_mem hj)
 rw [h] at hm
 have:b.length≤(enc (.s b)).length:=by
  simp only [enc]
  split
  ·exact Nat.le_refl _
  ·rw [List.length_append]; omega
 have:=hm.2.2
 omega
def DownIs (A:Nat→Prop) (w:World) (t:By×By×By) (e:Ending):Prop :=
 ∃ov kv orr kr on kn,e=.returned (.tuple #[.slice ov t.1.length kv,.slice orr t.2.1.length kr,.agg #[.bool false,.slice on t.2.2.length kn,.slice none 0 0]])∧RdA A w ov t.1∧RdA A w orr t.2.1∧t.2.1.length≤kr∧RdA A w on t.2.2
theorem Down_calls {w:World} {A:Nat→Prop} {x0:It} {path0:By} {v1 v2 v3:Value} {op:Option Addr} {kp:Nat} (hg0:Good x0) (hx0:ItC A w x0 v1 v2 v3) (hr0:RdA A w op path0) (hk0:path0.length≤kp) (hn0:∀n∈path0,n.toNat < 16) (hl0:path0.length≤128) :
 Calls Tryz.prog moraineref14_Down.n #[.agg #[v1,v2,v3],.slice op path0.length kp] w (fun e w'=>Vcg.Mod NoB w w'∧DownIs A w (downR (path0.length+1) x0 path0) e):=by
 obtain ⟨b,q1,l1,c1,q2,l2,c2,rfl,rfl,rfl⟩:=hx0.vals
 refine calls_gen fun R hR=>moraineref14_Down.vc _ _ _ _ _ _ _ _ _ _ _ _ ?_
 unfold moraineref14_Down.Vc
 rintro d4 w1 ⟨rfl,rfl⟩
 have M1:=Mod.alloc (S:=NoB) w (.cells #[.bool b,.slice q1 l1 c1,.slice q2 l2 c2] 111)
 have X1:=Blk.new w 111 #[.bool b,.slice q1 l1 c1,.slice q2 l2 c2]
 have z1:=size_alloc w (.cells #[.bool b,.slice q1 l1 c1,.slice q2 l2 c2] 111)
 generalize hD:w.heap.size=D at *
 generalize w.alloc (.cells #[.bool b,.slice q1 l1 c1,.slice q2 l2 c2] 111)=w1 at *
 rintro d6 w2 ⟨rfl,rfl⟩
 have M12:=Mod.alloc (S:=NoB) w1 (.cells #[.bool false,.slice none 0 0,.slice none 0 0] 111)
 have E2:=Blk.new w1 111 #[.bool false,.slice none 0 0,.slice none 0 0]
 have X2:=X1.mod' M12
 have M2:=M1.none_trans M12
 generalize hE:w1.heap.size=E at *
 generalize w1.alloc (.cells #[.bool false,.slice none 0 0,.slice none 0 0] 111)=w2 at *
 have hDE:D≠E:=by omega
 refine ⟨fun o l c w'=>∃(f:Nat) (x:It) (path:By) (u1 u2 u3:Value),l=path.length∧path.length≤c∧RdA A w o path∧(∀n∈path,n.toNat < 16)∧path.length≤128∧Good x∧path.length < f∧downR f x path=downR (path0.length+1) x0 path0∧ItC A w x u1 u2 u3∧Blk w' D 111 #[u1,u2,u3]∧Blk w' E 111 #[.bool false,.slice none 0 0,.slice none 0 0]∧Vcg.Mod NoB w w',
  fun _ l _ _=>l,⟨path0.length+1,x0,path0,_,_,_,rfl,hk0,hr0,hn0,hl0,hg0,Nat.lt_succ_self _,rfl,hx0,X2,E2,M2⟩,?_⟩
 clear X2 E2 M2 M12 X1 M1 hx0 hr0
 rintro o l c _ w3 ⟨f,x,path,u1,u2,u3,rfl,hkp,hr,hn,hl,hg,hf,heq,hx,X3,E3,M3⟩
 obtain ⟨f,rfl⟩:∃g,f=g+1:=⟨f - 1,by omega⟩
 obtain ⟨bb,p1,m1,k1,p2,m2,k2,rfl,rfl,rfl⟩:=hx.vals
 have stop:∀(w4:World) (ov:Option Addr) (kv:Nat) (v:By),downR (f+1) x path=(v,[],[])→RdA A w ov v→Blk w4 E 111 #[.bool false,.slice none 0 0,.slice none 0 0]→Vcg.Mod NoB w w4 →
  CanSet w4 ⟨E,0,none⟩ (.bool false)∧∀w40:World,IsSet w4 ⟨E,0,none⟩ (.bool false) w40→CanSet w40 (Addr.add ⟨E,0,none⟩ 1) (.slice none 0 0)∧∀w41:World,IsSet w40 (Addr.add ⟨E,0,none⟩ 1) (.slice none 0 0) w41→CanSet w41 (Addr.add ⟨E,0,none⟩ 2) (.slice none 0 0)∧∀w42:World,IsSet w41 (Addr.add ⟨E,0,none⟩ 2) (.slice none 0 0) w42 →
  ∃b43:Bool,∃o44:Option Addr,∃l45:Nat,∃l46:Nat,∃o47:Option Addr,∃l48:Nat,∃l49:Nat,World.cell? w42 ⟨E,0,none⟩=some (.bool b43)∧World.cell? w42 (Addr.add ⟨E,0,none⟩ 1)=some (.slice o44 l45 l46)∧World.cell? w42 (Addr.add ⟨E,0,none⟩ 2)=some (.slice o47 l48 l49) ∧
   R (.returned (.tuple #[.slice ov v.length kv,.slice none 0 0,.agg #[.bool b43,.slice o44 l45 l46,.slice o47 l48 l49]])) w42:=by
  intro w4 ov kv v hd hrv E4 M4
  rw [heq] at hd
  refine ret_3 (b1:=false) (o:=none) (l:=0) (k:=0) (o2:=none) (l2:=0) (k2:=0) (R':=fun b43 o44 l45 l46 o47 l48 l49 w42=>R (.returned (.tuple #[.slice ov v.length kv,.slice none 0 0,.agg #[.bool b43,.slice o44 l45 l46,.slice o47 l48 l49]])) w42) E4 (fun w5 Q5=>hR _ _ ⟨mod_of M4 Q5 (by omega),?_⟩)
  rw [hd]
  exact ⟨ov,kv,none,0,none,0,rfl,hrv,RdA.nil _ _ _,Nat.zero_le _,RdA.nil _ _ _⟩
 refine ⟨bb,X3.rd1 rfl,fun hb=>?_,fun hb=>?_⟩
 ·cases x with
  | s b=>simp only [ItC] at hx; cases hx.1; cases hb
  | l xs =>
    have hx':=hx
    simp only [ItC] at hx'
    obtain ⟨h1,h2,oi,ci,h3,h4,hcap⟩:=hx'
    cases h1; cases h2; cases h3
    have c2:World.cell? w3 (Addr.add ⟨D,0,none⟩ 2)=some (.slice p2 xs.length k2):=by rw [add_at]; exact X3.rd1 rfl
    refine ⟨_,_,_,c2,fun h2=>?_,fun h2=>?_⟩
    ·have h2':xs.length=2:=by omega
     obtain ⟨pp,lf,he,hl1,hl2⟩:=hg.two h2'
     obtain ⟨g,f0,a1,a2,a3,rfl,hgs,e1,e2,e3,hi⟩:=(ItsC.mod M3 _ h4).get 0 (by omega)
     have h0e:xs.getD 0 (.s [])=xs[0]:=getD_at (by omega)
     have h1e:xs.getD 1 (.s [])=xs[1]:=getD_at (by omega)
     cases hq:xs[0] with
     | l ys=>rw [h0e,hq] at he; simp [headIs] at he
     | s bs =>
       have hbl:=hg.dec (by omega) hq
       rw [hq] at hi
       simp only [ItC] at hi
       obtain ⟨rfl,⟨ox,cx,rfl,hrx,_⟩,rfl⟩:=hi
       refine ⟨_,_,_,c2,_,rfl,⟨by decide,by omega⟩,_,_,_,by rw [add_at,add_at]; exact e2,?_⟩
       refine (rUnpack_calls hrx hbl).mono ?_
       rintro _ w4 ⟨o',k',rfl,M4,R4,_⟩
       have M04:=M3.none_trans M4
       have X4:=X3.mod' M4
       have E4:=E3.mod' M4
       have he':=he
       rw [h0e,hq] at he'
       simp only [headIs] at he'
       have eu:upk bs=(pp,lf,0):=by unfold upk; rw [he']
       rw [eu] at R4 ⊢
       obtain ⟨g',f0',t1,t2,t3,ho,hg',d1,d2,d3,hi'⟩:=(ItsC.mod M04 _ h4).get 1 (by omega)
       cases ho
       have c2':World.cell? w4 (Addr.add ⟨D,0,none⟩ 2)=some (.slice (some ⟨g,f0,none⟩) xs.length k2):=by rw [add_at]; exact X4.rd1 rfl
       refine ⟨_,_,_,_,_,rfl,fun hlf=>?_,fun hlf=>?_⟩
       ·dsimp only at hlf; subst hlf
        obtain ⟨vs,hv1,hvn⟩:=hl1 rfl
        rw [h1e] at hv1
        rw [hv1] at hi'
        simp only [ItC] at hi'
        obtain ⟨rfl,⟨oy,cy,rfl,hry,hay⟩,rfl⟩:=hi'
        have hry0:RdA A w oy vs:=by
         obtain ⟨g9,f9,s1,s2,s3,ho9,hg9,d19,d29,d39,hi0⟩:=h4.get 1 (by omega)
         cases ho9
         rw [hv1] at hi0
         simp only [ItC] at hi0
         obtain ⟨rfl,⟨oz,cz,rfl,hrz,haz⟩,rfl⟩:=hi0
         have h5:w4.cell? ⟨g,f0+(0+1 * 3)+1,none⟩=w.cell? ⟨g,f0+(0+1 * 3)+1,none⟩:=cell_mod M04 hg9 (fun h=>h)
         have hd2:w4.cell? ⟨g,f0+(0+1 * 3)+1,none⟩=some (.slice oy vs.length cy):=d2
         have hd29:w.cell? ⟨g,f0+(0+1 * 3)+1,none⟩=some (.slice oz vs.length cz):=d29
         rw [hd2,hd29] at h5
         cases h5
         exact ⟨hrz,haz⟩
        refine ⟨_,toStr R4,_,rfl,_,toStr (hr.1.mod' M04),_,rfl,fun hs=>?_,fun hs=>?_⟩
        ·rw [strB_strOf,decide_eq_true_eq] at hs
         refine ⟨_,_,_,c2',_,rfl,⟨by decide,by omega⟩,_,_,_,by rw [add_at,add_at]; exact d2,?_⟩
         exact stop w4 oy cy vs (by rw [downR_leaf h2' he,if_pos hs,h1e,hv1]; rfl) hry0 E4 M04
        ·rw [strB_strOf,decide_eq_false_iff_not] at hs
         exact stop w4 none 0 [] (by rw [downR_leaf h2' he,if_neg hs]) (RdA.nil _ _ _) E4 M04
       ·dsimp only at hlf; subst hlf
        obtain ⟨hpn,hgy,_⟩:=hl2 rfl
        rintro _ rfl
        have M5:=M04.step_drew
        have X5:=X4.drew
        have E5:=E4.drew
        have R5:RdB w4.drew o' pp:=R4
        have d1':w4.drew.cell? ⟨g,f0+(0+1 * 3),none⟩=some t1:=d1
        have d2':w4.drew.cell? ⟨g,f0+(0+1 * 3)+1,none⟩=some t2:=d2
        have d3':w4.drew.cell? ⟨g,f0+(0+1 * 3)+2,none⟩=some t3:=d3
        generalize w4.drew=w5 at *
        dsimp only
        refine ⟨fun hlt=>?_,fun hge=>?_⟩
        ·exact stop w5 none 0 [] (by
          rw [downR_row h2' he,if_neg]
          intro hpre
          have:=(List.isPrefixOf_iff_prefix.1 hpre).length_le
          omega) (RdA.nil _ _ _) E5 M5
        ·have hle:pp.length≤path.length:=by omega
         have htk:(path.take pp.length).length=pp.length:=by rw [List.length_take]; omega
         have hstr:=toStr (k:=c) ((hr.1.mod' M5).take pp.length)
         rw [htk] at hstr
         refine ⟨⟨by omega,by omega⟩,_,by rw [Int.toNat_natCast]; exact hstr,_,rfl,_,toStr R5,_,rfl,fun hs=>?_,fun hs=>?_⟩
         ·rw [strB_neq,decide_eq_true_eq] at hs
          exact stop w5 none 0 [] (by
           rw [downR_row h2' he,if_neg]
           intro hpre
           exact hs (List.prefix_iff_eq_take.1 (List.isPrefixOf_iff_prefix.1 hpre)).symm) (RdA.nil _ _ _) E5 M5
         ·rw [strB_neq,decide_eq_false_iff_not,ne_eq,Decidable.not_not] at hs
          have hpre:pp.isPrefixOf path=true:=List.isPrefixOf_iff_prefix.2 (List.prefix_iff_eq_take.2 hs.symm)
          have c5:World.cell? w5 (Addr.add ⟨D,0,none⟩ 2)=some (.slice (some ⟨g,f0,none⟩) xs.length k2):=by rw [add_at]; exact X5.rd1 rfl
          obtain ⟨_,_,_,_,_,_,_,rfl,rfl,rfl⟩:=hi'.vals
          refine ⟨⟨by omega,by omega⟩,_,_,_,c5,_,rfl,⟨by decide,by omega⟩,_,_,_,_,_,_,_,by rw [add_at]; exact d1',by rw [add_at,add_at]; exact d2',by rw [add_at,add_at]; exact d3',?_⟩
          refine set3 X5 rfl rfl rfl (fun w6 X6 Q6=>?_)
          have hppos:0 < pp.length:=List.length_pos_iff.2 hpn
          have hdl:(path.drop pp.length).length=path.length - pp.length:=List.length_drop
          obtain ⟨g9,f9,s1,s2,s3,ho9,hg9,d19,d29,d39,hi0⟩:=h4.get 1 (by omega)
          cases ho9
          have ev:∀{i:Nat} {a b:Value},w5.cell? ⟨g,f0+i,none⟩=some a→w.cell? ⟨g,f0+i,none⟩=some b→a=b:=fun {i a b} ha hb=>by
           rw [cell_mod M5 (by omega) (fun h=>h),hb] at ha
           exact (Option.some.inj ha).symm
          obtain rfl:=ev (i:=0+1 * 3) d1' d19
          obtain rfl:=ev (i:=0+1 * 3+1) d2' d29
          obtain rfl:=ev (i:=0+1 * 3+2) d3' d39
          rw [Int.toNat_natCast]
          refine ⟨⟨f,xs[1],path.drop pp.length,_,_,_,hdl.symm,by omega,?_,fun n hnq=>hn n ((List.drop_suffix _ _).subset hnq),by omega,by rw [← h1e]; exact hgy,by omega,?_,hi0,X6,E5.mod Q6 (by omega),mod_of M5 Q6 (by omega)⟩,by omega⟩
          ·have:=hr.sub (lo:=pp.length) (n:=path.length - pp.length) hkp
           rwa [← hdl,List.take_length] at this
          ·rw [← heq,downR_row h2' he,if_pos hpre,h1e]
    ·obtain ⟨h17,⟨v16,hv16⟩,hkids⟩:=hg.many (by omega)
     refine ⟨fun hl0=>?_,fun hl0=>?_⟩
     ·have hp0:path=[]:=List.eq_nil_of_length_eq_zero (by omega)
      obtain ⟨g,f0,a1,a2,a3,rfl,hgs,e1,e2',e3,hi⟩:=h4.get 16 (by omega)
      have e2:w3.cell? ⟨g,f0+(0+16 * 3)+1,none⟩=some a2:=by rw [cell_mod M3 hgs (fun h=>h)]; exact e2'
      have h16:=hv16
      rw [getD_at (by omega)] at h16
      rw [h16] at hi
      simp only [ItC] at hi
      obtain ⟨rfl,⟨ov,cv,rfl,hrv,hav⟩,rfl⟩:=hi
      refine ⟨_,_,_,c2,_,rfl,⟨by decide,by omega⟩,_,_,_,by rw [add_at,add_at]; exact e2,?_⟩
      exact stop w3 ov cv v16 (by rw [hp0,downR_end (by omega),hv16]; rfl) ⟨hrv,hav⟩ E3 M3
     ·cases path with
      | nil=>exact (hl0 rfl).elim
      | cons n r =>
        obtain ⟨d,hod,hcn⟩:=head_cell (hr.1.mod' M3)
        have hn16:=hn n (by simp)
        have hjl:n.toNat < xs.length:=by omega
        obtain ⟨g,f0,s1,s2,s3,rfl,hg9,d19,d29,d39,hi0⟩:=h4.get n.toNat hjl
        rw [Nat.zero_add] at d19 d29 d39
        have up:∀{i:Nat} {a:Value},w.cell? ⟨g,i,none⟩=some a→w3.cell? ⟨g,i,none⟩=some a:=fun h=>by rw [cell_mod M3 hg9 (fun h=>h)]; exact h
        obtain ⟨_,_,_,_,_,_,_,rfl,rfl,rfl⟩:=hi0.vals
        refine ⟨d,hod,⟨by decide,by simp⟩,_,hcn,by simp,_,_,_,c2,_,rfl,⟨by omega,by omega⟩,_,_,_,_,_,_,_,by rw [add_at,Int.toNat_natCast]; exact up d19,by rw [add_at,add_at,Int.toNat_natCast]; exact up d29,by rw [add_at,add_at,Int.toNat_natCast]; exact up d39,?_⟩
        refine set3 X3 rfl rfl rfl (fun w6 X6 Q6=>?_)
        simp only [List.length_cons] at hkp hl hf ⊢
        refine ⟨⟨f,xs[n.toNat],r,_,_,_,by omega,by omega,?_,fun q hq=>hn q (by simp [hq]),by omega,?_,by omega,?_,hi0,X6,E3.mod Q6 (by omega),mod_of M3 Q6 (by omega)⟩,by omega⟩
        ·have:=hr.sub (c:=c) (lo:=1) (n:=r.length) hkp
         simpa using this
        ·have:=hkids n.toNat hn16
         rwa [getD_at hjl] at this
        ·rw [← heq,downR_kid (by omega),getD_at hjl]
 ·cases x with
  | l xs=>simp only [ItC] at hx; cases hx.1; cases hb
  | s b =>
    simp only [ItC] at hx
    obtain ⟨h1,⟨ob,cb,h2,hrb,hab⟩,h3⟩:=hx
    cases h1; cases h2; cases h3
    rintro _ rfl
    refine get3 X3.drew ?_
    have M4:=M3.step_drew
    refine ret_3 E3.drew (fun w5 Q5=>hR _ _ ⟨mod_of M4 Q5 (by omega),?_⟩)
    rw [← heq]
    exact ⟨none,0,o,c,p1,k1,rfl,RdA.nil _ _ _,hr,hkp,hrb,hab⟩
end Go.Proofs.YtfghidehlnfdiaaGreat
end
section
namespace Go.Proofs.YtfghidehlnfdiaaGreat
open Go Go.Vcg Go.Trie
theorem copy_hash {Z:Array Value} {b:By} (hZ:Z.size=32) (hb:b.length=32):setsAt Z 0 ((b.take 32).map bV)=hashA b:=by
 have ht:b.take 32=b:=List.take_of_length_le (by omega)
 rw [ht]
 apply Array.ext_getElem?
 intro i
 rw [get_setsAt _ _ _ _ (by simp [hb,hZ])]
 by_cases hi:i < 32
 ·rw [if_pos ⟨Nat.zero_le _,by simp [hb]; exact hi⟩,Nat.sub_zero]
  simp only [hashA]
  rw [get_arrOf_lt hi]
  simp [List.getD_eq_getElem?_getD,hb,hi]
 ·rw [if_neg (by simp [hb]; omega),Array.getElem?_eq_none (by omega),Array.getElem?_eq_none (by rw [size_hashA]; omega)]
section
variable {w:World} {lab:Nat→Nat} {c:Nat}
theorem find_calls {o:Option Addr} {k:Nat} {l:List (By×By)} {h:By} (hN:NdRow w lab c l o l.length) (hh:h.length=32) (hlen:l.length≤2 ^ 40) :
 Calls Tryz.prog moraineref14_find.n #[.slice o l.length k,.agg (hashA h)] w (fun e w'=>Vcg.Mod NoB w w'∧(findN l h=none→e=.returned (.tuple #[.slice none 0 0,.bool false])) ∧
  (∀b,findN l h=some b→∃ob kb,e=.returned (.tuple #[.slice ob b.length kb,.bool true])∧CBy w lab c ob b∧b.length≤kb)):=by
 refine calls_gen fun R hR=>moraineref14_find.vc _ _ _ _ _ _ ?_
 unfold moraineref14_find.Vc
 obtain ⟨_,vs,hCR,hNC⟩:=hN
 rintro d2 w1 ⟨rfl,rfl⟩
 have M1:=Mod.alloc (S:=NoB) w (.cells (hashA h) 27)
 have X1:=Blk.new w 27 (hashA h)
 generalize w.heap.size=D at *
 generalize w.alloc (.cells (hashA h) 27)=w1 at *
 refine ⟨fun i w'=>∃j:Nat,i=(j:Int)∧j≤l.length∧Vcg.Mod NoB w w'∧Blk w' D 27 (hashA h)∧findN l h=findN (l.drop j) h,fun i _=>((l.length:Int) - i).toNat,⟨0,rfl,Nat.zero_le _,M1,X1,by simp⟩,?_⟩
 rintro _ _ w2 ⟨j,rfl,hj,M2,X2,hf⟩
 refine ⟨fun hlt=>?_,fun hge=>?_⟩
 ·have hjl:j < l.length:=by omega
  rintro _ rfl
  have M3:=M2.step_drew
  have X3:=X2.drew
  generalize w2.drew=w3 at *
  obtain ⟨g,f,ob,kb,rfl,hrow,hby,hkb,h32⟩:=nd_row hNC hCR hjl
  have hgl:g < w.heap.size:=by
   obtain ⟨g',f',ho',hg',_,_⟩:=hCR _ _ ((hNC.2 j hjl).2.1 0 (by omega))
   cases ho'; exact hg'
  have cell:∀i,i < 33→w3.cell? ⟨g,f+j * 33+i,none⟩=(ndA l[j].1 ob l[j].2.length kb)[i]?:=fun i hi=>by
   rw [cell_mod M3 hgl (fun h=>h),← hrow.2 i hi,add_at]
  have hrow3:RowAt w3 (Addr.add ⟨g,f,none⟩ (Int.toNat (j:Int) * 33)) 32 (hashA l[j].1):=⟨size_hashA _,fun i hi=>by
   rw [Int.toNat_natCast,add_at,add_at,cell i (by omega),ndA_lo hi]
   exact (get_arrOf_lt (f:=fun i=>bV (l[j].1.getD i 0)) hi).symm⟩
  have hd:l.drop j=l[j] :: l.drop (j+1):=List.drop_eq_getElem_cons hjl
  refine ⟨_,rfl,⟨by omega,by omega⟩,_,hrow3,_,X3.rowAll (size_hashA _),_,hash_eq _ _ h32 hh,_,rfl,fun hb=>?_,fun hb=>?_⟩
  ·rw [decide_eq_true_eq] at hb
   refine ⟨_,rfl,⟨by omega,by omega⟩,ob,_,kb,by rw [Int.toNat_natCast,add_at,add_at,cell 32 (by omega),ndA_hi],hR _ _ ⟨M3,fun hn=>?_,fun b hb'=>?_⟩⟩
   ·rw [hf,hd,findN,if_pos hb] at hn; cases hn
   ·rw [hf,hd,findN,if_pos hb] at hb'
    cases hb'
    exact ⟨ob,kb,rfl,hby,hkb⟩
  ·rw [decide_eq_false_iff_not] at hb
   refine ⟨⟨j+1,by rw [wrap_i64_small (by omega) (by omega)]; omega,hjl,M3,X3,?_⟩,by dsimp only; rw [wrap_i64_small (by omega) (by omega)]; omega⟩
   rw [hf,hd,findN,if_neg hb]
 ·obtain rfl:j=l.length:=by omega
  rw [List.drop_length] at hf
  exact hR _ _ ⟨M2,fun _=>rfl,fun b hb=>by rw [hf] at hb; cases hb⟩
end
def GetIs (l:List (By×By)) (root key:By) (w:World) (e:Ending) (w':World):Prop :=
 Vcg.Mod NoB w w'∧if key.length > 64 then e=.returned (.tuple #[.slice none 0 0,.bool false,.slice none 0 0,.int .i64 140]) else
  match way (pStep l) [] (rootIt root) (nibbles key) with
  | (out,.ok v)=>∃ov kv o n k,e=.returned (.tuple #[.slice ov v.length kv,.bool (decide (v≠[])),.slice o n k,.int .i64 0])∧∃lab' c cb,LsOwn w' lab' c cb out o n k
  | (out,.error er)=>∃o n k m,e=.returned (.tuple #[.slice none 0 0,.bool false,.slice o n k,.int .i64 m])∧((er=160∧m=142)∨(er=161∧m=143))
theorem rGet_calls {w:World} {lab:Nat→Nat} {c:Nat} {l:List (By×By)} {o ok:Option Addr} {k kk:Nat} {root key:By} (h:NdRow w lab c l o l.length) (hlen:l.length≤2 ^ 40) (hroot:root.length=32) (hkey:RdB w ok key) :
 Calls Tryz.prog moraineref14_Get.n #[.slice o l.length k,.agg (hashA root),.slice ok key.length kk] w (GetIs l root key w):=by
 refine calls_gen fun R hR=>moraineref14_Get.vc _ _ _ _ _ _ _ _ _ ?_
 unfold moraineref14_Get.Vc
 rintro d3 w1 ⟨rfl,rfl⟩
 have M1:=Mod.alloc (S:=NoB) w (.cells (hashA root) 27)
 have X1:=Blk.new w 27 (hashA root)
 generalize w.heap.size=D at *
 generalize w.alloc (.cells (hashA root) 27)=w1 at *
 refine ⟨fun hk=>hR _ _ ⟨M1,by rw [if_pos (by omega)]⟩,fun hk=>?_⟩
 have hk64:¬key.length > 64:=by omega
 unfold GetIs at hR
 simp only [if_neg hk64] at hR
 rintro _ rfl
 have X2:=X1.drew
 have M2:=M1.step_drew
 refine ⟨_,X2.rowAll (size_hashA _),?_⟩
 refine (rEmpty_calls w1.drew).mono ?_
 rintro _ w3 ⟨rfl,M3⟩
 have X3:=X2.mod' M3
 have M03:=M2.none_trans M3
 clear X2 M2 M3 X1 M1
 refine ⟨_,rfl,X3.rowAll (size_hashA _),_,hash_eq _ _ hroot (by unfold emptyH; exact length_sumOf _),_,rfl,fun he=>?_,fun he=>?_⟩
 ·rw [decide_eq_true_eq] at he
  have hw:way (pStep l) [] (rootIt root) (nibbles key)=([],.ok []):=by unfold rootIt; rw [if_pos he,way_nil]
  rw [hw] at hR
  exact hR _ _ ⟨M03,none,0,none,0,0,rfl,fun _=>0,0,0,LsOwn.nil _ _ _ _⟩
 ·rw [decide_eq_false_iff_not] at he
  have hrt:rootIt root=.s root:=by unfold rootIt; rw [if_neg he]
  refine (rNibbles_calls (hkey.mod' M03) (by omega)).mono ?_
  rintro _ w4 ⟨op,kp,rfl,F4⟩
  have X4:=X3.mod' F4.mod
  have M04:=M03.none_trans F4.mod
  refine ⟨_,_,_,rfl,_,X4.rowAll (size_hashA _),?_⟩
  have hnl:=nibbles_len key
  have hpc:=F4.own.cap.1
  rintro d18 w5 ⟨rfl,rfl⟩
  have M5:=Mod.alloc (S:=NoB) w4 (.cells (Array.replicate 32 (.int .u8 0)) 27)
  have H5:=Blk.new w4 27 (Array.replicate 32 (.int .u8 0))
  obtain ⟨hst,H6,Q6⟩:=hash_store H5 (by simp) root
  refine ⟨_,hst,?_⟩
  have M46:Vcg.Mod NoB w4 _:=mod_of M5 Q6 (Nat.le_refl _)
  have hHlt:=H6.lt
  generalize hHe:w4.heap.size=H at *
  generalize ((w4.alloc (.cells (Array.replicate 32 (.int .u8 0)) 27)).setRow H (hashA root))=w6 at *
  have M06:=M04.none_trans M46
  have P6:=(F4.mod' M46)
  let lab6:Nat→Nat:=fun q=>if q < w.heap.size then 0 else if q=H then 5 else 6
  have hHw:w.heap.size≤H:=by rw [← hHe]; exact M04.size
  have s06:Stp NoS w (fun _=>0) w6 lab6:=⟨M06.os,M06.tape,M06.output,M06.size,fun q hq=>if_pos hq,fun q hq _=>M06.block q hq (fun h=>h)⟩
  have hN6:NdRow w6 lab6 0 l o l.length:=(NdRow.re (lab':=fun _=>0) (c':=0) h (fun _ _ _=>rfl)).stp s06 (fun h=>h)
  have hH6:CB w6 lab6 5 H tHash (hashA root):=⟨H6,by show (if H < w.heap.size then 0 else if H=H then 5 else 6)=5; rw [if_neg (by omega),if_pos rfl]⟩
  have hP6:RdA (fun b=>lab6 b≠6) w6 op (nibbles key):=⟨P6.own.bytes,fun _ d hd hh=>by
   have h1:=F4.new d.block ⟨d,hd,rfl⟩
   have h2:=F4.own.lt ⟨d,hd,rfl⟩
   have h3:=M03.size
   refine hh ?_
   show (if d.block < w.heap.size then 0 else if d.block=H then 5 else 6)=6
   rw [if_neg (by omega),if_neg (by omega)]⟩
  have hlab:∀q,lab6 q=5∨lab6 q=8→w.heap.size≤q:=fun q hq=>by
   refine Nat.le_of_not_lt fun hlt=>?_
   have h0:lab6 q=0:=if_pos hlt
   omega
  clear_value lab6
  refine ⟨fun o' n' k' op' l' kp' w'=>∃(L:Nat→Nat) (out:List By) (hh path:By),Stp (fun q=>q=5∨q=8) w6 lab6 w' L∧NdRow w' L 0 l o l.length∧CB w' L 5 H tHash (hashA hh)∧hh.length=32∧LsOwn w' L 8 0 out o' n' k'∧RdA (fun b=>L b≠6) w' op' path∧l'=path.length∧path.length≤kp'∧(∀n∈path,n.toNat < 16)∧out.length+path.length≤128∧path.length≤128 ∧
   way (pStep l) out (.s hh) path=way (pStep l) [] (rootIt root) (nibbles key),fun _ _ _ _ l' _ _=>l',⟨lab6,[],root,nibbles key,Stp.refl _ _ _,hN6,hH6,hroot,LsOwn.nil _ _ _ _,hP6,rfl,hpc,nib_lt key,by simp; omega,by omega,by rw [hrt]⟩,?_⟩
  clear hN6 hH6 hP6 P6 s06 hst H6 Q6 H5 M5 X4 F4 X3 hpc
  rintro o' _ k' op' _ kp' _ w7 ⟨L,out,hh,path,s67,hN7,hH7,hh32,hO7,hP7,rfl,hpk,hnib,hob,hpl,heq⟩
  obtain ⟨rfl,vs7,hvs⟩:=id hO7
  have modw:∀w' L',Stp (fun q=>q=5∨q=8) w6 lab6 w' L'→Vcg.Mod NoB w w':=fun w' L' s=>M06.trans (s.mod (Q:=fun q=>w.heap.size≤q) (fun q _ hs=>hlab q hs)) (fun i hi hs=>by omega)
  have hhn:hh≠[]:=by rintro rfl; cases hh32
  refine ⟨_,hH7.blk.rowAll (size_hashA _),?_⟩
  refine (find_calls hN7 hh32 hlen).mono ?_
  rintro e w8 ⟨M8,hnone,hsome⟩
  have s78:Stp NoS w7 L w8 (ext L w7.heap.size 6):=Stp.of_nob M8 6
  cases hf:findN l hh with
  | none =>
    have he:=hnone hf
    subst he
    refine ⟨_,_,_,_,rfl,fun _=>?_,fun h=>(by cases h)⟩
    have hst:pStep l out hh=(out,.error 160):=by unfold pStep; rw [hf]
    rw [way_bad hhn hst] at heq
    rw [← heq] at hR
    exact hR _ _ ⟨modw _ _ (s67.trans (s78.mono (fun _ h=>h.elim))),_,_,_,_,rfl,.inl ⟨rfl,rfl⟩⟩
  | some b =>
    obtain ⟨ob,kb,rfl,hby,hkb⟩:=hsome b hf
    have hst:pStep l out hh=(out++[b],.ok b):=by unfold pStep; rw [hf]
    have hby8:=hby.stp s78 (fun h=>h)
    have hN8:=hN7.stp s78 (fun h=>h)
    have hH8:=hH7.stp s78 (fun h=>h)
    have hO8:=hO7.stp s78 (fun h=>h) (fun h=>h)
    have hP8:RdA (fun b=>ext L w7.heap.size 6 b≠6) w8 op' path:=((hP7.mono (A':=fun b=>L b≠6∨w7.heap.size≤b) (fun b hb hh=>hh.resolve_right (by omega))).mod' M8).mono (fun b _ hh=>frz_lab s78 b hh)
    have s68:=s67.trans (s78.mono (T:=fun q=>q=5∨q=8) (fun _ h=>h.elim))
    generalize ext L w7.heap.size 6=L8 at *
    refine ⟨_,_,_,_,rfl,fun h=>(by cases h),fun _=>?_⟩
    refine (rCheck_calls hby8.rd hkb).mono ?_
    rintro _ w9 ⟨rfl,M9⟩
    have s89:Stp NoS w8 L8 w9 (ext L8 w8.heap.size 6):=Stp.of_nob M9 6
    have hby9:=hby8.stp s89 (fun h=>h)
    have hN9:=hN8.stp s89 (fun h=>h)
    have hH9:=hH8.stp s89 (fun h=>h)
    have hO9:=hO8.stp s89 (fun h=>h) (fun h=>h)
    have hP9:RdA (fun b=>ext L8 w8.heap.size 6 b≠6) w9 op' path:=((hP8.mono (A':=fun b=>L8 b≠6∨w8.heap.size≤b) (fun b hb hh=>hh.resolve_right (by omega))).mod' M9).mono (fun b _ hh=>frz_lab s89 b hh)
    have s69:=s68.trans (s89.mono (T:=fun q=>q=5∨q=8) (fun _ h=>h.elim))
    generalize ext L8 w8.heap.size 6=L9 at *
    refine ⟨_,rfl,fun hne=>?_,fun h0=>?_⟩
    ·rw [way_form hhn hst hne] at heq
     rw [← heq] at hR
     exact hR _ _ ⟨modw _ _ s69,_,_,_,_,rfl,.inr ⟨rfl,rfl⟩⟩
    ·obtain ⟨xs,hdc,hn,hg⟩:=check_node h0
     rintro d35 w10 ⟨rfl,rfl⟩
     have s910:Stp NoS w9 L9 (w9.alloc (.cells #[.slice ob b.length kb] 23)) (ext L9 w9.heap.size 6):=Stp.alloc NoS w9 L9 _ 6
     have N10:=Blk.new w9 23 #[.slice ob b.length kb]
     have M910:=Mod.alloc (S:=NoB) w9 (.cells #[.slice ob b.length kb] 23)
     have hby10:=hby9.stp s910 (fun h=>h)
     have hN10:=hN9.stp s910 (fun h=>h)
     have hH10:=hH9.stp s910 (fun h=>h)
     have hO10:=hO9.stp s910 (fun h=>h) (fun h=>h)
     have hP10:RdA (fun b=>ext L9 w9.heap.size 6 b≠6) _ op' path:=((hP9.mono (A':=fun b=>L9 b≠6∨w9.heap.size≤b) (fun b hb hh=>hh.resolve_right (by omega))).mod' M910).mono (fun b _ hh=>frz_lab s910 b hh)
     have s610:=s69.trans (s910.mono (T:=fun q=>q=5∨q=8) (fun _ h=>h.elim))
     generalize w9.heap.size=D10 at *
     generalize w9.alloc (.cells #[.slice ob b.length kb] 23)=w10 at *
     generalize ext L9 D10 6=L10 at *
     obtain ⟨o11,k11,w11,hr11,hO11,s1011⟩:=hO10.push (by decide) N10 hby10 hkb (by omega)
     have hby11:=hby10.stp s1011 (by decide)
     have hN11:=hN10.stp s1011 (by decide)
     have hH11:=hH10.stp s1011 (by decide)
     have hP11:RdA (fun b=>ext L10 w10.heap.size 8 b≠6) w11 op' path:=((hP10.mono (A':=fun b=>L10 b≠6∨w10.heap.size≤b) (fun b hb hh=>hh.resolve_right (by omega))).modA (frz s1011 (by decide)) (fun b hb=>.inl hb)).mono (fun b _ hh=>frz_lab s1011 b hh)
     have s611:=s610.trans (s1011.mono (T:=fun q=>q=5∨q=8) (fun _ h=>.inr h))
     generalize ext L10 w10.heap.size 8=L11 at *
     refine ⟨_,w11,hr11,_,_,_,rfl,?_⟩
     refine (rDecode_calls hby11.rd hkb).mono ?_
     rintro e w12 ⟨M12,hd⟩
     unfold DecodeIs at hd
     rw [hdc] at hd
     obtain ⟨v1,v2,v3,rfl,hx⟩:=hd
     obtain ⟨bb,p1,q1,r1,p2,q2,r2,rfl,rfl,rfl⟩:=hx.vals
     refine ⟨_,_,_,_,_,_,_,_,rfl,?_⟩
     rintro d52 w13 ⟨rfl,rfl⟩
     have B13:=Blk.new w12 111 #[.bool false,.slice none 0 0,.slice none 0 0]
     refine set3 B13 rfl rfl rfl (fun w14 B14 Q14=>?_)
     have M1214:Vcg.Mod NoB w12 w14:=mod_of (Mod.alloc w12 _) Q14 (Nat.le_refl _)
     have M1114:=M12.none_trans M1214
     refine get3 B14 ?_
     have s1114:Stp NoS w11 L11 w14 (ext L11 w11.heap.size 6):=Stp.of_nob M1114 6
     have hx14:ItC (fun b=>ext L11 w11.heap.size 6 b≠6) w14 (.l xs) (.bool bb) (.slice p1 q1 r1) (.slice p2 q2 r2):=ItC.restr (fun b _ hb=>Nat.lt_of_not_le fun hle=>hb (ext_new hle)) (ItC.mod M1214 _ hx)
     have hN14:=hN11.stp s1114 (fun h=>h)
     have hH14:=hH11.stp s1114 (fun h=>h)
     have hO14:=hO11.stp s1114 (fun h=>h) (fun h=>h)
     have hP14:RdA (fun b=>ext L11 w11.heap.size 6 b≠6) w14 op' path:=((hP11.mono (A':=fun b=>L11 b≠6∨w11.heap.size≤b) (fun b hb hh=>hh.resolve_right (by omega))).mod' M1114).mono (fun b _ hh=>frz_lab s1114 b hh)
     have s614:=s611.trans (s1114.mono (T:=fun q=>q=5∨q=8) (fun _ h=>h.elim))
     generalize ext L11 w11.heap.size 6=L14 at *
     refine (Down_calls hg hx14 hP14 hpk hnib hpl).mono ?_
     rintro e w15 ⟨M15,ov,kv,orr,kr,on,kn,rfl,hv,hrr,hkr,hnx⟩
     refine ⟨_,_,_,_,_,_,_,_,_,_,_,_,_,rfl,?_⟩
     have s1415:Stp NoS w14 L14 w15 (ext L14 w14.heap.size 6):=Stp.of_nob M15 6
     rintro d79 w16 ⟨rfl,rfl⟩
     have B16:=Blk.new w15 111 #[.bool false,.slice none 0 0,.slice none 0 0]
     refine set3 B16 rfl rfl rfl (fun w17 B17 Q17=>?_)
     have M1417:Vcg.Mod NoB w14 w17:=M15.none_trans (mod_of (Mod.alloc w15 _) Q17 (Nat.le_refl _))
     have s1417:Stp NoS w14 L14 w17 (ext L14 w14.heap.size 6):=Stp.of_nob M1417 6
     have hN17:=hN14.stp s1417 (fun h=>h)
     have hH17:=hH14.stp s1417 (fun h=>h)
     have hO17:=hO14.stp s1417 (fun h=>h) (fun h=>h)
     have keep:∀{o:Option Addr} {b:By},RdA (fun b=>L14 b≠6) w14 o b→RdA (fun b=>ext L14 w14.heap.size 6 b≠6) w17 o b:=fun h =>
      ((h.mono (A':=fun b=>L14 b≠6∨w14.heap.size≤b) (fun b hb hh=>hh.resolve_right (by omega))).mod' M1417).mono (fun b _ hh=>frz_lab s1417 b hh)
     have hv17:=keep hv
     have hrr17:=keep hrr
     have hnx17:=keep hnx
     have s617:=s614.trans (s1417.mono (T:=fun q=>q=5∨q=8) (fun _ h=>h.elim))
     have hwd:way (pStep l) out (.s hh) path=afterD (step:=pStep l) (out++[b]) (downR (path.length+1) (.l xs) path):=by
      rw [way_hash hhn hst h0 hdc hg hnib,← way_list hg hnib,down_way (path.length+1) _ _ _ (Nat.lt_succ_self _) hg hnib]
     rw [hwd] at heq
     have h32:=down_32 (path.length+1) _ _ hg hnib
     have hrest:=down_rest (path.length+1) _ _ hg hnib
     generalize ext L14 w14.heap.size 6=L17 at *
     generalize downR (path.length+1) (.l xs) path=t at *
     obtain ⟨tv,tr,tn⟩:=t
     dsimp only at hv17 hrr17 hnx17 h32 hrest hkr B17 ⊢
     refine ⟨_,B17.rd1 rfl,fun h=>(by cases h),fun _=>⟨_,_,_,by rw [add_at]; exact B17.rd1 rfl,fun hz=>?_,fun hnz=>?_⟩⟩
     ·have htn:tn=[]:=List.eq_nil_of_length_eq_zero (by omega)
      subst htn
      have hres:afterD (step:=pStep l) (out++[b]) (tv,tr,[])=(out++[b],.ok tv):=rfl
      rw [hres] at heq
      rw [← heq] at hR
      have hdv:decide (((tv.length:Nat):Int) > 0)=decide (tv≠[]):=by
       cases tv with
       | nil=>rfl
       | cons a r=>rw [decide_eq_true (by simp),decide_eq_true (by simp)]
      rw [hdv]
      exact hR _ _ ⟨modw _ _ s617,ov,kv,_,_,_,rfl,L17,8,0,hO17⟩
     ·have htn:tn≠[]:=by rintro rfl; exact hnz rfl
      have htl:tn.length=32:=h32.resolve_left htn
      obtain ⟨hrl,hrn⟩:=hrest htn
      rintro _ rfl
      have s1718:Stp NoS w17 L17 w17.drew L17:=Stp.drew _ _ _
      have B18:=B17.drew
      have hN18:=hN17.stp s1718 (fun h=>h)
      have hH18:=hH17.stp s1718 (fun h=>h)
      have hO18:=hO17.stp s1718 (fun h=>h) (fun h=>h)
      have hrr18:=hrr17.mod' (Mod.drew (S:=NoB) w17)
      have hnx18:=hnx17.mod' (Mod.drew (S:=NoB) w17)
      have s618:=s617.trans (s1718.mono (T:=fun q=>q=5∨q=8) (fun _ h=>h.elim))
      generalize w17.drew=w18 at *
      obtain ⟨w19,h19,H19,Q19⟩:=copy_blk (P:=Tryz.prog) (t:=23) (tx:=23) (ty:=3) (dLen:=32) (dCap:=32) (n:=32) (o:=0) (c:=kn) und_slU8 info_u8_size hH18.blk hnx18.1 (by rw [htl]; rfl) (by rw [size_hashA]; omega)
      rw [copy_hash (size_hashA _) htl] at H19
      refine ⟨_,_,_,by rw [add_at]; exact B18.rd1 rfl,_,w19,h19,_,rfl,?_⟩
      have s1819:Stp (·=5) w18 L17 w19 (ext L17 w18.heap.size 6):=Stp.of_mod Q19 6 (fun q _ e=>by rw [e]; exact hH18.clr)
      have hP19:RdA (fun b=>ext L17 w18.heap.size 6 b≠6) w19 orr tr:=((hrr18.mono (A':=fun b=>L17 b≠6∨w18.heap.size≤b) (fun b hb hh=>hh.resolve_right (by omega))).modA (frz s1819 (by decide)) (fun b hb=>.inl hb)).mono (fun b _ hh=>frz_lab s1819 b hh)
      have hafter:afterD (step:=pStep l) (out++[b]) (tv,tr,tn)=way (pStep l) (out++[b]) (.s tn) tr:=by
       cases tn with
       | nil=>exact (htn rfl).elim
       | cons a r=>rfl
      refine ⟨⟨_,out++[b],tn,tr,s618.trans (s1819.mono (fun _ h=>.inl h)),hN18.stp s1819 (by decide),⟨H19,by rw [ext_old hH18.blk.lt]; exact hH18.clr⟩,htl,hO18.stp s1819 (by decide) (by decide),hP19,rfl,hkr,hrn,by rw [List.length_append,List.length_singleton]; omega,by omega,by rw [← heq,hafter]⟩,by omega⟩
theorem proveR_way {l:List (By×By)} {root key:By} (h1:¬l.length > 4096) (h2:¬key.length > 64):proveR l root key=(match way (pStep l) [] (rootIt root) (nibbles key) with
 | (out,.ok _)=>.ok out
 | (_,.error e)=>.error e):=by
 unfold proveR
 exact (if_neg h1).trans (if_neg h2)
theorem rProve_calls {w:World} {lab:Nat→Nat} {c:Nat} {l:List (By×By)} {o ok:Option Addr} {k kk:Nat} {root key:By} (h:NdRow w lab c l o l.length) (hlen:l.length≤2 ^ 40) (hroot:root.length=32) (hkey:RdB w ok key) :
 Calls Tryz.prog moraineref16_Prove.n #[.slice o l.length k,.agg (hashA root),.slice ok key.length kk] w (ProveIs l root key w):=by
 refine calls_gen fun R hR=>moraineref16_Prove.vc _ _ _ _ _ _ _ _ _ ?_
 unfold moraineref16_Prove.Vc
 rintro d3 w1 ⟨rfl,rfl⟩
 have M1:=Mod.alloc (S:=NoB) w (.cells (hashA root) 27)
 have X1:=Blk.new w 27 (hashA root)
 have hN1:NdRow (w.alloc (.cells (hashA root) 27)) (ext lab w.heap.size c) c l o l.length:=h.stp (S:=NoS) (Stp.of_nob M1 c) (fun h=>h)
 generalize ext lab w.heap.size c=lab1 at *
 generalize w.heap.size=D at *
 generalize w.alloc (.cells (hashA root) 27)=w1 at *
 refine ⟨fun hbig=>hR _ _ ⟨M1,?_⟩,fun hbig=>?_⟩
 ·unfold proveR
  rw [if_pos (by omega)]
  exact ⟨by decide,rfl⟩
 ·refine ⟨_,X1.rowAll (size_hashA _),?_⟩
  refine (rGet_calls hN1 hlen hroot (hkey.mod' M1)).mono ?_
  rintro e w2 ⟨M2,hg⟩
  have M02:=M1.none_trans M2
  have hpr:∀r,proveR l root key=r→(∀e w',(Vcg.Mod NoB w w'∧match r with
   | .error er=>er≠0∧e=.returned (.tuple #[.slice none 0 0,.int .i64 er])
   | .ok out=>∃o n k,e=.returned (.tuple #[.slice o n k,.int .i64 0])∧∃lab' c cb,LsOwn w' lab' c cb out o n k)→R e w'):=fun r hr e w' hh=>hR e w' ⟨hh.1,by rw [hr]; exact hh.2⟩
  by_cases hk:key.length > 64
  ·rw [if_pos hk] at hg
   subst hg
   have hp:proveR l root key=.error 140:=by unfold proveR; rw [if_neg (by omega),if_pos hk]
   exact ⟨_,_,_,_,_,_,_,_,rfl,fun h=>absurd h (by decide),fun _=>⟨fun h=>absurd h (by decide),fun _=>⟨fun _=>hpr _ hp _ _ ⟨M02,by decide,rfl⟩,fun h=>absurd h (by decide)⟩⟩⟩
  ·rw [if_neg hk] at hg
   have hp:=proveR_way (root:=root) (l:=l) (key:=key) (by omega) hk
   generalize way (pStep l) [] (rootIt root) (nibbles key)=res at hg hp
   obtain ⟨out,r⟩:=res
   cases r with
   | ok v =>
     obtain ⟨ov,kv,o',n',k',rfl,hO⟩:=hg
     exact ⟨_,_,_,_,_,_,_,_,rfl,fun h=>absurd h (by decide),fun _=>⟨fun h=>absurd h (by decide),fun _=>⟨fun h=>(h rfl).elim,fun _=>hpr _ hp _ _ ⟨M02,o',n',k',rfl,hO⟩⟩⟩⟩
   | error er =>
     obtain ⟨o',n',k',m,rfl,hm⟩:=hg
     rcases hm with ⟨rfl,rfl⟩ | ⟨rfl,rfl⟩
     ·exact ⟨_,_,_,_,_,_,_,_,rfl,fun _=>hpr _ hp _ _ ⟨M02,by decide,rfl⟩,fun h=>(h rfl).elim⟩
     ·exact ⟨_,_,_,_,_,_,_,_,rfl,fun h=>absurd h (by decide),fun _=>⟨fun _=>hpr _ hp _ _ ⟨M02,by decide,rfl⟩,fun h=>(h rfl).elim⟩⟩
end Go.Proofs.YtfghidehlnfdiaaGreat
end
section
namespace Go.Proofs.YtfghidehlnfdiaaGreat
open Go Go.Vcg Go.Trie
def RdLs (w:World) (lab:Nat→Nat) (c:Nat) (ls:List By) (o:Option Addr):Prop :=
 ∀(j:Nat) (hj:j < ls.length),∃g f ob kb,o=some ⟨g,f,none⟩∧g < w.heap.size∧lab g=c∧w.cell? ⟨g,f+j,none⟩=some (.slice ob ls[j].length kb)∧CBy w lab c ob ls[j]∧ls[j].length≤kb
section
variable {w w':World} {lab lab':Nat→Nat} {c:Nat} {ls:List By} {o:Option Addr}
theorem RdLs.stp {S:Nat→Prop} (h:RdLs w lab c ls o) (s:Stp S w lab w' lab') (hs:¬S c):RdLs w' lab' c ls o:=fun j hj=>by
 obtain ⟨g,f,ob,kb,h1,h2,h3,h4,h5,h6⟩:=h j hj
 exact ⟨g,f,ob,kb,h1,Nat.lt_of_lt_of_le h2 s.size,(s.lab g h2).trans h3,(World.cell?_of_block (s.block g h2 (by rw [h3]; exact hs))).trans h4,h5.stp s hs,h6⟩
theorem RdLs.re {c':Nat} (h:RdLs w lab c ls o) (hl:∀k,k < w.heap.size→lab k=c→lab' k=c'):RdLs w lab' c' ls o:=fun j hj=>by
 obtain ⟨g,f,ob,kb,h1,h2,h3,h4,h5,h6⟩:=h j hj
 exact ⟨g,f,ob,kb,h1,h2,hl g h2 h3,h4,CBy.re h5 hl,h6⟩
theorem LsOwn.read {c cb n k:Nat} (h:LsOwn w lab c cb ls o n k) (hl:∀k,k < w.heap.size→lab k=c∨lab k=cb→lab' k=0):RdLs w lab' 0 ls o:=fun j hj=>by
 obtain ⟨rfl,vs,h1,h2,h3⟩:=h
 obtain ⟨ob,kb,e1,e2,e3⟩:=h3 j hj
 obtain ⟨g,hg,hc⟩:=h1.own.cell e1
 have hlt:=h1.own.lt ⟨_,hg,rfl⟩
 exact ⟨g,0,ob,kb,hg,hlt,hl g hlt (.inl (h1.clr g ⟨_,hg,rfl⟩)),by rw [Nat.zero_add]; exact hc,CBy.re e2 (fun k hk he=>hl k hk (.inr he)),e3⟩
end
def vStep (p:List By) (at_:Nat) (h:By):Nat×Except Int By:=match p[at_]? with
 | none=>(at_,.error 160)
 | some b=>(at_+1,if sumOf b=h then .ok b else .error 163)
def VInv (p:List By) (o:Option Addr) (k:Nat) (dA dP:Nat) (w:World) (lab:Nat→Nat) (at_:Nat):Prop :=
 CB w lab 7 dA 3 #[.int .i64 (at_:Int)]∧CB w lab 1 dP 31 #[.slice o p.length k]∧RdLs w lab 0 p o∧at_≤p.length
theorem VInv.stp {S:Nat→Prop} {p:List By} {o:Option Addr} {k dA dP at_:Nat} {w w':World} {lab lab':Nat→Nat} (h:VInv p o k dA dP w lab at_) (s:Stp S w lab w' lab') (h0:¬S 0) (hS1:¬S 1) (h7:¬S 7):VInv p o k dA dP w' lab' at_:=by
 obtain ⟨h1,h2,h3,h4⟩:=h
 exact ⟨h1.stp s h7,h2.stp s hS1,h3.stp s h0,h4⟩
theorem askV {p:List By} {o:Option Addr} {k dA dP:Nat} (hp:p.length≤2 ^ 40) (hb:∀x∈p,x.length≤2 ^ 30):AskOK (.func (.func 52) #[] #[.pointer (some ⟨dA,0,none⟩),.pointer (some ⟨dP,0,none⟩)]) (fun q=>q=7) (VInv p o k dA dP) (vStep p) (fun _ _=>True) where
 le _ _:=trivial
 s5:=by decide
 s6:=by decide
 stp h s:=h.stp s (by decide) (by decide) (by decide)
 run:=by
  intro w lab at_ h n hI _ hh
  refine ⟨52,#[],_,rfl,by kernel_rfl,?_⟩
  refine calls_gen fun R hR=>proof_Verify_2.vc _ _ _ _ _ ?_
  unfold proof_Verify_2.Vc
  rintro d3 w1 ⟨rfl,rfl⟩
  have s1:Stp NoS w lab (w.alloc (.cells (hashA h) 27)) (ext lab w.heap.size 9):=Stp.alloc NoS w lab _ 9
  have X1:=CB.new w lab 9 27 (hashA h)
  have I1:=hI.stp s1 (fun h=>h) (fun h=>h) (fun h=>h)
  generalize w.heap.size=D3 at *
  generalize w.alloc (.cells (hashA h) 27)=w1 at *
  generalize ext lab D3 9=lab1 at *
  obtain ⟨bA,bP,hL,hat⟩:=id I1
  refine ⟨fun w'=>w'=w1∧at_ < p.length,⟨_,bA.blk.rd1 rfl,_,_,_,bP.blk.rd1 rfl,fun heq=>?_,fun hne=>⟨rfl,by omega⟩⟩,?_⟩
  ·have hn:p[at_]?=none:=List.getElem?_eq_none (by omega)
   have hst:vStep p at_ h=(at_,.error 160):=by unfold vStep; rw [hn]
   rw [hst] at hR
   refine (gives_calls w1 160).mono ?_
   rintro e w2 ⟨rfl,he⟩
   rw [if_neg (by decide)] at he
   subst he
   refine .inl ⟨_,rfl,hR _ _ ⟨lab1,s1.mono (fun _ h=>h.elim),I1,trivial,fun er her=>?_,fun b hb=>by cases hb⟩⟩
   cases her; exact ⟨rfl,by decide⟩
  ·rintro _ w2 ⟨rfl,hlt⟩
   obtain ⟨g,f,ob,kb,rfl,hg,hlg,hcell,hby,hkb⟩:=hL at_ hlt
   have ew:IntKind.wrap .i64 ((at_:Int)+1)=((at_+1:Nat):Int):=by rw [wrap_i64_small (by omega) (by omega)]; omega
   have hsm:p[at_]?=some p[at_]:=List.getElem?_eq_getElem hlt
   have hbl:=hb _ (List.getElem_mem hlt)
   refine ⟨_,_,_,bP.blk.rd1 rfl,_,bA.blk.rd1 rfl,_,rfl,⟨by omega,by omega⟩,_,_,_,by rw [add_at,Int.toNat_natCast]; exact hcell,_,bA.blk.rd1 rfl,bA.blk.canSet (by simp) rfl,?_⟩
   rintro _ rfl
   rw [ew]
   have s2:Stp (·=7) w2 lab1 (w2.setCell ⟨dA,0,none⟩ (.int .i64 ((at_+1:Nat):Int))) lab1:=Stp.setCell bA.clr
   have bA2:=bA.set 0 (.int .i64 ((at_+1:Nat):Int))
   have bP2:=bP.stp s2 (by decide)
   have hL2:=hL.stp s2 (by decide)
   have hby2:=hby.stp s2 (by decide)
   have X2:=X1.stp s2 (by decide)
   generalize w2.setCell ⟨dA,0,none⟩ (.int .i64 ((at_+1:Nat):Int))=w3 at *
   rintro _ rfl
   have s3:Stp NoS w3 lab1 w3.drew lab1:=Stp.drew _ _ _
   have bA3:=bA2.stp s3 (fun h=>h)
   have bP3:=bP2.stp s3 (fun h=>h)
   have hL3:=hL2.stp s3 (fun h=>h)
   have hby3:=hby2.stp s3 (fun h=>h)
   have X3:=X2.stp s3 (fun h=>h)
   generalize w3.drew=w4 at *
   refine ⟨_,X3.blk.rowAll (size_hashA _),?_⟩
   rintro d25 w5 ⟨rfl,rfl⟩
   have s4:Stp NoS w4 lab1 (w4.alloc (.cells #[.slice ob p[at_].length kb] 23)) (ext lab1 w4.heap.size 9):=Stp.alloc NoS w4 lab1 _ 9
   have N5:=Blk.new w4 23 #[.slice ob p[at_].length kb]
   have bA5:=bA3.stp s4 (fun h=>h)
   have bP5:=bP3.stp s4 (fun h=>h)
   have hL5:=hL3.stp s4 (fun h=>h)
   have hby5:=hby3.stp s4 (fun h=>h)
   have X5:=X3.stp s4 (fun h=>h)
   have s05:Stp (fun q=>q=7) w lab _ _:=(((s1.mono (T:=fun q=>q=7) (fun _ h=>h.elim)).trans s2).trans (s3.mono (fun _ h=>h.elim))).trans (s4.mono (fun _ h=>h.elim))
   generalize w4.heap.size=D5 at *
   generalize w4.alloc (.cells #[.slice ob p[at_].length kb] 23)=w5 at *
   generalize ext lab1 D5 9=lab5 at *
   refine ⟨X5.blk.rowAll (size_hashA _),?_⟩
   refine (Sum_calls [p[at_]] rfl (by simp) (RdBB.one N5 hby5.rd) (by simp; omega)).mono ?_
   rintro _ w6 ⟨rfl,M6⟩
   have s6:Stp NoS w5 lab5 w6 (ext lab5 w5.heap.size 9):=Stp.of_nob M6 9
   have bA6:=bA5.stp s6 (fun h=>h)
   have bP6:=bP5.stp s6 (fun h=>h)
   have hL6:=hL5.stp s6 (fun h=>h)
   have hby6:=hby5.stp s6 (fun h=>h)
   have X6:=X5.stp s6 (fun h=>h)
   have s06:=s05.trans (s6.mono (T:=fun q=>q=7) (fun _ h=>h.elim))
   generalize ext lab5 w5.heap.size 9=lab6 at *
   have e2:[p[at_]].flatten=p[at_]:=by simp
   rw [e2]
   have I6:VInv p (some ⟨g,f,none⟩) k dA dP w6 lab6 (at_+1):=⟨bA6,bP6,hL6,hlt⟩
   refine .inr ⟨_,rfl,X6.blk.rowAll (size_hashA _),_,hash_ne _ _ (length_sumOf _) hh,_,rfl,fun hb'=>?_,fun hb'=>?_⟩
   ·rw [decide_eq_true_eq] at hb'
    have hst:vStep p at_ h=(at_+1,.error 163):=by unfold vStep; rw [hsm]; simp only; rw [if_neg hb']
    rw [hst] at hR
    refine (gives_calls w6 163).mono ?_
    rintro e w7 ⟨rfl,he⟩
    rw [if_neg (by decide)] at he
    subst he
    refine .inl ⟨_,rfl,hR _ _ ⟨lab6,s06,I6,trivial,fun er her=>?_,fun b hb=>by cases hb⟩⟩
    cases her; exact ⟨rfl,by decide⟩
   ·rw [decide_eq_false_iff_not,ne_eq,Decidable.not_not] at hb'
    have hst:vStep p at_ h=(at_+1,.ok p[at_]):=by unfold vStep; rw [hsm]; simp only; rw [if_pos hb']
    rw [hst] at hR
    refine hR _ _ ⟨lab6,s06,I6,trivial,fun er her=>(by cases her),fun b hb=>?_⟩
    cases hb
    exact ⟨ob,kb,rfl,hby6.rd,hkb⟩
def verifyR (p:List By) (root key:By):Except Int By :=
 if p.length > 256 then .error 162 else if key.length > 64 then .error 140 else
 match way (vStep p) 0 (rootIt root) (nibbles key) with
 | (at_,.ok v)=>if at_ < p.length then .error 162 else .ok v
 | (_,.error e)=>.error e
def VerifyIs (p:List By) (root key:By) (w:World) (e:Ending) (w':World):Prop :=
 Vcg.Mod NoB w w'∧match verifyR p root key with
  | .error er=>er≠0∧e=.returned (.tuple #[.slice none 0 0,.bool false,.int .i64 er])
  | .ok v=>∃o k,e=.returned (.tuple #[.slice o v.length k,.bool (decide (v≠[])),.int .i64 0])∧RdB w' o v
theorem vleave_fault {R:Ending→World→Prop} {rt:World→Prop} {dE dV dB:Nat} {n n0:Int} {o:Option Addr} {l k:Nat} {b:Bool} {w:World} (hn:n≠0) (h1:dE≠dV) (h2:dE≠dB) (h3:dV≠dB) (E:Blk w dE 40 #[.int .i64 n0]) (V:Blk w dV 23 #[.slice o l k]) (B:Blk w dB 4 #[.bool b])
 (K:∀w',Blk w' dE 40 #[.int .i64 n]→Blk w' dV 23 #[.slice none 0 0]→Blk w' dB 4 #[.bool false]→Vcg.Mod (fun b=>b=dE∨b=dV∨b=dB) w w'→rt w') :
 LeavV Tryz.prog rt R [(32,#[.pointer (some ⟨dE,0,none⟩)]),(51,#[.pointer (some ⟨dE,0,none⟩),.pointer (some ⟨dV,0,none⟩),.pointer (some ⟨dB,0,none⟩)])] (.panicking (faultOf n)) w:=by
 refine ⟨fun h=>(by cases h),(caught_calls E).mono ?_⟩
 rintro _ _ w1 ⟨rfl,rfl,E1,M1⟩
 have V1:=V.mod M1 (fun h=>h1 h.symm)
 have B1:=B.mod M1 (fun h=>h2 h.symm)
 refine ⟨fun h=>(by cases h),?_⟩
 refine (proof_Verify_1.vcd .returning _ _ _ w1 (fun e w'=>e=.returned (.tuple #[])∧Blk w' dE 40 #[.int .i64 n]∧Blk w' dV 23 #[.slice none 0 0]∧Blk w' dB 4 #[.bool false]∧Vcg.Mod (fun b=>b=dV∨b=dB) w1 w') ?_).mono ?_
 ·unfold proof_Verify_1.Vc
  refine ⟨n,E1.rd1 rfl,fun _=>⟨V1.canSet (by simp) rfl,?_⟩,fun h=>(hn h).elim⟩
  rintro _ rfl
  have V2:=V1.set 0 (.slice none 0 0)
  have B2:=B1.set_ne (a:=⟨dV,0,none⟩) (v:=.slice none 0 0) (fun e=>h3 e.symm)
  have E2:=E1.set_ne (a:=⟨dV,0,none⟩) (v:=.slice none 0 0) h1
  refine ⟨B2.canSet (by simp) rfl,?_⟩
  rintro _ rfl
  exact ⟨rfl,E2.set_ne h2,V2.set_ne h3,B2.set 0 _,((Mod.setCell w1 ⟨dV,0,none⟩ _).mono (fun _ _ h=>.inl h)).trans (Mod.setCell _ ⟨dB,0,none⟩ _) (fun _ _ h=>.inr h)⟩
 ·rintro _ _ w2 ⟨rfl,rfl,E2,V2,B2,M2⟩
  exact K w2 E2 V2 B2 ((M1.mono (fun _ _ h=>.inl h)).trans M2 (fun _ _ h=>.inr h))
theorem vleave_well {R:Ending→World→Prop} {rt:World→Prop} {dE dV dB:Nat} {w:World} (E:Blk w dE 40 #[.int .i64 0]) (K:rt w) :
 LeavV Tryz.prog rt R [(32,#[.pointer (some ⟨dE,0,none⟩)]),(51,#[.pointer (some ⟨dE,0,none⟩),.pointer (some ⟨dV,0,none⟩),.pointer (some ⟨dB,0,none⟩)])] .returning w:=by
 refine ⟨fun h=>(by cases h),caught_idle.mono ?_⟩
 rintro _ _ w1 ⟨rfl,rfl,rfl⟩
 refine ⟨fun h=>(by cases h),?_⟩
 refine (proof_Verify_1.vcd .returning _ _ _ w1 (fun e w'=>e=.returned (.tuple #[])∧w'=w1) ?_).mono ?_
 ·unfold proof_Verify_1.Vc
  exact ⟨0,E.rd1 rfl,fun h=>(h rfl).elim,fun _=>⟨rfl,rfl⟩⟩
 ·rintro _ _ w2 ⟨rfl,rfl,rfl⟩
  exact K
end Go.Proofs.YtfghidehlnfdiaaGreat
end
section
namespace Go.Proofs.YtfghidehlnfdiaaGreat
open Go Go.Vcg Go.Trie
def labV (N:Nat):Nat→Nat:=fun k=>if k=N+5 then 7 else if N≤k then 1 else 0
theorem labV_old {N k:Nat} (h:k < N):labV N k=0:=by unfold labV; rw [if_neg (by omega),if_neg (by omega)]
theorem labV_1 {N k:Nat} (h:N≤k) (h5:k≠N+5):labV N k=1:=by unfold labV; rw [if_neg h5,if_pos h]
theorem labV_7 {N:Nat}:labV N (N+5)=7:=if_pos rfl
theorem verifyR_way {p:List By} {root key:By} (h1:¬p.length > 256) (h2:¬key.length > 64):verifyR p root key=(match way (vStep p) 0 (rootIt root) (nibbles key) with
 | (at_,.ok v)=>if at_ < p.length then .error 162 else .ok v
 | (_,.error e)=>.error e):=by
 unfold verifyR
 exact (if_neg h1).trans (if_neg h2)
theorem Verify_calls {w:World} {lab:Nat→Nat} {c:Nat} {p:List By} {o ok:Option Addr} {k kk:Nat} {root key:By} (h:RdLs w lab c p o) (hlen:p.length≤2 ^ 40) (hb:∀x∈p,x.length≤2 ^ 30) (hroot:root.length=32) (hkey:RdB w ok key) :
 Calls Tryz.prog proof_Verify.n #[.agg (hashA root),.slice ok key.length kk,.slice o p.length k] w (VerifyIs p root key w):=by
 refine calls_gen fun R hR=>proof_Verify.vc _ _ _ _ _ _ _ _ _ ?_
 unfold proof_Verify.Vc
 have hL:RdLs w (labV w.heap.size) 0 p o:=h.re (fun k hk _=>labV_old hk)
 rintro d3 w1 ⟨rfl,rfl⟩
 have M1:=Mod.alloc (S:=NoB) w (.cells (hashA root) 27)
 have X1:=Blk.new w 27 (hashA root)
 have z1:=size_alloc w (.cells (hashA root) 27)
 generalize hNe:w.heap.size=N at *
 generalize w.alloc (.cells (hashA root) 27)=w1 at *
 rintro d5 w2 ⟨rfl,rfl⟩
 have M12:=Mod.alloc (S:=NoB) w1 (.cells #[.slice o p.length k] 31)
 have P2:=Blk.new w1 31 #[.slice o p.length k]
 have z2:=size_alloc w1 (.cells #[.slice o p.length k] 31)
 have X2:=X1.mod' M12
 have M2:=M1.none_trans M12
 rw [z1] at P2 z2 ⊢
 generalize w1.alloc (.cells #[.slice o p.length k] 31)=w2 at *
 rintro d7 w3 ⟨rfl,rfl⟩
 have M23:=Mod.alloc (S:=NoB) w2 (.cells #[.slice none 0 0] 23)
 have V3:=Blk.new w2 23 #[.slice none 0 0]
 have z3:=size_alloc w2 (.cells #[.slice none 0 0] 23)
 have X3:=X2.mod' M23
 have P3:=P2.mod' M23
 have M3:=M2.none_trans M23
 rw [z2] at V3 z3 ⊢
 generalize w2.alloc (.cells #[.slice none 0 0] 23)=w3 at *
 rintro d9 w4 ⟨rfl,rfl⟩
 have M34:=Mod.alloc (S:=NoB) w3 (.cells #[.bool false] 4)
 have B4:=Blk.new w3 4 #[.bool false]
 have z4:=size_alloc w3 (.cells #[.bool false] 4)
 have X4:=X3.mod' M34
 have P4:=P3.mod' M34
 have V4:=V3.mod' M34
 have M4:=M3.none_trans M34
 rw [z3] at B4 z4 ⊢
 generalize w3.alloc (.cells #[.bool false] 4)=w4 at *
 rintro d11 w5 ⟨rfl,rfl⟩
 have M45:=Mod.alloc (S:=NoB) w4 (.cells #[.int .i64 0] 40)
 have E5:=Blk.new w4 40 #[.int .i64 0]
 have z5:=size_alloc w4 (.cells #[.int .i64 0] 40)
 have X5:=X4.mod' M45
 have P5:=P4.mod' M45
 have V5:=V4.mod' M45
 have B5:=B4.mod' M45
 have M5:=M4.none_trans M45
 rw [z4] at E5 z5 ⊢
 generalize w4.alloc (.cells #[.int .i64 0] 40)=w5 at *
 clear X1 X2 X3 X4 P2 P3 P4 V3 V4 B4 M1 M12 M2 M23 M3 M34 M4 M45 z1 z2 z3 z4
 simp only [show N+1+1=N+2 from rfl,show N+2+1=N+3 from rfl,show N+3+1=N+4 from rfl,show N+4+1=N+5 from rfl] at *
 have ret3:∀(wa:World) (er:Int),er≠0→verifyR p root key=.error er→Blk wa (N+2) 23 #[.slice none 0 0]→Blk wa (N+3) 4 #[.bool false]→Blk wa (N+4) 40 #[.int .i64 0]→Vcg.Mod NoB w wa →
  CanSet wa ⟨N+2,0,none⟩ (.slice none 0 0)∧∀w16:World,IsSet wa ⟨N+2,0,none⟩ (.slice none 0 0) w16 →
  CanSet w16 ⟨N+3,0,none⟩ (.bool false)∧∀w17:World,IsSet w16 ⟨N+3,0,none⟩ (.bool false) w17 →
  CanSet w17 ⟨N+4,0,none⟩ (.int .i64 er)∧∀w18:World,IsSet w17 ⟨N+4,0,none⟩ (.int .i64 er) w18 →
  ∃o19:Option Addr,∃l20:Nat,∃l21:Nat,World.cell? w18 ⟨N+2,0,none⟩=some (.slice o19 l20 l21) ∧
  ∃b22:Bool,World.cell? w18 ⟨N+3,0,none⟩=some (.bool b22) ∧
  ∃n23:Int,World.cell? w18 ⟨N+4,0,none⟩=some (.int .i64 n23)∧R (.returned (.tuple #[(.slice o19 l20 l21),(.bool b22),(.int .i64 n23)])) w18:=by
  intro wa er her hv Va Ba Ea Ma
  refine ⟨Va.canSet (by simp) rfl,?_⟩
  rintro _ rfl
  have Vb:=Va.set 0 (.slice none 0 0)
  have Bb:=Ba.set_ne (a:=⟨N+2,0,none⟩) (v:=.slice none 0 0) (by show N+3≠N+2; omega)
  have Eb:=Ea.set_ne (a:=⟨N+2,0,none⟩) (v:=.slice none 0 0) (by show N+4≠N+2; omega)
  have Mb:Vcg.Mod NoB w _:=mod_of Ma (Mod.setCell wa ⟨N+2,0,none⟩ (.slice none 0 0)) (by show w.heap.size≤N+2; omega)
  refine ⟨Bb.canSet (by simp) rfl,?_⟩
  rintro _ rfl
  have Vc:=Vb.set_ne (a:=⟨N+3,0,none⟩) (v:=.bool false) (by show N+2≠N+3; omega)
  have Bc:=Bb.set 0 (.bool false)
  have Ec:=Eb.set_ne (a:=⟨N+3,0,none⟩) (v:=.bool false) (by show N+4≠N+3; omega)
  have Mc:Vcg.Mod NoB w _:=mod_of Mb (Mod.setCell _ ⟨N+3,0,none⟩ (.bool false)) (by show w.heap.size≤N+3; omega)
  refine ⟨Ec.canSet (by simp) rfl,?_⟩
  rintro _ rfl
  have Vd:=Vc.set_ne (a:=⟨N+4,0,none⟩) (v:=.int .i64 er) (by show N+2≠N+4; omega)
  have Bd:=Bc.set_ne (a:=⟨N+4,0,none⟩) (v:=.int .i64 er) (by show N+3≠N+4; omega)
  have Ed:=Ec.set 0 (.int .i64 er)
  refine ⟨_,_,_,Vd.rd1 rfl,_,Bd.rd1 rfl,_,Ed.rd1 rfl,hR _ _ ⟨mod_of Mc (Mod.setCell _ ⟨N+4,0,none⟩ (.int .i64 er)) (by show w.heap.size≤N+4; omega),?_⟩⟩
  rw [hv]
  exact ⟨her,rfl⟩
 refine ⟨_,_,_,P5.rd1 rfl,fun hbig=>?_,fun hbig=>⟨fun hk=>?_,fun hk=>?_⟩⟩
 ·exact ret3 w5 162 (by decide) (by unfold verifyR; rw [if_pos (by omega)]) V5 B5 E5 M5
 ·exact ret3 w5 140 (by decide) (by unfold verifyR; rw [if_neg (by omega),if_pos (by omega)]) V5 B5 E5 M5
 ·rintro d32 w6 ⟨rfl,rfl⟩
  have M56:=Mod.alloc (S:=NoB) w5 (.cells #[.int .i64 0] 3)
  have A6:=Blk.new w5 3 #[.int .i64 0]
  have z6:=size_alloc w5 (.cells #[.int .i64 0] 3)
  have X6:=X5.mod' M56
  have P6:=P5.mod' M56
  have V6:=V5.mod' M56
  have B6:=B5.mod' M56
  have E6:=E5.mod' M56
  have M6:=M5.none_trans M56
  rw [z5] at A6 z6 ⊢
  generalize w5.alloc (.cells #[.int .i64 0] 3)=w6 at *
  refine ⟨A6.canSet (by simp) rfl,?_⟩
  rintro _ rfl
  have A7:Blk (w6.setCell ⟨N+5,0,none⟩ (.int .i64 0)) (N+5) 3 #[.int .i64 0]:=A6.set 0 (.int .i64 0)
  have Q7:Vcg.Mod (·=N+5) w6 _:=Mod.setCell w6 ⟨N+5,0,none⟩ (.int .i64 0)
  have X7:=X6.mod Q7 (by omega)
  have P7:=P6.mod Q7 (by omega)
  have V7:=V6.mod Q7 (by omega)
  have B7:=B6.mod Q7 (by omega)
  have E7:=E6.mod Q7 (by omega)
  have M7:Vcg.Mod NoB w _:=mod_of M6 Q7 (by omega)
  generalize w6.setCell ⟨N+5,0,none⟩ (.int .i64 0)=w7 at *
  have s7:Stp NoS w (labV N) w7 (labV N):=⟨M7.os,M7.tape,M7.output,M7.size,fun _ _=>rfl,fun q hq _=>M7.block q hq (fun h=>h)⟩
  have I7:VInv p o k (N+5) (N+1) w7 (labV N) 0:=⟨⟨A7,labV_7⟩,⟨P7,labV_1 (by omega) (by omega)⟩,hL.stp s7 (fun h=>h),Nat.zero_le _⟩
  have hlab:∀b,labV N b=5∨labV N b=7→N≤b:=fun b hb=>Nat.le_of_not_lt fun hlt=>by rw [labV_old hlt] at hb; omega
  refine ⟨_,X7.rowAll (size_hashA _),?_⟩
  refine (way_calls (askV (o:=o) (k:=k) (dA:=N+5) (dP:=N+1) hlen hb) I7 trivial hroot (hkey.mod' M7) (by omega)).mono ?_
  rintro e w8 ⟨lab8,s78,I8,hw⟩
  have V8:=(CB.mk V7 (labV_1 (N:=N) (by omega) (by omega))).stp s78 (by decide)
  have B8:=(CB.mk B7 (labV_1 (N:=N) (by omega) (by omega))).stp s78 (by decide)
  have E8:=(CB.mk E7 (labV_1 (N:=N) (by omega) (by omega))).stp s78 (by decide)
  have M78:Vcg.Mod (fun b=>N≤b) w7 w8:=s78.mod (fun q hq hs=>hlab q hs)
  have M8:Vcg.Mod NoB w w8:=M7.trans M78 (fun i hi h=>by omega)
  have hvr:=verifyR_way (root:=root) (p:=p) (key:=key) (by omega) (by omega)
  obtain ⟨A8,P8,_,hat⟩:=I8
  generalize way (vStep p) 0 (rootIt root) (nibbles key)=res at hw hvr A8 hat
  obtain ⟨at_,r⟩:=res
  dsimp only at A8 hat hvr
  have bad:∀(wa:World) (er:Int) (oV:Option Addr) (lV kV:Nat) (bB:Bool),er≠0→verifyR p root key=.error er→Blk wa (N+2) 23 #[.slice oV lV kV]→Blk wa (N+3) 4 #[.bool bB]→Blk wa (N+4) 40 #[.int .i64 0]→Vcg.Mod NoB w wa →
   LeavV Tryz.prog (fun w38 =>
    ∃o39:Option Addr,∃l40:Nat,∃l41:Nat,World.cell? w38 ⟨N+2,0,none⟩=some (.slice o39 l40 l41) ∧
    ∃b42:Bool,World.cell? w38 ⟨N+3,0,none⟩=some (.bool b42) ∧
    ∃n43:Int,World.cell? w38 ⟨N+4,0,none⟩=some (.int .i64 n43) ∧
    R (.returned (.tuple #[(.slice o39 l40 l41),(.bool b42),(.int .i64 n43)])) w38) R [(32,#[(.pointer (some ⟨N+4,0,none⟩))]),(51,#[(.pointer (some ⟨N+4,0,none⟩)),(.pointer (some ⟨N+2,0,none⟩)),(.pointer (some ⟨N+3,0,none⟩))])] (.panicking (faultOf er)) wa:=by
   intro wa er oV lV kV bB her hv Va Ba Ea Ma
   refine vleave_fault her (by omega) (by omega) (by omega) Ea Va Ba (fun w' E' V' B' M'=>?_)
   refine ⟨_,_,_,V'.rd1 rfl,_,B'.rd1 rfl,_,E'.rd1 rfl,hR _ _ ⟨Ma.trans M' (fun i hi h=>by omega),?_⟩⟩
   rw [hv]
   exact ⟨her,rfl⟩
  cases r with
  | error er =>
    obtain ⟨rfl,hne⟩:=hw
    exact .inl ⟨_,rfl,bad w8 er _ _ _ _ hne hvr V8.blk B8.blk E8.blk M8⟩
  | ok v =>
    obtain ⟨ov,kv,rfl,hv⟩:=hw
    refine .inr ⟨_,_,_,_,rfl,V8.blk.canSet (by simp) rfl,?_⟩
    rintro _ rfl
    have V9:=V8.blk.set 0 (.slice ov v.length kv)
    have Q9:Vcg.Mod (·=N+2) w8 _:=Mod.setCell w8 ⟨N+2,0,none⟩ (.slice ov v.length kv)
    have s89:Stp (·=1) w8 lab8 _ lab8:=Stp.setCell (a:=⟨N+2,0,none⟩) (v:=.slice ov v.length kv) V8.clr
    have B9:=B8.blk.mod Q9 (by omega)
    have E9:=E8.blk.mod Q9 (by omega)
    have A9:=A8.blk.mod Q9 (by omega)
    have P9:=P8.blk.mod Q9 (by omega)
    have hv9:=hv.stp s89 (by decide)
    have M9:Vcg.Mod NoB w _:=mod_of M8 Q9 (by omega)
    generalize w8.setCell ⟨N+2,0,none⟩ (.slice ov v.length kv)=w9 at *
    refine ⟨B9.canSet (by simp) rfl,?_⟩
    rintro _ rfl
    have B10:=B9.set 0 (.bool (decide (v≠[])))
    have Q10:Vcg.Mod (·=N+3) w9 _:=Mod.setCell w9 ⟨N+3,0,none⟩ (.bool (decide (v≠[])))
    have s910:Stp (·=1) w9 lab8 _ lab8:=Stp.setCell (a:=⟨N+3,0,none⟩) (v:=.bool (decide (v≠[]))) B8.clr
    have V10:=V9.mod Q10 (by omega)
    have E10:=E9.mod Q10 (by omega)
    have A10:=A9.mod Q10 (by omega)
    have P10:=P9.mod Q10 (by omega)
    have hv10:=hv9.stp s910 (by decide)
    have M10:Vcg.Mod NoB w _:=mod_of M9 Q10 (by omega)
    generalize w9.setCell ⟨N+3,0,none⟩ (.bool (decide (v≠[])))=w10 at *
    refine ⟨_,A10.rd1 rfl,_,_,_,P10.rd1 rfl,fun hlt=>?_,fun hge=>?_⟩
    ·simp only at hvr
     rw [if_pos (by omega)] at hvr
     refine (gives_calls w10 162).mono ?_
     rintro e w11 ⟨rfl,he⟩
     rw [if_neg (by decide)] at he
     subst he
     exact .inl ⟨_,rfl,bad _ 162 _ _ _ _ (by decide) hvr V10 B10 E10 M10⟩
    ·simp only at hvr
     rw [if_neg (by omega)] at hvr
     rintro _ rfl
     have s11:Stp NoS w10 lab8 w10.drew lab8:=Stp.drew _ _ _
     have V11:=V10.drew
     have B11:=B10.drew
     have E11:=E10.drew
     have hv11:=hv10.stp s11 (fun h=>h)
     have M11:=M10.step_drew
     generalize w10.drew=w11 at *
     refine ⟨_,_,_,V11.rd1 rfl,_,B11.rd1 rfl,V11.canSet (by simp) rfl,?_⟩
     rintro _ rfl
     have V12:=V11.set 0 (.slice ov v.length kv)
     have Q12:Vcg.Mod (·=N+2) w11 _:=Mod.setCell w11 ⟨N+2,0,none⟩ (.slice ov v.length kv)
     have s12:Stp (·=1) w11 lab8 _ lab8:=Stp.setCell (a:=⟨N+2,0,none⟩) (v:=.slice ov v.length kv) V8.clr
     have B12:=B11.mod Q12 (by omega)
     have E12:=E11.mod Q12 (by omega)
     have hv12:=hv11.stp s12 (by decide)
     have M12:Vcg.Mod NoB w _:=mod_of M11 Q12 (by omega)
     generalize w11.setCell ⟨N+2,0,none⟩ (.slice ov v.length kv)=w12 at *
     refine ⟨B12.rd1 rfl,B12.canSet (by simp) rfl,?_⟩
     rintro _ rfl
     have B13:=B12.set 0 (.bool (decide (v≠[])))
     have Q13:Vcg.Mod (·=N+3) w12 _:=Mod.setCell w12 ⟨N+3,0,none⟩ (.bool (decide (v≠[])))
     have s13:Stp (·=1) w12 lab8 _ lab8:=Stp.setCell (a:=⟨N+3,0,none⟩) (v:=.bool (decide (v≠[]))) B8.clr
     have V13:=V12.mod Q13 (by omega)
     have E13:=E12.mod Q13 (by omega)
     have hv13:=hv12.stp s13 (by decide)
     have M13:Vcg.Mod NoB w _:=mod_of M12 Q13 (by omega)
     generalize w12.setCell ⟨N+3,0,none⟩ (.bool (decide (v≠[])))=w13 at *
     refine ⟨E13.canSet (by simp) rfl,?_⟩
     rintro _ rfl
     have E14:=E13.set 0 (.int .i64 0)
     have Q14:Vcg.Mod (·=N+4) w13 _:=Mod.setCell w13 ⟨N+4,0,none⟩ (.int .i64 0)
     have s14:Stp (·=1) w13 lab8 _ lab8:=Stp.setCell (a:=⟨N+4,0,none⟩) (v:=.int .i64 0) E8.clr
     have V14:=V13.mod Q14 (by omega)
     have B14:=B13.mod Q14 (by omega)
     have hv14:=hv13.stp s14 (by decide)
     refine vleave_well E14 ⟨_,_,_,V14.rd1 rfl,_,B14.rd1 rfl,_,E14.rd1 rfl,hR _ _ ⟨mod_of M13 Q14 (by omega),?_⟩⟩
     rw [hvr]
     exact ⟨ov,kv,rfl,hv14.rd⟩
end Go.Proofs.YtfghidehlnfdiaaGreat
end
section
namespace Go.Proofs.YtfghidehlnfdiaaGreat
open Go Go.Vcg Go.Trie
theorem RdA.keep {w w':World} {L L':Nat→Nat} {S:Nat→Prop} {o:Option Addr} {b:By} (h:RdA (fun b=>L b≠6) w o b) (s:Stp S w L w' L') (h6:¬S 6):RdA (fun b=>L' b≠6) w' o b :=
 ((h.mono (A':=fun b=>L b≠6∨w.heap.size≤b) (fun b hb hh=>hh.resolve_right (by omega))).modA (frz s h6) (fun b hb=>.inl hb)).mono (fun b _ hh=>frz_lab s b hh)
theorem rVerify_calls {w:World} {lab:Nat→Nat} {c:Nat} {p:List By} {o ok:Option Addr} {k kk:Nat} {root key:By} (h:RdLs w lab c p o) (hlen:p.length≤2 ^ 40) (hbs:∀x∈p,x.length≤2 ^ 30) (hroot:root.length=32) (hkey:RdB w ok key) :
 Calls Tryz.prog moraineref16_Verify.n #[.agg (hashA root),.slice ok key.length kk,.slice o p.length k] w (VerifyIs p root key w):=by
 refine calls_gen fun R hR=>moraineref16_Verify.vc _ _ _ _ _ _ _ _ _ ?_
 unfold moraineref16_Verify.Vc
 have bad:∀(wa:World) (er:Int),Vcg.Mod NoB w wa→er≠0→verifyR p root key=.error er→R (.returned (.tuple #[.slice none 0 0,.bool false,.int .i64 er])) wa:=fun wa er M her hv=>hR _ _ ⟨M,by rw [hv]; exact ⟨her,rfl⟩⟩
 rintro d3 w1 ⟨rfl,rfl⟩
 have M1:=Mod.alloc (S:=NoB) w (.cells (hashA root) 27)
 have X1:=Blk.new w 27 (hashA root)
 generalize w.heap.size=D at *
 generalize w.alloc (.cells (hashA root) 27)=w1 at *
 refine ⟨fun hbig=>bad _ _ M1 (by decide) (by unfold verifyR; rw [if_pos (by omega)]),fun hbig=>⟨fun hk=>bad _ _ M1 (by decide) (by unfold verifyR; rw [if_neg (by omega),if_pos (by omega)]),fun hk=>?_⟩⟩
 have hvr:=verifyR_way (root:=root) (p:=p) (key:=key) (by omega) (by omega)
 rintro _ rfl
 have X2:=X1.drew
 have M2:=M1.step_drew
 refine ⟨_,X2.rowAll (size_hashA _),?_⟩
 refine (rEmpty_calls w1.drew).mono ?_
 rintro _ w3 ⟨rfl,M3⟩
 have X3:=X2.mod' M3
 have M03:=M2.none_trans M3
 clear X2 M2 M3 X1 M1
 refine ⟨_,rfl,X3.rowAll (size_hashA _),_,hash_eq _ _ hroot (by unfold emptyH; exact length_sumOf _),_,rfl,fun he=>?_,fun he=>?_⟩
 ·rw [decide_eq_true_eq] at he
  have hw:way (vStep p) 0 (rootIt root) (nibbles key)=(0,.ok []):=by unfold rootIt; rw [if_pos he,way_nil]
  rw [hw] at hvr
  simp only at hvr
  refine ⟨fun hp=>?_,fun hp=>?_⟩
  ·rw [if_pos (by omega)] at hvr
   exact bad _ _ M03 (by decide) hvr
  ·rw [if_neg (by omega)] at hvr
   exact hR _ _ ⟨M03,by rw [hvr]; exact ⟨none,0,rfl,fun h=>(h rfl).elim⟩⟩
 ·rw [decide_eq_false_iff_not] at he
  have hrt:rootIt root=.s root:=by unfold rootIt; rw [if_neg he]
  refine (rNibbles_calls (hkey.mod' M03) (by omega)).mono ?_
  rintro _ w4 ⟨op,kp,rfl,F4⟩
  have X4:=X3.mod' F4.mod
  have M04:=M03.none_trans F4.mod
  refine ⟨_,_,_,rfl,_,X4.rowAll (size_hashA _),?_⟩
  have hnl:=nibbles_len key
  have hpc:=F4.own.cap.1
  rintro d18 w5 ⟨rfl,rfl⟩
  have M5:=Mod.alloc (S:=NoB) w4 (.cells (Array.replicate 32 (.int .u8 0)) 27)
  have H5:=Blk.new w4 27 (Array.replicate 32 (.int .u8 0))
  obtain ⟨hst,H6,Q6⟩:=hash_store H5 (by simp) root
  refine ⟨_,hst,?_⟩
  have M46:Vcg.Mod NoB w4 _:=mod_of M5 Q6 (Nat.le_refl _)
  have hHlt:=H6.lt
  generalize hHe:w4.heap.size=H at *
  generalize ((w4.alloc (.cells (Array.replicate 32 (.int .u8 0)) 27)).setRow H (hashA root))=w6 at *
  have M06:=M04.none_trans M46
  have P6:=(F4.mod' M46)
  let lab6:Nat→Nat:=fun q=>if q < w.heap.size then 0 else if q=H then 5 else 6
  have hHw:w.heap.size≤H:=by rw [← hHe]; exact M04.size
  have s06:Stp NoS w (fun _=>0) w6 lab6:=⟨M06.os,M06.tape,M06.output,M06.size,fun q hq=>if_pos hq,fun q hq _=>M06.block q hq (fun h=>h)⟩
  have hN6:RdLs w6 lab6 0 p o:=(RdLs.re (lab':=fun _=>0) (c':=0) h (fun _ _ _=>rfl)).stp s06 (fun h=>h)
  have hH6:CB w6 lab6 5 H tHash (hashA root):=⟨H6,by show (if H < w.heap.size then 0 else if H=H then 5 else 6)=5; rw [if_neg (by omega),if_pos rfl]⟩
  have hP6:RdA (fun b=>lab6 b≠6) w6 op (nibbles key):=⟨P6.own.bytes,fun _ d hd hh=>by
   have h1:=F4.new d.block ⟨d,hd,rfl⟩
   have h2:=F4.own.lt ⟨d,hd,rfl⟩
   have h3:=M03.size
   refine hh ?_
   show (if d.block < w.heap.size then 0 else if d.block=H then 5 else 6)=6
   rw [if_neg (by omega),if_neg (by omega)]⟩
  have hlab:∀q,lab6 q=5→w.heap.size≤q:=fun q hq=>by
   refine Nat.le_of_not_lt fun hlt=>?_
   have h0:lab6 q=0:=if_pos hlt
   omega
  clear_value lab6
  refine ⟨fun op' l' kp' i w'=>∃(L:Nat→Nat) (at_:Nat) (hh path:By),i=(at_:Int)∧at_≤p.length∧Stp (·=5) w6 lab6 w' L∧RdLs w' L 0 p o∧CB w' L 5 H tHash (hashA hh)∧hh.length=32∧RdA (fun b=>L b≠6) w' op' path∧l'=path.length∧path.length≤kp'∧(∀n∈path,n.toNat < 16)∧path.length≤128 ∧
   way (vStep p) at_ (.s hh) path=way (vStep p) 0 (rootIt root) (nibbles key),fun _ _ _ i _=>((p.length:Int) - i).toNat,⟨lab6,0,root,nibbles key,rfl,Nat.zero_le _,Stp.refl _ _ _,hN6,hH6,hroot,hP6,rfl,hpc,nib_lt key,by omega,by rw [hrt]⟩,?_⟩
  clear hN6 hH6 hP6 P6 s06 hst H6 Q6 H5 M5 X4 F4 X3 hpc
  rintro op' _ kp' _ _ w7 ⟨L,at_,hh,path,rfl,hat,s67,hN7,hH7,hh32,hP7,rfl,hpk,hnib,hpl,heq⟩
  have modw:∀w' L',Stp (·=5) w6 lab6 w' L'→Vcg.Mod NoB w w':=fun w' L' s=>M06.trans (s.mod (Q:=fun q=>w.heap.size≤q) (fun q _ hs=>hlab q hs)) (fun i hi hs=>by omega)
  have hhn:hh≠[]:=by rintro rfl; cases hh32
  rw [← heq] at hvr
  have ew:IntKind.wrap .i64 ((at_:Int)+1)=((at_+1:Nat):Int):=by rw [wrap_i64_small (by omega) (by omega)]; omega
  refine ⟨fun hend=>?_,fun hend=>?_⟩
  ·have hn:p[at_]?=none:=List.getElem?_eq_none (by omega)
   have hst:vStep p at_ hh=(at_,.error 160):=by unfold vStep; rw [hn]
   rw [way_bad hhn hst] at hvr
   exact bad _ _ (modw _ _ s67) (by decide) hvr
  ·have hlt:at_ < p.length:=by omega
   have hsm:p[at_]?=some p[at_]:=List.getElem?_eq_getElem hlt
   have hbl:=hbs _ (List.getElem_mem hlt)
   rintro _ rfl
   have s8:Stp NoS w7 L w7.drew L:=Stp.drew _ _ _
   have hN8:=hN7.stp s8 (fun h=>h)
   have hH8:=hH7.stp s8 (fun h=>h)
   have hP8:=hP7.keep s8 (fun h=>h)
   have s68:=s67.trans (s8.mono (T:=fun q=>q=5) (fun _ h=>h.elim))
   generalize w7.drew=w8 at *
   obtain ⟨g,f,ob,kb,rfl,hg,hlg,hcell,hby,hkb⟩:=hN8 at_ hlt
   have c8:∀w',Vcg.Mod NoB w8 w'→World.cell? w' (Addr.add ⟨g,f,none⟩ (Int.toNat (at_:Int)))=some (.slice ob p[at_].length kb):=fun w' M=>by rw [add_at,Int.toNat_natCast,cell_mod M hg (fun h=>h)]; exact hcell
   refine ⟨_,rfl,⟨by omega,by omega⟩,_,_,_,c8 _ (Mod.refl _),_,hH8.blk.rowAll (size_hashA _),?_⟩
   refine (refSum_calls p[at_] rfl (by omega) hby.rd).mono ?_
   rintro _ w9 ⟨rfl,M9⟩
   have s9:Stp NoS w8 L w9 (ext L w8.heap.size 6):=Stp.of_nob M9 6
   have hH9:=hH8.stp s9 (fun h=>h)
   refine ⟨_,rfl,hH9.blk.rowAll (size_hashA _),_,hash_ne _ _ (length_sumOf _) hh32,_,rfl,fun hb'=>?_,fun hb'=>?_⟩
   ·rw [decide_eq_true_eq] at hb'
    have hst:vStep p at_ hh=(at_+1,.error 163):=by unfold vStep; rw [hsm]; simp only; rw [if_neg hb']
    rw [way_bad hhn hst] at hvr
    exact bad _ _ (modw _ _ (s68.trans (s9.mono (fun _ h=>h.elim)))) (by decide) hvr
   ·rw [decide_eq_false_iff_not,ne_eq,Decidable.not_not] at hb'
    have hst:vStep p at_ hh=(at_+1,.ok p[at_]):=by unfold vStep; rw [hsm]; simp only; rw [if_pos hb']
    refine ⟨_,rfl,⟨by omega,by omega⟩,_,_,_,c8 _ M9,?_⟩
    refine (rCheck_calls (hby.rd.mod' M9) hkb).mono ?_
    rintro _ w10 ⟨rfl,M10⟩
    have M810:=M9.none_trans M10
    refine ⟨_,rfl,fun hne=>?_,fun h0=>?_⟩
    ·rw [way_form hhn hst hne] at hvr
     exact bad _ _ (modw _ _ (s68.trans ((Stp.of_nob M810 6).mono (S:=NoS) (fun _ h=>h.elim)))) (by decide) hvr
    ·obtain ⟨xs,hdc,hn,hgx⟩:=check_node h0
     refine ⟨_,rfl,⟨by omega,by omega⟩,_,_,_,c8 _ M810,?_⟩
     refine (rDecode_calls (hby.rd.mod' M810) hkb).mono ?_
     rintro e w12 ⟨M12,hd⟩
     unfold DecodeIs at hd
     rw [hdc] at hd
     obtain ⟨v1,v2,v3,rfl,hx⟩:=hd
     obtain ⟨bb,p1,q1,r1,p2,q2,r2,rfl,rfl,rfl⟩:=hx.vals
     refine ⟨_,_,_,_,_,_,_,_,rfl,?_⟩
     rintro d52 w13 ⟨rfl,rfl⟩
     have B13:=Blk.new w12 111 #[.bool false,.slice none 0 0,.slice none 0 0]
     refine set3 B13 rfl rfl rfl (fun w14 B14 Q14=>?_)
     have M1214:Vcg.Mod NoB w12 w14:=mod_of (Mod.alloc w12 _) Q14 (Nat.le_refl _)
     have M814:=(M810.none_trans M12).none_trans M1214
     refine get3 B14 ?_
     have s14:Stp NoS w8 L w14 (ext L w8.heap.size 6):=Stp.of_nob M814 6
     have hz:=M810.size
     have hx14:ItC (fun b=>ext L w8.heap.size 6 b≠6) w14 (.l xs) (.bool bb) (.slice p1 q1 r1) (.slice p2 q2 r2):=ItC.restr (fun b _ hb=>Nat.lt_of_not_le fun hle=>hb (ext_new (by omega))) (ItC.mod M1214 _ hx)
     have hN14:=hN8.stp s14 (fun h=>h)
     have hH14:=hH8.stp s14 (fun h=>h)
     have hP14:=hP8.keep s14 (fun h=>h)
     have s614:=s68.trans (s14.mono (T:=fun q=>q=5) (fun _ h=>h.elim))
     generalize ext L w8.heap.size 6=L14 at *
     refine (Down_calls hgx hx14 hP14 hpk hnib hpl).mono ?_
     rintro e w15 ⟨M15,ov,kv,orr,kr,on,kn,rfl,hv,hrr,hkr,hnx⟩
     refine ⟨_,_,_,_,_,_,_,_,_,_,_,_,_,rfl,?_⟩
     rintro d79 w16 ⟨rfl,rfl⟩
     have B16:=Blk.new w15 111 #[.bool false,.slice none 0 0,.slice none 0 0]
     refine set3 B16 rfl rfl rfl (fun w17 B17 Q17=>?_)
     have M1417:Vcg.Mod NoB w14 w17:=M15.none_trans (mod_of (Mod.alloc w15 _) Q17 (Nat.le_refl _))
     have s17:Stp NoS w14 L14 w17 (ext L14 w14.heap.size 6):=Stp.of_nob M1417 6
     have hN17:=hN14.stp s17 (fun h=>h)
     have hH17:=hH14.stp s17 (fun h=>h)
     have hv17:=hv.keep s17 (fun h=>h)
     have hrr17:=hrr.keep s17 (fun h=>h)
     have hnx17:=hnx.keep s17 (fun h=>h)
     have s617:=s614.trans (s17.mono (T:=fun q=>q=5) (fun _ h=>h.elim))
     have hwd:way (vStep p) at_ (.s hh) path=afterD (step:=vStep p) (at_+1) (downR (path.length+1) (.l xs) path):=by
      rw [way_hash hhn hst h0 hdc hgx hnib,← way_list hgx hnib,down_way (path.length+1) _ _ _ (Nat.lt_succ_self _) hgx hnib]
     rw [hwd] at heq hvr
     have h32:=down_32 (path.length+1) _ _ hgx hnib
     have hrest:=down_rest (path.length+1) _ _ hgx hnib
     generalize ext L14 w14.heap.size 6=L17 at *
     generalize downR (path.length+1) (.l xs) path=t at *
     obtain ⟨tv,tr,tn⟩:=t
     dsimp only at hv17 hrr17 hnx17 h32 hrest hkr B17 ⊢
     refine ⟨fun b w'=>w'=w17∧b=decide (tn=[]),⟨_,B17.rd1 rfl,fun h=>(by cases h),fun _=>⟨_,_,_,by rw [add_at]; exact B17.rd1 rfl,rfl,?_⟩⟩,?_⟩
     ·rw [Bool.eq_iff_iff,decide_eq_true_eq,decide_eq_true_eq]
      exact ⟨fun h=>List.eq_nil_of_length_eq_zero (by omega),fun h=>by rw [h]; rfl⟩
     rintro _ _ w18 ⟨rfl,rfl⟩
     rw [ew]
     refine ⟨fun hz=>?_,fun hnz=>?_⟩
     ·rw [decide_eq_true_eq] at hz
      subst hz
      have hres:afterD (step:=vStep p) (at_+1) (tv,tr,[])=(at_+1,.ok tv):=rfl
      rw [hres] at hvr
      simp only at hvr
      refine ⟨fun hlt'=>?_,fun hge=>?_⟩
      ·rw [if_pos (by omega)] at hvr
       exact bad _ _ (modw _ _ s617) (by decide) hvr
      ·rw [if_neg (by omega)] at hvr
       have hdv:decide (((tv.length:Nat):Int) > 0)=decide (tv≠[]):=by
        cases tv with
        | nil=>rfl
        | cons a r=>rw [decide_eq_true (by simp),decide_eq_true (by simp)]
       rw [hdv]
       exact hR _ _ ⟨modw _ _ s617,by rw [hvr]; exact ⟨ov,kv,rfl,hv17.1⟩⟩
     ·rw [decide_eq_false_iff_not] at hnz
      have htl:tn.length=32:=h32.resolve_left hnz
      obtain ⟨hrl,hrn⟩:=hrest hnz
      rintro _ rfl
      have s18:Stp NoS w18 L17 w18.drew L17:=Stp.drew _ _ _
      have B18:=B17.drew
      have hN18:=hN17.stp s18 (fun h=>h)
      have hH18:=hH17.stp s18 (fun h=>h)
      have hrr18:=hrr17.keep s18 (fun h=>h)
      have hnx18:=hnx17.keep s18 (fun h=>h)
      have s618:=s617.trans (s18.mono (T:=fun q=>q=5) (fun _ h=>h.elim))
      generalize w18.drew=w19 at *
      obtain ⟨w20,h20,H20,Q20⟩:=copy_blk (P:=Tryz.prog) (t:=23) (tx:=23) (ty:=3) (dLen:=32) (dCap:=32) (n:=32) (o:=0) (c:=kn) und_slU8 info_u8_size hH18.blk hnx18.1 (by rw [htl]; rfl) (by rw [size_hashA]; omega)
      rw [copy_hash (size_hashA _) htl] at H20
      refine ⟨_,_,_,by rw [add_at]; exact B18.rd1 rfl,_,w20,h20,_,rfl,?_⟩
      have s20:Stp (·=5) w19 L17 w20 (ext L17 w19.heap.size 6):=Stp.of_mod Q20 6 (fun q _ e=>by rw [e]; exact hH18.clr)
      have hP20:=hrr18.keep s20 (by decide)
      have hafter:afterD (step:=vStep p) (at_+1) (tv,tr,tn)=way (vStep p) (at_+1) (.s tn) tr:=by
       cases tn with
       | nil=>exact (hnz rfl).elim
       | cons a r=>rfl
      refine ⟨⟨_,at_+1,tn,tr,rfl,hlt,s618.trans s20,hN18.stp s20 (by decide),⟨H20,by rw [ext_old hH18.blk.lt]; exact hH18.clr⟩,htl,hP20,rfl,hkr,hrn,by omega,by rw [← heq,hafter]⟩,by omega⟩
end Go.Proofs.YtfghidehlnfdiaaGreat
end
section
namespace Go.Proofs.YtfghidehlnfdiaaGreat
open Go Go.Vcg Go.Trie
theorem RdLs.cell {w:World} {lab:Nat→Nat} {c:Nat} {ls:List By} {o:Option Addr} (h:RdLs w lab c ls o) {j:Nat} (hj:j < ls.length) {w':World} (M:Vcg.Mod NoB w w') :
 ∃d ob kb,o=some d∧w'.cell? (d.add (Int.toNat (j:Int)))=some (.slice ob ls[j].length kb)∧RdB w' ob ls[j]∧ls[j].length≤kb:=by
 obtain ⟨g,f,ob,kb,rfl,hg,hl,hc,hb,hk⟩:=h j hj
 exact ⟨_,ob,kb,rfl,by rw [add_at,Int.toNat_natCast,cell_mod M hg (fun h=>h)]; exact hc,hb.rd.mod' M,hk⟩
theorem Lists_calls {w:World} {lab lab2:Nat→Nat} {c c2:Nat} {a b:List By} {o o2:Option Addr} {k k2:Nat} (ha:RdLs w lab c a o) (hb:RdLs w lab2 c2 b o2) (hl:a.length≤2 ^ 63 - 1) :
 Calls Tryz.prog morainehelp_Lists.n #[.slice o a.length k,.slice o2 b.length k2] w (fun e w'=>e=.returned (.bool (decide (a=b)))∧Vcg.Mod NoB w w'):=by
 refine morainehelp_Lists.vc _ _ _ _ _ _ _ _ ?_
 unfold morainehelp_Lists.Vc
 refine ⟨fun hne=>⟨?_,Mod.refl _⟩,fun he=>?_⟩
 ·have:a≠b:=by rintro rfl; exact hne rfl
  rw [decide_eq_false this]
 have hlen:a.length=b.length:=by omega
 refine ⟨fun i w'=>∃j:Nat,i=(j:Int)∧j≤a.length∧Vcg.Mod NoB w w'∧a.take j=b.take j,fun i _=>((a.length:Int) - i).toNat,⟨0,rfl,Nat.zero_le _,Mod.refl w,rfl⟩,?_⟩
 rintro _ _ w1 ⟨j,rfl,hj,M,hf⟩
 refine ⟨fun hlt=>?_,fun hge=>?_⟩
 ·rintro _ rfl
  have hja:j < a.length:=by omega
  have hjb:j < b.length:=by omega
  have M2:=M.step_drew
  obtain ⟨d,ob,kb,rfl,h1,h2,_⟩:=ha.cell hja M2
  obtain ⟨d',ob',kb',rfl,h1',h2',_⟩:=hb.cell hjb M2
  refine ⟨_,rfl,⟨by omega,by omega⟩,_,_,_,h1,_,toStr h2,_,rfl,_,rfl,⟨by omega,by omega⟩,_,_,_,h1',_,toStr h2',_,rfl,fun hb=>?_,fun hb=>?_⟩
  ·rw [strB_neq] at hb
   have hne:=of_decide_eq_true hb
   have:a≠b:=by rintro rfl; exact hne rfl
   exact ⟨by rw [decide_eq_false this],M2⟩
  ·rw [strB_neq] at hb
   have hee:a[j]=b[j]:=Decidable.not_not.1 (of_decide_eq_false hb)
   refine ⟨⟨j+1,by rw [wrap_i64_small (by omega) (by omega)]; omega,hja,M2,?_⟩,by dsimp only; rw [wrap_i64_small (by omega) (by omega)]; omega⟩
   rw [List.take_succ_eq_append_getElem hja,List.take_succ_eq_append_getElem hjb,hf,hee]
 ·have h1:a.take j=a:=List.take_of_length_le (by omega)
  have h2:b.take j=b:=List.take_of_length_le (by omega)
  rw [h1,h2] at hf
  exact ⟨by rw [decide_eq_true hf],M⟩
def LsC (w:World) (lab:Nat→Nat) (ls:List By) (o:Option Addr) (n k:Nat):Prop :=
 n=ls.length∧∃vs,COw w lab 2 tSlU8 1 o n k vs∧vs.length=ls.length∧∀(j:Nat) (hj:j < ls.length),∃ob kb,vs[j]?=some (.slice ob ls[j].length kb)∧COw w lab (10+j) tU8 1 ob ls[j].length kb (ls[j].map bV)
section
variable {w w':World} {lab lab':Nat→Nat} {ls:List By} {o:Option Addr} {n k:Nat}
theorem LsC.nil (w:World) (lab:Nat→Nat):LsC w lab [] none 0 0:=⟨rfl,[],COw.nil w lab _ _ _,rfl,fun j hj=>absurd hj (by simp)⟩
theorem LsC.stp {S:Nat→Prop} (h:LsC w lab ls o n k) (s:Stp S w lab w' lab') (h2:¬S 2) (hs:∀j,j < ls.length→¬S (10+j)):LsC w' lab' ls o n k:=by
 obtain ⟨h1,vs,h3,h4,h5⟩:=h
 exact ⟨h1,vs,h3.stp s h2,h4,fun j hj=>by obtain ⟨ob,kb,e1,e2⟩:=h5 j hj; exact ⟨ob,kb,e1,e2.stp s (hs j hj)⟩⟩
theorem LsC.read (h:LsC w lab ls o n k):RdLs w (fun _=>0) 0 ls o:=fun j hj=>by
 obtain ⟨rfl,vs,h1,h2,h3⟩:=h
 obtain ⟨ob,kb,e1,e2⟩:=h3 j hj
 obtain ⟨g,hg,hc⟩:=h1.own.cell e1
 exact ⟨g,0,ob,kb,hg,h1.own.lt ⟨_,hg,rfl⟩,rfl,by rw [Nat.zero_add]; exact hc,⟨e2.own.bytes,fun _ _ _=>rfl⟩,e2.own.cap.1⟩
theorem LsC.push {D:Nat} {b:By} {ob:Option Addr} {kb:Nat} (H:LsC w lab ls o n k) (B:Blk w D tSlU8 #[.slice ob b.length kb]) (hb:COw w lab (10+ls.length) tU8 1 ob b.length kb (b.map bV)) (hl:ls.length≤2 ^ 20) :
 ∃o' k' w',Sem.run Tryz.prog (builtinV .append #[tSlSl,tSlSl] tSlSl #[.slice o n k,.slice (some ⟨D,0,none⟩) 1 1]) w=.ok (.slice o' (n+1) k') w' ∧
  LsC w' (ext lab w.heap.size 2) (ls++[b]) o' (n+1) k'∧Stp (·=2) w lab w' (ext lab w.heap.size 2):=by
 obtain ⟨rfl,vs,hO,hv,hC⟩:=H
 obtain ⟨i,hi,hz,hs,hbt⟩:=info_of info_slU8
 obtain ⟨o',k',w',h1,h2,h3⟩:=COw.append (ty:=tSlSl) und_slSl hi hz hs (by rfl) hO (src_one und_slSl B rfl (by simp [Value.oneCell'])) (by simp only [maxLen]; omega) (by rw [hbt]; omega)
 refine ⟨o',k',w',h1,⟨by simp,_,h2,by simp [hv],fun j hj=>?_⟩,h3⟩
 rw [List.length_append,List.length_singleton] at hj
 by_cases hlt:j < ls.length
 ·obtain ⟨ob',kb',e1,e2⟩:=hC j hlt
  refine ⟨ob',kb',?_,?_⟩
  ·rw [List.getElem?_append_left (by omega),e1,List.getElem_append_left hlt]
  ·rw [List.getElem_append_left hlt]; exact e2.stp h3 (by omega)
 ·obtain rfl:j=ls.length:=by omega
  rw [List.getElem_append_right (Nat.le_refl _)]
  simp only [Nat.sub_self,List.getElem_cons_zero]
  refine ⟨ob,kb,?_,hb.stp h3 (by omega)⟩
  rw [List.getElem?_append_right (by omega),hv,Nat.sub_self]; rfl
end
theorem CopyLists_calls {w:World} {lab:Nat→Nat} {c:Nat} {p:List By} {o:Option Addr} {k:Nat} (h:RdLs w lab c p o) (hl:p.length≤2 ^ 20) (hb:∀x∈p,x.length≤2 ^ 30) :
 Calls Tryz.prog morainehelp_CopyLists.n #[.slice o p.length k] w (fun e w'=>∃L o' k',e=.returned (.slice o' p.length k')∧Vcg.Mod NoB w w'∧LsC w' L p o' p.length k'∧∀q,q < w.heap.size→L q=0):=by
 refine calls_gen fun R hR=>morainehelp_CopyLists.vc _ _ _ _ _ ?_
 unfold morainehelp_CopyLists.Vc
 have h0:RdLs w (fun _=>0) 0 p o:=h.re (fun _ _ _=>rfl)
 refine ⟨fun o' n' k' i w'=>∃(j:Nat) (L:Nat→Nat),i=(j:Int)∧j≤p.length∧n'=j∧Stp (fun q=>q=2) w (fun _=>0) w' L∧LsC w' L (p.take j) o' n' k',fun _ _ _ i _=>((p.length:Int) - i).toNat,
  ⟨0,_,rfl,Nat.zero_le _,rfl,Stp.refl _ _ _,by rw [List.take_zero]; exact LsC.nil _ _⟩,?_⟩
 rintro o1 j k1 _ _ w1 ⟨j',L1,rfl,hj,hjj,s1,O1⟩
 subst hjj
 refine ⟨fun hlt=>?_,fun hge=>?_⟩
 ·have hjl:j < p.length:=by omega
  have M1:Vcg.Mod NoB w w1:=s1.nob (fun q hq=>by decide)
  obtain ⟨d,ob,kb,rfl,h1,h2,h3⟩:=h0.cell hjl M1
  have hbl:=hb _ (List.getElem_mem hjl)
  obtain ⟨o3,k3,w3,hr3,F3⟩:=copy_bytes' (k2:=kb) (ty:=tSlU8) (Mod.refl w1) h2 (by omega)
  refine ⟨_,rfl,⟨by omega,by omega⟩,_,_,_,h1,_,w3,hr3,_,_,_,rfl,?_⟩
  rintro d4 w4 ⟨rfl,rfl⟩
  obtain ⟨C3,s3⟩:=F3.done (lab:=L1) (10+j)
  have O3:=O1.stp s3 (fun h=>h) (fun _ _ h=>h)
  have s4:Stp NoS w3 (ext L1 w1.heap.size (10+j)) (w3.alloc (.cells #[.slice o3 p[j].length k3] 23)) (ext (ext L1 w1.heap.size (10+j)) w3.heap.size 1):=Stp.alloc NoS w3 _ _ 1
  have C4:=C3.stp s4 (fun h=>h)
  have O4:=O3.stp s4 (fun h=>h) (fun _ _ h=>h)
  have B4:=Blk.new w3 23 #[.slice o3 p[j].length k3]
  have s14:=(s1.trans (s3.mono (T:=fun q=>q=2) (fun _ h=>h.elim))).trans (s4.mono (fun _ h=>h.elim))
  have htl:(p.take j).length=j:=by rw [List.length_take]; omega
  obtain ⟨o5,k5,w5,hr5,O5,s5⟩:=O4.push B4 (by rw [htl]; exact C4) (by omega)
  refine ⟨_,w5,hr5,_,_,_,rfl,?_⟩
  rw [show p.take j++[p[j]]=p.take (j+1) from (List.take_succ_eq_append_getElem hjl).symm] at O5
  exact ⟨⟨j+1,_,by rw [wrap_i64_small (by omega) (by omega)]; omega,hjl,rfl,s14.trans s5,O5⟩,by dsimp only; rw [wrap_i64_small (by omega) (by omega)]; omega⟩
 ·obtain rfl:j=p.length:=by omega
  rw [List.take_of_length_le (Nat.le_refl _)] at O1
  exact hR _ _ ⟨L1,o1,k1,rfl,s1.nob (fun q hq=>by decide),O1,fun q hq=>s1.lab q hq⟩
end Go.Proofs.YtfghidehlnfdiaaGreat
end
section
namespace Go.Proofs.YtfghidehlnfdiaaGreat
open Go Go.Vcg Go.Trie
section
variable {w0 w w':World} {L L':Nat→Nat} {t k b:Nat} {n:Nd} {o:Option Addr} {m:List (By×By)}
end
theorem wrap_u8_byte (z:Int):∃b:UInt8,IntKind.wrap .u8 z=(b.toNat:Int):=by
 refine ⟨UInt8.ofNat (z % 256).toNat,?_⟩
 rw [UInt8.toNat_ofNat',wrap_u8]
 omega
end Go.Proofs.YtfghidehlnfdiaaGreat
end
section
namespace Go.Trie
end Go.Trie
namespace Go.Proofs.YtfghidehlnfdiaaGreat
open Go Go.Vcg Go.Trie
def StR (w:World) (o:Option Addr) (l:List (By×By)):Prop :=
 ∀(j:Nat) (hj:j < l.length),∃b f ok kk ov kv,o=some ⟨b,f,none⟩∧b < w.heap.size∧w.cell? ⟨b,f+j * 2,none⟩=some (.slice ok l[j].1.length kk)∧RdB w ok l[j].1∧w.cell? ⟨b,f+(j * 2+1),none⟩=some (.slice ov l[j].2.length kv)∧RdB w ov l[j].2
theorem StR.mod' {w w':World} {o:Option Addr} {l:List (By×By)} (h:StR w o l) (M:Vcg.Mod NoB w w'):StR w' o l:=fun j hj=>by
 obtain ⟨b,f,ok,kk,ov,kv,e1,e2,e3,e4,e5,e6⟩:=h j hj
 exact ⟨b,f,ok,kk,ov,kv,e1,Nat.lt_of_lt_of_le e2 M.size,(cell_mod M e2 (fun h=>h)).trans e3,e4.mod' M,(cell_mod M e2 (fun h=>h)).trans e5,e6.mod' M⟩
end Go.Proofs.YtfghidehlnfdiaaGreat
end
section
namespace Go.Trie
theorem visit_bytes:∀{n:Nd},Small n→∀(top:Bool) (out:List (By×By)),(∀x∈out,x.2.length≤2000)→∀x∈visitN n top out,x.2.length≤2000:=by
 have put:∀{m:Nd} (out:List (By×By)) (top:Bool),Small m→(∀x∈out,x.2.length≤2000)→∀x∈putNode out top (bytesOf m),x.2.length≤2000:=by
  intro m out top hm ho x hx
  unfold putNode at hx
  split at hx
  ·exact ho x hx
  ·rcases List.mem_append.1 hx with hx | hx
   ·exact ho x hx
   ·simp only [List.mem_singleton] at hx
    rw [hx]; exact bytes_le hm
 intro n
 induction n with
 | nil=>intro hs top out ho x hx; exact ho x hx
 | leaf p v=>intro hs top out ho x hx; exact put out top hs ho x hx
 | row p c ih=>intro hs top out ho x hx; exact put _ top hs (ih hs.2 false out ho) x hx
 | branch cs v ih =>
   intro hs top out ho x hx
   have hf:∀(l:List (Fin 16)) (o:List (By×By)),(∀x∈o,x.2.length≤2000)→∀x∈l.foldl (fun o i=>visitN (cs i) false o) o,x.2.length≤2000:=by
    intro l
    induction l with
    | nil=>intro o ho x hx; exact ho x hx
    | cons i r ihr=>intro o ho x hx; exact ihr _ (ih i (hs.2 i) false o ho) x hx
   exact put _ top hs (hf _ out ho) x hx
theorem nodes_bytes {n:Nd} (hs:Small n):∀x∈nodesOf n,x.2.length≤2 ^ 20:=fun x hx=>by
 have:=visit_bytes hs true [] (fun _ h=>by cases h) x hx
 omega
theorem nodes_len (n:Nd):(nodesOf n).length≤cnt n:=by
 have:=visitN_len n true []
 simpa [nodesOf] using this
end Go.Trie
namespace Go.Proofs.YtfghidehlnfdiaaGreat
open Go Go.Vcg Go.Trie
end Go.Proofs.YtfghidehlnfdiaaGreat
end
section
namespace Go.Trie
theorem putM_snoc:∀{m:List (By×By)} {x:By×By},SortedM (m++[x])→x.2≠[]→putM m x.1 x.2=m++[x]
 | [],x,_,hv=>by simp only [putM]; rw [if_neg hv]; rfl
 | y :: r,x,hs,hv=>by
   rw [SortedM,List.cons_append,List.pairwise_cons] at hs
   simp only [putM]
   rw [if_pos (cmpB_lt.2 (hs.1 x (by simp))),putM_snoc hs.2 hv]
   rfl
end Go.Trie
namespace Go.Proofs.YtfghidehlnfdiaaGreat
open Go Go.Vcg Go.Trie
section
variable {w0 w w':World} {L L':Nat→Nat} {ta tb:Nat} {na nb n':Nd} {o:Option Addr} {m:List (By×By)}
end
end Go.Proofs.YtfghidehlnfdiaaGreat
end
section
namespace Go.Trie
theorem nodes_leaf (p v:By):nodesOf (.leaf p v)=[(rootOf (.leaf p v),bytesOf (.leaf p v))]:=by
 simp [nodesOf,visitN,putNode,met,rootOf]
end Go.Trie
namespace Go.Proofs.YtfghidehlnfdiaaGreat
open Go Go.Vcg Go.Trie
end Go.Proofs.YtfghidehlnfdiaaGreat
end
