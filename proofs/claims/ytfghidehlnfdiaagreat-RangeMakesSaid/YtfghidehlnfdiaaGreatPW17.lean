/- Contracts: caught (package proof), deferred; how Prove and Verify are left. -/
/- Contracts: Prove (package proof). -/
/- Contracts: the reference's find, Get (moraineref14), Prove (moraineref16). -/
/- Contracts: what Verify asks, Verify (package proof). -/
/- Contracts: Verify (package proof). -/
/- Contracts: few, does. -/
/- The walk of TrieRoots. -/
/- The walk of TrieOrder. -/
/- The walk of TrieOne. -/
/- Two Keccak values, round by round (printed by genk.py 16): of the empty text's encoding, of the leaf of one short key. -/
/- The law's own check of the document's proofs. -/
/- The walk of ProofTakes. -/
import Derived.Test.YtfghidehlnfdiaaGreatPW7
import Derived.Test.YtfghidehlnfdiaaGreatTVX
import Derived.Recover
import Derived.Test.YtfghidehlnfdiaaGreatTVF
set_option linter.unusedVariables false
set_option linter.unusedSimpArgs false
section
namespace Go.Proofs.YtfghidehlnfdiaaGreat
open Go Go.Vcg Go.Trie
def behind:Option Code→Code
 | some (.seq _ c)=>c
 | _=>.skip
def Z6Q (d0:Addr) (n:Int) (w:World) (R:Ending→World→Prop):Prop :=
 ∃v10:Value,Sem.run Tryz.prog (Instr.typeAssert (.iface 127 (.agg #[(.int .i64 n)])) 20 127 true) w=.ok v10 w ∧
 ∃n11:Int,∃b12:Bool,v10=(.tuple #[(.agg #[(.int .i64 n11)]),(.bool b12)]) ∧
 (((b12=true →
   ∀(d13:Addr) (w14:World),ZC w 127 #[(.int .i64 0)] d13 w14 →
   Z1 w14 d13 (.int .i64 n11)∧∀w15:World,ZA w14 d13 (.int .i64 n11) w15 →
   ∃n16:Int,World.cell? w15 d13=some (.int .i64 n16) ∧
   Z1 w15 d0 (.int .i64 n16)∧∀w17:World,ZA w15 d0 (.int .i64 n16) w17 →
   R (.returned (.tuple #[])) w17)) ∧
  ((b12=false →
   R (.panicked (ZES (.iface 127 (.agg #[(.int .i64 n)])))) w)))
def Z90 (R:Ending→World→Prop):Kont pC:={ nrm:=fun _ w=>R (.returned (.tuple #[])) w,exit:=fun _ _ _=>False,ret:=fun _ w=>R (.returned (.tuple #[])) w }
theorem ZB7 (d0:Addr) (n:Int) (w:World) (R:Ending→World→Prop):Z6Q d0 n w R=Z8A (pA Tryz.prog ⟨R,true⟩) Tryz.prog [] (behind Tryz.f32.body) (Z1l 0 [.addr d0,.tup [],.tup [],.tup [],.tup [],.iface 127 (.agg [.int .i64 n])]) w (Z90 R):=by kernel_rfl
theorem Z9t (d0:Addr) (w:World) (R:Ending→World→Prop):R (.returned (.tuple #[])) w=Z8A (pA Tryz.prog ⟨R,true⟩) Tryz.prog [] (behind Tryz.f32.body) (Z1l 0 [.addr d0,.tup [],.tup [],.tup [],.tup [],.nilIface]) w (Z90 R):=by kernel_rfl
theorem Z9u:Z1Y 15 (behind Tryz.f32.body)=true:=by kernel_rfl
theorem ZDi (n:Int) (w:World):Sem.run Tryz.prog (Instr.typeAssert (.iface 127 (.agg #[(.int .i64 n)])) 20 127 true) w=.ok (.tuple #[.agg #[.int .i64 n],.bool true]) w:=by kernel_rfl
def ZAV (post:World→Prop):Ending→World→Prop
 | .returned _,w'=>post w'
 | .panicked _,_=>False
 | .outgrown,_=>False
theorem ZFX {post:World→Prop} {ch:List PanicEntry} {w:World} {b:Prop} (h:ZAV post (.panicked ch) w):b:=False.elim h
theorem ZGO {post:World→Prop} {ch:List PanicEntry} {w:World} {b:Prop} (h:(Z6N.mk (ZAV post) true).fin (.panicked ch) w):b:=ZFX (post:=post) (ch:=ch) (w:=w) h
theorem Z4A {P:Program} {fn:Func} {c₀:Frame} {cs cs':List Frame} {R:Ending→FrameMode→World→Prop} {ch:List PanicEntry} {a a':Act} {w:World} (hd:a.defers=a'.defers) (h:bodyPostS P fn c₀ cs R (.panic ch) a cs' w):bodyPostS P fn c₀ cs R (.panic ch) a' cs' w:=⟨hd ▸ h.1,h.2⟩
theorem Z2X (tmps:Array Value) (w:World):(results Tryz.f32 tmps).run Tryz.prog w=.ok (.tuple #[]) w:=by
 simp [results,Tryz.results74]
theorem ZI2 {v0 v5:Value}:(#[v0]++(Array.replicate 14 undef).setIfInBounds 4 v5).size=15:=by
 rw [Array.size_append,Array.size_setIfInBounds,Array.size_replicate]; rfl
theorem rep15 {v0 v5:Value} {sv0 sv5:SV pC} (h0:toV sv0=v0) (h5:toV sv5=v5):Rep (Z1l 0 [sv0,.tup [],.tup [],.tup [],.tup [],sv5]) ({ tmps:=#[v0]++(Array.replicate 14 undef).setIfInBounds 4 v5,defers:=[] }:Act):=by
 intro k
 rw [Z4O,if_pos (Nat.zero_le _),Nat.sub_zero]
 have e1:toVs [sv0,.tup [],.tup [],.tup [],.tup [],sv5]=[v0,undef,undef,undef,undef,v5]:=by
  simp only [toVs,h0,h5]; rfl
 have e2:(#[v0]++(Array.replicate 14 undef).setIfInBounds 4 v5).toList=[v0,undef,undef,undef,undef,v5,undef,undef,undef,undef,undef,undef,undef,undef,undef]:=by
  rw [Array.toList_append,Array.toList_setIfInBounds,Array.toList_replicate]; rfl
 rw [e1,Array.getD_eq_getD_getElem?,← Array.getElem?_toList,e2,List.getD_eq_getElem?_getD]
 by_cases hk:k < 6
 ·have:k=0∨k=1∨k=2∨k=3∨k=4∨k=5:=by omega
  rcases this with rfl | rfl | rfl | rfl | rfl | rfl <;> rfl
 ·have e3:[v0,undef,undef,undef,undef,v5,undef,undef,undef,undef,undef,undef,undef,undef,undef]=[v0,undef,undef,undef,undef,v5]++List.replicate 9 undef:=rfl
  have e4:([v0,undef,undef,undef,undef,v5]:List Value)[k]?=none:=List.getElem?_eq_none (by simp only [List.length_cons,List.length_nil]; omega)
  rw [e4,e3,List.getElem?_append_right (by simp only [List.length_cons,List.length_nil]; omega),List.getElem?_replicate]
  split <;> rfl
theorem Z9v {Q:Exit→Act→World→Prop} {D:Nat} {v5:Value} {sv5:SV pC} {post:World→Prop} {w:World} (h5:toV sv5=v5)
  (h:Z8A (pA Tryz.prog ⟨ZAV post,true⟩) Tryz.prog [] (behind Tryz.f32.body) (Z1l 0 [.addr ⟨D,0,none⟩,.tup [],.tup [],.tup [],.tup [],sv5]) w (Z90 (ZAV post)))
  (hQ:∀ch (a a':Act) w,a.defers=a'.defers→Q (.panic ch) a w→Q (.panic ch) a' w) (h1:∀(a':Act) w',a'.defers=[]→post w'→Q .normal a' w') (h2:∀(a':Act) w',a'.defers=[]→post w'→Q .ret a' w') :
  (behind Tryz.f32.body).wp Tryz.prog Q { tmps:=#[Value.pointer (some ⟨D,0,none⟩)]++(Array.replicate 14 undef).setIfInBounds 4 v5,defers:=[] } w :=
 Z67 (R:=⟨ZAV post,true⟩) (ann:=[]) ZR (n:=15) (behind Tryz.f32.body) (Zr (behind Tryz.f32.body)) _ _ w (Z90 (ZAV post)) Q (rep15 (sv0:=.addr ⟨D,0,none⟩) (sv5:=sv5) rfl h5) ZI2 Z9u (fun _ h=>h) (fun ch a a' w hd _ hq=>hQ ch a a' w hd hq) (fun ch a' w' hd hk hf=>ZGO hf) h
  { nrm:=fun env' a' w' _ _ h3 _ h5=>h1 a' w' h3 h5
    exit:=fun i env' a' w' _ _ _ _ h5=>h5.elim
    ret:=fun env' a' w' _ _ h3 _ h5=>h2 a' w' h3 h5 }
set_option maxRecDepth 20000 in
theorem Z4C {D:Nat} {t:TypeId} {v:Value} {n:Int} {w:World} (B:Blk w D t #[v]) :
  CallsD Tryz.prog 32 #[.pointer (some ⟨D,0,none⟩)] (.panicking (Z2v n)) w (fun e u' w'=>e=.returned (.tuple #[])∧u'=.panicking [{ v:=.iface 127 (.agg #[.int .i64 n]),recovered:=true }]∧Blk w' D t #[.int .i64 n]∧Vcg.Mod (·=D) w w'):=by
 have hcf:Z6Q ⟨D,0,none⟩ n w (ZAV fun w'=>Blk w' D t #[.int .i64 n]∧Vcg.Mod (·=D) w w'):=by
  refine ⟨_,ZDi n w,n,true,rfl,fun _=>?_,fun h=>(by cases h)⟩
  rintro d w1 ⟨rfl,rfl⟩
  have F:=Blk.new w 127 #[.int .i64 0]
  have M1:=Mod.alloc (S:=(·=D)) w (.cells #[.int .i64 0] 127)
  have hD:=B.lt
  have B1:=B.mod (Mod.alloc (S:=NoB) w (.cells #[.int .i64 0] 127)) (fun h=>h)
  refine ⟨F.canSet (by simp) rfl,?_⟩
  rintro _ rfl
  have F2:=F.set 0 (.int .i64 n)
  have B2:=B1.set_ne (a:=⟨w.heap.size,0,none⟩) (v:=.int .i64 n) (by show D≠w.heap.size; omega)
  have M2:Vcg.Mod (·=D) w _:=M1.trans (Mod.setCell (w.alloc (.cells #[.int .i64 0] 127)) ⟨w.heap.size,0,none⟩ (.int .i64 n)) (fun i hi e=>by have he:i=w.heap.size:=e; omega)
  refine ⟨n,F2.rd1 rfl,B2.canSet (by simp) rfl,?_⟩
  rintro _ rfl
  exact ⟨B2.set 0 _,M2.step_set (a:=⟨D,0,none⟩) (fun _=>rfl)⟩
 have h:=Eq.mp (ZB7 ⟨D,0,none⟩ n w _) hcf
 clear hcf
 refine callsD_of_wpS Tryz.func32 rfl fun c₀ cs hu=>?_
 apply wpS_seq
 apply wpS_region
 simp [wpOpsS,go_sem,recoverD,hu,Tryz.ntmps74,Exit.thenS]
 refine wpS_of_wp (Z9v (post:=fun w'=>Blk w' D t #[.int .i64 n]∧Vcg.Mod (·=D) w w') (sv5:=.iface 127 (.agg [.int .i64 n])) rfl h (fun ch a a' w hd hq=>Z4A hd hq) ?_ ?_)
 ·exact fun a' w' hd hr=>⟨hd,_,rfl,_,Z2X _ _,rfl,rfl,hr.1,hr.2⟩
 ·exact fun a' w' hd hr=>⟨hd,_,rfl,_,Z2X _ _,rfl,rfl,hr.1,hr.2⟩
set_option maxRecDepth 20000 in
theorem Z53 {D:Nat} {w:World} :
  CallsD Tryz.prog 32 #[.pointer (some ⟨D,0,none⟩)] .returning w (fun e u' w'=>e=.returned (.tuple #[])∧u'=.returning∧w'=w):=by
 have h:=Eq.mp (Z9t ⟨D,0,none⟩ w (ZAV fun w'=>w'=w)) rfl
 refine callsD_of_wpS Tryz.func32 rfl fun c₀ cs hu=>?_
 apply wpS_seq
 apply wpS_region
 simp [wpOpsS,go_sem,recoverD,hu,Tryz.ntmps74,Exit.thenS]
 refine wpS_of_wp (Z9v (post:=fun w'=>w'=w) (sv5:=.nilIface) rfl h (fun ch a a' w hd hq=>Z4A hd hq) ?_ ?_)
 ·exact fun a' w' hd hr=>⟨hd,.returning,by rw [← hu],_,Z2X _ _,rfl,rfl,hr⟩
 ·exact fun a' w' hd hr=>⟨hd,.returning,by rw [← hu],_,Z2X _ _,rfl,rfl,hr⟩
end Go.Proofs.YtfghidehlnfdiaaGreat
end
section
namespace Go.Proofs.YtfghidehlnfdiaaGreat
open Go Go.Vcg Go.Trie
def Z5g (l:List (By×By)) (root key:By):Except Int (List By) :=
 if l.length > 4096 then .error 162 else if key.length > 64 then .error 140 else
 match way (pStep l) [] (rootIt root) (nibbles key) with
 | (out,.ok _)=>.ok out
 | (_,.error e)=>.error e
def ZAx (l:List (By×By)) (root key:By) (w:World) (e:Ending) (w':World):Prop :=
 Vcg.Mod NoB w w'∧match Z5g l root key with
  | .error er=>er≠0∧e=.returned (.tuple #[.slice none 0 0,.int .i64 er])
  | .ok out=>∃o n k,e=.returned (.tuple #[.slice o n k,.int .i64 0])∧∃lab' c cb,Z4m w' lab' c cb out o n k
def lab8 (N:Nat):Nat→Nat:=fun k=>if k=N+1 then 7 else if N≤k then 1 else 0
theorem ZCJ {N k:Nat} (h:k < N):lab8 N k=0:=by unfold lab8; rw [if_neg (by omega),if_neg (by omega)]
theorem ZBP {R:Ending→World→Prop} {rt:World→Prop} {dE dO:Nat} {n n0:Int} {o:Option Addr} {l k:Nat} {w:World} (hn:n≠0) (hne:dE≠dO) (E:Blk w dE 40 #[.int .i64 n0]) (O:Blk w dO 31 #[.slice o l k])
  (K:∀w',Blk w' dE 40 #[.int .i64 n]→Blk w' dO 31 #[.slice none 0 0]→Vcg.Mod (fun b=>b=dE∨b=dO) w w'→rt w') :
  Z2t Tryz.prog rt R [(32,#[.pointer (some ⟨dE,0,none⟩)]),(48,#[.pointer (some ⟨dE,0,none⟩),.pointer (some ⟨dO,0,none⟩)])] (.panicking (Z2v n)) w:=by
 refine ⟨fun h=>(by cases h),(Z4C E).mono ?_⟩
 rintro _ _ w1 ⟨rfl,rfl,E1,M1⟩
 have O1:=O.mod M1 (fun h=>hne h.symm)
 refine ⟨fun h=>(by cases h),?_⟩
 refine (Z1C.vcd .returning _ _ w1 (fun e w'=>e=.returned (.tuple #[])∧Blk w' dE 40 #[.int .i64 n]∧Blk w' dO 31 #[.slice none 0 0]∧Vcg.Mod (·=dO) w1 w') ?_).mono ?_
 ·unfold Z1C.Vc
  refine ⟨n,E1.rd1 rfl,fun _=>⟨O1.canSet (by simp) rfl,?_⟩,fun h=>(hn h).elim⟩
  rintro _ rfl
  exact ⟨rfl,E1.set_ne (by exact hne),O1.set 0 _,Mod.setCell w1 ⟨dO,0,none⟩ _⟩
 ·rintro _ _ w2 ⟨rfl,rfl,E2,O2,M2⟩
  exact K w2 E2 O2 ((M1.mono (fun _ _ h=>.inl h)).trans M2 (fun _ _ h=>.inr h))
theorem ZDA {R:Ending→World→Prop} {rt:World→Prop} {dE dO:Nat} {w:World} (E:Blk w dE 40 #[.int .i64 0]) (K:rt w) :
  Z2t Tryz.prog rt R [(32,#[.pointer (some ⟨dE,0,none⟩)]),(48,#[.pointer (some ⟨dE,0,none⟩),.pointer (some ⟨dO,0,none⟩)])] .returning w:=by
 refine ⟨fun h=>(by cases h),Z53.mono ?_⟩
 rintro _ _ w1 ⟨rfl,rfl,rfl⟩
 refine ⟨fun h=>(by cases h),?_⟩
 refine (Z1C.vcd .returning _ _ w1 (fun e w'=>e=.returned (.tuple #[])∧w'=w1) ?_).mono ?_
 ·unfold Z1C.Vc
  exact ⟨0,E.rd1 rfl,fun h=>(h rfl).elim,fun _=>⟨rfl,rfl⟩⟩
 ·rintro _ _ w2 ⟨rfl,rfl,rfl⟩
  exact K
theorem ZAy {w:World} {lab:Nat→Nat} {c:Nat} {l:List (By×By)} {o ok:Option Addr} {k kk:Nat} {root key:By} (h:Z0w w lab c l o l.length) (hlen:l.length≤2 ^ 40) (hb:∀x∈l,x.2.length≤2 ^ 30) (hroot:root.length=32) (hkey:RdB w ok key) :
  Calls Tryz.prog Z1t.n #[.slice o l.length k,.agg (hashA root),.slice ok key.length kk] w (ZAx l root key w):=by
 refine ZH fun R hR=>Z1t.vc _ _ _ _ _ _ _ _ _ ?_
 unfold Z1t.Vc
 have hN:Z0w w (lab8 w.heap.size) 0 l o l.length:=Z0w.re h (fun k hk _=>ZCJ hk)
 rintro d3 w1 ⟨rfl,rfl⟩
 have M1:=Mod.alloc (S:=NoB) w (.cells (hashA root) 27)
 have X1:=Blk.new w 27 (hashA root)
 have z1:=ZD w (.cells (hashA root) 27)
 generalize hNe:w.heap.size=N at *
 generalize w.alloc (.cells (hashA root) 27)=w1 at *
 rintro d5 w2 ⟨rfl,rfl⟩
 have M12:=Mod.alloc (S:=NoB) w1 (.cells #[.slice none 0 0] 31)
 have O2:=Blk.new w1 31 #[.slice none 0 0]
 have z2:=ZD w1 (.cells #[.slice none 0 0] 31)
 have X2:=X1.mod' M12
 have M2:=M1.none_trans M12
 rw [z1] at O2 z2 ⊢
 generalize w1.alloc (.cells #[.slice none 0 0] 31)=w2 at *
 rintro d7 w3 ⟨rfl,rfl⟩
 have M23:=Mod.alloc (S:=NoB) w2 (.cells #[.int .i64 0] 40)
 have E3:=Blk.new w2 40 #[.int .i64 0]
 have z3:=ZD w2 (.cells #[.int .i64 0] 40)
 have X3:=X2.mod' M23
 have O3:=O2.mod' M23
 have M3:=M2.none_trans M23
 rw [z2] at E3 z3 ⊢
 generalize w2.alloc (.cells #[.int .i64 0] 40)=w3 at *
 have s3:Stp NoS w (lab8 N) w3 (lab8 N):=⟨M3.os,M3.tape,M3.output,M3.size,fun _ _=>rfl,fun q hq _=>M3.block q hq (fun h=>h)⟩
 have hN3:=hN.stp s3 (fun h=>h)
 have lO:lab8 N (N+1)=7:=if_pos rfl
 have lX:lab8 N N=1:=by unfold lab8; rw [if_neg (by omega),if_pos (Nat.le_refl _)]
 have lE:lab8 N (N+1+1)=1:=by unfold lab8; rw [if_neg (by omega),if_pos (by omega)]
 refine (Z6i (k:=k) (held:=false) hN3 hlen).mono ?_
 rintro e w4 ⟨M4,hbig,hsmall⟩
 have s34:Stp NoS w3 (lab8 N) w4 (ext (lab8 N) w3.heap.size 9):=Stp.of_nob M4 9
 have M04:=M3.none_trans M4
 have z4:=M4.size
 obtain ⟨m11,b12,n13,rfl,hcase⟩:∃m11 b12 n13,e=.returned (.tuple #[.agg #[.map m11,.bool b12],.int .i64 n13])∧((n13=162∧l.length > 4096)∨(n13=0∧l.length≤4096∧b12=false∧∃m,m11=some m∧ZB0 w4 (ext (lab8 N) w3.heap.size 9) 9 0 l m)):=by
  by_cases hl:l.length > 4096
  ·exact ⟨_,_,_,hbig hl,.inl ⟨rfl,hl⟩⟩
  ·obtain ⟨m,he,hm⟩:=hsmall (by omega)
   exact ⟨_,_,_,he,.inr ⟨rfl,by omega,rfl,m,rfl,hm⟩⟩
 have X4:CB w4 (ext (lab8 N) w3.heap.size 9) 1 N 27 (hashA root):=(CB.mk X3 lX).stp s34 (fun h=>h)
 have O4:CB w4 (ext (lab8 N) w3.heap.size 9) 7 (N+1) 31 #[.slice none 0 0]:=(CB.mk O3 lO).stp s34 (fun h=>h)
 have E4:CB w4 (ext (lab8 N) w3.heap.size 9) 1 (N+1+1) 40 #[.int .i64 0]:=(CB.mk E3 lE).stp s34 (fun h=>h)
 have hlab4:∀b,ext (lab8 N) w3.heap.size 9 b=5∨ext (lab8 N) w3.heap.size 9 b=7∨ext (lab8 N) w3.heap.size 9 b=8→N≤b:=by
  intro b hb
  refine Nat.le_of_not_lt fun hlt=>?_
  rw [Z2E (by omega),ZCJ hlt] at hb
  omega
 clear hbig hsmall X3 O3 E3 hN3 s34 s3
 generalize ext (lab8 N) w3.heap.size 9=lab4 at *
 refine .inr ⟨_,_,_,rfl,?_⟩
 rintro d14 w5 ⟨rfl,rfl⟩
 have s45:Stp NoS w4 lab4 (w4.alloc (.cells #[.map none,.bool false] 69)) (ext lab4 w4.heap.size 1):=Stp.alloc NoS w4 lab4 _ 1
 have M45:=Mod.alloc (S:=NoB) w4 (.cells #[.map none,.bool false] 69)
 have D5:=CB.new w4 lab4 1 69 #[.map none,.bool false]
 have X5:=X4.stp s45 (fun h=>h)
 have O5:=O4.stp s45 (fun h=>h)
 have E5:=E4.stp s45 (fun h=>h)
 have hlab5:∀b,ext lab4 w4.heap.size 1 b=5∨ext lab4 w4.heap.size 1 b=7∨ext lab4 w4.heap.size 1 b=8→N≤b:=by
  intro b hb
  by_cases hlt:b < w4.heap.size
  ·rw [Z2E hlt] at hb; exact hlab4 b hb
  ·omega
 have M05:=M04.none_trans M45
 have hD:N+1+1 < w4.heap.size:=by omega
 generalize w4.heap.size=D at *
 generalize w4.alloc (.cells #[.map none,.bool false] 69)=w5 at *
 generalize ext lab4 D 1=lab5 at *
 refine ⟨D5.blk.canSet (by simp) rfl,?_⟩
 rintro _ rfl
 have D6:=D5.set 0 (.map m11)
 have Q6:Vcg.Mod (·=D) w5 _:=Mod.setCell w5 ⟨D,0,none⟩ (.map m11)
 rw [Z6,Nat.zero_add]
 refine ⟨D6.blk.canSet (by simp) rfl,?_⟩
 rintro _ rfl
 have D7:=D6.set 1 (.bool b12)
 have Q7:=Q6.step_set (a:=⟨D,1,none⟩) (v:=.bool b12) (fun _=>rfl)
 have s57:Stp (·=1) w5 lab5 _ lab5:=⟨Q7.os,Q7.tape,Q7.output,Q7.size,fun _ _=>rfl,fun q hq hn=>Q7.block q hq (fun e=>hn (by rw [e]; exact D5.clr))⟩
 have E7:=E5.blk.mod Q7 (by omega)
 have X7:=X5.blk.mod Q7 (by omega)
 have O7:=O5.stp s57 (by decide)
 generalize ((w5.setCell ⟨D,0,none⟩ (.map m11)).setCell ⟨D,1,none⟩ (.bool b12))=w7 at *
 refine ⟨E7.canSet (by simp) rfl,?_⟩
 rintro _ rfl
 have E8:=E7.set 0 (.int .i64 n13)
 have Q8:Vcg.Mod (·=N+1+1) w7 _:=Mod.setCell w7 ⟨N+1+1,0,none⟩ (.int .i64 n13)
 have s78:Stp (·=1) w7 lab5 _ lab5:=⟨Q8.os,Q8.tape,Q8.output,Q8.size,fun _ _=>rfl,fun q hq hn=>Q8.block q hq (fun e=>hn (by rw [e]; exact E5.clr))⟩
 have X8:=X7.mod Q8 (by omega)
 have O8:=O7.stp s78 (by decide)
 have D8:CB (w7.setCell ⟨N+1+1,0,none⟩ (.int .i64 n13)) lab5 1 D 69 #[.map m11,.bool b12]:=⟨D7.blk.mod Q8 (by omega),D7.clr⟩
 have M08:Vcg.Mod NoB w _:=ZM (ZM M05 Q7 (by omega)) Q8 (by omega)
 have E8c:CB (w7.setCell ⟨N+1+1,0,none⟩ (.int .i64 n13)) lab5 1 (N+1+1) 40 #[.int .i64 n13]:=⟨E8,E5.clr⟩
 have s48:=(s45.mono (T:=fun k=>k=1) (fun _ h=>h.elim)).trans (s57.trans s78)
 generalize w7.setCell ⟨N+1+1,0,none⟩ (.int .i64 n13)=w8 at *
 refine ⟨_,E8.rd1 rfl,fun hne=>?_,fun h0=>?_⟩
 ·obtain ⟨rfl,hl⟩:=hcase.resolve_right (fun h=>hne h.1)
  rintro _ rfl
  have E9:=E8.drew
  have O9:=O8.blk.drew
  have M09:=M08.step_drew
  refine ⟨_,E9.rd1 rfl,O9.canSet (by simp) rfl,?_⟩
  rintro _ rfl
  have O10:=O9.set 0 (.slice none 0 0)
  have E10:=E9.set_ne (a:=⟨N+1,0,none⟩) (v:=.slice none 0 0) (by show N+1+1≠N+1; omega)
  have M10:Vcg.Mod NoB w _:=ZM M09 (Mod.setCell w8.drew ⟨N+1,0,none⟩ (.slice none 0 0)) (by show w.heap.size≤N+1; omega)
  refine ⟨E10.rd1 rfl,E10.canSet (by simp) rfl,?_⟩
  rintro _ rfl
  have E11:=E10.set 0 (.int .i64 162)
  have O11:=O10.set_ne (a:=⟨N+1+1,0,none⟩) (v:=.int .i64 162) (by show N+1≠N+1+1; omega)
  refine ⟨_,_,_,O11.rd1 rfl,_,E11.rd1 rfl,hR _ _ ⟨ZM M10 (Mod.setCell _ ⟨N+1+1,0,none⟩ (.int .i64 162)) (by show w.heap.size≤N+1+1; omega),?_⟩⟩
  unfold Z5g
  rw [if_pos hl]
  exact ⟨by decide,rfl⟩
 ·obtain ⟨rfl,hl,rfl,m,rfl,hSM⟩:=hcase.resolve_left (fun h=>by rw [h.1] at h0; exact absurd h0 (by decide))
  refine ⟨fun hk=>?_,fun hk=>?_⟩
  ·refine ⟨O8.blk.canSet (by simp) rfl,?_⟩
   rintro _ rfl
   have O10:=O8.blk.set 0 (.slice none 0 0)
   have E10:=E8.set_ne (a:=⟨N+1,0,none⟩) (v:=.slice none 0 0) (by show N+1+1≠N+1; omega)
   have M10:Vcg.Mod NoB w _:=ZM M08 (Mod.setCell w8 ⟨N+1,0,none⟩ (.slice none 0 0)) (by show w.heap.size≤N+1; omega)
   refine ⟨E10.canSet (by simp) rfl,?_⟩
   rintro _ rfl
   have E11:=E10.set 0 (.int .i64 140)
   have O11:=O10.set_ne (a:=⟨N+1+1,0,none⟩) (v:=.int .i64 140) (by show N+1≠N+1+1; omega)
   refine ⟨_,_,_,O11.rd1 rfl,_,E11.rd1 rfl,hR _ _ ⟨ZM M10 (Mod.setCell _ ⟨N+1+1,0,none⟩ (.int .i64 140)) (by show w.heap.size≤N+1+1; omega),?_⟩⟩
   unfold Z5g
   rw [if_neg (by omega),if_pos (by omega)]
   exact ⟨by decide,rfl⟩
  ·refine ⟨_,X8.rowAll (ZB _),?_⟩
   have hI:ZHU l D (N+1) m w8 lab5 []:=⟨D8,hSM.stp s48 (by decide) (by decide),none,0,0,O8,Z4m.nil _ _ _ _⟩
   refine (ZAo (askP (dS:=D) (dO:=N+1) (m:=m) hb) hI (by simp) hroot (hkey.mod' M08) (by omega)).mono ?_
   rintro e w9 ⟨lab9,s89,I9,hw⟩
   have hpr:Z5g l root key=(match way (pStep l) [] (rootIt root) (nibbles key) with
     | (out,.ok _)=>.ok out
     | (_,.error e)=>.error e):=by
    unfold Z5g; rw [if_neg (by omega),if_neg (by omega)]
   have E9:=E8c.stp s89 (by decide)
   obtain ⟨_,_,o9,n9,k9,O9,L9⟩:=I9
   have M89:Vcg.Mod (fun b=>N≤b) w8 w9:=s89.mod (fun q hq hs=>hlab5 q hs)
   have M09:Vcg.Mod NoB w w9:=M08.trans M89 (fun i hi h=>by omega)
   generalize way (pStep l) [] (rootIt root) (nibbles key)=res at hw hpr L9
   obtain ⟨out,r⟩:=res
   cases r with
   | error er =>
     obtain ⟨rfl,hne⟩:=hw
     refine .inl ⟨_,rfl,ZBP hne (by omega) E9.blk O9.blk (fun w10 E10 O10 M10=>?_)⟩
     refine ⟨_,_,_,O10.rd1 rfl,_,E10.rd1 rfl,hR _ _ ⟨M09.trans M10 (fun i hi h=>by omega),?_⟩⟩
     rw [hpr]
     exact ⟨hne,rfl⟩
   | ok v =>
     obtain ⟨ov,kv,rfl,hv⟩:=hw
     refine .inr ⟨_,_,_,_,rfl,_,_,_,O9.blk.rd1 rfl,O9.blk.canSet (by simp) rfl,?_⟩
     rintro _ rfl
     have O10:=O9.set 0 (.slice o9 n9 k9)
     have s910:Stp (·=7) w9 lab9 _ lab9:=Stp.setCell (a:=⟨N+1,0,none⟩) (v:=.slice o9 n9 k9) O9.clr
     have L10:=L9.stp s910 (by decide) (by decide)
     have E10:=E9.stp s910 (by decide)
     have M10:Vcg.Mod NoB w _:=ZM M09 (Mod.setCell w9 ⟨N+1,0,none⟩ (.slice o9 n9 k9)) (by show w.heap.size≤N+1; omega)
     refine ⟨E10.blk.canSet (by simp) rfl,?_⟩
     rintro _ rfl
     have E11:=E10.set 0 (.int .i64 0)
     have s1011:Stp (·=1) (w9.setCell ⟨N+1,0,none⟩ (.slice o9 n9 k9)) lab9 _ lab9:=Stp.setCell (a:=⟨N+1+1,0,none⟩) (v:=.int .i64 0) E10.clr
     have L11:=L10.stp s1011 (by decide) (by decide)
     have O11:=O10.stp s1011 (by decide)
     refine ZDA E11.blk ⟨_,_,_,O11.blk.rd1 rfl,_,E11.blk.rd1 rfl,hR _ _ ⟨ZM M10 (Mod.setCell _ ⟨N+1+1,0,none⟩ (.int .i64 0)) (by show w.heap.size≤N+1+1; omega),?_⟩⟩
     rw [hpr]
     exact ⟨o9,n9,k9,rfl,lab9,8,9,L11⟩
end Go.Proofs.YtfghidehlnfdiaaGreat
end
section
namespace Go.Proofs.YtfghidehlnfdiaaGreat
open Go Go.Vcg Go.Trie
theorem ZDp {Z:Array Value} {b:By} (hZ:Z.size=32) (hb:b.length=32):setsAt Z 0 ((b.take 32).map bV)=hashA b:=by
 have ht:b.take 32=b:=List.take_of_length_le (by omega)
 rw [ht]
 apply Array.ext_getElem?
 intro i
 rw [Z03 _ _ _ _ (by simp [hb,hZ])]
 by_cases hi:i < 32
 ·rw [if_pos ⟨Nat.zero_le _,by simp [hb]; exact hi⟩,Nat.sub_zero]
  simp only [hashA]
  rw [ZF hi]
  simp [List.getD_eq_getElem?_getD,hb,hi]
 ·rw [if_neg (by simp [hb]; omega),Array.getElem?_eq_none (by omega),Array.getElem?_eq_none (by rw [ZB]; omega)]
section
variable {w:World} {lab:Nat→Nat} {c:Nat}
end
theorem ZDH {l:List (By×By)} {root key:By} (h1:¬l.length > 4096) (h2:¬key.length > 64):Z5g l root key=(match way (pStep l) [] (rootIt root) (nibbles key) with
  | (out,.ok _)=>.ok out
  | (_,.error e)=>.error e):=by
 unfold Z5g
 exact (if_neg h1).trans (if_neg h2)
end Go.Proofs.YtfghidehlnfdiaaGreat
end
section
namespace Go.Proofs.YtfghidehlnfdiaaGreat
open Go Go.Vcg Go.Trie
def ZDc (w:World) (lab:Nat→Nat) (c:Nat) (ls:List By) (o:Option Addr):Prop :=
 ∀(j:Nat) (hj:j < ls.length),∃g f ob kb,o=some ⟨g,f,none⟩∧g < w.heap.size∧lab g=c∧w.cell? ⟨g,f+j,none⟩=some (.slice ob ls[j].length kb)∧CBy w lab c ob ls[j]∧ls[j].length≤kb
section
variable {w w':World} {lab lab':Nat→Nat} {c:Nat} {ls:List By} {o:Option Addr}
theorem ZDc.stp {S:Nat→Prop} (h:ZDc w lab c ls o) (s:Stp S w lab w' lab') (hs:¬S c):ZDc w' lab' c ls o:=fun j hj=>by
 obtain ⟨g,f,ob,kb,h1,h2,h3,h4,h5,h6⟩:=h j hj
 exact ⟨g,f,ob,kb,h1,Nat.lt_of_lt_of_le h2 s.size,(s.lab g h2).trans h3,(World.cell?_of_block (s.block g h2 (by rw [h3]; exact hs))).trans h4,h5.stp s hs,h6⟩
theorem ZDc.re {c':Nat} (h:ZDc w lab c ls o) (hl:∀k,k < w.heap.size→lab k=c→lab' k=c'):ZDc w lab' c' ls o:=fun j hj=>by
 obtain ⟨g,f,ob,kb,h1,h2,h3,h4,h5,h6⟩:=h j hj
 exact ⟨g,f,ob,kb,h1,h2,hl g h2 h3,h4,CBy.re h5 hl,h6⟩
theorem Z4m.read {c cb n k:Nat} (h:Z4m w lab c cb ls o n k) (hl:∀k,k < w.heap.size→lab k=c∨lab k=cb→lab' k=0):ZDc w lab' 0 ls o:=fun j hj=>by
 obtain ⟨rfl,vs,h1,h2,h3⟩:=h
 obtain ⟨ob,kb,e1,e2,e3⟩:=h3 j hj
 obtain ⟨g,hg,hc⟩:=h1.own.cell e1
 have hlt:=h1.own.lt ⟨_,hg,rfl⟩
 exact ⟨g,0,ob,kb,hg,hlt,hl g hlt (.inl (h1.clr g ⟨_,hg,rfl⟩)),by rw [Nat.zero_add]; exact hc,CBy.re e2 (fun k hk he=>hl k hk (.inr he)),e3⟩
end
def vStep (p:List By) (at_:Nat) (h:By):Nat×Except Int By:=match p[at_]? with
 | none=>(at_,.error 160)
 | some b=>(at_+1,if sumOf b=h then .ok b else .error 163)
def ZHM (p:List By) (o:Option Addr) (k:Nat) (dA dP:Nat) (w:World) (lab:Nat→Nat) (at_:Nat):Prop :=
 CB w lab 7 dA 3 #[.int .i64 (at_:Int)]∧CB w lab 1 dP 31 #[.slice o p.length k]∧ZDc w lab 0 p o∧at_≤p.length
theorem ZHM.stp {S:Nat→Prop} {p:List By} {o:Option Addr} {k dA dP at_:Nat} {w w':World} {lab lab':Nat→Nat} (h:ZHM p o k dA dP w lab at_) (s:Stp S w lab w' lab') (h0:¬S 0) (hS1:¬S 1) (h7:¬S 7):ZHM p o k dA dP w' lab' at_:=by
 obtain ⟨h1,h2,h3,h4⟩:=h
 exact ⟨h1.stp s h7,h2.stp s hS1,h3.stp s h0,h4⟩
theorem askV {p:List By} {o:Option Addr} {k dA dP:Nat} (hp:p.length≤2 ^ 40) (hb:∀x∈p,x.length≤2 ^ 30):ZGF (.func (.func 52) #[] #[.pointer (some ⟨dA,0,none⟩),.pointer (some ⟨dP,0,none⟩)]) (fun q=>q=7) (ZHM p o k dA dP) (vStep p) (fun _ _=>True) where
 le _ _:=trivial
 s5:=by decide
 s6:=by decide
 stp h s:=h.stp s (by decide) (by decide) (by decide)
 run:=by
  intro w lab at_ h n hI _ hh
  refine ⟨52,#[],_,rfl,by kernel_rfl,?_⟩
  refine ZH fun R hR=>Z1j.vc _ _ _ _ _ ?_
  unfold Z1j.Vc
  rintro d3 w1 ⟨rfl,rfl⟩
  have s1:Stp NoS w lab (w.alloc (.cells (hashA h) 27)) (ext lab w.heap.size 9):=Stp.alloc NoS w lab _ 9
  have X1:=CB.new w lab 9 27 (hashA h)
  have I1:=hI.stp s1 (fun h=>h) (fun h=>h) (fun h=>h)
  generalize w.heap.size=D3 at *
  generalize w.alloc (.cells (hashA h) 27)=w1 at *
  generalize ext lab D3 9=lab1 at *
  obtain ⟨bA,bP,hL,hat⟩:=id I1
  refine ⟨fun w'=>w'=w1∧at_ < p.length,⟨_,bA.blk.rd1 rfl,_,_,_,bP.blk.rd1 rfl,fun heq=>?_,fun hne=>⟨rfl,by omega⟩⟩,?_⟩
  ·have hn:p[at_]?=none:=List.getElem?_eq_none (by omega)
   have hst:vStep p at_ h=(at_,.error 160):=by unfold vStep; rw [hn]
   rw [hst] at hR
   refine (Z1P w1 160).mono ?_
   rintro e w2 ⟨rfl,he⟩
   rw [if_neg (by decide)] at he
   subst he
   refine .inl ⟨_,rfl,hR _ _ ⟨lab1,s1.mono (fun _ h=>h.elim),I1,trivial,fun er her=>?_,fun b hb=>by cases hb⟩⟩
   cases her; exact ⟨rfl,by decide⟩
  ·rintro _ w2 ⟨rfl,hlt⟩
   obtain ⟨g,f,ob,kb,rfl,hg,hlg,hcell,hby,hkb⟩:=hL at_ hlt
   have ew:IntKind.wrap .i64 ((at_:Int)+1)=((at_+1:Nat):Int):=by rw [Z0 (by omega) (by omega)]; omega
   have hsm:p[at_]?=some p[at_]:=List.getElem?_eq_getElem hlt
   have hbl:=hb _ (List.getElem_mem hlt)
   refine ⟨_,_,_,bP.blk.rd1 rfl,_,bA.blk.rd1 rfl,_,rfl,⟨by omega,by omega⟩,_,_,_,by rw [Z6,Int.toNat_natCast]; exact hcell,_,bA.blk.rd1 rfl,bA.blk.canSet (by simp) rfl,?_⟩
   rintro _ rfl
   rw [ew]
   have s2:Stp (·=7) w2 lab1 (w2.setCell ⟨dA,0,none⟩ (.int .i64 ((at_+1:Nat):Int))) lab1:=Stp.setCell bA.clr
   have bA2:=bA.set 0 (.int .i64 ((at_+1:Nat):Int))
   have bP2:=bP.stp s2 (by decide)
   have hL2:=hL.stp s2 (by decide)
   have hby2:=hby.stp s2 (by decide)
   have X2:=X1.stp s2 (by decide)
   generalize w2.setCell ⟨dA,0,none⟩ (.int .i64 ((at_+1:Nat):Int))=w3 at *
   rintro _ rfl
   have s3:Stp NoS w3 lab1 w3.drew lab1:=Stp.drew _ _ _
   have bA3:=bA2.stp s3 (fun h=>h)
   have bP3:=bP2.stp s3 (fun h=>h)
   have hL3:=hL2.stp s3 (fun h=>h)
   have hby3:=hby2.stp s3 (fun h=>h)
   have X3:=X2.stp s3 (fun h=>h)
   generalize w3.drew=w4 at *
   refine ⟨_,X3.blk.rowAll (ZB _),?_⟩
   rintro d25 w5 ⟨rfl,rfl⟩
   have s4:Stp NoS w4 lab1 (w4.alloc (.cells #[.slice ob p[at_].length kb] 23)) (ext lab1 w4.heap.size 9):=Stp.alloc NoS w4 lab1 _ 9
   have N5:=Blk.new w4 23 #[.slice ob p[at_].length kb]
   have bA5:=bA3.stp s4 (fun h=>h)
   have bP5:=bP3.stp s4 (fun h=>h)
   have hL5:=hL3.stp s4 (fun h=>h)
   have hby5:=hby3.stp s4 (fun h=>h)
   have X5:=X3.stp s4 (fun h=>h)
   have s05:Stp (fun q=>q=7) w lab _ _:=(((s1.mono (T:=fun q=>q=7) (fun _ h=>h.elim)).trans s2).trans (s3.mono (fun _ h=>h.elim))).trans (s4.mono (fun _ h=>h.elim))
   generalize w4.heap.size=D5 at *
   generalize w4.alloc (.cells #[.slice ob p[at_].length kb] 23)=w5 at *
   generalize ext lab1 D5 9=lab5 at *
   refine ⟨X5.blk.rowAll (ZB _),?_⟩
   refine (Z9i [p[at_]] rfl (by simp) (ZFt.one N5 hby5.rd) (by simp; omega)).mono ?_
   rintro _ w6 ⟨rfl,M6⟩
   have s6:Stp NoS w5 lab5 w6 (ext lab5 w5.heap.size 9):=Stp.of_nob M6 9
   have bA6:=bA5.stp s6 (fun h=>h)
   have bP6:=bP5.stp s6 (fun h=>h)
   have hL6:=hL5.stp s6 (fun h=>h)
   have hby6:=hby5.stp s6 (fun h=>h)
   have X6:=X5.stp s6 (fun h=>h)
   have s06:=s05.trans (s6.mono (T:=fun q=>q=7) (fun _ h=>h.elim))
   generalize ext lab5 w5.heap.size 9=lab6 at *
   have e2:[p[at_]].flatten=p[at_]:=by simp
   rw [e2]
   have I6:ZHM p (some ⟨g,f,none⟩) k dA dP w6 lab6 (at_+1):=⟨bA6,bP6,hL6,hlt⟩
   refine .inr ⟨_,rfl,X6.blk.rowAll (ZB _),_,Z99 _ _ (Z04 _) hh,_,rfl,fun hb'=>?_,fun hb'=>?_⟩
   ·rw [decide_eq_true_eq] at hb'
    have hst:vStep p at_ h=(at_+1,.error 163):=by unfold vStep; rw [hsm]; simp only; rw [if_neg hb']
    rw [hst] at hR
    refine (Z1P w6 163).mono ?_
    rintro e w7 ⟨rfl,he⟩
    rw [if_neg (by decide)] at he
    subst he
    refine .inl ⟨_,rfl,hR _ _ ⟨lab6,s06,I6,trivial,fun er her=>?_,fun b hb=>by cases hb⟩⟩
    cases her; exact ⟨rfl,by decide⟩
   ·rw [decide_eq_false_iff_not,ne_eq,Decidable.not_not] at hb'
    have hst:vStep p at_ h=(at_+1,.ok p[at_]):=by unfold vStep; rw [hsm]; simp only; rw [if_pos hb']
    rw [hst] at hR
    refine hR _ _ ⟨lab6,s06,I6,trivial,fun er her=>(by cases her),fun b hb=>?_⟩
    cases hb
    exact ⟨ob,kb,rfl,hby6.rd,hkb⟩
def Z3B (p:List By) (root key:By):Except Int By :=
 if p.length > 256 then .error 162 else if key.length > 64 then .error 140 else
 match way (vStep p) 0 (rootIt root) (nibbles key) with
 | (at_,.ok v)=>if at_ < p.length then .error 162 else .ok v
 | (_,.error e)=>.error e
def Z8w (p:List By) (root key:By) (w:World) (e:Ending) (w':World):Prop :=
 Vcg.Mod NoB w w'∧match Z3B p root key with
  | .error er=>er≠0∧e=.returned (.tuple #[.slice none 0 0,.bool false,.int .i64 er])
  | .ok v=>∃o k,e=.returned (.tuple #[.slice o v.length k,.bool (decide (v≠[])),.int .i64 0])∧RdB w' o v
theorem ZAm {R:Ending→World→Prop} {rt:World→Prop} {dE dV dB:Nat} {n n0:Int} {o:Option Addr} {l k:Nat} {b:Bool} {w:World} (hn:n≠0) (h1:dE≠dV) (h2:dE≠dB) (h3:dV≠dB) (E:Blk w dE 40 #[.int .i64 n0]) (V:Blk w dV 23 #[.slice o l k]) (B:Blk w dB 4 #[.bool b])
  (K:∀w',Blk w' dE 40 #[.int .i64 n]→Blk w' dV 23 #[.slice none 0 0]→Blk w' dB 4 #[.bool false]→Vcg.Mod (fun b=>b=dE∨b=dV∨b=dB) w w'→rt w') :
  Z2t Tryz.prog rt R [(32,#[.pointer (some ⟨dE,0,none⟩)]),(51,#[.pointer (some ⟨dE,0,none⟩),.pointer (some ⟨dV,0,none⟩),.pointer (some ⟨dB,0,none⟩)])] (.panicking (Z2v n)) w:=by
 refine ⟨fun h=>(by cases h),(Z4C E).mono ?_⟩
 rintro _ _ w1 ⟨rfl,rfl,E1,M1⟩
 have V1:=V.mod M1 (fun h=>h1 h.symm)
 have B1:=B.mod M1 (fun h=>h2 h.symm)
 refine ⟨fun h=>(by cases h),?_⟩
 refine (Z12.vcd .returning _ _ _ w1 (fun e w'=>e=.returned (.tuple #[])∧Blk w' dE 40 #[.int .i64 n]∧Blk w' dV 23 #[.slice none 0 0]∧Blk w' dB 4 #[.bool false]∧Vcg.Mod (fun b=>b=dV∨b=dB) w1 w') ?_).mono ?_
 ·unfold Z12.Vc
  refine ⟨n,E1.rd1 rfl,fun _=>⟨V1.canSet (by simp) rfl,?_⟩,fun h=>(hn h).elim⟩
  rintro _ rfl
  have V2:=V1.set 0 (.slice none 0 0)
  have B2:=B1.set_ne (a:=⟨dV,0,none⟩) (v:=.slice none 0 0) (fun e=>h3 e.symm)
  have E2:=E1.set_ne (a:=⟨dV,0,none⟩) (v:=.slice none 0 0) h1
  refine ⟨B2.canSet (by simp) rfl,?_⟩
  rintro _ rfl
  exact ⟨rfl,E2.set_ne h2,V2.set_ne h3,B2.set 0 _,((Mod.setCell w1 ⟨dV,0,none⟩ _).mono (fun _ _ h=>.inl h)).trans (Mod.setCell _ ⟨dB,0,none⟩ _) (fun _ _ h=>.inr h)⟩
 ·rintro _ _ w2 ⟨rfl,rfl,E2,V2,B2,M2⟩
  exact K w2 E2 V2 B2 ((M1.mono (fun _ _ h=>.inl h)).trans M2 (fun _ _ h=>.inr h))
theorem ZBs {R:Ending→World→Prop} {rt:World→Prop} {dE dV dB:Nat} {w:World} (E:Blk w dE 40 #[.int .i64 0]) (K:rt w) :
  Z2t Tryz.prog rt R [(32,#[.pointer (some ⟨dE,0,none⟩)]),(51,#[.pointer (some ⟨dE,0,none⟩),.pointer (some ⟨dV,0,none⟩),.pointer (some ⟨dB,0,none⟩)])] .returning w:=by
 refine ⟨fun h=>(by cases h),Z53.mono ?_⟩
 rintro _ _ w1 ⟨rfl,rfl,rfl⟩
 refine ⟨fun h=>(by cases h),?_⟩
 refine (Z12.vcd .returning _ _ _ w1 (fun e w'=>e=.returned (.tuple #[])∧w'=w1) ?_).mono ?_
 ·unfold Z12.Vc
  exact ⟨0,E.rd1 rfl,fun h=>(h rfl).elim,fun _=>⟨rfl,rfl⟩⟩
 ·rintro _ _ w2 ⟨rfl,rfl,rfl⟩
  exact K
end Go.Proofs.YtfghidehlnfdiaaGreat
end
section
namespace Go.Proofs.YtfghidehlnfdiaaGreat
open Go Go.Vcg Go.Trie
def ZEB (N:Nat):Nat→Nat:=fun k=>if k=N+5 then 7 else if N≤k then 1 else 0
theorem ZCM {N k:Nat} (h:k < N):ZEB N k=0:=by unfold ZEB; rw [if_neg (by omega),if_neg (by omega)]
theorem ZCL {N k:Nat} (h:N≤k) (h5:k≠N+5):ZEB N k=1:=by unfold ZEB; rw [if_neg h5,if_pos h]
theorem ZHj {N:Nat}:ZEB N (N+5)=7:=if_pos rfl
theorem Z7u {p:List By} {root key:By} (h1:¬p.length > 256) (h2:¬key.length > 64):Z3B p root key=(match way (vStep p) 0 (rootIt root) (nibbles key) with
  | (at_,.ok v)=>if at_ < p.length then .error 162 else .ok v
  | (_,.error e)=>.error e):=by
 unfold Z3B
 exact (if_neg h1).trans (if_neg h2)
theorem Z6P {w:World} {lab:Nat→Nat} {c:Nat} {p:List By} {o ok:Option Addr} {k kk:Nat} {root key:By} (h:ZDc w lab c p o) (hlen:p.length≤2 ^ 40) (hb:∀x∈p,x.length≤2 ^ 30) (hroot:root.length=32) (hkey:RdB w ok key) :
  Calls Tryz.prog Z1S.n #[.agg (hashA root),.slice ok key.length kk,.slice o p.length k] w (Z8w p root key w):=by
 refine ZH fun R hR=>Z1S.vc _ _ _ _ _ _ _ _ _ ?_
 unfold Z1S.Vc
 have hL:ZDc w (ZEB w.heap.size) 0 p o:=h.re (fun k hk _=>ZCM hk)
 rintro d3 w1 ⟨rfl,rfl⟩
 have M1:=Mod.alloc (S:=NoB) w (.cells (hashA root) 27)
 have X1:=Blk.new w 27 (hashA root)
 have z1:=ZD w (.cells (hashA root) 27)
 generalize hNe:w.heap.size=N at *
 generalize w.alloc (.cells (hashA root) 27)=w1 at *
 rintro d5 w2 ⟨rfl,rfl⟩
 have M12:=Mod.alloc (S:=NoB) w1 (.cells #[.slice o p.length k] 31)
 have P2:=Blk.new w1 31 #[.slice o p.length k]
 have z2:=ZD w1 (.cells #[.slice o p.length k] 31)
 have X2:=X1.mod' M12
 have M2:=M1.none_trans M12
 rw [z1] at P2 z2 ⊢
 generalize w1.alloc (.cells #[.slice o p.length k] 31)=w2 at *
 rintro d7 w3 ⟨rfl,rfl⟩
 have M23:=Mod.alloc (S:=NoB) w2 (.cells #[.slice none 0 0] 23)
 have V3:=Blk.new w2 23 #[.slice none 0 0]
 have z3:=ZD w2 (.cells #[.slice none 0 0] 23)
 have X3:=X2.mod' M23
 have P3:=P2.mod' M23
 have M3:=M2.none_trans M23
 rw [z2] at V3 z3 ⊢
 generalize w2.alloc (.cells #[.slice none 0 0] 23)=w3 at *
 rintro d9 w4 ⟨rfl,rfl⟩
 have M34:=Mod.alloc (S:=NoB) w3 (.cells #[.bool false] 4)
 have B4:=Blk.new w3 4 #[.bool false]
 have z4:=ZD w3 (.cells #[.bool false] 4)
 have X4:=X3.mod' M34
 have P4:=P3.mod' M34
 have V4:=V3.mod' M34
 have M4:=M3.none_trans M34
 rw [z3] at B4 z4 ⊢
 generalize w3.alloc (.cells #[.bool false] 4)=w4 at *
 rintro d11 w5 ⟨rfl,rfl⟩
 have M45:=Mod.alloc (S:=NoB) w4 (.cells #[.int .i64 0] 40)
 have E5:=Blk.new w4 40 #[.int .i64 0]
 have z5:=ZD w4 (.cells #[.int .i64 0] 40)
 have X5:=X4.mod' M45
 have P5:=P4.mod' M45
 have V5:=V4.mod' M45
 have B5:=B4.mod' M45
 have M5:=M4.none_trans M45
 rw [z4] at E5 z5 ⊢
 generalize w4.alloc (.cells #[.int .i64 0] 40)=w5 at *
 clear X1 X2 X3 X4 P2 P3 P4 V3 V4 B4 M1 M12 M2 M23 M3 M34 M4 M45 z1 z2 z3 z4
 simp only [show N+1+1=N+2 from rfl,show N+2+1=N+3 from rfl,show N+3+1=N+4 from rfl,show N+4+1=N+5 from rfl] at *
 have ret3:∀(wa:World) (er:Int),er≠0→Z3B p root key=.error er→Blk wa (N+2) 23 #[.slice none 0 0]→Blk wa (N+3) 4 #[.bool false]→Blk wa (N+4) 40 #[.int .i64 0]→Vcg.Mod NoB w wa →
   Z1 wa ⟨N+2,0,none⟩ (.slice none 0 0)∧∀w16:World,ZA wa ⟨N+2,0,none⟩ (.slice none 0 0) w16 →
   Z1 w16 ⟨N+3,0,none⟩ (.bool false)∧∀w17:World,ZA w16 ⟨N+3,0,none⟩ (.bool false) w17 →
   Z1 w17 ⟨N+4,0,none⟩ (.int .i64 er)∧∀w18:World,ZA w17 ⟨N+4,0,none⟩ (.int .i64 er) w18 →
   ∃o19:Option Addr,∃l20:Nat,∃l21:Nat,World.cell? w18 ⟨N+2,0,none⟩=some (.slice o19 l20 l21) ∧
   ∃b22:Bool,World.cell? w18 ⟨N+3,0,none⟩=some (.bool b22) ∧
   ∃n23:Int,World.cell? w18 ⟨N+4,0,none⟩=some (.int .i64 n23)∧R (.returned (.tuple #[(.slice o19 l20 l21),(.bool b22),(.int .i64 n23)])) w18:=by
  intro wa er her hv Va Ba Ea Ma
  refine ⟨Va.canSet (by simp) rfl,?_⟩
  rintro _ rfl
  have Vb:=Va.set 0 (.slice none 0 0)
  have Bb:=Ba.set_ne (a:=⟨N+2,0,none⟩) (v:=.slice none 0 0) (by show N+3≠N+2; omega)
  have Eb:=Ea.set_ne (a:=⟨N+2,0,none⟩) (v:=.slice none 0 0) (by show N+4≠N+2; omega)
  have Mb:Vcg.Mod NoB w _:=ZM Ma (Mod.setCell wa ⟨N+2,0,none⟩ (.slice none 0 0)) (by show w.heap.size≤N+2; omega)
  refine ⟨Bb.canSet (by simp) rfl,?_⟩
  rintro _ rfl
  have Vc:=Vb.set_ne (a:=⟨N+3,0,none⟩) (v:=.bool false) (by show N+2≠N+3; omega)
  have Bc:=Bb.set 0 (.bool false)
  have Ec:=Eb.set_ne (a:=⟨N+3,0,none⟩) (v:=.bool false) (by show N+4≠N+3; omega)
  have Mc:Vcg.Mod NoB w _:=ZM Mb (Mod.setCell _ ⟨N+3,0,none⟩ (.bool false)) (by show w.heap.size≤N+3; omega)
  refine ⟨Ec.canSet (by simp) rfl,?_⟩
  rintro _ rfl
  have Vd:=Vc.set_ne (a:=⟨N+4,0,none⟩) (v:=.int .i64 er) (by show N+2≠N+4; omega)
  have Bd:=Bc.set_ne (a:=⟨N+4,0,none⟩) (v:=.int .i64 er) (by show N+3≠N+4; omega)
  have Ed:=Ec.set 0 (.int .i64 er)
  refine ⟨_,_,_,Vd.rd1 rfl,_,Bd.rd1 rfl,_,Ed.rd1 rfl,hR _ _ ⟨ZM Mc (Mod.setCell _ ⟨N+4,0,none⟩ (.int .i64 er)) (by show w.heap.size≤N+4; omega),?_⟩⟩
  rw [hv]
  exact ⟨her,rfl⟩
 refine ⟨_,_,_,P5.rd1 rfl,fun hbig=>?_,fun hbig=>⟨fun hk=>?_,fun hk=>?_⟩⟩
 ·exact ret3 w5 162 (by decide) (by unfold Z3B; rw [if_pos (by omega)]) V5 B5 E5 M5
 ·exact ret3 w5 140 (by decide) (by unfold Z3B; rw [if_neg (by omega),if_pos (by omega)]) V5 B5 E5 M5
 ·rintro d32 w6 ⟨rfl,rfl⟩
  have M56:=Mod.alloc (S:=NoB) w5 (.cells #[.int .i64 0] 3)
  have A6:=Blk.new w5 3 #[.int .i64 0]
  have z6:=ZD w5 (.cells #[.int .i64 0] 3)
  have X6:=X5.mod' M56
  have P6:=P5.mod' M56
  have V6:=V5.mod' M56
  have B6:=B5.mod' M56
  have E6:=E5.mod' M56
  have M6:=M5.none_trans M56
  rw [z5] at A6 z6 ⊢
  generalize w5.alloc (.cells #[.int .i64 0] 3)=w6 at *
  refine ⟨A6.canSet (by simp) rfl,?_⟩
  rintro _ rfl
  have A7:Blk (w6.setCell ⟨N+5,0,none⟩ (.int .i64 0)) (N+5) 3 #[.int .i64 0]:=A6.set 0 (.int .i64 0)
  have Q7:Vcg.Mod (·=N+5) w6 _:=Mod.setCell w6 ⟨N+5,0,none⟩ (.int .i64 0)
  have X7:=X6.mod Q7 (by omega)
  have P7:=P6.mod Q7 (by omega)
  have V7:=V6.mod Q7 (by omega)
  have B7:=B6.mod Q7 (by omega)
  have E7:=E6.mod Q7 (by omega)
  have M7:Vcg.Mod NoB w _:=ZM M6 Q7 (by omega)
  generalize w6.setCell ⟨N+5,0,none⟩ (.int .i64 0)=w7 at *
  have s7:Stp NoS w (ZEB N) w7 (ZEB N):=⟨M7.os,M7.tape,M7.output,M7.size,fun _ _=>rfl,fun q hq _=>M7.block q hq (fun h=>h)⟩
  have I7:ZHM p o k (N+5) (N+1) w7 (ZEB N) 0:=⟨⟨A7,ZHj⟩,⟨P7,ZCL (by omega) (by omega)⟩,hL.stp s7 (fun h=>h),Nat.zero_le _⟩
  have hlab:∀b,ZEB N b=5∨ZEB N b=7→N≤b:=fun b hb=>Nat.le_of_not_lt fun hlt=>by rw [ZCM hlt] at hb; omega
  refine ⟨_,X7.rowAll (ZB _),?_⟩
  refine (ZAo (askV (o:=o) (k:=k) (dA:=N+5) (dP:=N+1) hlen hb) I7 trivial hroot (hkey.mod' M7) (by omega)).mono ?_
  rintro e w8 ⟨lab8,s78,I8,hw⟩
  have V8:=(CB.mk V7 (ZCL (N:=N) (by omega) (by omega))).stp s78 (by decide)
  have B8:=(CB.mk B7 (ZCL (N:=N) (by omega) (by omega))).stp s78 (by decide)
  have E8:=(CB.mk E7 (ZCL (N:=N) (by omega) (by omega))).stp s78 (by decide)
  have M78:Vcg.Mod (fun b=>N≤b) w7 w8:=s78.mod (fun q hq hs=>hlab q hs)
  have M8:Vcg.Mod NoB w w8:=M7.trans M78 (fun i hi h=>by omega)
  have hvr:=Z7u (root:=root) (p:=p) (key:=key) (by omega) (by omega)
  obtain ⟨A8,P8,_,hat⟩:=I8
  generalize way (vStep p) 0 (rootIt root) (nibbles key)=res at hw hvr A8 hat
  obtain ⟨at_,r⟩:=res
  dsimp only at A8 hat hvr
  have bad:∀(wa:World) (er:Int) (oV:Option Addr) (lV kV:Nat) (bB:Bool),er≠0→Z3B p root key=.error er→Blk wa (N+2) 23 #[.slice oV lV kV]→Blk wa (N+3) 4 #[.bool bB]→Blk wa (N+4) 40 #[.int .i64 0]→Vcg.Mod NoB w wa →
    Z2t Tryz.prog (fun w38 =>
     ∃o39:Option Addr,∃l40:Nat,∃l41:Nat,World.cell? w38 ⟨N+2,0,none⟩=some (.slice o39 l40 l41) ∧
     ∃b42:Bool,World.cell? w38 ⟨N+3,0,none⟩=some (.bool b42) ∧
     ∃n43:Int,World.cell? w38 ⟨N+4,0,none⟩=some (.int .i64 n43) ∧
     R (.returned (.tuple #[(.slice o39 l40 l41),(.bool b42),(.int .i64 n43)])) w38) R [(32,#[(.pointer (some ⟨N+4,0,none⟩))]),(51,#[(.pointer (some ⟨N+4,0,none⟩)),(.pointer (some ⟨N+2,0,none⟩)),(.pointer (some ⟨N+3,0,none⟩))])] (.panicking (Z2v er)) wa:=by
   intro wa er oV lV kV bB her hv Va Ba Ea Ma
   refine ZAm her (by omega) (by omega) (by omega) Ea Va Ba (fun w' E' V' B' M'=>?_)
   refine ⟨_,_,_,V'.rd1 rfl,_,B'.rd1 rfl,_,E'.rd1 rfl,hR _ _ ⟨Ma.trans M' (fun i hi h=>by omega),?_⟩⟩
   rw [hv]
   exact ⟨her,rfl⟩
  cases r with
  | error er =>
    obtain ⟨rfl,hne⟩:=hw
    exact .inl ⟨_,rfl,bad w8 er _ _ _ _ hne hvr V8.blk B8.blk E8.blk M8⟩
  | ok v =>
    obtain ⟨ov,kv,rfl,hv⟩:=hw
    refine .inr ⟨_,_,_,_,rfl,V8.blk.canSet (by simp) rfl,?_⟩
    rintro _ rfl
    have V9:=V8.blk.set 0 (.slice ov v.length kv)
    have Q9:Vcg.Mod (·=N+2) w8 _:=Mod.setCell w8 ⟨N+2,0,none⟩ (.slice ov v.length kv)
    have s89:Stp (·=1) w8 lab8 _ lab8:=Stp.setCell (a:=⟨N+2,0,none⟩) (v:=.slice ov v.length kv) V8.clr
    have B9:=B8.blk.mod Q9 (by omega)
    have E9:=E8.blk.mod Q9 (by omega)
    have A9:=A8.blk.mod Q9 (by omega)
    have P9:=P8.blk.mod Q9 (by omega)
    have hv9:=hv.stp s89 (by decide)
    have M9:Vcg.Mod NoB w _:=ZM M8 Q9 (by omega)
    generalize w8.setCell ⟨N+2,0,none⟩ (.slice ov v.length kv)=w9 at *
    refine ⟨B9.canSet (by simp) rfl,?_⟩
    rintro _ rfl
    have B10:=B9.set 0 (.bool (decide (v≠[])))
    have Q10:Vcg.Mod (·=N+3) w9 _:=Mod.setCell w9 ⟨N+3,0,none⟩ (.bool (decide (v≠[])))
    have s910:Stp (·=1) w9 lab8 _ lab8:=Stp.setCell (a:=⟨N+3,0,none⟩) (v:=.bool (decide (v≠[]))) B8.clr
    have V10:=V9.mod Q10 (by omega)
    have E10:=E9.mod Q10 (by omega)
    have A10:=A9.mod Q10 (by omega)
    have P10:=P9.mod Q10 (by omega)
    have hv10:=hv9.stp s910 (by decide)
    have M10:Vcg.Mod NoB w _:=ZM M9 Q10 (by omega)
    generalize w9.setCell ⟨N+3,0,none⟩ (.bool (decide (v≠[])))=w10 at *
    refine ⟨_,A10.rd1 rfl,_,_,_,P10.rd1 rfl,fun hlt=>?_,fun hge=>?_⟩
    ·simp only at hvr
     rw [if_pos (by omega)] at hvr
     refine (Z1P w10 162).mono ?_
     rintro e w11 ⟨rfl,he⟩
     rw [if_neg (by decide)] at he
     subst he
     exact .inl ⟨_,rfl,bad _ 162 _ _ _ _ (by decide) hvr V10 B10 E10 M10⟩
    ·simp only at hvr
     rw [if_neg (by omega)] at hvr
     rintro _ rfl
     have s11:Stp NoS w10 lab8 w10.drew lab8:=Stp.drew _ _ _
     have V11:=V10.drew
     have B11:=B10.drew
     have E11:=E10.drew
     have hv11:=hv10.stp s11 (fun h=>h)
     have M11:=M10.step_drew
     generalize w10.drew=w11 at *
     refine ⟨_,_,_,V11.rd1 rfl,_,B11.rd1 rfl,V11.canSet (by simp) rfl,?_⟩
     rintro _ rfl
     have V12:=V11.set 0 (.slice ov v.length kv)
     have Q12:Vcg.Mod (·=N+2) w11 _:=Mod.setCell w11 ⟨N+2,0,none⟩ (.slice ov v.length kv)
     have s12:Stp (·=1) w11 lab8 _ lab8:=Stp.setCell (a:=⟨N+2,0,none⟩) (v:=.slice ov v.length kv) V8.clr
     have B12:=B11.mod Q12 (by omega)
     have E12:=E11.mod Q12 (by omega)
     have hv12:=hv11.stp s12 (by decide)
     have M12:Vcg.Mod NoB w _:=ZM M11 Q12 (by omega)
     generalize w11.setCell ⟨N+2,0,none⟩ (.slice ov v.length kv)=w12 at *
     refine ⟨B12.rd1 rfl,B12.canSet (by simp) rfl,?_⟩
     rintro _ rfl
     have B13:=B12.set 0 (.bool (decide (v≠[])))
     have Q13:Vcg.Mod (·=N+3) w12 _:=Mod.setCell w12 ⟨N+3,0,none⟩ (.bool (decide (v≠[])))
     have s13:Stp (·=1) w12 lab8 _ lab8:=Stp.setCell (a:=⟨N+3,0,none⟩) (v:=.bool (decide (v≠[]))) B8.clr
     have V13:=V12.mod Q13 (by omega)
     have E13:=E12.mod Q13 (by omega)
     have hv13:=hv12.stp s13 (by decide)
     have M13:Vcg.Mod NoB w _:=ZM M12 Q13 (by omega)
     generalize w12.setCell ⟨N+3,0,none⟩ (.bool (decide (v≠[])))=w13 at *
     refine ⟨E13.canSet (by simp) rfl,?_⟩
     rintro _ rfl
     have E14:=E13.set 0 (.int .i64 0)
     have Q14:Vcg.Mod (·=N+4) w13 _:=Mod.setCell w13 ⟨N+4,0,none⟩ (.int .i64 0)
     have s14:Stp (·=1) w13 lab8 _ lab8:=Stp.setCell (a:=⟨N+4,0,none⟩) (v:=.int .i64 0) E8.clr
     have V14:=V13.mod Q14 (by omega)
     have B14:=B13.mod Q14 (by omega)
     have hv14:=hv13.stp s14 (by decide)
     refine ZBs E14 ⟨_,_,_,V14.rd1 rfl,_,B14.rd1 rfl,_,E14.rd1 rfl,hR _ _ ⟨ZM M13 Q14 (by omega),?_⟩⟩
     rw [hvr]
     exact ⟨ov,kv,rfl,hv14.rd⟩
end Go.Proofs.YtfghidehlnfdiaaGreat
end
section
namespace Go.Trie
end Go.Trie
namespace Go.Proofs.YtfghidehlnfdiaaGreat
open Go Go.Vcg Go.Trie
def StR (w:World) (o:Option Addr) (l:List (By×By)):Prop :=
 ∀(j:Nat) (hj:j < l.length),∃b f ok kk ov kv,o=some ⟨b,f,none⟩∧b < w.heap.size∧w.cell? ⟨b,f+j * 2,none⟩=some (.slice ok l[j].1.length kk)∧RdB w ok l[j].1∧w.cell? ⟨b,f+(j * 2+1),none⟩=some (.slice ov l[j].2.length kv)∧RdB w ov l[j].2
theorem StR.mod' {w w':World} {o:Option Addr} {l:List (By×By)} (h:StR w o l) (M:Vcg.Mod NoB w w'):StR w' o l:=fun j hj=>by
 obtain ⟨b,f,ok,kk,ov,kv,e1,e2,e3,e4,e5,e6⟩:=h j hj
 exact ⟨b,f,ok,kk,ov,kv,e1,Nat.lt_of_lt_of_le e2 M.size,(ZX M e2 (fun h=>h)).trans e3,e4.mod' M,(ZX M e2 (fun h=>h)).trans e5,e6.mod' M⟩
end Go.Proofs.YtfghidehlnfdiaaGreat
end
section
namespace Go.Trie
theorem ZBr:∀{n:Nd},Z60 n→∀(top:Bool) (out:List (By×By)),(∀x∈out,x.2.length≤2000)→∀x∈Z1b n top out,x.2.length≤2000:=by
 have put:∀{m:Nd} (out:List (By×By)) (top:Bool),Z60 m→(∀x∈out,x.2.length≤2000)→∀x∈Z27 out top (bytesOf m),x.2.length≤2000:=by
  intro m out top hm ho x hx
  unfold Z27 at hx
  split at hx
  ·exact ho x hx
  ·rcases List.mem_append.1 hx with hx | hx
   ·exact ho x hx
   ·simp only [List.mem_singleton] at hx
    rw [hx]; exact Z8z hm
 intro n
 induction n with
 | nil=>intro hs top out ho x hx; exact ho x hx
 | leaf p v=>intro hs top out ho x hx; exact put out top hs ho x hx
 | row p c ih=>intro hs top out ho x hx; exact put _ top hs (ih hs.2 false out ho) x hx
 | branch cs v ih =>
   intro hs top out ho x hx
   have hf:∀(l:List (Fin 16)) (o:List (By×By)),(∀x∈o,x.2.length≤2000)→∀x∈l.foldl (fun o i=>Z1b (cs i) false o) o,x.2.length≤2000:=by
    intro l
    induction l with
    | nil=>intro o ho x hx; exact ho x hx
    | cons i r ihr=>intro o ho x hx; exact ihr _ (ih i (hs.2 i) false o ho) x hx
   exact put _ top hs (hf _ out ho) x hx
theorem Z7b {n:Nd} (hs:Z60 n):∀x∈Z0t n,x.2.length≤2 ^ 20:=fun x hx=>by
 have:=ZBr hs true [] (fun _ h=>by cases h) x hx
 omega
theorem ZEN (n:Nd):(Z0t n).length≤cnt n:=by
 have:=Z2s n true []
 simpa [Z0t] using this
end Go.Trie
namespace Go.Proofs.YtfghidehlnfdiaaGreat
open Go Go.Vcg Go.Trie
end Go.Proofs.YtfghidehlnfdiaaGreat
end
section
namespace Go.Trie
theorem ZAX:∀{m:List (By×By)} {x:By×By},Z1K (m++[x])→x.2≠[]→ZBX m x.1 x.2=m++[x]
 | [],x,_,hv=>by simp only [ZBX]; rw [if_neg hv]; rfl
 | y :: r,x,hs,hv=>by
   rw [Z1K,List.cons_append,List.pairwise_cons] at hs
   simp only [ZBX]
   rw [if_pos (Z24.2 (hs.1 x (by simp))),ZAX hs.2 hv]
   rfl
end Go.Trie
namespace Go.Proofs.YtfghidehlnfdiaaGreat
open Go Go.Vcg Go.Trie
section
variable {w0 w w':World} {L L':Nat→Nat} {ta tb:Nat} {na nb n':Nd} {o:Option Addr} {m:List (By×By)}
end
end Go.Proofs.YtfghidehlnfdiaaGreat
end
section
namespace Go.Trie
theorem Z8g (p v:By):Z0t (.leaf p v)=[(rootOf (.leaf p v),bytesOf (.leaf p v))]:=by
 simp [Z0t,Z1b,Z27,met,rootOf]
end Go.Trie
namespace Go.Proofs.YtfghidehlnfdiaaGreat
open Go Go.Vcg Go.Trie
end Go.Proofs.YtfghidehlnfdiaaGreat
end
section
namespace Go.Vcg
def kFm:List UInt8:=[128]
def kFh:List UInt8:=[86,232,31,23,27,204,85,166,255,131,69,230,146,192,248,110,91,72,224,27,153,108,173,192,1,98,47,181,227,99,180,33]
def kFL0:List (BitVec 64):=[0x180,0x0,0x0,0x0,0x0,0x0,0x0,0x0,0x0,0x0,0x0,0x0,0x0,0x0,0x0,0x0,0x8000000000000000,0x0,0x0,0x0,0x0,0x0,0x0,0x0,0x0]
def kFL1:List (BitVec 64):=[0x40000000180,0x18000000000000,0x40000c00000,0x181,0x18000000c00000,0x8,0x30100030000000,0x1000000000000008,0x30100000000000,0x1000000030000000,0x300,0x30020,0x40000,0x30300,0x40020,0x1800060000,0x1000004000,0x60000,0x1800004000,0x0,0x2001800000000000,0x20000000000,0x1800000000600,0x2000020000000000,0x600]
def kFL2:List (BitVec 64):=[0x1e48322010f207e2,0xa1eda94a21c78528,0x4aab1200d1d1598c,0x934c0969498481d0,0xe62b8000f9655814,0x65481be15033040,0xeb1100f428960301,0x824917c680149344,0x4fc78038c0820030,0xe88a36846e14bb55,0xf70a2293043c38,0x2115a00c0e76daf4,0x8043d11880e0230e,0x332e30300d438d70,0x8289c30619f183a2,0x42167a3a8b39f8d1,0x1d287e80e6034221,0x4a304180045aaa0a,0x1b165239699130f5,0x4438350704e3480e,0x91b1d4b815bc6148,0xac1400ca8070c5a4,0x5a1e0f01f8d1e40,0x191cc4a8987931a9,0x240238220608be65]
def kFL3:List (BitVec 64):=[0x92eef97b5e30a756,0xaaa0a063d7d9fb58,0x7376f45f672b17d2,0xda8753ae5708a048,0x6e6a9a51a422cfcd,0x3c6553212d548d0,0x5583a58939a534a3,0xcafcebb3ec90f08a,0x645d5d005419ef7a,0x5085f9943b9848d3,0xcab2a22a21ef4c6f,0xfc8ff582a2b56176,0xa337a963db5e5569,0xcf360963d7419d7d,0x3fb0387983d78125,0x2581f3c4fde6750c,0xac9d46b5cae16ed8,0xe573b60fc3c5e790,0xf4ed04a481c505d1,0xacd60c514b4b56d0,0x5add1afa8597e255,0xf7e8a9816c13c939,0x5e97167cfd60654a,0xa5b9dc355dbe9f89,0xa0e393a41f9ba355]
def kFL4:List (BitVec 64):=[0xb6571f4bcafff638,0xa712c135767b0b37,0x3ef15dd558442b4d,0x5769df500abaa833,0x6098cf6594883b70,0x3ad175fc9734dc9d,0xc304ad5e8ac19b2e,0xbbd2c077e944d7cb,0x4577f851c792003f,0x8dc776f108a2bc83,0x93e8b59c7ce45975,0x341f96adbd4cf0f5,0x1a70b485dc616d3c,0xfa9d27e5a677e3ad,0xc43a65318fd5ba17,0xb023fbf1d82afe1e,0xe2eb9b3bf6c3c42c,0xf8f6bcaf7852c76b,0x2bd456e1bf710678,0x5fd635487a628568,0x9ba79464a7d1ed64,0x2cc73cf10757b11e,0x810121ab4734dee8,0x43aec45ed243ea46,0x2239e41387a66162]
def kFL5:List (BitVec 64):=[0x9f9724a944211ce6,0x88ff73a8f6de6398,0x81b7e335762b8946,0xbdf48083b7ac88b5,0x65e55c1af2b011c5,0x684ca8bf71d4860f,0x5bf5965daca66e38,0xf8005bdda7dcc937,0xde9aa35448f4668b,0x36f9fd42bb73f831,0xcb323f3b9948e6cc,0x89a8131459e2ea2f,0x72588f88c9761718,0xcba47cc2a6e391f6,0x8e00e4fc1afcc59d,0x70737bf7824d33e4,0x9e304e84a1d92131,0x703d49145e18b377,0x72f882f192c4b3b2,0x2f8c9a6ba14c33c0,0x2823c50ff1745669,0x4f15f20a8334d5b8,0x5ded6e10bb680808,0x8250d2a9cf9474cd,0x9097b287f0b3a60b]
def kFL6:List (BitVec 64):=[0x4b9edd775044644a,0x1aff93b62bb408ad,0x5abb8218ddb2ef4e,0x2abdbae98169a21,0xf9f950d420cb18e5,0x1563f516b7edd5a6,0x96408b97192a6e3c,0xf11f746ed93bc655,0xac3eb6fca9f74014,0x86d5cf5dba7b2754,0x6c4c9975a5226c35,0x40c143217882d362,0xedd667c48527b6c,0x9c9eb51a2fda27af,0x62e587697d11e768,0x4212bd27170d0643,0x1da10009bc5413a9,0x2df861f6019eeec5,0x6efa279d6a0fafbb,0x82c163189d67f47b,0xad9c05fb1f82f7cb,0xacc6d7b4a55c80f8,0x97a4555f80301d21,0xe7ec97aaf7a6698e,0xdf492c5e5d1450c5]
def kFL7:List (BitVec 64):=[0x70ac9b87e0fea58b,0xde1da48340bf8798,0xf4c80ef1f1a4e9,0xee5d9ad68dd22bc4,0x95fc76f380f3ff1e,0xa1785d7eeb924d90,0x5239c86cd987e6a,0x21f69d683442e8be,0x6fb7c3cee9400993,0xd9926323be883bf0,0x9347b2af52b4def4,0x8f0aea215b74eebc,0xe7dc1e9ce6267b45,0x7119719a1981f787,0x209670e31be17fb3,0x4dba397e49249355,0x6bae480cb817bdc2,0x952efba9b691329e,0x9658aa94551c9324,0xf33c0b9cf56e5b92,0x952405b7e00aef9d,0xeb50d1e89142704,0x55422e3cd5764b25,0x2e4ae2e2e1c7f6ad,0x1e5394a5df5aae3d]
def kFL8:List (BitVec 64):=[0x7464df921b37467,0xabd1fd64bb9c1bf0,0x3ca943ae28ca9c95,0x9fc504680c6358f9,0x31ca0ddb3c86d33a,0x5d5ddb8c8f280728,0x78da359bc6bf799,0xd6da3640adea1c70,0xac5cff184d01b208,0xdc35cf5d0474a452,0x12e6b38df772a9cd,0x4380ec4468d7e5a8,0xc28dde4b37695307,0x5751765d4a7da4c7,0x350c846e97c9b93,0xc76ebe51d7af1858,0xfd53e6244c188b12,0xab79162d08cbc565,0xd2ff497829920ef9,0xc9bad6acb1be68a7,0x680ea51e454c9264,0x7ab538041bc1146d,0xc2dd528d36c154df,0xdf8f6ddce49e2120,0x60c4f53f7e88e4cf]
def kFL9:List (BitVec 64):=[0x10e1b5dc6df83103,0x7979721bd4ddd61c,0xb037704c7e1c7d1c,0x8bf2a029b60b88f6,0xea6e0981d91137e7,0xbbdf1df8f4dbdb98,0x3a54c73d6c17b993,0x4e0a5fd451cfe111,0x9b26930f65c3087a,0xef128fbef847e056,0x446a7f9e2008c79,0x64420026c5da6073,0xbe0a3c5135349917,0xb400594139a8343f,0x33fce819737dbeaf,0x4b674a1c04fe5ec9,0x12b4b07eaf82a6df,0xea33c33d5b93bd38,0xb5d7d60748a8ca50,0x5a01d3b0d4550db4,0x65741feb87053239,0xfb333c004b6f3839,0x8bf98090c82e50d0,0xc923f3b9909f1300,0xe47622e379cd088c]
def ZGU:List (BitVec 64):=[0x1d5e5855a5b07998,0xa727df161afdf8d3,0x18c67a0594d6e943,0x1083c2cb7c50c8a7,0x947be902ce1f0fc7,0xe40b3a04f9fa0dfa,0x2786920d1012f6ea,0x9b00574274ea1010,0xafa46100b043a417,0xbd8aa4c286aef144,0xe3d039f07d601fb6,0x4b9e523d955ea18c,0x941a29294181a520,0xc1782cd7bf346810,0xc1a36b3ef2a32147,0x2e15b67519e4d708,0x39299bface9fcf47,0x42ea3423daea37b9,0xf2fe510072f28edd,0x3ed17917d0eda320,0x7e85d12025d3cdb0,0x42d59a76c04fde9d,0xcfe9bff681094cf4,0x7d05509ca19f6951,0xe6db11d04403bd30]
def ZGV:List (BitVec 64):=[0xcee0290529cb549a,0x6d8dbd038339edb3,0x8e6ca32427443456,0x5d3aa28449efd62a,0x49b1a31ead210bdd,0xaded66c39e5ed8b8,0x74a945ff7e0fa047,0x91f663e802ed97f5,0xf239c89063af6de7,0x418cfea7ab1ea6dd,0xad3bfcbbeedda9c9,0x611b622bd61ad9b3,0xbc01a7284e3a075a,0x6f852740b9b3d6da,0x8bb4a5f1c3eebd5c,0xd32788913da5c8a3,0x565b0b175cd11eaf,0x15c593b3ae7a449d,0xbe415bfad4e0882,0xcbdf6d4915562ec1,0x7bc30629830cad69,0xd6eee394e58be20b,0x28bab8d236ffaf24,0xb4d51ed487ca1266,0xf5d60644c338d430]
def ZGW:List (BitVec 64):=[0x9274d3ed9e5067fb,0xc5e372db6f26d7f6,0x1cf2f4de22080ca5,0x760f767a4525ee2f,0x6b760d7168e341fd,0xb59864c9d3bd788b,0xa13c7bb52744135c,0x289652e9c670511b,0x11c5a834fa332b,0x25ce52eb3e8ee470,0x7776b79a07f8a6bc,0xc4a7399afd8d0c44,0x9dddb4859b104d9e,0xe478dfe2e639525b,0x4797911ec008c55c,0x51dd25b22fd158f5,0x201a1d0e365113ea,0x4e0a875bc60fee60,0xb440a0f245401d65,0xfd532878cb53a182,0xe3c607cf61f32c54,0xbe496f726be93b7e,0xbfb57adc43cc2270,0x2dc5913f0719f645,0x2bd8f57b9f103185]
def ZGX:List (BitVec 64):=[0xb88e85fb8ed7f5d3,0x56623f7f15719c6e,0xa968d591a2afaec3,0x1981318f931b675c,0x3d210ab033e8f16c,0x79d353b2b941fe6,0xa1d2d3f3f97efaf4,0x362218458b8495ee,0x2de8c358d534c246,0x3ac910b56456014e,0x8fce04b9b48d4dd8,0x5ceae7a1550765d0,0xf4747237fc866cef,0x98aa13118f5b6316,0x15452fe8338b22d2,0xf9b9ddd85c6cbaa8,0x344881124bd345f,0xefde417bb1ecea50,0xba355631ab7633d3,0xda8e895827fafa9f,0xe94b932b6a08f980,0x4bb3ac268d074677,0xef1bbc4e9b45830b,0xfc902fe54f2e087a,0xa12663eeeb003fc8]
def ZGY:List (BitVec 64):=[0xbfd7068c065c0d88,0xc630bce4fa4d7209,0xee8c3442a111cff1,0x5e41b90445847885,0x39a133efa7880cb,0xe7541b681323dc0e,0x2a0172f140db1525,0x6864edde924c5d5,0x55651d931ee4c379,0x432f14fd5e2dc225,0xe33480b419a60f2d,0x472582f05a4bf1e0,0xa850026db243b9de,0xb5805e740be8b353,0x5992d0cc71c8ec90,0x7e8c9c1a1f685999,0x2fe4dcbbc272519,0x4e271a6293318eac,0x3daa73aba824af7b,0xac37409304e2b05b,0x9683406bd811293a,0xce5e8c3fdc25dfea,0x882b36dfac276728,0x889fa60564b96e93,0xb9e34011563ba843]
def ZGZ:List (BitVec 64):=[0xf64fb3a4a6adeb5d,0xb53906605084b33b,0x1a38f88ef0ce3c55,0x5be47193399621e1,0x3bf7d30a9655954b,0x8a4fca3f4de0525,0x7db8d4bc73224aeb,0x1d705cd658f349ba,0xe71dcbfc088bbbac,0xa806bfbea1ba8bf9,0x73c8a8bef40af3bb,0x124ac9d0402fd51d,0x609061abcadc332c,0xd6a51d1fd4778d99,0xb3322eed1c8d5c62,0x7ad78a0467bcdf1,0x7dcb24e05cefe771,0xc4ae1271ee0d1460,0x627c55421c5e12f9,0x79052f1f592b7050,0x2d9e387a9e6d2d55,0xc5a66a7367eb8ef8,0xf3c77fee8aaf571,0x6e92a8a2ecb2133,0x8548d407149596d4]
def ZGa:List (BitVec 64):=[0x1ffd81075d634423,0x89868c214376b84c,0x79faeb3d6e2b39e5,0x1897142d912461f1,0x109c57cdd0114934,0x9953cae1a88b5b2f,0x36aa89e592879aa2,0x5454d42b1df6e93b,0x7bb0fcc07c6f7d77,0x2a09136651ffbbc1,0xd7e8d333c94ac6f5,0xbc6e6f19ea3930b8,0xc2ff1649c187b5df,0xf8d1a021cb6683bb,0xa8132aa42e35e178,0xa9d2aa16f249e81e,0xf2c43fb51e6eed8a,0x3ca91d9b459c5fb5,0x5ea78cbb8fd497ec,0x5813ab7970a1310e,0xcd431fe96de30dda,0x42ff270893d10c0a,0x56c97c7aed7c0953,0x6a871a24df1eb320,0xca3617a7c43442c8]
def ZGb:List (BitVec 64):=[0xb826e67726460f57,0xb8652e9d72603263,0x798750413e84fd42,0x6df0fc4b99395a68,0x20f97db03149f399,0x921900307a9e1717,0x24060025848a961b,0xccf8f4c71da8831,0x5e5f1086397a7f11,0xb345a6d012f871a4,0x37ae604fae75cb6d,0x2027c451d199c2aa,0xff0e80ebbcf966da,0x232d7fa5d4f7c6a9,0xa7e4f21a3978acca,0x52470535fb27069c,0x720f4e9d986f8f2d,0x7f0d4d14059e3a4f,0xe7af8b12abc46ea0,0xf146397d38fbf141,0x454b91c8dcb3be7c,0x93b16301ec0028c7,0x443175d6255203ef,0xd09e7199ce78ad1f,0xf71e0f7834bd5f62]
def ZGc:List (BitVec 64):=[0x14f2d4ca96d24d7a,0xa9e44c6ddcd87e6,0x2fede69ddea3672a,0x7809e20ab4f65628,0x9ad023f5832c6361,0x4421d1cc098ee858,0xa98af92465582dfe,0xda1e02f0de958e4c,0x23e305cc3441768,0x835fa40cce9bc4c7,0xca08e45803729173,0x95c68fc1b5806544,0xfe5587ce638dac74,0x6f7d31c3811abdc0,0x1593ab96c7e3567c,0xdc333cab21a740ac,0x26115371bac93c94,0x2a67f2a9d9d5d927,0xec83a24a7d5737c1,0x9c85a738dd7816d6,0x1beedc76837e1768,0x7a45f291ef43c7bc,0xcc4f118aac4b1521,0x328c70bfe56b439f,0xaf63fc7653bddc65]
def ZGd:List (BitVec 64):=[0x660c4c6fe35996f0,0x44c420f01fd3e776,0xfecdf8322fb64fb3,0xdd0dce5503f6d748,0xb24432a1f866168e,0x8bef3b7bea672e5c,0xceadce18fb2f6167,0x1f5cfed93efb580,0x2112168f80fe4dce,0x6208b8113427a73c,0x1a0a8a8b9bf3e203,0x483db89ccaebc108,0x307cbb851c5ccabc,0xc49f5e448e190a7c,0xb7f0af1153afc52e,0xa8a6b360bf4f28c8,0x43db99bbe34c1d8b,0x2e1dda92f1dbe4c7,0x5d72f517c73eb35,0x1bb9fa843dda7a8f,0xfc7c81f7b6c588b2,0x476a3862cffe20f4,0xadd544301a6a3869,0x14a65fc988d91990,0xf27bea43bed4f947]
def ZGe:List (BitVec 64):=[0x8e39b670eff2b56f,0x903fcf9c40e49ff2,0x7bb7390bdd056c7d,0xe98942ded7f9a4ea,0x709315701ba0ed6b,0xda8839d01a98df76,0x26ebb3100a0a8c1,0xede2e57c03d80cc2,0x57e39b320ee8b6cc,0x277debd11977305f,0x3cd75c1147d2838a,0x32f710ba89c6f715,0xa1d4f41de92b5a4d,0xbf4393f2edbd7bb6,0x6f0ebef6a4afab00,0xf0b39708c4eefb55,0x9c42dc5cadaf947a,0x410d4538c77e5dda,0x4123000c2f0bcf49,0x14049e77fcfaa831,0x9673b4ac959bfe12,0x216e332559697da6,0x78a825453a6383ce,0xc0a613d2964bcd1f,0xd40f4b7847200828]
def ZGf:List (BitVec 64):=[0xd8e771143a9fb023,0xe8879118c520ff6b,0x15a5d6ad3667960e,0x1438e010fedffa88,0x1cbc435debb11532,0x4a2fb26475a7b01d,0x2585315cb31760a5,0xf1cdfe8947d3161e,0x244c6d95a7ecdb76,0xd0f43bd4187e677,0xa7ab5d6a6b7c3557,0x930fc59d826b375,0xb2b8642774a461d6,0xe42789be8dca7e48,0x94b7ea44ff2dde1c,0xfe4cbbf64f6b85e4,0x410c5af197fd2f28,0x65d606ff57697580,0xe66b5a795bdebe8f,0xa31e5570e567c586,0xddd1f7780be66802,0xb825007a42d7b27f,0x2a0cf3615247ec4f,0x99251867980b1d45,0xee0544787dd4e185]
def ZGg:List (BitVec 64):=[0xfb8a995c07308a25,0xa23b8004e9070ffa,0x5903760ca667c937,0x95ba931e862deb42,0x6ddc6ad80336ff23,0xe24f15534dd29aed,0xbebd326cb39bebb,0xe4145c51859efeaa,0x6acbcbcb67bb4ad,0x4125cdbf10ec90b9,0xdcf829440ba38ae5,0xb18f2056bc5702c7,0xf56dc8edeadb3e4e,0x66ae5c3a99a2e428,0x24e5d4e4ae55ffe2,0x899a24c2cad945b1,0x658da8fa1064490c,0x5477ceb06f6ec0b3,0xc6f9e3859a9a077b,0x9f15996ba3276f33,0xd7a814145bc1d342,0xc5c0fc0168840931,0xdb69bc492a84a796,0xe55fdc949adbf8ad,0x536c2fd129946b92]
def ZGh:List (BitVec 64):=[0x8fcd2572748ef35a,0x33398182d222a029,0x823e7f0ed3bd0ef9,0x3a0c163237c17bdf,0x522848a4cfefacff,0x1345cbc371849083,0x12d37ab4b2c2036e,0xd251b451c27aadb,0xb506e4892fbf9b27,0x7978f46633b6f9c9,0x6fbc6e16818fbf93,0x1ab06be43f41d1cf,0x6af6215659d3020c,0x13ceb1ae603eaf6e,0x78ca16f29dd1cf8a,0x5050ecd66768e8eb,0xe7dc9835e479d777,0x66fdf15659279802,0xa84760568d93206c,0xc724e0e7aff97daf,0xda1a540434b0a6a9,0xb00899cac6ae2559,0xa9402766727b8b59,0x7f2e6c7bb79dc4c1,0x643da5edc63d215b]
def ZFJ:List (BitVec 64):=[0xa655cc1b171fe856,0x6ef8c092e64583ff,0xc0ad6c991be0485b,0x21b463e3b52f6201,0x6f2789526bdcb6fa,0xb9a4dfa32e467194,0x7fbf54770eac2b9d,0x3b151fb49843c62a,0x7456e960fec6dd27,0x280ba513315a09b9,0x7e575e5cfa088096,0xac01167b7b5d86fb,0xef9b6d2997b479f9,0x6d93135b74fab5fa,0xe593186487a0cc7b,0x349ad316f75f5f7e,0x7055a8558ef92038,0xbd670349dcb6a5b4,0x670d5078a2288496,0x27f151402aba31fd,0xcc7acc34cf013622,0x61e0a6c7f80274d2,0xf72051e0eeb4827c,0x9a7f5ef7dcd7ed2b,0x56db3f518f237f3f]
theorem kFR0:∀j:Nat,j < 25→rnd 0 (lk kFL0) j=lk kFL1 j:=by decide +kernel
theorem kFR1:∀j:Nat,j < 25→rnd 1 (lk kFL1) j=lk kFL2 j:=by decide +kernel
theorem kFR2:∀j:Nat,j < 25→rnd 2 (lk kFL2) j=lk kFL3 j:=by decide +kernel
theorem kFR3:∀j:Nat,j < 25→rnd 3 (lk kFL3) j=lk kFL4 j:=by decide +kernel
theorem kFR4:∀j:Nat,j < 25→rnd 4 (lk kFL4) j=lk kFL5 j:=by decide +kernel
theorem kFR5:∀j:Nat,j < 25→rnd 5 (lk kFL5) j=lk kFL6 j:=by decide +kernel
theorem kFR6:∀j:Nat,j < 25→rnd 6 (lk kFL6) j=lk kFL7 j:=by decide +kernel
theorem kFR7:∀j:Nat,j < 25→rnd 7 (lk kFL7) j=lk kFL8 j:=by decide +kernel
theorem kFR8:∀j:Nat,j < 25→rnd 8 (lk kFL8) j=lk kFL9 j:=by decide +kernel
theorem kFR9:∀j:Nat,j < 25→rnd 9 (lk kFL9) j=lk ZGU j:=by decide +kernel
theorem kFR10:∀j:Nat,j < 25→rnd 10 (lk ZGU) j=lk ZGV j:=by decide +kernel
theorem kFR11:∀j:Nat,j < 25→rnd 11 (lk ZGV) j=lk ZGW j:=by decide +kernel
theorem kFR12:∀j:Nat,j < 25→rnd 12 (lk ZGW) j=lk ZGX j:=by decide +kernel
theorem kFR13:∀j:Nat,j < 25→rnd 13 (lk ZGX) j=lk ZGY j:=by decide +kernel
theorem kFR14:∀j:Nat,j < 25→rnd 14 (lk ZGY) j=lk ZGZ j:=by decide +kernel
theorem kFR15:∀j:Nat,j < 25→rnd 15 (lk ZGZ) j=lk ZGa j:=by decide +kernel
theorem kFR16:∀j:Nat,j < 25→rnd 16 (lk ZGa) j=lk ZGb j:=by decide +kernel
theorem kFR17:∀j:Nat,j < 25→rnd 17 (lk ZGb) j=lk ZGc j:=by decide +kernel
theorem kFR18:∀j:Nat,j < 25→rnd 18 (lk ZGc) j=lk ZGd j:=by decide +kernel
theorem kFR19:∀j:Nat,j < 25→rnd 19 (lk ZGd) j=lk ZGe j:=by decide +kernel
theorem kFR20:∀j:Nat,j < 25→rnd 20 (lk ZGe) j=lk ZGf j:=by decide +kernel
theorem kFR21:∀j:Nat,j < 25→rnd 21 (lk ZGf) j=lk ZGg j:=by decide +kernel
theorem kFR22:∀j:Nat,j < 25→rnd 22 (lk ZGg) j=lk ZGh j:=by decide +kernel
theorem kFR23:∀j:Nat,j < 25→rnd 23 (lk ZGh) j=lk ZFJ j:=by decide +kernel
theorem kFS0:∀j:Nat,j < 25→Z29 0 (Z22 Z0W (Z25 kFm)) j=lk kFL0 j:=by decide +kernel
theorem kFS1:∀j:Nat,j < 25→Z29 1 (Z22 Z0W (Z25 kFm)) j=lk kFL1 j:=fun j hj=>(ZI 0 kFS0 j hj).trans (kFR0 j hj)
theorem kFS2:∀j:Nat,j < 25→Z29 2 (Z22 Z0W (Z25 kFm)) j=lk kFL2 j:=fun j hj=>(ZI 1 kFS1 j hj).trans (kFR1 j hj)
theorem kFS3:∀j:Nat,j < 25→Z29 3 (Z22 Z0W (Z25 kFm)) j=lk kFL3 j:=fun j hj=>(ZI 2 kFS2 j hj).trans (kFR2 j hj)
theorem kFS4:∀j:Nat,j < 25→Z29 4 (Z22 Z0W (Z25 kFm)) j=lk kFL4 j:=fun j hj=>(ZI 3 kFS3 j hj).trans (kFR3 j hj)
theorem kFS5:∀j:Nat,j < 25→Z29 5 (Z22 Z0W (Z25 kFm)) j=lk kFL5 j:=fun j hj=>(ZI 4 kFS4 j hj).trans (kFR4 j hj)
theorem kFS6:∀j:Nat,j < 25→Z29 6 (Z22 Z0W (Z25 kFm)) j=lk kFL6 j:=fun j hj=>(ZI 5 kFS5 j hj).trans (kFR5 j hj)
theorem kFS7:∀j:Nat,j < 25→Z29 7 (Z22 Z0W (Z25 kFm)) j=lk kFL7 j:=fun j hj=>(ZI 6 kFS6 j hj).trans (kFR6 j hj)
theorem kFS8:∀j:Nat,j < 25→Z29 8 (Z22 Z0W (Z25 kFm)) j=lk kFL8 j:=fun j hj=>(ZI 7 kFS7 j hj).trans (kFR7 j hj)
theorem kFS9:∀j:Nat,j < 25→Z29 9 (Z22 Z0W (Z25 kFm)) j=lk kFL9 j:=fun j hj=>(ZI 8 kFS8 j hj).trans (kFR8 j hj)
theorem kFS10:∀j:Nat,j < 25→Z29 10 (Z22 Z0W (Z25 kFm)) j=lk ZGU j:=fun j hj=>(ZI 9 kFS9 j hj).trans (kFR9 j hj)
theorem kFS11:∀j:Nat,j < 25→Z29 11 (Z22 Z0W (Z25 kFm)) j=lk ZGV j:=fun j hj=>(ZI 10 kFS10 j hj).trans (kFR10 j hj)
theorem kFS12:∀j:Nat,j < 25→Z29 12 (Z22 Z0W (Z25 kFm)) j=lk ZGW j:=fun j hj=>(ZI 11 kFS11 j hj).trans (kFR11 j hj)
theorem kFS13:∀j:Nat,j < 25→Z29 13 (Z22 Z0W (Z25 kFm)) j=lk ZGX j:=fun j hj=>(ZI 12 kFS12 j hj).trans (kFR12 j hj)
theorem kFS14:∀j:Nat,j < 25→Z29 14 (Z22 Z0W (Z25 kFm)) j=lk ZGY j:=fun j hj=>(ZI 13 kFS13 j hj).trans (kFR13 j hj)
theorem kFS15:∀j:Nat,j < 25→Z29 15 (Z22 Z0W (Z25 kFm)) j=lk ZGZ j:=fun j hj=>(ZI 14 kFS14 j hj).trans (kFR14 j hj)
theorem kFS16:∀j:Nat,j < 25→Z29 16 (Z22 Z0W (Z25 kFm)) j=lk ZGa j:=fun j hj=>(ZI 15 kFS15 j hj).trans (kFR15 j hj)
theorem kFS17:∀j:Nat,j < 25→Z29 17 (Z22 Z0W (Z25 kFm)) j=lk ZGb j:=fun j hj=>(ZI 16 kFS16 j hj).trans (kFR16 j hj)
theorem kFS18:∀j:Nat,j < 25→Z29 18 (Z22 Z0W (Z25 kFm)) j=lk ZGc j:=fun j hj=>(ZI 17 kFS17 j hj).trans (kFR17 j hj)
theorem kFS19:∀j:Nat,j < 25→Z29 19 (Z22 Z0W (Z25 kFm)) j=lk ZGd j:=fun j hj=>(ZI 18 kFS18 j hj).trans (kFR18 j hj)
theorem kFS20:∀j:Nat,j < 25→Z29 20 (Z22 Z0W (Z25 kFm)) j=lk ZGe j:=fun j hj=>(ZI 19 kFS19 j hj).trans (kFR19 j hj)
theorem kFS21:∀j:Nat,j < 25→Z29 21 (Z22 Z0W (Z25 kFm)) j=lk ZGf j:=fun j hj=>(ZI 20 kFS20 j hj).trans (kFR20 j hj)
theorem kFS22:∀j:Nat,j < 25→Z29 22 (Z22 Z0W (Z25 kFm)) j=lk ZGg j:=fun j hj=>(ZI 21 kFS21 j hj).trans (kFR21 j hj)
theorem kFS23:∀j:Nat,j < 25→Z29 23 (Z22 Z0W (Z25 kFm)) j=lk ZGh j:=fun j hj=>(ZI 22 kFS22 j hj).trans (kFR22 j hj)
theorem kFS24:∀j:Nat,j < 25→Z29 24 (Z22 Z0W (Z25 kFm)) j=lk ZFJ j:=fun j hj=>(ZI 23 kFS23 j hj).trans (kFR23 j hj)
theorem ZGi (j:Nat) (h:j < 25):Z4K kFm j=lk ZFJ j:=kFS24 j h
theorem ZHh:sumOf kFm=kFh:=by
 have e:sumOf kFm=(List.range 32).map (Z3s (lk ZFJ)):=by
  unfold sumOf
  refine List.map_congr_left (fun i hi=>?_)
  have hi:=List.mem_range.1 hi
  simp only [Z3s,ZGi (i / 8) (by omega)]
 rw [e]; decide +kernel
def kGm:List UInt8:=[196,130,32,97,49]
def kGh:List UInt8:=[89,182,151,164,219,12,71,85,64,72,98,21,193,232,246,73,69,164,160,173,141,41,29,230,205,144,33,196,251,246,57,221]
def kGL0:List (BitVec 64):=[0x131612082c4,0x0,0x0,0x0,0x0,0x0,0x0,0x0,0x0,0x0,0x0,0x0,0x0,0x0,0x0,0x0,0x8000000000000000,0x0,0x0,0x0,0x0,0x0,0x0,0x0,0x0]
def kGL1:List (BitVec 64):=[0x531612082c4,0x82c400000131612,0x98b49041620000,0x121200082c5,0x8b4f09041711412,0x8,0x3674b41058a62c24,0x8,0x1058900000262c24,0x362c241058800000,0x262c2410588,0x262c241058820,0x0,0x260a083448d88,0x40020,0x1616cda8c20b1013,0x1000004000,0x4c584820b1000,0x1612082c40004013,0x1000000000,0x82c40000013161,0x20000000000,0x2082c0c584833a71,0x2000020000000000,0x4c584820b10]
def kGL2:List (BitVec 64):=[0x622ced72cd3ebdd2,0x97aea6055955ba61,0xb1871ad3131c4ea3,0x68cff42a83ff1ea1,0xa565ab40d98100f9,0xa49805e6874ed137,0xc2a79116fc63dd09,0x196ee9b1e0e93432,0x63c8c3d129292dd2,0x6a6ea67bfb5fe51a,0xb82e5bb3ffeb89cf,0xf2daac7748083e94,0x22fc316d622a5257,0x68ee0981616fd70b,0xf5961c1b29b938ac,0x57166f42e93ea0f6,0xb26f306530cfb53f,0x804f6fbe81e7954a,0x910cae77927399c5,0x9d14bf3778bc191c,0x4c85f5c767c4a1b8,0x2fe69b68fb364354,0x98b61e4238e42491,0xbfc67a283368f6f0,0x5a87b76722c5db15]
def kGL3:List (BitVec 64):=[0x2cdc00c0d3a529b4,0x18346a47bde0226b,0x445a599f2aaa74e5,0x849502371b34f717,0x93a0e78e0a74372c,0x9c90fb960203ff5b,0x91e27dba8dfef7b3,0x8fb071870bfe9d88,0xfcec9ec4efc70f02,0xe63b7f245090d313,0x8fe9cae3431ae86c,0x5cc3248013b9cfe4,0x3546b7f2340139f5,0xab6e46e4bd42511b,0x6197c9531fa2137c,0xc2fca12e0928a11,0xf9bf24c246275468,0xb99ca426a3b2698,0x4be6b9325621b0a9,0xd107231b299ccc19,0x485ebf242aa5a4f1,0x32c5b525697ca424,0x4c27d4bb5440a91e,0x5fe596b160286829,0x9dda54b306ea1429]
def kGL4:List (BitVec 64):=[0xa0d2678d242e542b,0x5eff1571bb990f0,0x638c972916a2072d,0xd0a72c528a0cfae8,0x1f04ea1102c94349,0x2a53a37f7ac2cb77,0x3b2b71e06df90870,0x3fb56d91b6298bff,0x1b055247044ea1ee,0x6aa4732131c4b40e,0x218a4944a52d9c7a,0xecd58c382c3d79a6,0xea847cb18a471d14,0xb9d591a330fa59c9,0xad01618b65089046,0x272e4343151e8498,0x1cd004058f918b9c,0xd98f8575b983cb54,0xe7d8cefbb2fa4d7f,0xc9d759d7887e6d4e,0xb706140b731b3f0a,0x4db82af9f8884b81,0xce31d0290976e020,0xa7e704da23137924,0xa4abe421162c696d]
def kGL5:List (BitVec 64):=[0x117d4e6dbe95d67d,0x86d11a4e1dbd476,0x1388f872620f37c5,0xe45a2ba48514a964,0xf110d0bd4bee7029,0x4901be517134e619,0x7c73f9493d28ee3e,0xb0185479bdc1f87e,0x40c904ffffabe69d,0x518956a081541d20,0x31e3d24f601abac2,0x178816a5f9f9d93b,0xdc76d84a25b2d9b0,0x71dda599a22a18cf,0x5083a720629d5190,0x9ab19c3382c989c2,0xb5cae30956e82c6e,0x46a8ac4b3ed9de53,0x7e84e5026973c4e1,0xd6237c55012ba009,0xc11a7eed1a2182df,0x8fe8dc0dc4026de9,0x385b9de5c302f8f8,0x2243be241b84d380,0xde91dab180787560]
def kGL6:List (BitVec 64):=[0xfdaf431d7cf42440,0x18ccd7c6ab222052,0xb7df0cbd84567afc,0xf3db8da44431ea34,0x62c3c5ed4e93ccce,0xd1704ca4421d65c,0x49645997601c8f9c,0x975bb73d357824d3,0x289290b8c44e69d5,0xebfc6f9a41edbd4,0x70c4f54fb78d5b9b,0xedcd9d175b96815e,0xa57fd9e70c1f309b,0xd36e6e6aee636829,0x61bc7840b36cab09,0x1d1a029fd003848c,0xde1484e8420bb712,0x59e75a0791adc8ae,0xfb4e36f6fea50207,0xa1d6a7f45546fb23,0x964afee540e04836,0x3e1ae3871155520a,0x2b991087a1b7df11,0xf84a17a6e13226ad,0x97ca5df9e16b06ca]
def kGL7:List (BitVec 64):=[0x1c81bf3d06d1630b,0x15da6a512b68c85f,0x93ac565a10bc91cb,0x8e7402cd090e3e41,0x658cab25a0dea6f9,0xf68610eb61a39f0,0xd1bdab7dfed9bc30,0xb6447a36ed663a8c,0xc50f2646f46c82c8,0x3ca0162d18ebd54b,0xd9b5b0f7d53deef9,0xdd91c01f75047cc3,0x2fe50821eca6e08a,0xd2906cabf71114d,0x5bb4ed0659305404,0x760b965fbff4c075,0xa1311beee376d5c2,0xbc40cf605c5f503f,0x6d3258e44fb949e5,0xd2787f1db2b59dde,0x77ffbf9428bf4ada,0x9174925d764d54c9,0xe0843a3e31fbc5fd,0x53a8c82a09dbe018,0xe8f3b2e104a32082]
def kGL8:List (BitVec 64):=[0xf7f7f74921d7da24,0x53993b3824254e4d,0xf286ae942f1dfec6,0x5612aa516f4e91b3,0xe394715a5258048a,0xb9bf7d7ca38ba6ee,0xe33986cad4ddf680,0x9319223b49993a6d,0xe2453de8f5d1fb0d,0x55458f64186f985,0x85990b316c999c58,0x19a56a36900ee67e,0x77434f712d4fcdd8,0xc2008163fee439ed,0xd5bcb2c30fde302f,0xa29a7644fe61a49b,0xb020254789caefd9,0x6a949fda36f3c6e4,0x39759845e8f5b285,0xc2344720dc557f4b,0x86e5ade90d1c864f,0x69f0f0c6b08659b7,0x14baee9b176acbb4,0xf651801af4455f03,0xd42d8dd7a584105b]
def kGL9:List (BitVec 64):=[0x333dd07377738d07,0x3ec00dc373d7d84c,0x92456aaa0081702b,0xf71a2ce2db0689f,0x8d40340b8204bcd0,0xe4492d0ec76be3bf,0xf619230c1fc637b6,0x8f2ff2f454f9d52,0x6891f0c86358083d,0x50c13cfaaf7cffd8,0x4b942b9ccab3399b,0x49cf8834cf2ec460,0x78bd22934dd0792a,0x3fcf683e72713b4,0xe3e43ac3f21dcecf,0xc18d90d69c9ca64c,0x12f51c4cf64a82a7,0xb9c2a5f4dca57893,0xe841df0929e17e13,0x52a42f90f657b4bc,0x2c286d3f29c890ce,0x2eca3e9201e8340c,0x664426d88dacc8aa,0xabae62feabc2bc71,0xddaf2fc5e4484ecc]
def ZGj:List (BitVec 64):=[0x7c136a4d8392500f,0x2a647fc064536620,0xa4170853998a9670,0x9f9d2a1eb2d6a2f3,0x99c58196cb3b8015,0xbaad333c8410bf5b,0x49a3f4f8d68d4a84,0x7c9bd8f478aa4f0,0xf91e4b2d8fe40872,0x7381f6c36b34466a,0x9331d5e7c2cbb72,0x9e7209d3879e206d,0xec408d9452904d0c,0xfc527a1a4dc2e8b5,0xda0954a6f6bb9cd9,0x8b5b63e3af5cedf,0xb2382b82f74052ba,0x3f4932c9f7fc557f,0x889aefb5f3a4ef0e,0x46febeb2ce681157,0x9be6ab1980dbe3fe,0x241ae0d43f957a31,0x7d6bb3bde1ad027,0xb3f530176144f5e9,0x9644b779eee469e5]
def ZGk:List (BitVec 64):=[0x694f930e9c811897,0x4d52affdc0ee597e,0x9ecfed9052e1d249,0x47544483067d6af,0xb458cf4cd0a666d1,0xbdf80161e2172bfc,0xd12225ee97fd8bc,0xb3702f8d95368f29,0xb1daa09c603debc0,0x45e72d7c359578b8,0x11720bdbce6cef2b,0x941f695ce7e6c50b,0xa1299fac95954b9f,0xccdaa0f6a2fecf5d,0x81e57722243ab0bc,0x4993f9554cbd37ba,0xd11c1bbcf704a4b1,0xb8caa0e2d39348b8,0x9861a626e04b3661,0x84291e7d4e68c20b,0xf327701e6c1fcee5,0x4de764c9abed907f,0xc58c62e106701e5b,0xef688e66f012fbea,0x5f9fe267c003eb60]
def ZGl:List (BitVec 64):=[0xdbcc9bb0f8fc673c,0x2741895820dc864e,0x8147d7bb295f3cd7,0x609f68ef7041d91a,0x6fefa09fa7b9eb80,0xf230bba9ca23d0d7,0x8e1f3c0855fbde94,0x4cb2aa3169b646fd,0xe0b2d031a6819d99,0xde354035dbfa8525,0x836105ced7bc5873,0xdd1bf03c91821f1d,0xa17b2c02f89587d2,0xb452e0443f1f54c5,0xf0162936a5572100,0xb19c41b932263435,0xc45006d077b3b580,0xb7123963b589b497,0x7140da6391e0f649,0x8f49e4838138b57c,0x19c4ff3fe1e0246e,0x948be930df7e2cde,0x3bbfb4b02f0d1ad1,0xf480d6556d6fb245,0x4d62d0ccdc05df7]
def ZGm:List (BitVec 64):=[0x5f2e9d8f7dc1f93b,0xe813acc0f5fefa6a,0xff8e527651f0f0ea,0x8bd15ab47501a9a0,0x33808d36fdb06e72,0x37d68c638149b821,0xfe3f7ec2ee324096,0x2272b00a5d121e7b,0xcdb3c8d954e7e2dc,0xafa3c4fce7aead89,0xebc351eea7123fd9,0xd928f82afd922c41,0xf03d4e969541e4f8,0x3e82c9f3250f257a,0xbcfb9b75a1466aa8,0x88fe510a2eceda46,0x69fc2c97b5af9a2d,0xc5cf6b81553e8af8,0x1526fba0a7d76869,0xd780a9bf38446e87,0x73ac913bc2c5de98,0x2d520bc3c2dfb050,0xee664f3801a10def,0x97d48664a7696648,0x546521da94bfd1c1]
def ZGn:List (BitVec 64):=[0x678759f9c8250666,0x622f792859656aa5,0xdd2f63f080fe147,0x22eeb5b56f82269e,0x1f9dff2a7b77fb9,0xe837b2c35a9cb635,0x2e11cc3399ca272e,0xfd748e3a97668e4e,0xd61b33a9db386359,0x16354cee92466e26,0x39d4f3a1ea4835ff,0x3f3d70e2059a2702,0x2deeb7a49afc24ea,0x789ba25201f6badd,0x24bdcfec0a39717,0x5c34afd2b9c80fec,0xdf797f4629f5990b,0x4971fbe169768071,0xd504cf1f03b1d138,0x1e9e96b38171d3c4,0x79390eeeb218835d,0xa4c674dabd7b1cb3,0x1f7f13dd8d83a4a4,0x616ba4d92c22732e,0xe36cbd4fb19c0e65]
def ZGo:List (BitVec 64):=[0x5e01b12d2af906d1,0xab64cffe4b2ba282,0x6b8c58aad772ad9c,0x964b5cca518d504,0x816639d21156cfed,0x5419ddf3d3912421,0x8b81cde1802adc77,0x22f05ba848050997,0xd9ceacf913bf7282,0xae7e08553d305467,0x4bd51f2af1095db1,0x7a9ff684546e48e1,0x7496d2c760046e4c,0x4bbe79d42d9d8828,0xe8c993d410ac8097,0x84c199949cb81591,0x500133c91398b177,0x6829bb93fe83eee3,0x718b963dea155bf6,0xa38e12a7a429cc8,0x9c7329d29322a119,0x1e5794ae34d692fd,0x9be6101e4eb13e5e,0x18446f88b9ae8dad,0x868adb3436b33d48]
def ZGp:List (BitVec 64):=[0xb97bc6990a90953b,0xbb8c94adcded1ca7,0x1440d4393d9642c9,0x91d226eeacc52b6b,0xb3450c1311e7d12e,0xe182eb384e986ff1,0x4ed7d663a017f4fd,0x37788fee7e46a80,0xa9493322819575ac,0x6b12aa6accf4fb05,0xd9a2b13e34a0b93e,0xca34b7686d2bffbc,0x4c05128f1227e846,0x98deaa2c10f6af16,0x5bd6432c8bb8bda0,0x97b586385adb43bd,0x7aea38c3f22e2c7c,0xab061f1104cfe6dc,0x7fd26ad880434dc4,0x454afe267a32bca2,0x2ab2a67b9d94a09b,0xa34897f894d6459e,0x81f5f6647477406d,0x810d2182bc4c41c1,0xecca9e32b6f7f703]
def ZGq:List (BitVec 64):=[0x9c8ab64d31af0482,0xad15b750828c0662,0xeb6320bbff1f8318,0xf6e10eb069eb4718,0xe5d97f34d09cb0d8,0x834b5d531be1005c,0x7ea87da0de5cd510,0xe28da23a16c5f0d1,0x683403eea00c8687,0x4fd18895c6356bba,0xcc97c4174fe0d21b,0x6b8ce4f4a3bb0976,0x35398641fb991c8b,0xe9d7e50041001073,0x7b4b2f42a2f83da2,0xa6ef09e6eeeb7c4e,0xd82cfd72c02d8419,0x8497f1a856484cd7,0xd62430b87133787f,0x23a43b8c3d24fcae,0x1feeb1c4a6da34fb,0xa381510f4b0e52dc,0xdf186923f8673732,0xcf653460497f9701,0x525dd17603a862c5]
def ZGr:List (BitVec 64):=[0x324090f7412a426e,0xb632e1064c37c8b8,0x7f8bd35d1ee85550,0xa31b1c13f23c049b,0x40cbd70fb42c723d,0xd4a6dfcfec6c5767,0xa212b20e9e9f11f4,0xe0a797a3d8cbb1cd,0x426777bd4a590589,0xd850665aed2c284a,0x83a79db2ae88d0b8,0x6d960394468045be,0xe5d7afe2409fd71c,0x4bb97d56186dde91,0x78a7505d072cecb1,0xf16504e080add7,0xce84176a4086f745,0x9ac6b9ff299830d,0x557e25ba5c80494b,0x6bef5b8614e6bb72,0x7906fef3ea727cbb,0xf387097fc30cff28,0xa79adaacf2f74da4,0x2c3ac9315afe732e,0x9f3efac078231688]
def ZGs:List (BitVec 64):=[0x2fc73dab548ad038,0xec20173a7a3c481,0x80c273383c2c709e,0xea72fcb04b776d37,0xa4a2f35bd6c594f4,0x1111c9ad2de4d86a,0xef0cba2e452b23d3,0xf986877dd911178c,0xe22b6f91bd89c4a3,0x24a19e1a153421ce,0xd88b04393181467,0xc44a76e089298540,0x477a0a7291edcd4b,0x2332fa0696f62e9,0x4efc9c595ac43184,0xd3f99cfb69fdf7bc,0x1c0652b79a131d32,0xfdfbf018e63cc1d2,0x68f8c40b636ff449,0x72d76f1710b9f6bb,0x360f1cc5f1618098,0x24f031644f343d45,0x9390268c37182c58,0xfc3fa1322c5931fa,0x527f716518406af6]
def ZGt:List (BitVec 64):=[0x5bf41c362040043a,0xdf5e69d0a5f5a7c4,0xac97d03638b93451,0x7cc9a4605ff48447,0xcc088accae37fba2,0x6441aa305aac828e,0xc362a43f920041dc,0xc9971d919bce48e2,0x57b03dc08a91f4ea,0x8775233de50b7b24,0x75992e97344fc2ed,0x69c6c1b5f6705976,0x391e20a98b9c1b05,0x6b3f513ec76e1649,0xb7aee6a4f09797e4,0x8e9680a0693aab51,0x4644c9061827818c,0xabff73c5ad2dcfcf,0x578ecedac705aef9,0xde30804b56af35eb,0x387a4fbbc89b02ff,0x6bb462cce585e2d1,0xdafc25dfc8e7ed76,0xdae74086967e911a,0x84fb125ebdf97c9]
def ZGu:List (BitVec 64):=[0x98c5a4af9ed0a817,0x26736679b6d9ce05,0xdb85c250d15def82,0xf651d2757451f975,0x141ecffa05419958,0x70f652bcc25c8c63,0x2a6b87fa35cbbc0c,0x7a11fd8a549e6e1e,0xdc2e96137d1c43bc,0xcd1484ba72c721e5,0xfa4880d62d4dc076,0xf6adedc010d8b440,0xd98db047a9667c29,0x9e219c0a5abe03b8,0xfa07b9347d66bc8d,0x6d9a17ca57b77614,0x4be07b7eff883273,0xe6827e0e64fc3716,0xe4f09a3d43f8a7d5,0x97a24a024cde681c,0x1ab8fac8201d2e89,0xbed392950e0545e4,0xd13b87d38093b976,0x17cc1c28ffeaf437,0x953a0d8f12761587]
def ZGv:List (BitVec 64):=[0x36d9d8c65e571204,0xaf53e907af9ec573,0x18dc82d67e4a60ad,0xd7a5b642e4c83f70,0x913c39510082ce19,0x5346577ba7ff7ffc,0x1df11b192505005e,0x2480da3dea7621bf,0xdc685231498a0942,0x4e9633d107a2fbb3,0x98c0eb7a73686e60,0xd7eb00d3ce5819a6,0x70f1cb4665255583,0xdb73d5b9e8fe9b7b,0x55afd768d6fa011c,0xbd71a04fb5d36912,0x283983e4c6a0e295,0x767b191d0db55426,0x588a54ea0db77ee0,0xb4930001d8bf3031,0xb6a666f8f0562250,0x5f205441d41c2561,0x3b3401738840598e,0x644866269cc4c714,0x1a63874b6760fa64]
def ZGw:List (BitVec 64):=[0x169cd9e419add6de,0xcb2fec8aca4cf030,0x93373c9ad3581a54,0x4b306aa7c3c6c855,0x31082d421d9926e3,0xd049fdb8fdf3d8c4,0x7064fddde9f6b3b4,0x889fdc05c4a9129c,0xb3c7c216b7c88c8b,0x5d178605ccf00a42,0xc0bc99191a256eb2,0x87992059755e6da,0x7ca83ada0824359e,0xda53d7d2e8b41d87,0xd02a8cb3ccf65b84,0x38c2bbfa880a83fd,0x5563161d132536f7,0xf8d497f395a81988,0x8d6e432a3f93d6bd,0xab25045d90005321,0x759d2264c06295a2,0xdeca256653508ed6,0xf7778aafe34d42ce,0x54a375a690afa66,0x23f596cdd1155d72]
def ZFK:List (BitVec 64):=[0x55470cdba497b659,0x49f6e8c115624840,0xe61d298dada0a445,0xdd39f6fbc42190cd,0x758a6fe46027cf4e,0x405e65eec8bcec37,0x9a92b7db21e09996,0x292be5615cb959c0,0xb1a639a8d31b068b,0x995d0f851230251e,0xa4ddadd5bef8d38a,0x88185acd1d3030ba,0x12782753af96f6dc,0xebf6f1b2019d5957,0x9c4fd55b59a9e90e,0x15fee6f0f82f1577,0x1cc5fcfb3f3bc053,0x22e3b3cc11701200,0xbd263fde07bf4bb6,0x1a0532938a29a6ee,0xff8b86e52ca532ba,0x3bd95d3fe32b6646,0x6b8fe072bf674bb1,0xc481ea7b00bcb171,0x12be6f2e1f9e1401]
theorem kGR0:∀j:Nat,j < 25→rnd 0 (lk kGL0) j=lk kGL1 j:=by decide +kernel
theorem kGR1:∀j:Nat,j < 25→rnd 1 (lk kGL1) j=lk kGL2 j:=by decide +kernel
theorem kGR2:∀j:Nat,j < 25→rnd 2 (lk kGL2) j=lk kGL3 j:=by decide +kernel
theorem kGR3:∀j:Nat,j < 25→rnd 3 (lk kGL3) j=lk kGL4 j:=by decide +kernel
theorem kGR4:∀j:Nat,j < 25→rnd 4 (lk kGL4) j=lk kGL5 j:=by decide +kernel
theorem kGR5:∀j:Nat,j < 25→rnd 5 (lk kGL5) j=lk kGL6 j:=by decide +kernel
theorem kGR6:∀j:Nat,j < 25→rnd 6 (lk kGL6) j=lk kGL7 j:=by decide +kernel
theorem kGR7:∀j:Nat,j < 25→rnd 7 (lk kGL7) j=lk kGL8 j:=by decide +kernel
theorem kGR8:∀j:Nat,j < 25→rnd 8 (lk kGL8) j=lk kGL9 j:=by decide +kernel
theorem kGR9:∀j:Nat,j < 25→rnd 9 (lk kGL9) j=lk ZGj j:=by decide +kernel
theorem kGR10:∀j:Nat,j < 25→rnd 10 (lk ZGj) j=lk ZGk j:=by decide +kernel
theorem kGR11:∀j:Nat,j < 25→rnd 11 (lk ZGk) j=lk ZGl j:=by decide +kernel
theorem kGR12:∀j:Nat,j < 25→rnd 12 (lk ZGl) j=lk ZGm j:=by decide +kernel
theorem kGR13:∀j:Nat,j < 25→rnd 13 (lk ZGm) j=lk ZGn j:=by decide +kernel
theorem kGR14:∀j:Nat,j < 25→rnd 14 (lk ZGn) j=lk ZGo j:=by decide +kernel
theorem kGR15:∀j:Nat,j < 25→rnd 15 (lk ZGo) j=lk ZGp j:=by decide +kernel
theorem kGR16:∀j:Nat,j < 25→rnd 16 (lk ZGp) j=lk ZGq j:=by decide +kernel
theorem kGR17:∀j:Nat,j < 25→rnd 17 (lk ZGq) j=lk ZGr j:=by decide +kernel
theorem kGR18:∀j:Nat,j < 25→rnd 18 (lk ZGr) j=lk ZGs j:=by decide +kernel
theorem kGR19:∀j:Nat,j < 25→rnd 19 (lk ZGs) j=lk ZGt j:=by decide +kernel
theorem kGR20:∀j:Nat,j < 25→rnd 20 (lk ZGt) j=lk ZGu j:=by decide +kernel
theorem kGR21:∀j:Nat,j < 25→rnd 21 (lk ZGu) j=lk ZGv j:=by decide +kernel
theorem kGR22:∀j:Nat,j < 25→rnd 22 (lk ZGv) j=lk ZGw j:=by decide +kernel
theorem kGR23:∀j:Nat,j < 25→rnd 23 (lk ZGw) j=lk ZFK j:=by decide +kernel
theorem kGS0:∀j:Nat,j < 25→Z29 0 (Z22 Z0W (Z25 kGm)) j=lk kGL0 j:=by decide +kernel
theorem kGS1:∀j:Nat,j < 25→Z29 1 (Z22 Z0W (Z25 kGm)) j=lk kGL1 j:=fun j hj=>(ZI 0 kGS0 j hj).trans (kGR0 j hj)
theorem kGS2:∀j:Nat,j < 25→Z29 2 (Z22 Z0W (Z25 kGm)) j=lk kGL2 j:=fun j hj=>(ZI 1 kGS1 j hj).trans (kGR1 j hj)
theorem kGS3:∀j:Nat,j < 25→Z29 3 (Z22 Z0W (Z25 kGm)) j=lk kGL3 j:=fun j hj=>(ZI 2 kGS2 j hj).trans (kGR2 j hj)
theorem kGS4:∀j:Nat,j < 25→Z29 4 (Z22 Z0W (Z25 kGm)) j=lk kGL4 j:=fun j hj=>(ZI 3 kGS3 j hj).trans (kGR3 j hj)
theorem kGS5:∀j:Nat,j < 25→Z29 5 (Z22 Z0W (Z25 kGm)) j=lk kGL5 j:=fun j hj=>(ZI 4 kGS4 j hj).trans (kGR4 j hj)
theorem kGS6:∀j:Nat,j < 25→Z29 6 (Z22 Z0W (Z25 kGm)) j=lk kGL6 j:=fun j hj=>(ZI 5 kGS5 j hj).trans (kGR5 j hj)
theorem kGS7:∀j:Nat,j < 25→Z29 7 (Z22 Z0W (Z25 kGm)) j=lk kGL7 j:=fun j hj=>(ZI 6 kGS6 j hj).trans (kGR6 j hj)
theorem kGS8:∀j:Nat,j < 25→Z29 8 (Z22 Z0W (Z25 kGm)) j=lk kGL8 j:=fun j hj=>(ZI 7 kGS7 j hj).trans (kGR7 j hj)
theorem kGS9:∀j:Nat,j < 25→Z29 9 (Z22 Z0W (Z25 kGm)) j=lk kGL9 j:=fun j hj=>(ZI 8 kGS8 j hj).trans (kGR8 j hj)
theorem kGS10:∀j:Nat,j < 25→Z29 10 (Z22 Z0W (Z25 kGm)) j=lk ZGj j:=fun j hj=>(ZI 9 kGS9 j hj).trans (kGR9 j hj)
theorem kGS11:∀j:Nat,j < 25→Z29 11 (Z22 Z0W (Z25 kGm)) j=lk ZGk j:=fun j hj=>(ZI 10 kGS10 j hj).trans (kGR10 j hj)
theorem kGS12:∀j:Nat,j < 25→Z29 12 (Z22 Z0W (Z25 kGm)) j=lk ZGl j:=fun j hj=>(ZI 11 kGS11 j hj).trans (kGR11 j hj)
theorem kGS13:∀j:Nat,j < 25→Z29 13 (Z22 Z0W (Z25 kGm)) j=lk ZGm j:=fun j hj=>(ZI 12 kGS12 j hj).trans (kGR12 j hj)
theorem kGS14:∀j:Nat,j < 25→Z29 14 (Z22 Z0W (Z25 kGm)) j=lk ZGn j:=fun j hj=>(ZI 13 kGS13 j hj).trans (kGR13 j hj)
theorem kGS15:∀j:Nat,j < 25→Z29 15 (Z22 Z0W (Z25 kGm)) j=lk ZGo j:=fun j hj=>(ZI 14 kGS14 j hj).trans (kGR14 j hj)
theorem kGS16:∀j:Nat,j < 25→Z29 16 (Z22 Z0W (Z25 kGm)) j=lk ZGp j:=fun j hj=>(ZI 15 kGS15 j hj).trans (kGR15 j hj)
theorem kGS17:∀j:Nat,j < 25→Z29 17 (Z22 Z0W (Z25 kGm)) j=lk ZGq j:=fun j hj=>(ZI 16 kGS16 j hj).trans (kGR16 j hj)
theorem kGS18:∀j:Nat,j < 25→Z29 18 (Z22 Z0W (Z25 kGm)) j=lk ZGr j:=fun j hj=>(ZI 17 kGS17 j hj).trans (kGR17 j hj)
theorem kGS19:∀j:Nat,j < 25→Z29 19 (Z22 Z0W (Z25 kGm)) j=lk ZGs j:=fun j hj=>(ZI 18 kGS18 j hj).trans (kGR18 j hj)
theorem kGS20:∀j:Nat,j < 25→Z29 20 (Z22 Z0W (Z25 kGm)) j=lk ZGt j:=fun j hj=>(ZI 19 kGS19 j hj).trans (kGR19 j hj)
theorem kGS21:∀j:Nat,j < 25→Z29 21 (Z22 Z0W (Z25 kGm)) j=lk ZGu j:=fun j hj=>(ZI 20 kGS20 j hj).trans (kGR20 j hj)
theorem kGS22:∀j:Nat,j < 25→Z29 22 (Z22 Z0W (Z25 kGm)) j=lk ZGv j:=fun j hj=>(ZI 21 kGS21 j hj).trans (kGR21 j hj)
theorem kGS23:∀j:Nat,j < 25→Z29 23 (Z22 Z0W (Z25 kGm)) j=lk ZGw j:=fun j hj=>(ZI 22 kGS22 j hj).trans (kGR22 j hj)
theorem kGS24:∀j:Nat,j < 25→Z29 24 (Z22 Z0W (Z25 kGm)) j=lk ZFK j:=fun j hj=>(ZI 23 kGS23 j hj).trans (kGR23 j hj)
theorem ZGx (j:Nat) (h:j < 25):Z4K kGm j=lk ZFK j:=kGS24 j h
theorem ZG4:sumOf kGm=kGh:=by
 have e:sumOf kGm=(List.range 32).map (Z3s (lk ZFK)):=by
  unfold sumOf
  refine List.map_congr_left (fun i hi=>?_)
  have hi:=List.mem_range.1 hi
  simp only [Z3s,ZGx (i / 8) (by omega)]
 rw [e]; decide +kernel
end Go.Vcg
end
section
namespace Go.Proofs.YtfghidehlnfdiaaGreat
open Go Go.Vcg Go.Trie
theorem Z8Z:bytesOf (.leaf (nibbles [97]) [49])=kGm:=by kernel_rfl
theorem ZAL:rootOf (.leaf (nibbles [97]) [49])=kGh:=(congrArg sumOf Z8Z).trans ZG4
theorem ZHE (m:List (By×By)) (hs:Z1K m) (hk:∀e∈m,e.1.length≤64) (hv:∀e∈m,e.2≠[]∧e.2.length≤1024):∃n,Rep (Z0e m) n∧Z1p n∧ZCx n∧cnt n≤4 * m.length:=by
 generalize hl:m.length=l
 induction l generalizing m with
 | zero =>
   obtain rfl:=List.eq_nil_of_length_eq_zero hl
   exact ⟨.nil,ZEc,trivial,ZCA,by simp [cnt]⟩
 | succ l ih =>
   rcases List.eq_nil_or_concat m with rfl | ⟨m',x,rfl⟩
   ·cases hl
   ·rw [List.concat_eq_append] at *
    have hs':Z1K m':=(List.pairwise_append.1 hs).1
    obtain ⟨n,h1,h2,h3,h4⟩:=ih m' hs' (fun e he=>hk e (List.mem_append_left _ he)) (fun e he=>hv e (List.mem_append_left _ he)) (by simpa using hl)
    have hx:=hv x (by simp)
    have hxk:=hk x (by simp)
    have hxl:=ZT x.1
    have hr:=ZEd h1 hs' h2 hx.1 (k:=x.1)
    rw [ZAX hs hx.1] at hr
    have:=ZBC n (nibbles x.1) x.2
    exact ⟨_,hr,(Z8i h2 (Z1B _) hx.1).1,h3.put h2 (Z1B _) hx.1 (by omega) hx.2,by omega⟩
theorem ZH2:Rep (Z0e [([97],[49])]) (.leaf (nibbles [97]) [49])∧Z1p (.leaf (nibbles [97]) [49])∧Z60 (.leaf (nibbles [97]) [49]):=by
 have e:Trie.put .nil (nibbles [97]) [49]=.leaf (nibbles [97]) [49]:=by simp [Trie.put]
 have h1:=ZEd (k:=[97]) (v:=[49]) ZEc List.Pairwise.nil trivial (by simp)
 have h2:=(Z8i (n:=.nil) (p:=nibbles [97]) (x:=[49]) trivial (Z1B _) (by simp)).1
 have h3:=ZCx.put (p:=nibbles [97]) (x:=[49]) ZCA trivial (Z1B _) (by simp) (by decide) (by decide)
 rw [e] at h1 h2 h3
 exact ⟨h1,h2,Z70 h2 h3⟩
theorem ZG5:kGh≠emptyH:=by
 have:emptyH=kFh:=ZHh
 rw [this]; decide
theorem ZCt {σ:Type} {step:σ→By→σ×Except Int By} {s s':σ} {path:By} (hn:∀n∈path,n.toNat < 16) (h:step s kGh=(s',.ok kGm)):way step s (.s kGh) path=(s',.ok (if [6,1]=path then [49] else [])):=by
 have hc:Z0R kGm=0:=by kernel_rfl
 have hd:Z4c kGm=.ok (.l [.s [32,97],.s [49]]):=by kernel_rfl
 obtain ⟨xs,hd',_,hg⟩:=Z2D hc
 rw [hd] at hd'
 cases hd'
 have hh:Z1H (.s [32,97])=some ([6,1],true):=by kernel_rfl
 rw [ZCs (by decide) h hc hd hg hn,ZAR (xs:=[.s [32,97],.s [49]]) rfl hh]
 rfl
theorem ZHw:Z5g [(kGh,kGm)] kGh [97]=.ok [kGm]:=by
 rw [ZDH (by decide) (by decide)]
 have h:pStep [(kGh,kGm)] [] kGh=([kGm],.ok kGm):=by kernel_rfl
 have hr:rootIt kGh=.s kGh:=if_neg ZG5
 rw [hr,ZCt (nib_lt _) h]
theorem ZF0 (key:By) (hk:key.length≤64):Z3B [kGm] kGh key=.ok (if [6,1]=nibbles key then [49] else []):=by
 rw [Z7u (by decide) (by omega)]
 have h:vStep [kGm] 0 kGh=(1,.ok kGm):=by
  unfold vStep
  simp only [List.getElem?_cons_zero,ZG4,if_true]
 have hr:rootIt kGh=.s kGh:=if_neg ZG5
 rw [hr,ZCt (nib_lt _) h]
 rfl
theorem Z4m.any {w w':World} {lab:Nat→Nat} {c cb:Nat} {ls:List By} {o:Option Addr} {n k:Nat} (h:Z4m w lab c cb ls o n k) (M:Vcg.Mod NoB w w'):n=ls.length∧ZDc w' (fun _=>0) 0 ls o :=
 ⟨h.1,(h.stp (S:=NoS) (Stp.of_nob M 0) (fun h=>h) (fun h=>h)).read (fun _ _ _=>rfl)⟩
theorem ZAx.ok {l:List (By×By)} {root key:By} {out:List By} {w w':World} {e:Ending} (h:ZAx l root key w e w') (hr:Z5g l root key=.ok out):Vcg.Mod NoB w w'∧∃o n k,e=.returned (.tuple #[.slice o n k,.int .i64 0])∧∃lab' c cb,Z4m w' lab' c cb out o n k:=by
 obtain ⟨h1,h2⟩:=h
 rw [hr] at h2
 exact ⟨h1,h2⟩
theorem Z8w.ok {p:List By} {root key v:By} {w w':World} {e:Ending} (h:Z8w p root key w e w') (hr:Z3B p root key=.ok v):Vcg.Mod NoB w w'∧∃o k,e=.returned (.tuple #[.slice o v.length k,.bool (decide (v≠[])),.int .i64 0])∧RdB w' o v:=by
 obtain ⟨h1,h2⟩:=h
 rw [hr] at h2
 exact ⟨h1,h2⟩
theorem ZFl:Z3B [kGm] kGh [97]=.ok [49]:=by rw [ZF0 _ (by decide),if_pos (by kernel_rfl)]
theorem ZFm:Z3B [kGm] kGh [98]=.ok []:=by rw [ZF0 _ (by decide),if_neg (by decide)]
theorem Z9C (w:World):Calls Tryz.prog Z0A.n #[] w (fun e w'=>e=.returned (.bool true)∧Vcg.Mod NoB w w'):=by
 refine ZH fun Q hQ=>Z0A.vc _ _ ?_
 have tail:∀{w30:World} {D:Nat} {oN oK:Option Addr} {kN kK:Nat},Vcg.Mod NoB w w30→Blk w30 D 27 (hashA kGh)→Z0w w30 (fun _=>0) 0 [(kGh,kGm)] oN 1→RdB w30 oK [97]→∀(d22:Addr),d22=⟨D,0,none⟩ →
   Calls Tryz.prog 21 #[.slice oN 1 kN,.agg (hashA kGh),.slice oK 1 kK] w30 (fun e39 w40 =>
   ∃o41 l42 l43 n44,e39=.returned (.tuple #[(.slice o41 l42 l43),(.int .i64 n44)]) ∧
   ∃L45,ZJ w40 d22 32 L45 ∧
   ∀d46 w47,ZC w40 5 #[(.int .u8 97)] d46 w47 →
   ∃v48 w49,Sem.run Tryz.prog (convert 23 23 (.slice (some d46) 1 1)) w47=.ok v48 w49 ∧
   ∃o50 l51 l52,v48=(.slice o50 l51 l52) ∧
   Calls Tryz.prog 22 #[(.agg L45),(.slice o50 l51 l52),(.slice o41 l42 l43)] w49 (fun e53 w54 =>
   ∃o55 l56 l57 b58 n59,e53=.returned (.tuple #[(.slice o55 l56 l57),(.bool b58),(.int .i64 n59)]) ∧
   ∃L60,ZJ w54 d22 32 L60 ∧
   ∀d61 w62,ZC w54 5 #[(.int .u8 98)] d61 w62 →
   ∃v63 w64,Sem.run Tryz.prog (convert 23 23 (.slice (some d61) 1 1)) w62=.ok v63 w64 ∧
   ∃o65 l66 l67,v63=(.slice o65 l66 l67) ∧
   Calls Tryz.prog 22 #[(.agg L60),(.slice o65 l66 l67),(.slice o41 l42 l43)] w64 (fun e68 w69 =>
   ∃o70 l71 l72 b73 n74,e68=.returned (.tuple #[(.slice o70 l71 l72),(.bool b73),(.int .i64 n74)]) ∧
   (((n44=0 →
   (((n59=0 →
   (((n74=0 →
   (((b58=true →
   (((b73=false →
   (((((l42:Nat):Int)=1 →
   ∃v75,Sem.run Tryz.prog (convert 23 9 (.slice o55 l56 l57)) w69=.ok v75 w69 ∧
   ∃s76,v75=(.string s76) ∧
   Q (.returned (.bool (Z9a .eql s76 ⟨#[49]⟩))) w69)) ∧
   ((((l42:Nat):Int)≠1 →
   Q (.returned (.bool false)) w69))))) ∧
   ((b73=true →
   Q (.returned (.bool false)) w69))))) ∧
   ((b58=false →
   Q (.returned (.bool false)) w69))))) ∧
   ((n74≠0 →
   Q (.returned (.bool false)) w69))))) ∧
   ((n59≠0 →
   Q (.returned (.bool false)) w69))))) ∧
   ((n44≠0 →
   Q (.returned (.bool false)) w69)))))):=by
  rintro w30 D oN oK kN kK M H N r _ rfl
  refine (ZAy (l:=[(kGh,kGm)]) (key:=[97]) N (by decide) (by simp [kGm]) (by decide) r).mono ?_
  intro e w40 hp
  obtain ⟨M40,op,np,kp,rfl,labp,c,cb,hO⟩:=hp.ok ZHw
  refine ⟨_,_,_,_,rfl,_,(H.mod' M40).rowAll (ZB _),?_⟩
  rintro d w47 ⟨rfl,rfl⟩
  obtain ⟨w49,h49,M49,r49⟩:=Z3Z w40 (bs:=[97]) (A:=#[(.int .u8 97)]) rfl 1 1
  obtain ⟨rfl,hL⟩:=hO.any M49
  refine ⟨_,w49,h49,_,_,_,rfl,?_⟩
  refine (Z6P (p:=[kGm]) (key:=[97]) (root:=kGh) hL (by decide) (by simp [kGm]) (by decide) r49).mono ?_
  intro e w54 hv
  obtain ⟨M54,ov,kv,rfl,hrv⟩:=hv.ok ZFl
  have M4054:=M49.none_trans M54
  refine ⟨_,_,_,_,_,rfl,_,((H.mod' M40).mod' M4054).rowAll (ZB _),?_⟩
  rintro d w62 ⟨rfl,rfl⟩
  obtain ⟨w64,h64,M64,r64⟩:=Z3Z w54 (bs:=[98]) (A:=#[(.int .u8 98)]) rfl 1 1
  obtain ⟨_,hL2⟩:=hO.any (M4054.none_trans M64)
  refine ⟨_,w64,h64,_,_,_,rfl,?_⟩
  refine (Z6P (p:=[kGm]) (key:=[98]) (root:=kGh) hL2 (by decide) (by simp [kGm]) (by decide) r64).mono ?_
  intro e w69 hv2
  obtain ⟨M69,ov2,kv2,rfl,_⟩:=hv2.ok ZFm
  have Mall:Vcg.Mod NoB w w69:=((M.none_trans M40).none_trans M4054).none_trans (M64.none_trans M69)
  refine ⟨_,_,_,_,_,rfl,fun _=>⟨fun _=>⟨fun _=>⟨fun _=>⟨fun _=>⟨fun _=>⟨_,ZHD (hrv.mod' (M64.none_trans M69)),_,rfl,hQ _ _ ⟨?_,Mall⟩⟩,fun h=>(h rfl).elim⟩,fun h=>(by cases h)⟩,fun h=>(by cases h)⟩,fun h=>(h rfl).elim⟩,fun h=>(h rfl).elim⟩,fun h=>(h rfl).elim⟩
  have e:Z9a .eql (Z7r [49]) ⟨#[49]⟩=true:=Z6J [49] [49]
  rw [e]
 unfold Z0A.Vc
 rintro d w1 ⟨rfl,rfl⟩
 obtain ⟨w2,h2,M2,r2⟩:=Z3Z w (bs:=[97]) (A:=#[(.int .u8 97)]) rfl 1 1
 refine ⟨_,w2,h2,_,_,_,rfl,?_⟩
 rintro d w3 ⟨rfl,rfl⟩
 obtain ⟨w4,h4,M4,r4⟩:=Z3Z w2 (bs:=[49]) (A:=#[(.int .u8 49)]) rfl 1 1
 refine ⟨_,w4,h4,_,_,_,rfl,?_⟩
 rintro d w5 ⟨rfl,rfl⟩
 have M5:=Mod.alloc (S:=NoB) w4 (.cells #[(.slice (some ⟨w.heap.size,0,none⟩) 1 1),(.slice (some ⟨w2.heap.size,0,none⟩) 1 1)] 53)
 have B5:=Blk.new w4 53 #[(.slice (some ⟨w.heap.size,0,none⟩) 1 1),(.slice (some ⟨w2.heap.size,0,none⟩) 1 1)]
 have r2':=r2.mod' (M4.none_trans M5)
 have r4':=r4.mod' M5
 have M05:=(M2.none_trans M4).none_trans M5
 have hKv:Z5M _ (fun _=>0) 0 (some ⟨w4.heap.size,0,none⟩) [([97],[49])]:=fun j hj=>by
  obtain rfl:j=0:=by simpa using hj
  exact ⟨_,_,_,_,_,_,rfl,B5.lt,rfl,B5.cell 0,⟨r2',fun _ _ _=>rfl⟩,B5.cell 1,⟨r4',fun _ _ _=>rfl⟩⟩
 obtain ⟨p1,p2,p3⟩:=ZH2
 generalize w4.alloc (.cells #[(.slice (some ⟨w.heap.size,0,none⟩) 1 1),(.slice (some ⟨w2.heap.size,0,none⟩) 1 1)] 53)=w6 at *
 refine (ZBz hKv ⟨by decide,by simp,by simp⟩ p1 p2 p3 (by simp [cnt]) 0).mono ?_
 rintro _ w7 ⟨o7,k7,rfl,M7,N7⟩
 have hN7:Z0w w7 (fun _=>0) 0 [(kGh,kGm)] o7 1:=by
  rw [Z8g,ZAL,Z8Z] at N7
  exact N7.re (fun _ _ _=>rfl)
 have hlen:(Z0t (.leaf (nibbles [97]) [49])).length=1:=by rw [Z8g]; rfl
 rw [hlen,ZAL]
 refine ⟨_,_,_,_,rfl,?_⟩
 rintro d w8 ⟨rfl,rfl⟩
 have H8:=Blk.new w7 27 (Array.replicate 32 (.int .u8 0))
 obtain ⟨g1,g2,g3⟩:=Z1c H8 (by simp) kGh
 have M8:=ZM (Mod.alloc w7 (.cells (Array.replicate 32 (.int .u8 0)) 27)) g3 (Nat.le_refl _)
 refine ⟨_,g1,?_⟩
 have M08:=(M05.none_trans M7).none_trans M8
 have N8:Z0w _ (fun _=>0) 0 [(kGh,kGm)] o7 1:=(hN7.stp (S:=NoS) (Stp.of_nob M8 0) (fun h=>h)).re (lab':=fun _=>0) (c':=0) (fun _ _ _=>rfl)
 generalize w7.heap.size=D at *
 generalize ((w7.alloc (.cells (Array.replicate 32 (.int .u8 0)) 27)).setRow D (hashA kGh))=w8 at *
 rintro _ rfl
 have H9:=g2.drew
 have M09:=M08.step_drew
 have N9:Z0w w8.drew (fun _=>0) 0 [(kGh,kGm)] o7 1:=(N8.stp (S:=NoS) (Stp.drew _ _ _) (fun h=>h)).re (lab':=fun _=>0) (c':=0) (fun _ _ _=>rfl)
 generalize w8.drew=w9 at *
 refine ⟨_,H9.rowAll (ZB _),?_,?_⟩
 ·refine (Z3J (k:=k7) N9 (by simp [kGm]) (by decide) 0).mono ?_
  rintro _ w10 ⟨o10,k10,rfl,_,M10,N10⟩
  refine ⟨_,_,_,rfl,(H9.mod' M10).rowAll (ZB _),?_⟩
  rintro d w11 ⟨rfl,rfl⟩
  obtain ⟨w12,h12,M12,r12⟩:=Z3Z w10 (bs:=[97]) (A:=#[(.int .u8 97)]) rfl 1 1
  have Ma:=Mod.alloc (S:=NoB) w10 (.cells #[(.int .u8 97)] 5)
  refine ⟨((H9.mod' M10).mod' Ma).rowAll (ZB _),_,w12,h12,_,_,_,rfl,((H9.mod' M10).mod' M12).rowAll (ZB _),?_⟩
  exact tail ((M09.none_trans M10).none_trans M12) ((H9.mod' M10).mod' M12) ((N10.stp (S:=NoS) (Stp.of_nob M12 0) (fun h=>h)).re (fun _ _ _=>rfl)) r12 _ rfl
 ·rintro d w11 ⟨rfl,rfl⟩
  obtain ⟨w12,h12,M12,r12⟩:=Z3Z w9 (bs:=[97]) (A:=#[(.int .u8 97)]) rfl 1 1
  have Ma:=Mod.alloc (S:=NoB) w9 (.cells #[(.int .u8 97)] 5)
  refine ⟨(H9.mod' Ma).rowAll (ZB _),?_,?_⟩
  ·have Na:Z0w _ (fun _=>0) 0 [(kGh,kGm)] o7 1:=(N9.stp (S:=NoS) (Stp.of_nob Ma 0) (fun h=>h)).re (lab':=fun _=>0) (c':=0) (fun _ _ _=>rfl)
   have Ba:=Blk.new w9 5 #[(.int .u8 97)]
   have Ha:=H9.mod' Ma
   have hDE:=Nat.ne_of_lt H9.lt
   have hE:w9.heap.size≤w9.heap.size:=Nat.le_refl _
   generalize hEe:w9.heap.size=E at Ba hDE h12 M12 r12 ⊢
   rw [hEe] at hE
   generalize w9.alloc (.cells #[(.int .u8 97)] 5)=wa at *
   refine (Z3J (k:=k7) (Na.re (lab':=fun _=>1) (c':=1) (fun _ _ _=>rfl)) (by simp [kGm]) (by decide) 0).mono ?_
   rintro _ w10 ⟨o10,k10,rfl,_,M10,N10⟩
   have B10:=Ba.mod' M10
   obtain ⟨wc,hc,Mc,hcc⟩:=Z6R (P:=Tryz.prog) (t:=Z07) (l:=1) (c:=1) Zt (by kernel_rfl) B10
   have Hc:=(Ha.mod' M10).mod Mc (by intro e; exact hDE e)
   have M9c:Vcg.Mod NoB w9 wc:=ZM (Ma.none_trans M10) Mc (Nat.le_of_eq hEe)
   have sc:Stp (·=1) w10 (ext (fun _=>1) wa.heap.size 0) wc (ext (ext (fun _=>1) wa.heap.size 0) w10.heap.size 0):=Stp.of_mod Mc 0 (fun q _ e=>by rw [e]; exact Z2E Ba.lt)
   refine ⟨_,_,_,rfl,(Ha.mod' M10).rowAll (ZB _),_,wc,hc,_,_,_,rfl,Hc.rowAll (ZB _),?_⟩
   have rc:RdB wc (some ⟨E,0,none⟩) [97]:=fun hne=>⟨E,0,rfl,Nat.lt_of_lt_of_le B10.lt Mc.size,fun i hi=>by
    obtain rfl:i=0:=by simpa using hi
    rw [hcc,B10.cell]; rfl⟩
   exact tail (M09.none_trans M9c) Hc ((N10.stp sc (by decide)).re (fun _ _ _=>rfl)) rc _ rfl
  ·refine ⟨_,w12,h12,_,_,_,rfl,(H9.mod' M12).rowAll (ZB _),?_⟩
   have N12:Z0w w12 (fun _=>0) 0 [(kGh,kGm)] o7 1:=(N9.stp (S:=NoS) (Stp.of_nob M12 0) (fun h=>h)).re (lab':=fun _=>0) (c':=0) (fun _ _ _=>rfl)
   refine (Z3J (k:=k7) N12 (by simp [kGm]) (by decide) 0).mono ?_
   rintro _ w13 ⟨o13,k13,rfl,_,M13,N13⟩
   refine ⟨_,_,_,rfl,((H9.mod' M12).mod' M13).rowAll (ZB _),?_⟩
   exact tail ((M09.none_trans M12).none_trans M13) ((H9.mod' M12).mod' M13) (N13.re (fun _ _ _=>rfl)) (r12.mod' M13) _ rfl
end Go.Proofs.YtfghidehlnfdiaaGreat
end
