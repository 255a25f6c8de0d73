/- Contracts: where a path lies (the program's, the reference's); spanOf. -/
/- Contracts: where a path lies (the reference's). -/
/- Contracts: at (the node of a reference). -/
/- Contracts: each (a node's references). -/
/- Contracts: ProveRange's walk (its closure). -/
/- Contracts: ProveRange (package proof). -/
/- Contracts of the reference: find; the maker of a range's proof in memory. -/
/- Contracts of the reference: the maker's item, at a list. -/
import Derived.Test.YtfghidehlnfdiaaGreatRG2
set_option linter.unusedVariables false
set_option linter.unusedSimpArgs false
section
namespace Go.Proofs.YtfghidehlnfdiaaGreat
open Go Go.Vcg Go.Trie
def Z8h (a b p:By):Int:=if Z3p a b p= -1 then 1 else if Z3p a b p=1 then 0 else 2
theorem Z6Z {a b p:By}:Z8h a b p=2↔Z3p a b p=0:=by
 unfold Z8h Z3p
 by_cases h1:Z1z (Z45 p) a < 0∨Z1z (Z46 p) b > 0
 ·rw [if_pos h1]; decide
 ·rw [if_neg h1]
  by_cases h2:Z1z (Z46 p) a≥0∧Z1z (Z45 p) b≤0
  ·rw [if_pos h2]; decide
  ·rw [if_neg h2]; decide
theorem ZFb {a b p:By}:Z8h a b p=if Z1z (Z45 p) a < 0∨Z1z (Z46 p) b > 0 then 1 else if Z1z (Z46 p) a≥0∧Z1z (Z45 p) b≤0 then 0 else 2:=by
 unfold Z8h Z3p
 by_cases h1:Z1z (Z45 p) a < 0∨Z1z (Z46 p) b > 0
 ·rw [if_pos h1,if_pos h1,if_pos rfl]
 ·rw [if_neg h1,if_neg h1]
  by_cases h2:Z1z (Z46 p) a≥0∧Z1z (Z45 p) b≤0
  ·rw [if_pos h2,if_pos h2,if_neg (by decide),if_pos rfl]
  ·rw [if_neg h2,if_neg h2,if_neg (by decide),if_neg (by decide)]
theorem ZDN {w:World} {n:Nat}:RdB (w.alloc (.cells (madeCells (Value.int .u8 0).cells n) 5)) (some ⟨w.heap.size,0,none⟩) (List.replicate n 0) :=
 RdB.of_blk (Blk.new w 5 _) (fun i hi=>by
  rw [List.length_replicate] at hi
  show (madeCells #[.int .u8 0] n)[0+i]?=_
  rw [← Array.getElem?_toList,toList_madeCells_one,Nat.zero_add,List.getElem?_replicate,if_pos hi]
  simp [List.getD_eq_getElem?_getD,hi,bV])
section
variable {w:World}
theorem ZDB {o1 o2 o:Option Addr} {k1 k2 k:Nat} {a b p:By} (h1:RdB w o1 a) (h2:RdB w o2 b) (hp:RdB w o p) (hl:p.length≤64) :
  Calls Tryz.prog Z0p.n #[.agg #[.slice o1 a.length k1,.slice o2 b.length k2],.slice o p.length k] w (fun e w'=>e=.returned (.int .i64 (Z8h a b p))∧Vcg.Mod NoB w w'):=by
 refine ZH fun R hR=>Z0p.vc _ _ _ _ _ _ _ _ _ _ _ ?_
 unfold Z0p.Vc
 rintro d w1 ⟨rfl,rfl⟩
 have M1:=Mod.alloc (S:=NoB) w (.cells #[.slice o1 a.length k1,.slice o2 b.length k2] 73)
 have S1:=Blk.new w 73 #[.slice o1 a.length k1,.slice o2 b.length k2]
 generalize w.heap.size=D at *
 generalize w.alloc (.cells #[.slice o1 a.length k1,.slice o2 b.length k2] 73)=w1 at *
 have ew:IntKind.wrap .i64 (64 - (p.length:Int))=((64 - p.length:Nat):Int):=by rw [Z0 (by omega) (by omega)]; omega
 rw [ew]
 obtain ⟨iu,hiu,hz,hs,hb⟩:=Z2G Z6A
 have hmk:=run_make (P:=Tryz.prog) w1 23 5 iu _ Zt hiu hz .i64 .i64 ((64 - p.length:Nat):Int) ((64 - p.length:Nat):Int) (by omega) (Int.le_refl _) (by rw [hb]; omega) (by omega)
 rw [Int.toNat_natCast,hs,Nat.mul_one] at hmk
 have M2:=Mod.alloc (S:=NoB) w1 (.cells (madeCells (Value.int .u8 0).cells (64 - p.length)) 5)
 have Z2:=ZDN (w:=w1) (n:=64 - p.length)
 refine ⟨_,_,hmk,_,_,_,rfl,?_⟩
 generalize w1.alloc (.cells (madeCells (Value.int .u8 0).cells (64 - p.length)) 5)=w2 at *
 generalize (some ⟨w1.heap.size,0,none⟩:Option Addr)=oz at *
 have M02:=M1.none_trans M2
 have hj:=Z4e (k:=k) (k2:=64 - p.length) (hp.mod' M02) Z2 (by rw [List.length_replicate]; omega)
 rw [List.length_replicate] at hj
 refine hj.mono ?_
 rintro _ w3 ⟨ol,kl,rfl,FL⟩
 have M03:=M02.none_trans FL.mod
 refine ⟨_,_,_,rfl,?_⟩
 rintro d4 w4 ⟨rfl,rfl⟩
 have M4:=Mod.alloc (S:=NoB) w3 (.cells #[.int .u8 15] 5)
 have X4:RdB (w3.alloc (.cells #[.int .u8 15] 5)) (some ⟨w3.heap.size,0,none⟩) [15]:=RdB.of_blk (Blk.new w3 5 #[bV 15]) (fun j hj=>by
  obtain rfl:j=0:=by simpa using hj
  rfl)
 generalize w3.alloc (.cells #[.int .u8 15] 5)=w4 at *
 generalize (some ⟨w3.heap.size,0,none⟩:Option Addr)=ox at *
 refine (Z9h (n:=64 - p.length) X4 (by omega)).mono ?_
 rintro _ w5 ⟨or,kr,rfl,hr5,M5⟩
 have M05:=(M03.none_trans M4).none_trans M5
 refine ⟨_,_,_,rfl,?_⟩
 have hj:=Z4e (k:=k) (k2:=kr) (hp.mod' M05) hr5 (by rw [List.length_replicate]; omega)
 rw [List.length_replicate] at hj
 refine hj.mono ?_
 rintro _ w6 ⟨oh,kh,rfl,FH⟩
 have M06:=M05.none_trans FH.mod
 have L6:RdB w6 ol (Z46 p):=(ZQ FL).mod' (((M4.none_trans M5)).none_trans FH.mod)
 have H6:RdB w6 oh (Z45 p):=ZQ FH
 have S6:=S1.mod' ((((M2.none_trans FL.mod).none_trans M4).none_trans M5).none_trans FH.mod)
 have a6:=h1.mod' M06
 have b6:=h2.mod' M06
 refine ⟨_,_,_,rfl,fun t w'=>w'=w6∧t=decide (Z1z (Z45 p) a < 0∨Z1z (Z46 p) b > 0),⟨_,_,_,S6.rd1 rfl,?_⟩,?_⟩
 ·refine (Z23 (a:=Z45 p) H6 a6).mono ?_
  rintro _ w6 ⟨rfl,rfl⟩
  refine ⟨_,rfl,fun h=>⟨rfl,by rw [decide_eq_true (.inl h)]⟩,fun h=>⟨_,_,_,by rw [Z6]; exact S6.rd1 rfl,?_⟩⟩
  refine (Z23 (a:=Z46 p) L6 b6).mono ?_
  rintro _ w6 ⟨rfl,rfl⟩
  refine ⟨_,rfl,rfl,?_⟩
  exact decide_eq_decide.2 ⟨fun h'=>.inr h',fun h'=>h'.resolve_left h⟩
 ·rintro _ _ w6 ⟨rfl,rfl⟩
  have hR':=fun v w' (hv:v=Z8h a b p) (M:Vcg.Mod NoB w w')=>hR (.returned (.int .i64 v)) w' ⟨by rw [hv],M⟩
  rw [ZFb] at hR'
  refine ⟨fun h=>hR' _ _ (by rw [if_pos (of_decide_eq_true h)]) M06,fun h=>?_⟩
  have hn:=of_decide_eq_false h
  rw [if_neg hn] at hR'
  refine ⟨_,_,_,S6.rd1 rfl,?_⟩
  refine (Z23 (a:=Z46 p) L6 a6).mono ?_
  rintro _ w6 ⟨rfl,rfl⟩
  refine ⟨_,rfl,fun h1=>⟨_,_,_,by rw [Z6]; exact S6.rd1 rfl,?_⟩,fun h1=>hR' _ _ (by rw [if_neg (fun h=>h1 h.1)]) M06⟩
  refine (Z23 (a:=Z45 p) H6 b6).mono ?_
  rintro _ w6 ⟨rfl,rfl⟩
  exact ⟨_,rfl,fun h2=>hR' _ _ (by rw [if_pos ⟨h1,h2⟩]) M06,fun h2=>hR' _ _ (by rw [if_neg (fun h=>h2 h.2)]) M06⟩
theorem ZAg {a b:By} (ha:a.length=32) (hb:b.length=32) :
  Calls Tryz.prog Z1W.n #[.agg (hashA a),.agg (hashA b)] w (fun e w'=>∃o1 k1 o2 k2,e=.returned (.tuple #[.agg #[.slice o1 (nibbles a).length k1,.slice o2 (nibbles b).length k2],.bool (decide (Z1z a b≤0))])∧Vcg.Mod NoB w w'∧RdB w' o1 (nibbles a)∧RdB w' o2 (nibbles b)∧(∀d,o1=some d→w.heap.size≤d.block)∧∀d,o2=some d→w.heap.size≤d.block):=by
 refine ZH fun R hR=>Z1W.vc _ _ _ _ ?_
 unfold Z1W.Vc
 rintro d w1 ⟨rfl,rfl⟩
 have M1:=Mod.alloc (S:=NoB) w (.cells (hashA a) 27)
 have A1:=Blk.new w 27 (hashA a)
 generalize w.alloc (.cells (hashA a) 27)=w1 at *
 rintro d w2 ⟨rfl,rfl⟩
 have M2:=Mod.alloc (S:=NoB) w1 (.cells (hashA b) 27)
 have B2:=Blk.new w1 27 (hashA b)
 have A2:=A1.mod' M2
 generalize w1.alloc (.cells (hashA b) 27)=w2 at *
 rintro d w3 ⟨rfl,rfl⟩
 have M3:=Mod.alloc (S:=NoB) w2 (.cells #[.slice none 0 0,.slice none 0 0] 73)
 have S3:=Blk.new w2 73 #[.slice none 0 0,.slice none 0 0]
 have A3:=A2.mod' M3
 have B3:=B2.mod' M3
 have hs2:w.heap.size≤w2.heap.size:=(M1.none_trans M2).size
 generalize w2.alloc (.cells #[.slice none 0 0,.slice none 0 0] 73)=w3 at *
 rintro _ rfl
 have M4:=((M1.none_trans M2).none_trans M3).step_drew
 have A4:=A3.drew
 have B4:=B3.drew
 have S4:=S3.drew
 have h43:w3.heap.size≤w3.drew.heap.size:=(Mod.drew (S:=NoB) w3).size
 generalize w3.drew=w4 at *
 have rd:∀{w':World} {D:Nat} {h:By},h.length=32→Blk w' D 27 (hashA h)→RdB w' (some ⟨D,0,none⟩) h:=fun hh B=>RdB.of_blk B (fun i hi=>by rw [Nat.zero_add]; exact ZF (by omega))
 have hn:=Z2m (k:=32) (rd ha A4) (by omega)
 rw [ha] at hn
 refine hn.mono ?_
 rintro _ w5 ⟨o1,k1,rfl,F5⟩
 refine ⟨_,_,_,rfl,?_⟩
 have hn:=Z2m (k:=32) (rd hb (B4.mod' F5.mod)) (by omega)
 rw [hb] at hn
 refine hn.mono ?_
 rintro _ w6 ⟨o2,k2,rfl,F6⟩
 refine ⟨_,_,_,rfl,?_⟩
 have M46:=F5.mod.none_trans F6.mod
 have hc:=Z23 (k1:=32) (k2:=32) (rd ha (A4.mod' M46)) (rd hb (B4.mod' M46))
 rw [ha,hb] at hc
 refine hc.mono ?_
 rintro _ w6 ⟨rfl,rfl⟩
 have S6:=S4.mod' M46
 have M6:=M4.none_trans M46
 refine ⟨_,rfl,S6.canSet (by simp) rfl,?_⟩
 rintro _ rfl
 have S7:=S6.set 0 (.slice o1 (nibbles a).length k1)
 have Q7:Vcg.Mod (·=w2.heap.size) w6 _:=Mod.setCell w6 ⟨w2.heap.size,0,none⟩ (.slice o1 (nibbles a).length k1)
 rw [Z6,Nat.zero_add]
 refine ⟨S7.canSet (by simp) rfl,?_⟩
 rintro _ rfl
 have S8:=S7.set 1 (.slice o2 (nibbles b).length k2)
 have Q8:=Q7.step_set (a:=⟨w2.heap.size,1,none⟩) (v:=.slice o2 (nibbles b).length k2) (fun _=>rfl)
 have hne:∀{o:Option Addr} {x:World} {l k:Nat} {vs:List Value},ZW x w6 tU8 1 o l k vs→w3.heap.size≤x.heap.size→∀d,o=some d→¬d.block=w2.heap.size:=fun F hx d hd e=>by
  have:=F.new d.block ⟨d,hd,rfl⟩
  have:=S3.lt
  omega
 refine ⟨_,_,_,_,_,_,S8.rd1 rfl,S8.rd1 rfl,hR _ _ ⟨o1,k1,o2,k2,rfl,ZM M6 Q8 hs2,?_,?_,fun d hd=>?_,fun d hd=>?_⟩⟩
 ·exact (ZQ (F5.mod' F6.mod)).mod Q8 (fun d hd=>hne (F5.mod' F6.mod) h43 d hd)
 ·exact (ZQ F6).mod Q8 (fun d hd=>hne F6 (by have:=F5.mod.size; omega) d hd)
 ·have:=F5.new d.block ⟨d,hd,rfl⟩; have:=M4.size; omega
 ·have:=F6.new d.block ⟨d,hd,rfl⟩; have:=F5.mod.size; have:=M4.size; omega
end
end Go.Proofs.YtfghidehlnfdiaaGreat
end
section
namespace Go.Proofs.YtfghidehlnfdiaaGreat
open Go Go.Vcg Go.Trie
theorem ZCZ {w:World} {lab:Nat→Nat} {c:Nat} {o:Option Addr} {n k:Nat} {b:By} {ty:TypeId} (H:COw w lab c tU8 1 o n k (b.map bV)) {o2:Option Addr} {x:By} {k2:Nat} (hr:RdB w o2 x) (hn:n+x.length≤2 ^ 40) :
  ∃o' c' w',Sem.run Tryz.prog (builtinV .append #[Z07,Z07] ty #[.slice o n k,.slice o2 x.length k2]) w=.ok (.slice o' (n+x.length) c') w'∧COw w' (ext lab w.heap.size c) c tU8 1 o' (n+x.length) c' ((b++x).map bV)∧Stp (·=c) w lab w' (ext lab w.heap.size c):=by
 obtain ⟨i,hi,hz,hs,hb⟩:=Z2G Z6A
 rw [List.map_append]
 exact COw.append Zt hi hz hs rfl H (Z5q Zt hr) (by simp only [maxLen]; omega) (by rw [hb]; omega)
theorem Z9w {w:World} {o1 o2:Option Addr} {k1 k2 l1 l2:Nat} {a b:By} (e1:l1=a.length) (e2:l2=b.length) (h1:RdB w o1 a) (h2:RdB w o2 b) (hl:a.length≤2 ^ 62) :
  Calls Tryz.prog Z05.n #[.slice o1 l1 k1,.slice o2 l2 k2] w (fun e w'=>e=.returned (.int .i64 (Z1z a b))∧Vcg.Mod NoB w w'):=by
 subst e1 e2
 exact Z9x h1 h2 hl
theorem ZBc {w:World} {o:Option Addr} {k:Nat} {a b p:By} (ha:a.length=32) (hb:b.length=32) (hp:RdB w o p) (hl:p.length≤64) :
  Calls Tryz.prog Z0M.n #[.slice o p.length k,.agg (hashA a),.agg (hashA b)] w (fun e w'=>e=.returned (.int .i64 (Z3p (nibbles a) (nibbles b) p))∧Vcg.Mod NoB w w'):=by
 refine ZH fun R hR=>Z0M.vc _ _ _ _ _ _ _ ?_
 unfold Z0M.Vc
 rintro d w1 ⟨rfl,rfl⟩
 have M1:=Mod.alloc (S:=NoB) w (.cells (hashA a) 27)
 have A1:=Blk.new w 27 (hashA a)
 generalize w.alloc (.cells (hashA a) 27)=w1 at *
 rintro d w2 ⟨rfl,rfl⟩
 have M2:=Mod.alloc (S:=NoB) w1 (.cells (hashA b) 27)
 have B2:=Blk.new w1 27 (hashA b)
 have A2:=A1.mod' M2
 generalize w1.alloc (.cells (hashA b) 27)=w2 at *
 rintro _ rfl
 have M3:=(M1.none_trans M2).step_drew
 have A3:=A2.drew
 have B3:=B2.drew
 generalize w2.drew=w3 at *
 have rd:∀{w':World} {D:Nat} {h:By},h.length=32→Blk w' D 27 (hashA h)→RdB w' (some ⟨D,0,none⟩) h:=fun hh B=>RdB.of_blk B (fun i hi=>by rw [Nat.zero_add]; exact ZF (by omega))
 have hn:=Z2Z (k:=32) (rd ha A3) (by omega)
 rw [ha] at hn
 refine hn.mono ?_
 rintro _ w4 ⟨o1,k1,rfl,F1⟩
 refine ⟨_,_,_,rfl,?_⟩
 have hn:=Z2Z (k:=32) (rd hb (B3.mod' F1.mod)) (by omega)
 rw [hb] at hn
 refine hn.mono ?_
 rintro _ w5 ⟨o2,k2,rfl,F2⟩
 refine ⟨_,_,_,rfl,?_⟩
 have M5:=(M3.none_trans F1.mod).none_trans F2.mod
 have p5:=hp.mod' M5
 have a5:CBy w5 (fun _=>0) 0 o1 (nibbles a):=⟨(ZQ F1).mod' F2.mod,fun _ _ _=>rfl⟩
 have b5:CBy w5 (fun _=>0) 0 o2 (nibbles b):=⟨ZQ F2,fun _ _ _=>rfl⟩
 have c5:CBy w5 (fun _=>0) 0 o p:=⟨p5,fun _ _ _=>rfl⟩
 obtain ⟨ol,kl,w6,hr6,L6,s6⟩:=ZCZ (w:=w5) (lab:=fun _=>0) (c:=1) (b:=[]) (ty:=23) (k2:=k) (COw.nil w5 _ 1 tU8 1) p5 (by omega)
 rw [Nat.zero_add] at hr6 L6
 rw [List.nil_append] at L6
 refine ⟨_,w6,hr6,_,_,_,rfl,?_⟩
 have c6:=c5.stp s6 (by decide)
 obtain ⟨oh,kh,w7,hr7,H7,s7⟩:=ZCZ (w:=w6) (c:=2) (b:=[]) (ty:=23) (k2:=k) (COw.nil w6 (ext (fun _=>0) w5.heap.size 1) 2 tU8 1) c6.rd (by omega)
 rw [Nat.zero_add] at hr7 H7
 rw [List.nil_append] at H7
 refine ⟨_,w7,hr7,_,_,_,rfl,?_⟩
 have s57:=(s6.mono (T:=fun k=>k=1∨k=2) (fun _ h=>.inl h)).trans (s7.mono (fun _ h=>.inr h))
 have L7:=L6.stp s7 (by decide)
 generalize ext (ext (fun _=>0) w5.heap.size 1) w6.heap.size 2=lab7 at *
 refine ⟨fun o1' l1' k1' o2' l2' k2' w'=>∃(lab:Nat→Nat) (j:Nat),p.length+j≤64∧l1'=p.length+j∧l2'=p.length+j∧COw w' lab 1 tU8 1 o1' l1' k1' ((p++List.replicate j 0).map bV)∧COw w' lab 2 tU8 1 o2' l2' k2' ((p++List.replicate j 15).map bV)∧Stp (fun k=>k=1∨k=2) w5 (fun _=>0) w' lab,
  fun _ l _ _ _ _ _=>64 - l,⟨lab7,0,by omega,rfl,rfl,by simpa using L7,by simpa using H7,s57⟩,?_⟩
 rintro o1' _ k1' o2' _ k2' _ w8 ⟨lab8,j,hj,rfl,rfl,L8,H8,s8⟩
 refine ⟨fun hlt=>?_,fun hge=>?_⟩
 ·rintro d9 w9 ⟨rfl,rfl⟩
  have s9:Stp NoS w8 lab8 (w8.alloc (.cells #[.int .u8 0] 5)) (ext lab8 w8.heap.size 9):=Stp.alloc NoS w8 lab8 _ 9
  have Z9:RdB (w8.alloc (.cells #[.int .u8 0] 5)) (some ⟨w8.heap.size,0,none⟩) [0]:=RdB.of_blk (Blk.new w8 5 #[bV 0]) (fun j hj=>by
   obtain rfl:j=0:=by simpa using hj
   rfl)
  have L9:=L8.stp s9 (fun h=>h)
  have H9:=H8.stp s9 (fun h=>h)
  obtain ⟨o10,k10,w10,hr10,L10,s10⟩:=ZCZ (ty:=23) (k2:=1) L9 Z9 (by simp; omega)
  refine ⟨_,w10,hr10,_,_,_,rfl,?_⟩
  have H10:=H9.stp s10 (by decide)
  have s8':=(s8.trans (s9.mono (fun _ h=>h.elim))).trans (s10.mono (T:=fun k=>k=1∨k=2) (fun _ h=>.inl h))
  clear s9 Z9 L9 H9 hr10 s10
  generalize ext (ext lab8 w8.heap.size 9) (w8.alloc (.cells #[.int .u8 0] 5)).heap.size 1=lab10 at *
  rintro d11 w11 ⟨rfl,rfl⟩
  have s11:Stp NoS w10 lab10 (w10.alloc (.cells #[.int .u8 15] 5)) (ext lab10 w10.heap.size 9):=Stp.alloc NoS w10 lab10 _ 9
  have Z11:RdB (w10.alloc (.cells #[.int .u8 15] 5)) (some ⟨w10.heap.size,0,none⟩) [15]:=RdB.of_blk (Blk.new w10 5 #[bV 15]) (fun j hj=>by
   obtain rfl:j=0:=by simpa using hj
   rfl)
  have L11:=L10.stp s11 (fun h=>h)
  have H11:=H10.stp s11 (fun h=>h)
  obtain ⟨o12,k12,w12,hr12,H12,s12⟩:=ZCZ (ty:=23) (k2:=1) H11 Z11 (by simp; omega)
  refine ⟨_,w12,hr12,_,_,_,rfl,?_⟩
  have L12:=L11.stp s12 (by decide)
  have s12':=(s8'.trans (s11.mono (fun _ h=>h.elim))).trans (s12.mono (T:=fun k=>k=1∨k=2) (fun _ h=>.inr h))
  have e1:∀x:UInt8,p++List.replicate j x++[x]=p++List.replicate (j+1) x:=fun x=>by rw [List.append_assoc,List.replicate_succ']
  rw [e1] at L12 H12
  exact ⟨⟨_,j+1,by omega,rfl,rfl,L12,H12,s12'⟩,by simp; omega⟩
 ·obtain rfl:j=64 - p.length:=by omega
  have M58:Vcg.Mod NoB w5 w8:=s8.mod (fun k hk hs=>by rcases hs with h | h <;> cases h)
  have M8:=M5.none_trans M58
  have a8:=(a5.stp s8 (by decide)).rd
  have b8:=(b5.stp s8 (by decide)).rd
  have l8:RdB w8 o1' (Z46 p):=L8.own.bytes
  have h8:RdB w8 o2' (Z45 p):=H8.own.bytes
  have el:p.length+(64 - p.length)=(Z46 p).length:=by unfold Z46; rw [List.length_append,List.length_replicate]
  have eh:p.length+(64 - p.length)=(Z45 p).length:=by unfold Z45; rw [List.length_append,List.length_replicate]
  have hll:(Z46 p).length≤2 ^ 62:=by omega
  have hhl:(Z45 p).length≤2 ^ 62:=by omega
  have na:(nibbles a).length≤2 ^ 62:=by rw [ZT]; omega
  have place:∀v w',v=Z3p (nibbles a) (nibbles b) p→Vcg.Mod NoB w8 w'→R (.returned (.int .i64 v)) w':=fun v w' hv M=>hR _ _ ⟨by rw [hv],M8.none_trans M⟩
  unfold Z3p at place
  refine (Z9w (k1:=k2') (k2:=k1) eh rfl h8 a8 hhl).mono ?_
  rintro _ w9 ⟨rfl,M9⟩
  refine ⟨_,rfl,fun h1=>place _ _ (by rw [if_pos (.inl h1)]) M9,fun h1=>?_⟩
  refine (Z9w (k1:=k1') (k2:=k2) el rfl (l8.mod' M9) (b8.mod' M9) hll).mono ?_
  rintro _ w10 ⟨rfl,M10⟩
  have M810:=M9.none_trans M10
  refine ⟨_,rfl,fun h2=>place _ _ (by rw [if_pos (.inr h2)]) M810,fun h2=>?_⟩
  have hn:¬(Z1z (Z45 p) (nibbles a) < 0∨Z1z (Z46 p) (nibbles b) > 0):=fun h=>h.elim h1 h2
  rw [if_neg hn] at place
  refine (Z9w (k1:=k1') (k2:=k1) el rfl (l8.mod' M810) (a8.mod' M810) hll).mono ?_
  rintro _ w11 ⟨rfl,M11⟩
  have M811:=M810.none_trans M11
  refine ⟨_,rfl,fun h3=>?_,fun h3=>place _ _ (by rw [if_neg (fun h=>h3 h.1)]) M811⟩
  refine (Z9w (k1:=k2') (k2:=k2) eh rfl (h8.mod' M811) (b8.mod' M811) hhl).mono ?_
  rintro _ w12 ⟨rfl,M12⟩
  have M812:=M811.none_trans M12
  exact ⟨_,rfl,fun h4=>place _ _ (by rw [if_pos ⟨h3,h4⟩]) M812,fun h4=>place _ _ (by rw [if_neg (fun h=>h4 h.2)]) M812⟩
end Go.Proofs.YtfghidehlnfdiaaGreat
end
section
namespace Go.Proofs.YtfghidehlnfdiaaGreat
open Go Go.Vcg Go.Trie
def Z5c (l:RS):It→Except Int (List It)
 | .l xs=>.ok xs
 | .s h=>match Z1G l h with
   | none=>.error 160
   | some c=>if Z0R c≠0 then .error 161 else match Z4c c with
     | .ok (.l xs)=>.ok xs
     | _=>.error 161
theorem ZDF {l:RS} {x:It} {xs:List It} (hg:Z3D x) (h:Z5c l x=.ok xs):Z3D (.l xs):=by
 cases x with
 | l ys=>cases h; exact hg
 | s b =>
   simp only [Z5c] at h
   split at h
   ·cases h
   ·split at h
    ·cases h
    ·rename_i hc
     obtain ⟨ys,hd,_,hgy⟩:=Z2D (Decidable.not_not.1 hc)
     rw [hd] at h
     cases h
     exact hgy
theorem ZAP {w:World} {lab:Nat→Nat} {A:Nat→Prop} {cm c m:Nat} {l:RS} {x:It} {L:Array Value} (hM:ZB0 w lab cm c l m) (hL:RfC A w x L) (hg:Z3D x) (hne:isE x=false) (hA:∀b,w.heap.size≤b→¬A b) :
  Calls Tryz.prog Z13.n #[.agg #[.map (some m),.bool false],.agg L] w (fun e w'=>Vcg.Mod NoB w w'∧match Z5c l x with
   | .error er=>e=.panicked (Z2v er)∧er≠0
   | .ok xs=>∃b s1 s2 s3,e=.returned (nvV b s1 s2 s3)∧NvC A w' xs b s1 s2 s3):=by
 refine ZH fun R hR=>Z13.vc _ _ _ _ _ ?_
 unfold Z13.Vc
 rintro d1 w1 ⟨rfl,rfl⟩
 have M1:=Mod.alloc (S:=NoB) w (.cells #[.map (some m),.bool false] 69)
 have S1:=Blk.new w 69 #[.map (some m),.bool false]
 generalize w.alloc (.cells #[.map (some m),.bool false] 69)=w1 at *
 rintro d2 w2 ⟨rfl,rfl⟩
 have M12:=Mod.alloc (S:=NoB) w1 (.cells L 82)
 have X2:=Blk.new w1 82 L
 have S2:=S1.mod' M12
 have M2:=M1.none_trans M12
 generalize w1.heap.size=D at *
 generalize w1.alloc (.cells L 82)=w2 at *
 rintro d3 w3 ⟨rfl,rfl⟩
 have M23:=Mod.alloc (S:=NoB) w2 (.cells #[.bool false,.slice none 0 0,.slice none 0 0,.slice none 0 0] 86)
 have V3:=Blk.new w2 86 #[.bool false,.slice none 0 0,.slice none 0 0,.slice none 0 0]
 have S3:=S2.mod' M23
 have X3:=X2.mod' M23
 have M3:=M2.none_trans M23
 have hs2:=M2.size
 have hs3:=ZD w2 (.cells #[.bool false,.slice none 0 0,.slice none 0 0,.slice none 0 0] 86)
 generalize hN:w2.heap.size=N at *
 generalize w2.alloc (.cells #[.bool false,.slice none 0 0,.slice none 0 0,.slice none 0 0] 86)=w3 at *
 have hL3:=hL.mod' M3
 have fin:∀(w':World) (xs:List It) (b:Bool) (s1 s2 s3:Option Addr×Nat×Nat),Vcg.Mod NoB w w'→NvC (fun k=>A k∨k=N) w' xs b s1 s2 s3→Z5c l x=.ok xs→∀w4,Vcg.Mod (·=N) w' w4→R (.returned (nvV b s1 s2 s3)) w4:=by
  intro w' xs b s1 s2 s3 M hn hx w4 Q
  refine hR _ _ ⟨ZM M Q (by omega),?_⟩
  rw [hx]
  exact ⟨b,s1,s2,s3,rfl,(hn.modA Q (fun b hb=>.inr hb)).restr (fun b _ h=>.inl h)⟩
 cases x with
 | l xs =>
   obtain ⟨Dx,v1,v2,v3,rfl,hADx,BDx,hit⟩:=hL3
   obtain ⟨b,p1,q1,r1,p2,q2,r2,rfl,rfl,rfl⟩:=hit.vals
   have hcell:World.cell? w3 (Addr.add ⟨D,0,none⟩ 32)=some (.pointer (some ⟨Dx,0,none⟩)):=by rw [Z6]; exact X3.rd1 (Z4v rfl)
   refine ⟨_,hcell,fun _=>⟨_,hcell,_,rfl,Z81 BDx ?_⟩,fun h=>(by cases h)⟩
   have hit':ItC (fun k=>A k∨k=N) w3 (.l xs) (.bool b) (.slice p1 q1 r1) (.slice p2 q2 r2):=by
    have h0:ItC A w (.l xs) (.bool b) (.slice p1 q1 r1) (.slice p2 q2 r2):=by
     obtain ⟨Dy,u1,u2,u3,hu,hAy,By_,hiy⟩:=hL
     have e:(some ⟨Dx,0,none⟩:Option Addr)=some ⟨Dy,0,none⟩:=by
      have h1:=Z4v (h:=zeros32) rfl (p:=some ⟨Dx,0,none⟩) (b:=true)
      rw [hu,Z4v rfl] at h1
      cases h1; rfl
     cases e
     have hb:=By_.mod' M3
     have c1:=BDx.rd1 (i:=0) rfl
     have c2:=BDx.rd1 (i:=1) rfl
     have c3:=BDx.rd1 (i:=2) rfl
     have d1:=hb.rd1 (i:=0) rfl
     have d2:=hb.rd1 (i:=1) rfl
     have d3:=hb.rd1 (i:=2) rfl
     rw [c1] at d1; rw [c2] at d2; rw [c3] at d3
     cases d1; cases d2; cases d3
     exact hiy
    exact ItC.mod M3 _ (ItC.restr (A':=fun k=>A k∨k=N) (fun k hk hh=>hh.elim id (fun h=>by omega)) h0)
   refine (Z4N hg (fun k hk hh=>by
    rcases hh with hh | hh
    ·exact hA k (by omega) hh
    ·omega) hit').mono ?_
   rintro _ w4 ⟨bb,s1,s2,s3,rfl,M4,hn4⟩
   exact .inr ⟨_,_,_,_,_,_,_,_,_,_,rfl,ZBa (b1:=bb) (s1:=s1) (s2:=s2) (s3:=s3) (V3.mod' M4) (fun w' Q=>fin w4 xs bb s1 s2 s3 (M3.none_trans M4) hn4 rfl w' Q)⟩
 | s h =>
   have hne':h≠[]:=by rintro rfl; cases hne
   rcases hL3 with ⟨rfl,_⟩ | ⟨h32,rfl⟩
   ·exact (hne' rfl).elim
   have hcell:World.cell? w3 (Addr.add ⟨D,0,none⟩ 32)=some (.pointer none):=by rw [Z6]; exact X3.rd1 (Z4v (Z0x _))
   refine ⟨_,hcell,fun h=>(h rfl).elim,fun _=>⟨_,_,S3.rd1 rfl,by rw [Z6]; exact S3.rd1 rfl,hashA h,X3.rowAt (ZB h) (fun i hi=>by rw [Nat.zero_add,ZCe (Z0x _) hi,Array.getElem?_toList]),?_⟩⟩
   have hM3:ZB0 w3 (ext lab w.heap.size c) cm c l m:=hM.stp (S:=NoS) (Stp.of_nob M3 c) (fun h=>h) (fun h=>h)
   refine (Z3j hM3 h32).mono ?_
   rintro e w4 ⟨M4,hno,hyes⟩
   have V4:=V3.mod' M4
   have M04:=M3.none_trans M4
   cases hf:Z1G l h with
   | none =>
     obtain rfl:=hno hf
     refine .inl ⟨_,rfl,hR _ _ ⟨M04,?_⟩⟩
     have hnr:Z5c l (.s h)=.error 160:=by simp only [Z5c,hf]
     rw [hnr]
     exact ⟨rfl,by decide⟩
   | some bs =>
     obtain ⟨ob,kb,rfl,hb,hbk⟩:=hyes bs hf
     refine .inr ⟨_,_,_,rfl,?_⟩
     have hb4:=hb.rd.mod' M4
     have hNlt:=V4.lt
     refine (Z6X (A:=fun k=>A k∨k=N) (fun k hk hh=>by
      rcases hh with hh | hh
      ·exact hA k (by have:=M04.size; omega) hh
      ·omega) hb4 hbk).mono ?_
     rintro e w5 ⟨M5,h0,hne5⟩
     have V5:=V4.mod' M5
     have M05:=M04.none_trans M5
     by_cases hck:Z0R bs=0
     ·obtain ⟨xs,bb,s1,s2,s3,hdc,hgx,rfl,hn5⟩:=h0 hck
      have hnr:Z5c l (.s h)=.ok xs:=by simp only [Z5c,hf]; rw [if_neg (by simp [hck]),hdc]
      refine .inr ⟨_,_,_,_,_,_,_,_,_,_,_,rfl,?_⟩
      rintro d6 w6 ⟨rfl,rfl⟩
      have M6:=Mod.alloc (S:=NoB) w5 (.cells #[.bool false,.slice none 0 0,.slice none 0 0,.slice none 0 0] 86)
      have Y6:=Blk.new w5 86 #[.bool false,.slice none 0 0,.slice none 0 0,.slice none 0 0]
      have V6:=V5.mod' M6
      have hn6:=hn5.restr (A':=fun k=>(A k∨k=N)∨k=w5.heap.size) (fun k hk hh=>hh.elim id (fun h=>by omega))
      have hn6:=hn6.mod' M6
      have h5N:w5.heap.size≠N:=by have:=V5.lt; omega
      refine ZHO (v1:=.bool bb) (v2:=.slice s1.1 s1.2.1 s1.2.2) (v3:=.slice s2.1 s2.2.1 s2.2.2) (v4:=.slice s3.1 s3.2.1 s3.2.2) Y6 rfl rfl rfl rfl (fun w7 Y7 Q7=>?_)
      have V7:=V6.mod Q7 (fun h=>h5N h.symm)
      have M07:Vcg.Mod NoB w w7:=ZM (M05.none_trans M6) Q7 (by have:=M05.size; omega)
      have hn7:=(hn6.modA Q7 (fun k hk=>.inr hk)).restr (A':=fun k=>A k∨k=N) (fun k _ h=>.inl h)
      refine (Z1P w7 0).mono ?_
      rintro e w8 ⟨rfl,he⟩
      rw [if_pos rfl] at he
      refine .inr ⟨he,get4 Y7 (ZBa (b1:=bb) (s1:=s1) (s2:=s2) (s3:=s3) V7 (fun w' Q=>fin _ xs bb s1 s2 s3 M07 hn7 hnr w' Q))⟩
     ·have he:=hne5 hck
      subst he
      have hnr:Z5c l (.s h)=.error 161:=by simp only [Z5c,hf]; rw [if_pos hck]
      refine .inr ⟨_,_,_,_,_,_,_,_,_,_,_,rfl,?_⟩
      rintro d6 w6 ⟨rfl,rfl⟩
      have M6:=Mod.alloc (S:=NoB) w5 (.cells #[.bool false,.slice none 0 0,.slice none 0 0,.slice none 0 0] 86)
      have Y6:=Blk.new w5 86 #[.bool false,.slice none 0 0,.slice none 0 0,.slice none 0 0]
      refine ZHO (v1:=.bool false) (v2:=.slice none 0 0) (v3:=.slice none 0 0) (v4:=.slice none 0 0) Y6 rfl rfl rfl rfl (fun w7 Y7 Q7=>?_)
      have M07:Vcg.Mod NoB w w7:=ZM (M05.none_trans M6) Q7 (by have:=M05.size; omega)
      refine (Z1P w7 161).mono ?_
      rintro e w8 ⟨rfl,he⟩
      rw [if_neg (by decide)] at he
      subst he
      refine .inl ⟨_,rfl,hR _ _ ⟨M07,?_⟩⟩
      rw [hnr]
      exact ⟨rfl,by decide⟩
end Go.Proofs.YtfghidehlnfdiaaGreat
end
section
namespace Go.Proofs.YtfghidehlnfdiaaGreat
open Go Go.Vcg Go.Trie
def Back (r:Option Int) (e:Ending):Prop:=match r with
 | none=>e=.returned (.tuple #[])
 | some er=>e=.panicked (Z2v er)∧er≠0
structure ZHW {σ:Type} (f:Value) (T:Nat→Prop) (Inv:World→(Nat→Nat)→σ→Prop) (go:σ→It→By→σ×Option Int) (ok:By→Prop):Prop where
 s5:¬T 5
 s6:¬T 6
 stp:∀{w w':World} {lab lab':Nat→Nat} {s:σ},Inv w lab s→Stp NoS w lab w' lab'→Inv w' lab' s
 nil:∀{s:σ} {x:It} {path:By},isE x=true→go s x path=(s,none)
 run:∀{w:World} {lab:Nat→Nat} {s:σ} {x:It} {L:Array Value} {o:Option Addr} {k:Nat} {path:By},Inv w lab s→RfC (fun b=>lab b≠6) w x L→Z3D x→isE x=false→CBy w lab 6 o path→path.length≤k→Nib path→ok path →
  Z3S Tryz.prog f #[.agg L,.slice o path.length k] w (fun e w'=>∃lab',Stp T w lab w' lab'∧Inv w' lab' (go s x path).1∧Back (go s x path).2 e)
theorem ZFh {xs:List It} {path:By}:(subsOf xs path).length≤16:=by
 unfold subsOf
 split
 ·split
  ·simp
  ·simp
 ·simp
theorem ZHy {A:Nat→Prop} {w:World} {x:It} {L:Array Value} (h:RfC A w x L):L[33]?=some (.bool (!isE x)):=by
 cases x with
 | s b =>
   rcases h with ⟨rfl,h',hh',_,rfl⟩ | ⟨hb32,rfl⟩
   ·exact Z7k hh'
   ·cases b with
    | nil=>cases hb32
    | cons a r=>exact Z7k (Z0x _)
 | l xs=>obtain ⟨Dx,v1,v2,v3,rfl,_⟩:=h; exact Z7k rfl
theorem ZCl {lab:Nat→Nat} {w:World} {xs:List It} {b:Bool} {s1 s2 s3:Option Addr×Nat×Nat} {path:By} (h:NvC (fun b=>lab b≠6) w xs b s1 s2 s3) :
  s2.2.1=(subsOf xs path).length∧∀j (hj:j < (subsOf xs path).length),∃g L,s2.1=some ⟨g,0,none⟩∧ZJ w ⟨g,j * 34,none⟩ 34 L∧RfC (fun b=>lab b≠6) w (subsOf xs path)[j].1 L ∧
   ((s2.2.1=16∧(subsOf xs path)[j].2=path++[UInt8.ofNat j]∧j < 16)∨(s2.2.1≠16∧∃p,(subsOf xs path)[j].2=path++p∧s1.2.1=p.length∧CBy w lab 6 s1.1 p∧p.length≤130)):=by
 have cb:∀{o:Option Addr} {p:By},RdA (fun b=>lab b≠6) w o p→CBy w lab 6 o p:=fun h=>⟨h.1,fun hne d hd=>Decidable.not_not.1 (h.2 hne d hd)⟩
 rcases h with ⟨p,v,h1,h2,h3,h4,h5,h6,rfl,h8,h9⟩ | ⟨p,D,L,h1,h2,h3,h4,h5,rfl,h7,h8,h9,h10⟩ | ⟨g,v,h1,h2,h3,h4,h5,h6,h7,h8,h9,h10,h11⟩
 ·have e:subsOf xs path=[]:=by unfold subsOf; rw [if_pos h1,h2]
  rw [e]
  exact ⟨rfl,fun j hj=>absurd hj (by simp)⟩
 ·have e:subsOf xs path=[(xs.getD 1 (.s []),path++p)]:=by unfold subsOf; rw [if_pos h1,h2]
  simp only [e]
  refine ⟨rfl,fun j hj=>?_⟩
  obtain rfl:j=0:=by simpa using hj
  exact ⟨D,L,rfl,by rw [Nat.zero_mul]; exact h8.rowAll h9.size,h9,.inr ⟨by show ¬(1:Nat)=16; decide,p,rfl,h4,cb h5,ZBt h2⟩⟩
 ·have e:subsOf xs path=(List.range 16).map fun j=>(xs.getD j (.s []),path++[UInt8.ofNat j]):=by unfold subsOf; rw [if_neg (by omega)]
  have el:(subsOf xs path).length=16:=by rw [e]; simp
  refine ⟨by omega,fun j hj=>?_⟩
  obtain ⟨L,hr,hc⟩:=h9 j (by omega)
  have ej:(subsOf xs path)[j]=(xs.getD j (.s []),path++[UInt8.ofNat j]):=by simp only [e]; simp
  rw [ej]
  exact ⟨g,L,h5,hr,hc,.inl ⟨h6,rfl,by omega⟩⟩
theorem ZD6 {σ:Type} {go:σ→It→By→σ×Option Int} {s:σ} {l:List (It×By)} {j:Nat} (hj:j < l.length):foldK go s (l.drop j)=match go s l[j].1 l[j].2 with
  | (s',none)=>foldK go s' (l.drop (j+1))
  | (s',some e)=>(s',some e):=by
 rw [List.drop_eq_getElem_cons hj]
 rfl
theorem Z6K {j:Nat} (h:j < 16):Value.int .u8 (IntKind.wrap .u8 (j:Int))=bV (UInt8.ofNat j):=by
 have:∀m:Fin 16,IntKind.wrap .u8 (m.val:Int)=((UInt8.ofNat m.val).toNat:Int):=by decide +kernel
 simp only [bV]
 rw [this ⟨j,h⟩]
section
variable {σ:Type} {f:Value} {T:Nat→Prop} {Inv:World→(Nat→Nat)→σ→Prop} {go:σ→It→By→σ×Option Int} {ok:By→Prop}
theorem ZD3 (V:ZHW f T Inv go ok) {w:World} {lab:Nat→Nat} {s:σ} {xs:List It} {b:Bool} {s1 s2 s3:Option Addr×Nat×Nat} {o:Option Addr} {k:Nat} {path:By} (hI:Inv w lab s) (hg:Z3D (.l xs)) (hn:NvC (fun b=>lab b≠6) w xs b s1 s2 s3) (hp:CBy w lab 6 o path) (hl:path.length≤64) (hnib:Nib path) (hok:∀q,q≠[]→ok (path++q)) :
  Calls Tryz.prog Z0U.n #[nvV b s1 s2 s3,.slice o path.length k,f] w (fun e w'=>∃lab',Stp T w lab w' lab'∧Inv w' lab' (eachW go s xs path).1∧Back (eachW go s xs path).2 e):=by
 refine ZH fun R hR=>Z0U.vc _ _ _ _ _ _ _ _ _ _ _ _ _ _ _ _ ?_
 unfold Z0U.Vc
 rintro d1 w1 ⟨rfl,rfl⟩
 have st1:Stp NoS w lab (w.alloc (.cells #[.bool b,.slice s1.1 s1.2.1 s1.2.2,.slice s2.1 s2.2.1 s2.2.2,.slice s3.1 s3.2.1 s3.2.2] 86)) (ext lab w.heap.size 5):=Stp.alloc NoS w lab _ 5
 have N1:=CB.new w lab 5 86 #[.bool b,.slice s1.1 s1.2.1 s1.2.2,.slice s2.1 s2.2.1 s2.2.2,.slice s3.1 s3.2.1 s3.2.2]
 have I1:=V.stp hI st1
 have hn1:=hn.stp st1 (fun h=>h)
 have P1:=hp.stp st1 (fun h=>h)
 generalize hD:w.heap.size=D at *
 generalize w.alloc (.cells #[.bool b,.slice s1.1 s1.2.1 s1.2.2,.slice s2.1 s2.2.1 s2.2.2,.slice s3.1 s3.2.1 s3.2.2] 86)=w1 at *
 generalize ext lab D 5=lab1 at *
 refine ⟨_,_,_,by rw [Z6]; exact N1.blk.rd1 rfl,?_⟩
 have hlen:=(ZCl (path:=path) hn1).1
 have h16l:=ZFh (xs:=xs) (path:=path)
 refine ⟨fun i w'=>∃(j:Nat) (lab':Nat→Nat) (s':σ),i=(j:Int)∧j≤(subsOf xs path).length∧Stp T w1 lab1 w' lab'∧Inv w' lab' s'∧foldK go s' ((subsOf xs path).drop j)=eachW go s xs path,fun i _=>((s2.2.1:Int) - i).toNat,⟨0,lab1,s,rfl,Nat.zero_le _,Stp.refl _ _ _,I1,rfl⟩,?_⟩
 rintro _ _ w2 ⟨j,lab2,s',rfl,hj,st2,I2,heq⟩
 have N2:=N1.stp st2 V.s5
 have hn2:=hn1.stp st2 V.s6
 have P2:=P1.stp st2 V.s6
 refine ⟨fun hlt=>?_,fun hge=>?_⟩
 ·have hjl:j < (subsOf xs path).length:=by omega
  obtain ⟨g,L,hg0,hrow,hL,hcase⟩:=(ZCl (path:=path) hn2).2 j hjl
  obtain ⟨gx,q,hq,hqn,hqe,hql⟩:=Z5s (path:=path) hg _ (List.getElem_mem hjl)
  rw [ZD6 hjl] at heq
  generalize hx:(subsOf xs path)[j].1=x at *
  generalize hy:(subsOf xs path)[j].2=y at *
  refine ⟨_,hg0,⟨by omega,by omega⟩,L,by rw [Z6,Int.toNat_natCast,Nat.zero_add]; exact hrow,?_⟩
  rintro d3 w3 ⟨rfl,rfl⟩
  rw [Z7g]
  obtain ⟨w4,hr4,V4,st4⟩:=Z6y hL
  have st24:=st2.trans (st4.mono (fun _ h=>h.elim))
  have I4:=V.stp I2 st4
  have N4:=N2.stp st4 (fun h=>h)
  have P4:=P2.stp st4 (fun h=>h)
  have hn4:=hn2.stp st4 (fun h=>h)
  have hlab4:ext lab2 w2.heap.size 5 w2.heap.size=5:=ext_new (Nat.le_refl _)
  generalize w2.heap.size=E at *
  generalize ext lab2 E 5=lab4 at *
  obtain ⟨_,L4,B4,hL4⟩:=V4
  refine ⟨w4,hr4,!isE x,by rw [Z6,Nat.zero_add]; exact B4.rd1 (ZHy hL4),fun hb=>?_,fun hb=>?_⟩
  ·have hE:isE x=true:=by simpa using hb
   rw [V.nil hE] at heq
   exact ⟨⟨j+1,lab4,s',by rw [Z0 (by omega) (by omega)]; omega,by omega,st24,I4,heq⟩,by dsimp only; rw [Z0 (by omega) (by omega)]; omega⟩
  ·have hE:isE x=false:=by simpa using hb
   refine get4 N4.blk ?_
   refine Z4t.mono ?_
   rintro _ w5 ⟨rfl,M5⟩
   have st5:Stp NoS w4 lab4 w5 (ext lab4 w4.heap.size 5):=Stp.of_nob M5 5
   have B5:=(CB.mk B4 hlab4).stp st5 (fun h=>h)
   have I5:=V.stp I4 st5
   have N5:=N4.stp st5 (fun h=>h)
   have P5:=P4.stp st5 (fun h=>h)
   have hn5:=hn4.stp st5 (fun h=>h)
   have hL5:=hL4.stp st5 (fun h=>h)
   have st25:=st24.trans (st5.mono (fun _ h=>h.elim))
   generalize ext lab4 w4.heap.size 5=lab5 at *
   have stD:∀(w0:World) (lab0:Nat→Nat),Stp NoS w0 lab0 w0.drew lab0:=fun w0 lab0=>Stp.drew NoS w0 lab0
   have go_on:∀(w6:World) (lab6:Nat→Nat) (op:Option Addr) (kp:Nat),Stp NoS w5 lab5 w6 lab6→CBy w6 lab6 6 op y→y.length≤kp →
     ZJ w6 ⟨E,0,none⟩ 34 L4∧Z3S Tryz.prog f #[.agg L4,.slice op y.length kp] w6 (fun e42 w43=>(∃ch,e42=.panicked ch∧R (.panicked ch) w43)∨e42=.returned (.tuple #[])∧(∃(j_1:Nat) (lab':Nat→Nat) (s'_1:σ),IntKind.wrap .i64 ((j:Int)+1)=(j_1:Int)∧j_1≤(subsOf xs path).length∧Stp T w1 lab1 w43 lab'∧Inv w43 lab' s'_1∧foldK go s'_1 ((subsOf xs path).drop j_1)=eachW go s xs path)∧((s2.2.1:Int) - IntKind.wrap .i64 ((j:Int)+1)).toNat < ((s2.2.1:Int) - (j:Int)).toNat):=by
    intro w6 lab6 op kp st6 P6 hk
    have I6:=V.stp I5 st6
    have B6:=B5.stp st6 (fun h=>h)
    have hL6:=hL5.stp st6 (fun h=>h)
    refine ⟨B6.blk.rowAll hL4.size,?_⟩
    refine Z3S.mono (V.run I6 hL6 gx hE P6 hk (by rw [hq]; intro c hc; exact (List.mem_append.1 hc).elim (hnib c) (hqn c)) (by rw [hq]; exact hok q hqe)) ?_
    rintro e w7 ⟨lab7,st7,I7,hb7⟩
    have st27:=(st25.trans (st6.mono (fun _ h=>h.elim))).trans st7
    generalize go s' x y=r at heq I7 hb7
    obtain ⟨s'',oe⟩:=r
    cases oe with
    | none =>
      exact .inr ⟨hb7,⟨j+1,lab7,s'',by rw [Z0 (by omega) (by omega)]; omega,by omega,st27,I7,heq⟩,by rw [Z0 (by omega) (by omega)]; omega⟩
    | some er =>
      dsimp only at heq
      rw [← heq] at hR
      obtain ⟨rfl,hne⟩:=hb7
      exact .inl ⟨_,rfl,hR _ _ ⟨lab7,(st1.mono (fun _ h=>h.elim)).trans st27,I7,rfl,hne⟩⟩
   refine .inr ⟨_,rfl,fun hbr=>?_,fun hbr=>?_⟩
   ·have h16:s2.2.1=16:=of_decide_eq_true hbr
    obtain ⟨_,hy',hj16⟩:=hcase.resolve_right (fun h=>h.1 h16)
    rintro _ rfl
    have st6:=stD w5 lab5
    refine ⟨L4,(B5.blk.drew).rowAll hL4.size,?_⟩
    have P6:=P5.stp st6 (fun h=>h)
    generalize w5.drew=w6 at *
    rintro d7 w7 ⟨rfl,rfl⟩
    rw [Z6K hj16]
    have st7:Stp NoS w6 lab5 (w6.alloc (.cells #[bV (UInt8.ofNat j)] 5)) (ext lab5 w6.heap.size 5):=Stp.alloc NoS w6 lab5 _ 5
    have Z7:RdB (w6.alloc (.cells #[bV (UInt8.ofNat j)] 5)) (some ⟨w6.heap.size,0,none⟩) [UInt8.ofNat j]:=RdB.of_blk (Blk.new w6 5 #[bV (UInt8.ofNat j)]) (fun i hi=>by
     obtain rfl:i=0:=by simpa using hi
     rfl)
    have P7:=P6.stp st7 (fun h=>h)
    have B7:=(B5.stp st6 (fun h=>h)).stp st7 (fun h=>h)
    generalize w6.alloc (.cells #[bV (UInt8.ofNat j)] 5)=w7 at *
    generalize (some ⟨w6.heap.size,0,none⟩:Option Addr)=oz at *
    generalize ext lab5 w6.heap.size 5=lab7 at *
    refine ⟨B7.blk.rowAll hL4.size,?_⟩
    refine (Z4e (k:=k) (k2:=1) P7.rd Z7 (by simp; omega)).mono ?_
    rintro _ w8 ⟨o8,k8,rfl,F8⟩
    have st8:Stp NoS w7 lab7 w8 (ext lab7 w7.heap.size 6):=Stp.of_nob F8.mod 6
    have P8:CBy w8 (ext lab7 w7.heap.size 6) 6 o8 (path++[UInt8.ofNat j]):=⟨ZQ F8,fun _ d hd=>ext_new (F8.new d.block ⟨d,hd,rfl⟩)⟩
    rw [← hy'] at P8 ⊢
    exact .inr ⟨_,_,_,rfl,go_on w8 _ o8 k8 ((st6.trans st7).trans st8) P8 (by have:=F8.own.cap.1; rwa [← hy'] at this)⟩
   ·have h16:s2.2.1≠16:=of_decide_eq_false hbr
    obtain ⟨_,p,hy',hpl,hpc,hp130⟩:=hcase.resolve_left (fun h=>h16 h.1)
    rintro _ rfl
    have st6:=stD w5 lab5
    have P6:=P5.stp st6 (fun h=>h)
    have N6:=N5.stp st6 (fun h=>h)
    have p6:=((hpc.stp st4 (fun h=>h)).stp st5 (fun h=>h)).stp st6 (fun h=>h)
    refine ⟨L4,(B5.blk.drew).rowAll hL4.size,?_⟩
    generalize w5.drew=w6 at *
    obtain ⟨o1,l1,k1⟩:=s1
    dsimp only at hpl hpc p6 N6
    subst hpl
    refine ⟨_,_,_,by rw [Z6]; exact N6.blk.rd1 rfl,?_⟩
    refine (Z4e (k:=k) (k2:=k1) P6.rd p6.rd (by omega)).mono ?_
    rintro _ w8 ⟨o8,k8,rfl,F8⟩
    have st8:Stp NoS w6 lab5 w8 (ext lab5 w6.heap.size 6):=Stp.of_nob F8.mod 6
    have P8:CBy w8 (ext lab5 w6.heap.size 6) 6 o8 (path++p):=⟨ZQ F8,fun _ d hd=>ext_new (F8.new d.block ⟨d,hd,rfl⟩)⟩
    rw [← hy'] at P8 ⊢
    exact .inr ⟨_,_,_,rfl,go_on w8 _ o8 k8 (st6.trans st8) P8 (by have:=F8.own.cap.1; rwa [← hy'] at this)⟩
 ·have hjl:j=(subsOf xs path).length:=by omega
  rw [hjl,List.drop_length] at heq
  rw [← heq] at hR
  exact hR _ _ ⟨lab2,(st1.mono (fun _ h=>h.elim)).trans st2,I2,rfl⟩
end
end Go.Proofs.YtfghidehlnfdiaaGreat
end
section
namespace Go.Proofs.YtfghidehlnfdiaaGreat
open Go Go.Vcg Go.Trie
theorem ZFn {l:RS} {a b:By} {f:Nat} {s:RS} {x:It} {path:By} (h:Off a b path):visP l a b f s x path=(s,none):=by
 cases f with
 | zero=>rfl
 | succ f =>
   cases x with
   | l xs=>simp only [visP]; rw [if_pos h]
   | s k=>simp only [visP]; rw [if_pos (.inl h)]
def addR (l s:RS):It→RS
 | .l _=>s
 | .s h=>if met s h then s else match Z1G l h with
   | some c=>s++[(h,c)]
   | none=>s
theorem ZHH {l:RS} {a b:By} {f:Nat} {s:RS} {x:It} {path:By} (h:¬Off a b path) (hx:isE x=false):visP l a b (f+1) s x path=match Z5c l x with
  | .error er=>(s,some er)
  | .ok xs=>eachW (visP l a b f) (addR l s x) xs path:=by
 cases x with
 | l xs=>simp only [visP]; rw [if_neg h]; rfl
 | s k =>
   have hk:k≠[]:=by rintro rfl; cases hx
   simp only [visP]
   rw [if_neg (fun h'=>h'.elim h hk)]
   simp only [Z5A,Z5c,addR]
   cases Z1G l k with
   | none=>rfl
   | some c =>
     simp only
     by_cases hc:Z0R c≠0
     ·rw [if_pos hc,if_pos hc]
     ·rw [if_neg hc,if_neg hc]
      cases Z4c c with
      | error e=>rfl
      | ok y=>cases y <;> rfl
abbrev SR:Nat→Prop:=fun k=>k=2∨k=7∨k=8
structure RgS (l:RS) (a b:By) (d2 d3 d4 d5 d6 mS m:Nat) (w:World) (lab:Nat→Nat) (out:RS):Prop where
 sp:∃oa ka ob kb,CB w lab 1 d2 73 #[.slice oa a.length ka,.slice ob b.length kb]∧CBy w lab 6 oa a∧CBy w lab 6 ob b
 st:CB w lab 1 d3 69 #[.map (some mS),.bool false]
 store:ZB0 w lab 9 0 l mS
 mc:CB w lab 1 d4 78 #[.map (some m)]
 met:∃es:List (H32×Value),CM (fun _=>True) ZDu w lab 2 m es∧(es.map fun x=>x.1.1)=out.map Prod.fst∧∀x∈es,x.2=.agg #[]
 outs:∃o n k,CB w lab 7 d5 34 #[.slice o n k]∧Z4n w lab 8 10 out o n k
 f:CB w lab 1 d6 79 #[.func (.func 33) #[] #[.pointer (some ⟨d2,0,none⟩),.pointer (some ⟨d3,0,none⟩),.pointer (some ⟨d4,0,none⟩),.pointer (some ⟨d5,0,none⟩),.pointer (some ⟨d6,0,none⟩)]]
 laid:Z79 l out
section
variable {l:RS} {a b:By} {d2 d3 d4 d5 d6 mS m:Nat} {w w':World} {lab lab':Nat→Nat} {out:RS}
theorem RgS.stp {S:Nat→Prop} (h:RgS l a b d2 d3 d4 d5 d6 mS m w lab out) (s:Stp S w lab w' lab') (h0:¬S 0) (h1:¬S 1) (h2:¬S 2) (h6:¬S 6) (h7:¬S 7) (h8:¬S 8) (h9:¬S 9) (h10:¬S 10):RgS l a b d2 d3 d4 d5 d6 mS m w' lab' out:=by
 obtain ⟨oa,ka,ob,kb,e1,e2,e3⟩:=h.sp
 obtain ⟨es,m1,m2⟩:=h.met
 obtain ⟨o,n,k,o1,o2⟩:=h.outs
 exact ⟨⟨oa,ka,ob,kb,e1.stp s h1,e2.stp s h6,e3.stp s h6⟩,h.st.stp s h1,h.store.stp s h9 h0,h.mc.stp s h1,⟨es,m1.stp s h2,m2⟩,⟨o,n,k,o1.stp s h7,o2.stp s h8 h10⟩,h.f.stp s h1,h.laid⟩
theorem RgS.no (h:RgS l a b d2 d3 d4 d5 d6 mS m w lab out) (s:Stp NoS w lab w' lab'):RgS l a b d2 d3 d4 d5 d6 mS m w' lab' out :=
 h.stp s (fun h=>h) (fun h=>h) (fun h=>h) (fun h=>h) (fun h=>h) (fun h=>h) (fun h=>h) (fun h=>h)
theorem ZFS {bb:Bool} {s1 s2 s3:Option Addr×Nat×Nat} {K:Addr→World→Prop} (h:∀w' lab' N,Stp NoS w lab w' lab'→CB w' lab' 5 N 86 #[.bool bb,.slice s1.1 s1.2.1 s1.2.2,.slice s2.1 s2.2.1 s2.2.2,.slice s3.1 s3.2.1 s3.2.2]→K ⟨N,0,none⟩ w') :
  ∀(d33:Addr) (w34:World),ZC w 86 #[(.bool false),(.slice none 0 0),(.slice none 0 0),(.slice none 0 0)] d33 w34 →
   Z1 w34 d33 (.bool bb)∧∀w35:World,ZA w34 d33 (.bool bb) w35→Z1 w35 (Addr.add d33 1) (.slice s1.1 s1.2.1 s1.2.2)∧∀w36:World,ZA w35 (Addr.add d33 1) (.slice s1.1 s1.2.1 s1.2.2) w36 →
   Z1 w36 (Addr.add d33 2) (.slice s2.1 s2.2.1 s2.2.2)∧∀w37:World,ZA w36 (Addr.add d33 2) (.slice s2.1 s2.2.1 s2.2.2) w37→Z1 w37 (Addr.add d33 3) (.slice s3.1 s3.2.1 s3.2.2)∧∀w38:World,ZA w37 (Addr.add d33 3) (.slice s3.1 s3.2.1 s3.2.2) w38→K d33 w38:=by
 rintro d w1 ⟨rfl,rfl⟩
 have M1:=Mod.alloc (S:=NoB) w (.cells #[.bool false,.slice none 0 0,.slice none 0 0,.slice none 0 0] 86)
 exact ZHO (v1:=.bool bb) (v2:=.slice s1.1 s1.2.1 s1.2.2) (v3:=.slice s2.1 s2.2.1 s2.2.2) (v4:=.slice s3.1 s3.2.1 s3.2.2) (Blk.new w 86 #[.bool false,.slice none 0 0,.slice none 0 0,.slice none 0 0]) rfl rfl rfl rfl (fun w2 B2 Q2 =>
  h w2 (ext lab w.heap.size 5) w.heap.size (Stp.of_nob (ZM M1 Q2 (Nat.le_refl _)) 5) ⟨B2,ext_new (Nat.le_refl _)⟩)
theorem ZAe (hb:∀x∈l,x.2.length≤2 ^ 30) (hlen:l.length≤4096):∀(f:Nat) {w:World} {lab:Nat→Nat} {s:RS} {x:It} {L:Array Value} {o:Option Addr} {k:Nat} {path:By},RgS l a b d2 d3 d4 d5 d6 mS m w lab s→RfC (fun b=>lab b≠6) w x L→Z3D x→isE x=false→CBy w lab 6 o path→path.length≤k→Nib path→66≤f+path.length →
  Calls Tryz.prog Zl.n #[.agg L,.slice o path.length k,.pointer (some ⟨d2,0,none⟩),.pointer (some ⟨d3,0,none⟩),.pointer (some ⟨d4,0,none⟩),.pointer (some ⟨d5,0,none⟩),.pointer (some ⟨d6,0,none⟩)] w (fun e w'=>∃lab',Stp SR w lab w' lab'∧RgS l a b d2 d3 d4 d5 d6 mS m w' lab' (visP l a b f s x path).1∧Back (visP l a b f s x path).2 e):=by
 intro f
 induction f with
 | zero =>
   intro w lab s x L o k path hI hL hg hE hp hk hnib hf
   refine ZH fun R hR=>Zl.vc _ _ _ _ _ _ _ _ _ _ _ ?_
   unfold Zl.Vc
   rintro d7 w1 ⟨rfl,rfl⟩
   have st1:Stp NoS w lab (w.alloc (.cells L 82)) (ext lab w.heap.size 5):=Stp.alloc NoS w lab _ 5
   exact ⟨fun _=>hR _ _ ⟨_,st1.mono (fun _ h=>h.elim),hI.no st1,rfl⟩,fun h=>absurd h (by omega)⟩
 | succ f ih =>
   intro w lab s x L o k path hI hL hg hE hp hk hnib hf
   refine ZH fun R hR=>Zl.vc _ _ _ _ _ _ _ _ _ _ _ ?_
   unfold Zl.Vc
   rintro d7 w1 ⟨rfl,rfl⟩
   have st1:Stp NoS w lab (w.alloc (.cells L 82)) (ext lab w.heap.size 5):=Stp.alloc NoS w lab _ 5
   have X1:=CB.new w lab 5 82 L
   have I1:=hI.no st1
   have P1:=hp.stp st1 (fun h=>h)
   have hL1:=hL.stp st1 (fun h=>h)
   generalize w.heap.size=D at *
   generalize w.alloc (.cells L 82)=w1 at *
   generalize ext lab D 5=lab1 at *
   have off:∀w' lab',Stp NoS w1 lab1 w' lab'→Off a b path→R (.returned (.tuple #[])) w':=fun w' lab' st ho=>by
    rw [ZFn ho] at hR
    exact hR _ _ ⟨lab',(st1.trans st).mono (fun _ h=>h.elim),I1.no st,rfl⟩
   refine ⟨fun h=>off _ _ (Stp.refl _ _ _) (.inl (by omega)),fun hle=>?_⟩
   have hl64:path.length≤64:=by omega
   obtain ⟨oa,ka,ob,kb,e1,e2,e3⟩:=I1.sp
   refine ⟨_,_,_,_,_,_,e1.blk.rd1 rfl,by rw [Z6]; exact e1.blk.rd1 rfl,?_⟩
   refine (ZDB (k:=k) e2.rd e3.rd P1.rd hl64).mono ?_
   rintro _ w2 ⟨rfl,M2⟩
   have st2:Stp NoS w1 lab1 w2 (ext lab1 w1.heap.size 5):=Stp.of_nob M2 5
   refine .inr ⟨_,rfl,fun hp2=>off _ _ st2 (.inr (fun h=>hp2 (Z6Z.2 h))),fun hp2=>?_⟩
   have hon:¬Off a b path:=fun h=>h.elim (fun h=>by omega) (fun h=>h (Z6Z.1 hp2))
   rw [ZHH hon hE] at hR
   have I2:=I1.no st2
   have X2:=X1.stp st2 (fun h=>h)
   have P2:=P1.stp st2 (fun h=>h)
   have hL2:=hL1.stp st2 (fun h=>h)
   have st02:=st1.trans st2
   generalize ext lab1 w1.heap.size 5=lab2 at *
   clear e1 e2 e3 off I1 X1 P1 hL1 st1 st2 M2
   refine ⟨_,_,I2.st.blk.rd1 rfl,by rw [Z6]; exact I2.st.blk.rd1 rfl,L,X2.blk.rowAll hL2.size,?_⟩
   refine (ZAP (A:=fun b=>ext lab2 w2.heap.size 6 b≠6) I2.store (RfC.restr (fun b hb h=>by rwa [Z2E hb] at h) hL2) hg hE (fun b hb h=>h (ext_new hb))).mono ?_
   rintro e w3 ⟨M3,hres⟩
   have st3:Stp NoS w2 lab2 w3 (ext lab2 w2.heap.size 6):=Stp.of_nob M3 6
   have I3:=I2.no st3
   have X3:=X2.stp st3 (fun h=>h)
   have P3:=P2.stp st3 (fun h=>h)
   have hL3:=hL2.stp st3 (fun h=>h)
   have st03:=st02.trans st3
   generalize ext lab2 w2.heap.size 6=lab3 at *
   clear I2 X2 P2 hL2 st02 st3 M3
   cases hnr:Z5c l x with
   | error er =>
     rw [hnr] at hres hR
     obtain ⟨rfl,hne⟩:=hres
     exact .inl ⟨_,rfl,hR _ _ ⟨lab3,st03.mono (fun _ h=>h.elim),I3,rfl,hne⟩⟩
   | ok xs =>
   rw [hnr] at hres hR
   obtain ⟨bb,s1,s2,s3,rfl,hn3⟩:=hres
   have hgx:=ZDF hg hnr
   refine .inr ⟨_,_,_,_,_,_,_,_,_,_,rfl,?_⟩
   refine ZFS (lab:=lab3) (fun w4 lab4 N st4 N4=>?_)
   have I4:=I3.no st4
   have X4:=X3.stp st4 (fun h=>h)
   have P4:=P3.stp st4 (fun h=>h)
   have hL4:=hL3.stp st4 (fun h=>h)
   have hn4:=hn3.stp st4 (fun h=>h)
   have st04:=st03.trans st4
   clear I3 X3 P3 hL3 hn3 st03 st4
   have go_on:∀w' lab' s',Stp SR w lab w' lab'→RgS l a b d2 d3 d4 d5 d6 mS m w' lab' s'→NvC (fun b=>lab' b≠6) w' xs bb s1 s2 s3→CBy w' lab' 6 o path→s'=addR l s x →
     Calls Tryz.prog Z0U.n #[nvV bb s1 s2 s3,.slice o path.length k,.func (.func 33) #[] #[.pointer (some ⟨d2,0,none⟩),.pointer (some ⟨d3,0,none⟩),.pointer (some ⟨d4,0,none⟩),.pointer (some ⟨d5,0,none⟩),.pointer (some ⟨d6,0,none⟩)]] w' (fun e w''=>(∃ch,e=.panicked ch∧R (.panicked ch) w'')∨e=.returned (.tuple #[])∧R (.returned (.tuple #[])) w''):=by
    intro w' lab' s' st' I' hn' P' hs'
    subst hs'
    have V:ZHW (.func (.func 33) #[] #[.pointer (some ⟨d2,0,none⟩),.pointer (some ⟨d3,0,none⟩),.pointer (some ⟨d4,0,none⟩),.pointer (some ⟨d5,0,none⟩),.pointer (some ⟨d6,0,none⟩)]) SR (RgS l a b d2 d3 d4 d5 d6 mS m) (visP l a b f) (fun q=>66≤f+q.length):={
     s5:=by decide
     s6:=by decide
     stp:=fun h s=>h.no s
     nil:=fun {s x path} h=>by
      cases x with
      | l xs=>cases h
      | s c =>
        cases c with
        | cons y r=>cases h
        | nil =>
          cases f with
          | zero=>rfl
          | succ f=>simp only [visP]; rw [if_pos (.inr trivial)]
     run:=fun {w lab s x L o k path} hI hL hg hE hp hk hnib hf=>⟨33,#[],_,rfl,by kernel_rfl,ih hI hL hg hE hp hk hnib hf⟩ }
    refine (ZD3 V I' hgx hn' P' hl64 hnib (fun q hq=>by
     have:0 < q.length:=List.length_pos_iff.2 hq
     rw [List.length_append]; omega)).mono ?_
    rintro e w'' ⟨lab'',st'',I'',hb''⟩
    have fin:∀r,Back (eachW (visP l a b f) (addR l s x) xs path).2 r→R r w'':=fun r hr=>hR _ _ ⟨lab'',st'.trans st'',I'',hr⟩
    revert hb'' fin
    generalize (eachW (visP l a b f) (addR l s x) xs path).2=oe
    intro hb'' fin
    cases oe with
    | none=>obtain rfl:=hb''; exact .inr ⟨rfl,fin _ rfl⟩
    | some er=>obtain ⟨rfl,hne⟩:=hb''; exact .inl ⟨_,rfl,fin _ ⟨rfl,hne⟩⟩
   cases x with
   | l ys =>
     obtain ⟨Dx,v1,v2,v3,rfl,_⟩:=hL4
     refine ⟨_,by rw [Z6]; exact X4.blk.rd1 (Z4v rfl),fun h=>(by cases h),fun _=>?_⟩
     exact get4 N4.blk ⟨_,I4.f.blk.rd1 rfl,go_on _ _ _ (st04.mono (fun _ h=>h.elim)) I4 hn4 P4 rfl⟩
   | s h =>
     have hne':h≠[]:=by rintro rfl; cases hE
     rcases hL4 with ⟨rfl,_⟩ | ⟨h32,rfl⟩
     ·exact (hne' rfl).elim
     refine ⟨none,by rw [Z6]; exact X4.blk.rd1 (Z4v (Z0x _)),fun _=>?_,fun h=>(h rfl).elim⟩
     have hrow:∀{w':World} {lab':Nat→Nat},CB w' lab' 5 D 82 (rfA (hashA h).toList none true)→ZJ w' ⟨D,0,none⟩ 32 (hashA h):=fun X=>X.blk.rowAt (ZB h) (fun i hi=>by rw [Nat.zero_add,ZCe (Z0x _) hi,Array.getElem?_toList])
     obtain ⟨es,m1,m2,m3⟩:=I4.met
     have hlook:=Z2a.look m1.map Z7T ZBp (ZF5 w4) (k:=⟨h,h32⟩) trivial true
     rw [if_pos rfl,Z8G m3,Z4a,ZDf es s m2] at hlook
     refine ⟨_,I4.mc.blk.rd1 rfl,_,hrow X4,_,hlook,_,rfl,?_⟩
     rintro d44 w5 ⟨rfl,rfl⟩
     have st5:Stp NoS w4 lab4 (w4.alloc (.cells #[] 88)) (ext lab4 w4.heap.size 5):=Stp.alloc NoS w4 lab4 _ 5
     have I5:=I4.no st5
     have X5:=X4.stp st5 (fun h=>h)
     have P5:=P4.stp st5 (fun h=>h)
     have N5:=N4.stp st5 (fun h=>h)
     have hn5:=hn4.stp st5 (fun h=>h)
     have st05:=(st04.trans st5).mono (T:=SR) (fun _ h=>h.elim)
     generalize w4.alloc (.cells #[] 88)=w5 at *
     generalize ext lab4 w4.heap.size 5=lab5 at *
     clear I4 X4 P4 N4 hn4 st04 st5 m1 m2 m3 hlook
     refine ⟨fun hm=>?_,fun hm=>?_⟩
     ·have hm:met s h=false:=hm
      obtain ⟨es,m1,m2,m3⟩:=I5.met
      obtain ⟨c,hf⟩:∃c,Z1G l h=some c:=by
       simp only [Z5c] at hnr
       cases hq:Z1G l h with
       | none=>rw [hq] at hnr; cases hnr
       | some c=>exact ⟨c,rfl⟩
      have hadd:addR l s (.s h)=s++[(h,c)]:=by simp only [addR]; rw [hm,hf]; rfl
      obtain ⟨w6,hr6,hm6,M6⟩:=Z2a.update m1.map Z7T ZBp (k:=⟨h,h32⟩) trivial (.agg #[])
      have c1:lab5 m=2:=m1.clr
      have hnew:∀x∈es,x.1≠⟨h,h32⟩:=fun x hx e=>by
       have hs:(Z3E (⟨h,h32⟩:H32) es).isSome=false:=by rw [Z4a,ZDf es s m2]; exact hm
       rw [Z4a] at hs
       have:=List.any_eq_false.1 hs x hx
       rw [e] at this
       exact this (decide_eq_true rfl)
      rw [Z73 hnew] at hm6
      have st6:Stp (fun k=>k=2) w5 lab5 w6 (ext lab5 w5.heap.size 5):=Stp.of_mod M6 5 (fun k _ e=>by subst e; exact c1)
      have cm6:CM (fun _=>True) ZDu w6 (ext lab5 w5.heap.size 5) 2 m (es++[(⟨h,h32⟩,.agg #[])]):=⟨hm6,(st6.lab m m1.map.lt).trans c1⟩
      refine ⟨_,I5.mc.blk.rd1 rfl,_,hrow X5,w6,hr6,?_⟩
      rintro _ rfl
      have st7:=st6.trans (Stp.drew (fun k=>k=2) w6 (ext lab5 w5.heap.size 5))
      have cm7:=cm6.stp (Stp.drew NoS w6 _) (fun h=>h)
      clear st6 cm6 hr6 hm6 M6
      generalize w6.drew=w7 at *
      generalize ext lab5 w5.heap.size 5=lab7 at *
      obtain ⟨sa,ska,sb,skb,sp1,sp2,sp3⟩:=I5.sp
      obtain ⟨oo,on,ok,q1,q2⟩:=I5.outs
      have X7:=X5.stp st7 (by decide)
      have P7:=P5.stp st7 (by decide)
      have N7:=N5.stp st7 (by decide)
      have hn7:=hn5.stp st7 (by decide)
      have S7:=I5.st.stp st7 (by decide)
      have SM7:=I5.store.stp st7 (by decide) (by decide)
      have q17:=q1.stp st7 (by decide)
      have q27:=q2.stp st7 (by decide) (by decide)
      have spa:=sp1.stp st7 (by decide)
      have spb:=sp2.stp st7 (by decide)
      have spc:=sp3.stp st7 (by decide)
      have mc7:=I5.mc.stp st7 (by decide)
      have f7:=I5.f.stp st7 (by decide)
      refine ⟨_,_,_,q17.blk.rd1 rfl,hashA h,hrow X7,_,_,S7.blk.rd1 rfl,by rw [Z6]; exact S7.blk.rd1 rfl,hashA h,hrow X7,?_⟩
      refine (Z3j SM7 h32).mono ?_
      rintro e w8 ⟨M8,_,hyes⟩
      obtain ⟨oc,kc,rfl,hc8,hck⟩:=hyes c hf
      have st8:Stp NoS w7 lab7 w8 (ext lab7 w7.heap.size 5):=Stp.of_nob M8 5
      have X8:=X7.stp st8 (fun h=>h)
      have q18:=q17.stp st8 (fun h=>h)
      refine .inr ⟨_,_,_,rfl,hrow X8,q18.blk.rd1 rfl,?_⟩
      have hc30:c.length≤2 ^ 30:=hb _ (Z5S hf)
      refine (Z2C (k:=kc) (hc8.rd.mod' M8) (by omega)).mono ?_
      rintro _ w9 ⟨o9,k9,rfl,F9⟩
      have st9:Stp NoS w8 (ext lab7 w7.heap.size 5) w9 (ext (ext lab7 w7.heap.size 5) w8.heap.size 10):=Stp.of_nob F9.mod 10
      have c9:CBy w9 (ext (ext lab7 w7.heap.size 5) w8.heap.size 10) 10 o9 c:=⟨ZQ F9,fun _ d hd=>ext_new (F9.new d.block ⟨d,hd,rfl⟩)⟩
      have st79:=st8.trans st9
      have X9:=X8.stp st9 (fun h=>h)
      have q19:=q18.stp st9 (fun h=>h)
      have q29:=q27.stp st79 (fun h=>h) (fun h=>h)
      have hZ:nd0.size=33:=rfl
      refine .inr ⟨_,_,_,rfl,hrow X9,q19.blk.rd1 rfl,ZB h,by rw [Zb]; unfold lputL; rw [Zb,hZ],?_⟩
      rw [Z6u hZ]
      clear st8 st9 X8 q18 M8 hc8 hyes
      generalize ext (ext lab7 w7.heap.size 5) w8.heap.size 10=lab9 at *
      rintro d10 w10 ⟨rfl,rfl⟩
      have st10:Stp NoS w9 lab9 (w9.alloc (.cells (ndA h o9 c.length k9) tNd)) (ext lab9 w9.heap.size 5):=Stp.alloc NoS w9 lab9 _ 5
      have B10:=Blk.new w9 tNd (ndA h o9 c.length k9)
      have q1x:=q19.stp st10 (fun h=>h)
      have q2x:=q29.stp st10 (fun h=>h) (fun h=>h)
      have c10:=c9.stp st10 (fun h=>h)
      have st7x:=st79.trans st10
      change World.cell? (w9.alloc (.cells (ndA h o9 c.length k9) tNd)) ⟨d5,0,none⟩=some (.slice oo on ok)∧∃(v69:Value) (w70:World),Sem.run Tryz.prog (builtinV .append #[Z39,Z39] Z39 #[(.slice oo on ok),(.slice (some ⟨w9.heap.size,0,none⟩) 1 1)]) (w9.alloc (.cells (ndA h o9 c.length k9) tNd))=.ok v69 w70∧_
      generalize w9.alloc (.cells (ndA h o9 c.length k9) tNd)=w10 at *
      generalize ext lab9 w9.heap.size 5=lab10 at *
      have hsl:=I5.laid.len
      obtain ⟨o11,k11,w11,hr11,O11,st11⟩:=q2x.push (by decide) B10 h32 c10 F9.own.cap.1 (by omega)
      have q111:=q1x.stp st11 (by decide)
      refine ⟨q1x.blk.rd1 rfl,_,w11,hr11,o11,_,k11,rfl,q111.blk.canSet (by simp) rfl,?_⟩
      rintro _ rfl
      have st12:Stp (fun k=>k=7) w11 (ext lab10 w10.heap.size 8) (w11.setCell ⟨d5,0,none⟩ (.slice o11 (on+1) k11)) (ext lab10 w10.heap.size 8):=Stp.setCell q111.clr
      have q112:=q111.set 0 (.slice o11 (on+1) k11)
      have O12:=O11.stp st12 (by decide) (by decide)
      have st712:Stp SR w7 lab7 (w11.setCell ⟨d5,0,none⟩ (.slice o11 (on+1) k11)) (ext lab10 w10.heap.size 8):=((st7x.mono (fun _ h=>h.elim)).trans (st11.mono (fun _ h=>.inr (.inr h)))).trans (st12.mono (fun _ h=>.inr (.inl h)))
      have st7_12:Stp (fun k=>k=7∨k=8) w7 lab7 (w11.setCell ⟨d5,0,none⟩ (.slice o11 (on+1) k11)) (ext lab10 w10.heap.size 8):=((st7x.mono (fun _ h=>h.elim)).trans (st11.mono (fun _ h=>.inr h))).trans (st12.mono (fun _ h=>.inl h))
      generalize w11.setCell ⟨d5,0,none⟩ (.slice o11 (on+1) k11)=w12 at *
      generalize ext lab10 w10.heap.size 8=lab12 at *
      have hl12:Z79 l (s++[(h,c)]):=I5.laid.push hf hm
      have I12:RgS l a b d2 d3 d4 d5 d6 mS m w12 lab12 (s++[(h,c)]):=⟨⟨sa,ska,sb,skb,spa.stp st7_12 (by decide),spb.stp st7_12 (by decide),spc.stp st7_12 (by decide)⟩,S7.stp st7_12 (by decide),SM7.stp st7_12 (by decide) (by decide),mc7.stp st7_12 (by decide),
       ⟨_,cm7.stp st7_12 (by decide),by rw [List.map_append,m2,List.map_append]; rfl,fun x hx=>by
        rcases List.mem_append.1 hx with hx | hx
        ·exact m3 x hx
        ·simp at hx; rw [hx]⟩,⟨o11,_,k11,q112,O12⟩,f7.stp st7_12 (by decide),hl12⟩
      refine get4 (N7.stp st7_12 (by decide)).blk ⟨_,I12.f.blk.rd1 rfl,?_⟩
      exact go_on _ _ _ ((st05.trans (st7.mono (fun _ h=>.inl h))).trans st712) I12 (hn7.stp st7_12 (by decide)) (P7.stp st7_12 (by decide)) hadd.symm
     ·have hm:met s h=true:=hm
      have hadd:addR l s (.s h)=s:=by simp only [addR]; rw [hm]; rfl
      exact get4 N5.blk ⟨_,I5.f.blk.rd1 rfl,go_on _ _ _ st05 I5 hn5 P5 hadd.symm⟩
end
end Go.Proofs.YtfghidehlnfdiaaGreat
end
section
namespace Go.Proofs.YtfghidehlnfdiaaGreat
open Go Go.Vcg Go.Trie
def Z2f (r:RS×Int) (w:World) (e:Ending) (w':World):Prop :=
 Vcg.Mod NoB w w'∧∃o k,e=.returned (.tuple #[.slice o r.1.length k,.int .i64 r.2])∧Z0w w' (fun _=>0) 0 r.1 o r.1.length
theorem Z2f.none_ {w w':World} {n:Int} (M:Vcg.Mod NoB w w'):Z2f ([],n) w (.returned (.tuple #[.slice none 0 0,.int .i64 n])) w':=⟨M,none,0,rfl,Z0w.nil _ _ _ _⟩
theorem Z4n.row {w:World} {lab:Nat→Nat} {c cb:Nat} {l:RS} {o:Option Addr} {n k:Nat} (h:Z4n w lab c cb l o n k):Z0w w (fun _=>0) 0 l o n:=by
 obtain ⟨h1,vs,h2,h3⟩:=h
 refine ⟨h1,vs,fun j v hv=>?_,h3.1,fun j hj=>?_⟩
 ·obtain ⟨g,f,a1,a2,_,a3⟩:=h2.row j v hv
  exact ⟨g,f,a1,a2,rfl,a3⟩
 ·obtain ⟨b1,b2,ob,kb,b3,b4,b5⟩:=h3.2 j hj
  exact ⟨b1,b2,ob,kb,b3,⟨b4.rd,fun _ _ _=>rfl⟩,b5⟩
theorem ZAd {R:Ending→World→Prop} {rt:World→Prop} {dE dO:Nat} {n n0:Int} {o:Option Addr} {l k:Nat} {w:World} (hn:n≠0) (hne:dE≠dO) (E:Blk w dE 40 #[.int .i64 n0]) (O:Blk w dO 34 #[.slice o l k])
  (K:∀w',Blk w' dE 40 #[.int .i64 n]→Blk w' dO 34 #[.slice none 0 0]→Vcg.Mod (fun b=>b=dE∨b=dO) w w'→rt w') :
  Z2t Tryz.prog rt R [(32,#[.pointer (some ⟨dE,0,none⟩)]),(31,#[.pointer (some ⟨dE,0,none⟩),.pointer (some ⟨dO,0,none⟩)])] (.panicking (Z2v n)) w:=by
 refine ⟨fun h=>(by cases h),(Z4C E).mono ?_⟩
 rintro _ _ w1 ⟨rfl,rfl,E1,M1⟩
 have O1:=O.mod M1 (fun h=>hne h.symm)
 refine ⟨fun h=>(by cases h),?_⟩
 refine (Z0G.vcd .returning _ _ w1 (fun e w'=>e=.returned (.tuple #[])∧Blk w' dE 40 #[.int .i64 n]∧Blk w' dO 34 #[.slice none 0 0]∧Vcg.Mod (·=dO) w1 w') ?_).mono ?_
 ·unfold Z0G.Vc
  refine ⟨n,E1.rd1 rfl,fun _=>⟨O1.canSet (by simp) rfl,?_⟩,fun h=>(hn h).elim⟩
  rintro _ rfl
  exact ⟨rfl,E1.set_ne (by exact hne),O1.set 0 _,Mod.setCell w1 ⟨dO,0,none⟩ _⟩
 ·rintro _ _ w2 ⟨rfl,rfl,E2,O2,M2⟩
  exact K w2 E2 O2 ((M1.mono (fun _ _ h=>.inl h)).trans M2 (fun _ _ h=>.inr h))
theorem ZBb {R:Ending→World→Prop} {rt:World→Prop} {dE dO:Nat} {w:World} (E:Blk w dE 40 #[.int .i64 0]) (K:rt w) :
  Z2t Tryz.prog rt R [(32,#[.pointer (some ⟨dE,0,none⟩)]),(31,#[.pointer (some ⟨dE,0,none⟩),.pointer (some ⟨dO,0,none⟩)])] .returning w:=by
 refine ⟨fun h=>(by cases h),Z53.mono ?_⟩
 rintro _ _ w1 ⟨rfl,rfl,rfl⟩
 refine ⟨fun h=>(by cases h),?_⟩
 refine (Z0G.vcd .returning _ _ w1 (fun e w'=>e=.returned (.tuple #[])∧w'=w1) ?_).mono ?_
 ·unfold Z0G.Vc
  exact ⟨0,E.rd1 rfl,fun h=>(h rfl).elim,fun _=>⟨rfl,rfl⟩⟩
 ·rintro _ _ w2 ⟨rfl,rfl,rfl⟩
  exact K
section
variable {w:World} {lab:Nat→Nat}
theorem ZHo {t:TypeId} {c:Nat} {v0:Value} {v:Addr→Value} {K:Addr→World→Prop} (hv:∀d,(v d).oneCell'=true) (h:∀w',Stp NoS w lab w' (ext lab w.heap.size c)→CB w' (ext lab w.heap.size c) c w.heap.size t #[v ⟨w.heap.size,0,none⟩]→K ⟨w.heap.size,0,none⟩ w') :
  ∀(d:Addr) (w1:World),ZC w t #[v0] d w1→Z1 w1 d (v d)∧∀w2:World,ZA w1 d (v d) w2→K d w2:=by
 rintro d w1 ⟨rfl,rfl⟩
 have M1:=Mod.alloc (S:=NoB) w (.cells #[v0] t)
 have B1:=Blk.new w t #[v0]
 refine ⟨B1.canSet (by simp) (hv _),?_⟩
 rintro _ rfl
 exact h _ (Stp.of_nob (ZM M1 (Mod.setCell _ ⟨w.heap.size,0,none⟩ (v ⟨w.heap.size,0,none⟩)) (Nat.le_refl _)) c) ⟨B1.set 0 _,ext_new (Nat.le_refl _)⟩
theorem ZHp {t:TypeId} {c:Nat} {u0 v0 u v:Value} {K:Addr→World→Prop} (hu:u.oneCell'=true) (hv:v.oneCell'=true) (h:∀w',Stp NoS w lab w' (ext lab w.heap.size c)→CB w' (ext lab w.heap.size c) c w.heap.size t #[u,v]→K ⟨w.heap.size,0,none⟩ w') :
  ∀(d:Addr) (w1:World),ZC w t #[u0,v0] d w1→Z1 w1 d u∧∀w2:World,ZA w1 d u w2→Z1 w2 (Addr.add d 1) v∧∀w3:World,ZA w2 (Addr.add d 1) v w3→K d w3:=by
 rintro d w1 ⟨rfl,rfl⟩
 have M1:=Mod.alloc (S:=NoB) w (.cells #[u0,v0] t)
 have B1:=Blk.new w t #[u0,v0]
 refine ⟨B1.canSet (by simp) hu,?_⟩
 rintro _ rfl
 have B2:=B1.set 0 u
 have M2:=ZM M1 (Mod.setCell _ ⟨w.heap.size,0,none⟩ u) (Nat.le_refl _)
 rw [Z6,Nat.zero_add]
 refine ⟨B2.canSet (by simp) hv,?_⟩
 rintro _ rfl
 exact h _ (Stp.of_nob (ZM M2 (Mod.setCell _ ⟨w.heap.size,1,none⟩ v) (Nat.le_refl _)) c) ⟨B2.set 1 v,ext_new (Nat.le_refl _)⟩
theorem ZBf {D c:Nat} {t:TypeId} {v0 v:Value} {P:World→Prop} (B:CB w lab c D t #[v0]) (hv:v.oneCell'=true) (h:∀w',Stp (·=c) w lab w' lab→CB w' lab c D t #[v]→P w') :
  Z1 w ⟨D,0,none⟩ v∧∀w1:World,ZA w ⟨D,0,none⟩ v w1→P w1:=by
 refine ⟨B.blk.canSet (by simp) hv,?_⟩
 rintro _ rfl
 exact h _ (Stp.setCell B.clr) (B.set 0 v)
end
abbrev SA:Nat→Prop:=fun k=>k=2∨k=3∨k=7∨k=8
def labR (N:Nat):Nat→Nat:=fun k=>if k=N+3 then 7 else if k=N+4 then 3 else if N≤k then 1 else 0
theorem ZCK {N k:Nat} (h:k < N):labR N k=0:=by unfold labR; rw [if_neg (by omega),if_neg (by omega),if_neg (by omega)]
theorem Z6n {w:World} {lab:Nat→Nat} {c:Nat} {l:RS} {o:Option Addr} {k:Nat} {root least most:By} (h:Z0w w lab c l o l.length) (hlen:l.length≤2 ^ 40) (hb:∀x∈l,x.2.length≤2 ^ 30) (hr:root.length=32) (hl:least.length=32) (hm:most.length=32) :
  Calls Tryz.prog Z0f.n #[.slice o l.length k,.agg (hashA root),.agg (hashA least),.agg (hashA most)] w (Z2f (Z2l l root least most) w):=by
 refine ZH fun R hR=>Z0f.vc _ _ _ _ _ _ _ _ ?_
 unfold Z0f.Vc
 have hN:Z0w w (labR w.heap.size) 0 l o l.length:=Z0w.re h (fun k hk _=>ZCK hk)
 rintro d1 w1 ⟨rfl,rfl⟩
 have M1:=Mod.alloc (S:=NoB) w (.cells (hashA root) 27)
 have X1:=Blk.new w 27 (hashA root)
 have z1:=ZD w (.cells (hashA root) 27)
 have lab0:∀k,k < w.heap.size→labR w.heap.size k=0:=fun k hk=>ZCK hk
 generalize hNe:w.heap.size=N at *
 generalize w.alloc (.cells (hashA root) 27)=w1 at *
 rintro d2 w2 ⟨rfl,rfl⟩
 have M12:=Mod.alloc (S:=NoB) w1 (.cells (hashA least) 27)
 have A2:=Blk.new w1 27 (hashA least)
 have z2:=ZD w1 (.cells (hashA least) 27)
 have X2:=X1.mod' M12
 have M2:=M1.none_trans M12
 rw [z1] at A2 z2 ⊢
 generalize w1.alloc (.cells (hashA least) 27)=w2 at *
 rintro d3 w3 ⟨rfl,rfl⟩
 have M23:=Mod.alloc (S:=NoB) w2 (.cells (hashA most) 27)
 have B3:=Blk.new w2 27 (hashA most)
 have z3:=ZD w2 (.cells (hashA most) 27)
 have X3:=X2.mod' M23
 have A3:=A2.mod' M23
 have M3:=M2.none_trans M23
 rw [z2] at B3 z3 ⊢
 generalize w2.alloc (.cells (hashA most) 27)=w3 at *
 rintro d4 w4 ⟨rfl,rfl⟩
 have M34:=Mod.alloc (S:=NoB) w3 (.cells #[.slice none 0 0] 34)
 have O4:=Blk.new w3 34 #[.slice none 0 0]
 have z4:=ZD w3 (.cells #[.slice none 0 0] 34)
 have X4:=X3.mod' M34
 have A4:=A3.mod' M34
 have B4:=B3.mod' M34
 have M4:=M3.none_trans M34
 rw [z3] at O4 z4 ⊢
 generalize w3.alloc (.cells #[.slice none 0 0] 34)=w4 at *
 rintro d5 w5 ⟨rfl,rfl⟩
 have M45:=Mod.alloc (S:=NoB) w4 (.cells #[.int .i64 0] 40)
 have E5:=Blk.new w4 40 #[.int .i64 0]
 have z5:=ZD w4 (.cells #[.int .i64 0] 40)
 have X5:=X4.mod' M45
 have A5:=A4.mod' M45
 have B5:=B4.mod' M45
 have O5:=O4.mod' M45
 have M5:=M4.none_trans M45
 rw [z4] at E5 z5 ⊢
 generalize w4.alloc (.cells #[.int .i64 0] 40)=w5 at *
 have s5:Stp NoS w (labR N) w5 (labR N):=⟨M5.os,M5.tape,M5.output,M5.size,fun _ _=>rfl,fun q hq _=>M5.block q hq (fun h=>h)⟩
 have hN5:=hN.stp s5 (fun h=>h)
 have lX:labR N N=1:=by unfold labR; rw [if_neg (by omega),if_neg (by omega),if_pos (by omega)]
 have lA:labR N (N+1)=1:=by unfold labR; rw [if_neg (by omega),if_neg (by omega),if_pos (by omega)]
 have lB:labR N (N+1+1)=1:=by unfold labR; rw [if_neg (by omega),if_neg (by omega),if_pos (by omega)]
 have lO:labR N (N+1+1+1)=7:=if_pos rfl
 have lE:labR N (N+1+1+1+1)=3:=by unfold labR; rw [if_neg (by omega),if_pos (by omega)]
 have X5:CB w5 (labR N) 1 N 27 (hashA root):=⟨X5,lX⟩
 have A5:CB w5 (labR N) 1 (N+1) 27 (hashA least):=⟨A5,lA⟩
 have B5:CB w5 (labR N) 1 (N+1+1) 27 (hashA most):=⟨B5,lB⟩
 have O5:CB w5 (labR N) 7 (N+1+1+1) 34 #[.slice none 0 0]:=⟨O5,lO⟩
 have E5:CB w5 (labR N) 3 (N+1+1+1+1) 40 #[.int .i64 0]:=⟨E5,lE⟩
 clear M1 M12 M2 M23 M3 M34 M4 M45 M5 X1 X2 X3 X4 A2 A3 A4 B3 B4 O4 lX lA lB lO lE
 have hEO:N+1+1+1+1≠N+1+1+1:=by omega
 have fin:∀(r:RS×Int) (e:Ending) (w':World) (lab':Nat→Nat),Stp SA w (labR N) w' lab'→Z2l l root least most=r→(Vcg.Mod NoB w w'→Z2f r w e w')→R e w':=fun r e w' lab' st hrr hi=>by
  have M:Vcg.Mod NoB w w':=st.nob (fun k hk hs=>by rw [lab0 k (by omega)] at hs; rcases hs with h | h | h | h <;> cases h)
  exact hR _ _ (by rw [hrr]; exact hi M)
 generalize hdO:N+1+1+1=dO at *
 generalize hdE:dO+1=dE at *
 refine (Z6i (k:=k) (held:=false) hN5 hlen).mono ?_
 rintro e w6 ⟨M6,hbig,hsmall⟩
 have st6:Stp NoS w5 (labR N) w6 (ext (labR N) w5.heap.size 9):=Stp.of_nob M6 9
 obtain ⟨m11,b12,n13,rfl,hcase⟩:∃m11 b12 n13,e=.returned (.tuple #[.agg #[.map m11,.bool b12],.int .i64 n13])∧((n13=162∧l.length > 4096)∨(n13=0∧l.length≤4096∧b12=false∧∃m,m11=some m∧ZB0 w6 (ext (labR N) w5.heap.size 9) 9 0 l m)):=by
  by_cases hl:l.length > 4096
  ·exact ⟨_,_,_,hbig hl,.inl ⟨rfl,hl⟩⟩
  ·obtain ⟨m,he,hm⟩:=hsmall (by omega)
   exact ⟨_,_,_,he,.inr ⟨rfl,by omega,rfl,m,rfl,hm⟩⟩
 have X6:=X5.stp st6 (fun h=>h)
 have A6:=A5.stp st6 (fun h=>h)
 have B6:=B5.stp st6 (fun h=>h)
 have O6:=O5.stp st6 (fun h=>h)
 have E6:=E5.stp st6 (fun h=>h)
 have s6:=s5.trans st6
 clear hbig hsmall X5 A5 B5 O5 E5 hN5 st6 s5 M6
 generalize ext (labR N) w5.heap.size 9=lab6 at *
 refine .inr ⟨_,_,_,rfl,?_⟩
 refine ZHp (lab:=lab6) (c:=1) rfl rfl (fun w7 st7 D7=>?_)
 have X7:=X6.stp st7 (fun h=>h)
 have A7:=A6.stp st7 (fun h=>h)
 have B7:=B6.stp st7 (fun h=>h)
 have O7:=O6.stp st7 (fun h=>h)
 have E7:=E6.stp st7 (fun h=>h)
 have s7:=s6.trans st7
 have hSM7:∀m,ZB0 w6 lab6 9 0 l m→ZB0 w7 (ext lab6 w6.heap.size 1) 9 0 l m:=fun m h=>h.stp st7 (fun h=>h) (fun h=>h)
 clear X6 A6 B6 O6 E6 s6 st7
 generalize w6.heap.size=dS at *
 generalize ext lab6 dS 1=lab7 at *
 refine ZBf E7 rfl (fun w8 st8 E8=>?_)
 have X8:=X7.stp st8 (by decide)
 have A8:=A7.stp st8 (by decide)
 have B8:=B7.stp st8 (by decide)
 have O8:=O7.stp st8 (by decide)
 have D8:=D7.stp st8 (by decide)
 have s8:Stp SA w (labR N) w8 lab7:=(s7.mono (fun _ h=>h.elim)).trans (st8.mono (fun _ h=>.inr (.inl h)))
 have hSM8:∀m,ZB0 w6 lab6 9 0 l m→ZB0 w8 lab7 9 0 l m:=fun m h=>(hSM7 m h).stp st8 (by decide) (by decide)
 clear X7 A7 B7 O7 E7 D7 s7 st8 hSM7
 refine ⟨_,E8.blk.rd1 rfl,fun hne=>?_,fun h0=>?_⟩
 ·obtain ⟨rfl,hl⟩:=hcase.resolve_right (fun h=>hne h.1)
  rintro _ rfl
  have st9:Stp NoS w8 lab7 w8.drew lab7:=Stp.drew NoS w8 lab7
  have E9:=E8.stp st9 (fun h=>h)
  have O9:=O8.stp st9 (fun h=>h)
  refine ⟨_,E9.blk.rd1 rfl,ZBf O9 rfl (fun w10 st10 O10=>?_)⟩
  have E10:=E9.stp st10 (by decide)
  refine ⟨E10.blk.rd1 rfl,ZBf E10 rfl (fun w11 st11 E11=>?_)⟩
  have O11:=O10.stp st11 (by decide)
  refine ⟨_,_,_,O11.blk.rd1 rfl,_,E11.blk.rd1 rfl,fin ([],162) _ _ _ (((s8.trans (st9.mono (fun _ h=>h.elim))).trans (st10.mono (fun _ h=>.inr (.inr (.inl h))))).trans (st11.mono (fun _ h=>.inr (.inl h)))) (by unfold Z2l; rw [if_pos hl]) (fun M=>Z2f.none_ M)⟩
 ·obtain ⟨rfl,hl4,rfl,mS,rfl,hSM⟩:=hcase.resolve_left (fun h=>by rw [h.1] at h0; exact absurd h0 (by decide))
  have SM8:=hSM8 mS hSM
  clear hSM hSM8 hcase
  refine ⟨hashA least,A8.blk.rowAll (ZB _),hashA most,B8.blk.rowAll (ZB _),?_⟩
  refine (ZAg hl hm).mono ?_
  rintro _ w9 ⟨oa,ka,ob,kb,rfl,M9,ra,rb,na,nb⟩
  have st9:Stp NoS w8 lab7 w9 (ext lab7 w8.heap.size 6):=Stp.of_nob M9 6
  have ca:CBy w9 (ext lab7 w8.heap.size 6) 6 oa (nibbles least):=⟨ra,fun _ d hd=>ext_new (na d hd)⟩
  have cb:CBy w9 (ext lab7 w8.heap.size 6) 6 ob (nibbles most):=⟨rb,fun _ d hd=>ext_new (nb d hd)⟩
  have X9:=X8.stp st9 (fun h=>h)
  have O9:=O8.stp st9 (fun h=>h)
  have E9:=E8.stp st9 (fun h=>h)
  have D9:=D8.stp st9 (fun h=>h)
  have SM9:=SM8.stp st9 (fun h=>h) (fun h=>h)
  have s9:=s8.trans (st9.mono (T:=SA) (fun _ h=>h.elim))
  clear X8 A8 B8 O8 E8 D8 SM8 s8 st9 M9 ra rb na nb
  generalize ext lab7 w8.heap.size 6=lab9 at *
  refine .inr ⟨_,_,_,_,_,_,_,rfl,?_⟩
  refine ZHp (lab:=lab9) (c:=1) rfl rfl (fun w10 st10 S10=>?_)
  have X10:=X9.stp st10 (fun h=>h)
  have O10:=O9.stp st10 (fun h=>h)
  have E10:=E9.stp st10 (fun h=>h)
  have D10:=D9.stp st10 (fun h=>h)
  have SM10:=SM9.stp st10 (fun h=>h) (fun h=>h)
  have ca10:=ca.stp st10 (fun h=>h)
  have cb10:=cb.stp st10 (fun h=>h)
  have s10:=s9.trans (st10.mono (T:=SA) (fun _ h=>h.elim))
  clear X9 O9 E9 D9 SM9 ca cb s9 st10
  generalize w9.heap.size=dP at *
  generalize ext lab9 dP 1=lab10 at *
  have hsp:Z1z most least < 0↔¬Z1z least most≤0:=by
   rw [Z24,← Z92]; omega
  refine ⟨fun hbf=>?_,fun hbt=>?_⟩
  ·have hbf:=of_decide_eq_false hbf
   refine ZBf O10 rfl (fun w11 st11 O11=>?_)
   have E11:=E10.stp st11 (by decide)
   refine ZBf E11 rfl (fun w12 st12 E12=>?_)
   have O12:=O11.stp st12 (by decide)
   refine ⟨_,_,_,O12.blk.rd1 rfl,_,E12.blk.rd1 rfl,fin ([],164) _ _ _ ((s10.trans (st11.mono (fun _ h=>.inr (.inr (.inl h))))).trans (st12.mono (fun _ h=>.inr (.inl h)))) (by unfold Z2l; rw [if_neg (by omega),if_pos (hsp.2 hbf)]) (fun M=>Z2f.none_ M)⟩
  ·have hbt:=of_decide_eq_true hbt
   obtain ⟨w11,hr11,M11,hmap⟩:=Z7n ZBp w10
   refine ⟨_,w11,hr11,_,rfl,?_⟩
   have st11:Stp NoS w10 lab10 w11 (ext lab10 w10.heap.size 2):=Stp.of_nob M11 2
   have cm11:CM (fun _=>True) ZDu w11 (ext lab10 w10.heap.size 2) 2 w10.heap.size ([]:List (H32×Value)):=⟨⟨#[],0,hmap,Go.MapKept.stamped_empty 0,rfl,fun _ h=>by cases h⟩,ext_new (Nat.le_refl _)⟩
   have X11:=X10.stp st11 (fun h=>h)
   have O11:=O10.stp st11 (fun h=>h)
   have E11:=E10.stp st11 (fun h=>h)
   have D11:=D10.stp st11 (fun h=>h)
   have SM11:=SM10.stp st11 (fun h=>h) (fun h=>h)
   have ca11:=ca10.stp st11 (fun h=>h)
   have cb11:=cb10.stp st11 (fun h=>h)
   have S11:=S10.stp st11 (fun h=>h)
   have s11:=s10.trans (st11.mono (T:=SA) (fun _ h=>h.elim))
   clear X10 O10 E10 D10 SM10 ca10 cb10 S10 s10 st11 hr11 M11 hmap
   generalize w10.heap.size=dm at *
   generalize ext lab10 dm 2=lab11 at *
   refine ZHo (lab:=lab11) (c:=1) (fun _=>rfl) (fun w12 st12 MC12=>?_)
   have X12:=X11.stp st12 (fun h=>h)
   have O12:=O11.stp st12 (fun h=>h)
   have E12:=E11.stp st12 (fun h=>h)
   have D12:=D11.stp st12 (fun h=>h)
   have SM12:=SM11.stp st12 (fun h=>h) (fun h=>h)
   have ca12:=ca11.stp st12 (fun h=>h)
   have cb12:=cb11.stp st12 (fun h=>h)
   have S12:=S11.stp st12 (fun h=>h)
   have cm12:=cm11.stp st12 (fun h=>h)
   have s12:=s11.trans (st12.mono (T:=SA) (fun _ h=>h.elim))
   clear X11 O11 E11 D11 SM11 ca11 cb11 S11 cm11 s11 st12
   generalize w11.heap.size=dM at *
   generalize ext lab11 dM 1=lab12 at *
   refine ZHo (lab:=lab12) (c:=1) (fun _=>rfl) (fun w13 st13 F13=>?_)
   have X13:=X12.stp st13 (fun h=>h)
   have O13:=O12.stp st13 (fun h=>h)
   have E13:=E12.stp st13 (fun h=>h)
   have s13:=s12.trans (st13.mono (T:=SA) (fun _ h=>h.elim))
   have I13:RgS l (nibbles least) (nibbles most) dP dS dM dO w12.heap.size mS dm w13 (ext lab12 w12.heap.size 1) [] :=
    ⟨⟨_,_,_,_,S12.stp st13 (fun h=>h),ca12.stp st13 (fun h=>h),cb12.stp st13 (fun h=>h)⟩,D12.stp st13 (fun h=>h),SM12.stp st13 (fun h=>h) (fun h=>h),MC12.stp st13 (fun h=>h),⟨[],cm12.stp st13 (fun h=>h),rfl,fun x hx=>by cases hx⟩,⟨none,0,0,O13,Z4n.nil _ _ _ _⟩,F13,Z79.nil l⟩
   clear X12 O12 E12 D12 SM12 ca12 cb12 S12 cm12 MC12 F13 s12 st13
   generalize w12.heap.size=dF at *
   generalize ext lab12 dF 1=lab13 at *
   refine ⟨hashA root,X13.blk.rowAll (ZB _),?_⟩
   refine (Z6f (A:=fun b=>ext lab13 w13.heap.size 6 b≠6) hr).mono ?_
   rintro _ w14 ⟨L,rfl,M14,hL14⟩
   have st14:Stp NoS w13 lab13 w14 (ext lab13 w13.heap.size 6):=Stp.of_nob M14 6
   have E14:=E13.stp st14 (fun h=>h)
   have I14:=I13.no st14
   have s14:=s13.trans (st14.mono (T:=SA) (fun _ h=>h.elim))
   clear X13 O13 E13 I13 s13 st14 M14
   generalize ext lab13 w13.heap.size 6=lab14 at *
   refine .inr ⟨L,rfl,?_⟩
   rintro d15 w15 ⟨rfl,rfl⟩
   rw [Z7g]
   obtain ⟨w16,hr16,V16,st16⟩:=Z6y hL14
   have E16:=E14.stp st16 (fun h=>h)
   have I16:=I14.no st16
   have s16:=s14.trans (st16.mono (T:=SA) (fun _ h=>h.elim))
   clear E14 I14 s14 st16 hL14
   generalize ext lab14 w14.heap.size 5=lab16 at *
   obtain ⟨_,L16,B16,hL16⟩:=V16
   refine ⟨w16,hr16,_,by rw [Z6]; exact B16.rd1 (ZHy hL16),?_⟩
   have hrr:Z2l l root least most=match visP l (nibbles least) (nibbles most) 66 [] (rootIt root) [] with
     | (s,none)=>(s,0)
     | (_,some e)=>([],e):=by
    unfold Z2l
    exact (if_neg (show ¬l.length > 4096 by omega)).trans (if_neg (fun h=>hsp.1 h hbt))
   have well:∀w' lab' s,Stp SA w (labR N) w' lab'→RgS l (nibbles least) (nibbles most) dP dS dM dO dF mS dm w' lab' s→CB w' lab' 3 dE 40 #[.int .i64 0]→Z2l l root least most=(s,0) →
     ∃o85:Option Addr,∃l86:Nat,∃l87:Nat,World.cell? w' ⟨dO,0,none⟩=some (.slice o85 l86 l87)∧Z1 w' ⟨dO,0,none⟩ (.slice o85 l86 l87)∧∀w88:World,ZA w' ⟨dO,0,none⟩ (.slice o85 l86 l87) w88→Z1 w88 ⟨dE,0,none⟩ (.int .i64 0)∧∀w89:World,ZA w88 ⟨dE,0,none⟩ (.int .i64 0) w89 →
      Z2t Tryz.prog (fun w90=>∃o91:Option Addr,∃l92:Nat,∃l93:Nat,World.cell? w90 ⟨dO,0,none⟩=some (.slice o91 l92 l93)∧∃n94:Int,World.cell? w90 ⟨dE,0,none⟩=some (.int .i64 n94)∧R (.returned (.tuple #[(.slice o91 l92 l93),(.int .i64 n94)])) w90) R [(32,#[(.pointer (some ⟨dE,0,none⟩))]),(31,#[(.pointer (some ⟨dE,0,none⟩)),(.pointer (some ⟨dO,0,none⟩))])] .returning w89:=by
    intro w' lab' s st I E hs
    obtain ⟨o1,n1,k1,q1,q2⟩:=I.outs
    refine ⟨_,_,_,q1.blk.rd1 rfl,ZBf q1 rfl (fun w2 st2 q12=>?_)⟩
    have E2:=E.stp st2 (by decide)
    have q22:=q2.stp st2 (by decide) (by decide)
    refine ZBf E2 rfl (fun w3 st3 E3=>?_)
    have q13:=q12.stp st3 (by decide)
    have q23:=q22.stp st3 (by decide) (by decide)
    obtain ⟨rfl,_⟩:=id q23
    exact ZBb E3.blk ⟨_,_,_,q13.blk.rd1 rfl,_,E3.blk.rd1 rfl,fin (s,0) _ _ _ ((st.trans (st2.mono (fun _ h=>.inr (.inr (.inl h))))).trans (st3.mono (fun _ h=>.inr (.inl h)))) hs (fun M=>⟨M,o1,k1,rfl,q23.row⟩)⟩
   refine ⟨fun hb'=>?_,fun hb'=>?_⟩
   ·have hEx:isE (rootIt root)=false:=by simpa using hb'
    refine ⟨_,I16.f.blk.rd1 rfl,L16,B16.rowAll hL16.size,⟨33,#[],_,rfl,by kernel_rfl,?_⟩⟩
    refine (ZAe hb hl4 66 (k:=0) (o:=none) (path:=[]) I16 hL16 (Z7P hr) hEx (CBy.nil _ _ _ _) (Nat.le_refl _) (fun x hx=>by cases hx) (by simp)).mono ?_
    rintro e w17 ⟨lab17,st17,I17,hb17⟩
    have E17:=E16.stp st17 (by decide)
    have s17:=s16.trans (st17.mono (T:=SA) (fun _ h=>h.elim .inl (fun h=>.inr (.inr h))))
    generalize visP l (nibbles least) (nibbles most) 66 [] (rootIt root) []=res at hrr I17 hb17
    obtain ⟨s,oe⟩:=res
    cases oe with
    | none =>
      obtain rfl:=hb17
      exact .inr ⟨rfl,well w17 lab17 s s17 I17 E17 hrr⟩
    | some er =>
      obtain ⟨rfl,hne⟩:=hb17
      obtain ⟨o1,n1,k1,q1,q2⟩:=I17.outs
      refine .inl ⟨_,rfl,ZAd hne (by omega) E17.blk q1.blk (fun w18 E18 O18 M18=>?_)⟩
      have s18:Stp (fun k=>k=3∨k=7) w17 lab17 w18 (ext lab17 w17.heap.size 5):=Stp.of_mod M18 5 (fun k _ hk=>hk.elim (fun h=>by rw [h]; exact .inl E17.clr) (fun h=>by rw [h]; exact .inr q1.clr))
      exact ⟨_,_,_,O18.rd1 rfl,_,E18.rd1 rfl,fin ([],er) _ _ _ (s17.trans (s18.mono (T:=SA) (fun _ h=>h.elim (fun h=>.inr (.inl h)) (fun h=>.inr (.inr (.inl h)))))) hrr (fun M=>Z2f.none_ M)⟩
   ·have hEx:isE (rootIt root)=true:=by simpa using hb'
    have hvis:visP l (nibbles least) (nibbles most) 66 [] (rootIt root) []=([],none):=by
     have hx:rootIt root=.s []:=by
      unfold rootIt at hEx ⊢
      by_cases he:root=emptyH
      ·rw [if_pos he]
      ·rw [if_neg he] at hEx
       cases root with
       | nil=>cases hr
       | cons y r=>cases hEx
     rw [hx]
     show (if Off (nibbles least) (nibbles most) []∨([]:By)=[] then (([]:RS),(none:Option Int)) else _)=_
     rw [if_pos (.inr rfl)]
    rw [hvis] at hrr
    exact well w16 lab16 [] s16 I16 E16 hrr
end Go.Proofs.YtfghidehlnfdiaaGreat
end
section
namespace Go.Proofs.YtfghidehlnfdiaaGreat
open Go Go.Vcg Go.Trie
section
variable {w:World} {lab:Nat→Nat} {c:Nat}
theorem Z7l {o:Option Addr} {k:Nat} {l:List (By×By)} {h:By} (hN:Z0w w lab c l o l.length) (hh:h.length=32) (hlen:l.length≤2 ^ 40) :
  Calls Tryz.prog Z0L.n #[.slice o l.length k,.agg (hashA h)] w (fun e w'=>Vcg.Mod NoB w w'∧(Z1G l h=none→e=.returned (.tuple #[.slice none 0 0,.bool false])) ∧
   (∀b,Z1G l h=some b→∃ob kb,e=.returned (.tuple #[.slice ob b.length kb,.bool true])∧CBy w lab c ob b∧b.length≤kb)):=by
 refine ZH fun R hR=>Z0L.vc _ _ _ _ _ _ ?_
 unfold Z0L.Vc
 obtain ⟨_,vs,hCR,hNC⟩:=hN
 rintro d2 w1 ⟨rfl,rfl⟩
 have M1:=Mod.alloc (S:=NoB) w (.cells (hashA h) 27)
 have X1:=Blk.new w 27 (hashA h)
 generalize w.heap.size=D at *
 generalize w.alloc (.cells (hashA h) 27)=w1 at *
 refine ⟨fun i w'=>∃j:Nat,i=(j:Int)∧j≤l.length∧Vcg.Mod NoB w w'∧Blk w' D 27 (hashA h)∧Z1G l h=Z1G (l.drop j) h,fun i _=>((l.length:Int) - i).toNat,⟨0,rfl,Nat.zero_le _,M1,X1,by simp⟩,?_⟩
 rintro _ _ w2 ⟨j,rfl,hj,M2,X2,hf⟩
 refine ⟨fun hlt=>?_,fun hge=>?_⟩
 ·have hjl:j < l.length:=by omega
  rintro _ rfl
  have M3:=M2.step_drew
  have X3:=X2.drew
  generalize w2.drew=w3 at *
  obtain ⟨g,f,ob,kb,rfl,hrow,hby,hkb,h32⟩:=ZG9 hNC hCR hjl
  have hgl:g < w.heap.size:=by
   obtain ⟨g',f',ho',hg',_,_⟩:=hCR _ _ ((hNC.2 j hjl).2.1 0 (by omega))
   cases ho'; exact hg'
  have cell:∀i,i < 33→w3.cell? ⟨g,f+j * 33+i,none⟩=(ndA l[j].1 ob l[j].2.length kb)[i]?:=fun i hi=>by
   rw [ZX M3 hgl (fun h=>h),← hrow.2 i hi,Z6]
  have hrow3:ZJ w3 (Addr.add ⟨g,f,none⟩ (Int.toNat (j:Int) * 33)) 32 (hashA l[j].1):=⟨ZB _,fun i hi=>by
   rw [Int.toNat_natCast,Z6,Z6,cell i (by omega),ZCU hi]
   exact (ZF (f:=fun i=>bV (l[j].1.getD i 0)) hi).symm⟩
  have hd:l.drop j=l[j] :: l.drop (j+1):=List.drop_eq_getElem_cons hjl
  refine ⟨_,rfl,⟨by omega,by omega⟩,_,hrow3,_,X3.rowAll (ZB _),_,ZE4 _ _ h32 hh,_,rfl,fun hb=>?_,fun hb=>?_⟩
  ·rw [decide_eq_true_eq] at hb
   refine ⟨_,rfl,⟨by omega,by omega⟩,ob,_,kb,by rw [Int.toNat_natCast,Z6,Z6,cell 32 (by omega),ZCT],hR _ _ ⟨M3,fun hn=>?_,fun b hb'=>?_⟩⟩
   ·rw [hf,hd,Z1G,if_pos hb] at hn; cases hn
   ·rw [hf,hd,Z1G,if_pos hb] at hb'
    cases hb'
    exact ⟨ob,kb,rfl,hby,hkb⟩
  ·rw [decide_eq_false_iff_not] at hb
   refine ⟨⟨j+1,by rw [Z0 (by omega) (by omega)]; omega,hjl,M3,X3,?_⟩,by dsimp only; rw [Z0 (by omega) (by omega)]; omega⟩
   rw [hf,hd,Z1G,if_neg hb]
 ·obtain rfl:j=l.length:=by omega
  rw [List.drop_length] at hf
  exact hR _ _ ⟨M2,fun _=>rfl,fun b hb=>by rw [hf] at hb; cases hb⟩
end
def mkP (o:Option Addr) (n k:Nat) (a b:By):List Value:=Value.slice o n k :: ((hashA a).toList++(hashA b).toList)
def mkA (P:List Value) (u v:Value):Array Value:=(P++[u,v]).toArray
theorem Z2i (o:Option Addr) (n k:Nat) (a b:By):(mkP o n k a b).length=65:=by simp [mkP,ZB]
section
variable {P:List Value} {u v:Value}
theorem Z8b {i:Nat} (h:P.length=65) (hi:i < 65):(mkA P u v)[i]?=P[i]?:=by
 unfold mkA; rw [List.getElem?_toArray,List.getElem?_append_left (by omega)]
theorem ZCS (h:P.length=65):(mkA P u v)[65]?=some u:=by
 unfold mkA; rw [List.getElem?_toArray,List.getElem?_append_right (by omega),h]; rfl
theorem ZG8 (h:P.length=65):(mkA P u v)[66]?=some v:=by
 unfold mkA; rw [List.getElem?_toArray,List.getElem?_append_right (by omega),h]; rfl
theorem ZEJ (h:P.length=65) (z:Value):(mkA P u v).setIfInBounds 65 z=mkA P z v:=by
 unfold mkA; rw [List.setIfInBounds_toArray,List.set_append,if_neg (by omega),h]; rfl
theorem ZEK (h:P.length=65) (z:Value):(mkA P u v).setIfInBounds 66 z=mkA P u z:=by
 unfold mkA; rw [List.setIfInBounds_toArray,List.set_append,if_neg (by omega),h]; rfl
theorem Z9F (h:P.length=65):(mkA P u v).size=67:=by simp [mkA,h]
end
theorem ZHm {o:Option Addr} {n k:Nat} {a b:By} {i:Nat} (hi:i < 32):(mkP o n k a b)[1+i]?=(hashA a)[i]?:=by
 unfold mkP; rw [Nat.add_comm,List.getElem?_cons_succ,List.getElem?_append_left (by rw [Array.length_toList,ZB]; omega),Array.getElem?_toList]
theorem ZHn {o:Option Addr} {n k:Nat} {a b:By} {i:Nat} (hi:i < 32):(mkP o n k a b)[33+i]?=(hashA b)[i]?:=by
 unfold mkP; rw [show 33+i=(32+i)+1 by omega,List.getElem?_cons_succ,List.getElem?_append_right (by rw [Array.length_toList,ZB]; omega),Array.length_toList,ZB,show 32+i - 32=i by omega,Array.getElem?_toList]
def ZD1 (o:Option Int):Int:=o.getD 0
abbrev SM':Nat→Prop:=fun k=>k=7∨k=8
structure MkS (l:RS) (a b:By) (D:Nat) (w:World) (lab:Nat→Nat) (s:RS) (bad:Int):Prop where
 ex:∃ol kl oo n k,CB w lab 7 D 96 (mkA (mkP ol l.length kl a b) (.slice oo n k) (.int .i64 bad))∧Z0w w lab 0 l ol l.length∧Z4n w lab 8 10 s oo n k
 laid:Z79 l s
section
variable {l:RS} {a b:By} {D:Nat} {w w':World} {lab lab':Nat→Nat} {s:RS} {bad:Int}
theorem MkS.stp {S:Nat→Prop} (h:MkS l a b D w lab s bad) (st:Stp S w lab w' lab') (h0:¬S 0) (h7:¬S 7) (h8:¬S 8) (h10:¬S 10):MkS l a b D w' lab' s bad:=by
 obtain ⟨ol,kl,oo,n,k,e1,e2,e3⟩:=h.ex
 exact ⟨⟨ol,kl,oo,n,k,e1.stp st h7,e2.stp st h0,e3.stp st h8 h10⟩,h.laid⟩
theorem MkS.no (h:MkS l a b D w lab s bad) (st:Stp NoS w lab w' lab'):MkS l a b D w' lab' s bad:=h.stp st (fun h=>h) (fun h=>h) (fun h=>h) (fun h=>h)
theorem MkS.rdBad (h:MkS l a b D w lab s bad):World.cell? w (Addr.add ⟨D,0,none⟩ 66)=some (.int .i64 bad):=by
 obtain ⟨ol,kl,oo,n,k,e1,e2,e3⟩:=h.ex
 rw [Z6]; exact e1.blk.rd1 (ZG8 (Z2i ..))
theorem MkS.setBad (h:MkS l a b D w lab s bad) (m:Int):Z1 w (Addr.add ⟨D,0,none⟩ 66) (.int .i64 m)∧∀w1:World,ZA w (Addr.add ⟨D,0,none⟩ 66) (.int .i64 m) w1→Stp SM' w lab w1 lab∧MkS l a b D w1 lab s m:=by
 obtain ⟨ol,kl,oo,n,k,e1,e2,e3⟩:=h.ex
 rw [Z6,Nat.zero_add]
 refine ⟨e1.blk.canSet (by rw [Z9F (Z2i ..)]; omega) rfl,?_⟩
 rintro _ rfl
 have st:Stp (fun k=>k=7) w lab (w.setCell ⟨D,66,none⟩ (.int .i64 m)) lab:=Stp.setCell e1.clr
 have e1':=e1.set 66 (.int .i64 m)
 rw [ZEK (Z2i ..)] at e1'
 exact ⟨st.mono (fun _ h=>.inl h),⟨ol,kl,oo,n,k,e1',e2.stp st (by decide),e3.stp st (by decide) (by decide)⟩,h.laid⟩
end
theorem ZE0 {s:RS} {h:By}:(Z1G s h).isSome=met s h:=by
 induction s with
 | nil=>rfl
 | cons x r ih =>
   unfold Z1G met
   rw [List.any_cons]
   by_cases hx:x.1=h
   ·rw [if_pos hx]; simp [hx]
   ·rw [if_neg hx]
    have:decide (x.1=h)=false:=decide_eq_false hx
    rw [this,Bool.false_or]
    exact ih
theorem Z8R {σ:Type} {go:σ→It→By→σ×Option Int}:∀{l:List (It×By)} {s:σ} {j:Nat} (hj:j < l.length),foldK go s (l.take (j+1))=match foldK go s (l.take j) with
  | (s',none)=>go s' l[j].1 l[j].2
  | (s',some e)=>(s',some e)
 | [],_,_,hj=>absurd hj (by simp)
 | y :: r,s,0,_=>by
   simp only [List.take_succ_cons,List.take_zero,foldK,List.getElem_cons_zero]
   generalize go s y.1 y.2=q
   obtain ⟨s',o⟩:=q
   cases o <;> rfl
 | y :: r,s,j+1,hj=>by
   simp only [List.take_succ_cons,foldK,List.getElem_cons_succ]
   generalize go s y.1 y.2=q
   obtain ⟨s',o⟩:=q
   cases o with
   | none=>exact Z8R (by simpa using hj)
   | some e=>rfl
theorem Z5T {σ:Type} {go:σ→It→By→σ×Option Int} {P:Int→Prop} (hg:∀s y q e,(go s y q).2=some e→P e):∀{l:List (It×By)} {s:σ} {e:Int},(foldK go s l).2=some e→P e
 | [],_,_,h=>by cases h
 | y :: r,s,e,h=>by
   simp only [foldK] at h
   have h1:=hg s y.1 y.2
   generalize go s y.1 y.2=q at h h1
   obtain ⟨s',o⟩:=q
   cases o with
   | none=>exact Z5T hg h
   | some e'=>cases h; exact h1 _ rfl
theorem ZE3 {go:RS→It→By→RS×Option Int} {l s:RS} {h path:By} (hg:∀s y q e,(go s y q).2=some e→e≠0) {e:Int} (he:(Z5A go l s h path).2=some e):e≠0:=by
 unfold Z5A at he
 split at he
 ·cases he; decide
 ·split at he
  ·cases he; decide
  ·split at he
   ·exact Z5T hg he
   ·cases he; decide
theorem Z74 {l:RS} {a b:By}:∀(f:Nat) (s:RS) (x:It) (path:By) (e:Int),(visQ l a b f s x path).2=some e→e≠0
 | 0,_,_,_,_,h=>by cases h
 | f+1,s,.l xs,path,e,h=>by
   simp only [visQ] at h
   split at h
   ·cases h
   ·exact Z5T (Z74 f) h
 | f+1,s,.s k,path,e,h=>by
   simp only [visQ] at h
   split at h
   ·cases h
   ·exact ZE3 (Z74 f) h
end Go.Proofs.YtfghidehlnfdiaaGreat
end
section
namespace Go.Proofs.YtfghidehlnfdiaaGreat
open Go Go.Vcg Go.Trie
def ZDW (l:RS) (a b:By) (D f:Nat):Prop:=∀{w:World} {lab:Nat→Nat} {s:RS} {x:It} {v1 v2 v3:Value} {o:Option Addr} {k:Nat} {path:By},MkS l a b D w lab s 0→ItC (fun b=>lab b≠6) w x v1 v2 v3→Z3D x→CBy w lab 6 o path→path.length≤k→Nib path→66≤f+path.length →
 Calls Tryz.prog ZE.n #[.pointer (some ⟨D,0,none⟩),.agg #[v1,v2,v3],.slice o path.length k] w (fun e w'=>e=.returned (.tuple #[])∧∃lab',Stp SM' w lab w' lab'∧MkS l a b D w' lab' (visQ l (nibbles a) (nibbles b) f s x path).1 (ZD1 (visQ l (nibbles a) (nibbles b) f s x path).2))
section
variable {l:RS} {a b:By} {D f:Nat}
theorem ZFI {w:World} {lab:Nat→Nat} {s:RS} {bad:Int} {bb:Bool} {p1 p2:Option Addr} {q1 r1 q2 r2:Nat} {o:Option Addr} {k n:Nat} (hI:MkS l a b D w lab s bad) (hne:bad≠0) :
  Calls Tryz.prog ZE.n #[.pointer (some ⟨D,0,none⟩),.agg #[.bool bb,.slice p1 q1 r1,.slice p2 q2 r2],.slice o n k] w (fun e w'=>e=.returned (.tuple #[])∧∃lab',Stp SM' w lab w' lab'∧MkS l a b D w' lab' s bad):=by
 refine ZE.vc _ _ _ _ _ _ _ _ _ _ _ _ _ ?_
 unfold ZE.Vc
 rintro d5 w1 ⟨rfl,rfl⟩
 have st1:Stp NoS w lab (w.alloc (.cells #[.bool bb,.slice p1 q1 r1,.slice p2 q2 r2] 111)) (ext lab w.heap.size 5):=Stp.alloc NoS w lab _ 5
 have I1:=hI.no st1
 exact ⟨bad,I1.rdBad,fun _=>⟨rfl,_,st1.mono (fun _ h=>h.elim),I1⟩,fun h=>(hne h).elim⟩
theorem ZE1 {σ:Type} {go:σ→It→By→σ×Option Int} {s:σ} {y:It×By}:foldK go s [y]=go s y.1 y.2:=by
 simp only [foldK]
 generalize go s y.1 y.2=q
 obtain ⟨s',o⟩:=q
 cases o <;> rfl
theorem Z7X (P:ZDW l a b D f) {w:World} {lab:Nat→Nat} {s:RS} {xs:List It} {v1 v2 v3:Value} {o:Option Addr} {k:Nat} {path:By} (hI:MkS l a b D w lab s 0) (hx:ItC (fun b=>lab b≠6) w (.l xs) v1 v2 v3) (hg:Z3D (.l xs)) (hp:CBy w lab 6 o path) (hk:path.length≤k) (hnib:Nib path) (hf:66≤f+1+path.length) (hl:path.length≤64) :
  Calls Tryz.prog ZE.n #[.pointer (some ⟨D,0,none⟩),.agg #[v1,v2,v3],.slice o path.length k] w (fun e w'=>e=.returned (.tuple #[])∧∃lab',Stp SM' w lab w' lab'∧MkS l a b D w' lab' (eachW (visQ l (nibbles a) (nibbles b) f) s xs path).1 (ZD1 (eachW (visQ l (nibbles a) (nibbles b) f) s xs path).2)):=by
 have hx0:=hx
 simp only [ItC] at hx
 obtain ⟨rfl,rfl,p,c,rfl,h4,hcap⟩:=hx
 refine ZH fun R hR=>ZE.vc _ _ _ _ _ _ _ _ _ _ _ _ _ ?_
 unfold ZE.Vc
 rintro d5 w1 ⟨rfl,rfl⟩
 have st1:Stp NoS w lab (w.alloc (.cells #[.bool true,.slice none 0 0,.slice p xs.length c] 111)) (ext lab w.heap.size 5):=Stp.alloc NoS w lab _ 5
 have X1:=CB.new w lab 5 111 #[.bool true,.slice none 0 0,.slice p xs.length c]
 have I1:=hI.no st1
 have P1:=hp.stp st1 (fun h=>h)
 have hx1:=ItC.stp6 hx0 st1 (fun h=>h)
 generalize w.heap.size=E at *
 generalize w.alloc (.cells #[.bool true,.slice none 0 0,.slice p xs.length c] 111)=w1 at *
 generalize ext lab E 5=lab1 at *
 simp only [ItC] at hx1
 obtain ⟨_,_,p',c',hpc,h41,_⟩:=hx1
 cases hpc
 refine ⟨0,I1.rdBad,fun h=>(h rfl).elim,fun _=>⟨fun h=>absurd h (by omega),fun _=>⟨true,X1.blk.rd1 rfl,fun h=>(by cases h),fun _=>⟨_,_,_,by rw [Z6]; exact X1.blk.rd1 rfl,fun h2=>?_,fun h2=>?_⟩⟩⟩⟩
 ·have h2':xs.length=2:=by omega
  obtain ⟨pp,lf,he,hl1,hl2⟩:=hg.two h2'
  obtain ⟨g,f0,u1,u2,u3,rfl,hgs,e1,e2,e3,hi⟩:=h41.get 0 (by omega)
  have h0e:xs.getD 0 (.s [])=xs[0]:=Z1O (by omega)
  have h1e:xs.getD 1 (.s [])=xs[1]:=Z1O (by omega)
  have hm0:xs[0]∈xs:=List.getElem_mem (by omega)
  obtain ⟨gg,hnn,hfine⟩:=hg.node
  cases hq:xs[0] with
  | l ys=>rw [h0e,hq] at he; simp [Z1H] at he
  | s bs =>
    rw [hq] at hi
    simp only [ItC] at hi
    obtain ⟨rfl,⟨ox,cx,rfl,hrx,_⟩,rfl⟩:=hi
    have hbl:bs.length≤2 ^ 20:=by
     have hfx:=hfine.mem hm0
     rw [hq] at hfx
     have:bs.length≤(enc (.s bs)).length:=by
      simp only [enc]
      split
      ·exact Nat.le_refl _
      ·rw [List.length_append]; omega
     have:=hfx.2.2
     omega
    refine ⟨_,_,_,by rw [Z6]; exact X1.blk.rd1 rfl,_,rfl,⟨by decide,by omega⟩,_,_,_,by rw [Z6,Z6]; exact e2,?_⟩
    refine (Z5i hrx hbl).mono ?_
    rintro _ w2 ⟨o',k',rfl,M2,R2,hnew⟩
    have he':=he
    rw [h0e,hq] at he'
    simp only [Z1H] at he'
    have eu:upk bs=(pp,lf,0):=by unfold upk; rw [he']
    rw [eu] at R2 ⊢
    have st2:Stp NoS w1 lab1 w2 (ext lab1 w1.heap.size 6):=Stp.of_nob M2 6
    have I2:=I1.no st2
    have X2:=X1.stp st2 (fun h=>h)
    have P2:=P1.stp st2 (fun h=>h)
    have hx2:=ItC.stp6 (ItC.stp6 hx0 st1 (fun h=>h)) st2 (fun h=>h)
    have st02:=st1.trans st2
    generalize ext lab1 w1.heap.size 6=lab2 at *
    refine ⟨_,_,_,_,_,rfl,fun hlf=>?_,fun hlf=>?_⟩
    ·dsimp only at hlf; subst hlf
     obtain ⟨hpn,hgy,hye⟩:=hl2 rfl
     rintro _ rfl
     have st3:Stp NoS w2 lab2 w2.drew lab2:=Stp.drew NoS w2 lab2
     have I3:=I2.no st3
     have X3:=X2.stp st3 (fun h=>h)
     have P3:=P2.stp st3 (fun h=>h)
     have R3:=R2.mod' (Mod.drew (S:=NoB) w2)
     have hx3:=ItC.stp6 hx2 st3 (fun h=>h)
     have st03:=st02.trans st3
     clear hx2 X2 P2 I2 st02 R2
     generalize w2.drew=w3 at *
     simp only [ItC] at hx3
     obtain ⟨_,_,p',c',hpc,h43,_⟩:=hx3
     cases hpc
     obtain ⟨g',f0',t1,t2,t3,ho,hgs',d1,d2,d3,hi'⟩:=h43.get 1 (by omega)
     cases ho
     obtain ⟨bb,p1,q1,r1,p2,q2,r2,rfl,rfl,rfl⟩:=hi'.vals
     refine ⟨_,_,_,by rw [Z6]; exact X3.blk.rd1 rfl,_,rfl,⟨by decide,by omega⟩,_,_,_,_,_,_,_,by rw [Z6]; exact d1,by rw [Z6,Z6]; exact d2,by rw [Z6,Z6]; exact d3,?_⟩
     obtain ⟨o4,k4,w4,hr4,F4⟩:=Z1N (k2:=k) (ty:=Z07) (Mod.refl w3) P3.rd (by omega)
     have cell:∀{w':World} {g q:Nat} {v:Value},Vcg.Mod NoB w3 w'→w3.cell? ⟨g,q,none⟩=some v→g < w3.heap.size→w'.cell? ⟨g,q,none⟩=some v:=fun M h hb=>by
      rw [ZX M hb (fun h=>h)]; exact h
     have hE3:=X3.blk.lt
     refine ⟨_,w4,hr4,_,_,_,rfl,by rw [Z6]; exact cell F4.mod d1 hgs',by rw [Z6,Z6]; exact cell F4.mod d2 hgs',by rw [Z6,Z6]; exact cell F4.mod d3 hgs',by rw [Z6]; exact cell F4.mod (X3.blk.rd1 rfl) hE3,?_⟩
     obtain ⟨o5,k5,w5,hr5,F5⟩:=Za (ty:=Z07) (k2:=k') F4 (R3.mod' F4.mod) (by have:=ZBt he; show path.length+pp.length≤2 ^ 40; omega)
     refine ⟨_,w5,hr5,_,_,_,rfl,by rw [Z6]; exact cell F5.mod d1 hgs',by rw [Z6,Z6]; exact cell F5.mod d2 hgs',by rw [Z6,Z6]; exact cell F5.mod d3 hgs',by rw [Z6]; exact cell F5.mod (X3.blk.rd1 rfl) hE3,?_⟩
     have st5:Stp NoS w3 lab2 w5 (ext lab2 w3.heap.size 6):=Stp.of_nob F5.mod 6
     have I5:=I3.no st5
     have P5:CBy w5 (ext lab2 w3.heap.size 6) 6 o5 (path++pp):=⟨ZQ F5,fun _ d hd=>ext_new (F5.new d.block ⟨d,hd,rfl⟩)⟩
     have hi5:=ItC.stp6 hi' st5 (fun h=>h)
     rw [h1e] at hgy
     have hppl:0 < pp.length:=List.length_pos_iff.2 hpn
     have hlen:(path++pp).length=path.length+pp.length:=List.length_append
     have hc:=P (k:=k5) I5 hi5 hgy P5 (by rw [hlen]; exact F5.own.cap.1) (fun x hx=>(List.mem_append.1 hx).elim (hnib x) (ZCW he x)) (by omega)
     rw [hlen] at hc
     refine hc.mono ?_
     rintro _ w6 ⟨rfl,lab6,st6,I6⟩
     have hev:eachW (visQ l (nibbles a) (nibbles b) f) s xs path=visQ l (nibbles a) (nibbles b) f s xs[1] (path++pp):=by
      unfold eachW subsOf
      rw [if_pos h2',he]
      simp only
      rw [ZE1,h1e]
     rw [← hev] at I6
     exact ⟨rfl,hR _ _ ⟨rfl,lab6,(st03.trans st5).mono (T:=SM') (fun _ h=>h.elim) |>.trans st6,I6⟩⟩
    ·dsimp only at hlf; subst hlf
     have hev:eachW (visQ l (nibbles a) (nibbles b) f) s xs path=(s,none):=by
      unfold eachW subsOf
      rw [if_pos h2',he]
      rfl
     rw [hev] at hR
     exact hR _ _ ⟨rfl,lab2,st02.mono (fun _ h=>h.elim),I2⟩
 ·obtain ⟨h17,⟨v16,hv16⟩,hkids⟩:=hg.many (by omega)
  have hsub:subsOf xs path=(List.range 16).map fun j=>(xs.getD j (.s []),path++[UInt8.ofNat j]):=by unfold subsOf; rw [if_neg (by omega)]
  have hsl:(subsOf xs path).length=16:=by rw [hsub]; simp
  have hsj:∀j (hj:j < 16),(subsOf xs path)[j]'(by omega)=(xs[j]'(by omega),path++[UInt8.ofNat j]):=fun j hj=>by
   simp only [hsub,List.getElem_map,List.getElem_range]
   rw [Z1O (by omega)]
  refine ⟨fun i w'=>∃(j:Nat) (lab':Nat→Nat),i=(j:Int)∧j≤16∧Stp SM' w1 lab1 w' lab'∧MkS l a b D w' lab' (foldK (visQ l (nibbles a) (nibbles b) f) s ((subsOf xs path).take j)).1 (ZD1 (foldK (visQ l (nibbles a) (nibbles b) f) s ((subsOf xs path).take j)).2),fun i _=>((16:Int) - i).toNat,⟨0,lab1,rfl,Nat.zero_le _,Stp.refl _ _ _,I1⟩,?_⟩
  rintro _ _ w2 ⟨j,lab2,rfl,hj,st2,I2⟩
  refine ⟨fun hlt=>?_,fun hge=>?_⟩
  ·have hj16:j < 16:=by omega
   rintro _ rfl
   have st3:Stp NoS w2 lab2 w2.drew lab2:=Stp.drew NoS w2 lab2
   have I3:=I2.no st3
   have st13:=st2.trans (st3.mono (fun _ h=>h.elim))
   have X3:=X1.stp st13 (by decide)
   have P3:=P1.stp st13 (by decide)
   have hx3:=ItC.stp6 (ItC.stp6 hx0 st1 (fun h=>h)) st13 (by decide)
   clear I2 st2 st3
   generalize w2.drew=w3 at *
   simp only [ItC] at hx3
   obtain ⟨_,_,p',c',hpc,h43,_⟩:=hx3
   cases hpc
   obtain ⟨g,f0,u1,u2,u3,rfl,hgs,d1,d2,d3,hi⟩:=h43.get j (by omega)
   obtain ⟨bb,p1,q1,r1,p2,q2,r2,rfl,rfl,rfl⟩:=hi.vals
   rw [Nat.zero_add] at d1 d2 d3
   have hE3:=X3.blk.lt
   have cell:∀{w':World} {g q:Nat} {v:Value},Vcg.Mod NoB w3 w'→w3.cell? ⟨g,q,none⟩=some v→g < w3.heap.size→w'.cell? ⟨g,q,none⟩=some v:=fun M h hb=>by
    rw [ZX M hb (fun h=>h)]; exact h
   have c1:∀w',Vcg.Mod NoB w3 w'→World.cell? w' (Addr.add ⟨g,f0,none⟩ (Int.toNat (j:Int) * 3))=some (.bool bb):=fun w' M=>by rw [Int.toNat_natCast,Z6]; exact cell M d1 hgs
   have c2:∀w',Vcg.Mod NoB w3 w'→World.cell? w' (Addr.add (Addr.add ⟨g,f0,none⟩ (Int.toNat (j:Int) * 3)) 1)=some (.slice p1 q1 r1):=fun w' M=>by rw [Int.toNat_natCast,Z6,Z6]; exact cell M d2 hgs
   have c3:∀w',Vcg.Mod NoB w3 w'→World.cell? w' (Addr.add (Addr.add ⟨g,f0,none⟩ (Int.toNat (j:Int) * 3)) 2)=some (.slice p2 q2 r2):=fun w' M=>by rw [Int.toNat_natCast,Z6,Z6]; exact cell M d3 hgs
   have c4:∀w',Vcg.Mod NoB w3 w'→World.cell? w' (Addr.add ⟨E,0,none⟩ 2)=some (.slice (some ⟨g,f0,none⟩) xs.length c):=fun w' M=>by rw [Z6]; exact cell M (X3.blk.rd1 rfl) hE3
   have M0:=Mod.refl (S:=NoB) w3
   have kid:∀(w5:World) (o5:Option Addr) (k5:Nat),ZW w3 w5 tU8 1 o5 (path.length+1) k5 ((path++[UInt8.ofNat j]).map bV) →
     Calls Tryz.prog ZE.n #[.pointer (some ⟨D,0,none⟩),.agg #[.bool bb,.slice p1 q1 r1,.slice p2 q2 r2],.slice o5 (path.length+1) k5] w5 (fun e w'=>e=.returned (.tuple #[])∧(∃(j_1:Nat) (lab':Nat→Nat),IntKind.wrap .i64 ((j:Int)+1)=(j_1:Int)∧j_1≤16∧Stp SM' w1 lab1 w' lab'∧MkS l a b D w' lab' (foldK (visQ l (nibbles a) (nibbles b) f) s ((subsOf xs path).take j_1)).1 (ZD1 (foldK (visQ l (nibbles a) (nibbles b) f) s ((subsOf xs path).take j_1)).2))∧((16:Int) - IntKind.wrap .i64 ((j:Int)+1)).toNat < ((16:Int) - (j:Int)).toNat):=by
    intro w5 o5 k5 F5
    have st5:Stp NoS w3 lab2 w5 (ext lab2 w3.heap.size 6):=Stp.of_nob F5.mod 6
    have I5:=I3.no st5
    have P5:CBy w5 (ext lab2 w3.heap.size 6) 6 o5 (path++[UInt8.ofNat j]):=⟨ZQ F5,fun _ d hd=>ext_new (F5.new d.block ⟨d,hd,rfl⟩)⟩
    have hi5:=ItC.stp6 hi st5 (fun h=>h)
    have st15:=st13.trans (st5.mono (fun _ h=>h.elim))
    have ht:=Z8R (go:=visQ l (nibbles a) (nibbles b) f) (s:=s) (l:=subsOf xs path) (j:=j) (by omega)
    rw [hsj j hj16] at ht
    have hw:IntKind.wrap .i64 ((j:Int)+1)=((j+1:Nat):Int):=by rw [Z0 (by omega) (by omega)]; omega
    have herr:∀e,(foldK (visQ l (nibbles a) (nibbles b) f) s ((subsOf xs path).take j)).2=some e→e≠0:=fun e he=>Z5T (Z74 f) he
    generalize foldK (visQ l (nibbles a) (nibbles b) f) s ((subsOf xs path).take j)=q at *
    obtain ⟨s',oe⟩:=q
    cases oe with
    | some er =>
      refine (ZFI I5 (herr er rfl)).mono ?_
      rintro _ w6 ⟨rfl,lab6,st6,I6⟩
      exact ⟨rfl,⟨j+1,lab6,hw,by omega,st15.trans st6,by rw [ht]; exact I6⟩,by rw [hw]; omega⟩
    | none =>
      have hgj:Z3D xs[j]:=by have:=hkids j hj16; rwa [Z1O (by omega)] at this
      have hlen:(path++[UInt8.ofNat j]).length=path.length+1:=by simp
      have hc:=P (k:=k5) I5 hi5 hgj P5 (by rw [hlen]; exact F5.own.cap.1) (fun x hx=>(List.mem_append.1 hx).elim (hnib x) (nib_one hj16 x)) (by omega)
      rw [hlen] at hc
      refine hc.mono ?_
      rintro _ w6 ⟨rfl,lab6,st6,I6⟩
      exact ⟨rfl,⟨j+1,lab6,hw,by omega,st15.trans st6,by rw [ht]; exact I6⟩,by rw [hw]; omega⟩
   refine ⟨_,_,_,c4 _ M0,_,rfl,⟨by omega,by omega⟩,_,_,_,_,_,_,_,c1 _ M0,c2 _ M0,c3 _ M0,?_,?_⟩
   ·obtain ⟨o4,k4,w4,hr4,F4⟩:=Z1N (k2:=k) (ty:=Z07) (Mod.refl w3) P3.rd (by omega)
    refine ⟨_,w4,hr4,_,_,_,rfl,c1 _ F4.mod,c2 _ F4.mod,c3 _ F4.mod,c4 _ F4.mod,?_⟩
    rintro d5 w5 ⟨rfl,rfl⟩
    rw [Z6K hj16]
    have M5:=Mod.alloc (S:=NoB) w4 (.cells #[bV (UInt8.ofNat j)] 5)
    have Z5:RdB (w4.alloc (.cells #[bV (UInt8.ofNat j)] 5)) (some ⟨w4.heap.size,0,none⟩) [UInt8.ofNat j]:=RdB.of_blk (Blk.new w4 5 #[bV (UInt8.ofNat j)]) (fun i hi=>by
     obtain rfl:i=0:=by simpa using hi
     rfl)
    have F5:=F4.mod' M5
    refine ⟨c1 _ F5.mod,c2 _ F5.mod,c3 _ F5.mod,c4 _ F5.mod,?_⟩
    obtain ⟨o6,k6,w6,hr6,F6⟩:=Za (ty:=Z07) (k2:=1) F5 Z5 (by simp; omega)
    exact ⟨_,w6,hr6,_,_,_,rfl,c1 _ F6.mod,c2 _ F6.mod,c3 _ F6.mod,c4 _ F6.mod,kid w6 o6 k6 F6⟩
   ·rintro d5 w5 ⟨rfl,rfl⟩
    rw [Z6K hj16]
    have M5:=Mod.alloc (S:=NoB) w3 (.cells #[bV (UInt8.ofNat j)] 5)
    have Z5:RdB (w3.alloc (.cells #[bV (UInt8.ofNat j)] 5)) (some ⟨w3.heap.size,0,none⟩) [UInt8.ofNat j]:=RdB.of_blk (Blk.new w3 5 #[bV (UInt8.ofNat j)]) (fun i hi=>by
     obtain rfl:i=0:=by simpa using hi
     rfl)
    refine ⟨c1 _ M5,c2 _ M5,c3 _ M5,c4 _ M5,?_⟩
    obtain ⟨o4,k4,w4,hr4,F4⟩:=Z1N (w0:=w3) (k2:=k) (ty:=Z07) M5 (P3.rd.mod' M5) (by omega)
    have hZ:RdB w4 (some ⟨w3.heap.size,0,none⟩) [UInt8.ofNat j]:=by
     obtain ⟨o4',k4',w4',hr4',F4'⟩:=Z1N (k2:=k) (ty:=Z07) (Mod.refl (w3.alloc (.cells #[bV (UInt8.ofNat j)] 5))) (P3.rd.mod' M5) (by omega)
     have e:=hr4'.symm.trans hr4
     cases e
     exact Z5.mod' F4'.mod
    refine ⟨_,w4,hr4,_,_,_,rfl,c1 _ F4.mod,c2 _ F4.mod,c3 _ F4.mod,c4 _ F4.mod,?_⟩
    obtain ⟨o6,k6,w6,hr6,F6⟩:=Za (ty:=Z07) (k2:=1) F4 hZ (by simp; omega)
    exact ⟨_,w6,hr6,_,_,_,rfl,c1 _ F6.mod,c2 _ F6.mod,c3 _ F6.mod,c4 _ F6.mod,kid w6 o6 k6 F6⟩
  ·obtain rfl:j=16:=by omega
   have e:(subsOf xs path).take 16=subsOf xs path:=List.take_of_length_le (by omega)
   rw [e] at I2
   exact hR _ _ ⟨rfl,lab2,(st1.mono (fun _ h=>h.elim)).trans st2,I2⟩
end
end Go.Proofs.YtfghidehlnfdiaaGreat
end
