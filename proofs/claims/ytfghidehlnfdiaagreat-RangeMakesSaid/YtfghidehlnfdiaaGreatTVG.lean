/- Contracts: the head of an item (rlp.reads). -/
/- Contracts: rlp's decoder. -/
/- Contracts: rlp.First, rlp.Decode. -/
/- The verification conditions of some functions, printed by a program of ours (wip/PrintVc.lean). -/
import Derived.Test.YtfghidehlnfdiaaGreatTN1
import Derived.Test.YtfghidehlnfdiaaGreatTVF
import Derived.Test.YtfghidehlnfdiaaGreatProg
import Derived.KernelRfl
set_option linter.unusedVariables false
set_option linter.unusedSimpArgs false
section
namespace Go.Proofs.YtfghidehlnfdiaaGreat
open Go Go.Vcg Go.Trie
section
variable {w:World} {D:Nat} {t:TypeId}
theorem Z8n {a b c v1 v2 v3:Value} {R':World→Prop} (X:Blk w D t #[a,b,c]) (h1:v1.oneCell'=true) (h2:v2.oneCell'=true) (h3:v3.oneCell'=true) (K:∀w',Blk w' D t #[v1,v2,v3]→Vcg.Mod (·=D) w w'→R' w') :
  Z1 w ⟨D,0,none⟩ v1∧∀w1:World,ZA w ⟨D,0,none⟩ v1 w1→Z1 w1 (Addr.add ⟨D,0,none⟩ 1) v2∧∀w2:World,ZA w1 (Addr.add ⟨D,0,none⟩ 1) v2 w2→Z1 w2 (Addr.add ⟨D,0,none⟩ 2) v3∧∀w3:World,ZA w2 (Addr.add ⟨D,0,none⟩ 2) v3 w3→R' w3:=by
 refine ⟨X.canSet (by simp) h1,?_⟩
 rintro _ rfl
 have X1:=X.set 0 v1
 have Q1:Vcg.Mod (·=D) w _:=Mod.setCell w ⟨D,0,none⟩ v1
 rw [Z6,Nat.zero_add]
 refine ⟨X1.canSet (by simp) h2,?_⟩
 rintro _ rfl
 have X2:=X1.set 1 v2
 have Q2:=Q1.step_set (a:=⟨D,1,none⟩) (v:=v2) (fun _=>rfl)
 rw [Z6,Nat.zero_add]
 refine ⟨X2.canSet (by simp) h3,?_⟩
 rintro _ rfl
 have X3:=X2.set 2 v3
 have Q3:=Q2.step_set (a:=⟨D,2,none⟩) (v:=v3) (fun _=>rfl)
 exact K _ X3 Q3
theorem Z81 {b:Bool} {o o2:Option Addr} {l k l2 k2:Nat} {R':Bool→Option Addr→Nat→Nat→Option Addr→Nat→Nat→Prop} (X:Blk w D t #[.bool b,.slice o l k,.slice o2 l2 k2]) (h:R' b o l k o2 l2 k2) :
  ∃b8:Bool,∃o9:Option Addr,∃l10:Nat,∃l11:Nat,∃o12:Option Addr,∃l13:Nat,∃l14:Nat,World.cell? w ⟨D,0,none⟩=some (.bool b8)∧World.cell? w (Addr.add ⟨D,0,none⟩ 1)=some (.slice o9 l10 l11)∧World.cell? w (Addr.add ⟨D,0,none⟩ 2)=some (.slice o12 l13 l14)∧R' b8 o9 l10 l11 o12 l13 l14 :=
 ⟨_,_,_,_,_,_,_,X.rd1 rfl,by rw [Z6]; exact X.rd1 rfl,by rw [Z6]; exact X.rd1 rfl,h⟩
theorem Z1e {a b c:Value} {b1:Bool} {o o2:Option Addr} {l k l2 k2:Nat} {R':Bool→Option Addr→Nat→Nat→Option Addr→Nat→Nat→World→Prop} (X:Blk w D t #[a,b,c]) (K:∀w',Vcg.Mod (·=D) w w'→R' b1 o l k o2 l2 k2 w') :
  Z1 w ⟨D,0,none⟩ (.bool b1)∧∀w1:World,ZA w ⟨D,0,none⟩ (.bool b1) w1→Z1 w1 (Addr.add ⟨D,0,none⟩ 1) (.slice o l k)∧∀w2:World,ZA w1 (Addr.add ⟨D,0,none⟩ 1) (.slice o l k) w2→Z1 w2 (Addr.add ⟨D,0,none⟩ 2) (.slice o2 l2 k2)∧∀w3:World,ZA w2 (Addr.add ⟨D,0,none⟩ 2) (.slice o2 l2 k2) w3 →
   ∃b8:Bool,∃o9:Option Addr,∃l10:Nat,∃l11:Nat,∃o12:Option Addr,∃l13:Nat,∃l14:Nat,World.cell? w3 ⟨D,0,none⟩=some (.bool b8)∧World.cell? w3 (Addr.add ⟨D,0,none⟩ 1)=some (.slice o9 l10 l11)∧World.cell? w3 (Addr.add ⟨D,0,none⟩ 2)=some (.slice o12 l13 l14)∧R' b8 o9 l10 l11 o12 l13 l14 w3 :=
 Z8n X rfl rfl rfl (fun w' X' M=>Z81 X' (K w' M))
theorem ZFe {a b c d e v1 v2 v3 v4 v5:Value} {R':World→Prop} (X:Blk w D t #[a,b,c,d,e]) (h1:v1.oneCell'=true) (h2:v2.oneCell'=true) (h3:v3.oneCell'=true) (h4:v4.oneCell'=true) (h5:v5.oneCell'=true) (K:∀w',Blk w' D t #[v1,v2,v3,v4,v5]→Vcg.Mod (·=D) w w'→R' w') :
  Z1 w ⟨D,0,none⟩ v1∧∀w1:World,ZA w ⟨D,0,none⟩ v1 w1→Z1 w1 (Addr.add ⟨D,0,none⟩ 1) v2∧∀w2:World,ZA w1 (Addr.add ⟨D,0,none⟩ 1) v2 w2→Z1 w2 (Addr.add ⟨D,0,none⟩ 2) v3∧∀w3:World,ZA w2 (Addr.add ⟨D,0,none⟩ 2) v3 w3 →
   Z1 w3 (Addr.add ⟨D,0,none⟩ 3) v4∧∀w4:World,ZA w3 (Addr.add ⟨D,0,none⟩ 3) v4 w4→Z1 w4 (Addr.add ⟨D,0,none⟩ 4) v5∧∀w5:World,ZA w4 (Addr.add ⟨D,0,none⟩ 4) v5 w5→R' w5:=by
 refine ⟨X.canSet (by simp) h1,?_⟩
 rintro _ rfl
 have X1:=X.set 0 v1
 have Q1:Vcg.Mod (·=D) w _:=Mod.setCell w ⟨D,0,none⟩ v1
 rw [Z6,Nat.zero_add]
 refine ⟨X1.canSet (by simp) h2,?_⟩
 rintro _ rfl
 have X2:=X1.set 1 v2
 have Q2:=Q1.step_set (a:=⟨D,1,none⟩) (v:=v2) (fun _=>rfl)
 rw [Z6,Nat.zero_add]
 refine ⟨X2.canSet (by simp) h3,?_⟩
 rintro _ rfl
 have X3:=X2.set 2 v3
 have Q3:=Q2.step_set (a:=⟨D,2,none⟩) (v:=v3) (fun _=>rfl)
 rw [Z6,Nat.zero_add]
 refine ⟨X3.canSet (by simp) h4,?_⟩
 rintro _ rfl
 have X4:=X3.set 3 v4
 have Q4:=Q3.step_set (a:=⟨D,3,none⟩) (v:=v4) (fun _=>rfl)
 rw [Z6,Nat.zero_add]
 refine ⟨X4.canSet (by simp) h5,?_⟩
 rintro _ rfl
 have X5:=X4.set 4 v5
 have Q5:=Q4.step_set (a:=⟨D,4,none⟩) (v:=v5) (fun _=>rfl)
 exact K _ X5 Q5
theorem ZD7 {b b3 b4:Bool} {n1 n2:Int} {R':Bool→Int→Int→Bool→Bool→Prop} (X:Blk w D t #[.bool b,.int .i64 n1,.int .i64 n2,.bool b3,.bool b4]) (h:R' b n1 n2 b3 b4) :
  ∃b8:Bool,∃n9:Int,∃n10:Int,∃b11:Bool,∃b12:Bool,World.cell? w ⟨D,0,none⟩=some (.bool b8)∧World.cell? w (Addr.add ⟨D,0,none⟩ 1)=some (.int .i64 n9)∧World.cell? w (Addr.add ⟨D,0,none⟩ 2)=some (.int .i64 n10)∧World.cell? w (Addr.add ⟨D,0,none⟩ 3)=some (.bool b11)∧World.cell? w (Addr.add ⟨D,0,none⟩ 4)=some (.bool b12)∧R' b8 n9 n10 b11 b12 :=
 ⟨_,_,_,_,_,X.rd1 rfl,by rw [Z6]; exact X.rd1 rfl,by rw [Z6]; exact X.rd1 rfl,by rw [Z6]; exact X.rd1 rfl,by rw [Z6]; exact X.rd1 rfl,h⟩
end
theorem ZHt {n d:Nat} (hn:n < 2 ^ 56) (hd:d < 256):bitsI .or .u64 (IntKind.wrap .u64 ((n:Int) * 256)) (IntKind.wrap .u64 (d:Int))=((n * 256+d:Nat):Int):=by
 have e1:IntKind.wrap .u64 ((n:Int) * 256)=uI (BitVec.ofNat 64 (n * 256)):=by
  rw [Z4l]; simp only [uI,BitVec.toNat_ofNat]; omega
 have e2:IntKind.wrap .u64 (d:Int)=uI (BitVec.ofNat 64 d):=by
  rw [Z4l]; simp only [uI,BitVec.toNat_ofNat]; omega
 rw [e1,e2,Z5O]
 simp only [uI,BitVec.toNat_or,BitVec.toNat_ofNat]
 rw [Nat.mod_eq_of_lt (by omega),Nat.mod_eq_of_lt (by omega)]
 have:=Nat.shiftLeft_add_eq_or_of_lt (i:=8) (b:=d) (by omega) n
 rw [Nat.shiftLeft_eq] at this
 rw [← this]
theorem Z6e {w:World} {a b d base c:Nat} {x v0 v1 v2 v3 v4:Value} (X5:Blk w a 3 #[.int .i64 (c:Int)]) (X15:Blk w b 3 #[x]) (X8:Blk w d 237 #[v0,v1,v2,v3,v4]) (hab:a≠b) (had:a≠d) (hbd:b≠d) (hb:base≤c) (hc:c≤255) :
  Calls Tryz.prog Z1x.n #[.int .i64 (base:Int),.pointer (some ⟨a,0,none⟩),.pointer (some ⟨b,0,none⟩),.pointer (some ⟨d,0,none⟩)] w (fun e w'=>e=.returned (.tuple #[])∧Vcg.Mod (fun q=>q=b∨q=d) w w'∧Blk w' b 3 #[.int .i64 ((c - base - 55:Nat):Int)]∧Blk w' d 237 #[v0,v1,.int .i64 ((c - base:Nat):Int),v3,v4]):=by
 refine Z1x.vc _ _ _ _ _ _ ?_
 unfold Z1x.Vc
 have e1:IntKind.wrap .i64 ((c:Int) - (base:Int))=((c - base:Nat):Int):=by rw [Z0 (by omega) (by omega)]; omega
 have e2:max (IntKind.wrap .i64 ((IntKind.wrap .i64 ((c:Int) - (base:Int))) - 55)) 0=((c - base - 55:Nat):Int):=by
  rw [e1,Z0 (by omega) (by omega)]; omega
 refine ⟨_,X5.rd1 rfl,?_⟩
 rw [e2]
 refine ⟨X15.canSet (by simp) rfl,?_⟩
 rintro _ rfl
 have X15':=X15.set 0 (.int .i64 ((c - base - 55:Nat):Int))
 refine ⟨_,(X5.set_ne (a:=⟨b,0,none⟩) hab).rd1 rfl,?_⟩
 rw [e1,Z6]
 have X8':=X8.set_ne (a:=⟨b,0,none⟩) (v:=.int .i64 ((c - base - 55:Nat):Int)) (Ne.symm hbd)
 refine ⟨X8'.canSet (by simp) rfl,?_⟩
 rintro _ rfl
 refine ⟨rfl,?_,X15'.set_ne (a:=⟨d,0+2,none⟩) hbd,X8'.set 2 _⟩
 exact ((Mod.setCell w ⟨b,0,none⟩ _).mono (fun i _ h=>.inl h)).step_set (fun _=>.inr rfl)
def HdIs (r:Except Int (Bool×Nat×Nat×Bool)) (b1:Bool) (n1 n2:Int) (b2:Bool) (e0:Int):Prop:=match r with
 | .error x=>e0=x∧x≠0
 | .ok (l,a,q,ow)=>b1=l∧n1=(a:Int)∧n2=(q:Int)∧b2=ow∧e0=0
theorem ZDj (bs:By) {j:Nat} (hj:j+1 < bs.length):be ((bs.drop 1).take (j+1))=be ((bs.drop 1).take j) * 256+((bs.drop 1).getD j 0).toNat:=by
 have h:j < (bs.drop 1).length:=by rw [List.length_drop]; omega
 rw [List.take_succ_eq_append_getElem h,ZGK]
 congr 2
 rw [List.getD_eq_getElem?_getD,List.getElem?_eq_getElem h]; rfl
theorem ZBY {w:World} {o:Option Addr} {k:Nat} {bs:By} (hr:RdB w o bs) (hne:bs≠[]) (hk:bs.length≤k) (hl:bs.length≤2 ^ 40) :
  Calls Tryz.prog Z37.n #[.slice o bs.length k] w (fun e w'=>Vcg.Mod NoB w w'∧∃b1 n1 n2 b2 b3 e0,e=.returned (.tuple #[.agg #[.bool b1,.int .i64 n1,.int .i64 n2,.bool b2,.bool b3],.int .i64 e0])∧HdIs (hd bs) b1 n1 n2 b2 e0):=by
 refine ZH fun R hR=>Z37.vc _ _ _ _ _ ?_
 unfold Z37.Vc
 have hbl:1≤bs.length:=List.length_pos_iff.2 hne
 rintro d1 w1 ⟨rfl,rfl⟩
 have M1:Vcg.Mod NoB w _:=Mod.alloc w (.cells #[.bool false,.int .i64 0,.int .i64 0,.bool false,.bool false] 237)
 have X1:=Blk.new w 237 #[.bool false,.int .i64 0,.int .i64 0,.bool false,.bool false]
 have hs1:=ZD w (.cells #[.bool false,.int .i64 0,.int .i64 0,.bool false,.bool false] 237)
 generalize hN1:w.heap.size=N1 at *
 generalize w.alloc (.cells #[.bool false,.int .i64 0,.int .i64 0,.bool false,.bool false] 237)=w1 at *
 obtain ⟨b0,f0,rfl,hb0,hc0⟩:=hr hne
 have cell:∀{w':World},Vcg.Mod NoB w w'→∀i,i < bs.length→w'.cell? ⟨b0,f0+i,none⟩=some (bV (bs.getD i 0)):=fun M i hi=>(ZX M hb0 (fun h=>h)).trans (hc0 i hi)
 generalize hcv:(bs.getD 0 0).toNat=c
 have hc255:c≤255:=by have:=(bs.getD 0 0).toNat_lt; omega
 refine ⟨_,rfl,⟨by omega,by omega⟩,(c:Int),by rw [Z6]; have:=cell M1 0 (by omega); simp only [bV,hcv] at this; exact this,?_⟩
 rintro d5 w2 ⟨rfl,rfl⟩
 have ec:IntKind.wrap .i64 (c:Int)=(c:Int):=Z0 (by omega) (by omega)
 rw [ec]
 have M2:=M1.step_alloc (.cells #[.int .i64 0] 3)
 have X5:=Blk.new w1 3 #[.int .i64 0]
 have hs2:=ZD w1 (.cells #[.int .i64 0] 3)
 have X12:=X1.alloc (.cells #[.int .i64 0] 3)
 generalize hN5:w1.heap.size=N5 at *
 generalize w1.alloc (.cells #[.int .i64 0] 3)=w2 at *
 refine ⟨X5.canSet (by simp) rfl,?_⟩
 rintro _ rfl
 have X53:=X5.set 0 (.int .i64 (c:Int))
 have X13:=X12.set_ne (a:=⟨N5,0,none⟩) (v:=.int .i64 (c:Int)) (by simp; omega)
 have M3:=M2.step_set (a:=⟨N5,0,none⟩) (v:=.int .i64 (c:Int)) (fun h=>by simp at h; omega)
 have hs3:(w2.setCell ⟨N5,0,none⟩ (.int .i64 (c:Int))).heap.size=N5+1:=by rw [Z4W]; exact hs2
 generalize w2.setCell ⟨N5,0,none⟩ (.int .i64 (c:Int))=w3 at *
 rintro d8 w4 ⟨rfl,rfl⟩
 have M4:=M3.step_alloc (.cells #[.bool false,.int .i64 0,.int .i64 0,.bool false,.bool false] 237)
 have X8:=Blk.new w3 237 #[.bool false,.int .i64 0,.int .i64 0,.bool false,.bool false]
 have hs4:=ZD w3 (.cells #[.bool false,.int .i64 0,.int .i64 0,.bool false,.bool false] 237)
 have X14:=X13.alloc (.cells #[.bool false,.int .i64 0,.int .i64 0,.bool false,.bool false] 237)
 have X54:=X53.alloc (.cells #[.bool false,.int .i64 0,.int .i64 0,.bool false,.bool false] 237)
 generalize hN8:w3.heap.size=N8 at *
 generalize w3.alloc (.cells #[.bool false,.int .i64 0,.int .i64 0,.bool false,.bool false] 237)=w4 at *
 refine ZFe X8 rfl rfl rfl rfl rfl (fun w5 X85 Q5=>?_)
 have M5:=M4.trans Q5 (fun i hi h=>by omega)
 have X15:=X14.mod Q5 (by omega)
 have X55:=X54.mod Q5 (by omega)
 have hs5:=Q5.size
 rintro d15 w6 ⟨rfl,rfl⟩
 have M6:=M5.step_alloc (.cells #[.int .i64 0] 3)
 have Xk:=Blk.new w5 3 #[.int .i64 0]
 have X16:=X15.alloc (.cells #[.int .i64 0] 3)
 have X56:=X55.alloc (.cells #[.int .i64 0] 3)
 have X86:=X85.alloc (.cells #[.int .i64 0] 3)
 generalize hNk:w5.heap.size=Nk at *
 generalize w5.alloc (.cells #[.int .i64 0] 3)=w6 at *
 refine ⟨Xk.canSet (by simp) rfl,?_⟩
 rintro _ rfl
 have Xk7:=Xk.set 0 (.int .i64 0)
 have X17:=X16.set_ne (a:=⟨Nk,0,none⟩) (v:=.int .i64 0) (by simp; omega)
 have X57:=X56.set_ne (a:=⟨Nk,0,none⟩) (v:=.int .i64 0) (by simp; omega)
 have X87:=X86.set_ne (a:=⟨Nk,0,none⟩) (v:=.int .i64 0) (by simp; omega)
 have M7:=M6.step_set (a:=⟨Nk,0,none⟩) (v:=.int .i64 0) (fun h=>by simp at h; omega)
 generalize w6.setCell ⟨Nk,0,none⟩ (.int .i64 0)=w7 at *
 clear X12 X13 X14 X15 X16 X5 X53 X54 X55 X56 X8 X85 X86 Xk M1 M2 M3 M4 M5 M6 Q5 X1
 have hhd:hd bs=(if c < 128 then .ok (false,0,1,true) else
   if c - (if c≥192 then 192 else 128)≤55 then .ok (decide (c≥192),1,c - (if c≥192 then 192 else 128),false)
   else if bs.length < 1+(c - (if c≥192 then 192 else 128) - 55) then .error 41
   else if bs.getD 1 0=0∨be ((bs.drop 1).take (c - (if c≥192 then 192 else 128) - 55))≤55∨be ((bs.drop 1).take (c - (if c≥192 then 192 else 128) - 55)) > 2147483648 then .error 40
   else .ok (decide (c≥192),1+(c - (if c≥192 then 192 else 128) - 55),be ((bs.drop 1).take (c - (if c≥192 then 192 else 128) - 55)),false)):=by
  unfold hd
  simp only [hcv]
 generalize hbase:(if c≥192 then 192 else 128)=base at *
 have finish:∀(w':World) (b1:Bool) (n1 n2:Int) (b2 b3:Bool) (e0:Int),Vcg.Mod NoB w w'→HdIs (hd bs) b1 n1 n2 b2 e0→R (.returned (.tuple #[.agg #[.bool b1,.int .i64 n1,.int .i64 n2,.bool b2,.bool b3],.int .i64 e0])) w' :=
  fun w' b1 n1 n2 b2 b3 e0 M h=>hR _ _ ⟨M,b1,n1,n2,b2,b3,e0,rfl,h⟩
 refine ⟨fun w'=>¬c < 128∧Vcg.Mod NoB w w'∧(∃vs:Array Value,Blk w' N1 237 vs∧vs=#[.bool false,.int .i64 0,.int .i64 0,.bool false,.bool false])∧Blk w' N8 237 #[.bool (decide (c≥192)),.int .i64 1,.int .i64 ((c - base:Nat):Int),.bool false,.bool false]∧Blk w' Nk 3 #[.int .i64 ((c - base - 55:Nat):Int)],⟨_,X57.rd1 rfl,fun hc=>?_,fun hc=>⟨_,X57.rd1 rfl,fun h192=>?_,fun h192=>?_⟩⟩,?_⟩
 ·refine ZFe X17 rfl rfl rfl rfl rfl (fun w8 X18 Q8=>ZD7 X18 (finish _ _ _ _ _ _ _ (M7.trans Q8 (fun i hi h=>by omega)) ?_))
  rw [hhd,if_pos (by omega)]
  exact ⟨rfl,rfl,rfl,rfl,rfl⟩
 ·have hb:base=192:=by rw [← hbase,if_pos (by omega)]
  refine ⟨X87.canSet (by simp) rfl,?_⟩
  rintro _ rfl
  have X88:=X87.set 0 (.bool true)
  have X18:=X17.set_ne (a:=⟨N8,0,none⟩) (v:=.bool true) (by simp; omega)
  have X58:=X57.set_ne (a:=⟨N8,0,none⟩) (v:=.bool true) (by simp; omega)
  have Xk8:=Xk7.set_ne (a:=⟨N8,0,none⟩) (v:=.bool true) (by simp; omega)
  have M8:=M7.step_set (a:=⟨N8,0,none⟩) (v:=.bool true) (fun h=>by simp at h; omega)
  refine (Z6e (base:=192) X58 Xk8 X88 (by omega) (by omega) (by omega) (by omega) hc255).mono ?_
  rintro _ w9 ⟨rfl,Q9,Xk9,X89⟩
  refine ⟨rfl,by omega,M8.trans Q9 (fun i hi h=>by omega),⟨_,X18.mod Q9 (by omega),rfl⟩,?_,?_⟩
  ·rw [hb,decide_eq_true (by omega:c≥192)]; exact X89
  ·rw [hb]; exact Xk9
 ·have hb:base=128:=by rw [← hbase,if_neg (by omega)]
  refine (Z6e (base:=128) X57 Xk7 X87 (by omega) (by omega) (by omega) (by omega) hc255).mono ?_
  rintro _ w9 ⟨rfl,Q9,Xk9,X89⟩
  refine ⟨rfl,by omega,M7.trans Q9 (fun i hi h=>by omega),⟨_,X17.mod Q9 (by omega),rfl⟩,?_,?_⟩
  ·rw [hb,decide_eq_false (by omega:¬c≥192)]; exact X89
  ·rw [hb]; exact Xk9
 ·clear X17 X57 X87 Xk7 M7
  rintro _ w8 ⟨hc,M8,⟨_,X1,rfl⟩,X8,Xk⟩
  rw [if_neg hc] at hhd
  have hb1:128≤base∧base≤c:=by rw [← hbase]; split <;> omega
  have h63:c - base - 55≤8:=by rw [← hbase]; split <;> omega
  refine ⟨_,Xk.rd1 rfl,fun h0=>?_,fun h0=>?_⟩
  ·refine ZD7 X8 (ZFe X1 rfl rfl rfl rfl rfl (fun w9 X19 Q9=>ZD7 X19 (finish _ _ _ _ _ _ _ (M8.trans Q9 (fun i hi h=>by omega)) ?_)))
   rw [hhd,if_pos (by omega)]
   exact ⟨rfl,rfl,rfl,rfl,rfl⟩
  ·rw [if_neg (by omega)] at hhd
   generalize hkk:c - base - 55=kk at *
   have ekk:IntKind.wrap .i64 (1+(kk:Int))=((1+kk:Nat):Int):=by rw [Z0 (by omega) (by omega)]; omega
   refine ⟨_,Xk.rd1 rfl,fun hsh=>?_,fun hsh=>⟨_,Xk.rd1 rfl,?_⟩⟩
   ·rw [ekk] at hsh
    refine ZD7 X8 (ZFe X1 rfl rfl rfl rfl rfl (fun w9 X19 Q9=>ZD7 X19 (finish _ _ _ _ _ _ _ (M8.trans Q9 (fun i hi h=>by omega)) ?_)))
    rw [hhd,if_pos (by omega)]
    exact ⟨rfl,by decide⟩
   ·rw [ekk] at hsh ⊢
    rw [if_neg (by omega)] at hhd
    rw [Int.toNat_natCast,Nat.add_sub_cancel_left]
    have hsub:=(hr.mod' M8).sub (c:=k) (lo:=1) (n:=kk) hk
    have hsl:((bs.drop 1).take kk).length=kk:=by rw [List.length_take,List.length_drop]; omega
    obtain ⟨b',f',ho',hb',hc'⟩:=hsub (by intro e; rw [e] at hsl; simp at hsl; omega)
    refine ⟨⟨by omega,by omega⟩,by omega,fun n j w'=>w'=w8∧∃i:Nat,j=(i:Int)∧i≤kk∧n=((be ((bs.drop 1).take i):Nat):Int),fun _ j _=>((kk:Int) - j).toNat,⟨rfl,0,rfl,Nat.zero_le _,by simp [be]⟩,?_⟩
    rintro _ _ _ w8 ⟨rfl,i,rfl,hi,rfl⟩
    refine ⟨fun hlt=>?_,fun hge=>?_⟩
    ·have hik:i < kk:=by omega
     have hgt:((bs.drop 1).take kk).getD i 0=(bs.drop 1).getD i 0:=by
      simp only [List.getD_eq_getElem?_getD,List.getElem?_take_of_lt hik]
     have hcell:=hc' i (by omega)
     rw [hgt] at hcell
     refine ⟨_,ho',⟨by omega,by omega⟩,(((bs.drop 1).getD i 0).toNat:Int),by rw [Z6,Int.toNat_natCast]; exact hcell,?_⟩
     have hlt256:=ZHa ((bs.drop 1).take i)
     have hil:((bs.drop 1).take i).length=i:=by rw [List.length_take,List.length_drop]; omega
     rw [hil] at hlt256
     have h56:256 ^ i≤2 ^ 56:=by
      rw [show (256:Nat)=2 ^ 8 from rfl,← Nat.pow_mul]
      exact Nat.pow_le_pow_right (by decide) (by omega)
     rw [ZHt (by omega) (UInt8.toNat_lt _),← ZDj bs (by omega)]
     have ew:IntKind.wrap .i64 ((i:Int)+1)=((i+1:Nat):Int):=by rw [Z0 (by omega) (by omega)]; omega
     rw [ew]
     exact ⟨⟨rfl,i+1,rfl,hik,rfl⟩,by dsimp only; omega⟩
    ·obtain rfl:i=kk:=by omega
     generalize hm:be ((bs.drop 1).take i)=m at *
     have c1:=cell M8 1 (by omega)
     refine ⟨_,rfl,⟨by omega,by omega⟩,((bs.getD 1 0).toNat:Int),by rw [Z6]; exact c1,fun hz=>?_,fun hz=>⟨fun h55=>?_,fun h55=>⟨fun hbig=>?_,fun hbig=>?_⟩⟩⟩
     ·refine ZD7 X8 (ZFe X1 rfl rfl rfl rfl rfl (fun w9 X19 Q9=>ZD7 X19 (finish _ _ _ _ _ _ _ (M8.trans Q9 (fun i hi h=>by omega)) ?_)))
      have:bs.getD 1 0=0:=UInt8.toNat_inj.1 (by simpa using hz)
      rw [hhd,if_pos (.inl this)]
      exact ⟨rfl,by decide⟩
     ·refine ZD7 X8 (ZFe X1 rfl rfl rfl rfl rfl (fun w9 X19 Q9=>ZD7 X19 (finish _ _ _ _ _ _ _ (M8.trans Q9 (fun i hi h=>by omega)) ?_)))
      rw [hhd,if_pos (.inr (.inl (by omega)))]
      exact ⟨rfl,by decide⟩
     ·refine ZD7 X8 (ZFe X1 rfl rfl rfl rfl rfl (fun w9 X19 Q9=>ZD7 X19 (finish _ _ _ _ _ _ _ (M8.trans Q9 (fun i hi h=>by omega)) ?_)))
      rw [hhd,if_pos (.inr (.inr (by omega)))]
      exact ⟨rfl,by decide⟩
     ·refine ⟨_,Xk.rd1 rfl,?_⟩
      have em:IntKind.wrap .i64 (m:Int)=(m:Int):=Z0 (by omega) (by omega)
      rw [ekk,em,Z6,Z6]
      refine ⟨X8.canSet (by simp) rfl,?_⟩
      rintro _ rfl
      have X81:=X8.set 1 (.int .i64 ((1+i:Nat):Int))
      refine ⟨X81.canSet (by simp) rfl,?_⟩
      rintro _ rfl
      have X82:=X81.set 2 (.int .i64 (m:Int))
      have M10:=(M8.step_set (a:=⟨N8,1,none⟩) (v:=.int .i64 ((1+i:Nat):Int)) (fun h=>by simp at h; omega)).step_set (a:=⟨N8,2,none⟩) (v:=.int .i64 (m:Int)) (fun h=>by simp at h; omega)
      have X11:=(X1.set_ne (a:=⟨N8,1,none⟩) (v:=.int .i64 ((1+i:Nat):Int)) (by simp; omega)).set_ne (a:=⟨N8,2,none⟩) (v:=.int .i64 (m:Int)) (by simp; omega)
      refine ZD7 X82 (ZFe X11 rfl rfl rfl rfl rfl (fun w9 X19 Q9=>ZD7 X19 (finish _ _ _ _ _ _ _ (M10.trans Q9 (fun i hi h=>by omega)) ?_)))
      have:¬bs.getD 1 0=0:=fun h=>hz (by rw [h]; rfl)
      rw [hhd,if_neg (fun h=>h.elim this (fun h=>h.elim (fun h=>by omega) (fun h=>by omega)))]
      exact ⟨rfl,rfl,rfl,rfl,rfl⟩
end Go.Proofs.YtfghidehlnfdiaaGreat
end
section
namespace Go.Proofs.YtfghidehlnfdiaaGreat
open Go Go.Vcg Go.Trie
section
variable {A:Nat→Prop} {w w':World} {xs:List It} {o:Option Addr} {l k:Nat}
def Z3N (A:Nat→Prop) (w:World) (xs:List It) (o:Option Addr) (l k:Nat):Prop :=
 l=xs.length∧∃vs,Own w ZFj 3 o l k vs∧∀j (hj:j < xs.length),∃v1 v2 v3,vs[j * 3]?=some v1∧vs[j * 3+1]?=some v2∧vs[j * 3+2]?=some v3∧ItC (fun b=>A b∨OB o b) w xs[j] v1 v2 v3
theorem Z3N.nil (A:Nat→Prop) (w:World):Z3N A w [] none 0 0:=⟨rfl,[],Own.nil _ _ _,fun j hj=>absurd hj (by simp)⟩
theorem Z3N.lt (h:Z3N A w xs o l k):∀b,OB o b→b < w.heap.size:=by
 obtain ⟨_,vs,F,_⟩:=h
 exact fun b hb=>F.lt hb
theorem Z3N.cap (h:Z3N A w xs o l k):l≤k:=by
 obtain ⟨_,vs,F,_⟩:=h
 exact F.cap.1
theorem Z3N.modS {S:Nat→Prop} (h:Z3N A w xs o l k) (M:Vcg.Mod S w w') (hS:∀b,S b→A b) (hO:∀b,OB o b→¬S b):Z3N A w' xs o l k:=by
 obtain ⟨h1,vs,F,h2⟩:=h
 refine ⟨h1,vs,F.mod M hO,fun j hj=>?_⟩
 obtain ⟨v1,v2,v3,a,b,d,e⟩:=h2 j hj
 exact ⟨v1,v2,v3,a,b,d,ItC.modA M (fun b hb=>.inl (hS b hb)) _ e⟩
theorem Z3N.mod' (h:Z3N A w xs o l k) (M:Vcg.Mod NoB w w'):Z3N A w' xs o l k:=h.modS M (fun _ h=>h.elim) (fun _ _ h=>h)
theorem Z3N.push (h:Z3N A w xs o l k) {D:Nat} {x:It} {v1 v2 v3:Value} (B:Blk w D ZFj #[v1,v2,v3]) (hx:ItC (fun b=>A b∨OB o b) w x v1 v2 v3) (hl:xs.length≤2 ^ 20) :
  ∃o' k' w',Sem.run Tryz.prog (builtinV .append #[109,109] 109 #[.slice o l k,.slice (some ⟨D,0,none⟩) 1 1]) w=.ok (.slice o' (l+1) k') w'∧Z3N A w' (xs++[x]) o' (l+1) k'∧Vcg.Mod (OB o) w w'∧(∀b,OB o' b→OB o b∨w.heap.size≤b):=by
 obtain ⟨rfl,vs,F,hv⟩:=h
 obtain ⟨i,hi,hz,hs,hb⟩:=Z2G ZE7
 obtain ⟨b,p1,q1,r1,p2,q2,r2,rfl,rfl,rfl⟩:=hx.vals
 obtain ⟨o',k',w',h1,h2,h3,h4⟩:=Z3U (ty:=109) Z8u hi hz hs rfl F (Z5K Z8u B rfl (by simp [Value.oneCell'])) (by simp only [maxLen]; omega) (by rw [hb]; omega)
 have hlen:vs.length=xs.length * 3:=F.1
 have step:∀{y:It} {v1 v2 v3:Value},ItC (fun b=>A b∨OB o b) w y v1 v2 v3→ItC (fun b=>A b∨OB o' b) w' y v1 v2 v3:=fun hy =>
  ItC.mono (fun b hb=>hb.elim (fun h=>.inl (.inl h)) (fun h=>(h4 b h).elim (fun h=>.inl (.inr h)) .inr)) _ (ItC.modA h3 (fun b h=>.inl (.inr h)) _ (ItC.old _ hy))
 refine ⟨o',k',w',h1,⟨by simp,_,h2,fun j hj=>?_⟩,h3,h4⟩
 rw [List.length_append,List.length_cons,List.length_nil] at hj
 by_cases hjx:j < xs.length
 ·obtain ⟨v1,v2,v3,a,b,d,e⟩:=hv j hjx
  refine ⟨v1,v2,v3,?_,?_,?_,?_⟩
  ·rw [List.getElem?_append_left (by omega)]; exact a
  ·rw [List.getElem?_append_left (by omega)]; exact b
  ·rw [List.getElem?_append_left (by omega)]; exact d
  ·rw [List.getElem_append_left hjx]; exact step e
 ·obtain rfl:j=xs.length:=by omega
  refine ⟨.bool b,.slice p1 q1 r1,.slice p2 q2 r2,?_,?_,?_,?_⟩
  ·rw [List.getElem?_append_right (by omega),hlen,Nat.sub_self]; rfl
  ·rw [List.getElem?_append_right (by omega),hlen,show xs.length * 3+1 - xs.length * 3=1 by omega]; rfl
  ·rw [List.getElem?_append_right (by omega),hlen,show xs.length * 3+2 - xs.length * 3=2 by omega]; rfl
  ·rw [List.getElem_append_right (by omega)]
   simp only [Nat.sub_self,List.getElem_cons_zero]
   exact step hx
theorem Z3N.its (h:Z3N A w xs o l k) (hA:∀b,A b→¬OB o b):Z1k A w xs o 0:=by
 obtain ⟨rfl,vs,F,hv⟩:=h
 refine ZG3 xs 0 (fun j hj=>?_)
 obtain ⟨v1,v2,v3,a,b,d,e⟩:=hv j hj
 obtain ⟨g,ho,hc1⟩:=F.cell a
 obtain ⟨g',ho',hc2⟩:=F.cell b
 obtain ⟨g'',ho'',hc3⟩:=F.cell d
 rw [ho] at ho' ho''
 cases ho'; cases ho''
 rw [Nat.zero_add]
 exact ⟨g,v1,v2,v3,ho,F.lt ⟨_,ho,rfl⟩,fun h=>hA _ h ⟨_,ho,rfl⟩,hc1,hc2,hc3,ItC.mono (fun _ h=>.inl h) _ e⟩
end
theorem ZEG {w:World} {D n depth:Nat} (W:Blk w D 217 #[.int .i64 (n:Int)]) (h:depth > 16∨n=4096) :
  Calls Tryz.prog Zo.n #[.pointer (some ⟨D,0,none⟩),.int .i64 (depth:Int)] w (fun e w'=>e=.returned (.int .i64 43)∧w'=w):=by
 refine Zo.vc _ _ _ _ ?_
 unfold Zo.Vc
 exact ⟨fun _=>⟨rfl,rfl⟩,fun hd=>⟨_,W.rd1 rfl,fun _=>⟨rfl,rfl⟩,fun hn=>by omega⟩⟩
def pre (xs:List It) (r:Except Int (List It×Nat)):Except Int (List It×Nat):=match r with
 | .error e=>.error e
 | .ok (ys,m)=>.ok (xs++ys,m)
theorem ZEW (r:Except Int (List It×Nat)):pre [] r=r:=by cases r <;> rfl
theorem ZEX (xs ys:List It) (r:Except Int (List It×Nat)):pre xs (pre ys r)=pre (xs++ys) r:=by
 cases r <;> simp [pre]
def ZHR (r:Except Int (It×Nat×Nat)) (w:World) (D:Nat) (e:Ending) (w':World):Prop:=match r with
 | .error x=>x≠0∧∃b o1 l1 k1 o2 l2 k2 n1,e=.returned (.tuple #[.agg #[.bool b,.slice o1 l1 k1,.slice o2 l2 k2],.int .i64 n1,.int .i64 x])
 | .ok (x,q,m)=>Blk w' D 217 #[.int .i64 (m:Int)]∧∃v1 v2 v3,e=.returned (.tuple #[.agg #[v1,v2,v3],.int .i64 (q:Int),.int .i64 0])∧ItC (fun b=>b < w.heap.size) w' x v1 v2 v3
theorem ZEp {w:World} {o:Option Addr} {bs:By} {k a q:Nat} (h:RdB w o bs) (hk:bs.length≤k):RdB w (subO o k a 1) ((bs.drop a).take q):=h.sub hk
theorem ZEP {S:Nat→Prop} {o:Option Addr} (h:Off S o) (c n:Nat):Off S (subO o c n 1):=fun d hd=>by
 unfold subO at hd
 split at hd
 ·exact h d hd
 ·cases o with
  | none=>simp at hd
  | some a =>
    simp only [Option.map_some,Option.some.injEq] at hd
    have e:(a.add (n * 1)).block=a.block:=by
     obtain ⟨b,f,s⟩:=a
     simp only [Addr.add]
     split <;> rfl
    rw [← hd,e]
    exact h a rfl
set_option maxHeartbeats 1000000 in
set_option maxRecDepth 10000 in
theorem Z7N:∀(f d n:Nat) (bs:By) {w:World} {D k:Nat} {o:Option Addr},2 * bs.length+1≤f→bs.length≤65536→RdB w o bs→bs.length≤k→Blk w D 217 #[.int .i64 (n:Int)]→(bs≠[]→Off (·=D) o)→n≤4096→d≤20 →
  Calls Tryz.prog Z0g.n #[.pointer (some ⟨D,0,none⟩),.slice o bs.length k,.int .i64 (d:Int)] w (fun e w'=>Vcg.Mod (·=D) w w'∧ZHR (dcd f d n bs) w D e w')
 | 0,_,_,_,_,_,_,_,hf,_,_,_,_,_,_,_=>absurd hf (by omega)
 | f+1,d,n,bs,w,D,k,o,hf,hlen,hr,hk,W,hoff,hn,hd20=>by
   refine ZH fun R hR=>Z0g.vc _ _ _ _ _ _ _ ?_
   unfold Z0g.Vc
   have hD:=W.lt
   rintro d3 w1 ⟨rfl,rfl⟩
   have M1:Vcg.Mod NoB w _:=Mod.alloc w (.cells #[.bool false,.slice none 0 0,.slice none 0 0] 111)
   have X1:=Blk.new w 111 #[.bool false,.slice none 0 0,.slice none 0 0]
   have hs1:=ZD w (.cells #[.bool false,.slice none 0 0,.slice none 0 0] 111)
   have W1:=W.mod' M1
   have hr1:=hr.mod' M1
   generalize hN:w.heap.size=N at *
   generalize w.alloc (.cells #[.bool false,.slice none 0 0,.slice none 0 0] 111)=w1 at *
   have M1':Vcg.Mod (·=D) w w1:=M1.mono (fun _ _ h=>h.elim)
   have bad:∀(w':World) (a b c:Value) (x:Int),Vcg.Mod (·=D) w w'→Blk w' N 111 #[a,b,c]→dcd (f+1) d n bs=.error x→x≠0→∀w'':World,Vcg.Mod (·=N) w' w''→R (.returned (.tuple #[.agg #[.bool false,.slice none 0 0,.slice none 0 0],.int .i64 0,.int .i64 x])) w'':=by
    intro w' a b c x M X hx h0 w'' M'
    refine hR _ _ ⟨M.trans M' (fun i hi h=>by omega),?_⟩
    rw [hx]
    exact ⟨h0,_,_,_,_,_,_,_,_,rfl⟩
   refine ⟨fun h0=>?_,fun h0=>?_⟩
   ·have hb:bs=[]:=List.eq_nil_of_length_eq_zero (by omega)
    exact Z1e X1 (bad w1 _ _ _ 41 M1' X1 (by rw [hb]; exact ZBD f d n) (by decide))
   have hbne:bs≠[]:=by rintro rfl; simp at h0
   by_cases hdn:d > 16∨n=4096
   ·refine (ZEG W1 hdn).mono ?_
    rintro _ w1 ⟨rfl,rfl⟩
    exact ⟨_,rfl,fun _=>Z1e X1 (bad _ _ _ _ 43 M1' X1 (Z6s hbne hdn) (by decide)),fun h=>absurd h (by decide)⟩
   refine (Z5E W1 (by omega) (by omega)).mono ?_
   rintro _ w2 ⟨rfl,M2,W2⟩
   have X2:=X1.mod M2 (by omega)
   have hr2:=hr1.mod M2 (hoff hbne)
   have M02:=M1'.trans M2 (fun i hi h=>h)
   have hs2:=M2.size
   refine ⟨_,rfl,fun h=>(h rfl).elim,fun _=>?_⟩
   refine (ZBY hr2 hbne hk (by omega)).mono ?_
   rintro _ w3 ⟨M3,b1,n1,n2,b2,b3,e0,rfl,hhd⟩
   have X3:=X2.mod' M3
   have W3:=W2.mod' M3
   have hr3:=hr2.mod' M3
   have M03:=M02.none_trans M3
   have hs3:=M3.size
   clear X1 X2 W1 W2 hr1 hr2 M1 M1' M02 M2 M3
   refine ⟨_,_,_,_,_,_,rfl,?_⟩
   rintro d4 w4 ⟨rfl,rfl⟩
   have H4:=Blk.new w3 237 #[.bool false,.int .i64 0,.int .i64 0,.bool false,.bool false]
   have X4:=X3.alloc (.cells #[.bool false,.int .i64 0,.int .i64 0,.bool false,.bool false] 237)
   have W4:=W3.alloc (.cells #[.bool false,.int .i64 0,.int .i64 0,.bool false,.bool false] 237)
   have M4:Vcg.Mod NoB w3 _:=Mod.alloc w3 (.cells #[.bool false,.int .i64 0,.int .i64 0,.bool false,.bool false] 237)
   have hr4:=hr3.mod' M4
   have M04:=M03.none_trans M4
   have hs4:=ZD w3 (.cells #[.bool false,.int .i64 0,.int .i64 0,.bool false,.bool false] 237)
   generalize hH:w3.heap.size=H at *
   generalize w3.alloc (.cells #[.bool false,.int .i64 0,.int .i64 0,.bool false,.bool false] 237)=w4 at *
   refine ZFe H4 rfl rfl rfl rfl rfl (fun w5 H5 Q5=>?_)
   have X5:=X4.mod Q5 (by omega)
   have W5:=W4.mod Q5 (by omega)
   have hr5:RdB w5 o bs:=hr4.mod Q5 (fun e he h=>by
    obtain ⟨bb,ff,ho,hb,_⟩:=hr hbne
    rw [ho] at he; cases he
    simp only at h
    omega)
   have M05:=M04.trans Q5 (fun i hi h=>by omega)
   have hs5:=Q5.size
   clear X3 X4 W3 W4 hr3 hr4 M03 M04 M4 Q5 H4
   have hdec:=ZDr (f:=f) hbne hdn
   cases hh:hd bs with
   | error x =>
     rw [hh] at hhd hdec
     obtain ⟨rfl,hx0⟩:=hhd
     exact ⟨fun _=>Z1e X5 (bad _ _ _ _ _ M05 X5 hdec hx0),fun h=>(hx0 h).elim⟩
   | ok r =>
     obtain ⟨lst,a,q,ow⟩:=r
     rw [hh] at hhd hdec
     simp only at hdec
     obtain ⟨rfl,rfl,rfl,rfl,rfl⟩:=hhd
     obtain ⟨hat1,hat2⟩:=ZGQ hh hbne
     have ha9:a≤bs.length:=by
      cases b2 with
      | true=>have:=(hat1 rfl).2.1; omega
      | false=>exact (hat2 rfl).2.1
     have hq31:=ZCG hh
     refine ⟨fun h=>(h rfl).elim,fun _=>⟨_,by rw [Z6]; exact H5.rd1 rfl,_,by rw [Z6]; exact H5.rd1 rfl,?_⟩⟩
     have e1:IntKind.wrap .i64 ((bs.length:Int) - (a:Int))=((bs.length - a:Nat):Int):=by rw [Z0 (by omega) (by omega)]; omega
     have e2:IntKind.wrap .i64 ((a:Int)+(q:Int))=((a+q:Nat):Int):=by rw [Z0 (by omega) (by omega)]; omega
     rw [e1]
     refine ⟨fun hbig=>?_,fun hbig=>?_⟩
     ·rw [if_pos (by omega)] at hdec
      exact Z1e X5 (bad _ _ _ _ 41 M05 X5 hdec (by decide))
     rw [if_neg (by omega)] at hdec
     refine ⟨_,by rw [Z6]; exact H5.rd1 rfl,_,by rw [Z6]; exact H5.rd1 rfl,_,by rw [Z6]; exact H5.rd1 rfl,?_⟩
     rw [e2]
     simp only [Int.toNat_natCast]
     refine ⟨⟨by omega,by omega⟩,⟨by omega,by omega⟩,_,by rw [Z6]; exact H5.rd1 rfl,_,by rw [Z6]; exact H5.rd1 rfl,_,H5.rd1 rfl,?_⟩
     rw [e2]
     have hin:=ZEp (a:=a) (q:=q) hr5 hk
     have hil:((bs.drop a).take q).length=q:=by rw [List.length_take,List.length_drop]; omega
     have hoffi:Off (fun b=>b=D∨N≤b) (subO o k a 1):=ZEP (fun e he h=>by
      rcases h with h | h
      ·exact hoff hbne e he h
      ·obtain ⟨bb,ff,ho,hb,_⟩:=hr hbne
       rw [ho] at he; cases he
       simp only at h
       omega) k a
     rw [show a+q - a=((bs.drop a).take q).length by omega]
     generalize hI:(bs.drop a).take q=inn at *
     generalize subO o k a 1=oi at *
     have str:∀{w6:World},Vcg.Mod (·=D) w w6→RdB w6 oi inn→Blk w6 N 111 #[.bool false,.slice none 0 0,.slice none 0 0]→Blk w6 D 217 #[.int .i64 ((n+1:Nat):Int)]→dcd (f+1) d n bs=.ok (.s inn,a+q,n+1) →
       Calls Tryz.prog 36 #[(.slice oi inn.length (k - a))] w6 (fun e85 w86=>∃o87:Option Addr,∃l88:Nat,∃l89:Nat,e85=.returned (.slice o87 l88 l89)∧Blk w86 N 111 #[.bool false,.slice none 0 0,.slice none 0 0] ∧
        ∀w':World,Vcg.Mod (·=N) w86 w'→R (.returned (.tuple #[(.agg #[(.bool false),(.slice o87 l88 l89),(.slice none 0 0)]),(.int .i64 ((a+q:Nat):Int)),(.int .i64 0)])) w'):=by
      intro w6 M6 hin6 X6 W6 hd6
      refine (Z2C hin6 (by omega)).mono ?_
      rintro _ w7 ⟨o7,k7,rfl,F7⟩
      refine ⟨_,_,_,rfl,X6.mod' F7.mod,fun w8 M8=>hR _ _ ⟨(M6.none_trans F7.mod).trans M8 (fun i hi h=>by omega),?_⟩⟩
      rw [hd6]
      have hNN:=X6.lt
      have hN7:∀b,OB o7 b→¬b=N:=fun b hb h=>by have:=F7.new b hb; omega
      refine ⟨((W6.mod' F7.mod).mod M8 (by omega)),_,_,_,rfl,?_⟩
      simp only [ItC]
      refine ⟨trivial,⟨o7,k7,rfl,(F7.own.mod M8 hN7).bytes,fun _ dd hdd h=>?_⟩,trivial⟩
      have:=F7.new dd.block ⟨dd,hdd,rfl⟩
      have:=M6.size
      omega
     refine ⟨fun hl=>⟨_,by rw [Z6]; exact H5.rd1 rfl,fun how=>?_,fun how=>?_⟩,fun hl=>?_⟩
     ·refine (Z5d hin).mono ?_
      rintro _ w6 ⟨rfl,rfl⟩
      rw [if_pos hl] at hdec
      refine ⟨_,rfl,fun ho=>?_,fun ho=>?_⟩
      ·rw [if_pos ⟨how,ho⟩] at hdec
       exact Z1e X5 (bad _ _ _ _ 40 M05 X5 hdec (by decide))
      ·rw [if_neg (fun h=>by rw [ho] at h; exact absurd h.2 (by decide))] at hdec
       refine (str M05 hin X5 W5 hdec).mono ?_
       rintro _ w7 ⟨o7,l7,k7,rfl,X7,h7⟩
       exact ⟨_,_,_,rfl,Z1e X7 h7⟩
     ·rw [if_pos hl,if_neg (fun h=>by rw [how] at h; exact absurd h.1 (by decide))] at hdec
      refine (str M05 hin X5 W5 hdec).mono ?_
      rintro _ w7 ⟨o7,l7,k7,rfl,X7,h7⟩
      exact ⟨_,_,_,rfl,Z1e X7 h7⟩
     rw [if_neg (by rw [hl]; decide)] at hdec
     have hof:b2=false:=by
      cases b2 with
      | true=>have:=(hat1 rfl).1; rw [hl] at this; cases this
      | false=>rfl
     have hinl:inn.length < bs.length:=by
      have:=(hat2 hof).1
      omega
     rintro dX w6 ⟨rfl,rfl⟩
     have Y6:=Blk.new w5 111 #[.bool false,.slice none 0 0,.slice none 0 0]
     have M56:Vcg.Mod NoB w5 _:=Mod.alloc w5 (.cells #[.bool false,.slice none 0 0,.slice none 0 0] 111)
     have X6:=X5.mod' M56
     have W6:=W5.mod' M56
     have hin6:=hin.mod' M56
     have M06:=M05.none_trans M56
     have hs6:=ZD w5 (.cells #[.bool false,.slice none 0 0,.slice none 0 0] 111)
     generalize hY:w5.heap.size=Y at *
     generalize w5.alloc (.cells #[.bool false,.slice none 0 0,.slice none 0 0] 111)=w6 at *
     refine Z8n Y6 rfl rfl rfl (fun w7 Y7 Q7=>?_)
     have X7:=X6.mod Q7 (by omega)
     have W7:=W6.mod Q7 (by omega)
     have hin7:RdB w7 oi inn:=by
      by_cases hie:inn=[]
      ·rw [hie]; exact RdB.nil _ _
      ·obtain ⟨bb,ff,ho,hb,_⟩:=hin hie
       refine hin6.mod Q7 (fun e he h=>?_)
       rw [ho] at he; cases he
       simp only at h
       omega
     have M07:=M06.trans Q7 (fun i hi h=>by omega)
     have hs7:=Q7.size
     clear X6 W6 Y6 hin6 M06 M56 Q7 X5 W5 hin M05 H5 str
     refine ⟨fun o' l' k' w'=>∃(rest:By) (n':Nat) (xs:List It) (f':Nat) (ol:Option Addr) (kl:Nat) (v:Value),
      l'=rest.length∧RdB w' o' rest∧Off (fun b=>b=D∨N≤b) o'∧rest.length≤k'∧rest.length≤inn.length∧xs.length+rest.length≤inn.length∧Blk w' D 217 #[.int .i64 (n':Int)]∧n'≤4096 ∧
      Blk w' Y 111 #[.bool true,.slice none 0 0,.slice ol xs.length kl]∧(∃a b c,Blk w' N 111 #[a,b,c])∧Z3N (fun b=>b < w7.heap.size) w' xs ol xs.length kl∧(∀b,OB ol b→w7.heap.size≤b)∧Vcg.Mod (·=D) w w'∧w7.heap.size≤w'.heap.size ∧
      Z80 f (d+1) (n+1) inn=pre xs (Z80 f' (d+1) n' rest)∧2 * rest.length+2≤f'∧f'≤f,fun _ l' _ _=>l',?_,?_⟩
     ·exact ⟨inn,n+1,[],f,none,0,.nilIface,rfl,hin7,hoffi,by omega,Nat.le_refl _,by simp,W7,by omega,by rw [hl] at *; exact Y7,⟨_,_,_,X7⟩,Z3N.nil _ _,fun b hb=>(Z47 b hb).elim,M07,Nat.le_refl _,(ZEW _).symm,by omega,Nat.le_refl _⟩
     ·rintro o8 _ c8 _ w8 ⟨rest,n',xs,f',ol,kl,_,rfl,hr8,hoff8,hc8,hrl,hxr,W8,hn',Y8,⟨xa,xb,xc,X8⟩,I8,hnew,M08,hs8,hde,hf',hff⟩
      refine ⟨fun hpos=>?_,fun hpos=>?_⟩
      ·have hrne:rest≠[]:=by rintro rfl; simp at hpos
       obtain ⟨f2,rfl⟩:∃f2,f'=f2+1:=⟨f' - 1,by omega⟩
       rw [ZBE hrne] at hde
       have ed:IntKind.wrap .i64 ((d:Int)+1)=((d+1:Nat):Int):=by rw [Z0 (by omega) (by omega)]; omega
       rw [ed]
       refine (Z7N f2 (d+1) n' rest (by omega) (by omega) hr8 hc8 W8 (fun _ e he h=>hoff8 e he (.inl h)) hn' (by omega)).mono ?_
       rintro e w9 ⟨M9,hdi⟩
       have hs9:=M9.size
       have Y9:=Y8.mod M9 (by omega)
       have X9:=X8.mod M9 (by omega)
       have I9:=I8.modS M9 (fun b hb=>by omega) (fun b hb h=>by have:=hnew b hb; omega)
       have M09:=M08.trans M9 (fun i hi h=>h)
       have hr9:=hr8.mod M9 (fun e he h=>hoff8 e he (.inl h))
       cases hd1:dcd f2 (d+1) n' rest with
       | error x =>
         rw [hd1] at hdi hde
         obtain ⟨hx0,bb,p1,q1,r1,p2,q2,r2,m1,rfl⟩:=hdi
         refine ⟨_,_,_,_,_,_,_,_,_,rfl,?_⟩
         rintro dA wA ⟨rfl,rfl⟩
         have HA:=Blk.new w9 111 #[.bool false,.slice none 0 0,.slice none 0 0]
         have XA:=X9.alloc (.cells #[.bool false,.slice none 0 0,.slice none 0 0] 111)
         have MA:=M09.step_alloc (.cells #[.bool false,.slice none 0 0,.slice none 0 0] 111)
         refine Z8n HA rfl rfl rfl (fun wB HB QB=>?_)
         have XB:=XA.mod QB (by omega)
         have MB:=MA.trans QB (fun i hi h=>by omega)
         exact ⟨fun _=>Z1e XB (bad _ _ _ _ _ MB XB (by rw [hdec,hde]; rfl) hx0),fun h=>(hx0 h).elim⟩
       | ok r =>
         obtain ⟨y,q',m'⟩:=r
         rw [hd1] at hdi hde
         simp only at hde
         obtain ⟨W9,v1,v2,v3,rfl,hy⟩:=hdi
         obtain ⟨k1,k2,k3,k4,k5,k6⟩:=(Z7H f2 (d+1) n' rest).1 _ _ _ hd1
         obtain ⟨bb,p1,q1,r1,p2,q2,r2,rfl,rfl,rfl⟩:=hy.vals
         refine ⟨_,_,_,_,_,_,_,_,_,rfl,?_⟩
         rintro dA wA ⟨rfl,rfl⟩
         have HA:=Blk.new w9 111 #[.bool false,.slice none 0 0,.slice none 0 0]
         have M9A:Vcg.Mod NoB w9 _:=Mod.alloc w9 (.cells #[.bool false,.slice none 0 0,.slice none 0 0] 111)
         have hsA:=ZD w9 (.cells #[.bool false,.slice none 0 0,.slice none 0 0] 111)
         generalize hHA:w9.heap.size=HH at *
         generalize w9.alloc (.cells #[.bool false,.slice none 0 0,.slice none 0 0] 111)=wA at *
         refine Z8n HA rfl rfl rfl (fun wB HB QB=>?_)
         have M9B:Vcg.Mod NoB w9 wB:=ZM M9A QB (by omega)
         have XB:=X9.mod' M9B
         have YB:=Y9.mod' M9B
         have WB:=W9.mod' M9B
         have hyB:=ItC.mod M9B _ hy
         have hrB:=hr9.mod' M9B
         have IB:=I9.mod' M9B
         have MB:=M09.none_trans M9B
         have hsB:=M9B.size
         clear HA M9A QB X9 Y9 W9 hr9 I9 M09 hy
         refine ⟨fun h=>(h rfl).elim,fun _=>?_⟩
         rintro _ rfl
         have MBC:Vcg.Mod NoB wB wB.drew:=Mod.drew wB
         have XC:=XB.mod' MBC
         have YC:=YB.mod' MBC
         have WC:=WB.mod' MBC
         have HC:=HB.mod' MBC
         have hyC:=ItC.mod MBC _ hyB
         have hrC:=hrB.mod' MBC
         have IC:=IB.mod' MBC
         have MC:=MB.none_trans MBC
         have hsC:=MBC.size
         clear XB YB WB HB hyB hrB IB MB MBC
         generalize wB.drew=wC at *
         refine ⟨_,_,_,by rw [Z6]; exact YC.rd1 rfl,Z81 HC ⟨⟨by omega,by omega⟩,?_⟩⟩
         rintro dD wD ⟨rfl,rfl⟩
         have MD:Vcg.Mod NoB wC _:=Mod.alloc wC (.cells #[.bool bb,.slice p1 q1 r1,.slice p2 q2 r2] 111)
         have E:=Blk.new wC 111 #[.bool bb,.slice p1 q1 r1,.slice p2 q2 r2]
         have XD:=XC.mod' MD
         have YD:=YC.mod' MD
         have WD:=WC.mod' MD
         have hyD:=ItC.mod MD _ hyC
         have hrD:=hrC.mod' MD
         have ID:=IC.mod' MD
         have M0D:=MC.none_trans MD
         have hsD:=MD.size
         clear XC YC WC HC hyC hrC IC MC
         generalize wC.heap.size=HE at *
         generalize wC.alloc (.cells #[.bool bb,.slice p1 q1 r1,.slice p2 q2 r2] 111)=wD at *
         refine ⟨by rw [Z6]; exact YD.rd1 rfl,?_⟩
         have hlt8:=I8.lt
         obtain ⟨o',k',wE,hrun,IE,QE,hOB⟩:=ID.push E (ItC.mono (fun b hb=>by
          rcases hb with h | h
          ·exact Nat.lt_of_lt_of_le h hs8
          ·exact hlt8 b h) _ hyD) (by omega)
         have nE:∀b,OB o' b→w7.heap.size≤b:=fun b hb=>by
          rcases hOB b hb with h | h
          ·exact hnew b h
          ·omega
         have XE:=XD.mod QE (fun h=>by have:=hnew _ h; omega)
         have YE:=YD.mod QE (fun h=>by have:=hnew _ h; omega)
         have WE:=WD.mod QE (fun h=>by have:=hnew _ h; omega)
         have hrE:RdB wE o8 rest:=hrD.mod QE (fun e he h=>hoff8 e he (.inr (by have:=hnew _ h; omega)))
         have M0E:=M0D.trans QE (fun i hi h=>by have:=hnew _ h; omega)
         have hsE:=QE.size
         refine ⟨_,wE,hrun,_,_,_,rfl,?_⟩
         rw [Z6]
         refine ⟨YE.canSet (by simp) rfl,?_⟩
         rintro _ rfl
         have QF:Vcg.Mod (·=Y) wE _:=Mod.setCell wE ⟨Y,0+2,none⟩ (.slice o' (xs.length+1) k')
         have YF:=YE.set 2 (.slice o' (xs.length+1) k')
         have IF:=IE.modS QF (fun b hb=>by omega) (fun b hb h=>by have:=nE b hb; omega)
         have XF:=XE.mod QF (by omega)
         have WF:=WE.mod QF (by omega)
         have hrF:RdB _ o8 rest:=hrE.mod QF (fun e he h=>hoff8 e he (.inr (by omega)))
         have M0F:=M0E.trans QF (fun i hi h=>by omega)
         have hsF:=QF.size
         rw [Int.toNat_natCast]
         refine ⟨⟨rest.drop q',m',xs++[y],f2,o',k',.nilIface,by rw [List.length_drop],Z5r hrF hc8,ZEP hoff8 _ _,by rw [List.length_drop]; omega,by rw [List.length_drop]; omega,by rw [List.length_append,List.length_drop,List.length_singleton]; omega,WF,by omega,by rw [List.length_append,List.length_singleton]; exact YF,⟨_,_,_,XF⟩,by rw [List.length_append,List.length_singleton]; exact IF,nE,M0F,by omega,?_,by rw [List.length_drop]; omega,by omega⟩,by dsimp only; omega⟩
         rw [hde,← ZEX]
         congr 1
      ·obtain rfl:rest=[]:=List.eq_nil_of_length_eq_zero (by omega)
       obtain ⟨f2,rfl⟩:∃f2,f'=f2+1:=⟨f' - 1,by omega⟩
       rw [Z93] at hde
       have hits:=I8.its (fun b hb h=>by have:=hnew b h; omega)
       refine Z81 Y8 (Z1e X8 (fun w9 M9=>hR _ _ ⟨M08.trans M9 (fun i hi h=>by omega),?_⟩))
       rw [hdec,hde]
       simp only [pre,List.append_nil]
       refine ⟨W8.mod M9 (by omega),_,_,_,rfl,?_⟩
       simp only [ItC]
       exact ⟨trivial,trivial,ol,kl,rfl,Z1k.mono (fun b hb=>by omega) _ (Z1k.modA M9 (fun b hb=>by omega) _ hits),I8.cap⟩
end Go.Proofs.YtfghidehlnfdiaaGreat
end
section
namespace Go.Proofs.YtfghidehlnfdiaaGreat
open Go Go.Vcg Go.Trie
def Z3M (bs:By) (w:World) (e:Ending) (w':World):Prop :=
 if bs.length > 65536 then ∃b o1 l1 k1 o2 l2 k2 n1,e=.returned (.tuple #[.agg #[.bool b,.slice o1 l1 k1,.slice o2 l2 k2],.int .i64 n1,.int .i64 44])
 else match dcd (2 * bs.length+1) 1 0 bs with
 | .error x=>x≠0∧∃b o1 l1 k1 o2 l2 k2 n1,e=.returned (.tuple #[.agg #[.bool b,.slice o1 l1 k1,.slice o2 l2 k2],.int .i64 n1,.int .i64 x])
 | .ok (x,q,_)=>∃v1 v2 v3,e=.returned (.tuple #[.agg #[v1,v2,v3],.int .i64 (q:Int),.int .i64 0])∧ItC (fun b=>b < w.heap.size) w' x v1 v2 v3
def Z2V (bs:By) (w:World) (e:Ending) (w':World):Prop:=match Z4c bs with
 | .error x=>x≠0∧∃b o1 l1 k1 o2 l2 k2,e=.returned (.tuple #[.agg #[.bool b,.slice o1 l1 k1,.slice o2 l2 k2],.int .i64 x])
 | .ok x=>∃v1 v2 v3,e=.returned (.tuple #[.agg #[v1,v2,v3],.int .i64 0])∧ItC (fun b=>b < w.heap.size) w' x v1 v2 v3
theorem ZAw {w:World} {o:Option Addr} {k:Nat} {bs:By} (hr:RdB w o bs) (hk:bs.length≤k) :
  Calls Tryz.prog Z36.n #[.slice o bs.length k] w (fun e w'=>Vcg.Mod NoB w w'∧Z3M bs w e w'):=by
 refine ZH fun R hR=>Z36.vc _ _ _ _ _ ?_
 unfold Z36.Vc
 rintro d1 w1 ⟨rfl,rfl⟩
 have M1:Vcg.Mod NoB w _:=Mod.alloc w (.cells #[.bool false,.slice none 0 0,.slice none 0 0] 111)
 have X1:=Blk.new w 111 #[.bool false,.slice none 0 0,.slice none 0 0]
 have hs1:=ZD w (.cells #[.bool false,.slice none 0 0,.slice none 0 0] 111)
 have hr1:=hr.mod' M1
 generalize hN:w.heap.size=N at *
 generalize w.alloc (.cells #[.bool false,.slice none 0 0,.slice none 0 0] 111)=w1 at *
 refine ⟨fun hbig=>?_,fun hbig=>?_⟩
 ·refine Z1e X1 (fun w2 M2=>hR _ _ ⟨ZM M1 M2 (by omega),?_⟩)
  unfold Z3M
  rw [if_pos (by omega)]
  exact ⟨_,_,_,_,_,_,_,_,rfl⟩
 ·rintro d2 w2 ⟨rfl,rfl⟩
  have M12:Vcg.Mod NoB w1 _:=Mod.alloc w1 (.cells #[.int .i64 0] 217)
  have W2:=Blk.new w1 217 #[.int .i64 ((0:Nat):Int)]
  have X2:=X1.mod' M12
  have hr2:=hr1.mod' M12
  have M2:=M1.none_trans M12
  have hs2:=ZD w1 (.cells #[.int .i64 0] 217)
  have hoff:bs≠[]→Off (·=w1.heap.size) o:=fun hne e he h=>by
   obtain ⟨b,f,ho,hb,_⟩:=hr hne
   rw [ho] at he; cases he
   simp only at h
   omega
  have hc:=Z7N (2 * bs.length+1) 1 0 bs (k:=k) (Nat.le_refl _) (by omega) hr2 hk W2 hoff (by omega) (by omega)
  refine Calls.mono (R:=fun e w'=>Vcg.Mod (·=w1.heap.size) (w1.alloc (.cells #[.int .i64 0] 217)) w'∧ZHR (dcd (2 * bs.length+1) 1 0 bs) (w1.alloc (.cells #[.int .i64 0] 217)) w1.heap.size e w') hc ?_
  rintro e w3 ⟨M3,hd⟩
  have M03:Vcg.Mod NoB w w3:=ZM M2 M3 (by omega)
  have X3:=X2.mod M3 (by omega)
  cases hdc:dcd (2 * bs.length+1) 1 0 bs with
  | error x =>
    rw [hdc] at hd
    obtain ⟨hx,b,p1,q1,r1,p2,q2,r2,n1,rfl⟩:=hd
    refine ⟨_,_,_,_,_,_,_,_,_,rfl,Z1e X3 (fun w4 M4=>hR _ _ ⟨ZM M03 M4 (by omega),?_⟩)⟩
    unfold Z3M
    rw [if_neg (by omega),hdc]
    exact ⟨hx,_,_,_,_,_,_,_,_,rfl⟩
  | ok r =>
    obtain ⟨y,q,m⟩:=r
    rw [hdc] at hd
    obtain ⟨W3,v1,v2,v3,rfl,hy⟩:=hd
    obtain ⟨bb,p1,q1,r1,p2,q2,r2,rfl,rfl,rfl⟩:=hy.vals
    refine ⟨_,_,_,_,_,_,_,_,_,rfl,Z1e X3 (fun w4 M4=>hR _ _ ⟨ZM M03 M4 (by omega),?_⟩)⟩
    unfold Z3M
    rw [if_neg (by omega),hdc]
    refine ⟨_,_,_,rfl,ItC.mono (fun b hb=>?_) _ (ItC.modA M4 (fun b hb=>?_) _ hy)⟩
    ·have:b < w.heap.size:=hb
     omega
    ·show b < _
     rw [hs2]; omega
theorem Z6M {w:World} {o:Option Addr} {k:Nat} {bs:By} (hr:RdB w o bs) (hk:bs.length≤k) :
  Calls Tryz.prog Z2K.n #[.slice o bs.length k] w (fun e w'=>Vcg.Mod NoB w w'∧Z2V bs w e w'):=by
 refine ZH fun R hR=>Z2K.vc _ _ _ _ _ ?_
 unfold Z2K.Vc
 rintro d1 w1 ⟨rfl,rfl⟩
 have M1:Vcg.Mod NoB w _:=Mod.alloc w (.cells #[.bool false,.slice none 0 0,.slice none 0 0] 111)
 have X1:=Blk.new w 111 #[.bool false,.slice none 0 0,.slice none 0 0]
 have hs1:=ZD w (.cells #[.bool false,.slice none 0 0,.slice none 0 0] 111)
 have hr1:=hr.mod' M1
 generalize hN:w.heap.size=N at *
 generalize w.alloc (.cells #[.bool false,.slice none 0 0,.slice none 0 0] 111)=w1 at *
 refine (ZAw hr1 hk).mono ?_
 rintro e w2 ⟨M2,hf⟩
 have M02:=M1.none_trans M2
 have X2:=X1.mod' M2
 have hs2:=M2.size
 have bad:∀(w':World) (x:Int),Z4c bs=.error x→x≠0→Vcg.Mod NoB w w'→Blk w' N 111 #[.bool false,.slice none 0 0,.slice none 0 0]→∀w'':World,Vcg.Mod (·=N) w' w''→R (.returned (.tuple #[.agg #[.bool false,.slice none 0 0,.slice none 0 0],.int .i64 x])) w'':=by
  intro w' x hx h0 M X w'' M'
  refine hR _ _ ⟨ZM M M' (by omega),?_⟩
  unfold Z2V
  rw [hx]
  exact ⟨h0,_,_,_,_,_,_,_,rfl⟩
 have key:(∃b p1 q1 r1 p2 q2 r2 n1 x,e=.returned (.tuple #[.agg #[.bool b,.slice p1 q1 r1,.slice p2 q2 r2],.int .i64 n1,.int .i64 x])∧x≠0∧Z4c bs=.error x) ∨
   (∃y q m v1 v2 v3,¬bs.length > 65536∧dcd (2 * bs.length+1) 1 0 bs=.ok (y,q,m)∧e=.returned (.tuple #[.agg #[v1,v2,v3],.int .i64 (q:Int),.int .i64 0])∧ItC (fun b=>b < w1.heap.size) w2 y v1 v2 v3):=by
  unfold Z3M at hf
  split at hf
  ·rename_i hbig
   obtain ⟨b,p1,q1,r1,p2,q2,r2,n1,he⟩:=hf
   exact .inl ⟨_,_,_,_,_,_,_,_,_,he,by decide,by unfold Z4c; rw [if_pos hbig]⟩
  ·rename_i hbig
   split at hf
   ·rename_i x hdc
    obtain ⟨hx,b,p1,q1,r1,p2,q2,r2,n1,he⟩:=hf
    exact .inl ⟨_,_,_,_,_,_,_,_,_,he,hx,by unfold Z4c; rw [if_neg hbig,hdc]⟩
   ·rename_i y q m hdc
    obtain ⟨v1,v2,v3,he,hy⟩:=hf
    exact .inr ⟨_,_,_,_,_,_,hbig,hdc,he,hy⟩
 rcases key with ⟨b,p1,q1,r1,p2,q2,r2,n1,x,rfl,hx,hdc⟩ | ⟨y,q,m,v1,v2,v3,hbig,hdc,rfl,hy⟩
 ·refine ⟨_,_,_,_,_,_,_,_,_,rfl,?_⟩
  rintro d3 w3 ⟨rfl,rfl⟩
  have H:=Blk.new w2 111 #[.bool false,.slice none 0 0,.slice none 0 0]
  have M23:Vcg.Mod NoB w2 _:=Mod.alloc w2 (.cells #[.bool false,.slice none 0 0,.slice none 0 0] 111)
  refine Z8n H rfl rfl rfl (fun w4 H4 Q4=>?_)
  have M24:Vcg.Mod NoB w2 w4:=ZM M23 Q4 (Nat.le_refl _)
  exact ⟨fun _=>Z1e (X2.mod' M24) (bad w4 x hdc hx (M02.none_trans M24) (X2.mod' M24)),fun h=>(hx h).elim⟩
 ·obtain ⟨bb,p1,q1,r1,p2,q2,r2,rfl,rfl,rfl⟩:=hy.vals
  refine ⟨_,_,_,_,_,_,_,_,_,rfl,?_⟩
  rintro d3 w3 ⟨rfl,rfl⟩
  have H:=Blk.new w2 111 #[.bool false,.slice none 0 0,.slice none 0 0]
  have M23:Vcg.Mod NoB w2 _:=Mod.alloc w2 (.cells #[.bool false,.slice none 0 0,.slice none 0 0] 111)
  refine Z8n H rfl rfl rfl (fun w4 H4 Q4=>?_)
  have M24:Vcg.Mod NoB w2 w4:=ZM M23 Q4 (Nat.le_refl _)
  have X4:=X2.mod' M24
  have hy4:=ItC.mod M24 _ hy
  refine ⟨fun h=>(h rfl).elim,fun _=>⟨fun hlt=>?_,fun hlt=>?_⟩⟩
  ·refine Z1e X4 (bad w4 42 ?_ (by decide) (M02.none_trans M24) X4)
   unfold Z4c
   rw [if_neg hbig,hdc]
   simp only
   rw [if_pos (by omega)]
  ·refine Z81 H4 (Z1e X4 (fun w5 M5=>hR _ _ ⟨ZM (M02.none_trans M24) M5 (by omega),?_⟩))
   have hd:Z4c bs=.ok y:=by
    unfold Z4c
    rw [if_neg hbig,hdc]
    simp only
    rw [if_neg (by omega)]
   unfold Z2V
   rw [hd]
   refine ⟨_,_,_,rfl,ItC.mono (fun b hb=>?_) _ (ItC.modA M5 (fun b hb=>?_) _ hy4)⟩
   ·have:b < w.heap.size:=hb
    show b < w1.heap.size
    omega
   ·show b < w1.heap.size
    omega
end Go.Proofs.YtfghidehlnfdiaaGreat
end
section
namespace Go.Proofs.YtfghidehlnfdiaaGreat
open Go Go.Vcg
abbrev Z0F.n:Nat:=60
def Z0F.Vc (o0:Option Addr) (l0 c0:Nat) (w:World) (R:Ending→World→Prop):Prop :=
 ∀d1 w2,ZC w 111 #[(.bool false),(.slice none 0 0),(.slice none 0 0)] d1 w2 →
 Calls Tryz.prog 94 #[(.slice o0 l0 c0)] w2 (fun e3 w4 =>
 ∃b5 o6 l7 l8 o9 l10 l11 n12 n13,e3=.returned (.tuple #[(.agg #[(.bool b5),(.slice o6 l7 l8),(.slice o9 l10 l11)]),(.int .i64 n12),(.int .i64 n13)]) ∧
 ∀d14 w15,ZC w4 111 #[(.bool false),(.slice none 0 0),(.slice none 0 0)] d14 w15 →
 Z1 w15 d14 (.bool b5)∧∀w16,ZA w15 d14 (.bool b5) w16 →
 Z1 w16 (Addr.add d14 1) (.slice o6 l7 l8)∧∀w17,ZA w16 (Addr.add d14 1) (.slice o6 l7 l8) w17 →
 Z1 w17 (Addr.add d14 2) (.slice o9 l10 l11)∧∀w18,ZA w17 (Addr.add d14 2) (.slice o9 l10 l11) w18 →
 (((n13=0 →
 (((n12 < ((l0:Nat):Int) →
 Z1 w18 d1 (.bool false)∧∀w19,ZA w18 d1 (.bool false) w19 →
 Z1 w19 (Addr.add d1 1) (.slice none 0 0)∧∀w20,ZA w19 (Addr.add d1 1) (.slice none 0 0) w20 →
 Z1 w20 (Addr.add d1 2) (.slice none 0 0)∧∀w21,ZA w20 (Addr.add d1 2) (.slice none 0 0) w21 →
 ∃b22 o23 l24 l25 o26 l27 l28,World.cell? w21 d1=some (.bool b22) ∧
 World.cell? w21 (Addr.add d1 1)=some (.slice o23 l24 l25) ∧
 World.cell? w21 (Addr.add d1 2)=some (.slice o26 l27 l28) ∧
 R (.returned (.tuple #[(.agg #[(.bool b22),(.slice o23 l24 l25),(.slice o26 l27 l28)]),(.int .i64 42)])) w21)) ∧
 ((¬n12 < ((l0:Nat):Int) →
 (((n13≠0 →
 Z1 w18 d1 (.bool false)∧∀w29,ZA w18 d1 (.bool false) w29 →
 Z1 w29 (Addr.add d1 1) (.slice none 0 0)∧∀w30,ZA w29 (Addr.add d1 1) (.slice none 0 0) w30 →
 Z1 w30 (Addr.add d1 2) (.slice none 0 0)∧∀w31,ZA w30 (Addr.add d1 2) (.slice none 0 0) w31 →
 ∃b32 o33 l34 l35 o36 l37 l38,World.cell? w31 d1=some (.bool b32) ∧
 World.cell? w31 (Addr.add d1 1)=some (.slice o33 l34 l35) ∧
 World.cell? w31 (Addr.add d1 2)=some (.slice o36 l37 l38) ∧
 R (.returned (.tuple #[(.agg #[(.bool b32),(.slice o33 l34 l35),(.slice o36 l37 l38)]),(.int .i64 n13)])) w31)) ∧
 ((n13=0 →
 ∃b39 o40 l41 l42 o43 l44 l45,World.cell? w18 d14=some (.bool b39) ∧
 World.cell? w18 (Addr.add d14 1)=some (.slice o40 l41 l42) ∧
 World.cell? w18 (Addr.add d14 2)=some (.slice o43 l44 l45) ∧
 Z1 w18 d1 (.bool b39)∧∀w46,ZA w18 d1 (.bool b39) w46 →
 Z1 w46 (Addr.add d1 1) (.slice o40 l41 l42)∧∀w47,ZA w46 (Addr.add d1 1) (.slice o40 l41 l42) w47 →
 Z1 w47 (Addr.add d1 2) (.slice o43 l44 l45)∧∀w48,ZA w47 (Addr.add d1 2) (.slice o43 l44 l45) w48 →
 ∃b49 o50 l51 l52 o53 l54 l55,World.cell? w48 d1=some (.bool b49) ∧
 World.cell? w48 (Addr.add d1 1)=some (.slice o50 l51 l52) ∧
 World.cell? w48 (Addr.add d1 2)=some (.slice o53 l54 l55) ∧
 R (.returned (.tuple #[(.agg #[(.bool b49),(.slice o50 l51 l52),(.slice o53 l54 l55)]),(.int .i64 0)])) w48)))))))) ∧
 ((n13≠0 →
 (((n13≠0 →
 Z1 w18 d1 (.bool false)∧∀w56,ZA w18 d1 (.bool false) w56 →
 Z1 w56 (Addr.add d1 1) (.slice none 0 0)∧∀w57,ZA w56 (Addr.add d1 1) (.slice none 0 0) w57 →
 Z1 w57 (Addr.add d1 2) (.slice none 0 0)∧∀w58,ZA w57 (Addr.add d1 2) (.slice none 0 0) w58 →
 ∃b59 o60 l61 l62 o63 l64 l65,World.cell? w58 d1=some (.bool b59) ∧
 World.cell? w58 (Addr.add d1 1)=some (.slice o60 l61 l62) ∧
 World.cell? w58 (Addr.add d1 2)=some (.slice o63 l64 l65) ∧
 R (.returned (.tuple #[(.agg #[(.bool b59),(.slice o60 l61 l62),(.slice o63 l64 l65)]),(.int .i64 n13)])) w58)) ∧
 ((n13=0 →
 ∃b66 o67 l68 l69 o70 l71 l72,World.cell? w18 d14=some (.bool b66) ∧
 World.cell? w18 (Addr.add d14 1)=some (.slice o67 l68 l69) ∧
 World.cell? w18 (Addr.add d14 2)=some (.slice o70 l71 l72) ∧
 Z1 w18 d1 (.bool b66)∧∀w73,ZA w18 d1 (.bool b66) w73 →
 Z1 w73 (Addr.add d1 1) (.slice o67 l68 l69)∧∀w74,ZA w73 (Addr.add d1 1) (.slice o67 l68 l69) w74 →
 Z1 w74 (Addr.add d1 2) (.slice o70 l71 l72)∧∀w75,ZA w74 (Addr.add d1 2) (.slice o70 l71 l72) w75 →
 ∃b76 o77 l78 l79 o80 l81 l82,World.cell? w75 d1=some (.bool b76) ∧
 World.cell? w75 (Addr.add d1 1)=some (.slice o77 l78 l79) ∧
 World.cell? w75 (Addr.add d1 2)=some (.slice o80 l81 l82) ∧
 R (.returned (.tuple #[(.agg #[(.bool b76),(.slice o77 l78 l79),(.slice o80 l81 l82)]),(.int .i64 0)])) w75)))))))
theorem Z0F.vc (o0:Option Addr) (l0:Nat) (c0:Nat) (w:World) (R:Ending→World→Prop) (h:Z0F.Vc o0 l0 c0 w R):Calls Tryz.prog 60 #[(.slice o0 l0 c0)] w R :=
 Z8 (R:=⟨R,false⟩) (ann:=[]) (args:=[.slice o0 l0 c0]) Tryz.func60 ZR (Eq.mp (by kernel_rfl:Z0F.Vc o0 l0 c0 w R=ZP (pA Tryz.prog ⟨R,false⟩) Tryz.prog [] Tryz.f60 [.slice o0 l0 c0] w) h)

abbrev Z0O.n:Nat:=94
def Z0O.Vc (o0:Option Addr) (l0 c0:Nat) (w:World) (R:Ending→World→Prop):Prop :=
 ∀d1 w2,ZC w 111 #[(.bool false),(.slice none 0 0),(.slice none 0 0)] d1 w2 →
 (((((l0:Nat):Int) > 65536 →
 Z1 w2 d1 (.bool false)∧∀w3,ZA w2 d1 (.bool false) w3 →
 Z1 w3 (Addr.add d1 1) (.slice none 0 0)∧∀w4,ZA w3 (Addr.add d1 1) (.slice none 0 0) w4 →
 Z1 w4 (Addr.add d1 2) (.slice none 0 0)∧∀w5,ZA w4 (Addr.add d1 2) (.slice none 0 0) w5 →
 ∃b6 o7 l8 l9 o10 l11 l12,World.cell? w5 d1=some (.bool b6) ∧
 World.cell? w5 (Addr.add d1 1)=some (.slice o7 l8 l9) ∧
 World.cell? w5 (Addr.add d1 2)=some (.slice o10 l11 l12) ∧
 R (.returned (.tuple #[(.agg #[(.bool b6),(.slice o7 l8 l9),(.slice o10 l11 l12)]),(.int .i64 0),(.int .i64 44)])) w5)) ∧
 ((¬((l0:Nat):Int) > 65536 →
 ∀d13 w14,ZC w2 187 #[(.slice o0 l0 c0),(.int .i64 0),(.int .i64 0)] d13 w14 →
 Calls Tryz.prog 117 #[(.pointer (some d13)),(.int .i64 0),(.int .i64 ((l0:Nat):Int)),(.int .i64 1)] w14 (fun e15 w16 =>
 ∃b17 o18 l19 l20 o21 l22 l23 n24,e15=.returned (.tuple #[(.agg #[(.bool b17),(.slice o18 l19 l20),(.slice o21 l22 l23)]),(.int .i64 n24)]) ∧
 ∀d25 w26,ZC w16 111 #[(.bool false),(.slice none 0 0),(.slice none 0 0)] d25 w26 →
 Z1 w26 d25 (.bool b17)∧∀w27,ZA w26 d25 (.bool b17) w27 →
 Z1 w27 (Addr.add d25 1) (.slice o18 l19 l20)∧∀w28,ZA w27 (Addr.add d25 1) (.slice o18 l19 l20) w28 →
 Z1 w28 (Addr.add d25 2) (.slice o21 l22 l23)∧∀w29,ZA w28 (Addr.add d25 2) (.slice o21 l22 l23) w29 →
 ∃n30,World.cell? w29 (Addr.add d13 2)=some (.int .i64 n30) ∧
 (((n30≠0 →
 ∀w31,ZN w29 w31 →
 ∃n32,World.cell? w31 (Addr.add d13 2)=some (.int .i64 n32) ∧
 Z1 w31 d1 (.bool false)∧∀w33,ZA w31 d1 (.bool false) w33 →
 Z1 w33 (Addr.add d1 1) (.slice none 0 0)∧∀w34,ZA w33 (Addr.add d1 1) (.slice none 0 0) w34 →
 Z1 w34 (Addr.add d1 2) (.slice none 0 0)∧∀w35,ZA w34 (Addr.add d1 2) (.slice none 0 0) w35 →
 World.cell? w35 (Addr.add d13 2)=some (.int .i64 n32) ∧
 ∃b36 o37 l38 l39 o40 l41 l42,World.cell? w35 d1=some (.bool b36) ∧
 World.cell? w35 (Addr.add d1 1)=some (.slice o37 l38 l39) ∧
 World.cell? w35 (Addr.add d1 2)=some (.slice o40 l41 l42) ∧
 R (.returned (.tuple #[(.agg #[(.bool b36),(.slice o37 l38 l39),(.slice o40 l41 l42)]),(.int .i64 0),(.int .i64 n32)])) w35)) ∧
 ((n30=0 →
 ∃b43 o44 l45 l46 o47 l48 l49,World.cell? w29 d25=some (.bool b43) ∧
 World.cell? w29 (Addr.add d25 1)=some (.slice o44 l45 l46) ∧
 World.cell? w29 (Addr.add d25 2)=some (.slice o47 l48 l49) ∧
 Z1 w29 d1 (.bool b43)∧∀w50,ZA w29 d1 (.bool b43) w50 →
 Z1 w50 (Addr.add d1 1) (.slice o44 l45 l46)∧∀w51,ZA w50 (Addr.add d1 1) (.slice o44 l45 l46) w51 →
 Z1 w51 (Addr.add d1 2) (.slice o47 l48 l49)∧∀w52,ZA w51 (Addr.add d1 2) (.slice o47 l48 l49) w52 →
 ∃b53 o54 l55 l56 o57 l58 l59,World.cell? w52 d1=some (.bool b53) ∧
 World.cell? w52 (Addr.add d1 1)=some (.slice o54 l55 l56) ∧
 World.cell? w52 (Addr.add d1 2)=some (.slice o57 l58 l59) ∧
 R (.returned (.tuple #[(.agg #[(.bool b53),(.slice o54 l55 l56),(.slice o57 l58 l59)]),(.int .i64 n24),(.int .i64 0)])) w52)))))))
theorem Z0O.vc (o0:Option Addr) (l0:Nat) (c0:Nat) (w:World) (R:Ending→World→Prop) (h:Z0O.Vc o0 l0 c0 w R):Calls Tryz.prog 94 #[(.slice o0 l0 c0)] w R :=
 Z8 (R:=⟨R,false⟩) (ann:=[]) (args:=[.slice o0 l0 c0]) Tryz.func94 ZR (Eq.mp (by kernel_rfl:Z0O.Vc o0 l0 c0 w R=ZP (pA Tryz.prog ⟨R,false⟩) Tryz.prog [] Tryz.f94 [.slice o0 l0 c0] w) h)

abbrev Zg.n:Nat:=117
def Zg.Vc (d0:Addr) (n1 n2 n3:Int) (w:World) (R:Ending→World→Prop):Prop :=
 ∀d4 w5,ZC w 111 #[(.bool false),(.slice none 0 0),(.slice none 0 0)] d4 w5 →
 (((n1≥n2 →
 Calls Tryz.prog 133 #[(.pointer (some d0)),(.int .i64 41)] w5 (fun e6 w7 =>
 ∃b8 o9 l10 l11 o12 l13 l14 n15,e6=.returned (.tuple #[(.agg #[(.bool b8),(.slice o9 l10 l11),(.slice o12 l13 l14)]),(.int .i64 n15)]) ∧
 Z1 w7 d4 (.bool b8)∧∀w16,ZA w7 d4 (.bool b8) w16 →
 Z1 w16 (Addr.add d4 1) (.slice o9 l10 l11)∧∀w17,ZA w16 (Addr.add d4 1) (.slice o9 l10 l11) w17 →
 Z1 w17 (Addr.add d4 2) (.slice o12 l13 l14)∧∀w18,ZA w17 (Addr.add d4 2) (.slice o12 l13 l14) w18 →
 ∃b19 o20 l21 l22 o23 l24 l25,World.cell? w18 d4=some (.bool b19) ∧
 World.cell? w18 (Addr.add d4 1)=some (.slice o20 l21 l22) ∧
 World.cell? w18 (Addr.add d4 2)=some (.slice o23 l24 l25) ∧
 R (.returned (.tuple #[(.agg #[(.bool b19),(.slice o20 l21 l22),(.slice o23 l24 l25)]),(.int .i64 n15)])) w18))) ∧
 ((¬n1≥n2 →
 (((n3 > 16 →
 Calls Tryz.prog 133 #[(.pointer (some d0)),(.int .i64 43)] w5 (fun e26 w27 =>
 ∃b28 o29 l30 l31 o32 l33 l34 n35,e26=.returned (.tuple #[(.agg #[(.bool b28),(.slice o29 l30 l31),(.slice o32 l33 l34)]),(.int .i64 n35)]) ∧
 Z1 w27 d4 (.bool b28)∧∀w36,ZA w27 d4 (.bool b28) w36 →
 Z1 w36 (Addr.add d4 1) (.slice o29 l30 l31)∧∀w37,ZA w36 (Addr.add d4 1) (.slice o29 l30 l31) w37 →
 Z1 w37 (Addr.add d4 2) (.slice o32 l33 l34)∧∀w38,ZA w37 (Addr.add d4 2) (.slice o32 l33 l34) w38 →
 ∃b39 o40 l41 l42 o43 l44 l45,World.cell? w38 d4=some (.bool b39) ∧
 World.cell? w38 (Addr.add d4 1)=some (.slice o40 l41 l42) ∧
 World.cell? w38 (Addr.add d4 2)=some (.slice o43 l44 l45) ∧
 R (.returned (.tuple #[(.agg #[(.bool b39),(.slice o40 l41 l42),(.slice o43 l44 l45)]),(.int .i64 n35)])) w38))) ∧
 ((¬n3 > 16 →
 ∃n46,World.cell? w5 (Addr.add d0 1)=some (.int .i64 n46) ∧
 (((n46=4096 →
 Calls Tryz.prog 133 #[(.pointer (some d0)),(.int .i64 43)] w5 (fun e47 w48 =>
 ∃b49 o50 l51 l52 o53 l54 l55 n56,e47=.returned (.tuple #[(.agg #[(.bool b49),(.slice o50 l51 l52),(.slice o53 l54 l55)]),(.int .i64 n56)]) ∧
 Z1 w48 d4 (.bool b49)∧∀w57,ZA w48 d4 (.bool b49) w57 →
 Z1 w57 (Addr.add d4 1) (.slice o50 l51 l52)∧∀w58,ZA w57 (Addr.add d4 1) (.slice o50 l51 l52) w58 →
 Z1 w58 (Addr.add d4 2) (.slice o53 l54 l55)∧∀w59,ZA w58 (Addr.add d4 2) (.slice o53 l54 l55) w59 →
 ∃b60 o61 l62 l63 o64 l65 l66,World.cell? w59 d4=some (.bool b60) ∧
 World.cell? w59 (Addr.add d4 1)=some (.slice o61 l62 l63) ∧
 World.cell? w59 (Addr.add d4 2)=some (.slice o64 l65 l66) ∧
 R (.returned (.tuple #[(.agg #[(.bool b60),(.slice o61 l62 l63),(.slice o64 l65 l66)]),(.int .i64 n56)])) w59))) ∧
 ((n46≠4096 →
 ∃n67,World.cell? w5 (Addr.add d0 1)=some (.int .i64 n67) ∧
 Z1 w5 (Addr.add d0 1) (.int .i64 (IntKind.wrap .i64 (n67+1)))∧∀w68,ZA w5 (Addr.add d0 1) (.int .i64 (IntKind.wrap .i64 (n67+1))) w68 →
 ∃o69 l70 l71,World.cell? w68 d0=some (.slice o69 l70 l71) ∧
 ∃d72,o69=some d72 ∧
 ((0:Int)≤n1∧n1 < ((l70:Nat):Int)) ∧
 ∃n73,World.cell? w68 (Addr.add d72 (Int.toNat n1))=some (.int .u8 n73) ∧
 ((((IntKind.wrap .i64 n73) < 128 →
 ∀d74 w75,ZC w68 5 #[(.int .u8 (IntKind.wrap .u8 (IntKind.wrap .i64 n73)))] d74 w75 →
 Z1 w75 d4 (.bool false)∧∀w76,ZA w75 d4 (.bool false) w76 →
 Z1 w76 (Addr.add d4 1) (.slice (some d74) 1 1)∧∀w77,ZA w76 (Addr.add d4 1) (.slice (some d74) 1 1) w77 →
 Z1 w77 (Addr.add d4 2) (.slice none 0 0)∧∀w78,ZA w77 (Addr.add d4 2) (.slice none 0 0) w78 →
 ∃b79 o80 l81 l82 o83 l84 l85,World.cell? w78 d4=some (.bool b79) ∧
 World.cell? w78 (Addr.add d4 1)=some (.slice o80 l81 l82) ∧
 World.cell? w78 (Addr.add d4 2)=some (.slice o83 l84 l85) ∧
 R (.returned (.tuple #[(.agg #[(.bool b79),(.slice o80 l81 l82),(.slice o83 l84 l85)]),(.int .i64 (IntKind.wrap .i64 (n1+1)))])) w78)) ∧
 ((¬(IntKind.wrap .i64 n73) < 128 →
 ∃(J86:Int→World→Prop),(((((IntKind.wrap .i64 n73)≥192 →
 J86 192 w68)) ∧
 ((¬(IntKind.wrap .i64 n73)≥192 →
 J86 128 w68)))) ∧
 (∀(n87:Int) (j88:Nat→Value) (w88:World),J86 n87 w88 →
 ∃(J89:Int→Int→World→Prop),(((((IntKind.wrap .i64 ((IntKind.wrap .i64 n73) - n87)) > 55 →
 ((((IntKind.wrap .i64 ((IntKind.wrap .i64 (n1+1))+(IntKind.wrap .i64 ((IntKind.wrap .i64 ((IntKind.wrap .i64 n73) - n87)) - 55)))) > n2 →
 Calls Tryz.prog 133 #[(.pointer (some d0)),(.int .i64 41)] w88 (fun e90 w91 =>
 ∃b92 o93 l94 l95 o96 l97 l98 n99,e90=.returned (.tuple #[(.agg #[(.bool b92),(.slice o93 l94 l95),(.slice o96 l97 l98)]),(.int .i64 n99)]) ∧
 Z1 w91 d4 (.bool b92)∧∀w100,ZA w91 d4 (.bool b92) w100 →
 Z1 w100 (Addr.add d4 1) (.slice o93 l94 l95)∧∀w101,ZA w100 (Addr.add d4 1) (.slice o93 l94 l95) w101 →
 Z1 w101 (Addr.add d4 2) (.slice o96 l97 l98)∧∀w102,ZA w101 (Addr.add d4 2) (.slice o96 l97 l98) w102 →
 ∃b103 o104 l105 l106 o107 l108 l109,World.cell? w102 d4=some (.bool b103) ∧
 World.cell? w102 (Addr.add d4 1)=some (.slice o104 l105 l106) ∧
 World.cell? w102 (Addr.add d4 2)=some (.slice o107 l108 l109) ∧
 R (.returned (.tuple #[(.agg #[(.bool b103),(.slice o104 l105 l106),(.slice o107 l108 l109)]),(.int .i64 n99)])) w102))) ∧
 ((¬(IntKind.wrap .i64 ((IntKind.wrap .i64 (n1+1))+(IntKind.wrap .i64 ((IntKind.wrap .i64 ((IntKind.wrap .i64 n73) - n87)) - 55)))) > n2 →
 ∃(I110:Int→Int→World→Prop) (μ110:Int→Int→World→Nat),I110 0 0 w88 ∧
 (∀(n111:Int) (n112:Int) (j113:Nat→Value) (w113:World),I110 n111 n112 w113 →
 (((n112 < (IntKind.wrap .i64 ((IntKind.wrap .i64 ((IntKind.wrap .i64 n73) - n87)) - 55)) →
 ∃(J114:Bool→World→Prop),((((n112 < 8 →
 J114 (decide (n111≤2147483648)) w113)) ∧
 ((¬n112 < 8 →
 J114 false w113)))) ∧
 (∀(b115:Bool) (j116:Nat→Value) (w116:World),J114 b115 w116 →
 (((b115=true →
 ∃o117 l118 l119,World.cell? w116 d0=some (.slice o117 l118 l119) ∧
 ∃d120,o117=some d120 ∧
 ((0:Int)≤(IntKind.wrap .i64 ((IntKind.wrap .i64 (n1+1))+n112))∧(IntKind.wrap .i64 ((IntKind.wrap .i64 (n1+1))+n112)) < ((l118:Nat):Int)) ∧
 ∃n121,World.cell? w116 (Addr.add d120 (Int.toNat (IntKind.wrap .i64 ((IntKind.wrap .i64 (n1+1))+n112))))=some (.int .u8 n121) ∧
 I110 (IntKind.wrap .i64 ((IntKind.wrap .i64 (256 * n111))+(IntKind.wrap .i64 n121))) (IntKind.wrap .i64 (n112+1)) w116∧μ110 (IntKind.wrap .i64 ((IntKind.wrap .i64 (256 * n111))+(IntKind.wrap .i64 n121))) (IntKind.wrap .i64 (n112+1)) w116 < μ110 n111 n112 w113)) ∧
 ((b115=false →
 I110 n111 (IntKind.wrap .i64 (n112+1)) w116∧μ110 n111 (IntKind.wrap .i64 (n112+1)) w116 < μ110 n111 n112 w113)))))) ∧
 ((¬n112 < (IntKind.wrap .i64 ((IntKind.wrap .i64 ((IntKind.wrap .i64 n73) - n87)) - 55)) →
 ∃o122 l123 l124,World.cell? w113 d0=some (.slice o122 l123 l124) ∧
 ∃d125,o122=some d125 ∧
 ((0:Int)≤(IntKind.wrap .i64 (n1+1))∧(IntKind.wrap .i64 (n1+1)) < ((l123:Nat):Int)) ∧
 ∃n126,World.cell? w113 (Addr.add d125 (Int.toNat (IntKind.wrap .i64 (n1+1))))=some (.int .u8 n126) ∧
 (((n126=0 →
 Calls Tryz.prog 133 #[(.pointer (some d0)),(.int .i64 40)] w113 (fun e127 w128 =>
 ∃b129 o130 l131 l132 o133 l134 l135 n136,e127=.returned (.tuple #[(.agg #[(.bool b129),(.slice o130 l131 l132),(.slice o133 l134 l135)]),(.int .i64 n136)]) ∧
 Z1 w128 d4 (.bool b129)∧∀w137,ZA w128 d4 (.bool b129) w137 →
 Z1 w137 (Addr.add d4 1) (.slice o130 l131 l132)∧∀w138,ZA w137 (Addr.add d4 1) (.slice o130 l131 l132) w138 →
 Z1 w138 (Addr.add d4 2) (.slice o133 l134 l135)∧∀w139,ZA w138 (Addr.add d4 2) (.slice o133 l134 l135) w139 →
 ∃b140 o141 l142 l143 o144 l145 l146,World.cell? w139 d4=some (.bool b140) ∧
 World.cell? w139 (Addr.add d4 1)=some (.slice o141 l142 l143) ∧
 World.cell? w139 (Addr.add d4 2)=some (.slice o144 l145 l146) ∧
 R (.returned (.tuple #[(.agg #[(.bool b140),(.slice o141 l142 l143),(.slice o144 l145 l146)]),(.int .i64 n136)])) w139))) ∧
 ((n126≠0 →
 (((n111 < 56 →
 Calls Tryz.prog 133 #[(.pointer (some d0)),(.int .i64 40)] w113 (fun e147 w148 =>
 ∃b149 o150 l151 l152 o153 l154 l155 n156,e147=.returned (.tuple #[(.agg #[(.bool b149),(.slice o150 l151 l152),(.slice o153 l154 l155)]),(.int .i64 n156)]) ∧
 Z1 w148 d4 (.bool b149)∧∀w157,ZA w148 d4 (.bool b149) w157 →
 Z1 w157 (Addr.add d4 1) (.slice o150 l151 l152)∧∀w158,ZA w157 (Addr.add d4 1) (.slice o150 l151 l152) w158 →
 Z1 w158 (Addr.add d4 2) (.slice o153 l154 l155)∧∀w159,ZA w158 (Addr.add d4 2) (.slice o153 l154 l155) w159 →
 ∃b160 o161 l162 l163 o164 l165 l166,World.cell? w159 d4=some (.bool b160) ∧
 World.cell? w159 (Addr.add d4 1)=some (.slice o161 l162 l163) ∧
 World.cell? w159 (Addr.add d4 2)=some (.slice o164 l165 l166) ∧
 R (.returned (.tuple #[(.agg #[(.bool b160),(.slice o161 l162 l163),(.slice o164 l165 l166)]),(.int .i64 n156)])) w159))) ∧
 ((¬n111 < 56 →
 (((n111 > 2147483648 →
 Calls Tryz.prog 133 #[(.pointer (some d0)),(.int .i64 40)] w113 (fun e167 w168 =>
 ∃b169 o170 l171 l172 o173 l174 l175 n176,e167=.returned (.tuple #[(.agg #[(.bool b169),(.slice o170 l171 l172),(.slice o173 l174 l175)]),(.int .i64 n176)]) ∧
 Z1 w168 d4 (.bool b169)∧∀w177,ZA w168 d4 (.bool b169) w177 →
 Z1 w177 (Addr.add d4 1) (.slice o170 l171 l172)∧∀w178,ZA w177 (Addr.add d4 1) (.slice o170 l171 l172) w178 →
 Z1 w178 (Addr.add d4 2) (.slice o173 l174 l175)∧∀w179,ZA w178 (Addr.add d4 2) (.slice o173 l174 l175) w179 →
 ∃b180 o181 l182 l183 o184 l185 l186,World.cell? w179 d4=some (.bool b180) ∧
 World.cell? w179 (Addr.add d4 1)=some (.slice o181 l182 l183) ∧
 World.cell? w179 (Addr.add d4 2)=some (.slice o184 l185 l186) ∧
 R (.returned (.tuple #[(.agg #[(.bool b180),(.slice o181 l182 l183),(.slice o184 l185 l186)]),(.int .i64 n176)])) w179))) ∧
 ((¬n111 > 2147483648 →
 J89 n111 (IntKind.wrap .i64 ((IntKind.wrap .i64 (n1+1))+(IntKind.wrap .i64 ((IntKind.wrap .i64 ((IntKind.wrap .i64 n73) - n87)) - 55)))) w113)))))))))))))))))) ∧
 ((¬(IntKind.wrap .i64 ((IntKind.wrap .i64 n73) - n87)) > 55 →
 J89 (IntKind.wrap .i64 ((IntKind.wrap .i64 n73) - n87)) (IntKind.wrap .i64 (n1+1)) w88)))) ∧
 (∀(n187:Int) (n188:Int) (j189:Nat→Value) (w189:World),J89 n187 n188 w189 →
 (((n187 > (IntKind.wrap .i64 (n2 - n188)) →
 Calls Tryz.prog 133 #[(.pointer (some d0)),(.int .i64 41)] w189 (fun e190 w191 =>
 ∃b192 o193 l194 l195 o196 l197 l198 n199,e190=.returned (.tuple #[(.agg #[(.bool b192),(.slice o193 l194 l195),(.slice o196 l197 l198)]),(.int .i64 n199)]) ∧
 Z1 w191 d4 (.bool b192)∧∀w200,ZA w191 d4 (.bool b192) w200 →
 Z1 w200 (Addr.add d4 1) (.slice o193 l194 l195)∧∀w201,ZA w200 (Addr.add d4 1) (.slice o193 l194 l195) w201 →
 Z1 w201 (Addr.add d4 2) (.slice o196 l197 l198)∧∀w202,ZA w201 (Addr.add d4 2) (.slice o196 l197 l198) w202 →
 ∃b203 o204 l205 l206 o207 l208 l209,World.cell? w202 d4=some (.bool b203) ∧
 World.cell? w202 (Addr.add d4 1)=some (.slice o204 l205 l206) ∧
 World.cell? w202 (Addr.add d4 2)=some (.slice o207 l208 l209) ∧
 R (.returned (.tuple #[(.agg #[(.bool b203),(.slice o204 l205 l206),(.slice o207 l208 l209)]),(.int .i64 n199)])) w202))) ∧
 ((¬n187 > (IntKind.wrap .i64 (n2 - n188)) →
 (((n87=128 →
 ∃(J210:World→Prop),((((n187=1 →
 ∃o211 l212 l213,World.cell? w189 d0=some (.slice o211 l212 l213) ∧
 ∃d214,o211=some d214 ∧
 ((0:Int)≤n188∧n188 < ((l212:Nat):Int)) ∧
 ∃n215,World.cell? w189 (Addr.add d214 (Int.toNat n188))=some (.int .u8 n215) ∧
 (((n215 < 128 →
 Calls Tryz.prog 133 #[(.pointer (some d0)),(.int .i64 40)] w189 (fun e216 w217 =>
 ∃b218 o219 l220 l221 o222 l223 l224 n225,e216=.returned (.tuple #[(.agg #[(.bool b218),(.slice o219 l220 l221),(.slice o222 l223 l224)]),(.int .i64 n225)]) ∧
 Z1 w217 d4 (.bool b218)∧∀w226,ZA w217 d4 (.bool b218) w226 →
 Z1 w226 (Addr.add d4 1) (.slice o219 l220 l221)∧∀w227,ZA w226 (Addr.add d4 1) (.slice o219 l220 l221) w227 →
 Z1 w227 (Addr.add d4 2) (.slice o222 l223 l224)∧∀w228,ZA w227 (Addr.add d4 2) (.slice o222 l223 l224) w228 →
 ∃b229 o230 l231 l232 o233 l234 l235,World.cell? w228 d4=some (.bool b229) ∧
 World.cell? w228 (Addr.add d4 1)=some (.slice o230 l231 l232) ∧
 World.cell? w228 (Addr.add d4 2)=some (.slice o233 l234 l235) ∧
 R (.returned (.tuple #[(.agg #[(.bool b229),(.slice o230 l231 l232),(.slice o233 l234 l235)]),(.int .i64 n225)])) w228))) ∧
 ((¬n215 < 128 →
 J210  w189))))) ∧
 ((n187≠1 →
 J210  w189)))) ∧
 (∀  (j236:Nat→Value) (w236:World),J210  w236 →
 ∃o237 l238 l239,World.cell? w236 d0=some (.slice o237 l238 l239) ∧
 ((0:Int)≤(IntKind.wrap .i64 (n188+n187))∧(IntKind.wrap .i64 (n188+n187))≤((l239:Nat):Int)) ∧
 ((0:Int)≤n188∧n188≤(((Int.toNat (IntKind.wrap .i64 (n188+n187))):Nat):Int)) ∧
 ∃v240 w241,Sem.run Tryz.prog (builtinV .append #[23,23] 23 #[(.slice none 0 0),(.slice (subO o237 l239 (Int.toNat n188) 1) ((Int.toNat (IntKind.wrap .i64 (n188+n187))) - (Int.toNat n188)) (l239 - (Int.toNat n188)))]) w236=.ok v240 w241 ∧
 ∃o242 l243 l244,v240=(.slice o242 l243 l244) ∧
 Z1 w241 d4 (.bool false)∧∀w245,ZA w241 d4 (.bool false) w245 →
 Z1 w245 (Addr.add d4 1) (.slice o242 l243 l244)∧∀w246,ZA w245 (Addr.add d4 1) (.slice o242 l243 l244) w246 →
 Z1 w246 (Addr.add d4 2) (.slice none 0 0)∧∀w247,ZA w246 (Addr.add d4 2) (.slice none 0 0) w247 →
 ∃b248 o249 l250 l251 o252 l253 l254,World.cell? w247 d4=some (.bool b248) ∧
 World.cell? w247 (Addr.add d4 1)=some (.slice o249 l250 l251) ∧
 World.cell? w247 (Addr.add d4 2)=some (.slice o252 l253 l254) ∧
 R (.returned (.tuple #[(.agg #[(.bool b248),(.slice o249 l250 l251),(.slice o252 l253 l254)]),(.int .i64 (IntKind.wrap .i64 (n188+n187)))])) w247))) ∧
 ((n87≠128 →
 ∀d255 w256,ZC w189 111 #[(.bool false),(.slice none 0 0),(.slice none 0 0)] d255 w256 →
 Z1 w256 d255 (.bool true)∧∀w257,ZA w256 d255 (.bool true) w257 →
 Z1 w257 (Addr.add d255 1) (.slice none 0 0)∧∀w258,ZA w257 (Addr.add d255 1) (.slice none 0 0) w258 →
 Z1 w258 (Addr.add d255 2) (.slice none 0 0)∧∀w259,ZA w258 (Addr.add d255 2) (.slice none 0 0) w259 →
 ∃(J260:World→Prop),(∃(I261:Int→World→Prop) (μ261:Int→World→Nat),I261 n188 w259 ∧
 (∀(n262:Int) (j263:Nat→Value) (w263:World),I261 n262 w263 →
 (((n262 < (IntKind.wrap .i64 (n188+n187)) →
 ∃n264,World.cell? w263 (Addr.add d0 2)=some (.int .i64 n264) ∧
 (((n264=0 →
 Calls Tryz.prog 117 #[(.pointer (some d0)),(.int .i64 n262),(.int .i64 (IntKind.wrap .i64 (n188+n187))),(.int .i64 (IntKind.wrap .i64 (n3+1)))] w263 (fun e265 w266 =>
 ∃b267 o268 l269 l270 o271 l272 l273 n274,e265=.returned (.tuple #[(.agg #[(.bool b267),(.slice o268 l269 l270),(.slice o271 l272 l273)]),(.int .i64 n274)]) ∧
 ∀d275 w276,ZC w266 111 #[(.bool false),(.slice none 0 0),(.slice none 0 0)] d275 w276 →
 Z1 w276 d275 (.bool b267)∧∀w277,ZA w276 d275 (.bool b267) w277 →
 Z1 w277 (Addr.add d275 1) (.slice o268 l269 l270)∧∀w278,ZA w277 (Addr.add d275 1) (.slice o268 l269 l270) w278 →
 Z1 w278 (Addr.add d275 2) (.slice o271 l272 l273)∧∀w279,ZA w278 (Addr.add d275 2) (.slice o271 l272 l273) w279 →
 ∃o280 l281 l282,World.cell? w279 (Addr.add d255 2)=some (.slice o280 l281 l282) ∧
 ∃b283 o284 l285 l286 o287 l288 l289,World.cell? w279 d275=some (.bool b283) ∧
 World.cell? w279 (Addr.add d275 1)=some (.slice o284 l285 l286) ∧
 World.cell? w279 (Addr.add d275 2)=some (.slice o287 l288 l289) ∧
 ∀d290 w291,ZC w279 111 #[(.bool b283),(.slice o284 l285 l286),(.slice o287 l288 l289)] d290 w291 →
 ∃v292 w293,Sem.run Tryz.prog (builtinV .append #[109,109] 109 #[(.slice o280 l281 l282),(.slice (some d290) 1 1)]) w291=.ok v292 w293 ∧
 ∃o294 l295 l296,v292=(.slice o294 l295 l296) ∧
 Z1 w293 (Addr.add d255 2) (.slice o294 l295 l296)∧∀w297,ZA w293 (Addr.add d255 2) (.slice o294 l295 l296) w297 →
 I261 n274 w297∧μ261 n274 w297 < μ261 n262 w263))) ∧
 ((n264≠0 →
 J260  w263))))) ∧
 ((¬n262 < (IntKind.wrap .i64 (n188+n187)) →
 J260  w263))))) ∧
 (∀  (j298:Nat→Value) (w298:World),J260  w298 →
 ∃n299,World.cell? w298 (Addr.add d0 2)=some (.int .i64 n299) ∧
 (((n299≠0 →
 Z1 w298 d4 (.bool false)∧∀w300,ZA w298 d4 (.bool false) w300 →
 Z1 w300 (Addr.add d4 1) (.slice none 0 0)∧∀w301,ZA w300 (Addr.add d4 1) (.slice none 0 0) w301 →
 Z1 w301 (Addr.add d4 2) (.slice none 0 0)∧∀w302,ZA w301 (Addr.add d4 2) (.slice none 0 0) w302 →
 ∃b303 o304 l305 l306 o307 l308 l309,World.cell? w302 d4=some (.bool b303) ∧
 World.cell? w302 (Addr.add d4 1)=some (.slice o304 l305 l306) ∧
 World.cell? w302 (Addr.add d4 2)=some (.slice o307 l308 l309) ∧
 R (.returned (.tuple #[(.agg #[(.bool b303),(.slice o304 l305 l306),(.slice o307 l308 l309)]),(.int .i64 0)])) w302)) ∧
 ((n299=0 →
 ∃b310 o311 l312 l313 o314 l315 l316,World.cell? w298 d255=some (.bool b310) ∧
 World.cell? w298 (Addr.add d255 1)=some (.slice o311 l312 l313) ∧
 World.cell? w298 (Addr.add d255 2)=some (.slice o314 l315 l316) ∧
 Z1 w298 d4 (.bool b310)∧∀w317,ZA w298 d4 (.bool b310) w317 →
 Z1 w317 (Addr.add d4 1) (.slice o311 l312 l313)∧∀w318,ZA w317 (Addr.add d4 1) (.slice o311 l312 l313) w318 →
 Z1 w318 (Addr.add d4 2) (.slice o314 l315 l316)∧∀w319,ZA w318 (Addr.add d4 2) (.slice o314 l315 l316) w319 →
 ∃b320 o321 l322 l323 o324 l325 l326,World.cell? w319 d4=some (.bool b320) ∧
 World.cell? w319 (Addr.add d4 1)=some (.slice o321 l322 l323) ∧
 World.cell? w319 (Addr.add d4 2)=some (.slice o324 l325 l326) ∧
 R (.returned (.tuple #[(.agg #[(.bool b320),(.slice o321 l322 l323),(.slice o324 l325 l326)]),(.int .i64 (IntKind.wrap .i64 (n188+n187)))])) w319))))))))))))))))))))))))
theorem Zg.vc (d0:Addr) (n1:Int) (n2:Int) (n3:Int) (w:World) (R:Ending→World→Prop) (h:Zg.Vc d0 n1 n2 n3 w R):Calls Tryz.prog 117 #[(.pointer (some d0)),(.int .i64 n1),(.int .i64 n2),(.int .i64 n3)] w R :=
 Z8 (R:=⟨R,false⟩) (ann:=[(1000012,[(11,.cell (.int .i64))]),(1000026,[(12,.cell (.int .i64)),(13,.cell (.int .i64))]),(19,[(12,.cell (.int .i64)),(15,.cell (.int .i64))]),(1000022,[(93,.cell (.bool))]),(1000032,[]),(1000038,[]),(34,[(13,.cell (.int .i64))])]) (args:=[.addr d0,.int .i64 n1,.int .i64 n2,.int .i64 n3]) Tryz.func117 ZR (Eq.mp (by kernel_rfl:Zg.Vc d0 n1 n2 n3 w R=ZP (pA Tryz.prog ⟨R,false⟩) Tryz.prog [(1000012,[(11,.cell (.int .i64))]),(1000026,[(12,.cell (.int .i64)),(13,.cell (.int .i64))]),(19,[(12,.cell (.int .i64)),(15,.cell (.int .i64))]),(1000022,[(93,.cell (.bool))]),(1000032,[]),(1000038,[]),(34,[(13,.cell (.int .i64))])] Tryz.f117 [.addr d0,.int .i64 n1,.int .i64 n2,.int .i64 n3] w) h)

abbrev ZZ.n:Nat:=133
def ZZ.Vc (d0:Addr) (n1:Int) (w:World) (R:Ending→World→Prop):Prop :=
 ∀d2 w3,ZC w 111 #[(.bool false),(.slice none 0 0),(.slice none 0 0)] d2 w3 →
 ∃n4,World.cell? w3 (Addr.add d0 2)=some (.int .i64 n4) ∧
 (((n4=0 →
 Z1 w3 (Addr.add d0 2) (.int .i64 n1)∧∀w5,ZA w3 (Addr.add d0 2) (.int .i64 n1) w5 →
 Z1 w5 d2 (.bool false)∧∀w6,ZA w5 d2 (.bool false) w6 →
 Z1 w6 (Addr.add d2 1) (.slice none 0 0)∧∀w7,ZA w6 (Addr.add d2 1) (.slice none 0 0) w7 →
 Z1 w7 (Addr.add d2 2) (.slice none 0 0)∧∀w8,ZA w7 (Addr.add d2 2) (.slice none 0 0) w8 →
 ∃b9 o10 l11 l12 o13 l14 l15,World.cell? w8 d2=some (.bool b9) ∧
 World.cell? w8 (Addr.add d2 1)=some (.slice o10 l11 l12) ∧
 World.cell? w8 (Addr.add d2 2)=some (.slice o13 l14 l15) ∧
 R (.returned (.tuple #[(.agg #[(.bool b9),(.slice o10 l11 l12),(.slice o13 l14 l15)]),(.int .i64 0)])) w8)) ∧
 ((n4≠0 →
 Z1 w3 d2 (.bool false)∧∀w16,ZA w3 d2 (.bool false) w16 →
 Z1 w16 (Addr.add d2 1) (.slice none 0 0)∧∀w17,ZA w16 (Addr.add d2 1) (.slice none 0 0) w17 →
 Z1 w17 (Addr.add d2 2) (.slice none 0 0)∧∀w18,ZA w17 (Addr.add d2 2) (.slice none 0 0) w18 →
 ∃b19 o20 l21 l22 o23 l24 l25,World.cell? w18 d2=some (.bool b19) ∧
 World.cell? w18 (Addr.add d2 1)=some (.slice o20 l21 l22) ∧
 World.cell? w18 (Addr.add d2 2)=some (.slice o23 l24 l25) ∧
 R (.returned (.tuple #[(.agg #[(.bool b19),(.slice o20 l21 l22),(.slice o23 l24 l25)]),(.int .i64 0)])) w18)))
theorem ZZ.vc (d0:Addr) (n1:Int) (w:World) (R:Ending→World→Prop) (h:ZZ.Vc d0 n1 w R):Calls Tryz.prog 133 #[(.pointer (some d0)),(.int .i64 n1)] w R :=
 Z8 (R:=⟨R,false⟩) (ann:=[]) (args:=[.addr d0,.int .i64 n1]) Tryz.func133 ZR (Eq.mp (by kernel_rfl:ZZ.Vc d0 n1 w R=ZP (pA Tryz.prog ⟨R,false⟩) Tryz.prog [] Tryz.f133 [.addr d0,.int .i64 n1] w) h)

abbrev Z0z.n:Nat:=79
def Z0z.Vc (b0:Bool) (o1:Option Addr) (l1 c1:Nat) (o2:Option Addr) (l2 c2:Nat) (w:World) (R:Ending→World→Prop):Prop :=
 ∀d3 w4,ZC w 111 #[(.bool b0),(.slice o1 l1 c1),(.slice o2 l2 c2)] d3 w4 →
 ∃b5,World.cell? w4 d3=some (.bool b5) ∧
 (((b5=false →
 ∃o6 l7 l8,World.cell? w4 (Addr.add d3 1)=some (.slice o6 l7 l8) ∧
 Calls Tryz.prog 109 #[(.slice o6 l7 l8)] w4 (fun e9 w10 =>
 ∃o11 l12 l13,e9=.returned (.slice o11 l12 l13) ∧
 R (.returned (.slice o11 l12 l13)) w10))) ∧
 ((b5=true →
 ∃(I14:Option Addr→Nat→Nat→Int→World→Prop) (μ14:Option Addr→Nat→Nat→Int→World→Nat),I14 none 0 0 0 w4 ∧
 (∀(o15:Option Addr) (l15:Nat) (c15:Nat) (n16:Int) (j17:Nat→Value) (w17:World),I14 o15 l15 c15 n16 w17 →
 ∃o18 l19 l20,World.cell? w17 (Addr.add d3 2)=some (.slice o18 l19 l20) ∧
 (((n16 < ((l19:Nat):Int) →
 (((((l15:Nat):Int)≤65536 →
 ∃o21 l22 l23,World.cell? w17 (Addr.add d3 2)=some (.slice o21 l22 l23) ∧
 ∃d24,o21=some d24 ∧
 ((0:Int)≤n16∧n16 < ((l22:Nat):Int)) ∧
 ∃b25 o26 l27 l28 o29 l30 l31,World.cell? w17 (Addr.add d24 ((Int.toNat n16) * 3))=some (.bool b25) ∧
 World.cell? w17 (Addr.add (Addr.add d24 ((Int.toNat n16) * 3)) 1)=some (.slice o26 l27 l28) ∧
 World.cell? w17 (Addr.add (Addr.add d24 ((Int.toNat n16) * 3)) 2)=some (.slice o29 l30 l31) ∧
 Calls Tryz.prog 79 #[(.agg #[(.bool b25),(.slice o26 l27 l28),(.slice o29 l30 l31)])] w17 (fun e32 w33 =>
 ∃o34 l35 l36,e32=.returned (.slice o34 l35 l36) ∧
 ∃v37 w38,Sem.run Tryz.prog (builtinV .append #[23,23] 23 #[(.slice o15 l15 c15),(.slice o34 l35 l36)]) w33=.ok v37 w38 ∧
 ∃o39 l40 l41,v37=(.slice o39 l40 l41) ∧
 I14 o39 l40 l41 (IntKind.wrap .i64 (n16+1)) w38∧μ14 o39 l40 l41 (IntKind.wrap .i64 (n16+1)) w38 < μ14 o15 l15 c15 n16 w17))) ∧
 ((¬((l15:Nat):Int)≤65536 →
 Calls Tryz.prog 89 #[(.slice o15 l15 c15)] w17 (fun e42 w43 =>
 ∃o44 l45 l46,e42=.returned (.slice o44 l45 l46) ∧
 R (.returned (.slice o44 l45 l46)) w43)))))) ∧
 ((¬n16 < ((l19:Nat):Int) →
 Calls Tryz.prog 89 #[(.slice o15 l15 c15)] w17 (fun e47 w48 =>
 ∃o49 l50 l51,e47=.returned (.slice o49 l50 l51) ∧
 R (.returned (.slice o49 l50 l51)) w48))))))))
theorem Z0z.vc (b0:Bool) (o1:Option Addr) (l1:Nat) (c1:Nat) (o2:Option Addr) (l2:Nat) (c2:Nat) (w:World) (R:Ending→World→Prop) (h:Z0z.Vc b0 o1 l1 c1 o2 l2 c2 w R):Calls Tryz.prog 79 #[(.agg #[(.bool b0),(.slice o1 l1 c1),(.slice o2 l2 c2)])] w R :=
 Z8 (R:=⟨R,false⟩) (ann:=[(5,[(3,.cell (.slice)),(4,.cell (.int .i64))])]) (args:=[.agg [.bool (.var b0),.slice o1 l1 c1,.slice o2 l2 c2]]) Tryz.func79 ZR (Eq.mp (by kernel_rfl:Z0z.Vc b0 o1 l1 c1 o2 l2 c2 w R=ZP (pA Tryz.prog ⟨R,false⟩) Tryz.prog [(5,[(3,.cell (.slice)),(4,.cell (.int .i64))])] Tryz.f79 [.agg [.bool (.var b0),.slice o1 l1 c1,.slice o2 l2 c2]] w) h)

end Go.Proofs.YtfghidehlnfdiaaGreat
end
