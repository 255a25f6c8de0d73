/- Contracts: the reference's decoder (moraineref4). -/
/- Contracts: moraineref4.First, Decode. -/
/- Contracts: moraineref4.Of. What an item is: plain Lean. -/
/- The verification conditions of some functions, printed by a program of ours (wip/PrintVc.lean). -/
/- What item is a node: plain Lean; and the nodes that the trie makes of items. -/
/- Contracts: trie.branched, noded, decoded, Check. -/
import Derived.Test.YtfghidehlnfdiaaGreatTVG
import Derived.Test.YtfghidehlnfdiaaGreatProg
import Derived.KernelRfl
set_option linter.unusedVariables false
set_option linter.unusedSimpArgs false
section
namespace Go.Proofs.YtfghidehlnfdiaaGreat
open Go Go.Vcg Go.Trie
def sg (B:By) (i j:Nat):By:=(B.drop i).take (j - i)
theorem ZEm {B:By} {i j:Nat} (h:j≤B.length):(sg B i j).length=j - i:=by unfold sg; rw [List.length_take,List.length_drop]; omega
theorem ZEl {B:By} {i j t:Nat} (h:i+t < j):(sg B i j).getD t 0=B.getD (i+t) 0:=by
 unfold sg
 simp only [List.getD_eq_getElem?_getD]
 rw [List.getElem?_take_of_lt (by omega),List.getElem?_drop]
theorem ZGE {B:By} {i j a q:Nat} (h:i+a+q≤j):((sg B i j).drop a).take q=sg B (i+a) (i+a+q):=by
 unfold sg
 rw [List.drop_take,List.drop_drop,List.take_take]
 congr 1
 omega
theorem ZEk {B:By} {i j a:Nat}:(sg B i j).drop a=sg B (i+a) j:=by
 unfold sg
 rw [List.drop_take,List.drop_drop]
 congr 1
 omega
theorem ZI0 (B:By) (i:Nat):sg B i i=[]:=by simp [sg]
theorem ZGD {B:By} {i:Nat} (h:i < B.length):sg B i (i+1)=[B.getD i 0]:=by
 unfold sg
 rw [Nat.add_sub_cancel_left,List.drop_eq_getElem_cons h,List.take_succ_cons,List.take_zero,List.getD_eq_getElem?_getD,List.getElem?_eq_getElem h]
 rfl
section
variable {w:World} {D n:Nat} {S:Value}
theorem ZBI (X:Blk w D 187 #[S,.int .i64 (n:Int),.int .i64 0]) (x:Int) :
  Calls Tryz.prog ZZ.n #[.pointer (some ⟨D,0,none⟩),.int .i64 x] w (fun e w'=>e=.returned (.tuple #[.agg #[.bool false,.slice none 0 0,.slice none 0 0],.int .i64 0])∧Vcg.Mod (·=D) w w'∧Blk w' D 187 #[S,.int .i64 (n:Int),.int .i64 x]):=by
 refine ZZ.vc _ _ _ _ ?_
 unfold ZZ.Vc
 have hD:=X.lt
 rintro d1 w1 ⟨rfl,rfl⟩
 have M1:Vcg.Mod NoB w _:=Mod.alloc w (.cells #[.bool false,.slice none 0 0,.slice none 0 0] 111)
 have Y1:=Blk.new w 111 #[.bool false,.slice none 0 0,.slice none 0 0]
 have X1:=X.mod' M1
 generalize hN:w.heap.size=N at *
 generalize w.alloc (.cells #[.bool false,.slice none 0 0,.slice none 0 0] 111)=w1 at *
 refine ⟨0,by rw [Z6]; exact X1.rd1 rfl,fun _=>?_,fun h=>(h rfl).elim⟩
 rw [Z6]
 refine ⟨X1.canSet (by simp) rfl,?_⟩
 rintro _ rfl
 have X2:=X1.set 2 (.int .i64 x)
 have Y2:=Y1.set_ne (a:=⟨D,0+2,none⟩) (v:=.int .i64 x) (by simp; omega)
 have M2:Vcg.Mod (·=D) w _:=(M1.mono (fun _ _ h=>h.elim)).step_set (a:=⟨D,0+2,none⟩) (v:=.int .i64 x) (fun _=>rfl)
 exact Z1e Y2 (fun w3 M3=>⟨rfl,M2.trans M3 (fun i hi h=>by omega),X2.mod M3 (by omega)⟩)
end
def RdIs (r:Except Int (It×Nat×Nat)) (S:Value) (i:Nat) (w:World) (D:Nat) (e:Ending) (w':World):Prop:=match r with
 | .error x=>x≠0∧e=.returned (.tuple #[.agg #[.bool false,.slice none 0 0,.slice none 0 0],.int .i64 0])∧∃n':Nat,Blk w' D 187 #[S,.int .i64 (n':Int),.int .i64 x]
 | .ok (x,q,m)=>Blk w' D 187 #[S,.int .i64 (m:Int),.int .i64 0]∧∃v1 v2 v3,e=.returned (.tuple #[.agg #[v1,v2,v3],.int .i64 ((i+q:Nat):Int)])∧ItC (fun b=>b < w.heap.size) w' x v1 v2 v3
theorem ZAJ (A:Nat→Prop) (w:World):ItC A w (.s []) (.bool false) (.slice none 0 0) (.slice none 0 0):=by
 simp only [ItC]
 exact ⟨trivial,⟨none,0,rfl,RdB.nil _ _,fun h=>(h rfl).elim⟩,trivial⟩
def CapIs (v:Int) (b:By):Prop:=0≤v∧v≤1099511627776∧(v=(be b:Int)∨(v > 2147483648∧be b > 2147483648))
set_option maxHeartbeats 2000000 in
set_option maxRecDepth 10000 in
theorem Z8W:∀(f d n i j:Nat) (B:By) {w:World} {D k:Nat} {o:Option Addr},2 * (j - i)+1≤f→i≤j→j≤B.length→B.length≤65536→RdB w o B→B.length≤k→Blk w D 187 #[.slice o B.length k,.int .i64 (n:Int),.int .i64 0]→(B≠[]→Off (·=D) o)→n≤4096→d≤20 →
  Calls Tryz.prog Zg.n #[.pointer (some ⟨D,0,none⟩),.int .i64 (i:Int),.int .i64 (j:Int),.int .i64 (d:Int)] w (fun e w'=>Vcg.Mod (·=D) w w'∧RdIs (dcd f d n (sg B i j)) (.slice o B.length k) i w D e w')
 | 0,_,_,_,_,_,_,_,_,_,hf,_,_,_,_,_,_,_,_,_=>absurd hf (by omega)
 | f+1,d,n,i,j,B,w,D,k,o,hf,hij,hjB,hlen,hr,hk,W,hoff,hn,hd20=>by
   refine ZH fun R hR=>Zg.vc _ _ _ _ _ _ ?_
   unfold Zg.Vc
   have hD:=W.lt
   rintro d3 w1 ⟨rfl,rfl⟩
   have M1:Vcg.Mod NoB w _:=Mod.alloc w (.cells #[.bool false,.slice none 0 0,.slice none 0 0] 111)
   have X1:=Blk.new w 111 #[.bool false,.slice none 0 0,.slice none 0 0]
   have hs1:=ZD w (.cells #[.bool false,.slice none 0 0,.slice none 0 0] 111)
   have W1:=W.mod' M1
   have hr1:=hr.mod' M1
   generalize hN:w.heap.size=N at *
   generalize w.alloc (.cells #[.bool false,.slice none 0 0,.slice none 0 0] 111)=w1 at *
   have M1':Vcg.Mod (·=D) w w1:=M1.mono (fun _ _ h=>h.elim)
   generalize hS:Value.slice o B.length k=S at *
   have hbl:(sg B i j).length=j - i:=ZEm hjB
   have bad:∀(w':World) (n':Nat) (a b c:Value) (x:Int),Vcg.Mod (·=D) w w'→Blk w' D 187 #[S,.int .i64 (n':Int),.int .i64 0]→Blk w' N 111 #[a,b,c]→dcd (f+1) d n (sg B i j)=.error x→x≠0 →
     Calls Tryz.prog 133 #[.pointer (some ⟨D,0,none⟩),.int .i64 x] w' (fun e w''=>e=.returned (.tuple #[.agg #[.bool false,.slice none 0 0,.slice none 0 0],.int .i64 0])∧Blk w'' N 111 #[a,b,c] ∧
      ∀w3,Vcg.Mod (·=N) w'' w3→R (.returned (.tuple #[.agg #[.bool false,.slice none 0 0,.slice none 0 0],.int .i64 0])) w3):=by
    intro w' n' a b c x M X' Y hx h0
    refine (ZBI X' x).mono ?_
    rintro _ w2 ⟨rfl,M2,X2⟩
    refine ⟨rfl,Y.mod M2 (by omega),fun w3 M3=>hR _ _ ⟨(M.trans M2 (fun i hi h=>h)).trans M3 (fun i hi h=>by omega),?_⟩⟩
    rw [hx]
    exact ⟨h0,rfl,n',X2.mod M3 (by omega)⟩
   refine ⟨fun h0=>?_,fun h0=>?_⟩
   ·have hb:sg B i j=[]:=List.eq_nil_of_length_eq_zero (by omega)
    refine (bad w1 n _ _ _ 41 M1' W1 X1 (by rw [hb]; exact ZBD f d n) (by decide)).mono ?_
    rintro _ w2 ⟨rfl,X2,h2⟩
    exact ⟨_,_,_,_,_,_,_,_,rfl,Z1e X2 h2⟩
   have hlt:i < j:=by omega
   have hbne:sg B i j≠[]:=fun h=>by rw [h] at hbl; simp at hbl; omega
   have hBne:B≠[]:=by rintro rfl; simp at hjB; omega
   refine ⟨fun hdeep=>?_,fun hdeep=>⟨_,by rw [Z6]; exact W1.rd1 rfl,fun hful=>?_,fun hful=>⟨_,by rw [Z6]; exact W1.rd1 rfl,?_⟩⟩⟩
   ·refine (bad w1 n _ _ _ 43 M1' W1 X1 (Z6s hbne (.inl (by omega))) (by decide)).mono ?_
    rintro _ w2 ⟨rfl,X2,h2⟩
    exact ⟨_,_,_,_,_,_,_,_,rfl,Z1e X2 h2⟩
   ·refine (bad w1 n _ _ _ 43 M1' W1 X1 (Z6s hbne (.inr (by omega))) (by decide)).mono ?_
    rintro _ w2 ⟨rfl,X2,h2⟩
    exact ⟨_,_,_,_,_,_,_,_,rfl,Z1e X2 h2⟩
   have ewn:IntKind.wrap .i64 ((n:Int)+1)=((n+1:Nat):Int):=by rw [Z0 (by omega) (by omega)]; omega
   rw [ewn,Z6]
   refine ⟨W1.canSet (by simp) rfl,?_⟩
   rintro _ rfl
   have W2:=W1.set 1 (.int .i64 ((n+1:Nat):Int))
   have X2:=X1.set_ne (a:=⟨D,0+1,none⟩) (v:=.int .i64 ((n+1:Nat):Int)) (by simp; omega)
   have M2:Vcg.Mod (·=D) w _:=M1'.step_set (a:=⟨D,0+1,none⟩) (v:=.int .i64 ((n+1:Nat):Int)) (fun _=>rfl)
   have hr2:RdB _ o B:=hr1.mod (Mod.setCell w1 ⟨D,0+1,none⟩ (.int .i64 ((n+1:Nat):Int))) (hoff hBne)
   have hs2:(w1.setCell ⟨D,0+1,none⟩ (.int .i64 ((n+1:Nat):Int))).heap.size=N+1:=by rw [Z4W]; exact hs1
   generalize w1.setCell ⟨D,0+1,none⟩ (.int .i64 ((n+1:Nat):Int))=w2 at *
   clear X1 W1 hr1 M1 M1' hs1
   subst hS
   have hN2:∀{w':World},Vcg.Mod (·=D) w w'→RdB w' o B:=fun M=>hr.mod M (hoff hBne)
   obtain ⟨b0,f0,rfl,hb0,hcells⟩:=hr2 hBne
   have hb0N:b0 < N:=by
    obtain ⟨b1,f1,h1,h2,_⟩:=hr hBne
    cases h1
    omega
   have cell:∀{w':World},Vcg.Mod (·=D) w w'→∀t,t < B.length→w'.cell? ⟨b0,f0+t,none⟩=some (bV (B.getD t 0)):=fun M t ht=>by
    obtain ⟨b1,f1,h1,h2,h3⟩:=hN2 M hBne
    cases h1
    exact h3 t ht
   have hdn:¬(d > 16∨n=4096):=by omega
   have hdec:=ZDr (f:=f) hbne hdn
   have hg0:(sg B i j).getD 0 0=B.getD i 0:=by rw [ZEl (by omega),Nat.add_zero]
   generalize hcv:(B.getD i 0).toNat=c at *
   have hc255:c≤255:=by have:=(B.getD i 0).toNat_lt; omega
   refine ⟨_,_,_,W2.rd1 rfl,_,rfl,⟨by omega,by omega⟩,(c:Int),by rw [Z6,Int.toNat_natCast]; have:=cell M2 i (by omega); simp only [bV,hcv] at this; exact this,?_⟩
   have ec:IntKind.wrap .i64 (c:Int)=(c:Int):=Z0 (by omega) (by omega)
   have ei1:IntKind.wrap .i64 ((i:Int)+1)=((i+1:Nat):Int):=by rw [Z0 (by omega) (by omega)]; omega
   rw [ec,ei1]
   have hhd:hd (sg B i j)=(if c < 128 then .ok (false,0,1,true) else
    if c - (if c≥192 then 192 else 128)≤55 then .ok (decide (c≥192),1,c - (if c≥192 then 192 else 128),false)
    else if j - i < 1+(c - (if c≥192 then 192 else 128) - 55) then .error 41
    else if (sg B i j).getD 1 0=0∨be (((sg B i j).drop 1).take (c - (if c≥192 then 192 else 128) - 55))≤55∨be (((sg B i j).drop 1).take (c - (if c≥192 then 192 else 128) - 55)) > 2147483648 then .error 40
    else .ok (decide (c≥192),1+(c - (if c≥192 then 192 else 128) - 55),be (((sg B i j).drop 1).take (c - (if c≥192 then 192 else 128) - 55)),false)):=by
    unfold hd
    simp only [hg0,hcv,hbl]
   refine ⟨fun hc=>?_,fun hc=>?_⟩
   ·rw [show hd (sg B i j)=.ok (false,0,1,true) by rw [hhd,if_pos (by omega)]] at hdec
    simp only at hdec
    rw [if_neg (by omega),if_pos trivial,if_neg (fun h=>by exact absurd h.1 (by decide))] at hdec
    have e8:IntKind.wrap .u8 (c:Int)=(c:Int):=by rw [ZBv]; omega
    rw [e8]
    rintro d4 w3 ⟨rfl,rfl⟩
    have M23:Vcg.Mod NoB w2 _:=Mod.alloc w2 (.cells #[.int .u8 (c:Int)] 5)
    have Z:=Blk.new w2 5 #[.int .u8 (c:Int)]
    refine Z1e (X2.mod' M23) (fun w4 M4=>hR _ _ ⟨(M2.none_trans M23).trans M4 (fun i hi h=>by omega),?_⟩)
    rw [hdec]
    refine ⟨(W2.mod' M23).mod M4 (by omega),_,_,_,rfl,?_⟩
    have e1:((sg B i j).drop 0).take 1=[B.getD i 0]:=by
     rw [ZGE (by omega),Nat.add_zero]
     exact ZGD (by omega)
    rw [e1]
    simp only [ItC]
    refine ⟨trivial,⟨_,_,rfl,RdB.of_blk (Z.mod M4 (by omega)) (fun t ht=>?_),fun _ dd hdd h=>?_⟩,trivial⟩
    ·simp only [List.length_singleton] at ht
     obtain rfl:t=0:=by omega
     simp only [Nat.zero_add,bV,List.getD_cons_zero,hcv]
     rfl
    ·cases hdd
     have h':w2.heap.size < w.heap.size:=h
     omega
   generalize hbase:(if c≥192 then 192 else 128)=base at *
   have hb1:128≤base∧base≤c:=by rw [← hbase]; split <;> omega
   have hkk8:c - base - 55≤8:=by rw [← hbase]; split <;> omega
   rw [if_neg (by omega)] at hhd
   refine ⟨fun v w'=>w'=w2∧v=(base:Int),⟨fun h=>⟨rfl,?_⟩,fun h=>⟨rfl,?_⟩⟩,?_⟩
   ·rw [← hbase,if_pos (by omega)]; rfl
   ·rw [← hbase,if_neg (by omega)]; rfl
   rintro _ _ w2 ⟨rfl,rfl⟩
   have ecb:IntKind.wrap .i64 ((c:Int) - (base:Int))=((c - base:Nat):Int):=by rw [Z0 (by omega) (by omega)]; omega
   rw [ecb]
   refine ⟨fun v t w'=>w'=w2∧∃a q:Nat,hd (sg B i j)=.ok (decide (c≥192),a,q,false)∧v=(q:Int)∧t=((i+a:Nat):Int)∧1≤a∧a≤j - i,⟨fun hgt=>?_,fun hle=>?_⟩,?_⟩
   ·have e55:IntKind.wrap .i64 (((c - base:Nat):Int) - 55)=((c - base - 55:Nat):Int):=by rw [Z0 (by omega) (by omega)]; omega
    rw [e55]
    rw [if_neg (by omega)] at hhd
    generalize hkk:c - base - 55=kk at *
    have efk:IntKind.wrap .i64 (((i+1:Nat):Int)+(kk:Int))=((i+1+kk:Nat):Int):=by rw [Z0 (by omega) (by omega)]; omega
    rw [efk]
    refine ⟨fun hsh=>?_,fun hsh=>?_⟩
    ·rw [if_pos (by omega)] at hhd
     rw [hhd] at hdec
     refine (bad w2 (n+1) _ _ _ 41 M2 W2 X2 hdec (by decide)).mono ?_
     rintro _ w3 ⟨rfl,X3,h3⟩
     exact ⟨_,_,_,_,_,_,_,_,rfl,Z1e X3 h3⟩
    rw [if_neg (by omega)] at hhd
    refine ⟨fun v t w'=>w'=w2∧∃u:Nat,t=(u:Int)∧u≤kk∧CapIs v (((sg B i j).drop 1).take u),fun _ t _=>((kk:Int) - t).toNat,⟨rfl,0,rfl,Nat.zero_le _,by decide,by decide,.inl (by simp [be])⟩,?_⟩
    rintro v _ _ w2 ⟨rfl,u,rfl,hu,hv0,hv1,hv⟩
    have ew:IntKind.wrap .i64 ((u:Int)+1)=((u+1:Nat):Int):=by rw [Z0 (by omega) (by omega)]; omega
    refine ⟨fun hlt=>?_,fun hge=>?_⟩
    ·have huk:u < kk:=by omega
     have hstep:=ZDj (sg B i j) (j:=u) (by omega)
     have hgu:((sg B i j).drop 1).getD u 0=B.getD (i+1+u) 0:=by rw [ZEk,ZEl (by omega)]
     rw [hgu] at hstep
     refine ⟨fun b w'=>w'=w2∧b=decide (v≤2147483648),⟨fun _=>⟨rfl,rfl⟩,fun h8=>by omega⟩,?_⟩
     rintro _ _ w2 ⟨rfl,rfl⟩
     rw [ew]
     have efu:IntKind.wrap .i64 (((i+1:Nat):Int)+(u:Int))=((i+1+u:Nat):Int):=by rw [Z0 (by omega) (by omega)]; omega
     rw [efu]
     refine ⟨fun hb=>?_,fun hb=>?_⟩
     ·have hvle:=of_decide_eq_true hb
      have hvbe:v=(be (((sg B i j).drop 1).take u):Int):=by
       rcases hv with h | h
       ·exact h
       ·omega
      have c1:=cell M2 (i+1+u) (by omega)
      have hd256:=(B.getD (i+1+u) 0).toNat_lt
      refine ⟨_,_,_,W2.rd1 rfl,_,rfl,⟨by omega,by omega⟩,((B.getD (i+1+u) 0).toNat:Int),by rw [Z6,Int.toNat_natCast]; exact c1,?_⟩
      have ev:IntKind.wrap .i64 ((IntKind.wrap .i64 (256 * v))+(IntKind.wrap .i64 ((B.getD (i+1+u) 0).toNat:Int)))=((be (((sg B i j).drop 1).take (u+1)):Nat):Int):=by
       rw [Z0 (n:=256 * v) (by omega) (by omega),Z0 (n:=((B.getD (i+1+u) 0).toNat:Int)) (by omega) (by omega),Z0 (by omega) (by omega),hstep]
       omega
      rw [ev]
      exact ⟨⟨rfl,u+1,rfl,huk,by omega,by omega,.inl rfl⟩,by dsimp only; omega⟩
     ·have hvgt:=of_decide_eq_false hb
      exact ⟨⟨rfl,u+1,rfl,huk,hv0,hv1,.inr ⟨by omega,by omega⟩⟩,by dsimp only; omega⟩
    ·obtain rfl:u=kk:=by omega
     have c1:=cell M2 (i+1) (by omega)
     have hg1:(sg B i j).getD 1 0=B.getD (i+1) 0:=ZEl (by omega)
     rw [hg1] at hhd
     refine ⟨_,_,_,W2.rd1 rfl,_,rfl,⟨by omega,by omega⟩,((B.getD (i+1) 0).toNat:Int),by rw [Z6,Int.toNat_natCast]; exact c1,fun hz=>?_,fun hz=>⟨fun h56=>?_,fun h56=>⟨fun hbig=>?_,fun hbig=>?_⟩⟩⟩
     ·have hz0:B.getD (i+1) 0=0:=UInt8.toNat_inj.1 (by simpa using hz)
      rw [if_pos (.inl hz0)] at hhd
      rw [hhd] at hdec
      refine (bad w2 (n+1) _ _ _ 40 M2 W2 X2 hdec (by decide)).mono ?_
      rintro _ w3 ⟨rfl,X3,h3⟩
      exact ⟨_,_,_,_,_,_,_,_,rfl,Z1e X3 h3⟩
     ·rw [if_pos (.inr (.inl (by omega)))] at hhd
      rw [hhd] at hdec
      refine (bad w2 (n+1) _ _ _ 40 M2 W2 X2 hdec (by decide)).mono ?_
      rintro _ w3 ⟨rfl,X3,h3⟩
      exact ⟨_,_,_,_,_,_,_,_,rfl,Z1e X3 h3⟩
     ·rw [if_pos (.inr (.inr (by omega)))] at hhd
      rw [hhd] at hdec
      refine (bad w2 (n+1) _ _ _ 40 M2 W2 X2 hdec (by decide)).mono ?_
      rintro _ w3 ⟨rfl,X3,h3⟩
      exact ⟨_,_,_,_,_,_,_,_,rfl,Z1e X3 h3⟩
     ·have hnz:¬B.getD (i+1) 0=0:=fun h=>hz (by rw [h]; rfl)
      rw [if_neg (fun h=>h.elim hnz (fun h=>h.elim (fun h=>by omega) (fun h=>by omega)))] at hhd
      exact ⟨rfl,1+u,_,hhd,by omega,by omega,by omega,by omega⟩
   ·rw [if_pos (by omega)] at hhd
    exact ⟨rfl,1,c - base,hhd,rfl,rfl,Nat.le_refl _,by omega⟩
   ·clear hhd
    rintro _ _ _ w2 ⟨rfl,a,q,hh,rfl,rfl,ha1,haj⟩
    rw [hh] at hdec
    simp only at hdec
    have hq31:=ZCG hh
    have ejf:IntKind.wrap .i64 ((j:Int) - ((i+a:Nat):Int))=((j - (i+a):Nat):Int):=by rw [Z0 (by omega) (by omega)]; omega
    have eto:IntKind.wrap .i64 (((i+a:Nat):Int)+(q:Int))=((i+a+q:Nat):Int):=by rw [Z0 (by omega) (by omega)]; omega
    rw [ejf]
    refine ⟨fun hbig=>?_,fun hbig=>?_⟩
    ·rw [if_pos (by omega)] at hdec
     refine (bad w2 (n+1) _ _ _ 41 M2 W2 X2 hdec (by decide)).mono ?_
     rintro _ w3 ⟨rfl,X3,h3⟩
     exact ⟨_,_,_,_,_,_,_,_,rfl,Z1e X3 h3⟩
    rw [if_neg (by omega)] at hdec
    have hq:i+a+q≤j:=by omega
    rw [ZGE hq] at hdec
    rw [eto]
    have hil:(sg B (i+a) (i+a+q)).length=q:=by rw [ZEm (by omega)]; omega
    refine ⟨fun h128=>?_,fun h128=>?_⟩
    ·have hc192:¬c≥192:=fun h=>by rw [if_pos h] at hbase; omega
     rw [if_pos (decide_eq_false hc192)] at hdec
     refine ⟨fun w'=>w'=w2∧Trie.own (sg B (i+a) (i+a+q))=false,⟨fun h1=>?_,fun h1=>⟨rfl,?_⟩⟩,?_⟩
     ·have c1:=cell M2 (i+a) (by omega)
      have e1:sg B (i+a) (i+a+q)=[B.getD (i+a) 0]:=by
       rw [show i+a+q=i+a+1 by omega]
       exact ZGD (by omega)
      refine ⟨_,_,_,W2.rd1 rfl,_,rfl,⟨by omega,by omega⟩,((B.getD (i+a) 0).toNat:Int),by rw [Z6,Int.toNat_natCast]; exact c1,fun hlt=>?_,fun hlt=>⟨rfl,?_⟩⟩
      ·have ho:Trie.own (sg B (i+a) (i+a+q))=true:=by
         rw [e1]
         simp only [Trie.own,decide_eq_true_eq]
         rw [UInt8.lt_iff_toNat_lt]
         show _ < 128
         omega
       rw [if_pos ⟨trivial,ho⟩] at hdec
       refine (bad w2 (n+1) _ _ _ 40 M2 W2 X2 hdec (by decide)).mono ?_
       rintro _ w3 ⟨rfl,X3,h3⟩
       exact ⟨_,_,_,_,_,_,_,_,rfl,Z1e X3 h3⟩
      ·rw [e1]
       simp only [Trie.own,decide_eq_false_iff_not]
       rw [UInt8.lt_iff_toNat_lt]
       show ¬_ < 128
       omega
     ·have hq1:q≠1:=by omega
      cases h:sg B (i+a) (i+a+q) with
      | nil=>rfl
      | cons x r =>
        cases r with
        | nil=>rw [h] at hil; simp at hil; omega
        | cons y r=>rfl
     ·rintro _ w2 ⟨rfl,hown⟩
      rw [if_neg (fun h=>by rw [hown] at h; exact absurd h.2 (by decide))] at hdec
      have hsub:=((hN2 M2).sub (c:=k) (lo:=i+a) (n:=q) hk)
      rw [show (B.drop (i+a)).take q=sg B (i+a) (i+a+q) by unfold sg; rw [Nat.add_sub_cancel_left]] at hsub
      obtain ⟨o5,k5,w5,hr5,F5⟩:=Z1N (k2:=k - (i+a)) (ty:=23) (Mod.refl w2) hsub (by omega)
      rw [hil] at hr5 F5
      simp only [Int.toNat_natCast]
      refine ⟨_,_,_,W2.rd1 rfl,⟨by omega,by omega⟩,⟨by omega,by omega⟩,_,w5,by rw [show i+a+q - (i+a)=q by omega]; exact hr5,_,_,_,rfl,Z1e (X2.mod' F5.mod) (fun w6 M6=>hR _ _ ⟨(M2.none_trans F5.mod).trans M6 (fun i hi h=>by omega),?_⟩)⟩
      rw [hdec]
      refine ⟨(W2.mod' F5.mod).mod M6 (by omega),_,_,_,by rw [Nat.add_assoc],?_⟩
      simp only [ItC]
      have hN5:∀b,OB o5 b→¬b=N:=fun b hb h=>by have:=F5.new b hb; omega
      refine ⟨trivial,⟨o5,k5,by rw [hil],(F5.own.mod M6 hN5).bytes,fun _ dd hdd h=>?_⟩,trivial⟩
      have:=F5.new dd.block ⟨dd,hdd,rfl⟩
      have h':dd.block < w.heap.size:=h
      omega
    ·have hc192:c≥192:=by
       rcases Nat.lt_or_ge c 192 with h | h
       ·rw [if_neg (by omega)] at hbase; omega
       ·exact h
     rw [if_neg (by rw [decide_eq_true hc192]; decide)] at hdec
     rintro dX w6 ⟨rfl,rfl⟩
     have Y6:=Blk.new w2 111 #[.bool false,.slice none 0 0,.slice none 0 0]
     have M26:Vcg.Mod NoB w2 _:=Mod.alloc w2 (.cells #[.bool false,.slice none 0 0,.slice none 0 0] 111)
     have hs6:=ZD w2 (.cells #[.bool false,.slice none 0 0,.slice none 0 0] 111)
     generalize hY:w2.heap.size=Y at *
     generalize w2.alloc (.cells #[.bool false,.slice none 0 0,.slice none 0 0] 111)=w6 at *
     refine Z8n Y6 rfl rfl rfl (fun w7 Y7 Q7=>?_)
     have M27:Vcg.Mod NoB w2 w7:=ZM M26 Q7 (by omega)
     have X7:=X2.mod' M27
     have W7:=W2.mod' M27
     have M07:=M2.none_trans M27
     have hs7:=M27.size
     have hY7:=Y7.lt
     clear X2 W2 Y6 M26 Q7 cell hcells hr2
     let good:Int→World→Prop:=fun v w'=>∃(fr n':Nat) (xs:List It) (f':Nat) (ol:Option Addr) (kl:Nat),v=(fr:Int)∧i+a≤fr∧fr≤i+a+q∧Blk w' D 187 #[.slice (some ⟨b0,f0,none⟩) B.length k,.int .i64 (n':Int),.int .i64 0]∧n'≤4096 ∧
      Blk w' Y 111 #[.bool true,.slice none 0 0,.slice ol xs.length kl]∧(∃a b c,Blk w' N 111 #[a,b,c])∧Z3N (fun b=>b < w7.heap.size) w' xs ol xs.length kl∧(∀b,OB ol b→w7.heap.size≤b)∧Vcg.Mod (·=D) w w'∧w7.heap.size≤w'.heap.size ∧
      Z80 f (d+1) (n+1) (sg B (i+a) (i+a+q))=pre xs (Z80 f' (d+1) n' (sg B fr (i+a+q)))∧2 * (i+a+q - fr)+2≤f'∧f'≤f∧xs.length+(i+a+q - fr)≤q
     let over:World→Prop:=fun w'=>∃(x:Int) (n':Nat),x≠0∧Z80 f (d+1) (n+1) (sg B (i+a) (i+a+q))=.error x∧Blk w' D 187 #[.slice (some ⟨b0,f0,none⟩) B.length k,.int .i64 (n':Int),.int .i64 x]∧(∃a b c,Blk w' N 111 #[a,b,c])∧Vcg.Mod (·=D) w w'
     have hfq:2 * q+2≤f:=by omega
     refine ⟨fun w'=>over w'∨good ((i+a+q:Nat):Int) w',⟨fun v w'=>over w'∨good v w',fun v w'=>match w'.cell? ⟨D,2,none⟩ with | some (.int .i64 0)=>(((i+a+q:Nat):Int) - v).toNat+1 | _=>0,.inr ⟨i+a,n+1,[],f,none,0,rfl,Nat.le_refl _,by omega,W7,by omega,Y7,⟨_,_,_,X7⟩,Z3N.nil _ _,fun b hb=>(Z47 b hb).elim,M07,Nat.le_refl _,(ZEW _).symm,by omega,Nat.le_refl _,by simp⟩,?_⟩,?_⟩
     ·rintro v _ w8 hst
      refine ⟨fun hlt=>?_,fun hge=>?_⟩
      ·rcases hst with ⟨x,n',hx0,hde,W8,hX8,M08⟩ | ⟨fr,n',xs,f',ol,kl,rfl,hfr1,hfr2,W8,hn',Y8,⟨xa,xb,xc,X8⟩,I8,hnew,M08,hs8,hde,hf',hff,hxl⟩
       ·exact ⟨x,by rw [Z6]; exact W8.rd1 rfl,fun h=>(hx0 h).elim,fun _=>.inl ⟨x,n',hx0,hde,W8,hX8,M08⟩⟩
       ·refine ⟨0,by rw [Z6]; exact W8.rd1 rfl,fun _=>?_,fun h=>(h rfl).elim⟩
        obtain ⟨f2,rfl⟩:∃f2,f'=f2+1:=⟨f' - 1,by omega⟩
        have hrl:(sg B fr (i+a+q)).length=i+a+q - fr:=ZEm (by omega)
        have hrne:sg B fr (i+a+q)≠[]:=fun h=>by rw [h] at hrl; simp at hrl; omega
        rw [ZBE hrne] at hde
        have ed:IntKind.wrap .i64 ((d:Int)+1)=((d+1:Nat):Int):=by rw [Z0 (by omega) (by omega)]; omega
        rw [ed]
        refine (Z8W f2 (d+1) n' fr (i+a+q) B (by omega) (by omega) (by omega) hlen (hN2 M08) hk W8 hoff hn' (by omega)).mono ?_
        rintro e w9 ⟨M9,hdi⟩
        have hs9:=M9.size
        have hI9:=I8.lt
        have Y9:=Y8.mod M9 (by omega)
        have X9:=X8.mod M9 (by omega)
        have I9:=I8.modS M9 (fun b hb=>by omega) (fun b hb h=>by have:=hnew b hb; omega)
        have M09:=M08.trans M9 (fun i hi h=>h)
        have key:∃(y:It) (v1 v2 v3:Value) (nx:Int) (m':Nat) (x:Int),e=.returned (.tuple #[.agg #[v1,v2,v3],.int .i64 nx])∧ItC (fun b=>b < w8.heap.size) w9 y v1 v2 v3∧Blk w9 D 187 #[.slice (some ⟨b0,f0,none⟩) B.length k,.int .i64 (m':Int),.int .i64 x] ∧
          ((x≠0∧Z80 f (d+1) (n+1) (sg B (i+a) (i+a+q))=.error x)∨(x=0∧m'≤4096∧∃q',1≤q'∧fr+q'≤i+a+q∧nx=((fr+q':Nat):Int)∧Z80 f (d+1) (n+1) (sg B (i+a) (i+a+q))=pre (xs++[y]) (Z80 f2 (d+1) m' (sg B (fr+q') (i+a+q))))):=by
         cases hd1:dcd f2 (d+1) n' (sg B fr (i+a+q)) with
         | error x =>
           rw [hd1] at hdi hde
           obtain ⟨hx0,rfl,m',W9⟩:=hdi
           exact ⟨.s [],_,_,_,_,m',x,rfl,ZAJ _ _,W9,.inl ⟨hx0,hde⟩⟩
         | ok r =>
           obtain ⟨y,q',m'⟩:=r
           rw [hd1] at hdi hde
           simp only at hde
           obtain ⟨W9,v1,v2,v3,rfl,hy⟩:=hdi
           obtain ⟨k1,k2,k3,k4,k5,k6⟩:=(Z7H f2 (d+1) n' (sg B fr (i+a+q))).1 _ _ _ hd1
           refine ⟨y,v1,v2,v3,_,m',0,rfl,hy,W9,.inr ⟨rfl,by omega,q',k1,by omega,rfl,?_⟩⟩
           rw [hde,ZEk,← ZEX]
           congr 1
        obtain ⟨y,v1,v2,v3,nx,m',x,rfl,hy,W9,hout⟩:=key
        have cW:w8.cell? ⟨D,2,none⟩=some (.int .i64 0):=W8.rd1 rfl
        clear hdi hde W8 Y8 X8 M08
        obtain ⟨bb,p1,q1,r1,p2,q2,r2,rfl,rfl,rfl⟩:=hy.vals
        refine ⟨_,_,_,_,_,_,_,_,rfl,?_⟩
        rintro dA wA ⟨rfl,rfl⟩
        have HA:=Blk.new w9 111 #[.bool false,.slice none 0 0,.slice none 0 0]
        have M9A:Vcg.Mod NoB w9 _:=Mod.alloc w9 (.cells #[.bool false,.slice none 0 0,.slice none 0 0] 111)
        have hsA:=ZD w9 (.cells #[.bool false,.slice none 0 0,.slice none 0 0] 111)
        generalize hHA:w9.heap.size=HH at *
        generalize w9.alloc (.cells #[.bool false,.slice none 0 0,.slice none 0 0] 111)=wA at *
        refine Z8n HA rfl rfl rfl (fun wB HB QB=>?_)
        have M9B:Vcg.Mod NoB w9 wB:=ZM M9A QB (by omega)
        have XB:=X9.mod' M9B
        have YB:=Y9.mod' M9B
        have WB:=W9.mod' M9B
        have hyB:=ItC.mod M9B _ hy
        have IB:=I9.mod' M9B
        have MB:=M09.none_trans M9B
        have hsB:=M9B.size
        clear HA M9A QB X9 Y9 W9 I9 M09 hy
        refine ⟨_,_,_,by rw [Z6]; exact YB.rd1 rfl,Z81 HB ?_⟩
        rintro dD wD ⟨rfl,rfl⟩
        have MD:Vcg.Mod NoB wB _:=Mod.alloc wB (.cells #[.bool bb,.slice p1 q1 r1,.slice p2 q2 r2] 111)
        have E:=Blk.new wB 111 #[.bool bb,.slice p1 q1 r1,.slice p2 q2 r2]
        have XD:=XB.mod' MD
        have YD:=YB.mod' MD
        have WD:=WB.mod' MD
        have hyD:=ItC.mod MD _ hyB
        have ID:=IB.mod' MD
        have M0D:=MB.none_trans MD
        have hsD:=MD.size
        clear XB YB WB HB hyB IB MB
        generalize wB.heap.size=HE at *
        generalize wB.alloc (.cells #[.bool bb,.slice p1 q1 r1,.slice p2 q2 r2] 111)=wD at *
        obtain ⟨o',k',wE,hrun,IE,QE,hOB⟩:=ID.push E (ItC.mono (fun b hb=>by
         rcases hb with h | h
         ·exact Nat.lt_of_lt_of_le h hs8
         ·exact hI9 b h) _ hyD) (by omega)
        have nE:∀b,OB o' b→w7.heap.size≤b:=fun b hb=>by
         rcases hOB b hb with h | h
         ·exact hnew b h
         ·omega
        have XE:=XD.mod QE (fun h=>by have:=hnew _ h; omega)
        have YE:=YD.mod QE (fun h=>by have:=hnew _ h; omega)
        have WE:=WD.mod QE (fun h=>by have:=hnew _ h; omega)
        have M0E:=M0D.trans QE (fun i hi h=>by have:=hnew _ h; omega)
        have hsE:=QE.size
        refine ⟨_,wE,hrun,_,_,_,rfl,?_⟩
        rw [Z6]
        refine ⟨YE.canSet (by simp) rfl,?_⟩
        rintro _ rfl
        have QF:Vcg.Mod (·=Y) wE _:=Mod.setCell wE ⟨Y,0+2,none⟩ (.slice o' (xs.length+1) k')
        have YF:=YE.set 2 (.slice o' (xs.length+1) k')
        have IF:=IE.modS QF (fun b hb=>by omega) (fun b hb h=>by have:=nE b hb; omega)
        have XF:=XE.mod QF (by omega)
        have WF:=WE.mod QF (by omega)
        have M0F:=M0E.trans QF (fun i hi h=>by omega)
        have hsF:=QF.size
        have hl1:xs.length+1=(xs++[y]).length:=by rw [List.length_append,List.length_singleton]
        have cF:World.cell? _ ⟨D,2,none⟩=some (.int .i64 x):=WF.rd1 rfl
        rcases hout with ⟨hx0,hde⟩ | ⟨rfl,hm',q',hq1,hq2,rfl,hde⟩
        ·refine ⟨.inl ⟨x,m',hx0,hde,WF,⟨_,_,_,XF⟩,M0F⟩,?_⟩
         dsimp only
         rw [cW,cF]
         simp only
         split
         ·rename_i h
          simp only [Option.some.injEq,Value.int.injEq,true_and] at h
          exact (hx0 h).elim
         ·omega
        ·refine ⟨.inr ⟨fr+q',m',xs++[y],f2,o',k',rfl,by omega,hq2,WF,hm',by rw [← hl1]; exact YF,⟨_,_,_,XF⟩,by rw [← hl1]; exact IF,nE,M0F,by omega,hde,by omega,by omega,by omega⟩,?_⟩
         dsimp only
         rw [cW,cF]
         simp only
         omega
      ·rcases hst with h | ⟨fr,n',xs,f',ol,kl,rfl,hfr1,hfr2,rest⟩
       ·exact .inl h
       ·obtain rfl:fr=i+a+q:=by omega
        exact .inr ⟨i+a+q,n',xs,f',ol,kl,rfl,hfr1,hfr2,rest⟩
     ·rintro _ w8 (⟨x,n',hx0,hde,W8,⟨xa,xb,xc,X8⟩,M08⟩ | ⟨fr,n',xs,f',ol,kl,hfr,hfr1,hfr2,W8,hn',Y8,⟨xa,xb,xc,X8⟩,I8,hnew,M08,hs8,hde,hf',hff,hxl⟩)
      ·refine ⟨x,by rw [Z6]; exact W8.rd1 rfl,fun _=>?_,fun h=>(hx0 h).elim⟩
       rw [hde] at hdec
       refine Z1e X8 (fun w9 M9=>hR _ _ ⟨M08.trans M9 (fun i hi h=>by omega),?_⟩)
       rw [hdec]
       exact ⟨hx0,rfl,n',W8.mod M9 (by omega)⟩
      ·obtain rfl:fr=i+a+q:=by omega
       refine ⟨0,by rw [Z6]; exact W8.rd1 rfl,fun h=>(h rfl).elim,fun _=>?_⟩
       obtain ⟨f2,rfl⟩:∃f2,f'=f2+1:=⟨f' - 1,by omega⟩
       rw [ZI0,Z93] at hde
       have hits:=I8.its (fun b hb h=>by
        have:=hnew b h
        have hb':b < w7.heap.size:=hb
        omega)
       refine Z81 Y8 (Z1e X8 (fun w9 M9=>hR _ _ ⟨M08.trans M9 (fun i hi h=>by omega),?_⟩))
       rw [hdec,hde]
       simp only [pre,List.append_nil]
       refine ⟨W8.mod M9 (by omega),_,_,_,by rw [Nat.add_assoc],?_⟩
       simp only [ItC]
       refine ⟨trivial,trivial,ol,kl,rfl,Z1k.mono (fun b hb=>?_) _ (Z1k.modA M9 (fun b hb=>?_) _ hits),I8.cap⟩
       ·have hb':b < w.heap.size:=hb
        show b < w7.heap.size
        omega
       ·show b < w7.heap.size
        omega
end Go.Proofs.YtfghidehlnfdiaaGreat
end
section
namespace Go.Proofs.YtfghidehlnfdiaaGreat
open Go Go.Vcg Go.Trie
theorem ZHz (B:By):sg B 0 B.length=B:=by simp [sg]
theorem ZAa {w:World} {o:Option Addr} {k:Nat} {bs:By} (hr:RdB w o bs) (hk:bs.length≤k) :
  Calls Tryz.prog Z0O.n #[.slice o bs.length k] w (fun e w'=>Vcg.Mod NoB w w'∧Z3M bs w e w'):=by
 refine ZH fun R hR=>Z0O.vc _ _ _ _ _ ?_
 unfold Z0O.Vc
 rintro d1 w1 ⟨rfl,rfl⟩
 have M1:Vcg.Mod NoB w _:=Mod.alloc w (.cells #[.bool false,.slice none 0 0,.slice none 0 0] 111)
 have X1:=Blk.new w 111 #[.bool false,.slice none 0 0,.slice none 0 0]
 have hs1:=ZD w (.cells #[.bool false,.slice none 0 0,.slice none 0 0] 111)
 have hr1:=hr.mod' M1
 generalize hN:w.heap.size=N at *
 generalize w.alloc (.cells #[.bool false,.slice none 0 0,.slice none 0 0] 111)=w1 at *
 refine ⟨fun hbig=>?_,fun hbig=>?_⟩
 ·refine Z1e X1 (fun w2 M2=>hR _ _ ⟨ZM M1 M2 (by omega),?_⟩)
  unfold Z3M
  rw [if_pos (by omega)]
  exact ⟨_,_,_,_,_,_,_,_,rfl⟩
 ·rintro d2 w2 ⟨rfl,rfl⟩
  have M12:Vcg.Mod NoB w1 _:=Mod.alloc w1 (.cells #[.slice o bs.length k,.int .i64 0,.int .i64 0] 187)
  have W2:=Blk.new w1 187 #[.slice o bs.length k,.int .i64 ((0:Nat):Int),.int .i64 0]
  have X2:=X1.mod' M12
  have hr2:=hr1.mod' M12
  have M2:=M1.none_trans M12
  have hs2:=ZD w1 (.cells #[.slice o bs.length k,.int .i64 0,.int .i64 0] 187)
  have hoff:bs≠[]→Off (·=w1.heap.size) o:=fun hne e he h=>by
   obtain ⟨b,f,ho,hb,_⟩:=hr hne
   rw [ho] at he; cases he
   simp only at h
   omega
  have hc:=Z8W (2 * bs.length+1) 1 0 0 bs.length bs (k:=k) (by omega) (Nat.zero_le _) (Nat.le_refl _) (by omega) hr2 hk W2 hoff (by omega) (by omega)
  rw [ZHz] at hc
  refine Calls.mono (R:=fun e w'=>Vcg.Mod (·=w1.heap.size) (w1.alloc (.cells #[.slice o bs.length k,.int .i64 0,.int .i64 0] 187)) w'∧RdIs (dcd (2 * bs.length+1) 1 0 bs) (.slice o bs.length k) 0 (w1.alloc (.cells #[.slice o bs.length k,.int .i64 0,.int .i64 0] 187)) w1.heap.size e w') hc ?_
  rintro e w3 ⟨M3,hd⟩
  have M03:Vcg.Mod NoB w w3:=ZM M2 M3 (by omega)
  have X3:=X2.mod M3 (by omega)
  have hs3:=M3.size
  generalize hD:w1.heap.size=D at *
  have key:∃(y:It) (v1 v2 v3:Value) (nx:Int) (m':Nat) (x:Int),e=.returned (.tuple #[.agg #[v1,v2,v3],.int .i64 nx])∧ItC (fun b=>b < D) w3 y v1 v2 v3∧Blk w3 D 187 #[.slice o bs.length k,.int .i64 (m':Int),.int .i64 x] ∧
    ((x≠0∧dcd (2 * bs.length+1) 1 0 bs=.error x)∨(x=0∧∃q,dcd (2 * bs.length+1) 1 0 bs=.ok (y,q,m')∧nx=(q:Int))):=by
   cases hdc:dcd (2 * bs.length+1) 1 0 bs with
   | error x =>
     rw [hdc] at hd
     obtain ⟨hx0,rfl,m',W3⟩:=hd
     exact ⟨.s [],_,_,_,_,m',x,rfl,ZAJ _ _,W3,.inl ⟨hx0,rfl⟩⟩
   | ok r =>
     obtain ⟨y,q,m⟩:=r
     rw [hdc] at hd
     obtain ⟨W3,v1,v2,v3,rfl,hy⟩:=hd
     refine ⟨y,v1,v2,v3,_,m,0,rfl,ItC.mono (fun b hb=>?_) _ hy,W3,.inr ⟨rfl,q,rfl,by rw [Nat.zero_add]⟩⟩
     show b < _
     rw [hs2]
     have hb':b < D:=hb
     omega
  obtain ⟨y,v1,v2,v3,nx,m',x,rfl,hy,W3,hout⟩:=key
  clear hd hc
  obtain ⟨bb,p1,q1,r1,p2,q2,r2,rfl,rfl,rfl⟩:=hy.vals
  refine ⟨_,_,_,_,_,_,_,_,rfl,?_⟩
  rintro d4 w4 ⟨rfl,rfl⟩
  have H:=Blk.new w3 111 #[.bool false,.slice none 0 0,.slice none 0 0]
  have M34:Vcg.Mod NoB w3 _:=Mod.alloc w3 (.cells #[.bool false,.slice none 0 0,.slice none 0 0] 111)
  refine Z8n H rfl rfl rfl (fun w5 H5 Q5=>?_)
  have M35:Vcg.Mod NoB w3 w5:=ZM M34 Q5 (Nat.le_refl _)
  have X5:=X3.mod' M35
  have W5:=W3.mod' M35
  have hy5:=ItC.mod M35 _ hy
  have M05:=M03.none_trans M35
  have hs5:=M35.size
  clear H M34 Q5 X3 W3 hy M03 M35
  refine ⟨x,by rw [Z6]; exact W5.rd1 rfl,fun hx0=>?_,fun hx0=>?_⟩
  ·rcases hout with ⟨_,hdc⟩ | ⟨h,_⟩
   ·rintro _ rfl
    have M6:Vcg.Mod NoB w5 w5.drew:=Mod.drew w5
    have W6:=W5.mod' M6
    have X6:=X5.mod' M6
    have M06:=M05.none_trans M6
    generalize w5.drew=w6 at *
    refine ⟨x,by rw [Z6]; exact W6.rd1 rfl,Z8n X6 rfl rfl rfl (fun w7 X7 Q7=>⟨by rw [Z6]; exact (W6.mod Q7 (by omega)).rd1 rfl,Z81 X7 (hR _ _ ⟨ZM M06 Q7 (by omega),?_⟩)⟩)⟩
    unfold Z3M
    rw [if_neg (by omega),hdc]
    exact ⟨hx0,_,_,_,_,_,_,_,_,rfl⟩
   ·exact (hx0 h).elim
  ·rcases hout with ⟨h,_⟩ | ⟨_,q,hdc,rfl⟩
   ·exact (h hx0).elim
   ·refine Z81 H5 (Z1e X5 (fun w7 Q7=>hR _ _ ⟨ZM M05 Q7 (by omega),?_⟩))
    unfold Z3M
    rw [if_neg (by omega),hdc]
    refine ⟨_,_,_,rfl,ItC.mono (fun b hb=>?_) _ (ItC.modA Q7 (fun b hb=>?_) _ hy5)⟩
    ·have hb':b < w.heap.size:=hb
     show b < D
     omega
    ·show b < D
     omega
theorem Z5h {w:World} {o:Option Addr} {k:Nat} {bs:By} (hr:RdB w o bs) (hk:bs.length≤k) :
  Calls Tryz.prog Z0F.n #[.slice o bs.length k] w (fun e w'=>Vcg.Mod NoB w w'∧Z2V bs w e w'):=by
 refine ZH fun R hR=>Z0F.vc _ _ _ _ _ ?_
 unfold Z0F.Vc
 rintro d1 w1 ⟨rfl,rfl⟩
 have M1:Vcg.Mod NoB w _:=Mod.alloc w (.cells #[.bool false,.slice none 0 0,.slice none 0 0] 111)
 have X1:=Blk.new w 111 #[.bool false,.slice none 0 0,.slice none 0 0]
 have hs1:=ZD w (.cells #[.bool false,.slice none 0 0,.slice none 0 0] 111)
 have hr1:=hr.mod' M1
 generalize hN:w.heap.size=N at *
 generalize w.alloc (.cells #[.bool false,.slice none 0 0,.slice none 0 0] 111)=w1 at *
 refine (ZAa hr1 hk).mono ?_
 rintro e w2 ⟨M2,hf⟩
 have M02:=M1.none_trans M2
 have X2:=X1.mod' M2
 have hs2:=M2.size
 have bad:∀(w':World) (x:Int),Z4c bs=.error x→x≠0→Vcg.Mod NoB w w'→Blk w' N 111 #[.bool false,.slice none 0 0,.slice none 0 0]→∀w'':World,Vcg.Mod (·=N) w' w''→R (.returned (.tuple #[.agg #[.bool false,.slice none 0 0,.slice none 0 0],.int .i64 x])) w'':=by
  intro w' x hx h0 M X w'' M'
  refine hR _ _ ⟨ZM M M' (by omega),?_⟩
  unfold Z2V
  rw [hx]
  exact ⟨h0,_,_,_,_,_,_,_,rfl⟩
 have key:(∃b p1 q1 r1 p2 q2 r2 n1 x,e=.returned (.tuple #[.agg #[.bool b,.slice p1 q1 r1,.slice p2 q2 r2],.int .i64 n1,.int .i64 x])∧x≠0∧Z4c bs=.error x) ∨
   (∃y q m v1 v2 v3,¬bs.length > 65536∧dcd (2 * bs.length+1) 1 0 bs=.ok (y,q,m)∧e=.returned (.tuple #[.agg #[v1,v2,v3],.int .i64 (q:Int),.int .i64 0])∧ItC (fun b=>b < w1.heap.size) w2 y v1 v2 v3):=by
  unfold Z3M at hf
  split at hf
  ·rename_i hbig
   obtain ⟨b,p1,q1,r1,p2,q2,r2,n1,he⟩:=hf
   exact .inl ⟨_,_,_,_,_,_,_,_,_,he,by decide,by unfold Z4c; rw [if_pos hbig]⟩
  ·rename_i hbig
   split at hf
   ·rename_i x hdc
    obtain ⟨hx,b,p1,q1,r1,p2,q2,r2,n1,he⟩:=hf
    exact .inl ⟨_,_,_,_,_,_,_,_,_,he,hx,by unfold Z4c; rw [if_neg hbig,hdc]⟩
   ·rename_i y q m hdc
    obtain ⟨v1,v2,v3,he,hy⟩:=hf
    exact .inr ⟨_,_,_,_,_,_,hbig,hdc,he,hy⟩
 rcases key with ⟨b,p1,q1,r1,p2,q2,r2,n1,x,rfl,hx,hdc⟩ | ⟨y,q,m,v1,v2,v3,hbig,hdc,rfl,hy⟩
 ·refine ⟨_,_,_,_,_,_,_,_,_,rfl,?_⟩
  rintro d3 w3 ⟨rfl,rfl⟩
  have H:=Blk.new w2 111 #[.bool false,.slice none 0 0,.slice none 0 0]
  have M23:Vcg.Mod NoB w2 _:=Mod.alloc w2 (.cells #[.bool false,.slice none 0 0,.slice none 0 0] 111)
  refine Z8n H rfl rfl rfl (fun w4 H4 Q4=>?_)
  have M24:Vcg.Mod NoB w2 w4:=ZM M23 Q4 (Nat.le_refl _)
  exact ⟨fun h=>(hx h).elim,fun _=>⟨fun _=>Z1e (X2.mod' M24) (bad w4 x hdc hx (M02.none_trans M24) (X2.mod' M24)),fun h=>(hx h).elim⟩⟩
 ·obtain ⟨bb,p1,q1,r1,p2,q2,r2,rfl,rfl,rfl⟩:=hy.vals
  refine ⟨_,_,_,_,_,_,_,_,_,rfl,?_⟩
  rintro d3 w3 ⟨rfl,rfl⟩
  have H:=Blk.new w2 111 #[.bool false,.slice none 0 0,.slice none 0 0]
  have M23:Vcg.Mod NoB w2 _:=Mod.alloc w2 (.cells #[.bool false,.slice none 0 0,.slice none 0 0] 111)
  refine Z8n H rfl rfl rfl (fun w4 H4 Q4=>?_)
  have M24:Vcg.Mod NoB w2 w4:=ZM M23 Q4 (Nat.le_refl _)
  have X4:=X2.mod' M24
  have hy4:=ItC.mod M24 _ hy
  refine ⟨fun _=>⟨fun hlt=>?_,fun hlt=>⟨fun h=>(h rfl).elim,fun _=>?_⟩⟩,fun h=>(h rfl).elim⟩
  ·refine Z1e X4 (bad w4 42 ?_ (by decide) (M02.none_trans M24) X4)
   unfold Z4c
   rw [if_neg hbig,hdc]
   simp only
   rw [if_pos (by omega)]
  ·refine Z81 H4 (Z1e X4 (fun w5 M5=>hR _ _ ⟨ZM (M02.none_trans M24) M5 (by omega),?_⟩))
   have hd:Z4c bs=.ok y:=by
    unfold Z4c
    rw [if_neg hbig,hdc]
    simp only
    rw [if_neg (by omega)]
   unfold Z2V
   rw [hd]
   refine ⟨_,_,_,rfl,ItC.mono (fun b hb=>?_) _ (ItC.modA M5 (fun b hb=>?_) _ hy4)⟩
   ·have:b < w.heap.size:=hb
    show b < w1.heap.size
    omega
   ·show b < w1.heap.size
    omega
end Go.Proofs.YtfghidehlnfdiaaGreat
end
section
namespace Go.Proofs.YtfghidehlnfdiaaGreat
open Go Go.Vcg Go.Trie
theorem ZDx (xs:List It) {j:Nat} (hj:j < xs.length):Z1s (xs.take (j+1))=Z1s (xs.take j)++enc xs[j]:=by
 rw [List.take_succ_eq_append_getElem hj,encs_append]
 simp [Z1s]
theorem Z9f:∀(f:Nat) (x:It) {A:Nat→Prop} {w0 w:World} {b:Bool} {o1:Option Addr} {l1 c1:Nat} {o2:Option Addr} {l2 c2:Nat},dep x≤f→ItC A w0 x (.bool b) (.slice o1 l1 c1) (.slice o2 l2 c2)→Vcg.Mod NoB w0 w→(enc x).length≤65536 →
  Calls Tryz.prog Z0z.n #[.agg #[.bool b,.slice o1 l1 c1,.slice o2 l2 c2]] w (fun e w'=>∃o' k',e=.returned (.slice o' (enc x).length k')∧ZW w w' tU8 1 o' (enc x).length k' ((enc x).map bV))
 | 0,x,_,_,_,_,_,_,_,_,_,_,hd,_,_,_=>absurd (ZBF x) (by omega)
 | f+1,x,A,w0,w,b,o1,l1,c1,o2,l2,c2,hd,h,M,hl=>by
   refine ZH fun R hR=>Z0z.vc _ _ _ _ _ _ _ _ _ ?_
   unfold Z0z.Vc
   rintro d3 w1 ⟨rfl,rfl⟩
   have M1:Vcg.Mod NoB w _:=Mod.alloc w (.cells #[.bool b,.slice o1 l1 c1,.slice o2 l2 c2] 111)
   have X1:=Blk.new w 111 #[.bool b,.slice o1 l1 c1,.slice o2 l2 c2]
   have hs1:=ZD w (.cells #[.bool b,.slice o1 l1 c1,.slice o2 l2 c2] 111)
   generalize hN:w.heap.size=N at *
   generalize w.alloc (.cells #[.bool b,.slice o1 l1 c1,.slice o2 l2 c2] 111)=w1 at *
   have M01:=M.none_trans M1
   have from1:∀{w2:World} {o:Option Addr} {l k:Nat} {vs:List Value},ZW w1 w2 tU8 1 o l k vs→ZW w w2 tU8 1 o l k vs:=fun F=>⟨F.own,M1.none_trans F.mod,fun k hk=>by have:=F.new k hk; omega⟩
   cases x with
   | s bs =>
     simp only [ItC] at h
     obtain ⟨h1,⟨o,c,h2,h3,h4⟩,h5⟩:=h
     cases h1; cases h2; cases h5
     have hbl:bs.length < 2 ^ 30:=by
      have:bs.length≤(enc (.s bs)).length:=by
       simp only [enc]
       split
       ·exact Nat.le_refl _
       ·rw [List.length_append]; omega
      omega
     refine ⟨_,X1.rd1 rfl,fun _=>⟨_,_,_,by rw [Z6]; exact X1.rd1 rfl,?_⟩,fun hb=>(by cases hb)⟩
     refine (Z6b (h3.mod' M01) hbl).mono ?_
     rintro _ w2 ⟨o',k',rfl,F⟩
     exact ⟨_,_,_,rfl,hR _ _ ⟨o',k',rfl,from1 F⟩⟩
   | l xs =>
     simp only [ItC] at h
     obtain ⟨h1,h2,o,c,h3,h4,_⟩:=h
     cases h1; cases h2; cases h3
     have hel:(Z1s xs).length≤65536:=by
      simp only [enc,List.length_append] at hl
      omega
     refine ⟨_,X1.rd1 rfl,fun hb=>(by cases hb),fun _=>?_⟩
     refine ⟨fun o' l' k' i w'=>∃j:Nat,i=(j:Int)∧j≤xs.length∧l'=(Z1s (xs.take j)).length∧ZW w1 w' tU8 1 o' l' k' ((Z1s (xs.take j)).map bV),fun _ _ _ i _=>((xs.length:Int) - i).toNat,⟨0,rfl,Nat.zero_le _,rfl,ZW.nil (Mod.refl w1) _ _⟩,?_⟩
     rintro o4 _ k4 _ _ w4 ⟨j,rfl,hj,rfl,F4⟩
     have X4:=X1.mod' F4.mod
     have hlen:=Z64 xs
     have hc:=Z95 xs
     refine ⟨_,_,_,by rw [Z6]; exact X4.rd1 rfl,fun hlt=>⟨fun hle=>?_,fun hgt=>?_⟩,fun hge=>?_⟩
     ·have hjl:j < xs.length:=by omega
      have M04:=M01.none_trans F4.mod
      obtain ⟨g,f0,v1,v2,v3,ho,hg,e1,e2,e3,hi⟩:=(Z1k.mod M04 _ h4).get j hjl
      obtain ⟨bb,p1,q1,r1,p2,q2,r2,rfl,rfl,rfl⟩:=hi.vals
      rw [Nat.zero_add] at e1 e2 e3
      have hdj:dep xs[j]≤f:=by
       have:=Z65 (List.getElem_mem hjl)
       simp only [dep] at hd
       omega
      have hej:=ZDx xs hjl
      have hle2:=Z20 xs (j+1)
      rw [hej,List.length_append] at hle2
      refine ⟨_,_,_,by rw [Z6]; exact X4.rd1 rfl,_,ho,⟨by omega,by omega⟩,_,_,_,_,_,_,_,by rw [Z6,Int.toNat_natCast]; exact e1,by rw [Z6,Z6,Int.toNat_natCast]; exact e2,by rw [Z6,Z6,Int.toNat_natCast]; exact e3,?_⟩
      refine (Z9f f xs[j] hdj hi (Mod.refl w4) (by omega)).mono ?_
      rintro _ w5 ⟨o5,k5,rfl,F5⟩
      obtain ⟨o6,k6,w6,hr6,F6⟩:=Za (k2:=k5) (ty:=23) (F4.mod' F5.mod) F5.own.bytes (by omega)
      have ew:IntKind.wrap .i64 ((j:Int)+1)=((j+1:Nat):Int):=by rw [Z0 (by omega) (by omega)]; omega
      rw [ew]
      rw [← hej] at F6
      refine ⟨_,_,_,rfl,_,w6,hr6,_,_,_,rfl,⟨j+1,rfl,hjl,?_,?_⟩,by dsimp only; omega⟩
      ·rw [hej,List.length_append]
      ·exact F6
     ·have:=Z20 xs j
      omega
     ·obtain rfl:j=xs.length:=by omega
      rw [List.take_length] at F4 ⊢
      refine (Z3v F4.own.bytes (by omega)).mono ?_
      rintro _ w5 ⟨o5,k5,rfl,F5⟩
      refine ⟨_,_,_,rfl,hR _ _ ⟨o5,k5,?_,?_⟩⟩
      ·simp only [enc]
      ·simp only [enc]
       exact from1 ⟨F5.own,F4.mod.none_trans F5.mod,fun k hk=>Nat.le_trans F4.mod.size (F5.new k hk)⟩
end Go.Proofs.YtfghidehlnfdiaaGreat
end
section
namespace Go.Proofs.YtfghidehlnfdiaaGreat
open Go Go.Vcg
abbrev Z1a.n:Nat:=121
def Z1a.Vc (o0:Option Addr) (l0 c0:Nat) (w:World) (R:Ending→World→Prop):Prop :=
 Calls Tryz.prog 102 #[(.slice o0 l0 c0)] w (fun e1 w2 =>
 ∃b3 o4 l5 l6 o7 l8 l9 n10,e1=.returned (.tuple #[(.agg #[(.bool b3),(.slice o4 l5 l6),(.slice o7 l8 l9)]),(.int .i64 n10)]) ∧
 ∀d11 w12,ZC w2 111 #[(.bool false),(.slice none 0 0),(.slice none 0 0)] d11 w12 →
 Z1 w12 d11 (.bool b3)∧∀w13,ZA w12 d11 (.bool b3) w13 →
 Z1 w13 (Addr.add d11 1) (.slice o4 l5 l6)∧∀w14,ZA w13 (Addr.add d11 1) (.slice o4 l5 l6) w14 →
 Z1 w14 (Addr.add d11 2) (.slice o7 l8 l9)∧∀w15,ZA w14 (Addr.add d11 2) (.slice o7 l8 l9) w15 →
 (((n10≠0 →
 R (.returned (.tuple #[.nilIface,(.int .i64 n10)])) w15)) ∧
 ((n10=0 →
 ∃b16 o17 l18 l19 o20 l21 l22,World.cell? w15 d11=some (.bool b16) ∧
 World.cell? w15 (Addr.add d11 1)=some (.slice o17 l18 l19) ∧
 World.cell? w15 (Addr.add d11 2)=some (.slice o20 l21 l22) ∧
 Calls Tryz.prog 135 #[(.agg #[(.bool b16),(.slice o17 l18 l19),(.slice o20 l21 l22)])] w15 (fun e23 w24 =>
 ∃v25 b26,e23=.returned (.tuple #[v25,(.bool b26)]) ∧
 (((b26=false →
 R (.returned (.tuple #[.nilIface,(.int .i64 143)])) w24)) ∧
 ((b26=true →
 R (.returned (.tuple #[v25,(.int .i64 0)])) w24))))))))
theorem Z1a.vc (o0:Option Addr) (l0:Nat) (c0:Nat) (w:World) (R:Ending→World→Prop) (h:Z1a.Vc o0 l0 c0 w R):Calls Tryz.prog 121 #[(.slice o0 l0 c0)] w R :=
 Z8 (R:=⟨R,false⟩) (ann:=[]) (args:=[.slice o0 l0 c0]) Tryz.func121 ZR (Eq.mp (by kernel_rfl:Z1a.Vc o0 l0 c0 w R=ZP (pA Tryz.prog ⟨R,false⟩) Tryz.prog [] Tryz.f121 [.slice o0 l0 c0] w) h)

abbrev Z2S.n:Nat:=135
def Z2S.Vc (b0:Bool) (o1:Option Addr) (l1 c1:Nat) (o2:Option Addr) (l2 c2:Nat) (w:World) (R:Ending→World→Prop):Prop :=
 ∀d3 w4,ZC w 111 #[(.bool b0),(.slice o1 l1 c1),(.slice o2 l2 c2)] d3 w4 →
 ∃b5,World.cell? w4 d3=some (.bool b5) ∧
 (((b5=false →
 R (.returned (.tuple #[.nilIface,(.bool false)])) w4)) ∧
 ((b5=true →
 ∃o6 l7 l8,World.cell? w4 (Addr.add d3 2)=some (.slice o6 l7 l8) ∧
 (((((l7:Nat):Int)=2 →
 ∀w9,ZN w4 w9 →
 ∃o10 l11 l12,World.cell? w9 (Addr.add d3 2)=some (.slice o10 l11 l12) ∧
 ∃d13,o10=some d13 ∧
 ((0:Int)≤0∧0 < ((l11:Nat):Int)) ∧
 ∃b14 o15 l16 l17 o18 l19 l20,World.cell? w9 (Addr.add d13 0)=some (.bool b14) ∧
 World.cell? w9 (Addr.add (Addr.add d13 0) 1)=some (.slice o15 l16 l17) ∧
 World.cell? w9 (Addr.add (Addr.add d13 0) 2)=some (.slice o18 l19 l20) ∧
 ∃o21 l22 l23,World.cell? w9 (Addr.add d3 2)=some (.slice o21 l22 l23) ∧
 ∃d24,o21=some d24 ∧
 ((0:Int)≤1∧1 < ((l22:Nat):Int)) ∧
 ∃b25 o26 l27 l28 o29 l30 l31,World.cell? w9 (Addr.add d24 3)=some (.bool b25) ∧
 World.cell? w9 (Addr.add (Addr.add d24 3) 1)=some (.slice o26 l27 l28) ∧
 World.cell? w9 (Addr.add (Addr.add d24 3) 2)=some (.slice o29 l30 l31) ∧
 Calls Tryz.prog 146 #[(.agg #[(.bool b14),(.slice o15 l16 l17),(.slice o18 l19 l20)]),(.agg #[(.bool b25),(.slice o26 l27 l28),(.slice o29 l30 l31)])] w9 (fun e32 w33 =>
 ∃v34 b35,e32=.returned (.tuple #[v34,(.bool b35)]) ∧
 R (.returned (.tuple #[v34,(.bool b35)])) w33))) ∧
 ((((l7:Nat):Int)≠2 →
 ∃o36 l37 l38,World.cell? w4 (Addr.add d3 2)=some (.slice o36 l37 l38) ∧
 (((((l37:Nat):Int)=17 →
 ∃o39 l40 l41,World.cell? w4 (Addr.add d3 2)=some (.slice o39 l40 l41) ∧
 Calls Tryz.prog 147 #[(.slice o39 l40 l41)] w4 (fun e42 w43 =>
 ∃v44 b45,e42=.returned (.tuple #[v44,(.bool b45)]) ∧
 R (.returned (.tuple #[v44,(.bool b45)])) w43))) ∧
 ((((l37:Nat):Int)≠17 →
 R (.returned (.tuple #[.nilIface,(.bool false)])) w4)))))))))
theorem Z2S.vc (b0:Bool) (o1:Option Addr) (l1:Nat) (c1:Nat) (o2:Option Addr) (l2:Nat) (c2:Nat) (w:World) (R:Ending→World→Prop) (h:Z2S.Vc b0 o1 l1 c1 o2 l2 c2 w R):Calls Tryz.prog 135 #[(.agg #[(.bool b0),(.slice o1 l1 c1),(.slice o2 l2 c2)])] w R :=
 Z8 (R:=⟨R,false⟩) (ann:=[]) (args:=[.agg [.bool (.var b0),.slice o1 l1 c1,.slice o2 l2 c2]]) Tryz.func135 ZR (Eq.mp (by kernel_rfl:Z2S.Vc b0 o1 l1 c1 o2 l2 c2 w R=ZP (pA Tryz.prog ⟨R,false⟩) Tryz.prog [] Tryz.f135 [.agg [.bool (.var b0),.slice o1 l1 c1,.slice o2 l2 c2]] w) h)

abbrev Z2T.n:Nat:=146
def Z2T.Vc (b0:Bool) (o1:Option Addr) (l1 c1:Nat) (o2:Option Addr) (l2 c2:Nat) (b3:Bool) (o4:Option Addr) (l4 c4:Nat) (o5:Option Addr) (l5 c5:Nat) (w:World) (R:Ending→World→Prop):Prop :=
 ∀d6 w7,ZC w 111 #[(.bool b0),(.slice o1 l1 c1),(.slice o2 l2 c2)] d6 w7 →
 ∀d8 w9,ZC w7 111 #[(.bool b3),(.slice o4 l4 c4),(.slice o5 l5 c5)] d8 w9 →
 ∃b10,World.cell? w9 d6=some (.bool b10) ∧
 (((b10=true →
 R (.returned (.tuple #[.nilIface,(.bool false)])) w9)) ∧
 ((b10=false →
 ∃o11 l12 l13,World.cell? w9 (Addr.add d6 1)=some (.slice o11 l12 l13) ∧
 Calls Tryz.prog 99 #[(.slice o11 l12 l13)] w9 (fun e14 w15 =>
 ∃o16 l17 l18 b19 n20,e14=.returned (.tuple #[(.slice o16 l17 l18),(.bool b19),(.int .i64 n20)]) ∧
 (((n20≠0 →
 R (.returned (.tuple #[.nilIface,(.bool false)])) w15)) ∧
 ((n20=0 →
 (((b19=true →
 ∀w21,ZN w15 w21 →
 ∃o22 l23 l24,World.cell? w21 (Addr.add d8 1)=some (.slice o22 l23 l24) ∧
 ∃b25,World.cell? w21 d8=some (.bool b25) ∧
 (((b25=false →
 ∃o26 l27 l28,World.cell? w21 (Addr.add d8 1)=some (.slice o26 l27 l28) ∧
 ∀d29 w30,ZC w21 243 #[(.slice o16 l17 l18),(.slice o22 l23 l24)] d29 w30 →
 World.cell? w30 (Addr.add d8 1)=some (.slice o26 l27 l28) ∧
 World.cell? w30 d8=some (.bool b25) ∧
 R (.returned (.tuple #[(.iface 241 (.pointer (some d29))),(.bool (decide (((l27:Nat):Int) > 0)))])) w30)) ∧
 ((b25=true →
 ∀d31 w32,ZC w21 243 #[(.slice o16 l17 l18),(.slice o22 l23 l24)] d31 w32 →
 World.cell? w32 d8=some (.bool b25) ∧
 R (.returned (.tuple #[(.iface 241 (.pointer (some d31))),(.bool false)])) w32))))) ∧
 ((b19=false →
 (((((l17:Nat):Int)=0 →
 R (.returned (.tuple #[.nilIface,(.bool false)])) w15)) ∧
 ((((l17:Nat):Int)≠0 →
 ∃b33 o34 l35 l36 o37 l38 l39,World.cell? w15 d8=some (.bool b33) ∧
 World.cell? w15 (Addr.add d8 1)=some (.slice o34 l35 l36) ∧
 World.cell? w15 (Addr.add d8 2)=some (.slice o37 l38 l39) ∧
 Calls Tryz.prog 158 #[(.agg #[(.bool b33),(.slice o34 l35 l36),(.slice o37 l38 l39)])] w15 (fun e40 w41 =>
 ∃v42 b43,e40=.returned (.tuple #[v42,(.bool b43)]) ∧
 Value.oneCell' v42=true ∧
 ∀d44 w45,ZC w41 251 #[(.slice o16 l17 l18),v42] d44 w45 →
 R (.returned (.tuple #[(.iface 249 (.pointer (some d44))),(.bool b43)])) w45))))))))))))))
theorem Z2T.vc (b0:Bool) (o1:Option Addr) (l1:Nat) (c1:Nat) (o2:Option Addr) (l2:Nat) (c2:Nat) (b3:Bool) (o4:Option Addr) (l4:Nat) (c4:Nat) (o5:Option Addr) (l5:Nat) (c5:Nat) (w:World) (R:Ending→World→Prop) (h:Z2T.Vc b0 o1 l1 c1 o2 l2 c2 b3 o4 l4 c4 o5 l5 c5 w R):Calls Tryz.prog 146 #[(.agg #[(.bool b0),(.slice o1 l1 c1),(.slice o2 l2 c2)]),(.agg #[(.bool b3),(.slice o4 l4 c4),(.slice o5 l5 c5)])] w R :=
 Z8 (R:=⟨R,false⟩) (ann:=[]) (args:=[.agg [.bool (.var b0),.slice o1 l1 c1,.slice o2 l2 c2],.agg [.bool (.var b3),.slice o4 l4 c4,.slice o5 l5 c5]]) Tryz.func146 ZR (Eq.mp (by kernel_rfl:Z2T.Vc b0 o1 l1 c1 o2 l2 c2 b3 o4 l4 c4 o5 l5 c5 w R=ZP (pA Tryz.prog ⟨R,false⟩) Tryz.prog [] Tryz.f146 [.agg [.bool (.var b0),.slice o1 l1 c1,.slice o2 l2 c2],.agg [.bool (.var b3),.slice o4 l4 c4,.slice o5 l5 c5]] w) h)

abbrev Z1E.n:Nat:=147
def Z1E.Vc (o0:Option Addr) (l0 c0:Nat) (w:World) (R:Ending→World→Prop):Prop :=
 ∃d1,o0=some d1 ∧
 ((0:Int)≤16∧16 < ((l0:Nat):Int)) ∧
 ∃b2,World.cell? w (Addr.add d1 48)=some (.bool b2) ∧
 (((b2=true →
 R (.returned (.tuple #[.nilIface,(.bool false)])) w)) ∧
 ((b2=false →
 ∃d3,o0=some d3 ∧
 ((0:Int)≤16∧16 < ((l0:Nat):Int)) ∧
 ∃o4 l5 l6,World.cell? w (Addr.add (Addr.add d3 48) 1)=some (.slice o4 l5 l6) ∧
 ∀d7 w8,ZC w 247 (setsAt #[.nilIface,.nilIface,.nilIface,.nilIface,.nilIface,.nilIface,.nilIface,.nilIface,.nilIface,.nilIface,.nilIface,.nilIface,.nilIface,.nilIface,.nilIface,.nilIface,(.slice none 0 0)] 16 [(.slice o4 l5 l6)]) d7 w8 →
 ∃(J9:Int→World→Prop),(∃o10 l11 l12,World.cell? w8 (Addr.add d7 16)=some (.slice o10 l11 l12) ∧
 (((((l11:Nat):Int) > 0 →
 J9 1 w8)) ∧
 ((¬((l11:Nat):Int) > 0 →
 J9 0 w8)))) ∧
 (∀(n13:Int) (j14:Nat→Value) (w14:World),J9 n13 w14 →
 16≤c0 ∧
 ∃(I15:Int→Int→World→Prop) (μ15:Int→Int→World→Nat),I15 n13 0 w14 ∧
 (∀(n16:Int) (n17:Int) (j18:Nat→Value) (w18:World),I15 n16 n17 w18 →
 (((n17 < ((16:Nat):Int) →
 ∃d19,o0=some d19 ∧
 ((0:Int)≤n17∧n17 < ((16:Nat):Int)) ∧
 ∃b20 o21 l22 l23 o24 l25 l26,World.cell? w18 (Addr.add d19 ((Int.toNat n17) * 3))=some (.bool b20) ∧
 World.cell? w18 (Addr.add (Addr.add d19 ((Int.toNat n17) * 3)) 1)=some (.slice o21 l22 l23) ∧
 World.cell? w18 (Addr.add (Addr.add d19 ((Int.toNat n17) * 3)) 2)=some (.slice o24 l25 l26) ∧
 ∀d27 w28,ZC w18 111 #[(.bool false),(.slice none 0 0),(.slice none 0 0)] d27 w28 →
 Z1 w28 d27 (.bool b20)∧∀w29,ZA w28 d27 (.bool b20) w29 →
 Z1 w29 (Addr.add d27 1) (.slice o21 l22 l23)∧∀w30,ZA w29 (Addr.add d27 1) (.slice o21 l22 l23) w30 →
 Z1 w30 (Addr.add d27 2) (.slice o24 l25 l26)∧∀w31,ZA w30 (Addr.add d27 2) (.slice o24 l25 l26) w31 →
 ∃(J32:World→Prop),(∃b33,World.cell? w31 d27=some (.bool b33) ∧
 (((b33=false →
 ∃o34 l35 l36,World.cell? w31 (Addr.add d27 1)=some (.slice o34 l35 l36) ∧
 (((((l35:Nat):Int)=0 →
 I15 n16 (IntKind.wrap .i64 (n17+1)) w31∧μ15 n16 (IntKind.wrap .i64 (n17+1)) w31 < μ15 n16 n17 w18)) ∧
 ((((l35:Nat):Int)≠0 →
 J32  w31))))) ∧
 ((b33=true →
 J32  w31)))) ∧
 (∀  (j37:Nat→Value) (w37:World),J32  w37 →
 ∃b38 o39 l40 l41 o42 l43 l44,World.cell? w37 d27=some (.bool b38) ∧
 World.cell? w37 (Addr.add d27 1)=some (.slice o39 l40 l41) ∧
 World.cell? w37 (Addr.add d27 2)=some (.slice o42 l43 l44) ∧
 Calls Tryz.prog 158 #[(.agg #[(.bool b38),(.slice o39 l40 l41),(.slice o42 l43 l44)])] w37 (fun e45 w46 =>
 ∃v47 b48,e45=.returned (.tuple #[v47,(.bool b48)]) ∧
 (((b48=false →
 R (.returned (.tuple #[.nilIface,(.bool false)])) w46)) ∧
 ((b48=true →
 ((0:Int)≤n17∧n17 < ((16:Nat):Int)) ∧
 Z1 w46 (Addr.add d7 (Int.toNat n17)) v47∧∀w49,ZA w46 (Addr.add d7 (Int.toNat n17)) v47 w49 →
 I15 (IntKind.wrap .i64 (n16+1)) (IntKind.wrap .i64 (n17+1)) w49∧μ15 (IntKind.wrap .i64 (n16+1)) (IntKind.wrap .i64 (n17+1)) w49 < μ15 n16 n17 w18))))))) ∧
 ((¬n17 < ((16:Nat):Int) →
 R (.returned (.tuple #[(.iface 244 (.pointer (some d7))),(.bool (decide (n16 > 1)))])) w18))))))))
theorem Z1E.vc (o0:Option Addr) (l0:Nat) (c0:Nat) (w:World) (R:Ending→World→Prop) (h:Z1E.Vc o0 l0 c0 w R):Calls Tryz.prog 147 #[(.slice o0 l0 c0)] w R :=
 Z8 (R:=⟨R,false⟩) (ann:=[(1000007,[(5,.cell (.int .i64))]),(8,[(5,.cell (.int .i64)),(31,.cell (.int .i64))]),(1000011,[])]) (args:=[.slice o0 l0 c0]) Tryz.func147 ZR (Eq.mp (by kernel_rfl:Z1E.Vc o0 l0 c0 w R=ZP (pA Tryz.prog ⟨R,false⟩) Tryz.prog [(1000007,[(5,.cell (.int .i64))]),(8,[(5,.cell (.int .i64)),(31,.cell (.int .i64))]),(1000011,[])] Tryz.f147 [.slice o0 l0 c0] w) h)

abbrev Z1F.n:Nat:=158
def Z1F.Vc (b0:Bool) (o1:Option Addr) (l1 c1:Nat) (o2:Option Addr) (l2 c2:Nat) (w:World) (R:Ending→World→Prop):Prop :=
 ∀d3 w4,ZC w 111 #[(.bool b0),(.slice o1 l1 c1),(.slice o2 l2 c2)] d3 w4 →
 ∃b5,World.cell? w4 d3=some (.bool b5) ∧
 (((b5=false →
 ∃o6 l7 l8,World.cell? w4 (Addr.add d3 1)=some (.slice o6 l7 l8) ∧
 (((((l7:Nat):Int)≠32 →
 R (.returned (.tuple #[.nilIface,(.bool false)])) w4)) ∧
 ((((l7:Nat):Int)=32 →
 ∃o9 l10 l11,World.cell? w4 (Addr.add d3 1)=some (.slice o9 l10 l11) ∧
 32≤l10 ∧
 ∃d12,o9=some d12 ∧
 ∃L13,ZJ w4 d12 32 L13 ∧
 Array.size L13=32 ∧
 ∀d14 w15,ZC w4 228 (lputL (Array.replicate 32 (.int .u8 0)) 0 32 L13) d14 w15 →
 R (.returned (.tuple #[(.iface 226 (.pointer (some d14))),(.bool true)])) w15))))) ∧
 ((b5=true →
 ∃b16 o17 l18 l19 o20 l21 l22,World.cell? w4 d3=some (.bool b16) ∧
 World.cell? w4 (Addr.add d3 1)=some (.slice o17 l18 l19) ∧
 World.cell? w4 (Addr.add d3 2)=some (.slice o20 l21 l22) ∧
 Calls Tryz.prog 143 #[(.agg #[(.bool b16),(.slice o17 l18 l19),(.slice o20 l21 l22)])] w4 (fun e23 w24 =>
 ∃o25 l26 l27 n28,e23=.returned (.tuple #[(.slice o25 l26 l27),(.int .i64 n28)]) ∧
 (((n28≠0 →
 R (.returned (.tuple #[.nilIface,(.bool false)])) w24)) ∧
 ((n28=0 →
 (((((l26:Nat):Int)≥32 →
 R (.returned (.tuple #[.nilIface,(.bool false)])) w24)) ∧
 ((¬((l26:Nat):Int)≥32 →
 ∃b29 o30 l31 l32 o33 l34 l35,World.cell? w24 d3=some (.bool b29) ∧
 World.cell? w24 (Addr.add d3 1)=some (.slice o30 l31 l32) ∧
 World.cell? w24 (Addr.add d3 2)=some (.slice o33 l34 l35) ∧
 Calls Tryz.prog 135 #[(.agg #[(.bool b29),(.slice o30 l31 l32),(.slice o33 l34 l35)])] w24 (fun e36 w37 =>
 ∃v38 b39,e36=.returned (.tuple #[v38,(.bool b39)]) ∧
 R (.returned (.tuple #[v38,(.bool b39)])) w37)))))))))))
theorem Z1F.vc (b0:Bool) (o1:Option Addr) (l1:Nat) (c1:Nat) (o2:Option Addr) (l2:Nat) (c2:Nat) (w:World) (R:Ending→World→Prop) (h:Z1F.Vc b0 o1 l1 c1 o2 l2 c2 w R):Calls Tryz.prog 158 #[(.agg #[(.bool b0),(.slice o1 l1 c1),(.slice o2 l2 c2)])] w R :=
 Z8 (R:=⟨R,false⟩) (ann:=[]) (args:=[.agg [.bool (.var b0),.slice o1 l1 c1,.slice o2 l2 c2]]) Tryz.func158 ZR (Eq.mp (by kernel_rfl:Z1F.Vc b0 o1 l1 c1 o2 l2 c2 w R=ZP (pA Tryz.prog ⟨R,false⟩) Tryz.prog [] Tryz.f158 [.agg [.bool (.var b0),.slice o1 l1 c1,.slice o2 l2 c2]] w) h)

abbrev Z2P.n:Nat:=101
def Z2P.Vc (o0:Option Addr) (l0 c0:Nat) (w:World) (R:Ending→World→Prop):Prop :=
 Calls Tryz.prog 121 #[(.slice o0 l0 c0)] w (fun e1 w2 =>
 ∃v3 n4,e1=.returned (.tuple #[v3,(.int .i64 n4)]) ∧
 R (.returned (.int .i64 n4)) w2)
theorem Z2P.vc (o0:Option Addr) (l0:Nat) (c0:Nat) (w:World) (R:Ending→World→Prop) (h:Z2P.Vc o0 l0 c0 w R):Calls Tryz.prog 101 #[(.slice o0 l0 c0)] w R :=
 Z8 (R:=⟨R,false⟩) (ann:=[]) (args:=[.slice o0 l0 c0]) Tryz.func101 ZR (Eq.mp (by kernel_rfl:Z2P.Vc o0 l0 c0 w R=ZP (pA Tryz.prog ⟨R,false⟩) Tryz.prog [] Tryz.f101 [.slice o0 l0 c0] w) h)

end Go.Proofs.YtfghidehlnfdiaaGreat
end
section
namespace Go.Trie
def isE:It→Bool
 | .s []=>true
 | _=>false
def ZEy:It→Bool
 | .s (_ :: _)=>true
 | _=>false
end Go.Trie
namespace Go.Proofs.YtfghidehlnfdiaaGreat
open Go Go.Vcg Go.Trie
def Z1H:It→Option (By×Bool)
 | .s p=>Z1L p
 | .l _=>none
def Z3b:Nat→List It→Bool
 | 0,_=>false
 | f+1,xs =>
   let ref:It→Bool:=fun x=>match x with
    | .s b=>decide (b.length=32)
    | .l ys=>decide ((enc (.l ys)).length < 32) && Z3b f ys
   if xs.length=2 then
    match Z1H (xs.getD 0 (.s [])) with
    | none=>false
    | some (_,true)=>ZEy (xs.getD 1 (.s []))
    | some (p,false)=>decide (p≠[]) && ref (xs.getD 1 (.s []))
   else if xs.length=17 then
    match xs.getD 16 (.s []) with
    | .l _=>false
    | .s v=>(xs.take 16).all (fun x=>isE x || ref x) && decide (2≤(if v=[] then 0 else 1)+((xs.take 16).filter (fun x=> !isE x)).length)
   else false
def Z4o (f:Nat) (x:It):Bool:=match x with
 | .s b=>decide (b.length=32)
 | .l ys=>decide ((enc (.l ys)).length < 32) && Z3b f ys
def isN (f:Nat) (x:It):Bool:=match x with
 | .s _=>false
 | .l xs=>Z3b f xs
theorem Z7a {f:Nat} {xs:List It} (h:xs.length=2):Z3b (f+1) xs=(match Z1H (xs.getD 0 (.s [])) with
  | none=>false
  | some (_,true)=>ZEy (xs.getD 1 (.s []))
  | some (p,false)=>decide (p≠[]) && Z4o f (xs.getD 1 (.s []))):=by
 simp only [Z3b]; rw [if_pos h]; rfl
theorem Z6D {f:Nat} {xs:List It} (h:xs.length=17):Z3b (f+1) xs=(match xs.getD 16 (.s []) with
  | .l _=>false
  | .s v=>(xs.take 16).all (fun x=>isE x || Z4o f x) && decide (2≤(if v=[] then 0 else 1)+((xs.take 16).filter (fun x=> !isE x)).length)):=by
 simp only [Z3b]; rw [if_neg (by omega),if_pos h]; rfl
theorem Z9G {f:Nat} {xs:List It} (h:xs.length≠2) (h':xs.length≠17):Z3b (f+1) xs=false:=by
 simp only [Z3b]; rw [if_neg h,if_neg h']
def RV (N:Nat):Nat→World→It→Value→Prop
 | _,w,.s b,v=>(b=[]∧v=.nilIface)∨(b.length=32∧∃D,N≤D∧v=.iface 226 (.pointer (some ⟨D,0,none⟩))∧Blk w D 228 (hashA b))
 | 0,_,.l _,_=>False
 | f+1,w,.l xs,v =>
   (xs.length=2∧(∃p,Z1H (xs.getD 0 (.s []))=some (p,true))∧∃d:Addr,v=.iface 241 (.pointer (some d))) ∨
   (xs.length=2∧(∃p,Z1H (xs.getD 0 (.s []))=some (p,false))∧∃D s vc,N≤D∧v=.iface 249 (.pointer (some ⟨D,0,none⟩))∧Blk w D 251 #[s,vc]∧RV N f w (xs.getD 1 (.s [])) vc) ∨
   (xs.length=17∧∃D vs ov lv kv,N≤D∧v=.iface 244 (.pointer (some ⟨D,0,none⟩))∧Blk w D 247 (brA vs ov lv kv)∧∀i:Fin 16,RV N f w (xs.getD i.val (.s [])) (vs i))
theorem RV.modS {S:Nat→Prop} {N N':Nat} {w w':World} (M:Vcg.Mod S w w') (hS:∀b,S b→b < N) (hN:N'≤N):∀{f:Nat} {x:It} {v:Value},RV N f w x v→RV N' f w' x v
 | f,.s b,v,h=>by
   simp only [RV] at h ⊢
   rcases h with h | ⟨h1,D,h0,h2,h3⟩
   ·exact .inl h
   ·exact .inr ⟨h1,D,by omega,h2,h3.mod M (fun h=>by have:=hS _ h; omega)⟩
 | 0,.l _,_,h=>by simp only [RV] at h
 | f+1,.l xs,v,h=>by
   simp only [RV] at h ⊢
   rcases h with h | ⟨h1,h2,D,s,vc,h0,h3,h4,h5⟩ | ⟨h1,D,vs,ov,lv,kv,h0,h2,h3,h4⟩
   ·exact .inl h
   ·exact .inr (.inl ⟨h1,h2,D,s,vc,by omega,h3,h4.mod M (fun h=>by have:=hS _ h; omega),RV.modS M hS hN h5⟩)
   ·exact .inr (.inr ⟨h1,D,vs,ov,lv,kv,by omega,h2,h3.mod M (fun h=>by have:=hS _ h; omega),fun i=>RV.modS M hS hN (h4 i)⟩)
theorem RV.mod' {N N':Nat} {w w':World} (M:Vcg.Mod NoB w w') (hN:N'≤N) {f:Nat} {x:It} {v:Value} (h:RV N f w x v):RV N' f w' x v:=RV.modS M (fun _ h=>h.elim) hN h
def ZBy (x:It):Prop:=dep x≤16∧count x≤4096∧(enc x).length≤65536
theorem ZBy.mem {xs:List It} (h:ZBy (.l xs)) {x:It} (hx:x∈xs):ZBy x:=by
 obtain ⟨h1,h2,h3⟩:=h
 have hd:=Z65 hx
 have he:=ZDv hx
 have hc:count x≤Z0s xs:=by
  clear h1 h2 h3 hd he
  induction xs with
  | nil=>cases hx
  | cons y r ih =>
    simp only [Z0s]
    rcases List.mem_cons.1 hx with rfl | hx
    ·omega
    ·have:=ih hx; omega
 have hl:1≤xs.length:=List.length_pos_iff.2 (List.ne_nil_of_mem hx)
 simp only [dep] at h1
 simp only [count] at h2
 simp only [enc,List.length_append] at h3
 exact ⟨by omega,by omega,by omega⟩
def ZDa (f:Nat):Prop:=∀(x:It) {A:Nat→Prop} {w:World} {v1 v2 v3:Value},dep x≤f→ZBy x→ItC A w x v1 v2 v3 →
 Calls Tryz.prog Z2S.n #[.agg #[v1,v2,v3]] w (fun e w'=>∃v,e=.returned (.tuple #[v,.bool (isN f x)])∧Vcg.Mod NoB w w'∧v.oneCell'=true∧(isN f x=true→RV w.heap.size f w' x v))
def ZAz (f:Nat):Prop:=∀(x:It) {A:Nat→Prop} {w:World} {v1 v2 v3:Value},dep x≤f→ZBy x→ItC A w x v1 v2 v3 →
 Calls Tryz.prog Z1F.n #[.agg #[v1,v2,v3]] w (fun e w'=>∃v,e=.returned (.tuple #[v,.bool (Z4o f x)])∧Vcg.Mod NoB w w'∧v.oneCell'=true∧(Z4o f x=true→RV w.heap.size f w' x v))
theorem ZFQ {Z L:Array Value} (hZ:Z.size=32) (hL:L.size=32):lputL Z 0 32 L=L:=by
 unfold lputL
 have ht:L.toList.take 32=L.toList:=List.take_of_length_le (by simp [hL])
 rw [ht]
 apply Array.ext_getElem?
 intro i
 rw [Z03 _ _ _ _ (by simp [hL,hZ])]
 by_cases hi:i < 32
 ·rw [if_pos ⟨Nat.zero_le _,by simp [hL]; exact hi⟩,Nat.sub_zero,Array.getElem?_toList]
 ·rw [if_neg (by simp [hL]; omega),Array.getElem?_eq_none (by omega),Array.getElem?_eq_none (by omega)]
theorem ZFc {f:Nat} (hN:ZDa f):ZAz f:=by
 intro x A w v1 v2 v3 hdp hf hx
 obtain ⟨b,o1,l1,c1,o2,l2,c2,rfl,rfl,rfl⟩:=hx.vals
 refine ZH fun R hR=>Z1F.vc _ _ _ _ _ _ _ _ _ ?_
 unfold Z1F.Vc
 rintro d3 w1 ⟨rfl,rfl⟩
 have M1:Vcg.Mod NoB w _:=Mod.alloc w (.cells #[.bool b,.slice o1 l1 c1,.slice o2 l2 c2] 111)
 have X1:=Blk.new w 111 #[.bool b,.slice o1 l1 c1,.slice o2 l2 c2]
 generalize w.alloc (.cells #[.bool b,.slice o1 l1 c1,.slice o2 l2 c2] 111)=w1 at *
 have hx1:=ItC.mod M1 _ hx
 cases x with
 | s bs =>
   have hx1':=hx1
   simp only [ItC] at hx1
   obtain ⟨h1,⟨o,c,h2,h3,h4⟩,h5⟩:=hx1
   cases h1; cases h2; cases h5
   refine ⟨_,X1.rd1 rfl,fun _=>⟨_,_,_,by rw [Z6]; exact X1.rd1 rfl,fun hn=>?_,fun hn=>⟨_,_,_,by rw [Z6]; exact X1.rd1 rfl,by omega,?_⟩⟩,fun h=>(by cases h)⟩
   ·refine hR _ _ ⟨.nilIface,?_,M1,rfl,fun h=>?_⟩
    ·simp only [Z4o]; rw [decide_eq_false (by omega)]
    ·simp only [Z4o,decide_eq_true_eq] at h; omega
   ·obtain ⟨g,f0,rfl,hg,hc⟩:=h3 (by rintro rfl; simp at hn)
    refine ⟨_,rfl,hashA bs,⟨ZB bs,fun i hi=>?_⟩,ZB bs,?_⟩
    ·rw [Z6,hc i (by omega)]
     simp only [hashA]
     exact (ZF (f:=fun i=>bV (bs.getD i 0)) hi).symm
    ·rw [ZFQ (by simp) (ZB bs)]
     rintro d4 w2 ⟨rfl,rfl⟩
     refine hR _ _ ⟨.iface 226 (.pointer (some ⟨w1.heap.size,0,none⟩)),?_,M1.step_alloc _,rfl,fun _=>?_⟩
     ·simp only [Z4o]; rw [decide_eq_true (by omega)]
     ·simp only [RV]
      exact .inr ⟨by omega,_,M1.size,rfl,Blk.new w1 228 (hashA bs)⟩
 | l xs =>
   have hx1':=hx1
   simp only [ItC] at hx1
   obtain ⟨h1,h2,o,c,h3,h4,hcap⟩:=hx1
   cases h1; cases h2; cases h3
   refine ⟨_,X1.rd1 rfl,fun h=>(by cases h),fun _=>Z81 X1 ?_⟩
   refine (Z9c hx1' hf.1 hf.2.1 hf.2.2).mono ?_
   rintro _ w2 ⟨o',k',rfl,F⟩
   have M02:=M1.none_trans F.mod
   have X2:=X1.mod' F.mod
   refine ⟨_,_,_,_,rfl,fun h=>(h rfl).elim,fun _=>⟨fun hge=>?_,fun hlt=>Z81 X2 ?_⟩⟩
   ·refine hR _ _ ⟨.nilIface,?_,M02,rfl,fun h=>?_⟩
    ·simp only [Z4o]; rw [decide_eq_false (by omega)]; rfl
    ·simp only [Z4o,Bool.and_eq_true,decide_eq_true_eq] at h; omega
   ·refine (hN (.l xs) hdp hf (ItC.mod F.mod _ hx1')).mono ?_
    rintro _ w3 ⟨v,rfl,M3,hv,hrv⟩
    have e:Z4o f (.l xs)=isN f (.l xs):=by
     simp only [Z4o,isN]; rw [decide_eq_true (by omega)]; rfl
    exact ⟨_,_,rfl,hR _ _ ⟨v,by rw [e],M02.none_trans M3,hv,fun h=>RV.mod' (Mod.refl _) M02.size (hrv (by rw [← e]; exact h))⟩⟩
theorem ZBg {f:Nat} (hRf:ZAz f) {x y:It} {A:Nat→Prop} {w:World} {v1 v2 v3 u1 u2 u3:Value} (hdy:dep y≤f) (hfx:ZBy x) (hfy:ZBy y) (hx:ItC A w x v1 v2 v3) (hy:ItC A w y u1 u2 u3) :
  Calls Tryz.prog Z2T.n #[.agg #[v1,v2,v3],.agg #[u1,u2,u3]] w (fun e w'=>∃v,e=.returned (.tuple #[v,.bool (Z3b (f+1) [x,y])])∧Vcg.Mod NoB w w'∧v.oneCell'=true∧(Z3b (f+1) [x,y]=true→RV w.heap.size (f+1) w' (.l [x,y]) v)):=by
 obtain ⟨b,o1,l1,c1,o2,l2,c2,rfl,rfl,rfl⟩:=hx.vals
 obtain ⟨b',p1,q1,r1,p2,q2,r2,rfl,rfl,rfl⟩:=hy.vals
 refine ZH fun R hR=>Z2T.vc _ _ _ _ _ _ _ _ _ _ _ _ _ _ _ _ ?_
 unfold Z2T.Vc
 have hnode:Z3b (f+1) [x,y]=(match Z1H x with
  | none=>false
  | some (_,true)=>ZEy y
  | some (p,false)=>decide (p≠[]) && Z4o f y):=Z7a rfl
 rintro d6 w1 ⟨rfl,rfl⟩
 have M1:Vcg.Mod NoB w _:=Mod.alloc w (.cells #[.bool b,.slice o1 l1 c1,.slice o2 l2 c2] 111)
 have X1:=Blk.new w 111 #[.bool b,.slice o1 l1 c1,.slice o2 l2 c2]
 generalize w.alloc (.cells #[.bool b,.slice o1 l1 c1,.slice o2 l2 c2] 111)=w1 at *
 rintro d8 w2 ⟨rfl,rfl⟩
 have M12:Vcg.Mod NoB w1 _:=Mod.alloc w1 (.cells #[.bool b',.slice p1 q1 r1,.slice p2 q2 r2] 111)
 have Y2:=Blk.new w1 111 #[.bool b',.slice p1 q1 r1,.slice p2 q2 r2]
 have X2:=X1.mod' M12
 have M2:=M1.none_trans M12
 generalize w1.heap.size=N' at *
 generalize w1.alloc (.cells #[.bool b',.slice p1 q1 r1,.slice p2 q2 r2] 111)=w2 at *
 have hx2:=ItC.mod M2 _ hx
 have hy2:=ItC.mod M2 _ hy
 have no:∀w',Z1H x=none→Vcg.Mod NoB w w'→R (.returned (.tuple #[.nilIface,.bool false])) w':=fun w' h M=>by
  rw [h] at hnode
  exact hR _ _ ⟨.nilIface,by rw [hnode],M,rfl,fun h=>by rw [hnode] at h; cases h⟩
 refine ⟨_,X2.rd1 rfl,fun hb=>no _ ?_ M2,fun hb=>⟨_,_,_,by rw [Z6]; exact X2.rd1 rfl,?_⟩⟩
 ·cases x with
  | s bs=>simp only [ItC] at hx2; cases hx2.1; cases hb
  | l xs=>rfl
 cases x with
 | l xs=>simp only [ItC] at hx2; cases hx2.1; cases hb
 | s bs =>
   simp only [ItC] at hx2
   obtain ⟨h1,⟨o,c,h2,h3,h4⟩,h5⟩:=hx2
   cases h1; cases h2; cases h5
   have hbl:bs.length≤2 ^ 20:=by
    have:bs.length≤(enc (.s bs)).length:=by
     simp only [enc]
     split
     ·exact Nat.le_refl _
     ·rw [List.length_append]; omega
    have:=hfx.2.2
    omega
   simp only [Z1H] at hnode no
   refine (Z6O h3 hbl).mono ?_
   rintro _ w3 ⟨o',k',rfl,M3,R3,_⟩
   have M03:=M2.none_trans M3
   have Y3:=Y2.mod' M3
   have hy3:=ItC.mod M3 _ hy2
   cases hu:Z1L bs with
   | none =>
     have e:upk bs=([],false,143):=by unfold upk; rw [hu]
     rw [e]
     exact ⟨_,_,_,_,_,rfl,fun _=>no _ hu M03,fun h=>absurd h (by decide)⟩
   | some r =>
     obtain ⟨p,lf⟩:=r
     have e:upk bs=(p,lf,0):=by unfold upk; rw [hu]
     rw [e]
     rw [hu] at hnode
     refine ⟨_,_,_,_,_,rfl,fun h=>(h rfl).elim,fun _=>⟨fun hlf=>?_,fun hlf=>?_⟩⟩
     ·subst hlf
      simp only at hnode
      rintro _ rfl
      have M4:Vcg.Mod NoB w3 w3.drew:=Mod.drew w3
      have Y4:=Y3.mod' M4
      have M04:=M03.none_trans M4
      generalize w3.drew=w4 at *
      have hrv:∀(w':World) (d:Addr),RV w.heap.size (f+1) w' (.l [.s bs,y]) (.iface 241 (.pointer (some d))):=fun w' d=>by
       simp only [RV]
       exact .inl ⟨rfl,⟨p,hu⟩,d,rfl⟩
      cases y with
      | s vs =>
        simp only [ItC] at hy3
        obtain ⟨h1,⟨oy,cy,h2,h3',h4'⟩,h5⟩:=hy3
        cases h1; cases h2; cases h5
        refine ⟨_,_,_,by rw [Z6]; exact Y4.rd1 rfl,_,Y4.rd1 rfl,fun _=>⟨_,_,_,by rw [Z6]; exact Y4.rd1 rfl,?_⟩,fun h=>(by cases h)⟩
        rintro d5 w5 ⟨rfl,rfl⟩
        refine ⟨by rw [Z6]; exact (Y4.mod' (Mod.alloc w4 _)).rd1 rfl,(Y4.mod' (Mod.alloc w4 _)).rd1 rfl,hR _ _ ⟨.iface 241 (.pointer (some ⟨w4.heap.size,0,none⟩)),?_,M04.none_trans (Mod.alloc w4 _),rfl,fun _=>hrv _ _⟩⟩
        rw [hnode]
        cases vs with
        | nil=>rfl
        | cons a r=>rw [decide_eq_true (by simp only [List.length_cons]; omega)]; rfl
      | l ys =>
        simp only [ItC] at hy3
        obtain ⟨h1,h2,oy,cy,h3',h4',_⟩:=hy3
        cases h1; cases h2; cases h3'
        refine ⟨_,_,_,by rw [Z6]; exact Y4.rd1 rfl,_,Y4.rd1 rfl,fun h=>(by cases h),fun _=>?_⟩
        rintro d5 w5 ⟨rfl,rfl⟩
        refine ⟨(Y4.mod' (Mod.alloc w4 _)).rd1 rfl,hR _ _ ⟨.iface 241 (.pointer (some ⟨w4.heap.size,0,none⟩)),?_,M04.none_trans (Mod.alloc w4 _),rfl,fun _=>hrv _ _⟩⟩
        rw [hnode]; rfl
     ·subst hlf
      simp only at hnode
      refine ⟨fun hz=>?_,fun hz=>Z81 Y3 ?_⟩
      ·have hp:p=[]:=List.eq_nil_of_length_eq_zero (by dsimp only at hz; omega)
       rw [hp] at hnode
       simp only [ne_eq,not_true_eq_false,decide_false,Bool.false_and] at hnode
       exact hR _ _ ⟨.nilIface,by rw [hnode],M03,rfl,fun h=>by rw [hnode] at h; cases h⟩
      ·have hp:p≠[]:=by rintro rfl; simp at hz
       rw [decide_eq_true hp,Bool.true_and] at hnode
       refine (hRf y hdy hfy hy3).mono ?_
       rintro _ w4 ⟨v,rfl,M4,hv,hrv⟩
       refine ⟨_,_,rfl,hv,?_⟩
       rintro d5 w5 ⟨rfl,rfl⟩
       have M5:Vcg.Mod NoB w4 _:=Mod.alloc w4 (.cells #[.slice o' p.length k',v] 251)
       refine hR _ _ ⟨.iface 249 (.pointer (some ⟨w4.heap.size,0,none⟩)),by rw [hnode],(M03.none_trans M4).none_trans M5,rfl,fun h=>?_⟩
       rw [hnode] at h
       simp only [RV]
       exact .inr (.inl ⟨rfl,⟨p,hu⟩,_,_,v,(M03.none_trans M4).size,rfl,Blk.new w4 251 _,RV.mod' M5 M03.size (hrv h)⟩)
end Go.Proofs.YtfghidehlnfdiaaGreat
end
section
namespace Go.Proofs.YtfghidehlnfdiaaGreat
open Go Go.Vcg Go.Trie
theorem Z1O {xs:List It} {j:Nat} (h:j < xs.length):xs.getD j (.s [])=xs[j]:=by
 rw [List.getD_eq_getElem?_getD,List.getElem?_eq_getElem h]; rfl
theorem Z86 {f:Nat} (hRf:ZAz f) {xs:List It} {A:Nat→Prop} {w:World} {o:Option Addr} {c:Nat} (h17:xs.length=17) (hd:∀x∈xs,dep x≤f) (hf:∀x∈xs,ZBy x) (hx:Z1k A w xs o 0) (hc:xs.length≤c) :
  Calls Tryz.prog Z1E.n #[.slice o xs.length c] w (fun e w'=>∃v,e=.returned (.tuple #[v,.bool (Z3b (f+1) xs)])∧Vcg.Mod NoB w w'∧v.oneCell'=true∧(Z3b (f+1) xs=true→RV w.heap.size (f+1) w' (.l xs) v)):=by
 refine ZH fun R hR=>Z1E.vc _ _ _ _ _ ?_
 unfold Z1E.Vc
 have hnode:=Z6D (f:=f) h17
 rw [Z1O (by omega)] at hnode
 obtain ⟨g,f0,v1,v2,v3,rfl,hg,e1,e2,e3,hi⟩:=hx.get 16 (by omega)
 have at16:=hi
 refine ⟨_,rfl,⟨by omega,by omega⟩,?_⟩
 generalize hx16:xs[16]=x16 at *
 cases x16 with
 | l ys =>
   simp only [ItC] at hi
   obtain ⟨rfl,_⟩:=hi
   refine ⟨true,by rw [Z6]; exact e1,fun _=>hR _ _ ⟨.nilIface,by rw [hnode],Mod.refl w,rfl,fun h=>by rw [hnode] at h; cases h⟩,fun h=>(by cases h)⟩
 | s v =>
   simp only [ItC] at hi
   obtain ⟨rfl,⟨ov,cv,rfl,hv,_⟩,rfl⟩:=hi
   refine ⟨false,by rw [Z6]; exact e1,fun h=>(by cases h),fun _=>⟨_,rfl,⟨by omega,by omega⟩,_,_,_,by rw [Z6,Z6]; exact e2,?_⟩⟩
   simp only at hnode
   rintro d7 w1 ⟨rfl,rfl⟩
   have hZ:setsAt #[.nilIface,.nilIface,.nilIface,.nilIface,.nilIface,.nilIface,.nilIface,.nilIface,.nilIface,.nilIface,.nilIface,.nilIface,.nilIface,.nilIface,.nilIface,.nilIface,(.slice none 0 0)] 16 [(.slice ov v.length cv)]=brA (fun _=>.nilIface) ov v.length cv:=rfl
   rw [hZ]
   have M1:Vcg.Mod NoB w _:=Mod.alloc w (.cells (brA (fun _=>.nilIface) ov v.length cv) 247)
   have B1:=Blk.new w 247 (brA (fun _=>.nilIface) ov v.length cv)
   have hs1:=ZD w (.cells (brA (fun _=>.nilIface) ov v.length cv) 247)
   generalize hN:w.heap.size=N at *
   generalize w.alloc (.cells (brA (fun _=>.nilIface) ov v.length cv) 247)=w1 at *
   generalize hbase:(if v=[] then 0 else 1)=base at *
   refine ⟨fun n w'=>w'=w1∧n=(base:Int),⟨_,_,_,by rw [Z6,Nat.zero_add]; exact B1.rd1 (ZB5 _ _ _ _),fun h=>⟨rfl,?_⟩,fun h=>⟨rfl,?_⟩⟩,?_⟩
   ·rw [← hbase,if_neg (by rintro rfl; simp at h)]; rfl
   ·rw [← hbase,if_pos (List.eq_nil_of_length_eq_zero (by omega))]; rfl
   rintro _ _ w1 ⟨rfl,rfl⟩
   have hb1:base≤1:=by rw [← hbase]; split <;> omega
   refine ⟨by omega,fun n i w'=>∃(j:Nat) (vs:Fin 16→Value),i=(j:Int)∧j≤16∧n=((base+((xs.take j).filter (fun x=> !isE x)).length:Nat):Int)∧(xs.take j).all (fun x=>isE x || Z4o f x)=true∧Vcg.Mod NoB w w'∧w1.heap.size≤w'.heap.size∧Blk w' N 247 (brA vs ov v.length cv)∧(∀q:Fin 16,q.val < j→RV w1.heap.size f w' (xs.getD q.val (.s [])) (vs q))∧(∀q:Fin 16,j≤q.val→vs q=.nilIface),fun _ i _=>((16:Int) - i).toNat,⟨0,fun _=>.nilIface,rfl,Nat.zero_le _,by simp,by simp,M1,Nat.le_refl _,B1,fun q h=>absurd h (by omega),fun _ _=>rfl⟩,?_⟩
   rintro _ _ _ w2 ⟨j,vs,rfl,hj,rfl,hall,M2,hs2,B2,hdone,hrest⟩
   have ew:IntKind.wrap .i64 ((j:Int)+1)=((j+1:Nat):Int):=by rw [Z0 (by omega) (by omega)]; omega
   have hcl:((xs.take j).filter (fun x=> !isE x)).length≤16:=Nat.le_trans (List.length_filter_le _ _) (by rw [List.length_take]; omega)
   refine ⟨fun hlt=>?_,fun hge=>?_⟩
   ·have hjl:j < xs.length:=by omega
    have hj16:j < 16:=by omega
    obtain ⟨g',f',u1,u2,u3,ho,hg',d1,d2,d3,hij⟩:=(Z1k.mod M2 _ hx).get j hjl
    cases ho
    rw [Nat.zero_add] at d1 d2 d3
    obtain ⟨b,p1,q1,r1,p2,q2,r2,rfl,rfl,rfl⟩:=hij.vals
    refine ⟨_,rfl,⟨by omega,by omega⟩,_,_,_,_,_,_,_,by rw [Z6,Int.toNat_natCast]; exact d1,by rw [Z6,Z6,Int.toNat_natCast]; exact d2,by rw [Z6,Z6,Int.toNat_natCast]; exact d3,?_⟩
    rintro d27 w3 ⟨rfl,rfl⟩
    have H:=Blk.new w2 111 #[.bool false,.slice none 0 0,.slice none 0 0]
    have M23:Vcg.Mod NoB w2 _:=Mod.alloc w2 (.cells #[.bool false,.slice none 0 0,.slice none 0 0] 111)
    refine Z8n H rfl rfl rfl (fun w4 H4 Q4=>?_)
    have M24:Vcg.Mod NoB w2 w4:=ZM M23 Q4 (Nat.le_refl _)
    have M4:=M2.none_trans M24
    have B4:=B2.mod' M24
    have hij4:=ItC.mod M24 _ hij
    have hs4:=M24.size
    have hdone4:∀q:Fin 16,q.val < j→RV w1.heap.size f w4 (xs.getD q.val (.s [])) (vs q):=fun q hq=>RV.mod' M24 (Nat.le_refl _) (hdone q hq)
    generalize w2.heap.size=HH at *
    clear M23 Q4 H M24 B2 hij hdone
    have htk:xs.take (j+1)=xs.take j++[xs[j]]:=List.take_succ_eq_append_getElem hjl
    refine ⟨fun w'=>w'=w4∧isE xs[j]=false,⟨_,H4.rd1 rfl,fun hb=>⟨_,_,_,by rw [Z6]; exact H4.rd1 rfl,fun hz=>?_,fun hz=>⟨rfl,?_⟩⟩,fun hb=>⟨rfl,?_⟩⟩,?_⟩
    ·-- nothing ZHC
     have he:xs[j]=.s []:=by
      cases hq:xs[j] with
      | l ys=>rw [hq] at hij4; simp only [ItC] at hij4; cases hij4.1; cases hb
      | s bs =>
        rw [hq] at hij4
        simp only [ItC] at hij4
        obtain ⟨_,⟨oo,cc,h2,_⟩,_⟩:=hij4
        cases h2
        rw [List.eq_nil_of_length_eq_zero (by omega:bs.length=0)]
     rw [ew]
     refine ⟨⟨j+1,vs,rfl,hj16,?_,?_,M4,by omega,B4,fun q hq=>?_,fun q hq=>hrest q (by omega)⟩,by dsimp only; omega⟩
     ·rw [htk,List.filter_append,he]; simp [isE]
     ·rw [htk,List.all_append,hall,he]; simp [isE]
     ·by_cases hqj:q.val < j
      ·exact hdone4 q hqj
      ·have hqe:q.val=j:=by omega
       rw [hqe,Z1O hjl,he,hrest q (by omega)]
       simp only [RV]
       exact .inl ⟨trivial,trivial⟩
    ·cases hq:xs[j] with
     | l ys=>rfl
     | s bs =>
       rw [hq] at hij4
       simp only [ItC] at hij4
       obtain ⟨_,⟨oo,cc,h2,_⟩,_⟩:=hij4
       cases h2
       cases bs with
       | nil=>simp at hz
       | cons a r=>rfl
    ·cases hq:xs[j] with
     | l ys=>rfl
     | s bs =>
       rw [hq] at hij4
       simp only [ItC] at hij4
       cases hij4.1; cases hb
    ·rintro _ w4 ⟨rfl,hne⟩
     refine Z81 H4 ?_
     refine (hRf xs[j] (hd _ (List.getElem_mem hjl)) (hf _ (List.getElem_mem hjl)) hij4).mono ?_
     rintro _ w5 ⟨u,rfl,M5,hu,hru⟩
     have M05:=M4.none_trans M5
     have B5:=B4.mod' M5
     have hs5:=M5.size
     refine ⟨_,_,rfl,fun hb=>?_,fun hb=>⟨⟨by omega,by omega⟩,?_⟩⟩
     ·have hfalse:Z3b (f+1) xs=false:=by
        rw [hnode]
        have:(xs.take 16).all (fun x=>isE x || Z4o f x)=false:=by
         rw [List.all_eq_false]
         refine ⟨xs[j],?_,by rw [hne,hb]; decide⟩
         rw [List.mem_take_iff_getElem]
         exact ⟨j,by omega,rfl⟩
        rw [this,Bool.false_and]
      exact hR _ _ ⟨.nilIface,by rw [hfalse],M05,rfl,fun h=>by rw [hfalse] at h; cases h⟩
     ·rw [Z6,Nat.zero_add,Int.toNat_natCast]
      refine ⟨B5.canSet (by rw [Z6q]; omega) hu,?_⟩
      rintro _ rfl
      have Q6:Vcg.Mod (·=N) w5 _:=Mod.setCell w5 ⟨N,j,none⟩ u
      have B6:=B5.set j u
      rw [ZGL _ _ _ _ _ hj16] at B6
      have M06:Vcg.Mod NoB w _:=ZM M05 Q6 (by omega)
      have en:IntKind.wrap .i64 (((base+((xs.take j).filter (fun x=> !isE x)).length:Nat):Int)+1)=((base+((xs.take (j+1)).filter (fun x=> !isE x)).length:Nat):Int):=by
       rw [Z0 (by omega) (by omega),htk,List.filter_append,List.length_append]
       simp only [List.filter_cons,hne,Bool.not_false,if_true,List.filter_nil,List.length_singleton]
       omega
      rw [ew,en]
      refine ⟨⟨j+1,ZHP vs j u,rfl,hj16,rfl,?_,M06,by rw [Z4W]; omega,B6,fun q hq=>?_,fun q hq=>?_⟩,by dsimp only; omega⟩
      ·rw [htk,List.all_append,hall]
       simp only [List.all_cons,List.all_nil,hb,Bool.or_true,Bool.and_self,Bool.and_true]
      ·unfold ZHP
       by_cases hqj:q.val=j
       ·rw [if_pos hqj,hqj,Z1O hjl]
        exact RV.modS Q6 (fun b h=>by omega) (by omega) (hru hb)
       ·rw [if_neg hqj]
        exact RV.modS Q6 (fun b h=>by omega) (Nat.le_refl _) (RV.mod' M5 (Nat.le_refl _) (hdone4 q (by omega)))
      ·unfold ZHP
       rw [if_neg (by omega)]
       exact hrest q (by omega)
   ·obtain rfl:j=16:=by omega
    have hdec:decide (((base+((xs.take 16).filter (fun x=> !isE x)).length:Nat):Int) > 1)=Z3b (f+1) xs:=by
     rw [hnode,hall,Bool.true_and,Bool.eq_iff_iff,decide_eq_true_eq,decide_eq_true_eq]
     omega
    rw [hdec]
    refine hR _ _ ⟨.iface 244 (.pointer (some ⟨N,0,none⟩)),rfl,M2,rfl,fun _=>?_⟩
    simp only [RV]
    exact .inr (.inr ⟨h17,N,vs,ov,v.length,cv,by omega,rfl,B2,fun q=>RV.mod' (Mod.refl _) (by omega) (hdone q q.isLt)⟩)
theorem ZAS:∀f,ZDa f
 | 0,x,_,_,_,_,_,hd,_,_=>absurd (ZBF x) (by omega)
 | f+1,x,A,w,v1,v2,v3,hd,hf,hx=>by
   have hRf:=ZFc (ZAS f)
   obtain ⟨b,o1,l1,c1,o2,l2,c2,rfl,rfl,rfl⟩:=hx.vals
   refine ZH fun R hR=>Z2S.vc _ _ _ _ _ _ _ _ _ ?_
   unfold Z2S.Vc
   rintro d3 w1 ⟨rfl,rfl⟩
   have M1:Vcg.Mod NoB w _:=Mod.alloc w (.cells #[.bool b,.slice o1 l1 c1,.slice o2 l2 c2] 111)
   have X1:=Blk.new w 111 #[.bool b,.slice o1 l1 c1,.slice o2 l2 c2]
   generalize w.alloc (.cells #[.bool b,.slice o1 l1 c1,.slice o2 l2 c2] 111)=w1 at *
   have hx1:=ItC.mod M1 _ hx
   cases x with
   | s bs =>
     simp only [ItC] at hx1
     obtain ⟨h1,_,_⟩:=hx1
     cases h1
     exact ⟨_,X1.rd1 rfl,fun _=>hR _ _ ⟨.nilIface,rfl,M1,rfl,fun h=>by cases h⟩,fun h=>(by cases h)⟩
   | l xs =>
     simp only [ItC] at hx1
     obtain ⟨h1,h2,o,c,h3,h4,hc⟩:=hx1
     cases h1; cases h2; cases h3
     have hds:∀x∈xs,dep x≤f:=fun x hx=>by
      have:=Z65 hx
      simp only [dep] at hd
      omega
     refine ⟨_,X1.rd1 rfl,fun h=>(by cases h),fun _=>⟨_,_,_,by rw [Z6]; exact X1.rd1 rfl,fun h2=>?_,fun h2=>⟨_,_,_,by rw [Z6]; exact X1.rd1 rfl,fun h17=>⟨_,_,_,by rw [Z6]; exact X1.rd1 rfl,?_⟩,fun h17=>?_⟩⟩⟩
     ·obtain ⟨x,y,rfl⟩:∃x y,xs=[x,y]:=by
        cases xs with
        | nil=>simp at h2
        | cons x r =>
          cases r with
          | nil=>simp at h2
          | cons y r =>
            cases r with
            | nil=>exact ⟨x,y,rfl⟩
            | cons z r=>simp at h2; omega
      rintro _ rfl
      have M2:Vcg.Mod NoB w1 w1.drew:=Mod.drew w1
      have X2:=X1.mod' M2
      have h4':=Z1k.mod M2 _ h4
      have M02:=M1.none_trans M2
      generalize w1.drew=w2 at *
      obtain ⟨g,f0,u1,u2,u3,rfl,hg,e1,e2,e3,hi⟩:=h4'.get 0 (by simp)
      obtain ⟨g',f0',t1,t2,t3,ho,hg',d1,d2,d3,hi'⟩:=h4'.get 1 (by simp)
      cases ho
      have hix:ItC A w2 x u1 u2 u3:=hi
      have hiy:ItC A w2 y t1 t2 t3:=hi'
      obtain ⟨_,_,_,_,_,_,_,rfl,rfl,rfl⟩:=hix.vals
      obtain ⟨_,_,_,_,_,_,_,rfl,rfl,rfl⟩:=hiy.vals
      refine ⟨_,_,_,by rw [Z6]; exact X2.rd1 rfl,_,rfl,⟨by decide,by simp⟩,_,_,_,_,_,_,_,by rw [Z6]; exact e1,by rw [Z6,Z6]; exact e2,by rw [Z6,Z6]; exact e3,_,_,_,by rw [Z6]; exact X2.rd1 rfl,_,rfl,⟨by decide,by simp⟩,_,_,_,_,_,_,_,by rw [Z6]; exact d1,by rw [Z6,Z6]; exact d2,by rw [Z6,Z6]; exact d3,?_⟩
      refine (ZBg hRf (hds y (by simp)) (hf.mem (by simp)) (hf.mem (by simp)) hix hiy).mono ?_
      rintro _ w3 ⟨v,rfl,M3,hv,hrv⟩
      exact ⟨_,_,rfl,hR _ _ ⟨v,rfl,M02.none_trans M3,hv,fun h=>RV.mod' (Mod.refl _) M02.size (hrv h)⟩⟩
     ·have h17':xs.length=17:=by omega
      refine (Z86 hRf h17' hds (fun x hx=>hf.mem hx) h4 hc).mono ?_
      rintro _ w3 ⟨v,rfl,M3,hv,hrv⟩
      exact ⟨_,_,rfl,hR _ _ ⟨v,rfl,M1.none_trans M3,hv,fun h=>RV.mod' (Mod.refl _) M1.size (hrv h)⟩⟩
     ·have hno:isN (f+1) (.l xs)=false:=Z9G (by omega) (by omega)
      exact hR _ _ ⟨.nilIface,by rw [hno],M1,rfl,fun h=>by rw [hno] at h; cases h⟩
end Go.Proofs.YtfghidehlnfdiaaGreat
end
section
namespace Go.Proofs.YtfghidehlnfdiaaGreat
open Go Go.Vcg
abbrev Z0n.n:Nat:=93
def Z0n.Vc (b0:Bool) (o1:Option Addr) (l1 c1:Nat) (o2:Option Addr) (l2 c2:Nat) (w:World) (R:Ending→World→Prop):Prop :=
 ∀d3 w4,ZC w 111 #[(.bool b0),(.slice o1 l1 c1),(.slice o2 l2 c2)] d3 w4 →
 ∃b5,World.cell? w4 d3=some (.bool b5) ∧
 (((b5=false →
 R (.returned (.bool false)) w4)) ∧
 ((b5=true →
 ∃o6 l7 l8,World.cell? w4 (Addr.add d3 2)=some (.slice o6 l7 l8) ∧
 (((((l7:Nat):Int)=2 →
 ∃o9 l10 l11,World.cell? w4 (Addr.add d3 2)=some (.slice o9 l10 l11) ∧
 ∃d12,o9=some d12 ∧
 ((0:Int)≤0∧0 < ((l10:Nat):Int)) ∧
 ∃b13,World.cell? w4 (Addr.add d12 0)=some (.bool b13) ∧
 (((b13=true →
 R (.returned (.bool false)) w4)) ∧
 ((b13=false →
 ∃o14 l15 l16,World.cell? w4 (Addr.add d3 2)=some (.slice o14 l15 l16) ∧
 ∃d17,o14=some d17 ∧
 ((0:Int)≤0∧0 < ((l15:Nat):Int)) ∧
 ∃o18 l19 l20,World.cell? w4 (Addr.add (Addr.add d17 0) 1)=some (.slice o18 l19 l20) ∧
 Calls Tryz.prog 95 #[(.slice o18 l19 l20)] w4 (fun e21 w22 =>
 ∃o23 l24 l25 b26 n27,e21=.returned (.tuple #[(.slice o23 l24 l25),(.bool b26),(.int .i64 n27)]) ∧
 (((n27≠0 →
 R (.returned (.bool false)) w22)) ∧
 ((n27=0 →
 (((b26=true →
 ∃o28 l29 l30,World.cell? w22 (Addr.add d3 2)=some (.slice o28 l29 l30) ∧
 ∃d31,o28=some d31 ∧
 ((0:Int)≤1∧1 < ((l29:Nat):Int)) ∧
 ∃b32,World.cell? w22 (Addr.add d31 3)=some (.bool b32) ∧
 (((b32=false →
 ∃o33 l34 l35,World.cell? w22 (Addr.add d3 2)=some (.slice o33 l34 l35) ∧
 ∃d36,o33=some d36 ∧
 ((0:Int)≤1∧1 < ((l34:Nat):Int)) ∧
 ∃o37 l38 l39,World.cell? w22 (Addr.add (Addr.add d36 3) 1)=some (.slice o37 l38 l39) ∧
 R (.returned (.bool (decide (((l38:Nat):Int) > 0)))) w22)) ∧
 ((b32=true →
 R (.returned (.bool false)) w22))))) ∧
 ((b26=false →
 ∃o40 l41 l42,World.cell? w22 (Addr.add d3 2)=some (.slice o40 l41 l42) ∧
 ∃d43,o40=some d43 ∧
 ((0:Int)≤1∧1 < ((l41:Nat):Int)) ∧
 ∃b44 o45 l46 l47 o48 l49 l50,World.cell? w22 (Addr.add d43 3)=some (.bool b44) ∧
 World.cell? w22 (Addr.add (Addr.add d43 3) 1)=some (.slice o45 l46 l47) ∧
 World.cell? w22 (Addr.add (Addr.add d43 3) 2)=some (.slice o48 l49 l50) ∧
 Calls Tryz.prog 116 #[(.agg #[(.bool b44),(.slice o45 l46 l47),(.slice o48 l49 l50)])] w22 (fun e51 w52 =>
 ∃b53 b54,e51=.returned (.tuple #[(.bool b53),(.bool b54)]) ∧
 (((((l24:Nat):Int) > 0 →
 (((b53=true →
 R (.returned (.bool b54)) w52)) ∧
 ((b53=false →
 R (.returned (.bool false)) w52))))) ∧
 ((¬((l24:Nat):Int) > 0 →
 R (.returned (.bool false)) w52)))))))))))))))) ∧
 ((((l7:Nat):Int)≠2 →
 (((((l7:Nat):Int)=17 →
 ∃(I55:Int→Int→World→Prop) (μ55:Int→Int→World→Nat),I55 0 0 w4 ∧
 (∀(n56:Int) (n57:Int) (j58:Nat→Value) (w58:World),I55 n56 n57 w58 →
 (((n57 < 16 →
 ∃o59 l60 l61,World.cell? w58 (Addr.add d3 2)=some (.slice o59 l60 l61) ∧
 ∃d62,o59=some d62 ∧
 ((0:Int)≤n57∧n57 < ((l60:Nat):Int)) ∧
 ∃b63 o64 l65 l66 o67 l68 l69,World.cell? w58 (Addr.add d62 ((Int.toNat n57) * 3))=some (.bool b63) ∧
 World.cell? w58 (Addr.add (Addr.add d62 ((Int.toNat n57) * 3)) 1)=some (.slice o64 l65 l66) ∧
 World.cell? w58 (Addr.add (Addr.add d62 ((Int.toNat n57) * 3)) 2)=some (.slice o67 l68 l69) ∧
 Calls Tryz.prog 116 #[(.agg #[(.bool b63),(.slice o64 l65 l66),(.slice o67 l68 l69)])] w58 (fun e70 w71 =>
 ∃b72 b73,e70=.returned (.tuple #[(.bool b72),(.bool b73)]) ∧
 (((b72=false →
 R (.returned (.bool false)) w71)) ∧
 ((b72=true →
 (((b73=true →
 I55 (IntKind.wrap .i64 (n56+1)) (IntKind.wrap .i64 (n57+1)) w71∧μ55 (IntKind.wrap .i64 (n56+1)) (IntKind.wrap .i64 (n57+1)) w71 < μ55 n56 n57 w58)) ∧
 ((b73=false →
 I55 n56 (IntKind.wrap .i64 (n57+1)) w71∧μ55 n56 (IntKind.wrap .i64 (n57+1)) w71 < μ55 n56 n57 w58))))))))) ∧
 ((¬n57 < 16 →
 ∃o74 l75 l76,World.cell? w58 (Addr.add d3 2)=some (.slice o74 l75 l76) ∧
 ∃d77,o74=some d77 ∧
 ((0:Int)≤16∧16 < ((l75:Nat):Int)) ∧
 ∃b78,World.cell? w58 (Addr.add d77 48)=some (.bool b78) ∧
 (((b78=true →
 R (.returned (.bool false)) w58)) ∧
 ((b78=false →
 ∃o79 l80 l81,World.cell? w58 (Addr.add d3 2)=some (.slice o79 l80 l81) ∧
 ∃d82,o79=some d82 ∧
 ((0:Int)≤16∧16 < ((l80:Nat):Int)) ∧
 ∃o83 l84 l85,World.cell? w58 (Addr.add (Addr.add d82 48) 1)=some (.slice o83 l84 l85) ∧
 (((((l84:Nat):Int) > 0 →
 R (.returned (.bool (decide ((IntKind.wrap .i64 (n56+1))≥2)))) w58)) ∧
 ((¬((l84:Nat):Int) > 0 →
 R (.returned (.bool (decide (n56≥2)))) w58)))))))))))) ∧
 ((((l7:Nat):Int)≠17 →
 R (.returned (.bool false)) w4)))))))))
theorem Z0n.vc (b0:Bool) (o1:Option Addr) (l1:Nat) (c1:Nat) (o2:Option Addr) (l2:Nat) (c2:Nat) (w:World) (R:Ending→World→Prop) (h:Z0n.Vc b0 o1 l1 c1 o2 l2 c2 w R):Calls Tryz.prog 93 #[(.agg #[(.bool b0),(.slice o1 l1 c1),(.slice o2 l2 c2)])] w R :=
 Z8 (R:=⟨R,false⟩) (ann:=[(17,[(8,.cell (.int .i64)),(9,.cell (.int .i64))])]) (args:=[.agg [.bool (.var b0),.slice o1 l1 c1,.slice o2 l2 c2]]) Tryz.func93 ZR (Eq.mp (by kernel_rfl:Z0n.Vc b0 o1 l1 c1 o2 l2 c2 w R=ZP (pA Tryz.prog ⟨R,false⟩) Tryz.prog [(17,[(8,.cell (.int .i64)),(9,.cell (.int .i64))])] Tryz.f93 [.agg [.bool (.var b0),.slice o1 l1 c1,.slice o2 l2 c2]] w) h)

abbrev Z0Z.n:Nat:=116
def Z0Z.Vc (b0:Bool) (o1:Option Addr) (l1 c1:Nat) (o2:Option Addr) (l2 c2:Nat) (w:World) (R:Ending→World→Prop):Prop :=
 ∀d3 w4,ZC w 111 #[(.bool b0),(.slice o1 l1 c1),(.slice o2 l2 c2)] d3 w4 →
 ∃b5,World.cell? w4 d3=some (.bool b5) ∧
 (((b5=false →
 ∀w6,ZN w4 w6 →
 ∃o7 l8 l9,World.cell? w6 (Addr.add d3 1)=some (.slice o7 l8 l9) ∧
 (((((l8:Nat):Int)=32 →
 ∃o10 l11 l12,World.cell? w6 (Addr.add d3 1)=some (.slice o10 l11 l12) ∧
 R (.returned (.tuple #[(.bool true),(.bool (decide (((l11:Nat):Int) > 0)))])) w6)) ∧
 ((((l8:Nat):Int)≠32 →
 ∃o13 l14 l15,World.cell? w6 (Addr.add d3 1)=some (.slice o13 l14 l15) ∧
 ∃o16 l17 l18,World.cell? w6 (Addr.add d3 1)=some (.slice o16 l17 l18) ∧
 R (.returned (.tuple #[(.bool (decide (((l14:Nat):Int)=0))),(.bool (decide (((l17:Nat):Int) > 0)))])) w6))))) ∧
 ((b5=true →
 ∃b19 o20 l21 l22 o23 l24 l25,World.cell? w4 d3=some (.bool b19) ∧
 World.cell? w4 (Addr.add d3 1)=some (.slice o20 l21 l22) ∧
 World.cell? w4 (Addr.add d3 2)=some (.slice o23 l24 l25) ∧
 Calls Tryz.prog 79 #[(.agg #[(.bool b19),(.slice o20 l21 l22),(.slice o23 l24 l25)])] w4 (fun e26 w27 =>
 ∃o28 l29 l30,e26=.returned (.slice o28 l29 l30) ∧
 (((((l29:Nat):Int) < 32 →
 ∃b31 o32 l33 l34 o35 l36 l37,World.cell? w27 d3=some (.bool b31) ∧
 World.cell? w27 (Addr.add d3 1)=some (.slice o32 l33 l34) ∧
 World.cell? w27 (Addr.add d3 2)=some (.slice o35 l36 l37) ∧
 Calls Tryz.prog 93 #[(.agg #[(.bool b31),(.slice o32 l33 l34),(.slice o35 l36 l37)])] w27 (fun e38 w39 =>
 ∃b40,e38=.returned (.bool b40) ∧
 R (.returned (.tuple #[(.bool b40),(.bool true)])) w39))) ∧
 ((¬((l29:Nat):Int) < 32 →
 R (.returned (.tuple #[(.bool false),(.bool true)])) w27)))))))
theorem Z0Z.vc (b0:Bool) (o1:Option Addr) (l1:Nat) (c1:Nat) (o2:Option Addr) (l2:Nat) (c2:Nat) (w:World) (R:Ending→World→Prop) (h:Z0Z.Vc b0 o1 l1 c1 o2 l2 c2 w R):Calls Tryz.prog 116 #[(.agg #[(.bool b0),(.slice o1 l1 c1),(.slice o2 l2 c2)])] w R :=
 Z8 (R:=⟨R,false⟩) (ann:=[]) (args:=[.agg [.bool (.var b0),.slice o1 l1 c1,.slice o2 l2 c2]]) Tryz.func116 ZR (Eq.mp (by kernel_rfl:Z0Z.Vc b0 o1 l1 c1 o2 l2 c2 w R=ZP (pA Tryz.prog ⟨R,false⟩) Tryz.prog [] Tryz.f116 [.agg [.bool (.var b0),.slice o1 l1 c1,.slice o2 l2 c2]] w) h)

abbrev Z0C.n:Nat:=59
def Z0C.Vc (o0:Option Addr) (l0 c0:Nat) (w:World) (R:Ending→World→Prop):Prop :=
 Calls Tryz.prog 60 #[(.slice o0 l0 c0)] w (fun e1 w2 =>
 ∃b3 o4 l5 l6 o7 l8 l9 n10,e1=.returned (.tuple #[(.agg #[(.bool b3),(.slice o4 l5 l6),(.slice o7 l8 l9)]),(.int .i64 n10)]) ∧
 ∀d11 w12,ZC w2 111 #[(.bool false),(.slice none 0 0),(.slice none 0 0)] d11 w12 →
 Z1 w12 d11 (.bool b3)∧∀w13,ZA w12 d11 (.bool b3) w13 →
 Z1 w13 (Addr.add d11 1) (.slice o4 l5 l6)∧∀w14,ZA w13 (Addr.add d11 1) (.slice o4 l5 l6) w14 →
 Z1 w14 (Addr.add d11 2) (.slice o7 l8 l9)∧∀w15,ZA w14 (Addr.add d11 2) (.slice o7 l8 l9) w15 →
 (((n10≠0 →
 R (.returned (.int .i64 n10)) w15)) ∧
 ((n10=0 →
 ∃b16 o17 l18 l19 o20 l21 l22,World.cell? w15 d11=some (.bool b16) ∧
 World.cell? w15 (Addr.add d11 1)=some (.slice o17 l18 l19) ∧
 World.cell? w15 (Addr.add d11 2)=some (.slice o20 l21 l22) ∧
 Calls Tryz.prog 93 #[(.agg #[(.bool b16),(.slice o17 l18 l19),(.slice o20 l21 l22)])] w15 (fun e23 w24 =>
 ∃b25,e23=.returned (.bool b25) ∧
 (((b25=false →
 R (.returned (.int .i64 143)) w24)) ∧
 ((b25=true →
 R (.returned (.int .i64 0)) w24))))))))
theorem Z0C.vc (o0:Option Addr) (l0:Nat) (c0:Nat) (w:World) (R:Ending→World→Prop) (h:Z0C.Vc o0 l0 c0 w R):Calls Tryz.prog 59 #[(.slice o0 l0 c0)] w R :=
 Z8 (R:=⟨R,false⟩) (ann:=[]) (args:=[.slice o0 l0 c0]) Tryz.func59 ZR (Eq.mp (by kernel_rfl:Z0C.Vc o0 l0 c0 w R=ZP (pA Tryz.prog ⟨R,false⟩) Tryz.prog [] Tryz.f59 [.slice o0 l0 c0] w) h)

end Go.Proofs.YtfghidehlnfdiaaGreat
end
