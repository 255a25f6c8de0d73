/- Contracts: items in memory, and as bytes. -/
/- Contracts: an item's size; its encoding. -/
/- Tries as plain Lean: a node's item, its bytes, its reference; how big they get. -/
/- Tries as plain Lean: bounds. -/
/- Decoding: plain Lean. -/
/- Nodes in memory. -/
/- Contracts: a node that is in sight; a leaf laid into a new branch. -/
/- Contracts: a node behind nibbles. -/
/- Contracts: items of nodes. -/
/- Rows of items that grow; a branch's item. -/
/- Nodes in memory under other labels; contracts: Get. -/
/- Contracts: put. -/
/- The verification conditions of some functions, printed by a program of ours (wip/PrintVc.lean). -/
/- Contracts: remove, pruned. -/
/- Hashes as keys of maps; rows of nodes with their hashes. -/
import Derived.Test.YtfghidehlnfdiaaGreatTP3
import Derived.Test.YtfghidehlnfdiaaGreatXKec
import Derived.Test.YtfghidehlnfdiaaGreatProg
import Derived.KernelRfl
import Derived.Maps.Keyed
import Derived.DeepKeys5
set_option linter.unusedVariables false
set_option linter.unusedSimpArgs false
section
namespace Go.Proofs.YtfghidehlnfdiaaGreat
open Go Go.Vcg Go.Trie
abbrev ZFj:TypeId:=111
abbrev ZHB:TypeId:=109
theorem Z8u:Tryz.prog.underlying ZHB=some (.slice ZFj):=by kernel_rfl
theorem ZE7:(Tryz.prog.info? ZFj).map (fun i=>(i.zero,i.size,i.bytes))=some (some (.agg #[.bool false,.slice none 0 0,.slice none 0 0]),3,56):=by kernel_rfl
mutual
def ItC (A:Nat→Prop) (w:World):It→Value→Value→Value→Prop
 | .s b,v1,v2,v3=>v1=.bool false∧(∃o c,v2=.slice o b.length c∧RdB w o b∧(b≠[]→∀d,o=some d→¬A d.block))∧v3=.slice none 0 0
 | .l xs,v1,v2,v3=>v1=.bool true∧v2=.slice none 0 0∧∃o c,v3=.slice o xs.length c∧Z1k A w xs o 0∧xs.length≤c
def Z1k (A:Nat→Prop) (w:World):List It→Option Addr→Nat→Prop
 | [],_,_=>True
 | x :: r,o,k=>(∃b f v1 v2 v3,o=some ⟨b,f,none⟩∧b < w.heap.size∧¬A b∧w.cell? ⟨b,f+k * 3,none⟩=some v1∧w.cell? ⟨b,f+k * 3+1,none⟩=some v2∧w.cell? ⟨b,f+k * 3+2,none⟩=some v3∧ItC A w x v1 v2 v3)∧Z1k A w r o (k+1)
end
section
variable {A:Nat→Prop}
mutual
theorem ItC.modA {S:Nat→Prop} {w w':World} (M:Vcg.Mod S w w') (hS:∀b,S b→A b):∀(x:It) {v1 v2 v3:Value},ItC A w x v1 v2 v3→ItC A w' x v1 v2 v3
 | .s b,_,_,_,h=>by
   simp only [ItC] at h ⊢
   obtain ⟨h1,⟨o,c,h2,h3,h5⟩,h4⟩:=h
   refine ⟨h1,⟨o,c,h2,?_,h5⟩,h4⟩
   intro hne
   obtain ⟨d,f,ho,hd,hc⟩:=h3 hne
   exact ⟨d,f,ho,Nat.lt_of_lt_of_le hd M.size,fun i hi=>(ZX M hd (fun hh=>h5 hne _ ho (hS _ hh))).trans (hc i hi)⟩
 | .l xs,_,_,_,h=>by
   simp only [ItC] at h ⊢
   obtain ⟨h1,h2,o,c,h3,h4,h5⟩:=h
   exact ⟨h1,h2,o,c,h3,Z1k.modA M hS xs h4,h5⟩
theorem Z1k.modA {S:Nat→Prop} {w w':World} (M:Vcg.Mod S w w') (hS:∀b,S b→A b):∀(xs:List It) {o:Option Addr} {k:Nat},Z1k A w xs o k→Z1k A w' xs o k
 | [],_,_,_=>by simp only [Z1k]
 | x :: r,_,_,h=>by
   simp only [Z1k] at h ⊢
   obtain ⟨⟨b,f,v1,v2,v3,ho,hb,hA,h1,h2,h3,h4⟩,h5⟩:=h
   exact ⟨⟨b,f,v1,v2,v3,ho,Nat.lt_of_lt_of_le hb M.size,hA,(ZX M hb (fun h=>hA (hS _ h))).trans h1,(ZX M hb (fun h=>hA (hS _ h))).trans h2,(ZX M hb (fun h=>hA (hS _ h))).trans h3,ItC.modA M hS x h4⟩,Z1k.modA M hS r h5⟩
end
theorem ItC.mod {w w':World} (M:Vcg.Mod NoB w w') (x:It) {v1 v2 v3:Value} (h:ItC A w x v1 v2 v3):ItC A w' x v1 v2 v3:=ItC.modA M (fun _ h=>h.elim) x h
theorem Z1k.mod {w w':World} (M:Vcg.Mod NoB w w') (xs:List It) {o:Option Addr} {k:Nat} (h:Z1k A w xs o k):Z1k A w' xs o k:=Z1k.modA M (fun _ h=>h.elim) xs h
mutual
theorem ItC.mono {A':Nat→Prop} {w:World} (hA:∀b,A' b→A b):∀(x:It) {v1 v2 v3:Value},ItC A w x v1 v2 v3→ItC A' w x v1 v2 v3
 | .s b,_,_,_,h=>by
   simp only [ItC] at h ⊢
   obtain ⟨h1,⟨o,c,h2,h3,h5⟩,h4⟩:=h
   exact ⟨h1,⟨o,c,h2,h3,fun hne d hd hh=>h5 hne d hd (hA _ hh)⟩,h4⟩
 | .l xs,_,_,_,h=>by
   simp only [ItC] at h ⊢
   obtain ⟨h1,h2,o,c,h3,h4,h5⟩:=h
   exact ⟨h1,h2,o,c,h3,Z1k.mono hA xs h4,h5⟩
theorem Z1k.mono {A':Nat→Prop} {w:World} (hA:∀b,A' b→A b):∀(xs:List It) {o:Option Addr} {k:Nat},Z1k A w xs o k→Z1k A' w xs o k
 | [],_,_,_=>by simp only [Z1k]
 | x :: r,_,_,h=>by
   simp only [Z1k] at h ⊢
   obtain ⟨⟨b,f,v1,v2,v3,ho,hb,hB,h1,h2,h3,h4⟩,h5⟩:=h
   exact ⟨⟨b,f,v1,v2,v3,ho,hb,fun hh=>hB (hA _ hh),h1,h2,h3,ItC.mono hA x h4⟩,Z1k.mono hA r h5⟩
end
theorem Z1k.get {w:World}:∀{xs:List It} {o:Option Addr} {k:Nat},Z1k A w xs o k→∀(j:Nat) (hj:j < xs.length),∃b f v1 v2 v3,o=some ⟨b,f,none⟩∧b < w.heap.size∧w.cell? ⟨b,f+(k+j) * 3,none⟩=some v1∧w.cell? ⟨b,f+(k+j) * 3+1,none⟩=some v2∧w.cell? ⟨b,f+(k+j) * 3+2,none⟩=some v3∧ItC A w xs[j] v1 v2 v3
 | x :: r,o,k,h,0,_=>by
   simp only [Z1k] at h
   obtain ⟨⟨b,f,v1,v2,v3,ho,hb,hB,hr⟩,_⟩:=h
   exact ⟨b,f,v1,v2,v3,ho,hb,hr⟩
 | x :: r,o,k,h,j+1,hj=>by
   simp only [Z1k] at h
   have:=h.2.get j (by simpa using hj)
   rw [show k+1+j=k+(j+1) by omega] at this
   exact this
theorem ItC.vals {w:World} {x:It} {v1 v2 v3:Value} (h:ItC A w x v1 v2 v3):∃b o1 l1 c1 o2 l2 c2,v1=.bool b∧v2=.slice o1 l1 c1∧v3=.slice o2 l2 c2:=by
 cases x with
 | s b =>
   simp only [ItC] at h
   obtain ⟨h1,⟨o,c,h2,h3⟩,h4⟩:=h
   exact ⟨_,_,_,_,_,_,_,h1,h2,h4⟩
 | l xs =>
   simp only [ItC] at h
   obtain ⟨h1,h2,o,c,h3,h4⟩:=h
   exact ⟨_,_,_,_,_,_,_,h1,h2,h3⟩

theorem encs_append:∀(xs ys:List It),Z1s (xs++ys)=Z1s xs++Z1s ys
 | [],ys=>by simp only [Z1s,List.nil_append]
 | x :: r,ys=>by simp only [Z1s,List.cons_append,encs_append r ys,List.append_assoc]
theorem Z20 (xs:List It) (j:Nat):(Z1s (xs.take j)).length≤(Z1s xs).length:=by
 have:=congrArg List.length (congrArg Z1s (List.take_append_drop j xs))
 rw [encs_append,List.length_append] at this
 omega
theorem Z5W (n b:Nat):1≤(Trie.Z2q n b).length∧(Trie.Z2q n b).length≤9:=by
 have:=Z4E n
 unfold Trie.Z2q
 split <;> simp <;> omega
theorem ZAY:∀(x:It) {w:World} {b:Bool} {o1:Option Addr} {l1 c1:Nat} {o2:Option Addr} {l2 c2:Nat},ItC A w x (.bool b) (.slice o1 l1 c1) (.slice o2 l2 c2)→(enc x).length≤2 ^ 20 →
  Calls Tryz.prog Z3R.n #[.agg #[.bool b,.slice o1 l1 c1,.slice o2 l2 c2]] w (fun e w'=>∃o k,e=.returned (.slice o (enc x).length k)∧ZW w w' tU8 1 o (enc x).length k ((enc x).map bV))
 | .s bs,w,b,o1,l1,c1,o2,l2,c2,h,hlen=>by
   simp only [ItC,Value.bool.injEq,Value.slice.injEq] at h
   obtain ⟨rfl,⟨o,c,⟨rfl,rfl,rfl⟩,hr,_⟩,rfl,rfl,rfl⟩:=h
   refine ZH fun R hR=>Z3R.vc _ _ _ _ _ _ _ _ _ ?_
   unfold Z3R.Vc
   rintro d w1 ⟨rfl,rfl⟩
   have X:=Blk.new w 111 #[.bool false,.slice o1 bs.length c1,.slice none 0 0]
   have M:=Mod.alloc (S:=NoB) w (.cells #[.bool false,.slice o1 bs.length c1,.slice none 0 0] 111)
   have hr1:=hr.mod' M
   generalize w.alloc (.cells #[.bool false,.slice o1 bs.length c1,.slice none 0 0] 111)=w1 at *
   simp only [Z6,Nat.zero_add]
   refine ⟨_,X.rd1 rfl,fun _=>⟨_,_,_,X.rd1 rfl,?_⟩,fun h=>by cases h⟩
   refine (Z5d hr1).mono ?_
   rintro _ w2 ⟨rfl,rfl⟩
   simp only [enc] at hlen hR
   refine ⟨_,rfl,fun ho=>⟨_,_,_,X.rd1 rfl,?_⟩,fun ho=>?_⟩
   ·rw [if_pos ho] at hR hlen
    refine (Z2C hr1 (by omega)).mono ?_
    rintro _ w3 ⟨o3,k3,rfl,F3⟩
    exact ⟨_,_,_,rfl,hR _ _ ⟨o3,k3,rfl,ZW.from_ F3 M⟩⟩
   ·rw [if_neg (by rw [ho]; simp),List.length_append] at hlen
    rw [if_neg (by rw [ho]; simp)] at hR
    rintro _ rfl
    have MD:=M.step_drew
    have X2:=X.mod' (Mod.drew (S:=NoB) w2)
    have hr2:=hr1.mod' (Mod.drew (S:=NoB) w2)
    generalize w2.drew=w3 at *
    refine ⟨_,_,_,X2.rd1 rfl,_,_,_,X2.rd1 rfl,?_⟩
    refine (Z4d bs.length 128 (by omega) (by omega)).mono ?_
    rintro _ w4 ⟨o4,k4,rfl,F4⟩
    obtain ⟨o5,k5,w5,hr5,F5⟩:=Za (ty:=Z07) (k2:=c1) F4 (hr2.mod' F4.mod) (by omega)
    refine ⟨_,_,_,rfl,(X2.mod' F4.mod).rd1 rfl,_,w5,hr5,_,_,_,rfl,hR _ _ ⟨o5,k5,?_,?_⟩⟩
    ·rw [List.length_append]
    ·rw [List.length_append]; exact ZW.from_ F5 MD
 | .l xs,w,b,o1,l1,c1,o2,l2,c2,h,hlen=>by
   have ih:∀y∈xs,∀{w:World} {b:Bool} {o1:Option Addr} {l1 c1:Nat} {o2:Option Addr} {l2 c2:Nat},ItC A w y (.bool b) (.slice o1 l1 c1) (.slice o2 l2 c2)→(enc y).length≤2 ^ 20 →
    Calls Tryz.prog Z3R.n #[.agg #[.bool b,.slice o1 l1 c1,.slice o2 l2 c2]] w (fun e w'=>∃o k,e=.returned (.slice o (enc y).length k)∧ZW w w' tU8 1 o (enc y).length k ((enc y).map bV)) :=
    fun y hy=>ZAY y
   simp only [ItC,Value.bool.injEq,Value.slice.injEq] at h
   obtain ⟨rfl,⟨rfl,rfl,rfl⟩,o,c,⟨rfl,rfl,rfl⟩,hI,hcc⟩:=h
   clear hcc
   refine ZH fun R hR=>Z3R.vc _ _ _ _ _ _ _ _ _ ?_
   unfold Z3R.Vc
   rintro d w1 ⟨rfl,rfl⟩
   have X:=Blk.new w 111 #[.bool true,.slice none 0 0,.slice o2 xs.length c2]
   have M:=Mod.alloc (S:=NoB) w (.cells #[.bool true,.slice none 0 0,.slice o2 xs.length c2] 111)
   have hI1:=Z1k.mod M xs hI
   generalize w.alloc (.cells #[.bool true,.slice none 0 0,.slice o2 xs.length c2] 111)=w1 at *
   simp only [Z6,Nat.zero_add]
   simp only [enc,List.length_append] at hlen
   simp only [enc] at hR
   refine ⟨_,X.rd1 rfl,fun h=>(by cases h),fun _=>⟨_,_,_,X.rd1 rfl,?_⟩⟩
   refine ⟨fun o' l' k' i w'=>∃j:Nat,i=(j:Int)∧j≤xs.length∧l'=(Z1s (xs.take j)).length∧ZW w1 w' tU8 1 o' l' k' ((Z1s (xs.take j)).map bV),fun _ _ _ i _=>((xs.length:Int) - i).toNat,
    ⟨0,rfl,Nat.zero_le _,by rw [List.take_zero]; simp only [Z1s]; rfl,by rw [List.take_zero]; simp only [Z1s]; exact ZW.nil (Mod.refl w1) _ _⟩,?_⟩
   have hxl:xs.length≤(Z1s xs).length:=by
    clear hI hI1 hlen hR ih X M
    induction xs with
    | nil=>simp
    | cons x r ihr =>
      have:1≤(enc x).length:=by
       cases x with
       | s b =>
         simp only [enc]
         split
         ·rename_i ho
          cases b with
          | nil=>simp [own] at ho
          | cons a r=>simp
         ·rw [List.length_append]; have:=(Z5W b.length 128).1; omega
       | l ys=>simp only [enc,List.length_append]; have:=(Z5W (Z1s ys).length 192).1; omega
      simp only [Z1s,List.length_append,List.length_cons]; omega
   rintro o' _ k' _ _ w2 ⟨j,rfl,hj,rfl,F⟩
   have hjle:=Z20 xs j
   refine ⟨fun hlt=>?_,fun hge=>?_⟩
   ·have hjl:j < xs.length:=by omega
    obtain ⟨B,f,v1,v2,v3,rfl,hB,h1,h2,h3,hx⟩:=(Z1k.mod F.mod xs hI1).get j hjl
    obtain ⟨b,p1,q1,r1,p2,q2,r2,rfl,rfl,rfl⟩:=hx.vals
    have htk:Z1s (xs.take (j+1))=Z1s (xs.take j)++enc xs[j]:=by
     rw [List.take_add_one,List.getElem?_eq_getElem hjl,encs_append]
     show _++Z1s [xs[j]]=_
     simp only [Z1s,List.append_nil]
    have hle2:=Z20 xs (j+1)
    rw [htk,List.length_append] at hle2
    rw [Nat.zero_add] at h1 h2 h3
    have ew:IntKind.wrap .i64 ((j:Int)+1)=((j+1:Nat):Int):=by rw [Z0 (by omega) (by omega)]; omega
    rw [ew]
    refine ⟨_,rfl,by omega,_,_,_,_,_,_,_,by rw [Z6,Int.toNat_natCast]; exact h1,by rw [Z6,Z6,Int.toNat_natCast]; exact h2,by rw [Z6,Z6,Int.toNat_natCast]; exact h3,?_⟩
    rintro d w3 ⟨rfl,rfl⟩
    have Y:=Blk.new w2 111 #[.bool false,.slice none 0 0,.slice none 0 0]
    have N:=Mod.alloc (S:=NoB) w2 (.cells #[.bool false,.slice none 0 0,.slice none 0 0] 111)
    simp only [Z6,Nat.zero_add]
    refine ⟨Y.canSet (by simp) rfl,?_⟩
    rintro _ rfl
    have Y1:=Y.set 0 (.bool b)
    have N1:=N.step_set (a:=⟨w2.heap.size,0,none⟩) (v:=.bool b) (fun h=>(Nat.lt_irrefl _ h).elim)
    refine ⟨Y1.canSet (by simp) rfl,?_⟩
    rintro _ rfl
    have Y2:=Y1.set 1 (.slice p1 q1 r1)
    have N2:=N1.step_set (a:=⟨w2.heap.size,1,none⟩) (v:=.slice p1 q1 r1) (fun h=>(Nat.lt_irrefl _ h).elim)
    refine ⟨Y2.canSet (by simp) rfl,?_⟩
    rintro _ rfl
    have Y3:=Y2.set 2 (.slice p2 q2 r2)
    have N3:=N2.step_set (a:=⟨w2.heap.size,2,none⟩) (v:=.slice p2 q2 r2) (fun h=>(Nat.lt_irrefl _ h).elim)
    refine ⟨_,_,_,_,_,_,_,Y3.rd1 rfl,Y3.rd1 rfl,Y3.rd1 rfl,?_⟩
    refine (ih _ (List.getElem_mem hjl) (ItC.mod N3 _ hx) (by omega)).mono ?_
    rintro _ w4 ⟨o4,k4,rfl,F4⟩
    obtain ⟨o5,k5,w5,hr5,F5⟩:=Za (ty:=Z07) (k2:=k4) ((F.mod' N3).mod' F4.mod) (ZQ F4) (by omega)
    refine ⟨_,_,_,rfl,_,w5,hr5,_,_,_,rfl,⟨j+1,rfl,hjl,?_,?_⟩,by omega⟩
    ·rw [htk,List.length_append]
    ·rw [htk]; exact F5
   ·obtain rfl:j=xs.length:=by omega
    rw [List.take_length] at F ⊢
    refine (Z4d (Z1s xs).length 192 (by omega) (by omega)).mono ?_
    rintro _ w4 ⟨o4,k4,rfl,F4⟩
    have hhl:=(Z5W (Z1s xs).length 192).2
    obtain ⟨o5,k5,w5,hr5,F5⟩:=Za (ty:=Z07) (k2:=k') F4 ((ZQ F).mod' F4.mod) (by omega)
    refine ⟨_,_,_,rfl,_,w5,hr5,_,_,_,rfl,hR _ _ ⟨o5,k5,?_,?_⟩⟩
    ·rw [List.length_append]
    ·rw [List.length_append]
     exact ZW.from_ (ZW.from_ F5 F.mod) M
 termination_by x=>SizeOf.sizeOf x
 decreasing_by
  have:=List.sizeOf_lt_of_mem hy
  simp; omega
end
end Go.Proofs.YtfghidehlnfdiaaGreat
end
section
namespace Go.Trie
mutual
def count:It→Nat
 | .s _=>1
 | .l xs=>1+Z0s xs
def Z0s:List It→Nat
 | []=>0
 | x :: r=>count x+Z0s r
end
mutual
def dep:It→Nat
 | .s _=>1
 | .l xs=>1+ZFz xs
def ZFz:List It→Nat
 | []=>0
 | x :: r=>max (dep x) (ZFz r)
end
theorem Z3l:∀(xs ys:List It),Z0s (xs++ys)=Z0s xs+Z0s ys
 | [],ys=>by simp only [Z0s,List.nil_append,Nat.zero_add]
 | x :: r,ys=>by simp only [Z0s,List.cons_append,Z3l r ys,Nat.add_assoc]
theorem Z4r (xs:List It) (j:Nat):Z0s (xs.take j)≤Z0s xs:=by
 have:=congrArg Z0s (List.take_append_drop j xs)
 rw [Z3l] at this
 omega
theorem Z65:∀{xs:List It} {x:It},x∈xs→dep x≤ZFz xs
 | y :: r,x,h=>by
   simp only [ZFz]
   rcases List.mem_cons.1 h with rfl | h
   ·omega
   ·have:=Z65 h; omega
theorem ZDq (x:It):1≤count x:=by cases x <;> simp only [count] <;> omega
theorem ZBF (x:It):1≤dep x:=by cases x <;> simp only [dep] <;> omega
theorem Z64:∀(xs:List It),xs.length≤Z0s xs
 | []=>Nat.zero_le _
 | x :: r=>by
   have h1:=Z64 r
   have h2:=ZDq x
   simp only [Z0s,List.length_cons]; omega
theorem ZAF (n b c:Nat):(Z2q n b).length=(Z2q n c).length:=by unfold Z2q; split <;> simp
end Go.Trie
namespace Go.Proofs.YtfghidehlnfdiaaGreat
open Go Go.Vcg Go.Trie
section
variable {A:Nat→Prop}
theorem Z5E {w:World} {D n depth:Nat} (W:Blk w D 217 #[.int .i64 (n:Int)]) (hd:depth≤16) (hn:n < 4096) :
  Calls Tryz.prog Zo.n #[.pointer (some ⟨D,0,none⟩),.int .i64 (depth:Int)] w (fun e w'=>e=.returned (.int .i64 0)∧Vcg.Mod (·=D) w w'∧Blk w' D 217 #[.int .i64 ((n+1:Nat):Int)]):=by
 refine Zo.vc _ _ _ _ ?_
 unfold Zo.Vc
 refine ⟨fun h=>by omega,fun _=>⟨_,W.rd1 rfl,fun h=>by omega,fun _=>⟨_,W.rd1 rfl,W.canSet (by simp) rfl,?_⟩⟩⟩
 rintro _ rfl
 have ew:IntKind.wrap .i64 ((n:Int)+1)=((n+1:Nat):Int):=by rw [Z0 (by omega) (by omega)]; omega
 rw [ew]
 exact ⟨rfl,Mod.setCell w ⟨D,0,none⟩ _,W.set 0 _⟩
theorem ZM {w0 w w':World} {D:Nat} (M:Vcg.Mod NoB w0 w) (h:Vcg.Mod (·=D) w w') (hD:w0.heap.size≤D):Vcg.Mod NoB w0 w' :=
 M.trans h (fun i hi e=>by subst e; omega)
theorem Z8q:∀(x:It) {w0 w:World} {b:Bool} {o1:Option Addr} {l1 c1:Nat} {o2:Option Addr} {l2 c2:Nat} {D n depth:Nat},ItC A w0 x (.bool b) (.slice o1 l1 c1) (.slice o2 l2 c2)→Vcg.Mod NoB w0 w→w0.heap.size≤D→Blk w D 217 #[.int .i64 (n:Int)]→depth+dep x≤17→n+count x≤4096→(enc x).length≤2 ^ 20 →
  Calls Tryz.prog Zs.n #[.pointer (some ⟨D,0,none⟩),.agg #[.bool b,.slice o1 l1 c1,.slice o2 l2 c2],.int .i64 (depth:Int)] w (fun e w'=>e=.returned (.tuple #[.int .i64 (((enc x).length:Nat):Int),.int .i64 0])∧Vcg.Mod (·=D) w w'∧Blk w' D 217 #[.int .i64 ((n+count x:Nat):Int)])
 | .s bs,w0,w,b,o1,l1,c1,o2,l2,c2,D,n,depth,h,M,hD,W,hdp,hn,hlen=>by
   simp only [ItC,Value.bool.injEq,Value.slice.injEq] at h
   obtain ⟨rfl,⟨o,c,⟨rfl,rfl,rfl⟩,hr,_⟩,rfl,rfl,rfl⟩:=h
   simp only [dep,count] at hdp hn ⊢
   refine ZH fun R hR=>Zs.vc _ _ _ _ _ _ _ _ _ _ _ ?_
   unfold Zs.Vc
   rintro d w1 ⟨rfl,rfl⟩
   have X:=Blk.new w 111 #[.bool false,.slice o1 bs.length c1,.slice none 0 0]
   have M1:=Mod.alloc (S:=(·=D)) w (.cells #[.bool false,.slice o1 bs.length c1,.slice none 0 0] 111)
   have W1:=W.alloc (.cells #[.bool false,.slice o1 bs.length c1,.slice none 0 0] 111)
   have hne:w.heap.size≠D:=by have:=W.lt; omega
   generalize w.alloc (.cells #[.bool false,.slice o1 bs.length c1,.slice none 0 0] 111)=w1 at *
   generalize w.heap.size=N at *
   refine (Z5E W1 (by omega) (by omega)).mono ?_
   rintro _ w2 ⟨rfl,M2,W2⟩
   have X2:=X.mod M2 hne
   have M02:=M1.trans M2 (fun _ _ h=>h)
   have hr2:=hr.mod' (ZM M M02 hD)
   refine ⟨_,rfl,fun h=>(h rfl).elim,fun _=>?_⟩
   simp only [Z6,Nat.zero_add]
   simp only [enc] at hlen hR
   refine ⟨fun w'=>w'=w2∧own bs=false,⟨fun b w'=>b=false∧w'=w2,⟨_,X2.rd1 rfl,fun h=>(by cases h),fun _=>⟨_,X2.rd1 rfl,fun _=>⟨_,_,_,X2.rd1 rfl,by simp,rfl⟩,fun h=>by cases h⟩⟩,?_⟩,?_⟩
   ·rintro _ _ _ ⟨rfl,rfl⟩
    refine ⟨fun h=>(by cases h),fun _=>⟨_,_,_,X2.rd1 rfl,?_⟩⟩
    refine (Z5d hr2).mono ?_
    rintro _ w3 ⟨rfl,rfl⟩
    refine ⟨_,rfl,fun ho=>?_,fun ho=>⟨rfl,ho⟩⟩
    rw [if_pos ho] at hR
    have hl1:bs.length=1:=by
     cases bs with
     | nil=>simp [own] at ho
     | cons a r=>cases r with
       | nil=>rfl
       | cons b r=>simp [own] at ho
    exact hR _ _ ⟨by rw [hl1]; rfl,M02,W2⟩
   ·rintro _ w2 ⟨rfl,ho⟩
    rw [if_neg (by rw [ho]; simp),List.length_append] at hR hlen
    refine ⟨_,_,_,X2.rd1 rfl,_,_,_,X2.rd1 rfl,?_⟩
    refine ⟨fun a i w'=>a=((bs.length:Nat):Int)∧i=0∧w'=w2,fun _ _ _=>0,⟨rfl,rfl,rfl⟩,?_⟩
    rintro _ _ _ _ ⟨rfl,rfl,rfl⟩
    refine ⟨fun h=>absurd h (by simp),fun _=>?_⟩
    refine (Z4d bs.length 0 (by omega) (by omega)).mono ?_
    rintro _ w4 ⟨o4,k4,rfl,F4⟩
    refine ⟨_,_,_,rfl,hR _ _ ⟨?_,M02.trans (F4.mod.mono (fun _ _ h=>h.elim)) (fun _ _ h=>h),W2.mod' F4.mod⟩⟩
    have hb:=ZAF bs.length 0 128
    have ew:IntKind.wrap .i64 (((bs.length:Nat):Int)+(((Trie.Z2q bs.length 0).length:Nat):Int))=(((Trie.Z2q bs.length 128).length+bs.length:Nat):Int):=by
     rw [hb,Z0 (by omega) (by omega)]; omega
    rw [ew]
 | .l xs,w0,w,b,o1,l1,c1,o2,l2,c2,D,n,depth,h,M,hD,W,hdp,hn,hlen=>by
   have ih:∀y∈xs,∀{w0 w:World} {b:Bool} {o1:Option Addr} {l1 c1:Nat} {o2:Option Addr} {l2 c2:Nat} {D n depth:Nat},ItC A w0 y (.bool b) (.slice o1 l1 c1) (.slice o2 l2 c2)→Vcg.Mod NoB w0 w→w0.heap.size≤D→Blk w D 217 #[.int .i64 (n:Int)]→depth+dep y≤17→n+count y≤4096→(enc y).length≤2 ^ 20 →
    Calls Tryz.prog Zs.n #[.pointer (some ⟨D,0,none⟩),.agg #[.bool b,.slice o1 l1 c1,.slice o2 l2 c2],.int .i64 (depth:Int)] w (fun e w'=>e=.returned (.tuple #[.int .i64 (((enc y).length:Nat):Int),.int .i64 0])∧Vcg.Mod (·=D) w w'∧Blk w' D 217 #[.int .i64 ((n+count y:Nat):Int)]) :=
    fun y hy=>Z8q y
   simp only [ItC,Value.bool.injEq,Value.slice.injEq] at h
   obtain ⟨rfl,⟨rfl,rfl,rfl⟩,o,c,⟨rfl,rfl,rfl⟩,hI,hcc⟩:=h
   clear hcc
   simp only [dep,count] at hdp hn ⊢
   refine ZH fun R hR=>Zs.vc _ _ _ _ _ _ _ _ _ _ _ ?_
   unfold Zs.Vc
   rintro d w1 ⟨rfl,rfl⟩
   have X:=Blk.new w 111 #[.bool true,.slice none 0 0,.slice o2 xs.length c2]
   have M1:=Mod.alloc (S:=(·=D)) w (.cells #[.bool true,.slice none 0 0,.slice o2 xs.length c2] 111)
   have W1:=W.alloc (.cells #[.bool true,.slice none 0 0,.slice o2 xs.length c2] 111)
   have hne:w.heap.size≠D:=by have:=W.lt; omega
   generalize w.alloc (.cells #[.bool true,.slice none 0 0,.slice o2 xs.length c2] 111)=w1 at *
   generalize w.heap.size=N at *
   refine (Z5E W1 (by omega) (by omega)).mono ?_
   rintro _ w2 ⟨rfl,M2,W2⟩
   have X2:=X.mod M2 hne
   have M02:=M1.trans M2 (fun _ _ h=>h)
   refine ⟨_,rfl,fun h=>(h rfl).elim,fun _=>?_⟩
   simp only [Z6,Nat.zero_add]
   simp only [enc,List.length_append] at hlen hR
   refine ⟨fun w'=>w'=w2,⟨fun b w'=>b=false∧w'=w2,⟨_,X2.rd1 rfl,fun _=>⟨_,_,_,X2.rd1 rfl,fun h=>absurd h (by simp),fun _=>⟨_,X2.rd1 rfl,fun h=>(by cases h),fun _=>⟨rfl,rfl⟩⟩⟩,fun h=>by cases h⟩,?_⟩,?_⟩
   ·rintro _ _ _ ⟨rfl,rfl⟩
    refine ⟨fun h=>(by cases h),fun _=>⟨_,_,_,X2.rd1 rfl,?_⟩⟩
    refine (Z5d (b:=[]) (RdB.nil _ _)).mono ?_
    rintro _ w3 ⟨rfl,rfl⟩
    exact ⟨_,rfl,fun ho=>(by simp [own] at ho),fun _=>rfl⟩
   ·rintro _ w2 rfl
    refine ⟨_,_,_,X2.rd1 rfl,_,_,_,X2.rd1 rfl,?_⟩
    refine ⟨fun a i w'=>∃j:Nat,i=(j:Int)∧j≤xs.length∧a=(((Z1s (xs.take j)).length:Nat):Int)∧Vcg.Mod (·=D) w w'∧Blk w' D 217 #[.int .i64 ((n+1+Z0s (xs.take j):Nat):Int)],fun _ i _=>((xs.length:Int) - i).toNat,
     ⟨0,rfl,Nat.zero_le _,by rw [List.take_zero]; simp only [Z1s]; rfl,M02,by rw [List.take_zero]; simp only [Z0s]; exact W2⟩,?_⟩
    have hcl:=Z64 xs
    rintro _ _ _ w4 ⟨j,rfl,hj,rfl,M4,W4⟩
    have hle1:=Z20 xs j
    refine ⟨fun hlt=>?_,fun hge=>?_⟩
    ·have hjl:j < xs.length:=by omega
     have M04:=ZM M M4 hD
     obtain ⟨B,f,v1,v2,v3,rfl,hB,h1,h2,h3,hx⟩:=hI.get j hjl
     obtain ⟨b,p1,q1,r1,p2,q2,r2,rfl,rfl,rfl⟩:=hx.vals
     have htk:xs.take (j+1)=xs.take j++[xs[j]]:=by rw [List.take_add_one,List.getElem?_eq_getElem hjl]; rfl
     have he:Z1s (xs.take (j+1))=Z1s (xs.take j)++enc xs[j]:=by rw [htk,encs_append]; simp only [Z1s,List.append_nil]
     have hcn:Z0s (xs.take (j+1))=Z0s (xs.take j)+count xs[j]:=by rw [htk,Z3l]; simp only [Z0s,Nat.add_zero]
     have hle2:=Z20 xs (j+1)
     have hc2:=Z4r xs (j+1)
     have hdm:=Z65 (List.getElem_mem hjl)
     rw [he,List.length_append] at hle2
     rw [hcn] at hc2
     rw [Nat.zero_add] at h1 h2 h3
     have cl:∀i,w4.cell? ⟨B,i,none⟩=w0.cell? ⟨B,i,none⟩:=fun i=>ZX M04 hB (fun h=>h)
     have ew:IntKind.wrap .i64 ((j:Int)+1)=((j+1:Nat):Int):=by rw [Z0 (by omega) (by omega)]; omega
     have ew2:IntKind.wrap .i64 ((depth:Int)+1)=((depth+1:Nat):Int):=by rw [Z0 (by omega) (by omega)]; omega
     rw [ew,ew2]
     refine ⟨_,rfl,by omega,_,_,_,_,_,_,_,by rw [Z6,Int.toNat_natCast]; exact (cl _).trans h1,by rw [Z6,Z6,Int.toNat_natCast]; exact (cl _).trans h2,by rw [Z6,Z6,Int.toNat_natCast]; exact (cl _).trans h3,?_⟩
     rintro d w5 ⟨rfl,rfl⟩
     have Y:=Blk.new w4 111 #[.bool false,.slice none 0 0,.slice none 0 0]
     have Q:=Mod.alloc (S:=NoB) w4 (.cells #[.bool false,.slice none 0 0,.slice none 0 0] 111)
     simp only [Z6,Nat.zero_add]
     refine ⟨Y.canSet (by simp) rfl,?_⟩
     rintro _ rfl
     have Y1:=Y.set 0 (.bool b)
     have Q1:=Q.step_set (a:=⟨w4.heap.size,0,none⟩) (v:=.bool b) (fun h=>(Nat.lt_irrefl _ h).elim)
     refine ⟨Y1.canSet (by simp) rfl,?_⟩
     rintro _ rfl
     have Y2:=Y1.set 1 (.slice p1 q1 r1)
     have Q2:=Q1.step_set (a:=⟨w4.heap.size,1,none⟩) (v:=.slice p1 q1 r1) (fun h=>(Nat.lt_irrefl _ h).elim)
     refine ⟨Y2.canSet (by simp) rfl,?_⟩
     rintro _ rfl
     have Y3:=Y2.set 2 (.slice p2 q2 r2)
     have Q3:=Q2.step_set (a:=⟨w4.heap.size,2,none⟩) (v:=.slice p2 q2 r2) (fun h=>(Nat.lt_irrefl _ h).elim)
     refine ⟨_,_,_,_,_,_,_,Y3.rd1 rfl,Y3.rd1 rfl,Y3.rd1 rfl,?_⟩
     refine (ih _ (List.getElem_mem hjl) hx (M04.trans Q3 (fun _ _ h=>h)) hD (W4.mod' Q3) (depth:=depth+1) (by omega) (by omega) (by omega)).mono ?_
     rintro _ w6 ⟨rfl,M6,W6⟩
     refine ⟨_,_,rfl,fun h=>(h rfl).elim,fun _=>⟨⟨j+1,rfl,hjl,?_,(M4.trans (Q3.mono (fun _ _ h=>h.elim)) (fun _ _ h=>h)).trans M6 (fun _ _ h=>h),?_⟩,by omega⟩⟩
     ·rw [he,List.length_append,Z0 (by omega) (by omega)]; omega
     ·rw [hcn,show n+1+(Z0s (xs.take j)+count xs[j])=n+1+Z0s (xs.take j)+count xs[j] by omega]; exact W6
    ·obtain rfl:j=xs.length:=by omega
     rw [List.take_length] at W4 ⊢
     refine (Z4d (Z1s xs).length 0 (by omega) (by omega)).mono ?_
     rintro _ w5 ⟨o5,k5,rfl,F5⟩
     have hb:=ZAF (Z1s xs).length 0 192
     refine ⟨_,_,_,rfl,hR _ _ ⟨?_,M4.trans (F5.mod.mono (fun _ _ h=>h.elim)) (fun _ _ h=>h),?_⟩⟩
     ·have ew:IntKind.wrap .i64 ((((Z1s xs).length:Nat):Int)+(((Trie.Z2q (Z1s xs).length 0).length:Nat):Int))=(((Trie.Z2q (Z1s xs).length 192).length+(Z1s xs).length:Nat):Int):=by
        rw [hb,Z0 (by omega) (by omega)]; omega
      rw [ew]
     ·rw [show n+(1+Z0s xs)=n+1+Z0s xs by omega]
      exact W4.mod' F5.mod
 termination_by x=>SizeOf.sizeOf x
 decreasing_by
  have:=List.sizeOf_lt_of_mem hy
  simp; omega
theorem Z9c {x:It} {w:World} {v1 v2 v3:Value} (h:ItC A w x v1 v2 v3) (hd:dep x≤16) (hn:count x≤4096) (hl:(enc x).length≤65536) :
  Calls Tryz.prog Z2L.n #[.agg #[v1,v2,v3]] w (fun e w'=>∃o k,e=.returned (.tuple #[.slice o (enc x).length k,.int .i64 0])∧ZW w w' tU8 1 o (enc x).length k ((enc x).map bV)):=by
 obtain ⟨b,o1,l1,c1,o2,l2,c2,rfl,rfl,rfl⟩:=h.vals
 refine Z2L.vc _ _ _ _ _ _ _ _ _ ?_
 unfold Z2L.Vc
 rintro d w1 ⟨rfl,rfl⟩ d5 w2 ⟨rfl,rfl⟩
 have M1:=Mod.alloc (S:=NoB) w (.cells #[.bool b,.slice o1 l1 c1,.slice o2 l2 c2] 111)
 have M2:=M1.step_alloc (.cells #[.int .i64 0] 217)
 have X:=(Blk.new w 111 #[.bool b,.slice o1 l1 c1,.slice o2 l2 c2]).alloc (.cells #[.int .i64 0] 217)
 have W:=Blk.new (w.alloc (.cells #[.bool b,.slice o1 l1 c1,.slice o2 l2 c2] 111)) 217 #[.int .i64 0]
 have hsz:(w.alloc (.cells #[.bool b,.slice o1 l1 c1,.slice o2 l2 c2] 111)).heap.size=w.heap.size+1:=ZD _ _
 generalize (w.alloc (.cells #[.bool b,.slice o1 l1 c1,.slice o2 l2 c2] 111)).heap.size=D at *
 generalize (w.alloc (.cells #[.bool b,.slice o1 l1 c1,.slice o2 l2 c2] 111)).alloc (.cells #[.int .i64 0] 217)=w2 at *
 simp only [Z6,Nat.zero_add]
 refine ⟨_,_,_,_,_,_,_,X.rd1 rfl,X.rd1 rfl,X.rd1 rfl,?_⟩
 refine (Z8q x h M2 (by omega) W (n:=0) (depth:=1) (by omega) (by omega) (by omega)).mono ?_
 rintro _ w3 ⟨rfl,M3,_⟩
 have X3:=X.mod M3 (by omega)
 have M03:=ZM M2 M3 (by omega)
 refine ⟨_,_,rfl,fun h=>(h rfl).elim,fun _=>⟨fun h=>by omega,fun _=>⟨_,_,_,_,_,_,_,X3.rd1 rfl,X3.rd1 rfl,X3.rd1 rfl,?_⟩⟩⟩
 refine (ZAY x (ItC.mod M03 x h) (by omega)).mono ?_
 rintro _ w4 ⟨o4,k4,rfl,F4⟩
 exact ⟨_,_,_,rfl,o4,k4,rfl,ZW.from_ F4 M03⟩
end
end Go.Proofs.YtfghidehlnfdiaaGreat
end
section
namespace Go.Trie
open Go.Vcg
def Z3C (x:It):It:=if 32≤(enc x).length then .s (sumOf (enc x)) else x
def Z2k (p:By) (leaf:Bool):By:=(Z82 p leaf).1
def Z2B:Nd→It
 | .nil=>.s []
 | .leaf p v=>.l [.s (Z2k p true),.s v]
 | .row p c=>.l [.s (Z2k p false),Z3C (Z2B c)]
 | .branch cs v=>.l (((List.finRange 16).map fun i=>Z3C (Z2B (cs i)))++[.s v])
def Z5G (n:Nd):It:=Z3C (Z2B n)
def bytesOf (n:Nd):By:=enc (Z2B n)
theorem ZCH (n b:Nat):1≤(Z2q n b).length:=by unfold Z2q; split <;> simp
theorem Z9A (n b:Nat):(Z2q n b).length≤9:=by
 have:=Z4E n
 unfold Z2q; split <;> simp <;> omega
theorem ZDw (x:It):1≤(enc x).length:=by
 cases x with
 | s b =>
   simp only [enc]
   split
   ·rename_i ho
    cases b with
    | nil=>simp [own] at ho
    | cons a r=>simp
   ·rw [List.length_append]; have:=ZCH b.length 128; omega
 | l xs=>simp only [enc,List.length_append]; have:=ZCH (Z1s xs).length 192; omega
theorem Z95:∀(xs:List It),xs.length≤(Z1s xs).length
 | []=>by simp
 | x :: r=>by
   have h1:=ZDw x
   have h2:=Z95 r
   simp only [Z1s,List.length_append,List.length_cons]; omega
theorem ZDv:∀{xs:List It} {x:It},x∈xs→(enc x).length+xs.length≤(Z1s xs).length+1
 | y :: r,x,h=>by
   simp only [Z1s,List.length_append,List.length_cons]
   rcases List.mem_cons.1 h with rfl | h
   ·have:=Z95 r; omega
   ·have h1:=ZDv h
    have h2:=ZDw y
    omega
theorem Z2Y (b:By):(enc (.s b)).length≤9+b.length:=by
 simp only [enc]
 split
 ·omega
 ·rw [List.length_append]; have:=Z9A b.length 128; omega
end Go.Trie
end
section
namespace Go.Trie
open Go.Vcg
def Z60:Nd→Prop
 | .nil=>True
 | .leaf p v=>p.length≤128∧v.length≤1024
 | .row p c=>p.length≤128∧Z60 c
 | .branch cs v=>v.length≤1024∧∀i,Z60 (cs i)
theorem Z5e (p:By) (leaf:Bool) (h:p.length≤128):(Z2k p leaf).length≤65:=by
 unfold Z2k Z82
 split
 ·simp
 ·obtain ⟨n,hn⟩:=Z5B p leaf
  rw [Z5f n _ hn]
  have:(headed p leaf).length≤2+p.length:=by unfold headed; split <;> simp <;> omega
  omega
theorem ZCc (n:Nd):(enc (Z5G n)).length≤41:=by
 unfold Z5G Z3C
 split
 ·have:=Z2Y (sumOf (enc (Z2B n)))
  rw [Z04] at this; omega
 ·omega
theorem Z56 (cs:Fin 16→Nd):∀(l:List (Fin 16)),(Z1s (l.map fun i=>Z3C (Z2B (cs i)))).length≤41 * l.length
 | []=>by simp [Z1s]
 | i :: r=>by
   have h1:=ZCc (cs i)
   have h2:=Z56 cs r
   unfold Z5G at h1
   simp only [List.map_cons,Z1s,List.length_append,List.length_cons]; omega
theorem Z8z {n:Nd} (h:Z60 n):(bytesOf n).length≤2000:=by
 cases n with
 | nil=>simp only [bytesOf,Z2B]; have:=Z2Y []; simp at this; omega
 | leaf p v =>
   have h1:=Z5e p true h.1
   have h2:=Z2Y (Z2k p true)
   have h3:=Z2Y v
   have h4:=h.2
   simp only [bytesOf,Z2B]
   rw [enc]
   simp only [Z1s,List.length_append,List.length_nil]
   have:=Z9A (enc (It.s (Z2k p true))++(enc (It.s v)++[])).length 192
   simp only [List.length_append,List.length_nil] at this
   omega
 | row p c =>
   have h1:=Z5e p false h.1
   have h2:=Z2Y (Z2k p false)
   have h3:=ZCc c
   unfold Z5G at h3
   simp only [bytesOf,Z2B]
   rw [enc]
   simp only [Z1s,List.length_append,List.length_nil]
   have:=Z9A (enc (It.s (Z2k p false))++(enc (Z3C (Z2B c))++[])).length 192
   simp only [List.length_append,List.length_nil] at this
   omega
 | branch cs v =>
   have h1:=Z56 cs (List.finRange 16)
   rw [List.length_finRange] at h1
   have h2:=Z2Y v
   have h3:=h.1
   simp only [bytesOf,Z2B]
   rw [enc,Go.Proofs.YtfghidehlnfdiaaGreat.encs_append]
   simp only [Z1s,List.length_append,List.length_nil]
   have:=Z9A (Z1s ((List.finRange 16).map fun i=>Z3C (Z2B (cs i)))++(enc (It.s v)++[])).length 192
   simp only [List.length_append,List.length_nil] at this
   omega
end Go.Trie
end
section
namespace Go.Trie
def be (b:By):Nat:=b.foldl (fun n d=>n * 256+d.toNat) 0
theorem ZGK (b:By) (d:UInt8):be (b++[d])=be b * 256+d.toNat:=by simp [be]
theorem ZFv:∀(b:By) (n:Nat),b.foldl (fun n d=>n * 256+d.toNat) n < (n+1) * 256 ^ b.length
 | [],n=>by simp
 | d :: r,n=>by
   have h1:=ZFv r (n * 256+d.toNat)
   have h2:=d.toNat_lt
   have h3:(n * 256+d.toNat+1) * 256 ^ r.length≤((n+1) * 256) * 256 ^ r.length:=Nat.mul_le_mul_right _ (by omega)
   rw [List.foldl_cons,List.length_cons,Nat.pow_succ,Nat.mul_comm (256 ^ r.length) 256,← Nat.mul_assoc]
   omega
theorem ZHa (b:By):be b < 256 ^ b.length:=by
 have:=ZFv b 0
 simpa [be] using this
def hd (b:By):Except Int (Bool×Nat×Nat×Bool) :=
 let c:=(b.getD 0 0).toNat
 if c < 128 then .ok (false,0,1,true)
 else
  let base:=if c≥192 then 192 else 128
  if c - base≤55 then .ok (decide (c≥192),1,c - base,false)
  else
   let k:=c - base - 55
   if b.length < 1+k then .error 41
   else
    let m:=be ((b.drop 1).take k)
    if b.getD 1 0=0∨m≤55∨m > 2147483648 then .error 40
    else .ok (decide (c≥192),1+k,m,false)
mutual
def dcd:Nat→Nat→Nat→By→Except Int (It×Nat×Nat)
 | 0,_,_,_=>.error 0
 | f+1,d,n,b =>
   if b=[] then .error 41
   else if d > 16∨n=4096 then .error 43
   else match hd b with
   | .error e=>.error e
   | .ok (lst,a,k,ow) =>
     if k > b.length - a then .error 41
     else if lst=false then
      (if ow=false∧own ((b.drop a).take k)=true then .error 40 else .ok (.s ((b.drop a).take k),a+k,n+1))
     else match Z80 f (d+1) (n+1) ((b.drop a).take k) with
     | .error e=>.error e
     | .ok (xs,m)=>.ok (.l xs,a+k,m)
def Z80:Nat→Nat→Nat→By→Except Int (List It×Nat)
 | 0,_,_,_=>.error 0
 | f+1,d,n,b =>
   if b=[] then .ok ([],n)
   else match dcd f d n b with
   | .error e=>.error e
   | .ok (x,k,m)=>match Z80 f d m (b.drop k) with
     | .error e=>.error e
     | .ok (xs,m')=>.ok (x :: xs,m')
end
def Z4c (b:By):Except Int It :=
 if b.length > 65536 then .error 44
 else match dcd (2 * b.length+1) 1 0 b with
 | .error e=>.error e
 | .ok (x,k,_)=>if k < b.length then .error 42 else .ok x
theorem ZGQ {b:By} {l o:Bool} {a k:Nat} (h:hd b=.ok (l,a,k,o)) (hb:b≠[]) :
  (o=true→l=false∧a=0∧k=1∧(b.getD 0 0).toNat < 128)∧(o=false→1≤a∧a≤b.length∧∀base,(Z2q k base).length≤a):=by
 unfold hd at h
 simp only at h
 split at h
 ·rename_i hc
  cases h
  exact ⟨fun _=>⟨rfl,rfl,rfl,hc⟩,fun h=>by cases h⟩
 ·have hbl:1≤b.length:=List.length_pos_iff.2 hb
  generalize (if (b.getD 0 0).toNat≥192 then 192 else 128)=base at *
  split at h
  ·rename_i hle
   cases h
   exact ⟨fun h=>(by cases h),fun _=>⟨Nat.le_refl _,hbl,fun b=>by unfold Z2q; rw [if_pos hle]; simp⟩⟩
  ·split at h
   ·cases h
   ·rename_i hlen
    split at h
    ·cases h
    ·cases h
     refine ⟨fun h=>(by cases h),fun _=>⟨by omega,by omega,fun b'=>?_⟩⟩
     have hm:=ZHa ((b.drop 1).take ((b.getD 0 0).toNat - base - 55))
     rw [List.length_take,List.length_drop,Nat.min_eq_left (by omega)] at hm
     generalize be ((b.drop 1).take ((b.getD 0 0).toNat - base - 55))=m at *
     have hd:∀f q k,m < 256 ^ k→q=m→(digitsF f q).length≤k:=by
      clear hm
      have:∀f q k,q < 256 ^ k→(digitsF f q).length≤k:=by
       intro f
       induction f with
       | zero=>intro q k _; simp [digitsF]
       | succ f ih =>
         intro q k hq
         simp only [digitsF]
         split
         ·simp
         ·rename_i hq0
          cases k with
          | zero=>simp at hq; omega
          | succ k =>
            rw [Nat.pow_succ] at hq
            have:=ih (q / 256) k (by omega)
            simp only [List.length_append,List.length_singleton]; omega
      intro f q k h1 h2
      exact this f q k (h2 ▸ h1)
     have:=hd 8 m _ hm rfl
     unfold Z2q
     split
     ·simp only [List.length_singleton]; omega
     ·simp only [List.length_cons,Z2b]; omega
theorem Z7H:∀(f d n:Nat) (b:By),(∀x k m,dcd f d n b=.ok (x,k,m)→1≤k∧k≤b.length∧(enc x).length≤k∧dep x+d≤17∧m=n+count x∧(n≤4096→m≤4096)) ∧
  (∀xs m,Z80 f d n b=.ok (xs,m)→(Z1s xs).length≤b.length∧(xs=[]∨ZFz xs+d≤17)∧m=n+Z0s xs∧(n≤4096→m≤4096))
 | 0,_,_,_=>⟨fun x k m h=>by simp [dcd] at h,fun xs m h=>by simp [Z80] at h⟩
 | f+1,d,n,b=>by
   refine ⟨fun x k m h=>?_,fun xs m h=>?_⟩
   ·simp only [dcd] at h
    split at h
    ·cases h
    ·rename_i hb
     split at h
     ·cases h
     ·rename_i hdn
      split at h
      ·cases h
      ·rename_i lst a k' ow hh
       obtain ⟨ho1,ho2⟩:=ZGQ hh hb
       have hbl:1≤b.length:=List.length_pos_iff.2 hb
       split at h
       ·cases h
       ·rename_i hk
        have hil:((b.drop a).take k').length=k':=by rw [List.length_take,List.length_drop]; omega
        split at h
        ·rename_i hl
         split at h
         ·cases h
         ·rename_i how
          cases h
          cases ow with
          | true =>
            obtain ⟨_,rfl,rfl,hc⟩:=ho1 rfl
            refine ⟨by omega,by omega,?_,by simp only [dep]; omega,by simp only [count],by omega⟩
            obtain ⟨c,r,rfl⟩:∃c r,b=c :: r:=by cases b with
             | nil=>exact (hb rfl).elim
             | cons c r=>exact ⟨c,r,rfl⟩
            simp only [List.drop_zero,List.take_succ_cons,List.take_zero,enc]
            have:own [c]=true:=by
             simp only [own,decide_eq_true_eq]
             rw [UInt8.lt_iff_toNat_lt]
             simpa using hc
            rw [if_pos this]; simp
          | false =>
            obtain ⟨h1,h2,h3⟩:=ho2 rfl
            have hno:own ((b.drop a).take k')=false:=by
             cases hh:own ((b.drop a).take k') with
             | false=>rfl
             | true=>exact (how ⟨rfl,hh⟩).elim
            refine ⟨by omega,by omega,?_,by simp only [dep]; omega,by simp only [count],by omega⟩
            simp only [enc]
            rw [hno,if_neg (by simp),List.length_append,hil]
            have:=h3 128
            omega
        ·rename_i hl
         have hlt:lst=true:=by cases lst <;> simp_all
         have hof:ow=false:=by
          cases ow with
          | true=>have:=(ho1 rfl).1; rw [hlt] at this; cases this
          | false=>rfl
         obtain ⟨h1,h2,h3⟩:=ho2 hof
         split at h
         ·cases h
         ·rename_i xs m' hr
          cases h
          obtain ⟨i1,i2,i3,i4⟩:=(Z7H f (d+1) (n+1) ((b.drop a).take k')).2 _ _ hr
          rw [hil] at i1
          refine ⟨by omega,by omega,?_,?_,by simp only [count]; omega,by omega⟩
          ·simp only [enc,List.length_append]
           have hmono:(Z2q (Z1s xs).length 192).length≤(Z2q k' 192).length:=by
            have hdl:∀f p q,p≤q→(digitsF f p).length≤(digitsF f q).length:=by
             intro f
             induction f with
             | zero=>intro p q _; simp [digitsF]
             | succ f ih =>
               intro p q hpq
               simp only [digitsF]
               split
               ·simp
               ·rw [if_neg (by omega)]
                have:=ih (p / 256) (q / 256) (Nat.div_le_div_right hpq)
                simp only [List.length_append,List.length_singleton]; omega
            unfold Z2q
            split
            ·split <;> simp
            ·rw [if_neg (by omega)]
             simp only [List.length_cons,Z2b]
             have:=hdl 8 _ _ i1
             omega
           have:=h3 192
           omega
          ·simp only [dep]
           rcases i2 with rfl | i2
           ·simp only [ZFz]; omega
           ·omega
   ·simp only [Z80] at h
    split at h
    ·cases h
     exact ⟨by simp [Z1s],.inl rfl,by simp [Z0s],by omega⟩
    ·rename_i hb
     split at h
     ·cases h
     ·rename_i x k m1 hx
      split at h
      ·cases h
      ·rename_i ys m2 hy
       cases h
       obtain ⟨a1,a2,a3,a4,a5,a6⟩:=(Z7H f d n b).1 _ _ _ hx
       obtain ⟨b1,b2,b3,b4⟩:=(Z7H f d m1 (b.drop k)).2 _ _ hy
       rw [List.length_drop] at b1
       refine ⟨?_,.inr ?_,?_,by omega⟩
       ·simp only [Z1s,List.length_append]; omega
       ·simp only [ZFz]
        rcases b2 with rfl | b2
        ·simp only [ZFz]; omega
        ·omega
       ·simp only [Z0s]; omega
theorem ZGM {b:By} {x:It} (h:Z4c b=.ok x):b.length≤65536∧(enc x).length≤b.length∧dep x≤16∧count x≤4096:=by
 unfold Z4c at h
 split at h
 ·cases h
 ·split at h
  ·cases h
  ·rename_i y k m hd
   split at h
   ·cases h
   ·cases h
    obtain ⟨a1,a2,a3,a4,a5,a6⟩:=(Z7H _ _ _ _).1 _ _ _ hd
    refine ⟨by omega,by omega,by omega,by omega⟩
theorem ZBD (f d n:Nat):dcd (f+1) d n []=.error 41:=by simp [dcd]
theorem Z6s {f d n:Nat} {b:By} (hb:b≠[]) (h:d > 16∨n=4096):dcd (f+1) d n b=.error 43:=by simp only [dcd]; rw [if_neg hb,if_pos h]
theorem ZDr {f d n:Nat} {b:By} (hb:b≠[]) (h:¬(d > 16∨n=4096)):dcd (f+1) d n b=(match hd b with
  | .error e=>.error e
  | .ok (lst,a,k,ow) =>
    if k > b.length - a then .error 41
    else if lst=false then
     (if ow=false∧own ((b.drop a).take k)=true then .error 40 else .ok (.s ((b.drop a).take k),a+k,n+1))
    else match Z80 f (d+1) (n+1) ((b.drop a).take k) with
    | .error e=>.error e
    | .ok (xs,m)=>.ok (.l xs,a+k,m)):=by
 simp only [dcd]; rw [if_neg hb,if_neg h]
theorem Z93 (f d n:Nat):Z80 (f+1) d n []=.ok ([],n):=by simp [Z80]
theorem ZBE {f d n:Nat} {b:By} (hb:b≠[]):Z80 (f+1) d n b=(match dcd f d n b with
  | .error e=>.error e
  | .ok (x,k,m)=>match Z80 f d m (b.drop k) with
    | .error e=>.error e
    | .ok (xs,m')=>.ok (x :: xs,m')):=by
 simp only [Z80]; rw [if_neg hb]
theorem ZCG {b:By} {l o:Bool} {a k:Nat} (h:hd b=.ok (l,a,k,o)):k≤2147483648:=by
 have h255:=(b.getD 0 0).toNat_lt
 unfold hd at h
 simp only at h
 split at h
 ·cases h; decide
 ·generalize (if (b.getD 0 0).toNat≥192 then 192 else 128)=base at *
  split at h
  ·cases h; omega
  ·split at h
   ·cases h
   ·split at h
    ·cases h
    ·rename_i h'; cases h; omega
end Go.Trie
end
section
namespace Go.Proofs.YtfghidehlnfdiaaGreat
open Go Go.Vcg Go.Trie
section
variable {C:Type} {S:C→Prop} {w w':World} {lab lab':Nat→C} {c:C}
def brA (vs:Fin 16→Value) (o:Option Addr) (l k:Nat):Array Value:=(List.ofFn vs++[Value.slice o l k]).toArray
theorem Z6q (vs:Fin 16→Value) (o:Option Addr) (l k:Nat):(brA vs o l k).size=17:=by simp [brA]
theorem ZFw (vs:Fin 16→Value) (o:Option Addr) (l k:Nat) (i:Fin 16):(brA vs o l k)[i.val]?=some (vs i):=by
 unfold brA
 rw [List.getElem?_toArray,List.getElem?_append_left (by rw [List.length_ofFn]; exact i.isLt),List.getElem?_ofFn,dif_pos i.isLt]
theorem ZB5 (vs:Fin 16→Value) (o:Option Addr) (l k:Nat):(brA vs o l k)[16]?=some (.slice o l k):=by
 unfold brA
 rw [List.getElem?_toArray,List.getElem?_append_right (by simp)]
 simp
end
end Go.Proofs.YtfghidehlnfdiaaGreat
end
section
namespace Go.Proofs.YtfghidehlnfdiaaGreat
open Go Go.Vcg Go.Trie
section
variable {C:Type} {S:C→Prop} {w w':World} {lab lab':Nat→C} {c:C}
def ZHP (vs:Fin 16→Value) (a:Nat) (v:Value):Fin 16→Value:=fun i=>if i.val=a then v else vs i
theorem ZGL (vs:Fin 16→Value) (o:Option Addr) (l k a:Nat) (ha:a < 16) (v:Value):(brA vs o l k).setIfInBounds a v=brA (ZHP vs a v) o l k:=by
 apply Array.ext_getElem?
 intro i
 rw [Array.getElem?_setIfInBounds,Z6q]
 by_cases hi:i < 16
 ·rw [ZFw (ZHP vs a v) o l k ⟨i,hi⟩,ZFw vs o l k ⟨i,hi⟩]
  unfold ZHP
  by_cases hai:a=i
  ·subst hai; rw [if_pos rfl,if_pos (by omega),if_pos rfl]
  ·rw [if_neg hai,if_neg (fun e=>hai e.symm)]
 ·by_cases h16:i=16
  ·subst h16
   rw [if_neg (by omega),ZB5,ZB5]
  ·rw [if_neg (by omega),Array.getElem?_eq_none (by rw [Z6q]; omega),Array.getElem?_eq_none (by rw [Z6q]; omega)]
end
end Go.Proofs.YtfghidehlnfdiaaGreat
end
section
namespace Go.Proofs.YtfghidehlnfdiaaGreat
open Go Go.Vcg Go.Trie
section
variable {C:Type} {S:C→Prop} {w w1 w':World} {lab lab':Nat→C} {c:C}
theorem Z2x {o:Option Addr} {l k:Nat} {bs:List UInt8} (F:ZW w w1 tU8 1 o l k (bs.map bV)) (M:Vcg.Mod NoB w1 w'):CBy w' (ext lab w.heap.size c) c o bs :=
 ⟨F.own.bytes.mod' M,fun hne d hd=>ext_new (F.new d.block ⟨d,hd,rfl⟩)⟩
abbrev NoS {C:Type}:C→Prop:=fun _=>False
end
end Go.Proofs.YtfghidehlnfdiaaGreat
end
section
namespace Go.Proofs.YtfghidehlnfdiaaGreat
open Go Go.Vcg Go.Trie
section
variable {C:Type} {S:C→Prop} {w0 w w1 w':World} {lab lab':Nat→C} {c:C}
theorem ret3 {A A':Nat→Prop} {N:Nat} {x:It} {v1 v2 v3 a b d:Value} {R:Ending→World→Prop} (X:Blk w N 111 #[a,b,d]) (hI:ItC A w x v1 v2 v3) (hN:A N) (hA:∀b,A' b→A b)
  (hR:∀w',Vcg.Mod (·=N) w w'→ItC A' w' x v1 v2 v3→R (.returned (.agg #[v1,v2,v3])) w') :
  Z1 w ⟨N,0,none⟩ v1∧∀w1:World,ZA w ⟨N,0,none⟩ v1 w1→Z1 w1 ⟨N,1,none⟩ v2∧∀w2:World,ZA w1 ⟨N,1,none⟩ v2 w2→Z1 w2 ⟨N,2,none⟩ v3∧∀w3:World,ZA w2 ⟨N,2,none⟩ v3 w3 →
   ∃b6:Bool,∃o7:Option Addr,∃l8:Nat,∃l9:Nat,∃o10:Option Addr,∃l11:Nat,∃l12:Nat,World.cell? w3 ⟨N,0,none⟩=some (.bool b6)∧World.cell? w3 ⟨N,1,none⟩=some (.slice o7 l8 l9)∧World.cell? w3 ⟨N,2,none⟩=some (.slice o10 l11 l12) ∧
   R (.returned (.agg #[(.bool b6),(.slice o7 l8 l9),(.slice o10 l11 l12)])) w3:=by
 obtain ⟨b7,p7,q7,r7,p8,q8,r8,rfl,rfl,rfl⟩:=hI.vals
 refine ⟨X.canSet (by simp) rfl,?_⟩
 rintro _ rfl
 have X7:=X.set 0 (.bool b7)
 have Q7:Vcg.Mod (·=N) w _:=Mod.setCell w ⟨N,0,none⟩ (.bool b7)
 refine ⟨X7.canSet (by simp) rfl,?_⟩
 rintro _ rfl
 have X8:=X7.set 1 (.slice p7 q7 r7)
 have Q8:=Q7.step_set (a:=⟨N,1,none⟩) (v:=.slice p7 q7 r7) (fun _=>rfl)
 refine ⟨X8.canSet (by simp) rfl,?_⟩
 rintro _ rfl
 have X9:=X8.set 2 (.slice p8 q8 r8)
 have Q9:=Q8.step_set (a:=⟨N,2,none⟩) (v:=.slice p8 q8 r8) (fun _=>rfl)
 exact ⟨_,_,_,_,_,_,_,X9.rd1 rfl,X9.rd1 rfl,X9.rd1 rfl,hR _ Q9 (ItC.mono hA x (ItC.modA Q9 (fun b h=>by subst h; exact hN) x hI))⟩
end
end Go.Proofs.YtfghidehlnfdiaaGreat
end
section
namespace Go.Proofs.YtfghidehlnfdiaaGreat
open Go Go.Vcg Go.Trie
section
variable {C:Type} {S:C→Prop} {A:Nat→Prop} {w0 w w1 w':World} {lab lab':Nat→C} {c:C}
mutual
theorem ItC.old {w:World}:∀(x:It) {v1 v2 v3:Value},ItC A w x v1 v2 v3→ItC (fun b=>A b∨w.heap.size≤b) w x v1 v2 v3
 | .s b,_,_,_,h=>by
   simp only [ItC] at h ⊢
   obtain ⟨h1,⟨o,c,h2,h3,h5⟩,h4⟩:=h
   refine ⟨h1,⟨o,c,h2,h3,fun hne d hd hh=>?_⟩,h4⟩
   rcases hh with hh | hh
   ·exact h5 hne d hd hh
   ·obtain ⟨e,f,ho,he,_⟩:=h3 hne
    rw [ho] at hd; cases hd
    exact absurd he (Nat.not_lt.2 hh)
 | .l xs,_,_,_,h=>by
   simp only [ItC] at h ⊢
   obtain ⟨h1,h2,o,c,h3,h4,h5⟩:=h
   exact ⟨h1,h2,o,c,h3,Z1k.old xs h4,h5⟩
theorem Z1k.old {w:World}:∀(xs:List It) {o:Option Addr} {k:Nat},Z1k A w xs o k→Z1k (fun b=>A b∨w.heap.size≤b) w xs o k
 | [],_,_,_=>by simp only [Z1k]
 | x :: r,_,_,h=>by
   simp only [Z1k] at h ⊢
   obtain ⟨⟨b,f,v1,v2,v3,ho,hb,hB,h1,h2,h3,h4⟩,h5⟩:=h
   exact ⟨⟨b,f,v1,v2,v3,ho,hb,fun hh=>hh.elim hB (fun hh=>absurd hb (Nat.not_lt.2 hh)),h1,h2,h3,ItC.old x h4⟩,Z1k.old r h5⟩
end
theorem ZG3:∀(xs:List It) (k:Nat) {o:Option Addr},(∀j (hj:j < xs.length),∃g v1 v2 v3,o=some ⟨g,0,none⟩∧g < w.heap.size∧¬A g∧w.cell? ⟨g,(k+j) * 3,none⟩=some v1∧w.cell? ⟨g,(k+j) * 3+1,none⟩=some v2∧w.cell? ⟨g,(k+j) * 3+2,none⟩=some v3∧ItC A w xs[j] v1 v2 v3)→Z1k A w xs o k
 | [],_,_,_=>by simp only [Z1k]
 | x :: r,k,o,h=>by
   simp only [Z1k]
   constructor
   ·obtain ⟨g,v1,v2,v3,a,b,d,e,f,h5,h6⟩:=h 0 (by simp)
    rw [Nat.add_zero] at e f h5
    exact ⟨g,0,v1,v2,v3,a,b,d,by rw [Nat.zero_add]; exact e,by rw [Nat.zero_add]; exact f,by rw [Nat.zero_add]; exact h5,h6⟩
   ·refine ZG3 r (k+1) (fun j hj=>?_)
    obtain ⟨g,v1,v2,v3,a,b,d,e,f,h5,h6⟩:=h (j+1) (by simpa using hj)
    rw [show k+(j+1)=k+1+j by omega] at e f h5
    exact ⟨g,v1,v2,v3,a,b,d,e,f,h5,h6⟩
end
end Go.Proofs.YtfghidehlnfdiaaGreat
end
section
namespace Go.Proofs.YtfghidehlnfdiaaGreat
open Go Go.Vcg Go.Trie
section
variable {C C':Type} {S:C→Prop} {w0 w w1 w':World} {lab lab2:Nat→C} {lab':Nat→C'} {c:C} {c':C'}
theorem CBy.re {o:Option Addr} {bs:By} (h:CBy w lab c o bs) (hl:∀k,k < w.heap.size→lab k=c→lab' k=c'):CBy w lab' c' o bs:=by
 refine ⟨h.rd,fun hne d hd=>?_⟩
 obtain ⟨b,f,ho,hb,_⟩:=h.rd hne
 rw [ho] at hd; cases hd
 exact hl _ hb (h.clr hne _ ho)
theorem Z1B (k:By):Nib (nibbles k):=by
 intro x hx
 obtain ⟨a,_,ha⟩:=List.mem_flatMap.1 hx
 have h1:(a >>> 4).toNat < 16:=by
  have:∀n:Fin 256,(UInt8.ofFin n >>> 4).toNat < 16:=by decide +kernel
  exact this a.toFin
 have h2:(a &&& 15).toNat < 16:=by
  have:∀n:Fin 256,(UInt8.ofFin n &&& 15).toNat < 16:=by decide +kernel
  exact this a.toFin
 simp only [List.mem_cons,List.mem_nil_iff,or_false] at ha
 rcases ha with rfl | rfl
 ·exact h1
 ·exact h2
def says (r:Option By):By×Bool:=match r with
 | some v=>(v,true)
 | none=>([],false)
end
end Go.Proofs.YtfghidehlnfdiaaGreat
end
section
namespace Go.Trie
end Go.Trie
namespace Go.Trie
end Go.Trie
namespace Go.Proofs.YtfghidehlnfdiaaGreat
open Go Go.Vcg Go.Trie
section
variable {C:Type} {S:C→Prop} {w0 w w1 w':World} {lab lab2:Nat→C} {c:C}
theorem Stp.same {C:Type} {w w':World} (M:Vcg.Mod NoB w w') (L:Nat→C):Stp NoS w L w' L:=⟨M.os,M.tape,M.output,M.size,fun _ _=>rfl,fun k hk _=>M.block k hk (fun h=>h)⟩
end
end Go.Proofs.YtfghidehlnfdiaaGreat
end
section
namespace Go.Proofs.YtfghidehlnfdiaaGreat
open Go Go.Vcg
abbrev Z05.n:Nat:=23
def Z05.Vc (o0:Option Addr) (l0 c0:Nat) (o1:Option Addr) (l1 c1:Nat) (w:World) (R:Ending→World→Prop):Prop :=
 ∃(J2:World→Prop),(∃(I3:Int→World→Prop) (μ3:Int→World→Nat),I3 0 w ∧
 (∀(n4:Int) (j5:Nat→Value) (w5:World),I3 n4 w5 →
 (((n4 < ((l0:Nat):Int) →
 (((n4 < ((l1:Nat):Int) →
 ∀w6,ZN w5 w6 →
 ∃d7,o0=some d7 ∧
 ((0:Int)≤n4∧n4 < ((l0:Nat):Int)) ∧
 ∃n8,World.cell? w6 (Addr.add d7 (Int.toNat n4))=some (.int .u8 n8) ∧
 ∃d9,o1=some d9 ∧
 ((0:Int)≤n4∧n4 < ((l1:Nat):Int)) ∧
 ∃n10,World.cell? w6 (Addr.add d9 (Int.toNat n4))=some (.int .u8 n10) ∧
 (((n8≠n10 →
 ∀w11,ZN w6 w11 →
 ∃d12,o0=some d12 ∧
 ((0:Int)≤n4∧n4 < ((l0:Nat):Int)) ∧
 ∃n13,World.cell? w11 (Addr.add d12 (Int.toNat n4))=some (.int .u8 n13) ∧
 ∃d14,o1=some d14 ∧
 ((0:Int)≤n4∧n4 < ((l1:Nat):Int)) ∧
 ∃n15,World.cell? w11 (Addr.add d14 (Int.toNat n4))=some (.int .u8 n15) ∧
 (((n13 < n15 →
 R (.returned (.int .i64 (-1))) w11)) ∧
 ((¬n13 < n15 →
 R (.returned (.int .i64 1)) w11))))) ∧
 ((n8=n10 →
 I3 (IntKind.wrap .i64 (n4+1)) w6∧μ3 (IntKind.wrap .i64 (n4+1)) w6 < μ3 n4 w5))))) ∧
 ((¬n4 < ((l1:Nat):Int) →
 J2  w5))))) ∧
 ((¬n4 < ((l0:Nat):Int) →
 J2  w5))))) ∧
 (∀  (j16:Nat→Value) (w16:World),J2  w16 →
 (((((l0:Nat):Int) < ((l1:Nat):Int) →
 R (.returned (.int .i64 (-1))) w16)) ∧
 ((¬((l0:Nat):Int) < ((l1:Nat):Int) →
 (((((l0:Nat):Int) > ((l1:Nat):Int) →
 R (.returned (.int .i64 1)) w16)) ∧
 ((¬((l0:Nat):Int) > ((l1:Nat):Int) →
 R (.returned (.int .i64 0)) w16)))))))
theorem Z05.vc (o0:Option Addr) (l0:Nat) (c0:Nat) (o1:Option Addr) (l1:Nat) (c1:Nat) (w:World) (R:Ending→World→Prop) (h:Z05.Vc o0 l0 c0 o1 l1 c1 w R):Calls Tryz.prog 23 #[(.slice o0 l0 c0),(.slice o1 l1 c1)] w R :=
 Z8 (R:=⟨R,false⟩) (ann:=[(1000008,[]),(2,[(5,.cell (.int .i64))])]) (args:=[.slice o0 l0 c0,.slice o1 l1 c1]) Tryz.func23 ZR (Eq.mp (by kernel_rfl:Z05.Vc o0 l0 c0 o1 l1 c1 w R=ZP (pA Tryz.prog ⟨R,false⟩) Tryz.prog [(1000008,[]),(2,[(5,.cell (.int .i64))])] Tryz.f23 [.slice o0 l0 c0,.slice o1 l1 c1] w) h)

abbrev Z0d.n:Nat:=114
def Z0d.Vc (n0 n1:Int) (w:World) (R:Ending→World→Prop):Prop :=
 (((n1≤55 →
 ∀d2 w3,ZC w 5 #[(.int .u8 (IntKind.wrap .u8 (IntKind.wrap .i64 (n0+n1))))] d2 w3 →
 R (.returned (.slice (some d2) 1 1)) w3)) ∧
 ((¬n1≤55 →
 ∃(I4:Option Addr→Nat→Nat→Int→World→Prop) (μ4:Option Addr→Nat→Nat→Int→World→Nat),I4 none 0 0 n1 w ∧
 (∀(o5:Option Addr) (l5:Nat) (c5:Nat) (n6:Int) (j7:Nat→Value) (w7:World),I4 o5 l5 c5 n6 w7 →
 (((n6 > 0 →
 ∀d8 w9,ZC w7 5 #[(.int .u8 (IntKind.wrap .u8 (Int.tmod n6 256)))] d8 w9 →
 ∃v10 w11,Sem.run Tryz.prog (builtinV .append #[23,23] 23 #[(.slice (some d8) 1 1),(.slice o5 l5 c5)]) w9=.ok v10 w11 ∧
 ∃o12 l13 l14,v10=(.slice o12 l13 l14) ∧
 I4 o12 l13 l14 (IntKind.wrap .i64 (Int.tdiv n6 256)) w11∧μ4 o12 l13 l14 (IntKind.wrap .i64 (Int.tdiv n6 256)) w11 < μ4 o5 l5 c5 n6 w7)) ∧
 ((¬n6 > 0 →
 ∀d15 w16,ZC w7 5 #[(.int .u8 (IntKind.wrap .u8 (IntKind.wrap .i64 ((IntKind.wrap .i64 (n0+55))+((l5:Nat):Int)))))] d15 w16 →
 ∃v17 w18,Sem.run Tryz.prog (builtinV .append #[23,23] 23 #[(.slice (some d15) 1 1),(.slice o5 l5 c5)]) w16=.ok v17 w18 ∧
 ∃o19 l20 l21,v17=(.slice o19 l20 l21) ∧
 R (.returned (.slice o19 l20 l21)) w18)))))))
theorem Z0d.vc (n0:Int) (n1:Int) (w:World) (R:Ending→World→Prop) (h:Z0d.Vc n0 n1 w R):Calls Tryz.prog 114 #[(.int .i64 n0),(.int .i64 n1)] w R :=
 Z8 (R:=⟨R,false⟩) (ann:=[(5,[(5,.cell (.slice)),(6,.cell (.int .i64))])]) (args:=[.int .i64 n0,.int .i64 n1]) Tryz.func114 ZR (Eq.mp (by kernel_rfl:Z0d.Vc n0 n1 w R=ZP (pA Tryz.prog ⟨R,false⟩) Tryz.prog [(5,[(5,.cell (.slice)),(6,.cell (.int .i64))])] Tryz.f114 [.int .i64 n0,.int .i64 n1] w) h)

abbrev Z0N.n:Nat:=109
def Z0N.Vc (o0:Option Addr) (l0 c0:Nat) (w:World) (R:Ending→World→Prop):Prop :=
 (((((l0:Nat):Int)=1 →
 ∃d1,o0=some d1 ∧
 ((0:Int)≤0∧0 < ((l0:Nat):Int)) ∧
 ∃n2,World.cell? w (Addr.add d1 0)=some (.int .u8 n2) ∧
 (((n2 < 128 →
 ∃d3,o0=some d3 ∧
 ((0:Int)≤0∧0 < ((l0:Nat):Int)) ∧
 ∃n4,World.cell? w (Addr.add d3 0)=some (.int .u8 n4) ∧
 ∀d5 w6,ZC w 5 #[(.int .u8 n4)] d5 w6 →
 R (.returned (.slice (some d5) 1 1)) w6)) ∧
 ((¬n2 < 128 →
 Calls Tryz.prog 114 #[(.int .i64 128),(.int .i64 ((l0:Nat):Int))] w (fun e7 w8 =>
 ∃o9 l10 l11,e7=.returned (.slice o9 l10 l11) ∧
 ∃v12 w13,Sem.run Tryz.prog (builtinV .append #[23,23] 23 #[(.slice o9 l10 l11),(.slice o0 l0 c0)]) w8=.ok v12 w13 ∧
 ∃o14 l15 l16,v12=(.slice o14 l15 l16) ∧
 R (.returned (.slice o14 l15 l16)) w13)))))) ∧
 ((((l0:Nat):Int)≠1 →
 Calls Tryz.prog 114 #[(.int .i64 128),(.int .i64 ((l0:Nat):Int))] w (fun e17 w18 =>
 ∃o19 l20 l21,e17=.returned (.slice o19 l20 l21) ∧
 ∃v22 w23,Sem.run Tryz.prog (builtinV .append #[23,23] 23 #[(.slice o19 l20 l21),(.slice o0 l0 c0)]) w18=.ok v22 w23 ∧
 ∃o24 l25 l26,v22=(.slice o24 l25 l26) ∧
 R (.returned (.slice o24 l25 l26)) w23))))
theorem Z0N.vc (o0:Option Addr) (l0:Nat) (c0:Nat) (w:World) (R:Ending→World→Prop) (h:Z0N.Vc o0 l0 c0 w R):Calls Tryz.prog 109 #[(.slice o0 l0 c0)] w R :=
 Z8 (R:=⟨R,false⟩) (ann:=[]) (args:=[.slice o0 l0 c0]) Tryz.func109 ZR (Eq.mp (by kernel_rfl:Z0N.Vc o0 l0 c0 w R=ZP (pA Tryz.prog ⟨R,false⟩) Tryz.prog [] Tryz.f109 [.slice o0 l0 c0] w) h)

abbrev Z0c.n:Nat:=89
def Z0c.Vc (o0:Option Addr) (l0 c0:Nat) (w:World) (R:Ending→World→Prop):Prop :=
 Calls Tryz.prog 114 #[(.int .i64 192),(.int .i64 ((l0:Nat):Int))] w (fun e1 w2 =>
 ∃o3 l4 l5,e1=.returned (.slice o3 l4 l5) ∧
 ∃v6 w7,Sem.run Tryz.prog (builtinV .append #[23,23] 23 #[(.slice o3 l4 l5),(.slice o0 l0 c0)]) w2=.ok v6 w7 ∧
 ∃o8 l9 l10,v6=(.slice o8 l9 l10) ∧
 R (.returned (.slice o8 l9 l10)) w7)
theorem Z0c.vc (o0:Option Addr) (l0:Nat) (c0:Nat) (w:World) (R:Ending→World→Prop) (h:Z0c.Vc o0 l0 c0 w R):Calls Tryz.prog 89 #[(.slice o0 l0 c0)] w R :=
 Z8 (R:=⟨R,false⟩) (ann:=[]) (args:=[.slice o0 l0 c0]) Tryz.func89 ZR (Eq.mp (by kernel_rfl:Z0c.Vc o0 l0 c0 w R=ZP (pA Tryz.prog ⟨R,false⟩) Tryz.prog [] Tryz.f89 [.slice o0 l0 c0] w) h)

abbrev Z0a.n:Nat:=90
def Z0a.Vc (o0:Option Addr) (l0 c0:Nat) (w:World) (R:Ending→World→Prop):Prop :=
 Calls Tryz.prog 109 #[(.slice o0 l0 c0)] w (fun e1 w2 =>
 ∃o3 l4 l5,e1=.returned (.slice o3 l4 l5) ∧
 R (.returned (.slice o3 l4 l5)) w2)
theorem Z0a.vc (o0:Option Addr) (l0:Nat) (c0:Nat) (w:World) (R:Ending→World→Prop) (h:Z0a.Vc o0 l0 c0 w R):Calls Tryz.prog 90 #[(.slice o0 l0 c0)] w R :=
 Z8 (R:=⟨R,false⟩) (ann:=[]) (args:=[.slice o0 l0 c0]) Tryz.func90 ZR (Eq.mp (by kernel_rfl:Z0a.Vc o0 l0 c0 w R=ZP (pA Tryz.prog ⟨R,false⟩) Tryz.prog [] Tryz.f90 [.slice o0 l0 c0] w) h)

abbrev Zq.n:Nat:=54
def Zq.Vc (o0:Option Addr) (l0 c0:Nat) (w:World) (R:Ending→World→Prop):Prop :=
 ∃(I1:Option Addr→Nat→Nat→Int→World→Prop) (μ1:Option Addr→Nat→Nat→Int→World→Nat),I1 none 0 0 0 w ∧
 (∀(o2:Option Addr) (l2:Nat) (c2:Nat) (n3:Int) (j4:Nat→Value) (w4:World),I1 o2 l2 c2 n3 w4 →
 (((n3 < ((l0:Nat):Int) →
 ∀w5,ZN w4 w5 →
 ∃d6,o0=some d6 ∧
 ((0:Int)≤n3∧n3 < ((l0:Nat):Int)) ∧
 ∃n7,World.cell? w5 (Addr.add d6 (Int.toNat n3))=some (.int .u8 n7) ∧
 ∃d8,o0=some d8 ∧
 ((0:Int)≤n3∧n3 < ((l0:Nat):Int)) ∧
 ∃n9,World.cell? w5 (Addr.add d8 (Int.toNat n3))=some (.int .u8 n9) ∧
 ∀d10 w11,ZC w5 5 #[(.int .u8 (IntKind.wrap .u8 (Int.tdiv n7 16))),(.int .u8 (Int.tmod n9 16))] d10 w11 →
 ∃v12 w13,Sem.run Tryz.prog (builtinV .append #[23,23] 23 #[(.slice o2 l2 c2),(.slice (some d10) 2 2)]) w11=.ok v12 w13 ∧
 ∃o14 l15 l16,v12=(.slice o14 l15 l16) ∧
 I1 o14 l15 l16 (IntKind.wrap .i64 (n3+1)) w13∧μ1 o14 l15 l16 (IntKind.wrap .i64 (n3+1)) w13 < μ1 o2 l2 c2 n3 w4)) ∧
 ((¬n3 < ((l0:Nat):Int) →
 R (.returned (.slice o2 l2 c2)) w4))))
theorem Zq.vc (o0:Option Addr) (l0:Nat) (c0:Nat) (w:World) (R:Ending→World→Prop) (h:Zq.Vc o0 l0 c0 w R):Calls Tryz.prog 54 #[(.slice o0 l0 c0)] w R :=
 Z8 (R:=⟨R,false⟩) (ann:=[(3,[(3,.cell (.slice)),(4,.cell (.int .i64))])]) (args:=[.slice o0 l0 c0]) Tryz.func54 ZR (Eq.mp (by kernel_rfl:Zq.Vc o0 l0 c0 w R=ZP (pA Tryz.prog ⟨R,false⟩) Tryz.prog [(3,[(3,.cell (.slice)),(4,.cell (.int .i64))])] Tryz.f54 [.slice o0 l0 c0] w) h)

abbrev Z0J.n:Nat:=88
def Z0J.Vc (o0:Option Addr) (l0 c0:Nat) (b1:Bool) (w:World) (R:Ending→World→Prop):Prop :=
 (((((l0:Nat):Int) > 128 →
 R (.returned (.tuple #[(.slice none 0 0),(.int .i64 140)])) w)) ∧
 ((¬((l0:Nat):Int) > 128 →
 ∃(I2:Int→World→Prop) (μ2:Int→World→Nat),I2 0 w ∧
 (∀(n3:Int) (j4:Nat→Value) (w4:World),I2 n3 w4 →
 (((n3 < ((l0:Nat):Int) →
 ∃d5,o0=some d5 ∧
 ((0:Int)≤n3∧n3 < ((l0:Nat):Int)) ∧
 ∃n6,World.cell? w4 (Addr.add d5 (Int.toNat n3))=some (.int .u8 n6) ∧
 (((n6 > 15 →
 R (.returned (.tuple #[(.slice none 0 0),(.int .i64 140)])) w4)) ∧
 ((¬n6 > 15 →
 I2 (IntKind.wrap .i64 (n3+1)) w4∧μ2 (IntKind.wrap .i64 (n3+1)) w4 < μ2 n3 w4))))) ∧
 ((¬n3 < ((l0:Nat):Int) →
 ∃(J7:Int→World→Prop),((((b1=true →
 J7 2 w4)) ∧
 ((b1=false →
 J7 0 w4)))) ∧
 (∀(n8:Int) (j9:Nat→Value) (w9:World),J7 n8 w9 →
 ∀d10 w11,ZC w9 5 #[(.int .u8 n8),(.int .u8 0)] d10 w11 →
 ∃(J12:Option Addr→Nat→Nat→World→Prop),(((((Int.tmod ((l0:Nat):Int) 2)=1 →
 ∀d13 w14,ZC w11 5 #[(.int .u8 (IntKind.wrap .u8 (n8+1)))] d13 w14 →
 J12 (some d13) 1 1 w14)) ∧
 (((Int.tmod ((l0:Nat):Int) 2)≠1 →
 J12 (some d10) 2 2 w11)))) ∧
 (∀(o15:Option Addr) (l15:Nat) (c15:Nat) (j16:Nat→Value) (w16:World),J12 o15 l15 c15 w16 →
 ∃v17 w18,Sem.run Tryz.prog (builtinV .append #[23,23] 23 #[(.slice o15 l15 c15),(.slice o0 l0 c0)]) w16=.ok v17 w18 ∧
 ∃o19 l20 l21,v17=(.slice o19 l20 l21) ∧
 ∃(I22:Option Addr→Nat→Nat→Int→World→Prop) (μ22:Option Addr→Nat→Nat→Int→World→Nat),I22 none 0 0 0 w18 ∧
 (∀(o23:Option Addr) (l23:Nat) (c23:Nat) (n24:Int) (j25:Nat→Value) (w25:World),I22 o23 l23 c23 n24 w25 →
 (((n24 < ((l20:Nat):Int) →
 ∀w26,ZN w25 w26 →
 ∃d27,o19=some d27 ∧
 ((0:Int)≤n24∧n24 < ((l20:Nat):Int)) ∧
 ∃n28,World.cell? w26 (Addr.add d27 (Int.toNat n24))=some (.int .u8 n28) ∧
 ∃d29,o19=some d29 ∧
 ((0:Int)≤(IntKind.wrap .i64 (n24+1))∧(IntKind.wrap .i64 (n24+1)) < ((l20:Nat):Int)) ∧
 ∃n30,World.cell? w26 (Addr.add d29 (Int.toNat (IntKind.wrap .i64 (n24+1))))=some (.int .u8 n30) ∧
 ∀d31 w32,ZC w26 5 #[(.int .u8 (IntKind.wrap .u8 ((IntKind.wrap .u8 (16 * n28))+n30)))] d31 w32 →
 ∃v33 w34,Sem.run Tryz.prog (builtinV .append #[23,23] 23 #[(.slice o23 l23 c23),(.slice (some d31) 1 1)]) w32=.ok v33 w34 ∧
 ∃o35 l36 l37,v33=(.slice o35 l36 l37) ∧
 I22 o35 l36 l37 (IntKind.wrap .i64 (n24+2)) w34∧μ22 o35 l36 l37 (IntKind.wrap .i64 (n24+2)) w34 < μ22 o23 l23 c23 n24 w25)) ∧
 ((¬n24 < ((l20:Nat):Int) →
 R (.returned (.tuple #[(.slice o23 l23 c23),(.int .i64 0)])) w25)))))))))))))
theorem Z0J.vc (o0:Option Addr) (l0:Nat) (c0:Nat) (b1:Bool) (w:World) (R:Ending→World→Prop) (h:Z0J.Vc o0 l0 c0 b1 w R):Calls Tryz.prog 88 #[(.slice o0 l0 c0),(.bool b1)] w R :=
 Z8 (R:=⟨R,false⟩) (ann:=[(4,[(6,.cell (.int .i64))]),(1000011,[(7,.cell (.int .u8))]),(1000014,[(8,.cell (.slice))]),(17,[(9,.cell (.slice)),(10,.cell (.int .i64))])]) (args:=[.slice o0 l0 c0,.bool (.var b1)]) Tryz.func88 ZR (Eq.mp (by kernel_rfl:Z0J.Vc o0 l0 c0 b1 w R=ZP (pA Tryz.prog ⟨R,false⟩) Tryz.prog [(4,[(6,.cell (.int .i64))]),(1000011,[(7,.cell (.int .u8))]),(1000014,[(8,.cell (.slice))]),(17,[(9,.cell (.slice)),(10,.cell (.int .i64))])] Tryz.f88 [.slice o0 l0 c0,.bool (.var b1)] w) h)

abbrev Z0D.n:Nat:=40
def Z0D.Vc  (w:World) (R:Ending→World→Prop):Prop :=
 ∀d0 w1,ZC w 27 (Array.replicate 32 (.int .u8 0)) d0 w1 →
 ∀d2 w3,ZC w1 5 #[(.int .u8 128)] d2 w3 →
 Calls Tryz.prog 56 #[(.slice (some d2) 1 1)] w3 (fun e4 w5 =>
 ∃L6,e4=.returned (.agg L6) ∧
 ∃w7,Sem.run Tryz.prog (Instr.storeAt 27 (.pointer (some d0)) (.agg L6)) w5=.ok () w7 ∧
 ∃L8,ZJ w7 d0 32 L8 ∧
 R (.returned (.agg L8)) w7)
theorem Z0D.vc  (w:World) (R:Ending→World→Prop) (h:Z0D.Vc w R):Calls Tryz.prog 40 #[] w R :=
 Z8 (R:=⟨R,false⟩) (ann:=[]) (args:=[]) Tryz.func40 ZR (Eq.mp (by kernel_rfl:Z0D.Vc w R=ZP (pA Tryz.prog ⟨R,false⟩) Tryz.prog [] Tryz.f40 [] w) h)

abbrev ZO.n:Nat:=55
def ZO.Vc (d0:Addr) (n1 n2 n3:Int) (w:World) (R:Ending→World→Prop):Prop :=
 (((n2=(IntKind.wrap .i64 (n1+1)) →
 ∃o4 l5 l6,World.cell? w (Addr.add d0 1)=some (.slice o4 l5 l6) ∧
 ∃d7,o4=some d7 ∧
 ((0:Int)≤n1∧n1 < ((l5:Nat):Int)) ∧
 ∃o8 l9 l10,World.cell? w (Addr.add d7 (Int.toNat n1))=some (.slice o8 l9 l10) ∧
 ((0:Int)≤n3∧n3≤((l9:Nat):Int)) ∧
 Calls Tryz.prog 88 #[(.slice (subO o8 l10 (Int.toNat n3) 1) (l9 - (Int.toNat n3)) (l10 - (Int.toNat n3))),(.bool true)] w (fun e11 w12 =>
 ∃o13 l14 l15 n16,e11=.returned (.tuple #[(.slice o13 l14 l15),(.int .i64 n16)]) ∧
 ∀w17,ZN w12 w17 →
 ∃o18 l19 l20,World.cell? w17 d0=some (.slice o18 l19 l20) ∧
 ∃d21,o18=some d21 ∧
 ((0:Int)≤n1∧n1 < ((l19:Nat):Int)) ∧
 ∃o22 l23 l24,World.cell? w17 (Addr.add (Addr.add d21 ((Int.toNat n1) * 2)) 1)=some (.slice o22 l23 l24) ∧
 Calls Tryz.prog 90 #[(.slice o13 l14 l15)] w17 (fun e25 w26 =>
 ∃o27 l28 l29,e25=.returned (.slice o27 l28 l29) ∧
 World.cell? w26 (Addr.add (Addr.add d21 ((Int.toNat n1) * 2)) 1)=some (.slice o22 l23 l24) ∧
 World.cell? w26 d0=some (.slice o18 l19 l20) ∧
 Calls Tryz.prog 90 #[(.slice o22 l23 l24)] w26 (fun e30 w31 =>
 ∃o32 l33 l34,e30=.returned (.slice o32 l33 l34) ∧
 ∃v35 w36,Sem.run Tryz.prog (builtinV .append #[23,23] 23 #[(.slice o27 l28 l29),(.slice o32 l33 l34)]) w31=.ok v35 w36 ∧
 ∃o37 l38 l39,v35=(.slice o37 l38 l39) ∧
 Calls Tryz.prog 89 #[(.slice o37 l38 l39)] w36 (fun e40 w41 =>
 ∃o42 l43 l44,e40=.returned (.slice o42 l43 l44) ∧
 R (.returned (.slice o42 l43 l44)) w41)))))) ∧
 ((n2≠(IntKind.wrap .i64 (n1+1)) →
 ∃(J45:Int→World→Prop),(∃(I46:Int→World→Prop) (μ46:Int→World→Nat),I46 0 w ∧
 (∀(n47:Int) (j48:Nat→Value) (w48:World),I46 n47 w48 →
 ∀w49,ZN w48 w49 →
 ∃o50 l51 l52,World.cell? w49 (Addr.add d0 1)=some (.slice o50 l51 l52) ∧
 ∃d53,o50=some d53 ∧
 ((0:Int)≤n1∧n1 < ((l51:Nat):Int)) ∧
 ∃o54 l55 l56,World.cell? w49 (Addr.add d53 (Int.toNat n1))=some (.slice o54 l55 l56) ∧
 (((((l55:Nat):Int) > (IntKind.wrap .i64 (n3+n47)) →
 ∃o57 l58 l59,World.cell? w49 (Addr.add d0 1)=some (.slice o57 l58 l59) ∧
 ∃d60,o57=some d60 ∧
 ((0:Int)≤(IntKind.wrap .i64 (n2 - 1))∧(IntKind.wrap .i64 (n2 - 1)) < ((l58:Nat):Int)) ∧
 ∃o61 l62 l63,World.cell? w49 (Addr.add d60 (Int.toNat (IntKind.wrap .i64 (n2 - 1))))=some (.slice o61 l62 l63) ∧
 (((((l62:Nat):Int) > (IntKind.wrap .i64 (n3+n47)) →
 ∃o64 l65 l66,World.cell? w49 (Addr.add d0 1)=some (.slice o64 l65 l66) ∧
 ∃d67,o64=some d67 ∧
 ((0:Int)≤n1∧n1 < ((l65:Nat):Int)) ∧
 ∃o68 l69 l70,World.cell? w49 (Addr.add d67 (Int.toNat n1))=some (.slice o68 l69 l70) ∧
 ∃d71,o68=some d71 ∧
 ((0:Int)≤(IntKind.wrap .i64 (n3+n47))∧(IntKind.wrap .i64 (n3+n47)) < ((l69:Nat):Int)) ∧
 ∃n72,World.cell? w49 (Addr.add d71 (Int.toNat (IntKind.wrap .i64 (n3+n47))))=some (.int .u8 n72) ∧
 ∃o73 l74 l75,World.cell? w49 (Addr.add d0 1)=some (.slice o73 l74 l75) ∧
 ∃d76,o73=some d76 ∧
 ((0:Int)≤(IntKind.wrap .i64 (n2 - 1))∧(IntKind.wrap .i64 (n2 - 1)) < ((l74:Nat):Int)) ∧
 ∃o77 l78 l79,World.cell? w49 (Addr.add d76 (Int.toNat (IntKind.wrap .i64 (n2 - 1))))=some (.slice o77 l78 l79) ∧
 ∃d80,o77=some d80 ∧
 ((0:Int)≤(IntKind.wrap .i64 (n3+n47))∧(IntKind.wrap .i64 (n3+n47)) < ((l78:Nat):Int)) ∧
 ∃n81,World.cell? w49 (Addr.add d80 (Int.toNat (IntKind.wrap .i64 (n3+n47))))=some (.int .u8 n81) ∧
 (((n72=n81 →
 I46 (IntKind.wrap .i64 (n47+1)) w49∧μ46 (IntKind.wrap .i64 (n47+1)) w49 < μ46 n47 w48)) ∧
 ((n72≠n81 →
 J45 n47 w49))))) ∧
 ((¬((l62:Nat):Int) > (IntKind.wrap .i64 (n3+n47)) →
 J45 n47 w49))))) ∧
 ((¬((l55:Nat):Int) > (IntKind.wrap .i64 (n3+n47)) →
 J45 n47 w49))))) ∧
 (∀(n82:Int) (j83:Nat→Value) (w83:World),J45 n82 w83 →
 (((n82 > 0 →
 ∃o84 l85 l86,World.cell? w83 (Addr.add d0 1)=some (.slice o84 l85 l86) ∧
 ∃d87,o84=some d87 ∧
 ((0:Int)≤n1∧n1 < ((l85:Nat):Int)) ∧
 ∃o88 l89 l90,World.cell? w83 (Addr.add d87 (Int.toNat n1))=some (.slice o88 l89 l90) ∧
 ((0:Int)≤(IntKind.wrap .i64 (n3+n82))∧(IntKind.wrap .i64 (n3+n82))≤((l90:Nat):Int)) ∧
 ((0:Int)≤n3∧n3≤(((Int.toNat (IntKind.wrap .i64 (n3+n82))):Nat):Int)) ∧
 Calls Tryz.prog 88 #[(.slice (subO o88 l90 (Int.toNat n3) 1) ((Int.toNat (IntKind.wrap .i64 (n3+n82))) - (Int.toNat n3)) (l90 - (Int.toNat n3))),(.bool false)] w83 (fun e91 w92 =>
 ∃o93 l94 l95 n96,e91=.returned (.tuple #[(.slice o93 l94 l95),(.int .i64 n96)]) ∧
 Calls Tryz.prog 90 #[(.slice o93 l94 l95)] w92 (fun e97 w98 =>
 ∃o99 l100 l101,e97=.returned (.slice o99 l100 l101) ∧
 Calls Tryz.prog 91 #[(.pointer (some d0)),(.int .i64 n1),(.int .i64 n2),(.int .i64 (IntKind.wrap .i64 (n3+n82)))] w98 (fun e102 w103 =>
 ∃o104 l105 l106,e102=.returned (.slice o104 l105 l106) ∧
 ∃v107 w108,Sem.run Tryz.prog (builtinV .append #[23,23] 23 #[(.slice o99 l100 l101),(.slice o104 l105 l106)]) w103=.ok v107 w108 ∧
 ∃o109 l110 l111,v107=(.slice o109 l110 l111) ∧
 Calls Tryz.prog 89 #[(.slice o109 l110 l111)] w108 (fun e112 w113 =>
 ∃o114 l115 l116,e112=.returned (.slice o114 l115 l116) ∧
 R (.returned (.slice o114 l115 l116)) w113)))))) ∧
 ((¬n82 > 0 →
 ∃(J117:Int→Option Addr→Nat→Nat→World→Prop),(∃o118 l119 l120,World.cell? w83 (Addr.add d0 1)=some (.slice o118 l119 l120) ∧
 ∃d121,o118=some d121 ∧
 ((0:Int)≤n1∧n1 < ((l119:Nat):Int)) ∧
 ∃o122 l123 l124,World.cell? w83 (Addr.add d121 (Int.toNat n1))=some (.slice o122 l123 l124) ∧
 (((((l123:Nat):Int)=n3 →
 ∃o125 l126 l127,World.cell? w83 d0=some (.slice o125 l126 l127) ∧
 ∃d128,o125=some d128 ∧
 ((0:Int)≤n1∧n1 < ((l126:Nat):Int)) ∧
 ∃o129 l130 l131,World.cell? w83 (Addr.add (Addr.add d128 ((Int.toNat n1) * 2)) 1)=some (.slice o129 l130 l131) ∧
 J117 (IntKind.wrap .i64 (n1+1)) o129 l130 l131 w83)) ∧
 ((((l123:Nat):Int)≠n3 →
 J117 n1 none 0 0 w83)))) ∧
 (∀(n132:Int) (o133:Option Addr) (l133:Nat) (c133:Nat) (j134:Nat→Value) (w134:World),J117 n132 o133 l133 c133 w134 →
 ∃(I135:Option Addr→Nat→Nat→Int→Int→World→Prop) (μ135:Option Addr→Nat→Nat→Int→Int→World→Nat),I135 none 0 0 n132 0 w134 ∧
 (∀(o136:Option Addr) (l136:Nat) (c136:Nat) (n137:Int) (n138:Int) (j139:Nat→Value) (w139:World),I135 o136 l136 c136 n137 n138 w139 →
 (((n138 < 16 →
 ∃(J140:Int→World→Prop),(∃(I141:Int→World→Prop) (μ141:Int→World→Nat),I141 n137 w139 ∧
 (∀(n142:Int) (j143:Nat→Value) (w143:World),I141 n142 w143 →
 (((n142 < n2 →
 ∃o144 l145 l146,World.cell? w143 (Addr.add d0 1)=some (.slice o144 l145 l146) ∧
 ∃d147,o144=some d147 ∧
 ((0:Int)≤n142∧n142 < ((l145:Nat):Int)) ∧
 ∃o148 l149 l150,World.cell? w143 (Addr.add d147 (Int.toNat n142))=some (.slice o148 l149 l150) ∧
 ∃d151,o148=some d151 ∧
 ((0:Int)≤n3∧n3 < ((l149:Nat):Int)) ∧
 ∃n152,World.cell? w143 (Addr.add d151 (Int.toNat n3))=some (.int .u8 n152) ∧
 ((((IntKind.wrap .i64 n152)=n138 →
 I141 (IntKind.wrap .i64 (n142+1)) w143∧μ141 (IntKind.wrap .i64 (n142+1)) w143 < μ141 n142 w143)) ∧
 (((IntKind.wrap .i64 n152)≠n138 →
 J140 n142 w143))))) ∧
 ((¬n142 < n2 →
 J140 n142 w143))))) ∧
 (∀(n153:Int) (j154:Nat→Value) (w154:World),J140 n153 w154 →
 (((n153=n137 →
 ∀d155 w156,ZC w154 5 #[(.int .u8 128)] d155 w156 →
 ∃v157 w158,Sem.run Tryz.prog (builtinV .append #[23,23] 23 #[(.slice o136 l136 c136),(.slice (some d155) 1 1)]) w156=.ok v157 w158 ∧
 ∃o159 l160 l161,v157=(.slice o159 l160 l161) ∧
 I135 o159 l160 l161 n153 (IntKind.wrap .i64 (n138+1)) w158∧μ135 o159 l160 l161 n153 (IntKind.wrap .i64 (n138+1)) w158 < μ135 o136 l136 c136 n137 n138 w139)) ∧
 ((n153≠n137 →
 Calls Tryz.prog 91 #[(.pointer (some d0)),(.int .i64 n137),(.int .i64 n153),(.int .i64 (IntKind.wrap .i64 (n3+1)))] w154 (fun e162 w163 =>
 ∃o164 l165 l166,e162=.returned (.slice o164 l165 l166) ∧
 ∃v167 w168,Sem.run Tryz.prog (builtinV .append #[23,23] 23 #[(.slice o136 l136 c136),(.slice o164 l165 l166)]) w163=.ok v167 w168 ∧
 ∃o169 l170 l171,v167=(.slice o169 l170 l171) ∧
 I135 o169 l170 l171 n153 (IntKind.wrap .i64 (n138+1)) w168∧μ135 o169 l170 l171 n153 (IntKind.wrap .i64 (n138+1)) w168 < μ135 o136 l136 c136 n137 n138 w139))))))) ∧
 ((¬n138 < 16 →
 Calls Tryz.prog 90 #[(.slice o133 l133 c133)] w139 (fun e172 w173 =>
 ∃o174 l175 l176,e172=.returned (.slice o174 l175 l176) ∧
 ∃v177 w178,Sem.run Tryz.prog (builtinV .append #[23,23] 23 #[(.slice o136 l136 c136),(.slice o174 l175 l176)]) w173=.ok v177 w178 ∧
 ∃o179 l180 l181,v177=(.slice o179 l180 l181) ∧
 Calls Tryz.prog 89 #[(.slice o179 l180 l181)] w178 (fun e182 w183 =>
 ∃o184 l185 l186,e182=.returned (.slice o184 l185 l186) ∧
 R (.returned (.slice o184 l185 l186)) w183))))))))))))))
theorem ZO.vc (d0:Addr) (n1:Int) (n2:Int) (n3:Int) (w:World) (R:Ending→World→Prop) (h:ZO.Vc d0 n1 n2 n3 w R):Calls Tryz.prog 55 #[(.pointer (some d0)),(.int .i64 n1),(.int .i64 n2),(.int .i64 n3)] w R :=
 Z8 (R:=⟨R,false⟩) (ann:=[(1000007,[(11,.cell (.int .i64))]),(5,[(11,.cell (.int .i64))]),(1000016,[(15,.cell (.int .i64)),(16,.cell (.slice))]),(17,[(14,.cell (.slice)),(15,.cell (.int .i64)),(17,.cell (.int .i64))]),(1000022,[(18,.cell (.int .i64))]),(20,[(18,.cell (.int .i64))])]) (args:=[.addr d0,.int .i64 n1,.int .i64 n2,.int .i64 n3]) Tryz.func55 ZR (Eq.mp (by kernel_rfl:ZO.Vc d0 n1 n2 n3 w R=ZP (pA Tryz.prog ⟨R,false⟩) Tryz.prog [(1000007,[(11,.cell (.int .i64))]),(5,[(11,.cell (.int .i64))]),(1000016,[(15,.cell (.int .i64)),(16,.cell (.slice))]),(17,[(14,.cell (.slice)),(15,.cell (.int .i64)),(17,.cell (.int .i64))]),(1000022,[(18,.cell (.int .i64))]),(20,[(18,.cell (.int .i64))])] Tryz.f55 [.addr d0,.int .i64 n1,.int .i64 n2,.int .i64 n3] w) h)

abbrev Zk.n:Nat:=91
def Zk.Vc (d0:Addr) (n1 n2 n3:Int) (w:World) (R:Ending→World→Prop):Prop :=
 Calls Tryz.prog 55 #[(.pointer (some d0)),(.int .i64 n1),(.int .i64 n2),(.int .i64 n3)] w (fun e4 w5 =>
 ∃o6 l7 l8,e4=.returned (.slice o6 l7 l8) ∧
 (((((l7:Nat):Int) < 32 →
 R (.returned (.slice o6 l7 l8)) w5)) ∧
 ((¬((l7:Nat):Int) < 32 →
 Calls Tryz.prog 56 #[(.slice o6 l7 l8)] w5 (fun e9 w10 =>
 ∃L11,e9=.returned (.agg L11) ∧
 ∀d12 w13,ZC w10 27 (Array.replicate 32 (.int .u8 0)) d12 w13 →
 ∃w14,Sem.run Tryz.prog (Instr.storeAt 27 (.pointer (some d12)) (.agg L11)) w13=.ok () w14 ∧
 ∃L15,ZJ w14 d12 32 L15 ∧
 Calls Tryz.prog 57 #[(.pointer (some d0)),(.agg L15),(.slice o6 l7 l8)] w14 (fun e16 w17 =>
 e16=.returned (.tuple #[]) ∧
 ∃v18 w19,Sem.run Tryz.prog (builtinV .append #[23,23] 23 #[(.slice none 0 0),(.slice (some d12) 32 32)]) w17=.ok v18 w19 ∧
 ∃o20 l21 l22,v18=(.slice o20 l21 l22) ∧
 Calls Tryz.prog 90 #[(.slice o20 l21 l22)] w19 (fun e23 w24 =>
 ∃o25 l26 l27,e23=.returned (.slice o25 l26 l27) ∧
 R (.returned (.slice o25 l26 l27)) w24)))))))
theorem Zk.vc (d0:Addr) (n1:Int) (n2:Int) (n3:Int) (w:World) (R:Ending→World→Prop) (h:Zk.Vc d0 n1 n2 n3 w R):Calls Tryz.prog 91 #[(.pointer (some d0)),(.int .i64 n1),(.int .i64 n2),(.int .i64 n3)] w R :=
 Z8 (R:=⟨R,false⟩) (ann:=[]) (args:=[.addr d0,.int .i64 n1,.int .i64 n2,.int .i64 n3]) Tryz.func91 ZR (Eq.mp (by kernel_rfl:Zk.Vc d0 n1 n2 n3 w R=ZP (pA Tryz.prog ⟨R,false⟩) Tryz.prog [] Tryz.f91 [.addr d0,.int .i64 n1,.int .i64 n2,.int .i64 n3] w) h)

abbrev Zd.n:Nat:=57
def Zd.Vc (d0:Addr) (L1:Array Value) (o2:Option Addr) (l2 c2:Nat) (w:World) (R:Ending→World→Prop):Prop :=
 ∀d3 w4,ZC w 27 L1 d3 w4 →
 ∃(J5:World→Prop),(∃(I6:Int→World→Prop) (μ6:Int→World→Nat),I6 0 w4 ∧
 (∀(n7:Int) (j8:Nat→Value) (w8:World),I6 n7 w8 →
 ∃o9 l10 l11,World.cell? w8 (Addr.add d0 2)=some (.slice o9 l10 l11) ∧
 (((n7 < ((l10:Nat):Int) →
 ∃b12,World.cell? w8 (Addr.add d0 3)=some (.bool b12) ∧
 (((b12=false →
 ∀w13,ZN w8 w13 →
 ∃o14 l15 l16,World.cell? w13 (Addr.add d0 2)=some (.slice o14 l15 l16) ∧
 ∃d17,o14=some d17 ∧
 ((0:Int)≤n7∧n7 < ((l15:Nat):Int)) ∧
 ∃L18,ZJ w13 (Addr.add d17 ((Int.toNat n7) * 33)) 32 L18 ∧
 ∃L19,ZJ w13 d3 32 L19 ∧
 ∃v20,Sem.run Tryz.prog (Z0q .eql 27 (.tmp 30) (.tmp 31) (.agg L18) (.agg L19)) w13=.ok v20 w13 ∧
 ∃b21,v20=(.bool b21) ∧
 (((b21=true →
 R (.returned (.tuple #[])) w13)) ∧
 ((b21=false →
 I6 (IntKind.wrap .i64 (n7+1)) w13∧μ6 (IntKind.wrap .i64 (n7+1)) w13 < μ6 n7 w8))))) ∧
 ((b12=true →
 J5  w8))))) ∧
 ((¬n7 < ((l10:Nat):Int) →
 J5  w8))))) ∧
 (∀  (j22:Nat→Value) (w22:World),J5  w22 →
 ∀w23,ZN w22 w23 →
 ∃o24 l25 l26,World.cell? w23 (Addr.add d0 2)=some (.slice o24 l25 l26) ∧
 ∃L27,ZJ w23 d3 32 L27 ∧
 Array.size L27=32 ∧
 Array.size (setsAt (lputL #[(.int .u8 0),(.int .u8 0),(.int .u8 0),(.int .u8 0),(.int .u8 0),(.int .u8 0),(.int .u8 0),(.int .u8 0),(.int .u8 0),(.int .u8 0),(.int .u8 0),(.int .u8 0),(.int .u8 0),(.int .u8 0),(.int .u8 0),(.int .u8 0),(.int .u8 0),(.int .u8 0),(.int .u8 0),(.int .u8 0),(.int .u8 0),(.int .u8 0),(.int .u8 0),(.int .u8 0),(.int .u8 0),(.int .u8 0),(.int .u8 0),(.int .u8 0),(.int .u8 0),(.int .u8 0),(.int .u8 0),(.int .u8 0),(.slice none 0 0)] 0 32 L27) 32 [(.slice o2 l2 c2)])=33 ∧
 ∀d28 w29,ZC w23 62 (lputL #[(.int .u8 0),(.int .u8 0),(.int .u8 0),(.int .u8 0),(.int .u8 0),(.int .u8 0),(.int .u8 0),(.int .u8 0),(.int .u8 0),(.int .u8 0),(.int .u8 0),(.int .u8 0),(.int .u8 0),(.int .u8 0),(.int .u8 0),(.int .u8 0),(.int .u8 0),(.int .u8 0),(.int .u8 0),(.int .u8 0),(.int .u8 0),(.int .u8 0),(.int .u8 0),(.int .u8 0),(.int .u8 0),(.int .u8 0),(.int .u8 0),(.int .u8 0),(.int .u8 0),(.int .u8 0),(.int .u8 0),(.int .u8 0),(.slice none 0 0)] 0 33 (setsAt (lputL #[(.int .u8 0),(.int .u8 0),(.int .u8 0),(.int .u8 0),(.int .u8 0),(.int .u8 0),(.int .u8 0),(.int .u8 0),(.int .u8 0),(.int .u8 0),(.int .u8 0),(.int .u8 0),(.int .u8 0),(.int .u8 0),(.int .u8 0),(.int .u8 0),(.int .u8 0),(.int .u8 0),(.int .u8 0),(.int .u8 0),(.int .u8 0),(.int .u8 0),(.int .u8 0),(.int .u8 0),(.int .u8 0),(.int .u8 0),(.int .u8 0),(.int .u8 0),(.int .u8 0),(.int .u8 0),(.int .u8 0),(.int .u8 0),(.slice none 0 0)] 0 32 L27) 32 [(.slice o2 l2 c2)])) d28 w29 →
 World.cell? w29 (Addr.add d0 2)=some (.slice o24 l25 l26) ∧
 ∃v30 w31,Sem.run Tryz.prog (builtinV .append #[28,28] 28 #[(.slice o24 l25 l26),(.slice (some d28) 1 1)]) w29=.ok v30 w31 ∧
 ∃o32 l33 l34,v30=(.slice o32 l33 l34) ∧
 Z1 w31 (Addr.add d0 2) (.slice o32 l33 l34)∧∀w35,ZA w31 (Addr.add d0 2) (.slice o32 l33 l34) w35 →
 R (.returned (.tuple #[])) w35)
theorem Zd.vc (d0:Addr) (L1:Array Value) (o2:Option Addr) (l2:Nat) (c2:Nat) (w:World) (R:Ending→World→Prop) (h:Zd.Vc d0 L1 o2 l2 c2 w R):Calls Tryz.prog 57 #[(.pointer (some d0)),(.agg L1),(.slice o2 l2 c2)] w R :=
 Z8 (R:=⟨R,false⟩) (ann:=[(1000005,[]),(2,[(6,.cell (.int .i64))])]) (args:=[.addr d0,.big 32 L1,.slice o2 l2 c2]) Tryz.func57 ZR (Eq.mp (by kernel_rfl:Zd.Vc d0 L1 o2 l2 c2 w R=ZP (pA Tryz.prog ⟨R,false⟩) Tryz.prog [(1000005,[]),(2,[(6,.cell (.int .i64))])] Tryz.f57 [.addr d0,.big 32 L1,.slice o2 l2 c2] w) h)

abbrev Z0m.n:Nat:=8
def Z0m.Vc (o0:Option Addr) (l0 c0:Nat) (w:World) (R:Ending→World→Prop):Prop :=
 ∀d1 w2,ZC w 27 (Array.replicate 32 (.int .u8 0)) d1 w2 →
 Calls Tryz.prog 24 #[(.slice o0 l0 c0),(.bool false)] w2 (fun e3 w4 =>
 ∃L5 o6 l7 l8,e3=.returned (.tuple #[(.agg L5),(.slice o6 l7 l8)]) ∧
 ∃w9,Sem.run Tryz.prog (Instr.storeAt 27 (.pointer (some d1)) (.agg L5)) w4=.ok () w9 ∧
 ∃L10,ZJ w9 d1 32 L10 ∧
 R (.returned (.tuple #[(.agg L10),(.slice o6 l7 l8)])) w9)
theorem Z0m.vc (o0:Option Addr) (l0:Nat) (c0:Nat) (w:World) (R:Ending→World→Prop) (h:Z0m.Vc o0 l0 c0 w R):Calls Tryz.prog 8 #[(.slice o0 l0 c0)] w R :=
 Z8 (R:=⟨R,false⟩) (ann:=[]) (args:=[.slice o0 l0 c0]) Tryz.func8 ZR (Eq.mp (by kernel_rfl:Z0m.Vc o0 l0 c0 w R=ZP (pA Tryz.prog ⟨R,false⟩) Tryz.prog [] Tryz.f8 [.slice o0 l0 c0] w) h)

abbrev Z0K.n:Nat:=24
def Z0K.Vc (o0:Option Addr) (l0 c0:Nat) (b1:Bool) (w:World) (R:Ending→World→Prop):Prop :=
 ∀d2 w3,ZC w 27 (Array.replicate 32 (.int .u8 0)) d2 w3 →
 (((((l0:Nat):Int)=0 →
 Calls Tryz.prog 40 #[] w3 (fun e4 w5 =>
 ∃L6,e4=.returned (.agg L6) ∧
 ∃w7,Sem.run Tryz.prog (Instr.storeAt 27 (.pointer (some d2)) (.agg L6)) w5=.ok () w7 ∧
 ∃L8,ZJ w7 d2 32 L8 ∧
 R (.returned (.tuple #[(.agg L8),(.slice none 0 0)])) w7))) ∧
 ((((l0:Nat):Int)≠0 →
 ∀d9 w10,ZC w3 118 #[(.slice o0 l0 c0),(.slice none 0 0),(.slice none 0 0),(.bool b1)] d9 w10 →
 ∃(I11:Int→World→Prop) (μ11:Int→World→Nat),I11 0 w10 ∧
 (∀(n12:Int) (j13:Nat→Value) (w13:World),I11 n12 w13 →
 (((n12 < ((l0:Nat):Int) →
 ∀w14,ZN w13 w14 →
 ∃o15 l16 l17,World.cell? w14 (Addr.add d9 1)=some (.slice o15 l16 l17) ∧
 ∃d18,o0=some d18 ∧
 ((0:Int)≤n12∧n12 < ((l0:Nat):Int)) ∧
 ∃o19 l20 l21,World.cell? w14 (Addr.add d18 ((Int.toNat n12) * 2))=some (.slice o19 l20 l21) ∧
 Calls Tryz.prog 54 #[(.slice o19 l20 l21)] w14 (fun e22 w23 =>
 ∃o24 l25 l26,e22=.returned (.slice o24 l25 l26) ∧
 World.cell? w23 (Addr.add d9 1)=some (.slice o15 l16 l17) ∧
 ∀d27 w28,ZC w23 23 #[(.slice o24 l25 l26)] d27 w28 →
 World.cell? w28 (Addr.add d9 1)=some (.slice o15 l16 l17) ∧
 ∃v29 w30,Sem.run Tryz.prog (builtinV .append #[31,31] 31 #[(.slice o15 l16 l17),(.slice (some d27) 1 1)]) w28=.ok v29 w30 ∧
 ∃o31 l32 l33,v29=(.slice o31 l32 l33) ∧
 Z1 w30 (Addr.add d9 1) (.slice o31 l32 l33)∧∀w34,ZA w30 (Addr.add d9 1) (.slice o31 l32 l33) w34 →
 I11 (IntKind.wrap .i64 (n12+1)) w34∧μ11 (IntKind.wrap .i64 (n12+1)) w34 < μ11 n12 w13))) ∧
 ((¬n12 < ((l0:Nat):Int) →
 Calls Tryz.prog 55 #[(.pointer (some d9)),(.int .i64 0),(.int .i64 ((l0:Nat):Int)),(.int .i64 0)] w13 (fun e35 w36 =>
 ∃o37 l38 l39,e35=.returned (.slice o37 l38 l39) ∧
 Calls Tryz.prog 56 #[(.slice o37 l38 l39)] w36 (fun e40 w41 =>
 ∃L42,e40=.returned (.agg L42) ∧
 ∀d43 w44,ZC w41 27 (Array.replicate 32 (.int .u8 0)) d43 w44 →
 ∃w45,Sem.run Tryz.prog (Instr.storeAt 27 (.pointer (some d43)) (.agg L42)) w44=.ok () w45 ∧
 ∃L46,ZJ w45 d43 32 L46 ∧
 Calls Tryz.prog 57 #[(.pointer (some d9)),(.agg L46),(.slice o37 l38 l39)] w45 (fun e47 w48 =>
 e47=.returned (.tuple #[]) ∧
 ∀w49,ZN w48 w49 →
 ∃L50,ZJ w49 d43 32 L50 ∧
 ∃o51 l52 l53,World.cell? w49 (Addr.add d9 2)=some (.slice o51 l52 l53) ∧
 ∃w54,Sem.run Tryz.prog (Instr.storeAt 27 (.pointer (some d2)) (.agg L50)) w49=.ok () w54 ∧
 World.cell? w54 (Addr.add d9 2)=some (.slice o51 l52 l53) ∧
 ∃L55,ZJ w54 d2 32 L55 ∧
 R (.returned (.tuple #[(.agg L55),(.slice o51 l52 l53)])) w54))))))))))
theorem Z0K.vc (o0:Option Addr) (l0:Nat) (c0:Nat) (b1:Bool) (w:World) (R:Ending→World→Prop) (h:Z0K.Vc o0 l0 c0 b1 w R):Calls Tryz.prog 24 #[(.slice o0 l0 c0),(.bool b1)] w R :=
 Z8 (R:=⟨R,false⟩) (ann:=[(5,[(7,.cell (.int .i64))])]) (args:=[.slice o0 l0 c0,.bool (.var b1)]) Tryz.func24 ZR (Eq.mp (by kernel_rfl:Z0K.Vc o0 l0 c0 b1 w R=ZP (pA Tryz.prog ⟨R,false⟩) Tryz.prog [(5,[(7,.cell (.int .i64))])] Tryz.f24 [.slice o0 l0 c0,.bool (.var b1)] w) h)

abbrev Z0E.n:Nat:=10
def Z0E.Vc (o0:Option Addr) (l0 c0:Nat) (w:World) (R:Ending→World→Prop):Prop :=
 ∃(I1:Option Addr→Nat→Nat→Int→World→Prop) (μ1:Option Addr→Nat→Nat→Int→World→Nat),I1 none 0 0 0 w ∧
 (∀(o2:Option Addr) (l2:Nat) (c2:Nat) (n3:Int) (j4:Nat→Value) (w4:World),I1 o2 l2 c2 n3 w4 →
 (((n3 < ((l0:Nat):Int) →
 ∀w5,ZN w4 w5 →
 ∃d6,o0=some d6 ∧
 ((0:Int)≤n3∧n3 < ((l0:Nat):Int)) ∧
 ∃L7,ZJ w5 (Addr.add d6 ((Int.toNat n3) * 33)) 32 L7 ∧
 ∃d8,o0=some d8 ∧
 ((0:Int)≤n3∧n3 < ((l0:Nat):Int)) ∧
 ∃o9 l10 l11,World.cell? w5 (Addr.add (Addr.add d8 ((Int.toNat n3) * 33)) 32)=some (.slice o9 l10 l11) ∧
 ∃v12 w13,Sem.run Tryz.prog (builtinV .append #[23,23] 23 #[(.slice none 0 0),(.slice o9 l10 l11)]) w5=.ok v12 w13 ∧
 ∃o14 l15 l16,v12=(.slice o14 l15 l16) ∧
 ZJ w13 (Addr.add d6 ((Int.toNat n3) * 33)) 32 L7 ∧
 Array.size L7=32 ∧
 Array.size (setsAt (lputL #[(.int .u8 0),(.int .u8 0),(.int .u8 0),(.int .u8 0),(.int .u8 0),(.int .u8 0),(.int .u8 0),(.int .u8 0),(.int .u8 0),(.int .u8 0),(.int .u8 0),(.int .u8 0),(.int .u8 0),(.int .u8 0),(.int .u8 0),(.int .u8 0),(.int .u8 0),(.int .u8 0),(.int .u8 0),(.int .u8 0),(.int .u8 0),(.int .u8 0),(.int .u8 0),(.int .u8 0),(.int .u8 0),(.int .u8 0),(.int .u8 0),(.int .u8 0),(.int .u8 0),(.int .u8 0),(.int .u8 0),(.int .u8 0),(.slice none 0 0)] 0 32 L7) 32 [(.slice o14 l15 l16)])=33 ∧
 ∀d17 w18,ZC w13 48 (lputL #[(.int .u8 0),(.int .u8 0),(.int .u8 0),(.int .u8 0),(.int .u8 0),(.int .u8 0),(.int .u8 0),(.int .u8 0),(.int .u8 0),(.int .u8 0),(.int .u8 0),(.int .u8 0),(.int .u8 0),(.int .u8 0),(.int .u8 0),(.int .u8 0),(.int .u8 0),(.int .u8 0),(.int .u8 0),(.int .u8 0),(.int .u8 0),(.int .u8 0),(.int .u8 0),(.int .u8 0),(.int .u8 0),(.int .u8 0),(.int .u8 0),(.int .u8 0),(.int .u8 0),(.int .u8 0),(.int .u8 0),(.int .u8 0),(.slice none 0 0)] 0 33 (setsAt (lputL #[(.int .u8 0),(.int .u8 0),(.int .u8 0),(.int .u8 0),(.int .u8 0),(.int .u8 0),(.int .u8 0),(.int .u8 0),(.int .u8 0),(.int .u8 0),(.int .u8 0),(.int .u8 0),(.int .u8 0),(.int .u8 0),(.int .u8 0),(.int .u8 0),(.int .u8 0),(.int .u8 0),(.int .u8 0),(.int .u8 0),(.int .u8 0),(.int .u8 0),(.int .u8 0),(.int .u8 0),(.int .u8 0),(.int .u8 0),(.int .u8 0),(.int .u8 0),(.int .u8 0),(.int .u8 0),(.int .u8 0),(.int .u8 0),(.slice none 0 0)] 0 32 L7) 32 [(.slice o14 l15 l16)])) d17 w18 →
 ∃v19 w20,Sem.run Tryz.prog (builtinV .append #[34,34] 34 #[(.slice o2 l2 c2),(.slice (some d17) 1 1)]) w18=.ok v19 w20 ∧
 ∃o21 l22 l23,v19=(.slice o21 l22 l23) ∧
 I1 o21 l22 l23 (IntKind.wrap .i64 (n3+1)) w20∧μ1 o21 l22 l23 (IntKind.wrap .i64 (n3+1)) w20 < μ1 o2 l2 c2 n3 w4)) ∧
 ((¬n3 < ((l0:Nat):Int) →
 R (.returned (.slice o2 l2 c2)) w4))))
theorem Z0E.vc (o0:Option Addr) (l0:Nat) (c0:Nat) (w:World) (R:Ending→World→Prop) (h:Z0E.Vc o0 l0 c0 w R):Calls Tryz.prog 10 #[(.slice o0 l0 c0)] w R :=
 Z8 (R:=⟨R,false⟩) (ann:=[(3,[(3,.cell (.slice)),(4,.cell (.int .i64))])]) (args:=[.slice o0 l0 c0]) Tryz.func10 ZR (Eq.mp (by kernel_rfl:Z0E.Vc o0 l0 c0 w R=ZP (pA Tryz.prog ⟨R,false⟩) Tryz.prog [(3,[(3,.cell (.slice)),(4,.cell (.int .i64))])] Tryz.f10 [.slice o0 l0 c0] w) h)


abbrev Z0I.n:Nat:=17
def Z0I.Vc (o0:Option Addr) (l0 c0:Nat) (o1:Option Addr) (l1 c1:Nat) (w:World) (R:Ending→World→Prop):Prop :=
 (((((l0:Nat):Int)≠((l1:Nat):Int) →
 R (.returned (.bool false)) w)) ∧
 ((((l0:Nat):Int)=((l1:Nat):Int) →
 ∃(I2:Int→World→Prop) (μ2:Int→World→Nat),I2 0 w ∧
 (∀(n3:Int) (j4:Nat→Value) (w4:World),I2 n3 w4 →
 (((n3 < ((l0:Nat):Int) →
 ∀w5,ZN w4 w5 →
 ∃d6,o0=some d6 ∧
 ((0:Int)≤n3∧n3 < ((l0:Nat):Int)) ∧
 ∃L7,ZJ w5 (Addr.add d6 ((Int.toNat n3) * 33)) 32 L7 ∧
 ∃d8,o1=some d8 ∧
 ((0:Int)≤n3∧n3 < ((l1:Nat):Int)) ∧
 ∃L9,ZJ w5 (Addr.add d8 ((Int.toNat n3) * 33)) 32 L9 ∧
 ∃v10,Sem.run Tryz.prog (Z0q .neq 27 (.tmp 21) (.tmp 26) (.agg L7) (.agg L9)) w5=.ok v10 w5 ∧
 ∃b11,v10=(.bool b11) ∧
 (((b11=true →
 R (.returned (.bool false)) w5)) ∧
 ((b11=false →
 ∃d12,o0=some d12 ∧
 ((0:Int)≤n3∧n3 < ((l0:Nat):Int)) ∧
 ∃o13 l14 l15,World.cell? w5 (Addr.add (Addr.add d12 ((Int.toNat n3) * 33)) 32)=some (.slice o13 l14 l15) ∧
 ∃v16,Sem.run Tryz.prog (convert 23 9 (.slice o13 l14 l15)) w5=.ok v16 w5 ∧
 ∃s17,v16=(.string s17) ∧
 ∃d18,o1=some d18 ∧
 ((0:Int)≤n3∧n3 < ((l1:Nat):Int)) ∧
 ∃o19 l20 l21,World.cell? w5 (Addr.add (Addr.add d18 ((Int.toNat n3) * 33)) 32)=some (.slice o19 l20 l21) ∧
 ∃v22,Sem.run Tryz.prog (convert 23 9 (.slice o19 l20 l21)) w5=.ok v22 w5 ∧
 ∃s23,v22=(.string s23) ∧
 (((Z9a .neq s17 s23=true →
 R (.returned (.bool false)) w5)) ∧
 ((Z9a .neq s17 s23=false →
 I2 (IntKind.wrap .i64 (n3+1)) w5∧μ2 (IntKind.wrap .i64 (n3+1)) w5 < μ2 n3 w4)))))))) ∧
 ((¬n3 < ((l0:Nat):Int) →
 R (.returned (.bool true)) w4)))))))
theorem Z0I.vc (o0:Option Addr) (l0:Nat) (c0:Nat) (o1:Option Addr) (l1:Nat) (c1:Nat) (w:World) (R:Ending→World→Prop) (h:Z0I.Vc o0 l0 c0 o1 l1 c1 w R):Calls Tryz.prog 17 #[(.slice o0 l0 c0),(.slice o1 l1 c1)] w R :=
 Z8 (R:=⟨R,false⟩) (ann:=[(4,[(5,.cell (.int .i64))])]) (args:=[.slice o0 l0 c0,.slice o1 l1 c1]) Tryz.func17 ZR (Eq.mp (by kernel_rfl:Z0I.Vc o0 l0 c0 o1 l1 c1 w R=ZP (pA Tryz.prog ⟨R,false⟩) Tryz.prog [(4,[(5,.cell (.int .i64))])] Tryz.f17 [.slice o0 l0 c0,.slice o1 l1 c1] w) h)

end Go.Proofs.YtfghidehlnfdiaaGreat
end
section
namespace Go.Trie
def ZCx (n:Nd):Prop:=∀k v,get n k=some v→k.length≤128∧v.length≤1024
theorem ZCx.row {q:By} {c:Nd} (h:ZCx (.row q c)):ZCx c:=fun k v hg=>by
 have:=h (q++k) v (by rw [Z1I]; exact hg)
 rw [List.length_append] at this
 exact ⟨by omega,this.2⟩
theorem ZCx.kid {cs:Fin 16→Nd} {x:By} (h:ZCx (.branch cs x)) (i:Fin 16):ZCx (cs i):=fun k v hg=>by
 have:=h (UInt8.ofNat i.val :: k) v (by rw [Z14]; exact hg)
 simp only [List.length_cons] at this
 exact ⟨by omega,this.2⟩
theorem Z70:∀{n:Nd},Z1p n→ZCx n→Z60 n
 | .nil,_,_=>trivial
 | .leaf p v,_,h=>h p v (by simp [get])
 | .row p c,hc,h=>by
   refine ⟨?_,Z70 hc.2.2.2 h.row⟩
   obtain ⟨k,v,hk⟩:=Z59 hc.2.2.2 (by rintro rfl; exact hc.2.2.1)
   have:=(h (p++k) v (by rw [Z1I]; exact hk)).1
   rw [List.length_append] at this; omega
 | .branch cs x,hc,h=>by
   refine ⟨?_,fun i=>Z70 (hc.1 i) (h.kid i)⟩
   by_cases hx:x=[]
   ·simp [hx]
   ·exact (h [] x (by rw [Zh,if_neg hx])).2
theorem ZCx.put {n:Nd} {p x:By} (h:ZCx n) (hc:Z1p n) (hp:Nib p) (hx:x≠[]) (hpl:p.length≤128) (hxl:x.length≤1024):ZCx (put n p x):=fun k v hg=>by
 rw [(Z8i hc hp hx).2.2.2 k] at hg
 split at hg
 ·rename_i hk
  cases hg
  exact ⟨by rw [hk]; exact hpl,hxl⟩
 ·exact h k v hg
end Go.Trie
namespace Go.Proofs.YtfghidehlnfdiaaGreat
open Go Go.Vcg Go.Trie
end Go.Proofs.YtfghidehlnfdiaaGreat
end
section
namespace Go.Proofs.YtfghidehlnfdiaaGreat
open Go Go.Vcg Go.Trie
abbrev H32:={h:By // h.length=32}
instance:DecidableEq H32:=fun a b=>decidable_of_iff (a.1=b.1) Subtype.ext_iff.symm
def ZDu (h:H32):Value:=.agg (hashA h.1)
theorem ZHZ {a b:UInt8} (h:bV a=bV b):a=b:=by
 simp only [bV,Value.int.injEq,true_and] at h
 exact UInt8.toNat_inj.1 (by exact_mod_cast h)
theorem Z7Q {a b:By} (ha:a.length=32) (hb:b.length=32) (h:hashA a=hashA b):a=b:=by
 apply List.ext_getElem (by omega)
 intro i h1 h2
 have hi:i < 32:=by omega
 have e:=congrArg (fun x:Array Value=>x[i]?) h
 simp only [hashA,ZF hi,Option.some.injEq] at e
 have:=ZHZ e
 simpa [List.getD_eq_getElem?_getD,h1,h2] using this
theorem laidOut:laidOutB Tryz.prog=true:=by kernel_rfl
theorem Z4k:Tryz.prog.underlying tHash=some (.array 32 5):=by kernel_rfl
theorem ZAN {α β:Type} {f:α→Option β}:∀(l:List α),(∀x∈l,∃y,f x=some y)→∃ys,l.mapM f=some ys
 | [],_=>⟨[],rfl⟩
 | x :: r,h=>by
   obtain ⟨y,hy⟩:=h x (by simp)
   obtain ⟨ys,hys⟩:=ZAN r (fun z hz=>h z (by simp [hz]))
   exact ⟨y :: ys,by rw [List.mapM_cons,hy,hys]; rfl⟩
theorem ZE9 {P:Program} {k e:TypeId} {n:Nat} {q:IntKind} {v:Value} (hu:P.underlying k=some (.array n e)) (hk:P.keyType k=true) (hf:v.formed P k=true) (hs:1≤P.types.size) (he:P.underlying e=some (.int q)) (hc:P.cellsOf e=1)
  (hcl:v.cells.toList.length=P.cellsOf k) (hcells:∀i,i < n→∃m,v.cells.toList[i]?=some (.int q m)∧(Lit.int q m).wf=true):∃l,keyOf P k v=some l:=by
 obtain ⟨d,hd⟩:∃d,P.types.size=d+1:=⟨P.types.size - 1,by omega⟩
 unfold keyOf
 simp only [hu,hk,hf,Bool.and_self,if_true,hd,Program.keyLits,hcl]
 obtain ⟨ys,hys⟩:=ZAN (f:=fun i=>P.keyLits (d+1) e ((v.cells.toList.drop (i * P.cellsOf e)).take (P.cellsOf e))) (List.range n) (fun i hi=>by
  obtain ⟨m,h1,h2⟩:=hcells i (List.mem_range.1 hi)
  have e1:((v.cells.toList.drop (i * P.cellsOf e)).take (P.cellsOf e))=[.int q m]:=by
   rw [hc,Nat.mul_one]
   have hl:i < v.cells.toList.length:=by
    rcases Nat.lt_or_ge i v.cells.toList.length with h | h
    ·exact h
    ·rw [List.getElem?_eq_none h] at h1; cases h1
   rw [List.getElem?_eq_getElem hl] at h1
   rw [List.drop_eq_getElem_cons hl,Option.some.inj h1]; rfl
  refine ⟨[.int q m],?_⟩
  rw [e1]
  simp only [Program.keyLits,he]
  exact if_pos ⟨trivial,h2⟩)
 simp only [Program.keyLits] at hys
 refine ⟨.string (keyBytes ys.flatten),?_⟩
 rw [hys]
 rfl
theorem wf_u8 (b:UInt8):(Lit.int .u8 (b.toNat:Int)).wf=true:=by
 have:∀n:Fin 256,(Lit.int .u8 ((UInt8.ofFin n).toNat:Int)).wf=true:=by decide +kernel
 exact this b.toFin
theorem Z8H:Tryz.prog.cellsOf tHash=32:=by kernel_rfl
theorem Z8M (h:H32):(ZDu h).cells=hashA h.1:=rfl
theorem Z7T:Z9d Tryz.prog tHash ZDu (fun _=>True) where
 keyed:=Go.Maps.Keyed.of_law (deep_law_gate laidOut (of_decide_eq_true (by kernel_rfl)) (of_decide_eq_true (by kernel_rfl)) (by kernel_rfl) (by kernel_rfl))
 ok h _:=ZE9 Z4k (by kernel_rfl) (by simp only [ZDu,Value.formed,Z4k,Z8H,ZB]; rfl) (of_decide_eq_true (by kernel_rfl)) Z5v (by kernel_rfl)
  (by rw [Z8M,Array.length_toList,ZB,Z8H]) (fun i hi=>⟨((h.1.getD i 0).toNat:Int),by rw [Z8M,Array.getElem?_toList]; exact ZF hi,wf_u8 _⟩)
 inj a b h:=by
  simp only [ZDu,Value.agg.injEq] at h
  exact Subtype.ext (Z7Q a.2 b.2 h)

abbrev tNd:TypeId:=48
abbrev Z39:TypeId:=34
theorem Z3L:Tryz.prog.underlying Z39=some (.slice tNd):=by kernel_rfl
def ndA (h:By) (o:Option Addr) (l k:Nat):Array Value:=((hashA h).toList++[Value.slice o l k]).toArray
abbrev nd0:Array Value:=#[(.int .u8 0),(.int .u8 0),(.int .u8 0),(.int .u8 0),(.int .u8 0),(.int .u8 0),(.int .u8 0),(.int .u8 0),(.int .u8 0),(.int .u8 0),(.int .u8 0),(.int .u8 0),(.int .u8 0),(.int .u8 0),(.int .u8 0),(.int .u8 0),(.int .u8 0),(.int .u8 0),(.int .u8 0),(.int .u8 0),(.int .u8 0),(.int .u8 0),(.int .u8 0),(.int .u8 0),(.int .u8 0),(.int .u8 0),(.int .u8 0),(.int .u8 0),(.int .u8 0),(.int .u8 0),(.int .u8 0),(.int .u8 0),(.slice none 0 0)]
theorem ZBN:(Tryz.prog.info? tNd).map (fun i=>(i.zero,i.size,i.bytes))=some (some (.agg nd0),33,56):=by kernel_rfl
theorem Z4i (h:By) (o:Option Addr) (l k:Nat):(ndA h o l k).size=33:=by simp [ndA,ZB]
theorem ZCU {h:By} {o:Option Addr} {l k i:Nat} (hi:i < 32):(ndA h o l k)[i]?=some (bV (h.getD i 0)):=by
 unfold ndA
 rw [List.getElem?_toArray,List.getElem?_append_left (by rw [Array.length_toList,ZB]; exact hi),Array.getElem?_toList]
 exact ZF hi
theorem ZCT {h:By} {o:Option Addr} {l k:Nat}:(ndA h o l k)[32]?=some (.slice o l k):=by
 unfold ndA
 rw [List.getElem?_toArray,List.getElem?_append_right (by rw [Array.length_toList,ZB]; omega),Array.length_toList,ZB]
 rfl
theorem ZBT (h:By) (o:Option Addr) (l k:Nat):∀v∈(ndA h o l k).toList,v.oneCell'=true:=by
 intro v hv
 simp only [ndA,List.mem_append,List.mem_singleton] at hv
 rcases hv with hv | rfl
 ·exact Z2c h v hv
 ·rfl
theorem Z6u {Z:Array Value} (hZ:Z.size=33) (h:By) (s:Value):lputL Z 0 33 (setsAt (lputL Z 0 32 (hashA h)) 32 [s])=((hashA h).toList++[s]).toArray:=by
 have e1:(lputL Z 0 32 (hashA h)).size=33:=by unfold lputL; rw [Zb,hZ]
 have hh:(hashA h).toList.take 32=(hashA h).toList:=List.take_of_length_le (by rw [Array.length_toList,ZB]; omega)
 have hl:(hashA h).toList.length=32:=by rw [Array.length_toList,ZB]
 have e2:(setsAt (lputL Z 0 32 (hashA h)) 32 [s]).size=33:=by rw [Zb,e1]
 apply Array.ext_getElem?
 intro i
 have hr:(((hashA h).toList++[s]).toArray)[i]?=((hashA h).toList++[s])[i]?:=List.getElem?_toArray ..
 rw [hr]
 have e3:lputL Z 0 33 (setsAt (lputL Z 0 32 (hashA h)) 32 [s])=setsAt Z 0 ((setsAt (lputL Z 0 32 (hashA h)) 32 [s]).toList.take 33):=rfl
 have ht:((setsAt (lputL Z 0 32 (hashA h)) 32 [s]).toList.take 33)=(setsAt (lputL Z 0 32 (hashA h)) 32 [s]).toList:=List.take_of_length_le (by rw [Array.length_toList,e2]; omega)
 rw [e3,ht,Z03 _ _ _ _ (by rw [Array.length_toList,e2,hZ]; omega),Array.length_toList,e2]
 by_cases hi:i < 33
 ·rw [if_pos (by omega),Nat.sub_zero,Array.getElem?_toList,Z03 _ _ _ _ (by rw [e1]; simp)]
  by_cases h32:i=32
  ·subst h32
   rw [if_pos (by simp),List.getElem?_append_right (by omega),hl]
  ·rw [if_neg (by simp; omega),List.getElem?_append_left (by omega)]
   unfold lputL
   rw [hh,Z03 _ _ _ _ (by omega),if_pos (by omega),Nat.sub_zero]
 ·rw [if_neg (by omega),Array.getElem?_eq_none (by omega),List.getElem?_eq_none (by rw [List.length_append,hl]; simp; omega)]
section
variable {C:Type} {S:C→Prop} {w0 w w1 w':World} {lab lab':Nat→C} {c cb:C}
def ZV (w:World) (lab:Nat→C) (cb:C) (vs:List Value) (l:List (By×By)):Prop :=
 vs.length=l.length * 33∧∀(j:Nat) (hj:j < l.length),l[j].1.length=32∧(∀i,i < 32→vs[j * 33+i]?=some (bV (l[j].1.getD i 0)))∧∃ob kb,vs[j * 33+32]?=some (.slice ob l[j].2.length kb)∧CBy w lab cb ob l[j].2∧l[j].2.length≤kb
theorem ZV.nil (w:World) (lab:Nat→C) (cb:C):ZV w lab cb [] []:=⟨rfl,fun j hj=>absurd hj (by simp)⟩
theorem ZV.stp {vs:List Value} {l:List (By×By)} (h:ZV w lab cb vs l) (s:Stp S w lab w' lab') (hs:¬S cb):ZV w' lab' cb vs l :=
 ⟨h.1,fun j hj=>by obtain ⟨h1,h2,ob,kb,h3,h4⟩:=h.2 j hj; exact ⟨h1,h2,ob,kb,h3,h4.1.stp s hs,h4.2⟩⟩
theorem ZV.push {vs:List Value} {l:List (By×By)} {h b:By} {ob:Option Addr} {kb:Nat} (H:ZV w lab cb vs l) (hh:h.length=32) (hb:CBy w lab cb ob b) (hk:b.length≤kb) :
  ZV w lab cb (vs++(ndA h ob b.length kb).toList) (l++[(h,b)]):=by
 have hnl:(ndA h ob b.length kb).toList.length=33:=by rw [Array.length_toList,Z4i]
 refine ⟨by rw [List.length_append,hnl,H.1,List.length_append]; simp; omega,fun j hj=>?_⟩
 rw [List.length_append,List.length_singleton] at hj
 have hv:=H.1
 by_cases hl:j < l.length
 ·rw [List.getElem_append_left hl]
  obtain ⟨h1,h2,ob,kb,h3,h4⟩:=H.2 j hl
  exact ⟨h1,fun i hi=>by rw [List.getElem?_append_left (by omega)]; exact h2 i hi,ob,kb,by rw [List.getElem?_append_left (by omega)]; exact h3,h4⟩
 ·obtain rfl:j=l.length:=by omega
  rw [List.getElem_append_right (Nat.le_refl _)]
  simp only [Nat.sub_self,List.getElem_cons_zero]
  refine ⟨hh,fun i hi=>?_,ob,kb,?_,hb,hk⟩
  ·rw [List.getElem?_append_right (by omega),hv,show l.length * 33+i - l.length * 33=i by omega,Array.getElem?_toList]
   exact ZCU hi
  ·rw [List.getElem?_append_right (by omega),hv,show l.length * 33+32 - l.length * 33=32 by omega,Array.getElem?_toList]
   exact ZCT
def Z4n (w:World) (lab:Nat→C) (c cb:C) (l:List (By×By)) (o:Option Addr) (n k:Nat):Prop :=
 n=l.length∧∃vs,COw w lab c tNd 33 o n k vs∧ZV w lab cb vs l
theorem Z4n.nil (w:World) (lab:Nat→C) (c cb:C):Z4n w lab c cb [] none 0 0:=⟨rfl,[],COw.nil w lab c _ _,ZV.nil w lab cb⟩
theorem Z4n.stp {l:List (By×By)} {o:Option Addr} {n k:Nat} (h:Z4n w lab c cb l o n k) (s:Stp S w lab w' lab') (hs:¬S c) (hb:¬S cb):Z4n w' lab' c cb l o n k:=by
 obtain ⟨h1,vs,h2,h3⟩:=h
 exact ⟨h1,vs,h2.stp s hs,h3.stp s hb⟩
theorem Z4n.push {l:List (By×By)} {o:Option Addr} {n k D:Nat} {h b:By} {ob:Option Addr} {kb:Nat} (H:Z4n w lab c cb l o n k) (hcb:cb≠c) (B:Blk w D tNd (ndA h ob b.length kb)) (hh:h.length=32) (hb:CBy w lab cb ob b) (hk:b.length≤kb) (hl:l.length≤2 ^ 20) :
  ∃o' k' w',Sem.run Tryz.prog (builtinV .append #[Z39,Z39] Z39 #[.slice o n k,.slice (some ⟨D,0,none⟩) 1 1]) w=.ok (.slice o' (n+1) k') w' ∧
   Z4n w' (ext lab w.heap.size c) c cb (l++[(h,b)]) o' (n+1) k'∧Stp (·=c) w lab w' (ext lab w.heap.size c):=by
 obtain ⟨rfl,vs,hO,hC⟩:=H
 obtain ⟨i,hi,hz,hs,hbt⟩:=Z2G ZBN
 obtain ⟨o',k',w',h1,h2,h3⟩:=COw.append (ty:=Z39) Z3L hi hz hs (by rfl) hO (Z5K Z3L B (Z4i _ _ _ _) (ZBT _ _ _ _)) (by simp only [maxLen]; omega) (by rw [hbt]; omega)
 exact ⟨o',k',w',h1,⟨by simp,_,h2,(hC.push hh hb hk).stp h3 hcb⟩,h3⟩
end
end Go.Proofs.YtfghidehlnfdiaaGreat
end
