/- What item is a node: plain Lean; and the nodes that the trie makes of items. -/
/- Contracts: trie.branched, noded, decoded, Check. -/
/- The verification conditions of some functions, printed by a program of ours (wip/PrintVc.lean). -/
/- Contracts: the reference's is and ref (moraineref14). -/
/- Contracts: trie.decoded, Check, Children. -/
/- The hashes that a node's item refers to; rows of hashes. -/
/- Ways from a root down to a key, through nodes that are told by their hashes: plain Lean. -/
/- Functions with deferred calls: their condition, and that it is enough. -/
import Derived.Test.YtfghidehlnfdiaaGreatTVH
import Derived.Test.YtfghidehlnfdiaaGreatProg
import Derived.KernelRfl
import Derived.Test.YtfghidehlnfdiaaGreatXFun
import Derived.Defers
set_option linter.unusedVariables false
set_option linter.unusedSimpArgs false
section
namespace Go.Trie
def isE:It→Bool
 | .s []=>true
 | _=>false
def valIs:It→Bool
 | .s (_ :: _)=>true
 | _=>false
end Go.Trie
namespace Go.Proofs.YtfghidehlnfdiaaGreat
open Go Go.Vcg Go.Trie
def headIs:It→Option (By×Bool)
 | .s p=>unpack p
 | .l _=>none
def nodeN:Nat→List It→Bool
 | 0,_=>false
 | f+1,xs =>
   let ref:It→Bool:=fun x=>match x with
    | .s b=>decide (b.length=32)
    | .l ys=>decide ((enc (.l ys)).length < 32) && nodeN f ys
   if xs.length=2 then
    match headIs (xs.getD 0 (.s [])) with
    | none=>false
    | some (_,true)=>valIs (xs.getD 1 (.s []))
    | some (p,false)=>decide (p≠[]) && ref (xs.getD 1 (.s []))
   else if xs.length=17 then
    match xs.getD 16 (.s []) with
    | .l _=>false
    | .s v=>(xs.take 16).all (fun x=>isE x || ref x) && decide (2≤(if v=[] then 0 else 1)+((xs.take 16).filter (fun x=> !isE x)).length)
   else false
def refN (f:Nat) (x:It):Bool:=match x with
 | .s b=>decide (b.length=32)
 | .l ys=>decide ((enc (.l ys)).length < 32) && nodeN f ys
def isN (f:Nat) (x:It):Bool:=match x with
 | .s _=>false
 | .l xs=>nodeN f xs
theorem nodeN_two {f:Nat} {xs:List It} (h:xs.length=2):nodeN (f+1) xs=(match headIs (xs.getD 0 (.s [])) with
 | none=>false
 | some (_,true)=>valIs (xs.getD 1 (.s []))
 | some (p,false)=>decide (p≠[]) && refN f (xs.getD 1 (.s []))):=by
 simp only [nodeN]; rw [if_pos h]; rfl
theorem nodeN_many {f:Nat} {xs:List It} (h:xs.length=17):nodeN (f+1) xs=(match xs.getD 16 (.s []) with
 | .l _=>false
 | .s v=>(xs.take 16).all (fun x=>isE x || refN f x) && decide (2≤(if v=[] then 0 else 1)+((xs.take 16).filter (fun x=> !isE x)).length)):=by
 simp only [nodeN]; rw [if_neg (by omega),if_pos h]; rfl
theorem nodeN_no {f:Nat} {xs:List It} (h:xs.length≠2) (h':xs.length≠17):nodeN (f+1) xs=false:=by
 simp only [nodeN]; rw [if_neg h,if_neg h']
def RV (N:Nat):Nat→World→It→Value→Prop
 | _,w,.s b,v=>(b=[]∧v=.nilIface)∨(b.length=32∧∃D,N≤D∧v=.iface 226 (.pointer (some ⟨D,0,none⟩))∧Blk w D 228 (hashA b))
 | 0,_,.l _,_=>False
 | f+1,w,.l xs,v =>
   (xs.length=2∧(∃p,headIs (xs.getD 0 (.s []))=some (p,true))∧∃d:Addr,v=.iface 241 (.pointer (some d))) ∨
   (xs.length=2∧(∃p,headIs (xs.getD 0 (.s []))=some (p,false))∧∃D s vc,N≤D∧v=.iface 249 (.pointer (some ⟨D,0,none⟩))∧Blk w D 251 #[s,vc]∧RV N f w (xs.getD 1 (.s [])) vc) ∨
   (xs.length=17∧∃D vs ov lv kv,N≤D∧v=.iface 244 (.pointer (some ⟨D,0,none⟩))∧Blk w D 247 (brA vs ov lv kv)∧∀i:Fin 16,RV N f w (xs.getD i.val (.s [])) (vs i))
theorem RV.modS {S:Nat→Prop} {N N':Nat} {w w':World} (M:Vcg.Mod S w w') (hS:∀b,S b→b < N) (hN:N'≤N):∀{f:Nat} {x:It} {v:Value},RV N f w x v→RV N' f w' x v
 | f,.s b,v,h=>by
   simp only [RV] at h ⊢
   rcases h with h | ⟨h1,D,h0,h2,h3⟩
   ·exact .inl h
   ·exact .inr ⟨h1,D,by omega,h2,h3.mod M (fun h=>by have:=hS _ h; omega)⟩
 | 0,.l _,_,h=>by simp only [RV] at h
 | f+1,.l xs,v,h=>by
   simp only [RV] at h ⊢
   rcases h with h | ⟨h1,h2,D,s,vc,h0,h3,h4,h5⟩ | ⟨h1,D,vs,ov,lv,kv,h0,h2,h3,h4⟩
   ·exact .inl h
   ·exact .inr (.inl ⟨h1,h2,D,s,vc,by omega,h3,h4.mod M (fun h=>by have:=hS _ h; omega),RV.modS M hS hN h5⟩)
   ·exact .inr (.inr ⟨h1,D,vs,ov,lv,kv,by omega,h2,h3.mod M (fun h=>by have:=hS _ h; omega),fun i=>RV.modS M hS hN (h4 i)⟩)
theorem RV.mod' {N N':Nat} {w w':World} (M:Vcg.Mod NoB w w') (hN:N'≤N) {f:Nat} {x:It} {v:Value} (h:RV N f w x v):RV N' f w' x v:=RV.modS M (fun _ h=>h.elim) hN h
def Fine (x:It):Prop:=dep x≤16∧count x≤4096∧(enc x).length≤65536
theorem Fine.mem {xs:List It} (h:Fine (.l xs)) {x:It} (hx:x∈xs):Fine x:=by
 obtain ⟨h1,h2,h3⟩:=h
 have hd:=dep_mem hx
 have he:=enc_mem hx
 have hc:count x≤counts xs:=by
  clear h1 h2 h3 hd he
  induction xs with
  | nil=>cases hx
  | cons y r ih =>
    simp only [counts]
    rcases List.mem_cons.1 hx with rfl | hx
    ·omega
    ·have:=ih hx; omega
 have hl:1≤xs.length:=List.length_pos_iff.2 (List.ne_nil_of_mem hx)
 simp only [dep] at h1
 simp only [count] at h2
 simp only [enc,List.length_append] at h3
 exact ⟨by omega,by omega,by omega⟩
def NodedAt (f:Nat):Prop:=∀(x:It) {A:Nat→Prop} {w:World} {v1 v2 v3:Value},dep x≤f→Fine x→ItC A w x v1 v2 v3 →
 Calls Tryz.prog trie_noded.n #[.agg #[v1,v2,v3]] w (fun e w'=>∃v,e=.returned (.tuple #[v,.bool (isN f x)])∧Vcg.Mod NoB w w'∧v.oneCell'=true∧(isN f x=true→RV w.heap.size f w' x v))
def ReferAt (f:Nat):Prop:=∀(x:It) {A:Nat→Prop} {w:World} {v1 v2 v3:Value},dep x≤f→Fine x→ItC A w x v1 v2 v3 →
 Calls Tryz.prog trie_referred.n #[.agg #[v1,v2,v3]] w (fun e w'=>∃v,e=.returned (.tuple #[v,.bool (refN f x)])∧Vcg.Mod NoB w w'∧v.oneCell'=true∧(refN f x=true→RV w.heap.size f w' x v))
theorem lput_all {Z L:Array Value} (hZ:Z.size=32) (hL:L.size=32):lputL Z 0 32 L=L:=by
 unfold lputL
 have ht:L.toList.take 32=L.toList:=List.take_of_length_le (by simp [hL])
 rw [ht]
 apply Array.ext_getElem?
 intro i
 rw [get_setsAt _ _ _ _ (by simp [hL,hZ])]
 by_cases hi:i < 32
 ·rw [if_pos ⟨Nat.zero_le _,by simp [hL]; exact hi⟩,Nat.sub_zero,Array.getElem?_toList]
 ·rw [if_neg (by simp [hL]; omega),Array.getElem?_eq_none (by omega),Array.getElem?_eq_none (by omega)]
theorem refer_of {f:Nat} (hN:NodedAt f):ReferAt f:=by
 intro x A w v1 v2 v3 hdp hf hx
 obtain ⟨b,o1,l1,c1,o2,l2,c2,rfl,rfl,rfl⟩:=hx.vals
 refine calls_gen fun R hR=>trie_referred.vc _ _ _ _ _ _ _ _ _ ?_
 unfold trie_referred.Vc
 rintro d3 w1 ⟨rfl,rfl⟩
 have M1:Vcg.Mod NoB w _:=Mod.alloc w (.cells #[.bool b,.slice o1 l1 c1,.slice o2 l2 c2] 111)
 have X1:=Blk.new w 111 #[.bool b,.slice o1 l1 c1,.slice o2 l2 c2]
 generalize w.alloc (.cells #[.bool b,.slice o1 l1 c1,.slice o2 l2 c2] 111)=w1 at *
 have hx1:=ItC.mod M1 _ hx
 cases x with
 | s bs =>
   have hx1':=hx1
   simp only [ItC] at hx1
   obtain ⟨h1,⟨o,c,h2,h3,h4⟩,h5⟩:=hx1
   cases h1; cases h2; cases h5
   refine ⟨_,X1.rd1 rfl,fun _=>⟨_,_,_,by rw [add_at]; exact X1.rd1 rfl,fun hn=>?_,fun hn=>⟨_,_,_,by rw [add_at]; exact X1.rd1 rfl,by omega,?_⟩⟩,fun h=>(by cases h)⟩
   ·refine hR _ _ ⟨.nilIface,?_,M1,rfl,fun h=>?_⟩
    ·simp only [refN]; rw [decide_eq_false (by omega)]
    ·simp only [refN,decide_eq_true_eq] at h; omega
   ·obtain ⟨g,f0,rfl,hg,hc⟩:=h3 (by rintro rfl; simp at hn)
    refine ⟨_,rfl,hashA bs,⟨size_hashA bs,fun i hi=>?_⟩,size_hashA bs,?_⟩
    ·rw [add_at,hc i (by omega)]
     simp only [hashA]
     exact (get_arrOf_lt (f:=fun i=>bV (bs.getD i 0)) hi).symm
    ·rw [lput_all (by simp) (size_hashA bs)]
     rintro d4 w2 ⟨rfl,rfl⟩
     refine hR _ _ ⟨.iface 226 (.pointer (some ⟨w1.heap.size,0,none⟩)),?_,M1.step_alloc _,rfl,fun _=>?_⟩
     ·simp only [refN]; rw [decide_eq_true (by omega)]
     ·simp only [RV]
      exact .inr ⟨by omega,_,M1.size,rfl,Blk.new w1 228 (hashA bs)⟩
 | l xs =>
   have hx1':=hx1
   simp only [ItC] at hx1
   obtain ⟨h1,h2,o,c,h3,h4,hcap⟩:=hx1
   cases h1; cases h2; cases h3
   refine ⟨_,X1.rd1 rfl,fun h=>(by cases h),fun _=>get3 X1 ?_⟩
   refine (Encode_calls hx1' hf.1 hf.2.1 hf.2.2).mono ?_
   rintro _ w2 ⟨o',k',rfl,F⟩
   have M02:=M1.none_trans F.mod
   have X2:=X1.mod' F.mod
   refine ⟨_,_,_,_,rfl,fun h=>(h rfl).elim,fun _=>⟨fun hge=>?_,fun hlt=>get3 X2 ?_⟩⟩
   ·refine hR _ _ ⟨.nilIface,?_,M02,rfl,fun h=>?_⟩
    ·simp only [refN]; rw [decide_eq_false (by omega)]; rfl
    ·simp only [refN,Bool.and_eq_true,decide_eq_true_eq] at h; omega
   ·refine (hN (.l xs) hdp hf (ItC.mod F.mod _ hx1')).mono ?_
    rintro _ w3 ⟨v,rfl,M3,hv,hrv⟩
    have e:refN f (.l xs)=isN f (.l xs):=by
     simp only [refN,isN]; rw [decide_eq_true (by omega)]; rfl
    exact ⟨_,_,rfl,hR _ _ ⟨v,by rw [e],M02.none_trans M3,hv,fun h=>RV.mod' (Mod.refl _) M02.size (hrv (by rw [← e]; exact h))⟩⟩
theorem short_calls {f:Nat} (hRf:ReferAt f) {x y:It} {A:Nat→Prop} {w:World} {v1 v2 v3 u1 u2 u3:Value} (hdy:dep y≤f) (hfx:Fine x) (hfy:Fine y) (hx:ItC A w x v1 v2 v3) (hy:ItC A w y u1 u2 u3) :
 Calls Tryz.prog trie_short.n #[.agg #[v1,v2,v3],.agg #[u1,u2,u3]] w (fun e w'=>∃v,e=.returned (.tuple #[v,.bool (nodeN (f+1) [x,y])])∧Vcg.Mod NoB w w'∧v.oneCell'=true∧(nodeN (f+1) [x,y]=true→RV w.heap.size (f+1) w' (.l [x,y]) v)):=by
 obtain ⟨b,o1,l1,c1,o2,l2,c2,rfl,rfl,rfl⟩:=hx.vals
 obtain ⟨b',p1,q1,r1,p2,q2,r2,rfl,rfl,rfl⟩:=hy.vals
 refine calls_gen fun R hR=>trie_short.vc _ _ _ _ _ _ _ _ _ _ _ _ _ _ _ _ ?_
 unfold trie_short.Vc
 have hnode:nodeN (f+1) [x,y]=(match headIs x with
  | none=>false
  | some (_,true)=>valIs y
  | some (p,false)=>decide (p≠[]) && refN f y):=nodeN_two rfl
 rintro d6 w1 ⟨rfl,rfl⟩
 have M1:Vcg.Mod NoB w _:=Mod.alloc w (.cells #[.bool b,.slice o1 l1 c1,.slice o2 l2 c2] 111)
 have X1:=Blk.new w 111 #[.bool b,.slice o1 l1 c1,.slice o2 l2 c2]
 generalize w.alloc (.cells #[.bool b,.slice o1 l1 c1,.slice o2 l2 c2] 111)=w1 at *
 rintro d8 w2 ⟨rfl,rfl⟩
 have M12:Vcg.Mod NoB w1 _:=Mod.alloc w1 (.cells #[.bool b',.slice p1 q1 r1,.slice p2 q2 r2] 111)
 have Y2:=Blk.new w1 111 #[.bool b',.slice p1 q1 r1,.slice p2 q2 r2]
 have X2:=X1.mod' M12
 have M2:=M1.none_trans M12
 generalize w1.heap.size=N' at *
 generalize w1.alloc (.cells #[.bool b',.slice p1 q1 r1,.slice p2 q2 r2] 111)=w2 at *
 have hx2:=ItC.mod M2 _ hx
 have hy2:=ItC.mod M2 _ hy
 have no:∀w',headIs x=none→Vcg.Mod NoB w w'→R (.returned (.tuple #[.nilIface,.bool false])) w':=fun w' h M=>by
  rw [h] at hnode
  exact hR _ _ ⟨.nilIface,by rw [hnode],M,rfl,fun h=>by rw [hnode] at h; cases h⟩
 refine ⟨_,X2.rd1 rfl,fun hb=>no _ ?_ M2,fun hb=>⟨_,_,_,by rw [add_at]; exact X2.rd1 rfl,?_⟩⟩
 ·cases x with
  | s bs=>simp only [ItC] at hx2; cases hx2.1; cases hb
  | l xs=>rfl
 cases x with
 | l xs=>simp only [ItC] at hx2; cases hx2.1; cases hb
 | s bs =>
   simp only [ItC] at hx2
   obtain ⟨h1,⟨o,c,h2,h3,h4⟩,h5⟩:=hx2
   cases h1; cases h2; cases h5
   have hbl:bs.length≤2 ^ 20:=by
    have:bs.length≤(enc (.s bs)).length:=by
     simp only [enc]
     split
     ·exact Nat.le_refl _
     ·rw [List.length_append]; omega
    have:=hfx.2.2
    omega
   simp only [headIs] at hnode no
   refine (Unpack_calls h3 hbl).mono ?_
   rintro _ w3 ⟨o',k',rfl,M3,R3,_⟩
   have M03:=M2.none_trans M3
   have Y3:=Y2.mod' M3
   have hy3:=ItC.mod M3 _ hy2
   cases hu:unpack bs with
   | none =>
     have e:upk bs=([],false,143):=by unfold upk; rw [hu]
     rw [e]
     exact ⟨_,_,_,_,_,rfl,fun _=>no _ hu M03,fun h=>absurd h (by decide)⟩
   | some r =>
     obtain ⟨p,lf⟩:=r
     have e:upk bs=(p,lf,0):=by unfold upk; rw [hu]
     rw [e]
     rw [hu] at hnode
     refine ⟨_,_,_,_,_,rfl,fun h=>(h rfl).elim,fun _=>⟨fun hlf=>?_,fun hlf=>?_⟩⟩
     ·subst hlf
      simp only at hnode
      rintro _ rfl
      have M4:Vcg.Mod NoB w3 w3.drew:=Mod.drew w3
      have Y4:=Y3.mod' M4
      have M04:=M03.none_trans M4
      generalize w3.drew=w4 at *
      have hrv:∀(w':World) (d:Addr),RV w.heap.size (f+1) w' (.l [.s bs,y]) (.iface 241 (.pointer (some d))):=fun w' d=>by
       simp only [RV]
       exact .inl ⟨rfl,⟨p,hu⟩,d,rfl⟩
      cases y with
      | s vs =>
        simp only [ItC] at hy3
        obtain ⟨h1,⟨oy,cy,h2,h3',h4'⟩,h5⟩:=hy3
        cases h1; cases h2; cases h5
        refine ⟨_,_,_,by rw [add_at]; exact Y4.rd1 rfl,_,Y4.rd1 rfl,fun _=>⟨_,_,_,by rw [add_at]; exact Y4.rd1 rfl,?_⟩,fun h=>(by cases h)⟩
        rintro d5 w5 ⟨rfl,rfl⟩
        refine ⟨by rw [add_at]; exact (Y4.mod' (Mod.alloc w4 _)).rd1 rfl,(Y4.mod' (Mod.alloc w4 _)).rd1 rfl,hR _ _ ⟨.iface 241 (.pointer (some ⟨w4.heap.size,0,none⟩)),?_,M04.none_trans (Mod.alloc w4 _),rfl,fun _=>hrv _ _⟩⟩
        rw [hnode]
        cases vs with
        | nil=>rfl
        | cons a r=>rw [decide_eq_true (by simp only [List.length_cons]; omega)]; rfl
      | l ys =>
        simp only [ItC] at hy3
        obtain ⟨h1,h2,oy,cy,h3',h4',_⟩:=hy3
        cases h1; cases h2; cases h3'
        refine ⟨_,_,_,by rw [add_at]; exact Y4.rd1 rfl,_,Y4.rd1 rfl,fun h=>(by cases h),fun _=>?_⟩
        rintro d5 w5 ⟨rfl,rfl⟩
        refine ⟨(Y4.mod' (Mod.alloc w4 _)).rd1 rfl,hR _ _ ⟨.iface 241 (.pointer (some ⟨w4.heap.size,0,none⟩)),?_,M04.none_trans (Mod.alloc w4 _),rfl,fun _=>hrv _ _⟩⟩
        rw [hnode]; rfl
     ·subst hlf
      simp only at hnode
      refine ⟨fun hz=>?_,fun hz=>get3 Y3 ?_⟩
      ·have hp:p=[]:=List.eq_nil_of_length_eq_zero (by dsimp only at hz; omega)
       rw [hp] at hnode
       simp only [ne_eq,not_true_eq_false,decide_false,Bool.false_and] at hnode
       exact hR _ _ ⟨.nilIface,by rw [hnode],M03,rfl,fun h=>by rw [hnode] at h; cases h⟩
      ·have hp:p≠[]:=by rintro rfl; simp at hz
       rw [decide_eq_true hp,Bool.true_and] at hnode
       refine (hRf y hdy hfy hy3).mono ?_
       rintro _ w4 ⟨v,rfl,M4,hv,hrv⟩
       refine ⟨_,_,rfl,hv,?_⟩
       rintro d5 w5 ⟨rfl,rfl⟩
       have M5:Vcg.Mod NoB w4 _:=Mod.alloc w4 (.cells #[.slice o' p.length k',v] 251)
       refine hR _ _ ⟨.iface 249 (.pointer (some ⟨w4.heap.size,0,none⟩)),by rw [hnode],(M03.none_trans M4).none_trans M5,rfl,fun h=>?_⟩
       rw [hnode] at h
       simp only [RV]
       exact .inr (.inl ⟨rfl,⟨p,hu⟩,_,_,v,(M03.none_trans M4).size,rfl,Blk.new w4 251 _,RV.mod' M5 M03.size (hrv h)⟩)
end Go.Proofs.YtfghidehlnfdiaaGreat
end
section
namespace Go.Proofs.YtfghidehlnfdiaaGreat
open Go Go.Vcg Go.Trie
theorem getD_at {xs:List It} {j:Nat} (h:j < xs.length):xs.getD j (.s [])=xs[j]:=by
 rw [List.getD_eq_getElem?_getD,List.getElem?_eq_getElem h]; rfl
theorem branched_calls {f:Nat} (hRf:ReferAt f) {xs:List It} {A:Nat→Prop} {w:World} {o:Option Addr} {c:Nat} (h17:xs.length=17) (hd:∀x∈xs,dep x≤f) (hf:∀x∈xs,Fine x) (hx:ItsC A w xs o 0) (hc:xs.length≤c) :
 Calls Tryz.prog trie_branched.n #[.slice o xs.length c] w (fun e w'=>∃v,e=.returned (.tuple #[v,.bool (nodeN (f+1) xs)])∧Vcg.Mod NoB w w'∧v.oneCell'=true∧(nodeN (f+1) xs=true→RV w.heap.size (f+1) w' (.l xs) v)):=by
 refine calls_gen fun R hR=>trie_branched.vc _ _ _ _ _ ?_
 unfold trie_branched.Vc
 have hnode:=nodeN_many (f:=f) h17
 rw [getD_at (by omega)] at hnode
 obtain ⟨g,f0,v1,v2,v3,rfl,hg,e1,e2,e3,hi⟩:=hx.get 16 (by omega)
 have at16:=hi
 refine ⟨_,rfl,⟨by omega,by omega⟩,?_⟩
 generalize hx16:xs[16]=x16 at *
 cases x16 with
 | l ys =>
   simp only [ItC] at hi
   obtain ⟨rfl,_⟩:=hi
   refine ⟨true,by rw [add_at]; exact e1,fun _=>hR _ _ ⟨.nilIface,by rw [hnode],Mod.refl w,rfl,fun h=>by rw [hnode] at h; cases h⟩,fun h=>(by cases h)⟩
 | s v =>
   simp only [ItC] at hi
   obtain ⟨rfl,⟨ov,cv,rfl,hv,_⟩,rfl⟩:=hi
   refine ⟨false,by rw [add_at]; exact e1,fun h=>(by cases h),fun _=>⟨_,rfl,⟨by omega,by omega⟩,_,_,_,by rw [add_at,add_at]; exact e2,?_⟩⟩
   simp only at hnode
   rintro d7 w1 ⟨rfl,rfl⟩
   have hZ:setsAt #[.nilIface,.nilIface,.nilIface,.nilIface,.nilIface,.nilIface,.nilIface,.nilIface,.nilIface,.nilIface,.nilIface,.nilIface,.nilIface,.nilIface,.nilIface,.nilIface,(.slice none 0 0)] 16 [(.slice ov v.length cv)]=brA (fun _=>.nilIface) ov v.length cv:=rfl
   rw [hZ]
   have M1:Vcg.Mod NoB w _:=Mod.alloc w (.cells (brA (fun _=>.nilIface) ov v.length cv) 247)
   have B1:=Blk.new w 247 (brA (fun _=>.nilIface) ov v.length cv)
   have hs1:=size_alloc w (.cells (brA (fun _=>.nilIface) ov v.length cv) 247)
   generalize hN:w.heap.size=N at *
   generalize w.alloc (.cells (brA (fun _=>.nilIface) ov v.length cv) 247)=w1 at *
   generalize hbase:(if v=[] then 0 else 1)=base at *
   refine ⟨fun n w'=>w'=w1∧n=(base:Int),⟨_,_,_,by rw [add_at,Nat.zero_add]; exact B1.rd1 (brA_val _ _ _ _),fun h=>⟨rfl,?_⟩,fun h=>⟨rfl,?_⟩⟩,?_⟩
   ·rw [← hbase,if_neg (by rintro rfl; simp at h)]; rfl
   ·rw [← hbase,if_pos (List.eq_nil_of_length_eq_zero (by omega))]; rfl
   rintro _ _ w1 ⟨rfl,rfl⟩
   have hb1:base≤1:=by rw [← hbase]; split <;> omega
   refine ⟨by omega,fun n i w'=>∃(j:Nat) (vs:Fin 16→Value),i=(j:Int)∧j≤16∧n=((base+((xs.take j).filter (fun x=> !isE x)).length:Nat):Int)∧(xs.take j).all (fun x=>isE x || refN f x)=true∧Vcg.Mod NoB w w'∧w1.heap.size≤w'.heap.size∧Blk w' N 247 (brA vs ov v.length cv)∧(∀q:Fin 16,q.val < j→RV w1.heap.size f w' (xs.getD q.val (.s [])) (vs q))∧(∀q:Fin 16,j≤q.val→vs q=.nilIface),fun _ i _=>((16:Int) - i).toNat,⟨0,fun _=>.nilIface,rfl,Nat.zero_le _,by simp,by simp,M1,Nat.le_refl _,B1,fun q h=>absurd h (by omega),fun _ _=>rfl⟩,?_⟩
   rintro _ _ _ w2 ⟨j,vs,rfl,hj,rfl,hall,M2,hs2,B2,hdone,hrest⟩
   have ew:IntKind.wrap .i64 ((j:Int)+1)=((j+1:Nat):Int):=by rw [wrap_i64_small (by omega) (by omega)]; omega
   have hcl:((xs.take j).filter (fun x=> !isE x)).length≤16:=Nat.le_trans (List.length_filter_le _ _) (by rw [List.length_take]; omega)
   refine ⟨fun hlt=>?_,fun hge=>?_⟩
   ·have hjl:j < xs.length:=by omega
    have hj16:j < 16:=by omega
    obtain ⟨g',f',u1,u2,u3,ho,hg',d1,d2,d3,hij⟩:=(ItsC.mod M2 _ hx).get j hjl
    cases ho
    rw [Nat.zero_add] at d1 d2 d3
    obtain ⟨b,p1,q1,r1,p2,q2,r2,rfl,rfl,rfl⟩:=hij.vals
    refine ⟨_,rfl,⟨by omega,by omega⟩,_,_,_,_,_,_,_,by rw [add_at,Int.toNat_natCast]; exact d1,by rw [add_at,add_at,Int.toNat_natCast]; exact d2,by rw [add_at,add_at,Int.toNat_natCast]; exact d3,?_⟩
    rintro d27 w3 ⟨rfl,rfl⟩
    have H:=Blk.new w2 111 #[.bool false,.slice none 0 0,.slice none 0 0]
    have M23:Vcg.Mod NoB w2 _:=Mod.alloc w2 (.cells #[.bool false,.slice none 0 0,.slice none 0 0] 111)
    refine set3 H rfl rfl rfl (fun w4 H4 Q4=>?_)
    have M24:Vcg.Mod NoB w2 w4:=mod_of M23 Q4 (Nat.le_refl _)
    have M4:=M2.none_trans M24
    have B4:=B2.mod' M24
    have hij4:=ItC.mod M24 _ hij
    have hs4:=M24.size
    have hdone4:∀q:Fin 16,q.val < j→RV w1.heap.size f w4 (xs.getD q.val (.s [])) (vs q):=fun q hq=>RV.mod' M24 (Nat.le_refl _) (hdone q hq)
    generalize w2.heap.size=HH at *
    clear M23 Q4 H M24 B2 hij hdone
    have htk:xs.take (j+1)=xs.take j++[xs[j]]:=List.take_succ_eq_append_getElem hjl
    refine ⟨fun w'=>w'=w4∧isE xs[j]=false,⟨_,H4.rd1 rfl,fun hb=>⟨_,_,_,by rw [add_at]; exact H4.rd1 rfl,fun hz=>?_,fun hz=>⟨rfl,?_⟩⟩,fun hb=>⟨rfl,?_⟩⟩,?_⟩
    ·-- nothing there
     have he:xs[j]=.s []:=by
      cases hq:xs[j] with
      | l ys=>rw [hq] at hij4; simp only [ItC] at hij4; cases hij4.1; cases hb
      | s bs =>
        rw [hq] at hij4
        simp only [ItC] at hij4
        obtain ⟨_,⟨oo,cc,h2,_⟩,_⟩:=hij4
        cases h2
        rw [List.eq_nil_of_length_eq_zero (by omega:bs.length=0)]
     rw [ew]
     refine ⟨⟨j+1,vs,rfl,hj16,?_,?_,M4,by omega,B4,fun q hq=>?_,fun q hq=>hrest q (by omega)⟩,by dsimp only; omega⟩
     ·rw [htk,List.filter_append,he]; simp [isE]
     ·rw [htk,List.all_append,hall,he]; simp [isE]
     ·by_cases hqj:q.val < j
      ·exact hdone4 q hqj
      ·have hqe:q.val=j:=by omega
       rw [hqe,getD_at hjl,he,hrest q (by omega)]
       simp only [RV]
       exact .inl ⟨trivial,trivial⟩
    ·cases hq:xs[j] with
     | l ys=>rfl
     | s bs =>
       rw [hq] at hij4
       simp only [ItC] at hij4
       obtain ⟨_,⟨oo,cc,h2,_⟩,_⟩:=hij4
       cases h2
       cases bs with
       | nil=>simp at hz
       | cons a r=>rfl
    ·cases hq:xs[j] with
     | l ys=>rfl
     | s bs =>
       rw [hq] at hij4
       simp only [ItC] at hij4
       cases hij4.1; cases hb
    ·rintro _ w4 ⟨rfl,hne⟩
     refine get3 H4 ?_
     refine (hRf xs[j] (hd _ (List.getElem_mem hjl)) (hf _ (List.getElem_mem hjl)) hij4).mono ?_
     rintro _ w5 ⟨u,rfl,M5,hu,hru⟩
     have M05:=M4.none_trans M5
     have B5:=B4.mod' M5
     have hs5:=M5.size
     refine ⟨_,_,rfl,fun hb=>?_,fun hb=>⟨⟨by omega,by omega⟩,?_⟩⟩
     ·have hfalse:nodeN (f+1) xs=false:=by
       rw [hnode]
       have:(xs.take 16).all (fun x=>isE x || refN f x)=false:=by
        rw [List.all_eq_false]
        refine ⟨xs[j],?_,by rw [hne,hb]; decide⟩
        rw [List.mem_take_iff_getElem]
        exact ⟨j,by omega,rfl⟩
       rw [this,Bool.false_and]
      exact hR _ _ ⟨.nilIface,by rw [hfalse],M05,rfl,fun h=>by rw [hfalse] at h; cases h⟩
     ·rw [add_at,Nat.zero_add,Int.toNat_natCast]
      refine ⟨B5.canSet (by rw [brA_size]; omega) hu,?_⟩
      rintro _ rfl
      have Q6:Vcg.Mod (·=N) w5 _:=Mod.setCell w5 ⟨N,j,none⟩ u
      have B6:=B5.set j u
      rw [brA_set _ _ _ _ _ hj16] at B6
      have M06:Vcg.Mod NoB w _:=mod_of M05 Q6 (by omega)
      have en:IntKind.wrap .i64 (((base+((xs.take j).filter (fun x=> !isE x)).length:Nat):Int)+1)=((base+((xs.take (j+1)).filter (fun x=> !isE x)).length:Nat):Int):=by
       rw [wrap_i64_small (by omega) (by omega),htk,List.filter_append,List.length_append]
       simp only [List.filter_cons,hne,Bool.not_false,if_true,List.filter_nil,List.length_singleton]
       omega
      rw [ew,en]
      refine ⟨⟨j+1,updV vs j u,rfl,hj16,rfl,?_,M06,by rw [size_setCell]; omega,B6,fun q hq=>?_,fun q hq=>?_⟩,by dsimp only; omega⟩
      ·rw [htk,List.all_append,hall]
       simp only [List.all_cons,List.all_nil,hb,Bool.or_true,Bool.and_self,Bool.and_true]
      ·unfold updV
       by_cases hqj:q.val=j
       ·rw [if_pos hqj,hqj,getD_at hjl]
        exact RV.modS Q6 (fun b h=>by omega) (by omega) (hru hb)
       ·rw [if_neg hqj]
        exact RV.modS Q6 (fun b h=>by omega) (Nat.le_refl _) (RV.mod' M5 (Nat.le_refl _) (hdone4 q (by omega)))
      ·unfold updV
       rw [if_neg (by omega)]
       exact hrest q (by omega)
   ·obtain rfl:j=16:=by omega
    have hdec:decide (((base+((xs.take 16).filter (fun x=> !isE x)).length:Nat):Int) > 1)=nodeN (f+1) xs:=by
     rw [hnode,hall,Bool.true_and,Bool.eq_iff_iff,decide_eq_true_eq,decide_eq_true_eq]
     omega
    rw [hdec]
    refine hR _ _ ⟨.iface 244 (.pointer (some ⟨N,0,none⟩)),rfl,M2,rfl,fun _=>?_⟩
    simp only [RV]
    exact .inr (.inr ⟨h17,N,vs,ov,v.length,cv,by omega,rfl,B2,fun q=>RV.mod' (Mod.refl _) (by omega) (hdone q q.isLt)⟩)
theorem noded_all:∀f,NodedAt f
 | 0,x,_,_,_,_,_,hd,_,_=>absurd (dep_pos x) (by omega)
 | f+1,x,A,w,v1,v2,v3,hd,hf,hx=>by
   have hRf:=refer_of (noded_all f)
   obtain ⟨b,o1,l1,c1,o2,l2,c2,rfl,rfl,rfl⟩:=hx.vals
   refine calls_gen fun R hR=>trie_noded.vc _ _ _ _ _ _ _ _ _ ?_
   unfold trie_noded.Vc
   rintro d3 w1 ⟨rfl,rfl⟩
   have M1:Vcg.Mod NoB w _:=Mod.alloc w (.cells #[.bool b,.slice o1 l1 c1,.slice o2 l2 c2] 111)
   have X1:=Blk.new w 111 #[.bool b,.slice o1 l1 c1,.slice o2 l2 c2]
   generalize w.alloc (.cells #[.bool b,.slice o1 l1 c1,.slice o2 l2 c2] 111)=w1 at *
   have hx1:=ItC.mod M1 _ hx
   cases x with
   | s bs =>
     simp only [ItC] at hx1
     obtain ⟨h1,_,_⟩:=hx1
     cases h1
     exact ⟨_,X1.rd1 rfl,fun _=>hR _ _ ⟨.nilIface,rfl,M1,rfl,fun h=>by cases h⟩,fun h=>(by cases h)⟩
   | l xs =>
     simp only [ItC] at hx1
     obtain ⟨h1,h2,o,c,h3,h4,hc⟩:=hx1
     cases h1; cases h2; cases h3
     have hds:∀x∈xs,dep x≤f:=fun x hx=>by
      have:=dep_mem hx
      simp only [dep] at hd
      omega
     refine ⟨_,X1.rd1 rfl,fun h=>(by cases h),fun _=>⟨_,_,_,by rw [add_at]; exact X1.rd1 rfl,fun h2=>?_,fun h2=>⟨_,_,_,by rw [add_at]; exact X1.rd1 rfl,fun h17=>⟨_,_,_,by rw [add_at]; exact X1.rd1 rfl,?_⟩,fun h17=>?_⟩⟩⟩
     ·obtain ⟨x,y,rfl⟩:∃x y,xs=[x,y]:=by
       cases xs with
       | nil=>simp at h2
       | cons x r =>
         cases r with
         | nil=>simp at h2
         | cons y r =>
           cases r with
           | nil=>exact ⟨x,y,rfl⟩
           | cons z r=>simp at h2; omega
      rintro _ rfl
      have M2:Vcg.Mod NoB w1 w1.drew:=Mod.drew w1
      have X2:=X1.mod' M2
      have h4':=ItsC.mod M2 _ h4
      have M02:=M1.none_trans M2
      generalize w1.drew=w2 at *
      obtain ⟨g,f0,u1,u2,u3,rfl,hg,e1,e2,e3,hi⟩:=h4'.get 0 (by simp)
      obtain ⟨g',f0',t1,t2,t3,ho,hg',d1,d2,d3,hi'⟩:=h4'.get 1 (by simp)
      cases ho
      have hix:ItC A w2 x u1 u2 u3:=hi
      have hiy:ItC A w2 y t1 t2 t3:=hi'
      obtain ⟨_,_,_,_,_,_,_,rfl,rfl,rfl⟩:=hix.vals
      obtain ⟨_,_,_,_,_,_,_,rfl,rfl,rfl⟩:=hiy.vals
      refine ⟨_,_,_,by rw [add_at]; exact X2.rd1 rfl,_,rfl,⟨by decide,by simp⟩,_,_,_,_,_,_,_,by rw [add_at]; exact e1,by rw [add_at,add_at]; exact e2,by rw [add_at,add_at]; exact e3,_,_,_,by rw [add_at]; exact X2.rd1 rfl,_,rfl,⟨by decide,by simp⟩,_,_,_,_,_,_,_,by rw [add_at]; exact d1,by rw [add_at,add_at]; exact d2,by rw [add_at,add_at]; exact d3,?_⟩
      refine (short_calls hRf (hds y (by simp)) (hf.mem (by simp)) (hf.mem (by simp)) hix hiy).mono ?_
      rintro _ w3 ⟨v,rfl,M3,hv,hrv⟩
      exact ⟨_,_,rfl,hR _ _ ⟨v,rfl,M02.none_trans M3,hv,fun h=>RV.mod' (Mod.refl _) M02.size (hrv h)⟩⟩
     ·have h17':xs.length=17:=by omega
      refine (branched_calls hRf h17' hds (fun x hx=>hf.mem hx) h4 hc).mono ?_
      rintro _ w3 ⟨v,rfl,M3,hv,hrv⟩
      exact ⟨_,_,rfl,hR _ _ ⟨v,rfl,M1.none_trans M3,hv,fun h=>RV.mod' (Mod.refl _) M1.size (hrv h)⟩⟩
     ·have hno:isN (f+1) (.l xs)=false:=nodeN_no (by omega) (by omega)
      exact hR _ _ ⟨.nilIface,by rw [hno],M1,rfl,fun h=>by rw [hno] at h; cases h⟩
end Go.Proofs.YtfghidehlnfdiaaGreat
end
section
namespace Go.Proofs.YtfghidehlnfdiaaGreat
open Go Go.Vcg
abbrev moraineref14_is.n:Nat:=93
def moraineref14_is.Vc (b0:Bool) (o1:Option Addr) (l1 c1:Nat) (o2:Option Addr) (l2 c2:Nat) (w:World) (R:Ending→World→Prop):Prop :=
 ∀d3 w4,IsNew w 111 #[(.bool b0),(.slice o1 l1 c1),(.slice o2 l2 c2)] d3 w4 →
 ∃b5,World.cell? w4 d3=some (.bool b5) ∧
 (((b5=false →
 R (.returned (.bool false)) w4)) ∧
 ((b5=true →
 ∃o6 l7 l8,World.cell? w4 (Addr.add d3 2)=some (.slice o6 l7 l8) ∧
 (((((l7:Nat):Int)=2 →
 ∃o9 l10 l11,World.cell? w4 (Addr.add d3 2)=some (.slice o9 l10 l11) ∧
 ∃d12,o9=some d12 ∧
 ((0:Int)≤0∧0 < ((l10:Nat):Int)) ∧
 ∃b13,World.cell? w4 (Addr.add d12 0)=some (.bool b13) ∧
 (((b13=true →
 R (.returned (.bool false)) w4)) ∧
 ((b13=false →
 ∃o14 l15 l16,World.cell? w4 (Addr.add d3 2)=some (.slice o14 l15 l16) ∧
 ∃d17,o14=some d17 ∧
 ((0:Int)≤0∧0 < ((l15:Nat):Int)) ∧
 ∃o18 l19 l20,World.cell? w4 (Addr.add (Addr.add d17 0) 1)=some (.slice o18 l19 l20) ∧
 Calls Tryz.prog 95 #[(.slice o18 l19 l20)] w4 (fun e21 w22 =>
 ∃o23 l24 l25 b26 n27,e21=.returned (.tuple #[(.slice o23 l24 l25),(.bool b26),(.int .i64 n27)]) ∧
 (((n27≠0 →
 R (.returned (.bool false)) w22)) ∧
 ((n27=0 →
 (((b26=true →
 ∃o28 l29 l30,World.cell? w22 (Addr.add d3 2)=some (.slice o28 l29 l30) ∧
 ∃d31,o28=some d31 ∧
 ((0:Int)≤1∧1 < ((l29:Nat):Int)) ∧
 ∃b32,World.cell? w22 (Addr.add d31 3)=some (.bool b32) ∧
 (((b32=false →
 ∃o33 l34 l35,World.cell? w22 (Addr.add d3 2)=some (.slice o33 l34 l35) ∧
 ∃d36,o33=some d36 ∧
 ((0:Int)≤1∧1 < ((l34:Nat):Int)) ∧
 ∃o37 l38 l39,World.cell? w22 (Addr.add (Addr.add d36 3) 1)=some (.slice o37 l38 l39) ∧
 R (.returned (.bool (decide (((l38:Nat):Int) > 0)))) w22)) ∧
 ((b32=true →
 R (.returned (.bool false)) w22))))) ∧
 ((b26=false →
 ∃o40 l41 l42,World.cell? w22 (Addr.add d3 2)=some (.slice o40 l41 l42) ∧
 ∃d43,o40=some d43 ∧
 ((0:Int)≤1∧1 < ((l41:Nat):Int)) ∧
 ∃b44 o45 l46 l47 o48 l49 l50,World.cell? w22 (Addr.add d43 3)=some (.bool b44) ∧
 World.cell? w22 (Addr.add (Addr.add d43 3) 1)=some (.slice o45 l46 l47) ∧
 World.cell? w22 (Addr.add (Addr.add d43 3) 2)=some (.slice o48 l49 l50) ∧
 Calls Tryz.prog 116 #[(.agg #[(.bool b44),(.slice o45 l46 l47),(.slice o48 l49 l50)])] w22 (fun e51 w52 =>
 ∃b53 b54,e51=.returned (.tuple #[(.bool b53),(.bool b54)]) ∧
 (((((l24:Nat):Int) > 0 →
 (((b53=true →
 R (.returned (.bool b54)) w52)) ∧
 ((b53=false →
 R (.returned (.bool false)) w52))))) ∧
 ((¬((l24:Nat):Int) > 0 →
 R (.returned (.bool false)) w52)))))))))))))))) ∧
 ((((l7:Nat):Int)≠2 →
 (((((l7:Nat):Int)=17 →
 ∃(I55:Int→Int→World→Prop) (μ55:Int→Int→World→Nat),I55 0 0 w4 ∧
 (∀(n56:Int) (n57:Int) (j58:Nat→Value) (w58:World),I55 n56 n57 w58 →
 (((n57 < 16 →
 ∃o59 l60 l61,World.cell? w58 (Addr.add d3 2)=some (.slice o59 l60 l61) ∧
 ∃d62,o59=some d62 ∧
 ((0:Int)≤n57∧n57 < ((l60:Nat):Int)) ∧
 ∃b63 o64 l65 l66 o67 l68 l69,World.cell? w58 (Addr.add d62 ((Int.toNat n57) * 3))=some (.bool b63) ∧
 World.cell? w58 (Addr.add (Addr.add d62 ((Int.toNat n57) * 3)) 1)=some (.slice o64 l65 l66) ∧
 World.cell? w58 (Addr.add (Addr.add d62 ((Int.toNat n57) * 3)) 2)=some (.slice o67 l68 l69) ∧
 Calls Tryz.prog 116 #[(.agg #[(.bool b63),(.slice o64 l65 l66),(.slice o67 l68 l69)])] w58 (fun e70 w71 =>
 ∃b72 b73,e70=.returned (.tuple #[(.bool b72),(.bool b73)]) ∧
 (((b72=false →
 R (.returned (.bool false)) w71)) ∧
 ((b72=true →
 (((b73=true →
 I55 (IntKind.wrap .i64 (n56+1)) (IntKind.wrap .i64 (n57+1)) w71∧μ55 (IntKind.wrap .i64 (n56+1)) (IntKind.wrap .i64 (n57+1)) w71 < μ55 n56 n57 w58)) ∧
 ((b73=false →
 I55 n56 (IntKind.wrap .i64 (n57+1)) w71∧μ55 n56 (IntKind.wrap .i64 (n57+1)) w71 < μ55 n56 n57 w58))))))))) ∧
 ((¬n57 < 16 →
 ∃o74 l75 l76,World.cell? w58 (Addr.add d3 2)=some (.slice o74 l75 l76) ∧
 ∃d77,o74=some d77 ∧
 ((0:Int)≤16∧16 < ((l75:Nat):Int)) ∧
 ∃b78,World.cell? w58 (Addr.add d77 48)=some (.bool b78) ∧
 (((b78=true →
 R (.returned (.bool false)) w58)) ∧
 ((b78=false →
 ∃o79 l80 l81,World.cell? w58 (Addr.add d3 2)=some (.slice o79 l80 l81) ∧
 ∃d82,o79=some d82 ∧
 ((0:Int)≤16∧16 < ((l80:Nat):Int)) ∧
 ∃o83 l84 l85,World.cell? w58 (Addr.add (Addr.add d82 48) 1)=some (.slice o83 l84 l85) ∧
 (((((l84:Nat):Int) > 0 →
 R (.returned (.bool (decide ((IntKind.wrap .i64 (n56+1))≥2)))) w58)) ∧
 ((¬((l84:Nat):Int) > 0 →
 R (.returned (.bool (decide (n56≥2)))) w58)))))))))))) ∧
 ((((l7:Nat):Int)≠17 →
 R (.returned (.bool false)) w4)))))))))
theorem moraineref14_is.vc (b0:Bool) (o1:Option Addr) (l1:Nat) (c1:Nat) (o2:Option Addr) (l2:Nat) (c2:Nat) (w:World) (R:Ending→World→Prop) (h:moraineref14_is.Vc b0 o1 l1 c1 o2 l2 c2 w R):Calls Tryz.prog 93 #[(.agg #[(.bool b0),(.slice o1 l1 c1),(.slice o2 l2 c2)])] w R :=
 execF_sound (R:=⟨R,false⟩) (ann:=[(17,[(8,.cell (.int .i64)),(9,.cell (.int .i64))])]) (args:=[.agg [.bool (.var b0),.slice o1 l1 c1,.slice o2 l2 c2]]) Tryz.func93 mixed (Eq.mp (by kernel_rfl:moraineref14_is.Vc b0 o1 l1 c1 o2 l2 c2 w R=execF (pA Tryz.prog ⟨R,false⟩) Tryz.prog [(17,[(8,.cell (.int .i64)),(9,.cell (.int .i64))])] Tryz.f93 [.agg [.bool (.var b0),.slice o1 l1 c1,.slice o2 l2 c2]] w) h)

abbrev moraineref14_ref.n:Nat:=116
def moraineref14_ref.Vc (b0:Bool) (o1:Option Addr) (l1 c1:Nat) (o2:Option Addr) (l2 c2:Nat) (w:World) (R:Ending→World→Prop):Prop :=
 ∀d3 w4,IsNew w 111 #[(.bool b0),(.slice o1 l1 c1),(.slice o2 l2 c2)] d3 w4 →
 ∃b5,World.cell? w4 d3=some (.bool b5) ∧
 (((b5=false →
 ∀w6,IsDrew w4 w6 →
 ∃o7 l8 l9,World.cell? w6 (Addr.add d3 1)=some (.slice o7 l8 l9) ∧
 (((((l8:Nat):Int)=32 →
 ∃o10 l11 l12,World.cell? w6 (Addr.add d3 1)=some (.slice o10 l11 l12) ∧
 R (.returned (.tuple #[(.bool true),(.bool (decide (((l11:Nat):Int) > 0)))])) w6)) ∧
 ((((l8:Nat):Int)≠32 →
 ∃o13 l14 l15,World.cell? w6 (Addr.add d3 1)=some (.slice o13 l14 l15) ∧
 ∃o16 l17 l18,World.cell? w6 (Addr.add d3 1)=some (.slice o16 l17 l18) ∧
 R (.returned (.tuple #[(.bool (decide (((l14:Nat):Int)=0))),(.bool (decide (((l17:Nat):Int) > 0)))])) w6))))) ∧
 ((b5=true →
 ∃b19 o20 l21 l22 o23 l24 l25,World.cell? w4 d3=some (.bool b19) ∧
 World.cell? w4 (Addr.add d3 1)=some (.slice o20 l21 l22) ∧
 World.cell? w4 (Addr.add d3 2)=some (.slice o23 l24 l25) ∧
 Calls Tryz.prog 79 #[(.agg #[(.bool b19),(.slice o20 l21 l22),(.slice o23 l24 l25)])] w4 (fun e26 w27 =>
 ∃o28 l29 l30,e26=.returned (.slice o28 l29 l30) ∧
 (((((l29:Nat):Int) < 32 →
 ∃b31 o32 l33 l34 o35 l36 l37,World.cell? w27 d3=some (.bool b31) ∧
 World.cell? w27 (Addr.add d3 1)=some (.slice o32 l33 l34) ∧
 World.cell? w27 (Addr.add d3 2)=some (.slice o35 l36 l37) ∧
 Calls Tryz.prog 93 #[(.agg #[(.bool b31),(.slice o32 l33 l34),(.slice o35 l36 l37)])] w27 (fun e38 w39 =>
 ∃b40,e38=.returned (.bool b40) ∧
 R (.returned (.tuple #[(.bool b40),(.bool true)])) w39))) ∧
 ((¬((l29:Nat):Int) < 32 →
 R (.returned (.tuple #[(.bool false),(.bool true)])) w27)))))))
theorem moraineref14_ref.vc (b0:Bool) (o1:Option Addr) (l1:Nat) (c1:Nat) (o2:Option Addr) (l2:Nat) (c2:Nat) (w:World) (R:Ending→World→Prop) (h:moraineref14_ref.Vc b0 o1 l1 c1 o2 l2 c2 w R):Calls Tryz.prog 116 #[(.agg #[(.bool b0),(.slice o1 l1 c1),(.slice o2 l2 c2)])] w R :=
 execF_sound (R:=⟨R,false⟩) (ann:=[]) (args:=[.agg [.bool (.var b0),.slice o1 l1 c1,.slice o2 l2 c2]]) Tryz.func116 mixed (Eq.mp (by kernel_rfl:moraineref14_ref.Vc b0 o1 l1 c1 o2 l2 c2 w R=execF (pA Tryz.prog ⟨R,false⟩) Tryz.prog [] Tryz.f116 [.agg [.bool (.var b0),.slice o1 l1 c1,.slice o2 l2 c2]] w) h)

abbrev moraineref14_Check.n:Nat:=59
def moraineref14_Check.Vc (o0:Option Addr) (l0 c0:Nat) (w:World) (R:Ending→World→Prop):Prop :=
 Calls Tryz.prog 60 #[(.slice o0 l0 c0)] w (fun e1 w2 =>
 ∃b3 o4 l5 l6 o7 l8 l9 n10,e1=.returned (.tuple #[(.agg #[(.bool b3),(.slice o4 l5 l6),(.slice o7 l8 l9)]),(.int .i64 n10)]) ∧
 ∀d11 w12,IsNew w2 111 #[(.bool false),(.slice none 0 0),(.slice none 0 0)] d11 w12 →
 CanSet w12 d11 (.bool b3)∧∀w13,IsSet w12 d11 (.bool b3) w13 →
 CanSet w13 (Addr.add d11 1) (.slice o4 l5 l6)∧∀w14,IsSet w13 (Addr.add d11 1) (.slice o4 l5 l6) w14 →
 CanSet w14 (Addr.add d11 2) (.slice o7 l8 l9)∧∀w15,IsSet w14 (Addr.add d11 2) (.slice o7 l8 l9) w15 →
 (((n10≠0 →
 R (.returned (.int .i64 n10)) w15)) ∧
 ((n10=0 →
 ∃b16 o17 l18 l19 o20 l21 l22,World.cell? w15 d11=some (.bool b16) ∧
 World.cell? w15 (Addr.add d11 1)=some (.slice o17 l18 l19) ∧
 World.cell? w15 (Addr.add d11 2)=some (.slice o20 l21 l22) ∧
 Calls Tryz.prog 93 #[(.agg #[(.bool b16),(.slice o17 l18 l19),(.slice o20 l21 l22)])] w15 (fun e23 w24 =>
 ∃b25,e23=.returned (.bool b25) ∧
 (((b25=false →
 R (.returned (.int .i64 143)) w24)) ∧
 ((b25=true →
 R (.returned (.int .i64 0)) w24))))))))
theorem moraineref14_Check.vc (o0:Option Addr) (l0:Nat) (c0:Nat) (w:World) (R:Ending→World→Prop) (h:moraineref14_Check.Vc o0 l0 c0 w R):Calls Tryz.prog 59 #[(.slice o0 l0 c0)] w R :=
 execF_sound (R:=⟨R,false⟩) (ann:=[]) (args:=[.slice o0 l0 c0]) Tryz.func59 mixed (Eq.mp (by kernel_rfl:moraineref14_Check.Vc o0 l0 c0 w R=execF (pA Tryz.prog ⟨R,false⟩) Tryz.prog [] Tryz.f59 [.slice o0 l0 c0] w) h)

end Go.Proofs.YtfghidehlnfdiaaGreat
end
section
namespace Go.Proofs.YtfghidehlnfdiaaGreat
open Go Go.Vcg Go.Trie
theorem ref_notE {f:Nat} {x:It} (h:refN f x=true):isE x=false:=by
 cases x with
 | l ys=>rfl
 | s bs =>
   cases bs with
   | nil=>simp [refN] at h
   | cons a r=>rfl
def IsAt (f:Nat):Prop:=∀(x:It) {A:Nat→Prop} {w:World} {v1 v2 v3:Value},dep x≤f→Fine x→ItC A w x v1 v2 v3 →
 Calls Tryz.prog moraineref14_is.n #[.agg #[v1,v2,v3]] w (fun e w'=>e=.returned (.bool (isN f x))∧Vcg.Mod NoB w w')
def RefIsAt (f:Nat):Prop:=∀(x:It) {A:Nat→Prop} {w:World} {v1 v2 v3:Value},dep x≤f→Fine x→ItC A w x v1 v2 v3 →
 Calls Tryz.prog moraineref14_ref.n #[.agg #[v1,v2,v3]] w (fun e w'=>e=.returned (.tuple #[.bool (isE x || refN f x),.bool (!isE x)])∧Vcg.Mod NoB w w')
theorem refis_of {f:Nat} (hN:IsAt f):RefIsAt f:=by
 intro x A w v1 v2 v3 hdp hf hx
 obtain ⟨b,o1,l1,c1,o2,l2,c2,rfl,rfl,rfl⟩:=hx.vals
 refine moraineref14_ref.vc _ _ _ _ _ _ _ _ _ ?_
 unfold moraineref14_ref.Vc
 rintro d3 w1 ⟨rfl,rfl⟩
 have M1:Vcg.Mod NoB w _:=Mod.alloc w (.cells #[.bool b,.slice o1 l1 c1,.slice o2 l2 c2] 111)
 have X1:=Blk.new w 111 #[.bool b,.slice o1 l1 c1,.slice o2 l2 c2]
 generalize w.alloc (.cells #[.bool b,.slice o1 l1 c1,.slice o2 l2 c2] 111)=w1 at *
 have hx1:=ItC.mod M1 _ hx
 cases x with
 | s bs =>
   simp only [ItC] at hx1
   obtain ⟨h1,⟨o,c,h2,h3,h4⟩,h5⟩:=hx1
   cases h1; cases h2; cases h5
   refine ⟨_,X1.rd1 rfl,fun _=>?_,fun h=>(by cases h)⟩
   rintro _ rfl
   have X2:=X1.drew
   have M2:=M1.step_drew
   refine ⟨_,_,_,by rw [add_at]; exact X2.rd1 rfl,fun h32=>⟨_,_,_,by rw [add_at]; exact X2.rd1 rfl,?_,M2⟩,fun h32=>⟨_,_,_,by rw [add_at]; exact X2.rd1 rfl,_,_,_,by rw [add_at]; exact X2.rd1 rfl,?_,M2⟩⟩
   ·have e1:refN f (.s bs)=true:=by simp only [refN]; exact decide_eq_true (by omega)
    rw [e1,ref_notE e1,decide_eq_true (by omega)]; rfl
   ·have e1:refN f (.s bs)=false:=by simp only [refN]; exact decide_eq_false (by omega)
    rw [e1]
    cases bs with
    | nil=>rfl
    | cons a r=>rw [decide_eq_false (by simp only [List.length_cons]; omega),decide_eq_true (by simp only [List.length_cons]; omega)]; rfl
 | l xs =>
   have hx1':=hx1
   simp only [ItC] at hx1
   obtain ⟨h1,h2,o,c,h3,h4,hcap⟩:=hx1
   cases h1; cases h2; cases h3
   refine ⟨_,X1.rd1 rfl,fun h=>(by cases h),fun _=>get3 X1 ?_⟩
   refine (Of_calls' f (.l xs) hdp hx1' (Mod.refl w1) hf.2.2).mono ?_
   rintro _ w2 ⟨o',k',rfl,F⟩
   have M02:=M1.none_trans F.mod
   have X2:=X1.mod' F.mod
   refine ⟨_,_,_,rfl,fun hlt=>get3 X2 ?_,fun hge=>⟨?_,M02⟩⟩
   ·refine (hN (.l xs) hdp hf (ItC.mod F.mod _ hx1')).mono ?_
    rintro _ w3 ⟨rfl,M3⟩
    have e:refN f (.l xs)=isN f (.l xs):=by
     simp only [refN,isN]; rw [decide_eq_true (by omega)]; rfl
    exact ⟨_,rfl,by rw [e]; rfl,M02.none_trans M3⟩
   ·have e:refN f (.l xs)=false:=by simp only [refN]; rw [decide_eq_false (by omega)]; rfl
    rw [e]; rfl
theorem is_all:∀f,IsAt f
 | 0,x,_,_,_,_,_,hd,_,_=>absurd (dep_pos x) (by omega)
 | f+1,x,A,w,v1,v2,v3,hd,hf,hx=>by
   have hRf:=refis_of (is_all f)
   obtain ⟨b,o1,l1,c1,o2,l2,c2,rfl,rfl,rfl⟩:=hx.vals
   refine moraineref14_is.vc _ _ _ _ _ _ _ _ _ ?_
   unfold moraineref14_is.Vc
   rintro d3 w1 ⟨rfl,rfl⟩
   have M1:Vcg.Mod NoB w _:=Mod.alloc w (.cells #[.bool b,.slice o1 l1 c1,.slice o2 l2 c2] 111)
   have X1:=Blk.new w 111 #[.bool b,.slice o1 l1 c1,.slice o2 l2 c2]
   generalize w.alloc (.cells #[.bool b,.slice o1 l1 c1,.slice o2 l2 c2] 111)=w1 at *
   have hx1:=ItC.mod M1 _ hx
   cases x with
   | s bs =>
     simp only [ItC] at hx1
     obtain ⟨h1,_,_⟩:=hx1
     cases h1
     exact ⟨_,X1.rd1 rfl,fun _=>⟨rfl,M1⟩,fun h=>(by cases h)⟩
   | l xs =>
     simp only [ItC] at hx1
     obtain ⟨h1,h2,o,c,h3,h4,hc⟩:=hx1
     cases h1; cases h2; cases h3
     have hds:∀x∈xs,dep x≤f:=fun x hx=>by
      have:=dep_mem hx
      simp only [dep] at hd
      omega
     refine ⟨_,X1.rd1 rfl,fun h=>(by cases h),fun _=>⟨_,_,_,by rw [add_at]; exact X1.rd1 rfl,fun h2=>?_,fun h2=>⟨fun h17=>?_,fun h17=>?_⟩⟩⟩
     ·obtain ⟨x,y,rfl⟩:∃x y,xs=[x,y]:=by
       cases xs with
       | nil=>simp at h2
       | cons x r =>
         cases r with
         | nil=>simp at h2
         | cons y r =>
           cases r with
           | nil=>exact ⟨x,y,rfl⟩
           | cons z r=>simp at h2; omega
      have hnode0:nodeN (f+1) [x,y]=(match headIs x with
       | none=>false
       | some (_,true)=>valIs y
       | some (p,false)=>decide (p≠[]) && refN f y):=nodeN_two rfl
      have hnode:isN (f+1) (.l [x,y])=(match headIs x with
       | none=>false
       | some (_,true)=>valIs y
       | some (p,false)=>decide (p≠[]) && refN f y):=hnode0
      obtain ⟨g,f0,u1,u2,u3,rfl,hg,e1,e2,e3,hi⟩:=h4.get 0 (by simp)
      have hix:ItC A w1 x u1 u2 u3:=hi
      refine ⟨_,_,_,by rw [add_at]; exact X1.rd1 rfl,_,rfl,⟨by decide,by simp⟩,?_⟩
      cases x with
      | l ys =>
        simp only [ItC] at hix
        obtain ⟨rfl,_⟩:=hix
        exact ⟨true,by rw [add_at]; exact e1,fun _=>⟨by rw [hnode]; rfl,M1⟩,fun h=>(by cases h)⟩
      | s bs =>
        have hfx:=hf.mem (x:=.s bs) (by simp)
        simp only [ItC] at hix
        obtain ⟨rfl,⟨ox,cx,rfl,hrx,_⟩,rfl⟩:=hix
        have hbl:bs.length≤2 ^ 20:=by
         have:bs.length≤(enc (.s bs)).length:=by
          simp only [enc]
          split
          ·exact Nat.le_refl _
          ·rw [List.length_append]; omega
         have:=hfx.2.2
         omega
        simp only [headIs] at hnode
        refine ⟨false,by rw [add_at]; exact e1,fun h=>(by cases h),fun _=>⟨_,_,_,by rw [add_at]; exact X1.rd1 rfl,_,rfl,⟨by decide,by simp⟩,_,_,_,by rw [add_at,add_at]; exact e2,?_⟩⟩
        refine (rUnpack_calls hrx hbl).mono ?_
        rintro _ w2 ⟨o',k',rfl,M2,R2,_⟩
        have M02:=M1.none_trans M2
        have X2:=X1.mod' M2
        obtain ⟨g',f0',t1,t2,t3,ho,hg',d1,d2,d3,hi'⟩:=(ItsC.mod M2 _ h4).get 1 (by simp)
        cases ho
        have hiy:ItC A w2 y t1 t2 t3:=hi'
        cases hu:unpack bs with
        | none =>
          have e:upk bs=([],false,143):=by unfold upk; rw [hu]
          rw [hu] at hnode
          rw [e]
          exact ⟨_,_,_,_,_,rfl,fun _=>⟨by rw [hnode],M02⟩,fun h=>absurd h (by decide)⟩
        | some r =>
          obtain ⟨p,lf⟩:=r
          have e:upk bs=(p,lf,0):=by unfold upk; rw [hu]
          rw [hu] at hnode
          rw [e]
          refine ⟨_,_,_,_,_,rfl,fun h=>(h rfl).elim,fun _=>⟨fun hlf=>?_,fun hlf=>?_⟩⟩
          ·subst hlf
           simp only at hnode
           refine ⟨_,_,_,by rw [add_at]; exact X2.rd1 rfl,_,rfl,⟨by decide,by simp⟩,?_⟩
           cases y with
           | s vs =>
             simp only [ItC] at hiy
             obtain ⟨rfl,⟨oy,cy,rfl,_⟩,rfl⟩:=hiy
             refine ⟨false,by rw [add_at]; exact d1,fun _=>⟨_,_,_,by rw [add_at]; exact X2.rd1 rfl,_,rfl,⟨by decide,by simp⟩,_,_,_,by rw [add_at,add_at]; exact d2,?_,M02⟩,fun h=>(by cases h)⟩
             rw [hnode]
             cases vs with
             | nil=>rfl
             | cons a r=>rw [decide_eq_true (by simp only [List.length_cons]; omega)]; rfl
           | l ys =>
             simp only [ItC] at hiy
             obtain ⟨rfl,_⟩:=hiy
             exact ⟨true,by rw [add_at]; exact d1,fun h=>(by cases h),fun _=>⟨by rw [hnode]; rfl,M02⟩⟩
          ·subst hlf
           simp only at hnode
           obtain ⟨_,_,_,_,_,_,_,rfl,rfl,rfl⟩:=hiy.vals
           refine ⟨_,_,_,by rw [add_at]; exact X2.rd1 rfl,_,rfl,⟨by decide,by simp⟩,_,_,_,_,_,_,_,by rw [add_at]; exact d1,by rw [add_at,add_at]; exact d2,by rw [add_at,add_at]; exact d3,?_⟩
           refine (hRf y (hds y (by simp)) (hf.mem (by simp)) hiy).mono ?_
           rintro _ w3 ⟨rfl,M3⟩
           have M03:=M02.none_trans M3
           refine ⟨_,_,rfl,fun hp=>⟨fun hb=>⟨?_,M03⟩,fun hb=>⟨?_,M03⟩⟩,fun hp=>⟨?_,M03⟩⟩
           ·have hpn:p≠[]:=by rintro rfl; simp at hp
            rw [hnode,decide_eq_true hpn,Bool.true_and]
            cases hr:refN f y with
            | true=>rw [ref_notE hr]; rfl
            | false=>rw [hr,Bool.or_false] at hb; rw [hb]; rfl
           ·rw [Bool.or_eq_false_iff] at hb
            rw [hnode,hb.2,Bool.and_false]
           ·have hpn:p=[]:=List.eq_nil_of_length_eq_zero (by dsimp only at hp; omega)
            rw [hnode,hpn]; rfl
     ·have h17':xs.length=17:=by omega
      have hnode:isN (f+1) (.l xs)=_:=nodeN_many (f:=f) h17'
      rw [getD_at (by omega)] at hnode
      refine ⟨fun n i w'=>∃j:Nat,i=(j:Int)∧j≤16∧n=((((xs.take j).filter (fun x=> !isE x)).length:Nat):Int)∧(xs.take j).all (fun x=>isE x || refN f x)=true∧Vcg.Mod NoB w1 w',fun _ i _=>((16:Int) - i).toNat,⟨0,rfl,Nat.zero_le _,by simp,by simp,Mod.refl w1⟩,?_⟩
      rintro _ _ _ w2 ⟨j,rfl,hj,rfl,hall,M2⟩
      have X2:=X1.mod' M2
      have hcl:((xs.take j).filter (fun x=> !isE x)).length≤16:=Nat.le_trans (List.length_filter_le _ _) (by rw [List.length_take]; omega)
      refine ⟨fun hlt=>?_,fun hge=>?_⟩
      ·have hjl:j < xs.length:=by omega
       obtain ⟨g',f',u1,u2,u3,ho,hg',d1,d2,d3,hij⟩:=(ItsC.mod M2 _ h4).get j hjl
       rw [Nat.zero_add] at d1 d2 d3
       obtain ⟨_,_,_,_,_,_,_,rfl,rfl,rfl⟩:=hij.vals
       refine ⟨_,_,_,by rw [add_at]; exact X2.rd1 rfl,_,ho,⟨by omega,by omega⟩,_,_,_,_,_,_,_,by rw [add_at,Int.toNat_natCast]; exact d1,by rw [add_at,add_at,Int.toNat_natCast]; exact d2,by rw [add_at,add_at,Int.toNat_natCast]; exact d3,?_⟩
       refine (hRf xs[j] (hds _ (List.getElem_mem hjl)) (hf.mem (List.getElem_mem hjl)) hij).mono ?_
       rintro _ w3 ⟨rfl,M3⟩
       have htk:xs.take (j+1)=xs.take j++[xs[j]]:=List.take_succ_eq_append_getElem hjl
       have ew:IntKind.wrap .i64 ((j:Int)+1)=((j+1:Nat):Int):=by rw [wrap_i64_small (by omega) (by omega)]; omega
       have en:IntKind.wrap .i64 (((((xs.take j).filter (fun x=> !isE x)).length:Nat):Int)+1)=((((xs.take j).filter (fun x=> !isE x)).length+1:Nat):Int):=by rw [wrap_i64_small (by omega) (by omega)]; omega
       rw [ew,en]
       refine ⟨_,_,rfl,fun hb=>⟨?_,M1.none_trans (M2.none_trans M3)⟩,fun hb=>⟨fun hn=>?_,fun hn=>?_⟩⟩
       ·have:(xs.take 16).all (fun x=>isE x || refN f x)=false:=by
         rw [List.all_eq_false]
         refine ⟨xs[j],?_,by rw [hb]; decide⟩
         rw [List.mem_take_iff_getElem]
         exact ⟨j,by omega,rfl⟩
        rw [hnode]
        cases xs[16] with
        | l ys=>rfl
        | s v=>simp only; rw [this,Bool.false_and]
       ·refine ⟨⟨j+1,rfl,by omega,?_,?_,M2.none_trans M3⟩,by dsimp only; omega⟩
        ·rw [htk,List.filter_append,List.length_append]
         simp [hn]
        ·rw [htk,List.all_append,hall]; simp only [List.all_cons,List.all_nil,hb,Bool.and_self]
       ·refine ⟨⟨j+1,rfl,by omega,?_,?_,M2.none_trans M3⟩,by dsimp only; omega⟩
        ·rw [htk,List.filter_append,List.length_append]
         simp [hn]
        ·rw [htk,List.all_append,hall]; simp only [List.all_cons,List.all_nil,hb,Bool.and_self]
      ·obtain rfl:j=16:=by omega
       have M02:=M1.none_trans M2
       obtain ⟨g',f',u1,u2,u3,ho,hg',d1,d2,d3,hij⟩:=(ItsC.mod M2 _ h4).get 16 (by omega)
       rw [hall] at hnode
       refine ⟨_,_,_,by rw [add_at]; exact X2.rd1 rfl,_,ho,⟨by omega,by omega⟩,?_⟩
       generalize hx16:xs[16]=x16 at *
       cases x16 with
       | l ys =>
         simp only [ItC] at hij
         obtain ⟨rfl,_⟩:=hij
         exact ⟨true,by rw [add_at]; exact d1,fun _=>⟨by rw [hnode],M02⟩,fun h=>(by cases h)⟩
       | s v =>
         simp only [ItC] at hij
         obtain ⟨rfl,⟨ov,cv,rfl,hv,_⟩,rfl⟩:=hij
         simp only [Bool.true_and] at hnode
         have en:IntKind.wrap .i64 (((((xs.take 16).filter (fun x=> !isE x)).length:Nat):Int)+1)=((((xs.take 16).filter (fun x=> !isE x)).length+1:Nat):Int):=by rw [wrap_i64_small (by omega) (by omega)]; omega
         rw [en]
         refine ⟨false,by rw [add_at]; exact d1,fun h=>(by cases h),fun _=>⟨_,_,_,by rw [add_at]; exact X2.rd1 rfl,_,ho,⟨by omega,by omega⟩,_,_,_,by rw [add_at,add_at]; exact d2,fun hp=>⟨?_,M02⟩,fun hp=>⟨?_,M02⟩⟩⟩
         ·have hvn:v≠[]:=by rintro rfl; simp at hp
          rw [hnode,if_neg hvn]
          congr 2
          rw [Bool.eq_iff_iff,decide_eq_true_eq,decide_eq_true_eq]; omega
         ·have hvn:v=[]:=List.eq_nil_of_length_eq_zero (by omega)
          rw [hnode,if_pos hvn]
          congr 2
          rw [Bool.eq_iff_iff,decide_eq_true_eq,decide_eq_true_eq]; omega
     ·have hno:isN (f+1) (.l xs)=false:=nodeN_no (by omega) (by omega)
      exact ⟨by rw [hno],M1⟩
end Go.Proofs.YtfghidehlnfdiaaGreat
end
section
namespace Go.Proofs.YtfghidehlnfdiaaGreat
open Go Go.Vcg Go.Trie
def checkOf (b:By):Int:=match dcod b with
 | .error x=>x
 | .ok x=>if isN 17 x=true then 0 else 143
theorem fine_of {b:By} {x:It} (h:dcod b=.ok x):Fine x:=by
 obtain ⟨h1,h2,h3,h4⟩:=dcod_ok h
 exact ⟨h3,h4,by omega⟩
theorem decoded_calls {w:World} {o:Option Addr} {k:Nat} {bs:By} (hr:RdB w o bs) (hk:bs.length≤k) :
 Calls Tryz.prog trie_decoded.n #[.slice o bs.length k] w (fun e w'=>Vcg.Mod NoB w w'∧∃v,e=.returned (.tuple #[v,.int .i64 (checkOf bs)])∧(checkOf bs=0→∃x,dcod bs=.ok x∧isN 17 x=true∧RV 0 17 w' x v)):=by
 refine calls_gen fun R hR=>trie_decoded.vc _ _ _ _ _ ?_
 unfold trie_decoded.Vc
 refine (Decode_calls hr hk).mono ?_
 rintro e w1 ⟨M1,hd⟩
 unfold DecodeIs at hd
 cases hdc:dcod bs with
 | error x =>
   rw [hdc] at hd
   obtain ⟨hx,b,p1,q1,r1,p2,q2,r2,rfl⟩:=hd
   refine ⟨_,_,_,_,_,_,_,_,rfl,?_⟩
   rintro d2 w2 ⟨rfl,rfl⟩
   have H:=Blk.new w1 111 #[.bool false,.slice none 0 0,.slice none 0 0]
   refine set3 H rfl rfl rfl (fun w3 H3 Q3=>?_)
   have M3:Vcg.Mod NoB w w3:=M1.none_trans (mod_of (Mod.alloc w1 _) Q3 (Nat.le_refl _))
   have hck:checkOf bs=x:=by unfold checkOf; rw [hdc]
   refine ⟨fun _=>hR _ _ ⟨M3,_,by rw [hck],fun h=>(hx (by rw [← hck]; exact h)).elim⟩,fun h=>(hx h).elim⟩
 | ok x =>
   rw [hdc] at hd
   obtain ⟨v1,v2,v3,rfl,hx⟩:=hd
   obtain ⟨b,p1,q1,r1,p2,q2,r2,rfl,rfl,rfl⟩:=hx.vals
   have hf:=fine_of hdc
   refine ⟨_,_,_,_,_,_,_,_,rfl,?_⟩
   rintro d2 w2 ⟨rfl,rfl⟩
   have H:=Blk.new w1 111 #[.bool false,.slice none 0 0,.slice none 0 0]
   refine set3 H rfl rfl rfl (fun w3 H3 Q3=>?_)
   have M13:Vcg.Mod NoB w1 w3:=mod_of (Mod.alloc w1 _) Q3 (Nat.le_refl _)
   refine ⟨fun h=>(h rfl).elim,fun _=>get3 H3 ?_⟩
   refine (noded_all 17 x (by have:=hf.1; omega) hf (ItC.mod M13 _ hx)).mono ?_
   rintro _ w4 ⟨v,rfl,M4,hv,hrv⟩
   have M04:=(M1.none_trans M13).none_trans M4
   refine ⟨_,_,rfl,fun hb=>hR _ _ ⟨M04,.nilIface,?_,fun h=>?_⟩,fun hb=>hR _ _ ⟨M04,v,?_,fun _=>⟨x,hdc,hb,RV.mod' (Mod.refl _) (Nat.zero_le _) (hrv hb)⟩⟩⟩
   ·unfold checkOf; rw [hdc]; simp only [hb]; rfl
   ·unfold checkOf at h; rw [hdc] at h; simp only [hb] at h; exact absurd h (by decide)
   ·unfold checkOf; rw [hdc]; simp only [hb]; rfl
theorem Check_calls {w:World} {o:Option Addr} {k:Nat} {bs:By} (hr:RdB w o bs) (hk:bs.length≤k) :
 Calls Tryz.prog trie_Check.n #[.slice o bs.length k] w (fun e w'=>e=.returned (.int .i64 (checkOf bs))∧Vcg.Mod NoB w w'):=by
 refine trie_Check.vc _ _ _ _ _ ?_
 unfold trie_Check.Vc
 refine (decoded_calls hr hk).mono ?_
 rintro _ w1 ⟨M1,v,rfl,_⟩
 exact ⟨_,_,rfl,rfl,M1⟩
theorem rCheck_calls {w:World} {o:Option Addr} {k:Nat} {bs:By} (hr:RdB w o bs) (hk:bs.length≤k) :
 Calls Tryz.prog moraineref14_Check.n #[.slice o bs.length k] w (fun e w'=>e=.returned (.int .i64 (checkOf bs))∧Vcg.Mod NoB w w'):=by
 refine moraineref14_Check.vc _ _ _ _ _ ?_
 unfold moraineref14_Check.Vc
 refine (rDecode_calls hr hk).mono ?_
 rintro e w1 ⟨M1,hd⟩
 unfold DecodeIs at hd
 cases hdc:dcod bs with
 | error x =>
   rw [hdc] at hd
   obtain ⟨hx,b,p1,q1,r1,p2,q2,r2,rfl⟩:=hd
   refine ⟨_,_,_,_,_,_,_,_,rfl,?_⟩
   rintro d2 w2 ⟨rfl,rfl⟩
   have H:=Blk.new w1 111 #[.bool false,.slice none 0 0,.slice none 0 0]
   refine set3 H rfl rfl rfl (fun w3 H3 Q3=>?_)
   have M3:Vcg.Mod NoB w w3:=M1.none_trans (mod_of (Mod.alloc w1 _) Q3 (Nat.le_refl _))
   have hck:checkOf bs=x:=by unfold checkOf; rw [hdc]
   exact ⟨fun _=>⟨by rw [hck],M3⟩,fun h=>(hx h).elim⟩
 | ok x =>
   rw [hdc] at hd
   obtain ⟨v1,v2,v3,rfl,hx⟩:=hd
   obtain ⟨b,p1,q1,r1,p2,q2,r2,rfl,rfl,rfl⟩:=hx.vals
   have hf:=fine_of hdc
   refine ⟨_,_,_,_,_,_,_,_,rfl,?_⟩
   rintro d2 w2 ⟨rfl,rfl⟩
   have H:=Blk.new w1 111 #[.bool false,.slice none 0 0,.slice none 0 0]
   refine set3 H rfl rfl rfl (fun w3 H3 Q3=>?_)
   have M13:Vcg.Mod NoB w1 w3:=mod_of (Mod.alloc w1 _) Q3 (Nat.le_refl _)
   refine ⟨fun h=>(h rfl).elim,fun _=>get3 H3 ?_⟩
   refine (is_all 17 x (by have:=hf.1; omega) hf (ItC.mod M13 _ hx)).mono ?_
   rintro _ w4 ⟨rfl,M4⟩
   have M04:=(M1.none_trans M13).none_trans M4
   refine ⟨_,rfl,fun hb=>⟨?_,M04⟩,fun hb=>⟨?_,M04⟩⟩
   ·unfold checkOf; rw [hdc]; simp only [hb]; rfl
   ·unfold checkOf; rw [hdc]; simp only [hb]; rfl
end Go.Proofs.YtfghidehlnfdiaaGreat
end
section
namespace Go.Proofs.YtfghidehlnfdiaaGreat
open Go Go.Vcg Go.Trie
def kidsN:Nat→It→List By
 | _,.s b=>if b.length=32 then [b] else []
 | 0,.l _=>[]
 | f+1,.l xs=>if xs.length=2 then (match headIs (xs.getD 0 (.s [])) with
    | some (_,true)=>[]
    | _=>kidsN f (xs.getD 1 (.s []))) else (xs.take 16).flatMap (kidsN f)
theorem flat_len {g:It→List By} (hg:∀y,(g y).length≤count y):∀(xs:List It),(xs.flatMap g).length≤counts xs
 | []=>by simp [counts]
 | x :: r=>by
   have h1:=hg x
   have h2:=flat_len hg r
   simp only [List.flatMap_cons,List.length_append,counts]; omega
theorem kids_len:∀(f:Nat) (x:It),(kidsN f x).length≤count x
 | _,.s b=>by
   simp only [kidsN,count]
   split <;> simp
 | 0,.l _=>by simp [kidsN]
 | f+1,.l xs=>by
   simp only [kidsN,count]
   split
   ·rename_i h2
    split
    ·simp
    ·have h1:=kids_len f (xs.getD 1 (.s []))
     have hc:count (xs.getD 1 (.s []))≤counts xs:=by
      obtain ⟨x,y,rfl⟩:∃x y,xs=[x,y]:=by
       cases xs with
       | nil=>simp at h2
       | cons x r =>
         cases r with
         | nil=>simp at h2
         | cons y r =>
           cases r with
           | nil=>exact ⟨x,y,rfl⟩
           | cons z r=>simp at h2
      show count y≤count x+(count y+0)
      omega
     omega
   ·have h1:=flat_len (kids_len f) (xs.take 16)
    have h2:=counts_take_le xs 16
    omega
def hsC (hs:List By):List Value:=(hs.map fun h=>(hashA h).toList).flatten
theorem hashL_len (h:By):(hashA h).toList.length=32:=by rw [Array.length_toList,size_hashA]
end Go.Proofs.YtfghidehlnfdiaaGreat
end
section
namespace Go.Proofs.YtfghidehlnfdiaaGreat
open Go Go.Vcg Go.Trie
theorem hd_err {b:By} {e:Int} (h:Trie.hd b=.error e):e≠0:=by
 unfold Trie.hd at h
 simp only at h
 split at h
 ·cases h
 ·generalize (if (b.getD 0 0).toNat≥192 then 192 else 128)=base at *
  split at h
  ·cases h
  ·split at h
   ·cases h; decide
   ·split at h
    ·cases h; decide
    ·cases h
theorem err_0:∀(f:Nat),(∀d n b,2 * b.length+1≤f→dcd f d n b≠.error 0)∧(∀d n b,2 * b.length+2≤f→dcds f d n b≠.error 0)
 | 0=>⟨fun d n b h=>absurd h (by omega),fun d n b h=>absurd h (by omega)⟩
 | f+1=>by
   have ih:=err_0 f
   refine ⟨fun d n b hf he=>?_,fun d n b hf he=>?_⟩
   ·by_cases hb:b=[]
    ·subst hb; rw [dcd_nil] at he; cases he
    ·by_cases hd:d > 16∨n=4096
     ·rw [dcd_deep hb hd] at he; cases he
     ·rw [dcd_go hb hd] at he
      cases hh:Trie.hd b with
      | error e =>
        rw [hh] at he
        simp only at he
        cases he
        exact hd_err hh rfl
      | ok r =>
        obtain ⟨lst,a,k,ow⟩:=r
        rw [hh] at he
        simp only at he
        obtain ⟨g1,g2⟩:=hd_at hh hb
        split at he
        ·cases he
        ·rename_i hk
         split at he
         ·split at he
          ·cases he
          ·cases he
         ·rename_i hl
          have how:ow=false:=by
           cases ow with
           | false=>rfl
           | true=>exact absurd (g1 rfl).1 hl
          obtain ⟨ha,hal,_⟩:=g2 how
          have hlen:((b.drop a).take k).length≤b.length - a:=by rw [List.length_take,List.length_drop]; omega
          cases hs:dcds f (d+1) (n+1) ((b.drop a).take k) with
          | error e =>
            rw [hs] at he
            simp only at he
            cases he
            exact ih.2 _ _ _ (by omega) hs
          | ok r=>rw [hs] at he; cases he
   ·by_cases hb:b=[]
    ·subst hb; rw [dcds_nil] at he; cases he
    ·rw [dcds_go hb] at he
     cases hx:dcd f d n b with
     | error e =>
       rw [hx] at he
       simp only at he
       cases he
       exact ih.1 _ _ _ (by omega) hx
     | ok r =>
       obtain ⟨x,k,m⟩:=r
       rw [hx] at he
       simp only at he
       obtain ⟨a1,a2,_⟩:=(dec_ok _ _ _ _).1 _ _ _ hx
       cases hs:dcds f d m (b.drop k) with
       | error e =>
         rw [hs] at he
         simp only at he
         cases he
         exact ih.2 _ _ _ (by rw [List.length_drop]; omega) hs
       | ok r=>rw [hs] at he; cases he
theorem dec_err0 {b:By} {x:Int} (h:dcod b=.error x):x≠0:=by
 unfold dcod at h
 split at h
 ·cases h; decide
 ·cases hd:dcd (2 * b.length+1) 1 0 b with
  | error e =>
    rw [hd] at h
    simp only at h
    cases h
    rintro rfl
    exact (err_0 _).1 _ _ _ (Nat.le_refl _) hd
  | ok r =>
    obtain ⟨y,k,m⟩:=r
    rw [hd] at h
    simp only at h
    split at h
    ·cases h; decide
    ·cases h
def itB:It→By
 | .s b=>b
 | .l _=>[]
def Good (x:It):Prop:=x=.s []∨(∃b,x=.s b∧b.length=32)∨∃xs g,x=.l xs∧nodeN g xs=true∧Fine (.l xs)
theorem Good.nil:Good (.s []):=.inl rfl
theorem Good.hash {b:By} (h:b.length=32):Good (.s b):=.inr (.inl ⟨b,rfl,h⟩)
theorem Good.node {xs:List It} (h:Good (.l xs)):∃g,nodeN (g+1) xs=true∧Fine (.l xs):=by
 rcases h with h | ⟨b,h,_⟩ | ⟨ys,g,h,h1,h2⟩
 ·cases h
 ·cases h
 ·cases h
  cases g with
  | zero=>simp [nodeN] at h1
  | succ g=>exact ⟨g,h1,h2⟩
theorem Good.str {b:By} (h:Good (.s b)):b=[]∨b.length=32:=by
 rcases h with h | ⟨b,h,h'⟩ | ⟨ys,g,h,h1,h2⟩
 ·cases h; exact .inl rfl
 ·cases h; exact .inr h'
 ·cases h
theorem good_ref {g:Nat} {x:It} (h:refN g x=true) (hf:Fine x):Good x∧isE x=false:=by
 refine ⟨?_,ref_notE h⟩
 cases x with
 | s b=>simp only [refN,decide_eq_true_eq] at h; exact .hash h
 | l xs =>
   simp only [refN,Bool.and_eq_true] at h
   exact .inr (.inr ⟨xs,g,rfl,h.2,hf⟩)
theorem Good.two {xs:List It} (h:Good (.l xs)) (h2:xs.length=2):∃p lf,headIs (xs.getD 0 (.s []))=some (p,lf)∧(lf=true→∃v,xs.getD 1 (.s [])=.s v∧v≠[])∧(lf=false→p≠[]∧Good (xs.getD 1 (.s []))∧isE (xs.getD 1 (.s []))=false):=by
 obtain ⟨g,hn,hf⟩:=h.node
 rw [nodeN_two h2] at hn
 have hm:xs.getD 1 (.s [])∈xs:=by rw [getD_at (by omega)]; exact List.getElem_mem (by omega)
 split at hn
 ·cases hn
 ·rename_i p he
  refine ⟨p,true,he,fun _=>?_,fun h=>by cases h⟩
  generalize xs.getD 1 (.s [])=y at hn
  cases y with
  | l ys=>cases hn
  | s v =>
    cases v with
    | nil=>cases hn
    | cons a r=>exact ⟨_,rfl,by simp⟩
 ·rename_i p he
  simp only [Bool.and_eq_true,decide_eq_true_eq] at hn
  exact ⟨p,false,he,fun h=>(by cases h),fun _=>⟨hn.1,good_ref hn.2 (hf.mem hm)⟩⟩
theorem Good.many {xs:List It} (h:Good (.l xs)) (h2:xs.length≠2):xs.length=17∧(∃v,xs.getD 16 (.s [])=.s v)∧∀j,j < 16→Good (xs.getD j (.s [])):=by
 obtain ⟨g,hn,hf⟩:=h.node
 have h17:xs.length=17:=by
  by_cases h17:xs.length=17
  ·exact h17
  ·rw [nodeN_no h2 h17] at hn; cases hn
 rw [nodeN_many h17] at hn
 split at hn
 ·cases hn
 ·rename_i v he
  rw [Bool.and_eq_true,List.all_eq_true] at hn
  refine ⟨h17,⟨v,he⟩,fun j hj=>?_⟩
  rw [getD_at (by omega)]
  have hm:xs[j]∈xs:=List.getElem_mem (by omega)
  have:=hn.1 (xs[j]'(by omega)) (by rw [List.mem_take_iff_getElem]; exact ⟨j,by omega,rfl⟩)
  rw [Bool.or_eq_true] at this
  rcases this with h | h
  ·generalize xs[j]=y at h
   cases y with
   | l ys=>cases h
   | s b =>
     cases b with
     | nil=>exact .nil
     | cons a r=>cases h
  ·exact (good_ref h (hf.mem hm)).1
theorem good_of {b:By} {x:It} (h:dcod b=.ok x) (hn:isN 17 x=true):∃xs,x=.l xs∧Good x:=by
 cases x with
 | s b=>cases hn
 | l xs=>exact ⟨xs,rfl,.inr (.inr ⟨xs,17,rfl,hn,fine_of h⟩)⟩
theorem check_node {b:By} (h:checkOf b=0):∃xs,dcod b=.ok (.l xs)∧isN 17 (.l xs)=true∧Good (.l xs):=by
 unfold checkOf at h
 cases hd:dcod b with
 | error x =>
   rw [hd] at h
   simp only at h
   have:=dec_err0 hd
   exact (this h).elim
 | ok x =>
   rw [hd] at h
   simp only at h
   by_cases hn:isN 17 x=true
   ·obtain ⟨xs,rfl,hg⟩:=good_of hd hn
    exact ⟨xs,rfl,hn,hg⟩
   ·rw [if_neg hn] at h; exact absurd h (by decide)
section
variable {σ:Type} (step:σ→By→σ×Except Int By)
def nodeW (go:σ→It→By→σ×Except Int By) (s:σ) (xs:List It) (path:By):σ×Except Int By :=
 if xs.length=2 then (match headIs (xs.getD 0 (.s [])) with
  | some (p,true)=>(s,.ok (if p=path then itB (xs.getD 1 (.s [])) else []))
  | some (p,false)=>if p.isPrefixOf path then go s (xs.getD 1 (.s [])) (path.drop p.length) else (s,.ok [])
  | none=>(s,.ok []))
 else match path with
  | []=>(s,.ok (itB (xs.getD 16 (.s []))))
  | n :: r=>go s (xs.getD n.toNat (.s [])) r
def wayR:Nat→σ→It→By→σ×Except Int By
 | 0,s,_,_=>(s,.ok [])
 | f+1,s,.l xs,path=>nodeW (wayR f) s xs path
 | f+1,s,.s b,path=>if b=[] then (s,.ok []) else match step s b with
   | (s',.error e)=>(s',.error e)
   | (s',.ok c)=>if checkOf c≠0 then (s',.error 161) else match dcod c with
     | .ok (.l xs)=>nodeW (wayR f) s' xs path
     | _=>(s',.error 161)
def way (s:σ) (x:It) (path:By):σ×Except Int By:=wayR step (path.length+1) s x path
variable {step}
theorem nodeW_congr {go go':σ→It→By→σ×Except Int By} {s:σ} {xs:List It} {path:By} (hg:Good (.l xs)) (h:∀(s:σ) (y:It) (q:By),Good y→q.length < path.length→go s y q=go' s y q) (hn:∀n∈path,n.toNat < 16):nodeW go s xs path=nodeW go' s xs path:=by
 unfold nodeW
 by_cases h2:xs.length=2
 ·rw [if_pos h2,if_pos h2]
  obtain ⟨p,lf,he,h1,h3⟩:=hg.two h2
  rw [he]
  cases lf with
  | true=>rfl
  | false =>
    obtain ⟨hp,hgy,_⟩:=h3 rfl
    simp only
    by_cases hpre:p.isPrefixOf path=true
    ·rw [if_pos hpre,if_pos hpre]
     have hpl:0 < p.length:=List.length_pos_iff.2 hp
     have hle:p.length≤path.length:=(List.isPrefixOf_iff_prefix.1 hpre).length_le
     exact h s _ _ hgy (by rw [List.length_drop]; omega)
    ·rw [if_neg hpre,if_neg hpre]
 ·rw [if_neg h2,if_neg h2]
  obtain ⟨h17,_,hk⟩:=hg.many h2
  cases path with
  | nil=>rfl
  | cons n r=>exact h s _ _ (hk _ (hn n (by simp))) (by simp)
theorem wayR_fuel:∀(m f f':Nat) (s:σ) (x:It) (path:By),path.length≤m→path.length < f→path.length < f'→Good x→(∀n∈path,n.toNat < 16)→wayR step f s x path=wayR step f' s x path:=by
 intro m
 induction m with
 | zero =>
   intro f f' s x path hm hf hf' hg hn
   obtain ⟨f,rfl⟩:∃g,f=g+1:=⟨f - 1,by omega⟩
   obtain ⟨f',rfl⟩:∃g,f'=g+1:=⟨f' - 1,by omega⟩
   have key:∀(s:σ) (xs:List It),Good (.l xs)→nodeW (wayR step f) s xs path=nodeW (wayR step f') s xs path:=fun s xs hg=>nodeW_congr hg (fun s y q _ hq=>absurd hq (by omega)) hn
   cases x with
   | l xs=>exact key s xs hg
   | s b =>
     simp only [wayR]
     split
     ·rfl
     ·split
      ·rfl
      ·split
       ·rfl
       ·rename_i hc
        obtain ⟨xs,hd,_,hgx⟩:=check_node (Decidable.not_not.1 hc)
        rw [hd]; exact key _ xs hgx
 | succ m ih =>
   intro f f' s x path hm hf hf' hg hn
   obtain ⟨f,rfl⟩:∃g,f=g+1:=⟨f - 1,by omega⟩
   obtain ⟨f',rfl⟩:∃g,f'=g+1:=⟨f' - 1,by omega⟩
   have key:∀(s:σ) (xs:List It),Good (.l xs)→nodeW (wayR step f) s xs path=nodeW (wayR step f') s xs path:=by
    intro s xs hg
    have hsub:∀(q:By),q <:+ path→∀n∈q,n.toNat < 16:=fun q hq n hnq=>hn n (hq.subset hnq)
    unfold nodeW
    by_cases h2:xs.length=2
    ·rw [if_pos h2,if_pos h2]
     obtain ⟨p,lf,he,h1,h3⟩:=hg.two h2
     rw [he]
     cases lf with
     | true=>rfl
     | false =>
       obtain ⟨hp,hgy,_⟩:=h3 rfl
       simp only
       by_cases hpre:p.isPrefixOf path=true
       ·rw [if_pos hpre,if_pos hpre]
        have hpl:0 < p.length:=List.length_pos_iff.2 hp
        have hle:p.length≤path.length:=(List.isPrefixOf_iff_prefix.1 hpre).length_le
        have hl:(path.drop p.length).length=path.length - p.length:=List.length_drop
        exact ih f f' s _ _ (by omega) (by omega) (by omega) hgy (hsub _ (List.drop_suffix _ _))
       ·rw [if_neg hpre,if_neg hpre]
    ·rw [if_neg h2,if_neg h2]
     obtain ⟨h17,_,hk⟩:=hg.many h2
     cases path with
     | nil=>rfl
     | cons n r =>
       simp only [List.length_cons] at hm hf hf'
       exact ih f f' s _ _ (by omega) (by omega) (by omega) (hk _ (hn n (by simp))) (fun q hq=>hn q (by simp [hq]))
   cases x with
   | l xs=>exact key s xs hg
   | s b =>
     simp only [wayR]
     split
     ·rfl
     ·split
      ·rfl
      ·split
       ·rfl
       ·rename_i hc
        obtain ⟨xs,hd,_,hgx⟩:=check_node (Decidable.not_not.1 hc)
        rw [hd]; exact key _ xs hgx
theorem nodeW_way {f:Nat} {s:σ} {xs:List It} {path:By} (hg:Good (.l xs)) (hf:path.length≤f) (hn:∀n∈path,n.toNat < 16):nodeW (wayR step f) s xs path=nodeW (way step) s xs path:=by
 unfold nodeW
 by_cases h2:xs.length=2
 ·rw [if_pos h2,if_pos h2]
  obtain ⟨p,lf,he,h1,h3⟩:=hg.two h2
  rw [he]
  cases lf with
  | true=>rfl
  | false =>
    obtain ⟨hp,hgy,_⟩:=h3 rfl
    simp only
    by_cases hpre:p.isPrefixOf path=true
    ·rw [if_pos hpre,if_pos hpre]
     have hpl:0 < p.length:=List.length_pos_iff.2 hp
     have hle:p.length≤path.length:=(List.isPrefixOf_iff_prefix.1 hpre).length_le
     have hl:(path.drop p.length).length=path.length - p.length:=List.length_drop
     exact wayR_fuel _ _ _ s _ _ (Nat.le_refl _) (by omega) (by omega) hgy (fun n hnq=>hn n ((List.drop_suffix _ _).subset hnq))
    ·rw [if_neg hpre,if_neg hpre]
 ·rw [if_neg h2,if_neg h2]
  obtain ⟨h17,_,hk⟩:=hg.many h2
  cases path with
  | nil=>rfl
  | cons n r =>
    simp only [List.length_cons] at hf
    exact wayR_fuel _ _ _ s _ _ (Nat.le_refl _) (by omega) (by omega) (hk _ (hn n (by simp))) (fun q hq=>hn q (by simp [hq]))
theorem way_nil (s:σ) (path:By):way step s (.s []) path=(s,.ok []):=by simp only [way,wayR,if_true]
theorem way_list {s:σ} {xs:List It} {path:By} (hg:Good (.l xs)) (hn:∀n∈path,n.toNat < 16):way step s (.l xs) path=nodeW (way step) s xs path:=nodeW_way hg (Nat.le_refl _) hn
theorem way_bad {s s':σ} {b path:By} {e:Int} (hb:b≠[]) (h:step s b=(s',.error e)):way step s (.s b) path=(s',.error e):=by
 simp only [way,wayR]; rw [if_neg hb,h]
theorem way_form {s s':σ} {b c path:By} (hb:b≠[]) (h:step s b=(s',.ok c)) (hc:checkOf c≠0):way step s (.s b) path=(s',.error 161):=by
 simp only [way,wayR]; rw [if_neg hb,h]; simp only; rw [if_pos hc]
theorem way_hash {s s':σ} {b c path:By} {xs:List It} (hb:b≠[]) (h:step s b=(s',.ok c)) (hc:checkOf c=0) (hd:dcod c=.ok (.l xs)) (hg:Good (.l xs)) (hn:∀n∈path,n.toNat < 16):way step s (.s b) path=nodeW (way step) s' xs path:=by
 simp only [way,wayR]; rw [if_neg hb,h]; simp only; rw [if_neg (by simp [hc]),hd]
 exact nodeW_way hg (Nat.le_refl _) hn
theorem node_leaf {go:σ→It→By→σ×Except Int By} {s:σ} {xs:List It} {path p:By} (h2:xs.length=2) (he:headIs (xs.getD 0 (.s []))=some (p,true)):nodeW go s xs path=(s,.ok (if p=path then itB (xs.getD 1 (.s [])) else [])):=by
 unfold nodeW; rw [if_pos h2,he]
theorem node_row {go:σ→It→By→σ×Except Int By} {s:σ} {xs:List It} {path p:By} (h2:xs.length=2) (he:headIs (xs.getD 0 (.s []))=some (p,false)):nodeW go s xs path=if p.isPrefixOf path then go s (xs.getD 1 (.s [])) (path.drop p.length) else (s,.ok []):=by
 unfold nodeW; rw [if_pos h2,he]
theorem node_end {go:σ→It→By→σ×Except Int By} {s:σ} {xs:List It} (h2:xs.length≠2):nodeW go s xs []=(s,.ok (itB (xs.getD 16 (.s [])))):=by
 unfold nodeW; rw [if_neg h2]
theorem node_kid {go:σ→It→By→σ×Except Int By} {s:σ} {xs:List It} {n:UInt8} {r:By} (h2:xs.length≠2):nodeW go s xs (n :: r)=go s (xs.getD n.toNat (.s [])) r:=by
 unfold nodeW; rw [if_neg h2]
def downR:Nat→It→By→By×By×By
 | 0,_,_=>([],[],[])
 | _+1,.s b,path=>([],path,b)
 | f+1,.l xs,path =>
   if xs.length=2 then (match headIs (xs.getD 0 (.s [])) with
    | some (p,true)=>(if p=path then itB (xs.getD 1 (.s [])) else [],[],[])
    | some (p,false)=>if p.isPrefixOf path then downR f (xs.getD 1 (.s [])) (path.drop p.length) else ([],[],[])
    | none=>([],[],[]))
   else match path with
    | []=>(itB (xs.getD 16 (.s [])),[],[])
    | n :: r=>downR f (xs.getD n.toNat (.s [])) r
def afterD (s:σ) (t:By×By×By):σ×Except Int By:=match t.2.2 with
 | []=>(s,.ok t.1)
 | a :: r=>way step s (.s (a :: r)) t.2.1
theorem downR_leaf {f:Nat} {xs:List It} {path p:By} (h2:xs.length=2) (he:headIs (xs.getD 0 (.s []))=some (p,true)):downR (f+1) (.l xs) path=(if p=path then itB (xs.getD 1 (.s [])) else [],[],[]):=by
 simp only [downR]; rw [if_pos h2,he]
theorem downR_row {f:Nat} {xs:List It} {path p:By} (h2:xs.length=2) (he:headIs (xs.getD 0 (.s []))=some (p,false)):downR (f+1) (.l xs) path=if p.isPrefixOf path then downR f (xs.getD 1 (.s [])) (path.drop p.length) else ([],[],[]):=by
 simp only [downR]; rw [if_pos h2,he]
theorem downR_end {f:Nat} {xs:List It} (h2:xs.length≠2):downR (f+1) (.l xs) []=(itB (xs.getD 16 (.s [])),[],[]):=by
 simp only [downR]; rw [if_neg h2]
theorem downR_kid {f:Nat} {xs:List It} {n:UInt8} {r:By} (h2:xs.length≠2):downR (f+1) (.l xs) (n :: r)=downR f (xs.getD n.toNat (.s [])) r:=by
 simp only [downR]; rw [if_neg h2]
theorem down_way:∀(f:Nat) (s:σ) (x:It) (path:By),path.length < f→Good x→(∀n∈path,n.toNat < 16)→way step s x path=afterD (step:=step) s (downR f x path)
 | 0,_,_,_,h,_,_=>absurd h (by omega)
 | f+1,s,.s b,path,h,hg,hn=>by
   cases b with
   | nil=>rw [way_nil]; rfl
   | cons a r=>rfl
 | f+1,s,.l xs,path,h,hg,hn=>by
   rw [way_list hg hn]
   by_cases h2:xs.length=2
   ·obtain ⟨p,lf,he,h1,h3⟩:=hg.two h2
    cases lf with
    | true=>rw [node_leaf h2 he,downR_leaf h2 he]; rfl
    | false =>
      obtain ⟨hp,hgy,_⟩:=h3 rfl
      rw [node_row h2 he,downR_row h2 he]
      by_cases hpre:p.isPrefixOf path=true
      ·rw [if_pos hpre,if_pos hpre]
       have hpl:0 < p.length:=List.length_pos_iff.2 hp
       have hle:p.length≤path.length:=(List.isPrefixOf_iff_prefix.1 hpre).length_le
       have hl:(path.drop p.length).length=path.length - p.length:=List.length_drop
       exact down_way f s _ _ (by omega) hgy (fun n hnq=>hn n ((List.drop_suffix _ _).subset hnq))
      ·rw [if_neg hpre,if_neg hpre]; rfl
   ·obtain ⟨h17,_,hk⟩:=hg.many h2
    cases path with
    | nil=>rw [node_end h2,downR_end h2]; rfl
    | cons n r =>
      rw [node_kid h2,downR_kid h2]
      simp only [List.length_cons] at h
      exact down_way f s _ _ (by omega) (hk _ (hn n (by simp))) (fun q hq=>hn q (by simp [hq]))
theorem down_32:∀(f:Nat) (x:It) (path:By),Good x→(∀n∈path,n.toNat < 16)→(downR f x path).2.2=[]∨(downR f x path).2.2.length=32
 | 0,_,_,_,_=>.inl rfl
 | f+1,.s b,path,hg,hn=>by simp only [downR]; exact hg.str
 | f+1,.l xs,path,hg,hn=>by
   simp only [downR]
   by_cases h2:xs.length=2
   ·obtain ⟨p,lf,he,h1,h3⟩:=hg.two h2
    rw [if_pos h2,he]
    cases lf with
    | true=>exact .inl rfl
    | false =>
      obtain ⟨hp,hgy,_⟩:=h3 rfl
      simp only
      by_cases hpre:p.isPrefixOf path=true
      ·rw [if_pos hpre]
       exact down_32 f _ _ hgy (fun n hnq=>hn n ((List.drop_suffix _ _).subset hnq))
      ·rw [if_neg hpre]; exact .inl rfl
   ·obtain ⟨h17,_,hk⟩:=hg.many h2
    rw [if_neg h2]
    cases path with
    | nil=>exact .inl rfl
    | cons n r=>exact down_32 f _ _ (hk _ (hn n (by simp))) (fun q hq=>hn q (by simp [hq]))
theorem down_rest:∀(f:Nat) (xs:List It) (path:By),Good (.l xs)→(∀n∈path,n.toNat < 16)→(downR f (.l xs) path).2.2≠[]→(downR f (.l xs) path).2.1.length < path.length∧∀n∈(downR f (.l xs) path).2.1,n.toNat < 16:=by
 have key:∀(f:Nat) (x:It) (path:By),Good x→(∀n∈path,n.toNat < 16)→(downR f x path).2.2≠[]→(downR f x path).2.1.length≤path.length∧(∀n∈(downR f x path).2.1,n.toNat < 16)∧((∃xs,x=.l xs)→(downR f x path).2.1.length < path.length):=by
  intro f
  induction f with
  | zero=>intro x path _ _ h; exact (h rfl).elim
  | succ f ih =>
    intro x path hg hn h
    cases x with
    | s b=>exact ⟨Nat.le_refl _,hn,fun ⟨xs,h⟩=>by cases h⟩
    | l xs =>
      simp only [downR] at h ⊢
      by_cases h2:xs.length=2
      ·obtain ⟨p,lf,he,h1,h3⟩:=hg.two h2
       rw [if_pos h2,he] at h ⊢
       cases lf with
       | true=>exact (h rfl).elim
       | false =>
         obtain ⟨hp,hgy,_⟩:=h3 rfl
         simp only at h ⊢
         by_cases hpre:p.isPrefixOf path=true
         ·rw [if_pos hpre] at h ⊢
          have hpl:0 < p.length:=List.length_pos_iff.2 hp
          have hle:p.length≤path.length:=(List.isPrefixOf_iff_prefix.1 hpre).length_le
          have hl:(path.drop p.length).length=path.length - p.length:=List.length_drop
          obtain ⟨k1,k2,_⟩:=ih _ _ hgy (fun n hnq=>hn n ((List.drop_suffix _ _).subset hnq)) h
          exact ⟨by omega,k2,fun _=>by omega⟩
         ·rw [if_neg hpre] at h; exact (h rfl).elim
      ·obtain ⟨h17,_,hk⟩:=hg.many h2
       rw [if_neg h2] at h ⊢
       cases path with
       | nil=>exact (h rfl).elim
       | cons n r =>
         simp only [List.length_cons] at h ⊢
         obtain ⟨k1,k2,_⟩:=ih _ _ (hk _ (hn n (by simp))) (fun q hq=>hn q (by simp [hq])) h
         exact ⟨by omega,k2,fun _=>by omega⟩
 intro f xs path hg hn h
 obtain ⟨_,k2,k3⟩:=key f (.l xs) path hg hn h
 exact ⟨k3 ⟨xs,rfl⟩,k2⟩
end
theorem nib_lt (k:By):∀n∈nibbles k,n.toNat < 16:=by
 intro n hn
 unfold nibbles at hn
 obtain ⟨c,_,hc⟩:=List.mem_flatMap.1 hn
 simp only [List.mem_cons,List.not_mem_nil,or_false] at hc
 have h1:∀n:Fin 256,((UInt8.ofFin n) >>> 4).toNat < 16:=by decide +kernel
 have h2:∀n:Fin 256,((UInt8.ofFin n) &&& 15).toNat < 16:=by decide +kernel
 rcases hc with rfl | rfl
 ·exact h1 c.toFin
 ·exact h2 c.toFin
end Go.Proofs.YtfghidehlnfdiaaGreat
end
section
namespace Go.Vcg
structure DefS (C:Car) where
 f:FuncId
 args:List (SV C)
def LeavV (P:Program) (rt:World→Prop) (R:Ending→World→Prop):List (FuncId×Array Value)→FrameMode→World→Prop
 | [],.returning,w=>rt w
 | [],.panicking chain,w=>R (.panicked chain) w
 | [],.run,_=>False
 | (f,args) :: ds,u,w=>u≠.run∧CallsD P f args u w fun
     | .returned _,u',w'=>LeavV P rt R ds (settle u') w'
     | .panicked chain,u',w'=>LeavV P rt R ds (raised u' chain) w'
     | .outgrown,_,w'=>R .outgrown w'

section
variable {C:Car} (A:List (DefS C)→(C.W→C.R)→Alg C) (leav:List (DefS C)→(C.W→C.R)→C.W→C.R) (P:Program)
def pieces:Code→List Code
 | .seq a b=>pieces a++pieces b
 | c=>[c]
def deferOf:Code→Option (Array Oper×Oper×Call)
 | .region _ ops false=>match ops.back? with
   | some o=>match o.op with
     | .defer c=>if o.guard.isNone && o.dst.isNone then some (ops,o,c) else none
     | _=>none
   | none=>none
 | _=>none
def slotsOf (fn:Func):List Tmp:=fn.results.toList.map fun
 | .tmp t=>t
 | .cell a _=>a
def clearOf (fn:Func) (rest:List Code):Bool:=rest.all fun c=>(writesOf c).all fun t=> !(slotsOf fn).contains t
def endD (fn:Func) (ds:List (DefS C)) (rt:C.W→C.R) (env:Env C) (w:C.W):C.R:=match ds with
 | []=>retS (A [] rt) P fn env w
 | ds=>leav ds rt w
def execD (ann:List (Nat×List (Tmp×Shape1))) (fn:Func):List Code→List (DefS C)→(C.W→C.R)→Env C→C.W→C.R
 | [],ds,rt,env,w=>endD A leav P fn ds rt env w
 | c :: rest,ds,rt,env,w =>
   match deferOf c with
   | some (ops,o,call)=>regionS (A ds rt) P ops (ops.toList.take (ops.size - 1)) env w fun env w =>
     match call.callee with
     | .value f=>match ev (A ds rt) env f with
       | .func (.func g) first cap=>if enters P g && clearOf fn rest then
        execD ann fn rest (⟨g,first++call.args.toList.map (ev (A ds rt) env)++cap⟩ :: ds) (match ds with | []=>fun w=>retS (A ds rt) P fn env w | _=>rt) env w
         else (A ds rt).fail "defer"
       | _=>(A ds rt).fail "defer: what function?"
     | _=>(A ds rt).fail "defer"
   | none=>exec (A ds rt) P ann c env w { nrm:=fun env w=>execD ann fn rest ds rt env w,exit:=fun _ _ _=>(A ds rt).fail "exit",ret:=fun env w=>endD A leav P fn ds rt env w }
def execDF (ann:List (Nat×List (Tmp×Shape1))) (fn:Func) (args:List (SV C)) (fl:C.R) (w:C.W):C.R :=
 match fn.body with
 | none=>fl
 | some c=>if args.length≤fn.ntmps∧slotsOk fn.ntmps c=true then execD A leav P ann fn (pieces c) [] (fun _=>fl) (numbered 0 args) w else fl
end

def dsV (ds:List (DefS pC)):List (FuncId×Array Value):=ds.map fun d=>(d.f,(toVs d.args).toArray)
def finD (P:Program) (R:Ending→World→Prop) (ds:List (DefS pC)) (rt:World→Prop) (e:Ending) (w:World):Prop:=match ds with
 | []=>R e w
 | d :: ds=>match e with
   | .panicked ch=>LeavV P rt R (dsV (d :: ds)) (.panicking ch) w
   | e=>R e w
def aD (P:Program) (R:Ending→World→Prop) (ds:List (DefS pC)) (rt:World→Prop):Alg pC:=pA P ⟨finD P R ds rt,true⟩
def leavD (P:Program) (R:Ending→World→Prop) (ds:List (DefS pC)) (rt:World→Prop) (w:World):Prop:=LeavV P rt R (dsV ds) .returning w

section
variable {P:Program} {R:Ending→World→Prop}
def wpPieces (P:Program):List Code→(Exit→Act→World→Prop)→Act→World→Prop
 | [],Q,a,w=>Q .normal a w
 | c :: cs,Q,a,w=>c.wp P (Exit.then (wpPieces P cs Q) Q) a w
theorem wpPieces_mono {Q Q':Exit→Act→World→Prop} (hq:∀e a w,Q e a w→Q' e a w):∀(cs:List Code) (a:Act) (w:World),wpPieces P cs Q a w→wpPieces P cs Q' a w
 | [],a,w,h=>hq _ _ _ h
 | c :: cs,a,w,h=>Code.wp_mono (fun e a w q=>by cases e <;> first | exact wpPieces_mono hq cs _ _ q | exact hq _ _ _ q) h
theorem wpPieces_append:∀(xs ys:List Code) (Q:Exit→Act→World→Prop) (a:Act) (w:World),wpPieces P (xs++ys) Q a w→wpPieces P xs (Exit.then (wpPieces P ys Q) Q) a w
 | [],ys,Q,a,w,h=>h
 | x :: xs,ys,Q,a,w,h=>Code.wp_mono (fun e a w q=>by cases e <;> first | exact wpPieces_append xs ys Q a w q | exact q) h
theorem wp_pieces:∀(c:Code) (Q:Exit→Act→World→Prop) (a:Act) (w:World),wpPieces P (pieces c) Q a w→c.wp P Q a w:=by
 intro c
 induction c with
 | seq x y ihx ihy =>
   intro Q a w h
   unfold pieces at h
   refine wp_seq (ihx _ _ _ (wpPieces_mono (fun e a w q=>?_) _ _ _ (wpPieces_append _ _ _ _ _ h)))
   cases e <;> first | exact ihy _ _ _ q | exact q
 | _ =>
   intro Q a w h
   refine Code.wp_mono (fun e a w q=>?_) h
   cases e <;> exact q

theorem results_eq {fn:Func} {t t':Array Value} (h:∀s∈slotsOf fn,t.getD s undef=t'.getD s undef):results fn t=results fn t':=by
 unfold results
 have:∀(l:List ResultVar),(∀s∈(l.map fun | ResultVar.tmp t=>t | .cell a _=>a),t.getD s undef=t'.getD s undef) →
  (l.mapM fun r=>(match r with
    | .tmp s=>pure (t.getD s undef)
    | .cell a ty=>do loadVar ty (← asAddr (t.getD a undef)):Sem Value))=l.mapM fun r=>(match r with
    | .tmp s=>pure (t'.getD s undef)
    | .cell a ty=>do loadVar ty (← asAddr (t'.getD a undef)):Sem Value):=by
  intro l
  induction l with
  | nil=>intro _; rfl
  | cons r l ih =>
    intro h
    rw [List.mapM_cons,List.mapM_cons,ih (fun s hs=>h s (by simp [hs]))]
    cases r with
    | tmp s=>simp only [h s (by simp)]
    | cell a ty=>simp only [h a (by simp)]
 have h1:=this fn.results.toList h
 rw [Array.mapM_eq_mapM_toList,Array.mapM_eq_mapM_toList]
 erw [h1]
 rfl

theorem wp_part {o:Oper} {a:Act} {w:World} {K:Act→World→Prop} {Q Q':Exit→Act→World→Prop} (h:o.wp P a w K Q) (hp:∀ch a w,Q (.panic ch) a w→Q' (.panic ch) a w) (ho:LetsOut Q→LetsOut Q'):o.wp P a w K Q':=by
 unfold Oper.wp at *
 generalize (execOp a.eval o).run P w=r at *
 cases r with
 | ok n w' =>
   cases n <;> simp only [Oper.upon] at h ⊢ <;>
    first
     | exact h
     | exact Calls.mono h (fun e w'' he=>by cases e <;> first | exact he | exact hp _ _ _ he | exact ho he)
 | halt x w'=>cases x <;> simp only [Oper.upon] at h ⊢ <;> first | exact hp _ _ _ h | exact h
theorem wpList_append {ops:Array Oper} {Q:Exit→Act→World→Prop}:∀(xs ys:List Oper) (a:Act) (w:World),wpList P ops (Exit.then (wpList P ops Q ys) Q) xs a w→wpList P ops Q (xs++ys) a w
 | [],ys,a,w,h=>h
 | x :: xs,ys,a,w,h=>by
   rw [List.cons_append]
   unfold wpList at h ⊢
   split
   ·rename_i hw
    rw [if_pos hw] at h
    rcases h with h | ⟨h1,h2⟩
    ·exact .inl (wp_part (Oper.wp_mono (fun a w=>wpList_append xs ys a w) h) (fun _ _ _ h=>h) (fun ⟨a,w,h⟩=>⟨a,w,h⟩))
    ·exact .inr ⟨h1,by obtain ⟨a,w,h⟩:=h2; exact ⟨a,w,h⟩⟩
   ·rename_i hw
    rw [if_neg hw] at h
    exact wpList_append xs ys _ w h
def DefsOK (P:Program):List (FuncId×Array Value)→List Deferred→Prop
 | [],[]=>True
 | (f,args) :: ds,d :: dd=>(∃fv cap,d.target=.fn fv cap∧∀w,(invoke d.target d.args).run P w=.ok (.enter f args) w)∧DefsOK P ds dd
 | _,_=>False
theorem leav_leaves {fn:Func} {tmps:Array Value} {rt:World→Prop} (hrt:∀w,rt w→∃v,(results fn tmps).run P w=.ok v w∧R (.returned v) w):∀(ds:List (FuncId×Array Value)) (dd:List Deferred) (u:FrameMode) (w:World),DefsOK P ds dd →
 LeavV P rt R ds u w→Leaves P fn tmps R dd u w
 | [],[],u,w,_,h=>by
   cases u with
   | run=>exact h
   | returning=>exact hrt w h
   | panicking ch=>exact h
 | (f,args) :: ds,[],_,_,h,_=>h.elim
 | [],d :: dd,_,_,h,_=>h.elim
 | (f,args) :: ds,d :: dd,u,w,hd,h=>by
   obtain ⟨⟨fv,cap,h1,h2⟩,h3⟩:=hd
   obtain ⟨hu,hc⟩:=h
   refine ⟨hu,fv,cap,f,args,h1,h2 w,hc.mono fun e u' w' he=>?_⟩
   cases e with
   | returned v=>exact leav_leaves hrt ds dd _ _ h3 he
   | panicked ch=>exact leav_leaves hrt ds dd _ _ h3 he
   | outgrown=>exact he

theorem pieces_ok {n:Nat}:∀(c:Code),slotsOk n c=true→∀p∈pieces c,slotsOk n p=true:=by
 intro c
 induction c with
 | seq x y ihx ihy =>
   intro h p hp
   simp only [slotsOk,Bool.and_eq_true] at h
   simp only [pieces,List.mem_append] at hp
   rcases hp with hp | hp
   ·exact ihx h.1 p hp
   ·exact ihy h.2 p hp
 | _=>intro h p hp; simp only [pieces,List.mem_singleton] at hp; subst hp; exact h

def RtOK (P:Program) (R:Ending→World→Prop) (fn:Func) (rt:World→Prop) (a:Act):Prop:=∀w,rt w→∃v,(results fn a.tmps).run P w=.ok v w∧R (.returned v) w

theorem execD_sound {ann:List (Nat×List (Tmp×Shape1))} (hm:P.follows .mixedOrders=true) {fn:Func} {n:Nat}:∀(cs:List Code) (ds:List (DefS pC)) (rt:World→Prop) (env:Env pC) (a:Act) (w:World),
 Rep env a→a.tmps.size=n→(∀c∈cs,slotsOk n c=true)→DefsOK P (dsV ds) a.defers→(ds≠[]→RtOK P R fn rt a∧clearOf fn cs=true) →
 execD (aD P R) (leavD P R) P ann fn cs ds rt env w→wpPieces P cs (bodyPostD P fn R) a w:=by
 have endS:∀(ds:List (DefS pC)) (rt:World→Prop) (env:Env pC) (a:Act) (w:World),Rep env a→DefsOK P (dsV ds) a.defers→(ds≠[]→RtOK P R fn rt a)→endD (aD P R) (leavD P R) P fn ds rt env w→Leaves P fn a.tmps R a.defers .returning w:=by
  intro ds rt env a w hrep hdd hrt h
  cases ds with
  | nil =>
    have h:retS (pA P ⟨R,true⟩) P fn env w:=h
    have he:a.defers=[]:=by
     cases hq:a.defers with
     | nil=>rfl
     | cons d dd=>rw [hq] at hdd; exact hdd.elim
    rw [he]
    exact retS_sound hrep h
  | cons d ds=>exact leav_leaves (hrt (by simp)) _ _ _ _ hdd h
 intro cs
 induction cs with
 | nil=>intro ds rt env a w hrep hn hs hdd hrt h; exact endS ds rt env a w hrep hdd (fun hne=>(hrt hne).1) h
 | cons c rest ih =>
   intro ds rt env a w hrep hn hs hdd hrt h
   unfold execD at h
   have hrest:∀c∈rest,slotsOk n c=true:=fun c hc=>hs c (by simp [hc])
   have hclr:clearOf fn (c :: rest)=true→clearOf fn rest=true∧∀t∈slotsOf fn,t ∉ writesOf c:=by
    intro hc
    simp only [clearOf,List.all_cons,Bool.and_eq_true] at hc
    refine ⟨hc.2,fun t ht hw=>?_⟩
    have:=List.all_eq_true.1 hc.1 t hw
    simp only [List.contains_eq_mem,decide_eq_true ht,Bool.not_true] at this
    cases this
   have keepRt:∀(a':Act),(∀t,t ∉ writesOf c→a'.tmps.getD t undef=a.tmps.getD t undef)→ds≠[]→RtOK P R fn rt a':=by
    intro a' hk hne w' hw
    obtain ⟨h1,h2⟩:=hrt hne
    have he:results fn a'.tmps=results fn a.tmps:=results_eq fun s hsl=>hk s ((hclr h2).2 s hsl)
    rw [he]
    exact h1 w' hw
   split at h
   ·rename_i ops o call hdf
    have hc:∃id,c=.region id ops false∧ops.back?=some o∧o.op=.defer call∧o.guard=none∧o.dst=none:=by
     unfold deferOf at hdf
     split at hdf
     ·rename_i id ops'
      split at hdf
      ·rename_i o' ho
       split at hdf
       ·rename_i c' hop
        split at hdf
        ·rename_i hg
         simp only [Bool.and_eq_true,Option.isNone_iff_eq_none] at hg
         cases hdf
         exact ⟨id,rfl,ho,hop,hg.1,hg.2⟩
        ·cases hdf
       ·cases hdf
      ·cases hdf
     ·cases hdf
    obtain ⟨id,rfl,hback,hop,hguard,hdst⟩:=hc
    have hsc:=hs (.region id ops false) (by simp)
    have hd:∀o∈ops.toList,dstOk n o:=by
     intro o ho d hdst
     have:=Array.all_eq_true_iff_forall_mem.1 hsc o (Array.mem_toList_iff.1 ho)
     simp only [hdst,decide_eq_true_eq] at this
     exact this
    have hW':∀o∈ops.toList,∀d,o.dst=some d→d∈writesOf (.region id ops false):=by
     intro o ho d hdst
     simp only [writesOf,List.mem_filterMap]
     exact ⟨o,ho,hdst⟩
    have hsplit:ops.toList=ops.toList.take (ops.size - 1)++[o]:=by
     have hl:ops.toList.length=ops.size:=Array.length_toList
     have hb:ops.toList.getLast?=some o:=by rw [Array.getLast?_toList]; exact hback
     obtain ⟨ys,hys⟩:=List.getLast?_eq_some_iff.1 hb
     have h1:ops.size - 1=ys.length:=by rw [← hl,hys]; simp
     rw [h1,hys,List.take_left]
    refine wp_region_list ?_
    rw [hsplit]
    refine wpList_append _ _ _ _ (regionS_sound (W:=writesOf (.region id ops false)) _ env a w _ hrep hn (fun o ho=>hd o (List.mem_of_mem_take ho)) (fun o ho=>hW' o (List.mem_of_mem_take ho)) h ?_ ?_)
    ·-- a panic ahead of it
     intro ch a' w' hd' hk hf
     show Leaves P fn a'.tmps R a'.defers (.panicking ch) w'
     rw [hd']
     cases ds with
     | nil =>
       have he:a.defers=[]:=by
        cases hq:a.defers with
        | nil=>rfl
        | cons d dd=>rw [hq] at hdd; exact hdd.elim
       rw [he]; exact hf
     | cons d ds=>exact leav_leaves (keepRt a' hk (by simp)) _ _ _ _ hdd hf
    ·intro env' a' w' hrep' hn' hd' hk h
     show wpList P ops (Exit.then (wpPieces P rest (bodyPostD P fn R)) (bodyPostD P fn R)) [o] a' w'
     split at h
     case h_2=>exact h.elim
     rename_i f hcal
     split at h
     case h_2=>exact h.elim
     rename_i g first cap hev
     split at h
     case isFalse=>exact h.elim
     rename_i hg
     simp only [Bool.and_eq_true] at hg
     have hev':a'.eval f=.func (.func g) (toVs first).toArray (toVs cap).toArray:=by rw [hrep'.eval f]; erw [hev]; rfl
     have hargs:call.args.map a'.eval=(toVs (call.args.toList.map (ev (aD P R ds rt) env'))).toArray:=by
      rw [toVs_eq,List.map_map]
      apply Array.ext'
      simp only [Array.toList_map]
      exact List.map_congr_left fun x _=>hrep'.eval x
     have hex:(execOp a'.eval o).run P w'=.ok (.defer { target:=.fn (.func g) (toVs cap).toArray,args:=(toVs first).toArray++call.args.map a'.eval }) w':=by
      simp [execOp,hop,resolve,hcal,Deferred.ofValue,hev']
     unfold wpList
     have hwant:Region.wanted o (yielded ops a'.tmps)=true:=by simp [Region.wanted,hguard]
     rw [if_pos hwant]
     refine .inl ?_
     unfold Oper.wp
     rw [hex]
     rw [Oper.upon_defer]
     unfold wpList
     show wpPieces P rest (bodyPostD P fn R) _ w'
     rw [hdst]
     refine ih (⟨g,first++call.args.toList.map (ev (aD P R ds rt) env')++cap⟩ :: ds) _ env' _ w' hrep' hn' hrest (And.intro ⟨.func g,(toVs cap).toArray,rfl,fun w''=>?_⟩ ?_) (fun _=>⟨?_,hg.2⟩) h
     ·show (callFunc g _).run P w''=_
      rw [run_callFunc hg.1]
      congr 2
      rw [hargs]
      apply Array.ext'
      simp [toVs_eq]
     ·show DefsOK P (dsV ds) a'.defers
      rw [hd']; exact hdd
     ·intro w'' hw''
      cases ds with
      | nil=>exact retS_sound (R:=⟨R,true⟩) hrep' hw''
      | cons d ds=>exact keepRt a' hk (by simp) w'' hw''
   ·refine Code.wp_mono (Q:=fun e a' w'=>Exit.then (wpPieces P rest (bodyPostD P fn R)) (bodyPostD P fn R) e a' w'∧(∀ch,e=.panic ch→ds=[]→a'.defers=[])) (fun e a' w' hq=>hq.1) ?_
    have hnil:ds=[]→a.defers=[]:=by
     rintro rfl
     cases hq:a.defers with
     | nil=>rfl
     | cons d dd=>rw [hq] at hdd; exact hdd.elim
    refine exec_sound (R:=⟨finD P R ds rt,true⟩) hm c (writesOf c) env a w _ _ hrep hn (hs c (by simp)) (fun t ht=>ht) ?_ ?_ h ?_
    ·intro ch a1 a2 w' hd' hk ⟨h1,h2⟩
     refine ⟨?_,fun ch' _ hne=>by rw [← hd']; exact h2 ch rfl hne⟩
     have h1:Leaves P fn a1.tmps R a1.defers (.panicking ch) w':=h1
     show Leaves P fn a2.tmps R a2.defers (.panicking ch) w'
     rw [← hd']
     by_cases hne:ds=[]
     ·rw [h2 ch rfl hne] at h1 ⊢; exact h1
     ·have he:results fn a1.tmps=results fn a2.tmps:=results_eq fun s hsl=>hk s ((hclr (hrt hne).2).2 s hsl)
      have cong:∀(dd:List Deferred) (u:FrameMode) (w:World),Leaves P fn a1.tmps R dd u w→Leaves P fn a2.tmps R dd u w:=by
       intro dd
       induction dd with
       | nil =>
         intro u w hl
         cases u with
         | run=>exact hl
         | returning=>obtain ⟨v,hv⟩:=hl; exact ⟨v,by rw [← he]; exact hv⟩
         | panicking ch=>exact hl
       | cons d dd ihd =>
         intro u w ⟨g1,fv,cap,f,args,g2,g3,g4⟩
         refine ⟨g1,fv,cap,f,args,g2,g3,g4.mono fun e u' w' hh=>?_⟩
         cases e with
         | returned v=>exact ihd _ _ hh
         | panicked ch=>exact ihd _ _ hh
         | outgrown=>exact hh
      exact cong _ _ _ h1
    ·intro ch a' w' hd' hk hf
     refine ⟨?_,fun ch' _ hne=>by rw [hd']; exact hnil hne⟩
     show Leaves P fn a'.tmps R a'.defers (.panicking ch) w'
     rw [hd']
     cases ds with
     | nil=>rw [hnil rfl]; exact hf
     | cons d ds=>exact leav_leaves (keepRt a' hk (by simp)) _ _ _ _ hdd hf
    ·exact {
      nrm:=fun env' a' w' h1 h2 h3 h4 h5=>by
       refine ⟨?_,fun ch he=>by cases he⟩
       show wpPieces P rest (bodyPostD P fn R) a' w'
       exact ih ds rt env' a' w' h1 h2 hrest (by rw [h3]; exact hdd) (fun hne=>⟨keepRt a' h4 hne,(hclr (hrt hne).2).1⟩) h5
      exit:=fun i env' a' w' h1 h2 h3 h4 h5=>h5.elim
      ret:=fun env' a' w' h1 h2 h3 h4 h5=>by
       refine ⟨?_,fun ch he=>by cases he⟩
       show Leaves P fn a'.tmps R a'.defers .returning w'
       exact endS ds rt env' a' w' h1 (by rw [h3]; exact hdd) (fun hne=>keepRt a' h4 hne) h5 }
theorem execDF_sound {ann:List (Nat×List (Tmp×Shape1))} {f:FuncId} {fn:Func} {args:List (SV pC)} {w:World} (hf:P.funcs[f]?=some fn) (hm:P.follows .mixedOrders=true)
 (h:execDF (aD P R) (leavD P R) P ann fn args False w):Calls P f (toVs args).toArray w R:=by
 unfold execDF at h
 split at h
 ·exact h.elim
 ·rename_i c hb
  split at h
  ·rename_i hc
   refine calls_of_wp_defers hf hb (wp_pieces _ _ _ _ ?_)
   have hrep:Rep (numbered 0 args) ({ tmps:=(toVs args).toArray++Array.replicate (fn.ntmps - (toVs args).toArray.size) undef,defers:=[] }:Act):=numbered_rep
   exact execD_sound hm (pieces c) [] _ _ _ w hrep (by simp [toVs_length]; omega) (pieces_ok c hc.2) trivial (fun h=>(h rfl).elim) h
  ·exact h.elim
theorem execF_soundD {ann:List (Nat×List (Tmp×Shape1))} {f:FuncId} {fn:Func} {args:List (SV pC)} {u:FrameMode} {w:World} (hf:P.funcs[f]?=some fn) (hm:P.follows .mixedOrders=true)
 (h:execF (pA P ⟨R,false⟩) P ann fn args w):CallsD P f (toVs args).toArray u w fun e u' w'=>u'=u∧R e w':=by
 obtain ⟨c,hb,hw⟩:=execF_wp hm h
 exact callsD_of_wp hf hb hw
end
end Go.Vcg
end
