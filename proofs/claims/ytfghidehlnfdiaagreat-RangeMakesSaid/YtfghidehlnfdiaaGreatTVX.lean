/- Contracts: the reference's is and ref (moraineref14). -/
/- Contracts: trie.decoded, Check, Children. -/
/- The hashes that a node's item refers to; rows of hashes. -/
/- Ways from a root down to a key, through nodes that are told by their hashes: plain Lean. -/
/- Functions with deferred calls: their condition, and that it is enough. -/
/- The verification conditions of some functions, printed by a program of ours (wip/PrintVc.lean). -/
import Derived.Test.YtfghidehlnfdiaaGreatTVU
import Derived.Test.YtfghidehlnfdiaaGreatXFun
import Derived.Defers
import Derived.Test.YtfghidehlnfdiaaGreatProg
import Derived.KernelRfl
set_option linter.unusedVariables false
set_option linter.unusedSimpArgs false
section
namespace Go.Proofs.YtfghidehlnfdiaaGreat
open Go Go.Vcg Go.Trie
theorem Z9L {f:Nat} {x:It} (h:Z4o f x=true):isE x=false:=by
 cases x with
 | l ys=>rfl
 | s bs =>
   cases bs with
   | nil=>simp [Z4o] at h
   | cons a r=>rfl
def IsAt (f:Nat):Prop:=∀(x:It) {A:Nat→Prop} {w:World} {v1 v2 v3:Value},dep x≤f→ZBy x→ItC A w x v1 v2 v3 →
 Calls Tryz.prog Z0n.n #[.agg #[v1,v2,v3]] w (fun e w'=>e=.returned (.bool (isN f x))∧Vcg.Mod NoB w w')
def ZGI (f:Nat):Prop:=∀(x:It) {A:Nat→Prop} {w:World} {v1 v2 v3:Value},dep x≤f→ZBy x→ItC A w x v1 v2 v3 →
 Calls Tryz.prog Z0Z.n #[.agg #[v1,v2,v3]] w (fun e w'=>e=.returned (.tuple #[.bool (isE x || Z4o f x),.bool (!isE x)])∧Vcg.Mod NoB w w')
theorem ZFd {f:Nat} (hN:IsAt f):ZGI f:=by
 intro x A w v1 v2 v3 hdp hf hx
 obtain ⟨b,o1,l1,c1,o2,l2,c2,rfl,rfl,rfl⟩:=hx.vals
 refine Z0Z.vc _ _ _ _ _ _ _ _ _ ?_
 unfold Z0Z.Vc
 rintro d3 w1 ⟨rfl,rfl⟩
 have M1:Vcg.Mod NoB w _:=Mod.alloc w (.cells #[.bool b,.slice o1 l1 c1,.slice o2 l2 c2] 111)
 have X1:=Blk.new w 111 #[.bool b,.slice o1 l1 c1,.slice o2 l2 c2]
 generalize w.alloc (.cells #[.bool b,.slice o1 l1 c1,.slice o2 l2 c2] 111)=w1 at *
 have hx1:=ItC.mod M1 _ hx
 cases x with
 | s bs =>
   simp only [ItC] at hx1
   obtain ⟨h1,⟨o,c,h2,h3,h4⟩,h5⟩:=hx1
   cases h1; cases h2; cases h5
   refine ⟨_,X1.rd1 rfl,fun _=>?_,fun h=>(by cases h)⟩
   rintro _ rfl
   have X2:=X1.drew
   have M2:=M1.step_drew
   refine ⟨_,_,_,by rw [Z6]; exact X2.rd1 rfl,fun h32=>⟨_,_,_,by rw [Z6]; exact X2.rd1 rfl,?_,M2⟩,fun h32=>⟨_,_,_,by rw [Z6]; exact X2.rd1 rfl,_,_,_,by rw [Z6]; exact X2.rd1 rfl,?_,M2⟩⟩
   ·have e1:Z4o f (.s bs)=true:=by simp only [Z4o]; exact decide_eq_true (by omega)
    rw [e1,Z9L e1,decide_eq_true (by omega)]; rfl
   ·have e1:Z4o f (.s bs)=false:=by simp only [Z4o]; exact decide_eq_false (by omega)
    rw [e1]
    cases bs with
    | nil=>rfl
    | cons a r=>rw [decide_eq_false (by simp only [List.length_cons]; omega),decide_eq_true (by simp only [List.length_cons]; omega)]; rfl
 | l xs =>
   have hx1':=hx1
   simp only [ItC] at hx1
   obtain ⟨h1,h2,o,c,h3,h4,hcap⟩:=hx1
   cases h1; cases h2; cases h3
   refine ⟨_,X1.rd1 rfl,fun h=>(by cases h),fun _=>Z81 X1 ?_⟩
   refine (Z9f f (.l xs) hdp hx1' (Mod.refl w1) hf.2.2).mono ?_
   rintro _ w2 ⟨o',k',rfl,F⟩
   have M02:=M1.none_trans F.mod
   have X2:=X1.mod' F.mod
   refine ⟨_,_,_,rfl,fun hlt=>Z81 X2 ?_,fun hge=>⟨?_,M02⟩⟩
   ·refine (hN (.l xs) hdp hf (ItC.mod F.mod _ hx1')).mono ?_
    rintro _ w3 ⟨rfl,M3⟩
    have e:Z4o f (.l xs)=isN f (.l xs):=by
     simp only [Z4o,isN]; rw [decide_eq_true (by omega)]; rfl
    exact ⟨_,rfl,by rw [e]; rfl,M02.none_trans M3⟩
   ·have e:Z4o f (.l xs)=false:=by simp only [Z4o]; rw [decide_eq_false (by omega)]; rfl
    rw [e]; rfl
theorem ZG2:∀f,IsAt f
 | 0,x,_,_,_,_,_,hd,_,_=>absurd (ZBF x) (by omega)
 | f+1,x,A,w,v1,v2,v3,hd,hf,hx=>by
   have hRf:=ZFd (ZG2 f)
   obtain ⟨b,o1,l1,c1,o2,l2,c2,rfl,rfl,rfl⟩:=hx.vals
   refine Z0n.vc _ _ _ _ _ _ _ _ _ ?_
   unfold Z0n.Vc
   rintro d3 w1 ⟨rfl,rfl⟩
   have M1:Vcg.Mod NoB w _:=Mod.alloc w (.cells #[.bool b,.slice o1 l1 c1,.slice o2 l2 c2] 111)
   have X1:=Blk.new w 111 #[.bool b,.slice o1 l1 c1,.slice o2 l2 c2]
   generalize w.alloc (.cells #[.bool b,.slice o1 l1 c1,.slice o2 l2 c2] 111)=w1 at *
   have hx1:=ItC.mod M1 _ hx
   cases x with
   | s bs =>
     simp only [ItC] at hx1
     obtain ⟨h1,_,_⟩:=hx1
     cases h1
     exact ⟨_,X1.rd1 rfl,fun _=>⟨rfl,M1⟩,fun h=>(by cases h)⟩
   | l xs =>
     simp only [ItC] at hx1
     obtain ⟨h1,h2,o,c,h3,h4,hc⟩:=hx1
     cases h1; cases h2; cases h3
     have hds:∀x∈xs,dep x≤f:=fun x hx=>by
      have:=Z65 hx
      simp only [dep] at hd
      omega
     refine ⟨_,X1.rd1 rfl,fun h=>(by cases h),fun _=>⟨_,_,_,by rw [Z6]; exact X1.rd1 rfl,fun h2=>?_,fun h2=>⟨fun h17=>?_,fun h17=>?_⟩⟩⟩
     ·obtain ⟨x,y,rfl⟩:∃x y,xs=[x,y]:=by
        cases xs with
        | nil=>simp at h2
        | cons x r =>
          cases r with
          | nil=>simp at h2
          | cons y r =>
            cases r with
            | nil=>exact ⟨x,y,rfl⟩
            | cons z r=>simp at h2; omega
      have hnode0:Z3b (f+1) [x,y]=(match Z1H x with
       | none=>false
       | some (_,true)=>ZEy y
       | some (p,false)=>decide (p≠[]) && Z4o f y):=Z7a rfl
      have hnode:isN (f+1) (.l [x,y])=(match Z1H x with
       | none=>false
       | some (_,true)=>ZEy y
       | some (p,false)=>decide (p≠[]) && Z4o f y):=hnode0
      obtain ⟨g,f0,u1,u2,u3,rfl,hg,e1,e2,e3,hi⟩:=h4.get 0 (by simp)
      have hix:ItC A w1 x u1 u2 u3:=hi
      refine ⟨_,_,_,by rw [Z6]; exact X1.rd1 rfl,_,rfl,⟨by decide,by simp⟩,?_⟩
      cases x with
      | l ys =>
        simp only [ItC] at hix
        obtain ⟨rfl,_⟩:=hix
        exact ⟨true,by rw [Z6]; exact e1,fun _=>⟨by rw [hnode]; rfl,M1⟩,fun h=>(by cases h)⟩
      | s bs =>
        have hfx:=hf.mem (x:=.s bs) (by simp)
        simp only [ItC] at hix
        obtain ⟨rfl,⟨ox,cx,rfl,hrx,_⟩,rfl⟩:=hix
        have hbl:bs.length≤2 ^ 20:=by
         have:bs.length≤(enc (.s bs)).length:=by
          simp only [enc]
          split
          ·exact Nat.le_refl _
          ·rw [List.length_append]; omega
         have:=hfx.2.2
         omega
        simp only [Z1H] at hnode
        refine ⟨false,by rw [Z6]; exact e1,fun h=>(by cases h),fun _=>⟨_,_,_,by rw [Z6]; exact X1.rd1 rfl,_,rfl,⟨by decide,by simp⟩,_,_,_,by rw [Z6,Z6]; exact e2,?_⟩⟩
        refine (Z5i hrx hbl).mono ?_
        rintro _ w2 ⟨o',k',rfl,M2,R2,_⟩
        have M02:=M1.none_trans M2
        have X2:=X1.mod' M2
        obtain ⟨g',f0',t1,t2,t3,ho,hg',d1,d2,d3,hi'⟩:=(Z1k.mod M2 _ h4).get 1 (by simp)
        cases ho
        have hiy:ItC A w2 y t1 t2 t3:=hi'
        cases hu:Z1L bs with
        | none =>
          have e:upk bs=([],false,143):=by unfold upk; rw [hu]
          rw [hu] at hnode
          rw [e]
          exact ⟨_,_,_,_,_,rfl,fun _=>⟨by rw [hnode],M02⟩,fun h=>absurd h (by decide)⟩
        | some r =>
          obtain ⟨p,lf⟩:=r
          have e:upk bs=(p,lf,0):=by unfold upk; rw [hu]
          rw [hu] at hnode
          rw [e]
          refine ⟨_,_,_,_,_,rfl,fun h=>(h rfl).elim,fun _=>⟨fun hlf=>?_,fun hlf=>?_⟩⟩
          ·subst hlf
           simp only at hnode
           refine ⟨_,_,_,by rw [Z6]; exact X2.rd1 rfl,_,rfl,⟨by decide,by simp⟩,?_⟩
           cases y with
           | s vs =>
             simp only [ItC] at hiy
             obtain ⟨rfl,⟨oy,cy,rfl,_⟩,rfl⟩:=hiy
             refine ⟨false,by rw [Z6]; exact d1,fun _=>⟨_,_,_,by rw [Z6]; exact X2.rd1 rfl,_,rfl,⟨by decide,by simp⟩,_,_,_,by rw [Z6,Z6]; exact d2,?_,M02⟩,fun h=>(by cases h)⟩
             rw [hnode]
             cases vs with
             | nil=>rfl
             | cons a r=>rw [decide_eq_true (by simp only [List.length_cons]; omega)]; rfl
           | l ys =>
             simp only [ItC] at hiy
             obtain ⟨rfl,_⟩:=hiy
             exact ⟨true,by rw [Z6]; exact d1,fun h=>(by cases h),fun _=>⟨by rw [hnode]; rfl,M02⟩⟩
          ·subst hlf
           simp only at hnode
           obtain ⟨_,_,_,_,_,_,_,rfl,rfl,rfl⟩:=hiy.vals
           refine ⟨_,_,_,by rw [Z6]; exact X2.rd1 rfl,_,rfl,⟨by decide,by simp⟩,_,_,_,_,_,_,_,by rw [Z6]; exact d1,by rw [Z6,Z6]; exact d2,by rw [Z6,Z6]; exact d3,?_⟩
           refine (hRf y (hds y (by simp)) (hf.mem (by simp)) hiy).mono ?_
           rintro _ w3 ⟨rfl,M3⟩
           have M03:=M02.none_trans M3
           refine ⟨_,_,rfl,fun hp=>⟨fun hb=>⟨?_,M03⟩,fun hb=>⟨?_,M03⟩⟩,fun hp=>⟨?_,M03⟩⟩
           ·have hpn:p≠[]:=by rintro rfl; simp at hp
            rw [hnode,decide_eq_true hpn,Bool.true_and]
            cases hr:Z4o f y with
            | true=>rw [Z9L hr]; rfl
            | false=>rw [hr,Bool.or_false] at hb; rw [hb]; rfl
           ·rw [Bool.or_eq_false_iff] at hb
            rw [hnode,hb.2,Bool.and_false]
           ·have hpn:p=[]:=List.eq_nil_of_length_eq_zero (by dsimp only at hp; omega)
            rw [hnode,hpn]; rfl
     ·have h17':xs.length=17:=by omega
      have hnode:isN (f+1) (.l xs)=_:=Z6D (f:=f) h17'
      rw [Z1O (by omega)] at hnode
      refine ⟨fun n i w'=>∃j:Nat,i=(j:Int)∧j≤16∧n=((((xs.take j).filter (fun x=> !isE x)).length:Nat):Int)∧(xs.take j).all (fun x=>isE x || Z4o f x)=true∧Vcg.Mod NoB w1 w',fun _ i _=>((16:Int) - i).toNat,⟨0,rfl,Nat.zero_le _,by simp,by simp,Mod.refl w1⟩,?_⟩
      rintro _ _ _ w2 ⟨j,rfl,hj,rfl,hall,M2⟩
      have X2:=X1.mod' M2
      have hcl:((xs.take j).filter (fun x=> !isE x)).length≤16:=Nat.le_trans (List.length_filter_le _ _) (by rw [List.length_take]; omega)
      refine ⟨fun hlt=>?_,fun hge=>?_⟩
      ·have hjl:j < xs.length:=by omega
       obtain ⟨g',f',u1,u2,u3,ho,hg',d1,d2,d3,hij⟩:=(Z1k.mod M2 _ h4).get j hjl
       rw [Nat.zero_add] at d1 d2 d3
       obtain ⟨_,_,_,_,_,_,_,rfl,rfl,rfl⟩:=hij.vals
       refine ⟨_,_,_,by rw [Z6]; exact X2.rd1 rfl,_,ho,⟨by omega,by omega⟩,_,_,_,_,_,_,_,by rw [Z6,Int.toNat_natCast]; exact d1,by rw [Z6,Z6,Int.toNat_natCast]; exact d2,by rw [Z6,Z6,Int.toNat_natCast]; exact d3,?_⟩
       refine (hRf xs[j] (hds _ (List.getElem_mem hjl)) (hf.mem (List.getElem_mem hjl)) hij).mono ?_
       rintro _ w3 ⟨rfl,M3⟩
       have htk:xs.take (j+1)=xs.take j++[xs[j]]:=List.take_succ_eq_append_getElem hjl
       have ew:IntKind.wrap .i64 ((j:Int)+1)=((j+1:Nat):Int):=by rw [Z0 (by omega) (by omega)]; omega
       have en:IntKind.wrap .i64 (((((xs.take j).filter (fun x=> !isE x)).length:Nat):Int)+1)=((((xs.take j).filter (fun x=> !isE x)).length+1:Nat):Int):=by rw [Z0 (by omega) (by omega)]; omega
       rw [ew,en]
       refine ⟨_,_,rfl,fun hb=>⟨?_,M1.none_trans (M2.none_trans M3)⟩,fun hb=>⟨fun hn=>?_,fun hn=>?_⟩⟩
       ·have:(xs.take 16).all (fun x=>isE x || Z4o f x)=false:=by
          rw [List.all_eq_false]
          refine ⟨xs[j],?_,by rw [hb]; decide⟩
          rw [List.mem_take_iff_getElem]
          exact ⟨j,by omega,rfl⟩
        rw [hnode]
        cases xs[16] with
        | l ys=>rfl
        | s v=>simp only; rw [this,Bool.false_and]
       ·refine ⟨⟨j+1,rfl,by omega,?_,?_,M2.none_trans M3⟩,by dsimp only; omega⟩
        ·rw [htk,List.filter_append,List.length_append]
         simp [hn]
        ·rw [htk,List.all_append,hall]; simp only [List.all_cons,List.all_nil,hb,Bool.and_self]
       ·refine ⟨⟨j+1,rfl,by omega,?_,?_,M2.none_trans M3⟩,by dsimp only; omega⟩
        ·rw [htk,List.filter_append,List.length_append]
         simp [hn]
        ·rw [htk,List.all_append,hall]; simp only [List.all_cons,List.all_nil,hb,Bool.and_self]
      ·obtain rfl:j=16:=by omega
       have M02:=M1.none_trans M2
       obtain ⟨g',f',u1,u2,u3,ho,hg',d1,d2,d3,hij⟩:=(Z1k.mod M2 _ h4).get 16 (by omega)
       rw [hall] at hnode
       refine ⟨_,_,_,by rw [Z6]; exact X2.rd1 rfl,_,ho,⟨by omega,by omega⟩,?_⟩
       generalize hx16:xs[16]=x16 at *
       cases x16 with
       | l ys =>
         simp only [ItC] at hij
         obtain ⟨rfl,_⟩:=hij
         exact ⟨true,by rw [Z6]; exact d1,fun _=>⟨by rw [hnode],M02⟩,fun h=>(by cases h)⟩
       | s v =>
         simp only [ItC] at hij
         obtain ⟨rfl,⟨ov,cv,rfl,hv,_⟩,rfl⟩:=hij
         simp only [Bool.true_and] at hnode
         have en:IntKind.wrap .i64 (((((xs.take 16).filter (fun x=> !isE x)).length:Nat):Int)+1)=((((xs.take 16).filter (fun x=> !isE x)).length+1:Nat):Int):=by rw [Z0 (by omega) (by omega)]; omega
         rw [en]
         refine ⟨false,by rw [Z6]; exact d1,fun h=>(by cases h),fun _=>⟨_,_,_,by rw [Z6]; exact X2.rd1 rfl,_,ho,⟨by omega,by omega⟩,_,_,_,by rw [Z6,Z6]; exact d2,fun hp=>⟨?_,M02⟩,fun hp=>⟨?_,M02⟩⟩⟩
         ·have hvn:v≠[]:=by rintro rfl; simp at hp
          rw [hnode,if_neg hvn]
          congr 2
          rw [Bool.eq_iff_iff,decide_eq_true_eq,decide_eq_true_eq]; omega
         ·have hvn:v=[]:=List.eq_nil_of_length_eq_zero (by omega)
          rw [hnode,if_pos hvn]
          congr 2
          rw [Bool.eq_iff_iff,decide_eq_true_eq,decide_eq_true_eq]; omega
     ·have hno:isN (f+1) (.l xs)=false:=Z9G (by omega) (by omega)
      exact ⟨by rw [hno],M1⟩
end Go.Proofs.YtfghidehlnfdiaaGreat
end
section
namespace Go.Proofs.YtfghidehlnfdiaaGreat
open Go Go.Vcg Go.Trie
def Z0R (b:By):Int:=match Z4c b with
 | .error x=>x
 | .ok x=>if isN 17 x=true then 0 else 143
theorem ZBK {b:By} {x:It} (h:Z4c b=.ok x):ZBy x:=by
 obtain ⟨h1,h2,h3,h4⟩:=ZGM h
 exact ⟨h3,h4,by omega⟩
theorem Z94 {w:World} {o:Option Addr} {k:Nat} {bs:By} (hr:RdB w o bs) (hk:bs.length≤k) :
  Calls Tryz.prog Z1a.n #[.slice o bs.length k] w (fun e w'=>Vcg.Mod NoB w w'∧∃v,e=.returned (.tuple #[v,.int .i64 (Z0R bs)])∧(Z0R bs=0→∃x,Z4c bs=.ok x∧isN 17 x=true∧RV 0 17 w' x v)):=by
 refine ZH fun R hR=>Z1a.vc _ _ _ _ _ ?_
 unfold Z1a.Vc
 refine (Z6M hr hk).mono ?_
 rintro e w1 ⟨M1,hd⟩
 unfold Z2V at hd
 cases hdc:Z4c bs with
 | error x =>
   rw [hdc] at hd
   obtain ⟨hx,b,p1,q1,r1,p2,q2,r2,rfl⟩:=hd
   refine ⟨_,_,_,_,_,_,_,_,rfl,?_⟩
   rintro d2 w2 ⟨rfl,rfl⟩
   have H:=Blk.new w1 111 #[.bool false,.slice none 0 0,.slice none 0 0]
   refine Z8n H rfl rfl rfl (fun w3 H3 Q3=>?_)
   have M3:Vcg.Mod NoB w w3:=M1.none_trans (ZM (Mod.alloc w1 _) Q3 (Nat.le_refl _))
   have hck:Z0R bs=x:=by unfold Z0R; rw [hdc]
   refine ⟨fun _=>hR _ _ ⟨M3,_,by rw [hck],fun h=>(hx (by rw [← hck]; exact h)).elim⟩,fun h=>(hx h).elim⟩
 | ok x =>
   rw [hdc] at hd
   obtain ⟨v1,v2,v3,rfl,hx⟩:=hd
   obtain ⟨b,p1,q1,r1,p2,q2,r2,rfl,rfl,rfl⟩:=hx.vals
   have hf:=ZBK hdc
   refine ⟨_,_,_,_,_,_,_,_,rfl,?_⟩
   rintro d2 w2 ⟨rfl,rfl⟩
   have H:=Blk.new w1 111 #[.bool false,.slice none 0 0,.slice none 0 0]
   refine Z8n H rfl rfl rfl (fun w3 H3 Q3=>?_)
   have M13:Vcg.Mod NoB w1 w3:=ZM (Mod.alloc w1 _) Q3 (Nat.le_refl _)
   refine ⟨fun h=>(h rfl).elim,fun _=>Z81 H3 ?_⟩
   refine (ZAS 17 x (by have:=hf.1; omega) hf (ItC.mod M13 _ hx)).mono ?_
   rintro _ w4 ⟨v,rfl,M4,hv,hrv⟩
   have M04:=(M1.none_trans M13).none_trans M4
   refine ⟨_,_,rfl,fun hb=>hR _ _ ⟨M04,.nilIface,?_,fun h=>?_⟩,fun hb=>hR _ _ ⟨M04,v,?_,fun _=>⟨x,hdc,hb,RV.mod' (Mod.refl _) (Nat.zero_le _) (hrv hb)⟩⟩⟩
   ·unfold Z0R; rw [hdc]; simp only [hb]; rfl
   ·unfold Z0R at h; rw [hdc] at h; simp only [hb] at h; exact absurd h (by decide)
   ·unfold Z0R; rw [hdc]; simp only [hb]; rfl
theorem ZAu {w:World} {o:Option Addr} {k:Nat} {bs:By} (hr:RdB w o bs) (hk:bs.length≤k) :
  Calls Tryz.prog Z2P.n #[.slice o bs.length k] w (fun e w'=>e=.returned (.int .i64 (Z0R bs))∧Vcg.Mod NoB w w'):=by
 refine Z2P.vc _ _ _ _ _ ?_
 unfold Z2P.Vc
 refine (Z94 hr hk).mono ?_
 rintro _ w1 ⟨M1,v,rfl,_⟩
 exact ⟨_,_,rfl,rfl,M1⟩
theorem ZAZ {w:World} {o:Option Addr} {k:Nat} {bs:By} (hr:RdB w o bs) (hk:bs.length≤k) :
  Calls Tryz.prog Z0C.n #[.slice o bs.length k] w (fun e w'=>e=.returned (.int .i64 (Z0R bs))∧Vcg.Mod NoB w w'):=by
 refine Z0C.vc _ _ _ _ _ ?_
 unfold Z0C.Vc
 refine (Z5h hr hk).mono ?_
 rintro e w1 ⟨M1,hd⟩
 unfold Z2V at hd
 cases hdc:Z4c bs with
 | error x =>
   rw [hdc] at hd
   obtain ⟨hx,b,p1,q1,r1,p2,q2,r2,rfl⟩:=hd
   refine ⟨_,_,_,_,_,_,_,_,rfl,?_⟩
   rintro d2 w2 ⟨rfl,rfl⟩
   have H:=Blk.new w1 111 #[.bool false,.slice none 0 0,.slice none 0 0]
   refine Z8n H rfl rfl rfl (fun w3 H3 Q3=>?_)
   have M3:Vcg.Mod NoB w w3:=M1.none_trans (ZM (Mod.alloc w1 _) Q3 (Nat.le_refl _))
   have hck:Z0R bs=x:=by unfold Z0R; rw [hdc]
   exact ⟨fun _=>⟨by rw [hck],M3⟩,fun h=>(hx h).elim⟩
 | ok x =>
   rw [hdc] at hd
   obtain ⟨v1,v2,v3,rfl,hx⟩:=hd
   obtain ⟨b,p1,q1,r1,p2,q2,r2,rfl,rfl,rfl⟩:=hx.vals
   have hf:=ZBK hdc
   refine ⟨_,_,_,_,_,_,_,_,rfl,?_⟩
   rintro d2 w2 ⟨rfl,rfl⟩
   have H:=Blk.new w1 111 #[.bool false,.slice none 0 0,.slice none 0 0]
   refine Z8n H rfl rfl rfl (fun w3 H3 Q3=>?_)
   have M13:Vcg.Mod NoB w1 w3:=ZM (Mod.alloc w1 _) Q3 (Nat.le_refl _)
   refine ⟨fun h=>(h rfl).elim,fun _=>Z81 H3 ?_⟩
   refine (ZG2 17 x (by have:=hf.1; omega) hf (ItC.mod M13 _ hx)).mono ?_
   rintro _ w4 ⟨rfl,M4⟩
   have M04:=(M1.none_trans M13).none_trans M4
   refine ⟨_,rfl,fun hb=>⟨?_,M04⟩,fun hb=>⟨?_,M04⟩⟩
   ·unfold Z0R; rw [hdc]; simp only [hb]; rfl
   ·unfold Z0R; rw [hdc]; simp only [hb]; rfl
end Go.Proofs.YtfghidehlnfdiaaGreat
end
section
namespace Go.Proofs.YtfghidehlnfdiaaGreat
open Go Go.Vcg Go.Trie
def kidsN:Nat→It→List By
 | _,.s b=>if b.length=32 then [b] else []
 | 0,.l _=>[]
 | f+1,.l xs=>if xs.length=2 then (match Z1H (xs.getD 0 (.s [])) with
    | some (_,true)=>[]
    | _=>kidsN f (xs.getD 1 (.s []))) else (xs.take 16).flatMap (kidsN f)
theorem ZCB {g:It→List By} (hg:∀y,(g y).length≤count y):∀(xs:List It),(xs.flatMap g).length≤Z0s xs
 | []=>by simp [Z0s]
 | x :: r=>by
   have h1:=hg x
   have h2:=ZCB hg r
   simp only [List.flatMap_cons,List.length_append,Z0s]; omega
theorem kids_len:∀(f:Nat) (x:It),(kidsN f x).length≤count x
 | _,.s b=>by
   simp only [kidsN,count]
   split <;> simp
 | 0,.l _=>by simp [kidsN]
 | f+1,.l xs=>by
   simp only [kidsN,count]
   split
   ·rename_i h2
    split
    ·simp
    ·have h1:=kids_len f (xs.getD 1 (.s []))
     have hc:count (xs.getD 1 (.s []))≤Z0s xs:=by
      obtain ⟨x,y,rfl⟩:∃x y,xs=[x,y]:=by
       cases xs with
       | nil=>simp at h2
       | cons x r =>
         cases r with
         | nil=>simp at h2
         | cons y r =>
           cases r with
           | nil=>exact ⟨x,y,rfl⟩
           | cons z r=>simp at h2
      show count y≤count x+(count y+0)
      omega
     omega
   ·have h1:=ZCB (kids_len f) (xs.take 16)
    have h2:=Z4r xs 16
    omega
def hsC (hs:List By):List Value:=(hs.map fun h=>(hashA h).toList).flatten
theorem Z0x (h:By):(hashA h).toList.length=32:=by rw [Array.length_toList,ZB]
end Go.Proofs.YtfghidehlnfdiaaGreat
end
section
namespace Go.Proofs.YtfghidehlnfdiaaGreat
open Go Go.Vcg Go.Trie
theorem ZHf {b:By} {e:Int} (h:Trie.hd b=.error e):e≠0:=by
 unfold Trie.hd at h
 simp only at h
 split at h
 ·cases h
 ·generalize (if (b.getD 0 0).toNat≥192 then 192 else 128)=base at *
  split at h
  ·cases h
  ·split at h
   ·cases h; decide
   ·split at h
    ·cases h; decide
    ·cases h
theorem ZHe:∀(f:Nat),(∀d n b,2 * b.length+1≤f→dcd f d n b≠.error 0)∧(∀d n b,2 * b.length+2≤f→Z80 f d n b≠.error 0)
 | 0=>⟨fun d n b h=>absurd h (by omega),fun d n b h=>absurd h (by omega)⟩
 | f+1=>by
   have ih:=ZHe f
   refine ⟨fun d n b hf he=>?_,fun d n b hf he=>?_⟩
   ·by_cases hb:b=[]
    ·subst hb; rw [ZBD] at he; cases he
    ·by_cases hd:d > 16∨n=4096
     ·rw [Z6s hb hd] at he; cases he
     ·rw [ZDr hb hd] at he
      cases hh:Trie.hd b with
      | error e =>
        rw [hh] at he
        simp only at he
        cases he
        exact ZHf hh rfl
      | ok r =>
        obtain ⟨lst,a,k,ow⟩:=r
        rw [hh] at he
        simp only at he
        obtain ⟨g1,g2⟩:=ZGQ hh hb
        split at he
        ·cases he
        ·rename_i hk
         split at he
         ·split at he
          ·cases he
          ·cases he
         ·rename_i hl
          have how:ow=false:=by
           cases ow with
           | false=>rfl
           | true=>exact absurd (g1 rfl).1 hl
          obtain ⟨ha,hal,_⟩:=g2 how
          have hlen:((b.drop a).take k).length≤b.length - a:=by rw [List.length_take,List.length_drop]; omega
          cases hs:Z80 f (d+1) (n+1) ((b.drop a).take k) with
          | error e =>
            rw [hs] at he
            simp only at he
            cases he
            exact ih.2 _ _ _ (by omega) hs
          | ok r=>rw [hs] at he; cases he
   ·by_cases hb:b=[]
    ·subst hb; rw [Z93] at he; cases he
    ·rw [ZBE hb] at he
     cases hx:dcd f d n b with
     | error e =>
       rw [hx] at he
       simp only at he
       cases he
       exact ih.1 _ _ _ (by omega) hx
     | ok r =>
       obtain ⟨x,k,m⟩:=r
       rw [hx] at he
       simp only at he
       obtain ⟨a1,a2,_⟩:=(Z7H _ _ _ _).1 _ _ _ hx
       cases hs:Z80 f d m (b.drop k) with
       | error e =>
         rw [hs] at he
         simp only at he
         cases he
         exact ih.2 _ _ _ (by rw [List.length_drop]; omega) hs
       | ok r=>rw [hs] at he; cases he
theorem ZFE {b:By} {x:Int} (h:Z4c b=.error x):x≠0:=by
 unfold Z4c at h
 split at h
 ·cases h; decide
 ·cases hd:dcd (2 * b.length+1) 1 0 b with
  | error e =>
    rw [hd] at h
    simp only at h
    cases h
    rintro rfl
    exact (ZHe _).1 _ _ _ (Nat.le_refl _) hd
  | ok r =>
    obtain ⟨y,k,m⟩:=r
    rw [hd] at h
    simp only at h
    split at h
    ·cases h; decide
    ·cases h
def itB:It→By
 | .s b=>b
 | .l _=>[]
def Z3D (x:It):Prop:=x=.s []∨(∃b,x=.s b∧b.length=32)∨∃xs g,x=.l xs∧Z3b g xs=true∧ZBy (.l xs)
theorem Z3D.nil:Z3D (.s []):=.inl rfl
theorem Z3D.hash {b:By} (h:b.length=32):Z3D (.s b):=.inr (.inl ⟨b,rfl,h⟩)
theorem Z3D.node {xs:List It} (h:Z3D (.l xs)):∃g,Z3b (g+1) xs=true∧ZBy (.l xs):=by
 rcases h with h | ⟨b,h,_⟩ | ⟨ys,g,h,h1,h2⟩
 ·cases h
 ·cases h
 ·cases h
  cases g with
  | zero=>simp [Z3b] at h1
  | succ g=>exact ⟨g,h1,h2⟩
theorem Z3D.str {b:By} (h:Z3D (.s b)):b=[]∨b.length=32:=by
 rcases h with h | ⟨b,h,h'⟩ | ⟨ys,g,h,h1,h2⟩
 ·cases h; exact .inl rfl
 ·cases h; exact .inr h'
 ·cases h
theorem ZCF {g:Nat} {x:It} (h:Z4o g x=true) (hf:ZBy x):Z3D x∧isE x=false:=by
 refine ⟨?_,Z9L h⟩
 cases x with
 | s b=>simp only [Z4o,decide_eq_true_eq] at h; exact .hash h
 | l xs =>
   simp only [Z4o,Bool.and_eq_true] at h
   exact .inr (.inr ⟨xs,g,rfl,h.2,hf⟩)
theorem Z3D.two {xs:List It} (h:Z3D (.l xs)) (h2:xs.length=2):∃p lf,Z1H (xs.getD 0 (.s []))=some (p,lf)∧(lf=true→∃v,xs.getD 1 (.s [])=.s v∧v≠[])∧(lf=false→p≠[]∧Z3D (xs.getD 1 (.s []))∧isE (xs.getD 1 (.s []))=false):=by
 obtain ⟨g,hn,hf⟩:=h.node
 rw [Z7a h2] at hn
 have hm:xs.getD 1 (.s [])∈xs:=by rw [Z1O (by omega)]; exact List.getElem_mem (by omega)
 split at hn
 ·cases hn
 ·rename_i p he
  refine ⟨p,true,he,fun _=>?_,fun h=>by cases h⟩
  generalize xs.getD 1 (.s [])=y at hn
  cases y with
  | l ys=>cases hn
  | s v =>
    cases v with
    | nil=>cases hn
    | cons a r=>exact ⟨_,rfl,by simp⟩
 ·rename_i p he
  simp only [Bool.and_eq_true,decide_eq_true_eq] at hn
  exact ⟨p,false,he,fun h=>(by cases h),fun _=>⟨hn.1,ZCF hn.2 (hf.mem hm)⟩⟩
theorem Z3D.many {xs:List It} (h:Z3D (.l xs)) (h2:xs.length≠2):xs.length=17∧(∃v,xs.getD 16 (.s [])=.s v)∧∀j,j < 16→Z3D (xs.getD j (.s [])):=by
 obtain ⟨g,hn,hf⟩:=h.node
 have h17:xs.length=17:=by
  by_cases h17:xs.length=17
  ·exact h17
  ·rw [Z9G h2 h17] at hn; cases hn
 rw [Z6D h17] at hn
 split at hn
 ·cases hn
 ·rename_i v he
  rw [Bool.and_eq_true,List.all_eq_true] at hn
  refine ⟨h17,⟨v,he⟩,fun j hj=>?_⟩
  rw [Z1O (by omega)]
  have hm:xs[j]∈xs:=List.getElem_mem (by omega)
  have:=hn.1 (xs[j]'(by omega)) (by rw [List.mem_take_iff_getElem]; exact ⟨j,by omega,rfl⟩)
  rw [Bool.or_eq_true] at this
  rcases this with h | h
  ·generalize xs[j]=y at h
   cases y with
   | l ys=>cases h
   | s b =>
     cases b with
     | nil=>exact .nil
     | cons a r=>cases h
  ·exact (ZCF h (hf.mem hm)).1
theorem ZGP {b:By} {x:It} (h:Z4c b=.ok x) (hn:isN 17 x=true):∃xs,x=.l xs∧Z3D x:=by
 cases x with
 | s b=>cases hn
 | l xs=>exact ⟨xs,rfl,.inr (.inr ⟨xs,17,rfl,hn,ZBK h⟩)⟩
theorem Z2D {b:By} (h:Z0R b=0):∃xs,Z4c b=.ok (.l xs)∧isN 17 (.l xs)=true∧Z3D (.l xs):=by
 unfold Z0R at h
 cases hd:Z4c b with
 | error x =>
   rw [hd] at h
   simp only at h
   have:=ZFE hd
   exact (this h).elim
 | ok x =>
   rw [hd] at h
   simp only at h
   by_cases hn:isN 17 x=true
   ·obtain ⟨xs,rfl,hg⟩:=ZGP hd hn
    exact ⟨xs,rfl,hn,hg⟩
   ·rw [if_neg hn] at h; exact absurd h (by decide)
section
variable {σ:Type} (step:σ→By→σ×Except Int By)
def Z2o (go:σ→It→By→σ×Except Int By) (s:σ) (xs:List It) (path:By):σ×Except Int By :=
 if xs.length=2 then (match Z1H (xs.getD 0 (.s [])) with
  | some (p,true)=>(s,.ok (if p=path then itB (xs.getD 1 (.s [])) else []))
  | some (p,false)=>if p.isPrefixOf path then go s (xs.getD 1 (.s [])) (path.drop p.length) else (s,.ok [])
  | none=>(s,.ok []))
 else match path with
  | []=>(s,.ok (itB (xs.getD 16 (.s []))))
  | n :: r=>go s (xs.getD n.toNat (.s [])) r
def ZAt:Nat→σ→It→By→σ×Except Int By
 | 0,s,_,_=>(s,.ok [])
 | f+1,s,.l xs,path=>Z2o (ZAt f) s xs path
 | f+1,s,.s b,path=>if b=[] then (s,.ok []) else match step s b with
   | (s',.error e)=>(s',.error e)
   | (s',.ok c)=>if Z0R c≠0 then (s',.error 161) else match Z4c c with
     | .ok (.l xs)=>Z2o (ZAt f) s' xs path
     | _=>(s',.error 161)
def way (s:σ) (x:It) (path:By):σ×Except Int By:=ZAt step (path.length+1) s x path
variable {step}
theorem ZBU {go go':σ→It→By→σ×Except Int By} {s:σ} {xs:List It} {path:By} (hg:Z3D (.l xs)) (h:∀(s:σ) (y:It) (q:By),Z3D y→q.length < path.length→go s y q=go' s y q) (hn:∀n∈path,n.toNat < 16):Z2o go s xs path=Z2o go' s xs path:=by
 unfold Z2o
 by_cases h2:xs.length=2
 ·rw [if_pos h2,if_pos h2]
  obtain ⟨p,lf,he,h1,h3⟩:=hg.two h2
  rw [he]
  cases lf with
  | true=>rfl
  | false =>
    obtain ⟨hp,hgy,_⟩:=h3 rfl
    simp only
    by_cases hpre:p.isPrefixOf path=true
    ·rw [if_pos hpre,if_pos hpre]
     have hpl:0 < p.length:=List.length_pos_iff.2 hp
     have hle:p.length≤path.length:=(List.isPrefixOf_iff_prefix.1 hpre).length_le
     exact h s _ _ hgy (by rw [List.length_drop]; omega)
    ·rw [if_neg hpre,if_neg hpre]
 ·rw [if_neg h2,if_neg h2]
  obtain ⟨h17,_,hk⟩:=hg.many h2
  cases path with
  | nil=>rfl
  | cons n r=>exact h s _ _ (hk _ (hn n (by simp))) (by simp)
theorem ZAn:∀(m f f':Nat) (s:σ) (x:It) (path:By),path.length≤m→path.length < f→path.length < f'→Z3D x→(∀n∈path,n.toNat < 16)→ZAt step f s x path=ZAt step f' s x path:=by
 intro m
 induction m with
 | zero =>
   intro f f' s x path hm hf hf' hg hn
   obtain ⟨f,rfl⟩:∃g,f=g+1:=⟨f - 1,by omega⟩
   obtain ⟨f',rfl⟩:∃g,f'=g+1:=⟨f' - 1,by omega⟩
   have key:∀(s:σ) (xs:List It),Z3D (.l xs)→Z2o (ZAt step f) s xs path=Z2o (ZAt step f') s xs path:=fun s xs hg=>ZBU hg (fun s y q _ hq=>absurd hq (by omega)) hn
   cases x with
   | l xs=>exact key s xs hg
   | s b =>
     simp only [ZAt]
     split
     ·rfl
     ·split
      ·rfl
      ·split
       ·rfl
       ·rename_i hc
        obtain ⟨xs,hd,_,hgx⟩:=Z2D (Decidable.not_not.1 hc)
        rw [hd]; exact key _ xs hgx
 | succ m ih =>
   intro f f' s x path hm hf hf' hg hn
   obtain ⟨f,rfl⟩:∃g,f=g+1:=⟨f - 1,by omega⟩
   obtain ⟨f',rfl⟩:∃g,f'=g+1:=⟨f' - 1,by omega⟩
   have key:∀(s:σ) (xs:List It),Z3D (.l xs)→Z2o (ZAt step f) s xs path=Z2o (ZAt step f') s xs path:=by
    intro s xs hg
    have hsub:∀(q:By),q <:+ path→∀n∈q,n.toNat < 16:=fun q hq n hnq=>hn n (hq.subset hnq)
    unfold Z2o
    by_cases h2:xs.length=2
    ·rw [if_pos h2,if_pos h2]
     obtain ⟨p,lf,he,h1,h3⟩:=hg.two h2
     rw [he]
     cases lf with
     | true=>rfl
     | false =>
       obtain ⟨hp,hgy,_⟩:=h3 rfl
       simp only
       by_cases hpre:p.isPrefixOf path=true
       ·rw [if_pos hpre,if_pos hpre]
        have hpl:0 < p.length:=List.length_pos_iff.2 hp
        have hle:p.length≤path.length:=(List.isPrefixOf_iff_prefix.1 hpre).length_le
        have hl:(path.drop p.length).length=path.length - p.length:=List.length_drop
        exact ih f f' s _ _ (by omega) (by omega) (by omega) hgy (hsub _ (List.drop_suffix _ _))
       ·rw [if_neg hpre,if_neg hpre]
    ·rw [if_neg h2,if_neg h2]
     obtain ⟨h17,_,hk⟩:=hg.many h2
     cases path with
     | nil=>rfl
     | cons n r =>
       simp only [List.length_cons] at hm hf hf'
       exact ih f f' s _ _ (by omega) (by omega) (by omega) (hk _ (hn n (by simp))) (fun q hq=>hn q (by simp [hq]))
   cases x with
   | l xs=>exact key s xs hg
   | s b =>
     simp only [ZAt]
     split
     ·rfl
     ·split
      ·rfl
      ·split
       ·rfl
       ·rename_i hc
        obtain ⟨xs,hd,_,hgx⟩:=Z2D (Decidable.not_not.1 hc)
        rw [hd]; exact key _ xs hgx
theorem ZAQ {f:Nat} {s:σ} {xs:List It} {path:By} (hg:Z3D (.l xs)) (hf:path.length≤f) (hn:∀n∈path,n.toNat < 16):Z2o (ZAt step f) s xs path=Z2o (way step) s xs path:=by
 unfold Z2o
 by_cases h2:xs.length=2
 ·rw [if_pos h2,if_pos h2]
  obtain ⟨p,lf,he,h1,h3⟩:=hg.two h2
  rw [he]
  cases lf with
  | true=>rfl
  | false =>
    obtain ⟨hp,hgy,_⟩:=h3 rfl
    simp only
    by_cases hpre:p.isPrefixOf path=true
    ·rw [if_pos hpre,if_pos hpre]
     have hpl:0 < p.length:=List.length_pos_iff.2 hp
     have hle:p.length≤path.length:=(List.isPrefixOf_iff_prefix.1 hpre).length_le
     have hl:(path.drop p.length).length=path.length - p.length:=List.length_drop
     exact ZAn _ _ _ s _ _ (Nat.le_refl _) (by omega) (by omega) hgy (fun n hnq=>hn n ((List.drop_suffix _ _).subset hnq))
    ·rw [if_neg hpre,if_neg hpre]
 ·rw [if_neg h2,if_neg h2]
  obtain ⟨h17,_,hk⟩:=hg.many h2
  cases path with
  | nil=>rfl
  | cons n r =>
    simp only [List.length_cons] at hf
    exact ZAn _ _ _ s _ _ (Nat.le_refl _) (by omega) (by omega) (hk _ (hn n (by simp))) (fun q hq=>hn q (by simp [hq]))
theorem ZHJ (s:σ) (path:By):way step s (.s []) path=(s,.ok []):=by simp only [way,ZAt,if_true]
theorem ZFp {s:σ} {xs:List It} {path:By} (hg:Z3D (.l xs)) (hn:∀n∈path,n.toNat < 16):way step s (.l xs) path=Z2o (way step) s xs path:=ZAQ hg (Nat.le_refl _) hn
theorem ZHI {s s':σ} {b path:By} {e:Int} (hb:b≠[]) (h:step s b=(s',.error e)):way step s (.s b) path=(s',.error e):=by
 simp only [way,ZAt]; rw [if_neg hb,h]
theorem ZFo {s s':σ} {b c path:By} (hb:b≠[]) (h:step s b=(s',.ok c)) (hc:Z0R c≠0):way step s (.s b) path=(s',.error 161):=by
 simp only [way,ZAt]; rw [if_neg hb,h]; simp only; rw [if_pos hc]
theorem ZCs {s s':σ} {b c path:By} {xs:List It} (hb:b≠[]) (h:step s b=(s',.ok c)) (hc:Z0R c=0) (hd:Z4c c=.ok (.l xs)) (hg:Z3D (.l xs)) (hn:∀n∈path,n.toNat < 16):way step s (.s b) path=Z2o (way step) s' xs path:=by
 simp only [way,ZAt]; rw [if_neg hb,h]; simp only; rw [if_neg (by simp [hc]),hd]
 exact ZAQ hg (Nat.le_refl _) hn
theorem ZAR {go:σ→It→By→σ×Except Int By} {s:σ} {xs:List It} {path p:By} (h2:xs.length=2) (he:Z1H (xs.getD 0 (.s []))=some (p,true)):Z2o go s xs path=(s,.ok (if p=path then itB (xs.getD 1 (.s [])) else [])):=by
 unfold Z2o; rw [if_pos h2,he]
theorem ZCX {go:σ→It→By→σ×Except Int By} {s:σ} {xs:List It} {path p:By} (h2:xs.length=2) (he:Z1H (xs.getD 0 (.s []))=some (p,false)):Z2o go s xs path=if p.isPrefixOf path then go s (xs.getD 1 (.s [])) (path.drop p.length) else (s,.ok []):=by
 unfold Z2o; rw [if_pos h2,he]
theorem ZFU {go:σ→It→By→σ×Except Int By} {s:σ} {xs:List It} (h2:xs.length≠2):Z2o go s xs []=(s,.ok (itB (xs.getD 16 (.s [])))):=by
 unfold Z2o; rw [if_neg h2]
theorem ZFV {go:σ→It→By→σ×Except Int By} {s:σ} {xs:List It} {n:UInt8} {r:By} (h2:xs.length≠2):Z2o go s xs (n :: r)=go s (xs.getD n.toNat (.s [])) r:=by
 unfold Z2o; rw [if_neg h2]
end
theorem nib_lt (k:By):∀n∈nibbles k,n.toNat < 16:=by
 intro n hn
 unfold nibbles at hn
 obtain ⟨c,_,hc⟩:=List.mem_flatMap.1 hn
 simp only [List.mem_cons,List.not_mem_nil,or_false] at hc
 have h1:∀n:Fin 256,((UInt8.ofFin n) >>> 4).toNat < 16:=by decide +kernel
 have h2:∀n:Fin 256,((UInt8.ofFin n) &&& 15).toNat < 16:=by decide +kernel
 rcases hc with rfl | rfl
 ·exact h1 c.toFin
 ·exact h2 c.toFin
end Go.Proofs.YtfghidehlnfdiaaGreat
end
section
namespace Go.Vcg
structure ZF6 (C:Car) where
 f:FuncId
 args:List (SV C)
def Z2t (P:Program) (rt:World→Prop) (R:Ending→World→Prop):List (FuncId×Array Value)→FrameMode→World→Prop
 | [],.returning,w=>rt w
 | [],.panicking chain,w=>R (.panicked chain) w
 | [],.run,_=>False
 | (f,args) :: ds,u,w=>u≠.run∧CallsD P f args u w fun
     | .returned _,u',w'=>Z2t P rt R ds (settle u') w'
     | .panicked chain,u',w'=>Z2t P rt R ds (raised u' chain) w'
     | .outgrown,_,w'=>R .outgrown w'

section
variable {C:Car} (A:List (ZF6 C)→(C.W→C.R)→Alg C) (leav:List (ZF6 C)→(C.W→C.R)→C.W→C.R) (P:Program)
def pieces:Code→List Code
 | .seq a b=>pieces a++pieces b
 | c=>[c]
def ZDs:Code→Option (Array Oper×Oper×Call)
 | .region _ ops false=>match ops.back? with
   | some o=>match o.op with
     | .defer c=>if o.guard.isNone && o.dst.isNone then some (ops,o,c) else none
     | _=>none
   | none=>none
 | _=>none
def ZBk (fn:Func):List Tmp:=fn.results.toList.map fun
 | .tmp t=>t
 | .cell a _=>a
def Z7E (fn:Func) (rest:List Code):Bool:=rest.all fun c=>(Zr c).all fun t=> !(ZBk fn).contains t
def endD (fn:Func) (ds:List (ZF6 C)) (rt:C.W→C.R) (env:Env C) (w:C.W):C.R:=match ds with
 | []=>ZH5 (A [] rt) P fn env w
 | ds=>leav ds rt w
def ZDz (ann:List (Nat×List (Tmp×Shape1))) (fn:Func):List Code→List (ZF6 C)→(C.W→C.R)→Env C→C.W→C.R
 | [],ds,rt,env,w=>endD A leav P fn ds rt env w
 | c :: rest,ds,rt,env,w =>
   match ZDs c with
   | some (ops,o,call)=>Z6G (A ds rt) P ops (ops.toList.take (ops.size - 1)) env w fun env w =>
     match call.callee with
     | .value f=>match ev (A ds rt) env f with
       | .func (.func g) first cap=>if Z8N P g && Z7E fn rest then
         ZDz ann fn rest (⟨g,first++call.args.toList.map (ev (A ds rt) env)++cap⟩ :: ds) (match ds with | []=>fun w=>ZH5 (A ds rt) P fn env w | _=>rt) env w
         else (A ds rt).fail "defer"
       | _=>(A ds rt).fail "defer: what function?"
     | _=>(A ds rt).fail "defer"
   | none=>Z8A (A ds rt) P ann c env w { nrm:=fun env w=>ZDz ann fn rest ds rt env w,exit:=fun _ _ _=>(A ds rt).fail "exit",ret:=fun env w=>endD A leav P fn ds rt env w }
def ZA6 (ann:List (Nat×List (Tmp×Shape1))) (fn:Func) (args:List (SV C)) (fl:C.R) (w:C.W):C.R :=
 match fn.body with
 | none=>fl
 | some c=>if args.length≤fn.ntmps∧Z1Y fn.ntmps c=true then ZDz A leav P ann fn (pieces c) [] (fun _=>fl) (Z1l 0 args) w else fl
end

def dsV (ds:List (ZF6 pC)):List (FuncId×Array Value):=ds.map fun d=>(d.f,(toVs d.args).toArray)
def finD (P:Program) (R:Ending→World→Prop) (ds:List (ZF6 pC)) (rt:World→Prop) (e:Ending) (w:World):Prop:=match ds with
 | []=>R e w
 | d :: ds=>match e with
   | .panicked ch=>Z2t P rt R (dsV (d :: ds)) (.panicking ch) w
   | e=>R e w
def aD (P:Program) (R:Ending→World→Prop) (ds:List (ZF6 pC)) (rt:World→Prop):Alg pC:=pA P ⟨finD P R ds rt,true⟩
def ZD9 (P:Program) (R:Ending→World→Prop) (ds:List (ZF6 pC)) (rt:World→Prop) (w:World):Prop:=Z2t P rt R (dsV ds) .returning w

section
variable {P:Program} {R:Ending→World→Prop}
def Z1n (P:Program):List Code→(Exit→Act→World→Prop)→Act→World→Prop
 | [],Q,a,w=>Q .normal a w
 | c :: cs,Q,a,w=>c.wp P (Exit.then (Z1n P cs Q) Q) a w
theorem Z5x {Q Q':Exit→Act→World→Prop} (hq:∀e a w,Q e a w→Q' e a w):∀(cs:List Code) (a:Act) (w:World),Z1n P cs Q a w→Z1n P cs Q' a w
 | [],a,w,h=>hq _ _ _ h
 | c :: cs,a,w,h=>Code.wp_mono (fun e a w q=>by cases e <;> first | exact Z5x hq cs _ _ q | exact hq _ _ _ q) h
theorem Z4Z:∀(xs ys:List Code) (Q:Exit→Act→World→Prop) (a:Act) (w:World),Z1n P (xs++ys) Q a w→Z1n P xs (Exit.then (Z1n P ys Q) Q) a w
 | [],ys,Q,a,w,h=>h
 | x :: xs,ys,Q,a,w,h=>Code.wp_mono (fun e a w q=>by cases e <;> first | exact Z4Z xs ys Q a w q | exact q) h
theorem ZF2:∀(c:Code) (Q:Exit→Act→World→Prop) (a:Act) (w:World),Z1n P (pieces c) Q a w→c.wp P Q a w:=by
 intro c
 induction c with
 | seq x y ihx ihy =>
   intro Q a w h
   unfold pieces at h
   refine wp_seq (ihx _ _ _ (Z5x (fun e a w q=>?_) _ _ _ (Z4Z _ _ _ _ _ h)))
   cases e <;> first | exact ihy _ _ _ q | exact q
 | _ =>
   intro Q a w h
   refine Code.wp_mono (fun e a w q=>?_) h
   cases e <;> exact q

theorem Z8j {fn:Func} {t t':Array Value} (h:∀s∈ZBk fn,t.getD s undef=t'.getD s undef):results fn t=results fn t':=by
 unfold results
 have:∀(l:List ResultVar),(∀s∈(l.map fun | ResultVar.tmp t=>t | .cell a _=>a),t.getD s undef=t'.getD s undef) →
   (l.mapM fun r=>(match r with
     | .tmp s=>pure (t.getD s undef)
     | .cell a ty=>do loadVar ty (← asAddr (t.getD a undef)):Sem Value))=l.mapM fun r=>(match r with
     | .tmp s=>pure (t'.getD s undef)
     | .cell a ty=>do loadVar ty (← asAddr (t'.getD a undef)):Sem Value):=by
  intro l
  induction l with
  | nil=>intro _; rfl
  | cons r l ih =>
    intro h
    rw [List.mapM_cons,List.mapM_cons,ih (fun s hs=>h s (by simp [hs]))]
    cases r with
    | tmp s=>simp only [h s (by simp)]
    | cell a ty=>simp only [h a (by simp)]
 have h1:=this fn.results.toList h
 rw [Array.mapM_eq_mapM_toList,Array.mapM_eq_mapM_toList]
 erw [h1]
 rfl

theorem ZHK {o:Oper} {a:Act} {w:World} {K:Act→World→Prop} {Q Q':Exit→Act→World→Prop} (h:o.wp P a w K Q) (hp:∀ch a w,Q (.panic ch) a w→Q' (.panic ch) a w) (ho:LetsOut Q→LetsOut Q'):o.wp P a w K Q':=by
 unfold Oper.wp at *
 generalize (execOp a.eval o).run P w=r at *
 cases r with
 | ok n w' =>
   cases n <;> simp only [Oper.upon] at h ⊢ <;>
    first
     | exact h
     | exact Calls.mono h (fun e w'' he=>by cases e <;> first | exact he | exact hp _ _ _ he | exact ho he)
 | halt x w'=>cases x <;> simp only [Oper.upon] at h ⊢ <;> first | exact hp _ _ _ h | exact h
theorem Z42 {ops:Array Oper} {Q:Exit→Act→World→Prop}:∀(xs ys:List Oper) (a:Act) (w:World),wpList P ops (Exit.then (wpList P ops Q ys) Q) xs a w→wpList P ops Q (xs++ys) a w
 | [],ys,a,w,h=>h
 | x :: xs,ys,a,w,h=>by
   rw [List.cons_append]
   unfold wpList at h ⊢
   split
   ·rename_i hw
    rw [if_pos hw] at h
    rcases h with h | ⟨h1,h2⟩
    ·exact .inl (ZHK (Oper.wp_mono (fun a w=>Z42 xs ys a w) h) (fun _ _ _ h=>h) (fun ⟨a,w,h⟩=>⟨a,w,h⟩))
    ·exact .inr ⟨h1,by obtain ⟨a,w,h⟩:=h2; exact ⟨a,w,h⟩⟩
   ·rename_i hw
    rw [if_neg hw] at h
    exact Z42 xs ys _ w h
def Z9b (P:Program):List (FuncId×Array Value)→List Deferred→Prop
 | [],[]=>True
 | (f,args) :: ds,d :: dd=>(∃fv cap,d.target=.fn fv cap∧∀w,(invoke d.target d.args).run P w=.ok (.enter f args) w)∧Z9b P ds dd
 | _,_=>False
theorem Z31 {fn:Func} {tmps:Array Value} {rt:World→Prop} (hrt:∀w,rt w→∃v,(results fn tmps).run P w=.ok v w∧R (.returned v) w):∀(ds:List (FuncId×Array Value)) (dd:List Deferred) (u:FrameMode) (w:World),Z9b P ds dd →
  Z2t P rt R ds u w→Leaves P fn tmps R dd u w
 | [],[],u,w,_,h=>by
   cases u with
   | run=>exact h
   | returning=>exact hrt w h
   | panicking ch=>exact h
 | (f,args) :: ds,[],_,_,h,_=>h.elim
 | [],d :: dd,_,_,h,_=>h.elim
 | (f,args) :: ds,d :: dd,u,w,hd,h=>by
   obtain ⟨⟨fv,cap,h1,h2⟩,h3⟩:=hd
   obtain ⟨hu,hc⟩:=h
   refine ⟨hu,fv,cap,f,args,h1,h2 w,hc.mono fun e u' w' he=>?_⟩
   cases e with
   | returned v=>exact Z31 hrt ds dd _ _ h3 he
   | panicked ch=>exact Z31 hrt ds dd _ _ h3 he
   | outgrown=>exact he

theorem ZET {n:Nat}:∀(c:Code),Z1Y n c=true→∀p∈pieces c,Z1Y n p=true:=by
 intro c
 induction c with
 | seq x y ihx ihy =>
   intro h p hp
   simp only [Z1Y,Bool.and_eq_true] at h
   simp only [pieces,List.mem_append] at hp
   rcases hp with hp | hp
   ·exact ihx h.1 p hp
   ·exact ihy h.2 p hp
 | _=>intro h p hp; simp only [pieces,List.mem_singleton] at hp; subst hp; exact h

def RtOK (P:Program) (R:Ending→World→Prop) (fn:Func) (rt:World→Prop) (a:Act):Prop:=∀w,rt w→∃v,(results fn a.tmps).run P w=.ok v w∧R (.returned v) w

theorem ZBH {ann:List (Nat×List (Tmp×Shape1))} (hm:P.follows .mixedOrders=true) {fn:Func} {n:Nat}:∀(cs:List Code) (ds:List (ZF6 pC)) (rt:World→Prop) (env:Env pC) (a:Act) (w:World),
  Rep env a→a.tmps.size=n→(∀c∈cs,Z1Y n c=true)→Z9b P (dsV ds) a.defers→(ds≠[]→RtOK P R fn rt a∧Z7E fn cs=true) →
  ZDz (aD P R) (ZD9 P R) P ann fn cs ds rt env w→Z1n P cs (bodyPostD P fn R) a w:=by
 have endS:∀(ds:List (ZF6 pC)) (rt:World→Prop) (env:Env pC) (a:Act) (w:World),Rep env a→Z9b P (dsV ds) a.defers→(ds≠[]→RtOK P R fn rt a)→endD (aD P R) (ZD9 P R) P fn ds rt env w→Leaves P fn a.tmps R a.defers .returning w:=by
  intro ds rt env a w hrep hdd hrt h
  cases ds with
  | nil =>
    have h:ZH5 (pA P ⟨R,true⟩) P fn env w:=h
    have he:a.defers=[]:=by
     cases hq:a.defers with
     | nil=>rfl
     | cons d dd=>rw [hq] at hdd; exact hdd.elim
    rw [he]
    exact Z4h hrep h
  | cons d ds=>exact Z31 (hrt (by simp)) _ _ _ _ hdd h
 intro cs
 induction cs with
 | nil=>intro ds rt env a w hrep hn hs hdd hrt h; exact endS ds rt env a w hrep hdd (fun hne=>(hrt hne).1) h
 | cons c rest ih =>
   intro ds rt env a w hrep hn hs hdd hrt h
   unfold ZDz at h
   have hrest:∀c∈rest,Z1Y n c=true:=fun c hc=>hs c (by simp [hc])
   have hclr:Z7E fn (c :: rest)=true→Z7E fn rest=true∧∀t∈ZBk fn,t ∉ Zr c:=by
    intro hc
    simp only [Z7E,List.all_cons,Bool.and_eq_true] at hc
    refine ⟨hc.2,fun t ht hw=>?_⟩
    have:=List.all_eq_true.1 hc.1 t hw
    simp only [List.contains_eq_mem,decide_eq_true ht,Bool.not_true] at this
    cases this
   have keepRt:∀(a':Act),(∀t,t ∉ Zr c→a'.tmps.getD t undef=a.tmps.getD t undef)→ds≠[]→RtOK P R fn rt a':=by
    intro a' hk hne w' hw
    obtain ⟨h1,h2⟩:=hrt hne
    have he:results fn a'.tmps=results fn a.tmps:=Z8j fun s hsl=>hk s ((hclr h2).2 s hsl)
    rw [he]
    exact h1 w' hw
   split at h
   ·rename_i ops o call hdf
    have hc:∃id,c=.region id ops false∧ops.back?=some o∧o.op=.defer call∧o.guard=none∧o.dst=none:=by
     unfold ZDs at hdf
     split at hdf
     ·rename_i id ops'
      split at hdf
      ·rename_i o' ho
       split at hdf
       ·rename_i c' hop
        split at hdf
        ·rename_i hg
         simp only [Bool.and_eq_true,Option.isNone_iff_eq_none] at hg
         cases hdf
         exact ⟨id,rfl,ho,hop,hg.1,hg.2⟩
        ·cases hdf
       ·cases hdf
      ·cases hdf
     ·cases hdf
    obtain ⟨id,rfl,hback,hop,hguard,hdst⟩:=hc
    have hsc:=hs (.region id ops false) (by simp)
    have hd:∀o∈ops.toList,ZDt n o:=by
     intro o ho d hdst
     have:=Array.all_eq_true_iff_forall_mem.1 hsc o (Array.mem_toList_iff.1 ho)
     simp only [hdst,decide_eq_true_eq] at this
     exact this
    have hW':∀o∈ops.toList,∀d,o.dst=some d→d∈Zr (.region id ops false):=by
     intro o ho d hdst
     simp only [Zr,List.mem_filterMap]
     exact ⟨o,ho,hdst⟩
    have hsplit:ops.toList=ops.toList.take (ops.size - 1)++[o]:=by
     have hl:ops.toList.length=ops.size:=Array.length_toList
     have hb:ops.toList.getLast?=some o:=by rw [Array.getLast?_toList]; exact hback
     obtain ⟨ys,hys⟩:=List.getLast?_eq_some_iff.1 hb
     have h1:ops.size - 1=ys.length:=by rw [← hl,hys]; simp
     rw [h1,hys,List.take_left]
    refine wp_region_list ?_
    rw [hsplit]
    refine Z42 _ _ _ _ (Z2p (W:=Zr (.region id ops false)) _ env a w _ hrep hn (fun o ho=>hd o (List.mem_of_mem_take ho)) (fun o ho=>hW' o (List.mem_of_mem_take ho)) h ?_ ?_)
    ·-- a panic ahead of it
     intro ch a' w' hd' hk hf
     show Leaves P fn a'.tmps R a'.defers (.panicking ch) w'
     rw [hd']
     cases ds with
     | nil =>
       have he:a.defers=[]:=by
        cases hq:a.defers with
        | nil=>rfl
        | cons d dd=>rw [hq] at hdd; exact hdd.elim
       rw [he]; exact hf
     | cons d ds=>exact Z31 (keepRt a' hk (by simp)) _ _ _ _ hdd hf
    ·intro env' a' w' hrep' hn' hd' hk h
     show wpList P ops (Exit.then (Z1n P rest (bodyPostD P fn R)) (bodyPostD P fn R)) [o] a' w'
     split at h
     case h_2=>exact h.elim
     rename_i f hcal
     split at h
     case h_2=>exact h.elim
     rename_i g first cap hev
     split at h
     case isFalse=>exact h.elim
     rename_i hg
     simp only [Bool.and_eq_true] at hg
     have hev':a'.eval f=.func (.func g) (toVs first).toArray (toVs cap).toArray:=by rw [hrep'.eval f]; erw [hev]; rfl
     have hargs:call.args.map a'.eval=(toVs (call.args.toList.map (ev (aD P R ds rt) env'))).toArray:=by
      rw [Z1i,List.map_map]
      apply Array.ext'
      simp only [Array.toList_map]
      exact List.map_congr_left fun x _=>hrep'.eval x
     have hex:(execOp a'.eval o).run P w'=.ok (.defer { target:=.fn (.func g) (toVs cap).toArray,args:=(toVs first).toArray++call.args.map a'.eval }) w':=by
      simp [execOp,hop,resolve,hcal,Deferred.ofValue,hev']
     unfold wpList
     have hwant:Region.wanted o (yielded ops a'.tmps)=true:=by simp [Region.wanted,hguard]
     rw [if_pos hwant]
     refine .inl ?_
     unfold Oper.wp
     rw [hex]
     rw [Oper.upon_defer]
     unfold wpList
     show Z1n P rest (bodyPostD P fn R) _ w'
     rw [hdst]
     refine ih (⟨g,first++call.args.toList.map (ev (aD P R ds rt) env')++cap⟩ :: ds) _ env' _ w' hrep' hn' hrest (And.intro ⟨.func g,(toVs cap).toArray,rfl,fun w''=>?_⟩ ?_) (fun _=>⟨?_,hg.2⟩) h
     ·show (callFunc g _).run P w''=_
      rw [Z2d hg.1]
      congr 2
      rw [hargs]
      apply Array.ext'
      simp [Z1i]
     ·show Z9b P (dsV ds) a'.defers
      rw [hd']; exact hdd
     ·intro w'' hw''
      cases ds with
      | nil=>exact Z4h (R:=⟨R,true⟩) hrep' hw''
      | cons d ds=>exact keepRt a' hk (by simp) w'' hw''
   ·refine Code.wp_mono (Q:=fun e a' w'=>Exit.then (Z1n P rest (bodyPostD P fn R)) (bodyPostD P fn R) e a' w'∧(∀ch,e=.panic ch→ds=[]→a'.defers=[])) (fun e a' w' hq=>hq.1) ?_
    have hnil:ds=[]→a.defers=[]:=by
     rintro rfl
     cases hq:a.defers with
     | nil=>rfl
     | cons d dd=>rw [hq] at hdd; exact hdd.elim
    refine Z67 (R:=⟨finD P R ds rt,true⟩) hm c (Zr c) env a w _ _ hrep hn (hs c (by simp)) (fun t ht=>ht) ?_ ?_ h ?_
    ·intro ch a1 a2 w' hd' hk ⟨h1,h2⟩
     refine ⟨?_,fun ch' _ hne=>by rw [← hd']; exact h2 ch rfl hne⟩
     have h1:Leaves P fn a1.tmps R a1.defers (.panicking ch) w':=h1
     show Leaves P fn a2.tmps R a2.defers (.panicking ch) w'
     rw [← hd']
     by_cases hne:ds=[]
     ·rw [h2 ch rfl hne] at h1 ⊢; exact h1
     ·have he:results fn a1.tmps=results fn a2.tmps:=Z8j fun s hsl=>hk s ((hclr (hrt hne).2).2 s hsl)
      have cong:∀(dd:List Deferred) (u:FrameMode) (w:World),Leaves P fn a1.tmps R dd u w→Leaves P fn a2.tmps R dd u w:=by
       intro dd
       induction dd with
       | nil =>
         intro u w hl
         cases u with
         | run=>exact hl
         | returning=>obtain ⟨v,hv⟩:=hl; exact ⟨v,by rw [← he]; exact hv⟩
         | panicking ch=>exact hl
       | cons d dd ihd =>
         intro u w ⟨g1,fv,cap,f,args,g2,g3,g4⟩
         refine ⟨g1,fv,cap,f,args,g2,g3,g4.mono fun e u' w' hh=>?_⟩
         cases e with
         | returned v=>exact ihd _ _ hh
         | panicked ch=>exact ihd _ _ hh
         | outgrown=>exact hh
      exact cong _ _ _ h1
    ·intro ch a' w' hd' hk hf
     refine ⟨?_,fun ch' _ hne=>by rw [hd']; exact hnil hne⟩
     show Leaves P fn a'.tmps R a'.defers (.panicking ch) w'
     rw [hd']
     cases ds with
     | nil=>rw [hnil rfl]; exact hf
     | cons d ds=>exact Z31 (keepRt a' hk (by simp)) _ _ _ _ hdd hf
    ·exact {
      nrm:=fun env' a' w' h1 h2 h3 h4 h5=>by
       refine ⟨?_,fun ch he=>by cases he⟩
       show Z1n P rest (bodyPostD P fn R) a' w'
       exact ih ds rt env' a' w' h1 h2 hrest (by rw [h3]; exact hdd) (fun hne=>⟨keepRt a' h4 hne,(hclr (hrt hne).2).1⟩) h5
      exit:=fun i env' a' w' h1 h2 h3 h4 h5=>h5.elim
      ret:=fun env' a' w' h1 h2 h3 h4 h5=>by
       refine ⟨?_,fun ch he=>by cases he⟩
       show Leaves P fn a'.tmps R a'.defers .returning w'
       exact endS ds rt env' a' w' h1 (by rw [h3]; exact hdd) (fun hne=>keepRt a' h4 hne) h5 }
theorem Z4G {ann:List (Nat×List (Tmp×Shape1))} {f:FuncId} {fn:Func} {args:List (SV pC)} {w:World} (hf:P.funcs[f]?=some fn) (hm:P.follows .mixedOrders=true)
  (h:ZA6 (aD P R) (ZD9 P R) P ann fn args False w):Calls P f (toVs args).toArray w R:=by
 unfold ZA6 at h
 split at h
 ·exact h.elim
 ·rename_i c hb
  split at h
  ·rename_i hc
   refine calls_of_wp_defers hf hb (ZF2 _ _ _ _ ?_)
   have hrep:Rep (Z1l 0 args) ({ tmps:=(toVs args).toArray++Array.replicate (fn.ntmps - (toVs args).toArray.size) undef,defers:=[] }:Act):=Z6V
   exact ZBH hm (pieces c) [] _ _ _ w hrep (by simp [Z02]; omega) (ZET c hc.2) trivial (fun h=>(h rfl).elim) h
  ·exact h.elim
theorem Z4H {ann:List (Nat×List (Tmp×Shape1))} {f:FuncId} {fn:Func} {args:List (SV pC)} {u:FrameMode} {w:World} (hf:P.funcs[f]?=some fn) (hm:P.follows .mixedOrders=true)
  (h:ZP (pA P ⟨R,false⟩) P ann fn args w):CallsD P f (toVs args).toArray u w fun e u' w'=>u'=u∧R e w':=by
 obtain ⟨c,hb,hw⟩:=ZC8 hm h
 exact callsD_of_wp hf hb hw
end
end Go.Vcg
end
section
namespace Go.Proofs.YtfghidehlnfdiaaGreat
open Go Go.Vcg
abbrev Z1X.n:Nat:=29
def Z1X.Vc (o0:Option Addr) (l0 c0:Nat) (b1:Bool) (w:World) (R:Ending→World→Prop):Prop :=
 ∀d2 w3,ZC w 69 #[(.map none),(.bool false)] d2 w3 →
 (((((l0:Nat):Int) > 4096 →
 Z1 w3 d2 (.map none)∧∀w4,ZA w3 d2 (.map none) w4 →
 Z1 w4 (Addr.add d2 1) (.bool false)∧∀w5,ZA w4 (Addr.add d2 1) (.bool false) w5 →
 ∃m6:Option Nat,∃b7,World.cell? w5 d2=some (.map m6) ∧
 World.cell? w5 (Addr.add d2 1)=some (.bool b7) ∧
 R (.returned (.tuple #[(.agg #[(.map m6),(.bool b7)]),(.int .i64 162)])) w5)) ∧
 ((¬((l0:Nat):Int) > 4096 →
 ∃v8 w9,Sem.run Tryz.prog (Instr.makeMap 67 none) w3=.ok v8 w9 ∧
 ∃m10:Option Nat,v8=(.map m10) ∧
 ∀d11 w12,ZC w9 69 #[(.map none),(.bool false)] d11 w12 →
 Z1 w12 d11 (.map m10)∧∀w13,ZA w12 d11 (.map m10) w13 →
 Z1 w13 (Addr.add d11 1) (.bool b1)∧∀w14,ZA w13 (Addr.add d11 1) (.bool b1) w14 →
 ∃(I15:Int→World→Prop) (μ15:Int→World→Nat),I15 0 w14 ∧
 (∀(n16:Int) (j17:Nat→Value) (w17:World),I15 n16 w17 →
 (((n16 < ((l0:Nat):Int) →
 ∃d18,o0=some d18 ∧
 ((0:Int)≤n16∧n16 < ((l0:Nat):Int)) ∧
 ∃L19,ZJ w17 (Addr.add d18 ((Int.toNat n16) * 33)) 33 L19 ∧
 ∀d20 w21,ZC w17 48 #[(.int .u8 0),(.int .u8 0),(.int .u8 0),(.int .u8 0),(.int .u8 0),(.int .u8 0),(.int .u8 0),(.int .u8 0),(.int .u8 0),(.int .u8 0),(.int .u8 0),(.int .u8 0),(.int .u8 0),(.int .u8 0),(.int .u8 0),(.int .u8 0),(.int .u8 0),(.int .u8 0),(.int .u8 0),(.int .u8 0),(.int .u8 0),(.int .u8 0),(.int .u8 0),(.int .u8 0),(.int .u8 0),(.int .u8 0),(.int .u8 0),(.int .u8 0),(.int .u8 0),(.int .u8 0),(.int .u8 0),(.int .u8 0),(.slice none 0 0)] d20 w21 →
 ∃w22,Sem.run Tryz.prog (Instr.storeAt 48 (.pointer (some d20)) (.agg L19)) w21=.ok () w22 ∧
 ∃m23:Option Nat,World.cell? w22 d11=some (.map m23) ∧
 ∃L24,ZJ w22 d20 32 L24 ∧
 ∃v25,Sem.run Tryz.prog (Instr.lookup 67 (.map m23) (.agg L24) true) w22=.ok v25 w22 ∧
 ∃o26 l27 l28 b29,v25=(.tuple #[(.slice o26 l27 l28),(.bool b29)]) ∧
 (((b29=false →
 ∃m30:Option Nat,World.cell? w22 d11=some (.map m30) ∧
 ∃L31,ZJ w22 d20 32 L31 ∧
 ∃o32 l33 l34,World.cell? w22 (Addr.add d20 32)=some (.slice o32 l33 l34) ∧
 ∃w35,Sem.run Tryz.prog (Instr.mapUpdate 67 (.map m30) (.agg L31) (.slice o32 l33 l34)) w22=.ok () w35 ∧
 I15 (IntKind.wrap .i64 (n16+1)) w35∧μ15 (IntKind.wrap .i64 (n16+1)) w35 < μ15 n16 w17)) ∧
 ((b29=true →
 I15 (IntKind.wrap .i64 (n16+1)) w22∧μ15 (IntKind.wrap .i64 (n16+1)) w22 < μ15 n16 w17))))) ∧
 ((¬n16 < ((l0:Nat):Int) →
 ∃m36:Option Nat,∃b37,World.cell? w17 d11=some (.map m36) ∧
 World.cell? w17 (Addr.add d11 1)=some (.bool b37) ∧
 Z1 w17 d2 (.map m36)∧∀w38,ZA w17 d2 (.map m36) w38 →
 Z1 w38 (Addr.add d2 1) (.bool b37)∧∀w39,ZA w38 (Addr.add d2 1) (.bool b37) w39 →
 ∃m40:Option Nat,∃b41,World.cell? w39 d2=some (.map m40) ∧
 World.cell? w39 (Addr.add d2 1)=some (.bool b41) ∧
 R (.returned (.tuple #[(.agg #[(.map m40),(.bool b41)]),(.int .i64 0)])) w39)))))))
theorem Z1X.vc (o0:Option Addr) (l0:Nat) (c0:Nat) (b1:Bool) (w:World) (R:Ending→World→Prop) (h:Z1X.Vc o0 l0 c0 b1 w R):Calls Tryz.prog 29 #[(.slice o0 l0 c0),(.bool b1)] w R :=
 Z8 (R:=⟨R,false⟩) (ann:=[(5,[(20,.cell (.int .i64))])]) (args:=[.slice o0 l0 c0,.bool (.var b1)]) Tryz.func29 ZR (Eq.mp (by kernel_rfl:Z1X.Vc o0 l0 c0 b1 w R=ZP (pA Tryz.prog ⟨R,false⟩) Tryz.prog [(5,[(20,.cell (.int .i64))])] Tryz.f29 [.slice o0 l0 c0,.bool (.var b1)] w) h)

abbrev Z00.n:Nat:=37
def Z00.Vc (m0:Option Nat) (b1:Bool) (L2:Array Value) (w:World) (R:Ending→World→Prop):Prop :=
 ∀d3 w4,ZC w 69 #[(.map m0),(.bool b1)] d3 w4 →
 ∀d5 w6,ZC w4 27 L2 d5 w6 →
 ∃m7:Option Nat,World.cell? w6 d3=some (.map m7) ∧
 ∃L8,ZJ w6 d5 32 L8 ∧
 ∃v9,Sem.run Tryz.prog (Instr.lookup 67 (.map m7) (.agg L8) true) w6=.ok v9 w6 ∧
 ∃o10 l11 l12 b13,v9=(.tuple #[(.slice o10 l11 l12),(.bool b13)]) ∧
 (((b13=false →
 Calls Tryz.prog 45 #[(.int .i64 160)] w6 (fun e14 w15 =>
 ((∃ch,e14=.panicked ch∧R (.panicked ch) w15) ∨
 e14=.returned (.tuple #[]) ∧
 R (.returned (.slice o10 l11 l12)) w15)))) ∧
 ((b13=true →
 ∀w16,ZN w6 w16 →
 ∃b17,World.cell? w16 (Addr.add d3 1)=some (.bool b17) ∧
 (((b17=true →
 ∃L18,ZJ w16 d5 32 L18 ∧
 ∀d19 w20,ZC w16 23 #[(.slice o10 l11 l12)] d19 w20 →
 ZJ w20 d5 32 L18 ∧
 Calls Tryz.prog 53 #[(.slice (some d19) 1 1)] w20 (fun e21 w22 =>
 ((∃ch,e21=.panicked ch∧R (.panicked ch) w22) ∨
 ∃L23,e21=.returned (.agg L23) ∧
 ZJ w22 d5 32 L18 ∧
 ∃v24,Sem.run Tryz.prog (Z0q .neq 27 (.tmp 24) (.tmp 25) (.agg L23) (.agg L18)) w22=.ok v24 w22 ∧
 ∃b25,v24=(.bool b25) ∧
 (((b25=true →
 Calls Tryz.prog 45 #[(.int .i64 161)] w22 (fun e26 w27 =>
 ((∃ch,e26=.panicked ch∧R (.panicked ch) w27) ∨
 e26=.returned (.tuple #[]) ∧
 R (.returned (.slice o10 l11 l12)) w27)))) ∧
 ((b25=false →
 R (.returned (.slice o10 l11 l12)) w22))))))) ∧
 ((b17=false →
 R (.returned (.slice o10 l11 l12)) w16))))))
theorem Z00.vc (m0:Option Nat) (b1:Bool) (L2:Array Value) (w:World) (R:Ending→World→Prop) (h:Z00.Vc m0 b1 L2 w R):Calls Tryz.prog 37 #[(.agg #[(.map m0),(.bool b1)]),(.agg L2)] w R :=
 Z8 (R:=⟨R,true⟩) (ann:=[]) (args:=[.agg [.map m0,.bool (.var b1)],.big 32 L2]) Tryz.func37 ZR (Eq.mp (by kernel_rfl:Z00.Vc m0 b1 L2 w R=ZP (pA Tryz.prog ⟨R,true⟩) Tryz.prog [] Tryz.f37 [.agg [.map m0,.bool (.var b1)],.big 32 L2] w) h)

abbrev Z1V.n:Nat:=39
def Z1V.Vc (L0:Array Value) (w:World) (R:Ending→World→Prop):Prop :=
 ∀d1 w2,ZC w 27 L0 d1 w2 →
 ∀d3 w4,ZC w2 82 #[(.int .u8 0),(.int .u8 0),(.int .u8 0),(.int .u8 0),(.int .u8 0),(.int .u8 0),(.int .u8 0),(.int .u8 0),(.int .u8 0),(.int .u8 0),(.int .u8 0),(.int .u8 0),(.int .u8 0),(.int .u8 0),(.int .u8 0),(.int .u8 0),(.int .u8 0),(.int .u8 0),(.int .u8 0),(.int .u8 0),(.int .u8 0),(.int .u8 0),(.int .u8 0),(.int .u8 0),(.int .u8 0),(.int .u8 0),(.int .u8 0),(.int .u8 0),(.int .u8 0),(.int .u8 0),(.int .u8 0),(.int .u8 0),(.pointer none),(.bool false)] d3 w4 →
 ∀w5,ZN w4 w5 →
 ∃L6,ZJ w5 d1 32 L6 ∧
 ∃L7,ZJ w5 d1 32 L7 ∧
 Calls Tryz.prog 68 #[] w5 (fun e8 w9 =>
 ∃L10,e8=.returned (.agg L10) ∧
 ZJ w9 d1 32 L7 ∧
 ZJ w9 d1 32 L6 ∧
 ∃v11,Sem.run Tryz.prog (Z0q .neq 27 (.tmp 4) (.tmp 5) (.agg L7) (.agg L10)) w9=.ok v11 w9 ∧
 ∃b12,v11=(.bool b12) ∧
 Array.size L6=32 ∧
 ∃w13,Sem.run Tryz.prog (Instr.storeAt 82 (.pointer (some d3)) (.agg (setsAt (lputL #[(.int .u8 0),(.int .u8 0),(.int .u8 0),(.int .u8 0),(.int .u8 0),(.int .u8 0),(.int .u8 0),(.int .u8 0),(.int .u8 0),(.int .u8 0),(.int .u8 0),(.int .u8 0),(.int .u8 0),(.int .u8 0),(.int .u8 0),(.int .u8 0),(.int .u8 0),(.int .u8 0),(.int .u8 0),(.int .u8 0),(.int .u8 0),(.int .u8 0),(.int .u8 0),(.int .u8 0),(.int .u8 0),(.int .u8 0),(.int .u8 0),(.int .u8 0),(.int .u8 0),(.int .u8 0),(.int .u8 0),(.int .u8 0),(.pointer none),(.bool false)] 0 32 L6) 33 [(.bool b12)]))) w9=.ok () w13 ∧
 ∃L14,ZJ w13 d3 34 L14 ∧
 R (.returned (.agg L14)) w13)
theorem Z1V.vc (L0:Array Value) (w:World) (R:Ending→World→Prop) (h:Z1V.Vc L0 w R):Calls Tryz.prog 39 #[(.agg L0)] w R :=
 Z8 (R:=⟨R,false⟩) (ann:=[]) (args:=[.big 32 L0]) Tryz.func39 ZR (Eq.mp (by kernel_rfl:Z1V.Vc L0 w R=ZP (pA Tryz.prog ⟨R,false⟩) Tryz.prog [] Tryz.f39 [.big 32 L0] w) h)

abbrev Z1T.n:Nat:=65
def Z1T.Vc (b0:Bool) (o1:Option Addr) (l1 c1:Nat) (o2:Option Addr) (l2 c2:Nat) (w:World) (R:Ending→World→Prop):Prop :=
 ∀d3 w4,ZC w 111 #[(.bool b0),(.slice o1 l1 c1),(.slice o2 l2 c2)] d3 w4 →
 ∀d5 w6,ZC w4 86 #[(.bool false),(.slice none 0 0),(.slice none 0 0),(.slice none 0 0)] d5 w6 →
 ∃o7 l8 l9,World.cell? w6 (Addr.add d3 2)=some (.slice o7 l8 l9) ∧
 (((((l8:Nat):Int)=2 →
 ∃o10 l11 l12,World.cell? w6 (Addr.add d3 2)=some (.slice o10 l11 l12) ∧
 ∃d13,o10=some d13 ∧
 ((0:Int)≤0∧0 < ((l11:Nat):Int)) ∧
 ∃o14 l15 l16,World.cell? w6 (Addr.add (Addr.add d13 0) 1)=some (.slice o14 l15 l16) ∧
 Calls Tryz.prog 99 #[(.slice o14 l15 l16)] w6 (fun e17 w18 =>
 ∃o19 l20 l21 b22 n23,e17=.returned (.tuple #[(.slice o19 l20 l21),(.bool b22),(.int .i64 n23)]) ∧
 (((b22=true →
 ∃o24 l25 l26,World.cell? w18 (Addr.add d3 2)=some (.slice o24 l25 l26) ∧
 ∃d27,o24=some d27 ∧
 ((0:Int)≤1∧1 < ((l25:Nat):Int)) ∧
 ∃o28 l29 l30,World.cell? w18 (Addr.add (Addr.add d27 3) 1)=some (.slice o28 l29 l30) ∧
 Z1 w18 d5 (.bool true)∧∀w31,ZA w18 d5 (.bool true) w31 →
 Z1 w31 (Addr.add d5 1) (.slice o19 l20 l21)∧∀w32,ZA w31 (Addr.add d5 1) (.slice o19 l20 l21) w32 →
 Z1 w32 (Addr.add d5 2) (.slice none 0 0)∧∀w33,ZA w32 (Addr.add d5 2) (.slice none 0 0) w33 →
 Z1 w33 (Addr.add d5 3) (.slice o28 l29 l30)∧∀w34,ZA w33 (Addr.add d5 3) (.slice o28 l29 l30) w34 →
 ∃b35 o36 l37 l38 o39 l40 l41 o42 l43 l44,World.cell? w34 d5=some (.bool b35) ∧
 World.cell? w34 (Addr.add d5 1)=some (.slice o36 l37 l38) ∧
 World.cell? w34 (Addr.add d5 2)=some (.slice o39 l40 l41) ∧
 World.cell? w34 (Addr.add d5 3)=some (.slice o42 l43 l44) ∧
 R (.returned (.agg #[(.bool b35),(.slice o36 l37 l38),(.slice o39 l40 l41),(.slice o42 l43 l44)])) w34)) ∧
 ((b22=false →
 ∃o45 l46 l47,World.cell? w18 (Addr.add d3 2)=some (.slice o45 l46 l47) ∧
 ∃d48,o45=some d48 ∧
 ((0:Int)≤1∧1 < ((l46:Nat):Int)) ∧
 ∃b49 o50 l51 l52 o53 l54 l55,World.cell? w18 (Addr.add d48 3)=some (.bool b49) ∧
 World.cell? w18 (Addr.add (Addr.add d48 3) 1)=some (.slice o50 l51 l52) ∧
 World.cell? w18 (Addr.add (Addr.add d48 3) 2)=some (.slice o53 l54 l55) ∧
 Calls Tryz.prog 100 #[(.agg #[(.bool b49),(.slice o50 l51 l52),(.slice o53 l54 l55)])] w18 (fun e56 w57 =>
 ∃L58,e56=.returned (.agg L58) ∧
 Array.size L58=34 ∧
 ∀d59 w60,ZC w57 82 (lputL #[(.int .u8 0),(.int .u8 0),(.int .u8 0),(.int .u8 0),(.int .u8 0),(.int .u8 0),(.int .u8 0),(.int .u8 0),(.int .u8 0),(.int .u8 0),(.int .u8 0),(.int .u8 0),(.int .u8 0),(.int .u8 0),(.int .u8 0),(.int .u8 0),(.int .u8 0),(.int .u8 0),(.int .u8 0),(.int .u8 0),(.int .u8 0),(.int .u8 0),(.int .u8 0),(.int .u8 0),(.int .u8 0),(.int .u8 0),(.int .u8 0),(.int .u8 0),(.int .u8 0),(.int .u8 0),(.int .u8 0),(.int .u8 0),(.pointer none),(.bool false)] 0 34 L58) d59 w60 →
 Z1 w60 d5 (.bool false)∧∀w61,ZA w60 d5 (.bool false) w61 →
 Z1 w61 (Addr.add d5 1) (.slice o19 l20 l21)∧∀w62,ZA w61 (Addr.add d5 1) (.slice o19 l20 l21) w62 →
 Z1 w62 (Addr.add d5 2) (.slice (some d59) 1 1)∧∀w63,ZA w62 (Addr.add d5 2) (.slice (some d59) 1 1) w63 →
 Z1 w63 (Addr.add d5 3) (.slice none 0 0)∧∀w64,ZA w63 (Addr.add d5 3) (.slice none 0 0) w64 →
 ∃b65 o66 l67 l68 o69 l70 l71 o72 l73 l74,World.cell? w64 d5=some (.bool b65) ∧
 World.cell? w64 (Addr.add d5 1)=some (.slice o66 l67 l68) ∧
 World.cell? w64 (Addr.add d5 2)=some (.slice o69 l70 l71) ∧
 World.cell? w64 (Addr.add d5 3)=some (.slice o72 l73 l74) ∧
 R (.returned (.agg #[(.bool b65),(.slice o66 l67 l68),(.slice o69 l70 l71),(.slice o72 l73 l74)])) w64))))))) ∧
 ((((l8:Nat):Int)≠2 →
 ∃o75 l76 l77,World.cell? w6 (Addr.add d3 2)=some (.slice o75 l76 l77) ∧
 ∃d78,o75=some d78 ∧
 ((0:Int)≤16∧16 < ((l76:Nat):Int)) ∧
 ∃o79 l80 l81,World.cell? w6 (Addr.add (Addr.add d78 48) 1)=some (.slice o79 l80 l81) ∧
 ∀d82 w83,ZC w6 86 #[(.bool false),(.slice none 0 0),(.slice none 0 0),(.slice none 0 0)] d82 w83 →
 Z1 w83 d82 (.bool false)∧∀w84,ZA w83 d82 (.bool false) w84 →
 Z1 w84 (Addr.add d82 1) (.slice none 0 0)∧∀w85,ZA w84 (Addr.add d82 1) (.slice none 0 0) w85 →
 Z1 w85 (Addr.add d82 2) (.slice none 0 0)∧∀w86,ZA w85 (Addr.add d82 2) (.slice none 0 0) w86 →
 Z1 w86 (Addr.add d82 3) (.slice o79 l80 l81)∧∀w87,ZA w86 (Addr.add d82 3) (.slice o79 l80 l81) w87 →
 ∃o88 l89 l90,World.cell? w87 (Addr.add d3 2)=some (.slice o88 l89 l90) ∧
 16≤l90 ∧
 ∃(I91:Int→World→Prop) (μ91:Int→World→Nat),I91 0 w87 ∧
 (∀(n92:Int) (j93:Nat→Value) (w93:World),I91 n92 w93 →
 (((n92 < ((16:Nat):Int) →
 ∃d94,o88=some d94 ∧
 ((0:Int)≤n92∧n92 < ((16:Nat):Int)) ∧
 ∃b95 o96 l97 l98 o99 l100 l101,World.cell? w93 (Addr.add d94 ((Int.toNat n92) * 3))=some (.bool b95) ∧
 World.cell? w93 (Addr.add (Addr.add d94 ((Int.toNat n92) * 3)) 1)=some (.slice o96 l97 l98) ∧
 World.cell? w93 (Addr.add (Addr.add d94 ((Int.toNat n92) * 3)) 2)=some (.slice o99 l100 l101) ∧
 ∀d102 w103,ZC w93 111 #[(.bool false),(.slice none 0 0),(.slice none 0 0)] d102 w103 →
 Z1 w103 d102 (.bool b95)∧∀w104,ZA w103 d102 (.bool b95) w104 →
 Z1 w104 (Addr.add d102 1) (.slice o96 l97 l98)∧∀w105,ZA w104 (Addr.add d102 1) (.slice o96 l97 l98) w105 →
 Z1 w105 (Addr.add d102 2) (.slice o99 l100 l101)∧∀w106,ZA w105 (Addr.add d102 2) (.slice o99 l100 l101) w106 →
 ∀w107,ZN w106 w107 →
 ∃o108 l109 l110,World.cell? w107 (Addr.add d82 2)=some (.slice o108 l109 l110) ∧
 ∃b111 o112 l113 l114 o115 l116 l117,World.cell? w107 d102=some (.bool b111) ∧
 World.cell? w107 (Addr.add d102 1)=some (.slice o112 l113 l114) ∧
 World.cell? w107 (Addr.add d102 2)=some (.slice o115 l116 l117) ∧
 Calls Tryz.prog 100 #[(.agg #[(.bool b111),(.slice o112 l113 l114),(.slice o115 l116 l117)])] w107 (fun e118 w119 =>
 ∃L120,e118=.returned (.agg L120) ∧
 World.cell? w119 (Addr.add d82 2)=some (.slice o108 l109 l110) ∧
 Array.size L120=34 ∧
 ∀d121 w122,ZC w119 82 (lputL #[(.int .u8 0),(.int .u8 0),(.int .u8 0),(.int .u8 0),(.int .u8 0),(.int .u8 0),(.int .u8 0),(.int .u8 0),(.int .u8 0),(.int .u8 0),(.int .u8 0),(.int .u8 0),(.int .u8 0),(.int .u8 0),(.int .u8 0),(.int .u8 0),(.int .u8 0),(.int .u8 0),(.int .u8 0),(.int .u8 0),(.int .u8 0),(.int .u8 0),(.int .u8 0),(.int .u8 0),(.int .u8 0),(.int .u8 0),(.int .u8 0),(.int .u8 0),(.int .u8 0),(.int .u8 0),(.int .u8 0),(.int .u8 0),(.pointer none),(.bool false)] 0 34 L120) d121 w122 →
 World.cell? w122 (Addr.add d82 2)=some (.slice o108 l109 l110) ∧
 ∃v123 w124,Sem.run Tryz.prog (builtinV .append #[84,84] 84 #[(.slice o108 l109 l110),(.slice (some d121) 1 1)]) w122=.ok v123 w124 ∧
 ∃o125 l126 l127,v123=(.slice o125 l126 l127) ∧
 Z1 w124 (Addr.add d82 2) (.slice o125 l126 l127)∧∀w128,ZA w124 (Addr.add d82 2) (.slice o125 l126 l127) w128 →
 I91 (IntKind.wrap .i64 (n92+1)) w128∧μ91 (IntKind.wrap .i64 (n92+1)) w128 < μ91 n92 w93))) ∧
 ((¬n92 < ((16:Nat):Int) →
 ∃b129 o130 l131 l132 o133 l134 l135 o136 l137 l138,World.cell? w93 d82=some (.bool b129) ∧
 World.cell? w93 (Addr.add d82 1)=some (.slice o130 l131 l132) ∧
 World.cell? w93 (Addr.add d82 2)=some (.slice o133 l134 l135) ∧
 World.cell? w93 (Addr.add d82 3)=some (.slice o136 l137 l138) ∧
 Z1 w93 d5 (.bool b129)∧∀w139,ZA w93 d5 (.bool b129) w139 →
 Z1 w139 (Addr.add d5 1) (.slice o130 l131 l132)∧∀w140,ZA w139 (Addr.add d5 1) (.slice o130 l131 l132) w140 →
 Z1 w140 (Addr.add d5 2) (.slice o133 l134 l135)∧∀w141,ZA w140 (Addr.add d5 2) (.slice o133 l134 l135) w141 →
 Z1 w141 (Addr.add d5 3) (.slice o136 l137 l138)∧∀w142,ZA w141 (Addr.add d5 3) (.slice o136 l137 l138) w142 →
 ∃b143 o144 l145 l146 o147 l148 l149 o150 l151 l152,World.cell? w142 d5=some (.bool b143) ∧
 World.cell? w142 (Addr.add d5 1)=some (.slice o144 l145 l146) ∧
 World.cell? w142 (Addr.add d5 2)=some (.slice o147 l148 l149) ∧
 World.cell? w142 (Addr.add d5 3)=some (.slice o150 l151 l152) ∧
 R (.returned (.agg #[(.bool b143),(.slice o144 l145 l146),(.slice o147 l148 l149),(.slice o150 l151 l152)])) w142)))))))
theorem Z1T.vc (b0:Bool) (o1:Option Addr) (l1:Nat) (c1:Nat) (o2:Option Addr) (l2:Nat) (c2:Nat) (w:World) (R:Ending→World→Prop) (h:Z1T.Vc b0 o1 l1 c1 o2 l2 c2 w R):Calls Tryz.prog 65 #[(.agg #[(.bool b0),(.slice o1 l1 c1),(.slice o2 l2 c2)])] w R :=
 Z8 (R:=⟨R,false⟩) (ann:=[(8,[(49,.cell (.int .i64))])]) (args:=[.agg [.bool (.var b0),.slice o1 l1 c1,.slice o2 l2 c2]]) Tryz.func65 ZR (Eq.mp (by kernel_rfl:Z1T.Vc b0 o1 l1 c1 o2 l2 c2 w R=ZP (pA Tryz.prog ⟨R,false⟩) Tryz.prog [(8,[(49,.cell (.int .i64))])] Tryz.f65 [.agg [.bool (.var b0),.slice o1 l1 c1,.slice o2 l2 c2]] w) h)

abbrev Z1U.n:Nat:=66
def Z1U.Vc (o0:Option Addr) (l0 c0:Nat) (w:World) (R:Ending→World→Prop):Prop :=
 ∀d1 w2,ZC w 86 #[(.bool false),(.slice none 0 0),(.slice none 0 0),(.slice none 0 0)] d1 w2 →
 Calls Tryz.prog 101 #[(.slice o0 l0 c0)] w2 (fun e3 w4 =>
 ∃n5,e3=.returned (.int .i64 n5) ∧
 (((n5≠0 →
 Z1 w4 d1 (.bool false)∧∀w6,ZA w4 d1 (.bool false) w6 →
 Z1 w6 (Addr.add d1 1) (.slice none 0 0)∧∀w7,ZA w6 (Addr.add d1 1) (.slice none 0 0) w7 →
 Z1 w7 (Addr.add d1 2) (.slice none 0 0)∧∀w8,ZA w7 (Addr.add d1 2) (.slice none 0 0) w8 →
 Z1 w8 (Addr.add d1 3) (.slice none 0 0)∧∀w9,ZA w8 (Addr.add d1 3) (.slice none 0 0) w9 →
 ∃b10 o11 l12 l13 o14 l15 l16 o17 l18 l19,World.cell? w9 d1=some (.bool b10) ∧
 World.cell? w9 (Addr.add d1 1)=some (.slice o11 l12 l13) ∧
 World.cell? w9 (Addr.add d1 2)=some (.slice o14 l15 l16) ∧
 World.cell? w9 (Addr.add d1 3)=some (.slice o17 l18 l19) ∧
 R (.returned (.tuple #[(.agg #[(.bool b10),(.slice o11 l12 l13),(.slice o14 l15 l16),(.slice o17 l18 l19)]),(.int .i64 161)])) w9)) ∧
 ((n5=0 →
 Calls Tryz.prog 102 #[(.slice o0 l0 c0)] w4 (fun e20 w21 =>
 ∃b22 o23 l24 l25 o26 l27 l28 n29,e20=.returned (.tuple #[(.agg #[(.bool b22),(.slice o23 l24 l25),(.slice o26 l27 l28)]),(.int .i64 n29)]) ∧
 ∀d30 w31,ZC w21 111 #[(.bool false),(.slice none 0 0),(.slice none 0 0)] d30 w31 →
 Z1 w31 d30 (.bool b22)∧∀w32,ZA w31 d30 (.bool b22) w32 →
 Z1 w32 (Addr.add d30 1) (.slice o23 l24 l25)∧∀w33,ZA w32 (Addr.add d30 1) (.slice o23 l24 l25) w33 →
 Z1 w33 (Addr.add d30 2) (.slice o26 l27 l28)∧∀w34,ZA w33 (Addr.add d30 2) (.slice o26 l27 l28) w34 →
 ∃b35 o36 l37 l38 o39 l40 l41,World.cell? w34 d30=some (.bool b35) ∧
 World.cell? w34 (Addr.add d30 1)=some (.slice o36 l37 l38) ∧
 World.cell? w34 (Addr.add d30 2)=some (.slice o39 l40 l41) ∧
 Calls Tryz.prog 65 #[(.agg #[(.bool b35),(.slice o36 l37 l38),(.slice o39 l40 l41)])] w34 (fun e42 w43 =>
 ∃b44 o45 l46 l47 o48 l49 l50 o51 l52 l53,e42=.returned (.agg #[(.bool b44),(.slice o45 l46 l47),(.slice o48 l49 l50),(.slice o51 l52 l53)]) ∧
 Z1 w43 d1 (.bool b44)∧∀w54,ZA w43 d1 (.bool b44) w54 →
 Z1 w54 (Addr.add d1 1) (.slice o45 l46 l47)∧∀w55,ZA w54 (Addr.add d1 1) (.slice o45 l46 l47) w55 →
 Z1 w55 (Addr.add d1 2) (.slice o48 l49 l50)∧∀w56,ZA w55 (Addr.add d1 2) (.slice o48 l49 l50) w56 →
 Z1 w56 (Addr.add d1 3) (.slice o51 l52 l53)∧∀w57,ZA w56 (Addr.add d1 3) (.slice o51 l52 l53) w57 →
 ∃b58 o59 l60 l61 o62 l63 l64 o65 l66 l67,World.cell? w57 d1=some (.bool b58) ∧
 World.cell? w57 (Addr.add d1 1)=some (.slice o59 l60 l61) ∧
 World.cell? w57 (Addr.add d1 2)=some (.slice o62 l63 l64) ∧
 World.cell? w57 (Addr.add d1 3)=some (.slice o65 l66 l67) ∧
 R (.returned (.tuple #[(.agg #[(.bool b58),(.slice o59 l60 l61),(.slice o62 l63 l64),(.slice o65 l66 l67)]),(.int .i64 0)])) w57))))))
theorem Z1U.vc (o0:Option Addr) (l0:Nat) (c0:Nat) (w:World) (R:Ending→World→Prop) (h:Z1U.Vc o0 l0 c0 w R):Calls Tryz.prog 66 #[(.slice o0 l0 c0)] w R :=
 Z8 (R:=⟨R,false⟩) (ann:=[]) (args:=[.slice o0 l0 c0]) Tryz.func66 ZR (Eq.mp (by kernel_rfl:Z1U.Vc o0 l0 c0 w R=ZP (pA Tryz.prog ⟨R,false⟩) Tryz.prog [] Tryz.f66 [.slice o0 l0 c0] w) h)

abbrev Z1D.n:Nat:=83
def Z1D.Vc (o0:Option Addr) (l0 c0:Nat) (b1:Bool) (w:World) (R:Ending→World→Prop):Prop :=
 (((b1=false →
 R (.returned (.tuple #[(.slice none 0 0),(.bool false)])) w)) ∧
 ((b1=true →
 Calls Tryz.prog 36 #[(.slice o0 l0 c0)] w (fun e2 w3 =>
 ∃o4 l5 l6,e2=.returned (.slice o4 l5 l6) ∧
 R (.returned (.tuple #[(.slice o4 l5 l6),(.bool true)])) w3))))
theorem Z1D.vc (o0:Option Addr) (l0:Nat) (c0:Nat) (b1:Bool) (w:World) (R:Ending→World→Prop) (h:Z1D.Vc o0 l0 c0 b1 w R):Calls Tryz.prog 83 #[(.slice o0 l0 c0),(.bool b1)] w R :=
 Z8 (R:=⟨R,false⟩) (ann:=[]) (args:=[.slice o0 l0 c0,.bool (.var b1)]) Tryz.func83 ZR (Eq.mp (by kernel_rfl:Z1D.Vc o0 l0 c0 b1 w R=ZP (pA Tryz.prog ⟨R,false⟩) Tryz.prog [] Tryz.f83 [.slice o0 l0 c0,.bool (.var b1)] w) h)

abbrev Zz.n:Nat:=67
def Zz.Vc (b0:Bool) (o1:Option Addr) (l1 c1:Nat) (o2:Option Addr) (l2 c2:Nat) (o3:Option Addr) (l3 c3:Nat) (w:World) (R:Ending→World→Prop):Prop :=
 ∀d4 w5,ZC w 86 #[(.bool b0),(.slice o1 l1 c1),(.slice o2 l2 c2),(.slice o3 l3 c3)] d4 w5 →
 ∃o6 l7 l8,World.cell? w5 (Addr.add d4 2)=some (.slice o6 l7 l8) ∧
 R (.returned (.bool (decide (((l7:Nat):Int)=16)))) w5
theorem Zz.vc (b0:Bool) (o1:Option Addr) (l1:Nat) (c1:Nat) (o2:Option Addr) (l2:Nat) (c2:Nat) (o3:Option Addr) (l3:Nat) (c3:Nat) (w:World) (R:Ending→World→Prop) (h:Zz.Vc b0 o1 l1 c1 o2 l2 c2 o3 l3 c3 w R):Calls Tryz.prog 67 #[(.agg #[(.bool b0),(.slice o1 l1 c1),(.slice o2 l2 c2),(.slice o3 l3 c3)])] w R :=
 Z8 (R:=⟨R,false⟩) (ann:=[]) (args:=[.agg [.bool (.var b0),.slice o1 l1 c1,.slice o2 l2 c2,.slice o3 l3 c3]]) Tryz.func67 ZR (Eq.mp (by kernel_rfl:Zz.Vc b0 o1 l1 c1 o2 l2 c2 o3 l3 c3 w R=ZP (pA Tryz.prog ⟨R,false⟩) Tryz.prog [] Tryz.f67 [.agg [.bool (.var b0),.slice o1 l1 c1,.slice o2 l2 c2,.slice o3 l3 c3]] w) h)

abbrev Z1v.n:Nat:=100
def Z1v.Vc (b0:Bool) (o1:Option Addr) (l1 c1:Nat) (o2:Option Addr) (l2 c2:Nat) (w:World) (R:Ending→World→Prop):Prop :=
 ∀d3 w4,ZC w 111 #[(.bool b0),(.slice o1 l1 c1),(.slice o2 l2 c2)] d3 w4 →
 ∀d5 w6,ZC w4 82 #[(.int .u8 0),(.int .u8 0),(.int .u8 0),(.int .u8 0),(.int .u8 0),(.int .u8 0),(.int .u8 0),(.int .u8 0),(.int .u8 0),(.int .u8 0),(.int .u8 0),(.int .u8 0),(.int .u8 0),(.int .u8 0),(.int .u8 0),(.int .u8 0),(.int .u8 0),(.int .u8 0),(.int .u8 0),(.int .u8 0),(.int .u8 0),(.int .u8 0),(.int .u8 0),(.int .u8 0),(.int .u8 0),(.int .u8 0),(.int .u8 0),(.int .u8 0),(.int .u8 0),(.int .u8 0),(.int .u8 0),(.int .u8 0),(.pointer none),(.bool false)] d5 w6 →
 ∃b7,World.cell? w6 d3=some (.bool b7) ∧
 (((b7=true →
 ∃w8,Sem.run Tryz.prog (Instr.storeAt 82 (.pointer (some d5)) (.agg (setsAt (setsAt #[(.int .u8 0),(.int .u8 0),(.int .u8 0),(.int .u8 0),(.int .u8 0),(.int .u8 0),(.int .u8 0),(.int .u8 0),(.int .u8 0),(.int .u8 0),(.int .u8 0),(.int .u8 0),(.int .u8 0),(.int .u8 0),(.int .u8 0),(.int .u8 0),(.int .u8 0),(.int .u8 0),(.int .u8 0),(.int .u8 0),(.int .u8 0),(.int .u8 0),(.int .u8 0),(.int .u8 0),(.int .u8 0),(.int .u8 0),(.int .u8 0),(.int .u8 0),(.int .u8 0),(.int .u8 0),(.int .u8 0),(.int .u8 0),(.pointer none),(.bool false)] 32 [(.pointer (some d3))]) 33 [(.bool true)]))) w6=.ok () w8 ∧
 ∃L9,ZJ w8 d5 34 L9 ∧
 R (.returned (.agg L9)) w8)) ∧
 ((b7=false →
 ∃o10 l11 l12,World.cell? w6 (Addr.add d3 1)=some (.slice o10 l11 l12) ∧
 (((((l11:Nat):Int)=0 →
 ∃w13,Sem.run Tryz.prog (Instr.storeAt 82 (.pointer (some d5)) (.agg #[(.int .u8 0),(.int .u8 0),(.int .u8 0),(.int .u8 0),(.int .u8 0),(.int .u8 0),(.int .u8 0),(.int .u8 0),(.int .u8 0),(.int .u8 0),(.int .u8 0),(.int .u8 0),(.int .u8 0),(.int .u8 0),(.int .u8 0),(.int .u8 0),(.int .u8 0),(.int .u8 0),(.int .u8 0),(.int .u8 0),(.int .u8 0),(.int .u8 0),(.int .u8 0),(.int .u8 0),(.int .u8 0),(.int .u8 0),(.int .u8 0),(.int .u8 0),(.int .u8 0),(.int .u8 0),(.int .u8 0),(.int .u8 0),(.pointer none),(.bool false)])) w6=.ok () w13 ∧
 ∃L14,ZJ w13 d5 34 L14 ∧
 R (.returned (.agg L14)) w13)) ∧
 ((((l11:Nat):Int)≠0 →
 ∃o15 l16 l17,World.cell? w6 (Addr.add d3 1)=some (.slice o15 l16 l17) ∧
 32≤l16 ∧
 ∃d18,o15=some d18 ∧
 ∃L19,ZJ w6 d18 32 L19 ∧
 Array.size L19=32 ∧
 ∃w20,Sem.run Tryz.prog (Instr.storeAt 82 (.pointer (some d5)) (.agg (setsAt (lputL #[(.int .u8 0),(.int .u8 0),(.int .u8 0),(.int .u8 0),(.int .u8 0),(.int .u8 0),(.int .u8 0),(.int .u8 0),(.int .u8 0),(.int .u8 0),(.int .u8 0),(.int .u8 0),(.int .u8 0),(.int .u8 0),(.int .u8 0),(.int .u8 0),(.int .u8 0),(.int .u8 0),(.int .u8 0),(.int .u8 0),(.int .u8 0),(.int .u8 0),(.int .u8 0),(.int .u8 0),(.int .u8 0),(.int .u8 0),(.int .u8 0),(.int .u8 0),(.int .u8 0),(.int .u8 0),(.int .u8 0),(.int .u8 0),(.pointer none),(.bool false)] 0 32 L19) 33 [(.bool true)]))) w6=.ok () w20 ∧
 ∃L21,ZJ w20 d5 34 L21 ∧
 R (.returned (.agg L21)) w20))))))
theorem Z1v.vc (b0:Bool) (o1:Option Addr) (l1:Nat) (c1:Nat) (o2:Option Addr) (l2:Nat) (c2:Nat) (w:World) (R:Ending→World→Prop) (h:Z1v.Vc b0 o1 l1 c1 o2 l2 c2 w R):Calls Tryz.prog 100 #[(.agg #[(.bool b0),(.slice o1 l1 c1),(.slice o2 l2 c2)])] w R :=
 Z8 (R:=⟨R,false⟩) (ann:=[]) (args:=[.agg [.bool (.var b0),.slice o1 l1 c1,.slice o2 l2 c2]]) Tryz.func100 ZR (Eq.mp (by kernel_rfl:Z1v.Vc b0 o1 l1 c1 o2 l2 c2 w R=ZP (pA Tryz.prog ⟨R,false⟩) Tryz.prog [] Tryz.f100 [.agg [.bool (.var b0),.slice o1 l1 c1,.slice o2 l2 c2]] w) h)

abbrev Z35.n:Nat:=49
def Z35.Vc (L0:Array Value) (o1:Option Addr) (l1 c1:Nat) (v2:Value) (w:World) (R:Ending→World→Prop):Prop :=
 ∀d3 w4,ZC w 27 L0 d3 w4 →
 Calls Tryz.prog 43 #[(.slice o1 l1 c1)] w4 (fun e5 w6 =>
 ((∃ch,e5=.panicked ch∧R (.panicked ch) w6) ∨
 ∃o7 l8 l9,e5=.returned (.slice o7 l8 l9) ∧
 ∃L10,ZJ w6 d3 32 L10 ∧
 Calls Tryz.prog 39 #[(.agg L10)] w6 (fun e11 w12 =>
 ((∃ch,e11=.panicked ch∧R (.panicked ch) w12) ∨
 ∃L13,e11=.returned (.agg L13) ∧
 ∀d14 w15,ZC w12 82 #[(.int .u8 0),(.int .u8 0),(.int .u8 0),(.int .u8 0),(.int .u8 0),(.int .u8 0),(.int .u8 0),(.int .u8 0),(.int .u8 0),(.int .u8 0),(.int .u8 0),(.int .u8 0),(.int .u8 0),(.int .u8 0),(.int .u8 0),(.int .u8 0),(.int .u8 0),(.int .u8 0),(.int .u8 0),(.int .u8 0),(.int .u8 0),(.int .u8 0),(.int .u8 0),(.int .u8 0),(.int .u8 0),(.int .u8 0),(.int .u8 0),(.int .u8 0),(.int .u8 0),(.int .u8 0),(.int .u8 0),(.int .u8 0),(.pointer none),(.bool false)] d14 w15 →
 ∃w16,Sem.run Tryz.prog (Instr.storeAt 82 (.pointer (some d14)) (.agg L13)) w15=.ok () w16 ∧
 ∃(I17:Option Addr→Nat→Nat→Addr→World→Prop) (μ17:Option Addr→Nat→Nat→Addr→World→Nat),I17 o7 l8 l9 d14 w16 ∧
 (∀(o18:Option Addr) (l18:Nat) (c18:Nat) (d19:Addr) (j20:Nat→Value) (w20:World),I17 o18 l18 c18 d19 w20 →
 ∃b21,World.cell? w20 (Addr.add d19 33)=some (.bool b21) ∧
 (((b21=true →
 ∀d22 w23,ZC w20 86 #[(.bool false),(.slice none 0 0),(.slice none 0 0),(.slice none 0 0)] d22 w23 →
 ∃(J24:World→Prop),(∃o25,World.cell? w23 (Addr.add d19 32)=some (.pointer o25) ∧
 (((o25≠none →
 ∃o26,World.cell? w23 (Addr.add d19 32)=some (.pointer o26) ∧
 ∃d27,o26=some d27 ∧
 ∃b28 o29 l30 l31 o32 l33 l34,World.cell? w23 d27=some (.bool b28) ∧
 World.cell? w23 (Addr.add d27 1)=some (.slice o29 l30 l31) ∧
 World.cell? w23 (Addr.add d27 2)=some (.slice o32 l33 l34) ∧
 Calls Tryz.prog 65 #[(.agg #[(.bool b28),(.slice o29 l30 l31),(.slice o32 l33 l34)])] w23 (fun e35 w36 =>
 ((∃ch,e35=.panicked ch∧R (.panicked ch) w36) ∨
 ∃b37 o38 l39 l40 o41 l42 l43 o44 l45 l46,e35=.returned (.agg #[(.bool b37),(.slice o38 l39 l40),(.slice o41 l42 l43),(.slice o44 l45 l46)]) ∧
 Z1 w36 d22 (.bool b37)∧∀w47,ZA w36 d22 (.bool b37) w47 →
 Z1 w47 (Addr.add d22 1) (.slice o38 l39 l40)∧∀w48,ZA w47 (Addr.add d22 1) (.slice o38 l39 l40) w48 →
 Z1 w48 (Addr.add d22 2) (.slice o41 l42 l43)∧∀w49,ZA w48 (Addr.add d22 2) (.slice o41 l42 l43) w49 →
 Z1 w49 (Addr.add d22 3) (.slice o44 l45 l46)∧∀w50,ZA w49 (Addr.add d22 3) (.slice o44 l45 l46) w50 →
 J24  w50)))) ∧
 ((o25=none →
 ∃L51,ZJ w23 d19 32 L51 ∧
 Z3S Tryz.prog v2 #[(.agg L51)] w23 (fun e52 w53 =>
 ((∃ch,e52=.panicked ch∧R (.panicked ch) w53) ∨
 ∃o54 l55 l56,e52=.returned (.slice o54 l55 l56) ∧
 Calls Tryz.prog 66 #[(.slice o54 l55 l56)] w53 (fun e57 w58 =>
 ((∃ch,e57=.panicked ch∧R (.panicked ch) w58) ∨
 ∃b59 o60 l61 l62 o63 l64 l65 o66 l67 l68 n69,e57=.returned (.tuple #[(.agg #[(.bool b59),(.slice o60 l61 l62),(.slice o63 l64 l65),(.slice o66 l67 l68)]),(.int .i64 n69)]) ∧
 Z1 w58 d22 (.bool b59)∧∀w70,ZA w58 d22 (.bool b59) w70 →
 Z1 w70 (Addr.add d22 1) (.slice o60 l61 l62)∧∀w71,ZA w70 (Addr.add d22 1) (.slice o60 l61 l62) w71 →
 Z1 w71 (Addr.add d22 2) (.slice o63 l64 l65)∧∀w72,ZA w71 (Addr.add d22 2) (.slice o63 l64 l65) w72 →
 Z1 w72 (Addr.add d22 3) (.slice o66 l67 l68)∧∀w73,ZA w72 (Addr.add d22 3) (.slice o66 l67 l68) w73 →
 Calls Tryz.prog 45 #[(.int .i64 n69)] w73 (fun e74 w75 =>
 ((∃ch,e74=.panicked ch∧R (.panicked ch) w75) ∨
 e74=.returned (.tuple #[]) ∧
 J24  w75)))))))))) ∧
 (∀  (j76:Nat→Value) (w76:World),J24  w76 →
 ∃b77,World.cell? w76 d22=some (.bool b77) ∧
 (((b77=true →
 ∃o78 l79 l80,World.cell? w76 (Addr.add d22 1)=some (.slice o78 l79 l80) ∧
 Calls Tryz.prog 82 #[(.slice o78 l79 l80),(.slice o18 l18 c18)] w76 (fun e81 w82 =>
 ((∃ch,e81=.panicked ch∧R (.panicked ch) w82) ∨
 ∃b83,e81=.returned (.bool b83) ∧
 ∃o84 l85 l86,World.cell? w82 (Addr.add d22 3)=some (.slice o84 l85 l86) ∧
 Calls Tryz.prog 83 #[(.slice o84 l85 l86),(.bool b83)] w82 (fun e87 w88 =>
 ((∃ch,e87=.panicked ch∧R (.panicked ch) w88) ∨
 ∃o89 l90 l91 b92,e87=.returned (.tuple #[(.slice o89 l90 l91),(.bool b92)]) ∧
 R (.returned (.tuple #[(.slice o89 l90 l91),(.bool b92)])) w88)))))) ∧
 ((b77=false →
 ∃b93 o94 l95 l96 o97 l98 l99 o100 l101 l102,World.cell? w76 d22=some (.bool b93) ∧
 World.cell? w76 (Addr.add d22 1)=some (.slice o94 l95 l96) ∧
 World.cell? w76 (Addr.add d22 2)=some (.slice o97 l98 l99) ∧
 World.cell? w76 (Addr.add d22 3)=some (.slice o100 l101 l102) ∧
 Calls Tryz.prog 67 #[(.agg #[(.bool b93),(.slice o94 l95 l96),(.slice o97 l98 l99),(.slice o100 l101 l102)])] w76 (fun e103 w104 =>
 ((∃ch,e103=.panicked ch∧R (.panicked ch) w104) ∨
 ∃b105,e103=.returned (.bool b105) ∧
 (((b105=false →
 ∃o106 l107 l108,World.cell? w104 (Addr.add d22 1)=some (.slice o106 l107 l108) ∧
 Calls Tryz.prog 84 #[(.slice o18 l18 c18),(.slice o106 l107 l108)] w104 (fun e109 w110 =>
 ((∃ch,e109=.panicked ch∧R (.panicked ch) w110) ∨
 ∃o111 l112 l113 b114,e109=.returned (.tuple #[(.slice o111 l112 l113),(.bool b114)]) ∧
 (((b114=false →
 R (.returned (.tuple #[(.slice none 0 0),(.bool false)])) w110)) ∧
 ((b114=true →
 ∃o115 l116 l117,World.cell? w110 (Addr.add d22 2)=some (.slice o115 l116 l117) ∧
 ∃d118,o115=some d118 ∧
 ((0:Int)≤0∧0 < ((l116:Nat):Int)) ∧
 ∃L119,ZJ w110 (Addr.add d118 0) 34 L119 ∧
 ∃w120,Sem.run Tryz.prog (Instr.storeAt 82 (.pointer (some d19)) (.agg L119)) w110=.ok () w120 ∧
 ∃L121,ZJ w120 d19 34 L121 ∧
 ∀d122 w123,ZC w120 82 #[(.int .u8 0),(.int .u8 0),(.int .u8 0),(.int .u8 0),(.int .u8 0),(.int .u8 0),(.int .u8 0),(.int .u8 0),(.int .u8 0),(.int .u8 0),(.int .u8 0),(.int .u8 0),(.int .u8 0),(.int .u8 0),(.int .u8 0),(.int .u8 0),(.int .u8 0),(.int .u8 0),(.int .u8 0),(.int .u8 0),(.int .u8 0),(.int .u8 0),(.int .u8 0),(.int .u8 0),(.int .u8 0),(.int .u8 0),(.int .u8 0),(.int .u8 0),(.int .u8 0),(.int .u8 0),(.int .u8 0),(.int .u8 0),(.pointer none),(.bool false)] d122 w123 →
 ∃w124,Sem.run Tryz.prog (Instr.storeAt 82 (.pointer (some d122)) (.agg L121)) w123=.ok () w124 ∧
 I17 o111 l112 l113 d122 w124∧μ17 o111 l112 l113 d122 w124 < μ17 o18 l18 c18 d19 w20))))))) ∧
 ((b105=true →
 (((((l18:Nat):Int)=0 →
 ∃o125 l126 l127,World.cell? w104 (Addr.add d22 3)=some (.slice o125 l126 l127) ∧
 ∃o128 l129 l130,World.cell? w104 (Addr.add d22 3)=some (.slice o128 l129 l130) ∧
 Calls Tryz.prog 83 #[(.slice o125 l126 l127),(.bool (decide (((l129:Nat):Int) > 0)))] w104 (fun e131 w132 =>
 ((∃ch,e131=.panicked ch∧R (.panicked ch) w132) ∨
 ∃o133 l134 l135 b136,e131=.returned (.tuple #[(.slice o133 l134 l135),(.bool b136)]) ∧
 R (.returned (.tuple #[(.slice o133 l134 l135),(.bool b136)])) w132)))) ∧
 ((((l18:Nat):Int)≠0 →
 ∀w137,ZN w104 w137 →
 ∃o138 l139 l140,World.cell? w137 (Addr.add d22 2)=some (.slice o138 l139 l140) ∧
 ∃d141,o18=some d141 ∧
 ((0:Int)≤0∧0 < ((l18:Nat):Int)) ∧
 ∃n142,World.cell? w137 (Addr.add d141 0)=some (.int .u8 n142) ∧
 ∃d143,o138=some d143 ∧
 ((0:Int)≤n142∧n142 < ((l139:Nat):Int)) ∧
 ∃L144,ZJ w137 (Addr.add d143 ((Int.toNat n142) * 34)) 34 L144 ∧
 1≤l18 ∧
 ∃w145,Sem.run Tryz.prog (Instr.storeAt 82 (.pointer (some d19)) (.agg L144)) w137=.ok () w145 ∧
 ∃L146,ZJ w145 d19 34 L146 ∧
 ∀d147 w148,ZC w145 82 #[(.int .u8 0),(.int .u8 0),(.int .u8 0),(.int .u8 0),(.int .u8 0),(.int .u8 0),(.int .u8 0),(.int .u8 0),(.int .u8 0),(.int .u8 0),(.int .u8 0),(.int .u8 0),(.int .u8 0),(.int .u8 0),(.int .u8 0),(.int .u8 0),(.int .u8 0),(.int .u8 0),(.int .u8 0),(.int .u8 0),(.int .u8 0),(.int .u8 0),(.int .u8 0),(.int .u8 0),(.int .u8 0),(.int .u8 0),(.int .u8 0),(.int .u8 0),(.int .u8 0),(.int .u8 0),(.int .u8 0),(.int .u8 0),(.pointer none),(.bool false)] d147 w148 →
 ∃w149,Sem.run Tryz.prog (Instr.storeAt 82 (.pointer (some d147)) (.agg L146)) w148=.ok () w149 ∧
 I17 (subO o18 c18 1 1) (l18 - 1) (c18 - 1) d147 w149∧μ17 (subO o18 c18 1 1) (l18 - 1) (c18 - 1) d147 w149 < μ17 o18 l18 c18 d19 w20)))))))))))))) ∧
 ((b21=false →
 R (.returned (.tuple #[(.slice none 0 0),(.bool false)])) w20))))))))
theorem Z35.vc (L0:Array Value) (o1:Option Addr) (l1:Nat) (c1:Nat) (v2:Value) (w:World) (R:Ending→World→Prop) (h:Z35.Vc L0 o1 l1 c1 v2 w R):Calls Tryz.prog 49 #[(.agg L0),(.slice o1 l1 c1),v2] w R :=
 Z8 (R:=⟨R,true⟩) (ann:=[(3,[(8,.cell (.slice)),(9,.cell (.addr))]),(1000011,[])]) (args:=[.big 32 L0,.slice o1 l1 c1,.raw v2]) Tryz.func49 ZR (Eq.mp (by kernel_rfl:Z35.Vc L0 o1 l1 c1 v2 w R=ZP (pA Tryz.prog ⟨R,true⟩) Tryz.prog [(3,[(8,.cell (.slice)),(9,.cell (.addr))]),(1000011,[])] Tryz.f49 [.big 32 L0,.slice o1 l1 c1,.raw v2] w) h)

def Z1C.Vc (d0 d1:Addr) (w:World) (R:Ending→World→Prop):Prop :=
 ∃n2,World.cell? w d0=some (.int .i64 n2) ∧
 (((n2≠0 →
 Z1 w d1 (.slice none 0 0)∧∀w3,ZA w d1 (.slice none 0 0) w3 →
 R (.returned (.tuple #[])) w3)) ∧
 ((n2=0 →
 R (.returned (.tuple #[])) w)))
theorem Z1C.vcd (u:FrameMode) (d0:Addr) (d1:Addr) (w:World) (R:Ending→World→Prop) (h:Z1C.Vc d0 d1 w R):CallsD Tryz.prog 48 #[(.pointer (some d0)),(.pointer (some d1))] u w (fun e u' w'=>u'=u∧R e w') :=
 Z4H (R:=R) (ann:=[]) (args:=[.addr d0,.addr d1]) Tryz.func48 ZR (Eq.mp (by kernel_rfl:Z1C.Vc d0 d1 w R=ZP (pA Tryz.prog ⟨R,false⟩) Tryz.prog [] Tryz.f48 [.addr d0,.addr d1] w) h)

def Z26.Vc (L0:Array Value) (d1 d2:Addr) (w:World) (R:Ending→World→Prop):Prop :=
 ∀d3 w4,ZC w 27 L0 d3 w4 →
 ∃m5:Option Nat,∃b6,World.cell? w4 d1=some (.map m5) ∧
 World.cell? w4 (Addr.add d1 1)=some (.bool b6) ∧
 ∃L7,ZJ w4 d3 32 L7 ∧
 Calls Tryz.prog 37 #[(.agg #[(.map m5),(.bool b6)]),(.agg L7)] w4 (fun e8 w9 =>
 ((∃ch,e8=.panicked ch∧R (.panicked ch) w9) ∨
 ∃o10 l11 l12,e8=.returned (.slice o10 l11 l12) ∧
 ∀w13,ZN w9 w13 →
 ∃o14 l15 l16,World.cell? w13 d2=some (.slice o14 l15 l16) ∧
 Calls Tryz.prog 36 #[(.slice o10 l11 l12)] w13 (fun e17 w18 =>
 ((∃ch,e17=.panicked ch∧R (.panicked ch) w18) ∨
 ∃o19 l20 l21,e17=.returned (.slice o19 l20 l21) ∧
 World.cell? w18 d2=some (.slice o14 l15 l16) ∧
 ∀d22 w23,ZC w18 23 #[(.slice o19 l20 l21)] d22 w23 →
 World.cell? w23 d2=some (.slice o14 l15 l16) ∧
 ∃v24 w25,Sem.run Tryz.prog (builtinV .append #[31,31] 31 #[(.slice o14 l15 l16),(.slice (some d22) 1 1)]) w23=.ok v24 w25 ∧
 ∃o26 l27 l28,v24=(.slice o26 l27 l28) ∧
 Z1 w25 d2 (.slice o26 l27 l28)∧∀w29,ZA w25 d2 (.slice o26 l27 l28) w29 →
 R (.returned (.slice o10 l11 l12)) w29))))
theorem Z26.vc (L0:Array Value) (d1:Addr) (d2:Addr) (w:World) (R:Ending→World→Prop) (h:Z26.Vc L0 d1 d2 w R):Calls Tryz.prog 50 #[(.agg L0),(.pointer (some d1)),(.pointer (some d2))] w R :=
 Z8 (R:=⟨R,true⟩) (ann:=[]) (args:=[.big 32 L0,.addr d1,.addr d2]) Tryz.func50 ZR (Eq.mp (by kernel_rfl:Z26.Vc L0 d1 d2 w R=ZP (pA Tryz.prog ⟨R,true⟩) Tryz.prog [] Tryz.f50 [.big 32 L0,.addr d1,.addr d2] w) h)

def Z12.Vc (d0 d1 d2:Addr) (w:World) (R:Ending→World→Prop):Prop :=
 ∃n3,World.cell? w d0=some (.int .i64 n3) ∧
 (((n3≠0 →
 Z1 w d1 (.slice none 0 0)∧∀w4,ZA w d1 (.slice none 0 0) w4 →
 Z1 w4 d2 (.bool false)∧∀w5,ZA w4 d2 (.bool false) w5 →
 R (.returned (.tuple #[])) w5)) ∧
 ((n3=0 →
 R (.returned (.tuple #[])) w)))
theorem Z12.vcd (u:FrameMode) (d0:Addr) (d1:Addr) (d2:Addr) (w:World) (R:Ending→World→Prop) (h:Z12.Vc d0 d1 d2 w R):CallsD Tryz.prog 51 #[(.pointer (some d0)),(.pointer (some d1)),(.pointer (some d2))] u w (fun e u' w'=>u'=u∧R e w') :=
 Z4H (R:=R) (ann:=[]) (args:=[.addr d0,.addr d1,.addr d2]) Tryz.func51 ZR (Eq.mp (by kernel_rfl:Z12.Vc d0 d1 d2 w R=ZP (pA Tryz.prog ⟨R,false⟩) Tryz.prog [] Tryz.f51 [.addr d0,.addr d1,.addr d2] w) h)

def Z1j.Vc (L0:Array Value) (d1 d2:Addr) (w:World) (R:Ending→World→Prop):Prop :=
 ∀d3 w4,ZC w 27 L0 d3 w4 →
 ∃(J5:World→Prop),(∃n6,World.cell? w4 d1=some (.int .i64 n6) ∧
 ∃o7 l8 l9,World.cell? w4 d2=some (.slice o7 l8 l9) ∧
 (((n6=((l8:Nat):Int) →
 Calls Tryz.prog 45 #[(.int .i64 160)] w4 (fun e10 w11 =>
 ((∃ch,e10=.panicked ch∧R (.panicked ch) w11) ∨
 e10=.returned (.tuple #[]) ∧
 J5  w11)))) ∧
 ((n6≠((l8:Nat):Int) →
 J5  w4)))) ∧
 (∀  (j12:Nat→Value) (w12:World),J5  w12 →
 ∃o13 l14 l15,World.cell? w12 d2=some (.slice o13 l14 l15) ∧
 ∃n16,World.cell? w12 d1=some (.int .i64 n16) ∧
 ∃d17,o13=some d17 ∧
 ((0:Int)≤n16∧n16 < ((l14:Nat):Int)) ∧
 ∃o18 l19 l20,World.cell? w12 (Addr.add d17 (Int.toNat n16))=some (.slice o18 l19 l20) ∧
 ∃n21,World.cell? w12 d1=some (.int .i64 n21) ∧
 Z1 w12 d1 (.int .i64 (IntKind.wrap .i64 (n21+1)))∧∀w22,ZA w12 d1 (.int .i64 (IntKind.wrap .i64 (n21+1))) w22 →
 ∀w23,ZN w22 w23 →
 ∃L24,ZJ w23 d3 32 L24 ∧
 ∀d25 w26,ZC w23 23 #[(.slice o18 l19 l20)] d25 w26 →
 ZJ w26 d3 32 L24 ∧
 Calls Tryz.prog 53 #[(.slice (some d25) 1 1)] w26 (fun e27 w28 =>
 ((∃ch,e27=.panicked ch∧R (.panicked ch) w28) ∨
 ∃L29,e27=.returned (.agg L29) ∧
 ZJ w28 d3 32 L24 ∧
 ∃v30,Sem.run Tryz.prog (Z0q .neq 27 (.tmp 19) (.tmp 20) (.agg L29) (.agg L24)) w28=.ok v30 w28 ∧
 ∃b31,v30=(.bool b31) ∧
 (((b31=true →
 Calls Tryz.prog 45 #[(.int .i64 163)] w28 (fun e32 w33 =>
 ((∃ch,e32=.panicked ch∧R (.panicked ch) w33) ∨
 e32=.returned (.tuple #[]) ∧
 R (.returned (.slice o18 l19 l20)) w33)))) ∧
 ((b31=false →
 R (.returned (.slice o18 l19 l20)) w28))))))
theorem Z1j.vc (L0:Array Value) (d1:Addr) (d2:Addr) (w:World) (R:Ending→World→Prop) (h:Z1j.Vc L0 d1 d2 w R):Calls Tryz.prog 52 #[(.agg L0),(.pointer (some d1)),(.pointer (some d2))] w R :=
 Z8 (R:=⟨R,true⟩) (ann:=[(1000003,[])]) (args:=[.big 32 L0,.addr d1,.addr d2]) Tryz.func52 ZR (Eq.mp (by kernel_rfl:Z1j.Vc L0 d1 d2 w R=ZP (pA Tryz.prog ⟨R,true⟩) Tryz.prog [(1000003,[])] Tryz.f52 [.big 32 L0,.addr d1,.addr d2] w) h)

abbrev Z1t.n:Nat:=21
def Z1t.Vc (o0:Option Addr) (l0 c0:Nat) (L1:Array Value) (o2:Option Addr) (l2 c2:Nat) (w:World) (R:Ending→World→Prop):Prop :=
 ∀d3 w4,ZC w 27 L1 d3 w4 →
 ∀d5 w6,ZC w4 31 #[(.slice none 0 0)] d5 w6 →
 ∀d7 w8,ZC w6 40 #[(.int .i64 0)] d7 w8 →
 Calls Tryz.prog 29 #[(.slice o0 l0 c0),(.bool false)] w8 (fun e9 w10 =>
 ((∃ch,e9=.panicked ch∧R (.panicked ch) w10) ∨
 ∃m11:Option Nat,∃b12 n13,e9=.returned (.tuple #[(.agg #[(.map m11),(.bool b12)]),(.int .i64 n13)]) ∧
 ∀d14 w15,ZC w10 69 #[(.map none),(.bool false)] d14 w15 →
 Z1 w15 d14 (.map m11)∧∀w16,ZA w15 d14 (.map m11) w16 →
 Z1 w16 (Addr.add d14 1) (.bool b12)∧∀w17,ZA w16 (Addr.add d14 1) (.bool b12) w17 →
 Z1 w17 d7 (.int .i64 n13)∧∀w18,ZA w17 d7 (.int .i64 n13) w18 →
 ∃n19,World.cell? w18 d7=some (.int .i64 n19) ∧
 (((n19≠0 →
 ∀w20,ZN w18 w20 →
 ∃n21,World.cell? w20 d7=some (.int .i64 n21) ∧
 Z1 w20 d5 (.slice none 0 0)∧∀w22,ZA w20 d5 (.slice none 0 0) w22 →
 World.cell? w22 d7=some (.int .i64 n21) ∧
 Z1 w22 d7 (.int .i64 n21)∧∀w23,ZA w22 d7 (.int .i64 n21) w23 →
 ∃o24 l25 l26,World.cell? w23 d5=some (.slice o24 l25 l26) ∧
 ∃n27,World.cell? w23 d7=some (.int .i64 n27) ∧
 R (.returned (.tuple #[(.slice o24 l25 l26),(.int .i64 n27)])) w23)) ∧
 ((n19=0 →
 (((((l2:Nat):Int) > 64 →
 Z1 w18 d5 (.slice none 0 0)∧∀w28,ZA w18 d5 (.slice none 0 0) w28 →
 Z1 w28 d7 (.int .i64 140)∧∀w29,ZA w28 d7 (.int .i64 140) w29 →
 ∃o30 l31 l32,World.cell? w29 d5=some (.slice o30 l31 l32) ∧
 ∃n33,World.cell? w29 d7=some (.int .i64 n33) ∧
 R (.returned (.tuple #[(.slice o30 l31 l32),(.int .i64 n33)])) w29)) ∧
 ((¬((l2:Nat):Int) > 64 →
 ∃L34,ZJ w18 d3 32 L34 ∧
 Calls Tryz.prog 49 #[(.agg L34),(.slice o2 l2 c2),(.func (.func 50) #[] #[(.pointer (some d14)),(.pointer (some d5))])] w18 (fun e35 w36 =>
 ((∃ch,e35=.panicked ch∧Z2t Tryz.prog (fun w37 =>
 ∃o38 l39 l40,World.cell? w37 d5=some (.slice o38 l39 l40) ∧
 ∃n41,World.cell? w37 d7=some (.int .i64 n41) ∧
 R (.returned (.tuple #[(.slice o38 l39 l40),(.int .i64 n41)])) w37) R [(32,#[(.pointer (some d7))]),(48,#[(.pointer (some d7)),(.pointer (some d5))])] (.panicking ch) w36) ∨
 ∃o42 l43 l44 b45,e35=.returned (.tuple #[(.slice o42 l43 l44),(.bool b45)]) ∧
 ∃o46 l47 l48,World.cell? w36 d5=some (.slice o46 l47 l48) ∧
 Z1 w36 d5 (.slice o46 l47 l48)∧∀w49,ZA w36 d5 (.slice o46 l47 l48) w49 →
 Z1 w49 d7 (.int .i64 0)∧∀w50,ZA w49 d7 (.int .i64 0) w50 →
 Z2t Tryz.prog (fun w51 =>
 ∃o52 l53 l54,World.cell? w51 d5=some (.slice o52 l53 l54) ∧
 ∃n55,World.cell? w51 d7=some (.int .i64 n55) ∧
 R (.returned (.tuple #[(.slice o52 l53 l54),(.int .i64 n55)])) w51) R [(32,#[(.pointer (some d7))]),(48,#[(.pointer (some d7)),(.pointer (some d5))])] .returning w50))))))))))
theorem Z1t.vc (o0:Option Addr) (l0:Nat) (c0:Nat) (L1:Array Value) (o2:Option Addr) (l2:Nat) (c2:Nat) (w:World) (R:Ending→World→Prop) (h:Z1t.Vc o0 l0 c0 L1 o2 l2 c2 w R):Calls Tryz.prog 21 #[(.slice o0 l0 c0),(.agg L1),(.slice o2 l2 c2)] w R :=
 Z4G (ann:=[]) (args:=[.slice o0 l0 c0,.big 32 L1,.slice o2 l2 c2]) Tryz.func21 ZR (Eq.mp (by kernel_rfl:Z1t.Vc o0 l0 c0 L1 o2 l2 c2 w R=ZA6 (aD Tryz.prog R) (ZD9 Tryz.prog R) Tryz.prog [] Tryz.f21 [.slice o0 l0 c0,.big 32 L1,.slice o2 l2 c2] False w) h)

abbrev Z1S.n:Nat:=22
def Z1S.Vc (L0:Array Value) (o1:Option Addr) (l1 c1:Nat) (o2:Option Addr) (l2 c2:Nat) (w:World) (R:Ending→World→Prop):Prop :=
 ∀d3 w4,ZC w 27 L0 d3 w4 →
 ∀d5 w6,ZC w4 31 #[(.slice o2 l2 c2)] d5 w6 →
 ∀d7 w8,ZC w6 23 #[(.slice none 0 0)] d7 w8 →
 ∀d9 w10,ZC w8 4 #[(.bool false)] d9 w10 →
 ∀d11 w12,ZC w10 40 #[(.int .i64 0)] d11 w12 →
 ∃o13 l14 l15,World.cell? w12 d5=some (.slice o13 l14 l15) ∧
 (((((l14:Nat):Int) > 256 →
 Z1 w12 d7 (.slice none 0 0)∧∀w16,ZA w12 d7 (.slice none 0 0) w16 →
 Z1 w16 d9 (.bool false)∧∀w17,ZA w16 d9 (.bool false) w17 →
 Z1 w17 d11 (.int .i64 162)∧∀w18,ZA w17 d11 (.int .i64 162) w18 →
 ∃o19 l20 l21,World.cell? w18 d7=some (.slice o19 l20 l21) ∧
 ∃b22,World.cell? w18 d9=some (.bool b22) ∧
 ∃n23,World.cell? w18 d11=some (.int .i64 n23) ∧
 R (.returned (.tuple #[(.slice o19 l20 l21),(.bool b22),(.int .i64 n23)])) w18)) ∧
 ((¬((l14:Nat):Int) > 256 →
 (((((l1:Nat):Int) > 64 →
 Z1 w12 d7 (.slice none 0 0)∧∀w24,ZA w12 d7 (.slice none 0 0) w24 →
 Z1 w24 d9 (.bool false)∧∀w25,ZA w24 d9 (.bool false) w25 →
 Z1 w25 d11 (.int .i64 140)∧∀w26,ZA w25 d11 (.int .i64 140) w26 →
 ∃o27 l28 l29,World.cell? w26 d7=some (.slice o27 l28 l29) ∧
 ∃b30,World.cell? w26 d9=some (.bool b30) ∧
 ∃n31,World.cell? w26 d11=some (.int .i64 n31) ∧
 R (.returned (.tuple #[(.slice o27 l28 l29),(.bool b30),(.int .i64 n31)])) w26)) ∧
 ((¬((l1:Nat):Int) > 64 →
 ∀d32 w33,ZC w12 3 #[(.int .i64 0)] d32 w33 →
 Z1 w33 d32 (.int .i64 0)∧∀w34,ZA w33 d32 (.int .i64 0) w34 →
 ∃L35,ZJ w34 d3 32 L35 ∧
 Calls Tryz.prog 49 #[(.agg L35),(.slice o1 l1 c1),(.func (.func 52) #[] #[(.pointer (some d32)),(.pointer (some d5))])] w34 (fun e36 w37 =>
 ((∃ch,e36=.panicked ch∧Z2t Tryz.prog (fun w38 =>
 ∃o39 l40 l41,World.cell? w38 d7=some (.slice o39 l40 l41) ∧
 ∃b42,World.cell? w38 d9=some (.bool b42) ∧
 ∃n43,World.cell? w38 d11=some (.int .i64 n43) ∧
 R (.returned (.tuple #[(.slice o39 l40 l41),(.bool b42),(.int .i64 n43)])) w38) R [(32,#[(.pointer (some d11))]),(51,#[(.pointer (some d11)),(.pointer (some d7)),(.pointer (some d9))])] (.panicking ch) w37) ∨
 ∃o44 l45 l46 b47,e36=.returned (.tuple #[(.slice o44 l45 l46),(.bool b47)]) ∧
 Z1 w37 d7 (.slice o44 l45 l46)∧∀w48,ZA w37 d7 (.slice o44 l45 l46) w48 →
 Z1 w48 d9 (.bool b47)∧∀w49,ZA w48 d9 (.bool b47) w49 →
 ∃n50,World.cell? w49 d32=some (.int .i64 n50) ∧
 ∃o51 l52 l53,World.cell? w49 d5=some (.slice o51 l52 l53) ∧
 (((n50 < ((l52:Nat):Int) →
 Calls Tryz.prog 45 #[(.int .i64 162)] w49 (fun e54 w55 =>
 ((∃ch,e54=.panicked ch∧Z2t Tryz.prog (fun w56 =>
 ∃o57 l58 l59,World.cell? w56 d7=some (.slice o57 l58 l59) ∧
 ∃b60,World.cell? w56 d9=some (.bool b60) ∧
 ∃n61,World.cell? w56 d11=some (.int .i64 n61) ∧
 R (.returned (.tuple #[(.slice o57 l58 l59),(.bool b60),(.int .i64 n61)])) w56) R [(32,#[(.pointer (some d11))]),(51,#[(.pointer (some d11)),(.pointer (some d7)),(.pointer (some d9))])] (.panicking ch) w55) ∨
 e54=.returned (.tuple #[]) ∧
 ∀w62,ZN w55 w62 →
 ∃o63 l64 l65,World.cell? w62 d7=some (.slice o63 l64 l65) ∧
 ∃b66,World.cell? w62 d9=some (.bool b66) ∧
 Z1 w62 d7 (.slice o63 l64 l65)∧∀w67,ZA w62 d7 (.slice o63 l64 l65) w67 →
 World.cell? w67 d9=some (.bool b66) ∧
 Z1 w67 d9 (.bool b66)∧∀w68,ZA w67 d9 (.bool b66) w68 →
 Z1 w68 d11 (.int .i64 0)∧∀w69,ZA w68 d11 (.int .i64 0) w69 →
 Z2t Tryz.prog (fun w70 =>
 ∃o71 l72 l73,World.cell? w70 d7=some (.slice o71 l72 l73) ∧
 ∃b74,World.cell? w70 d9=some (.bool b74) ∧
 ∃n75,World.cell? w70 d11=some (.int .i64 n75) ∧
 R (.returned (.tuple #[(.slice o71 l72 l73),(.bool b74),(.int .i64 n75)])) w70) R [(32,#[(.pointer (some d11))]),(51,#[(.pointer (some d11)),(.pointer (some d7)),(.pointer (some d9))])] .returning w69)))) ∧
 ((¬n50 < ((l52:Nat):Int) →
 ∀w76,ZN w49 w76 →
 ∃o77 l78 l79,World.cell? w76 d7=some (.slice o77 l78 l79) ∧
 ∃b80,World.cell? w76 d9=some (.bool b80) ∧
 Z1 w76 d7 (.slice o77 l78 l79)∧∀w81,ZA w76 d7 (.slice o77 l78 l79) w81 →
 World.cell? w81 d9=some (.bool b80) ∧
 Z1 w81 d9 (.bool b80)∧∀w82,ZA w81 d9 (.bool b80) w82 →
 Z1 w82 d11 (.int .i64 0)∧∀w83,ZA w82 d11 (.int .i64 0) w83 →
 Z2t Tryz.prog (fun w84 =>
 ∃o85 l86 l87,World.cell? w84 d7=some (.slice o85 l86 l87) ∧
 ∃b88,World.cell? w84 d9=some (.bool b88) ∧
 ∃n89,World.cell? w84 d11=some (.int .i64 n89) ∧
 R (.returned (.tuple #[(.slice o85 l86 l87),(.bool b88),(.int .i64 n89)])) w84) R [(32,#[(.pointer (some d11))]),(51,#[(.pointer (some d11)),(.pointer (some d7)),(.pointer (some d9))])] .returning w83)))))))))))
theorem Z1S.vc (L0:Array Value) (o1:Option Addr) (l1:Nat) (c1:Nat) (o2:Option Addr) (l2:Nat) (c2:Nat) (w:World) (R:Ending→World→Prop) (h:Z1S.Vc L0 o1 l1 c1 o2 l2 c2 w R):Calls Tryz.prog 22 #[(.agg L0),(.slice o1 l1 c1),(.slice o2 l2 c2)] w R :=
 Z4G (ann:=[]) (args:=[.big 32 L0,.slice o1 l1 c1,.slice o2 l2 c2]) Tryz.func22 ZR (Eq.mp (by kernel_rfl:Z1S.Vc L0 o1 l1 c1 o2 l2 c2 w R=ZA6 (aD Tryz.prog R) (ZD9 Tryz.prog R) Tryz.prog [] Tryz.f22 [.big 32 L0,.slice o1 l1 c1,.slice o2 l2 c2] False w) h)

abbrev Z1u.n:Nat:=45
def Z1u.Vc (n0:Int) (w:World) (R:Ending→World→Prop):Prop :=
 (((n0≠0 →
 R (.panicked (ZES (.iface 127 (.agg #[(.int .i64 n0)])))) w)) ∧
 ((n0=0 →
 R (.returned (.tuple #[])) w)))
theorem Z1u.vc (n0:Int) (w:World) (R:Ending→World→Prop) (h:Z1u.Vc n0 w R):Calls Tryz.prog 45 #[(.int .i64 n0)] w R :=
 Z8 (R:=⟨R,true⟩) (ann:=[]) (args:=[.int .i64 n0]) Tryz.func45 ZR (Eq.mp (by kernel_rfl:Z1u.Vc n0 w R=ZP (pA Tryz.prog ⟨R,true⟩) Tryz.prog [] Tryz.f45 [.int .i64 n0] w) h)

end Go.Proofs.YtfghidehlnfdiaaGreat
end
