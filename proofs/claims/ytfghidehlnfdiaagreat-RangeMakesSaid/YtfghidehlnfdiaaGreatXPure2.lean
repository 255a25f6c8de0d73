/- Regions whose order is open: one walk in an order of our choice serves every order. No program is named here. -/
/- A symbolic executor over the model's code, generic over what its leaves are: over propositions it is a verification condition (XSound), over text it prints one. -/
/- The executor over propositions is sound: what it asks is enough for the code's own weakest precondition. -/
/- Each operation that the executor takes by its form does what the form says. -/
/- The operations that yield their value in whatever world. -/
import Derived.Orders
import Derived.WalkKit
set_option linter.unusedVariables false
section
namespace Go.Vcg

def Z7I (i:Nat):List Oper→List Bool→List Bool
 | [],acc=>acc
 | o :: rest,acc=>Z7I i rest (acc++[o.after.any fun e=>Region.binds .any e && (e.on == i || acc.getD e.on false)])
def Z2h (ops:Array Oper) (i:Nat):List Bool:=Z7I i ops.toList []

def Z2A (ops:Array Oper) (listed:Array Bool):Prop :=
 ∀(j:Nat) (o:Oper),ops[j]?=some o→listed.getD j false=true→∀e∈o.after,Region.binds .any e=true→listed.getD e.on false=true

theorem Z3P {ops:Array Oper} {i:Nat}:∀(l:List Oper) (acc:List Bool),(∀k,l[k]?=ops[acc.length+k]?) →
  (∀k o,acc.getD k false=true→ops[k]?=some o→∀listed,Z2A ops listed→(∀e∈o.after,Region.binds .any e=true→listed.getD e.on false=true)→listed.getD i false=true) →
  ∀k o,(Z7I i l acc).getD k false=true→ops[k]?=some o→∀listed,Z2A ops listed→(∀e∈o.after,Region.binds .any e=true→listed.getD e.on false=true)→listed.getD i false=true
 | [],_,_,h=>h
 | o :: l,acc,hl,h=>by
   have h0:ops[acc.length]?=some o:=by simpa using (hl 0).symm
   refine Z3P l _ (fun k=>?_) ?_
   ·have:=hl (k+1)
    simpa [Nat.add_assoc,Nat.add_comm 1 k] using this
   ·intro k o' hk ho' listed hc hp
    rcases Nat.lt_trichotomy k acc.length with hlt | heq | hgt
    ·refine h k o' ?_ ho' listed hc hp
     simpa [List.getD_eq_getElem?_getD,List.getElem?_append_left hlt] using hk
    ·subst heq
     rw [h0] at ho'
     cases ho'
     simp only [List.getD_eq_getElem?_getD,List.getElem?_append_right (Nat.le_refl _),Nat.sub_self,List.getElem?_cons_zero,Option.getD_some] at hk
     obtain ⟨e,he,hb⟩:=Array.any_eq_true'.1 hk
     simp only [Bool.and_eq_true,Bool.or_eq_true,beq_iff_eq] at hb
     have hon:=hp e he hb.1
     rcases hb.2 with h1 | h1
     ·rw [← h1]; exact hon
     ·have h2:acc.getD e.on false=true:=by simpa [List.getD_eq_getElem?_getD] using h1
      have hlen:e.on < acc.length:=by
       rcases Nat.lt_or_ge e.on acc.length with h' | h'
       ·exact h'
       ·simp [List.getD_eq_getElem?_getD,List.getElem?_eq_none h'] at h2
      have hex:∃ok,ops[e.on]?=some ok:=by
       have hs:acc.length < ops.size:=(Array.getElem?_eq_some_iff.1 h0).1
       exact ⟨_,Array.getElem?_eq_getElem (by omega)⟩
      obtain ⟨ok,hok⟩:=hex
      exact h e.on ok h2 hok listed hc (hc e.on ok hok hon)
    ·have:(acc++[o.after.any fun e=>Region.binds .any e && (e.on == i || acc.getD e.on false)]).length≤k:=by simp; omega
     rw [List.getD_eq_getElem?_getD,List.getElem?_eq_none this] at hk
     cases hk

theorem Z7J {ops:Array Oper} {i j:Nat} {listed:Array Bool} (hc:Z2A ops listed) (hj:j∈Region.ready .any ops listed) (hi:listed.getD i false=false) :
  (Z2h ops i).getD j false=false:=by
 cases h:(Z2h ops i).getD j false with
 | false=>rfl
 | true =>
   obtain ⟨_,o,ho,hall⟩:=mem_ready.1 hj
   have:=Z3P (ops:=ops) (i:=i) ops.toList [] (by simp) (by simp) j o h ho listed hc hall
   rw [hi] at this
   cases this

theorem Z9y {ops:Array Oper} {i j:Nat} {o:Oper} {listed:Array Bool} (hc:Z2A ops listed) (ho:ops[j]?=some o) (hj:listed.getD j false=true)
  (h:(Z2h ops i).getD j false=true):listed.getD i false=true :=
 Z3P (ops:=ops) (i:=i) ops.toList [] (by simp) (by simp) j o h ho listed hc (hc j o ho hj)

theorem Z2A.start (ops:Array Oper) (n:Nat):Z2A ops (Array.replicate n false):=by
 intro j o _ h
 exfalso
 by_cases hn:j < n <;> simp [hn] at h

theorem Z19 {listed:Array Bool} {i:Nat} (h:i < listed.size):(listed.setIfInBounds i true).getD i false=true:=by simp [h]
theorem Z15 {listed:Array Bool} {i j:Nat} (h:i≠j):(listed.setIfInBounds i true).getD j false=listed.getD j false:=by
 simp [Array.getElem?_setIfInBounds_ne h]

theorem Z2A.set {ops:Array Oper} {listed:Array Bool} (hc:Z2A ops listed) {j:Nat} (hj:j∈Region.ready .any ops listed):Z2A ops (listed.setIfInBounds j true):=by
 intro k o ho hk e he hb
 by_cases hkj:j=k
 ·subst hkj
  obtain ⟨_,o',ho',hall⟩:=mem_ready.1 hj
  rw [ho] at ho'; cases ho'
  exact getD_set_true (hall e he hb)
 ·rw [Z15 hkj] at hk
  exact getD_set_true (hc k o ho hk e he hb)

def ssa (ops:Array Oper):Bool :=
 Region.noSelect ops &&
 (List.range ops.size).all fun i =>
   match ops[i]? with
   | none=>true
   | some oi =>
     (oi.after.all fun e=> !Region.binds .any e || decide (e.on < i)) &&
     match oi.dst with
     | none=>true
     | some d =>
       let ds:=Z2h ops i
       !(oi.looksAt ops).contains d && (List.range ops.size).all fun j=>j == i || match ops[j]? with
         | none=>true
         | some oj=>oj.dst != some d && (!(oj.looksAt ops).contains d || ds.getD j false || (Z2h ops j).getD i false)

def ZG0 (ops:Array Oper) (i:Nat):Bool :=
 match ops[i]? with
 | none=>false
 | some oi=>match oi.dst with
   | none=>true
   | some d =>
     let ds:=Z2h ops i
     (List.range ops.size).all fun j=>j == i || match ops[j]? with
       | none=>true
       | some oj=> !(oj.looksAt ops).contains d || ds.getD j false

theorem Z40 {ops:Array Oper} (h:ssa ops=true) {i:Nat} {oi:Oper} (hi:ops[i]?=some oi) :
  (∀e∈oi.after,Region.binds .any e=true→e.on < i) ∧
  ∀d,oi.dst=some d→d ∉ oi.looksAt ops∧∀(j:Nat) (oj:Oper),ops[j]?=some oj→j≠i→oj.dst≠some d∧(d∈oj.looksAt ops→(Z2h ops i).getD j false=true∨(Z2h ops j).getD i false=true):=by
 simp only [ssa,Bool.and_eq_true,List.all_eq_true,List.mem_range] at h
 have hlt:i < ops.size:=(Array.getElem?_eq_some_iff.1 hi).1
 have h1:=h.2 i hlt
 simp only [hi,Bool.and_eq_true] at h1
 refine ⟨fun e he hb=>?_,fun d hd=>?_⟩
 ·have h2:=Array.all_eq_true_iff_forall_mem.1 h1.1 e he
  simpa [hb] using h2
 ·have h2:=h1.2
  simp only [hd,Bool.and_eq_true,List.all_eq_true,List.mem_range] at h2
  refine ⟨by simpa using h2.1,fun j oj hj hne=>?_⟩
  have h3:=h2.2 j (Array.getElem?_eq_some_iff.1 hj).1
  simp only [hj,Bool.or_eq_true,beq_iff_eq,hne,false_or,Bool.and_eq_true,bne_iff_ne,ne_eq,Bool.not_eq_true',List.contains_eq_mem] at h3
  refine ⟨h3.1,fun hm=>?_⟩
  rcases h3.2 with (h4 | h4) | h4
  ·simp [hm] at h4
  ·exact .inl h4
  ·exact .inr h4

theorem ZAA {ops:Array Oper} {i:Nat} {oi:Oper} (h:ZG0 ops i=true) (hi:ops[i]?=some oi) {d:Tmp} (hd:oi.dst=some d) {j:Nat} {oj:Oper} (hj:ops[j]?=some oj) (hne:j≠i)
  (hm:d∈oj.looksAt ops):(Z2h ops i).getD j false=true:=by
 simp only [ZG0,hi,hd,List.all_eq_true,List.mem_range] at h
 have h3:=h j (Array.getElem?_eq_some_iff.1 hj).1
 simp only [hj,Bool.or_eq_true,beq_iff_eq,hne,false_or,Bool.not_eq_true',List.contains_eq_mem] at h3
 rcases h3 with h4 | h4
 ·simp [hm] at h4
 ·exact h4

section
variable {P:Program} {ops:Array Oper} {Q:Exit→Act→World→Prop}

def YA (P:Program) (ops:Array Oper) (i:Nat) (v:Value) (a:Act) (w:World):Prop :=
 ∃o,ops[i]?=some o∧((Region.wanted o (yielded ops a.tmps)=true∧(execOp a.eval o).run P w=.ok (.value v) w)∨(Region.wanted o (yielded ops a.tmps)=false∧v=undef))

def wpG (P:Program) (ops:Array Oper) (Q:Exit→Act→World→Prop):Nat→Array Bool→List (Nat×Value)→Act→World→Prop
 | 0,_,_,_,_=>False
 | n+1,listed,pend,a,w =>
   (Region.ready .any ops listed=[]∧Q .normal a w) ∨
   (∃i o v,i∈Region.ready .any ops listed∧ops[i]?=some o∧ZG0 ops i=true∧YA P ops i v a w∧wpG P ops Q n (listed.setIfInBounds i true) ((i,v) :: pend) (a.put o.dst v) w) ∨
   (Region.ready .any ops listed≠[]∧∀j∈Region.ready .any ops listed,wpOp P ops Q j (fun a' w' =>
     (∀p∈pend,(Z2h ops p.1).getD j false=false→YA P ops p.1 p.2 a' w')∧wpG P ops Q n (listed.setIfInBounds j true) (pend.filter fun p=> !(Z2h ops p.1).getD j false) a' w') a w)

structure Rel (P:Program) (ops:Array Oper) (lR lG:Array Bool) (pend:List (Nat×Value)) (aR aG:Act) (w:World):Prop where
 sR:lR.size=ops.size
 sG:lG.size=ops.size
 cR:Z2A ops lR
 cG:Z2A ops lG
 sub:∀j,lR.getD j false=true→lG.getD j false=true
 defers:aR.defers=aG.defers
 size:aR.tmps.size=aG.tmps.size
 same:∀d,(∀t o,lG.getD t false=true→lR.getD t false=false→ops[t]?=some o→o.dst≠some d)→aR.tmps[d]?=aG.tmps[d]?
 held:∀t o,lG.getD t false=true→lR.getD t false=false→ops[t]?=some o →
  ZG0 ops t=true∧∃v,(t,v)∈pend∧YA P ops t v aG w∧∀d,o.dst=some d→d < aG.tmps.size→aG.tmps[d]?=some v

theorem ZDy {lR lG:Array Bool} {pend:List (Nat×Value)} {aR aG:Act} {w:World} (h:Rel P ops lR lG pend aR aG w) (hs:ssa ops=true)
  {j:Nat} {oj:Oper} (hj:j∈Region.ready .any ops lR) (hoj:ops[j]?=some oj) (d:Tmp) (hd:d∈oj.looksAt ops):aR.tmps[d]?=aG.tmps[d]?:=by
 refine h.same d fun t o hG hR ho hdst=>?_
 have h0:=(Z40 hs ho).2 d hdst
 by_cases htj:j=t
 ·subst htj
  rw [ho] at hoj; cases hoj
  exact h0.1 hd
 ·have h1:=ZAA (h.held t o hG hR ho).1 ho hdst hoj htj hd
  rw [Z7J h.cR hj hR] at h1
  cases h1

theorem ZHr (hs:ssa ops=true) (j:Nat) (o:Oper) (ho:ops[j]?=some o) (cs:Array SelectCase) (b:Bool):o.op≠.select cs b:=by
 simp only [ssa,Bool.and_eq_true] at hs
 exact Region.noSelect_spec hs.1 j o cs b ho

theorem Z5R {o:Oper} {a b:Act} (hsel:∀cs bb,o.op≠.select cs bb) (h:∀d∈o.looksAt ops,a.tmps[d]?=b.tmps[d]?) :
  execOp a.eval o=execOp b.eval o :=
 execOp_congr o hsel fun x hx=>by
  cases x with
  | tmp t =>
    have ht:t∈o.looksAt ops:=List.mem_append_left _ (List.mem_filterMap.2 ⟨.tmp t,by simpa using hx,rfl⟩)
    simp only [Act.eval,Array.getD_eq_getD_getElem?,h t ht]
  | _=>rfl

theorem Z5L {o:Oper} {a b:Act} (h:∀d∈o.looksAt ops,a.tmps[d]?=b.tmps[d]?) :
  Region.wanted o (yielded ops a.tmps)=Region.wanted o (yielded ops b.tmps):=by
 unfold Region.wanted
 cases hg:o.guard with
 | none=>rfl
 | some gw =>
   obtain ⟨g,want⟩:=gw
   have:yielded ops a.tmps g=yielded ops b.tmps g:=by
    unfold yielded
    cases ht:(ops[g]?).bind (·.dst) with
    | none=>rfl
    | some t =>
      have:=h t (by simp [Oper.looksAt,hg,ht])
      simp only [Option.bind_some,this]
   simp only [this]

theorem YA.of_same {i:Nat} {v:Value} {a b:Act} {w:World} (hs:ssa ops=true) (h:YA P ops i v a w) (hsame:∀o,ops[i]?=some o→∀d∈o.looksAt ops,a.tmps[d]?=b.tmps[d]?):YA P ops i v b w:=by
 obtain ⟨o,ho,h⟩:=h
 refine ⟨o,ho,?_⟩
 rw [← Z5L (hsame o ho),← Z5R (ZHr hs i o ho) (hsame o ho)]
 exact h

theorem Z1J {a:Act} {dst:Option Tmp} {v:Value} {d:Tmp} (h:dst≠some d):(a.put dst v).tmps[d]?=a.tmps[d]?:=by
 cases dst with
 | none=>rfl
 | some e =>
   have:e≠d:=fun he=>h (he ▸ rfl)
   simp [Act.put,Array.getElem?_setIfInBounds_ne this]
theorem put_size {a:Act} {dst:Option Tmp} {v:Value}:(a.put dst v).tmps.size=a.tmps.size:=by
 cases dst <;> simp [Act.put]
theorem Z3I {a:Act} {d:Tmp} {v:Value} (h:d < a.tmps.size):(a.put (some d) v).tmps[d]?=some v:=by
 simp [Act.put,h]
theorem Z01 {a:Act} {dst:Option Tmp} {v:Value}:(a.put dst v).defers=a.defers:=by
 cases dst <;> rfl

theorem YA.put_later {i j:Nat} {oj:Oper} {v u:Value} {a:Act} {w:World} {lG:Array Bool} (hs:ssa ops=true) (hcG:Z2A ops lG) (hj:ops[j]?=some oj)
  (hfree:ZG0 ops j=true∨(Z2h ops i).getD j false=false) (hlj:lG.getD j false=false) (hi:lG.getD i false=true) (h:YA P ops i v a w):YA P ops i v (a.put oj.dst u) w:=by
 refine h.of_same hs fun o ho d hd=>(Z1J fun hdst=>?_).symm
 have h1:=(Z40 hs hj).2 d hdst
 by_cases hij:i=j
 ·subst hij; rw [hi] at hlj; cases hlj
 ·have h2:(Z2h ops j).getD i false=true:=by
    rcases hfree with hf | hf
    ·exact ZAA hf hj hdst ho hij hd
    ·rcases (h1.2 i o ho hij).2 hd with h3 | h3
     ·exact h3
     ·rw [hf] at h3; cases h3
  have:=Z9y hcG ho hi h2
  rw [hlj] at this
  cases this

theorem ZF1 {j:Nat} {oj:Oper} {aR aG:Act} {w:World} (hoj:ops[j]?=some oj) (hsel:∀cs bb,oj.op≠.select cs bb)
  (hsame:∀d∈oj.looksAt ops,aR.tmps[d]?=aG.tmps[d]?) (hdef:aR.defers=aG.defers) (hout:∀d,(∀(t:Nat) o,ops[t]?=some o→o.dst≠some d)→aR.tmps[d]?=aG.tmps[d]?) (hQ:∀c (a a':Act) w,a.defers=a'.defers→(∀d,(∀(t:Nat) o,ops[t]?=some o→o.dst≠some d)→a.tmps[d]?=a'.tmps[d]?)→Q (.panic c) a w→Q (.panic c) a' w) {K:Act→World→Prop}
  (h:wpOp P ops Q j K aG w) :
  wpOp P ops Q j (fun a' w'=>∃v ds,a'=({ aR with defers:=ds++aR.defers }:Act).put oj.dst v∧K (({ aG with defers:=ds++aG.defers }:Act).put oj.dst v) w') aR w:=by
 unfold wpOp at *
 simp only [hoj] at *
 rw [Z5L hsame]
 split
 ·rename_i hw
  simp only [hw,if_true] at h
  rcases h with h | ⟨hasks,hlets⟩
  case inr=>exact .inr ⟨by unfold Oper.asks at *; rw [Z5R hsel hsame]; exact hasks,hlets⟩
  refine .inl ?_
  unfold Oper.wp at *
  rw [Z5R hsel hsame]
  generalize (execOp aG.eval oj).run P w=r at *
  cases r with
  | ok n w' =>
    cases n <;> simp only [Oper.upon] at h ⊢
    case value u=>exact ⟨u,[],rfl,h⟩
    case skip=>exact ⟨undef,[],rfl,h⟩
    case defer d=>exact ⟨undef,[d],rfl,h⟩
    case enter f args =>
     refine Calls.mono h fun e w'' he=>?_
     cases e with
     | returned u=>exact ⟨u,[],rfl,he⟩
     | panicked c=>exact hQ _ _ _ _ hdef.symm (fun d hd=>(hout d hd).symm) he
     | outgrown=>exact he
    case row row args=>exact Rows.mono h fun u w'' he=>⟨u,[],rfl,he⟩
  | halt x w' =>
    cases x <;> simp only [Oper.upon] at h ⊢
    case panic u=>exact hQ _ _ _ _ hdef.symm (fun d hd=>(hout d hd).symm) h
 ·rename_i hw
  simp only [hw] at h
  exact ⟨undef,[],rfl,h⟩

theorem Z3w {j:Nat} {listed:Array Bool} (hj:j∈Region.ready .any ops listed):j < ops.size∧listed.getD j false=false:=by
 obtain ⟨h0,o,ho,_⟩:=mem_ready.1 hj
 refine ⟨(Array.getElem?_eq_some_iff.1 ho).1,?_⟩
 by_cases hj':j < listed.size
 ·simpa [hj'] using h0
 ·simp [hj'] at h0

theorem count_set {l:Array Bool} {j:Nat} (h:l.getD j true=false) {m:Nat} (hm:l.count false≤m+1):(l.setIfInBounds j true).count false≤m:=by
 have hj:j < l.size:=by
  rcases Nat.lt_or_ge j l.size with h' | h'
  ·exact h'
  ·simp [Nat.not_lt.2 h'] at h
 have hv:l[j]=false:=by simpa [hj] using h
 rw [Array.setIfInBounds,dif_pos hj,Array.count_set]
 have hpos:0 < l.count false:=Array.count_pos_iff.2 (by rw [← hv]; exact Array.getElem_mem hj)
 simp [hv]
 omega

theorem sim (hs:ssa ops=true) (hQ:∀c (a a':Act) w,a.defers=a'.defers→(∀d,(∀(t:Nat) o,ops[t]?=some o→o.dst≠some d)→a.tmps[d]?=a'.tmps[d]?)→Q (.panic c) a w→Q (.panic c) a' w) :
  ∀(m:Nat) (lR lG:Array Bool) (pend:List (Nat×Value)) (aR aG:Act) (w:World) (n:Nat),lR.count false≤m →
   Rel P ops lR lG pend aR aG w→wpG P ops Q n lG pend aG w→wpAny P .any ops Q m lR aR w:=by
 intro m
 induction m with
 | zero =>
   intro lR lG pend aR aG w n hm hrel hG
   have hall:∀j,j < ops.size→lR.getD j false=true:=fun j hj=>by
    have h0:false ∉ lR:=Array.count_eq_zero.1 (Nat.le_zero.1 hm)
    have hj':j < lR.size:=by rw [hrel.sR]; exact hj
    cases hv:lR[j] with
    | true=>simp [hj',hv]
    | false=>exact absurd (hv ▸ Array.getElem_mem hj') h0
   have hready:∀l:Array Bool,(∀j,j < ops.size→l.getD j false=true)→Region.ready .any ops l=[]:=fun l hl=>by
    refine List.eq_nil_iff_forall_not_mem.2 fun j hj=>?_
    have:=Z3w hj
    rw [hl j this.1] at this
    cases this.2
   have hG':=hready lG fun j hj=>hrel.sub j (hall j hj)
   cases n with
   | zero=>exact hG.elim
   | succ n =>
     refine ⟨hready lR hall,?_⟩
     have heq:aR=aG:=by
      have h1:aR.tmps=aG.tmps:=Array.ext_getElem? fun d=>hrel.same d fun t o hGt hRt ho=>by
       rw [hall t (Array.getElem?_eq_some_iff.1 ho).1] at hRt
       cases hRt
      have h2:=hrel.defers
      cases aR; cases aG
      simp_all
     rcases hG with ⟨_,hq⟩ | ⟨i,o,v,hi,_⟩ | ⟨hne,_⟩
     ·rw [heq]; exact hq
     ·rw [hG'] at hi; cases hi
     ·exact absurd hG' hne
 | succ m ih =>
   intro lR lG pend aR aG w n hm hrel hG
   refine ⟨fun hR=>?_,fun j hj=>?_⟩
   ·-- nobody may come up: nothing is pending
    have hnone:∀t o,lG.getD t false=true→lR.getD t false=false→ops[t]?=some o→False:=by
     intro t
     induction t using Nat.strongRecOn with
     | _ t iht =>
       intro o hGt hRt ho
       have hmem:t∈Region.ready .any ops lR:=by
        refine mem_ready.2 ⟨?_,o,ho,fun e he hb=>?_⟩
        ·have hlt:t < lR.size:=by rw [hrel.sR]; exact (Array.getElem?_eq_some_iff.1 ho).1
         simpa [hlt] using hRt
        ·have hlt:=(Z40 hs ho).1 e he hb
         have hGe:=hrel.cG t o ho hGt e he hb
         cases hRe:lR.getD e.on false with
         | true=>rfl
         | false =>
           have hsz:e.on < ops.size:=Nat.lt_trans hlt (Array.getElem?_eq_some_iff.1 ho).1
           exact (iht e.on hlt _ hGe hRe (Array.getElem?_eq_getElem hsz)).elim
       rw [hR] at hmem
       cases hmem
    have heq:aR=aG:=by
     have h1:aR.tmps=aG.tmps:=Array.ext_getElem? fun d=>hrel.same d fun t o hGt hRt ho=>(hnone t o hGt hRt ho).elim
     have h2:=hrel.defers
     cases aR; cases aG
     simp_all
    have hl:lR=lG:=by
     refine Array.ext (by rw [hrel.sR,hrel.sG]) fun t h1 h2=>?_
     have ho:∃o,ops[t]?=some o:=⟨_,Array.getElem?_eq_getElem (by rw [← hrel.sR]; exact h1)⟩
     obtain ⟨o,ho⟩:=ho
     cases hv:lR[t] with
     | true =>
       have:=hrel.sub t (by simp [h1,hv])
       simpa [h2] using this.symm
     | false =>
       cases hv':lG[t] with
       | false=>rfl
       | true=>exact (hnone t o (by simp [h2,hv']) (by simp [h1,hv]) ho).elim
    cases n with
    | zero=>exact hG.elim
    | succ n =>
      rcases hG with ⟨_,hq⟩ | ⟨i,o,v,hi,_⟩ | ⟨hne,_⟩
      ·rw [heq]; exact hq
      ·rw [← hl,hR] at hi; cases hi
      ·exact absurd (hl ▸ hR) hne
   ·-- number 'j' comes up
    obtain ⟨hjlt,hjR⟩:=Z3w hj
    obtain ⟨hj0,oj,hoj,hall⟩:=mem_ready.1 hj
    have hsel:=ZHr hs j oj hoj
    have hcount:=count_set hj0 hm
    have hjs:j < lR.size:=by rw [hrel.sR]; exact hjlt
    clear hj0
    induction n generalizing lG pend aG with
    | zero=>exact hG.elim
    | succ n ihn =>
      have hlook:=fun d hd=>ZDy hrel hs hj hoj d hd
      by_cases hjG:lG.getD j false=true
      ·-- it is pending: it yields what it yielded
       obtain ⟨_,v,hmem,⟨o',ho',hya⟩,hval⟩:=hrel.held j oj hjG hjR hoj
       rw [hoj] at ho'; cases ho'
       have hnew:Rel P ops (lR.setIfInBounds j true) lG pend (aR.put oj.dst v) aG w:={
        sR:=by simpa using hrel.sR
        sG:=hrel.sG
        cR:=hrel.cR.set hj
        cG:=hrel.cG
        sub:=fun k hk=>by
         by_cases hkj:j=k
         ·subst hkj; exact hjG
         ·rw [Z15 hkj] at hk; exact hrel.sub k hk
        defers:=by rw [Z01]; exact hrel.defers
        size:=by rw [put_size]; exact hrel.size
        same:=fun d hd=>by
         by_cases hdj:oj.dst=some d
         ·rw [hdj]
          by_cases hlt:d < aG.tmps.size
          ·rw [Z3I (by rw [hrel.size]; exact hlt),hval d hdj hlt]
          ·have e1:(aR.put (some d) v).tmps[d]?=none:=Array.getElem?_eq_none (by rw [put_size,hrel.size]; exact Nat.not_lt.1 hlt)
           have e2:aG.tmps[d]?=none:=Array.getElem?_eq_none (Nat.not_lt.1 hlt)
           rw [e1,e2]
         ·rw [Z1J hdj]
          refine hrel.same d fun t o hGt hRt ho=>?_
          by_cases htj:j=t
          ·subst htj; rw [hoj] at ho; cases ho; exact hdj
          ·exact hd t o hGt (by rw [Z15 htj]; exact hRt) ho
        held:=fun t o hGt hRt ho=>by
         by_cases htj:j=t
         ·subst htj; rw [Z19 hjs] at hRt; cases hRt
         ·rw [Z15 htj] at hRt; exact hrel.held t o hGt hRt ho }
       have hnext:=ih (lR.setIfInBounds j true) lG pend (aR.put oj.dst v) aG w (n+1) hcount hnew hG
       unfold wpOp
       simp only [hoj]
       rw [Z5L hlook]
       rcases hya with ⟨hw,hrun⟩ | ⟨hw,rfl⟩
       ·simp only [hw,if_true]
        refine .inl ?_
        unfold Oper.wp
        rw [Z5R hsel hlook,hrun]
        exact hnext
       ·simp only [hw]
        exact hnext
      ·have hjG':lG.getD j false=false:=by simpa using hjG
       have hjrG:j∈Region.ready .any ops lG:=by
        refine mem_ready.2 ⟨?_,oj,hoj,fun e he hb=>hrel.sub _ (hall e he hb)⟩
        have:j < lG.size:=by rw [hrel.sG]; exact hjlt
        simpa [this] using hjG'
       rcases hG with ⟨hnil,_⟩ | ⟨i,oi,v,hi,hoi,hfi,hyi,hG⟩ | ⟨_,hev⟩
       ·rw [hnil] at hjrG; cases hjrG
       ·-- the walk takes another one first
        obtain ⟨hilt,hiG⟩:=Z3w hi
        have his:i < lG.size:=by rw [hrel.sG]; exact hilt
        have hiR:lR.getD i false=false:=by
         cases h:lR.getD i false with
         | false=>rfl
         | true=>rw [hrel.sub i h] at hiG; cases hiG
        refine ihn (lG.setIfInBounds i true) ((i,v) :: pend) (aG.put oi.dst v) ?_ hG
        ·exact {
          sR:=hrel.sR
          sG:=by simpa using hrel.sG
          cR:=hrel.cR
          cG:=hrel.cG.set hi
          sub:=fun k hk=>getD_set_true (hrel.sub k hk)
          defers:=by rw [Z01]; exact hrel.defers
          size:=by rw [put_size]; exact hrel.size
          same:=fun d hd=>by
           have hne:oi.dst≠some d:=hd i oi (Z19 his) hiR hoi
           rw [Z1J hne]
           exact hrel.same d fun t o hGt hRt ho=>hd t o (getD_set_true hGt) hRt ho
          held:=fun t o hGt hRt ho=>by
           by_cases hti:i=t
           ·subst hti
            rw [hoi] at ho; cases ho
            refine ⟨hfi,v,by simp,?_,fun d hd hlt=>?_⟩
            ·refine hyi.of_same hs fun o' ho' d hd=>(Z1J fun hdst=>?_).symm
             rw [hoi] at ho'; cases ho'
             exact ((Z40 hs hoi).2 d hdst).1 hd
            ·rw [hd]; rw [put_size] at hlt; exact Z3I hlt
           ·rw [Z15 hti] at hGt
            obtain ⟨hft,u,hu,hyu,hv⟩:=hrel.held t o hGt hRt ho
            refine ⟨hft,u,by simp [hu],hyu.put_later hs hrel.cG hoi (.inl hfi) hiG hGt,fun d hd hlt=>?_⟩
            rw [put_size] at hlt
            have hne:oi.dst≠some d:=fun he=>((Z40 hs hoi).2 d he).2 t o ho (Ne.symm hti) |>.1 hd
            rw [Z1J hne]
            exact hv d hd hlt }
       ·-- the walk carries it out,too
        refine wpOp_mono ?_ (ZF1 hoj hsel hlook hrel.defers (fun d hd=>hrel.same d (fun t o _ _ ho=>hd t o ho)) hQ (hev j hjrG))
        rintro a' w' ⟨v,ds,rfl,hpend,hG'⟩
        have hjsG:j < lG.size:=by rw [hrel.sG]; exact hjlt
        refine ih (lR.setIfInBounds j true) (lG.setIfInBounds j true) _ _ _ w' n hcount ?_ hG'
        exact {
         sR:=by simpa using hrel.sR
         sG:=by simpa using hrel.sG
         cR:=hrel.cR.set hj
         cG:=hrel.cG.set hjrG
         sub:=fun k hk=>by
          by_cases hkj:j=k
          ·subst hkj; exact Z19 hjsG
          ·rw [Z15 hkj] at hk; exact getD_set_true (hrel.sub k hk)
         defers:=by simp only [Z01,hrel.defers]
         size:=by simp only [put_size,hrel.size]
         same:=fun d hd=>by
          by_cases hdj:oj.dst=some d
          ·rw [hdj]
           by_cases hlt:d < aG.tmps.size
           ·rw [Z3I (by simpa [hrel.size] using hlt),Z3I (by simpa using hlt)]
           ·have e1:(({ aR with defers:=ds++aR.defers }:Act).put (some d) v).tmps[d]?=none:=Array.getElem?_eq_none (by simp only [put_size,hrel.size]; exact Nat.not_lt.1 hlt)
            have e2:(({ aG with defers:=ds++aG.defers }:Act).put (some d) v).tmps[d]?=none:=Array.getElem?_eq_none (by simp only [put_size]; exact Nat.not_lt.1 hlt)
            rw [e1,e2]
          ·rw [Z1J hdj,Z1J hdj]
           refine hrel.same d fun t o hGt hRt ho=>?_
           by_cases htj:j=t
           ·subst htj; rw [hoj] at ho; cases ho; exact hdj
           ·exact hd t o (getD_set_true hGt) (by rw [Z15 htj]; exact hRt) ho
         held:=fun t o hGt hRt ho=>by
          by_cases htj:j=t
          ·subst htj; rw [Z19 hjs] at hRt; cases hRt
          ·rw [Z15 htj] at hRt hGt
           obtain ⟨hft,u,hu,_,hv⟩:=hrel.held t o hGt hRt ho
           have hdt:=Z7J hrel.cR hj hRt
           refine ⟨hft,u,List.mem_filter.2 ⟨hu,by show (!(Z2h ops t).getD j false)=true; rw [hdt]; rfl⟩,hpend (t,u) hu hdt,fun d hd hlt=>?_⟩
           have hne:oj.dst≠some d:=fun he=>((Z40 hs hoj).2 d he).2 t o ho (Ne.symm htj) |>.1 hd
           rw [Z1J hne]
           rw [put_size] at hlt
           exact hv d hd hlt }

theorem ZBu {id n:Nat} {a:Act} {w:World} (hm:P.follows .mixedOrders=true) (hs:ssa ops=true) (hQ:∀c (a a':Act) w,a.defers=a'.defers→(∀d,(∀(t:Nat) o,ops[t]?=some o→o.dst≠some d)→a.tmps[d]?=a'.tmps[d]?)→Q (.panic c) a w→Q (.panic c) a' w)
  (h:wpG P ops Q n (Array.replicate ops.size false) [] a { w with drawn:=w.drawn+1 }):(Code.region id ops true).wp P Q a w:=by
 refine wp_region_any hm (sim hs hQ _ _ _ [] a a _ n ?_ ?_ h)
 ·simp
 ·exact {
   sR:=by simp
   sG:=by simp
   cR:=Z2A.start _ _
   cG:=Z2A.start _ _
   sub:=fun _ h=>h
   defers:=rfl
   size:=rfl
   same:=fun _ _=>rfl
   held:=fun t o h1 h2 _=>by rw [h1] at h2; cases h2 }
end
end Go.Vcg
end
section
namespace Go.Vcg

structure Car where
 (I B S O D N V L M W E J R:Type)

inductive BX (C:Car) where
 | var (b:C.B)
 | icmp (op:BinOp) (a b:C.I)
 | scmp (op:BinOp) (a b:C.S)
 | isNil (o:C.O)
 | isNilM (m:C.M)
 | not (a:BX C)

inductive SV (C:Car) where
 | bool (b:BX C)
 | blit (b:Bool)
 | int (k:IntKind) (n:C.I)
 | ilit (k:IntKind) (n:Int)
 | str (s:C.S)
 | ptr (o:C.O)
 | addr (d:C.D)
 | slice (o:C.O) (len cap:C.N)
 | map (m:C.M)
 | func (fn:Fn) (first cap:List (SV C))
 | iface (t:TypeId) (v:SV C)
 | nilIface
 | nilFunc
 | agg (cs:List (SV C))
 | big (n:Nat) (l:C.L)
 | tup (vs:List (SV C))
 | raw (v:C.V)

inductive Z76 where
 | int (k:IntKind) | bool | str | ptr | slice | map | raw | addr
 deriving DecidableEq,Repr,Inhabited
inductive Shape1 where
 | cell (c:Z76)
 | agg (cs:List Z76)
 | big (n:Nat)
 deriving Repr,Inhabited
inductive Shape where
 | one (s:Shape1)
 | tup (ss:List Shape1)
 deriving Repr,Inhabited

abbrev Env (C:Car):=List (Nat×SV C)
def Z3g {C:Car}:Env C→Nat→SV C
 | [],_=>.tup []
 | (u,v) :: r,t=>bif Nat.beq u t then v else Z3g r t

structure Alg (C:Car) where
 il:Int→C.I
 nl:Nat→C.N
 sl:ByteArray→C.S
 onil:C.O
 osome:C.D→C.O
 mnil:C.M
 dl:Nat→Nat→C.D
 wrap:IntKind→C.I→C.I
 add:C.I→C.I→C.I
 sub:C.I→C.I→C.I
 mul:C.I→C.I→C.I
 tdiv:C.I→C.I→C.I
 tmod:C.I→C.I→C.I
 fdiv:C.I→C.I→C.I
 bits:BinOp→IntKind→C.I→C.I→C.I
 shl:IntKind→C.I→C.I→C.I
 shr:IntKind→C.I→C.I→C.I
 ssize:C.S→C.N
 sext:C.S→C.N→C.N→C.S
 sat:C.S→C.N→C.I
 n2i:C.N→C.I
 i2n:C.I→C.N
 nsub:C.N→C.N→C.N
 nmul:C.N→Nat→C.N
 dadd:C.D→C.N→C.D
 osub:C.O→C.N→C.N→Nat→C.O
 dsub:C.D→Nat→C.N→Nat→C.D
 lext:C.L→Nat→Nat→C.L
 lget:C.L→Nat→C.V
 lconst:Value→C.L
 vlit:Value→C.V
 lput:C.L→Nat→List (SV C)→C.L
 lputL:C.L→Nat→Nat→C.L→C.L
 junk:C.J→Nat→C.V
 /-- v fills one cell -/
 one:C.V→C.R→C.R
 /-- l has n cells -/
 lsz:C.L→Nat→C.R→C.R
 fail:String→C.R
 and:C.R→C.R→C.R
 imp:BX C→Bool→C.R→C.R
 exI:(C.I→C.R)→C.R
 exB:(C.B→C.R)→C.R
 exS:(C.S→C.R)→C.R
 exO:(C.O→C.R)→C.R
 exD:(C.D→C.R)→C.R
 exN:(C.N→C.R)→C.R
 exV:(C.V→C.R)→C.R
 exL:(C.L→C.R)→C.R
 exM:(C.M→C.R)→C.R
 allI:(C.I→C.R)→C.R
 allB:(C.B→C.R)→C.R
 allS:(C.S→C.R)→C.R
 allO:(C.O→C.R)→C.R
 allN:(C.N→C.R)→C.R
 allV:(C.V→C.R)→C.R
 allL:(C.L→C.R)→C.R
 allM:(C.M→C.R)→C.R
 cellEq:C.W→C.D→SV C→C.R→C.R
 cellsEq:C.W→C.D→Nat→C.L→C.R→C.R
 endEq:C.E→SV C→C.R→C.R
 valEq:C.V→SV C→C.R→C.R
 okO:C.O→C.D→C.R→C.R
 /-- 0≤i < n -/
 rng:C.I→C.N→C.R→C.R
 /-- 0≤i≤n -/
 rle:C.I→C.N→C.R→C.R
 /-- a≤b -/
 nle:C.N→C.N→C.R→C.R
 neZ:C.I→C.R→C.R
 geZ:C.I→C.R→C.R
 ifNil:C.V→C.R→C.R→C.R
 isIf:C.V→C.R→C.R
 okM:C.V→String→C.R→C.R
 imax:C.I→C.I→C.I
 imin:C.I→C.I→C.I
 st:C.W→C.D→SV C→(C.W→C.R)→C.R
 new:TypeId→List (SV C)→C.W→(C.D→C.W→C.R)→C.R
 newL:TypeId→Nat→C.L→C.W→(C.D→C.W→C.R)→C.R
 drew:C.W→(C.W→C.R)→C.R
 call:FuncId→List (SV C)→C.W→(C.E→C.W→C.R)→C.R
 callV:C.V→List (SV C)→C.W→(C.E→C.W→C.R)→C.R
 callM:C.V→String→List (SV C)→C.W→(C.E→C.W→C.R)→C.R
 ext:FuncId→List (SV C)→C.W→(C.V→C.W→C.R)→C.R
 read:Oper→(Operand→SV C)→C.W→(C.V→C.R)→C.R
 reread:Oper→(Operand→SV C)→SV C→C.W→C.R→C.R
 run:Oper→(Operand→SV C)→C.W→(C.V→C.W→C.R)→C.R
 runU:Oper→(Operand→SV C)→C.W→(C.W→C.R)→C.R
 done:SV C→C.W→C.R
 panic:SV C→C.W→C.R
 join:List Shape1→((List (SV C)→C.W→C.R)→C.R)→(List (SV C)→C.J→C.W→C.R)→C.R
 loop:List Shape1→List (SV C)→C.W→(List (SV C)→C.J→C.W→(List (SV C)→C.W→C.R)→C.R)→C.R

section
variable {C:Car} (A:Alg C) (P:Program)

def und (t:TypeId):TypeDesc:=(P.underlying t).getD .invalid
def Z0i (t:TypeId):Nat:=((P.info? t).map (·.size)).getD 0
def ZFx:TypeDesc→Z76
 | .int k=>.int k
 | .bool=>.bool
 | .string=>.str
 | .pointer _=>.ptr
 | .slice _=>.slice
 | .map _ _=>.map
 | _=>.raw
def Z6T:TypeDesc→Bool
 | .struct _ | .array _ _=>true
 | _=>false
def ZC4:Nat→TypeId→List Z76
 | 0,_=>[]
 | n+1,t=>match und P t with
   | .struct fs=>fs.toList.flatMap fun f=>ZC4 n f.type
   | .array k e=>(List.replicate k (ZC4 n e)).flatten
   | d=>[ZFx d]
def Z4M:Nat:=8
def Z3e (t:TypeId):Shape1 :=
 match und P t with
 | .struct _ | .array _ _=>if Z0i P t≤Z4M∧(ZC4 P 8 t).length=Z0i P t then .agg (ZC4 P 8 t) else .big (Z0i P t)
 | d=>.cell (ZFx d)
def Z8o (t:TypeId):Shape :=
 match und P t with
 | .tuple ts=>.tup (ts.toList.map (Z3e P))
 | _=>.one (Z3e P t)

def ZI1 (o:Oper):Shape :=
 match o.op with
 | .typeAssert _ _ t true=>.tup [Z3e P t,.cell .bool]
 | _=>Z8o P o.type

def ZA5:Z76→(SV C→C.R)→C.R
 | .int k,f=>A.exI fun n=>f (.int k n)
 | .bool,f=>A.exB fun b=>f (.bool (.var b))
 | .str,f=>A.exS fun s=>f (.str s)
 | .ptr,f=>A.exO fun o=>f (.ptr o)
 | .slice,f=>A.exO fun o=>A.exN fun l=>A.exN fun c=>f (.slice o l c)
 | .map,f=>A.exM fun m=>f (.map m)
 | .raw,f=>A.exV fun v=>f (.raw v)
 | .addr,f=>A.exD fun d=>f (.addr d)
def Z66:List Z76→(List (SV C)→C.R)→C.R
 | [],f=>f []
 | c :: cs,f=>ZA5 A c fun v=>Z66 cs fun vs=>f (v :: vs)
def Z97:Shape1→(SV C→C.R)→C.R
 | .cell c,f=>ZA5 A c f
 | .agg cs,f=>Z66 A cs fun vs=>f (.agg vs)
 | .big n,f=>A.exL fun l=>f (.big n l)
def Z7L:List Shape1→(List (SV C)→C.R)→C.R
 | [],f=>f []
 | s :: ss,f=>Z97 A s fun v=>Z7L ss fun vs=>f (v :: vs)
def Z3n:Shape→(SV C→C.R)→C.R
 | .one s,f=>Z97 A s f
 | .tup ss,f=>Z7L A ss fun vs=>f (.tup vs)
def Z2j:Value→SV C
 | .bool b=>.blit b
 | .int k n=>.ilit k n
 | .string s=>.str (A.sl s)
 | .pointer o=>match o with
   | none=>.ptr A.onil
   | some d=>match d.spot with
     | none=>.addr (A.dl d.block d.off)
     | some _=>.raw (A.vlit (.pointer (some d)))
 | .slice o l c=>match o with
   | none=>.slice A.onil (A.nl l) (A.nl c)
   | some _=>.raw (A.vlit (.slice o l c))
 | .map m=>match m with
   | none=>.map A.mnil
   | some _=>.raw (A.vlit (.map m))
 | .nilIface=>.nilIface
 | .nilFunc=>.nilFunc
 | .tuple vs=>if vs.size=0 then .tup [] else .raw (A.vlit (.tuple vs))
 | v=>.raw (A.vlit v)
def Z6L:Value→List (SV C)
 | .agg cs=>cs.toList.map (Z2j A)
 | z=>[Z2j A z]
def ZFW:Value→SV C
 | .agg cs=>if cs.size≤Z4M then .agg (cs.toList.map (Z2j A)) else .big cs.size (A.lconst (.agg cs))
 | .iface t v=>.iface t (Z2j A v)
 | v=>Z2j A v
def ev (env:Env C):Operand→SV C
 | .tmp t=>Z3g env t
 | .const v=>ZFW A v
 | .global g=>.addr (A.dl g 0)
 | .func f=>.func (.func f) [] []

def asI:SV C→Option (IntKind×C.I)
 | .int k n=>some (k,n)
 | .ilit k n=>some (k,A.il n)
 | _=>none

def ZCP:BinOp→Int→Int→Option Bool
 | .eql,a,b=>some (a == b)
 | .neq,a,b=>some (a != b)
 | .lss,a,b=>some (decide (a < b))
 | .leq,a,b=>some (decide (a≤b))
 | .gtr,a,b=>some (decide (a > b))
 | .geq,a,b=>some (decide (a≥b))
 | _,_,_=>none

def binS (op:BinOp) (x y:SV C) (k:SV C→C.R):Option C.R :=
 match x,y with
 | .str a,.str b =>
   match op with
   | .eql | .neq | .lss | .leq | .gtr | .geq=>some (k (.bool (.scmp op a b)))
   | _=>none
 | .ilit ka a,.ilit kb b =>
   match op with
   | .add=>if ka=kb then some (k (.ilit ka (ka.wrap (a+b)))) else none
   | .sub=>if ka=kb then some (k (.ilit ka (ka.wrap (a - b)))) else none
   | .mul=>if ka=kb then some (k (.ilit ka (ka.wrap (a * b)))) else none
   | _=>match ZCP op a b with
     | some t=>if ka=kb then some (k (.blit t)) else none
     | none=>none
 | x,y =>
   match asI A x,asI A y with
   | some (ka,a),some (kb,b) =>
     match op with
     | .shl=>match y with
       | .ilit _ c=>if 0≤c then some (k (.int ka (A.wrap ka (A.mul a (A.il (2 ^ min c.toNat ka.bits)))))) else none
       | _=>some (A.geZ b (k (.int ka (A.shl ka a b))))
     | .shr=>match y with
       | .ilit _ c=>if 0≤c then some (k (.int ka (A.fdiv a (A.il (2 ^ min c.toNat ka.bits))))) else none
       | _=>some (A.geZ b (k (.int ka (A.shr ka a b))))
     | _ =>
       if ka=kb then
        match op with
        | .add=>some (k (.int ka (A.wrap ka (A.add a b))))
        | .sub=>some (k (.int ka (A.wrap ka (A.sub a b))))
        | .mul=>some (k (.int ka (A.wrap ka (A.mul a b))))
        | .quo=>match y with
          | .ilit _ c=>if c=0 then none else some (k (.int ka (A.wrap ka (A.tdiv a b))))
          | _=>some (A.neZ b (k (.int ka (A.wrap ka (A.tdiv a b)))))
        | .rem=>match y with
          | .ilit _ c=>if c=0 then none else some (k (.int ka (A.tmod a b)))
          | _=>some (A.neZ b (k (.int ka (A.tmod a b))))
        | .and | .or | .xor | .andNot=>some (k (.int ka (A.bits op ka a b)))
        | .eql | .neq | .lss | .leq | .gtr | .geq=>some (k (.bool (.icmp op a b)))
        | _=>none
       else none
   | _,_=>none

inductive ZHL (C:Car) where
 | b (x:BX C)
 | lit (b:Bool)
 | either (v:C.V)
def ZFT (d:TypeDesc) (cx cy:Bool) (x y:SV C):Option (ZHL C) :=
 match d,x,y with
 | .interface _,.nilIface,.nilIface=>if cx || cy then some (.lit true) else none
 | .interface _,.iface _ _,.nilIface=>some (.lit false)
 | .interface _,.nilIface,.iface _ _=>some (.lit false)
 | .interface _,.raw v,.nilIface=>if cx || cy then some (.either v) else none
 | .pointer _,.ptr o,.ptr _=>if cy then some (.b (.isNil o)) else none
 | .pointer _,.addr _,.ptr _=>if cy then some (.lit false) else none
 | .slice _,.slice o _ _,.slice _ _ _=>if cy then some (.b (.isNil o)) else none
 | .map _ _,.map o,.map _=>if cy then some (.b (.isNilM o)) else none
 | _,_,_=>none
def nilK (A:Alg C) (neg:Bool) (k:SV C→C.R):ZHL C→C.R
 | .b x=>k (.bool (if neg then .not x else x))
 | .lit b=>k (.blit (if neg then !b else b))
 | .either v=>A.ifNil v (k (.blit (!neg))) (k (.blit neg))
def nilS (op:BinOp) (d:TypeDesc) (cx cy:Bool) (x y:SV C) (k:SV C→C.R):Option C.R :=
 match op with
 | .eql=>(ZFT d cx cy x y).map (nilK A false k)
 | .neq=>(ZFT d cx cy x y).map (nilK A true k)
 | _=>none

def Zi:Operand→Bool
 | .const .nilIface | .const (.pointer none) | .const (.slice none _ _) | .const (.map none)=>true
 | _=>false

def ZGA:List (SV C)→C.R→C.R
 | [],r=>r
 | .raw v :: vs,r=>A.one v (ZGA vs r)
 | _ :: vs,r=>ZGA vs r
def Z5P:SV C→Option (List (SV C))
 | .agg cs=>some cs
 | .big _ _=>none
 | .tup _=>none
 | v=>some [v]

def Z9R:List (SV C)→Nat→List (SV C)→List (SV C)
 | l,_,[]=>l
 | l,i,v :: vs=>Z9R (l.set i v) (i+1) vs

def Z3W (place:Nat→Option (Nat×Nat)) (ev:Operand→SV C):List (SV C)→List (Nat×Operand)→Option (List (SV C))
 | cells,[]=>some cells
 | cells,(i,x) :: rest=>match place i with
   | none=>none
   | some (off,size)=>match Z5P (ev x) with
     | none=>none
     | some vs=>if vs.length=size∧off+size≤cells.length then Z3W place ev (Z9R cells off vs) rest else none
def Z3i (place:Nat→Option (Nat×Nat)) (ev:Operand→SV C) (n:Nat):C.L→List (Nat×Operand)→(C.L→C.R)→Option C.R
 | l,[],k=>some (k l)
 | l,(i,x) :: rest,k=>match place i with
   | none=>none
   | some (off,size) =>
     match ev x with
     | .big m l'=>if m=size∧off+size≤n then (Z3i place ev n (A.lputL l off m l') rest k).map (A.lsz l' m) else none
     | v=>match Z5P v with
       | none=>none
       | some vs=>if vs.length=size∧off+size≤n then Z3i place ev n (A.lput l off vs) rest k else none
def ZEU (t:TypeId):Option (Nat→Option (Nat×Nat)) :=
 match P.underlying t with
 | some (.array _ e)=>match P.info? e with
   | some ie=>some fun i=>some (i * ie.size,ie.size)
   | none=>none
 | some (.struct fields)=>(fields.toList.mapM fun f=>(P.info? f.type).map fun i=>(f.offset,i.size)).map fun places i=>places.toArray[i]?
 | _=>none
def Z4x (t:TypeId):Option Value:=(P.info? t).bind (·.zero)

def ZBV:List (SV C)→C.L→Nat→Nat→C.R→C.R
 | [],_,_,_,r=>r
 | v :: vs,l,off,i,r=>A.valEq (A.lget l (off+i)) v (ZBV vs l off (i+1) r)
def ZFa (t:TypeId) (x:SV C) (off:Nat) (k:SV C→C.R):Option C.R :=
 match Z3e P t,x with
 | .cell _,.agg cs=>(cs[off]?).map k
 | .cell c,.big n l=>if off < n then some (A.lsz l n (ZA5 A c fun sv=>A.valEq (A.lget l off) sv (k sv))) else none
 | .agg ds,.agg cs=>if off+ds.length≤cs.length then some (k (.agg ((cs.drop off).take ds.length))) else none
 | .agg ds,.big n l=>if off+ds.length≤n then some (A.lsz l n (Z66 A ds fun svs=>ZBV A svs l off 0 (k (.agg svs)))) else none
 | .big m,.big n l=>if off+m≤n then some (A.lsz l n (k (.big m (A.lext l off m)))) else none
 | _,_=>none

def ZDk (x:SV C) (most:C.N) (k:C.N→C.R):Option C.R :=
 match x with
 | .ilit _ n=>if 0≤n then some (A.nle (A.nl n.toNat) most (k (A.nl n.toNat))) else none
 | .int _ n=>some (A.rle n most (k (A.i2n n)))
 | _=>none

def hiS (hi:Option (SV C)) (dflt most:C.N) (low:C.N→Option C.R):Option C.R :=
 match hi with
 | none=>low dflt
 | some (.ilit _ n)=>if 0≤n then (low (A.nl n.toNat)).map (A.nle (A.nl n.toNat) most) else none
 | some (.int _ n)=>(low (A.i2n n)).map (A.rle n most)
 | _=>none
def loS (lo:Option (SV C)) (h:C.N) (k0:C.R) (k:C.N→C.R):Option C.R :=
 match lo with
 | none=>some k0
 | some (.ilit _ 0)=>some k0
 | some x=>ZDk A x h k
def ZEo (t:TypeId) (x:SV C) (lo hi:Option (SV C)) (k:SV C→C.R):Option C.R :=
 match und P t,x with
 | .slice e,.slice o len cap =>
   if (P.info? e).isSome then hiS A hi len cap fun h=>loS A lo h (k (.slice o h cap)) fun l=>k (.slice (A.osub o cap l (Z0i P e)) (A.nsub h l) (A.nsub cap l)) else none
 | .array n e,.addr d =>
   if (P.info? e).isSome then hiS A hi (A.nl n) (A.nl n) fun h=>loS A lo h (k (.slice (A.osome d) h (A.nl n))) fun l=>k (.slice (A.osome (A.dsub d n l (Z0i P e))) (A.nsub h l) (A.nsub (A.nl n) l)) else none
 | .string,.str s =>
   hiS A hi (A.ssize s) (A.ssize s) fun h=>loS A lo h (k (.str (A.sext s (A.nl 0) h))) fun l=>k (.str (A.sext s l h))
 | _,_=>none

def Z1g (o:Oper) (ev:Operand→SV C) (k:SV C→C.R):Option C.R :=
 match o.op with
 | .move x | .assign x=>some (k (ev x))
 | .pick c a b=>match ev c with
   | .blit t=>some (k (if t then ev a else ev b))
   | .bool b'=>some (A.and (A.imp b' true (k (ev a))) (A.imp b' false (k (ev b))))
   | _=>none
 | .build t parts=>match Z4x P t,ZEU P t with
   | some (.agg cs),some place =>
     if cs.size≤Z4M then (Z3W place ev (cs.toList.map (Z2j A)) parts.toList).map fun l=>ZGA A (parts.toList.map fun p=>ev p.2) (k (.agg l))
     else (Z3i A place ev cs.size (A.lconst (.agg cs)) parts.toList fun l=>k (.big cs.size l)).map (ZGA A (parts.toList.map fun p=>ev p.2))
   | _,_=>none
 | .nilCheck x=>match ev x with
   | .addr d=>some (k (.addr d))
   | .ptr o=>some (A.exD fun d=>A.okO o d (k (.addr d)))
   | .func (.func f) a b=>some (k (.func (.func f) a b))
   | .iface t v=>some (k (.iface t v))
   | .raw v=>some (A.isIf v (k (.raw v)))
   | .func (.method m) [.raw v] []=>some (A.okM v m (k (.func (.method m) [.raw v] [])))
   | _=>none
 | .binOp op t x y _=>match binS A op (ev x) (ev y) k with
   | some r=>some r
   | none=>nilS A op (und P t) (Zi x) (Zi y) (ev x) (ev y) k
 | .unOp op _ x=>match op,ev x with
   | .not,.bool b=>some (k (.bool (.not b)))
   | .not,.blit b=>some (k (.blit (!b)))
   | .neg,.int ka n=>some (k (.int ka (A.wrap ka (A.sub (A.il 0) n))))
   | .neg,.ilit ka n=>some (k (.ilit ka (ka.wrap (0 - n))))
   | .xor,.int ka n=>some (k (.int ka (A.bits .xor ka (A.il (if ka.signed then -1 else ka.max)) n)))
   | _,_=>none
 | .convert src dst x=>if (P.underlying src).isNone then none else match und P dst,ev x with
   | .int kd,.int _ n=>some (k (.int kd (A.wrap kd n)))
   | .int kd,.ilit _ n=>some (k (.ilit kd (kd.wrap n)))
   | .string,.str s=>match und P src with
     | .string=>some (k (.str s))
     | _=>none
   | _,_=>none
 | .makeInterface t x=>match und P t with
   | .interface _ | .invalid=>none
   | _=>some (k (.iface t (ev x)))
 | .makeFunc fn a b=>some (k (.func fn (a.toList.map ev) (b.toList.map ev)))
 | .slice t x lo hi none=>ZEo A P t (ev x) (lo.map ev) (hi.map ev) k
 | .fieldAddr s x f=>match ev x,und P s with
   | .addr d,.struct fs=>match fs[f]? with
     | some fd=>if Z0i P fd.type=0 then none else if (P.underlying fd.type).isNone then none else some (k (.addr (if fd.offset=0 then d else A.dadd d (A.nl fd.offset))))
     | none=>none
   | _,_=>none
 | .field s x f=>match und P s with
   | .struct fs=>match fs[f]? with
     | some fd=>if (P.underlying fd.type).isNone then none else ZFa A P fd.type (ev x) fd.offset k
     | none=>none
   | _=>none
 | .indexAddr t x i=>match und P t,ev x with
   | .slice e,.slice o len _=>match asI A (ev i) with
     | some (_,n)=>if (P.info? e).isNone then none else some (A.exD fun d=>A.okO o d (A.rng n len (k (.addr (A.dadd d (idx (Z0i P e) (ev i) n))))))
     | none=>none
   | .array m e,.addr d=>if (P.info? e).isNone then none else match ev i with
     | .ilit _ n=>if 0≤n∧n < m then some (k (.addr (if n=0 then d else A.dadd d (A.nl (n.toNat * Z0i P e))))) else none
     | .int _ n=>some (A.rng n (A.nl m) (k (.addr (A.dadd d (if Z0i P e=1 then A.i2n n else A.nmul (A.i2n n) (Z0i P e))))))
     | _=>none
   | _,_=>none
 | .index t x i=>match und P t,ev x,ev i with
   | .array m e,v,.ilit _ n=>if (P.underlying e).isNone then none else if 0≤n∧n < m then ZFa A P e v (n.toNat * Z0i P e) k else none
   | .string,.str s,i=>match asI A i with
     | some (_,n)=>some (A.rng n (A.ssize s) (k (.int .u8 (A.sat s (A.i2n n)))))
     | none=>none
   | _,_,_=>none
 | .extract x i=>match ev x with
   | .tup vs=>(vs[i]?).map k
   | _=>none
 | .sliceToArrayPointer t x=>match und P t,ev x with
   | .array n _,.slice o len _=>some (A.nle (A.nl n) len (k (.ptr o)))
   | _,_=>none
 | .call c=>match c.callee,c.args.toList,c.argTypes.toList with
   | .builtin .len,[x],[t]=>match und P t,ev x with
     | .slice _,.slice _ l _=>some (k (.int .i64 (A.n2i l)))
     | .string,.str s=>some (k (.int .i64 (A.n2i (A.ssize s))))
     | .array n _,_=>some (k (.ilit .i64 n))
     | _,_=>none
   | .builtin .cap,[x],[t]=>match und P t,ev x with
     | .slice _,.slice _ _ c=>some (k (.int .i64 (A.n2i c)))
     | _,_=>none
   | .builtin .max,[x,y],_=>match asI A (ev x),asI A (ev y) with
     | some (ka,a),some (kb,b)=>if ka=kb then some (k (.int ka (A.imax a b))) else none
     | _,_=>none
   | .builtin .min,[x,y],_=>match asI A (ev x),asI A (ev y) with
     | some (ka,a),some (kb,b)=>if ka=kb then some (k (.int ka (A.imin a b))) else none
     | _,_=>none
   | _,_,_=>none
 | _=>none
 where
 idx (sz:Nat) (i:SV C) (n:C.I):C.N:=match i with
  | .ilit _ c=>A.nl (c.toNat * sz)
  | _=>if sz=1 then A.i2n n else A.nmul (A.i2n n) sz

def ZEY (o:Oper):Bool :=
 match o.op with
 | .move _ | .assign _ | .pick .. | .build .. | .load .. | .nilCheck _ | .binOp .. | .unOp .. | .makeInterface .. | .makeFunc .. | .slice .. | .fieldAddr .. | .field ..
 | .indexAddr .. | .index .. | .lookup .. | .extract .. | .sliceToArrayPointer .. | .typeAssert ..=>true
 | .convert _ dst _=>match und P dst with
   | .slice _=>false
   | _=>true
 | .call c=>match c.callee with
   | .builtin .len | .builtin .cap | .builtin .max | .builtin .min=>true
   | _=>false
 | _=>false

def Z91 (w:C.W) (d:C.D):Nat→List (SV C)→C.R→C.R
 | _,[],r=>r
 | i,v :: vs,r=>A.cellEq w (if i=0 then d else A.dadd d (A.nl i)) v (Z91 w d (i+1) vs r)

def ZEF (t:TypeId) (d:C.D) (w:C.W) (k:SV C→C.R):C.R :=
 if (P.underlying t).isNone then A.fail "load: type" else
 match Z3e P t with
 | .cell c=>ZA5 A c fun sv=>A.cellEq w d sv (k sv)
 | .agg cs=>Z66 A cs fun svs=>Z91 A w d 0 svs (k (.agg svs))
 | .big n=>A.exL fun l=>A.cellsEq w d n l (k (.big n l))
def Z6H (t:TypeId) (d:C.D) (w:C.W) (sv:SV C) (r:C.R):C.R :=
 match Z3e P t,sv with
 | .cell _,sv=>A.cellEq w d sv r
 | .agg _,.agg svs=>Z91 A w d 0 svs r
 | .big n,.big _ l=>A.cellsEq w d n l r
 | _,_=>A.fail "load"
def ZCa (o:Oper) (ev:Operand→SV C) (w:C.W) (k:SV C→C.R):C.R :=
 match o.op with
 | .load t x=>match ev x with
   | .addr d=>ZEF A P t d w k
   | .ptr o=>A.exD fun d=>A.okO o d (ZEF A P t d w k)
   | _=>A.fail "load: no address"
 | _=>A.read o ev w fun v=>Z3n A (ZI1 P o) fun sv=>A.valEq v sv (k sv)
def Z4g (o:Oper) (ev:Operand→SV C) (sv:SV C) (w:C.W) (r:C.R):C.R :=
 match o.op with
 | .load t x=>match ev x with
   | .addr d=>Z6H A P t d w sv r
   | .ptr o=>A.exD fun d=>A.okO o d (Z6H A P t d w sv r)
   | _=>A.fail "load: no address"
 | _=>A.reread o ev sv w r

def ZHA (d:C.D):Nat→List (SV C)→C.W→(C.W→C.R)→C.R
 | _,[],w,k=>k w
 | i,v :: vs,w,k=>A.st w (if i=0 then d else A.dadd d (A.nl i)) v fun w=>ZHA d (i+1) vs w k

def Z8N (f:FuncId):Bool:=match P.funcs[f]? with
 | some fn=>fn.body.isSome && fn.name != "runtime.NumGoroutine"
 | none=>false
def ZGN (f:FuncId):Bool:=match P.funcs[f]? with
 | some fn=>fn.body.isNone
 | none=>false

def evOp (o:Oper) (ev:Operand→SV C) (w:C.W) (k:SV C→C.W→C.R):C.R :=
 let res (e:C.E) (w:C.W):C.R:=Z3n A (Z8o P o.type) fun sv=>A.endEq e sv (k sv w)
 let ran:C.R:=A.run o ev w fun v w=>Z3n A (Z8o P o.type) fun sv=>A.valEq v sv (k sv w)
 match o.op with
 | .alloc t=>match Z4x P t with
   | some (.agg cs)=>if cs.size≤Z4M then A.new t (cs.toList.map (Z2j A)) w fun d w=>k (.addr d) w else A.newL t cs.size (A.lconst (.agg cs)) w fun d w=>k (.addr d) w
   | some z=>A.new t [Z2j A z] w fun d w=>k (.addr d) w
   | none=>A.fail "alloc: no zero"
 | .box t x=>match ev x with
   | .big n l=>A.newL t n l w fun d w=>k (.addr d) w
   | v=>match Z5P v with
     | some cs=>ZGA A [v] (A.new t cs w fun d w=>k (.addr d) w)
     | none=>A.fail "box: no cells"
 | .buildSlice t n parts=>match und P t with
   | .slice e=>match Z4x P e with
     | some z =>
       if (Z6L A z).length=Z0i P e∧n * Z0i P e≤256∧(1 < n∨Z0i P e≤Z4M) then
        match Z3W (fun i=>some (i * Z0i P e,Z0i P e)) ev ((List.replicate n (Z6L A z)).flatten) parts.toList with
        | some cells=>ZGA A (parts.toList.map fun p=>ev p.2) (A.new e cells w fun d w=>k (.slice (A.osome d) (A.nl n) (A.nl n)) w)
        | none=>A.fail "buildSlice: parts"
       else if n=1∧(Z6L A z).length=Z0i P e∧Z0i P e≤4096 then
        match Z3i A (fun i=>some (i * Z0i P e,Z0i P e)) ev (Z0i P e) (A.lconst z) parts.toList fun l=>A.newL e (Z0i P e) l w fun d w=>k (.slice (A.osome d) (A.nl n) (A.nl n)) w with
        | some r=>ZGA A (parts.toList.map fun p=>ev p.2) r
        | none=>A.fail "buildSlice: parts"
       else A.fail "buildSlice: size"
     | none=>A.fail "buildSlice: zero"
   | _=>A.fail "buildSlice: type"
 | .store t x y=>match ev x with
   | .addr d=>match Z5P (ev y) with
     | some cs=>if cs.length=Z0i P t∧(P.info? t).isSome then ZHA A d 0 cs w fun w=>k (.tup []) w else A.fail "store: size"
     | none=>A.runU o ev w fun w=>k (.tup []) w
   | _=>A.fail "store: no address"
 | .mapUpdate .. | .insert .. | .entryStore ..=>A.runU o ev w fun w=>k (.tup []) w
 | .call c =>
   let args:=c.args.toList.map ev
   match c.callee with
   | .builtin _=>ran
   | .value f=>match ev f with
     | .func (.func f) first cap =>
       if Z8N P f then A.call f (first++args++cap) w res
       else if ZGN P f then A.ext f (first++args++cap) w fun v w=>Z3n A (Z8o P o.type) fun sv=>A.valEq v sv (k sv w)
       else A.fail "call: what function?"
     | .func (.method m) [.raw v] []=>A.callM v m args w res
     | .raw v=>A.callV v args w res
     | _=>A.fail "call: no function"
   | .invoke x m=>match ev x with
     | .raw v=>A.callM v m args w res
     | _=>A.fail "invoke: no interface value"
 | .range .. | .next .. | .entry ..=>A.run o ev w fun v w=>k (.raw v) w
 | .makeMap .. | .makeSlice .. | .convert .. | .mapEntry ..=>ran
 | .panic x=>match ev x with
   | .iface t v=>A.panic (.iface t v) w
   | _=>A.fail "panic: no interface value"
 | _=>A.fail "no such operation"

def doOp (o:Oper) (env:Env C) (w:C.W) (k:SV C→C.W→C.R):C.R :=
 match Z1g A P o (ev A env) fun sv=>k sv w with
 | some r=>r
 | none=>if ZEY P o then ZCa A P o (ev A env) w fun sv=>k sv w else evOp A P o (ev A env) w k

def ZDP (env:Env C) (dst:Option Tmp) (v:SV C):Env C:=match dst with
 | some d=>(d,v) :: env
 | none=>env

def ZAD (ops:Array Oper) (o:Oper) (env:Env C) (yes no:Env C→C.R):C.R :=
 match o.guard with
 | none=>yes env
 | some (j,want)=>match (ops[j]?).bind (·.dst) with
   | none=>no env
   | some t=>match Z3g env t with
     | .blit b=>if b == want then yes env else no env
     | .bool b=>A.and (A.imp b true (if want then yes ((t,.blit true) :: env) else no ((t,.blit true) :: env)))
      (A.imp b false (if want then no ((t,.blit false) :: env) else yes ((t,.blit false) :: env)))
     | .tup []=>no env
     | _=>A.fail "guard"

def Z6G (ops:Array Oper):List Oper→Env C→C.W→(Env C→C.W→C.R)→C.R
 | [],env,w,k=>k env w
 | o :: rest,env,w,k=>ZAD A ops o env
     (fun env=>doOp A P o env w fun sv w=>Z6G ops rest (ZDP env o.dst sv) w k)
     (fun env=>Z6G ops rest (ZDP env o.dst (.tup [])) w k)

structure ZFs (C:Car) where
 i:Nat
 again:C.W→C.R→C.R

def Z3h (ops:Array Oper) (j:Nat) (w:C.W):List (ZFs C)→C.R→C.R
 | [],r=>r
 | p :: ps,r=>if (Z2h ops p.i).getD j false then Z3h ops j w ps r else p.again w (Z3h ops j w ps r)

def ZDe:List C.R→C.R
 | []=>A.fail "nobody may come up"
 | [r]=>r
 | r :: rs=>A.and r (ZDe rs)

def Z3X (ops:Array Oper):List Nat→Option Nat
 | []=>none
 | i :: r=>match ops[i]? with
   | some o=>if ZEY P o && ZG0 ops i then some i else Z3X ops r
   | none=>Z3X ops r

def Z3x (ops:Array Oper):Nat→Array Bool→List (ZFs C)→Env C→C.W→(Env C→C.W→C.R)→C.R
 | 0,_,_,_,_,_=>A.fail "region: fuel"
 | n+1,listed,pend,env,w,k =>
   match Region.ready .any ops listed with
   | []=>k env w
   | rs =>
     match Z3X P ops rs with
     | some i=>match ops[i]? with
       | none=>A.fail "region"
       | some o=>ZAD A ops o env
         (fun env=>match Z1g A P o (ev A env) fun sv=>Z3x ops n (listed.setIfInBounds i true) pend (ZDP env o.dst sv) w k with
           | some r=>r
           | none=>ZCa A P o (ev A env) w fun sv =>
            Z3x ops n (listed.setIfInBounds i true) (⟨i,Z4g A P o (ev A env) sv⟩ :: pend) (ZDP env o.dst sv) w k)
         (fun env=>Z3x ops n (listed.setIfInBounds i true) pend (ZDP env o.dst (.tup [])) w k)
     | none=>ZDe A (rs.map fun j=>match ops[j]? with
       | none=>A.fail "region"
       | some o=>ZAD A ops o env
         (fun env=>doOp A P o env w fun sv w=>Z3h ops j w pend (Z3x ops n (listed.setIfInBounds j true) (pend.filter fun p=> !(Z2h ops p.i).getD j false) (ZDP env o.dst sv) w k))
         (fun env=>Z3h ops j w pend (Z3x ops n (listed.setIfInBounds j true) (pend.filter fun p=> !(Z2h ops p.i).getD j false) (ZDP env o.dst (.tup [])) w k)))

structure Kont (C:Car) where
 nrm:Env C→C.W→C.R
 exit:Nat→Env C→C.W→C.R
 ret:Env C→C.W→C.R

def Zr:Code→List Tmp
 | .region _ ops _=>ops.toList.filterMap (·.dst)
 | .seq a b=>Zr a++Zr b
 | .cond _ a b=>Zr a++Zr b
 | .block _ c=>Zr c
 | .loop c=>Zr c
 | _=>[]
def Z2F:Code→Nat
 | .region id _ _=>id
 | .seq a _=>Z2F a
 | .cond _ a _=>Z2F a
 | .block _ c=>Z2F c
 | .loop c=>Z2F c
 | _=>0

def Z7R (jk:C.J) (live:List Tmp) (svs:List (SV C)) (written:List Tmp) (env:Env C):Env C :=
 live.zip svs++(written.map fun t=>(t,SV.raw (A.junk jk t)))++env

def Z1Y (n:Nat):Code→Bool
 | .region _ ops _=>ops.all fun o=>match o.dst with
   | some d=>decide (d < n)
   | none=>true
 | .seq a b=>Z1Y n a && Z1Y n b
 | .cond _ a b=>Z1Y n a && Z1Y n b
 | .block _ c=>Z1Y n c
 | .loop c=>Z1Y n c
 | _=>true
def setC (env:Env C) (c:Operand) (b:Bool):Env C:=match c with
 | .tmp s=>(s,.blit b) :: env
 | _=>env
def ZGT (b:Code):Nat:=1000000+Z2F b
def Z8A (ann:List (Nat×List (Tmp×Shape1))) (ops:Code) (env:Env C) (w:C.W) (K:Kont C):C.R :=
 match ops with
 | .skip=>K.nrm env w
 | .region _ ops draw =>
   if draw then
    if ssa ops then A.drew w fun w=>Z3x A P ops (ops.size+1) (Array.replicate ops.size false) [] env w K.nrm else A.fail "region: temporaries"
   else Z6G A P ops ops.toList env w K.nrm
 | .seq a b=>match ann.find? (·.1 == ZGT b) with
   | none=>Z8A ann a env w { K with nrm:=fun env w=>Z8A ann b env w K }
   | some (_,live) =>
     let slots:=live.map (·.1)
     A.join (live.map (·.2)) (fun enter=>Z8A ann a env w { K with nrm:=fun env w=>enter (slots.map (Z3g env)) w })
      fun svs jk w=>Z8A ann b (Z7R A jk slots svs (Zr a) env) w K
 | .cond c a b=>match ev A env c with
   | .blit t=>if t then Z8A ann a env w K else Z8A ann b env w K
   | .bool t =>
     A.and (A.imp t true (Z8A ann a (setC env c true) w K)) (A.imp t false (Z8A ann b (setC env c false) w K))
   | _=>A.fail "cond"
 | .block id c=>Z8A ann c env w { K with exit:=fun i env w=>if i=id then K.nrm env w else K.exit i env w }
 | .loop c=>match ann.find? (·.1 == Z2F c) with
   | none=>A.fail "loop: nothing is said of it"
   | some (_,live) =>
     let slots:=live.map (·.1)
     A.loop (live.map (·.2)) (slots.map (Z3g env)) w fun svs jk w again =>
      Z8A ann c (Z7R A jk slots svs (Zr c) env) w { K with nrm:=fun env w=>again (slots.map (Z3g env)) w }
 | .exit id=>K.exit id env w
 | .ret=>K.ret env w
 | _=>A.fail "code"

def ZBZ (r:ResultVar) (env:Env C) (w:C.W) (k:SV C→C.R):C.R :=
 match r with
 | .tmp t=>k (Z3g env t)
 | .cell a t=>match Z3g env a with
   | .addr d=>ZEF A P t d w k
   | _=>A.fail "result"
def Z6x:List ResultVar→Env C→C.W→(List (SV C)→C.R)→C.R
 | [],_,_,k=>k []
 | r :: rs,env,w,k=>ZBZ A P r env w fun v=>Z6x rs env w fun vs=>k (v :: vs)
def ZH5 (fn:Func) (env:Env C) (w:C.W):C.R :=
 Z6x A P fn.results.toList env w fun vs=>match vs with
  | [v]=>A.done v w
  | vs=>A.done (.tup vs) w

def Z1l:Nat→List (SV C)→Env C
 | _,[]=>[]
 | i,v :: vs=>(i,v) :: Z1l (i+1) vs

def ZP (ann:List (Nat×List (Tmp×Shape1))) (fn:Func) (args:List (SV C)) (w:C.W):C.R :=
 match fn.body with
 | none=>A.fail "no body"
 | some c=>if args.length≤fn.ntmps∧Z1Y fn.ntmps c=true then
   Z8A A P ann c (Z1l 0 args) w { nrm:=ZH5 A P fn,exit:=fun _ _ _=>A.fail "exit",ret:=ZH5 A P fn }
   else A.fail "arguments"
end
end Go.Vcg
end
section
namespace Go.Vcg

def bitsI (op:BinOp) (k:IntKind) (a b:Int):Int :=
 let x:=BitVec.ofInt k.bits a
 let y:=BitVec.ofInt k.bits b
 k.wrap (match op with
  | .and=>(x &&& y).toNat
  | .or=>(x ||| y).toNat
  | .xor=>(x ^^^ y).toNat
  | _=>(x &&& ~~~y).toNat)
def shlI (k:IntKind) (a b:Int):Int:=k.wrap (a * 2 ^ min b.toNat k.bits)
def shrI (k:IntKind) (a b:Int):Int:=a.fdiv (2 ^ min b.toNat k.bits)
def Z9a (op:BinOp) (x y:ByteArray):Bool :=
 let eq:=x.toList == y.toList
 let lt:=Op.bytesLess x.toList y.toList
 match op with
 | .eql=>eq
 | .neq=> !eq
 | .lss=>lt
 | .leq=>lt || eq
 | .gtr=> !(lt || eq)
 | _=> !lt
def strAt (s:ByteArray) (i:Nat):Int:=((s[i]?).map fun b=>(b.toNat:Int)).getD 0
def subO (o:Option Addr) (cap lo sz:Nat):Option Addr:=if cap=lo then o else o.map (·.add (lo * sz))
def subD (d:Addr) (n lo sz:Nat):Addr:=if n=lo then d else d.add (lo * sz)
def lget (l:Array Value) (i:Nat):Value:=l.getD i undef
def setsAt:Array Value→Nat→List Value→Array Value
 | l,_,[]=>l
 | l,i,v :: vs=>setsAt (l.setIfInBounds i v) (i+1) vs
def lputL (l:Array Value) (i n:Nat) (l':Array Value):Array Value:=setsAt l i (l'.toList.take n)
def ZJ (w:World) (d:Addr) (n:Nat) (l:Array Value):Prop:=l.size=n∧∀i,i < n→w.cell? (d.add i)=l[i]?
def Z1 (w:World) (d:Addr) (v:Value):Prop:=v.oneCell'=true∧(∃u,w.cell? d=some u)∧w.frozen? d=false
def ZA (w:World) (d:Addr) (v:Value) (w':World):Prop:=w'=w.setCell d v
def ZC (w:World) (t:TypeId) (cs:Array Value) (d:Addr) (w':World):Prop:=d=⟨w.heap.size,0,none⟩∧w'=w.alloc (.cells cs t)
def ZN (w w':World):Prop:=w'=w.drew
def ZDU (v:Value):Prop:=∃t x,v=.iface t x
def OkM (P:Program) (v:Value) (name:String):Prop:=∃t x,v=.iface t x∧∀w,(nilAhead (P.types.size+Made.depth) t x name).run P w=.ok (some false) w
def Z3S (P:Program) (v:Value) (args:Array Value) (w:World) (R:Ending→World→Prop):Prop :=
 ∃f first cap,v=.func (.func f) first cap∧Z8N P f=true∧Calls P f (first++args++cap) w R
def ZHQ (P:Program) (v:Value) (name:String) (args:Array Value) (w:World) (R:Ending→World→Prop):Prop :=
 ∃t x f recv,v=.iface t x∧(method (P.types.size+Made.depth) t x name).run P w=.ok (f,recv) w∧Z8N P f=true∧Calls P f (#[recv]++args) w R
def Z0q (op:BinOp) (t:TypeId) (x y:Operand) (a b:Value):Sem Value:=do eqGuard op t x y a b; binOp op t a b
def builtinV (b:Builtin) (ts:Array TypeId) (t:TypeId) (args:Array Value):Sem Value :=
 match b with
 | .append=>Builtin.append_ ts t args
 | .cap=>Builtin.cap_ ts t args
 | .clear=>Builtin.clear_ ts t args
 | .copy=>Builtin.copy_ ts t args
 | .delete=>Builtin.delete_ ts t args
 | .len=>Builtin.len_ ts t args
 | .max=>Builtin.max_ ts t args
 | .min=>Builtin.min_ ts t args
 | _=>stuck "builtinV"

abbrev pC:Car:={ I:=Int,B:=Bool,S:=ByteArray,O:=Option Addr,D:=Addr,N:=Nat,V:=Value,L:=Array Value,M:=Option Nat,W:=World,E:=Ending,J:=Nat→Value,R:=Prop }

def den:BX pC→Bool
 | .var b=>b
 | .icmp op a b=>match op with
   | .eql=>decide ((a:Int)=b)
   | .neq=> !decide ((a:Int)=b)
   | .lss=>decide ((a:Int) < b)
   | .leq=>decide ((a:Int)≤b)
   | .gtr=>decide ((a:Int) > b)
   | _=>decide ((a:Int)≥b)
 | .scmp op a b=>Z9a op a b
 | .isNil o=>Option.isNone o
 | .isNilM o=>Option.isNone o
 | .not a=> !den a

def ZHN:BX pC→Bool→Prop→Prop
 | .var b,t,r=>(b:Bool)=t→r
 | .icmp op a b,t,r =>
   match op,t with
   | .eql,true=>(a:Int)=b→r
   | .eql,false=>(a:Int)≠b→r
   | .neq,true=>(a:Int)≠b→r
   | .neq,false=>(a:Int)=b→r
   | .lss,true=>(a:Int) < b→r
   | .lss,false=>¬(a:Int) < b→r
   | .leq,true=>(a:Int)≤b→r
   | .leq,false=>¬(a:Int)≤b→r
   | .gtr,true=>(a:Int) > b→r
   | .gtr,false=>¬(a:Int) > b→r
   | _,true=>(a:Int)≥b→r
   | _,false=>¬(a:Int)≥b→r
 | .scmp op a b,t,r=>Z9a op a b=t→r
 | .isNil o,true,r=>(o:Option Addr)=none→r
 | .isNil o,false,r=>(o:Option Addr)≠none→r
 | .isNilM o,true,r=>(o:Option Nat)=none→r
 | .isNilM o,false,r=>(o:Option Nat)≠none→r
 | .not a,t,r=>ZHN a (!t) r

theorem Z2y:∀(b:BX pC) (t:Bool) (r:Prop),ZHN b t r→den b=t→r
 | .var _,_,_,h,e=>h e
 | .icmp op a b,t,r,h,e=>by
   cases op <;> cases t <;> simp only [ZHN,den] at h e <;> first
    | exact h (by simpa using e)
 | .scmp _ _ _,_,_,h,e=>h e
 | .isNil o,t,r,h,e=>by
   cases t <;> simp only [ZHN,den] at h e
   ·exact h (by cases o <;> simp_all)
   ·exact h (by cases o <;> simp_all)
 | .isNilM o,t,r,h,e=>by
   cases t <;> simp only [ZHN,den] at h e
   ·exact h (by cases o <;> simp_all)
   ·exact h (by cases o <;> simp_all)
 | .not a,t,r,h,e=>Z2y a (!t) r h (by simp only [den] at e; cases t <;> simp_all)

mutual
def toV:SV pC→Value
 | .bool b=>.bool (den b)
 | .blit b=>.bool b
 | .int k n=>.int k n
 | .ilit k n=>.int k n
 | .str s=>.string s
 | .ptr o=>.pointer o
 | .addr d=>.pointer (some d)
 | .slice o l c=>.slice o l c
 | .map m=>.map m
 | .func fn a b=>.func fn (toVs a).toArray (toVs b).toArray
 | .iface t v=>.iface t (toV v)
 | .nilIface=>.nilIface
 | .nilFunc=>.nilFunc
 | .agg cs=>.agg (toVs cs).toArray
 | .big _ l=>.agg l
 | .tup vs=>.tuple (toVs vs).toArray
 | .raw v=>v
def toVs:List (SV pC)→List Value
 | []=>[]
 | v :: vs=>toV v :: toVs vs
end
theorem Z1i (l:List (SV pC)):toVs l=l.map toV:=by induction l <;> simp_all [toVs]

def ZHS (c:Z76) (T:Type):Type:=match c with
 | .int _=>Int→T
 | .bool=>Bool→T
 | .str=>ByteArray→T
 | .ptr=>Option Addr→T
 | .slice=>Option Addr→Nat→Nat→T
 | .map=>Option Nat→T
 | .raw=>Value→T
 | .addr=>Addr→T
def ZDT:List Z76→Type→Type
 | [],T=>T
 | c :: cs,T=>ZHS c (ZDT cs T)
def Inv1 (s:Shape1) (T:Type):Type:=match s with
 | .cell c=>ZHS c T
 | .agg cs=>ZDT cs T
 | .big _=>Array Value→T
def ZGG:List Shape1→Type→Type
 | [],T=>World→T
 | s :: ss,T=>Inv1 s (ZGG ss T)

def ZAr {T:Type}:(c:Z76)→ZHS c T→SV pC→Option T
 | .int k,I,.int k' n=>if k=k' then some (I n) else none
 | .int k,I,.ilit k' n=>if k=k' then some (I n) else none
 | .bool,I,.bool b=>some (I (den b))
 | .bool,I,.blit b=>some (I b)
 | .str,I,.str s=>some (I s)
 | .ptr,I,.ptr o=>some (I o)
 | .ptr,I,.addr d=>some (I (some d))
 | .slice,I,.slice o l c=>some (I o l c)
 | .map,I,.map m=>some (I m)
 | .raw,I,v=>some (I (toV v))
 | .addr,I,.addr d=>some (I d)
 | _,_,_=>none
def ZB3 {T:Type}:(cs:List Z76)→ZDT cs T→List (SV pC)→Option T
 | [],I,[]=>some I
 | c :: cs,I,v :: vs=>(ZAr c I v).bind fun I=>ZB3 cs I vs
 | _,_,_=>none
def ZF7 {T:Type}:(s:Shape1)→Inv1 s T→SV pC→Option T
 | .cell c,I,v=>ZAr c I v
 | .agg cs,I,.agg vs=>ZB3 cs I vs
 | .big n,I,.big m l=>if n=m then some (I l) else none
 | _,_,_=>none
def Z9Z {T:Type}:(ss:List Shape1)→ZGG ss T→List (SV pC)→World→Option T
 | [],I,[],w=>some (I w)
 | s :: ss,I,v :: vs,w=>(ZF7 s I v).bind fun I=>Z9Z ss I vs w
 | _,_,_,_=>none

def ZGJ:Z76→(SV pC→Prop)→Prop
 | .int k,f=>∀n:Int,f (.int k n)
 | .bool,f=>∀b:Bool,f (.bool (.var b))
 | .str,f=>∀s:ByteArray,f (.str s)
 | .ptr,f=>∀o:Option Addr,f (.ptr o)
 | .slice,f=>∀(o:Option Addr) (l c:Nat),f (.slice o l c)
 | .map,f=>∀m:Option Nat,f (.map m)
 | .raw,f=>∀v:Value,f (.raw v)
 | .addr,f=>∀d:Addr,f (.addr d)
def ZC1:List Z76→(List (SV pC)→Prop)→Prop
 | [],f=>f []
 | c :: cs,f=>ZGJ c fun v=>ZC1 cs fun vs=>f (v :: vs)
def ZHY:Shape1→(SV pC→Prop)→Prop
 | .cell c,f=>ZGJ c f
 | .agg cs,f=>ZC1 cs fun vs=>f (.agg vs)
 | .big n,f=>∀l:Array Value,f (.big n l)
def ZDd:List Shape1→(List (SV pC)→Prop)→Prop
 | [],f=>f []
 | s :: ss,f=>ZHY s fun v=>ZDd ss fun vs=>f (v :: vs)

def ZFk:Option Prop→Prop
 | some p=>p
 | none=>False
def theN:Option Nat→Nat
 | some n=>n
 | none=>0

def loopP (ss:List Shape1) (init:List (SV pC)) (w:World) (body:List (SV pC)→(Nat→Value)→World→(List (SV pC)→World→Prop)→Prop):Prop :=
 ∃(I:ZGG ss Prop) (μ:ZGG ss Nat),ZFk (Z9Z ss I init w) ∧
  ZDd ss fun svs=>∀(jk:Nat→Value) (w':World),ZFk (Z9Z ss I svs w') →
   body svs jk w' fun svs' w''=>ZFk (Z9Z ss I svs' w'')∧theN (Z9Z ss μ svs' w'') < theN (Z9Z ss μ svs w')

def joinP (ss:List Shape1) (pre:(List (SV pC)→World→Prop)→Prop) (rest:List (SV pC)→(Nat→Value)→World→Prop):Prop :=
 ∃I:ZGG ss Prop,pre (fun svs w=>ZFk (Z9Z ss I svs w)) ∧
  ZDd ss fun svs=>∀(jk:Nat→Value) (w':World),ZFk (Z9Z ss I svs w')→rest svs jk w'
def ZEj (o:Oper) (ev:Operand→Value):Option (Sem Value) :=
 match o.op with
 | .lookup t m k ok=>some (Instr.lookup t (ev m) (ev k) ok)
 | .typeAssert x xt t ok=>some (Instr.typeAssert (ev x) xt t ok)
 | .convert a b x=>some (convert a b (ev x))
 | .binOp op t x y _=>some (Z0q op t x y (ev x) (ev y))
 | .unOp op _ x=>some (Op.unary op (ev x))
 | .field t x f=>some (Instr.field t (ev x) f)
 | .index t x i=>some (Instr.index t (ev x) (ev i))
 | .indexAddr t x i=>some (Instr.indexAt t (ev x) (ev i))
 | .slice t x lo hi mx=>some (Instr.sliceAt t (ev x) (lo.map ev) (hi.map ev) (mx.map ev))
 | .extract x i=>some (Instr.extract (ev x) i)
 | .sliceToArrayPointer t x=>some (Instr.arrayAt t (ev x))
 | .build t parts=>some (Instr.build t (parts.map fun (i,x)=>(i,ev x)))
 | .makeInterface t x=>some (Instr.makeInterface t (ev x))
 | .fieldAddr t x f=>some (Instr.fieldAt t (ev x) f)
 | .makeMap t r=>some (Instr.makeMap t (r.map ev))
 | .makeSlice t l c=>some (Instr.makeSlice t (ev l) (ev c))
 | .mapEntry t m k=>some (Instr.mapEntry t (ev m) (ev k))
 | .range t x=>some (Instr.range t (ev x))
 | .next it s=>some (Instr.next (ev it) s o.type)
 | .entry it=>some (Instr.entry (ev it))
 | .call c=>match c.callee with
   | .builtin b=>match b with
     | .append | .cap | .clear | .copy | .delete | .len | .max | .min=>some (builtinV b c.argTypes o.type (c.args.map ev))
     | _=>none
   | _=>none
 | _=>none
def semU (o:Oper) (ev:Operand→Value):Option (Sem Unit) :=
 match o.op with
 | .mapUpdate t m k x | .insert t m k x=>some (Instr.mapUpdate t (ev m) (ev k) (ev x))
 | .entryStore t m s x=>some (Instr.entryStore t (ev m) (ev s) (ev x))
 | .store t a x=>some (Instr.storeAt t (ev a) (ev x))
 | _=>none

structure Z6N where
 fin:Ending→World→Prop
 pan:Bool
abbrev ZES (v:Value):List PanicEntry:=[{ v:=v,recovered:=false }]
def Z6N.call (R:Z6N) (e:Ending) (w:World) (r:Prop):Prop:=match R.pan with
 | true=>(∃ch,e=.panicked ch∧R.fin (.panicked ch) w)∨r
 | false=>r
theorem Z6N.call_or {R:Z6N} {e:Ending} {w:World} {r:Prop} (h:R.call e w r):(∃ch,e=.panicked ch∧R.fin (.panicked ch) w)∨r:=by
 unfold Z6N.call at h
 cases hp:R.pan with
 | true=>rw [hp] at h; exact h
 | false=>rw [hp] at h; exact .inr h

def pA (P:Program) (R:Z6N):Alg pC where
 il:=fun n=>(n:Int)
 nl:=fun n=>(n:Nat)
 sl:=fun s=>(s:ByteArray)
 onil:=(none:Option Addr)
 osome:=fun d=>(some d:Option Addr)
 mnil:=(none:Option Nat)
 dl:=fun b o=>(⟨b,o,none⟩:Addr)
 wrap:=fun k n=>(IntKind.wrap k n:Int)
 add:=fun a b=>((a:Int)+b:Int)
 sub:=fun a b=>((a:Int) - b:Int)
 mul:=fun a b=>((a:Int) * b:Int)
 tdiv:=fun a b=>(Int.tdiv a b:Int)
 tmod:=fun a b=>(Int.tmod a b:Int)
 fdiv:=fun a b=>(Int.fdiv a b:Int)
 bits:=fun op k a b=>(bitsI op k a b:Int)
 shl:=fun k a b=>(shlI k a b:Int)
 shr:=fun k a b=>(shrI k a b:Int)
 ssize:=fun s=>(ByteArray.size s:Nat)
 sext:=fun s a b=>(ByteArray.extract s a b:ByteArray)
 sat:=fun s i=>(strAt s i:Int)
 n2i:=fun n=>(((n:Nat):Int):Int)
 i2n:=fun i=>(Int.toNat i:Nat)
 nsub:=fun a b=>((a:Nat) - b:Nat)
 nmul:=fun a b=>((a:Nat) * b:Nat)
 dadd:=fun d n=>(Addr.add d n:Addr)
 osub:=fun o cap lo sz=>(subO o cap lo sz:Option Addr)
 dsub:=fun d n lo sz=>(subD d n lo sz:Addr)
 lext:=fun l a n=>(Array.extract l a (a+n):Array Value)
 lget:=fun l i=>(lget l i:Value)
 lconst:=fun v=>((match v with | .agg cs=>cs | v=>#[v]):Array Value)
 vlit:=fun v=>(v:Value)
 lput:=fun l i vs=>(setsAt l i (toVs vs):Array Value)
 lputL:=fun l i n l'=>(lputL l i n l':Array Value)
 junk:=fun j t=>((j:Nat→Value) t:Value)
 lsz:=fun l n r=>Array.size l=n∧r
 one:=fun v r=>Value.oneCell' v=true∧r
 fail:=fun _=>False
 and:=fun a b=>a∧b
 imp:=fun b t r=>ZHN b t r
 exI:=fun f=>∃n:Int,f n
 exB:=fun f=>∃b:Bool,f b
 exS:=fun f=>∃s:ByteArray,f s
 exO:=fun f=>∃o:Option Addr,f o
 exD:=fun f=>∃d:Addr,f d
 exN:=fun f=>∃n:Nat,f n
 exV:=fun f=>∃v:Value,f v
 exL:=fun f=>∃l:Array Value,f l
 exM:=fun f=>∃m:Option Nat,f m
 allI:=fun f=>∀n:Int,f n
 allB:=fun f=>∀b:Bool,f b
 allS:=fun f=>∀s:ByteArray,f s
 allO:=fun f=>∀o:Option Addr,f o
 allN:=fun f=>∀n:Nat,f n
 allV:=fun f=>∀v:Value,f v
 allL:=fun f=>∀l:Array Value,f l
 allM:=fun f=>∀m:Option Nat,f m
 cellEq:=fun w d v r=>World.cell? w d=some (toV v)∧r
 cellsEq:=fun w d n l r=>ZJ w d n l∧r
 endEq:=fun e v r=>e=Ending.returned (toV v)∧r
 valEq:=fun v sv r=>v=toV sv∧r
 okO:=fun o d r=>o=some d∧r
 rng:=fun i n r=>(0≤(i:Int)∧(i:Int) < ((n:Nat):Int))∧r
 rle:=fun i n r=>(0≤(i:Int)∧(i:Int)≤((n:Nat):Int))∧r
 nle:=fun a b r=>(a:Nat)≤b∧r
 neZ:=fun i r=>(i:Int)≠0∧r
 geZ:=fun i r=>0≤(i:Int)∧r
 ifNil:=fun v a b=>(v=Value.nilIface∧a)∨(ZDU v∧b)
 isIf:=fun v r=>ZDU v∧r
 okM:=fun v m r=>OkM P v m∧r
 imax:=fun a b=>(max (a:Int) b:Int)
 imin:=fun a b=>(min (a:Int) b:Int)
 st:=fun w d v k=>Z1 w d (toV v)∧∀w':World,ZA w d (toV v) w'→k w'
 new:=fun t cs w k=>∀(d:Addr) (w':World),ZC w t (toVs cs).toArray d w'→k d w'
 newL:=fun t _ l w k=>∀(d:Addr) (w':World),ZC w t l d w'→k d w'
 drew:=fun w k=>∀w':World,ZN w w'→k w'
 call:=fun f args w k=>Calls P f (toVs args).toArray w fun e w'=>R.call e w' (k e w')
 callV:=fun v args w k=>Z3S P v (toVs args).toArray w fun e w'=>R.call e w' (k e w')
 callM:=fun v m args w k=>ZHQ P v m (toVs args).toArray w fun e w'=>R.call e w' (k e w')
 ext:=fun f args w k=>∃(v:Value) (w':World),(callFunc f (toVs args).toArray).run P w=.ok (.value v) w'∧k v w'
 read:=fun o ev w k=>match ZEj o fun x=>toV (ev x) with
  | some s=>∃v:Value,s.run P w=.ok v w∧k v
  | none=>False
 reread:=fun o ev sv w r=>match ZEj o fun x=>toV (ev x) with
  | some s=>s.run P w=.ok (toV sv) w∧r
  | none=>False
 run:=fun o ev w k=>match ZEj o fun x=>toV (ev x) with
  | some s=>∃(v:Value) (w':World),s.run P w=.ok v w'∧k v w'
  | none=>False
 runU:=fun o ev w k=>match semU o fun x=>toV (ev x) with
  | some s=>∃w':World,s.run P w=.ok () w'∧k w'
  | none=>False
 done:=fun v w=>R.fin (.returned (toV v)) w
 panic:=fun v w=>match R.pan with
  | true=>R.fin (.panicked (ZES (toV v))) w
  | false=>False
 join:=joinP
 loop:=loopP
end Go.Vcg
end
section
namespace Go.Vcg

theorem Z1m {P:Program} {w:World} {op:BinOp} {t:TypeId} {x y:Operand} {a b v:Value}
  (h1:a=.nilIface→b≠.nilIface) (h2:∀cs,a=.agg cs→∀ds,b≠.agg ds) (h:(binOp op t a b).run P w=.ok v w) :
  (Z0q op t x y a b).run P w=.ok v w:=by
 unfold Z0q
 have:(eqGuard op t x y a b).run P w=.ok () w:=by
  unfold eqGuard
  split <;> first
   | rfl
   | (cases a <;> cases b <;> first
       | rfl
       | exact absurd rfl (h1 rfl)
       | exact absurd rfl (h2 _ rfl _))
 simp [this,h]

theorem ZBQ {P:Program} {w:World} {op:BinOp} {a b:Int} {t:Bool} (h:ZCP op a b=some t):(Op.intCmp op a b).run P w=.ok (.bool t) w:=by
 cases op <;> simp [ZCP] at h <;> subst h <;> simp [Op.intCmp]

theorem Z8y {A:Alg pC} {P:Program} {R:Z6N} (hA:A=pA P R) {x:SV pC} {k:IntKind} {n:Int} (h:asI A x=some (k,n)):toV x=.int k n:=by
 subst hA
 cases x <;> simp [asI] at h
 case int=>obtain ⟨rfl,rfl⟩:=h; rfl
 case ilit=>obtain ⟨rfl,rfl⟩:=h; rfl

theorem ZD2 {P:Program} {R:Z6N} {op:BinOp} {x y:SV pC} {k:SV pC→Prop} {r:Prop} (h:binS (pA P R) op x y k=some r) (hr:r) :
  ∃sv,(∀(w:World) (t:TypeId) (ox oy:Operand),(Z0q op t ox oy (toV x) (toV y)).run P w=.ok (toV sv) w)∧k sv:=by
 unfold binS at h
 split at h
 ·rename_i a b
  have key:∀(bb:Bool),(∀(w:World) (t:TypeId) (_ _:Operand),(binOp op t (.string a) (.string b)).run P w=.ok (.bool bb) w) →
    ∀(w:World) (t:TypeId) (ox oy:Operand),(Z0q op t ox oy (toV (.str a)) (toV (.str b))).run P w=.ok (.bool bb) w :=
   fun bb hb w t ox oy=>Z1m (by simp [toV]) (by simp [toV]) (hb w t ox oy)
  cases op <;> cases h <;>
   refine ⟨_,?_,hr⟩ <;> simp only [toV,den] <;>
   exact key _ (fun w t _ _=>by simp [binOp,Op.stringOp,Z9a])
 ·rename_i ka a kb b
  have key:∀(v:Value),(∀(w:World) (t:TypeId) (_ _:Operand),(binOp op t (.int ka a) (.int kb b)).run P w=.ok v w) →
    ∀(w:World) (t:TypeId) (ox oy:Operand),(Z0q op t ox oy (toV (.ilit ka a)) (toV (.ilit kb b))).run P w=.ok v w :=
   fun v hb w t ox oy=>Z1m (by simp [toV]) (by simp [toV]) (hb w t ox oy)
  split at h
  ·split at h
   ·rename_i hk; subst hk
    cases h
    exact ⟨_,key _ (fun w t _ _=>by simp [binOp,Op.intArith,toV]),hr⟩
   ·cases h
  ·split at h
   ·rename_i hk; subst hk
    cases h
    exact ⟨_,key _ (fun w t _ _=>by simp [binOp,Op.intArith,toV]),hr⟩
   ·cases h
  ·split at h
   ·rename_i hk; subst hk
    cases h
    exact ⟨_,key _ (fun w t _ _=>by simp [binOp,Op.intArith,toV]),hr⟩
   ·cases h
  ·split at h
   ·rename_i t ht
    split at h
    ·rename_i hk; subst hk
     cases h
     refine ⟨_,key _ (fun w t' _ _=>?_),hr⟩
     have:=ZBQ (P:=P) (w:=w) ht
     cases op <;> simp [ZCP] at ht <;> simpa [binOp,toV] using this
    ·cases h
   ·cases h
 ·split at h
  ·rename_i ka a kb b hx hy
   have ex:=Z8y rfl hx
   have ey:=Z8y rfl hy
   have key:∀(v:Value),(∀(w:World) (t:TypeId) (_ _:Operand),(binOp op t (.int ka a) (.int kb b)).run P w=.ok v w) →
     ∀(w:World) (t:TypeId) (ox oy:Operand),(Z0q op t ox oy (toV x) (toV y)).run P w=.ok v w :=
    fun v hb w t ox oy=>by
     rw [ex,ey]
     exact Z1m (by simp) (by simp) (hb w t ox oy)
   split at h
   ·-- shl
    split at h
    ·simp only [toV,Value.int.injEq] at ey
     obtain ⟨rfl,rfl⟩:=ey
     split at h
     ·rename_i h0
      cases h
      refine ⟨_,key _ (fun w t _ _=>?_),hr⟩
      simp [binOp,Op.shift,toV,Int.not_lt.2 h0,pA]
     ·cases h
    ·cases h
     refine ⟨_,key _ (fun w t _ _=>?_),hr.2⟩
     have h0:0≤b:=hr.1
     simp [binOp,Op.shift,toV,Int.not_lt.2 h0,pA,shlI]
   ·split at h
    ·simp only [toV,Value.int.injEq] at ey
     obtain ⟨rfl,rfl⟩:=ey
     split at h
     ·rename_i h0
      cases h
      refine ⟨_,key _ (fun w t _ _=>?_),hr⟩
      simp [binOp,Op.shift,toV,Int.not_lt.2 h0,pA]
     ·cases h
    ·cases h
     refine ⟨_,key _ (fun w t _ _=>?_),hr.2⟩
     have h0:0≤b:=hr.1
     simp [binOp,Op.shift,toV,Int.not_lt.2 h0,pA,shrI]
   ·split at h
    ·rename_i hk; subst hk
     split at h
     ·cases h; exact ⟨_,key _ (fun w t _ _=>by simp [binOp,Op.intArith,toV,pA]),hr⟩
     ·cases h; exact ⟨_,key _ (fun w t _ _=>by simp [binOp,Op.intArith,toV,pA]),hr⟩
     ·cases h; exact ⟨_,key _ (fun w t _ _=>by simp [binOp,Op.intArith,toV,pA]),hr⟩
     ·split at h
      ·simp only [toV,Value.int.injEq] at ey
       obtain ⟨rfl,rfl⟩:=ey
       split at h
       ·cases h
       ·rename_i h0
        cases h
        exact ⟨_,key _ (fun w t _ _=>by simp [binOp,Op.intDiv,toV,pA,h0]),hr⟩
      ·cases h
       have h0:b≠0:=hr.1
       exact ⟨_,key _ (fun w t _ _=>by simp [binOp,Op.intDiv,toV,pA,h0]),hr.2⟩
     ·split at h
      ·simp only [toV,Value.int.injEq] at ey
       obtain ⟨rfl,rfl⟩:=ey
       split at h
       ·cases h
       ·rename_i h0
        cases h
        exact ⟨_,key _ (fun w t _ _=>by simp [binOp,Op.intDiv,toV,pA,h0]),hr⟩
      ·cases h
       have h0:b≠0:=hr.1
       exact ⟨_,key _ (fun w t _ _=>by simp [binOp,Op.intDiv,toV,pA,h0]),hr.2⟩
     all_goals first
      | (cases h; refine ⟨_,key _ (fun w t _ _=>?_),hr⟩; simp [binOp,Op.intBits,toV,pA,bitsI]; done)
      | (cases h; refine ⟨_,key _ (fun w t _ _=>?_),hr⟩; simp [binOp]; rfl)
      | (cases h; done)
    ·cases h
  ·cases h

theorem Zp {P:Program} {w:World} {t:TypeId} {d:TypeDesc} (h:P.underlying t=some d):(underlying t).run P w=.ok d w:=by
 simp [underlying,h]

theorem ZHd {P:Program} {w:World} {t:TypeId} {a b:Value} {r:Bool} (op:BinOp) (h:(Op.equal t a b).run P w=.ok r w) (hs:op=.eql∨op=.neq)
  (h1:∀x,a≠.string x) (h2:∀k x,a≠.int k x) (h3:∀k x,a≠.float k x) (h4:∀k x y,a≠.complex k x y) :
  (binOp op t a b).run P w=.ok (.bool (if op=.eql then r else !r)) w:=by
 rcases hs with rfl | rfl
 ·have:binOp .eql t a b=(do pure (.bool (← Op.equal t a b))):=by
    cases a <;> first
     | rfl
     | exact absurd rfl (h1 _)
     | exact absurd rfl (h2 _ _)
     | exact absurd rfl (h3 _ _)
     | exact absurd rfl (h4 _ _ _)
  rw [this]; simp [h]
 ·have:binOp .neq t a b=(do pure (.bool (!(← Op.equal t a b)))):=by
    cases a <;> first
     | rfl
     | exact absurd rfl (h1 _)
     | exact absurd rfl (h2 _ _)
     | exact absurd rfl (h3 _ _)
     | exact absurd rfl (h4 _ _ _)
  rw [this]; simp [h]

section
variable {P:Program} {w:World} {t:TypeId}
theorem ZA2 {e:TypeId} (h:P.underlying t=some (.pointer e)) (o:Option Addr) (d:Nat):(Op.equalIn (d+1) t (.pointer o) (.pointer none)).run P w=.ok o.isNone w:=by
 cases o <;> simp [Op.equalIn,Zp h]
theorem Z89 {e:TypeId} (h:P.underlying t=some (.slice e)) (o:Option Addr) (l c l' c':Nat) (d:Nat):(Op.equalIn (d+1) t (.slice o l c) (.slice none l' c')).run P w=.ok o.isNone w:=by
 cases o <;> simp [Op.equalIn,Zp h]
theorem ZA0 {e e':TypeId} (h:P.underlying t=some (.map e e')) (o:Option Nat) (d:Nat):(Op.equalIn (d+1) t (.map o) (.map none)).run P w=.ok o.isNone w:=by
 cases o <;> simp [Op.equalIn,Zp h]
theorem ZA1 {ms:Array (String×TypeId)} (h:P.underlying t=some (.interface ms)) (d:Nat):(Op.equalIn (d+1) t .nilIface .nilIface).run P w=.ok true w:=by
 simp [Op.equalIn,Zp h]
theorem Z87 {u:TypeId} {v:Value} {ms:Array (String×TypeId)} (h:P.underlying t=some (.interface ms)) (d:Nat):(Op.equalIn (d+1) t (.iface u v) .nilIface).run P w=.ok false w:=by
 simp [Op.equalIn,Zp h]
theorem Z88 {u:TypeId} {v:Value} {ms:Array (String×TypeId)} (h:P.underlying t=some (.interface ms)) (d:Nat):(Op.equalIn (d+1) t .nilIface (.iface u v)).run P w=.ok false w:=by
 simp [Op.equalIn,Zp h]
theorem Z8P {e:TypeId} (h:P.underlying t=some (.pointer e)) (o:Option Addr):(Op.equal t (.pointer o) (.pointer none)).run P w=.ok o.isNone w:=ZA2 h o 9999
theorem ZA4 {e:TypeId} (h:P.underlying t=some (.slice e)) (o:Option Addr) (l c l' c':Nat):(Op.equal t (.slice o l c) (.slice none l' c')).run P w=.ok o.isNone w:=Z89 h o l c l' c' 9999
theorem ZD4 {e e':TypeId} (h:P.underlying t=some (.map e e')) (o:Option Nat):(Op.equal t (.map o) (.map none)).run P w=.ok o.isNone w:=ZA0 h o 9999
theorem Z8O {ms:Array (String×TypeId)} (h:P.underlying t=some (.interface ms)):(Op.equal t .nilIface .nilIface).run P w=.ok true w:=ZA1 h 9999
theorem Z6S {u:TypeId} {v:Value} {ms:Array (String×TypeId)} (h:P.underlying t=some (.interface ms)):(Op.equal t (.iface u v) .nilIface).run P w=.ok false w:=Z87 h 9999
theorem ZA3 {u:TypeId} {v:Value} {ms:Array (String×TypeId)} (h:P.underlying t=some (.interface ms)):(Op.equal t .nilIface (.iface u v)).run P w=.ok false w:=Z88 h 9999
end

theorem Z8D {P:Program} {w:World} {op:BinOp} {t:TypeId} {x y:Operand} {v:Value} (hc:(Zi x || Zi y)=true)
  (h:(binOp op t .nilIface .nilIface).run P w=.ok v w):(Z0q op t x y .nilIface .nilIface).run P w=.ok v w:=by
 unfold Z0q
 have:(eqGuard op t x y .nilIface .nilIface).run P w=.ok () w:=by
  cases x <;> cases y <;> first
   | (simp [Zi] at hc; done)
   | (cases op <;> rfl)
 simp [this,h]

theorem ZHq {P:Program} {R:Z6N} {env:Env pC} {y:Operand} (h:Zi y=true) :
  toV (ev (pA P R) env y)=.nilIface∨toV (ev (pA P R) env y)=.pointer none∨(∃l c,toV (ev (pA P R) env y)=.slice none l c)∨toV (ev (pA P R) env y)=.map none:=by
 unfold Zi at h
 split at h <;> first
  | (simp [ev,ZFW,Z2j,toV,pA]; done)
  | cases h

def ZBW:Value→Bool
 | .string _ | .int _ _ | .float _ _ | .complex _ _ _ | .agg _=>false
 | _=>true
theorem Z6z {P:Program} {w:World} {t:TypeId} {ox oy:Operand} {a b:Value} {r:Bool} (op:BinOp) (h:(Op.equal t a b).run P w=.ok r w) (hs:op=.eql∨op=.neq)
  (hp:ZBW a=true) (hg:a=.nilIface→b=.nilIface→(Zi ox || Zi oy)=true) :
  (Z0q op t ox oy a b).run P w=.ok (.bool (if op=.eql then r else !r)) w:=by
 have hb:=ZHd op h hs (by rintro x rfl; cases hp) (by rintro k x rfl; cases hp) (by rintro k x rfl; cases hp) (by rintro k x y rfl; cases hp)
 by_cases hn:a=.nilIface∧b=.nilIface
 ·obtain ⟨rfl,rfl⟩:=hn
  exact Z8D (hg rfl rfl) hb
 ·exact Z1m (fun h1 h2=>hn ⟨h1,h2⟩) (by rintro cs rfl; cases hp) hb

def ZHT (P:Program) (t:TypeId) (a b:Value) (g:Bool):ZHL pC→Prop
 | .b x=>ZBW a=true∧(a=.nilIface→b=.nilIface→g=true)∧∀w,(Op.equal t a b).run P w=.ok (den x) w
 | .lit c=>ZBW a=true∧(a=.nilIface→b=.nilIface→g=true)∧∀w,(Op.equal t a b).run P w=.ok c w
 | .either v=>a=v∧b=.nilIface∧g=true

theorem Z8e {P:Program} {R:Z6N} {t:TypeId} {d:TypeDesc} {env:Env pC} {ox oy:Operand} {nv:ZHL pC} (hu:P.underlying t=some d)
  (h:ZFT d (Zi ox) (Zi oy) (ev (pA P R) env ox) (ev (pA P R) env oy)=some nv) :
  ZHT P t (toV (ev (pA P R) env ox)) (toV (ev (pA P R) env oy)) (Zi ox || Zi oy) nv:=by
 have hv:=fun h=>ZHq (P:=P) (R:=R) (env:=env) (y:=oy) h
 generalize ev (pA P R) env ox=x at *
 generalize ev (pA P R) env oy=y at *
 unfold ZFT at h
 split at h
 ·split at h
  ·rename_i hc; cases h; exact ⟨rfl,fun _ _=>hc,fun w=>Z8O hu⟩
  ·cases h
 ·cases h; exact ⟨rfl,by simp [toV],fun w=>Z6S hu⟩
 ·cases h; exact ⟨rfl,by simp [toV],fun w=>ZA3 hu⟩
 ·split at h
  ·rename_i hc; cases h; exact ⟨rfl,rfl,hc⟩
  ·cases h
 ·split at h
  ·rename_i o o' hc
   cases h
   have:=hv hc
   simp [toV] at this
   subst this
   exact ⟨rfl,by simp [toV],fun w=>Z8P hu o⟩
  ·cases h
 ·split at h
  ·rename_i d o' hc
   cases h
   have:=hv hc
   simp [toV] at this
   subst this
   exact ⟨rfl,by simp [toV],fun w=>Z8P hu (some d)⟩
  ·cases h
 ·split at h
  ·rename_i o l c o' l' c' hc
   cases h
   have:=hv hc
   simp [toV] at this
   subst this
   exact ⟨rfl,by simp [toV],fun w=>ZA4 hu o l c l' c'⟩
  ·cases h
 ·split at h
  ·rename_i o o' hc
   cases h
   have:=hv hc
   simp [toV] at this
   subst this
   exact ⟨rfl,by simp [toV],fun w=>ZD4 hu o⟩
  ·cases h
 ·cases h

theorem Z8d {P:Program} {R:Z6N} {op:BinOp} {t:TypeId} {d:TypeDesc} {ox oy:Operand} {a b:Value} {nv:ZHL pC} (hu:P.underlying t=some d)
  (hd:∃ms,d=.interface ms∨∀v,nv≠.either v)
  (hn:ZHT P t a b (Zi ox || Zi oy) nv) {neg:Bool} (hop:op=if neg then .neq else .eql) {k:SV pC→Prop} (hr:nilK (pA P R) neg k nv) :
  ∃sv,(∀w,(Z0q op t ox oy a b).run P w=.ok (toV sv) w)∧k sv:=by
 have hs:op=.eql∨op=.neq:=by cases neg <;> simp [hop]
 have hif:∀r:Bool,(if op=.eql then r else !r)=(if neg then !r else r):=by intro r; cases neg <;> simp [hop]
 cases nv with
 | b x =>
   obtain ⟨h1,h2,h3⟩:=hn
   refine ⟨_,fun w=>?_,hr⟩
   rw [Z6z op (h3 w) hs h1 h2,hif]
   cases neg <;> rfl
 | lit c =>
   obtain ⟨h1,h2,h3⟩:=hn
   refine ⟨_,fun w=>?_,hr⟩
   rw [Z6z op (h3 w) hs h1 h2,hif]
   cases neg <;> rfl
 | either v =>
   obtain ⟨rfl,rfl,hg⟩:=hn
   obtain ⟨ms,rfl | hd⟩:=hd
   ·rcases hr with ⟨rfl,hk⟩ | ⟨⟨u,x,rfl⟩,hk⟩
    ·refine ⟨_,fun w=>?_,hk⟩
     rw [Z6z op (Z8O hu) hs rfl (fun _ _=>hg),hif]
     cases neg <;> rfl
    ·refine ⟨_,fun w=>?_,hk⟩
     rw [Z6z op (Z6S hu) hs rfl (by simp),hif]
     cases neg <;> rfl
   ·exact absurd rfl (hd a)

theorem Z7Z {d:TypeDesc} {cx cy:Bool} {x y:SV pC} {nv:ZHL pC} (h:ZFT d cx cy x y=some nv):∃ms,d=.interface ms∨∀v,nv≠.either v:=by
 unfold ZFT at h
 split at h <;> first
  | exact ⟨_,.inl rfl⟩
  | (split at h <;> first
      | (cases h; exact ⟨#[],.inr (by simp)⟩)
      | cases h)
  | (cases h; done)

theorem ZDE {P:Program} {R:Z6N} {op:BinOp} {t:TypeId} {d:TypeDesc} {env:Env pC} {ox oy:Operand} {k:SV pC→Prop} {r:Prop} (hu:P.underlying t=some d)
  (h:nilS (pA P R) op d (Zi ox) (Zi oy) (ev (pA P R) env ox) (ev (pA P R) env oy) k=some r) (hr:r) :
  ∃sv,(∀(w:World),(Z0q op t ox oy (toV (ev (pA P R) env ox)) (toV (ev (pA P R) env oy))).run P w=.ok (toV sv) w)∧k sv:=by
 unfold nilS at h
 split at h
 ·cases hn:ZFT d (Zi ox) (Zi oy) (ev (pA P R) env ox) (ev (pA P R) env oy) with
  | none=>rw [hn] at h; cases h
  | some nv=>rw [hn] at h; cases h; exact Z8d hu (Z7Z hn) (Z8e hu hn) (neg:=false) rfl hr
 ·cases hn:ZFT d (Zi ox) (Zi oy) (ev (pA P R) env ox) (ev (pA P R) env oy) with
  | none=>rw [hn] at h; cases h
  | some nv=>rw [hn] at h; cases h; exact Z8d hu (Z7Z hn) (Z8e hu hn) (neg:=true) rfl hr
 ·cases h
end Go.Vcg
end
section
namespace Go.Vcg
variable {P:Program} {R:Z6N}

theorem Z1h {t:TypeId} {d:TypeDesc} (h:und P t=d) (hd:d≠.invalid):P.underlying t=some d:=by
 unfold und at h
 cases hu:P.underlying t with
 | none=>rw [hu] at h; exact absurd h.symm hd
 | some e=>rw [hu] at h; simpa using h
theorem Z0v {t:TypeId} {i:TypeInfo} (h:P.info? t=some i) (w:World):(sizeOf t).run P w=.ok (Z0i P t) w:=by
 simp [sizeOf,typeInfo,h,Z0i]
theorem Z3o {t:TypeId} {d:TypeDesc} (h:P.underlying t=some d):∃i,P.info? t=some i:=by
 unfold Program.underlying at h
 cases hi:P.info? t with
 | none=>rw [hi] at h; cases h
 | some i=>exact ⟨i,rfl⟩
theorem Z5l {t:TypeId} {d:TypeDesc} (h:P.underlying t=some d) (w:World):(isAgg t).run P w=.ok (Z6T d) w:=by
 unfold isAgg
 simp only [Sem.run_bind,Zp h,Result.andThen_ok]
 cases d <;> rfl
theorem ZCv {t:TypeId} {z:Value} (h:Z4x P t=some z) (w:World):(zeroValue t).run P w=.ok z w:=by
 unfold Z4x at h
 cases hi:P.info? t with
 | none=>rw [hi] at h; cases h
 | some i =>
   rw [hi] at h
   simp only [Option.bind_some] at h
   simp [zeroValue,typeInfo,hi,h]

theorem toVs_getElem? (l:List (SV pC)) (i:Nat):(toVs l)[i]?=(l[i]?).map toV:=by rw [Z1i]; simp
theorem Z02 (l:List (SV pC)):(toVs l).length=l.length:=by rw [Z1i]; simp

theorem Z3m:∀(c:Z76) (f:SV pC→Prop),ZA5 (pA P R) c f→∃sv,f sv
 | .int _,_,⟨n,h⟩=>⟨_,h⟩
 | .bool,_,⟨n,h⟩=>⟨_,h⟩
 | .str,_,⟨n,h⟩=>⟨_,h⟩
 | .ptr,_,⟨n,h⟩=>⟨_,h⟩
 | .slice,_,⟨o,l,c,h⟩=>⟨_,h⟩
 | .map,_,⟨n,h⟩=>⟨_,h⟩
 | .raw,_,⟨n,h⟩=>⟨_,h⟩
 | .addr,_,⟨d,h⟩=>⟨_,h⟩
theorem Z3G:∀(cs:List Z76) (f:List (SV pC)→Prop),Z66 (pA P R) cs f→∃svs,svs.length=cs.length∧f svs
 | [],_,h=>⟨[],rfl,h⟩
 | c :: cs,f,h=>by
   obtain ⟨sv,h⟩:=Z3m c _ h
   obtain ⟨svs,hl,h⟩:=Z3G cs _ h
   exact ⟨sv :: svs,by simp [hl],h⟩
theorem Z5Q:∀(s:Shape1) (f:SV pC→Prop),Z97 (pA P R) s f→∃sv,f sv
 | .cell c,f,h=>Z3m c f h
 | .agg cs,f,h=>let ⟨svs,_,h⟩:=Z3G cs _ h; ⟨_,h⟩
 | .big _,f,⟨l,h⟩=>⟨_,h⟩
theorem Z4s:∀(ss:List Shape1) (f:List (SV pC)→Prop),Z7L (pA P R) ss f→∃svs,f svs
 | [],_,h=>⟨[],h⟩
 | s :: ss,f,h=>by
   obtain ⟨sv,h⟩:=Z5Q s _ h
   obtain ⟨svs,h⟩:=Z4s ss _ h
   exact ⟨sv :: svs,h⟩
theorem Z4F:∀(s:Shape) (f:SV pC→Prop),Z3n (pA P R) s f→∃sv,f sv
 | .one s,f,h=>Z5Q s f h
 | .tup ss,f,h=>let ⟨svs,h⟩:=Z4s ss _ h; ⟨_,h⟩

theorem Z6Y:∀(svs:List (SV pC)) (l:Array Value) (off i:Nat) (r:Prop),ZBV (pA P R) svs l off i r→(∀j sv,svs[j]?=some sv→lget l (off+(i+j))=toV sv)∧r
 | [],_,_,_,_,h=>⟨by simp,h⟩
 | v :: vs,l,off,i,r,h=>by
   obtain ⟨h1,h2⟩:=h
   obtain ⟨h3,h4⟩:=Z6Y vs l off (i+1) r h2
   refine ⟨fun j sv hj=>?_,h4⟩
   cases j with
   | zero=>simp at hj; subst hj; exact h1
   | succ j =>
     simp at hj
     have:=h3 j sv hj
     rw [show off+(i+(j+1))=off+(i+1+j) from by omega]
     exact this

theorem Z3k {t:TypeId} {cs:List Z76} (h:Z3e P t=.agg cs):Z6T (und P t)=true∧cs.length=Z0i P t:=by
 unfold Z3e at h
 split at h
 ·split at h
  ·rename_i hu hc; cases h; exact ⟨by rw [hu]; rfl,hc.2⟩
  ·cases h
 ·split at h
  ·rename_i hu hc; cases h; exact ⟨by rw [hu]; rfl,hc.2⟩
  ·cases h
 ·cases h
theorem Z9p {t:TypeId} {n:Nat} (h:Z3e P t=.big n):Z6T (und P t)=true∧n=Z0i P t:=by
 unfold Z3e at h
 split at h
 ·split at h
  ·cases h
  ·rename_i hu hc; cases h; exact ⟨by rw [hu]; rfl,rfl⟩
 ·split at h
  ·cases h
  ·rename_i hu hc; cases h; exact ⟨by rw [hu]; rfl,rfl⟩
 ·cases h
theorem Z63 {t:TypeId} {c:Z76} (h:Z3e P t=.cell c):Z6T (und P t)=false:=by
 unfold Z3e at h
 split at h
 ·split at h <;> cases h
 ·split at h <;> cases h
 ·rename_i d h1 h2
  cases hu:und P t <;> first
   | rfl
   | exact absurd hu (h1 _)
   | exact absurd hu (h2 _ _)

theorem Z4T {t:TypeId} {cs:Array Value} {off:Nat} (hag:Z6T (und P t)=true) (w:World) :
  (part t cs off).run P w=.ok (.agg (cs.extract off (off+Z0i P t))) w:=by
 have hu:P.underlying t=some (und P t):=Z1h rfl (by intro he; rw [he] at hag; cases hag)
 obtain ⟨i,hi⟩:=Z3o hu
 unfold part
 simp only [Sem.run_bind,Z5l hu,Result.andThen_ok,hag,if_true,Z0v hi,Sem.run_pure]
theorem Z5m {t:TypeId} {cs:Array Value} {off:Nat} {v:Value} (hi:∃i,P.underlying t=some i) (hag:Z6T (und P t)=false) (hv:cs[off]?=some v) (w:World) :
  (part t cs off).run P w=.ok v w:=by
 obtain ⟨d,hu⟩:=hi
 have hd:und P t=d:=by simp [und,hu]
 unfold part
 simp only [Sem.run_bind,Z5l hu,Result.andThen_ok,← hd,hag,Bool.false_eq_true,if_false,hv,Sem.run_pure]

theorem Z7e {t:TypeId} {x:SV pC} {off:Nat} {k:SV pC→Prop} {r:Prop} (hd:∃d,P.underlying t=some d) (h:ZFa (pA P R) P t x off k=some r) (hr:r) :
  ∃sv,(∃cs,toV x=.agg cs∧∀w,(part t cs off).run P w=.ok (toV sv) w)∧k sv:=by
 unfold ZFa at h
 split at h
 ·rename_i c cs hs
  cases hc:cs[off]? with
  | none=>rw [hc] at h; cases h
  | some sv =>
    rw [hc] at h
    cases h
    exact ⟨sv,⟨(toVs cs).toArray,rfl,fun w=>Z5m hd (Z63 hs) (by simp [toVs_getElem?,hc]) w⟩,hr⟩
 ·rename_i c n l hs
  split at h
  ·rename_i hlt
   cases h
   obtain ⟨hl,hr⟩:=hr
   obtain ⟨sv,hv,hk⟩:=Z3m _ _ hr
   refine ⟨sv,⟨_,rfl,fun w=>Z5m hd (Z63 hs) ?_ w⟩,hk⟩
   have hoff:off < Array.size l:=by rw [hl]; exact hlt
   have hv:lget l off=toV sv:=hv
   rw [← hv,lget]
   simp [hoff]
  ·cases h
 ·rename_i ds cs hs
  split at h
  ·cases h
   obtain ⟨hag,hlen⟩:=Z3k hs
   refine ⟨_,⟨(toVs cs).toArray,rfl,fun w=>?_⟩,hr⟩
   rw [Z4T hag]
   simp [toV,Z1i,hlen,List.map_take,List.map_drop,List.extract_eq_take_drop]
  ·cases h
 ·rename_i ds n l hs
  split at h
  ·rename_i hle
   cases h
   obtain ⟨hl,hr⟩:=hr
   obtain ⟨hag,hlen⟩:=Z3k hs
   obtain ⟨svs,hsl,hr⟩:=Z3G _ _ hr
   obtain ⟨heq,hk⟩:=Z6Y _ _ _ _ _ hr
   refine ⟨_,⟨_,rfl,fun w=>?_⟩,hk⟩
   rw [Z4T hag]
   have hl:Array.size l=n:=hl
   have:Array.extract l off (off+Z0i P t)=(toVs svs).toArray:=by
    refine Array.ext (by simp [Z02]; omega) fun i h1 h2=>?_
    simp [Z02] at h2
    have hi:=heq i svs[i] (by simp [h2])
    simp only [Nat.zero_add,lget] at hi
    have hoi:off+i < Array.size l:=by omega
    simp only [Array.getElem_extract,Z1i,List.getElem_toArray,List.getElem_map,← hi]
    simp [hoi]
   simp only [toV,this]
  ·cases h
 ·rename_i m n l hs
  split at h
  ·cases h
   obtain ⟨hl,hr⟩:=hr
   obtain ⟨hag,hlen⟩:=Z9p hs
   refine ⟨_,⟨_,rfl,fun w=>?_⟩,hr⟩
   rw [Z4T hag,hlen]
   rfl
  ·cases h
 ·cases h
end Go.Vcg
end
section
namespace Go.Vcg
variable {P:Program} {R:Z6N}

theorem Z2O (v:Value):toV (Z2j (pA P R) v)=v:=by
 cases v with
 | pointer o=>cases o with
   | none=>rfl
   | some d =>
     obtain ⟨b,off,sp⟩:=d
     cases sp <;> rfl
 | slice o l c=>cases o <;> rfl
 | map m=>cases m <;> rfl
 | tuple vs =>
   simp only [Z2j]
   split
   ·rename_i h
    have:vs=#[]:=Array.size_eq_zero_iff.1 h
    subst this; rfl
   ·rfl
 | _=>rfl
theorem ZEt (v:Value):toV (ZFW (pA P R) v)=v:=by
 unfold ZFW
 split
 ·split
  ·simp only [toV,Z1i,List.map_map]
   congr 1
   have:(toV ∘ Z2j (pA P R))=id:=funext fun v=>Z2O v
   rw [this]
   simp
  ·rfl
 ·simp only [toV,Z2O]
 ·exact Z2O _

def Rep (env:Env pC) (a:Act):Prop:=∀t,a.tmps.getD t undef=toV (Z3g env t)
theorem Rep.eval {env:Env pC} {a:Act} (h:Rep env a) (x:Operand):a.eval x=toV (ev (pA P R) env x):=by
 cases x with
 | tmp t=>exact h t
 | const v=>exact (ZEt v).symm
 | global g=>rfl
 | func f=>rfl

theorem Z6m (off:Nat):∀(l:List Value) (k:Nat) (cs:Array Value),(l.zipIdx k).foldl (fun cs (x:Value×Nat)=>cs.setIfInBounds (off+x.2) x.1) cs=setsAt cs (off+k) l
 | [],_,_=>rfl
 | v :: vs,k,cs=>by
   simp only [List.zipIdx_cons,List.foldl_cons,setsAt]
   exact Z6m off vs (k+1) _
theorem Z7M (place:Nat→Option (Nat×Nat)) (cells:Array Value) (i:Nat) (v:Value) (rest:List (Nat×Value)) {off size:Nat} (hp:place i=some (off,size)) (h1:v.cells.size=size) (h2:off+size≤cells.size) :
  Instr.fill place cells ((i,v) :: rest)=Instr.fill place (setsAt cells off v.cells.toList) rest:=by
 simp only [Instr.fill,hp]
 have:(v.cells.size != size || decide (off+v.cells.size > cells.size))=false:=by simp [h1]; omega
 rw [if_neg (by simp [h1]; omega)]
 congr 1
 rw [← Array.foldl_toList,Array.toList_zipIdx]
 exact Z6m off _ 0 cells
def ZCz:SV pC→Prop
 | .raw v=>Value.oneCell' v=true
 | _=>True
theorem Z33:∀(vs:List (SV pC)) (r:Prop),ZGA (pA P R) vs r→(∀v∈vs,ZCz v)∧r
 | [],r,h=>⟨by simp,h⟩
 | v :: vs,r,h=>by
   cases v with
   | raw u =>
     obtain ⟨h1,h2⟩:=Z33 vs r h.2
     exact ⟨List.forall_mem_cons.2 ⟨h.1,h1⟩,h2⟩
   | _ =>
     obtain ⟨h1,h2⟩:=Z33 vs r h
     exact ⟨List.forall_mem_cons.2 ⟨trivial,h1⟩,h2⟩
theorem ZDm {v:Value} (h:Value.oneCell' v=true):v.cells=#[v]:=by
 cases v <;> first
  | rfl
  | cases h
theorem Z6r {v:SV pC} {cs:List (SV pC)} (hr:ZCz v) (h:Z5P v=some cs):(toV v).cells=(toVs cs).toArray:=by
 cases v with
 | raw u=>cases h; exact ZDm hr
 | big=>cases h
 | tup=>cases h
 | _=>cases h; rfl
theorem Z6g:∀(vs cells:List (SV pC)) (off:Nat),(setsAt (toVs cells).toArray off (toVs vs))=(toVs (Z9R cells off vs)).toArray
 | [],_,_=>rfl
 | v :: vs,cells,off=>by
   simp only [toVs,setsAt,Z9R]
   rw [← Z6g vs (cells.set off (v)) (off+1)]
   congr 1
   simp [Z1i]
theorem Z2g {place:Nat→Option (Nat×Nat)} {ev:Operand→SV pC}:∀(parts:List (Nat×Operand)) (cells out:List (SV pC)),(∀v∈parts.map fun p=>ev p.2,ZCz v)→Z3W place ev cells parts=some out →
  Instr.fill place (toVs cells).toArray (parts.map fun (i,x)=>(i,toV (ev x)))=some (toVs out).toArray
 | [],cells,out,_,h=>by cases h; rfl
 | (i,x) :: rest,cells,out,hrw,h=>by
   unfold Z3W at h
   split at h
   ·cases h
   ·rename_i off size hp
    split at h
    ·cases h
    ·rename_i vs hvs
     split at h
     ·rename_i hc
      have e:=Z6r (hrw _ (by simp)) hvs
      have h1:=Z2g rest _ out (fun v hv=>hrw v (by simp at hv ⊢; exact .inr hv)) h
      rw [← Z6g] at h1
      rw [List.map_cons,Z7M place _ i _ _ hp (by rw [e]; simpa [Z02] using hc.1) (by simpa [Z02] using hc.2),e]
      exact h1
     ·cases h

theorem Z5J:∀(vs:List Value) (l:Array Value) (i:Nat),(setsAt l i vs).size=l.size
 | [],_,_=>rfl
 | v :: vs,l,i=>by simp [setsAt,Z5J vs]
theorem Z2W {place:Nat→Option (Nat×Nat)} {ev:Operand→SV pC} {n:Nat} {k:Array Value→Prop}:∀(parts:List (Nat×Operand)) (l:Array Value) (r:Prop),(∀v∈parts.map fun p=>ev p.2,ZCz v) →
  l.size=n→Z3i (pA P R) place ev n l parts k=some r→r →
  ∃out,Instr.fill place l (parts.map fun (i,x)=>(i,toV (ev x)))=some out∧k out
 | [],l,r,_,_,h,hr=>by cases h; exact ⟨l,rfl,hr⟩
 | (i,x) :: rest,l,r,hrw,hl,h,hr=>by
   have hrw':∀v∈rest.map fun p=>ev p.2,ZCz v:=fun v hv=>hrw v (by simp at hv ⊢; exact .inr hv)
   unfold Z3i at h
   split at h
   ·cases h
   ·rename_i off size hp
    split at h
    ·rename_i m l' hx
     split at h
     ·rename_i hc
      cases hb:Z3i (pA P R) place ev n ((pA P R).lputL l off m l') rest k with
      | none=>rw [hb] at h; cases h
      | some r' =>
        rw [hb] at h
        cases h
        obtain ⟨hsz,hr⟩:=hr
        have hsz:Array.size l'=m:=hsz
        obtain ⟨out,ho,hk⟩:=Z2W rest _ r' hrw' (by show (setsAt l off _).size=n; rw [Z5J,hl]) hb hr
        refine ⟨out,?_,hk⟩
        have e:toV (ev x)=.agg l':=by rw [hx]; rfl
        rw [List.map_cons,Z7M place l i _ _ hp (by rw [e]; show Array.size l'=size; omega) (by omega),e]
        have:setsAt l off (Value.agg l').cells.toList=(pA P R).lputL l off m l':=by
         show _=setsAt l off (l'.toList.take m)
         rw [List.take_of_length_le (by simp; omega)]
         rfl
        rw [this]
        exact ho
     ·cases h
    ·split at h
     ·cases h
     ·rename_i vs hvs
      split at h
      ·rename_i hc
       have e:=Z6r (hrw _ (by simp)) hvs
       obtain ⟨out,ho,hk⟩:=Z2W rest _ r hrw' (by show (setsAt l off _).size=n; rw [Z5J,hl]) h hr
       refine ⟨out,?_,hk⟩
       rw [List.map_cons,Z7M place l i _ _ hp (by rw [e]; simpa [Z02] using hc.1) (by omega),e]
       exact ho
      ·cases h
end Go.Vcg
end
