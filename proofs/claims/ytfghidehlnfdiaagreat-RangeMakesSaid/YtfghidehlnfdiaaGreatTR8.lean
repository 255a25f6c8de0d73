/- Contracts: Nodes, its closure. -/
/- Contracts: New, Empty, Root, Put, Delete, Nodes. -/
/- Contracts: Nodes; bounds on how many nodes there are. -/
/- Contracts: Nodes. -/
/- Sorted entries and the canonical trie that they make: plain Lean. -/
/- Contracts of the reference: comparison, heads, strings, lists, nibbles. -/
/- Contracts of the reference: Pack; a node that is laid down. -/
/- Contracts of the reference: what a build holds; a node that is laid down. -/
/- The reference's build: segments of entries; what two paths share. -/
/- Contracts of the reference: an item; a reference. -/
/- Contracts of the reference: a row's item. -/
/- Contracts of the reference: a branch's item; all items. -/
import Derived.Test.YtfghidehlnfdiaaGreatTN1
import Derived.Test.YtfghidehlnfdiaaGreatTP3
set_option linter.unusedVariables false
set_option linter.unusedSimpArgs false
section
namespace Go.Trie
def met (out:List (By×By)) (h:By):Bool:=out.any fun x=>decide (x.1=h)
def Z27 (out:List (By×By)) (top:Bool) (b:By):List (By×By):=if met out (Go.Vcg.sumOf b) || (!top && decide (b.length < 32)) then out else out++[(Go.Vcg.sumOf b,b)]
def Z1b:Nd→Bool→List (By×By)→List (By×By)
 | .nil,_,out=>out
 | .leaf p v,top,out=>Z27 out top (bytesOf (.leaf p v))
 | .row p c,top,out=>Z27 (Z1b c false out) top (bytesOf (.row p c))
 | .branch cs v,top,out=>Z27 ((List.finRange 16).foldl (fun o i=>Z1b (cs i) false o) out) top (bytesOf (.branch cs v))
def Z0t (n:Nd):List (By×By):=Z1b n true []
def cnt:Nd→Nat
 | .nil=>0
 | .leaf _ _=>1
 | .row _ c=>1+cnt c
 | .branch cs _=>1+((List.finRange 16).map fun i=>cnt (cs i)).sum
theorem Z5F (out:List (By×By)) (top:Bool) (b:By):(Z27 out top b).length≤out.length+1:=by
 unfold Z27; split <;> simp
theorem Z5U {cs:Fin 16→Nd} (ih:∀i out,(Z1b (cs i) false out).length≤out.length+cnt (cs i)):∀(l:List (Fin 16)) (out:List (By×By)),(l.foldl (fun o i=>Z1b (cs i) false o) out).length≤out.length+(l.map fun i=>cnt (cs i)).sum
 | [],out=>by simp
 | i :: r,out=>by
   simp only [List.foldl_cons,List.map_cons,List.sum_cons]
   have h1:=Z5U ih r (Z1b (cs i) false out)
   have h2:=ih i out
   omega
theorem Z2s:∀(n:Nd) (top:Bool) (out:List (By×By)),(Z1b n top out).length≤out.length+cnt n
 | .nil,_,out=>by simp [Z1b]
 | .leaf p v,top,out=>by simp only [Z1b,cnt]; exact Z5F _ _ _
 | .row p c,top,out=>by
   simp only [Z1b,cnt]
   have h1:=Z5F (Z1b c false out) top (bytesOf (.row p c))
   have h2:=Z2s c false out
   omega
 | .branch cs v,top,out=>by
   simp only [Z1b,cnt]
   have h1:=Z5F ((List.finRange 16).foldl (fun o i=>Z1b (cs i) false o) out) top (bytesOf (.branch cs v))
   have h2:=Z5U (fun i out=>Z2s (cs i) false out) (List.finRange 16) out
   omega
end Go.Trie
namespace Go.Proofs.YtfghidehlnfdiaaGreat
open Go Go.Vcg Go.Trie
abbrev tMet:TypeId:=78
theorem ZBp:Tryz.prog.underlying tMet=some (.map tHash 88):=by kernel_rfl
theorem ZF5 (w:World):(zeroValue 88).run Tryz.prog w=.ok (.agg #[]) w:=by kernel_rfl
theorem Z4a {k:H32}:∀{es:List (H32×Value)},(Z3E k es).isSome=es.any fun x=>decide (x.1.1=k.1)
 | []=>rfl
 | x :: r=>by
   simp only [Z3E,List.any_cons]
   by_cases h:x.1=k
   ·rw [if_pos h]; simp [h]
   ·rw [if_neg h,Z4a]
    have:decide (x.1.1=k.1)=false:=decide_eq_false (fun e=>h (Subtype.ext e))
    rw [this]; rfl
theorem Z8G {k:H32}:∀{es:List (H32×Value)},(∀x∈es,x.2=.agg #[])→(Z3E k es).getD (.agg #[])=.agg #[]
 | [],_=>rfl
 | x :: r,h=>by
   simp only [Z3E]
   split
   ·simp [h x (by simp)]
   ·exact Z8G (fun y hy=>h y (by simp [hy]))
theorem ZDf (es:List (H32×Value)) (out:List (By×By)) (h:(es.map fun x=>x.1.1)=out.map Prod.fst) (k:By):(es.any fun x=>decide (x.1.1=k))=met out k:=by
 have h1:(es.map fun x=>x.1.1).any (fun y=>decide (y=k))=(out.map Prod.fst).any (fun y=>decide (y=k)):=by rw [h]
 rw [List.any_map,List.any_map] at h1
 exact h1
end Go.Proofs.YtfghidehlnfdiaaGreat
end
section
namespace Go.Trie
def emptyH:By:=Go.Vcg.sumOf [128]
def rootOf (n:Nd):By:=Go.Vcg.sumOf (bytesOf n)
theorem Z9s:bytesOf .nil=[128]:=by simp [bytesOf,Z2B,enc,own,Z2q]
def putT (n:Nd) (k x:By):Int×Nd:=if k.length > 64 then (140,n) else if x=[]∨x.length > 1024 then (141,n) else (0,put n (nibbles k) x)
end Go.Trie
namespace Go.Proofs.YtfghidehlnfdiaaGreat
open Go Go.Vcg Go.Trie
theorem Z8U:Tryz.prog.eqGuardType Tryz.prog.depth tHash=false:=by kernel_rfl
theorem ZE6:(Tryz.prog.info? tHash).map (·.size)=some 32:=by kernel_rfl
theorem Z99 {w:World} (x y:Operand) {a b:By} (ha:a.length=32) (hb:b.length=32):Sem.run Tryz.prog (Z0q .neq tHash x y (.agg (hashA a)) (.agg (hashA b))) w=.ok (.bool (decide (a≠b))) w:=by
 have h:=ZEh (P:=Tryz.prog) (w:=w) Z4k Z5v Z16 Z8U x y (fun i=>((a.getD i 0).toNat:Int)) (fun i=>((b.getD i 0).toNat:Int))
 refine h.trans (congrArg (fun x=>Result.ok (Value.bool x) w) ?_)
 rw [Bool.eq_iff_iff,Bool.not_eq_true',decide_eq_false_iff_not,decide_eq_true_eq,ne_eq]
 refine not_congr ?_
 constructor
 ·intro h
  refine Z7Q ha hb (ZG (fun i hi=>?_))
  have:=h i hi
  simp only [bV,this]
 ·rintro rfl i _; rfl
theorem ZE4 {w:World} (x y:Operand) {a b:By} (ha:a.length=32) (hb:b.length=32):Sem.run Tryz.prog (Z0q .eql tHash x y (.agg (hashA a)) (.agg (hashA b))) w=.ok (.bool (decide (a=b))) w:=by
 have h:=ZEg (P:=Tryz.prog) (w:=w) Z4k Z5v Z16 Z8U x y (fun i=>((a.getD i 0).toNat:Int)) (fun i=>((b.getD i 0).toNat:Int))
 refine h.trans (congrArg (fun x=>Result.ok (Value.bool x) w) ?_)
 rw [Bool.eq_iff_iff,decide_eq_true_eq,decide_eq_true_eq]
 constructor
 ·intro h
  refine Z7Q ha hb (ZG (fun i hi=>?_))
  have:=h i hi
  simp only [bV,this]
 ·rintro rfl i _; rfl
theorem Z1c {w:World} {D:Nat} {cs:Array Value} (H:Blk w D tHash cs) (hs:cs.size=32) (h:By) :
  Sem.run Tryz.prog (Instr.storeAt 27 (.pointer (some ⟨D,0,none⟩)) (.agg (hashA h))) w=.ok () (w.setRow D (hashA h))∧Blk (w.setRow D (hashA h)) D tHash (hashA h)∧Vcg.Mod (·=D) w (w.setRow D (hashA h)) :=
 ⟨H.storeAll (by rw [ZB]; exact ZE6) (by rw [hs,ZB]) (Z2c _),H.row_same _,Mod.setRow _ _ _⟩
theorem ZEQ (w:World):RdB (w.alloc (.cells #[.int .u8 128] 5)) (some ⟨w.heap.size,0,none⟩) [128] :=
 RdB.of_blk (Blk.new w 5 #[bV 128]) (fun j hj=>by
  obtain rfl:j=0:=by simpa using hj
  rfl)
theorem ZAv (w:World):Calls Tryz.prog Z2Q.n #[] w (fun e w'=>e=.returned (.agg (hashA emptyH))∧Vcg.Mod NoB w w'):=by
 refine Z2Q.vc _ _ ?_
 unfold Z2Q.Vc
 rintro d1 w1 ⟨rfl,rfl⟩ d2 w2 ⟨rfl,rfl⟩ d3 w3 ⟨rfl,rfl⟩
 have M1:=Mod.alloc (S:=NoB) w (.cells (Array.replicate 32 (.int .u8 0)) 27)
 have H:=Blk.new w 27 (Array.replicate 32 (.int .u8 0))
 have hs:=ZD w (.cells (Array.replicate 32 (.int .u8 0)) 27)
 generalize w.alloc (.cells (Array.replicate 32 (.int .u8 0)) 27)=w1 at *
 have r2:=ZEQ w1
 have M2:=Mod.alloc (S:=NoB) w1 (.cells #[.int .u8 128] 5)
 generalize w1.alloc (.cells #[.int .u8 128] 5)=w2 at *
 have B3:=Blk.new w2 23 #[.slice (some ⟨w1.heap.size,0,none⟩) 1 1]
 have M3:=Mod.alloc (S:=NoB) w2 (.cells #[.slice (some ⟨w1.heap.size,0,none⟩) 1 1] 23)
 refine (Z9i [[128]] rfl (by simp) (ZFt.one B3 (r2.mod' M3)) (by simp)).mono ?_
 rintro _ w4 ⟨rfl,M4⟩
 have M24:=(M2.trans M3 (fun _ _ h=>h)).trans M4 (fun _ _ h=>h)
 obtain ⟨h1,h2,h3⟩:=Z1c (H.mod' M24) (by simp) (sumOf [[128]].flatten)
 exact ⟨_,rfl,_,h1,_,h2.rowAll (ZB _),rfl,ZM (M1.trans M24 (fun _ _ h=>h)) h3 (Nat.le_refl _)⟩
theorem Z7n {P:Program} {t k e:TypeId} (h:P.underlying t=some (.map k e)) (w:World):∃w',Sem.run P (Instr.makeMap t none) w=.ok (.map (some w.heap.size)) w'∧Vcg.Mod NoB w w'∧w'.heap[w.heap.size]?=some (.map #[] 0):=by
 exact ⟨w.alloc (.map #[] 0),rfl,Mod.alloc _ _,heap_alloc_new _ _⟩
section
variable {C:Type} {S:C→Prop} {w0 w w1 w':World} {lab lab2:Nat→C} {ct c:C}
theorem ZCA:ZCx .nil:=fun k v h=>by simp [Trie.get] at h
end
end Go.Proofs.YtfghidehlnfdiaaGreat
end
section
namespace Go.Trie
theorem Z7F (p:By) (n:Nd):cnt (Z43 p n)≤cnt n+1:=by
 unfold Z43
 split
 ·omega
 ·cases n <;> simp only [cnt] <;> omega
theorem Z8s (f g:Fin 16→Nat) (d:Nat) (a:Nat) (h:∀i:Fin 16,i.val≠a→f i=g i) (ha:∀i:Fin 16,i.val=a→f i≤g i+d):∀(l:List (Fin 16)),l.Nodup→(l.map f).sum≤(l.map g).sum+d
 | [],_=>by simp
 | i :: r,hn=>by
   rw [List.nodup_cons] at hn
   simp only [List.map_cons,List.sum_cons]
   by_cases hi:i.val=a
   ·have h1:=ha i hi
    have h2:r.map f=r.map g:=List.map_congr_left (fun j hj=>h j (fun e=>hn.1 (by rw [Fin.ext (hi.trans e.symm)]; exact hj)))
    rw [h2]; omega
   ·have h1:=h i hi
    have h2:=Z8s f g d a h ha r hn.2
    omega
theorem ZBA {cs cs':Fin 16→Nd} {x y:By} {a d:Nat} (h:∀i:Fin 16,i.val≠a→cs' i=cs i) (ha:∀i:Fin 16,i.val=a→cnt (cs' i)≤cnt (cs i)+d):cnt (.branch cs' y)≤cnt (.branch cs x)+d:=by
 simp only [cnt]
 have:=Z8s (fun i=>cnt (cs' i)) (fun i=>cnt (cs i)) d a (fun i hi=>by simp only [h i hi]) ha (List.finRange 16) (List.nodup_finRange 16)
 omega
theorem ZBB (cs:Fin 16→Nd) (v p x:By) (h:∀a r,p=a :: r→at_ cs a=.nil):cnt (lay cs v p x)≤cnt (.branch cs v)+1:=by
 cases p with
 | nil=>simp only [lay,cnt]; omega
 | cons a r =>
   simp only [lay]
   refine ZBA (a:=a.toNat) (fun i hi=>by unfold upd; rw [if_neg hi]) (fun i hi=>?_)
   unfold upd; rw [if_pos hi]; simp only [cnt]; omega
theorem ZC6 (v:By):cnt (.branch Z0T v)=1:=by
 have:((List.finRange 16).map fun i=>cnt (Z0T i))=List.replicate 16 0:=by decide
 simp only [cnt,this]; rfl
theorem ZFB {q p:By} {y:By} {a:UInt8} {r:By} {cs:Fin 16→Nd} {v:By} (h:lay Z0T [] q y=.branch cs v) (hp:p=a :: r) (hh:∀b s t,¬(q=b :: s∧p=b :: t)):at_ cs a=.nil:=by
 cases q with
 | nil =>
   simp only [lay,Nd.branch.injEq] at h
   rw [← h.1]; exact Z3O a
 | cons b s =>
   simp only [lay,Nd.branch.injEq] at h
   rw [← h.1]
   have hne:a≠b:=fun e=>hh b s r ⟨rfl,by rw [hp,e]⟩
   rw [Z3V hne]; exact Z3O a
theorem ZBC:∀(n:Nd) (p x:By),cnt (put n p x)≤cnt n+4
 | .nil,p,x=>by simp only [put,cnt]; omega
 | .leaf q v,p,x=>by
   simp only [put]
   split
   ·simp only [cnt]; omega
   ·obtain ⟨t,q',p',_,_,_,hq',hp',_,hh⟩:=Z3K q p
    have h1:=Z7F (p.take (ZK q p)) (ZG6 (lay Z0T [] (q.drop (ZK q p)) v) (p.drop (ZK q p)) x)
    have h2:=ZBB Z0T [] (q.drop (ZK q p)) v (fun a r _=>Z3O a)
    rw [ZC6] at h2
    have h3:cnt (ZG6 (lay Z0T [] (q.drop (ZK q p)) v) (p.drop (ZK q p)) x)≤cnt (lay Z0T [] (q.drop (ZK q p)) v)+1:=by
     cases hl:lay Z0T [] (q.drop (ZK q p)) v with
     | branch cs w =>
       simp only [ZG6]
       exact ZBB cs w _ x (fun a r hp=>ZFB hl hp (by rw [← hq',← hp']; exact hh))
     | nil=>cases hd:q.drop (ZK q p) <;> rw [hd] at hl <;> simp [lay] at hl
     | leaf a b=>cases hd:q.drop (ZK q p) <;> rw [hd] at hl <;> simp [lay] at hl
     | row a b=>cases hd:q.drop (ZK q p) <;> rw [hd] at hl <;> simp [lay] at hl
    simp only [cnt]; omega
 | .row q c,p,x=>by
   simp only [put]
   split
   ·have:=ZBC c (p.drop (ZK q p)) x
    simp only [cnt]; omega
   ·rename_i hne
    obtain ⟨t,q',p',_,_,_,hq',hp',_,hh⟩:=Z3K q p
    have hlt:ZK q p < q.length:=by have:=(Z4U q p).1; omega
    have h1:=Z7F (p.take (ZK q p)) (lay (upd Z0T (q.getD (ZK q p) 0) (Z43 (q.drop (ZK q p+1)) c)) [] (p.drop (ZK q p)) x)
    have hqd:q.getD (ZK q p) 0=q[ZK q p]:=by simp [List.getD_eq_getElem?_getD,hlt]
    have h2:=ZBB (upd Z0T (q.getD (ZK q p) 0) (Z43 (q.drop (ZK q p+1)) c)) [] (p.drop (ZK q p)) x (fun a r hp=>by
     have hd:q.drop (ZK q p)=q[ZK q p] :: q.drop (ZK q p+1):=List.drop_eq_getElem_cons hlt
     have hne:a≠q.getD (ZK q p) 0:=fun e=>hh a _ r ⟨by rw [hq',hd,← hqd,← e],by rw [hp']; exact hp⟩
     rw [Z3V hne]; exact Z3O a)
    have h3:cnt (.branch (upd Z0T (q.getD (ZK q p) 0) (Z43 (q.drop (ZK q p+1)) c)) [])≤cnt (.branch Z0T [])+(1+cnt c):=by
     refine ZBA (a:=(q.getD (ZK q p) 0).toNat) (fun i hi=>by unfold upd; rw [if_neg hi]) (fun i hi=>?_)
     unfold upd; rw [if_pos hi]
     have:=Z7F (q.drop (ZK q p+1)) c
     omega
    rw [ZC6] at h3
    simp only [cnt] at *; omega
 | .branch cs v,p,x=>by
   cases p with
   | nil=>simp only [put,cnt]; omega
   | cons a r =>
     simp only [put]
     refine ZBA (a:=a.toNat) (fun i hi=>by rw [if_neg hi]) (fun i hi=>?_)
     rw [if_pos hi]
     exact ZBC (cs i) r x
end Go.Trie
end
section
namespace Go.Proofs.YtfghidehlnfdiaaGreat
open Go Go.Vcg Go.Trie
section
variable {C C':Type} {S:C→Prop} {w0 w w1 w':World} {lab:Nat→C} {lab':Nat→C'} {ct c cb:C} {c' cb':C'}
theorem COw.re {e:TypeId} {sz:Nat} {o:Option Addr} {l k:Nat} {xs:List Value} (h:COw w lab c e sz o l k xs) (hl:∀k,k < w.heap.size→lab k=c→lab' k=c'):COw w lab' c' e sz o l k xs :=
 ⟨h.own,fun k hk=>hl k (h.own.lt hk) (h.clr k hk)⟩
theorem ZV.re {vs:List Value} {l:List (By×By)} (h:ZV w lab cb vs l) (hl:∀k,k < w.heap.size→lab k=cb→lab' k=cb'):ZV w lab' cb' vs l :=
 ⟨h.1,fun j hj=>by obtain ⟨h1,h2,ob,kb,h3,h4⟩:=h.2 j hj; exact ⟨h1,h2,ob,kb,h3,CBy.re h4.1 hl,h4.2⟩⟩
def Z0w (w:World) (lab:Nat→C) (c:C) (l:List (By×By)) (o:Option Addr) (n:Nat):Prop :=
 n=l.length∧∃vs,Z4p w lab c o vs∧ZV w lab c vs l
theorem Z0w.stp {lab2:Nat→C} {l:List (By×By)} {o:Option Addr} {n:Nat} (h:Z0w w lab c l o n) (s:Stp S w lab w' lab2) (hs:¬S c):Z0w w' lab2 c l o n:=by
 obtain ⟨h1,vs,h2,h3⟩:=h
 exact ⟨h1,vs,h2.stp s hs,h3.stp s hs⟩
theorem Z0w.nil (w:World) (lab:Nat→C) (c:C) (o:Option Addr):Z0w w lab c [] o 0:=⟨rfl,[],Z4p.nil w lab c o,ZV.nil w lab c⟩
end
end Go.Proofs.YtfghidehlnfdiaaGreat
end
section
namespace Go.Trie
def ltB:By→By→Prop
 | _,[]=>False
 | [],_ :: _=>True
 | a :: p,b :: q=>a < b∨(a=b∧ltB p q)
theorem Z3q (p:By):¬ltB p []:=by cases p <;> simp [ltB]
theorem Z3a:∀(p:By),¬ltB p p
 | [],h=>h
 | a :: p,h=>by
   rcases h with h | h
   ·exact absurd h (UInt8.lt_irrefl a)
   ·exact Z3a p h.2
theorem Z32:∀{p q r:By},ltB p q→ltB q r→ltB p r
 | p,q,[],_,h=>(Z3q _ h).elim
 | p,[],c :: r,h,_=>(Z3q _ h).elim
 | [],b :: q,c :: r,_,_=>trivial
 | a :: p,b :: q,c :: r,h1,h2=>by
   rcases h1 with h1 | ⟨rfl,h1⟩
   ·rcases h2 with h2 | ⟨rfl,h2⟩
    ·exact .inl (UInt8.lt_trans h1 h2)
    ·exact .inl h1
   ·rcases h2 with h2 | ⟨rfl,h2⟩
    ·exact .inl h2
    ·exact .inr ⟨rfl,Z32 h1 h2⟩
theorem ZCR {a:UInt8} {p q:By}:ltB (a :: p) (a :: q)↔ltB p q:=by
 simp only [ltB]
 constructor
 ·rintro (h | h)
  ·exact absurd h (UInt8.lt_irrefl a)
  ·exact h.2
 ·exact fun h=>.inr ⟨trivial,h⟩
theorem Z4f {t p q:By}:ltB (t++p) (t++q)↔ltB p q:=by
 induction t with
 | nil=>exact Iff.rfl
 | cons a t ih=>rw [List.cons_append,List.cons_append,ZCR,ih]
def Rep (s:List (By×By)) (n:Nd):Prop:=s.Pairwise (fun x y=>ltB x.1 y.1)∧∀k v,get n k=some v↔(k,v)∈s
theorem Rep.nil:Rep [] .nil:=⟨List.Pairwise.nil,fun k v=>by simp [get]⟩
theorem Rep.nil_inv {n:Nd} (h:Rep [] n) (hc:Z1p n):n=.nil:=by
 by_cases hn:n=.nil
 ·exact hn
 ·obtain ⟨k,v,hk⟩:=Z59 hc hn
  have:=(h.2 k v).1 hk
  simp at this
theorem Rep.ne {s:List (By×By)} {n:Nd} (h:Rep s n) (hs:s≠[]):n≠.nil:=by
 rintro rfl
 cases s with
 | nil=>exact hs rfl
 | cons x r =>
   have:=(h.2 x.1 x.2).2 (by simp)
   simp [get] at this
theorem Rep.leaf {s:List (By×By)} {p v:By} (h:Rep s (.leaf p v)):s=[(p,v)]:=by
 have hm:∀x∈s,x=(p,v):=fun x hx=>by
  have:=(h.2 x.1 x.2).2 hx
  simp only [get] at this
  split at this
  ·rename_i hp
   cases this
   exact Prod.ext hp.symm rfl
  ·cases this
 have hin:(p,v)∈s:=(h.2 p v).1 (by simp [get])
 cases s with
 | nil=>simp at hin
 | cons x r =>
   cases r with
   | nil=>rw [hm x (by simp)]
   | cons y r =>
     have h1:=hm x (by simp)
     have h2:=hm y (by simp)
     have:=(List.pairwise_cons.1 h.1).1 y (by simp)
     rw [h1,h2] at this
     exact (Z3a _ this).elim
theorem Rep.two {s:List (By×By)} {n:Nd} (h:Rep s n) {k1 v1 k2 v2:By} (h1:get n k1=some v1) (h2:get n k2=some v2) (hne:k1≠k2):2≤s.length:=by
 have m1:=(h.2 _ _).1 h1
 have m2:=(h.2 _ _).1 h2
 match s,m1,m2 with
 | [x],m1,m2 =>
   simp at m1 m2
   exact (hne (by rw [← m2] at m1; exact (Prod.mk.inj m1).1)).elim
 | x :: y :: r,_,_=>simp
theorem Rep.row {s:List (By×By)} {p:By} {c:Nd} (h:Rep s (.row p c)):(∀x∈s,p <+: x.1)∧Rep (s.map fun x=>(x.1.drop p.length,x.2)) c:=by
 have hp:∀x∈s,p <+: x.1:=fun x hx=>by
  obtain ⟨r,hr,_⟩:=ZAC ((h.2 x.1 x.2).2 hx)
  exact ⟨r,hr.symm⟩
 refine ⟨hp,?_,fun k v=>?_⟩
 ·rw [List.pairwise_map]
  refine List.Pairwise.imp_of_mem (fun {x y} hx hy hxy=>?_) h.1
  obtain ⟨r,hr⟩:=hp x hx
  obtain ⟨t,ht⟩:=hp y hy
  rw [← hr,← ht,Z4f] at hxy
  simp only [← hr,← ht,List.drop_left]
  exact hxy
 ·rw [← Z1I p k c,h.2]
  simp only [List.mem_map]
  constructor
  ·intro hm
   exact ⟨_,hm,by simp⟩
  ·rintro ⟨x,hx,he⟩
   obtain ⟨r,hr⟩:=hp x hx
   simp only [Prod.mk.injEq] at he
   rw [← hr,List.drop_left] at he
   obtain ⟨rfl,rfl⟩:=he
   rw [hr]; exact hx
theorem Z9S (t p q:By):ZK (t++p) (t++q)=t.length+ZK p q:=by
 induction t with
 | nil=>simp
 | cons a t ih=>simp only [List.cons_append,ZK,if_true,ih,List.length_cons]; omega
theorem ZC2 {s:List (By×By)} (hs:s.Pairwise (fun x y=>ltB x.1 y.1)) {x y:By×By} {a:UInt8} {p q:By} (hx:s.head?=some x) (hy:s.getLast?=some y) (hxa:x.1=a :: p) (hya:y.1=a :: q):∀z∈s,∃r,z.1=a :: r:=by
 have hlast:∀{s:List (By×By)} {y:By×By},s.Pairwise (fun x y=>ltB x.1 y.1)→s.getLast?=some y→∀z∈s,z=y∨ltB z.1 y.1:=by
  intro s
  induction s with
  | nil=>intro y _ h; simp at h
  | cons x r ih =>
    intro y hp hl z hz
    rw [List.pairwise_cons] at hp
    cases r with
    | nil=>simp at hl hz; subst hl; exact .inl hz
    | cons x2 r2 =>
      rw [List.getLast?_cons_cons] at hl
      rcases List.mem_cons.1 hz with rfl | hz
      ·have hy:y∈x2 :: r2:=List.mem_of_getLast? hl
       exact .inr (hp.1 y hy)
      ·exact ih hp.2 hl z hz
 have hfirst:∀z∈s,z=x∨ltB x.1 z.1:=by
  intro z hz
  cases s with
  | nil=>simp at hx
  | cons x' r =>
    simp at hx; subst hx
    rcases List.mem_cons.1 hz with rfl | hz
    ·exact .inl rfl
    ·exact .inr ((List.pairwise_cons.1 hs).1 z hz)
 intro z hz
 rcases hfirst z hz with rfl | h1
 ·exact ⟨p,hxa⟩
 rcases hlast hs hy z hz with rfl | h2
 ·exact ⟨q,hya⟩
 rw [hxa] at h1
 rw [hya] at h2
 cases hzz:z.1 with
 | nil=>rw [hzz] at h1; exact (Z3q _ h1).elim
 | cons b r =>
   rw [hzz] at h1 h2
   have hab:a=b:=by
    have h3:a < b∨a=b:=h1.elim .inl (fun h=>.inr h.1)
    have h4:b < a∨b=a:=h2.elim .inl (fun h=>.inr h.1)
    rcases h3 with h3 | h3
    ·rcases h4 with h4 | h4
     ·exact absurd (UInt8.lt_trans h3 h4) (UInt8.lt_irrefl a)
     ·exact h4.symm
    ·exact h3
   exact ⟨r,by rw [hab]⟩
theorem Rep.parts {s:List (By×By)} {n:Nd} (h:Rep s n) (hc:Z1p n) (hb:Z3F n) {x y:By×By} (hx:s.head?=some x) (hy:s.getLast?=some y):ZK x.1 y.1=0:=by
 cases hx1:x.1 with
 | nil=>simp [ZK]
 | cons a p =>
   cases hy1:y.1 with
   | nil=>simp [ZK]
   | cons b q =>
     simp only [ZK]
     split
     ·rename_i hab
      subst hab
      exfalso
      obtain ⟨k1,v1,k2,v2,h1,h2,hp⟩:=Z9V hc hb
      obtain ⟨r1,e1⟩:=ZC2 h.1 hx hy hx1 hy1 _ ((h.2 _ _).1 h1)
      obtain ⟨r2,e2⟩:=ZC2 h.1 hx hy hx1 hy1 _ ((h.2 _ _).1 h2)
      exact hp.2 a r1 r2 ⟨e1,e2⟩
     ·rfl
theorem Rep.shared_row {s:List (By×By)} {p:By} {c:Nd} (h:Rep s (.row p c)) (hc:Z1p (.row p c)) {x y:By×By} (hx:s.head?=some x) (hy:s.getLast?=some y):ZK x.1 y.1=p.length:=by
 obtain ⟨hp,hr⟩:=h.row
 have hxs:x∈s:=List.mem_of_mem_head? hx
 have hys:y∈s:=List.mem_of_getLast? hy
 obtain ⟨r,er⟩:=hp x hxs
 obtain ⟨t,et⟩:=hp y hys
 have:=hr.parts hc.2.2.2 hc.2.2.1 (x:=(x.1.drop p.length,x.2)) (y:=(y.1.drop p.length,y.2)) (by rw [List.head?_map,hx]; rfl) (by rw [List.getLast?_map,hy]; rfl)
 rw [← er,← et,List.drop_left,List.drop_left] at this
 rw [← er,← et,Z9S,this]; omega
def Z7S (a:Nat) (p:By):Prop:=match p with
 | []=>True
 | b :: _=>b.toNat < a
def Z8V (a:Nat) (p:By):Prop:=match p with
 | []=>False
 | b :: _=>a≤b.toNat
theorem Rep.kid {s s1 t s3:List (By×By)} {cs:Fin 16→Nd} {v:By} (h:Rep s (.branch cs v)) (a:Fin 16) (he:s=s1++(t++s3)) (h1:∀x∈s1,Z7S a.val x.1) (ht:∀x∈t,∃r,x.1=UInt8.ofNat a.val :: r) (h3:∀x∈s3,Z8V (a.val+1) x.1) :
  Rep (t.map fun x=>(x.1.drop 1,x.2)) (cs a):=by
 have ha:(UInt8.ofNat a.val).toNat=a.val:=by rw [UInt8.toNat_ofNat']; have:=a.isLt; omega
 have hpt:t.Pairwise (fun x y=>ltB x.1 y.1):=by
  have:=h.1
  rw [he] at this
  exact ((List.pairwise_append.1 ((List.pairwise_append.1 this).2.1))).1
 refine ⟨?_,fun k w=>?_⟩
 ·rw [List.pairwise_map]
  refine List.Pairwise.imp_of_mem (fun {x y} hx hy hxy=>?_) hpt
  obtain ⟨r,hr⟩:=ht x hx
  obtain ⟨q,hq⟩:=ht y hy
  rw [hr,hq,ZCR] at hxy
  simp only [hr,hq,List.drop_succ_cons,List.drop_zero]
  exact hxy
 ·rw [← Z14 cs v a k,h.2,he]
  simp only [List.mem_append,List.mem_map]
  constructor
  ·rintro (hm | hm | hm)
   ·have:=h1 _ hm
    simp only [Z7S,ha] at this
    omega
   ·exact ⟨_,hm,by simp⟩
   ·have:=h3 _ hm
    simp only [Z8V,ha] at this
    omega
  ·rintro ⟨x,hx,hxe⟩
   obtain ⟨r,hr⟩:=ht x hx
   simp only [hr,List.drop_succ_cons,List.drop_zero,Prod.mk.injEq] at hxe
   obtain ⟨rfl,rfl⟩:=hxe
   rw [← hr]
   exact .inr (.inl hx)
theorem ZH4 {s2 t s3:List (By×By)} {a:Nat} (hs:s2.Pairwise (fun x y=>ltB x.1 y.1)) (he:s2=t++s3) (hge:∀x∈s2,Z8V a x.1) (hne:∀x,s3.head?=some x→∀b r,x.1=b :: r→b.toNat≠a):∀x∈s3,Z8V (a+1) x.1:=by
 subst he
 cases s3 with
 | nil=>intro x hx; simp at hx
 | cons y r =>
   have hy:=hge y (by simp)
   have hps:=(List.pairwise_append.1 hs).2.1
   rw [List.pairwise_cons] at hps
   intro x hx
   cases hy1:y.1 with
   | nil=>rw [hy1] at hy; exact hy.elim
   | cons b q =>
     rw [hy1] at hy
     have hb:=hne y rfl b q hy1
     have hb2:a≤b.toNat:=hy
     rcases List.mem_cons.1 hx with rfl | hx
     ·rw [hy1]; show a+1≤b.toNat; omega
     ·have hlt:=hps.1 x hx
      rw [hy1] at hlt
      cases hx1:x.1 with
      | nil=>rw [hx1] at hlt; exact (Z3q _ hlt).elim
      | cons c p =>
        rw [hx1] at hlt
        show a+1≤c.toNat
        rcases hlt with hlt | ⟨rfl,_⟩
        ·have:b.toNat < c.toNat:=UInt8.lt_iff_toNat_lt.1 hlt
         omega
        ·omega
theorem Rep.value {s:List (By×By)} {cs:Fin 16→Nd} {v:By} (h:Rep s (.branch cs v)) {x:By×By} {r:List (By×By)} (hs:s=x :: r):(x.1=[]→v=x.2)∧(x.1≠[]→v=[])∧∀y∈r,y.1≠[]:=by
 subst hs
 refine ⟨fun hx=>?_,fun hx=>?_,fun y hy e=>?_⟩
 ·have:=(h.2 x.1 x.2).2 (by simp)
  rw [hx,Zh] at this
  split at this
  ·cases this
  ·exact Option.some.inj this
 ·by_cases hv:v=[]
  ·exact hv
  ·exfalso
   have:=(h.2 [] v).1 (by rw [Zh,if_neg hv])
   rcases List.mem_cons.1 this with e | hm
   ·exact hx (by rw [← e])
   ·have:=(List.pairwise_cons.1 h.1).1 _ hm
    exact Z3q _ this
 ·have:=(List.pairwise_cons.1 h.1).1 y hy
  rw [e] at this
  exact Z3q _ this
end Go.Trie
end
section
namespace Go.Trie
def Z1z:By→By→Int
 | [],[]=>0
 | [],_ :: _=> -1
 | _ :: _,[]=>1
 | a :: p,b :: q=>if a=b then Z1z p q else if a < b then -1 else 1
theorem Z24:∀{p q:By},Z1z p q < 0↔ltB p q
 | [],[]=>by simp [Z1z,ltB]
 | [],_ :: _=>by simp [Z1z,ltB]
 | _ :: _,[]=>by simp [Z1z,ltB]
 | a :: p,b :: q=>by
   simp only [Z1z,ltB]
   by_cases hab:a=b
   ·subst hab
    rw [if_pos rfl,Z24]
    exact ⟨fun h=>.inr ⟨rfl,h⟩,fun h=>h.elim (fun h=>absurd h (UInt8.lt_irrefl a)) (·.2)⟩
   ·rw [if_neg hab]
    by_cases hlt:a < b
    ·rw [if_pos hlt]; simp [hlt]
    ·rw [if_neg hlt]; simp [hlt,hab]
theorem ZB9:∀{p q:By},Z1z p q=0↔p=q
 | [],[]=>by simp [Z1z]
 | [],_ :: _=>by simp [Z1z]
 | _ :: _,[]=>by simp [Z1z]
 | a :: p,b :: q=>by
   simp only [Z1z,List.cons.injEq]
   by_cases hab:a=b
   ·rw [if_pos hab,ZB9]; simp [hab]
   ·rw [if_neg hab]
    split <;> simp [hab]
theorem ZB8 (t p q:By):Z1z (t++p) (t++q)=Z1z p q:=by
 induction t with
 | nil=>rfl
 | cons a t ih=>simp only [List.cons_append,Z1z,if_true,ih]
theorem Z5t {p q:By} {j:Nat} (h:p.take j=q.take j):Z1z p q=Z1z (p.drop j) (q.drop j):=by
 have:=ZB8 (p.take j) (p.drop j) (q.drop j)
 rw [List.take_append_drop,h,List.take_append_drop] at this
 exact this
end Go.Trie
namespace Go.Proofs.YtfghidehlnfdiaaGreat
open Go Go.Vcg Go.Trie
section
variable {w:World}
theorem Z9x {o1 o2:Option Addr} {k1 k2:Nat} {a b:By} (h1:RdB w o1 a) (h2:RdB w o2 b) (hl:a.length≤2 ^ 62) :
  Calls Tryz.prog Z05.n #[.slice o1 a.length k1,.slice o2 b.length k2] w (fun e w'=>e=.returned (.int .i64 (Z1z a b))∧Vcg.Mod NoB w w'):=by
 refine ZH fun R hR=>Z05.vc _ _ _ _ _ _ _ _ ?_
 unfold Z05.Vc
 refine ⟨fun w'=>Vcg.Mod NoB w w'∧(a.take (min a.length b.length)=b.take (min a.length b.length)),
  ⟨fun i w'=>∃j:Nat,i=(j:Int)∧j≤a.length∧j≤b.length∧a.take j=b.take j∧Vcg.Mod NoB w w',fun i _=>((a.length:Int) - i).toNat,⟨0,rfl,Nat.zero_le _,Nat.zero_le _,rfl,Mod.refl w⟩,?_⟩,?_⟩
 ·rintro _ _ w1 ⟨j,rfl,hja,hjb,ht,M⟩
  refine ⟨fun hla=>⟨fun hlb=>?_,fun hlb=>⟨M,by rw [show min a.length b.length=j by omega]; exact ht⟩⟩,fun hla=>⟨M,by rw [show min a.length b.length=j by omega]; exact ht⟩⟩
  rintro _ rfl
  have ha:j < a.length:=by omega
  have hb:j < b.length:=by omega
  obtain ⟨ba,fa,rfl,hba,hca⟩:=Z1w h1 ha
  obtain ⟨bb,fb,rfl,hbb,hcb⟩:=Z1w h2 hb
  have M2:=M.step_drew
  have ca:∀w',Vcg.Mod NoB w w'→w'.cell? (Addr.add ⟨ba,fa,none⟩ (Int.toNat (j:Int)))=some (bV a[j]):=fun w' M=>by rw [Z6,Int.toNat_natCast]; exact (ZX M hba (fun h=>h)).trans hca
  have cb:∀w',Vcg.Mod NoB w w'→w'.cell? (Addr.add ⟨bb,fb,none⟩ (Int.toNat (j:Int)))=some (bV b[j]):=fun w' M=>by rw [Z6,Int.toNat_natCast]; exact (ZX M hbb (fun h=>h)).trans hcb
  refine ⟨_,rfl,⟨by omega,by omega⟩,_,ca _ M2,_,rfl,⟨by omega,by omega⟩,_,cb _ M2,fun hne=>?_,fun he=>?_⟩
  ·rintro _ rfl
   have M3:=M2.step_drew
   have hab:a[j]≠b[j]:=fun e=>hne (by rw [e])
   have hc:Z1z a b=if a[j] < b[j] then -1 else 1:=by
    rw [Z5t ht,List.drop_eq_getElem_cons ha,List.drop_eq_getElem_cons hb]
    simp only [Z1z]; rw [if_neg hab]
   have hlt:a[j] < b[j]↔((a[j].toNat:Int) < (b[j].toNat:Int)):=by rw [UInt8.lt_iff_toNat_lt]; omega
   refine ⟨_,rfl,⟨by omega,by omega⟩,_,ca _ M3,_,rfl,⟨by omega,by omega⟩,_,cb _ M3,fun h=>hR _ _ ⟨?_,M3⟩,fun h=>hR _ _ ⟨?_,M3⟩⟩
   ·rw [hc,if_pos (hlt.2 h)]
   ·rw [hc,if_neg (fun x=>h (hlt.1 x))]
  ·have hab:a[j]=b[j]:=UInt8.toNat_inj.1 (by exact_mod_cast he)
   refine ⟨⟨j+1,by rw [Z0 (by omega) (by omega)]; omega,ha,hb,?_,M2⟩,by dsimp only; rw [Z0 (by omega) (by omega)]; omega⟩
   rw [List.take_add_one,List.take_add_one,ht,List.getElem?_eq_getElem ha,List.getElem?_eq_getElem hb,hab]
 ·rintro _ w1 ⟨M,ht⟩
  have hc:=Z5t ht
  refine ⟨fun h=>hR _ _ ⟨?_,M⟩,fun h=>⟨fun h'=>hR _ _ ⟨?_,M⟩,fun h'=>hR _ _ ⟨?_,M⟩⟩⟩
  ·rw [hc,List.drop_of_length_le (l:=a) (by omega)]
   cases hd:b.drop (min a.length b.length) with
   | nil=>have:=congrArg List.length hd; rw [List.length_drop] at this; simp at this; omega
   | cons x r=>rfl
  ·rw [hc,List.drop_of_length_le (l:=b) (by omega)]
   cases hd:a.drop (min a.length b.length) with
   | nil=>have:=congrArg List.length hd; rw [List.length_drop] at this; simp at this; omega
   | cons x r=>rfl
  ·rw [hc,List.drop_of_length_le (l:=a) (by omega),List.drop_of_length_le (l:=b) (by omega)]
   rfl
theorem Z9Y (n:Nat):IntKind.wrap .u8 (Int.tmod (n:Int) 256)=((UInt8.ofNat n).toNat:Int):=by
 have:Int.tmod (n:Int) 256=((n % 256:Nat):Int):=rfl
 rw [this,Z2U]
 have h1:(UInt8.ofNat (n % 256)).toNat=(UInt8.ofNat n).toNat:=by rw [UInt8.toNat_ofNat',UInt8.toNat_ofNat']; omega
 rw [h1]
theorem Z7m (base n:Nat) (hn:n < 2 ^ 31) (hb:base≤192) :
  Calls Tryz.prog Z0d.n #[.int .i64 (base:Int),.int .i64 (n:Int)] w (fun e w'=>∃o k,e=.returned (.slice o (Trie.Z2q n base).length k)∧ZW w w' tU8 1 o (Trie.Z2q n base).length k ((Trie.Z2q n base).map bV)):=by
 refine ZH fun R hR=>Z0d.vc _ _ _ _ ?_
 unfold Z0d.Vc
 refine ⟨fun hs=>?_,fun hs=>?_⟩
 ·rintro d w2 ⟨rfl,rfl⟩
  have e:Trie.Z2q n base=[UInt8.ofNat (base+n)]:=by unfold Trie.Z2q; rw [if_pos (by omega)]
  have ew:IntKind.wrap .i64 ((base:Int)+(n:Int))=((base+n:Nat):Int):=by rw [Z0 (by omega) (by omega)]; omega
  rw [e] at hR
  rw [ew]
  exact hR _ _ ⟨_,_,rfl,Z3r w _ (Z2U _)⟩
 ·have e:Trie.Z2q n base=UInt8.ofNat (base+55+(Z2b n).length) :: Z2b n:=by unfold Trie.Z2q; rw [if_neg (by omega)]
  refine ⟨fun o l k n' w'=>∃(f m:Nat) (row:List UInt8),n'=(m:Int)∧m≤n∧m < 256 ^ f∧f≤8∧Z2b n=digitsF f m++row∧l=row.length∧ZW w w' tU8 1 o l k (row.map bV),fun _ _ _ n' _=>n'.toNat,
   ⟨8,n,[],rfl,Nat.le_refl _,by omega,Nat.le_refl _,by rw [List.append_nil]; rfl,rfl,ZW.nil (Mod.refl w) _ _⟩,?_⟩
  rintro o _ k _ _ w1 ⟨f,m,row,rfl,hmn,hm,hf,hd,rfl,F⟩
  have hlen:=Z4E n
  refine ⟨fun hpos=>?_,fun hz=>?_⟩
  ·rintro d w2 ⟨rfl,rfl⟩
   rw [hd,List.length_append] at hlen
   cases f with
   | zero=>simp at hm; omega
   | succ g =>
     have hM:=Mod.alloc (S:=NoB) w1 (.cells #[.int .u8 (IntKind.wrap .u8 (Int.tmod (m:Int) 256))] 5)
     have F1:=Z3r w1 (UInt8.ofNat m) (n:=IntKind.wrap .u8 (Int.tmod (m:Int) 256)) (Z9Y m)
     obtain ⟨o3,k3,w3,hr3,F3⟩:=Za (ty:=Z07) (k2:=k) F1 ((ZQ F).mod' hM) (by omega)
     have hstep:digitsF (g+1) m=digitsF g (m / 256)++[UInt8.ofNat m]:=by
      simp only [digitsF]; rw [if_neg (by omega)]
     have hfd:IntKind.wrap .i64 (Int.tdiv (m:Int) 256)=((m / 256:Nat):Int):=by
      rw [show Int.tdiv (m:Int) 256=((m / 256:Nat):Int) from rfl,Z0 (by omega) (by omega)]
     rw [hfd]
     refine ⟨_,w3,hr3,_,_,_,rfl,⟨g,m / 256,UInt8.ofNat m :: row,rfl,by omega,?_,by omega,?_,?_,?_⟩,?_⟩
     ·rw [Nat.pow_succ] at hm
      exact Nat.div_lt_of_lt_mul (by rw [Nat.mul_comm]; exact hm)
     ·rw [hd,hstep,List.append_assoc]; rfl
     ·simp; omega
     ·exact ZW.from_ F3 F.mod
     ·dsimp only; omega
  ·have hm0:m=0:=by omega
   subst hm0
   have h0:digitsF f 0=[]:=by cases f <;> simp [digitsF]
   rw [h0,List.nil_append] at hd
   rw [hd] at hlen
   rintro d w3 ⟨rfl,rfl⟩
   have ew2:IntKind.wrap .i64 (IntKind.wrap .i64 ((base:Int)+55)+(((row.length:Nat):Int)))=((base+55+row.length:Nat):Int):=by
    rw [Z0 (n:=(base:Int)+55) (by omega) (by omega),Z0 (by omega) (by omega)]; omega
   rw [ew2]
   obtain ⟨o4,k4,w4,hr4,F4⟩:=Za (ty:=Z07) (k2:=k) (Z3r w1 _ (Z2U (base+55+row.length))) ((ZQ F).mod' (Mod.alloc _ _)) (by omega)
   refine ⟨_,w4,hr4,_,_,_,rfl,hR _ _ ⟨o4,k4,?_,?_⟩⟩
   ·rw [e,List.length_cons,Nat.add_comm,hd]
   ·rw [e,List.length_cons,Nat.add_comm,hd]
    exact ZW.from_ F4 F.mod
theorem Z6b {o:Option Addr} {k:Nat} {b:By} (h:RdB w o b) (hl:b.length < 2 ^ 30) :
  Calls Tryz.prog Z0N.n #[.slice o b.length k] w (fun e w'=>∃o' k',e=.returned (.slice o' (enc (.s b)).length k')∧ZW w w' tU8 1 o' (enc (.s b)).length k' ((enc (.s b)).map bV)):=by
 refine ZH fun R hR=>Z0N.vc _ _ _ _ _ ?_
 unfold Z0N.Vc
 have long:own b=false→Calls Tryz.prog 114 #[(.int .i64 128),(.int .i64 ((b.length:Nat):Int))] w (fun e17 w18 =>
   ∃o19:Option Addr,∃l20:Nat,∃l21:Nat,e17=.returned (.slice o19 l20 l21) ∧
   ∃(v22:Value) (w23:World),Sem.run Tryz.prog (builtinV .append #[23,23] 23 #[(.slice o19 l20 l21),(.slice o b.length k)]) w18=.ok v22 w23 ∧
   ∃o24:Option Addr,∃l25:Nat,∃l26:Nat,v22=(.slice o24 l25 l26) ∧
   R (.returned (.slice o24 l25 l26)) w23):=by
  intro ho
  have e:enc (.s b)=Trie.Z2q b.length 128++b:=by simp only [enc]; rw [if_neg (by rw [ho]; simp)]
  rw [e,List.length_append] at hR
  refine (Z7m 128 b.length (by omega) (by omega)).mono ?_
  rintro _ w1 ⟨o1,k1,rfl,F1⟩
  have:=(Z5W b.length 128).2
  obtain ⟨o2,k2,w2,hr2,F2⟩:=Za (ty:=Z07) (k2:=k) F1 (h.mod' F1.mod) (by omega)
  exact ⟨_,_,_,rfl,_,w2,hr2,_,_,_,rfl,hR _ _ ⟨o2,k2,rfl,F2⟩⟩
 refine ⟨fun h1=>?_,fun h1=>long ?_⟩
 ·obtain ⟨a,rfl⟩:∃a,b=[a]:=List.length_eq_one_iff.1 (by omega)
  obtain ⟨B,f,rfl,hB,hc⟩:=Z1w h (i:=0) (by simp)
  have h2:a < 128↔a.toNat < 128:=by
   have:∀n:Fin 256,(UInt8.ofFin n < 128↔(UInt8.ofFin n).toNat < 128):=by decide +kernel
   exact this a.toFin
  simp only [List.getElem_cons_zero] at hc
  refine ⟨_,rfl,⟨by omega,by omega⟩,_,by rw [Z6]; exact hc,fun hlt=>⟨_,rfl,⟨by omega,by omega⟩,_,by rw [Z6]; exact hc,?_⟩,fun hge=>long (by show decide (a < 128)=false; rw [decide_eq_false_iff_not,h2]; omega)⟩
  rintro d w2 ⟨rfl,rfl⟩
  have e:enc (.s [a])=[a]:=by simp only [enc]; rw [if_pos (by show decide (a < 128)=true; rw [decide_eq_true_eq,h2]; omega)]
  rw [e] at hR
  exact hR _ _ ⟨_,_,rfl,Z3r w a rfl⟩
 ·unfold own
  split
  ·simp at h1
  ·rfl
theorem Z4Y {o:Option Addr} {k:Nat} {b:By} (h:RdB w o b) (hl:b.length < 2 ^ 30) :
  Calls Tryz.prog Z0a.n #[.slice o b.length k] w (fun e w'=>∃o' k',e=.returned (.slice o' (enc (.s b)).length k')∧ZW w w' tU8 1 o' (enc (.s b)).length k' ((enc (.s b)).map bV)):=by
 refine Z0a.vc _ _ _ _ _ ?_
 unfold Z0a.Vc
 refine (Z6b h hl).mono ?_
 rintro _ w1 ⟨o1,k1,rfl,F1⟩
 exact ⟨_,_,_,rfl,o1,k1,rfl,F1⟩
theorem Z3v {o:Option Addr} {k:Nat} {b:By} (h:RdB w o b) (hl:b.length < 2 ^ 30) :
  Calls Tryz.prog Z0c.n #[.slice o b.length k] w (fun e w'=>∃o' k',e=.returned (.slice o' (Trie.Z2q b.length 192++b).length k')∧ZW w w' tU8 1 o' (Trie.Z2q b.length 192++b).length k' ((Trie.Z2q b.length 192++b).map bV)):=by
 refine Z0c.vc _ _ _ _ _ ?_
 unfold Z0c.Vc
 refine (Z7m 192 b.length (by omega) (by omega)).mono ?_
 rintro _ w1 ⟨o1,k1,rfl,F1⟩
 have:=(Z5W b.length 192).2
 obtain ⟨o2,k2,w2,hr2,F2⟩:=Za (ty:=Z07) (k2:=k) F1 (h.mod' F1.mod) (by omega)
 exact ⟨_,_,_,rfl,_,w2,hr2,_,_,_,rfl,o2,k2,by rw [List.length_append],by rw [List.length_append]; exact F2⟩
theorem ZH6 (b:UInt8):IntKind.wrap .u8 (Int.tdiv (b.toNat:Int) 16)=((b >>> 4).toNat:Int):=by
 have:∀n:Fin 256,IntKind.wrap .u8 (Int.tdiv ((UInt8.ofFin n).toNat:Int) 16)=((UInt8.ofFin n >>> 4).toNat:Int):=by decide +kernel
 exact this b.toFin
theorem ZH7 (b:UInt8):Int.tmod (b.toNat:Int) 16=((b &&& 15).toNat:Int):=by
 have:∀n:Fin 256,Int.tmod ((UInt8.ofFin n).toNat:Int) 16=((UInt8.ofFin n &&& 15).toNat:Int):=by decide +kernel
 exact this b.toFin
theorem Z2Z {o:Option Addr} {k:Nat} {bs:By} (hr:RdB w o bs) (hl:bs.length≤2 ^ 30) :
  Calls Tryz.prog Zq.n #[.slice o bs.length k] w (fun e w'=>∃o' k',e=.returned (.slice o' (nibbles bs).length k')∧ZW w w' tU8 1 o' (nibbles bs).length k' ((nibbles bs).map bV)):=by
 refine Zq.vc _ _ _ _ _ ?_
 unfold Zq.Vc
 refine ⟨fun o' l' k' i w'=>∃j:Nat,i=(j:Int)∧j≤bs.length∧l'=(nibbles (bs.take j)).length∧ZW w w' tU8 1 o' l' k' ((nibbles (bs.take j)).map bV),fun _ _ _ i _=>((bs.length:Int) - i).toNat,
  ⟨0,rfl,Nat.zero_le _,rfl,ZW.nil (Mod.refl w) _ _⟩,?_⟩
 rintro o' _ k' _ _ w1 ⟨j,rfl,hj,rfl,F⟩
 refine ⟨fun hlt=>?_,fun hge=>?_⟩
 ·rintro _ rfl
  have hjl:j < bs.length:=by omega
  obtain ⟨b,f,rfl,hb,hc⟩:=Z1w hr hjl
  have htk:bs.take (j+1)=bs.take j++[bs[j]]:=by rw [List.take_add_one,List.getElem?_eq_getElem hjl]; rfl
  have F':=F.mod' (Mod.drew (S:=NoB) w1)
  have hc':w1.drew.cell? (Addr.add ⟨b,f,none⟩ (Int.toNat (j:Int)))=some (bV bs[j]):=by rw [Z6,Int.toNat_natCast]; exact (ZX F'.mod hb (fun h=>h)).trans hc
  refine ⟨_,rfl,⟨by omega,by omega⟩,_,hc',_,rfl,⟨by omega,by omega⟩,_,hc',?_⟩
  rintro d w2 ⟨rfl,rfl⟩
  have hnl:=ZT (bs.take j)
  rw [List.length_take] at hnl
  obtain ⟨o3,k3,w3,hr3,F3⟩:=Za (ty:=Z07) (k2:=2) (F'.mod' (Mod.alloc _ _)) (ZAk (w:=w1.drew) (bs[j] >>> 4) (bs[j] &&& 15) (ZH6 _) (ZH7 _)) (by simp; omega)
  refine ⟨_,w3,hr3,_,_,_,rfl,⟨j+1,by rw [Z0 (by omega) (by omega)]; omega,hjl,?_,?_⟩,?_⟩
  ·rw [htk,Z3H,List.length_append]
  ·rw [htk,Z3H]; exact F3
  ·dsimp only
   rw [Z0 (by omega) (by omega)]; omega
 ·obtain rfl:j=bs.length:=by omega
  rw [List.take_length] at F ⊢
  exact ⟨_,_,rfl,F⟩
theorem Z6c (w:World):Calls Tryz.prog Z0D.n #[] w (fun e w'=>e=.returned (.agg (hashA emptyH))∧Vcg.Mod NoB w w'):=by
 refine Z0D.vc _ _ ?_
 unfold Z0D.Vc
 rintro d1 w1 ⟨rfl,rfl⟩ d2 w2 ⟨rfl,rfl⟩
 have M1:=Mod.alloc (S:=NoB) w (.cells (Array.replicate 32 (.int .u8 0)) 27)
 have H:=Blk.new w 27 (Array.replicate 32 (.int .u8 0))
 generalize w.alloc (.cells (Array.replicate 32 (.int .u8 0)) 27)=w1 at *
 have r2:=ZEQ w1
 have M2:=Mod.alloc (S:=NoB) w1 (.cells #[.int .u8 128] 5)
 generalize w1.alloc (.cells #[.int .u8 128] 5)=w2 at *
 refine (Z4Q [128] rfl (by simp) r2).mono ?_
 rintro _ w4 ⟨rfl,M4⟩
 have M24:=M2.trans M4 (fun _ _ h=>h)
 obtain ⟨h1,h2,h3⟩:=Z1c (H.mod' M24) (by simp) (sumOf [128])
 exact ⟨_,rfl,_,h1,_,h2.rowAll (ZB _),rfl,ZM (M1.trans M24 (fun _ _ h=>h)) h3 (Nat.le_refl _)⟩
end
end Go.Proofs.YtfghidehlnfdiaaGreat
end
section
namespace Go.Proofs.YtfghidehlnfdiaaGreat
open Go Go.Vcg Go.Trie
theorem ZFZ (a b:UInt8) (hb:b.toNat < 16):IntKind.wrap .u8 (IntKind.wrap .u8 (16 * (a.toNat:Int))+(b.toNat:Int))=((a <<< 4 ||| b).toNat:Int):=by
 have:∀(n:Fin 256) (m:Fin 16),IntKind.wrap .u8 (IntKind.wrap .u8 (16 * ((UInt8.ofFin n).toNat:Int))+(m.val:Int))=((UInt8.ofFin n <<< 4 ||| UInt8.ofNat m.val).toNat:Int):=by decide +kernel
 have h:=this a.toFin ⟨b.toNat,hb⟩
 simp only at h
 rw [show UInt8.ofNat b.toNat=b by simp] at h
 exact h
theorem ZDD {p:By} (h:Nib p) (leaf:Bool):Nib (headed p leaf):=by
 intro x hx
 unfold headed at hx
 split at hx
 ·rcases List.mem_cons.1 hx with rfl | hx
  ·cases leaf <;> decide
  ·exact h x hx
 ·rcases List.mem_cons.1 hx with rfl | hx
  ·cases leaf <;> decide
  ·rcases List.mem_cons.1 hx with rfl | hx
   ·decide
   ·exact h x hx
section
variable {w:World}
theorem Z7f {o:Option Addr} {k:Nat} {bs:By} (hr:RdB w o bs) (hl:bs.length≤2 ^ 30) (leaf:Bool) :
  Calls Tryz.prog Z0J.n #[.slice o bs.length k,.bool leaf] w (fun e w'=>∃o' k',e=.returned (.tuple #[.slice o' (Z82 bs leaf).1.length k',.int .i64 (Z82 bs leaf).2])∧ZW w w' tU8 1 o' (Z82 bs leaf).1.length k' ((Z82 bs leaf).1.map bV)):=by
 refine ZH fun R hR=>Z0J.vc _ _ _ _ _ _ ?_
 unfold Z0J.Vc
 have bad:Z34 bs→R (.returned (.tuple #[.slice none 0 0,.int .i64 140])) w:=fun h=>by
  refine hR _ _ ⟨none,0,?_,?_⟩
  ·unfold Z82; rw [if_pos h]; rfl
  ·unfold Z82; rw [if_pos h]; exact ZW.nil (Mod.refl w) _ _
 refine ⟨fun h=>bad (.inl (by omega)),fun h128=>?_⟩
 refine ⟨fun i w'=>∃j:Nat,i=(j:Int)∧j≤bs.length∧w'=w∧∀x∈bs.take j,x.toNat < 16,fun i _=>((bs.length:Int) - i).toNat,⟨0,rfl,Nat.zero_le _,rfl,by simp⟩,?_⟩
 rintro _ _ w ⟨j,rfl,hj,rfl,hn⟩
 refine ⟨fun hlt=>?_,fun hge=>?_⟩
 ·have hjl:j < bs.length:=by omega
  obtain ⟨b,f,rfl,hb,hc⟩:=Z1w hr hjl
  have htk:bs.take (j+1)=bs.take j++[bs[j]]:=by rw [List.take_add_one,List.getElem?_eq_getElem hjl]; rfl
  refine ⟨_,rfl,⟨by omega,by omega⟩,_,by rw [Z6,Int.toNat_natCast]; exact hc,fun h=>bad (.inr ⟨bs[j],List.getElem_mem _,?_⟩),fun h=>⟨⟨j+1,by rw [Z0 (by omega) (by omega)]; omega,hjl,rfl,?_⟩,by dsimp only; rw [Z0 (by omega) (by omega)]; omega⟩⟩
  ·show (16:UInt8)≤bs[j]
   rw [UInt8.le_iff_toNat_le]
   show 16≤_
   omega
  ·intro x hx
   rw [htk] at hx
   rcases List.mem_append.1 hx with hx | hx
   ·exact hn x hx
   ·simp only [List.mem_singleton] at hx; subst hx; omega
 ·obtain rfl:j=bs.length:=by omega
  rw [List.take_length] at hn
  have hnib:Nib bs:=hn
  have hgood:¬Z34 bs:=by
   rintro (h | ⟨x,hx,h⟩)
   ·omega
   ·have h1:=hn x hx
    have h2:(16:UInt8)≤x:=h
    rw [UInt8.le_iff_toNat_le] at h2
    have h3:16≤x.toNat:=h2
    omega
  have hpk:Z82 bs leaf=(Z3t (headed bs leaf),0):=by unfold Z82; rw [if_neg hgood]
  rw [hpk] at hR
  refine ⟨fun m w'=>m=((Z1f leaf).toNat:Int)∧w'=w,⟨fun h=>⟨by rw [h]; rfl,rfl⟩,fun h=>⟨by rw [h]; rfl,rfl⟩⟩,?_⟩
  rintro _ _ w7 ⟨rfl,rfl⟩
  rintro d8 w9 ⟨rfl,rfl⟩
  have hho:(Z21 bs leaf).length≤2:=by unfold Z21; split <;> simp
  refine ⟨fun o' l' k' w'=>∃k0,k'=k0∧l'=(Z21 bs leaf).length∧ZW w7 w' tU8 1 o' l' k' ((Z21 bs leaf).map bV),⟨fun hodd=>?_,fun hev=>?_⟩,?_⟩
  ·rintro d11 w12 ⟨rfl,rfl⟩
   have ho:bs.length % 2=1:=by
    have:Int.tmod ((bs.length:Nat):Int) 2=((bs.length % 2:Nat):Int):=rfl
    omega
   have e:Z21 bs leaf=[Z1f leaf+1]:=by unfold Z21; rw [if_pos ho]
   rw [e]
   have hw:IntKind.wrap .u8 (((Z1f leaf).toNat:Int)+1)=((Z1f leaf+1).toNat:Int):=by cases leaf <;> decide
   rw [hw]
   exact ⟨_,rfl,rfl,ZW.from_ (Z4I _ [Z1f leaf+1] _ rfl (by simp [maxLen])) (Mod.alloc _ _)⟩
  ·have ho:¬bs.length % 2=1:=by
     have:Int.tmod ((bs.length:Nat):Int) 2=((bs.length % 2:Nat):Int):=rfl
     omega
   have e:Z21 bs leaf=[Z1f leaf,0]:=by unfold Z21; rw [if_neg ho]
   rw [e]
   exact ⟨_,rfl,rfl,Z4I _ [Z1f leaf,0] _ rfl (by simp [maxLen])⟩
  ·rintro o13 _ _ _ w14 ⟨c13,rfl,rfl,F14⟩
   obtain ⟨o16,k16,w16,hr16,F16⟩:=Za (ty:=Z07) (k2:=k) F14 (hr.mod' F14.mod) (by omega)
   rw [← Z5X] at F16
   have hlh:(Z21 bs leaf).length+bs.length=(headed bs leaf).length:=by rw [Z5X,List.length_append]
   rw [hlh] at hr16 F16
   refine ⟨_,w16,hr16,_,_,_,rfl,?_⟩
   obtain ⟨N,hN⟩:=Z5B bs leaf
   have hrh:=ZQ F16
   have hnh:=ZDD hnib leaf
   generalize headed bs leaf=H at *
   refine ⟨fun o' l' k' i w'=>∃j:Nat,i=((2 * j:Nat):Int)∧j≤N∧l'=(Z3t (H.take (2 * j))).length∧ZW w16 w' tU8 1 o' l' k' ((Z3t (H.take (2 * j))).map bV),fun _ _ _ i _=>((H.length:Int) - i).toNat,
    ⟨0,rfl,Nat.zero_le _,rfl,ZW.nil (Mod.refl w16) _ _⟩,?_⟩
   rintro o' _ k' _ _ w23 ⟨j,rfl,hj,rfl,F⟩
   refine ⟨fun hlt=>?_,fun hge=>?_⟩
   ·rintro _ rfl
    have h1:2 * j < H.length:=by omega
    have h2:2 * j+1 < H.length:=by omega
    have F24:=F.mod' (Mod.drew (S:=NoB) w23)
    obtain ⟨b,f,rfl,hb,hc1⟩:=Z1w hrh h1
    obtain ⟨b',f',hb',_,hc2⟩:=Z1w hrh h2
    cases hb'
    have e1:IntKind.wrap .i64 (((2 * j:Nat):Int)+1)=((2 * j+1:Nat):Int):=by rw [Z0 (by omega) (by omega)]; omega
    have e2:IntKind.wrap .i64 (((2 * j:Nat):Int)+2)=((2 * (j+1):Nat):Int):=by rw [Z0 (by omega) (by omega)]; omega
    rw [e1,e2]
    refine ⟨_,rfl,⟨by omega,by omega⟩,_,by rw [Z6,Int.toNat_natCast]; exact (ZX F24.mod hb (fun h=>h)).trans hc1,_,rfl,⟨by omega,by omega⟩,_,by rw [Z6,Int.toNat_natCast]; exact (ZX F24.mod hb (fun h=>h)).trans hc2,?_⟩
    rw [ZFZ _ _ (hnh _ (List.getElem_mem _))]
    rintro d29 w30 ⟨rfl,rfl⟩
    have htk:H.take (2 * (j+1))=H.take (2 * j)++[H[2 * j],H[2 * j+1]]:=by
     rw [show 2 * (j+1)=2 * j+1+1 by omega,List.take_add_one,List.take_add_one,List.getElem?_eq_getElem h1,List.getElem?_eq_getElem h2,List.append_assoc]; rfl
    have htl:(H.take (2 * j)).length=2 * j:=by rw [List.length_take]; omega
    have hps:=Z6E j (H.take (2 * j)) H[2 * j] H[2 * j+1] htl
    have hpl:=Z5f j (H.take (2 * j)) htl
    have one:RdB (w23.drew.alloc (.cells #[.int .u8 ((H[2 * j] <<< 4 ||| H[2 * j+1]).toNat:Int)] 5)) (some ⟨w23.drew.heap.size,0,none⟩) [H[2 * j] <<< 4 ||| H[2 * j+1]] :=
     RdB.of_blk (Blk.new w23.drew 5 #[bV (H[2 * j] <<< 4 ||| H[2 * j+1])]) (fun i hi=>by
      obtain rfl:i=0:=by simpa using hi
      rfl)
    obtain ⟨o31,k31,w31,hr31,F31⟩:=Za (ty:=Z07) (k2:=1) (F24.mod' (Mod.alloc _ _)) one (by simp; omega)
    refine ⟨_,w31,hr31,_,_,_,rfl,⟨j+1,rfl,by omega,?_,?_⟩,by dsimp only; omega⟩
    ·rw [htk,hps,List.length_append]
    ·rw [htk,hps]; exact F31
   ·obtain rfl:j=N:=by omega
    rw [List.take_of_length_le (by omega)] at F ⊢
    exact hR _ _ ⟨_,_,rfl,ZW.from_ F F16.mod⟩
end
abbrev tRn:TypeId:=62
abbrev ZEr:TypeId:=28
theorem ZCq:Tryz.prog.underlying ZEr=some (.slice tRn):=by kernel_rfl
theorem ZGR:(Tryz.prog.info? tRn).map (fun i=>(i.zero,i.size,i.bytes))=some (some (.agg nd0),33,56):=by kernel_rfl
section
variable {C:Type} {S:C→Prop} {w0 w w1 w':World} {lab lab':Nat→C} {c cb:C}
def Z84 (w:World) (lab:Nat→C) (c cb:C) (l:List (By×By)) (o:Option Addr) (n k:Nat):Prop :=
 n=l.length∧∃vs,COw w lab c tRn 33 o n k vs∧ZV w lab cb vs l
theorem Z84.nil (w:World) (lab:Nat→C) (c cb:C):Z84 w lab c cb [] none 0 0:=⟨rfl,[],COw.nil w lab c _ _,ZV.nil w lab cb⟩
theorem Z84.stp {l:List (By×By)} {o:Option Addr} {n k:Nat} (h:Z84 w lab c cb l o n k) (s:Stp S w lab w' lab') (hs:¬S c) (hb:¬S cb):Z84 w' lab' c cb l o n k:=by
 obtain ⟨h1,vs,h2,h3⟩:=h
 exact ⟨h1,vs,h2.stp s hs,h3.stp s hb⟩
theorem Z84.push {l:List (By×By)} {o:Option Addr} {n k D:Nat} {h b:By} {ob:Option Addr} {kb:Nat} (H:Z84 w lab c cb l o n k) (hcb:cb≠c) (B:Blk w D tRn (ndA h ob b.length kb)) (hh:h.length=32) (hb:CBy w lab cb ob b) (hk:b.length≤kb) (hl:l.length≤2 ^ 20) :
  ∃o' k' w',Sem.run Tryz.prog (builtinV .append #[ZEr,ZEr] ZEr #[.slice o n k,.slice (some ⟨D,0,none⟩) 1 1]) w=.ok (.slice o' (n+1) k') w' ∧
   Z84 w' (ext lab w.heap.size c) c cb (l++[(h,b)]) o' (n+1) k'∧Stp (·=c) w lab w' (ext lab w.heap.size c):=by
 obtain ⟨rfl,vs,hO,hC⟩:=H
 obtain ⟨i,hi,hz,hs,hbt⟩:=Z2G ZGR
 obtain ⟨o',k',w',h1,h2,h3⟩:=COw.append (ty:=ZEr) ZCq hi hz hs (by rfl) hO (Z5K ZCq B (Z4i _ _ _ _) (ZBT _ _ _ _)) (by simp only [maxLen]; omega) (by rw [hbt]; omega)
 exact ⟨o',k',w',h1,⟨by simp,_,h2,(hC.push hh hb hk).stp h3 hcb⟩,h3⟩
theorem ZV.hash {vs:List Value} {l:List (By×By)} {o:Option Addr} (h:ZV w lab cb vs l) (hR:Z4p w lab c o vs) {j:Nat} (hj:j < l.length):∃g f,o=some ⟨g,f,none⟩∧g < w.heap.size∧lab g=c∧ZJ w ⟨g,f+j * 33,none⟩ 32 (hashA l[j].1):=by
 obtain ⟨h1,h2,ob,kb,h3,h4⟩:=h.2 j hj
 obtain ⟨g,f,ho,hg,hl,hc⟩:=hR _ _ h3
 refine ⟨g,f,ho,hg,hl,ZB _,fun i hi=>?_⟩
 obtain ⟨g',f',ho',_,_,hc'⟩:=hR _ _ (h2 i hi)
 rw [ho] at ho'; cases ho'
 rw [Z6,show f+j * 33+i=f+(j * 33+i) by omega,hc']
 show _=(ZS 32 (fun i=>bV (l[j].1.getD i 0)))[i]?
 rw [ZF hi]
theorem ZV.bytes {vs:List Value} {l:List (By×By)} {o:Option Addr} (h:ZV w lab cb vs l) (hR:Z4p w lab c o vs) {j:Nat} (hj:j < l.length):∃g f,o=some ⟨g,f,none⟩∧g < w.heap.size∧∃ob kb,w.cell? ⟨g,f+(j * 33+32),none⟩=some (.slice ob l[j].2.length kb)∧CBy w lab cb ob l[j].2∧l[j].2.length≤kb:=by
 obtain ⟨h1,h2,ob,kb,h3,h4⟩:=h.2 j hj
 obtain ⟨g,f,ho,hg,hl,hc⟩:=hR _ _ h3
 exact ⟨g,f,ho,hg,ob,kb,hc,h4⟩
end
end Go.Proofs.YtfghidehlnfdiaaGreat
end
section
namespace Go.Proofs.YtfghidehlnfdiaaGreat
open Go Go.Vcg Go.Trie
abbrev ZEq:TypeId:=118
structure BS (w:World) (L:Nat→Nat) (d0:Nat) (es:List (By×By)) (out:List (By×By)):Prop where
 ex:∃ol cl op cp on nn kn,CB w L 1 d0 ZEq #[.slice ol es.length cl,.slice op es.length cp,.slice on nn kn,.bool false] ∧
  (∀(j:Nat) (hj:j < es.length),∃b f ov kv,ol=some ⟨b,f,none⟩∧b < w.heap.size∧L b=6∧w.cell? ⟨b,f+(j * 2+1),none⟩=some (.slice ov es[j].2.length kv)∧CBy w L 6 ov es[j].2) ∧
  (∀(j:Nat) (hj:j < es.length),∃b f o k,op=some ⟨b,f,none⟩∧b < w.heap.size∧L b=7∧w.cell? ⟨b,f+j,none⟩=some (.slice o es[j].1.length k)∧es[j].1.length≤k∧CBy w L 5 o es[j].1) ∧
  Z84 w L 4 5 out on nn kn
theorem BS.stp {S:Nat→Prop} {w w':World} {L L':Nat→Nat} {d0:Nat} {es out:List (By×By)} (h:BS w L d0 es out) (s:Stp S w L w' L') (h1:¬S 1) (h4:¬S 4) (h5:¬S 5) (h6:¬S 6) (h7:¬S 7):BS w' L' d0 es out:=by
 obtain ⟨ol,cl,op,cp,on,nn,kn,a,b,c,d⟩:=h.ex
 refine ⟨⟨ol,cl,op,cp,on,nn,kn,a.stp s h1,fun j hj=>?_,fun j hj=>?_,d.stp s h4 h5⟩⟩
 ·obtain ⟨g,f,ov,kv,e1,e2,e3,e4,e5⟩:=b j hj
  exact ⟨g,f,ov,kv,e1,Nat.lt_of_lt_of_le e2 s.size,(s.lab g e2).trans e3,(World.cell?_of_block (s.block g e2 (by rw [e3]; exact h6))).trans e4,e5.stp s h6⟩
 ·obtain ⟨g,f,o,k,e1,e2,e3,e4,e5,e6⟩:=c j hj
  exact ⟨g,f,o,k,e1,Nat.lt_of_lt_of_le e2 s.size,(s.lab g e2).trans e3,(World.cell?_of_block (s.block g e2 (by rw [e3]; exact h7))).trans e4,e5,e6.stp s h5⟩
theorem BS.mod' {w w':World} {L:Nat→Nat} {d0:Nat} {es out:List (By×By)} (h:BS w L d0 es out) (M:Vcg.Mod NoB w w') (q:Nat):BS w' (ext L w.heap.size q) d0 es out :=
 h.stp (S:=NoS) (Stp.of_nob M q) (fun h=>h) (fun h=>h) (fun h=>h) (fun h=>h) (fun h=>h)
abbrev SB1:Nat→Prop:=fun k=>k=1∨k=4
theorem Z8f {w:World} {L:Nat→Nat} {d0 k:Nat} {es out:List (By×By)} {o:Option Addr} {x h:By} (hB:BS w L d0 es out) (hx:CBy w L 5 o x) (hh:h.length=32) (hk:x.length≤k) (hl:out.length≤2 ^ 20) :
  Calls Tryz.prog Zd.n #[.pointer (some ⟨d0,0,none⟩),.agg (hashA h),.slice o x.length k] w (fun e w'=>e=.returned (.tuple #[])∧∃L',Stp SB1 w L w' L'∧(∀k,w.heap.size≤k→L' k=4∨L' k=5)∧BS w' L' d0 es (if met out h then out else out++[(h,x)])):=by
 refine ZH fun R hR=>Zd.vc _ _ _ _ _ _ _ ?_
 unfold Zd.Vc
 rintro d3 w1 ⟨rfl,rfl⟩
 have M1:=Mod.alloc (S:=NoB) w (.cells (hashA h) 27)
 have H1:=Blk.new w 27 (hashA h)
 generalize w.alloc (.cells (hashA h) 27)=w1 at *
 refine ⟨fun w'=>Vcg.Mod NoB w1 w'∧met out h=false,⟨fun i w'=>∃j:Nat,i=(j:Int)∧j≤out.length∧Vcg.Mod NoB w1 w'∧met (out.take j) h=false,fun i _=>((out.length:Int) - i).toNat,⟨0,rfl,Nat.zero_le _,Mod.refl _,rfl⟩,?_⟩,?_⟩
 ·rintro _ _ w2 ⟨j,rfl,hj,M2,hm⟩
  have M02:=M1.trans M2 (fun _ _ h=>h)
  have B2:=hB.mod' M02 5
  obtain ⟨ol,cl,op,cp,on,nn,kn,c1,c2,c3,c4⟩:=B2.ex
  obtain ⟨rfl,vs,O1,O2⟩:=c4
  simp only [Z6,Nat.zero_add]
  refine ⟨_,_,_,c1.blk.rd1 rfl,fun hlt=>⟨_,c1.blk.rd1 rfl,fun _=>?_,fun h=>by cases h⟩,fun hge=>⟨M2,?_⟩⟩
  ·rintro _ rfl
   have MD:=Mod.drew (S:=NoB) w2
   have hjl:j < out.length:=by omega
   obtain ⟨g,f,rfl,hg,_,hrow⟩:=O2.hash O1.row hjl
   have hrow':ZJ w2.drew (Addr.add ⟨g,f,none⟩ (Int.toNat (j:Int) * 33)) 32 (hashA out[j].1):=by rw [Z6,Int.toNat_natCast]; exact hrow
   have hlen:=(O2.2 j hjl).1
   have htk:out.take (j+1)=out.take j++[out[j]]:=by rw [List.take_add_one,List.getElem?_eq_getElem hjl]; rfl
   have hm2:met (out.take (j+1)) h=decide (out[j].1=h):=by
    rw [htk]
    unfold met at hm ⊢
    rw [List.any_append,hm]
    simp
   refine ⟨_,_,_,(c1.blk.mod' MD).rd1 rfl,_,rfl,⟨by omega,by omega⟩,_,hrow',_,(H1.mod' (M2.trans MD (fun _ _ h=>h))).rowAll (ZB _),_,ZE4 _ _ hlen hh,_,rfl,fun he=>?_,fun he=>?_⟩
   ·have hmt:met out h=true:=by
      unfold met
      exact List.any_eq_true.2 ⟨out[j],List.getElem_mem _,he⟩
    rw [hmt,if_pos rfl] at hR
    exact hR _ _ ⟨rfl,_,(Stp.of_nob (M02.trans MD (fun _ _ h=>h)) 5).mono (S:=NoS) (fun _ h=>h.elim),fun k hk=>.inr (ext_new hk),hB.mod' (M02.trans MD (fun _ _ h=>h)) 5⟩
   ·exact ⟨⟨j+1,by rw [Z0 (by omega) (by omega)]; omega,hjl,M2.trans MD (fun _ _ h=>h),by rw [hm2]; exact he⟩,by rw [Z0 (by omega) (by omega)]; omega⟩
  ·rw [List.take_of_length_le (by omega)] at hm; exact hm
 ·rintro _ w2 ⟨M2,hm⟩
  rintro _ rfl
  rw [hm] at hR
  simp only [Bool.false_eq_true,if_false] at hR
  have M3:=M2.step_drew
  have M03:=M1.trans M3 (fun _ _ h=>h)
  have H3:=H1.mod' M3
  have B3:=hB.mod' M03 5
  have s03:Stp NoS w L w2.drew (ext L w.heap.size 5):=Stp.of_nob M03 5
  have hx3:=hx.stp s03 (fun h=>h)
  have hnew3:∀k,w.heap.size≤k→ext L w.heap.size 5 k=4∨ext L w.heap.size 5 k=5:=fun k hk=>.inr (ext_new hk)
  have hsz3:=M03.size
  generalize w2.drew=w3 at *
  generalize ext L w.heap.size 5=L3 at *
  obtain ⟨ol,cl,op,cp,on,nn,kn,c1,c2,c3,c4⟩:=B3.ex
  have hZ:nd0.size=33:=rfl
  simp only [Z6,Nat.zero_add]
  refine ⟨_,_,_,c1.blk.rd1 rfl,_,H3.rowAll (ZB _),ZB _,by rw [Zb]; unfold lputL; rw [Zb,hZ],?_⟩
  rw [Z6u hZ]
  rintro d w4 ⟨rfl,rfl⟩
  have M4:=Mod.alloc (S:=NoB) w3 (.cells (ndA h o x.length k) tRn)
  have N4:=Blk.new w3 tRn (ndA h o x.length k)
  have s4:Stp NoS w3 L3 (w3.alloc (.cells (ndA h o x.length k) tRn)) (ext L3 w3.heap.size 5):=Stp.of_nob M4 5
  show World.cell? (w3.alloc (.cells (ndA h o x.length k) tRn)) _=_∧∃(v30:Value) (w31:World),Sem.run Tryz.prog (builtinV .append #[28,28] 28 #[(.slice on nn kn),(.slice (some ⟨w3.heap.size,0,none⟩) 1 1)]) (w3.alloc (.cells (ndA h o x.length k) tRn))=.ok v30 w31∧_
  have hnew4:∀k,w.heap.size≤k→ext L3 w3.heap.size 5 k=4∨ext L3 w3.heap.size 5 k=5:=fun k hk=>by
   by_cases hlt:k < w3.heap.size
   ·rw [Z2E hlt]; exact hnew3 k hk
   ·exact .inr (ext_new (by omega))
  have hsz4:=M4.size
  generalize w3.alloc (.cells (ndA h o x.length k) tRn)=w4 at *
  have B4:=B3.stp s4 (fun h=>h) (fun h=>h) (fun h=>h) (fun h=>h) (fun h=>h)
  have c14:=c1.stp s4 (fun h=>h)
  have c44:=c4.stp s4 (fun h=>h) (fun h=>h)
  have hx4:=hx3.stp s4 (fun h=>h)
  generalize ext L3 w3.heap.size 5=L4 at *
  refine ⟨c14.blk.rd1 rfl,?_⟩
  obtain ⟨o',k',w5,hr5,O5,s5⟩:=c44.push (by decide) N4 hh hx4 hk hl
  have hnew5:∀k,w.heap.size≤k→ext L4 w4.heap.size 4 k=4∨ext L4 w4.heap.size 4 k=5:=fun k hk=>by
   by_cases hlt:k < w4.heap.size
   ·rw [Z2E hlt]; exact hnew4 k hk
   ·exact .inl (ext_new (by omega))
  have c15:=c14.stp s5 (by decide)
  have B5:∀(j:Nat) (hj:j < es.length),_:=fun j hj=>c2 j hj
  have s35:=(s4.mono (T:=fun k=>k=4) (fun _ h=>h.elim)).trans s5
  generalize ext L4 w4.heap.size 4=L5 at *
  refine ⟨_,w5,hr5,o',_,k',rfl,c15.blk.canSet (by simp) rfl,?_⟩
  rintro _ rfl
  have s6:Stp (fun k=>k=1) w5 L5 (w5.setCell ⟨d0,2,none⟩ (.slice o' (nn+1) k')) L5:=Stp.setCell c15.clr
  have s36:Stp SB1 w3 L3 (w5.setCell ⟨d0,2,none⟩ (.slice o' (nn+1) k')) L5:=(s35.mono (fun _ h=>.inr h)).trans (s6.mono (fun _ h=>.inl h))
  refine hR _ _ ⟨rfl,L5,(s03.mono (fun _ h=>h.elim)).trans s36,hnew5,⟨⟨ol,cl,op,cp,o',nn+1,k',c15.set 2 _,fun j hj=>?_,fun j hj=>?_,O5.stp s6 (by decide) (by decide)⟩⟩⟩
  ·obtain ⟨g,f,ov,kv,e1,e2,e3,e4,e5⟩:=c2 j hj
   exact ⟨g,f,ov,kv,e1,Nat.lt_of_lt_of_le e2 s36.size,(s36.lab g e2).trans e3,(World.cell?_of_block (s36.block g e2 (by rw [e3]; decide))).trans e4,e5.stp s36 (by decide)⟩
  ·obtain ⟨g,f,o,k,e1,e2,e3,e4,e5,e6⟩:=c3 j hj
   exact ⟨g,f,o,k,e1,Nat.lt_of_lt_of_le e2 s36.size,(s36.lab g e2).trans e3,(World.cell?_of_block (s36.block g e2 (by rw [e3]; decide))).trans e4,e5,e6.stp s36 (by decide)⟩
end Go.Proofs.YtfghidehlnfdiaaGreat
end
section
namespace Go.Trie
def seg (es:List (By×By)) (a b i:Nat):List (By×By):=((es.drop a).take (b - a)).map fun e=>(e.1.drop i,e.2)
structure Z83 (es:List (By×By)) (a b i:Nat):Prop where
 lt:a < b
 le:b≤es.length
 len:∀(j:Nat) (hj:j < es.length),a≤j→j < b→i≤es[j].1.length
theorem Z6I {es:List (By×By)} {a b i:Nat} (h:b≤es.length):(seg es a b i).length=b - a:=by
 unfold seg; rw [List.length_map,List.length_take,List.length_drop]; omega
theorem Z9P {es:List (By×By)} {a b i j:Nat} (h:b≤es.length) (hj:a+j < b):(seg es a b i)[j]?=some (es[a+j].1.drop i,es[a+j].2):=by
 unfold seg
 rw [List.getElem?_map,List.getElem?_take,if_pos (by omega),List.getElem?_drop,List.getElem?_eq_getElem (by omega)]
 rfl
theorem Z9Q (es:List (By×By)) (a i:Nat):seg es a a i=[]:=by unfold seg; rw [Nat.sub_self,List.take_zero]; rfl
theorem ZBe {es:List (By×By)} {a b i:Nat} (h:b≤es.length) {x:By×By} (hx:x∈seg es a b i):∃(j:Nat) (hj:j < es.length),a≤j∧j < b∧x=(es[j].1.drop i,es[j].2):=by
 obtain ⟨j,hj⟩:=List.mem_iff_getElem?.1 hx
 have hl:j < (seg es a b i).length:=by
  rcases Nat.lt_or_ge j (seg es a b i).length with h | h
  ·exact h
  ·rw [List.getElem?_eq_none h] at hj; cases hj
 rw [Z6I h] at hl
 rw [Z9P h (by omega)] at hj
 exact ⟨a+j,by omega,by omega,by omega,(Option.some.inj hj).symm⟩
theorem ZBS {es:List (By×By)} {a b i j:Nat} (h:b≤es.length) (h1:a≤j) (h2:j < b):(es[j].1.drop i,es[j].2)∈seg es a b i:=by
 have:=Z9P (a:=a) (b:=b) (i:=i) (j:=j - a) h (by omega)
 simp only [show a+(j - a)=j by omega] at this
 exact List.mem_of_getElem? this
theorem Z5n {es:List (By×By)} {a b i:Nat} (h:Z83 es a b i):(seg es a b i).head?=some ((es[a]'(by have:=h.lt; have:=h.le; omega)).1.drop i,(es[a]'(by have:=h.lt; have:=h.le; omega)).2):=by
 have:=Z9P (a:=a) (b:=b) (i:=i) (j:=0) h.le (by have:=h.lt; omega)
 rw [List.head?_eq_getElem?,this]
 rfl
theorem ZCh {es:List (By×By)} {a b i:Nat} (h:Z83 es a b i):(seg es a b i).getLast?=some ((es[b - 1]'(by have:=h.lt; have:=h.le; omega)).1.drop i,(es[b - 1]'(by have:=h.lt; have:=h.le; omega)).2):=by
 have h1:=h.lt
 have:=Z9P (a:=a) (b:=b) (i:=i) (j:=b - 1 - a) h.le (by omega)
 rw [List.getLast?_eq_getElem?,Z6I h.le,show b - a - 1=b - 1 - a by omega,this]
 simp only [show a+(b - 1 - a)=b - 1 by omega]
theorem ZEf (es:List (By×By)) (a b i j:Nat):seg es a b (i+j)=(seg es a b i).map fun x=>(x.1.drop j,x.2):=by
 unfold seg
 rw [List.map_map]
 congr 1
 funext e
 simp [List.drop_drop]
theorem Z3d {es:List (By×By)} {a m b i:Nat} (h1:a≤m) (h2:m≤b):seg es a b i=seg es a m i++seg es m b i:=by
 unfold seg
 rw [← List.map_append]
 congr 1
 have:b - a=(m - a)+(b - m):=by omega
 rw [this,List.take_add,List.drop_drop,show a+(m - a)=m by omega]
theorem ZCg {es:List (By×By)} {a b i:Nat} (h:Z83 es a b i):seg es a b i=((es[a]'(by have:=h.lt; have:=h.le; omega)).1.drop i,(es[a]'(by have:=h.lt; have:=h.le; omega)).2) :: seg es (a+1) b i:=by
 have h1:=h.lt
 have h2:=h.le
 unfold seg
 rw [List.drop_eq_getElem_cons (by omega:a < es.length),show b - a=(b - (a+1))+1 by omega,List.take_succ_cons,List.map_cons]
def kidsN:Nd→List (By×By)→List (By×By)
 | .row _ c,out=>Z1b c false out
 | .branch cs _,out=>(List.finRange 16).foldl (fun o i=>Z1b (cs i) false o) out
 | _,out=>out
theorem Z8v {n:Nd} (h:n≠.nil) (top:Bool) (out:List (By×By)):Z1b n top out=Z27 (kidsN n out) top (bytesOf n):=by
 cases n with
 | nil=>exact (h rfl).elim
 | leaf p v=>rfl
 | row p c=>rfl
 | branch cs v=>rfl
theorem kids_len {n:Nd} (out:List (By×By)):(kidsN n out).length≤out.length+cnt n:=by
 cases n with
 | nil=>simp [kidsN]
 | leaf p v=>simp [kidsN]
 | row p c =>
   have:=Z2s c false out
   simp only [kidsN,cnt]; omega
 | branch cs v =>
   have:=Z5U (fun i out=>Z2s (cs i) false out) (List.finRange 16) out
   simp only [kidsN,cnt]; omega
end Go.Trie
namespace Go.Proofs.YtfghidehlnfdiaaGreat
open Go Go.Vcg Go.Trie
abbrev SI (i:Nat):Nat→Prop:=fun k=>k=1∨k=4∨8+i≤k
theorem Z6w {w:World} {L:Nat→Nat} {q:Nat} {o:Option Addr} {l k:Nat} {b c:By} {o2:Option Addr} {k2:Nat} {ty:TypeId} (h:COw w L q tU8 1 o l k (b.map bV)) (hr:RdB w o2 c) (hn:l+c.length≤2 ^ 40) :
  ∃o' k' w',Sem.run Tryz.prog (builtinV .append #[Z07,Z07] ty #[.slice o l k,.slice o2 c.length k2]) w=.ok (.slice o' (l+c.length) k') w'∧COw w' (ext L w.heap.size q) q tU8 1 o' (l+c.length) k' ((b++c).map bV)∧Stp (·=q) w L w' (ext L w.heap.size q):=by
 obtain ⟨i,hi,hz,hs,hb⟩:=Z2G Z6A
 rw [List.map_append]
 exact COw.append Zt hi hz hs rfl h (Z5q Zt hr) (by simp only [maxLen]; omega) (by rw [hb]; omega)
theorem ZG7 {w:World} {L:Nat→Nat} {d0 a b i:Nat} {es out:List (By×By)} (hB:BS w L d0 es out) (hok:Z83 es a b i) (hlen:∀e∈es,e.1.length≤128) (hle:es.length≤2 ^ 20) (hi:i≤128) {J45:Int→World→Prop}
  (hJ:∀w',Vcg.Mod NoB w w'→J45 (ZK ((es[a]'(by have:=hok.lt; have:=hok.le; omega)).1.drop i) ((es[b - 1]'(by have:=hok.lt; have:=hok.le; omega)).1.drop i):Int) w') :
  ∃(I46:Int→World→Prop) (μ46:Int→World→Nat),I46 0 w ∧
   (∀(n47:Int) (j48:Nat→Value) (w48:World),I46 n47 w48 →
     ∀w49:World,ZN w48 w49 →
     ∃o50:Option Addr,∃l51:Nat,∃l52:Nat,World.cell? w49 (Addr.add ⟨d0,0,none⟩ 1)=some (.slice o50 l51 l52) ∧
     ∃d53:Addr,o50=some d53 ∧
     ((0:Int)≤(a:Int)∧(a:Int) < ((l51:Nat):Int)) ∧
     ∃o54:Option Addr,∃l55:Nat,∃l56:Nat,World.cell? w49 (Addr.add d53 (Int.toNat (a:Int)))=some (.slice o54 l55 l56) ∧
     (((((l55:Nat):Int) > (IntKind.wrap .i64 ((i:Int)+n47)) →
       ∃o57:Option Addr,∃l58:Nat,∃l59:Nat,World.cell? w49 (Addr.add ⟨d0,0,none⟩ 1)=some (.slice o57 l58 l59) ∧
       ∃d60:Addr,o57=some d60 ∧
       ((0:Int)≤(IntKind.wrap .i64 ((b:Int) - 1))∧(IntKind.wrap .i64 ((b:Int) - 1)) < ((l58:Nat):Int)) ∧
       ∃o61:Option Addr,∃l62:Nat,∃l63:Nat,World.cell? w49 (Addr.add d60 (Int.toNat (IntKind.wrap .i64 ((b:Int) - 1))))=some (.slice o61 l62 l63) ∧
       (((((l62:Nat):Int) > (IntKind.wrap .i64 ((i:Int)+n47)) →
         ∃o64:Option Addr,∃l65:Nat,∃l66:Nat,World.cell? w49 (Addr.add ⟨d0,0,none⟩ 1)=some (.slice o64 l65 l66) ∧
         ∃d67:Addr,o64=some d67 ∧
         ((0:Int)≤(a:Int)∧(a:Int) < ((l65:Nat):Int)) ∧
         ∃o68:Option Addr,∃l69:Nat,∃l70:Nat,World.cell? w49 (Addr.add d67 (Int.toNat (a:Int)))=some (.slice o68 l69 l70) ∧
         ∃d71:Addr,o68=some d71 ∧
         ((0:Int)≤(IntKind.wrap .i64 ((i:Int)+n47))∧(IntKind.wrap .i64 ((i:Int)+n47)) < ((l69:Nat):Int)) ∧
         ∃n72:Int,World.cell? w49 (Addr.add d71 (Int.toNat (IntKind.wrap .i64 ((i:Int)+n47))))=some (.int .u8 n72) ∧
         ∃o73:Option Addr,∃l74:Nat,∃l75:Nat,World.cell? w49 (Addr.add ⟨d0,0,none⟩ 1)=some (.slice o73 l74 l75) ∧
         ∃d76:Addr,o73=some d76 ∧
         ((0:Int)≤(IntKind.wrap .i64 ((b:Int) - 1))∧(IntKind.wrap .i64 ((b:Int) - 1)) < ((l74:Nat):Int)) ∧
         ∃o77:Option Addr,∃l78:Nat,∃l79:Nat,World.cell? w49 (Addr.add d76 (Int.toNat (IntKind.wrap .i64 ((b:Int) - 1))))=some (.slice o77 l78 l79) ∧
         ∃d80:Addr,o77=some d80 ∧
         ((0:Int)≤(IntKind.wrap .i64 ((i:Int)+n47))∧(IntKind.wrap .i64 ((i:Int)+n47)) < ((l78:Nat):Int)) ∧
         ∃n81:Int,World.cell? w49 (Addr.add d80 (Int.toNat (IntKind.wrap .i64 ((i:Int)+n47))))=some (.int .u8 n81) ∧
         (((n72=n81 →
           I46 (IntKind.wrap .i64 (n47+1)) w49∧μ46 (IntKind.wrap .i64 (n47+1)) w49 < μ46 n47 w48)) ∧
          ((n72≠n81 →
           J45 n47 w49))))) ∧
        ((¬((l62:Nat):Int) > (IntKind.wrap .i64 ((i:Int)+n47)) →
         J45 n47 w49))))) ∧
      ((¬((l55:Nat):Int) > (IntKind.wrap .i64 ((i:Int)+n47)) →
       J45 n47 w49)))):=by
 have h1:=hok.lt
 have h2:=hok.le
 have ha:a < es.length:=by omega
 have hb:b - 1 < es.length:=by omega
 have la:=hok.len a ha (Nat.le_refl _) h1
 have lb:=hok.len (b - 1) hb (by omega) (by omega)
 have l1:=hlen _ (List.getElem_mem ha)
 have l2:=hlen _ (List.getElem_mem hb)
 generalize hf:es[a].1=f at *
 generalize hg:es[b - 1].1=g at *
 have hfl:(f.drop i).length=f.length - i:=List.length_drop
 have hgl:(g.drop i).length=g.length - i:=List.length_drop
 refine ⟨fun n w'=>∃j:Nat,n=(j:Int)∧i+j≤f.length∧i+j≤g.length∧(f.drop i).take j=(g.drop i).take j∧Vcg.Mod NoB w w',fun n _=>((129:Int) - n).toNat,⟨0,rfl,by omega,by omega,rfl,Mod.refl w⟩,?_⟩
 rintro _ _ w1 ⟨j,rfl,hjf,hjg,ht,M⟩
 rintro _ rfl
 have M2:=M.step_drew
 have fin:(j=(f.drop i).length∨j=(g.drop i).length∨∃(x:j < (f.drop i).length) (y:j < (g.drop i).length),(f.drop i)[j]≠(g.drop i)[j])→J45 (j:Int) w1.drew:=fun h=>by
  have:=hJ _ M2
  rw [ZEn ht (by omega) (by omega) h] at this
  exact this
 obtain ⟨ol,cl,op,cp,on,nn,kn,c1,c2,c3,c4⟩:=(hB.mod' M2 5).ex
 have hc:World.cell? w1.drew ⟨d0,1,none⟩=some (.slice op es.length cp):=c1.blk.rd1 rfl
 obtain ⟨g1,f1,o1,k1,e1,e2,e3,e4,e5,e6⟩:=c3 a ha
 obtain ⟨g2,f2,o2,k2,e1',e2',e3',e4',e5',e6'⟩:=c3 (b - 1) hb
 subst e1
 cases e1'
 rw [hf] at e4 e5 e6
 rw [hg] at e4' e5' e6'
 have ew:IntKind.wrap .i64 ((i:Int)+(j:Int))=((i+j:Nat):Int):=by rw [Z0 (by omega) (by omega)]; omega
 have eb:IntKind.wrap .i64 ((b:Int) - 1)=((b - 1:Nat):Int):=by rw [Z0 (by omega) (by omega)]; omega
 simp only [ew,eb,Z6,Nat.zero_add,Int.toNat_natCast]
 refine ⟨_,_,_,hc,_,rfl,⟨by omega,by omega⟩,_,_,_,by rw [Z6]; exact e4,fun hlf=>⟨_,_,_,hc,_,rfl,⟨by omega,by omega⟩,_,_,_,by rw [Z6]; exact e4',fun hlg=>?_,fun hlg=>fin (.inr (.inl (by omega)))⟩,fun hlf=>fin (.inl (by omega))⟩
 have hjf':i+j < f.length:=by omega
 have hjg':i+j < g.length:=by omega
 obtain ⟨pb,pf,rfl,hpb,hpc⟩:=Z1w e6.rd hjf'
 obtain ⟨qb,qf,rfl,hqb,hqc⟩:=Z1w e6'.rd hjg'
 refine ⟨_,_,_,hc,_,rfl,⟨by omega,by omega⟩,_,_,_,by rw [Z6]; exact e4,_,rfl,⟨by omega,by omega⟩,_,by rw [Z6]; exact hpc,_,_,_,hc,_,rfl,⟨by omega,by omega⟩,_,_,_,by rw [Z6]; exact e4',_,rfl,⟨by omega,by omega⟩,_,by rw [Z6]; exact hqc,fun he=>?_,fun he=>fin (.inr (.inr ⟨by omega,by omega,?_⟩))⟩
 ·have hab:f[i+j]=g[i+j]:=UInt8.toNat_inj.1 (by exact_mod_cast he)
  refine ⟨⟨j+1,by rw [Z0 (by omega) (by omega)]; omega,by omega,by omega,?_,M2⟩,by rw [Z0 (by omega) (by omega)]; omega⟩
  rw [List.take_add_one,List.take_add_one,ht,List.getElem?_drop,List.getElem?_drop,List.getElem?_eq_getElem hjf',List.getElem?_eq_getElem hjg',hab]
 ·rw [List.getElem_drop,List.getElem_drop]
  exact fun e=>he (by rw [e])
end Go.Proofs.YtfghidehlnfdiaaGreat
end
section
namespace Go.Proofs.YtfghidehlnfdiaaGreat
open Go Go.Vcg Go.Trie
structure EsOk (es:List (By×By)):Prop where
 len:es.length≤2 ^ 20
 paths:∀e∈es,e.1.length≤128
 vals:∀e∈es,e.2.length≤1024
theorem enc2 (x y:It):enc (.l [x,y])=Trie.Z2q ((enc x).length+(enc y).length) 192++(enc x++enc y):=by
 simp [enc,Z1s]
def ZDV (n:Nd):Prop:=∀⦃w:World⦄ ⦃L:Nat→Nat⦄ ⦃d0 a b i:Nat⦄ ⦃es out:List (By×By)⦄,BS w L d0 es out→EsOk es→Z83 es a b i→Rep (seg es a b i) n→out.length+cnt n≤2 ^ 20 →
 Calls Tryz.prog ZO.n #[.pointer (some ⟨d0,0,none⟩),.int .i64 (a:Int),.int .i64 (b:Int),.int .i64 (i:Int)] w (fun e w'=>∃o k,e=.returned (.slice o (bytesOf n).length k)∧∃L',Stp (SI i) w L w' L'∧BS w' L' d0 es (kidsN n out)∧CBy w' L' 5 o (bytesOf n)∧(bytesOf n).length≤k)
def ZHV (n:Nd):Prop:=∀⦃w:World⦄ ⦃L:Nat→Nat⦄ ⦃d0 a b i:Nat⦄ ⦃es out:List (By×By)⦄,BS w L d0 es out→EsOk es→Z83 es a b i→Rep (seg es a b i) n→out.length+cnt n≤2 ^ 20 →
 Calls Tryz.prog Zk.n #[.pointer (some ⟨d0,0,none⟩),.int .i64 (a:Int),.int .i64 (b:Int),.int .i64 (i:Int)] w (fun e w'=>∃o k,e=.returned (.slice o (enc (Z5G n)).length k)∧∃L',Stp (SI i) w L w' L'∧BS w' L' d0 es (Z1b n false out)∧CBy w' L' 5 o (enc (Z5G n)))
theorem ZF9 {i:Nat}:¬SI i 5∧¬SI i 6∧¬SI i 7:=⟨by rintro (h | h | h) <;> omega,by rintro (h | h | h) <;> omega,by rintro (h | h | h) <;> omega⟩
theorem ZEb {n:Nd} (hI:ZDV n) (hn:n≠.nil) (hs:Z60 n):ZHV n:=by
 intro w L d0 a b i es out hB hE hok hR hl
 refine ZH fun R hR'=>Zk.vc _ _ _ _ _ _ ?_
 unfold Zk.Vc
 refine (hI hB hE hok hR hl).mono ?_
 rintro _ w1 ⟨o1,k1,rfl,L1,s1,B1,x1,hk1⟩
 have hbl:=Z8z hs
 rw [Z8v hn] at hR'
 have hkl:=kids_len (n:=n) out
 refine ⟨_,_,_,rfl,fun h32=>?_,fun h32=>?_⟩
 ·have e1:enc (Z5G n)=bytesOf n:=by unfold Z5G Z3C; rw [if_neg (by simp only [bytesOf] at h32; omega)]; rfl
  have e2:Z27 (kidsN n out) false (bytesOf n)=kidsN n out:=by unfold Z27; rw [decide_eq_true (by omega:(bytesOf n).length < 32)]; simp
  rw [e1,e2] at hR'
  exact hR' _ _ ⟨o1,k1,rfl,L1,s1,B1,x1⟩
 ·have e1:enc (Z5G n)=enc (.s (sumOf (bytesOf n))):=by unfold Z5G Z3C; rw [if_pos (by simp only [bytesOf] at h32; omega)]; rfl
  rw [e1] at hR'
  refine (Z4Q (bytesOf n) rfl (by omega) x1.rd).mono ?_
  rintro _ w2 ⟨rfl,M2⟩
  refine ⟨_,rfl,?_⟩
  rintro d w3 ⟨rfl,rfl⟩
  have H3:=Blk.new w2 27 (Array.replicate 32 (.int .u8 0))
  obtain ⟨h1,h2,h3⟩:=Z1c H3 (by simp) (sumOf (bytesOf n))
  have M3:=M2.step_alloc (.cells (Array.replicate 32 (.int .u8 0)) 27)
  have M4:=ZM M3 h3 M2.size
  refine ⟨_,h1,_,h2.rowAll (ZB _),?_⟩
  have hge:=M2.size
  have hlt4:=h2.lt
  generalize w2.heap.size=D at *
  generalize ((w2.alloc (.cells (Array.replicate 32 (.int .u8 0)) 27)).setRow D (hashA (sumOf (bytesOf n))))=w4 at *
  have B4:=B1.mod' M4 5
  have s4:Stp NoS w1 L1 w4 (ext L1 w1.heap.size 5):=Stp.of_nob M4 5
  have x4:=x1.stp s4 (fun h=>h)
  have D4:CB w4 (ext L1 w1.heap.size 5) 5 D tHash (hashA (sumOf (bytesOf n))):=⟨h2,ext_new hge⟩
  generalize ext L1 w1.heap.size 5=L4 at *
  refine (Z8f (k:=k1) B4 x4 (Z04 _) hk1 (by omega)).mono ?_
  rintro _ w5 ⟨rfl,L5,s5,_,B5⟩
  have D5:=D4.stp s5 (by decide)
  have hrd:RdB w5 (some ⟨D,0,none⟩) (sumOf (bytesOf n)):=RdB.of_blk D5.blk (fun j hj=>by
   rw [Z04] at hj
   simp only [Nat.zero_add,hashA]
   exact ZF hj)
  obtain ⟨o6,k6,w6,hr6,F6⟩:=Z1N (k2:=32) (ty:=Z07) (Mod.refl w5) hrd (by rw [Z04]; omega)
  rw [Z04] at hr6
  refine ⟨rfl,_,w6,hr6,_,_,_,rfl,?_⟩
  have hst:=Z4Y (k:=k6) (ZQ F6) (by rw [Z04]; omega)
  rw [Z04] at hst
  refine hst.mono ?_
  rintro _ w7 ⟨o7,k7,rfl,F7⟩
  have F57:=ZW.from_ F7 F6.mod
  have B7:=B5.mod' F57.mod 5
  have s7:Stp NoS w5 L5 w7 (ext L5 w5.heap.size 5):=Stp.of_nob F57.mod 5
  have e2:Z27 (kidsN n out) false (bytesOf n)=if met (kidsN n out) (sumOf (bytesOf n)) then kidsN n out else kidsN n out++[(sumOf (bytesOf n),bytesOf n)]:=by
   unfold Z27; rw [decide_eq_false (by omega:¬(bytesOf n).length < 32)]; simp
  rw [e2] at hR'
  refine ⟨_,_,_,rfl,hR' _ _ ⟨o7,k7,rfl,_,?_,B7,Z2x F57 (Mod.refl _)⟩⟩
  exact ((s1.trans (s4.mono (fun _ h=>h.elim))).trans (s5.mono (fun k h=>h.elim .inl (fun h=>.inr (.inl h))))).trans (s7.mono (fun _ h=>h.elim))
theorem BS.path {w:World} {L:Nat→Nat} {d0:Nat} {es out:List (By×By)} (h:BS w L d0 es out) {j:Nat} (hj:j < es.length) {i:Nat} (hi:i≤es[j].1.length) :
  ∃op cp b f o k,World.cell? w ⟨d0,1,none⟩=some (.slice op es.length cp)∧op=some ⟨b,f,none⟩∧w.cell? ⟨b,f+j,none⟩=some (.slice o es[j].1.length k)∧es[j].1.length≤k∧CBy w L 5 o es[j].1∧CBy w L 5 (subO o k i 1) (es[j].1.drop i):=by
 obtain ⟨ol,cl,op,cp,on,nn,kn,c1,c2,c3,c4⟩:=h.ex
 obtain ⟨b,f,o,k,e1,e2,e3,e4,e5,e6⟩:=c3 j hj
 have:=e6.sub (lo:=i) (n:=es[j].1.length - i) e5
 rw [List.take_of_length_le (by rw [List.length_drop]; omega)] at this
 exact ⟨op,cp,b,f,o,k,c1.blk.rd1 rfl,e1,e4,e5,e6,this⟩
theorem BS.val {w:World} {L:Nat→Nat} {d0:Nat} {es out:List (By×By)} (h:BS w L d0 es out) {j:Nat} (hj:j < es.length) :
  ∃ol cl b f ov kv,World.cell? w ⟨d0,0,none⟩=some (.slice ol es.length cl)∧ol=some ⟨b,f,none⟩∧w.cell? ⟨b,f+(j * 2+1),none⟩=some (.slice ov es[j].2.length kv)∧CBy w L 6 ov es[j].2:=by
 obtain ⟨ol,cl,op,cp,on,nn,kn,c1,c2,c3,c4⟩:=h.ex
 obtain ⟨b,f,ov,kv,e1,e2,e3,e4,e5⟩:=c2 j hj
 exact ⟨ol,cl,b,f,ov,kv,c1.blk.rd1 rfl,e1,e4,e5⟩
theorem Z8X (p v:By):ZDV (.leaf p v):=by
 intro w L d0 a b i es out hB hE hok hR hl
 refine ZH fun R hR'=>ZO.vc _ _ _ _ _ _ ?_
 unfold ZO.Vc
 have hseg:=hR.leaf
 have hb:b=a+1:=by
  have:=congrArg List.length hseg
  rw [Z6I hok.le] at this
  have:=hok.lt
  simp at *; omega
 subst hb
 have ha:a < es.length:=by have:=hok.le; omega
 have hla:=hE.len
 have e0:=Z5n hok
 rw [hseg] at e0
 simp only [List.head?_cons,Option.some.injEq,Prod.mk.injEq] at e0
 obtain ⟨rfl,rfl⟩:=e0
 have hi:=hok.len a ha (Nat.le_refl _) (by omega)
 have hpl:=hE.paths _ (List.getElem_mem ha)
 have hvl:=hE.vals _ (List.getElem_mem ha)
 have hd:(es[a].1.drop i).length=es[a].1.length - i:=List.length_drop
 have hpk:=Z5e (es[a].1.drop i) true (by omega)
 refine ⟨fun _=>?_,fun h=>absurd (by rw [Z0 (by omega) (by omega)]; omega) h⟩
 obtain ⟨op,cp,pb,pf,o,k,h1,rfl,h2,h3,h4,h5⟩:=hB.path ha hi
 simp only [Z6,Nat.zero_add,Int.toNat_natCast]
 refine ⟨_,_,_,h1,_,rfl,⟨by omega,by omega⟩,_,_,_,by rw [Z6]; exact h2,⟨by omega,by omega⟩,?_⟩
 have hp:=Z7f (k:=k - i) h5.rd (by omega) true
 rw [hd] at hp
 refine hp.mono ?_
 rintro _ w1 ⟨o1,k1,rfl,F1⟩
 refine ⟨_,_,_,_,rfl,?_⟩
 rintro _ rfl
 have MD:=Mod.drew (S:=NoB) w1
 have B2:=hB.mod' (F1.mod.trans MD (fun _ _ h=>h)) 5
 obtain ⟨ol,cl,vb,vf,ov,kv,g1,rfl,g2,g3⟩:=B2.val ha
 refine ⟨_,_,_,g1,_,rfl,⟨by omega,by omega⟩,_,_,_,by rw [Z6,Z6,Nat.add_assoc]; exact g2,?_⟩
 refine (Z4Y (b:=Z2k (es[a].1.drop i) true) ((ZQ F1).mod' MD) (by omega)).mono ?_
 rintro _ w3 ⟨o3,k3,rfl,F3⟩
 have B3:=B2.mod' F3.mod 5
 obtain ⟨ol,cl,vb',vf',ov',kv',g1',hol,g2',g3'⟩:=B3.val ha
 rw [ZX F3.mod (b:=d0) (by obtain ⟨_,_,_,_,_,_,_,c1,_⟩:=B2.ex; exact c1.blk.lt) (fun h=>h),g1] at g1'
 cases g1'
 cases hol
 have hvb:vb < w1.drew.heap.size:=by obtain ⟨ol,cl,op,cp,on,nn,kn,c1,c2,_⟩:=B2.ex; obtain ⟨b',f',ov'',kv'',q1,q2,_⟩:=c2 a ha; have:=c1.blk.rd1 (i:=0) rfl; rw [g1] at this; cases this; cases q1; exact q2
 rw [ZX F3.mod hvb (fun h=>h),g2] at g2'
 cases g2'
 refine ⟨_,_,_,rfl,by rw [Z6,Z6,Nat.add_assoc]; exact (ZX F3.mod hvb (fun h=>h)).trans g2,(ZX F3.mod (by obtain ⟨_,_,_,_,_,_,_,c1,_⟩:=B2.ex; exact c1.blk.lt) (fun h=>h)).trans g1,?_⟩
 refine (Z4Y (k:=kv) g3'.rd (by omega)).mono ?_
 rintro _ w4 ⟨o4,k4,rfl,F4⟩
 have q1:=Z2Y (Z2k (es[a].1.drop i) true)
 have q2:=Z2Y es[a].2
 obtain ⟨o5,k5,w5,hr5,F5⟩:=Za (ty:=Z07) (k2:=k4) (F3.mod' F4.mod) (ZQ F4) (by omega)
 refine ⟨_,_,_,rfl,_,w5,hr5,_,_,_,rfl,?_⟩
 have hL:=Z3v (k:=k5) (ZQ F5) (by rw [List.length_append]; omega)
 rw [List.length_append] at hL
 refine hL.mono ?_
 rintro _ w6 ⟨o6,k6,rfl,F6⟩
 have e6:Trie.Z2q ((enc (.s (Z2k (es[a].1.drop i) true))).length+(enc (.s es[a].2)).length) 192++(enc (.s (Z2k (es[a].1.drop i) true))++enc (.s es[a].2))=bytesOf (.leaf (es[a].1.drop i) es[a].2):=by
  simp only [bytesOf,Z2B]
  rw [enc2]
 rw [e6] at F6 ⊢
 have M06:=((F1.mod.trans MD (fun _ _ h=>h)).trans F5.mod (fun _ _ h=>h)).trans F6.mod (fun _ _ h=>h)
 have F06:=ZW.from_ F6 ((F1.mod.trans MD (fun _ _ h=>h)).trans F5.mod (fun _ _ h=>h))
 exact ⟨_,_,_,rfl,hR' _ _ ⟨o6,k6,rfl,_,(Stp.of_nob M06 5).mono (S:=NoS) (fun _ h=>h.elim),hB.mod' M06 5,Z2x F06 (Mod.refl _),F06.own.cap.1⟩⟩
end Go.Proofs.YtfghidehlnfdiaaGreat
end
section
namespace Go.Proofs.YtfghidehlnfdiaaGreat
open Go Go.Vcg Go.Trie
theorem ZE8 {c:Nd} (hRef:ZHV c) {p:By} (hc:Z1p (.row p c)):ZDV (.row p c):=by
 intro w L d0 a b i es out hB hE hok hR hl
 refine ZH fun R hR'=>ZO.vc _ _ _ _ _ _ ?_
 unfold ZO.Vc
 have hab:=hok.lt
 have hbl:=hok.le
 have hla:=hE.len
 have ha:a < es.length:=by omega
 have hi:=hok.len a ha (Nat.le_refl _) hab
 have hpl:=hE.paths _ (List.getElem_mem ha)
 obtain ⟨k1,v1,k2,v2,g1,g2,hne⟩:=ZHG hc
 have h2:=hR.two g1 g2 hne
 rw [Z6I hbl] at h2
 have hsh:=hR.shared_row hc (Z5n hok) (ZCh hok)
 obtain ⟨hpre,hRc⟩:=hR.row
 have hpre1:=hpre _ (List.mem_of_mem_head? (Z5n hok))
 have hp1:1≤p.length:=List.length_pos_iff.2 hc.1
 have hd:(es[a].1.drop i).length=es[a].1.length - i:=List.length_drop
 have hple:=hpre1.length_le
 simp only at hsh hple
 rw [← ZEf] at hRc
 have htake:(es[a].1.drop i).take p.length=p:=(List.prefix_iff_eq_take.1 hpre1).symm
 have hok':Z83 es a b (i+p.length):=by
  refine ⟨hab,hbl,fun j hj h1 h2=>?_⟩
  have:=(hpre _ (ZBS (i:=i) hbl h1 h2)).length_le
  simp only [List.length_drop] at this
  have:=hok.len j hj h1 h2
  omega
 have hpk:=Z5e p false (by omega)
 refine ⟨fun h=>absurd h (by rw [Z0 (by omega) (by omega)]; omega),fun _=>⟨fun n w'=>n=(p.length:Int)∧Vcg.Mod NoB w w',ZG7 hB hok hE.paths hE.len (by omega) (fun w' M=>⟨by rw [hsh],M⟩),?_⟩⟩
 rintro _ _ w1 ⟨rfl,M1⟩
 refine ⟨fun _=>?_,fun h=>absurd h (by omega)⟩
 have B1:=hB.mod' M1 5
 obtain ⟨op,cp,pb,pf,o,k,h1,rfl,h2,h3,h4,h5⟩:=B1.path ha hi
 have ew:IntKind.wrap .i64 ((i:Int)+(p.length:Int))=((i+p.length:Nat):Int):=by rw [Z0 (by omega) (by omega)]; omega
 simp only [ew,Z6,Nat.zero_add,Int.toNat_natCast]
 refine ⟨_,_,_,h1,_,rfl,⟨by omega,by omega⟩,_,_,_,by rw [Z6]; exact h2,⟨by omega,by omega⟩,⟨by omega,by omega⟩,?_⟩
 have hpr:=h5.rd.take p.length
 rw [htake] at hpr
 have hP:=Z7f (k:=k - i) hpr (by omega) false
 rw [show i+p.length - i=p.length by omega]
 refine hP.mono ?_
 rintro _ w2 ⟨o2,k2,rfl,F2⟩
 refine ⟨_,_,_,_,rfl,?_⟩
 refine (Z4Y (b:=Z2k p false) (ZQ F2) (by omega)).mono ?_
 rintro _ w3 ⟨o3,k3,rfl,F3⟩
 have M03:=(M1.trans F2.mod (fun _ _ h=>h)).trans F3.mod (fun _ _ h=>h)
 have F03:=ZW.from_ F3 (M1.trans F2.mod (fun _ _ h=>h))
 have B3:=hB.mod' M03 (8+i)
 obtain ⟨O3,s3⟩:=F03.done (lab:=L) (8+i)
 generalize ext L w.heap.size (8+i)=L3 at *
 refine ⟨_,_,_,rfl,?_⟩
 have hcnt:cnt (.row p c)=1+cnt c:=rfl
 refine (hRef B3 hE hok' hRc (by omega)).mono ?_
 rintro _ w4 ⟨o4,k4,rfl,L4,s4,B4,x4⟩
 have O4:=O3.stp s4 (by rintro (h | h | h) <;> omega)
 have q1:=Z2Y (Z2k p false)
 have q2:=ZCc c
 obtain ⟨o5,k5,w5,hr5,O5,s5⟩:=Z6w (ty:=Z07) (k2:=k4) O4 x4.rd (by omega)
 have B5:=B4.stp s5 (by omega) (by omega) (by omega) (by omega) (by omega)
 generalize ext L4 w4.heap.size (8+i)=L5 at *
 refine ⟨_,_,_,rfl,_,w5,hr5,_,_,_,rfl,?_⟩
 have hL:=Z3v (k:=k5) O5.own.bytes (by rw [List.length_append]; omega)
 rw [List.length_append] at hL
 refine hL.mono ?_
 rintro _ w6 ⟨o6,k6,rfl,F6⟩
 have e6:Trie.Z2q ((enc (.s (Z2k p false))).length+(enc (Z5G c)).length) 192++(enc (.s (Z2k p false))++enc (Z5G c))=bytesOf (.row p c):=by
  simp only [bytesOf,Z2B]
  rw [enc2]; rfl
 rw [e6] at F6 ⊢
 refine ⟨_,_,_,rfl,hR' _ _ ⟨o6,k6,rfl,_,?_,B5.mod' F6.mod 5,Z2x F6 (Mod.refl _),F6.own.cap.1⟩⟩
 have s6:Stp NoS w5 L5 w6 (ext L5 w5.heap.size 5):=Stp.of_nob F6.mod 5
 exact (((s3.mono (fun _ h=>h.elim)).trans (s4.mono (fun k h=>by rcases h with h | h | h; exact .inl h; exact .inr (.inl h); exact .inr (.inr (by omega))))).trans (s5.mono (fun k h=>.inr (.inr (by omega))))).trans (s6.mono (fun _ h=>h.elim))
end Go.Proofs.YtfghidehlnfdiaaGreat
end
section
namespace Go.Trie
theorem ZFi {f:Fin 16→Nat} {j:Nat} (hj:j < 16):(((List.finRange 16).take j).map f).sum+f ⟨j,hj⟩≤((List.finRange 16).map f).sum:=by
 have e:=congrArg List.sum (congrArg (List.map f) (List.take_append_drop j (List.finRange 16)))
 rw [List.map_append,List.sum_append] at e
 have e2:(List.finRange 16).drop j=⟨j,hj⟩ :: (List.finRange 16).drop (j+1):=by
  rw [List.drop_eq_getElem_cons (by simpa using hj)]
  simp
 rw [e2,List.map_cons,List.sum_cons] at e
 omega
theorem ZC9 {j:Nat} (hj:j < 16):(List.finRange 16).take (j+1)=(List.finRange 16).take j++[⟨j,hj⟩]:=by
 rw [List.take_add_one,List.getElem?_eq_getElem (by simpa using hj)]
 simp
theorem ZBM {a b:Nat} {p:By} (h:Z7S a p) (hab:a≤b):Z7S b p:=by
 cases p with
 | nil=>trivial
 | cons c r=>exact Nat.lt_of_lt_of_le h hab
end Go.Trie
namespace Go.Proofs.YtfghidehlnfdiaaGreat
open Go Go.Vcg Go.Trie
theorem enc_l (xs:List It):enc (.l xs)=Trie.Z2q (Z1s xs).length 192++Z1s xs:=by simp only [enc]
theorem ZAI {cs:Fin 16→Nd} {v:By} (hRef:∀i,ZHV (cs i)) (hc:Z1p (.branch cs v)):ZDV (.branch cs v):=by
 intro w0 L0 d0 a b i es out hB0 hE hok hR hl
 refine ZH fun R hR'=>ZO.vc _ _ _ _ _ _ ?_
 unfold ZO.Vc
 have hab:=hok.lt
 have hbl:=hok.le
 have hla:=hE.len
 have ha:a < es.length:=by omega
 have hi:=hok.len a ha (Nat.le_refl _) hab
 have hpl:=hE.paths _ (List.getElem_mem ha)
 obtain ⟨k1,v1,k2,v2,g1,g2,hne⟩:=Z9V hc trivial
 have h2:=hR.two g1 g2 hne.1
 rw [Z6I hbl] at h2
 have hsh:=hR.parts hc trivial (Z5n hok) (ZCh hok)
 simp only at hsh
 refine ⟨fun h=>absurd h (by rw [Z0 (by omega) (by omega)]; omega),fun _=>⟨fun n w'=>n=0∧Vcg.Mod NoB w0 w',ZG7 hB0 hok hE.paths hE.len (by omega) (fun w' M=>⟨by rw [hsh]; rfl,M⟩),?_⟩⟩
 rintro _ _ w ⟨rfl,M0⟩
 refine ⟨fun h=>absurd h (by omega),fun _=>?_⟩
 have hB:=hB0.mod' M0 5
 have sM:Stp NoS w0 L0 w (ext L0 w0.heap.size 5):=Stp.of_nob M0 5
 generalize ext L0 w0.heap.size 5=L at *
 obtain ⟨hv1,hv2,hv3⟩:=hR.value (ZCg hok)
 simp only at hv1 hv2
 obtain ⟨op,cp,pb,pf,o,k,h1,rfl,h2',h3,h4,h5⟩:=hB.path ha hi
 obtain ⟨ol,cl,vb,vf,ov,kv,f1,rfl,f2,f3⟩:=hB.val ha
 simp only [Z6,Nat.zero_add,Int.toNat_natCast]
 refine ⟨fun n o' l' k' w'=>w'=w∧∃m:Nat,n=(m:Int)∧a≤m∧m≤a+1∧l'=v.length∧CBy w L 6 o' v∧(∀y∈seg es a m i,Z7S 0 y.1)∧(∀y∈seg es m b i,Z8V 0 y.1),?_,?_⟩
 ·refine ⟨_,_,_,h1,_,rfl,⟨by omega,by omega⟩,_,_,_,by rw [Z6]; exact h2',fun he=>?_,fun he=>?_⟩
  ·have hd0:es[a].1.drop i=[]:=List.drop_eq_nil_of_le (by omega)
   have hvv:=hv1 hd0
   refine ⟨_,_,_,f1,_,rfl,⟨by omega,by omega⟩,_,_,_,by rw [Z6,Z6,Nat.add_assoc]; exact f2,rfl,a+1,by rw [Z0 (by omega) (by omega)]; omega,by omega,Nat.le_refl _,by rw [hvv],by rw [hvv]; exact f3,?_,?_⟩
   ·intro y hy
    obtain ⟨j,hj,q1,q2,rfl⟩:=ZBe (by omega) hy
    obtain rfl:j=a:=by omega
    rw [hd0]; trivial
   ·intro y hy
    have:=hv3 y hy
    cases hy1:y.1 with
    | nil=>exact (this hy1).elim
    | cons c r=>exact Nat.zero_le _
  ·have hdne:es[a].1.drop i≠[]:=fun e=>by
     have:=congrArg List.length e
     rw [List.length_drop] at this
     simp at this; omega
   have hvv:=hv2 hdne
   refine ⟨rfl,a,rfl,Nat.le_refl _,by omega,by rw [hvv]; rfl,by rw [hvv]; exact CBy.nil _ _ _ _,?_,?_⟩
   ·rw [Z9Q]; intro y hy; cases hy
   ·intro y hy
    rw [ZCg hok] at hy
    rcases List.mem_cons.1 hy with rfl | hy
    ·cases hdd:es[a].1.drop i with
     | nil=>exact (hdne hdd).elim
     | cons c r=>exact Nat.zero_le _
    ·have:=hv3 y hy
     cases hy1:y.1 with
     | nil=>exact (this hy1).elim
     | cons c r=>exact Nat.zero_le _
 ·rintro _ o133 _ c133 _ w ⟨rfl,m0,rfl,hm1,hm2,rfl,hval,hlt0,hge0⟩
  let pay:Nat→By:=fun x=>Z1s (((List.finRange 16).take x).map fun i=>Z3C (Z2B (cs i)))
  let outs:Nat→List (By×By):=fun x=>((List.finRange 16).take x).foldl (fun o i=>Z1b (cs i) false o) out
  have hpay:∀x,(pay x).length≤41 * 16:=fun x=>by
   have h1:=Z56 cs ((List.finRange 16).take x)
   have h2:((List.finRange 16).take x).length≤16:=by rw [List.length_take,List.length_finRange]; omega
   simp only [pay]; omega
  refine ⟨fun o l k n m w'=>∃x at_:Nat,m=(x:Int)∧x≤16∧n=(at_:Int)∧a≤at_∧at_≤b∧(∀y∈seg es a at_ i,Z7S x y.1)∧(∀y∈seg es at_ b i,Z8V x y.1)∧l=(pay x).length∧∃L',Stp (SI i) w L w' L'∧BS w' L' d0 es (outs x)∧COw w' L' (8+i) tU8 1 o l k ((pay x).map bV),
   fun _ _ _ _ m _=>((16:Int) - m).toNat,⟨0,m0,rfl,Nat.zero_le _,rfl,hm1,by omega,hlt0,hge0,rfl,L,Stp.refl _ _ _,hB,COw.nil _ _ _ _ _⟩,?_⟩
  rintro o136 _ c136 _ _ _ w1 ⟨x,m,rfl,hx,rfl,hma,hmb,hlt,hge,rfl,L1,s1,B1,O1⟩
  refine ⟨fun hx16=>?_,fun hx16=>?_⟩
  ·have hx':x < 16:=by omega
   have hxb:(UInt8.ofNat x).toNat=x:=by rw [UInt8.toNat_ofNat']; omega
   refine ⟨fun n w'=>w'=w1∧∃e:Nat,n=(e:Int)∧m≤e∧e≤b∧(∀y∈seg es m e i,∃r,y.1=UInt8.ofNat x :: r)∧(∀y,(seg es e b i).head?=some y→∀c r,y.1=c :: r→c.toNat≠x),?_,?_⟩
   ·refine ⟨fun n w'=>w'=w1∧∃e:Nat,n=(e:Int)∧m≤e∧e≤b∧(∀y∈seg es m e i,∃r,y.1=UInt8.ofNat x :: r),fun n _=>((b:Int) - n).toNat,⟨rfl,m,rfl,Nat.le_refl _,hmb,by rw [Z9Q]; intro y hy; cases hy⟩,?_⟩
    rintro _ _ w1 ⟨rfl,e,rfl,he1,he2,hrun⟩
    refine ⟨fun heb=>?_,fun heb=>⟨rfl,e,rfl,he1,he2,hrun,by rw [show e=b by omega,Z9Q]; intro y hy; cases hy⟩⟩
    have heb':e < b:=by omega
    have hel:e < es.length:=by omega
    have hei:=hok.len e hel (by omega) heb'
    have hepl:=hE.paths _ (List.getElem_mem hel)
    have hgee:=hge _ (ZBS (i:=i) hbl he1 heb')
    have hok_e:Z83 es e b i:=⟨heb',hbl,fun j hj q1 q2=>hok.len j hj (by omega) q2⟩
    obtain ⟨op,cp,pb,pf,o,k,h1,rfl,h2',h3,h4,h5⟩:=B1.path hel hei
    cases hdd:es[e].1.drop i with
    | nil=>simp only [hdd] at hgee; exact hgee.elim
    | cons c r =>
      have hile:i < es[e].1.length:=by
       have:=congrArg List.length hdd
       rw [List.length_drop] at this
       simp at this; omega
      have hci:es[e].1[i]=c:=by
       have:=List.drop_eq_getElem_cons hile
       rw [hdd] at this
       exact (List.cons.inj this).1.symm
      obtain ⟨qb,qf,rfl,hqb,hqc⟩:=Z1w h4.rd hile
      rw [hci] at hqc
      have hc256:c.toNat < 256:=c.toNat_lt
      refine ⟨_,_,_,h1,_,rfl,⟨by omega,by omega⟩,_,_,_,by rw [Z6,Int.toNat_natCast]; exact h2',_,rfl,⟨by omega,by omega⟩,_,by rw [Z6]; exact hqc,fun hq=>?_,fun hq=>?_⟩
      ·rw [Z0 (by omega) (by omega)] at hq
       have hcx:c=UInt8.ofNat x:=by apply UInt8.toNat_inj.1; rw [hxb]; omega
       refine ⟨⟨rfl,e+1,by rw [Z0 (by omega) (by omega)]; omega,by omega,by omega,?_⟩,by dsimp only; rw [Z0 (by omega) (by omega)]; omega⟩
       intro y hy
       rw [Z3d he1 (Nat.le_succ e)] at hy
       rcases List.mem_append.1 hy with hy | hy
       ·exact hrun y hy
       ·obtain ⟨j,hj,q1,q2,rfl⟩:=ZBe (by omega) hy
        obtain rfl:j=e:=by omega
        exact ⟨r,by rw [hdd,hcx]⟩
      ·rw [Z0 (by omega) (by omega)] at hq
       refine ⟨rfl,e,rfl,he1,he2,hrun,?_⟩
       rw [Z5n hok_e]
       rintro y hy c' r' hy1
       cases hy
       simp only [hdd] at hy1
       cases hy1
       omega
   ·rintro _ _ w1 ⟨rfl,e,rfl,he1,he2,hrun,hstop⟩
    have hspl:seg es a b i=seg es a m i++(seg es m e i++seg es e b i):=by rw [← Z3d he1 he2,← Z3d hma hmb]
    have hpw:(seg es m b i).Pairwise (fun x y=>ltB x.1 y.1):=by
     have:=hR.1
     rw [Z3d hma hmb] at this
     exact (List.pairwise_append.1 this).2.1
    have hge':=ZH4 hpw (Z3d he1 he2) hge hstop
    have hkid:=hR.kid ⟨x,hx'⟩ hspl hlt hrun hge'
    rw [← ZEf] at hkid
    have hlt':∀y∈seg es a e i,Z7S (x+1) y.1:=by
     intro y hy
     rw [Z3d hma he1] at hy
     rcases List.mem_append.1 hy with hy | hy
     ·exact ZBM (hlt y hy) (Nat.le_succ x)
     ·obtain ⟨r,hr⟩:=hrun y hy
      rw [hr]
      show (UInt8.ofNat x).toNat < x+1
      omega
    have epay:pay (x+1)=pay x++enc (Z5G (cs ⟨x,hx'⟩)):=by
     simp only [pay]
     rw [ZC9 hx',List.map_append,encs_append]
     simp only [List.map_cons,List.map_nil,Z1s,List.append_nil]
     rfl
    have eout:outs (x+1)=Z1b (cs ⟨x,hx'⟩) false (outs x):=by
     simp only [outs]
     rw [ZC9 hx',List.foldl_append]
     rfl
    have ewx:IntKind.wrap .i64 ((x:Int)+1)=((x+1:Nat):Int):=by rw [Z0 (by omega) (by omega)]; omega
    rw [ewx]
    have hpx:=hpay x
    refine ⟨fun hem=>?_,fun hem=>?_⟩
    ·obtain rfl:e=m:=by omega
     rw [Z9Q] at hkid
     have hnil:=hkid.nil_inv (hc.1 _)
     rintro d w2 ⟨rfl,rfl⟩
     have M2:=Mod.alloc (S:=NoB) w1 (.cells #[.int .u8 128] 5)
     have r2:=ZEQ w1
     have B2:=B1.mod' M2 5
     have s2:Stp NoS w1 L1 _ (ext L1 w1.heap.size 5):=Stp.of_nob M2 5
     have O2:=O1.stp s2 (fun h=>h)
     generalize w1.alloc (.cells #[.int .u8 128] 5)=w2 at *
     generalize ext L1 w1.heap.size 5=L2 at *
     obtain ⟨o5,k5,w5,hr5,O5,s5⟩:=Z6w (ty:=Z07) (k2:=1) O2 r2 (by simp; omega)
     have B5:=B2.stp s5 (by omega) (by omega) (by omega) (by omega) (by omega)
     have e128:enc (Z5G .nil)=[128]:=by
      unfold Z5G Z3C
      rw [if_neg (by simp [Z2B,enc,own,Trie.Z2q])]
      exact Z9s
     rw [hnil,e128] at epay
     rw [hnil] at eout
     simp only [Z1b] at eout
     refine ⟨_,w5,hr5,_,_,_,rfl,⟨x+1,e,rfl,by omega,rfl,hma,hmb,hlt',hge',by rw [epay,List.length_append],_,(s1.trans (s2.mono (fun _ h=>h.elim))).trans (s5.mono (fun k h=>.inr (.inr (by omega)))),by rw [eout]; exact B5,?_⟩,by dsimp only; omega⟩
     rw [epay]; exact O5
    ·have hme:m < e:=by omega
     have hok_k:Z83 es m e (i+1):=by
      refine ⟨hme,by omega,fun j hj q1 q2=>?_⟩
      obtain ⟨r,hr⟩:=hrun _ (ZBS (i:=i) (by omega:e≤es.length) q1 q2)
      have:=congrArg List.length hr
      simp only [List.length_drop,List.length_cons] at this
      omega
     have ewi:IntKind.wrap .i64 ((i:Int)+1)=((i+1:Nat):Int):=by rw [Z0 (by omega) (by omega)]; omega
     rw [ewi]
     have hsum:=ZFi (f:=fun i=>cnt (cs i)) hx'
     have hlen:=Z5U (cs:=cs) (fun i out=>Z2s (cs i) false out) ((List.finRange 16).take x) out
     have hcnt:cnt (.branch cs v)=1+((List.finRange 16).map fun i=>cnt (cs i)).sum:=rfl
     refine (hRef ⟨x,hx'⟩ B1 hE hok_k hkid (by show (outs x).length+_≤_; simp only [outs]; omega)).mono ?_
     rintro _ w4 ⟨o4,k4,rfl,L4,s4,B4,x4⟩
     have O4:=O1.stp s4 (by rintro (h | h | h) <;> omega)
     have q2:=ZCc (cs ⟨x,hx'⟩)
     obtain ⟨o5,k5,w5,hr5,O5,s5⟩:=Z6w (ty:=Z07) (k2:=k4) O4 x4.rd (by omega)
     have B5:=B4.stp s5 (by omega) (by omega) (by omega) (by omega) (by omega)
     refine ⟨_,_,_,rfl,_,w5,hr5,_,_,_,rfl,⟨x+1,e,rfl,by omega,rfl,by omega,he2,hlt',hge',by rw [epay,List.length_append],_,(s1.trans (s4.mono (fun k h=>by rcases h with h | h | h; exact .inl h; exact .inr (.inl h); exact .inr (.inr (by omega))))).trans (s5.mono (fun k h=>.inr (.inr (by omega)))),by rw [eout]; exact B5,?_⟩,by dsimp only; omega⟩
     rw [epay]; exact O5
  ·obtain rfl:x=16:=by omega
   have hval1:=hval.stp s1 ZF9.2.1
   have hvl:v.length≤1024:=by
    by_cases hv0:v=[]
    ·rw [hv0]; simp
    ·have:=(hR.2 [] v).1 (by rw [Zh,if_neg hv0])
     obtain ⟨j,hj,_,_,he⟩:=ZBe hbl this
     have:=hE.vals _ (List.getElem_mem hj)
     rw [← (Prod.mk.inj he).2] at this
     exact this
   refine (Z4Y (k:=c133) hval1.rd (by omega)).mono ?_
   rintro _ w2 ⟨o2,k2,rfl,F2⟩
   have B2:=B1.mod' F2.mod 5
   have s2:Stp NoS w1 L1 w2 (ext L1 w1.heap.size 5):=Stp.of_nob F2.mod 5
   have O2:=O1.stp s2 (fun h=>h)
   generalize ext L1 w1.heap.size 5=L2 at *
   have q1:=Z2Y v
   have hp16:=hpay 16
   obtain ⟨o5,k5,w5,hr5,O5,s5⟩:=Z6w (ty:=Z07) (k2:=k2) O2 (ZQ F2) (by omega)
   have B5:=B2.stp s5 (by omega) (by omega) (by omega) (by omega) (by omega)
   generalize ext L2 w2.heap.size (8+i)=L5 at *
   refine ⟨_,_,_,rfl,_,w5,hr5,_,_,_,rfl,?_⟩
   have hL:=Z3v (k:=k5) O5.own.bytes (by rw [List.length_append]; omega)
   rw [List.length_append] at hL
   refine hL.mono ?_
   rintro _ w6 ⟨o6,k6,rfl,F6⟩
   have e6:Trie.Z2q ((pay 16).length+(enc (.s v)).length) 192++(pay 16++enc (.s v))=bytesOf (.branch cs v):=by
    simp only [bytesOf,Z2B,pay]
    rw [List.take_of_length_le (by simp),enc_l,encs_append]
    simp only [Z1s,List.append_nil,List.length_append]
   rw [e6] at F6 ⊢
   have eo:outs 16=kidsN (.branch cs v) out:=by simp only [outs,kidsN]; rw [List.take_of_length_le (by simp)]
   rw [eo] at B5
   refine ⟨_,_,_,rfl,hR' _ _ ⟨o6,k6,rfl,_,?_,B5.mod' F6.mod 5,Z2x F6 (Mod.refl _),F6.own.cap.1⟩⟩
   have s6:Stp NoS w5 L5 w6 (ext L5 w5.heap.size 5):=Stp.of_nob F6.mod 5
   exact ((((sM.mono (fun _ h=>h.elim)).trans s1).trans (s2.mono (fun _ h=>h.elim))).trans (s5.mono (fun k h=>.inr (.inr (by omega))))).trans (s6.mono (fun _ h=>h.elim))
theorem ZBO:∀(n:Nd),Z1p n→Z60 n→n≠.nil→ZDV n∧ZHV n
 | .nil,_,_,h=>(h rfl).elim
 | .leaf p v,hc,hs,hn=>⟨Z8X p v,ZEb (Z8X p v) hn hs⟩
 | .row p c,hc,hs,hn=>by
   have hcn:c≠.nil:=by rintro rfl; exact hc.2.2.1
   have hI:=ZE8 (ZBO c hc.2.2.2 hs.2 hcn).2 hc
   exact ⟨hI,ZEb hI hn hs⟩
 | .branch cs v,hc,hs,hn=>by
   have hk:∀i,ZHV (cs i):=fun i=>by
    by_cases hcn:cs i=.nil
    ·rw [hcn]
     intro w L d0 a b j es out hB hE hok hR hl
     have:=congrArg List.length (show seg es a b j=[] from by
      cases hs:seg es a b j with
      | nil=>rfl
      | cons y r=>exact absurd rfl (hR.ne (by rw [hs]; simp)))
     rw [Z6I hok.le] at this
     have:=hok.lt
     simp at *; omega
    ·exact (ZBO (cs i) (hc.1 i) (hs.2 i) hcn).2
   have hI:=ZAI hk hc
   exact ⟨hI,ZEb hI hn hs⟩
end Go.Proofs.YtfghidehlnfdiaaGreat
end
