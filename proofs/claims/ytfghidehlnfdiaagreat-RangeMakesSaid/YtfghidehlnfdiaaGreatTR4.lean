/- Contracts: items of nodes. -/
/- Rows of items that grow; a branch's item. -/
/- Nodes in memory under other labels; contracts: Get. -/
/- Contracts: put. -/
/- The verification conditions of some functions, printed by a program of ours (wip/PrintVc.lean). -/
/- Contracts: remove, pruned. -/
/- Hashes as keys of maps; rows of nodes with their hashes. -/
/- Contracts: Nodes, its closure. -/
/- Contracts: New, Empty, Root, Put, Delete, Nodes. -/
/- Contracts: Nodes; bounds on how many nodes there are. -/
/- Contracts: Nodes. -/
/- Sorted entries and the canonical trie that they make: plain Lean. -/
/- Contracts of the reference: comparison, heads, strings, lists, nibbles. -/
/- Contracts of the reference: Pack; a node that is laid down. -/
/- Contracts of the reference: what a build holds; a node that is laid down. -/
import Derived.Test.YtfghidehlnfdiaaGreatTP9
import Derived.Test.YtfghidehlnfdiaaGreatTV
import Derived.Test.YtfghidehlnfdiaaGreatProg
import Derived.KernelRfl
import Derived.Maps.Keyed
import Derived.DeepKeys5
import Derived.Test.YtfghidehlnfdiaaGreatXClr
set_option linter.unusedVariables false
set_option linter.unusedSimpArgs false
open Array renaming getElem?_toList->JA,length_toList->E,replicate->J1,size->Jm
open Bool renaming eq_iff_iff->Jv,false->JD,true->Ji
open Go renaming Calls->J0,Ending->JM,TypeId->Jj,World->V,maxLen->Q5
open Go.Builtin renaming append->J4
open Go.Ending renaming returned->Y
open Go.Instr renaming storeAt->JJ
open Go.IntKind renaming i64->I,u8->K,wrap->G
open Go.Obj renaming cells->JF
open Go.Proofs.Tryz renaming prog->J
open Go.Result renaming ok->JV
open Go.Sem renaming run->U
open Go.Value renaming agg->JH,bool->Q6,pointer->J7,tuple->JO
open Go.World renaming cell?->Jh,cell?_of_block->JL
open Int renaming tdiv->Jb,tmod->JK,toNat->JI,toNat_natCast->J5
open List renaming any_map->Q1,append_assoc->Jq,cons_append->JS,drop_eq_getElem_cons->JB,drop_left->JY,drop_of_length_le->JG,drop_succ_cons->Jl,drop_zero->Jx,finRange->JN,getD_eq_getElem?_getD->JX,getElem?_append_left->JC,getElem?_append_right->J9,getElem?_eq_getElem->W,getElem?_eq_none->Je,getElem?_toArray->JQ,getElem_cons_zero->Jd,getElem_mem->Jc,length->Q4,length_append->Q,length_cons->JR,length_drop->Jr,length_take->Js,map_cons->Jy,mem_append->Ju,mem_map->Q2,mem_of_getLast?->Jk,mem_singleton->Jn,pairwise_cons->Jo,pairwise_map->Jp,sum_cons->Jz,take_add_one->J6,take_append_drop->Jf,take_length->Jt,take_of_length_le->JE
open Nat renaming add_comm->Q3,le_refl->Ja,lt_of_lt_of_le->JP,sub_zero->Q0,zero_add->JW,zero_le->JT
open Option renaming none->J2,some->O
open UInt8 renaming le_iff_toNat_le->Jg,lt_irrefl->JU,lt_trans->Jw,ofFin->J8,ofNat->J3,toNat_ofNat'->JZ
section
namespace Go.Proofs.YtfghidehlnfdiaaGreat
open Go Go.Vcg Go.Trie
section
variable{C:Type}{S:C->Prop}{w0 w w1 w':V}{lab lab':Nat->C}{c:C}
theorem ret3{A A':Nat->Prop}{N:Nat}{x:It}{v1 v2 v3 a b d:Value}{R:JM->V->Prop}(X:Blk w N 111 #[a,b,d])(hI:ItC A w x v1 v2 v3)(hN:A N)(hA:∀b,A' b->A b)
  (hR:∀w',Vcg.Mod (·=N) w w'->ItC A' w' x v1 v2 v3->R (Y (JH #[v1,v2,v3])) w') :
  Z1 w ⟨N,0,J2⟩ v1/\∀w1:V,Z8 w ⟨N,0,J2⟩ v1 w1->Z1 w1 ⟨N,1,J2⟩ v2/\∀w2:V,Z8 w1 ⟨N,1,J2⟩ v2 w2->Z1 w2 ⟨N,2,J2⟩ v3/\∀w3:V,Z8 w2 ⟨N,2,J2⟩ v3 w3 ->
   ∃b6:Bool,∃o7:Option Addr,∃l8:Nat,∃l9:Nat,∃o10:Option Addr,∃l11:Nat,∃l12:Nat,Jh w3 ⟨N,0,J2⟩=O (.bool b6)/\Jh w3 ⟨N,1,J2⟩=O (.slice o7 l8 l9)/\Jh w3 ⟨N,2,J2⟩=O (.slice o10 l11 l12) /\
   R (Y (JH #[(.bool b6),(.slice o7 l8 l9),(.slice o10 l11 l12)])) w3:=by
 obtain⟨b7,p7,q7,r7,p8,q8,r8,rfl,rfl,rfl⟩:=hI.vals;refine⟨X.canSet (by simp) rfl,?_⟩;rintro _ rfl;have X7:=X.set 0 (.bool b7);have Q7:Vcg.Mod (·=N) w _:=Mod.setCell w ⟨N,0,J2⟩ (.bool b7);refine⟨X7.canSet (by simp) rfl,?_⟩;rintro _ rfl;have X8:=X7.set 1 (.slice p7 q7 r7);have Q8:=Q7.step_set (a:=⟨N,1,J2⟩) (v:=.slice p7 q7 r7) (fun _=>rfl);refine⟨X8.canSet (by simp) rfl,?_⟩;rintro _ rfl;have X9:=X8.set 2 (.slice p8 q8 r8);have Q9:=Q8.step_set (a:=⟨N,2,J2⟩) (v:=.slice p8 q8 r8) (fun _=>rfl);exact⟨_,_,_,_,_,_,_,X9.rd1 rfl,X9.rd1 rfl,X9.rd1 rfl,hR _ Q9 (ItC.mono hA x (ItC.modA Q9 (fun b h=>by subst h;exact hN) x hI))⟩
end
end Go.Proofs.YtfghidehlnfdiaaGreat
end
section
namespace Go.Proofs.YtfghidehlnfdiaaGreat
open Go Go.Vcg Go.Trie
section
variable{C:Type}{S:C->Prop}{A:Nat->Prop}{w0 w w1 w':V}{lab lab':Nat->C}{c:C}
mutual
theorem ItC.old{w:V}:∀(x:It) {v1 v2 v3:Value},ItC A w x v1 v2 v3->ItC (fun b=>A b\/w.heap.size<=b) w x v1 v2 v3
 | .s b,_,_,_,h=>by
   simp only[ItC]at h ⊢;obtain⟨h1,⟨o,c,h2,h3,h5⟩,h4⟩:=h;refine⟨h1,⟨o,c,h2,h3,fun hne d hd hh=>?_⟩,h4⟩;rcases hh with hh|hh
   ·exact h5 hne d hd hh
   ·obtain⟨e,f,ho,he,_⟩:=h3 hne
    rw[ho]at hd;cases hd;exact absurd he (Nat.not_lt.2 hh)
 | .l xs,_,_,_,h=>by
   simp only[ItC]at h ⊢;obtain⟨h1,h2,o,c,h3,h4,h5⟩:=h;exact⟨h1,h2,o,c,h3,Z1X.old xs h4,h5⟩
theorem Z1X.old{w:V}:∀(xs:List It) {o:Option Addr} {k:Nat},Z1X A w xs o k->Z1X (fun b=>A b\/w.heap.size<=b) w xs o k
 |[],_,_,_=>by simp only[Z1X]
 |x::r,_,_,h=>by
  simp only[Z1X]at h ⊢;obtain⟨⟨b,f,v1,v2,v3,ho,hb,hB,h1,h2,h3,h4⟩,h5⟩:=h;exact⟨⟨b,f,v1,v2,v3,ho,hb,fun hh=>hh.elim hB (fun hh=>absurd hb (Nat.not_lt.2 hh)),h1,h2,h3,ItC.old x h4⟩,Z1X.old r h5⟩
end
theorem ZG3:∀(xs:List It) (k:Nat) {o:Option Addr},(∀j (hj:j<xs.length),∃g v1 v2 v3,o=O ⟨g,0,J2⟩/\g<w.heap.size/\¬A g/\w.cell? ⟨g,(k+j)*3,J2⟩=O v1/\w.cell? ⟨g,(k+j)*3+1,J2⟩=O v2/\w.cell? ⟨g,(k+j)*3+2,J2⟩=O v3/\ItC A w xs[j] v1 v2 v3)->Z1X A w xs o k
 |[],_,_,_=>by simp only[Z1X]
 |x::r,k,o,h=>by
  simp only[Z1X];constructor
  ·obtain⟨g,v1,v2,v3,a,b,d,e,f,h5,h6⟩:=h 0 (by simp)
   rw[Nat.add_zero]at e f h5;exact⟨g,0,v1,v2,v3,a,b,d,by rw[JW];exact e,by rw[JW];exact f,by rw[JW];exact h5,h6⟩
  ·refine ZG3 r (k+1) (fun j hj=>?_)
   obtain⟨g,v1,v2,v3,a,b,d,e,f,h5,h6⟩:=h (j+1) (by simpa using hj);rw[show k+(j+1)=k+1+j by omega]at e f h5;exact⟨g,v1,v2,v3,a,b,d,e,f,h5,h6⟩
end
end Go.Proofs.YtfghidehlnfdiaaGreat
end
section
namespace Go.Proofs.YtfghidehlnfdiaaGreat
open Go Go.Vcg Go.Trie
section
variable{C C':Type}{S:C->Prop}{w0 w w1 w':V}{lab lab2:Nat->C}{lab':Nat->C'}{c:C}{c':C'}
theorem CBy.re{o:Option Addr}{bs:By}(h:CBy w lab c o bs)(hl:∀k,k<w.heap.size->lab k=c->lab' k=c'):CBy w lab' c' o bs:=by
 refine⟨h.rd,fun hne d hd=>?_⟩;obtain⟨b,f,ho,hb,_⟩:=h.rd hne;rw[ho]at hd;cases hd;exact hl _ hb (h.clr hne _ ho)
theorem Z12(k:By):Nib (nibbles k):=by
 intro x hx;obtain⟨a,_,ha⟩:=List.mem_flatMap.1 hx
 have h1:(a>>>4).toNat<16:=by
  have:∀n:Fin 256,(J8 n>>>4).toNat<16:=by decide +kernel
  exact this a.toFin
 have h2:(a&&&15).toNat<16:=by
  have:∀n:Fin 256,(J8 n&&&15).toNat<16:=by decide +kernel
  exact this a.toFin
 simp only[List.mem_cons,List.mem_nil_iff,or_false]at ha;rcases ha with rfl|rfl
 ·exact h1
 ·exact h2
def says(r:Option By):By×Bool:=match r with
 |some v=>(v,Ji)
 |none=>([],JD)
end
end Go.Proofs.YtfghidehlnfdiaaGreat
end
section
namespace Go.Trie

end Go.Trie
end
section
namespace Go.Proofs.YtfghidehlnfdiaaGreat
open Go Go.Vcg Go.Trie
section
variable{C:Type}{S:C->Prop}{w0 w w1 w':V}{lab lab2:Nat->C}{c:C}
theorem Stp.same{C:Type}{w w':V}(M:Vcg.Mod NoB w w')(L:Nat->C):Stp NoS w L w' L:=⟨M.os,M.tape,M.output,M.size,fun _ _=>rfl,fun k hk _=>M.block k hk (fun h=>h)⟩
end
end Go.Proofs.YtfghidehlnfdiaaGreat
end
section
namespace Go.Proofs.YtfghidehlnfdiaaGreat
open Go Go.Vcg
abbrev Z05.n:Nat:=23
def Z05.Vc(a:Option Addr)(b c:Nat)(c:Option Addr)(d e:Nat)(w:V)(R:JM->V->Prop):Prop :=
 ∃(e:V->Prop),(∃(f:Int->V->Prop)(g:Int->V->Nat),f 0 w /\
 (∀(h:Int)(i:Nat->Value)(i:V),f h i ->
 ((h<(b:Int) ->
 ((h<(d:Int) ->
 ∀j,ZL i j ->
 ∃k,a=O k /\
 ((0:Int)<=h/\h<(b:Int)) /\
 ∃l,j.cell? (k.add h.toNat)=O (.int K l) /\
 ∃k,c=O k /\
 ((0:Int)<=h/\h<(d:Int)) /\
 ∃m,j.cell? (k.add h.toNat)=O (.int K m) /\
 ((l≠m ->
 ∀k,ZL j k ->
 ∃n,a=O n /\
 ((0:Int)<=h/\h<(b:Int)) /\
 ∃a,k.cell? (n.add h.toNat)=O (.int K a) /\
 ∃n,c=O n /\
 ((0:Int)<=h/\h<(d:Int)) /\
 ∃c,k.cell? (n.add h.toNat)=O (.int K c) /\
 ((a<c ->
 R (Y (.int I (-1))) k) /\
 (¬a<c ->
 R (Y (.int I 1)) k))) /\
 (l=m ->
 f (G I (h+1)) j/\g (G I (h+1)) j<g h i))) /\
 (¬h<(d:Int) ->
 e  i))) /\
 (¬h<(b:Int) ->
 e  i)))) /\
 (∀  (a:Nat->Value)(a:V),e  a ->
 (((b:Int)<(d:Int) ->
 R (Y (.int I (-1))) a) /\
 (¬(b:Int)<(d:Int) ->
 (((b:Int)>(d:Int) ->
 R (Y (.int I 1)) a) /\
 (¬(b:Int)>(d:Int) ->
 R (Y (.int I 0)) a)))))
theorem Z05.vc(a b c d e f w R)(h:Z05.Vc a b c d e f w R):J0 J 23 #[(.slice a b c),(.slice d e f)] w R:=xs [(1000008,[]),(2,[(5,.cell (.int I))])] [.slice a b c,.slice d e f] Tryz.func23 ZO (by kernel_rfl) h
abbrev Z0j.n:Nat:=114
def Z0j.Vc(a b:Int)(w:V)(R:JM->V->Prop):Prop :=
 ((b<=55 ->
 ∀c d,ZB w 5 #[.int K (G K (G I (a+b)))] c d ->
 R (Y (.slice (O c) 1 1)) d) /\
 (¬b<=55 ->
 ∃(c:Option Addr->Nat->Nat->Int->V->Prop)(d:Option Addr->Nat->Nat->Int->V->Nat),c J2 0 0 b w /\
 (∀(b:Option Addr)(e:Nat)(f:Nat)(g:Int)(h:Nat->Value)(h:V),c b e f g h ->
 ((g>0 ->
 ∀i j,ZB h 5 #[.int K (G K (JK g 256))] i j ->
 ∃k l,U J (builtinV J4 #[23,23] 23 #[.slice (O i) 1 1,.slice b e f]) j=JV k l /\
 ∃i j m,k=(.slice i j m) /\
 c i j m (G I (Jb g 256)) l/\d i j m (G I (Jb g 256)) l<d b e f g h) /\
 (¬g>0 ->
 ∀c d,ZB h 5 #[.int K (G K (G I ((G I (a+55))+(e:Int))))] c d ->
 ∃a g,U J (builtinV J4 #[23,23] 23 #[.slice (O c) 1 1,.slice b e f]) d=JV a g /\
 ∃b c d,a=(.slice b c d) /\
 R (Y (.slice b c d)) g)))))
theorem Z0j.vc(a b w R)(h:Z0j.Vc a b w R):J0 J 114 #[(.int I a),(.int I b)] w R:=xs [(5,[(5,.cell (.slice)),(6,.cell (.int I))])] [.int I a,.int I b] Tryz.func114 ZO (by kernel_rfl) h
abbrev Z0W.n:Nat:=109
def Z0W.Vc(a:Option Addr)(b c:Nat)(w:V)(R:JM->V->Prop):Prop :=
 (((b:Int)=1 ->
 ∃d,a=O d /\
 ((0:Int)<=0/\0<(b:Int)) /\
 ∃e,w.cell? (d.add 0)=O (.int K e) /\
 ((e<128 ->
 ∃d,a=O d /\
 ((0:Int)<=0/\0<(b:Int)) /\
 ∃f,w.cell? (d.add 0)=O (.int K f) /\
 ∀d g,ZB w 5 #[.int K f] d g ->
 R (Y (.slice (O d) 1 1)) g) /\
 (¬e<128 ->
 J0 J 114 #[.int I 128,.int I (b:Int)] w (fun d e =>
 ∃f g h,d=Y (.slice f g h) /\
 ∃d i,U J (builtinV J4 #[23,23] 23 #[.slice f g h,.slice a b c]) e=JV d i /\
 ∃e f g,d=(.slice e f g) /\
 R (Y (.slice e f g)) i)))) /\
 ((b:Int)≠1 ->
 J0 J 114 #[.int I 128,.int I (b:Int)] w (fun d e =>
 ∃f g h,d=Y (.slice f g h) /\
 ∃d i,U J (builtinV J4 #[23,23] 23 #[.slice f g h,.slice a b c]) e=JV d i /\
 ∃a b c,d=(.slice a b c) /\
 R (Y (.slice a b c)) i)))
theorem Z0W.vc(a b c w R)(h:Z0W.Vc a b c w R):J0 J 109 #[(.slice a b c)] w R:=xs [] [.slice a b c] Tryz.func109 ZO (by kernel_rfl) h
abbrev Z0i.n:Nat:=89
def Z0i.Vc(a:Option Addr)(b c:Nat)(w:V)(R:JM->V->Prop):Prop :=
 J0 J 114 #[.int I 192,.int I (b:Int)] w (fun d e =>
 ∃f g h,d=Y (.slice f g h) /\
 ∃d i,U J (builtinV J4 #[23,23] 23 #[.slice f g h,.slice a b c]) e=JV d i /\
 ∃a b c,d=(.slice a b c) /\
 R (Y (.slice a b c)) i)
theorem Z0i.vc(a b c w R)(h:Z0i.Vc a b c w R):J0 J 89 #[(.slice a b c)] w R:=xs [] [.slice a b c] Tryz.func89 ZO (by kernel_rfl) h
abbrev Z0g.n:Nat:=90
def Z0g.Vc(a:Option Addr)(b c:Nat)(w:V)(R:JM->V->Prop):Prop :=
 J0 J 109 #[.slice a b c] w (fun a b =>
 ∃c d e,a=Y (.slice c d e) /\
 R (Y (.slice c d e)) b)
theorem Z0g.vc(a b c w R)(h:Z0g.Vc a b c w R):J0 J 90 #[(.slice a b c)] w R:=xs [] [.slice a b c] Tryz.func90 ZO (by kernel_rfl) h
abbrev Z00.n:Nat:=54
def Z00.Vc(a:Option Addr)(b c:Nat)(w:V)(R:JM->V->Prop):Prop :=
 ∃(c:Option Addr->Nat->Nat->Int->V->Prop)(d:Option Addr->Nat->Nat->Int->V->Nat),c J2 0 0 0 w /\
 (∀(e:Option Addr)(f:Nat)(g:Nat)(h:Int)(i:Nat->Value)(i:V),c e f g h i ->
 ((h<(b:Int) ->
 ∀j,ZL i j ->
 ∃k,a=O k /\
 ((0:Int)<=h/\h<(b:Int)) /\
 ∃l,j.cell? (k.add h.toNat)=O (.int K l) /\
 ∃k,a=O k /\
 ((0:Int)<=h/\h<(b:Int)) /\
 ∃a,j.cell? (k.add h.toNat)=O (.int K a) /\
 ∀k m,ZB j 5 #[.int K (G K (Jb l 16)),.int K (JK a 16)] k m ->
 ∃a j,U J (builtinV J4 #[23,23] 23 #[.slice e f g,.slice (O k) 2 2]) m=JV a j /\
 ∃k l m,a=(.slice k l m) /\
 c k l m (G I (h+1)) j/\d k l m (G I (h+1)) j<d e f g h i) /\
 (¬h<(b:Int) ->
 R (Y (.slice e f g)) i)))
theorem Z00.vc(a b c w R)(h:Z00.Vc a b c w R):J0 J 54 #[(.slice a b c)] w R:=xs [(3,[(3,.cell (.slice)),(4,.cell (.int I))])] [.slice a b c] Tryz.func54 ZO (by kernel_rfl) h
abbrev Z0S.n:Nat:=88
def Z0S.Vc(a:Option Addr)(b c:Nat)(d:Bool)(w:V)(R:JM->V->Prop):Prop :=
 (((b:Int)>128 ->
 R (Y (JO #[.slice J2 0 0,.int I 140])) w) /\
 (¬(b:Int)>128 ->
 ∃(e:Int->V->Prop)(f:Int->V->Nat),e 0 w /\
 (∀(g:Int)(h:Nat->Value)(h:V),e g h ->
 ((g<(b:Int) ->
 ∃i,a=O i /\
 ((0:Int)<=g/\g<(b:Int)) /\
 ∃j,h.cell? (i.add g.toNat)=O (.int K j) /\
 ((j>15 ->
 R (Y (JO #[.slice J2 0 0,.int I 140])) h) /\
 (¬j>15 ->
 e (G I (g+1)) h/\f (G I (g+1)) h<f g h))) /\
 (¬g<(b:Int) ->
 ∃(e:Int->V->Prop),((d=Ji ->
 e 2 h) /\
 (d=JD ->
 e 0 h)) /\
 (∀(d:Int)(f:Nat->Value)(f:V),e d f ->
 ∀e g,ZB f 5 #[.int K d,.int K 0] e g ->
 ∃(f:Option Addr->Nat->Nat->V->Prop),(((JK (b:Int) 2)=1 ->
 ∀h i,ZB g 5 #[.int K (G K (d+1))] h i ->
 f (O h) 1 1 i) /\
 ((JK (b:Int) 2)≠1 ->
 f (O e) 2 2 g)) /\
 (∀(d:Option Addr)(e:Nat)(g:Nat)(h:Nat->Value)(h:V),f d e g h ->
 ∃f i,U J (builtinV J4 #[23,23] 23 #[.slice d e g,.slice a b c]) h=JV f i /\
 ∃a b c,f=(.slice a b c) /\
 ∃(c:Option Addr->Nat->Nat->Int->V->Prop)(d:Option Addr->Nat->Nat->Int->V->Nat),c J2 0 0 0 i /\
 (∀(e:Option Addr)(f:Nat)(g:Nat)(h:Int)(i:Nat->Value)(i:V),c e f g h i ->
 ((h<(b:Int) ->
 ∀j,ZL i j ->
 ∃k,a=O k /\
 ((0:Int)<=h/\h<(b:Int)) /\
 ∃l,j.cell? (k.add h.toNat)=O (.int K l) /\
 ∃k,a=O k /\
 ((0:Int)<=(G I (h+1))/\(G I (h+1))<(b:Int)) /\
 ∃a,j.cell? (k.add (JI (G I (h+1))))=O (.int K a) /\
 ∀k m,ZB j 5 #[.int K (G K ((G K (16*l))+a))] k m ->
 ∃a j,U J (builtinV J4 #[23,23] 23 #[.slice e f g,.slice (O k) 1 1]) m=JV a j /\
 ∃k l m,a=(.slice k l m) /\
 c k l m (G I (h+2)) j/\d k l m (G I (h+2)) j<d e f g h i) /\
 (¬h<(b:Int) ->
 R (Y (JO #[.slice e f g,.int I 0])) i))))))))))
theorem Z0S.vc(a b c d w R)(h:Z0S.Vc a b c d w R):J0 J 88 #[(.slice a b c),(.bool d)] w R:=xs [(4,[(6,.cell (.int I))]),(1000011,[(7,.cell (.int K))]),(1000014,[(8,.cell (.slice))]),(17,[(9,.cell (.slice)),(10,.cell (.int I))])] [.slice a b c,.bool (.var d)] Tryz.func88 ZO (by kernel_rfl) h
abbrev Zx.n:Nat:=40
def Zx.Vc  (w:V)(R:JM->V->Prop):Prop :=
 ∀a b,ZB w 27 (J1 32 (.int K 0)) a b ->
 ∀c d,ZB b 5 #[.int K 128] c d ->
 J0 J 56 #[.slice (O c) 1 1] d (fun b c =>
 ∃d,b=Y (JH d) /\
 ∃b,U J (JJ 27 (J7 (O a)) (JH d)) c=JV () b /\
 ∃c,ZH b a 32 c /\
 R (Y (JH c)) b)
theorem Zx.vc  (w:V)(R:JM->V->Prop)(h:Zx.Vc w R):J0 J 40 #[] w R :=
 Z0z (R:=⟨R,JD⟩) (ann:=[]) (args:=[]) Tryz.func40 ZO (Eq.mp (by kernel_rfl:Zx.Vc w R=Z4h (pA J ⟨R,JD⟩) J [] Tryz.f40 [] w) h)
abbrev ZM.n:Nat:=55
def ZM.Vc(a:Addr)(b c d:Int)(w:V)(R:JM->V->Prop):Prop :=
 ((c=(G I (b+1)) ->
 ∃e f g,w.cell? (a.add 1)=O (.slice e f g) /\
 ∃g,e=O g /\
 ((0:Int)<=b/\b<(f:Int)) /\
 ∃e f h,w.cell? (g.add b.toNat)=O (.slice e f h) /\
 ((0:Int)<=d/\d<=(f:Int)) /\
 J0 J 88 #[.slice (subO e h d.toNat 1) (f-d.toNat) (h-d.toNat),.bool Ji] w (fun e f =>
 ∃g h i j,e=Y (JO #[.slice g h i,.int I j]) /\
 ∀e,ZL f e ->
 ∃f j k,e.cell? a=O (.slice f j k) /\
 ∃l,f=O l /\
 ((0:Int)<=b/\b<(j:Int)) /\
 ∃m n o,e.cell? ((l.add (b.toNat*2)).add 1)=O (.slice m n o) /\
 J0 J 90 #[.slice g h i] e (fun e g =>
 ∃h i p,e=Y (.slice h i p) /\
 g.cell? ((l.add (b.toNat*2)).add 1)=O (.slice m n o) /\
 g.cell? a=O (.slice f j k) /\
 J0 J 90 #[.slice m n o] g (fun e f =>
 ∃g j k,e=Y (.slice g j k) /\
 ∃e l,U J (builtinV J4 #[23,23] 23 #[.slice h i p,.slice g j k]) f=JV e l /\
 ∃f g h,e=(.slice f g h) /\
 J0 J 89 #[.slice f g h] l (fun e f =>
 ∃g h i,e=Y (.slice g h i) /\
 R (Y (.slice g h i)) f))))) /\
 (c≠(G I (b+1)) ->
 ∃(e:Int->V->Prop),(∃(f:Int->V->Prop)(g:Int->V->Nat),f 0 w /\
 (∀(h:Int)(i:Nat->Value)(i:V),f h i ->
 ∀j,ZL i j ->
 ∃k l m,j.cell? (a.add 1)=O (.slice k l m) /\
 ∃m,k=O m /\
 ((0:Int)<=b/\b<(l:Int)) /\
 ∃k l n,j.cell? (m.add b.toNat)=O (.slice k l n) /\
 (((l:Int)>(G I (d+h)) ->
 ∃k m n,j.cell? (a.add 1)=O (.slice k m n) /\
 ∃n,k=O n /\
 ((0:Int)<=(G I (c-1))/\(G I (c-1))<(m:Int)) /\
 ∃k m o,j.cell? (n.add (JI (G I (c-1))))=O (.slice k m o) /\
 (((m:Int)>(G I (d+h)) ->
 ∃k n o,j.cell? (a.add 1)=O (.slice k n o) /\
 ∃o,k=O o /\
 ((0:Int)<=b/\b<(n:Int)) /\
 ∃k n p,j.cell? (o.add b.toNat)=O (.slice k n p) /\
 ∃o,k=O o /\
 ((0:Int)<=(G I (d+h))/\(G I (d+h))<(n:Int)) /\
 ∃k,j.cell? (o.add (JI (G I (d+h))))=O (.int K k) /\
 ∃n o p,j.cell? (a.add 1)=O (.slice n o p) /\
 ∃p,n=O p /\
 ((0:Int)<=(G I (c-1))/\(G I (c-1))<(o:Int)) /\
 ∃n o q,j.cell? (p.add (JI (G I (c-1))))=O (.slice n o q) /\
 ∃p,n=O p /\
 ((0:Int)<=(G I (d+h))/\(G I (d+h))<(o:Int)) /\
 ∃n,j.cell? (p.add (JI (G I (d+h))))=O (.int K n) /\
 ((k=n ->
 f (G I (h+1)) j/\g (G I (h+1)) j<g h i) /\
 (k≠n ->
 e h j))) /\
 (¬(m:Int)>(G I (d+h)) ->
 e h j))) /\
 (¬(l:Int)>(G I (d+h)) ->
 e h j)))) /\
 (∀(f:Int)(g:Nat->Value)(g:V),e f g ->
 ((f>0 ->
 ∃e h i,g.cell? (a.add 1)=O (.slice e h i) /\
 ∃i,e=O i /\
 ((0:Int)<=b/\b<(h:Int)) /\
 ∃e h j,g.cell? (i.add b.toNat)=O (.slice e h j) /\
 ((0:Int)<=(G I (d+f))/\(G I (d+f))<=(j:Int)) /\
 ((0:Int)<=d/\d<=(((JI (G I (d+f))):Nat):Int)) /\
 J0 J 88 #[.slice (subO e j d.toNat 1) ((JI (G I (d+f)))-d.toNat) (j-d.toNat),.bool JD] g (fun e h =>
 ∃i j k l,e=Y (JO #[.slice i j k,.int I l]) /\
 J0 J 90 #[.slice i j k] h (fun e h =>
 ∃i j k,e=Y (.slice i j k) /\
 J0 J 91 #[J7 (O a),.int I b,.int I c,.int I (G I (d+f))] h (fun e h =>
 ∃l m n,e=Y (.slice l m n) /\
 ∃e o,U J (builtinV J4 #[23,23] 23 #[.slice i j k,.slice l m n]) h=JV e o /\
 ∃h i j,e=(.slice h i j) /\
 J0 J 89 #[.slice h i j] o (fun e h =>
 ∃i j k,e=Y (.slice i j k) /\
 R (Y (.slice i j k)) h))))) /\
 (¬f>0 ->
 ∃(e:Int->Option Addr->Nat->Nat->V->Prop),(∃f h i,g.cell? (a.add 1)=O (.slice f h i) /\
 ∃i,f=O i /\
 ((0:Int)<=b/\b<(h:Int)) /\
 ∃f h j,g.cell? (i.add b.toNat)=O (.slice f h j) /\
 (((h:Int)=d ->
 ∃f i j,g.cell? a=O (.slice f i j) /\
 ∃j,f=O j /\
 ((0:Int)<=b/\b<(i:Int)) /\
 ∃f i k,g.cell? ((j.add (b.toNat*2)).add 1)=O (.slice f i k) /\
 e (G I (b+1)) f i k g) /\
 ((h:Int)≠d ->
 e b J2 0 0 g))) /\
 (∀(b:Int)(f:Option Addr)(g:Nat)(h:Nat)(i:Nat->Value)(i:V),e b f g h i ->
 ∃(e:Option Addr->Nat->Nat->Int->Int->V->Prop)(j:Option Addr->Nat->Nat->Int->Int->V->Nat),e J2 0 0 b 0 i /\
 (∀(b:Option Addr)(i:Nat)(k:Nat)(l:Int)(m:Int)(n:Nat->Value)(n:V),e b i k l m n ->
 ((m<16 ->
 ∃(o:Int->V->Prop),(∃(p:Int->V->Prop)(q:Int->V->Nat),p l n /\
 (∀(r:Int)(s:Nat->Value)(s:V),p r s ->
 ((r<c ->
 ∃t u v,s.cell? (a.add 1)=O (.slice t u v) /\
 ∃v,t=O v /\
 ((0:Int)<=r/\r<(u:Int)) /\
 ∃t u x,s.cell? (v.add r.toNat)=O (.slice t u x) /\
 ∃v,t=O v /\
 ((0:Int)<=d/\d<(u:Int)) /\
 ∃t,s.cell? (v.add d.toNat)=O (.int K t) /\
 (((G I t)=m ->
 p (G I (r+1)) s/\q (G I (r+1)) s<q r s) /\
 ((G I t)≠m ->
 o r s))) /\
 (¬r<c ->
 o r s)))) /\
 (∀(c:Int)(p:Nat->Value)(p:V),o c p ->
 ((c=l ->
 ∀o q,ZB p 5 #[.int K 128] o q ->
 ∃r s,U J (builtinV J4 #[23,23] 23 #[.slice b i k,.slice (O o) 1 1]) q=JV r s /\
 ∃o q t,r=(.slice o q t) /\
 e o q t c (G I (m+1)) s/\j o q t c (G I (m+1)) s<j b i k l m n) /\
 (c≠l ->
 J0 J 91 #[J7 (O a),.int I l,.int I c,.int I (G I (d+1))] p (fun a d =>
 ∃o p q,a=Y (.slice o p q) /\
 ∃a r,U J (builtinV J4 #[23,23] 23 #[.slice b i k,.slice o p q]) d=JV a r /\
 ∃d o p,a=(.slice d o p) /\
 e d o p c (G I (m+1)) r/\j d o p c (G I (m+1)) r<j b i k l m n))))) /\
 (¬m<16 ->
 J0 J 90 #[.slice f g h] n (fun a c =>
 ∃d e f,a=Y (.slice d e f) /\
 ∃a g,U J (builtinV J4 #[23,23] 23 #[.slice b i k,.slice d e f]) c=JV a g /\
 ∃b c d,a=(.slice b c d) /\
 J0 J 89 #[.slice b c d] g (fun a b =>
 ∃c d e,a=Y (.slice c d e) /\
 R (Y (.slice c d e)) b)))))))))))
theorem ZM.vc(a b c d w R)(h:ZM.Vc a b c d w R):J0 J 55 #[(J7 (O a)),(.int I b),(.int I c),(.int I d)] w R:=xs [(1000007,[(11,.cell (.int I))]),(5,[(11,.cell (.int I))]),(1000016,[(15,.cell (.int I)),(16,.cell (.slice))]),(17,[(14,.cell (.slice)),(15,.cell (.int I)),(17,.cell (.int I))]),(1000022,[(18,.cell (.int I))]),(20,[(18,.cell (.int I))])] [.addr a,.int I b,.int I c,.int I d] Tryz.func55 ZO (by kernel_rfl) h
abbrev Zl.n:Nat:=91
def Zl.Vc(a:Addr)(b c d:Int)(w:V)(R:JM->V->Prop):Prop :=
 J0 J 55 #[J7 (O a),.int I b,.int I c,.int I d] w (fun b c =>
 ∃d e f,b=Y (.slice d e f) /\
 (((e:Int)<32 ->
 R (Y (.slice d e f)) c) /\
 (¬(e:Int)<32 ->
 J0 J 56 #[.slice d e f] c (fun b c =>
 ∃g,b=Y (JH g) /\
 ∀b h,ZB c 27 (J1 32 (.int K 0)) b h ->
 ∃c,U J (JJ 27 (J7 (O b)) (JH g)) h=JV () c /\
 ∃g,ZH c b 32 g /\
 J0 J 57 #[J7 (O a),JH g,.slice d e f] c (fun a c =>
 a=Y (JO #[]) /\
 ∃a d,U J (builtinV J4 #[23,23] 23 #[.slice J2 0 0,.slice (O b) 32 32]) c=JV a d /\
 ∃b c e,a=(.slice b c e) /\
 J0 J 90 #[.slice b c e] d (fun a b =>
 ∃c d e,a=Y (.slice c d e) /\
 R (Y (.slice c d e)) b))))))
theorem Zl.vc(a b c d w R)(h:Zl.Vc a b c d w R):J0 J 91 #[(J7 (O a)),(.int I b),(.int I c),(.int I d)] w R:=xs [] [.addr a,.int I b,.int I c,.int I d] Tryz.func91 ZO (by kernel_rfl) h
abbrev Zd.n:Nat:=57
def Zd.Vc(a:Addr)(b:Array Value)(c:Option Addr)(d e:Nat)(w:V)(R:JM->V->Prop):Prop :=
 ∀f g,ZB w 27 b f g ->
 ∃(b:V->Prop),(∃(h:Int->V->Prop)(i:Int->V->Nat),h 0 g /\
 (∀(g:Int)(j:Nat->Value)(j:V),h g j ->
 ∃k l m,j.cell? (a.add 2)=O (.slice k l m) /\
 ((g<(l:Int) ->
 ∃k,j.cell? (a.add 3)=O (.bool k) /\
 ((k=JD ->
 ∀m,ZL j m ->
 ∃n o p,m.cell? (a.add 2)=O (.slice n o p) /\
 ∃p,n=O p /\
 ((0:Int)<=g/\g<(o:Int)) /\
 ∃n,ZH m (p.add (g.toNat*33)) 32 n /\
 ∃o,ZH m f 32 o /\
 ∃p,U J (Z0Z .eql 27 (.tmp 30) (.tmp 31) (JH n) (JH o)) m=JV p m /\
 ∃n,p=(.bool n) /\
 ((n=Ji ->
 R (Y (JO #[])) m) /\
 (n=JD ->
 h (G I (g+1)) m/\i (G I (g+1)) m<i g j))) /\
 (k=Ji ->
 b  j))) /\
 (¬g<(l:Int) ->
 b  j)))) /\
 (∀  (g:Nat->Value)(g:V),b  g ->
 ∀b,ZL g b ->
 ∃g h i,b.cell? (a.add 2)=O (.slice g h i) /\
 ∃j,ZH b f 32 j /\
 Jm j=32 /\
 Jm (setsAt (lputL #[.int K 0,.int K 0,.int K 0,.int K 0,.int K 0,.int K 0,.int K 0,.int K 0,.int K 0,.int K 0,.int K 0,.int K 0,.int K 0,.int K 0,.int K 0,.int K 0,.int K 0,.int K 0,.int K 0,.int K 0,.int K 0,.int K 0,.int K 0,.int K 0,.int K 0,.int K 0,.int K 0,.int K 0,.int K 0,.int K 0,.int K 0,.int K 0,.slice J2 0 0] 0 32 j) 32 [.slice c d e])=33 /\
 ∀f k,ZB b 62 (lputL #[.int K 0,.int K 0,.int K 0,.int K 0,.int K 0,.int K 0,.int K 0,.int K 0,.int K 0,.int K 0,.int K 0,.int K 0,.int K 0,.int K 0,.int K 0,.int K 0,.int K 0,.int K 0,.int K 0,.int K 0,.int K 0,.int K 0,.int K 0,.int K 0,.int K 0,.int K 0,.int K 0,.int K 0,.int K 0,.int K 0,.int K 0,.int K 0,.slice J2 0 0] 0 33 (setsAt (lputL #[.int K 0,.int K 0,.int K 0,.int K 0,.int K 0,.int K 0,.int K 0,.int K 0,.int K 0,.int K 0,.int K 0,.int K 0,.int K 0,.int K 0,.int K 0,.int K 0,.int K 0,.int K 0,.int K 0,.int K 0,.int K 0,.int K 0,.int K 0,.int K 0,.int K 0,.int K 0,.int K 0,.int K 0,.int K 0,.int K 0,.int K 0,.int K 0,.slice J2 0 0] 0 32 j) 32 [.slice c d e])) f k ->
 k.cell? (a.add 2)=O (.slice g h i) /\
 ∃b c,U J (builtinV J4 #[28,28] 28 #[.slice g h i,.slice (O f) 1 1]) k=JV b c /\
 ∃d e f,b=(.slice d e f) /\
 Z1 c (a.add 2) (.slice d e f)/\∀b,Z8 c (a.add 2) (.slice d e f) b ->
 R (Y (JO #[])) b)
theorem Zd.vc(a b c d e w R)(h:Zd.Vc a b c d e w R):J0 J 57 #[(J7 (O a)),(JH b),(.slice c d e)] w R:=xs [(1000005,[]),(2,[(6,.cell (.int I))])] [.addr a,.big 32 b,.slice c d e] Tryz.func57 ZO (by kernel_rfl) h
abbrev Z0t.n:Nat:=8
def Z0t.Vc(a:Option Addr)(b c:Nat)(w:V)(R:JM->V->Prop):Prop :=
 ∀d e,ZB w 27 (J1 32 (.int K 0)) d e ->
 J0 J 24 #[.slice a b c,.bool JD] e (fun a b =>
 ∃c e f g,a=Y (JO #[JH c,.slice e f g]) /\
 ∃a,U J (JJ 27 (J7 (O d)) (JH c)) b=JV () a /\
 ∃b,ZH a d 32 b /\
 R (Y (JO #[JH b,.slice e f g])) a)
theorem Z0t.vc(a b c w R)(h:Z0t.Vc a b c w R):J0 J 8 #[(.slice a b c)] w R:=xs [] [.slice a b c] Tryz.func8 ZO (by kernel_rfl) h
abbrev Z0T.n:Nat:=24
def Z0T.Vc(a:Option Addr)(b c:Nat)(d:Bool)(w:V)(R:JM->V->Prop):Prop :=
 ∀e f,ZB w 27 (J1 32 (.int K 0)) e f ->
 (((b:Int)=0 ->
 J0 J 40 #[] f (fun g h =>
 ∃i,g=Y (JH i) /\
 ∃g,U J (JJ 27 (J7 (O e)) (JH i)) h=JV () g /\
 ∃h,ZH g e 32 h /\
 R (Y (JO #[JH h,.slice J2 0 0])) g)) /\
 ((b:Int)≠0 ->
 ∀g h,ZB f 118 #[.slice a b c,.slice J2 0 0,.slice J2 0 0,.bool d] g h ->
 ∃(c:Int->V->Prop)(d:Int->V->Nat),c 0 h /\
 (∀(f:Int)(h:Nat->Value)(h:V),c f h ->
 ((f<(b:Int) ->
 ∀i,ZL h i ->
 ∃j k l,i.cell? (g.add 1)=O (.slice j k l) /\
 ∃m,a=O m /\
 ((0:Int)<=f/\f<(b:Int)) /\
 ∃a n o,i.cell? (m.add (f.toNat*2))=O (.slice a n o) /\
 J0 J 54 #[.slice a n o] i (fun a i =>
 ∃m n o,a=Y (.slice m n o) /\
 i.cell? (g.add 1)=O (.slice j k l) /\
 ∀a p,ZB i 23 #[.slice m n o] a p ->
 p.cell? (g.add 1)=O (.slice j k l) /\
 ∃i m,U J (builtinV J4 #[31,31] 31 #[.slice j k l,.slice (O a) 1 1]) p=JV i m /\
 ∃a j k,i=(.slice a j k) /\
 Z1 m (g.add 1) (.slice a j k)/\∀i,Z8 m (g.add 1) (.slice a j k) i ->
 c (G I (f+1)) i/\d (G I (f+1)) i<d f h)) /\
 (¬f<(b:Int) ->
 J0 J 55 #[J7 (O g),.int I 0,.int I (b:Int),.int I 0] h (fun a b =>
 ∃c d f,a=Y (.slice c d f) /\
 J0 J 56 #[.slice c d f] b (fun a b =>
 ∃h,a=Y (JH h) /\
 ∀a i,ZB b 27 (J1 32 (.int K 0)) a i ->
 ∃b,U J (JJ 27 (J7 (O a)) (JH h)) i=JV () b /\
 ∃h,ZH b a 32 h /\
 J0 J 57 #[J7 (O g),JH h,.slice c d f] b (fun b c =>
 b=Y (JO #[]) /\
 ∀b,ZL c b ->
 ∃c,ZH b a 32 c /\
 ∃a d f,b.cell? (g.add 2)=O (.slice a d f) /\
 ∃h,U J (JJ 27 (J7 (O e)) (JH c)) b=JV () h /\
 h.cell? (g.add 2)=O (.slice a d f) /\
 ∃b,ZH h e 32 b /\
 R (Y (JO #[JH b,.slice a d f])) h))))))))
theorem Z0T.vc(a b c d w R)(h:Z0T.Vc a b c d w R):J0 J 24 #[(.slice a b c),(.bool d)] w R:=xs [(5,[(7,.cell (.int I))])] [.slice a b c,.bool (.var d)] Tryz.func24 ZO (by kernel_rfl) h
abbrev Z0I.n:Nat:=10
def Z0I.Vc(a:Option Addr)(b c:Nat)(w:V)(R:JM->V->Prop):Prop :=
 ∃(c:Option Addr->Nat->Nat->Int->V->Prop)(d:Option Addr->Nat->Nat->Int->V->Nat),c J2 0 0 0 w /\
 (∀(e:Option Addr)(f:Nat)(g:Nat)(h:Int)(i:Nat->Value)(i:V),c e f g h i ->
 ((h<(b:Int) ->
 ∀j,ZL i j ->
 ∃k,a=O k /\
 ((0:Int)<=h/\h<(b:Int)) /\
 ∃l,ZH j (k.add (h.toNat*33)) 32 l /\
 ∃m,a=O m /\
 ((0:Int)<=h/\h<(b:Int)) /\
 ∃a n o,j.cell? ((m.add (h.toNat*33)).add 32)=O (.slice a n o) /\
 ∃m p,U J (builtinV J4 #[23,23] 23 #[.slice J2 0 0,.slice a n o]) j=JV m p /\
 ∃a j n,m=(.slice a j n) /\
 ZH p (k.add (h.toNat*33)) 32 l /\
 Jm l=32 /\
 Jm (setsAt (lputL #[.int K 0,.int K 0,.int K 0,.int K 0,.int K 0,.int K 0,.int K 0,.int K 0,.int K 0,.int K 0,.int K 0,.int K 0,.int K 0,.int K 0,.int K 0,.int K 0,.int K 0,.int K 0,.int K 0,.int K 0,.int K 0,.int K 0,.int K 0,.int K 0,.int K 0,.int K 0,.int K 0,.int K 0,.int K 0,.int K 0,.int K 0,.int K 0,.slice J2 0 0] 0 32 l) 32 [.slice a j n])=33 /\
 ∀k m,ZB p 48 (lputL #[.int K 0,.int K 0,.int K 0,.int K 0,.int K 0,.int K 0,.int K 0,.int K 0,.int K 0,.int K 0,.int K 0,.int K 0,.int K 0,.int K 0,.int K 0,.int K 0,.int K 0,.int K 0,.int K 0,.int K 0,.int K 0,.int K 0,.int K 0,.int K 0,.int K 0,.int K 0,.int K 0,.int K 0,.int K 0,.int K 0,.int K 0,.int K 0,.slice J2 0 0] 0 33 (setsAt (lputL #[.int K 0,.int K 0,.int K 0,.int K 0,.int K 0,.int K 0,.int K 0,.int K 0,.int K 0,.int K 0,.int K 0,.int K 0,.int K 0,.int K 0,.int K 0,.int K 0,.int K 0,.int K 0,.int K 0,.int K 0,.int K 0,.int K 0,.int K 0,.int K 0,.int K 0,.int K 0,.int K 0,.int K 0,.int K 0,.int K 0,.int K 0,.int K 0,.slice J2 0 0] 0 32 l) 32 [.slice a j n])) k m ->
 ∃a j,U J (builtinV J4 #[34,34] 34 #[.slice e f g,.slice (O k) 1 1]) m=JV a j /\
 ∃k l m,a=(.slice k l m) /\
 c k l m (G I (h+1)) j/\d k l m (G I (h+1)) j<d e f g h i) /\
 (¬h<(b:Int) ->
 R (Y (.slice e f g)) i)))
theorem Z0I.vc(a b c w R)(h:Z0I.Vc a b c w R):J0 J 10 #[(.slice a b c)] w R:=xs [(3,[(3,.cell (.slice)),(4,.cell (.int I))])] [.slice a b c] Tryz.func10 ZO (by kernel_rfl) h
abbrev Z0R.n:Nat:=17
def Z0R.Vc(a:Option Addr)(b c:Nat)(c:Option Addr)(d e:Nat)(w:V)(R:JM->V->Prop):Prop :=
 (((b:Int)≠(d:Int) ->
 R (Y (.bool JD)) w) /\
 ((b:Int)=(d:Int) ->
 ∃(e:Int->V->Prop)(f:Int->V->Nat),e 0 w /\
 (∀(g:Int)(h:Nat->Value)(h:V),e g h ->
 ((g<(b:Int) ->
 ∀i,ZL h i ->
 ∃j,a=O j /\
 ((0:Int)<=g/\g<(b:Int)) /\
 ∃k,ZH i (j.add (g.toNat*33)) 32 k /\
 ∃j,c=O j /\
 ((0:Int)<=g/\g<(d:Int)) /\
 ∃l,ZH i (j.add (g.toNat*33)) 32 l /\
 ∃j,U J (Z0Z .neq 27 (.tmp 21) (.tmp 26) (JH k) (JH l)) i=JV j i /\
 ∃k,j=(.bool k) /\
 ((k=Ji ->
 R (Y (.bool JD)) i) /\
 (k=JD ->
 ∃j,a=O j /\
 ((0:Int)<=g/\g<(b:Int)) /\
 ∃a k l,i.cell? ((j.add (g.toNat*33)).add 32)=O (.slice a k l) /\
 ∃j,U J (convert 23 9 (.slice a k l)) i=JV j i /\
 ∃a,j=(.string a) /\
 ∃j,c=O j /\
 ((0:Int)<=g/\g<(d:Int)) /\
 ∃c d k,i.cell? ((j.add (g.toNat*33)).add 32)=O (.slice c d k) /\
 ∃j,U J (convert 23 9 (.slice c d k)) i=JV j i /\
 ∃c,j=(.string c) /\
 ((Z9V .neq a c=Ji ->
 R (Y (.bool JD)) i) /\
 (Z9V .neq a c=JD ->
 e (G I (g+1)) i/\f (G I (g+1)) i<f g h))))) /\
 (¬g<(b:Int) ->
 R (Y (.bool Ji)) h)))))
theorem Z0R.vc(a b c d e f w R)(h:Z0R.Vc a b c d e f w R):J0 J 17 #[(.slice a b c),(.slice d e f)] w R:=xs [(4,[(5,.cell (.int I))])] [.slice a b c,.slice d e f] Tryz.func17 ZO (by kernel_rfl) h
end Go.Proofs.YtfghidehlnfdiaaGreat
end
section
namespace Go.Trie
def ZCs(n:Nd):Prop:=∀k v,get n k=O v->k.length<=128/\v.length<=1024
theorem ZCs.row{q:By}{c:Nd}(h:ZCs (.row q c)):ZCs c:=fun k v hg=>by
 have:=h (q++k) v (by rw[Z16];exact hg);rw[Q]at this;exact⟨by omega,this.2⟩
theorem ZCs.kid{cs:Fin 16->Nd}{x:By}(h:ZCs (.branch cs x))(i:Fin 16):ZCs (cs i):=fun k v hg=>by
 have:=h (J3 i.val::k) v (by rw[Z0s];exact hg);simp only[JR]at this;exact⟨by omega,this.2⟩
theorem Z6v:∀{n:Nd},Z1c n->ZCs n->Z5u n
 | .nil,_,_=>trivial
 | .leaf p v,_,h=>h p v (by simp[get])
 | .row p c,hc,h=>by
   refine⟨?_,Z6v hc.2.2.2 h.row⟩;obtain⟨k,v,hk⟩:=Z54 hc.2.2.2 (by rintro rfl;exact hc.2.2.1);have:=(h (p++k) v (by rw[Z16];exact hk)).1;rw[Q]at this;omega
 | .branch cs x,hc,h=>by
   refine⟨?_,fun i=>Z6v (hc.1 i) (h.kid i)⟩;by_cases hx:x=[]
   ·simp[hx]
   ·exact(h [] x (by rw[ZY,if_neg hx])).2
theorem ZCs.put{n:Nd}{p x:By}(h:ZCs n)(hc:Z1c n)(hp:Nib p)(hx:x≠[])(hpl:p.length<=128)(hxl:x.length<=1024):ZCs (put n p x):=fun k v hg=>by
 rw[(Z8d hc hp hx).2.2.2 k]at hg;split at hg
 ·rename_i hk
  cases hg;exact⟨by rw[hk];exact hpl,hxl⟩
 ·exact h k v hg
end Go.Trie
end
section
namespace Go.Proofs.YtfghidehlnfdiaaGreat
open Go Go.Vcg Go.Trie
abbrev H32:={h:By // h.length=32}
instance:DecidableEq H32:=fun a b=>decidable_of_iff (a.1=b.1) Subtype.ext_iff.symm
def ZDq(h:H32):Value:=JH (hashA h.1)
theorem ZH6{a b:UInt8}(h:bV a=bV b):a=b:=by
 simp only[bV,Value.int.injEq,true_and]at h;exact UInt8.toNat_inj.1 (by exact_mod_cast h)
theorem Z7L{a b:By}(ha:a.length=32)(hb:b.length=32)(h:hashA a=hashA b):a=b:=by
 apply List.ext_getElem (by omega);intro i h1 h2;have hi:i<32:=by omega
 have e:=congrArg (fun x:Array Value=>x[i]?) h;simp only[hashA,ZE hi,Option.some.injEq]at e;have:=ZH6 e;simpa[JX,h1,h2]using this
theorem laidOut:laidOutB J=Ji:=by kernel_rfl
theorem Z4d:Tryz.prog.underlying tHash=O (.array 32 5):=by kernel_rfl
theorem ZAI{α β:Type}{f:α->Option β}:∀(l:List α),(∀x∈l,∃y,f x=O y)->∃ys,l.mapM f=O ys
 |[],_=>⟨[],rfl⟩
 |x::r,h=>by
  obtain⟨y,hy⟩:=h x (by simp);obtain⟨ys,hys⟩:=ZAI r (fun z hz=>h z (by simp[hz]));exact⟨y::ys,by rw[List.mapM_cons,hy,hys];rfl⟩
theorem ZE5{P:Program}{k e:Jj}{n:Nat}{q:IntKind}{v:Value}(hu:P.underlying k=O (.array n e))(hk:P.keyType k=Ji)(hf:v.formed P k=Ji)(hs:1<=P.types.size)(he:P.underlying e=O (.int q))(hc:P.cellsOf e=1)
  (hcl:v.cells.toList.length=P.cellsOf k) (hcells:∀i,i<n->∃m,v.cells.toList[i]?=O (.int q m)/\(Lit.int q m).wf=Ji):∃l,keyOf P k v=O l:=by
 obtain⟨d,hd⟩:∃d,P.types.size=d+1:=⟨P.types.size-1,by omega⟩;unfold keyOf;simp only[hu,hk,hf,Bool.and_self,if_true,hd,Program.keyLits,hcl]
 obtain⟨ys,hys⟩:=ZAI (f:=fun i=>P.keyLits (d+1) e ((v.cells.toList.drop (i*P.cellsOf e)).take (P.cellsOf e))) (List.range n) (fun i hi=>by
  obtain⟨m,h1,h2⟩:=hcells i (List.mem_range.1 hi)
  have e1:((v.cells.toList.drop (i*P.cellsOf e)).take (P.cellsOf e))=[.int q m]:=by
   rw[hc,Nat.mul_one]
   have hl:i<v.cells.toList.length:=by
    rcases Nat.lt_or_ge i v.cells.toList.length with h|h
    ·exact h
    ·rw[Je h]at h1;cases h1
   rw[W hl]at h1;rw[JB hl,Option.some.inj h1];rfl
  refine⟨[.int q m],?_⟩;rw[e1];simp only[Program.keyLits,he];exact if_pos ⟨trivial,h2⟩)
 simp only[Program.keyLits]at hys;refine⟨.string (keyBytes ys.flatten),?_⟩;rw[hys];rfl
theorem wf_u8(b:UInt8):(Lit.int K (b.toNat:Int)).wf=Ji:=by
 have:∀n:Fin 256,(Lit.int K ((J8 n).toNat:Int)).wf=Ji:=by decide +kernel
 exact this b.toFin
theorem Z8C:Tryz.prog.cellsOf tHash=32:=by kernel_rfl
theorem Z8H(h:H32):(ZDq h).cells=hashA h.1:=rfl
theorem Z7O:Z9Y J tHash ZDq (fun _=>True) where
 keyed:=Go.Maps.Keyed.of_law (deep_law_gate laidOut (of_decide_eq_true (by kernel_rfl)) (of_decide_eq_true (by kernel_rfl)) (by kernel_rfl) (by kernel_rfl))
 ok h _:=ZE5 Z4d (by kernel_rfl) (by simp only[ZDq,Value.formed,Z4d,Z8C,ZA];rfl) (of_decide_eq_true (by kernel_rfl)) Z5p (by kernel_rfl)
  (by rw[Z8H,E,ZA,Z8C]) (fun i hi=>⟨((h.1.getD i 0).toNat:Int),by rw[Z8H,JA];exact ZE hi,wf_u8 _⟩)
 inj a b h:=by
  simp only[ZDq,Value.agg.injEq]at h;exact Subtype.ext (Z7L a.2 b.2 h)
abbrev tNd:Jj:=48
abbrev Z2z:Jj:=34
theorem Z3A:Tryz.prog.underlying Z2z=O (.slice tNd):=by kernel_rfl
def ndA(h:By)(o:Option Addr)(l k:Nat):Array Value:=((hashA h).toList++[Value.slice o l k]).toArray
abbrev nd0:Array Value:=#[(.int K 0),(.int K 0),(.int K 0),(.int K 0),(.int K 0),(.int K 0),(.int K 0),(.int K 0),(.int K 0),(.int K 0),(.int K 0),(.int K 0),(.int K 0),(.int K 0),(.int K 0),(.int K 0),(.int K 0),(.int K 0),(.int K 0),(.int K 0),(.int K 0),(.int K 0),(.int K 0),(.int K 0),(.int K 0),(.int K 0),(.int K 0),(.int K 0),(.int K 0),(.int K 0),(.int K 0),(.int K 0),(.slice J2 0 0)]
theorem ZBI:(Tryz.prog.info? tNd).map (fun i=>(i.zero,i.size,i.bytes))=O (O (JH nd0),33,56):=by kernel_rfl
theorem Z4b(h:By)(o:Option Addr)(l k:Nat):(ndA h o l k).size=33:=by simp[ndA,ZA]
theorem ZCP{h:By}{o:Option Addr}{l k i:Nat}(hi:i<32):(ndA h o l k)[i]?=O (bV (h.getD i 0)):=by
 unfold ndA;rw[JQ,JC (by rw[E,ZA];exact hi),JA];exact ZE hi
theorem ZCO{h:By}{o:Option Addr}{l k:Nat}:(ndA h o l k)[32]?=O (.slice o l k):=by
 unfold ndA;rw[JQ,J9 (by rw[E,ZA];omega),E,ZA];rfl
theorem ZBO(h:By)(o:Option Addr)(l k:Nat):∀v∈(ndA h o l k).toList,v.oneCell'=Ji:=by
 intro v hv;simp only[ndA,Ju,Jn]at hv;rcases hv with hv|rfl
 ·exact Z2M h v hv
 ·rfl
theorem Z6p{Z:Array Value}(hZ:Z.size=33)(h:By)(s:Value):lputL Z 0 33 (setsAt (lputL Z 0 32 (hashA h)) 32 [s])=((hashA h).toList++[s]).toArray:=by
 have e1:(lputL Z 0 32 (hashA h)).size=33:=by unfold lputL;rw[ZX,hZ]
 have hh:(hashA h).toList.take 32=(hashA h).toList:=JE (by rw[E,ZA];omega);have hl:(hashA h).toList.length=32:=by rw[E,ZA]
 have e2:(setsAt (lputL Z 0 32 (hashA h)) 32 [s]).size=33:=by rw[ZX,e1]
 apply Array.ext_getElem?;intro i;have hr:(((hashA h).toList++[s]).toArray)[i]?=((hashA h).toList++[s])[i]?:=JQ ..;rw[hr];have e3:lputL Z 0 33 (setsAt (lputL Z 0 32 (hashA h)) 32 [s])=setsAt Z 0 ((setsAt (lputL Z 0 32 (hashA h)) 32 [s]).toList.take 33):=rfl;have ht:((setsAt (lputL Z 0 32 (hashA h)) 32 [s]).toList.take 33)=(setsAt (lputL Z 0 32 (hashA h)) 32 [s]).toList:=JE (by rw[E,e2];omega);rw[e3,ht,Zq _ _ _ _ (by rw[E,e2,hZ];omega),E,e2];by_cases hi:i<33
 ·rw[if_pos (by omega),Q0,JA,Zq _ _ _ _ (by rw[e1];simp)]
  by_cases h32:i=32
  ·subst h32
   rw[if_pos (by simp),J9 (by omega),hl]
  ·rw[if_neg (by simp;omega),JC (by omega)]
   unfold lputL;rw[hh,Zq _ _ _ _ (by omega),if_pos (by omega),Q0]
 ·rw[if_neg (by omega),Array.getElem?_eq_none (by omega),Je (by rw[Q,hl];simp;omega)]
section
variable{C:Type}{S:C->Prop}{w0 w w1 w':V}{lab lab':Nat->C}{c cb:C}
def ZS(w:V)(lab:Nat->C)(cb:C)(vs:List Value)(l:List (By×By)):Prop :=
 vs.length=l.length*33/\∀(j:Nat)(hj:j<l.length),l[j].1.length=32/\(∀i,i<32->vs[j*33+i]?=O (bV (l[j].1.getD i 0)))/\∃ob kb,vs[j*33+32]?=O (.slice ob l[j].2.length kb)/\CBy w lab cb ob l[j].2/\l[j].2.length<=kb
theorem ZS.nil(w:V)(lab:Nat->C)(cb:C):ZS w lab cb [] []:=⟨rfl,fun j hj=>absurd hj (by simp)⟩
theorem ZS.stp{vs:List Value}{l:List (By×By)}(h:ZS w lab cb vs l)(s:Stp S w lab w' lab')(hs:¬S cb):ZS w' lab' cb vs l :=
 ⟨h.1,fun j hj=>by obtain⟨h1,h2,ob,kb,h3,h4⟩:=h.2 j hj;exact⟨h1,h2,ob,kb,h3,h4.1.stp s hs,h4.2⟩⟩
theorem ZS.push{vs:List Value}{l:List (By×By)}{h b:By}{ob:Option Addr}{kb:Nat}(H:ZS w lab cb vs l)(hh:h.length=32)(hb:CBy w lab cb ob b)(hk:b.length<=kb) :
  ZS w lab cb (vs++(ndA h ob b.length kb).toList) (l++[(h,b)]):=by
 have hnl:(ndA h ob b.length kb).toList.length=33:=by rw[E,Z4b]
 refine⟨by rw[Q,hnl,H.1,Q];simp;omega,fun j hj=>?_⟩;rw[Q,List.length_singleton]at hj;have hv:=H.1;by_cases hl:j<l.length
 ·rw[List.getElem_append_left hl]
  obtain⟨h1,h2,ob,kb,h3,h4⟩:=H.2 j hl;exact⟨h1,fun i hi=>by rw[JC (by omega)];exact h2 i hi,ob,kb,by rw[JC (by omega)];exact h3,h4⟩
 ·obtain rfl:j=l.length:=by omega
  rw[List.getElem_append_right (Ja _)];simp only[Nat.sub_self,Jd];refine⟨hh,fun i hi=>?_,ob,kb,?_,hb,hk⟩
  ·rw[J9 (by omega),hv,show l.length*33+i-l.length*33=i by omega,JA]
   exact ZCP hi
  ·rw[J9 (by omega),hv,show l.length*33+32-l.length*33=32 by omega,JA]
   exact ZCO
def Z4g(w:V)(lab:Nat->C)(c cb:C)(l:List (By×By))(o:Option Addr)(n k:Nat):Prop :=
 n=l.length/\∃vs,COw w lab c tNd 33 o n k vs/\ZS w lab cb vs l
theorem Z4g.nil(w:V)(lab:Nat->C)(c cb:C):Z4g w lab c cb [] J2 0 0:=⟨rfl,[],COw.nil w lab c _ _,ZS.nil w lab cb⟩
theorem Z4g.stp{l:List (By×By)}{o:Option Addr}{n k:Nat}(h:Z4g w lab c cb l o n k)(s:Stp S w lab w' lab')(hs:¬S c)(hb:¬S cb):Z4g w' lab' c cb l o n k:=by
 obtain⟨h1,vs,h2,h3⟩:=h;exact⟨h1,vs,h2.stp s hs,h3.stp s hb⟩
theorem Z4g.push{l:List (By×By)}{o:Option Addr}{n k D:Nat}{h b:By}{ob:Option Addr}{kb:Nat}(H:Z4g w lab c cb l o n k)(hcb:cb≠c)(B:Blk w D tNd (ndA h ob b.length kb))(hh:h.length=32)(hb:CBy w lab cb ob b)(hk:b.length<=kb)(hl:l.length<=2^20) :
  ∃o' k' w',U J (builtinV J4 #[Z2z,Z2z] Z2z #[.slice o n k,.slice (O ⟨D,0,J2⟩) 1 1]) w=JV (.slice o' (n+1) k') w' /\
   Z4g w' (ext lab w.heap.size c) c cb (l++[(h,b)]) o' (n+1) k'/\Stp (·=c) w lab w' (ext lab w.heap.size c):=by
 obtain⟨rfl,vs,hO,hC⟩:=H;obtain⟨i,hi,hz,hs,hbt⟩:=Z25 ZBI;obtain⟨o',k',w',h1,h2,h3⟩:=COw.append (ty:=Z2z) Z3A hi hz hs (by rfl) hO (Z5E Z3A B (Z4b _ _ _ _) (ZBO _ _ _ _)) (by simp only[Q5];omega) (by rw[hbt];omega);exact⟨o',k',w',h1,⟨by simp,_,h2,(hC.push hh hb hk).stp h3 hcb⟩,h3⟩
end
end Go.Proofs.YtfghidehlnfdiaaGreat
end
section
namespace Go.Trie
def met(out:List (By×By))(h:By):Bool:=out.any fun x=>decide (x.1=h)
def Z1v(out:List (By×By))(top:Bool)(b:By):List (By×By):=if met out (Go.Vcg.sumOf b)||(!top&&decide (b.length<32))then out else out++[(Go.Vcg.sumOf b,b)]
def Z1K:Nd->Bool->List (By×By)->List (By×By)
 | .nil,_,out=>out
 | .leaf p v,top,out=>Z1v out top (bytesOf (.leaf p v))
 | .row p c,top,out=>Z1v (Z1K c JD out) top (bytesOf (.row p c))
 | .branch cs v,top,out=>Z1v ((JN 16).foldl (fun o i=>Z1K (cs i) JD o) out) top (bytesOf (.branch cs v))
def Z0c(n:Nd):List (By×By):=Z1K n Ji []
def cnt:Nd->Nat
 | .nil=>0
 | .leaf _ _=>1
 | .row _ c=>1+cnt c
 | .branch cs _=>1+((JN 16).map fun i=>cnt (cs i)).sum
theorem Z5A(out:List (By×By))(top:Bool)(b:By):(Z1v out top b).length<=out.length+1:=by
 unfold Z1v;split<;>simp
theorem Z5O{cs:Fin 16->Nd}(ih:∀i out,(Z1K (cs i) JD out).length<=out.length+cnt (cs i)):∀(l:List (Fin 16)) (out:List (By×By)),(l.foldl (fun o i=>Z1K (cs i) JD o) out).length<=out.length+(l.map fun i=>cnt (cs i)).sum
 |[],out=>by simp
 |i::r,out=>by
  simp only[List.foldl_cons,Jy,Jz];have h1:=Z5O ih r (Z1K (cs i) JD out);have h2:=ih i out;omega
theorem Z2l:∀(n:Nd) (top:Bool) (out:List (By×By)),(Z1K n top out).length<=out.length+cnt n
 | .nil,_,out=>by simp[Z1K]
 | .leaf p v,top,out=>by simp only[Z1K,cnt];exact Z5A _ _ _
 | .row p c,top,out=>by
   simp only[Z1K,cnt];have h1:=Z5A (Z1K c JD out) top (bytesOf (.row p c));have h2:=Z2l c JD out;omega
 | .branch cs v,top,out=>by
   simp only[Z1K,cnt];have h1:=Z5A ((JN 16).foldl (fun o i=>Z1K (cs i) JD o) out) top (bytesOf (.branch cs v));have h2:=Z5O (fun i out=>Z2l (cs i) JD out) (JN 16) out;omega
end Go.Trie
end
section
namespace Go.Proofs.YtfghidehlnfdiaaGreat
open Go Go.Vcg Go.Trie
abbrev tMet:Jj:=78
theorem ZBk:Tryz.prog.underlying tMet=O (.map tHash 88):=by kernel_rfl
theorem ZF7(w:V):(zeroValue 88).run J w=JV (JH #[]) w:=by kernel_rfl
theorem Z4S{k:H32}:∀{es:List (H32×Value)},(Z33 k es).isSome=es.any fun x=>decide (x.1.1=k.1)
 |[]=>rfl
 |x::r=>by
  simp only[Z33,List.any_cons];by_cases h:x.1=k
  ·rw[if_pos h];simp[h]
  ·rw[if_neg h,Z4S]
   have:decide (x.1.1=k.1)=JD:=decide_eq_false (fun e=>h (Subtype.ext e));rw[this];rfl
theorem Z8B{k:H32}:∀{es:List (H32×Value)},(∀x∈es,x.2=JH #[])->(Z33 k es).getD (JH #[])=JH #[]
 |[],_=>rfl
 |x::r,h=>by
  simp only[Z33];split
  ·simp[h x (by simp)]
  ·exact Z8B (fun y hy=>h y (by simp[hy]))
theorem ZDb(es:List (H32×Value))(out:List (By×By))(h:(es.map fun x=>x.1.1)=out.map Prod.fst)(k:By):(es.any fun x=>decide (x.1.1=k))=met out k:=by
 have h1:(es.map fun x=>x.1.1).any (fun y=>decide (y=k))=(out.map Prod.fst).any (fun y=>decide (y=k)):=by rw[h]
 rw[Q1,Q1]at h1;exact h1
end Go.Proofs.YtfghidehlnfdiaaGreat
end
section
namespace Go.Trie
def emptyH:By:=Go.Vcg.sumOf [128]
def rootOf(n:Nd):By:=Go.Vcg.sumOf (bytesOf n)
theorem Z9n:bytesOf .nil=[128]:=by simp[bytesOf,Z1y,enc,own,Z2r]
def putT(n:Nd)(k x:By):Int×Nd:=if k.length>64 then(140,n)else if x=[]\/x.length>1024 then(141,n)else(0,put n (nibbles k) x)
end Go.Trie
end
section
namespace Go.Proofs.YtfghidehlnfdiaaGreat
open Go Go.Vcg Go.Trie
theorem Z8P:Tryz.prog.eqGuardType Tryz.prog.depth tHash=JD:=by kernel_rfl
theorem ZE2:(Tryz.prog.info? tHash).map (·.size)=O 32:=by kernel_rfl
theorem Z94{w:V}(x y:Operand){a b:By}(ha:a.length=32)(hb:b.length=32):U J (Z0Z .neq tHash x y (JH (hashA a)) (JH (hashA b))) w=JV (.bool (decide (a≠b))) w:=by
 have h:=ZEi (P:=J) (w:=w) Z4d Z5p Z0y Z8P x y (fun i=>((a.getD i 0).toNat:Int)) (fun i=>((b.getD i 0).toNat:Int));refine h.trans (congrArg (fun x=>JV (Q6 x) w) ?_);rw[Jv,Bool.not_eq_true',decide_eq_false_iff_not,decide_eq_true_eq,ne_eq];refine not_congr ?_;constructor
 ·intro h
  refine Z7L ha hb (ZF (fun i hi=>?_));have:=h i hi;simp only[bV,this]
 ·rintro rfl i _;rfl
theorem ZE0{w:V}(x y:Operand){a b:By}(ha:a.length=32)(hb:b.length=32):U J (Z0Z .eql tHash x y (JH (hashA a)) (JH (hashA b))) w=JV (.bool (decide (a=b))) w:=by
 have h:=ZEh (P:=J) (w:=w) Z4d Z5p Z0y Z8P x y (fun i=>((a.getD i 0).toNat:Int)) (fun i=>((b.getD i 0).toNat:Int));refine h.trans (congrArg (fun x=>JV (Q6 x) w) ?_);rw[Jv,decide_eq_true_eq,decide_eq_true_eq];constructor
 ·intro h
  refine Z7L ha hb (ZF (fun i hi=>?_));have:=h i hi;simp only[bV,this]
 ·rintro rfl i _;rfl
theorem Z1M{w:V}{D:Nat}{cs:Array Value}(H:Blk w D tHash cs)(hs:cs.size=32)(h:By) :
  U J (JJ 27 (J7 (O ⟨D,0,J2⟩)) (JH (hashA h))) w=JV () (w.setRow D (hashA h))/\Blk (w.setRow D (hashA h)) D tHash (hashA h)/\Vcg.Mod (·=D) w (w.setRow D (hashA h)) :=
 ⟨H.storeAll (by rw[ZA];exact ZE2) (by rw[hs,ZA]) (Z2M _),H.row_same _,Mod.setRow _ _ _⟩
theorem ZEM(w:V):RdB (w.alloc (JF #[.int K 128] 5)) (O ⟨w.heap.size,0,J2⟩) [128] :=
 RdB.of_blk (Blk.new w 5 #[bV 128]) (fun j hj=>by
  obtain rfl:j=0:=by simpa using hj
  rfl)
theorem ZAq(w:V):J0 J Z2B.n #[] w (fun e w'=>e=Y (JH (hashA emptyH))/\Vcg.Mod NoB w w'):=by
 refine Z2B.vc _ _ ?_;unfold Z2B.Vc;rintro d1 w1⟨rfl,rfl⟩ d2 w2⟨rfl,rfl⟩ d3 w3⟨rfl,rfl⟩;have M1:=Mod.alloc (S:=NoB) w (JF (J1 32 (.int K 0)) 27);have H:=Blk.new w 27 (J1 32 (.int K 0));have hs:=ZC w (JF (J1 32 (.int K 0)) 27);generalize w.alloc (JF (J1 32 (.int K 0)) 27)=w1 at *
 have r2:=ZEM w1;have M2:=Mod.alloc (S:=NoB) w1 (JF #[.int K 128] 5);generalize w1.alloc (JF #[.int K 128] 5)=w2 at *
 have B3:=Blk.new w2 23 #[.slice (O ⟨w1.heap.size,0,J2⟩) 1 1];have M3:=Mod.alloc (S:=NoB) w2 (JF #[.slice (O ⟨w1.heap.size,0,J2⟩) 1 1] 23);refine(Z9d [[128]] rfl (by simp) (ZFt.one B3 (r2.mod' M3)) (by simp)).mono ?_;rintro _ w4⟨rfl,M4⟩;have M24:=(M2.trans M3 (fun _ _ h=>h)).trans M4 (fun _ _ h=>h);obtain⟨h1,h2,h3⟩:=Z1M (H.mod' M24) (by simp) (sumOf [[128]].flatten);exact⟨_,rfl,_,h1,_,h2.rowAll (ZA _),rfl,ZK (M1.trans M24 (fun _ _ h=>h)) h3 (Ja _)⟩
theorem Z7i{P:Program}{t k e:Jj}(h:P.underlying t=O (.map k e))(w:V):∃w',U P (Instr.makeMap t J2) w=JV (.map (O w.heap.size)) w'/\Vcg.Mod NoB w w'/\w'.heap[w.heap.size]?=O (.map #[] 0):=by
 exact⟨w.alloc (.map #[] 0),rfl,Mod.alloc _ _,heap_alloc_new _ _⟩
section
variable{C:Type}{S:C->Prop}{w0 w w1 w':V}{lab lab2:Nat->C}{ct c:C}
theorem ZC5:ZCs .nil:=fun k v h=>by simp[Trie.get]at h
end
end Go.Proofs.YtfghidehlnfdiaaGreat
end
section
namespace Go.Trie
theorem Z7A(p:By)(n:Nd):cnt (Z3v p n)<=cnt n+1:=by
 unfold Z3v;split
 ·omega
 ·cases n<;>simp only[cnt]<;>omega
theorem Z8n(f g:Fin 16->Nat)(d:Nat)(a:Nat)(h:∀i:Fin 16,i.val≠a->f i=g i)(ha:∀i:Fin 16,i.val=a->f i<=g i+d):∀(l:List (Fin 16)),l.Nodup->(l.map f).sum<=(l.map g).sum+d
 |[],_=>by simp
 |i::r,hn=>by
  rw[List.nodup_cons]at hn;simp only[Jy,Jz];by_cases hi:i.val=a
  ·have h1:=ha i hi
   have h2:r.map f=r.map g:=List.map_congr_left (fun j hj=>h j (fun e=>hn.1 (by rw[Fin.ext (hi.trans e.symm)];exact hj)));rw[h2];omega
  ·have h1:=h i hi
   have h2:=Z8n f g d a h ha r hn.2;omega
theorem ZB5{cs cs':Fin 16->Nd}{x y:By}{a d:Nat}(h:∀i:Fin 16,i.val≠a->cs' i=cs i)(ha:∀i:Fin 16,i.val=a->cnt (cs' i)<=cnt (cs i)+d):cnt (.branch cs' y)<=cnt (.branch cs x)+d:=by
 simp only[cnt];have:=Z8n (fun i=>cnt (cs' i)) (fun i=>cnt (cs i)) d a (fun i hi=>by simp only[h i hi]) ha (JN 16) (List.nodup_finRange 16);omega
theorem ZB6(cs:Fin 16->Nd)(v p x:By)(h:∀a r,p=a::r->at_ cs a=.nil):cnt (lay cs v p x)<=cnt (.branch cs v)+1:=by
 cases p with
 |nil=>simp only[lay,cnt];omega
 |cons a r =>
  simp only[lay];refine ZB5 (a:=a.toNat) (fun i hi=>by unfold upd;rw[if_neg hi]) (fun i hi=>?_);unfold upd;rw[if_pos hi];simp only[cnt];omega
theorem ZC1(v:By):cnt (.branch Z0D v)=1:=by
 have:((JN 16).map fun i=>cnt (Z0D i))=List.replicate 16 0:=by decide
 simp only[cnt,this];rfl
theorem ZFD{q p:By}{y:By}{a:UInt8}{r:By}{cs:Fin 16->Nd}{v:By}(h:lay Z0D [] q y=.branch cs v)(hp:p=a::r)(hh:∀b s t,¬(q=b::s/\p=b::t)):at_ cs a=.nil:=by
 cases q with
 |nil =>
  simp only[lay,Nd.branch.injEq]at h;rw[<-h.1];exact Z3D a
 |cons b s =>
  simp only[lay,Nd.branch.injEq]at h;rw[<-h.1];have hne:a≠b:=fun e=>hh b s r ⟨rfl,by rw[hp,e]⟩;rw[Z3J hne];exact Z3D a
theorem ZB7:∀(n:Nd) (p x:By),cnt (put n p x)<=cnt n+4
 | .nil,p,x=>by simp only[put,cnt];omega
 | .leaf q v,p,x=>by
   simp only[put];split
   ·simp only[cnt];omega
   ·obtain⟨t,q',p',_,_,_,hq',hp',_,hh⟩:=Z39 q p
    have h1:=Z7A (p.take (ZI q p)) (ZG6 (lay Z0D [] (q.drop (ZI q p)) v) (p.drop (ZI q p)) x);have h2:=ZB6 Z0D [] (q.drop (ZI q p)) v (fun a r _=>Z3D a);rw[ZC1]at h2
    have h3:cnt (ZG6 (lay Z0D [] (q.drop (ZI q p)) v) (p.drop (ZI q p)) x)<=cnt (lay Z0D [] (q.drop (ZI q p)) v)+1:=by
     cases hl:lay Z0D [] (q.drop (ZI q p)) v with
     |branch cs w =>
      simp only[ZG6];exact ZB6 cs w _ x (fun a r hp=>ZFD hl hp (by rw[<-hq',<-hp'];exact hh))
     |nil=>cases hd:q.drop (ZI q p)<;>rw[hd]at hl<;>simp[lay]at hl
     |leaf a b=>cases hd:q.drop (ZI q p)<;>rw[hd]at hl<;>simp[lay]at hl
     |row a b=>cases hd:q.drop (ZI q p)<;>rw[hd]at hl<;>simp[lay]at hl
    simp only[cnt];omega
 | .row q c,p,x=>by
   simp only[put];split
   ·have:=ZB7 c (p.drop (ZI q p)) x
    simp only[cnt];omega
   ·rename_i hne
    obtain⟨t,q',p',_,_,_,hq',hp',_,hh⟩:=Z39 q p;have hlt:ZI q p<q.length:=by have:=(Z4M q p).1;omega
    have h1:=Z7A (p.take (ZI q p)) (lay (upd Z0D (q.getD (ZI q p) 0) (Z3v (q.drop (ZI q p+1)) c)) [] (p.drop (ZI q p)) x);have hqd:q.getD (ZI q p) 0=q[ZI q p]:=by simp[JX,hlt]
    have h2:=ZB6 (upd Z0D (q.getD (ZI q p) 0) (Z3v (q.drop (ZI q p+1)) c)) [] (p.drop (ZI q p)) x (fun a r hp=>by
     have hd:q.drop (ZI q p)=q[ZI q p]::q.drop (ZI q p+1):=JB hlt;have hne:a≠q.getD (ZI q p) 0:=fun e=>hh a _ r ⟨by rw[hq',hd,<-hqd,<-e],by rw[hp'];exact hp⟩;rw[Z3J hne];exact Z3D a)
    have h3:cnt (.branch (upd Z0D (q.getD (ZI q p) 0) (Z3v (q.drop (ZI q p+1)) c)) [])<=cnt (.branch Z0D [])+(1+cnt c):=by
     refine ZB5 (a:=(q.getD (ZI q p) 0).toNat) (fun i hi=>by unfold upd;rw[if_neg hi]) (fun i hi=>?_);unfold upd;rw[if_pos hi];have:=Z7A (q.drop (ZI q p+1)) c;omega
    rw[ZC1]at h3;simp only[cnt]at *;omega
 | .branch cs v,p,x=>by
   cases p with
   |nil=>simp only[put,cnt];omega
   |cons a r =>
    simp only[put];refine ZB5 (a:=a.toNat) (fun i hi=>by rw[if_neg hi]) (fun i hi=>?_);rw[if_pos hi];exact ZB7 (cs i) r x
end Go.Trie
end
section
namespace Go.Proofs.YtfghidehlnfdiaaGreat
open Go Go.Vcg Go.Trie
section
variable{C C':Type}{S:C->Prop}{w0 w w1 w':V}{lab:Nat->C}{lab':Nat->C'}{ct c cb:C}{c' cb':C'}
theorem COw.re{e:Jj}{sz:Nat}{o:Option Addr}{l k:Nat}{xs:List Value}(h:COw w lab c e sz o l k xs)(hl:∀k,k<w.heap.size->lab k=c->lab' k=c'):COw w lab' c' e sz o l k xs :=
 ⟨h.own,fun k hk=>hl k (h.own.lt hk) (h.clr k hk)⟩
theorem ZS.re{vs:List Value}{l:List (By×By)}(h:ZS w lab cb vs l)(hl:∀k,k<w.heap.size->lab k=cb->lab' k=cb'):ZS w lab' cb' vs l :=
 ⟨h.1,fun j hj=>by obtain⟨h1,h2,ob,kb,h3,h4⟩:=h.2 j hj;exact⟨h1,h2,ob,kb,h3,CBy.re h4.1 hl,h4.2⟩⟩
def Z0m(w:V)(lab:Nat->C)(c:C)(l:List (By×By))(o:Option Addr)(n:Nat):Prop :=
 n=l.length/\∃vs,Z4k w lab c o vs/\ZS w lab c vs l
theorem Z0m.stp{lab2:Nat->C}{l:List (By×By)}{o:Option Addr}{n:Nat}(h:Z0m w lab c l o n)(s:Stp S w lab w' lab2)(hs:¬S c):Z0m w' lab2 c l o n:=by
 obtain⟨h1,vs,h2,h3⟩:=h;exact⟨h1,vs,h2.stp s hs,h3.stp s hs⟩
theorem Z0m.nil(w:V)(lab:Nat->C)(c:C)(o:Option Addr):Z0m w lab c [] o 0:=⟨rfl,[],Z4k.nil w lab c o,ZS.nil w lab c⟩
end
end Go.Proofs.YtfghidehlnfdiaaGreat
end
section
namespace Go.Trie
def ltB:By->By->Prop
 |_,[]=>False
 |[],_::_=>True
 |a::p,b::q=>a<b\/(a=b/\ltB p q)
theorem Z3j(p:By):¬ltB p []:=by cases p<;>simp[ltB]
theorem Z3P:∀(p:By),¬ltB p p
 |[],h=>h
 |a::p,h=>by
  rcases h with h|h
  ·exact absurd h (JU a)
  ·exact Z3P p h.2
theorem Z2v:∀{p q r:By},ltB p q->ltB q r->ltB p r
 |p,q,[],_,h=>(Z3j _ h).elim
 |p,[],c::r,h,_=>(Z3j _ h).elim
 |[],b::q,c::r,_,_=>trivial
 |a::p,b::q,c::r,h1,h2=>by
  rcases h1 with h1|⟨rfl,h1⟩
  ·rcases h2 with h2|⟨rfl,h2⟩
   ·exact .inl (Jw h1 h2)
   ·exact .inl h1
  ·rcases h2 with h2|⟨rfl,h2⟩
   ·exact .inl h2
   ·exact .inr ⟨rfl,Z2v h1 h2⟩
theorem ZCM{a:UInt8}{p q:By}:ltB (a::p) (a::q)↔ltB p q:=by
 simp only[ltB];constructor
 ·rintro(h|h)
  ·exact absurd h (JU a)
  ·exact h.2
 ·exact fun h=>.inr ⟨trivial,h⟩
theorem Z4X{t p q:By}:ltB (t++p) (t++q)↔ltB p q:=by
 induction t with
 |nil=>exact Iff.rfl
 |cons a t ih=>rw[JS,JS,ZCM,ih]
def Rep(s:List (By×By))(n:Nd):Prop:=s.Pairwise (fun x y=>ltB x.1 y.1)/\∀k v,get n k=O v↔(k,v)∈s
theorem Rep.nil:Rep [] .nil:=⟨List.Pairwise.nil,fun k v=>by simp[get]⟩
theorem Rep.nil_inv{n:Nd}(h:Rep [] n)(hc:Z1c n):n=.nil:=by
 by_cases hn:n=.nil
 ·exact hn
 ·obtain⟨k,v,hk⟩:=Z54 hc hn
  have:=(h.2 k v).1 hk;simp at this
theorem Rep.ne{s:List (By×By)}{n:Nd}(h:Rep s n)(hs:s≠[]):n≠.nil:=by
 rintro rfl;cases s with
 |nil=>exact hs rfl
 |cons x r =>
  have:=(h.2 x.1 x.2).2 (by simp);simp[get]at this
theorem Rep.leaf{s:List (By×By)}{p v:By}(h:Rep s (.leaf p v)):s=[(p,v)]:=by
 have hm:∀x∈s,x=(p,v):=fun x hx=>by
  have:=(h.2 x.1 x.2).2 hx;simp only[get]at this;split at this
  ·rename_i hp
   cases this;exact Prod.ext hp.symm rfl
  ·cases this
 have hin:(p,v)∈s:=(h.2 p v).1 (by simp[get]);cases s with
 |nil=>simp at hin
 |cons x r =>
  cases r with
  |nil=>rw[hm x (by simp)]
  |cons y r =>
   have h1:=hm x (by simp);have h2:=hm y (by simp);have:=(List.pairwise_cons.1 h.1).1 y (by simp);rw[h1,h2]at this;exact(Z3P _ this).elim
theorem Rep.two{s:List (By×By)}{n:Nd}(h:Rep s n){k1 v1 k2 v2:By}(h1:get n k1=O v1)(h2:get n k2=O v2)(hne:k1≠k2):2<=s.length:=by
 have m1:=(h.2 _ _).1 h1;have m2:=(h.2 _ _).1 h2
 match s,m1,m2 with
 |[x],m1,m2 =>
  simp at m1 m2;exact(hne (by rw[<-m2]at m1;exact(Prod.mk.inj m1).1)).elim
 |x::y::r,_,_=>simp
theorem Rep.row{s:List (By×By)}{p:By}{c:Nd}(h:Rep s (.row p c)):(∀x∈s,p <+: x.1)/\Rep (s.map fun x=>(x.1.drop p.length,x.2)) c:=by
 have hp:∀x∈s,p <+: x.1:=fun x hx=>by
  obtain⟨r,hr,_⟩:=ZA7 ((h.2 x.1 x.2).2 hx);exact⟨r,hr.symm⟩
 refine⟨hp,?_,fun k v=>?_⟩
 ·rw[Jp]
  refine List.Pairwise.imp_of_mem (fun{x y} hx hy hxy=>?_) h.1;obtain⟨r,hr⟩:=hp x hx;obtain⟨t,ht⟩:=hp y hy;rw[<-hr,<-ht,Z4X]at hxy;simp only[<-hr,<-ht,JY];exact hxy
 ·rw[<-Z16 p k c,h.2]
  simp only[Q2];constructor
  ·intro hm
   exact⟨_,hm,by simp⟩
  ·rintro⟨x,hx,he⟩
   obtain⟨r,hr⟩:=hp x hx;simp only[Prod.mk.injEq]at he;rw[<-hr,JY]at he;obtain⟨rfl,rfl⟩:=he;rw[hr];exact hx
theorem Z9N(t p q:By):ZI (t++p) (t++q)=t.length+ZI p q:=by
 induction t with
 |nil=>simp
 |cons a t ih=>simp only[JS,ZI,if_true,ih,JR];omega
theorem ZBx{s:List (By×By)}(hs:s.Pairwise (fun x y=>ltB x.1 y.1)){x y:By×By}{a:UInt8}{p q:By}(hx:s.head?=O x)(hy:s.getLast?=O y)(hxa:x.1=a::p)(hya:y.1=a::q):∀z∈s,∃r,z.1=a::r:=by
 have hlast:∀{s:List (By×By)}{y:By×By},s.Pairwise (fun x y=>ltB x.1 y.1)->s.getLast?=O y->∀z∈s,z=y\/ltB z.1 y.1:=by
  intro s
  induction s with
  |nil=>intro y _ h;simp at h
  |cons x r ih =>
   intro y hp hl z hz;rw[Jo]at hp;cases r with
   |nil=>simp at hl hz;subst hl;exact .inl hz
   |cons x2 r2 =>
    rw[List.getLast?_cons_cons]at hl;rcases List.mem_cons.1 hz with rfl|hz
    ·have hy:y∈x2::r2:=Jk hl
     exact .inr (hp.1 y hy)
    ·exact ih hp.2 hl z hz
 have hfirst:∀z∈s,z=x\/ltB x.1 z.1:=by
  intro z hz;cases s with
  |nil=>simp at hx
  |cons x' r =>
   simp at hx;subst hx;rcases List.mem_cons.1 hz with rfl|hz
   ·exact .inl rfl
   ·exact .inr ((List.pairwise_cons.1 hs).1 z hz)
 intro z hz;rcases hfirst z hz with rfl|h1
 ·exact⟨p,hxa⟩
 rcases hlast hs hy z hz with rfl|h2
 ·exact⟨q,hya⟩
 rw[hxa]at h1;rw[hya]at h2;cases hzz:z.1 with
 |nil=>rw[hzz]at h1;exact(Z3j _ h1).elim
 |cons b r =>
  rw[hzz]at h1 h2
  have hab:a=b:=by
   have h3:a<b\/a=b:=h1.elim .inl (fun h=>.inr h.1);have h4:b<a\/b=a:=h2.elim .inl (fun h=>.inr h.1);rcases h3 with h3|h3
   ·rcases h4 with h4|h4
    ·exact absurd (Jw h3 h4) (JU a)
    ·exact h4.symm
   ·exact h3
  exact⟨r,by rw[hab]⟩
theorem Rep.parts{s:List (By×By)}{n:Nd}(h:Rep s n)(hc:Z1c n)(hb:Z34 n){x y:By×By}(hx:s.head?=O x)(hy:s.getLast?=O y):ZI x.1 y.1=0:=by
 cases hx1:x.1 with
 |nil=>simp[ZI]
 |cons a p =>
  cases hy1:y.1 with
  |nil=>simp[ZI]
  |cons b q =>
   simp only[ZI];split
   ·rename_i hab
    subst hab;exfalso;obtain⟨k1,v1,k2,v2,h1,h2,hp⟩:=Z9Q hc hb;obtain⟨r1,e1⟩:=ZBx h.1 hx hy hx1 hy1 _ ((h.2 _ _).1 h1);obtain⟨r2,e2⟩:=ZBx h.1 hx hy hx1 hy1 _ ((h.2 _ _).1 h2);exact hp.2 a r1 r2 ⟨e1,e2⟩
   ·rfl
theorem Rep.shared_row{s:List (By×By)}{p:By}{c:Nd}(h:Rep s (.row p c))(hc:Z1c (.row p c)){x y:By×By}(hx:s.head?=O x)(hy:s.getLast?=O y):ZI x.1 y.1=p.length:=by
 obtain⟨hp,hr⟩:=h.row;have hxs:x∈s:=List.mem_of_mem_head? hx;have hys:y∈s:=Jk hy;obtain⟨r,er⟩:=hp x hxs;obtain⟨t,et⟩:=hp y hys;have:=hr.parts hc.2.2.2 hc.2.2.1 (x:=(x.1.drop p.length,x.2)) (y:=(y.1.drop p.length,y.2)) (by rw[List.head?_map,hx];rfl) (by rw[List.getLast?_map,hy];rfl);rw[<-er,<-et,JY,JY]at this;rw[<-er,<-et,Z9N,this];omega
def Z7N(a:Nat)(p:By):Prop:=match p with
 |[]=>True
 |b::_=>b.toNat<a
def Z8Q(a:Nat)(p:By):Prop:=match p with
 |[]=>False
 |b::_=>a<=b.toNat
theorem Rep.kid{s s1 t s3:List (By×By)}{cs:Fin 16->Nd}{v:By}(h:Rep s (.branch cs v))(a:Fin 16)(he:s=s1++(t++s3))(h1:∀x∈s1,Z7N a.val x.1)(ht:∀x∈t,∃r,x.1=J3 a.val::r)(h3:∀x∈s3,Z8Q (a.val+1) x.1) :
  Rep (t.map fun x=>(x.1.drop 1,x.2)) (cs a):=by
 have ha:(J3 a.val).toNat=a.val:=by rw[JZ];have:=a.isLt;omega
 have hpt:t.Pairwise (fun x y=>ltB x.1 y.1):=by
  have:=h.1;rw[he]at this;exact((List.pairwise_append.1 ((List.pairwise_append.1 this).2.1))).1
 refine⟨?_,fun k w=>?_⟩
 ·rw[Jp]
  refine List.Pairwise.imp_of_mem (fun{x y} hx hy hxy=>?_) hpt;obtain⟨r,hr⟩:=ht x hx;obtain⟨q,hq⟩:=ht y hy;rw[hr,hq,ZCM]at hxy;simp only[hr,hq,Jl,Jx];exact hxy
 ·rw[<-Z0s cs v a k,h.2,he]
  simp only[Ju,Q2];constructor
  ·rintro(hm|hm|hm)
   ·have:=h1 _ hm
    simp only[Z7N,ha]at this;omega
   ·exact⟨_,hm,by simp⟩
   ·have:=h3 _ hm
    simp only[Z8Q,ha]at this;omega
  ·rintro⟨x,hx,hxe⟩
   obtain⟨r,hr⟩:=ht x hx;simp only[hr,Jl,Jx,Prod.mk.injEq]at hxe;obtain⟨rfl,rfl⟩:=hxe;rw[<-hr];exact .inr (.inl hx)
theorem ZGc{s2 t s3:List (By×By)}{a:Nat}(hs:s2.Pairwise (fun x y=>ltB x.1 y.1))(he:s2=t++s3)(hge:∀x∈s2,Z8Q a x.1)(hne:∀x,s3.head?=O x->∀b r,x.1=b::r->b.toNat≠a):∀x∈s3,Z8Q (a+1) x.1:=by
 subst he;cases s3 with
 |nil=>intro x hx;simp at hx
 |cons y r =>
  have hy:=hge y (by simp);have hps:=(List.pairwise_append.1 hs).2.1;rw[Jo]at hps;intro x hx;cases hy1:y.1 with
  |nil=>rw[hy1]at hy;exact hy.elim
  |cons b q =>
   rw[hy1]at hy;have hb:=hne y rfl b q hy1;have hb2:a<=b.toNat:=hy;rcases List.mem_cons.1 hx with rfl|hx
   ·rw[hy1];show a+1<=b.toNat;omega
   ·have hlt:=hps.1 x hx
    rw[hy1]at hlt;cases hx1:x.1 with
    |nil=>rw[hx1]at hlt;exact(Z3j _ hlt).elim
    |cons c p =>
     rw[hx1]at hlt;show a+1<=c.toNat;rcases hlt with hlt|⟨rfl,_⟩
     ·have:b.toNat<c.toNat:=UInt8.lt_iff_toNat_lt.1 hlt
      omega
     ·omega
theorem Rep.value{s:List (By×By)}{cs:Fin 16->Nd}{v:By}(h:Rep s (.branch cs v)){x:By×By}{r:List (By×By)}(hs:s=x::r):(x.1=[]->v=x.2)/\(x.1≠[]->v=[])/\∀y∈r,y.1≠[]:=by
 subst hs;refine⟨fun hx=>?_,fun hx=>?_,fun y hy e=>?_⟩
 ·have:=(h.2 x.1 x.2).2 (by simp)
  rw[hx,ZY]at this;split at this
  ·cases this
  ·exact Option.some.inj this
 ·by_cases hv:v=[]
  ·exact hv
  ·exfalso
   have:=(h.2 [] v).1 (by rw[ZY,if_neg hv]);rcases List.mem_cons.1 this with e|hm
   ·exact hx (by rw[<-e])
   ·have:=(List.pairwise_cons.1 h.1).1 _ hm
    exact Z3j _ this
 ·have:=(List.pairwise_cons.1 h.1).1 y hy
  rw[e]at this;exact Z3j _ this
def Z1i:By->By->Int
 |[],[]=>0
 |[],_::_=> -1
 |_::_,[]=>1
 |a::p,b::q=>if a=b then Z1i p q else if a<b then -1 else 1
theorem Z1t:∀{p q:By},Z1i p q<0↔ltB p q
 |[],[]=>by simp[Z1i,ltB]
 |[],_::_=>by simp[Z1i,ltB]
 |_::_,[]=>by simp[Z1i,ltB]
 |a::p,b::q=>by
  simp only[Z1i,ltB];by_cases hab:a=b
  ·subst hab
   rw[if_pos rfl,Z1t];exact⟨fun h=>.inr ⟨rfl,h⟩,fun h=>h.elim (fun h=>absurd h (JU a)) (·.2)⟩
  ·rw[if_neg hab]
   by_cases hlt:a<b
   ·rw[if_pos hlt];simp[hlt]
   ·rw[if_neg hlt];simp[hlt,hab]
theorem ZB4:∀{p q:By},Z1i p q=0↔p=q
 |[],[]=>by simp[Z1i]
 |[],_::_=>by simp[Z1i]
 |_::_,[]=>by simp[Z1i]
 |a::p,b::q=>by
  simp only[Z1i,List.cons.injEq];by_cases hab:a=b
  ·rw[if_pos hab,ZB4];simp[hab]
  ·rw[if_neg hab]
   split<;>simp[hab]
theorem ZB3(t p q:By):Z1i (t++p) (t++q)=Z1i p q:=by
 induction t with
 |nil=>rfl
 |cons a t ih=>simp only[JS,Z1i,if_true,ih]
theorem Z5n{p q:By}{j:Nat}(h:p.take j=q.take j):Z1i p q=Z1i (p.drop j) (q.drop j):=by
 have:=ZB3 (p.take j) (p.drop j) (q.drop j);rw[Jf,h,Jf]at this;exact this
end Go.Trie
end
section
namespace Go.Proofs.YtfghidehlnfdiaaGreat
open Go Go.Vcg Go.Trie
section
variable{w:V}
theorem Z9s{o1 o2:Option Addr}{k1 k2:Nat}{a b:By}(h1:RdB w o1 a)(h2:RdB w o2 b)(hl:a.length<=2^62) :
  J0 J Z05.n #[.slice o1 a.length k1,.slice o2 b.length k2] w (fun e w'=>e=Y (.int I (Z1i a b))/\Vcg.Mod NoB w w'):=by
 refine ZG fun R hR=>Z05.vc _ _ _ _ _ _ _ _ ?_;unfold Z05.Vc
 refine⟨fun w'=>Vcg.Mod NoB w w'/\(a.take (min a.length b.length)=b.take (min a.length b.length)),
  ⟨fun i w'=>∃j:Nat,i=(j:Int)/\j<=a.length/\j<=b.length/\a.take j=b.take j/\Vcg.Mod NoB w w',fun i _=>((a.length:Int)-i).toNat,⟨0,rfl,JT _,JT _,rfl,Mod.refl w⟩,?_⟩,?_⟩
 ·rintro _ _ w1⟨j,rfl,hja,hjb,ht,M⟩
  refine⟨fun hla=>⟨fun hlb=>?_,fun hlb=>⟨M,by rw[show min a.length b.length=j by omega];exact ht⟩⟩,fun hla=>⟨M,by rw[show min a.length b.length=j by omega];exact ht⟩⟩;rintro _ rfl;have ha:j<a.length:=by omega
  have hb:j<b.length:=by omega
  obtain⟨ba,fa,rfl,hba,hca⟩:=Z1g h1 ha;obtain⟨bb,fb,rfl,hbb,hcb⟩:=Z1g h2 hb;have M2:=M.step_drew;have ca:∀w',Vcg.Mod NoB w w'->w'.cell? (Addr.add ⟨ba,fa,J2⟩ (JI (j:Int)))=O (bV a[j]):=fun w' M=>by rw[Z6,J5];exact(ZU M hba (fun h=>h)).trans hca
  have cb:∀w',Vcg.Mod NoB w w'->w'.cell? (Addr.add ⟨bb,fb,J2⟩ (JI (j:Int)))=O (bV b[j]):=fun w' M=>by rw[Z6,J5];exact(ZU M hbb (fun h=>h)).trans hcb
  refine⟨_,rfl,⟨by omega,by omega⟩,_,ca _ M2,_,rfl,⟨by omega,by omega⟩,_,cb _ M2,fun hne=>?_,fun he=>?_⟩
  ·rintro _ rfl
   have M3:=M2.step_drew;have hab:a[j]≠b[j]:=fun e=>hne (by rw[e])
   have hc:Z1i a b=if a[j]<b[j]then -1 else 1:=by
    rw[Z5n ht,JB ha,JB hb];simp only[Z1i];rw[if_neg hab]
   have hlt:a[j]<b[j]↔((a[j].toNat:Int)<(b[j].toNat:Int)):=by rw[UInt8.lt_iff_toNat_lt];omega
   refine⟨_,rfl,⟨by omega,by omega⟩,_,ca _ M3,_,rfl,⟨by omega,by omega⟩,_,cb _ M3,fun h=>hR _ _ ⟨?_,M3⟩,fun h=>hR _ _ ⟨?_,M3⟩⟩
   ·rw[hc,if_pos (hlt.2 h)]
   ·rw[hc,if_neg (fun x=>h (hlt.1 x))]
  ·have hab:a[j]=b[j]:=UInt8.toNat_inj.1 (by exact_mod_cast he)
   refine⟨⟨j+1,by rw[Z0 (by omega) (by omega)];omega,ha,hb,?_,M2⟩,by dsimp only;rw[Z0 (by omega) (by omega)];omega⟩;rw[J6,J6,ht,W ha,W hb,hab]
 ·rintro _ w1⟨M,ht⟩
  have hc:=Z5n ht;refine⟨fun h=>hR _ _ ⟨?_,M⟩,fun h=>⟨fun h'=>hR _ _ ⟨?_,M⟩,fun h'=>hR _ _ ⟨?_,M⟩⟩⟩
  ·rw[hc,JG (l:=a) (by omega)]
   cases hd:b.drop (min a.length b.length)with
   |nil=>have:=congrArg Q4 hd;rw[Jr]at this;simp at this;omega
   |cons x r=>rfl
  ·rw[hc,JG (l:=b) (by omega)]
   cases hd:a.drop (min a.length b.length)with
   |nil=>have:=congrArg Q4 hd;rw[Jr]at this;simp at this;omega
   |cons x r=>rfl
  ·rw[hc,JG (l:=a) (by omega),JG (l:=b) (by omega)]
   rfl
theorem Z9T(n:Nat):G K (JK (n:Int) 256)=((J3 n).toNat:Int):=by
 have:JK (n:Int) 256=((n%256:Nat):Int):=rfl;rw[this,Z2D];have h1:(J3 (n%256)).toNat=(J3 n).toNat:=by rw[JZ,JZ];omega
 rw[h1]
theorem Z7h(base n:Nat)(hn:n<2^31)(hb:base<=192) :
  J0 J Z0j.n #[.int I (base:Int),.int I (n:Int)] w (fun e w'=>∃o k,e=Y (.slice o (Trie.Z2r n base).length k)/\ZT w w' tU8 1 o (Trie.Z2r n base).length k ((Trie.Z2r n base).map bV)):=by
 refine ZG fun R hR=>Z0j.vc _ _ _ _ ?_;unfold Z0j.Vc;refine⟨fun hs=>?_,fun hs=>?_⟩
 ·rintro d w2⟨rfl,rfl⟩
  have e:Trie.Z2r n base=[J3 (base+n)]:=by unfold Trie.Z2r;rw[if_pos (by omega)]
  have ew:G I ((base:Int)+(n:Int))=((base+n:Nat):Int):=by rw[Z0 (by omega) (by omega)];omega
  rw[e]at hR;rw[ew];exact hR _ _ ⟨_,_,rfl,Z3k w _ (Z2D _)⟩
 ·have e:Trie.Z2r n base=J3 (base+55+(Z2L n).length)::Z2L n:=by unfold Trie.Z2r;rw[if_neg (by omega)]
  refine⟨fun o l k n' w'=>∃(f m:Nat)(row:List UInt8),n'=(m:Int)/\m<=n/\m<256^f/\f<=8/\Z2L n=digitsF f m++row/\l=row.length/\ZT w w' tU8 1 o l k (row.map bV),fun _ _ _ n' _=>n'.toNat,
   ⟨8,n,[],rfl,Ja _,by omega,Ja _,by rw[List.append_nil];rfl,rfl,ZT.nil (Mod.refl w) _ _⟩,?_⟩
  rintro o _ k _ _ w1⟨f,m,row,rfl,hmn,hm,hf,hd,rfl,F⟩;have hlen:=Z46 n;refine⟨fun hpos=>?_,fun hz=>?_⟩
  ·rintro d w2⟨rfl,rfl⟩
   rw[hd,Q]at hlen;cases f with
   |zero=>simp at hm;omega
   |succ g =>
    have hM:=Mod.alloc (S:=NoB) w1 (JF #[.int K (G K (JK (m:Int) 256))] 5);have F1:=Z3k w1 (J3 m) (n:=G K (JK (m:Int) 256)) (Z9T m);obtain⟨o3,k3,w3,hr3,F3⟩:=ZW (ty:=Zu) (k2:=k) F1 ((ZN F).mod' hM) (by omega)
    have hstep:digitsF (g+1) m=digitsF g (m/256)++[J3 m]:=by
     simp only[digitsF];rw[if_neg (by omega)]
    have hfd:G I (Jb (m:Int) 256)=((m/256:Nat):Int):=by
     rw[show Jb (m:Int) 256=((m/256:Nat):Int)from rfl,Z0 (by omega) (by omega)]
    rw[hfd];refine⟨_,w3,hr3,_,_,_,rfl,⟨g,m/256,J3 m::row,rfl,by omega,?_,by omega,?_,?_,?_⟩,?_⟩
    ·rw[Nat.pow_succ]at hm
     exact Nat.div_lt_of_lt_mul (by rw[Nat.mul_comm];exact hm)
    ·rw[hd,hstep,Jq];rfl
    ·simp;omega
    ·exact ZT.from_ F3 F.mod
    ·dsimp only;omega
  ·have hm0:m=0:=by omega
   subst hm0;have h0:digitsF f 0=[]:=by cases f<;>simp[digitsF]
   rw[h0,List.nil_append]at hd;rw[hd]at hlen;rintro d w3⟨rfl,rfl⟩
   have ew2:G I (G I ((base:Int)+55)+(((row.length:Nat):Int)))=((base+55+row.length:Nat):Int):=by
    rw[Z0 (n:=(base:Int)+55) (by omega) (by omega),Z0 (by omega) (by omega)];omega
   rw[ew2];obtain⟨o4,k4,w4,hr4,F4⟩:=ZW (ty:=Zu) (k2:=k) (Z3k w1 _ (Z2D (base+55+row.length))) ((ZN F).mod' (Mod.alloc _ _)) (by omega);refine⟨_,w4,hr4,_,_,_,rfl,hR _ _ ⟨o4,k4,?_,?_⟩⟩
   ·rw[e,JR,Q3,hd]
   ·rw[e,JR,Q3,hd]
    exact ZT.from_ F4 F.mod
theorem Z6W{o:Option Addr}{k:Nat}{b:By}(h:RdB w o b)(hl:b.length<2^30) :
  J0 J Z0W.n #[.slice o b.length k] w (fun e w'=>∃o' k',e=Y (.slice o' (enc (.s b)).length k')/\ZT w w' tU8 1 o' (enc (.s b)).length k' ((enc (.s b)).map bV)):=by
 refine ZG fun R hR=>Z0W.vc _ _ _ _ _ ?_;unfold Z0W.Vc
 have long:own b=JD->J0 J 114 #[(.int I 128),(.int I ((b.length:Nat):Int))] w (fun e17 w18 =>
   ∃o19:Option Addr,∃l20:Nat,∃l21:Nat,e17=Y (.slice o19 l20 l21) /\
   ∃(v22:Value)(w23:V),U J (builtinV J4 #[23,23] 23 #[(.slice o19 l20 l21),(.slice o b.length k)]) w18=JV v22 w23 /\
   ∃o24:Option Addr,∃l25:Nat,∃l26:Nat,v22=(.slice o24 l25 l26) /\
   R (Y (.slice o24 l25 l26)) w23):=by
  intro ho;have e:enc (.s b)=Trie.Z2r b.length 128++b:=by simp only[enc];rw[if_neg (by rw[ho];simp)]
  rw[e,Q]at hR;refine(Z7h 128 b.length (by omega) (by omega)).mono ?_;rintro _ w1⟨o1,k1,rfl,F1⟩;have:=(Z5Q b.length 128).2;obtain⟨o2,k2,w2,hr2,F2⟩:=ZW (ty:=Zu) (k2:=k) F1 (h.mod' F1.mod) (by omega);exact⟨_,_,_,rfl,_,w2,hr2,_,_,_,rfl,hR _ _ ⟨o2,k2,rfl,F2⟩⟩
 refine⟨fun h1=>?_,fun h1=>long ?_⟩
 ·obtain⟨a,rfl⟩:∃a,b=[a]:=List.length_eq_one_iff.1 (by omega)
  obtain⟨B,f,rfl,hB,hc⟩:=Z1g h (i:=0) (by simp)
  have h2:a<128↔a.toNat<128:=by
   have:∀n:Fin 256,(J8 n<128↔(J8 n).toNat<128):=by decide +kernel
   exact this a.toFin
  simp only[Jd]at hc;refine⟨_,rfl,⟨by omega,by omega⟩,_,by rw[Z6];exact hc,fun hlt=>⟨_,rfl,⟨by omega,by omega⟩,_,by rw[Z6];exact hc,?_⟩,fun hge=>long (by show decide (a<128)=JD;rw[decide_eq_false_iff_not,h2];omega)⟩;rintro d w2⟨rfl,rfl⟩;have e:enc (.s [a])=[a]:=by simp only[enc];rw[if_pos (by show decide (a<128)=Ji;rw[decide_eq_true_eq,h2];omega)]
  rw[e]at hR;exact hR _ _ ⟨_,_,rfl,Z3k w a rfl⟩
 ·unfold own
  split
  ·simp at h1
  ·rfl
theorem Z4Q{o:Option Addr}{k:Nat}{b:By}(h:RdB w o b)(hl:b.length<2^30) :
  J0 J Z0g.n #[.slice o b.length k] w (fun e w'=>∃o' k',e=Y (.slice o' (enc (.s b)).length k')/\ZT w w' tU8 1 o' (enc (.s b)).length k' ((enc (.s b)).map bV)):=by
 refine Z0g.vc _ _ _ _ _ ?_;unfold Z0g.Vc;refine(Z6W h hl).mono ?_;rintro _ w1⟨o1,k1,rfl,F1⟩;exact⟨_,_,_,rfl,o1,k1,rfl,F1⟩
theorem Z3n{o:Option Addr}{k:Nat}{b:By}(h:RdB w o b)(hl:b.length<2^30) :
  J0 J Z0i.n #[.slice o b.length k] w (fun e w'=>∃o' k',e=Y (.slice o' (Trie.Z2r b.length 192++b).length k')/\ZT w w' tU8 1 o' (Trie.Z2r b.length 192++b).length k' ((Trie.Z2r b.length 192++b).map bV)):=by
 refine Z0i.vc _ _ _ _ _ ?_;unfold Z0i.Vc;refine(Z7h 192 b.length (by omega) (by omega)).mono ?_;rintro _ w1⟨o1,k1,rfl,F1⟩;have:=(Z5Q b.length 192).2;obtain⟨o2,k2,w2,hr2,F2⟩:=ZW (ty:=Zu) (k2:=k) F1 (h.mod' F1.mod) (by omega);exact⟨_,_,_,rfl,_,w2,hr2,_,_,_,rfl,o2,k2,by rw[Q],by rw[Q];exact F2⟩
theorem ZGe(b:UInt8):G K (Jb (b.toNat:Int) 16)=((b>>>4).toNat:Int):=by
 have:∀n:Fin 256,G K (Jb ((J8 n).toNat:Int) 16)=((J8 n>>>4).toNat:Int):=by decide +kernel
 exact this b.toFin
theorem ZGf(b:UInt8):JK (b.toNat:Int) 16=((b&&&15).toNat:Int):=by
 have:∀n:Fin 256,JK ((J8 n).toNat:Int) 16=((J8 n&&&15).toNat:Int):=by decide +kernel
 exact this b.toFin
theorem Z2J{o:Option Addr}{k:Nat}{bs:By}(hr:RdB w o bs)(hl:bs.length<=2^30) :
  J0 J Z00.n #[.slice o bs.length k] w (fun e w'=>∃o' k',e=Y (.slice o' (nibbles bs).length k')/\ZT w w' tU8 1 o' (nibbles bs).length k' ((nibbles bs).map bV)):=by
 refine Z00.vc _ _ _ _ _ ?_;unfold Z00.Vc
 refine⟨fun o' l' k' i w'=>∃j:Nat,i=(j:Int)/\j<=bs.length/\l'=(nibbles (bs.take j)).length/\ZT w w' tU8 1 o' l' k' ((nibbles (bs.take j)).map bV),fun _ _ _ i _=>((bs.length:Int)-i).toNat,
  ⟨0,rfl,JT _,rfl,ZT.nil (Mod.refl w) _ _⟩,?_⟩
 rintro o' _ k' _ _ w1⟨j,rfl,hj,rfl,F⟩;refine⟨fun hlt=>?_,fun hge=>?_⟩
 ·rintro _ rfl
  have hjl:j<bs.length:=by omega
  obtain⟨b,f,rfl,hb,hc⟩:=Z1g hr hjl;have htk:bs.take (j+1)=bs.take j++[bs[j]]:=by rw[J6,W hjl];rfl
  have F':=F.mod' (Mod.drew (S:=NoB) w1);have hc':w1.drew.cell? (Addr.add ⟨b,f,J2⟩ (JI (j:Int)))=O (bV bs[j]):=by rw[Z6,J5];exact(ZU F'.mod hb (fun h=>h)).trans hc
  refine⟨_,rfl,⟨by omega,by omega⟩,_,hc',_,rfl,⟨by omega,by omega⟩,_,hc',?_⟩;rintro d w2⟨rfl,rfl⟩;have hnl:=ZQ (bs.take j);rw[Js]at hnl;obtain⟨o3,k3,w3,hr3,F3⟩:=ZW (ty:=Zu) (k2:=2) (F'.mod' (Mod.alloc _ _)) (ZAf (w:=w1.drew) (bs[j]>>>4) (bs[j]&&&15) (ZGe _) (ZGf _)) (by simp;omega);refine⟨_,w3,hr3,_,_,_,rfl,⟨j+1,by rw[Z0 (by omega) (by omega)];omega,hjl,?_,?_⟩,?_⟩
  ·rw[htk,Z36,Q]
  ·rw[htk,Z36];exact F3
  ·dsimp only
   rw[Z0 (by omega) (by omega)];omega
 ·obtain rfl:j=bs.length:=by omega
  rw[Jt]at F ⊢;exact⟨_,_,rfl,F⟩
theorem Z6X(w:V):J0 J Zx.n #[] w (fun e w'=>e=Y (JH (hashA emptyH))/\Vcg.Mod NoB w w'):=by
 refine Zx.vc _ _ ?_;unfold Zx.Vc;rintro d1 w1⟨rfl,rfl⟩ d2 w2⟨rfl,rfl⟩;have M1:=Mod.alloc (S:=NoB) w (JF (J1 32 (.int K 0)) 27);have H:=Blk.new w 27 (J1 32 (.int K 0));generalize w.alloc (JF (J1 32 (.int K 0)) 27)=w1 at *
 have r2:=ZEM w1;have M2:=Mod.alloc (S:=NoB) w1 (JF #[.int K 128] 5);generalize w1.alloc (JF #[.int K 128] 5)=w2 at *
 refine(Z4I [128] rfl (by simp) r2).mono ?_;rintro _ w4⟨rfl,M4⟩;have M24:=M2.trans M4 (fun _ _ h=>h);obtain⟨h1,h2,h3⟩:=Z1M (H.mod' M24) (by simp) (sumOf [128]);exact⟨_,rfl,_,h1,_,h2.rowAll (ZA _),rfl,ZK (M1.trans M24 (fun _ _ h=>h)) h3 (Ja _)⟩
end
theorem ZFZ(a b:UInt8)(hb:b.toNat<16):G K (G K (16*(a.toNat:Int))+(b.toNat:Int))=((a<<<4|||b).toNat:Int):=by
 have:∀(n:Fin 256)(m:Fin 16),G K (G K (16*((J8 n).toNat:Int))+(m.val:Int))=((J8 n<<<4|||J3 m.val).toNat:Int):=by decide +kernel
 have h:=this a.toFin ⟨b.toNat,hb⟩;simp only at h;rw[show J3 b.toNat=b by simp]at h;exact h
theorem ZD8{p:By}(h:Nib p)(leaf:Bool):Nib (headed p leaf):=by
 intro x hx;unfold headed at hx;split at hx
 ·rcases List.mem_cons.1 hx with rfl|hx
  ·cases leaf<;>decide
  ·exact h x hx
 ·rcases List.mem_cons.1 hx with rfl|hx
  ·cases leaf<;>decide
  ·rcases List.mem_cons.1 hx with rfl|hx
   ·decide
   ·exact h x hx
section
variable{w:V}
theorem Z7a{o:Option Addr}{k:Nat}{bs:By}(hr:RdB w o bs)(hl:bs.length<=2^30)(leaf:Bool) :
  J0 J Z0S.n #[.slice o bs.length k,.bool leaf] w (fun e w'=>∃o' k',e=Y (JO #[.slice o' (Z7x bs leaf).1.length k',.int I (Z7x bs leaf).2])/\ZT w w' tU8 1 o' (Z7x bs leaf).1.length k' ((Z7x bs leaf).1.map bV)):=by
 refine ZG fun R hR=>Z0S.vc _ _ _ _ _ _ ?_;unfold Z0S.Vc
 have bad:Z2x bs->R (Y (JO #[.slice J2 0 0,.int I 140])) w:=fun h=>by
  refine hR _ _ ⟨J2,0,?_,?_⟩
  ·unfold Z7x;rw[if_pos h];rfl
  ·unfold Z7x;rw[if_pos h];exact ZT.nil (Mod.refl w) _ _
 refine⟨fun h=>bad (.inl (by omega)),fun h128=>?_⟩;refine⟨fun i w'=>∃j:Nat,i=(j:Int)/\j<=bs.length/\w'=w/\∀x∈bs.take j,x.toNat<16,fun i _=>((bs.length:Int)-i).toNat,⟨0,rfl,JT _,rfl,by simp⟩,?_⟩;rintro _ _ w⟨j,rfl,hj,rfl,hn⟩;refine⟨fun hlt=>?_,fun hge=>?_⟩
 ·have hjl:j<bs.length:=by omega
  obtain⟨b,f,rfl,hb,hc⟩:=Z1g hr hjl;have htk:bs.take (j+1)=bs.take j++[bs[j]]:=by rw[J6,W hjl];rfl
  refine⟨_,rfl,⟨by omega,by omega⟩,_,by rw[Z6,J5];exact hc,fun h=>bad (.inr ⟨bs[j],Jc _,?_⟩),fun h=>⟨⟨j+1,by rw[Z0 (by omega) (by omega)];omega,hjl,rfl,?_⟩,by dsimp only;rw[Z0 (by omega) (by omega)];omega⟩⟩
  ·show(16:UInt8)<=bs[j]
   rw[Jg];show 16<=_;omega
  ·intro x hx
   rw[htk]at hx;rcases List.mem_append.1 hx with hx|hx
   ·exact hn x hx
   ·simp only[Jn]at hx;subst hx;omega
 ·obtain rfl:j=bs.length:=by omega
  rw[Jt]at hn;have hnib:Nib bs:=hn
  have hgood:¬Z2x bs:=by
   rintro(h|⟨x,hx,h⟩)
   ·omega
   ·have h1:=hn x hx
    have h2:(16:UInt8)<=x:=h;rw[Jg]at h2;have h3:16<=x.toNat:=h2;omega
  have hpk:Z7x bs leaf=(Z3l (headed bs leaf),0):=by unfold Z7x;rw[if_neg hgood]
  rw[hpk]at hR;refine⟨fun m w'=>m=((Z1T leaf).toNat:Int)/\w'=w,⟨fun h=>⟨by rw[h];rfl,rfl⟩,fun h=>⟨by rw[h];rfl,rfl⟩⟩,?_⟩;rintro _ _ w7⟨rfl,rfl⟩;rintro d8 w9⟨rfl,rfl⟩;have hho:(Z1k bs leaf).length<=2:=by unfold Z1k;split<;>simp
  refine⟨fun o' l' k' w'=>∃k0,k'=k0/\l'=(Z1k bs leaf).length/\ZT w7 w' tU8 1 o' l' k' ((Z1k bs leaf).map bV),⟨fun hodd=>?_,fun hev=>?_⟩,?_⟩
  ·rintro d11 w12⟨rfl,rfl⟩
   have ho:bs.length%2=1:=by
    have:JK ((bs.length:Nat):Int) 2=((bs.length%2:Nat):Int):=rfl;omega
   have e:Z1k bs leaf=[Z1T leaf+1]:=by unfold Z1k;rw[if_pos ho]
   rw[e];have hw:G K (((Z1T leaf).toNat:Int)+1)=((Z1T leaf+1).toNat:Int):=by cases leaf<;>decide
   rw[hw];exact⟨_,rfl,rfl,ZT.from_ (Z4A _ [Z1T leaf+1] _ rfl (by simp[Q5])) (Mod.alloc _ _)⟩
  ·have ho:¬bs.length%2=1:=by
     have:JK ((bs.length:Nat):Int) 2=((bs.length%2:Nat):Int):=rfl;omega
   have e:Z1k bs leaf=[Z1T leaf,0]:=by unfold Z1k;rw[if_neg ho]
   rw[e];exact⟨_,rfl,rfl,Z4A _ [Z1T leaf,0] _ rfl (by simp[Q5])⟩
  ·rintro o13 _ _ _ w14⟨c13,rfl,rfl,F14⟩
   obtain⟨o16,k16,w16,hr16,F16⟩:=ZW (ty:=Zu) (k2:=k) F14 (hr.mod' F14.mod) (by omega);rw[<-Z5R]at F16;have hlh:(Z1k bs leaf).length+bs.length=(headed bs leaf).length:=by rw[Z5R,Q]
   rw[hlh]at hr16 F16;refine⟨_,w16,hr16,_,_,_,rfl,?_⟩;obtain⟨N,hN⟩:=Z56 bs leaf;have hrh:=ZN F16;have hnh:=ZD8 hnib leaf;generalize headed bs leaf=H at *
   refine⟨fun o' l' k' i w'=>∃j:Nat,i=((2*j:Nat):Int)/\j<=N/\l'=(Z3l (H.take (2*j))).length/\ZT w16 w' tU8 1 o' l' k' ((Z3l (H.take (2*j))).map bV),fun _ _ _ i _=>((H.length:Int)-i).toNat,
    ⟨0,rfl,JT _,rfl,ZT.nil (Mod.refl w16) _ _⟩,?_⟩
   rintro o' _ k' _ _ w23⟨j,rfl,hj,rfl,F⟩;refine⟨fun hlt=>?_,fun hge=>?_⟩
   ·rintro _ rfl
    have h1:2*j<H.length:=by omega
    have h2:2*j+1<H.length:=by omega
    have F24:=F.mod' (Mod.drew (S:=NoB) w23);obtain⟨b,f,rfl,hb,hc1⟩:=Z1g hrh h1;obtain⟨b',f',hb',_,hc2⟩:=Z1g hrh h2;cases hb';have e1:G I (((2*j:Nat):Int)+1)=((2*j+1:Nat):Int):=by rw[Z0 (by omega) (by omega)];omega
    have e2:G I (((2*j:Nat):Int)+2)=((2*(j+1):Nat):Int):=by rw[Z0 (by omega) (by omega)];omega
    rw[e1,e2];refine⟨_,rfl,⟨by omega,by omega⟩,_,by rw[Z6,J5];exact(ZU F24.mod hb (fun h=>h)).trans hc1,_,rfl,⟨by omega,by omega⟩,_,by rw[Z6,J5];exact(ZU F24.mod hb (fun h=>h)).trans hc2,?_⟩;rw[ZFZ _ _ (hnh _ (Jc _))];rintro d29 w30⟨rfl,rfl⟩
    have htk:H.take (2*(j+1))=H.take (2*j)++[H[2*j],H[2*j+1]]:=by
     rw[show 2*(j+1)=2*j+1+1 by omega,J6,J6,W h1,W h2,Jq];rfl
    have htl:(H.take (2*j)).length=2*j:=by rw[Js];omega
    have hps:=Z68 j (H.take (2*j)) H[2*j] H[2*j+1] htl;have hpl:=Z5Z j (H.take (2*j)) htl
    have one:RdB (w23.drew.alloc (JF #[.int K ((H[2*j]<<<4|||H[2*j+1]).toNat:Int)] 5)) (O ⟨w23.drew.heap.size,0,J2⟩) [H[2*j]<<<4|||H[2*j+1]] :=
     RdB.of_blk (Blk.new w23.drew 5 #[bV (H[2*j]<<<4|||H[2*j+1])]) (fun i hi=>by
      obtain rfl:i=0:=by simpa using hi
      rfl)
    obtain⟨o31,k31,w31,hr31,F31⟩:=ZW (ty:=Zu) (k2:=1) (F24.mod' (Mod.alloc _ _)) one (by simp;omega);refine⟨_,w31,hr31,_,_,_,rfl,⟨j+1,rfl,by omega,?_,?_⟩,by dsimp only;omega⟩
    ·rw[htk,hps,Q]
    ·rw[htk,hps];exact F31
   ·obtain rfl:j=N:=by omega
    rw[JE (by omega)]at F ⊢;exact hR _ _ ⟨_,_,rfl,ZT.from_ F F16.mod⟩
end
abbrev tRn:Jj:=62
abbrev ZEs:Jj:=28
theorem ZCl:Tryz.prog.underlying ZEs=O (.slice tRn):=by kernel_rfl
theorem ZGT:(Tryz.prog.info? tRn).map (fun i=>(i.zero,i.size,i.bytes))=O (O (JH nd0),33,56):=by kernel_rfl
section
variable{C:Type}{S:C->Prop}{w0 w w1 w':V}{lab lab':Nat->C}{c cb:C}
def Z7z(w:V)(lab:Nat->C)(c cb:C)(l:List (By×By))(o:Option Addr)(n k:Nat):Prop :=
 n=l.length/\∃vs,COw w lab c tRn 33 o n k vs/\ZS w lab cb vs l
theorem Z7z.nil(w:V)(lab:Nat->C)(c cb:C):Z7z w lab c cb [] J2 0 0:=⟨rfl,[],COw.nil w lab c _ _,ZS.nil w lab cb⟩
theorem Z7z.stp{l:List (By×By)}{o:Option Addr}{n k:Nat}(h:Z7z w lab c cb l o n k)(s:Stp S w lab w' lab')(hs:¬S c)(hb:¬S cb):Z7z w' lab' c cb l o n k:=by
 obtain⟨h1,vs,h2,h3⟩:=h;exact⟨h1,vs,h2.stp s hs,h3.stp s hb⟩
theorem Z7z.push{l:List (By×By)}{o:Option Addr}{n k D:Nat}{h b:By}{ob:Option Addr}{kb:Nat}(H:Z7z w lab c cb l o n k)(hcb:cb≠c)(B:Blk w D tRn (ndA h ob b.length kb))(hh:h.length=32)(hb:CBy w lab cb ob b)(hk:b.length<=kb)(hl:l.length<=2^20) :
  ∃o' k' w',U J (builtinV J4 #[ZEs,ZEs] ZEs #[.slice o n k,.slice (O ⟨D,0,J2⟩) 1 1]) w=JV (.slice o' (n+1) k') w' /\
   Z7z w' (ext lab w.heap.size c) c cb (l++[(h,b)]) o' (n+1) k'/\Stp (·=c) w lab w' (ext lab w.heap.size c):=by
 obtain⟨rfl,vs,hO,hC⟩:=H;obtain⟨i,hi,hz,hs,hbt⟩:=Z25 ZGT;obtain⟨o',k',w',h1,h2,h3⟩:=COw.append (ty:=ZEs) ZCl hi hz hs (by rfl) hO (Z5E ZCl B (Z4b _ _ _ _) (ZBO _ _ _ _)) (by simp only[Q5];omega) (by rw[hbt];omega);exact⟨o',k',w',h1,⟨by simp,_,h2,(hC.push hh hb hk).stp h3 hcb⟩,h3⟩
theorem ZS.hash{vs:List Value}{l:List (By×By)}{o:Option Addr}(h:ZS w lab cb vs l)(hR:Z4k w lab c o vs){j:Nat}(hj:j<l.length):∃g f,o=O ⟨g,f,J2⟩/\g<w.heap.size/\lab g=c/\ZH w ⟨g,f+j*33,J2⟩ 32 (hashA l[j].1):=by
 obtain⟨h1,h2,ob,kb,h3,h4⟩:=h.2 j hj;obtain⟨g,f,ho,hg,hl,hc⟩:=hR _ _ h3;refine⟨g,f,ho,hg,hl,ZA _,fun i hi=>?_⟩;obtain⟨g',f',ho',_,_,hc'⟩:=hR _ _ (h2 i hi);rw[ho]at ho';cases ho';rw[Z6,show f+j*33+i=f+(j*33+i) by omega,hc'];show _=(ZP 32 (fun i=>bV (l[j].1.getD i 0)))[i]?;rw[ZE hi]
theorem ZS.bytes{vs:List Value}{l:List (By×By)}{o:Option Addr}(h:ZS w lab cb vs l)(hR:Z4k w lab c o vs){j:Nat}(hj:j<l.length):∃g f,o=O ⟨g,f,J2⟩/\g<w.heap.size/\∃ob kb,w.cell? ⟨g,f+(j*33+32),J2⟩=O (.slice ob l[j].2.length kb)/\CBy w lab cb ob l[j].2/\l[j].2.length<=kb:=by
 obtain⟨h1,h2,ob,kb,h3,h4⟩:=h.2 j hj;obtain⟨g,f,ho,hg,hl,hc⟩:=hR _ _ h3;exact⟨g,f,ho,hg,ob,kb,hc,h4⟩
end
abbrev ZEr:Jj:=118
structure BS (w:V) (L:Nat->Nat) (d0:Nat) (es:List (By×By)) (out:List (By×By)):Prop where
 ex:∃ol cl op cp on nn kn,CB w L 1 d0 ZEr #[.slice ol es.length cl,.slice op es.length cp,.slice on nn kn,.bool JD] /\
  (∀(j:Nat)(hj:j<es.length),∃b f ov kv,ol=O ⟨b,f,J2⟩/\b<w.heap.size/\L b=6/\w.cell? ⟨b,f+(j*2+1),J2⟩=O (.slice ov es[j].2.length kv)/\CBy w L 6 ov es[j].2) /\
  (∀(j:Nat)(hj:j<es.length),∃b f o k,op=O ⟨b,f,J2⟩/\b<w.heap.size/\L b=7/\w.cell? ⟨b,f+j,J2⟩=O (.slice o es[j].1.length k)/\es[j].1.length<=k/\CBy w L 5 o es[j].1) /\
  Z7z w L 4 5 out on nn kn
theorem BS.stp{S:Nat->Prop}{w w':V}{L L':Nat->Nat}{d0:Nat}{es out:List (By×By)}(h:BS w L d0 es out)(s:Stp S w L w' L')(h1:¬S 1)(h4:¬S 4)(h5:¬S 5)(h6:¬S 6)(h7:¬S 7):BS w' L' d0 es out:=by
 obtain⟨ol,cl,op,cp,on,nn,kn,a,b,c,d⟩:=h.ex;refine⟨⟨ol,cl,op,cp,on,nn,kn,a.stp s h1,fun j hj=>?_,fun j hj=>?_,d.stp s h4 h5⟩⟩
 ·obtain⟨g,f,ov,kv,e1,e2,e3,e4,e5⟩:=b j hj
  exact⟨g,f,ov,kv,e1,JP e2 s.size,(s.lab g e2).trans e3,(JL (s.block g e2 (by rw[e3];exact h6))).trans e4,e5.stp s h6⟩
 ·obtain⟨g,f,o,k,e1,e2,e3,e4,e5,e6⟩:=c j hj
  exact⟨g,f,o,k,e1,JP e2 s.size,(s.lab g e2).trans e3,(JL (s.block g e2 (by rw[e3];exact h7))).trans e4,e5,e6.stp s h5⟩
theorem BS.mod'{w w':V}{L:Nat->Nat}{d0:Nat}{es out:List (By×By)}(h:BS w L d0 es out)(M:Vcg.Mod NoB w w')(q:Nat):BS w' (ext L w.heap.size q) d0 es out :=
 h.stp (S:=NoS) (Stp.of_nob M q) (fun h=>h) (fun h=>h) (fun h=>h) (fun h=>h) (fun h=>h)
abbrev SB1:Nat->Prop:=fun k=>k=1\/k=4
theorem Z8a{w:V}{L:Nat->Nat}{d0 k:Nat}{es out:List (By×By)}{o:Option Addr}{x h:By}(hB:BS w L d0 es out)(hx:CBy w L 5 o x)(hh:h.length=32)(hk:x.length<=k)(hl:out.length<=2^20) :
  J0 J Zd.n #[J7 (O ⟨d0,0,J2⟩),JH (hashA h),.slice o x.length k] w (fun e w'=>e=Y (JO #[])/\∃L',Stp SB1 w L w' L'/\(∀k,w.heap.size<=k->L' k=4\/L' k=5)/\BS w' L' d0 es (if met out h then out else out++[(h,x)])):=by
 refine ZG fun R hR=>Zd.vc _ _ _ _ _ _ _ ?_;unfold Zd.Vc;rintro d3 w1⟨rfl,rfl⟩;have M1:=Mod.alloc (S:=NoB) w (JF (hashA h) 27);have H1:=Blk.new w 27 (hashA h);generalize w.alloc (JF (hashA h) 27)=w1 at *
 refine⟨fun w'=>Vcg.Mod NoB w1 w'/\met out h=JD,⟨fun i w'=>∃j:Nat,i=(j:Int)/\j<=out.length/\Vcg.Mod NoB w1 w'/\met (out.take j) h=JD,fun i _=>((out.length:Int)-i).toNat,⟨0,rfl,JT _,Mod.refl _,rfl⟩,?_⟩,?_⟩
 ·rintro _ _ w2⟨j,rfl,hj,M2,hm⟩
  have M02:=M1.trans M2 (fun _ _ h=>h);have B2:=hB.mod' M02 5;obtain⟨ol,cl,op,cp,on,nn,kn,c1,c2,c3,c4⟩:=B2.ex;obtain⟨rfl,vs,O1,O2⟩:=c4;simp only[Z6,JW];refine⟨_,_,_,c1.blk.rd1 rfl,fun hlt=>⟨_,c1.blk.rd1 rfl,fun _=>?_,fun h=>by cases h⟩,fun hge=>⟨M2,?_⟩⟩
  ·rintro _ rfl
   have MD:=Mod.drew (S:=NoB) w2;have hjl:j<out.length:=by omega
   obtain⟨g,f,rfl,hg,_,hrow⟩:=O2.hash O1.row hjl;have hrow':ZH w2.drew (Addr.add ⟨g,f,J2⟩ (JI (j:Int)*33)) 32 (hashA out[j].1):=by rw[Z6,J5];exact hrow
   have hlen:=(O2.2 j hjl).1;have htk:out.take (j+1)=out.take j++[out[j]]:=by rw[J6,W hjl];rfl
   have hm2:met (out.take (j+1)) h=decide (out[j].1=h):=by
    rw[htk];unfold met at hm ⊢;rw[List.any_append,hm];simp
   refine⟨_,_,_,(c1.blk.mod' MD).rd1 rfl,_,rfl,⟨by omega,by omega⟩,_,hrow',_,(H1.mod' (M2.trans MD (fun _ _ h=>h))).rowAll (ZA _),_,ZE0 _ _ hlen hh,_,rfl,fun he=>?_,fun he=>?_⟩
   ·have hmt:met out h=Ji:=by
      unfold met;exact List.any_eq_true.2 ⟨out[j],Jc _,he⟩
    rw[hmt,if_pos rfl]at hR;exact hR _ _ ⟨rfl,_,(Stp.of_nob (M02.trans MD (fun _ _ h=>h)) 5).mono (S:=NoS) (fun _ h=>h.elim),fun k hk=>.inr (ext_new hk),hB.mod' (M02.trans MD (fun _ _ h=>h)) 5⟩
   ·exact⟨⟨j+1,by rw[Z0 (by omega) (by omega)];omega,hjl,M2.trans MD (fun _ _ h=>h),by rw[hm2];exact he⟩,by rw[Z0 (by omega) (by omega)];omega⟩
  ·rw[JE (by omega)]at hm;exact hm
 ·rintro _ w2⟨M2,hm⟩
  rintro _ rfl;rw[hm]at hR;simp only[Bool.false_eq_true,if_false]at hR;have M3:=M2.step_drew;have M03:=M1.trans M3 (fun _ _ h=>h);have H3:=H1.mod' M3;have B3:=hB.mod' M03 5;have s03:Stp NoS w L w2.drew (ext L w.heap.size 5):=Stp.of_nob M03 5;have hx3:=hx.stp s03 (fun h=>h);have hnew3:∀k,w.heap.size<=k->ext L w.heap.size 5 k=4\/ext L w.heap.size 5 k=5:=fun k hk=>.inr (ext_new hk);have hsz3:=M03.size;generalize w2.drew=w3 at *
  generalize ext L w.heap.size 5=L3 at *
  obtain⟨ol,cl,op,cp,on,nn,kn,c1,c2,c3,c4⟩:=B3.ex;have hZ:nd0.size=33:=rfl;simp only[Z6,JW];refine⟨_,_,_,c1.blk.rd1 rfl,_,H3.rowAll (ZA _),ZA _,by rw[ZX];unfold lputL;rw[ZX,hZ],?_⟩;rw[Z6p hZ];rintro d w4⟨rfl,rfl⟩;have M4:=Mod.alloc (S:=NoB) w3 (JF (ndA h o x.length k) tRn);have N4:=Blk.new w3 tRn (ndA h o x.length k);have s4:Stp NoS w3 L3 (w3.alloc (JF (ndA h o x.length k) tRn)) (ext L3 w3.heap.size 5):=Stp.of_nob M4 5;show Jh (w3.alloc (JF (ndA h o x.length k) tRn)) _=_/\∃(v30:Value)(w31:V),U J (builtinV J4 #[28,28] 28 #[(.slice on nn kn),(.slice (O ⟨w3.heap.size,0,J2⟩) 1 1)]) (w3.alloc (JF (ndA h o x.length k) tRn))=JV v30 w31/\_
  have hnew4:∀k,w.heap.size<=k->ext L3 w3.heap.size 5 k=4\/ext L3 w3.heap.size 5 k=5:=fun k hk=>by
   by_cases hlt:k<w3.heap.size
   ·rw[Z23 hlt];exact hnew3 k hk
   ·exact .inr (ext_new (by omega))
  have hsz4:=M4.size;generalize w3.alloc (JF (ndA h o x.length k) tRn)=w4 at *
  have B4:=B3.stp s4 (fun h=>h) (fun h=>h) (fun h=>h) (fun h=>h) (fun h=>h);have c14:=c1.stp s4 (fun h=>h);have c44:=c4.stp s4 (fun h=>h) (fun h=>h);have hx4:=hx3.stp s4 (fun h=>h);generalize ext L3 w3.heap.size 5=L4 at *
  refine⟨c14.blk.rd1 rfl,?_⟩;obtain⟨o',k',w5,hr5,O5,s5⟩:=c44.push (by decide) N4 hh hx4 hk hl
  have hnew5:∀k,w.heap.size<=k->ext L4 w4.heap.size 4 k=4\/ext L4 w4.heap.size 4 k=5:=fun k hk=>by
   by_cases hlt:k<w4.heap.size
   ·rw[Z23 hlt];exact hnew4 k hk
   ·exact .inl (ext_new (by omega))
  have c15:=c14.stp s5 (by decide);have B5:∀(j:Nat)(hj:j<es.length),_:=fun j hj=>c2 j hj;have s35:=(s4.mono (T:=fun k=>k=4) (fun _ h=>h.elim)).trans s5;generalize ext L4 w4.heap.size 4=L5 at *
  refine⟨_,w5,hr5,o',_,k',rfl,c15.blk.canSet (by simp) rfl,?_⟩;rintro _ rfl;have s6:Stp (fun k=>k=1) w5 L5 (w5.setCell ⟨d0,2,J2⟩ (.slice o' (nn+1) k')) L5:=Stp.setCell c15.clr;have s36:Stp SB1 w3 L3 (w5.setCell ⟨d0,2,J2⟩ (.slice o' (nn+1) k')) L5:=(s35.mono (fun _ h=>.inr h)).trans (s6.mono (fun _ h=>.inl h));refine hR _ _ ⟨rfl,L5,(s03.mono (fun _ h=>h.elim)).trans s36,hnew5,⟨⟨ol,cl,op,cp,o',nn+1,k',c15.set 2 _,fun j hj=>?_,fun j hj=>?_,O5.stp s6 (by decide) (by decide)⟩⟩⟩
  ·obtain⟨g,f,ov,kv,e1,e2,e3,e4,e5⟩:=c2 j hj
   exact⟨g,f,ov,kv,e1,JP e2 s36.size,(s36.lab g e2).trans e3,(JL (s36.block g e2 (by rw[e3];decide))).trans e4,e5.stp s36 (by decide)⟩
  ·obtain⟨g,f,o,k,e1,e2,e3,e4,e5,e6⟩:=c3 j hj
   exact⟨g,f,o,k,e1,JP e2 s36.size,(s36.lab g e2).trans e3,(JL (s36.block g e2 (by rw[e3];decide))).trans e4,e5,e6.stp s36 (by decide)⟩
end Go.Proofs.YtfghidehlnfdiaaGreat
end
