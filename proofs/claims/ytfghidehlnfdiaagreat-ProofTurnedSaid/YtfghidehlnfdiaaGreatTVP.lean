/- Contracts of the reference: what a build holds; a node that is laid down. -/
/- The reference's build: segments of entries; what two paths share. -/
/- Contracts of the reference: an item; a reference. -/
/- Contracts of the reference: a row's item. -/
/- Contracts of the reference: a branch's item; all items. -/
/- Contracts of the reference: made, Of. -/
/- Contracts of the reference: Put, Find; the plain map. -/
/- The sorted map and its trie: plain Lean. -/
/- Contracts: Find, Nodes, things held against one another. -/
/- States as lists; a round looks at 25 lanes alone. -/
/- The document's example: the law's own check of it. -/
/- The verification conditions of some functions, printed by a program of ours (wip/PrintVc.lean). -/
import Derived.Test.YtfghidehlnfdiaaGreatTR3
import Derived.Test.YtfghidehlnfdiaaGreatKC7
import Derived.Test.YtfghidehlnfdiaaGreatProg
import Derived.KernelRfl
set_option linter.unusedVariables false
set_option linter.unusedSimpArgs false
section
namespace Go.Proofs.YtfghidehlnfdiaaGreat
open Go Go.Vcg Go.Trie
abbrev tBuild:TypeId:=118
structure BS (w:World) (L:Nat→Nat) (d0:Nat) (es:List (By×By)) (out:List (By×By)):Prop where
 ex:∃ol cl op cp on nn kn,CB w L 1 d0 tBuild #[.slice ol es.length cl,.slice op es.length cp,.slice on nn kn,.bool false] ∧
  (∀(j:Nat) (hj:j < es.length),∃b f ov kv,ol=some ⟨b,f,none⟩∧b < w.heap.size∧L b=6∧w.cell? ⟨b,f+(j * 2+1),none⟩=some (.slice ov es[j].2.length kv)∧CBy w L 6 ov es[j].2) ∧
  (∀(j:Nat) (hj:j < es.length),∃b f o k,op=some ⟨b,f,none⟩∧b < w.heap.size∧L b=7∧w.cell? ⟨b,f+j,none⟩=some (.slice o es[j].1.length k)∧es[j].1.length≤k∧CBy w L 5 o es[j].1) ∧
  RnOwn w L 4 5 out on nn kn
theorem BS.stp {S:Nat→Prop} {w w':World} {L L':Nat→Nat} {d0:Nat} {es out:List (By×By)} (h:BS w L d0 es out) (s:Stp S w L w' L') (h1:¬S 1) (h4:¬S 4) (h5:¬S 5) (h6:¬S 6) (h7:¬S 7):BS w' L' d0 es out:=by
 obtain ⟨ol,cl,op,cp,on,nn,kn,a,b,c,d⟩:=h.ex
 refine ⟨⟨ol,cl,op,cp,on,nn,kn,a.stp s h1,fun j hj=>?_,fun j hj=>?_,d.stp s h4 h5⟩⟩
 ·obtain ⟨g,f,ov,kv,e1,e2,e3,e4,e5⟩:=b j hj
  exact ⟨g,f,ov,kv,e1,Nat.lt_of_lt_of_le e2 s.size,(s.lab g e2).trans e3,(World.cell?_of_block (s.block g e2 (by rw [e3]; exact h6))).trans e4,e5.stp s h6⟩
 ·obtain ⟨g,f,o,k,e1,e2,e3,e4,e5,e6⟩:=c j hj
  exact ⟨g,f,o,k,e1,Nat.lt_of_lt_of_le e2 s.size,(s.lab g e2).trans e3,(World.cell?_of_block (s.block g e2 (by rw [e3]; exact h7))).trans e4,e5,e6.stp s h5⟩
theorem BS.mod' {w w':World} {L:Nat→Nat} {d0:Nat} {es out:List (By×By)} (h:BS w L d0 es out) (M:Vcg.Mod NoB w w') (q:Nat):BS w' (ext L w.heap.size q) d0 es out :=
 h.stp (S:=NoS) (Stp.of_nob M q) (fun h=>h) (fun h=>h) (fun h=>h) (fun h=>h) (fun h=>h)
abbrev SB1:Nat→Prop:=fun k=>k=1∨k=4
theorem node_calls {w:World} {L:Nat→Nat} {d0 k:Nat} {es out:List (By×By)} {o:Option Addr} {x h:By} (hB:BS w L d0 es out) (hx:CBy w L 5 o x) (hh:h.length=32) (hk:x.length≤k) (hl:out.length≤2 ^ 20) :
 Calls Tryz.prog moraineref14_build_node.n #[.pointer (some ⟨d0,0,none⟩),.agg (hashA h),.slice o x.length k] w (fun e w'=>e=.returned (.tuple #[])∧∃L',Stp SB1 w L w' L'∧(∀k,w.heap.size≤k→L' k=4∨L' k=5)∧BS w' L' d0 es (if met out h then out else out++[(h,x)])):=by
 refine calls_gen fun R hR=>moraineref14_build_node.vc _ _ _ _ _ _ _ ?_
 unfold moraineref14_build_node.Vc
 rintro d3 w1 ⟨rfl,rfl⟩
 have M1:=Mod.alloc (S:=NoB) w (.cells (hashA h) 27)
 have H1:=Blk.new w 27 (hashA h)
 generalize w.alloc (.cells (hashA h) 27)=w1 at *
 refine ⟨fun w'=>Vcg.Mod NoB w1 w'∧met out h=false,⟨fun i w'=>∃j:Nat,i=(j:Int)∧j≤out.length∧Vcg.Mod NoB w1 w'∧met (out.take j) h=false,fun i _=>((out.length:Int) - i).toNat,⟨0,rfl,Nat.zero_le _,Mod.refl _,rfl⟩,?_⟩,?_⟩
 ·rintro _ _ w2 ⟨j,rfl,hj,M2,hm⟩
  have M02:=M1.trans M2 (fun _ _ h=>h)
  have B2:=hB.mod' M02 5
  obtain ⟨ol,cl,op,cp,on,nn,kn,c1,c2,c3,c4⟩:=B2.ex
  obtain ⟨rfl,vs,O1,O2⟩:=c4
  simp only [add_at,Nat.zero_add]
  refine ⟨_,_,_,c1.blk.rd1 rfl,fun hlt=>⟨_,c1.blk.rd1 rfl,fun _=>?_,fun h=>by cases h⟩,fun hge=>⟨M2,?_⟩⟩
  ·rintro _ rfl
   have MD:=Mod.drew (S:=NoB) w2
   have hjl:j < out.length:=by omega
   obtain ⟨g,f,rfl,hg,_,hrow⟩:=O2.hash O1.row hjl
   have hrow':RowAt w2.drew (Addr.add ⟨g,f,none⟩ (Int.toNat (j:Int) * 33)) 32 (hashA out[j].1):=by rw [add_at,Int.toNat_natCast]; exact hrow
   have hlen:=(O2.2 j hjl).1
   have htk:out.take (j+1)=out.take j++[out[j]]:=by rw [List.take_add_one,List.getElem?_eq_getElem hjl]; rfl
   have hm2:met (out.take (j+1)) h=decide (out[j].1=h):=by
    rw [htk]
    unfold met at hm ⊢
    rw [List.any_append,hm]
    simp
   refine ⟨_,_,_,(c1.blk.mod' MD).rd1 rfl,_,rfl,⟨by omega,by omega⟩,_,hrow',_,(H1.mod' (M2.trans MD (fun _ _ h=>h))).rowAll (size_hashA _),_,hash_eq _ _ hlen hh,_,rfl,fun he=>?_,fun he=>?_⟩
   ·have hmt:met out h=true:=by
     unfold met
     exact List.any_eq_true.2 ⟨out[j],List.getElem_mem _,he⟩
    rw [hmt,if_pos rfl] at hR
    exact hR _ _ ⟨rfl,_,(Stp.of_nob (M02.trans MD (fun _ _ h=>h)) 5).mono (S:=NoS) (fun _ h=>h.elim),fun k hk=>.inr (ext_new hk),hB.mod' (M02.trans MD (fun _ _ h=>h)) 5⟩
   ·exact ⟨⟨j+1,by rw [wrap_i64_small (by omega) (by omega)]; omega,hjl,M2.trans MD (fun _ _ h=>h),by rw [hm2]; exact he⟩,by rw [wrap_i64_small (by omega) (by omega)]; omega⟩
  ·rw [List.take_of_length_le (by omega)] at hm; exact hm
 ·rintro _ w2 ⟨M2,hm⟩
  rintro _ rfl
  rw [hm] at hR
  simp only [Bool.false_eq_true,if_false] at hR
  have M3:=M2.step_drew
  have M03:=M1.trans M3 (fun _ _ h=>h)
  have H3:=H1.mod' M3
  have B3:=hB.mod' M03 5
  have s03:Stp NoS w L w2.drew (ext L w.heap.size 5):=Stp.of_nob M03 5
  have hx3:=hx.stp s03 (fun h=>h)
  have hnew3:∀k,w.heap.size≤k→ext L w.heap.size 5 k=4∨ext L w.heap.size 5 k=5:=fun k hk=>.inr (ext_new hk)
  have hsz3:=M03.size
  generalize w2.drew=w3 at *
  generalize ext L w.heap.size 5=L3 at *
  obtain ⟨ol,cl,op,cp,on,nn,kn,c1,c2,c3,c4⟩:=B3.ex
  have hZ:nd0.size=33:=rfl
  simp only [add_at,Nat.zero_add]
  refine ⟨_,_,_,c1.blk.rd1 rfl,_,H3.rowAll (size_hashA _),size_hashA _,by rw [size_setsAt]; unfold lputL; rw [size_setsAt,hZ],?_⟩
  rw [nd_built hZ]
  rintro d w4 ⟨rfl,rfl⟩
  have M4:=Mod.alloc (S:=NoB) w3 (.cells (ndA h o x.length k) tRn)
  have N4:=Blk.new w3 tRn (ndA h o x.length k)
  have s4:Stp NoS w3 L3 (w3.alloc (.cells (ndA h o x.length k) tRn)) (ext L3 w3.heap.size 5):=Stp.of_nob M4 5
  show World.cell? (w3.alloc (.cells (ndA h o x.length k) tRn)) _=_∧∃(v30:Value) (w31:World),Sem.run Tryz.prog (builtinV .append #[28,28] 28 #[(.slice on nn kn),(.slice (some ⟨w3.heap.size,0,none⟩) 1 1)]) (w3.alloc (.cells (ndA h o x.length k) tRn))=.ok v30 w31∧_
  have hnew4:∀k,w.heap.size≤k→ext L3 w3.heap.size 5 k=4∨ext L3 w3.heap.size 5 k=5:=fun k hk=>by
   by_cases hlt:k < w3.heap.size
   ·rw [ext_old hlt]; exact hnew3 k hk
   ·exact .inr (ext_new (by omega))
  have hsz4:=M4.size
  generalize w3.alloc (.cells (ndA h o x.length k) tRn)=w4 at *
  have B4:=B3.stp s4 (fun h=>h) (fun h=>h) (fun h=>h) (fun h=>h) (fun h=>h)
  have c14:=c1.stp s4 (fun h=>h)
  have c44:=c4.stp s4 (fun h=>h) (fun h=>h)
  have hx4:=hx3.stp s4 (fun h=>h)
  generalize ext L3 w3.heap.size 5=L4 at *
  refine ⟨c14.blk.rd1 rfl,?_⟩
  obtain ⟨o',k',w5,hr5,O5,s5⟩:=c44.push (by decide) N4 hh hx4 hk hl
  have hnew5:∀k,w.heap.size≤k→ext L4 w4.heap.size 4 k=4∨ext L4 w4.heap.size 4 k=5:=fun k hk=>by
   by_cases hlt:k < w4.heap.size
   ·rw [ext_old hlt]; exact hnew4 k hk
   ·exact .inl (ext_new (by omega))
  have c15:=c14.stp s5 (by decide)
  have B5:∀(j:Nat) (hj:j < es.length),_:=fun j hj=>c2 j hj
  have s35:=(s4.mono (T:=fun k=>k=4) (fun _ h=>h.elim)).trans s5
  generalize ext L4 w4.heap.size 4=L5 at *
  refine ⟨_,w5,hr5,o',_,k',rfl,c15.blk.canSet (by simp) rfl,?_⟩
  rintro _ rfl
  have s6:Stp (fun k=>k=1) w5 L5 (w5.setCell ⟨d0,2,none⟩ (.slice o' (nn+1) k')) L5:=Stp.setCell c15.clr
  have s36:Stp SB1 w3 L3 (w5.setCell ⟨d0,2,none⟩ (.slice o' (nn+1) k')) L5:=(s35.mono (fun _ h=>.inr h)).trans (s6.mono (fun _ h=>.inl h))
  refine hR _ _ ⟨rfl,L5,(s03.mono (fun _ h=>h.elim)).trans s36,hnew5,⟨⟨ol,cl,op,cp,o',nn+1,k',c15.set 2 _,fun j hj=>?_,fun j hj=>?_,O5.stp s6 (by decide) (by decide)⟩⟩⟩
  ·obtain ⟨g,f,ov,kv,e1,e2,e3,e4,e5⟩:=c2 j hj
   exact ⟨g,f,ov,kv,e1,Nat.lt_of_lt_of_le e2 s36.size,(s36.lab g e2).trans e3,(World.cell?_of_block (s36.block g e2 (by rw [e3]; decide))).trans e4,e5.stp s36 (by decide)⟩
  ·obtain ⟨g,f,o,k,e1,e2,e3,e4,e5,e6⟩:=c3 j hj
   exact ⟨g,f,o,k,e1,Nat.lt_of_lt_of_le e2 s36.size,(s36.lab g e2).trans e3,(World.cell?_of_block (s36.block g e2 (by rw [e3]; decide))).trans e4,e5,e6.stp s36 (by decide)⟩
end Go.Proofs.YtfghidehlnfdiaaGreat
end
section
namespace Go.Trie
def seg (es:List (By×By)) (a b i:Nat):List (By×By):=((es.drop a).take (b - a)).map fun e=>(e.1.drop i,e.2)
structure Okseg (es:List (By×By)) (a b i:Nat):Prop where
 lt:a < b
 le:b≤es.length
 len:∀(j:Nat) (hj:j < es.length),a≤j→j < b→i≤es[j].1.length
theorem seg_len {es:List (By×By)} {a b i:Nat} (h:b≤es.length):(seg es a b i).length=b - a:=by
 unfold seg; rw [List.length_map,List.length_take,List.length_drop]; omega
theorem seg_get {es:List (By×By)} {a b i j:Nat} (h:b≤es.length) (hj:a+j < b):(seg es a b i)[j]?=some (es[a+j].1.drop i,es[a+j].2):=by
 unfold seg
 rw [List.getElem?_map,List.getElem?_take,if_pos (by omega),List.getElem?_drop,List.getElem?_eq_getElem (by omega)]
 rfl
theorem seg_nil (es:List (By×By)) (a i:Nat):seg es a a i=[]:=by unfold seg; rw [Nat.sub_self,List.take_zero]; rfl
theorem seg_mem {es:List (By×By)} {a b i:Nat} (h:b≤es.length) {x:By×By} (hx:x∈seg es a b i):∃(j:Nat) (hj:j < es.length),a≤j∧j < b∧x=(es[j].1.drop i,es[j].2):=by
 obtain ⟨j,hj⟩:=List.mem_iff_getElem?.1 hx
 have hl:j < (seg es a b i).length:=by
  rcases Nat.lt_or_ge j (seg es a b i).length with h | h
  ·exact h
  ·rw [List.getElem?_eq_none h] at hj; cases hj
 rw [seg_len h] at hl
 rw [seg_get h (by omega)] at hj
 exact ⟨a+j,by omega,by omega,by omega,(Option.some.inj hj).symm⟩
theorem mem_seg {es:List (By×By)} {a b i j:Nat} (h:b≤es.length) (h1:a≤j) (h2:j < b):(es[j].1.drop i,es[j].2)∈seg es a b i:=by
 have:=seg_get (a:=a) (b:=b) (i:=i) (j:=j - a) h (by omega)
 simp only [show a+(j - a)=j by omega] at this
 exact List.mem_of_getElem? this
theorem seg_head {es:List (By×By)} {a b i:Nat} (h:Okseg es a b i):(seg es a b i).head?=some ((es[a]'(by have:=h.lt; have:=h.le; omega)).1.drop i,(es[a]'(by have:=h.lt; have:=h.le; omega)).2):=by
 have:=seg_get (a:=a) (b:=b) (i:=i) (j:=0) h.le (by have:=h.lt; omega)
 rw [List.head?_eq_getElem?,this]
 rfl
theorem seg_last {es:List (By×By)} {a b i:Nat} (h:Okseg es a b i):(seg es a b i).getLast?=some ((es[b - 1]'(by have:=h.lt; have:=h.le; omega)).1.drop i,(es[b - 1]'(by have:=h.lt; have:=h.le; omega)).2):=by
 have h1:=h.lt
 have:=seg_get (a:=a) (b:=b) (i:=i) (j:=b - 1 - a) h.le (by omega)
 rw [List.getLast?_eq_getElem?,seg_len h.le,show b - a - 1=b - 1 - a by omega,this]
 simp only [show a+(b - 1 - a)=b - 1 by omega]
theorem seg_add (es:List (By×By)) (a b i j:Nat):seg es a b (i+j)=(seg es a b i).map fun x=>(x.1.drop j,x.2):=by
 unfold seg
 rw [List.map_map]
 congr 1
 funext e
 simp [List.drop_drop]
theorem seg_split {es:List (By×By)} {a m b i:Nat} (h1:a≤m) (h2:m≤b):seg es a b i=seg es a m i++seg es m b i:=by
 unfold seg
 rw [← List.map_append]
 congr 1
 have:b - a=(m - a)+(b - m):=by omega
 rw [this,List.take_add,List.drop_drop,show a+(m - a)=m by omega]
theorem seg_cons {es:List (By×By)} {a b i:Nat} (h:Okseg es a b i):seg es a b i=((es[a]'(by have:=h.lt; have:=h.le; omega)).1.drop i,(es[a]'(by have:=h.lt; have:=h.le; omega)).2) :: seg es (a+1) b i:=by
 have h1:=h.lt
 have h2:=h.le
 unfold seg
 rw [List.drop_eq_getElem_cons (by omega:a < es.length),show b - a=(b - (a+1))+1 by omega,List.take_succ_cons,List.map_cons]
def kidsN:Nd→List (By×By)→List (By×By)
 | .row _ c,out=>visitN c false out
 | .branch cs _,out=>(List.finRange 16).foldl (fun o i=>visitN (cs i) false o) out
 | _,out=>out
theorem visit_kids {n:Nd} (h:n≠.nil) (top:Bool) (out:List (By×By)):visitN n top out=putNode (kidsN n out) top (bytesOf n):=by
 cases n with
 | nil=>exact (h rfl).elim
 | leaf p v=>rfl
 | row p c=>rfl
 | branch cs v=>rfl
theorem kids_len {n:Nd} (out:List (By×By)):(kidsN n out).length≤out.length+cnt n:=by
 cases n with
 | nil=>simp [kidsN]
 | leaf p v=>simp [kidsN]
 | row p c =>
   have:=visitN_len c false out
   simp only [kidsN,cnt]; omega
 | branch cs v =>
   have:=foldl_len (fun i out=>visitN_len (cs i) false out) (List.finRange 16) out
   simp only [kidsN,cnt]; omega
end Go.Trie
namespace Go.Proofs.YtfghidehlnfdiaaGreat
open Go Go.Vcg Go.Trie
abbrev SI (i:Nat):Nat→Prop:=fun k=>k=1∨k=4∨8+i≤k
theorem push_col {w:World} {L:Nat→Nat} {q:Nat} {o:Option Addr} {l k:Nat} {b c:By} {o2:Option Addr} {k2:Nat} {ty:TypeId} (h:COw w L q tU8 1 o l k (b.map bV)) (hr:RdB w o2 c) (hn:l+c.length≤2 ^ 40) :
 ∃o' k' w',Sem.run Tryz.prog (builtinV .append #[tSlU8,tSlU8] ty #[.slice o l k,.slice o2 c.length k2]) w=.ok (.slice o' (l+c.length) k') w'∧COw w' (ext L w.heap.size q) q tU8 1 o' (l+c.length) k' ((b++c).map bV)∧Stp (·=q) w L w' (ext L w.heap.size q):=by
 obtain ⟨i,hi,hz,hs,hb⟩:=info_of info_u8
 rw [List.map_append]
 exact COw.append und_slU8 hi hz hs rfl h (src_bytes und_slU8 hr) (by simp only [maxLen]; omega) (by rw [hb]; omega)
theorem loop_j {w:World} {L:Nat→Nat} {d0 a b i:Nat} {es out:List (By×By)} (hB:BS w L d0 es out) (hok:Okseg es a b i) (hlen:∀e∈es,e.1.length≤128) (hle:es.length≤2 ^ 20) (hi:i≤128) {J45:Int→World→Prop}
 (hJ:∀w',Vcg.Mod NoB w w'→J45 (shared ((es[a]'(by have:=hok.lt; have:=hok.le; omega)).1.drop i) ((es[b - 1]'(by have:=hok.lt; have:=hok.le; omega)).1.drop i):Int) w') :
 ∃(I46:Int→World→Prop) (μ46:Int→World→Nat),I46 0 w ∧
  (∀(n47:Int) (j48:Nat→Value) (w48:World),I46 n47 w48 →
    ∀w49:World,IsDrew w48 w49 →
    ∃o50:Option Addr,∃l51:Nat,∃l52:Nat,World.cell? w49 (Addr.add ⟨d0,0,none⟩ 1)=some (.slice o50 l51 l52) ∧
    ∃d53:Addr,o50=some d53 ∧
    ((0:Int)≤(a:Int)∧(a:Int) < ((l51:Nat):Int)) ∧
    ∃o54:Option Addr,∃l55:Nat,∃l56:Nat,World.cell? w49 (Addr.add d53 (Int.toNat (a:Int)))=some (.slice o54 l55 l56) ∧
    (((((l55:Nat):Int) > (IntKind.wrap .i64 ((i:Int)+n47)) →
      ∃o57:Option Addr,∃l58:Nat,∃l59:Nat,World.cell? w49 (Addr.add ⟨d0,0,none⟩ 1)=some (.slice o57 l58 l59) ∧
      ∃d60:Addr,o57=some d60 ∧
      ((0:Int)≤(IntKind.wrap .i64 ((b:Int) - 1))∧(IntKind.wrap .i64 ((b:Int) - 1)) < ((l58:Nat):Int)) ∧
      ∃o61:Option Addr,∃l62:Nat,∃l63:Nat,World.cell? w49 (Addr.add d60 (Int.toNat (IntKind.wrap .i64 ((b:Int) - 1))))=some (.slice o61 l62 l63) ∧
      (((((l62:Nat):Int) > (IntKind.wrap .i64 ((i:Int)+n47)) →
        ∃o64:Option Addr,∃l65:Nat,∃l66:Nat,World.cell? w49 (Addr.add ⟨d0,0,none⟩ 1)=some (.slice o64 l65 l66) ∧
        ∃d67:Addr,o64=some d67 ∧
        ((0:Int)≤(a:Int)∧(a:Int) < ((l65:Nat):Int)) ∧
        ∃o68:Option Addr,∃l69:Nat,∃l70:Nat,World.cell? w49 (Addr.add d67 (Int.toNat (a:Int)))=some (.slice o68 l69 l70) ∧
        ∃d71:Addr,o68=some d71 ∧
        ((0:Int)≤(IntKind.wrap .i64 ((i:Int)+n47))∧(IntKind.wrap .i64 ((i:Int)+n47)) < ((l69:Nat):Int)) ∧
        ∃n72:Int,World.cell? w49 (Addr.add d71 (Int.toNat (IntKind.wrap .i64 ((i:Int)+n47))))=some (.int .u8 n72) ∧
        ∃o73:Option Addr,∃l74:Nat,∃l75:Nat,World.cell? w49 (Addr.add ⟨d0,0,none⟩ 1)=some (.slice o73 l74 l75) ∧
        ∃d76:Addr,o73=some d76 ∧
        ((0:Int)≤(IntKind.wrap .i64 ((b:Int) - 1))∧(IntKind.wrap .i64 ((b:Int) - 1)) < ((l74:Nat):Int)) ∧
        ∃o77:Option Addr,∃l78:Nat,∃l79:Nat,World.cell? w49 (Addr.add d76 (Int.toNat (IntKind.wrap .i64 ((b:Int) - 1))))=some (.slice o77 l78 l79) ∧
        ∃d80:Addr,o77=some d80 ∧
        ((0:Int)≤(IntKind.wrap .i64 ((i:Int)+n47))∧(IntKind.wrap .i64 ((i:Int)+n47)) < ((l78:Nat):Int)) ∧
        ∃n81:Int,World.cell? w49 (Addr.add d80 (Int.toNat (IntKind.wrap .i64 ((i:Int)+n47))))=some (.int .u8 n81) ∧
        (((n72=n81 →
          I46 (IntKind.wrap .i64 (n47+1)) w49∧μ46 (IntKind.wrap .i64 (n47+1)) w49 < μ46 n47 w48)) ∧
         ((n72≠n81 →
          J45 n47 w49))))) ∧
       ((¬((l62:Nat):Int) > (IntKind.wrap .i64 ((i:Int)+n47)) →
        J45 n47 w49))))) ∧
     ((¬((l55:Nat):Int) > (IntKind.wrap .i64 ((i:Int)+n47)) →
      J45 n47 w49)))):=by
 have h1:=hok.lt
 have h2:=hok.le
 have ha:a < es.length:=by omega
 have hb:b - 1 < es.length:=by omega
 have la:=hok.len a ha (Nat.le_refl _) h1
 have lb:=hok.len (b - 1) hb (by omega) (by omega)
 have l1:=hlen _ (List.getElem_mem ha)
 have l2:=hlen _ (List.getElem_mem hb)
 generalize hf:es[a].1=f at *
 generalize hg:es[b - 1].1=g at *
 have hfl:(f.drop i).length=f.length - i:=List.length_drop
 have hgl:(g.drop i).length=g.length - i:=List.length_drop
 refine ⟨fun n w'=>∃j:Nat,n=(j:Int)∧i+j≤f.length∧i+j≤g.length∧(f.drop i).take j=(g.drop i).take j∧Vcg.Mod NoB w w',fun n _=>((129:Int) - n).toNat,⟨0,rfl,by omega,by omega,rfl,Mod.refl w⟩,?_⟩
 rintro _ _ w1 ⟨j,rfl,hjf,hjg,ht,M⟩
 rintro _ rfl
 have M2:=M.step_drew
 have fin:(j=(f.drop i).length∨j=(g.drop i).length∨∃(x:j < (f.drop i).length) (y:j < (g.drop i).length),(f.drop i)[j]≠(g.drop i)[j])→J45 (j:Int) w1.drew:=fun h=>by
  have:=hJ _ M2
  rw [shared_eq ht (by omega) (by omega) h] at this
  exact this
 obtain ⟨ol,cl,op,cp,on,nn,kn,c1,c2,c3,c4⟩:=(hB.mod' M2 5).ex
 have hc:World.cell? w1.drew ⟨d0,1,none⟩=some (.slice op es.length cp):=c1.blk.rd1 rfl
 obtain ⟨g1,f1,o1,k1,e1,e2,e3,e4,e5,e6⟩:=c3 a ha
 obtain ⟨g2,f2,o2,k2,e1',e2',e3',e4',e5',e6'⟩:=c3 (b - 1) hb
 subst e1
 cases e1'
 rw [hf] at e4 e5 e6
 rw [hg] at e4' e5' e6'
 have ew:IntKind.wrap .i64 ((i:Int)+(j:Int))=((i+j:Nat):Int):=by rw [wrap_i64_small (by omega) (by omega)]; omega
 have eb:IntKind.wrap .i64 ((b:Int) - 1)=((b - 1:Nat):Int):=by rw [wrap_i64_small (by omega) (by omega)]; omega
 simp only [ew,eb,add_at,Nat.zero_add,Int.toNat_natCast]
 refine ⟨_,_,_,hc,_,rfl,⟨by omega,by omega⟩,_,_,_,by rw [add_at]; exact e4,fun hlf=>⟨_,_,_,hc,_,rfl,⟨by omega,by omega⟩,_,_,_,by rw [add_at]; exact e4',fun hlg=>?_,fun hlg=>fin (.inr (.inl (by omega)))⟩,fun hlf=>fin (.inl (by omega))⟩
 have hjf':i+j < f.length:=by omega
 have hjg':i+j < g.length:=by omega
 obtain ⟨pb,pf,rfl,hpb,hpc⟩:=rdb_get e6.rd hjf'
 obtain ⟨qb,qf,rfl,hqb,hqc⟩:=rdb_get e6'.rd hjg'
 refine ⟨_,_,_,hc,_,rfl,⟨by omega,by omega⟩,_,_,_,by rw [add_at]; exact e4,_,rfl,⟨by omega,by omega⟩,_,by rw [add_at]; exact hpc,_,_,_,hc,_,rfl,⟨by omega,by omega⟩,_,_,_,by rw [add_at]; exact e4',_,rfl,⟨by omega,by omega⟩,_,by rw [add_at]; exact hqc,fun he=>?_,fun he=>fin (.inr (.inr ⟨by omega,by omega,?_⟩))⟩
 ·have hab:f[i+j]=g[i+j]:=UInt8.toNat_inj.1 (by exact_mod_cast he)
  refine ⟨⟨j+1,by rw [wrap_i64_small (by omega) (by omega)]; omega,by omega,by omega,?_,M2⟩,by rw [wrap_i64_small (by omega) (by omega)]; omega⟩
  rw [List.take_add_one,List.take_add_one,ht,List.getElem?_drop,List.getElem?_drop,List.getElem?_eq_getElem hjf',List.getElem?_eq_getElem hjg',hab]
 ·rw [List.getElem_drop,List.getElem_drop]
  exact fun e=>he (by rw [e])
end Go.Proofs.YtfghidehlnfdiaaGreat
end
section
namespace Go.Proofs.YtfghidehlnfdiaaGreat
open Go Go.Vcg Go.Trie
structure EsOk (es:List (By×By)):Prop where
 len:es.length≤2 ^ 20
 paths:∀e∈es,e.1.length≤128
 vals:∀e∈es,e.2.length≤1024
theorem enc2 (x y:It):enc (.l [x,y])=Trie.head ((enc x).length+(enc y).length) 192++(enc x++enc y):=by
 simp [enc,encs]
def ItemB (n:Nd):Prop:=∀⦃w:World⦄ ⦃L:Nat→Nat⦄ ⦃d0 a b i:Nat⦄ ⦃es out:List (By×By)⦄,BS w L d0 es out→EsOk es→Okseg es a b i→Rep (seg es a b i) n→out.length+cnt n≤2 ^ 20 →
 Calls Tryz.prog moraineref14_build_item.n #[.pointer (some ⟨d0,0,none⟩),.int .i64 (a:Int),.int .i64 (b:Int),.int .i64 (i:Int)] w (fun e w'=>∃o k,e=.returned (.slice o (bytesOf n).length k)∧∃L',Stp (SI i) w L w' L'∧BS w' L' d0 es (kidsN n out)∧CBy w' L' 5 o (bytesOf n)∧(bytesOf n).length≤k)
def RefB (n:Nd):Prop:=∀⦃w:World⦄ ⦃L:Nat→Nat⦄ ⦃d0 a b i:Nat⦄ ⦃es out:List (By×By)⦄,BS w L d0 es out→EsOk es→Okseg es a b i→Rep (seg es a b i) n→out.length+cnt n≤2 ^ 20 →
 Calls Tryz.prog moraineref14_build_ref.n #[.pointer (some ⟨d0,0,none⟩),.int .i64 (a:Int),.int .i64 (b:Int),.int .i64 (i:Int)] w (fun e w'=>∃o k,e=.returned (.slice o (enc (refOf n)).length k)∧∃L',Stp (SI i) w L w' L'∧BS w' L' d0 es (visitN n false out)∧CBy w' L' 5 o (enc (refOf n)))
theorem SI_notin {i:Nat}:¬SI i 5∧¬SI i 6∧¬SI i 7:=⟨by rintro (h | h | h) <;> omega,by rintro (h | h | h) <;> omega,by rintro (h | h | h) <;> omega⟩
theorem ref_of {n:Nd} (hI:ItemB n) (hn:n≠.nil) (hs:Small n):RefB n:=by
 intro w L d0 a b i es out hB hE hok hR hl
 refine calls_gen fun R hR'=>moraineref14_build_ref.vc _ _ _ _ _ _ ?_
 unfold moraineref14_build_ref.Vc
 refine (hI hB hE hok hR hl).mono ?_
 rintro _ w1 ⟨o1,k1,rfl,L1,s1,B1,x1,hk1⟩
 have hbl:=bytes_le hs
 rw [visit_kids hn] at hR'
 have hkl:=kids_len (n:=n) out
 refine ⟨_,_,_,rfl,fun h32=>?_,fun h32=>?_⟩
 ·have e1:enc (refOf n)=bytesOf n:=by unfold refOf wrapRef; rw [if_neg (by simp only [bytesOf] at h32; omega)]; rfl
  have e2:putNode (kidsN n out) false (bytesOf n)=kidsN n out:=by unfold putNode; rw [decide_eq_true (by omega:(bytesOf n).length < 32)]; simp
  rw [e1,e2] at hR'
  exact hR' _ _ ⟨o1,k1,rfl,L1,s1,B1,x1⟩
 ·have e1:enc (refOf n)=enc (.s (sumOf (bytesOf n))):=by unfold refOf wrapRef; rw [if_pos (by simp only [bytesOf] at h32; omega)]; rfl
  rw [e1] at hR'
  refine (refSum_calls (bytesOf n) rfl (by omega) x1.rd).mono ?_
  rintro _ w2 ⟨rfl,M2⟩
  refine ⟨_,rfl,?_⟩
  rintro d w3 ⟨rfl,rfl⟩
  have H3:=Blk.new w2 27 (Array.replicate 32 (.int .u8 0))
  obtain ⟨h1,h2,h3⟩:=hash_store H3 (by simp) (sumOf (bytesOf n))
  have M3:=M2.step_alloc (.cells (Array.replicate 32 (.int .u8 0)) 27)
  have M4:=mod_of M3 h3 M2.size
  refine ⟨_,h1,_,h2.rowAll (size_hashA _),?_⟩
  have hge:=M2.size
  have hlt4:=h2.lt
  generalize w2.heap.size=D at *
  generalize ((w2.alloc (.cells (Array.replicate 32 (.int .u8 0)) 27)).setRow D (hashA (sumOf (bytesOf n))))=w4 at *
  have B4:=B1.mod' M4 5
  have s4:Stp NoS w1 L1 w4 (ext L1 w1.heap.size 5):=Stp.of_nob M4 5
  have x4:=x1.stp s4 (fun h=>h)
  have D4:CB w4 (ext L1 w1.heap.size 5) 5 D tHash (hashA (sumOf (bytesOf n))):=⟨h2,ext_new hge⟩
  generalize ext L1 w1.heap.size 5=L4 at *
  refine (node_calls (k:=k1) B4 x4 (length_sumOf _) hk1 (by omega)).mono ?_
  rintro _ w5 ⟨rfl,L5,s5,_,B5⟩
  have D5:=D4.stp s5 (by decide)
  have hrd:RdB w5 (some ⟨D,0,none⟩) (sumOf (bytesOf n)):=RdB.of_blk D5.blk (fun j hj=>by
   rw [length_sumOf] at hj
   simp only [Nat.zero_add,hashA]
   exact get_arrOf_lt hj)
  obtain ⟨o6,k6,w6,hr6,F6⟩:=copy_bytes' (k2:=32) (ty:=tSlU8) (Mod.refl w5) hrd (by rw [length_sumOf]; omega)
  rw [length_sumOf] at hr6
  refine ⟨rfl,_,w6,hr6,_,_,_,rfl,?_⟩
  have hst:=str_calls (k:=k6) (fresh_bytes F6) (by rw [length_sumOf]; omega)
  rw [length_sumOf] at hst
  refine hst.mono ?_
  rintro _ w7 ⟨o7,k7,rfl,F7⟩
  have F57:=Fresh.from_ F7 F6.mod
  have B7:=B5.mod' F57.mod 5
  have s7:Stp NoS w5 L5 w7 (ext L5 w5.heap.size 5):=Stp.of_nob F57.mod 5
  have e2:putNode (kidsN n out) false (bytesOf n)=if met (kidsN n out) (sumOf (bytesOf n)) then kidsN n out else kidsN n out++[(sumOf (bytesOf n),bytesOf n)]:=by
   unfold putNode; rw [decide_eq_false (by omega:¬(bytesOf n).length < 32)]; simp
  rw [e2] at hR'
  refine ⟨_,_,_,rfl,hR' _ _ ⟨o7,k7,rfl,_,?_,B7,fresh_cby F57 (Mod.refl _)⟩⟩
  exact ((s1.trans (s4.mono (fun _ h=>h.elim))).trans (s5.mono (fun k h=>h.elim .inl (fun h=>.inr (.inl h))))).trans (s7.mono (fun _ h=>h.elim))
theorem BS.path {w:World} {L:Nat→Nat} {d0:Nat} {es out:List (By×By)} (h:BS w L d0 es out) {j:Nat} (hj:j < es.length) {i:Nat} (hi:i≤es[j].1.length) :
 ∃op cp b f o k,World.cell? w ⟨d0,1,none⟩=some (.slice op es.length cp)∧op=some ⟨b,f,none⟩∧w.cell? ⟨b,f+j,none⟩=some (.slice o es[j].1.length k)∧es[j].1.length≤k∧CBy w L 5 o es[j].1∧CBy w L 5 (subO o k i 1) (es[j].1.drop i):=by
 obtain ⟨ol,cl,op,cp,on,nn,kn,c1,c2,c3,c4⟩:=h.ex
 obtain ⟨b,f,o,k,e1,e2,e3,e4,e5,e6⟩:=c3 j hj
 have:=e6.sub (lo:=i) (n:=es[j].1.length - i) e5
 rw [List.take_of_length_le (by rw [List.length_drop]; omega)] at this
 exact ⟨op,cp,b,f,o,k,c1.blk.rd1 rfl,e1,e4,e5,e6,this⟩
theorem BS.val {w:World} {L:Nat→Nat} {d0:Nat} {es out:List (By×By)} (h:BS w L d0 es out) {j:Nat} (hj:j < es.length) :
 ∃ol cl b f ov kv,World.cell? w ⟨d0,0,none⟩=some (.slice ol es.length cl)∧ol=some ⟨b,f,none⟩∧w.cell? ⟨b,f+(j * 2+1),none⟩=some (.slice ov es[j].2.length kv)∧CBy w L 6 ov es[j].2:=by
 obtain ⟨ol,cl,op,cp,on,nn,kn,c1,c2,c3,c4⟩:=h.ex
 obtain ⟨b,f,ov,kv,e1,e2,e3,e4,e5⟩:=c2 j hj
 exact ⟨ol,cl,b,f,ov,kv,c1.blk.rd1 rfl,e1,e4,e5⟩
theorem item_leafB (p v:By):ItemB (.leaf p v):=by
 intro w L d0 a b i es out hB hE hok hR hl
 refine calls_gen fun R hR'=>moraineref14_build_item.vc _ _ _ _ _ _ ?_
 unfold moraineref14_build_item.Vc
 have hseg:=hR.leaf
 have hb:b=a+1:=by
  have:=congrArg List.length hseg
  rw [seg_len hok.le] at this
  have:=hok.lt
  simp at *; omega
 subst hb
 have ha:a < es.length:=by have:=hok.le; omega
 have hla:=hE.len
 have e0:=seg_head hok
 rw [hseg] at e0
 simp only [List.head?_cons,Option.some.injEq,Prod.mk.injEq] at e0
 obtain ⟨rfl,rfl⟩:=e0
 have hi:=hok.len a ha (Nat.le_refl _) (by omega)
 have hpl:=hE.paths _ (List.getElem_mem ha)
 have hvl:=hE.vals _ (List.getElem_mem ha)
 have hd:(es[a].1.drop i).length=es[a].1.length - i:=List.length_drop
 have hpk:=packed_le (es[a].1.drop i) true (by omega)
 refine ⟨fun _=>?_,fun h=>absurd (by rw [wrap_i64_small (by omega) (by omega)]; omega) h⟩
 obtain ⟨op,cp,pb,pf,o,k,h1,rfl,h2,h3,h4,h5⟩:=hB.path ha hi
 simp only [add_at,Nat.zero_add,Int.toNat_natCast]
 refine ⟨_,_,_,h1,_,rfl,⟨by omega,by omega⟩,_,_,_,by rw [add_at]; exact h2,⟨by omega,by omega⟩,?_⟩
 have hp:=rPack_calls (k:=k - i) h5.rd (by omega) true
 rw [hd] at hp
 refine hp.mono ?_
 rintro _ w1 ⟨o1,k1,rfl,F1⟩
 refine ⟨_,_,_,_,rfl,?_⟩
 rintro _ rfl
 have MD:=Mod.drew (S:=NoB) w1
 have B2:=hB.mod' (F1.mod.trans MD (fun _ _ h=>h)) 5
 obtain ⟨ol,cl,vb,vf,ov,kv,g1,rfl,g2,g3⟩:=B2.val ha
 refine ⟨_,_,_,g1,_,rfl,⟨by omega,by omega⟩,_,_,_,by rw [add_at,add_at,Nat.add_assoc]; exact g2,?_⟩
 refine (str_calls (b:=packed (es[a].1.drop i) true) ((fresh_bytes F1).mod' MD) (by omega)).mono ?_
 rintro _ w3 ⟨o3,k3,rfl,F3⟩
 have B3:=B2.mod' F3.mod 5
 obtain ⟨ol,cl,vb',vf',ov',kv',g1',hol,g2',g3'⟩:=B3.val ha
 rw [cell_mod F3.mod (b:=d0) (by obtain ⟨_,_,_,_,_,_,_,c1,_⟩:=B2.ex; exact c1.blk.lt) (fun h=>h),g1] at g1'
 cases g1'
 cases hol
 have hvb:vb < w1.drew.heap.size:=by obtain ⟨ol,cl,op,cp,on,nn,kn,c1,c2,_⟩:=B2.ex; obtain ⟨b',f',ov'',kv'',q1,q2,_⟩:=c2 a ha; have:=c1.blk.rd1 (i:=0) rfl; rw [g1] at this; cases this; cases q1; exact q2
 rw [cell_mod F3.mod hvb (fun h=>h),g2] at g2'
 cases g2'
 refine ⟨_,_,_,rfl,by rw [add_at,add_at,Nat.add_assoc]; exact (cell_mod F3.mod hvb (fun h=>h)).trans g2,(cell_mod F3.mod (by obtain ⟨_,_,_,_,_,_,_,c1,_⟩:=B2.ex; exact c1.blk.lt) (fun h=>h)).trans g1,?_⟩
 refine (str_calls (k:=kv) g3'.rd (by omega)).mono ?_
 rintro _ w4 ⟨o4,k4,rfl,F4⟩
 have q1:=enc_s_le (packed (es[a].1.drop i) true)
 have q2:=enc_s_le es[a].2
 obtain ⟨o5,k5,w5,hr5,F5⟩:=push_bytes (ty:=tSlU8) (k2:=k4) (F3.mod' F4.mod) (fresh_bytes F4) (by omega)
 refine ⟨_,_,_,rfl,_,w5,hr5,_,_,_,rfl,?_⟩
 have hL:=rList_calls (k:=k5) (fresh_bytes F5) (by rw [List.length_append]; omega)
 rw [List.length_append] at hL
 refine hL.mono ?_
 rintro _ w6 ⟨o6,k6,rfl,F6⟩
 have e6:Trie.head ((enc (.s (packed (es[a].1.drop i) true))).length+(enc (.s es[a].2)).length) 192++(enc (.s (packed (es[a].1.drop i) true))++enc (.s es[a].2))=bytesOf (.leaf (es[a].1.drop i) es[a].2):=by
  simp only [bytesOf,itemOf]
  rw [enc2]
 rw [e6] at F6 ⊢
 have M06:=((F1.mod.trans MD (fun _ _ h=>h)).trans F5.mod (fun _ _ h=>h)).trans F6.mod (fun _ _ h=>h)
 have F06:=Fresh.from_ F6 ((F1.mod.trans MD (fun _ _ h=>h)).trans F5.mod (fun _ _ h=>h))
 exact ⟨_,_,_,rfl,hR' _ _ ⟨o6,k6,rfl,_,(Stp.of_nob M06 5).mono (S:=NoS) (fun _ h=>h.elim),hB.mod' M06 5,fresh_cby F06 (Mod.refl _),F06.own.cap.1⟩⟩
end Go.Proofs.YtfghidehlnfdiaaGreat
end
section
namespace Go.Proofs.YtfghidehlnfdiaaGreat
open Go Go.Vcg Go.Trie
theorem item_rowB {c:Nd} (hRef:RefB c) {p:By} (hc:Canon (.row p c)):ItemB (.row p c):=by
 intro w L d0 a b i es out hB hE hok hR hl
 refine calls_gen fun R hR'=>moraineref14_build_item.vc _ _ _ _ _ _ ?_
 unfold moraineref14_build_item.Vc
 have hab:=hok.lt
 have hbl:=hok.le
 have hla:=hE.len
 have ha:a < es.length:=by omega
 have hi:=hok.len a ha (Nat.le_refl _) hab
 have hpl:=hE.paths _ (List.getElem_mem ha)
 obtain ⟨k1,v1,k2,v2,g1,g2,hne⟩:=two_row hc
 have h2:=hR.two g1 g2 hne
 rw [seg_len hbl] at h2
 have hsh:=hR.shared_row hc (seg_head hok) (seg_last hok)
 obtain ⟨hpre,hRc⟩:=hR.row
 have hpre1:=hpre _ (List.mem_of_mem_head? (seg_head hok))
 have hp1:1≤p.length:=List.length_pos_iff.2 hc.1
 have hd:(es[a].1.drop i).length=es[a].1.length - i:=List.length_drop
 have hple:=hpre1.length_le
 simp only at hsh hple
 rw [← seg_add] at hRc
 have htake:(es[a].1.drop i).take p.length=p:=(List.prefix_iff_eq_take.1 hpre1).symm
 have hok':Okseg es a b (i+p.length):=by
  refine ⟨hab,hbl,fun j hj h1 h2=>?_⟩
  have:=(hpre _ (mem_seg (i:=i) hbl h1 h2)).length_le
  simp only [List.length_drop] at this
  have:=hok.len j hj h1 h2
  omega
 have hpk:=packed_le p false (by omega)
 refine ⟨fun h=>absurd h (by rw [wrap_i64_small (by omega) (by omega)]; omega),fun _=>⟨fun n w'=>n=(p.length:Int)∧Vcg.Mod NoB w w',loop_j hB hok hE.paths hE.len (by omega) (fun w' M=>⟨by rw [hsh],M⟩),?_⟩⟩
 rintro _ _ w1 ⟨rfl,M1⟩
 refine ⟨fun _=>?_,fun h=>absurd h (by omega)⟩
 have B1:=hB.mod' M1 5
 obtain ⟨op,cp,pb,pf,o,k,h1,rfl,h2,h3,h4,h5⟩:=B1.path ha hi
 have ew:IntKind.wrap .i64 ((i:Int)+(p.length:Int))=((i+p.length:Nat):Int):=by rw [wrap_i64_small (by omega) (by omega)]; omega
 simp only [ew,add_at,Nat.zero_add,Int.toNat_natCast]
 refine ⟨_,_,_,h1,_,rfl,⟨by omega,by omega⟩,_,_,_,by rw [add_at]; exact h2,⟨by omega,by omega⟩,⟨by omega,by omega⟩,?_⟩
 have hpr:=h5.rd.take p.length
 rw [htake] at hpr
 have hP:=rPack_calls (k:=k - i) hpr (by omega) false
 rw [show i+p.length - i=p.length by omega]
 refine hP.mono ?_
 rintro _ w2 ⟨o2,k2,rfl,F2⟩
 refine ⟨_,_,_,_,rfl,?_⟩
 refine (str_calls (b:=packed p false) (fresh_bytes F2) (by omega)).mono ?_
 rintro _ w3 ⟨o3,k3,rfl,F3⟩
 have M03:=(M1.trans F2.mod (fun _ _ h=>h)).trans F3.mod (fun _ _ h=>h)
 have F03:=Fresh.from_ F3 (M1.trans F2.mod (fun _ _ h=>h))
 have B3:=hB.mod' M03 (8+i)
 obtain ⟨O3,s3⟩:=F03.done (lab:=L) (8+i)
 generalize ext L w.heap.size (8+i)=L3 at *
 refine ⟨_,_,_,rfl,?_⟩
 have hcnt:cnt (.row p c)=1+cnt c:=rfl
 refine (hRef B3 hE hok' hRc (by omega)).mono ?_
 rintro _ w4 ⟨o4,k4,rfl,L4,s4,B4,x4⟩
 have O4:=O3.stp s4 (by rintro (h | h | h) <;> omega)
 have q1:=enc_s_le (packed p false)
 have q2:=ref_le c
 obtain ⟨o5,k5,w5,hr5,O5,s5⟩:=push_col (ty:=tSlU8) (k2:=k4) O4 x4.rd (by omega)
 have B5:=B4.stp s5 (by omega) (by omega) (by omega) (by omega) (by omega)
 generalize ext L4 w4.heap.size (8+i)=L5 at *
 refine ⟨_,_,_,rfl,_,w5,hr5,_,_,_,rfl,?_⟩
 have hL:=rList_calls (k:=k5) O5.own.bytes (by rw [List.length_append]; omega)
 rw [List.length_append] at hL
 refine hL.mono ?_
 rintro _ w6 ⟨o6,k6,rfl,F6⟩
 have e6:Trie.head ((enc (.s (packed p false))).length+(enc (refOf c)).length) 192++(enc (.s (packed p false))++enc (refOf c))=bytesOf (.row p c):=by
  simp only [bytesOf,itemOf]
  rw [enc2]; rfl
 rw [e6] at F6 ⊢
 refine ⟨_,_,_,rfl,hR' _ _ ⟨o6,k6,rfl,_,?_,B5.mod' F6.mod 5,fresh_cby F6 (Mod.refl _),F6.own.cap.1⟩⟩
 have s6:Stp NoS w5 L5 w6 (ext L5 w5.heap.size 5):=Stp.of_nob F6.mod 5
 exact (((s3.mono (fun _ h=>h.elim)).trans (s4.mono (fun k h=>by rcases h with h | h | h; exact .inl h; exact .inr (.inl h); exact .inr (.inr (by omega))))).trans (s5.mono (fun k h=>.inr (.inr (by omega))))).trans (s6.mono (fun _ h=>h.elim))
end Go.Proofs.YtfghidehlnfdiaaGreat
end
section
namespace Go.Trie
theorem sum_take {f:Fin 16→Nat} {j:Nat} (hj:j < 16):(((List.finRange 16).take j).map f).sum+f ⟨j,hj⟩≤((List.finRange 16).map f).sum:=by
 have e:=congrArg List.sum (congrArg (List.map f) (List.take_append_drop j (List.finRange 16)))
 rw [List.map_append,List.sum_append] at e
 have e2:(List.finRange 16).drop j=⟨j,hj⟩ :: (List.finRange 16).drop (j+1):=by
  rw [List.drop_eq_getElem_cons (by simpa using hj)]
  simp
 rw [e2,List.map_cons,List.sum_cons] at e
 omega
theorem fin_take {j:Nat} (hj:j < 16):(List.finRange 16).take (j+1)=(List.finRange 16).take j++[⟨j,hj⟩]:=by
 rw [List.take_add_one,List.getElem?_eq_getElem (by simpa using hj)]
 simp
theorem headLt_mono {a b:Nat} {p:By} (h:headLt a p) (hab:a≤b):headLt b p:=by
 cases p with
 | nil=>trivial
 | cons c r=>exact Nat.lt_of_lt_of_le h hab
end Go.Trie
namespace Go.Proofs.YtfghidehlnfdiaaGreat
open Go Go.Vcg Go.Trie
theorem enc_l (xs:List It):enc (.l xs)=Trie.head (encs xs).length 192++encs xs:=by simp only [enc]
theorem item_branchB {cs:Fin 16→Nd} {v:By} (hRef:∀i,RefB (cs i)) (hc:Canon (.branch cs v)):ItemB (.branch cs v):=by
 intro w0 L0 d0 a b i es out hB0 hE hok hR hl
 refine calls_gen fun R hR'=>moraineref14_build_item.vc _ _ _ _ _ _ ?_
 unfold moraineref14_build_item.Vc
 have hab:=hok.lt
 have hbl:=hok.le
 have hla:=hE.len
 have ha:a < es.length:=by omega
 have hi:=hok.len a ha (Nat.le_refl _) hab
 have hpl:=hE.paths _ (List.getElem_mem ha)
 obtain ⟨k1,v1,k2,v2,g1,g2,hne⟩:=two_keys hc trivial
 have h2:=hR.two g1 g2 hne.1
 rw [seg_len hbl] at h2
 have hsh:=hR.parts hc trivial (seg_head hok) (seg_last hok)
 simp only at hsh
 refine ⟨fun h=>absurd h (by rw [wrap_i64_small (by omega) (by omega)]; omega),fun _=>⟨fun n w'=>n=0∧Vcg.Mod NoB w0 w',loop_j hB0 hok hE.paths hE.len (by omega) (fun w' M=>⟨by rw [hsh]; rfl,M⟩),?_⟩⟩
 rintro _ _ w ⟨rfl,M0⟩
 refine ⟨fun h=>absurd h (by omega),fun _=>?_⟩
 have hB:=hB0.mod' M0 5
 have sM:Stp NoS w0 L0 w (ext L0 w0.heap.size 5):=Stp.of_nob M0 5
 generalize ext L0 w0.heap.size 5=L at *
 obtain ⟨hv1,hv2,hv3⟩:=hR.value (seg_cons hok)
 simp only at hv1 hv2
 obtain ⟨op,cp,pb,pf,o,k,h1,rfl,h2',h3,h4,h5⟩:=hB.path ha hi
 obtain ⟨ol,cl,vb,vf,ov,kv,f1,rfl,f2,f3⟩:=hB.val ha
 simp only [add_at,Nat.zero_add,Int.toNat_natCast]
 refine ⟨fun n o' l' k' w'=>w'=w∧∃m:Nat,n=(m:Int)∧a≤m∧m≤a+1∧l'=v.length∧CBy w L 6 o' v∧(∀y∈seg es a m i,headLt 0 y.1)∧(∀y∈seg es m b i,headGe 0 y.1),?_,?_⟩
 ·refine ⟨_,_,_,h1,_,rfl,⟨by omega,by omega⟩,_,_,_,by rw [add_at]; exact h2',fun he=>?_,fun he=>?_⟩
  ·have hd0:es[a].1.drop i=[]:=List.drop_eq_nil_of_le (by omega)
   have hvv:=hv1 hd0
   refine ⟨_,_,_,f1,_,rfl,⟨by omega,by omega⟩,_,_,_,by rw [add_at,add_at,Nat.add_assoc]; exact f2,rfl,a+1,by rw [wrap_i64_small (by omega) (by omega)]; omega,by omega,Nat.le_refl _,by rw [hvv],by rw [hvv]; exact f3,?_,?_⟩
   ·intro y hy
    obtain ⟨j,hj,q1,q2,rfl⟩:=seg_mem (by omega) hy
    obtain rfl:j=a:=by omega
    rw [hd0]; trivial
   ·intro y hy
    have:=hv3 y hy
    cases hy1:y.1 with
    | nil=>exact (this hy1).elim
    | cons c r=>exact Nat.zero_le _
  ·have hdne:es[a].1.drop i≠[]:=fun e=>by
    have:=congrArg List.length e
    rw [List.length_drop] at this
    simp at this; omega
   have hvv:=hv2 hdne
   refine ⟨rfl,a,rfl,Nat.le_refl _,by omega,by rw [hvv]; rfl,by rw [hvv]; exact CBy.nil _ _ _ _,?_,?_⟩
   ·rw [seg_nil]; intro y hy; cases hy
   ·intro y hy
    rw [seg_cons hok] at hy
    rcases List.mem_cons.1 hy with rfl | hy
    ·cases hdd:es[a].1.drop i with
     | nil=>exact (hdne hdd).elim
     | cons c r=>exact Nat.zero_le _
    ·have:=hv3 y hy
     cases hy1:y.1 with
     | nil=>exact (this hy1).elim
     | cons c r=>exact Nat.zero_le _
 ·rintro _ o133 _ c133 _ w ⟨rfl,m0,rfl,hm1,hm2,rfl,hval,hlt0,hge0⟩
  let pay:Nat→By:=fun x=>encs (((List.finRange 16).take x).map fun i=>wrapRef (itemOf (cs i)))
  let outs:Nat→List (By×By):=fun x=>((List.finRange 16).take x).foldl (fun o i=>visitN (cs i) false o) out
  have hpay:∀x,(pay x).length≤41 * 16:=fun x=>by
   have h1:=encs_map_le cs ((List.finRange 16).take x)
   have h2:((List.finRange 16).take x).length≤16:=by rw [List.length_take,List.length_finRange]; omega
   simp only [pay]; omega
  refine ⟨fun o l k n m w'=>∃x at_:Nat,m=(x:Int)∧x≤16∧n=(at_:Int)∧a≤at_∧at_≤b∧(∀y∈seg es a at_ i,headLt x y.1)∧(∀y∈seg es at_ b i,headGe x y.1)∧l=(pay x).length∧∃L',Stp (SI i) w L w' L'∧BS w' L' d0 es (outs x)∧COw w' L' (8+i) tU8 1 o l k ((pay x).map bV),
   fun _ _ _ _ m _=>((16:Int) - m).toNat,⟨0,m0,rfl,Nat.zero_le _,rfl,hm1,by omega,hlt0,hge0,rfl,L,Stp.refl _ _ _,hB,COw.nil _ _ _ _ _⟩,?_⟩
  rintro o136 _ c136 _ _ _ w1 ⟨x,m,rfl,hx,rfl,hma,hmb,hlt,hge,rfl,L1,s1,B1,O1⟩
  refine ⟨fun hx16=>?_,fun hx16=>?_⟩
  ·have hx':x < 16:=by omega
   have hxb:(UInt8.ofNat x).toNat=x:=by rw [UInt8.toNat_ofNat']; omega
   refine ⟨fun n w'=>w'=w1∧∃e:Nat,n=(e:Int)∧m≤e∧e≤b∧(∀y∈seg es m e i,∃r,y.1=UInt8.ofNat x :: r)∧(∀y,(seg es e b i).head?=some y→∀c r,y.1=c :: r→c.toNat≠x),?_,?_⟩
   ·refine ⟨fun n w'=>w'=w1∧∃e:Nat,n=(e:Int)∧m≤e∧e≤b∧(∀y∈seg es m e i,∃r,y.1=UInt8.ofNat x :: r),fun n _=>((b:Int) - n).toNat,⟨rfl,m,rfl,Nat.le_refl _,hmb,by rw [seg_nil]; intro y hy; cases hy⟩,?_⟩
    rintro _ _ w1 ⟨rfl,e,rfl,he1,he2,hrun⟩
    refine ⟨fun heb=>?_,fun heb=>⟨rfl,e,rfl,he1,he2,hrun,by rw [show e=b by omega,seg_nil]; intro y hy; cases hy⟩⟩
    have heb':e < b:=by omega
    have hel:e < es.length:=by omega
    have hei:=hok.len e hel (by omega) heb'
    have hepl:=hE.paths _ (List.getElem_mem hel)
    have hgee:=hge _ (mem_seg (i:=i) hbl he1 heb')
    have hok_e:Okseg es e b i:=⟨heb',hbl,fun j hj q1 q2=>hok.len j hj (by omega) q2⟩
    obtain ⟨op,cp,pb,pf,o,k,h1,rfl,h2',h3,h4,h5⟩:=B1.path hel hei
    cases hdd:es[e].1.drop i with
    | nil=>simp only [hdd] at hgee; exact hgee.elim
    | cons c r =>
      have hile:i < es[e].1.length:=by
       have:=congrArg List.length hdd
       rw [List.length_drop] at this
       simp at this; omega
      have hci:es[e].1[i]=c:=by
       have:=List.drop_eq_getElem_cons hile
       rw [hdd] at this
       exact (List.cons.inj this).1.symm
      obtain ⟨qb,qf,rfl,hqb,hqc⟩:=rdb_get h4.rd hile
      rw [hci] at hqc
      have hc256:c.toNat < 256:=c.toNat_lt
      refine ⟨_,_,_,h1,_,rfl,⟨by omega,by omega⟩,_,_,_,by rw [add_at,Int.toNat_natCast]; exact h2',_,rfl,⟨by omega,by omega⟩,_,by rw [add_at]; exact hqc,fun hq=>?_,fun hq=>?_⟩
      ·rw [wrap_i64_small (by omega) (by omega)] at hq
       have hcx:c=UInt8.ofNat x:=by apply UInt8.toNat_inj.1; rw [hxb]; omega
       refine ⟨⟨rfl,e+1,by rw [wrap_i64_small (by omega) (by omega)]; omega,by omega,by omega,?_⟩,by dsimp only; rw [wrap_i64_small (by omega) (by omega)]; omega⟩
       intro y hy
       rw [seg_split he1 (Nat.le_succ e)] at hy
       rcases List.mem_append.1 hy with hy | hy
       ·exact hrun y hy
       ·obtain ⟨j,hj,q1,q2,rfl⟩:=seg_mem (by omega) hy
        obtain rfl:j=e:=by omega
        exact ⟨r,by rw [hdd,hcx]⟩
      ·rw [wrap_i64_small (by omega) (by omega)] at hq
       refine ⟨rfl,e,rfl,he1,he2,hrun,?_⟩
       rw [seg_head hok_e]
       rintro y hy c' r' hy1
       cases hy
       simp only [hdd] at hy1
       cases hy1
       omega
   ·rintro _ _ w1 ⟨rfl,e,rfl,he1,he2,hrun,hstop⟩
    have hspl:seg es a b i=seg es a m i++(seg es m e i++seg es e b i):=by rw [← seg_split he1 he2,← seg_split hma hmb]
    have hpw:(seg es m b i).Pairwise (fun x y=>ltB x.1 y.1):=by
     have:=hR.1
     rw [seg_split hma hmb] at this
     exact (List.pairwise_append.1 this).2.1
    have hge':=rest_ge hpw (seg_split he1 he2) hge hstop
    have hkid:=hR.kid ⟨x,hx'⟩ hspl hlt hrun hge'
    rw [← seg_add] at hkid
    have hlt':∀y∈seg es a e i,headLt (x+1) y.1:=by
     intro y hy
     rw [seg_split hma he1] at hy
     rcases List.mem_append.1 hy with hy | hy
     ·exact headLt_mono (hlt y hy) (Nat.le_succ x)
     ·obtain ⟨r,hr⟩:=hrun y hy
      rw [hr]
      show (UInt8.ofNat x).toNat < x+1
      omega
    have epay:pay (x+1)=pay x++enc (refOf (cs ⟨x,hx'⟩)):=by
     simp only [pay]
     rw [fin_take hx',List.map_append,encs_append]
     simp only [List.map_cons,List.map_nil,encs,List.append_nil]
     rfl
    have eout:outs (x+1)=visitN (cs ⟨x,hx'⟩) false (outs x):=by
     simp only [outs]
     rw [fin_take hx',List.foldl_append]
     rfl
    have ewx:IntKind.wrap .i64 ((x:Int)+1)=((x+1:Nat):Int):=by rw [wrap_i64_small (by omega) (by omega)]; omega
    rw [ewx]
    have hpx:=hpay x
    refine ⟨fun hem=>?_,fun hem=>?_⟩
    ·obtain rfl:e=m:=by omega
     rw [seg_nil] at hkid
     have hnil:=hkid.nil_inv (hc.1 _)
     rintro d w2 ⟨rfl,rfl⟩
     have M2:=Mod.alloc (S:=NoB) w1 (.cells #[.int .u8 128] 5)
     have r2:=one_u8 w1
     have B2:=B1.mod' M2 5
     have s2:Stp NoS w1 L1 _ (ext L1 w1.heap.size 5):=Stp.of_nob M2 5
     have O2:=O1.stp s2 (fun h=>h)
     generalize w1.alloc (.cells #[.int .u8 128] 5)=w2 at *
     generalize ext L1 w1.heap.size 5=L2 at *
     obtain ⟨o5,k5,w5,hr5,O5,s5⟩:=push_col (ty:=tSlU8) (k2:=1) O2 r2 (by simp; omega)
     have B5:=B2.stp s5 (by omega) (by omega) (by omega) (by omega) (by omega)
     have e128:enc (refOf .nil)=[128]:=by
      unfold refOf wrapRef
      rw [if_neg (by simp [itemOf,enc,own,Trie.head])]
      exact bytes_nil
     rw [hnil,e128] at epay
     rw [hnil] at eout
     simp only [visitN] at eout
     refine ⟨_,w5,hr5,_,_,_,rfl,⟨x+1,e,rfl,by omega,rfl,hma,hmb,hlt',hge',by rw [epay,List.length_append],_,(s1.trans (s2.mono (fun _ h=>h.elim))).trans (s5.mono (fun k h=>.inr (.inr (by omega)))),by rw [eout]; exact B5,?_⟩,by dsimp only; omega⟩
     rw [epay]; exact O5
    ·have hme:m < e:=by omega
     have hok_k:Okseg es m e (i+1):=by
      refine ⟨hme,by omega,fun j hj q1 q2=>?_⟩
      obtain ⟨r,hr⟩:=hrun _ (mem_seg (i:=i) (by omega:e≤es.length) q1 q2)
      have:=congrArg List.length hr
      simp only [List.length_drop,List.length_cons] at this
      omega
     have ewi:IntKind.wrap .i64 ((i:Int)+1)=((i+1:Nat):Int):=by rw [wrap_i64_small (by omega) (by omega)]; omega
     rw [ewi]
     have hsum:=sum_take (f:=fun i=>cnt (cs i)) hx'
     have hlen:=foldl_len (cs:=cs) (fun i out=>visitN_len (cs i) false out) ((List.finRange 16).take x) out
     have hcnt:cnt (.branch cs v)=1+((List.finRange 16).map fun i=>cnt (cs i)).sum:=rfl
     refine (hRef ⟨x,hx'⟩ B1 hE hok_k hkid (by show (outs x).length+_≤_; simp only [outs]; omega)).mono ?_
     rintro _ w4 ⟨o4,k4,rfl,L4,s4,B4,x4⟩
     have O4:=O1.stp s4 (by rintro (h | h | h) <;> omega)
     have q2:=ref_le (cs ⟨x,hx'⟩)
     obtain ⟨o5,k5,w5,hr5,O5,s5⟩:=push_col (ty:=tSlU8) (k2:=k4) O4 x4.rd (by omega)
     have B5:=B4.stp s5 (by omega) (by omega) (by omega) (by omega) (by omega)
     refine ⟨_,_,_,rfl,_,w5,hr5,_,_,_,rfl,⟨x+1,e,rfl,by omega,rfl,by omega,he2,hlt',hge',by rw [epay,List.length_append],_,(s1.trans (s4.mono (fun k h=>by rcases h with h | h | h; exact .inl h; exact .inr (.inl h); exact .inr (.inr (by omega))))).trans (s5.mono (fun k h=>.inr (.inr (by omega)))),by rw [eout]; exact B5,?_⟩,by dsimp only; omega⟩
     rw [epay]; exact O5
  ·obtain rfl:x=16:=by omega
   have hval1:=hval.stp s1 SI_notin.2.1
   have hvl:v.length≤1024:=by
    by_cases hv0:v=[]
    ·rw [hv0]; simp
    ·have:=(hR.2 [] v).1 (by rw [get_branch_nil,if_neg hv0])
     obtain ⟨j,hj,_,_,he⟩:=seg_mem hbl this
     have:=hE.vals _ (List.getElem_mem hj)
     rw [← (Prod.mk.inj he).2] at this
     exact this
   refine (str_calls (k:=c133) hval1.rd (by omega)).mono ?_
   rintro _ w2 ⟨o2,k2,rfl,F2⟩
   have B2:=B1.mod' F2.mod 5
   have s2:Stp NoS w1 L1 w2 (ext L1 w1.heap.size 5):=Stp.of_nob F2.mod 5
   have O2:=O1.stp s2 (fun h=>h)
   generalize ext L1 w1.heap.size 5=L2 at *
   have q1:=enc_s_le v
   have hp16:=hpay 16
   obtain ⟨o5,k5,w5,hr5,O5,s5⟩:=push_col (ty:=tSlU8) (k2:=k2) O2 (fresh_bytes F2) (by omega)
   have B5:=B2.stp s5 (by omega) (by omega) (by omega) (by omega) (by omega)
   generalize ext L2 w2.heap.size (8+i)=L5 at *
   refine ⟨_,_,_,rfl,_,w5,hr5,_,_,_,rfl,?_⟩
   have hL:=rList_calls (k:=k5) O5.own.bytes (by rw [List.length_append]; omega)
   rw [List.length_append] at hL
   refine hL.mono ?_
   rintro _ w6 ⟨o6,k6,rfl,F6⟩
   have e6:Trie.head ((pay 16).length+(enc (.s v)).length) 192++(pay 16++enc (.s v))=bytesOf (.branch cs v):=by
    simp only [bytesOf,itemOf,pay]
    rw [List.take_of_length_le (by simp),enc_l,encs_append]
    simp only [encs,List.append_nil,List.length_append]
   rw [e6] at F6 ⊢
   have eo:outs 16=kidsN (.branch cs v) out:=by simp only [outs,kidsN]; rw [List.take_of_length_le (by simp)]
   rw [eo] at B5
   refine ⟨_,_,_,rfl,hR' _ _ ⟨o6,k6,rfl,_,?_,B5.mod' F6.mod 5,fresh_cby F6 (Mod.refl _),F6.own.cap.1⟩⟩
   have s6:Stp NoS w5 L5 w6 (ext L5 w5.heap.size 5):=Stp.of_nob F6.mod 5
   exact ((((sM.mono (fun _ h=>h.elim)).trans s1).trans (s2.mono (fun _ h=>h.elim))).trans (s5.mono (fun k h=>.inr (.inr (by omega))))).trans (s6.mono (fun _ h=>h.elim))
theorem items_B:∀(n:Nd),Canon n→Small n→n≠.nil→ItemB n∧RefB n
 | .nil,_,_,h=>(h rfl).elim
 | .leaf p v,hc,hs,hn=>⟨item_leafB p v,ref_of (item_leafB p v) hn hs⟩
 | .row p c,hc,hs,hn=>by
   have hcn:c≠.nil:=by rintro rfl; exact hc.2.2.1
   have hI:=item_rowB (items_B c hc.2.2.2 hs.2 hcn).2 hc
   exact ⟨hI,ref_of hI hn hs⟩
 | .branch cs v,hc,hs,hn=>by
   have hk:∀i,RefB (cs i):=fun i=>by
    by_cases hcn:cs i=.nil
    ·rw [hcn]
     intro w L d0 a b j es out hB hE hok hR hl
     have:=congrArg List.length (show seg es a b j=[] from by
      cases hs:seg es a b j with
      | nil=>rfl
      | cons y r=>exact absurd rfl (hR.ne (by rw [hs]; simp)))
     rw [seg_len hok.le] at this
     have:=hok.lt
     simp at *; omega
    ·exact (items_B (cs i) (hc.1 i) (hs.2 i) hcn).2
   have hI:=item_branchB hk hc
   exact ⟨hI,ref_of hI hn hs⟩
end Go.Proofs.YtfghidehlnfdiaaGreat
end
section
namespace Go.Proofs.YtfghidehlnfdiaaGreat
open Go Go.Vcg Go.Trie
theorem und_slSl:Tryz.prog.underlying 31=some (.slice tSlU8):=by kernel_rfl
theorem info_slU8:(Tryz.prog.info? tSlU8).map (fun i=>(i.zero,i.size,i.bytes))=some (some (.slice none 0 0),1,24):=by kernel_rfl
section
variable {C C':Type} {S:C→Prop} {w w':World} {lab:Nat→C} {lab':Nat→C'} {lab2:Nat→C} {c:C} {c':C'}
def KvRow (w:World) (lab:Nat→C) (c:C) (o:Option Addr) (m:List (By×By)):Prop :=
 ∀(j:Nat) (hj:j < m.length),∃b f ok kk ov kv,o=some ⟨b,f,none⟩∧b < w.heap.size∧lab b=c∧w.cell? ⟨b,f+j * 2,none⟩=some (.slice ok m[j].1.length kk)∧CBy w lab c ok m[j].1∧w.cell? ⟨b,f+(j * 2+1),none⟩=some (.slice ov m[j].2.length kv)∧CBy w lab c ov m[j].2
theorem KvRow.stp {o:Option Addr} {m:List (By×By)} (h:KvRow w lab c o m) (s:Stp S w lab w' lab2) (hs:¬S c):KvRow w' lab2 c o m:=fun j hj=>by
 obtain ⟨b,f,ok,kk,ov,kv,e1,e2,e3,e4,e5,e6,e7⟩:=h j hj
 exact ⟨b,f,ok,kk,ov,kv,e1,Nat.lt_of_lt_of_le e2 s.size,(s.lab b e2).trans e3,(World.cell?_of_block (s.block b e2 (by rw [e3]; exact hs))).trans e4,e5.stp s hs,(World.cell?_of_block (s.block b e2 (by rw [e3]; exact hs))).trans e6,e7.stp s hs⟩
theorem KvRow.re {o:Option Addr} {m:List (By×By)} (h:KvRow w lab c o m) (hl:∀k,k < w.heap.size→lab k=c→lab' k=c'):KvRow w lab' c' o m:=fun j hj=>by
 obtain ⟨b,f,ok,kk,ov,kv,e1,e2,e3,e4,e5,e6,e7⟩:=h j hj
 exact ⟨b,f,ok,kk,ov,kv,e1,e2,hl b e2 e3,e4,CBy.re e5 hl,e6,CBy.re e7 hl⟩
noncomputable def labB (lab:Nat→C) (c:C) (N d:Nat):Nat→Nat:=fun k=>if k < N then (@ite Nat (lab k=c) (Classical.propDecidable _) 6 0) else if k=d then 1 else if k=N then 2 else 5
theorem labB_old {N d k:Nat} (h:k < N):labB lab c N d k=6∨labB lab c N d k=0:=by
 unfold labB
 rw [if_pos h]
 split
 ·exact .inl rfl
 ·exact .inr rfl
theorem labB_in {N d k:Nat} (h:k < N) (hc:lab k=c):labB lab c N d k=6:=by
 unfold labB
 rw [if_pos h,if_pos hc]
def pathsOf (m:List (By×By)):List (By×By):=m.map fun e=>(nibbles e.1,e.2)
theorem seg_all (es:List (By×By)):seg es 0 es.length 0=es:=by
 unfold seg
 rw [List.drop_zero,Nat.sub_zero,List.take_length]
 have:(fun e:By×By=>(e.1.drop 0,e.2))=id:=by funext e; simp
 rw [this,List.map_id]
structure KvOk (m:List (By×By)):Prop where
 len:m.length≤2 ^ 20
 keys:∀e∈m,e.1.length≤64
 vals:∀e∈m,e.2.length≤1024
theorem made_calls {o:Option Addr} {k:Nat} {m:List (By×By)} {n:Nd} (h:KvRow w lab c o m) (hm:KvOk m) (hr:Rep (pathsOf m) n) (hc:Canon n) (hs:Small n) (hcn:cnt n≤2 ^ 19) (cr:C) :
 Calls Tryz.prog moraineref14_made.n #[.slice o m.length k,.bool false] w (fun e w'=>∃o' k',e=.returned (.tuple #[.agg (hashA (rootOf n)),.slice o' (nodesOf n).length k'])∧Vcg.Mod NoB w w'∧NdRow w' (ext lab w.heap.size cr) cr (nodesOf n) o' (nodesOf n).length):=by
 refine calls_gen fun R hR=>moraineref14_made.vc _ _ _ _ _ _ ?_
 unfold moraineref14_made.Vc
 have hml:=hm.len
 rintro d2 w1 ⟨rfl,rfl⟩
 have M1:=Mod.alloc (S:=NoB) w (.cells (Array.replicate 32 (.int .u8 0)) 27)
 have H1:=Blk.new w 27 (Array.replicate 32 (.int .u8 0))
 have z1:=size_alloc w (.cells (Array.replicate 32 (.int .u8 0)) 27)
 generalize w.alloc (.cells (Array.replicate 32 (.int .u8 0)) 27)=w1 at *
 generalize hN:w.heap.size=N at *
 refine ⟨fun h0=>?_,fun h0=>?_⟩
 ·obtain rfl:m=[]:=List.eq_nil_of_length_eq_zero (by omega)
  have hnil:=hr.nil_inv hc
  subst hnil
  refine (rEmpty_calls w1).mono ?_
  rintro _ w2 ⟨rfl,M2⟩
  obtain ⟨h1,h2,h3⟩:=hash_store (H1.mod' M2) (by simp) emptyH
  refine ⟨_,rfl,_,h1,_,h2.rowAll (size_hashA _),hR _ _ ⟨none,0,?_,mod_of (M1.trans M2 (fun _ _ h=>h)) h3 (by omega),NdRow.nil _ _ _ _⟩⟩
  rw [Trie.rootOf,bytes_nil]; rfl
 rintro d9 w2 ⟨rfl,rfl⟩
 rw [z1]
 have M2:=Mod.alloc (S:=NoB) w1 (.cells #[.slice o m.length k,.slice none 0 0,.slice none 0 0,.bool false] 118)
 have D2:=Blk.new w1 118 #[.slice o m.length k,.slice none 0 0,.slice none 0 0,.bool false]
 have z2:=size_alloc w1 (.cells #[.slice o m.length k,.slice none 0 0,.slice none 0 0,.bool false] 118)
 rw [z1] at D2 z2
 have H2:=H1.mod' M2
 have M02:=M1.trans M2 (fun _ _ h=>h)
 generalize w1.alloc (.cells #[.slice o m.length k,.slice none 0 0,.slice none 0 0,.bool false] 118)=w2 at *
 have lD:labB lab c N (N+1) (N+1)=1:=by unfold labB; rw [if_neg (by omega),if_pos rfl]
 have lH:labB lab c N (N+1) N=2:=by unfold labB; rw [if_neg (by omega),if_neg (by omega),if_pos rfl]
 have hkv:KvRow w2 (labB lab c N (N+1)) 6 o m:=(KvRow.re h (fun k hk hc=>labB_in (by omega) hc)).stp (Stp.same M02 (labB lab c N (N+1))) (fun h=>h)
 have D2c:CB w2 (labB lab c N (N+1)) 1 (N+1) tBuild #[.slice o m.length k,.slice none 0 0,.slice none 0 0,.bool false]:=⟨D2,lD⟩
 have H2c:CB w2 (labB lab c N (N+1)) 2 N tHash (Array.replicate 32 (.int .u8 0)):=⟨H2,lH⟩
 have hold:∀k,k < N→labB lab c N (N+1) k=6∨labB lab c N (N+1) k=0:=fun k hk=>labB_old hk
 generalize labB lab c N (N+1)=L2 at *
 let P:Nat→By:=fun j=>nibbles ((m[j]?.getD ([],[])).1)
 refine ⟨fun i w'=>∃(j:Nat) (L:Nat→Nat) (op:Option Addr) (cp:Nat) (vs:List Value),i=(j:Int)∧j≤m.length∧Stp (fun k=>k=1∨k=7) w2 L2 w' L ∧
  CB w' L 1 (N+1) tBuild #[.slice o m.length k,.slice op j cp,.slice none 0 0,.bool false]∧COw w' L 7 tSlU8 1 op j cp vs∧∀i,i < j→∃o k,vs[i]?=some (.slice o (P i).length k)∧(P i).length≤k∧CBy w' L 5 o (P i),
  fun i _=>((m.length:Int) - i).toNat,⟨0,L2,none,0,[],rfl,Nat.zero_le _,Stp.refl _ _ _,D2c,COw.nil _ _ _ _ _,fun i hi=>absurd hi (by omega)⟩,?_⟩
 rintro _ _ w3 ⟨j,L3,op,cp,vs,rfl,hj,s3,D3,O3,hvs⟩
 have hkv3:=hkv.stp s3 (by decide)
 refine ⟨fun hlt=>?_,fun hge=>?_⟩
 ·have hjl:j < m.length:=by omega
  rintro _ rfl
  have sD:Stp NoS w3 L3 w3.drew L3:=Stp.drew _ _ _
  have hkv4:=hkv3.stp sD (fun h=>h)
  have D4:=D3.stp sD (fun h=>h)
  have O4:=O3.stp sD (fun h=>h)
  have hvs4:∀i,i < j→∃o k,vs[i]?=some (.slice o (P i).length k)∧(P i).length≤k∧CBy w3.drew L3 5 o (P i):=fun i hi=>by obtain ⟨o,k,a,b,c⟩:=hvs i hi; exact ⟨o,k,a,b,c.stp sD (fun h=>h)⟩
  have s4:=s3.trans (sD.mono (T:=fun k=>k=1∨k=7) (fun _ h=>h.elim))
  generalize w3.drew=w4 at *
  obtain ⟨b,f,ok,kk,ov,kv,rfl,e2,e3,e4,e5,e6,e7⟩:=hkv4 j hjl
  have hkl:=hm.keys _ (List.getElem_mem hjl)
  simp only [add_at,Nat.zero_add,Int.toNat_natCast]
  refine ⟨_,_,_,D4.blk.rd1 rfl,_,rfl,⟨by omega,by omega⟩,_,_,_,by rw [add_at]; exact e4,?_⟩
  refine (rNibbles_calls e5.rd (by omega)).mono ?_
  rintro _ w5 ⟨o5,k5,rfl,F5⟩
  refine ⟨_,_,_,rfl,(D4.blk.mod' F5.mod).rd1 rfl,?_⟩
  rintro d w6 ⟨rfl,rfl⟩
  have M6:=Mod.alloc (S:=NoB) w5 (.cells #[.slice o5 (nibbles m[j].1).length k5] 23)
  have N6:=Blk.new w5 23 #[.slice o5 (nibbles m[j].1).length k5]
  have M46:=F5.mod.trans M6 (fun _ _ h=>h)
  have s6:Stp NoS w4 L3 (w5.alloc (.cells #[.slice o5 (nibbles m[j].1).length k5] 23)) (ext L3 w4.heap.size 5):=Stp.of_nob M46 5
  have b6:CBy (w5.alloc (.cells #[.slice o5 (nibbles m[j].1).length k5] 23)) (ext L3 w4.heap.size 5) 5 o5 (nibbles m[j].1):=fresh_cby F5 M6
  generalize w5.alloc (.cells #[.slice o5 (nibbles m[j].1).length k5] 23)=w6 at *
  have D6:=D4.stp s6 (fun h=>h)
  have O6:=O4.stp s6 (fun h=>h)
  have hvs6:∀i,i < j→∃o k,vs[i]?=some (.slice o (P i).length k)∧(P i).length≤k∧CBy w6 (ext L3 w4.heap.size 5) 5 o (P i):=fun i hi=>by obtain ⟨o,k,a,b,c⟩:=hvs4 i hi; exact ⟨o,k,a,b,c.stp s6 (fun h=>h)⟩
  generalize ext L3 w4.heap.size 5=L6 at *
  obtain ⟨i,hi,hz,hsz,hb⟩:=info_of info_slU8
  obtain ⟨o7,k7,w7,hr7,O7,s7⟩:=COw.append (ty:=31) und_slSl hi hz hsz rfl O6 (src_one und_slSl N6 rfl (by simp [Value.oneCell'])) (by simp only [maxLen]; omega) (by rw [hb]; omega)
  have D7:=D6.stp s7 (by decide)
  have b7:=b6.stp s7 (by decide)
  have hvs7:∀i,i < j→∃o k,vs[i]?=some (.slice o (P i).length k)∧(P i).length≤k∧CBy w7 (ext L6 w6.heap.size 7) 5 o (P i):=fun i hi=>by obtain ⟨o,k,a,b,c⟩:=hvs6 i hi; exact ⟨o,k,a,b,c.stp s7 (by decide)⟩
  generalize ext L6 w6.heap.size 7=L7 at *
  refine ⟨D6.blk.rd1 rfl,_,w7,hr7,_,_,_,rfl,D7.blk.canSet (by simp) rfl,?_⟩
  rintro _ rfl
  have s8:Stp (fun k=>k=1) w7 L7 (w7.setCell ⟨N+1,1,none⟩ (.slice o7 (j+1) k7)) L7:=Stp.setCell D7.clr
  have hPj:P j=nibbles m[j].1:=by simp only [P]; rw [List.getElem?_eq_getElem hjl]; rfl
  have hvl:vs.length=j:=O6.own.len
  refine ⟨⟨j+1,L7,o7,k7,vs++[.slice o5 (nibbles m[j].1).length k5],by rw [wrap_i64_small (by omega) (by omega)]; omega,hjl,((s4.trans (s6.mono (fun _ h=>h.elim))).trans (s7.mono (fun _ h=>.inr h))).trans (s8.mono (fun _ h=>.inl h)),D7.set 1 _,O7.stp s8 (by decide),fun i hi=>?_⟩,by rw [wrap_i64_small (by omega) (by omega)]; omega⟩
  by_cases hij:i < j
  ·obtain ⟨o,k,a,b,c⟩:=hvs7 i hij
   exact ⟨o,k,by rw [List.getElem?_append_left (by omega)]; exact a,b,c.stp s8 (by decide)⟩
  ·obtain rfl:i=j:=by omega
   refine ⟨o5,k5,by rw [List.getElem?_append_right (by omega),hvl,Nat.sub_self,hPj]; rfl,by rw [hPj]; exact F5.own.cap.1,by rw [hPj]; exact b7.stp s8 (by decide)⟩
 ·obtain rfl:j=m.length:=by omega
  have hpl:(pathsOf m).length=m.length:=by simp [pathsOf]
  have hget:∀(i:Nat) (hi:i < (pathsOf m).length),(pathsOf m)[i]=(nibbles (m[i]'(by omega)).1,(m[i]'(by omega)).2):=fun i hi=>by simp [pathsOf]
  have hBS:BS w3 L3 (N+1) (pathsOf m) []:=by
   refine ⟨⟨o,k,op,cp,none,0,0,by rw [hpl]; exact D3,fun i hi=>?_,fun i hi=>?_,RnOwn.nil _ _ _ _⟩⟩
   ·obtain ⟨b,f,ok,kk,ov,kv,e1,e2,e3,e4,e5,e6,e7⟩:=hkv3 i (by omega)
    rw [hget i hi]
    exact ⟨b,f,ov,kv,e1,e2,e3,e6,e7⟩
   ·obtain ⟨o',k',a,b,d⟩:=hvs i (by omega)
    obtain ⟨g,f,ho,hg,hl,hcell⟩:=O3.row i _ a
    rw [hget i hi]
    have hPi:P i=nibbles (m[i]'(by omega)).1:=by simp only [P]; rw [List.getElem?_eq_getElem (by omega)]; rfl
    rw [← hPi]
    exact ⟨g,f,o',k',ho,hg,hl,hcell,b,d⟩
  have hEs:EsOk (pathsOf m):=by
   refine ⟨by omega,fun e he=>?_,fun e he=>?_⟩
   ·obtain ⟨x,hx,rfl⟩:=List.mem_map.1 he
    have:=hm.keys x hx
    show (nibbles x.1).length≤128
    rw [nibbles_len]; omega
   ·obtain ⟨x,hx,rfl⟩:=List.mem_map.1 he
    exact hm.vals x hx
  have hne:n≠.nil:=hr.ne (by intro e; have:=congrArg List.length e; simp at this; rw [this] at hpl; simp at hpl; omega)
  have hok:Okseg (pathsOf m) 0 m.length 0:=⟨by omega,by omega,fun _ _ _ _=>Nat.zero_le _⟩
  have hrep:Rep (seg (pathsOf m) 0 m.length 0) n:=by
   have:=seg_all (pathsOf m)
   rw [hpl] at this
   rw [this]; exact hr
  have hbl:=bytes_le hs
  have hkl:=kids_len (n:=n) []
  simp only [List.length_nil,Nat.zero_add] at hkl
  refine ((items_B n hc hs hne).1 hBS hEs hok hrep (by simp; omega)).mono ?_
  rintro _ w4 ⟨o4,k4,rfl,L4,s4,B4,x4,hk4⟩
  refine ⟨_,_,_,rfl,?_⟩
  refine (refSum_calls (bytesOf n) rfl (by omega) x4.rd).mono ?_
  rintro _ w5 ⟨rfl,M5⟩
  refine ⟨_,rfl,?_⟩
  rintro d w6 ⟨rfl,rfl⟩
  have N6:=Blk.new w5 27 (Array.replicate 32 (.int .u8 0))
  obtain ⟨h1,h2,h3⟩:=hash_store N6 (by simp) (sumOf (bytesOf n))
  have M6:=mod_of (M5.step_alloc (.cells (Array.replicate 32 (.int .u8 0)) 27)) h3 M5.size
  refine ⟨_,h1,_,h2.rowAll (size_hashA _),?_⟩
  have hge:=M5.size
  generalize w5.heap.size=D at *
  generalize ((w5.alloc (.cells (Array.replicate 32 (.int .u8 0)) 27)).setRow D (hashA (sumOf (bytesOf n))))=w6 at *
  have B6:=B4.mod' M6 5
  have s6:Stp NoS w4 L4 w6 (ext L4 w4.heap.size 5):=Stp.of_nob M6 5
  have x6:=x4.stp s6 (fun h=>h)
  have D6:CB w6 (ext L4 w4.heap.size 5) 5 D tHash (hashA (sumOf (bytesOf n))):=⟨h2,ext_new hge⟩
  generalize ext L4 w4.heap.size 5=L6 at *
  refine (node_calls (k:=k4) B6 x6 (length_sumOf _) hk4 (by omega)).mono ?_
  rintro _ w7 ⟨rfl,L7,s7,_,B7⟩
  have D7:=D6.stp s7 (by decide)
  have enodes:(if met (kidsN n []) (sumOf (bytesOf n)) then kidsN n [] else kidsN n []++[(sumOf (bytesOf n),bytesOf n)])=nodesOf n:=by
   unfold nodesOf
   rw [visit_kids hne]
   unfold putNode
   simp
  rw [enodes] at B7
  refine ⟨rfl,?_⟩
  rintro _ rfl
  have sD:Stp NoS w7 L7 w7.drew L7:=Stp.drew _ _ _
  have D8:=D7.stp sD (fun h=>h)
  have B8:=B7.stp sD (fun h=>h) (fun h=>h) (fun h=>h) (fun h=>h) (fun h=>h)
  generalize w7.drew=w8 at *
  have sAll:Stp (fun k=>k=1∨k=4∨k=7∨8≤k) w2 L2 w8 L7:=by
   refine ((((s3.mono ?_).trans (s4.mono ?_)).trans (s6.mono ?_)).trans (s7.mono ?_)).trans (sD.mono ?_)
   ·rintro k (h | h)
    ·exact .inl h
    ·exact .inr (.inr (.inl h))
   ·rintro k (h | h | h)
    ·exact .inl h
    ·exact .inr (.inl h)
    ·exact .inr (.inr (.inr (by omega)))
   ·exact fun _ h=>h.elim
   ·rintro k (h | h)
    ·exact .inl h
    ·exact .inr (.inl h)
   ·exact fun _ h=>h.elim
  obtain ⟨ol,cl,op',cp',on,nn,kn,c1,c2,c3,c4⟩:=B8.ex
  have H8:=H2c.stp sAll (by decide)
  obtain ⟨g1,g2,g3⟩:=hash_store H8.blk (by simp) (sumOf (bytesOf n))
  have hNne:N+1≠N:=by omega
  have c9:Blk (w8.setRow N (hashA (sumOf (bytesOf n)))) (N+1) _ _:=c1.blk.row_ne hNne
  simp only [add_at,Nat.zero_add]
  refine ⟨_,D8.blk.rowAll (size_hashA _),_,_,_,c1.blk.rd1 rfl,_,g1,c9.rd1 rfl,_,g2.rowAll (size_hashA _),?_⟩
  have hlt8:∀k,k < N→k < w2.heap.size:=fun k hk=>by omega
  have M28:Vcg.Mod NoB w w8:=M02.trans (sAll.mod (Q:=fun k=>N≤k) (fun k hk hs=>Nat.not_lt.1 fun hlt=>by
   rcases hold k hlt with h | h <;> rw [h] at hs <;> rcases hs with hs | hs | hs | hs <;> omega)) (fun i hi hq=>by omega)
  have s9:Stp (fun k=>k=2) w8 L7 (w8.setRow N (hashA (sumOf (bytesOf n)))) L7:=⟨g3.os,g3.tape,g3.output,g3.size,fun _ _=>rfl,fun k hk hn=>g3.block k hk (fun e=>hn (by subst e; exact H8.clr))⟩
  obtain ⟨rfl,vs',O8,C8⟩:=c4
  have M9:=mod_of M28 g3 (by omega)
  have O9:=O8.stp s9 (by decide)
  have C9:=C8.stp s9 (by decide)
  have hz9:(w8.setRow N (hashA (sumOf (bytesOf n)))).heap.size=w8.heap.size:=size_setRow _ _ _
  have hre:∀q,q=4∨q=5→∀k,k < (w8.setRow N (hashA (sumOf (bytesOf n)))).heap.size→L7 k=q→ext lab N cr k=cr:=fun q hq k hk he=>by
   by_cases hlt:k < N
   ·rw [sAll.lab k (by omega)] at he
    rcases hold k hlt with h | h <;> rw [h] at he <;> omega
   ·exact ext_new (by omega)
  exact hR _ _ ⟨on,kn,rfl,M9,rfl,vs',COw.row (COw.re O9 (hre 4 (.inl rfl))),NdCells.re C9 (hre 5 (.inr rfl))⟩
theorem NdRow.re {o:Option Addr} {l:List (By×By)} {n:Nat} (h:NdRow w lab c l o n) (hl:∀k,k < w.heap.size→lab k=c→lab' k=c'):NdRow w lab' c' l o n:=by
 obtain ⟨h1,vs,h2,h3⟩:=h
 refine ⟨h1,vs,fun j v hv=>?_,NdCells.re h3 hl⟩
 obtain ⟨b,f,ho,hb,hc,hcell⟩:=h2 j v hv
 exact ⟨b,f,ho,hb,hl b hb hc,hcell⟩
theorem Of_calls {o:Option Addr} {k:Nat} {m:List (By×By)} {n:Nd} (h:KvRow w lab c o m) (hm:KvOk m) (hr:Rep (pathsOf m) n) (hc:Canon n) (hs:Small n) (hcn:cnt n≤2 ^ 19) (cr:C) :
 Calls Tryz.prog moraineref14_Of.n #[.slice o m.length k] w (fun e w'=>∃o' k',e=.returned (.tuple #[.agg (hashA (rootOf n)),.slice o' (nodesOf n).length k'])∧Vcg.Mod NoB w w'∧NdRow w' (ext lab w.heap.size cr) cr (nodesOf n) o' (nodesOf n).length):=by
 refine moraineref14_Of.vc _ _ _ _ _ ?_
 unfold moraineref14_Of.Vc
 rintro d1 w1 ⟨rfl,rfl⟩
 have M1:=Mod.alloc (S:=NoB) w (.cells (Array.replicate 32 (.int .u8 0)) 27)
 have H1:=Blk.new w 27 (Array.replicate 32 (.int .u8 0))
 have z1:=size_alloc w (.cells (Array.replicate 32 (.int .u8 0)) 27)
 have h0:KvRow w (fun k=>if k < w.heap.size then some (lab k) else none) (some c) o m:=KvRow.re h (fun k hk hc=>by rw [if_pos hk,hc])
 have h1:=h0.stp (S:=fun _=>False) (Stp.same M1 _) (fun h=>h)
 generalize w.alloc (.cells (Array.replicate 32 (.int .u8 0)) 27)=w1 at *
 refine (made_calls h1 hm hr hc hs hcn (some cr)).mono ?_
 rintro _ w2 ⟨o2,k2,rfl,M2,N2⟩
 have H2:=H1.mod' M2
 obtain ⟨g1,g2,g3⟩:=hash_store H2 (by simp) (rootOf n)
 have hlab:ext (fun k=>if k < w.heap.size then some (lab k) else none) w1.heap.size (some cr) w.heap.size=none:=by
  rw [ext_old (by omega),if_neg (by omega)]
 have s3:Stp (fun z=>z=none) w2 (ext (fun k=>if k < w.heap.size then some (lab k) else none) w1.heap.size (some cr)) (w2.setRow w.heap.size (hashA (rootOf n))) (ext (fun k=>if k < w.heap.size then some (lab k) else none) w1.heap.size (some cr)) :=
  ⟨g3.os,g3.tape,g3.output,g3.size,fun _ _=>rfl,fun k hk hn=>g3.block k hk (fun e=>hn (by subst e; exact hlab))⟩
 refine ⟨_,_,_,_,rfl,_,g1,_,g2.rowAll (size_hashA _),o2,k2,rfl,mod_of (M1.trans M2 (fun _ _ h=>h)) g3 (Nat.le_refl _),NdRow.re (N2.stp s3 (by simp)) (fun k hk he=>?_)⟩
 by_cases hlt:k < w.heap.size
 ·rw [ext_old (by omega)] at he
  rw [if_pos hlt] at he
  rw [ext_old hlt]
  exact Option.some.inj he
 ·exact ext_new (by omega)
end
end Go.Proofs.YtfghidehlnfdiaaGreat
end
section
namespace Go.Trie
def putM:List (By×By)→By→By→List (By×By)
 | [],k,v=>if v=[] then [] else [(k,v)]
 | x :: r,k,v=>if cmpB x.1 k < 0 then x :: putM r k v else (if v=[] then [] else [(k,v)])++(if x.1=k then r else x :: r)
end Go.Trie
namespace Go.Proofs.YtfghidehlnfdiaaGreat
open Go Go.Vcg Go.Trie
abbrev tKv:TypeId:=53
abbrev tSlKv:TypeId:=22
theorem und_slKv:Tryz.prog.underlying tSlKv=some (.slice tKv):=by kernel_rfl
section
variable {C C':Type} {S:C→Prop} {w0 w w':World} {lab:Nat→C} {lab':Nat→C'} {lab2:Nat→C} {c:C} {c':C'} {xs:List Value} {o:Option Addr}
theorem CRow.take (h:CRow w lab c o xs) (n:Nat):CRow w lab c o (xs.take n):=fun j v hv=>by
 rw [List.getElem?_take] at hv
 split at hv
 ·exact h j v hv
 ·cases hv
theorem CRow.drop (h:CRow w lab c o xs) {cap n sz:Nat} (hl:xs.length≤cap * sz):CRow w lab c (subO o cap n sz) (xs.drop (n * sz)):=fun j v hv=>by
 rw [List.getElem?_drop] at hv
 obtain ⟨b,f,ho,hb,hl',hc⟩:=h _ v hv
 have hlt:n * sz+j < xs.length:=by
  rcases Nat.lt_or_ge (n * sz+j) xs.length with h | h
  ·exact h
  ·rw [List.getElem?_eq_none h] at hv; cases hv
 have hne:¬cap=n:=by rintro rfl; omega
 refine ⟨b,f+n * sz,?_,hb,hl',by rw [Nat.add_assoc]; exact hc⟩
 unfold subO
 rw [if_neg hne,ho]
 simp
theorem CRow.re (h:CRow w lab c o xs) (hl:∀k,k < w.heap.size→lab k=c→lab' k=c'):CRow w lab' c' o xs:=fun j v hv=>by
 obtain ⟨b,f,ho,hb,hc,hcell⟩:=h j v hv
 exact ⟨b,f,ho,hb,hl b hb hc,hcell⟩
noncomputable def labK (lab:Nat→C) (c:C) (N:Nat):Nat→Nat:=fun k=>if k < N then (@ite Nat (lab k=c) (Classical.propDecidable _) 0 1) else 0
theorem labK_in {N k:Nat} (hc:lab k=c):labK lab c N k=0:=by
 unfold labK
 rw [if_pos hc]
 split <;> rfl
theorem labK_old {N k:Nat} (h:k < N):labK lab c N k≠2∧(labK lab c N k=0→lab k=c):=by
 unfold labK
 rw [if_pos h]
 constructor
 ·split <;> decide
 ·split
  ·rename_i h; exact fun _=>h
  ·intro h; cases h
end
end Go.Proofs.YtfghidehlnfdiaaGreat
end
section
namespace Go.Trie
theorem nib_back (a:UInt8):(a >>> 4) <<< 4 ||| (a &&& 15)=a:=by
 have:∀n:Fin 256,((UInt8.ofFin n >>> 4) <<< 4 ||| (UInt8.ofFin n &&& 15))=UInt8.ofFin n:=by decide +kernel
 exact this a.toFin
theorem nibbles_cons (a:UInt8) (k:By):nibbles (a :: k)=(a >>> 4) :: (a &&& 15) :: nibbles k:=rfl
theorem nibbles_inj:∀{a b:By},nibbles a=nibbles b→a=b
 | [],[],_=>rfl
 | [],b :: q,h=>by simp [nibbles_cons] at h; simp [nibbles] at h
 | a :: p,[],h=>by simp [nibbles_cons] at h; simp [nibbles] at h
 | a :: p,b :: q,h=>by
   rw [nibbles_cons,nibbles_cons] at h
   simp only [List.cons.injEq] at h
   rw [nibbles_inj h.2.2,← nib_back a,← nib_back b,h.1,h.2.1]
theorem nib_lt {a b:UInt8} (h:a < b):a >>> 4 < b >>> 4∨(a >>> 4=b >>> 4∧a &&& 15 < b &&& 15):=by
 have e1:∀x:UInt8,(x >>> 4).toNat=x.toNat / 16:=fun x=>by
  have:∀n:Fin 256,(UInt8.ofFin n >>> 4).toNat=(UInt8.ofFin n).toNat / 16:=by decide +kernel
  exact this x.toFin
 have e2:∀x:UInt8,(x &&& 15).toNat=x.toNat % 16:=fun x=>by
  have:∀n:Fin 256,(UInt8.ofFin n &&& 15).toNat=(UInt8.ofFin n).toNat % 16:=by decide +kernel
  exact this x.toFin
 have h':a.toNat < b.toNat:=UInt8.lt_iff_toNat_lt.1 h
 by_cases hq:a.toNat / 16=b.toNat / 16
 ·right
  refine ⟨UInt8.toNat_inj.1 (by rw [e1,e1,hq]),?_⟩
  rw [UInt8.lt_iff_toNat_lt,e2,e2]; omega
 ·left
  rw [UInt8.lt_iff_toNat_lt,e1,e1]; omega
theorem nibbles_lt:∀{a b:By},ltB a b→ltB (nibbles a) (nibbles b)
 | p,[],h=>(ltB_nil _ h).elim
 | [],b :: q,h=>by rw [nibbles_cons]; trivial
 | a :: p,b :: q,h=>by
   rw [nibbles_cons,nibbles_cons]
   rcases h with h | ⟨rfl,h⟩
   ·rcases nib_lt h with h1 | ⟨h1,h2⟩
    ·exact .inl h1
    ·exact .inr ⟨h1,.inl h2⟩
   ·exact .inr ⟨rfl,.inr ⟨rfl,nibbles_lt h⟩⟩
abbrev SortedM (m:List (By×By)):Prop:=m.Pairwise (fun x y=>ltB x.1 y.1)
theorem ltB_total:∀(a b:By),ltB a b∨a=b∨ltB b a
 | [],[]=>.inr (.inl rfl)
 | [],_ :: _=>.inl trivial
 | _ :: _,[]=>.inr (.inr trivial)
 | a :: p,b :: q=>by
   by_cases h:a < b
   ·exact .inl (.inl h)
   ·by_cases h':b < a
    ·exact .inr (.inr (.inl h'))
    ·have e:a=b:=UInt8.toNat_inj.1 (by rw [UInt8.lt_iff_toNat_lt] at h h'; omega)
     subst e
     rcases ltB_total p q with h1 | h1 | h1
     ·exact .inl (.inr ⟨rfl,h1⟩)
     ·exact .inr (.inl (by rw [h1]))
     ·exact .inr (.inr (.inr ⟨rfl,h1⟩))
theorem mem_putM:∀{m:List (By×By)} {k v:By},SortedM m→∀x,x∈putM m k v↔(x.1=k∧x.2=v∧v≠[])∨(x.1≠k∧x∈m)
 | [],k,v,_,x=>by
   simp only [putM]
   split
   ·rename_i h; simp [h]
   ·rename_i h
    simp only [List.mem_singleton,List.not_mem_nil,and_false,or_false]
    constructor
    ·rintro rfl; exact ⟨rfl,rfl,h⟩
    ·rintro ⟨h1,h2,_⟩; exact Prod.ext h1 h2
 | y :: r,k,v,hs,x=>by
   rw [SortedM,List.pairwise_cons] at hs
   simp only [putM]
   by_cases hy:cmpB y.1 k < 0
   ·rw [if_pos hy,List.mem_cons,mem_putM hs.2,List.mem_cons]
    have hne:y.1≠k:=fun e=>by
     rw [cmpB_lt,e] at hy
     exact ltB_irrefl _ hy
    constructor
    ·rintro (rfl | h | h)
     ·exact .inr ⟨hne,.inl rfl⟩
     ·exact .inl h
     ·exact .inr ⟨h.1,.inr h.2⟩
    ·rintro (h | ⟨h1,rfl | h2⟩)
     ·exact .inr (.inl h)
     ·exact .inl rfl
     ·exact .inr (.inr ⟨h1,h2⟩)
   ·rw [if_neg hy,List.mem_append]
    have hrest:∀z∈r,z.1≠k:=fun z hz e=>by
     have h1:=hs.1 z hz
     rw [e] at h1
     exact hy (cmpB_lt.2 h1)
    have hnew:x∈(if v=[] then [] else [(k,v)])↔x.1=k∧x.2=v∧v≠[]:=by
     split
     ·rename_i h; simp [h]
     ·rename_i h
      rw [List.mem_singleton]
      constructor
      ·rintro rfl; exact ⟨rfl,rfl,h⟩
      ·rintro ⟨h1,h2,_⟩; exact Prod.ext h1 h2
    rw [hnew]
    by_cases hyk:y.1=k
    ·rw [if_pos hyk,List.mem_cons]
     constructor
     ·rintro (h | h)
      ·exact .inl h
      ·exact .inr ⟨hrest x h,.inr h⟩
     ·rintro (h | ⟨h1,rfl | h2⟩)
      ·exact .inl h
      ·exact (h1 hyk).elim
      ·exact .inr h2
    ·rw [if_neg hyk,List.mem_cons]
     constructor
     ·rintro (h | rfl | h)
      ·exact .inl h
      ·exact .inr ⟨hyk,.inl rfl⟩
      ·exact .inr ⟨hrest x h,.inr h⟩
     ·rintro (h | ⟨h1,h2⟩)
      ·exact .inl h
      ·exact .inr h2
theorem sorted_putM:∀{m:List (By×By)} {k v:By},SortedM m→SortedM (putM m k v)
 | [],k,v,_=>by
   simp only [putM]
   split
   ·exact List.Pairwise.nil
   ·exact List.pairwise_singleton _ _
 | y :: r,k,v,hs=>by
   have hs0:=hs
   rw [SortedM,List.pairwise_cons] at hs
   by_cases hy:cmpB y.1 k < 0
   ·have e:putM (y :: r) k v=y :: putM r k v:=by simp only [putM]; rw [if_pos hy]
    rw [e,SortedM,List.pairwise_cons]
    refine ⟨fun z hz=>?_,sorted_putM hs.2⟩
    rcases (mem_putM hs.2 z).1 hz with ⟨h1,_⟩ | ⟨_,h2⟩
    ·rw [h1]; exact cmpB_lt.1 hy
    ·exact hs.1 z h2
   ·have e:putM (y :: r) k v=(if v=[] then [] else [(k,v)])++(if y.1=k then r else y :: r):=by simp only [putM]; rw [if_neg hy]
    rw [e,SortedM,List.pairwise_append]
    have hkr:∀z∈r,ltB k z.1:=fun z hz=>by
     have h1:=hs.1 z hz
     rcases ltB_total k y.1 with h | h | h
     ·exact ltB_trans h h1
     ·rw [h]; exact h1
     ·exact (hy (cmpB_lt.2 h)).elim
    refine ⟨by split <;> simp,?_,fun x hx z hz=>?_⟩
    ·split
     ·exact hs.2
     ·exact hs0
    ·have hxk:x.1=k:=by
      split at hx
      ·cases hx
      ·rw [List.mem_singleton] at hx; rw [hx]
     rw [hxk]
     split at hz
     ·exact hkr z hz
     ·rename_i hyk
      rcases List.mem_cons.1 hz with rfl | hz
      ·rcases ltB_total k z.1 with h | h | h
       ·exact h
       ·exact (hyk h.symm).elim
       ·exact (hy (cmpB_lt.2 h)).elim
      ·exact hkr z hz
end Go.Trie
namespace Go.Proofs.YtfghidehlnfdiaaGreat
open Go Go.Vcg Go.Trie
theorem mem_paths {m:List (By×By)} {k v:By}:(nibbles k,v)∈pathsOf m↔(k,v)∈m:=by
 unfold pathsOf
 rw [List.mem_map]
 constructor
 ·rintro ⟨x,hx,he⟩
  have h1:=nibbles_inj (Prod.mk.inj he).1
  have h2:=(Prod.mk.inj he).2
  rw [← h1,← h2]; exact hx
 ·exact fun h=>⟨_,h,rfl⟩
theorem paths_sorted {m:List (By×By)} (hs:SortedM m):(pathsOf m).Pairwise (fun x y=>ltB x.1 y.1):=by
 unfold pathsOf
 rw [List.pairwise_map]
 exact hs.imp (fun h=>nibbles_lt h)
theorem rep_of {m:List (By×By)} {n:Nd} (hs:SortedM m) (h:∀p v,Trie.get n p=some v↔(p,v)∈pathsOf m):Rep (pathsOf m) n:=⟨paths_sorted hs,h⟩
theorem rep_put {m:List (By×By)} {n:Nd} {k v:By} (hr:Rep (pathsOf m) n) (hs:SortedM m) (hc:Canon n) (hv:v≠[]):Rep (pathsOf (putM m k v)) (Trie.put n (nibbles k) v):=by
 refine rep_of (sorted_putM hs) (fun p x=>?_)
 rw [(put_ok hc (nib_nibbles k) hv).2.2.2 p]
 by_cases hp:p=nibbles k
 ·rw [if_pos hp,hp,mem_paths,mem_putM hs]
  constructor
  ·intro h; cases h; exact .inl ⟨rfl,rfl,hv⟩
  ·rintro (⟨_,h,_⟩ | ⟨h,_⟩)
   ·exact congrArg some h.symm
   ·exact (h rfl).elim
 ·rw [if_neg hp,hr.2]
  unfold pathsOf
  rw [List.mem_map,List.mem_map]
  constructor
  ·rintro ⟨y,hy,he⟩
   refine ⟨y,(mem_putM hs y).2 (.inr ⟨fun e=>hp ?_,hy⟩),he⟩
   rw [← (Prod.mk.inj he).1,e]
  ·rintro ⟨y,hy,he⟩
   rcases (mem_putM hs y).1 hy with ⟨h,_⟩ | ⟨_,h⟩
   ·exact (hp (by rw [← (Prod.mk.inj he).1,h])).elim
   ·exact ⟨y,h,he⟩
theorem rep_nil:Rep (pathsOf []) .nil:=Rep.nil
end Go.Proofs.YtfghidehlnfdiaaGreat
end
section
namespace Go.Proofs.YtfghidehlnfdiaaGreat
open Go Go.Vcg Go.Trie
section
variable {C C':Type} {S:C→Prop} {w0 w w':World} {lab:Nat→C} {lab':Nat→C'} {lab2:Nat→C} {c c1:C} {c':C'} {xs:List Value} {o:Option Addr}
theorem toStr {w:World} {o:Option Addr} {k:Nat} {b:By} (h:RdB w o b):Sem.run Tryz.prog (convert 23 9 (.slice o b.length k)) w=.ok (.string (strOf b)) w:=run_toStr und_slU8 und_u8 und_str h
theorem hBytes_calls {o1 o2:Option Addr} {k1 k2:Nat} {a b:By} (h1:RdB w o1 a) (h2:RdB w o2 b) :
 Calls Tryz.prog morainehelp_Bytes.n #[.slice o1 a.length k1,.slice o2 b.length k2] w (fun e w'=>e=.returned (.bool (decide (a=b)))∧w'=w):=by
 refine morainehelp_Bytes.vc _ _ _ _ _ _ _ _ ?_
 unfold morainehelp_Bytes.Vc
 refine ⟨_,toStr h1,_,rfl,_,toStr h2,_,rfl,?_,rfl⟩
 rw [strB_strOf]
theorem strB_neq (a b:By):strB .neq (strOf a) (strOf b)=decide (a≠b):=by
 have h:=strB_strOf a b
 have:strB .neq (strOf a) (strOf b)= !strB .eql (strOf a) (strOf b):=by
  simp only [strB,bne]
 rw [this,h]
 by_cases hab:a=b <;> simp [hab]
theorem rNodes_calls {l:List (By×By)} {k:Nat} (h:NdRow w lab c l o l.length) (hb:∀x∈l,x.2.length≤2 ^ 20) (hlen:l.length≤2 ^ 20) (cr:C) :
 Calls Tryz.prog moraineref14_Nodes.n #[.slice o l.length k] w (fun e w'=>∃o' k',e=.returned (.slice o' l.length k')∧l.length≤k'∧Vcg.Mod NoB w w'∧NdRow w' (ext lab w.heap.size cr) cr l o' l.length):=by
 refine calls_gen fun R hR=>moraineref14_Nodes.vc _ _ _ _ _ ?_
 unfold moraineref14_Nodes.Vc
 have inL:∀k,k < w.heap.size→lab k=c→labK lab c w.heap.size k=0:=fun k _ hc=>labK_in hc
 have h0:NdRow w (labK lab c w.heap.size) 0 l o l.length:=NdRow.re h inL
 refine ⟨fun o' n' k' i w'=>∃(j:Nat) (L:Nat→Nat),i=(j:Int)∧j≤l.length∧n'=j∧Stp (·=2) w (labK lab c w.heap.size) w' L∧NdOwn w' L 2 3 (l.take j) o' n' k',fun _ _ _ i _=>((l.length:Int) - i).toNat,
  ⟨0,_,rfl,Nat.zero_le _,rfl,Stp.refl _ _ _,by rw [List.take_zero]; exact NdOwn.nil _ _ _ _⟩,?_⟩
 rintro o1 j k1 _ _ w1 ⟨j',L1,rfl,hj,hjj,s1,O1⟩
 subst hjj
 obtain ⟨_,vs,hCR,hNC⟩:=h0
 refine ⟨fun hlt=>?_,fun hge=>?_⟩
 ·rintro _ rfl
  have hjl:j < l.length:=by omega
  have sD:Stp NoS w1 L1 w1.drew L1:=Stp.drew _ _ _
  have O2:=O1.stp sD (fun h=>h) (fun h=>h)
  have s2:=s1.trans (sD.mono (T:=fun k=>k=2) (fun _ h=>h.elim))
  generalize w1.drew=w2 at *
  have CR2:=hCR.stp s2 (by decide)
  have NC2:=hNC.stp s2 (by decide)
  obtain ⟨g,f,rfl,hg,hlg,hrow⟩:=NC2.hash CR2 hjl
  obtain ⟨g',f',hgf,_,ob,kb,hcell,hby,_⟩:=NC2.bytes CR2 hjl
  cases hgf
  have hlen32:=(NC2.2 j hjl).1
  have hbl:=hb _ (List.getElem_mem hjl)
  obtain ⟨o3,k3,w3,hr3,F3⟩:=copy_bytes' (k2:=kb) (ty:=tSlU8) (Mod.refl w2) hby.rd (by omega)
  have hrow':∀w',Vcg.Mod NoB w2 w'→RowAt w' (Addr.add ⟨g,f,none⟩ (Int.toNat (j:Int) * 33)) 32 (hashA l[j].1):=fun w' M=>by
   rw [add_at,Int.toNat_natCast]
   exact ⟨hrow.1,fun i hi=>by rw [← hrow.2 i hi,add_at]; exact cell_mod M hg (fun h=>h)⟩
  have hZ:nd0.size=33:=rfl
  refine ⟨_,rfl,⟨by omega,by omega⟩,_,hrow' _ (Mod.refl _),_,rfl,⟨by omega,by omega⟩,_,_,_,by rw [add_at,add_at,Int.toNat_natCast,Nat.add_assoc]; exact hcell,_,w3,hr3,_,_,_,rfl,hrow' _ F3.mod,size_hashA _,by rw [size_setsAt]; unfold lputL; rw [size_setsAt,hZ],?_⟩
  rw [nd_built hZ]
  rintro d w4 ⟨rfl,rfl⟩
  have M4:=Mod.alloc (S:=NoB) w3 (.cells (ndA l[j].1 o3 l[j].2.length k3) tNd)
  have N4:=Blk.new w3 tNd (ndA l[j].1 o3 l[j].2.length k3)
  have M24:=F3.mod.trans M4 (fun _ _ h=>h)
  have s4:Stp NoS w2 L1 (w3.alloc (.cells (ndA l[j].1 o3 l[j].2.length k3) tNd)) (ext L1 w2.heap.size 3):=Stp.of_nob M24 3
  have b4:CBy (w3.alloc (.cells (ndA l[j].1 o3 l[j].2.length k3) tNd)) (ext L1 w2.heap.size 3) 3 o3 l[j].2:=fresh_cby F3 M4
  show ∃(v30:Value) (w31:World),Sem.run Tryz.prog (builtinV .append #[34,34] 34 #[(.slice o1 j k1),(.slice (some ⟨w3.heap.size,0,none⟩) 1 1)]) (w3.alloc (.cells (ndA l[j].1 o3 l[j].2.length k3) tNd))=.ok v30 w31∧_
  generalize w3.alloc (.cells (ndA l[j].1 o3 l[j].2.length k3) tNd)=w4 at *
  have O4:=O2.stp s4 (fun h=>h) (fun h=>h)
  have htl:(l.take j).length=j:=by rw [List.length_take]; omega
  obtain ⟨o5,k5,w5,hr5,O5,s5⟩:=O4.push (by decide) N4 hlen32 b4 F3.own.cap.1 (by omega)
  have htk:l.take (j+1)=l.take j++[(l[j].1,l[j].2)]:=by rw [List.take_add_one,List.getElem?_eq_getElem hjl]; rfl
  refine ⟨_,w5,hr5,_,_,_,rfl,⟨j+1,_,by rw [wrap_i64_small (by omega) (by omega)]; omega,hjl,rfl,(s2.trans (s4.mono (fun _ h=>h.elim))).trans s5,by rw [htk]; exact O5⟩,by dsimp only; rw [wrap_i64_small (by omega) (by omega)]; omega⟩
 ·obtain rfl:j=l.length:=by omega
  rw [List.take_length] at O1
  obtain ⟨_,us,hO,hC⟩:=O1
  have M1:Vcg.Mod NoB w w1:=(s1.mod (Q:=fun k=>w.heap.size≤k) (fun k hk hs=>Nat.not_lt.1 fun hlt=>(labK_old hlt).1 hs)).mono (fun i hi h=>by omega)
  have out:∀q,q=2∨q=3→∀z,z < w1.heap.size→L1 z=q→ext lab w.heap.size cr z=cr:=fun q hq z hz he=>by
   by_cases hlt:z < w.heap.size
   ·rw [s1.lab z hlt] at he
    have:labK lab c w.heap.size z=0∨labK lab c w.heap.size z=1:=by
     unfold labK
     rw [if_pos hlt]
     split
     ·exact .inl rfl
     ·exact .inr rfl
    rcases this with h | h <;> rw [h] at he <;> omega
   ·exact ext_new (by omega)
  exact hR _ _ ⟨o1,k1,rfl,hO.own.cap.1,M1,rfl,us,CRow.re (COw.row hO) (out 2 (.inl rfl)),NdCells.re hC (out 3 (.inr rfl))⟩
end
end Go.Proofs.YtfghidehlnfdiaaGreat
end
section
namespace Go.Vcg
def lk (l:List (BitVec 64)):St:=fun i=>l.getD i 0
theorem rnd_congr {s r:St} (n:Nat) (h:∀i,i < 25→s i=r i):∀j,j < 25→rnd n s j=rnd n r j:=by
 have hp:∀x,x < 5→par s x=par r x:=fun x hx=>by
  simp only [par,parK]
  rw [h (x+5 * 0) (by omega),h (x+5 * 1) (by omega),h (x+5 * 2) (by omega),h (x+5 * 3) (by omega),h (x+5 * 4) (by omega)]
 have hb:∀j,j < 25→bbK s j=bbK r j:=fun j hj=>by
  simp only [bbK,bbXY,ddK]
  rw [h _ (by omega),hp _ (by omega),hp _ (by omega)]
 have hc:∀j,j < 25→chiK (bbK s) j=chiK (bbK r) j:=fun j hj=>by
  simp only [chiK]
  rw [hb _ (by omega),hb _ (by omega),hb _ (by omega)]
 intro j hj
 simp only [rnd]
 rw [hc 0 (by omega),hc j hj]
end Go.Vcg
end
section
namespace Go.Trie
open Go.Vcg
def kDo:By:=[100,111]
def kDog:By:=[100,111,103]
def kDoge:By:=[100,111,103,101]
def kHorse:By:=[104,111,114,115,101]
def vVerb:By:=[118,101,114,98]
def vPuppy:By:=[112,117,112,112,121]
def vCoin:By:=[99,111,105,110]
def vStallion:By:=[115,116,97,108,108,105,111,110]
def n1:Nd:=(putT .nil kDo vVerb).2
def n2:Nd:=(putT n1 kDog vPuppy).2
def n3:Nd:=(putT n2 kDoge vCoin).2
def n4:Nd:=(putT n3 kHorse vStallion).2
theorem get4:get n4 (nibbles kDog)=some vPuppy:=by kernel_rfl
end Go.Trie
namespace Go.Proofs.YtfghidehlnfdiaaGreat
open Go Go.Vcg Go.Trie
theorem lit_bytes (w:World) {bs:By} {A:Array Value} (hA:A.toList=bs.map bV) (l k:Nat) :
 ∃w2,Sem.run Tryz.prog (convert 23 23 (.slice (some ⟨w.heap.size,0,none⟩) l k)) (w.alloc (.cells A 5))=.ok (.slice (some ⟨w.heap.size,0,none⟩) l k) w2∧Vcg.Mod NoB w w2∧RdB w2 (some ⟨w.heap.size,0,none⟩) bs:=by
 have B:=Blk.new w 5 A
 obtain ⟨w2,h2,M2,hc2⟩:=convert_same (P:=Tryz.prog) (t:=tSlU8) (l:=l) (c:=k) und_slU8 (by kernel_rfl) B
 refine ⟨w2,h2,mod_of (Mod.alloc w _) M2 (Nat.le_refl _),fun hne=>⟨w.heap.size,0,rfl,?_,fun i hi=>?_⟩⟩
 ·have:=M2.size
  have:=B.lt
  omega
 ·rw [hc2,B.cell,Nat.zero_add,← Array.getElem?_toList,hA]
  exact map_bV_get hi
end Go.Proofs.YtfghidehlnfdiaaGreat
end
section
namespace Go.Proofs.YtfghidehlnfdiaaGreat
open Go Go.Vcg
abbrev trie_Unpack.n:Nat:=99
def trie_Unpack.Vc (o0:Option Addr) (l0 c0:Nat) (w:World) (R:Ending→World→Prop):Prop :=
 Calls Tryz.prog 43 #[(.slice o0 l0 c0)] w (fun e1 w2 =>
 ∃o3 l4 l5,e1=.returned (.slice o3 l4 l5) ∧
 (((((l4:Nat):Int)=0 →
 R (.returned (.tuple #[(.slice none 0 0),(.bool false),(.int .i64 143)])) w2)) ∧
 ((((l4:Nat):Int)≠0 →
 ∃d6,o3=some d6 ∧
 ((0:Int)≤0∧0 < ((l4:Nat):Int)) ∧
 ∃n7,World.cell? w2 (Addr.add d6 0)=some (.int .u8 n7) ∧
 (((n7 > 3 →
 R (.returned (.tuple #[(.slice none 0 0),(.bool false),(.int .i64 143)])) w2)) ∧
 ((¬n7 > 3 →
 (((((l4:Nat):Int) > 130 →
 R (.returned (.tuple #[(.slice none 0 0),(.bool false),(.int .i64 143)])) w2)) ∧
 ((¬((l4:Nat):Int) > 130 →
 ∃d8,o3=some d8 ∧
 ((0:Int)≤0∧0 < ((l4:Nat):Int)) ∧
 ∃n9,World.cell? w2 (Addr.add d8 0)=some (.int .u8 n9) ∧
 1≤l4 ∧
 ∃(J10:Option Addr→Nat→Nat→World→Prop),(∃d11,o3=some d11 ∧
 ((0:Int)≤0∧0 < ((l4:Nat):Int)) ∧
 ∃n12,World.cell? w2 (Addr.add d11 0)=some (.int .u8 n12) ∧
 ((((Int.tmod n12 2)=0 →
 2≤l4 ∧
 J10 (subO o3 l5 2 1) (l4 - 2) (l5 - 2) w2)) ∧
 (((Int.tmod n12 2)≠0 →
 J10 (subO o3 l5 1 1) (l4 - 1) (l5 - 1) w2)))) ∧
 (∀(o13:Option Addr) (l13:Nat) (c13:Nat) (j14:Nat→Value) (w14:World),J10 o13 l13 c13 w14 →
 Calls Tryz.prog 120 #[(.slice o13 l13 c13),(.bool (decide (n9 > 1)))] w14 (fun e15 w16 =>
 ∃o17 l18 l19 n20,e15=.returned (.tuple #[(.slice o17 l18 l19),(.int .i64 n20)]) ∧
 (((n20≠0 →
 R (.returned (.tuple #[(.slice none 0 0),(.bool false),(.int .i64 143)])) w16)) ∧
 ((n20=0 →
 Calls Tryz.prog 82 #[(.slice o17 l18 l19),(.slice o0 l0 c0)] w16 (fun e21 w22 =>
 ∃b23,e21=.returned (.bool b23) ∧
 (((b23=false →
 R (.returned (.tuple #[(.slice none 0 0),(.bool false),(.int .i64 143)])) w22)) ∧
 ((b23=true →
 R (.returned (.tuple #[(.slice o13 l13 c13),(.bool (decide (n9 > 1))),(.int .i64 0)])) w22)))))))))))))))))))
theorem trie_Unpack.vc (o0:Option Addr) (l0:Nat) (c0:Nat) (w:World) (R:Ending→World→Prop) (h:trie_Unpack.Vc o0 l0 c0 w R):Calls Tryz.prog 99 #[(.slice o0 l0 c0)] w R :=
 execF_sound (R:=⟨R,false⟩) (ann:=[(1000008,[(7,.cell (.slice))])]) (args:=[.slice o0 l0 c0]) Tryz.func99 mixed (Eq.mp (by kernel_rfl:trie_Unpack.Vc o0 l0 c0 w R=execF (pA Tryz.prog ⟨R,false⟩) Tryz.prog [(1000008,[(7,.cell (.slice))])] Tryz.f99 [.slice o0 l0 c0] w) h)

abbrev moraineref14_Unpack.n:Nat:=95
def moraineref14_Unpack.Vc (o0:Option Addr) (l0 c0:Nat) (w:World) (R:Ending→World→Prop):Prop :=
 (((((l0:Nat):Int)=0 →
 R (.returned (.tuple #[(.slice none 0 0),(.bool false),(.int .i64 143)])) w)) ∧
 ((((l0:Nat):Int)≠0 →
 (((((l0:Nat):Int) > 65 →
 R (.returned (.tuple #[(.slice none 0 0),(.bool false),(.int .i64 143)])) w)) ∧
 ((¬((l0:Nat):Int) > 65 →
 Calls Tryz.prog 54 #[(.slice o0 l0 c0)] w (fun e1 w2 =>
 ∃o3 l4 l5,e1=.returned (.slice o3 l4 l5) ∧
 ∃d6,o3=some d6 ∧
 ((0:Int)≤0∧0 < ((l4:Nat):Int)) ∧
 ∃n7,World.cell? w2 (Addr.add d6 0)=some (.int .u8 n7) ∧
 (((n7 > 3 →
 R (.returned (.tuple #[(.slice none 0 0),(.bool false),(.int .i64 143)])) w2)) ∧
 ((¬n7 > 3 →
 ((((Int.tmod n7 2)=0 →
 ∃d8,o3=some d8 ∧
 ((0:Int)≤1∧1 < ((l4:Nat):Int)) ∧
 ∃n9,World.cell? w2 (Addr.add d8 1)=some (.int .u8 n9) ∧
 (((n9≠0 →
 R (.returned (.tuple #[(.slice none 0 0),(.bool false),(.int .i64 143)])) w2)) ∧
 ((n9=0 →
 ((0:Int)≤(IntKind.wrap .u8 (2 - (Int.tmod n7 2)))∧(IntKind.wrap .u8 (2 - (Int.tmod n7 2)))≤((l4:Nat):Int)) ∧
 ((((((l4 - (Int.toNat (IntKind.wrap .u8 (2 - (Int.tmod n7 2))))):Nat):Int) > 128 →
 R (.returned (.tuple #[(.slice none 0 0),(.bool false),(.int .i64 143)])) w2)) ∧
 ((¬(((l4 - (Int.toNat (IntKind.wrap .u8 (2 - (Int.tmod n7 2))))):Nat):Int) > 128 →
 R (.returned (.tuple #[(.slice (subO o3 l5 (Int.toNat (IntKind.wrap .u8 (2 - (Int.tmod n7 2)))) 1) (l4 - (Int.toNat (IntKind.wrap .u8 (2 - (Int.tmod n7 2))))) (l5 - (Int.toNat (IntKind.wrap .u8 (2 - (Int.tmod n7 2)))))),(.bool (decide (n7 > 1))),(.int .i64 0)])) w2)))))))) ∧
 (((Int.tmod n7 2)≠0 →
 ((0:Int)≤(IntKind.wrap .u8 (2 - (Int.tmod n7 2)))∧(IntKind.wrap .u8 (2 - (Int.tmod n7 2)))≤((l4:Nat):Int)) ∧
 ((((((l4 - (Int.toNat (IntKind.wrap .u8 (2 - (Int.tmod n7 2))))):Nat):Int) > 128 →
 R (.returned (.tuple #[(.slice none 0 0),(.bool false),(.int .i64 143)])) w2)) ∧
 ((¬(((l4 - (Int.toNat (IntKind.wrap .u8 (2 - (Int.tmod n7 2))))):Nat):Int) > 128 →
 R (.returned (.tuple #[(.slice (subO o3 l5 (Int.toNat (IntKind.wrap .u8 (2 - (Int.tmod n7 2)))) 1) (l4 - (Int.toNat (IntKind.wrap .u8 (2 - (Int.tmod n7 2))))) (l5 - (Int.toNat (IntKind.wrap .u8 (2 - (Int.tmod n7 2)))))),(.bool (decide (n7 > 1))),(.int .i64 0)])) w2))))))))))))))))
theorem moraineref14_Unpack.vc (o0:Option Addr) (l0:Nat) (c0:Nat) (w:World) (R:Ending→World→Prop) (h:moraineref14_Unpack.Vc o0 l0 c0 w R):Calls Tryz.prog 95 #[(.slice o0 l0 c0)] w R :=
 execF_sound (R:=⟨R,false⟩) (ann:=[]) (args:=[.slice o0 l0 c0]) Tryz.func95 mixed (Eq.mp (by kernel_rfl:moraineref14_Unpack.Vc o0 l0 c0 w R=execF (pA Tryz.prog ⟨R,false⟩) Tryz.prog [] Tryz.f95 [.slice o0 l0 c0] w) h)

end Go.Proofs.YtfghidehlnfdiaaGreat
end
