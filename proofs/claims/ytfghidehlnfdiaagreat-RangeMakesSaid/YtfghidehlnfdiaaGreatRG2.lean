/- Contracts: few, turned (morainelaw16). -/
/- The verification conditions of some functions, printed by a program of ours (wip/PrintVc.lean). -/
/- The nodes of a range: plain Lean. -/
/- Contracts: bytes.Compare, bytes.Repeat, join, where a path lies. -/
import Derived.Test.YtfghidehlnfdiaaGreatPW17
import Derived.Test.YtfghidehlnfdiaaGreatPW7
import Derived.Test.YtfghidehlnfdiaaGreatProg
import Derived.KernelRfl
import Derived.Test.YtfghidehlnfdiaaGreatTVX
import Derived.Lib.BytesEntry
import Derived.Lib.MakeNoZero
set_option linter.unusedVariables false
set_option linter.unusedSimpArgs false
section
namespace Go.Proofs.YtfghidehlnfdiaaGreat
open Go Go.Vcg Go.Trie
structure ZCw (l:List (By×By)):Prop where
 len:l.length≤40
 keys:∀e∈l,e.1.length≤64
 vals:∀e∈l,e.2≠[]∧e.2.length≤300
 srt:Z1K l
theorem Z7q {l:List (By×By)} {j:Nat} (hj:j < l.length) (h:Z1K (l.take j)) (hl:0 < j→∃h1:j - 1 < l.length,ltB l[j - 1].1 l[j].1):Z1K (l.take (j+1)):=by
 rw [List.take_succ_eq_append_getElem hj]
 refine List.pairwise_append.2 ⟨h,List.pairwise_singleton _ _,fun x hx y hy=>?_⟩
 obtain rfl:=List.mem_singleton.1 hy
 obtain ⟨q,hq,rfl⟩:=List.getElem_of_mem hx
 rw [List.length_take] at hq
 obtain ⟨h1,h2⟩:=hl (by omega)
 rw [List.getElem_take]
 by_cases he:q=j - 1
 ·subst he; exact h2
 ·have hp:=List.pairwise_iff_getElem.1 h q (j - 1) (by rw [List.length_take]; omega) (by rw [List.length_take]; omega) (by omega)
  rw [List.getElem_take,List.getElem_take] at hp
  exact Z32 hp h2
theorem ZBJ {w:World} {o:Option Addr} {k:Nat} {l:List (By×By)} (h:StR w o l) :
  Calls Tryz.prog Z0Y.n #[.slice o l.length k] w (fun e w'=>∃b:Bool,e=.returned (.bool b)∧(b=true→ZCw l)∧Vcg.Mod NoB w w'):=by
 refine Z0Y.vc _ _ _ _ _ ?_
 unfold Z0Y.Vc
 refine ⟨fun _=>⟨false,rfl,fun h=>(by cases h),Mod.refl w⟩,fun hl=>?_⟩
 have no:∀w',Vcg.Mod NoB w w'→∃b:Bool,Ending.returned (.bool false)=.returned (.bool b)∧(b=true→ZCw l)∧Vcg.Mod NoB w w':=fun w' M=>⟨false,rfl,fun h=>(by cases h),M⟩
 refine ⟨fun i w'=>∃j:Nat,i=(j:Int)∧j≤l.length∧Vcg.Mod NoB w w'∧Z1K (l.take j)∧∀q (hq:q < l.length),q < j→l[q].1.length≤64∧l[q].2≠[]∧l[q].2.length≤300,fun i _=>((l.length:Int) - i).toNat,⟨0,rfl,Nat.zero_le _,Mod.refl w,by rw [List.take_zero]; exact List.Pairwise.nil,fun q hq h=>by omega⟩,?_⟩
 rintro _ _ w1 ⟨j,rfl,hj,M,hs,hall⟩
 refine ⟨fun hlt=>?_,fun hge=>?_⟩
 ·rintro _ rfl
  have hjl:j < l.length:=by omega
  have M2:=M.step_drew
  generalize w1.drew=w2 at *
  obtain ⟨b,f,ok,kk,ov,kv,rfl,e2,e3,e4,e5,e6⟩:=h.mod' M2 j hjl
  have ck:w2.cell? (Addr.add ⟨b,f,none⟩ (Int.toNat (j:Int) * 2))=some (.slice ok l[j].1.length kk):=by rw [Z6,Int.toNat_natCast]; exact e3
  have cv:w2.cell? (Addr.add (Addr.add ⟨b,f,none⟩ (Int.toNat (j:Int) * 2)) 1)=some (.slice ov l[j].2.length kv):=by rw [Z6,Z6,Int.toNat_natCast,Nat.add_assoc]; exact e5
  refine ⟨_,rfl,⟨by omega,by omega⟩,_,_,_,ck,fun _=>no _ M2,fun h1=>⟨_,rfl,⟨by omega,by omega⟩,_,_,_,cv,fun _=>no _ M2,fun h2=>⟨_,rfl,⟨by omega,by omega⟩,_,_,_,cv,fun _=>no _ M2,fun h3=>?_⟩⟩⟩
  have ew:IntKind.wrap .i64 ((j:Int)+1)=((j+1:Nat):Int):=by rw [Z0 (by omega) (by omega)]; omega
  have hv:l[j].2≠[]:=by intro e; rw [e] at h2; simp at h2
  have hall':∀q (hq:q < l.length),q < j+1→l[q].1.length≤64∧l[q].2≠[]∧l[q].2.length≤300:=fun q hq hqj=>by
   by_cases hqe:q=j
   ·subst hqe; exact ⟨by omega,hv,by omega⟩
   ·exact hall q hq (by omega)
  refine ⟨fun hpos=>?_,fun hz=>?_⟩
  ·have ew1:IntKind.wrap .i64 ((j:Int) - 1)=((j - 1:Nat):Int):=by rw [Z0 (by omega) (by omega)]; omega
   obtain ⟨b',f',ok',kk',ov',kv',hb',g2,g3,g4,g5,g6⟩:=h.mod' M2 (j - 1) (by omega)
   cases hb'
   refine ⟨_,rfl,by rw [ew1]; exact ⟨by omega,by omega⟩,_,_,_,by rw [Z6,ew1,Int.toNat_natCast]; exact g3,_,rfl,⟨by omega,by omega⟩,_,_,_,ck,?_⟩
   have hkl:=(hall (j - 1) (by omega) (by omega)).1
   refine (Z9x g4 e4 (by omega)).mono ?_
   rintro _ w3 ⟨rfl,M3⟩
   have M23:=M2.none_trans M3
   refine ⟨_,rfl,fun _=>no _ M23,fun hneg=>?_⟩
   rw [ew]
   exact ⟨⟨j+1,rfl,hjl,M23,Z7q hjl hs (fun _=>⟨by omega,Z24.1 (by omega)⟩),hall'⟩,by dsimp only; omega⟩
  ·rw [ew]
   exact ⟨⟨j+1,rfl,hjl,M2,Z7q hjl hs (fun h=>by omega),hall'⟩,by dsimp only; omega⟩
 ·obtain rfl:j=l.length:=by omega
  rw [List.take_of_length_le (Nat.le_refl _)] at hs
  refine ⟨true,rfl,fun _=>⟨by omega,fun e he=>?_,fun e he=>?_,hs⟩,M⟩
  ·obtain ⟨q,hq,rfl⟩:=List.getElem_of_mem he
   exact (hall q hq hq).1
  ·obtain ⟨q,hq,rfl⟩:=List.getElem_of_mem he
   exact (hall q hq hq).2
section
variable {w w':World} {lab:Nat→Nat} {c:Nat}
theorem ZV.take {vs:List Value} {l:List (By×By)} (h:ZV w lab c vs l) {n:Nat} (hn:n≤l.length):ZV w lab c (vs.take (n * 33)) (l.take n):=by
 refine ⟨by rw [List.length_take,List.length_take,h.1]; omega,fun j hj=>?_⟩
 rw [List.length_take] at hj
 obtain ⟨a,b,ob,kb,d,e⟩:=h.2 j (by omega)
 rw [List.getElem_take]
 exact ⟨a,fun i hi=>by rw [List.getElem?_take,if_pos (by omega)]; exact b i hi,ob,kb,by rw [List.getElem?_take,if_pos (by omega)]; exact d,e⟩
theorem ZV.drop {vs:List Value} {l:List (By×By)} (h:ZV w lab c vs l) {n:Nat} (hn:n≤l.length):ZV w lab c (vs.drop (n * 33)) (l.drop n):=by
 refine ⟨by rw [List.length_drop,List.length_drop,h.1]; omega,fun j hj=>?_⟩
 rw [List.length_drop] at hj
 obtain ⟨a,b,ob,kb,d,e⟩:=h.2 (n+j) (by omega)
 rw [List.getElem_drop]
 exact ⟨a,fun i hi=>by rw [List.getElem?_drop,show n * 33+(j * 33+i)=(n+j) * 33+i by omega]; exact b i hi,ob,kb,by rw [List.getElem?_drop,show n * 33+(j * 33+32)=(n+j) * 33+32 by omega]; exact d,e⟩
theorem ZV.append {vs us:List Value} {l m:List (By×By)} (h:ZV w lab c vs l) (k:ZV w lab c us m):ZV w lab c (vs++us) (l++m):=by
 have h1:=h.1
 have k1:=k.1
 refine ⟨by rw [List.length_append,List.length_append,h1,k1]; omega,fun j hj=>?_⟩
 rw [List.length_append] at hj
 by_cases hl:j < l.length
 ·rw [List.getElem_append_left hl]
  obtain ⟨a,b,ob,kb,d,e⟩:=h.2 j hl
  exact ⟨a,fun i hi=>by rw [List.getElem?_append_left (by omega)]; exact b i hi,ob,kb,by rw [List.getElem?_append_left (by omega)]; exact d,e⟩
 ·rw [List.getElem_append_right (by omega)]
  obtain ⟨a,b,ob,kb,d,e⟩:=k.2 (j - l.length) (by omega)
  exact ⟨a,fun i hi=>by rw [List.getElem?_append_right (by omega),h1,show j * 33+i - l.length * 33=(j - l.length) * 33+i by omega]; exact b i hi,ob,kb,by rw [List.getElem?_append_right (by omega),h1,show j * 33+32 - l.length * 33=(j - l.length) * 33+32 by omega]; exact d,e⟩
theorem ZV.setB {vs:List Value} {l:List (By×By)} (h:ZV w lab c vs l) {g:Nat} (hg:g < l.length) {ob:Option Addr} {bad:By} {kb:Nat} (hb:CBy w lab c ob bad) (hk:bad.length≤kb) :
  ZV w lab c (vs.set (g * 33+32) (.slice ob bad.length kb)) (l.set g (l[g].1,bad)):=by
 have h1:=h.1
 refine ⟨by rw [List.length_set,List.length_set,h1],fun j hj=>?_⟩
 rw [List.length_set] at hj
 obtain ⟨a,b,ob',kb',d,e⟩:=h.2 j hj
 by_cases hjg:j=g
 ·subst hjg
  rw [List.getElem_set_self]
  exact ⟨a,fun i hi=>by rw [List.getElem?_set_ne (by omega)]; exact b i hi,ob,kb,by rw [List.getElem?_set_self (by omega)],hb,hk⟩
 ·rw [List.getElem_set_ne (fun e=>hjg e.symm)]
  exact ⟨a,fun i hi=>by rw [List.getElem?_set_ne (by omega)]; exact b i hi,ob',kb',by rw [List.getElem?_set_ne (by omega)]; exact d,e⟩
theorem ZV.one {vs:List Value} {l:List (By×By)} (h:ZV w lab c vs l):∀u∈vs,u.oneCell'=true:=fun u hu=>by
 obtain ⟨q,hq,rfl⟩:=List.getElem_of_mem hu
 have h1:=h.1
 obtain ⟨a,b,ob,kb,d,e⟩:=h.2 (q / 33) (by omega)
 by_cases h32:q % 33=32
 ·rw [show q / 33 * 33+32=q by omega,List.getElem?_eq_getElem hq] at d
  rw [Option.some.inj d]; rfl
 ·have:=b (q % 33) (by omega)
  rw [show q / 33 * 33+q % 33=q by omega,List.getElem?_eq_getElem hq] at this
  rw [Option.some.inj this]; rfl
end
theorem Z9n {w:World} {g f l c:Nat} {x:Value} (src:Src Tryz.prog 33 Z39 x 0 [] w) (hl:l≤c) :
  Sem.run Tryz.prog (builtinV .append #[Z39,Z39] Z39 #[.slice (some ⟨g,f,none⟩) l c,x]) w=.ok (.slice (some ⟨g,f,none⟩) l c) w:=by
 obtain ⟨i,hi,hz,hs,hb⟩:=Z2G ZBN
 exact run_append_room_src (P:=Tryz.prog) w Z39 Z39 Z39 tNd i Z3L hi g f l c x 0 [] (hs ▸ src) (by omega) (fun j hj=>by simp at hj) (fun j hj=>by simp at hj)
def Z44 (l:List (By×By)) (gone:Int) (bad:By):List (By×By) :=
 if gone < 0∨gone≥l.length then l else if bad=[] then l.take gone.toNat++l.drop (gone.toNat+1) else match l[gone.toNat]? with
  | some x=>l.set gone.toNat (x.1,bad)
  | none=>l
theorem ZAj {w:World} {lab:Nat→Nat} {c:Nat} {l:List (By×By)} {o o2:Option Addr} {k k2:Nat} {gone:Int} {bad:By} (h:Z0w w lab c l o l.length) (hlen:l.length≤2 ^ 20) (hbad:RdB w o2 bad) (hk:bad.length≤k2) :
  Calls Tryz.prog Zw.n #[.slice o l.length k,.int .i64 gone,.slice o2 bad.length k2] w (fun e w'=>∃o' k',e=.returned (.slice o' (Z44 l gone bad).length k')∧Vcg.Mod NoB w w'∧Z0w w' (fun _=>0) 0 (Z44 l gone bad) o' (Z44 l gone bad).length):=by
 refine ZH fun R hR=>Zw.vc _ _ _ _ _ _ _ _ _ ?_
 unfold Zw.Vc
 have h0:Z0w w (fun _=>0) 0 l o l.length:=h.re (fun _ _ _=>rfl)
 have same:gone < 0∨gone≥l.length→R (.returned (.slice o l.length k)) w:=fun hg=>by
  have e:Z44 l gone bad=l:=by unfold Z44; rw [if_pos hg]
  rw [e] at hR
  exact hR _ _ ⟨o,k,rfl,Mod.refl w,h0⟩
 refine ⟨fun hg=>same (.inl hg),fun hg=>⟨fun hg2=>same (.inr hg2),fun hg2=>?_⟩⟩
 obtain ⟨g,rfl⟩:∃g:Nat,gone=(g:Int):=⟨gone.toNat,by omega⟩
 have hgl:g < l.length:=by omega
 have hno:¬((g:Int) < 0∨(g:Int)≥l.length):=by omega
 obtain ⟨_,vs,hCR,hNC⟩:=h0
 have hvl:=hNC.1
 obtain ⟨i,hi,hz,hs,hbt⟩:=Z2G ZBN
 have src:Src Tryz.prog 33 Z39 (.slice o l.length k) l.length vs w:=Z4p.src hCR Z3L hvl hNC.one k (by omega)
 obtain ⟨o4,k4,w4,hr4,F4⟩:=(ZW.nil (Mod.refl w) tNd 33).push (ty:=Z39) Z3L hi hz hs rfl src (by simp only [maxLen]; omega) (by rw [hbt]; omega)
 rw [Nat.zero_add] at hr4 F4
 rw [List.nil_append] at F4
 have hcap:=F4.own.cap.1
 have read:∀{wx:World} {l':List (By×By)} {vs':List Value} {ox:Option Addr} {nx kx:Nat},ZW w wx tNd 33 ox nx kx vs'→ZV wx (fun _=>0) 0 vs' l'→Z0w wx (fun _=>0) 0 l' ox l'.length:=fun F N=>⟨rfl,_,Z4p.re (F.done (lab:=fun _=>(0:Nat)) 0).1.row (fun _ _ _=>rfl),N⟩
 have keepN:∀{wx:World} {l':List (By×By)} {vs':List Value},Vcg.Mod NoB w wx→ZV w (fun _=>(0:Nat)) 0 vs' l'→ZV wx (fun _=>0) 0 vs' l':=fun M N=>ZV.re (N.stp (S:=NoS) (Stp.of_nob M 0) (fun h=>h)) (fun _ _ _=>rfl)
 refine ⟨_,w4,hr4,_,_,_,rfl,fun hb0=>?_,fun hb1=>?_⟩
 ·have hbn:bad=[]:=List.eq_nil_of_length_eq_zero (by omega)
  have e:Z44 l (g:Int) bad=l.take g++l.drop (g+1):=by unfold Z44; rw [if_neg hno,if_pos hbn,Int.toNat_natCast]
  rw [e] at hR
  rintro _ rfl
  have ew:IntKind.wrap .i64 ((g:Int)+1)=((g+1:Nat):Int):=by rw [Z0 (by omega) (by omega)]; omega
  have F5:=F4.mod' (Mod.drew (S:=NoB) w4)
  generalize w4.drew=w5 at *
  refine ⟨_,Z8m Z3L hi w5 (by omega),_,_,_,rfl,by rw [ew]; exact ⟨by omega,by omega⟩,?_⟩
  rw [ew,Int.toNat_natCast]
  have C5:Z4p w5 (fun _=>(0:Nat)) 0 o4 vs:=Z4p.re (F5.done (lab:=fun _=>(0:Nat)) 0).1.row (fun _ _ _=>rfl)
  have N5:=keepN F5.mod hNC
  have T1:=Z4p.take C5 (g * 33)
  have T2:=Z4p.drop C5 (cap:=k4) (n:=g+1) (sz:=33) (by rw [hvl]; omega)
  have K1:=N5.take (n:=g) (by omega)
  have K2:=N5.drop (n:=g+1) (by omega)
  have hl1:(l.take g++l.drop (g+1)).length=g+(l.length - (g+1)):=by rw [List.length_append,List.length_take,List.length_drop]; omega
  have src2:Src Tryz.prog 33 Z39 (.slice (subO o4 k4 (g+1) 33) (l.length - (g+1)) (k4 - (g+1))) (l.length - (g+1)) (vs.drop ((g+1) * 33)) w5:=Z4p.src T2 Z3L (by rw [List.length_drop,hvl]; omega) K2.one _ (by omega)
  rcases Nat.eq_zero_or_pos (l.length - (g+1)) with hq | hq
  ·have hd:vs.drop ((g+1) * 33)=[]:=List.drop_eq_nil_of_le (by omega)
   have hdl:l.drop (g+1)=[]:=List.drop_eq_nil_of_le (by omega)
   rw [hd,hq] at src2
   rw [hq]
   have hne:∃b f,o4=some ⟨b,f,none⟩:=by
    obtain ⟨b,f,ho,_⟩:=C5 0 (vs[0]'(by omega)) (List.getElem?_eq_getElem _)
    exact ⟨b,f,ho⟩
   obtain ⟨b,f,rfl⟩:=hne
   refine ⟨_,w5,Z9n src2 (Nat.le_refl _),_,_,_,rfl,hR _ _ ⟨some ⟨b,f,none⟩,g,?_,F5.mod,?_⟩⟩
   ·rw [hl1,hq]; rfl
   ·rw [hdl,List.append_nil]
    exact ⟨rfl,_,T1,K1⟩
  ·obtain ⟨q,hq2⟩:∃q,l.length - (g+1)=q+1:=⟨l.length - (g+1) - 1,by omega⟩
   rw [hq2] at src2 hl1 ⊢
   obtain ⟨o',c',w6,hr,F⟩:=ZB4 (tx:=Z39) (ty:=Z39) T1 Z3L hi hz hs rfl (by decide) (l:=g) (by rw [List.length_take,hvl]; omega) src2 (by simp only [maxLen]; omega) (by rw [hbt]; omega)
   have M6:=F5.mod.none_trans F.mod
   refine ⟨_,w6,hr,_,_,_,rfl,hR _ _ ⟨o',c',by rw [hl1],M6,?_⟩⟩
   exact ⟨rfl,_,Z4p.re (F.done (lab:=fun _=>(0:Nat)) 0).1.row (fun _ _ _=>rfl),keepN M6 ((hNC.take (n:=g) (by omega)).append (hNC.drop (n:=g+1) (by omega)))⟩
 ·have hbn:bad≠[]:=by rintro rfl; exact hb1 rfl
  have e:Z44 l (g:Int) bad=l.set g (l[g].1,bad):=by
   unfold Z44
   rw [if_neg hno,if_neg hbn,Int.toNat_natCast,List.getElem?_eq_getElem hgl]
  rw [e] at hR
  obtain ⟨G,rfl,hcs,F5⟩:=F4.set (j:=g * 33+32) (v:=.slice o2 bad.length k2) (by omega) rfl
  refine ⟨_,rfl,⟨by omega,by omega⟩,?_⟩
  simp only [Z6,Int.toNat_natCast,Nat.zero_add]
  refine ⟨hcs,?_⟩
  rintro _ rfl
  refine hR _ _ ⟨_,k4,by rw [List.length_set],F5.mod,?_⟩
  refine read F5 ?_
  exact ZV.setB (keepN F5.mod hNC) hgl ⟨hbad.mod' F5.mod,fun _ _ _=>rfl⟩ hk
end Go.Proofs.YtfghidehlnfdiaaGreat
end
section
namespace Go.Proofs.YtfghidehlnfdiaaGreat
open Go Go.Vcg
abbrev Z1W.n:Nat:=30
def Z1W.Vc (L0 L1:Array Value) (w:World) (R:Ending→World→Prop):Prop :=
 ∀d2 w3,ZC w 27 L0 d2 w3 →
 ∀d4 w5,ZC w3 27 L1 d4 w5 →
 ∀d6 w7,ZC w5 73 #[(.slice none 0 0),(.slice none 0 0)] d6 w7 →
 ∀w8,ZN w7 w8 →
 Calls Tryz.prog 43 #[(.slice (some d2) 32 32)] w8 (fun e9 w10 =>
 ∃o11 l12 l13,e9=.returned (.slice o11 l12 l13) ∧
 Calls Tryz.prog 43 #[(.slice (some d4) 32 32)] w10 (fun e14 w15 =>
 ∃o16 l17 l18,e14=.returned (.slice o16 l17 l18) ∧
 Calls Tryz.prog 62 #[(.slice (some d2) 32 32),(.slice (some d4) 32 32)] w15 (fun e19 w20 =>
 ∃n21,e19=.returned (.int .i64 n21) ∧
 Z1 w20 d6 (.slice o11 l12 l13)∧∀w22,ZA w20 d6 (.slice o11 l12 l13) w22 →
 Z1 w22 (Addr.add d6 1) (.slice o16 l17 l18)∧∀w23,ZA w22 (Addr.add d6 1) (.slice o16 l17 l18) w23 →
 ∃o24 l25 l26 o27 l28 l29,World.cell? w23 d6=some (.slice o24 l25 l26) ∧
 World.cell? w23 (Addr.add d6 1)=some (.slice o27 l28 l29) ∧
 R (.returned (.tuple #[(.agg #[(.slice o24 l25 l26),(.slice o27 l28 l29)]),(.bool (decide (n21≤0)))])) w23)))
theorem Z1W.vc (L0:Array Value) (L1:Array Value) (w:World) (R:Ending→World→Prop) (h:Z1W.Vc L0 L1 w R):Calls Tryz.prog 30 #[(.agg L0),(.agg L1)] w R :=
 Z8 (R:=⟨R,false⟩) (ann:=[]) (args:=[.big 32 L0,.big 32 L1]) Tryz.func30 ZR (Eq.mp (by kernel_rfl:Z1W.Vc L0 L1 w R=ZP (pA Tryz.prog ⟨R,false⟩) Tryz.prog [] Tryz.f30 [.big 32 L0,.big 32 L1] w) h)

abbrev Z0p.n:Nat:=34
def Z0p.Vc (o0:Option Addr) (l0 c0:Nat) (o1:Option Addr) (l1 c1:Nat) (o2:Option Addr) (l2 c2:Nat) (w:World) (R:Ending→World→Prop):Prop :=
 ∀d3 w4,ZC w 73 #[(.slice o0 l0 c0),(.slice o1 l1 c1)] d3 w4 →
 ∃v5 w6,Sem.run Tryz.prog (Instr.makeSlice 23 (.int .i64 (IntKind.wrap .i64 (64 - ((l2:Nat):Int)))) (.int .i64 (IntKind.wrap .i64 (64 - ((l2:Nat):Int))))) w4=.ok v5 w6 ∧
 ∃o7 l8 l9,v5=(.slice o7 l8 l9) ∧
 Calls Tryz.prog 63 #[(.slice o2 l2 c2),(.slice o7 l8 l9)] w6 (fun e10 w11 =>
 ∃o12 l13 l14,e10=.returned (.slice o12 l13 l14) ∧
 ∀d15 w16,ZC w11 5 #[(.int .u8 15)] d15 w16 →
 Calls Tryz.prog 64 #[(.slice (some d15) 1 1),(.int .i64 (IntKind.wrap .i64 (64 - ((l2:Nat):Int))))] w16 (fun e17 w18 =>
 ∃o19 l20 l21,e17=.returned (.slice o19 l20 l21) ∧
 Calls Tryz.prog 63 #[(.slice o2 l2 c2),(.slice o19 l20 l21)] w18 (fun e22 w23 =>
 ∃o24 l25 l26,e22=.returned (.slice o24 l25 l26) ∧
 ∃(J27:Bool→World→Prop),(∃o28 l29 l30,World.cell? w23 d3=some (.slice o28 l29 l30) ∧
 Calls Tryz.prog 62 #[(.slice o24 l25 l26),(.slice o28 l29 l30)] w23 (fun e31 w32 =>
 ∃n33,e31=.returned (.int .i64 n33) ∧
 (((n33 < 0 →
 J27 true w32)) ∧
 ((¬n33 < 0 →
 ∃o34 l35 l36,World.cell? w32 (Addr.add d3 1)=some (.slice o34 l35 l36) ∧
 Calls Tryz.prog 62 #[(.slice o12 l13 l14),(.slice o34 l35 l36)] w32 (fun e37 w38 =>
 ∃n39,e37=.returned (.int .i64 n39) ∧
 J27 (decide (n39 > 0)) w38)))))) ∧
 (∀(b40:Bool) (j41:Nat→Value) (w41:World),J27 b40 w41 →
 (((b40=true →
 R (.returned (.int .i64 1)) w41)) ∧
 ((b40=false →
 ∃o42 l43 l44,World.cell? w41 d3=some (.slice o42 l43 l44) ∧
 Calls Tryz.prog 62 #[(.slice o12 l13 l14),(.slice o42 l43 l44)] w41 (fun e45 w46 =>
 ∃n47,e45=.returned (.int .i64 n47) ∧
 (((n47≥0 →
 ∃o48 l49 l50,World.cell? w46 (Addr.add d3 1)=some (.slice o48 l49 l50) ∧
 Calls Tryz.prog 62 #[(.slice o24 l25 l26),(.slice o48 l49 l50)] w46 (fun e51 w52 =>
 ∃n53,e51=.returned (.int .i64 n53) ∧
 (((n53≤0 →
 R (.returned (.int .i64 0)) w52)) ∧
 ((¬n53≤0 →
 R (.returned (.int .i64 2)) w52)))))) ∧
 ((¬n47≥0 →
 R (.returned (.int .i64 2)) w46)))))))))))
theorem Z0p.vc (o0:Option Addr) (l0:Nat) (c0:Nat) (o1:Option Addr) (l1:Nat) (c1:Nat) (o2:Option Addr) (l2:Nat) (c2:Nat) (w:World) (R:Ending→World→Prop) (h:Z0p.Vc o0 l0 c0 o1 l1 c1 o2 l2 c2 w R):Calls Tryz.prog 34 #[(.agg #[(.slice o0 l0 c0),(.slice o1 l1 c1)]),(.slice o2 l2 c2)] w R :=
 Z8 (R:=⟨R,false⟩) (ann:=[(1000004,[(20,.cell (.bool))])]) (args:=[.agg [.slice o0 l0 c0,.slice o1 l1 c1],.slice o2 l2 c2]) Tryz.func34 ZR (Eq.mp (by kernel_rfl:Z0p.Vc o0 l0 c0 o1 l1 c1 o2 l2 c2 w R=ZP (pA Tryz.prog ⟨R,false⟩) Tryz.prog [(1000004,[(20,.cell (.bool))])] Tryz.f34 [.agg [.slice o0 l0 c0,.slice o1 l1 c1],.slice o2 l2 c2] w) h)

abbrev Z2J.n:Nat:=63
def Z2J.Vc (o0:Option Addr) (l0 c0:Nat) (o1:Option Addr) (l1 c1:Nat) (w:World) (R:Ending→World→Prop):Prop :=
 Calls Tryz.prog 36 #[(.slice o0 l0 c0)] w (fun e2 w3 =>
 ∃o4 l5 l6,e2=.returned (.slice o4 l5 l6) ∧
 ∃v7 w8,Sem.run Tryz.prog (builtinV .append #[23,23] 23 #[(.slice o4 l5 l6),(.slice o1 l1 c1)]) w3=.ok v7 w8 ∧
 ∃o9 l10 l11,v7=(.slice o9 l10 l11) ∧
 R (.returned (.slice o9 l10 l11)) w8)
theorem Z2J.vc (o0:Option Addr) (l0:Nat) (c0:Nat) (o1:Option Addr) (l1:Nat) (c1:Nat) (w:World) (R:Ending→World→Prop) (h:Z2J.Vc o0 l0 c0 o1 l1 c1 w R):Calls Tryz.prog 63 #[(.slice o0 l0 c0),(.slice o1 l1 c1)] w R :=
 Z8 (R:=⟨R,false⟩) (ann:=[]) (args:=[.slice o0 l0 c0,.slice o1 l1 c1]) Tryz.func63 ZR (Eq.mp (by kernel_rfl:Z2J.Vc o0 l0 c0 o1 l1 c1 w R=ZP (pA Tryz.prog ⟨R,false⟩) Tryz.prog [] Tryz.f63 [.slice o0 l0 c0,.slice o1 l1 c1] w) h)

abbrev Z18.n:Nat:=62
def Z18.Vc (o0:Option Addr) (l0 c0:Nat) (o1:Option Addr) (l1 c1:Nat) (w:World) (R:Ending→World→Prop):Prop :=
 ∃v2 w3,Sem.run Tryz.prog (callFunc 96 #[(.slice o0 l0 c0),(.slice o1 l1 c1)]) w=.ok (.value v2) w3 ∧
 ∃n4,v2=(.int .i64 n4) ∧
 R (.returned (.int .i64 n4)) w3
theorem Z18.vc (o0:Option Addr) (l0:Nat) (c0:Nat) (o1:Option Addr) (l1:Nat) (c1:Nat) (w:World) (R:Ending→World→Prop) (h:Z18.Vc o0 l0 c0 o1 l1 c1 w R):Calls Tryz.prog 62 #[(.slice o0 l0 c0),(.slice o1 l1 c1)] w R :=
 Z8 (R:=⟨R,false⟩) (ann:=[]) (args:=[.slice o0 l0 c0,.slice o1 l1 c1]) Tryz.func62 ZR (Eq.mp (by kernel_rfl:Z18.Vc o0 l0 c0 o1 l1 c1 w R=ZP (pA Tryz.prog ⟨R,false⟩) Tryz.prog [] Tryz.f62 [.slice o0 l0 c0,.slice o1 l1 c1] w) h)

abbrev Z1M.n:Nat:=64
def Z1M.Vc (o0:Option Addr) (l0 c0:Nat) (n1:Int) (w:World) (R:Ending→World→Prop):Prop :=
 (((n1=0 →
 ∀d2 w3,ZC w 5 #[] d2 w3 →
 R (.returned (.slice (some d2) 0 0)) w3)) ∧
 ((n1≠0 →
 ∃(J4:World→Prop),((((n1 < 0 →
 False /- panic -/)) ∧
 ((¬n1 < 0 →
 J4  w)))) ∧
 (∀  (j5:Nat→Value) (w5:World),J4  w5 →
 Calls Tryz.prog 97 #[(.int .u64 (IntKind.wrap .u64 ((l0:Nat):Int))),(.int .u64 (IntKind.wrap .u64 n1))] w5 (fun e6 w7 =>
 ∃n8 n9,e6=.returned (.tuple #[(.int .u64 n8),(.int .u64 n9)]) ∧
 ∃(J10:World→Prop),((((n8 > 0 →
 False /- panic -/)) ∧
 ((¬n8 > 0 →
 (((n9 > 9223372036854775807 →
 False /- panic -/)) ∧
 ((¬n9 > 9223372036854775807 →
 J10  w7))))))) ∧
 (∀  (j11:Nat→Value) (w11:World),J10  w11 →
 (((((l0:Nat):Int)=0 →
 ∀d12 w13,ZC w11 5 #[] d12 w13 →
 R (.returned (.slice (some d12) 0 0)) w13)) ∧
 ((((l0:Nat):Int)≠0 →
 ∃(J14:Int→World→Prop),(((((IntKind.wrap .i64 n9) > 8192 →
 ((l0:Nat):Int)≠(0:Int) ∧
 ((((IntKind.wrap .i64 ((IntKind.wrap .i64 (Int.tdiv 8192 ((l0:Nat):Int))) * ((l0:Nat):Int)))=0 →
 J14 ((l0:Nat):Int) w11)) ∧
 (((IntKind.wrap .i64 ((IntKind.wrap .i64 (Int.tdiv 8192 ((l0:Nat):Int))) * ((l0:Nat):Int)))≠0 →
 J14 (IntKind.wrap .i64 ((IntKind.wrap .i64 (Int.tdiv 8192 ((l0:Nat):Int))) * ((l0:Nat):Int))) w11))))) ∧
 ((¬(IntKind.wrap .i64 n9) > 8192 →
 J14 (IntKind.wrap .i64 n9) w11)))) ∧
 (∀(n15:Int) (j16:Nat→Value) (w16:World),J14 n15 w16 →
 ∃v17 w18,Sem.run Tryz.prog (callFunc 98 #[(.int .i64 (IntKind.wrap .i64 n9))]) w16=.ok (.value v17) w18 ∧
 ∃o19 l20 l21,v17=(.slice o19 l20 l21) ∧
 ∃v22,Sem.run Tryz.prog (Instr.sliceAt 23 (.slice o19 l20 l21) none (some (.int .i64 (IntKind.wrap .i64 n9))) (some (.int .i64 (IntKind.wrap .i64 n9)))) w18=.ok v22 w18 ∧
 ∃o23 l24 l25,v22=(.slice o23 l24 l25) ∧
 ∃v26 w27,Sem.run Tryz.prog (builtinV .copy #[23,23] 3 #[(.slice o23 l24 l25),(.slice o0 l0 c0)]) w18=.ok v26 w27 ∧
 ∃n28,v26=(.int .i64 n28) ∧
 ∃(I29:Int→World→Prop) (μ29:Int→World→Nat),I29 n28 w27 ∧
 (∀(n30:Int) (j31:Nat→Value) (w31:World),I29 n30 w31 →
 (((n30 < (IntKind.wrap .i64 n9) →
 ∀w32,ZN w31 w32 →
 ((0:Int)≤n30∧n30≤((l24:Nat):Int)) ∧
 ((0:Int)≤(min n30 n15)∧(min n30 n15)≤((l25:Nat):Int)) ∧
 ∃v33 w34,Sem.run Tryz.prog (builtinV .copy #[23,23] 3 #[(.slice (subO o23 l25 (Int.toNat n30) 1) (l24 - (Int.toNat n30)) (l25 - (Int.toNat n30))),(.slice o23 (Int.toNat (min n30 n15)) l25)]) w32=.ok v33 w34 ∧
 ∃n35,v33=(.int .i64 n35) ∧
 I29 (IntKind.wrap .i64 (n30+n35)) w34∧μ29 (IntKind.wrap .i64 (n30+n35)) w34 < μ29 n30 w31)) ∧
 ((¬n30 < (IntKind.wrap .i64 n9) →
 R (.returned (.slice o23 l24 l25)) w31))))))))))))))
theorem Z1M.vc (o0:Option Addr) (l0:Nat) (c0:Nat) (n1:Int) (w:World) (R:Ending→World→Prop) (h:Z1M.Vc o0 l0 c0 n1 w R):Calls Tryz.prog 64 #[(.slice o0 l0 c0),(.int .i64 n1)] w R :=
 Z8 (R:=⟨R,false⟩) (ann:=[(1000005,[]),(1000008,[]),(1000016,[(8,.cell (.int .i64))]),(18,[(10,.cell (.int .i64))])]) (args:=[.slice o0 l0 c0,.int .i64 n1]) Tryz.func64 ZR (Eq.mp (by kernel_rfl:Z1M.Vc o0 l0 c0 n1 w R=ZP (pA Tryz.prog ⟨R,false⟩) Tryz.prog [(1000005,[]),(1000008,[]),(1000016,[(8,.cell (.int .i64))]),(18,[(10,.cell (.int .i64))])] Tryz.f64 [.slice o0 l0 c0,.int .i64 n1] w) h)

abbrev Z1A.n:Nat:=97
def Z1A.Vc (n0 n1:Int) (w:World) (R:Ending→World→Prop):Prop :=
 Calls Tryz.prog 119 #[(.int .u64 n0),(.int .u64 n1)] w (fun e2 w3 =>
 ∃n4 n5,e2=.returned (.tuple #[(.int .u64 n4),(.int .u64 n5)]) ∧
 R (.returned (.tuple #[(.int .u64 n4),(.int .u64 n5)])) w3)
theorem Z1A.vc (n0:Int) (n1:Int) (w:World) (R:Ending→World→Prop) (h:Z1A.Vc n0 n1 w R):Calls Tryz.prog 97 #[(.int .u64 n0),(.int .u64 n1)] w R :=
 Z8 (R:=⟨R,false⟩) (ann:=[]) (args:=[.int .u64 n0,.int .u64 n1]) Tryz.func97 ZR (Eq.mp (by kernel_rfl:Z1A.Vc n0 n1 w R=ZP (pA Tryz.prog ⟨R,false⟩) Tryz.prog [] Tryz.f97 [.int .u64 n0,.int .u64 n1] w) h)

def Z1R.Vc (n0 n1:Int) (w:World) (R:Ending→World→Prop):Prop :=
 R (.returned (.tuple #[(.int .u64 (IntKind.wrap .u64 ((IntKind.wrap .u64 ((IntKind.wrap .u64 ((Int.fdiv n0 4294967296) * (Int.fdiv n1 4294967296)))+(Int.fdiv (IntKind.wrap .u64 ((IntKind.wrap .u64 ((Int.fdiv n0 4294967296) * (bitsI .and .u64 n1 4294967295)))+(Int.fdiv (IntKind.wrap .u64 ((bitsI .and .u64 n0 4294967295) * (bitsI .and .u64 n1 4294967295))) 4294967296))) 4294967296)))+(Int.fdiv (IntKind.wrap .u64 ((bitsI .and .u64 (IntKind.wrap .u64 ((IntKind.wrap .u64 ((Int.fdiv n0 4294967296) * (bitsI .and .u64 n1 4294967295)))+(Int.fdiv (IntKind.wrap .u64 ((bitsI .and .u64 n0 4294967295) * (bitsI .and .u64 n1 4294967295))) 4294967296))) 4294967295)+(IntKind.wrap .u64 ((bitsI .and .u64 n0 4294967295) * (Int.fdiv n1 4294967296))))) 4294967296)))),(.int .u64 (IntKind.wrap .u64 (n0 * n1)))])) w
theorem Z1R.vc (n0:Int) (n1:Int) (w:World) (R:Ending→World→Prop) (h:Z1R.Vc n0 n1 w R):Calls Tryz.prog 119 #[(.int .u64 n0),(.int .u64 n1)] w R :=
 Z8 (R:=⟨R,false⟩) (ann:=[]) (args:=[.int .u64 n0,.int .u64 n1]) Tryz.func119 ZR (Eq.mp (by kernel_rfl:Z1R.Vc n0 n1 w R=ZP (pA Tryz.prog ⟨R,false⟩) Tryz.prog [] Tryz.f119 [.int .u64 n0,.int .u64 n1] w) h)

abbrev Z0U.n:Nat:=38
def Z0U.Vc (b0:Bool) (o1:Option Addr) (l1 c1:Nat) (o2:Option Addr) (l2 c2:Nat) (o3:Option Addr) (l3 c3:Nat) (o4:Option Addr) (l4 c4:Nat) (v5:Value) (w:World) (R:Ending→World→Prop):Prop :=
 ∀d6 w7,ZC w 86 #[(.bool b0),(.slice o1 l1 c1),(.slice o2 l2 c2),(.slice o3 l3 c3)] d6 w7 →
 ∃o8 l9 l10,World.cell? w7 (Addr.add d6 2)=some (.slice o8 l9 l10) ∧
 ∃(I11:Int→World→Prop) (μ11:Int→World→Nat),I11 0 w7 ∧
 (∀(n12:Int) (j13:Nat→Value) (w13:World),I11 n12 w13 →
 (((n12 < ((l9:Nat):Int) →
 ∃d14,o8=some d14 ∧
 ((0:Int)≤n12∧n12 < ((l9:Nat):Int)) ∧
 ∃L15,ZJ w13 (Addr.add d14 ((Int.toNat n12) * 34)) 34 L15 ∧
 ∀d16 w17,ZC w13 82 #[(.int .u8 0),(.int .u8 0),(.int .u8 0),(.int .u8 0),(.int .u8 0),(.int .u8 0),(.int .u8 0),(.int .u8 0),(.int .u8 0),(.int .u8 0),(.int .u8 0),(.int .u8 0),(.int .u8 0),(.int .u8 0),(.int .u8 0),(.int .u8 0),(.int .u8 0),(.int .u8 0),(.int .u8 0),(.int .u8 0),(.int .u8 0),(.int .u8 0),(.int .u8 0),(.int .u8 0),(.int .u8 0),(.int .u8 0),(.int .u8 0),(.int .u8 0),(.int .u8 0),(.int .u8 0),(.int .u8 0),(.int .u8 0),(.pointer none),(.bool false)] d16 w17 →
 ∃w18,Sem.run Tryz.prog (Instr.storeAt 82 (.pointer (some d16)) (.agg L15)) w17=.ok () w18 ∧
 ∃b19,World.cell? w18 (Addr.add d16 33)=some (.bool b19) ∧
 (((b19=false →
 I11 (IntKind.wrap .i64 (n12+1)) w18∧μ11 (IntKind.wrap .i64 (n12+1)) w18 < μ11 n12 w13)) ∧
 ((b19=true →
 ∃b20 o21 l22 l23 o24 l25 l26 o27 l28 l29,World.cell? w18 d6=some (.bool b20) ∧
 World.cell? w18 (Addr.add d6 1)=some (.slice o21 l22 l23) ∧
 World.cell? w18 (Addr.add d6 2)=some (.slice o24 l25 l26) ∧
 World.cell? w18 (Addr.add d6 3)=some (.slice o27 l28 l29) ∧
 Calls Tryz.prog 67 #[(.agg #[(.bool b20),(.slice o21 l22 l23),(.slice o24 l25 l26),(.slice o27 l28 l29)])] w18 (fun e30 w31 =>
 ((∃ch,e30=.panicked ch∧R (.panicked ch) w31) ∨
 ∃b32,e30=.returned (.bool b32) ∧
 (((b32=true →
 ∀w33,ZN w31 w33 →
 ∃L34,ZJ w33 d16 34 L34 ∧
 ∀d35 w36,ZC w33 5 #[(.int .u8 (IntKind.wrap .u8 n12))] d35 w36 →
 ZJ w36 d16 34 L34 ∧
 Calls Tryz.prog 63 #[(.slice o4 l4 c4),(.slice (some d35) 1 1)] w36 (fun e37 w38 =>
 ((∃ch,e37=.panicked ch∧R (.panicked ch) w38) ∨
 ∃o39 l40 l41,e37=.returned (.slice o39 l40 l41) ∧
 ZJ w38 d16 34 L34 ∧
 Z3S Tryz.prog v5 #[(.agg L34),(.slice o39 l40 l41)] w38 (fun e42 w43 =>
 ((∃ch,e42=.panicked ch∧R (.panicked ch) w43) ∨
 e42=.returned (.tuple #[]) ∧
 I11 (IntKind.wrap .i64 (n12+1)) w43∧μ11 (IntKind.wrap .i64 (n12+1)) w43 < μ11 n12 w13)))))) ∧
 ((b32=false →
 ∀w44,ZN w31 w44 →
 ∃L45,ZJ w44 d16 34 L45 ∧
 ∃o46 l47 l48,World.cell? w44 (Addr.add d6 1)=some (.slice o46 l47 l48) ∧
 Calls Tryz.prog 63 #[(.slice o4 l4 c4),(.slice o46 l47 l48)] w44 (fun e49 w50 =>
 ((∃ch,e49=.panicked ch∧R (.panicked ch) w50) ∨
 ∃o51 l52 l53,e49=.returned (.slice o51 l52 l53) ∧
 ZJ w50 d16 34 L45 ∧
 Z3S Tryz.prog v5 #[(.agg L45),(.slice o51 l52 l53)] w50 (fun e54 w55 =>
 ((∃ch,e54=.panicked ch∧R (.panicked ch) w55) ∨
 e54=.returned (.tuple #[]) ∧
 I11 (IntKind.wrap .i64 (n12+1)) w55∧μ11 (IntKind.wrap .i64 (n12+1)) w55 < μ11 n12 w13)))))))))))))) ∧
 ((¬n12 < ((l9:Nat):Int) →
 R (.returned (.tuple #[])) w13))))
theorem Z0U.vc (b0:Bool) (o1:Option Addr) (l1:Nat) (c1:Nat) (o2:Option Addr) (l2:Nat) (c2:Nat) (o3:Option Addr) (l3:Nat) (c3:Nat) (o4:Option Addr) (l4:Nat) (c4:Nat) (v5:Value) (w:World) (R:Ending→World→Prop) (h:Z0U.Vc b0 o1 l1 c1 o2 l2 c2 o3 l3 c3 o4 l4 c4 v5 w R):Calls Tryz.prog 38 #[(.agg #[(.bool b0),(.slice o1 l1 c1),(.slice o2 l2 c2),(.slice o3 l3 c3)]),(.slice o4 l4 c4),v5] w R :=
 Z8 (R:=⟨R,true⟩) (ann:=[(2,[(11,.cell (.int .i64))])]) (args:=[.agg [.bool (.var b0),.slice o1 l1 c1,.slice o2 l2 c2,.slice o3 l3 c3],.slice o4 l4 c4,.raw v5]) Tryz.func38 ZR (Eq.mp (by kernel_rfl:Z0U.Vc b0 o1 l1 c1 o2 l2 c2 o3 l3 c3 o4 l4 c4 v5 w R=ZP (pA Tryz.prog ⟨R,true⟩) Tryz.prog [(2,[(11,.cell (.int .i64))])] Tryz.f38 [.agg [.bool (.var b0),.slice o1 l1 c1,.slice o2 l2 c2,.slice o3 l3 c3],.slice o4 l4 c4,.raw v5] w) h)

abbrev Z0M.n:Nat:=46
def Z0M.Vc (o0:Option Addr) (l0 c0:Nat) (L1 L2:Array Value) (w:World) (R:Ending→World→Prop):Prop :=
 ∀d3 w4,ZC w 27 L1 d3 w4 →
 ∀d5 w6,ZC w4 27 L2 d5 w6 →
 ∀w7,ZN w6 w7 →
 Calls Tryz.prog 54 #[(.slice (some d3) 32 32)] w7 (fun e8 w9 =>
 ∃o10 l11 l12,e8=.returned (.slice o10 l11 l12) ∧
 Calls Tryz.prog 54 #[(.slice (some d5) 32 32)] w9 (fun e13 w14 =>
 ∃o15 l16 l17,e13=.returned (.slice o15 l16 l17) ∧
 ∃v18 w19,Sem.run Tryz.prog (builtinV .append #[23,23] 23 #[(.slice none 0 0),(.slice o0 l0 c0)]) w14=.ok v18 w19 ∧
 ∃o20 l21 l22,v18=(.slice o20 l21 l22) ∧
 ∃v23 w24,Sem.run Tryz.prog (builtinV .append #[23,23] 23 #[(.slice none 0 0),(.slice o0 l0 c0)]) w19=.ok v23 w24 ∧
 ∃o25 l26 l27,v23=(.slice o25 l26 l27) ∧
 ∃(I28:Option Addr→Nat→Nat→Option Addr→Nat→Nat→World→Prop) (μ28:Option Addr→Nat→Nat→Option Addr→Nat→Nat→World→Nat),I28 o20 l21 l22 o25 l26 l27 w24 ∧
 (∀(o29:Option Addr) (l29:Nat) (c29:Nat) (o30:Option Addr) (l30:Nat) (c30:Nat) (j31:Nat→Value) (w31:World),I28 o29 l29 c29 o30 l30 c30 w31 →
 (((((l29:Nat):Int) < 64 →
 ∀d32 w33,ZC w31 5 #[(.int .u8 0)] d32 w33 →
 ∃v34 w35,Sem.run Tryz.prog (builtinV .append #[23,23] 23 #[(.slice o29 l29 c29),(.slice (some d32) 1 1)]) w33=.ok v34 w35 ∧
 ∃o36 l37 l38,v34=(.slice o36 l37 l38) ∧
 ∀d39 w40,ZC w35 5 #[(.int .u8 15)] d39 w40 →
 ∃v41 w42,Sem.run Tryz.prog (builtinV .append #[23,23] 23 #[(.slice o30 l30 c30),(.slice (some d39) 1 1)]) w40=.ok v41 w42 ∧
 ∃o43 l44 l45,v41=(.slice o43 l44 l45) ∧
 I28 o36 l37 l38 o43 l44 l45 w42∧μ28 o36 l37 l38 o43 l44 l45 w42 < μ28 o29 l29 c29 o30 l30 c30 w31)) ∧
 ((¬((l29:Nat):Int) < 64 →
 Calls Tryz.prog 23 #[(.slice o30 l30 c30),(.slice o10 l11 l12)] w31 (fun e46 w47 =>
 ∃n48,e46=.returned (.int .i64 n48) ∧
 (((n48 < 0 →
 R (.returned (.int .i64 (-1))) w47)) ∧
 ((¬n48 < 0 →
 Calls Tryz.prog 23 #[(.slice o29 l29 c29),(.slice o15 l16 l17)] w47 (fun e49 w50 =>
 ∃n51,e49=.returned (.int .i64 n51) ∧
 (((n51 > 0 →
 R (.returned (.int .i64 (-1))) w50)) ∧
 ((¬n51 > 0 →
 Calls Tryz.prog 23 #[(.slice o29 l29 c29),(.slice o10 l11 l12)] w50 (fun e52 w53 =>
 ∃n54,e52=.returned (.int .i64 n54) ∧
 (((n54≥0 →
 Calls Tryz.prog 23 #[(.slice o30 l30 c30),(.slice o15 l16 l17)] w53 (fun e55 w56 =>
 ∃n57,e55=.returned (.int .i64 n57) ∧
 (((n57≤0 →
 R (.returned (.int .i64 1)) w56)) ∧
 ((¬n57≤0 →
 R (.returned (.int .i64 0)) w56)))))) ∧
 ((¬n54≥0 →
 R (.returned (.int .i64 0)) w53))))))))))))))))))
theorem Z0M.vc (o0:Option Addr) (l0:Nat) (c0:Nat) (L1:Array Value) (L2:Array Value) (w:World) (R:Ending→World→Prop) (h:Z0M.Vc o0 l0 c0 L1 L2 w R):Calls Tryz.prog 46 #[(.slice o0 l0 c0),(.agg L1),(.agg L2)] w R :=
 Z8 (R:=⟨R,false⟩) (ann:=[(4,[(9,.cell (.slice)),(10,.cell (.slice))])]) (args:=[.slice o0 l0 c0,.big 32 L1,.big 32 L2]) Tryz.func46 ZR (Eq.mp (by kernel_rfl:Z0M.Vc o0 l0 c0 L1 L2 w R=ZP (pA Tryz.prog ⟨R,false⟩) Tryz.prog [(4,[(9,.cell (.slice)),(10,.cell (.slice))])] Tryz.f46 [.slice o0 l0 c0,.big 32 L1,.big 32 L2] w) h)

end Go.Proofs.YtfghidehlnfdiaaGreat
end
section
namespace Go.Proofs.YtfghidehlnfdiaaGreat
open Go Go.Vcg
abbrev Z13.n:Nat:=35
def Z13.Vc (m0:Option Nat) (b1:Bool) (L2:Array Value) (w:World) (R:Ending→World→Prop):Prop :=
 ∀d3 w4,ZC w 69 #[(.map m0),(.bool b1)] d3 w4 →
 ∀d5 w6,ZC w4 82 L2 d5 w6 →
 ∀d7 w8,ZC w6 86 #[(.bool false),(.slice none 0 0),(.slice none 0 0),(.slice none 0 0)] d7 w8 →
 ∃o9,World.cell? w8 (Addr.add d5 32)=some (.pointer o9) ∧
 (((o9≠none →
 ∃o10,World.cell? w8 (Addr.add d5 32)=some (.pointer o10) ∧
 ∃d11,o10=some d11 ∧
 ∃b12 o13 l14 l15 o16 l17 l18,World.cell? w8 d11=some (.bool b12) ∧
 World.cell? w8 (Addr.add d11 1)=some (.slice o13 l14 l15) ∧
 World.cell? w8 (Addr.add d11 2)=some (.slice o16 l17 l18) ∧
 Calls Tryz.prog 65 #[(.agg #[(.bool b12),(.slice o13 l14 l15),(.slice o16 l17 l18)])] w8 (fun e19 w20 =>
 ((∃ch,e19=.panicked ch∧R (.panicked ch) w20) ∨
 ∃b21 o22 l23 l24 o25 l26 l27 o28 l29 l30,e19=.returned (.agg #[(.bool b21),(.slice o22 l23 l24),(.slice o25 l26 l27),(.slice o28 l29 l30)]) ∧
 Z1 w20 d7 (.bool b21)∧∀w31,ZA w20 d7 (.bool b21) w31 →
 Z1 w31 (Addr.add d7 1) (.slice o22 l23 l24)∧∀w32,ZA w31 (Addr.add d7 1) (.slice o22 l23 l24) w32 →
 Z1 w32 (Addr.add d7 2) (.slice o25 l26 l27)∧∀w33,ZA w32 (Addr.add d7 2) (.slice o25 l26 l27) w33 →
 Z1 w33 (Addr.add d7 3) (.slice o28 l29 l30)∧∀w34,ZA w33 (Addr.add d7 3) (.slice o28 l29 l30) w34 →
 ∃b35 o36 l37 l38 o39 l40 l41 o42 l43 l44,World.cell? w34 d7=some (.bool b35) ∧
 World.cell? w34 (Addr.add d7 1)=some (.slice o36 l37 l38) ∧
 World.cell? w34 (Addr.add d7 2)=some (.slice o39 l40 l41) ∧
 World.cell? w34 (Addr.add d7 3)=some (.slice o42 l43 l44) ∧
 R (.returned (.agg #[(.bool b35),(.slice o36 l37 l38),(.slice o39 l40 l41),(.slice o42 l43 l44)])) w34)))) ∧
 ((o9=none →
 ∃m45:Option Nat,∃b46,World.cell? w8 d3=some (.map m45) ∧
 World.cell? w8 (Addr.add d3 1)=some (.bool b46) ∧
 ∃L47,ZJ w8 d5 32 L47 ∧
 Calls Tryz.prog 37 #[(.agg #[(.map m45),(.bool b46)]),(.agg L47)] w8 (fun e48 w49 =>
 ((∃ch,e48=.panicked ch∧R (.panicked ch) w49) ∨
 ∃o50 l51 l52,e48=.returned (.slice o50 l51 l52) ∧
 Calls Tryz.prog 66 #[(.slice o50 l51 l52)] w49 (fun e53 w54 =>
 ((∃ch,e53=.panicked ch∧R (.panicked ch) w54) ∨
 ∃b55 o56 l57 l58 o59 l60 l61 o62 l63 l64 n65,e53=.returned (.tuple #[(.agg #[(.bool b55),(.slice o56 l57 l58),(.slice o59 l60 l61),(.slice o62 l63 l64)]),(.int .i64 n65)]) ∧
 ∀d66 w67,ZC w54 86 #[(.bool false),(.slice none 0 0),(.slice none 0 0),(.slice none 0 0)] d66 w67 →
 Z1 w67 d66 (.bool b55)∧∀w68,ZA w67 d66 (.bool b55) w68 →
 Z1 w68 (Addr.add d66 1) (.slice o56 l57 l58)∧∀w69,ZA w68 (Addr.add d66 1) (.slice o56 l57 l58) w69 →
 Z1 w69 (Addr.add d66 2) (.slice o59 l60 l61)∧∀w70,ZA w69 (Addr.add d66 2) (.slice o59 l60 l61) w70 →
 Z1 w70 (Addr.add d66 3) (.slice o62 l63 l64)∧∀w71,ZA w70 (Addr.add d66 3) (.slice o62 l63 l64) w71 →
 Calls Tryz.prog 45 #[(.int .i64 n65)] w71 (fun e72 w73 =>
 ((∃ch,e72=.panicked ch∧R (.panicked ch) w73) ∨
 e72=.returned (.tuple #[]) ∧
 ∃b74 o75 l76 l77 o78 l79 l80 o81 l82 l83,World.cell? w73 d66=some (.bool b74) ∧
 World.cell? w73 (Addr.add d66 1)=some (.slice o75 l76 l77) ∧
 World.cell? w73 (Addr.add d66 2)=some (.slice o78 l79 l80) ∧
 World.cell? w73 (Addr.add d66 3)=some (.slice o81 l82 l83) ∧
 Z1 w73 d7 (.bool b74)∧∀w84,ZA w73 d7 (.bool b74) w84 →
 Z1 w84 (Addr.add d7 1) (.slice o75 l76 l77)∧∀w85,ZA w84 (Addr.add d7 1) (.slice o75 l76 l77) w85 →
 Z1 w85 (Addr.add d7 2) (.slice o78 l79 l80)∧∀w86,ZA w85 (Addr.add d7 2) (.slice o78 l79 l80) w86 →
 Z1 w86 (Addr.add d7 3) (.slice o81 l82 l83)∧∀w87,ZA w86 (Addr.add d7 3) (.slice o81 l82 l83) w87 →
 ∃b88 o89 l90 l91 o92 l93 l94 o95 l96 l97,World.cell? w87 d7=some (.bool b88) ∧
 World.cell? w87 (Addr.add d7 1)=some (.slice o89 l90 l91) ∧
 World.cell? w87 (Addr.add d7 2)=some (.slice o92 l93 l94) ∧
 World.cell? w87 (Addr.add d7 3)=some (.slice o95 l96 l97) ∧
 R (.returned (.agg #[(.bool b88),(.slice o89 l90 l91),(.slice o92 l93 l94),(.slice o95 l96 l97)])) w87)))))))))
theorem Z13.vc (m0:Option Nat) (b1:Bool) (L2:Array Value) (w:World) (R:Ending→World→Prop) (h:Z13.Vc m0 b1 L2 w R):Calls Tryz.prog 35 #[(.agg #[(.map m0),(.bool b1)]),(.agg L2)] w R :=
 Z8 (R:=⟨R,true⟩) (ann:=[]) (args:=[.agg [.map m0,.bool (.var b1)],.big 34 L2]) Tryz.func35 ZR (Eq.mp (by kernel_rfl:Z13.Vc m0 b1 L2 w R=ZP (pA Tryz.prog ⟨R,true⟩) Tryz.prog [] Tryz.f35 [.agg [.map m0,.bool (.var b1)],.big 34 L2] w) h)

abbrev Z0f.n:Nat:=15
def Z0f.Vc (o0:Option Addr) (l0 c0:Nat) (L1 L2 L3:Array Value) (w:World) (R:Ending→World→Prop):Prop :=
 ∀d4 w5,ZC w 27 L1 d4 w5 →
 ∀d6 w7,ZC w5 27 L2 d6 w7 →
 ∀d8 w9,ZC w7 27 L3 d8 w9 →
 ∀d10 w11,ZC w9 34 #[(.slice none 0 0)] d10 w11 →
 ∀d12 w13,ZC w11 40 #[(.int .i64 0)] d12 w13 →
 Calls Tryz.prog 29 #[(.slice o0 l0 c0),(.bool false)] w13 (fun e14 w15 =>
 ((∃ch,e14=.panicked ch∧R (.panicked ch) w15) ∨
 ∃m16:Option Nat,∃b17 n18,e14=.returned (.tuple #[(.agg #[(.map m16),(.bool b17)]),(.int .i64 n18)]) ∧
 ∀d19 w20,ZC w15 69 #[(.map none),(.bool false)] d19 w20 →
 Z1 w20 d19 (.map m16)∧∀w21,ZA w20 d19 (.map m16) w21 →
 Z1 w21 (Addr.add d19 1) (.bool b17)∧∀w22,ZA w21 (Addr.add d19 1) (.bool b17) w22 →
 Z1 w22 d12 (.int .i64 n18)∧∀w23,ZA w22 d12 (.int .i64 n18) w23 →
 ∃n24,World.cell? w23 d12=some (.int .i64 n24) ∧
 (((n24≠0 →
 ∀w25,ZN w23 w25 →
 ∃n26,World.cell? w25 d12=some (.int .i64 n26) ∧
 Z1 w25 d10 (.slice none 0 0)∧∀w27,ZA w25 d10 (.slice none 0 0) w27 →
 World.cell? w27 d12=some (.int .i64 n26) ∧
 Z1 w27 d12 (.int .i64 n26)∧∀w28,ZA w27 d12 (.int .i64 n26) w28 →
 ∃o29 l30 l31,World.cell? w28 d10=some (.slice o29 l30 l31) ∧
 ∃n32,World.cell? w28 d12=some (.int .i64 n32) ∧
 R (.returned (.tuple #[(.slice o29 l30 l31),(.int .i64 n32)])) w28)) ∧
 ((n24=0 →
 ∃L33,ZJ w23 d6 32 L33 ∧
 ∃L34,ZJ w23 d8 32 L34 ∧
 Calls Tryz.prog 30 #[(.agg L33),(.agg L34)] w23 (fun e35 w36 =>
 ((∃ch,e35=.panicked ch∧R (.panicked ch) w36) ∨
 ∃o37 l38 l39 o40 l41 l42 b43,e35=.returned (.tuple #[(.agg #[(.slice o37 l38 l39),(.slice o40 l41 l42)]),(.bool b43)]) ∧
 ∀d44 w45,ZC w36 73 #[(.slice none 0 0),(.slice none 0 0)] d44 w45 →
 Z1 w45 d44 (.slice o37 l38 l39)∧∀w46,ZA w45 d44 (.slice o37 l38 l39) w46 →
 Z1 w46 (Addr.add d44 1) (.slice o40 l41 l42)∧∀w47,ZA w46 (Addr.add d44 1) (.slice o40 l41 l42) w47 →
 (((b43=false →
 Z1 w47 d10 (.slice none 0 0)∧∀w48,ZA w47 d10 (.slice none 0 0) w48 →
 Z1 w48 d12 (.int .i64 164)∧∀w49,ZA w48 d12 (.int .i64 164) w49 →
 ∃o50 l51 l52,World.cell? w49 d10=some (.slice o50 l51 l52) ∧
 ∃n53,World.cell? w49 d12=some (.int .i64 n53) ∧
 R (.returned (.tuple #[(.slice o50 l51 l52),(.int .i64 n53)])) w49)) ∧
 ((b43=true →
 ∃v54 w55,Sem.run Tryz.prog (Instr.makeMap 78 none) w47=.ok v54 w55 ∧
 ∃m56:Option Nat,v54=(.map m56) ∧
 ∀d57 w58,ZC w55 78 #[(.map none)] d57 w58 →
 Z1 w58 d57 (.map m56)∧∀w59,ZA w58 d57 (.map m56) w59 →
 ∀d60 w61,ZC w59 79 #[.nilFunc] d60 w61 →
 Z1 w61 d60 (.func (.func 33) #[] #[(.pointer (some d44)),(.pointer (some d19)),(.pointer (some d57)),(.pointer (some d10)),(.pointer (some d60))])∧∀w62,ZA w61 d60 (.func (.func 33) #[] #[(.pointer (some d44)),(.pointer (some d19)),(.pointer (some d57)),(.pointer (some d10)),(.pointer (some d60))]) w62 →
 ∃L63,ZJ w62 d4 32 L63 ∧
 Calls Tryz.prog 39 #[(.agg L63)] w62 (fun e64 w65 =>
 ((∃ch,e64=.panicked ch∧Z2t Tryz.prog (fun w66 =>
 ∃o67 l68 l69,World.cell? w66 d10=some (.slice o67 l68 l69) ∧
 ∃n70,World.cell? w66 d12=some (.int .i64 n70) ∧
 R (.returned (.tuple #[(.slice o67 l68 l69),(.int .i64 n70)])) w66) R [(32,#[(.pointer (some d12))]),(31,#[(.pointer (some d12)),(.pointer (some d10))])] (.panicking ch) w65) ∨
 ∃L71,e64=.returned (.agg L71) ∧
 ∀d72 w73,ZC w65 82 #[(.int .u8 0),(.int .u8 0),(.int .u8 0),(.int .u8 0),(.int .u8 0),(.int .u8 0),(.int .u8 0),(.int .u8 0),(.int .u8 0),(.int .u8 0),(.int .u8 0),(.int .u8 0),(.int .u8 0),(.int .u8 0),(.int .u8 0),(.int .u8 0),(.int .u8 0),(.int .u8 0),(.int .u8 0),(.int .u8 0),(.int .u8 0),(.int .u8 0),(.int .u8 0),(.int .u8 0),(.int .u8 0),(.int .u8 0),(.int .u8 0),(.int .u8 0),(.int .u8 0),(.int .u8 0),(.int .u8 0),(.int .u8 0),(.pointer none),(.bool false)] d72 w73 →
 ∃w74,Sem.run Tryz.prog (Instr.storeAt 82 (.pointer (some d72)) (.agg L71)) w73=.ok () w74 ∧
 ∃b75,World.cell? w74 (Addr.add d72 33)=some (.bool b75) ∧
 (((b75=true →
 ∃v76,World.cell? w74 d60=some v76 ∧
 ∃L77,ZJ w74 d72 34 L77 ∧
 Z3S Tryz.prog v76 #[(.agg L77),(.slice none 0 0)] w74 (fun e78 w79 =>
 ((∃ch,e78=.panicked ch∧Z2t Tryz.prog (fun w80 =>
 ∃o81 l82 l83,World.cell? w80 d10=some (.slice o81 l82 l83) ∧
 ∃n84,World.cell? w80 d12=some (.int .i64 n84) ∧
 R (.returned (.tuple #[(.slice o81 l82 l83),(.int .i64 n84)])) w80) R [(32,#[(.pointer (some d12))]),(31,#[(.pointer (some d12)),(.pointer (some d10))])] (.panicking ch) w79) ∨
 e78=.returned (.tuple #[]) ∧
 ∃o85 l86 l87,World.cell? w79 d10=some (.slice o85 l86 l87) ∧
 Z1 w79 d10 (.slice o85 l86 l87)∧∀w88,ZA w79 d10 (.slice o85 l86 l87) w88 →
 Z1 w88 d12 (.int .i64 0)∧∀w89,ZA w88 d12 (.int .i64 0) w89 →
 Z2t Tryz.prog (fun w90 =>
 ∃o91 l92 l93,World.cell? w90 d10=some (.slice o91 l92 l93) ∧
 ∃n94,World.cell? w90 d12=some (.int .i64 n94) ∧
 R (.returned (.tuple #[(.slice o91 l92 l93),(.int .i64 n94)])) w90) R [(32,#[(.pointer (some d12))]),(31,#[(.pointer (some d12)),(.pointer (some d10))])] .returning w89)))) ∧
 ((b75=false →
 ∃o95 l96 l97,World.cell? w74 d10=some (.slice o95 l96 l97) ∧
 Z1 w74 d10 (.slice o95 l96 l97)∧∀w98,ZA w74 d10 (.slice o95 l96 l97) w98 →
 Z1 w98 d12 (.int .i64 0)∧∀w99,ZA w98 d12 (.int .i64 0) w99 →
 Z2t Tryz.prog (fun w100 =>
 ∃o101 l102 l103,World.cell? w100 d10=some (.slice o101 l102 l103) ∧
 ∃n104,World.cell? w100 d12=some (.int .i64 n104) ∧
 R (.returned (.tuple #[(.slice o101 l102 l103),(.int .i64 n104)])) w100) R [(32,#[(.pointer (some d12))]),(31,#[(.pointer (some d12)),(.pointer (some d10))])] .returning w99)))))))))))))))
theorem Z0f.vc (o0:Option Addr) (l0:Nat) (c0:Nat) (L1:Array Value) (L2:Array Value) (L3:Array Value) (w:World) (R:Ending→World→Prop) (h:Z0f.Vc o0 l0 c0 L1 L2 L3 w R):Calls Tryz.prog 15 #[(.slice o0 l0 c0),(.agg L1),(.agg L2),(.agg L3)] w R :=
 Z4G (ann:=[]) (args:=[.slice o0 l0 c0,.big 32 L1,.big 32 L2,.big 32 L3]) Tryz.func15 ZR (Eq.mp (by kernel_rfl:Z0f.Vc o0 l0 c0 L1 L2 L3 w R=ZA6 (aD Tryz.prog R) (ZD9 Tryz.prog R) Tryz.prog [] Tryz.f15 [.slice o0 l0 c0,.big 32 L1,.big 32 L2,.big 32 L3] False w) h)

def Z0G.Vc (d0 d1:Addr) (w:World) (R:Ending→World→Prop):Prop :=
 ∃n2,World.cell? w d0=some (.int .i64 n2) ∧
 (((n2≠0 →
 Z1 w d1 (.slice none 0 0)∧∀w3,ZA w d1 (.slice none 0 0) w3 →
 R (.returned (.tuple #[])) w3)) ∧
 ((n2=0 →
 R (.returned (.tuple #[])) w)))
theorem Z0G.vcd (u:FrameMode) (d0:Addr) (d1:Addr) (w:World) (R:Ending→World→Prop) (h:Z0G.Vc d0 d1 w R):CallsD Tryz.prog 31 #[(.pointer (some d0)),(.pointer (some d1))] u w (fun e u' w'=>u'=u∧R e w') :=
 Z4H (R:=R) (ann:=[]) (args:=[.addr d0,.addr d1]) Tryz.func31 ZR (Eq.mp (by kernel_rfl:Z0G.Vc d0 d1 w R=ZP (pA Tryz.prog ⟨R,false⟩) Tryz.prog [] Tryz.f31 [.addr d0,.addr d1] w) h)

abbrev Zl.n:Nat:=33
def Zl.Vc (L0:Array Value) (o1:Option Addr) (l1 c1:Nat) (d2 d3 d4 d5 d6:Addr) (w:World) (R:Ending→World→Prop):Prop :=
 ∀d7 w8,ZC w 82 L0 d7 w8 →
 (((((l1:Nat):Int) > 64 →
 R (.returned (.tuple #[])) w8)) ∧
 ((¬((l1:Nat):Int) > 64 →
 ∃o9 l10 l11 o12 l13 l14,World.cell? w8 d2=some (.slice o9 l10 l11) ∧
 World.cell? w8 (Addr.add d2 1)=some (.slice o12 l13 l14) ∧
 Calls Tryz.prog 34 #[(.agg #[(.slice o9 l10 l11),(.slice o12 l13 l14)]),(.slice o1 l1 c1)] w8 (fun e15 w16 =>
 ((∃ch,e15=.panicked ch∧R (.panicked ch) w16) ∨
 ∃n17,e15=.returned (.int .i64 n17) ∧
 (((n17≠2 →
 R (.returned (.tuple #[])) w16)) ∧
 ((n17=2 →
 ∃m18:Option Nat,∃b19,World.cell? w16 d3=some (.map m18) ∧
 World.cell? w16 (Addr.add d3 1)=some (.bool b19) ∧
 ∃L20,ZJ w16 d7 34 L20 ∧
 Calls Tryz.prog 35 #[(.agg #[(.map m18),(.bool b19)]),(.agg L20)] w16 (fun e21 w22 =>
 ((∃ch,e21=.panicked ch∧R (.panicked ch) w22) ∨
 ∃b23 o24 l25 l26 o27 l28 l29 o30 l31 l32,e21=.returned (.agg #[(.bool b23),(.slice o24 l25 l26),(.slice o27 l28 l29),(.slice o30 l31 l32)]) ∧
 ∀d33 w34,ZC w22 86 #[(.bool false),(.slice none 0 0),(.slice none 0 0),(.slice none 0 0)] d33 w34 →
 Z1 w34 d33 (.bool b23)∧∀w35,ZA w34 d33 (.bool b23) w35 →
 Z1 w35 (Addr.add d33 1) (.slice o24 l25 l26)∧∀w36,ZA w35 (Addr.add d33 1) (.slice o24 l25 l26) w36 →
 Z1 w36 (Addr.add d33 2) (.slice o27 l28 l29)∧∀w37,ZA w36 (Addr.add d33 2) (.slice o27 l28 l29) w37 →
 Z1 w37 (Addr.add d33 3) (.slice o30 l31 l32)∧∀w38,ZA w37 (Addr.add d33 3) (.slice o30 l31 l32) w38 →
 ∃o39,World.cell? w38 (Addr.add d7 32)=some (.pointer o39) ∧
 (((o39=none →
 ∃m40:Option Nat,World.cell? w38 d4=some (.map m40) ∧
 ∃L41,ZJ w38 d7 32 L41 ∧
 ∃v42,Sem.run Tryz.prog (Instr.lookup 78 (.map m40) (.agg L41) true) w38=.ok v42 w38 ∧
 ∃b43,v42=(.tuple #[(.agg #[]),(.bool b43)]) ∧
 ∀d44 w45,ZC w38 88 #[] d44 w45 →
 (((b43=false →
 ∃m46:Option Nat,World.cell? w45 d4=some (.map m46) ∧
 ∃L47,ZJ w45 d7 32 L47 ∧
 ∃w48,Sem.run Tryz.prog (Instr.mapUpdate 78 (.map m46) (.agg L47) (.agg #[])) w45=.ok () w48 ∧
 ∀w49,ZN w48 w49 →
 ∃o50 l51 l52,World.cell? w49 d5=some (.slice o50 l51 l52) ∧
 ∃L53,ZJ w49 d7 32 L53 ∧
 ∃m54:Option Nat,∃b55,World.cell? w49 d3=some (.map m54) ∧
 World.cell? w49 (Addr.add d3 1)=some (.bool b55) ∧
 ∃L56,ZJ w49 d7 32 L56 ∧
 Calls Tryz.prog 37 #[(.agg #[(.map m54),(.bool b55)]),(.agg L56)] w49 (fun e57 w58 =>
 ((∃ch,e57=.panicked ch∧R (.panicked ch) w58) ∨
 ∃o59 l60 l61,e57=.returned (.slice o59 l60 l61) ∧
 ZJ w58 d7 32 L53 ∧
 World.cell? w58 d5=some (.slice o50 l51 l52) ∧
 Calls Tryz.prog 36 #[(.slice o59 l60 l61)] w58 (fun e62 w63 =>
 ((∃ch,e62=.panicked ch∧R (.panicked ch) w63) ∨
 ∃o64 l65 l66,e62=.returned (.slice o64 l65 l66) ∧
 ZJ w63 d7 32 L53 ∧
 World.cell? w63 d5=some (.slice o50 l51 l52) ∧
 Array.size L53=32 ∧
 Array.size (setsAt (lputL #[(.int .u8 0),(.int .u8 0),(.int .u8 0),(.int .u8 0),(.int .u8 0),(.int .u8 0),(.int .u8 0),(.int .u8 0),(.int .u8 0),(.int .u8 0),(.int .u8 0),(.int .u8 0),(.int .u8 0),(.int .u8 0),(.int .u8 0),(.int .u8 0),(.int .u8 0),(.int .u8 0),(.int .u8 0),(.int .u8 0),(.int .u8 0),(.int .u8 0),(.int .u8 0),(.int .u8 0),(.int .u8 0),(.int .u8 0),(.int .u8 0),(.int .u8 0),(.int .u8 0),(.int .u8 0),(.int .u8 0),(.int .u8 0),(.slice none 0 0)] 0 32 L53) 32 [(.slice o64 l65 l66)])=33 ∧
 ∀d67 w68,ZC w63 48 (lputL #[(.int .u8 0),(.int .u8 0),(.int .u8 0),(.int .u8 0),(.int .u8 0),(.int .u8 0),(.int .u8 0),(.int .u8 0),(.int .u8 0),(.int .u8 0),(.int .u8 0),(.int .u8 0),(.int .u8 0),(.int .u8 0),(.int .u8 0),(.int .u8 0),(.int .u8 0),(.int .u8 0),(.int .u8 0),(.int .u8 0),(.int .u8 0),(.int .u8 0),(.int .u8 0),(.int .u8 0),(.int .u8 0),(.int .u8 0),(.int .u8 0),(.int .u8 0),(.int .u8 0),(.int .u8 0),(.int .u8 0),(.int .u8 0),(.slice none 0 0)] 0 33 (setsAt (lputL #[(.int .u8 0),(.int .u8 0),(.int .u8 0),(.int .u8 0),(.int .u8 0),(.int .u8 0),(.int .u8 0),(.int .u8 0),(.int .u8 0),(.int .u8 0),(.int .u8 0),(.int .u8 0),(.int .u8 0),(.int .u8 0),(.int .u8 0),(.int .u8 0),(.int .u8 0),(.int .u8 0),(.int .u8 0),(.int .u8 0),(.int .u8 0),(.int .u8 0),(.int .u8 0),(.int .u8 0),(.int .u8 0),(.int .u8 0),(.int .u8 0),(.int .u8 0),(.int .u8 0),(.int .u8 0),(.int .u8 0),(.int .u8 0),(.slice none 0 0)] 0 32 L53) 32 [(.slice o64 l65 l66)])) d67 w68 →
 World.cell? w68 d5=some (.slice o50 l51 l52) ∧
 ∃v69 w70,Sem.run Tryz.prog (builtinV .append #[34,34] 34 #[(.slice o50 l51 l52),(.slice (some d67) 1 1)]) w68=.ok v69 w70 ∧
 ∃o71 l72 l73,v69=(.slice o71 l72 l73) ∧
 Z1 w70 d5 (.slice o71 l72 l73)∧∀w74,ZA w70 d5 (.slice o71 l72 l73) w74 →
 ∃b75 o76 l77 l78 o79 l80 l81 o82 l83 l84,World.cell? w74 d33=some (.bool b75) ∧
 World.cell? w74 (Addr.add d33 1)=some (.slice o76 l77 l78) ∧
 World.cell? w74 (Addr.add d33 2)=some (.slice o79 l80 l81) ∧
 World.cell? w74 (Addr.add d33 3)=some (.slice o82 l83 l84) ∧
 ∃v85,World.cell? w74 d6=some v85 ∧
 Calls Tryz.prog 38 #[(.agg #[(.bool b75),(.slice o76 l77 l78),(.slice o79 l80 l81),(.slice o82 l83 l84)]),(.slice o1 l1 c1),v85] w74 (fun e86 w87 =>
 ((∃ch,e86=.panicked ch∧R (.panicked ch) w87) ∨
 e86=.returned (.tuple #[]) ∧
 R (.returned (.tuple #[])) w87)))))))) ∧
 ((b43=true →
 ∃b88 o89 l90 l91 o92 l93 l94 o95 l96 l97,World.cell? w45 d33=some (.bool b88) ∧
 World.cell? w45 (Addr.add d33 1)=some (.slice o89 l90 l91) ∧
 World.cell? w45 (Addr.add d33 2)=some (.slice o92 l93 l94) ∧
 World.cell? w45 (Addr.add d33 3)=some (.slice o95 l96 l97) ∧
 ∃v98,World.cell? w45 d6=some v98 ∧
 Calls Tryz.prog 38 #[(.agg #[(.bool b88),(.slice o89 l90 l91),(.slice o92 l93 l94),(.slice o95 l96 l97)]),(.slice o1 l1 c1),v98] w45 (fun e99 w100 =>
 ((∃ch,e99=.panicked ch∧R (.panicked ch) w100) ∨
 e99=.returned (.tuple #[]) ∧
 R (.returned (.tuple #[])) w100))))))) ∧
 ((o39≠none →
 ∃b101 o102 l103 l104 o105 l106 l107 o108 l109 l110,World.cell? w38 d33=some (.bool b101) ∧
 World.cell? w38 (Addr.add d33 1)=some (.slice o102 l103 l104) ∧
 World.cell? w38 (Addr.add d33 2)=some (.slice o105 l106 l107) ∧
 World.cell? w38 (Addr.add d33 3)=some (.slice o108 l109 l110) ∧
 ∃v111,World.cell? w38 d6=some v111 ∧
 Calls Tryz.prog 38 #[(.agg #[(.bool b101),(.slice o102 l103 l104),(.slice o105 l106 l107),(.slice o108 l109 l110)]),(.slice o1 l1 c1),v111] w38 (fun e112 w113 =>
 ((∃ch,e112=.panicked ch∧R (.panicked ch) w113) ∨
 e112=.returned (.tuple #[]) ∧
 R (.returned (.tuple #[])) w113)))))))))))))))
theorem Zl.vc (L0:Array Value) (o1:Option Addr) (l1:Nat) (c1:Nat) (d2:Addr) (d3:Addr) (d4:Addr) (d5:Addr) (d6:Addr) (w:World) (R:Ending→World→Prop) (h:Zl.Vc L0 o1 l1 c1 d2 d3 d4 d5 d6 w R):Calls Tryz.prog 33 #[(.agg L0),(.slice o1 l1 c1),(.pointer (some d2)),(.pointer (some d3)),(.pointer (some d4)),(.pointer (some d5)),(.pointer (some d6))] w R :=
 Z8 (R:=⟨R,true⟩) (ann:=[]) (args:=[.big 34 L0,.slice o1 l1 c1,.addr d2,.addr d3,.addr d4,.addr d5,.addr d6]) Tryz.func33 ZR (Eq.mp (by kernel_rfl:Zl.Vc L0 o1 l1 c1 d2 d3 d4 d5 d6 w R=ZP (pA Tryz.prog ⟨R,true⟩) Tryz.prog [] Tryz.f33 [.big 34 L0,.slice o1 l1 c1,.addr d2,.addr d3,.addr d4,.addr d5,.addr d6] w) h)

abbrev Z0L.n:Nat:=69
def Z0L.Vc (o0:Option Addr) (l0 c0:Nat) (L1:Array Value) (w:World) (R:Ending→World→Prop):Prop :=
 ∀d2 w3,ZC w 27 L1 d2 w3 →
 ∃(I4:Int→World→Prop) (μ4:Int→World→Nat),I4 0 w3 ∧
 (∀(n5:Int) (j6:Nat→Value) (w6:World),I4 n5 w6 →
 (((n5 < ((l0:Nat):Int) →
 ∀w7,ZN w6 w7 →
 ∃d8,o0=some d8 ∧
 ((0:Int)≤n5∧n5 < ((l0:Nat):Int)) ∧
 ∃L9,ZJ w7 (Addr.add d8 ((Int.toNat n5) * 33)) 32 L9 ∧
 ∃L10,ZJ w7 d2 32 L10 ∧
 ∃v11,Sem.run Tryz.prog (Z0q .eql 27 (.tmp 17) (.tmp 18) (.agg L9) (.agg L10)) w7=.ok v11 w7 ∧
 ∃b12,v11=(.bool b12) ∧
 (((b12=true →
 ∃d13,o0=some d13 ∧
 ((0:Int)≤n5∧n5 < ((l0:Nat):Int)) ∧
 ∃o14 l15 l16,World.cell? w7 (Addr.add (Addr.add d13 ((Int.toNat n5) * 33)) 32)=some (.slice o14 l15 l16) ∧
 R (.returned (.tuple #[(.slice o14 l15 l16),(.bool true)])) w7)) ∧
 ((b12=false →
 I4 (IntKind.wrap .i64 (n5+1)) w7∧μ4 (IntKind.wrap .i64 (n5+1)) w7 < μ4 n5 w6))))) ∧
 ((¬n5 < ((l0:Nat):Int) →
 R (.returned (.tuple #[(.slice none 0 0),(.bool false)])) w6))))
theorem Z0L.vc (o0:Option Addr) (l0:Nat) (c0:Nat) (L1:Array Value) (w:World) (R:Ending→World→Prop) (h:Z0L.Vc o0 l0 c0 L1 w R):Calls Tryz.prog 69 #[(.slice o0 l0 c0),(.agg L1)] w R :=
 Z8 (R:=⟨R,false⟩) (ann:=[(2,[(6,.cell (.int .i64))])]) (args:=[.slice o0 l0 c0,.big 32 L1]) Tryz.func69 ZR (Eq.mp (by kernel_rfl:Z0L.Vc o0 l0 c0 L1 w R=ZP (pA Tryz.prog ⟨R,false⟩) Tryz.prog [(2,[(6,.cell (.int .i64))])] Tryz.f69 [.slice o0 l0 c0,.big 32 L1] w) h)

abbrev Zf.n:Nat:=41
def Zf.Vc (d0:Addr) (L1:Array Value) (o2:Option Addr) (l2 c2:Nat) (w:World) (R:Ending→World→Prop):Prop :=
 ∀d3 w4,ZC w 27 L1 d3 w4 →
 ∀w5,ZN w4 w5 →
 ∃n6,World.cell? w5 (Addr.add d0 66)=some (.int .i64 n6) ∧
 (((n6≠0 →
 R (.returned (.tuple #[])) w5)) ∧
 ((n6=0 →
 ∃L7,ZJ w5 (Addr.add d0 1) 32 L7 ∧
 ∃L8,ZJ w5 (Addr.add d0 33) 32 L8 ∧
 Calls Tryz.prog 46 #[(.slice o2 l2 c2),(.agg L7),(.agg L8)] w5 (fun e9 w10 =>
 ∃n11,e9=.returned (.int .i64 n11) ∧
 (((n11≠0 →
 R (.returned (.tuple #[])) w10)) ∧
 ((n11=0 →
 ∀w12,ZN w10 w12 →
 ∃o13 l14 l15,World.cell? w12 d0=some (.slice o13 l14 l15) ∧
 ∃L16,ZJ w12 d3 32 L16 ∧
 Calls Tryz.prog 69 #[(.slice o13 l14 l15),(.agg L16)] w12 (fun e17 w18 =>
 ∃o19 l20 l21 b22,e17=.returned (.tuple #[(.slice o19 l20 l21),(.bool b22)]) ∧
 (((b22=false →
 Z1 w18 (Addr.add d0 66) (.int .i64 160)∧∀w23,ZA w18 (Addr.add d0 66) (.int .i64 160) w23 →
 R (.returned (.tuple #[])) w23)) ∧
 ((b22=true →
 Calls Tryz.prog 59 #[(.slice o19 l20 l21)] w18 (fun e24 w25 =>
 ∃n26,e24=.returned (.int .i64 n26) ∧
 (((n26≠0 →
 Z1 w25 (Addr.add d0 66) (.int .i64 161)∧∀w27,ZA w25 (Addr.add d0 66) (.int .i64 161) w27 →
 R (.returned (.tuple #[])) w27)) ∧
 ((n26=0 →
 ∀w28,ZN w25 w28 →
 ∃o29 l30 l31,World.cell? w28 (Addr.add d0 65)=some (.slice o29 l30 l31) ∧
 ∃L32,ZJ w28 d3 32 L32 ∧
 Calls Tryz.prog 69 #[(.slice o29 l30 l31),(.agg L32)] w28 (fun e33 w34 =>
 ∃o35 l36 l37 b38,e33=.returned (.tuple #[(.slice o35 l36 l37),(.bool b38)]) ∧
 ∃(J39:World→Prop),((((b38=false →
 ∀w40,ZN w34 w40 →
 ∃o41 l42 l43,World.cell? w40 (Addr.add d0 65)=some (.slice o41 l42 l43) ∧
 ∃L44,ZJ w40 d3 32 L44 ∧
 ∃v45 w46,Sem.run Tryz.prog (builtinV .append #[23,23] 23 #[(.slice none 0 0),(.slice o19 l20 l21)]) w40=.ok v45 w46 ∧
 ∃o47 l48 l49,v45=(.slice o47 l48 l49) ∧
 ZJ w46 d3 32 L44 ∧
 World.cell? w46 (Addr.add d0 65)=some (.slice o41 l42 l43) ∧
 Array.size L44=32 ∧
 Array.size (setsAt (lputL #[(.int .u8 0),(.int .u8 0),(.int .u8 0),(.int .u8 0),(.int .u8 0),(.int .u8 0),(.int .u8 0),(.int .u8 0),(.int .u8 0),(.int .u8 0),(.int .u8 0),(.int .u8 0),(.int .u8 0),(.int .u8 0),(.int .u8 0),(.int .u8 0),(.int .u8 0),(.int .u8 0),(.int .u8 0),(.int .u8 0),(.int .u8 0),(.int .u8 0),(.int .u8 0),(.int .u8 0),(.int .u8 0),(.int .u8 0),(.int .u8 0),(.int .u8 0),(.int .u8 0),(.int .u8 0),(.int .u8 0),(.int .u8 0),(.slice none 0 0)] 0 32 L44) 32 [(.slice o47 l48 l49)])=33 ∧
 ∀d50 w51,ZC w46 48 (lputL #[(.int .u8 0),(.int .u8 0),(.int .u8 0),(.int .u8 0),(.int .u8 0),(.int .u8 0),(.int .u8 0),(.int .u8 0),(.int .u8 0),(.int .u8 0),(.int .u8 0),(.int .u8 0),(.int .u8 0),(.int .u8 0),(.int .u8 0),(.int .u8 0),(.int .u8 0),(.int .u8 0),(.int .u8 0),(.int .u8 0),(.int .u8 0),(.int .u8 0),(.int .u8 0),(.int .u8 0),(.int .u8 0),(.int .u8 0),(.int .u8 0),(.int .u8 0),(.int .u8 0),(.int .u8 0),(.int .u8 0),(.int .u8 0),(.slice none 0 0)] 0 33 (setsAt (lputL #[(.int .u8 0),(.int .u8 0),(.int .u8 0),(.int .u8 0),(.int .u8 0),(.int .u8 0),(.int .u8 0),(.int .u8 0),(.int .u8 0),(.int .u8 0),(.int .u8 0),(.int .u8 0),(.int .u8 0),(.int .u8 0),(.int .u8 0),(.int .u8 0),(.int .u8 0),(.int .u8 0),(.int .u8 0),(.int .u8 0),(.int .u8 0),(.int .u8 0),(.int .u8 0),(.int .u8 0),(.int .u8 0),(.int .u8 0),(.int .u8 0),(.int .u8 0),(.int .u8 0),(.int .u8 0),(.int .u8 0),(.int .u8 0),(.slice none 0 0)] 0 32 L44) 32 [(.slice o47 l48 l49)])) d50 w51 →
 World.cell? w51 (Addr.add d0 65)=some (.slice o41 l42 l43) ∧
 ∃v52 w53,Sem.run Tryz.prog (builtinV .append #[34,34] 34 #[(.slice o41 l42 l43),(.slice (some d50) 1 1)]) w51=.ok v52 w53 ∧
 ∃o54 l55 l56,v52=(.slice o54 l55 l56) ∧
 Z1 w53 (Addr.add d0 65) (.slice o54 l55 l56)∧∀w57,ZA w53 (Addr.add d0 65) (.slice o54 l55 l56) w57 →
 J39  w57)) ∧
 ((b38=true →
 J39  w34)))) ∧
 (∀  (j58:Nat→Value) (w58:World),J39  w58 →
 Calls Tryz.prog 60 #[(.slice o19 l20 l21)] w58 (fun e59 w60 =>
 ∃b61 o62 l63 l64 o65 l66 l67 n68,e59=.returned (.tuple #[(.agg #[(.bool b61),(.slice o62 l63 l64),(.slice o65 l66 l67)]),(.int .i64 n68)]) ∧
 ∀d69 w70,ZC w60 111 #[(.bool false),(.slice none 0 0),(.slice none 0 0)] d69 w70 →
 Z1 w70 d69 (.bool b61)∧∀w71,ZA w70 d69 (.bool b61) w71 →
 Z1 w71 (Addr.add d69 1) (.slice o62 l63 l64)∧∀w72,ZA w71 (Addr.add d69 1) (.slice o62 l63 l64) w72 →
 Z1 w72 (Addr.add d69 2) (.slice o65 l66 l67)∧∀w73,ZA w72 (Addr.add d69 2) (.slice o65 l66 l67) w73 →
 ∃b74 o75 l76 l77 o78 l79 l80,World.cell? w73 d69=some (.bool b74) ∧
 World.cell? w73 (Addr.add d69 1)=some (.slice o75 l76 l77) ∧
 World.cell? w73 (Addr.add d69 2)=some (.slice o78 l79 l80) ∧
 Calls Tryz.prog 70 #[(.pointer (some d0)),(.agg #[(.bool b74),(.slice o75 l76 l77),(.slice o78 l79 l80)]),(.slice o2 l2 c2)] w73 (fun e81 w82 =>
 e81=.returned (.tuple #[]) ∧
 R (.returned (.tuple #[])) w82)))))))))))))))))))
theorem Zf.vc (d0:Addr) (L1:Array Value) (o2:Option Addr) (l2:Nat) (c2:Nat) (w:World) (R:Ending→World→Prop) (h:Zf.Vc d0 L1 o2 l2 c2 w R):Calls Tryz.prog 41 #[(.pointer (some d0)),(.agg L1),(.slice o2 l2 c2)] w R :=
 Z8 (R:=⟨R,false⟩) (ann:=[(1000010,[])]) (args:=[.addr d0,.big 32 L1,.slice o2 l2 c2]) Tryz.func41 ZR (Eq.mp (by kernel_rfl:Zf.Vc d0 L1 o2 l2 c2 w R=ZP (pA Tryz.prog ⟨R,false⟩) Tryz.prog [(1000010,[])] Tryz.f41 [.addr d0,.big 32 L1,.slice o2 l2 c2] w) h)

abbrev ZE.n:Nat:=70
def ZE.Vc (d0:Addr) (b1:Bool) (o2:Option Addr) (l2 c2:Nat) (o3:Option Addr) (l3 c3:Nat) (o4:Option Addr) (l4 c4:Nat) (w:World) (R:Ending→World→Prop):Prop :=
 ∀d5 w6,ZC w 111 #[(.bool b1),(.slice o2 l2 c2),(.slice o3 l3 c3)] d5 w6 →
 ∃n7,World.cell? w6 (Addr.add d0 66)=some (.int .i64 n7) ∧
 (((n7≠0 →
 R (.returned (.tuple #[])) w6)) ∧
 ((n7=0 →
 (((((l4:Nat):Int) > 64 →
 R (.returned (.tuple #[])) w6)) ∧
 ((¬((l4:Nat):Int) > 64 →
 ∃b8,World.cell? w6 d5=some (.bool b8) ∧
 (((b8=false →
 ∃o9 l10 l11,World.cell? w6 (Addr.add d5 1)=some (.slice o9 l10 l11) ∧
 (((((l10:Nat):Int)=32 →
 ∀d12 w13,ZC w6 27 (Array.replicate 32 (.int .u8 0)) d12 w13 →
 ∀w14,ZN w13 w14 →
 ∃o15 l16 l17,World.cell? w14 (Addr.add d5 1)=some (.slice o15 l16 l17) ∧
 ∃v18 w19,Sem.run Tryz.prog (builtinV .copy #[23,23] 3 #[(.slice (some d12) 32 32),(.slice o15 l16 l17)]) w14=.ok v18 w19 ∧
 ∃n20,v18=(.int .i64 n20) ∧
 ∃L21,ZJ w19 d12 32 L21 ∧
 Calls Tryz.prog 41 #[(.pointer (some d0)),(.agg L21),(.slice o4 l4 c4)] w19 (fun e22 w23 =>
 e22=.returned (.tuple #[]) ∧
 R (.returned (.tuple #[])) w23))) ∧
 ((((l10:Nat):Int)≠32 →
 R (.returned (.tuple #[])) w6))))) ∧
 ((b8=true →
 ∃o24 l25 l26,World.cell? w6 (Addr.add d5 2)=some (.slice o24 l25 l26) ∧
 (((((l25:Nat):Int)=2 →
 ∃o27 l28 l29,World.cell? w6 (Addr.add d5 2)=some (.slice o27 l28 l29) ∧
 ∃d30,o27=some d30 ∧
 ((0:Int)≤0∧0 < ((l28:Nat):Int)) ∧
 ∃o31 l32 l33,World.cell? w6 (Addr.add (Addr.add d30 0) 1)=some (.slice o31 l32 l33) ∧
 Calls Tryz.prog 95 #[(.slice o31 l32 l33)] w6 (fun e34 w35 =>
 ∃o36 l37 l38 b39 n40,e34=.returned (.tuple #[(.slice o36 l37 l38),(.bool b39),(.int .i64 n40)]) ∧
 (((b39=false →
 ∀w41,ZN w35 w41 →
 ∃o42 l43 l44,World.cell? w41 (Addr.add d5 2)=some (.slice o42 l43 l44) ∧
 ∃d45,o42=some d45 ∧
 ((0:Int)≤1∧1 < ((l43:Nat):Int)) ∧
 ∃b46 o47 l48 l49 o50 l51 l52,World.cell? w41 (Addr.add d45 3)=some (.bool b46) ∧
 World.cell? w41 (Addr.add (Addr.add d45 3) 1)=some (.slice o47 l48 l49) ∧
 World.cell? w41 (Addr.add (Addr.add d45 3) 2)=some (.slice o50 l51 l52) ∧
 ∃v53 w54,Sem.run Tryz.prog (builtinV .append #[23,23] 23 #[(.slice none 0 0),(.slice o4 l4 c4)]) w41=.ok v53 w54 ∧
 ∃o55 l56 l57,v53=(.slice o55 l56 l57) ∧
 World.cell? w54 (Addr.add d45 3)=some (.bool b46) ∧
 World.cell? w54 (Addr.add (Addr.add d45 3) 1)=some (.slice o47 l48 l49) ∧
 World.cell? w54 (Addr.add (Addr.add d45 3) 2)=some (.slice o50 l51 l52) ∧
 World.cell? w54 (Addr.add d5 2)=some (.slice o42 l43 l44) ∧
 ∃v58 w59,Sem.run Tryz.prog (builtinV .append #[23,23] 23 #[(.slice o55 l56 l57),(.slice o36 l37 l38)]) w54=.ok v58 w59 ∧
 ∃o60 l61 l62,v58=(.slice o60 l61 l62) ∧
 World.cell? w59 (Addr.add d45 3)=some (.bool b46) ∧
 World.cell? w59 (Addr.add (Addr.add d45 3) 1)=some (.slice o47 l48 l49) ∧
 World.cell? w59 (Addr.add (Addr.add d45 3) 2)=some (.slice o50 l51 l52) ∧
 World.cell? w59 (Addr.add d5 2)=some (.slice o42 l43 l44) ∧
 Calls Tryz.prog 70 #[(.pointer (some d0)),(.agg #[(.bool b46),(.slice o47 l48 l49),(.slice o50 l51 l52)]),(.slice o60 l61 l62)] w59 (fun e63 w64 =>
 e63=.returned (.tuple #[]) ∧
 R (.returned (.tuple #[])) w64))) ∧
 ((b39=true →
 R (.returned (.tuple #[])) w35)))))) ∧
 ((((l25:Nat):Int)≠2 →
 ∃(I65:Int→World→Prop) (μ65:Int→World→Nat),I65 0 w6 ∧
 (∀(n66:Int) (j67:Nat→Value) (w67:World),I65 n66 w67 →
 (((n66 < 16 →
 ∀w68,ZN w67 w68 →
 ∃o69 l70 l71,World.cell? w68 (Addr.add d5 2)=some (.slice o69 l70 l71) ∧
 ∃d72,o69=some d72 ∧
 ((0:Int)≤n66∧n66 < ((l70:Nat):Int)) ∧
 ∃b73 o74 l75 l76 o77 l78 l79,World.cell? w68 (Addr.add d72 ((Int.toNat n66) * 3))=some (.bool b73) ∧
 World.cell? w68 (Addr.add (Addr.add d72 ((Int.toNat n66) * 3)) 1)=some (.slice o74 l75 l76) ∧
 World.cell? w68 (Addr.add (Addr.add d72 ((Int.toNat n66) * 3)) 2)=some (.slice o77 l78 l79) ∧
 ((∃v80 w81,Sem.run Tryz.prog (builtinV .append #[23,23] 23 #[(.slice none 0 0),(.slice o4 l4 c4)]) w68=.ok v80 w81 ∧
 ∃o82 l83 l84,v80=(.slice o82 l83 l84) ∧
 World.cell? w81 (Addr.add d72 ((Int.toNat n66) * 3))=some (.bool b73) ∧
 World.cell? w81 (Addr.add (Addr.add d72 ((Int.toNat n66) * 3)) 1)=some (.slice o74 l75 l76) ∧
 World.cell? w81 (Addr.add (Addr.add d72 ((Int.toNat n66) * 3)) 2)=some (.slice o77 l78 l79) ∧
 World.cell? w81 (Addr.add d5 2)=some (.slice o69 l70 l71) ∧
 ∀d85 w86,ZC w81 5 #[(.int .u8 (IntKind.wrap .u8 n66))] d85 w86 →
 World.cell? w86 (Addr.add d72 ((Int.toNat n66) * 3))=some (.bool b73) ∧
 World.cell? w86 (Addr.add (Addr.add d72 ((Int.toNat n66) * 3)) 1)=some (.slice o74 l75 l76) ∧
 World.cell? w86 (Addr.add (Addr.add d72 ((Int.toNat n66) * 3)) 2)=some (.slice o77 l78 l79) ∧
 World.cell? w86 (Addr.add d5 2)=some (.slice o69 l70 l71) ∧
 ∃v87 w88,Sem.run Tryz.prog (builtinV .append #[23,23] 23 #[(.slice o82 l83 l84),(.slice (some d85) 1 1)]) w86=.ok v87 w88 ∧
 ∃o89 l90 l91,v87=(.slice o89 l90 l91) ∧
 World.cell? w88 (Addr.add d72 ((Int.toNat n66) * 3))=some (.bool b73) ∧
 World.cell? w88 (Addr.add (Addr.add d72 ((Int.toNat n66) * 3)) 1)=some (.slice o74 l75 l76) ∧
 World.cell? w88 (Addr.add (Addr.add d72 ((Int.toNat n66) * 3)) 2)=some (.slice o77 l78 l79) ∧
 World.cell? w88 (Addr.add d5 2)=some (.slice o69 l70 l71) ∧
 Calls Tryz.prog 70 #[(.pointer (some d0)),(.agg #[(.bool b73),(.slice o74 l75 l76),(.slice o77 l78 l79)]),(.slice o89 l90 l91)] w88 (fun e92 w93 =>
 e92=.returned (.tuple #[]) ∧
 I65 (IntKind.wrap .i64 (n66+1)) w93∧μ65 (IntKind.wrap .i64 (n66+1)) w93 < μ65 n66 w67)) ∧
 (∀d94 w95,ZC w68 5 #[(.int .u8 (IntKind.wrap .u8 n66))] d94 w95 →
 World.cell? w95 (Addr.add d72 ((Int.toNat n66) * 3))=some (.bool b73) ∧
 World.cell? w95 (Addr.add (Addr.add d72 ((Int.toNat n66) * 3)) 1)=some (.slice o74 l75 l76) ∧
 World.cell? w95 (Addr.add (Addr.add d72 ((Int.toNat n66) * 3)) 2)=some (.slice o77 l78 l79) ∧
 World.cell? w95 (Addr.add d5 2)=some (.slice o69 l70 l71) ∧
 ∃v96 w97,Sem.run Tryz.prog (builtinV .append #[23,23] 23 #[(.slice none 0 0),(.slice o4 l4 c4)]) w95=.ok v96 w97 ∧
 ∃o98 l99 l100,v96=(.slice o98 l99 l100) ∧
 World.cell? w97 (Addr.add d72 ((Int.toNat n66) * 3))=some (.bool b73) ∧
 World.cell? w97 (Addr.add (Addr.add d72 ((Int.toNat n66) * 3)) 1)=some (.slice o74 l75 l76) ∧
 World.cell? w97 (Addr.add (Addr.add d72 ((Int.toNat n66) * 3)) 2)=some (.slice o77 l78 l79) ∧
 World.cell? w97 (Addr.add d5 2)=some (.slice o69 l70 l71) ∧
 ∃v101 w102,Sem.run Tryz.prog (builtinV .append #[23,23] 23 #[(.slice o98 l99 l100),(.slice (some d94) 1 1)]) w97=.ok v101 w102 ∧
 ∃o103 l104 l105,v101=(.slice o103 l104 l105) ∧
 World.cell? w102 (Addr.add d72 ((Int.toNat n66) * 3))=some (.bool b73) ∧
 World.cell? w102 (Addr.add (Addr.add d72 ((Int.toNat n66) * 3)) 1)=some (.slice o74 l75 l76) ∧
 World.cell? w102 (Addr.add (Addr.add d72 ((Int.toNat n66) * 3)) 2)=some (.slice o77 l78 l79) ∧
 World.cell? w102 (Addr.add d5 2)=some (.slice o69 l70 l71) ∧
 Calls Tryz.prog 70 #[(.pointer (some d0)),(.agg #[(.bool b73),(.slice o74 l75 l76),(.slice o77 l78 l79)]),(.slice o103 l104 l105)] w102 (fun e106 w107 =>
 e106=.returned (.tuple #[]) ∧
 I65 (IntKind.wrap .i64 (n66+1)) w107∧μ65 (IntKind.wrap .i64 (n66+1)) w107 < μ65 n66 w67))))) ∧
 ((¬n66 < 16 →
 R (.returned (.tuple #[])) w67))))))))))))))))
theorem ZE.vc (d0:Addr) (b1:Bool) (o2:Option Addr) (l2:Nat) (c2:Nat) (o3:Option Addr) (l3:Nat) (c3:Nat) (o4:Option Addr) (l4:Nat) (c4:Nat) (w:World) (R:Ending→World→Prop) (h:ZE.Vc d0 b1 o2 l2 c2 o3 l3 c3 o4 l4 c4 w R):Calls Tryz.prog 70 #[(.pointer (some d0)),(.agg #[(.bool b1),(.slice o2 l2 c2),(.slice o3 l3 c3)]),(.slice o4 l4 c4)] w R :=
 Z8 (R:=⟨R,false⟩) (ann:=[(12,[(10,.cell (.int .i64))])]) (args:=[.addr d0,.agg [.bool (.var b1),.slice o2 l2 c2,.slice o3 l3 c3],.slice o4 l4 c4]) Tryz.func70 ZR (Eq.mp (by kernel_rfl:ZE.Vc d0 b1 o2 l2 c2 o3 l3 c3 o4 l4 c4 w R=ZP (pA Tryz.prog ⟨R,false⟩) Tryz.prog [(12,[(10,.cell (.int .i64))])] Tryz.f70 [.addr d0,.agg [.bool (.var b1),.slice o2 l2 c2,.slice o3 l3 c3],.slice o4 l4 c4] w) h)

abbrev Ze.n:Nat:=16
def Ze.Vc (o0:Option Addr) (l0 c0:Nat) (L1 L2 L3:Array Value) (w:World) (R:Ending→World→Prop):Prop :=
 ∀d4 w5,ZC w 27 L1 d4 w5 →
 ∀d6 w7,ZC w5 27 L2 d6 w7 →
 ∀d8 w9,ZC w7 27 L3 d8 w9 →
 (((((l0:Nat):Int) > 4096 →
 R (.returned (.tuple #[(.slice none 0 0),(.int .i64 162)])) w9)) ∧
 ((¬((l0:Nat):Int) > 4096 →
 ∀w10,ZN w9 w10 →
 Calls Tryz.prog 23 #[(.slice (some d8) 32 32),(.slice (some d6) 32 32)] w10 (fun e11 w12 =>
 ∃n13,e11=.returned (.int .i64 n13) ∧
 (((n13 < 0 →
 R (.returned (.tuple #[(.slice none 0 0),(.int .i64 164)])) w12)) ∧
 ((¬n13 < 0 →
 ∃L14,ZJ w12 d6 32 L14 ∧
 ∃L15,ZJ w12 d8 32 L15 ∧
 Array.size L14=32 ∧
 Array.size L15=32 ∧
 ∀d16 w17,ZC w12 96 (lputL (lputL (setsAt #[(.slice none 0 0),(.int .u8 0),(.int .u8 0),(.int .u8 0),(.int .u8 0),(.int .u8 0),(.int .u8 0),(.int .u8 0),(.int .u8 0),(.int .u8 0),(.int .u8 0),(.int .u8 0),(.int .u8 0),(.int .u8 0),(.int .u8 0),(.int .u8 0),(.int .u8 0),(.int .u8 0),(.int .u8 0),(.int .u8 0),(.int .u8 0),(.int .u8 0),(.int .u8 0),(.int .u8 0),(.int .u8 0),(.int .u8 0),(.int .u8 0),(.int .u8 0),(.int .u8 0),(.int .u8 0),(.int .u8 0),(.int .u8 0),(.int .u8 0),(.int .u8 0),(.int .u8 0),(.int .u8 0),(.int .u8 0),(.int .u8 0),(.int .u8 0),(.int .u8 0),(.int .u8 0),(.int .u8 0),(.int .u8 0),(.int .u8 0),(.int .u8 0),(.int .u8 0),(.int .u8 0),(.int .u8 0),(.int .u8 0),(.int .u8 0),(.int .u8 0),(.int .u8 0),(.int .u8 0),(.int .u8 0),(.int .u8 0),(.int .u8 0),(.int .u8 0),(.int .u8 0),(.int .u8 0),(.int .u8 0),(.int .u8 0),(.int .u8 0),(.int .u8 0),(.int .u8 0),(.int .u8 0),(.slice none 0 0),(.int .i64 0)] 0 [(.slice o0 l0 c0)]) 1 32 L14) 33 32 L15) d16 w17 →
 ∃(J18:World→Prop),(∀w19,ZN w17 w19 →
 ∃L20,ZJ w19 d4 32 L20 ∧
 Calls Tryz.prog 40 #[] w19 (fun e21 w22 =>
 ∃L23,e21=.returned (.agg L23) ∧
 ZJ w22 d4 32 L20 ∧
 ∃v24,Sem.run Tryz.prog (Z0q .neq 27 (.tmp 23) (.tmp 24) (.agg L20) (.agg L23)) w22=.ok v24 w22 ∧
 ∃b25,v24=(.bool b25) ∧
 (((b25=true →
 ∃L26,ZJ w22 d4 32 L26 ∧
 Calls Tryz.prog 41 #[(.pointer (some d16)),(.agg L26),(.slice none 0 0)] w22 (fun e27 w28 =>
 e27=.returned (.tuple #[]) ∧
 J18  w28))) ∧
 ((b25=false →
 J18  w22))))) ∧
 (∀  (j29:Nat→Value) (w29:World),J18  w29 →
 ∃n30,World.cell? w29 (Addr.add d16 66)=some (.int .i64 n30) ∧
 (((n30≠0 →
 ∀w31,ZN w29 w31 →
 ∃n32,World.cell? w31 (Addr.add d16 66)=some (.int .i64 n32) ∧
 R (.returned (.tuple #[(.slice none 0 0),(.int .i64 n32)])) w31)) ∧
 ((n30=0 →
 ∃o33 l34 l35,World.cell? w29 (Addr.add d16 65)=some (.slice o33 l34 l35) ∧
 R (.returned (.tuple #[(.slice o33 l34 l35),(.int .i64 0)])) w29)))))))))))
theorem Ze.vc (o0:Option Addr) (l0:Nat) (c0:Nat) (L1:Array Value) (L2:Array Value) (L3:Array Value) (w:World) (R:Ending→World→Prop) (h:Ze.Vc o0 l0 c0 L1 L2 L3 w R):Calls Tryz.prog 16 #[(.slice o0 l0 c0),(.agg L1),(.agg L2),(.agg L3)] w R :=
 Z8 (R:=⟨R,false⟩) (ann:=[(1000008,[])]) (args:=[.slice o0 l0 c0,.big 32 L1,.big 32 L2,.big 32 L3]) Tryz.func16 ZR (Eq.mp (by kernel_rfl:Ze.Vc o0 l0 c0 L1 L2 L3 w R=ZP (pA Tryz.prog ⟨R,false⟩) Tryz.prog [(1000008,[])] Tryz.f16 [.slice o0 l0 c0,.big 32 L1,.big 32 L2,.big 32 L3] w) h)

abbrev Z0B.n:Nat:=13
def Z0B.Vc (o0:Option Addr) (l0 c0:Nat) (w:World) (R:Ending→World→Prop):Prop :=
 ∃(I1:Int→World→Prop) (μ1:Int→World→Nat),I1 0 w ∧
 (∀(n2:Int) (j3:Nat→Value) (w3:World),I1 n2 w3 →
 (((n2 < ((l0:Nat):Int) →
 ∃d4,o0=some d4 ∧
 ((0:Int)≤n2∧n2 < ((l0:Nat):Int)) ∧
 ∃o5 l6 l7,World.cell? w3 (Addr.add d4 ((Int.toNat n2) * 2))=some (.slice o5 l6 l7) ∧
 (((((l6:Nat):Int)≠32 →
 R (.returned (.bool false)) w3)) ∧
 ((((l6:Nat):Int)=32 →
 I1 (IntKind.wrap .i64 (n2+1)) w3∧μ1 (IntKind.wrap .i64 (n2+1)) w3 < μ1 n2 w3))))) ∧
 ((¬n2 < ((l0:Nat):Int) →
 R (.returned (.bool true)) w3))))
theorem Z0B.vc (o0:Option Addr) (l0:Nat) (c0:Nat) (w:World) (R:Ending→World→Prop) (h:Z0B.Vc o0 l0 c0 w R):Calls Tryz.prog 13 #[(.slice o0 l0 c0)] w R :=
 Z8 (R:=⟨R,false⟩) (ann:=[(2,[(3,.cell (.int .i64))])]) (args:=[.slice o0 l0 c0]) Tryz.func13 ZR (Eq.mp (by kernel_rfl:Z0B.Vc o0 l0 c0 w R=ZP (pA Tryz.prog ⟨R,false⟩) Tryz.prog [(2,[(3,.cell (.int .i64))])] Tryz.f13 [.slice o0 l0 c0] w) h)

abbrev Zc.n:Nat:=4
def Zc.Vc (o0:Option Addr) (l0 c0:Nat) (n1:Int) (L2 L3:Array Value) (w:World) (R:Ending→World→Prop):Prop :=
 ∀d4 w5,ZC w 27 L2 d4 w5 →
 ∀d6 w7,ZC w5 27 L3 d6 w7 →
 Calls Tryz.prog 6 #[] w7 (fun e8 w9 =>
 ∃b10,e8=.returned (.bool b10) ∧
 (((b10=false →
 R (.returned (.bool false)) w9)) ∧
 ((b10=true →
 Calls Tryz.prog 7 #[(.slice o0 l0 c0)] w9 (fun e11 w12 =>
 ∃b13,e11=.returned (.bool b13) ∧
 (((b13=false →
 R (.returned (.bool true)) w12)) ∧
 ((b13=true →
 Calls Tryz.prog 13 #[(.slice o0 l0 c0)] w12 (fun e14 w15 =>
 ∃b16,e14=.returned (.bool b16) ∧
 (((b16=false →
 R (.returned (.bool true)) w15)) ∧
 ((b16=true →
 Calls Tryz.prog 8 #[(.slice o0 l0 c0)] w15 (fun e17 w18 =>
 ∃L19 o20 l21 l22,e17=.returned (.tuple #[(.agg L19),(.slice o20 l21 l22)]) ∧
 ∀d23 w24,ZC w18 27 (Array.replicate 32 (.int .u8 0)) d23 w24 →
 ∃w25,Sem.run Tryz.prog (Instr.storeAt 27 (.pointer (some d23)) (.agg L19)) w24=.ok () w25 ∧
 Calls Tryz.prog 10 #[(.slice o20 l21 l22)] w25 (fun e26 w27 =>
 ∃o28 l29 l30,e26=.returned (.slice o28 l29 l30) ∧
 Calls Tryz.prog 14 #[(.slice o28 l29 l30),(.int .i64 n1),(.slice none 0 0)] w27 (fun e31 w32 =>
 ∃o33 l34 l35,e31=.returned (.slice o33 l34 l35) ∧
 ∃L36,ZJ w32 d23 32 L36 ∧
 ∃L37,ZJ w32 d4 32 L37 ∧
 ∃L38,ZJ w32 d6 32 L38 ∧
 Calls Tryz.prog 15 #[(.slice o33 l34 l35),(.agg L36),(.agg L37),(.agg L38)] w32 (fun e39 w40 =>
 ∃o41 l42 l43 n44,e39=.returned (.tuple #[(.slice o41 l42 l43),(.int .i64 n44)]) ∧
 ∃L45,ZJ w40 d23 32 L45 ∧
 ∃L46,ZJ w40 d4 32 L46 ∧
 ∃L47,ZJ w40 d6 32 L47 ∧
 Calls Tryz.prog 16 #[(.slice o33 l34 l35),(.agg L45),(.agg L46),(.agg L47)] w40 (fun e48 w49 =>
 ∃o50 l51 l52 n53,e48=.returned (.tuple #[(.slice o50 l51 l52),(.int .i64 n53)]) ∧
 (((n44=n53 →
 Calls Tryz.prog 17 #[(.slice o41 l42 l43),(.slice o50 l51 l52)] w49 (fun e54 w55 =>
 ∃b56,e54=.returned (.bool b56) ∧
 R (.returned (.bool b56)) w55))) ∧
 ((n44≠n53 →
 R (.returned (.bool false)) w49))))))))))))))))))))
theorem Zc.vc (o0:Option Addr) (l0:Nat) (c0:Nat) (n1:Int) (L2:Array Value) (L3:Array Value) (w:World) (R:Ending→World→Prop) (h:Zc.Vc o0 l0 c0 n1 L2 L3 w R):Calls Tryz.prog 4 #[(.slice o0 l0 c0),(.int .i64 n1),(.agg L2),(.agg L3)] w R :=
 Z8 (R:=⟨R,false⟩) (ann:=[]) (args:=[.slice o0 l0 c0,.int .i64 n1,.big 32 L2,.big 32 L3]) Tryz.func4 ZR (Eq.mp (by kernel_rfl:Zc.Vc o0 l0 c0 n1 L2 L3 w R=ZP (pA Tryz.prog ⟨R,false⟩) Tryz.prog [] Tryz.f4 [.slice o0 l0 c0,.int .i64 n1,.big 32 L2,.big 32 L3] w) h)

end Go.Proofs.YtfghidehlnfdiaaGreat
end
section
namespace Go.Proofs.YtfghidehlnfdiaaGreat
open Go Go.Vcg Go.Trie
theorem Z7V:∀(p q:By),ltB p q∨p=q∨ltB q p
 | [],[]=>.inr (.inl rfl)
 | [],_ :: _=>.inl trivial
 | _ :: _,[]=>.inr (.inr trivial)
 | a :: p,b :: q=>by
   simp only [ltB,List.cons.injEq]
   rcases Nat.lt_trichotomy a.toNat b.toNat with h | h | h
   ·exact .inl (.inl (UInt8.lt_iff_toNat_lt.2 h))
   ·obtain rfl:=UInt8.toNat_inj.1 h
    rcases Z7V p q with h | h | h
    ·exact .inl (.inr ⟨rfl,h⟩)
    ·exact .inr (.inl ⟨rfl,h⟩)
    ·exact .inr (.inr (.inr ⟨rfl,h⟩))
   ·exact .inr (.inr (.inl (UInt8.lt_iff_toNat_lt.2 h)))
theorem Z92 {p q:By}:Z1z p q > 0↔ltB q p:=by
 constructor
 ·intro h
  rcases Z7V p q with h1 | h1 | h1
  ·have:=Z24.2 h1; omega
  ·have:=ZB9.2 h1; omega
  ·exact h1
 ·intro h
  have h1:¬Z1z p q < 0:=fun h2=>Z3a _ (Z32 h (Z24.1 h2))
  have h2:¬Z1z p q=0:=fun h2=>by rw [ZB9.1 h2] at h; exact Z3a _ h
  omega
theorem Z5Y {p q r:By} (h1:¬ltB q p) (h2:¬ltB r q):¬ltB r p:=fun h=>by
 rcases Z7V p q with h3 | rfl | h3
 ·exact h2 (Z32 h h3)
 ·exact h2 h
 ·exact h1 h3
def Z46 (p:By):By:=p++List.replicate (64 - p.length) 0
def Z45 (p:By):By:=p++List.replicate (64 - p.length) 15
def Z3p (a b p:By):Int :=
 if Z1z (Z45 p) a < 0∨Z1z (Z46 p) b > 0 then -1 else if Z1z (Z46 p) a≥0∧Z1z (Z45 p) b≤0 then 1 else 0
theorem ZEM:∀(x:By) (n:Nat),x.length=n→¬ltB x (List.replicate n 0)
 | [],_,h=>by subst h; exact Z3q _
 | a :: r,n,h=>by
   obtain ⟨m,rfl⟩:∃m,n=m+1:=⟨r.length,by rw [← h]; rfl⟩
   simp only [List.replicate_succ,ltB]
   rintro (h1 | ⟨_,h1⟩)
   ·have:=UInt8.lt_iff_toNat_lt.1 h1; simp at this
   ·exact ZEM r m (by simpa using h) h1
theorem ZEL:∀(x:By) (n:Nat),x.length=n→Nib x→¬ltB (List.replicate n 15) x
 | [],_,h,_=>by subst h; exact Z3q _
 | a :: r,n,h,hn=>by
   obtain ⟨m,rfl⟩:∃m,n=m+1:=⟨r.length,by rw [← h]; rfl⟩
   simp only [List.replicate_succ,ltB]
   rintro (h1 | ⟨_,h1⟩)
   ·have:=UInt8.lt_iff_toNat_lt.1 h1
    have h2:=hn a (by simp)
    have h3:(15:UInt8).toNat=15:=rfl
    omega
   ·exact ZEL r m (by simpa using h) (fun x hx=>hn x (by simp [hx])) h1
theorem ZFP {p q:By} (h:(p++q).length≤64):Z46 (p++q)=p++(q++List.replicate (64 - (p++q).length) 0):=by
 unfold Z46; rw [List.append_assoc]
theorem ZEE {p q:By} (h:(p++q).length≤64):¬ltB (Z46 (p++q)) (Z46 p):=by
 rw [ZFP h]
 unfold Z46
 rw [Z4f]
 rw [List.length_append] at h
 exact ZEM _ _ (by rw [List.length_append,List.length_replicate,List.length_append]; omega)
theorem ZE5 {p q:By} (h:(p++q).length≤64) (hq:Nib q):¬ltB (Z45 p) (Z45 (p++q)):=by
 have e:Z45 (p++q)=p++(q++List.replicate (64 - (p++q).length) 15):=by unfold Z45; rw [List.append_assoc]
 rw [e]
 unfold Z45
 rw [Z4f]
 rw [List.length_append] at h
 refine ZEL _ _ (by rw [List.length_append,List.length_replicate,List.length_append]; omega) (fun x hx=>?_)
 rcases List.mem_append.1 hx with hx | hx
 ·exact hq x hx
 ·rw [List.eq_of_mem_replicate hx]; decide
theorem ZHk {p:By}:¬ltB (Z45 p) (Z46 p):=by
 unfold Z46 Z45
 rw [Z4f]
 refine ZEM _ _ (List.length_replicate ..)
theorem Z9D {a b p:By}:Z3p a b p= -1↔ltB (Z45 p) a∨ltB b (Z46 p):=by
 have e0:(Z1z (Z45 p) a < 0∨Z1z (Z46 p) b > 0)↔(ltB (Z45 p) a∨ltB b (Z46 p)):=or_congr Z24 Z92
 unfold Z3p
 split
 ·exact ⟨fun _=>e0.1 ‹_›,fun _=>rfl⟩
 ·split
  ·exact ⟨fun h=>absurd h (by decide),fun h=>absurd (e0.2 h) ‹_›⟩
  ·exact ⟨fun h=>absurd h (by decide),fun h=>absurd (e0.2 h) ‹_›⟩
theorem ZED {a b p:By}:Z3p a b p=1↔¬ltB (Z46 p) a∧¬ltB b (Z45 p):=by
 have e0:(Z1z (Z45 p) a < 0∨Z1z (Z46 p) b > 0)↔(ltB (Z45 p) a∨ltB b (Z46 p)):=or_congr Z24 Z92
 have e1:Z1z (Z46 p) a≥0↔¬ltB (Z46 p) a:=by rw [← Z24]; omega
 have e2:Z1z (Z45 p) b≤0↔¬ltB b (Z45 p):=by rw [← Z92]; omega
 have e3:(Z1z (Z46 p) a≥0∧Z1z (Z45 p) b≤0)↔(¬ltB (Z46 p) a∧¬ltB b (Z45 p)):=and_congr e1 e2
 unfold Z3p
 split
 ·rename_i h
  refine ⟨fun h=>absurd h (by decide),fun h'=>?_⟩
  rcases e0.1 h with h | h
  ·exact absurd h (Z5Y h'.1 ZHk)
  ·exact absurd h (Z5Y ZHk h'.2)
 ·split
  ·exact ⟨fun _=>e3.1 ‹_›,fun _=>rfl⟩
  ·exact ⟨fun h=>absurd h (by decide),fun h=>absurd (e3.2 h) ‹_›⟩
theorem ZFO {a b p q:By} (h:(p++q).length≤64) (hq:Nib q) (hp:Z3p a b p≠0):Z3p a b (p++q)=Z3p a b p:=by
 have hc:Z3p a b p= -1∨Z3p a b p=1:=by
  unfold Z3p at hp ⊢
  split
  ·exact .inl rfl
  ·split
   ·exact .inr rfl
   ·rename_i h1 h2
    rw [if_neg h1,if_neg h2] at hp
    exact absurd rfl hp
 rcases hc with hc | hc
 ·rw [hc]
  rcases Z9D.1 hc with h1 | h1
  ·exact Z9D.2 (.inl (by
    rcases Z7V (Z45 (p++q)) (Z45 p) with h2 | h2 | h2
    ·exact Z32 h2 h1
    ·rw [h2]; exact h1
    ·exact absurd h2 (ZE5 h hq)))
  ·exact Z9D.2 (.inr (by
    rcases Z7V (Z46 p) (Z46 (p++q)) with h2 | h2 | h2
    ·exact Z32 h1 h2
    ·rw [← h2]; exact h1
    ·exact absurd h2 (ZEE h)))
 ·rw [hc]
  obtain ⟨h1,h2⟩:=ZED.1 hc
  exact ZED.2 ⟨Z5Y h1 (ZEE h),Z5Y (ZE5 h hq) h2⟩
def Off (a b p:By):Prop:=p.length > 64∨Z3p a b p≠0
instance (a b p:By):Decidable (Off a b p):=by unfold Off; infer_instance
theorem Off.far {a b p q:By} (h:Off a b p) (hq:Nib q):Off a b (p++q):=by
 by_cases hl:(p++q).length > 64
 ·exact .inl hl
 ·rcases h with h | h
  ·rw [List.length_append] at hl; omega
  ·exact .inr (by rw [ZFO (by omega) hq h]; exact h)
abbrev RS:=List (By×By)
section
variable {σ:Type}
def foldK (go:σ→It→By→σ×Option Int):σ→List (It×By)→σ×Option Int
 | s,[]=>(s,none)
 | s,y :: r=>match go s y.1 y.2 with
   | (s',none)=>foldK go s' r
   | (s',some e)=>(s',some e)
theorem Z57 {go go':σ→It→By→σ×Option Int}:∀{l:List (It×By)} {s:σ},(∀s,∀y∈l,go s y.1 y.2=go' s y.1 y.2)→foldK go s l=foldK go' s l
 | [],_,_=>rfl
 | y :: r,s,h=>by
   simp only [foldK,h s y (by simp)]
   split
   ·exact Z57 (fun s z hz=>h s z (by simp [hz]))
   ·rfl
theorem Z8Q {go:σ→It→By→σ×Option Int}:∀{l:List (It×By)} {s:σ},(∀s,∀y∈l,go s y.1 y.2=(s,none))→foldK go s l=(s,none)
 | [],_,_=>rfl
 | y :: r,s,h=>by
   simp only [foldK,h s y (by simp)]
   exact Z8Q (fun s z hz=>h s z (by simp [hz]))
theorem ZA9 {go:σ→It→By→σ×Option Int} {I:σ→Prop}:∀{l:List (It×By)} {s:σ},I s→(∀s,∀y∈l,I s→I (go s y.1 y.2).1)→I (foldK go s l).1
 | [],_,h,_=>h
 | y :: r,s,h,hf=>by
   have h1:=hf s y (by simp) h
   simp only [foldK]
   generalize go s y.1 y.2=q at h1
   obtain ⟨s',o⟩:=q
   cases o with
   | none=>exact ZA9 h1 (fun s z hz=>hf s z (by simp [hz]))
   | some e=>exact h1
def subsOf (xs:List It) (path:By):List (It×By) :=
 if xs.length=2 then (match Z1H (xs.getD 0 (.s [])) with
  | some (p,false)=>[(xs.getD 1 (.s []),path++p)]
  | _=>[])
 else (List.range 16).map fun j=>(xs.getD j (.s []),path++[UInt8.ofNat j])
def eachW (go:σ→It→By→σ×Option Int) (s:σ) (xs:List It) (path:By):σ×Option Int:=foldK go s (subsOf xs path)
end
def Z5A (go:RS→It→By→RS×Option Int) (l:RS) (s:RS) (h path:By):RS×Option Int :=
 match Z1G l h with
 | none=>(s,some 160)
 | some c=>if Z0R c≠0 then (s,some 161) else match Z4c c with
   | .ok (.l xs)=>eachW go (if met s h then s else s++[(h,c)]) xs path
   | _=>(s,some 161)
def visP (l:RS) (a b:By):Nat→RS→It→By→RS×Option Int
 | 0,s,_,_=>(s,none)
 | f+1,s,.l xs,path=>if Off a b path then (s,none) else eachW (visP l a b f) s xs path
 | f+1,s,.s h,path=>if Off a b path∨h=[] then (s,none) else Z5A (visP l a b f) l s h path
def visQ (l:RS) (a b:By):Nat→RS→It→By→RS×Option Int
 | 0,s,_,_=>(s,none)
 | f+1,s,.l xs,path=>if path.length > 64 then (s,none) else eachW (visQ l a b f) s xs path
 | f+1,s,.s h,path=>if Off a b path∨h=[] then (s,none) else Z5A (visQ l a b f) l s h path
theorem nib_one {j:Nat} (hj:j < 16):Nib [UInt8.ofNat j]:=by
 intro x hx
 obtain rfl:=List.mem_singleton.1 hx
 rw [UInt8.toNat_ofNat']; omega
theorem ZCW {x:It} {p:By} {lf:Bool} (h:Z1H x=some (p,lf)):Nib p:=by
 cases x with
 | l ys=>cases h
 | s b =>
   have h:Z1L b=some (p,lf):=h
   cases b with
   | nil=>cases h
   | cons a r =>
     simp only [Z1L] at h
     by_cases c1:65 < r.length+1∨3 < (a >>> 4).toNat
     ·rw [if_pos c1] at h; cases h
     ·rw [if_neg c1] at h
      by_cases c2:(a >>> 4).toNat % 2=0
      ·rw [if_pos c2] at h
       by_cases c3:(a &&& 15).toNat≠0
       ·rw [if_pos c3] at h; cases h
       ·rw [if_neg c3] at h; cases h; exact Z1B r
      ·rw [if_neg c2] at h
       by_cases c3:64≤r.length
       ·rw [if_pos c3] at h; cases h
       ·rw [if_neg c3] at h
        cases h
        intro x hx
        rcases List.mem_cons.1 hx with rfl | hx
        ·have:∀n:Fin 256,(UInt8.ofFin n &&& 15).toNat < 16:=by decide +kernel
         exact this a.toFin
        ·exact Z1B r x hx
theorem ZBt {x:It} {p:By} {lf:Bool} (h:Z1H x=some (p,lf)):p.length≤130:=by
 cases x with
 | l ys=>cases h
 | s b =>
   have h:Z1L b=some (p,lf):=h
   cases b with
   | nil=>cases h
   | cons a r =>
     simp only [Z1L] at h
     by_cases c1:65 < r.length+1∨3 < (a >>> 4).toNat
     ·rw [if_pos c1] at h; cases h
     ·rw [if_neg c1] at h
      have hn:=ZT r
      by_cases c2:(a >>> 4).toNat % 2=0
      ·rw [if_pos c2] at h
       by_cases c3:(a &&& 15).toNat≠0
       ·rw [if_pos c3] at h; cases h
       ·rw [if_neg c3] at h; cases h; omega
      ·rw [if_neg c2] at h
       by_cases c3:64≤r.length
       ·rw [if_pos c3] at h; cases h
       ·rw [if_neg c3] at h; cases h; rw [List.length_cons]; omega
theorem Z5s {xs:List It} {path:By} (hg:Z3D (.l xs)):∀y∈subsOf xs path,Z3D y.1∧∃q,y.2=path++q∧Nib q∧q≠[]∧q.length≤130:=by
 intro y hy
 unfold subsOf at hy
 by_cases h2:xs.length=2
 ·rw [if_pos h2] at hy
  obtain ⟨p,lf,he,h1,h3⟩:=hg.two h2
  rw [he] at hy
  cases lf with
  | true=>cases hy
  | false =>
    obtain rfl:=List.mem_singleton.1 hy
    obtain ⟨hp,hgy,_⟩:=h3 rfl
    exact ⟨hgy,p,rfl,ZCW he,hp,ZBt he⟩
 ·rw [if_neg h2] at hy
  obtain ⟨h17,_,hk⟩:=hg.many h2
  obtain ⟨j,hj,rfl⟩:=List.mem_map.1 hy
  exact ⟨hk j (List.mem_range.1 hj),_,rfl,nib_one (List.mem_range.1 hj),by simp,by simp⟩
theorem Z9W {l:RS} {a b:By}:∀{f:Nat} {s:RS} {x:It} {path:By},Z3D x→Off a b path→visQ l a b f s x path=(s,none)
 | 0,_,_,_,_,_=>rfl
 | f+1,s,.l xs,path,hg,ho=>by
   simp only [visQ]
   split
   ·rfl
   ·refine Z8Q (fun s y hy=>?_)
    obtain ⟨g,q,e,hq,_⟩:=Z5s hg y hy
    rw [e]
    exact Z9W g (ho.far hq)
 | f+1,s,.s h,path,_,ho=>by
   simp only [visQ]
   rw [if_pos (.inl ho)]
theorem ZCr {l:RS} {a b:By}:∀{f:Nat} {s:RS} {x:It} {path:By},Z3D x→visQ l a b f s x path=visP l a b f s x path
 | 0,_,_,_,_=>rfl
 | f+1,s,.l xs,path,hg=>by
   by_cases ho:Off a b path
   ·rw [Z9W hg ho]
    simp only [visP]
    rw [if_pos ho]
   ·simp only [visQ,visP]
    rw [if_neg ho,if_neg (fun h=>ho (.inl h))]
    exact Z57 (fun s y hy=>ZCr (Z5s hg y hy).1)
 | f+1,s,.s h,path,_=>by
   simp only [visQ,visP]
   split
   ·rfl
   ·unfold Z5A
    split
    ·rfl
    ·split
     ·rfl
     ·rename_i hc
      obtain ⟨xs,hd,_,hgx⟩:=Z2D (Decidable.not_not.1 hc)
      rw [hd]
      exact Z57 (fun s y hy=>ZCr (Z5s hgx y hy).1)
structure Z79 (l s:RS):Prop where
 nodup:(s.map Prod.fst).Nodup
 from_:∀x∈s,Z1G l x.1=some x.2
theorem Z5S:∀{l:RS} {h b:By},Z1G l h=some b→(h,b)∈l
 | [],_,_,e=>by cases e
 | x :: r,h,b,e=>by
   unfold Z1G at e
   split at e
   ·rename_i hx
    cases e
    rw [← hx]; exact List.mem_cons_self ..
   ·exact List.mem_cons_of_mem _ (Z5S e)
theorem ZAT {α:Type} [DecidableEq α]:∀{s l:List α},s.Nodup→(∀x∈s,x∈l)→s.length≤l.length
 | [],_,_,_=>Nat.zero_le _
 | x :: r,l,h,hm=>by
   rw [List.nodup_cons] at h
   have h1:=ZAT (l:=l.erase x) h.2 (fun y hy=>by
    rw [List.mem_erase_of_ne (fun e=>h.1 (by rw [← e]; exact hy))]
    exact hm y (by simp [hy]))
   rw [List.length_erase_of_mem (hm x (by simp))] at h1
   have:0 < l.length:=List.length_pos_of_mem (hm x (by simp))
   simp only [List.length_cons]
   omega
theorem Z79.len {l s:RS} (h:Z79 l s):s.length≤l.length:=by
 have:=ZAT (l:=l.map Prod.fst) h.nodup (fun x hx=>by
  obtain ⟨y,hy,rfl⟩:=List.mem_map.1 hx
  exact List.mem_map.2 ⟨_,Z5S (h.from_ y hy),rfl⟩)
 simpa using this
theorem Z79.nil (l:RS):Z79 l []:=⟨List.nodup_nil,fun x hx=>by cases hx⟩
theorem ZH1 {s:RS} {h:By} (hm:met s h=false):h ∉ s.map Prod.fst:=fun hc=>by
 obtain ⟨x,hx,e⟩:=List.mem_map.1 hc
 have:=List.any_eq_false.1 hm x hx
 simp [e] at this
theorem Z79.push {l s:RS} {h b:By} (H:Z79 l s) (hf:Z1G l h=some b) (hm:met s h=false):Z79 l (s++[(h,b)]):=by
 refine ⟨?_,fun x hx=>?_⟩
 ·rw [List.map_append,List.nodup_append]
  refine ⟨H.nodup,by simp,fun x hx y hy e=>?_⟩
  simp only [List.map_cons,List.map_nil,List.mem_singleton] at hy
  subst hy; subst e
  exact ZH1 hm hx
 ·rcases List.mem_append.1 hx with hx | hx
  ·exact H.from_ x hx
  ·obtain rfl:=List.mem_singleton.1 hx
   exact hf
theorem Z8L {l:RS} {go:RS→It→By→RS×Option Int} {s:RS} {xs:List It} {path:By} (h:Z79 l s) (hg:∀s y q,Z79 l s→Z79 l (go s y q).1):Z79 l (eachW go s xs path).1 :=
 ZA9 h (fun s y _ hs=>hg _ _ _ hs)
theorem ZD8 {l:RS} {go:RS→It→By→RS×Option Int} {s:RS} {h path:By} (H:Z79 l s) (hg:∀s y q,Z79 l s→Z79 l (go s y q).1):Z79 l (Z5A go l s h path).1:=by
 unfold Z5A
 split
 ·exact H
 ·split
  ·exact H
  ·split
   ·refine Z8L ?_ hg
    split
    ·exact H
    ·exact H.push ‹_› (Bool.not_eq_true _ ▸ ‹_›)
   ·exact H
theorem Z7v {l:RS} {a b:By}:∀{f:Nat} {s:RS} {x:It} {path:By},Z79 l s→Z79 l (visP l a b f s x path).1
 | 0,_,_,_,h=>h
 | f+1,s,.l xs,path,h=>by
   simp only [visP]
   split
   ·exact h
   ·exact Z8L h (fun s y q hs=>Z7v hs)
 | f+1,s,.s k,path,h=>by
   simp only [visP]
   split
   ·exact h
   ·exact ZD8 h (fun s y q hs=>Z7v hs)
def Z2l (l:RS) (root least most:By):RS×Int :=
 if l.length > 4096 then ([],162) else if Z1z most least < 0 then ([],164) else
 match visP l (nibbles least) (nibbles most) 66 [] (rootIt root) [] with
 | (s,none)=>(s,0)
 | (_,some e)=>([],e)
end Go.Proofs.YtfghidehlnfdiaaGreat
end
section
namespace Go.Proofs.YtfghidehlnfdiaaGreat
open Go Go.Vcg Go.Trie
theorem ZC5:∀(a b:By),Lib.compareBytes a b=Z1z a b
 | [],[]=>rfl
 | [],_ :: _=>rfl
 | _ :: _,[]=>rfl
 | a :: p,b :: q=>by
   simp only [Lib.compareBytes,Z1z]
   by_cases hab:a=b
   ·subst hab
    rw [if_neg (UInt8.lt_irrefl a),if_neg (UInt8.lt_irrefl a),if_pos rfl,ZC5]
   ·rw [if_neg hab]
    by_cases hlt:a < b
    ·rw [if_pos hlt,if_pos hlt]
    ·rw [if_neg hlt,if_neg hlt,if_pos (UInt8.lt_of_le_of_ne (UInt8.not_lt.1 hlt) (Ne.symm hab))]
theorem ZA8 {w:World} {o:Option Addr} {k:Nat} {a:By} (h:RdB w o a):(Extern.Bytes.bytesOf (.slice o a.length k)).run Tryz.prog w=.ok ⟨a.toArray⟩ w:=by
 cases o with
 | none =>
   have:a=[]:=by
    by_cases hne:a=[]
    ·exact hne
    ·obtain ⟨b,f,ho,_⟩:=h hne; cases ho
   subst this
   rfl
 | some d =>
   have hl:=Lib.run_loadBytesX (P:=Tryz.prog) w (a.map fun x=>(x.toNat:Int)) d .empty (fun j x hj=>by
    rw [List.getElem?_map,Option.map_eq_some_iff] at hj
    obtain ⟨y,hy,rfl⟩:=hj
    obtain ⟨hj,rfl⟩:=List.getElem?_eq_some_iff.1 hy
    obtain ⟨b,f,ho,hb,hc⟩:=h (by intro e; rw [e] at hj; simp at hj)
    cases ho
    rw [Z6,hc j hj]
    simp [List.getD_eq_getElem?_getD,hj])
   rw [List.length_map] at hl
   refine hl.trans ?_
   congr 1
   apply ByteArray.ext
   have:Lib.bytesOf (a.map fun x=>(x.toNat:Int))=a:=by
    unfold Lib.bytesOf
    rw [List.map_map]
    conv=>rhs; rw [← List.map_id a]
    refine List.map_congr_left (fun x _=>?_)
    simp
   rw [this]
   show (#[]:Array UInt8)++a.toArray=a.toArray
   simp
theorem ZHb:∃fn,Tryz.prog.funcs[96]?=some fn∧(fn.name == "runtime.NumGoroutine")=false∧fn.body.isNone=true∧Extern.findNext fn=none∧Extern.find fn=some Extern.BytealgCompare.compare :=
 ⟨Tryz.f96,Tryz.func96,by kernel_rfl,by kernel_rfl,by kernel_rfl,by kernel_rfl⟩
theorem Z23 {w:World} {o1 o2:Option Addr} {k1 k2:Nat} {a b:By} (h1:RdB w o1 a) (h2:RdB w o2 b) :
  Calls Tryz.prog Z18.n #[.slice o1 a.length k1,.slice o2 b.length k2] w (fun e w'=>e=.returned (.int .i64 (Z1z a b))∧w'=w):=by
 refine Z18.vc _ _ _ _ _ _ _ _ ?_
 unfold Z18.Vc
 obtain ⟨fn,f1,f2,f3,f4,f5⟩:=ZHb
 refine ⟨_,w,?_,Z1z a b,rfl,rfl,rfl⟩
 rw [run_callFunc_extern f1 f2 f3 f4 f5]
 change ((Sem.run Tryz.prog (do pure (goInt (Extern.BytealgCompare.cmp (← Extern.Bytes.bytesOf (.slice o1 a.length k1)) (← Extern.Bytes.bytesOf (.slice o2 b.length k2))))) w).andThen _)=_
 simp only [Sem.run_bind,ZA8 h1,ZA8 h2,Sem.run_pure,Result.andThen]
 rw [Lib.cmp_eq,ZC5]
 rfl
theorem ZFG:∃fn,Tryz.prog.funcs[98]?=some fn∧(fn.name == "runtime.NumGoroutine")=false∧fn.body.isNone=true∧Extern.findNext fn=none∧Extern.find fn=some (Extern.BytealgMakeNoZero.makeNoZero #[3] #[Z07]) :=
 ⟨Tryz.f98,Tryz.func98,by kernel_rfl,by kernel_rfl,by kernel_rfl,by kernel_rfl⟩
theorem ZDY {w:World} {n:Nat} (hn:n≤64) :
  Calls Tryz.prog Z1A.n #[.int .u64 1,.int .u64 (n:Int)] w (fun e w'=>e=.returned (.tuple #[.int .u64 0,.int .u64 (n:Int)])∧w'=w):=by
 refine Z1A.vc _ _ _ _ ?_
 unfold Z1A.Vc
 refine Z1R.vc _ _ _ _ ?_
 unfold Z1R.Vc
 have key:∀m:Fin 65,(IntKind.wrap .u64 ((IntKind.wrap .u64 ((IntKind.wrap .u64 ((Int.fdiv 1 4294967296) * (Int.fdiv (m.val:Int) 4294967296)))+(Int.fdiv (IntKind.wrap .u64 ((IntKind.wrap .u64 ((Int.fdiv 1 4294967296) * (bitsI .and .u64 (m.val:Int) 4294967295)))+(Int.fdiv (IntKind.wrap .u64 ((bitsI .and .u64 1 4294967295) * (bitsI .and .u64 (m.val:Int) 4294967295))) 4294967296))) 4294967296)))+(Int.fdiv (IntKind.wrap .u64 ((bitsI .and .u64 (IntKind.wrap .u64 ((IntKind.wrap .u64 ((Int.fdiv 1 4294967296) * (bitsI .and .u64 (m.val:Int) 4294967295)))+(Int.fdiv (IntKind.wrap .u64 ((bitsI .and .u64 1 4294967295) * (bitsI .and .u64 (m.val:Int) 4294967295))) 4294967296))) 4294967295)+(IntKind.wrap .u64 ((bitsI .and .u64 1 4294967295) * (Int.fdiv (m.val:Int) 4294967296))))) 4294967296)))=0∧IntKind.wrap .u64 (1 * (m.val:Int))=(m.val:Int):=by decide +kernel
 obtain ⟨k1,k2⟩:=key ⟨n,by omega⟩
 dsimp only at k1 k2
 rw [k1,k2]
 exact ⟨0,n,rfl,rfl,rfl⟩
theorem Z9h {w:World} {o:Option Addr} {k n:Nat} {x:UInt8} (hr:RdB w o [x]) (hn:n≤64) :
  Calls Tryz.prog Z1M.n #[.slice o 1 k,.int .i64 (n:Int)] w (fun e w'=>∃o' k',e=.returned (.slice o' n k')∧RdB w' o' (List.replicate n x)∧Vcg.Mod NoB w w'):=by
 refine ZH fun R hR=>Z1M.vc _ _ _ _ _ _ ?_
 unfold Z1M.Vc
 refine ⟨fun h0=>?_,fun h0=>?_⟩
 ·obtain rfl:n=0:=by omega
  rintro d w2 ⟨rfl,rfl⟩
  exact hR _ _ ⟨_,_,rfl,RdB.nil _ _,Mod.alloc _ _⟩
 ·have hw:∀m:Fin 65,IntKind.wrap .u64 (m.val:Int)=(m.val:Int)∧IntKind.wrap .i64 (m.val:Int)=(m.val:Int):=by decide +kernel
  obtain ⟨e1,e2⟩:=hw ⟨n,by omega⟩
  dsimp only at e1 e2
  refine ⟨fun w'=>w'=w,⟨fun h=>absurd h (by omega),fun _=>rfl⟩,?_⟩
  rintro _ w rfl
  rw [e1,show IntKind.wrap .u64 (((1:Nat):Int))=1 from by decide]
  refine (ZDY hn).mono ?_
  rintro _ w ⟨rfl,rfl⟩
  refine ⟨_,_,rfl,fun w'=>w'=w,⟨fun h=>absurd h (by decide),fun _=>⟨fun h=>absurd h (by omega),fun _=>rfl⟩⟩,?_⟩
  rintro _ w rfl
  rw [e2]
  refine ⟨fun h=>absurd h (by decide),fun _=>⟨fun m w'=>m=(n:Int)∧w'=w,⟨fun h=>absurd h (by omega),fun _=>⟨rfl,rfl⟩⟩,?_⟩⟩
  rintro _ _ w ⟨rfl,rfl⟩
  obtain ⟨fn,f1,f2,f3,f4,f5⟩:=ZFG
  obtain ⟨cs,hc,hcs,hcm⟩:=Lib.run_makeNoZero (P:=Tryz.prog) w #[3] Z07 5 Zt n (by omega)
  have M2:Vcg.Mod NoB w (w.drew.drew.alloc (.cells cs 5)):=((Mod.drew w).step_drew).step_alloc _
  have B2:Blk (w.drew.drew.alloc (.cells cs 5)) w.heap.size 5 cs:=Blk.new w.drew.drew 5 cs
  refine ⟨.slice (some ⟨w.heap.size,0,none⟩) n cs.size,w.drew.drew.alloc (.cells cs 5),by rw [run_callFunc_extern f1 f2 f3 f4 f5,hc]; rfl,_,_,_,rfl,?_⟩
  generalize hD:w.heap.size=D at *
  generalize w.drew.drew.alloc (.cells cs 5)=w2 at *
  obtain ⟨iu,hiu,_⟩:=Z2G Z6A
  refine ⟨_,Z8m Zt hiu w2 hcs,_,_,_,rfl,?_⟩
  obtain ⟨w3,hr3,B3,Q3⟩:=Z4b (P:=Tryz.prog) (t:=23) (tx:=23) (ty:=3) (dLen:=n) (dCap:=n) (n:=1) (o:=0) (c:=k) Zt Z16 B2 (hr.mod' M2) (by show 1=Nat.min 1 n; exact (Nat.min_eq_left (by omega)).symm) (by omega)
  refine ⟨_,w3,hr3,_,rfl,?_⟩
  have M3:=ZM M2 Q3 (by omega)
  have hs0:(setsAt cs 0 (([x]:By).take 1 |>.map bV)).size=cs.size:=Zb _ _ _
  have hg0:∀i,i < 1→(setsAt cs 0 (([x]:By).take 1 |>.map bV))[i]?=some (bV x):=fun i hi=>by
   obtain rfl:i=0:=by omega
   rw [Z03 _ _ _ _ (by simp; omega),if_pos (by simp)]
   rfl
  generalize setsAt cs 0 (([x]:By).take 1 |>.map bV)=cur0 at *
  refine ⟨fun m w'=>∃(j:Nat) (cur:Array Value),m=(j:Int)∧1≤j∧j≤n∧Vcg.Mod NoB w w'∧Blk w' D 5 cur∧cur.size=cs.size∧∀i,i < j→cur[i]?=some (bV x),fun m _=>((n:Int) - m).toNat,⟨1,cur0,rfl,Nat.le_refl _,by omega,M3,B3,hs0,hg0⟩,?_⟩
  rintro _ _ w4 ⟨j,cur,rfl,hj1,hjn,M4,B4,hs4,hg4⟩
  have rd:∀(w':World) (cur:Array Value) (q:Nat),Blk w' D 5 cur→(∀i,i < q→cur[i]?=some (bV x))→RdB w' (some ⟨D,0,none⟩) (List.replicate q x):=fun w' cur q B hg=>RdB.of_blk B (fun i hi=>by
   rw [List.length_replicate] at hi
   rw [Nat.zero_add,hg i hi]
   simp [List.getD_eq_getElem?_getD,hi])
  refine ⟨fun hlt=>?_,fun hge=>?_⟩
  ·rintro _ rfl
   have B5:=B4.drew
   have M5:=M4.step_drew
   have hmin:min (j:Int) (n:Int)=((j:Nat):Int):=by omega
   rw [hmin]
   refine ⟨⟨by omega,by omega⟩,⟨by omega,by omega⟩,?_⟩
   have hsub:subO (some ⟨D,0,none⟩) n (Int.toNat (j:Int)) 1=some ⟨D,j,none⟩:=by
    rw [Int.toNat_natCast]
    unfold subO
    rw [if_neg (by omega)]
    simp only [Option.map_some,Nat.mul_one]
    rw [Z6,Nat.zero_add]
   rw [hsub,Int.toNat_natCast]
   have hcl:(List.replicate j x).length=j:=List.length_replicate
   obtain ⟨w6,hr6,B6,Q6⟩:=Z4b (P:=Tryz.prog) (t:=23) (tx:=23) (ty:=3) (g:=D) (dLen:=n - j) (dCap:=n - j) (n:=min j (n - j)) (o:=j) (c:=n) Zt Z16 B5 (rd _ cur j B5 hg4) (by rw [hcl]) (by omega)
   rw [hcl] at hr6
   refine ⟨_,w6,hr6,_,rfl,?_⟩
   have ew:IntKind.wrap .i64 ((j:Int)+((min j (n - j):Nat):Int))=((j+min j (n - j):Nat):Int):=by rw [Z0 (by omega) (by omega)]; omega
   rw [ew]
   refine ⟨⟨j+min j (n - j),_,rfl,by omega,by omega,ZM M5 Q6 (by omega),B6,by rw [Zb]; exact hs4,fun i hi=>?_⟩,by dsimp only; omega⟩
   have htl:(((List.replicate j x).take (min j (n - j))).map bV).length=min j (n - j):=by rw [List.length_map,List.length_take,hcl]; omega
   rw [Z03 _ _ _ _ (by rw [htl]; omega),htl]
   by_cases hij:i < j
   ·rw [if_neg (by omega)]; exact hg4 i hij
   ·rw [if_pos (by omega),List.getElem?_map,List.getElem?_take,if_pos (by omega),List.getElem?_replicate,if_pos (by omega)]
    rfl
  ·obtain rfl:j=n:=by omega
   exact hR _ _ ⟨_,_,rfl,rd _ cur j B4 hg4,M4⟩
theorem Z4e {w:World} {o o2:Option Addr} {k k2:Nat} {p q:By} (hp:RdB w o p) (hq:RdB w o2 q) (hl:p.length+q.length≤2 ^ 30) :
  Calls Tryz.prog Z2J.n #[.slice o p.length k,.slice o2 q.length k2] w (fun e w'=>∃o' k',e=.returned (.slice o' (p++q).length k')∧ZW w w' tU8 1 o' (p++q).length k' ((p++q).map bV)):=by
 refine Z2J.vc _ _ _ _ _ _ _ _ ?_
 unfold Z2J.Vc
 refine (Z2C hp (by omega)).mono ?_
 rintro _ w1 ⟨o1,k1,rfl,F1⟩
 obtain ⟨o3,k3,w3,hr3,F3⟩:=Za (ty:=Z07) (k2:=k2) F1 (hq.mod' F1.mod) (by omega)
 rw [← List.length_append] at hr3 F3
 exact ⟨_,_,_,rfl,_,_,hr3,_,_,_,rfl,_,_,rfl,F3⟩
end Go.Proofs.YtfghidehlnfdiaaGreat
end
