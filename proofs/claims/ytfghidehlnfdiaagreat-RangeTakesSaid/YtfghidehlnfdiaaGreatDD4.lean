/- Unpacking a path, both ways. -/
/- The verification conditions of some functions, printed by a program of ours (wip/PrintVc.lean). -/
/- Contracts: the head of an item (rlp.reads). -/
/- Contracts: rlp's decoder. -/
/- Contracts: rlp.First, rlp.Decode. -/
import Derived.Test.YtfghidehlnfdiaaGreatTVP
import Derived.Test.YtfghidehlnfdiaaGreatProg
import Derived.KernelRfl
import Derived.Test.YtfghidehlnfdiaaGreatTP16
set_option linter.unusedVariables false
set_option linter.unusedSimpArgs false
open BitVec renaming ofNat->JR,toNat_ofNat->JH
open Bool renaming eq_iff_iff->JO,false->V,true->JG
open Except renaming error->JJ
open Go renaming Calls->J8,Ending->JM,World->P
open Go.Addr renaming add->J0
open Go.Ending renaming returned->Q
open Go.IntKind renaming i64->J,u64->JQ,wrap->Z
open Go.Obj renaming cells->L
open Go.Proofs.Tryz renaming prog->C
open Go.Value renaming agg->J7,bool->G,pointer->J3,tuple->T
open Go.World renaming cell?->J5
open Int renaming toNat->J6,toNat_natCast->JD
open List renaming eq_nil_of_length_eq_zero->J2,getD_eq_getElem?_getD->JI,getElem?_append_left->JB,getElem?_append_right->J9,length_append->JC,length_cons->U,length_drop->J1,length_singleton->JE,length_take->JK
open Nat renaming le_refl->JF,mod_eq_of_lt->JN,sub_self->JS,zero_add->JA
open Option renaming none->O,some->I
open Or renaming inl->JL,inr->JP
open UInt8 renaming ofFin->J4
section
namespace Go.Proofs.YtfghidehlnfdiaaGreat
open Go Go.Vcg Go.Trie
def Z1p:By->Option (By×Bool)
 |[]=>O
 |a::r =>
  if 65<r.length+1\/3<(a>>>4).toNat then O
  else if(a>>>4).toNat%2=0 then(if(a&&&15).toNat≠0 then O else I (nibbles r,decide ((a>>>4).toNat>1)))
  else if 64<=r.length then O else I ((a&&&15)::nibbles r,decide ((a>>>4).toNat>1))
theorem Z4w:∀(r:By),Z4v (nibbles r)=r
 |[]=>rfl
 |a::r=>by
  rw[Z0U];simp only[Z4v];rw[Z8Z,Z4w r]
theorem ZGv{p:By}(h:Nib p):Z3v p↔128<p.length:=by
 unfold Z3v;constructor
 ·rintro(h1|⟨x,hx,h1⟩)
  ·exact h1
  ·have:=h x hx
   have h2:=UInt8.le_iff_toNat_le.1 h1;simp at h2;omega
 ·exact JL
theorem ZBE{a:UInt8}{r:By}(h3:¬3<(a>>>4).toNat)(ho:(a>>>4).toNat%2≠0):(Z8a ((a&&&15)::nibbles r) (decide ((a>>>4).toNat>1)))=if 64<=r.length then([],140)else(a::r,0):=by
 have hn:Nib ((a&&&15)::nibbles r):=fun x hx=>Zs (a::r) x (by rw[Z0U];exact List.mem_cons_of_mem _ hx);unfold Z8a;have hl:((a&&&15)::nibbles r).length=1+2*r.length:=by rw[U,ZQ];omega
 rw[show(if Z3v _ then((([]:By),(140:Int)))else _)=_ from ite_congr (propext (ZGv hn)) (fun _=>rfl) (fun _=>rfl),hl];by_cases h:64<=r.length
 ·rw[if_pos (by omega),if_pos h]
 ·rw[if_neg (by omega),if_neg h]
  unfold headed;rw[if_pos (by omega)];simp only[Z4v];rw[Z4w]
  have:Z2F (decide ((a>>>4).toNat>1))+(1:UInt8)=a>>>4:=by
   have:∀n:Fin 256,¬3<(J4 n>>>4).toNat->(J4 n>>>4).toNat%2≠0->Z2F (decide ((J4 n>>>4).toNat>1))+(1:UInt8)=J4 n>>>4:=by decide +kernel
   exact this a.toFin h3 ho
  rw[this,Z8Z]
theorem Z9M{a:UInt8}{r:By}(h3:¬3<(a>>>4).toNat)(he:(a>>>4).toNat%2=0):(Z8a (nibbles r) (decide ((a>>>4).toNat>1)))=if 64<r.length then([],(140:Int))else((a>>>4)<<<4::r,(0:Int)):=by
 have hn:Nib (nibbles r):=Zs r;unfold Z8a;have hl:(nibbles r).length=2*r.length:=by rw[ZQ]
 rw[show(if Z3v _ then((([]:By),(140:Int)))else _)=_ from ite_congr (propext (ZGv hn)) (fun _=>rfl) (fun _=>rfl),hl];by_cases h:64<r.length
 ·rw[if_pos (by omega),if_pos h]
 ·rw[if_neg (by omega),if_neg h]
  unfold headed;rw[if_neg (by omega)];simp only[Z4v];rw[Z4w]
  have:Z2F (decide ((a>>>4).toNat>1))=a>>>4:=by
   have:∀n:Fin 256,¬3<(J4 n>>>4).toNat->(J4 n>>>4).toNat%2=0->Z2F (decide ((J4 n>>>4).toNat>1))=J4 n>>>4:=by decide +kernel
   exact this a.toFin h3 he
  rw[this];congr 2;exact UInt8.or_zero
theorem ZEZ(a:UInt8):(a>>>4)<<<4=a↔(a&&&15).toNat=0:=by
 have:∀n:Fin 256,((J4 n>>>4)<<<4=J4 n↔(J4 n&&&15).toNat=0):=by decide +kernel
 exact this a.toFin
theorem ZBT(h:Nat):Int.tmod (h:Int) 2=((h%2:Nat):Int):=(Int.ofNat_tmod h 2).symm
def upk(b:By):By×Bool×Int:=match Z1p b with
 |none=>([],V,143)
 |some (p,l)=>(p,l,0)
section
variable{w:P}{o:Option Addr}{k:Nat}{bs:By}
theorem ZCG{a:UInt8}{r:By}(h:RdB w o (a::r)):∃d,o=I d/\w.cell? (J0 d 0)=I (.int .u8 (a.toNat:Int)):=by
 obtain⟨b,f,rfl,hb,hc⟩:=h (by simp);exact⟨_,rfl,by rw[Z3];exact hc 0 (by simp)⟩
theorem Z8g{o:Option Addr}{c n N:Nat}(h:∀k,OB o k->N<=k):∀d,subO o c n 1=I d->N<=d.block:=by
 intro d hd;unfold subO at hd;split at hd
 ·exact h _ ⟨d,hd,rfl⟩
 ·cases o with
  |none=>simp at hd
  |some a =>
   simp only[Option.map_some,Option.some.injEq]at hd;rw[<-hd]
   have e:(a.add (n*1)).block=a.block:=by
    obtain⟨b,f,s⟩:=a;simp only[J0];split<;>rfl
   rw[e];exact h a.block ⟨a,rfl,rfl⟩
theorem Z7H{c n:Nat}(h:RdB w o bs)(hl:bs.length<=c):RdB w (subO o c n 1) (bs.drop n):=by
 have:=h.sub (c:=c) (lo:=n) (n:=bs.length) hl
 rwa[List.take_of_length_le (by simp)]at this
theorem Z7x(hr:RdB w o bs)(hl:bs.length<=2^20) :
  J8 C Z32.n #[.slice o bs.length k] w (fun e w'=>∃o' k',e=Q (T #[.slice o' (upk bs).1.length k',G (upk bs).2.1,.int J (upk bs).2.2])/\Vcg.Mod NoB w w'/\RdB w' o' (upk bs).1/\∀d,o'=I d->w.heap.size<=d.block):=by
 refine ZD fun R hR=>Z32.vc _ _ _ _ _ ?_;unfold Z32.Vc;refine(Z26 hr (by omega)).mono ?_;rintro _ w1⟨o1,k1,rfl,F⟩
 have bad:∀w',Z1p bs=O->Vcg.Mod NoB w w'->R (Q (T #[.slice O 0 0,G V,.int J 143])) w':=fun w' h M=>by
  refine hR _ _ ⟨O,0,?_,M,?_,fun d h=>by cases h⟩
  ·unfold upk;rw[h];rfl
  ·unfold upk;rw[h];exact RdB.nil _ _
 refine⟨_,_,_,rfl,fun h0=>?_,fun h0=>?_⟩
 ·refine bad _ ?_ F.mod
  have:bs=[]:=J2 (by rw[ZQ]at h0;omega);rw[this];rfl
 ·cases bs with
  |nil=>simp[ZQ]at h0
  |cons a r =>
   have hR1:=F.own.bytes;rw[Z0U]at hR1;obtain⟨d,rfl,hc⟩:=ZCG hR1;have hlen:(nibbles (a::r)).length=2*(r.length+1):=by rw[ZQ,U]
   have hcap:=F.own.cap.1;rw[hlen]at *
   refine⟨_,rfl,⟨by omega,by omega⟩,_,hc,fun h3=>bad _ ?_ F.mod,fun h3=>⟨fun h65=>bad _ ?_ F.mod,fun h65=>?_⟩⟩
   ·simp only[Z1p];rw[if_pos (JP (by omega))]
   ·simp only[Z1p];rw[if_pos (JL (by omega))]
   refine⟨_,rfl,⟨by omega,by omega⟩,_,hc,by omega,?_⟩;have hn3:¬3<(a>>>4).toNat:=by omega
   have edec:decide (((a>>>4).toNat:Int)>1)=decide ((a>>>4).toNat>1):=by rw[JO,decide_eq_true_eq,decide_eq_true_eq];omega
   rw[edec]
   let path:By:=if(a>>>4).toNat%2=0 then nibbles r else(a&&&15)::nibbles r
   have hpl:path.length<=2^30:=by
    simp only[path];simp only[U]at hl;split
    ·rw[ZQ];omega
    ·rw[U,ZQ];omega
   refine⟨fun o' n' c' w'=>w'=w1/\n'=path.length/\RdB w1 o' path/\∀d,o'=I d->w.heap.size<=d.block,?_,?_⟩
   ·refine⟨_,rfl,⟨by omega,by omega⟩,_,hc,fun he=>?_,fun he=>?_⟩
    ·rw[ZBT]at he
     have he':(a>>>4).toNat%2=0:=by omega
     refine⟨by omega,rfl,?_,?_,Z8g F.new⟩
     ·simp only[path,if_pos he',ZQ];omega
     ·simp only[path,if_pos he']
      exact Z7H (n:=2) hR1 (by simp only[U,ZQ];omega)
    ·rw[ZBT]at he
     have he':¬(a>>>4).toNat%2=0:=by omega
     refine⟨rfl,?_,?_,Z8g F.new⟩
     ·simp only[path,if_neg he',U,ZQ];omega
     ·simp only[path,if_neg he']
      exact Z7H (n:=1) hR1 (by simp only[U,ZQ];omega)
   ·rintro o3 _ c3 _ w1⟨rfl,rfl,h3,hnew⟩
    refine(Z5l (k:=c3) h3 hpl _).mono ?_;rintro _ w2⟨o4,k4,rfl,F4⟩;have M02:=F.mod.trans F4.mod (fun _ _ h=>h);refine⟨_,_,_,_,rfl,fun hn=>bad _ ?_ M02,fun hz=>?_⟩
    ·simp only[path]at hn
     simp only[Z1p];rw[if_neg (by omega)];by_cases he:(a>>>4).toNat%2=0
     ·rw[if_pos he,Z9M hn3 he,if_neg (by omega)]at hn
      exact(hn rfl).elim
     ·rw[if_neg he,ZBE hn3 he]at hn
      rw[if_neg he];by_cases h64:64<=r.length
      ·rw[if_pos h64]
      ·rw[if_neg h64]at hn;exact(hn rfl).elim
    ·have hq:=(Z2q (k1:=k4) (k2:=k) F4.own.bytes (hr.mod' M02))
     refine hq.mono ?_;rintro _ w2⟨rfl,rfl⟩;refine⟨_,rfl,fun hf=>bad _ ?_ M02,fun ht=>?_⟩
     ·have hf:=of_decide_eq_false hf
      simp only[path]at hf hz;simp only[Z1p];rw[if_neg (by omega)];by_cases he:(a>>>4).toNat%2=0
      ·rw[if_pos he,Z9M hn3 he,if_neg (by omega)]at hf
       rw[if_pos he,if_pos (fun h=>hf ?_)];show(a>>>4)<<<4::r=a::r;rw[(ZEZ a).2 h]
      ·rw[if_neg he,ZBE hn3 he]at hf hz
       by_cases h64:64<=r.length
       ·rw[if_pos h64]at hz;exact absurd hz (by decide)
       ·rw[if_neg h64]at hf;exact(hf rfl).elim
     ·have ht:=of_decide_eq_true ht
      have hu:Z1p (a::r)=I (path,decide ((a>>>4).toNat>1)):=by
       simp only[path]at ht hz ⊢;simp only[Z1p];rw[if_neg (by omega)];by_cases he:(a>>>4).toNat%2=0
       ·rw[if_pos he,Z9M hn3 he,if_neg (by omega)]at ht
        simp only[List.cons.injEq,and_true]at ht;rw[if_pos he,if_neg (fun h=>h ((ZEZ a).1 ht)),if_pos he]
       ·rw[if_neg he,ZBE hn3 he]at hz
        rw[if_neg he];by_cases h64:64<=r.length
        ·rw[if_pos h64]at hz;exact absurd hz (by decide)
        ·rw[if_neg h64,if_neg he]
      refine hR _ _ ⟨o3,c3,?_,M02,?_,hnew⟩
      ·unfold upk;rw[hu]
      ·unfold upk;rw[hu];exact h3.mod' F4.mod
theorem Z75(hr:RdB w o bs)(hl:bs.length<=2^20) :
  J8 C Z0H.n #[.slice o bs.length k] w (fun e w'=>∃o' k',e=Q (T #[.slice o' (upk bs).1.length k',G (upk bs).2.1,.int J (upk bs).2.2])/\Vcg.Mod NoB w w'/\RdB w' o' (upk bs).1/\∀d,o'=I d->w.heap.size<=d.block):=by
 refine ZD fun R hR=>Z0H.vc _ _ _ _ _ ?_;unfold Z0H.Vc
 have bad:∀w',Z1p bs=O->Vcg.Mod NoB w w'->R (Q (T #[.slice O 0 0,G V,.int J 143])) w':=fun w' h M=>by
  refine hR _ _ ⟨O,0,?_,M,?_,fun d h=>by cases h⟩
  ·unfold upk;rw[h];rfl
  ·unfold upk;rw[h];exact RdB.nil _ _
 refine⟨fun h0=>?_,fun h0=>⟨fun h65=>?_,fun h65=>?_⟩⟩
 ·refine bad _ ?_ (Mod.refl w)
  have:bs=[]:=J2 (by omega);rw[this];rfl
 ·cases bs with
  |nil=>simp at h0
  |cons a r =>
   simp only[U]at h65;refine bad _ ?_ (Mod.refl w);simp only[Z1p];rw[if_pos (JL (by omega))]
 ·refine(Z1G hr (by omega)).mono ?_
  rintro _ w1⟨o1,k1,rfl,F⟩;cases bs with
  |nil=>simp at h0
  |cons a r =>
   simp only[U]at h65;have hR1:=F.own.bytes;rw[Z0U]at hR1;have hlen:(nibbles (a::r)).length=2*(r.length+1):=by rw[ZQ,U]
   have hcap:2*(r.length+1)<=k1:=by have:=F.own.cap.1;rwa[hlen]at this
   rw[hlen];obtain⟨b,f,rfl,hb,hcs⟩:=hR1 (by simp);have c0:=hcs 0 (by simp);have c1:=hcs 1 (by simp);refine⟨_,_,_,rfl,_,rfl,⟨by omega,by omega⟩,((a>>>4).toNat:Int),by rw[Z3];exact c0,fun h3=>bad _ ?_ F.mod,fun h3=>?_⟩
   ·simp only[Z1p];rw[if_pos (JP (by omega))]
   ·rw[ZBT]
    have hn3:¬3<(a>>>4).toNat:=by omega
    have edec:decide (((a>>>4).toNat:Int)>1)=decide ((a>>>4).toNat>1):=by rw[JO,decide_eq_true_eq,decide_eq_true_eq];omega
    rw[edec];refine⟨fun he=>?_,fun he=>?_⟩
    ·have he':(a>>>4).toNat%2=0:=by omega
     refine⟨_,rfl,⟨by omega,by omega⟩,((a&&&15).toNat:Int),by rw[Z3];exact c1,fun hn=>bad _ ?_ F.mod,fun hz=>?_⟩
     ·simp only[Z1p]
      rw[if_neg (by omega),if_pos he',if_pos (by omega)]
     ·have ew:Z .u8 ((2:Int)-(((a>>>4).toNat%2:Nat):Int))=2:=by rw[he'];decide
      rw[ew]
      have hu:Z1p (a::r)=I (nibbles r,decide ((a>>>4).toNat>1)):=by
       simp only[Z1p];rw[if_neg (by omega),if_pos he',if_neg (by omega)]
      refine⟨⟨by omega,by omega⟩,fun h=>absurd h (by simp only[show J6 2=2 from rfl];omega),fun h=>hR _ _ ⟨subO (I ⟨b,f,O⟩) k1 2 1,k1-2,?_,F.mod,?_,?_⟩⟩
      ·unfold upk;rw[hu]
       simp only[show J6 2=2 from rfl,ZQ];rw[show 2*(r.length+1)-2=2*r.length by omega]
      ·unfold upk;rw[hu]
       exact Z7H (n:=2) hR1 (by simp only[U,ZQ];omega)
      ·exact Z8g F.new
    ·have he':(a>>>4).toNat%2=1:=by omega
     have ew:Z .u8 ((2:Int)-(((a>>>4).toNat%2:Nat):Int))=1:=by rw[he'];decide
     rw[ew];refine⟨⟨by omega,by omega⟩,fun h=>bad _ ?_ F.mod,fun h=>?_⟩
     ·simp only[show J6 1=1 from rfl]at h
      simp only[Z1p];rw[if_neg (by omega),if_neg (by omega),if_pos (by omega)]
     ·simp only[show J6 1=1 from rfl]at h ⊢
      have hu:Z1p (a::r)=I ((a&&&15)::nibbles r,decide ((a>>>4).toNat>1)):=by
       simp only[Z1p];rw[if_neg (by omega),if_neg (by omega),if_neg (by omega)]
      refine hR _ _ ⟨subO (I ⟨b,f,O⟩) k1 1 1,k1-1,?_,F.mod,?_,?_⟩
      ·unfold upk;rw[hu]
       simp only[U,ZQ];rw[show 2*(r.length+1)-1=2*r.length+1 by omega]
      ·unfold upk;rw[hu]
       exact Z7H (n:=1) hR1 (by simp only[U,ZQ];omega)
      ·exact Z8g F.new
end
end Go.Proofs.YtfghidehlnfdiaaGreat
end
section
namespace Go.Proofs.YtfghidehlnfdiaaGreat
open Go Go.Vcg
abbrev Z3f.n:Nat:=102
def Z3f.Vc(a:Option Addr)(b c:Nat)(w:P)(R:JM->P->Prop):Prop :=
 ∀d e,ZC w 111 #[G V,.slice O 0 0,.slice O 0 0] d e ->
 J8 C 122 #[.slice a b c] e (fun a c =>
 ∃e f g h i j k l m,a=Q (T #[J7 #[G e,.slice f g h,.slice i j k],.int J l,.int J m]) /\
 ∀a n,ZC c 111 #[G V,.slice O 0 0,.slice O 0 0] a n ->
 Z1 n a (G e)/\∀c,ZA n a (G e) c ->
 Z1 c (a.add 1) (.slice f g h)/\∀e,ZA c (a.add 1) (.slice f g h) e ->
 Z1 e (a.add 2) (.slice i j k)/\∀c,ZA e (a.add 2) (.slice i j k) c ->
 ((m≠0 ->
 Z1 c d (G V)/\∀e,ZA c d (G V) e ->
 Z1 e (d.add 1) (.slice O 0 0)/\∀f,ZA e (d.add 1) (.slice O 0 0) f ->
 Z1 f (d.add 2) (.slice O 0 0)/\∀e,ZA f (d.add 2) (.slice O 0 0) e ->
 ∃f g h i j k n,e.cell? d=I (G f) /\
 e.cell? (d.add 1)=I (.slice g h i) /\
 e.cell? (d.add 2)=I (.slice j k n) /\
 R (Q (T #[J7 #[G f,.slice g h i,.slice j k n],.int J m])) e) /\
 (m=0 ->
 ((l<(b:Int) ->
 Z1 c d (G V)/\∀e,ZA c d (G V) e ->
 Z1 e (d.add 1) (.slice O 0 0)/\∀f,ZA e (d.add 1) (.slice O 0 0) f ->
 Z1 f (d.add 2) (.slice O 0 0)/\∀e,ZA f (d.add 2) (.slice O 0 0) e ->
 ∃f g h i j k m,e.cell? d=I (G f) /\
 e.cell? (d.add 1)=I (.slice g h i) /\
 e.cell? (d.add 2)=I (.slice j k m) /\
 R (Q (T #[J7 #[G f,.slice g h i,.slice j k m],.int J 42])) e) /\
 (¬l<(b:Int) ->
 ∃b e f g h i j,c.cell? a=I (G b) /\
 c.cell? (a.add 1)=I (.slice e f g) /\
 c.cell? (a.add 2)=I (.slice h i j) /\
 Z1 c d (G b)/\∀a,ZA c d (G b) a ->
 Z1 a (d.add 1) (.slice e f g)/\∀b,ZA a (d.add 1) (.slice e f g) b ->
 Z1 b (d.add 2) (.slice h i j)/\∀a,ZA b (d.add 2) (.slice h i j) a ->
 ∃b c e f g h i,a.cell? d=I (G b) /\
 a.cell? (d.add 1)=I (.slice c e f) /\
 a.cell? (d.add 2)=I (.slice g h i) /\
 R (Q (T #[J7 #[G b,.slice c e f,.slice g h i],.int J 0])) a)))))
theorem Z3f.vc(a b c w R)(h:Z3f.Vc a b c w R):J8 C 102 #[(.slice a b c)] w R:=xs [] [.slice a b c] Tryz.func102 ZL (by kernel_rfl) h
abbrev Z4X.n:Nat:=122
def Z4X.Vc(a:Option Addr)(b c:Nat)(w:P)(R:JM->P->Prop):Prop :=
 ∀d e,ZC w 111 #[G V,.slice O 0 0,.slice O 0 0] d e ->
 (((b:Int)>65536 ->
 Z1 e d (G V)/\∀f,ZA e d (G V) f ->
 Z1 f (d.add 1) (.slice O 0 0)/\∀g,ZA f (d.add 1) (.slice O 0 0) g ->
 Z1 g (d.add 2) (.slice O 0 0)/\∀f,ZA g (d.add 2) (.slice O 0 0) f ->
 ∃g h i j k l m,f.cell? d=I (G g) /\
 f.cell? (d.add 1)=I (.slice h i j) /\
 f.cell? (d.add 2)=I (.slice k l m) /\
 R (Q (T #[J7 #[G g,.slice h i j,.slice k l m],.int J 0,.int J 44])) f) /\
 (¬(b:Int)>65536 ->
 ∀f g,ZC e 217 #[.int J 0] f g ->
 J8 C 136 #[J3 (I f),.slice a b c,.int J 1] g (fun a b =>
 ∃c e f g h i j k l,a=Q (T #[J7 #[G c,.slice e f g,.slice h i j],.int J k,.int J l]) /\
 Z1 b d (G c)/\∀a,ZA b d (G c) a ->
 Z1 a (d.add 1) (.slice e f g)/\∀b,ZA a (d.add 1) (.slice e f g) b ->
 Z1 b (d.add 2) (.slice h i j)/\∀a,ZA b (d.add 2) (.slice h i j) a ->
 ∃b c e f g h i,a.cell? d=I (G b) /\
 a.cell? (d.add 1)=I (.slice c e f) /\
 a.cell? (d.add 2)=I (.slice g h i) /\
 R (Q (T #[J7 #[G b,.slice c e f,.slice g h i],.int J k,.int J l])) a)))
theorem Z4X.vc(a b c w R)(h:Z4X.Vc a b c w R):J8 C 122 #[(.slice a b c)] w R:=xs [] [.slice a b c] Tryz.func122 ZL (by kernel_rfl) h
abbrev Z1A.n:Nat:=136
def Z1A.Vc(a:Addr)(b:Option Addr)(c d:Nat)(e:Int)(w:P)(R:JM->P->Prop):Prop :=
 ∀f g,ZC w 111 #[G V,.slice O 0 0,.slice O 0 0] f g ->
 (((c:Int)=0 ->
 Z1 g f (G V)/\∀h,ZA g f (G V) h ->
 Z1 h (f.add 1) (.slice O 0 0)/\∀i,ZA h (f.add 1) (.slice O 0 0) i ->
 Z1 i (f.add 2) (.slice O 0 0)/\∀h,ZA i (f.add 2) (.slice O 0 0) h ->
 ∃i j k l m n o,h.cell? f=I (G i) /\
 h.cell? (f.add 1)=I (.slice j k l) /\
 h.cell? (f.add 2)=I (.slice m n o) /\
 R (Q (T #[J7 #[G i,.slice j k l,.slice m n o],.int J 0,.int J 41])) h) /\
 ((c:Int)≠0 ->
 J8 C 148 #[J3 (I a),.int J e] g (fun g h =>
 ∃i,g=Q (.int J i) /\
 ((i≠0 ->
 Z1 h f (G V)/\∀g,ZA h f (G V) g ->
 Z1 g (f.add 1) (.slice O 0 0)/\∀j,ZA g (f.add 1) (.slice O 0 0) j ->
 Z1 j (f.add 2) (.slice O 0 0)/\∀g,ZA j (f.add 2) (.slice O 0 0) g ->
 ∃j k l m n o p,g.cell? f=I (G j) /\
 g.cell? (f.add 1)=I (.slice k l m) /\
 g.cell? (f.add 2)=I (.slice n o p) /\
 R (Q (T #[J7 #[G j,.slice k l m,.slice n o p],.int J 0,.int J i])) g) /\
 (i=0 ->
 J8 C 149 #[.slice b c d] h (fun g h =>
 ∃i j k l m n,g=Q (T #[J7 #[G i,.int J j,.int J k,G l,G m],.int J n]) /\
 ∀g o,ZC h 237 #[G V,.int J 0,.int J 0,G V,G V] g o ->
 Z1 o g (G i)/\∀h,ZA o g (G i) h ->
 Z1 h (g.add 1) (.int J j)/\∀i,ZA h (g.add 1) (.int J j) i ->
 Z1 i (g.add 2) (.int J k)/\∀h,ZA i (g.add 2) (.int J k) h ->
 Z1 h (g.add 3) (G l)/\∀i,ZA h (g.add 3) (G l) i ->
 Z1 i (g.add 4) (G m)/\∀h,ZA i (g.add 4) (G m) h ->
 ((n≠0 ->
 Z1 h f (G V)/\∀i,ZA h f (G V) i ->
 Z1 i (f.add 1) (.slice O 0 0)/\∀j,ZA i (f.add 1) (.slice O 0 0) j ->
 Z1 j (f.add 2) (.slice O 0 0)/\∀i,ZA j (f.add 2) (.slice O 0 0) i ->
 ∃j k l m o p q,i.cell? f=I (G j) /\
 i.cell? (f.add 1)=I (.slice k l m) /\
 i.cell? (f.add 2)=I (.slice o p q) /\
 R (Q (T #[J7 #[G j,.slice k l m,.slice o p q],.int J 0,.int J n])) i) /\
 (n=0 ->
 ∃i,h.cell? (g.add 2)=I (.int J i) /\
 ∃j,h.cell? (g.add 1)=I (.int J j) /\
 ((i>(Z J ((c:Int)-j)) ->
 Z1 h f (G V)/\∀k,ZA h f (G V) k ->
 Z1 k (f.add 1) (.slice O 0 0)/\∀l,ZA k (f.add 1) (.slice O 0 0) l ->
 Z1 l (f.add 2) (.slice O 0 0)/\∀k,ZA l (f.add 2) (.slice O 0 0) k ->
 ∃l m n o p q r,k.cell? f=I (G l) /\
 k.cell? (f.add 1)=I (.slice m n o) /\
 k.cell? (f.add 2)=I (.slice p q r) /\
 R (Q (T #[J7 #[G l,.slice m n o,.slice p q r],.int J 0,.int J 41])) k) /\
 (¬i>(Z J ((c:Int)-j)) ->
 ∃c,h.cell? (g.add 1)=I (.int J c) /\
 ∃i,h.cell? (g.add 1)=I (.int J i) /\
 ∃j,h.cell? (g.add 2)=I (.int J j) /\
 ((0:Int)<=(Z J (i+j))/\(Z J (i+j))<=(d:Int)) /\
 ((0:Int)<=c/\c<=(((J6 (Z J (i+j))):Nat):Int)) /\
 ∃k,h.cell? (g.add 1)=I (.int J k) /\
 ∃l,h.cell? (g.add 2)=I (.int J l) /\
 ∃m,h.cell? g=I (G m) /\
 ((m=V ->
 ∃n,h.cell? (g.add 3)=I (G n) /\
 ((n=V ->
 J8 C 150 #[.slice (subO b d c.toNat 1) ((J6 (Z J (i+j)))-c.toNat) (d-c.toNat)] h (fun g o =>
 ∃p,g=Q (G p) /\
 ((p=JG ->
 Z1 o f (G V)/\∀g,ZA o f (G V) g ->
 Z1 g (f.add 1) (.slice O 0 0)/\∀q,ZA g (f.add 1) (.slice O 0 0) q ->
 Z1 q (f.add 2) (.slice O 0 0)/\∀g,ZA q (f.add 2) (.slice O 0 0) g ->
 ∃q r s t u v x,g.cell? f=I (G q) /\
 g.cell? (f.add 1)=I (.slice r s t) /\
 g.cell? (f.add 2)=I (.slice u v x) /\
 R (Q (T #[J7 #[G q,.slice r s t,.slice u v x],.int J 0,.int J 40])) g) /\
 (p=V ->
 J8 C 36 #[.slice (subO b d c.toNat 1) ((J6 (Z J (i+j)))-c.toNat) (d-c.toNat)] o (fun g o =>
 ∃p q r,g=Q (.slice p q r) /\
 Z1 o f (G V)/\∀g,ZA o f (G V) g ->
 Z1 g (f.add 1) (.slice p q r)/\∀o,ZA g (f.add 1) (.slice p q r) o ->
 Z1 o (f.add 2) (.slice O 0 0)/\∀g,ZA o (f.add 2) (.slice O 0 0) g ->
 ∃o p q r s t u,g.cell? f=I (G o) /\
 g.cell? (f.add 1)=I (.slice p q r) /\
 g.cell? (f.add 2)=I (.slice s t u) /\
 R (Q (T #[J7 #[G o,.slice p q r,.slice s t u],.int J (Z J (k+l)),.int J 0])) g))))) /\
 (n=JG ->
 J8 C 36 #[.slice (subO b d c.toNat 1) ((J6 (Z J (i+j)))-c.toNat) (d-c.toNat)] h (fun g n =>
 ∃o p q,g=Q (.slice o p q) /\
 Z1 n f (G V)/\∀g,ZA n f (G V) g ->
 Z1 g (f.add 1) (.slice o p q)/\∀n,ZA g (f.add 1) (.slice o p q) n ->
 Z1 n (f.add 2) (.slice O 0 0)/\∀g,ZA n (f.add 2) (.slice O 0 0) g ->
 ∃n o p q r s t,g.cell? f=I (G n) /\
 g.cell? (f.add 1)=I (.slice o p q) /\
 g.cell? (f.add 2)=I (.slice r s t) /\
 R (Q (T #[J7 #[G n,.slice o p q,.slice r s t],.int J (Z J (k+l)),.int J 0])) g)))) /\
 (m=JG ->
 ∀g m,ZC h 111 #[G V,.slice O 0 0,.slice O 0 0] g m ->
 Z1 m g (G JG)/\∀h,ZA m g (G JG) h ->
 Z1 h (g.add 1) (.slice O 0 0)/\∀m,ZA h (g.add 1) (.slice O 0 0) m ->
 Z1 m (g.add 2) (.slice O 0 0)/\∀h,ZA m (g.add 2) (.slice O 0 0) h ->
 ∃(m:Option Addr->Nat->Nat->P->Prop)(n:Option Addr->Nat->Nat->P->Nat),m (subO b d c.toNat 1) ((J6 (Z J (i+j)))-c.toNat) (d-c.toNat) h /\
 (∀(b:Option Addr)(c:Nat)(d:Nat)(h:Nat->Value)(h:P),m b c d h ->
 (((c:Int)>0 ->
 J8 C 136 #[J3 (I a),.slice b c d,.int J (Z J (e+1))] h (fun a e =>
 ∃i j o p q r s t u,a=Q (T #[J7 #[G i,.slice j o p,.slice q r s],.int J t,.int J u]) /\
 ∀a v,ZC e 111 #[G V,.slice O 0 0,.slice O 0 0] a v ->
 Z1 v a (G i)/\∀e,ZA v a (G i) e ->
 Z1 e (a.add 1) (.slice j o p)/\∀i,ZA e (a.add 1) (.slice j o p) i ->
 Z1 i (a.add 2) (.slice q r s)/\∀e,ZA i (a.add 2) (.slice q r s) e ->
 ((u≠0 ->
 Z1 e f (G V)/\∀i,ZA e f (G V) i ->
 Z1 i (f.add 1) (.slice O 0 0)/\∀j,ZA i (f.add 1) (.slice O 0 0) j ->
 Z1 j (f.add 2) (.slice O 0 0)/\∀i,ZA j (f.add 2) (.slice O 0 0) i ->
 ∃j o p q r s v,i.cell? f=I (G j) /\
 i.cell? (f.add 1)=I (.slice o p q) /\
 i.cell? (f.add 2)=I (.slice r s v) /\
 R (Q (T #[J7 #[G j,.slice o p q,.slice r s v],.int J 0,.int J u])) i) /\
 (u=0 ->
 ∀i,ZJ e i ->
 ∃e j o,i.cell? (g.add 2)=I (.slice e j o) /\
 ∃p q r s u v x,i.cell? a=I (G p) /\
 i.cell? (a.add 1)=I (.slice q r s) /\
 i.cell? (a.add 2)=I (.slice u v x) /\
 ((0:Int)<=t/\t<=(c:Int)) /\
 ∀a y,ZC i 111 #[G p,.slice q r s,.slice u v x] a y ->
 y.cell? (g.add 2)=I (.slice e j o) /\
 ∃i p,Sem.run C (builtinV .append #[109,109] 109 #[.slice e j o,.slice (I a) 1 1]) y=.ok i p /\
 ∃a e j,i=(.slice a e j) /\
 Z1 p (g.add 2) (.slice a e j)/\∀i,ZA p (g.add 2) (.slice a e j) i ->
 m (subO b d t.toNat 1) (c-t.toNat) (d-t.toNat) i/\n (subO b d t.toNat 1) (c-t.toNat) (d-t.toNat) i<n b c d h)))) /\
 (¬(c:Int)>0 ->
 ∃a b c d e i j,h.cell? g=I (G a) /\
 h.cell? (g.add 1)=I (.slice b c d) /\
 h.cell? (g.add 2)=I (.slice e i j) /\
 Z1 h f (G a)/\∀g,ZA h f (G a) g ->
 Z1 g (f.add 1) (.slice b c d)/\∀a,ZA g (f.add 1) (.slice b c d) a ->
 Z1 a (f.add 2) (.slice e i j)/\∀b,ZA a (f.add 2) (.slice e i j) b ->
 ∃a c d e g h i,b.cell? f=I (G a) /\
 b.cell? (f.add 1)=I (.slice c d e) /\
 b.cell? (f.add 2)=I (.slice g h i) /\
 R (Q (T #[J7 #[G a,.slice c d e,.slice g h i],.int J (Z J (k+l)),.int J 0])) b)))))))))))))))
theorem Z1A.vc(a b c d e w R)(h:Z1A.Vc a b c d e w R):J8 C 136 #[(J3 (I a)),(.slice b c d),(.int J e)] w R:=xs [(18,[(12,.cell (.slice))])] [.addr a,.slice b c d,.int J e] Tryz.func136 ZL (by kernel_rfl) h
abbrev Z4Y.n:Nat:=149
def Z4Y.Vc(a:Option Addr)(b c:Nat)(w:P)(R:JM->P->Prop):Prop :=
 ∀d e,ZC w 237 #[G V,.int J 0,.int J 0,G V,G V] d e ->
 ∃f,a=I f /\
 ((0:Int)<=0/\0<(b:Int)) /\
 ∃g,e.cell? (f.add 0)=I (.int .u8 g) /\
 ∀f h,ZC e 3 #[.int J 0] f h ->
 Z1 h f (.int J (Z J g))/\∀e,ZA h f (.int J (Z J g)) e ->
 ∀g h,ZC e 237 #[G V,.int J 0,.int J 0,G V,G V] g h ->
 Z1 h g (G V)/\∀e,ZA h g (G V) e ->
 Z1 e (g.add 1) (.int J 1)/\∀h,ZA e (g.add 1) (.int J 1) h ->
 Z1 h (g.add 2) (.int J 0)/\∀e,ZA h (g.add 2) (.int J 0) e ->
 Z1 e (g.add 3) (G V)/\∀h,ZA e (g.add 3) (G V) h ->
 Z1 h (g.add 4) (G V)/\∀e,ZA h (g.add 4) (G V) e ->
 ∀h i,ZC e 3 #[.int J 0] h i ->
 Z1 i h (.int J 0)/\∀e,ZA i h (.int J 0) e ->
 ∃(i:P->Prop),(∃j,e.cell? f=I (.int J j) /\
 ((j<128 ->
 Z1 e d (G V)/\∀k,ZA e d (G V) k ->
 Z1 k (d.add 1) (.int J 0)/\∀l,ZA k (d.add 1) (.int J 0) l ->
 Z1 l (d.add 2) (.int J 1)/\∀k,ZA l (d.add 2) (.int J 1) k ->
 Z1 k (d.add 3) (G JG)/\∀l,ZA k (d.add 3) (G JG) l ->
 Z1 l (d.add 4) (G V)/\∀k,ZA l (d.add 4) (G V) k ->
 ∃l m n o p,k.cell? d=I (G l) /\
 k.cell? (d.add 1)=I (.int J m) /\
 k.cell? (d.add 2)=I (.int J n) /\
 k.cell? (d.add 3)=I (G o) /\
 k.cell? (d.add 4)=I (G p) /\
 R (Q (T #[J7 #[G l,.int J m,.int J n,G o,G p],.int J 0])) k) /\
 (¬j<128 ->
 ∃j,e.cell? f=I (.int J j) /\
 ((j>=192 ->
 Z1 e g (G JG)/\∀k,ZA e g (G JG) k ->
 J8 C 159 #[.int J 192,J3 (I f),J3 (I h),J3 (I g)] k (fun k l =>
 k=Q (T #[]) /\
 i  l)) /\
 (¬j>=192 ->
 J8 C 159 #[.int J 128,J3 (I f),J3 (I h),J3 (I g)] e (fun e f =>
 e=Q (T #[]) /\
 i  f)))))) /\
 (∀  (e:Nat->Value)(e:P),i  e ->
 ∃f,e.cell? h=I (.int J f) /\
 ((f=0 ->
 ∃i j k l m,e.cell? g=I (G i) /\
 e.cell? (g.add 1)=I (.int J j) /\
 e.cell? (g.add 2)=I (.int J k) /\
 e.cell? (g.add 3)=I (G l) /\
 e.cell? (g.add 4)=I (G m) /\
 Z1 e d (G i)/\∀n,ZA e d (G i) n ->
 Z1 n (d.add 1) (.int J j)/\∀i,ZA n (d.add 1) (.int J j) i ->
 Z1 i (d.add 2) (.int J k)/\∀j,ZA i (d.add 2) (.int J k) j ->
 Z1 j (d.add 3) (G l)/\∀i,ZA j (d.add 3) (G l) i ->
 Z1 i (d.add 4) (G m)/\∀j,ZA i (d.add 4) (G m) j ->
 ∃i k l m n,j.cell? d=I (G i) /\
 j.cell? (d.add 1)=I (.int J k) /\
 j.cell? (d.add 2)=I (.int J l) /\
 j.cell? (d.add 3)=I (G m) /\
 j.cell? (d.add 4)=I (G n) /\
 R (Q (T #[J7 #[G i,.int J k,.int J l,G m,G n],.int J 0])) j) /\
 (f≠0 ->
 ∃f,e.cell? h=I (.int J f) /\
 (((b:Int)<(Z J (1+f)) ->
 ∃i j k l m,e.cell? g=I (G i) /\
 e.cell? (g.add 1)=I (.int J j) /\
 e.cell? (g.add 2)=I (.int J k) /\
 e.cell? (g.add 3)=I (G l) /\
 e.cell? (g.add 4)=I (G m) /\
 Z1 e d (G i)/\∀n,ZA e d (G i) n ->
 Z1 n (d.add 1) (.int J j)/\∀i,ZA n (d.add 1) (.int J j) i ->
 Z1 i (d.add 2) (.int J k)/\∀j,ZA i (d.add 2) (.int J k) j ->
 Z1 j (d.add 3) (G l)/\∀i,ZA j (d.add 3) (G l) i ->
 Z1 i (d.add 4) (G m)/\∀j,ZA i (d.add 4) (G m) j ->
 ∃i k l m n,j.cell? d=I (G i) /\
 j.cell? (d.add 1)=I (.int J k) /\
 j.cell? (d.add 2)=I (.int J l) /\
 j.cell? (d.add 3)=I (G m) /\
 j.cell? (d.add 4)=I (G n) /\
 R (Q (T #[J7 #[G i,.int J k,.int J l,G m,G n],.int J 41])) j) /\
 (¬(b:Int)<(Z J (1+f)) ->
 ∃f,e.cell? h=I (.int J f) /\
 ((0:Int)<=(Z J (1+f))/\(Z J (1+f))<=(c:Int)) /\
 1<=(J6 (Z J (1+f))) /\
 ∃(i:Int->Int->P->Prop)(j:Int->Int->P->Nat),i 0 0 e /\
 (∀(e:Int)(k:Int)(l:Nat->Value)(l:P),i e k l ->
 ((k<((((J6 (Z J (1+f)))-1):Nat):Int) ->
 ∃m,(subO a c 1 1)=I m /\
 ((0:Int)<=k/\k<((((J6 (Z J (1+f)))-1):Nat):Int)) /\
 ∃c,l.cell? (m.add k.toNat)=I (.int .u8 c) /\
 i (bitsI .or JQ (Z JQ (e*256)) (Z JQ c)) (Z J (k+1)) l/\j (bitsI .or JQ (Z JQ (e*256)) (Z JQ c)) (Z J (k+1)) l<j e k l) /\
 (¬k<((((J6 (Z J (1+f)))-1):Nat):Int) ->
 ∃c,a=I c /\
 ((0:Int)<=1/\1<(b:Int)) /\
 ∃a,l.cell? (c.add 1)=I (.int .u8 a) /\
 ((a=0 ->
 ∃b c f i j,l.cell? g=I (G b) /\
 l.cell? (g.add 1)=I (.int J c) /\
 l.cell? (g.add 2)=I (.int J f) /\
 l.cell? (g.add 3)=I (G i) /\
 l.cell? (g.add 4)=I (G j) /\
 Z1 l d (G b)/\∀k,ZA l d (G b) k ->
 Z1 k (d.add 1) (.int J c)/\∀b,ZA k (d.add 1) (.int J c) b ->
 Z1 b (d.add 2) (.int J f)/\∀c,ZA b (d.add 2) (.int J f) c ->
 Z1 c (d.add 3) (G i)/\∀b,ZA c (d.add 3) (G i) b ->
 Z1 b (d.add 4) (G j)/\∀c,ZA b (d.add 4) (G j) c ->
 ∃b f i j k,c.cell? d=I (G b) /\
 c.cell? (d.add 1)=I (.int J f) /\
 c.cell? (d.add 2)=I (.int J i) /\
 c.cell? (d.add 3)=I (G j) /\
 c.cell? (d.add 4)=I (G k) /\
 R (Q (T #[J7 #[G b,.int J f,.int J i,G j,G k],.int J 40])) c) /\
 (a≠0 ->
 ((e<=55 ->
 ∃a b c f i,l.cell? g=I (G a) /\
 l.cell? (g.add 1)=I (.int J b) /\
 l.cell? (g.add 2)=I (.int J c) /\
 l.cell? (g.add 3)=I (G f) /\
 l.cell? (g.add 4)=I (G i) /\
 Z1 l d (G a)/\∀j,ZA l d (G a) j ->
 Z1 j (d.add 1) (.int J b)/\∀a,ZA j (d.add 1) (.int J b) a ->
 Z1 a (d.add 2) (.int J c)/\∀b,ZA a (d.add 2) (.int J c) b ->
 Z1 b (d.add 3) (G f)/\∀a,ZA b (d.add 3) (G f) a ->
 Z1 a (d.add 4) (G i)/\∀b,ZA a (d.add 4) (G i) b ->
 ∃a c f i j,b.cell? d=I (G a) /\
 b.cell? (d.add 1)=I (.int J c) /\
 b.cell? (d.add 2)=I (.int J f) /\
 b.cell? (d.add 3)=I (G i) /\
 b.cell? (d.add 4)=I (G j) /\
 R (Q (T #[J7 #[G a,.int J c,.int J f,G i,G j],.int J 40])) b) /\
 (¬e<=55 ->
 ((e>2147483648 ->
 ∃a b c f i,l.cell? g=I (G a) /\
 l.cell? (g.add 1)=I (.int J b) /\
 l.cell? (g.add 2)=I (.int J c) /\
 l.cell? (g.add 3)=I (G f) /\
 l.cell? (g.add 4)=I (G i) /\
 Z1 l d (G a)/\∀j,ZA l d (G a) j ->
 Z1 j (d.add 1) (.int J b)/\∀a,ZA j (d.add 1) (.int J b) a ->
 Z1 a (d.add 2) (.int J c)/\∀b,ZA a (d.add 2) (.int J c) b ->
 Z1 b (d.add 3) (G f)/\∀a,ZA b (d.add 3) (G f) a ->
 Z1 a (d.add 4) (G i)/\∀b,ZA a (d.add 4) (G i) b ->
 ∃a c f i j,b.cell? d=I (G a) /\
 b.cell? (d.add 1)=I (.int J c) /\
 b.cell? (d.add 2)=I (.int J f) /\
 b.cell? (d.add 3)=I (G i) /\
 b.cell? (d.add 4)=I (G j) /\
 R (Q (T #[J7 #[G a,.int J c,.int J f,G i,G j],.int J 40])) b) /\
 (¬e>2147483648 ->
 ∃a,l.cell? h=I (.int J a) /\
 Z1 l (g.add 1) (.int J (Z J (1+a)))/\∀b,ZA l (g.add 1) (.int J (Z J (1+a))) b ->
 Z1 b (g.add 2) (.int J (Z J e))/\∀a,ZA b (g.add 2) (.int J (Z J e)) a ->
 ∃b c e f h,a.cell? g=I (G b) /\
 a.cell? (g.add 1)=I (.int J c) /\
 a.cell? (g.add 2)=I (.int J e) /\
 a.cell? (g.add 3)=I (G f) /\
 a.cell? (g.add 4)=I (G h) /\
 Z1 a d (G b)/\∀g,ZA a d (G b) g ->
 Z1 g (d.add 1) (.int J c)/\∀a,ZA g (d.add 1) (.int J c) a ->
 Z1 a (d.add 2) (.int J e)/\∀b,ZA a (d.add 2) (.int J e) b ->
 Z1 b (d.add 3) (G f)/\∀a,ZA b (d.add 3) (G f) a ->
 Z1 a (d.add 4) (G h)/\∀b,ZA a (d.add 4) (G h) b ->
 ∃a c e f g,b.cell? d=I (G a) /\
 b.cell? (d.add 1)=I (.int J c) /\
 b.cell? (d.add 2)=I (.int J e) /\
 b.cell? (d.add 3)=I (G f) /\
 b.cell? (d.add 4)=I (G g) /\
 R (Q (T #[J7 #[G a,.int J c,.int J e,G f,G g],.int J 0])) b))))))))))))))
theorem Z4Y.vc(a b c w R)(h:Z4Y.Vc a b c w R):J8 C 149 #[(.slice a b c)] w R:=xs [(1000011,[]),(17,[(8,.cell (.int JQ)),(43,.cell (.int J))])] [.slice a b c] Tryz.func149 ZL (by kernel_rfl) h
abbrev Z2y.n:Nat:=159
def Z2y.Vc(a:Int)(b c d:Addr)(w:P)(R:JM->P->Prop):Prop :=
 ∃e,w.cell? b=I (.int J e) /\
 Z1 w c (.int J (max (Z J ((Z J (e-a))-55)) 0))/\∀f,ZA w c (.int J (max (Z J ((Z J (e-a))-55)) 0)) f ->
 ∃c,f.cell? b=I (.int J c) /\
 Z1 f (d.add 2) (.int J (Z J (c-a)))/\∀b,ZA f (d.add 2) (.int J (Z J (c-a))) b ->
 R (Q (T #[])) b
theorem Z2y.vc(a b c d w R)(h:Z2y.Vc a b c d w R):J8 C 159 #[(.int J a),(J3 (I b)),(J3 (I c)),(J3 (I d))] w R:=xs [] [.int J a,.addr b,.addr c,.addr d] Tryz.func159 ZL (by kernel_rfl) h
end Go.Proofs.YtfghidehlnfdiaaGreat
end
section
namespace Go.Proofs.YtfghidehlnfdiaaGreat
open Go Go.Vcg Go.Trie
section
variable{w:P}{D:Nat}{t:TypeId}
theorem Z9m{a b c v1 v2 v3:Value}{R':P->Prop}(X:Blk w D t #[a,b,c])(h1:v1.oneCell'=JG)(h2:v2.oneCell'=JG)(h3:v3.oneCell'=JG)(K:∀w',Blk w' D t #[v1,v2,v3]->Vcg.Mod (·=D) w w'->R' w') :
  Z1 w ⟨D,0,O⟩ v1/\∀w1:P,ZA w ⟨D,0,O⟩ v1 w1->Z1 w1 (J0 ⟨D,0,O⟩ 1) v2/\∀w2:P,ZA w1 (J0 ⟨D,0,O⟩ 1) v2 w2->Z1 w2 (J0 ⟨D,0,O⟩ 2) v3/\∀w3:P,ZA w2 (J0 ⟨D,0,O⟩ 2) v3 w3->R' w3:=by
 refine⟨X.canSet (by simp) h1,?_⟩;rintro _ rfl;have X1:=X.set 0 v1;have Q1:Vcg.Mod (·=D) w _:=Mod.setCell w ⟨D,0,O⟩ v1;rw[Z3,JA];refine⟨X1.canSet (by simp) h2,?_⟩;rintro _ rfl;have X2:=X1.set 1 v2;have Q2:=Q1.step_set (a:=⟨D,1,O⟩) (v:=v2) (fun _=>rfl);rw[Z3,JA];refine⟨X2.canSet (by simp) h3,?_⟩;rintro _ rfl;have X3:=X2.set 2 v3;have Q3:=Q2.step_set (a:=⟨D,2,O⟩) (v:=v3) (fun _=>rfl);exact K _ X3 Q3
theorem Z60{b:Bool}{o o2:Option Addr}{l k l2 k2:Nat}{R':Bool->Option Addr->Nat->Nat->Option Addr->Nat->Nat->Prop}(X:Blk w D t #[G b,.slice o l k,.slice o2 l2 k2])(h:R' b o l k o2 l2 k2) :
  ∃b8:Bool,∃o9:Option Addr,∃l10:Nat,∃l11:Nat,∃o12:Option Addr,∃l13:Nat,∃l14:Nat,J5 w ⟨D,0,O⟩=I (G b8)/\J5 w (J0 ⟨D,0,O⟩ 1)=I (.slice o9 l10 l11)/\J5 w (J0 ⟨D,0,O⟩ 2)=I (.slice o12 l13 l14)/\R' b8 o9 l10 l11 o12 l13 l14 :=
 ⟨_,_,_,_,_,_,_,X.rd1 rfl,by rw[Z3];exact X.rd1 rfl,by rw[Z3];exact X.rd1 rfl,h⟩
theorem Z1J{a b c:Value}{b1:Bool}{o o2:Option Addr}{l k l2 k2:Nat}{R':Bool->Option Addr->Nat->Nat->Option Addr->Nat->Nat->P->Prop}(X:Blk w D t #[a,b,c])(K:∀w',Vcg.Mod (·=D) w w'->R' b1 o l k o2 l2 k2 w') :
  Z1 w ⟨D,0,O⟩ (G b1)/\∀w1:P,ZA w ⟨D,0,O⟩ (G b1) w1->Z1 w1 (J0 ⟨D,0,O⟩ 1) (.slice o l k)/\∀w2:P,ZA w1 (J0 ⟨D,0,O⟩ 1) (.slice o l k) w2->Z1 w2 (J0 ⟨D,0,O⟩ 2) (.slice o2 l2 k2)/\∀w3:P,ZA w2 (J0 ⟨D,0,O⟩ 2) (.slice o2 l2 k2) w3 ->
   ∃b8:Bool,∃o9:Option Addr,∃l10:Nat,∃l11:Nat,∃o12:Option Addr,∃l13:Nat,∃l14:Nat,J5 w3 ⟨D,0,O⟩=I (G b8)/\J5 w3 (J0 ⟨D,0,O⟩ 1)=I (.slice o9 l10 l11)/\J5 w3 (J0 ⟨D,0,O⟩ 2)=I (.slice o12 l13 l14)/\R' b8 o9 l10 l11 o12 l13 l14 w3 :=
 Z9m X rfl rfl rfl (fun w' X' M=>Z60 X' (K w' M))
theorem ZId{a b c d e v1 v2 v3 v4 v5:Value}{R':P->Prop}(X:Blk w D t #[a,b,c,d,e])(h1:v1.oneCell'=JG)(h2:v2.oneCell'=JG)(h3:v3.oneCell'=JG)(h4:v4.oneCell'=JG)(h5:v5.oneCell'=JG)(K:∀w',Blk w' D t #[v1,v2,v3,v4,v5]->Vcg.Mod (·=D) w w'->R' w') :
  Z1 w ⟨D,0,O⟩ v1/\∀w1:P,ZA w ⟨D,0,O⟩ v1 w1->Z1 w1 (J0 ⟨D,0,O⟩ 1) v2/\∀w2:P,ZA w1 (J0 ⟨D,0,O⟩ 1) v2 w2->Z1 w2 (J0 ⟨D,0,O⟩ 2) v3/\∀w3:P,ZA w2 (J0 ⟨D,0,O⟩ 2) v3 w3 ->
   Z1 w3 (J0 ⟨D,0,O⟩ 3) v4/\∀w4:P,ZA w3 (J0 ⟨D,0,O⟩ 3) v4 w4->Z1 w4 (J0 ⟨D,0,O⟩ 4) v5/\∀w5:P,ZA w4 (J0 ⟨D,0,O⟩ 4) v5 w5->R' w5:=by
 refine⟨X.canSet (by simp) h1,?_⟩;rintro _ rfl;have X1:=X.set 0 v1;have Q1:Vcg.Mod (·=D) w _:=Mod.setCell w ⟨D,0,O⟩ v1;rw[Z3,JA];refine⟨X1.canSet (by simp) h2,?_⟩;rintro _ rfl;have X2:=X1.set 1 v2;have Q2:=Q1.step_set (a:=⟨D,1,O⟩) (v:=v2) (fun _=>rfl);rw[Z3,JA];refine⟨X2.canSet (by simp) h3,?_⟩;rintro _ rfl;have X3:=X2.set 2 v3;have Q3:=Q2.step_set (a:=⟨D,2,O⟩) (v:=v3) (fun _=>rfl);rw[Z3,JA];refine⟨X3.canSet (by simp) h4,?_⟩;rintro _ rfl;have X4:=X3.set 3 v4;have Q4:=Q3.step_set (a:=⟨D,3,O⟩) (v:=v4) (fun _=>rfl);rw[Z3,JA];refine⟨X4.canSet (by simp) h5,?_⟩;rintro _ rfl;have X5:=X4.set 4 v5;have Q5:=Q4.step_set (a:=⟨D,4,O⟩) (v:=v5) (fun _=>rfl);exact K _ X5 Q5
theorem ZFN{b b3 b4:Bool}{n1 n2:Int}{R':Bool->Int->Int->Bool->Bool->Prop}(X:Blk w D t #[G b,.int J n1,.int J n2,G b3,G b4])(h:R' b n1 n2 b3 b4) :
  ∃b8:Bool,∃n9:Int,∃n10:Int,∃b11:Bool,∃b12:Bool,J5 w ⟨D,0,O⟩=I (G b8)/\J5 w (J0 ⟨D,0,O⟩ 1)=I (.int J n9)/\J5 w (J0 ⟨D,0,O⟩ 2)=I (.int J n10)/\J5 w (J0 ⟨D,0,O⟩ 3)=I (G b11)/\J5 w (J0 ⟨D,0,O⟩ 4)=I (G b12)/\R' b8 n9 n10 b11 b12 :=
 ⟨_,_,_,_,_,X.rd1 rfl,by rw[Z3];exact X.rd1 rfl,by rw[Z3];exact X.rd1 rfl,by rw[Z3];exact X.rd1 rfl,by rw[Z3];exact X.rd1 rfl,h⟩
end
theorem ZKj{n d:Nat}(hn:n<2^56)(hd:d<256):bitsI .or JQ (Z JQ ((n:Int)*256)) (Z JQ (d:Int))=((n*256+d:Nat):Int):=by
 have e1:Z JQ ((n:Int)*256)=uI (JR 64 (n*256)):=by
  rw[Z5y];simp only[uI,JH];omega
 have e2:Z JQ (d:Int)=uI (JR 64 d):=by
  rw[Z5y];simp only[uI,JH];omega
 rw[e1,e2,Z6i];simp only[uI,BitVec.toNat_or,JH];rw[JN (by omega),JN (by omega)];have:=Nat.shiftLeft_add_eq_or_of_lt (i:=8) (b:=d) (by omega) n;rw[Nat.shiftLeft_eq]at this;rw[<-this]
theorem Z8G{w:P}{a b d base c:Nat}{x v0 v1 v2 v3 v4:Value}(X5:Blk w a 3 #[.int J (c:Int)])(X15:Blk w b 3 #[x])(X8:Blk w d 237 #[v0,v1,v2,v3,v4])(hab:a≠b)(had:a≠d)(hbd:b≠d)(hb:base<=c)(hc:c<=255) :
  J8 C Z2y.n #[.int J (base:Int),J3 (I ⟨a,0,O⟩),J3 (I ⟨b,0,O⟩),J3 (I ⟨d,0,O⟩)] w (fun e w'=>e=Q (T #[])/\Vcg.Mod (fun q=>q=b\/q=d) w w'/\Blk w' b 3 #[.int J ((c-base-55:Nat):Int)]/\Blk w' d 237 #[v0,v1,.int J ((c-base:Nat):Int),v3,v4]):=by
 refine Z2y.vc _ _ _ _ _ _ ?_;unfold Z2y.Vc;have e1:Z J ((c:Int)-(base:Int))=((c-base:Nat):Int):=by rw[Z0 (by omega) (by omega)];omega
 have e2:max (Z J ((Z J ((c:Int)-(base:Int)))-55)) 0=((c-base-55:Nat):Int):=by
  rw[e1,Z0 (by omega) (by omega)];omega
 refine⟨_,X5.rd1 rfl,?_⟩;rw[e2];refine⟨X15.canSet (by simp) rfl,?_⟩;rintro _ rfl;have X15':=X15.set 0 (.int J ((c-base-55:Nat):Int));refine⟨_,(X5.set_ne (a:=⟨b,0,O⟩) hab).rd1 rfl,?_⟩;rw[e1,Z3];have X8':=X8.set_ne (a:=⟨b,0,O⟩) (v:=.int J ((c-base-55:Nat):Int)) (Ne.symm hbd);refine⟨X8'.canSet (by simp) rfl,?_⟩;rintro _ rfl;refine⟨rfl,?_,X15'.set_ne (a:=⟨d,0+2,O⟩) hbd,X8'.set 2 _⟩;exact((Mod.setCell w ⟨b,0,O⟩ _).mono (fun i _ h=>JL h)).step_set (fun _=>JP rfl)
def HdIs(r:Except Int (Bool×Nat×Nat×Bool))(b1:Bool)(n1 n2:Int)(b2:Bool)(e0:Int):Prop:=match r with
 | JJ x=>e0=x/\x≠0
 | .ok (l,a,q,ow)=>b1=l/\n1=(a:Int)/\n2=(q:Int)/\b2=ow/\e0=0
theorem ZG9(bs:By){j:Nat}(hj:j+1<bs.length):be ((bs.drop 1).take (j+1))=be ((bs.drop 1).take j)*256+((bs.drop 1).getD j 0).toNat:=by
 have h:j<(bs.drop 1).length:=by rw[J1];omega
 rw[List.take_succ_eq_append_getElem h,ZJS];congr 2;rw[JI,List.getElem?_eq_getElem h];rfl
theorem ZDf{w:P}{o:Option Addr}{k:Nat}{bs:By}(hr:RdB w o bs)(hne:bs≠[])(hk:bs.length<=k)(hl:bs.length<=2^40) :
  J8 C Z4Y.n #[.slice o bs.length k] w (fun e w'=>Vcg.Mod NoB w w'/\∃b1 n1 n2 b2 b3 e0,e=Q (T #[J7 #[G b1,.int J n1,.int J n2,G b2,G b3],.int J e0])/\HdIs (hd bs) b1 n1 n2 b2 e0):=by
 refine ZD fun R hR=>Z4Y.vc _ _ _ _ _ ?_;unfold Z4Y.Vc;have hbl:1<=bs.length:=List.length_pos_iff.2 hne;rintro d1 w1⟨rfl,rfl⟩;have M1:Vcg.Mod NoB w _:=Mod.alloc w (L #[G V,.int J 0,.int J 0,G V,G V] 237);have X1:=Blk.new w 237 #[G V,.int J 0,.int J 0,G V,G V];have hs1:=ZE w (L #[G V,.int J 0,.int J 0,G V,G V] 237);generalize hN1:w.heap.size=N1 at *
 generalize w.alloc (L #[G V,.int J 0,.int J 0,G V,G V] 237)=w1 at *
 obtain⟨b0,f0,rfl,hb0,hc0⟩:=hr hne;have cell:∀{w':P},Vcg.Mod NoB w w'->∀i,i<bs.length->w'.cell? ⟨b0,f0+i,O⟩=I (bV (bs.getD i 0)):=fun M i hi=>(ZN M hb0 (fun h=>h)).trans (hc0 i hi);generalize hcv:(bs.getD 0 0).toNat=c;have hc255:c<=255:=by have:=(bs.getD 0 0).toNat_lt;omega
 refine⟨_,rfl,⟨by omega,by omega⟩,(c:Int),by rw[Z3];have:=cell M1 0 (by omega);simp only[bV,hcv]at this;exact this,?_⟩;rintro d5 w2⟨rfl,rfl⟩;have ec:Z J (c:Int)=(c:Int):=Z0 (by omega) (by omega);rw[ec];have M2:=M1.step_alloc (L #[.int J 0] 3);have X5:=Blk.new w1 3 #[.int J 0];have hs2:=ZE w1 (L #[.int J 0] 3);have X12:=X1.alloc (L #[.int J 0] 3);generalize hN5:w1.heap.size=N5 at *
 generalize w1.alloc (L #[.int J 0] 3)=w2 at *
 refine⟨X5.canSet (by simp) rfl,?_⟩;rintro _ rfl;have X53:=X5.set 0 (.int J (c:Int));have X13:=X12.set_ne (a:=⟨N5,0,O⟩) (v:=.int J (c:Int)) (by simp;omega);have M3:=M2.step_set (a:=⟨N5,0,O⟩) (v:=.int J (c:Int)) (fun h=>by simp at h;omega);have hs3:(w2.setCell ⟨N5,0,O⟩ (.int J (c:Int))).heap.size=N5+1:=by rw[Z5e];exact hs2
 generalize w2.setCell ⟨N5,0,O⟩ (.int J (c:Int))=w3 at *
 rintro d8 w4⟨rfl,rfl⟩;have M4:=M3.step_alloc (L #[G V,.int J 0,.int J 0,G V,G V] 237);have X8:=Blk.new w3 237 #[G V,.int J 0,.int J 0,G V,G V];have hs4:=ZE w3 (L #[G V,.int J 0,.int J 0,G V,G V] 237);have X14:=X13.alloc (L #[G V,.int J 0,.int J 0,G V,G V] 237);have X54:=X53.alloc (L #[G V,.int J 0,.int J 0,G V,G V] 237);generalize hN8:w3.heap.size=N8 at *
 generalize w3.alloc (L #[G V,.int J 0,.int J 0,G V,G V] 237)=w4 at *
 refine ZId X8 rfl rfl rfl rfl rfl (fun w5 X85 Q5=>?_);have M5:=M4.trans Q5 (fun i hi h=>by omega);have X15:=X14.mod Q5 (by omega);have X55:=X54.mod Q5 (by omega);have hs5:=Q5.size;rintro d15 w6⟨rfl,rfl⟩;have M6:=M5.step_alloc (L #[.int J 0] 3);have Xk:=Blk.new w5 3 #[.int J 0];have X16:=X15.alloc (L #[.int J 0] 3);have X56:=X55.alloc (L #[.int J 0] 3);have X86:=X85.alloc (L #[.int J 0] 3);generalize hNk:w5.heap.size=Nk at *
 generalize w5.alloc (L #[.int J 0] 3)=w6 at *
 refine⟨Xk.canSet (by simp) rfl,?_⟩;rintro _ rfl;have Xk7:=Xk.set 0 (.int J 0);have X17:=X16.set_ne (a:=⟨Nk,0,O⟩) (v:=.int J 0) (by simp;omega);have X57:=X56.set_ne (a:=⟨Nk,0,O⟩) (v:=.int J 0) (by simp;omega);have X87:=X86.set_ne (a:=⟨Nk,0,O⟩) (v:=.int J 0) (by simp;omega);have M7:=M6.step_set (a:=⟨Nk,0,O⟩) (v:=.int J 0) (fun h=>by simp at h;omega);generalize w6.setCell ⟨Nk,0,O⟩ (.int J 0)=w7 at *
 clear X12 X13 X14 X15 X16 X5 X53 X54 X55 X56 X8 X85 X86 Xk M1 M2 M3 M4 M5 M6 Q5 X1
 have hhd:hd bs=(if c<128 then .ok (V,0,1,JG)else
   if c-(if c>=192 then 192 else 128)<=55 then .ok (decide (c>=192),1,c-(if c>=192 then 192 else 128),V)
   else if bs.length<1+(c-(if c>=192 then 192 else 128)-55)then JJ 41
   else if bs.getD 1 0=0\/be ((bs.drop 1).take (c-(if c>=192 then 192 else 128)-55))<=55\/be ((bs.drop 1).take (c-(if c>=192 then 192 else 128)-55))>2147483648 then JJ 40
   else .ok (decide (c>=192),1+(c-(if c>=192 then 192 else 128)-55),be ((bs.drop 1).take (c-(if c>=192 then 192 else 128)-55)),V)):=by
  unfold hd;simp only[hcv]
 generalize hbase:(if c>=192 then 192 else 128)=base at *
 have finish:∀(w':P)(b1:Bool)(n1 n2:Int)(b2 b3:Bool)(e0:Int),Vcg.Mod NoB w w'->HdIs (hd bs) b1 n1 n2 b2 e0->R (Q (T #[J7 #[G b1,.int J n1,.int J n2,G b2,G b3],.int J e0])) w' :=
  fun w' b1 n1 n2 b2 b3 e0 M h=>hR _ _ ⟨M,b1,n1,n2,b2,b3,e0,rfl,h⟩
 refine⟨fun w'=>¬c<128/\Vcg.Mod NoB w w'/\(∃vs:Array Value,Blk w' N1 237 vs/\vs=#[G V,.int J 0,.int J 0,G V,G V])/\Blk w' N8 237 #[G (decide (c>=192)),.int J 1,.int J ((c-base:Nat):Int),G V,G V]/\Blk w' Nk 3 #[.int J ((c-base-55:Nat):Int)],⟨_,X57.rd1 rfl,fun hc=>?_,fun hc=>⟨_,X57.rd1 rfl,fun h192=>?_,fun h192=>?_⟩⟩,?_⟩
 ·refine ZId X17 rfl rfl rfl rfl rfl (fun w8 X18 Q8=>ZFN X18 (finish _ _ _ _ _ _ _ (M7.trans Q8 (fun i hi h=>by omega)) ?_))
  rw[hhd,if_pos (by omega)];exact⟨rfl,rfl,rfl,rfl,rfl⟩
 ·have hb:base=192:=by rw[<-hbase,if_pos (by omega)]
  refine⟨X87.canSet (by simp) rfl,?_⟩;rintro _ rfl;have X88:=X87.set 0 (G JG);have X18:=X17.set_ne (a:=⟨N8,0,O⟩) (v:=G JG) (by simp;omega);have X58:=X57.set_ne (a:=⟨N8,0,O⟩) (v:=G JG) (by simp;omega);have Xk8:=Xk7.set_ne (a:=⟨N8,0,O⟩) (v:=G JG) (by simp;omega);have M8:=M7.step_set (a:=⟨N8,0,O⟩) (v:=G JG) (fun h=>by simp at h;omega);refine(Z8G (base:=192) X58 Xk8 X88 (by omega) (by omega) (by omega) (by omega) hc255).mono ?_;rintro _ w9⟨rfl,Q9,Xk9,X89⟩;refine⟨rfl,by omega,M8.trans Q9 (fun i hi h=>by omega),⟨_,X18.mod Q9 (by omega),rfl⟩,?_,?_⟩
  ·rw[hb,decide_eq_true (by omega:c>=192)];exact X89
  ·rw[hb];exact Xk9
 ·have hb:base=128:=by rw[<-hbase,if_neg (by omega)]
  refine(Z8G (base:=128) X57 Xk7 X87 (by omega) (by omega) (by omega) (by omega) hc255).mono ?_;rintro _ w9⟨rfl,Q9,Xk9,X89⟩;refine⟨rfl,by omega,M7.trans Q9 (fun i hi h=>by omega),⟨_,X17.mod Q9 (by omega),rfl⟩,?_,?_⟩
  ·rw[hb,decide_eq_false (by omega:¬c>=192)];exact X89
  ·rw[hb];exact Xk9
 ·clear X17 X57 X87 Xk7 M7
  rintro _ w8⟨hc,M8,⟨_,X1,rfl⟩,X8,Xk⟩;rw[if_neg hc]at hhd;have hb1:128<=base/\base<=c:=by rw[<-hbase];split<;>omega
  have h63:c-base-55<=8:=by rw[<-hbase];split<;>omega
  refine⟨_,Xk.rd1 rfl,fun h0=>?_,fun h0=>?_⟩
  ·refine ZFN X8 (ZId X1 rfl rfl rfl rfl rfl (fun w9 X19 Q9=>ZFN X19 (finish _ _ _ _ _ _ _ (M8.trans Q9 (fun i hi h=>by omega)) ?_)))
   rw[hhd,if_pos (by omega)];exact⟨rfl,rfl,rfl,rfl,rfl⟩
  ·rw[if_neg (by omega)]at hhd
   generalize hkk:c-base-55=kk at *
   have ekk:Z J (1+(kk:Int))=((1+kk:Nat):Int):=by rw[Z0 (by omega) (by omega)];omega
   refine⟨_,Xk.rd1 rfl,fun hsh=>?_,fun hsh=>⟨_,Xk.rd1 rfl,?_⟩⟩
   ·rw[ekk]at hsh
    refine ZFN X8 (ZId X1 rfl rfl rfl rfl rfl (fun w9 X19 Q9=>ZFN X19 (finish _ _ _ _ _ _ _ (M8.trans Q9 (fun i hi h=>by omega)) ?_)));rw[hhd,if_pos (by omega)];exact⟨rfl,by decide⟩
   ·rw[ekk]at hsh ⊢
    rw[if_neg (by omega)]at hhd;rw[JD,Nat.add_sub_cancel_left];have hsub:=(hr.mod' M8).sub (c:=k) (lo:=1) (n:=kk) hk;have hsl:((bs.drop 1).take kk).length=kk:=by rw[JK,J1];omega
    obtain⟨b',f',ho',hb',hc'⟩:=hsub (by intro e;rw[e]at hsl;simp at hsl;omega);refine⟨⟨by omega,by omega⟩,by omega,fun n j w'=>w'=w8/\∃i:Nat,j=(i:Int)/\i<=kk/\n=((be ((bs.drop 1).take i):Nat):Int),fun _ j _=>((kk:Int)-j).toNat,⟨rfl,0,rfl,Nat.zero_le _,by simp[be]⟩,?_⟩;rintro _ _ _ w8⟨rfl,i,rfl,hi,rfl⟩;refine⟨fun hlt=>?_,fun hge=>?_⟩
    ·have hik:i<kk:=by omega
     have hgt:((bs.drop 1).take kk).getD i 0=(bs.drop 1).getD i 0:=by
      simp only[JI,List.getElem?_take_of_lt hik]
     have hcell:=hc' i (by omega);rw[hgt]at hcell;refine⟨_,ho',⟨by omega,by omega⟩,(((bs.drop 1).getD i 0).toNat:Int),by rw[Z3,JD];exact hcell,?_⟩;have hlt256:=ZKQ ((bs.drop 1).take i);have hil:((bs.drop 1).take i).length=i:=by rw[JK,J1];omega
     rw[hil]at hlt256
     have h56:256^i<=2^56:=by
      rw[show(256:Nat)=2^8 from rfl,<-Nat.pow_mul];exact Nat.pow_le_pow_right (by decide) (by omega)
     rw[ZKj (by omega) (UInt8.toNat_lt _),<-ZG9 bs (by omega)];have ew:Z J ((i:Int)+1)=((i+1:Nat):Int):=by rw[Z0 (by omega) (by omega)];omega
     rw[ew];exact⟨⟨rfl,i+1,rfl,hik,rfl⟩,by dsimp only;omega⟩
    ·obtain rfl:i=kk:=by omega
     generalize hm:be ((bs.drop 1).take i)=m at *
     have c1:=cell M8 1 (by omega);refine⟨_,rfl,⟨by omega,by omega⟩,((bs.getD 1 0).toNat:Int),by rw[Z3];exact c1,fun hz=>?_,fun hz=>⟨fun h55=>?_,fun h55=>⟨fun hbig=>?_,fun hbig=>?_⟩⟩⟩
     ·refine ZFN X8 (ZId X1 rfl rfl rfl rfl rfl (fun w9 X19 Q9=>ZFN X19 (finish _ _ _ _ _ _ _ (M8.trans Q9 (fun i hi h=>by omega)) ?_)))
      have:bs.getD 1 0=0:=UInt8.toNat_inj.1 (by simpa using hz);rw[hhd,if_pos (JL this)];exact⟨rfl,by decide⟩
     ·refine ZFN X8 (ZId X1 rfl rfl rfl rfl rfl (fun w9 X19 Q9=>ZFN X19 (finish _ _ _ _ _ _ _ (M8.trans Q9 (fun i hi h=>by omega)) ?_)))
      rw[hhd,if_pos (JP (JL (by omega)))];exact⟨rfl,by decide⟩
     ·refine ZFN X8 (ZId X1 rfl rfl rfl rfl rfl (fun w9 X19 Q9=>ZFN X19 (finish _ _ _ _ _ _ _ (M8.trans Q9 (fun i hi h=>by omega)) ?_)))
      rw[hhd,if_pos (JP (JP (by omega)))];exact⟨rfl,by decide⟩
     ·refine⟨_,Xk.rd1 rfl,?_⟩
      have em:Z J (m:Int)=(m:Int):=Z0 (by omega) (by omega);rw[ekk,em,Z3,Z3];refine⟨X8.canSet (by simp) rfl,?_⟩;rintro _ rfl;have X81:=X8.set 1 (.int J ((1+i:Nat):Int));refine⟨X81.canSet (by simp) rfl,?_⟩;rintro _ rfl;have X82:=X81.set 2 (.int J (m:Int));have M10:=(M8.step_set (a:=⟨N8,1,O⟩) (v:=.int J ((1+i:Nat):Int)) (fun h=>by simp at h;omega)).step_set (a:=⟨N8,2,O⟩) (v:=.int J (m:Int)) (fun h=>by simp at h;omega);have X11:=(X1.set_ne (a:=⟨N8,1,O⟩) (v:=.int J ((1+i:Nat):Int)) (by simp;omega)).set_ne (a:=⟨N8,2,O⟩) (v:=.int J (m:Int)) (by simp;omega);refine ZFN X82 (ZId X11 rfl rfl rfl rfl rfl (fun w9 X19 Q9=>ZFN X19 (finish _ _ _ _ _ _ _ (M10.trans Q9 (fun i hi h=>by omega)) ?_)));have:¬bs.getD 1 0=0:=fun h=>hz (by rw[h];rfl);rw[hhd,if_neg (fun h=>h.elim this (fun h=>h.elim (fun h=>by omega) (fun h=>by omega)))];exact⟨rfl,rfl,rfl,rfl,rfl⟩
section
variable{A:Nat->Prop}{w w':P}{xs:List It}{o:Option Addr}{l k:Nat}
def Z4A(A:Nat->Prop)(w:P)(xs:List It)(o:Option Addr)(l k:Nat):Prop :=
 l=xs.length/\∃vs,Own w ZBR 3 o l k vs/\∀j(hj:j<xs.length),∃v1 v2 v3,vs[j*3]?=I v1/\vs[j*3+1]?=I v2/\vs[j*3+2]?=I v3/\ItC (fun b=>A b\/OB o b) w xs[j] v1 v2 v3
theorem Z4A.nil(A:Nat->Prop)(w:P):Z4A A w [] O 0 0:=⟨rfl,[],Own.nil _ _ _,fun j hj=>absurd hj (by simp)⟩
theorem Z4A.lt(h:Z4A A w xs o l k):∀b,OB o b->b<w.heap.size:=by
 obtain⟨_,vs,F,_⟩:=h;exact fun b hb=>F.lt hb
theorem Z4A.cap(h:Z4A A w xs o l k):l<=k:=by
 obtain⟨_,vs,F,_⟩:=h;exact F.cap.1
theorem Z4A.modS{S:Nat->Prop}(h:Z4A A w xs o l k)(M:Vcg.Mod S w w')(hS:∀b,S b->A b)(hO:∀b,OB o b->¬S b):Z4A A w' xs o l k:=by
 obtain⟨h1,vs,F,h2⟩:=h;refine⟨h1,vs,F.mod M hO,fun j hj=>?_⟩;obtain⟨v1,v2,v3,a,b,d,e⟩:=h2 j hj;exact⟨v1,v2,v3,a,b,d,ItC.modA M (fun b hb=>JL (hS b hb)) _ e⟩
theorem Z4A.mod'(h:Z4A A w xs o l k)(M:Vcg.Mod NoB w w'):Z4A A w' xs o l k:=h.modS M (fun _ h=>h.elim) (fun _ _ h=>h)
theorem Z4A.push(h:Z4A A w xs o l k){D:Nat}{x:It}{v1 v2 v3:Value}(B:Blk w D ZBR #[v1,v2,v3])(hx:ItC (fun b=>A b\/OB o b) w x v1 v2 v3)(hl:xs.length<=2^20) :
  ∃o' k' w',Sem.run C (builtinV .append #[109,109] 109 #[.slice o l k,.slice (I ⟨D,0,O⟩) 1 1]) w=.ok (.slice o' (l+1) k') w'/\Z4A A w' (xs++[x]) o' (l+1) k'/\Vcg.Mod (OB o) w w'/\(∀b,OB o' b->OB o b\/w.heap.size<=b):=by
 obtain⟨rfl,vs,F,hv⟩:=h;obtain⟨i,hi,hz,hs,hb⟩:=Z2Q ZCH;obtain⟨b,p1,q1,r1,p2,q2,r2,rfl,rfl,rfl⟩:=hx.vals;obtain⟨o',k',w',h1,h2,h3,h4⟩:=Z3Y (ty:=109) Z5x hi hz hs rfl F (Z52 Z5x B rfl (by simp[Value.oneCell'])) (by simp only[maxLen];omega) (by rw[hb];omega);have hlen:vs.length=xs.length*3:=F.1
 have step:∀{y:It}{v1 v2 v3:Value},ItC (fun b=>A b\/OB o b) w y v1 v2 v3->ItC (fun b=>A b\/OB o' b) w' y v1 v2 v3:=fun hy =>
  ItC.mono (fun b hb=>hb.elim (fun h=>JL (JL h)) (fun h=>(h4 b h).elim (fun h=>JL (JP h)) JP)) _ (ItC.modA h3 (fun b h=>JL (JP h)) _ (ItC.old _ hy))
 refine⟨o',k',w',h1,⟨by simp,_,h2,fun j hj=>?_⟩,h3,h4⟩;rw[JC,U,List.length_nil]at hj;by_cases hjx:j<xs.length
 ·obtain⟨v1,v2,v3,a,b,d,e⟩:=hv j hjx
  refine⟨v1,v2,v3,?_,?_,?_,?_⟩
  ·rw[JB (by omega)];exact a
  ·rw[JB (by omega)];exact b
  ·rw[JB (by omega)];exact d
  ·rw[List.getElem_append_left hjx];exact step e
 ·obtain rfl:j=xs.length:=by omega
  refine⟨G b,.slice p1 q1 r1,.slice p2 q2 r2,?_,?_,?_,?_⟩
  ·rw[J9 (by omega),hlen,JS];rfl
  ·rw[J9 (by omega),hlen,show xs.length*3+1-xs.length*3=1 by omega];rfl
  ·rw[J9 (by omega),hlen,show xs.length*3+2-xs.length*3=2 by omega];rfl
  ·rw[List.getElem_append_right (by omega)]
   simp only[JS,List.getElem_cons_zero];exact step hx
theorem Z4A.its(h:Z4A A w xs o l k)(hA:∀b,A b->¬OB o b):Z1q A w xs o 0:=by
 obtain⟨rfl,vs,F,hv⟩:=h;refine ZES xs 0 (fun j hj=>?_);obtain⟨v1,v2,v3,a,b,d,e⟩:=hv j hj;obtain⟨g,ho,hc1⟩:=F.cell a;obtain⟨g',ho',hc2⟩:=F.cell b;obtain⟨g'',ho'',hc3⟩:=F.cell d;rw[ho]at ho' ho'';cases ho';cases ho'';rw[JA];exact⟨g,v1,v2,v3,ho,F.lt ⟨_,ho,rfl⟩,fun h=>hA _ h ⟨_,ho,rfl⟩,hc1,hc2,hc3,ItC.mono (fun _ h=>JL h) _ e⟩
end
theorem ZGp{w:P}{D n depth:Nat}(W:Blk w D 217 #[.int J (n:Int)])(h:depth>16\/n=4096) :
  J8 C Zx.n #[J3 (I ⟨D,0,O⟩),.int J (depth:Int)] w (fun e w'=>e=Q (.int J 43)/\w'=w):=by
 refine Zx.vc _ _ _ _ ?_;unfold Zx.Vc;exact⟨fun _=>⟨rfl,rfl⟩,fun hd=>⟨_,W.rd1 rfl,fun _=>⟨rfl,rfl⟩,fun hn=>by omega⟩⟩
def pre(xs:List It)(r:Except Int (List It×Nat)):Except Int (List It×Nat):=match r with
 | JJ e=>JJ e
 | .ok (ys,m)=>.ok (xs++ys,m)
theorem ZH5(r:Except Int (List It×Nat)):pre [] r=r:=by cases r<;>rfl
theorem ZH6(xs ys:List It)(r:Except Int (List It×Nat)):pre xs (pre ys r)=pre (xs++ys) r:=by
 cases r<;>simp[pre]
def ZKH(r:Except Int (It×Nat×Nat))(w:P)(D:Nat)(e:JM)(w':P):Prop:=match r with
 | JJ x=>x≠0/\∃b o1 l1 k1 o2 l2 k2 n1,e=Q (T #[J7 #[G b,.slice o1 l1 k1,.slice o2 l2 k2],.int J n1,.int J x])
 | .ok (x,q,m)=>Blk w' D 217 #[.int J (m:Int)]/\∃v1 v2 v3,e=Q (T #[J7 #[v1,v2,v3],.int J (q:Int),.int J 0])/\ItC (fun b=>b<w.heap.size) w' x v1 v2 v3
theorem ZHR{w:P}{o:Option Addr}{bs:By}{k a q:Nat}(h:RdB w o bs)(hk:bs.length<=k):RdB w (subO o k a 1) ((bs.drop a).take q):=h.sub hk
theorem ZGx{S:Nat->Prop}{o:Option Addr}(h:Off S o)(c n:Nat):Off S (subO o c n 1):=fun d hd=>by
 unfold subO at hd;split at hd
 ·exact h d hd
 ·cases o with
  |none=>simp at hd
  |some a =>
   simp only[Option.map_some,Option.some.injEq]at hd
   have e:(a.add (n*1)).block=a.block:=by
    obtain⟨b,f,s⟩:=a;simp only[J0];split<;>rfl
   rw[<-hd,e];exact h a rfl
set_option maxHeartbeats 1000000 in
set_option maxRecDepth 10000 in
theorem Z97:∀(f d n:Nat) (bs:By) {w:P} {D k:Nat} {o:Option Addr},2*bs.length+1<=f->bs.length<=65536->RdB w o bs->bs.length<=k->Blk w D 217 #[.int J (n:Int)]->(bs≠[]->Off (·=D) o)->n<=4096->d<=20 ->
  J8 C Z1A.n #[J3 (I ⟨D,0,O⟩),.slice o bs.length k,.int J (d:Int)] w (fun e w'=>Vcg.Mod (·=D) w w'/\ZKH (dcd f d n bs) w D e w')
 |0,_,_,_,_,_,_,_,hf,_,_,_,_,_,_,_=>absurd hf (by omega)
 |f+1,d,n,bs,w,D,k,o,hf,hlen,hr,hk,W,hoff,hn,hd20=>by
  refine ZD fun R hR=>Z1A.vc _ _ _ _ _ _ _ ?_;unfold Z1A.Vc;have hD:=W.lt;rintro d3 w1⟨rfl,rfl⟩;have M1:Vcg.Mod NoB w _:=Mod.alloc w (L #[G V,.slice O 0 0,.slice O 0 0] 111);have X1:=Blk.new w 111 #[G V,.slice O 0 0,.slice O 0 0];have hs1:=ZE w (L #[G V,.slice O 0 0,.slice O 0 0] 111);have W1:=W.mod' M1;have hr1:=hr.mod' M1;generalize hN:w.heap.size=N at *
  generalize w.alloc (L #[G V,.slice O 0 0,.slice O 0 0] 111)=w1 at *
  have M1':Vcg.Mod (·=D) w w1:=M1.mono (fun _ _ h=>h.elim)
  have bad:∀(w':P)(a b c:Value)(x:Int),Vcg.Mod (·=D) w w'->Blk w' N 111 #[a,b,c]->dcd (f+1) d n bs=JJ x->x≠0->∀w'':P,Vcg.Mod (·=N) w' w''->R (Q (T #[J7 #[G V,.slice O 0 0,.slice O 0 0],.int J 0,.int J x])) w'':=by
   intro w' a b c x M X hx h0 w'' M';refine hR _ _ ⟨M.trans M' (fun i hi h=>by omega),?_⟩;rw[hx];exact⟨h0,_,_,_,_,_,_,_,_,rfl⟩
  refine⟨fun h0=>?_,fun h0=>?_⟩
  ·have hb:bs=[]:=J2 (by omega)
   exact Z1J X1 (bad w1 _ _ _ 41 M1' X1 (by rw[hb];exact ZDL f d n) (by decide))
  have hbne:bs≠[]:=by rintro rfl;simp at h0
  by_cases hdn:d>16\/n=4096
  ·refine(ZGp W1 hdn).mono ?_
   rintro _ w1⟨rfl,rfl⟩;exact⟨_,rfl,fun _=>Z1J X1 (bad _ _ _ _ 43 M1' X1 (Z8U hbne hdn) (by decide)),fun h=>absurd h (by decide)⟩
  refine(Z6T W1 (by omega) (by omega)).mono ?_;rintro _ w2⟨rfl,M2,W2⟩;have X2:=X1.mod M2 (by omega);have hr2:=hr1.mod M2 (hoff hbne);have M02:=M1'.trans M2 (fun i hi h=>h);have hs2:=M2.size;refine⟨_,rfl,fun h=>(h rfl).elim,fun _=>?_⟩;refine(ZDf hr2 hbne hk (by omega)).mono ?_;rintro _ w3⟨M3,b1,n1,n2,b2,b3,e0,rfl,hhd⟩;have X3:=X2.mod' M3;have W3:=W2.mod' M3;have hr3:=hr2.mod' M3;have M03:=M02.none_trans M3;have hs3:=M3.size;clear X1 X2 W1 W2 hr1 hr2 M1 M1' M02 M2 M3;refine⟨_,_,_,_,_,_,rfl,?_⟩;rintro d4 w4⟨rfl,rfl⟩;have H4:=Blk.new w3 237 #[G V,.int J 0,.int J 0,G V,G V];have X4:=X3.alloc (L #[G V,.int J 0,.int J 0,G V,G V] 237);have W4:=W3.alloc (L #[G V,.int J 0,.int J 0,G V,G V] 237);have M4:Vcg.Mod NoB w3 _:=Mod.alloc w3 (L #[G V,.int J 0,.int J 0,G V,G V] 237);have hr4:=hr3.mod' M4;have M04:=M03.none_trans M4;have hs4:=ZE w3 (L #[G V,.int J 0,.int J 0,G V,G V] 237);generalize hH:w3.heap.size=H at *
  generalize w3.alloc (L #[G V,.int J 0,.int J 0,G V,G V] 237)=w4 at *
  refine ZId H4 rfl rfl rfl rfl rfl (fun w5 H5 Q5=>?_);have X5:=X4.mod Q5 (by omega);have W5:=W4.mod Q5 (by omega)
  have hr5:RdB w5 o bs:=hr4.mod Q5 (fun e he h=>by
   obtain⟨bb,ff,ho,hb,_⟩:=hr hbne;rw[ho]at he;cases he;simp only at h;omega)
  have M05:=M04.trans Q5 (fun i hi h=>by omega);have hs5:=Q5.size;clear X3 X4 W3 W4 hr3 hr4 M03 M04 M4 Q5 H4;have hdec:=ZGH (f:=f) hbne hdn;cases hh:hd bs with
  |error x =>
   rw[hh]at hhd hdec;obtain⟨rfl,hx0⟩:=hhd;exact⟨fun _=>Z1J X5 (bad _ _ _ _ _ M05 X5 hdec hx0),fun h=>(hx0 h).elim⟩
  |ok r =>
   obtain⟨lst,a,q,ow⟩:=r;rw[hh]at hhd hdec;simp only at hdec;obtain⟨rfl,rfl,rfl,rfl,rfl⟩:=hhd;obtain⟨hat1,hat2⟩:=ZJZ hh hbne
   have ha9:a<=bs.length:=by
    cases b2 with
    |true=>have:=(hat1 rfl).2.1;omega
    |false=>exact(hat2 rfl).2.1
   have hq31:=ZEP hh;refine⟨fun h=>(h rfl).elim,fun _=>⟨_,by rw[Z3];exact H5.rd1 rfl,_,by rw[Z3];exact H5.rd1 rfl,?_⟩⟩;have e1:Z J ((bs.length:Int)-(a:Int))=((bs.length-a:Nat):Int):=by rw[Z0 (by omega) (by omega)];omega
   have e2:Z J ((a:Int)+(q:Int))=((a+q:Nat):Int):=by rw[Z0 (by omega) (by omega)];omega
   rw[e1];refine⟨fun hbig=>?_,fun hbig=>?_⟩
   ·rw[if_pos (by omega)]at hdec
    exact Z1J X5 (bad _ _ _ _ 41 M05 X5 hdec (by decide))
   rw[if_neg (by omega)]at hdec;refine⟨_,by rw[Z3];exact H5.rd1 rfl,_,by rw[Z3];exact H5.rd1 rfl,_,by rw[Z3];exact H5.rd1 rfl,?_⟩;rw[e2];simp only[JD];refine⟨⟨by omega,by omega⟩,⟨by omega,by omega⟩,_,by rw[Z3];exact H5.rd1 rfl,_,by rw[Z3];exact H5.rd1 rfl,_,H5.rd1 rfl,?_⟩;rw[e2];have hin:=ZHR (a:=a) (q:=q) hr5 hk;have hil:((bs.drop a).take q).length=q:=by rw[JK,J1];omega
   have hoffi:Off (fun b=>b=D\/N<=b) (subO o k a 1):=ZGx (fun e he h=>by
    rcases h with h|h
    ·exact hoff hbne e he h
    ·obtain⟨bb,ff,ho,hb,_⟩:=hr hbne
     rw[ho]at he;cases he;simp only at h;omega) k a
   rw[show a+q-a=((bs.drop a).take q).length by omega];generalize hI:(bs.drop a).take q=inn at *
   generalize subO o k a 1=oi at *
   have str:∀{w6:P},Vcg.Mod (·=D) w w6->RdB w6 oi inn->Blk w6 N 111 #[G V,.slice O 0 0,.slice O 0 0]->Blk w6 D 217 #[.int J ((n+1:Nat):Int)]->dcd (f+1) d n bs=.ok (.s inn,a+q,n+1) ->
     J8 C 36 #[(.slice oi inn.length (k-a))] w6 (fun e85 w86=>∃o87:Option Addr,∃l88:Nat,∃l89:Nat,e85=Q (.slice o87 l88 l89)/\Blk w86 N 111 #[G V,.slice O 0 0,.slice O 0 0] /\
      ∀w':P,Vcg.Mod (·=N) w86 w'->R (Q (T #[(J7 #[(G V),(.slice o87 l88 l89),(.slice O 0 0)]),(.int J ((a+q:Nat):Int)),(.int J 0)])) w'):=by
    intro w6 M6 hin6 X6 W6 hd6;refine(Z1s hin6 (by omega)).mono ?_;rintro _ w7⟨o7,k7,rfl,F7⟩;refine⟨_,_,_,rfl,X6.mod' F7.mod,fun w8 M8=>hR _ _ ⟨(M6.none_trans F7.mod).trans M8 (fun i hi h=>by omega),?_⟩⟩;rw[hd6];have hNN:=X6.lt;have hN7:∀b,OB o7 b->¬b=N:=fun b hb h=>by have:=F7.new b hb;omega
    refine⟨((W6.mod' F7.mod).mod M8 (by omega)),_,_,_,rfl,?_⟩;simp only[ItC];refine⟨trivial,⟨o7,k7,rfl,(F7.own.mod M8 hN7).bytes,fun _ dd hdd h=>?_⟩,trivial⟩;have:=F7.new dd.block ⟨dd,hdd,rfl⟩;have:=M6.size;omega
   refine⟨fun hl=>⟨_,by rw[Z3];exact H5.rd1 rfl,fun how=>?_,fun how=>?_⟩,fun hl=>?_⟩
   ·refine(Z6z hin).mono ?_
    rintro _ w6⟨rfl,rfl⟩;rw[if_pos hl]at hdec;refine⟨_,rfl,fun ho=>?_,fun ho=>?_⟩
    ·rw[if_pos ⟨how,ho⟩]at hdec
     exact Z1J X5 (bad _ _ _ _ 40 M05 X5 hdec (by decide))
    ·rw[if_neg (fun h=>by rw[ho]at h;exact absurd h.2 (by decide))]at hdec
     refine(str M05 hin X5 W5 hdec).mono ?_;rintro _ w7⟨o7,l7,k7,rfl,X7,h7⟩;exact⟨_,_,_,rfl,Z1J X7 h7⟩
   ·rw[if_pos hl,if_neg (fun h=>by rw[how]at h;exact absurd h.1 (by decide))]at hdec
    refine(str M05 hin X5 W5 hdec).mono ?_;rintro _ w7⟨o7,l7,k7,rfl,X7,h7⟩;exact⟨_,_,_,rfl,Z1J X7 h7⟩
   rw[if_neg (by rw[hl];decide)]at hdec
   have hof:b2=V:=by
    cases b2 with
    |true=>have:=(hat1 rfl).1;rw[hl]at this;cases this
    |false=>rfl
   have hinl:inn.length<bs.length:=by
    have:=(hat2 hof).1;omega
   rintro dX w6⟨rfl,rfl⟩;have Y6:=Blk.new w5 111 #[G V,.slice O 0 0,.slice O 0 0];have M56:Vcg.Mod NoB w5 _:=Mod.alloc w5 (L #[G V,.slice O 0 0,.slice O 0 0] 111);have X6:=X5.mod' M56;have W6:=W5.mod' M56;have hin6:=hin.mod' M56;have M06:=M05.none_trans M56;have hs6:=ZE w5 (L #[G V,.slice O 0 0,.slice O 0 0] 111);generalize hY:w5.heap.size=Y at *
   generalize w5.alloc (L #[G V,.slice O 0 0,.slice O 0 0] 111)=w6 at *
   refine Z9m Y6 rfl rfl rfl (fun w7 Y7 Q7=>?_);have X7:=X6.mod Q7 (by omega);have W7:=W6.mod Q7 (by omega)
   have hin7:RdB w7 oi inn:=by
    by_cases hie:inn=[]
    ·rw[hie];exact RdB.nil _ _
    ·obtain⟨bb,ff,ho,hb,_⟩:=hin hie
     refine hin6.mod Q7 (fun e he h=>?_);rw[ho]at he;cases he;simp only at h;omega
   have M07:=M06.trans Q7 (fun i hi h=>by omega);have hs7:=Q7.size;clear X6 W6 Y6 hin6 M06 M56 Q7 X5 W5 hin M05 H5 str
   refine⟨fun o' l' k' w'=>∃(rest:By)(n':Nat)(xs:List It)(f':Nat)(ol:Option Addr)(kl:Nat)(v:Value),
    l'=rest.length/\RdB w' o' rest/\Off (fun b=>b=D\/N<=b) o'/\rest.length<=k'/\rest.length<=inn.length/\xs.length+rest.length<=inn.length/\Blk w' D 217 #[.int J (n':Int)]/\n'<=4096 /\
    Blk w' Y 111 #[G JG,.slice O 0 0,.slice ol xs.length kl]/\(∃a b c,Blk w' N 111 #[a,b,c])/\Z4A (fun b=>b<w7.heap.size) w' xs ol xs.length kl/\(∀b,OB ol b->w7.heap.size<=b)/\Vcg.Mod (·=D) w w'/\w7.heap.size<=w'.heap.size /\
    Z9l f (d+1) (n+1) inn=pre xs (Z9l f' (d+1) n' rest)/\2*rest.length+2<=f'/\f'<=f,fun _ l' _ _=>l',?_,?_⟩
   ·exact⟨inn,n+1,[],f,O,0,.nilIface,rfl,hin7,hoffi,by omega,JF _,by simp,W7,by omega,by rw[hl]at *;exact Y7,⟨_,_,_,X7⟩,Z4A.nil _ _,fun b hb=>(Z4j b hb).elim,M07,JF _,(ZH5 _).symm,by omega,JF _⟩
   ·rintro o8 _ c8 _ w8⟨rest,n',xs,f',ol,kl,_,rfl,hr8,hoff8,hc8,hrl,hxr,W8,hn',Y8,⟨xa,xb,xc,X8⟩,I8,hnew,M08,hs8,hde,hf',hff⟩
    refine⟨fun hpos=>?_,fun hpos=>?_⟩
    ·have hrne:rest≠[]:=by rintro rfl;simp at hpos
     obtain⟨f2,rfl⟩:∃f2,f'=f2+1:=⟨f'-1,by omega⟩;rw[ZDM hrne]at hde;have ed:Z J ((d:Int)+1)=((d+1:Nat):Int):=by rw[Z0 (by omega) (by omega)];omega
     rw[ed];refine(Z97 f2 (d+1) n' rest (by omega) (by omega) hr8 hc8 W8 (fun _ e he h=>hoff8 e he (JL h)) hn' (by omega)).mono ?_;rintro e w9⟨M9,hdi⟩;have hs9:=M9.size;have Y9:=Y8.mod M9 (by omega);have X9:=X8.mod M9 (by omega);have I9:=I8.modS M9 (fun b hb=>by omega) (fun b hb h=>by have:=hnew b hb;omega);have M09:=M08.trans M9 (fun i hi h=>h);have hr9:=hr8.mod M9 (fun e he h=>hoff8 e he (JL h));cases hd1:dcd f2 (d+1) n' rest with
     |error x =>
      rw[hd1]at hdi hde;obtain⟨hx0,bb,p1,q1,r1,p2,q2,r2,m1,rfl⟩:=hdi;refine⟨_,_,_,_,_,_,_,_,_,rfl,?_⟩;rintro dA wA⟨rfl,rfl⟩;have HA:=Blk.new w9 111 #[G V,.slice O 0 0,.slice O 0 0];have XA:=X9.alloc (L #[G V,.slice O 0 0,.slice O 0 0] 111);have MA:=M09.step_alloc (L #[G V,.slice O 0 0,.slice O 0 0] 111);refine Z9m HA rfl rfl rfl (fun wB HB QB=>?_);have XB:=XA.mod QB (by omega);have MB:=MA.trans QB (fun i hi h=>by omega);exact⟨fun _=>Z1J XB (bad _ _ _ _ _ MB XB (by rw[hdec,hde];rfl) hx0),fun h=>(hx0 h).elim⟩
     |ok r =>
      obtain⟨y,q',m'⟩:=r;rw[hd1]at hdi hde;simp only at hde;obtain⟨W9,v1,v2,v3,rfl,hy⟩:=hdi;obtain⟨k1,k2,k3,k4,k5,k6⟩:=(Z91 f2 (d+1) n' rest).1 _ _ _ hd1;obtain⟨bb,p1,q1,r1,p2,q2,r2,rfl,rfl,rfl⟩:=hy.vals;refine⟨_,_,_,_,_,_,_,_,_,rfl,?_⟩;rintro dA wA⟨rfl,rfl⟩;have HA:=Blk.new w9 111 #[G V,.slice O 0 0,.slice O 0 0];have M9A:Vcg.Mod NoB w9 _:=Mod.alloc w9 (L #[G V,.slice O 0 0,.slice O 0 0] 111);have hsA:=ZE w9 (L #[G V,.slice O 0 0,.slice O 0 0] 111);generalize hHA:w9.heap.size=HH at *
      generalize w9.alloc (L #[G V,.slice O 0 0,.slice O 0 0] 111)=wA at *
      refine Z9m HA rfl rfl rfl (fun wB HB QB=>?_);have M9B:Vcg.Mod NoB w9 wB:=ZI M9A QB (by omega);have XB:=X9.mod' M9B;have YB:=Y9.mod' M9B;have WB:=W9.mod' M9B;have hyB:=ItC.mod M9B _ hy;have hrB:=hr9.mod' M9B;have IB:=I9.mod' M9B;have MB:=M09.none_trans M9B;have hsB:=M9B.size;clear HA M9A QB X9 Y9 W9 hr9 I9 M09 hy;refine⟨fun h=>(h rfl).elim,fun _=>?_⟩;rintro _ rfl;have MBC:Vcg.Mod NoB wB wB.drew:=Mod.drew wB;have XC:=XB.mod' MBC;have YC:=YB.mod' MBC;have WC:=WB.mod' MBC;have HC:=HB.mod' MBC;have hyC:=ItC.mod MBC _ hyB;have hrC:=hrB.mod' MBC;have IC:=IB.mod' MBC;have MC:=MB.none_trans MBC;have hsC:=MBC.size;clear XB YB WB HB hyB hrB IB MB MBC;generalize wB.drew=wC at *
      refine⟨_,_,_,by rw[Z3];exact YC.rd1 rfl,Z60 HC ⟨⟨by omega,by omega⟩,?_⟩⟩;rintro dD wD⟨rfl,rfl⟩;have MD:Vcg.Mod NoB wC _:=Mod.alloc wC (L #[G bb,.slice p1 q1 r1,.slice p2 q2 r2] 111);have E:=Blk.new wC 111 #[G bb,.slice p1 q1 r1,.slice p2 q2 r2];have XD:=XC.mod' MD;have YD:=YC.mod' MD;have WD:=WC.mod' MD;have hyD:=ItC.mod MD _ hyC;have hrD:=hrC.mod' MD;have ID:=IC.mod' MD;have M0D:=MC.none_trans MD;have hsD:=MD.size;clear XC YC WC HC hyC hrC IC MC;generalize wC.heap.size=HE at *
      generalize wC.alloc (L #[G bb,.slice p1 q1 r1,.slice p2 q2 r2] 111)=wD at *
      refine⟨by rw[Z3];exact YD.rd1 rfl,?_⟩;have hlt8:=I8.lt
      obtain⟨o',k',wE,hrun,IE,QE,hOB⟩:=ID.push E (ItC.mono (fun b hb=>by
       rcases hb with h|h
       ·exact Nat.lt_of_lt_of_le h hs8
       ·exact hlt8 b h) _ hyD) (by omega)
      have nE:∀b,OB o' b->w7.heap.size<=b:=fun b hb=>by
       rcases hOB b hb with h|h
       ·exact hnew b h
       ·omega
      have XE:=XD.mod QE (fun h=>by have:=hnew _ h;omega);have YE:=YD.mod QE (fun h=>by have:=hnew _ h;omega);have WE:=WD.mod QE (fun h=>by have:=hnew _ h;omega);have hrE:RdB wE o8 rest:=hrD.mod QE (fun e he h=>hoff8 e he (JP (by have:=hnew _ h;omega)));have M0E:=M0D.trans QE (fun i hi h=>by have:=hnew _ h;omega);have hsE:=QE.size;refine⟨_,wE,hrun,_,_,_,rfl,?_⟩;rw[Z3];refine⟨YE.canSet (by simp) rfl,?_⟩;rintro _ rfl;have QF:Vcg.Mod (·=Y) wE _:=Mod.setCell wE ⟨Y,0+2,O⟩ (.slice o' (xs.length+1) k');have YF:=YE.set 2 (.slice o' (xs.length+1) k');have IF:=IE.modS QF (fun b hb=>by omega) (fun b hb h=>by have:=nE b hb;omega);have XF:=XE.mod QF (by omega);have WF:=WE.mod QF (by omega);have hrF:RdB _ o8 rest:=hrE.mod QF (fun e he h=>hoff8 e he (JP (by omega)));have M0F:=M0E.trans QF (fun i hi h=>by omega);have hsF:=QF.size;rw[JD];refine⟨⟨rest.drop q',m',xs++[y],f2,o',k',.nilIface,by rw[J1],Z7H hrF hc8,ZGx hoff8 _ _,by rw[J1];omega,by rw[J1];omega,by rw[JC,J1,JE];omega,WF,by omega,by rw[JC,JE];exact YF,⟨_,_,_,XF⟩,by rw[JC,JE];exact IF,nE,M0F,by omega,?_,by rw[J1];omega,by omega⟩,by dsimp only;omega⟩;rw[hde,<-ZH6];congr 1
    ·obtain rfl:rest=[]:=J2 (by omega)
     obtain⟨f2,rfl⟩:∃f2,f'=f2+1:=⟨f'-1,by omega⟩;rw[ZAt]at hde;have hits:=I8.its (fun b hb h=>by have:=hnew b h;omega);refine Z60 Y8 (Z1J X8 (fun w9 M9=>hR _ _ ⟨M08.trans M9 (fun i hi h=>by omega),?_⟩));rw[hdec,hde];simp only[pre,List.append_nil];refine⟨W8.mod M9 (by omega),_,_,_,rfl,?_⟩;simp only[ItC];exact⟨trivial,trivial,ol,kl,rfl,Z1q.mono (fun b hb=>by omega) _ (Z1q.modA M9 (fun b hb=>by omega) _ hits),I8.cap⟩
def Z49(bs:By)(w:P)(e:JM)(w':P):Prop :=
 if bs.length>65536 then ∃b o1 l1 k1 o2 l2 k2 n1,e=Q (T #[J7 #[G b,.slice o1 l1 k1,.slice o2 l2 k2],.int J n1,.int J 44])
 else match dcd (2*bs.length+1) 1 0 bs with
 | JJ x=>x≠0/\∃b o1 l1 k1 o2 l2 k2 n1,e=Q (T #[J7 #[G b,.slice o1 l1 k1,.slice o2 l2 k2],.int J n1,.int J x])
 | .ok (x,q,_)=>∃v1 v2 v3,e=Q (T #[J7 #[v1,v2,v3],.int J (q:Int),.int J 0])/\ItC (fun b=>b<w.heap.size) w' x v1 v2 v3
def Z37(bs:By)(w:P)(e:JM)(w':P):Prop:=match Z5z bs with
 | JJ x=>x≠0/\∃b o1 l1 k1 o2 l2 k2,e=Q (T #[J7 #[G b,.slice o1 l1 k1,.slice o2 l2 k2],.int J x])
 | .ok x=>∃v1 v2 v3,e=Q (T #[J7 #[v1,v2,v3],.int J 0])/\ItC (fun b=>b<w.heap.size) w' x v1 v2 v3
theorem ZD5{w:P}{o:Option Addr}{k:Nat}{bs:By}(hr:RdB w o bs)(hk:bs.length<=k) :
  J8 C Z4X.n #[.slice o bs.length k] w (fun e w'=>Vcg.Mod NoB w w'/\Z49 bs w e w'):=by
 refine ZD fun R hR=>Z4X.vc _ _ _ _ _ ?_;unfold Z4X.Vc;rintro d1 w1⟨rfl,rfl⟩;have M1:Vcg.Mod NoB w _:=Mod.alloc w (L #[G V,.slice O 0 0,.slice O 0 0] 111);have X1:=Blk.new w 111 #[G V,.slice O 0 0,.slice O 0 0];have hs1:=ZE w (L #[G V,.slice O 0 0,.slice O 0 0] 111);have hr1:=hr.mod' M1;generalize hN:w.heap.size=N at *
 generalize w.alloc (L #[G V,.slice O 0 0,.slice O 0 0] 111)=w1 at *
 refine⟨fun hbig=>?_,fun hbig=>?_⟩
 ·refine Z1J X1 (fun w2 M2=>hR _ _ ⟨ZI M1 M2 (by omega),?_⟩)
  unfold Z49;rw[if_pos (by omega)];exact⟨_,_,_,_,_,_,_,_,rfl⟩
 ·rintro d2 w2⟨rfl,rfl⟩
  have M12:Vcg.Mod NoB w1 _:=Mod.alloc w1 (L #[.int J 0] 217);have W2:=Blk.new w1 217 #[.int J ((0:Nat):Int)];have X2:=X1.mod' M12;have hr2:=hr1.mod' M12;have M2:=M1.none_trans M12;have hs2:=ZE w1 (L #[.int J 0] 217)
  have hoff:bs≠[]->Off (·=w1.heap.size) o:=fun hne e he h=>by
   obtain⟨b,f,ho,hb,_⟩:=hr hne;rw[ho]at he;cases he;simp only at h;omega
  have hc:=Z97 (2*bs.length+1) 1 0 bs (k:=k) (JF _) (by omega) hr2 hk W2 hoff (by omega) (by omega);refine Calls.mono (R:=fun e w'=>Vcg.Mod (·=w1.heap.size) (w1.alloc (L #[.int J 0] 217)) w'/\ZKH (dcd (2*bs.length+1) 1 0 bs) (w1.alloc (L #[.int J 0] 217)) w1.heap.size e w') hc ?_;rintro e w3⟨M3,hd⟩;have M03:Vcg.Mod NoB w w3:=ZI M2 M3 (by omega);have X3:=X2.mod M3 (by omega);cases hdc:dcd (2*bs.length+1) 1 0 bs with
  |error x =>
   rw[hdc]at hd;obtain⟨hx,b,p1,q1,r1,p2,q2,r2,n1,rfl⟩:=hd;refine⟨_,_,_,_,_,_,_,_,_,rfl,Z1J X3 (fun w4 M4=>hR _ _ ⟨ZI M03 M4 (by omega),?_⟩)⟩;unfold Z49;rw[if_neg (by omega),hdc];exact⟨hx,_,_,_,_,_,_,_,_,rfl⟩
  |ok r =>
   obtain⟨y,q,m⟩:=r;rw[hdc]at hd;obtain⟨W3,v1,v2,v3,rfl,hy⟩:=hd;obtain⟨bb,p1,q1,r1,p2,q2,r2,rfl,rfl,rfl⟩:=hy.vals;refine⟨_,_,_,_,_,_,_,_,_,rfl,Z1J X3 (fun w4 M4=>hR _ _ ⟨ZI M03 M4 (by omega),?_⟩)⟩;unfold Z49;rw[if_neg (by omega),hdc];refine⟨_,_,_,rfl,ItC.mono (fun b hb=>?_) _ (ItC.modA M4 (fun b hb=>?_) _ hy)⟩
   ·have:b<w.heap.size:=hb
    omega
   ·show b<_
    rw[hs2];omega
theorem Z7v{w:P}{o:Option Addr}{k:Nat}{bs:By}(hr:RdB w o bs)(hk:bs.length<=k) :
  J8 C Z3f.n #[.slice o bs.length k] w (fun e w'=>Vcg.Mod NoB w w'/\Z37 bs w e w'):=by
 refine ZD fun R hR=>Z3f.vc _ _ _ _ _ ?_;unfold Z3f.Vc;rintro d1 w1⟨rfl,rfl⟩;have M1:Vcg.Mod NoB w _:=Mod.alloc w (L #[G V,.slice O 0 0,.slice O 0 0] 111);have X1:=Blk.new w 111 #[G V,.slice O 0 0,.slice O 0 0];have hs1:=ZE w (L #[G V,.slice O 0 0,.slice O 0 0] 111);have hr1:=hr.mod' M1;generalize hN:w.heap.size=N at *
 generalize w.alloc (L #[G V,.slice O 0 0,.slice O 0 0] 111)=w1 at *
 refine(ZD5 hr1 hk).mono ?_;rintro e w2⟨M2,hf⟩;have M02:=M1.none_trans M2;have X2:=X1.mod' M2;have hs2:=M2.size
 have bad:∀(w':P)(x:Int),Z5z bs=JJ x->x≠0->Vcg.Mod NoB w w'->Blk w' N 111 #[G V,.slice O 0 0,.slice O 0 0]->∀w'':P,Vcg.Mod (·=N) w' w''->R (Q (T #[J7 #[G V,.slice O 0 0,.slice O 0 0],.int J x])) w'':=by
  intro w' x hx h0 M X w'' M';refine hR _ _ ⟨ZI M M' (by omega),?_⟩;unfold Z37;rw[hx];exact⟨h0,_,_,_,_,_,_,_,rfl⟩
 have key:(∃b p1 q1 r1 p2 q2 r2 n1 x,e=Q (T #[J7 #[G b,.slice p1 q1 r1,.slice p2 q2 r2],.int J n1,.int J x])/\x≠0/\Z5z bs=JJ x) \/
   (∃y q m v1 v2 v3,¬bs.length>65536/\dcd (2*bs.length+1) 1 0 bs=.ok (y,q,m)/\e=Q (T #[J7 #[v1,v2,v3],.int J (q:Int),.int J 0])/\ItC (fun b=>b<w1.heap.size) w2 y v1 v2 v3):=by
  unfold Z49 at hf;split at hf
  ·rename_i hbig
   obtain⟨b,p1,q1,r1,p2,q2,r2,n1,he⟩:=hf;exact JL ⟨_,_,_,_,_,_,_,_,_,he,by decide,by unfold Z5z;rw[if_pos hbig]⟩
  ·rename_i hbig
   split at hf
   ·rename_i x hdc
    obtain⟨hx,b,p1,q1,r1,p2,q2,r2,n1,he⟩:=hf;exact JL ⟨_,_,_,_,_,_,_,_,_,he,hx,by unfold Z5z;rw[if_neg hbig,hdc]⟩
   ·rename_i y q m hdc
    obtain⟨v1,v2,v3,he,hy⟩:=hf;exact JP ⟨_,_,_,_,_,_,hbig,hdc,he,hy⟩
 rcases key with⟨b,p1,q1,r1,p2,q2,r2,n1,x,rfl,hx,hdc⟩|⟨y,q,m,v1,v2,v3,hbig,hdc,rfl,hy⟩
 ·refine⟨_,_,_,_,_,_,_,_,_,rfl,?_⟩
  rintro d3 w3⟨rfl,rfl⟩;have H:=Blk.new w2 111 #[G V,.slice O 0 0,.slice O 0 0];have M23:Vcg.Mod NoB w2 _:=Mod.alloc w2 (L #[G V,.slice O 0 0,.slice O 0 0] 111);refine Z9m H rfl rfl rfl (fun w4 H4 Q4=>?_);have M24:Vcg.Mod NoB w2 w4:=ZI M23 Q4 (JF _);exact⟨fun _=>Z1J (X2.mod' M24) (bad w4 x hdc hx (M02.none_trans M24) (X2.mod' M24)),fun h=>(hx h).elim⟩
 ·obtain⟨bb,p1,q1,r1,p2,q2,r2,rfl,rfl,rfl⟩:=hy.vals
  refine⟨_,_,_,_,_,_,_,_,_,rfl,?_⟩;rintro d3 w3⟨rfl,rfl⟩;have H:=Blk.new w2 111 #[G V,.slice O 0 0,.slice O 0 0];have M23:Vcg.Mod NoB w2 _:=Mod.alloc w2 (L #[G V,.slice O 0 0,.slice O 0 0] 111);refine Z9m H rfl rfl rfl (fun w4 H4 Q4=>?_);have M24:Vcg.Mod NoB w2 w4:=ZI M23 Q4 (JF _);have X4:=X2.mod' M24;have hy4:=ItC.mod M24 _ hy;refine⟨fun h=>(h rfl).elim,fun _=>⟨fun hlt=>?_,fun hlt=>?_⟩⟩
  ·refine Z1J X4 (bad w4 42 ?_ (by decide) (M02.none_trans M24) X4)
   unfold Z5z;rw[if_neg hbig,hdc];simp only;rw[if_pos (by omega)]
  ·refine Z60 H4 (Z1J X4 (fun w5 M5=>hR _ _ ⟨ZI (M02.none_trans M24) M5 (by omega),?_⟩))
   have hd:Z5z bs=.ok y:=by
    unfold Z5z;rw[if_neg hbig,hdc];simp only;rw[if_neg (by omega)]
   unfold Z37;rw[hd];refine⟨_,_,_,rfl,ItC.mono (fun b hb=>?_) _ (ItC.modA M5 (fun b hb=>?_) _ hy4)⟩
   ·have:b<w.heap.size:=hb
    show b<w1.heap.size;omega
   ·show b<w1.heap.size
    omega
end Go.Proofs.YtfghidehlnfdiaaGreat
end
