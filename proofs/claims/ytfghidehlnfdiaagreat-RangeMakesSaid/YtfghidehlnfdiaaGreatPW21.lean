/- Contracts of the reference: the maker's hash and item; ProveRange. -/
/- The walk of ProofMakes. -/
/- Contracts: the reference's ProveRange; sized; the walk of RangeMakes. -/
/- Arguments: how long they can be. -/
/- Keys with values as arguments; how long what came in can be. -/
/- A hash, lists of bytes as arguments. -/
/- Entries as arguments. -/
import Derived.Test.YtfghidehlnfdiaaGreatRG10
import Derived.Test.YtfghidehlnfdiaaGreatRG2
import Derived.Test.YtfghidehlnfdiaaGreatTP3
import Derived.SizedLaws
import Derived.Test.YtfghidehlnfdiaaGreatRows
import Derived.Test.YtfghidehlnfdiaaGreatPW17
set_option linter.unusedVariables false
set_option linter.unusedSimpArgs false
section
namespace Go.Proofs.YtfghidehlnfdiaaGreat
open Go Go.Vcg Go.Trie
section
variable {l:RS} {a b:By} {D f:Nat}
theorem Z7W (hb:∀x∈l,x.2.length≤2 ^ 30) (hlen:l.length≤4096) (ha32:a.length=32) (hb32:b.length=32) (P:ZDW l a b D f) {w:World} {lab:Nat→Nat} {s:RS} {h:By} {o:Option Addr} {k:Nat} {path:By} (hI:MkS l a b D w lab s 0) (hh:h.length=32) (hp:CBy w lab 6 o path) (hk:path.length≤k) (hnib:Nib path) (hf:66≤f+1+path.length) (hl:path.length≤64) :
  Calls Tryz.prog Zf.n #[.pointer (some ⟨D,0,none⟩),.agg (hashA h),.slice o path.length k] w (fun e w'=>e=.returned (.tuple #[])∧∃lab',Stp SM' w lab w' lab'∧MkS l a b D w' lab' (visQ l (nibbles a) (nibbles b) (f+1) s (.s h) path).1 (ZD1 (visQ l (nibbles a) (nibbles b) (f+1) s (.s h) path).2)):=by
 refine ZH fun R hR=>Zf.vc _ _ _ _ _ _ _ ?_
 unfold Zf.Vc
 have hne:h≠[]:=by rintro rfl; cases hh
 rintro d w1 ⟨rfl,rfl⟩
 have st1:Stp NoS w lab (w.alloc (.cells (hashA h) 27)) (ext lab w.heap.size 5):=Stp.alloc NoS w lab _ 5
 have H1:=CB.new w lab 5 27 (hashA h)
 have I1:=hI.no st1
 have P1:=hp.stp st1 (fun h=>h)
 generalize w.heap.size=E at *
 generalize w.alloc (.cells (hashA h) 27)=w1 at *
 generalize ext lab E 5=lab1 at *
 rintro _ rfl
 have st2:Stp NoS w1 lab1 w1.drew lab1:=Stp.drew NoS w1 lab1
 have I2:=I1.no st2
 have H2:=H1.stp st2 (fun h=>h)
 have P2:=P1.stp st2 (fun h=>h)
 have st02:=st1.trans st2
 clear I1 H1 P1 st1 st2
 generalize w1.drew=w2 at *
 have off:∀w' lab',Stp NoS w2 lab1 w' lab'→Off (nibbles a) (nibbles b) path→R (.returned (.tuple #[])) w':=fun w' lab' st ho=>by
  have e:visQ l (nibbles a) (nibbles b) (f+1) s (.s h) path=(s,none):=by
   show (if Off (nibbles a) (nibbles b) path∨h=[] then (s,none) else _)=_
   rw [if_pos (.inl ho)]
  rw [e] at hR
  exact hR _ _ ⟨rfl,lab',(st02.trans st).mono (fun _ h=>h.elim),I2.no st⟩
 obtain ⟨ol,kl,oo,n,ko,e1,e2,e3⟩:=I2.ex
 refine ⟨0,I2.rdBad,fun h=>(h rfl).elim,fun _=>⟨hashA a,?_,hashA b,?_,?_⟩⟩
 ·exact ⟨ZB a,fun i hi=>by rw [Z6,Z6,← ZHm (o:=ol) (n:=l.length) (k:=kl) (b:=b) hi,e1.blk.cell,show 0+1+i=1+i by omega,Z8b (Z2i ..) (by omega)]⟩
 ·exact ⟨ZB b,fun i hi=>by rw [Z6,Z6,← ZHn (o:=ol) (n:=l.length) (k:=kl) (a:=a) hi,e1.blk.cell,show 0+33+i=33+i by omega,Z8b (Z2i ..) (by omega)]⟩
 refine (ZBc (k:=k) ha32 hb32 P2.rd hl).mono ?_
 rintro _ w3 ⟨rfl,M3⟩
 have st3:Stp NoS w2 lab1 w3 (ext lab1 w2.heap.size 5):=Stp.of_nob M3 5
 refine ⟨_,rfl,fun hv=>off _ _ st3 (.inr hv),fun hv=>?_⟩
 have hon:¬Off (nibbles a) (nibbles b) path:=fun h=>h.elim (fun h=>by omega) (fun h=>h hv)
 have hvis:visQ l (nibbles a) (nibbles b) (f+1) s (.s h) path=Z5A (visQ l (nibbles a) (nibbles b) f) l s h path:=by
  show (if Off (nibbles a) (nibbles b) path∨h=[] then (s,none) else _)=_
  rw [if_neg (fun h=>h.elim hon hne)]
 rw [hvis] at hR
 rintro _ rfl
 have st4:=st3.trans (Stp.drew NoS w3 (ext lab1 w2.heap.size 5))
 have I4:=I2.no st4
 have H4:=H2.stp st4 (fun h=>h)
 have P4:=P2.stp st4 (fun h=>h)
 have st04:=st02.trans st4
 clear off I2 H2 P2 st02 st3 st4 e1 e2 e3 M3
 generalize w3.drew=w4 at *
 generalize ext lab1 w2.heap.size 5=lab4 at *
 obtain ⟨ol,kl,oo,n,ko,e1,e2,e3⟩:=I4.ex
 refine ⟨_,_,_,by have:=e1.blk.rd1 (i:=0) (v:=.slice ol l.length kl) (by rw [Z8b (Z2i ..) (by omega)]; rfl); exact this,hashA h,H4.blk.rowAll (ZB _),?_⟩
 refine (Z7l (k:=kl) e2 hh (by omega)).mono ?_
 rintro e w5 ⟨M5,hno,hyes⟩
 have st5:Stp NoS w4 lab4 w5 (ext lab4 w4.heap.size 5):=Stp.of_nob M5 5
 have I5:=I4.no st5
 have H5:=H4.stp st5 (fun h=>h)
 have P5:=P4.stp st5 (fun h=>h)
 have st05:=st04.trans st5
 have hyes5:∀b,Z1G l h=some b→∃ob kb,e=.returned (.tuple #[.slice ob b.length kb,.bool true])∧CBy w5 (ext lab4 w4.heap.size 5) 0 ob b∧b.length≤kb:=fun b hb=>by
  obtain ⟨ob,kb,h1,h2,h3⟩:=hyes b hb
  exact ⟨ob,kb,h1,h2.stp st5 (fun h=>h),h3⟩
 clear hyes I4 H4 P4 st04 st5 e1 e2 e3 M5
 generalize ext lab4 w4.heap.size 5=lab5 at *
 cases hfn:Z1G l h with
 | none =>
   obtain rfl:=hno hfn
   obtain ⟨g1,g2⟩:=I5.setBad 160
   refine ⟨_,_,_,_,rfl,fun _=>⟨g1,fun w6 h6=>?_⟩,fun h=>(by cases h)⟩
   obtain ⟨st6,I6⟩:=g2 w6 h6
   have e:Z5A (visQ l (nibbles a) (nibbles b) f) l s h path=(s,some 160):=by unfold Z5A; rw [hfn]
   rw [e] at hR
   exact hR _ _ ⟨rfl,lab5,(st05.mono (fun _ h=>h.elim)).trans st6,I6⟩
 | some c =>
   obtain ⟨oc,kc,rfl,hc5,hck⟩:=hyes5 c hfn
   clear hno hyes5
   have hc30:c.length≤2 ^ 30:=hb _ (Z5S hfn)
   refine ⟨_,_,_,_,rfl,fun h=>(by cases h),fun _=>?_⟩
   refine (ZAZ hc5.rd hck).mono ?_
   rintro _ w6 ⟨rfl,M6⟩
   have st6:Stp NoS w5 lab5 w6 (ext lab5 w5.heap.size 5):=Stp.of_nob M6 5
   have I6:=I5.no st6
   have H6:=H5.stp st6 (fun h=>h)
   have P6:=P5.stp st6 (fun h=>h)
   have hc6:=hc5.stp st6 (fun h=>h)
   have st06:=st05.trans st6
   clear I5 H5 P5 hc5 st05 st6 M6
   generalize ext lab5 w5.heap.size 5=lab6 at *
   refine ⟨_,rfl,fun hne'=>?_,fun h0=>?_⟩
   ·obtain ⟨g1,g2⟩:=I6.setBad 161
    refine ⟨g1,fun w7 h7=>?_⟩
    obtain ⟨st7,I7⟩:=g2 w7 h7
    have e:Z5A (visQ l (nibbles a) (nibbles b) f) l s h path=(s,some 161):=by
     unfold Z5A; rw [hfn]; exact if_pos hne'
    rw [e] at hR
    exact hR _ _ ⟨rfl,lab6,(st06.mono (fun _ h=>h.elim)).trans st7,I7⟩
   ·obtain ⟨xs,hdc,hn,hg⟩:=Z2D h0
    have hres:Z5A (visQ l (nibbles a) (nibbles b) f) l s h path=eachW (visQ l (nibbles a) (nibbles b) f) (if met s h then s else s++[(h,c)]) xs path:=by
     unfold Z5A; rw [hfn]
     refine (if_neg (by simp [h0])).trans ?_
     rw [hdc]
    rw [hres] at hR
    rintro _ rfl
    have st7:Stp NoS w6 lab6 w6.drew lab6:=Stp.drew NoS w6 lab6
    have I7:=I6.no st7
    have H7:=H6.stp st7 (fun h=>h)
    have P7:=P6.stp st7 (fun h=>h)
    have hc7:=hc6.stp st7 (fun h=>h)
    have st07:=st06.trans st7
    clear I6 H6 P6 hc6 st06 st7
    generalize w6.drew=w7 at *
    obtain ⟨ol,kl,oo,n,ko,e1,e2,e3⟩:=I7.ex
    have hsl:=I7.laid.len
    obtain ⟨hn1,_⟩:=id e3
    subst hn1
    refine ⟨_,_,_,by rw [Z6]; exact e1.blk.rd1 (ZCS (Z2i ..)),hashA h,H7.blk.rowAll (ZB _),?_⟩
    refine (Z7l (k:=ko) e3.row hh (by omega)).mono ?_
    rintro e w8 ⟨M8,hno,hyes⟩
    have st8:Stp NoS w7 lab6 w8 (ext lab6 w7.heap.size 5):=Stp.of_nob M8 5
    have I8:=I7.no st8
    have H8:=H7.stp st8 (fun h=>h)
    have P8:=P7.stp st8 (fun h=>h)
    have hc8:=hc7.stp st8 (fun h=>h)
    have st08:=st07.trans st8
    have he:∃ob lb kb,e=.returned (.tuple #[.slice ob lb kb,.bool (met s h)]):=by
     rw [← ZE0]
     cases hq:Z1G s h with
     | none=>exact ⟨_,_,_,hno hq⟩
     | some q=>obtain ⟨ob,kb,h1,_⟩:=hyes q hq; exact ⟨_,_,_,h1⟩
    obtain ⟨ob,lb,kb,rfl⟩:=he
    clear hno hyes I7 H7 P7 hc7 st07 st8 e1 e2 e3 M8
    generalize ext lab6 w7.heap.size 5=lab8 at *
    refine ⟨_,_,_,_,rfl,fun w'=>∃lab',Stp SM' w8 lab8 w' lab'∧MkS l a b D w' lab' (if met s h then s else s++[(h,c)]) 0,⟨fun hm=>?_,fun hm=>⟨lab8,Stp.refl _ _ _,by rw [hm]; exact I8⟩⟩,?_⟩
    ·rintro _ rfl
     have st9:Stp NoS w8 lab8 w8.drew lab8:=Stp.drew NoS w8 lab8
     have I9:=I8.no st9
     have H9:=H8.stp st9 (fun h=>h)
     have hc9:=hc8.stp st9 (fun h=>h)
     generalize w8.drew=w9 at *
     obtain ⟨ol,kl,oo,n,ko,e1,e2,e3⟩:=I9.ex
     have c65:∀{w':World} {lab':Nat→Nat},CB w' lab' 7 D 96 (mkA (mkP ol l.length kl a b) (.slice oo n ko) (.int .i64 0))→World.cell? w' (Addr.add ⟨D,0,none⟩ 65)=some (.slice oo n ko):=fun h=>by rw [Z6]; exact h.blk.rd1 (ZCS (Z2i ..))
     refine ⟨_,_,_,c65 e1,hashA h,H9.blk.rowAll (ZB _),?_⟩
     obtain ⟨o10,k10,w10,hr10,F10⟩:=Z1N (k2:=kc) (ty:=Z07) (Mod.refl w9) hc9.rd (by omega)
     have st10:Stp NoS w9 lab8 w10 (ext lab8 w9.heap.size 10):=Stp.of_nob F10.mod 10
     have c10:CBy w10 (ext lab8 w9.heap.size 10) 10 o10 c:=⟨ZQ F10,fun _ d hd=>ext_new (F10.new d.block ⟨d,hd,rfl⟩)⟩
     have e1a:=e1.stp st10 (fun h=>h)
     have e2a:=e2.stp st10 (fun h=>h)
     have e3a:=e3.stp st10 (fun h=>h) (fun h=>h)
     have H10:=H9.stp st10 (fun h=>h)
     have hZ:nd0.size=33:=rfl
     refine ⟨_,w10,hr10,_,_,_,rfl,H10.blk.rowAll (ZB _),c65 e1a,ZB h,by rw [Zb]; unfold lputL; rw [Zb,hZ],?_⟩
     rw [Z6u hZ]
     rintro d11 w11 ⟨rfl,rfl⟩
     have st11:Stp NoS w10 (ext lab8 w9.heap.size 10) (w10.alloc (.cells (ndA h o10 c.length k10) tNd)) (ext (ext lab8 w9.heap.size 10) w10.heap.size 5):=Stp.alloc NoS w10 _ _ 5
     have B11:=Blk.new w10 tNd (ndA h o10 c.length k10)
     have e1b:=e1a.stp st11 (fun h=>h)
     have e2b:=e2a.stp st11 (fun h=>h)
     have e3b:=e3a.stp st11 (fun h=>h) (fun h=>h)
     have c11:=c10.stp st11 (fun h=>h)
     have st911:=st10.trans st11
     change World.cell? (w10.alloc (.cells (ndA h o10 c.length k10) tNd)) (Addr.add ⟨D,0,none⟩ 65)=some (.slice oo n ko)∧∃(v69:Value) (w70:World),Sem.run Tryz.prog (builtinV .append #[Z39,Z39] Z39 #[(.slice oo n ko),(.slice (some ⟨w10.heap.size,0,none⟩) 1 1)]) (w10.alloc (.cells (ndA h o10 c.length k10) tNd))=.ok v69 w70∧_
     generalize w10.alloc (.cells (ndA h o10 c.length k10) tNd)=w11 at *
     generalize ext (ext lab8 w9.heap.size 10) w10.heap.size 5=lab11 at *
     obtain ⟨o12,k12,w12,hr12,O12,st12⟩:=e3b.push (by decide) B11 hh c11 F10.own.cap.1 (by omega)
     have e1c:=e1b.stp st12 (by decide)
     have e2c:=e2b.stp st12 (by decide)
     refine ⟨c65 e1b,_,w12,hr12,o12,_,k12,rfl,?_⟩
     rw [Z6,Nat.zero_add]
     refine ⟨e1c.blk.canSet (by rw [Z9F (Z2i ..)]; omega) rfl,?_⟩
     rintro _ rfl
     have st13:Stp (fun k=>k=7) w12 (ext lab11 w11.heap.size 8) (w12.setCell ⟨D,65,none⟩ (.slice o12 (n+1) k12)) (ext lab11 w11.heap.size 8):=Stp.setCell e1c.clr
     have e1d:=e1c.set 65 (.slice o12 (n+1) k12)
     rw [ZEJ (Z2i ..)] at e1d
     rw [hm]
     exact ⟨_,((st9.mono (fun _ h=>h.elim)).trans (st911.mono (fun _ h=>h.elim))).trans ((st12.mono (fun _ h=>.inr h)).trans (st13.mono (fun _ h=>.inl h))),⟨ol,kl,o12,_,k12,e1d,e2c.stp st13 (by decide),O12.stp st13 (by decide) (by decide)⟩,I8.laid.push hfn hm⟩
    ·rintro _ w9 ⟨lab9,st9,I9⟩
     have P9:=P8.stp st9 (by decide)
     have hc9:=hc8.stp st9 (by decide)
     have st09:=(st08.mono (T:=SM') (fun _ h=>h.elim)).trans st9
     refine (Z5h hc9.rd hck).mono ?_
     rintro e w10 ⟨M10,hd⟩
     unfold Z2V at hd
     rw [hdc] at hd
     obtain ⟨v1,v2,v3,rfl,hx⟩:=hd
     obtain ⟨bb,p1,q1,r1,p2,q2,r2,rfl,rfl,rfl⟩:=hx.vals
     have st10:Stp NoS w9 lab9 w10 (ext lab9 w9.heap.size 6):=Stp.of_nob M10 6
     have hx10:ItC (fun b=>ext lab9 w9.heap.size 6 b≠6) w10 (.l xs) (.bool bb) (.slice p1 q1 r1) (.slice p2 q2 r2):=ItC.restr (fun b hb hh=>by
      refine Nat.lt_of_not_le fun hge=>hh (ext_new hge)) hx
     have I10:=I9.no st10
     have P10:=P9.stp st10 (fun h=>h)
     have st010:=st09.trans (st10.mono (T:=SM') (fun _ h=>h.elim))
     generalize ext lab9 w9.heap.size 6=lab10 at *
     refine ⟨_,_,_,_,_,_,_,_,rfl,?_⟩
     rintro d11 w11 ⟨rfl,rfl⟩
     have H:=Blk.new w10 111 #[.bool false,.slice none 0 0,.slice none 0 0]
     refine Z8n H rfl rfl rfl (fun w12 H12 Q12=>?_)
     have st12:Stp NoS w10 lab10 w12 (ext lab10 w10.heap.size 5):=Stp.of_nob (ZM (Mod.alloc w10 _) Q12 (Nat.le_refl _)) 5
     refine Z81 H12 ?_
     refine (Z7X (k:=k) P (I10.no st12) (ItC.stp6 hx10 st12 (fun h=>h)) hg (P10.stp st12 (fun h=>h)) hk hnib hf hl).mono ?_
     rintro _ w13 ⟨rfl,lab13,st13,I13⟩
     exact ⟨rfl,hR _ _ ⟨rfl,lab13,(st010.trans (st12.mono (fun _ h=>h.elim))).trans st13,I13⟩⟩
theorem ZGS (hb:∀x∈l,x.2.length≤2 ^ 30) (hlen:l.length≤4096) (ha32:a.length=32) (hb32:b.length=32):∀(f:Nat),ZDW l a b D f:=by
 intro f
 induction f with
 | zero =>
   intro w lab s x v1 v2 v3 o k path hI hx hg hp hk hnib hf
   obtain ⟨bb,p1,q1,r1,p2,q2,r2,rfl,rfl,rfl⟩:=hx.vals
   refine ZE.vc _ _ _ _ _ _ _ _ _ _ _ _ _ ?_
   unfold ZE.Vc
   rintro d5 w1 ⟨rfl,rfl⟩
   have st1:Stp NoS w lab (w.alloc (.cells #[.bool bb,.slice p1 q1 r1,.slice p2 q2 r2] 111)) (ext lab w.heap.size 5):=Stp.alloc NoS w lab _ 5
   have I1:=hI.no st1
   exact ⟨0,I1.rdBad,fun h=>(h rfl).elim,fun _=>⟨fun _=>⟨rfl,_,st1.mono (fun _ h=>h.elim),I1⟩,fun h=>absurd h (by omega)⟩⟩
 | succ f ih =>
   intro w lab s x v1 v2 v3 o k path hI hx hg hp hk hnib hf
   by_cases hl:path.length > 64
   ·have e:visQ l (nibbles a) (nibbles b) (f+1) s x path=(s,none):=Z9W hg (.inl hl)
    rw [e]
    obtain ⟨bb,p1,q1,r1,p2,q2,r2,rfl,rfl,rfl⟩:=hx.vals
    refine ZE.vc _ _ _ _ _ _ _ _ _ _ _ _ _ ?_
    unfold ZE.Vc
    rintro d5 w1 ⟨rfl,rfl⟩
    have st1:Stp NoS w lab (w.alloc (.cells #[.bool bb,.slice p1 q1 r1,.slice p2 q2 r2] 111)) (ext lab w.heap.size 5):=Stp.alloc NoS w lab _ 5
    have I1:=hI.no st1
    exact ⟨0,I1.rdBad,fun h=>(h rfl).elim,fun _=>⟨fun _=>⟨rfl,_,st1.mono (fun _ h=>h.elim),I1⟩,fun h=>absurd h (by omega)⟩⟩
   cases x with
   | l xs =>
     have e:visQ l (nibbles a) (nibbles b) (f+1) s (.l xs) path=eachW (visQ l (nibbles a) (nibbles b) f) s xs path:=if_neg hl
     rw [e]
     exact Z7X ih hI hx hg hp hk hnib hf (by omega)
   | s h =>
     have hx0:=hx
     simp only [ItC] at hx
     obtain ⟨rfl,⟨ox,cx,rfl,hrx,_⟩,rfl⟩:=hx
     refine ZE.vc _ _ _ _ _ _ _ _ _ _ _ _ _ ?_
     unfold ZE.Vc
     rintro d5 w1 ⟨rfl,rfl⟩
     have st1:Stp NoS w lab (w.alloc (.cells #[.bool false,.slice ox h.length cx,.slice none 0 0] 111)) (ext lab w.heap.size 5):=Stp.alloc NoS w lab _ 5
     have X1:=CB.new w lab 5 111 #[.bool false,.slice ox h.length cx,.slice none 0 0]
     have I1:=hI.no st1
     have P1:=hp.stp st1 (fun h=>h)
     have hr1:=hrx.mod' (Mod.alloc (S:=NoB) w (.cells #[.bool false,.slice ox h.length cx,.slice none 0 0] 111))
     generalize w.heap.size=E at *
     generalize w.alloc (.cells #[.bool false,.slice ox h.length cx,.slice none 0 0] 111)=w1 at *
     generalize ext lab E 5=lab1 at *
     refine ⟨0,I1.rdBad,fun h=>(h rfl).elim,fun _=>⟨fun h=>absurd h (by omega),fun _=>⟨false,X1.blk.rd1 rfl,fun _=>⟨_,_,_,by rw [Z6]; exact X1.blk.rd1 rfl,fun h32=>?_,fun h32=>?_⟩,fun h=>(by cases h)⟩⟩⟩
     ·have h32:h.length=32:=by omega
      rintro d2 w2 ⟨rfl,rfl⟩
      have st2:Stp NoS w1 lab1 (w1.alloc (.cells (Array.replicate 32 (.int .u8 0)) 27)) (ext lab1 w1.heap.size 5):=Stp.alloc NoS w1 lab1 _ 5
      have Z2:=CB.new w1 lab1 5 27 (Array.replicate 32 (.int .u8 0))
      have X2:=X1.stp st2 (fun h=>h)
      have I2:=I1.no st2
      have P2:=P1.stp st2 (fun h=>h)
      have hr2:=hr1.mod' (Mod.alloc (S:=NoB) w1 (.cells (Array.replicate 32 (.int .u8 0)) 27))
      have st02:=st1.trans st2
      have hge:∀{w':World},Vcg.Mod (·=w1.heap.size) (w1.alloc (.cells (Array.replicate 32 (.int .u8 0)) 27)).drew w'→Vcg.Mod NoB w1 w':=fun Q=>ZM ((Mod.alloc (S:=NoB) w1 (.cells (Array.replicate 32 (.int .u8 0)) 27)).step_drew) Q (Nat.le_refl _)
      rintro _ rfl
      have X3:=X2.blk.drew
      have Z3:=Z2.blk.drew
      have hr3:=hr2.mod' (Mod.drew (S:=NoB) _)
      obtain ⟨w4,h4,Z4,Q4⟩:=Z4b (P:=Tryz.prog) (t:=23) (tx:=23) (ty:=3) (dLen:=32) (dCap:=32) (n:=32) (o:=0) (c:=cx) Zt Z16 Z3 hr3 (by rw [h32]; rfl) (by simp)
      rw [ZDp (by simp) h32] at Z4
      refine ⟨_,_,_,by rw [Z6]; exact X3.rd1 rfl,_,w4,h4,_,rfl,hashA h,Z4.rowAll (ZB _),?_⟩
      have st4:Stp NoS w1 lab1 w4 (ext lab1 w1.heap.size 5):=Stp.of_nob (hge Q4) 5
      refine (Z7W (k:=k) hb hlen ha32 hb32 ih (I1.no st4) h32 (P1.stp st4 (fun h=>h)) hk hnib hf (by omega)).mono ?_
      rintro _ w5 ⟨rfl,lab5,st5,I5⟩
      exact ⟨rfl,rfl,lab5,((st1.trans st4).mono (fun _ h=>h.elim)).trans st5,I5⟩
     ·have hnil:h=[]:=(hg.str).resolve_right (fun h'=>h32 (by omega))
      subst hnil
      have e:visQ l (nibbles a) (nibbles b) (f+1) s (.s []) path=(s,none):=if_pos (.inr rfl)
      rw [e]
      exact ⟨rfl,lab1,st1.mono (fun _ h=>h.elim),I1⟩
end
theorem ZFR {o:Option Addr} {n k:Nat} {a b:By} {Z:Array Value} (hZ:Z=mkA (Value.slice none 0 0 :: List.replicate 64 (.int .u8 0)) (.slice none 0 0) (.int .i64 0)):lputL (lputL (setsAt Z 0 [.slice o n k]) 1 32 (hashA a)) 33 32 (hashA b)=mkA (mkP o n k a b) (.slice none 0 0) (.int .i64 0):=by
 have hZs:Z.size=67:=by rw [hZ]; rfl
 have ea:(hashA a).toList.take 32=(hashA a).toList:=List.take_of_length_le (by rw [Array.length_toList,ZB]; omega)
 have eb:(hashA b).toList.take 32=(hashA b).toList:=List.take_of_length_le (by rw [Array.length_toList,ZB]; omega)
 have la:(hashA a).toList.length=32:=by rw [Array.length_toList,ZB]
 have lb:(hashA b).toList.length=32:=by rw [Array.length_toList,ZB]
 have z1:(setsAt Z 0 [.slice o n k]).size=67:=by rw [Zb,hZs]
 have z2:(lputL (setsAt Z 0 [.slice o n k]) 1 32 (hashA a)).size=67:=by unfold lputL; rw [Zb,z1]
 apply Array.ext_getElem?
 intro i
 have hm:=Z2i o n k a b
 by_cases hi:i < 67
 ·have e1:(lputL (lputL (setsAt Z 0 [.slice o n k]) 1 32 (hashA a)) 33 32 (hashA b))[i]?=if 33≤i∧i < 65 then (hashA b)[i - 33]? else if 1≤i∧i < 33 then (hashA a)[i - 1]? else if i=0 then some (.slice o n k) else Z[i]?:=by
    rw [show lputL (lputL (setsAt Z 0 [.slice o n k]) 1 32 (hashA a)) 33 32 (hashA b)=setsAt (lputL (setsAt Z 0 [.slice o n k]) 1 32 (hashA a)) 33 ((hashA b).toList.take 32) from rfl,eb,Z03 _ _ _ _ (by rw [lb,z2]; omega),lb]
    by_cases c1:33≤i∧i < 65
    ·rw [if_pos (by omega),if_pos c1,Array.getElem?_toList]
    ·rw [if_neg (by omega),if_neg c1,show lputL (setsAt Z 0 [.slice o n k]) 1 32 (hashA a)=setsAt (setsAt Z 0 [.slice o n k]) 1 ((hashA a).toList.take 32) from rfl,ea,Z03 _ _ _ _ (by rw [la,z1]; omega),la]
     by_cases c2:1≤i∧i < 33
     ·rw [if_pos (by omega),if_pos c2,Array.getElem?_toList]
     ·rw [if_neg (by omega),if_neg c2,Z03 _ _ _ _ (by rw [hZs]; simp)]
      by_cases c3:i=0
      ·subst c3; rw [if_pos (by simp),if_pos rfl]; rfl
      ·rw [if_neg (by simp; omega),if_neg c3]
  rw [e1]
  by_cases c1:33≤i∧i < 65
  ·rw [if_pos c1,Z8b hm (by omega),← ZHn (o:=o) (n:=n) (k:=k) (a:=a) (by omega),show 33+(i - 33)=i by omega]
  ·rw [if_neg c1]
   by_cases c2:1≤i∧i < 33
   ·rw [if_pos c2,Z8b hm (by omega),← ZHm (o:=o) (n:=n) (k:=k) (b:=b) (by omega),show 1+(i - 1)=i by omega]
   ·rw [if_neg c2]
    by_cases c3:i=0
    ·subst c3; rw [if_pos rfl,Z8b hm (by omega)]; rfl
    ·rw [if_neg c3,hZ]
     have:i=65∨i=66:=by omega
     rcases this with rfl | rfl
     ·rw [ZCS hm]; rfl
     ·rw [ZG8 hm]; rfl
 ·rw [Array.getElem?_eq_none (by rw [show (lputL (lputL (setsAt Z 0 [.slice o n k]) 1 32 (hashA a)) 33 32 (hashA b)).size=67 by unfold lputL at z2 ⊢; rw [Zb,z2]]; omega),Array.getElem?_eq_none (by rw [Z9F hm]; omega)]
end Go.Proofs.YtfghidehlnfdiaaGreat
end
section
namespace Go.Proofs.YtfghidehlnfdiaaGreat
open Go Go.Vcg Go.Trie
theorem ZEI {l:List (By×By)} {gone:Int} {bad:By} {x:By×By} (h:x∈Z44 l gone bad):x∈l∨x.2=bad:=by
 unfold Z44 at h
 split at h
 ·exact .inl h
 ·split at h
  ·rcases List.mem_append.1 h with h | h
   ·exact .inl (List.mem_of_mem_take h)
   ·exact .inl (List.mem_of_mem_drop h)
  ·split at h
   ·rcases List.mem_or_eq_of_mem_set h with h | rfl
    ·exact .inl h
    ·exact .inr rfl
   ·exact .inl h
theorem ZEu (l:List (By×By)) (gone:Int) (bad:By):(Z44 l gone bad).length≤l.length:=by
 unfold Z44
 split
 ·exact Nat.le_refl _
 ·split
  ·rw [List.length_append,List.length_take,List.length_drop]; omega
  ·split
   ·rw [List.length_set]; exact Nat.le_refl _
   ·exact Nat.le_refl _
theorem StR.kv {w:World} {o:Option Addr} {m:List (By×By)} (h:StR w o m):Z5M w (fun _=>0) 0 o m:=fun j hj=>by
 obtain ⟨b,f,ok,kk,ov,kv,e1,e2,e3,e4,e5,e6⟩:=h j hj
 exact ⟨b,f,ok,kk,ov,kv,e1,e2,rfl,e3,⟨e4,fun _ _ _=>rfl⟩,e5,⟨e6,fun _ _ _=>rfl⟩⟩
theorem ZCw.kv {m:List (By×By)} (h:ZCw m):KvOk m:=⟨by have:=h.len; omega,h.keys,fun e he=>by have:=(h.vals e he).2; omega⟩
theorem ZCw.trie {m:List (By×By)} (h:ZCw m):∃n,Rep (Z0e m) n∧Z1p n∧Z60 n∧cnt n≤160:=by
 obtain ⟨n,h1,h2,h3,h4⟩:=ZHE m h.srt h.keys (fun e he=>⟨(h.vals e he).1,by have:=(h.vals e he).2; omega⟩)
 have:=h.len
 exact ⟨n,h1,h2,Z70 h2 h3,by omega⟩
end Go.Proofs.YtfghidehlnfdiaaGreat
end
section
namespace Go.Proofs.YtfghidehlnfdiaaGreat
open Go Go.Vcg Go.Trie
theorem ZEa {w:World} {D:Nat} {h:By} (hh:h.length=32) (B:Blk w D 27 (hashA h)):RdB w (some ⟨D,0,none⟩) h:=RdB.of_blk B (fun i hi=>by rw [Nat.zero_add]; exact ZF (by omega))
theorem Z6F {w:World} {lab:Nat→Nat} {c:Nat} {l:RS} {o:Option Addr} {k:Nat} {root least most:By} (h:Z0w w lab c l o l.length) (hb:∀x∈l,x.2.length≤2 ^ 30) (hr:root.length=32) (hl:least.length=32) (hm:most.length=32) :
  Calls Tryz.prog Ze.n #[.slice o l.length k,.agg (hashA root),.agg (hashA least),.agg (hashA most)] w (Z2f (Z2l l root least most) w):=by
 refine ZH fun R hR=>Ze.vc _ _ _ _ _ _ _ _ ?_
 unfold Ze.Vc
 have hN:Z0w w (fun _=>0) 0 l o l.length:=Z0w.re h (fun k hk _=>rfl)
 rintro d1 w1 ⟨rfl,rfl⟩
 have st1:Stp NoS w (fun _=>0) (w.alloc (.cells (hashA root) 27)) (ext (fun _=>0) w.heap.size 1):=Stp.alloc NoS w _ _ 1
 have X1:=CB.new w (fun _=>0) 1 27 (hashA root)
 generalize w.heap.size=D1 at *
 generalize w.alloc (.cells (hashA root) 27)=w1 at *
 generalize hlab1:ext (fun _=>0) D1 1=lab1 at *
 rintro d2 w2 ⟨rfl,rfl⟩
 have st2:Stp NoS w1 lab1 (w1.alloc (.cells (hashA least) 27)) (ext lab1 w1.heap.size 1):=Stp.alloc NoS w1 _ _ 1
 have A2:=CB.new w1 lab1 1 27 (hashA least)
 have X2:=X1.stp st2 (fun h=>h)
 have s2:=st1.trans st2
 clear X1 st1 st2
 generalize w1.heap.size=D2 at *
 generalize w1.alloc (.cells (hashA least) 27)=w2 at *
 generalize ext lab1 D2 1=lab2 at *
 rintro d3 w3 ⟨rfl,rfl⟩
 have st3:Stp NoS w2 lab2 (w2.alloc (.cells (hashA most) 27)) (ext lab2 w2.heap.size 1):=Stp.alloc NoS w2 _ _ 1
 have B3:=CB.new w2 lab2 1 27 (hashA most)
 have X3:=X2.stp st3 (fun h=>h)
 have A3:=A2.stp st3 (fun h=>h)
 have s3:=s2.trans st3
 clear X2 A2 s2 st3
 generalize w2.heap.size=D3 at *
 generalize w2.alloc (.cells (hashA most) 27)=w3 at *
 generalize ext lab2 D3 1=lab3 at *
 have fin:∀(r:RS×Int) (e:Ending) (w':World) (lab':Nat→Nat),Stp SM' w (fun _=>0) w' lab'→Z2l l root least most=r→(Vcg.Mod NoB w w'→Z2f r w e w')→R e w':=fun r e w' lab' st hrr hi=>by
  have M:Vcg.Mod NoB w w':=st.nob (fun k hk hs=>by rcases hs with h | h <;> cases h)
  exact hR _ _ (by rw [hrr]; exact hi M)
 refine ⟨fun hbig=>fin ([],162) _ _ _ (s3.mono (fun _ h=>h.elim)) (by unfold Z2l; rw [if_pos (by omega)]) (fun M=>Z2f.none_ M),fun hsmall=>?_⟩
 rintro _ rfl
 have st4:Stp NoS w3 lab3 w3.drew lab3:=Stp.drew NoS w3 lab3
 have X4:=X3.stp st4 (fun h=>h)
 have A4:=A3.stp st4 (fun h=>h)
 have B4:=B3.stp st4 (fun h=>h)
 have s4:=s3.trans st4
 clear X3 A3 B3 s3 st4
 generalize w3.drew=w4 at *
 refine (Z9w (k1:=32) (k2:=32) (a:=most) (b:=least) hm.symm hl.symm (ZEa hm B4.blk) (ZEa hl A4.blk) (by omega)).mono ?_
 rintro _ w5 ⟨rfl,M5⟩
 have st5:Stp NoS w4 lab3 w5 (ext lab3 w4.heap.size 1):=Stp.of_nob M5 1
 have X5:=X4.stp st5 (fun h=>h)
 have A5:=A4.stp st5 (fun h=>h)
 have B5:=B4.stp st5 (fun h=>h)
 have s5:=s4.trans st5
 clear X4 A4 B4 s4 st5 M5
 generalize ext lab3 w4.heap.size 1=lab5 at *
 refine ⟨_,rfl,fun hneg=>fin ([],164) _ _ _ (s5.mono (fun _ h=>h.elim)) (by unfold Z2l; rw [if_neg (by omega),if_pos hneg]) (fun M=>Z2f.none_ M),fun hpos=>?_⟩
 refine ⟨hashA least,A5.blk.rowAll (ZB _),hashA most,B5.blk.rowAll (ZB _),ZB _,ZB _,?_⟩
 intro d6 w6 hnew
 have hnew:ZC w5 96 (mkA (mkP o l.length k least most) (.slice none 0 0) (.int .i64 0)) d6 w6:=by
  rw [← ZFR (o:=o) (n:=l.length) (k:=k) (a:=least) (b:=most) (Z:=mkA (Value.slice none 0 0 :: List.replicate 64 (.int .u8 0)) (.slice none 0 0) (.int .i64 0)) rfl]
  exact hnew
 obtain ⟨rfl,rfl⟩:=hnew
 have st6:Stp NoS w5 lab5 (w5.alloc (.cells (mkA (mkP o l.length k least most) (.slice none 0 0) (.int .i64 0)) 96)) (ext lab5 w5.heap.size 7):=Stp.alloc NoS w5 _ _ 7
 have K6:=CB.new w5 lab5 7 96 (mkA (mkP o l.length k least most) (.slice none 0 0) (.int .i64 0))
 have X6:=X5.stp st6 (fun h=>h)
 have s6:=s5.trans st6
 generalize w5.heap.size=D6 at *
 generalize w5.alloc (.cells (mkA (mkP o l.length k least most) (.slice none 0 0) (.int .i64 0)) 96)=w6 at *
 generalize ext lab5 D6 7=lab6 at *
 have I6:MkS l least most D6 w6 lab6 [] 0:=⟨⟨o,k,none,0,0,K6,hN.stp s6 (fun h=>h),Z4n.nil _ _ _ _⟩,Z79.nil l⟩
 clear K6 st6 X5 A5 B5 s5
 obtain ⟨res,hres,hrr⟩:∃r:RS×Option Int,r=visP l (nibbles least) (nibbles most) 66 [] (rootIt root) []∧Z2l l root least most=(match r with
   | (s,none)=>(s,0)
   | (_,some e)=>([],e)):=by
  refine ⟨_,rfl,?_⟩
  unfold Z2l
  exact (if_neg (show ¬l.length > 4096 by omega)).trans (if_neg hpos)
 have herr:∀e,res.2=some e→e≠0:=fun e he=>by
  have:visQ l (nibbles least) (nibbles most) 66 [] (rootIt root) []=res:=by rw [hres]; exact ZCr (Z7P hr)
  rw [← this] at he
  exact Z74 _ _ _ _ _ he
 refine ⟨fun w'=>∃lab',Stp SM' w (fun _=>0) w' lab'∧MkS l least most D6 w' lab' res.1 (ZD1 res.2),?_,?_⟩
 ·rintro _ rfl
  have st7:Stp NoS w6 lab6 w6.drew lab6:=Stp.drew NoS w6 lab6
  have X7:=X6.stp st7 (fun h=>h)
  have I7:=I6.no st7
  have s7:=s6.trans st7
  generalize w6.drew=w7 at *
  refine ⟨hashA root,X7.blk.rowAll (ZB _),?_⟩
  refine (Z6c w7).mono ?_
  rintro _ w8 ⟨rfl,M8⟩
  have st8:Stp NoS w7 lab6 w8 (ext lab6 w7.heap.size 1):=Stp.of_nob M8 1
  have X8:=X7.stp st8 (fun h=>h)
  have I8:=I7.no st8
  have s8:=(s7.trans st8).mono (T:=SM') (fun _ h=>h.elim)
  generalize ext lab6 w7.heap.size 1=lab8 at *
  refine ⟨hashA emptyH,rfl,X8.blk.rowAll (ZB _),_,Z99 _ _ hr (by unfold emptyH; exact Z04 _),_,rfl,fun hne=>?_,fun heq=>?_⟩
  ·have hne:root≠emptyH:=of_decide_eq_true hne
   have hri:rootIt root=.s root:=if_neg hne
   refine ⟨hashA root,X8.blk.rowAll (ZB _),?_⟩
   refine (Z7W (k:=0) (o:=none) (path:=[]) (f:=65) hb (by omega) hl hm (ZGS hb (by omega) hl hm 65) I8 hr (CBy.nil _ _ _ _) (Nat.le_refl _) (fun x hx=>by cases hx) (by simp) (by simp)).mono ?_
   rintro _ w9 ⟨rfl,lab9,st9,I9⟩
   refine ⟨rfl,lab9,s8.trans st9,?_⟩
   have e:visQ l (nibbles least) (nibbles most) (65+1) [] (.s root) []=res:=by
    rw [hres,hri]; exact ZCr (.hash hr)
   rw [e] at I9
   exact I9
  ·have he:root=emptyH:=Decidable.not_not.1 (of_decide_eq_false heq)
   have e:res=([],none):=by
    rw [hres,show rootIt root=.s [] from if_pos he]
    exact if_pos (.inr rfl)
   rw [e]
   exact ⟨lab8,s8,I8⟩
 ·rintro _ w7 ⟨lab7,s7,I7⟩
  obtain ⟨s,oe⟩:=res
  cases oe with
  | some er =>
    refine ⟨_,I7.rdBad,fun _=>?_,fun h0=>(herr er rfl h0).elim⟩
    rintro _ rfl
    have I8:=I7.no (Stp.drew NoS w7 lab7)
    exact ⟨_,I8.rdBad,fin ([],er) _ _ _ (s7.trans (Stp.drew SM' w7 lab7)) hrr (fun M=>Z2f.none_ M)⟩
  | none =>
    obtain ⟨ol,kl,oo,n,ko,e1,e2,e3⟩:=I7.ex
    obtain ⟨hn1,_⟩:=id e3
    subst hn1
    refine ⟨_,I7.rdBad,fun h=>(h rfl).elim,fun _=>⟨_,_,_,by rw [Z6]; exact e1.blk.rd1 (ZCS (Z2i ..)),fin (s,0) _ _ _ s7 hrr (fun M=>⟨M,oo,ko,rfl,e3.row⟩)⟩⟩
theorem ZBi {w:World} {o:Option Addr} {k:Nat} {l:RS} (h:StR w o l) (hl:l.length≤2 ^ 30) :
  Calls Tryz.prog Z0B.n #[.slice o l.length k] w (fun e w'=>∃b:Bool,e=.returned (.bool b)∧w'=w):=by
 refine Z0B.vc _ _ _ _ _ ?_
 unfold Z0B.Vc
 refine ⟨fun i w'=>∃j:Nat,i=(j:Int)∧j≤l.length∧w'=w,fun i _=>((l.length:Int) - i).toNat,⟨0,rfl,Nat.zero_le _,rfl⟩,?_⟩
 rintro _ _ _ ⟨j,rfl,hj,rfl⟩
 refine ⟨fun hlt=>?_,fun _=>⟨true,rfl,rfl⟩⟩
 obtain ⟨b,f,ok,kk,ov,kv,e1,e2,e3,e4,e5,e6⟩:=h j (by omega)
 refine ⟨_,e1,⟨by omega,by omega⟩,_,_,_,by rw [Int.toNat_natCast,Z6]; exact e3,fun _=>⟨false,rfl,rfl⟩,fun _=>?_⟩
 have ew:IntKind.wrap .i64 ((j:Int)+1)=((j+1:Nat):Int):=by rw [Z0 (by omega) (by omega)]; omega
 rw [ew]
 exact ⟨⟨j+1,rfl,by omega,rfl⟩,by dsimp only; omega⟩
theorem Z9g (w:World) {o:Option Addr} {k:Nat} {m:RS} {gone:Int} {least most:By} (hm:StR w o m) (hl:least.length=32) (hmo:most.length=32) :
  Calls Tryz.prog Zc.n #[.slice o m.length k,.int .i64 gone,.agg (hashA least),.agg (hashA most)] w (fun e w'=>e=.returned (.bool true)∧Vcg.Mod NoB w w'):=by
 refine Zc.vc _ _ _ _ _ _ _ _ ?_
 unfold Zc.Vc
 rintro d1 w1 ⟨rfl,rfl⟩
 have M1:=Mod.alloc (S:=NoB) w (.cells (hashA least) 27)
 have A1:=Blk.new w 27 (hashA least)
 generalize w.alloc (.cells (hashA least) 27)=w1 at *
 rintro d2 w2 ⟨rfl,rfl⟩
 have M12:=Mod.alloc (S:=NoB) w1 (.cells (hashA most) 27)
 have B2:=Blk.new w1 27 (hashA most)
 have A2:=A1.mod' M12
 have M2:=M1.none_trans M12
 generalize w1.alloc (.cells (hashA most) 27)=w2 at *
 refine (Z9C w2).mono ?_
 rintro _ w3 ⟨rfl,M23⟩
 have M3:=M2.none_trans M23
 have A3:=A2.mod' M23
 have B3:=B2.mod' M23
 refine ⟨_,rfl,fun h=>(by cases h),fun _=>?_⟩
 refine (ZBJ (k:=k) (hm.mod' M3)).mono ?_
 rintro _ w4 ⟨bf,rfl,hfew,M34⟩
 have M4:=M3.none_trans M34
 have A4:=A3.mod' M34
 have B4:=B3.mod' M34
 refine ⟨_,rfl,fun _=>⟨rfl,M4⟩,fun hbf=>?_⟩
 have hf:=hfew hbf
 refine (ZBi (k:=k) (hm.mod' M4) (by have:=hf.len; omega)).mono ?_
 rintro _ w4 ⟨bs,rfl,rfl⟩
 refine ⟨_,rfl,fun _=>⟨rfl,M4⟩,fun _=>?_⟩
 obtain ⟨n,q1,q2,q3,q4⟩:=hf.trie
 have hnl:=ZEN n
 refine (ZBz (k:=k) (hm.mod' M4).kv hf.kv q1 q2 q3 (by omega) 0).mono ?_
 rintro _ w5 ⟨o5,k5,rfl,M45,N5⟩
 have M5:=M4.none_trans M45
 refine ⟨_,_,_,_,rfl,?_⟩
 rintro d w6 ⟨rfl,rfl⟩
 have H6:=Blk.new w5 27 (Array.replicate 32 (.int .u8 0))
 obtain ⟨g1,g2,g3⟩:=Z1c H6 (by simp) (rootOf n)
 have M56:=ZM (Mod.alloc w5 (.cells (Array.replicate 32 (.int .u8 0)) 27)) g3 (Nat.le_refl _)
 refine ⟨_,g1,?_⟩
 have M6:=M5.none_trans M56
 have N6:Z0w _ (fun _=>0) 0 (Z0t n) o5 (Z0t n).length:=(N5.stp (S:=NoS) (Stp.of_nob M56 0) (fun h=>h)).re (lab':=fun _=>0) (c':=0) (fun _ _ _=>rfl)
 have A6:=(A4.mod' M45).mod' M56
 have B6:=(B4.mod' M45).mod' M56
 generalize w5.heap.size=D at *
 generalize ((w5.alloc (.cells (Array.replicate 32 (.int .u8 0)) 27)).setRow D (hashA (rootOf n)))=w6 at *
 refine (Z3J (k:=k5) N6 (Z7b q3) (by omega) 0).mono ?_
 rintro _ w7 ⟨o7,k7,rfl,_,M67,N7⟩
 have M7:=M6.none_trans M67
 refine ⟨_,_,_,rfl,?_⟩
 have hnil:RdB w7 none ([]:By):=RdB.nil _ _
 refine (ZAj (k:=k7) (gone:=gone) (bad:=[]) (k2:=0) N7 (by omega) hnil (Nat.le_refl _)).mono ?_
 rintro _ w8 ⟨o8,k8,rfl,M78,N8⟩
 have M8:=M7.none_trans M78
 have M68:=M67.none_trans M78
 have H8:=g2.mod' M68
 have A8:=A6.mod' M68
 have B8:=B6.mod' M68
 have htl:=ZEu (Z0t n) gone []
 have hbt:∀x∈Z44 (Z0t n) gone [],x.2.length≤2 ^ 30:=fun x hx=>by
  rcases ZEI hx with h | h
  ·have:=Z7b q3 x h; omega
  ·rw [h]; simp
 refine ⟨_,_,_,rfl,_,H8.rowAll (ZB _),_,A8.rowAll (ZB _),_,B8.rowAll (ZB _),?_⟩
 refine (Z6n (root:=rootOf n) (k:=k8) N8 (by omega) hbt (Z04 _) hl hmo).mono ?_
 rintro _ w9 ⟨M89,o9,k9,rfl,N9⟩
 have M9:=M8.none_trans M89
 have H9:=H8.mod' M89
 have A9:=A8.mod' M89
 have B9:=B8.mod' M89
 refine ⟨_,_,_,_,rfl,_,H9.rowAll (ZB _),_,A9.rowAll (ZB _),_,B9.rowAll (ZB _),?_⟩
 refine (Z6F (root:=rootOf n) (k:=k8) (N8.stp (S:=NoS) (Stp.of_nob M89 0) (fun h=>h)) hbt (Z04 _) hl hmo).mono ?_
 rintro _ w10 ⟨M910,o10,k10,rfl,N10⟩
 have M10:=M9.none_trans M910
 refine ⟨_,_,_,_,rfl,fun _=>?_,fun h=>(h rfl).elim⟩
 have hlen:(Z2l (Z44 (Z0t n) gone []) (rootOf n) least most).1.length≤2 ^ 20:=by
  have h1:(Z2l (Z44 (Z0t n) gone []) (rootOf n) least most).1.length≤(Z44 (Z0t n) gone []).length:=by
   unfold Z2l
   split
   ·exact Nat.zero_le _
   ·split
    ·exact Nat.zero_le _
    ·split
     ·rename_i s hs
      have:=Z7v (l:=Z44 (Z0t n) gone []) (a:=nibbles least) (b:=nibbles most) (f:=66) (x:=rootIt (rootOf n)) (path:=[]) (Z79.nil _)
      rw [hs] at this
      exact this.len
     ·exact Nat.zero_le _
  omega
 refine (ZAE (k1:=k9) (k2:=k10) ((N9.stp (S:=NoS) (Stp.of_nob M910 0) (fun h=>h)).re (lab':=fun _=>0) (c':=0) (fun _ _ _=>rfl)) N10 hlen).mono ?_
 rintro _ w11 ⟨rfl,M11⟩
 exact ⟨_,rfl,by rw [decide_eq_true rfl],M10.none_trans M11⟩
end Go.Proofs.YtfghidehlnfdiaaGreat
end
section
namespace Go.Vcg
open Go

theorem Z5a {α β:Type} {f:α→Option β}:∀{l:List α} {ys:List β},l.mapM f=some ys→ys.length=l.length∧∀(i:Nat) (x:α),l[i]?=some x→∃y,ys[i]?=some y∧f x=some y
 | [],ys,h=>by
   rw [List.mapM_nil] at h
   cases h
   exact ⟨rfl,fun i x hx=>by simp at hx⟩
 | a :: l,ys,h=>by
   rw [List.mapM_cons] at h
   cases ha:f a with
   | none=>simp [ha] at h
   | some b =>
     cases hl:l.mapM f with
     | none=>simp [ha,hl] at h
     | some bs =>
       simp [ha,hl] at h
       subst h
       obtain ⟨h1,h2⟩:=Z5a hl
       refine ⟨by simp [h1],fun i x hx=>?_⟩
       cases i with
       | zero=>simp at hx; subst hx; exact ⟨b,rfl,ha⟩
       | succ i=>simp at hx; exact h2 i x hx
section
variable {H:Type} {enc:TypeId×Value→H} {P:Program} {W:World} {sp:Nat→Bool} {held:Bool} {base:Nat}

theorem ZBn {fuel:Nat} {t e:TypeId} {v:Value} {d:DataW H} {ps:List MemPlace} (ht:P.underlying t=some (.slice e)) (hce:P.cellsOf e=1)
  (h:DataW.trod enc P W base sp held fuel t [v]=some (d,ps)) :
  ∃o l c,v=.slice o l c∧l≤c∧c≤maxLen∧((l=0∧d=.nil)∨∃elems spare,d=.slice elems spare∧elems.length=l ∧
   ∀i,i < l→∃b f u d' ps' fuel',o=some ⟨b,f,none⟩∧b < W.heap.size∧W.cell? ⟨b,f+i,none⟩=some u∧DataW.trod enc P W base sp held fuel' e [u]=some (d',ps')∧elems[i]?=some d'):=by
 obtain ⟨o,l,c,rfl,hlc,hcm,hall⟩:=Z8t ht hce h
 refine ⟨o,l,c,rfl,hlc,hcm,?_⟩
 cases fuel with
 | zero=>simp [DataW.trod] at h
 | succ fuel =>
   cases o with
   | none =>
     left
     have:l=0∧c=0:=by
      rcases l with _ | l <;> rcases c with _ | c <;> simp [DataW.trod,ht] at h ⊢
     obtain ⟨rfl,rfl⟩:=this
     simp [DataW.trod,ht] at h
     exact ⟨rfl,h.1.symm⟩
   | some a =>
     right
     simp only [DataW.trod,ht,hce,Nat.mul_one] at h
     split at h
     ·obtain ⟨els,hm,h2⟩:=Option.bind_eq_some_iff.1 h
      obtain ⟨rest,_,h3⟩:=Option.map_eq_some_iff.1 h2
      cases h3
      obtain ⟨hl,hg⟩:=Z5a hm
      rw [List.length_range] at hl
      refine ⟨_,_,rfl,by simp [hl],fun i hi=>?_⟩
      obtain ⟨b,f,u,d',ps',fuel',ho,hb,hu,hd⟩:=hall i hi
      cases ho
      obtain ⟨y,hy,hfy⟩:=hg i i (by rw [List.getElem?_range hi])
      obtain ⟨vs,hv,hd2⟩:=Option.bind_eq_some_iff.1 hfy
      obtain ⟨u2,rfl,hu2⟩:=Z54 hv
      rw [Z6,hu] at hu2
      cases hu2
      exact ⟨b,f,u,y.1,y.2,fuel,rfl,hb,hu,hd2,by rw [List.getElem?_map,hy]; rfl⟩
     ·cases h


end
theorem Z2e {H:Type} {P:Program} {n0:Nat}:∀{ts:List TypeId} {ds:List (DataW H)},(DataW.weightsEach P ts ds).all (·≤n0)=true→∀(j:Nat) (t:TypeId) (d:DataW H),ts[j]?=some t→ds[j]?=some d→(d.weights P t).all (·≤n0)=true
 | t0 :: ts,d0 :: ds,h,0,t,d,ht,hd=>by
   simp at ht hd
   subst ht hd
   simp only [DataW.weightsEach,List.all_append,Bool.and_eq_true] at h
   exact h.1
 | t0 :: ts,d0 :: ds,h,j+1,t,d,ht,hd=>by
   simp only [DataW.weightsEach,List.all_append,Bool.and_eq_true] at h
   exact Z2e h.2 j t d (by simpa using ht) (by simpa using hd)
 | [],_,_,_,_,_,ht,_=>by simp at ht
 | _ :: _,[],_,_,_,_,_,hd=>by simp at hd
end Go.Vcg
end
section
namespace Go.Vcg
section
variable {H:Type} {enc:TypeId×Value→H} {P:Program} {W:World} {sp:Nat→Bool} {held:Bool} {base:Nat}
theorem Z8I {a:Addr} {n:Nat} {vs:List Value} (h:W.cells? base a n=some vs):vs.length=n∧∀j u,vs[j]?=some u→W.cell? (a.add j)=some u:=by
 unfold World.cells? at h
 split at h
 ·obtain ⟨hl,hg⟩:=Z5a h
  rw [List.length_range] at hl
  refine ⟨hl,fun j u hu=>?_⟩
  have hj:j < n:=by rw [← hl]; exact (List.getElem?_eq_some_iff.1 hu).1
  obtain ⟨y,hy,hc⟩:=hg j j (by rw [List.getElem?_range hj])
  rw [hy] at hu
  cases hu
  exact hc
 ·cases h
theorem ZDl {a:Addr} {u:Value} (h:W.cell? a=some u):a.spot=none∧a.block < W.heap.size:=by
 unfold World.cell? at h
 cases hs:a.spot with
 | none =>
   rw [hs] at h
   refine ⟨rfl,?_⟩
   split at h
   ·rename_i hb; exact (Array.getElem?_eq_some_iff.1 hb).1
   ·cases h
 | some x =>
   rw [hs] at h
   split at h <;> simp at h
theorem Z9U {fuel:Nat} {t e:TypeId} {v:Value} {d:DataW H} {ps:List MemPlace} {n:Nat} (ht:P.underlying t=some (.slice e)) (hce:P.cellsOf e=n) (hn:0 < n)
  (h:DataW.trod enc P W base sp held fuel t [v]=some (d,ps)) :
  ∃o l c,v=.slice o l c∧l≤c∧((l=0∧d=.nil)∨∃elems spare,d=.slice elems spare∧elems.length=l∧∀i,i < l→∃b f us d' ps' fuel',o=some ⟨b,f,none⟩∧b < W.heap.size∧us.length=n∧(∀j u,us[j]?=some u→W.cell? ⟨b,f+i * n+j,none⟩=some u)∧DataW.trod enc P W base sp held fuel' e us=some (d',ps')∧elems[i]?=some d'):=by
 cases fuel with
 | zero=>simp [DataW.trod] at h
 | succ fuel =>
   cases v with
   | slice o l c =>
     cases o with
     | none =>
       have:l=0∧c=0:=by
        rcases l with _ | l <;> rcases c with _ | c <;> simp [DataW.trod,ht] at h ⊢
       obtain ⟨rfl,rfl⟩:=this
       simp [DataW.trod,ht] at h
       exact ⟨none,0,0,rfl,Nat.le_refl _,.inl ⟨rfl,h.1.symm⟩⟩
     | some a =>
       simp only [DataW.trod,ht,hce] at h
       split at h
       ·rename_i hb0
        obtain ⟨els,hm,h2⟩:=Option.bind_eq_some_iff.1 h
        obtain ⟨rest,_,h3⟩:=Option.map_eq_some_iff.1 h2
        cases h3
        obtain ⟨hl,hg⟩:=Z5a hm
        rw [List.length_range] at hl
        refine ⟨some a,l,c,rfl,hb0.2.1,.inr ⟨_,_,rfl,by simp [hl],fun i hi=>?_⟩⟩
        obtain ⟨y,hy1,hy⟩:=hg i i (by rw [List.getElem?_range hi])
        obtain ⟨vs,hv,hd⟩:=Option.bind_eq_some_iff.1 hy
        obtain ⟨hlv,hgv⟩:=Z8I hv
        obtain ⟨y0,_,hy0⟩:=hg 0 0 (by rw [List.getElem?_range (by omega)])
        obtain ⟨vs0,hv0,_⟩:=Option.bind_eq_some_iff.1 hy0
        obtain ⟨hl0,hg0⟩:=Z8I hv0
        obtain ⟨u,hu⟩:∃u,vs0[0]?=some u:=⟨vs0[0]'(by omega),List.getElem?_eq_getElem (by omega)⟩
        obtain ⟨hs,hb⟩:=ZDl (hg0 0 u hu)
        obtain ⟨b,f,spot⟩:=a
        have hs':spot=none:=by simpa [Addr.add] using hs
        have hb':b < W.heap.size:=by simpa [Addr.add] using hb
        subst hs'
        refine ⟨b,f,vs,y.1,y.2,fuel,rfl,hb',hlv,fun j u hu=>?_,hd,by rw [List.getElem?_map,hy1]; rfl⟩
        have:=hgv j u hu
        rw [Z6,Z6] at this
        exact this
       ·cases h
   | _=>simp [DataW.trod,ht] at h
theorem ZDM {fuel:Nat} {t:TypeId} {fs:Array Field} {us:List Value} {d:DataW H} {ps:List MemPlace} (ht:P.underlying t=some (.struct fs)) (h:DataW.trod enc P W base sp held fuel t us=some (d,ps)) :
  us.length=P.cellsOf t∧∃parts,d=.agg parts∧∀(k:Nat) (f:Field),fs[k]?=some f→∃fuel' d' ps',DataW.trod enc P W base sp held fuel' f.type ((us.drop f.offset).take (P.cellsOf f.type))=some (d',ps')∧parts[k]?=some d':=by
 cases fuel with
 | zero=>simp [DataW.trod] at h
 | succ fuel =>
   simp only [DataW.trod,ht] at h
   split at h
   ·rename_i hl
    obtain ⟨xs,hm,he⟩:=Option.map_eq_some_iff.1 h
    cases he
    refine ⟨hl,_,rfl,fun k f hf=>?_⟩
    obtain ⟨_,hg⟩:=Z5a hm
    obtain ⟨y,hy1,hy⟩:=hg k f (by rw [Array.getElem?_toList]; exact hf)
    exact ⟨fuel,y.1,y.2,hy,by rw [List.getElem?_map,hy1]; rfl⟩
   ·cases h
end
end Go.Vcg
namespace Go.Proofs.YtfghidehlnfdiaaGreat
open Go Go.Vcg Go.Trie
namespace Bulk
theorem ZHs {H:Type} (d:DataW H):1≤Rows.uptoBulk d:=by
 cases d with
 | lit l=>cases l <;> simp [Rows.uptoBulk]
 | nil=>simp [Rows.uptoBulk]
 | ptr d=>simp [Rows.uptoBulk]
 | slice elems spare=>simp [Rows.uptoBulk]
 | agg parts=>simp [Rows.uptoBulk]
 | iface t d=>simp [Rows.uptoBulk]
 | map entries=>simp [Rows.uptoBulk]
 | held h=>simp [Rows.uptoBulk]
theorem part_le {H:Type} {d:DataW H} {l:List (DataW H)} (h:d∈l):Rows.uptoBulk d≤Rows.uptoBulkAll l:=by
 induction l with
 | nil=>cases h
 | cons x r ih =>
   simp only [Rows.uptoBulkAll]
   cases List.mem_cons.1 h with
   | inl e=>subst e; omega
   | inr e=>have:=ih e; omega
theorem length_le {H:Type} (l:List (DataW H)):l.length≤Rows.uptoBulkAll l:=by
 induction l with
 | nil=>simp [Rows.uptoBulkAll]
 | cons x r ih=>have:=ZHs x; simp only [Rows.uptoBulkAll,List.length_cons]; omega
theorem slice_elems {H:Type} (elems spare:List (DataW H)):Rows.uptoBulkAll elems+1≤Rows.uptoBulk (.slice elems spare):=by
 simp only [Rows.uptoBulk]
 omega
theorem agg_parts {H:Type} (parts:List (DataW H)):Rows.uptoBulkAll parts+1≤Rows.uptoBulk (.agg parts):=by
 simp only [Rows.uptoBulk]
 omega
theorem bound {H:Type} {l:List (DataW H)} (hk:Rows.uptoSmall H l=true):Rows.uptoBulkAll l≤1048576:=of_decide_eq_true hk
end Bulk
section
variable {H:Type} {enc:TypeId×Value→H} {W:World} {sp:Nat→Bool} {held:Bool} {base:Nat}
theorem Z7c {fuel:Nat} {v:Value} {d:DataW H} {ps:List MemPlace} (h:DataW.trod enc Tryz.prog W base sp held fuel 23 [v]=some (d,ps)) :
  ∃o c bs,v=.slice o bs.length c∧bs.length≤c∧RdB W o bs∧bs.length≤Rows.uptoBulk d:=by
 obtain ⟨o,c,bs,rfl,h1,h2,h3⟩:=ZDL Zt Z5v (by kernel_rfl) h
 refine ⟨o,c,bs,rfl,h1,h3,?_⟩
 obtain ⟨o',l',c',hv,_,_,h4⟩:=ZBn Zt (by kernel_rfl) h
 cases hv
 rcases h4 with ⟨h5,_⟩ | ⟨elems,spare,rfl,h5,_⟩
 ·rw [h5]; omega
 ·rw [← h5]
  have h6:=Bulk.length_le elems
  have h7:=Bulk.slice_elems elems spare
  omega
theorem ZER {fuel:Nat} {t e:TypeId} {fs:Array Field} {f0 f1:Field} {v:Value} {d:DataW H} {ps:List MemPlace} (ht:Tryz.prog.underlying t=some (.slice e)) (hce:Tryz.prog.cellsOf e=2) (he:Tryz.prog.underlying e=some (.struct fs))
  (h0:fs[0]?=some f0) (h1:fs[1]?=some f1) (t0:f0.type=23) (t1:f1.type=23) (o0:f0.offset=0) (o1:f1.offset=1) (h:DataW.trod enc Tryz.prog W base sp held fuel t [v]=some (d,ps)) :
  ∃o c l,v=.slice o l.length c∧l.length≤c∧StR W o l∧∀x∈l,x.1.length≤Rows.uptoBulk d∧x.2.length≤Rows.uptoBulk d:=by
 obtain ⟨o,l,c,rfl,hlc,h4⟩:=Z9U ht hce (by omega) h
 rcases h4 with ⟨rfl,rfl⟩ | ⟨elems,spare,rfl,h5,h6⟩
 ·exact ⟨o,c,[],rfl,hlc,fun j hj=>absurd hj (by simp),fun x hx=>by cases hx⟩
 ·have hx:∀i,∃x:By×By,i < l→(∃b f ok kk ov kv,o=some ⟨b,f,none⟩∧b < W.heap.size∧W.cell? ⟨b,f+i * 2,none⟩=some (.slice ok x.1.length kk)∧RdB W ok x.1∧W.cell? ⟨b,f+(i * 2+1),none⟩=some (.slice ov x.2.length kv)∧RdB W ov x.2)∧x.1.length≤Rows.uptoBulk (.slice elems spare)∧x.2.length≤Rows.uptoBulk (.slice elems spare):=fun i=>by
    by_cases hi:i < l
    ·obtain ⟨b,f,us,d',ps',fuel',ho,hb,hl,hg,hd,hel⟩:=h6 i hi
     obtain ⟨_,parts,rfl,hf⟩:=ZDM he hd
     obtain ⟨u0,u1,rfl⟩:∃u0 u1,us=[u0,u1]:=by
      rcases us with _ | ⟨a,_ | ⟨b,_ | ⟨c,r⟩⟩⟩ <;> simp at hl ⊢
     obtain ⟨fa,da,pa,ha,hpa⟩:=hf 0 f0 h0
     obtain ⟨fb,db,pb,hb',hpb⟩:=hf 1 f1 h1
     rw [t0,o0,show Tryz.prog.cellsOf 23=1 from by kernel_rfl] at ha
     rw [t1,o1,show Tryz.prog.cellsOf 23=1 from by kernel_rfl] at hb'
     obtain ⟨ok,kk,key,rfl,_,hrk,hlk⟩:=Z7c ha
     obtain ⟨ov,kv,val,rfl,_,hrv,hlv⟩:=Z7c hb'
     have p1:=Bulk.part_le (List.mem_of_getElem? hpa)
     have p2:=Bulk.part_le (List.mem_of_getElem? hpb)
     have p3:=Bulk.agg_parts parts
     have p4:=Bulk.part_le (List.mem_of_getElem? hel)
     have p5:=Bulk.slice_elems elems spare
     exact ⟨(key,val),fun _=>⟨⟨b,f,ok,kk,ov,kv,ho,hb,hg 0 _ rfl,hrk,hg 1 _ rfl,hrv⟩,by show key.length≤_; omega,by show val.length≤_; omega⟩⟩
    ·exact ⟨([],[]),fun h=>(hi h).elim⟩
  have hl:((List.range l).map (fun i=>Classical.choose (hx i))).length=l:=by simp
  refine ⟨o,c,(List.range l).map (fun i=>Classical.choose (hx i)),by rw [hl],by rw [hl]; exact hlc,fun j hj=>?_,fun x hxm=>?_⟩
  ·have hjl:j < l:=by rw [← hl]; exact hj
   have:=(Classical.choose_spec (hx j) hjl).1
   simp only [List.getElem_map,List.getElem_range]
   exact this
  ·obtain ⟨i,hi,rfl⟩:=List.mem_map.1 hxm
   exact (Classical.choose_spec (hx i) (List.mem_range.1 hi)).2
end
end Go.Proofs.YtfghidehlnfdiaaGreat
end
section
namespace Go.Proofs.YtfghidehlnfdiaaGreat
open Go Go.Vcg Go.Trie Go.Proofs.YtfghidehlnfdiaaGreat
theorem Z5V {f:Nat→Int} (hf:∀i,i < 32→(Lit.int .u8 (f i)).wf=true):∃h:By,h.length=32∧ZS 32 (fun i=>Value.int .u8 (f i))=hashA h:=by
 have h1:∀i,∃x:UInt8,i < 32→f i=(x.toNat:Int):=fun i=>by
  by_cases hi:i < 32
  ·have h2:=hf i hi
   have h3:0≤f i∧f i < 256:=by
    simp only [Lit.wf,Bool.and_eq_true,decide_eq_true_eq] at h2
    have h5:IntKind.min .u8=0:=by decide
    have h6:IntKind.max .u8=255:=by decide
    omega
   exact ⟨UInt8.ofNat (f i).toNat,fun _=>by rw [UInt8.toNat_ofNat']; omega⟩
  ·exact ⟨0,fun h=>(hi h).elim⟩
 refine ⟨(List.range 32).map (fun i=>Classical.choose (h1 i)),by simp,?_⟩
 unfold hashA
 refine ZG (fun i hi=>?_)
 rw [Classical.choose_spec (h1 i) hi]
 simp [bV,List.getD_eq_getElem?_getD,hi]
section
variable {H:Type} {enc:TypeId×Value→H} {W:World} {sp:Nat→Bool} {held:Bool} {base:Nat}
end
end Go.Proofs.YtfghidehlnfdiaaGreat
end
section
namespace Go.Proofs.YtfghidehlnfdiaaGreat
open Go Go.Vcg Go.Trie
theorem ZFY {H:Type} {enc:TypeId×Value→H} {W:World} {sp:Nat→Bool} {held:Bool} {base:Nat} {fuel:Nat} {v:Value} {d:DataW H} {ps:List MemPlace} (h:DataW.trod enc Tryz.prog W base sp held fuel 22 [v]=some (d,ps)) :
  ∃o c l,v=.slice o l.length c∧l.length≤c∧StR W o l:=by
 obtain ⟨o,c,l,h1,h2,h3,_⟩:=ZER ZCp (by kernel_rfl) Tryz.underlying53 rfl rfl rfl rfl rfl rfl h
 exact ⟨o,c,l,h1,h2,h3⟩
end Go.Proofs.YtfghidehlnfdiaaGreat
end
