/- Unpacking a path, both ways. -/
/- The verification conditions of some functions, printed by a program of ours (wip/PrintVc.lean). -/
/- Contracts: the head of an item (rlp.reads). -/
/- Contracts: rlp's decoder. -/
/- Contracts: rlp.First, rlp.Decode. -/
import Derived.Test.YtfghidehlnfdiaaGreatTVP
import Derived.Test.YtfghidehlnfdiaaGreatProg
import Derived.KernelRfl
import Derived.Test.YtfghidehlnfdiaaGreatTP17
set_option linter.unusedVariables false
set_option linter.unusedSimpArgs false
section
namespace Go.Proofs.YtfghidehlnfdiaaGreat
open Go Go.Vcg Go.Trie
def unpack:By→Option (By×Bool)
 | []=>none
 | a :: r =>
   if 65 < r.length+1∨3 < (a >>> 4).toNat then none
   else if (a >>> 4).toNat % 2=0 then (if (a &&& 15).toNat≠0 then none else some (nibbles r,decide ((a >>> 4).toNat > 1)))
   else if 64≤r.length then none else some ((a &&& 15) :: nibbles r,decide ((a >>> 4).toNat > 1))
theorem pairs_nibbles:∀(r:By),pairs (nibbles r)=r
 | []=>rfl
 | a :: r=>by
   rw [nibbles_cons]
   simp only [pairs]
   rw [nib_back,pairs_nibbles r]
theorem not_bad {p:By} (h:Nib p):packBad p↔128 < p.length:=by
 unfold packBad
 constructor
 ·rintro (h1 | ⟨x,hx,h1⟩)
  ·exact h1
  ·have:=h x hx
   have h2:=UInt8.le_iff_toNat_le.1 h1
   simp at h2
   omega
 ·exact .inl
theorem pack_odd {a:UInt8} {r:By} (h3:¬3 < (a >>> 4).toNat) (ho:(a >>> 4).toNat % 2≠0):(pack ((a &&& 15) :: nibbles r) (decide ((a >>> 4).toNat > 1)))=if 64≤r.length then ([],140) else (a :: r,0):=by
 have hn:Nib ((a &&& 15) :: nibbles r):=fun x hx=>nib_nibbles (a :: r) x (by rw [nibbles_cons]; exact List.mem_cons_of_mem _ hx)
 unfold pack
 have hl:((a &&& 15) :: nibbles r).length=1+2 * r.length:=by rw [List.length_cons,nibbles_len]; omega
 rw [show (if packBad _ then ((([]:By),(140:Int))) else _)=_ from ite_congr (propext (not_bad hn)) (fun _=>rfl) (fun _=>rfl),hl]
 by_cases h:64≤r.length
 ·rw [if_pos (by omega),if_pos h]
 ·rw [if_neg (by omega),if_neg h]
  unfold headed
  rw [if_pos (by omega)]
  simp only [pairs]
  rw [pairs_nibbles]
  have:flagOf (decide ((a >>> 4).toNat > 1))+(1:UInt8)=a >>> 4:=by
   have:∀n:Fin 256,¬3 < (UInt8.ofFin n >>> 4).toNat→(UInt8.ofFin n >>> 4).toNat % 2≠0→flagOf (decide ((UInt8.ofFin n >>> 4).toNat > 1))+(1:UInt8)=UInt8.ofFin n >>> 4:=by decide +kernel
   exact this a.toFin h3 ho
  rw [this,nib_back]
theorem pack_even {a:UInt8} {r:By} (h3:¬3 < (a >>> 4).toNat) (he:(a >>> 4).toNat % 2=0):(pack (nibbles r) (decide ((a >>> 4).toNat > 1)))=if 64 < r.length then ([],(140:Int)) else ((a >>> 4) <<< 4 :: r,(0:Int)):=by
 have hn:Nib (nibbles r):=nib_nibbles r
 unfold pack
 have hl:(nibbles r).length=2 * r.length:=by rw [nibbles_len]
 rw [show (if packBad _ then ((([]:By),(140:Int))) else _)=_ from ite_congr (propext (not_bad hn)) (fun _=>rfl) (fun _=>rfl),hl]
 by_cases h:64 < r.length
 ·rw [if_pos (by omega),if_pos h]
 ·rw [if_neg (by omega),if_neg h]
  unfold headed
  rw [if_neg (by omega)]
  simp only [pairs]
  rw [pairs_nibbles]
  have:flagOf (decide ((a >>> 4).toNat > 1))=a >>> 4:=by
   have:∀n:Fin 256,¬3 < (UInt8.ofFin n >>> 4).toNat→(UInt8.ofFin n >>> 4).toNat % 2=0→flagOf (decide ((UInt8.ofFin n >>> 4).toNat > 1))=UInt8.ofFin n >>> 4:=by decide +kernel
   exact this a.toFin h3 he
  rw [this]
  congr 2
  exact UInt8.or_zero
theorem low_zero (a:UInt8):(a >>> 4) <<< 4=a↔(a &&& 15).toNat=0:=by
 have:∀n:Fin 256,((UInt8.ofFin n >>> 4) <<< 4=UInt8.ofFin n↔(UInt8.ofFin n &&& 15).toNat=0):=by decide +kernel
 exact this a.toFin
theorem tmod_two (h:Nat):Int.tmod (h:Int) 2=((h % 2:Nat):Int):=(Int.ofNat_tmod h 2).symm
def upk (b:By):By×Bool×Int:=match unpack b with
 | none=>([],false,143)
 | some (p,l)=>(p,l,0)
section
variable {w:World} {o:Option Addr} {k:Nat} {bs:By}
theorem head_cell {a:UInt8} {r:By} (h:RdB w o (a :: r)):∃d,o=some d∧w.cell? (Addr.add d 0)=some (.int .u8 (a.toNat:Int)):=by
 obtain ⟨b,f,rfl,hb,hc⟩:=h (by simp)
 exact ⟨_,rfl,by rw [add_at]; exact hc 0 (by simp)⟩
theorem subO_new {o:Option Addr} {c n N:Nat} (h:∀k,OB o k→N≤k):∀d,subO o c n 1=some d→N≤d.block:=by
 intro d hd
 unfold subO at hd
 split at hd
 ·exact h _ ⟨d,hd,rfl⟩
 ·cases o with
  | none=>simp at hd
  | some a =>
    simp only [Option.map_some,Option.some.injEq] at hd
    rw [← hd]
    have e:(a.add (n * 1)).block=a.block:=by
     obtain ⟨b,f,s⟩:=a
     simp only [Addr.add]
     split <;> rfl
    rw [e]
    exact h a.block ⟨a,rfl,rfl⟩
theorem sub_drop {c n:Nat} (h:RdB w o bs) (hl:bs.length≤c):RdB w (subO o c n 1) (bs.drop n):=by
 have:=h.sub (c:=c) (lo:=n) (n:=bs.length) hl
 rwa [List.take_of_length_le (by simp)] at this
theorem Unpack_calls (hr:RdB w o bs) (hl:bs.length≤2 ^ 20) :
 Calls Tryz.prog trie_Unpack.n #[.slice o bs.length k] w (fun e w'=>∃o' k',e=.returned (.tuple #[.slice o' (upk bs).1.length k',.bool (upk bs).2.1,.int .i64 (upk bs).2.2])∧Vcg.Mod NoB w w'∧RdB w' o' (upk bs).1∧∀d,o'=some d→w.heap.size≤d.block):=by
 refine calls_gen fun R hR=>trie_Unpack.vc _ _ _ _ _ ?_
 unfold trie_Unpack.Vc
 refine (Nibbles_calls hr (by omega)).mono ?_
 rintro _ w1 ⟨o1,k1,rfl,F⟩
 have bad:∀w',unpack bs=none→Vcg.Mod NoB w w'→R (.returned (.tuple #[.slice none 0 0,.bool false,.int .i64 143])) w':=fun w' h M=>by
  refine hR _ _ ⟨none,0,?_,M,?_,fun d h=>by cases h⟩
  ·unfold upk; rw [h]; rfl
  ·unfold upk; rw [h]; exact RdB.nil _ _
 refine ⟨_,_,_,rfl,fun h0=>?_,fun h0=>?_⟩
 ·refine bad _ ?_ F.mod
  have:bs=[]:=List.eq_nil_of_length_eq_zero (by rw [nibbles_len] at h0; omega)
  rw [this]; rfl
 ·cases bs with
  | nil=>simp [nibbles_len] at h0
  | cons a r =>
    have hR1:=F.own.bytes
    rw [nibbles_cons] at hR1
    obtain ⟨d,rfl,hc⟩:=head_cell hR1
    have hlen:(nibbles (a :: r)).length=2 * (r.length+1):=by rw [nibbles_len,List.length_cons]
    have hcap:=F.own.cap.1
    rw [hlen] at *
    refine ⟨_,rfl,⟨by omega,by omega⟩,_,hc,fun h3=>bad _ ?_ F.mod,fun h3=>⟨fun h65=>bad _ ?_ F.mod,fun h65=>?_⟩⟩
    ·simp only [unpack]; rw [if_pos (.inr (by omega))]
    ·simp only [unpack]; rw [if_pos (.inl (by omega))]
    refine ⟨_,rfl,⟨by omega,by omega⟩,_,hc,by omega,?_⟩
    have hn3:¬3 < (a >>> 4).toNat:=by omega
    have edec:decide (((a >>> 4).toNat:Int) > 1)=decide ((a >>> 4).toNat > 1):=by rw [Bool.eq_iff_iff,decide_eq_true_eq,decide_eq_true_eq]; omega
    rw [edec]
    let path:By:=if (a >>> 4).toNat % 2=0 then nibbles r else (a &&& 15) :: nibbles r
    have hpl:path.length≤2 ^ 30:=by
     simp only [path]
     simp only [List.length_cons] at hl
     split
     ·rw [nibbles_len]; omega
     ·rw [List.length_cons,nibbles_len]; omega
    refine ⟨fun o' n' c' w'=>w'=w1∧n'=path.length∧RdB w1 o' path∧∀d,o'=some d→w.heap.size≤d.block,?_,?_⟩
    ·refine ⟨_,rfl,⟨by omega,by omega⟩,_,hc,fun he=>?_,fun he=>?_⟩
     ·rw [tmod_two] at he
      have he':(a >>> 4).toNat % 2=0:=by omega
      refine ⟨by omega,rfl,?_,?_,subO_new F.new⟩
      ·simp only [path,if_pos he',nibbles_len]; omega
      ·simp only [path,if_pos he']
       exact sub_drop (n:=2) hR1 (by simp only [List.length_cons,nibbles_len]; omega)
     ·rw [tmod_two] at he
      have he':¬(a >>> 4).toNat % 2=0:=by omega
      refine ⟨rfl,?_,?_,subO_new F.new⟩
      ·simp only [path,if_neg he',List.length_cons,nibbles_len]; omega
      ·simp only [path,if_neg he']
       exact sub_drop (n:=1) hR1 (by simp only [List.length_cons,nibbles_len]; omega)
    ·rintro o3 _ c3 _ w1 ⟨rfl,rfl,h3,hnew⟩
     refine (Pack_calls (k:=c3) h3 hpl _).mono ?_
     rintro _ w2 ⟨o4,k4,rfl,F4⟩
     have M02:=F.mod.trans F4.mod (fun _ _ h=>h)
     refine ⟨_,_,_,_,rfl,fun hn=>bad _ ?_ M02,fun hz=>?_⟩
     ·simp only [path] at hn
      simp only [unpack]
      rw [if_neg (by omega)]
      by_cases he:(a >>> 4).toNat % 2=0
      ·rw [if_pos he,pack_even hn3 he,if_neg (by omega)] at hn
       exact (hn rfl).elim
      ·rw [if_neg he,pack_odd hn3 he] at hn
       rw [if_neg he]
       by_cases h64:64≤r.length
       ·rw [if_pos h64]
       ·rw [if_neg h64] at hn; exact (hn rfl).elim
     ·have hq:=(Equal_calls (k1:=k4) (k2:=k) F4.own.bytes (hr.mod' M02))
      refine hq.mono ?_
      rintro _ w2 ⟨rfl,rfl⟩
      refine ⟨_,rfl,fun hf=>bad _ ?_ M02,fun ht=>?_⟩
      ·have hf:=of_decide_eq_false hf
       simp only [path] at hf hz
       simp only [unpack]
       rw [if_neg (by omega)]
       by_cases he:(a >>> 4).toNat % 2=0
       ·rw [if_pos he,pack_even hn3 he,if_neg (by omega)] at hf
        rw [if_pos he,if_pos (fun h=>hf ?_)]
        show (a >>> 4) <<< 4 :: r=a :: r
        rw [(low_zero a).2 h]
       ·rw [if_neg he,pack_odd hn3 he] at hf hz
        by_cases h64:64≤r.length
        ·rw [if_pos h64] at hz; exact absurd hz (by decide)
        ·rw [if_neg h64] at hf; exact (hf rfl).elim
      ·have ht:=of_decide_eq_true ht
       have hu:unpack (a :: r)=some (path,decide ((a >>> 4).toNat > 1)):=by
        simp only [path] at ht hz ⊢
        simp only [unpack]
        rw [if_neg (by omega)]
        by_cases he:(a >>> 4).toNat % 2=0
        ·rw [if_pos he,pack_even hn3 he,if_neg (by omega)] at ht
         simp only [List.cons.injEq,and_true] at ht
         rw [if_pos he,if_neg (fun h=>h ((low_zero a).1 ht)),if_pos he]
        ·rw [if_neg he,pack_odd hn3 he] at hz
         rw [if_neg he]
         by_cases h64:64≤r.length
         ·rw [if_pos h64] at hz; exact absurd hz (by decide)
         ·rw [if_neg h64,if_neg he]
       refine hR _ _ ⟨o3,c3,?_,M02,?_,hnew⟩
       ·unfold upk; rw [hu]
       ·unfold upk; rw [hu]; exact h3.mod' F4.mod
theorem rUnpack_calls (hr:RdB w o bs) (hl:bs.length≤2 ^ 20) :
 Calls Tryz.prog moraineref14_Unpack.n #[.slice o bs.length k] w (fun e w'=>∃o' k',e=.returned (.tuple #[.slice o' (upk bs).1.length k',.bool (upk bs).2.1,.int .i64 (upk bs).2.2])∧Vcg.Mod NoB w w'∧RdB w' o' (upk bs).1∧∀d,o'=some d→w.heap.size≤d.block):=by
 refine calls_gen fun R hR=>moraineref14_Unpack.vc _ _ _ _ _ ?_
 unfold moraineref14_Unpack.Vc
 have bad:∀w',unpack bs=none→Vcg.Mod NoB w w'→R (.returned (.tuple #[.slice none 0 0,.bool false,.int .i64 143])) w':=fun w' h M=>by
  refine hR _ _ ⟨none,0,?_,M,?_,fun d h=>by cases h⟩
  ·unfold upk; rw [h]; rfl
  ·unfold upk; rw [h]; exact RdB.nil _ _
 refine ⟨fun h0=>?_,fun h0=>⟨fun h65=>?_,fun h65=>?_⟩⟩
 ·refine bad _ ?_ (Mod.refl w)
  have:bs=[]:=List.eq_nil_of_length_eq_zero (by omega)
  rw [this]; rfl
 ·cases bs with
  | nil=>simp at h0
  | cons a r =>
    simp only [List.length_cons] at h65
    refine bad _ ?_ (Mod.refl w)
    simp only [unpack]; rw [if_pos (.inl (by omega))]
 ·refine (rNibbles_calls hr (by omega)).mono ?_
  rintro _ w1 ⟨o1,k1,rfl,F⟩
  cases bs with
  | nil=>simp at h0
  | cons a r =>
    simp only [List.length_cons] at h65
    have hR1:=F.own.bytes
    rw [nibbles_cons] at hR1
    have hlen:(nibbles (a :: r)).length=2 * (r.length+1):=by rw [nibbles_len,List.length_cons]
    have hcap:2 * (r.length+1)≤k1:=by have:=F.own.cap.1; rwa [hlen] at this
    rw [hlen]
    obtain ⟨b,f,rfl,hb,hcs⟩:=hR1 (by simp)
    have c0:=hcs 0 (by simp)
    have c1:=hcs 1 (by simp)
    refine ⟨_,_,_,rfl,_,rfl,⟨by omega,by omega⟩,((a >>> 4).toNat:Int),by rw [add_at]; exact c0,fun h3=>bad _ ?_ F.mod,fun h3=>?_⟩
    ·simp only [unpack]; rw [if_pos (.inr (by omega))]
    ·rw [tmod_two]
     have hn3:¬3 < (a >>> 4).toNat:=by omega
     have edec:decide (((a >>> 4).toNat:Int) > 1)=decide ((a >>> 4).toNat > 1):=by rw [Bool.eq_iff_iff,decide_eq_true_eq,decide_eq_true_eq]; omega
     rw [edec]
     refine ⟨fun he=>?_,fun he=>?_⟩
     ·have he':(a >>> 4).toNat % 2=0:=by omega
      refine ⟨_,rfl,⟨by omega,by omega⟩,((a &&& 15).toNat:Int),by rw [add_at]; exact c1,fun hn=>bad _ ?_ F.mod,fun hz=>?_⟩
      ·simp only [unpack]
       rw [if_neg (by omega),if_pos he',if_pos (by omega)]
      ·have ew:IntKind.wrap .u8 ((2:Int) - (((a >>> 4).toNat % 2:Nat):Int))=2:=by rw [he']; decide
       rw [ew]
       have hu:unpack (a :: r)=some (nibbles r,decide ((a >>> 4).toNat > 1)):=by
        simp only [unpack]
        rw [if_neg (by omega),if_pos he',if_neg (by omega)]
       refine ⟨⟨by omega,by omega⟩,fun h=>absurd h (by simp only [show Int.toNat 2=2 from rfl]; omega),fun h=>hR _ _ ⟨subO (some ⟨b,f,none⟩) k1 2 1,k1 - 2,?_,F.mod,?_,?_⟩⟩
       ·unfold upk; rw [hu]
        simp only [show Int.toNat 2=2 from rfl,nibbles_len]
        rw [show 2 * (r.length+1) - 2=2 * r.length by omega]
       ·unfold upk; rw [hu]
        exact sub_drop (n:=2) hR1 (by simp only [List.length_cons,nibbles_len]; omega)
       ·exact subO_new F.new
     ·have he':(a >>> 4).toNat % 2=1:=by omega
      have ew:IntKind.wrap .u8 ((2:Int) - (((a >>> 4).toNat % 2:Nat):Int))=1:=by rw [he']; decide
      rw [ew]
      refine ⟨⟨by omega,by omega⟩,fun h=>bad _ ?_ F.mod,fun h=>?_⟩
      ·simp only [show Int.toNat 1=1 from rfl] at h
       simp only [unpack]
       rw [if_neg (by omega),if_neg (by omega),if_pos (by omega)]
      ·simp only [show Int.toNat 1=1 from rfl] at h ⊢
       have hu:unpack (a :: r)=some ((a &&& 15) :: nibbles r,decide ((a >>> 4).toNat > 1)):=by
        simp only [unpack]
        rw [if_neg (by omega),if_neg (by omega),if_neg (by omega)]
       refine hR _ _ ⟨subO (some ⟨b,f,none⟩) k1 1 1,k1 - 1,?_,F.mod,?_,?_⟩
       ·unfold upk; rw [hu]
        simp only [List.length_cons,nibbles_len]
        rw [show 2 * (r.length+1) - 1=2 * r.length+1 by omega]
       ·unfold upk; rw [hu]
        exact sub_drop (n:=1) hR1 (by simp only [List.length_cons,nibbles_len]; omega)
       ·exact subO_new F.new
end
end Go.Proofs.YtfghidehlnfdiaaGreat
end
section
namespace Go.Proofs.YtfghidehlnfdiaaGreat
open Go Go.Vcg
abbrev rlp_Decode.n:Nat:=102
def rlp_Decode.Vc (o0:Option Addr) (l0 c0:Nat) (w:World) (R:Ending→World→Prop):Prop :=
 ∀d1 w2,IsNew w 111 #[(.bool false),(.slice none 0 0),(.slice none 0 0)] d1 w2 →
 Calls Tryz.prog 122 #[(.slice o0 l0 c0)] w2 (fun e3 w4 =>
 ∃b5 o6 l7 l8 o9 l10 l11 n12 n13,e3=.returned (.tuple #[(.agg #[(.bool b5),(.slice o6 l7 l8),(.slice o9 l10 l11)]),(.int .i64 n12),(.int .i64 n13)]) ∧
 ∀d14 w15,IsNew w4 111 #[(.bool false),(.slice none 0 0),(.slice none 0 0)] d14 w15 →
 CanSet w15 d14 (.bool b5)∧∀w16,IsSet w15 d14 (.bool b5) w16 →
 CanSet w16 (Addr.add d14 1) (.slice o6 l7 l8)∧∀w17,IsSet w16 (Addr.add d14 1) (.slice o6 l7 l8) w17 →
 CanSet w17 (Addr.add d14 2) (.slice o9 l10 l11)∧∀w18,IsSet w17 (Addr.add d14 2) (.slice o9 l10 l11) w18 →
 (((n13≠0 →
 CanSet w18 d1 (.bool false)∧∀w19,IsSet w18 d1 (.bool false) w19 →
 CanSet w19 (Addr.add d1 1) (.slice none 0 0)∧∀w20,IsSet w19 (Addr.add d1 1) (.slice none 0 0) w20 →
 CanSet w20 (Addr.add d1 2) (.slice none 0 0)∧∀w21,IsSet w20 (Addr.add d1 2) (.slice none 0 0) w21 →
 ∃b22 o23 l24 l25 o26 l27 l28,World.cell? w21 d1=some (.bool b22) ∧
 World.cell? w21 (Addr.add d1 1)=some (.slice o23 l24 l25) ∧
 World.cell? w21 (Addr.add d1 2)=some (.slice o26 l27 l28) ∧
 R (.returned (.tuple #[(.agg #[(.bool b22),(.slice o23 l24 l25),(.slice o26 l27 l28)]),(.int .i64 n13)])) w21)) ∧
 ((n13=0 →
 (((n12 < ((l0:Nat):Int) →
 CanSet w18 d1 (.bool false)∧∀w29,IsSet w18 d1 (.bool false) w29 →
 CanSet w29 (Addr.add d1 1) (.slice none 0 0)∧∀w30,IsSet w29 (Addr.add d1 1) (.slice none 0 0) w30 →
 CanSet w30 (Addr.add d1 2) (.slice none 0 0)∧∀w31,IsSet w30 (Addr.add d1 2) (.slice none 0 0) w31 →
 ∃b32 o33 l34 l35 o36 l37 l38,World.cell? w31 d1=some (.bool b32) ∧
 World.cell? w31 (Addr.add d1 1)=some (.slice o33 l34 l35) ∧
 World.cell? w31 (Addr.add d1 2)=some (.slice o36 l37 l38) ∧
 R (.returned (.tuple #[(.agg #[(.bool b32),(.slice o33 l34 l35),(.slice o36 l37 l38)]),(.int .i64 42)])) w31)) ∧
 ((¬n12 < ((l0:Nat):Int) →
 ∃b39 o40 l41 l42 o43 l44 l45,World.cell? w18 d14=some (.bool b39) ∧
 World.cell? w18 (Addr.add d14 1)=some (.slice o40 l41 l42) ∧
 World.cell? w18 (Addr.add d14 2)=some (.slice o43 l44 l45) ∧
 CanSet w18 d1 (.bool b39)∧∀w46,IsSet w18 d1 (.bool b39) w46 →
 CanSet w46 (Addr.add d1 1) (.slice o40 l41 l42)∧∀w47,IsSet w46 (Addr.add d1 1) (.slice o40 l41 l42) w47 →
 CanSet w47 (Addr.add d1 2) (.slice o43 l44 l45)∧∀w48,IsSet w47 (Addr.add d1 2) (.slice o43 l44 l45) w48 →
 ∃b49 o50 l51 l52 o53 l54 l55,World.cell? w48 d1=some (.bool b49) ∧
 World.cell? w48 (Addr.add d1 1)=some (.slice o50 l51 l52) ∧
 World.cell? w48 (Addr.add d1 2)=some (.slice o53 l54 l55) ∧
 R (.returned (.tuple #[(.agg #[(.bool b49),(.slice o50 l51 l52),(.slice o53 l54 l55)]),(.int .i64 0)])) w48)))))))
theorem rlp_Decode.vc (o0:Option Addr) (l0:Nat) (c0:Nat) (w:World) (R:Ending→World→Prop) (h:rlp_Decode.Vc o0 l0 c0 w R):Calls Tryz.prog 102 #[(.slice o0 l0 c0)] w R :=
 execF_sound (R:=⟨R,false⟩) (ann:=[]) (args:=[.slice o0 l0 c0]) Tryz.func102 mixed (Eq.mp (by kernel_rfl:rlp_Decode.Vc o0 l0 c0 w R=execF (pA Tryz.prog ⟨R,false⟩) Tryz.prog [] Tryz.f102 [.slice o0 l0 c0] w) h)

abbrev rlp_First.n:Nat:=122
def rlp_First.Vc (o0:Option Addr) (l0 c0:Nat) (w:World) (R:Ending→World→Prop):Prop :=
 ∀d1 w2,IsNew w 111 #[(.bool false),(.slice none 0 0),(.slice none 0 0)] d1 w2 →
 (((((l0:Nat):Int) > 65536 →
 CanSet w2 d1 (.bool false)∧∀w3,IsSet w2 d1 (.bool false) w3 →
 CanSet w3 (Addr.add d1 1) (.slice none 0 0)∧∀w4,IsSet w3 (Addr.add d1 1) (.slice none 0 0) w4 →
 CanSet w4 (Addr.add d1 2) (.slice none 0 0)∧∀w5,IsSet w4 (Addr.add d1 2) (.slice none 0 0) w5 →
 ∃b6 o7 l8 l9 o10 l11 l12,World.cell? w5 d1=some (.bool b6) ∧
 World.cell? w5 (Addr.add d1 1)=some (.slice o7 l8 l9) ∧
 World.cell? w5 (Addr.add d1 2)=some (.slice o10 l11 l12) ∧
 R (.returned (.tuple #[(.agg #[(.bool b6),(.slice o7 l8 l9),(.slice o10 l11 l12)]),(.int .i64 0),(.int .i64 44)])) w5)) ∧
 ((¬((l0:Nat):Int) > 65536 →
 ∀d13 w14,IsNew w2 217 #[(.int .i64 0)] d13 w14 →
 Calls Tryz.prog 136 #[(.pointer (some d13)),(.slice o0 l0 c0),(.int .i64 1)] w14 (fun e15 w16 =>
 ∃b17 o18 l19 l20 o21 l22 l23 n24 n25,e15=.returned (.tuple #[(.agg #[(.bool b17),(.slice o18 l19 l20),(.slice o21 l22 l23)]),(.int .i64 n24),(.int .i64 n25)]) ∧
 CanSet w16 d1 (.bool b17)∧∀w26,IsSet w16 d1 (.bool b17) w26 →
 CanSet w26 (Addr.add d1 1) (.slice o18 l19 l20)∧∀w27,IsSet w26 (Addr.add d1 1) (.slice o18 l19 l20) w27 →
 CanSet w27 (Addr.add d1 2) (.slice o21 l22 l23)∧∀w28,IsSet w27 (Addr.add d1 2) (.slice o21 l22 l23) w28 →
 ∃b29 o30 l31 l32 o33 l34 l35,World.cell? w28 d1=some (.bool b29) ∧
 World.cell? w28 (Addr.add d1 1)=some (.slice o30 l31 l32) ∧
 World.cell? w28 (Addr.add d1 2)=some (.slice o33 l34 l35) ∧
 R (.returned (.tuple #[(.agg #[(.bool b29),(.slice o30 l31 l32),(.slice o33 l34 l35)]),(.int .i64 n24),(.int .i64 n25)])) w28))))
theorem rlp_First.vc (o0:Option Addr) (l0:Nat) (c0:Nat) (w:World) (R:Ending→World→Prop) (h:rlp_First.Vc o0 l0 c0 w R):Calls Tryz.prog 122 #[(.slice o0 l0 c0)] w R :=
 execF_sound (R:=⟨R,false⟩) (ann:=[]) (args:=[.slice o0 l0 c0]) Tryz.func122 mixed (Eq.mp (by kernel_rfl:rlp_First.Vc o0 l0 c0 w R=execF (pA Tryz.prog ⟨R,false⟩) Tryz.prog [] Tryz.f122 [.slice o0 l0 c0] w) h)

abbrev rlp_walker_first.n:Nat:=136
def rlp_walker_first.Vc (d0:Addr) (o1:Option Addr) (l1 c1:Nat) (n2:Int) (w:World) (R:Ending→World→Prop):Prop :=
 ∀d3 w4,IsNew w 111 #[(.bool false),(.slice none 0 0),(.slice none 0 0)] d3 w4 →
 (((((l1:Nat):Int)=0 →
 CanSet w4 d3 (.bool false)∧∀w5,IsSet w4 d3 (.bool false) w5 →
 CanSet w5 (Addr.add d3 1) (.slice none 0 0)∧∀w6,IsSet w5 (Addr.add d3 1) (.slice none 0 0) w6 →
 CanSet w6 (Addr.add d3 2) (.slice none 0 0)∧∀w7,IsSet w6 (Addr.add d3 2) (.slice none 0 0) w7 →
 ∃b8 o9 l10 l11 o12 l13 l14,World.cell? w7 d3=some (.bool b8) ∧
 World.cell? w7 (Addr.add d3 1)=some (.slice o9 l10 l11) ∧
 World.cell? w7 (Addr.add d3 2)=some (.slice o12 l13 l14) ∧
 R (.returned (.tuple #[(.agg #[(.bool b8),(.slice o9 l10 l11),(.slice o12 l13 l14)]),(.int .i64 0),(.int .i64 41)])) w7)) ∧
 ((((l1:Nat):Int)≠0 →
 Calls Tryz.prog 148 #[(.pointer (some d0)),(.int .i64 n2)] w4 (fun e15 w16 =>
 ∃n17,e15=.returned (.int .i64 n17) ∧
 (((n17≠0 →
 CanSet w16 d3 (.bool false)∧∀w18,IsSet w16 d3 (.bool false) w18 →
 CanSet w18 (Addr.add d3 1) (.slice none 0 0)∧∀w19,IsSet w18 (Addr.add d3 1) (.slice none 0 0) w19 →
 CanSet w19 (Addr.add d3 2) (.slice none 0 0)∧∀w20,IsSet w19 (Addr.add d3 2) (.slice none 0 0) w20 →
 ∃b21 o22 l23 l24 o25 l26 l27,World.cell? w20 d3=some (.bool b21) ∧
 World.cell? w20 (Addr.add d3 1)=some (.slice o22 l23 l24) ∧
 World.cell? w20 (Addr.add d3 2)=some (.slice o25 l26 l27) ∧
 R (.returned (.tuple #[(.agg #[(.bool b21),(.slice o22 l23 l24),(.slice o25 l26 l27)]),(.int .i64 0),(.int .i64 n17)])) w20)) ∧
 ((n17=0 →
 Calls Tryz.prog 149 #[(.slice o1 l1 c1)] w16 (fun e28 w29 =>
 ∃b30 n31 n32 b33 b34 n35,e28=.returned (.tuple #[(.agg #[(.bool b30),(.int .i64 n31),(.int .i64 n32),(.bool b33),(.bool b34)]),(.int .i64 n35)]) ∧
 ∀d36 w37,IsNew w29 237 #[(.bool false),(.int .i64 0),(.int .i64 0),(.bool false),(.bool false)] d36 w37 →
 CanSet w37 d36 (.bool b30)∧∀w38,IsSet w37 d36 (.bool b30) w38 →
 CanSet w38 (Addr.add d36 1) (.int .i64 n31)∧∀w39,IsSet w38 (Addr.add d36 1) (.int .i64 n31) w39 →
 CanSet w39 (Addr.add d36 2) (.int .i64 n32)∧∀w40,IsSet w39 (Addr.add d36 2) (.int .i64 n32) w40 →
 CanSet w40 (Addr.add d36 3) (.bool b33)∧∀w41,IsSet w40 (Addr.add d36 3) (.bool b33) w41 →
 CanSet w41 (Addr.add d36 4) (.bool b34)∧∀w42,IsSet w41 (Addr.add d36 4) (.bool b34) w42 →
 (((n35≠0 →
 CanSet w42 d3 (.bool false)∧∀w43,IsSet w42 d3 (.bool false) w43 →
 CanSet w43 (Addr.add d3 1) (.slice none 0 0)∧∀w44,IsSet w43 (Addr.add d3 1) (.slice none 0 0) w44 →
 CanSet w44 (Addr.add d3 2) (.slice none 0 0)∧∀w45,IsSet w44 (Addr.add d3 2) (.slice none 0 0) w45 →
 ∃b46 o47 l48 l49 o50 l51 l52,World.cell? w45 d3=some (.bool b46) ∧
 World.cell? w45 (Addr.add d3 1)=some (.slice o47 l48 l49) ∧
 World.cell? w45 (Addr.add d3 2)=some (.slice o50 l51 l52) ∧
 R (.returned (.tuple #[(.agg #[(.bool b46),(.slice o47 l48 l49),(.slice o50 l51 l52)]),(.int .i64 0),(.int .i64 n35)])) w45)) ∧
 ((n35=0 →
 ∃n53,World.cell? w42 (Addr.add d36 2)=some (.int .i64 n53) ∧
 ∃n54,World.cell? w42 (Addr.add d36 1)=some (.int .i64 n54) ∧
 (((n53 > (IntKind.wrap .i64 (((l1:Nat):Int) - n54)) →
 CanSet w42 d3 (.bool false)∧∀w55,IsSet w42 d3 (.bool false) w55 →
 CanSet w55 (Addr.add d3 1) (.slice none 0 0)∧∀w56,IsSet w55 (Addr.add d3 1) (.slice none 0 0) w56 →
 CanSet w56 (Addr.add d3 2) (.slice none 0 0)∧∀w57,IsSet w56 (Addr.add d3 2) (.slice none 0 0) w57 →
 ∃b58 o59 l60 l61 o62 l63 l64,World.cell? w57 d3=some (.bool b58) ∧
 World.cell? w57 (Addr.add d3 1)=some (.slice o59 l60 l61) ∧
 World.cell? w57 (Addr.add d3 2)=some (.slice o62 l63 l64) ∧
 R (.returned (.tuple #[(.agg #[(.bool b58),(.slice o59 l60 l61),(.slice o62 l63 l64)]),(.int .i64 0),(.int .i64 41)])) w57)) ∧
 ((¬n53 > (IntKind.wrap .i64 (((l1:Nat):Int) - n54)) →
 ∃n65,World.cell? w42 (Addr.add d36 1)=some (.int .i64 n65) ∧
 ∃n66,World.cell? w42 (Addr.add d36 1)=some (.int .i64 n66) ∧
 ∃n67,World.cell? w42 (Addr.add d36 2)=some (.int .i64 n67) ∧
 ((0:Int)≤(IntKind.wrap .i64 (n66+n67))∧(IntKind.wrap .i64 (n66+n67))≤((c1:Nat):Int)) ∧
 ((0:Int)≤n65∧n65≤(((Int.toNat (IntKind.wrap .i64 (n66+n67))):Nat):Int)) ∧
 ∃n68,World.cell? w42 (Addr.add d36 1)=some (.int .i64 n68) ∧
 ∃n69,World.cell? w42 (Addr.add d36 2)=some (.int .i64 n69) ∧
 ∃b70,World.cell? w42 d36=some (.bool b70) ∧
 (((b70=false →
 ∃b71,World.cell? w42 (Addr.add d36 3)=some (.bool b71) ∧
 (((b71=false →
 Calls Tryz.prog 150 #[(.slice (subO o1 c1 (Int.toNat n65) 1) ((Int.toNat (IntKind.wrap .i64 (n66+n67))) - (Int.toNat n65)) (c1 - (Int.toNat n65)))] w42 (fun e72 w73 =>
 ∃b74,e72=.returned (.bool b74) ∧
 (((b74=true →
 CanSet w73 d3 (.bool false)∧∀w75,IsSet w73 d3 (.bool false) w75 →
 CanSet w75 (Addr.add d3 1) (.slice none 0 0)∧∀w76,IsSet w75 (Addr.add d3 1) (.slice none 0 0) w76 →
 CanSet w76 (Addr.add d3 2) (.slice none 0 0)∧∀w77,IsSet w76 (Addr.add d3 2) (.slice none 0 0) w77 →
 ∃b78 o79 l80 l81 o82 l83 l84,World.cell? w77 d3=some (.bool b78) ∧
 World.cell? w77 (Addr.add d3 1)=some (.slice o79 l80 l81) ∧
 World.cell? w77 (Addr.add d3 2)=some (.slice o82 l83 l84) ∧
 R (.returned (.tuple #[(.agg #[(.bool b78),(.slice o79 l80 l81),(.slice o82 l83 l84)]),(.int .i64 0),(.int .i64 40)])) w77)) ∧
 ((b74=false →
 Calls Tryz.prog 36 #[(.slice (subO o1 c1 (Int.toNat n65) 1) ((Int.toNat (IntKind.wrap .i64 (n66+n67))) - (Int.toNat n65)) (c1 - (Int.toNat n65)))] w73 (fun e85 w86 =>
 ∃o87 l88 l89,e85=.returned (.slice o87 l88 l89) ∧
 CanSet w86 d3 (.bool false)∧∀w90,IsSet w86 d3 (.bool false) w90 →
 CanSet w90 (Addr.add d3 1) (.slice o87 l88 l89)∧∀w91,IsSet w90 (Addr.add d3 1) (.slice o87 l88 l89) w91 →
 CanSet w91 (Addr.add d3 2) (.slice none 0 0)∧∀w92,IsSet w91 (Addr.add d3 2) (.slice none 0 0) w92 →
 ∃b93 o94 l95 l96 o97 l98 l99,World.cell? w92 d3=some (.bool b93) ∧
 World.cell? w92 (Addr.add d3 1)=some (.slice o94 l95 l96) ∧
 World.cell? w92 (Addr.add d3 2)=some (.slice o97 l98 l99) ∧
 R (.returned (.tuple #[(.agg #[(.bool b93),(.slice o94 l95 l96),(.slice o97 l98 l99)]),(.int .i64 (IntKind.wrap .i64 (n68+n69))),(.int .i64 0)])) w92))))))) ∧
 ((b71=true →
 Calls Tryz.prog 36 #[(.slice (subO o1 c1 (Int.toNat n65) 1) ((Int.toNat (IntKind.wrap .i64 (n66+n67))) - (Int.toNat n65)) (c1 - (Int.toNat n65)))] w42 (fun e100 w101 =>
 ∃o102 l103 l104,e100=.returned (.slice o102 l103 l104) ∧
 CanSet w101 d3 (.bool false)∧∀w105,IsSet w101 d3 (.bool false) w105 →
 CanSet w105 (Addr.add d3 1) (.slice o102 l103 l104)∧∀w106,IsSet w105 (Addr.add d3 1) (.slice o102 l103 l104) w106 →
 CanSet w106 (Addr.add d3 2) (.slice none 0 0)∧∀w107,IsSet w106 (Addr.add d3 2) (.slice none 0 0) w107 →
 ∃b108 o109 l110 l111 o112 l113 l114,World.cell? w107 d3=some (.bool b108) ∧
 World.cell? w107 (Addr.add d3 1)=some (.slice o109 l110 l111) ∧
 World.cell? w107 (Addr.add d3 2)=some (.slice o112 l113 l114) ∧
 R (.returned (.tuple #[(.agg #[(.bool b108),(.slice o109 l110 l111),(.slice o112 l113 l114)]),(.int .i64 (IntKind.wrap .i64 (n68+n69))),(.int .i64 0)])) w107)))))) ∧
 ((b70=true →
 ∀d115 w116,IsNew w42 111 #[(.bool false),(.slice none 0 0),(.slice none 0 0)] d115 w116 →
 CanSet w116 d115 (.bool true)∧∀w117,IsSet w116 d115 (.bool true) w117 →
 CanSet w117 (Addr.add d115 1) (.slice none 0 0)∧∀w118,IsSet w117 (Addr.add d115 1) (.slice none 0 0) w118 →
 CanSet w118 (Addr.add d115 2) (.slice none 0 0)∧∀w119,IsSet w118 (Addr.add d115 2) (.slice none 0 0) w119 →
 ∃(I120:Option Addr→Nat→Nat→World→Prop) (μ120:Option Addr→Nat→Nat→World→Nat),I120 (subO o1 c1 (Int.toNat n65) 1) ((Int.toNat (IntKind.wrap .i64 (n66+n67))) - (Int.toNat n65)) (c1 - (Int.toNat n65)) w119 ∧
 (∀(o121:Option Addr) (l121:Nat) (c121:Nat) (j122:Nat→Value) (w122:World),I120 o121 l121 c121 w122 →
 (((((l121:Nat):Int) > 0 →
 Calls Tryz.prog 136 #[(.pointer (some d0)),(.slice o121 l121 c121),(.int .i64 (IntKind.wrap .i64 (n2+1)))] w122 (fun e123 w124 =>
 ∃b125 o126 l127 l128 o129 l130 l131 n132 n133,e123=.returned (.tuple #[(.agg #[(.bool b125),(.slice o126 l127 l128),(.slice o129 l130 l131)]),(.int .i64 n132),(.int .i64 n133)]) ∧
 ∀d134 w135,IsNew w124 111 #[(.bool false),(.slice none 0 0),(.slice none 0 0)] d134 w135 →
 CanSet w135 d134 (.bool b125)∧∀w136,IsSet w135 d134 (.bool b125) w136 →
 CanSet w136 (Addr.add d134 1) (.slice o126 l127 l128)∧∀w137,IsSet w136 (Addr.add d134 1) (.slice o126 l127 l128) w137 →
 CanSet w137 (Addr.add d134 2) (.slice o129 l130 l131)∧∀w138,IsSet w137 (Addr.add d134 2) (.slice o129 l130 l131) w138 →
 (((n133≠0 →
 CanSet w138 d3 (.bool false)∧∀w139,IsSet w138 d3 (.bool false) w139 →
 CanSet w139 (Addr.add d3 1) (.slice none 0 0)∧∀w140,IsSet w139 (Addr.add d3 1) (.slice none 0 0) w140 →
 CanSet w140 (Addr.add d3 2) (.slice none 0 0)∧∀w141,IsSet w140 (Addr.add d3 2) (.slice none 0 0) w141 →
 ∃b142 o143 l144 l145 o146 l147 l148,World.cell? w141 d3=some (.bool b142) ∧
 World.cell? w141 (Addr.add d3 1)=some (.slice o143 l144 l145) ∧
 World.cell? w141 (Addr.add d3 2)=some (.slice o146 l147 l148) ∧
 R (.returned (.tuple #[(.agg #[(.bool b142),(.slice o143 l144 l145),(.slice o146 l147 l148)]),(.int .i64 0),(.int .i64 n133)])) w141)) ∧
 ((n133=0 →
 ∀w149,IsDrew w138 w149 →
 ∃o150 l151 l152,World.cell? w149 (Addr.add d115 2)=some (.slice o150 l151 l152) ∧
 ∃b153 o154 l155 l156 o157 l158 l159,World.cell? w149 d134=some (.bool b153) ∧
 World.cell? w149 (Addr.add d134 1)=some (.slice o154 l155 l156) ∧
 World.cell? w149 (Addr.add d134 2)=some (.slice o157 l158 l159) ∧
 ((0:Int)≤n132∧n132≤((l121:Nat):Int)) ∧
 ∀d160 w161,IsNew w149 111 #[(.bool b153),(.slice o154 l155 l156),(.slice o157 l158 l159)] d160 w161 →
 World.cell? w161 (Addr.add d115 2)=some (.slice o150 l151 l152) ∧
 ∃v162 w163,Sem.run Tryz.prog (builtinV .append #[109,109] 109 #[(.slice o150 l151 l152),(.slice (some d160) 1 1)]) w161=.ok v162 w163 ∧
 ∃o164 l165 l166,v162=(.slice o164 l165 l166) ∧
 CanSet w163 (Addr.add d115 2) (.slice o164 l165 l166)∧∀w167,IsSet w163 (Addr.add d115 2) (.slice o164 l165 l166) w167 →
 I120 (subO o121 c121 (Int.toNat n132) 1) (l121 - (Int.toNat n132)) (c121 - (Int.toNat n132)) w167∧μ120 (subO o121 c121 (Int.toNat n132) 1) (l121 - (Int.toNat n132)) (c121 - (Int.toNat n132)) w167 < μ120 o121 l121 c121 w122)))))) ∧
 ((¬((l121:Nat):Int) > 0 →
 ∃b168 o169 l170 l171 o172 l173 l174,World.cell? w122 d115=some (.bool b168) ∧
 World.cell? w122 (Addr.add d115 1)=some (.slice o169 l170 l171) ∧
 World.cell? w122 (Addr.add d115 2)=some (.slice o172 l173 l174) ∧
 CanSet w122 d3 (.bool b168)∧∀w175,IsSet w122 d3 (.bool b168) w175 →
 CanSet w175 (Addr.add d3 1) (.slice o169 l170 l171)∧∀w176,IsSet w175 (Addr.add d3 1) (.slice o169 l170 l171) w176 →
 CanSet w176 (Addr.add d3 2) (.slice o172 l173 l174)∧∀w177,IsSet w176 (Addr.add d3 2) (.slice o172 l173 l174) w177 →
 ∃b178 o179 l180 l181 o182 l183 l184,World.cell? w177 d3=some (.bool b178) ∧
 World.cell? w177 (Addr.add d3 1)=some (.slice o179 l180 l181) ∧
 World.cell? w177 (Addr.add d3 2)=some (.slice o182 l183 l184) ∧
 R (.returned (.tuple #[(.agg #[(.bool b178),(.slice o179 l180 l181),(.slice o182 l183 l184)]),(.int .i64 (IntKind.wrap .i64 (n68+n69))),(.int .i64 0)])) w177)))))))))))))))))))))
theorem rlp_walker_first.vc (d0:Addr) (o1:Option Addr) (l1:Nat) (c1:Nat) (n2:Int) (w:World) (R:Ending→World→Prop) (h:rlp_walker_first.Vc d0 o1 l1 c1 n2 w R):Calls Tryz.prog 136 #[(.pointer (some d0)),(.slice o1 l1 c1),(.int .i64 n2)] w R :=
 execF_sound (R:=⟨R,false⟩) (ann:=[(18,[(12,.cell (.slice))])]) (args:=[.addr d0,.slice o1 l1 c1,.int .i64 n2]) Tryz.func136 mixed (Eq.mp (by kernel_rfl:rlp_walker_first.Vc d0 o1 l1 c1 n2 w R=execF (pA Tryz.prog ⟨R,false⟩) Tryz.prog [(18,[(12,.cell (.slice))])] Tryz.f136 [.addr d0,.slice o1 l1 c1,.int .i64 n2] w) h)

abbrev rlp_reads.n:Nat:=149
def rlp_reads.Vc (o0:Option Addr) (l0 c0:Nat) (w:World) (R:Ending→World→Prop):Prop :=
 ∀d1 w2,IsNew w 237 #[(.bool false),(.int .i64 0),(.int .i64 0),(.bool false),(.bool false)] d1 w2 →
 ∃d3,o0=some d3 ∧
 ((0:Int)≤0∧0 < ((l0:Nat):Int)) ∧
 ∃n4,World.cell? w2 (Addr.add d3 0)=some (.int .u8 n4) ∧
 ∀d5 w6,IsNew w2 3 #[(.int .i64 0)] d5 w6 →
 CanSet w6 d5 (.int .i64 (IntKind.wrap .i64 n4))∧∀w7,IsSet w6 d5 (.int .i64 (IntKind.wrap .i64 n4)) w7 →
 ∀d8 w9,IsNew w7 237 #[(.bool false),(.int .i64 0),(.int .i64 0),(.bool false),(.bool false)] d8 w9 →
 CanSet w9 d8 (.bool false)∧∀w10,IsSet w9 d8 (.bool false) w10 →
 CanSet w10 (Addr.add d8 1) (.int .i64 1)∧∀w11,IsSet w10 (Addr.add d8 1) (.int .i64 1) w11 →
 CanSet w11 (Addr.add d8 2) (.int .i64 0)∧∀w12,IsSet w11 (Addr.add d8 2) (.int .i64 0) w12 →
 CanSet w12 (Addr.add d8 3) (.bool false)∧∀w13,IsSet w12 (Addr.add d8 3) (.bool false) w13 →
 CanSet w13 (Addr.add d8 4) (.bool false)∧∀w14,IsSet w13 (Addr.add d8 4) (.bool false) w14 →
 ∀d15 w16,IsNew w14 3 #[(.int .i64 0)] d15 w16 →
 CanSet w16 d15 (.int .i64 0)∧∀w17,IsSet w16 d15 (.int .i64 0) w17 →
 ∃(J18:World→Prop),(∃n19,World.cell? w17 d5=some (.int .i64 n19) ∧
 (((n19 < 128 →
 CanSet w17 d1 (.bool false)∧∀w20,IsSet w17 d1 (.bool false) w20 →
 CanSet w20 (Addr.add d1 1) (.int .i64 0)∧∀w21,IsSet w20 (Addr.add d1 1) (.int .i64 0) w21 →
 CanSet w21 (Addr.add d1 2) (.int .i64 1)∧∀w22,IsSet w21 (Addr.add d1 2) (.int .i64 1) w22 →
 CanSet w22 (Addr.add d1 3) (.bool true)∧∀w23,IsSet w22 (Addr.add d1 3) (.bool true) w23 →
 CanSet w23 (Addr.add d1 4) (.bool false)∧∀w24,IsSet w23 (Addr.add d1 4) (.bool false) w24 →
 ∃b25 n26 n27 b28 b29,World.cell? w24 d1=some (.bool b25) ∧
 World.cell? w24 (Addr.add d1 1)=some (.int .i64 n26) ∧
 World.cell? w24 (Addr.add d1 2)=some (.int .i64 n27) ∧
 World.cell? w24 (Addr.add d1 3)=some (.bool b28) ∧
 World.cell? w24 (Addr.add d1 4)=some (.bool b29) ∧
 R (.returned (.tuple #[(.agg #[(.bool b25),(.int .i64 n26),(.int .i64 n27),(.bool b28),(.bool b29)]),(.int .i64 0)])) w24)) ∧
 ((¬n19 < 128 →
 ∃n30,World.cell? w17 d5=some (.int .i64 n30) ∧
 (((n30≥192 →
 CanSet w17 d8 (.bool true)∧∀w31,IsSet w17 d8 (.bool true) w31 →
 Calls Tryz.prog 159 #[(.int .i64 192),(.pointer (some d5)),(.pointer (some d15)),(.pointer (some d8))] w31 (fun e32 w33 =>
 e32=.returned (.tuple #[]) ∧
 J18  w33))) ∧
 ((¬n30≥192 →
 Calls Tryz.prog 159 #[(.int .i64 128),(.pointer (some d5)),(.pointer (some d15)),(.pointer (some d8))] w17 (fun e34 w35 =>
 e34=.returned (.tuple #[]) ∧
 J18  w35)))))))) ∧
 (∀  (j36:Nat→Value) (w36:World),J18  w36 →
 ∃n37,World.cell? w36 d15=some (.int .i64 n37) ∧
 (((n37=0 →
 ∃b38 n39 n40 b41 b42,World.cell? w36 d8=some (.bool b38) ∧
 World.cell? w36 (Addr.add d8 1)=some (.int .i64 n39) ∧
 World.cell? w36 (Addr.add d8 2)=some (.int .i64 n40) ∧
 World.cell? w36 (Addr.add d8 3)=some (.bool b41) ∧
 World.cell? w36 (Addr.add d8 4)=some (.bool b42) ∧
 CanSet w36 d1 (.bool b38)∧∀w43,IsSet w36 d1 (.bool b38) w43 →
 CanSet w43 (Addr.add d1 1) (.int .i64 n39)∧∀w44,IsSet w43 (Addr.add d1 1) (.int .i64 n39) w44 →
 CanSet w44 (Addr.add d1 2) (.int .i64 n40)∧∀w45,IsSet w44 (Addr.add d1 2) (.int .i64 n40) w45 →
 CanSet w45 (Addr.add d1 3) (.bool b41)∧∀w46,IsSet w45 (Addr.add d1 3) (.bool b41) w46 →
 CanSet w46 (Addr.add d1 4) (.bool b42)∧∀w47,IsSet w46 (Addr.add d1 4) (.bool b42) w47 →
 ∃b48 n49 n50 b51 b52,World.cell? w47 d1=some (.bool b48) ∧
 World.cell? w47 (Addr.add d1 1)=some (.int .i64 n49) ∧
 World.cell? w47 (Addr.add d1 2)=some (.int .i64 n50) ∧
 World.cell? w47 (Addr.add d1 3)=some (.bool b51) ∧
 World.cell? w47 (Addr.add d1 4)=some (.bool b52) ∧
 R (.returned (.tuple #[(.agg #[(.bool b48),(.int .i64 n49),(.int .i64 n50),(.bool b51),(.bool b52)]),(.int .i64 0)])) w47)) ∧
 ((n37≠0 →
 ∃n53,World.cell? w36 d15=some (.int .i64 n53) ∧
 (((((l0:Nat):Int) < (IntKind.wrap .i64 (1+n53)) →
 ∃b54 n55 n56 b57 b58,World.cell? w36 d8=some (.bool b54) ∧
 World.cell? w36 (Addr.add d8 1)=some (.int .i64 n55) ∧
 World.cell? w36 (Addr.add d8 2)=some (.int .i64 n56) ∧
 World.cell? w36 (Addr.add d8 3)=some (.bool b57) ∧
 World.cell? w36 (Addr.add d8 4)=some (.bool b58) ∧
 CanSet w36 d1 (.bool b54)∧∀w59,IsSet w36 d1 (.bool b54) w59 →
 CanSet w59 (Addr.add d1 1) (.int .i64 n55)∧∀w60,IsSet w59 (Addr.add d1 1) (.int .i64 n55) w60 →
 CanSet w60 (Addr.add d1 2) (.int .i64 n56)∧∀w61,IsSet w60 (Addr.add d1 2) (.int .i64 n56) w61 →
 CanSet w61 (Addr.add d1 3) (.bool b57)∧∀w62,IsSet w61 (Addr.add d1 3) (.bool b57) w62 →
 CanSet w62 (Addr.add d1 4) (.bool b58)∧∀w63,IsSet w62 (Addr.add d1 4) (.bool b58) w63 →
 ∃b64 n65 n66 b67 b68,World.cell? w63 d1=some (.bool b64) ∧
 World.cell? w63 (Addr.add d1 1)=some (.int .i64 n65) ∧
 World.cell? w63 (Addr.add d1 2)=some (.int .i64 n66) ∧
 World.cell? w63 (Addr.add d1 3)=some (.bool b67) ∧
 World.cell? w63 (Addr.add d1 4)=some (.bool b68) ∧
 R (.returned (.tuple #[(.agg #[(.bool b64),(.int .i64 n65),(.int .i64 n66),(.bool b67),(.bool b68)]),(.int .i64 41)])) w63)) ∧
 ((¬((l0:Nat):Int) < (IntKind.wrap .i64 (1+n53)) →
 ∃n69,World.cell? w36 d15=some (.int .i64 n69) ∧
 ((0:Int)≤(IntKind.wrap .i64 (1+n69))∧(IntKind.wrap .i64 (1+n69))≤((c0:Nat):Int)) ∧
 1≤(Int.toNat (IntKind.wrap .i64 (1+n69))) ∧
 ∃(I70:Int→Int→World→Prop) (μ70:Int→Int→World→Nat),I70 0 0 w36 ∧
 (∀(n71:Int) (n72:Int) (j73:Nat→Value) (w73:World),I70 n71 n72 w73 →
 (((n72 < ((((Int.toNat (IntKind.wrap .i64 (1+n69))) - 1):Nat):Int) →
 ∃d74,(subO o0 c0 1 1)=some d74 ∧
 ((0:Int)≤n72∧n72 < ((((Int.toNat (IntKind.wrap .i64 (1+n69))) - 1):Nat):Int)) ∧
 ∃n75,World.cell? w73 (Addr.add d74 (Int.toNat n72))=some (.int .u8 n75) ∧
 I70 (bitsI .or .u64 (IntKind.wrap .u64 (n71 * 256)) (IntKind.wrap .u64 n75)) (IntKind.wrap .i64 (n72+1)) w73∧μ70 (bitsI .or .u64 (IntKind.wrap .u64 (n71 * 256)) (IntKind.wrap .u64 n75)) (IntKind.wrap .i64 (n72+1)) w73 < μ70 n71 n72 w73)) ∧
 ((¬n72 < ((((Int.toNat (IntKind.wrap .i64 (1+n69))) - 1):Nat):Int) →
 ∃d76,o0=some d76 ∧
 ((0:Int)≤1∧1 < ((l0:Nat):Int)) ∧
 ∃n77,World.cell? w73 (Addr.add d76 1)=some (.int .u8 n77) ∧
 (((n77=0 →
 ∃b78 n79 n80 b81 b82,World.cell? w73 d8=some (.bool b78) ∧
 World.cell? w73 (Addr.add d8 1)=some (.int .i64 n79) ∧
 World.cell? w73 (Addr.add d8 2)=some (.int .i64 n80) ∧
 World.cell? w73 (Addr.add d8 3)=some (.bool b81) ∧
 World.cell? w73 (Addr.add d8 4)=some (.bool b82) ∧
 CanSet w73 d1 (.bool b78)∧∀w83,IsSet w73 d1 (.bool b78) w83 →
 CanSet w83 (Addr.add d1 1) (.int .i64 n79)∧∀w84,IsSet w83 (Addr.add d1 1) (.int .i64 n79) w84 →
 CanSet w84 (Addr.add d1 2) (.int .i64 n80)∧∀w85,IsSet w84 (Addr.add d1 2) (.int .i64 n80) w85 →
 CanSet w85 (Addr.add d1 3) (.bool b81)∧∀w86,IsSet w85 (Addr.add d1 3) (.bool b81) w86 →
 CanSet w86 (Addr.add d1 4) (.bool b82)∧∀w87,IsSet w86 (Addr.add d1 4) (.bool b82) w87 →
 ∃b88 n89 n90 b91 b92,World.cell? w87 d1=some (.bool b88) ∧
 World.cell? w87 (Addr.add d1 1)=some (.int .i64 n89) ∧
 World.cell? w87 (Addr.add d1 2)=some (.int .i64 n90) ∧
 World.cell? w87 (Addr.add d1 3)=some (.bool b91) ∧
 World.cell? w87 (Addr.add d1 4)=some (.bool b92) ∧
 R (.returned (.tuple #[(.agg #[(.bool b88),(.int .i64 n89),(.int .i64 n90),(.bool b91),(.bool b92)]),(.int .i64 40)])) w87)) ∧
 ((n77≠0 →
 (((n71≤55 →
 ∃b93 n94 n95 b96 b97,World.cell? w73 d8=some (.bool b93) ∧
 World.cell? w73 (Addr.add d8 1)=some (.int .i64 n94) ∧
 World.cell? w73 (Addr.add d8 2)=some (.int .i64 n95) ∧
 World.cell? w73 (Addr.add d8 3)=some (.bool b96) ∧
 World.cell? w73 (Addr.add d8 4)=some (.bool b97) ∧
 CanSet w73 d1 (.bool b93)∧∀w98,IsSet w73 d1 (.bool b93) w98 →
 CanSet w98 (Addr.add d1 1) (.int .i64 n94)∧∀w99,IsSet w98 (Addr.add d1 1) (.int .i64 n94) w99 →
 CanSet w99 (Addr.add d1 2) (.int .i64 n95)∧∀w100,IsSet w99 (Addr.add d1 2) (.int .i64 n95) w100 →
 CanSet w100 (Addr.add d1 3) (.bool b96)∧∀w101,IsSet w100 (Addr.add d1 3) (.bool b96) w101 →
 CanSet w101 (Addr.add d1 4) (.bool b97)∧∀w102,IsSet w101 (Addr.add d1 4) (.bool b97) w102 →
 ∃b103 n104 n105 b106 b107,World.cell? w102 d1=some (.bool b103) ∧
 World.cell? w102 (Addr.add d1 1)=some (.int .i64 n104) ∧
 World.cell? w102 (Addr.add d1 2)=some (.int .i64 n105) ∧
 World.cell? w102 (Addr.add d1 3)=some (.bool b106) ∧
 World.cell? w102 (Addr.add d1 4)=some (.bool b107) ∧
 R (.returned (.tuple #[(.agg #[(.bool b103),(.int .i64 n104),(.int .i64 n105),(.bool b106),(.bool b107)]),(.int .i64 40)])) w102)) ∧
 ((¬n71≤55 →
 (((n71 > 2147483648 →
 ∃b108 n109 n110 b111 b112,World.cell? w73 d8=some (.bool b108) ∧
 World.cell? w73 (Addr.add d8 1)=some (.int .i64 n109) ∧
 World.cell? w73 (Addr.add d8 2)=some (.int .i64 n110) ∧
 World.cell? w73 (Addr.add d8 3)=some (.bool b111) ∧
 World.cell? w73 (Addr.add d8 4)=some (.bool b112) ∧
 CanSet w73 d1 (.bool b108)∧∀w113,IsSet w73 d1 (.bool b108) w113 →
 CanSet w113 (Addr.add d1 1) (.int .i64 n109)∧∀w114,IsSet w113 (Addr.add d1 1) (.int .i64 n109) w114 →
 CanSet w114 (Addr.add d1 2) (.int .i64 n110)∧∀w115,IsSet w114 (Addr.add d1 2) (.int .i64 n110) w115 →
 CanSet w115 (Addr.add d1 3) (.bool b111)∧∀w116,IsSet w115 (Addr.add d1 3) (.bool b111) w116 →
 CanSet w116 (Addr.add d1 4) (.bool b112)∧∀w117,IsSet w116 (Addr.add d1 4) (.bool b112) w117 →
 ∃b118 n119 n120 b121 b122,World.cell? w117 d1=some (.bool b118) ∧
 World.cell? w117 (Addr.add d1 1)=some (.int .i64 n119) ∧
 World.cell? w117 (Addr.add d1 2)=some (.int .i64 n120) ∧
 World.cell? w117 (Addr.add d1 3)=some (.bool b121) ∧
 World.cell? w117 (Addr.add d1 4)=some (.bool b122) ∧
 R (.returned (.tuple #[(.agg #[(.bool b118),(.int .i64 n119),(.int .i64 n120),(.bool b121),(.bool b122)]),(.int .i64 40)])) w117)) ∧
 ((¬n71 > 2147483648 →
 ∃n123,World.cell? w73 d15=some (.int .i64 n123) ∧
 CanSet w73 (Addr.add d8 1) (.int .i64 (IntKind.wrap .i64 (1+n123)))∧∀w124,IsSet w73 (Addr.add d8 1) (.int .i64 (IntKind.wrap .i64 (1+n123))) w124 →
 CanSet w124 (Addr.add d8 2) (.int .i64 (IntKind.wrap .i64 n71))∧∀w125,IsSet w124 (Addr.add d8 2) (.int .i64 (IntKind.wrap .i64 n71)) w125 →
 ∃b126 n127 n128 b129 b130,World.cell? w125 d8=some (.bool b126) ∧
 World.cell? w125 (Addr.add d8 1)=some (.int .i64 n127) ∧
 World.cell? w125 (Addr.add d8 2)=some (.int .i64 n128) ∧
 World.cell? w125 (Addr.add d8 3)=some (.bool b129) ∧
 World.cell? w125 (Addr.add d8 4)=some (.bool b130) ∧
 CanSet w125 d1 (.bool b126)∧∀w131,IsSet w125 d1 (.bool b126) w131 →
 CanSet w131 (Addr.add d1 1) (.int .i64 n127)∧∀w132,IsSet w131 (Addr.add d1 1) (.int .i64 n127) w132 →
 CanSet w132 (Addr.add d1 2) (.int .i64 n128)∧∀w133,IsSet w132 (Addr.add d1 2) (.int .i64 n128) w133 →
 CanSet w133 (Addr.add d1 3) (.bool b129)∧∀w134,IsSet w133 (Addr.add d1 3) (.bool b129) w134 →
 CanSet w134 (Addr.add d1 4) (.bool b130)∧∀w135,IsSet w134 (Addr.add d1 4) (.bool b130) w135 →
 ∃b136 n137 n138 b139 b140,World.cell? w135 d1=some (.bool b136) ∧
 World.cell? w135 (Addr.add d1 1)=some (.int .i64 n137) ∧
 World.cell? w135 (Addr.add d1 2)=some (.int .i64 n138) ∧
 World.cell? w135 (Addr.add d1 3)=some (.bool b139) ∧
 World.cell? w135 (Addr.add d1 4)=some (.bool b140) ∧
 R (.returned (.tuple #[(.agg #[(.bool b136),(.int .i64 n137),(.int .i64 n138),(.bool b139),(.bool b140)]),(.int .i64 0)])) w135))))))))))))))))))))
theorem rlp_reads.vc (o0:Option Addr) (l0:Nat) (c0:Nat) (w:World) (R:Ending→World→Prop) (h:rlp_reads.Vc o0 l0 c0 w R):Calls Tryz.prog 149 #[(.slice o0 l0 c0)] w R :=
 execF_sound (R:=⟨R,false⟩) (ann:=[(1000011,[]),(17,[(8,.cell (.int .u64)),(43,.cell (.int .i64))])]) (args:=[.slice o0 l0 c0]) Tryz.func149 mixed (Eq.mp (by kernel_rfl:rlp_reads.Vc o0 l0 c0 w R=execF (pA Tryz.prog ⟨R,false⟩) Tryz.prog [(1000011,[]),(17,[(8,.cell (.int .u64)),(43,.cell (.int .i64))])] Tryz.f149 [.slice o0 l0 c0] w) h)

abbrev rlp_reads_1.n:Nat:=159
def rlp_reads_1.Vc (n0:Int) (d1 d2 d3:Addr) (w:World) (R:Ending→World→Prop):Prop :=
 ∃n4,World.cell? w d1=some (.int .i64 n4) ∧
 CanSet w d2 (.int .i64 (max (IntKind.wrap .i64 ((IntKind.wrap .i64 (n4 - n0)) - 55)) 0))∧∀w5,IsSet w d2 (.int .i64 (max (IntKind.wrap .i64 ((IntKind.wrap .i64 (n4 - n0)) - 55)) 0)) w5 →
 ∃n6,World.cell? w5 d1=some (.int .i64 n6) ∧
 CanSet w5 (Addr.add d3 2) (.int .i64 (IntKind.wrap .i64 (n6 - n0)))∧∀w7,IsSet w5 (Addr.add d3 2) (.int .i64 (IntKind.wrap .i64 (n6 - n0))) w7 →
 R (.returned (.tuple #[])) w7
theorem rlp_reads_1.vc (n0:Int) (d1:Addr) (d2:Addr) (d3:Addr) (w:World) (R:Ending→World→Prop) (h:rlp_reads_1.Vc n0 d1 d2 d3 w R):Calls Tryz.prog 159 #[(.int .i64 n0),(.pointer (some d1)),(.pointer (some d2)),(.pointer (some d3))] w R :=
 execF_sound (R:=⟨R,false⟩) (ann:=[]) (args:=[.int .i64 n0,.addr d1,.addr d2,.addr d3]) Tryz.func159 mixed (Eq.mp (by kernel_rfl:rlp_reads_1.Vc n0 d1 d2 d3 w R=execF (pA Tryz.prog ⟨R,false⟩) Tryz.prog [] Tryz.f159 [.int .i64 n0,.addr d1,.addr d2,.addr d3] w) h)

end Go.Proofs.YtfghidehlnfdiaaGreat
end
section
namespace Go.Proofs.YtfghidehlnfdiaaGreat
open Go Go.Vcg Go.Trie
section
variable {w:World} {D:Nat} {t:TypeId}
theorem set3 {a b c v1 v2 v3:Value} {R':World→Prop} (X:Blk w D t #[a,b,c]) (h1:v1.oneCell'=true) (h2:v2.oneCell'=true) (h3:v3.oneCell'=true) (K:∀w',Blk w' D t #[v1,v2,v3]→Vcg.Mod (·=D) w w'→R' w') :
 CanSet w ⟨D,0,none⟩ v1∧∀w1:World,IsSet w ⟨D,0,none⟩ v1 w1→CanSet w1 (Addr.add ⟨D,0,none⟩ 1) v2∧∀w2:World,IsSet w1 (Addr.add ⟨D,0,none⟩ 1) v2 w2→CanSet w2 (Addr.add ⟨D,0,none⟩ 2) v3∧∀w3:World,IsSet w2 (Addr.add ⟨D,0,none⟩ 2) v3 w3→R' w3:=by
 refine ⟨X.canSet (by simp) h1,?_⟩
 rintro _ rfl
 have X1:=X.set 0 v1
 have Q1:Vcg.Mod (·=D) w _:=Mod.setCell w ⟨D,0,none⟩ v1
 rw [add_at,Nat.zero_add]
 refine ⟨X1.canSet (by simp) h2,?_⟩
 rintro _ rfl
 have X2:=X1.set 1 v2
 have Q2:=Q1.step_set (a:=⟨D,1,none⟩) (v:=v2) (fun _=>rfl)
 rw [add_at,Nat.zero_add]
 refine ⟨X2.canSet (by simp) h3,?_⟩
 rintro _ rfl
 have X3:=X2.set 2 v3
 have Q3:=Q2.step_set (a:=⟨D,2,none⟩) (v:=v3) (fun _=>rfl)
 exact K _ X3 Q3
theorem get3 {b:Bool} {o o2:Option Addr} {l k l2 k2:Nat} {R':Bool→Option Addr→Nat→Nat→Option Addr→Nat→Nat→Prop} (X:Blk w D t #[.bool b,.slice o l k,.slice o2 l2 k2]) (h:R' b o l k o2 l2 k2) :
 ∃b8:Bool,∃o9:Option Addr,∃l10:Nat,∃l11:Nat,∃o12:Option Addr,∃l13:Nat,∃l14:Nat,World.cell? w ⟨D,0,none⟩=some (.bool b8)∧World.cell? w (Addr.add ⟨D,0,none⟩ 1)=some (.slice o9 l10 l11)∧World.cell? w (Addr.add ⟨D,0,none⟩ 2)=some (.slice o12 l13 l14)∧R' b8 o9 l10 l11 o12 l13 l14 :=
 ⟨_,_,_,_,_,_,_,X.rd1 rfl,by rw [add_at]; exact X.rd1 rfl,by rw [add_at]; exact X.rd1 rfl,h⟩
theorem ret_3 {a b c:Value} {b1:Bool} {o o2:Option Addr} {l k l2 k2:Nat} {R':Bool→Option Addr→Nat→Nat→Option Addr→Nat→Nat→World→Prop} (X:Blk w D t #[a,b,c]) (K:∀w',Vcg.Mod (·=D) w w'→R' b1 o l k o2 l2 k2 w') :
 CanSet w ⟨D,0,none⟩ (.bool b1)∧∀w1:World,IsSet w ⟨D,0,none⟩ (.bool b1) w1→CanSet w1 (Addr.add ⟨D,0,none⟩ 1) (.slice o l k)∧∀w2:World,IsSet w1 (Addr.add ⟨D,0,none⟩ 1) (.slice o l k) w2→CanSet w2 (Addr.add ⟨D,0,none⟩ 2) (.slice o2 l2 k2)∧∀w3:World,IsSet w2 (Addr.add ⟨D,0,none⟩ 2) (.slice o2 l2 k2) w3 →
  ∃b8:Bool,∃o9:Option Addr,∃l10:Nat,∃l11:Nat,∃o12:Option Addr,∃l13:Nat,∃l14:Nat,World.cell? w3 ⟨D,0,none⟩=some (.bool b8)∧World.cell? w3 (Addr.add ⟨D,0,none⟩ 1)=some (.slice o9 l10 l11)∧World.cell? w3 (Addr.add ⟨D,0,none⟩ 2)=some (.slice o12 l13 l14)∧R' b8 o9 l10 l11 o12 l13 l14 w3 :=
 set3 X rfl rfl rfl (fun w' X' M=>get3 X' (K w' M))
theorem set5 {a b c d e v1 v2 v3 v4 v5:Value} {R':World→Prop} (X:Blk w D t #[a,b,c,d,e]) (h1:v1.oneCell'=true) (h2:v2.oneCell'=true) (h3:v3.oneCell'=true) (h4:v4.oneCell'=true) (h5:v5.oneCell'=true) (K:∀w',Blk w' D t #[v1,v2,v3,v4,v5]→Vcg.Mod (·=D) w w'→R' w') :
 CanSet w ⟨D,0,none⟩ v1∧∀w1:World,IsSet w ⟨D,0,none⟩ v1 w1→CanSet w1 (Addr.add ⟨D,0,none⟩ 1) v2∧∀w2:World,IsSet w1 (Addr.add ⟨D,0,none⟩ 1) v2 w2→CanSet w2 (Addr.add ⟨D,0,none⟩ 2) v3∧∀w3:World,IsSet w2 (Addr.add ⟨D,0,none⟩ 2) v3 w3 →
  CanSet w3 (Addr.add ⟨D,0,none⟩ 3) v4∧∀w4:World,IsSet w3 (Addr.add ⟨D,0,none⟩ 3) v4 w4→CanSet w4 (Addr.add ⟨D,0,none⟩ 4) v5∧∀w5:World,IsSet w4 (Addr.add ⟨D,0,none⟩ 4) v5 w5→R' w5:=by
 refine ⟨X.canSet (by simp) h1,?_⟩
 rintro _ rfl
 have X1:=X.set 0 v1
 have Q1:Vcg.Mod (·=D) w _:=Mod.setCell w ⟨D,0,none⟩ v1
 rw [add_at,Nat.zero_add]
 refine ⟨X1.canSet (by simp) h2,?_⟩
 rintro _ rfl
 have X2:=X1.set 1 v2
 have Q2:=Q1.step_set (a:=⟨D,1,none⟩) (v:=v2) (fun _=>rfl)
 rw [add_at,Nat.zero_add]
 refine ⟨X2.canSet (by simp) h3,?_⟩
 rintro _ rfl
 have X3:=X2.set 2 v3
 have Q3:=Q2.step_set (a:=⟨D,2,none⟩) (v:=v3) (fun _=>rfl)
 rw [add_at,Nat.zero_add]
 refine ⟨X3.canSet (by simp) h4,?_⟩
 rintro _ rfl
 have X4:=X3.set 3 v4
 have Q4:=Q3.step_set (a:=⟨D,3,none⟩) (v:=v4) (fun _=>rfl)
 rw [add_at,Nat.zero_add]
 refine ⟨X4.canSet (by simp) h5,?_⟩
 rintro _ rfl
 have X5:=X4.set 4 v5
 have Q5:=Q4.step_set (a:=⟨D,4,none⟩) (v:=v5) (fun _=>rfl)
 exact K _ X5 Q5
theorem get5 {b b3 b4:Bool} {n1 n2:Int} {R':Bool→Int→Int→Bool→Bool→Prop} (X:Blk w D t #[.bool b,.int .i64 n1,.int .i64 n2,.bool b3,.bool b4]) (h:R' b n1 n2 b3 b4) :
 ∃b8:Bool,∃n9:Int,∃n10:Int,∃b11:Bool,∃b12:Bool,World.cell? w ⟨D,0,none⟩=some (.bool b8)∧World.cell? w (Addr.add ⟨D,0,none⟩ 1)=some (.int .i64 n9)∧World.cell? w (Addr.add ⟨D,0,none⟩ 2)=some (.int .i64 n10)∧World.cell? w (Addr.add ⟨D,0,none⟩ 3)=some (.bool b11)∧World.cell? w (Addr.add ⟨D,0,none⟩ 4)=some (.bool b12)∧R' b8 n9 n10 b11 b12 :=
 ⟨_,_,_,_,_,X.rd1 rfl,by rw [add_at]; exact X.rd1 rfl,by rw [add_at]; exact X.rd1 rfl,by rw [add_at]; exact X.rd1 rfl,by rw [add_at]; exact X.rd1 rfl,h⟩
end
theorem or_u64 {n d:Nat} (hn:n < 2 ^ 56) (hd:d < 256):bitsI .or .u64 (IntKind.wrap .u64 ((n:Int) * 256)) (IntKind.wrap .u64 (d:Int))=((n * 256+d:Nat):Int):=by
 have e1:IntKind.wrap .u64 ((n:Int) * 256)=uI (BitVec.ofNat 64 (n * 256)):=by
  rw [wrap_u64]; simp only [uI,BitVec.toNat_ofNat]; omega
 have e2:IntKind.wrap .u64 (d:Int)=uI (BitVec.ofNat 64 d):=by
  rw [wrap_u64]; simp only [uI,BitVec.toNat_ofNat]; omega
 rw [e1,e2,bitsI_or]
 simp only [uI,BitVec.toNat_or,BitVec.toNat_ofNat]
 rw [Nat.mod_eq_of_lt (by omega),Nat.mod_eq_of_lt (by omega)]
 have:=Nat.shiftLeft_add_eq_or_of_lt (i:=8) (b:=d) (by omega) n
 rw [Nat.shiftLeft_eq] at this
 rw [← this]
theorem reads1_calls {w:World} {a b d base c:Nat} {x v0 v1 v2 v3 v4:Value} (X5:Blk w a 3 #[.int .i64 (c:Int)]) (X15:Blk w b 3 #[x]) (X8:Blk w d 237 #[v0,v1,v2,v3,v4]) (hab:a≠b) (had:a≠d) (hbd:b≠d) (hb:base≤c) (hc:c≤255) :
 Calls Tryz.prog rlp_reads_1.n #[.int .i64 (base:Int),.pointer (some ⟨a,0,none⟩),.pointer (some ⟨b,0,none⟩),.pointer (some ⟨d,0,none⟩)] w (fun e w'=>e=.returned (.tuple #[])∧Vcg.Mod (fun q=>q=b∨q=d) w w'∧Blk w' b 3 #[.int .i64 ((c - base - 55:Nat):Int)]∧Blk w' d 237 #[v0,v1,.int .i64 ((c - base:Nat):Int),v3,v4]):=by
 refine rlp_reads_1.vc _ _ _ _ _ _ ?_
 unfold rlp_reads_1.Vc
 have e1:IntKind.wrap .i64 ((c:Int) - (base:Int))=((c - base:Nat):Int):=by rw [wrap_i64_small (by omega) (by omega)]; omega
 have e2:max (IntKind.wrap .i64 ((IntKind.wrap .i64 ((c:Int) - (base:Int))) - 55)) 0=((c - base - 55:Nat):Int):=by
  rw [e1,wrap_i64_small (by omega) (by omega)]; omega
 refine ⟨_,X5.rd1 rfl,?_⟩
 rw [e2]
 refine ⟨X15.canSet (by simp) rfl,?_⟩
 rintro _ rfl
 have X15':=X15.set 0 (.int .i64 ((c - base - 55:Nat):Int))
 refine ⟨_,(X5.set_ne (a:=⟨b,0,none⟩) hab).rd1 rfl,?_⟩
 rw [e1,add_at]
 have X8':=X8.set_ne (a:=⟨b,0,none⟩) (v:=.int .i64 ((c - base - 55:Nat):Int)) (Ne.symm hbd)
 refine ⟨X8'.canSet (by simp) rfl,?_⟩
 rintro _ rfl
 refine ⟨rfl,?_,X15'.set_ne (a:=⟨d,0+2,none⟩) hbd,X8'.set 2 _⟩
 exact ((Mod.setCell w ⟨b,0,none⟩ _).mono (fun i _ h=>.inl h)).step_set (fun _=>.inr rfl)
def HdIs (r:Except Int (Bool×Nat×Nat×Bool)) (b1:Bool) (n1 n2:Int) (b2:Bool) (e0:Int):Prop:=match r with
 | .error x=>e0=x∧x≠0
 | .ok (l,a,q,ow)=>b1=l∧n1=(a:Int)∧n2=(q:Int)∧b2=ow∧e0=0
theorem be_step (bs:By) {j:Nat} (hj:j+1 < bs.length):be ((bs.drop 1).take (j+1))=be ((bs.drop 1).take j) * 256+((bs.drop 1).getD j 0).toNat:=by
 have h:j < (bs.drop 1).length:=by rw [List.length_drop]; omega
 rw [List.take_succ_eq_append_getElem h,be_snoc]
 congr 2
 rw [List.getD_eq_getElem?_getD,List.getElem?_eq_getElem h]; rfl
theorem reads_calls {w:World} {o:Option Addr} {k:Nat} {bs:By} (hr:RdB w o bs) (hne:bs≠[]) (hk:bs.length≤k) (hl:bs.length≤2 ^ 40) :
 Calls Tryz.prog rlp_reads.n #[.slice o bs.length k] w (fun e w'=>Vcg.Mod NoB w w'∧∃b1 n1 n2 b2 b3 e0,e=.returned (.tuple #[.agg #[.bool b1,.int .i64 n1,.int .i64 n2,.bool b2,.bool b3],.int .i64 e0])∧HdIs (hd bs) b1 n1 n2 b2 e0):=by
 refine calls_gen fun R hR=>rlp_reads.vc _ _ _ _ _ ?_
 unfold rlp_reads.Vc
 have hbl:1≤bs.length:=List.length_pos_iff.2 hne
 rintro d1 w1 ⟨rfl,rfl⟩
 have M1:Vcg.Mod NoB w _:=Mod.alloc w (.cells #[.bool false,.int .i64 0,.int .i64 0,.bool false,.bool false] 237)
 have X1:=Blk.new w 237 #[.bool false,.int .i64 0,.int .i64 0,.bool false,.bool false]
 have hs1:=size_alloc w (.cells #[.bool false,.int .i64 0,.int .i64 0,.bool false,.bool false] 237)
 generalize hN1:w.heap.size=N1 at *
 generalize w.alloc (.cells #[.bool false,.int .i64 0,.int .i64 0,.bool false,.bool false] 237)=w1 at *
 obtain ⟨b0,f0,rfl,hb0,hc0⟩:=hr hne
 have cell:∀{w':World},Vcg.Mod NoB w w'→∀i,i < bs.length→w'.cell? ⟨b0,f0+i,none⟩=some (bV (bs.getD i 0)):=fun M i hi=>(cell_mod M hb0 (fun h=>h)).trans (hc0 i hi)
 generalize hcv:(bs.getD 0 0).toNat=c
 have hc255:c≤255:=by have:=(bs.getD 0 0).toNat_lt; omega
 refine ⟨_,rfl,⟨by omega,by omega⟩,(c:Int),by rw [add_at]; have:=cell M1 0 (by omega); simp only [bV,hcv] at this; exact this,?_⟩
 rintro d5 w2 ⟨rfl,rfl⟩
 have ec:IntKind.wrap .i64 (c:Int)=(c:Int):=wrap_i64_small (by omega) (by omega)
 rw [ec]
 have M2:=M1.step_alloc (.cells #[.int .i64 0] 3)
 have X5:=Blk.new w1 3 #[.int .i64 0]
 have hs2:=size_alloc w1 (.cells #[.int .i64 0] 3)
 have X12:=X1.alloc (.cells #[.int .i64 0] 3)
 generalize hN5:w1.heap.size=N5 at *
 generalize w1.alloc (.cells #[.int .i64 0] 3)=w2 at *
 refine ⟨X5.canSet (by simp) rfl,?_⟩
 rintro _ rfl
 have X53:=X5.set 0 (.int .i64 (c:Int))
 have X13:=X12.set_ne (a:=⟨N5,0,none⟩) (v:=.int .i64 (c:Int)) (by simp; omega)
 have M3:=M2.step_set (a:=⟨N5,0,none⟩) (v:=.int .i64 (c:Int)) (fun h=>by simp at h; omega)
 have hs3:(w2.setCell ⟨N5,0,none⟩ (.int .i64 (c:Int))).heap.size=N5+1:=by rw [size_setCell]; exact hs2
 generalize w2.setCell ⟨N5,0,none⟩ (.int .i64 (c:Int))=w3 at *
 rintro d8 w4 ⟨rfl,rfl⟩
 have M4:=M3.step_alloc (.cells #[.bool false,.int .i64 0,.int .i64 0,.bool false,.bool false] 237)
 have X8:=Blk.new w3 237 #[.bool false,.int .i64 0,.int .i64 0,.bool false,.bool false]
 have hs4:=size_alloc w3 (.cells #[.bool false,.int .i64 0,.int .i64 0,.bool false,.bool false] 237)
 have X14:=X13.alloc (.cells #[.bool false,.int .i64 0,.int .i64 0,.bool false,.bool false] 237)
 have X54:=X53.alloc (.cells #[.bool false,.int .i64 0,.int .i64 0,.bool false,.bool false] 237)
 generalize hN8:w3.heap.size=N8 at *
 generalize w3.alloc (.cells #[.bool false,.int .i64 0,.int .i64 0,.bool false,.bool false] 237)=w4 at *
 refine set5 X8 rfl rfl rfl rfl rfl (fun w5 X85 Q5=>?_)
 have M5:=M4.trans Q5 (fun i hi h=>by omega)
 have X15:=X14.mod Q5 (by omega)
 have X55:=X54.mod Q5 (by omega)
 have hs5:=Q5.size
 rintro d15 w6 ⟨rfl,rfl⟩
 have M6:=M5.step_alloc (.cells #[.int .i64 0] 3)
 have Xk:=Blk.new w5 3 #[.int .i64 0]
 have X16:=X15.alloc (.cells #[.int .i64 0] 3)
 have X56:=X55.alloc (.cells #[.int .i64 0] 3)
 have X86:=X85.alloc (.cells #[.int .i64 0] 3)
 generalize hNk:w5.heap.size=Nk at *
 generalize w5.alloc (.cells #[.int .i64 0] 3)=w6 at *
 refine ⟨Xk.canSet (by simp) rfl,?_⟩
 rintro _ rfl
 have Xk7:=Xk.set 0 (.int .i64 0)
 have X17:=X16.set_ne (a:=⟨Nk,0,none⟩) (v:=.int .i64 0) (by simp; omega)
 have X57:=X56.set_ne (a:=⟨Nk,0,none⟩) (v:=.int .i64 0) (by simp; omega)
 have X87:=X86.set_ne (a:=⟨Nk,0,none⟩) (v:=.int .i64 0) (by simp; omega)
 have M7:=M6.step_set (a:=⟨Nk,0,none⟩) (v:=.int .i64 0) (fun h=>by simp at h; omega)
 generalize w6.setCell ⟨Nk,0,none⟩ (.int .i64 0)=w7 at *
 clear X12 X13 X14 X15 X16 X5 X53 X54 X55 X56 X8 X85 X86 Xk M1 M2 M3 M4 M5 M6 Q5 X1
 have hhd:hd bs=(if c < 128 then .ok (false,0,1,true) else
  if c - (if c≥192 then 192 else 128)≤55 then .ok (decide (c≥192),1,c - (if c≥192 then 192 else 128),false)
  else if bs.length < 1+(c - (if c≥192 then 192 else 128) - 55) then .error 41
  else if bs.getD 1 0=0∨be ((bs.drop 1).take (c - (if c≥192 then 192 else 128) - 55))≤55∨be ((bs.drop 1).take (c - (if c≥192 then 192 else 128) - 55)) > 2147483648 then .error 40
  else .ok (decide (c≥192),1+(c - (if c≥192 then 192 else 128) - 55),be ((bs.drop 1).take (c - (if c≥192 then 192 else 128) - 55)),false)):=by
  unfold hd
  simp only [hcv]
 generalize hbase:(if c≥192 then 192 else 128)=base at *
 have finish:∀(w':World) (b1:Bool) (n1 n2:Int) (b2 b3:Bool) (e0:Int),Vcg.Mod NoB w w'→HdIs (hd bs) b1 n1 n2 b2 e0→R (.returned (.tuple #[.agg #[.bool b1,.int .i64 n1,.int .i64 n2,.bool b2,.bool b3],.int .i64 e0])) w' :=
  fun w' b1 n1 n2 b2 b3 e0 M h=>hR _ _ ⟨M,b1,n1,n2,b2,b3,e0,rfl,h⟩
 refine ⟨fun w'=>¬c < 128∧Vcg.Mod NoB w w'∧(∃vs:Array Value,Blk w' N1 237 vs∧vs=#[.bool false,.int .i64 0,.int .i64 0,.bool false,.bool false])∧Blk w' N8 237 #[.bool (decide (c≥192)),.int .i64 1,.int .i64 ((c - base:Nat):Int),.bool false,.bool false]∧Blk w' Nk 3 #[.int .i64 ((c - base - 55:Nat):Int)],⟨_,X57.rd1 rfl,fun hc=>?_,fun hc=>⟨_,X57.rd1 rfl,fun h192=>?_,fun h192=>?_⟩⟩,?_⟩
 ·refine set5 X17 rfl rfl rfl rfl rfl (fun w8 X18 Q8=>get5 X18 (finish _ _ _ _ _ _ _ (M7.trans Q8 (fun i hi h=>by omega)) ?_))
  rw [hhd,if_pos (by omega)]
  exact ⟨rfl,rfl,rfl,rfl,rfl⟩
 ·have hb:base=192:=by rw [← hbase,if_pos (by omega)]
  refine ⟨X87.canSet (by simp) rfl,?_⟩
  rintro _ rfl
  have X88:=X87.set 0 (.bool true)
  have X18:=X17.set_ne (a:=⟨N8,0,none⟩) (v:=.bool true) (by simp; omega)
  have X58:=X57.set_ne (a:=⟨N8,0,none⟩) (v:=.bool true) (by simp; omega)
  have Xk8:=Xk7.set_ne (a:=⟨N8,0,none⟩) (v:=.bool true) (by simp; omega)
  have M8:=M7.step_set (a:=⟨N8,0,none⟩) (v:=.bool true) (fun h=>by simp at h; omega)
  refine (reads1_calls (base:=192) X58 Xk8 X88 (by omega) (by omega) (by omega) (by omega) hc255).mono ?_
  rintro _ w9 ⟨rfl,Q9,Xk9,X89⟩
  refine ⟨rfl,by omega,M8.trans Q9 (fun i hi h=>by omega),⟨_,X18.mod Q9 (by omega),rfl⟩,?_,?_⟩
  ·rw [hb,decide_eq_true (by omega:c≥192)]; exact X89
  ·rw [hb]; exact Xk9
 ·have hb:base=128:=by rw [← hbase,if_neg (by omega)]
  refine (reads1_calls (base:=128) X57 Xk7 X87 (by omega) (by omega) (by omega) (by omega) hc255).mono ?_
  rintro _ w9 ⟨rfl,Q9,Xk9,X89⟩
  refine ⟨rfl,by omega,M7.trans Q9 (fun i hi h=>by omega),⟨_,X17.mod Q9 (by omega),rfl⟩,?_,?_⟩
  ·rw [hb,decide_eq_false (by omega:¬c≥192)]; exact X89
  ·rw [hb]; exact Xk9
 ·clear X17 X57 X87 Xk7 M7
  rintro _ w8 ⟨hc,M8,⟨_,X1,rfl⟩,X8,Xk⟩
  rw [if_neg hc] at hhd
  have hb1:128≤base∧base≤c:=by rw [← hbase]; split <;> omega
  have h63:c - base - 55≤8:=by rw [← hbase]; split <;> omega
  refine ⟨_,Xk.rd1 rfl,fun h0=>?_,fun h0=>?_⟩
  ·refine get5 X8 (set5 X1 rfl rfl rfl rfl rfl (fun w9 X19 Q9=>get5 X19 (finish _ _ _ _ _ _ _ (M8.trans Q9 (fun i hi h=>by omega)) ?_)))
   rw [hhd,if_pos (by omega)]
   exact ⟨rfl,rfl,rfl,rfl,rfl⟩
  ·rw [if_neg (by omega)] at hhd
   generalize hkk:c - base - 55=kk at *
   have ekk:IntKind.wrap .i64 (1+(kk:Int))=((1+kk:Nat):Int):=by rw [wrap_i64_small (by omega) (by omega)]; omega
   refine ⟨_,Xk.rd1 rfl,fun hsh=>?_,fun hsh=>⟨_,Xk.rd1 rfl,?_⟩⟩
   ·rw [ekk] at hsh
    refine get5 X8 (set5 X1 rfl rfl rfl rfl rfl (fun w9 X19 Q9=>get5 X19 (finish _ _ _ _ _ _ _ (M8.trans Q9 (fun i hi h=>by omega)) ?_)))
    rw [hhd,if_pos (by omega)]
    exact ⟨rfl,by decide⟩
   ·rw [ekk] at hsh ⊢
    rw [if_neg (by omega)] at hhd
    rw [Int.toNat_natCast,Nat.add_sub_cancel_left]
    have hsub:=(hr.mod' M8).sub (c:=k) (lo:=1) (n:=kk) hk
    have hsl:((bs.drop 1).take kk).length=kk:=by rw [List.length_take,List.length_drop]; omega
    obtain ⟨b',f',ho',hb',hc'⟩:=hsub (by intro e; rw [e] at hsl; simp at hsl; omega)
    refine ⟨⟨by omega,by omega⟩,by omega,fun n j w'=>w'=w8∧∃i:Nat,j=(i:Int)∧i≤kk∧n=((be ((bs.drop 1).take i):Nat):Int),fun _ j _=>((kk:Int) - j).toNat,⟨rfl,0,rfl,Nat.zero_le _,by simp [be]⟩,?_⟩
    rintro _ _ _ w8 ⟨rfl,i,rfl,hi,rfl⟩
    refine ⟨fun hlt=>?_,fun hge=>?_⟩
    ·have hik:i < kk:=by omega
     have hgt:((bs.drop 1).take kk).getD i 0=(bs.drop 1).getD i 0:=by
      simp only [List.getD_eq_getElem?_getD,List.getElem?_take_of_lt hik]
     have hcell:=hc' i (by omega)
     rw [hgt] at hcell
     refine ⟨_,ho',⟨by omega,by omega⟩,(((bs.drop 1).getD i 0).toNat:Int),by rw [add_at,Int.toNat_natCast]; exact hcell,?_⟩
     have hlt256:=be_lt ((bs.drop 1).take i)
     have hil:((bs.drop 1).take i).length=i:=by rw [List.length_take,List.length_drop]; omega
     rw [hil] at hlt256
     have h56:256 ^ i≤2 ^ 56:=by
      rw [show (256:Nat)=2 ^ 8 from rfl,← Nat.pow_mul]
      exact Nat.pow_le_pow_right (by decide) (by omega)
     rw [or_u64 (by omega) (UInt8.toNat_lt _),← be_step bs (by omega)]
     have ew:IntKind.wrap .i64 ((i:Int)+1)=((i+1:Nat):Int):=by rw [wrap_i64_small (by omega) (by omega)]; omega
     rw [ew]
     exact ⟨⟨rfl,i+1,rfl,hik,rfl⟩,by dsimp only; omega⟩
    ·obtain rfl:i=kk:=by omega
     generalize hm:be ((bs.drop 1).take i)=m at *
     have c1:=cell M8 1 (by omega)
     refine ⟨_,rfl,⟨by omega,by omega⟩,((bs.getD 1 0).toNat:Int),by rw [add_at]; exact c1,fun hz=>?_,fun hz=>⟨fun h55=>?_,fun h55=>⟨fun hbig=>?_,fun hbig=>?_⟩⟩⟩
     ·refine get5 X8 (set5 X1 rfl rfl rfl rfl rfl (fun w9 X19 Q9=>get5 X19 (finish _ _ _ _ _ _ _ (M8.trans Q9 (fun i hi h=>by omega)) ?_)))
      have:bs.getD 1 0=0:=UInt8.toNat_inj.1 (by simpa using hz)
      rw [hhd,if_pos (.inl this)]
      exact ⟨rfl,by decide⟩
     ·refine get5 X8 (set5 X1 rfl rfl rfl rfl rfl (fun w9 X19 Q9=>get5 X19 (finish _ _ _ _ _ _ _ (M8.trans Q9 (fun i hi h=>by omega)) ?_)))
      rw [hhd,if_pos (.inr (.inl (by omega)))]
      exact ⟨rfl,by decide⟩
     ·refine get5 X8 (set5 X1 rfl rfl rfl rfl rfl (fun w9 X19 Q9=>get5 X19 (finish _ _ _ _ _ _ _ (M8.trans Q9 (fun i hi h=>by omega)) ?_)))
      rw [hhd,if_pos (.inr (.inr (by omega)))]
      exact ⟨rfl,by decide⟩
     ·refine ⟨_,Xk.rd1 rfl,?_⟩
      have em:IntKind.wrap .i64 (m:Int)=(m:Int):=wrap_i64_small (by omega) (by omega)
      rw [ekk,em,add_at,add_at]
      refine ⟨X8.canSet (by simp) rfl,?_⟩
      rintro _ rfl
      have X81:=X8.set 1 (.int .i64 ((1+i:Nat):Int))
      refine ⟨X81.canSet (by simp) rfl,?_⟩
      rintro _ rfl
      have X82:=X81.set 2 (.int .i64 (m:Int))
      have M10:=(M8.step_set (a:=⟨N8,1,none⟩) (v:=.int .i64 ((1+i:Nat):Int)) (fun h=>by simp at h; omega)).step_set (a:=⟨N8,2,none⟩) (v:=.int .i64 (m:Int)) (fun h=>by simp at h; omega)
      have X11:=(X1.set_ne (a:=⟨N8,1,none⟩) (v:=.int .i64 ((1+i:Nat):Int)) (by simp; omega)).set_ne (a:=⟨N8,2,none⟩) (v:=.int .i64 (m:Int)) (by simp; omega)
      refine get5 X82 (set5 X11 rfl rfl rfl rfl rfl (fun w9 X19 Q9=>get5 X19 (finish _ _ _ _ _ _ _ (M10.trans Q9 (fun i hi h=>by omega)) ?_)))
      have:¬bs.getD 1 0=0:=fun h=>hz (by rw [h]; rfl)
      rw [hhd,if_neg (fun h=>h.elim this (fun h=>h.elim (fun h=>by omega) (fun h=>by omega)))]
      exact ⟨rfl,rfl,rfl,rfl,rfl⟩
end Go.Proofs.YtfghidehlnfdiaaGreat
end
section
namespace Go.Proofs.YtfghidehlnfdiaaGreat
open Go Go.Vcg Go.Trie
section
variable {A:Nat→Prop} {w w':World} {xs:List It} {o:Option Addr} {l k:Nat}
def ItOwn (A:Nat→Prop) (w:World) (xs:List It) (o:Option Addr) (l k:Nat):Prop :=
 l=xs.length∧∃vs,Own w tItem 3 o l k vs∧∀j (hj:j < xs.length),∃v1 v2 v3,vs[j * 3]?=some v1∧vs[j * 3+1]?=some v2∧vs[j * 3+2]?=some v3∧ItC (fun b=>A b∨OB o b) w xs[j] v1 v2 v3
theorem ItOwn.nil (A:Nat→Prop) (w:World):ItOwn A w [] none 0 0:=⟨rfl,[],Own.nil _ _ _,fun j hj=>absurd hj (by simp)⟩
theorem ItOwn.lt (h:ItOwn A w xs o l k):∀b,OB o b→b < w.heap.size:=by
 obtain ⟨_,vs,F,_⟩:=h
 exact fun b hb=>F.lt hb
theorem ItOwn.cap (h:ItOwn A w xs o l k):l≤k:=by
 obtain ⟨_,vs,F,_⟩:=h
 exact F.cap.1
theorem ItOwn.modS {S:Nat→Prop} (h:ItOwn A w xs o l k) (M:Vcg.Mod S w w') (hS:∀b,S b→A b) (hO:∀b,OB o b→¬S b):ItOwn A w' xs o l k:=by
 obtain ⟨h1,vs,F,h2⟩:=h
 refine ⟨h1,vs,F.mod M hO,fun j hj=>?_⟩
 obtain ⟨v1,v2,v3,a,b,d,e⟩:=h2 j hj
 exact ⟨v1,v2,v3,a,b,d,ItC.modA M (fun b hb=>.inl (hS b hb)) _ e⟩
theorem ItOwn.mod' (h:ItOwn A w xs o l k) (M:Vcg.Mod NoB w w'):ItOwn A w' xs o l k:=h.modS M (fun _ h=>h.elim) (fun _ _ h=>h)
theorem ItOwn.push (h:ItOwn A w xs o l k) {D:Nat} {x:It} {v1 v2 v3:Value} (B:Blk w D tItem #[v1,v2,v3]) (hx:ItC (fun b=>A b∨OB o b) w x v1 v2 v3) (hl:xs.length≤2 ^ 20) :
 ∃o' k' w',Sem.run Tryz.prog (builtinV .append #[109,109] 109 #[.slice o l k,.slice (some ⟨D,0,none⟩) 1 1]) w=.ok (.slice o' (l+1) k') w'∧ItOwn A w' (xs++[x]) o' (l+1) k'∧Vcg.Mod (OB o) w w'∧(∀b,OB o' b→OB o b∨w.heap.size≤b):=by
 obtain ⟨rfl,vs,F,hv⟩:=h
 obtain ⟨i,hi,hz,hs,hb⟩:=info_of info_item
 obtain ⟨b,p1,q1,r1,p2,q2,r2,rfl,rfl,rfl⟩:=hx.vals
 obtain ⟨o',k',w',h1,h2,h3,h4⟩:=append_own (ty:=109) und_slItem hi hz hs rfl F (src_one und_slItem B rfl (by simp [Value.oneCell'])) (by simp only [maxLen]; omega) (by rw [hb]; omega)
 have hlen:vs.length=xs.length * 3:=F.1
 have step:∀{y:It} {v1 v2 v3:Value},ItC (fun b=>A b∨OB o b) w y v1 v2 v3→ItC (fun b=>A b∨OB o' b) w' y v1 v2 v3:=fun hy =>
  ItC.mono (fun b hb=>hb.elim (fun h=>.inl (.inl h)) (fun h=>(h4 b h).elim (fun h=>.inl (.inr h)) .inr)) _ (ItC.modA h3 (fun b h=>.inl (.inr h)) _ (ItC.old _ hy))
 refine ⟨o',k',w',h1,⟨by simp,_,h2,fun j hj=>?_⟩,h3,h4⟩
 rw [List.length_append,List.length_cons,List.length_nil] at hj
 by_cases hjx:j < xs.length
 ·obtain ⟨v1,v2,v3,a,b,d,e⟩:=hv j hjx
  refine ⟨v1,v2,v3,?_,?_,?_,?_⟩
  ·rw [List.getElem?_append_left (by omega)]; exact a
  ·rw [List.getElem?_append_left (by omega)]; exact b
  ·rw [List.getElem?_append_left (by omega)]; exact d
  ·rw [List.getElem_append_left hjx]; exact step e
 ·obtain rfl:j=xs.length:=by omega
  refine ⟨.bool b,.slice p1 q1 r1,.slice p2 q2 r2,?_,?_,?_,?_⟩
  ·rw [List.getElem?_append_right (by omega),hlen,Nat.sub_self]; rfl
  ·rw [List.getElem?_append_right (by omega),hlen,show xs.length * 3+1 - xs.length * 3=1 by omega]; rfl
  ·rw [List.getElem?_append_right (by omega),hlen,show xs.length * 3+2 - xs.length * 3=2 by omega]; rfl
  ·rw [List.getElem_append_right (by omega)]
   simp only [Nat.sub_self,List.getElem_cons_zero]
   exact step hx
theorem ItOwn.its (h:ItOwn A w xs o l k) (hA:∀b,A b→¬OB o b):ItsC A w xs o 0:=by
 obtain ⟨rfl,vs,F,hv⟩:=h
 refine its_of xs 0 (fun j hj=>?_)
 obtain ⟨v1,v2,v3,a,b,d,e⟩:=hv j hj
 obtain ⟨g,ho,hc1⟩:=F.cell a
 obtain ⟨g',ho',hc2⟩:=F.cell b
 obtain ⟨g'',ho'',hc3⟩:=F.cell d
 rw [ho] at ho' ho''
 cases ho'; cases ho''
 rw [Nat.zero_add]
 exact ⟨g,v1,v2,v3,ho,F.lt ⟨_,ho,rfl⟩,fun h=>hA _ h ⟨_,ho,rfl⟩,hc1,hc2,hc3,ItC.mono (fun _ h=>.inl h) _ e⟩
end
theorem meets_bad {w:World} {D n depth:Nat} (W:Blk w D 217 #[.int .i64 (n:Int)]) (h:depth > 16∨n=4096) :
 Calls Tryz.prog rlp_walker_meets.n #[.pointer (some ⟨D,0,none⟩),.int .i64 (depth:Int)] w (fun e w'=>e=.returned (.int .i64 43)∧w'=w):=by
 refine rlp_walker_meets.vc _ _ _ _ ?_
 unfold rlp_walker_meets.Vc
 exact ⟨fun _=>⟨rfl,rfl⟩,fun hd=>⟨_,W.rd1 rfl,fun _=>⟨rfl,rfl⟩,fun hn=>by omega⟩⟩
def pre (xs:List It) (r:Except Int (List It×Nat)):Except Int (List It×Nat):=match r with
 | .error e=>.error e
 | .ok (ys,m)=>.ok (xs++ys,m)
theorem pre_nil (r:Except Int (List It×Nat)):pre [] r=r:=by cases r <;> rfl
theorem pre_pre (xs ys:List It) (r:Except Int (List It×Nat)):pre xs (pre ys r)=pre (xs++ys) r:=by
 cases r <;> simp [pre]
def DecIs (r:Except Int (It×Nat×Nat)) (w:World) (D:Nat) (e:Ending) (w':World):Prop:=match r with
 | .error x=>x≠0∧∃b o1 l1 k1 o2 l2 k2 n1,e=.returned (.tuple #[.agg #[.bool b,.slice o1 l1 k1,.slice o2 l2 k2],.int .i64 n1,.int .i64 x])
 | .ok (x,q,m)=>Blk w' D 217 #[.int .i64 (m:Int)]∧∃v1 v2 v3,e=.returned (.tuple #[.agg #[v1,v2,v3],.int .i64 (q:Int),.int .i64 0])∧ItC (fun b=>b < w.heap.size) w' x v1 v2 v3
theorem sub_bytes {w:World} {o:Option Addr} {bs:By} {k a q:Nat} (h:RdB w o bs) (hk:bs.length≤k):RdB w (subO o k a 1) ((bs.drop a).take q):=h.sub hk
theorem off_sub {S:Nat→Prop} {o:Option Addr} (h:Off S o) (c n:Nat):Off S (subO o c n 1):=fun d hd=>by
 unfold subO at hd
 split at hd
 ·exact h d hd
 ·cases o with
  | none=>simp at hd
  | some a =>
    simp only [Option.map_some,Option.some.injEq] at hd
    have e:(a.add (n * 1)).block=a.block:=by
     obtain ⟨b,f,s⟩:=a
     simp only [Addr.add]
     split <;> rfl
    rw [← hd,e]
    exact h a rfl
set_option maxHeartbeats 1000000 in
set_option maxRecDepth 10000 in
theorem first_calls:∀(f d n:Nat) (bs:By) {w:World} {D k:Nat} {o:Option Addr},2 * bs.length+1≤f→bs.length≤65536→RdB w o bs→bs.length≤k→Blk w D 217 #[.int .i64 (n:Int)]→(bs≠[]→Off (·=D) o)→n≤4096→d≤20 →
 Calls Tryz.prog rlp_walker_first.n #[.pointer (some ⟨D,0,none⟩),.slice o bs.length k,.int .i64 (d:Int)] w (fun e w'=>Vcg.Mod (·=D) w w'∧DecIs (dcd f d n bs) w D e w')
 | 0,_,_,_,_,_,_,_,hf,_,_,_,_,_,_,_=>absurd hf (by omega)
 | f+1,d,n,bs,w,D,k,o,hf,hlen,hr,hk,W,hoff,hn,hd20=>by
   refine calls_gen fun R hR=>rlp_walker_first.vc _ _ _ _ _ _ _ ?_
   unfold rlp_walker_first.Vc
   have hD:=W.lt
   rintro d3 w1 ⟨rfl,rfl⟩
   have M1:Vcg.Mod NoB w _:=Mod.alloc w (.cells #[.bool false,.slice none 0 0,.slice none 0 0] 111)
   have X1:=Blk.new w 111 #[.bool false,.slice none 0 0,.slice none 0 0]
   have hs1:=size_alloc w (.cells #[.bool false,.slice none 0 0,.slice none 0 0] 111)
   have W1:=W.mod' M1
   have hr1:=hr.mod' M1
   generalize hN:w.heap.size=N at *
   generalize w.alloc (.cells #[.bool false,.slice none 0 0,.slice none 0 0] 111)=w1 at *
   have M1':Vcg.Mod (·=D) w w1:=M1.mono (fun _ _ h=>h.elim)
   have bad:∀(w':World) (a b c:Value) (x:Int),Vcg.Mod (·=D) w w'→Blk w' N 111 #[a,b,c]→dcd (f+1) d n bs=.error x→x≠0→∀w'':World,Vcg.Mod (·=N) w' w''→R (.returned (.tuple #[.agg #[.bool false,.slice none 0 0,.slice none 0 0],.int .i64 0,.int .i64 x])) w'':=by
    intro w' a b c x M X hx h0 w'' M'
    refine hR _ _ ⟨M.trans M' (fun i hi h=>by omega),?_⟩
    rw [hx]
    exact ⟨h0,_,_,_,_,_,_,_,_,rfl⟩
   refine ⟨fun h0=>?_,fun h0=>?_⟩
   ·have hb:bs=[]:=List.eq_nil_of_length_eq_zero (by omega)
    exact ret_3 X1 (bad w1 _ _ _ 41 M1' X1 (by rw [hb]; exact dcd_nil f d n) (by decide))
   have hbne:bs≠[]:=by rintro rfl; simp at h0
   by_cases hdn:d > 16∨n=4096
   ·refine (meets_bad W1 hdn).mono ?_
    rintro _ w1 ⟨rfl,rfl⟩
    exact ⟨_,rfl,fun _=>ret_3 X1 (bad _ _ _ _ 43 M1' X1 (dcd_deep hbne hdn) (by decide)),fun h=>absurd h (by decide)⟩
   refine (meets_calls W1 (by omega) (by omega)).mono ?_
   rintro _ w2 ⟨rfl,M2,W2⟩
   have X2:=X1.mod M2 (by omega)
   have hr2:=hr1.mod M2 (hoff hbne)
   have M02:=M1'.trans M2 (fun i hi h=>h)
   have hs2:=M2.size
   refine ⟨_,rfl,fun h=>(h rfl).elim,fun _=>?_⟩
   refine (reads_calls hr2 hbne hk (by omega)).mono ?_
   rintro _ w3 ⟨M3,b1,n1,n2,b2,b3,e0,rfl,hhd⟩
   have X3:=X2.mod' M3
   have W3:=W2.mod' M3
   have hr3:=hr2.mod' M3
   have M03:=M02.none_trans M3
   have hs3:=M3.size
   clear X1 X2 W1 W2 hr1 hr2 M1 M1' M02 M2 M3
   refine ⟨_,_,_,_,_,_,rfl,?_⟩
   rintro d4 w4 ⟨rfl,rfl⟩
   have H4:=Blk.new w3 237 #[.bool false,.int .i64 0,.int .i64 0,.bool false,.bool false]
   have X4:=X3.alloc (.cells #[.bool false,.int .i64 0,.int .i64 0,.bool false,.bool false] 237)
   have W4:=W3.alloc (.cells #[.bool false,.int .i64 0,.int .i64 0,.bool false,.bool false] 237)
   have M4:Vcg.Mod NoB w3 _:=Mod.alloc w3 (.cells #[.bool false,.int .i64 0,.int .i64 0,.bool false,.bool false] 237)
   have hr4:=hr3.mod' M4
   have M04:=M03.none_trans M4
   have hs4:=size_alloc w3 (.cells #[.bool false,.int .i64 0,.int .i64 0,.bool false,.bool false] 237)
   generalize hH:w3.heap.size=H at *
   generalize w3.alloc (.cells #[.bool false,.int .i64 0,.int .i64 0,.bool false,.bool false] 237)=w4 at *
   refine set5 H4 rfl rfl rfl rfl rfl (fun w5 H5 Q5=>?_)
   have X5:=X4.mod Q5 (by omega)
   have W5:=W4.mod Q5 (by omega)
   have hr5:RdB w5 o bs:=hr4.mod Q5 (fun e he h=>by
    obtain ⟨bb,ff,ho,hb,_⟩:=hr hbne
    rw [ho] at he; cases he
    simp only at h
    omega)
   have M05:=M04.trans Q5 (fun i hi h=>by omega)
   have hs5:=Q5.size
   clear X3 X4 W3 W4 hr3 hr4 M03 M04 M4 Q5 H4
   have hdec:=dcd_go (f:=f) hbne hdn
   cases hh:hd bs with
   | error x =>
     rw [hh] at hhd hdec
     obtain ⟨rfl,hx0⟩:=hhd
     exact ⟨fun _=>ret_3 X5 (bad _ _ _ _ _ M05 X5 hdec hx0),fun h=>(hx0 h).elim⟩
   | ok r =>
     obtain ⟨lst,a,q,ow⟩:=r
     rw [hh] at hhd hdec
     simp only at hdec
     obtain ⟨rfl,rfl,rfl,rfl,rfl⟩:=hhd
     obtain ⟨hat1,hat2⟩:=hd_at hh hbne
     have ha9:a≤bs.length:=by
      cases b2 with
      | true=>have:=(hat1 rfl).2.1; omega
      | false=>exact (hat2 rfl).2.1
     have hq31:=hd_bound hh
     refine ⟨fun h=>(h rfl).elim,fun _=>⟨_,by rw [add_at]; exact H5.rd1 rfl,_,by rw [add_at]; exact H5.rd1 rfl,?_⟩⟩
     have e1:IntKind.wrap .i64 ((bs.length:Int) - (a:Int))=((bs.length - a:Nat):Int):=by rw [wrap_i64_small (by omega) (by omega)]; omega
     have e2:IntKind.wrap .i64 ((a:Int)+(q:Int))=((a+q:Nat):Int):=by rw [wrap_i64_small (by omega) (by omega)]; omega
     rw [e1]
     refine ⟨fun hbig=>?_,fun hbig=>?_⟩
     ·rw [if_pos (by omega)] at hdec
      exact ret_3 X5 (bad _ _ _ _ 41 M05 X5 hdec (by decide))
     rw [if_neg (by omega)] at hdec
     refine ⟨_,by rw [add_at]; exact H5.rd1 rfl,_,by rw [add_at]; exact H5.rd1 rfl,_,by rw [add_at]; exact H5.rd1 rfl,?_⟩
     rw [e2]
     simp only [Int.toNat_natCast]
     refine ⟨⟨by omega,by omega⟩,⟨by omega,by omega⟩,_,by rw [add_at]; exact H5.rd1 rfl,_,by rw [add_at]; exact H5.rd1 rfl,_,H5.rd1 rfl,?_⟩
     rw [e2]
     have hin:=sub_bytes (a:=a) (q:=q) hr5 hk
     have hil:((bs.drop a).take q).length=q:=by rw [List.length_take,List.length_drop]; omega
     have hoffi:Off (fun b=>b=D∨N≤b) (subO o k a 1):=off_sub (fun e he h=>by
      rcases h with h | h
      ·exact hoff hbne e he h
      ·obtain ⟨bb,ff,ho,hb,_⟩:=hr hbne
       rw [ho] at he; cases he
       simp only at h
       omega) k a
     rw [show a+q - a=((bs.drop a).take q).length by omega]
     generalize hI:(bs.drop a).take q=inn at *
     generalize subO o k a 1=oi at *
     have str:∀{w6:World},Vcg.Mod (·=D) w w6→RdB w6 oi inn→Blk w6 N 111 #[.bool false,.slice none 0 0,.slice none 0 0]→Blk w6 D 217 #[.int .i64 ((n+1:Nat):Int)]→dcd (f+1) d n bs=.ok (.s inn,a+q,n+1) →
      Calls Tryz.prog 36 #[(.slice oi inn.length (k - a))] w6 (fun e85 w86=>∃o87:Option Addr,∃l88:Nat,∃l89:Nat,e85=.returned (.slice o87 l88 l89)∧Blk w86 N 111 #[.bool false,.slice none 0 0,.slice none 0 0] ∧
       ∀w':World,Vcg.Mod (·=N) w86 w'→R (.returned (.tuple #[(.agg #[(.bool false),(.slice o87 l88 l89),(.slice none 0 0)]),(.int .i64 ((a+q:Nat):Int)),(.int .i64 0)])) w'):=by
      intro w6 M6 hin6 X6 W6 hd6
      refine (Clone_calls hin6 (by omega)).mono ?_
      rintro _ w7 ⟨o7,k7,rfl,F7⟩
      refine ⟨_,_,_,rfl,X6.mod' F7.mod,fun w8 M8=>hR _ _ ⟨(M6.none_trans F7.mod).trans M8 (fun i hi h=>by omega),?_⟩⟩
      rw [hd6]
      have hNN:=X6.lt
      have hN7:∀b,OB o7 b→¬b=N:=fun b hb h=>by have:=F7.new b hb; omega
      refine ⟨((W6.mod' F7.mod).mod M8 (by omega)),_,_,_,rfl,?_⟩
      simp only [ItC]
      refine ⟨trivial,⟨o7,k7,rfl,(F7.own.mod M8 hN7).bytes,fun _ dd hdd h=>?_⟩,trivial⟩
      have:=F7.new dd.block ⟨dd,hdd,rfl⟩
      have:=M6.size
      omega
     refine ⟨fun hl=>⟨_,by rw [add_at]; exact H5.rd1 rfl,fun how=>?_,fun how=>?_⟩,fun hl=>?_⟩
     ·refine (own_calls hin).mono ?_
      rintro _ w6 ⟨rfl,rfl⟩
      rw [if_pos hl] at hdec
      refine ⟨_,rfl,fun ho=>?_,fun ho=>?_⟩
      ·rw [if_pos ⟨how,ho⟩] at hdec
       exact ret_3 X5 (bad _ _ _ _ 40 M05 X5 hdec (by decide))
      ·rw [if_neg (fun h=>by rw [ho] at h; exact absurd h.2 (by decide))] at hdec
       refine (str M05 hin X5 W5 hdec).mono ?_
       rintro _ w7 ⟨o7,l7,k7,rfl,X7,h7⟩
       exact ⟨_,_,_,rfl,ret_3 X7 h7⟩
     ·rw [if_pos hl,if_neg (fun h=>by rw [how] at h; exact absurd h.1 (by decide))] at hdec
      refine (str M05 hin X5 W5 hdec).mono ?_
      rintro _ w7 ⟨o7,l7,k7,rfl,X7,h7⟩
      exact ⟨_,_,_,rfl,ret_3 X7 h7⟩
     rw [if_neg (by rw [hl]; decide)] at hdec
     have hof:b2=false:=by
      cases b2 with
      | true=>have:=(hat1 rfl).1; rw [hl] at this; cases this
      | false=>rfl
     have hinl:inn.length < bs.length:=by
      have:=(hat2 hof).1
      omega
     rintro dX w6 ⟨rfl,rfl⟩
     have Y6:=Blk.new w5 111 #[.bool false,.slice none 0 0,.slice none 0 0]
     have M56:Vcg.Mod NoB w5 _:=Mod.alloc w5 (.cells #[.bool false,.slice none 0 0,.slice none 0 0] 111)
     have X6:=X5.mod' M56
     have W6:=W5.mod' M56
     have hin6:=hin.mod' M56
     have M06:=M05.none_trans M56
     have hs6:=size_alloc w5 (.cells #[.bool false,.slice none 0 0,.slice none 0 0] 111)
     generalize hY:w5.heap.size=Y at *
     generalize w5.alloc (.cells #[.bool false,.slice none 0 0,.slice none 0 0] 111)=w6 at *
     refine set3 Y6 rfl rfl rfl (fun w7 Y7 Q7=>?_)
     have X7:=X6.mod Q7 (by omega)
     have W7:=W6.mod Q7 (by omega)
     have hin7:RdB w7 oi inn:=by
      by_cases hie:inn=[]
      ·rw [hie]; exact RdB.nil _ _
      ·obtain ⟨bb,ff,ho,hb,_⟩:=hin hie
       refine hin6.mod Q7 (fun e he h=>?_)
       rw [ho] at he; cases he
       simp only at h
       omega
     have M07:=M06.trans Q7 (fun i hi h=>by omega)
     have hs7:=Q7.size
     clear X6 W6 Y6 hin6 M06 M56 Q7 X5 W5 hin M05 H5 str
     refine ⟨fun o' l' k' w'=>∃(rest:By) (n':Nat) (xs:List It) (f':Nat) (ol:Option Addr) (kl:Nat) (v:Value),
      l'=rest.length∧RdB w' o' rest∧Off (fun b=>b=D∨N≤b) o'∧rest.length≤k'∧rest.length≤inn.length∧xs.length+rest.length≤inn.length∧Blk w' D 217 #[.int .i64 (n':Int)]∧n'≤4096 ∧
      Blk w' Y 111 #[.bool true,.slice none 0 0,.slice ol xs.length kl]∧(∃a b c,Blk w' N 111 #[a,b,c])∧ItOwn (fun b=>b < w7.heap.size) w' xs ol xs.length kl∧(∀b,OB ol b→w7.heap.size≤b)∧Vcg.Mod (·=D) w w'∧w7.heap.size≤w'.heap.size ∧
      dcds f (d+1) (n+1) inn=pre xs (dcds f' (d+1) n' rest)∧2 * rest.length+2≤f'∧f'≤f,fun _ l' _ _=>l',?_,?_⟩
     ·exact ⟨inn,n+1,[],f,none,0,.nilIface,rfl,hin7,hoffi,by omega,Nat.le_refl _,by simp,W7,by omega,by rw [hl] at *; exact Y7,⟨_,_,_,X7⟩,ItOwn.nil _ _,fun b hb=>(OB_none b hb).elim,M07,Nat.le_refl _,(pre_nil _).symm,by omega,Nat.le_refl _⟩
     ·rintro o8 _ c8 _ w8 ⟨rest,n',xs,f',ol,kl,_,rfl,hr8,hoff8,hc8,hrl,hxr,W8,hn',Y8,⟨xa,xb,xc,X8⟩,I8,hnew,M08,hs8,hde,hf',hff⟩
      refine ⟨fun hpos=>?_,fun hpos=>?_⟩
      ·have hrne:rest≠[]:=by rintro rfl; simp at hpos
       obtain ⟨f2,rfl⟩:∃f2,f'=f2+1:=⟨f' - 1,by omega⟩
       rw [dcds_go hrne] at hde
       have ed:IntKind.wrap .i64 ((d:Int)+1)=((d+1:Nat):Int):=by rw [wrap_i64_small (by omega) (by omega)]; omega
       rw [ed]
       refine (first_calls f2 (d+1) n' rest (by omega) (by omega) hr8 hc8 W8 (fun _ e he h=>hoff8 e he (.inl h)) hn' (by omega)).mono ?_
       rintro e w9 ⟨M9,hdi⟩
       have hs9:=M9.size
       have Y9:=Y8.mod M9 (by omega)
       have X9:=X8.mod M9 (by omega)
       have I9:=I8.modS M9 (fun b hb=>by omega) (fun b hb h=>by have:=hnew b hb; omega)
       have M09:=M08.trans M9 (fun i hi h=>h)
       have hr9:=hr8.mod M9 (fun e he h=>hoff8 e he (.inl h))
       cases hd1:dcd f2 (d+1) n' rest with
       | error x =>
         rw [hd1] at hdi hde
         obtain ⟨hx0,bb,p1,q1,r1,p2,q2,r2,m1,rfl⟩:=hdi
         refine ⟨_,_,_,_,_,_,_,_,_,rfl,?_⟩
         rintro dA wA ⟨rfl,rfl⟩
         have HA:=Blk.new w9 111 #[.bool false,.slice none 0 0,.slice none 0 0]
         have XA:=X9.alloc (.cells #[.bool false,.slice none 0 0,.slice none 0 0] 111)
         have MA:=M09.step_alloc (.cells #[.bool false,.slice none 0 0,.slice none 0 0] 111)
         refine set3 HA rfl rfl rfl (fun wB HB QB=>?_)
         have XB:=XA.mod QB (by omega)
         have MB:=MA.trans QB (fun i hi h=>by omega)
         exact ⟨fun _=>ret_3 XB (bad _ _ _ _ _ MB XB (by rw [hdec,hde]; rfl) hx0),fun h=>(hx0 h).elim⟩
       | ok r =>
         obtain ⟨y,q',m'⟩:=r
         rw [hd1] at hdi hde
         simp only at hde
         obtain ⟨W9,v1,v2,v3,rfl,hy⟩:=hdi
         obtain ⟨k1,k2,k3,k4,k5,k6⟩:=(dec_ok f2 (d+1) n' rest).1 _ _ _ hd1
         obtain ⟨bb,p1,q1,r1,p2,q2,r2,rfl,rfl,rfl⟩:=hy.vals
         refine ⟨_,_,_,_,_,_,_,_,_,rfl,?_⟩
         rintro dA wA ⟨rfl,rfl⟩
         have HA:=Blk.new w9 111 #[.bool false,.slice none 0 0,.slice none 0 0]
         have M9A:Vcg.Mod NoB w9 _:=Mod.alloc w9 (.cells #[.bool false,.slice none 0 0,.slice none 0 0] 111)
         have hsA:=size_alloc w9 (.cells #[.bool false,.slice none 0 0,.slice none 0 0] 111)
         generalize hHA:w9.heap.size=HH at *
         generalize w9.alloc (.cells #[.bool false,.slice none 0 0,.slice none 0 0] 111)=wA at *
         refine set3 HA rfl rfl rfl (fun wB HB QB=>?_)
         have M9B:Vcg.Mod NoB w9 wB:=mod_of M9A QB (by omega)
         have XB:=X9.mod' M9B
         have YB:=Y9.mod' M9B
         have WB:=W9.mod' M9B
         have hyB:=ItC.mod M9B _ hy
         have hrB:=hr9.mod' M9B
         have IB:=I9.mod' M9B
         have MB:=M09.none_trans M9B
         have hsB:=M9B.size
         clear HA M9A QB X9 Y9 W9 hr9 I9 M09 hy
         refine ⟨fun h=>(h rfl).elim,fun _=>?_⟩
         rintro _ rfl
         have MBC:Vcg.Mod NoB wB wB.drew:=Mod.drew wB
         have XC:=XB.mod' MBC
         have YC:=YB.mod' MBC
         have WC:=WB.mod' MBC
         have HC:=HB.mod' MBC
         have hyC:=ItC.mod MBC _ hyB
         have hrC:=hrB.mod' MBC
         have IC:=IB.mod' MBC
         have MC:=MB.none_trans MBC
         have hsC:=MBC.size
         clear XB YB WB HB hyB hrB IB MB MBC
         generalize wB.drew=wC at *
         refine ⟨_,_,_,by rw [add_at]; exact YC.rd1 rfl,get3 HC ⟨⟨by omega,by omega⟩,?_⟩⟩
         rintro dD wD ⟨rfl,rfl⟩
         have MD:Vcg.Mod NoB wC _:=Mod.alloc wC (.cells #[.bool bb,.slice p1 q1 r1,.slice p2 q2 r2] 111)
         have E:=Blk.new wC 111 #[.bool bb,.slice p1 q1 r1,.slice p2 q2 r2]
         have XD:=XC.mod' MD
         have YD:=YC.mod' MD
         have WD:=WC.mod' MD
         have hyD:=ItC.mod MD _ hyC
         have hrD:=hrC.mod' MD
         have ID:=IC.mod' MD
         have M0D:=MC.none_trans MD
         have hsD:=MD.size
         clear XC YC WC HC hyC hrC IC MC
         generalize wC.heap.size=HE at *
         generalize wC.alloc (.cells #[.bool bb,.slice p1 q1 r1,.slice p2 q2 r2] 111)=wD at *
         refine ⟨by rw [add_at]; exact YD.rd1 rfl,?_⟩
         have hlt8:=I8.lt
         obtain ⟨o',k',wE,hrun,IE,QE,hOB⟩:=ID.push E (ItC.mono (fun b hb=>by
          rcases hb with h | h
          ·exact Nat.lt_of_lt_of_le h hs8
          ·exact hlt8 b h) _ hyD) (by omega)
         have nE:∀b,OB o' b→w7.heap.size≤b:=fun b hb=>by
          rcases hOB b hb with h | h
          ·exact hnew b h
          ·omega
         have XE:=XD.mod QE (fun h=>by have:=hnew _ h; omega)
         have YE:=YD.mod QE (fun h=>by have:=hnew _ h; omega)
         have WE:=WD.mod QE (fun h=>by have:=hnew _ h; omega)
         have hrE:RdB wE o8 rest:=hrD.mod QE (fun e he h=>hoff8 e he (.inr (by have:=hnew _ h; omega)))
         have M0E:=M0D.trans QE (fun i hi h=>by have:=hnew _ h; omega)
         have hsE:=QE.size
         refine ⟨_,wE,hrun,_,_,_,rfl,?_⟩
         rw [add_at]
         refine ⟨YE.canSet (by simp) rfl,?_⟩
         rintro _ rfl
         have QF:Vcg.Mod (·=Y) wE _:=Mod.setCell wE ⟨Y,0+2,none⟩ (.slice o' (xs.length+1) k')
         have YF:=YE.set 2 (.slice o' (xs.length+1) k')
         have IF:=IE.modS QF (fun b hb=>by omega) (fun b hb h=>by have:=nE b hb; omega)
         have XF:=XE.mod QF (by omega)
         have WF:=WE.mod QF (by omega)
         have hrF:RdB _ o8 rest:=hrE.mod QF (fun e he h=>hoff8 e he (.inr (by omega)))
         have M0F:=M0E.trans QF (fun i hi h=>by omega)
         have hsF:=QF.size
         rw [Int.toNat_natCast]
         refine ⟨⟨rest.drop q',m',xs++[y],f2,o',k',.nilIface,by rw [List.length_drop],sub_drop hrF hc8,off_sub hoff8 _ _,by rw [List.length_drop]; omega,by rw [List.length_drop]; omega,by rw [List.length_append,List.length_drop,List.length_singleton]; omega,WF,by omega,by rw [List.length_append,List.length_singleton]; exact YF,⟨_,_,_,XF⟩,by rw [List.length_append,List.length_singleton]; exact IF,nE,M0F,by omega,?_,by rw [List.length_drop]; omega,by omega⟩,by dsimp only; omega⟩
         rw [hde,← pre_pre]
         congr 1
      ·obtain rfl:rest=[]:=List.eq_nil_of_length_eq_zero (by omega)
       obtain ⟨f2,rfl⟩:∃f2,f'=f2+1:=⟨f' - 1,by omega⟩
       rw [dcds_nil] at hde
       have hits:=I8.its (fun b hb h=>by have:=hnew b h; omega)
       refine get3 Y8 (ret_3 X8 (fun w9 M9=>hR _ _ ⟨M08.trans M9 (fun i hi h=>by omega),?_⟩))
       rw [hdec,hde]
       simp only [pre,List.append_nil]
       refine ⟨W8.mod M9 (by omega),_,_,_,rfl,?_⟩
       simp only [ItC]
       exact ⟨trivial,trivial,ol,kl,rfl,ItsC.mono (fun b hb=>by omega) _ (ItsC.modA M9 (fun b hb=>by omega) _ hits),I8.cap⟩
end Go.Proofs.YtfghidehlnfdiaaGreat
end
section
namespace Go.Proofs.YtfghidehlnfdiaaGreat
open Go Go.Vcg Go.Trie
def FirstIs (bs:By) (w:World) (e:Ending) (w':World):Prop :=
 if bs.length > 65536 then ∃b o1 l1 k1 o2 l2 k2 n1,e=.returned (.tuple #[.agg #[.bool b,.slice o1 l1 k1,.slice o2 l2 k2],.int .i64 n1,.int .i64 44])
 else match dcd (2 * bs.length+1) 1 0 bs with
 | .error x=>x≠0∧∃b o1 l1 k1 o2 l2 k2 n1,e=.returned (.tuple #[.agg #[.bool b,.slice o1 l1 k1,.slice o2 l2 k2],.int .i64 n1,.int .i64 x])
 | .ok (x,q,_)=>∃v1 v2 v3,e=.returned (.tuple #[.agg #[v1,v2,v3],.int .i64 (q:Int),.int .i64 0])∧ItC (fun b=>b < w.heap.size) w' x v1 v2 v3
def DecodeIs (bs:By) (w:World) (e:Ending) (w':World):Prop:=match dcod bs with
 | .error x=>x≠0∧∃b o1 l1 k1 o2 l2 k2,e=.returned (.tuple #[.agg #[.bool b,.slice o1 l1 k1,.slice o2 l2 k2],.int .i64 x])
 | .ok x=>∃v1 v2 v3,e=.returned (.tuple #[.agg #[v1,v2,v3],.int .i64 0])∧ItC (fun b=>b < w.heap.size) w' x v1 v2 v3
theorem First_calls {w:World} {o:Option Addr} {k:Nat} {bs:By} (hr:RdB w o bs) (hk:bs.length≤k) :
 Calls Tryz.prog rlp_First.n #[.slice o bs.length k] w (fun e w'=>Vcg.Mod NoB w w'∧FirstIs bs w e w'):=by
 refine calls_gen fun R hR=>rlp_First.vc _ _ _ _ _ ?_
 unfold rlp_First.Vc
 rintro d1 w1 ⟨rfl,rfl⟩
 have M1:Vcg.Mod NoB w _:=Mod.alloc w (.cells #[.bool false,.slice none 0 0,.slice none 0 0] 111)
 have X1:=Blk.new w 111 #[.bool false,.slice none 0 0,.slice none 0 0]
 have hs1:=size_alloc w (.cells #[.bool false,.slice none 0 0,.slice none 0 0] 111)
 have hr1:=hr.mod' M1
 generalize hN:w.heap.size=N at *
 generalize w.alloc (.cells #[.bool false,.slice none 0 0,.slice none 0 0] 111)=w1 at *
 refine ⟨fun hbig=>?_,fun hbig=>?_⟩
 ·refine ret_3 X1 (fun w2 M2=>hR _ _ ⟨mod_of M1 M2 (by omega),?_⟩)
  unfold FirstIs
  rw [if_pos (by omega)]
  exact ⟨_,_,_,_,_,_,_,_,rfl⟩
 ·rintro d2 w2 ⟨rfl,rfl⟩
  have M12:Vcg.Mod NoB w1 _:=Mod.alloc w1 (.cells #[.int .i64 0] 217)
  have W2:=Blk.new w1 217 #[.int .i64 ((0:Nat):Int)]
  have X2:=X1.mod' M12
  have hr2:=hr1.mod' M12
  have M2:=M1.none_trans M12
  have hs2:=size_alloc w1 (.cells #[.int .i64 0] 217)
  have hoff:bs≠[]→Off (·=w1.heap.size) o:=fun hne e he h=>by
   obtain ⟨b,f,ho,hb,_⟩:=hr hne
   rw [ho] at he; cases he
   simp only at h
   omega
  have hc:=first_calls (2 * bs.length+1) 1 0 bs (k:=k) (Nat.le_refl _) (by omega) hr2 hk W2 hoff (by omega) (by omega)
  refine Calls.mono (R:=fun e w'=>Vcg.Mod (·=w1.heap.size) (w1.alloc (.cells #[.int .i64 0] 217)) w'∧DecIs (dcd (2 * bs.length+1) 1 0 bs) (w1.alloc (.cells #[.int .i64 0] 217)) w1.heap.size e w') hc ?_
  rintro e w3 ⟨M3,hd⟩
  have M03:Vcg.Mod NoB w w3:=mod_of M2 M3 (by omega)
  have X3:=X2.mod M3 (by omega)
  cases hdc:dcd (2 * bs.length+1) 1 0 bs with
  | error x =>
    rw [hdc] at hd
    obtain ⟨hx,b,p1,q1,r1,p2,q2,r2,n1,rfl⟩:=hd
    refine ⟨_,_,_,_,_,_,_,_,_,rfl,ret_3 X3 (fun w4 M4=>hR _ _ ⟨mod_of M03 M4 (by omega),?_⟩)⟩
    unfold FirstIs
    rw [if_neg (by omega),hdc]
    exact ⟨hx,_,_,_,_,_,_,_,_,rfl⟩
  | ok r =>
    obtain ⟨y,q,m⟩:=r
    rw [hdc] at hd
    obtain ⟨W3,v1,v2,v3,rfl,hy⟩:=hd
    obtain ⟨bb,p1,q1,r1,p2,q2,r2,rfl,rfl,rfl⟩:=hy.vals
    refine ⟨_,_,_,_,_,_,_,_,_,rfl,ret_3 X3 (fun w4 M4=>hR _ _ ⟨mod_of M03 M4 (by omega),?_⟩)⟩
    unfold FirstIs
    rw [if_neg (by omega),hdc]
    refine ⟨_,_,_,rfl,ItC.mono (fun b hb=>?_) _ (ItC.modA M4 (fun b hb=>?_) _ hy)⟩
    ·have:b < w.heap.size:=hb
     omega
    ·show b < _
     rw [hs2]; omega
theorem Decode_calls {w:World} {o:Option Addr} {k:Nat} {bs:By} (hr:RdB w o bs) (hk:bs.length≤k) :
 Calls Tryz.prog rlp_Decode.n #[.slice o bs.length k] w (fun e w'=>Vcg.Mod NoB w w'∧DecodeIs bs w e w'):=by
 refine calls_gen fun R hR=>rlp_Decode.vc _ _ _ _ _ ?_
 unfold rlp_Decode.Vc
 rintro d1 w1 ⟨rfl,rfl⟩
 have M1:Vcg.Mod NoB w _:=Mod.alloc w (.cells #[.bool false,.slice none 0 0,.slice none 0 0] 111)
 have X1:=Blk.new w 111 #[.bool false,.slice none 0 0,.slice none 0 0]
 have hs1:=size_alloc w (.cells #[.bool false,.slice none 0 0,.slice none 0 0] 111)
 have hr1:=hr.mod' M1
 generalize hN:w.heap.size=N at *
 generalize w.alloc (.cells #[.bool false,.slice none 0 0,.slice none 0 0] 111)=w1 at *
 refine (First_calls hr1 hk).mono ?_
 rintro e w2 ⟨M2,hf⟩
 have M02:=M1.none_trans M2
 have X2:=X1.mod' M2
 have hs2:=M2.size
 have bad:∀(w':World) (x:Int),dcod bs=.error x→x≠0→Vcg.Mod NoB w w'→Blk w' N 111 #[.bool false,.slice none 0 0,.slice none 0 0]→∀w'':World,Vcg.Mod (·=N) w' w''→R (.returned (.tuple #[.agg #[.bool false,.slice none 0 0,.slice none 0 0],.int .i64 x])) w'':=by
  intro w' x hx h0 M X w'' M'
  refine hR _ _ ⟨mod_of M M' (by omega),?_⟩
  unfold DecodeIs
  rw [hx]
  exact ⟨h0,_,_,_,_,_,_,_,rfl⟩
 have key:(∃b p1 q1 r1 p2 q2 r2 n1 x,e=.returned (.tuple #[.agg #[.bool b,.slice p1 q1 r1,.slice p2 q2 r2],.int .i64 n1,.int .i64 x])∧x≠0∧dcod bs=.error x) ∨
  (∃y q m v1 v2 v3,¬bs.length > 65536∧dcd (2 * bs.length+1) 1 0 bs=.ok (y,q,m)∧e=.returned (.tuple #[.agg #[v1,v2,v3],.int .i64 (q:Int),.int .i64 0])∧ItC (fun b=>b < w1.heap.size) w2 y v1 v2 v3):=by
  unfold FirstIs at hf
  split at hf
  ·rename_i hbig
   obtain ⟨b,p1,q1,r1,p2,q2,r2,n1,he⟩:=hf
   exact .inl ⟨_,_,_,_,_,_,_,_,_,he,by decide,by unfold dcod; rw [if_pos hbig]⟩
  ·rename_i hbig
   split at hf
   ·rename_i x hdc
    obtain ⟨hx,b,p1,q1,r1,p2,q2,r2,n1,he⟩:=hf
    exact .inl ⟨_,_,_,_,_,_,_,_,_,he,hx,by unfold dcod; rw [if_neg hbig,hdc]⟩
   ·rename_i y q m hdc
    obtain ⟨v1,v2,v3,he,hy⟩:=hf
    exact .inr ⟨_,_,_,_,_,_,hbig,hdc,he,hy⟩
 rcases key with ⟨b,p1,q1,r1,p2,q2,r2,n1,x,rfl,hx,hdc⟩ | ⟨y,q,m,v1,v2,v3,hbig,hdc,rfl,hy⟩
 ·refine ⟨_,_,_,_,_,_,_,_,_,rfl,?_⟩
  rintro d3 w3 ⟨rfl,rfl⟩
  have H:=Blk.new w2 111 #[.bool false,.slice none 0 0,.slice none 0 0]
  have M23:Vcg.Mod NoB w2 _:=Mod.alloc w2 (.cells #[.bool false,.slice none 0 0,.slice none 0 0] 111)
  refine set3 H rfl rfl rfl (fun w4 H4 Q4=>?_)
  have M24:Vcg.Mod NoB w2 w4:=mod_of M23 Q4 (Nat.le_refl _)
  exact ⟨fun _=>ret_3 (X2.mod' M24) (bad w4 x hdc hx (M02.none_trans M24) (X2.mod' M24)),fun h=>(hx h).elim⟩
 ·obtain ⟨bb,p1,q1,r1,p2,q2,r2,rfl,rfl,rfl⟩:=hy.vals
  refine ⟨_,_,_,_,_,_,_,_,_,rfl,?_⟩
  rintro d3 w3 ⟨rfl,rfl⟩
  have H:=Blk.new w2 111 #[.bool false,.slice none 0 0,.slice none 0 0]
  have M23:Vcg.Mod NoB w2 _:=Mod.alloc w2 (.cells #[.bool false,.slice none 0 0,.slice none 0 0] 111)
  refine set3 H rfl rfl rfl (fun w4 H4 Q4=>?_)
  have M24:Vcg.Mod NoB w2 w4:=mod_of M23 Q4 (Nat.le_refl _)
  have X4:=X2.mod' M24
  have hy4:=ItC.mod M24 _ hy
  refine ⟨fun h=>(h rfl).elim,fun _=>⟨fun hlt=>?_,fun hlt=>?_⟩⟩
  ·refine ret_3 X4 (bad w4 42 ?_ (by decide) (M02.none_trans M24) X4)
   unfold dcod
   rw [if_neg hbig,hdc]
   simp only
   rw [if_pos (by omega)]
  ·refine get3 H4 (ret_3 X4 (fun w5 M5=>hR _ _ ⟨mod_of (M02.none_trans M24) M5 (by omega),?_⟩))
   have hd:dcod bs=.ok y:=by
    unfold dcod
    rw [if_neg hbig,hdc]
    simp only
    rw [if_neg (by omega)]
   unfold DecodeIs
   rw [hd]
   refine ⟨_,_,_,rfl,ItC.mono (fun b hb=>?_) _ (ItC.modA M5 (fun b hb=>?_) _ hy4)⟩
   ·have:b < w.heap.size:=hb
    show b < w1.heap.size
    omega
   ·show b < w1.heap.size
    omega
end Go.Proofs.YtfghidehlnfdiaaGreat
end
