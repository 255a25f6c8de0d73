/- The walk of ProofTurned, on. -/
import Derived.Test.YtfghidehlnfdiaaGreatPG1
set_option linter.unusedVariables false
set_option linter.unusedSimpArgs false
section
namespace Go.Proofs.YtfghidehlnfdiaaGreat
open Go Go.Vcg Go.Trie
def TurnJ (w0:World) (D:Nat) (root:By) (o:Option Addr) (l c:Nat) (w:World):Prop :=
 Vcg.Mod NoB w0 w∧Blk w D 27 (hashA root)∧∃ls:List By,l=ls.length∧l≤c∧l≤2 ^ 20∧LsR w o ls
theorem xor_byte (a b:Int):∃x:UInt8,(Value.int .u8 (bitsI .xor .u8 a b))=bV x:=by
 obtain ⟨x,hx⟩:=wrap_u8_byte (((BitVec.ofInt (IntKind.bits .u8) a) ^^^ (BitVec.ofInt (IntKind.bits .u8) b)).toNat:Int)
 exact ⟨x,by unfold bV bitsI; simp only; rw [hx]⟩
theorem Turned_calls (w:World) {o0 o1 o5:Option Addr} {c0 c1 c5:Nat} {m:List (By×By)} {key more:By} {at_ place by_:Int} (hm:StR w o0 m) (hkey:RdB w o1 key) (hmore:RdB w o5 more) (hmk:more.length≤c5) :
 Calls Tryz.prog morainelaw16_ProofTurned.n #[.slice o0 m.length c0,.slice o1 key.length c1,.int .i64 at_,.int .i64 place,.int .u8 by_,.slice o5 more.length c5] w (fun e w'=>e=.returned (.bool true)∧Vcg.Mod NoB w w'):=by
 refine morainelaw16_ProofTurned.vc _ _ _ _ _ _ _ _ _ _ _ _ _ _ ?_
 unfold morainelaw16_ProofTurned.Vc
 refine (known16_calls w).mono ?_
 rintro _ w1 ⟨rfl,M1⟩
 refine ⟨_,rfl,fun h=>(by cases h),fun _=>?_⟩
 refine (few16_calls (k:=c0) (hm.mod' M1)).mono ?_
 rintro _ w2 ⟨bf,rfl,hfew,M12⟩
 have M2:=M1.none_trans M12
 refine ⟨_,rfl,fun _=>⟨rfl,M2⟩,fun hbf=>⟨fun _=>⟨rfl,M2⟩,fun hml=>?_⟩⟩
 have hf:=hfew hbf
 obtain ⟨n,q1,q2,q3,q4⟩:=hf.trie
 have hnl:=nodes_len n
 refine (Of_calls (k:=c0) (hm.mod' M2).kv hf.kv q1 q2 q3 (by omega) 0).mono ?_
 rintro _ w3 ⟨o3,k3,rfl,M23,N3⟩
 have M3:=M2.none_trans M23
 refine ⟨_,_,_,_,rfl,?_⟩
 rintro d w4 ⟨rfl,rfl⟩
 have H4:=Blk.new w3 27 (Array.replicate 32 (.int .u8 0))
 obtain ⟨g1,g2,g3⟩:=hash_store H4 (by simp) (rootOf n)
 have M34:=mod_of (Mod.alloc w3 (.cells (Array.replicate 32 (.int .u8 0)) 27)) g3 (Nat.le_refl _)
 refine ⟨_,g1,?_⟩
 rintro _ rfl
 have M35:=M34.step_drew
 have M5:=M3.none_trans M35
 have H5:=g2.drew
 have N5:NdRow _ (fun _=>0) 0 (nodesOf n) o3 (nodesOf n).length:=(N3.stp (S:=NoS) (Stp.of_nob M35 0) (fun h=>h)).re (lab':=fun _=>0) (c':=0) (fun _ _ _=>rfl)
 generalize w3.heap.size=D at *
 generalize ((w3.alloc (.cells (Array.replicate 32 (.int .u8 0)) 27)).setRow D (hashA (rootOf n))).drew=w5 at *
 refine ⟨_,H5.rowAll (size_hashA _),?_⟩
 refine (rNodes_calls (k:=k3) N5 (nodes_bytes q3) (by omega) 0).mono ?_
 rintro _ w6 ⟨o6,k6,rfl,_,M56,N6⟩
 have M6:=M5.none_trans M56
 have H6:=H5.mod' M56
 refine ⟨_,_,_,rfl,H6.rowAll (size_hashA _),?_⟩
 refine (rProve_calls (root:=rootOf n) (k:=k6) (kk:=c1) N6 (by omega) (length_sumOf _) (hkey.mod' M6)).mono ?_
 intro e7 w7 hp7
 have M67:=hp7.1
 have M7:=M6.none_trans M67
 have H7:=H6.mod' M67
 cases hpr:proveR (nodesOf n) (rootOf n) key with
 | error er =>
   obtain ⟨_,hpe⟩:=hp7
   rw [hpr] at hpe
   obtain ⟨her,rfl⟩:=hpe
   exact ⟨_,_,_,_,rfl,fun _=>⟨rfl,M7⟩,fun h=>(her h).elim⟩
 | ok p =>
   obtain ⟨_,o7,n7,k7,rfl,lab,c,cb,hO⟩:=hp7.ok hpr
   obtain ⟨hpl,hpm⟩:=proveR_out hpr (length_sumOf _)
   have hpb:∀x∈p,x.length≤2 ^ 30:=fun x hx=>by
    obtain ⟨h,hh⟩:=hpm x hx
    have:=nodes_bytes q3 _ hh
    dsimp only at this
    omega
   have hR7:=hO.rows
   have hcap:n7≤k7:=by obtain ⟨_,vs,h1,_⟩:=hO; exact h1.own.cap.1
   obtain rfl:n7=p.length:=hO.1
   refine ⟨_,_,_,_,rfl,fun h=>(h rfl).elim,fun _=>?_⟩
   refine ⟨TurnJ w D (rootOf n),⟨fun b w'=>w'=w7∧(b=true→0≤at_∧at_ < p.length),⟨fun h0=>⟨rfl,fun h=>⟨h0,of_decide_eq_true h⟩⟩,fun _=>⟨rfl,fun h=>(by cases h)⟩⟩,?_⟩,?_⟩
   ·rintro b _ w8 ⟨rfl,hb⟩
    refine ⟨fun hbt=>?_,fun _=>⟨M7,H7,p,rfl,hcap,by omega,hR7⟩⟩
    obtain ⟨ha0,hal⟩:=hb hbt
    obtain ⟨a,rfl⟩:∃a:Nat,at_=(a:Int):=⟨at_.toNat,by omega⟩
    have hap:a < p.length:=by omega
    refine (CopyLists_calls (k:=k7) hR7.rd (by omega) hpb).mono ?_
    rintro _ w9 ⟨L,o9,k9,rfl,M89,hC,hL0⟩
    have M9:=M7.none_trans M89
    have H9:=H7.mod' M89
    have hk9:p.length≤k9:=by obtain ⟨_,vs,h1,_⟩:=hC; exact h1.own.cap.1
    refine ⟨_,_,_,rfl,fun b w'=>w'=w9∧(b=true→0≤place∧place < p[a].length),⟨fun h0=>?_,fun _=>⟨rfl,fun h=>(by cases h)⟩⟩,?_⟩
    ·obtain ⟨d,ob,kb,rfl,e1,e2,e3⟩:=hC.read.cell hap (Mod.refl w9)
     exact ⟨_,rfl,⟨by omega,by omega⟩,_,_,_,e1,rfl,fun h=>⟨h0,of_decide_eq_true h⟩⟩
    ·rintro b _ w10 ⟨rfl,hb2⟩
     refine ⟨fun hbt=>?_,fun _=>?_⟩
     ·obtain ⟨hp0,hpl2⟩:=hb2 hbt
      obtain ⟨pl,rfl⟩:∃pl:Nat,place=(pl:Int):=⟨place.toNat,by omega⟩
      rintro _ rfl
      obtain ⟨x,hx⟩:=xor_byte (p[a][pl]'(by omega)).toNat by_
      obtain ⟨g,kb,_,hw,hLg,_⟩:=hC.write (x:=x) hap (show pl < p[a].length by omega)
      obtain ⟨⟨d,hd,c1'⟩,c2,c3,c4⟩:=hw _ (Mod.drew (S:=NoB) w10)
      have M10:=M9.step_drew
      have H10:=H9.drew
      subst hd
      simp only [Int.toNat_natCast]
      refine ⟨_,rfl,⟨by omega,by omega⟩,_,_,_,c1',_,rfl,⟨by omega,by omega⟩,_,_,_,c1',_,rfl,⟨by omega,by omega⟩,_,by rw [add_at,Nat.zero_add]; exact c2,_,rfl,⟨by omega,by omega⟩,?_⟩
      rw [hx]
      simp only [add_at,Nat.zero_add]
      refine ⟨c3,?_⟩
      rintro _ rfl
      have hgN:∀q,q < w8.heap.size→g≠q:=fun q hq e=>by
       have:=hL0 q hq
       rw [← e,hLg] at this
       omega
      refine ⟨M10.step_set (fun hk=>absurd rfl (hgN g (Nat.lt_of_lt_of_le hk M7.size))),H10.set_ne (fun e=>hgN D H7.lt e.symm),p.set a (p[a].set pl x),by rw [List.length_set],hk9,by omega,c4⟩
     ·rintro _ rfl
      have hR10:=(LsC.rows hC).mod' (Mod.drew (S:=NoB) w10)
      obtain ⟨i,hi,hz,hs,hbt⟩:=info_of info_slU8
      have ew:IntKind.wrap .i64 ((a:Int)+1)=((a+1:Nat):Int):=by rw [wrap_i64_small (by omega) (by omega)]; omega
      refine ⟨_,run_slice3 und_slSl hi _ (by omega),_,_,_,rfl,by rw [ew]; exact ⟨by omega,by omega⟩,?_⟩
      rw [ew,Int.toNat_natCast]
      obtain ⟨o11,k11,w11,h11,hk11,M11,R11⟩:=cut_ls hR10 hap hk9 (by omega)
      refine ⟨_,w11,h11,_,_,_,rfl,(M9.step_drew).none_trans M11,H9.drew.mod' M11,_,rfl,hk11,?_,R11⟩
      rw [List.length_append,List.length_take,List.length_drop]; omega
   ·rintro o8 _ c8 _ w8 ⟨M8,H8,ls,rfl,hlc,hll,R8⟩
    refine ⟨fun hpos=>?_,fun _=>⟨_,H8.rowAll (size_hashA _),?_⟩⟩
    ·obtain ⟨i,hi,hz,hs,hbt⟩:=info_of info_slU8
     refine ⟨_,run_slice3 und_slSl hi _ hlc,_,_,_,rfl,?_⟩
     rintro d w9 ⟨rfl,rfl⟩
     have M89:=Mod.alloc (S:=NoB) w8 (.cells #[.slice o5 more.length c5] 23)
     have B9:=Blk.new w8 23 #[.slice o5 more.length c5]
     have M9:=M8.none_trans M89
     obtain ⟨o10,k10,w10,h10,M10,R10⟩:=more_ls (R8.mod' M89) B9 (hmore.mod' M9) hmk (by omega)
     refine ⟨_,w10,h10,_,_,_,rfl,_,((H8.mod' M89).mod' M10).rowAll (size_hashA _),?_⟩
     have M010:=M9.none_trans M10
     refine (Takes_calls w10 (root:=rootOf n) (length_sumOf _) (hkey.mod' M010) R10.rd).mono ?_
     rintro _ w11 ⟨rfl,M11⟩
     exact ⟨_,rfl,rfl,M010.none_trans M11⟩
    ·refine (Takes_calls w8 (root:=rootOf n) (length_sumOf _) (hkey.mod' M8) R8.rd).mono ?_
     rintro _ w11 ⟨rfl,M11⟩
     exact ⟨_,rfl,rfl,M8.none_trans M11⟩
end Go.Proofs.YtfghidehlnfdiaaGreat
end
