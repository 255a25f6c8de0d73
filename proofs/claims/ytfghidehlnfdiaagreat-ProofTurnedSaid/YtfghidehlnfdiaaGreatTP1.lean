/- Contracts: Little; the hash out of a sponge. -/
/- Contracts: the program's hash of lists. -/
/- The document's sponge is ours. -/
/- Contract: the document's hash. -/
/- Equality of arrays of numbers. -/
/- Arguments: what a reading tells of the value. -/
/- Coloured heaps: each block has a colour, and a step says which colours it may change. -/
/- Maps: what a map's block holds, read, written, gone through. -/
/- Tries as plain Lean: items, nodes, paths. -/
/- Tries as plain Lean: there is but one canonical trie of a map. -/
/- Tries as plain Lean: what putting does. -/
/- Tries as plain Lean: what taking away does. -/
/- Rows that a call makes anew: copied, appended to, and handed on; rows of cells that are only read. -/
/- Bytes as strings; slices that are made. -/
/- Contracts: bytes that are made anew; nibbles; packed paths. -/
import Derived.Test.YtfghidehlnfdiaaGreatKC7
import Derived.Laws.StructEq
import Derived.ProofKit
import Derived.OpenShut
import Derived.ShutString
import Derived.ChangeOld
import Derived.Below
import Derived.Carry
import Derived.Maps.Range
import Derived.DeepKeys4
import Derived.StringKeys
import Derived.Test.YtfghidehlnfdiaaGreatXFun
import Derived.Laws.BytesString
import Derived.Laws.MakeOwn
import Derived.Test.YtfghidehlnfdiaaGreatXMem
set_option linter.unusedVariables false
set_option linter.unusedSimpArgs false
section
namespace Go.Proofs.YtfghidehlnfdiaaGreat
open Go Go.Vcg

theorem Little_calls {w:World} {o:Option Addr} {l c:Nat} {bs:List UInt8} {n1 n2:Int} (x:BitVec 64) (k:Nat) (h1:n1=uI x) (h2:n2=(k:Int)) (hk:k≤8) (hO:Own w tU8 1 o l c (bs.map bV)) (hl:l≤2 ^ 40) :
 Calls Tryz.prog plain_Little.n #[.slice o l c,.int .u64 n1,.int .i64 n2] w (fun e w'=>∃o' c',e=.returned (.slice o' (l+k) c')∧Own w' tU8 1 o' (l+k) c' ((bs++leL x k).map bV)∧Vcg.Mod (OB o) w w'∧∀i,OB o' i→OB o i∨w.heap.size≤i):=by
 subst h1 h2
 refine plain_Little.vc _ _ _ _ _ _ _ ?_
 unfold plain_Little.Vc
 refine ⟨fun o' l' c' n w'=>∃i:Nat,n=i∧i≤k∧l'=l+i∧Own w' tU8 1 o' l' c' ((bs++leL x i).map bV)∧Vcg.Mod (OB o) w w'∧∀i,OB o' i→OB o i∨w.heap.size≤i,
  fun _ _ _ n _=>((k:Int) - n).toNat,⟨0,rfl,by omega,rfl,by simpa [leL] using hO,Mod.refl w,fun i h=>.inl h⟩,?_⟩
 rintro o' _ c' _ _ w1 ⟨i,rfl,hi,rfl,hO1,M1,hF⟩
 refine ⟨fun hlt=>?_,fun hge=>?_⟩
 ·have e1:IntKind.wrap .i64 (8 * (i:Int))=((8 * i:Nat):Int):=by rw [wrap_i64_small (by omega) (by omega)]; omega
  rw [e1,shrI_u _ _ _ rfl,wrap_u8_word]
  refine ⟨by omega,?_⟩
  rintro d7 w8 ⟨rfl,rfl⟩
  have hB:=Blk.new w1 tU8 #[bV (leByte x i)]
  have hO2:=hO1.mod' (Mod.alloc w1 (.cells #[bV (leByte x i)] tU8))
  have hsrc:=src_one (P:=Tryz.prog) (tx:=tSlU8) und_slU8 hB (sz:=1) rfl (by intro v hv; simp at hv; subst hv; rfl)
  obtain ⟨o2,c2,w2,h2,hO3,M2,hF2⟩:=append_u8 (ty:=tSlU8) hO2 hsrc (by omega)
  refine ⟨_,w2,h2,_,_,_,rfl,⟨i+1,by rw [wrap_i64_small (by omega) (by omega)]; omega,by omega,rfl,?_,?_,?_⟩,by dsimp only; rw [wrap_i64_small (by omega) (by omega)]; omega⟩
  ·rw [leL_succ,← List.append_assoc,List.map_append]
   exact hO3
  ·exact (M1.step_alloc _).trans M2 (fun j hj h=>(hF j h).elim id (fun h=>by omega))
  ·intro j hj
   rcases hF2 j hj with h | h
   ·exact hF j h
   ·right; rw [size_alloc] at h; have:=M1.size; omega
 ·obtain rfl:i=k:=by omega
  exact ⟨o',c',rfl,hO1,M1,hF⟩

theorem or_u8 (a:UInt8):bitsI .or .u8 (a.toNat:Int) 128=((a ||| 128:UInt8).toNat:Int):=bitsI_or_u8 a 128
theorem hashA_one (h:List UInt8):∀v∈(hashA h).toList,v.oneCell'=true:=arrOf_one (fun _=>rfl)
theorem size_hashA (h:List UInt8):(hashA h).size=32:=size_arrOf _ _

theorem out_tail {w w1:World} {s:St} {Q N:Nat} {R:Ending→World→Prop} (M:Vcg.Mod NoB w w1) (hN:w.heap.size=N)
 (B0:Blk w1 N tHash (Array.replicate 32 (.int .u8 0))) (BQ:Blk w1 Q tState (lanesA s)) (hQ:N < Q)
 (hR:∀w',Vcg.Mod NoB w w'→R (.returned (.agg (arrOf 32 (fun i=>bV (outAt s i))))) w') :
 ∀(d23:Addr) (w24:World),IsNew w1 tHash (Array.replicate 32 (.int .u8 0)) d23 w24 →
  ∃(I25:Int→World→Prop) (μ25:Int→World→Nat),I25 0 w24 ∧
  (∀(n26:Int) (j27:Nat→Value) (w27:World),I25 n26 w27 →
    (((n26 < 4 →
      ∀w28:World,IsDrew w27 w28 →
      (0≤(IntKind.wrap .i64 (8 * n26))∧(IntKind.wrap .i64 (8 * n26))≤((32:Nat):Int)) ∧
      (0≤n26∧n26 < ((25:Nat):Int)) ∧
      ∃n29:Int,World.cell? w28 (Addr.add ⟨Q,0,none⟩ (Int.toNat n26))=some (.int .u64 n29) ∧
      Calls Tryz.prog plain_Little.n #[(.slice none 0 0),(.int .u64 n29),(.int .i64 8)] w28 (fun e30 w31 =>
       ∃o32:Option Addr,∃l33:Nat,∃l34:Nat,e30=.returned (.slice o32 l33 l34) ∧
       ∃(v35:Value) (w36:World),Sem.run Tryz.prog (builtinV .copy #[tSlU8,tSlU8] 3 #[(.slice (some (subD d23 32 (Int.toNat (IntKind.wrap .i64 (8 * n26))) 1)) (32 - (Int.toNat (IntKind.wrap .i64 (8 * n26)))) (32 - (Int.toNat (IntKind.wrap .i64 (8 * n26))))),(.slice o32 l33 l34)]) w31=.ok v35 w36 ∧
       ∃n37:Int,v35=(.int .i64 n37) ∧
       I25 (IntKind.wrap .i64 (n26+1)) w36∧μ25 (IntKind.wrap .i64 (n26+1)) w36 < μ25 n26 w27))) ∧
     ((¬n26 < 4 →
      ∃L38:Array Value,RowAt w27 d23 32 L38 ∧
      ∃w39:World,Sem.run Tryz.prog (Instr.storeAt tHash (.pointer (some ⟨N,0,none⟩)) (.agg L38)) w27=.ok () w39 ∧
      ∃L40:Array Value,RowAt w39 ⟨N,0,none⟩ 32 L40 ∧
      R (.returned (.agg L40)) w39)))):=by
 rintro d23 w24 ⟨rfl,rfl⟩
 have hQl:=BQ.lt
 have BT:=Blk.new w1 tHash (Array.replicate 32 (.int .u8 0))
 replace B0:=B0.alloc (.cells (Array.replicate 32 (.int .u8 0)) tHash)
 replace BQ:=BQ.alloc (.cells (Array.replicate 32 (.int .u8 0)) tHash)
 replace M:=M.step_alloc (.cells (Array.replicate 32 (.int .u8 0)) tHash)
 generalize w1.alloc (.cells (Array.replicate 32 (.int .u8 0)) tHash)=w2 at *
 generalize w1.heap.size=T at *
 refine loopN 4 (fun i w'=>Vcg.Mod NoB w w'∧Blk w' N tHash (Array.replicate 32 (.int .u8 0))∧Blk w' Q tState (lanesA s)∧Blk w' T tHash (arrOf 32 (fun j=>bV (if j < 8 * i then outAt s j else 0)))) rfl
  ⟨M,B0,BQ,by rw [replicate_arrOf] at BT; simp only [Nat.mul_zero,Nat.not_lt_zero,if_false]; exact BT⟩ ?_ ?_
 ·clear M B0 BQ BT
  rintro i _ w3 hi ⟨M,B0,BQ,BT⟩
  rintro _ rfl
  have e1:IntKind.wrap .i64 (8 * (i:Int))=((8 * i:Nat):Int):=by rw [wrap_i64_small (by omega) (by omega)]; omega
  rw [e1]
  refine ⟨by omega,by omega,_,BQ.drew.rd0 (get_lanesA _ (by omega)),(Little_calls (bs:=[]) (s i) 8 rfl rfl (by omega) (Own.nil _ _ _) (by omega)).mono ?_⟩
  rintro _ w4 ⟨o4,c4,rfl,hO4,M4,hF4⟩
  have M4':Vcg.Mod NoB w3.drew w4:=M4.mono (fun k _ h=>OB_none k h)
  have BT4:=BT.drew.mod' M4'
  obtain ⟨w5,h5,BT5,M5⟩:=copy_blk (P:=Tryz.prog) (tx:=tSlU8) (ty:=3) (o:=8 * i) (dLen:=32 - 8 * i) (dCap:=32 - 8 * i) (c:=c4) (n:=8) und_slU8 info_u8_size BT4 hO4.bytes
   (by rw [List.nil_append,length_leL]; exact (Nat.min_eq_left (by omega)).symm) (by rw [size_arrOf]; omega)
  rw [List.nil_append,length_leL] at h5
  rw [Int.toNat_natCast (8 * i),subD,if_neg (by omega),add_at,Nat.mul_one,Nat.zero_add (8 * i)]
  refine ⟨_,_,_,rfl,_,w5,h5,_,rfl,UpTo.next (by rw [wrap_i64_small (by omega) (by omega)]; omega) hi ⟨((M.step_drew).none_trans M4').trans M5 (fun j hj h=>by simp only [hN] at hj; omega),(B0.drew.mod' M4').mod M5 (by omega),(BQ.drew.mod' M4').mod M5 (by omega),?_⟩⟩
  rw [List.nil_append,List.take_of_length_le (by rw [length_leL]; omega),setsAt_arrOf 32 (8 * i) _ (fun j=>bV (leByte (s i) j)) 8 _ (by rw [List.length_map,length_leL]) (fun j hj=>by
   rw [map_bV_get (by rw [length_leL]; exact hj)]
   simp [leL,List.getD_eq_getElem?_getD,hj]) (by omega)] at BT5
  refine (show _=arrOf 32 (fun j=>bV (if j < 8 * (i+1) then outAt s j else 0)) from arrOf_congr (fun j hj=>?_)) ▸ BT5
  by_cases h1:8 * i≤j∧j < 8 * i+8
  ·rw [if_pos h1,if_pos (by omega),outAt,leByte,show j / 8=i by omega,show j % 8=j - 8 * i by omega]
  ·rw [if_neg h1]
   by_cases h2:j < 8 * i
   ·rw [if_pos h2,if_pos (by omega)]
   ·rw [if_neg h2,if_neg (by omega)]
 ·clear M B0 BQ BT
  rintro _ w3 ⟨M,B0,BQ,BT⟩
  have e:arrOf 32 (fun j=>bV (if j < 8 * 4 then outAt s j else 0))=arrOf 32 (fun i=>bV (outAt s i)):=arrOf_congr (fun i hi=>by rw [if_pos (by omega)])
  rw [e] at BT
  exact ⟨_,BT.rowAll (size_arrOf _ _),_,B0.storeAll (L:=arrOf 32 (fun i=>bV (outAt s i))) (by rw [size_arrOf]; kernel_rfl) (by rw [size_arrOf,Array.size_replicate]) (arrOf_one (fun _=>rfl)),_,(B0.row_same _).rowAll (size_arrOf _ _),hR _ (M.step_row (fun h=>by omega))⟩

set_option maxRecDepth 20000 in
theorem SpSum_calls {w:World} {b:Nat} {o:Option Addr} {m:List UInt8} (hS:SpongeAt w b o m) :
 Calls Tryz.prog keccak_Sponge_Sum.n #[.pointer (some ⟨b,0,none⟩)] w (fun e w'=>e=.returned (.agg (hashA (sumOf m)))∧Vcg.Mod NoB w w'):=by
 obtain ⟨l,c,hB,hO,hn⟩:=hS
 refine keccak_Sponge_Sum.vc _ _ _ ?_
 unfold keccak_Sponge_Sum.Vc
 simp only [add_at,Nat.zero_add]
 rintro d1 w2 ⟨rfl,rfl⟩ d3 w4 ⟨rfl,rfl⟩ _ rfl
 have hbl:=hB.lt
 have B1:=((Blk.new w tHash (Array.replicate 32 (.int .u8 0))).alloc (.cells (Array.replicate 136 (.int .u8 0)) tLast)).drew
 have B3:=(Blk.new (w.alloc (.cells (Array.replicate 32 (.int .u8 0)) tHash)) tLast (Array.replicate 136 (.int .u8 0))).drew
 have M:=((Mod.alloc (S:=NoB) w (.cells (Array.replicate 32 (.int .u8 0)) tHash)).step_alloc (.cells (Array.replicate 136 (.int .u8 0)) tLast)).step_drew
 have hB1:=hB.mod' M
 have hO1:=hO.mod' M
 simp only [size_alloc] at B3 ⊢
 generalize ((w.alloc (.cells (Array.replicate 32 (.int .u8 0)) tHash)).alloc (.cells (Array.replicate 136 (.int .u8 0)) tLast)).drew=w5 at *
 generalize hNe:w.heap.size=N at *
 have hrl:(restOf m).length=l:=by have:=hO.len; simpa using this
 have hlt:=restOf_lt m
 obtain ⟨w6,h6,B6,M6⟩:=copy_blk (P:=Tryz.prog) (tx:=tSlU8) (ty:=3) (o:=0) (dLen:=136) (dCap:=136) (c:=c) (n:=(restOf m).length) und_slU8 info_u8_size B3 hO1.bytes
  (Nat.min_eq_left (by omega)).symm (by rw [Array.size_replicate]; omega)
 rw [List.take_of_length_le (Nat.le_refl _),replicate_arrOf,setsAt_arrOf 136 0 _ (fun j=>bV ((restOf m).getD j 0)) (restOf m).length _ (by rw [List.length_map]) (fun j hj=>map_bV_get hj) (by omega)] at B6
 rw [hrl] at h6 B6
 refine ⟨_,_,_,rest_of_sponge hB1,_,w6,h6,_,rfl,by omega,B6.canSet0 (by rw [size_arrOf]; omega) rfl,fun w7 h7=>?_⟩
 have h7':=h7.at
 subst h7'
 clear h7
 simp only [add_at,Nat.zero_add]
 have B7:=B6.set l (bV 1)
 rw [set_arrOf] at B7
 have M7:=M6.trans (Mod.setCell w6 ⟨N+1,l,none⟩ (.int .u8 1)) (fun i _ h=>h)
 have e7:(arrOf 136 fun j=>if j=l then bV 1 else if 0≤j∧j < 0+l then bV ((restOf m).getD (j - 0) 0) else .int .u8 0)=arrOf 136 (fun j=>bV (if j < l then (restOf m).getD j 0 else if j=l then 1 else 0)) :=
  arrOf_congr (fun j hj=>by
   by_cases h1:j=l
   ·rw [if_pos h1,if_neg (by omega),if_pos h1]
   ·rw [if_neg h1]
    by_cases h2:j < l
    ·rw [if_pos (by omega),if_pos h2,Nat.sub_zero]
    ·rw [if_neg (by omega),if_neg h2,if_neg h1]; rfl)
 rw [e7] at B7
 refine ⟨_,B7.rd1 (get_arrOf_lt (by omega)),B7.canSet (by rw [size_arrOf]; omega) rfl,?_⟩
 rintro _ rfl
 rw [or_u8]
 have B8:=B7.set 135 (bV ((if 135 < l then (restOf m).getD 135 0 else if 135=l then 1 else 0) ||| 128))
 rw [set_arrOf] at B8
 have e8:(arrOf 136 fun j=>if j=135 then bV ((if 135 < l then (restOf m).getD 135 0 else if 135=l then 1 else 0) ||| 128) else bV (if j < l then (restOf m).getD j 0 else if j=l then 1 else 0))=arrOf 136 (fun j=>bV (padAt (restOf m) j)) :=
  arrOf_congr (fun j hj=>by
   unfold padAt
   rw [hrl]
   by_cases h1:j=135
   ·subst h1; rw [if_pos rfl,if_pos rfl]
   ·rw [if_neg h1,if_neg h1]; congr 2; simp)
 rw [e8] at B8
 change Blk ((w6.setCell ⟨N+1,l,none⟩ (.int .u8 1)).setCell ⟨N+1,135,none⟩ (bV ((if 135 < l then (restOf m).getD 135 0 else if 135=l then 1 else 0) ||| 128))) _ _ _ at B8
 have M8:=M7.trans (Mod.setCell _ ⟨N+1,135,none⟩ (bV ((if 135 < l then (restOf m).getD 135 0 else if 135=l then 1 else 0) ||| 128))) (fun i _ h=>h)
 have hq:N < w5.heap.size:=B1.lt
 have hq3:N+1 < w5.heap.size:=B3.lt
 have B18:=B1.mod M8 (by omega)
 have hB8:=hB1.mod M8 (by omega)
 have Mw8:=M.trans M8 (fun i hi h=>by simp only [hNe] at hi; omega)
 have hs8:=M8.size
 generalize ((w6.setCell ⟨N+1,l,none⟩ (.int .u8 1)).setCell ⟨N+1,135,none⟩ (bV ((if 135 < l then (restOf m).getD 135 0 else if 135=l then 1 else 0) ||| 128)))=w8 at *
 have hlast:∀w',Blk w' (N+1) tLast (arrOf 136 (fun j=>bV (padAt (restOf m) j)))→RdB w' (some ⟨N+1,0,none⟩) (padB (restOf m)):=fun w' h =>
  RdB.of_blk h (fun i hi=>by rw [length_padB] at hi; rw [Nat.zero_add,get_arrOf_lt hi,getD_padB _ hi])
 have hfin:∀w',Vcg.Mod NoB w w'→(fun e w'=>e=Ending.returned (.agg (hashA (sumOf m)))∧Vcg.Mod NoB w w') (.returned (.agg (arrOf 32 (fun i=>bV (outAt (lastS m) i))))) w':=fun w' h=>by
  refine ⟨?_,h⟩
  have:hashA (sumOf m)=arrOf 32 (fun i=>bV (outAt (lastS m) i)):=arrOf_congr (fun i hi=>by rw [getD_sumOf m hi])
  rw [this]
 rintro _ rfl
 refine ⟨_,lanes_of_sponge hB8.drew,?_,?_⟩
 ·refine (absorb_calls (stOf m) b 0 (plan_of_sponge hB8.drew) (padB (restOf m)) (length_padB _) rfl (Nat.le_refl _) (hlast _ B8.drew)).mono ?_
  rintro _ w9 ⟨rfl,M9⟩
  refine ⟨_,rfl,?_⟩
  rintro d20 w21 ⟨rfl,rfl⟩
  have BQ:=Blk.new w9 tState (Array.replicate 25 (.int .u64 0))
  have hs9:=M9.size
  have hs9':=(B18.drew.mod' M9).lt
  refine ⟨_,BQ.storeAll (L:=lanesA (lastS m)) (by rw [size_lanesA]; kernel_rfl) (by rw [size_lanesA,Array.size_replicate]) (lanesA_one _),?_⟩
  exact out_tail (s:=lastS m) (R:=fun e w'=>e=Ending.returned (.agg (hashA (sumOf m)))∧Vcg.Mod NoB w w') (((Mw8.step_drew).none_trans M9).step_alloc _ |>.step_row (fun h=>by omega)) hNe (((B18.drew.mod' M9).alloc _).row_ne (by omega)) (BQ.row_same _) (by omega) hfin
 ·rintro d41 w42 ⟨rfl,rfl⟩
  have BQ:=Blk.new w8.drew tState (Array.replicate 25 (.int .u64 0))
  have hB9:=hB8.drew.alloc (.cells (Array.replicate 25 (.int .u64 0)) tState)
  refine ⟨lanes_of_sponge hB9,(absorb_calls (stOf m) b 0 (plan_of_sponge hB9) (padB (restOf m)) (length_padB _) rfl (Nat.le_refl _) (hlast _ (B8.drew.alloc _))).mono ?_⟩
  rintro _ w9 ⟨rfl,M9⟩
  have hs9':=(B18.drew).lt
  refine ⟨_,rfl,_,(BQ.mod' M9).storeAll (L:=lanesA (lastS m)) (by rw [size_lanesA]; kernel_rfl) (by rw [size_lanesA,Array.size_replicate]) (lanesA_one _),?_⟩
  have hsz:w8.drew.heap.size=w8.heap.size:=rfl
  exact out_tail (s:=lastS m) (R:=fun e w'=>e=Ending.returned (.agg (hashA (sumOf m)))∧Vcg.Mod NoB w w') ((((Mw8.step_drew).step_alloc _).none_trans M9).step_row (fun h=>by omega)) hNe (((B18.drew.alloc _).mod' M9).row_ne (by omega)) ((BQ.mod' M9).row_same _) (by omega) hfin

end Go.Proofs.YtfghidehlnfdiaaGreat
end
section
namespace Go.Proofs.YtfghidehlnfdiaaGreat
open Go Go.Vcg

theorem Sum_calls {w:World} {o0:Option Addr} {l0 c0:Nat} (ls:List (List UInt8)) (hl:l0=ls.length) (hl0:l0≤2 ^ 40) (hr:RdBB w o0 ls) (hmax:∀b∈ls,b.length≤2 ^ 40) :
 Calls Tryz.prog keccak_Sum.n #[.slice o0 l0 c0] w (fun e w'=>e=.returned (.agg (hashA (sumOf ls.flatten)))∧Vcg.Mod NoB w w'):=by
 subst hl
 refine keccak_Sum.vc _ _ _ _ _ ?_
 unfold keccak_Sum.Vc
 rintro d1 w2 ⟨rfl,rfl⟩
 have B1:=Blk.new w tHash (Array.replicate 32 (.int .u8 0))
 have M:=Mod.alloc (S:=NoB) w (.cells (Array.replicate 32 (.int .u8 0)) tHash)
 refine (New_calls _).mono ?_
 rintro _ w3 ⟨b,rfl,hS,M3,hb⟩
 rw [size_alloc] at hb
 have B1':=B1.mod' M3
 have M':=M.none_trans M3
 refine ⟨_,rfl,?_⟩
 refine loopN ls.length (fun i w'=>Vcg.Mod NoB w w'∧Blk w' w.heap.size tHash (Array.replicate 32 (.int .u8 0))∧∃o,SpongeAt w' b o (ls.take i).flatten∧∀k,SpB b o k→w.heap.size < k) rfl
  ⟨M',B1',none,hS,fun k hk=>hk.elim (fun h=>by omega) (fun h=>(OB_none k h).elim)⟩ ?_ ?_
 ·rintro i _ w4 hi ⟨M4,B4,o,hS4,hF⟩
  obtain ⟨bb,f,oi,ci,rfl,hbl,hc,hri⟩:=(hr.mod' M4) i hi
  refine ⟨_,rfl,by omega,_,_,_,by rw [add_at,Int.toNat_natCast]; exact hc,?_⟩
  refine (Write_calls hS4 hri rfl (hmax _ (by simp [List.getD_eq_getElem?_getD,hi]))).mono ?_
  rintro _ w5 ⟨rfl,o',hS5,M5,hF5⟩
  refine ⟨rfl,UpTo.next (by rw [wrap_i64_small (by omega) (by omega)]; omega) hi ⟨M4.trans M5 (fun k hk h=>by have:=hF k h; omega),B4.mod M5 (fun h=>by have:=hF _ h; omega),o',?_,?_⟩⟩
  ·rw [flatten_take_succ _ _ hi]; exact hS5
  ·intro k hk
   have hs:=M4.size
   rcases hk with rfl | hk
   ·exact hF _ (.inl rfl)
   ·rcases hF5 k hk with h | h
    ·exact hF _ (.inr h)
    ·have:=B4.lt; omega
 ·rintro _ w4 ⟨M4,B4,o,hS4,hF⟩
  rw [List.take_length] at hS4
  refine (SpSum_calls hS4).mono ?_
  rintro _ w5 ⟨rfl,M5⟩
  exact ⟨_,rfl,_,(B4.mod' M5).storeAll (L:=hashA (sumOf ls.flatten)) (by rw [size_hashA]; kernel_rfl) (by rw [size_hashA,Array.size_replicate]) (hashA_one _),_,((B4.mod' M5).row_same _).rowAll (size_hashA _),rfl,(M4.none_trans M5).step_row (fun h=>by omega)⟩

end Go.Proofs.YtfghidehlnfdiaaGreat
end
section
namespace Go.Vcg

theorem leK_high (bs:List UInt8):∀(k i:Nat),8 * k≤i→(leK bs k).getLsbD i=false
 | 0,i,_=>by simp [leK]
 | k+1,i,h=>by
   rw [leK,BitVec.getLsbD_or,leK_high bs k i (by omega),BitVec.getLsbD_shiftLeft,byteW,BitVec.getLsbD_setWidth]
   have:(bs.getD k 0).toBitVec.getLsbD (i - 8 * k)=false:=BitVec.getLsbD_of_ge _ _ (by omega)
   rw [this]
   simp
theorem or_xor (bs:List UInt8) (k:Nat) (b:UInt8):leK bs k ||| (byteW b <<< (8 * k))=leK bs k ^^^ (byteW b <<< (8 * k)):=by
 apply BitVec.eq_of_getLsbD_eq
 intro i hi
 rw [BitVec.getLsbD_or,BitVec.getLsbD_xor,BitVec.getLsbD_shiftLeft]
 by_cases h:i < 8 * k
 ·simp [h]
 ·rw [leK_high bs k i (by omega)]; simp

def xorP (s:St) (c:Nat→UInt8):Nat→St
 | 0=>s
 | i+1=>fun j=>if j=i / 8 then xorP s c i j ^^^ (byteW (c i) <<< (8 * (i % 8))) else xorP s c i j
def lxK (c:Nat→UInt8):Nat→BitVec 64
 | 0=>0
 | k+1=>lxK c k ^^^ (byteW (c k) <<< (8 * k))
theorem xorP_eq (s:St) (c:Nat→UInt8):∀(i j:Nat),xorP s c i j=s j ^^^ lxK (fun m=>c (8 * j+m)) (Nat.min (i - 8 * j) 8)
 | 0,j=>by simp [xorP,lxK]
 | i+1,j=>by
   rw [xorP]
   by_cases h:j=i / 8
   ·simp only [h,if_true]
    rw [← h,xorP_eq s c i j]
    have e1:Nat.min (i - 8 * j) 8=i % 8:=by show min _ _=_; omega
    have e2:Nat.min (i+1 - 8 * j) 8=i % 8+1:=by show min _ _=_; omega
    rw [e1,e2,lxK,show 8 * j+i % 8=i by omega,BitVec.xor_assoc]
   ·simp only [h,if_false]
    rw [xorP_eq s c i j]
    have e:Nat.min (i - 8 * j) 8=Nat.min (i+1 - 8 * j) 8:=by show min _ _=min _ _; omega
    rw [e]
theorem leK_lxK (bs:List UInt8) (c:Nat→UInt8):∀k,(∀m,m < k→bs.getD m 0=c m)→leK bs k=lxK c k
 | 0,_=>rfl
 | k+1,h=>by rw [leK,or_xor,lxK,leK_lxK bs c k (fun m hm=>h m (by omega)),h k (by omega)]
theorem xorP_xorB (s:St) (c:Nat→UInt8) (j:Nat) (hj:j < 25):xorP s c 136 j=xorB s ((List.range 136).map c) j:=by
 rw [xorP_eq,xorB]
 by_cases h:j < 17
 ·rw [if_pos h]
  have e:Nat.min (136 - 8 * j) 8=8:=by show min _ _=_; omega
  have hl:((((List.range 136).map c).drop (8 * j)).take 8).length=8:=by rw [List.length_take,List.length_drop,List.length_map,List.length_range]; omega
  rw [e,leWord,hl]
  congr 1
  symm
  refine leK_lxK _ _ 8 (fun m hm=>?_)
  rw [List.getD_eq_getElem?_getD,List.getElem?_take_of_lt hm,List.getElem?_drop,List.getElem?_map,List.getElem?_range (by omega)]
  rfl
 ·rw [if_neg h]
  have e:Nat.min (136 - 8 * j) 8=0:=by show min _ _=_; omega
  rw [e,lxK]; simp

def cAt (m:List UInt8) (k i:Nat):UInt8:=(if 136 * k+i < m.length then m.getD (136 * k+i) 0 else if 136 * k+i=m.length then 1 else 0) ||| (if i=135∧m.length < 136 * k+136 then 128 else 0)
def refSt (m:List UInt8):Nat→St
 | 0=>zeroS
 | k+1=>absorbB (refSt m k) ((List.range 136).map (cAt m k))
theorem cAt_full (m:List UInt8) (k:Nat) (h:136 * k+136≤m.length):(List.range 136).map (cAt m k)=(m.drop (136 * k)).take 136:=by
 apply List.ext_getElem?
 intro i
 by_cases hi:i < 136
 ·rw [List.getElem?_map,List.getElem?_range hi,List.getElem?_take_of_lt hi,List.getElem?_drop]
  simp only [Option.map_some,cAt]
  rw [if_pos (by omega),if_neg (by omega),List.getElem?_eq_getElem (by omega)]
  simp [List.getD_eq_getElem?_getD,show 136 * k+i < m.length by omega]
 ·rw [List.getElem?_eq_none (by simp; omega),List.getElem?_eq_none (by simp; omega)]
theorem cAt_last (m:List UInt8):(List.range 136).map (cAt m (m.length / 136))=padB (restOf m):=by
 refine List.map_congr_left (fun i hi=>?_)
 have hi':i < 136:=List.mem_range.1 hi
 have hl:=length_restOf m
 simp only [cAt,padAt]
 have e1:(if i=135∧m.length < 136 * (m.length / 136)+136 then (128:UInt8) else 0)=(if i=135 then 128 else 0):=by
  by_cases h:i=135
  ·rw [if_pos ⟨h,by omega⟩,if_pos h]
  ·rw [if_neg (fun g=>h g.1),if_neg h]
 rw [e1]
 congr 1
 by_cases h1:i < (restOf m).length
 ·rw [if_pos (by omega),if_pos h1,restOf]
  simp only [List.getD_eq_getElem?_getD,List.getElem?_drop]
 ·rw [if_neg (by omega),if_neg h1]
  by_cases h2:i=(restOf m).length
  ·rw [if_pos (by omega),if_pos h2]
  ·rw [if_neg (by omega),if_neg h2]
theorem refSt_eq (m:List UInt8):∀k,k≤m.length / 136→refSt m k=eatK zeroS m k
 | 0,_=>rfl
 | k+1,h=>by rw [refSt,refSt_eq m k (by omega),cAt_full m k (by omega),eatK]
theorem refSt_last (m:List UInt8):refSt m (m.length / 136+1)=lastS m:=by
 rw [refSt,refSt_eq m _ (Nat.le_refl _),cAt_last,lastS,stOf]

end Go.Vcg
end
section
namespace Go.Proofs.YtfghidehlnfdiaaGreat
open Go Go.Vcg

theorem or1 (w:World) (x y:Operand):Sem.run Tryz.prog (semBin .or tU8 x y (.int .u8 1) (.int .u8 128)) w=.ok (.int .u8 129) w:=by rfl
theorem or0 (w:World) (x y:Operand):Sem.run Tryz.prog (semBin .or tU8 x y (.int .u8 0) (.int .u8 128)) w=.ok (.int .u8 128) w:=by rfl
theorem word_byte (b:UInt8):IntKind.wrap .u64 (b.toNat:Int)=uI (byteW b):=by rw [← uI_byteW,wrap_uI]

theorem refSum_calls {w:World} {o0:Option Addr} {l0 c0:Nat} (m:List UInt8) (hl:l0=m.length) (hmax:m.length≤2 ^ 40) (hr:RdB w o0 m) :
 Calls Tryz.prog moraineref3_Sum.n #[.slice o0 l0 c0] w (fun e w'=>e=.returned (.agg (hashA (sumOf m)))∧Vcg.Mod NoB w w'):=by
 subst hl
 refine moraineref3_Sum.vc _ _ _ _ _ ?_
 unfold moraineref3_Sum.Vc
 rintro d1 w2 ⟨rfl,rfl⟩ d3 w4 ⟨rfl,rfl⟩
 have B1:=(Blk.new w tHash (Array.replicate 32 (.int .u8 0))).alloc (.cells (Array.replicate 25 (.int .u64 0)) tLanes)
 have B3:=Blk.new (w.alloc (.cells (Array.replicate 32 (.int .u8 0)) tHash)) tLanes (Array.replicate 25 (.int .u64 0))
 have M:=(Mod.alloc (S:=NoB) w (.cells (Array.replicate 32 (.int .u8 0)) tHash)).step_alloc (.cells (Array.replicate 25 (.int .u64 0)) tLanes)
 simp only [size_alloc] at B3 ⊢
 generalize (w.alloc (.cells (Array.replicate 32 (.int .u8 0)) tHash)).alloc (.cells (Array.replicate 25 (.int .u64 0)) tLanes)=w4 at *
 generalize hNe:w.heap.size=N at *
 refine ⟨fun n w'=>∃k:Nat,n=((136 * k:Nat):Int)∧k≤m.length / 136+1∧Vcg.Mod NoB w w'∧Blk w' N tHash (Array.replicate 32 (.int .u8 0))∧Blk w' (N+1) tLanes (lanesA (refSt m k)),
  fun n _=>((m.length:Int)+136 - n).toNat,⟨0,rfl,by omega,M,B1,by rw [replicate_arrOf] at B3; exact B3⟩,?_⟩
 clear M B1 B3
 rintro _ _ w1 ⟨k,rfl,hk,M,B1,B3⟩
 refine ⟨fun hle=>?_,fun hgt=>?_⟩
 ·have hk':136 * k≤m.length:=by omega
  refine loopN 136 (fun i w'=>Vcg.Mod NoB w w'∧Blk w' N tHash (Array.replicate 32 (.int .u8 0))∧Blk w' (N+1) tLanes (lanesA (xorP (refSt m k) (cAt m k) i))) rfl ⟨M,B1,B3⟩ ?_ ?_
  ·clear M B1 B3
   rintro i _ w10 hi ⟨M,B1,B3⟩
   have eI:IntKind.wrap .i64 (((136 * k:Nat):Int)+(i:Int))=((136 * k+i:Nat):Int):=by rw [wrap_i64_small (by omega) (by omega)]; omega
   have eJ:IntKind.wrap .i64 (((136 * k:Nat):Int)+136)=((136 * k+136:Nat):Int):=by rw [wrap_i64_small (by omega) (by omega)]; omega
   have eq:IntKind.wrap .i64 (Int.tdiv (i:Int) 8)=((i / 8:Nat):Int):=by
    rw [Int.tdiv_eq_ediv_of_nonneg (by omega),wrap_i64_small (by omega) (by omega)]; omega
   have es:IntKind.wrap .i64 (8 * Int.tmod (i:Int) 8)=((8 * (i % 8):Nat):Int):=by
    simp (disch:=omega) only [tmod_nn,wrap_i64_small]; omega
   rw [eI,eJ,eq,es]
   have tail:∀(v:Int),v=uI (byteW (cAt m k i))→∀w13:World,IsDrew w10 w13 →
    (0≤((i / 8:Nat):Int)∧((i / 8:Nat):Int) < ((25:Nat):Int)) ∧
    ∃n14:Int,World.cell? w13 (Addr.add ⟨N+1,0,none⟩ (Int.toNat ((i / 8:Nat):Int)))=some (.int .u64 n14) ∧
    0≤((8 * (i % 8):Nat):Int) ∧
    (0≤((i / 8:Nat):Int)∧((i / 8:Nat):Int) < ((25:Nat):Int)) ∧
    CanSet w13 (Addr.add ⟨N+1,0,none⟩ (Int.toNat ((i / 8:Nat):Int))) (.int .u64 (bitsI .xor .u64 n14 (shlI .u64 v ((8 * (i % 8):Nat):Int)))) ∧
    ∀w15:World,IsSet w13 (Addr.add ⟨N+1,0,none⟩ (Int.toNat ((i / 8:Nat):Int))) (.int .u64 (bitsI .xor .u64 n14 (shlI .u64 v ((8 * (i % 8):Nat):Int)))) w15 →
    UpTo 136 (fun i w'=>Vcg.Mod NoB w w'∧Blk w' N tHash (Array.replicate 32 (.int .u8 0))∧Blk w' (N+1) tLanes (lanesA (xorP (refSt m k) (cAt m k) i))) (IntKind.wrap .i64 ((i:Int)+1)) w15 ∧
     Vcg.Left 136 (IntKind.wrap .i64 ((i:Int)+1)) w15 < Vcg.Left 136 (i:Int) w10:=by
    rintro v rfl _ rfl
    refine ⟨by omega,_,B3.drew.rd0 (get_lanesA _ (by omega)),by omega,by omega,B3.drew.canSet0 (by rw [size_lanesA]; omega) rfl,fun w15 h15=>?_⟩
    rw [h15.at,shlI_u,bitsI_xor]
    refine UpTo.next (by rw [wrap_i64_small (by omega) (by omega)]; omega) hi ⟨(M.step_drew).step_set (fun h=>by simp only [hNe] at h; omega),B1.drew.set_ne (by simp),?_⟩
    have:=B3.drew.set (i / 8) (uV (xorP (refSt m k) (cAt m k) i (i / 8) ^^^ (byteW (cAt m k i) <<< (8 * (i % 8)))))
    rw [lanesA,set_arrOf] at this
    refine (show _=lanesA (xorP (refSt m k) (cAt m k) (i+1)) from arrOf_congr (fun j hj=>?_)) ▸ this
    rw [xorP]
    by_cases h:j=i / 8
    ·simp only [h,if_true]
    ·simp only [h,if_false]
   have c128:∀x:UInt8,IntKind.wrap .u64 (bitsI .or .u8 (x.toNat:Int) 128)=uI (byteW (x ||| 128)):=fun x=>by rw [show (128:Int)=((128:UInt8).toNat:Int) from rfl,bitsI_or_u8,word_byte]
   have z:∀x:UInt8,x ||| 0=x:=fun x=>by simp
   refine ⟨fun hin=>?_,fun hout=>?_⟩
   ·obtain ⟨d,rfl,hd⟩:=(hr.mod' M).get (i:=136 * k+i) (by omega)
    refine ⟨d,rfl,by omega,_,hd,fun h135=>⟨fun hg=>?_,fun hg=>?_⟩,fun h135=>?_⟩
    ·refine tail _ ?_
     rw [c128,cAt,if_pos (by omega),if_pos (by omega)]
    ·refine tail _ ?_
     rw [word_byte,cAt,if_pos (by omega),if_neg (by omega),z]
    ·refine tail _ ?_
     rw [word_byte,cAt,if_pos (by omega),if_neg (by omega),z]
   ·refine ⟨fun he=>⟨fun h135=>⟨fun hg=>?_,fun hg=>?_⟩,fun h135=>?_⟩,fun he=>⟨fun h135=>⟨fun hg=>?_,fun hg=>?_⟩,fun h135=>?_⟩⟩
    ·refine ⟨_,or1 _ _ _,_,rfl,tail _ ?_⟩
     rw [cAt,if_neg (by omega),if_pos (by omega),if_pos (by omega)]; rfl
    ·refine tail _ ?_
     rw [cAt,if_neg (by omega),if_pos (by omega),if_neg (by omega)]; rfl
    ·refine tail _ ?_
     rw [cAt,if_neg (by omega),if_pos (by omega),if_neg (by omega)]; rfl
    ·refine ⟨_,or0 _ _ _,_,rfl,tail _ ?_⟩
     rw [cAt,if_neg (by omega),if_neg (by omega),if_pos (by omega)]; rfl
    ·refine tail _ ?_
     rw [cAt,if_neg (by omega),if_neg (by omega),if_neg (by omega)]; rfl
    ·refine tail _ ?_
     rw [cAt,if_neg (by omega),if_neg (by omega),if_neg (by omega)]; rfl
  ·clear M B1 B3
   rintro _ w10 ⟨M,B1,B3⟩
   rw [lanesA_congr (fun j hj=>xorP_xorB _ _ j hj)] at B3
   refine ⟨_,B3.rowAll (size_lanesA _),(refPermute_calls _ _).mono ?_⟩
   rintro _ w11 ⟨rfl,M11⟩
   refine ⟨_,rfl,_,(B3.mod' M11).storeAll (L:=lanesA (refSt m (k+1))) (by rw [size_lanesA]; kernel_rfl) (by rw [size_lanesA,size_lanesA]) (lanesA_one _),⟨k+1,by rw [wrap_i64_small (by omega) (by omega)]; omega,by omega,(M.none_trans M11).step_row (fun h=>by omega),(B1.mod' M11).row_ne (by omega),(B3.mod' M11).row_same _⟩,?_⟩
   dsimp only
   rw [wrap_i64_small (by omega) (by omega)]; omega
 ·obtain rfl:k=m.length / 136+1:=by omega
  rw [refSt_last] at B3
  rintro d49 w50 ⟨rfl,rfl⟩
  have hq:N+1 < w1.heap.size:=B3.lt
  have B4:=Blk.new w1 tHash (Array.replicate 32 (.int .u8 0))
  replace B1:=B1.alloc (.cells (Array.replicate 32 (.int .u8 0)) tHash)
  replace B3:=B3.alloc (.cells (Array.replicate 32 (.int .u8 0)) tHash)
  replace M:=M.step_alloc (.cells (Array.replicate 32 (.int .u8 0)) tHash)
  generalize w1.alloc (.cells (Array.replicate 32 (.int .u8 0)) tHash)=w2 at *
  generalize w1.heap.size=T at *
  refine loopN 32 (fun i w'=>Vcg.Mod NoB w w'∧Blk w' N tHash (Array.replicate 32 (.int .u8 0))∧Blk w' (N+1) tLanes (lanesA (lastS m))∧Blk w' T tHash (arrOf 32 (fun j=>bV (if j < i then outAt (lastS m) j else 0)))) rfl
   ⟨M,B1,B3,by rw [replicate_arrOf] at B4; simp only [Nat.not_lt_zero,if_false]; exact B4⟩ ?_ ?_
  ·clear M B1 B3 B4
   rintro i _ w3 hi ⟨M,B1,B3,B4⟩
   have eq:IntKind.wrap .i64 (Int.tdiv (i:Int) 8)=((i / 8:Nat):Int):=by
    rw [Int.tdiv_eq_ediv_of_nonneg (by omega),wrap_i64_small (by omega) (by omega)]; omega
   have es:IntKind.wrap .i64 (8 * Int.tmod (i:Int) 8)=((8 * (i % 8):Nat):Int):=by
    simp (disch:=omega) only [tmod_nn,wrap_i64_small]; omega
   rw [eq,es]
   refine ⟨by omega,_,B3.rd0 (get_lanesA _ (by omega)),by omega,by omega,B4.canSet0 (by rw [size_arrOf]; omega) rfl,fun w15 h15=>?_⟩
   rw [h15.at,shrI_u _ _ _ rfl,wrap_u8_word]
   refine UpTo.next (by rw [wrap_i64_small (by omega) (by omega)]; omega) hi ⟨M.step_set (fun h=>by simp only [hNe] at h; omega),B1.set_ne (by simp; omega),B3.set_ne (by simp; omega),?_⟩
   have:=B4.set i (bV (outAt (lastS m) i))
   rw [set_arrOf] at this
   refine (show _=arrOf 32 (fun j=>bV (if j < i+1 then outAt (lastS m) j else 0)) from arrOf_congr (fun j hj=>?_)) ▸ this
   by_cases h:j=i
   ·rw [if_pos h,if_pos (by omega),h]
   ·rw [if_neg h]
    by_cases h2:j < i
    ·rw [if_pos h2,if_pos (by omega)]
    ·rw [if_neg h2,if_neg (by omega)]
  ·clear M B1 B3 B4
   rintro _ w3 ⟨M,B1,B3,B4⟩
   have e:arrOf 32 (fun j=>bV (if j < 32 then outAt (lastS m) j else 0))=hashA (sumOf m):=arrOf_congr (fun j hj=>by rw [if_pos hj,getD_sumOf m hj])
   rw [e] at B4
   exact ⟨_,B4.rowAll (size_hashA _),_,B1.storeAll (L:=hashA (sumOf m)) (by rw [size_hashA]; kernel_rfl) (by rw [size_hashA,Array.size_replicate]) (hashA_one _),_,(B1.row_same _).rowAll (size_hashA _),rfl,M.step_row (fun h=>by omega)⟩

end Go.Proofs.YtfghidehlnfdiaaGreat
end
section
namespace Go.Vcg

section
variable {P:Program} {w:World} {t e:TypeId} {n:Nat} {k:IntKind}

theorem run_equalIn_arr (d:Nat) (ht:P.underlying t=some (.array n e)) (he:P.underlying e=some (.int k)) (hsz:(P.info? e).map (·.size)=some 1) (f g:Nat→Int) :
 (Op.equalIn (d+2) t (.agg (arrOf n (fun i=>.int k (f i)))) (.agg (arrOf n (fun i=>.int k (g i))))).run P w=.ok (decide (∀i,i < n→f i=g i)) w:=by
 obtain ⟨inf,hi1,hi2⟩:=Option.map_eq_some_iff.1 hsz
 have hs:∀w,(sizeOf e).run P w=.ok 1 w:=fun w=>by simp [sizeOf,typeInfo,hi1,hi2]
 have hall:decide (∀i,i < n→f i=g i)=((List.range' 0 n 1).all fun i=>f i == g i):=by
  rw [Bool.eq_iff_iff]
  simp only [decide_eq_true_eq,List.all_eq_true,List.mem_range'_1,Nat.zero_le,true_and,Nat.zero_add,beq_iff_eq]
 rw [hall,Op.equalIn]
 simp only [Sem.run_bind,run_underlying ht,Result.andThen_ok,hs,Std.Legacy.Range.forIn_eq_forIn_range',Std.Legacy.Range.size,Nat.sub_zero,Nat.add_sub_cancel,Nat.div_one]
 have hl:∀i∈List.range' 0 n 1,i < n:=fun i hi=>by simpa using (List.mem_range'_1.1 hi).2
 generalize List.range' 0 n 1=l at hl ⊢
 induction l with
 | nil=>simp
 | cons i l ih =>
   have hi:i < n:=hl i (by simp)
   have px:∀h:Nat→Int,(part e (arrOf n (fun i=>Value.int k (h i))) (i * 1)).run P w=.ok (.int k (h i)) w:=by
    intro h
    simp only [Nat.mul_one]
    simp [part,isAgg,run_underlying he,get_arrOf_lt hi]
   have pe:(Op.equalIn (d+1) e (.int k (f i)) (.int k (g i))).run P w=.ok (f i == g i) w:=run_equalIn_int w d e k k _ _ he
   simp only [List.forIn_cons,Sem.run_bind,px,pe,Result.andThen_ok,List.all_cons]
   cases hb:(f i == g i)
   ·simp
   ·simp only [Bool.not_true,Bool.false_eq_true,if_false,Sem.run_pure,Result.andThen_ok,Bool.true_and]
    exact ih fun j hj=>hl j (by simp [hj])

theorem semEq_arr (ht:P.underlying t=some (.array n e)) (he:P.underlying e=some (.int k)) (hsz:(P.info? e).map (·.size)=some 1) (hg:P.eqGuardType P.depth t=false) (x y:Operand) (f g:Nat→Int) :
 Sem.run P (semBin .eql t x y (.agg (arrOf n (fun i=>.int k (f i)))) (.agg (arrOf n (fun i=>.int k (g i))))) w=.ok (.bool (decide (∀i,i < n→f i=g i))) w:=by
 have hgd:(eqGuard .eql t x y (.agg (arrOf n (fun i=>.int k (f i)))) (.agg (arrOf n (fun i=>.int k (g i))))).run P w=.ok () w:=by
  have hpg:∀w,Sem.run P program w=.ok P w:=fun w=>rfl
  simp [eqGuard,hpg,hg]
 rw [semBin,Sem.run_bind,hgd,Result.andThen_ok,run_eql_struct,run_equalIn_arr 9998 ht he hsz]
 rfl
theorem semNe_arr (ht:P.underlying t=some (.array n e)) (he:P.underlying e=some (.int k)) (hsz:(P.info? e).map (·.size)=some 1) (hg:P.eqGuardType P.depth t=false) (x y:Operand) (f g:Nat→Int) :
 Sem.run P (semBin .neq t x y (.agg (arrOf n (fun i=>.int k (f i)))) (.agg (arrOf n (fun i=>.int k (g i))))) w=.ok (.bool (!decide (∀i,i < n→f i=g i))) w:=by
 have hgd:(eqGuard .neq t x y (.agg (arrOf n (fun i=>.int k (f i)))) (.agg (arrOf n (fun i=>.int k (g i))))).run P w=.ok () w:=by
  have hpg:∀w,Sem.run P program w=.ok P w:=fun w=>rfl
  simp [eqGuard,hpg,hg]
 rw [semBin,Sem.run_bind,hgd,Result.andThen_ok,run_neq_struct,run_equalIn_arr 9998 ht he hsz]
 rfl
end

theorem convert_same {P:Program} {w:World} {t e:TypeId} {b l c:Nat} {te:TypeId} {cs:Array Value} (ht:P.underlying t=some (.slice e)) (he:P.underlying e=some (.int .u8)) (h:Blk w b te cs) :
 ∃w',Sem.run P (convert t t (.slice (some ⟨b,0,none⟩) l c)) w=.ok (.slice (some ⟨b,0,none⟩) l c) w'∧Mod (·=b) w w'∧∀a,w'.cell? a=w.cell? a:=by
 have hb:w.heap[b]?=some (.cells cs te (0,0)):=h
 refine ⟨w.freeze ⟨b,cs.size,none⟩ 1,?_,?_,?_⟩
 ·have h1:∀w:World,Sem.run P (shape b) w=.ok (w.shape? b) w:=fun w=>rfl
  have h2:∀(a:Addr) (n:Nat) (w:World),Sem.run P (freeze a n) w=.ok () (w.freeze a n):=fun a n w=>rfl
  have h3:w.shape? b=some (te,cs.size):=by simp [World.shape?,hb]
  simp [convert,run_underlying ht,run_underlying he,markStringish,h1,h2,h3]
 ·unfold World.freeze
  rw [if_neg (by decide)]
  exact ⟨rfl,rfl,rfl,by simp,fun k hk hn=>by simp only [Array.getElem?_modify]; rw [if_neg (fun e=>hn e.symm)]⟩
 ·intro a
  unfold World.freeze
  rw [if_neg (by decide)]
  simp only [World.cell?,Array.getElem?_modify]
  by_cases ha:b=a.block
  ·rw [if_pos ha,← ha,hb]; rfl
  ·rw [if_neg ha]

end Go.Vcg
end
section
namespace Go.Vcg
open Go

theorem mapM_all {α β:Type} {f:α→Option β}:∀{l:List α} {ys:List β},l.mapM f=some ys→∀x∈l,∃y,f x=some y
 | [],_,_,x,hx=>by cases hx
 | a :: l,ys,h,x,hx=>by
   rw [List.mapM_cons] at h
   cases ha:f a with
   | none=>simp [ha] at h
   | some b =>
     cases hl:l.mapM f with
     | none=>simp [ha,hl] at h
     | some bs =>
       rcases List.mem_cons.1 hx with rfl | hx
       ·exact ⟨b,ha⟩
       ·exact mapM_all hl x hx

section
variable {H:Type} {enc:TypeId×Value→H} {P:Program} {W:World} {sp:Nat→Bool} {held:Bool} {b0 base:Nat} {r:Reach}

end

section
variable {H:Type} {enc:TypeId×Value→H} {P:Program} {W:World} {sp:Nat→Bool} {held:Bool} {base:Nat}

theorem cells1_some {a:Addr} {vs:List Value} (h:W.cells? base a 1=some vs):∃v,vs=[v]∧W.cell? a=some v:=by
 unfold World.cells? at h
 split at h
 ·simp only [List.range_one,List.mapM_cons,List.mapM_nil] at h
  have e:a.add 0=a:=by simp [Addr.add]
  rw [e] at h
  cases hc:W.cell? a with
  | none=>simp [hc] at h
  | some v=>simp [hc] at h; exact ⟨v,h.symm,rfl⟩
 ·cases h

theorem trod_slice {fuel:Nat} {t e:TypeId} {v:Value} {d:DataW H} {ps:List MemPlace} (ht:P.underlying t=some (.slice e)) (hce:P.cellsOf e=1)
 (h:DataW.trod enc P W base sp held fuel t [v]=some (d,ps)) :
 ∃o l c,v=.slice o l c∧l≤c∧c≤maxLen∧∀i,i < l→∃b f u d' ps' fuel',o=some ⟨b,f,none⟩∧b < W.heap.size∧W.cell? ⟨b,f+i,none⟩=some u∧DataW.trod enc P W base sp held fuel' e [u]=some (d',ps'):=by
 cases fuel with
 | zero=>simp [DataW.trod] at h
 | succ fuel =>
   cases v with
   | slice o l c =>
     cases o with
     | none =>
       have:l=0∧c=0:=by
        rcases l with _ | l <;> rcases c with _ | c <;> simp [DataW.trod,ht] at h ⊢
       obtain ⟨rfl,rfl⟩:=this
       exact ⟨none,0,0,rfl,Nat.le_refl _,Nat.zero_le _,fun i hi=>(Nat.not_lt_zero _ hi).elim⟩
     | some a =>
       simp only [DataW.trod,ht,hce,Nat.mul_one] at h
       split at h
       ·rename_i hc
        refine ⟨some a,l,c,rfl,hc.2.1,hc.2.2,fun i hi=>?_⟩
        obtain ⟨els,hm,_⟩:=Option.bind_eq_some_iff.1 h
        obtain ⟨y,hy⟩:=mapM_all hm i (List.mem_range.2 hi)
        obtain ⟨vs,hv,hd⟩:=Option.bind_eq_some_iff.1 hy
        obtain ⟨u,rfl,hu⟩:=cells1_some hv
        obtain ⟨y0,hy0⟩:=mapM_all hm 0 (List.mem_range.2 (by omega))
        obtain ⟨vs0,hv0,_⟩:=Option.bind_eq_some_iff.1 hy0
        obtain ⟨u0,_,hu0⟩:=cells1_some hv0
        have hspot:a.spot=none:=by
         have e:a.add 0=a:=by simp [Addr.add]
         rw [e] at hu0
         unfold World.cell? at hu0
         cases hs:a.spot with
         | none=>rfl
         | some x =>
           rw [hs] at hu0
           split at hu0 <;> simp at hu0
        obtain ⟨b,f,spot⟩:=a
        simp only at hspot
        subst hspot
        rw [add_at] at hu
        refine ⟨b,f,u,y.1,y.2,fuel,rfl,?_,hu,hd⟩
        unfold World.cell? at hu
        split at hu
        ·rename_i hb; exact (Array.getElem?_eq_some_iff.1 hb).1
        ·cases hu
       ·cases h
   | _=>simp [DataW.trod,ht] at h

theorem trod_u8 {fuel:Nat} {e:TypeId} {u:Value} {d:DataW H} {ps:List MemPlace} (he:P.underlying e=some (.int .u8)) (h:DataW.trod enc P W base sp held fuel e [u]=some (d,ps)):∃x:UInt8,u=bV x:=by
 cases fuel with
 | zero=>simp [DataW.trod] at h
 | succ fuel =>
   simp only [DataW.trod,he] at h
   cases u with
   | int k m =>
     simp only at h
     split at h
     ·rename_i hk
      obtain ⟨rfl,hw⟩:=hk
      simp only [Lit.wf,Bool.and_eq_true,decide_eq_true_eq] at hw
      have h1:IntKind.min .u8=0:=by decide
      have h2:IntKind.max .u8=255:=by decide
      refine ⟨UInt8.ofNat m.toNat,?_⟩
      have:((UInt8.ofNat m.toNat).toNat:Int)=m:=by
       rw [UInt8.toNat_ofNat']; omega
      rw [bV,this]
     ·cases h
   | _=>simp at h

theorem trod_bytes {fuel:Nat} {t e:TypeId} {v:Value} {d:DataW H} {ps:List MemPlace} (ht:P.underlying t=some (.slice e)) (he:P.underlying e=some (.int .u8)) (hce:P.cellsOf e=1)
 (h:DataW.trod enc P W base sp held fuel t [v]=some (d,ps)):∃o c bs,v=.slice o bs.length c∧bs.length≤c∧c≤maxLen∧RdB W o bs:=by
 obtain ⟨o,l,c,rfl,hlc,hcm,hall⟩:=trod_slice ht hce h
 have hx:∀i,∃x:UInt8,i < l→∃b f,o=some ⟨b,f,none⟩∧b < W.heap.size∧W.cell? ⟨b,f+i,none⟩=some (bV x):=fun i=>by
  by_cases hi:i < l
  ·obtain ⟨b,f,u,d',ps',fuel',ho,hb,hu,hd⟩:=hall i hi
   obtain ⟨x,rfl⟩:=trod_u8 he hd
   exact ⟨x,fun _=>⟨b,f,ho,hb,hu⟩⟩
  ·exact ⟨0,fun h=>(hi h).elim⟩
 have hl:((List.range l).map (fun i=>Classical.choose (hx i))).length=l:=by simp
 refine ⟨o,c,(List.range l).map (fun i=>Classical.choose (hx i)),by rw [hl],by rw [hl]; exact hlc,hcm,fun hne=>?_⟩
 have hl0:0 < l:=by rw [← hl]; exact List.length_pos_iff.2 hne
 obtain ⟨b,f,ho,hb,_⟩:=Classical.choose_spec (hx 0) hl0
 subst ho
 refine ⟨b,f,rfl,hb,fun i hi=>?_⟩
 rw [hl] at hi
 obtain ⟨b',f',ho,hb',hc⟩:=Classical.choose_spec (hx i) hi
 cases ho
 rw [hc]
 simp [List.getD_eq_getElem?_getD,hi]


end

end Go.Vcg
end
section
namespace Go.Vcg

section
variable {C:Type}

structure Stp (S:C→Prop) (w:World) (la:Nat→C) (w':World) (la':Nat→C):Prop where
 os:w'.os=w.os
 tape:w'.tape=w.tape
 output:w'.output=w.output
 size:w.heap.size≤w'.heap.size
 lab:∀k,k < w.heap.size→la' k=la k
 block:∀k,k < w.heap.size→¬S (la k)→w'.heap[k]?=w.heap[k]?

def ext (lab:Nat→C) (n:Nat) (c:C):Nat→C:=fun k=>if k < n then lab k else c
theorem ext_old {lab:Nat→C} {n k:Nat} {c:C} (h:k < n):ext lab n c k=lab k:=if_pos h
theorem ext_new {lab:Nat→C} {n k:Nat} {c:C} (h:n≤k):ext lab n c k=c:=if_neg (by omega)

variable {S T:C→Prop} {w w' w'':World} {lab lab' lab'':Nat→C}
theorem Stp.refl (S:C→Prop) (w:World) (lab:Nat→C):Stp S w lab w lab:=⟨rfl,rfl,rfl,Nat.le_refl _,fun _ _=>rfl,fun _ _ _=>rfl⟩
theorem Stp.trans (h:Stp S w lab w' lab') (k:Stp S w' lab' w'' lab''):Stp S w lab w'' lab'' :=
 ⟨k.os.trans h.os,k.tape.trans h.tape,k.output.trans h.output,Nat.le_trans h.size k.size,
  fun i hi=>(k.lab i (Nat.lt_of_lt_of_le hi h.size)).trans (h.lab i hi),
  fun i hi hn=>(k.block i (Nat.lt_of_lt_of_le hi h.size) (by rw [h.lab i hi]; exact hn)).trans (h.block i hi hn)⟩
theorem Stp.mono (h:Stp S w lab w' lab') (hs:∀c,S c→T c):Stp T w lab w' lab' :=
 ⟨h.os,h.tape,h.output,h.size,h.lab,fun i hi hn=>h.block i hi (fun k=>hn (hs _ k))⟩
theorem Stp.of_mod {Q:Nat→Prop} (h:Mod Q w w') (c:C) (hq:∀k,k < w.heap.size→Q k→S (lab k)):Stp S w lab w' (ext lab w.heap.size c) :=
 ⟨h.os,h.tape,h.output,h.size,fun _ hi=>ext_old hi,fun i hi hn=>h.block i hi (fun q=>hn (hq i hi q))⟩
theorem Stp.of_nob (h:Mod NoB w w') (c:C):Stp S w lab w' (ext lab w.heap.size c):=Stp.of_mod h c (fun _ _ h=>h.elim)
theorem Stp.drew (S:C→Prop) (w:World) (lab:Nat→C):Stp S w lab w.drew lab:=⟨rfl,rfl,rfl,Nat.le_refl _,fun _ _=>rfl,fun _ _ _=>rfl⟩
theorem Stp.alloc (S:C→Prop) (w:World) (lab:Nat→C) (o:Obj) (c:C):Stp S w lab (w.alloc o) (ext lab w.heap.size c):=Stp.of_nob (Mod.alloc w o) c
theorem Stp.setCell {a:Addr} {v:Value} (hs:S (lab a.block)):Stp S w lab (w.setCell a v) lab :=
 ⟨rfl,rfl,rfl,by simp [World.setCell],fun _ _=>rfl,fun k _ hn=>heap_setCell_other w a k v (fun e=>hn (e ▸ hs))⟩
theorem Stp.mod {Q:Nat→Prop} (h:Stp S w lab w' lab') (hq:∀k,k < w.heap.size→S (lab k)→Q k):Mod Q w w' :=
 ⟨h.os,h.tape,h.output,h.size,fun k hk hn=>h.block k hk (fun s=>hn (hq k hk s))⟩
theorem Stp.nob (h:Stp S w lab w' lab') (hq:∀k,k < w.heap.size→¬S (lab k)):Mod NoB w w':=h.mod (fun k hk s=>(hq k hk s).elim)

structure CB (w:World) (lab:Nat→C) (c:C) (b:Nat) (t:TypeId) (cs:Array Value):Prop where
 blk:Blk w b t cs
 clr:lab b=c
variable {c:C} {b:Nat} {t:TypeId} {cs:Array Value}
theorem CB.stp (h:CB w lab c b t cs) (m:Stp S w lab w' lab') (hs:¬S c):CB w' lab' c b t cs :=
 ⟨(m.block b h.blk.lt (by rw [h.clr]; exact hs)).trans h.blk,(m.lab b h.blk.lt).trans h.clr⟩
theorem CB.new (w:World) (lab:Nat→C) (c:C) (t:TypeId) (cs:Array Value):CB (w.alloc (.cells cs t)) (ext lab w.heap.size c) c w.heap.size t cs:=⟨Blk.new w t cs,ext_new (Nat.le_refl _)⟩
theorem CB.set (h:CB w lab c b t cs) (i:Nat) (v:Value):CB (w.setCell ⟨b,i,none⟩ v) lab c b t (cs.setIfInBounds i v):=⟨h.blk.set i v,h.clr⟩

structure CBy (w:World) (lab:Nat→C) (c:C) (o:Option Addr) (bs:List UInt8):Prop where
 rd:RdB w o bs
 clr:bs≠[]→∀d,o=some d→lab d.block=c
variable {o:Option Addr} {bs:List UInt8}
theorem CBy.stp (h:CBy w lab c o bs) (m:Stp S w lab w' lab') (hs:¬S c):CBy w' lab' c o bs:=by
 refine ⟨fun hne=>?_,fun hne d hd=>?_⟩
 ·obtain ⟨b,f,rfl,hb,hc⟩:=h.rd hne
  have hl:=h.clr hne _ rfl
  refine ⟨b,f,rfl,Nat.lt_of_lt_of_le hb m.size,fun i hi=>?_⟩
  exact (World.cell?_of_block (m.block b hb (by rw [hl]; exact hs))).trans (hc i hi)
 ·obtain ⟨b,f,rfl,hb,_⟩:=h.rd hne
  cases hd
  exact (m.lab b hb).trans (h.clr hne _ rfl)
theorem CBy.nil (w:World) (lab:Nat→C) (c:C) (o:Option Addr):CBy w lab c o []:=⟨fun h=>(h rfl).elim,fun h=>(h rfl).elim⟩
theorem CBy.sub {cap lo n:Nat} (h:CBy w lab c o bs) (hc:bs.length≤cap):CBy w lab c (subO o cap lo 1) ((bs.drop lo).take n):=by
 refine ⟨h.rd.sub hc,fun hne d hd=>?_⟩
 have hb:bs≠[]:=fun e=>hne (by rw [e]; simp)
 obtain ⟨b,f,rfl,_,_⟩:=h.rd hb
 have:=h.clr hb _ rfl
 rw [subO] at hd
 split at hd
 ·cases hd; exact this
 ·simp at hd; subst hd; exact this

structure COw (w:World) (lab:Nat→C) (c:C) (e:TypeId) (sz:Nat) (o:Option Addr) (l cap:Nat) (xs:List Value):Prop where
 own:Own w e sz o l cap xs
 clr:∀k,OB o k→lab k=c
variable {e:TypeId} {sz l cap:Nat} {xs:List Value}
theorem COw.nil (w:World) (lab:Nat→C) (c:C) (e:TypeId) (sz:Nat):COw w lab c e sz none 0 0 []:=⟨Own.nil w e sz,fun k h=>(OB_none k h).elim⟩
theorem COw.stp (h:COw w lab c e sz o l cap xs) (m:Stp S w lab w' lab') (hs:¬S c):COw w' lab' c e sz o l cap xs:=by
 have hl:∀k,OB o k→k < w.heap.size:=fun k hk=>h.own.lt hk
 refine ⟨?_,fun k hk=>(m.lab k (hl k hk)).trans (h.clr k hk)⟩
 have hm:Mod (fun k=>S (lab k)) w w':=m.mod (fun _ _ s=>s)
 exact h.own.mod hm (fun k hk s=>hs (by rw [← h.clr k hk]; exact s))
theorem COw.append {P:Program} {t tx ty:TypeId} {i:TypeInfo} {z:Value} {x:Value} {n:Nat} {news:List Value}
 (ht:P.underlying t=some (.slice e)) (hi:P.info? e=some i) (hz:i.zero=some z) (hs:i.size=sz) (hzs:z.cells.size=sz)
 (h:COw w lab c e sz o l cap xs) (src:Src P sz tx x n news w) (h63:l+n≤maxLen) (hb:(l+n) * i.bytes≤140737488355328) :
 ∃o' c' w',Sem.run P (builtinV .append #[t,tx] ty #[.slice o l cap,x]) w=.ok (.slice o' (l+n) c') w' ∧
  COw w' (ext lab w.heap.size c) c e sz o' (l+n) c' (xs++news)∧Stp (·=c) w lab w' (ext lab w.heap.size c):=by
 obtain ⟨o',c',w',h1,h2,h3,h4⟩:=append_own (ty:=ty) ht hi hz hs hzs h.own src h63 hb
 refine ⟨o',c',w',h1,⟨h2,fun k hk=>?_⟩,Stp.of_mod h3 c (fun k _ hk=>h.clr k hk)⟩
 by_cases hl:k < w.heap.size
 ·rw [ext_old hl]
  rcases h4 k hk with h5 | h5
  ·exact h.clr k h5
  ·omega
 ·exact ext_new (by omega)
end
end Go.Vcg
end
section
namespace Go.Vcg
open Go.ChangeMaps (setBlock)
open Go.Maps (Keyed)
open Go.MapKept

section
variable {K:Type} [DecidableEq K] {V:Type}
def assoc (k:K):List (K×V)→Option V
 | []=>none
 | x :: r=>if x.1=k then some x.2 else assoc k r
def upd (k:K) (v:V):List (K×V)→List (K×V)
 | []=>[(k,v)]
 | x :: r=>if x.1=k then (k,v) :: r else x :: upd k v r
theorem assoc_none {k:K}:∀{es:List (K×V)},(∀x∈es,x.1≠k)→assoc k es=none
 | [],_=>rfl
 | x :: r,h=>by
   rw [assoc,if_neg (h x (List.mem_cons_self ..)),assoc_none (fun y hy=>h y (List.mem_cons_of_mem _ hy))]
theorem upd_none {k:K} {v:V}:∀{es:List (K×V)},(∀x∈es,x.1≠k)→upd k v es=es++[(k,v)]
 | [],_=>rfl
 | x :: r,h=>by
   rw [upd,if_neg (h x (List.mem_cons_self ..)),upd_none (fun y hy=>h y (List.mem_cons_of_mem _ hy))]; rfl
theorem assoc_at {k:K}:∀{es:List (K×V)} {j:Nat} {x:K×V},(es.map Prod.fst).Nodup→es[j]?=some x→x.1=k→assoc k es=some x.2
 | [],_,_,_,h,_=>by simp at h
 | y :: r,0,x,_,h,hk=>by simp at h; subst h; rw [assoc,if_pos hk]
 | y :: r,j+1,x,hn,h,hk=>by
   rw [List.getElem?_cons_succ] at h
   have hne:y.1≠k:=by
    rintro rfl
    exact (List.nodup_cons.1 hn).1 (hk ▸ List.mem_map_of_mem (List.mem_of_getElem? h))
   rw [assoc,if_neg hne,assoc_at (List.nodup_cons.1 hn).2 h hk]
theorem upd_at {k:K} {v:V}:∀{es:List (K×V)} {j:Nat} {x:K×V},(es.map Prod.fst).Nodup→es[j]?=some x→x.1=k→upd k v es=es.set j (k,v)
 | [],_,_,_,h,_=>by simp at h
 | y :: r,0,x,_,h,hk=>by simp at h; subst h; rw [upd,if_pos hk]; rfl
 | y :: r,j+1,x,hn,h,hk=>by
   rw [List.getElem?_cons_succ] at h
   have hne:y.1≠k:=by
    rintro rfl
    exact (List.nodup_cons.1 hn).1 (hk ▸ List.mem_map_of_mem (List.mem_of_getElem? h))
   rw [upd,if_neg hne,upd_at (List.nodup_cons.1 hn).2 h hk]; rfl
end

section
variable {K:Type} {P:Program} {kt:TypeId} {enc:K→Value}

structure KeyEnc (P:Program) (kt:TypeId) (enc:K→Value) (good:K→Prop):Prop where
 keyed:Keyed P kt
 ok:∀k,good k→∃l,keyOf P kt (enc k)=some l
 inj:∀a b,enc a=enc b→a=b

def dec (enc:K→Value) (x:K×Value):Value×Value:=(enc x.1,x.2)
def cellE (e:MapEntry):Value×Value:=(e.key,e.val)

def MapAt (good:K→Prop) (enc:K→Value) (w:World) (m:Nat) (es:List (K×Value)):Prop :=
 ∃(A:Array MapEntry) (clock:Nat),w.heap[m]?=some (.map A clock)∧Stamped A clock∧A.toList.map cellE=es.map (dec enc)∧∀x∈es,good x.1

variable {good:K→Prop} {w w':World} {m:Nat} {es:List (K×Value)}
theorem MapAt.lt (h:MapAt good enc w m es):m < w.heap.size:=by
 obtain ⟨A,clock,hb,_⟩:=h
 exact (Array.getElem?_eq_some_iff.1 hb).1
theorem MapAt.same (h:MapAt good enc w m es) (hb:w'.heap[m]?=w.heap[m]?):MapAt good enc w' m es:=by
 obtain ⟨A,clock,h1,h2⟩:=h
 exact ⟨A,clock,hb.trans h1,h2⟩
theorem MapAt.nodup (h:MapAt good enc w m es):(es.map Prod.fst).Nodup:=by
 obtain ⟨A,clock,_,hs,he,_⟩:=h
 have h1:(A.toList.map (·.key))=(es.map Prod.fst).map enc:=by
  have:=congrArg (List.map Prod.fst) he
  simpa [cellE,dec,Function.comp_def] using this
 have h2:=hs.2.2
 rw [h1] at h2
 generalize es.map Prod.fst=l at h2
 clear h1
 induction l with
 | nil=>exact List.nodup_nil
 | cons a l ih =>
   rw [List.map_cons,List.nodup_cons] at h2
   rw [List.nodup_cons]
   exact ⟨fun h=>h2.1 (List.mem_map_of_mem h),ih h2.2⟩

private theorem find_split (E:KeyEnc P kt enc good) (w:World) {A:Array MapEntry} {k:K} (hk:good k) (he:A.toList.map cellE=es.map (dec enc)) (hg:∀x∈es,good x.1) :
 ((Instr.findKey kt (enc k) A.toList).run P w=.ok none w∧(∀x∈es,x.1≠k)∧∀e∈A.toList,e.key≠enc k) ∨
 ∃j e v,(Instr.findKey kt (enc k) A.toList).run P w=.ok (some (j,v)) w∧A.toList[j]?=some e∧e.key=enc k∧e.val=v∧es[j]?=some (k,v):=by
 obtain ⟨lk,hl⟩:=E.ok k hk
 have hall:∀e∈A.toList,∃l,keyOf P kt e.key=some l:=fun e hm=>by
  have:cellE e∈es.map (dec enc):=he ▸ List.mem_map_of_mem hm
  obtain ⟨x,hx,hxe⟩:=List.mem_map.1 this
  have h1:e.key=enc x.1:=(congrArg Prod.fst hxe).symm
  rw [h1]; exact E.ok _ (hg x hx)
 rcases E.keyed.find w hl A.toList hall with ⟨h1,h2⟩ | ⟨j,e,h1,h2,h3⟩
 ·refine .inl ⟨h1,fun x hx hxk=>?_,h2⟩
  have:dec enc x∈A.toList.map cellE:=he ▸ List.mem_map_of_mem hx
  obtain ⟨e,hm,hee⟩:=List.mem_map.1 this
  exact h2 e hm (by rw [show e.key=enc x.1 from congrArg Prod.fst hee,hxk])
 ·refine .inr ⟨j,e,e.val,h1,h2,h3,rfl,?_⟩
  have h4:(es.map (dec enc))[j]?=some (cellE e):=by rw [← he,List.getElem?_map,h2]; rfl
  rw [List.getElem?_map,Option.map_eq_some_iff] at h4
  obtain ⟨x,hx,hxe⟩:=h4
  have e1:enc x.1=enc k:=(congrArg Prod.fst hxe).trans h3
  have e2:x.2=e.val:=congrArg Prod.snd hxe
  rw [hx,← E.inj _ _ e1,← e2]

theorem MapAt.check (E:KeyEnc P kt enc good) {k:K} (hk:good k) (em:Bool) (w:World):(Instr.checkKey em 10000 kt (enc k)).run P w=.ok () w:=by
 obtain ⟨lk,hl⟩:=E.ok k hk
 exact E.keyed.check w em hl

theorem MapAt.look [DecidableEq K] (h:MapAt good enc w m es) (E:KeyEnc P kt enc good) {t e:TypeId} (ht:P.underlying t=some (.map kt e)) {z:Value} (hz:(zeroValue e).run P w=.ok z w) {k:K} (hk:good k) (c:Bool) :
 (Instr.lookup t (.map (some m)) (enc k) c).run P w=.ok (if c then .tuple #[(assoc k es).getD z,.bool (assoc k es).isSome] else (assoc k es).getD z) w:=by
 have hn:=h.nodup
 obtain ⟨A,clock,hb,hs,he,hg⟩:=h
 rcases find_split E w hk he hg with ⟨h1,h2,_⟩ | ⟨j,e0,v,h1,h2,h3,h4,h5⟩
 ·rw [assoc_none h2]
  simp [Instr.lookup,run_underlying ht,MapKept.run_getObj_map hb,MapAt.check E hk,h1,hz,Result.andThen]
 ·rw [assoc_at hn h5 rfl]
  simp [Instr.lookup,run_underlying ht,MapKept.run_getObj_map hb,MapAt.check E hk,h1,Result.andThen]

theorem MapAt.update [DecidableEq K] (h:MapAt good enc w m es) (E:KeyEnc P kt enc good) {t e:TypeId} (ht:P.underlying t=some (.map kt e)) {k:K} (hk:good k) (v:Value) :
 ∃w',(Instr.mapUpdate t (.map (some m)) (enc k) v).run P w=.ok () w'∧MapAt good enc w' m (upd k v es)∧Mod (·=m) w w':=by
 have hn:=h.nodup
 obtain ⟨A,clock,hb,hs,he,hg⟩:=h
 have hmod:∀o,Mod (·=m) w (setBlock w m o):=fun o=>⟨rfl,rfl,rfl,by simp [setBlock],fun k _ hk=>(heap_set hb).2 k hk⟩
 rcases find_split E w hk he hg with ⟨h1,h2,h2'⟩ | ⟨j,e0,v0,h1,h2,h3,h4,h5⟩
 ·refine ⟨setBlock w m (.map (A.push ⟨enc k,v,clock⟩) (clock+1)),?_,⟨_,_,(heap_set hb).1,stamped_push hs h2',?_,?_⟩,hmod _⟩
  ·simp [Instr.mapUpdate,run_underlying ht,MapKept.run_getObj_map hb,MapAt.check E hk,h1,MapKept.run_setObj_map _ hb,Result.andThen,setBlock]
  ·rw [upd_none h2,Array.toList_push,List.map_append,List.map_append,he]; rfl
  ·rw [upd_none h2]
   intro x hx
   rcases List.mem_append.1 hx with hx | hx
   ·exact hg x hx
   ·simp at hx; subst hx; exact hk
 ·obtain ⟨lk,hl⟩:=E.ok k hk
  have hj:j < A.size:=by simpa using (List.getElem?_eq_some_iff.1 h2).1
  have hA:A[j]?=some e0:=by simpa using h2
  refine ⟨setBlock w m (.map (A.modify j fun e=>{ e with key:=enc k,val:=v }) clock),?_,⟨_,_,(heap_set hb).1,stamped_modify hs j _ (fun _ _=>rfl) (fun e hm hej=>?_),?_,?_⟩,hmod _⟩
  ·have hst:=E.keyed.stays w hl
   simp [Instr.mapUpdate,run_underlying ht,MapKept.run_getObj_map hb,MapAt.check E hk,h1,hA,h3,hst,MapKept.run_setObj_map _ hb,Result.andThen,setBlock]
  ·rw [hA] at hej
   cases hej
   exact h3.symm
  ·rw [upd_at hn h5 rfl]
   apply List.ext_getElem?
   intro i
   have hi:(A.toList.map cellE)[i]?=(es.map (dec enc))[i]?:=by rw [he]
   rw [List.getElem?_map,List.getElem?_map] at hi
   rw [List.getElem?_map,List.getElem?_map,Array.getElem?_toList,Array.getElem?_modify,List.getElem?_set]
   rw [Array.getElem?_toList] at hi
   by_cases hij:j=i
   ·subst hij
    rw [if_pos rfl,if_pos rfl,if_pos (by have:=(List.getElem?_eq_some_iff.1 h5).1; exact this),hA]
    rfl
   ·rw [if_neg hij,if_neg hij,hi]
  ·rw [upd_at hn h5 rfl]
   intro x hx
   rcases List.mem_or_eq_of_mem_set hx with hx | rfl
   ·exact hg x hx
   ·exact hk


variable {i:Nat} {todo:List (K×Value)}
end

section
variable {C:Type} {S:C→Prop} {w w':World} {lab lab':Nat→C} {c:C} {K:Type} {good:K→Prop} {enc:K→Value} {m:Nat} {es:List (K×Value)}
structure CM (good:K→Prop) (enc:K→Value) (w:World) (lab:Nat→C) (c:C) (m:Nat) (es:List (K×Value)):Prop where
 map:MapAt good enc w m es
 clr:lab m=c
theorem CM.stp (h:CM good enc w lab c m es) (s:Stp S w lab w' lab') (hs:¬S c):CM good enc w' lab' c m es :=
 ⟨h.map.same (s.block m h.map.lt (by rw [h.clr]; exact hs)),(s.lab m h.map.lt).trans h.clr⟩
end
end Go.Vcg
end
section
namespace Go.Trie
abbrev By:=List UInt8
inductive It where
 | s (b:By)
 | l (xs:List It)
inductive Nd where
 | nil
 | leaf (p v:By)
 | row (p:By) (c:Nd)
 | branch (cs:Fin 16→Nd) (v:By)

def nibbles (k:By):By:=k.flatMap fun (c:UInt8)=>[c >>> 4,c &&& 15]
def pairs:By→By
 | a :: b :: r=>(a <<< 4 ||| b) :: pairs r
 | _=>[]
def flagOf (leaf:Bool):UInt8:=if leaf then 2 else 0
def headed (p:By) (leaf:Bool):By:=if p.length % 2=1 then (flagOf leaf+1) :: p else flagOf leaf :: 0 :: p
def packBad (p:By):Prop:=p.length > 128∨∃x∈p,x≥16
instance (p:By):Decidable (packBad p):=by unfold packBad; infer_instance
def pack (p:By) (leaf:Bool):By×Int:=if packBad p then ([],140) else (pairs (headed p leaf),0)
def shared:By→By→Nat
 | a :: p,b :: q=>if a=b then shared p q+1 else 0
 | _,_=>0
theorem shared_le:∀(p q:By),shared p q≤p.length∧shared p q≤q.length
 | [],q=>by simp [shared]
 | a :: p,[]=>by simp [shared]
 | a :: p,b :: q=>by
   have:=shared_le p q
   simp only [shared]
   split <;> simp <;> omega
theorem shared_take:∀(p q:By),p.take (shared p q)=q.take (shared p q)
 | [],q=>by simp [shared]
 | a :: p,[]=>by simp [shared]
 | a :: p,b :: q=>by
   simp only [shared]
   split
   ·rename_i h
    subst h
    simp [shared_take p q]
   ·simp
theorem shared_ne:∀(p q:By) (h1:shared p q < p.length) (h2:shared p q < q.length),p[shared p q]≠q[shared p q]
 | a :: p,b :: q,h1,h2=>by
   by_cases hab:a=b
   ·subst hab
    have e:shared (a :: p) (a :: q)=shared p q+1:=by simp [shared]
    simp only [e,List.getElem_cons_succ]
    exact shared_ne p q (by simp only [e,List.length_cons] at h1; omega) (by simp only [e,List.length_cons] at h2; omega)
   ·have e:shared (a :: p) (b :: q)=0:=by simp [shared,hab]
    simp only [e,List.getElem_cons_zero]
    exact hab
 | [],q,h1,_=>by simp at h1
 | a :: p,[],_,h2=>by simp at h2

def rowed (p:By) (n:Nd):Nd :=
 if p=[] then n else match n with
  | .leaf q v=>.leaf (p++q) v
  | .row q c=>.row (p++q) c
  | n=>.row p n
def upd (cs:Fin 16→Nd) (a:UInt8) (n:Nd):Fin 16→Nd:=fun i=>if i.val=a.toNat then n else cs i
def at_ (cs:Fin 16→Nd) (a:UInt8):Nd:=if h:a.toNat < 16 then cs ⟨a.toNat,h⟩ else .nil
def lay (cs:Fin 16→Nd) (v:By) (p x:By):Nd:=match p with
 | []=>.branch cs x
 | a :: r=>.branch (upd cs a (.leaf r x)) v
def lay2 (n:Nd) (p x:By):Nd:=match n with
 | .branch cs v=>lay cs v p x
 | n=>n
def none16:Fin 16→Nd:=fun _=>.nil
def put (n:Nd) (p x:By):Nd:=match n with
 | .nil=>.leaf p x
 | .leaf q v =>
   if shared q p=q.length∧shared q p=p.length then .leaf p x
   else rowed (p.take (shared q p)) (lay2 (lay none16 [] (q.drop (shared q p)) v) (p.drop (shared q p)) x)
 | .row q c =>
   if shared q p=q.length then .row q (put c (p.drop (shared q p)) x)
   else rowed (p.take (shared q p)) (lay (upd none16 (q.getD (shared q p) 0) (rowed (q.drop (shared q p+1)) c)) [] (p.drop (shared q p)) x)
 | .branch cs v=>match p with
   | []=>.branch cs x
   | a :: r=>.branch (fun i=>if i.val=a.toNat then put (cs i) r x else cs i) v
def get (n:Nd) (p:By):Option By:=match n with
 | .nil=>none
 | .leaf q v=>if q=p then some v else none
 | .row q c=>if q.isPrefixOf p then get c (p.drop q.length) else none
 | .branch cs v=>match p with
   | []=>if v=[] then none else some v
   | a :: r=>if h:a.toNat < 16 then get (cs ⟨a.toNat,h⟩) r else none
end Go.Trie
end
section
namespace Go.Trie
def Nib (p:By):Prop:=∀x∈p,x.toNat < 16
def IsBranch:Nd→Prop
 | .branch _ _=>True
 | _=>False
def Many (cs:Fin 16→Nd) (v:By):Prop:=(v≠[]∧∃i,cs i≠.nil)∨∃i j,i≠j∧cs i≠.nil∧cs j≠.nil
def Canon:Nd→Prop
 | .nil=>True
 | .leaf p v=>Nib p∧v≠[]
 | .row p c=>p≠[]∧Nib p∧IsBranch c∧Canon c
 | .branch cs v=>(∀i,Canon (cs i))∧Many cs v

theorem get_row_append (p r:By) (c:Nd):get (.row p c) (p++r)=get c r:=by
 simp only [get]
 rw [if_pos (List.isPrefixOf_iff_prefix.2 (List.prefix_append _ _)),List.drop_left]
theorem get_row_some {p k:By} {c:Nd} {v:By} (h:get (.row p c) k=some v):∃r,k=p++r∧get c r=some v:=by
 simp only [get] at h
 split at h
 ·rename_i hp
  obtain ⟨r,rfl⟩:=List.isPrefixOf_iff_prefix.1 hp
  rw [List.drop_left] at h
  exact ⟨r,rfl,h⟩
 ·cases h
theorem get_branch_nil (cs:Fin 16→Nd) (v:By):get (.branch cs v) []=if v=[] then none else some v:=by simp only [get]
theorem get_branch_cons (cs:Fin 16→Nd) (v:By) (i:Fin 16) (r:By):get (.branch cs v) (UInt8.ofNat i.val :: r)=get (cs i) r:=by
 have hi:(UInt8.ofNat i.val).toNat=i.val:=by
  rw [UInt8.toNat_ofNat']; have:=i.isLt; omega
 simp only [get]
 rw [dif_pos (by rw [hi]; exact i.isLt)]
 congr 2
 exact Fin.ext hi
theorem ofNat_inj {i j:Fin 16} (h:UInt8.ofNat i.val=UInt8.ofNat j.val):i=j:=by
 have h1:=congrArg UInt8.toNat h
 rw [UInt8.toNat_ofNat',UInt8.toNat_ofNat'] at h1
 have:=i.isLt
 have:=j.isLt
 exact Fin.ext (by omega)
theorem has_key:∀{n:Nd},Canon n→n≠.nil→∃k v,get n k=some v
 | .nil,_,h=>(h rfl).elim
 | .leaf p v,_,_=>⟨p,v,by simp [get]⟩
 | .row p c,h,_=>by
   obtain ⟨k,v,hk⟩:=has_key (n:=c) h.2.2.2 (by intro e; rw [e] at h; exact h.2.2.1)
   exact ⟨p++k,v,by rw [get_row_append]; exact hk⟩
 | .branch cs v,h,_=>by
   rcases h.2 with ⟨hv,_⟩ | ⟨i,j,_,hi,_⟩
   ·exact ⟨[],v,by rw [get_branch_nil,if_neg hv]⟩
   ·obtain ⟨k,w,hk⟩:=has_key (n:=cs i) (h.1 i) hi
    exact ⟨UInt8.ofNat i.val :: k,w,by rw [get_branch_cons]; exact hk⟩
def Part (a b:By):Prop:=a≠b∧∀x r s,¬(a=x :: r∧b=x :: s)
theorem two_keys {n:Nd} (h:Canon n) (hb:IsBranch n):∃k1 v1 k2 v2,get n k1=some v1∧get n k2=some v2∧Part k1 k2:=by
 cases n with
 | nil=>exact hb.elim
 | leaf p v=>exact hb.elim
 | row p c=>exact hb.elim
 | branch cs v =>
   rcases h.2 with ⟨hv,i,hi⟩ | ⟨i,j,hij,hi,hj⟩
   ·obtain ⟨k,w,hk⟩:=has_key (h.1 i) hi
    exact ⟨[],v,UInt8.ofNat i.val :: k,w,by rw [get_branch_nil,if_neg hv],by rw [get_branch_cons]; exact hk,by simp,fun x r s h=>by cases h.1⟩
   ·obtain ⟨k,w,hk⟩:=has_key (h.1 i) hi
    obtain ⟨k',w',hk'⟩:=has_key (h.1 j) hj
    refine ⟨UInt8.ofNat i.val :: k,w,UInt8.ofNat j.val :: k',w',by rw [get_branch_cons]; exact hk,by rw [get_branch_cons]; exact hk',?_,fun x r s h=>?_⟩
    ·intro e
     exact hij (ofNat_inj (List.cons.inj e).1)
    ·exact hij (ofNat_inj ((List.cons.inj h.1).1.trans (List.cons.inj h.2).1.symm))
theorem two_row {p:By} {c:Nd} (h:Canon (.row p c)):∃k1 v1 k2 v2,get (.row p c) k1=some v1∧get (.row p c) k2=some v2∧k1≠k2:=by
 obtain ⟨k1,v1,k2,v2,h1,h2,hp⟩:=two_keys h.2.2.2 h.2.2.1
 exact ⟨p++k1,v1,p++k2,v2,by rw [get_row_append]; exact h1,by rw [get_row_append]; exact h2,fun e=>hp.1 (List.append_cancel_left e)⟩
end Go.Trie
end
section
namespace Go.Trie
theorem Nib.left {p q:By} (h:Nib (p++q)):Nib p:=fun x hx=>h x (List.mem_append_left _ hx)
theorem Nib.right {p q:By} (h:Nib (p++q)):Nib q:=fun x hx=>h x (List.mem_append_right _ hx)
theorem Nib.append {p q:By} (h:Nib p) (k:Nib q):Nib (p++q):=fun x hx=>(List.mem_append.1 hx).elim (h x) (k x)
def behind (p k:By) (n:Nd):Option By:=if p.isPrefixOf k then get n (k.drop p.length) else none
theorem behind_append (p r:By) (n:Nd):behind p (p++r) n=get n r:=by
 unfold behind
 rw [if_pos (List.isPrefixOf_iff_prefix.2 (List.prefix_append _ _)),List.drop_left]
theorem behind_none {p k:By} {n:Nd} (h:¬p <+: k):behind p k n=none:=by
 unfold behind
 rw [if_neg (fun hp=>h (List.isPrefixOf_iff_prefix.1 hp))]
theorem get_row (p:By) (c:Nd) (k:By):get (.row p c) k=behind p k c:=by simp only [get,behind]
theorem get_rowed (p:By) (n:Nd) (k:By):get (rowed p n) k=behind p k n:=by
 unfold rowed
 split
 ·rename_i h
  subst h
  unfold behind
  simp
 ·cases n with
  | nil=>exact get_row _ _ _
  | branch cs v=>exact get_row _ _ _
  | leaf q v =>
    by_cases hp:p <+: k
    ·obtain ⟨r,rfl⟩:=hp
     rw [behind_append]
     simp only [get,List.append_cancel_left_eq]
    ·rw [behind_none hp]
     simp only [get]
     rw [if_neg (fun (e:p++q=k)=>hp (by rw [← e]; exact List.prefix_append _ _))]
  | row q c =>
    by_cases hp:p <+: k
    ·obtain ⟨r,rfl⟩:=hp
     rw [behind_append,get_row,get_row]
     by_cases hq:q <+: r
     ·obtain ⟨s,rfl⟩:=hq
      rw [← List.append_assoc,behind_append,behind_append]
     ·rw [behind_none hq,behind_none]
      rintro ⟨s,hs⟩
      rw [List.append_assoc] at hs
      exact hq ⟨s,List.append_cancel_left hs⟩
    ·rw [behind_none hp]
     show get (.row (p++q) c) k=none
     rw [get_row,behind_none]
     rintro ⟨s,rfl⟩
     rw [List.append_assoc] at hp
     exact hp (List.prefix_append _ _)
theorem canon_rowed {p:By} {n:Nd} (hp:Nib p) (hn:Canon n) (h0:n≠.nil):Canon (rowed p n)∧rowed p n≠.nil:=by
 unfold rowed
 split
 ·exact ⟨hn,h0⟩
 ·rename_i hne
  cases n with
  | nil=>exact (h0 rfl).elim
  | leaf q v=>exact ⟨⟨hp.append hn.1,hn.2⟩,by simp⟩
  | row q c=>exact ⟨⟨by simp [hne],hp.append hn.2.1,hn.2.2⟩,by simp⟩
  | branch cs v=>exact ⟨⟨hne,hp,trivial,hn⟩,by simp⟩
theorem get_branch_hd (cs:Fin 16→Nd) (v:By) (a:UInt8) (r:By):get (.branch cs v) (a :: r)=get (at_ cs a) r:=by
 simp only [get,at_]
 split <;> simp [get]
theorem at_upd_same {cs:Fin 16→Nd} {a:UInt8} {n:Nd} (h:a.toNat < 16):at_ (upd cs a n) a=n:=by
 unfold at_ upd
 rw [dif_pos h,if_pos rfl]
theorem at_upd_ne {cs:Fin 16→Nd} {a b:UInt8} {n:Nd} (h:b≠a):at_ (upd cs a n) b=at_ cs b:=by
 unfold at_ upd
 split
 ·rw [if_neg (fun e=>h (UInt8.toNat_inj.1 e))]
 ·rfl
theorem get_lay {cs:Fin 16→Nd} {v p x:By} (hp:Nib p) (hx:x≠[]) (h1:p=[]→v=[]) (h2:∀a r,p=a :: r→at_ cs a=.nil) (k:By):get (lay cs v p x) k=if k=p then some x else get (.branch cs v) k:=by
 cases p with
 | nil =>
   show get (.branch cs x) k=_
   cases k with
   | nil=>rw [get_branch_nil,if_neg hx,if_pos rfl]
   | cons b r=>rw [if_neg (by simp),get_branch_hd,get_branch_hd]
 | cons a r =>
   show get (.branch (upd cs a (.leaf r x)) v) k=_
   have ha:a.toNat < 16:=hp a (by simp)
   cases k with
   | nil=>rw [get_branch_nil,get_branch_nil,if_neg (show ¬([]:By)=a :: r by simp)]
   | cons b s =>
     rw [get_branch_hd,get_branch_hd]
     by_cases hb:b=a
     ·subst hb
      rw [at_upd_same ha,h2 b r rfl]
      simp only [get,List.cons.injEq,true_and]
      by_cases hrs:r=s
      ·rw [if_pos hrs,if_pos hrs.symm]
      ·rw [if_neg hrs,if_neg (fun e=>hrs e.symm)]
     ·rw [at_upd_ne hb,if_neg (by simp [hb])]
theorem canon_upd {cs:Fin 16→Nd} {a:UInt8} {n:Nd} (h:∀i,Canon (cs i)) (hn:Canon n):∀i,Canon (upd cs a n i):=fun i=>by
 unfold upd; split
 ·exact hn
 ·exact h i
theorem at_idx {cs:Fin 16→Nd} {a:UInt8} (h:a.toNat < 16):at_ cs a=cs ⟨a.toNat,h⟩:=dif_pos h
theorem at_none (a:UInt8):at_ none16 a=.nil:=by unfold at_; split <;> rfl
theorem get_none16 (k:By):get (.branch none16 []) k=none:=by
 cases k with
 | nil=>rfl
 | cons a r=>rw [get_branch_hd,at_none]; simp [get]
theorem idx_ne {a b:UInt8} (ha:a.toNat < 16) (hb:b.toNat < 16) (h:a≠b):(⟨a.toNat,ha⟩:Fin 16)≠⟨b.toNat,hb⟩:=fun e=>h (UInt8.toNat_inj.1 (Fin.mk.inj e))
theorem lay_two {q p v x:By} (hq:Nib q) (hp:Nib p) (hv:v≠[]) (hx:x≠[]) (hne:q≠p) (hh:∀a r s,¬(q=a :: r∧p=a :: s)) :
 Canon (lay2 (lay none16 [] q v) p x)∧IsBranch (lay2 (lay none16 [] q v) p x)∧∀k,get (lay2 (lay none16 [] q v) p x) k=if k=p then some x else if k=q then some v else none:=by
 have g1:=fun k=>get_lay (cs:=none16) (v:=[]) (x:=v) hq hv (fun _=>rfl) (fun a r _=>at_none a) k
 cases q with
 | nil =>
   cases p with
   | nil=>exact (hne rfl).elim
   | cons b s =>
     have hb:b.toNat < 16:=hp b (by simp)
     refine ⟨⟨canon_upd (fun _=>trivial) ⟨fun y hy=>hp y (by simp [hy]),hx⟩,.inl ⟨hv,⟨b.toNat,hb⟩,by unfold upd; rw [if_pos rfl]; simp⟩⟩,trivial,fun k=>?_⟩
     have g2:=get_lay (cs:=none16) (v:=v) hp hx (fun h=>by cases h) (fun a r _=>at_none a) k
     show get (lay none16 v (b :: s) x) k=_
     rw [g2]
     split
     ·rfl
     ·have:=g1 k
      rw [get_none16] at this
      exact this
 | cons a r =>
   have ha:a.toNat < 16:=hq a (by simp)
   have e:lay none16 [] (a :: r) v=.branch (upd none16 a (.leaf r v)) []:=rfl
   rw [e] at g1 ⊢
   show Canon (lay (upd none16 a (.leaf r v)) [] p x)∧IsBranch (lay (upd none16 a (.leaf r v)) [] p x)∧∀k,get (lay (upd none16 a (.leaf r v)) [] p x) k=_
   have hc1:∀i,Canon (upd none16 a (.leaf r v) i):=canon_upd (fun _=>trivial) ⟨fun y hy=>hq y (by simp [hy]),hv⟩
   have hp2:∀b s,p=b :: s→at_ (upd none16 a (.leaf r v)) b=.nil:=fun b s h=>by
    rw [at_upd_ne (fun h2=>hh a r s ⟨rfl,by rw [h,h2]⟩),at_none]
   refine ⟨?_,?_,fun k=>?_⟩
   ·cases p with
    | nil=>exact ⟨hc1,.inl ⟨hx,⟨a.toNat,ha⟩,by unfold upd; rw [if_pos rfl]; simp⟩⟩
    | cons b s =>
      have hb:b.toNat < 16:=hp b (by simp)
      have hab:a≠b:=fun h=>hh a r s ⟨rfl,by rw [h]⟩
      refine ⟨canon_upd hc1 ⟨fun y hy=>hp y (by simp [hy]),hx⟩,.inr ⟨⟨a.toNat,ha⟩,⟨b.toNat,hb⟩,idx_ne ha hb hab,?_,?_⟩⟩
      ·unfold upd
       rw [if_neg (fun h=>hab (UInt8.toNat_inj.1 h)),if_pos rfl]; simp
      ·unfold upd
       rw [if_pos rfl]; simp
   ·cases p <;> exact trivial
   ·rw [get_lay hp hx (fun _=>rfl) hp2 k]
    split
    ·rfl
    ·have:=g1 k
     rw [get_none16] at this
     exact this
theorem split_shared (q p:By):∃t q' p',q=t++q'∧p=t++p'∧t=p.take (shared q p)∧q'=q.drop (shared q p)∧p'=p.drop (shared q p)∧t.length=shared q p∧∀a r s,¬(q'=a :: r∧p'=a :: s):=by
 have hl:=shared_le q p
 refine ⟨p.take (shared q p),q.drop (shared q p),p.drop (shared q p),?_,(List.take_append_drop _ _).symm,rfl,rfl,rfl,by rw [List.length_take]; omega,fun a r s h=>?_⟩
 ·rw [← shared_take]; exact (List.take_append_drop _ _).symm
 ·have h1:shared q p < q.length:=by
   have:=congrArg List.length h.1
   rw [List.length_drop] at this; simp at this; omega
  have h2:shared q p < p.length:=by
   have:=congrArg List.length h.2
   rw [List.length_drop] at this; simp at this; omega
  refine shared_ne q p h1 h2 ?_
  have e1:q[shared q p]=a:=by
   have:=List.getElem_drop (xs:=q) (i:=shared q p) (j:=0) (h:=by rw [List.length_drop]; omega)
   simp only [h.1,List.getElem_cons_zero,Nat.add_zero] at this
   exact this.symm
  have e2:p[shared q p]=a:=by
   have:=List.getElem_drop (xs:=p) (i:=shared q p) (j:=0) (h:=by rw [List.length_drop]; omega)
   simp only [h.2,List.getElem_cons_zero,Nat.add_zero] at this
   exact this.symm
  rw [e1,e2]

theorem put_ok:∀{n:Nd} {p x:By},Canon n→Nib p→x≠[]→Canon (put n p x)∧put n p x≠.nil∧(IsBranch n→IsBranch (put n p x))∧∀k,get (put n p x) k=if k=p then some x else get n k
 | .nil,p,x,hn,hp,hx=>by
   refine ⟨⟨hp,hx⟩,by simp [put],fun h=>h.elim,fun k=>?_⟩
   simp only [put,get]
   by_cases h:p=k
   ·rw [if_pos h,if_pos h.symm]
   ·rw [if_neg h,if_neg (fun e=>h e.symm)]
 | .leaf q v,p,x,hn,hp,hx=>by
   simp only [put]
   obtain ⟨t,q',p',hq,hpe,ht,hq',hp',htl,hh⟩:=split_shared q p
   split
   ·rename_i hs
    have hqp:q=p:=by
     have h1:=shared_take q p
     rw [hs.1,List.take_length] at h1
     have h2:q.length=p.length:=hs.1.symm.trans hs.2
     rw [h2,List.take_length] at h1
     exact h1
    subst hqp
    refine ⟨⟨hp,hx⟩,by simp,fun h=>h.elim,fun k=>?_⟩
    simp only [get]
    by_cases h:q=k
    ·rw [if_pos h,if_pos h.symm]
    ·rw [if_neg h,if_neg (fun e=>h e.symm),if_neg h]
   ·rename_i hs
    have hne:q'≠p':=by
     rintro rfl
     cases q' with
     | nil =>
       simp only [List.append_nil] at hq hpe
       exact hs ⟨by rw [← htl,← hq],by rw [← htl,← hpe]⟩
     | cons a r=>exact hh a r r ⟨rfl,rfl⟩
    have hnq:Nib q':=(hq ▸ hn.1:Nib (t++q')).right
    have hnp:Nib p':=(hpe ▸ hp:Nib (t++p')).right
    have hnt:Nib t:=(hpe ▸ hp:Nib (t++p')).left
    obtain ⟨hc,hb,hg⟩:=lay_two hnq hnp hn.2 hx hne hh
    rw [← ht,← hq',← hp']
    have hnz:lay2 (lay none16 [] q' v) p' x≠.nil:=by intro e; rw [e] at hb; exact hb
    obtain ⟨h1,h2⟩:=canon_rowed hnt hc hnz
    refine ⟨h1,h2,fun h=>h.elim,fun k=>?_⟩
    rw [get_rowed]
    simp only [get]
    by_cases hk:t <+: k
    ·obtain ⟨k',rfl⟩:=hk
     rw [behind_append,hg,hpe,hq]
     simp only [List.append_cancel_left_eq]
     split
     ·rfl
     ·by_cases h:k'=q'
      ·rw [if_pos h,if_pos h.symm]
      ·rw [if_neg h,if_neg (fun e=>h e.symm)]
    ·rw [behind_none hk,if_neg (fun (e:k=p)=>hk (by rw [e,hpe]; exact List.prefix_append _ _)),if_neg (fun (e:q=k)=>hk (by rw [← e,hq]; exact List.prefix_append _ _))]
 | .row q c,p,x,hn,hp,hx=>by
   simp only [put]
   obtain ⟨t,q',p',hq,hpe,ht,hq',hp',htl,hh⟩:=split_shared q p
   have hnp:Nib p':=(hpe ▸ hp:Nib (t++p')).right
   have hnt:Nib t:=(hpe ▸ hp:Nib (t++p')).left
   split
   ·rename_i hs
    have hq0:q'=[]:=by rw [hq',hs,List.drop_length]
    rw [hq0,List.append_nil] at hq
    subst hq
    rw [← hp']
    obtain ⟨h1,h2,h3,h4⟩:=put_ok (p:=p') (x:=x) hn.2.2.2 hnp hx
    refine ⟨⟨hn.1,hn.2.1,h3 hn.2.2.1,h1⟩,by simp,fun h=>h.elim,fun k=>?_⟩
    rw [get_row,get_row]
    by_cases hk:q <+: k
    ·obtain ⟨k',rfl⟩:=hk
     rw [behind_append,behind_append,h4,hpe]
     simp only [List.append_cancel_left_eq]
    ·rw [behind_none hk,behind_none hk,if_neg (fun (e:k=p)=>hk (by rw [e,hpe]; exact List.prefix_append _ _))]
   ·rename_i hs
    have hlt:shared q p < q.length:=by have:=(shared_le q p).1; omega
    obtain ⟨a,q2,hq2⟩:∃a q2,q'=a :: q2:=by
     cases h:q' with
     | nil=>rw [hq',List.drop_eq_nil_iff] at h; omega
     | cons a r=>exact ⟨a,r,rfl⟩
    have hga:q.getD (shared q p) 0=a:=by
     have h3:q[t.length]?=some a:=by rw [hq,List.getElem?_append_right (Nat.le_refl _),Nat.sub_self,hq2]; rfl
     rw [← htl,List.getD_eq_getElem?_getD,h3]; rfl
    have hgd:q.drop (shared q p+1)=q2:=by
     rw [← List.drop_drop,← hq',hq2]; rfl
    rw [hga,hgd,← ht,← hp']
    have hnq:Nib q':=(hq ▸ hn.2.1:Nib (t++q')).right
    rw [hq2] at hnq
    have ha:a.toNat < 16:=hnq a (by simp)
    have hcn:c≠.nil:=by intro e; rw [e] at hn; exact hn.2.2.1
    obtain ⟨r1,r2⟩:=canon_rowed (p:=q2) (n:=c) (fun y hy=>hnq y (by simp [hy])) hn.2.2.2 hcn
    have hc1:∀i,Canon (upd none16 a (rowed q2 c) i):=canon_upd (fun _=>trivial) r1
    have hp2:∀b s,p'=b :: s→at_ (upd none16 a (rowed q2 c)) b=.nil:=fun b s h=>by
     rw [at_upd_ne (fun h2=>hh a q2 s ⟨hq2,by rw [h,h2]⟩),at_none]
    have hcl:Canon (lay (upd none16 a (rowed q2 c)) [] p' x)∧IsBranch (lay (upd none16 a (rowed q2 c)) [] p' x):=by
     cases hpp:p' with
     | nil=>exact ⟨⟨hc1,.inl ⟨hx,⟨a.toNat,ha⟩,by unfold upd; rw [if_pos rfl]; exact r2⟩⟩,trivial⟩
     | cons b s =>
       rw [hpp] at hnp
       have hb:b.toNat < 16:=hnp b (by simp)
       have hab:a≠b:=fun h=>hh a q2 s ⟨hq2,by rw [hpp,h]⟩
       refine ⟨⟨canon_upd hc1 ⟨fun y hy=>hnp y (by simp [hy]),hx⟩,.inr ⟨⟨a.toNat,ha⟩,⟨b.toNat,hb⟩,idx_ne ha hb hab,?_,?_⟩⟩,trivial⟩
       ·unfold upd
        rw [if_neg (fun h=>hab (UInt8.toNat_inj.1 h)),if_pos rfl]; exact r2
       ·unfold upd
        rw [if_pos rfl]; simp
    have hnz:lay (upd none16 a (rowed q2 c)) [] p' x≠.nil:=by intro e; rw [e] at hcl; exact hcl.2
    obtain ⟨h1,h2⟩:=canon_rowed hnt hcl.1 hnz
    refine ⟨h1,h2,fun h=>h.elim,fun k=>?_⟩
    rw [get_rowed,get_row]
    by_cases hk:t <+: k
    ·obtain ⟨k',rfl⟩:=hk
     rw [behind_append,get_lay hnp hx (fun _=>rfl) hp2,hpe,hq,hq2]
     simp only [List.append_cancel_left_eq]
     split
     ·rfl
     ·cases k' with
      | nil =>
        rw [get_branch_nil,if_pos rfl,List.append_nil,behind_none]
        intro hpre
        have:=hpre.length_le
        simp at this
        omega
      | cons b s =>
        rw [get_branch_hd]
        by_cases hba:b=a
        ·subst hba
         rw [at_upd_same ha,get_rowed]
         by_cases hqs:q2 <+: s
         ·obtain ⟨u,rfl⟩:=hqs
          rw [behind_append,show t++b :: (q2++u)=(t++b :: q2)++u by simp,behind_append]
         ·rw [behind_none hqs,behind_none]
          rintro ⟨u,hu⟩
          rw [List.append_assoc] at hu
          have:=List.append_cancel_left hu
          rw [List.cons_append] at this
          exact hqs ⟨u,(List.cons.inj this).2⟩
        ·rw [at_upd_ne hba,at_none,behind_none]
         ·simp [get]
         ·rintro ⟨u,hu⟩
          rw [List.append_assoc] at hu
          have:=List.append_cancel_left hu
          rw [List.cons_append] at this
          exact hba (List.cons.inj this).1.symm
    ·rw [behind_none hk,if_neg (fun (e:k=p)=>hk (by rw [e,hpe]; exact List.prefix_append _ _)),behind_none]
     rintro ⟨u,rfl⟩
     rw [hq,List.append_assoc] at hk
     exact hk (List.prefix_append _ _)
 | .branch cs v,[],x,hn,hp,hx=>by
   refine ⟨⟨hn.1,?_⟩,by simp [put],fun _=>trivial,fun k=>?_⟩
   ·rcases hn.2 with ⟨_,h⟩ | h
    ·exact .inl ⟨hx,h⟩
    ·exact .inr h
   ·simp only [put]
    cases k with
    | nil=>rw [get_branch_nil,if_neg hx,if_pos rfl]
    | cons b r=>rw [if_neg (by simp),get_branch_hd,get_branch_hd]
 | .branch cs v,a :: r,x,hn,hp,hx=>by
   have ha:a.toNat < 16:=hp a (by simp)
   have hr:Nib r:=fun y hy=>hp y (by simp [hy])
   have ih:=fun i=>put_ok (n:=cs i) (p:=r) (x:=x) (hn.1 i) hr hx
   simp only [put]
   refine ⟨⟨fun i=>?_,?_⟩,by simp,fun _=>trivial,fun k=>?_⟩
   ·dsimp only
    split
    ·exact (ih i).1
    ·exact hn.1 i
   ·have keep:∀i,cs i≠.nil→(if i.val=a.toNat then put (cs i) r x else cs i)≠.nil:=fun i hi=>by
     split
     ·exact (ih i).2.1
     ·exact hi
    rcases hn.2 with ⟨hv,i,hi⟩ | ⟨i,j,hij,hi,hj⟩
    ·exact .inl ⟨hv,i,keep i hi⟩
    ·exact .inr ⟨i,j,hij,keep i hi,keep j hj⟩
   ·cases k with
    | nil=>rw [get_branch_nil,get_branch_nil,if_neg (show ¬([]:By)=a :: r by simp)]
    | cons b s =>
      rw [get_branch_hd,get_branch_hd]
      by_cases hb:b=a
      ·subst hb
       rw [at_idx ha,at_idx ha,if_pos rfl,(ih _).2.2.2]
       simp only [List.cons.injEq,true_and]
      ·rw [if_neg (by simp [hb])]
       unfold at_
       split
       ·rename_i hb16
        dsimp only
        rw [if_neg (fun e=>hb (UInt8.toNat_inj.1 e))]
       ·rfl
end Go.Trie
end
section
namespace Go.Trie
def isNil:Nd→Bool
 | .nil=>true
 | _=>false
def there (cs:Fin 16→Nd):List (Fin 16):=(List.finRange 16).filter fun i=> !isNil (cs i)
end Go.Trie
end
section
namespace Go.Vcg

structure Fresh (w0 w:World) (e:TypeId) (sz:Nat) (o:Option Addr) (l c:Nat) (xs:List Value):Prop where
 own:Own w e sz o l c xs
 mod:Mod NoB w0 w
 new:∀k,OB o k→w0.heap.size≤k
variable {P:Program} {w0 w w':World} {e t tx ty:TypeId} {sz l c n:Nat} {o:Option Addr} {xs news:List Value} {x:Value} {i:TypeInfo} {z:Value}
theorem Fresh.nil (M:Mod NoB w0 w) (e:TypeId) (sz:Nat):Fresh w0 w e sz none 0 0 []:=⟨Own.nil w e sz,M,fun k h=>(OB_none k h).elim⟩
theorem Fresh.mod' (h:Fresh w0 w e sz o l c xs) (M:Mod NoB w w'):Fresh w0 w' e sz o l c xs:=⟨h.own.mod' M,h.mod.trans M (fun _ _ h=>h),h.new⟩
theorem Fresh.push (h:Fresh w0 w e sz o l c xs) (ht:P.underlying t=some (.slice e)) (hi:P.info? e=some i) (hz:i.zero=some z) (hs:i.size=sz) (hzs:z.cells.size=sz)
 (src:Src P sz tx x n news w) (h63:l+n≤maxLen) (hb:(l+n) * i.bytes≤140737488355328) :
 ∃o' c' w',Sem.run P (builtinV .append #[t,tx] ty #[.slice o l c,x]) w=.ok (.slice o' (l+n) c') w'∧Fresh w0 w' e sz o' (l+n) c' (xs++news):=by
 obtain ⟨o',c',w',h1,h2,h3,h4⟩:=append_own (ty:=ty) ht hi hz hs hzs h.own src h63 hb
 refine ⟨o',c',w',h1,h2,h.mod.trans h3 (fun k hk hob=>absurd (h.new k hob) (by omega)),fun k hk=>?_⟩
 rcases h4 k hk with h5 | h5
 ·exact h.new k h5
 ·exact Nat.le_trans h.mod.size h5
section
variable {C:Type} {lab:Nat→C}
theorem Fresh.done (h:Fresh w0 w e sz o l c xs) (cl:C):COw w (ext lab w0.heap.size cl) cl e sz o l c xs∧Stp (fun _=>False) w0 lab w (ext lab w0.heap.size cl) :=
 ⟨⟨h.own,fun k hk=>ext_new (h.new k hk)⟩,Stp.of_nob h.mod cl⟩

def CRow (w:World) (lab:Nat→C) (c:C) (o:Option Addr) (xs:List Value):Prop :=
 ∀(j:Nat) (v:Value),xs[j]?=some v→∃b f,o=some ⟨b,f,none⟩∧b < w.heap.size∧lab b=c∧w.cell? ⟨b,f+j,none⟩=some v
variable {cl:C} {S:C→Prop} {lab':Nat→C}
theorem CRow.nil (w:World) (lab:Nat→C) (cl:C) (o:Option Addr):CRow w lab cl o []:=fun j v h=>by simp at h
theorem CRow.stp (h:CRow w lab cl o xs) (s:Stp S w lab w' lab') (hs:¬S cl):CRow w' lab' cl o xs:=fun j v hv=>by
 obtain ⟨b,f,ho,hb,hl,hc⟩:=h j v hv
 exact ⟨b,f,ho,Nat.lt_of_lt_of_le hb s.size,(s.lab b hb).trans hl,(World.cell?_of_block (s.block b hb (by rw [hl]; exact hs))).trans hc⟩
theorem COw.row (h:COw w lab cl e sz o l c xs):CRow w lab cl o xs:=fun j v hv=>by
 obtain ⟨g,rfl,hc⟩:=h.own.cell hv
 exact ⟨g,0,rfl,h.own.lt ⟨_,rfl,rfl⟩,h.clr _ ⟨_,rfl,rfl⟩,by rw [Nat.zero_add]; exact hc⟩
theorem CRow.src (h:CRow w lab cl o xs) (hk:P.underlying tx=some (.slice e)) (hl:xs.length=n * sz) (h1:∀u∈xs,u.oneCell'=true) (c:Nat) (hz:0 < sz):Src P sz tx (.slice o n c) n xs w:=by
 cases xs with
 | nil =>
   have:n=0:=by
    have:n * sz=0:=by simpa using hl.symm
    rcases Nat.mul_eq_zero.1 this with h | h <;> omega
   subst this
   cases o with
   | none=>exact Src.ofNil w hk c
   | some a=>exact Src.ofSlice w hk a 0 c [] hl (by simp) (by simp)
 | cons v r =>
   obtain ⟨b,f,rfl,_,_,_⟩:=h 0 v rfl
   refine Src.ofSlice w hk _ n c _ hl (fun j u hu=>?_) h1
   obtain ⟨b',f',ho,_,_,hc⟩:=h j u hu
   cases ho
   rw [add_at]; exact hc
theorem append_full {o:Option Addr} {news:List Value} {x:Value} {m:Nat} (h:CRow w lab cl o xs) (ht:P.underlying t=some (.slice e)) (hi:P.info? e=some i) (hz:i.zero=some z) (hs:i.size=sz) (hzs:z.cells.size=sz) (hsz:0 < sz)
 (hl:xs.length=l * sz) (src:Src P sz tx x (m+1) news w) (h63:l+(m+1)≤maxLen) (hb:(l+(m+1)) * i.bytes≤140737488355328) :
 ∃o' c' w',Sem.run P (builtinV .append #[t,tx] ty #[.slice o l l,x]) w=.ok (.slice o' (l+(m+1)) c') w'∧Fresh w w' e sz o' (l+(m+1)) c' (xs++news):=by
 have hold:(Builtin.firstCells i.size l (.slice o l l)).run P w.drew=.ok xs.toArray w.drew:=by
  subst hs
  cases o with
  | none =>
    have:xs=[]:=by
     cases xs with
     | nil=>rfl
     | cons v r=>obtain ⟨b,f,ho,_⟩:=h 0 v rfl; cases ho
    subst this
    have:l=0:=by
     have:l * i.size=0:=by simpa using hl.symm
     rcases Nat.mul_eq_zero.1 this with h | h <;> omega
    subst this
    exact run_firstCells_none w.drew i.size 0 0 0
  | some a =>
    exact run_firstCells_some w.drew i.size l _ l l xs hl (fun j v hv=>by
     obtain ⟨b,f,ho,_,_,hc⟩:=h j v hv
     cases ho
     rw [add_at]
     exact hc)
 have hr:=run_append_grow_src (P:=P) w t tx ty e i z ht hi hz o l l xs hold x (m+1) news (hs ▸ src) (by omega) (by simp only [maxLen] at h63; omega) (growslice_fits (by omega) hb)
 have hlen:(xs++news).length=(l+(m+1)) * sz:=by rw [List.length_append,hl,src.newsLen,← Nat.add_mul]
 have hge:=grownCap_ge w (l+(m+1)) l e
 have hcm:grownCap w (l+(m+1)) l e≤maxLen:=grownCap_le_maxLen w (l+(m+1)) l e h63
 refine ⟨_,_,_,hr,⟨hlen,.inr ⟨_,_,rfl,Blk.new w.drew e _,hge,hcm,?_,?_⟩⟩,((Mod.drew w).step_alloc _),fun k hk=>?_⟩
 ·rw [Array.size_append,List.size_toArray,hlen,size_zeroCells,hzs,← Nat.add_mul]
  congr 1; omega
 ·rw [Array.toList_append]
  show List.take _ ((xs++news)++_)=_
  rw [← hlen]
  exact List.take_left
 ·obtain ⟨d,hd,rfl⟩:=hk
  cases hd
  exact Nat.le_refl _
theorem add_zero_map (o:Option Addr) (k:Nat):Option.map (fun a=>Addr.add a (0 * k)) o=o:=by
 cases o with
 | none=>rfl
 | some a=>simp [Addr.add]
theorem run_slice3 {o:Option Addr} {l c h:Nat} (ht:P.underlying t=some (.slice e)) (hi:P.info? e=some i) (w:World) (hh:h≤c) :
 Sem.run P (Instr.sliceAt t (.slice o l c) none (some (.int .i64 (h:Int))) (some (.int .i64 (h:Int)))) w=.ok (.slice o h h) w:=by
 have e1:∀(y:Nat) (code:BoundsCode),h≤y→(Instr.sliceBound (.int .i64 (h:Int)) y code).run P w=.ok h w:=by
  intro y code hy
  simp [Instr.sliceBound,asIntOf,hy]
 have e2:(Instr.sliceBounds true l c none (some (.int .i64 (h:Int))) (some (.int .i64 (h:Int)))).run P w=.ok (0,h,h) w:=by
  unfold Instr.sliceBounds
  simp only [Sem.run_bind,e1 c _ hh,Result.andThen_ok,e1 h _ (Nat.le_refl _),Sem.run_pure]
 unfold Instr.sliceAt
 simp only [Sem.run_bind,run_und ht,Result.andThen_ok]
 unfold Instr.slice
 simp only [Sem.run_bind,run_und ht,Result.andThen_ok,e2,run_sizeOf hi,Sem.run_pure,add_zero_map,ite_self,Nat.sub_zero]
end
end Go.Vcg
end
section
namespace Go.Vcg

def strOf (bs:List UInt8):ByteArray:=⟨bs.toArray⟩
theorem run_toStr {P:Program} {w:World} {src dst e:TypeId} (hs:P.underlying src=some (.slice e)) (he:P.underlying e=some (.int .u8)) (hd:P.underlying dst=some .string) {o:Option Addr} {c:Nat} {bs:List UInt8} (h:RdB w o bs) :
 (convert src dst (.slice o bs.length c)).run P w=.ok (.string (strOf bs)) w:=by
 rw [run_convert_bytes_string w src dst e o bs.length c hs he hd]
 cases o with
 | none =>
   have:bs=[]:=by
    by_cases hne:bs=[]
    ·exact hne
    ·obtain ⟨b,f,h,_⟩:=h hne; cases h
   subst this
   rfl
 | some a =>
   have hl:(loadCells a bs.length).run P w=.ok ((bs.map fun b=>(b.toNat:Int)).map (Value.int .u8)).toArray w:=by
    have h1:(Builtin.firstCells 1 bs.length (.slice (some a) bs.length c)).run P w=.ok (bs.map bV).toArray w:=by
     refine run_firstCells_some w 1 bs.length a _ c _ (by simp) (fun j v hv=>?_)
     rw [List.getElem?_map,Option.map_eq_some_iff] at hv
     obtain ⟨x,hx,rfl⟩:=hv
     obtain ⟨hj,rfl⟩:=List.getElem?_eq_some_iff.1 hx
     obtain ⟨b,f,ho,_,hc⟩:=h (by intro e; rw [e] at hj; simp at hj)
     cases ho
     rw [add_at,hc j hj]
     simp [List.getD_eq_getElem?_getD,hj]
    simp only [Builtin.firstCells,Nat.mul_one] at h1
    rw [h1,List.map_map]; rfl
   rw [run_bytesToString w a _ c _ hl]
   have key:∀(l:List UInt8) (s:ByteArray),(l.map fun b=>(b.toNat:Int)).foldl (fun r n=>r.push (UInt8.ofNat n.toNat)) s=⟨s.data++l.toArray⟩:=by
    intro l
    induction l with
    | nil=>intro s; simp
    | cons b l ih =>
      intro s
      rw [List.map_cons,List.foldl_cons,ih]
      have e1:UInt8.ofNat ((b.toNat:Int)).toNat=b:=by rw [Int.toNat_natCast,UInt8.ofNat_toNat]
      rw [e1]
      congr 1
      show s.data.push b++l.toArray=_
      rw [List.toArray_cons,← Array.append_assoc]
      rfl
   rw [key]
   show Result.ok (Value.string ⟨#[]++bs.toArray⟩) w=_
   rw [Array.empty_append]; rfl
theorem strB_eql (a b:ByteArray):strB .eql a b=decide (a.data.toList=b.data.toList):=by
 simp only [strB,ByteArray.toList_eq]
 by_cases h:a.data.toList=b.data.toList
 ·rw [decide_eq_true h,h]; simp
 ·rw [decide_eq_false h]; simpa using h
theorem strB_strOf (a b:List UInt8):strB .eql (strOf a) (strOf b)=decide (a=b):=by
 rw [strB_eql]; rfl
end Go.Vcg
end
section
namespace Go.Proofs.YtfghidehlnfdiaaGreat
open Go Go.Vcg Go.Trie

theorem calls_gen {P:Program} {f:FuncId} {args:Array Value} {w:World} {Q:Ending→World→Prop} (h:∀R:Ending→World→Prop,(∀e w',Q e w'→R e w')→Calls P f args w R):Calls P f args w Q :=
 h Q (fun _ _ h=>h)
theorem info_of {t:TypeId} {z:Value} {s b:Nat} (h:(Tryz.prog.info? t).map (fun i=>(i.zero,i.size,i.bytes))=some (some z,s,b)):∃i,Tryz.prog.info? t=some i∧i.zero=some z∧i.size=s∧i.bytes=b:=by
 obtain ⟨i,hi,h1⟩:=Option.map_eq_some_iff.1 h
 simp only [Prod.mk.injEq] at h1
 exact ⟨i,hi,h1⟩
theorem push_bytes {w0 w:World} {o:Option Addr} {n k:Nat} {b:List UInt8} {ty:TypeId} (F:Fresh w0 w tU8 1 o n k (b.map bV)) {o2:Option Addr} {c:List UInt8} {k2:Nat} (hr:RdB w o2 c) (hn:n+c.length≤2 ^ 40) :
 ∃o' c' w',Sem.run Tryz.prog (builtinV .append #[tSlU8,tSlU8] ty #[.slice o n k,.slice o2 c.length k2]) w=.ok (.slice o' (n+c.length) c') w'∧Fresh w0 w' tU8 1 o' (n+c.length) c' ((b++c).map bV):=by
 obtain ⟨i,hi,hz,hs,hb⟩:=info_of info_u8
 rw [List.map_append]
 exact F.push und_slU8 hi hz hs rfl (src_bytes und_slU8 hr) (by simp only [maxLen]; omega) (by rw [hb]; omega)
theorem copy_bytes' {w0 w:World} (M:Vcg.Mod NoB w0 w) {o2:Option Addr} {c:List UInt8} {k2:Nat} {ty:TypeId} (hr:RdB w o2 c) (hn:c.length≤2 ^ 40) :
 ∃o' c' w',Sem.run Tryz.prog (builtinV .append #[tSlU8,tSlU8] ty #[.slice none 0 0,.slice o2 c.length k2]) w=.ok (.slice o' c.length c') w'∧Fresh w0 w' tU8 1 o' c.length c' (c.map bV):=by
 have:=push_bytes (k2:=k2) (ty:=ty) (b:=[]) (Fresh.nil M tU8 1) hr (by omega)
 simpa using this
theorem fresh_bytes {w0 w:World} {o:Option Addr} {l k:Nat} {bs:List UInt8} (F:Fresh w0 w tU8 1 o l k (bs.map bV)):RdB w o bs:=F.own.bytes
theorem rdb_get {w:World} {o:Option Addr} {bs:List UInt8} (h:RdB w o bs) {i:Nat} (hi:i < bs.length):∃b f,o=some ⟨b,f,none⟩∧b < w.heap.size∧w.cell? ⟨b,f+i,none⟩=some (bV bs[i]):=by
 obtain ⟨b,f,ho,hb,hc⟩:=h (by intro e; rw [e] at hi; simp at hi)
 refine ⟨b,f,ho,hb,?_⟩
 rw [hc i hi]
 simp [List.getD_eq_getElem?_getD,hi]
theorem two_bytes {w:World} (a b:UInt8) {n m:Int} (hn:n=(a.toNat:Int)) (hm:m=(b.toNat:Int)):RdB (w.alloc (.cells #[.int .u8 n,.int .u8 m] 5)) (some ⟨w.heap.size,0,none⟩) [a,b]:=by
 subst hn hm
 exact RdB.of_blk (Blk.new w 5 #[bV a,bV b]) (fun i hi=>by
  rcases i with _ | _ | i
  ·rfl
  ·rfl
  ·exact absurd hi (by simp))
theorem hi_nib (b:UInt8):Int.fdiv (b.toNat:Int) 16=((b >>> 4).toNat:Int):=by
 have:∀n:Fin 256,Int.fdiv ((UInt8.ofFin n).toNat:Int) 16=((UInt8.ofFin n >>> 4).toNat:Int):=by decide +kernel
 exact this b.toFin
theorem lo_nib (b:UInt8):bitsI .and .u8 (b.toNat:Int) 15=((b &&& 15).toNat:Int):=by
 have:∀n:Fin 256,bitsI .and .u8 ((UInt8.ofFin n).toNat:Int) 15=((UInt8.ofFin n &&& 15).toNat:Int):=by decide +kernel
 exact this b.toFin
theorem nibbles_len (k:By):(nibbles k).length=2 * k.length:=by
 induction k with
 | nil=>rfl
 | cons a r ih =>
   show ([a >>> 4,a &&& 15]++nibbles r).length=_
   rw [List.length_append,ih]; simp; omega
theorem nibbles_snoc (k:By) (a:UInt8):nibbles (k++[a])=nibbles k++[a >>> 4,a &&& 15]:=by
 unfold nibbles
 rw [List.flatMap_append]; rfl
theorem Nibbles_calls {w:World} {o:Option Addr} {k:Nat} {bs:List UInt8} (hr:RdB w o bs) (hl:bs.length≤2 ^ 30) :
 Calls Tryz.prog trie_Nibbles.n #[.slice o bs.length k] w (fun e w'=>∃o' k',e=.returned (.slice o' (nibbles bs).length k')∧Fresh w w' tU8 1 o' (nibbles bs).length k' ((nibbles bs).map bV)):=by
 refine trie_Nibbles.vc _ _ _ _ _ ?_
 unfold trie_Nibbles.Vc
 refine ⟨fun o' l' k' i w'=>∃j:Nat,i=(j:Int)∧j≤bs.length∧l'=(nibbles (bs.take j)).length∧Fresh w w' tU8 1 o' l' k' ((nibbles (bs.take j)).map bV),fun _ _ _ i _=>((bs.length:Int) - i).toNat,
  ⟨0,rfl,Nat.zero_le _,rfl,Fresh.nil (Mod.refl w) _ _⟩,?_⟩
 rintro o' _ k' _ _ w1 ⟨j,rfl,hj,rfl,F⟩
 refine ⟨fun hlt=>?_,fun hge=>?_⟩
 ·have hjl:j < bs.length:=by omega
  obtain ⟨b,f,rfl,hb,hc⟩:=rdb_get hr hjl
  have htk:bs.take (j+1)=bs.take j++[bs[j]]:=by rw [List.take_add_one,List.getElem?_eq_getElem hjl]; rfl
  refine ⟨_,rfl,by omega,_,by rw [add_at,Int.toNat_natCast]; exact (cell_mod F.mod hb (fun h=>h)).trans hc,?_⟩
  rintro d w2 ⟨rfl,rfl⟩
  have hnl:=nibbles_len (bs.take j)
  rw [List.length_take] at hnl
  obtain ⟨o3,k3,w3,hr3,F3⟩:=push_bytes (ty:=tSlU8) (k2:=2) (F.mod' (Mod.alloc _ _)) (two_bytes (w:=w1) (bs[j] >>> 4) (bs[j] &&& 15) (hi_nib _) (lo_nib _)) (by simp; omega)
  refine ⟨_,w3,hr3,_,_,_,rfl,⟨j+1,by rw [wrap_i64_small (by omega) (by omega)]; omega,hjl,?_,?_⟩,?_⟩
  ·rw [htk,nibbles_snoc,List.length_append]
  ·rw [htk,nibbles_snoc]; exact F3
  ·dsimp only
   rw [wrap_i64_small (by omega) (by omega)]; omega
 ·obtain rfl:j=bs.length:=by omega
  rw [List.take_length] at F ⊢
  exact ⟨_,_,rfl,F⟩
theorem Clone_calls {w:World} {o:Option Addr} {k:Nat} {bs:List UInt8} (hr:RdB w o bs) (hl:bs.length≤2 ^ 40) :
 Calls Tryz.prog bytes_Clone.n #[.slice o bs.length k] w (fun e w'=>∃o' k',e=.returned (.slice o' bs.length k')∧Fresh w w' tU8 1 o' bs.length k' (bs.map bV)):=by
 refine bytes_Clone.vc _ _ _ _ _ ?_
 unfold bytes_Clone.Vc
 refine ⟨fun h=>?_,fun h=>?_⟩
 ·subst h
  have:bs=[]:=by
   by_cases hne:bs=[]
   ·exact hne
   ·obtain ⟨b,f,ho,_⟩:=hr hne; cases ho
  subst this
  exact ⟨none,0,rfl,Fresh.nil (Mod.refl w) _ _⟩
 ·rintro d w2 ⟨rfl,rfl⟩
  have M2:=Mod.alloc (S:=NoB) w (.cells #[] 5)
  have F:Fresh w (w.alloc (.cells #[] 5)) tU8 1 (some ⟨w.heap.size,0,none⟩) 0 0 (([]:List UInt8).map bV) :=
   ⟨⟨rfl,.inr ⟨_,#[],rfl,Blk.new w 5 #[],Nat.le_refl _,by simp [maxLen],rfl,rfl⟩⟩,M2,fun k hk=>by obtain ⟨d,hd,rfl⟩:=hk; cases hd; exact Nat.le_refl _⟩
  obtain ⟨o3,k3,w3,hr3,F3⟩:=push_bytes (ty:=tSlU8) (k2:=k) F (hr.mod' M2) (by omega)
  rw [Nat.zero_add] at hr3 F3
  rw [List.nil_append] at F3
  exact ⟨_,w3,hr3,_,_,_,rfl,_,_,rfl,F3⟩
end Go.Proofs.YtfghidehlnfdiaaGreat
end
