/- Contract: the document's hash. -/
/- Equality of arrays of numbers. -/
/- Arguments: what a reading tells of the value. -/
/- Coloured heaps: each block has a colour, and a step says which colours it may change. -/
/- Maps: what a map's block holds, read, written, gone through. -/
/- Tries as plain Lean: items, nodes, paths. -/
/- Tries as plain Lean: there is but one canonical trie of a map. -/
/- Tries as plain Lean: what putting does. -/
/- Tries as plain Lean: what taking away does. -/
/- Rows that a call makes anew: copied, appended to, and handed on; rows of cells that are only read. -/
/- Bytes as strings; slices that are made. -/
/- Contracts: bytes that are made anew; nibbles; packed paths. -/
/- Contracts: packed paths; what two paths share. -/
/- Contracts: bytes held against one another; heads of items. -/
import Derived.Test.YtfghidehlnfdiaaGreatXRef
import Derived.Laws.StructEq
import Derived.ProofKit
import Derived.OpenShut
import Derived.ShutString
import Derived.ChangeOld
import Derived.Below
import Derived.Carry
import Derived.Maps.Range
import Derived.DeepKeys4
import Derived.StringKeys
import Derived.Test.YtfghidehlnfdiaaGreatXFun
import Derived.Laws.BytesString
import Derived.Laws.MakeOwn
import Derived.Test.YtfghidehlnfdiaaGreatXKec
set_option linter.unusedVariables false
set_option linter.unusedSimpArgs false
section
namespace Go.Proofs.YtfghidehlnfdiaaGreat
open Go Go.Vcg

theorem or1 (w:World) (x y:Operand):Sem.run Tryz.prog (Z0q .or tU8 x y (.int .u8 1) (.int .u8 128)) w=.ok (.int .u8 129) w:=by rfl
theorem or0 (w:World) (x y:Operand):Sem.run Tryz.prog (Z0q .or tU8 x y (.int .u8 0) (.int .u8 128)) w=.ok (.int .u8 128) w:=by rfl
theorem Z7w (b:UInt8):IntKind.wrap .u64 (b.toNat:Int)=uI (Z62 b):=by rw [← ZCo,Z7x]

theorem Z4Q {w:World} {o0:Option Addr} {l0 c0:Nat} (m:List UInt8) (hl:l0=m.length) (hmax:m.length≤2 ^ 40) (hr:RdB w o0 m) :
  Calls Tryz.prog Z0o.n #[.slice o0 l0 c0] w (fun e w'=>e=.returned (.agg (hashA (sumOf m)))∧Vcg.Mod NoB w w'):=by
 subst hl
 refine Z0o.vc _ _ _ _ _ ?_
 unfold Z0o.Vc
 rintro d1 w2 ⟨rfl,rfl⟩ d3 w4 ⟨rfl,rfl⟩
 have B1:=(Blk.new w tHash (Array.replicate 32 (.int .u8 0))).alloc (.cells (Array.replicate 25 (.int .u64 0)) tLanes)
 have B3:=Blk.new (w.alloc (.cells (Array.replicate 32 (.int .u8 0)) tHash)) tLanes (Array.replicate 25 (.int .u64 0))
 have M:=(Mod.alloc (S:=NoB) w (.cells (Array.replicate 32 (.int .u8 0)) tHash)).step_alloc (.cells (Array.replicate 25 (.int .u64 0)) tLanes)
 simp only [ZD] at B3 ⊢
 generalize (w.alloc (.cells (Array.replicate 32 (.int .u8 0)) tHash)).alloc (.cells (Array.replicate 25 (.int .u64 0)) tLanes)=w4 at *
 generalize hNe:w.heap.size=N at *
 refine ⟨fun n w'=>∃k:Nat,n=((136 * k:Nat):Int)∧k≤m.length / 136+1∧Vcg.Mod NoB w w'∧Blk w' N tHash (Array.replicate 32 (.int .u8 0))∧Blk w' (N+1) tLanes (lanesA (Z7i m k)),
  fun n _=>((m.length:Int)+136 - n).toNat,⟨0,rfl,by omega,M,B1,by rw [Zn] at B3; exact B3⟩,?_⟩
 clear M B1 B3
 rintro _ _ w1 ⟨k,rfl,hk,M,B1,B3⟩
 refine ⟨fun hle=>?_,fun hgt=>?_⟩
 ·have hk':136 * k≤m.length:=by omega
  refine Z4L 136 (fun i w'=>Vcg.Mod NoB w w'∧Blk w' N tHash (Array.replicate 32 (.int .u8 0))∧Blk w' (N+1) tLanes (lanesA (ZF3 (Z7i m k) (cAt m k) i))) rfl ⟨M,B1,B3⟩ ?_ ?_
  ·clear M B1 B3
   rintro i _ w10 hi ⟨M,B1,B3⟩
   have eI:IntKind.wrap .i64 (((136 * k:Nat):Int)+(i:Int))=((136 * k+i:Nat):Int):=by rw [Z0 (by omega) (by omega)]; omega
   have eJ:IntKind.wrap .i64 (((136 * k:Nat):Int)+136)=((136 * k+136:Nat):Int):=by rw [Z0 (by omega) (by omega)]; omega
   have eq:IntKind.wrap .i64 (Int.tdiv (i:Int) 8)=((i / 8:Nat):Int):=by
    rw [Int.tdiv_eq_ediv_of_nonneg (by omega),Z0 (by omega) (by omega)]; omega
   have es:IntKind.wrap .i64 (8 * Int.tmod (i:Int) 8)=((8 * (i % 8):Nat):Int):=by
    simp (disch:=omega) only [Z2N,Z0]; omega
   rw [eI,eJ,eq,es]
   have tail:∀(v:Int),v=uI (Z62 (cAt m k i))→∀w13:World,ZN w10 w13 →
     (0≤((i / 8:Nat):Int)∧((i / 8:Nat):Int) < ((25:Nat):Int)) ∧
     ∃n14:Int,World.cell? w13 (Addr.add ⟨N+1,0,none⟩ (Int.toNat ((i / 8:Nat):Int)))=some (.int .u64 n14) ∧
     0≤((8 * (i % 8):Nat):Int) ∧
     (0≤((i / 8:Nat):Int)∧((i / 8:Nat):Int) < ((25:Nat):Int)) ∧
     Z1 w13 (Addr.add ⟨N+1,0,none⟩ (Int.toNat ((i / 8:Nat):Int))) (.int .u64 (bitsI .xor .u64 n14 (shlI .u64 v ((8 * (i % 8):Nat):Int)))) ∧
     ∀w15:World,ZA w13 (Addr.add ⟨N+1,0,none⟩ (Int.toNat ((i / 8:Nat):Int))) (.int .u64 (bitsI .xor .u64 n14 (shlI .u64 v ((8 * (i % 8):Nat):Int)))) w15 →
     Z7z 136 (fun i w'=>Vcg.Mod NoB w w'∧Blk w' N tHash (Array.replicate 32 (.int .u8 0))∧Blk w' (N+1) tLanes (lanesA (ZF3 (Z7i m k) (cAt m k) i))) (IntKind.wrap .i64 ((i:Int)+1)) w15 ∧
      Vcg.ZGH 136 (IntKind.wrap .i64 ((i:Int)+1)) w15 < Vcg.ZGH 136 (i:Int) w10:=by
    rintro v rfl _ rfl
    refine ⟨by omega,_,B3.drew.rd0 (ZY _ (by omega)),by omega,by omega,B3.drew.canSet0 (by rw [ZL]; omega) rfl,fun w15 h15=>?_⟩
    rw [h15.at,Z8p,Z0h]
    refine Z7z.next (by rw [Z0 (by omega) (by omega)]; omega) hi ⟨(M.step_drew).step_set (fun h=>by simp only [hNe] at h; omega),B1.drew.set_ne (by simp),?_⟩
    have:=B3.drew.set (i / 8) (uV (ZF3 (Z7i m k) (cAt m k) i (i / 8) ^^^ (Z62 (cAt m k i) <<< (8 * (i % 8)))))
    rw [lanesA,Z0V] at this
    refine (show _=lanesA (ZF3 (Z7i m k) (cAt m k) (i+1)) from ZG (fun j hj=>?_)) ▸ this
    rw [ZF3]
    by_cases h:j=i / 8
    ·simp only [h,if_true]
    ·simp only [h,if_false]
   have c128:∀x:UInt8,IntKind.wrap .u64 (bitsI .or .u8 (x.toNat:Int) 128)=uI (Z62 (x ||| 128)):=fun x=>by rw [show (128:Int)=((128:UInt8).toNat:Int) from rfl,Z51,Z7w]
   have z:∀x:UInt8,x ||| 0=x:=fun x=>by simp
   refine ⟨fun hin=>?_,fun hout=>?_⟩
   ·obtain ⟨d,rfl,hd⟩:=(hr.mod' M).get (i:=136 * k+i) (by omega)
    refine ⟨d,rfl,by omega,_,hd,fun h135=>⟨fun hg=>?_,fun hg=>?_⟩,fun h135=>?_⟩
    ·refine tail _ ?_
     rw [c128,cAt,if_pos (by omega),if_pos (by omega)]
    ·refine tail _ ?_
     rw [Z7w,cAt,if_pos (by omega),if_neg (by omega),z]
    ·refine tail _ ?_
     rw [Z7w,cAt,if_pos (by omega),if_neg (by omega),z]
   ·refine ⟨fun he=>⟨fun h135=>⟨fun hg=>?_,fun hg=>?_⟩,fun h135=>?_⟩,fun he=>⟨fun h135=>⟨fun hg=>?_,fun hg=>?_⟩,fun h135=>?_⟩⟩
    ·refine ⟨_,or1 _ _ _,_,rfl,tail _ ?_⟩
     rw [cAt,if_neg (by omega),if_pos (by omega),if_pos (by omega)]; rfl
    ·refine tail _ ?_
     rw [cAt,if_neg (by omega),if_pos (by omega),if_neg (by omega)]; rfl
    ·refine tail _ ?_
     rw [cAt,if_neg (by omega),if_pos (by omega),if_neg (by omega)]; rfl
    ·refine ⟨_,or0 _ _ _,_,rfl,tail _ ?_⟩
     rw [cAt,if_neg (by omega),if_neg (by omega),if_pos (by omega)]; rfl
    ·refine tail _ ?_
     rw [cAt,if_neg (by omega),if_neg (by omega),if_neg (by omega)]; rfl
    ·refine tail _ ?_
     rw [cAt,if_neg (by omega),if_neg (by omega),if_neg (by omega)]; rfl
  ·clear M B1 B3
   rintro _ w10 ⟨M,B1,B3⟩
   rw [ZAK (fun j hj=>ZF4 _ _ j hj)] at B3
   refine ⟨_,B3.rowAll (ZL _),(Z6o _ _).mono ?_⟩
   rintro _ w11 ⟨rfl,M11⟩
   refine ⟨_,rfl,_,(B3.mod' M11).storeAll (L:=lanesA (Z7i m (k+1))) (by rw [ZL]; kernel_rfl) (by rw [ZL,ZL]) (Z1d _),⟨k+1,by rw [Z0 (by omega) (by omega)]; omega,by omega,(M.none_trans M11).step_row (fun h=>by omega),(B1.mod' M11).row_ne (by omega),(B3.mod' M11).row_same _⟩,?_⟩
   dsimp only
   rw [Z0 (by omega) (by omega)]; omega
 ·obtain rfl:k=m.length / 136+1:=by omega
  rw [ZDJ] at B3
  rintro d49 w50 ⟨rfl,rfl⟩
  have hq:N+1 < w1.heap.size:=B3.lt
  have B4:=Blk.new w1 tHash (Array.replicate 32 (.int .u8 0))
  replace B1:=B1.alloc (.cells (Array.replicate 32 (.int .u8 0)) tHash)
  replace B3:=B3.alloc (.cells (Array.replicate 32 (.int .u8 0)) tHash)
  replace M:=M.step_alloc (.cells (Array.replicate 32 (.int .u8 0)) tHash)
  generalize w1.alloc (.cells (Array.replicate 32 (.int .u8 0)) tHash)=w2 at *
  generalize w1.heap.size=T at *
  refine Z4L 32 (fun i w'=>Vcg.Mod NoB w w'∧Blk w' N tHash (Array.replicate 32 (.int .u8 0))∧Blk w' (N+1) tLanes (lanesA (Z4K m))∧Blk w' T tHash (ZS 32 (fun j=>bV (if j < i then Z3s (Z4K m) j else 0)))) rfl
   ⟨M,B1,B3,by rw [Zn] at B4; simp only [Nat.not_lt_zero,if_false]; exact B4⟩ ?_ ?_
  ·clear M B1 B3 B4
   rintro i _ w3 hi ⟨M,B1,B3,B4⟩
   have eq:IntKind.wrap .i64 (Int.tdiv (i:Int) 8)=((i / 8:Nat):Int):=by
    rw [Int.tdiv_eq_ediv_of_nonneg (by omega),Z0 (by omega) (by omega)]; omega
   have es:IntKind.wrap .i64 (8 * Int.tmod (i:Int) 8)=((8 * (i % 8):Nat):Int):=by
    simp (disch:=omega) only [Z2N,Z0]; omega
   rw [eq,es]
   refine ⟨by omega,_,B3.rd0 (ZY _ (by omega)),by omega,by omega,B4.canSet0 (by rw [Z06]; omega) rfl,fun w15 h15=>?_⟩
   rw [h15.at,ZCj _ _ _ rfl,Z6k]
   refine Z7z.next (by rw [Z0 (by omega) (by omega)]; omega) hi ⟨M.step_set (fun h=>by simp only [hNe] at h; omega),B1.set_ne (by simp; omega),B3.set_ne (by simp; omega),?_⟩
   have:=B4.set i (bV (Z3s (Z4K m) i))
   rw [Z0V] at this
   refine (show _=ZS 32 (fun j=>bV (if j < i+1 then Z3s (Z4K m) j else 0)) from ZG (fun j hj=>?_)) ▸ this
   by_cases h:j=i
   ·rw [if_pos h,if_pos (by omega),h]
   ·rw [if_neg h]
    by_cases h2:j < i
    ·rw [if_pos h2,if_pos (by omega)]
    ·rw [if_neg h2,if_neg (by omega)]
  ·clear M B1 B3 B4
   rintro _ w3 ⟨M,B1,B3,B4⟩
   have e:ZS 32 (fun j=>bV (if j < 32 then Z3s (Z4K m) j else 0))=hashA (sumOf m):=ZG (fun j hj=>by rw [if_pos hj,Z8S m hj])
   rw [e] at B4
   exact ⟨_,B4.rowAll (ZB _),_,B1.storeAll (L:=hashA (sumOf m)) (by rw [ZB]; kernel_rfl) (by rw [ZB,Array.size_replicate]) (Z2c _),_,(B1.row_same _).rowAll (ZB _),rfl,M.step_row (fun h=>by omega)⟩

end Go.Proofs.YtfghidehlnfdiaaGreat
end
section
namespace Go.Vcg

section
variable {P:Program} {w:World} {t e:TypeId} {n:Nat} {k:IntKind}

theorem Z4R (d:Nat) (ht:P.underlying t=some (.array n e)) (he:P.underlying e=some (.int k)) (hsz:(P.info? e).map (·.size)=some 1) (f g:Nat→Int) :
  (Op.equalIn (d+2) t (.agg (ZS n (fun i=>.int k (f i)))) (.agg (ZS n (fun i=>.int k (g i))))).run P w=.ok (decide (∀i,i < n→f i=g i)) w:=by
 obtain ⟨inf,hi1,hi2⟩:=Option.map_eq_some_iff.1 hsz
 have hs:∀w,(sizeOf e).run P w=.ok 1 w:=fun w=>by simp [sizeOf,typeInfo,hi1,hi2]
 have hall:decide (∀i,i < n→f i=g i)=((List.range' 0 n 1).all fun i=>f i == g i):=by
  rw [Bool.eq_iff_iff]
  simp only [decide_eq_true_eq,List.all_eq_true,List.mem_range'_1,Nat.zero_le,true_and,Nat.zero_add,beq_iff_eq]
 rw [hall,Op.equalIn]
 simp only [Sem.run_bind,run_underlying ht,Result.andThen_ok,hs,Std.Legacy.Range.forIn_eq_forIn_range',Std.Legacy.Range.size,Nat.sub_zero,Nat.add_sub_cancel,Nat.div_one]
 have hl:∀i∈List.range' 0 n 1,i < n:=fun i hi=>by simpa using (List.mem_range'_1.1 hi).2
 generalize List.range' 0 n 1=l at hl ⊢
 induction l with
 | nil=>simp
 | cons i l ih =>
   have hi:i < n:=hl i (by simp)
   have px:∀h:Nat→Int,(part e (ZS n (fun i=>Value.int k (h i))) (i * 1)).run P w=.ok (.int k (h i)) w:=by
    intro h
    simp only [Nat.mul_one]
    simp [part,isAgg,run_underlying he,ZF hi]
   have pe:(Op.equalIn (d+1) e (.int k (f i)) (.int k (g i))).run P w=.ok (f i == g i) w:=run_equalIn_int w d e k k _ _ he
   simp only [List.forIn_cons,Sem.run_bind,px,pe,Result.andThen_ok,List.all_cons]
   cases hb:(f i == g i)
   ·simp
   ·simp only [Bool.not_true,Bool.false_eq_true,if_false,Sem.run_pure,Result.andThen_ok,Bool.true_and]
    exact ih fun j hj=>hl j (by simp [hj])

theorem ZEg (ht:P.underlying t=some (.array n e)) (he:P.underlying e=some (.int k)) (hsz:(P.info? e).map (·.size)=some 1) (hg:P.eqGuardType P.depth t=false) (x y:Operand) (f g:Nat→Int) :
  Sem.run P (Z0q .eql t x y (.agg (ZS n (fun i=>.int k (f i)))) (.agg (ZS n (fun i=>.int k (g i))))) w=.ok (.bool (decide (∀i,i < n→f i=g i))) w:=by
 have hgd:(eqGuard .eql t x y (.agg (ZS n (fun i=>.int k (f i)))) (.agg (ZS n (fun i=>.int k (g i))))).run P w=.ok () w:=by
  have hpg:∀w,Sem.run P program w=.ok P w:=fun w=>rfl
  simp [eqGuard,hpg,hg]
 rw [Z0q,Sem.run_bind,hgd,Result.andThen_ok,run_eql_struct,Z4R 9998 ht he hsz]
 rfl
theorem ZEh (ht:P.underlying t=some (.array n e)) (he:P.underlying e=some (.int k)) (hsz:(P.info? e).map (·.size)=some 1) (hg:P.eqGuardType P.depth t=false) (x y:Operand) (f g:Nat→Int) :
  Sem.run P (Z0q .neq t x y (.agg (ZS n (fun i=>.int k (f i)))) (.agg (ZS n (fun i=>.int k (g i))))) w=.ok (.bool (!decide (∀i,i < n→f i=g i))) w:=by
 have hgd:(eqGuard .neq t x y (.agg (ZS n (fun i=>.int k (f i)))) (.agg (ZS n (fun i=>.int k (g i))))).run P w=.ok () w:=by
  have hpg:∀w,Sem.run P program w=.ok P w:=fun w=>rfl
  simp [eqGuard,hpg,hg]
 rw [Z0q,Sem.run_bind,hgd,Result.andThen_ok,run_neq_struct,Z4R 9998 ht he hsz]
 rfl
end

theorem Z6R {P:Program} {w:World} {t e:TypeId} {b l c:Nat} {te:TypeId} {cs:Array Value} (ht:P.underlying t=some (.slice e)) (he:P.underlying e=some (.int .u8)) (h:Blk w b te cs) :
  ∃w',Sem.run P (convert t t (.slice (some ⟨b,0,none⟩) l c)) w=.ok (.slice (some ⟨b,0,none⟩) l c) w'∧Mod (·=b) w w'∧∀a,w'.cell? a=w.cell? a:=by
 have hb:w.heap[b]?=some (.cells cs te (0,0)):=h
 refine ⟨w.freeze ⟨b,cs.size,none⟩ 1,?_,?_,?_⟩
 ·have h1:∀w:World,Sem.run P (shape b) w=.ok (w.shape? b) w:=fun w=>rfl
  have h2:∀(a:Addr) (n:Nat) (w:World),Sem.run P (freeze a n) w=.ok () (w.freeze a n):=fun a n w=>rfl
  have h3:w.shape? b=some (te,cs.size):=by simp [World.shape?,hb]
  simp [convert,run_underlying ht,run_underlying he,markStringish,h1,h2,h3]
 ·unfold World.freeze
  rw [if_neg (by decide)]
  exact ⟨rfl,rfl,rfl,by simp,fun k hk hn=>by simp only [Array.getElem?_modify]; rw [if_neg (fun e=>hn e.symm)]⟩
 ·intro a
  unfold World.freeze
  rw [if_neg (by decide)]
  simp only [World.cell?,Array.getElem?_modify]
  by_cases ha:b=a.block
  ·rw [if_pos ha,← ha,hb]; rfl
  ·rw [if_neg ha]

end Go.Vcg
end
section
namespace Go.Vcg
open Go

theorem Z6t {α β:Type} {f:α→Option β}:∀{l:List α} {ys:List β},l.mapM f=some ys→∀x∈l,∃y,f x=some y
 | [],_,_,x,hx=>by cases hx
 | a :: l,ys,h,x,hx=>by
   rw [List.mapM_cons] at h
   cases ha:f a with
   | none=>simp [ha] at h
   | some b =>
     cases hl:l.mapM f with
     | none=>simp [ha,hl] at h
     | some bs =>
       rcases List.mem_cons.1 hx with rfl | hx
       ·exact ⟨b,ha⟩
       ·exact Z6t hl x hx

section
variable {H:Type} {enc:TypeId×Value→H} {P:Program} {W:World} {sp:Nat→Bool} {held:Bool} {b0 base:Nat} {r:Reach}

theorem Z6W {t e:TypeId} {n:Nat} {k:IntKind} {v:Value} {d:DataW H} {ps:List MemPlace} (ht:P.underlying t=some (.array n e)) (he:P.underlying e=some (.int k)) (hce:P.cellsOf e=1) (hct:P.cellsOf t=n)
  (hv:Value.okWide P W r b0 t v) (hd:DataW.Trod enc P W base sp held t v d ps):∃f:Nat→Int,v=.agg (ZS n (fun i=>.int k (f i)))∧∀i,i < n→(Lit.int k (f i)).wf=true:=by
 unfold Value.okWide at hv
 rw [ht] at hv
 obtain ⟨cs,rfl,hcs,_⟩:=hv
 rw [hct] at hcs
 obtain ⟨fuel,hf⟩:=hd
 cases fuel with
 | zero=>simp [DataW.trod] at hf
 | succ fuel =>
   simp only [DataW.trod,ht,Value.cells] at hf
   rw [if_pos (by simp [hcs,hct])] at hf
   obtain ⟨ys,hy,_⟩:=Option.map_eq_some_iff.1 hf
   have hall:∀i,i < n→∃m,cs[i]?=some (.int k m)∧(Lit.int k m).wf=true:=by
    intro i hi
    obtain ⟨y,h1⟩:=Z6t hy i (List.mem_range.2 hi)
    have h2:(cs.toList.drop (i * 1)).take 1=[cs[i]]:=by
     rw [Nat.mul_one,List.drop_eq_getElem_cons (by simp; omega)]
     simp
    rw [hce,h2] at h1
    cases fuel with
    | zero=>simp [DataW.trod] at h1
    | succ fuel =>
      simp only [DataW.trod,he] at h1
      generalize hc:cs[i]=c at h1
      cases c with
      | int k' m =>
        simp only at h1
        split at h1
        ·rename_i hk
         obtain ⟨rfl,hw⟩:=hk
         exact ⟨m,by rw [Array.getElem?_eq_getElem (by omega),hc],hw⟩
        ·cases h1
      | _=>simp at h1
   refine ⟨fun i=>match cs[i]? with | some (.int _ m)=>m | _=>0,?_,?_⟩
   ·congr 1
    refine Z96 hcs (fun i hi=>?_)
    obtain ⟨m,hm,_⟩:=hall i hi
    simp only [hm]
   ·intro i hi
    obtain ⟨m,hm,hw⟩:=hall i hi
    simp only [hm]; exact hw
end

section
variable {H:Type} {enc:TypeId×Value→H} {P:Program} {W:World} {sp:Nat→Bool} {held:Bool} {base:Nat}

theorem Z54 {a:Addr} {vs:List Value} (h:W.cells? base a 1=some vs):∃v,vs=[v]∧W.cell? a=some v:=by
 unfold World.cells? at h
 split at h
 ·simp only [List.range_one,List.mapM_cons,List.mapM_nil] at h
  have e:a.add 0=a:=by simp [Addr.add]
  rw [e] at h
  cases hc:W.cell? a with
  | none=>simp [hc] at h
  | some v=>simp [hc] at h; exact ⟨v,h.symm,rfl⟩
 ·cases h

theorem Z8t {fuel:Nat} {t e:TypeId} {v:Value} {d:DataW H} {ps:List MemPlace} (ht:P.underlying t=some (.slice e)) (hce:P.cellsOf e=1)
  (h:DataW.trod enc P W base sp held fuel t [v]=some (d,ps)) :
  ∃o l c,v=.slice o l c∧l≤c∧c≤maxLen∧∀i,i < l→∃b f u d' ps' fuel',o=some ⟨b,f,none⟩∧b < W.heap.size∧W.cell? ⟨b,f+i,none⟩=some u∧DataW.trod enc P W base sp held fuel' e [u]=some (d',ps'):=by
 cases fuel with
 | zero=>simp [DataW.trod] at h
 | succ fuel =>
   cases v with
   | slice o l c =>
     cases o with
     | none =>
       have:l=0∧c=0:=by
        rcases l with _ | l <;> rcases c with _ | c <;> simp [DataW.trod,ht] at h ⊢
       obtain ⟨rfl,rfl⟩:=this
       exact ⟨none,0,0,rfl,Nat.le_refl _,Nat.zero_le _,fun i hi=>(Nat.not_lt_zero _ hi).elim⟩
     | some a =>
       simp only [DataW.trod,ht,hce,Nat.mul_one] at h
       split at h
       ·rename_i hc
        refine ⟨some a,l,c,rfl,hc.2.1,hc.2.2,fun i hi=>?_⟩
        obtain ⟨els,hm,_⟩:=Option.bind_eq_some_iff.1 h
        obtain ⟨y,hy⟩:=Z6t hm i (List.mem_range.2 hi)
        obtain ⟨vs,hv,hd⟩:=Option.bind_eq_some_iff.1 hy
        obtain ⟨u,rfl,hu⟩:=Z54 hv
        obtain ⟨y0,hy0⟩:=Z6t hm 0 (List.mem_range.2 (by omega))
        obtain ⟨vs0,hv0,_⟩:=Option.bind_eq_some_iff.1 hy0
        obtain ⟨u0,_,hu0⟩:=Z54 hv0
        have hspot:a.spot=none:=by
         have e:a.add 0=a:=by simp [Addr.add]
         rw [e] at hu0
         unfold World.cell? at hu0
         cases hs:a.spot with
         | none=>rfl
         | some x =>
           rw [hs] at hu0
           split at hu0 <;> simp at hu0
        obtain ⟨b,f,spot⟩:=a
        simp only at hspot
        subst hspot
        rw [Z6] at hu
        refine ⟨b,f,u,y.1,y.2,fuel,rfl,?_,hu,hd⟩
        unfold World.cell? at hu
        split at hu
        ·rename_i hb; exact (Array.getElem?_eq_some_iff.1 hb).1
        ·cases hu
       ·cases h
   | _=>simp [DataW.trod,ht] at h

theorem ZHF {fuel:Nat} {e:TypeId} {u:Value} {d:DataW H} {ps:List MemPlace} (he:P.underlying e=some (.int .u8)) (h:DataW.trod enc P W base sp held fuel e [u]=some (d,ps)):∃x:UInt8,u=bV x:=by
 cases fuel with
 | zero=>simp [DataW.trod] at h
 | succ fuel =>
   simp only [DataW.trod,he] at h
   cases u with
   | int k m =>
     simp only at h
     split at h
     ·rename_i hk
      obtain ⟨rfl,hw⟩:=hk
      simp only [Lit.wf,Bool.and_eq_true,decide_eq_true_eq] at hw
      have h1:IntKind.min .u8=0:=by decide
      have h2:IntKind.max .u8=255:=by decide
      refine ⟨UInt8.ofNat m.toNat,?_⟩
      have:((UInt8.ofNat m.toNat).toNat:Int)=m:=by
       rw [UInt8.toNat_ofNat']; omega
      rw [bV,this]
     ·cases h
   | _=>simp at h

theorem ZDL {fuel:Nat} {t e:TypeId} {v:Value} {d:DataW H} {ps:List MemPlace} (ht:P.underlying t=some (.slice e)) (he:P.underlying e=some (.int .u8)) (hce:P.cellsOf e=1)
  (h:DataW.trod enc P W base sp held fuel t [v]=some (d,ps)):∃o c bs,v=.slice o bs.length c∧bs.length≤c∧c≤maxLen∧RdB W o bs:=by
 obtain ⟨o,l,c,rfl,hlc,hcm,hall⟩:=Z8t ht hce h
 have hx:∀i,∃x:UInt8,i < l→∃b f,o=some ⟨b,f,none⟩∧b < W.heap.size∧W.cell? ⟨b,f+i,none⟩=some (bV x):=fun i=>by
  by_cases hi:i < l
  ·obtain ⟨b,f,u,d',ps',fuel',ho,hb,hu,hd⟩:=hall i hi
   obtain ⟨x,rfl⟩:=ZHF he hd
   exact ⟨x,fun _=>⟨b,f,ho,hb,hu⟩⟩
  ·exact ⟨0,fun h=>(hi h).elim⟩
 have hl:((List.range l).map (fun i=>Classical.choose (hx i))).length=l:=by simp
 refine ⟨o,c,(List.range l).map (fun i=>Classical.choose (hx i)),by rw [hl],by rw [hl]; exact hlc,hcm,fun hne=>?_⟩
 have hl0:0 < l:=by rw [← hl]; exact List.length_pos_iff.2 hne
 obtain ⟨b,f,ho,hb,_⟩:=Classical.choose_spec (hx 0) hl0
 subst ho
 refine ⟨b,f,rfl,hb,fun i hi=>?_⟩
 rw [hl] at hi
 obtain ⟨b',f',ho,hb',hc⟩:=Classical.choose_spec (hx i) hi
 cases ho
 rw [hc]
 simp [List.getD_eq_getElem?_getD,hi]


end

end Go.Vcg
end
section
namespace Go.Vcg

section
variable {C:Type}

structure Stp (S:C→Prop) (w:World) (la:Nat→C) (w':World) (la':Nat→C):Prop where
 os:w'.os=w.os
 tape:w'.tape=w.tape
 output:w'.output=w.output
 size:w.heap.size≤w'.heap.size
 lab:∀k,k < w.heap.size→la' k=la k
 block:∀k,k < w.heap.size→¬S (la k)→w'.heap[k]?=w.heap[k]?

def ext (lab:Nat→C) (n:Nat) (c:C):Nat→C:=fun k=>if k < n then lab k else c
theorem Z2E {lab:Nat→C} {n k:Nat} {c:C} (h:k < n):ext lab n c k=lab k:=if_pos h
theorem ext_new {lab:Nat→C} {n k:Nat} {c:C} (h:n≤k):ext lab n c k=c:=if_neg (by omega)

variable {S T:C→Prop} {w w' w'':World} {lab lab' lab'':Nat→C}
theorem Stp.refl (S:C→Prop) (w:World) (lab:Nat→C):Stp S w lab w lab:=⟨rfl,rfl,rfl,Nat.le_refl _,fun _ _=>rfl,fun _ _ _=>rfl⟩
theorem Stp.trans (h:Stp S w lab w' lab') (k:Stp S w' lab' w'' lab''):Stp S w lab w'' lab'' :=
 ⟨k.os.trans h.os,k.tape.trans h.tape,k.output.trans h.output,Nat.le_trans h.size k.size,
  fun i hi=>(k.lab i (Nat.lt_of_lt_of_le hi h.size)).trans (h.lab i hi),
  fun i hi hn=>(k.block i (Nat.lt_of_lt_of_le hi h.size) (by rw [h.lab i hi]; exact hn)).trans (h.block i hi hn)⟩
theorem Stp.mono (h:Stp S w lab w' lab') (hs:∀c,S c→T c):Stp T w lab w' lab' :=
 ⟨h.os,h.tape,h.output,h.size,h.lab,fun i hi hn=>h.block i hi (fun k=>hn (hs _ k))⟩
theorem Stp.of_mod {Q:Nat→Prop} (h:Mod Q w w') (c:C) (hq:∀k,k < w.heap.size→Q k→S (lab k)):Stp S w lab w' (ext lab w.heap.size c) :=
 ⟨h.os,h.tape,h.output,h.size,fun _ hi=>Z2E hi,fun i hi hn=>h.block i hi (fun q=>hn (hq i hi q))⟩
theorem Stp.of_nob (h:Mod NoB w w') (c:C):Stp S w lab w' (ext lab w.heap.size c):=Stp.of_mod h c (fun _ _ h=>h.elim)
theorem Stp.drew (S:C→Prop) (w:World) (lab:Nat→C):Stp S w lab w.drew lab:=⟨rfl,rfl,rfl,Nat.le_refl _,fun _ _=>rfl,fun _ _ _=>rfl⟩
theorem Stp.alloc (S:C→Prop) (w:World) (lab:Nat→C) (o:Obj) (c:C):Stp S w lab (w.alloc o) (ext lab w.heap.size c):=Stp.of_nob (Mod.alloc w o) c
theorem Stp.setCell {a:Addr} {v:Value} (hs:S (lab a.block)):Stp S w lab (w.setCell a v) lab :=
 ⟨rfl,rfl,rfl,by simp [World.setCell],fun _ _=>rfl,fun k _ hn=>heap_setCell_other w a k v (fun e=>hn (e ▸ hs))⟩
theorem Stp.mod {Q:Nat→Prop} (h:Stp S w lab w' lab') (hq:∀k,k < w.heap.size→S (lab k)→Q k):Mod Q w w' :=
 ⟨h.os,h.tape,h.output,h.size,fun k hk hn=>h.block k hk (fun s=>hn (hq k hk s))⟩
theorem Stp.nob (h:Stp S w lab w' lab') (hq:∀k,k < w.heap.size→¬S (lab k)):Mod NoB w w':=h.mod (fun k hk s=>(hq k hk s).elim)

structure CB (w:World) (lab:Nat→C) (c:C) (b:Nat) (t:TypeId) (cs:Array Value):Prop where
 blk:Blk w b t cs
 clr:lab b=c
variable {c:C} {b:Nat} {t:TypeId} {cs:Array Value}
theorem CB.stp (h:CB w lab c b t cs) (m:Stp S w lab w' lab') (hs:¬S c):CB w' lab' c b t cs :=
 ⟨(m.block b h.blk.lt (by rw [h.clr]; exact hs)).trans h.blk,(m.lab b h.blk.lt).trans h.clr⟩
theorem CB.new (w:World) (lab:Nat→C) (c:C) (t:TypeId) (cs:Array Value):CB (w.alloc (.cells cs t)) (ext lab w.heap.size c) c w.heap.size t cs:=⟨Blk.new w t cs,ext_new (Nat.le_refl _)⟩
theorem CB.set (h:CB w lab c b t cs) (i:Nat) (v:Value):CB (w.setCell ⟨b,i,none⟩ v) lab c b t (cs.setIfInBounds i v):=⟨h.blk.set i v,h.clr⟩

structure CBy (w:World) (lab:Nat→C) (c:C) (o:Option Addr) (bs:List UInt8):Prop where
 rd:RdB w o bs
 clr:bs≠[]→∀d,o=some d→lab d.block=c
variable {o:Option Addr} {bs:List UInt8}
theorem CBy.stp (h:CBy w lab c o bs) (m:Stp S w lab w' lab') (hs:¬S c):CBy w' lab' c o bs:=by
 refine ⟨fun hne=>?_,fun hne d hd=>?_⟩
 ·obtain ⟨b,f,rfl,hb,hc⟩:=h.rd hne
  have hl:=h.clr hne _ rfl
  refine ⟨b,f,rfl,Nat.lt_of_lt_of_le hb m.size,fun i hi=>?_⟩
  exact (World.cell?_of_block (m.block b hb (by rw [hl]; exact hs))).trans (hc i hi)
 ·obtain ⟨b,f,rfl,hb,_⟩:=h.rd hne
  cases hd
  exact (m.lab b hb).trans (h.clr hne _ rfl)
theorem CBy.nil (w:World) (lab:Nat→C) (c:C) (o:Option Addr):CBy w lab c o []:=⟨fun h=>(h rfl).elim,fun h=>(h rfl).elim⟩
theorem CBy.sub {cap lo n:Nat} (h:CBy w lab c o bs) (hc:bs.length≤cap):CBy w lab c (subO o cap lo 1) ((bs.drop lo).take n):=by
 refine ⟨h.rd.sub hc,fun hne d hd=>?_⟩
 have hb:bs≠[]:=fun e=>hne (by rw [e]; simp)
 obtain ⟨b,f,rfl,_,_⟩:=h.rd hb
 have:=h.clr hb _ rfl
 rw [subO] at hd
 split at hd
 ·cases hd; exact this
 ·simp at hd; subst hd; exact this

structure COw (w:World) (lab:Nat→C) (c:C) (e:TypeId) (sz:Nat) (o:Option Addr) (l cap:Nat) (xs:List Value):Prop where
 own:Own w e sz o l cap xs
 clr:∀k,OB o k→lab k=c
variable {e:TypeId} {sz l cap:Nat} {xs:List Value}
theorem COw.nil (w:World) (lab:Nat→C) (c:C) (e:TypeId) (sz:Nat):COw w lab c e sz none 0 0 []:=⟨Own.nil w e sz,fun k h=>(Z47 k h).elim⟩
theorem COw.stp (h:COw w lab c e sz o l cap xs) (m:Stp S w lab w' lab') (hs:¬S c):COw w' lab' c e sz o l cap xs:=by
 have hl:∀k,OB o k→k < w.heap.size:=fun k hk=>h.own.lt hk
 refine ⟨?_,fun k hk=>(m.lab k (hl k hk)).trans (h.clr k hk)⟩
 have hm:Mod (fun k=>S (lab k)) w w':=m.mod (fun _ _ s=>s)
 exact h.own.mod hm (fun k hk s=>hs (by rw [← h.clr k hk]; exact s))
theorem COw.append {P:Program} {t tx ty:TypeId} {i:TypeInfo} {z:Value} {x:Value} {n:Nat} {news:List Value}
  (ht:P.underlying t=some (.slice e)) (hi:P.info? e=some i) (hz:i.zero=some z) (hs:i.size=sz) (hzs:z.cells.size=sz)
  (h:COw w lab c e sz o l cap xs) (src:Src P sz tx x n news w) (h63:l+n≤maxLen) (hb:(l+n) * i.bytes≤140737488355328) :
  ∃o' c' w',Sem.run P (builtinV .append #[t,tx] ty #[.slice o l cap,x]) w=.ok (.slice o' (l+n) c') w' ∧
   COw w' (ext lab w.heap.size c) c e sz o' (l+n) c' (xs++news)∧Stp (·=c) w lab w' (ext lab w.heap.size c):=by
 obtain ⟨o',c',w',h1,h2,h3,h4⟩:=Z3U (ty:=ty) ht hi hz hs hzs h.own src h63 hb
 refine ⟨o',c',w',h1,⟨h2,fun k hk=>?_⟩,Stp.of_mod h3 c (fun k _ hk=>h.clr k hk)⟩
 by_cases hl:k < w.heap.size
 ·rw [Z2E hl]
  rcases h4 k hk with h5 | h5
  ·exact h.clr k h5
  ·omega
 ·exact ext_new (by omega)
end
end Go.Vcg
end
section
namespace Go.Vcg
open Go.ChangeMaps (setBlock)
open Go.Maps (Keyed)
open Go.MapKept

section
variable {K:Type} [DecidableEq K] {V:Type}
def Z3E (k:K):List (K×V)→Option V
 | []=>none
 | x :: r=>if x.1=k then some x.2 else Z3E k r
def upd (k:K) (v:V):List (K×V)→List (K×V)
 | []=>[(k,v)]
 | x :: r=>if x.1=k then (k,v) :: r else x :: upd k v r
theorem Z8F {k:K}:∀{es:List (K×V)},(∀x∈es,x.1≠k)→Z3E k es=none
 | [],_=>rfl
 | x :: r,h=>by
   rw [Z3E,if_neg (h x (List.mem_cons_self ..)),Z8F (fun y hy=>h y (List.mem_cons_of_mem _ hy))]
theorem Z73 {k:K} {v:V}:∀{es:List (K×V)},(∀x∈es,x.1≠k)→upd k v es=es++[(k,v)]
 | [],_=>rfl
 | x :: r,h=>by
   rw [upd,if_neg (h x (List.mem_cons_self ..)),Z73 (fun y hy=>h y (List.mem_cons_of_mem _ hy))]; rfl
theorem ZC3 {k:K}:∀{es:List (K×V)} {j:Nat} {x:K×V},(es.map Prod.fst).Nodup→es[j]?=some x→x.1=k→Z3E k es=some x.2
 | [],_,_,_,h,_=>by simp at h
 | y :: r,0,x,_,h,hk=>by simp at h; subst h; rw [Z3E,if_pos hk]
 | y :: r,j+1,x,hn,h,hk=>by
   rw [List.getElem?_cons_succ] at h
   have hne:y.1≠k:=by
    rintro rfl
    exact (List.nodup_cons.1 hn).1 (hk ▸ List.mem_map_of_mem (List.mem_of_getElem? h))
   rw [Z3E,if_neg hne,ZC3 (List.nodup_cons.1 hn).2 h hk]
theorem ZEw {k:K} {v:V}:∀{es:List (K×V)} {j:Nat} {x:K×V},(es.map Prod.fst).Nodup→es[j]?=some x→x.1=k→upd k v es=es.set j (k,v)
 | [],_,_,_,h,_=>by simp at h
 | y :: r,0,x,_,h,hk=>by simp at h; subst h; rw [upd,if_pos hk]; rfl
 | y :: r,j+1,x,hn,h,hk=>by
   rw [List.getElem?_cons_succ] at h
   have hne:y.1≠k:=by
    rintro rfl
    exact (List.nodup_cons.1 hn).1 (hk ▸ List.mem_map_of_mem (List.mem_of_getElem? h))
   rw [upd,if_neg hne,ZEw (List.nodup_cons.1 hn).2 h hk]; rfl
end

section
variable {K:Type} {P:Program} {kt:TypeId} {enc:K→Value}

structure Z9d (P:Program) (kt:TypeId) (enc:K→Value) (good:K→Prop):Prop where
 keyed:Keyed P kt
 ok:∀k,good k→∃l,keyOf P kt (enc k)=some l
 inj:∀a b,enc a=enc b→a=b

def dec (enc:K→Value) (x:K×Value):Value×Value:=(enc x.1,x.2)
def cellE (e:MapEntry):Value×Value:=(e.key,e.val)

def Z2a (good:K→Prop) (enc:K→Value) (w:World) (m:Nat) (es:List (K×Value)):Prop :=
 ∃(A:Array MapEntry) (clock:Nat),w.heap[m]?=some (.map A clock)∧Stamped A clock∧A.toList.map cellE=es.map (dec enc)∧∀x∈es,good x.1

variable {good:K→Prop} {w w':World} {m:Nat} {es:List (K×Value)}
theorem Z2a.lt (h:Z2a good enc w m es):m < w.heap.size:=by
 obtain ⟨A,clock,hb,_⟩:=h
 exact (Array.getElem?_eq_some_iff.1 hb).1
theorem Z2a.same (h:Z2a good enc w m es) (hb:w'.heap[m]?=w.heap[m]?):Z2a good enc w' m es:=by
 obtain ⟨A,clock,h1,h2⟩:=h
 exact ⟨A,clock,hb.trans h1,h2⟩
theorem Z2a.nodup (h:Z2a good enc w m es):(es.map Prod.fst).Nodup:=by
 obtain ⟨A,clock,_,hs,he,_⟩:=h
 have h1:(A.toList.map (·.key))=(es.map Prod.fst).map enc:=by
  have:=congrArg (List.map Prod.fst) he
  simpa [cellE,dec,Function.comp_def] using this
 have h2:=hs.2.2
 rw [h1] at h2
 generalize es.map Prod.fst=l at h2
 clear h1
 induction l with
 | nil=>exact List.nodup_nil
 | cons a l ih =>
   rw [List.map_cons,List.nodup_cons] at h2
   rw [List.nodup_cons]
   exact ⟨fun h=>h2.1 (List.mem_map_of_mem h),ih h2.2⟩

private theorem find_split (E:Z9d P kt enc good) (w:World) {A:Array MapEntry} {k:K} (hk:good k) (he:A.toList.map cellE=es.map (dec enc)) (hg:∀x∈es,good x.1) :
  ((Instr.findKey kt (enc k) A.toList).run P w=.ok none w∧(∀x∈es,x.1≠k)∧∀e∈A.toList,e.key≠enc k) ∨
  ∃j e v,(Instr.findKey kt (enc k) A.toList).run P w=.ok (some (j,v)) w∧A.toList[j]?=some e∧e.key=enc k∧e.val=v∧es[j]?=some (k,v):=by
 obtain ⟨lk,hl⟩:=E.ok k hk
 have hall:∀e∈A.toList,∃l,keyOf P kt e.key=some l:=fun e hm=>by
  have:cellE e∈es.map (dec enc):=he ▸ List.mem_map_of_mem hm
  obtain ⟨x,hx,hxe⟩:=List.mem_map.1 this
  have h1:e.key=enc x.1:=(congrArg Prod.fst hxe).symm
  rw [h1]; exact E.ok _ (hg x hx)
 rcases E.keyed.find w hl A.toList hall with ⟨h1,h2⟩ | ⟨j,e,h1,h2,h3⟩
 ·refine .inl ⟨h1,fun x hx hxk=>?_,h2⟩
  have:dec enc x∈A.toList.map cellE:=he ▸ List.mem_map_of_mem hx
  obtain ⟨e,hm,hee⟩:=List.mem_map.1 this
  exact h2 e hm (by rw [show e.key=enc x.1 from congrArg Prod.fst hee,hxk])
 ·refine .inr ⟨j,e,e.val,h1,h2,h3,rfl,?_⟩
  have h4:(es.map (dec enc))[j]?=some (cellE e):=by rw [← he,List.getElem?_map,h2]; rfl
  rw [List.getElem?_map,Option.map_eq_some_iff] at h4
  obtain ⟨x,hx,hxe⟩:=h4
  have e1:enc x.1=enc k:=(congrArg Prod.fst hxe).trans h3
  have e2:x.2=e.val:=congrArg Prod.snd hxe
  rw [hx,← E.inj _ _ e1,← e2]

theorem Z2a.check (E:Z9d P kt enc good) {k:K} (hk:good k) (em:Bool) (w:World):(Instr.checkKey em 10000 kt (enc k)).run P w=.ok () w:=by
 obtain ⟨lk,hl⟩:=E.ok k hk
 exact E.keyed.check w em hl

theorem Z2a.look [DecidableEq K] (h:Z2a good enc w m es) (E:Z9d P kt enc good) {t e:TypeId} (ht:P.underlying t=some (.map kt e)) {z:Value} (hz:(zeroValue e).run P w=.ok z w) {k:K} (hk:good k) (c:Bool) :
  (Instr.lookup t (.map (some m)) (enc k) c).run P w=.ok (if c then .tuple #[(Z3E k es).getD z,.bool (Z3E k es).isSome] else (Z3E k es).getD z) w:=by
 have hn:=h.nodup
 obtain ⟨A,clock,hb,hs,he,hg⟩:=h
 rcases find_split E w hk he hg with ⟨h1,h2,_⟩ | ⟨j,e0,v,h1,h2,h3,h4,h5⟩
 ·rw [Z8F h2]
  simp [Instr.lookup,run_underlying ht,MapKept.run_getObj_map hb,Z2a.check E hk,h1,hz,Result.andThen]
 ·rw [ZC3 hn h5 rfl]
  simp [Instr.lookup,run_underlying ht,MapKept.run_getObj_map hb,Z2a.check E hk,h1,Result.andThen]

theorem Z2a.update [DecidableEq K] (h:Z2a good enc w m es) (E:Z9d P kt enc good) {t e:TypeId} (ht:P.underlying t=some (.map kt e)) {k:K} (hk:good k) (v:Value) :
  ∃w',(Instr.mapUpdate t (.map (some m)) (enc k) v).run P w=.ok () w'∧Z2a good enc w' m (upd k v es)∧Mod (·=m) w w':=by
 have hn:=h.nodup
 obtain ⟨A,clock,hb,hs,he,hg⟩:=h
 have hmod:∀o,Mod (·=m) w (setBlock w m o):=fun o=>⟨rfl,rfl,rfl,by simp [setBlock],fun k _ hk=>(heap_set hb).2 k hk⟩
 rcases find_split E w hk he hg with ⟨h1,h2,h2'⟩ | ⟨j,e0,v0,h1,h2,h3,h4,h5⟩
 ·refine ⟨setBlock w m (.map (A.push ⟨enc k,v,clock⟩) (clock+1)),?_,⟨_,_,(heap_set hb).1,stamped_push hs h2',?_,?_⟩,hmod _⟩
  ·simp [Instr.mapUpdate,run_underlying ht,MapKept.run_getObj_map hb,Z2a.check E hk,h1,MapKept.run_setObj_map _ hb,Result.andThen,setBlock]
  ·rw [Z73 h2,Array.toList_push,List.map_append,List.map_append,he]; rfl
  ·rw [Z73 h2]
   intro x hx
   rcases List.mem_append.1 hx with hx | hx
   ·exact hg x hx
   ·simp at hx; subst hx; exact hk
 ·obtain ⟨lk,hl⟩:=E.ok k hk
  have hj:j < A.size:=by simpa using (List.getElem?_eq_some_iff.1 h2).1
  have hA:A[j]?=some e0:=by simpa using h2
  refine ⟨setBlock w m (.map (A.modify j fun e=>{ e with key:=enc k,val:=v }) clock),?_,⟨_,_,(heap_set hb).1,stamped_modify hs j _ (fun _ _=>rfl) (fun e hm hej=>?_),?_,?_⟩,hmod _⟩
  ·have hst:=E.keyed.stays w hl
   simp [Instr.mapUpdate,run_underlying ht,MapKept.run_getObj_map hb,Z2a.check E hk,h1,hA,h3,hst,MapKept.run_setObj_map _ hb,Result.andThen,setBlock]
  ·rw [hA] at hej
   cases hej
   exact h3.symm
  ·rw [ZEw hn h5 rfl]
   apply List.ext_getElem?
   intro i
   have hi:(A.toList.map cellE)[i]?=(es.map (dec enc))[i]?:=by rw [he]
   rw [List.getElem?_map,List.getElem?_map] at hi
   rw [List.getElem?_map,List.getElem?_map,Array.getElem?_toList,Array.getElem?_modify,List.getElem?_set]
   rw [Array.getElem?_toList] at hi
   by_cases hij:j=i
   ·subst hij
    rw [if_pos rfl,if_pos rfl,if_pos (by have:=(List.getElem?_eq_some_iff.1 h5).1; exact this),hA]
    rfl
   ·rw [if_neg hij,if_neg hij,hi]
  ·rw [ZEw hn h5 rfl]
   intro x hx
   rcases List.mem_or_eq_of_mem_set hx with hx | rfl
   ·exact hg x hx
   ·exact hk


variable {i:Nat} {todo:List (K×Value)}
end

section
variable {C:Type} {S:C→Prop} {w w':World} {lab lab':Nat→C} {c:C} {K:Type} {good:K→Prop} {enc:K→Value} {m:Nat} {es:List (K×Value)}
structure CM (good:K→Prop) (enc:K→Value) (w:World) (lab:Nat→C) (c:C) (m:Nat) (es:List (K×Value)):Prop where
 map:Z2a good enc w m es
 clr:lab m=c
theorem CM.stp (h:CM good enc w lab c m es) (s:Stp S w lab w' lab') (hs:¬S c):CM good enc w' lab' c m es :=
 ⟨h.map.same (s.block m h.map.lt (by rw [h.clr]; exact hs)),(s.lab m h.map.lt).trans h.clr⟩
end
end Go.Vcg
end
section
namespace Go.Trie
abbrev By:=List UInt8
inductive It where
 | s (b:By)
 | l (xs:List It)
inductive Nd where
 | nil
 | leaf (p v:By)
 | row (p:By) (c:Nd)
 | branch (cs:Fin 16→Nd) (v:By)

def nibbles (k:By):By:=k.flatMap fun (c:UInt8)=>[c >>> 4,c &&& 15]
def Z3t:By→By
 | a :: b :: r=>(a <<< 4 ||| b) :: Z3t r
 | _=>[]
def Z1f (leaf:Bool):UInt8:=if leaf then 2 else 0
def headed (p:By) (leaf:Bool):By:=if p.length % 2=1 then (Z1f leaf+1) :: p else Z1f leaf :: 0 :: p
def Z34 (p:By):Prop:=p.length > 128∨∃x∈p,x≥16
instance (p:By):Decidable (Z34 p):=by unfold Z34; infer_instance
def Z82 (p:By) (leaf:Bool):By×Int:=if Z34 p then ([],140) else (Z3t (headed p leaf),0)
def ZK:By→By→Nat
 | a :: p,b :: q=>if a=b then ZK p q+1 else 0
 | _,_=>0
theorem Z4U:∀(p q:By),ZK p q≤p.length∧ZK p q≤q.length
 | [],q=>by simp [ZK]
 | a :: p,[]=>by simp [ZK]
 | a :: p,b :: q=>by
   have:=Z4U p q
   simp only [ZK]
   split <;> simp <;> omega
theorem Z3z:∀(p q:By),p.take (ZK p q)=q.take (ZK p q)
 | [],q=>by simp [ZK]
 | a :: p,[]=>by simp [ZK]
 | a :: p,b :: q=>by
   simp only [ZK]
   split
   ·rename_i h
    subst h
    simp [Z3z p q]
   ·simp
theorem ZAf:∀(p q:By) (h1:ZK p q < p.length) (h2:ZK p q < q.length),p[ZK p q]≠q[ZK p q]
 | a :: p,b :: q,h1,h2=>by
   by_cases hab:a=b
   ·subst hab
    have e:ZK (a :: p) (a :: q)=ZK p q+1:=by simp [ZK]
    simp only [e,List.getElem_cons_succ]
    exact ZAf p q (by simp only [e,List.length_cons] at h1; omega) (by simp only [e,List.length_cons] at h2; omega)
   ·have e:ZK (a :: p) (b :: q)=0:=by simp [ZK,hab]
    simp only [e,List.getElem_cons_zero]
    exact hab
 | [],q,h1,_=>by simp at h1
 | a :: p,[],_,h2=>by simp at h2

def Z43 (p:By) (n:Nd):Nd :=
 if p=[] then n else match n with
  | .leaf q v=>.leaf (p++q) v
  | .row q c=>.row (p++q) c
  | n=>.row p n
def upd (cs:Fin 16→Nd) (a:UInt8) (n:Nd):Fin 16→Nd:=fun i=>if i.val=a.toNat then n else cs i
def at_ (cs:Fin 16→Nd) (a:UInt8):Nd:=if h:a.toNat < 16 then cs ⟨a.toNat,h⟩ else .nil
def lay (cs:Fin 16→Nd) (v:By) (p x:By):Nd:=match p with
 | []=>.branch cs x
 | a :: r=>.branch (upd cs a (.leaf r x)) v
def ZG6 (n:Nd) (p x:By):Nd:=match n with
 | .branch cs v=>lay cs v p x
 | n=>n
def Z0T:Fin 16→Nd:=fun _=>.nil
def put (n:Nd) (p x:By):Nd:=match n with
 | .nil=>.leaf p x
 | .leaf q v =>
   if ZK q p=q.length∧ZK q p=p.length then .leaf p x
   else Z43 (p.take (ZK q p)) (ZG6 (lay Z0T [] (q.drop (ZK q p)) v) (p.drop (ZK q p)) x)
 | .row q c =>
   if ZK q p=q.length then .row q (put c (p.drop (ZK q p)) x)
   else Z43 (p.take (ZK q p)) (lay (upd Z0T (q.getD (ZK q p) 0) (Z43 (q.drop (ZK q p+1)) c)) [] (p.drop (ZK q p)) x)
 | .branch cs v=>match p with
   | []=>.branch cs x
   | a :: r=>.branch (fun i=>if i.val=a.toNat then put (cs i) r x else cs i) v
def get (n:Nd) (p:By):Option By:=match n with
 | .nil=>none
 | .leaf q v=>if q=p then some v else none
 | .row q c=>if q.isPrefixOf p then get c (p.drop q.length) else none
 | .branch cs v=>match p with
   | []=>if v=[] then none else some v
   | a :: r=>if h:a.toNat < 16 then get (cs ⟨a.toNat,h⟩) r else none
end Go.Trie
end
section
namespace Go.Trie
def Nib (p:By):Prop:=∀x∈p,x.toNat < 16
def Z3F:Nd→Prop
 | .branch _ _=>True
 | _=>False
def Many (cs:Fin 16→Nd) (v:By):Prop:=(v≠[]∧∃i,cs i≠.nil)∨∃i j,i≠j∧cs i≠.nil∧cs j≠.nil
def Z1p:Nd→Prop
 | .nil=>True
 | .leaf p v=>Nib p∧v≠[]
 | .row p c=>p≠[]∧Nib p∧Z3F c∧Z1p c
 | .branch cs v=>(∀i,Z1p (cs i))∧Many cs v

theorem Z1I (p r:By) (c:Nd):get (.row p c) (p++r)=get c r:=by
 simp only [get]
 rw [if_pos (List.isPrefixOf_iff_prefix.2 (List.prefix_append _ _)),List.drop_left]
theorem ZAC {p k:By} {c:Nd} {v:By} (h:get (.row p c) k=some v):∃r,k=p++r∧get c r=some v:=by
 simp only [get] at h
 split at h
 ·rename_i hp
  obtain ⟨r,rfl⟩:=List.isPrefixOf_iff_prefix.1 hp
  rw [List.drop_left] at h
  exact ⟨r,rfl,h⟩
 ·cases h
theorem Zh (cs:Fin 16→Nd) (v:By):get (.branch cs v) []=if v=[] then none else some v:=by simp only [get]
theorem Z14 (cs:Fin 16→Nd) (v:By) (i:Fin 16) (r:By):get (.branch cs v) (UInt8.ofNat i.val :: r)=get (cs i) r:=by
 have hi:(UInt8.ofNat i.val).toNat=i.val:=by
  rw [UInt8.toNat_ofNat']; have:=i.isLt; omega
 simp only [get]
 rw [dif_pos (by rw [hi]; exact i.isLt)]
 congr 2
 exact Fin.ext hi
theorem ZAU {i j:Fin 16} (h:UInt8.ofNat i.val=UInt8.ofNat j.val):i=j:=by
 have h1:=congrArg UInt8.toNat h
 rw [UInt8.toNat_ofNat',UInt8.toNat_ofNat'] at h1
 have:=i.isLt
 have:=j.isLt
 exact Fin.ext (by omega)
theorem Z59:∀{n:Nd},Z1p n→n≠.nil→∃k v,get n k=some v
 | .nil,_,h=>(h rfl).elim
 | .leaf p v,_,_=>⟨p,v,by simp [get]⟩
 | .row p c,h,_=>by
   obtain ⟨k,v,hk⟩:=Z59 (n:=c) h.2.2.2 (by intro e; rw [e] at h; exact h.2.2.1)
   exact ⟨p++k,v,by rw [Z1I]; exact hk⟩
 | .branch cs v,h,_=>by
   rcases h.2 with ⟨hv,_⟩ | ⟨i,j,_,hi,_⟩
   ·exact ⟨[],v,by rw [Zh,if_neg hv]⟩
   ·obtain ⟨k,w,hk⟩:=Z59 (n:=cs i) (h.1 i) hi
    exact ⟨UInt8.ofNat i.val :: k,w,by rw [Z14]; exact hk⟩
def Part (a b:By):Prop:=a≠b∧∀x r s,¬(a=x :: r∧b=x :: s)
theorem Z9V {n:Nd} (h:Z1p n) (hb:Z3F n):∃k1 v1 k2 v2,get n k1=some v1∧get n k2=some v2∧Part k1 k2:=by
 cases n with
 | nil=>exact hb.elim
 | leaf p v=>exact hb.elim
 | row p c=>exact hb.elim
 | branch cs v =>
   rcases h.2 with ⟨hv,i,hi⟩ | ⟨i,j,hij,hi,hj⟩
   ·obtain ⟨k,w,hk⟩:=Z59 (h.1 i) hi
    exact ⟨[],v,UInt8.ofNat i.val :: k,w,by rw [Zh,if_neg hv],by rw [Z14]; exact hk,by simp,fun x r s h=>by cases h.1⟩
   ·obtain ⟨k,w,hk⟩:=Z59 (h.1 i) hi
    obtain ⟨k',w',hk'⟩:=Z59 (h.1 j) hj
    refine ⟨UInt8.ofNat i.val :: k,w,UInt8.ofNat j.val :: k',w',by rw [Z14]; exact hk,by rw [Z14]; exact hk',?_,fun x r s h=>?_⟩
    ·intro e
     exact hij (ZAU (List.cons.inj e).1)
    ·exact hij (ZAU ((List.cons.inj h.1).1.trans (List.cons.inj h.2).1.symm))
theorem ZHG {p:By} {c:Nd} (h:Z1p (.row p c)):∃k1 v1 k2 v2,get (.row p c) k1=some v1∧get (.row p c) k2=some v2∧k1≠k2:=by
 obtain ⟨k1,v1,k2,v2,h1,h2,hp⟩:=Z9V h.2.2.2 h.2.2.1
 exact ⟨p++k1,v1,p++k2,v2,by rw [Z1I]; exact h1,by rw [Z1I]; exact h2,fun e=>hp.1 (List.append_cancel_left e)⟩
end Go.Trie
end
section
namespace Go.Trie
theorem Nib.left {p q:By} (h:Nib (p++q)):Nib p:=fun x hx=>h x (List.mem_append_left _ hx)
theorem Nib.right {p q:By} (h:Nib (p++q)):Nib q:=fun x hx=>h x (List.mem_append_right _ hx)
theorem Nib.append {p q:By} (h:Nib p) (k:Nib q):Nib (p++q):=fun x hx=>(List.mem_append.1 hx).elim (h x) (k x)
def behind (p k:By) (n:Nd):Option By:=if p.isPrefixOf k then get n (k.drop p.length) else none
theorem Z0P (p r:By) (n:Nd):behind p (p++r) n=get n r:=by
 unfold behind
 rw [if_pos (List.isPrefixOf_iff_prefix.2 (List.prefix_append _ _)),List.drop_left]
theorem Z08 {p k:By} {n:Nd} (h:¬p <+: k):behind p k n=none:=by
 unfold behind
 rw [if_neg (fun hp=>h (List.isPrefixOf_iff_prefix.1 hp))]
theorem Z4J (p:By) (c:Nd) (k:By):get (.row p c) k=behind p k c:=by simp only [get,behind]
theorem Z7O (p:By) (n:Nd) (k:By):get (Z43 p n) k=behind p k n:=by
 unfold Z43
 split
 ·rename_i h
  subst h
  unfold behind
  simp
 ·cases n with
  | nil=>exact Z4J _ _ _
  | branch cs v=>exact Z4J _ _ _
  | leaf q v =>
    by_cases hp:p <+: k
    ·obtain ⟨r,rfl⟩:=hp
     rw [Z0P]
     simp only [get,List.append_cancel_left_eq]
    ·rw [Z08 hp]
     simp only [get]
     rw [if_neg (fun (e:p++q=k)=>hp (by rw [← e]; exact List.prefix_append _ _))]
  | row q c =>
    by_cases hp:p <+: k
    ·obtain ⟨r,rfl⟩:=hp
     rw [Z0P,Z4J,Z4J]
     by_cases hq:q <+: r
     ·obtain ⟨s,rfl⟩:=hq
      rw [← List.append_assoc,Z0P,Z0P]
     ·rw [Z08 hq,Z08]
      rintro ⟨s,hs⟩
      rw [List.append_assoc] at hs
      exact hq ⟨s,List.append_cancel_left hs⟩
    ·rw [Z08 hp]
     show get (.row (p++q) c) k=none
     rw [Z4J,Z08]
     rintro ⟨s,rfl⟩
     rw [List.append_assoc] at hp
     exact hp (List.prefix_append _ _)
theorem Z52 {p:By} {n:Nd} (hp:Nib p) (hn:Z1p n) (h0:n≠.nil):Z1p (Z43 p n)∧Z43 p n≠.nil:=by
 unfold Z43
 split
 ·exact ⟨hn,h0⟩
 ·rename_i hne
  cases n with
  | nil=>exact (h0 rfl).elim
  | leaf q v=>exact ⟨⟨hp.append hn.1,hn.2⟩,by simp⟩
  | row q c=>exact ⟨⟨by simp [hne],hp.append hn.2.1,hn.2.2⟩,by simp⟩
  | branch cs v=>exact ⟨⟨hne,hp,trivial,hn⟩,by simp⟩
theorem Z0Q (cs:Fin 16→Nd) (v:By) (a:UInt8) (r:By):get (.branch cs v) (a :: r)=get (at_ cs a) r:=by
 simp only [get,at_]
 split <;> simp [get]
theorem Z7D {cs:Fin 16→Nd} {a:UInt8} {n:Nd} (h:a.toNat < 16):at_ (upd cs a n) a=n:=by
 unfold at_ upd
 rw [dif_pos h,if_pos rfl]
theorem Z3V {cs:Fin 16→Nd} {a b:UInt8} {n:Nd} (h:b≠a):at_ (upd cs a n) b=at_ cs b:=by
 unfold at_ upd
 split
 ·rw [if_neg (fun e=>h (UInt8.toNat_inj.1 e))]
 ·rfl
theorem Z98 {cs:Fin 16→Nd} {v p x:By} (hp:Nib p) (hx:x≠[]) (h1:p=[]→v=[]) (h2:∀a r,p=a :: r→at_ cs a=.nil) (k:By):get (lay cs v p x) k=if k=p then some x else get (.branch cs v) k:=by
 cases p with
 | nil =>
   show get (.branch cs x) k=_
   cases k with
   | nil=>rw [Zh,if_neg hx,if_pos rfl]
   | cons b r=>rw [if_neg (by simp),Z0Q,Z0Q]
 | cons a r =>
   show get (.branch (upd cs a (.leaf r x)) v) k=_
   have ha:a.toNat < 16:=hp a (by simp)
   cases k with
   | nil=>rw [Zh,Zh,if_neg (show ¬([]:By)=a :: r by simp)]
   | cons b s =>
     rw [Z0Q,Z0Q]
     by_cases hb:b=a
     ·subst hb
      rw [Z7D ha,h2 b r rfl]
      simp only [get,List.cons.injEq,true_and]
      by_cases hrs:r=s
      ·rw [if_pos hrs,if_pos hrs.symm]
      ·rw [if_neg hrs,if_neg (fun e=>hrs e.symm)]
     ·rw [Z3V hb,if_neg (by simp [hb])]
theorem Z4B {cs:Fin 16→Nd} {a:UInt8} {n:Nd} (h:∀i,Z1p (cs i)) (hn:Z1p n):∀i,Z1p (upd cs a n i):=fun i=>by
 unfold upd; split
 ·exact hn
 ·exact h i
theorem ZFu {cs:Fin 16→Nd} {a:UInt8} (h:a.toNat < 16):at_ cs a=cs ⟨a.toNat,h⟩:=dif_pos h
theorem Z3O (a:UInt8):at_ Z0T a=.nil:=by unfold at_; split <;> rfl
theorem Z8T (k:By):get (.branch Z0T []) k=none:=by
 cases k with
 | nil=>rfl
 | cons a r=>rw [Z0Q,Z3O]; simp [get]
theorem ZG1 {a b:UInt8} (ha:a.toNat < 16) (hb:b.toNat < 16) (h:a≠b):(⟨a.toNat,ha⟩:Fin 16)≠⟨b.toNat,hb⟩:=fun e=>h (UInt8.toNat_inj.1 (Fin.mk.inj e))
theorem ZH0 {q p v x:By} (hq:Nib q) (hp:Nib p) (hv:v≠[]) (hx:x≠[]) (hne:q≠p) (hh:∀a r s,¬(q=a :: r∧p=a :: s)) :
  Z1p (ZG6 (lay Z0T [] q v) p x)∧Z3F (ZG6 (lay Z0T [] q v) p x)∧∀k,get (ZG6 (lay Z0T [] q v) p x) k=if k=p then some x else if k=q then some v else none:=by
 have g1:=fun k=>Z98 (cs:=Z0T) (v:=[]) (x:=v) hq hv (fun _=>rfl) (fun a r _=>Z3O a) k
 cases q with
 | nil =>
   cases p with
   | nil=>exact (hne rfl).elim
   | cons b s =>
     have hb:b.toNat < 16:=hp b (by simp)
     refine ⟨⟨Z4B (fun _=>trivial) ⟨fun y hy=>hp y (by simp [hy]),hx⟩,.inl ⟨hv,⟨b.toNat,hb⟩,by unfold upd; rw [if_pos rfl]; simp⟩⟩,trivial,fun k=>?_⟩
     have g2:=Z98 (cs:=Z0T) (v:=v) hp hx (fun h=>by cases h) (fun a r _=>Z3O a) k
     show get (lay Z0T v (b :: s) x) k=_
     rw [g2]
     split
     ·rfl
     ·have:=g1 k
      rw [Z8T] at this
      exact this
 | cons a r =>
   have ha:a.toNat < 16:=hq a (by simp)
   have e:lay Z0T [] (a :: r) v=.branch (upd Z0T a (.leaf r v)) []:=rfl
   rw [e] at g1 ⊢
   show Z1p (lay (upd Z0T a (.leaf r v)) [] p x)∧Z3F (lay (upd Z0T a (.leaf r v)) [] p x)∧∀k,get (lay (upd Z0T a (.leaf r v)) [] p x) k=_
   have hc1:∀i,Z1p (upd Z0T a (.leaf r v) i):=Z4B (fun _=>trivial) ⟨fun y hy=>hq y (by simp [hy]),hv⟩
   have hp2:∀b s,p=b :: s→at_ (upd Z0T a (.leaf r v)) b=.nil:=fun b s h=>by
    rw [Z3V (fun h2=>hh a r s ⟨rfl,by rw [h,h2]⟩),Z3O]
   refine ⟨?_,?_,fun k=>?_⟩
   ·cases p with
    | nil=>exact ⟨hc1,.inl ⟨hx,⟨a.toNat,ha⟩,by unfold upd; rw [if_pos rfl]; simp⟩⟩
    | cons b s =>
      have hb:b.toNat < 16:=hp b (by simp)
      have hab:a≠b:=fun h=>hh a r s ⟨rfl,by rw [h]⟩
      refine ⟨Z4B hc1 ⟨fun y hy=>hp y (by simp [hy]),hx⟩,.inr ⟨⟨a.toNat,ha⟩,⟨b.toNat,hb⟩,ZG1 ha hb hab,?_,?_⟩⟩
      ·unfold upd
       rw [if_neg (fun h=>hab (UInt8.toNat_inj.1 h)),if_pos rfl]; simp
      ·unfold upd
       rw [if_pos rfl]; simp
   ·cases p <;> exact trivial
   ·rw [Z98 hp hx (fun _=>rfl) hp2 k]
    split
    ·rfl
    ·have:=g1 k
     rw [Z8T] at this
     exact this
theorem Z3K (q p:By):∃t q' p',q=t++q'∧p=t++p'∧t=p.take (ZK q p)∧q'=q.drop (ZK q p)∧p'=p.drop (ZK q p)∧t.length=ZK q p∧∀a r s,¬(q'=a :: r∧p'=a :: s):=by
 have hl:=Z4U q p
 refine ⟨p.take (ZK q p),q.drop (ZK q p),p.drop (ZK q p),?_,(List.take_append_drop _ _).symm,rfl,rfl,rfl,by rw [List.length_take]; omega,fun a r s h=>?_⟩
 ·rw [← Z3z]; exact (List.take_append_drop _ _).symm
 ·have h1:ZK q p < q.length:=by
    have:=congrArg List.length h.1
    rw [List.length_drop] at this; simp at this; omega
  have h2:ZK q p < p.length:=by
   have:=congrArg List.length h.2
   rw [List.length_drop] at this; simp at this; omega
  refine ZAf q p h1 h2 ?_
  have e1:q[ZK q p]=a:=by
   have:=List.getElem_drop (xs:=q) (i:=ZK q p) (j:=0) (h:=by rw [List.length_drop]; omega)
   simp only [h.1,List.getElem_cons_zero,Nat.add_zero] at this
   exact this.symm
  have e2:p[ZK q p]=a:=by
   have:=List.getElem_drop (xs:=p) (i:=ZK q p) (j:=0) (h:=by rw [List.length_drop]; omega)
   simp only [h.2,List.getElem_cons_zero,Nat.add_zero] at this
   exact this.symm
  rw [e1,e2]

theorem Z8i:∀{n:Nd} {p x:By},Z1p n→Nib p→x≠[]→Z1p (put n p x)∧put n p x≠.nil∧(Z3F n→Z3F (put n p x))∧∀k,get (put n p x) k=if k=p then some x else get n k
 | .nil,p,x,hn,hp,hx=>by
   refine ⟨⟨hp,hx⟩,by simp [put],fun h=>h.elim,fun k=>?_⟩
   simp only [put,get]
   by_cases h:p=k
   ·rw [if_pos h,if_pos h.symm]
   ·rw [if_neg h,if_neg (fun e=>h e.symm)]
 | .leaf q v,p,x,hn,hp,hx=>by
   simp only [put]
   obtain ⟨t,q',p',hq,hpe,ht,hq',hp',htl,hh⟩:=Z3K q p
   split
   ·rename_i hs
    have hqp:q=p:=by
     have h1:=Z3z q p
     rw [hs.1,List.take_length] at h1
     have h2:q.length=p.length:=hs.1.symm.trans hs.2
     rw [h2,List.take_length] at h1
     exact h1
    subst hqp
    refine ⟨⟨hp,hx⟩,by simp,fun h=>h.elim,fun k=>?_⟩
    simp only [get]
    by_cases h:q=k
    ·rw [if_pos h,if_pos h.symm]
    ·rw [if_neg h,if_neg (fun e=>h e.symm),if_neg h]
   ·rename_i hs
    have hne:q'≠p':=by
     rintro rfl
     cases q' with
     | nil =>
       simp only [List.append_nil] at hq hpe
       exact hs ⟨by rw [← htl,← hq],by rw [← htl,← hpe]⟩
     | cons a r=>exact hh a r r ⟨rfl,rfl⟩
    have hnq:Nib q':=(hq ▸ hn.1:Nib (t++q')).right
    have hnp:Nib p':=(hpe ▸ hp:Nib (t++p')).right
    have hnt:Nib t:=(hpe ▸ hp:Nib (t++p')).left
    obtain ⟨hc,hb,hg⟩:=ZH0 hnq hnp hn.2 hx hne hh
    rw [← ht,← hq',← hp']
    have hnz:ZG6 (lay Z0T [] q' v) p' x≠.nil:=by intro e; rw [e] at hb; exact hb
    obtain ⟨h1,h2⟩:=Z52 hnt hc hnz
    refine ⟨h1,h2,fun h=>h.elim,fun k=>?_⟩
    rw [Z7O]
    simp only [get]
    by_cases hk:t <+: k
    ·obtain ⟨k',rfl⟩:=hk
     rw [Z0P,hg,hpe,hq]
     simp only [List.append_cancel_left_eq]
     split
     ·rfl
     ·by_cases h:k'=q'
      ·rw [if_pos h,if_pos h.symm]
      ·rw [if_neg h,if_neg (fun e=>h e.symm)]
    ·rw [Z08 hk,if_neg (fun (e:k=p)=>hk (by rw [e,hpe]; exact List.prefix_append _ _)),if_neg (fun (e:q=k)=>hk (by rw [← e,hq]; exact List.prefix_append _ _))]
 | .row q c,p,x,hn,hp,hx=>by
   simp only [put]
   obtain ⟨t,q',p',hq,hpe,ht,hq',hp',htl,hh⟩:=Z3K q p
   have hnp:Nib p':=(hpe ▸ hp:Nib (t++p')).right
   have hnt:Nib t:=(hpe ▸ hp:Nib (t++p')).left
   split
   ·rename_i hs
    have hq0:q'=[]:=by rw [hq',hs,List.drop_length]
    rw [hq0,List.append_nil] at hq
    subst hq
    rw [← hp']
    obtain ⟨h1,h2,h3,h4⟩:=Z8i (p:=p') (x:=x) hn.2.2.2 hnp hx
    refine ⟨⟨hn.1,hn.2.1,h3 hn.2.2.1,h1⟩,by simp,fun h=>h.elim,fun k=>?_⟩
    rw [Z4J,Z4J]
    by_cases hk:q <+: k
    ·obtain ⟨k',rfl⟩:=hk
     rw [Z0P,Z0P,h4,hpe]
     simp only [List.append_cancel_left_eq]
    ·rw [Z08 hk,Z08 hk,if_neg (fun (e:k=p)=>hk (by rw [e,hpe]; exact List.prefix_append _ _))]
   ·rename_i hs
    have hlt:ZK q p < q.length:=by have:=(Z4U q p).1; omega
    obtain ⟨a,q2,hq2⟩:∃a q2,q'=a :: q2:=by
     cases h:q' with
     | nil=>rw [hq',List.drop_eq_nil_iff] at h; omega
     | cons a r=>exact ⟨a,r,rfl⟩
    have hga:q.getD (ZK q p) 0=a:=by
     have h3:q[t.length]?=some a:=by rw [hq,List.getElem?_append_right (Nat.le_refl _),Nat.sub_self,hq2]; rfl
     rw [← htl,List.getD_eq_getElem?_getD,h3]; rfl
    have hgd:q.drop (ZK q p+1)=q2:=by
     rw [← List.drop_drop,← hq',hq2]; rfl
    rw [hga,hgd,← ht,← hp']
    have hnq:Nib q':=(hq ▸ hn.2.1:Nib (t++q')).right
    rw [hq2] at hnq
    have ha:a.toNat < 16:=hnq a (by simp)
    have hcn:c≠.nil:=by intro e; rw [e] at hn; exact hn.2.2.1
    obtain ⟨r1,r2⟩:=Z52 (p:=q2) (n:=c) (fun y hy=>hnq y (by simp [hy])) hn.2.2.2 hcn
    have hc1:∀i,Z1p (upd Z0T a (Z43 q2 c) i):=Z4B (fun _=>trivial) r1
    have hp2:∀b s,p'=b :: s→at_ (upd Z0T a (Z43 q2 c)) b=.nil:=fun b s h=>by
     rw [Z3V (fun h2=>hh a q2 s ⟨hq2,by rw [h,h2]⟩),Z3O]
    have hcl:Z1p (lay (upd Z0T a (Z43 q2 c)) [] p' x)∧Z3F (lay (upd Z0T a (Z43 q2 c)) [] p' x):=by
     cases hpp:p' with
     | nil=>exact ⟨⟨hc1,.inl ⟨hx,⟨a.toNat,ha⟩,by unfold upd; rw [if_pos rfl]; exact r2⟩⟩,trivial⟩
     | cons b s =>
       rw [hpp] at hnp
       have hb:b.toNat < 16:=hnp b (by simp)
       have hab:a≠b:=fun h=>hh a q2 s ⟨hq2,by rw [hpp,h]⟩
       refine ⟨⟨Z4B hc1 ⟨fun y hy=>hnp y (by simp [hy]),hx⟩,.inr ⟨⟨a.toNat,ha⟩,⟨b.toNat,hb⟩,ZG1 ha hb hab,?_,?_⟩⟩,trivial⟩
       ·unfold upd
        rw [if_neg (fun h=>hab (UInt8.toNat_inj.1 h)),if_pos rfl]; exact r2
       ·unfold upd
        rw [if_pos rfl]; simp
    have hnz:lay (upd Z0T a (Z43 q2 c)) [] p' x≠.nil:=by intro e; rw [e] at hcl; exact hcl.2
    obtain ⟨h1,h2⟩:=Z52 hnt hcl.1 hnz
    refine ⟨h1,h2,fun h=>h.elim,fun k=>?_⟩
    rw [Z7O,Z4J]
    by_cases hk:t <+: k
    ·obtain ⟨k',rfl⟩:=hk
     rw [Z0P,Z98 hnp hx (fun _=>rfl) hp2,hpe,hq,hq2]
     simp only [List.append_cancel_left_eq]
     split
     ·rfl
     ·cases k' with
      | nil =>
        rw [Zh,if_pos rfl,List.append_nil,Z08]
        intro hpre
        have:=hpre.length_le
        simp at this
        omega
      | cons b s =>
        rw [Z0Q]
        by_cases hba:b=a
        ·subst hba
         rw [Z7D ha,Z7O]
         by_cases hqs:q2 <+: s
         ·obtain ⟨u,rfl⟩:=hqs
          rw [Z0P,show t++b :: (q2++u)=(t++b :: q2)++u by simp,Z0P]
         ·rw [Z08 hqs,Z08]
          rintro ⟨u,hu⟩
          rw [List.append_assoc] at hu
          have:=List.append_cancel_left hu
          rw [List.cons_append] at this
          exact hqs ⟨u,(List.cons.inj this).2⟩
        ·rw [Z3V hba,Z3O,Z08]
         ·simp [get]
         ·rintro ⟨u,hu⟩
          rw [List.append_assoc] at hu
          have:=List.append_cancel_left hu
          rw [List.cons_append] at this
          exact hba (List.cons.inj this).1.symm
    ·rw [Z08 hk,if_neg (fun (e:k=p)=>hk (by rw [e,hpe]; exact List.prefix_append _ _)),Z08]
     rintro ⟨u,rfl⟩
     rw [hq,List.append_assoc] at hk
     exact hk (List.prefix_append _ _)
 | .branch cs v,[],x,hn,hp,hx=>by
   refine ⟨⟨hn.1,?_⟩,by simp [put],fun _=>trivial,fun k=>?_⟩
   ·rcases hn.2 with ⟨_,h⟩ | h
    ·exact .inl ⟨hx,h⟩
    ·exact .inr h
   ·simp only [put]
    cases k with
    | nil=>rw [Zh,if_neg hx,if_pos rfl]
    | cons b r=>rw [if_neg (by simp),Z0Q,Z0Q]
 | .branch cs v,a :: r,x,hn,hp,hx=>by
   have ha:a.toNat < 16:=hp a (by simp)
   have hr:Nib r:=fun y hy=>hp y (by simp [hy])
   have ih:=fun i=>Z8i (n:=cs i) (p:=r) (x:=x) (hn.1 i) hr hx
   simp only [put]
   refine ⟨⟨fun i=>?_,?_⟩,by simp,fun _=>trivial,fun k=>?_⟩
   ·dsimp only
    split
    ·exact (ih i).1
    ·exact hn.1 i
   ·have keep:∀i,cs i≠.nil→(if i.val=a.toNat then put (cs i) r x else cs i)≠.nil:=fun i hi=>by
      split
      ·exact (ih i).2.1
      ·exact hi
    rcases hn.2 with ⟨hv,i,hi⟩ | ⟨i,j,hij,hi,hj⟩
    ·exact .inl ⟨hv,i,keep i hi⟩
    ·exact .inr ⟨i,j,hij,keep i hi,keep j hj⟩
   ·cases k with
    | nil=>rw [Zh,Zh,if_neg (show ¬([]:By)=a :: r by simp)]
    | cons b s =>
      rw [Z0Q,Z0Q]
      by_cases hb:b=a
      ·subst hb
       rw [ZFu ha,ZFu ha,if_pos rfl,(ih _).2.2.2]
       simp only [List.cons.injEq,true_and]
      ·rw [if_neg (by simp [hb])]
       unfold at_
       split
       ·rename_i hb16
        dsimp only
        rw [if_neg (fun e=>hb (UInt8.toNat_inj.1 e))]
       ·rfl
end Go.Trie
end
section
namespace Go.Trie
def isNil:Nd→Bool
 | .nil=>true
 | _=>false
def ZHC (cs:Fin 16→Nd):List (Fin 16):=(List.finRange 16).filter fun i=> !isNil (cs i)
theorem nib_one (i:Fin 16):Nib [UInt8.ofNat i.val]:=fun x hx=>by
 simp at hx; subst hx
 rw [UInt8.toNat_ofNat']
 have:=i.isLt; omega
end Go.Trie
end
section
namespace Go.Vcg

structure ZW (w0 w:World) (e:TypeId) (sz:Nat) (o:Option Addr) (l c:Nat) (xs:List Value):Prop where
 own:Own w e sz o l c xs
 mod:Mod NoB w0 w
 new:∀k,OB o k→w0.heap.size≤k
variable {P:Program} {w0 w w':World} {e t tx ty:TypeId} {sz l c n:Nat} {o:Option Addr} {xs news:List Value} {x:Value} {i:TypeInfo} {z:Value}
theorem ZW.nil (M:Mod NoB w0 w) (e:TypeId) (sz:Nat):ZW w0 w e sz none 0 0 []:=⟨Own.nil w e sz,M,fun k h=>(Z47 k h).elim⟩
theorem ZW.mod' (h:ZW w0 w e sz o l c xs) (M:Mod NoB w w'):ZW w0 w' e sz o l c xs:=⟨h.own.mod' M,h.mod.trans M (fun _ _ h=>h),h.new⟩
theorem ZW.push (h:ZW w0 w e sz o l c xs) (ht:P.underlying t=some (.slice e)) (hi:P.info? e=some i) (hz:i.zero=some z) (hs:i.size=sz) (hzs:z.cells.size=sz)
  (src:Src P sz tx x n news w) (h63:l+n≤maxLen) (hb:(l+n) * i.bytes≤140737488355328) :
  ∃o' c' w',Sem.run P (builtinV .append #[t,tx] ty #[.slice o l c,x]) w=.ok (.slice o' (l+n) c') w'∧ZW w0 w' e sz o' (l+n) c' (xs++news):=by
 obtain ⟨o',c',w',h1,h2,h3,h4⟩:=Z3U (ty:=ty) ht hi hz hs hzs h.own src h63 hb
 refine ⟨o',c',w',h1,h2,h.mod.trans h3 (fun k hk hob=>absurd (h.new k hob) (by omega)),fun k hk=>?_⟩
 rcases h4 k hk with h5 | h5
 ·exact h.new k h5
 ·exact Nat.le_trans h.mod.size h5
theorem ZW.set (h:ZW w0 w e sz o l c xs) {j:Nat} (hj:j < l * sz) {v:Value} (hv:v.oneCell'=true) :
  ∃g,o=some ⟨g,0,none⟩∧Z1 w ⟨g,j,none⟩ v∧ZW w0 (w.setCell ⟨g,j,none⟩ v) e sz o l c (xs.set j v):=by
 rcases h.own.2 with ⟨_,rfl,_⟩ | ⟨g,cur,rfl,hb,hlc,hcm,hcs,ht⟩
 ·simp at hj
 ·have hle:l * sz≤c * sz:=Nat.mul_le_mul_right _ hlc
  refine ⟨g,rfl,hb.canSet (by rw [hcs]; omega) hv,⟨by rw [List.length_set]; exact h.own.1,.inr ⟨g,_,rfl,hb.set j v,hlc,hcm,by simpa using hcs,?_⟩⟩,?_,h.new⟩
  ·rw [Array.toList_setIfInBounds,List.take_set,ht]
  ·exact h.mod.step_set (fun hk=>absurd (h.new g ⟨_,rfl,rfl⟩) (by show ¬_≤_; have:g < w0.heap.size:=hk; omega))
section
variable {C:Type} {lab:Nat→C}
theorem ZW.done (h:ZW w0 w e sz o l c xs) (cl:C):COw w (ext lab w0.heap.size cl) cl e sz o l c xs∧Stp (fun _=>False) w0 lab w (ext lab w0.heap.size cl) :=
 ⟨⟨h.own,fun k hk=>ext_new (h.new k hk)⟩,Stp.of_nob h.mod cl⟩

def Z4p (w:World) (lab:Nat→C) (c:C) (o:Option Addr) (xs:List Value):Prop :=
 ∀(j:Nat) (v:Value),xs[j]?=some v→∃b f,o=some ⟨b,f,none⟩∧b < w.heap.size∧lab b=c∧w.cell? ⟨b,f+j,none⟩=some v
variable {cl:C} {S:C→Prop} {lab':Nat→C}
theorem Z4p.nil (w:World) (lab:Nat→C) (cl:C) (o:Option Addr):Z4p w lab cl o []:=fun j v h=>by simp at h
theorem Z4p.stp (h:Z4p w lab cl o xs) (s:Stp S w lab w' lab') (hs:¬S cl):Z4p w' lab' cl o xs:=fun j v hv=>by
 obtain ⟨b,f,ho,hb,hl,hc⟩:=h j v hv
 exact ⟨b,f,ho,Nat.lt_of_lt_of_le hb s.size,(s.lab b hb).trans hl,(World.cell?_of_block (s.block b hb (by rw [hl]; exact hs))).trans hc⟩
theorem COw.row (h:COw w lab cl e sz o l c xs):Z4p w lab cl o xs:=fun j v hv=>by
 obtain ⟨g,rfl,hc⟩:=h.own.cell hv
 exact ⟨g,0,rfl,h.own.lt ⟨_,rfl,rfl⟩,h.clr _ ⟨_,rfl,rfl⟩,by rw [Nat.zero_add]; exact hc⟩
theorem Z4p.src (h:Z4p w lab cl o xs) (hk:P.underlying tx=some (.slice e)) (hl:xs.length=n * sz) (h1:∀u∈xs,u.oneCell'=true) (c:Nat) (hz:0 < sz):Src P sz tx (.slice o n c) n xs w:=by
 cases xs with
 | nil =>
   have:n=0:=by
    have:n * sz=0:=by simpa using hl.symm
    rcases Nat.mul_eq_zero.1 this with h | h <;> omega
   subst this
   cases o with
   | none=>exact Src.ofNil w hk c
   | some a=>exact Src.ofSlice w hk a 0 c [] hl (by simp) (by simp)
 | cons v r =>
   obtain ⟨b,f,rfl,_,_,_⟩:=h 0 v rfl
   refine Src.ofSlice w hk _ n c _ hl (fun j u hu=>?_) h1
   obtain ⟨b',f',ho,_,_,hc⟩:=h j u hu
   cases ho
   rw [Z6]; exact hc
theorem ZB4 {o:Option Addr} {news:List Value} {x:Value} {m:Nat} (h:Z4p w lab cl o xs) (ht:P.underlying t=some (.slice e)) (hi:P.info? e=some i) (hz:i.zero=some z) (hs:i.size=sz) (hzs:z.cells.size=sz) (hsz:0 < sz)
  (hl:xs.length=l * sz) (src:Src P sz tx x (m+1) news w) (h63:l+(m+1)≤maxLen) (hb:(l+(m+1)) * i.bytes≤140737488355328) :
  ∃o' c' w',Sem.run P (builtinV .append #[t,tx] ty #[.slice o l l,x]) w=.ok (.slice o' (l+(m+1)) c') w'∧ZW w w' e sz o' (l+(m+1)) c' (xs++news):=by
 have hold:(Builtin.firstCells i.size l (.slice o l l)).run P w.drew=.ok xs.toArray w.drew:=by
  subst hs
  cases o with
  | none =>
    have:xs=[]:=by
     cases xs with
     | nil=>rfl
     | cons v r=>obtain ⟨b,f,ho,_⟩:=h 0 v rfl; cases ho
    subst this
    have:l=0:=by
     have:l * i.size=0:=by simpa using hl.symm
     rcases Nat.mul_eq_zero.1 this with h | h <;> omega
    subst this
    exact run_firstCells_none w.drew i.size 0 0 0
  | some a =>
    exact run_firstCells_some w.drew i.size l _ l l xs hl (fun j v hv=>by
     obtain ⟨b,f,ho,_,_,hc⟩:=h j v hv
     cases ho
     rw [Z6]
     exact hc)
 have hr:=run_append_grow_src (P:=P) w t tx ty e i z ht hi hz o l l xs hold x (m+1) news (hs ▸ src) (by omega) (by simp only [maxLen] at h63; omega) (growslice_fits (by omega) hb)
 have hlen:(xs++news).length=(l+(m+1)) * sz:=by rw [List.length_append,hl,src.newsLen,← Nat.add_mul]
 have hge:=grownCap_ge w (l+(m+1)) l e
 have hcm:grownCap w (l+(m+1)) l e≤maxLen:=grownCap_le_maxLen w (l+(m+1)) l e h63
 refine ⟨_,_,_,hr,⟨hlen,.inr ⟨_,_,rfl,Blk.new w.drew e _,hge,hcm,?_,?_⟩⟩,((Mod.drew w).step_alloc _),fun k hk=>?_⟩
 ·rw [Array.size_append,List.size_toArray,hlen,size_zeroCells,hzs,← Nat.add_mul]
  congr 1; omega
 ·rw [Array.toList_append]
  show List.take _ ((xs++news)++_)=_
  rw [← hlen]
  exact List.take_left
 ·obtain ⟨d,hd,rfl⟩:=hk
  cases hd
  exact Nat.le_refl _
theorem Z9j (o:Option Addr) (k:Nat):Option.map (fun a=>Addr.add a (0 * k)) o=o:=by
 cases o with
 | none=>rfl
 | some a=>simp [Addr.add]
theorem Z8m {o:Option Addr} {l c h:Nat} (ht:P.underlying t=some (.slice e)) (hi:P.info? e=some i) (w:World) (hh:h≤c) :
  Sem.run P (Instr.sliceAt t (.slice o l c) none (some (.int .i64 (h:Int))) (some (.int .i64 (h:Int)))) w=.ok (.slice o h h) w:=by
 have e1:∀(y:Nat) (code:BoundsCode),h≤y→(Instr.sliceBound (.int .i64 (h:Int)) y code).run P w=.ok h w:=by
  intro y code hy
  simp [Instr.sliceBound,asIntOf,hy]
 have e2:(Instr.sliceBounds true l c none (some (.int .i64 (h:Int))) (some (.int .i64 (h:Int)))).run P w=.ok (0,h,h) w:=by
  unfold Instr.sliceBounds
  simp only [Sem.run_bind,e1 c _ hh,Result.andThen_ok,e1 h _ (Nat.le_refl _),Sem.run_pure]
 unfold Instr.sliceAt
 simp only [Sem.run_bind,Zp ht,Result.andThen_ok]
 unfold Instr.slice
 simp only [Sem.run_bind,Zp ht,Result.andThen_ok,e2,Z0v hi,Sem.run_pure,Z9j,ite_self,Nat.sub_zero]
end
end Go.Vcg
end
section
namespace Go.Vcg

def Z7r (bs:List UInt8):ByteArray:=⟨bs.toArray⟩
theorem Z7o {P:Program} {w:World} {src dst e:TypeId} (hs:P.underlying src=some (.slice e)) (he:P.underlying e=some (.int .u8)) (hd:P.underlying dst=some .string) {o:Option Addr} {c:Nat} {bs:List UInt8} (h:RdB w o bs) :
  (convert src dst (.slice o bs.length c)).run P w=.ok (.string (Z7r bs)) w:=by
 rw [run_convert_bytes_string w src dst e o bs.length c hs he hd]
 cases o with
 | none =>
   have:bs=[]:=by
    by_cases hne:bs=[]
    ·exact hne
    ·obtain ⟨b,f,h,_⟩:=h hne; cases h
   subst this
   rfl
 | some a =>
   have hl:(loadCells a bs.length).run P w=.ok ((bs.map fun b=>(b.toNat:Int)).map (Value.int .u8)).toArray w:=by
    have h1:(Builtin.firstCells 1 bs.length (.slice (some a) bs.length c)).run P w=.ok (bs.map bV).toArray w:=by
     refine run_firstCells_some w 1 bs.length a _ c _ (by simp) (fun j v hv=>?_)
     rw [List.getElem?_map,Option.map_eq_some_iff] at hv
     obtain ⟨x,hx,rfl⟩:=hv
     obtain ⟨hj,rfl⟩:=List.getElem?_eq_some_iff.1 hx
     obtain ⟨b,f,ho,_,hc⟩:=h (by intro e; rw [e] at hj; simp at hj)
     cases ho
     rw [Z6,hc j hj]
     simp [List.getD_eq_getElem?_getD,hj]
    simp only [Builtin.firstCells,Nat.mul_one] at h1
    rw [h1,List.map_map]; rfl
   rw [run_bytesToString w a _ c _ hl]
   have key:∀(l:List UInt8) (s:ByteArray),(l.map fun b=>(b.toNat:Int)).foldl (fun r n=>r.push (UInt8.ofNat n.toNat)) s=⟨s.data++l.toArray⟩:=by
    intro l
    induction l with
    | nil=>intro s; simp
    | cons b l ih =>
      intro s
      rw [List.map_cons,List.foldl_cons,ih]
      have e1:UInt8.ofNat ((b.toNat:Int)).toNat=b:=by rw [Int.toNat_natCast,UInt8.ofNat_toNat]
      rw [e1]
      congr 1
      show s.data.push b++l.toArray=_
      rw [List.toArray_cons,← Array.append_assoc]
      rfl
   rw [key]
   show Result.ok (Value.string ⟨#[]++bs.toArray⟩) w=_
   rw [Array.empty_append]; rfl
theorem ZFg (a b:ByteArray):Z9a .eql a b=decide (a.data.toList=b.data.toList):=by
 simp only [Z9a,ByteArray.toList_eq]
 by_cases h:a.data.toList=b.data.toList
 ·rw [decide_eq_true h,h]; simp
 ·rw [decide_eq_false h]; simpa using h
theorem Z6J (a b:List UInt8):Z9a .eql (Z7r a) (Z7r b)=decide (a=b):=by
 rw [ZFg]; rfl
end Go.Vcg
end
section
namespace Go.Proofs.YtfghidehlnfdiaaGreat
open Go Go.Vcg Go.Trie

theorem ZH {P:Program} {f:FuncId} {args:Array Value} {w:World} {Q:Ending→World→Prop} (h:∀R:Ending→World→Prop,(∀e w',Q e w'→R e w')→Calls P f args w R):Calls P f args w Q :=
 h Q (fun _ _ h=>h)
theorem Z2G {t:TypeId} {z:Value} {s b:Nat} (h:(Tryz.prog.info? t).map (fun i=>(i.zero,i.size,i.bytes))=some (some z,s,b)):∃i,Tryz.prog.info? t=some i∧i.zero=some z∧i.size=s∧i.bytes=b:=by
 obtain ⟨i,hi,h1⟩:=Option.map_eq_some_iff.1 h
 simp only [Prod.mk.injEq] at h1
 exact ⟨i,hi,h1⟩
theorem Za {w0 w:World} {o:Option Addr} {n k:Nat} {b:List UInt8} {ty:TypeId} (F:ZW w0 w tU8 1 o n k (b.map bV)) {o2:Option Addr} {c:List UInt8} {k2:Nat} (hr:RdB w o2 c) (hn:n+c.length≤2 ^ 40) :
  ∃o' c' w',Sem.run Tryz.prog (builtinV .append #[Z07,Z07] ty #[.slice o n k,.slice o2 c.length k2]) w=.ok (.slice o' (n+c.length) c') w'∧ZW w0 w' tU8 1 o' (n+c.length) c' ((b++c).map bV):=by
 obtain ⟨i,hi,hz,hs,hb⟩:=Z2G Z6A
 rw [List.map_append]
 exact F.push Zt hi hz hs rfl (Z5q Zt hr) (by simp only [maxLen]; omega) (by rw [hb]; omega)
theorem Z1N {w0 w:World} (M:Vcg.Mod NoB w0 w) {o2:Option Addr} {c:List UInt8} {k2:Nat} {ty:TypeId} (hr:RdB w o2 c) (hn:c.length≤2 ^ 40) :
  ∃o' c' w',Sem.run Tryz.prog (builtinV .append #[Z07,Z07] ty #[.slice none 0 0,.slice o2 c.length k2]) w=.ok (.slice o' c.length c') w'∧ZW w0 w' tU8 1 o' c.length c' (c.map bV):=by
 have:=Za (k2:=k2) (ty:=ty) (b:=[]) (ZW.nil M tU8 1) hr (by omega)
 simpa using this
theorem ZQ {w0 w:World} {o:Option Addr} {l k:Nat} {bs:List UInt8} (F:ZW w0 w tU8 1 o l k (bs.map bV)):RdB w o bs:=F.own.bytes
theorem Z1w {w:World} {o:Option Addr} {bs:List UInt8} (h:RdB w o bs) {i:Nat} (hi:i < bs.length):∃b f,o=some ⟨b,f,none⟩∧b < w.heap.size∧w.cell? ⟨b,f+i,none⟩=some (bV bs[i]):=by
 obtain ⟨b,f,ho,hb,hc⟩:=h (by intro e; rw [e] at hi; simp at hi)
 refine ⟨b,f,ho,hb,?_⟩
 rw [hc i hi]
 simp [List.getD_eq_getElem?_getD,hi]
theorem ZAk {w:World} (a b:UInt8) {n m:Int} (hn:n=(a.toNat:Int)) (hm:m=(b.toNat:Int)):RdB (w.alloc (.cells #[.int .u8 n,.int .u8 m] 5)) (some ⟨w.heap.size,0,none⟩) [a,b]:=by
 subst hn hm
 exact RdB.of_blk (Blk.new w 5 #[bV a,bV b]) (fun i hi=>by
  rcases i with _ | _ | i
  ·rfl
  ·rfl
  ·exact absurd hi (by simp))
theorem ZHg (b:UInt8):Int.fdiv (b.toNat:Int) 16=((b >>> 4).toNat:Int):=by
 have:∀n:Fin 256,Int.fdiv ((UInt8.ofFin n).toNat:Int) 16=((UInt8.ofFin n >>> 4).toNat:Int):=by decide +kernel
 exact this b.toFin
theorem ZHl (b:UInt8):bitsI .and .u8 (b.toNat:Int) 15=((b &&& 15).toNat:Int):=by
 have:∀n:Fin 256,bitsI .and .u8 ((UInt8.ofFin n).toNat:Int) 15=((UInt8.ofFin n &&& 15).toNat:Int):=by decide +kernel
 exact this b.toFin
theorem ZT (k:By):(nibbles k).length=2 * k.length:=by
 induction k with
 | nil=>rfl
 | cons a r ih =>
   show ([a >>> 4,a &&& 15]++nibbles r).length=_
   rw [List.length_append,ih]; simp; omega
theorem Z3H (k:By) (a:UInt8):nibbles (k++[a])=nibbles k++[a >>> 4,a &&& 15]:=by
 unfold nibbles
 rw [List.flatMap_append]; rfl
theorem Z2m {w:World} {o:Option Addr} {k:Nat} {bs:List UInt8} (hr:RdB w o bs) (hl:bs.length≤2 ^ 30) :
  Calls Tryz.prog Z1Z.n #[.slice o bs.length k] w (fun e w'=>∃o' k',e=.returned (.slice o' (nibbles bs).length k')∧ZW w w' tU8 1 o' (nibbles bs).length k' ((nibbles bs).map bV)):=by
 refine Z1Z.vc _ _ _ _ _ ?_
 unfold Z1Z.Vc
 refine ⟨fun o' l' k' i w'=>∃j:Nat,i=(j:Int)∧j≤bs.length∧l'=(nibbles (bs.take j)).length∧ZW w w' tU8 1 o' l' k' ((nibbles (bs.take j)).map bV),fun _ _ _ i _=>((bs.length:Int) - i).toNat,
  ⟨0,rfl,Nat.zero_le _,rfl,ZW.nil (Mod.refl w) _ _⟩,?_⟩
 rintro o' _ k' _ _ w1 ⟨j,rfl,hj,rfl,F⟩
 refine ⟨fun hlt=>?_,fun hge=>?_⟩
 ·have hjl:j < bs.length:=by omega
  obtain ⟨b,f,rfl,hb,hc⟩:=Z1w hr hjl
  have htk:bs.take (j+1)=bs.take j++[bs[j]]:=by rw [List.take_add_one,List.getElem?_eq_getElem hjl]; rfl
  refine ⟨_,rfl,by omega,_,by rw [Z6,Int.toNat_natCast]; exact (ZX F.mod hb (fun h=>h)).trans hc,?_⟩
  rintro d w2 ⟨rfl,rfl⟩
  have hnl:=ZT (bs.take j)
  rw [List.length_take] at hnl
  obtain ⟨o3,k3,w3,hr3,F3⟩:=Za (ty:=Z07) (k2:=2) (F.mod' (Mod.alloc _ _)) (ZAk (w:=w1) (bs[j] >>> 4) (bs[j] &&& 15) (ZHg _) (ZHl _)) (by simp; omega)
  refine ⟨_,w3,hr3,_,_,_,rfl,⟨j+1,by rw [Z0 (by omega) (by omega)]; omega,hjl,?_,?_⟩,?_⟩
  ·rw [htk,Z3H,List.length_append]
  ·rw [htk,Z3H]; exact F3
  ·dsimp only
   rw [Z0 (by omega) (by omega)]; omega
 ·obtain rfl:j=bs.length:=by omega
  rw [List.take_length] at F ⊢
  exact ⟨_,_,rfl,F⟩
theorem Z2C {w:World} {o:Option Addr} {k:Nat} {bs:List UInt8} (hr:RdB w o bs) (hl:bs.length≤2 ^ 40) :
  Calls Tryz.prog Z1q.n #[.slice o bs.length k] w (fun e w'=>∃o' k',e=.returned (.slice o' bs.length k')∧ZW w w' tU8 1 o' bs.length k' (bs.map bV)):=by
 refine Z1q.vc _ _ _ _ _ ?_
 unfold Z1q.Vc
 refine ⟨fun h=>?_,fun h=>?_⟩
 ·subst h
  have:bs=[]:=by
   by_cases hne:bs=[]
   ·exact hne
   ·obtain ⟨b,f,ho,_⟩:=hr hne; cases ho
  subst this
  exact ⟨none,0,rfl,ZW.nil (Mod.refl w) _ _⟩
 ·rintro d w2 ⟨rfl,rfl⟩
  have M2:=Mod.alloc (S:=NoB) w (.cells #[] 5)
  have F:ZW w (w.alloc (.cells #[] 5)) tU8 1 (some ⟨w.heap.size,0,none⟩) 0 0 (([]:List UInt8).map bV) :=
   ⟨⟨rfl,.inr ⟨_,#[],rfl,Blk.new w 5 #[],Nat.le_refl _,by simp [maxLen],rfl,rfl⟩⟩,M2,fun k hk=>by obtain ⟨d,hd,rfl⟩:=hk; cases hd; exact Nat.le_refl _⟩
  obtain ⟨o3,k3,w3,hr3,F3⟩:=Za (ty:=Z07) (k2:=k) F (hr.mod' M2) (by omega)
  rw [Nat.zero_add] at hr3 F3
  rw [List.nil_append] at F3
  exact ⟨_,w3,hr3,_,_,_,rfl,_,_,rfl,F3⟩
end Go.Proofs.YtfghidehlnfdiaaGreat
end
section
namespace Go.Trie
theorem Z6E:∀(n:Nat) (x:By) (a b:UInt8),x.length=2 * n→Z3t (x++[a,b])=Z3t x++[a <<< 4 ||| b]
 | 0,[],a,b,_=>rfl
 | 0,_ :: _,a,b,h=>by simp at h
 | n+1,[],a,b,h=>by simp at h
 | n+1,[_],a,b,h=>by simp at h; omega
 | n+1,c :: d :: r,a,b,h=>by
   have:=Z6E n r a b (by simp at h; omega)
   show Z3t (c :: d :: (r++[a,b]))=Z3t (c :: d :: r)++_
   simp only [Z3t,this,List.cons_append]
theorem Z5f:∀(n:Nat) (x:By),x.length=2 * n→(Z3t x).length=n
 | 0,[],_=>rfl
 | 0,_ :: _,h=>by simp at h
 | n+1,[],h=>by simp at h
 | n+1,[_],h=>by simp at h; omega
 | n+1,c :: d :: r,h=>by
   simp only [Z3t,List.length_cons,Z5f n r (by simp at h; omega)]
def Z21 (p:By) (leaf:Bool):By:=if p.length % 2=1 then [Z1f leaf+1] else [Z1f leaf,0]
theorem Z5X (p:By) (leaf:Bool):headed p leaf=Z21 p leaf++p:=by
 unfold headed Z21; split <;> rfl
theorem Z5B (p:By) (leaf:Bool):∃n,(headed p leaf).length=2 * n:=by
 unfold headed
 split
 ·rename_i h; exact ⟨(p.length+1) / 2,by rw [List.length_cons]; omega⟩
 ·rename_i h; exact ⟨(p.length+2) / 2,by rw [List.length_cons,List.length_cons]; omega⟩
theorem Z4V:∀(n:Nat) (p q:By),p.take n=q.take n→n≤p.length→n≤q.length→n≤ZK p q
 | 0,p,q,_,_,_=>Nat.zero_le _
 | n+1,a :: p,b :: q,h,h1,h2=>by
   simp only [List.take_succ_cons,List.cons.injEq] at h
   have:=Z4V n p q h.2 (by simp at h1; omega) (by simp at h2; omega)
   simp only [ZK,if_pos h.1]; omega
 | n+1,[],q,_,h,_=>by simp at h
 | n+1,_ :: _,[],_,_,h=>by simp at h
theorem ZEn {n:Nat} {p q:By} (h:p.take n=q.take n) (h1:n≤p.length) (h2:n≤q.length) (h3:n=p.length∨n=q.length∨∃(x:n < p.length) (y:n < q.length),p[n]≠q[n]):ZK p q=n:=by
 have ge:=Z4V n p q h h1 h2
 obtain ⟨l1,l2⟩:=Z4U p q
 rcases h3 with rfl | rfl | ⟨x,y,hne⟩
 ·omega
 ·omega
 ·by_cases hlt:n < ZK p q
  ·have ht:=Z3z p q
   have e1:(p.take (ZK p q))[n]?=(q.take (ZK p q))[n]?:=by rw [ht]
   rw [List.getElem?_take,List.getElem?_take,if_pos hlt,if_pos hlt,List.getElem?_eq_getElem x,List.getElem?_eq_getElem y] at e1
   exact (hne (Option.some.inj e1)).elim
  ·omega
end Go.Trie
namespace Go.Proofs.YtfghidehlnfdiaaGreat
open Go Go.Vcg Go.Trie
theorem ZBR {w:World} {o:Option Addr} {k:Nat} {bs:List UInt8} (hr:RdB w o bs) (hl:bs.length≤2 ^ 30) :
  Calls Tryz.prog Z2R.n #[.slice o bs.length k] w (fun e w'=>w'=w∧∃n,e=.returned (.int .u8 n)∧(n≥16↔∃x∈bs,x≥16)):=by
 refine Z2R.vc _ _ _ _ _ ?_
 unfold Z2R.Vc
 refine ⟨fun n i w'=>∃j:Nat,i=(j:Int)∧j≤bs.length∧w'=w∧(n≥16↔∃x∈bs.take j,x≥16),fun _ i _=>((bs.length:Int) - i).toNat,⟨0,rfl,Nat.zero_le _,rfl,by simp⟩,?_⟩
 rintro n _ _ _ ⟨j,rfl,hj,rfl,hn⟩
 refine ⟨fun hlt=>?_,fun hge=>?_⟩
 ·have hjl:j < bs.length:=by omega
  obtain ⟨b,f,rfl,hb,hc⟩:=Z1w hr hjl
  have htk:bs.take (j+1)=bs.take j++[bs[j]]:=by rw [List.take_add_one,List.getElem?_eq_getElem hjl]; rfl
  refine ⟨_,rfl,by omega,_,by rw [Z6,Int.toNat_natCast]; exact hc,⟨j+1,by rw [Z0 (by omega) (by omega)]; omega,hjl,rfl,?_⟩,?_⟩
  ·rw [htk]
   simp only [List.mem_append,List.mem_singleton]
   have hx:((bs[j].toNat:Int)≥16)↔bs[j]≥16:=by
    have:bs[j]≥16↔(16:UInt8).toNat≤bs[j].toNat:=UInt8.le_iff_toNat_le
    rw [this]
    show _↔16≤bs[j].toNat
    omega
   constructor
   ·intro h
    by_cases h1:n≥16
    ·obtain ⟨x,hx1,hx2⟩:=hn.1 h1
     exact ⟨x,.inl hx1,hx2⟩
    ·exact ⟨_,.inr rfl,hx.1 (by omega)⟩
   ·rintro ⟨x,hx1 | rfl,hx2⟩
    ·have:=hn.2 ⟨x,hx1,hx2⟩; omega
    ·have:=hx.2 hx2; omega
  ·dsimp only
   rw [Z0 (by omega) (by omega)]; omega
 ·obtain rfl:j=bs.length:=by omega
  rw [List.take_length] at hn
  exact ⟨rfl,n,rfl,hn⟩
theorem shl4 (a:UInt8):IntKind.wrap .u8 ((a.toNat:Int) * 16)=((a <<< 4).toNat:Int):=by
 have:∀n:Fin 256,IntKind.wrap .u8 (((UInt8.ofFin n).toNat:Int) * 16)=((UInt8.ofFin n <<< 4).toNat:Int):=by decide +kernel
 exact this a.toFin
theorem Z4I (w:World) (cs:List UInt8) (A:Array Value) (hA:A.toList=cs.map bV) (hl:cs.length≤maxLen):ZW w (w.alloc (.cells A 5)) tU8 1 (some ⟨w.heap.size,0,none⟩) cs.length cs.length (cs.map bV):=by
 have hs:A.size=cs.length:=by rw [← Array.length_toList,hA,List.length_map]
 refine ⟨⟨by simp,.inr ⟨_,A,rfl,Blk.new w 5 A,Nat.le_refl _,hl,by omega,?_⟩⟩,Mod.alloc _ _,fun k hk=>by obtain ⟨d,hd,rfl⟩:=hk; cases hd; exact Nat.le_refl _⟩
 rw [hA,List.take_of_length_le (by rw [List.length_map]; omega)]
theorem ZW.from_ {w w0 w1:World} {e:TypeId} {sz:Nat} {o:Option Addr} {l c:Nat} {xs:List Value} (h:ZW w0 w1 e sz o l c xs) (M:Vcg.Mod NoB w w0):ZW w w1 e sz o l c xs :=
 ⟨h.own,M.trans h.mod (fun _ _ h=>h),fun k hk=>Nat.le_trans M.size (h.new k hk)⟩
theorem ZCy {w:World} {o:Option Addr} {k:Nat} {bs:List UInt8} (hr:RdB w o bs) (hl:bs.length≤2 ^ 30) (leaf:Bool) :
  Calls Tryz.prog Z3A.n #[.slice o bs.length k,.bool leaf] w (fun e w'=>∃o' k',e=.returned (.tuple #[.slice o' (Z82 bs leaf).1.length k',.int .i64 (Z82 bs leaf).2])∧ZW w w' tU8 1 o' (Z82 bs leaf).1.length k' ((Z82 bs leaf).1.map bV)):=by
 refine ZH fun R hR=>Z3A.vc _ _ _ _ _ _ ?_
 unfold Z3A.Vc
 have bad:Z34 bs→R (.returned (.tuple #[.slice none 0 0,.int .i64 140])) w:=fun h=>by
  refine hR _ _ ⟨none,0,?_,?_⟩
  ·unfold Z82; rw [if_pos h]; rfl
  ·unfold Z82; rw [if_pos h]; exact ZW.nil (Mod.refl w) _ _
 refine ⟨fun h=>bad (.inl (by omega)),fun h128=>?_⟩
 refine (ZBR hr hl).mono ?_
 rintro _ w1 ⟨rfl,n,rfl,hn⟩
 refine ⟨_,rfl,fun h=>bad (.inr (hn.1 h)),fun h16=>?_⟩
 have hgood:¬Z34 bs:=by
  rintro (h | h)
  ·omega
  ·exact h16 (hn.2 h)
 have hpk:Z82 bs leaf=(Z3t (headed bs leaf),0):=by unfold Z82; rw [if_neg hgood]
 rw [hpk] at hR
 refine ⟨fun m w'=>m=((Z1f leaf).toNat:Int)∧w'=w1,⟨fun h=>⟨by rw [h]; rfl,rfl⟩,fun h=>⟨by rw [h]; rfl,rfl⟩⟩,?_⟩
 rintro _ _ w7 ⟨rfl,rfl⟩
 rintro d8 w9 ⟨rfl,rfl⟩
 have hho:(Z21 bs leaf).length≤2:=by unfold Z21; split <;> simp
 refine ⟨fun o' l' k' w'=>∃k0,k'=k0∧l'=(Z21 bs leaf).length∧ZW w7 w' tU8 1 o' l' k' ((Z21 bs leaf).map bV),⟨fun hodd=>?_,fun hev=>?_⟩,?_⟩
 ·rintro d11 w12 ⟨rfl,rfl⟩
  have ho:bs.length % 2=1:=by
   have:Int.tmod ((bs.length:Nat):Int) 2=((bs.length % 2:Nat):Int):=rfl
   omega
  have e:Z21 bs leaf=[Z1f leaf+1]:=by unfold Z21; rw [if_pos ho]
  rw [e]
  have hw:IntKind.wrap .u8 (((Z1f leaf).toNat:Int)+1)=((Z1f leaf+1).toNat:Int):=by cases leaf <;> decide
  rw [hw]
  exact ⟨_,rfl,rfl,ZW.from_ (Z4I _ [Z1f leaf+1] _ rfl (by simp [maxLen])) (Mod.alloc _ _)⟩
 ·have ho:¬bs.length % 2=1:=by
    have:Int.tmod ((bs.length:Nat):Int) 2=((bs.length % 2:Nat):Int):=rfl
    omega
  have e:Z21 bs leaf=[Z1f leaf,0]:=by unfold Z21; rw [if_neg ho]
  rw [e]
  exact ⟨_,rfl,rfl,Z4I _ [Z1f leaf,0] _ rfl (by simp [maxLen])⟩
 ·rintro o13 _ _ _ w14 ⟨c13,rfl,rfl,F14⟩
  obtain ⟨o16,k16,w16,hr16,F16⟩:=Za (ty:=Z07) (k2:=k) F14 (hr.mod' F14.mod) (by omega)
  rw [← Z5X] at F16
  have hlh:(Z21 bs leaf).length+bs.length=(headed bs leaf).length:=by rw [Z5X,List.length_append]
  rw [hlh] at hr16 F16
  refine ⟨_,w16,hr16,_,_,_,rfl,?_⟩
  obtain ⟨N,hN⟩:=Z5B bs leaf
  have hrh:=ZQ F16
  generalize headed bs leaf=H at *
  refine ⟨fun o' l' k' i w'=>∃j:Nat,i=((2 * j:Nat):Int)∧j≤N∧l'=(Z3t (H.take (2 * j))).length∧ZW w16 w' tU8 1 o' l' k' ((Z3t (H.take (2 * j))).map bV),fun _ _ _ i _=>((H.length:Int) - i).toNat,
   ⟨0,rfl,Nat.zero_le _,rfl,ZW.nil (Mod.refl w16) _ _⟩,?_⟩
  rintro o' _ k' _ _ w23 ⟨j,rfl,hj,rfl,F⟩
  refine ⟨fun hlt=>?_,fun hge=>?_⟩
  ·rintro _ rfl
   have h1:2 * j < H.length:=by omega
   have h2:2 * j+1 < H.length:=by omega
   have F24:=F.mod' (Mod.drew (S:=NoB) w23)
   obtain ⟨b,f,rfl,hb,hc1⟩:=Z1w hrh h1
   obtain ⟨b',f',hb',_,hc2⟩:=Z1w hrh h2
   cases hb'
   have e1:IntKind.wrap .i64 (((2 * j:Nat):Int)+1)=((2 * j+1:Nat):Int):=by rw [Z0 (by omega) (by omega)]; omega
   have e2:IntKind.wrap .i64 (((2 * j:Nat):Int)+2)=((2 * (j+1):Nat):Int):=by rw [Z0 (by omega) (by omega)]; omega
   rw [e1,e2]
   refine ⟨_,rfl,by omega,_,by rw [Z6,Int.toNat_natCast]; exact (ZX F24.mod hb (fun h=>h)).trans hc1,_,rfl,by omega,_,by rw [Z6,Int.toNat_natCast]; exact (ZX F24.mod hb (fun h=>h)).trans hc2,?_⟩
   rw [shl4,Z51]
   rintro d29 w30 ⟨rfl,rfl⟩
   have htk:H.take (2 * (j+1))=H.take (2 * j)++[H[2 * j],H[2 * j+1]]:=by
    rw [show 2 * (j+1)=2 * j+1+1 by omega,List.take_add_one,List.take_add_one,List.getElem?_eq_getElem h1,List.getElem?_eq_getElem h2,List.append_assoc]; rfl
   have htl:(H.take (2 * j)).length=2 * j:=by rw [List.length_take]; omega
   have hps:=Z6E j (H.take (2 * j)) H[2 * j] H[2 * j+1] htl
   have hpl:=Z5f j (H.take (2 * j)) htl
   have one:RdB (w23.drew.alloc (.cells #[.int .u8 ((H[2 * j] <<< 4 ||| H[2 * j+1]).toNat:Int)] 5)) (some ⟨w23.drew.heap.size,0,none⟩) [H[2 * j] <<< 4 ||| H[2 * j+1]] :=
    RdB.of_blk (Blk.new w23.drew 5 #[bV (H[2 * j] <<< 4 ||| H[2 * j+1])]) (fun i hi=>by
     obtain rfl:i=0:=by simpa using hi
     rfl)
   obtain ⟨o31,k31,w31,hr31,F31⟩:=Za (ty:=Z07) (k2:=1) (F24.mod' (Mod.alloc _ _)) one (by simp; omega)
   refine ⟨_,w31,hr31,_,_,_,rfl,⟨j+1,rfl,by omega,?_,?_⟩,by dsimp only; omega⟩
   ·rw [htk,hps,List.length_append]
   ·rw [htk,hps]; exact F31
  ·obtain rfl:j=N:=by omega
   rw [List.take_of_length_le (by omega)] at F ⊢
   exact hR _ _ ⟨_,_,rfl,ZW.from_ F F16.mod⟩
end Go.Proofs.YtfghidehlnfdiaaGreat
end
section
namespace Go.Trie
def digitsF:Nat→Nat→By
 | 0,_=>[]
 | f+1,n=>if n=0 then [] else digitsF f (n / 256)++[UInt8.ofNat n]
def Z2b (n:Nat):By:=digitsF 8 n
def Z2q (n base:Nat):By:=if n≤55 then [UInt8.ofNat (base+n)] else UInt8.ofNat (base+55+(Z2b n).length) :: Z2b n
def own:By→Bool
 | [a]=>decide (a < 128)
 | _=>false
mutual
def enc:It→By
 | .s b=>if own b then b else Z2q b.length 128++b
 | .l xs=>Z2q (Z1s xs).length 192++Z1s xs
def Z1s:List It→By
 | []=>[]
 | x :: r=>enc x++Z1s r
end
theorem Z8J:∀(f n:Nat),(digitsF f n).length≤f
 | 0,_=>by simp [digitsF]
 | f+1,n=>by
   have:=Z8J f (n / 256)
   simp only [digitsF]
   split
   ·simp
   ·rw [List.length_append]; simp; omega
theorem Z4E (n:Nat):(Z2b n).length≤8:=Z8J 8 n
end Go.Trie
namespace Go.Proofs.YtfghidehlnfdiaaGreat
open Go Go.Vcg Go.Trie
theorem Z5v:Tryz.prog.underlying 5=some (.int .u8):=by kernel_rfl
theorem ZBq:Tryz.prog.underlying 9=some .string:=by kernel_rfl
theorem Z4y {w:World} {o1 o2:Option Addr} {k1 k2:Nat} {a b:List UInt8} (h1:RdB w o1 a) (h2:RdB w o2 b) :
  Calls Tryz.prog Z1r.n #[.slice o1 a.length k1,.slice o2 b.length k2] w (fun e w'=>e=.returned (.bool (decide (a=b)))∧w'=w):=by
 refine Z1r.vc _ _ _ _ _ _ _ _ ?_
 unfold Z1r.Vc
 refine ⟨_,Z7o Zt Z5v ZBq h1,_,rfl,_,Z7o Zt Z5v ZBq h2,_,rfl,?_,rfl⟩
 rw [Z6J]
theorem Z78 {w:World} {o1 o2:Option Addr} {k1 k2:Nat} {a b:List UInt8} (h1:RdB w o1 a) (hk:a.length≤k1) (h2:RdB w o2 b) :
  Calls Tryz.prog Z0l.n #[.slice o1 a.length k1,.slice o2 b.length k2] w (fun e w'=>e=.returned (.bool (b.isPrefixOf a))∧w'=w):=by
 refine Z0l.vc _ _ _ _ _ _ _ _ ?_
 unfold Z0l.Vc
 refine ⟨fun hge=>⟨by omega,?_⟩,fun hlt=>⟨?_,rfl⟩⟩
 ·rw [Int.toNat_natCast]
  have hl:(a.take b.length).length=b.length:=by rw [List.length_take]; omega
  have hc:=Z4y (k1:=k1) (k2:=k2) (h1.take b.length) h2
  rw [hl] at hc
  refine hc.mono ?_
  rintro _ w' ⟨rfl,rfl⟩
  refine ⟨_,rfl,?_,rfl⟩
  congr 2
  rw [Bool.eq_iff_iff,decide_eq_true_eq,List.isPrefixOf_iff_prefix,List.prefix_iff_eq_take]
  exact ⟨fun h=>h.symm,fun h=>h.symm⟩
 ·congr 2
  symm
  rw [Bool.eq_false_iff]
  intro h
  have:=(List.isPrefixOf_iff_prefix.1 h).length_le
  omega
theorem Z5d {w:World} {o:Option Addr} {k:Nat} {b:List UInt8} (h:RdB w o b) :
  Calls Tryz.prog Z5I.n #[.slice o b.length k] w (fun e w'=>e=.returned (.bool (own b))∧w'=w):=by
 refine Z5I.vc _ _ _ _ _ ?_
 unfold Z5I.Vc
 refine ⟨fun h1=>?_,fun h1=>⟨?_,rfl⟩⟩
 ·obtain ⟨a,rfl⟩:∃a,b=[a]:=List.length_eq_one_iff.1 (by omega)
  obtain ⟨B,f,rfl,hB,hc⟩:=Z1w h (i:=0) (by simp)
  have h2:a < 128↔a.toNat < 128:=by
   have:∀n:Fin 256,(UInt8.ofFin n < 128↔(UInt8.ofFin n).toNat < 128):=by decide +kernel
   exact this a.toFin
  have h3:decide ((a.toNat:Int) < 128)=own [a]:=by
   show _=decide (a < 128)
   rw [Bool.eq_iff_iff,decide_eq_true_eq,decide_eq_true_eq,h2]
   omega
  rw [← h3]
  exact ⟨_,rfl,by omega,_,by rw [Z6]; exact hc,rfl,rfl⟩
 ·have:own b=false:=by
    unfold own
    split
    ·simp at h1
    ·rfl
  rw [this]
theorem Z3r (w:World) (a:UInt8) {n:Int} (hn:n=(a.toNat:Int)):ZW w (w.alloc (.cells #[.int .u8 n] 5)) tU8 1 (some ⟨w.heap.size,0,none⟩) 1 1 ([a].map bV):=by
 subst hn
 exact Z4I w [a] #[bV a] rfl (by simp [maxLen])
theorem Z2U (n:Nat):IntKind.wrap .u8 (n:Int)=((UInt8.ofNat n).toNat:Int):=by
 rw [UInt8.toNat_ofNat']
 show (n:Int) % 256=_
 omega
theorem Z9z {w:World} (N:Nat) (hN:N < 2 ^ 63) :
  Calls Tryz.prog Z2M.n #[.int .u64 (N:Int)] w (fun e w'=>∃o k,e=.returned (.slice o (Z2b N).length k)∧ZW w w' tU8 1 o (Z2b N).length k ((Z2b N).map bV)):=by
 refine Z2M.vc _ _ _ ?_
 unfold Z2M.Vc
 refine ⟨fun n o l k w'=>∃(f m:Nat) (row:By),n=(m:Int)∧m < 256 ^ f∧f≤8∧Z2b N=digitsF f m++row∧l=row.length∧ZW w w' tU8 1 o l k (row.map bV),fun n _ _ _ _=>n.toNat,
  ⟨8,N,[],rfl,by omega,Nat.le_refl _,by rw [List.append_nil]; rfl,rfl,ZW.nil (Mod.refl w) _ _⟩,?_⟩
 rintro _ o _ k _ w1 ⟨f,m,row,rfl,hm,hf,hd,rfl,F⟩
 have hlen:=Z4E N
 rw [hd,List.length_append] at hlen
 refine ⟨fun hpos=>?_,fun hz=>?_⟩
 ·rintro d w2 ⟨rfl,rfl⟩
  cases f with
  | zero=>simp at hm; omega
  | succ g =>
    have hM:=Mod.alloc (S:=NoB) w1 (.cells #[.int .u8 (IntKind.wrap .u8 (m:Int))] 5)
    have F1:=Z3r w1 (UInt8.ofNat m) (n:=IntKind.wrap .u8 (m:Int)) (Z2U m)
    obtain ⟨o3,k3,w3,hr3,F3⟩:=Za (ty:=Z07) (k2:=k) F1 ((ZQ F).mod' hM) (by omega)
    have hstep:digitsF (g+1) m=digitsF g (m / 256)++[UInt8.ofNat m]:=by
     simp only [digitsF]; rw [if_neg (by omega)]
    have hfd:Int.fdiv (m:Int) 256=((m / 256:Nat):Int):=by
     rw [Int.fdiv_eq_ediv_of_nonneg _ (by omega)]; omega
    rw [hfd]
    refine ⟨_,w3,hr3,_,_,_,rfl,⟨g,m / 256,UInt8.ofNat m :: row,rfl,?_,by omega,?_,?_,?_⟩,?_⟩
    ·rw [Nat.pow_succ] at hm
     exact Nat.div_lt_of_lt_mul (by rw [Nat.mul_comm]; exact hm)
    ·rw [hd,hstep,List.append_assoc]; rfl
    ·simp; omega
    ·exact ZW.from_ F3 F.mod
    ·dsimp only; omega
 ·have hm0:m=0:=by omega
  subst hm0
  have h0:digitsF f 0=[]:=by cases f <;> simp [digitsF]
  rw [h0,List.nil_append] at hd
  rw [hd]
  exact ⟨_,_,rfl,F⟩
theorem Z4d {w:World} (n base:Nat) (hn:n < 2 ^ 31) (hb:base≤192) :
  Calls Tryz.prog Z3y.n #[.int .i64 (n:Int),.int .i64 (base:Int)] w (fun e w'=>∃o k,e=.returned (.slice o (Trie.Z2q n base).length k)∧ZW w w' tU8 1 o (Trie.Z2q n base).length k ((Trie.Z2q n base).map bV)):=by
 refine Z3y.vc _ _ _ _ ?_
 unfold Z3y.Vc
 refine ⟨fun hs=>?_,fun hs=>?_⟩
 ·rintro d w2 ⟨rfl,rfl⟩
  have e:Trie.Z2q n base=[UInt8.ofNat (base+n)]:=by unfold Trie.Z2q; rw [if_pos (by omega)]
  have ew:IntKind.wrap .i64 ((base:Int)+(n:Int))=((base+n:Nat):Int):=by rw [Z0 (by omega) (by omega)]; omega
  rw [e,ew]
  exact ⟨_,_,rfl,Z3r w _ (Z2U _)⟩
 ·have e:Trie.Z2q n base=UInt8.ofNat (base+55+(Z2b n).length) :: Z2b n:=by unfold Trie.Z2q; rw [if_neg (by omega)]
  have ew:IntKind.wrap .u64 (n:Int)=(n:Int):=by
   show (n:Int) % 18446744073709551616=_
   omega
  rw [ew]
  refine (Z9z n (by omega)).mono ?_
  rintro _ w2 ⟨o,k,rfl,F⟩
  have hdl:=Z4E n
  refine ⟨_,_,_,rfl,?_⟩
  rintro d w3 ⟨rfl,rfl⟩
  have ew2:IntKind.wrap .i64 (IntKind.wrap .i64 ((base:Int)+55)+(((Z2b n).length:Nat):Int))=((base+55+(Z2b n).length:Nat):Int):=by
   rw [Z0 (n:=(base:Int)+55) (by omega) (by omega),Z0 (by omega) (by omega)]; omega
  rw [ew2]
  obtain ⟨o4,k4,w4,hr4,F4⟩:=Za (ty:=Z07) (k2:=k) (Z3r w2 _ (Z2U (base+55+(Z2b n).length))) ((ZQ F).mod' (Mod.alloc _ _)) (by omega)
  refine ⟨_,w4,hr4,_,_,_,rfl,o4,k4,?_,?_⟩
  ·rw [e,List.length_cons,Nat.add_comm]
  ·rw [e,List.length_cons,Nat.add_comm]
   exact ZW.from_ F4 F.mod
end Go.Proofs.YtfghidehlnfdiaaGreat
end
