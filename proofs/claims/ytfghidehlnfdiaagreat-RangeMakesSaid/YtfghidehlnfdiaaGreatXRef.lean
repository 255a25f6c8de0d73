/- Contracts of Keccak's small functions and of one round. -/
/- Contracts: the tables, the plan, all rounds. -/
/- Contracts: the plan, all rounds, the program's permutation. -/
/- Contract: the document's permutation. -/
/- Slices of bytes that are read. -/
/- Slices that the code itself made: appended to, copied into. -/
/- Contracts: words out of bytes, one block absorbed. -/
/- The numbers of the types that the texts below name. -/
/- Contracts: the sponge. -/
/- Contract: Write. -/
/- Contracts: Little; the hash out of a sponge. -/
/- Contracts: the program's hash of lists. -/
/- The document's sponge is ours. -/
import Derived.Test.YtfghidehlnfdiaaGreatXKec
set_option linter.unusedVariables false
set_option linter.unusedSimpArgs false
section
namespace Go.Proofs.YtfghidehlnfdiaaGreat
open Go Go.Vcg

theorem Z2n {R:Ending→World→Prop} {w:World} {n0 n1:Int} (x y:Nat) (h0:n0=(x:Int)) (h1:n1=(y:Int)) (hx:x < 1000) (hy:y < 1000)
  (h:R (.returned (.int .i64 ((x % 5+5 * (y % 5):Nat):Int))) w):Calls Tryz.prog Z2z.n #[.int .i64 n0,.int .i64 n1] w R:=by
 subst h0 h1
 refine Z2z.vc _ _ _ _ ?_
 unfold Z2z.Vc
 have e:IntKind.wrap .i64 (Int.tmod (x:Int) 5+IntKind.wrap .i64 (5 * Int.tmod (y:Int) 5))=((x % 5+5 * (y % 5):Nat):Int):=by
  simp (disch:=omega) only [Z2N,Z0]
  omega
 rw [e]
 exact h

theorem Z8k {R:Ending→World→Prop} {w:World} {n0 n1:Int} (x:BitVec 64) (k:Nat) (h0:n0=uI x) (h1:n1=(k:Int)) (hk:k < 64)
  (h:R (.returned (uV (x.rotateLeft k))) w):Calls Tryz.prog Zj.n #[.int .u64 n0,.int .i64 n1] w R:=by
 subst h0 h1
 refine Zj.vc _ _ _ _ ?_
 unfold Zj.Vc
 have e1:bitsI .and .u64 (IntKind.wrap .u64 (k:Int)) 63=(k:Int):=by
  have:∀k:Nat,k < 64→bitsI .and .u64 (IntKind.wrap .u64 (k:Int)) 63=(k:Int):=by decide +kernel
  exact this k hk
 have e2:IntKind.wrap .u64 (64 - (k:Int))=((64 - k:Nat):Int):=by
  rw [Z4l]; omega
 rw [e1,e2]
 refine ⟨by omega,by omega,?_⟩
 rw [Z8p,ZCj _ _ _ rfl,Z5O]
 have e3:x <<< k ||| x >>> (64 - k)=x.rotateLeft k:=by
  rw [BitVec.rotateLeft_def]
  rw [Nat.mod_eq_of_lt hk]
 rw [e3]
 exact h

structure Z4q (w:World) (b o:Nat):Prop where
 lt:b < w.heap.size
 rc:∀i,i < 24→w.cell? ⟨b,o+i,none⟩=some (uV (ZDQ i))
 turn:∀i,i < 25→w.cell? ⟨b,o+24+i,none⟩=some (.int .i64 (turnOf i))

theorem ZX {S:Nat→Prop} {w w':World} (m:Mod S w w') {b i:Nat} (hb:b < w.heap.size) (hs:¬S b):w'.cell? ⟨b,i,none⟩=w.cell? ⟨b,i,none⟩ :=
 World.cell?_of_block (m.block b hb hs)

theorem Z4q.mod {S:Nat→Prop} {w w':World} {b o:Nat} (h:Z4q w b o) (m:Mod S w w') (hs:¬S b):Z4q w' b o :=
 ⟨Nat.lt_of_lt_of_le h.lt m.size,fun i hi=>(ZX m h.lt hs).trans (h.rc i hi),fun i hi=>(ZX m h.lt hs).trans (h.turn i hi)⟩


theorem ZDn:((List.range 5).all fun x=>(List.range 5).all fun k=>(List.range 25).all fun j =>
 (decide ((j % 5+3 * (j / 5)) % 5 < x) || (decide ((j % 5+3 * (j / 5)) % 5=x) && decide (j % 5 < k+1))) == (decide (j=k % 5+5 * ((2 * x+3 * k) % 5)) || (decide ((j % 5+3 * (j / 5)) % 5 < x) || (decide ((j % 5+3 * (j / 5)) % 5=x) && decide (j % 5 < k)))))=true:=by decide +kernel
theorem ZHc (x:Nat) (hx:x < 5) (k:Nat) (hk:k < 5) (j:Nat) (hj:j < 25) :
  (((j % 5+3 * (j / 5)) % 5 < x∨(j % 5+3 * (j / 5)) % 5=x∧j % 5 < k+1)↔(j=k % 5+5 * ((2 * x+3 * k) % 5)∨((j % 5+3 * (j / 5)) % 5 < x∨(j % 5+3 * (j / 5)) % 5=x∧j % 5 < k))):=by
 have h:=ZDn
 simp only [List.all_eq_true,List.mem_range] at h
 have h1:=h x hx k hk j hj
 simp only [beq_iff_eq] at h1
 rw [Bool.eq_iff_iff] at h1
 simpa only [Bool.or_eq_true,Bool.and_eq_true,decide_eq_true_eq] using h1
theorem ZFy:∀x:Nat,x < 5→∀k:Nat,k < 5→(k % 5+5 * ((2 * x+3 * k) % 5)) < 25∧((k % 5+5 * ((2 * x+3 * k) % 5)) % 5+3 * ((k % 5+5 * ((2 * x+3 * k) % 5)) / 5)) % 5=x∧(k % 5+5 * ((2 * x+3 * k) % 5)) % 5=k:=by decide +kernel

theorem ZBd {w:World} (s:St) (b o:Nat) (n:Nat) (hn:n < 24) (hp:Z4q w b o) :
  Calls Tryz.prog Z09.n #[.agg (lanesA s),.pointer (some ⟨b,o,none⟩),.int .i64 (n:Int)] w
   (fun e w'=>e=.returned (.agg (lanesA (rnd n s)))∧Mod NoB w w'):=by
 refine Z09.vc _ _ _ _ _ ?_
 unfold Z09.Vc
 rintro d3 w4 ⟨rfl,rfl⟩ d5 w6 ⟨rfl,rfl⟩ d7 w8 ⟨rfl,rfl⟩
 have B3:=((Blk.new w 173 (lanesA s)).alloc (.cells (Array.replicate 25 (.int .u64 0)) 173)).alloc (.cells #[(.int .u64 0),(.int .u64 0),(.int .u64 0),(.int .u64 0),(.int .u64 0)] 181)
 have B5:=(Blk.new (w.alloc (.cells (lanesA s) 173)) 173 (Array.replicate 25 (.int .u64 0))).alloc (.cells #[(.int .u64 0),(.int .u64 0),(.int .u64 0),(.int .u64 0),(.int .u64 0)] 181)
 have B7:=Blk.new ((w.alloc (.cells (lanesA s) 173)).alloc (.cells (Array.replicate 25 (.int .u64 0)) 173)) 181 #[(.int .u64 0),(.int .u64 0),(.int .u64 0),(.int .u64 0),(.int .u64 0)]
 have M:=((Mod.alloc (S:=NoB) w (.cells (lanesA s) 173)).step_alloc (.cells (Array.replicate 25 (.int .u64 0)) 173)).step_alloc (.cells #[(.int .u64 0),(.int .u64 0),(.int .u64 0),(.int .u64 0),(.int .u64 0)] 181)
 simp only [ZD] at B5 B7 ⊢
 generalize ((w.alloc (.cells (lanesA s) 173)).alloc (.cells (Array.replicate 25 (.int .u64 0)) 173)).alloc (.cells #[(.int .u64 0),(.int .u64 0),(.int .u64 0),(.int .u64 0),(.int .u64 0)] 181)=w8 at *
 have hN:=hp.lt
 generalize hNe:w.heap.size=N at *
 have e5:#[(.int .u64 0),(.int .u64 0),(.int .u64 0),(.int .u64 0),(.int .u64 0)]=ZS 5 (fun i=>uV (if i < 0 then par s i else 0)):=by rfl
 rw [e5] at B7
 clear e5
 refine Z4L 5 (fun x w'=>Vcg.Mod NoB w w'∧Blk w' N 173 (lanesA s)∧Blk w' (N+1) 173 (Array.replicate 25 (.int .u64 0)) ∧
  Blk w' (N+1+1) 181 (ZS 5 (fun i=>uV (if i < x then par s i else 0)))) rfl ⟨M,B3,B5,B7⟩ ?_ ?_
 ·clear M B3 B5 B7
  rintro x _ w1 hx ⟨M,B3,B5,B7⟩
  refine Z4L 5 (fun k w'=>Vcg.Mod NoB w w'∧Blk w' N 173 (lanesA s)∧Blk w' (N+1) 173 (Array.replicate 25 (.int .u64 0)) ∧
   Blk w' (N+1+1) 181 (ZS 5 (fun i=>uV (if i < x then par s i else if i=x then ZDO s x k else 0)))) rfl ⟨M,B3,B5,?_⟩ ?_ ?_
  ·have:(fun i=>uV (if i < x then par s i else if i=x then ZDO s x 0 else 0))=(fun i=>uV (if i < x then par s i else 0)):=by
     funext i; simp [ZDO]
   rw [this]; exact B7
  ·clear M B3 B5 B7
   rintro k _ w2 hk ⟨M,B3,B5,B7⟩
   rintro _ rfl
   refine ⟨by omega,_,B7.drew.rd0 (ZF (by omega)),Z2n x k rfl rfl (by omega) (by omega) ⟨_,rfl,B7.drew.rd0 (ZF (by omega)),by omega,_,B3.drew.rd0 (ZY s (by omega)),by omega,B7.drew.canSet0 (by simp; omega) rfl,fun w3 h3=>?_⟩⟩
   rw [h3.at]
   refine Z7z.next (by rw [Z0 (by omega) (by omega)]; omega) hk ⟨(M.step_drew).step_set (fun h=>by simp only [hNe] at h; omega),B3.drew.set_ne (by simp; omega),B5.drew.set_ne (by simp),?_⟩
   have:=B7.drew.set x (uV (ZDO s x (k+1)))
   rw [Z0V] at this
   simp only [Z0h,if_true,Nat.lt_irrefl,if_false]
   have e1:ZDO s x (k+1)=ZDO s x k ^^^ s (x % 5+5 * (k % 5)):=by
    rw [ZDO,Nat.mod_eq_of_lt hx,Nat.mod_eq_of_lt hk]
   rw [← e1]
   refine (ZG (fun j hj=>?_)) ▸ this
   grind
  ·rintro _ w2 ⟨M,B3,B5,B7⟩
   refine Z7z.next (by rw [Z0 (by omega) (by omega)]; omega) hx ⟨M,B3,B5,?_⟩
   refine (ZG (fun j hj=>?_)) ▸ B7
   have:par s x=ZDO s x 5:=rfl
   grind
 ·clear M B3 B5 B7
  rintro _ w1 ⟨M,B3,B5,B7⟩ d22 w23 ⟨rfl,rfl⟩
  have hsz:N+1+1 < w1.heap.size:=B7.lt
  have B8:=Blk.new w1 173 (Array.replicate 25 (.int .u64 0))
  replace B3:=B3.alloc (.cells (Array.replicate 25 (.int .u64 0)) 173)
  replace B5:=B5.alloc (.cells (Array.replicate 25 (.int .u64 0)) 173)
  replace B7:=B7.alloc (.cells (Array.replicate 25 (.int .u64 0)) 173)
  replace M:=M.step_alloc (.cells (Array.replicate 25 (.int .u64 0)) 173)
  generalize w1.alloc (.cells (Array.replicate 25 (.int .u64 0)) 173)=w2 at *
  generalize w1.heap.size=Q at *
  refine Z4L 5 (fun x w'=>Vcg.Mod NoB w w'∧Blk w' N 173 (lanesA s)∧Blk w' (N+1) 173 (Array.replicate 25 (.int .u64 0)) ∧
   Blk w' (N+1+1) 181 (ZS 5 (fun i=>uV (if i < 5 then par s i else 0)))∧Blk w' Q 173 (ZS 25 (fun j=>uV (if (j % 5+3 * (j / 5)) % 5 < x then bbK s j else 0)))) rfl
   ⟨M,B3,B5,B7,by rw [Zn] at B8; simp only [Nat.not_lt_zero,if_false]; exact B8⟩ ?_ ?_
  ·clear M B3 B5 B7 B8
   rintro x _ w2 hx ⟨M,B3,B5,B7,B8⟩
   rintro _ rfl
   have c1:Int.tmod (IntKind.wrap .i64 ((IntKind.wrap .i64 ((x:Int)+5)) - 1)) 5=(((x+4) % 5:Nat):Int):=by
    simp (disch:=omega) only [Z2N,Z0]; omega
   have c2:Int.tmod (IntKind.wrap .i64 ((x:Int)+1)) 5=(((x+1) % 5:Nat):Int):=by
    simp (disch:=omega) only [Z2N,Z0]; omega
   rw [c1,c2]
   clear c1 c2
   have l1:(x+4) % 5 < 5:=Nat.mod_lt _ (by decide)
   have l2:(x+1) % 5 < 5:=Nat.mod_lt _ (by decide)
   refine ⟨by omega,_,B7.drew.rd0 (ZF l1),by omega,_,B7.drew.rd0 (ZF l2),?_⟩
   rw [if_pos l1,if_pos l2]
   refine Z8k _ 1 rfl rfl (by omega) ⟨_,rfl,by rw [B7.drew.rd0 (ZF l1),if_pos l1],?_⟩
   rw [Z0h]
   refine Z4L 5 (fun k w'=>Vcg.Mod NoB w w'∧Blk w' N 173 (lanesA s)∧Blk w' (N+1) 173 (Array.replicate 25 (.int .u64 0)) ∧
    Blk w' (N+1+1) 181 (ZS 5 (fun i=>uV (if i < 5 then par s i else 0)))∧Blk w' Q 173 (ZS 25 (fun j=>uV (if (j % 5+3 * (j / 5)) % 5 < x∨(j % 5+3 * (j / 5)) % 5=x∧j % 5 < k then bbK s j else 0)))) rfl
    ⟨M.step_drew,B3,B5,B7,by simpa using B8.drew⟩ ?_ ?_
   ·clear M B3 B5 B7 B8
    rintro k _ w3 hk ⟨M,B3,B5,B7,B8⟩
    rintro _ rfl
    have c3:=ZFy x hx k hk
    have hp':=hp.mod (M.step_drew) (fun h=>h)
    refine Z2n k (2 * x+3 * k) rfl (by simp (disch:=omega) only [Z0]; omega) (by omega) (by omega) ⟨_,rfl,?_⟩
    refine Z2n x k rfl rfl (by omega) (by omega) ⟨_,rfl,by omega,_,B3.drew.rd0 (ZY s (by omega)),?_⟩
    refine Z2n x k rfl rfl (by omega) (by omega) ⟨_,rfl,B3.drew.rd0 (ZY s (by omega)),by omega,_,by rw [Z6,Z6,Int.toNat_natCast]; exact hp'.turn _ (by omega),?_⟩
    refine Z8k (s (x % 5+5 * (k % 5)) ^^^ (par s ((x+4) % 5) ^^^ (par s ((x+1) % 5)).rotateLeft 1)) (turnOf (x % 5+5 * (k % 5))) (by rw [Z0h]) rfl (ZAi _) ⟨_,rfl,by omega,B8.drew.canSet0 (by simp; omega) rfl,fun w4 h4=>?_⟩
    rw [h4.at]
    refine Z7z.next (by rw [Z0 (by omega) (by omega)]; omega) hk ⟨(M.step_drew).step_set (fun h=>by simp only [hNe] at h; omega),B3.drew.set_ne (by simp; omega),B5.drew.set_ne (by simp; omega),B7.drew.set_ne (by simp; omega),?_⟩
    have:=B8.drew.set (k % 5+5 * ((2 * x+3 * k) % 5)) (uV ((s (x % 5+5 * (k % 5)) ^^^ (par s ((x+4) % 5) ^^^ (par s ((x+1) % 5)).rotateLeft 1)).rotateLeft (turnOf (x % 5+5 * (k % 5)))))
    rw [Z0V] at this
    refine (ZG (fun j hj=>?_)) ▸ this
    have e1:bbK s (k % 5+5 * ((2 * x+3 * k) % 5))=(s (x % 5+5 * (k % 5)) ^^^ (par s ((x+4) % 5) ^^^ (par s ((x+1) % 5)).rotateLeft 1)).rotateLeft (turnOf (x % 5+5 * (k % 5))):=by
     rw [bbK,c3.2.1,c3.2.2,bbXY,Nat.mod_eq_of_lt hx,Nat.mod_eq_of_lt hk,ddK]
    have c4:=ZHc x hx k hk j hj
    rw [← e1]
    by_cases hj':j=k % 5+5 * ((2 * x+3 * k) % 5)
    ·rw [if_pos hj',if_pos (c4.2 (.inl hj')),hj']
    ·rw [if_neg hj']
     congr 2
     simp only [c4,hj',false_or]
   ·rintro _ w3 ⟨M,B3,B5,B7,B8⟩
    refine Z7z.next (by rw [Z0 (by omega) (by omega)]; omega) hx ⟨M,B3,B5,B7,?_⟩
    refine (ZG (fun j hj=>?_)) ▸ B8
    congr 2
    have:j % 5 < 5:=by omega
    simp only [this,and_true]
    have:(j % 5+3 * (j / 5)) % 5 < x+1↔(j % 5+3 * (j / 5)) % 5 < x∨(j % 5+3 * (j / 5)) % 5=x:=by omega
    simp only [this]
  ·clear M B3 B5 B7 B8
   rintro _ w1 ⟨M,B3,B5,B7,B8⟩ d52 w53 ⟨rfl,rfl⟩
   have hsz:Q < w1.heap.size:=B8.lt
   have hsz5:N+1 < w1.heap.size:=B5.lt
   have B9:=Blk.new w1 173 (Array.replicate 25 (.int .u64 0))
   replace B5:=B5.alloc (.cells (Array.replicate 25 (.int .u64 0)) 173)
   replace B8:=B8.alloc (.cells (Array.replicate 25 (.int .u64 0)) 173)
   replace M:=M.step_alloc (.cells (Array.replicate 25 (.int .u64 0)) 173)
   clear B3 B7
   have e8:ZS 25 (fun j=>uV (if (j % 5+3 * (j / 5)) % 5 < 5 then bbK s j else 0))=lanesA (bbK s) :=
    ZG (fun j hj=>by rw [if_pos (by omega)])
   rw [e8] at B8
   generalize w1.alloc (.cells (Array.replicate 25 (.int .u64 0)) 173)=w2 at *
   generalize w1.heap.size=T at *
   refine Z4L 5 (fun x w'=>Vcg.Mod NoB w w'∧Blk w' (N+1) 173 (Array.replicate 25 (.int .u64 0))∧Blk w' Q 173 (lanesA (bbK s)) ∧
    Blk w' T 173 (ZS 25 (fun j=>uV (if j % 5 < x then Z55 (bbK s) j else 0)))) rfl
    ⟨M,B5,B8,by rw [Zn] at B9; simp only [Nat.not_lt_zero,if_false]; exact B9⟩ ?_ ?_
   ·clear M B5 B8 B9
    rintro x _ w2 hx ⟨M,B5,B8,B9⟩
    refine Z4L 5 (fun k w'=>Vcg.Mod NoB w w'∧Blk w' (N+1) 173 (Array.replicate 25 (.int .u64 0))∧Blk w' Q 173 (lanesA (bbK s)) ∧
     Blk w' T 173 (ZS 25 (fun j=>uV (if j % 5 < x∨j % 5=x∧j / 5 < k then Z55 (bbK s) j else 0)))) rfl
     ⟨M,B5,B8,by simpa using B9⟩ ?_ ?_
    ·clear M B5 B8 B9
     rintro k _ w3 hk ⟨M,B5,B8,B9⟩
     rintro _ rfl
     refine Z2n x k rfl rfl (by omega) (by omega) ⟨_,rfl,?_⟩
     refine Z2n x k rfl rfl (by omega) (by omega) ⟨_,rfl,by omega,_,B8.drew.rd0 (ZY _ (by omega)),?_⟩
     refine Z2n (x+1) k (by rw [Z0 (by omega) (by omega)]; omega) rfl (by omega) (by omega) ⟨_,rfl,B8.drew.rd0 (ZY _ (by omega)),by omega,_,B8.drew.rd0 (ZY _ (by omega)),?_⟩
     refine Z2n (x+2) k (by rw [Z0 (by omega) (by omega)]; omega) rfl (by omega) (by omega) ⟨_,rfl,B8.drew.rd0 (ZY _ (by omega)),B8.drew.rd0 (ZY _ (by omega)),by omega,_,B8.drew.rd0 (ZY _ (by omega)),by omega,B9.drew.canSet0 (by simp; omega) rfl,fun w4 h4=>?_⟩
     rw [h4.at]
     refine Z7z.next (by rw [Z0 (by omega) (by omega)]; omega) hk ⟨(M.step_drew).step_set (fun h=>by simp only [hNe] at h; omega),B5.drew.set_ne (by simp; omega),B8.drew.set_ne (by simp; omega),?_⟩
     rw [Z9r,Z9q,Z0h]
     have:=B9.drew.set (x % 5+5 * (k % 5)) (uV (bbK s (x % 5+5 * (k % 5)) ^^^ (~~~ bbK s ((x+1) % 5+5 * (k % 5)) &&& bbK s ((x+2) % 5+5 * (k % 5)))))
     rw [Z0V] at this
     refine (ZG (fun j hj=>?_)) ▸ this
     have e1:Z55 (bbK s) (x % 5+5 * (k % 5))=bbK s (x % 5+5 * (k % 5)) ^^^ (~~~ bbK s ((x+1) % 5+5 * (k % 5)) &&& bbK s ((x+2) % 5+5 * (k % 5))):=by
      rw [Z55,show (x % 5+5 * (k % 5)) % 5=x by omega,show (x % 5+5 * (k % 5)) / 5=k by omega,show k % 5=k by omega]
     rw [← e1]
     by_cases hj':j=x % 5+5 * (k % 5)
     ·rw [if_pos hj',if_pos (by omega),hj']
     ·rw [if_neg hj']
      congr 2
      have:(j % 5 < x∨j % 5=x∧j / 5 < k+1)↔(j % 5 < x∨j % 5=x∧j / 5 < k):=by omega
      simp only [this]
    ·rintro _ w3 ⟨M,B5,B8,B9⟩
     refine Z7z.next (by rw [Z0 (by omega) (by omega)]; omega) hx ⟨M,B5,B8,?_⟩
     refine (ZG (fun j hj=>?_)) ▸ B9
     congr 2
     have:j % 5 < x+1↔j % 5 < x∨j % 5=x∧j / 5 < 5:=by omega
     simp only [this]
   ·clear M B5 B8 B9
    rintro _ w3 ⟨M,B5,B8,B9⟩ _ rfl
    have hp':=hp.mod (M.step_drew) (fun h=>h)
    refine ⟨_,B9.drew.rd1 (ZF (by omega)),by omega,_,by rw [Z6,Int.toNat_natCast]; exact hp'.rc _ hn,B9.drew.canSet (by simp) rfl,?_⟩
    rintro w4 rfl
    have B9':=B9.drew.set 0 (uV (rnd n s 0))
    rw [Z0V] at B9'
    rw [if_pos (by omega),Z0h]
    have e9:(ZS 25 fun j=>if j=0 then uV (rnd n s 0) else uV (if j % 5 < 5 then Z55 (bbK s) j else 0))=lanesA (rnd n s) :=
     ZG (fun j hj=>by
      by_cases h0:j=0
      ·rw [if_pos h0,h0]
      ·rw [if_neg h0,if_pos (by omega),rnd,if_neg h0])
    rw [e9] at B9'
    have B5':Blk (w3.drew.setCell ⟨T,0,none⟩ (uV (rnd n s 0))) (N+1) 173 (Array.replicate 25 (.int .u64 0)):=B5.drew.set_ne (by simp; omega)
    have M':Vcg.Mod NoB w (w3.drew.setCell ⟨T,0,none⟩ (uV (rnd n s 0))):=(M.step_drew).step_set (fun h=>by simp only [hNe] at h; omega)
    have e10:Z55 (bbK s) 0 ^^^ ZDQ n=rnd n s 0:=by simp [rnd]
    rw [e10]
    refine ⟨_,B9'.rowAll (ZL _),_,B5'.storeAll (L:=lanesA (rnd n s)) (by rw [ZL]; kernel_rfl) (by rw [ZL,Array.size_replicate]) (Z1d _),_,(B5'.row_same _).rowAll (ZL _),rfl,M'.step_row (fun h=>by omega)⟩

end Go.Proofs.YtfghidehlnfdiaaGreat
end
section
namespace Go.Proofs.YtfghidehlnfdiaaGreat
open Go Go.Vcg

def rcA:Array Value:=ZS 24 (fun i=>uV (ZDQ i))
def turnA:Array Value:=ZS 25 (fun i=>.int .i64 (turnOf i:Int))
theorem Z5p:rcA.size=24:=Z06 _ _
theorem Z3f:turnA.size=25:=Z06 _ _

theorem ZBo (w:World):Calls Tryz.prog Z1Q.n #[] w (fun e w'=>e=.returned (.agg turnA)∧Vcg.Mod NoB w w'):=by
 refine Z1Q.vc _ _ ?_
 unfold Z1Q.Vc
 rintro d0 w1 ⟨rfl,rfl⟩ d2 w3 ⟨rfl,rfl⟩
 have B0:=(Blk.new w 169 (Array.replicate 25 (.int .i64 0))).alloc (.cells (Array.replicate 25 (.int .i64 0)) 169)
 have B2:=Blk.new (w.alloc (.cells (Array.replicate 25 (.int .i64 0)) 169)) 169 (Array.replicate 25 (.int .i64 0))
 have M:=(Mod.alloc (S:=NoB) w (.cells (Array.replicate 25 (.int .i64 0)) 169)).step_alloc (.cells (Array.replicate 25 (.int .i64 0)) 169)
 simp only [ZD] at B2 ⊢
 generalize (w.alloc (.cells (Array.replicate 25 (.int .i64 0)) 169)).alloc (.cells (Array.replicate 25 (.int .i64 0)) 169)=w3 at *
 generalize hNe:w.heap.size=N at *
 refine ⟨fun n5 n6 n7 w'=>∃t:Nat,n7=t∧t≤24∧n5=((Z7y t).1:Nat)∧n6=((Z7y t).2:Nat)∧Vcg.Mod NoB w w'∧Blk w' N 169 (Array.replicate 25 (.int .i64 0)) ∧
  Blk w' (N+1) 169 (ZS 25 (fun i=>.int .i64 (tarr t i:Int))),fun _ _ n _=>(24 - n).toNat,⟨0,rfl,by omega,rfl,rfl,M,B0,by rw [Zn] at B2; exact B2⟩,?_⟩
 clear M B0 B2
 rintro _ _ _ _ w4 ⟨t,rfl,ht,rfl,rfl,M,B0,B2⟩
 refine ⟨fun hlt=>?_,fun hge=>?_⟩
 ·have hxy:=ZI6 t (by omega)
  refine Z2n (Z7y t).1 (Z7y t).2 rfl rfl (by omega) (by omega) ⟨_,rfl,by omega,B2.canSet0 (by simp; omega) rfl,fun w5 h5=>?_⟩
  rw [h5.at]
  refine ⟨⟨t+1,by rw [Z0 (by omega) (by omega)]; omega,by omega,rfl,?_,M.step_set (fun h=>by simp only [hNe] at h; omega),B0.set_ne (by simp),?_⟩,?_⟩
  ·simp only [Z7y]
   simp (disch:=omega) only [Z2N,Z0]; omega
  ·have:=B2.set ((Z7y t).1 % 5+5 * ((Z7y t).2 % 5)) (.int .i64 ((((t+1) * (t+2) / 2 % 64:Nat)):Int))
   rw [Z0V] at this
   rw [ZCn t (by omega)]
   refine (ZG (fun j hj=>?_)) ▸ this
   rw [tarr,Nat.mod_eq_of_lt hxy.1,Nat.mod_eq_of_lt hxy.2]
   dsimp only
   split <;> rfl
  ·dsimp only
   rw [Z0 (n:=(t:Int)+1) (by omega) (by omega)]; omega
 ·obtain rfl:t=24:=by omega
  have e:(ZS 25 fun i=>Value.int .i64 (tarr 24 i:Int))=turnA:=ZG (fun j hj=>by rw [ZCm j hj])
  rw [e] at B2
  exact ⟨_,B2.rowAll Z3f,_,B0.storeAll (L:=turnA) (by rw [Z3f]; kernel_rfl) (by rw [Z3f,Array.size_replicate]) (Z2u (fun _=>rfl)),_,
   (B0.row_same _).rowAll Z3f,rfl,M.step_row (fun h=>by omega)⟩

theorem Z7G (w:World):Calls Tryz.prog Z0X.n #[] w (fun e w'=>e=.returned (.agg rcA)∧Vcg.Mod NoB w w'):=by
 refine Z0X.vc _ _ ?_
 unfold Z0X.Vc
 rintro d0 w1 ⟨rfl,rfl⟩ d2 w3 ⟨rfl,rfl⟩
 have B0:=(Blk.new w 168 (Array.replicate 24 (.int .u64 0))).alloc (.cells (Array.replicate 24 (.int .u64 0)) 168)
 have B2:=Blk.new (w.alloc (.cells (Array.replicate 24 (.int .u64 0)) 168)) 168 (Array.replicate 24 (.int .u64 0))
 have M:=(Mod.alloc (S:=NoB) w (.cells (Array.replicate 24 (.int .u64 0)) 168)).step_alloc (.cells (Array.replicate 24 (.int .u64 0)) 168)
 simp only [ZD] at B2 ⊢
 generalize (w.alloc (.cells (Array.replicate 24 (.int .u64 0)) 168)).alloc (.cells (Array.replicate 24 (.int .u64 0)) 168)=w3 at *
 generalize hNe:w.heap.size=N at *
 refine ⟨fun n5 n6 w'=>∃i:Nat,n6=i∧i≤24∧n5=(regOf (7 * i):Nat)∧Vcg.Mod NoB w w'∧Blk w' N 168 (Array.replicate 24 (.int .u64 0)) ∧
  Blk w' (N+1) 168 (ZS 24 (fun j=>uV (if j < i then ZDQ j else 0))),fun _ n _=>(24 - n).toNat,⟨0,rfl,by omega,rfl,M,B0,by rw [Zn] at B2; exact B2⟩,?_⟩
 clear M B0 B2
 rintro _ _ _ w4 ⟨i,rfl,hi,rfl,M,B0,B2⟩
 refine ⟨fun hlt=>?_,fun hge=>?_⟩
 ·refine ⟨fun n9 n10 w'=>∃j:Nat,n10=j∧j≤7∧n9=(regOf (7 * i+j):Nat)∧Vcg.Mod NoB w w'∧Blk w' N 168 (Array.replicate 24 (.int .u64 0)) ∧
    Blk w' (N+1) 168 (ZS 24 (fun k=>uV (if k < i then ZDQ k else if k=i then Z5j i j else 0))),fun _ n _=>(7 - n).toNat,⟨0,rfl,by omega,rfl,M,B0,?_⟩,?_⟩
  ·refine (ZG (fun k hk=>?_)) ▸ B2
   simp [Z5j]
  clear M B0 B2
  rintro _ _ _ w5 ⟨j,rfl,hj,rfl,M,B0,B2⟩
  refine ⟨fun hlt'=>?_,fun hge'=>?_⟩
  ·rintro _ rfl
   have hr:=ZGC (7 * i+j) (by omega)
   rw [ZGB j (by omega),ZH3 _ (by omega)]
   refine ⟨by omega,_,B2.drew.rd0 (ZF (by omega)),by omega,by omega,by omega,B2.drew.canSet0 (by simp; omega) rfl,fun w6 h6=>?_⟩
   rw [h6.at]
   have e0:IntKind.wrap .u64 ((regOf (7 * i+j) % 2:Nat):Int)=uI (if regOf (7 * i+j) % 2=1 then (1:BitVec 64) else 0):=by
    rw [Z4l]
    by_cases h1:regOf (7 * i+j) % 2=1
    ·rw [if_pos h1,h1]; decide
    ·rw [if_neg h1,show regOf (7 * i+j) % 2=0 by omega]; decide
   rw [e0,Z8p]
   simp only [if_true,Nat.lt_irrefl,if_false]
   rw [Z5O]
   have B0':Blk (w5.drew.setCell ⟨N+1,i,none⟩ (uV (Z5j i (j+1)))) N 168 (Array.replicate 24 (.int .u64 0)):=B0.drew.set_ne (by simp)
   have M':Vcg.Mod NoB w (w5.drew.setCell ⟨N+1,i,none⟩ (uV (Z5j i (j+1)))):=(M.step_drew).step_set (fun h=>by simp only [hNe] at h; omega)
   have B2':=B2.drew.set i (uV (Z5j i (j+1)))
   rw [Z0V] at B2'
   have B2'':Blk (w5.drew.setCell ⟨N+1,i,none⟩ (uV (Z5j i (j+1)))) (N+1) 168 (ZS 24 (fun k=>uV (if k < i then ZDQ k else if k=i then Z5j i (j+1) else 0))):=by
    refine (ZG (fun k hk=>?_)) ▸ B2'
    grind
   have ew:IntKind.wrap .i64 ((regOf (7 * i+j):Int) * 2)=((regOf (7 * i+j) * 2:Nat):Int):=by rw [Z0 (by omega) (by omega)]; omega
   rw [ew]
   have em:(7 - IntKind.wrap .i64 ((j:Int)+1)).toNat < (7 - (j:Int)).toNat:=by rw [Z0 (by omega) (by omega)]; omega
   refine ⟨fun h=>⟨⟨j+1,by rw [Z0 (by omega) (by omega)]; omega,by omega,?_,M',B0',B2''⟩,em⟩,fun h=>⟨⟨j+1,by rw [Z0 (by omega) (by omega)]; omega,by omega,?_,M',B0',B2''⟩,em⟩⟩
   ·rw [Z0 (by omega) (by omega)]
    have:=ZCd (7 * i+j) (by omega) (by omega)
    refine Eq.trans ?_ this
    congr 1
    omega
   ·rw [← ZAb _ (by omega)]; rfl
  ·obtain rfl:j=7:=by omega
   refine ⟨⟨i+1,by rw [Z0 (by omega) (by omega)]; omega,by omega,rfl,M,B0,?_⟩,by rw [Z0 (by omega) (by omega)]; dsimp only; omega⟩
   refine (ZG (fun k hk=>?_)) ▸ B2
   have:=ZDI i (by omega)
   grind
 ·obtain rfl:i=24:=by omega
  have e:(ZS 24 fun j=>uV (if j < 24 then ZDQ j else 0))=rcA:=ZG (fun j hj=>by rw [if_pos hj])
  rw [e] at B2
  exact ⟨_,B2.rowAll Z5p,_,B0.storeAll (L:=rcA) (by rw [Z5p]; kernel_rfl) (by rw [Z5p,Array.size_replicate]) (Z2u (fun _=>rfl)),_,
   (B0.row_same _).rowAll Z5p,rfl,M.step_row (fun h=>by omega)⟩

end Go.Proofs.YtfghidehlnfdiaaGreat
end
section
namespace Go.Proofs.YtfghidehlnfdiaaGreat
open Go Go.Vcg

def Z9J:Array Value:=ZS 49 (fun i=>if i < 24 then uV (ZDQ i) else .int .i64 (turnOf (i - 24):Int))
theorem Z4j:Z9J.size=49:=Z06 _ _
theorem ZEV:∀v∈Z9J.toList,v.oneCell'=true:=Z2u (fun i=>by split <;> rfl)
theorem Z4q.of_blk {w:World} {b o:Nat} {t:TypeId} {cs:Array Value} (h:Blk w b t cs) (hc:∀i,i < 49→cs[o+i]?=Z9J[i]?):Z4q w b o:=by
 refine ⟨h.lt,fun i hi=>?_,fun i hi=>?_⟩
 ·rw [h.cell,hc i (by omega),Z9J,ZF (by omega),if_pos hi]
 ·rw [h.cell,Nat.add_assoc,hc (24+i) (by omega),Z9J,ZF (by omega),if_neg (by omega),Nat.add_sub_cancel_left]

theorem Z9K (w:World):Calls Tryz.prog Z0y.n #[] w (fun e w'=>e=.returned (.agg Z9J)∧Vcg.Mod NoB w w'):=by
 refine Z0y.vc _ _ ?_
 unfold Z0y.Vc
 rintro d0 w1 ⟨rfl,rfl⟩
 refine (Z7G _).mono ?_
 rintro _ w2 ⟨rfl,M2⟩
 refine ⟨_,rfl,(ZBo _).mono ?_⟩
 rintro _ w3 ⟨rfl,M3⟩
 refine ⟨_,rfl,Z5p,Z3f,?_⟩
 have M:=((Mod.alloc (S:=NoB) w _).none_trans M2).none_trans M3
 have B:=((Blk.new w _ _).mod' M2).mod' M3
 rw [show lputL (lputL _ 0 24 rcA) 24 25 turnA=Z9J from by kernel_rfl]
 exact ⟨_,B.storeAll (L:=Z9J) (by rw [Z4j]; kernel_rfl) (by rw [Z4j]; rfl) ZEV,_,(B.row_same _).rowAll Z4j,rfl,M.step_row (fun h=>by omega)⟩

theorem Z8B {w:World} (s:St) (b o:Nat) (hp:Z4q w b o) :
  Calls Tryz.prog Zm.n #[.agg (lanesA s),.pointer (some ⟨b,o,none⟩)] w
   (fun e w'=>e=.returned (.agg (lanesA (Z6B s)))∧Vcg.Mod NoB w w'):=by
 refine Zm.vc _ _ _ _ ?_
 unfold Zm.Vc
 rintro d2 w3 ⟨rfl,rfl⟩ d4 w5 ⟨rfl,rfl⟩
 have B2:=(Blk.new w 173 (lanesA s)).alloc (.cells (Array.replicate 25 (.int .u64 0)) 173)
 have B4:=Blk.new (w.alloc (.cells (lanesA s) 173)) 173 (Array.replicate 25 (.int .u64 0))
 have M:=(Mod.alloc (S:=NoB) w (.cells (lanesA s) 173)).step_alloc (.cells (Array.replicate 25 (.int .u64 0)) 173)
 simp only [ZD] at B4 ⊢
 generalize (w.alloc (.cells (lanesA s) 173)).alloc (.cells (Array.replicate 25 (.int .u64 0)) 173)=w5 at *
 generalize hNe:w.heap.size=N at *
 refine Z4L 24 (fun n w'=>Vcg.Mod NoB w w'∧Blk w' N 173 (lanesA (Z29 n s))∧Blk w' (N+1) 173 (Array.replicate 25 (.int .u64 0))) rfl ⟨M,B2,B4⟩ ?_ ?_
 ·clear M B2 B4
  rintro n _ w6 hn ⟨M,B2,B4⟩
  refine ⟨_,B2.rowAll (ZL _),(ZBd (Z29 n s) b o n hn (hp.mod M (fun h=>h))).mono ?_⟩
  rintro _ w7 ⟨rfl,M7⟩
  refine ⟨_,rfl,_,(B2.mod' M7).storeAll (L:=lanesA (Z29 (n+1) s)) (by rw [ZL]; kernel_rfl) (by rw [ZL,ZL]) (Z1d _),?_⟩
  exact Z7z.next (by rw [Z0 (by omega) (by omega)]; omega) hn ⟨(M.none_trans M7).step_row (fun h=>by omega),(B2.mod' M7).row_same _,(B4.mod' M7).row_ne (by omega)⟩
 ·clear M B2 B4
  rintro _ w6 ⟨M,B2,B4⟩
  exact ⟨_,B2.rowAll (ZL _),_,B4.storeAll (L:=lanesA (Z6B s)) (by rw [ZL]; kernel_rfl) (by rw [ZL,Array.size_replicate]) (Z1d _),_,
   (B4.row_same _).rowAll (ZL _),rfl,M.step_row (fun h=>by omega)⟩


theorem Z8a {R:Ending→World→Prop} {w:World} {n0 n1:Int} (x:BitVec 64) (k:Nat) (h0:n0=uI x) (h1:n1=(k:Int)) (hk:k < 64)
  (h:∀w',Vcg.Mod NoB w w'→w'.heap=w.heap→R (.returned (uV (x.rotateLeft k))) w'):Calls Tryz.prog Z0b.n #[.int .u64 n0,.int .i64 n1] w R:=by
 subst h0 h1
 refine Z0b.vc _ _ _ _ ?_
 unfold Z0b.Vc
 refine ⟨fun hz=>?_,fun hz=>?_⟩
 ·have:x.rotateLeft k=x:=by
    obtain rfl:k=0:=by omega
    rw [BitVec.rotateLeft_def]
    apply BitVec.eq_of_toNat_eq
    simp [Nat.shiftRight_eq_div_pow,Nat.div_eq_of_lt x.isLt]
  rw [this] at h
  exact h w (Mod.refl w) rfl
 ·rintro _ rfl
  have e2:IntKind.wrap .i64 (64 - (k:Int))=((64 - k:Nat):Int):=by
   rw [Z0 (by omega) (by omega)]; omega
  rw [e2]
  refine ⟨by omega,by omega,?_⟩
  rw [Z8p,ZCj _ _ _ rfl,Z5O]
  have e3:x <<< k ||| x >>> (64 - k)=x.rotateLeft k:=by
   rw [BitVec.rotateLeft_def,Nat.mod_eq_of_lt hk]
  rw [e3]
  exact h _ (Mod.drew w) rfl

end Go.Proofs.YtfghidehlnfdiaaGreat
end
section
namespace Go.Proofs.YtfghidehlnfdiaaGreat
open Go Go.Vcg

theorem ZHv (s:St) (x:Nat):par s x=s x ^^^ s (x+5) ^^^ s (x+10) ^^^ s (x+15) ^^^ s (x+20):=by
 simp [par,ZDO]

theorem Z6o (w:World) (s:St) :
  Calls Tryz.prog Zy.n #[.agg (lanesA s)] w (fun e w'=>e=.returned (.agg (lanesA (Z6B s)))∧Vcg.Mod NoB w w'):=by
 refine Zy.vc _ _ _ ?_
 unfold Zy.Vc
 rintro d1 w2 ⟨rfl,rfl⟩ d3 w4 ⟨rfl,rfl⟩ d5 w6 ⟨rfl,rfl⟩
 have B1:=((Blk.new w 149 (lanesA s)).alloc (.cells (Array.replicate 25 (.int .u64 0)) 149)).alloc (.cells (Array.replicate 25 (.int .i64 0)) 169)
 have B3:=(Blk.new (w.alloc (.cells (lanesA s) 149)) 149 (Array.replicate 25 (.int .u64 0))).alloc (.cells (Array.replicate 25 (.int .i64 0)) 169)
 have B5:=Blk.new ((w.alloc (.cells (lanesA s) 149)).alloc (.cells (Array.replicate 25 (.int .u64 0)) 149)) 169 (Array.replicate 25 (.int .i64 0))
 have M:=((Mod.alloc (S:=NoB) w (.cells (lanesA s) 149)).step_alloc (.cells (Array.replicate 25 (.int .u64 0)) 149)).step_alloc (.cells (Array.replicate 25 (.int .i64 0)) 169)
 simp only [ZD] at B3 B5 ⊢
 generalize ((w.alloc (.cells (lanesA s) 149)).alloc (.cells (Array.replicate 25 (.int .u64 0)) 149)).alloc (.cells (Array.replicate 25 (.int .i64 0)) 169)=w6 at *
 generalize hNe:w.heap.size=N at *
 refine ⟨_,B5.storeAll (L:=Array.replicate 25 (.int .i64 0)) (by rw [Array.size_replicate]; kernel_rfl) (by rw [Array.size_replicate]) (by rw [Zn]; exact Z2u (fun _=>rfl)),?_⟩
 replace B1:=B1.row_ne (g:=N+1+1) (c:=Array.replicate 25 (.int .i64 0)) (by omega)
 replace B3:=B3.row_ne (g:=N+1+1) (c:=Array.replicate 25 (.int .i64 0)) (by omega)
 replace B5:=B5.row_same (Array.replicate 25 (.int .i64 0))
 replace M:=M.step_row (g:=N+1+1) (cs:=Array.replicate 25 (.int .i64 0)) (fun h=>by omega)
 generalize w6.setRow (N+1+1) (Array.replicate 25 (.int .i64 0))=w7 at *
 refine ⟨fun n5 n6 n7 w'=>∃t:Nat,n7=t∧t≤24∧n5=((Z7y t).1:Nat)∧n6=((Z7y t).2:Nat)∧Vcg.Mod NoB w w'∧Blk w' N 149 (lanesA s)∧Blk w' (N+1) 149 (Array.replicate 25 (.int .u64 0)) ∧
  Blk w' (N+1+1) 169 (ZS 25 (fun i=>.int .i64 (tarr t i:Int))),fun _ _ n _=>(24 - n).toNat,⟨0,rfl,by omega,rfl,rfl,M,B1,B3,by rw [Zn] at B5; exact B5⟩,?_⟩
 clear M B1 B3 B5
 rintro _ _ _ _ w4 ⟨t,rfl,ht,rfl,rfl,M,B1,B3,B5⟩
 refine ⟨fun hlt=>?_,fun hge=>?_⟩
 ·have hxy:=ZI6 t (by omega)
  have ei:IntKind.wrap .i64 (((Z7y t).1:Int)+IntKind.wrap .i64 (5 * ((Z7y t).2:Int)))=(((Z7y t).1+5 * (Z7y t).2:Nat):Int):=by
   simp (disch:=omega) only [Z0]; omega
  rw [ei]
  refine ⟨by omega,B5.canSet0 (by simp; omega) rfl,fun w5 h5=>?_⟩
  rw [h5.at]
  refine ⟨⟨t+1,by rw [Z0 (by omega) (by omega)]; omega,by omega,rfl,?_,M.step_set (fun h=>by simp only [hNe] at h; omega),B1.set_ne (by simp; omega),B3.set_ne (by simp),?_⟩,?_⟩
  ·simp only [Z7y]
   simp (disch:=omega) only [Z2N,Z0]; omega
  ·have:=B5.set ((Z7y t).1+5 * (Z7y t).2) (.int .i64 ((((t+1) * (t+2) / 2 % 64:Nat)):Int))
   rw [Z0V] at this
   rw [ZCn t (by omega)]
   refine (ZG (fun j hj=>?_)) ▸ this
   rw [tarr]
   dsimp only
   split <;> rfl
  ·dsimp only
   rw [Z0 (n:=(t:Int)+1) (by omega) (by omega)]; omega
 obtain rfl:t=24:=by omega
 have e:(ZS 25 fun i=>Value.int .i64 (tarr 24 i:Int))=turnA:=ZG (fun j hj=>by rw [ZCm j hj])
 rw [e] at B5
 clear e
 refine ⟨fun n15 n16 w'=>∃r:Nat,n16=r∧r≤24∧n15=(regOf (7 * r):Nat)∧Vcg.Mod NoB w w'∧Blk w' N 149 (lanesA (Z29 r s))∧Blk w' (N+1) 149 (Array.replicate 25 (.int .u64 0)) ∧
  Blk w' (N+1+1) 169 turnA,fun _ n _=>(24 - n).toNat,⟨0,rfl,by omega,rfl,M,B1,B3,B5⟩,?_⟩
 clear M B1 B3 B5
 rintro _ _ _ w1 ⟨r,rfl,hr,rfl,M,B1,B3,B5⟩
 refine ⟨fun hlt=>?_,fun hge=>?_⟩
 ·rintro d18 w19 ⟨rfl,rfl⟩
  have hq:N+1+1 < w1.heap.size:=B5.lt
  have B7:=Blk.new w1 181 #[(.int .u64 0),(.int .u64 0),(.int .u64 0),(.int .u64 0),(.int .u64 0)]
  replace B1:=B1.alloc (.cells #[(.int .u64 0),(.int .u64 0),(.int .u64 0),(.int .u64 0),(.int .u64 0)] 181)
  replace B3:=B3.alloc (.cells #[(.int .u64 0),(.int .u64 0),(.int .u64 0),(.int .u64 0),(.int .u64 0)] 181)
  replace B5:=B5.alloc (.cells #[(.int .u64 0),(.int .u64 0),(.int .u64 0),(.int .u64 0),(.int .u64 0)] 181)
  replace M:=M.step_alloc (.cells #[(.int .u64 0),(.int .u64 0),(.int .u64 0),(.int .u64 0),(.int .u64 0)] 181)
  generalize w1.alloc (.cells #[(.int .u64 0),(.int .u64 0),(.int .u64 0),(.int .u64 0),(.int .u64 0)] 181)=w2 at *
  generalize w1.heap.size=Q at *
  generalize hs':Z29 r s=s' at *
  have e5:#[(.int .u64 0),(.int .u64 0),(.int .u64 0),(.int .u64 0),(.int .u64 0)]=ZS 5 (fun i=>uV (if i < 0 then par s' i else 0)):=by rfl
  rw [e5] at B7
  clear e5
  refine Z4L 5 (fun x w'=>Vcg.Mod NoB w w'∧Blk w' N 149 (lanesA s')∧Blk w' (N+1) 149 (Array.replicate 25 (.int .u64 0))∧Blk w' (N+1+1) 169 turnA ∧
   Blk w' Q 181 (ZS 5 (fun i=>uV (if i < x then par s' i else 0)))) rfl ⟨M,B1,B3,B5,B7⟩ ?_ ?_
  ·clear M B1 B3 B5 B7
   rintro x _ w3 hx ⟨M,B1,B3,B5,B7⟩
   rintro _ rfl
   have e5:IntKind.wrap .i64 ((x:Int)+5)=((x+5:Nat):Int):=by rw [Z0 (by omega) (by omega)]; omega
   have e10:IntKind.wrap .i64 ((x:Int)+10)=((x+10:Nat):Int):=by rw [Z0 (by omega) (by omega)]; omega
   have e15:IntKind.wrap .i64 ((x:Int)+15)=((x+15:Nat):Int):=by rw [Z0 (by omega) (by omega)]; omega
   have e20:IntKind.wrap .i64 ((x:Int)+20)=((x+20:Nat):Int):=by rw [Z0 (by omega) (by omega)]; omega
   rw [e5,e10,e15,e20]
   clear e5 e10 e15 e20
   refine ⟨by omega,_,B1.drew.rd0 (ZY _ (by omega)),by omega,_,B1.drew.rd0 (ZY _ (by omega)),by omega,_,B1.drew.rd0 (ZY _ (by omega)),by omega,_,B1.drew.rd0 (ZY _ (by omega)),by omega,_,B1.drew.rd0 (ZY _ (by omega)),by omega,B7.drew.canSet0 (by simp; omega) rfl,fun w4 h4=>?_⟩
   rw [h4.at,Z0h,Z0h,Z0h,Z0h,← ZHv]
   refine Z7z.next (by rw [Z0 (by omega) (by omega)]; omega) hx ⟨(M.step_drew).step_set (fun h=>by simp only [hNe] at h; omega),B1.drew.set_ne (by simp; omega),B3.drew.set_ne (by simp; omega),B5.drew.set_ne (by simp; omega),?_⟩
   have:=B7.drew.set x (uV (par s' x))
   rw [Z0V] at this
   refine (ZG (fun j hj=>?_)) ▸ this
   grind
  clear M B1 B3 B5 B7
  rintro _ w3 ⟨M,B1,B3,B5,B7⟩ d30 w31 ⟨rfl,rfl⟩
  have hq2:Q < w3.heap.size:=B7.lt
  have B8:=Blk.new w3 149 (Array.replicate 25 (.int .u64 0))
  replace B1:=B1.alloc (.cells (Array.replicate 25 (.int .u64 0)) 149)
  replace B3:=B3.alloc (.cells (Array.replicate 25 (.int .u64 0)) 149)
  replace B5:=B5.alloc (.cells (Array.replicate 25 (.int .u64 0)) 149)
  replace B7:=B7.alloc (.cells (Array.replicate 25 (.int .u64 0)) 149)
  replace M:=M.step_alloc (.cells (Array.replicate 25 (.int .u64 0)) 149)
  have e7:ZS 5 (fun i=>uV (if i < 5 then par s' i else 0))=ZS 5 (fun i=>uV (par s' i)):=ZG (fun i hi=>by rw [if_pos hi])
  rw [e7] at B7
  clear e7
  generalize w3.alloc (.cells (Array.replicate 25 (.int .u64 0)) 149)=w4 at *
  generalize w3.heap.size=T at *
  refine Z4L 5 (fun x w'=>Vcg.Mod NoB w w'∧Blk w' N 149 (lanesA s')∧Blk w' (N+1) 149 (Array.replicate 25 (.int .u64 0))∧Blk w' (N+1+1) 169 turnA ∧
   Blk w' Q 181 (ZS 5 (fun i=>uV (par s' i)))∧Blk w' T 149 (ZS 25 (fun j=>uV (if (j % 5+3 * (j / 5)) % 5 < x then bbK s' j else 0)))) rfl
   ⟨M,B1,B3,B5,B7,by rw [Zn] at B8; simp only [Nat.not_lt_zero,if_false]; exact B8⟩ ?_ ?_
  ·clear M B1 B3 B5 B7 B8
   rintro x _ w5 hx ⟨M,B1,B3,B5,B7,B8⟩
   refine Z4L 5 (fun k w'=>Vcg.Mod NoB w w'∧Blk w' N 149 (lanesA s')∧Blk w' (N+1) 149 (Array.replicate 25 (.int .u64 0))∧Blk w' (N+1+1) 169 turnA ∧
    Blk w' Q 181 (ZS 5 (fun i=>uV (par s' i)))∧Blk w' T 149 (ZS 25 (fun j=>uV (if (j % 5+3 * (j / 5)) % 5 < x∨(j % 5+3 * (j / 5)) % 5=x∧j % 5 < k then bbK s' j else 0)))) rfl
    ⟨M,B1,B3,B5,B7,by simpa using B8⟩ ?_ ?_
   ·clear M B1 B3 B5 B7 B8
    rintro k _ w5 hk ⟨M,B1,B3,B5,B7,B8⟩
    rintro _ rfl
    have c3:=ZFy x hx k hk
    have a1:IntKind.wrap .i64 ((x:Int)+IntKind.wrap .i64 (5 * (k:Int)))=((x+5 * k:Nat):Int):=by simp (disch:=omega) only [Z0]; omega
    have a2:Int.tmod (IntKind.wrap .i64 ((x:Int)+4)) 5=(((x+4) % 5:Nat):Int):=by simp (disch:=omega) only [Z2N,Z0]; omega
    have a3:Int.tmod (IntKind.wrap .i64 ((x:Int)+1)) 5=(((x+1) % 5:Nat):Int):=by simp (disch:=omega) only [Z2N,Z0]; omega
    have a4:IntKind.wrap .i64 ((k:Int)+IntKind.wrap .i64 (5 * Int.tmod (IntKind.wrap .i64 (IntKind.wrap .i64 (2 * (x:Int))+IntKind.wrap .i64 (3 * (k:Int)))) 5))=((k % 5+5 * ((2 * x+3 * k) % 5):Nat):Int):=by
     simp (disch:=omega) only [Z2N,Z0]; omega
    rw [a1,a2,a3,a4]
    clear a1 a2 a3 a4
    have l1:(x+4) % 5 < 5:=Nat.mod_lt _ (by decide)
    have l2:(x+1) % 5 < 5:=Nat.mod_lt _ (by decide)
    refine ⟨by omega,_,B1.drew.rd0 (ZY _ (by omega)),by omega,_,B7.drew.rd0 (ZF l1),by omega,_,B7.drew.rd0 (ZF l2),Z8a _ 1 rfl rfl (by omega) fun w6 M6 E6=>⟨_,rfl,(B7.drew.mod' M6).rd0 (ZF l1),(B1.drew.mod' M6).rd0 (ZY _ (by omega)),by omega,_,(B5.drew.mod' M6).rd0 (ZF (by omega)),?_⟩⟩
    rw [Z0h,Z0h]
    refine Z8a _ (turnOf (x+5 * k)) rfl rfl (ZAi _) fun w7 M7 E7=>⟨_,rfl,by omega,((B8.drew.mod' M6).mod' M7).canSet0 (by simp; omega) rfl,fun w8 h8=>?_⟩
    rw [h8.at]
    refine Z7z.next (by rw [Z0 (by omega) (by omega)]; omega) hk ⟨(((M.step_drew).none_trans M6).none_trans M7).step_set (fun h=>by simp only [hNe] at h; omega),((B1.drew.mod' M6).mod' M7).set_ne (by simp; omega),((B3.drew.mod' M6).mod' M7).set_ne (by simp; omega),((B5.drew.mod' M6).mod' M7).set_ne (by simp; omega),((B7.drew.mod' M6).mod' M7).set_ne (by simp; omega),?_⟩
    have:=((B8.drew.mod' M6).mod' M7).set (k % 5+5 * ((2 * x+3 * k) % 5)) (uV ((s' (x+5 * k) ^^^ par s' ((x+4) % 5) ^^^ (par s' ((x+1) % 5)).rotateLeft 1).rotateLeft (turnOf (x+5 * k))))
    rw [Z0V] at this
    refine (ZG (fun j hj=>?_)) ▸ this
    have e1:bbK s' (k % 5+5 * ((2 * x+3 * k) % 5))=(s' (x+5 * k) ^^^ par s' ((x+4) % 5) ^^^ (par s' ((x+1) % 5)).rotateLeft 1).rotateLeft (turnOf (x+5 * k)):=by
     rw [bbK,c3.2.1,c3.2.2,bbXY,ddK,BitVec.xor_assoc]
    have c4:=ZHc x hx k hk j hj
    rw [← e1]
    by_cases hj':j=k % 5+5 * ((2 * x+3 * k) % 5)
    ·rw [if_pos hj',if_pos (c4.2 (.inl hj')),hj']
    ·rw [if_neg hj']
     congr 2
     simp only [c4,hj',false_or]
   ·rintro _ w6 ⟨M,B1,B3,B5,B7,B8⟩
    refine Z7z.next (by rw [Z0 (by omega) (by omega)]; omega) hx ⟨M,B1,B3,B5,B7,?_⟩
    refine (ZG (fun j hj=>?_)) ▸ B8
    congr 2
    have:j % 5 < 5:=by omega
    simp only [this,and_true]
    have:(j % 5+3 * (j / 5)) % 5 < x+1↔(j % 5+3 * (j / 5)) % 5 < x∨(j % 5+3 * (j / 5)) % 5=x:=by omega
    simp only [this]
  clear M B1 B3 B5 B7 B8
  rintro _ w5 ⟨M,B1,B3,B5,_,B8⟩
  have e8:ZS 25 (fun j=>uV (if (j % 5+3 * (j / 5)) % 5 < 5 then bbK s' j else 0))=lanesA (bbK s') :=
   ZG (fun j hj=>by rw [if_pos (by omega)])
  rw [e8] at B8
  clear e8
  refine Z4L 5 (fun x w'=>Vcg.Mod NoB w w'∧Blk w' N 149 (ZS 25 (fun j=>uV (if j % 5 < x then Z55 (bbK s') j else s' j)))∧Blk w' (N+1) 149 (Array.replicate 25 (.int .u64 0))∧Blk w' (N+1+1) 169 turnA ∧
   Blk w' T 149 (lanesA (bbK s'))) rfl
   ⟨M,by simp only [Nat.not_lt_zero,if_false]; exact B1,B3,B5,B8⟩ ?_ ?_
  ·clear M B1 B3 B5 B8
   rintro x _ w6 hx ⟨M,B1,B3,B5,B8⟩
   refine Z4L 5 (fun k w'=>Vcg.Mod NoB w w'∧Blk w' N 149 (ZS 25 (fun j=>uV (if j % 5 < x∨j % 5=x∧j / 5 < k then Z55 (bbK s') j else s' j)))∧Blk w' (N+1) 149 (Array.replicate 25 (.int .u64 0))∧Blk w' (N+1+1) 169 turnA ∧
    Blk w' T 149 (lanesA (bbK s'))) rfl ⟨M,by simpa using B1,B3,B5,B8⟩ ?_ ?_
   ·clear M B1 B3 B5 B8
    rintro k _ w6 hk ⟨M,B1,B3,B5,B8⟩
    rintro _ rfl
    have a1:IntKind.wrap .i64 ((x:Int)+IntKind.wrap .i64 (5 * (k:Int)))=((x+5 * k:Nat):Int):=by simp (disch:=omega) only [Z0]; omega
    have a2:IntKind.wrap .i64 (Int.tmod (IntKind.wrap .i64 ((x:Int)+1)) 5+IntKind.wrap .i64 (5 * (k:Int)))=(((x+1) % 5+5 * k:Nat):Int):=by
     simp (disch:=omega) only [Z2N,Z0]; omega
    have a3:IntKind.wrap .i64 (Int.tmod (IntKind.wrap .i64 ((x:Int)+2)) 5+IntKind.wrap .i64 (5 * (k:Int)))=(((x+2) % 5+5 * k:Nat):Int):=by
     simp (disch:=omega) only [Z2N,Z0]; omega
    rw [a1,a2,a3]
    clear a1 a2 a3
    refine ⟨by omega,_,B8.drew.rd0 (ZY _ (by omega)),by omega,_,B8.drew.rd0 (ZY _ (by omega)),by omega,_,B8.drew.rd0 (ZY _ (by omega)),by omega,B1.drew.canSet0 (by simp; omega) rfl,fun w7 h7=>?_⟩
    rw [h7.at,Z9r,Z9q,Z0h]
    refine Z7z.next (by rw [Z0 (by omega) (by omega)]; omega) hk ⟨(M.step_drew).step_set (fun h=>by simp only [hNe] at h; omega),?_,B3.drew.set_ne (by simp),B5.drew.set_ne (by simp; omega),B8.drew.set_ne (by simp; omega)⟩
    have:=B1.drew.set (x+5 * k) (uV (bbK s' (x+5 * k) ^^^ (~~~ bbK s' ((x+1) % 5+5 * k) &&& bbK s' ((x+2) % 5+5 * k))))
    rw [Z0V] at this
    refine (ZG (fun j hj=>?_)) ▸ this
    have e1:Z55 (bbK s') (x+5 * k)=bbK s' (x+5 * k) ^^^ (~~~ bbK s' ((x+1) % 5+5 * k) &&& bbK s' ((x+2) % 5+5 * k)):=by
     rw [Z55,show (x+5 * k) % 5=x by omega,show (x+5 * k) / 5=k by omega]
    rw [← e1]
    by_cases hj':j=x+5 * k
    ·rw [if_pos hj',if_pos (by omega),hj']
    ·rw [if_neg hj']
     congr 2
     have:(j % 5 < x∨j % 5=x∧j / 5 < k+1)↔(j % 5 < x∨j % 5=x∧j / 5 < k):=by omega
     simp only [this]
   ·rintro _ w7 ⟨M,B1,B3,B5,B8⟩
    refine Z7z.next (by rw [Z0 (by omega) (by omega)]; omega) hx ⟨M,?_,B3,B5,B8⟩
    refine (ZG (fun j hj=>?_)) ▸ B1
    congr 2
    have:j % 5 < x+1↔j % 5 < x∨j % 5=x∧j / 5 < 5:=by omega
    simp only [this]
  clear M B1 B3 B5 B8
  rintro _ w6 ⟨M,B1,B3,B5,B8⟩
  have e9:ZS 25 (fun j=>uV (if j % 5 < 5 then Z55 (bbK s') j else s' j))=ZS 25 (fun j=>uV (if j=0 then Z55 (bbK s') 0 ^^^ Z4P r 0 else Z55 (bbK s') j)) :=
   ZG (fun j hj=>by rw [if_pos (by omega)]; by_cases h0:j=0 <;> simp [h0,Z4P])
  rw [e9] at B1
  clear e9 B8
  refine ⟨fun n62 n63 w'=>∃j:Nat,n63=j∧j≤7∧n62=(regOf (7 * r+j):Nat)∧Vcg.Mod NoB w w'∧Blk w' N 149 (ZS 25 (fun i=>uV (if i=0 then Z55 (bbK s') 0 ^^^ Z4P r j else Z55 (bbK s') i)))∧Blk w' (N+1) 149 (Array.replicate 25 (.int .u64 0)) ∧
   Blk w' (N+1+1) 169 turnA,fun _ n _=>(7 - n).toNat,⟨0,rfl,by omega,rfl,M,B1,B3,B5⟩,?_⟩
  clear M B1 B3 B5
  rintro _ _ _ w7 ⟨j,rfl,hj,rfl,M,B1,B3,B5⟩
  refine ⟨fun hlt'=>?_,fun hge'=>?_⟩
  ·have hreg:=ZGC (7 * r+j) (by omega)
   have em:(7 - IntKind.wrap .i64 ((j:Int)+1)).toNat < (7 - (j:Int)).toNat:=by rw [Z0 (by omega) (by omega)]; omega
   have ew:IntKind.wrap .i64 (2 * (regOf (7 * r+j):Int))=((regOf (7 * r+j) * 2:Nat):Int):=by rw [Z0 (by omega) (by omega)]; omega
   have ej:IntKind.wrap .i64 ((j:Int)+1)=((j+1:Nat):Int):=by rw [Z0 (by omega) (by omega)]; omega
   have g1:((regOf (7 * r+j) * 2:Nat):Int)≥256→bitsI .xor .i64 (IntKind.wrap .i64 (((regOf (7 * r+j) * 2:Nat):Int) - 256)) 113=(regOf (7 * r+(j+1)):Int):=by
    intro h
    rw [Z0 (by omega) (by omega)]
    have:=ZCd (7 * r+j) (by omega) (by omega)
    refine Eq.trans ?_ this
    congr 1
    omega
   have g2:¬((regOf (7 * r+j) * 2:Nat):Int)≥256→((regOf (7 * r+j) * 2:Nat):Int)=(regOf (7 * r+(j+1)):Int):=by
    intro h
    rw [← ZAb _ (by omega)]; rfl
   rw [Z2N _ _ (by omega),ew,ZGB j (by omega)]
   refine ⟨fun h1=>?_,fun h1=>?_⟩
   ·rintro _ rfl
    refine ⟨_,B1.drew.rd1 (ZF (by omega)),by omega,by omega,B1.drew.canSet (by simp) rfl,?_⟩
    rintro w8 rfl
    rw [if_pos rfl]
    have e1:(1:Int)=uI (1:BitVec 64):=by decide
    have e2:bitsI .xor .u64 (uI (Z55 (bbK s') 0 ^^^ Z4P r j)) (shlI .u64 1 ((2 ^ j - 1:Nat):Int))=uI (Z55 (bbK s') 0 ^^^ Z4P r (j+1)):=by
     rw [e1,Z8p,Z0h,Z4P,if_pos (by omega),BitVec.xor_assoc]
    rw [e2]
    have B1':=B1.drew.set 0 (uV (Z55 (bbK s') 0 ^^^ Z4P r (j+1)))
    rw [Z0V] at B1'
    have e3:(ZS 25 fun i=>if i=0 then uV (Z55 (bbK s') 0 ^^^ Z4P r (j+1)) else uV (if i=0 then Z55 (bbK s') 0 ^^^ Z4P r j else Z55 (bbK s') i))=ZS 25 (fun i=>uV (if i=0 then Z55 (bbK s') 0 ^^^ Z4P r (j+1) else Z55 (bbK s') i)) :=
     ZG (fun i hi=>by by_cases h0:i=0 <;> simp [h0])
    rw [e3] at B1'
    have M':Vcg.Mod NoB w (w7.drew.setCell ⟨N,0,none⟩ (uV (Z55 (bbK s') 0 ^^^ Z4P r (j+1)))):=(M.step_drew).step_set (fun h=>by simp only [hNe] at h; omega)
    exact ⟨fun h=>⟨⟨j+1,ej,by omega,g1 h,M',B1',B3.drew.set_ne (by simp),B5.drew.set_ne (by simp; omega)⟩,em⟩,fun h=>⟨⟨j+1,ej,by omega,g2 h,M',B1',B3.drew.set_ne (by simp),B5.drew.set_ne (by simp; omega)⟩,em⟩⟩
   ·have e2:Z4P r (j+1)=Z4P r j:=by
      rw [Z4P,if_neg (by omega)]; simp
    rw [← e2] at B1
    exact ⟨fun h=>⟨⟨j+1,ej,by omega,g1 h,M,B1,B3,B5⟩,em⟩,fun h=>⟨⟨j+1,ej,by omega,g2 h,M,B1,B3,B5⟩,em⟩⟩
  ·obtain rfl:j=7:=by omega
   refine ⟨⟨r+1,by rw [Z0 (by omega) (by omega)]; omega,by omega,rfl,M,?_,B3,B5⟩,by rw [Z0 (by omega) (by omega)]; dsimp only; omega⟩
   have e:ZS 25 (fun i=>uV (if i=0 then Z55 (bbK s') 0 ^^^ Z4P r 7 else Z55 (bbK s') i))=lanesA (Z29 (r+1) s) :=
    ZG (fun i hi=>by rw [ZEZ r (by omega),Z29,hs',rnd])
   exact e ▸ B1
 ·obtain rfl:r=24:=by omega
  exact ⟨_,B1.rowAll (ZL _),_,B3.storeAll (L:=lanesA (Z6B s)) (by rw [ZL]; kernel_rfl) (by rw [ZL,Array.size_replicate]) (Z1d _),_,
   (B3.row_same _).rowAll (ZL _),rfl,M.step_row (fun h=>by omega)⟩

end Go.Proofs.YtfghidehlnfdiaaGreat
end
section
namespace Go.Vcg

abbrev bV (b:UInt8):Value:=.int .u8 (b.toNat:Int)

def RdB (w:World) (o:Option Addr) (bs:List UInt8):Prop :=
 bs≠[]→∃b f,o=some ⟨b,f,none⟩∧b < w.heap.size∧∀i,i < bs.length→w.cell? ⟨b,f+i,none⟩=some (bV (bs.getD i 0))

def Off (S:Nat→Prop) (o:Option Addr):Prop:=∀d,o=some d→¬S d.block

theorem RdB.nil (w:World) (o:Option Addr):RdB w o []:=fun h=>(h rfl).elim
theorem RdB.mod {S:Nat→Prop} {w w':World} {o:Option Addr} {bs:List UInt8} (h:RdB w o bs) (m:Mod S w w') (hs:Off S o):RdB w' o bs:=by
 intro hb
 obtain ⟨b,f,rfl,hl,hc⟩:=h hb
 exact ⟨b,f,rfl,Nat.lt_of_lt_of_le hl m.size,fun i hi=>(World.cell?_of_block (m.block b hl (hs _ rfl))).trans (hc i hi)⟩
theorem RdB.mod' {w w':World} {o:Option Addr} {bs:List UInt8} (h:RdB w o bs) (m:Mod NoB w w'):RdB w' o bs:=h.mod m (fun _ _ h=>h)
theorem RdB.sub {w:World} {o:Option Addr} {bs:List UInt8} {c lo n:Nat} (h:RdB w o bs) (hl:bs.length≤c):RdB w (subO o c lo 1) ((bs.drop lo).take n):=by
 intro hne
 have h1:lo < bs.length:=by
  rcases Nat.lt_or_ge lo bs.length with h | h
  ·exact h
  ·rw [List.drop_eq_nil_of_le h] at hne; simp at hne
 have hb:bs≠[]:=by intro e; rw [e] at h1; simp at h1
 obtain ⟨b,f,rfl,hlt,hc⟩:=h hb
 refine ⟨b,f+lo,?_,hlt,fun i hi=>?_⟩
 ·rw [subO,if_neg (by omega)]; simp
 ·rw [List.length_take,List.length_drop] at hi
  rw [Nat.add_assoc,hc (lo+i) (by omega)]
  congr 2
  simp only [List.getD_eq_getElem?_getD]
  rw [List.getElem?_take_of_lt (by omega),List.getElem?_drop]
theorem RdB.take {w:World} {o:Option Addr} {bs:List UInt8} (h:RdB w o bs) (n:Nat):RdB w o (bs.take n):=by
 intro hne
 have hb:bs≠[]:=by intro e; rw [e] at hne; simp at hne
 obtain ⟨b,f,rfl,hlt,hc⟩:=h hb
 refine ⟨b,f,rfl,hlt,fun i hi=>?_⟩
 rw [List.length_take] at hi
 rw [hc i (by omega)]
 simp only [List.getD_eq_getElem?_getD]
 rw [List.getElem?_take_of_lt (by omega)]
theorem RdB.get {w:World} {o:Option Addr} {bs:List UInt8} (h:RdB w o bs) {i:Nat} (hi:i < bs.length) :
  ∃d,o=some d∧w.cell? (Addr.add d (Int.toNat (i:Int)))=some (bV (bs.getD i 0)):=by
 obtain ⟨b,f,rfl,hlt,hc⟩:=h (by intro e; rw [e] at hi; simp at hi)
 exact ⟨_,rfl,by rw [Int.toNat_natCast,Z6]; exact hc i hi⟩
theorem RdB.of_blk {w:World} {b f:Nat} {t:TypeId} {cs:Array Value} {bs:List UInt8} (h:Blk w b t cs) (hc:∀i,i < bs.length→cs[f+i]?=some (bV (bs.getD i 0))):RdB w (some ⟨b,f,none⟩) bs :=
 fun _=>⟨b,f,rfl,h.lt,fun i hi=>by rw [h.cell,hc i hi]⟩

def Z62 (b:UInt8):BitVec 64:=b.toBitVec.setWidth 64
theorem ZCo (b:UInt8):uI (Z62 b)=(b.toNat:Int):=by
 simp only [uI,Z62,BitVec.toNat_setWidth,UInt8.toNat_toBitVec]
 have:=b.toNat_lt
 omega
def leK (bs:List UInt8):Nat→BitVec 64
 | 0=>0
 | k+1=>leK bs k ||| (Z62 (bs.getD k 0) <<< (8 * k))
def ZCO (bs:List UInt8):BitVec 64:=leK bs bs.length

def Z8Y (x:BitVec 64) (i:Nat):UInt8:=UInt8.ofBitVec ((x >>> (8 * i)).setWidth 8)
def leL (x:BitVec 64) (k:Nat):List UInt8:=(List.range k).map (Z8Y x)
theorem Z3Y (x:BitVec 64) (k:Nat):(leL x k).length=k:=by simp [leL]
theorem ZFN (x:BitVec 64) (k:Nat):leL x (k+1)=leL x k++[Z8Y x k]:=by simp [leL,List.range_succ]
theorem ZBv (n:Int):IntKind.wrap .u8 n=n % 256:=by simp [IntKind.wrap,IntKind.bits,IntKind.signed]
theorem Z6k (y:BitVec 64):IntKind.wrap .u8 (uI y)=((UInt8.ofBitVec (y.setWidth 8)).toNat:Int):=by
 rw [ZBv]
 show (y.toNat:Int) % 256=((y.setWidth 8).toNat:Int)
 rw [BitVec.toNat_setWidth]
 omega
theorem Z51 (a b:UInt8):bitsI .or .u8 (a.toNat:Int) (b.toNat:Int)=((a ||| b).toNat:Int):=by
 have h:∀x:UInt8,BitVec.ofInt 8 (x.toNat:Int)=x.toBitVec:=by
  intro x
  apply BitVec.eq_of_toNat_eq
  have:=x.toNat_lt
  simp
 simp only [bitsI,IntKind.bits,h,ZBv]
 show (((a.toBitVec ||| b.toBitVec:BitVec 8).toNat:Nat):Int) % 256=(((a ||| b).toBitVec).toNat:Int)
 rw [UInt8.toBitVec_or]
 have:=(a.toBitVec ||| b.toBitVec:BitVec 8).isLt
 omega

def Z22 (s:St) (blk:List UInt8):St:=fun i=>if i < 17 then s i ^^^ ZCO ((blk.drop (8 * i)).take 8) else s i
def Z7A (s:St) (blk:List UInt8):St:=Z6B (Z22 s blk)
def ZAs (s:St) (bs:List UInt8):Nat→St
 | 0=>s
 | k+1=>Z7A (ZAs s bs k) ((bs.drop (136 * k)).take 136)
def Z0W:St:=fun _=>0
def ZDR (m:List UInt8):St:=ZAs Z0W m (m.length / 136)
def restOf (m:List UInt8):List UInt8:=m.drop (136 * (m.length / 136))
def ZDG (r:List UInt8) (i:Nat):UInt8:=(if i < r.length then r.getD i 0 else if i=r.length then 1 else 0) ||| (if i=135 then 128 else 0)
def Z25 (r:List UInt8):List UInt8:=(List.range 136).map (ZDG r)
def Z4K (m:List UInt8):St:=Z7A (ZDR m) (Z25 (restOf m))
def Z3s (s:St) (i:Nat):UInt8:=UInt8.ofBitVec ((s (i / 8) >>> (8 * (i % 8))).setWidth 8)
def sumOf (m:List UInt8):List UInt8:=(List.range 32).map (Z3s (Z4K m))
def hashA (h:List UInt8):Array Value:=ZS 32 (fun i=>bV (h.getD i 0))

theorem ZC7 (s:St) (bs:List UInt8) (q:Nat):∀k,ZAs s bs (q+k)=ZAs (ZAs s bs q) (bs.drop (136 * q)) k
 | 0=>rfl
 | k+1=>by
   rw [← Nat.add_assoc,ZAs,ZC7 s bs q k,ZAs,List.drop_drop]
   congr 4
   omega
theorem Z7K (s:St) (m b:List UInt8):∀k,136 * k≤m.length→ZAs s (m++b) k=ZAs s m k
 | 0,_=>rfl
 | k+1,h=>by
   rw [ZAs,Z7K s m b k (by omega),ZAs]
   congr 1
   rw [List.drop_append_of_le_length (by omega),List.take_append_of_le_length (by rw [List.length_drop]; omega)]
theorem Z5Z (m:List UInt8):(restOf m).length=m.length % 136:=by
 rw [restOf,List.length_drop]; omega
theorem ZAc (m:List UInt8):(restOf m).length < 136:=by rw [Z5Z]; omega
theorem Z7j (m b:List UInt8):restOf m++b=(m++b).drop (136 * (m.length / 136)):=by
 rw [restOf,List.drop_append_of_le_length (by omega)]
theorem ZBl (m b:List UInt8):ZDR (m++b)=ZAs (ZDR m) (restOf m++b) ((restOf m++b).length / 136):=by
 rw [Z7j,ZDR,ZDR]
 have h1:(m++b).length / 136=m.length / 136+((m++b).drop (136 * (m.length / 136))).length / 136:=by
  rw [List.length_drop,List.length_append]; omega
 rw [h1,ZC7,Z7K _ _ _ _ (by omega)]
theorem Z9M (m b:List UInt8):restOf (m++b)=(restOf m++b).drop (136 * ((restOf m++b).length / 136)):=by
 rw [Z7j,restOf,List.drop_drop]
 congr 1
 rw [List.length_drop,List.length_append]; omega
theorem Z04 (m:List UInt8):(sumOf m).length=32:=by simp [sumOf]
theorem Z5C (r:List UInt8):(Z25 r).length=136:=by simp [Z25]
theorem ZE2 (r:List UInt8) {i:Nat} (h:i < 136):(Z25 r).getD i 0=ZDG r i:=by simp [Z25,List.getD_eq_getElem?_getD,h]
theorem Z8S (m:List UInt8) {i:Nat} (h:i < 32):(sumOf m).getD i 0=Z3s (Z4K m) i:=by simp [sumOf,List.getD_eq_getElem?_getD,h]

end Go.Vcg
end
section
namespace Go.Vcg

def Own (w:World) (e:TypeId) (sz:Nat) (o:Option Addr) (l c:Nat) (xs:List Value):Prop :=
 xs.length=l * sz∧((o=none∧l=0∧c=0) ∨
  ∃g cur,o=some ⟨g,0,none⟩∧Blk w g e cur∧l≤c∧c≤maxLen∧cur.size=c * sz∧cur.toList.take (l * sz)=xs)
def OB (o:Option Addr):Nat→Prop:=fun k=>∃d,o=some d∧d.block=k

theorem Z47 (k:Nat):¬OB none k:=by rintro ⟨d,h,_⟩; cases h
theorem Own.nil (w:World) (e:TypeId) (sz:Nat):Own w e sz none 0 0 []:=⟨by simp,.inl ⟨rfl,rfl,rfl⟩⟩
theorem Own.mod {S:Nat→Prop} {w w':World} {e:TypeId} {sz:Nat} {o:Option Addr} {l c:Nat} {xs:List Value} (h:Own w e sz o l c xs) (m:Mod S w w') (hs:∀k,OB o k→¬S k):Own w' e sz o l c xs:=by
 refine ⟨h.1,?_⟩
 rcases h.2 with hn | ⟨g,cur,rfl,hb,rest⟩
 ·exact .inl hn
 ·exact .inr ⟨g,cur,rfl,hb.mod m (hs g ⟨_,rfl,rfl⟩),rest⟩
theorem Own.mod' {w w':World} {e:TypeId} {sz:Nat} {o:Option Addr} {l c:Nat} {xs:List Value} (h:Own w e sz o l c xs) (m:Mod NoB w w'):Own w' e sz o l c xs:=h.mod m (fun _ _ h=>h)
theorem Own.lt {w:World} {e:TypeId} {sz:Nat} {o:Option Addr} {l c:Nat} {xs:List Value} (h:Own w e sz o l c xs) {k:Nat} (hk:OB o k):k < w.heap.size:=by
 obtain ⟨d,rfl,rfl⟩:=hk
 rcases h.2 with ⟨h,_⟩ | ⟨g,cur,h,hb,rest⟩
 ·cases h
 ·cases h; exact hb.lt
theorem Own.len {w:World} {e:TypeId} {o:Option Addr} {l c:Nat} {xs:List Value} (h:Own w e 1 o l c xs):xs.length=l:=by have:=h.1; omega
theorem Own.cap {w:World} {e:TypeId} {sz:Nat} {o:Option Addr} {l c:Nat} {xs:List Value} (h:Own w e sz o l c xs):l≤c∧c≤maxLen:=by
 rcases h.2 with ⟨_,rfl,rfl⟩ | ⟨g,cur,_,_,h1,h2,_⟩
 ·exact ⟨Nat.le_refl _,Nat.zero_le _⟩
 ·exact ⟨h1,h2⟩
theorem Own.cell {w:World} {e:TypeId} {sz:Nat} {o:Option Addr} {l c:Nat} {xs:List Value} (h:Own w e sz o l c xs) {i:Nat} {v:Value} (hv:xs[i]?=some v) :
  ∃g,o=some ⟨g,0,none⟩∧w.cell? ⟨g,i,none⟩=some v:=by
 rcases h.2 with ⟨_,rfl,_⟩ | ⟨g,cur,ho,hb,_,_,hs,ht⟩
 ·have:=h.1; simp at this; subst this; simp at hv
 ·refine ⟨g,ho,?_⟩
  rw [hb.cell]
  rw [← ht,List.getElem?_take] at hv
  split at hv
  ·simpa using hv
  ·cases hv

theorem Own.bytes {w:World} {e:TypeId} {o:Option Addr} {l c:Nat} {bs:List UInt8} (h:Own w e 1 o l c (bs.map bV)):RdB w o bs:=by
 intro hne
 have hl:0 < bs.length:=by cases bs <;> simp_all
 obtain ⟨g,rfl,_⟩:=h.cell (i:=0) (v:=bV (bs.getD 0 0)) (by rw [List.getElem?_map]; simp [List.getD_eq_getElem?_getD,hl])
 refine ⟨g,0,rfl,?_,fun i hi=>?_⟩
 ·exact h.lt ⟨_,rfl,rfl⟩
 ·obtain ⟨g',hg,hc⟩:=h.cell (i:=i) (v:=bV (bs.getD i 0)) (by rw [List.getElem?_map]; simp [List.getD_eq_getElem?_getD,hi])
  cases hg
  rw [Nat.zero_add]; exact hc

theorem Z5q {P:Program} {w:World} {tx e':TypeId} (hk:P.underlying tx=some (.slice e')) {o:Option Addr} {c:Nat} {bs:List UInt8} (h:RdB w o bs) :
  Src P 1 tx (.slice o bs.length c) bs.length (bs.map bV) w:=by
 by_cases hb:bs=[]
 ·subst hb
  cases o with
  | none=>exact Src.ofNil w hk c
  | some a=>exact Src.ofSlice w hk a 0 c [] (by simp) (by simp) (by simp)
 ·obtain ⟨b,f,rfl,hl,hc⟩:=h hb
  refine Src.ofSlice w hk _ _ c _ (by simp) (fun j u hu=>?_) (by simp; intro a _; rfl)
  rw [Z6]
  rw [List.getElem?_map,Option.map_eq_some_iff] at hu
  obtain ⟨x,hx,rfl⟩:=hu
  obtain ⟨hj,rfl⟩:=List.getElem?_eq_some_iff.1 hx
  rw [hc j hj]
  simp [List.getD_eq_getElem?_getD,hj]
theorem Z5K {P:Program} {w:World} {tx e':TypeId} (hk:P.underlying tx=some (.slice e')) {b:Nat} {t:TypeId} {cs:Array Value} {sz:Nat} (h:Blk w b t cs) (hs:cs.size=sz) (h1:∀v∈cs.toList,v.oneCell'=true) :
  Src P sz tx (.slice (some ⟨b,0,none⟩) 1 1) 1 cs.toList w :=
 Src.ofSlice w hk _ 1 1 _ (by simp [hs]) (fun j u hu=>by rw [Z6,h.cell,Nat.zero_add]; simpa using hu) h1

theorem Z6U (w:World) (g:Nat):∀(vs:List Value) (o:Nat),Mod (·=g) w (w.setCells g o vs)
 | [],_=>Mod.refl w
 | v :: vs,o=>by
   have h1:=Mod.setCell w ⟨g,o,none⟩ v
   suffices ∀w1:World,Mod (·=g) w w1→∀(vs:List Value) (o:Nat),Mod (·=g) w (w1.setCells g o vs) from this _ h1 vs (o+1)
   intro w1 h1 vs
   induction vs generalizing w1 with
   | nil=>intro _; exact h1
   | cons v vs ih=>exact fun o=>ih _ (h1.trans (Mod.setCell _ _ _) (fun _ _ h=>h)) _
theorem Z49 {g:Nat} {t:TypeId}:∀(vs:List Value) (o:Nat) {cs:Array Value} {w:World},Blk w g t cs→Blk (w.setCells g o vs) g t (setsAt cs o vs)
 | [],_,_,_,h=>h
 | v :: vs,o,cs,w,h=>by
   rw [World.setCells,setsAt]
   exact Z49 vs (o+1) (h.set o v)
theorem Zb:∀(vs:List Value) (o:Nat) (cs:Array Value),(setsAt cs o vs).size=cs.size
 | [],_,_=>rfl
 | v :: vs,o,cs=>by rw [setsAt,Zb vs]; simp
theorem Z03:∀(vs:List Value) (o:Nat) (cs:Array Value) (i:Nat),o+vs.length≤cs.size→(setsAt cs o vs)[i]?=if o≤i∧i < o+vs.length then vs[i - o]? else cs[i]?
 | [],o,cs,i,h=>by rw [setsAt,if_neg (by simp)]
 | v :: vs,o,cs,i,h=>by
   rw [List.length_cons] at h
   rw [setsAt,Z03 vs (o+1) _ i (by simp; omega),Array.getElem?_setIfInBounds]
   by_cases h1:i=o
   ·subst h1
    rw [if_neg (by omega),if_pos rfl,if_pos (by omega),if_pos (by simp)]
    simp
   ·by_cases h2:o+1≤i∧i < o+1+vs.length
    ·rw [if_pos h2,if_pos (by simp; omega),show i - o=(i - (o+1))+1 by omega]
     simp
    ·rw [if_neg h2,if_neg (by omega),if_neg (by simp; omega)]

theorem Z3U {P:Program} {w:World} {t tx ty e:TypeId} {i:TypeInfo} {z:Value} {sz:Nat} {o:Option Addr} {l c:Nat} {xs:List Value} {x:Value} {n:Nat} {news:List Value}
  (ht:P.underlying t=some (.slice e)) (hi:P.info? e=some i) (hz:i.zero=some z) (hs:i.size=sz) (hzs:z.cells.size=sz)
  (h:Own w e sz o l c xs) (src:Src P sz tx x n news w) (h63:l+n≤maxLen) (hb:(l+n) * i.bytes≤140737488355328) :
  ∃o' c' w',Sem.run P (builtinV .append #[t,tx] ty #[.slice o l c,x]) w=.ok (.slice o' (l+n) c') w'∧Own w' e sz o' (l+n) c' (xs++news)∧Mod (OB o) w w' ∧
   (∀k,OB o' k→OB o k∨w.heap.size≤k):=by
 have hlen:(xs++news).length=(l+n) * sz:=by rw [List.length_append,h.1,src.newsLen,Nat.add_mul]
 by_cases hroom:l+n≤c
 ·rcases h.2 with ⟨rfl,rfl,rfl⟩ | ⟨g,cur,rfl,hB,hlc,hcm,hcs,htk⟩
  ·obtain rfl:n=0:=by omega
   have hn:news=[]:=List.eq_nil_of_length_eq_zero (by simpa using src.newsLen)
   have hx:xs=[]:=List.eq_nil_of_length_eq_zero (by simpa using h.1)
   subst hn hx
   refine ⟨none,0,w,?_,Own.nil _ _ _,Mod.refl w,fun k hk=>.inl hk⟩
   have hc:=src.cells
   subst hs
   rcases src.kind with ⟨e',hk⟩ | hk <;> simp [builtinV,Builtin.append_,run_underlying ht,run_underlying hk,sizeOf,typeInfo,hi,src.len,hc]
  ·subst hs
   have hfit:l * i.size+news.length≤cur.size:=by rw [src.newsLen,hcs,← Nat.add_mul]; exact Nat.mul_le_mul_right _ hroom
   have hr:=run_append_room_src (P:=P) w t tx ty e i ht hi g 0 l c x n news src hroom
    (fun j hj=>by rw [Nat.zero_add,hB.cell]; simp; omega) (fun j hj=>by simp [World.frozen?,show w.heap[g]?=_ from hB])
   rw [Nat.zero_add] at hr
   refine ⟨_,_,_,hr,⟨hlen,.inr ⟨g,_,rfl,Z49 news _ hB,hroom,hcm,by rw [Zb,hcs],?_⟩⟩,(Z6U w g news _).mono (fun k _ hk=>⟨_,rfl,hk.symm⟩),fun k hk=>.inl hk⟩
   apply List.ext_getElem?
   intro j
   rw [List.getElem?_take]
   have hxl:xs.length=l * i.size:=h.1
   by_cases hj:j < (l+n) * i.size
   ·rw [if_pos hj,Array.getElem?_toList,Z03 _ _ _ _ hfit]
    by_cases hj2:j < l * i.size
    ·rw [if_neg (by omega),List.getElem?_append_left (by omega),← htk,List.getElem?_take,if_pos hj2,Array.getElem?_toList]
    ·rw [if_pos (by rw [src.newsLen,← Nat.add_mul]; omega),List.getElem?_append_right (by omega),hxl]
   ·rw [if_neg hj,List.getElem?_eq_none (by omega)]
 ·have hold:(Builtin.firstCells i.size l (.slice o l c)).run P w.drew=.ok xs.toArray w.drew:=by
    subst hs
    rcases h.2 with ⟨rfl,rfl,rfl⟩ | ⟨g,cur,rfl,hB,hlc,hcm,hcs,htk⟩
    ·have hx:xs=[]:=List.eq_nil_of_length_eq_zero (by simpa using h.1)
     subst hx
     exact run_firstCells_none w.drew i.size 0 0 0
    ·exact run_firstCells_some w.drew i.size l _ l c xs h.1 (fun j v hv=>by
      rw [Z6,Nat.zero_add]
      obtain ⟨g',hg',hc'⟩:=h.cell hv
      cases hg'
      exact hc')
  have hr:=run_append_grow_src (P:=P) w t tx ty e i z ht hi hz o l c xs hold x n news (hs ▸ src) (by omega) (by simp only [maxLen] at h63; omega) (growslice_fits (by omega) hb)
  have hge:=grownCap_ge w (l+n) c e
  have hcm:grownCap w (l+n) c e≤maxLen:=grownCap_le_maxLen w (l+n) c e h63
  refine ⟨_,_,_,hr,⟨hlen,.inr ⟨_,_,rfl,Blk.new w.drew e _,hge,hcm,?_,?_⟩⟩,((Mod.drew w).step_alloc _),fun k hk=>.inr ?_⟩
  ·rw [Array.size_append,List.size_toArray,hlen,size_zeroCells,hzs,← Nat.add_mul]
   congr 1; omega
  ·rw [Array.toList_append]
   show List.take _ ((xs++news)++_)=_
   rw [← hlen]
   exact List.take_left
  ·obtain ⟨d,hd,rfl⟩:=hk
   cases hd
   exact Nat.le_refl _

theorem Z4b {P:Program} {w:World} {t tx ty e:TypeId} {g o dLen dCap c n:Nat} {cur:Array Value} {te:TypeId} {o2:Option Addr} {bs:List UInt8}
  (ht:P.underlying t=some (.slice e)) (hi:(P.info? e).map (·.size)=some 1) (h:Blk w g te cur) (hr:RdB w o2 bs) (hn:n=Nat.min bs.length dLen) (hfit:o+n≤cur.size) :
  ∃w',Sem.run P (builtinV .copy #[t,tx] ty #[.slice (some ⟨g,o,none⟩) dLen dCap,.slice o2 bs.length c]) w=.ok (.int .i64 (n:Int)) w'∧Blk w' g te (setsAt cur o ((bs.take n).map bV))∧Mod (·=g) w w':=by
 obtain ⟨i,hi1,hi2⟩:=Option.map_eq_some_iff.1 hi
 have hlen:((bs.take n).map bV).length=n:=by
  rw [List.length_map,List.length_take]
  have:n≤bs.length:=by rw [hn]; exact Nat.min_le_left _ _
  omega
 have hone:∀v∈(bs.take n).map bV,v.oneCell'=true:=by
  intro v hv; obtain ⟨x,_,rfl⟩:=List.mem_map.1 hv; rfl
 have hcells:(Builtin.firstCells 1 n (.slice o2 bs.length c)).run P w=.ok ((bs.take n).map bV).toArray w:=by
  have h1:=hr.take n
  by_cases hb:bs.take n=[]
  ·have h0:n=0:=by rw [← hlen,hb]; rfl
   rw [hb,h0]
   cases o2 with
   | none=>exact run_firstCells_none w 1 0 _ _
   | some a=>exact run_firstCells_some w 1 0 a _ _ [] (by simp) (by simp)
  ·obtain ⟨b,f,rfl,hl,hc⟩:=h1 hb
   refine run_firstCells_some w 1 n _ _ _ _ (by rw [hlen]; omega) (fun j u hu=>?_)
   rw [Z6]
   rw [List.getElem?_map,Option.map_eq_some_iff] at hu
   obtain ⟨x,hx,rfl⟩:=hu
   obtain ⟨hj,rfl⟩:=List.getElem?_eq_some_iff.1 hx
   rw [hc j hj]
   simp only [List.getD_eq_getElem?_getD,hx,Option.getD_some]
 have hst:=run_storeCells_cells (P:=P) g o ((bs.take n).map bV) 0 w
  (fun j hj=>by rw [h.cell]; simp; omega) (fun j hj=>by simp [World.frozen?,show w.heap[g]?=_ from h]) hone
 simp only [Nat.add_zero] at hst
 refine ⟨w.setCells g o ((bs.take n).map bV),?_,Z49 _ _ h,Z6U _ _ _ _⟩
 have hm:(Builtin.firstCells 1 (Nat.min bs.length dLen) (.slice o2 bs.length c)).run P w=.ok ((bs.take n).map bV).toArray w:=hn ▸ hcells
 clear hcells hone hr
 subst hn
 generalize (bs.take (Nat.min bs.length dLen)).map bV=L at *
 simp only [Builtin.copy_,builtinV]
 simp [run_underlying ht,Builtin.lenOf,sizeOf,typeInfo,hi1,hi2,hm,hst,goInt]

theorem ZDo {P:Program} {w:World} {t tx ty e:TypeId} {o:Option Addr} {l c lo:Nat} {bs:List UInt8}
  (ht:P.underlying t=some (.slice e)) (hi:(P.info? e).map (·.size)=some 1) (h:Own w e 1 o l c (bs.map bV)) (hlo:lo≤l) :
  ∃w',Sem.run P (builtinV .copy #[t,tx] ty #[.slice o l c,.slice (subO o c lo 1) (l - lo) (c - lo)]) w=.ok (.int .i64 ((l - lo:Nat):Int)) w'∧Own w' e 1 o (l - lo) c ((bs.drop lo).map bV)∧Mod (OB o) w w':=by
 have hl:bs.length=l:=by have:=h.len; simpa using this
 have hr:=h.bytes
 have hr':RdB w (subO o c lo 1) (bs.drop lo):=by
  have:=hr.sub (c:=c) (lo:=lo) (n:=bs.length) (by rw [hl]; exact h.cap.1)
  rwa [List.take_of_length_le (by simp)] at this
 rcases h.2 with ⟨rfl,rfl,rfl⟩ | ⟨g,cur,rfl,hB,hlc,hcm,hcs,htk⟩
 ·obtain rfl:lo=0:=by omega
  have:bs=[]:=List.eq_nil_of_length_eq_zero hl
  subst this
  refine ⟨w,?_,Own.nil _ _ _,Mod.refl w⟩
  obtain ⟨i,hi1,hi2⟩:=Option.map_eq_some_iff.1 hi
  simp [builtinV,Builtin.copy_,run_underlying ht,Builtin.lenOf,sizeOf,typeInfo,hi1,Builtin.firstCells,subO,goInt]
 ·obtain ⟨w',h1,h2,h3⟩:=Z4b (P:=P) (ty:=ty) (tx:=tx) (dLen:=l) (dCap:=c) (n:=l - lo) (o:=0) (c:=c - lo) ht hi hB hr' (by rw [List.length_drop,hl]; exact (Nat.min_eq_left (by omega)).symm) (by omega)
  rw [List.length_drop,hl] at h1
  have hdl:(bs.drop lo).length=l - lo:=by rw [List.length_drop,hl]
  rw [List.take_of_length_le (by omega)] at h2
  have hml:((bs.drop lo).map bV).length=l - lo:=by rw [List.length_map,hdl]
  refine ⟨w',h1,⟨by rw [hml,Nat.mul_one],.inr ⟨g,_,rfl,h2,by omega,hcm,by rw [Zb,hcs],?_⟩⟩,h3.mono (fun k _ hk=>⟨_,rfl,hk.symm⟩)⟩
  apply List.ext_getElem?
  intro j
  rw [List.getElem?_take,Nat.mul_one]
  by_cases hj:j < l - lo
  ·rw [if_pos hj,Array.getElem?_toList,Z03 _ _ _ _ (by omega),if_pos (by omega),Nat.sub_zero]
  ·rw [if_neg hj,List.getElem?_eq_none (by omega)]

theorem Z6h (n o:Nat) (f g:Nat→Value) (m:Nat) (vs:List Value) (hm:vs.length=m) (hg:∀i,i < m→vs[i]?=some (g i)) (h:o+m≤n) :
  setsAt (ZS n f) o vs=ZS n (fun i=>if o≤i∧i < o+m then g (i - o) else f i):=by
 subst hm
 refine Z96 (by rw [Zb,Z06]) (fun i hi=>?_)
 rw [Z03 _ _ _ _ (by simpa using h)]
 by_cases h1:o≤i∧i < o+vs.length
 ·rw [if_pos h1,if_pos h1,hg _ (by omega)]
 ·rw [if_neg h1,if_neg h1,ZF hi]
theorem Z6C {bs:List UInt8} {i:Nat} (h:i < bs.length):(bs.map bV)[i]?=some (bV (bs.getD i 0)):=by
 rw [List.getElem?_map,List.getElem?_eq_getElem h]
 simp [List.getD_eq_getElem?_getD,h]

def ZFt (w:World) (o:Option Addr) (ls:List (List UInt8)):Prop :=
 ∀i,i < ls.length→∃b f oi ci,o=some ⟨b,f,none⟩∧b < w.heap.size∧w.cell? ⟨b,f+i,none⟩=some (.slice oi (ls.getD i []).length ci)∧RdB w oi (ls.getD i [])
theorem ZFt.mod' {w w':World} {o:Option Addr} {ls:List (List UInt8)} (h:ZFt w o ls) (m:Mod NoB w w'):ZFt w' o ls:=by
 intro i hi
 obtain ⟨b,f,oi,ci,rfl,hl,hc,hr⟩:=h i hi
 exact ⟨b,f,oi,ci,rfl,Nat.lt_of_lt_of_le hl m.size,(World.cell?_of_block (m.block b hl (fun h=>h))).trans hc,hr.mod' m⟩
theorem ZFt.one {w:World} {b:Nat} {t:TypeId} {o:Option Addr} {c:Nat} {bs:List UInt8} (h:Blk w b t #[.slice o bs.length c]) (hr:RdB w o bs):ZFt w (some ⟨b,0,none⟩) [bs]:=by
 intro i hi
 obtain rfl:i=0:=by simpa using hi
 exact ⟨b,0,o,c,rfl,h.lt,by rw [h.cell]; rfl,hr⟩
theorem Z69 (ls:List (List UInt8)) (i:Nat) (h:i < ls.length):(ls.take (i+1)).flatten=(ls.take i).flatten++ls.getD i []:=by
 rw [List.take_add_one,List.flatten_append,List.getElem?_eq_getElem h]
 simp [List.getD_eq_getElem?_getD,h]

end Go.Vcg
end
section
namespace Go.Proofs.YtfghidehlnfdiaaGreat
open Go Go.Vcg

theorem Z85 {R:Ending→World→Prop} {w:World} {o:Option Addr} {l c:Nat} (bs:List UInt8) (hl:l=bs.length) (h8:bs.length≤8) (hr:RdB w o bs)
  (h:R (.returned (uV (ZCO bs))) w):Calls Tryz.prog Z10.n #[.slice o l c] w R:=by
 subst hl
 refine Z10.vc _ _ _ _ _ ?_
 unfold Z10.Vc
 refine ⟨fun n2 n3 w'=>∃i:Nat,n3=i∧i≤bs.length∧n2=uI (leK bs i)∧w'=w,fun _ n _=>((bs.length:Int) - n).toNat,⟨0,rfl,by omega,rfl,rfl⟩,?_⟩
 rintro _ _ _ _ ⟨i,rfl,hi,rfl,rfl⟩
 refine ⟨fun hlt=>?_,fun hge=>?_⟩
 ·obtain ⟨d,rfl,hd⟩:=hr.get (i:=i) (by omega)
  refine ⟨d,rfl,by omega,_,hd,?_⟩
  have e1:IntKind.wrap .i64 (8 * (i:Int))=((8 * i:Nat):Int):=by rw [Z0 (by omega) (by omega)]; omega
  have e2:IntKind.wrap .u64 ((bs.getD i 0).toNat:Int)=uI (Z62 (bs.getD i 0)):=by rw [← ZCo,Z7x]
  rw [e1,e2,Z8p,Z5O]
  exact ⟨by omega,⟨i+1,by rw [Z0 (by omega) (by omega)]; omega,by omega,rfl,rfl⟩,by rw [Z0 (by omega) (by omega)]; dsimp only; omega⟩
 ·obtain rfl:i=bs.length:=by omega
  exact h

theorem Z48 {w:World} (s:St) (b o:Nat) (hp:Z4q w b o) {o2:Option Addr} {l2 c2:Nat} (blk:List UInt8) (hl:blk.length=136) (hl2:l2=136) (hc:136≤c2) (hr:RdB w o2 blk) :
  Calls Tryz.prog Zv.n #[.agg (lanesA s),.pointer (some ⟨b,o,none⟩),.slice o2 l2 c2] w
   (fun e w'=>e=.returned (.agg (lanesA (Z7A s blk)))∧Vcg.Mod NoB w w'):=by
 subst hl2
 refine Zv.vc _ _ _ _ _ _ _ ?_
 unfold Zv.Vc
 rintro d3 w4 ⟨rfl,rfl⟩ d5 w6 ⟨rfl,rfl⟩
 have B2:=(Blk.new w 173 (lanesA s)).alloc (.cells (Array.replicate 25 (.int .u64 0)) 173)
 have B4:=Blk.new (w.alloc (.cells (lanesA s) 173)) 173 (Array.replicate 25 (.int .u64 0))
 have M:=(Mod.alloc (S:=NoB) w (.cells (lanesA s) 173)).step_alloc (.cells (Array.replicate 25 (.int .u64 0)) 173)
 simp only [ZD] at B4 ⊢
 generalize (w.alloc (.cells (lanesA s) 173)).alloc (.cells (Array.replicate 25 (.int .u64 0)) 173)=w5 at *
 generalize hNe:w.heap.size=N at *
 refine Z4L 17 (fun n w'=>Vcg.Mod NoB w w'∧Blk w' N 173 (ZS 25 (fun i=>uV (if i < n then Z22 s blk i else s i)))∧Blk w' (N+1) 173 (Array.replicate 25 (.int .u64 0))) rfl
  ⟨M,by simp only [Nat.not_lt_zero,if_false]; exact B2,B4⟩ ?_ ?_
 ·clear M B2 B4
  rintro n _ w6 hn ⟨M,B2,B4⟩
  rintro _ rfl
  have e1:IntKind.wrap .i64 (8 * (n:Int))=((8 * n:Nat):Int):=by rw [Z0 (by omega) (by omega)]; omega
  have e2:IntKind.wrap .i64 (((8 * n:Nat):Int)+8)=((8 * n+8:Nat):Int):=by rw [Z0 (by omega) (by omega)]; omega
  rw [e1,e2]
  clear e1 e2
  refine ⟨by omega,_,B2.drew.rd0 (ZF (by omega)),by omega,by omega,?_⟩
  rw [Int.toNat_natCast,Int.toNat_natCast]
  have hr':=((hr.mod' (M.step_drew)).sub (c:=c2) (lo:=8 * n) (n:=8) (by omega))
  have hlen:((blk.drop (8 * n)).take 8).length=8:=by rw [List.length_take,List.length_drop]; omega
  refine Z85 ((blk.drop (8 * n)).take 8) (by rw [hlen]; omega) (by omega) hr' ⟨_,rfl,B2.drew.rd0 (ZF (by omega)),by omega,B2.drew.canSet0 (by simp; omega) rfl,fun w7 h7=>?_⟩
  rw [h7.at,Z0h]
  simp only [Nat.lt_irrefl,if_false]
  refine Z7z.next (by rw [Z0 (by omega) (by omega)]; omega) hn ⟨(M.step_drew).step_set (fun h=>by simp only [hNe] at h; omega),?_,B4.drew.set_ne (by simp)⟩
  have:=B2.drew.set n (uV (Z22 s blk n))
  rw [Z0V] at this
  have e3:s n ^^^ ZCO ((blk.drop (8 * n)).take 8)=Z22 s blk n:=by rw [Z22,if_pos hn]
  rw [e3]
  refine (ZG (fun j hj=>?_)) ▸ this
  grind
 ·clear M B2 B4
  rintro _ w6 ⟨M,B2,B4⟩
  have e:(ZS 25 fun i=>uV (if i < 17 then Z22 s blk i else s i))=lanesA (Z22 s blk):=ZG (fun i hi=>by
   by_cases h:i < 17
   ·rw [if_pos h]
   ·rw [if_neg h,Z22,if_neg h])
  rw [e] at B2
  refine ⟨_,B2.rowAll (ZL _),(Z8B _ b o (hp.mod M (fun h=>h))).mono ?_⟩
  rintro _ w7 ⟨rfl,M7⟩
  exact ⟨_,rfl,_,(B4.mod' M7).storeAll (L:=lanesA (Z6B (Z22 s blk))) (by rw [ZL]; kernel_rfl) (by rw [ZL,Array.size_replicate]) (Z1d _),_,
   ((B4.mod' M7).row_same _).rowAll (ZL _),rfl,(M.none_trans M7).step_row (fun h=>by omega)⟩

end Go.Proofs.YtfghidehlnfdiaaGreat
end
section
namespace Go.Proofs.YtfghidehlnfdiaaGreat
open Go
abbrev tU8:TypeId:=5
abbrev Z07:TypeId:=23
abbrev Z41:TypeId:=175
abbrev Z7s:TypeId:=173
abbrev tHash:TypeId:=27
abbrev tLast:TypeId:=178
abbrev tLanes:TypeId:=149
theorem Zt:Tryz.prog.underlying Z07=some (.slice tU8):=by kernel_rfl
theorem Z6A:(Tryz.prog.info? tU8).map (fun i=>(i.zero,i.size,i.bytes))=some (some (.int .u8 0),1,1):=by kernel_rfl
theorem Z16:(Tryz.prog.info? tU8).map (·.size)=some 1:=by kernel_rfl
end Go.Proofs.YtfghidehlnfdiaaGreat
end
section
namespace Go.Proofs.YtfghidehlnfdiaaGreat
open Go Go.Vcg

theorem Z9m {w:World} {o:Option Addr} {l c:Nat} {xs:List Value} {x:Value} {tx ty:TypeId} {n:Nat} {news:List Value} (h:Own w tU8 1 o l c xs) (src:Src Tryz.prog 1 tx x n news w) (hb:l+n≤140737488355328) :
  ∃o' c' w',Sem.run Tryz.prog (builtinV .append #[Z07,tx] ty #[.slice o l c,x]) w=.ok (.slice o' (l+n) c') w'∧Own w' tU8 1 o' (l+n) c' (xs++news)∧Vcg.Mod (OB o) w w'∧(∀k,OB o' k→OB o k∨w.heap.size≤k):=by
 obtain ⟨i,hi,h1⟩:=Option.map_eq_some_iff.1 Z6A
 simp only [Prod.mk.injEq] at h1
 exact Z3U Zt hi h1.1 h1.2.1 rfl h src (by simp only [maxLen]; omega) (by rw [h1.2.2]; omega)

def Z4X (s:St) (o:Option Addr) (l c:Nat) (i:Nat):Value :=
 if i < 24 then uV (ZDQ i) else if i < 49 then .int .i64 (turnOf (i - 24):Int) else if i < 74 then uV (s (i - 49)) else .slice o l c
def Z0u (s:St) (o:Option Addr) (l c:Nat):Array Value:=ZS 75 (Z4X s o l c)

def Z5N (w:World) (b:Nat) (o:Option Addr) (m:List UInt8):Prop :=
 ∃l c,Blk w b Z41 (Z0u (ZDR m) o l c)∧Own w tU8 1 o l c ((restOf m).map bV)∧¬OB o b
def SpB (b:Nat) (o:Option Addr):Nat→Prop:=fun k=>k=b∨OB o k


theorem Z3Q {w:World} {b:Nat} {s:St} {o:Option Addr} {l c:Nat} (h:Blk w b Z41 (Z0u s o l c)):Z4q w b 0 :=
 Z4q.of_blk h (fun i hi=>by
  rw [Nat.zero_add,Z0u,Z9J,ZF (by omega),ZF hi,Z4X]
  by_cases h1:i < 24
  ·rw [if_pos h1,if_pos h1]
  ·rw [if_neg h1,if_neg h1,if_pos hi])
theorem Z30 {w:World} {b:Nat} {s:St} {o:Option Addr} {l c:Nat} (h:Blk w b Z41 (Z0u s o l c)):ZJ w ⟨b,49,none⟩ 25 (lanesA s) :=
 h.rowAt (ZL s) (fun i hi=>by
  rw [Z0u,ZF (by omega),ZY s hi,Z4X,if_neg (by omega),if_neg (by omega),if_pos (by omega),Nat.add_sub_cancel_left])
theorem Z0j {w:World} {b:Nat} {s:St} {o:Option Addr} {l c:Nat} (h:Blk w b Z41 (Z0u s o l c)):w.cell? ⟨b,74,none⟩=some (.slice o l c) :=
 h.rd1 (by rw [Z0u,ZF (by omega)]; rfl)
theorem ZCi {w:World} {b:Nat} {s:St} {o o':Option Addr} {l c l' c':Nat} (h:Blk w b Z41 (Z0u s o l c)):Blk (w.setCell ⟨b,74,none⟩ (.slice o' l' c')) b Z41 (Z0u s o' l' c'):=by
 have:=h.set 74 (.slice o' l' c')
 rw [Z0u,Z0V] at this
 refine (show _=Z0u s o' l' c' from ZG (fun j hj=>?_)) ▸ this
 unfold Z4X
 by_cases h0:j=74
 ·subst h0; rfl
 ·rw [if_neg h0]
  by_cases h1:j < 24
  ·rw [if_pos h1,if_pos h1]
  ·rw [if_neg h1,if_neg h1]
   by_cases h2:j < 49
   ·rw [if_pos h2,if_pos h2]
   ·rw [if_neg h2,if_neg h2,if_pos (by omega),if_pos (by omega)]

theorem ZBm {w:World} {b:Nat} {s s':St} {o:Option Addr} {l c:Nat} (h:Blk w b Z41 (Z0u s o l c)) :
  ∃w',Sem.run Tryz.prog (Instr.storeAt Z7s (.pointer (some ⟨b,49,none⟩)) (.agg (lanesA s'))) w=.ok () w'∧Blk w' b Z41 (Z0u s' o l c)∧Vcg.Mod (·=b) w w':=by
 have hi:(Tryz.prog.info? Z7s).map (·.size)=some 25:=by kernel_rfl
 obtain ⟨i,hi1,hi2⟩:=Option.map_eq_some_iff.1 hi
 have hs:=h.storeAt (L:=lanesA s') (o:=49) hi1 (by rw [ZL]; exact hi2) (by rw [ZL,Z0u,Z06]; decide) (Z1d _)
 have e2:ZS 75 (fun i=>if i < 49 then Z4X s o l c i else if i < 49+25 then uV (s' (i - 49)) else Z4X s o l c i)=Z0u s' o l c :=
  ZG (fun i hi=>by
   unfold Z4X
   by_cases h1:i < 24
   ·rw [if_pos h1,if_pos (by omega),if_pos h1]
   ·rw [if_neg h1,if_neg h1]
    by_cases h2:i < 49
    ·rw [if_pos h2,if_pos h2,if_pos h2]
    ·rw [if_neg h2,if_neg h2,if_neg h2]
     by_cases h3:i < 74
     ·rw [if_pos (by omega),if_pos h3]
     ·rw [if_neg (by omega),if_neg h3,if_neg h3])
 have hA:(List.take 49 (Z0u s o l c).toList++(lanesA s').toList++List.drop (49+(lanesA s').size) (Z0u s o l c).toList).toArray=Z0u s' o l c:=by
  rw [ZL,← e2]
  exact ZAh 75 49 25 (Z4X s o l c) (fun i=>uV (s' i)) (by decide)
 rw [hA] at hs
 exact ⟨_,hs,h.row_same _,Mod.setRow w b _⟩

theorem ZDZ (w:World):Calls Tryz.prog Z2H.n #[] w (fun e w'=>∃b,e=.returned (.pointer (some ⟨b,0,none⟩))∧Z5N w' b none []∧Vcg.Mod NoB w w'∧w.heap.size≤b):=by
 refine Z2H.vc _ _ ?_
 unfold Z2H.Vc
 refine (Z9K _).mono ?_
 rintro _ w1 ⟨rfl,M1⟩
 refine ⟨_,rfl,Z4j,?_⟩
 rintro d3 w4 ⟨rfl,rfl⟩
 refine ⟨_,rfl,⟨0,0,?_,Own.nil _ _ _,Z47 _⟩,M1.step_alloc _,M1.size⟩
 exact (show _=Z0u (ZDR []) none 0 0 from by kernel_rfl) ▸ Blk.new w1 _ _

end Go.Proofs.YtfghidehlnfdiaaGreat
end
section
namespace Go.Proofs.YtfghidehlnfdiaaGreat
open Go Go.Vcg

theorem ZB2 {w:World} {b:Nat} {o o1:Option Addr} {l1 c1:Nat} {m bs:List UInt8} (hS:Z5N w b o m) (hr:RdB w o1 bs) (hl:l1=bs.length) (hmax:bs.length≤2 ^ 40) :
  Calls Tryz.prog Zu.n #[.pointer (some ⟨b,0,none⟩),.slice o1 l1 c1] w
   (fun e w'=>e=.returned (.tuple #[])∧∃o',Z5N w' b o' (m++bs)∧Vcg.Mod (SpB b o) w w'∧∀k,OB o' k→OB o k∨w.heap.size≤k):=by
 subst hl
 obtain ⟨l,c,hB,hO,hn⟩:=hS
 refine Zu.vc _ _ _ _ _ _ ?_
 unfold Zu.Vc
 simp only [Z6,Nat.zero_add]
 have hrl:(restOf m).length=l:=by have:=hO.len; simpa using this
 have hlt:=ZAc m
 obtain ⟨o',c',w1,h1,hO1,M1,hF1⟩:=Z9m (ty:=Z07) hO (Z5q (c:=c1) Zt hr) (by omega)
 have hnb:¬OB o' b:=fun h=>(hF1 b h).elim hn (fun h=>by have:=hB.lt; omega)
 rw [← List.map_append] at hO1
 have hB1:=hB.mod M1 hn
 refine ⟨_,_,_,Z0j hB,_,w1,h1,_,_,_,rfl,hB1.canSet (by rw [Z0u,Z06]; decide) rfl,?_⟩
 rintro _ rfl
 have hB2:=ZCi (o':=o') (l':=l+bs.length) (c':=c') hB1
 have hO2:=hO1.mod (Mod.setCell w1 ⟨b,74,none⟩ (.slice o' (l+bs.length) c')) (fun k hk (hkb:k=b)=>hnb (hkb ▸ hk))
 have M2:Vcg.Mod (SpB b o) w (w1.setCell ⟨b,74,none⟩ (.slice o' (l+bs.length) c')):=(M1.mono (T:=SpB b o) (fun k _ h=>.inr h)).step_set (fun _=>.inl rfl)
 generalize w1.setCell ⟨b,74,none⟩ (.slice o' (l+bs.length) c')=w2 at *
 generalize hall:restOf m++bs=all at *
 have hlen:l+bs.length=all.length:=by rw [← hall,List.length_append,hrl]
 rw [hlen] at hB2 hO2
 have hmax':all.length < 2 ^ 41:=by omega
 refine ⟨fun n w'=>∃k:Nat,n=((136 * k:Nat):Int)∧136 * k≤all.length∧Vcg.Mod (SpB b o) w w'∧Blk w' b Z41 (Z0u (ZAs (ZDR m) all k) o' all.length c')∧Own w' tU8 1 o' all.length c' (all.map bV),
  fun n _=>((all.length:Int) - n).toNat,⟨0,rfl,by omega,M2,hB2,hO2⟩,?_⟩
 rintro _ _ w3 ⟨k,rfl,hk,M3,hB3,hO3⟩
 refine ⟨_,_,_,Z0j hB3,?_⟩
 have ew:IntKind.wrap .i64 (((all.length:Nat):Int) - ((136 * k:Nat):Int))=((all.length - 136 * k:Nat):Int):=by rw [Z0 (by omega) (by omega)]; omega
 rw [ew]
 refine ⟨fun hge=>?_,fun hlt'=>?_⟩
 ·rintro _ rfl
  have e2:IntKind.wrap .i64 (((136 * k:Nat):Int)+136)=((136 * k+136:Nat):Int):=by rw [Z0 (by omega) (by omega)]; omega
  rw [e2,Int.toNat_natCast,Int.toNat_natCast]
  have hcap:=hO3.cap
  refine ⟨_,Z30 hB3.drew,_,_,_,Z0j hB3.drew,by omega,by omega,?_⟩
  refine (Z48 _ b 0 (Z3Q hB3.drew) ((all.drop (136 * k)).take 136) (by rw [List.length_take,List.length_drop]; omega) (by omega) (by omega) (((hO3.mod' (Mod.drew w3)).bytes).sub (by omega))).mono ?_
  rintro _ w4 ⟨rfl,M4⟩
  obtain ⟨w5,h5,hB5,M5⟩:=ZBm (s':=Z7A (ZAs (ZDR m) all k) ((all.drop (136 * k)).take 136)) (hB3.drew.mod' M4)
  refine ⟨_,rfl,w5,h5,⟨k+1,by omega,by omega,((M3.step_drew).none_trans M4).trans M5 (fun i _ hi=>.inl hi),hB5,((hO3.mod' (Mod.drew w3)).mod' M4).mod M5 (fun i hi (hib:i=b)=>hnb (hib ▸ hi))⟩,by dsimp only; omega⟩
 ·rintro _ rfl
  have hcap:=hO3.cap
  have hkq:k=all.length / 136:=by omega
  rw [Int.toNat_natCast]
  obtain ⟨w4,h4,hO4,M4⟩:=ZDo (P:=Tryz.prog) (t:=Z07) (tx:=Z07) (ty:=3) (lo:=136 * k) Zt Z16 (hO3.mod' (Mod.drew w3)) hk
  have hB4:=hB3.drew.mod M4 hnb
  refine ⟨_,_,_,Z0j hB3.drew,_,_,_,Z0j hB3.drew,_,_,_,Z0j hB3.drew,by omega,_,w4,h4,_,rfl,Z0j hB4,by omega,hB4.canSet (by rw [Z0u,Z06]; decide) rfl,?_⟩
  rintro _ rfl
  rw [Int.toNat_natCast]
  have hB5:=ZCi (o':=o') (l':=all.length - 136 * k) (c':=c') hB4
  have M5:=Mod.setCell w4 ⟨b,74,none⟩ (.slice o' (all.length - 136 * k) c')
  refine ⟨trivial,o',⟨all.length - 136 * k,c',?_,?_,hnb⟩,?_,hF1⟩
  ·rw [ZBl,hall,← hkq]; exact hB5
  ·rw [Z9M,hall,← hkq]; exact hO4.mod M5 (fun i hi (hib:i=b)=>hnb (hib ▸ hi))
  ·exact (((M3.step_drew).trans M4 (fun i hi h=>(hF1 i h).elim (fun h=>.inr h) (fun h=>by omega)))).step_set (fun _=>.inl rfl)

end Go.Proofs.YtfghidehlnfdiaaGreat
end
section
namespace Go.Proofs.YtfghidehlnfdiaaGreat
open Go Go.Vcg

theorem Z9e {w:World} {o:Option Addr} {l c:Nat} {bs:List UInt8} {n1 n2:Int} (x:BitVec 64) (k:Nat) (h1:n1=uI x) (h2:n2=(k:Int)) (hk:k≤8) (hO:Own w tU8 1 o l c (bs.map bV)) (hl:l≤2 ^ 40) :
  Calls Tryz.prog Z17.n #[.slice o l c,.int .u64 n1,.int .i64 n2] w (fun e w'=>∃o' c',e=.returned (.slice o' (l+k) c')∧Own w' tU8 1 o' (l+k) c' ((bs++leL x k).map bV)∧Vcg.Mod (OB o) w w'∧∀i,OB o' i→OB o i∨w.heap.size≤i):=by
 subst h1 h2
 refine Z17.vc _ _ _ _ _ _ _ ?_
 unfold Z17.Vc
 refine ⟨fun o' l' c' n w'=>∃i:Nat,n=i∧i≤k∧l'=l+i∧Own w' tU8 1 o' l' c' ((bs++leL x i).map bV)∧Vcg.Mod (OB o) w w'∧∀i,OB o' i→OB o i∨w.heap.size≤i,
  fun _ _ _ n _=>((k:Int) - n).toNat,⟨0,rfl,by omega,rfl,by simpa [leL] using hO,Mod.refl w,fun i h=>.inl h⟩,?_⟩
 rintro o' _ c' _ _ w1 ⟨i,rfl,hi,rfl,hO1,M1,hF⟩
 refine ⟨fun hlt=>?_,fun hge=>?_⟩
 ·have e1:IntKind.wrap .i64 (8 * (i:Int))=((8 * i:Nat):Int):=by rw [Z0 (by omega) (by omega)]; omega
  rw [e1,ZCj _ _ _ rfl,Z6k]
  refine ⟨by omega,?_⟩
  rintro d7 w8 ⟨rfl,rfl⟩
  have hB:=Blk.new w1 tU8 #[bV (Z8Y x i)]
  have hO2:=hO1.mod' (Mod.alloc w1 (.cells #[bV (Z8Y x i)] tU8))
  have hsrc:=Z5K (P:=Tryz.prog) (tx:=Z07) Zt hB (sz:=1) rfl (by intro v hv; simp at hv; subst hv; rfl)
  obtain ⟨o2,c2,w2,h2,hO3,M2,hF2⟩:=Z9m (ty:=Z07) hO2 hsrc (by omega)
  refine ⟨_,w2,h2,_,_,_,rfl,⟨i+1,by rw [Z0 (by omega) (by omega)]; omega,by omega,rfl,?_,?_,?_⟩,by dsimp only; rw [Z0 (by omega) (by omega)]; omega⟩
  ·rw [ZFN,← List.append_assoc,List.map_append]
   exact hO3
  ·exact (M1.step_alloc _).trans M2 (fun j hj h=>(hF j h).elim id (fun h=>by omega))
  ·intro j hj
   rcases hF2 j hj with h | h
   ·exact hF j h
   ·right; rw [ZD] at h; have:=M1.size; omega
 ·obtain rfl:i=k:=by omega
  exact ⟨o',c',rfl,hO1,M1,hF⟩

theorem or_u8 (a:UInt8):bitsI .or .u8 (a.toNat:Int) 128=((a ||| 128:UInt8).toNat:Int):=Z51 a 128
theorem Z2c (h:List UInt8):∀v∈(hashA h).toList,v.oneCell'=true:=Z2u (fun _=>rfl)
theorem ZB (h:List UInt8):(hashA h).size=32:=Z06 _ _

theorem ZCY {w w1:World} {s:St} {Q N:Nat} {R:Ending→World→Prop} (M:Vcg.Mod NoB w w1) (hN:w.heap.size=N)
  (B0:Blk w1 N tHash (Array.replicate 32 (.int .u8 0))) (BQ:Blk w1 Q Z7s (lanesA s)) (hQ:N < Q)
  (hR:∀w',Vcg.Mod NoB w w'→R (.returned (.agg (ZS 32 (fun i=>bV (Z3s s i))))) w') :
  ∀(d23:Addr) (w24:World),ZC w1 tHash (Array.replicate 32 (.int .u8 0)) d23 w24 →
   ∃(I25:Int→World→Prop) (μ25:Int→World→Nat),I25 0 w24 ∧
   (∀(n26:Int) (j27:Nat→Value) (w27:World),I25 n26 w27 →
     (((n26 < 4 →
       ∀w28:World,ZN w27 w28 →
       (0≤(IntKind.wrap .i64 (8 * n26))∧(IntKind.wrap .i64 (8 * n26))≤((32:Nat):Int)) ∧
       (0≤n26∧n26 < ((25:Nat):Int)) ∧
       ∃n29:Int,World.cell? w28 (Addr.add ⟨Q,0,none⟩ (Int.toNat n26))=some (.int .u64 n29) ∧
       Calls Tryz.prog Z17.n #[(.slice none 0 0),(.int .u64 n29),(.int .i64 8)] w28 (fun e30 w31 =>
        ∃o32:Option Addr,∃l33:Nat,∃l34:Nat,e30=.returned (.slice o32 l33 l34) ∧
        ∃(v35:Value) (w36:World),Sem.run Tryz.prog (builtinV .copy #[Z07,Z07] 3 #[(.slice (some (subD d23 32 (Int.toNat (IntKind.wrap .i64 (8 * n26))) 1)) (32 - (Int.toNat (IntKind.wrap .i64 (8 * n26)))) (32 - (Int.toNat (IntKind.wrap .i64 (8 * n26))))),(.slice o32 l33 l34)]) w31=.ok v35 w36 ∧
        ∃n37:Int,v35=(.int .i64 n37) ∧
        I25 (IntKind.wrap .i64 (n26+1)) w36∧μ25 (IntKind.wrap .i64 (n26+1)) w36 < μ25 n26 w27))) ∧
      ((¬n26 < 4 →
       ∃L38:Array Value,ZJ w27 d23 32 L38 ∧
       ∃w39:World,Sem.run Tryz.prog (Instr.storeAt tHash (.pointer (some ⟨N,0,none⟩)) (.agg L38)) w27=.ok () w39 ∧
       ∃L40:Array Value,ZJ w39 ⟨N,0,none⟩ 32 L40 ∧
       R (.returned (.agg L40)) w39)))):=by
 rintro d23 w24 ⟨rfl,rfl⟩
 have hQl:=BQ.lt
 have BT:=Blk.new w1 tHash (Array.replicate 32 (.int .u8 0))
 replace B0:=B0.alloc (.cells (Array.replicate 32 (.int .u8 0)) tHash)
 replace BQ:=BQ.alloc (.cells (Array.replicate 32 (.int .u8 0)) tHash)
 replace M:=M.step_alloc (.cells (Array.replicate 32 (.int .u8 0)) tHash)
 generalize w1.alloc (.cells (Array.replicate 32 (.int .u8 0)) tHash)=w2 at *
 generalize w1.heap.size=T at *
 refine Z4L 4 (fun i w'=>Vcg.Mod NoB w w'∧Blk w' N tHash (Array.replicate 32 (.int .u8 0))∧Blk w' Q Z7s (lanesA s)∧Blk w' T tHash (ZS 32 (fun j=>bV (if j < 8 * i then Z3s s j else 0)))) rfl
  ⟨M,B0,BQ,by rw [Zn] at BT; simp only [Nat.mul_zero,Nat.not_lt_zero,if_false]; exact BT⟩ ?_ ?_
 ·clear M B0 BQ BT
  rintro i _ w3 hi ⟨M,B0,BQ,BT⟩
  rintro _ rfl
  have e1:IntKind.wrap .i64 (8 * (i:Int))=((8 * i:Nat):Int):=by rw [Z0 (by omega) (by omega)]; omega
  rw [e1]
  refine ⟨by omega,by omega,_,BQ.drew.rd0 (ZY _ (by omega)),(Z9e (bs:=[]) (s i) 8 rfl rfl (by omega) (Own.nil _ _ _) (by omega)).mono ?_⟩
  rintro _ w4 ⟨o4,c4,rfl,hO4,M4,hF4⟩
  have M4':Vcg.Mod NoB w3.drew w4:=M4.mono (fun k _ h=>Z47 k h)
  have BT4:=BT.drew.mod' M4'
  obtain ⟨w5,h5,BT5,M5⟩:=Z4b (P:=Tryz.prog) (tx:=Z07) (ty:=3) (o:=8 * i) (dLen:=32 - 8 * i) (dCap:=32 - 8 * i) (c:=c4) (n:=8) Zt Z16 BT4 hO4.bytes
   (by rw [List.nil_append,Z3Y]; exact (Nat.min_eq_left (by omega)).symm) (by rw [Z06]; omega)
  rw [List.nil_append,Z3Y] at h5
  rw [Int.toNat_natCast (8 * i),subD,if_neg (by omega),Z6,Nat.mul_one,Nat.zero_add (8 * i)]
  refine ⟨_,_,_,rfl,_,w5,h5,_,rfl,Z7z.next (by rw [Z0 (by omega) (by omega)]; omega) hi ⟨((M.step_drew).none_trans M4').trans M5 (fun j hj h=>by simp only [hN] at hj; omega),(B0.drew.mod' M4').mod M5 (by omega),(BQ.drew.mod' M4').mod M5 (by omega),?_⟩⟩
  rw [List.nil_append,List.take_of_length_le (by rw [Z3Y]; omega),Z6h 32 (8 * i) _ (fun j=>bV (Z8Y (s i) j)) 8 _ (by rw [List.length_map,Z3Y]) (fun j hj=>by
   rw [Z6C (by rw [Z3Y]; exact hj)]
   simp [leL,List.getD_eq_getElem?_getD,hj]) (by omega)] at BT5
  refine (show _=ZS 32 (fun j=>bV (if j < 8 * (i+1) then Z3s s j else 0)) from ZG (fun j hj=>?_)) ▸ BT5
  by_cases h1:8 * i≤j∧j < 8 * i+8
  ·rw [if_pos h1,if_pos (by omega),Z3s,Z8Y,show j / 8=i by omega,show j % 8=j - 8 * i by omega]
  ·rw [if_neg h1]
   by_cases h2:j < 8 * i
   ·rw [if_pos h2,if_pos (by omega)]
   ·rw [if_neg h2,if_neg (by omega)]
 ·clear M B0 BQ BT
  rintro _ w3 ⟨M,B0,BQ,BT⟩
  have e:ZS 32 (fun j=>bV (if j < 8 * 4 then Z3s s j else 0))=ZS 32 (fun i=>bV (Z3s s i)):=ZG (fun i hi=>by rw [if_pos (by omega)])
  rw [e] at BT
  exact ⟨_,BT.rowAll (Z06 _ _),_,B0.storeAll (L:=ZS 32 (fun i=>bV (Z3s s i))) (by rw [Z06]; kernel_rfl) (by rw [Z06,Array.size_replicate]) (Z2u (fun _=>rfl)),_,(B0.row_same _).rowAll (Z06 _ _),hR _ (M.step_row (fun h=>by omega))⟩

set_option maxRecDepth 20000 in
theorem ZB1 {w:World} {b:Nat} {o:Option Addr} {m:List UInt8} (hS:Z5N w b o m) :
  Calls Tryz.prog Z0H.n #[.pointer (some ⟨b,0,none⟩)] w (fun e w'=>e=.returned (.agg (hashA (sumOf m)))∧Vcg.Mod NoB w w'):=by
 obtain ⟨l,c,hB,hO,hn⟩:=hS
 refine Z0H.vc _ _ _ ?_
 unfold Z0H.Vc
 simp only [Z6,Nat.zero_add]
 rintro d1 w2 ⟨rfl,rfl⟩ d3 w4 ⟨rfl,rfl⟩ _ rfl
 have hbl:=hB.lt
 have B1:=((Blk.new w tHash (Array.replicate 32 (.int .u8 0))).alloc (.cells (Array.replicate 136 (.int .u8 0)) tLast)).drew
 have B3:=(Blk.new (w.alloc (.cells (Array.replicate 32 (.int .u8 0)) tHash)) tLast (Array.replicate 136 (.int .u8 0))).drew
 have M:=((Mod.alloc (S:=NoB) w (.cells (Array.replicate 32 (.int .u8 0)) tHash)).step_alloc (.cells (Array.replicate 136 (.int .u8 0)) tLast)).step_drew
 have hB1:=hB.mod' M
 have hO1:=hO.mod' M
 simp only [ZD] at B3 ⊢
 generalize ((w.alloc (.cells (Array.replicate 32 (.int .u8 0)) tHash)).alloc (.cells (Array.replicate 136 (.int .u8 0)) tLast)).drew=w5 at *
 generalize hNe:w.heap.size=N at *
 have hrl:(restOf m).length=l:=by have:=hO.len; simpa using this
 have hlt:=ZAc m
 obtain ⟨w6,h6,B6,M6⟩:=Z4b (P:=Tryz.prog) (tx:=Z07) (ty:=3) (o:=0) (dLen:=136) (dCap:=136) (c:=c) (n:=(restOf m).length) Zt Z16 B3 hO1.bytes
  (Nat.min_eq_left (by omega)).symm (by rw [Array.size_replicate]; omega)
 rw [List.take_of_length_le (Nat.le_refl _),Zn,Z6h 136 0 _ (fun j=>bV ((restOf m).getD j 0)) (restOf m).length _ (by rw [List.length_map]) (fun j hj=>Z6C hj) (by omega)] at B6
 rw [hrl] at h6 B6
 refine ⟨_,_,_,Z0j hB1,_,w6,h6,_,rfl,by omega,B6.canSet0 (by rw [Z06]; omega) rfl,fun w7 h7=>?_⟩
 have h7':=h7.at
 subst h7'
 clear h7
 simp only [Z6,Nat.zero_add]
 have B7:=B6.set l (bV 1)
 rw [Z0V] at B7
 have M7:=M6.trans (Mod.setCell w6 ⟨N+1,l,none⟩ (.int .u8 1)) (fun i _ h=>h)
 have e7:(ZS 136 fun j=>if j=l then bV 1 else if 0≤j∧j < 0+l then bV ((restOf m).getD (j - 0) 0) else .int .u8 0)=ZS 136 (fun j=>bV (if j < l then (restOf m).getD j 0 else if j=l then 1 else 0)) :=
  ZG (fun j hj=>by
   by_cases h1:j=l
   ·rw [if_pos h1,if_neg (by omega),if_pos h1]
   ·rw [if_neg h1]
    by_cases h2:j < l
    ·rw [if_pos (by omega),if_pos h2,Nat.sub_zero]
    ·rw [if_neg (by omega),if_neg h2,if_neg h1]; rfl)
 rw [e7] at B7
 refine ⟨_,B7.rd1 (ZF (by omega)),B7.canSet (by rw [Z06]; omega) rfl,?_⟩
 rintro _ rfl
 rw [or_u8]
 have B8:=B7.set 135 (bV ((if 135 < l then (restOf m).getD 135 0 else if 135=l then 1 else 0) ||| 128))
 rw [Z0V] at B8
 have e8:(ZS 136 fun j=>if j=135 then bV ((if 135 < l then (restOf m).getD 135 0 else if 135=l then 1 else 0) ||| 128) else bV (if j < l then (restOf m).getD j 0 else if j=l then 1 else 0))=ZS 136 (fun j=>bV (ZDG (restOf m) j)) :=
  ZG (fun j hj=>by
   unfold ZDG
   rw [hrl]
   by_cases h1:j=135
   ·subst h1; rw [if_pos rfl,if_pos rfl]
   ·rw [if_neg h1,if_neg h1]; congr 2; simp)
 rw [e8] at B8
 change Blk ((w6.setCell ⟨N+1,l,none⟩ (.int .u8 1)).setCell ⟨N+1,135,none⟩ (bV ((if 135 < l then (restOf m).getD 135 0 else if 135=l then 1 else 0) ||| 128))) _ _ _ at B8
 have M8:=M7.trans (Mod.setCell _ ⟨N+1,135,none⟩ (bV ((if 135 < l then (restOf m).getD 135 0 else if 135=l then 1 else 0) ||| 128))) (fun i _ h=>h)
 have hq:N < w5.heap.size:=B1.lt
 have hq3:N+1 < w5.heap.size:=B3.lt
 have B18:=B1.mod M8 (by omega)
 have hB8:=hB1.mod M8 (by omega)
 have Mw8:=M.trans M8 (fun i hi h=>by simp only [hNe] at hi; omega)
 have hs8:=M8.size
 generalize ((w6.setCell ⟨N+1,l,none⟩ (.int .u8 1)).setCell ⟨N+1,135,none⟩ (bV ((if 135 < l then (restOf m).getD 135 0 else if 135=l then 1 else 0) ||| 128)))=w8 at *
 have hlast:∀w',Blk w' (N+1) tLast (ZS 136 (fun j=>bV (ZDG (restOf m) j)))→RdB w' (some ⟨N+1,0,none⟩) (Z25 (restOf m)):=fun w' h =>
  RdB.of_blk h (fun i hi=>by rw [Z5C] at hi; rw [Nat.zero_add,ZF hi,ZE2 _ hi])
 have hfin:∀w',Vcg.Mod NoB w w'→(fun e w'=>e=Ending.returned (.agg (hashA (sumOf m)))∧Vcg.Mod NoB w w') (.returned (.agg (ZS 32 (fun i=>bV (Z3s (Z4K m) i))))) w':=fun w' h=>by
  refine ⟨?_,h⟩
  have:hashA (sumOf m)=ZS 32 (fun i=>bV (Z3s (Z4K m) i)):=ZG (fun i hi=>by rw [Z8S m hi])
  rw [this]
 rintro _ rfl
 refine ⟨_,Z30 hB8.drew,?_,?_⟩
 ·refine (Z48 (ZDR m) b 0 (Z3Q hB8.drew) (Z25 (restOf m)) (Z5C _) rfl (Nat.le_refl _) (hlast _ B8.drew)).mono ?_
  rintro _ w9 ⟨rfl,M9⟩
  refine ⟨_,rfl,?_⟩
  rintro d20 w21 ⟨rfl,rfl⟩
  have BQ:=Blk.new w9 Z7s (Array.replicate 25 (.int .u64 0))
  have hs9:=M9.size
  have hs9':=(B18.drew.mod' M9).lt
  refine ⟨_,BQ.storeAll (L:=lanesA (Z4K m)) (by rw [ZL]; kernel_rfl) (by rw [ZL,Array.size_replicate]) (Z1d _),?_⟩
  exact ZCY (s:=Z4K m) (R:=fun e w'=>e=Ending.returned (.agg (hashA (sumOf m)))∧Vcg.Mod NoB w w') (((Mw8.step_drew).none_trans M9).step_alloc _ |>.step_row (fun h=>by omega)) hNe (((B18.drew.mod' M9).alloc _).row_ne (by omega)) (BQ.row_same _) (by omega) hfin
 ·rintro d41 w42 ⟨rfl,rfl⟩
  have BQ:=Blk.new w8.drew Z7s (Array.replicate 25 (.int .u64 0))
  have hB9:=hB8.drew.alloc (.cells (Array.replicate 25 (.int .u64 0)) Z7s)
  refine ⟨Z30 hB9,(Z48 (ZDR m) b 0 (Z3Q hB9) (Z25 (restOf m)) (Z5C _) rfl (Nat.le_refl _) (hlast _ (B8.drew.alloc _))).mono ?_⟩
  rintro _ w9 ⟨rfl,M9⟩
  have hs9':=(B18.drew).lt
  refine ⟨_,rfl,_,(BQ.mod' M9).storeAll (L:=lanesA (Z4K m)) (by rw [ZL]; kernel_rfl) (by rw [ZL,Array.size_replicate]) (Z1d _),?_⟩
  have hsz:w8.drew.heap.size=w8.heap.size:=rfl
  exact ZCY (s:=Z4K m) (R:=fun e w'=>e=Ending.returned (.agg (hashA (sumOf m)))∧Vcg.Mod NoB w w') ((((Mw8.step_drew).step_alloc _).none_trans M9).step_row (fun h=>by omega)) hNe (((B18.drew.alloc _).mod' M9).row_ne (by omega)) ((BQ.mod' M9).row_same _) (by omega) hfin

end Go.Proofs.YtfghidehlnfdiaaGreat
end
section
namespace Go.Proofs.YtfghidehlnfdiaaGreat
open Go Go.Vcg

theorem Z9i {w:World} {o0:Option Addr} {l0 c0:Nat} (ls:List (List UInt8)) (hl:l0=ls.length) (hl0:l0≤2 ^ 40) (hr:ZFt w o0 ls) (hmax:∀b∈ls,b.length≤2 ^ 40) :
  Calls Tryz.prog Z2I.n #[.slice o0 l0 c0] w (fun e w'=>e=.returned (.agg (hashA (sumOf ls.flatten)))∧Vcg.Mod NoB w w'):=by
 subst hl
 refine Z2I.vc _ _ _ _ _ ?_
 unfold Z2I.Vc
 rintro d1 w2 ⟨rfl,rfl⟩
 have B1:=Blk.new w tHash (Array.replicate 32 (.int .u8 0))
 have M:=Mod.alloc (S:=NoB) w (.cells (Array.replicate 32 (.int .u8 0)) tHash)
 refine (ZDZ _).mono ?_
 rintro _ w3 ⟨b,rfl,hS,M3,hb⟩
 rw [ZD] at hb
 have B1':=B1.mod' M3
 have M':=M.none_trans M3
 refine ⟨_,rfl,?_⟩
 refine Z4L ls.length (fun i w'=>Vcg.Mod NoB w w'∧Blk w' w.heap.size tHash (Array.replicate 32 (.int .u8 0))∧∃o,Z5N w' b o (ls.take i).flatten∧∀k,SpB b o k→w.heap.size < k) rfl
  ⟨M',B1',none,hS,fun k hk=>hk.elim (fun h=>by omega) (fun h=>(Z47 k h).elim)⟩ ?_ ?_
 ·rintro i _ w4 hi ⟨M4,B4,o,hS4,hF⟩
  obtain ⟨bb,f,oi,ci,rfl,hbl,hc,hri⟩:=(hr.mod' M4) i hi
  refine ⟨_,rfl,by omega,_,_,_,by rw [Z6,Int.toNat_natCast]; exact hc,?_⟩
  refine (ZB2 hS4 hri rfl (hmax _ (by simp [List.getD_eq_getElem?_getD,hi]))).mono ?_
  rintro _ w5 ⟨rfl,o',hS5,M5,hF5⟩
  refine ⟨rfl,Z7z.next (by rw [Z0 (by omega) (by omega)]; omega) hi ⟨M4.trans M5 (fun k hk h=>by have:=hF k h; omega),B4.mod M5 (fun h=>by have:=hF _ h; omega),o',?_,?_⟩⟩
  ·rw [Z69 _ _ hi]; exact hS5
  ·intro k hk
   have hs:=M4.size
   rcases hk with rfl | hk
   ·exact hF _ (.inl rfl)
   ·rcases hF5 k hk with h | h
    ·exact hF _ (.inr h)
    ·have:=B4.lt; omega
 ·rintro _ w4 ⟨M4,B4,o,hS4,hF⟩
  rw [List.take_length] at hS4
  refine (ZB1 hS4).mono ?_
  rintro _ w5 ⟨rfl,M5⟩
  exact ⟨_,rfl,_,(B4.mod' M5).storeAll (L:=hashA (sumOf ls.flatten)) (by rw [ZB]; kernel_rfl) (by rw [ZB,Array.size_replicate]) (Z2c _),_,((B4.mod' M5).row_same _).rowAll (ZB _),rfl,(M4.none_trans M5).step_row (fun h=>by omega)⟩

end Go.Proofs.YtfghidehlnfdiaaGreat
end
section
namespace Go.Vcg

theorem ZCN (bs:List UInt8):∀(k i:Nat),8 * k≤i→(leK bs k).getLsbD i=false
 | 0,i,_=>by simp [leK]
 | k+1,i,h=>by
   rw [leK,BitVec.getLsbD_or,ZCN bs k i (by omega),BitVec.getLsbD_shiftLeft,Z62,BitVec.getLsbD_setWidth]
   have:(bs.getD k 0).toBitVec.getLsbD (i - 8 * k)=false:=BitVec.getLsbD_of_ge _ _ (by omega)
   rw [this]
   simp
theorem ZHu (bs:List UInt8) (k:Nat) (b:UInt8):leK bs k ||| (Z62 b <<< (8 * k))=leK bs k ^^^ (Z62 b <<< (8 * k)):=by
 apply BitVec.eq_of_getLsbD_eq
 intro i hi
 rw [BitVec.getLsbD_or,BitVec.getLsbD_xor,BitVec.getLsbD_shiftLeft]
 by_cases h:i < 8 * k
 ·simp [h]
 ·rw [ZCN bs k i (by omega)]; simp

def ZF3 (s:St) (c:Nat→UInt8):Nat→St
 | 0=>s
 | i+1=>fun j=>if j=i / 8 then ZF3 s c i j ^^^ (Z62 (c i) <<< (8 * (i % 8))) else ZF3 s c i j
def lxK (c:Nat→UInt8):Nat→BitVec 64
 | 0=>0
 | k+1=>lxK c k ^^^ (Z62 (c k) <<< (8 * k))
theorem ZBw (s:St) (c:Nat→UInt8):∀(i j:Nat),ZF3 s c i j=s j ^^^ lxK (fun m=>c (8 * j+m)) (Nat.min (i - 8 * j) 8)
 | 0,j=>by simp [ZF3,lxK]
 | i+1,j=>by
   rw [ZF3]
   by_cases h:j=i / 8
   ·simp only [h,if_true]
    rw [← h,ZBw s c i j]
    have e1:Nat.min (i - 8 * j) 8=i % 8:=by show min _ _=_; omega
    have e2:Nat.min (i+1 - 8 * j) 8=i % 8+1:=by show min _ _=_; omega
    rw [e1,e2,lxK,show 8 * j+i % 8=i by omega,BitVec.xor_assoc]
   ·simp only [h,if_false]
    rw [ZBw s c i j]
    have e:Nat.min (i - 8 * j) 8=Nat.min (i+1 - 8 * j) 8:=by show min _ _=min _ _; omega
    rw [e]
theorem ZEC (bs:List UInt8) (c:Nat→UInt8):∀k,(∀m,m < k→bs.getD m 0=c m)→leK bs k=lxK c k
 | 0,_=>rfl
 | k+1,h=>by rw [leK,ZHu,lxK,ZEC bs c k (fun m hm=>h m (by omega)),h k (by omega)]
theorem ZF4 (s:St) (c:Nat→UInt8) (j:Nat) (hj:j < 25):ZF3 s c 136 j=Z22 s ((List.range 136).map c) j:=by
 rw [ZBw,Z22]
 by_cases h:j < 17
 ·rw [if_pos h]
  have e:Nat.min (136 - 8 * j) 8=8:=by show min _ _=_; omega
  have hl:((((List.range 136).map c).drop (8 * j)).take 8).length=8:=by rw [List.length_take,List.length_drop,List.length_map,List.length_range]; omega
  rw [e,ZCO,hl]
  congr 1
  symm
  refine ZEC _ _ 8 (fun m hm=>?_)
  rw [List.getD_eq_getElem?_getD,List.getElem?_take_of_lt hm,List.getElem?_drop,List.getElem?_map,List.getElem?_range (by omega)]
  rfl
 ·rw [if_neg h]
  have e:Nat.min (136 - 8 * j) 8=0:=by show min _ _=_; omega
  rw [e,lxK]; simp

def cAt (m:List UInt8) (k i:Nat):UInt8:=(if 136 * k+i < m.length then m.getD (136 * k+i) 0 else if 136 * k+i=m.length then 1 else 0) ||| (if i=135∧m.length < 136 * k+136 then 128 else 0)
def Z7i (m:List UInt8):Nat→St
 | 0=>Z0W
 | k+1=>Z7A (Z7i m k) ((List.range 136).map (cAt m k))
theorem ZFC (m:List UInt8) (k:Nat) (h:136 * k+136≤m.length):(List.range 136).map (cAt m k)=(m.drop (136 * k)).take 136:=by
 apply List.ext_getElem?
 intro i
 by_cases hi:i < 136
 ·rw [List.getElem?_map,List.getElem?_range hi,List.getElem?_take_of_lt hi,List.getElem?_drop]
  simp only [Option.map_some,cAt]
  rw [if_pos (by omega),if_neg (by omega),List.getElem?_eq_getElem (by omega)]
  simp [List.getD_eq_getElem?_getD,show 136 * k+i < m.length by omega]
 ·rw [List.getElem?_eq_none (by simp; omega),List.getElem?_eq_none (by simp; omega)]
theorem ZFD (m:List UInt8):(List.range 136).map (cAt m (m.length / 136))=Z25 (restOf m):=by
 refine List.map_congr_left (fun i hi=>?_)
 have hi':i < 136:=List.mem_range.1 hi
 have hl:=Z5Z m
 simp only [cAt,ZDG]
 have e1:(if i=135∧m.length < 136 * (m.length / 136)+136 then (128:UInt8) else 0)=(if i=135 then 128 else 0):=by
  by_cases h:i=135
  ·rw [if_pos ⟨h,by omega⟩,if_pos h]
  ·rw [if_neg (fun g=>h g.1),if_neg h]
 rw [e1]
 congr 1
 by_cases h1:i < (restOf m).length
 ·rw [if_pos (by omega),if_pos h1,restOf]
  simp only [List.getD_eq_getElem?_getD,List.getElem?_drop]
 ·rw [if_neg (by omega),if_neg h1]
  by_cases h2:i=(restOf m).length
  ·rw [if_pos (by omega),if_pos h2]
  ·rw [if_neg (by omega),if_neg h2]
theorem ZCb (m:List UInt8):∀k,k≤m.length / 136→Z7i m k=ZAs Z0W m k
 | 0,_=>rfl
 | k+1,h=>by rw [Z7i,ZCb m k (by omega),ZFC m k (by omega),ZAs]
theorem ZDJ (m:List UInt8):Z7i m (m.length / 136+1)=Z4K m:=by
 rw [Z7i,ZCb m _ (Nat.le_refl _),ZFD,Z4K,ZDR]

end Go.Vcg
end
