/- Keccak in plain Lean: lanes as functions, the round, the permutation. -/
/- Contracts of Keccak's small functions and of one round. -/
/- Contracts: the tables, the plan, all rounds. -/
/- Contracts: the plan, all rounds, the program's permutation. -/
/- Contract: the document's permutation. -/
/- Slices of bytes that are read. -/
/- Slices that the code itself made: appended to, copied into. -/
/- Contracts: words out of bytes, one block absorbed. -/
/- The numbers of the types that the texts below name. -/
/- Contracts: the sponge. -/
/- Contract: Write. -/
import Derived.Test.YtfghidehlnfdiaaGreatXMem
set_option linter.unusedVariables false
set_option linter.unusedSimpArgs false
section
namespace Go.Vcg

def arrOf (n:Nat) (f:Nat→Value):Array Value:=Array.ofFn (n:=n) fun i=>f i
@[simp] theorem size_arrOf (n:Nat) (f):(arrOf n f).size=n:=by simp [arrOf]
theorem get_arrOf (n:Nat) (f) (i:Nat):(arrOf n f)[i]?=if i < n then some (f i) else none:=by
 simp [arrOf,Array.getElem?_ofFn]
theorem get_arrOf_lt {n:Nat} {f} {i:Nat} (h:i < n):(arrOf n f)[i]?=some (f i):=by rw [get_arrOf,if_pos h]
theorem arrOf_congr {n:Nat} {f g:Nat→Value} (h:∀i,i < n→f i=g i):arrOf n f=arrOf n g:=by
 apply Array.ext <;> simp [arrOf]
 exact fun i hi=>h i hi
theorem eq_arrOf {n:Nat} {f:Nat→Value} {cs:Array Value} (hs:cs.size=n) (h:∀i,i < n→cs[i]?=some (f i)):cs=arrOf n f:=by
 apply Array.ext
 ·simpa using hs
 ·intro i h1 h2
  have:=h i (by omega)
  rw [Array.getElem?_eq_getElem h1] at this
  simpa [arrOf] using this
theorem set_arrOf (n:Nat) (f:Nat→Value) (i:Nat) (v:Value):(arrOf n f).setIfInBounds i v=arrOf n (fun j=>if j=i then v else f j):=by
 apply Array.ext
 ·simp
 ·intro j h1 h2
  simp only [arrOf,Array.getElem_ofFn]
  rw [Array.getElem_setIfInBounds (by simpa using h1)]
  split <;> simp_all [eq_comm]
theorem replicate_arrOf (n:Nat) (v:Value):Array.replicate n v=arrOf n (fun _=>v):=by
 apply Array.ext <;> simp [arrOf]

theorem splice_arrOf (n o m:Nat) (f g:Nat→Value) (h:o+m≤n) :
 ((arrOf n f).toList.take o++(arrOf m g).toList++(arrOf n f).toList.drop (o+m)).toArray=arrOf n (fun i=>if i < o then f i else if i < o+m then g (i - o) else f i):=by
 have ef:∀n f,(arrOf n f).toList=(List.range n).map f:=by
  intro n f
  apply List.ext_getElem?
  intro i
  rw [Array.getElem?_toList,get_arrOf,List.getElem?_map]
  by_cases hi:i < n
  ·rw [if_pos hi,List.getElem?_range hi]; rfl
  ·rw [if_neg hi,List.getElem?_eq_none (by simp; omega)]; rfl
 refine eq_arrOf ?_ (fun i hi=>?_)
 ·simp [ef]; omega
 ·rw [List.getElem?_toArray,ef,ef]
  have l1:(List.take o ((List.range n).map f)).length=o:=by simp; omega
  have l2:(List.take o ((List.range n).map f)++(List.range m).map g).length=o+m:=by rw [List.length_append,l1]; simp
  by_cases h1:i < o
  ·rw [if_pos h1,List.append_assoc,List.getElem?_append_left (by omega),List.getElem?_take,if_pos h1,List.getElem?_map,List.getElem?_range hi]; rfl
  ·rw [if_neg h1]
   by_cases h2:i < o+m
   ·rw [if_pos h2,List.getElem?_append_left (by omega),List.getElem?_append_right (by omega),l1,List.getElem?_map,List.getElem?_range (by omega)]; rfl
   ·rw [if_neg h2,List.getElem?_append_right (by omega),l2,List.getElem?_drop,List.getElem?_map,show o+m+(i - (o+m))=i by omega,List.getElem?_range hi]; rfl

abbrev uI (x:BitVec 64):Int:=(x.toNat:Int)
abbrev uV (x:BitVec 64):Value:=.int .u64 (uI x)

theorem ofInt_uI (x:BitVec 64):BitVec.ofInt 64 (uI x)=x:=by
 apply BitVec.eq_of_toNat_eq
 simp
theorem wrap_u64 (n:Int):IntKind.wrap .u64 n=n % 18446744073709551616:=by
 simp [IntKind.wrap,IntKind.bits,IntKind.signed]
theorem wrap_u64_nat (n:Nat) (h:n < 2 ^ 64):IntKind.wrap .u64 (n:Int)=n:=by
 rw [wrap_u64]; omega
theorem wrap_uI (x:BitVec 64):IntKind.wrap .u64 (uI x)=uI x:=wrap_u64_nat _ x.isLt
theorem bitsI_xor (x y:BitVec 64):bitsI .xor .u64 (uI x) (uI y)=uI (x ^^^ y):=by
 simp only [bitsI,IntKind.bits,ofInt_uI]; exact wrap_uI _
theorem bitsI_and (x y:BitVec 64):bitsI .and .u64 (uI x) (uI y)=uI (x &&& y):=by
 simp only [bitsI,IntKind.bits,ofInt_uI]; exact wrap_uI _
theorem bitsI_or (x y:BitVec 64):bitsI .or .u64 (uI x) (uI y)=uI (x ||| y):=by
 simp only [bitsI,IntKind.bits,ofInt_uI]; exact wrap_uI _
theorem bitsI_not (x:BitVec 64):bitsI .xor .u64 18446744073709551615 (uI x)=uI (~~~ x):=by
 have:(18446744073709551615:Int)=uI (BitVec.allOnes 64):=by decide
 rw [this,bitsI_xor]
 congr 2
theorem shlI_u (x:BitVec 64) (n:Nat):shlI .u64 (uI x) (n:Int)=uI (x <<< n):=by
 unfold shlI
 rw [wrap_u64]
 show (x.toNat:Int) * 2 ^ (min (Int.toNat (n:Int)) 64) % 18446744073709551616=((x <<< n).toNat:Int)
 rw [Int.toNat_natCast,BitVec.toNat_shiftLeft,Nat.shiftLeft_eq]
 by_cases h:n≤64
 ·rw [Nat.min_eq_left h]
  have e:(2:Int) ^ n=((2 ^ n:Nat):Int):=by simp
  rw [e,← Int.natCast_mul]
  omega
 ·rw [Nat.min_eq_right (by omega)]
  have h0:x.toNat * 2 ^ n % 2 ^ 64=0:=by
   have h1:2 ^ n=2 ^ (n - 64) * 2 ^ 64:=by rw [← Nat.pow_add]; congr 1; omega
   rw [h1,← Nat.mul_assoc,Nat.mul_mod_left]
  rw [h0]
  omega
theorem shrI_u (x:BitVec 64) (n:Nat) (k:IntKind) (hk:k.bits=64):shrI k (uI x) (n:Int)=uI (x >>> n):=by
 unfold shrI
 rw [hk,Int.toNat_natCast]
 show Int.fdiv (x.toNat:Int) (2 ^ (min n 64))=((x >>> n).toNat:Int)
 rw [BitVec.toNat_ushiftRight,Nat.shiftRight_eq_div_pow]
 have hx:=x.isLt
 have e:∀m:Nat,(2:Int) ^ m=((2 ^ m:Nat):Int):=by intro m; simp
 by_cases h:n≤64
 ·rw [Nat.min_eq_left h,e,Int.fdiv_eq_ediv_of_nonneg _ (Int.natCast_nonneg _),Int.natCast_ediv]
 ·rw [Nat.min_eq_right (by omega),e,Int.fdiv_eq_ediv_of_nonneg _ (Int.natCast_nonneg _),← Int.natCast_ediv]
  have h1:x.toNat / 2 ^ n=0:=Nat.div_eq_of_lt (Nat.lt_trans hx (Nat.pow_lt_pow_right (by decide) (by omega)))
  rw [h1,Nat.div_eq_of_lt hx]

theorem wrap_i64 (n:Int):IntKind.wrap .i64 n=(n+9223372036854775808) % 18446744073709551616 - 9223372036854775808:=by
 unfold IntKind.wrap
 show (if (true && decide (n % 18446744073709551616≥9223372036854775808))=true then n % 18446744073709551616 - 18446744073709551616 else n % 18446744073709551616)=_
 simp only [Bool.true_and,decide_eq_true_eq]
 split <;> omega
theorem wrap_i64_small {n:Int} (h: -9223372036854775808≤n) (h':n < 9223372036854775808):IntKind.wrap .i64 n=n:=by
 rw [wrap_i64]; omega

theorem tmod_nn (a b:Int) (h:0≤a):Int.tmod a b=a % b:=Int.tmod_eq_emod_of_nonneg h

abbrev St:=Nat→BitVec 64
def lanesA (s:St):Array Value:=arrOf 25 (fun i=>uV (s i))
theorem size_lanesA (s:St):(lanesA s).size=25:=size_arrOf _ _
theorem arrOf_one {n:Nat} {f:Nat→Value} (h:∀i,(f i).oneCell'=true):∀v∈(arrOf n f).toList,v.oneCell'=true:=by
 intro v hv
 simp only [arrOf,Array.mem_toList_iff,Array.mem_ofFn] at hv
 obtain ⟨i,rfl⟩:=hv
 exact h i
theorem lanesA_one (s:St):∀v∈(lanesA s).toList,v.oneCell'=true:=arrOf_one (fun _=>rfl)
theorem lanesA_congr {s r:St} (h:∀i,i < 25→s i=r i):lanesA s=lanesA r:=arrOf_congr (fun i hi=>by rw [h i hi])
theorem get_lanesA (s:St) {i:Nat} (h:i < 25):(lanesA s)[i]?=some (uV (s i)):=get_arrOf_lt h

def turnsL:List Nat:=[0,1,62,28,27,36,44,6,55,20,3,10,43,25,39,41,45,15,21,8,18,2,61,56,14]
def turnOf (i:Nat):Nat:=turnsL.getD i 0
def rcL:List (BitVec 64):=[0x0000000000000001,0x0000000000008082,0x800000000000808a,0x8000000080008000,0x000000000000808b,0x0000000080000001,0x8000000080008081,0x8000000000008009,0x000000000000008a,0x0000000000000088,0x0000000080008009,0x000000008000000a,0x000000008000808b,0x800000000000008b,0x8000000000008089,0x8000000000008003,0x8000000000008002,0x8000000000000080,0x000000000000800a,0x800000008000000a,0x8000000080008081,0x8000000000008080,0x0000000080000001,0x8000000080008008]
def rcOf (i:Nat):BitVec 64:=rcL.getD i 0
theorem turnOf_lt (i:Nat):turnOf i < 64:=by
 unfold turnOf
 by_cases h:i < 25
 ·have:∀i,i < 25→turnsL.getD i 0 < 64:=by decide
  exact this i h
 ·rw [List.getD_eq_getElem?_getD,List.getElem?_eq_none (by simp [turnsL]; omega)]; simp

def parK (s:St) (x:Nat):Nat→BitVec 64
 | 0=>0
 | k+1=>parK s x k ^^^ s (x+5 * k)
def par (s:St) (x:Nat):BitVec 64:=parK s x 5
def ddK (s:St) (x:Nat):BitVec 64:=par s ((x+4) % 5) ^^^ (par s ((x+1) % 5)).rotateLeft 1
def bbXY (s:St) (x y:Nat):BitVec 64:=(s (x+5 * y) ^^^ ddK s x).rotateLeft (turnOf (x+5 * y))
def bbK (s:St) (j:Nat):BitVec 64:=bbXY s ((j % 5+3 * (j / 5)) % 5) (j % 5)
def chiK (b:St) (j:Nat):BitVec 64:=b j ^^^ (~~~ b ((j % 5+1) % 5+5 * (j / 5)) &&& b ((j % 5+2) % 5+5 * (j / 5)))
def rnd (n:Nat) (s:St):St:=fun j=>if j=0 then chiK (bbK s) 0 ^^^ rcOf n else chiK (bbK s) j
def rnds:Nat→St→St
 | 0,s=>s
 | n+1,s=>rnd n (rnds n s)
def keccakF (s:St):St:=rnds 24 s

def regOf:Nat→Nat
 | 0=>1
 | k+1=>if 2 * regOf k > 255 then (2 * regOf k - 256) ^^^ 0x71 else 2 * regOf k
def rcPart (i:Nat):Nat→BitVec 64
 | 0=>0
 | j+1=>rcPart i j ||| ((if regOf (7 * i+j) % 2=1 then (1:BitVec 64) else 0) <<< (2 ^ j - 1))
def rcXor (i:Nat):Nat→BitVec 64
 | 0=>0
 | j+1=>rcXor i j ^^^ ((if regOf (7 * i+j) % 2=1 then (1:BitVec 64) else 0) <<< (2 ^ j - 1))
def xyOf:Nat→Nat×Nat
 | 0=>(1,0)
 | t+1=>((xyOf t).2,(2 * (xyOf t).1+3 * (xyOf t).2) % 5)
def tarr:Nat→Nat→Nat
 | 0=>fun _=>0
 | t+1=>fun j=>if j=(xyOf t).1+5 * (xyOf t).2 then (t+1) * (t+2) / 2 % 64 else tarr t j

theorem reg_lt:∀k:Nat,k < 169→regOf k < 256:=by decide +kernel
theorem rcPart_end:∀i:Nat,i < 24→rcPart i 7=rcOf i:=by decide +kernel
theorem rcXor_end:∀i:Nat,i < 24→rcXor i 7=rcOf i:=by decide +kernel
theorem xy_lt:∀t:Nat,t < 25→(xyOf t).1 < 5∧(xyOf t).2 < 5:=by decide +kernel
theorem tarr_end:∀j:Nat,j < 25→tarr 24 j=turnOf j:=by decide +kernel
theorem reg_next:∀k:Nat,k < 168→(regOf k * 2 > 255→bitsI .xor .i64 ((regOf k * 2 - 256:Nat):Int) 113=(regOf (k+1):Int)):=by decide +kernel
theorem reg_next' (k:Nat) (h:¬regOf k * 2 > 255):regOf (k+1)=regOf k * 2:=by
 rw [regOf,if_neg (by omega)]; omega
theorem reg_and:∀k:Nat,k < 168→bitsI .and .i64 (regOf k:Int) 1=(regOf k % 2:Nat):=by decide +kernel
theorem pow_sh:∀j:Nat,j < 7→IntKind.wrap .u64 (shlI .u64 1 (j:Int) - 1)=((2 ^ j - 1:Nat):Int):=by decide +kernel
theorem turn_num:∀t:Nat,t < 24→Int.tmod (IntKind.wrap .i64 (Int.tdiv (IntKind.wrap .i64 ((IntKind.wrap .i64 ((t:Int)+1)) * (IntKind.wrap .i64 ((t:Int)+2)))) 2)) 64=(((t+1) * (t+2) / 2 % 64:Nat):Int):=by decide +kernel

end Go.Vcg
end
section
namespace Go.Proofs.YtfghidehlnfdiaaGreat
open Go Go.Vcg

theorem at_calls {R:Ending→World→Prop} {w:World} {n0 n1:Int} (x y:Nat) (h0:n0=(x:Int)) (h1:n1=(y:Int)) (hx:x < 1000) (hy:y < 1000)
 (h:R (.returned (.int .i64 ((x % 5+5 * (y % 5):Nat):Int))) w):Calls Tryz.prog keccak_at.n #[.int .i64 n0,.int .i64 n1] w R:=by
 subst h0 h1
 refine keccak_at.vc _ _ _ _ ?_
 unfold keccak_at.Vc
 have e:IntKind.wrap .i64 (Int.tmod (x:Int) 5+IntKind.wrap .i64 (5 * Int.tmod (y:Int) 5))=((x % 5+5 * (y % 5):Nat):Int):=by
  simp (disch:=omega) only [tmod_nn,wrap_i64_small]
  omega
 rw [e]
 exact h

theorem rotl_calls {R:Ending→World→Prop} {w:World} {n0 n1:Int} (x:BitVec 64) (k:Nat) (h0:n0=uI x) (h1:n1=(k:Int)) (hk:k < 64)
 (h:R (.returned (uV (x.rotateLeft k))) w):Calls Tryz.prog math_bits_RotateLeft64.n #[.int .u64 n0,.int .i64 n1] w R:=by
 subst h0 h1
 refine math_bits_RotateLeft64.vc _ _ _ _ ?_
 unfold math_bits_RotateLeft64.Vc
 have e1:bitsI .and .u64 (IntKind.wrap .u64 (k:Int)) 63=(k:Int):=by
  have:∀k:Nat,k < 64→bitsI .and .u64 (IntKind.wrap .u64 (k:Int)) 63=(k:Int):=by decide +kernel
  exact this k hk
 have e2:IntKind.wrap .u64 (64 - (k:Int))=((64 - k:Nat):Int):=by
  rw [wrap_u64]; omega
 rw [e1,e2]
 refine ⟨by omega,by omega,?_⟩
 rw [shlI_u,shrI_u _ _ _ rfl,bitsI_or]
 have e3:x <<< k ||| x >>> (64 - k)=x.rotateLeft k:=by
  rw [BitVec.rotateLeft_def]
  rw [Nat.mod_eq_of_lt hk]
 rw [e3]
 exact h

structure PlanAt (w:World) (b o:Nat):Prop where
 lt:b < w.heap.size
 rc:∀i,i < 24→w.cell? ⟨b,o+i,none⟩=some (uV (rcOf i))
 turn:∀i,i < 25→w.cell? ⟨b,o+24+i,none⟩=some (.int .i64 (turnOf i))

theorem cell_mod {S:Nat→Prop} {w w':World} (m:Mod S w w') {b i:Nat} (hb:b < w.heap.size) (hs:¬S b):w'.cell? ⟨b,i,none⟩=w.cell? ⟨b,i,none⟩ :=
 World.cell?_of_block (m.block b hb hs)

theorem PlanAt.mod {S:Nat→Prop} {w w':World} {b o:Nat} (h:PlanAt w b o) (m:Mod S w w') (hs:¬S b):PlanAt w' b o :=
 ⟨Nat.lt_of_lt_of_le h.lt m.size,fun i hi=>(cell_mod m h.lt hs).trans (h.rc i hi),fun i hi=>(cell_mod m h.lt hs).trans (h.turn i hi)⟩


theorem cond2_all:((List.range 5).all fun x=>(List.range 5).all fun k=>(List.range 25).all fun j =>
 (decide ((j % 5+3 * (j / 5)) % 5 < x) || (decide ((j % 5+3 * (j / 5)) % 5=x) && decide (j % 5 < k+1))) == (decide (j=k % 5+5 * ((2 * x+3 * k) % 5)) || (decide ((j % 5+3 * (j / 5)) % 5 < x) || (decide ((j % 5+3 * (j / 5)) % 5=x) && decide (j % 5 < k)))))=true:=by decide +kernel
theorem cond2 (x:Nat) (hx:x < 5) (k:Nat) (hk:k < 5) (j:Nat) (hj:j < 25) :
 (((j % 5+3 * (j / 5)) % 5 < x∨(j % 5+3 * (j / 5)) % 5=x∧j % 5 < k+1)↔(j=k % 5+5 * ((2 * x+3 * k) % 5)∨((j % 5+3 * (j / 5)) % 5 < x∨(j % 5+3 * (j / 5)) % 5=x∧j % 5 < k))):=by
 have h:=cond2_all
 simp only [List.all_eq_true,List.mem_range] at h
 have h1:=h x hx k hk j hj
 simp only [beq_iff_eq] at h1
 rw [Bool.eq_iff_iff] at h1
 simpa only [Bool.or_eq_true,Bool.and_eq_true,decide_eq_true_eq] using h1
theorem cond2':∀x:Nat,x < 5→∀k:Nat,k < 5→(k % 5+5 * ((2 * x+3 * k) % 5)) < 25∧((k % 5+5 * ((2 * x+3 * k) % 5)) % 5+3 * ((k % 5+5 * ((2 * x+3 * k) % 5)) / 5)) % 5=x∧(k % 5+5 * ((2 * x+3 * k) % 5)) % 5=k:=by decide +kernel

theorem round_calls {w:World} (s:St) (b o:Nat) (n:Nat) (hn:n < 24) (hp:PlanAt w b o) :
 Calls Tryz.prog keccak_state_round.n #[.agg (lanesA s),.pointer (some ⟨b,o,none⟩),.int .i64 (n:Int)] w
  (fun e w'=>e=.returned (.agg (lanesA (rnd n s)))∧Mod NoB w w'):=by
 refine keccak_state_round.vc _ _ _ _ _ ?_
 unfold keccak_state_round.Vc
 rintro d3 w4 ⟨rfl,rfl⟩ d5 w6 ⟨rfl,rfl⟩ d7 w8 ⟨rfl,rfl⟩
 have B3:=((Blk.new w 173 (lanesA s)).alloc (.cells (Array.replicate 25 (.int .u64 0)) 173)).alloc (.cells #[(.int .u64 0),(.int .u64 0),(.int .u64 0),(.int .u64 0),(.int .u64 0)] 181)
 have B5:=(Blk.new (w.alloc (.cells (lanesA s) 173)) 173 (Array.replicate 25 (.int .u64 0))).alloc (.cells #[(.int .u64 0),(.int .u64 0),(.int .u64 0),(.int .u64 0),(.int .u64 0)] 181)
 have B7:=Blk.new ((w.alloc (.cells (lanesA s) 173)).alloc (.cells (Array.replicate 25 (.int .u64 0)) 173)) 181 #[(.int .u64 0),(.int .u64 0),(.int .u64 0),(.int .u64 0),(.int .u64 0)]
 have M:=((Mod.alloc (S:=NoB) w (.cells (lanesA s) 173)).step_alloc (.cells (Array.replicate 25 (.int .u64 0)) 173)).step_alloc (.cells #[(.int .u64 0),(.int .u64 0),(.int .u64 0),(.int .u64 0),(.int .u64 0)] 181)
 simp only [size_alloc] at B5 B7 ⊢
 generalize ((w.alloc (.cells (lanesA s) 173)).alloc (.cells (Array.replicate 25 (.int .u64 0)) 173)).alloc (.cells #[(.int .u64 0),(.int .u64 0),(.int .u64 0),(.int .u64 0),(.int .u64 0)] 181)=w8 at *
 have hN:=hp.lt
 generalize hNe:w.heap.size=N at *
 have e5:#[(.int .u64 0),(.int .u64 0),(.int .u64 0),(.int .u64 0),(.int .u64 0)]=arrOf 5 (fun i=>uV (if i < 0 then par s i else 0)):=by rfl
 rw [e5] at B7
 clear e5
 refine loopN 5 (fun x w'=>Vcg.Mod NoB w w'∧Blk w' N 173 (lanesA s)∧Blk w' (N+1) 173 (Array.replicate 25 (.int .u64 0)) ∧
  Blk w' (N+1+1) 181 (arrOf 5 (fun i=>uV (if i < x then par s i else 0)))) rfl ⟨M,B3,B5,B7⟩ ?_ ?_
 ·clear M B3 B5 B7
  rintro x _ w1 hx ⟨M,B3,B5,B7⟩
  refine loopN 5 (fun k w'=>Vcg.Mod NoB w w'∧Blk w' N 173 (lanesA s)∧Blk w' (N+1) 173 (Array.replicate 25 (.int .u64 0)) ∧
   Blk w' (N+1+1) 181 (arrOf 5 (fun i=>uV (if i < x then par s i else if i=x then parK s x k else 0)))) rfl ⟨M,B3,B5,?_⟩ ?_ ?_
  ·have:(fun i=>uV (if i < x then par s i else if i=x then parK s x 0 else 0))=(fun i=>uV (if i < x then par s i else 0)):=by
    funext i; simp [parK]
   rw [this]; exact B7
  ·clear M B3 B5 B7
   rintro k _ w2 hk ⟨M,B3,B5,B7⟩
   rintro _ rfl
   refine ⟨by omega,_,B7.drew.rd0 (get_arrOf_lt (by omega)),at_calls x k rfl rfl (by omega) (by omega) ⟨_,rfl,B7.drew.rd0 (get_arrOf_lt (by omega)),by omega,_,B3.drew.rd0 (get_lanesA s (by omega)),by omega,B7.drew.canSet0 (by simp; omega) rfl,fun w3 h3=>?_⟩⟩
   rw [h3.at]
   refine UpTo.next (by rw [wrap_i64_small (by omega) (by omega)]; omega) hk ⟨(M.step_drew).step_set (fun h=>by simp only [hNe] at h; omega),B3.drew.set_ne (by simp; omega),B5.drew.set_ne (by simp),?_⟩
   have:=B7.drew.set x (uV (parK s x (k+1)))
   rw [set_arrOf] at this
   simp only [bitsI_xor,if_true,Nat.lt_irrefl,if_false]
   have e1:parK s x (k+1)=parK s x k ^^^ s (x % 5+5 * (k % 5)):=by
    rw [parK,Nat.mod_eq_of_lt hx,Nat.mod_eq_of_lt hk]
   rw [← e1]
   refine (arrOf_congr (fun j hj=>?_)) ▸ this
   grind
  ·rintro _ w2 ⟨M,B3,B5,B7⟩
   refine UpTo.next (by rw [wrap_i64_small (by omega) (by omega)]; omega) hx ⟨M,B3,B5,?_⟩
   refine (arrOf_congr (fun j hj=>?_)) ▸ B7
   have:par s x=parK s x 5:=rfl
   grind
 ·clear M B3 B5 B7
  rintro _ w1 ⟨M,B3,B5,B7⟩ d22 w23 ⟨rfl,rfl⟩
  have hsz:N+1+1 < w1.heap.size:=B7.lt
  have B8:=Blk.new w1 173 (Array.replicate 25 (.int .u64 0))
  replace B3:=B3.alloc (.cells (Array.replicate 25 (.int .u64 0)) 173)
  replace B5:=B5.alloc (.cells (Array.replicate 25 (.int .u64 0)) 173)
  replace B7:=B7.alloc (.cells (Array.replicate 25 (.int .u64 0)) 173)
  replace M:=M.step_alloc (.cells (Array.replicate 25 (.int .u64 0)) 173)
  generalize w1.alloc (.cells (Array.replicate 25 (.int .u64 0)) 173)=w2 at *
  generalize w1.heap.size=Q at *
  refine loopN 5 (fun x w'=>Vcg.Mod NoB w w'∧Blk w' N 173 (lanesA s)∧Blk w' (N+1) 173 (Array.replicate 25 (.int .u64 0)) ∧
   Blk w' (N+1+1) 181 (arrOf 5 (fun i=>uV (if i < 5 then par s i else 0)))∧Blk w' Q 173 (arrOf 25 (fun j=>uV (if (j % 5+3 * (j / 5)) % 5 < x then bbK s j else 0)))) rfl
   ⟨M,B3,B5,B7,by rw [replicate_arrOf] at B8; simp only [Nat.not_lt_zero,if_false]; exact B8⟩ ?_ ?_
  ·clear M B3 B5 B7 B8
   rintro x _ w2 hx ⟨M,B3,B5,B7,B8⟩
   rintro _ rfl
   have c1:Int.tmod (IntKind.wrap .i64 ((IntKind.wrap .i64 ((x:Int)+5)) - 1)) 5=(((x+4) % 5:Nat):Int):=by
    simp (disch:=omega) only [tmod_nn,wrap_i64_small]; omega
   have c2:Int.tmod (IntKind.wrap .i64 ((x:Int)+1)) 5=(((x+1) % 5:Nat):Int):=by
    simp (disch:=omega) only [tmod_nn,wrap_i64_small]; omega
   rw [c1,c2]
   clear c1 c2
   have l1:(x+4) % 5 < 5:=Nat.mod_lt _ (by decide)
   have l2:(x+1) % 5 < 5:=Nat.mod_lt _ (by decide)
   refine ⟨by omega,_,B7.drew.rd0 (get_arrOf_lt l1),by omega,_,B7.drew.rd0 (get_arrOf_lt l2),?_⟩
   rw [if_pos l1,if_pos l2]
   refine rotl_calls _ 1 rfl rfl (by omega) ⟨_,rfl,by rw [B7.drew.rd0 (get_arrOf_lt l1),if_pos l1],?_⟩
   rw [bitsI_xor]
   refine loopN 5 (fun k w'=>Vcg.Mod NoB w w'∧Blk w' N 173 (lanesA s)∧Blk w' (N+1) 173 (Array.replicate 25 (.int .u64 0)) ∧
    Blk w' (N+1+1) 181 (arrOf 5 (fun i=>uV (if i < 5 then par s i else 0)))∧Blk w' Q 173 (arrOf 25 (fun j=>uV (if (j % 5+3 * (j / 5)) % 5 < x∨(j % 5+3 * (j / 5)) % 5=x∧j % 5 < k then bbK s j else 0)))) rfl
    ⟨M.step_drew,B3,B5,B7,by simpa using B8.drew⟩ ?_ ?_
   ·clear M B3 B5 B7 B8
    rintro k _ w3 hk ⟨M,B3,B5,B7,B8⟩
    rintro _ rfl
    have c3:=cond2' x hx k hk
    have hp':=hp.mod (M.step_drew) (fun h=>h)
    refine at_calls k (2 * x+3 * k) rfl (by simp (disch:=omega) only [wrap_i64_small]; omega) (by omega) (by omega) ⟨_,rfl,?_⟩
    refine at_calls x k rfl rfl (by omega) (by omega) ⟨_,rfl,by omega,_,B3.drew.rd0 (get_lanesA s (by omega)),?_⟩
    refine at_calls x k rfl rfl (by omega) (by omega) ⟨_,rfl,B3.drew.rd0 (get_lanesA s (by omega)),by omega,_,by rw [add_at,add_at,Int.toNat_natCast]; exact hp'.turn _ (by omega),?_⟩
    refine rotl_calls (s (x % 5+5 * (k % 5)) ^^^ (par s ((x+4) % 5) ^^^ (par s ((x+1) % 5)).rotateLeft 1)) (turnOf (x % 5+5 * (k % 5))) (by rw [bitsI_xor]) rfl (turnOf_lt _) ⟨_,rfl,by omega,B8.drew.canSet0 (by simp; omega) rfl,fun w4 h4=>?_⟩
    rw [h4.at]
    refine UpTo.next (by rw [wrap_i64_small (by omega) (by omega)]; omega) hk ⟨(M.step_drew).step_set (fun h=>by simp only [hNe] at h; omega),B3.drew.set_ne (by simp; omega),B5.drew.set_ne (by simp; omega),B7.drew.set_ne (by simp; omega),?_⟩
    have:=B8.drew.set (k % 5+5 * ((2 * x+3 * k) % 5)) (uV ((s (x % 5+5 * (k % 5)) ^^^ (par s ((x+4) % 5) ^^^ (par s ((x+1) % 5)).rotateLeft 1)).rotateLeft (turnOf (x % 5+5 * (k % 5)))))
    rw [set_arrOf] at this
    refine (arrOf_congr (fun j hj=>?_)) ▸ this
    have e1:bbK s (k % 5+5 * ((2 * x+3 * k) % 5))=(s (x % 5+5 * (k % 5)) ^^^ (par s ((x+4) % 5) ^^^ (par s ((x+1) % 5)).rotateLeft 1)).rotateLeft (turnOf (x % 5+5 * (k % 5))):=by
     rw [bbK,c3.2.1,c3.2.2,bbXY,Nat.mod_eq_of_lt hx,Nat.mod_eq_of_lt hk,ddK]
    have c4:=cond2 x hx k hk j hj
    rw [← e1]
    by_cases hj':j=k % 5+5 * ((2 * x+3 * k) % 5)
    ·rw [if_pos hj',if_pos (c4.2 (.inl hj')),hj']
    ·rw [if_neg hj']
     congr 2
     simp only [c4,hj',false_or]
   ·rintro _ w3 ⟨M,B3,B5,B7,B8⟩
    refine UpTo.next (by rw [wrap_i64_small (by omega) (by omega)]; omega) hx ⟨M,B3,B5,B7,?_⟩
    refine (arrOf_congr (fun j hj=>?_)) ▸ B8
    congr 2
    have:j % 5 < 5:=by omega
    simp only [this,and_true]
    have:(j % 5+3 * (j / 5)) % 5 < x+1↔(j % 5+3 * (j / 5)) % 5 < x∨(j % 5+3 * (j / 5)) % 5=x:=by omega
    simp only [this]
  ·clear M B3 B5 B7 B8
   rintro _ w1 ⟨M,B3,B5,B7,B8⟩ d52 w53 ⟨rfl,rfl⟩
   have hsz:Q < w1.heap.size:=B8.lt
   have hsz5:N+1 < w1.heap.size:=B5.lt
   have B9:=Blk.new w1 173 (Array.replicate 25 (.int .u64 0))
   replace B5:=B5.alloc (.cells (Array.replicate 25 (.int .u64 0)) 173)
   replace B8:=B8.alloc (.cells (Array.replicate 25 (.int .u64 0)) 173)
   replace M:=M.step_alloc (.cells (Array.replicate 25 (.int .u64 0)) 173)
   clear B3 B7
   have e8:arrOf 25 (fun j=>uV (if (j % 5+3 * (j / 5)) % 5 < 5 then bbK s j else 0))=lanesA (bbK s) :=
    arrOf_congr (fun j hj=>by rw [if_pos (by omega)])
   rw [e8] at B8
   generalize w1.alloc (.cells (Array.replicate 25 (.int .u64 0)) 173)=w2 at *
   generalize w1.heap.size=T at *
   refine loopN 5 (fun x w'=>Vcg.Mod NoB w w'∧Blk w' (N+1) 173 (Array.replicate 25 (.int .u64 0))∧Blk w' Q 173 (lanesA (bbK s)) ∧
    Blk w' T 173 (arrOf 25 (fun j=>uV (if j % 5 < x then chiK (bbK s) j else 0)))) rfl
    ⟨M,B5,B8,by rw [replicate_arrOf] at B9; simp only [Nat.not_lt_zero,if_false]; exact B9⟩ ?_ ?_
   ·clear M B5 B8 B9
    rintro x _ w2 hx ⟨M,B5,B8,B9⟩
    refine loopN 5 (fun k w'=>Vcg.Mod NoB w w'∧Blk w' (N+1) 173 (Array.replicate 25 (.int .u64 0))∧Blk w' Q 173 (lanesA (bbK s)) ∧
     Blk w' T 173 (arrOf 25 (fun j=>uV (if j % 5 < x∨j % 5=x∧j / 5 < k then chiK (bbK s) j else 0)))) rfl
     ⟨M,B5,B8,by simpa using B9⟩ ?_ ?_
    ·clear M B5 B8 B9
     rintro k _ w3 hk ⟨M,B5,B8,B9⟩
     rintro _ rfl
     refine at_calls x k rfl rfl (by omega) (by omega) ⟨_,rfl,?_⟩
     refine at_calls x k rfl rfl (by omega) (by omega) ⟨_,rfl,by omega,_,B8.drew.rd0 (get_lanesA _ (by omega)),?_⟩
     refine at_calls (x+1) k (by rw [wrap_i64_small (by omega) (by omega)]; omega) rfl (by omega) (by omega) ⟨_,rfl,B8.drew.rd0 (get_lanesA _ (by omega)),by omega,_,B8.drew.rd0 (get_lanesA _ (by omega)),?_⟩
     refine at_calls (x+2) k (by rw [wrap_i64_small (by omega) (by omega)]; omega) rfl (by omega) (by omega) ⟨_,rfl,B8.drew.rd0 (get_lanesA _ (by omega)),B8.drew.rd0 (get_lanesA _ (by omega)),by omega,_,B8.drew.rd0 (get_lanesA _ (by omega)),by omega,B9.drew.canSet0 (by simp; omega) rfl,fun w4 h4=>?_⟩
     rw [h4.at]
     refine UpTo.next (by rw [wrap_i64_small (by omega) (by omega)]; omega) hk ⟨(M.step_drew).step_set (fun h=>by simp only [hNe] at h; omega),B5.drew.set_ne (by simp; omega),B8.drew.set_ne (by simp; omega),?_⟩
     rw [bitsI_not,bitsI_and,bitsI_xor]
     have:=B9.drew.set (x % 5+5 * (k % 5)) (uV (bbK s (x % 5+5 * (k % 5)) ^^^ (~~~ bbK s ((x+1) % 5+5 * (k % 5)) &&& bbK s ((x+2) % 5+5 * (k % 5)))))
     rw [set_arrOf] at this
     refine (arrOf_congr (fun j hj=>?_)) ▸ this
     have e1:chiK (bbK s) (x % 5+5 * (k % 5))=bbK s (x % 5+5 * (k % 5)) ^^^ (~~~ bbK s ((x+1) % 5+5 * (k % 5)) &&& bbK s ((x+2) % 5+5 * (k % 5))):=by
      rw [chiK,show (x % 5+5 * (k % 5)) % 5=x by omega,show (x % 5+5 * (k % 5)) / 5=k by omega,show k % 5=k by omega]
     rw [← e1]
     by_cases hj':j=x % 5+5 * (k % 5)
     ·rw [if_pos hj',if_pos (by omega),hj']
     ·rw [if_neg hj']
      congr 2
      have:(j % 5 < x∨j % 5=x∧j / 5 < k+1)↔(j % 5 < x∨j % 5=x∧j / 5 < k):=by omega
      simp only [this]
    ·rintro _ w3 ⟨M,B5,B8,B9⟩
     refine UpTo.next (by rw [wrap_i64_small (by omega) (by omega)]; omega) hx ⟨M,B5,B8,?_⟩
     refine (arrOf_congr (fun j hj=>?_)) ▸ B9
     congr 2
     have:j % 5 < x+1↔j % 5 < x∨j % 5=x∧j / 5 < 5:=by omega
     simp only [this]
   ·clear M B5 B8 B9
    rintro _ w3 ⟨M,B5,B8,B9⟩ _ rfl
    have hp':=hp.mod (M.step_drew) (fun h=>h)
    refine ⟨_,B9.drew.rd1 (get_arrOf_lt (by omega)),by omega,_,by rw [add_at,Int.toNat_natCast]; exact hp'.rc _ hn,B9.drew.canSet (by simp) rfl,?_⟩
    rintro w4 rfl
    have B9':=B9.drew.set 0 (uV (rnd n s 0))
    rw [set_arrOf] at B9'
    rw [if_pos (by omega),bitsI_xor]
    have e9:(arrOf 25 fun j=>if j=0 then uV (rnd n s 0) else uV (if j % 5 < 5 then chiK (bbK s) j else 0))=lanesA (rnd n s) :=
     arrOf_congr (fun j hj=>by
      by_cases h0:j=0
      ·rw [if_pos h0,h0]
      ·rw [if_neg h0,if_pos (by omega),rnd,if_neg h0])
    rw [e9] at B9'
    have B5':Blk (w3.drew.setCell ⟨T,0,none⟩ (uV (rnd n s 0))) (N+1) 173 (Array.replicate 25 (.int .u64 0)):=B5.drew.set_ne (by simp; omega)
    have M':Vcg.Mod NoB w (w3.drew.setCell ⟨T,0,none⟩ (uV (rnd n s 0))):=(M.step_drew).step_set (fun h=>by simp only [hNe] at h; omega)
    have e10:chiK (bbK s) 0 ^^^ rcOf n=rnd n s 0:=by simp [rnd]
    rw [e10]
    refine ⟨_,B9'.rowAll (size_lanesA _),_,B5'.storeAll (L:=lanesA (rnd n s)) (by rw [size_lanesA]; kernel_rfl) (by rw [size_lanesA,Array.size_replicate]) (lanesA_one _),_,(B5'.row_same _).rowAll (size_lanesA _),rfl,M'.step_row (fun h=>by omega)⟩

end Go.Proofs.YtfghidehlnfdiaaGreat
end
section
namespace Go.Proofs.YtfghidehlnfdiaaGreat
open Go Go.Vcg

def rcA:Array Value:=arrOf 24 (fun i=>uV (rcOf i))
def turnA:Array Value:=arrOf 25 (fun i=>.int .i64 (turnOf i:Int))
theorem size_rcA:rcA.size=24:=size_arrOf _ _
theorem size_turnA:turnA.size=25:=size_arrOf _ _

theorem turns_calls (w:World):Calls Tryz.prog keccak_turns.n #[] w (fun e w'=>e=.returned (.agg turnA)∧Vcg.Mod NoB w w'):=by
 refine keccak_turns.vc _ _ ?_
 unfold keccak_turns.Vc
 rintro d0 w1 ⟨rfl,rfl⟩ d2 w3 ⟨rfl,rfl⟩
 have B0:=(Blk.new w 169 (Array.replicate 25 (.int .i64 0))).alloc (.cells (Array.replicate 25 (.int .i64 0)) 169)
 have B2:=Blk.new (w.alloc (.cells (Array.replicate 25 (.int .i64 0)) 169)) 169 (Array.replicate 25 (.int .i64 0))
 have M:=(Mod.alloc (S:=NoB) w (.cells (Array.replicate 25 (.int .i64 0)) 169)).step_alloc (.cells (Array.replicate 25 (.int .i64 0)) 169)
 simp only [size_alloc] at B2 ⊢
 generalize (w.alloc (.cells (Array.replicate 25 (.int .i64 0)) 169)).alloc (.cells (Array.replicate 25 (.int .i64 0)) 169)=w3 at *
 generalize hNe:w.heap.size=N at *
 refine ⟨fun n5 n6 n7 w'=>∃t:Nat,n7=t∧t≤24∧n5=((xyOf t).1:Nat)∧n6=((xyOf t).2:Nat)∧Vcg.Mod NoB w w'∧Blk w' N 169 (Array.replicate 25 (.int .i64 0)) ∧
  Blk w' (N+1) 169 (arrOf 25 (fun i=>.int .i64 (tarr t i:Int))),fun _ _ n _=>(24 - n).toNat,⟨0,rfl,by omega,rfl,rfl,M,B0,by rw [replicate_arrOf] at B2; exact B2⟩,?_⟩
 clear M B0 B2
 rintro _ _ _ _ w4 ⟨t,rfl,ht,rfl,rfl,M,B0,B2⟩
 refine ⟨fun hlt=>?_,fun hge=>?_⟩
 ·have hxy:=xy_lt t (by omega)
  refine at_calls (xyOf t).1 (xyOf t).2 rfl rfl (by omega) (by omega) ⟨_,rfl,by omega,B2.canSet0 (by simp; omega) rfl,fun w5 h5=>?_⟩
  rw [h5.at]
  refine ⟨⟨t+1,by rw [wrap_i64_small (by omega) (by omega)]; omega,by omega,rfl,?_,M.step_set (fun h=>by simp only [hNe] at h; omega),B0.set_ne (by simp),?_⟩,?_⟩
  ·simp only [xyOf]
   simp (disch:=omega) only [tmod_nn,wrap_i64_small]; omega
  ·have:=B2.set ((xyOf t).1 % 5+5 * ((xyOf t).2 % 5)) (.int .i64 ((((t+1) * (t+2) / 2 % 64:Nat)):Int))
   rw [set_arrOf] at this
   rw [turn_num t (by omega)]
   refine (arrOf_congr (fun j hj=>?_)) ▸ this
   rw [tarr,Nat.mod_eq_of_lt hxy.1,Nat.mod_eq_of_lt hxy.2]
   dsimp only
   split <;> rfl
  ·dsimp only
   rw [wrap_i64_small (n:=(t:Int)+1) (by omega) (by omega)]; omega
 ·obtain rfl:t=24:=by omega
  have e:(arrOf 25 fun i=>Value.int .i64 (tarr 24 i:Int))=turnA:=arrOf_congr (fun j hj=>by rw [tarr_end j hj])
  rw [e] at B2
  exact ⟨_,B2.rowAll size_turnA,_,B0.storeAll (L:=turnA) (by rw [size_turnA]; kernel_rfl) (by rw [size_turnA,Array.size_replicate]) (arrOf_one (fun _=>rfl)),_,
   (B0.row_same _).rowAll size_turnA,rfl,M.step_row (fun h=>by omega)⟩

theorem constants_calls (w:World):Calls Tryz.prog keccak_constants.n #[] w (fun e w'=>e=.returned (.agg rcA)∧Vcg.Mod NoB w w'):=by
 refine keccak_constants.vc _ _ ?_
 unfold keccak_constants.Vc
 rintro d0 w1 ⟨rfl,rfl⟩ d2 w3 ⟨rfl,rfl⟩
 have B0:=(Blk.new w 168 (Array.replicate 24 (.int .u64 0))).alloc (.cells (Array.replicate 24 (.int .u64 0)) 168)
 have B2:=Blk.new (w.alloc (.cells (Array.replicate 24 (.int .u64 0)) 168)) 168 (Array.replicate 24 (.int .u64 0))
 have M:=(Mod.alloc (S:=NoB) w (.cells (Array.replicate 24 (.int .u64 0)) 168)).step_alloc (.cells (Array.replicate 24 (.int .u64 0)) 168)
 simp only [size_alloc] at B2 ⊢
 generalize (w.alloc (.cells (Array.replicate 24 (.int .u64 0)) 168)).alloc (.cells (Array.replicate 24 (.int .u64 0)) 168)=w3 at *
 generalize hNe:w.heap.size=N at *
 refine ⟨fun n5 n6 w'=>∃i:Nat,n6=i∧i≤24∧n5=(regOf (7 * i):Nat)∧Vcg.Mod NoB w w'∧Blk w' N 168 (Array.replicate 24 (.int .u64 0)) ∧
  Blk w' (N+1) 168 (arrOf 24 (fun j=>uV (if j < i then rcOf j else 0))),fun _ n _=>(24 - n).toNat,⟨0,rfl,by omega,rfl,M,B0,by rw [replicate_arrOf] at B2; exact B2⟩,?_⟩
 clear M B0 B2
 rintro _ _ _ w4 ⟨i,rfl,hi,rfl,M,B0,B2⟩
 refine ⟨fun hlt=>?_,fun hge=>?_⟩
 ·refine ⟨fun n9 n10 w'=>∃j:Nat,n10=j∧j≤7∧n9=(regOf (7 * i+j):Nat)∧Vcg.Mod NoB w w'∧Blk w' N 168 (Array.replicate 24 (.int .u64 0)) ∧
   Blk w' (N+1) 168 (arrOf 24 (fun k=>uV (if k < i then rcOf k else if k=i then rcPart i j else 0))),fun _ n _=>(7 - n).toNat,⟨0,rfl,by omega,rfl,M,B0,?_⟩,?_⟩
  ·refine (arrOf_congr (fun k hk=>?_)) ▸ B2
   simp [rcPart]
  clear M B0 B2
  rintro _ _ _ w5 ⟨j,rfl,hj,rfl,M,B0,B2⟩
  refine ⟨fun hlt'=>?_,fun hge'=>?_⟩
  ·rintro _ rfl
   have hr:=reg_lt (7 * i+j) (by omega)
   rw [pow_sh j (by omega),reg_and _ (by omega)]
   refine ⟨by omega,_,B2.drew.rd0 (get_arrOf_lt (by omega)),by omega,by omega,by omega,B2.drew.canSet0 (by simp; omega) rfl,fun w6 h6=>?_⟩
   rw [h6.at]
   have e0:IntKind.wrap .u64 ((regOf (7 * i+j) % 2:Nat):Int)=uI (if regOf (7 * i+j) % 2=1 then (1:BitVec 64) else 0):=by
    rw [wrap_u64]
    by_cases h1:regOf (7 * i+j) % 2=1
    ·rw [if_pos h1,h1]; decide
    ·rw [if_neg h1,show regOf (7 * i+j) % 2=0 by omega]; decide
   rw [e0,shlI_u]
   simp only [if_true,Nat.lt_irrefl,if_false]
   rw [bitsI_or]
   have B0':Blk (w5.drew.setCell ⟨N+1,i,none⟩ (uV (rcPart i (j+1)))) N 168 (Array.replicate 24 (.int .u64 0)):=B0.drew.set_ne (by simp)
   have M':Vcg.Mod NoB w (w5.drew.setCell ⟨N+1,i,none⟩ (uV (rcPart i (j+1)))):=(M.step_drew).step_set (fun h=>by simp only [hNe] at h; omega)
   have B2':=B2.drew.set i (uV (rcPart i (j+1)))
   rw [set_arrOf] at B2'
   have B2'':Blk (w5.drew.setCell ⟨N+1,i,none⟩ (uV (rcPart i (j+1)))) (N+1) 168 (arrOf 24 (fun k=>uV (if k < i then rcOf k else if k=i then rcPart i (j+1) else 0))):=by
    refine (arrOf_congr (fun k hk=>?_)) ▸ B2'
    grind
   have ew:IntKind.wrap .i64 ((regOf (7 * i+j):Int) * 2)=((regOf (7 * i+j) * 2:Nat):Int):=by rw [wrap_i64_small (by omega) (by omega)]; omega
   rw [ew]
   have em:(7 - IntKind.wrap .i64 ((j:Int)+1)).toNat < (7 - (j:Int)).toNat:=by rw [wrap_i64_small (by omega) (by omega)]; omega
   refine ⟨fun h=>⟨⟨j+1,by rw [wrap_i64_small (by omega) (by omega)]; omega,by omega,?_,M',B0',B2''⟩,em⟩,fun h=>⟨⟨j+1,by rw [wrap_i64_small (by omega) (by omega)]; omega,by omega,?_,M',B0',B2''⟩,em⟩⟩
   ·rw [wrap_i64_small (by omega) (by omega)]
    have:=reg_next (7 * i+j) (by omega) (by omega)
    refine Eq.trans ?_ this
    congr 1
    omega
   ·rw [← reg_next' _ (by omega)]; rfl
  ·obtain rfl:j=7:=by omega
   refine ⟨⟨i+1,by rw [wrap_i64_small (by omega) (by omega)]; omega,by omega,rfl,M,B0,?_⟩,by rw [wrap_i64_small (by omega) (by omega)]; dsimp only; omega⟩
   refine (arrOf_congr (fun k hk=>?_)) ▸ B2
   have:=rcPart_end i (by omega)
   grind
 ·obtain rfl:i=24:=by omega
  have e:(arrOf 24 fun j=>uV (if j < 24 then rcOf j else 0))=rcA:=arrOf_congr (fun j hj=>by rw [if_pos hj])
  rw [e] at B2
  exact ⟨_,B2.rowAll size_rcA,_,B0.storeAll (L:=rcA) (by rw [size_rcA]; kernel_rfl) (by rw [size_rcA,Array.size_replicate]) (arrOf_one (fun _=>rfl)),_,
   (B0.row_same _).rowAll size_rcA,rfl,M.step_row (fun h=>by omega)⟩

end Go.Proofs.YtfghidehlnfdiaaGreat
end
section
namespace Go.Proofs.YtfghidehlnfdiaaGreat
open Go Go.Vcg

def planA:Array Value:=arrOf 49 (fun i=>if i < 24 then uV (rcOf i) else .int .i64 (turnOf (i - 24):Int))
theorem size_planA:planA.size=49:=size_arrOf _ _
theorem planA_one:∀v∈planA.toList,v.oneCell'=true:=arrOf_one (fun i=>by split <;> rfl)
theorem PlanAt.of_blk {w:World} {b o:Nat} {t:TypeId} {cs:Array Value} (h:Blk w b t cs) (hc:∀i,i < 49→cs[o+i]?=planA[i]?):PlanAt w b o:=by
 refine ⟨h.lt,fun i hi=>?_,fun i hi=>?_⟩
 ·rw [h.cell,hc i (by omega),planA,get_arrOf_lt (by omega),if_pos hi]
 ·rw [h.cell,Nat.add_assoc,hc (24+i) (by omega),planA,get_arrOf_lt (by omega),if_neg (by omega),Nat.add_sub_cancel_left]

theorem planned_calls (w:World):Calls Tryz.prog keccak_planned.n #[] w (fun e w'=>e=.returned (.agg planA)∧Vcg.Mod NoB w w'):=by
 refine keccak_planned.vc _ _ ?_
 unfold keccak_planned.Vc
 rintro d0 w1 ⟨rfl,rfl⟩
 refine (constants_calls _).mono ?_
 rintro _ w2 ⟨rfl,M2⟩
 refine ⟨_,rfl,(turns_calls _).mono ?_⟩
 rintro _ w3 ⟨rfl,M3⟩
 refine ⟨_,rfl,size_rcA,size_turnA,?_⟩
 have M:=((Mod.alloc (S:=NoB) w _).none_trans M2).none_trans M3
 have B:=((Blk.new w _ _).mod' M2).mod' M3
 rw [show lputL (lputL _ 0 24 rcA) 24 25 turnA=planA from by kernel_rfl]
 exact ⟨_,B.storeAll (L:=planA) (by rw [size_planA]; kernel_rfl) (by rw [size_planA]; rfl) planA_one,_,(B.row_same _).rowAll size_planA,rfl,M.step_row (fun h=>by omega)⟩

theorem permuted_calls {w:World} (s:St) (b o:Nat) (hp:PlanAt w b o) :
 Calls Tryz.prog keccak_state_permuted.n #[.agg (lanesA s),.pointer (some ⟨b,o,none⟩)] w
  (fun e w'=>e=.returned (.agg (lanesA (keccakF s)))∧Vcg.Mod NoB w w'):=by
 refine keccak_state_permuted.vc _ _ _ _ ?_
 unfold keccak_state_permuted.Vc
 rintro d2 w3 ⟨rfl,rfl⟩ d4 w5 ⟨rfl,rfl⟩
 have B2:=(Blk.new w 173 (lanesA s)).alloc (.cells (Array.replicate 25 (.int .u64 0)) 173)
 have B4:=Blk.new (w.alloc (.cells (lanesA s) 173)) 173 (Array.replicate 25 (.int .u64 0))
 have M:=(Mod.alloc (S:=NoB) w (.cells (lanesA s) 173)).step_alloc (.cells (Array.replicate 25 (.int .u64 0)) 173)
 simp only [size_alloc] at B4 ⊢
 generalize (w.alloc (.cells (lanesA s) 173)).alloc (.cells (Array.replicate 25 (.int .u64 0)) 173)=w5 at *
 generalize hNe:w.heap.size=N at *
 refine loopN 24 (fun n w'=>Vcg.Mod NoB w w'∧Blk w' N 173 (lanesA (rnds n s))∧Blk w' (N+1) 173 (Array.replicate 25 (.int .u64 0))) rfl ⟨M,B2,B4⟩ ?_ ?_
 ·clear M B2 B4
  rintro n _ w6 hn ⟨M,B2,B4⟩
  refine ⟨_,B2.rowAll (size_lanesA _),(round_calls (rnds n s) b o n hn (hp.mod M (fun h=>h))).mono ?_⟩
  rintro _ w7 ⟨rfl,M7⟩
  refine ⟨_,rfl,_,(B2.mod' M7).storeAll (L:=lanesA (rnds (n+1) s)) (by rw [size_lanesA]; kernel_rfl) (by rw [size_lanesA,size_lanesA]) (lanesA_one _),?_⟩
  exact UpTo.next (by rw [wrap_i64_small (by omega) (by omega)]; omega) hn ⟨(M.none_trans M7).step_row (fun h=>by omega),(B2.mod' M7).row_same _,(B4.mod' M7).row_ne (by omega)⟩
 ·clear M B2 B4
  rintro _ w6 ⟨M,B2,B4⟩
  exact ⟨_,B2.rowAll (size_lanesA _),_,B4.storeAll (L:=lanesA (keccakF s)) (by rw [size_lanesA]; kernel_rfl) (by rw [size_lanesA,Array.size_replicate]) (lanesA_one _),_,
   (B4.row_same _).rowAll (size_lanesA _),rfl,M.step_row (fun h=>by omega)⟩


theorem left_calls {R:Ending→World→Prop} {w:World} {n0 n1:Int} (x:BitVec 64) (k:Nat) (h0:n0=uI x) (h1:n1=(k:Int)) (hk:k < 64)
 (h:∀w',Vcg.Mod NoB w w'→w'.heap=w.heap→R (.returned (uV (x.rotateLeft k))) w'):Calls Tryz.prog moraineref3_left.n #[.int .u64 n0,.int .i64 n1] w R:=by
 subst h0 h1
 refine moraineref3_left.vc _ _ _ _ ?_
 unfold moraineref3_left.Vc
 refine ⟨fun hz=>?_,fun hz=>?_⟩
 ·have:x.rotateLeft k=x:=by
   obtain rfl:k=0:=by omega
   rw [BitVec.rotateLeft_def]
   apply BitVec.eq_of_toNat_eq
   simp [Nat.shiftRight_eq_div_pow,Nat.div_eq_of_lt x.isLt]
  rw [this] at h
  exact h w (Mod.refl w) rfl
 ·rintro _ rfl
  have e2:IntKind.wrap .i64 (64 - (k:Int))=((64 - k:Nat):Int):=by
   rw [wrap_i64_small (by omega) (by omega)]; omega
  rw [e2]
  refine ⟨by omega,by omega,?_⟩
  rw [shlI_u,shrI_u _ _ _ rfl,bitsI_or]
  have e3:x <<< k ||| x >>> (64 - k)=x.rotateLeft k:=by
   rw [BitVec.rotateLeft_def,Nat.mod_eq_of_lt hk]
  rw [e3]
  exact h _ (Mod.drew w) rfl

end Go.Proofs.YtfghidehlnfdiaaGreat
end
section
namespace Go.Proofs.YtfghidehlnfdiaaGreat
open Go Go.Vcg

theorem par_eq (s:St) (x:Nat):par s x=s x ^^^ s (x+5) ^^^ s (x+10) ^^^ s (x+15) ^^^ s (x+20):=by
 simp [par,parK]

theorem refPermute_calls (w:World) (s:St) :
 Calls Tryz.prog moraineref3_Permute.n #[.agg (lanesA s)] w (fun e w'=>e=.returned (.agg (lanesA (keccakF s)))∧Vcg.Mod NoB w w'):=by
 refine moraineref3_Permute.vc _ _ _ ?_
 unfold moraineref3_Permute.Vc
 rintro d1 w2 ⟨rfl,rfl⟩ d3 w4 ⟨rfl,rfl⟩ d5 w6 ⟨rfl,rfl⟩
 have B1:=((Blk.new w 149 (lanesA s)).alloc (.cells (Array.replicate 25 (.int .u64 0)) 149)).alloc (.cells (Array.replicate 25 (.int .i64 0)) 169)
 have B3:=(Blk.new (w.alloc (.cells (lanesA s) 149)) 149 (Array.replicate 25 (.int .u64 0))).alloc (.cells (Array.replicate 25 (.int .i64 0)) 169)
 have B5:=Blk.new ((w.alloc (.cells (lanesA s) 149)).alloc (.cells (Array.replicate 25 (.int .u64 0)) 149)) 169 (Array.replicate 25 (.int .i64 0))
 have M:=((Mod.alloc (S:=NoB) w (.cells (lanesA s) 149)).step_alloc (.cells (Array.replicate 25 (.int .u64 0)) 149)).step_alloc (.cells (Array.replicate 25 (.int .i64 0)) 169)
 simp only [size_alloc] at B3 B5 ⊢
 generalize ((w.alloc (.cells (lanesA s) 149)).alloc (.cells (Array.replicate 25 (.int .u64 0)) 149)).alloc (.cells (Array.replicate 25 (.int .i64 0)) 169)=w6 at *
 generalize hNe:w.heap.size=N at *
 refine ⟨_,B5.storeAll (L:=Array.replicate 25 (.int .i64 0)) (by rw [Array.size_replicate]; kernel_rfl) (by rw [Array.size_replicate]) (by rw [replicate_arrOf]; exact arrOf_one (fun _=>rfl)),?_⟩
 replace B1:=B1.row_ne (g:=N+1+1) (c:=Array.replicate 25 (.int .i64 0)) (by omega)
 replace B3:=B3.row_ne (g:=N+1+1) (c:=Array.replicate 25 (.int .i64 0)) (by omega)
 replace B5:=B5.row_same (Array.replicate 25 (.int .i64 0))
 replace M:=M.step_row (g:=N+1+1) (cs:=Array.replicate 25 (.int .i64 0)) (fun h=>by omega)
 generalize w6.setRow (N+1+1) (Array.replicate 25 (.int .i64 0))=w7 at *
 refine ⟨fun n5 n6 n7 w'=>∃t:Nat,n7=t∧t≤24∧n5=((xyOf t).1:Nat)∧n6=((xyOf t).2:Nat)∧Vcg.Mod NoB w w'∧Blk w' N 149 (lanesA s)∧Blk w' (N+1) 149 (Array.replicate 25 (.int .u64 0)) ∧
  Blk w' (N+1+1) 169 (arrOf 25 (fun i=>.int .i64 (tarr t i:Int))),fun _ _ n _=>(24 - n).toNat,⟨0,rfl,by omega,rfl,rfl,M,B1,B3,by rw [replicate_arrOf] at B5; exact B5⟩,?_⟩
 clear M B1 B3 B5
 rintro _ _ _ _ w4 ⟨t,rfl,ht,rfl,rfl,M,B1,B3,B5⟩
 refine ⟨fun hlt=>?_,fun hge=>?_⟩
 ·have hxy:=xy_lt t (by omega)
  have ei:IntKind.wrap .i64 (((xyOf t).1:Int)+IntKind.wrap .i64 (5 * ((xyOf t).2:Int)))=(((xyOf t).1+5 * (xyOf t).2:Nat):Int):=by
   simp (disch:=omega) only [wrap_i64_small]; omega
  rw [ei]
  refine ⟨by omega,B5.canSet0 (by simp; omega) rfl,fun w5 h5=>?_⟩
  rw [h5.at]
  refine ⟨⟨t+1,by rw [wrap_i64_small (by omega) (by omega)]; omega,by omega,rfl,?_,M.step_set (fun h=>by simp only [hNe] at h; omega),B1.set_ne (by simp; omega),B3.set_ne (by simp),?_⟩,?_⟩
  ·simp only [xyOf]
   simp (disch:=omega) only [tmod_nn,wrap_i64_small]; omega
  ·have:=B5.set ((xyOf t).1+5 * (xyOf t).2) (.int .i64 ((((t+1) * (t+2) / 2 % 64:Nat)):Int))
   rw [set_arrOf] at this
   rw [turn_num t (by omega)]
   refine (arrOf_congr (fun j hj=>?_)) ▸ this
   rw [tarr]
   dsimp only
   split <;> rfl
  ·dsimp only
   rw [wrap_i64_small (n:=(t:Int)+1) (by omega) (by omega)]; omega
 obtain rfl:t=24:=by omega
 have e:(arrOf 25 fun i=>Value.int .i64 (tarr 24 i:Int))=turnA:=arrOf_congr (fun j hj=>by rw [tarr_end j hj])
 rw [e] at B5
 clear e
 refine ⟨fun n15 n16 w'=>∃r:Nat,n16=r∧r≤24∧n15=(regOf (7 * r):Nat)∧Vcg.Mod NoB w w'∧Blk w' N 149 (lanesA (rnds r s))∧Blk w' (N+1) 149 (Array.replicate 25 (.int .u64 0)) ∧
  Blk w' (N+1+1) 169 turnA,fun _ n _=>(24 - n).toNat,⟨0,rfl,by omega,rfl,M,B1,B3,B5⟩,?_⟩
 clear M B1 B3 B5
 rintro _ _ _ w1 ⟨r,rfl,hr,rfl,M,B1,B3,B5⟩
 refine ⟨fun hlt=>?_,fun hge=>?_⟩
 ·rintro d18 w19 ⟨rfl,rfl⟩
  have hq:N+1+1 < w1.heap.size:=B5.lt
  have B7:=Blk.new w1 181 #[(.int .u64 0),(.int .u64 0),(.int .u64 0),(.int .u64 0),(.int .u64 0)]
  replace B1:=B1.alloc (.cells #[(.int .u64 0),(.int .u64 0),(.int .u64 0),(.int .u64 0),(.int .u64 0)] 181)
  replace B3:=B3.alloc (.cells #[(.int .u64 0),(.int .u64 0),(.int .u64 0),(.int .u64 0),(.int .u64 0)] 181)
  replace B5:=B5.alloc (.cells #[(.int .u64 0),(.int .u64 0),(.int .u64 0),(.int .u64 0),(.int .u64 0)] 181)
  replace M:=M.step_alloc (.cells #[(.int .u64 0),(.int .u64 0),(.int .u64 0),(.int .u64 0),(.int .u64 0)] 181)
  generalize w1.alloc (.cells #[(.int .u64 0),(.int .u64 0),(.int .u64 0),(.int .u64 0),(.int .u64 0)] 181)=w2 at *
  generalize w1.heap.size=Q at *
  generalize hs':rnds r s=s' at *
  have e5:#[(.int .u64 0),(.int .u64 0),(.int .u64 0),(.int .u64 0),(.int .u64 0)]=arrOf 5 (fun i=>uV (if i < 0 then par s' i else 0)):=by rfl
  rw [e5] at B7
  clear e5
  refine loopN 5 (fun x w'=>Vcg.Mod NoB w w'∧Blk w' N 149 (lanesA s')∧Blk w' (N+1) 149 (Array.replicate 25 (.int .u64 0))∧Blk w' (N+1+1) 169 turnA ∧
   Blk w' Q 181 (arrOf 5 (fun i=>uV (if i < x then par s' i else 0)))) rfl ⟨M,B1,B3,B5,B7⟩ ?_ ?_
  ·clear M B1 B3 B5 B7
   rintro x _ w3 hx ⟨M,B1,B3,B5,B7⟩
   rintro _ rfl
   have e5:IntKind.wrap .i64 ((x:Int)+5)=((x+5:Nat):Int):=by rw [wrap_i64_small (by omega) (by omega)]; omega
   have e10:IntKind.wrap .i64 ((x:Int)+10)=((x+10:Nat):Int):=by rw [wrap_i64_small (by omega) (by omega)]; omega
   have e15:IntKind.wrap .i64 ((x:Int)+15)=((x+15:Nat):Int):=by rw [wrap_i64_small (by omega) (by omega)]; omega
   have e20:IntKind.wrap .i64 ((x:Int)+20)=((x+20:Nat):Int):=by rw [wrap_i64_small (by omega) (by omega)]; omega
   rw [e5,e10,e15,e20]
   clear e5 e10 e15 e20
   refine ⟨by omega,_,B1.drew.rd0 (get_lanesA _ (by omega)),by omega,_,B1.drew.rd0 (get_lanesA _ (by omega)),by omega,_,B1.drew.rd0 (get_lanesA _ (by omega)),by omega,_,B1.drew.rd0 (get_lanesA _ (by omega)),by omega,_,B1.drew.rd0 (get_lanesA _ (by omega)),by omega,B7.drew.canSet0 (by simp; omega) rfl,fun w4 h4=>?_⟩
   rw [h4.at,bitsI_xor,bitsI_xor,bitsI_xor,bitsI_xor,← par_eq]
   refine UpTo.next (by rw [wrap_i64_small (by omega) (by omega)]; omega) hx ⟨(M.step_drew).step_set (fun h=>by simp only [hNe] at h; omega),B1.drew.set_ne (by simp; omega),B3.drew.set_ne (by simp; omega),B5.drew.set_ne (by simp; omega),?_⟩
   have:=B7.drew.set x (uV (par s' x))
   rw [set_arrOf] at this
   refine (arrOf_congr (fun j hj=>?_)) ▸ this
   grind
  clear M B1 B3 B5 B7
  rintro _ w3 ⟨M,B1,B3,B5,B7⟩ d30 w31 ⟨rfl,rfl⟩
  have hq2:Q < w3.heap.size:=B7.lt
  have B8:=Blk.new w3 149 (Array.replicate 25 (.int .u64 0))
  replace B1:=B1.alloc (.cells (Array.replicate 25 (.int .u64 0)) 149)
  replace B3:=B3.alloc (.cells (Array.replicate 25 (.int .u64 0)) 149)
  replace B5:=B5.alloc (.cells (Array.replicate 25 (.int .u64 0)) 149)
  replace B7:=B7.alloc (.cells (Array.replicate 25 (.int .u64 0)) 149)
  replace M:=M.step_alloc (.cells (Array.replicate 25 (.int .u64 0)) 149)
  have e7:arrOf 5 (fun i=>uV (if i < 5 then par s' i else 0))=arrOf 5 (fun i=>uV (par s' i)):=arrOf_congr (fun i hi=>by rw [if_pos hi])
  rw [e7] at B7
  clear e7
  generalize w3.alloc (.cells (Array.replicate 25 (.int .u64 0)) 149)=w4 at *
  generalize w3.heap.size=T at *
  refine loopN 5 (fun x w'=>Vcg.Mod NoB w w'∧Blk w' N 149 (lanesA s')∧Blk w' (N+1) 149 (Array.replicate 25 (.int .u64 0))∧Blk w' (N+1+1) 169 turnA ∧
   Blk w' Q 181 (arrOf 5 (fun i=>uV (par s' i)))∧Blk w' T 149 (arrOf 25 (fun j=>uV (if (j % 5+3 * (j / 5)) % 5 < x then bbK s' j else 0)))) rfl
   ⟨M,B1,B3,B5,B7,by rw [replicate_arrOf] at B8; simp only [Nat.not_lt_zero,if_false]; exact B8⟩ ?_ ?_
  ·clear M B1 B3 B5 B7 B8
   rintro x _ w5 hx ⟨M,B1,B3,B5,B7,B8⟩
   refine loopN 5 (fun k w'=>Vcg.Mod NoB w w'∧Blk w' N 149 (lanesA s')∧Blk w' (N+1) 149 (Array.replicate 25 (.int .u64 0))∧Blk w' (N+1+1) 169 turnA ∧
    Blk w' Q 181 (arrOf 5 (fun i=>uV (par s' i)))∧Blk w' T 149 (arrOf 25 (fun j=>uV (if (j % 5+3 * (j / 5)) % 5 < x∨(j % 5+3 * (j / 5)) % 5=x∧j % 5 < k then bbK s' j else 0)))) rfl
    ⟨M,B1,B3,B5,B7,by simpa using B8⟩ ?_ ?_
   ·clear M B1 B3 B5 B7 B8
    rintro k _ w5 hk ⟨M,B1,B3,B5,B7,B8⟩
    rintro _ rfl
    have c3:=cond2' x hx k hk
    have a1:IntKind.wrap .i64 ((x:Int)+IntKind.wrap .i64 (5 * (k:Int)))=((x+5 * k:Nat):Int):=by simp (disch:=omega) only [wrap_i64_small]; omega
    have a2:Int.tmod (IntKind.wrap .i64 ((x:Int)+4)) 5=(((x+4) % 5:Nat):Int):=by simp (disch:=omega) only [tmod_nn,wrap_i64_small]; omega
    have a3:Int.tmod (IntKind.wrap .i64 ((x:Int)+1)) 5=(((x+1) % 5:Nat):Int):=by simp (disch:=omega) only [tmod_nn,wrap_i64_small]; omega
    have a4:IntKind.wrap .i64 ((k:Int)+IntKind.wrap .i64 (5 * Int.tmod (IntKind.wrap .i64 (IntKind.wrap .i64 (2 * (x:Int))+IntKind.wrap .i64 (3 * (k:Int)))) 5))=((k % 5+5 * ((2 * x+3 * k) % 5):Nat):Int):=by
     simp (disch:=omega) only [tmod_nn,wrap_i64_small]; omega
    rw [a1,a2,a3,a4]
    clear a1 a2 a3 a4
    have l1:(x+4) % 5 < 5:=Nat.mod_lt _ (by decide)
    have l2:(x+1) % 5 < 5:=Nat.mod_lt _ (by decide)
    refine ⟨by omega,_,B1.drew.rd0 (get_lanesA _ (by omega)),by omega,_,B7.drew.rd0 (get_arrOf_lt l1),by omega,_,B7.drew.rd0 (get_arrOf_lt l2),left_calls _ 1 rfl rfl (by omega) fun w6 M6 E6=>⟨_,rfl,(B7.drew.mod' M6).rd0 (get_arrOf_lt l1),(B1.drew.mod' M6).rd0 (get_lanesA _ (by omega)),by omega,_,(B5.drew.mod' M6).rd0 (get_arrOf_lt (by omega)),?_⟩⟩
    rw [bitsI_xor,bitsI_xor]
    refine left_calls _ (turnOf (x+5 * k)) rfl rfl (turnOf_lt _) fun w7 M7 E7=>⟨_,rfl,by omega,((B8.drew.mod' M6).mod' M7).canSet0 (by simp; omega) rfl,fun w8 h8=>?_⟩
    rw [h8.at]
    refine UpTo.next (by rw [wrap_i64_small (by omega) (by omega)]; omega) hk ⟨(((M.step_drew).none_trans M6).none_trans M7).step_set (fun h=>by simp only [hNe] at h; omega),((B1.drew.mod' M6).mod' M7).set_ne (by simp; omega),((B3.drew.mod' M6).mod' M7).set_ne (by simp; omega),((B5.drew.mod' M6).mod' M7).set_ne (by simp; omega),((B7.drew.mod' M6).mod' M7).set_ne (by simp; omega),?_⟩
    have:=((B8.drew.mod' M6).mod' M7).set (k % 5+5 * ((2 * x+3 * k) % 5)) (uV ((s' (x+5 * k) ^^^ par s' ((x+4) % 5) ^^^ (par s' ((x+1) % 5)).rotateLeft 1).rotateLeft (turnOf (x+5 * k))))
    rw [set_arrOf] at this
    refine (arrOf_congr (fun j hj=>?_)) ▸ this
    have e1:bbK s' (k % 5+5 * ((2 * x+3 * k) % 5))=(s' (x+5 * k) ^^^ par s' ((x+4) % 5) ^^^ (par s' ((x+1) % 5)).rotateLeft 1).rotateLeft (turnOf (x+5 * k)):=by
     rw [bbK,c3.2.1,c3.2.2,bbXY,ddK,BitVec.xor_assoc]
    have c4:=cond2 x hx k hk j hj
    rw [← e1]
    by_cases hj':j=k % 5+5 * ((2 * x+3 * k) % 5)
    ·rw [if_pos hj',if_pos (c4.2 (.inl hj')),hj']
    ·rw [if_neg hj']
     congr 2
     simp only [c4,hj',false_or]
   ·rintro _ w6 ⟨M,B1,B3,B5,B7,B8⟩
    refine UpTo.next (by rw [wrap_i64_small (by omega) (by omega)]; omega) hx ⟨M,B1,B3,B5,B7,?_⟩
    refine (arrOf_congr (fun j hj=>?_)) ▸ B8
    congr 2
    have:j % 5 < 5:=by omega
    simp only [this,and_true]
    have:(j % 5+3 * (j / 5)) % 5 < x+1↔(j % 5+3 * (j / 5)) % 5 < x∨(j % 5+3 * (j / 5)) % 5=x:=by omega
    simp only [this]
  clear M B1 B3 B5 B7 B8
  rintro _ w5 ⟨M,B1,B3,B5,_,B8⟩
  have e8:arrOf 25 (fun j=>uV (if (j % 5+3 * (j / 5)) % 5 < 5 then bbK s' j else 0))=lanesA (bbK s') :=
   arrOf_congr (fun j hj=>by rw [if_pos (by omega)])
  rw [e8] at B8
  clear e8
  refine loopN 5 (fun x w'=>Vcg.Mod NoB w w'∧Blk w' N 149 (arrOf 25 (fun j=>uV (if j % 5 < x then chiK (bbK s') j else s' j)))∧Blk w' (N+1) 149 (Array.replicate 25 (.int .u64 0))∧Blk w' (N+1+1) 169 turnA ∧
   Blk w' T 149 (lanesA (bbK s'))) rfl
   ⟨M,by simp only [Nat.not_lt_zero,if_false]; exact B1,B3,B5,B8⟩ ?_ ?_
  ·clear M B1 B3 B5 B8
   rintro x _ w6 hx ⟨M,B1,B3,B5,B8⟩
   refine loopN 5 (fun k w'=>Vcg.Mod NoB w w'∧Blk w' N 149 (arrOf 25 (fun j=>uV (if j % 5 < x∨j % 5=x∧j / 5 < k then chiK (bbK s') j else s' j)))∧Blk w' (N+1) 149 (Array.replicate 25 (.int .u64 0))∧Blk w' (N+1+1) 169 turnA ∧
    Blk w' T 149 (lanesA (bbK s'))) rfl ⟨M,by simpa using B1,B3,B5,B8⟩ ?_ ?_
   ·clear M B1 B3 B5 B8
    rintro k _ w6 hk ⟨M,B1,B3,B5,B8⟩
    rintro _ rfl
    have a1:IntKind.wrap .i64 ((x:Int)+IntKind.wrap .i64 (5 * (k:Int)))=((x+5 * k:Nat):Int):=by simp (disch:=omega) only [wrap_i64_small]; omega
    have a2:IntKind.wrap .i64 (Int.tmod (IntKind.wrap .i64 ((x:Int)+1)) 5+IntKind.wrap .i64 (5 * (k:Int)))=(((x+1) % 5+5 * k:Nat):Int):=by
     simp (disch:=omega) only [tmod_nn,wrap_i64_small]; omega
    have a3:IntKind.wrap .i64 (Int.tmod (IntKind.wrap .i64 ((x:Int)+2)) 5+IntKind.wrap .i64 (5 * (k:Int)))=(((x+2) % 5+5 * k:Nat):Int):=by
     simp (disch:=omega) only [tmod_nn,wrap_i64_small]; omega
    rw [a1,a2,a3]
    clear a1 a2 a3
    refine ⟨by omega,_,B8.drew.rd0 (get_lanesA _ (by omega)),by omega,_,B8.drew.rd0 (get_lanesA _ (by omega)),by omega,_,B8.drew.rd0 (get_lanesA _ (by omega)),by omega,B1.drew.canSet0 (by simp; omega) rfl,fun w7 h7=>?_⟩
    rw [h7.at,bitsI_not,bitsI_and,bitsI_xor]
    refine UpTo.next (by rw [wrap_i64_small (by omega) (by omega)]; omega) hk ⟨(M.step_drew).step_set (fun h=>by simp only [hNe] at h; omega),?_,B3.drew.set_ne (by simp),B5.drew.set_ne (by simp; omega),B8.drew.set_ne (by simp; omega)⟩
    have:=B1.drew.set (x+5 * k) (uV (bbK s' (x+5 * k) ^^^ (~~~ bbK s' ((x+1) % 5+5 * k) &&& bbK s' ((x+2) % 5+5 * k))))
    rw [set_arrOf] at this
    refine (arrOf_congr (fun j hj=>?_)) ▸ this
    have e1:chiK (bbK s') (x+5 * k)=bbK s' (x+5 * k) ^^^ (~~~ bbK s' ((x+1) % 5+5 * k) &&& bbK s' ((x+2) % 5+5 * k)):=by
     rw [chiK,show (x+5 * k) % 5=x by omega,show (x+5 * k) / 5=k by omega]
    rw [← e1]
    by_cases hj':j=x+5 * k
    ·rw [if_pos hj',if_pos (by omega),hj']
    ·rw [if_neg hj']
     congr 2
     have:(j % 5 < x∨j % 5=x∧j / 5 < k+1)↔(j % 5 < x∨j % 5=x∧j / 5 < k):=by omega
     simp only [this]
   ·rintro _ w7 ⟨M,B1,B3,B5,B8⟩
    refine UpTo.next (by rw [wrap_i64_small (by omega) (by omega)]; omega) hx ⟨M,?_,B3,B5,B8⟩
    refine (arrOf_congr (fun j hj=>?_)) ▸ B1
    congr 2
    have:j % 5 < x+1↔j % 5 < x∨j % 5=x∧j / 5 < 5:=by omega
    simp only [this]
  clear M B1 B3 B5 B8
  rintro _ w6 ⟨M,B1,B3,B5,B8⟩
  have e9:arrOf 25 (fun j=>uV (if j % 5 < 5 then chiK (bbK s') j else s' j))=arrOf 25 (fun j=>uV (if j=0 then chiK (bbK s') 0 ^^^ rcXor r 0 else chiK (bbK s') j)) :=
   arrOf_congr (fun j hj=>by rw [if_pos (by omega)]; by_cases h0:j=0 <;> simp [h0,rcXor])
  rw [e9] at B1
  clear e9 B8
  refine ⟨fun n62 n63 w'=>∃j:Nat,n63=j∧j≤7∧n62=(regOf (7 * r+j):Nat)∧Vcg.Mod NoB w w'∧Blk w' N 149 (arrOf 25 (fun i=>uV (if i=0 then chiK (bbK s') 0 ^^^ rcXor r j else chiK (bbK s') i)))∧Blk w' (N+1) 149 (Array.replicate 25 (.int .u64 0)) ∧
   Blk w' (N+1+1) 169 turnA,fun _ n _=>(7 - n).toNat,⟨0,rfl,by omega,rfl,M,B1,B3,B5⟩,?_⟩
  clear M B1 B3 B5
  rintro _ _ _ w7 ⟨j,rfl,hj,rfl,M,B1,B3,B5⟩
  refine ⟨fun hlt'=>?_,fun hge'=>?_⟩
  ·have hreg:=reg_lt (7 * r+j) (by omega)
   have em:(7 - IntKind.wrap .i64 ((j:Int)+1)).toNat < (7 - (j:Int)).toNat:=by rw [wrap_i64_small (by omega) (by omega)]; omega
   have ew:IntKind.wrap .i64 (2 * (regOf (7 * r+j):Int))=((regOf (7 * r+j) * 2:Nat):Int):=by rw [wrap_i64_small (by omega) (by omega)]; omega
   have ej:IntKind.wrap .i64 ((j:Int)+1)=((j+1:Nat):Int):=by rw [wrap_i64_small (by omega) (by omega)]; omega
   have g1:((regOf (7 * r+j) * 2:Nat):Int)≥256→bitsI .xor .i64 (IntKind.wrap .i64 (((regOf (7 * r+j) * 2:Nat):Int) - 256)) 113=(regOf (7 * r+(j+1)):Int):=by
    intro h
    rw [wrap_i64_small (by omega) (by omega)]
    have:=reg_next (7 * r+j) (by omega) (by omega)
    refine Eq.trans ?_ this
    congr 1
    omega
   have g2:¬((regOf (7 * r+j) * 2:Nat):Int)≥256→((regOf (7 * r+j) * 2:Nat):Int)=(regOf (7 * r+(j+1)):Int):=by
    intro h
    rw [← reg_next' _ (by omega)]; rfl
   rw [tmod_nn _ _ (by omega),ew,pow_sh j (by omega)]
   refine ⟨fun h1=>?_,fun h1=>?_⟩
   ·rintro _ rfl
    refine ⟨_,B1.drew.rd1 (get_arrOf_lt (by omega)),by omega,by omega,B1.drew.canSet (by simp) rfl,?_⟩
    rintro w8 rfl
    rw [if_pos rfl]
    have e1:(1:Int)=uI (1:BitVec 64):=by decide
    have e2:bitsI .xor .u64 (uI (chiK (bbK s') 0 ^^^ rcXor r j)) (shlI .u64 1 ((2 ^ j - 1:Nat):Int))=uI (chiK (bbK s') 0 ^^^ rcXor r (j+1)):=by
     rw [e1,shlI_u,bitsI_xor,rcXor,if_pos (by omega),BitVec.xor_assoc]
    rw [e2]
    have B1':=B1.drew.set 0 (uV (chiK (bbK s') 0 ^^^ rcXor r (j+1)))
    rw [set_arrOf] at B1'
    have e3:(arrOf 25 fun i=>if i=0 then uV (chiK (bbK s') 0 ^^^ rcXor r (j+1)) else uV (if i=0 then chiK (bbK s') 0 ^^^ rcXor r j else chiK (bbK s') i))=arrOf 25 (fun i=>uV (if i=0 then chiK (bbK s') 0 ^^^ rcXor r (j+1) else chiK (bbK s') i)) :=
     arrOf_congr (fun i hi=>by by_cases h0:i=0 <;> simp [h0])
    rw [e3] at B1'
    have M':Vcg.Mod NoB w (w7.drew.setCell ⟨N,0,none⟩ (uV (chiK (bbK s') 0 ^^^ rcXor r (j+1)))):=(M.step_drew).step_set (fun h=>by simp only [hNe] at h; omega)
    exact ⟨fun h=>⟨⟨j+1,ej,by omega,g1 h,M',B1',B3.drew.set_ne (by simp),B5.drew.set_ne (by simp; omega)⟩,em⟩,fun h=>⟨⟨j+1,ej,by omega,g2 h,M',B1',B3.drew.set_ne (by simp),B5.drew.set_ne (by simp; omega)⟩,em⟩⟩
   ·have e2:rcXor r (j+1)=rcXor r j:=by
     rw [rcXor,if_neg (by omega)]; simp
    rw [← e2] at B1
    exact ⟨fun h=>⟨⟨j+1,ej,by omega,g1 h,M,B1,B3,B5⟩,em⟩,fun h=>⟨⟨j+1,ej,by omega,g2 h,M,B1,B3,B5⟩,em⟩⟩
  ·obtain rfl:j=7:=by omega
   refine ⟨⟨r+1,by rw [wrap_i64_small (by omega) (by omega)]; omega,by omega,rfl,M,?_,B3,B5⟩,by rw [wrap_i64_small (by omega) (by omega)]; dsimp only; omega⟩
   have e:arrOf 25 (fun i=>uV (if i=0 then chiK (bbK s') 0 ^^^ rcXor r 7 else chiK (bbK s') i))=lanesA (rnds (r+1) s) :=
    arrOf_congr (fun i hi=>by rw [rcXor_end r (by omega),rnds,hs',rnd])
   exact e ▸ B1
 ·obtain rfl:r=24:=by omega
  exact ⟨_,B1.rowAll (size_lanesA _),_,B3.storeAll (L:=lanesA (keccakF s)) (by rw [size_lanesA]; kernel_rfl) (by rw [size_lanesA,Array.size_replicate]) (lanesA_one _),_,
   (B3.row_same _).rowAll (size_lanesA _),rfl,M.step_row (fun h=>by omega)⟩

end Go.Proofs.YtfghidehlnfdiaaGreat
end
section
namespace Go.Vcg

abbrev bV (b:UInt8):Value:=.int .u8 (b.toNat:Int)

def RdB (w:World) (o:Option Addr) (bs:List UInt8):Prop :=
 bs≠[]→∃b f,o=some ⟨b,f,none⟩∧b < w.heap.size∧∀i,i < bs.length→w.cell? ⟨b,f+i,none⟩=some (bV (bs.getD i 0))

def Off (S:Nat→Prop) (o:Option Addr):Prop:=∀d,o=some d→¬S d.block

theorem RdB.nil (w:World) (o:Option Addr):RdB w o []:=fun h=>(h rfl).elim
theorem RdB.mod {S:Nat→Prop} {w w':World} {o:Option Addr} {bs:List UInt8} (h:RdB w o bs) (m:Mod S w w') (hs:Off S o):RdB w' o bs:=by
 intro hb
 obtain ⟨b,f,rfl,hl,hc⟩:=h hb
 exact ⟨b,f,rfl,Nat.lt_of_lt_of_le hl m.size,fun i hi=>(World.cell?_of_block (m.block b hl (hs _ rfl))).trans (hc i hi)⟩
theorem RdB.mod' {w w':World} {o:Option Addr} {bs:List UInt8} (h:RdB w o bs) (m:Mod NoB w w'):RdB w' o bs:=h.mod m (fun _ _ h=>h)
theorem RdB.sub {w:World} {o:Option Addr} {bs:List UInt8} {c lo n:Nat} (h:RdB w o bs) (hl:bs.length≤c):RdB w (subO o c lo 1) ((bs.drop lo).take n):=by
 intro hne
 have h1:lo < bs.length:=by
  rcases Nat.lt_or_ge lo bs.length with h | h
  ·exact h
  ·rw [List.drop_eq_nil_of_le h] at hne; simp at hne
 have hb:bs≠[]:=by intro e; rw [e] at h1; simp at h1
 obtain ⟨b,f,rfl,hlt,hc⟩:=h hb
 refine ⟨b,f+lo,?_,hlt,fun i hi=>?_⟩
 ·rw [subO,if_neg (by omega)]; simp
 ·rw [List.length_take,List.length_drop] at hi
  rw [Nat.add_assoc,hc (lo+i) (by omega)]
  congr 2
  simp only [List.getD_eq_getElem?_getD]
  rw [List.getElem?_take_of_lt (by omega),List.getElem?_drop]
theorem RdB.take {w:World} {o:Option Addr} {bs:List UInt8} (h:RdB w o bs) (n:Nat):RdB w o (bs.take n):=by
 intro hne
 have hb:bs≠[]:=by intro e; rw [e] at hne; simp at hne
 obtain ⟨b,f,rfl,hlt,hc⟩:=h hb
 refine ⟨b,f,rfl,hlt,fun i hi=>?_⟩
 rw [List.length_take] at hi
 rw [hc i (by omega)]
 simp only [List.getD_eq_getElem?_getD]
 rw [List.getElem?_take_of_lt (by omega)]
theorem RdB.get {w:World} {o:Option Addr} {bs:List UInt8} (h:RdB w o bs) {i:Nat} (hi:i < bs.length) :
 ∃d,o=some d∧w.cell? (Addr.add d (Int.toNat (i:Int)))=some (bV (bs.getD i 0)):=by
 obtain ⟨b,f,rfl,hlt,hc⟩:=h (by intro e; rw [e] at hi; simp at hi)
 exact ⟨_,rfl,by rw [Int.toNat_natCast,add_at]; exact hc i hi⟩
theorem RdB.of_blk {w:World} {b f:Nat} {t:TypeId} {cs:Array Value} {bs:List UInt8} (h:Blk w b t cs) (hc:∀i,i < bs.length→cs[f+i]?=some (bV (bs.getD i 0))):RdB w (some ⟨b,f,none⟩) bs :=
 fun _=>⟨b,f,rfl,h.lt,fun i hi=>by rw [h.cell,hc i hi]⟩

def byteW (b:UInt8):BitVec 64:=b.toBitVec.setWidth 64
theorem uI_byteW (b:UInt8):uI (byteW b)=(b.toNat:Int):=by
 simp only [uI,byteW,BitVec.toNat_setWidth,UInt8.toNat_toBitVec]
 have:=b.toNat_lt
 omega
def leK (bs:List UInt8):Nat→BitVec 64
 | 0=>0
 | k+1=>leK bs k ||| (byteW (bs.getD k 0) <<< (8 * k))
def leWord (bs:List UInt8):BitVec 64:=leK bs bs.length

def leByte (x:BitVec 64) (i:Nat):UInt8:=UInt8.ofBitVec ((x >>> (8 * i)).setWidth 8)
def leL (x:BitVec 64) (k:Nat):List UInt8:=(List.range k).map (leByte x)
theorem length_leL (x:BitVec 64) (k:Nat):(leL x k).length=k:=by simp [leL]
theorem leL_succ (x:BitVec 64) (k:Nat):leL x (k+1)=leL x k++[leByte x k]:=by simp [leL,List.range_succ]
theorem wrap_u8 (n:Int):IntKind.wrap .u8 n=n % 256:=by simp [IntKind.wrap,IntKind.bits,IntKind.signed]
theorem wrap_u8_word (y:BitVec 64):IntKind.wrap .u8 (uI y)=((UInt8.ofBitVec (y.setWidth 8)).toNat:Int):=by
 rw [wrap_u8]
 show (y.toNat:Int) % 256=((y.setWidth 8).toNat:Int)
 rw [BitVec.toNat_setWidth]
 omega
theorem bitsI_or_u8 (a b:UInt8):bitsI .or .u8 (a.toNat:Int) (b.toNat:Int)=((a ||| b).toNat:Int):=by
 have h:∀x:UInt8,BitVec.ofInt 8 (x.toNat:Int)=x.toBitVec:=by
  intro x
  apply BitVec.eq_of_toNat_eq
  have:=x.toNat_lt
  simp
 simp only [bitsI,IntKind.bits,h,wrap_u8]
 show (((a.toBitVec ||| b.toBitVec:BitVec 8).toNat:Nat):Int) % 256=(((a ||| b).toBitVec).toNat:Int)
 rw [UInt8.toBitVec_or]
 have:=(a.toBitVec ||| b.toBitVec:BitVec 8).isLt
 omega

def xorB (s:St) (blk:List UInt8):St:=fun i=>if i < 17 then s i ^^^ leWord ((blk.drop (8 * i)).take 8) else s i
def absorbB (s:St) (blk:List UInt8):St:=keccakF (xorB s blk)
def eatK (s:St) (bs:List UInt8):Nat→St
 | 0=>s
 | k+1=>absorbB (eatK s bs k) ((bs.drop (136 * k)).take 136)
def zeroS:St:=fun _=>0
def stOf (m:List UInt8):St:=eatK zeroS m (m.length / 136)
def restOf (m:List UInt8):List UInt8:=m.drop (136 * (m.length / 136))
def padAt (r:List UInt8) (i:Nat):UInt8:=(if i < r.length then r.getD i 0 else if i=r.length then 1 else 0) ||| (if i=135 then 128 else 0)
def padB (r:List UInt8):List UInt8:=(List.range 136).map (padAt r)
def lastS (m:List UInt8):St:=absorbB (stOf m) (padB (restOf m))
def outAt (s:St) (i:Nat):UInt8:=UInt8.ofBitVec ((s (i / 8) >>> (8 * (i % 8))).setWidth 8)
def sumOf (m:List UInt8):List UInt8:=(List.range 32).map (outAt (lastS m))
def hashA (h:List UInt8):Array Value:=arrOf 32 (fun i=>bV (h.getD i 0))

theorem eatK_add (s:St) (bs:List UInt8) (q:Nat):∀k,eatK s bs (q+k)=eatK (eatK s bs q) (bs.drop (136 * q)) k
 | 0=>rfl
 | k+1=>by
   rw [← Nat.add_assoc,eatK,eatK_add s bs q k,eatK,List.drop_drop]
   congr 4
   omega
theorem eatK_append (s:St) (m b:List UInt8):∀k,136 * k≤m.length→eatK s (m++b) k=eatK s m k
 | 0,_=>rfl
 | k+1,h=>by
   rw [eatK,eatK_append s m b k (by omega),eatK]
   congr 1
   rw [List.drop_append_of_le_length (by omega),List.take_append_of_le_length (by rw [List.length_drop]; omega)]
theorem length_restOf (m:List UInt8):(restOf m).length=m.length % 136:=by
 rw [restOf,List.length_drop]; omega
theorem restOf_lt (m:List UInt8):(restOf m).length < 136:=by rw [length_restOf]; omega
theorem rest_append (m b:List UInt8):restOf m++b=(m++b).drop (136 * (m.length / 136)):=by
 rw [restOf,List.drop_append_of_le_length (by omega)]
theorem stOf_append (m b:List UInt8):stOf (m++b)=eatK (stOf m) (restOf m++b) ((restOf m++b).length / 136):=by
 rw [rest_append,stOf,stOf]
 have h1:(m++b).length / 136=m.length / 136+((m++b).drop (136 * (m.length / 136))).length / 136:=by
  rw [List.length_drop,List.length_append]; omega
 rw [h1,eatK_add,eatK_append _ _ _ _ (by omega)]
theorem restOf_append (m b:List UInt8):restOf (m++b)=(restOf m++b).drop (136 * ((restOf m++b).length / 136)):=by
 rw [rest_append,restOf,List.drop_drop]
 congr 1
 rw [List.length_drop,List.length_append]; omega
theorem length_sumOf (m:List UInt8):(sumOf m).length=32:=by simp [sumOf]
theorem length_padB (r:List UInt8):(padB r).length=136:=by simp [padB]
theorem getD_padB (r:List UInt8) {i:Nat} (h:i < 136):(padB r).getD i 0=padAt r i:=by simp [padB,List.getD_eq_getElem?_getD,h]
theorem getD_sumOf (m:List UInt8) {i:Nat} (h:i < 32):(sumOf m).getD i 0=outAt (lastS m) i:=by simp [sumOf,List.getD_eq_getElem?_getD,h]

end Go.Vcg
end
section
namespace Go.Vcg

def Own (w:World) (e:TypeId) (sz:Nat) (o:Option Addr) (l c:Nat) (xs:List Value):Prop :=
 xs.length=l * sz∧((o=none∧l=0∧c=0) ∨
  ∃g cur,o=some ⟨g,0,none⟩∧Blk w g e cur∧l≤c∧c≤maxLen∧cur.size=c * sz∧cur.toList.take (l * sz)=xs)
def OB (o:Option Addr):Nat→Prop:=fun k=>∃d,o=some d∧d.block=k

theorem OB_none (k:Nat):¬OB none k:=by rintro ⟨d,h,_⟩; cases h
theorem Own.nil (w:World) (e:TypeId) (sz:Nat):Own w e sz none 0 0 []:=⟨by simp,.inl ⟨rfl,rfl,rfl⟩⟩
theorem Own.mod {S:Nat→Prop} {w w':World} {e:TypeId} {sz:Nat} {o:Option Addr} {l c:Nat} {xs:List Value} (h:Own w e sz o l c xs) (m:Mod S w w') (hs:∀k,OB o k→¬S k):Own w' e sz o l c xs:=by
 refine ⟨h.1,?_⟩
 rcases h.2 with hn | ⟨g,cur,rfl,hb,rest⟩
 ·exact .inl hn
 ·exact .inr ⟨g,cur,rfl,hb.mod m (hs g ⟨_,rfl,rfl⟩),rest⟩
theorem Own.mod' {w w':World} {e:TypeId} {sz:Nat} {o:Option Addr} {l c:Nat} {xs:List Value} (h:Own w e sz o l c xs) (m:Mod NoB w w'):Own w' e sz o l c xs:=h.mod m (fun _ _ h=>h)
theorem Own.lt {w:World} {e:TypeId} {sz:Nat} {o:Option Addr} {l c:Nat} {xs:List Value} (h:Own w e sz o l c xs) {k:Nat} (hk:OB o k):k < w.heap.size:=by
 obtain ⟨d,rfl,rfl⟩:=hk
 rcases h.2 with ⟨h,_⟩ | ⟨g,cur,h,hb,rest⟩
 ·cases h
 ·cases h; exact hb.lt
theorem Own.len {w:World} {e:TypeId} {o:Option Addr} {l c:Nat} {xs:List Value} (h:Own w e 1 o l c xs):xs.length=l:=by have:=h.1; omega
theorem Own.cap {w:World} {e:TypeId} {sz:Nat} {o:Option Addr} {l c:Nat} {xs:List Value} (h:Own w e sz o l c xs):l≤c∧c≤maxLen:=by
 rcases h.2 with ⟨_,rfl,rfl⟩ | ⟨g,cur,_,_,h1,h2,_⟩
 ·exact ⟨Nat.le_refl _,Nat.zero_le _⟩
 ·exact ⟨h1,h2⟩
theorem Own.cell {w:World} {e:TypeId} {sz:Nat} {o:Option Addr} {l c:Nat} {xs:List Value} (h:Own w e sz o l c xs) {i:Nat} {v:Value} (hv:xs[i]?=some v) :
 ∃g,o=some ⟨g,0,none⟩∧w.cell? ⟨g,i,none⟩=some v:=by
 rcases h.2 with ⟨_,rfl,_⟩ | ⟨g,cur,ho,hb,_,_,hs,ht⟩
 ·have:=h.1; simp at this; subst this; simp at hv
 ·refine ⟨g,ho,?_⟩
  rw [hb.cell]
  rw [← ht,List.getElem?_take] at hv
  split at hv
  ·simpa using hv
  ·cases hv

theorem Own.bytes {w:World} {e:TypeId} {o:Option Addr} {l c:Nat} {bs:List UInt8} (h:Own w e 1 o l c (bs.map bV)):RdB w o bs:=by
 intro hne
 have hl:0 < bs.length:=by cases bs <;> simp_all
 obtain ⟨g,rfl,_⟩:=h.cell (i:=0) (v:=bV (bs.getD 0 0)) (by rw [List.getElem?_map]; simp [List.getD_eq_getElem?_getD,hl])
 refine ⟨g,0,rfl,?_,fun i hi=>?_⟩
 ·exact h.lt ⟨_,rfl,rfl⟩
 ·obtain ⟨g',hg,hc⟩:=h.cell (i:=i) (v:=bV (bs.getD i 0)) (by rw [List.getElem?_map]; simp [List.getD_eq_getElem?_getD,hi])
  cases hg
  rw [Nat.zero_add]; exact hc

theorem src_bytes {P:Program} {w:World} {tx e':TypeId} (hk:P.underlying tx=some (.slice e')) {o:Option Addr} {c:Nat} {bs:List UInt8} (h:RdB w o bs) :
 Src P 1 tx (.slice o bs.length c) bs.length (bs.map bV) w:=by
 by_cases hb:bs=[]
 ·subst hb
  cases o with
  | none=>exact Src.ofNil w hk c
  | some a=>exact Src.ofSlice w hk a 0 c [] (by simp) (by simp) (by simp)
 ·obtain ⟨b,f,rfl,hl,hc⟩:=h hb
  refine Src.ofSlice w hk _ _ c _ (by simp) (fun j u hu=>?_) (by simp; intro a _; rfl)
  rw [add_at]
  rw [List.getElem?_map,Option.map_eq_some_iff] at hu
  obtain ⟨x,hx,rfl⟩:=hu
  obtain ⟨hj,rfl⟩:=List.getElem?_eq_some_iff.1 hx
  rw [hc j hj]
  simp [List.getD_eq_getElem?_getD,hj]
theorem src_one {P:Program} {w:World} {tx e':TypeId} (hk:P.underlying tx=some (.slice e')) {b:Nat} {t:TypeId} {cs:Array Value} {sz:Nat} (h:Blk w b t cs) (hs:cs.size=sz) (h1:∀v∈cs.toList,v.oneCell'=true) :
 Src P sz tx (.slice (some ⟨b,0,none⟩) 1 1) 1 cs.toList w :=
 Src.ofSlice w hk _ 1 1 _ (by simp [hs]) (fun j u hu=>by rw [add_at,h.cell,Nat.zero_add]; simpa using hu) h1

theorem mod_setCells (w:World) (g:Nat):∀(vs:List Value) (o:Nat),Mod (·=g) w (w.setCells g o vs)
 | [],_=>Mod.refl w
 | v :: vs,o=>by
   have h1:=Mod.setCell w ⟨g,o,none⟩ v
   suffices ∀w1:World,Mod (·=g) w w1→∀(vs:List Value) (o:Nat),Mod (·=g) w (w1.setCells g o vs) from this _ h1 vs (o+1)
   intro w1 h1 vs
   induction vs generalizing w1 with
   | nil=>intro _; exact h1
   | cons v vs ih=>exact fun o=>ih _ (h1.trans (Mod.setCell _ _ _) (fun _ _ h=>h)) _
theorem blk_setCells {g:Nat} {t:TypeId}:∀(vs:List Value) (o:Nat) {cs:Array Value} {w:World},Blk w g t cs→Blk (w.setCells g o vs) g t (setsAt cs o vs)
 | [],_,_,_,h=>h
 | v :: vs,o,cs,w,h=>by
   rw [World.setCells,setsAt]
   exact blk_setCells vs (o+1) (h.set o v)
theorem size_setsAt:∀(vs:List Value) (o:Nat) (cs:Array Value),(setsAt cs o vs).size=cs.size
 | [],_,_=>rfl
 | v :: vs,o,cs=>by rw [setsAt,size_setsAt vs]; simp
theorem get_setsAt:∀(vs:List Value) (o:Nat) (cs:Array Value) (i:Nat),o+vs.length≤cs.size→(setsAt cs o vs)[i]?=if o≤i∧i < o+vs.length then vs[i - o]? else cs[i]?
 | [],o,cs,i,h=>by rw [setsAt,if_neg (by simp)]
 | v :: vs,o,cs,i,h=>by
   rw [List.length_cons] at h
   rw [setsAt,get_setsAt vs (o+1) _ i (by simp; omega),Array.getElem?_setIfInBounds]
   by_cases h1:i=o
   ·subst h1
    rw [if_neg (by omega),if_pos rfl,if_pos (by omega),if_pos (by simp)]
    simp
   ·by_cases h2:o+1≤i∧i < o+1+vs.length
    ·rw [if_pos h2,if_pos (by simp; omega),show i - o=(i - (o+1))+1 by omega]
     simp
    ·rw [if_neg h2,if_neg (by omega),if_neg (by simp; omega)]

theorem append_own {P:Program} {w:World} {t tx ty e:TypeId} {i:TypeInfo} {z:Value} {sz:Nat} {o:Option Addr} {l c:Nat} {xs:List Value} {x:Value} {n:Nat} {news:List Value}
 (ht:P.underlying t=some (.slice e)) (hi:P.info? e=some i) (hz:i.zero=some z) (hs:i.size=sz) (hzs:z.cells.size=sz)
 (h:Own w e sz o l c xs) (src:Src P sz tx x n news w) (h63:l+n≤maxLen) (hb:(l+n) * i.bytes≤140737488355328) :
 ∃o' c' w',Sem.run P (builtinV .append #[t,tx] ty #[.slice o l c,x]) w=.ok (.slice o' (l+n) c') w'∧Own w' e sz o' (l+n) c' (xs++news)∧Mod (OB o) w w' ∧
  (∀k,OB o' k→OB o k∨w.heap.size≤k):=by
 have hlen:(xs++news).length=(l+n) * sz:=by rw [List.length_append,h.1,src.newsLen,Nat.add_mul]
 by_cases hroom:l+n≤c
 ·rcases h.2 with ⟨rfl,rfl,rfl⟩ | ⟨g,cur,rfl,hB,hlc,hcm,hcs,htk⟩
  ·obtain rfl:n=0:=by omega
   have hn:news=[]:=List.eq_nil_of_length_eq_zero (by simpa using src.newsLen)
   have hx:xs=[]:=List.eq_nil_of_length_eq_zero (by simpa using h.1)
   subst hn hx
   refine ⟨none,0,w,?_,Own.nil _ _ _,Mod.refl w,fun k hk=>.inl hk⟩
   have hc:=src.cells
   subst hs
   rcases src.kind with ⟨e',hk⟩ | hk <;> simp [builtinV,Builtin.append_,run_underlying ht,run_underlying hk,sizeOf,typeInfo,hi,src.len,hc]
  ·subst hs
   have hfit:l * i.size+news.length≤cur.size:=by rw [src.newsLen,hcs,← Nat.add_mul]; exact Nat.mul_le_mul_right _ hroom
   have hr:=run_append_room_src (P:=P) w t tx ty e i ht hi g 0 l c x n news src hroom
    (fun j hj=>by rw [Nat.zero_add,hB.cell]; simp; omega) (fun j hj=>by simp [World.frozen?,show w.heap[g]?=_ from hB])
   rw [Nat.zero_add] at hr
   refine ⟨_,_,_,hr,⟨hlen,.inr ⟨g,_,rfl,blk_setCells news _ hB,hroom,hcm,by rw [size_setsAt,hcs],?_⟩⟩,(mod_setCells w g news _).mono (fun k _ hk=>⟨_,rfl,hk.symm⟩),fun k hk=>.inl hk⟩
   apply List.ext_getElem?
   intro j
   rw [List.getElem?_take]
   have hxl:xs.length=l * i.size:=h.1
   by_cases hj:j < (l+n) * i.size
   ·rw [if_pos hj,Array.getElem?_toList,get_setsAt _ _ _ _ hfit]
    by_cases hj2:j < l * i.size
    ·rw [if_neg (by omega),List.getElem?_append_left (by omega),← htk,List.getElem?_take,if_pos hj2,Array.getElem?_toList]
    ·rw [if_pos (by rw [src.newsLen,← Nat.add_mul]; omega),List.getElem?_append_right (by omega),hxl]
   ·rw [if_neg hj,List.getElem?_eq_none (by omega)]
 ·have hold:(Builtin.firstCells i.size l (.slice o l c)).run P w.drew=.ok xs.toArray w.drew:=by
   subst hs
   rcases h.2 with ⟨rfl,rfl,rfl⟩ | ⟨g,cur,rfl,hB,hlc,hcm,hcs,htk⟩
   ·have hx:xs=[]:=List.eq_nil_of_length_eq_zero (by simpa using h.1)
    subst hx
    exact run_firstCells_none w.drew i.size 0 0 0
   ·exact run_firstCells_some w.drew i.size l _ l c xs h.1 (fun j v hv=>by
     rw [add_at,Nat.zero_add]
     obtain ⟨g',hg',hc'⟩:=h.cell hv
     cases hg'
     exact hc')
  have hr:=run_append_grow_src (P:=P) w t tx ty e i z ht hi hz o l c xs hold x n news (hs ▸ src) (by omega) (by simp only [maxLen] at h63; omega) (growslice_fits (by omega) hb)
  have hge:=grownCap_ge w (l+n) c e
  have hcm:grownCap w (l+n) c e≤maxLen:=grownCap_le_maxLen w (l+n) c e h63
  refine ⟨_,_,_,hr,⟨hlen,.inr ⟨_,_,rfl,Blk.new w.drew e _,hge,hcm,?_,?_⟩⟩,((Mod.drew w).step_alloc _),fun k hk=>.inr ?_⟩
  ·rw [Array.size_append,List.size_toArray,hlen,size_zeroCells,hzs,← Nat.add_mul]
   congr 1; omega
  ·rw [Array.toList_append]
   show List.take _ ((xs++news)++_)=_
   rw [← hlen]
   exact List.take_left
  ·obtain ⟨d,hd,rfl⟩:=hk
   cases hd
   exact Nat.le_refl _

theorem copy_blk {P:Program} {w:World} {t tx ty e:TypeId} {g o dLen dCap c n:Nat} {cur:Array Value} {te:TypeId} {o2:Option Addr} {bs:List UInt8}
 (ht:P.underlying t=some (.slice e)) (hi:(P.info? e).map (·.size)=some 1) (h:Blk w g te cur) (hr:RdB w o2 bs) (hn:n=Nat.min bs.length dLen) (hfit:o+n≤cur.size) :
 ∃w',Sem.run P (builtinV .copy #[t,tx] ty #[.slice (some ⟨g,o,none⟩) dLen dCap,.slice o2 bs.length c]) w=.ok (.int .i64 (n:Int)) w'∧Blk w' g te (setsAt cur o ((bs.take n).map bV))∧Mod (·=g) w w':=by
 obtain ⟨i,hi1,hi2⟩:=Option.map_eq_some_iff.1 hi
 have hlen:((bs.take n).map bV).length=n:=by
  rw [List.length_map,List.length_take]
  have:n≤bs.length:=by rw [hn]; exact Nat.min_le_left _ _
  omega
 have hone:∀v∈(bs.take n).map bV,v.oneCell'=true:=by
  intro v hv; obtain ⟨x,_,rfl⟩:=List.mem_map.1 hv; rfl
 have hcells:(Builtin.firstCells 1 n (.slice o2 bs.length c)).run P w=.ok ((bs.take n).map bV).toArray w:=by
  have h1:=hr.take n
  by_cases hb:bs.take n=[]
  ·have h0:n=0:=by rw [← hlen,hb]; rfl
   rw [hb,h0]
   cases o2 with
   | none=>exact run_firstCells_none w 1 0 _ _
   | some a=>exact run_firstCells_some w 1 0 a _ _ [] (by simp) (by simp)
  ·obtain ⟨b,f,rfl,hl,hc⟩:=h1 hb
   refine run_firstCells_some w 1 n _ _ _ _ (by rw [hlen]; omega) (fun j u hu=>?_)
   rw [add_at]
   rw [List.getElem?_map,Option.map_eq_some_iff] at hu
   obtain ⟨x,hx,rfl⟩:=hu
   obtain ⟨hj,rfl⟩:=List.getElem?_eq_some_iff.1 hx
   rw [hc j hj]
   simp only [List.getD_eq_getElem?_getD,hx,Option.getD_some]
 have hst:=run_storeCells_cells (P:=P) g o ((bs.take n).map bV) 0 w
  (fun j hj=>by rw [h.cell]; simp; omega) (fun j hj=>by simp [World.frozen?,show w.heap[g]?=_ from h]) hone
 simp only [Nat.add_zero] at hst
 refine ⟨w.setCells g o ((bs.take n).map bV),?_,blk_setCells _ _ h,mod_setCells _ _ _ _⟩
 have hm:(Builtin.firstCells 1 (Nat.min bs.length dLen) (.slice o2 bs.length c)).run P w=.ok ((bs.take n).map bV).toArray w:=hn ▸ hcells
 clear hcells hone hr
 subst hn
 generalize (bs.take (Nat.min bs.length dLen)).map bV=L at *
 simp only [Builtin.copy_,builtinV]
 simp [run_underlying ht,Builtin.lenOf,sizeOf,typeInfo,hi1,hi2,hm,hst,goInt]

theorem copy_down {P:Program} {w:World} {t tx ty e:TypeId} {o:Option Addr} {l c lo:Nat} {bs:List UInt8}
 (ht:P.underlying t=some (.slice e)) (hi:(P.info? e).map (·.size)=some 1) (h:Own w e 1 o l c (bs.map bV)) (hlo:lo≤l) :
 ∃w',Sem.run P (builtinV .copy #[t,tx] ty #[.slice o l c,.slice (subO o c lo 1) (l - lo) (c - lo)]) w=.ok (.int .i64 ((l - lo:Nat):Int)) w'∧Own w' e 1 o (l - lo) c ((bs.drop lo).map bV)∧Mod (OB o) w w':=by
 have hl:bs.length=l:=by have:=h.len; simpa using this
 have hr:=h.bytes
 have hr':RdB w (subO o c lo 1) (bs.drop lo):=by
  have:=hr.sub (c:=c) (lo:=lo) (n:=bs.length) (by rw [hl]; exact h.cap.1)
  rwa [List.take_of_length_le (by simp)] at this
 rcases h.2 with ⟨rfl,rfl,rfl⟩ | ⟨g,cur,rfl,hB,hlc,hcm,hcs,htk⟩
 ·obtain rfl:lo=0:=by omega
  have:bs=[]:=List.eq_nil_of_length_eq_zero hl
  subst this
  refine ⟨w,?_,Own.nil _ _ _,Mod.refl w⟩
  obtain ⟨i,hi1,hi2⟩:=Option.map_eq_some_iff.1 hi
  simp [builtinV,Builtin.copy_,run_underlying ht,Builtin.lenOf,sizeOf,typeInfo,hi1,Builtin.firstCells,subO,goInt]
 ·obtain ⟨w',h1,h2,h3⟩:=copy_blk (P:=P) (ty:=ty) (tx:=tx) (dLen:=l) (dCap:=c) (n:=l - lo) (o:=0) (c:=c - lo) ht hi hB hr' (by rw [List.length_drop,hl]; exact (Nat.min_eq_left (by omega)).symm) (by omega)
  rw [List.length_drop,hl] at h1
  have hdl:(bs.drop lo).length=l - lo:=by rw [List.length_drop,hl]
  rw [List.take_of_length_le (by omega)] at h2
  have hml:((bs.drop lo).map bV).length=l - lo:=by rw [List.length_map,hdl]
  refine ⟨w',h1,⟨by rw [hml,Nat.mul_one],.inr ⟨g,_,rfl,h2,by omega,hcm,by rw [size_setsAt,hcs],?_⟩⟩,h3.mono (fun k _ hk=>⟨_,rfl,hk.symm⟩)⟩
  apply List.ext_getElem?
  intro j
  rw [List.getElem?_take,Nat.mul_one]
  by_cases hj:j < l - lo
  ·rw [if_pos hj,Array.getElem?_toList,get_setsAt _ _ _ _ (by omega),if_pos (by omega),Nat.sub_zero]
  ·rw [if_neg hj,List.getElem?_eq_none (by omega)]

theorem setsAt_arrOf (n o:Nat) (f g:Nat→Value) (m:Nat) (vs:List Value) (hm:vs.length=m) (hg:∀i,i < m→vs[i]?=some (g i)) (h:o+m≤n) :
 setsAt (arrOf n f) o vs=arrOf n (fun i=>if o≤i∧i < o+m then g (i - o) else f i):=by
 subst hm
 refine eq_arrOf (by rw [size_setsAt,size_arrOf]) (fun i hi=>?_)
 rw [get_setsAt _ _ _ _ (by simpa using h)]
 by_cases h1:o≤i∧i < o+vs.length
 ·rw [if_pos h1,if_pos h1,hg _ (by omega)]
 ·rw [if_neg h1,if_neg h1,get_arrOf_lt hi]
theorem map_bV_get {bs:List UInt8} {i:Nat} (h:i < bs.length):(bs.map bV)[i]?=some (bV (bs.getD i 0)):=by
 rw [List.getElem?_map,List.getElem?_eq_getElem h]
 simp [List.getD_eq_getElem?_getD,h]

def RdBB (w:World) (o:Option Addr) (ls:List (List UInt8)):Prop :=
 ∀i,i < ls.length→∃b f oi ci,o=some ⟨b,f,none⟩∧b < w.heap.size∧w.cell? ⟨b,f+i,none⟩=some (.slice oi (ls.getD i []).length ci)∧RdB w oi (ls.getD i [])
theorem RdBB.mod' {w w':World} {o:Option Addr} {ls:List (List UInt8)} (h:RdBB w o ls) (m:Mod NoB w w'):RdBB w' o ls:=by
 intro i hi
 obtain ⟨b,f,oi,ci,rfl,hl,hc,hr⟩:=h i hi
 exact ⟨b,f,oi,ci,rfl,Nat.lt_of_lt_of_le hl m.size,(World.cell?_of_block (m.block b hl (fun h=>h))).trans hc,hr.mod' m⟩
theorem RdBB.one {w:World} {b:Nat} {t:TypeId} {o:Option Addr} {c:Nat} {bs:List UInt8} (h:Blk w b t #[.slice o bs.length c]) (hr:RdB w o bs):RdBB w (some ⟨b,0,none⟩) [bs]:=by
 intro i hi
 obtain rfl:i=0:=by simpa using hi
 exact ⟨b,0,o,c,rfl,h.lt,by rw [h.cell]; rfl,hr⟩
theorem flatten_take_succ (ls:List (List UInt8)) (i:Nat) (h:i < ls.length):(ls.take (i+1)).flatten=(ls.take i).flatten++ls.getD i []:=by
 rw [List.take_add_one,List.flatten_append,List.getElem?_eq_getElem h]
 simp [List.getD_eq_getElem?_getD,h]

end Go.Vcg
end
section
namespace Go.Proofs.YtfghidehlnfdiaaGreat
open Go Go.Vcg

theorem Unlittle_calls {R:Ending→World→Prop} {w:World} {o:Option Addr} {l c:Nat} (bs:List UInt8) (hl:l=bs.length) (h8:bs.length≤8) (hr:RdB w o bs)
 (h:R (.returned (uV (leWord bs))) w):Calls Tryz.prog plain_Unlittle.n #[.slice o l c] w R:=by
 subst hl
 refine plain_Unlittle.vc _ _ _ _ _ ?_
 unfold plain_Unlittle.Vc
 refine ⟨fun n2 n3 w'=>∃i:Nat,n3=i∧i≤bs.length∧n2=uI (leK bs i)∧w'=w,fun _ n _=>((bs.length:Int) - n).toNat,⟨0,rfl,by omega,rfl,rfl⟩,?_⟩
 rintro _ _ _ _ ⟨i,rfl,hi,rfl,rfl⟩
 refine ⟨fun hlt=>?_,fun hge=>?_⟩
 ·obtain ⟨d,rfl,hd⟩:=hr.get (i:=i) (by omega)
  refine ⟨d,rfl,by omega,_,hd,?_⟩
  have e1:IntKind.wrap .i64 (8 * (i:Int))=((8 * i:Nat):Int):=by rw [wrap_i64_small (by omega) (by omega)]; omega
  have e2:IntKind.wrap .u64 ((bs.getD i 0).toNat:Int)=uI (byteW (bs.getD i 0)):=by rw [← uI_byteW,wrap_uI]
  rw [e1,e2,shlI_u,bitsI_or]
  exact ⟨by omega,⟨i+1,by rw [wrap_i64_small (by omega) (by omega)]; omega,by omega,rfl,rfl⟩,by rw [wrap_i64_small (by omega) (by omega)]; dsimp only; omega⟩
 ·obtain rfl:i=bs.length:=by omega
  exact h

theorem absorb_calls {w:World} (s:St) (b o:Nat) (hp:PlanAt w b o) {o2:Option Addr} {l2 c2:Nat} (blk:List UInt8) (hl:blk.length=136) (hl2:l2=136) (hc:136≤c2) (hr:RdB w o2 blk) :
 Calls Tryz.prog keccak_state_absorb.n #[.agg (lanesA s),.pointer (some ⟨b,o,none⟩),.slice o2 l2 c2] w
  (fun e w'=>e=.returned (.agg (lanesA (absorbB s blk)))∧Vcg.Mod NoB w w'):=by
 subst hl2
 refine keccak_state_absorb.vc _ _ _ _ _ _ _ ?_
 unfold keccak_state_absorb.Vc
 rintro d3 w4 ⟨rfl,rfl⟩ d5 w6 ⟨rfl,rfl⟩
 have B2:=(Blk.new w 173 (lanesA s)).alloc (.cells (Array.replicate 25 (.int .u64 0)) 173)
 have B4:=Blk.new (w.alloc (.cells (lanesA s) 173)) 173 (Array.replicate 25 (.int .u64 0))
 have M:=(Mod.alloc (S:=NoB) w (.cells (lanesA s) 173)).step_alloc (.cells (Array.replicate 25 (.int .u64 0)) 173)
 simp only [size_alloc] at B4 ⊢
 generalize (w.alloc (.cells (lanesA s) 173)).alloc (.cells (Array.replicate 25 (.int .u64 0)) 173)=w5 at *
 generalize hNe:w.heap.size=N at *
 refine loopN 17 (fun n w'=>Vcg.Mod NoB w w'∧Blk w' N 173 (arrOf 25 (fun i=>uV (if i < n then xorB s blk i else s i)))∧Blk w' (N+1) 173 (Array.replicate 25 (.int .u64 0))) rfl
  ⟨M,by simp only [Nat.not_lt_zero,if_false]; exact B2,B4⟩ ?_ ?_
 ·clear M B2 B4
  rintro n _ w6 hn ⟨M,B2,B4⟩
  rintro _ rfl
  have e1:IntKind.wrap .i64 (8 * (n:Int))=((8 * n:Nat):Int):=by rw [wrap_i64_small (by omega) (by omega)]; omega
  have e2:IntKind.wrap .i64 (((8 * n:Nat):Int)+8)=((8 * n+8:Nat):Int):=by rw [wrap_i64_small (by omega) (by omega)]; omega
  rw [e1,e2]
  clear e1 e2
  refine ⟨by omega,_,B2.drew.rd0 (get_arrOf_lt (by omega)),by omega,by omega,?_⟩
  rw [Int.toNat_natCast,Int.toNat_natCast]
  have hr':=((hr.mod' (M.step_drew)).sub (c:=c2) (lo:=8 * n) (n:=8) (by omega))
  have hlen:((blk.drop (8 * n)).take 8).length=8:=by rw [List.length_take,List.length_drop]; omega
  refine Unlittle_calls ((blk.drop (8 * n)).take 8) (by rw [hlen]; omega) (by omega) hr' ⟨_,rfl,B2.drew.rd0 (get_arrOf_lt (by omega)),by omega,B2.drew.canSet0 (by simp; omega) rfl,fun w7 h7=>?_⟩
  rw [h7.at,bitsI_xor]
  simp only [Nat.lt_irrefl,if_false]
  refine UpTo.next (by rw [wrap_i64_small (by omega) (by omega)]; omega) hn ⟨(M.step_drew).step_set (fun h=>by simp only [hNe] at h; omega),?_,B4.drew.set_ne (by simp)⟩
  have:=B2.drew.set n (uV (xorB s blk n))
  rw [set_arrOf] at this
  have e3:s n ^^^ leWord ((blk.drop (8 * n)).take 8)=xorB s blk n:=by rw [xorB,if_pos hn]
  rw [e3]
  refine (arrOf_congr (fun j hj=>?_)) ▸ this
  grind
 ·clear M B2 B4
  rintro _ w6 ⟨M,B2,B4⟩
  have e:(arrOf 25 fun i=>uV (if i < 17 then xorB s blk i else s i))=lanesA (xorB s blk):=arrOf_congr (fun i hi=>by
   by_cases h:i < 17
   ·rw [if_pos h]
   ·rw [if_neg h,xorB,if_neg h])
  rw [e] at B2
  refine ⟨_,B2.rowAll (size_lanesA _),(permuted_calls _ b o (hp.mod M (fun h=>h))).mono ?_⟩
  rintro _ w7 ⟨rfl,M7⟩
  exact ⟨_,rfl,_,(B4.mod' M7).storeAll (L:=lanesA (keccakF (xorB s blk))) (by rw [size_lanesA]; kernel_rfl) (by rw [size_lanesA,Array.size_replicate]) (lanesA_one _),_,
   ((B4.mod' M7).row_same _).rowAll (size_lanesA _),rfl,(M.none_trans M7).step_row (fun h=>by omega)⟩

end Go.Proofs.YtfghidehlnfdiaaGreat
end
section
namespace Go.Proofs.YtfghidehlnfdiaaGreat
open Go
abbrev tU8:TypeId:=5
abbrev tSlU8:TypeId:=23
abbrev tSponge:TypeId:=175
abbrev tState:TypeId:=173
abbrev tHash:TypeId:=27
abbrev tLast:TypeId:=178
abbrev tLanes:TypeId:=149
theorem und_slU8:Tryz.prog.underlying tSlU8=some (.slice tU8):=by kernel_rfl
theorem info_u8:(Tryz.prog.info? tU8).map (fun i=>(i.zero,i.size,i.bytes))=some (some (.int .u8 0),1,1):=by kernel_rfl
theorem info_u8_size:(Tryz.prog.info? tU8).map (·.size)=some 1:=by kernel_rfl
end Go.Proofs.YtfghidehlnfdiaaGreat
end
section
namespace Go.Proofs.YtfghidehlnfdiaaGreat
open Go Go.Vcg

theorem append_u8 {w:World} {o:Option Addr} {l c:Nat} {xs:List Value} {x:Value} {tx ty:TypeId} {n:Nat} {news:List Value} (h:Own w tU8 1 o l c xs) (src:Src Tryz.prog 1 tx x n news w) (hb:l+n≤140737488355328) :
 ∃o' c' w',Sem.run Tryz.prog (builtinV .append #[tSlU8,tx] ty #[.slice o l c,x]) w=.ok (.slice o' (l+n) c') w'∧Own w' tU8 1 o' (l+n) c' (xs++news)∧Vcg.Mod (OB o) w w'∧(∀k,OB o' k→OB o k∨w.heap.size≤k):=by
 obtain ⟨i,hi,h1⟩:=Option.map_eq_some_iff.1 info_u8
 simp only [Prod.mk.injEq] at h1
 exact append_own und_slU8 hi h1.1 h1.2.1 rfl h src (by simp only [maxLen]; omega) (by rw [h1.2.2]; omega)

def spongeF (s:St) (o:Option Addr) (l c:Nat) (i:Nat):Value :=
 if i < 24 then uV (rcOf i) else if i < 49 then .int .i64 (turnOf (i - 24):Int) else if i < 74 then uV (s (i - 49)) else .slice o l c
def spongeA (s:St) (o:Option Addr) (l c:Nat):Array Value:=arrOf 75 (spongeF s o l c)

def SpongeAt (w:World) (b:Nat) (o:Option Addr) (m:List UInt8):Prop :=
 ∃l c,Blk w b tSponge (spongeA (stOf m) o l c)∧Own w tU8 1 o l c ((restOf m).map bV)∧¬OB o b
def SpB (b:Nat) (o:Option Addr):Nat→Prop:=fun k=>k=b∨OB o k


theorem plan_of_sponge {w:World} {b:Nat} {s:St} {o:Option Addr} {l c:Nat} (h:Blk w b tSponge (spongeA s o l c)):PlanAt w b 0 :=
 PlanAt.of_blk h (fun i hi=>by
  rw [Nat.zero_add,spongeA,planA,get_arrOf_lt (by omega),get_arrOf_lt hi,spongeF]
  by_cases h1:i < 24
  ·rw [if_pos h1,if_pos h1]
  ·rw [if_neg h1,if_neg h1,if_pos hi])
theorem lanes_of_sponge {w:World} {b:Nat} {s:St} {o:Option Addr} {l c:Nat} (h:Blk w b tSponge (spongeA s o l c)):RowAt w ⟨b,49,none⟩ 25 (lanesA s) :=
 h.rowAt (size_lanesA s) (fun i hi=>by
  rw [spongeA,get_arrOf_lt (by omega),get_lanesA s hi,spongeF,if_neg (by omega),if_neg (by omega),if_pos (by omega),Nat.add_sub_cancel_left])
theorem rest_of_sponge {w:World} {b:Nat} {s:St} {o:Option Addr} {l c:Nat} (h:Blk w b tSponge (spongeA s o l c)):w.cell? ⟨b,74,none⟩=some (.slice o l c) :=
 h.rd1 (by rw [spongeA,get_arrOf_lt (by omega)]; rfl)
theorem set_rest {w:World} {b:Nat} {s:St} {o o':Option Addr} {l c l' c':Nat} (h:Blk w b tSponge (spongeA s o l c)):Blk (w.setCell ⟨b,74,none⟩ (.slice o' l' c')) b tSponge (spongeA s o' l' c'):=by
 have:=h.set 74 (.slice o' l' c')
 rw [spongeA,set_arrOf] at this
 refine (show _=spongeA s o' l' c' from arrOf_congr (fun j hj=>?_)) ▸ this
 unfold spongeF
 by_cases h0:j=74
 ·subst h0; rfl
 ·rw [if_neg h0]
  by_cases h1:j < 24
  ·rw [if_pos h1,if_pos h1]
  ·rw [if_neg h1,if_neg h1]
   by_cases h2:j < 49
   ·rw [if_pos h2,if_pos h2]
   ·rw [if_neg h2,if_neg h2,if_pos (by omega),if_pos (by omega)]

theorem store_lanes {w:World} {b:Nat} {s s':St} {o:Option Addr} {l c:Nat} (h:Blk w b tSponge (spongeA s o l c)) :
 ∃w',Sem.run Tryz.prog (Instr.storeAt tState (.pointer (some ⟨b,49,none⟩)) (.agg (lanesA s'))) w=.ok () w'∧Blk w' b tSponge (spongeA s' o l c)∧Vcg.Mod (·=b) w w':=by
 have hi:(Tryz.prog.info? tState).map (·.size)=some 25:=by kernel_rfl
 obtain ⟨i,hi1,hi2⟩:=Option.map_eq_some_iff.1 hi
 have hs:=h.storeAt (L:=lanesA s') (o:=49) hi1 (by rw [size_lanesA]; exact hi2) (by rw [size_lanesA,spongeA,size_arrOf]; decide) (lanesA_one _)
 have e2:arrOf 75 (fun i=>if i < 49 then spongeF s o l c i else if i < 49+25 then uV (s' (i - 49)) else spongeF s o l c i)=spongeA s' o l c :=
  arrOf_congr (fun i hi=>by
   unfold spongeF
   by_cases h1:i < 24
   ·rw [if_pos h1,if_pos (by omega),if_pos h1]
   ·rw [if_neg h1,if_neg h1]
    by_cases h2:i < 49
    ·rw [if_pos h2,if_pos h2,if_pos h2]
    ·rw [if_neg h2,if_neg h2,if_neg h2]
     by_cases h3:i < 74
     ·rw [if_pos (by omega),if_pos h3]
     ·rw [if_neg (by omega),if_neg h3,if_neg h3])
 have hA:(List.take 49 (spongeA s o l c).toList++(lanesA s').toList++List.drop (49+(lanesA s').size) (spongeA s o l c).toList).toArray=spongeA s' o l c:=by
  rw [size_lanesA,← e2]
  exact splice_arrOf 75 49 25 (spongeF s o l c) (fun i=>uV (s' i)) (by decide)
 rw [hA] at hs
 exact ⟨_,hs,h.row_same _,Mod.setRow w b _⟩

theorem New_calls (w:World):Calls Tryz.prog keccak_New.n #[] w (fun e w'=>∃b,e=.returned (.pointer (some ⟨b,0,none⟩))∧SpongeAt w' b none []∧Vcg.Mod NoB w w'∧w.heap.size≤b):=by
 refine keccak_New.vc _ _ ?_
 unfold keccak_New.Vc
 refine (planned_calls _).mono ?_
 rintro _ w1 ⟨rfl,M1⟩
 refine ⟨_,rfl,size_planA,?_⟩
 rintro d3 w4 ⟨rfl,rfl⟩
 refine ⟨_,rfl,⟨0,0,?_,Own.nil _ _ _,OB_none _⟩,M1.step_alloc _,M1.size⟩
 exact (show _=spongeA (stOf []) none 0 0 from by kernel_rfl) ▸ Blk.new w1 _ _

end Go.Proofs.YtfghidehlnfdiaaGreat
end
section
namespace Go.Proofs.YtfghidehlnfdiaaGreat
open Go Go.Vcg

theorem Write_calls {w:World} {b:Nat} {o o1:Option Addr} {l1 c1:Nat} {m bs:List UInt8} (hS:SpongeAt w b o m) (hr:RdB w o1 bs) (hl:l1=bs.length) (hmax:bs.length≤2 ^ 40) :
 Calls Tryz.prog keccak_Sponge_Write.n #[.pointer (some ⟨b,0,none⟩),.slice o1 l1 c1] w
  (fun e w'=>e=.returned (.tuple #[])∧∃o',SpongeAt w' b o' (m++bs)∧Vcg.Mod (SpB b o) w w'∧∀k,OB o' k→OB o k∨w.heap.size≤k):=by
 subst hl
 obtain ⟨l,c,hB,hO,hn⟩:=hS
 refine keccak_Sponge_Write.vc _ _ _ _ _ _ ?_
 unfold keccak_Sponge_Write.Vc
 simp only [add_at,Nat.zero_add]
 have hrl:(restOf m).length=l:=by have:=hO.len; simpa using this
 have hlt:=restOf_lt m
 obtain ⟨o',c',w1,h1,hO1,M1,hF1⟩:=append_u8 (ty:=tSlU8) hO (src_bytes (c:=c1) und_slU8 hr) (by omega)
 have hnb:¬OB o' b:=fun h=>(hF1 b h).elim hn (fun h=>by have:=hB.lt; omega)
 rw [← List.map_append] at hO1
 have hB1:=hB.mod M1 hn
 refine ⟨_,_,_,rest_of_sponge hB,_,w1,h1,_,_,_,rfl,hB1.canSet (by rw [spongeA,size_arrOf]; decide) rfl,?_⟩
 rintro _ rfl
 have hB2:=set_rest (o':=o') (l':=l+bs.length) (c':=c') hB1
 have hO2:=hO1.mod (Mod.setCell w1 ⟨b,74,none⟩ (.slice o' (l+bs.length) c')) (fun k hk (hkb:k=b)=>hnb (hkb ▸ hk))
 have M2:Vcg.Mod (SpB b o) w (w1.setCell ⟨b,74,none⟩ (.slice o' (l+bs.length) c')):=(M1.mono (T:=SpB b o) (fun k _ h=>.inr h)).step_set (fun _=>.inl rfl)
 generalize w1.setCell ⟨b,74,none⟩ (.slice o' (l+bs.length) c')=w2 at *
 generalize hall:restOf m++bs=all at *
 have hlen:l+bs.length=all.length:=by rw [← hall,List.length_append,hrl]
 rw [hlen] at hB2 hO2
 have hmax':all.length < 2 ^ 41:=by omega
 refine ⟨fun n w'=>∃k:Nat,n=((136 * k:Nat):Int)∧136 * k≤all.length∧Vcg.Mod (SpB b o) w w'∧Blk w' b tSponge (spongeA (eatK (stOf m) all k) o' all.length c')∧Own w' tU8 1 o' all.length c' (all.map bV),
  fun n _=>((all.length:Int) - n).toNat,⟨0,rfl,by omega,M2,hB2,hO2⟩,?_⟩
 rintro _ _ w3 ⟨k,rfl,hk,M3,hB3,hO3⟩
 refine ⟨_,_,_,rest_of_sponge hB3,?_⟩
 have ew:IntKind.wrap .i64 (((all.length:Nat):Int) - ((136 * k:Nat):Int))=((all.length - 136 * k:Nat):Int):=by rw [wrap_i64_small (by omega) (by omega)]; omega
 rw [ew]
 refine ⟨fun hge=>?_,fun hlt'=>?_⟩
 ·rintro _ rfl
  have e2:IntKind.wrap .i64 (((136 * k:Nat):Int)+136)=((136 * k+136:Nat):Int):=by rw [wrap_i64_small (by omega) (by omega)]; omega
  rw [e2,Int.toNat_natCast,Int.toNat_natCast]
  have hcap:=hO3.cap
  refine ⟨_,lanes_of_sponge hB3.drew,_,_,_,rest_of_sponge hB3.drew,by omega,by omega,?_⟩
  refine (absorb_calls _ b 0 (plan_of_sponge hB3.drew) ((all.drop (136 * k)).take 136) (by rw [List.length_take,List.length_drop]; omega) (by omega) (by omega) (((hO3.mod' (Mod.drew w3)).bytes).sub (by omega))).mono ?_
  rintro _ w4 ⟨rfl,M4⟩
  obtain ⟨w5,h5,hB5,M5⟩:=store_lanes (s':=absorbB (eatK (stOf m) all k) ((all.drop (136 * k)).take 136)) (hB3.drew.mod' M4)
  refine ⟨_,rfl,w5,h5,⟨k+1,by omega,by omega,((M3.step_drew).none_trans M4).trans M5 (fun i _ hi=>.inl hi),hB5,((hO3.mod' (Mod.drew w3)).mod' M4).mod M5 (fun i hi (hib:i=b)=>hnb (hib ▸ hi))⟩,by dsimp only; omega⟩
 ·rintro _ rfl
  have hcap:=hO3.cap
  have hkq:k=all.length / 136:=by omega
  rw [Int.toNat_natCast]
  obtain ⟨w4,h4,hO4,M4⟩:=copy_down (P:=Tryz.prog) (t:=tSlU8) (tx:=tSlU8) (ty:=3) (lo:=136 * k) und_slU8 info_u8_size (hO3.mod' (Mod.drew w3)) hk
  have hB4:=hB3.drew.mod M4 hnb
  refine ⟨_,_,_,rest_of_sponge hB3.drew,_,_,_,rest_of_sponge hB3.drew,_,_,_,rest_of_sponge hB3.drew,by omega,_,w4,h4,_,rfl,rest_of_sponge hB4,by omega,hB4.canSet (by rw [spongeA,size_arrOf]; decide) rfl,?_⟩
  rintro _ rfl
  rw [Int.toNat_natCast]
  have hB5:=set_rest (o':=o') (l':=all.length - 136 * k) (c':=c') hB4
  have M5:=Mod.setCell w4 ⟨b,74,none⟩ (.slice o' (all.length - 136 * k) c')
  refine ⟨trivial,o',⟨all.length - 136 * k,c',?_,?_,hnb⟩,?_,hF1⟩
  ·rw [stOf_append,hall,← hkq]; exact hB5
  ·rw [restOf_append,hall,← hkq]; exact hO4.mod M5 (fun i hi (hib:i=b)=>hnb (hib ▸ hi))
  ·exact (((M3.step_drew).trans M4 (fun i hi h=>(hF1 i h).elim (fun h=>.inr h) (fun h=>by omega)))).step_set (fun _=>.inl rfl)

end Go.Proofs.YtfghidehlnfdiaaGreat
end
