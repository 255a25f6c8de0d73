/- Keccak in plain Lean: lanes as functions, the round, the permutation. -/
import Derived.Test.YtkekehngillblaaXMem
namespace Go.Vcg

def arrOf (n : Nat) (f : Nat → Value) : Array Value := Array.ofFn (n := n) fun i => f i
@[simp] theorem size_arrOf (n : Nat) (f) : (arrOf n f).size = n := by simp [arrOf]
theorem get_arrOf (n : Nat) (f) (i : Nat) : (arrOf n f)[i]? = if i < n then some (f i) else none := by
  simp [arrOf, Array.getElem?_ofFn]
theorem get_arrOf_lt {n : Nat} {f} {i : Nat} (h : i < n) : (arrOf n f)[i]? = some (f i) := by rw [get_arrOf, if_pos h]
theorem arrOf_congr {n : Nat} {f g : Nat → Value} (h : ∀ i, i < n → f i = g i) : arrOf n f = arrOf n g := by
  apply Array.ext <;> simp [arrOf]
  exact fun i hi => h i hi
theorem eq_arrOf {n : Nat} {f : Nat → Value} {cs : Array Value} (hs : cs.size = n) (h : ∀ i, i < n → cs[i]? = some (f i)) : cs = arrOf n f := by
  apply Array.ext
  · simpa using hs
  · intro i h1 h2
    have := h i (by omega)
    rw [Array.getElem?_eq_getElem h1] at this
    simpa [arrOf] using this
theorem set_arrOf (n : Nat) (f : Nat → Value) (i : Nat) (v : Value) : (arrOf n f).setIfInBounds i v = arrOf n (fun j => if j = i then v else f j) := by
  apply Array.ext
  · simp
  · intro j h1 h2
    simp only [arrOf, Array.getElem_ofFn]
    rw [Array.getElem_setIfInBounds (by simpa using h1)]
    split <;> simp_all [eq_comm]
theorem replicate_arrOf (n : Nat) (v : Value) : Array.replicate n v = arrOf n (fun _ => v) := by
  apply Array.ext <;> simp [arrOf]

theorem splice_arrOf (n o m : Nat) (f g : Nat → Value) (h : o + m ≤ n) :
    ((arrOf n f).toList.take o ++ (arrOf m g).toList ++ (arrOf n f).toList.drop (o + m)).toArray = arrOf n (fun i => if i < o then f i else if i < o + m then g (i - o) else f i) := by
  have ef : ∀ n f, (arrOf n f).toList = (List.range n).map f := by
    intro n f
    apply List.ext_getElem?
    intro i
    rw [Array.getElem?_toList, get_arrOf, List.getElem?_map]
    by_cases hi : i < n
    · rw [if_pos hi, List.getElem?_range hi]; rfl
    · rw [if_neg hi, List.getElem?_eq_none (by simp; omega)]; rfl
  refine eq_arrOf ?_ (fun i hi => ?_)
  · simp [ef]; omega
  · rw [List.getElem?_toArray, ef, ef]
    have l1 : (List.take o ((List.range n).map f)).length = o := by simp; omega
    have l2 : (List.take o ((List.range n).map f) ++ (List.range m).map g).length = o + m := by rw [List.length_append, l1]; simp
    by_cases h1 : i < o
    · rw [if_pos h1, List.append_assoc, List.getElem?_append_left (by omega), List.getElem?_take, if_pos h1, List.getElem?_map, List.getElem?_range hi]; rfl
    · rw [if_neg h1]
      by_cases h2 : i < o + m
      · rw [if_pos h2, List.getElem?_append_left (by omega), List.getElem?_append_right (by omega), l1, List.getElem?_map, List.getElem?_range (by omega)]; rfl
      · rw [if_neg h2, List.getElem?_append_right (by omega), l2, List.getElem?_drop, List.getElem?_map, show o + m + (i - (o + m)) = i by omega, List.getElem?_range hi]; rfl

/-- A word as a value. -/
abbrev uI (x : BitVec 64) : Int := (x.toNat : Int)
abbrev uV (x : BitVec 64) : Value := .int .u64 (uI x)

theorem ofInt_uI (x : BitVec 64) : BitVec.ofInt 64 (uI x) = x := by
  apply BitVec.eq_of_toNat_eq
  simp
theorem wrap_u64 (n : Int) : IntKind.wrap .u64 n = n % 18446744073709551616 := by
  simp [IntKind.wrap, IntKind.bits, IntKind.signed]
theorem wrap_u64_nat (n : Nat) (h : n < 2 ^ 64) : IntKind.wrap .u64 (n : Int) = n := by
  rw [wrap_u64]; omega
theorem wrap_uI (x : BitVec 64) : IntKind.wrap .u64 (uI x) = uI x := wrap_u64_nat _ x.isLt
theorem bitsI_xor (x y : BitVec 64) : bitsI .xor .u64 (uI x) (uI y) = uI (x ^^^ y) := by
  simp only [bitsI, IntKind.bits, ofInt_uI]; exact wrap_uI _
theorem bitsI_and (x y : BitVec 64) : bitsI .and .u64 (uI x) (uI y) = uI (x &&& y) := by
  simp only [bitsI, IntKind.bits, ofInt_uI]; exact wrap_uI _
theorem bitsI_or (x y : BitVec 64) : bitsI .or .u64 (uI x) (uI y) = uI (x ||| y) := by
  simp only [bitsI, IntKind.bits, ofInt_uI]; exact wrap_uI _
theorem bitsI_not (x : BitVec 64) : bitsI .xor .u64 18446744073709551615 (uI x) = uI (~~~ x) := by
  have : (18446744073709551615 : Int) = uI (BitVec.allOnes 64) := by decide
  rw [this, bitsI_xor]
  congr 2
theorem shlI_u (x : BitVec 64) (n : Nat) : shlI .u64 (uI x) (n : Int) = uI (x <<< n) := by
  unfold shlI
  rw [wrap_u64]
  show (x.toNat : Int) * 2 ^ (min (Int.toNat (n : Int)) 64) % 18446744073709551616 = ((x <<< n).toNat : Int)
  rw [Int.toNat_natCast, BitVec.toNat_shiftLeft, Nat.shiftLeft_eq]
  by_cases h : n ≤ 64
  · rw [Nat.min_eq_left h]
    have e : (2 : Int) ^ n = ((2 ^ n : Nat) : Int) := by simp
    rw [e, ← Int.natCast_mul]
    omega
  · rw [Nat.min_eq_right (by omega)]
    have h0 : x.toNat * 2 ^ n % 2 ^ 64 = 0 := by
      have h1 : 2 ^ n = 2 ^ (n - 64) * 2 ^ 64 := by rw [← Nat.pow_add]; congr 1; omega
      rw [h1, ← Nat.mul_assoc, Nat.mul_mod_left]
    rw [h0]
    omega
theorem shrI_u (x : BitVec 64) (n : Nat) (k : IntKind) (hk : k.bits = 64) : shrI k (uI x) (n : Int) = uI (x >>> n) := by
  unfold shrI
  rw [hk, Int.toNat_natCast]
  show Int.fdiv (x.toNat : Int) (2 ^ (min n 64)) = ((x >>> n).toNat : Int)
  rw [BitVec.toNat_ushiftRight, Nat.shiftRight_eq_div_pow]
  have hx := x.isLt
  have e : ∀ m : Nat, (2 : Int) ^ m = ((2 ^ m : Nat) : Int) := by intro m; simp
  by_cases h : n ≤ 64
  · rw [Nat.min_eq_left h, e, Int.fdiv_eq_ediv_of_nonneg _ (Int.natCast_nonneg _), Int.natCast_ediv]
  · rw [Nat.min_eq_right (by omega), e, Int.fdiv_eq_ediv_of_nonneg _ (Int.natCast_nonneg _), ← Int.natCast_ediv]
    have h1 : x.toNat / 2 ^ n = 0 := Nat.div_eq_of_lt (Nat.lt_trans hx (Nat.pow_lt_pow_right (by decide) (by omega)))
    rw [h1, Nat.div_eq_of_lt hx]

theorem wrap_i64 (n : Int) : IntKind.wrap .i64 n = (n + 9223372036854775808) % 18446744073709551616 - 9223372036854775808 := by
  unfold IntKind.wrap
  show (if (true && decide (n % 18446744073709551616 ≥ 9223372036854775808)) = true then n % 18446744073709551616 - 18446744073709551616 else n % 18446744073709551616) = _
  simp only [Bool.true_and, decide_eq_true_eq]
  split <;> omega
theorem wrap_i64_small {n : Int} (h : -9223372036854775808 ≤ n) (h' : n < 9223372036854775808) : IntKind.wrap .i64 n = n := by
  rw [wrap_i64]; omega

theorem wrap_idem (k : IntKind) (n : Int) : IntKind.wrap k (IntKind.wrap k n) = IntKind.wrap k n := by
  cases k <;> simp only [IntKind.wrap, IntKind.bits, IntKind.signed] <;> grind
theorem tmod_nn (a b : Int) (h : 0 ≤ a) : Int.tmod a b = a % b := Int.tmod_eq_emod_of_nonneg h

/-! ### The round -/
abbrev St := Nat → BitVec 64
def lanesA (s : St) : Array Value := arrOf 25 (fun i => uV (s i))
theorem size_lanesA (s : St) : (lanesA s).size = 25 := size_arrOf _ _
theorem arrOf_one {n : Nat} {f : Nat → Value} (h : ∀ i, (f i).oneCell' = true) : ∀ v ∈ (arrOf n f).toList, v.oneCell' = true := by
  intro v hv
  simp only [arrOf, Array.mem_toList_iff, Array.mem_ofFn] at hv
  obtain ⟨i, rfl⟩ := hv
  exact h i
theorem lanesA_one (s : St) : ∀ v ∈ (lanesA s).toList, v.oneCell' = true := arrOf_one (fun _ => rfl)
theorem lanesA_congr {s r : St} (h : ∀ i, i < 25 → s i = r i) : lanesA s = lanesA r := arrOf_congr (fun i hi => by rw [h i hi])
theorem get_lanesA (s : St) {i : Nat} (h : i < 25) : (lanesA s)[i]? = some (uV (s i)) := get_arrOf_lt h

def turnsL : List Nat := [0, 1, 62, 28, 27, 36, 44, 6, 55, 20, 3, 10, 43, 25, 39, 41, 45, 15, 21, 8, 18, 2, 61, 56, 14]
def turnOf (i : Nat) : Nat := turnsL.getD i 0
def rcL : List (BitVec 64) := [0x0000000000000001, 0x0000000000008082, 0x800000000000808a, 0x8000000080008000, 0x000000000000808b, 0x0000000080000001, 0x8000000080008081, 0x8000000000008009, 0x000000000000008a, 0x0000000000000088, 0x0000000080008009, 0x000000008000000a, 0x000000008000808b, 0x800000000000008b, 0x8000000000008089, 0x8000000000008003, 0x8000000000008002, 0x8000000000000080, 0x000000000000800a, 0x800000008000000a, 0x8000000080008081, 0x8000000000008080, 0x0000000080000001, 0x8000000080008008]
def rcOf (i : Nat) : BitVec 64 := rcL.getD i 0
theorem turnOf_lt (i : Nat) : turnOf i < 64 := by
  unfold turnOf
  by_cases h : i < 25
  · have : ∀ i, i < 25 → turnsL.getD i 0 < 64 := by decide
    exact this i h
  · rw [List.getD_eq_getElem?_getD, List.getElem?_eq_none (by simp [turnsL]; omega)]; simp

def parK (s : St) (x : Nat) : Nat → BitVec 64
  | 0 => 0
  | k + 1 => parK s x k ^^^ s (x + 5 * k)
def par (s : St) (x : Nat) : BitVec 64 := parK s x 5
def ddK (s : St) (x : Nat) : BitVec 64 := par s ((x + 4) % 5) ^^^ (par s ((x + 1) % 5)).rotateLeft 1
def bbXY (s : St) (x y : Nat) : BitVec 64 := (s (x + 5 * y) ^^^ ddK s x).rotateLeft (turnOf (x + 5 * y))
def bbK (s : St) (j : Nat) : BitVec 64 := bbXY s ((j % 5 + 3 * (j / 5)) % 5) (j % 5)
def chiK (b : St) (j : Nat) : BitVec 64 := b j ^^^ (~~~ b ((j % 5 + 1) % 5 + 5 * (j / 5)) &&& b ((j % 5 + 2) % 5 + 5 * (j / 5)))
def rnd (n : Nat) (s : St) : St := fun j => if j = 0 then chiK (bbK s) 0 ^^^ rcOf n else chiK (bbK s) j
def rnds : Nat → St → St
  | 0, s => s
  | n + 1, s => rnd n (rnds n s)
def keccakF (s : St) : St := rnds 24 s

/-! ### The tables -/
def regOf : Nat → Nat
  | 0 => 1
  | k + 1 => if 2 * regOf k > 255 then (2 * regOf k - 256) ^^^ 0x71 else 2 * regOf k
/-- The register's values, in a row. -/
def regsL : List Nat := (List.range 169).map regOf
/-- A round's constant, its first j bits, joined by 'or'. -/
def rcPart (i : Nat) : Nat → BitVec 64
  | 0 => 0
  | j + 1 => rcPart i j ||| ((if regOf (7 * i + j) % 2 = 1 then (1 : BitVec 64) else 0) <<< (2 ^ j - 1))
/-- The same, joined by 'xor'. -/
def rcXor (i : Nat) : Nat → BitVec 64
  | 0 => 0
  | j + 1 => rcXor i j ^^^ ((if regOf (7 * i + j) % 2 = 1 then (1 : BitVec 64) else 0) <<< (2 ^ j - 1))
def xyOf : Nat → Nat × Nat
  | 0 => (1, 0)
  | t + 1 => ((xyOf t).2, (2 * (xyOf t).1 + 3 * (xyOf t).2) % 5)
/-- The turns after t steps. -/
def tarr : Nat → Nat → Nat
  | 0 => fun _ => 0
  | t + 1 => fun j => if j = (xyOf t).1 + 5 * (xyOf t).2 then (t + 1) * (t + 2) / 2 % 64 else tarr t j

theorem reg_lt : ∀ k : Nat, k < 169 → regOf k < 256 := by decide +kernel
theorem rcPart_end : ∀ i : Nat, i < 24 → rcPart i 7 = rcOf i := by decide +kernel
theorem rcXor_end : ∀ i : Nat, i < 24 → rcXor i 7 = rcOf i := by decide +kernel
theorem xy_lt : ∀ t : Nat, t < 25 → (xyOf t).1 < 5 ∧ (xyOf t).2 < 5 := by decide +kernel
theorem tarr_end : ∀ j : Nat, j < 25 → tarr 24 j = turnOf j := by decide +kernel
theorem reg_next : ∀ k : Nat, k < 168 → (regOf k * 2 > 255 → bitsI .xor .i64 ((regOf k * 2 - 256 : Nat) : Int) 113 = (regOf (k + 1) : Int)) := by decide +kernel
theorem reg_next' (k : Nat) (h : ¬ regOf k * 2 > 255) : regOf (k + 1) = regOf k * 2 := by
  rw [regOf, if_neg (by omega)]; omega
theorem reg_and : ∀ k : Nat, k < 168 → bitsI .and .i64 (regOf k : Int) 1 = (regOf k % 2 : Nat) := by decide +kernel
theorem pow_sh : ∀ j : Nat, j < 7 → IntKind.wrap .u64 (shlI .u64 1 (j : Int) - 1) = ((2 ^ j - 1 : Nat) : Int) := by decide +kernel
theorem turn_num : ∀ t : Nat, t < 24 → Int.tmod (IntKind.wrap .i64 (Int.tdiv (IntKind.wrap .i64 ((IntKind.wrap .i64 ((t : Int) + 1)) * (IntKind.wrap .i64 ((t : Int) + 2)))) 2)) 64 = (((t + 1) * (t + 2) / 2 % 64 : Nat) : Int) := by decide +kernel

end Go.Vcg
