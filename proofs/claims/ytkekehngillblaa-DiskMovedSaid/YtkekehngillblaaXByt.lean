/- Slices of bytes that are read. -/
import Derived.Test.YtkekehngillblaaXKec
namespace Go.Vcg

abbrev bV (b : UInt8) : Value := .int .u8 (b.toNat : Int)

/-- From o on the bytes bs lie. -/
def RdB (w : World) (o : Option Addr) (bs : List UInt8) : Prop :=
  bs ≠ [] → ∃ b f, o = some ⟨b, f, none⟩ ∧ b < w.heap.size ∧ ∀ i, i < bs.length → w.cell? ⟨b, f + i, none⟩ = some (bV (bs.getD i 0))

/-- The block in which the slice's bytes lie is none of S. -/
def Off (S : Nat → Prop) (o : Option Addr) : Prop := ∀ d, o = some d → ¬ S d.block

theorem RdB.nil (w : World) (o : Option Addr) : RdB w o [] := fun h => (h rfl).elim
theorem RdB.mod {S : Nat → Prop} {w w' : World} {o : Option Addr} {bs : List UInt8} (h : RdB w o bs) (m : Mod S w w') (hs : Off S o) : RdB w' o bs := by
  intro hb
  obtain ⟨b, f, rfl, hl, hc⟩ := h hb
  exact ⟨b, f, rfl, Nat.lt_of_lt_of_le hl m.size, fun i hi => (World.cell?_of_block (m.block b hl (hs _ rfl))).trans (hc i hi)⟩
theorem RdB.mod' {w w' : World} {o : Option Addr} {bs : List UInt8} (h : RdB w o bs) (m : Mod NoB w w') : RdB w' o bs := h.mod m (fun _ _ h => h)
theorem RdB.sub {w : World} {o : Option Addr} {bs : List UInt8} {c lo n : Nat} (h : RdB w o bs) (hl : bs.length ≤ c) : RdB w (subO o c lo 1) ((bs.drop lo).take n) := by
  intro hne
  have h1 : lo < bs.length := by
    rcases Nat.lt_or_ge lo bs.length with h | h
    · exact h
    · rw [List.drop_eq_nil_of_le h] at hne; simp at hne
  have hb : bs ≠ [] := by intro e; rw [e] at h1; simp at h1
  obtain ⟨b, f, rfl, hlt, hc⟩ := h hb
  refine ⟨b, f + lo, ?_, hlt, fun i hi => ?_⟩
  · rw [subO, if_neg (by omega)]; simp
  · rw [List.length_take, List.length_drop] at hi
    rw [Nat.add_assoc, hc (lo + i) (by omega)]
    congr 2
    simp only [List.getD_eq_getElem?_getD]
    rw [List.getElem?_take_of_lt (by omega), List.getElem?_drop]
theorem RdB.take {w : World} {o : Option Addr} {bs : List UInt8} (h : RdB w o bs) (n : Nat) : RdB w o (bs.take n) := by
  intro hne
  have hb : bs ≠ [] := by intro e; rw [e] at hne; simp at hne
  obtain ⟨b, f, rfl, hlt, hc⟩ := h hb
  refine ⟨b, f, rfl, hlt, fun i hi => ?_⟩
  rw [List.length_take] at hi
  rw [hc i (by omega)]
  simp only [List.getD_eq_getElem?_getD]
  rw [List.getElem?_take_of_lt (by omega)]
/-- Reading one byte. -/
theorem RdB.get {w : World} {o : Option Addr} {bs : List UInt8} (h : RdB w o bs) {i : Nat} (hi : i < bs.length) :
    ∃ d, o = some d ∧ w.cell? (Addr.add d (Int.toNat (i : Int))) = some (bV (bs.getD i 0)) := by
  obtain ⟨b, f, rfl, hlt, hc⟩ := h (by intro e; rw [e] at hi; simp at hi)
  exact ⟨_, rfl, by rw [Int.toNat_natCast, add_at]; exact hc i hi⟩
theorem RdB.of_blk {w : World} {b f : Nat} {t : TypeId} {cs : Array Value} {bs : List UInt8} (h : Blk w b t cs) (hc : ∀ i, i < bs.length → cs[f + i]? = some (bV (bs.getD i 0))) : RdB w (some ⟨b, f, none⟩) bs :=
  fun _ => ⟨b, f, rfl, h.lt, fun i hi => by rw [h.cell, hc i hi]⟩

/-! ### Words out of bytes -/
def byteW (b : UInt8) : BitVec 64 := b.toBitVec.setWidth 64
theorem uI_byteW (b : UInt8) : uI (byteW b) = (b.toNat : Int) := by
  simp only [uI, byteW, BitVec.toNat_setWidth, UInt8.toNat_toBitVec]
  have := b.toNat_lt
  omega
/-- The first k bytes as a word, the lowest first. -/
def leK (bs : List UInt8) : Nat → BitVec 64
  | 0 => 0
  | k + 1 => leK bs k ||| (byteW (bs.getD k 0) <<< (8 * k))
def leWord (bs : List UInt8) : BitVec 64 := leK bs bs.length

def leByte (x : BitVec 64) (i : Nat) : UInt8 := UInt8.ofBitVec ((x >>> (8 * i)).setWidth 8)
def leL (x : BitVec 64) (k : Nat) : List UInt8 := (List.range k).map (leByte x)
theorem length_leL (x : BitVec 64) (k : Nat) : (leL x k).length = k := by simp [leL]
theorem leL_succ (x : BitVec 64) (k : Nat) : leL x (k + 1) = leL x k ++ [leByte x k] := by simp [leL, List.range_succ]
theorem wrap_u8 (n : Int) : IntKind.wrap .u8 n = n % 256 := by simp [IntKind.wrap, IntKind.bits, IntKind.signed]
theorem wrap_u8_word (y : BitVec 64) : IntKind.wrap .u8 (uI y) = ((UInt8.ofBitVec (y.setWidth 8)).toNat : Int) := by
  rw [wrap_u8]
  show (y.toNat : Int) % 256 = ((y.setWidth 8).toNat : Int)
  rw [BitVec.toNat_setWidth]
  omega
theorem bitsI_or_u8 (a b : UInt8) : bitsI .or .u8 (a.toNat : Int) (b.toNat : Int) = ((a ||| b).toNat : Int) := by
  have h : ∀ x : UInt8, BitVec.ofInt 8 (x.toNat : Int) = x.toBitVec := by
    intro x
    apply BitVec.eq_of_toNat_eq
    have := x.toNat_lt
    simp
  simp only [bitsI, IntKind.bits, h, wrap_u8]
  show (((a.toBitVec ||| b.toBitVec : BitVec 8).toNat : Nat) : Int) % 256 = (((a ||| b).toBitVec).toNat : Int)
  rw [UInt8.toBitVec_or]
  have := (a.toBitVec ||| b.toBitVec : BitVec 8).isLt
  omega

/-! ### The sponge -/
def xorB (s : St) (blk : List UInt8) : St := fun i => if i < 17 then s i ^^^ leWord ((blk.drop (8 * i)).take 8) else s i
def absorbB (s : St) (blk : List UInt8) : St := keccakF (xorB s blk)
/-- The state behind the first k blocks. -/
def eatK (s : St) (bs : List UInt8) : Nat → St
  | 0 => s
  | k + 1 => absorbB (eatK s bs k) ((bs.drop (136 * k)).take 136)
def zeroS : St := fun _ => 0
/-- What a sponge holds behind the bytes m. -/
def stOf (m : List UInt8) : St := eatK zeroS m (m.length / 136)
def restOf (m : List UInt8) : List UInt8 := m.drop (136 * (m.length / 136))
def padAt (r : List UInt8) (i : Nat) : UInt8 := (if i < r.length then r.getD i 0 else if i = r.length then 1 else 0) ||| (if i = 135 then 128 else 0)
def padB (r : List UInt8) : List UInt8 := (List.range 136).map (padAt r)
def lastS (m : List UInt8) : St := absorbB (stOf m) (padB (restOf m))
def outAt (s : St) (i : Nat) : UInt8 := UInt8.ofBitVec ((s (i / 8) >>> (8 * (i % 8))).setWidth 8)
/-- The document's hash. -/
def sumOf (m : List UInt8) : List UInt8 := (List.range 32).map (outAt (lastS m))
def hashA (h : List UInt8) : Array Value := arrOf 32 (fun i => bV (h.getD i 0))

theorem eatK_add (s : St) (bs : List UInt8) (q : Nat) : ∀ k, eatK s bs (q + k) = eatK (eatK s bs q) (bs.drop (136 * q)) k
  | 0 => rfl
  | k + 1 => by
    rw [← Nat.add_assoc, eatK, eatK_add s bs q k, eatK, List.drop_drop]
    congr 4
    omega
theorem eatK_append (s : St) (m b : List UInt8) : ∀ k, 136 * k ≤ m.length → eatK s (m ++ b) k = eatK s m k
  | 0, _ => rfl
  | k + 1, h => by
    rw [eatK, eatK_append s m b k (by omega), eatK]
    congr 1
    rw [List.drop_append_of_le_length (by omega), List.take_append_of_le_length (by rw [List.length_drop]; omega)]
theorem length_restOf (m : List UInt8) : (restOf m).length = m.length % 136 := by
  rw [restOf, List.length_drop]; omega
theorem restOf_lt (m : List UInt8) : (restOf m).length < 136 := by rw [length_restOf]; omega
theorem rest_append (m b : List UInt8) : restOf m ++ b = (m ++ b).drop (136 * (m.length / 136)) := by
  rw [restOf, List.drop_append_of_le_length (by omega)]
theorem stOf_append (m b : List UInt8) : stOf (m ++ b) = eatK (stOf m) (restOf m ++ b) ((restOf m ++ b).length / 136) := by
  rw [rest_append, stOf, stOf]
  have h1 : (m ++ b).length / 136 = m.length / 136 + ((m ++ b).drop (136 * (m.length / 136))).length / 136 := by
    rw [List.length_drop, List.length_append]; omega
  rw [h1, eatK_add, eatK_append _ _ _ _ (by omega)]
theorem restOf_append (m b : List UInt8) : restOf (m ++ b) = (restOf m ++ b).drop (136 * ((restOf m ++ b).length / 136)) := by
  rw [rest_append, restOf, List.drop_drop]
  congr 1
  rw [List.length_drop, List.length_append]; omega
theorem stOf_nil : stOf [] = zeroS := rfl
theorem restOf_nil : restOf [] = [] := rfl
theorem length_sumOf (m : List UInt8) : (sumOf m).length = 32 := by simp [sumOf]
theorem length_padB (r : List UInt8) : (padB r).length = 136 := by simp [padB]
theorem getD_padB (r : List UInt8) {i : Nat} (h : i < 136) : (padB r).getD i 0 = padAt r i := by simp [padB, List.getD_eq_getElem?_getD, h]
theorem getD_sumOf (m : List UInt8) {i : Nat} (h : i < 32) : (sumOf m).getD i 0 = outAt (lastS m) i := by simp [sumOf, List.getD_eq_getElem?_getD, h]

end Go.Vcg
