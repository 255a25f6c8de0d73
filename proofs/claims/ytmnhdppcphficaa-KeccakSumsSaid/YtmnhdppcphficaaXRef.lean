/- The document's sponge is ours. -/
import Derived.Test.YtmnhdppcphficaaXByt
namespace Go.Vcg

theorem leK_high (bs : List UInt8) : ∀ (k i : Nat), 8 * k ≤ i → (leK bs k).getLsbD i = false
  | 0, i, _ => by simp [leK]
  | k + 1, i, h => by
    rw [leK, BitVec.getLsbD_or, leK_high bs k i (by omega), BitVec.getLsbD_shiftLeft, byteW, BitVec.getLsbD_setWidth]
    have : (bs.getD k 0).toBitVec.getLsbD (i - 8 * k) = false := BitVec.getLsbD_of_ge _ _ (by omega)
    rw [this]
    simp
theorem or_xor (bs : List UInt8) (k : Nat) (b : UInt8) : leK bs k ||| (byteW b <<< (8 * k)) = leK bs k ^^^ (byteW b <<< (8 * k)) := by
  apply BitVec.eq_of_getLsbD_eq
  intro i hi
  rw [BitVec.getLsbD_or, BitVec.getLsbD_xor, BitVec.getLsbD_shiftLeft]
  by_cases h : i < 8 * k
  · simp [h]
  · rw [leK_high bs k i (by omega)]; simp

/-- The first i bytes of a block are laid into the lanes. -/
def xorP (s : St) (c : Nat → UInt8) : Nat → St
  | 0 => s
  | i + 1 => fun j => if j = i / 8 then xorP s c i j ^^^ (byteW (c i) <<< (8 * (i % 8))) else xorP s c i j
def lxK (c : Nat → UInt8) : Nat → BitVec 64
  | 0 => 0
  | k + 1 => lxK c k ^^^ (byteW (c k) <<< (8 * k))
theorem xorP_eq (s : St) (c : Nat → UInt8) : ∀ (i j : Nat), xorP s c i j = s j ^^^ lxK (fun m => c (8 * j + m)) (Nat.min (i - 8 * j) 8)
  | 0, j => by simp [xorP, lxK]
  | i + 1, j => by
    rw [xorP]
    by_cases h : j = i / 8
    · simp only [h, if_true]
      rw [← h, xorP_eq s c i j]
      have e1 : Nat.min (i - 8 * j) 8 = i % 8 := by show min _ _ = _; omega
      have e2 : Nat.min (i + 1 - 8 * j) 8 = i % 8 + 1 := by show min _ _ = _; omega
      rw [e1, e2, lxK, show 8 * j + i % 8 = i by omega, BitVec.xor_assoc]
    · simp only [h, if_false]
      rw [xorP_eq s c i j]
      have e : Nat.min (i - 8 * j) 8 = Nat.min (i + 1 - 8 * j) 8 := by show min _ _ = min _ _; omega
      rw [e]
theorem leK_lxK (bs : List UInt8) (c : Nat → UInt8) : ∀ k, (∀ m, m < k → bs.getD m 0 = c m) → leK bs k = lxK c k
  | 0, _ => rfl
  | k + 1, h => by rw [leK, or_xor, lxK, leK_lxK bs c k (fun m hm => h m (by omega)), h k (by omega)]
theorem xorP_xorB (s : St) (c : Nat → UInt8) (j : Nat) (hj : j < 25) : xorP s c 136 j = xorB s ((List.range 136).map c) j := by
  rw [xorP_eq, xorB]
  by_cases h : j < 17
  · rw [if_pos h]
    have e : Nat.min (136 - 8 * j) 8 = 8 := by show min _ _ = _; omega
    have hl : ((((List.range 136).map c).drop (8 * j)).take 8).length = 8 := by rw [List.length_take, List.length_drop, List.length_map, List.length_range]; omega
    rw [e, leWord, hl]
    congr 1
    symm
    refine leK_lxK _ _ 8 (fun m hm => ?_)
    rw [List.getD_eq_getElem?_getD, List.getElem?_take_of_lt hm, List.getElem?_drop, List.getElem?_map, List.getElem?_range (by omega)]
    rfl
  · rw [if_neg h]
    have e : Nat.min (136 - 8 * j) 8 = 0 := by show min _ _ = _; omega
    rw [e, lxK]; simp

/-- Byte i of the message's block k, with what is laid behind the message. -/
def cAt (m : List UInt8) (k i : Nat) : UInt8 := (if 136 * k + i < m.length then m.getD (136 * k + i) 0 else if 136 * k + i = m.length then 1 else 0) ||| (if i = 135 ∧ m.length < 136 * k + 136 then 128 else 0)
def refSt (m : List UInt8) : Nat → St
  | 0 => zeroS
  | k + 1 => absorbB (refSt m k) ((List.range 136).map (cAt m k))
theorem cAt_full (m : List UInt8) (k : Nat) (h : 136 * k + 136 ≤ m.length) : (List.range 136).map (cAt m k) = (m.drop (136 * k)).take 136 := by
  apply List.ext_getElem?
  intro i
  by_cases hi : i < 136
  · rw [List.getElem?_map, List.getElem?_range hi, List.getElem?_take_of_lt hi, List.getElem?_drop]
    simp only [Option.map_some, cAt]
    rw [if_pos (by omega), if_neg (by omega), List.getElem?_eq_getElem (by omega)]
    simp [List.getD_eq_getElem?_getD, show 136 * k + i < m.length by omega]
  · rw [List.getElem?_eq_none (by simp; omega), List.getElem?_eq_none (by simp; omega)]
theorem cAt_last (m : List UInt8) : (List.range 136).map (cAt m (m.length / 136)) = padB (restOf m) := by
  refine List.map_congr_left (fun i hi => ?_)
  have hi' : i < 136 := List.mem_range.1 hi
  have hl := length_restOf m
  simp only [cAt, padAt]
  have e1 : (if i = 135 ∧ m.length < 136 * (m.length / 136) + 136 then (128 : UInt8) else 0) = (if i = 135 then 128 else 0) := by
    by_cases h : i = 135
    · rw [if_pos ⟨h, by omega⟩, if_pos h]
    · rw [if_neg (fun g => h g.1), if_neg h]
  rw [e1]
  congr 1
  by_cases h1 : i < (restOf m).length
  · rw [if_pos (by omega), if_pos h1, restOf]
    simp only [List.getD_eq_getElem?_getD, List.getElem?_drop]
  · rw [if_neg (by omega), if_neg h1]
    by_cases h2 : i = (restOf m).length
    · rw [if_pos (by omega), if_pos h2]
    · rw [if_neg (by omega), if_neg h2]
theorem refSt_eq (m : List UInt8) : ∀ k, k ≤ m.length / 136 → refSt m k = eatK zeroS m k
  | 0, _ => rfl
  | k + 1, h => by rw [refSt, refSt_eq m k (by omega), cAt_full m k (by omega), eatK]
theorem refSt_last (m : List UInt8) : refSt m (m.length / 136 + 1) = lastS m := by
  rw [refSt, refSt_eq m _ (Nat.le_refl _), cAt_last, lastS, stOf]

end Go.Vcg
