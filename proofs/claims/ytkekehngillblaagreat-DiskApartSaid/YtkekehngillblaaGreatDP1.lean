/- Slices of bytes that are read. -/
/- Slices that the code itself made: appended to, copied into. -/
/- Equality of arrays of numbers. -/
/- Arguments: what a reading tells of the value. -/
/- Coloured heaps: each block has a colour, and a step says which colours it may change. -/
/- Maps: what a map's block holds, read, written, gone through. -/
/- The disk as plain Lean: states and calls. -/
/- The numbers of the types that the texts below name. -/
/- append(s, make([]byte, n)...): a slice grows by zeros. -/
/- The program's disk in memory; names; bytes that are copied, grown, laid. -/
import Derived.Test.YtkekehngillblaaGreatXKec
import Derived.Laws.StructEq
import Derived.ProofKit
import Derived.OpenShut
import Derived.ShutString
import Derived.ChangeOld
import Derived.Below
import Derived.Carry
import Derived.Maps.Range
import Derived.DeepKeys4
import Derived.StringKeys
section
namespace Go.Vcg

abbrev bV (b : UInt8) : Value := .int .u8 (b.toNat : Int)

/-- From o on the bytes bs lie. -/
def RdB (w : World) (o : Option Addr) (bs : List UInt8) : Prop :=
  bs ≠ [] → ∃ b f, o = some ⟨b, f, none⟩ ∧ b < w.heap.size ∧ ∀ i, i < bs.length → w.cell? ⟨b, f + i, none⟩ = some (bV (bs.getD i 0))

/-- The block in which the slice's bytes lie is none of S. -/
def Off (S : Nat → Prop) (o : Option Addr) : Prop := ∀ d, o = some d → ¬ S d.block

theorem RdB.nil (w : World) (o : Option Addr) : RdB w o [] := fun h => (h rfl).elim
theorem RdB.mod {S : Nat → Prop} {w w' : World} {o : Option Addr} {bs : List UInt8} (h : RdB w o bs) (m : Mod S w w') (hs : Off S o) : RdB w' o bs := by
  intro hb
  obtain ⟨b, f, rfl, hl, hc⟩ := h hb
  exact ⟨b, f, rfl, Nat.lt_of_lt_of_le hl m.size, fun i hi => (World.cell?_of_block (m.block b hl (hs _ rfl))).trans (hc i hi)⟩
theorem RdB.mod' {w w' : World} {o : Option Addr} {bs : List UInt8} (h : RdB w o bs) (m : Mod NoB w w') : RdB w' o bs := h.mod m (fun _ _ h => h)
theorem RdB.sub {w : World} {o : Option Addr} {bs : List UInt8} {c lo n : Nat} (h : RdB w o bs) (hl : bs.length ≤ c) : RdB w (subO o c lo 1) ((bs.drop lo).take n) := by
  intro hne
  have h1 : lo < bs.length := by
    rcases Nat.lt_or_ge lo bs.length with h | h
    · exact h
    · rw [List.drop_eq_nil_of_le h] at hne; simp at hne
  have hb : bs ≠ [] := by intro e; rw [e] at h1; simp at h1
  obtain ⟨b, f, rfl, hlt, hc⟩ := h hb
  refine ⟨b, f + lo, ?_, hlt, fun i hi => ?_⟩
  · rw [subO, if_neg (by omega)]; simp
  · rw [List.length_take, List.length_drop] at hi
    rw [Nat.add_assoc, hc (lo + i) (by omega)]
    congr 2
    simp only [List.getD_eq_getElem?_getD]
    rw [List.getElem?_take_of_lt (by omega), List.getElem?_drop]
theorem RdB.take {w : World} {o : Option Addr} {bs : List UInt8} (h : RdB w o bs) (n : Nat) : RdB w o (bs.take n) := by
  intro hne
  have hb : bs ≠ [] := by intro e; rw [e] at hne; simp at hne
  obtain ⟨b, f, rfl, hlt, hc⟩ := h hb
  refine ⟨b, f, rfl, hlt, fun i hi => ?_⟩
  rw [List.length_take] at hi
  rw [hc i (by omega)]
  simp only [List.getD_eq_getElem?_getD]
  rw [List.getElem?_take_of_lt (by omega)]
/-- Reading one byte. -/
theorem RdB.get {w : World} {o : Option Addr} {bs : List UInt8} (h : RdB w o bs) {i : Nat} (hi : i < bs.length) :
    ∃ d, o = some d ∧ w.cell? (Addr.add d (Int.toNat (i : Int))) = some (bV (bs.getD i 0)) := by
  obtain ⟨b, f, rfl, hlt, hc⟩ := h (by intro e; rw [e] at hi; simp at hi)
  exact ⟨_, rfl, by rw [Int.toNat_natCast, add_at]; exact hc i hi⟩
theorem RdB.of_blk {w : World} {b f : Nat} {t : TypeId} {cs : Array Value} {bs : List UInt8} (h : Blk w b t cs) (hc : ∀ i, i < bs.length → cs[f + i]? = some (bV (bs.getD i 0))) : RdB w (some ⟨b, f, none⟩) bs :=
  fun _ => ⟨b, f, rfl, h.lt, fun i hi => by rw [h.cell, hc i hi]⟩

/-! ### Words out of bytes -/
def byteW (b : UInt8) : BitVec 64 := b.toBitVec.setWidth 64
theorem uI_byteW (b : UInt8) : uI (byteW b) = (b.toNat : Int) := by
  simp only [uI, byteW, BitVec.toNat_setWidth, UInt8.toNat_toBitVec]
  have := b.toNat_lt
  omega
/-- The first k bytes as a word, the lowest first. -/
def leK (bs : List UInt8) : Nat → BitVec 64
  | 0 => 0
  | k + 1 => leK bs k ||| (byteW (bs.getD k 0) <<< (8 * k))
def leWord (bs : List UInt8) : BitVec 64 := leK bs bs.length

def leByte (x : BitVec 64) (i : Nat) : UInt8 := UInt8.ofBitVec ((x >>> (8 * i)).setWidth 8)
def leL (x : BitVec 64) (k : Nat) : List UInt8 := (List.range k).map (leByte x)
theorem length_leL (x : BitVec 64) (k : Nat) : (leL x k).length = k := by simp [leL]
theorem leL_succ (x : BitVec 64) (k : Nat) : leL x (k + 1) = leL x k ++ [leByte x k] := by simp [leL, List.range_succ]
theorem wrap_u8 (n : Int) : IntKind.wrap .u8 n = n % 256 := by simp [IntKind.wrap, IntKind.bits, IntKind.signed]
theorem wrap_u8_word (y : BitVec 64) : IntKind.wrap .u8 (uI y) = ((UInt8.ofBitVec (y.setWidth 8)).toNat : Int) := by
  rw [wrap_u8]
  show (y.toNat : Int) % 256 = ((y.setWidth 8).toNat : Int)
  rw [BitVec.toNat_setWidth]
  omega
theorem bitsI_or_u8 (a b : UInt8) : bitsI .or .u8 (a.toNat : Int) (b.toNat : Int) = ((a ||| b).toNat : Int) := by
  have h : ∀ x : UInt8, BitVec.ofInt 8 (x.toNat : Int) = x.toBitVec := by
    intro x
    apply BitVec.eq_of_toNat_eq
    have := x.toNat_lt
    simp
  simp only [bitsI, IntKind.bits, h, wrap_u8]
  show (((a.toBitVec ||| b.toBitVec : BitVec 8).toNat : Nat) : Int) % 256 = (((a ||| b).toBitVec).toNat : Int)
  rw [UInt8.toBitVec_or]
  have := (a.toBitVec ||| b.toBitVec : BitVec 8).isLt
  omega

/-! ### The sponge -/
def xorB (s : St) (blk : List UInt8) : St := fun i => if i < 17 then s i ^^^ leWord ((blk.drop (8 * i)).take 8) else s i
def absorbB (s : St) (blk : List UInt8) : St := keccakF (xorB s blk)
/-- The state behind the first k blocks. -/
def eatK (s : St) (bs : List UInt8) : Nat → St
  | 0 => s
  | k + 1 => absorbB (eatK s bs k) ((bs.drop (136 * k)).take 136)
def zeroS : St := fun _ => 0
/-- What a sponge holds behind the bytes m. -/
def stOf (m : List UInt8) : St := eatK zeroS m (m.length / 136)
def restOf (m : List UInt8) : List UInt8 := m.drop (136 * (m.length / 136))
def padAt (r : List UInt8) (i : Nat) : UInt8 := (if i < r.length then r.getD i 0 else if i = r.length then 1 else 0) ||| (if i = 135 then 128 else 0)
def padB (r : List UInt8) : List UInt8 := (List.range 136).map (padAt r)
def lastS (m : List UInt8) : St := absorbB (stOf m) (padB (restOf m))
def outAt (s : St) (i : Nat) : UInt8 := UInt8.ofBitVec ((s (i / 8) >>> (8 * (i % 8))).setWidth 8)
/-- The document's hash. -/
def sumOf (m : List UInt8) : List UInt8 := (List.range 32).map (outAt (lastS m))
def hashA (h : List UInt8) : Array Value := arrOf 32 (fun i => bV (h.getD i 0))

theorem eatK_add (s : St) (bs : List UInt8) (q : Nat) : ∀ k, eatK s bs (q + k) = eatK (eatK s bs q) (bs.drop (136 * q)) k
  | 0 => rfl
  | k + 1 => by
    rw [← Nat.add_assoc, eatK, eatK_add s bs q k, eatK, List.drop_drop]
    congr 4
    omega
theorem eatK_append (s : St) (m b : List UInt8) : ∀ k, 136 * k ≤ m.length → eatK s (m ++ b) k = eatK s m k
  | 0, _ => rfl
  | k + 1, h => by
    rw [eatK, eatK_append s m b k (by omega), eatK]
    congr 1
    rw [List.drop_append_of_le_length (by omega), List.take_append_of_le_length (by rw [List.length_drop]; omega)]
theorem length_restOf (m : List UInt8) : (restOf m).length = m.length % 136 := by
  rw [restOf, List.length_drop]; omega
theorem restOf_lt (m : List UInt8) : (restOf m).length < 136 := by rw [length_restOf]; omega
theorem rest_append (m b : List UInt8) : restOf m ++ b = (m ++ b).drop (136 * (m.length / 136)) := by
  rw [restOf, List.drop_append_of_le_length (by omega)]
theorem stOf_append (m b : List UInt8) : stOf (m ++ b) = eatK (stOf m) (restOf m ++ b) ((restOf m ++ b).length / 136) := by
  rw [rest_append, stOf, stOf]
  have h1 : (m ++ b).length / 136 = m.length / 136 + ((m ++ b).drop (136 * (m.length / 136))).length / 136 := by
    rw [List.length_drop, List.length_append]; omega
  rw [h1, eatK_add, eatK_append _ _ _ _ (by omega)]
theorem restOf_append (m b : List UInt8) : restOf (m ++ b) = (restOf m ++ b).drop (136 * ((restOf m ++ b).length / 136)) := by
  rw [rest_append, restOf, List.drop_drop]
  congr 1
  rw [List.length_drop, List.length_append]; omega
theorem stOf_nil : stOf [] = zeroS := rfl
theorem restOf_nil : restOf [] = [] := rfl
theorem length_sumOf (m : List UInt8) : (sumOf m).length = 32 := by simp [sumOf]
theorem length_padB (r : List UInt8) : (padB r).length = 136 := by simp [padB]
theorem getD_padB (r : List UInt8) {i : Nat} (h : i < 136) : (padB r).getD i 0 = padAt r i := by simp [padB, List.getD_eq_getElem?_getD, h]
theorem getD_sumOf (m : List UInt8) {i : Nat} (h : i < 32) : (sumOf m).getD i 0 = outAt (lastS m) i := by simp [sumOf, List.getD_eq_getElem?_getD, h]

end Go.Vcg
end

section
namespace Go.Vcg

/-- A slice with a block of its own, from that block's first cell on: xs are its elements' cells. -/
def Own (w : World) (e : TypeId) (sz : Nat) (o : Option Addr) (l c : Nat) (xs : List Value) : Prop :=
  xs.length = l * sz ∧ ((o = none ∧ l = 0 ∧ c = 0) ∨
    ∃ g cur, o = some ⟨g, 0, none⟩ ∧ Blk w g e cur ∧ l ≤ c ∧ c ≤ maxLen ∧ cur.size = c * sz ∧ cur.toList.take (l * sz) = xs)
/-- The block of a slice. -/
def OB (o : Option Addr) : Nat → Prop := fun k => ∃ d, o = some d ∧ d.block = k

theorem OB_none (k : Nat) : ¬ OB none k := by rintro ⟨d, h, _⟩; cases h
theorem Own.nil (w : World) (e : TypeId) (sz : Nat) : Own w e sz none 0 0 [] := ⟨by simp, .inl ⟨rfl, rfl, rfl⟩⟩
theorem Own.mod {S : Nat → Prop} {w w' : World} {e : TypeId} {sz : Nat} {o : Option Addr} {l c : Nat} {xs : List Value} (h : Own w e sz o l c xs) (m : Mod S w w') (hs : ∀ k, OB o k → ¬ S k) : Own w' e sz o l c xs := by
  refine ⟨h.1, ?_⟩
  rcases h.2 with hn | ⟨g, cur, rfl, hb, rest⟩
  · exact .inl hn
  · exact .inr ⟨g, cur, rfl, hb.mod m (hs g ⟨_, rfl, rfl⟩), rest⟩
theorem Own.mod' {w w' : World} {e : TypeId} {sz : Nat} {o : Option Addr} {l c : Nat} {xs : List Value} (h : Own w e sz o l c xs) (m : Mod NoB w w') : Own w' e sz o l c xs := h.mod m (fun _ _ h => h)
theorem Own.lt {w : World} {e : TypeId} {sz : Nat} {o : Option Addr} {l c : Nat} {xs : List Value} (h : Own w e sz o l c xs) {k : Nat} (hk : OB o k) : k < w.heap.size := by
  obtain ⟨d, rfl, rfl⟩ := hk
  rcases h.2 with ⟨h, _⟩ | ⟨g, cur, h, hb, rest⟩
  · cases h
  · cases h; exact hb.lt
theorem Own.len {w : World} {e : TypeId} {o : Option Addr} {l c : Nat} {xs : List Value} (h : Own w e 1 o l c xs) : xs.length = l := by have := h.1; omega
theorem Own.cap {w : World} {e : TypeId} {sz : Nat} {o : Option Addr} {l c : Nat} {xs : List Value} (h : Own w e sz o l c xs) : l ≤ c ∧ c ≤ maxLen := by
  rcases h.2 with ⟨_, rfl, rfl⟩ | ⟨g, cur, _, _, h1, h2, _⟩
  · exact ⟨Nat.le_refl _, Nat.zero_le _⟩
  · exact ⟨h1, h2⟩
theorem Own.cell {w : World} {e : TypeId} {sz : Nat} {o : Option Addr} {l c : Nat} {xs : List Value} (h : Own w e sz o l c xs) {i : Nat} {v : Value} (hv : xs[i]? = some v) :
    ∃ g, o = some ⟨g, 0, none⟩ ∧ w.cell? ⟨g, i, none⟩ = some v := by
  rcases h.2 with ⟨_, rfl, _⟩ | ⟨g, cur, ho, hb, _, _, hs, ht⟩
  · have := h.1; simp at this; subst this; simp at hv
  · refine ⟨g, ho, ?_⟩
    rw [hb.cell]
    rw [← ht, List.getElem?_take] at hv
    split at hv
    · simpa using hv
    · cases hv

theorem Own.bytes {w : World} {e : TypeId} {o : Option Addr} {l c : Nat} {bs : List UInt8} (h : Own w e 1 o l c (bs.map bV)) : RdB w o bs := by
  intro hne
  have hl : 0 < bs.length := by cases bs <;> simp_all
  obtain ⟨g, rfl, _⟩ := h.cell (i := 0) (v := bV (bs.getD 0 0)) (by rw [List.getElem?_map]; simp [List.getD_eq_getElem?_getD, hl])
  refine ⟨g, 0, rfl, ?_, fun i hi => ?_⟩
  · exact h.lt ⟨_, rfl, rfl⟩
  · obtain ⟨g', hg, hc⟩ := h.cell (i := i) (v := bV (bs.getD i 0)) (by rw [List.getElem?_map]; simp [List.getD_eq_getElem?_getD, hi])
    cases hg
    rw [Nat.zero_add]; exact hc

theorem src_bytes {P : Program} {w : World} {tx e' : TypeId} (hk : P.underlying tx = some (.slice e')) {o : Option Addr} {c : Nat} {bs : List UInt8} (h : RdB w o bs) :
    Src P 1 tx (.slice o bs.length c) bs.length (bs.map bV) w := by
  by_cases hb : bs = []
  · subst hb
    cases o with
    | none => exact Src.ofNil w hk c
    | some a => exact Src.ofSlice w hk a 0 c [] (by simp) (by simp) (by simp)
  · obtain ⟨b, f, rfl, hl, hc⟩ := h hb
    refine Src.ofSlice w hk _ _ c _ (by simp) (fun j u hu => ?_) (by simp; intro a _; rfl)
    rw [add_at]
    rw [List.getElem?_map, Option.map_eq_some_iff] at hu
    obtain ⟨x, hx, rfl⟩ := hu
    obtain ⟨hj, rfl⟩ := List.getElem?_eq_some_iff.1 hx
    rw [hc j hj]
    simp [List.getD_eq_getElem?_getD, hj]
/-- One element in a row of its own, as a literal 'append(s, x)' makes it. -/
theorem src_one {P : Program} {w : World} {tx e' : TypeId} (hk : P.underlying tx = some (.slice e')) {b : Nat} {t : TypeId} {cs : Array Value} {sz : Nat} (h : Blk w b t cs) (hs : cs.size = sz) (h1 : ∀ v ∈ cs.toList, v.oneCell' = true) :
    Src P sz tx (.slice (some ⟨b, 0, none⟩) 1 1) 1 cs.toList w :=
  Src.ofSlice w hk _ 1 1 _ (by simp [hs]) (fun j u hu => by rw [add_at, h.cell, Nat.zero_add]; simpa using hu) h1

theorem mod_setCells (w : World) (g : Nat) : ∀ (vs : List Value) (o : Nat), Mod (· = g) w (w.setCells g o vs)
  | [], _ => Mod.refl w
  | v :: vs, o => by
    have h1 := Mod.setCell w ⟨g, o, none⟩ v
    suffices ∀ w1 : World, Mod (· = g) w w1 → ∀ (vs : List Value) (o : Nat), Mod (· = g) w (w1.setCells g o vs) from this _ h1 vs (o + 1)
    intro w1 h1 vs
    induction vs generalizing w1 with
    | nil => intro _; exact h1
    | cons v vs ih => exact fun o => ih _ (h1.trans (Mod.setCell _ _ _) (fun _ _ h => h)) _
theorem blk_setCells {g : Nat} {t : TypeId} : ∀ (vs : List Value) (o : Nat) {cs : Array Value} {w : World}, Blk w g t cs → Blk (w.setCells g o vs) g t (setsAt cs o vs)
  | [], _, _, _, h => h
  | v :: vs, o, cs, w, h => by
    rw [World.setCells, setsAt]
    exact blk_setCells vs (o + 1) (h.set o v)
theorem size_setsAt : ∀ (vs : List Value) (o : Nat) (cs : Array Value), (setsAt cs o vs).size = cs.size
  | [], _, _ => rfl
  | v :: vs, o, cs => by rw [setsAt, size_setsAt vs]; simp
theorem get_setsAt : ∀ (vs : List Value) (o : Nat) (cs : Array Value) (i : Nat), o + vs.length ≤ cs.size → (setsAt cs o vs)[i]? = if o ≤ i ∧ i < o + vs.length then vs[i - o]? else cs[i]?
  | [], o, cs, i, h => by rw [setsAt, if_neg (by simp)]
  | v :: vs, o, cs, i, h => by
    rw [List.length_cons] at h
    rw [setsAt, get_setsAt vs (o + 1) _ i (by simp; omega), Array.getElem?_setIfInBounds]
    by_cases h1 : i = o
    · subst h1
      rw [if_neg (by omega), if_pos rfl, if_pos (by omega), if_pos (by simp)]
      simp
    · by_cases h2 : o + 1 ≤ i ∧ i < o + 1 + vs.length
      · rw [if_pos h2, if_pos (by simp; omega), show i - o = (i - (o + 1)) + 1 by omega]
        simp
      · rw [if_neg h2, if_neg (by omega), if_neg (by simp; omega)]

theorem append_own {P : Program} {w : World} {t tx ty e : TypeId} {i : TypeInfo} {z : Value} {sz : Nat} {o : Option Addr} {l c : Nat} {xs : List Value} {x : Value} {n : Nat} {news : List Value}
    (ht : P.underlying t = some (.slice e)) (hi : P.info? e = some i) (hz : i.zero = some z) (hs : i.size = sz) (hzs : z.cells.size = sz)
    (h : Own w e sz o l c xs) (src : Src P sz tx x n news w) (h63 : l + n ≤ maxLen) (hb : (l + n) * i.bytes ≤ 140737488355328) :
    ∃ o' c' w', Sem.run P (builtinV .append #[t, tx] ty #[.slice o l c, x]) w = .ok (.slice o' (l + n) c') w' ∧ Own w' e sz o' (l + n) c' (xs ++ news) ∧ Mod (OB o) w w' ∧
      (∀ k, OB o' k → OB o k ∨ w.heap.size ≤ k) := by
  have hlen : (xs ++ news).length = (l + n) * sz := by rw [List.length_append, h.1, src.newsLen, Nat.add_mul]
  by_cases hroom : l + n ≤ c
  · rcases h.2 with ⟨rfl, rfl, rfl⟩ | ⟨g, cur, rfl, hB, hlc, hcm, hcs, htk⟩
    · obtain rfl : n = 0 := by omega
      have hn : news = [] := List.eq_nil_of_length_eq_zero (by simpa using src.newsLen)
      have hx : xs = [] := List.eq_nil_of_length_eq_zero (by simpa using h.1)
      subst hn hx
      refine ⟨none, 0, w, ?_, Own.nil _ _ _, Mod.refl w, fun k hk => .inl hk⟩
      have hc := src.cells
      subst hs
      rcases src.kind with ⟨e', hk⟩ | hk <;> simp [builtinV, Builtin.append_, run_underlying ht, run_underlying hk, sizeOf, typeInfo, hi, src.len, hc]
    · subst hs
      have hfit : l * i.size + news.length ≤ cur.size := by rw [src.newsLen, hcs, ← Nat.add_mul]; exact Nat.mul_le_mul_right _ hroom
      have hr := run_append_room_src (P := P) w t tx ty e i ht hi g 0 l c x n news src hroom
        (fun j hj => by rw [Nat.zero_add, hB.cell]; simp; omega) (fun j hj => by simp [World.frozen?, show w.heap[g]? = _ from hB])
      rw [Nat.zero_add] at hr
      refine ⟨_, _, _, hr, ⟨hlen, .inr ⟨g, _, rfl, blk_setCells news _ hB, hroom, hcm, by rw [size_setsAt, hcs], ?_⟩⟩, (mod_setCells w g news _).mono (fun k _ hk => ⟨_, rfl, hk.symm⟩), fun k hk => .inl hk⟩
      apply List.ext_getElem?
      intro j
      rw [List.getElem?_take]
      have hxl : xs.length = l * i.size := h.1
      by_cases hj : j < (l + n) * i.size
      · rw [if_pos hj, Array.getElem?_toList, get_setsAt _ _ _ _ hfit]
        by_cases hj2 : j < l * i.size
        · rw [if_neg (by omega), List.getElem?_append_left (by omega), ← htk, List.getElem?_take, if_pos hj2, Array.getElem?_toList]
        · rw [if_pos (by rw [src.newsLen, ← Nat.add_mul]; omega), List.getElem?_append_right (by omega), hxl]
      · rw [if_neg hj, List.getElem?_eq_none (by omega)]
  · have hold : (Builtin.firstCells i.size l (.slice o l c)).run P w.drew = .ok xs.toArray w.drew := by
      subst hs
      rcases h.2 with ⟨rfl, rfl, rfl⟩ | ⟨g, cur, rfl, hB, hlc, hcm, hcs, htk⟩
      · have hx : xs = [] := List.eq_nil_of_length_eq_zero (by simpa using h.1)
        subst hx
        exact run_firstCells_none w.drew i.size 0 0 0
      · exact run_firstCells_some w.drew i.size l _ l c xs h.1 (fun j v hv => by
          rw [add_at, Nat.zero_add]
          obtain ⟨g', hg', hc'⟩ := h.cell hv
          cases hg'
          exact hc')
    have hr := run_append_grow_src (P := P) w t tx ty e i z ht hi hz o l c xs hold x n news (hs ▸ src) (by omega) (by simp only [maxLen] at h63; omega) (growslice_fits (by omega) hb)
    have hge := grownCap_ge w (l + n) c e
    have hcm : grownCap w (l + n) c e ≤ maxLen := grownCap_le_maxLen w (l + n) c e h63
    refine ⟨_, _, _, hr, ⟨hlen, .inr ⟨_, _, rfl, Blk.new w.drew e _, hge, hcm, ?_, ?_⟩⟩, ((Mod.drew w).step_alloc _), fun k hk => .inr ?_⟩
    · rw [Array.size_append, List.size_toArray, hlen, size_zeroCells, hzs, ← Nat.add_mul]
      congr 1; omega
    · rw [Array.toList_append]
      show List.take _ ((xs ++ news) ++ _) = _
      rw [← hlen]
      exact List.take_left
    · obtain ⟨d, hd, rfl⟩ := hk
      cases hd
      exact Nat.le_refl _

/-- Bytes are copied into a block of our own. -/
theorem copy_blk {P : Program} {w : World} {t tx ty e : TypeId} {g o dLen dCap c n : Nat} {cur : Array Value} {te : TypeId} {o2 : Option Addr} {bs : List UInt8}
    (ht : P.underlying t = some (.slice e)) (hi : (P.info? e).map (·.size) = some 1) (h : Blk w g te cur) (hr : RdB w o2 bs) (hn : n = Nat.min bs.length dLen) (hfit : o + n ≤ cur.size) :
    ∃ w', Sem.run P (builtinV .copy #[t, tx] ty #[.slice (some ⟨g, o, none⟩) dLen dCap, .slice o2 bs.length c]) w = .ok (.int .i64 (n : Int)) w' ∧ Blk w' g te (setsAt cur o ((bs.take n).map bV)) ∧ Mod (· = g) w w' := by
  obtain ⟨i, hi1, hi2⟩ := Option.map_eq_some_iff.1 hi
  have hlen : ((bs.take n).map bV).length = n := by
    rw [List.length_map, List.length_take]
    have : n ≤ bs.length := by rw [hn]; exact Nat.min_le_left _ _
    omega
  have hone : ∀ v ∈ (bs.take n).map bV, v.oneCell' = true := by
    intro v hv; obtain ⟨x, _, rfl⟩ := List.mem_map.1 hv; rfl
  have hcells : (Builtin.firstCells 1 n (.slice o2 bs.length c)).run P w = .ok ((bs.take n).map bV).toArray w := by
    have h1 := hr.take n
    by_cases hb : bs.take n = []
    · have h0 : n = 0 := by rw [← hlen, hb]; rfl
      rw [hb, h0]
      cases o2 with
      | none => exact run_firstCells_none w 1 0 _ _
      | some a => exact run_firstCells_some w 1 0 a _ _ [] (by simp) (by simp)
    · obtain ⟨b, f, rfl, hl, hc⟩ := h1 hb
      refine run_firstCells_some w 1 n _ _ _ _ (by rw [hlen]; omega) (fun j u hu => ?_)
      rw [add_at]
      rw [List.getElem?_map, Option.map_eq_some_iff] at hu
      obtain ⟨x, hx, rfl⟩ := hu
      obtain ⟨hj, rfl⟩ := List.getElem?_eq_some_iff.1 hx
      rw [hc j hj]
      simp only [List.getD_eq_getElem?_getD, hx, Option.getD_some]
  have hst := run_storeCells_cells (P := P) g o ((bs.take n).map bV) 0 w
    (fun j hj => by rw [h.cell]; simp; omega) (fun j hj => by simp [World.frozen?, show w.heap[g]? = _ from h]) hone
  simp only [Nat.add_zero] at hst
  refine ⟨w.setCells g o ((bs.take n).map bV), ?_, blk_setCells _ _ h, mod_setCells _ _ _ _⟩
  have hm : (Builtin.firstCells 1 (Nat.min bs.length dLen) (.slice o2 bs.length c)).run P w = .ok ((bs.take n).map bV).toArray w := hn ▸ hcells
  clear hcells hone hr
  subst hn
  generalize (bs.take (Nat.min bs.length dLen)).map bV = L at *
  simp only [Builtin.copy_, builtinV]
  simp [run_underlying ht, Builtin.lenOf, sizeOf, typeInfo, hi1, hi2, hm, hst, goInt]

theorem IsSet.at' {w w' : World} {b i : Nat} {v : Value} (h : IsSet w ⟨b, i, none⟩ v w') : w' = w.setCell ⟨b, i, none⟩ v := h
theorem subO_one {o : Option Addr} {c lo : Nat} : subO o c lo 1 = (if c = lo then o else o.map (·.add lo)) := by rw [subO, Nat.mul_one]
/-- copy(s, s[lo:]) in a slice of our own; then s[:n]. -/
theorem copy_down {P : Program} {w : World} {t tx ty e : TypeId} {o : Option Addr} {l c lo : Nat} {bs : List UInt8}
    (ht : P.underlying t = some (.slice e)) (hi : (P.info? e).map (·.size) = some 1) (h : Own w e 1 o l c (bs.map bV)) (hlo : lo ≤ l) :
    ∃ w', Sem.run P (builtinV .copy #[t, tx] ty #[.slice o l c, .slice (subO o c lo 1) (l - lo) (c - lo)]) w = .ok (.int .i64 ((l - lo : Nat) : Int)) w' ∧ Own w' e 1 o (l - lo) c ((bs.drop lo).map bV) ∧ Mod (OB o) w w' := by
  have hl : bs.length = l := by have := h.len; simpa using this
  have hr := h.bytes
  have hr' : RdB w (subO o c lo 1) (bs.drop lo) := by
    have := hr.sub (c := c) (lo := lo) (n := bs.length) (by rw [hl]; exact h.cap.1)
    rwa [List.take_of_length_le (by simp)] at this
  rcases h.2 with ⟨rfl, rfl, rfl⟩ | ⟨g, cur, rfl, hB, hlc, hcm, hcs, htk⟩
  · obtain rfl : lo = 0 := by omega
    have : bs = [] := List.eq_nil_of_length_eq_zero hl
    subst this
    refine ⟨w, ?_, Own.nil _ _ _, Mod.refl w⟩
    obtain ⟨i, hi1, hi2⟩ := Option.map_eq_some_iff.1 hi
    simp [builtinV, Builtin.copy_, run_underlying ht, Builtin.lenOf, sizeOf, typeInfo, hi1, Builtin.firstCells, subO, goInt]
  · obtain ⟨w', h1, h2, h3⟩ := copy_blk (P := P) (ty := ty) (tx := tx) (dLen := l) (dCap := c) (n := l - lo) (o := 0) (c := c - lo) ht hi hB hr' (by rw [List.length_drop, hl]; exact (Nat.min_eq_left (by omega)).symm) (by omega)
    rw [List.length_drop, hl] at h1
    have hdl : (bs.drop lo).length = l - lo := by rw [List.length_drop, hl]
    rw [List.take_of_length_le (by omega)] at h2
    have hml : ((bs.drop lo).map bV).length = l - lo := by rw [List.length_map, hdl]
    refine ⟨w', h1, ⟨by rw [hml, Nat.mul_one], .inr ⟨g, _, rfl, h2, by omega, hcm, by rw [size_setsAt, hcs], ?_⟩⟩, h3.mono (fun k _ hk => ⟨_, rfl, hk.symm⟩)⟩
    apply List.ext_getElem?
    intro j
    rw [List.getElem?_take, Nat.mul_one]
    by_cases hj : j < l - lo
    · rw [if_pos hj, Array.getElem?_toList, get_setsAt _ _ _ _ (by omega), if_pos (by omega), Nat.sub_zero]
    · rw [if_neg hj, List.getElem?_eq_none (by omega)]

theorem setsAt_arrOf (n o : Nat) (f g : Nat → Value) (m : Nat) (vs : List Value) (hm : vs.length = m) (hg : ∀ i, i < m → vs[i]? = some (g i)) (h : o + m ≤ n) :
    setsAt (arrOf n f) o vs = arrOf n (fun i => if o ≤ i ∧ i < o + m then g (i - o) else f i) := by
  subst hm
  refine eq_arrOf (by rw [size_setsAt, size_arrOf]) (fun i hi => ?_)
  rw [get_setsAt _ _ _ _ (by simpa using h)]
  by_cases h1 : o ≤ i ∧ i < o + vs.length
  · rw [if_pos h1, if_pos h1, hg _ (by omega)]
  · rw [if_neg h1, if_neg h1, get_arrOf_lt hi]
theorem map_bV_get {bs : List UInt8} {i : Nat} (h : i < bs.length) : (bs.map bV)[i]? = some (bV (bs.getD i 0)) := by
  rw [List.getElem?_map, List.getElem?_eq_getElem h]
  simp [List.getD_eq_getElem?_getD, h]

/-- A slice of slices of bytes. -/
def RdBB (w : World) (o : Option Addr) (ls : List (List UInt8)) : Prop :=
  ∀ i, i < ls.length → ∃ b f oi ci, o = some ⟨b, f, none⟩ ∧ b < w.heap.size ∧ w.cell? ⟨b, f + i, none⟩ = some (.slice oi (ls.getD i []).length ci) ∧ RdB w oi (ls.getD i [])
theorem RdBB.mod' {w w' : World} {o : Option Addr} {ls : List (List UInt8)} (h : RdBB w o ls) (m : Mod NoB w w') : RdBB w' o ls := by
  intro i hi
  obtain ⟨b, f, oi, ci, rfl, hl, hc, hr⟩ := h i hi
  exact ⟨b, f, oi, ci, rfl, Nat.lt_of_lt_of_le hl m.size, (World.cell?_of_block (m.block b hl (fun h => h))).trans hc, hr.mod' m⟩
theorem RdBB.one {w : World} {b : Nat} {t : TypeId} {o : Option Addr} {c : Nat} {bs : List UInt8} (h : Blk w b t #[.slice o bs.length c]) (hr : RdB w o bs) : RdBB w (some ⟨b, 0, none⟩) [bs] := by
  intro i hi
  obtain rfl : i = 0 := by simpa using hi
  exact ⟨b, 0, o, c, rfl, h.lt, by rw [h.cell]; rfl, hr⟩
theorem flatten_take_succ (ls : List (List UInt8)) (i : Nat) (h : i < ls.length) : (ls.take (i + 1)).flatten = (ls.take i).flatten ++ ls.getD i [] := by
  rw [List.take_add_one, List.flatten_append, List.getElem?_eq_getElem h]
  simp [List.getD_eq_getElem?_getD, h]

end Go.Vcg
end

section
namespace Go.Vcg

section
variable {P : Program} {w : World} {t e : TypeId} {n : Nat} {k : IntKind}

theorem run_equalIn_arr (d : Nat) (ht : P.underlying t = some (.array n e)) (he : P.underlying e = some (.int k)) (hsz : (P.info? e).map (·.size) = some 1) (f g : Nat → Int) :
    (Op.equalIn (d + 2) t (.agg (arrOf n (fun i => .int k (f i)))) (.agg (arrOf n (fun i => .int k (g i))))).run P w = .ok (decide (∀ i, i < n → f i = g i)) w := by
  obtain ⟨inf, hi1, hi2⟩ := Option.map_eq_some_iff.1 hsz
  have hs : ∀ w, (sizeOf e).run P w = .ok 1 w := fun w => by simp [sizeOf, typeInfo, hi1, hi2]
  have hall : decide (∀ i, i < n → f i = g i) = ((List.range' 0 n 1).all fun i => f i == g i) := by
    rw [Bool.eq_iff_iff]
    simp only [decide_eq_true_eq, List.all_eq_true, List.mem_range'_1, Nat.zero_le, true_and, Nat.zero_add, beq_iff_eq]
  rw [hall, Op.equalIn]
  simp only [Sem.run_bind, run_underlying ht, Result.andThen_ok, hs, Std.Legacy.Range.forIn_eq_forIn_range', Std.Legacy.Range.size, Nat.sub_zero, Nat.add_sub_cancel, Nat.div_one]
  have hl : ∀ i ∈ List.range' 0 n 1, i < n := fun i hi => by simpa using (List.mem_range'_1.1 hi).2
  generalize List.range' 0 n 1 = l at hl ⊢
  induction l with
  | nil => simp
  | cons i l ih =>
    have hi : i < n := hl i (by simp)
    have px : ∀ h : Nat → Int, (part e (arrOf n (fun i => Value.int k (h i))) (i * 1)).run P w = .ok (.int k (h i)) w := by
      intro h
      simp only [Nat.mul_one]
      simp [part, isAgg, run_underlying he, get_arrOf_lt hi]
    have pe : (Op.equalIn (d + 1) e (.int k (f i)) (.int k (g i))).run P w = .ok (f i == g i) w := run_equalIn_int w d e k k _ _ he
    simp only [List.forIn_cons, Sem.run_bind, px, pe, Result.andThen_ok, List.all_cons]
    cases hb : (f i == g i)
    · simp
    · simp only [Bool.not_true, Bool.false_eq_true, if_false, Sem.run_pure, Result.andThen_ok, Bool.true_and]
      exact ih fun j hj => hl j (by simp [hj])

theorem semEq_arr (ht : P.underlying t = some (.array n e)) (he : P.underlying e = some (.int k)) (hsz : (P.info? e).map (·.size) = some 1) (hg : P.eqGuardType P.depth t = false) (x y : Operand) (f g : Nat → Int) :
    Sem.run P (semBin .eql t x y (.agg (arrOf n (fun i => .int k (f i)))) (.agg (arrOf n (fun i => .int k (g i))))) w = .ok (.bool (decide (∀ i, i < n → f i = g i))) w := by
  have hgd : (eqGuard .eql t x y (.agg (arrOf n (fun i => .int k (f i)))) (.agg (arrOf n (fun i => .int k (g i))))).run P w = .ok () w := by
    have hpg : ∀ w, Sem.run P program w = .ok P w := fun w => rfl
    simp [eqGuard, hpg, hg]
  rw [semBin, Sem.run_bind, hgd, Result.andThen_ok, run_eql_struct, run_equalIn_arr 9998 ht he hsz]
  rfl
theorem semNe_arr (ht : P.underlying t = some (.array n e)) (he : P.underlying e = some (.int k)) (hsz : (P.info? e).map (·.size) = some 1) (hg : P.eqGuardType P.depth t = false) (x y : Operand) (f g : Nat → Int) :
    Sem.run P (semBin .neq t x y (.agg (arrOf n (fun i => .int k (f i)))) (.agg (arrOf n (fun i => .int k (g i))))) w = .ok (.bool (!decide (∀ i, i < n → f i = g i))) w := by
  have hgd : (eqGuard .neq t x y (.agg (arrOf n (fun i => .int k (f i)))) (.agg (arrOf n (fun i => .int k (g i))))).run P w = .ok () w := by
    have hpg : ∀ w, Sem.run P program w = .ok P w := fun w => rfl
    simp [eqGuard, hpg, hg]
  rw [semBin, Sem.run_bind, hgd, Result.andThen_ok, run_neq_struct, run_equalIn_arr 9998 ht he hsz]
  rfl
end

/-- A slice's elements, marked as a string's: nothing that is read turns. -/
theorem convert_same {P : Program} {w : World} {t e : TypeId} {b l c : Nat} {te : TypeId} {cs : Array Value} (ht : P.underlying t = some (.slice e)) (he : P.underlying e = some (.int .u8)) (h : Blk w b te cs) :
    ∃ w', Sem.run P (convert t t (.slice (some ⟨b, 0, none⟩) l c)) w = .ok (.slice (some ⟨b, 0, none⟩) l c) w' ∧ Mod (· = b) w w' ∧ ∀ a, w'.cell? a = w.cell? a := by
  have hb : w.heap[b]? = some (.cells cs te (0, 0)) := h
  refine ⟨w.freeze ⟨b, cs.size, none⟩ 1, ?_, ?_, ?_⟩
  · have h1 : ∀ w : World, Sem.run P (shape b) w = .ok (w.shape? b) w := fun w => rfl
    have h2 : ∀ (a : Addr) (n : Nat) (w : World), Sem.run P (freeze a n) w = .ok () (w.freeze a n) := fun a n w => rfl
    have h3 : w.shape? b = some (te, cs.size) := by simp [World.shape?, hb]
    simp [convert, run_underlying ht, run_underlying he, markStringish, h1, h2, h3]
  · unfold World.freeze
    rw [if_neg (by decide)]
    exact ⟨rfl, rfl, rfl, by simp, fun k hk hn => by simp only [Array.getElem?_modify]; rw [if_neg (fun e => hn e.symm)]⟩
  · intro a
    unfold World.freeze
    rw [if_neg (by decide)]
    simp only [World.cell?, Array.getElem?_modify]
    by_cases ha : b = a.block
    · rw [if_pos ha, ← ha, hb]; rfl
    · rw [if_neg ha]

end Go.Vcg
end

section
namespace Go.Vcg
open Go

theorem mapM_all {α β : Type} {f : α → Option β} : ∀ {l : List α} {ys : List β}, l.mapM f = some ys → ∀ x ∈ l, ∃ y, f x = some y
  | [], _, _, x, hx => by cases hx
  | a :: l, ys, h, x, hx => by
    rw [List.mapM_cons] at h
    cases ha : f a with
    | none => simp [ha] at h
    | some b =>
      cases hl : l.mapM f with
      | none => simp [ha, hl] at h
      | some bs =>
        rcases List.mem_cons.1 hx with rfl | hx
        · exact ⟨b, ha⟩
        · exact mapM_all hl x hx

section
variable {H : Type} {enc : TypeId × Value → H} {P : Program} {W : World} {sp : Nat → Bool} {held : Bool} {b0 base : Nat} {r : Reach}

/-- An array of numbers. -/
theorem open_arr_int {t e : TypeId} {n : Nat} {k : IntKind} {v : Value} {d : DataW H} {ps : List MemPlace} (ht : P.underlying t = some (.array n e)) (he : P.underlying e = some (.int k)) (hce : P.cellsOf e = 1) (hct : P.cellsOf t = n)
    (hv : Value.okWide P W r b0 t v) (hd : DataW.Trod enc P W base sp held t v d ps) : ∃ f : Nat → Int, v = .agg (arrOf n (fun i => .int k (f i))) ∧ ∀ i, i < n → (Lit.int k (f i)).wf = true := by
  unfold Value.okWide at hv
  rw [ht] at hv
  obtain ⟨cs, rfl, hcs, _⟩ := hv
  rw [hct] at hcs
  obtain ⟨fuel, hf⟩ := hd
  cases fuel with
  | zero => simp [DataW.trod] at hf
  | succ fuel =>
    simp only [DataW.trod, ht, Value.cells] at hf
    rw [if_pos (by simp [hcs, hct])] at hf
    obtain ⟨ys, hy, _⟩ := Option.map_eq_some_iff.1 hf
    have hall : ∀ i, i < n → ∃ m, cs[i]? = some (.int k m) ∧ (Lit.int k m).wf = true := by
      intro i hi
      obtain ⟨y, h1⟩ := mapM_all hy i (List.mem_range.2 hi)
      have h2 : (cs.toList.drop (i * 1)).take 1 = [cs[i]] := by
        rw [Nat.mul_one, List.drop_eq_getElem_cons (by simp; omega)]
        simp
      rw [hce, h2] at h1
      cases fuel with
      | zero => simp [DataW.trod] at h1
      | succ fuel =>
        simp only [DataW.trod, he] at h1
        generalize hc : cs[i] = c at h1
        cases c with
        | int k' m =>
          simp only at h1
          split at h1
          · rename_i hk
            obtain ⟨rfl, hw⟩ := hk
            exact ⟨m, by rw [Array.getElem?_eq_getElem (by omega), hc], hw⟩
          · cases h1
        | _ => simp at h1
    refine ⟨fun i => match cs[i]? with | some (.int _ m) => m | _ => 0, ?_, ?_⟩
    · congr 1
      refine eq_arrOf hcs (fun i hi => ?_)
      obtain ⟨m, hm, _⟩ := hall i hi
      simp only [hm]
    · intro i hi
      obtain ⟨m, hm, hw⟩ := hall i hi
      simp only [hm]; exact hw
end

theorem wf_word {n : Int} (h : (Lit.int .u64 n).wf = true) : ∃ x : BitVec 64, n = uI x := by
  have h2 : 0 ≤ n ∧ n < 18446744073709551616 := by
    simp only [Lit.wf, Bool.and_eq_true, decide_eq_true_eq] at h
    have h1 : IntKind.min .u64 = 0 := by decide
    have h2 : IntKind.max .u64 = 18446744073709551615 := by decide
    omega
  exact ⟨BitVec.ofNat 64 n.toNat, by simp only [uI, BitVec.toNat_ofNat]; omega⟩
section
variable {H : Type} {enc : TypeId × Value → H} {P : Program} {W : World} {sp : Nat → Bool} {held : Bool} {base : Nat}

theorem cells1_some {a : Addr} {vs : List Value} (h : W.cells? base a 1 = some vs) : ∃ v, vs = [v] ∧ W.cell? a = some v := by
  unfold World.cells? at h
  split at h
  · simp only [List.range_one, List.mapM_cons, List.mapM_nil] at h
    have e : a.add 0 = a := by simp [Addr.add]
    rw [e] at h
    cases hc : W.cell? a with
    | none => simp [hc] at h
    | some v => simp [hc] at h; exact ⟨v, h.symm, rfl⟩
  · cases h

/-- What a reading of a slice tells of its elements, one cell each. -/
theorem trod_slice {fuel : Nat} {t e : TypeId} {v : Value} {d : DataW H} {ps : List MemPlace} (ht : P.underlying t = some (.slice e)) (hce : P.cellsOf e = 1)
    (h : DataW.trod enc P W base sp held fuel t [v] = some (d, ps)) :
    ∃ o l c, v = .slice o l c ∧ l ≤ c ∧ c ≤ maxLen ∧ ∀ i, i < l → ∃ b f u d' ps' fuel', o = some ⟨b, f, none⟩ ∧ b < W.heap.size ∧ W.cell? ⟨b, f + i, none⟩ = some u ∧ DataW.trod enc P W base sp held fuel' e [u] = some (d', ps') := by
  cases fuel with
  | zero => simp [DataW.trod] at h
  | succ fuel =>
    cases v with
    | slice o l c =>
      cases o with
      | none =>
        have : l = 0 ∧ c = 0 := by
          rcases l with _ | l <;> rcases c with _ | c <;> simp [DataW.trod, ht] at h ⊢
        obtain ⟨rfl, rfl⟩ := this
        exact ⟨none, 0, 0, rfl, Nat.le_refl _, Nat.zero_le _, fun i hi => (Nat.not_lt_zero _ hi).elim⟩
      | some a =>
        simp only [DataW.trod, ht, hce, Nat.mul_one] at h
        split at h
        · rename_i hc
          refine ⟨some a, l, c, rfl, hc.2.1, hc.2.2, fun i hi => ?_⟩
          obtain ⟨els, hm, _⟩ := Option.bind_eq_some_iff.1 h
          obtain ⟨y, hy⟩ := mapM_all hm i (List.mem_range.2 hi)
          obtain ⟨vs, hv, hd⟩ := Option.bind_eq_some_iff.1 hy
          obtain ⟨u, rfl, hu⟩ := cells1_some hv
          obtain ⟨y0, hy0⟩ := mapM_all hm 0 (List.mem_range.2 (by omega))
          obtain ⟨vs0, hv0, _⟩ := Option.bind_eq_some_iff.1 hy0
          obtain ⟨u0, _, hu0⟩ := cells1_some hv0
          have hspot : a.spot = none := by
            have e : a.add 0 = a := by simp [Addr.add]
            rw [e] at hu0
            unfold World.cell? at hu0
            cases hs : a.spot with
            | none => rfl
            | some x =>
              rw [hs] at hu0
              split at hu0 <;> simp at hu0
          obtain ⟨b, f, spot⟩ := a
          simp only at hspot
          subst hspot
          rw [add_at] at hu
          refine ⟨b, f, u, y.1, y.2, fuel, rfl, ?_, hu, hd⟩
          unfold World.cell? at hu
          split at hu
          · rename_i hb; exact (Array.getElem?_eq_some_iff.1 hb).1
          · cases hu
        · cases h
    | _ => simp [DataW.trod, ht] at h

theorem trod_u8 {fuel : Nat} {e : TypeId} {u : Value} {d : DataW H} {ps : List MemPlace} (he : P.underlying e = some (.int .u8)) (h : DataW.trod enc P W base sp held fuel e [u] = some (d, ps)) : ∃ x : UInt8, u = bV x := by
  cases fuel with
  | zero => simp [DataW.trod] at h
  | succ fuel =>
    simp only [DataW.trod, he] at h
    cases u with
    | int k m =>
      simp only at h
      split at h
      · rename_i hk
        obtain ⟨rfl, hw⟩ := hk
        simp only [Lit.wf, Bool.and_eq_true, decide_eq_true_eq] at hw
        have h1 : IntKind.min .u8 = 0 := by decide
        have h2 : IntKind.max .u8 = 255 := by decide
        refine ⟨UInt8.ofNat m.toNat, ?_⟩
        have : ((UInt8.ofNat m.toNat).toNat : Int) = m := by
          rw [UInt8.toNat_ofNat']; omega
        rw [bV, this]
      · cases h
    | _ => simp at h

theorem trod_bytes {fuel : Nat} {t e : TypeId} {v : Value} {d : DataW H} {ps : List MemPlace} (ht : P.underlying t = some (.slice e)) (he : P.underlying e = some (.int .u8)) (hce : P.cellsOf e = 1)
    (h : DataW.trod enc P W base sp held fuel t [v] = some (d, ps)) : ∃ o c bs, v = .slice o bs.length c ∧ bs.length ≤ c ∧ c ≤ maxLen ∧ RdB W o bs := by
  obtain ⟨o, l, c, rfl, hlc, hcm, hall⟩ := trod_slice ht hce h
  have hx : ∀ i, ∃ x : UInt8, i < l → ∃ b f, o = some ⟨b, f, none⟩ ∧ b < W.heap.size ∧ W.cell? ⟨b, f + i, none⟩ = some (bV x) := fun i => by
    by_cases hi : i < l
    · obtain ⟨b, f, u, d', ps', fuel', ho, hb, hu, hd⟩ := hall i hi
      obtain ⟨x, rfl⟩ := trod_u8 he hd
      exact ⟨x, fun _ => ⟨b, f, ho, hb, hu⟩⟩
    · exact ⟨0, fun h => (hi h).elim⟩
  have hl : ((List.range l).map (fun i => Classical.choose (hx i))).length = l := by simp
  refine ⟨o, c, (List.range l).map (fun i => Classical.choose (hx i)), by rw [hl], by rw [hl]; exact hlc, hcm, fun hne => ?_⟩
  have hl0 : 0 < l := by rw [← hl]; exact List.length_pos_iff.2 hne
  obtain ⟨b, f, ho, hb, _⟩ := Classical.choose_spec (hx 0) hl0
  subst ho
  refine ⟨b, f, rfl, hb, fun i hi => ?_⟩
  rw [hl] at hi
  obtain ⟨b', f', ho, hb', hc⟩ := Classical.choose_spec (hx i) hi
  cases ho
  rw [hc]
  simp [List.getD_eq_getElem?_getD, hi]

theorem trod_i64 {fuel : Nat} {e : TypeId} {u : Value} {d : DataW H} {ps : List MemPlace} (he : P.underlying e = some (.int .i64)) (h : DataW.trod enc P W base sp held fuel e [u] = some (d, ps)) : ∃ m, u = .int .i64 m ∧ -9223372036854775808 ≤ m ∧ m < 9223372036854775808 := by
  cases fuel with
  | zero => simp [DataW.trod] at h
  | succ fuel =>
    simp only [DataW.trod, he] at h
    cases u with
    | int k m =>
      simp only at h
      split at h
      · rename_i hk
        obtain ⟨rfl, hw⟩ := hk
        simp only [Lit.wf, Bool.and_eq_true, decide_eq_true_eq] at hw
        have h1 : IntKind.min .i64 = -9223372036854775808 := by decide
        have h2 : IntKind.max .i64 = 9223372036854775807 := by decide
        exact ⟨m, rfl, by omega, by omega⟩
      · cases h
    | _ => simp at h
/-- An argument of type []int. -/
theorem trod_ints {fuel : Nat} {t e : TypeId} {v : Value} {d : DataW H} {ps : List MemPlace} (ht : P.underlying t = some (.slice e)) (he : P.underlying e = some (.int .i64)) (hce : P.cellsOf e = 1)
    (h : DataW.trod enc P W base sp held fuel t [v] = some (d, ps)) : ∃ o l c, v = .slice o l c ∧ l ≤ c ∧ c ≤ maxLen ∧ ∃ f : Nat → Int, (∀ i, i < l → ∃ b g, o = some ⟨b, g, none⟩ ∧ b < W.heap.size ∧ W.cell? ⟨b, g + i, none⟩ = some (.int .i64 (f i))) ∧ ∀ i, i < l → -9223372036854775808 ≤ f i ∧ f i < 9223372036854775808 := by
  obtain ⟨o, l, c, rfl, hlc, hcm, hall⟩ := trod_slice ht hce h
  have hx : ∀ i, ∃ x : Int, i < l → (∃ b g, o = some ⟨b, g, none⟩ ∧ b < W.heap.size ∧ W.cell? ⟨b, g + i, none⟩ = some (.int .i64 x)) ∧ -9223372036854775808 ≤ x ∧ x < 9223372036854775808 := fun i => by
    by_cases hi : i < l
    · obtain ⟨b, f, u, d', ps', fuel', ho, hb, hu, hd⟩ := hall i hi
      obtain ⟨x, rfl, h1, h2⟩ := trod_i64 he hd
      exact ⟨x, fun _ => ⟨⟨b, f, ho, hb, hu⟩, h1, h2⟩⟩
    · exact ⟨0, fun h => (hi h).elim⟩
  exact ⟨o, l, c, rfl, hlc, hcm, fun i => Classical.choose (hx i), fun i hi => (Classical.choose_spec (hx i) hi).1, fun i hi => (Classical.choose_spec (hx i) hi).2⟩

/-- An argument of type [][]byte. -/
theorem trod_bytess {fuel : Nat} {t e e2 : TypeId} {v : Value} {d : DataW H} {ps : List MemPlace} (ht : P.underlying t = some (.slice e)) (he : P.underlying e = some (.slice e2)) (he2 : P.underlying e2 = some (.int .u8)) (hce : P.cellsOf e = 1) (hce2 : P.cellsOf e2 = 1)
    (h : DataW.trod enc P W base sp held fuel t [v] = some (d, ps)) : ∃ o c ls, v = .slice o ls.length c ∧ ls.length ≤ c ∧ c ≤ maxLen ∧ RdBB W o ls ∧ ∀ b ∈ ls, b.length ≤ maxLen := by
  obtain ⟨o, l, c, rfl, hlc, hcm, hall⟩ := trod_slice ht hce h
  have hx : ∀ i, ∃ x : List UInt8, x.length ≤ maxLen ∧ (i < l → ∃ b f oi ci, o = some ⟨b, f, none⟩ ∧ b < W.heap.size ∧ W.cell? ⟨b, f + i, none⟩ = some (.slice oi x.length ci) ∧ RdB W oi x) := fun i => by
    by_cases hi : i < l
    · obtain ⟨b, f, u, d', ps', fuel', ho, hb, hu, hd⟩ := hall i hi
      obtain ⟨oi, ci, x, rfl, h1, h2, hr⟩ := trod_bytes he he2 hce2 hd
      exact ⟨x, Nat.le_trans h1 h2, fun _ => ⟨b, f, oi, ci, ho, hb, hu, hr⟩⟩
    · exact ⟨[], Nat.zero_le _, fun h => (hi h).elim⟩
  have hl : ((List.range l).map (fun i => Classical.choose (hx i))).length = l := by simp
  refine ⟨o, c, (List.range l).map (fun i => Classical.choose (hx i)), by rw [hl], by rw [hl]; exact hlc, hcm, fun i hi => ?_, fun b hb => ?_⟩
  · rw [hl] at hi
    obtain ⟨b, f, oi, ci, ho, hb, hc, hr⟩ := (Classical.choose_spec (hx i)).2 hi
    have e : ((List.range l).map (fun i => Classical.choose (hx i))).getD i [] = Classical.choose (hx i) := by simp [List.getD_eq_getElem?_getD, hi]
    rw [e]
    exact ⟨b, f, oi, ci, ho, hb, hc, hr⟩
  · obtain ⟨i, _, rfl⟩ := List.mem_map.1 hb
    exact (Classical.choose_spec (hx i)).1
end

theorem lanes_of_words {f : Nat → Int} (hf : ∀ i, i < 25 → (Lit.int .u64 (f i)).wf = true) : ∃ s : St, arrOf 25 (fun i => Value.int .u64 (f i)) = lanesA s := by
  have h1 : ∀ i, ∃ x : BitVec 64, i < 25 → f i = uI x := fun i => by
    by_cases hi : i < 25
    · obtain ⟨x, hx⟩ := wf_word (hf i hi); exact ⟨x, fun _ => hx⟩
    · exact ⟨0, fun h => (hi h).elim⟩
  exact ⟨fun i => Classical.choose (h1 i), arrOf_congr (fun i hi => by rw [Classical.choose_spec (h1 i) hi])⟩
end Go.Vcg
end

section
namespace Go.Vcg

section
variable {C : Type}

/-- A step that changes blocks of the colours S alone; old blocks keep their colours. -/
structure Stp (S : C → Prop) (w : World) (la : Nat → C) (w' : World) (la' : Nat → C) : Prop where
  os : w'.os = w.os
  tape : w'.tape = w.tape
  output : w'.output = w.output
  size : w.heap.size ≤ w'.heap.size
  lab : ∀ k, k < w.heap.size → la' k = la k
  block : ∀ k, k < w.heap.size → ¬ S (la k) → w'.heap[k]? = w.heap[k]?

/-- New blocks get a colour. -/
def ext (lab : Nat → C) (n : Nat) (c : C) : Nat → C := fun k => if k < n then lab k else c
theorem ext_old {lab : Nat → C} {n k : Nat} {c : C} (h : k < n) : ext lab n c k = lab k := if_pos h
theorem ext_new {lab : Nat → C} {n k : Nat} {c : C} (h : n ≤ k) : ext lab n c k = c := if_neg (by omega)

variable {S T : C → Prop} {w w' w'' : World} {lab lab' lab'' : Nat → C}
theorem Stp.refl (S : C → Prop) (w : World) (lab : Nat → C) : Stp S w lab w lab := ⟨rfl, rfl, rfl, Nat.le_refl _, fun _ _ => rfl, fun _ _ _ => rfl⟩
theorem Stp.trans (h : Stp S w lab w' lab') (k : Stp S w' lab' w'' lab'') : Stp S w lab w'' lab'' :=
  ⟨k.os.trans h.os, k.tape.trans h.tape, k.output.trans h.output, Nat.le_trans h.size k.size,
    fun i hi => (k.lab i (Nat.lt_of_lt_of_le hi h.size)).trans (h.lab i hi),
    fun i hi hn => (k.block i (Nat.lt_of_lt_of_le hi h.size) (by rw [h.lab i hi]; exact hn)).trans (h.block i hi hn)⟩
theorem Stp.mono (h : Stp S w lab w' lab') (hs : ∀ c, S c → T c) : Stp T w lab w' lab' :=
  ⟨h.os, h.tape, h.output, h.size, h.lab, fun i hi hn => h.block i hi (fun k => hn (hs _ k))⟩
theorem Stp.of_mod {Q : Nat → Prop} (h : Mod Q w w') (c : C) (hq : ∀ k, k < w.heap.size → Q k → S (lab k)) : Stp S w lab w' (ext lab w.heap.size c) :=
  ⟨h.os, h.tape, h.output, h.size, fun _ hi => ext_old hi, fun i hi hn => h.block i hi (fun q => hn (hq i hi q))⟩
theorem Stp.of_nob (h : Mod NoB w w') (c : C) : Stp S w lab w' (ext lab w.heap.size c) := Stp.of_mod h c (fun _ _ h => h.elim)
theorem Stp.drew (S : C → Prop) (w : World) (lab : Nat → C) : Stp S w lab w.drew lab := ⟨rfl, rfl, rfl, Nat.le_refl _, fun _ _ => rfl, fun _ _ _ => rfl⟩
theorem Stp.alloc (S : C → Prop) (w : World) (lab : Nat → C) (o : Obj) (c : C) : Stp S w lab (w.alloc o) (ext lab w.heap.size c) := Stp.of_nob (Mod.alloc w o) c
theorem Stp.setCell {a : Addr} {v : Value} (hs : S (lab a.block)) : Stp S w lab (w.setCell a v) lab :=
  ⟨rfl, rfl, rfl, by simp [World.setCell], fun _ _ => rfl, fun k _ hn => heap_setCell_other w a k v (fun e => hn (e ▸ hs))⟩
theorem Stp.mod {Q : Nat → Prop} (h : Stp S w lab w' lab') (hq : ∀ k, k < w.heap.size → S (lab k) → Q k) : Mod Q w w' :=
  ⟨h.os, h.tape, h.output, h.size, fun k hk hn => h.block k hk (fun s => hn (hq k hk s))⟩
/-- What foreign blocks there are stay as they are. -/
theorem Stp.nob (h : Stp S w lab w' lab') (hq : ∀ k, k < w.heap.size → ¬ S (lab k)) : Mod NoB w w' := h.mod (fun k hk s => (hq k hk s).elim)

/-- Block b, of colour c, is a row of cells. -/
structure CB (w : World) (lab : Nat → C) (c : C) (b : Nat) (t : TypeId) (cs : Array Value) : Prop where
  blk : Blk w b t cs
  clr : lab b = c
variable {c : C} {b : Nat} {t : TypeId} {cs : Array Value}
theorem CB.stp (h : CB w lab c b t cs) (m : Stp S w lab w' lab') (hs : ¬ S c) : CB w' lab' c b t cs :=
  ⟨(m.block b h.blk.lt (by rw [h.clr]; exact hs)).trans h.blk, (m.lab b h.blk.lt).trans h.clr⟩
theorem CB.new (w : World) (lab : Nat → C) (c : C) (t : TypeId) (cs : Array Value) : CB (w.alloc (.cells cs t)) (ext lab w.heap.size c) c w.heap.size t cs := ⟨Blk.new w t cs, ext_new (Nat.le_refl _)⟩
theorem CB.set (h : CB w lab c b t cs) (i : Nat) (v : Value) : CB (w.setCell ⟨b, i, none⟩ v) lab c b t (cs.setIfInBounds i v) := ⟨h.blk.set i v, h.clr⟩

/-- From o on the bytes bs lie, in a block of colour c. -/
structure CBy (w : World) (lab : Nat → C) (c : C) (o : Option Addr) (bs : List UInt8) : Prop where
  rd : RdB w o bs
  clr : bs ≠ [] → ∀ d, o = some d → lab d.block = c
variable {o : Option Addr} {bs : List UInt8}
theorem CBy.stp (h : CBy w lab c o bs) (m : Stp S w lab w' lab') (hs : ¬ S c) : CBy w' lab' c o bs := by
  refine ⟨fun hne => ?_, fun hne d hd => ?_⟩
  · obtain ⟨b, f, rfl, hb, hc⟩ := h.rd hne
    have hl := h.clr hne _ rfl
    refine ⟨b, f, rfl, Nat.lt_of_lt_of_le hb m.size, fun i hi => ?_⟩
    exact (World.cell?_of_block (m.block b hb (by rw [hl]; exact hs))).trans (hc i hi)
  · obtain ⟨b, f, rfl, hb, _⟩ := h.rd hne
    cases hd
    exact (m.lab b hb).trans (h.clr hne _ rfl)
theorem CBy.nil (w : World) (lab : Nat → C) (c : C) (o : Option Addr) : CBy w lab c o [] := ⟨fun h => (h rfl).elim, fun h => (h rfl).elim⟩
theorem CBy.take (h : CBy w lab c o bs) (n : Nat) : CBy w lab c o (bs.take n) :=
  ⟨h.rd.take n, fun hne => h.clr (fun e => hne (by rw [e, List.take_nil]))⟩
theorem CBy.sub {cap lo n : Nat} (h : CBy w lab c o bs) (hc : bs.length ≤ cap) : CBy w lab c (subO o cap lo 1) ((bs.drop lo).take n) := by
  refine ⟨h.rd.sub hc, fun hne d hd => ?_⟩
  have hb : bs ≠ [] := fun e => hne (by rw [e]; simp)
  obtain ⟨b, f, rfl, _, _⟩ := h.rd hb
  have := h.clr hb _ rfl
  rw [subO] at hd
  split at hd
  · cases hd; exact this
  · simp at hd; subst hd; exact this

/-- A slice with a block of its own, of colour c. -/
structure COw (w : World) (lab : Nat → C) (c : C) (e : TypeId) (sz : Nat) (o : Option Addr) (l cap : Nat) (xs : List Value) : Prop where
  own : Own w e sz o l cap xs
  clr : ∀ k, OB o k → lab k = c
variable {e : TypeId} {sz l cap : Nat} {xs : List Value}
theorem COw.nil (w : World) (lab : Nat → C) (c : C) (e : TypeId) (sz : Nat) : COw w lab c e sz none 0 0 [] := ⟨Own.nil w e sz, fun k h => (OB_none k h).elim⟩
theorem COw.stp (h : COw w lab c e sz o l cap xs) (m : Stp S w lab w' lab') (hs : ¬ S c) : COw w' lab' c e sz o l cap xs := by
  have hl : ∀ k, OB o k → k < w.heap.size := fun k hk => h.own.lt hk
  refine ⟨?_, fun k hk => (m.lab k (hl k hk)).trans (h.clr k hk)⟩
  have hm : Mod (fun k => S (lab k)) w w' := m.mod (fun _ _ s => s)
  exact h.own.mod hm (fun k hk s => hs (by rw [← h.clr k hk]; exact s))
theorem COw.bytes (h : COw w lab c e 1 o l cap (bs.map bV)) : CBy w lab c o bs := ⟨h.own.bytes, fun _ d hd => h.clr _ ⟨d, hd, rfl⟩⟩
theorem COw.append {P : Program} {t tx ty : TypeId} {i : TypeInfo} {z : Value} {x : Value} {n : Nat} {news : List Value}
    (ht : P.underlying t = some (.slice e)) (hi : P.info? e = some i) (hz : i.zero = some z) (hs : i.size = sz) (hzs : z.cells.size = sz)
    (h : COw w lab c e sz o l cap xs) (src : Src P sz tx x n news w) (h63 : l + n ≤ maxLen) (hb : (l + n) * i.bytes ≤ 140737488355328) :
    ∃ o' c' w', Sem.run P (builtinV .append #[t, tx] ty #[.slice o l cap, x]) w = .ok (.slice o' (l + n) c') w' ∧
      COw w' (ext lab w.heap.size c) c e sz o' (l + n) c' (xs ++ news) ∧ Stp (· = c) w lab w' (ext lab w.heap.size c) := by
  obtain ⟨o', c', w', h1, h2, h3, h4⟩ := append_own (ty := ty) ht hi hz hs hzs h.own src h63 hb
  refine ⟨o', c', w', h1, ⟨h2, fun k hk => ?_⟩, Stp.of_mod h3 c (fun k _ hk => h.clr k hk)⟩
  by_cases hl : k < w.heap.size
  · rw [ext_old hl]
    rcases h4 k hk with h5 | h5
    · exact h.clr k h5
    · omega
  · exact ext_new (by omega)
end
end Go.Vcg
end

section
namespace Go.Vcg
open Go.ChangeMaps (setBlock)
open Go.Maps (Keyed)
open Go.MapKept

section
variable {K : Type} [DecidableEq K] {V : Type}
def assoc (k : K) : List (K × V) → Option V
  | [] => none
  | x :: r => if x.1 = k then some x.2 else assoc k r
def upd (k : K) (v : V) : List (K × V) → List (K × V)
  | [] => [(k, v)]
  | x :: r => if x.1 = k then (k, v) :: r else x :: upd k v r
def del (k : K) : List (K × V) → List (K × V)
  | [] => []
  | x :: r => if x.1 = k then r else x :: del k r
theorem assoc_none {k : K} : ∀ {es : List (K × V)}, (∀ x ∈ es, x.1 ≠ k) → assoc k es = none
  | [], _ => rfl
  | x :: r, h => by
    rw [assoc, if_neg (h x (List.mem_cons_self ..)), assoc_none (fun y hy => h y (List.mem_cons_of_mem _ hy))]
theorem upd_none {k : K} {v : V} : ∀ {es : List (K × V)}, (∀ x ∈ es, x.1 ≠ k) → upd k v es = es ++ [(k, v)]
  | [], _ => rfl
  | x :: r, h => by
    rw [upd, if_neg (h x (List.mem_cons_self ..)), upd_none (fun y hy => h y (List.mem_cons_of_mem _ hy))]; rfl
theorem del_none {k : K} : ∀ {es : List (K × V)}, (∀ x ∈ es, x.1 ≠ k) → del k es = es
  | [], _ => rfl
  | x :: r, h => by
    rw [del, if_neg (h x (List.mem_cons_self ..)), del_none (fun y hy => h y (List.mem_cons_of_mem _ hy))]
theorem assoc_at {k : K} : ∀ {es : List (K × V)} {j : Nat} {x : K × V}, (es.map Prod.fst).Nodup → es[j]? = some x → x.1 = k → assoc k es = some x.2
  | [], _, _, _, h, _ => by simp at h
  | y :: r, 0, x, _, h, hk => by simp at h; subst h; rw [assoc, if_pos hk]
  | y :: r, j + 1, x, hn, h, hk => by
    rw [List.getElem?_cons_succ] at h
    have hne : y.1 ≠ k := by
      rintro rfl
      exact (List.nodup_cons.1 hn).1 (hk ▸ List.mem_map_of_mem (List.mem_of_getElem? h))
    rw [assoc, if_neg hne, assoc_at (List.nodup_cons.1 hn).2 h hk]
theorem upd_at {k : K} {v : V} : ∀ {es : List (K × V)} {j : Nat} {x : K × V}, (es.map Prod.fst).Nodup → es[j]? = some x → x.1 = k → upd k v es = es.set j (k, v)
  | [], _, _, _, h, _ => by simp at h
  | y :: r, 0, x, _, h, hk => by simp at h; subst h; rw [upd, if_pos hk]; rfl
  | y :: r, j + 1, x, hn, h, hk => by
    rw [List.getElem?_cons_succ] at h
    have hne : y.1 ≠ k := by
      rintro rfl
      exact (List.nodup_cons.1 hn).1 (hk ▸ List.mem_map_of_mem (List.mem_of_getElem? h))
    rw [upd, if_neg hne, upd_at (List.nodup_cons.1 hn).2 h hk]; rfl
theorem del_at {k : K} : ∀ {es : List (K × V)} {j : Nat} {x : K × V}, (es.map Prod.fst).Nodup → es[j]? = some x → x.1 = k → del k es = es.eraseIdx j
  | [], _, _, _, h, _ => by simp at h
  | y :: r, 0, x, _, h, hk => by simp at h; subst h; rw [del, if_pos hk]; rfl
  | y :: r, j + 1, x, hn, h, hk => by
    rw [List.getElem?_cons_succ] at h
    have hne : y.1 ≠ k := by
      rintro rfl
      exact (List.nodup_cons.1 hn).1 (hk ▸ List.mem_map_of_mem (List.mem_of_getElem? h))
    rw [del, if_neg hne, del_at (List.nodup_cons.1 hn).2 h hk]; rfl
end

section
variable {K : Type} {P : Program} {kt : TypeId} {enc : K → Value}

theorem perm_erase {α : Type} : ∀ (l : List α) (j : Nat) (h : j < l.length), l.Perm (l[j] :: l.eraseIdx j)
  | a :: l, 0, _ => by simp
  | a :: l, j + 1, h => by
    simp only [List.getElem_cons_succ, List.eraseIdx_cons_succ]
    exact ((perm_erase l j (by simpa using h)).cons a).trans (List.Perm.swap _ _ _)
/-- How keys are values: 'good' ones read as keys. -/
structure KeyEnc (P : Program) (kt : TypeId) (enc : K → Value) (good : K → Prop) : Prop where
  keyed : Keyed P kt
  ok : ∀ k, good k → ∃ l, keyOf P kt (enc k) = some l
  inj : ∀ a b, enc a = enc b → a = b

def dec (enc : K → Value) (x : K × Value) : Value × Value := (enc x.1, x.2)
def cellE (e : MapEntry) : Value × Value := (e.key, e.val)

/-- Block m is a map with these entries. -/
def MapAt (good : K → Prop) (enc : K → Value) (w : World) (m : Nat) (es : List (K × Value)) : Prop :=
  ∃ (A : Array MapEntry) (clock : Nat), w.heap[m]? = some (.map A clock) ∧ Stamped A clock ∧ A.toList.map cellE = es.map (dec enc) ∧ ∀ x ∈ es, good x.1

variable {good : K → Prop} {w w' : World} {m : Nat} {es : List (K × Value)}
theorem MapAt.lt (h : MapAt good enc w m es) : m < w.heap.size := by
  obtain ⟨A, clock, hb, _⟩ := h
  exact (Array.getElem?_eq_some_iff.1 hb).1
theorem MapAt.same (h : MapAt good enc w m es) (hb : w'.heap[m]? = w.heap[m]?) : MapAt good enc w' m es := by
  obtain ⟨A, clock, h1, h2⟩ := h
  exact ⟨A, clock, hb.trans h1, h2⟩
theorem MapAt.made (w : World) : MapAt good enc (w.alloc (.map #[] 0)) w.heap.size ([] : List (K × Value)) :=
  ⟨#[], 0, heap_alloc_new w _, stamped_empty 0, rfl, fun _ h => by cases h⟩
theorem MapAt.goods (h : MapAt good enc w m es) : ∀ x ∈ es, good x.1 := by
  obtain ⟨A, clock, _, _, _, h⟩ := h; exact h
theorem MapAt.nodup (h : MapAt good enc w m es) : (es.map Prod.fst).Nodup := by
  obtain ⟨A, clock, _, hs, he, _⟩ := h
  have h1 : (A.toList.map (·.key)) = (es.map Prod.fst).map enc := by
    have := congrArg (List.map Prod.fst) he
    simpa [cellE, dec, Function.comp_def] using this
  have h2 := hs.2.2
  rw [h1] at h2
  generalize es.map Prod.fst = l at h2
  clear h1
  induction l with
  | nil => exact List.nodup_nil
  | cons a l ih =>
    rw [List.map_cons, List.nodup_cons] at h2
    rw [List.nodup_cons]
    exact ⟨fun h => h2.1 (List.mem_map_of_mem h), ih h2.2⟩

private theorem find_split (E : KeyEnc P kt enc good) (w : World) {A : Array MapEntry} {k : K} (hk : good k) (he : A.toList.map cellE = es.map (dec enc)) (hg : ∀ x ∈ es, good x.1) :
    ((Instr.findKey kt (enc k) A.toList).run P w = .ok none w ∧ (∀ x ∈ es, x.1 ≠ k) ∧ ∀ e ∈ A.toList, e.key ≠ enc k) ∨
    ∃ j e v, (Instr.findKey kt (enc k) A.toList).run P w = .ok (some (j, v)) w ∧ A.toList[j]? = some e ∧ e.key = enc k ∧ e.val = v ∧ es[j]? = some (k, v) := by
  obtain ⟨lk, hl⟩ := E.ok k hk
  have hall : ∀ e ∈ A.toList, ∃ l, keyOf P kt e.key = some l := fun e hm => by
    have : cellE e ∈ es.map (dec enc) := he ▸ List.mem_map_of_mem hm
    obtain ⟨x, hx, hxe⟩ := List.mem_map.1 this
    have h1 : e.key = enc x.1 := (congrArg Prod.fst hxe).symm
    rw [h1]; exact E.ok _ (hg x hx)
  rcases E.keyed.find w hl A.toList hall with ⟨h1, h2⟩ | ⟨j, e, h1, h2, h3⟩
  · refine .inl ⟨h1, fun x hx hxk => ?_, h2⟩
    have : dec enc x ∈ A.toList.map cellE := he ▸ List.mem_map_of_mem hx
    obtain ⟨e, hm, hee⟩ := List.mem_map.1 this
    exact h2 e hm (by rw [show e.key = enc x.1 from congrArg Prod.fst hee, hxk])
  · refine .inr ⟨j, e, e.val, h1, h2, h3, rfl, ?_⟩
    have h4 : (es.map (dec enc))[j]? = some (cellE e) := by rw [← he, List.getElem?_map, h2]; rfl
    rw [List.getElem?_map, Option.map_eq_some_iff] at h4
    obtain ⟨x, hx, hxe⟩ := h4
    have e1 : enc x.1 = enc k := (congrArg Prod.fst hxe).trans h3
    have e2 : x.2 = e.val := congrArg Prod.snd hxe
    rw [hx, ← E.inj _ _ e1, ← e2]

theorem MapAt.check (E : KeyEnc P kt enc good) {k : K} (hk : good k) (em : Bool) (w : World) : (Instr.checkKey em 10000 kt (enc k)).run P w = .ok () w := by
  obtain ⟨lk, hl⟩ := E.ok k hk
  exact E.keyed.check w em hl

theorem MapAt.look [DecidableEq K] (h : MapAt good enc w m es) (E : KeyEnc P kt enc good) {t e : TypeId} (ht : P.underlying t = some (.map kt e)) {z : Value} (hz : (zeroValue e).run P w = .ok z w) {k : K} (hk : good k) (c : Bool) :
    (Instr.lookup t (.map (some m)) (enc k) c).run P w = .ok (if c then .tuple #[(assoc k es).getD z, .bool (assoc k es).isSome] else (assoc k es).getD z) w := by
  have hn := h.nodup
  obtain ⟨A, clock, hb, hs, he, hg⟩ := h
  rcases find_split E w hk he hg with ⟨h1, h2, _⟩ | ⟨j, e0, v, h1, h2, h3, h4, h5⟩
  · rw [assoc_none h2]
    simp [Instr.lookup, run_underlying ht, MapKept.run_getObj_map hb, MapAt.check E hk, h1, hz, Result.andThen]
  · rw [assoc_at hn h5 rfl]
    simp [Instr.lookup, run_underlying ht, MapKept.run_getObj_map hb, MapAt.check E hk, h1, Result.andThen]

theorem MapAt.update [DecidableEq K] (h : MapAt good enc w m es) (E : KeyEnc P kt enc good) {t e : TypeId} (ht : P.underlying t = some (.map kt e)) {k : K} (hk : good k) (v : Value) :
    ∃ w', (Instr.mapUpdate t (.map (some m)) (enc k) v).run P w = .ok () w' ∧ MapAt good enc w' m (upd k v es) ∧ Mod (· = m) w w' := by
  have hn := h.nodup
  obtain ⟨A, clock, hb, hs, he, hg⟩ := h
  have hmod : ∀ o, Mod (· = m) w (setBlock w m o) := fun o => ⟨rfl, rfl, rfl, by simp [setBlock], fun k _ hk => (heap_set hb).2 k hk⟩
  rcases find_split E w hk he hg with ⟨h1, h2, h2'⟩ | ⟨j, e0, v0, h1, h2, h3, h4, h5⟩
  · refine ⟨setBlock w m (.map (A.push ⟨enc k, v, clock⟩) (clock + 1)), ?_, ⟨_, _, (heap_set hb).1, stamped_push hs h2', ?_, ?_⟩, hmod _⟩
    · simp [Instr.mapUpdate, run_underlying ht, MapKept.run_getObj_map hb, MapAt.check E hk, h1, MapKept.run_setObj_map _ hb, Result.andThen, setBlock]
    · rw [upd_none h2, Array.toList_push, List.map_append, List.map_append, he]; rfl
    · rw [upd_none h2]
      intro x hx
      rcases List.mem_append.1 hx with hx | hx
      · exact hg x hx
      · simp at hx; subst hx; exact hk
  · obtain ⟨lk, hl⟩ := E.ok k hk
    have hj : j < A.size := by simpa using (List.getElem?_eq_some_iff.1 h2).1
    have hA : A[j]? = some e0 := by simpa using h2
    refine ⟨setBlock w m (.map (A.modify j fun e => { e with key := enc k, val := v }) clock), ?_, ⟨_, _, (heap_set hb).1, stamped_modify hs j _ (fun _ _ => rfl) (fun e hm hej => ?_), ?_, ?_⟩, hmod _⟩
    · have hst := E.keyed.stays w hl
      simp [Instr.mapUpdate, run_underlying ht, MapKept.run_getObj_map hb, MapAt.check E hk, h1, hA, h3, hst, MapKept.run_setObj_map _ hb, Result.andThen, setBlock]
    · rw [hA] at hej
      cases hej
      exact h3.symm
    · rw [upd_at hn h5 rfl]
      apply List.ext_getElem?
      intro i
      have hi : (A.toList.map cellE)[i]? = (es.map (dec enc))[i]? := by rw [he]
      rw [List.getElem?_map, List.getElem?_map] at hi
      rw [List.getElem?_map, List.getElem?_map, Array.getElem?_toList, Array.getElem?_modify, List.getElem?_set]
      rw [Array.getElem?_toList] at hi
      by_cases hij : j = i
      · subst hij
        rw [if_pos rfl, if_pos rfl, if_pos (by have := (List.getElem?_eq_some_iff.1 h5).1; exact this), hA]
        rfl
      · rw [if_neg hij, if_neg hij, hi]
    · rw [upd_at hn h5 rfl]
      intro x hx
      rcases List.mem_or_eq_of_mem_set hx with hx | rfl
      · exact hg x hx
      · exact hk

theorem MapAt.delete [DecidableEq K] (h : MapAt good enc w m es) (E : KeyEnc P kt enc good) {t e ty : TypeId} (ht : P.underlying t = some (.map kt e)) {k : K} (hk : good k) :
    ∃ w', (builtinV .delete #[t, kt] ty #[.map (some m), enc k]).run P w = .ok (.tuple #[]) w' ∧ MapAt good enc w' m (del k es) ∧ Mod (· = m) w w' := by
  have hn := h.nodup
  obtain ⟨A, clock, hb, hs, he, hg⟩ := h
  have hmod : ∀ o, Mod (· = m) w (setBlock w m o) := fun o => ⟨rfl, rfl, rfl, by simp [setBlock], fun k _ hk => (heap_set hb).2 k hk⟩
  rcases find_split E w hk he hg with ⟨h1, h2, h2'⟩ | ⟨j, e0, v0, h1, h2, h3, h4, h5⟩
  · refine ⟨setBlock w m (.map A clock), ?_, ⟨_, _, (heap_set hb).1, hs, ?_, ?_⟩, hmod _⟩
    · simp [builtinV, Builtin.delete_, run_underlying ht, MapKept.run_getObj_map hb, MapAt.check E hk, h1, MapKept.run_setObj_map _ hb, Result.andThen, setBlock]
    · rw [del_none h2]; exact he
    · rw [del_none h2]; exact hg
  · have hj : j < A.size := by simpa using (List.getElem?_eq_some_iff.1 h2).1
    have hsub : (A.eraseIdxIfInBounds j).toList = A.toList.eraseIdx j := by
      unfold Array.eraseIdxIfInBounds
      rw [dif_pos hj]
      simp
    have hme : ∀ {α β : Type} (f : α → β) (l : List α) (i : Nat), (l.eraseIdx i).map f = (l.map f).eraseIdx i := by
      intro α β f l
      induction l with
      | nil => intro i; simp
      | cons a l ih => intro i; cases i <;> simp [ih]
    refine ⟨setBlock w m (.map (A.eraseIdxIfInBounds j) clock), ?_, ⟨_, _, (heap_set hb).1, stamped_erase hs j, ?_, ?_⟩, hmod _⟩
    · simp [builtinV, Builtin.delete_, run_underlying ht, MapKept.run_getObj_map hb, MapAt.check E hk, h1, MapKept.run_setObj_map _ hb, Result.andThen, setBlock]
    · rw [del_at hn h5 rfl, hsub, hme, hme, he]
    · rw [del_at hn h5 rfl]
      exact fun x hx => hg x ((List.eraseIdx_sublist _ _).subset hx)

/-- Block i goes through the map of block m; these are left. -/
def IterAt (enc : K → Value) (w : World) (i m : Nat) (todo : List (K × Value)) : Prop :=
  ∃ (A : Array MapEntry) (clock : Nat) (seen : Array Nat), w.heap[m]? = some (.map A clock) ∧ Stamped A clock ∧ w.heap[i]? = some (.mapIter (some m) clock seen clock) ∧
    (leftOf A seen).toList.map cellE = todo.map (dec enc)
variable {i : Nat} {todo : List (K × Value)}
theorem IterAt.same (h : IterAt enc w i m todo) (hm : w'.heap[m]? = w.heap[m]?) (hi : w'.heap[i]? = w.heap[i]?) : IterAt enc w' i m todo := by
  obtain ⟨A, clock, seen, h1, h2, h3, h4⟩ := h
  exact ⟨A, clock, seen, hm.trans h1, h2, hi.trans h3, h4⟩
theorem IterAt.lt (h : IterAt enc w i m todo) : m < w.heap.size ∧ i < w.heap.size := by
  obtain ⟨A, clock, seen, h1, h2, h3, h4⟩ := h
  exact ⟨(Array.getElem?_eq_some_iff.1 h1).1, (Array.getElem?_eq_some_iff.1 h3).1⟩
/-- How many are left, told by the world. -/
def leftN (w : World) (m i : Nat) : Nat := match w.heap[m]?, w.heap[i]? with
  | some (.map A _), some (.mapIter _ _ seen _) => (leftOf A seen).size
  | _, _ => 0
theorem IterAt.left (h : IterAt enc w i m todo) : leftN w m i = todo.length := by
  obtain ⟨A, clock, seen, h1, h2, h3, h4⟩ := h
  simp only [leftN, h1, h3]
  have := congrArg List.length h4
  simpa using this
theorem MapAt.range (h : MapAt good enc w m es) {t e : TypeId} (ht : P.underlying t = some (.map kt e)) :
    ∃ o, (Instr.range t (.map (some m))).run P w = .ok (.pointer (some ⟨w.heap.size, 0, none⟩)) (w.alloc o) ∧ IterAt enc (w.alloc o) w.heap.size m es := by
  have hlt := h.lt
  obtain ⟨A, clock, hb, hs, he, hg⟩ := h
  refine ⟨.mapIter (some m) clock #[] clock, by simp [Instr.range, run_underlying ht, MapKept.run_getObj_map hb, Result.andThen], A, clock, #[], ?_, hs, heap_alloc_new w _, ?_⟩
  · rw [heap_alloc_old w _ hlt, hb]
  · have : leftOf A #[] = A := Array.filter_eq_self.2 (fun x _ => by simp)
    rw [this, he]
theorem IterAt.next (h : IterAt enc w i m todo) (ty : TypeId) :
    (todo = [] ∧ (Instr.next (.pointer (some ⟨i, 0, none⟩)) false ty).run P w = .ok (.tuple #[.bool false]) w) ∨
    ∃ k v todo' w', todo.Perm ((k, v) :: todo') ∧ (Instr.next (.pointer (some ⟨i, 0, none⟩)) false ty).run P w = .ok (.tuple #[.bool true, enc k, v]) w' ∧ IterAt enc w' i m todo' ∧ Mod (· = i) w w' ∧
      (Instr.entry (.pointer (some ⟨i, 0, none⟩))).run P w' = .ok (.tuple #[enc k, v]) w' := by
  obtain ⟨A, clock, seen, hb, hs, hr, ht⟩ := h
  have hs' := (stamped_iff A clock).1 hs
  rcases run_next_at (P := P) w ty i m clock clock seen A clock hr hb hs'.1 (Nat.le_refl _) with ⟨h0, hrun⟩ | ⟨e, he, w1, hal, hrun⟩
  · refine .inl ⟨?_, hrun⟩
    have : (leftOf A seen).toList = [] := by
      rw [← Array.length_toList] at h0
      exact List.eq_nil_of_length_eq_zero h0
    rw [this] at ht
    cases todo with
    | nil => rfl
    | cons _ _ => simp at ht
  · right
    obtain ⟨hem, hes⟩ := mem_left he
    have hne : m ≠ i := by rintro rfl; rw [hb] at hr; cases hr
    have hr1 : w1.heap[i]? = some (.mapIter (some m) clock seen clock) := by rcases hal with rfl | rfl <;> exact hr
    have hb1 : w1.heap[m]? = some (.map A clock) := by rcases hal with rfl | rfl <;> exact hb
    have hset := heap_set (o' := .mapIter (some m) clock (seen.push e.born) clock) hr1
    have hb' : (setBlock w1 i (.mapIter (some m) clock (seen.push e.born) clock)).heap[m]? = some (.map A clock) := (hset.2 m hne).trans hb1
    -- the one that came out
    obtain ⟨j, hj, hje⟩ := List.getElem_of_mem he
    have hjm : (todo.map (dec enc))[j]? = some (cellE e) := by rw [← ht, List.getElem?_map, List.getElem?_eq_getElem hj, hje]; rfl
    rw [List.getElem?_map, Option.map_eq_some_iff] at hjm
    obtain ⟨x, hx, hxe⟩ := hjm
    have e1 : enc x.1 = e.key := congrArg Prod.fst hxe
    have e2 : x.2 = e.val := congrArg Prod.snd hxe
    have hleft : (leftOf A (seen.push e.born)).toList = (leftOf A seen).toList.eraseIdx j := by
      have hnd : ((leftOf A seen).toList.map (·.born)).Nodup := by
        unfold leftOf
        rw [Array.toList_filter]
        exact (hs'.2.1).sublist ((List.filter_sublist).map _)
      have hf : (leftOf A (seen.push e.born)).toList = (leftOf A seen).toList.filter (fun y => !(y.born == e.born)) := by
        unfold leftOf
        rw [Array.toList_filter, Array.toList_filter, List.filter_filter]
        refine List.filter_congr fun y _ => ?_
        rw [contains_push]
        cases seen.contains y.born <;> cases (y.born == e.born) <;> rfl
      rw [hf]
      have key : ∀ (L : List MapEntry) (j : Nat) (hj : j < L.length), (L.map (·.born)).Nodup → L.filter (fun y => !(y.born == L[j].born)) = L.eraseIdx j := by
        intro L
        induction L with
        | nil => intro j hj; simp at hj
        | cons a L ih =>
          intro j hj hnd
          rw [List.map_cons, List.nodup_cons] at hnd
          cases j with
          | zero =>
            simp only [List.getElem_cons_zero, List.eraseIdx_zero, List.tail_cons, List.filter_cons, beq_self_eq_true, Bool.not_true, Bool.false_eq_true, if_false]
            refine List.filter_eq_self.2 fun y hy => ?_
            have hne : y.born ≠ a.born := fun h => hnd.1 (List.mem_map.2 ⟨y, hy, h⟩)
            simpa using hne
          | succ j =>
            have hj' : j < L.length := by simpa using hj
            have hne : a.born ≠ L[j].born := fun h => hnd.1 (List.mem_map.2 ⟨L[j], List.getElem_mem hj', h.symm⟩)
            have hb : (!(a.born == L[j].born)) = true := by simpa using hne
            simp only [List.getElem_cons_succ, List.eraseIdx_cons_succ, List.filter_cons, hb, if_true]
            rw [ih j hj' hnd.2]
      have := key _ j hj hnd
      rw [hje] at this
      exact this
    have hxt : j < todo.length := (List.getElem?_eq_some_iff.1 hx).1
    have hme : ∀ {α β : Type} (f : α → β) (l : List α) (i : Nat), (l.eraseIdx i).map f = (l.map f).eraseIdx i := by
      intro α β f l
      induction l with
      | nil => intro i; simp
      | cons a l ih => intro i; cases i <;> simp [ih]
    refine ⟨x.1, x.2, todo.eraseIdx j, setBlock w1 i (.mapIter (some m) clock (seen.push e.born) clock), ?_, ?_, ⟨A, clock, seen.push e.born, hb', hs, hset.1, ?_⟩, ?_, ?_⟩
    · have hx' : todo[j] = x := (List.getElem?_eq_some_iff.1 hx).2
      have := perm_erase todo j hxt
      rw [hx'] at this
      exact this
    · rw [e1, e2]; exact hrun
    · rw [hleft, hme, hme, ht]
    · rcases hal with rfl | rfl <;> exact ⟨rfl, rfl, rfl, by simp [setBlock], fun k _ hk => hset.2 k hk⟩
    · rw [e1, e2]
      exact run_entry_at _ i m clock seen A clock e hset.1 hb' hem hs'.2.1
end

section
variable {C : Type} {S : C → Prop} {w w' : World} {lab lab' : Nat → C} {c : C} {K : Type} {good : K → Prop} {enc : K → Value} {m : Nat} {es : List (K × Value)}
structure CM (good : K → Prop) (enc : K → Value) (w : World) (lab : Nat → C) (c : C) (m : Nat) (es : List (K × Value)) : Prop where
  map : MapAt good enc w m es
  clr : lab m = c
theorem CM.stp (h : CM good enc w lab c m es) (s : Stp S w lab w' lab') (hs : ¬ S c) : CM good enc w' lab' c m es :=
  ⟨h.map.same (s.block m h.map.lt (by rw [h.clr]; exact hs)), (s.lab m h.map.lt).trans h.clr⟩
end
end Go.Vcg
end

section
namespace Go.Disk
open Go.Vcg

abbrev Nm := ByteArray
/-- A change of a file's bytes that is pending. -/
inductive Pt where
  | wr (at_ : Nat) (b : List UInt8)
  | cut (n : Nat)
structure Fl where
  bytes : List UInt8
  sure : List UInt8
  pend : List Pt
/-- A change of names that is pending. -/
inductive Chg where
  | made (n : Nm) (f : Nat)
  | ren (a b : Nm)
  | rem (n : Nm)
structure Dk where
  cap : Int
  names : List (Nm × Nat)
  sure : List (Nm × Nat)
  pend : List Chg
  files : Nat
  count : Nat
  fail : Int
  halt : Int
  down : Bool
  fs : Nat → Fl

def okChar (c : UInt8) : Bool := (97 ≤ c && c ≤ 122) || (48 ≤ c && c ≤ 57) || c == 46 || c == 45 || c == 95
def right (s : Nm) : Bool := decide (1 ≤ s.size) && decide (s.size ≤ 64) && s.data.toList.all okChar
def NmGood (s : Nm) : Prop := s.size ≤ maxLen

def without {V : Type} (k : Nm) (l : List (Nm × V)) : List (Nm × V) := l.filter fun x => decide (x.1 ≠ k)
def put {V : Type} (k : Nm) (v : V) (l : List (Nm × V)) : List (Nm × V) := without k l ++ [(k, v)]
def Chg.on (l : List (Nm × Nat)) : Chg → List (Nm × Nat)
  | .made n f => put n f l
  | .ren a b => match assoc a l with
    | some f => put b f (without a l)
    | none => l
  | .rem n => without n l
def lay (b : List UInt8) (at_ : Nat) (c : List UInt8) : List UInt8 := b.take at_ ++ c ++ b.drop (at_ + c.length)

def fresh : Fl := ⟨[], [], []⟩
def new (cap : Int) : Dk := ⟨cap, [], [], [], 0, 0, 0, -1, false, fun _ => fresh⟩
def used (d : Dk) : Nat := (d.names.map fun x => (d.fs x.2).bytes.length).sum
def setF (d : Dk) (n : Nat) (f : Fl) : Dk := { d with fs := fun k => if k = n then f else d.fs k }

/-- What a changing call does first, and its first errors. -/
def begins (d : Dk) : Dk × Int :=
  if d.halt = 0 then ({ d with count := d.count + 1, fail := max (d.fail - 1) 0, down := true }, 17)
  else if d.down then ({ d with count := d.count + 1, fail := max (d.fail - 1) 0 }, 17)
  else ({ d with count := d.count + 1, fail := max (d.fail - 1) 0, halt := max (d.halt - 1) (-1) }, if d.fail = 1 then 16 else 0)
/-- The file of a name, or an error. -/
def named (d : Dk) (s : Nm) : Nat × Int :=
  if right s then match assoc s d.names with
    | some f => (f, 0)
    | none => (0, 13)
  else (0, 11)
def does (d : Dk) (c : Chg) : Dk := { d with names := c.on d.names, pend := d.pend ++ [c] }

/-- A call that changes a file. -/
def onFile (d : Dk) (s : Nm) (k : Dk → Nat → Dk × Int) : Dk × Int :=
  let d1 := begins d
  if d1.2 = 0 then
    let f := named d1.1 s
    if f.2 = 0 then k d1.1 f.1 else (d1.1, f.2)
  else d1
def create (d : Dk) (s : Nm) : Dk × Int :=
  let d1 := begins d
  if d1.2 = 0 then
    let f := named d1.1 s
    if f.2 = 0 then (d1.1, 12)
    else if f.2 = 13 then
      if d1.1.files = 1048576 then (d1.1, 15)
      else ({ does (setF d1.1 d1.1.files fresh) (.made s d1.1.files) with files := d1.1.files + 1 }, 0)
    else (d1.1, f.2)
  else d1
def write (d : Dk) (f : Nat) (at_ : Nat) (b : List UInt8) : Dk × Int :=
  let longer : Int := at_ + b.length - (d.fs f).bytes.length
  if longer > 0 ∧ longer > d.cap - used d then (d, 15)
  else if b = [] then (d, 0)
  else (setF d f { d.fs f with bytes := lay (d.fs f).bytes at_ b, pend := (d.fs f).pend ++ [.wr at_ b] }, 0)
def append (d : Dk) (s : Nm) (b : List UInt8) : Dk × Int := onFile d s fun d f => write d f (d.fs f).bytes.length b
def writeAt (d : Dk) (s : Nm) (at_ : Int) (b : List UInt8) : Dk × Int :=
  onFile d s fun d f => if at_ < 0 ∨ at_ > (d.fs f).bytes.length then (d, 14) else write d f at_.toNat b
def truncate (d : Dk) (s : Nm) (n : Int) : Dk × Int :=
  onFile d s fun d f => if n < 0 ∨ n > (d.fs f).bytes.length then (d, 14)
    else if n < (d.fs f).bytes.length then (setF d f { d.fs f with bytes := (d.fs f).bytes.take n.toNat, pend := (d.fs f).pend ++ [.cut n.toNat] }, 0)
    else (d, 0)
def sync (d : Dk) (s : Nm) : Dk × Int :=
  onFile d s fun d f => (setF d f { d.fs f with sure := (d.fs f).bytes, pend := [] }, 0)
def rename (d : Dk) (a b : Nm) : Dk × Int :=
  let d1 := begins d
  if d1.2 = 0 then
    if right a && right b then
      match assoc a d1.1.names with
      | some _ => (if a = b then d1.1 else does d1.1 (.ren a b), 0)
      | none => (d1.1, 13)
    else (d1.1, 11)
  else d1
def remove (d : Dk) (s : Nm) : Dk × Int := onFile d s fun d _ => (does d (.rem s), 0)
def syncDir (d : Dk) : Dk × Int :=
  let d1 := begins d
  if d1.2 = 0 then ({ d1.1 with sure := d1.1.names, pend := [] }, 0) else d1
def failAt (d : Dk) (n : Int) : Dk := { d with fail := max n 0 }
def haltAt (d : Dk) (n : Int) : Dk := { d with halt := max n (-1) }
/-- The file that a reading call asks for. -/
def asked (d : Dk) (s : Nm) : Nat × Int := if d.down then (0, 17) else named d s
def read (d : Dk) (s : Nm) : List UInt8 × Int := if (asked d s).2 = 0 then ((d.fs (asked d s).1).bytes, 0) else ([], (asked d s).2)
def readAt (d : Dk) (s : Nm) (at_ n : Int) : List UInt8 × Int :=
  if (read d s).2 = 0 then
    if at_ < 0 ∨ n < 0 ∨ at_ > (read d s).1.length ∨ n > (read d s).1.length - at_ then ([], 14)
    else (((read d s).1.drop at_.toNat).take n.toNat, 0)
  else ([], (read d s).2)

/-- What survives of pending changes, with so many bytes to spend. -/
def survive (b : List UInt8) : List Pt → Int → List UInt8
  | [], _ => b
  | .wr at_ c :: r, left => if (c.length : Int) > left then lay b at_ (c.take left.toNat) else survive (lay b at_ c) r (left - c.length)
  | .cut n :: r, left => if left < 1 then b else survive (b.take n) r (left - 1)
def left (c : List Int) (n : Nat) : Int := if n < c.length then max (c.getD n 0) 0 else 0
def restart (d : Dk) (names : Int) (c : List Int) : Dk :=
  let l := (d.pend.take (min (max names 0) d.pend.length).toNat).foldl Chg.on d.sure
  { d with
    names := l, sure := l, pend := [], fail := 0, halt := -1, down := false
    fs := fun n => if n ∈ l.map Prod.snd then ⟨survive (d.fs n).sure (d.fs n).pend (left c n), survive (d.fs n).sure (d.fs n).pend (left c n), []⟩ else d.fs n }

/-! What holds of every disk. -/
def most : Nat := 67108864
/-- Patches lead from some bytes to others. -/
def PtsOk : List UInt8 → List Pt → List UInt8 → Prop
  | b, [], b' => b = b'
  | b, .wr at_ c :: r, b' => at_ ≤ b.length ∧ (lay b at_ c).length ≤ most ∧ PtsOk (lay b at_ c) r b'
  | b, .cut n :: r, b' => n ≤ b.length ∧ PtsOk (b.take n) r b'
structure NamesOk (files : Nat) (l : List (Nm × Nat)) : Prop where
  keys : (l.map Prod.fst).Nodup
  vals : (l.map Prod.snd).Nodup
  rights : ∀ x ∈ l, right x.1 = true
  files : ∀ x ∈ l, x.2 < files
def ChgOk (files : Nat) (l : List (Nm × Nat)) : Chg → Prop
  | .made n f => right n = true ∧ f < files ∧ f ∉ l.map Prod.snd ∧ n ∉ l.map Prod.fst
  | .ren a b => right a = true ∧ right b = true ∧ a ≠ b ∧ a ∈ l.map Prod.fst
  | .rem n => right n = true
def ChgsOk (files : Nat) : List (Nm × Nat) → List Chg → List (Nm × Nat) → Prop
  | l, [], l' => l = l'
  | l, c :: r, l' => ChgOk files l c ∧ ChgsOk files (c.on l) r l'
structure Ok (d : Dk) : Prop where
  cap : 0 ≤ d.cap ∧ d.cap ≤ most
  files : d.files ≤ 1048576
  names : NamesOk d.files d.names
  sure : NamesOk d.files d.sure
  chgs : ChgsOk d.files d.sure d.pend d.names
  pts : ∀ n, n < d.files → PtsOk (d.fs n).sure (d.fs n).pend (d.fs n).bytes
  size : ∀ n, n < d.files → (d.fs n).sure.length ≤ most ∧ (d.fs n).bytes.length ≤ most
  fail : 0 ≤ d.fail ∧ d.fail < 9223372036854775808
  halt : -1 ≤ d.halt ∧ d.halt < 9223372036854775808
  pend : d.pend.length ≤ d.count
  pends : ∀ n, n < d.files → (d.fs n).pend.length ≤ d.count
end Go.Disk
end

section
set_option linter.unusedVariables false
namespace Go.Proofs.YtkekehngillblaaGreat
open Go Go.Vcg
abbrev tU8 : TypeId := 5
abbrev tSlU8 : TypeId := 32
abbrev tStr : TypeId := 9
abbrev tDisk : TypeId := 50
abbrev tFile : TypeId := 86
abbrev tNaming : TypeId := 47
abbrev tPFile : TypeId := 80
abbrev tChange : TypeId := 82
abbrev tSlChange : TypeId := 48
abbrev tPatch : TypeId := 124
abbrev tSlPatch : TypeId := 84
abbrev tWritten : TypeId := 129
abbrev tCut : TypeId := 111
abbrev tMade : TypeId := 101
abbrev tRenamed : TypeId := 115
abbrev tRemoved : TypeId := 117
abbrev tCrash : TypeId := 35
theorem m_made (w : World) (s : ByteArray) (o : Option Addr) : Sem.run Tryz.prog (method (Tryz.prog.types.size + Made.depth) tMade (.agg #[.string s, .pointer o]) "moraine/disk.on") w = .ok (disk_made_on.n, .agg #[.string s, .pointer o]) w := by kernel_rfl
theorem m_ren (w : World) (a b : ByteArray) : Sem.run Tryz.prog (method (Tryz.prog.types.size + Made.depth) tRenamed (.agg #[.string a, .string b]) "moraine/disk.on") w = .ok (disk_renamed_on.n, .agg #[.string a, .string b]) w := by kernel_rfl
theorem m_rem (w : World) (a : ByteArray) : Sem.run Tryz.prog (method (Tryz.prog.types.size + Made.depth) tRemoved (.agg #[.string a]) "moraine/disk.on") w = .ok (disk_removed_on.n, .agg #[.string a]) w := by kernel_rfl
theorem m_wr (w : World) (n : Int) (o : Option Addr) (l c : Nat) : Sem.run Tryz.prog (method (Tryz.prog.types.size + Made.depth) tWritten (.agg #[.int .i64 n, .slice o l c]) "moraine/disk.on") w = .ok (disk_written_on.n, .agg #[.int .i64 n, .slice o l c]) w := by kernel_rfl
theorem m_cut (w : World) (n : Int) : Sem.run Tryz.prog (method (Tryz.prog.types.size + Made.depth) tCut (.agg #[.int .i64 n]) "moraine/disk.on") w = .ok (disk_cut_on.n, .agg #[.int .i64 n]) w := by kernel_rfl
theorem n_made (w : World) (s : ByteArray) (o : Option Addr) : Sem.run Tryz.prog (nilAhead (Tryz.prog.types.size + Made.depth) tMade (.agg #[.string s, .pointer o]) "moraine/disk.on") w = .ok (some false) w := by kernel_rfl
theorem n_ren (w : World) (a b : ByteArray) : Sem.run Tryz.prog (nilAhead (Tryz.prog.types.size + Made.depth) tRenamed (.agg #[.string a, .string b]) "moraine/disk.on") w = .ok (some false) w := by kernel_rfl
theorem n_rem (w : World) (a : ByteArray) : Sem.run Tryz.prog (nilAhead (Tryz.prog.types.size + Made.depth) tRemoved (.agg #[.string a]) "moraine/disk.on") w = .ok (some false) w := by kernel_rfl
theorem und_slU8 : Tryz.prog.underlying tSlU8 = some (.slice tU8) := by kernel_rfl
theorem info_u8 : (Tryz.prog.info? tU8).map (fun i => (i.zero, i.size, i.bytes)) = some (some (.int .u8 0), 1, 1) := by kernel_rfl
theorem info_u8_size : (Tryz.prog.info? tU8).map (·.size) = some 1 := by kernel_rfl
theorem und_slChange : Tryz.prog.underlying tSlChange = some (.slice tChange) := by kernel_rfl
theorem info_change : (Tryz.prog.info? tChange).map (fun i => (i.zero, i.size, i.bytes)) = some (some .nilIface, 1, 16) := by kernel_rfl
theorem und_slPatch : Tryz.prog.underlying tSlPatch = some (.slice tPatch) := by kernel_rfl
theorem info_patch : (Tryz.prog.info? tPatch).map (fun i => (i.zero, i.size, i.bytes)) = some (some .nilIface, 1, 16) := by kernel_rfl
theorem und_naming : ∃ e, Tryz.prog.underlying tNaming = some (.map tStr e) ∧ ∀ w, (zeroValue e).run Tryz.prog w = .ok (.pointer none) w := ⟨tPFile, by kernel_rfl, fun w => by kernel_rfl⟩
theorem und_str : Tryz.prog.underlying tStr = some .string := by kernel_rfl
end Go.Proofs.YtkekehngillblaaGreat
namespace Go.Proofs.YtkekehngillblaaGreat
open Go Go.Vcg
abbrev fMapsClone : FuncId := 66
abbrev tAny : TypeId := 20
theorem clone_fn : ∃ fn, Tryz.prog.funcs[fMapsClone]? = some fn ∧ (fn.name == "runtime.NumGoroutine") = false ∧ fn.body.isNone = true ∧ Extern.findNext fn = none ∧ Extern.find fn = some Extern.MapsClone.clone := ⟨Tryz.f66, by kernel_rfl, by kernel_rfl, by kernel_rfl, by kernel_rfl, by kernel_rfl⟩
end Go.Proofs.YtkekehngillblaaGreat
end

section
namespace Go.Vcg
theorem run_append_zeros {P : Program} {w : World} {t tx ty e : TypeId} {k : IntKind} {i : TypeInfo} {z : Value} (ht : P.underlying t = some (.slice e)) (hx : P.underlying tx = some (.int k)) (hi : P.info? e = some i) (hz : i.zero = some z)
    (hs : i.size = 1) (hib : i.bytes = 1) {base : Option Addr} {sLen sCap n : Nat} {olds : List Value}
    (hold : (Builtin.firstCells 1 sLen (.slice base sLen sCap)).run P w.drew = .ok olds.toArray w.drew) (hg : sCap < sLen + n) (hn : 0 < n) (hb : sLen + n ≤ 70368744177664) :
    (builtinV .append #[t, tx] ty #[.slice base sLen sCap, .int .i64 (n : Int)]).run P w =
      .ok (.slice (some ⟨w.heap.size, 0, none⟩) (sLen + n) (grownCap w (sLen + n) sCap e))
        (w.drew.alloc (.cells (olds.toArray ++ Builtin.zeroCells z.cells n ++ Builtin.zeroCells z.cells (grownCap w (sLen + n) sCap e - (sLen + n))) e)) := by
  have h1 : ¬ (sLen + n ≤ sCap) := by omega
  have hw : IntKind.wrap .i64 ((n : Int)) = (n : Int) := wrap_i64_small (by omega) (by omega)
  have h0 : ¬ ((n : Int) < 0) := by omega
  have h2 : ¬ ((281474976710656 : Int) < (n : Int)) := by omega
  have h63' : ¬ (9223372036854775807 < ((sLen : Int) + (n : Int))) := by omega
  have hfit : Builtin.nextslicecap (sLen + n) sCap * i.bytes ≤ 281474976710656 := growslice_fits (by omega) (by rw [hib]; omega)
  rw [hib, Nat.mul_one] at hfit
  have h48' : ¬ (281474976710656 < Builtin.nextslicecap (sLen + n) sCap) := by omega
  have hne : ¬ n = 0 := by omega
  simp only [builtinV]
  simp [Builtin.append_, run_underlying ht, run_underlying hx, sizeOf, typeInfo, zeroValue, hi, hz, hs, hib, asInt, asIntOf, hw, h0, h2, h1, h63', h48', Question.forced, hold, newRow, grownCap, hne]
end Go.Vcg
end

section
set_option linter.unusedVariables false
set_option linter.unusedSimpArgs false
namespace Go.Proofs.YtkekehngillblaaGreat
open Go Go.Vcg Go.Disk

theorem keyEnc : KeyEnc Tryz.prog tStr Value.string NmGood where
  keyed := Go.Maps.string_keyed und_str
  ok k hk := ⟨_, Go.WideMaps.keyOf_string_mk und_str hk⟩
  inj a b h := by cases h; rfl
theorem right_good {s : Nm} (h : right s = true) : NmGood s := by
  simp only [right, Bool.and_eq_true, decide_eq_true_eq] at h
  simp only [NmGood, maxLen]; omega

/-! ### names -/
theorem right1_calls {w : World} {b : Nat} {t : TypeId} {n : Int} (B : Blk w b t #[.int .u8 n]) (lo hi : Int) :
    Calls Tryz.prog disk_right_1.n #[.int .u8 lo, .int .u8 hi, .pointer (some ⟨b, 0, none⟩)] w (fun e w' => e = .returned (.bool (decide (lo ≤ n ∧ n ≤ hi))) ∧ w' = w) := by
  refine disk_right_1.vc _ _ _ _ _ ?_
  unfold disk_right_1.Vc
  refine ⟨n, B.rd1 rfl, fun h => ⟨n, B.rd1 rfl, ?_, rfl⟩, fun h => ⟨?_, rfl⟩⟩
  · congr 2
    simp [h]
  · congr 2
    simp [h]

theorem strAt_get {s : ByteArray} {i : Nat} (h : i < s.size) : strAt s i = ((s.data.toList.getD i 0).toNat : Int) := by
  have h' : i < s.data.size := h
  have e : s[i]? = some s.data[i] := by
    rw [getElem?_pos s i h]; rfl
  simp only [strAt, e, Option.map_some, Option.getD_some]
  congr 2
  rw [List.getD_eq_getElem?_getD, Array.getElem?_toList, Array.getElem?_eq_getElem h']; rfl

theorem okChar_iff (c : UInt8) : okChar c = (decide (97 ≤ (c.toNat : Int) ∧ (c.toNat : Int) ≤ 122) || decide (48 ≤ (c.toNat : Int) ∧ (c.toNat : Int) ≤ 57) || decide ((c.toNat : Int) = 46) || decide ((c.toNat : Int) = 45) || decide ((c.toNat : Int) = 95)) := by
  revert c
  have : ∀ n : Fin 256, okChar (UInt8.ofFin n) = (decide (97 ≤ (n.val : Int) ∧ (n.val : Int) ≤ 122) || decide (48 ≤ (n.val : Int) ∧ (n.val : Int) ≤ 57) || decide ((n.val : Int) = 46) || decide ((n.val : Int) = 45) || decide ((n.val : Int) = 95)) := by decide +kernel
  intro c
  exact this c.toFin

theorem right_calls (w : World) (s : ByteArray) : Calls Tryz.prog disk_right.n #[.string s] w (fun e w' => e = .returned (.bool (right s)) ∧ Vcg.Mod NoB w w') := by
  refine disk_right.vc _ _ _ ?_
  unfold disk_right.Vc
  refine ⟨fun h => ⟨?_, Mod.refl _⟩, fun h1 => ⟨fun h => ⟨?_, Mod.refl _⟩, fun h2 => ?_⟩⟩
  · simp only [right]; rw [decide_eq_false (show ¬ 1 ≤ s.size by omega)]; rfl
  · simp only [right]; rw [decide_eq_false (show ¬ s.size ≤ 64 by omega)]; simp
  · have hl : s.data.toList.length = s.size := by simp
    have hr : right s = s.data.toList.all okChar := by
      simp only [right]; rw [decide_eq_true (show 1 ≤ s.size by omega), decide_eq_true (show s.size ≤ 64 by omega)]; rfl
    rw [hr]
    refine ⟨UpTo s.size (fun i w' => Vcg.Mod NoB w w' ∧ (s.data.toList.take i).all okChar = true), Vcg.Left s.size, ⟨0, rfl, Nat.zero_le _, Mod.refl _, rfl⟩, ?_⟩
    rintro _ _ w' ⟨i, rfl, hi, M, ha⟩
    refine ⟨fun hlt => ⟨by omega, ?_⟩, fun hge => ⟨?_, M⟩⟩
    · have hi' : i < s.size := by omega
      have hs : (s.data.toList.take (i + 1)).all okChar = ((s.data.toList.take i).all okChar && okChar (s.data.toList.getD i 0)) := by
        rw [List.take_add_one, List.all_append, List.getElem?_eq_getElem (by omega)]
        simp [List.getD_eq_getElem?_getD, hi', show i < s.data.size from hi']
      rw [ha, Bool.true_and] at hs
      rw [Int.toNat_natCast, strAt_get hi']
      generalize hc : s.data.toList.getD i 0 = c at *
      rintro d4 w5 ⟨rfl, rfl⟩
      have B := Blk.new w' 5 #[.int .u8 0]
      refine ⟨B.canSet (by simp) rfl, ?_⟩
      rintro _ rfl
      have B1 := B.set 0 (.int .u8 (c.toNat : Int))
      have M1 := (M.step_alloc (.cells #[.int .u8 0] 5)).step_set (a := ⟨w'.heap.size, 0, none⟩) (v := .int .u8 (c.toNat : Int)) (fun h => by have := M.size; simp at h; omega)
      generalize (w'.alloc (.cells #[.int .u8 0] 5)).setCell ⟨w'.heap.size, 0, none⟩ (.int .u8 (c.toNat : Int)) = w6 at *
      generalize w'.heap.size = b at *
      rw [okChar_iff] at hs
      have nxt : (s.data.toList.take (i + 1)).all okChar = true → UpTo s.size (fun i w' => Vcg.Mod NoB w w' ∧ (s.data.toList.take i).all okChar = true) (IntKind.wrap .i64 ((i : Int) + 1)) w6 ∧ Vcg.Left s.size (IntKind.wrap .i64 ((i : Int) + 1)) w6 < Vcg.Left s.size (i : Int) w' := fun h =>
        UpTo.next (by rw [wrap_i64_small (by omega) (by omega)]; omega) hi' ⟨M1, h⟩
      refine (right1_calls B1 97 122).mono ?_
      rintro _ _ ⟨rfl, rfl⟩
      refine ⟨_, rfl, fun h97 => ?_, fun h97 => nxt (by rw [hs, h97]; simp)⟩
      refine (right1_calls B1 48 57).mono ?_
      rintro _ _ ⟨rfl, rfl⟩
      refine ⟨_, rfl, fun h48 => ?_, fun h48 => nxt (by rw [hs, h48]; simp)⟩
      refine ⟨_, B1.rd1 rfl, fun h46 => ⟨_, B1.rd1 rfl, fun h45 => ⟨_, B1.rd1 rfl, fun h95 => ⟨?_, M1⟩, fun h95 => nxt ?_⟩, fun h45 => nxt ?_⟩, fun h46 => nxt ?_⟩
      · rw [h97, h48] at hs
        have hf : ((s.data.toList.take (i + 1)).all okChar) = false := by rw [hs]; simp [h46, h45, h95]
        have : s.data.toList.all okChar = false := by
          rw [← List.take_append_drop (i + 1) s.data.toList, List.all_append, hf]; rfl
        rw [this]
      · rw [hs]; simp [h95]
      · rw [hs]; simp [h45]
      · rw [hs]; simp [h46]
    · have : i = s.size := by omega
      subst this
      rw [List.take_of_length_le (by omega)] at ha
      rw [ha]

theorem named1_calls (w : World) (s : ByteArray) : Calls Tryz.prog disk_Disk_named_1.n #[.string s] w (fun e w' => e = .returned (.bool (!right s)) ∧ Vcg.Mod NoB w w') := by
  refine disk_Disk_named_1.vc _ _ _ ?_
  unfold disk_Disk_named_1.Vc
  refine (right_calls w s).mono ?_
  rintro _ w' ⟨rfl, M⟩
  exact ⟨_, rfl, rfl, M⟩

/-- The second names: none, or one. -/
def Seconds (w : World) (o : Option Addr) : List Nm → Prop
  | [] => True
  | [s] => ∃ b t, o = some ⟨b, 0, none⟩ ∧ Blk w b t #[.string s]
  | _ => False
theorem Seconds.mod {w w' : World} {o : Option Addr} : ∀ {l : List Nm}, Seconds w o l → Vcg.Mod NoB w w' → Seconds w' o l
  | [], _, _ => trivial
  | [_], ⟨b, t, ho, B⟩, M => ⟨b, t, ho, B.mod' M⟩
  | _ :: _ :: _, h, _ => h.elim
theorem contains_calls (w : World) {o : Option Addr} {c : Nat} (l : List Nm) (h : Seconds w o l) :
    Calls Tryz.prog slices_ContainsFunc_string_string.n #[.slice o l.length c, .func (.func disk_Disk_named_1.n) #[] #[]] w (fun e w' => e = .returned (.bool (!l.all right)) ∧ Vcg.Mod NoB w w') := by
  refine slices_ContainsFunc_string_string.vc _ _ _ _ _ _ ?_
  unfold slices_ContainsFunc_string_string.Vc
  refine Calls.mono (R := fun e w' => e = .returned (.int .i64 (if l.all right then -1 else 0)) ∧ Vcg.Mod NoB w w') ?_ ?_
  · refine slices_IndexFunc_string_string.vc _ _ _ _ _ _ ?_
    unfold slices_IndexFunc_string_string.Vc
    rcases l with _ | ⟨s, _ | ⟨_, _⟩⟩
    · refine ⟨fun n w' => n = 0 ∧ w' = w, fun _ _ => 0, ⟨rfl, rfl⟩, ?_⟩
      rintro _ _ _ ⟨rfl, rfl⟩
      exact ⟨fun h => by simp at h, fun _ => ⟨rfl, Mod.refl _⟩⟩
    · obtain ⟨b, t, rfl, B⟩ := h
      refine ⟨UpTo 1 (fun i w' => Vcg.Mod NoB w w' ∧ (i = 1 → right s = true)), Vcg.Left 1, ⟨0, rfl, by omega, Mod.refl _, fun h => by omega⟩, ?_⟩
      rintro _ _ w1 ⟨i, rfl, hi, M, hr⟩
      refine ⟨fun hlt => ?_, fun hge => ⟨?_, M⟩⟩
      · have hlt : (i : Int) < (([s] : List Nm).length : Int) := hlt
        obtain rfl : i = 0 := by simp at hlt; omega
        refine ⟨_, rfl, by simp, s, ?_, ?_⟩
        · rw [add_at]; exact (B.mod' M).rd1 rfl
        refine ⟨_, _, _, rfl, by kernel_rfl, ?_⟩
        refine (named1_calls w1 s).mono ?_
        rintro _ w2 ⟨rfl, M2⟩
        refine ⟨_, rfl, fun h => ⟨?_, M.none_trans M2⟩, fun h => UpTo.next rfl (by omega) ⟨M.none_trans M2, fun _ => by simpa using h⟩⟩
        have : right s = false := by simpa using h
        simp [this]
      · have hge : ¬ (i : Int) < (([s] : List Nm).length : Int) := hge
        simp at hge
        have : i = 1 := by omega
        simp [hr this]
    · exact h.elim
  · rintro _ w' ⟨rfl, M⟩
    refine ⟨_, rfl, ?_, M⟩
    cases l.all right <;> rfl

/-! ### bytes -/
theorem append_u8 {w : World} {o : Option Addr} {l c : Nat} {xs : List Value} {x : Value} {tx ty : TypeId} {n : Nat} {news : List Value} (h : Own w tU8 1 o l c xs) (src : Src Tryz.prog 1 tx x n news w) (hb : l + n ≤ 2 ^ 40) :
    ∃ o' c' w', Sem.run Tryz.prog (builtinV .append #[tSlU8, tx] ty #[.slice o l c, x]) w = .ok (.slice o' (l + n) c') w' ∧ Own w' tU8 1 o' (l + n) c' (xs ++ news) ∧ Vcg.Mod (OB o) w w' ∧ (∀ k, OB o' k → OB o k ∨ w.heap.size ≤ k) := by
  obtain ⟨i, hi, h1⟩ := Option.map_eq_some_iff.1 info_u8
  simp only [Prod.mk.injEq] at h1
  exact append_own und_slU8 hi h1.1 h1.2.1 rfl h src (by simp only [maxLen]; omega) (by rw [h1.2.2]; omega)

theorem Clone_calls {w : World} {o : Option Addr} {c : Nat} {bs : List UInt8} (hr : RdB w o bs) (hb : bs.length ≤ 2 ^ 40) :
    Calls Tryz.prog slices_Clone_byte_byte.n #[.slice o bs.length c] w (fun e w' => ∃ o' c', e = .returned (.slice o' bs.length c') ∧ Own w' tU8 1 o' bs.length c' (bs.map bV) ∧ Vcg.Mod NoB w w' ∧ ∀ k, OB o' k → w.heap.size ≤ k) := by
  refine slices_Clone_byte_byte.vc _ _ _ _ _ ?_
  unfold slices_Clone_byte_byte.Vc
  refine ⟨fun h => ?_, fun h => ?_⟩
  · subst h
    have hbs : bs = [] := by
      by_cases hne : bs = []
      · exact hne
      · obtain ⟨b, f, h, _⟩ := hr hne; cases h
    subst hbs
    exact ⟨none, 0, rfl, Own.nil _ _ _, Mod.refl _, fun k hk => (OB_none k hk).elim⟩
  · rintro d1 w2 ⟨rfl, rfl⟩
    have B := Blk.new w tU8 #[]
    have M := Mod.alloc (S := NoB) w (.cells #[] tU8)
    have ow : Own (w.alloc (.cells #[] tU8)) tU8 1 (some ⟨w.heap.size, 0, none⟩) 0 0 [] := ⟨rfl, .inr ⟨_, _, rfl, B, Nat.le_refl _, Nat.zero_le _, rfl, rfl⟩⟩
    obtain ⟨o', c', w', h1, h2, h3, h4⟩ := append_u8 (ty := tSlU8) ow (src_bytes (c := c) und_slU8 (hr.mod' M)) (by omega)
    rw [Nat.zero_add] at h1 h2
    refine ⟨_, w', h1, _, _, _, rfl, o', c', rfl, h2, ?_, fun k hk => ?_⟩
    · refine M.trans h3 (fun k hk hob => ?_)
      obtain ⟨d, hd, rfl⟩ := hob
      cases hd
      exact absurd hk (Nat.lt_irrefl _)
    · rcases h4 k hk with ⟨d, hd, rfl⟩ | h5
      · cases hd; exact Nat.le_refl _
      · rw [size_alloc] at h5; omega

theorem Grow_calls {w : World} {o : Option Addr} {l c : Nat} {xs : List Value} {n : Nat} {m : Int} (h : Own w tU8 1 o l c xs) (hm : m = (n : Int)) (hb : l + n ≤ 2 ^ 40) :
    Calls Tryz.prog slices_Grow_byte_byte.n #[.slice o l c, .int .i64 m] w (fun e w' => ∃ o' c', e = .returned (.slice o' l c') ∧ Own w' tU8 1 o' l c' xs ∧ l + n ≤ c' ∧ Vcg.Mod NoB w w' ∧ ∀ k, OB o' k → OB o k ∨ w.heap.size ≤ k) := by
  subst hm
  have hcap := h.cap
  simp only [maxLen] at hcap
  refine slices_Grow_byte_byte.vc _ _ _ _ _ _ ?_
  unfold slices_Grow_byte_byte.Vc
  refine ⟨fun h => by omega, fun _ => ?_⟩
  have e1 : IntKind.wrap .i64 (((c : Nat) : Int) - ((l : Nat) : Int)) = ((c - l : Nat) : Int) := by rw [wrap_i64_small (by omega) (by omega)]; omega
  have e2 : IntKind.wrap .i64 ((n : Int) - ((c - l : Nat) : Int)) = (n : Int) - ((c - l : Nat) : Int) := by rw [wrap_i64_small (by omega) (by omega)]
  rw [e1, e2]
  refine ⟨fun hgt => ?_, fun hle => ⟨o, c, rfl, h, by omega, Mod.refl _, fun k hk => .inl hk⟩⟩
  have e3 : (n : Int) - ((c - l : Nat) : Int) = ((n - (c - l) : Nat) : Int) := by omega
  rw [e3]
  refine ⟨by omega, ?_⟩
  obtain ⟨i, hi, h1⟩ := Option.map_eq_some_iff.1 info_u8
  simp only [Prod.mk.injEq] at h1
  have hold : ∃ olds, (Builtin.firstCells 1 c (.slice o c c)).run Tryz.prog w.drew = .ok (olds : List Value).toArray w.drew ∧ olds.length = c ∧ olds.take l = xs := by
    rcases h.2 with ⟨rfl, rfl, rfl⟩ | ⟨g, cur, rfl, hB, hlc, hcm, hcs, htk⟩
    · refine ⟨[], run_firstCells_none w.drew 1 0 0 0, rfl, ?_⟩
      have := h.1
      simp at this
      rw [this]; rfl
    · refine ⟨cur.toList, run_firstCells_some w.drew 1 c _ c c cur.toList (by simp [hcs]) (fun j v hv => ?_), by simp [hcs], by rw [← htk]; simp⟩
      rw [add_at, Nat.zero_add]
      show w.cell? _ = _
      rw [hB.cell]; simpa using hv
  obtain ⟨olds, ho, hol, hot⟩ := hold
  have hrun := run_append_zeros (P := Tryz.prog) (w := w) (ty := 32) (tx := 3) (n := n - (c - l)) (sLen := c) (sCap := c) (base := o) und_slU8 (show Tryz.prog.underlying 3 = some (.int .i64) by kernel_rfl) hi h1.1 h1.2.1 h1.2.2 ho (by omega) (by omega) (by omega)
  have hge := grownCap_ge w (c + (n - (c - l))) c tU8
  have hcm : grownCap w (c + (n - (c - l))) c tU8 ≤ maxLen := grownCap_le_maxLen w _ c tU8 (by simp only [maxLen]; omega)
  generalize grownCap w (c + (n - (c - l))) c tU8 = G at *
  have hz : ∀ k, (Builtin.zeroCells (Value.int .u8 0).cells k).size = k := fun k => by rw [size_zeroCells]; show k * 1 = k; omega
  refine ⟨_, _, hrun, _, _, _, rfl, by omega, _, _, rfl, ⟨?_, .inr ⟨_, _, rfl, Blk.new w.drew tU8 _, by omega, hcm, ?_, ?_⟩⟩, by omega, (Mod.drew w).step_alloc _, fun k hk => .inr ?_⟩
  · have := h.1; simpa using this
  · simp only [Array.size_append, hz, List.size_toArray, hol]; omega
  · simp only [Array.toList_append, Int.toNat_natCast, Nat.mul_one]
    rw [List.append_assoc, List.take_append_of_le_length (by omega), hot]
  · obtain ⟨d, hd, rfl⟩ := hk
    cases hd
    exact Nat.le_refl _
end Go.Proofs.YtkekehngillblaaGreat
end
