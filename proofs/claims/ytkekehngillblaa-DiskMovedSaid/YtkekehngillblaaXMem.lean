/- Memory laws: blocks of cells, and which blocks a step changes. -/
import Derived.Test.YtkekehngillblaaXFun
import Derived.Deep.AppendSrc
import Derived.Laws.CopyRow
import Derived.Laws.AppendOwn
import Derived.Below
namespace Go.Vcg
open Go.RowKit (Below)

@[simp] theorem add_at (b i n : Nat) : Addr.add ⟨b, i, none⟩ n = ⟨b, i + n, none⟩ := by
  unfold Addr.add; split <;> simp_all

/-- Block b of w is a row of cells, none of them frozen. -/
def Blk (w : World) (b : Nat) (t : TypeId) (cs : Array Value) : Prop := w.heap[b]? = some (.cells cs t (0, 0))

/-- Between w and w' only the old blocks in S may have changed. -/
structure Mod (S : Nat → Prop) (w w' : World) : Prop where
  os : w'.os = w.os
  tape : w'.tape = w.tape
  output : w'.output = w.output
  size : w.heap.size ≤ w'.heap.size
  block : ∀ k, k < w.heap.size → ¬ S k → w'.heap[k]? = w.heap[k]?

abbrev NoB : Nat → Prop := fun _ => False

theorem Mod.refl {S} (w : World) : Mod S w w := ⟨rfl, rfl, rfl, Nat.le_refl _, fun _ _ _ => rfl⟩
theorem Mod.trans {S T : Nat → Prop} {a b c : World} (h : Mod S a b) (k : Mod T b c) (hs : ∀ i, i < a.heap.size → T i → S i) : Mod S a c :=
  ⟨k.os.trans h.os, k.tape.trans h.tape, k.output.trans h.output, Nat.le_trans h.size k.size,
    fun i hi hn => (k.block i (Nat.lt_of_lt_of_le hi h.size) (fun ht => hn (hs i hi ht))).trans (h.block i hi hn)⟩
theorem Mod.mono {S T : Nat → Prop} {a b : World} (h : Mod S a b) (hs : ∀ i, i < a.heap.size → S i → T i) : Mod T a b :=
  ⟨h.os, h.tape, h.output, h.size, fun i hi hn => h.block i hi (fun k => hn (hs i hi k))⟩
theorem Mod.none_trans {S : Nat → Prop} {a b c : World} (h : Mod S a b) (k : Mod NoB b c) : Mod S a c := h.trans k (fun _ _ h => h.elim)
theorem Mod.below {w w' : World} (h : Mod NoB w w') : Below w.heap.size w w' := ⟨h.os, h.tape, h.output, h.size, fun k hk => h.block k hk (fun h => h)⟩
theorem Mod.of_below {w w' : World} (h : Below w.heap.size w w') : Mod NoB w w' := ⟨h.os, h.tape, h.output, h.size, fun k hk _ => h.block k hk⟩
theorem Mod.of_grown {w w' : World} {row : Option Nat} (h : w.grownBy w' row) : Mod (fun k => some k = row) w w' :=
  ⟨h.os, h.tape, h.output, h.size, fun k hk hn => h.block k hk hn⟩

theorem Mod.drew (w : World) {S} : Mod S w w.drew := ⟨rfl, rfl, rfl, Nat.le_refl _, fun _ _ _ => rfl⟩
theorem Mod.alloc (w : World) (o : Obj) {S} : Mod S w (w.alloc o) := ⟨rfl, rfl, rfl, by simp, fun k hk _ => heap_alloc_old w o hk⟩
theorem Mod.setCell (w : World) (a : Addr) (v : Value) : Mod (· = a.block) w (w.setCell a v) :=
  ⟨rfl, rfl, rfl, by simp [World.setCell], fun k hk hn => heap_setCell_other w a k v hn⟩
theorem Mod.setRow (w : World) (g : Nat) (cs : Array Value) : Mod (· = g) w (w.setRow g cs) :=
  ⟨rfl, rfl, rfl, by simp [World.setRow], fun k hk hn => setRow_other w g k _ hn⟩
theorem Mod.step_drew {S} {w0 w : World} (h : Mod S w0 w) : Mod S w0 w.drew := h.none_trans (Mod.drew w)
theorem Mod.step_alloc {S} {w0 w : World} (h : Mod S w0 w) (o : Obj) : Mod S w0 (w.alloc o) := h.none_trans (Mod.alloc w o)
theorem Mod.step_set {S : Nat → Prop} {w0 w : World} (h : Mod S w0 w) {a : Addr} {v : Value} (hs : a.block < w0.heap.size → S a.block) : Mod S w0 (w.setCell a v) :=
  h.trans (Mod.setCell w a v) (fun i hi e => by subst e; exact hs hi)
theorem Mod.step_row {S : Nat → Prop} {w0 w : World} (h : Mod S w0 w) {g : Nat} {cs} (hs : g < w0.heap.size → S g) : Mod S w0 (w.setRow g cs) :=
  h.trans (Mod.setRow w g cs) (fun i hi e => by subst e; exact hs hi)

theorem size_alloc (w : World) (o : Obj) : (w.alloc o).heap.size = w.heap.size + 1 := by simp
theorem size_setCell (w : World) (a : Addr) (v : Value) : (w.setCell a v).heap.size = w.heap.size := by simp [World.setCell]
theorem size_setRow (w : World) (g : Nat) (cs) : (w.setRow g cs).heap.size = w.heap.size := by simp [World.setRow]
theorem size_drew (w : World) : w.drew.heap.size = w.heap.size := rfl

section
variable {w w' : World} {b : Nat} {t : TypeId} {cs : Array Value}
theorem Blk.lt (h : Blk w b t cs) : b < w.heap.size := (Array.getElem?_eq_some_iff.1 h).1
theorem Blk.mod {S : Nat → Prop} (h : Blk w b t cs) (m : Mod S w w') (hs : ¬ S b) : Blk w' b t cs := (m.block b h.lt hs).trans h
theorem Blk.mod' (h : Blk w b t cs) (m : Mod NoB w w') : Blk w' b t cs := h.mod m (fun h => h)
theorem Blk.drew (h : Blk w b t cs) : Blk w.drew b t cs := h
theorem Blk.alloc (h : Blk w b t cs) (o : Obj) : Blk (w.alloc o) b t cs := h.mod' (Mod.alloc w o)
theorem Blk.new (w : World) (t : TypeId) (cs : Array Value) : Blk (w.alloc (.cells cs t)) w.heap.size t cs := heap_alloc_new w _
theorem Blk.set (h : Blk w b t cs) (i : Nat) (v : Value) : Blk (w.setCell ⟨b, i, none⟩ v) b t (cs.setIfInBounds i v) := heap_setCell_same w b i cs t v h
theorem Blk.set_ne (h : Blk w b t cs) {a : Addr} {v : Value} (hn : b ≠ a.block) : Blk (w.setCell a v) b t cs := h.mod (Mod.setCell w a v) hn
theorem Blk.row_ne (h : Blk w b t cs) {g : Nat} {c : Array Value} (hn : b ≠ g) : Blk (w.setRow g c) b t cs := h.mod (Mod.setRow w g c) hn
theorem Blk.row_same (h : Blk w b t cs) (c : Array Value) : Blk (w.setRow b c) b t c := setRow_heap w b cs c t _ h
theorem Blk.cell (h : Blk w b t cs) (i : Nat) : w.cell? ⟨b, i, none⟩ = cs[i]? := cell_of_row w b i cs t _ h
theorem Blk.canSet (h : Blk w b t cs) {i : Nat} {v : Value} (hi : i < cs.size) (hv : v.oneCell' = true) : CanSet w ⟨b, i, none⟩ v :=
  ⟨hv, ⟨cs[i], by rw [h.cell]; simp [hi]⟩, by simp [World.frozen?, show w.heap[b]? = _ from h]⟩
theorem Blk.rowAt (h : Blk w b t cs) {o n : Nat} {L : Array Value} (hn : L.size = n) (hl : ∀ i, i < n → cs[o + i]? = L[i]?) : RowAt w ⟨b, o, none⟩ n L :=
  ⟨hn, fun i hi => by rw [add_at, h.cell, hl i hi]⟩
theorem Blk.rowAll (h : Blk w b t cs) {n : Nat} (hn : cs.size = n) : RowAt w ⟨b, 0, none⟩ n cs :=
  h.rowAt hn (fun i _ => by simp)
theorem Blk.inj {t' cs'} (h : Blk w b t cs) (h' : Blk w b t' cs') : cs = cs' := by
  have := h.symm.trans h'; simp at this; exact this.1
/-- A whole array is stored into a block. -/
theorem Blk.storeAt {P : Program} (h : Blk w b t cs) {ty : TypeId} {i : TypeInfo} {L : Array Value} {o : Nat} (hi : P.info? ty = some i) (hsz : i.size = L.size)
    (hb : o + L.size ≤ cs.size) (h1 : ∀ v ∈ L.toList, v.oneCell' = true) :
    Sem.run P (Instr.storeAt ty (.pointer (some ⟨b, o, none⟩)) (.agg L)) w = .ok () (w.setRow b (cs.toList.take o ++ L.toList ++ cs.toList.drop (o + L.size)).toArray) := by
  have hst := run_storeCells_at P b o t L.toList 0 cs w h (by simpa using hb) h1
  simp only [Nat.add_zero, Array.length_toList] at hst
  simp only [Instr.storeAt, Instr.sureAddr, pure_bind]
  unfold storeVar
  simp [Sem.run_bind, sizeOf, typeInfo, hi, hsz, Value.cells, hst]
end

theorem Blk.storeAll {w : World} {b : Nat} {t : TypeId} {cs : Array Value} {P : Program} (h : Blk w b t cs) {ty : TypeId} {L : Array Value} (hi : (P.info? ty).map (·.size) = some L.size)
    (hb : cs.size = L.size) (h1 : ∀ v ∈ L.toList, v.oneCell' = true) :
    Sem.run P (Instr.storeAt ty (.pointer (some ⟨b, 0, none⟩)) (.agg L)) w = .ok () (w.setRow b L) := by
  obtain ⟨i, hi', hsz⟩ := Option.map_eq_some_iff.1 hi
  rw [h.storeAt hi' hsz (by omega) h1]
  have : cs.toList.drop (0 + L.size) = [] := List.drop_eq_nil_of_le (by simp; omega)
  rw [this]; simp
theorem Blk.rd {w : World} {b o : Nat} {t : TypeId} {cs : Array Value} (h : Blk w b t cs) {i : Nat} {v : Value} (hv : cs[o + i]? = some v) :
    w.cell? (Addr.add ⟨b, o, none⟩ (Int.toNat (i : Int))) = some v := by rw [Int.toNat_natCast, add_at, h.cell, hv]
theorem Blk.rd0 {w : World} {b : Nat} {t : TypeId} {cs : Array Value} (h : Blk w b t cs) {i : Nat} {v : Value} (hv : cs[i]? = some v) :
    w.cell? (Addr.add ⟨b, 0, none⟩ (Int.toNat (i : Int))) = some v := by rw [Int.toNat_natCast, add_at, h.cell, Nat.zero_add, hv]
theorem Blk.rd1 {w : World} {b i : Nat} {t : TypeId} {cs : Array Value} (h : Blk w b t cs) {v : Value} (hv : cs[i]? = some v) :
    w.cell? ⟨b, i, none⟩ = some v := by rw [h.cell, hv]
theorem Blk.canSet0 {w : World} {b : Nat} {t : TypeId} {cs : Array Value} (h : Blk w b t cs) {i : Nat} {v : Value} (hi : i < cs.size) (hv : v.oneCell' = true) : CanSet w (Addr.add ⟨b, 0, none⟩ (Int.toNat (i : Int))) v := by
  rw [Int.toNat_natCast, add_at, Nat.zero_add]; exact h.canSet hi hv
theorem IsSet.at {w w' : World} {b i : Nat} {v : Value} (h : IsSet w (Addr.add ⟨b, 0, none⟩ (Int.toNat (i : Int))) v w') : w' = w.setCell ⟨b, i, none⟩ v := by
  rw [IsSet, Int.toNat_natCast, add_at, Nat.zero_add] at h; exact h

/-- A counter that runs from nought up to N, and what holds at each stand. -/
def UpTo (N : Nat) (Inv : Nat → World → Prop) (n : Int) (w : World) : Prop := ∃ k : Nat, n = (k : Int) ∧ k ≤ N ∧ Inv k w
abbrev Left (N : Nat) (n : Int) (_ : World) : Nat := ((N : Int) - n).toNat
theorem loopN {w : World} {b : Int} {B : (Int → World → Prop) → (Int → World → Nat) → Int → (Nat → Value) → World → Prop} {K : Int → (Nat → Value) → World → Prop}
    (N : Nat) (Inv : Nat → World → Prop) (hb : b = (N : Int)) (h0 : Inv 0 w)
    (hB : ∀ (k : Nat) (j : Nat → Value) (w' : World), k < N → Inv k w' → B (UpTo N Inv) (Left N) (k : Int) j w')
    (hK : ∀ (j : Nat → Value) (w' : World), Inv N w' → K (N : Int) j w') :
    ∃ (I : Int → World → Prop) (μ : Int → World → Nat), I 0 w ∧ (∀ (n : Int) (j : Nat → Value) (w4 : World), I n w4 → ((n < b → B I μ n j w4) ∧ (¬ n < b → K n j w4))) := by
  subst hb
  refine ⟨UpTo N Inv, Left N, ⟨0, rfl, Nat.zero_le _, h0⟩, ?_⟩
  rintro _ j w' ⟨k, rfl, hk, hI⟩
  refine ⟨fun h => hB k j w' (by omega) hI, fun h => ?_⟩
  have : k = N := by omega
  subst this
  exact hK j w' hI
theorem UpTo.next {N : Nat} {Inv : Nat → World → Prop} {k : Nat} {m : Int} {w w' : World} (hm : m = ((k + 1 : Nat) : Int)) (hk : k < N) (h : Inv (k + 1) w') : UpTo N Inv m w' ∧ Left N m w' < Left N (k : Int) w := by
  subst hm
  exact ⟨⟨k + 1, rfl, hk, h⟩, by simp only [Left]; omega⟩

end Go.Vcg
