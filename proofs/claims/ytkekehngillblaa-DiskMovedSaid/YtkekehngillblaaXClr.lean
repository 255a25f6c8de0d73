/- Coloured heaps: each block has a colour, and a step says which colours it may change. -/
import Derived.Test.YtkekehngillblaaXRow
namespace Go.Vcg

section
variable {C : Type}

/-- A step that changes blocks of the colours S alone; old blocks keep their colours. -/
structure Stp (S : C → Prop) (w : World) (la : Nat → C) (w' : World) (la' : Nat → C) : Prop where
  os : w'.os = w.os
  tape : w'.tape = w.tape
  output : w'.output = w.output
  size : w.heap.size ≤ w'.heap.size
  lab : ∀ k, k < w.heap.size → la' k = la k
  block : ∀ k, k < w.heap.size → ¬ S (la k) → w'.heap[k]? = w.heap[k]?

/-- New blocks get a colour. -/
def ext (lab : Nat → C) (n : Nat) (c : C) : Nat → C := fun k => if k < n then lab k else c
theorem ext_old {lab : Nat → C} {n k : Nat} {c : C} (h : k < n) : ext lab n c k = lab k := if_pos h
theorem ext_new {lab : Nat → C} {n k : Nat} {c : C} (h : n ≤ k) : ext lab n c k = c := if_neg (by omega)

variable {S T : C → Prop} {w w' w'' : World} {lab lab' lab'' : Nat → C}
theorem Stp.refl (S : C → Prop) (w : World) (lab : Nat → C) : Stp S w lab w lab := ⟨rfl, rfl, rfl, Nat.le_refl _, fun _ _ => rfl, fun _ _ _ => rfl⟩
theorem Stp.trans (h : Stp S w lab w' lab') (k : Stp S w' lab' w'' lab'') : Stp S w lab w'' lab'' :=
  ⟨k.os.trans h.os, k.tape.trans h.tape, k.output.trans h.output, Nat.le_trans h.size k.size,
    fun i hi => (k.lab i (Nat.lt_of_lt_of_le hi h.size)).trans (h.lab i hi),
    fun i hi hn => (k.block i (Nat.lt_of_lt_of_le hi h.size) (by rw [h.lab i hi]; exact hn)).trans (h.block i hi hn)⟩
theorem Stp.mono (h : Stp S w lab w' lab') (hs : ∀ c, S c → T c) : Stp T w lab w' lab' :=
  ⟨h.os, h.tape, h.output, h.size, h.lab, fun i hi hn => h.block i hi (fun k => hn (hs _ k))⟩
theorem Stp.of_mod {Q : Nat → Prop} (h : Mod Q w w') (c : C) (hq : ∀ k, k < w.heap.size → Q k → S (lab k)) : Stp S w lab w' (ext lab w.heap.size c) :=
  ⟨h.os, h.tape, h.output, h.size, fun _ hi => ext_old hi, fun i hi hn => h.block i hi (fun q => hn (hq i hi q))⟩
theorem Stp.of_nob (h : Mod NoB w w') (c : C) : Stp S w lab w' (ext lab w.heap.size c) := Stp.of_mod h c (fun _ _ h => h.elim)
theorem Stp.drew (S : C → Prop) (w : World) (lab : Nat → C) : Stp S w lab w.drew lab := ⟨rfl, rfl, rfl, Nat.le_refl _, fun _ _ => rfl, fun _ _ _ => rfl⟩
theorem Stp.alloc (S : C → Prop) (w : World) (lab : Nat → C) (o : Obj) (c : C) : Stp S w lab (w.alloc o) (ext lab w.heap.size c) := Stp.of_nob (Mod.alloc w o) c
theorem Stp.setCell {a : Addr} {v : Value} (hs : S (lab a.block)) : Stp S w lab (w.setCell a v) lab :=
  ⟨rfl, rfl, rfl, by simp [World.setCell], fun _ _ => rfl, fun k _ hn => heap_setCell_other w a k v (fun e => hn (e ▸ hs))⟩
theorem Stp.mod {Q : Nat → Prop} (h : Stp S w lab w' lab') (hq : ∀ k, k < w.heap.size → S (lab k) → Q k) : Mod Q w w' :=
  ⟨h.os, h.tape, h.output, h.size, fun k hk hn => h.block k hk (fun s => hn (hq k hk s))⟩
/-- What foreign blocks there are stay as they are. -/
theorem Stp.nob (h : Stp S w lab w' lab') (hq : ∀ k, k < w.heap.size → ¬ S (lab k)) : Mod NoB w w' := h.mod (fun k hk s => (hq k hk s).elim)

/-- Block b, of colour c, is a row of cells. -/
structure CB (w : World) (lab : Nat → C) (c : C) (b : Nat) (t : TypeId) (cs : Array Value) : Prop where
  blk : Blk w b t cs
  clr : lab b = c
variable {c : C} {b : Nat} {t : TypeId} {cs : Array Value}
theorem CB.stp (h : CB w lab c b t cs) (m : Stp S w lab w' lab') (hs : ¬ S c) : CB w' lab' c b t cs :=
  ⟨(m.block b h.blk.lt (by rw [h.clr]; exact hs)).trans h.blk, (m.lab b h.blk.lt).trans h.clr⟩
theorem CB.new (w : World) (lab : Nat → C) (c : C) (t : TypeId) (cs : Array Value) : CB (w.alloc (.cells cs t)) (ext lab w.heap.size c) c w.heap.size t cs := ⟨Blk.new w t cs, ext_new (Nat.le_refl _)⟩
theorem CB.set (h : CB w lab c b t cs) (i : Nat) (v : Value) : CB (w.setCell ⟨b, i, none⟩ v) lab c b t (cs.setIfInBounds i v) := ⟨h.blk.set i v, h.clr⟩

/-- From o on the bytes bs lie, in a block of colour c. -/
structure CBy (w : World) (lab : Nat → C) (c : C) (o : Option Addr) (bs : List UInt8) : Prop where
  rd : RdB w o bs
  clr : bs ≠ [] → ∀ d, o = some d → lab d.block = c
variable {o : Option Addr} {bs : List UInt8}
theorem CBy.stp (h : CBy w lab c o bs) (m : Stp S w lab w' lab') (hs : ¬ S c) : CBy w' lab' c o bs := by
  refine ⟨fun hne => ?_, fun hne d hd => ?_⟩
  · obtain ⟨b, f, rfl, hb, hc⟩ := h.rd hne
    have hl := h.clr hne _ rfl
    refine ⟨b, f, rfl, Nat.lt_of_lt_of_le hb m.size, fun i hi => ?_⟩
    exact (World.cell?_of_block (m.block b hb (by rw [hl]; exact hs))).trans (hc i hi)
  · obtain ⟨b, f, rfl, hb, _⟩ := h.rd hne
    cases hd
    exact (m.lab b hb).trans (h.clr hne _ rfl)
theorem CBy.nil (w : World) (lab : Nat → C) (c : C) (o : Option Addr) : CBy w lab c o [] := ⟨fun h => (h rfl).elim, fun h => (h rfl).elim⟩
theorem CBy.take (h : CBy w lab c o bs) (n : Nat) : CBy w lab c o (bs.take n) :=
  ⟨h.rd.take n, fun hne => h.clr (fun e => hne (by rw [e, List.take_nil]))⟩
theorem CBy.sub {cap lo n : Nat} (h : CBy w lab c o bs) (hc : bs.length ≤ cap) : CBy w lab c (subO o cap lo 1) ((bs.drop lo).take n) := by
  refine ⟨h.rd.sub hc, fun hne d hd => ?_⟩
  have hb : bs ≠ [] := fun e => hne (by rw [e]; simp)
  obtain ⟨b, f, rfl, _, _⟩ := h.rd hb
  have := h.clr hb _ rfl
  rw [subO] at hd
  split at hd
  · cases hd; exact this
  · simp at hd; subst hd; exact this

/-- A slice with a block of its own, of colour c. -/
structure COw (w : World) (lab : Nat → C) (c : C) (e : TypeId) (sz : Nat) (o : Option Addr) (l cap : Nat) (xs : List Value) : Prop where
  own : Own w e sz o l cap xs
  clr : ∀ k, OB o k → lab k = c
variable {e : TypeId} {sz l cap : Nat} {xs : List Value}
theorem COw.nil (w : World) (lab : Nat → C) (c : C) (e : TypeId) (sz : Nat) : COw w lab c e sz none 0 0 [] := ⟨Own.nil w e sz, fun k h => (OB_none k h).elim⟩
theorem COw.stp (h : COw w lab c e sz o l cap xs) (m : Stp S w lab w' lab') (hs : ¬ S c) : COw w' lab' c e sz o l cap xs := by
  have hl : ∀ k, OB o k → k < w.heap.size := fun k hk => h.own.lt hk
  refine ⟨?_, fun k hk => (m.lab k (hl k hk)).trans (h.clr k hk)⟩
  have hm : Mod (fun k => S (lab k)) w w' := m.mod (fun _ _ s => s)
  exact h.own.mod hm (fun k hk s => hs (by rw [← h.clr k hk]; exact s))
theorem COw.bytes (h : COw w lab c e 1 o l cap (bs.map bV)) : CBy w lab c o bs := ⟨h.own.bytes, fun _ d hd => h.clr _ ⟨d, hd, rfl⟩⟩
theorem COw.append {P : Program} {t tx ty : TypeId} {i : TypeInfo} {z : Value} {x : Value} {n : Nat} {news : List Value}
    (ht : P.underlying t = some (.slice e)) (hi : P.info? e = some i) (hz : i.zero = some z) (hs : i.size = sz) (hzs : z.cells.size = sz)
    (h : COw w lab c e sz o l cap xs) (src : Src P sz tx x n news w) (h63 : l + n ≤ maxLen) (hb : (l + n) * i.bytes ≤ 140737488355328) :
    ∃ o' c' w', Sem.run P (builtinV .append #[t, tx] ty #[.slice o l cap, x]) w = .ok (.slice o' (l + n) c') w' ∧
      COw w' (ext lab w.heap.size c) c e sz o' (l + n) c' (xs ++ news) ∧ Stp (· = c) w lab w' (ext lab w.heap.size c) := by
  obtain ⟨o', c', w', h1, h2, h3, h4⟩ := append_own (ty := ty) ht hi hz hs hzs h.own src h63 hb
  refine ⟨o', c', w', h1, ⟨h2, fun k hk => ?_⟩, Stp.of_mod h3 c (fun k _ hk => h.clr k hk)⟩
  by_cases hl : k < w.heap.size
  · rw [ext_old hl]
    rcases h4 k hk with h5 | h5
    · exact h.clr k h5
    · omega
  · exact ext_new (by omega)
end
end Go.Vcg
