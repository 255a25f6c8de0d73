/- Slices that the code itself made: appended to, copied into. -/
import Derived.Test.YtkekehngillblaaXByt
namespace Go.Vcg

/-- A slice with a block of its own, from that block's first cell on: xs are its elements' cells. -/
def Own (w : World) (e : TypeId) (sz : Nat) (o : Option Addr) (l c : Nat) (xs : List Value) : Prop :=
  xs.length = l * sz ∧ ((o = none ∧ l = 0 ∧ c = 0) ∨
    ∃ g cur, o = some ⟨g, 0, none⟩ ∧ Blk w g e cur ∧ l ≤ c ∧ c ≤ maxLen ∧ cur.size = c * sz ∧ cur.toList.take (l * sz) = xs)
/-- The block of a slice. -/
def OB (o : Option Addr) : Nat → Prop := fun k => ∃ d, o = some d ∧ d.block = k

theorem OB_none (k : Nat) : ¬ OB none k := by rintro ⟨d, h, _⟩; cases h
theorem Own.nil (w : World) (e : TypeId) (sz : Nat) : Own w e sz none 0 0 [] := ⟨by simp, .inl ⟨rfl, rfl, rfl⟩⟩
theorem Own.mod {S : Nat → Prop} {w w' : World} {e : TypeId} {sz : Nat} {o : Option Addr} {l c : Nat} {xs : List Value} (h : Own w e sz o l c xs) (m : Mod S w w') (hs : ∀ k, OB o k → ¬ S k) : Own w' e sz o l c xs := by
  refine ⟨h.1, ?_⟩
  rcases h.2 with hn | ⟨g, cur, rfl, hb, rest⟩
  · exact .inl hn
  · exact .inr ⟨g, cur, rfl, hb.mod m (hs g ⟨_, rfl, rfl⟩), rest⟩
theorem Own.mod' {w w' : World} {e : TypeId} {sz : Nat} {o : Option Addr} {l c : Nat} {xs : List Value} (h : Own w e sz o l c xs) (m : Mod NoB w w') : Own w' e sz o l c xs := h.mod m (fun _ _ h => h)
theorem Own.lt {w : World} {e : TypeId} {sz : Nat} {o : Option Addr} {l c : Nat} {xs : List Value} (h : Own w e sz o l c xs) {k : Nat} (hk : OB o k) : k < w.heap.size := by
  obtain ⟨d, rfl, rfl⟩ := hk
  rcases h.2 with ⟨h, _⟩ | ⟨g, cur, h, hb, rest⟩
  · cases h
  · cases h; exact hb.lt
theorem Own.len {w : World} {e : TypeId} {o : Option Addr} {l c : Nat} {xs : List Value} (h : Own w e 1 o l c xs) : xs.length = l := by have := h.1; omega
theorem Own.cap {w : World} {e : TypeId} {sz : Nat} {o : Option Addr} {l c : Nat} {xs : List Value} (h : Own w e sz o l c xs) : l ≤ c ∧ c ≤ maxLen := by
  rcases h.2 with ⟨_, rfl, rfl⟩ | ⟨g, cur, _, _, h1, h2, _⟩
  · exact ⟨Nat.le_refl _, Nat.zero_le _⟩
  · exact ⟨h1, h2⟩
theorem Own.cell {w : World} {e : TypeId} {sz : Nat} {o : Option Addr} {l c : Nat} {xs : List Value} (h : Own w e sz o l c xs) {i : Nat} {v : Value} (hv : xs[i]? = some v) :
    ∃ g, o = some ⟨g, 0, none⟩ ∧ w.cell? ⟨g, i, none⟩ = some v := by
  rcases h.2 with ⟨_, rfl, _⟩ | ⟨g, cur, ho, hb, _, _, hs, ht⟩
  · have := h.1; simp at this; subst this; simp at hv
  · refine ⟨g, ho, ?_⟩
    rw [hb.cell]
    rw [← ht, List.getElem?_take] at hv
    split at hv
    · simpa using hv
    · cases hv

theorem Own.bytes {w : World} {e : TypeId} {o : Option Addr} {l c : Nat} {bs : List UInt8} (h : Own w e 1 o l c (bs.map bV)) : RdB w o bs := by
  intro hne
  have hl : 0 < bs.length := by cases bs <;> simp_all
  obtain ⟨g, rfl, _⟩ := h.cell (i := 0) (v := bV (bs.getD 0 0)) (by rw [List.getElem?_map]; simp [List.getD_eq_getElem?_getD, hl])
  refine ⟨g, 0, rfl, ?_, fun i hi => ?_⟩
  · exact h.lt ⟨_, rfl, rfl⟩
  · obtain ⟨g', hg, hc⟩ := h.cell (i := i) (v := bV (bs.getD i 0)) (by rw [List.getElem?_map]; simp [List.getD_eq_getElem?_getD, hi])
    cases hg
    rw [Nat.zero_add]; exact hc

theorem src_bytes {P : Program} {w : World} {tx e' : TypeId} (hk : P.underlying tx = some (.slice e')) {o : Option Addr} {c : Nat} {bs : List UInt8} (h : RdB w o bs) :
    Src P 1 tx (.slice o bs.length c) bs.length (bs.map bV) w := by
  by_cases hb : bs = []
  · subst hb
    cases o with
    | none => exact Src.ofNil w hk c
    | some a => exact Src.ofSlice w hk a 0 c [] (by simp) (by simp) (by simp)
  · obtain ⟨b, f, rfl, hl, hc⟩ := h hb
    refine Src.ofSlice w hk _ _ c _ (by simp) (fun j u hu => ?_) (by simp; intro a _; rfl)
    rw [add_at]
    rw [List.getElem?_map, Option.map_eq_some_iff] at hu
    obtain ⟨x, hx, rfl⟩ := hu
    obtain ⟨hj, rfl⟩ := List.getElem?_eq_some_iff.1 hx
    rw [hc j hj]
    simp [List.getD_eq_getElem?_getD, hj]
/-- One element in a row of its own, as a literal 'append(s, x)' makes it. -/
theorem src_one {P : Program} {w : World} {tx e' : TypeId} (hk : P.underlying tx = some (.slice e')) {b : Nat} {t : TypeId} {cs : Array Value} {sz : Nat} (h : Blk w b t cs) (hs : cs.size = sz) (h1 : ∀ v ∈ cs.toList, v.oneCell' = true) :
    Src P sz tx (.slice (some ⟨b, 0, none⟩) 1 1) 1 cs.toList w :=
  Src.ofSlice w hk _ 1 1 _ (by simp [hs]) (fun j u hu => by rw [add_at, h.cell, Nat.zero_add]; simpa using hu) h1

theorem mod_setCells (w : World) (g : Nat) : ∀ (vs : List Value) (o : Nat), Mod (· = g) w (w.setCells g o vs)
  | [], _ => Mod.refl w
  | v :: vs, o => by
    have h1 := Mod.setCell w ⟨g, o, none⟩ v
    suffices ∀ w1 : World, Mod (· = g) w w1 → ∀ (vs : List Value) (o : Nat), Mod (· = g) w (w1.setCells g o vs) from this _ h1 vs (o + 1)
    intro w1 h1 vs
    induction vs generalizing w1 with
    | nil => intro _; exact h1
    | cons v vs ih => exact fun o => ih _ (h1.trans (Mod.setCell _ _ _) (fun _ _ h => h)) _
theorem blk_setCells {g : Nat} {t : TypeId} : ∀ (vs : List Value) (o : Nat) {cs : Array Value} {w : World}, Blk w g t cs → Blk (w.setCells g o vs) g t (setsAt cs o vs)
  | [], _, _, _, h => h
  | v :: vs, o, cs, w, h => by
    rw [World.setCells, setsAt]
    exact blk_setCells vs (o + 1) (h.set o v)
theorem size_setsAt : ∀ (vs : List Value) (o : Nat) (cs : Array Value), (setsAt cs o vs).size = cs.size
  | [], _, _ => rfl
  | v :: vs, o, cs => by rw [setsAt, size_setsAt vs]; simp
theorem get_setsAt : ∀ (vs : List Value) (o : Nat) (cs : Array Value) (i : Nat), o + vs.length ≤ cs.size → (setsAt cs o vs)[i]? = if o ≤ i ∧ i < o + vs.length then vs[i - o]? else cs[i]?
  | [], o, cs, i, h => by rw [setsAt, if_neg (by simp)]
  | v :: vs, o, cs, i, h => by
    rw [List.length_cons] at h
    rw [setsAt, get_setsAt vs (o + 1) _ i (by simp; omega), Array.getElem?_setIfInBounds]
    by_cases h1 : i = o
    · subst h1
      rw [if_neg (by omega), if_pos rfl, if_pos (by omega), if_pos (by simp)]
      simp
    · by_cases h2 : o + 1 ≤ i ∧ i < o + 1 + vs.length
      · rw [if_pos h2, if_pos (by simp; omega), show i - o = (i - (o + 1)) + 1 by omega]
        simp
      · rw [if_neg h2, if_neg (by omega), if_neg (by simp; omega)]

theorem append_own {P : Program} {w : World} {t tx ty e : TypeId} {i : TypeInfo} {z : Value} {sz : Nat} {o : Option Addr} {l c : Nat} {xs : List Value} {x : Value} {n : Nat} {news : List Value}
    (ht : P.underlying t = some (.slice e)) (hi : P.info? e = some i) (hz : i.zero = some z) (hs : i.size = sz) (hzs : z.cells.size = sz)
    (h : Own w e sz o l c xs) (src : Src P sz tx x n news w) (h63 : l + n ≤ maxLen) (hb : (l + n) * i.bytes ≤ 140737488355328) :
    ∃ o' c' w', Sem.run P (builtinV .append #[t, tx] ty #[.slice o l c, x]) w = .ok (.slice o' (l + n) c') w' ∧ Own w' e sz o' (l + n) c' (xs ++ news) ∧ Mod (OB o) w w' ∧
      (∀ k, OB o' k → OB o k ∨ w.heap.size ≤ k) := by
  have hlen : (xs ++ news).length = (l + n) * sz := by rw [List.length_append, h.1, src.newsLen, Nat.add_mul]
  by_cases hroom : l + n ≤ c
  · rcases h.2 with ⟨rfl, rfl, rfl⟩ | ⟨g, cur, rfl, hB, hlc, hcm, hcs, htk⟩
    · obtain rfl : n = 0 := by omega
      have hn : news = [] := List.eq_nil_of_length_eq_zero (by simpa using src.newsLen)
      have hx : xs = [] := List.eq_nil_of_length_eq_zero (by simpa using h.1)
      subst hn hx
      refine ⟨none, 0, w, ?_, Own.nil _ _ _, Mod.refl w, fun k hk => .inl hk⟩
      have hc := src.cells
      subst hs
      rcases src.kind with ⟨e', hk⟩ | hk <;> simp [builtinV, Builtin.append_, run_underlying ht, run_underlying hk, sizeOf, typeInfo, hi, src.len, hc]
    · subst hs
      have hfit : l * i.size + news.length ≤ cur.size := by rw [src.newsLen, hcs, ← Nat.add_mul]; exact Nat.mul_le_mul_right _ hroom
      have hr := run_append_room_src (P := P) w t tx ty e i ht hi g 0 l c x n news src hroom
        (fun j hj => by rw [Nat.zero_add, hB.cell]; simp; omega) (fun j hj => by simp [World.frozen?, show w.heap[g]? = _ from hB])
      rw [Nat.zero_add] at hr
      refine ⟨_, _, _, hr, ⟨hlen, .inr ⟨g, _, rfl, blk_setCells news _ hB, hroom, hcm, by rw [size_setsAt, hcs], ?_⟩⟩, (mod_setCells w g news _).mono (fun k _ hk => ⟨_, rfl, hk.symm⟩), fun k hk => .inl hk⟩
      apply List.ext_getElem?
      intro j
      rw [List.getElem?_take]
      have hxl : xs.length = l * i.size := h.1
      by_cases hj : j < (l + n) * i.size
      · rw [if_pos hj, Array.getElem?_toList, get_setsAt _ _ _ _ hfit]
        by_cases hj2 : j < l * i.size
        · rw [if_neg (by omega), List.getElem?_append_left (by omega), ← htk, List.getElem?_take, if_pos hj2, Array.getElem?_toList]
        · rw [if_pos (by rw [src.newsLen, ← Nat.add_mul]; omega), List.getElem?_append_right (by omega), hxl]
      · rw [if_neg hj, List.getElem?_eq_none (by omega)]
  · have hold : (Builtin.firstCells i.size l (.slice o l c)).run P w.drew = .ok xs.toArray w.drew := by
      subst hs
      rcases h.2 with ⟨rfl, rfl, rfl⟩ | ⟨g, cur, rfl, hB, hlc, hcm, hcs, htk⟩
      · have hx : xs = [] := List.eq_nil_of_length_eq_zero (by simpa using h.1)
        subst hx
        exact run_firstCells_none w.drew i.size 0 0 0
      · exact run_firstCells_some w.drew i.size l _ l c xs h.1 (fun j v hv => by
          rw [add_at, Nat.zero_add]
          obtain ⟨g', hg', hc'⟩ := h.cell hv
          cases hg'
          exact hc')
    have hr := run_append_grow_src (P := P) w t tx ty e i z ht hi hz o l c xs hold x n news (hs ▸ src) (by omega) (by simp only [maxLen] at h63; omega) (growslice_fits (by omega) hb)
    have hge := grownCap_ge w (l + n) c e
    have hcm : grownCap w (l + n) c e ≤ maxLen := grownCap_le_maxLen w (l + n) c e h63
    refine ⟨_, _, _, hr, ⟨hlen, .inr ⟨_, _, rfl, Blk.new w.drew e _, hge, hcm, ?_, ?_⟩⟩, ((Mod.drew w).step_alloc _), fun k hk => .inr ?_⟩
    · rw [Array.size_append, List.size_toArray, hlen, size_zeroCells, hzs, ← Nat.add_mul]
      congr 1; omega
    · rw [Array.toList_append]
      show List.take _ ((xs ++ news) ++ _) = _
      rw [← hlen]
      exact List.take_left
    · obtain ⟨d, hd, rfl⟩ := hk
      cases hd
      exact Nat.le_refl _

/-- Bytes are copied into a block of our own. -/
theorem copy_blk {P : Program} {w : World} {t tx ty e : TypeId} {g o dLen dCap c n : Nat} {cur : Array Value} {te : TypeId} {o2 : Option Addr} {bs : List UInt8}
    (ht : P.underlying t = some (.slice e)) (hi : (P.info? e).map (·.size) = some 1) (h : Blk w g te cur) (hr : RdB w o2 bs) (hn : n = Nat.min bs.length dLen) (hfit : o + n ≤ cur.size) :
    ∃ w', Sem.run P (builtinV .copy #[t, tx] ty #[.slice (some ⟨g, o, none⟩) dLen dCap, .slice o2 bs.length c]) w = .ok (.int .i64 (n : Int)) w' ∧ Blk w' g te (setsAt cur o ((bs.take n).map bV)) ∧ Mod (· = g) w w' := by
  obtain ⟨i, hi1, hi2⟩ := Option.map_eq_some_iff.1 hi
  have hlen : ((bs.take n).map bV).length = n := by
    rw [List.length_map, List.length_take]
    have : n ≤ bs.length := by rw [hn]; exact Nat.min_le_left _ _
    omega
  have hone : ∀ v ∈ (bs.take n).map bV, v.oneCell' = true := by
    intro v hv; obtain ⟨x, _, rfl⟩ := List.mem_map.1 hv; rfl
  have hcells : (Builtin.firstCells 1 n (.slice o2 bs.length c)).run P w = .ok ((bs.take n).map bV).toArray w := by
    have h1 := hr.take n
    by_cases hb : bs.take n = []
    · have h0 : n = 0 := by rw [← hlen, hb]; rfl
      rw [hb, h0]
      cases o2 with
      | none => exact run_firstCells_none w 1 0 _ _
      | some a => exact run_firstCells_some w 1 0 a _ _ [] (by simp) (by simp)
    · obtain ⟨b, f, rfl, hl, hc⟩ := h1 hb
      refine run_firstCells_some w 1 n _ _ _ _ (by rw [hlen]; omega) (fun j u hu => ?_)
      rw [add_at]
      rw [List.getElem?_map, Option.map_eq_some_iff] at hu
      obtain ⟨x, hx, rfl⟩ := hu
      obtain ⟨hj, rfl⟩ := List.getElem?_eq_some_iff.1 hx
      rw [hc j hj]
      simp only [List.getD_eq_getElem?_getD, hx, Option.getD_some]
  have hst := run_storeCells_cells (P := P) g o ((bs.take n).map bV) 0 w
    (fun j hj => by rw [h.cell]; simp; omega) (fun j hj => by simp [World.frozen?, show w.heap[g]? = _ from h]) hone
  simp only [Nat.add_zero] at hst
  refine ⟨w.setCells g o ((bs.take n).map bV), ?_, blk_setCells _ _ h, mod_setCells _ _ _ _⟩
  have hm : (Builtin.firstCells 1 (Nat.min bs.length dLen) (.slice o2 bs.length c)).run P w = .ok ((bs.take n).map bV).toArray w := hn ▸ hcells
  clear hcells hone hr
  subst hn
  generalize (bs.take (Nat.min bs.length dLen)).map bV = L at *
  simp only [Builtin.copy_, builtinV]
  simp [run_underlying ht, Builtin.lenOf, sizeOf, typeInfo, hi1, hi2, hm, hst, goInt]

theorem IsSet.at' {w w' : World} {b i : Nat} {v : Value} (h : IsSet w ⟨b, i, none⟩ v w') : w' = w.setCell ⟨b, i, none⟩ v := h
theorem subO_one {o : Option Addr} {c lo : Nat} : subO o c lo 1 = (if c = lo then o else o.map (·.add lo)) := by rw [subO, Nat.mul_one]
/-- copy(s, s[lo:]) in a slice of our own; then s[:n]. -/
theorem copy_down {P : Program} {w : World} {t tx ty e : TypeId} {o : Option Addr} {l c lo : Nat} {bs : List UInt8}
    (ht : P.underlying t = some (.slice e)) (hi : (P.info? e).map (·.size) = some 1) (h : Own w e 1 o l c (bs.map bV)) (hlo : lo ≤ l) :
    ∃ w', Sem.run P (builtinV .copy #[t, tx] ty #[.slice o l c, .slice (subO o c lo 1) (l - lo) (c - lo)]) w = .ok (.int .i64 ((l - lo : Nat) : Int)) w' ∧ Own w' e 1 o (l - lo) c ((bs.drop lo).map bV) ∧ Mod (OB o) w w' := by
  have hl : bs.length = l := by have := h.len; simpa using this
  have hr := h.bytes
  have hr' : RdB w (subO o c lo 1) (bs.drop lo) := by
    have := hr.sub (c := c) (lo := lo) (n := bs.length) (by rw [hl]; exact h.cap.1)
    rwa [List.take_of_length_le (by simp)] at this
  rcases h.2 with ⟨rfl, rfl, rfl⟩ | ⟨g, cur, rfl, hB, hlc, hcm, hcs, htk⟩
  · obtain rfl : lo = 0 := by omega
    have : bs = [] := List.eq_nil_of_length_eq_zero hl
    subst this
    refine ⟨w, ?_, Own.nil _ _ _, Mod.refl w⟩
    obtain ⟨i, hi1, hi2⟩ := Option.map_eq_some_iff.1 hi
    simp [builtinV, Builtin.copy_, run_underlying ht, Builtin.lenOf, sizeOf, typeInfo, hi1, Builtin.firstCells, subO, goInt]
  · obtain ⟨w', h1, h2, h3⟩ := copy_blk (P := P) (ty := ty) (tx := tx) (dLen := l) (dCap := c) (n := l - lo) (o := 0) (c := c - lo) ht hi hB hr' (by rw [List.length_drop, hl]; exact (Nat.min_eq_left (by omega)).symm) (by omega)
    rw [List.length_drop, hl] at h1
    have hdl : (bs.drop lo).length = l - lo := by rw [List.length_drop, hl]
    rw [List.take_of_length_le (by omega)] at h2
    have hml : ((bs.drop lo).map bV).length = l - lo := by rw [List.length_map, hdl]
    refine ⟨w', h1, ⟨by rw [hml, Nat.mul_one], .inr ⟨g, _, rfl, h2, by omega, hcm, by rw [size_setsAt, hcs], ?_⟩⟩, h3.mono (fun k _ hk => ⟨_, rfl, hk.symm⟩)⟩
    apply List.ext_getElem?
    intro j
    rw [List.getElem?_take, Nat.mul_one]
    by_cases hj : j < l - lo
    · rw [if_pos hj, Array.getElem?_toList, get_setsAt _ _ _ _ (by omega), if_pos (by omega), Nat.sub_zero]
    · rw [if_neg hj, List.getElem?_eq_none (by omega)]

theorem setsAt_arrOf (n o : Nat) (f g : Nat → Value) (m : Nat) (vs : List Value) (hm : vs.length = m) (hg : ∀ i, i < m → vs[i]? = some (g i)) (h : o + m ≤ n) :
    setsAt (arrOf n f) o vs = arrOf n (fun i => if o ≤ i ∧ i < o + m then g (i - o) else f i) := by
  subst hm
  refine eq_arrOf (by rw [size_setsAt, size_arrOf]) (fun i hi => ?_)
  rw [get_setsAt _ _ _ _ (by simpa using h)]
  by_cases h1 : o ≤ i ∧ i < o + vs.length
  · rw [if_pos h1, if_pos h1, hg _ (by omega)]
  · rw [if_neg h1, if_neg h1, get_arrOf_lt hi]
theorem map_bV_get {bs : List UInt8} {i : Nat} (h : i < bs.length) : (bs.map bV)[i]? = some (bV (bs.getD i 0)) := by
  rw [List.getElem?_map, List.getElem?_eq_getElem h]
  simp [List.getD_eq_getElem?_getD, h]

/-- A slice of slices of bytes. -/
def RdBB (w : World) (o : Option Addr) (ls : List (List UInt8)) : Prop :=
  ∀ i, i < ls.length → ∃ b f oi ci, o = some ⟨b, f, none⟩ ∧ b < w.heap.size ∧ w.cell? ⟨b, f + i, none⟩ = some (.slice oi (ls.getD i []).length ci) ∧ RdB w oi (ls.getD i [])
theorem RdBB.mod' {w w' : World} {o : Option Addr} {ls : List (List UInt8)} (h : RdBB w o ls) (m : Mod NoB w w') : RdBB w' o ls := by
  intro i hi
  obtain ⟨b, f, oi, ci, rfl, hl, hc, hr⟩ := h i hi
  exact ⟨b, f, oi, ci, rfl, Nat.lt_of_lt_of_le hl m.size, (World.cell?_of_block (m.block b hl (fun h => h))).trans hc, hr.mod' m⟩
theorem RdBB.one {w : World} {b : Nat} {t : TypeId} {o : Option Addr} {c : Nat} {bs : List UInt8} (h : Blk w b t #[.slice o bs.length c]) (hr : RdB w o bs) : RdBB w (some ⟨b, 0, none⟩) [bs] := by
  intro i hi
  obtain rfl : i = 0 := by simpa using hi
  exact ⟨b, 0, o, c, rfl, h.lt, by rw [h.cell]; rfl, hr⟩
theorem flatten_take_succ (ls : List (List UInt8)) (i : Nat) (h : i < ls.length) : (ls.take (i + 1)).flatten = (ls.take i).flatten ++ ls.getD i [] := by
  rw [List.take_add_one, List.flatten_append, List.getElem?_eq_getElem h]
  simp [List.getD_eq_getElem?_getD, h]

end Go.Vcg
