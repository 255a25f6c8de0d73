/- Bytes as strings; slices that are made. -/
import Derived.Test.YtkekehngillblaaXGrow
import Derived.Laws.BytesString
import Derived.Laws.MakeOwn
namespace Go.Vcg

def strOf (bs : List UInt8) : ByteArray := ⟨bs.toArray⟩
theorem run_toStr {P : Program} {w : World} {src dst e : TypeId} (hs : P.underlying src = some (.slice e)) (he : P.underlying e = some (.int .u8)) (hd : P.underlying dst = some .string) {o : Option Addr} {c : Nat} {bs : List UInt8} (h : RdB w o bs) :
    (convert src dst (.slice o bs.length c)).run P w = .ok (.string (strOf bs)) w := by
  rw [run_convert_bytes_string w src dst e o bs.length c hs he hd]
  cases o with
  | none =>
    have : bs = [] := by
      by_cases hne : bs = []
      · exact hne
      · obtain ⟨b, f, h, _⟩ := h hne; cases h
    subst this
    rfl
  | some a =>
    have hl : (loadCells a bs.length).run P w = .ok ((bs.map fun b => (b.toNat : Int)).map (Value.int .u8)).toArray w := by
      have h1 : (Builtin.firstCells 1 bs.length (.slice (some a) bs.length c)).run P w = .ok (bs.map bV).toArray w := by
        refine run_firstCells_some w 1 bs.length a _ c _ (by simp) (fun j v hv => ?_)
        rw [List.getElem?_map, Option.map_eq_some_iff] at hv
        obtain ⟨x, hx, rfl⟩ := hv
        obtain ⟨hj, rfl⟩ := List.getElem?_eq_some_iff.1 hx
        obtain ⟨b, f, ho, _, hc⟩ := h (by intro e; rw [e] at hj; simp at hj)
        cases ho
        rw [add_at, hc j hj]
        simp [List.getD_eq_getElem?_getD, hj]
      simp only [Builtin.firstCells, Nat.mul_one] at h1
      rw [h1, List.map_map]; rfl
    rw [run_bytesToString w a _ c _ hl]
    have key : ∀ (l : List UInt8) (s : ByteArray), (l.map fun b => (b.toNat : Int)).foldl (fun r n => r.push (UInt8.ofNat n.toNat)) s = ⟨s.data ++ l.toArray⟩ := by
      intro l
      induction l with
      | nil => intro s; simp
      | cons b l ih =>
        intro s
        rw [List.map_cons, List.foldl_cons, ih]
        have e1 : UInt8.ofNat ((b.toNat : Int)).toNat = b := by rw [Int.toNat_natCast, UInt8.ofNat_toNat]
        rw [e1]
        congr 1
        show s.data.push b ++ l.toArray = _
        rw [List.toArray_cons, ← Array.append_assoc]
        rfl
    rw [key]
    show Result.ok (Value.string ⟨#[] ++ bs.toArray⟩) w = _
    rw [Array.empty_append]; rfl
theorem strB_eql (a b : ByteArray) : strB .eql a b = decide (a.data.toList = b.data.toList) := by
  simp only [strB, ByteArray.toList_eq]
  by_cases h : a.data.toList = b.data.toList
  · rw [decide_eq_true h, h]; simp
  · rw [decide_eq_false h]; simpa using h
theorem strB_strOf (a b : List UInt8) : strB .eql (strOf a) (strOf b) = decide (a = b) := by
  rw [strB_eql]; rfl
end Go.Vcg
