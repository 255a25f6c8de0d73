/- append(s, make([]byte, n)...): a slice grows by zeros. -/
import Derived.Test.YtkekehngillblaaXMap
namespace Go.Vcg
theorem run_append_zeros {P : Program} {w : World} {t tx ty e : TypeId} {k : IntKind} {i : TypeInfo} {z : Value} (ht : P.underlying t = some (.slice e)) (hx : P.underlying tx = some (.int k)) (hi : P.info? e = some i) (hz : i.zero = some z)
    (hs : i.size = 1) (hib : i.bytes = 1) {base : Option Addr} {sLen sCap n : Nat} {olds : List Value}
    (hold : (Builtin.firstCells 1 sLen (.slice base sLen sCap)).run P w.drew = .ok olds.toArray w.drew) (hg : sCap < sLen + n) (hn : 0 < n) (hb : sLen + n ≤ 70368744177664) :
    (builtinV .append #[t, tx] ty #[.slice base sLen sCap, .int .i64 (n : Int)]).run P w =
      .ok (.slice (some ⟨w.heap.size, 0, none⟩) (sLen + n) (grownCap w (sLen + n) sCap e))
        (w.drew.alloc (.cells (olds.toArray ++ Builtin.zeroCells z.cells n ++ Builtin.zeroCells z.cells (grownCap w (sLen + n) sCap e - (sLen + n))) e)) := by
  have h1 : ¬ (sLen + n ≤ sCap) := by omega
  have hw : IntKind.wrap .i64 ((n : Int)) = (n : Int) := wrap_i64_small (by omega) (by omega)
  have h0 : ¬ ((n : Int) < 0) := by omega
  have h2 : ¬ ((281474976710656 : Int) < (n : Int)) := by omega
  have h63' : ¬ (9223372036854775807 < ((sLen : Int) + (n : Int))) := by omega
  have hfit : Builtin.nextslicecap (sLen + n) sCap * i.bytes ≤ 281474976710656 := growslice_fits (by omega) (by rw [hib]; omega)
  rw [hib, Nat.mul_one] at hfit
  have h48' : ¬ (281474976710656 < Builtin.nextslicecap (sLen + n) sCap) := by omega
  have hne : ¬ n = 0 := by omega
  simp only [builtinV]
  simp [Builtin.append_, run_underlying ht, run_underlying hx, sizeOf, typeInfo, zeroValue, hi, hz, hs, hib, asInt, asIntOf, hw, h0, h2, h1, h63', h48', Question.forced, hold, newRow, grownCap, hne]
end Go.Vcg
