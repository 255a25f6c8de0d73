/- Contracts: the sponge. -/
import Derived.Test.YtmnhdppcphficaaKT
set_option linter.unusedVariables false
set_option linter.unusedSimpArgs false
namespace Go.Proofs.Ytmnhdppcphficaa
open Go Go.Vcg

theorem append_u8 {w : World} {o : Option Addr} {l c : Nat} {xs : List Value} {x : Value} {tx ty : TypeId} {n : Nat} {news : List Value} (h : Own w tU8 1 o l c xs) (src : Src Try.prog 1 tx x n news w) (hb : l + n ≤ 140737488355328) :
    ∃ o' c' w', Sem.run Try.prog (builtinV .append #[tSlU8, tx] ty #[.slice o l c, x]) w = .ok (.slice o' (l + n) c') w' ∧ Own w' tU8 1 o' (l + n) c' (xs ++ news) ∧ Vcg.Mod (OB o) w w' ∧ (∀ k, OB o' k → OB o k ∨ w.heap.size ≤ k) := by
  obtain ⟨i, hi, h1⟩ := Option.map_eq_some_iff.1 info_u8
  simp only [Prod.mk.injEq] at h1
  exact append_own und_slU8 hi h1.1 h1.2.1 rfl h src (by simp only [maxLen]; omega) (by rw [h1.2.2]; omega)

def spongeF (s : St) (o : Option Addr) (l c : Nat) (i : Nat) : Value :=
  if i < 24 then uV (rcOf i) else if i < 49 then .int .i64 (turnOf (i - 24) : Int) else if i < 74 then uV (s (i - 49)) else .slice o l c
def spongeA (s : St) (o : Option Addr) (l c : Nat) : Array Value := arrOf 75 (spongeF s o l c)

/-- A sponge at block b, with its rest at o: the bytes m were written. -/
def SpongeAt (w : World) (b : Nat) (o : Option Addr) (m : List UInt8) : Prop :=
  ∃ l c, Blk w b tSponge (spongeA (stOf m) o l c) ∧ Own w tU8 1 o l c ((restOf m).map bV) ∧ ¬ OB o b
/-- Its blocks. -/
def SpB (b : Nat) (o : Option Addr) : Nat → Prop := fun k => k = b ∨ OB o k

theorem SpongeAt.mod {S : Nat → Prop} {w w' : World} {b : Nat} {o : Option Addr} {m : List UInt8} (h : SpongeAt w b o m) (M : Vcg.Mod S w w') (hs : ∀ k, SpB b o k → ¬ S k) : SpongeAt w' b o m := by
  obtain ⟨l, c, hB, hO, hn⟩ := h
  exact ⟨l, c, hB.mod M (hs b (.inl rfl)), hO.mod M (fun k hk => hs k (.inr hk)), hn⟩
theorem SpongeAt.lt {w : World} {b : Nat} {o : Option Addr} {m : List UInt8} (h : SpongeAt w b o m) {k : Nat} (hk : SpB b o k) : k < w.heap.size := by
  obtain ⟨l, c, hB, hO, hn⟩ := h
  rcases hk with rfl | hk
  · exact hB.lt
  · exact hO.lt hk

theorem plan_of_sponge {w : World} {b : Nat} {s : St} {o : Option Addr} {l c : Nat} (h : Blk w b tSponge (spongeA s o l c)) : PlanAt w b 0 :=
  PlanAt.of_blk h (fun i hi => by
    rw [Nat.zero_add, spongeA, planA, get_arrOf_lt (by omega), get_arrOf_lt hi, spongeF]
    by_cases h1 : i < 24
    · rw [if_pos h1, if_pos h1]
    · rw [if_neg h1, if_neg h1, if_pos hi])
theorem lanes_of_sponge {w : World} {b : Nat} {s : St} {o : Option Addr} {l c : Nat} (h : Blk w b tSponge (spongeA s o l c)) : RowAt w ⟨b, 49, none⟩ 25 (lanesA s) :=
  h.rowAt (size_lanesA s) (fun i hi => by
    rw [spongeA, get_arrOf_lt (by omega), get_lanesA s hi, spongeF, if_neg (by omega), if_neg (by omega), if_pos (by omega), Nat.add_sub_cancel_left])
theorem rest_of_sponge {w : World} {b : Nat} {s : St} {o : Option Addr} {l c : Nat} (h : Blk w b tSponge (spongeA s o l c)) : w.cell? ⟨b, 74, none⟩ = some (.slice o l c) :=
  h.rd1 (by rw [spongeA, get_arrOf_lt (by omega)]; rfl)
theorem set_rest {w : World} {b : Nat} {s : St} {o o' : Option Addr} {l c l' c' : Nat} (h : Blk w b tSponge (spongeA s o l c)) : Blk (w.setCell ⟨b, 74, none⟩ (.slice o' l' c')) b tSponge (spongeA s o' l' c') := by
  have := h.set 74 (.slice o' l' c')
  rw [spongeA, set_arrOf] at this
  refine (show _ = spongeA s o' l' c' from arrOf_congr (fun j hj => ?_)) ▸ this
  unfold spongeF
  by_cases h0 : j = 74
  · subst h0; rfl
  · rw [if_neg h0]
    by_cases h1 : j < 24
    · rw [if_pos h1, if_pos h1]
    · rw [if_neg h1, if_neg h1]
      by_cases h2 : j < 49
      · rw [if_pos h2, if_pos h2]
      · rw [if_neg h2, if_neg h2, if_pos (by omega), if_pos (by omega)]

theorem store_lanes {w : World} {b : Nat} {s s' : St} {o : Option Addr} {l c : Nat} (h : Blk w b tSponge (spongeA s o l c)) :
    ∃ w', Sem.run Try.prog (Instr.storeAt tState (.pointer (some ⟨b, 49, none⟩)) (.agg (lanesA s'))) w = .ok () w' ∧ Blk w' b tSponge (spongeA s' o l c) ∧ Vcg.Mod (· = b) w w' := by
  have hi : (Try.prog.info? tState).map (·.size) = some 25 := by kernel_rfl
  obtain ⟨i, hi1, hi2⟩ := Option.map_eq_some_iff.1 hi
  have hs := h.storeAt (L := lanesA s') (o := 49) hi1 (by rw [size_lanesA]; exact hi2) (by rw [size_lanesA, spongeA, size_arrOf]; decide) (lanesA_one _)
  have e2 : arrOf 75 (fun i => if i < 49 then spongeF s o l c i else if i < 49 + 25 then uV (s' (i - 49)) else spongeF s o l c i) = spongeA s' o l c :=
    arrOf_congr (fun i hi => by
      unfold spongeF
      by_cases h1 : i < 24
      · rw [if_pos h1, if_pos (by omega), if_pos h1]
      · rw [if_neg h1, if_neg h1]
        by_cases h2 : i < 49
        · rw [if_pos h2, if_pos h2, if_pos h2]
        · rw [if_neg h2, if_neg h2, if_neg h2]
          by_cases h3 : i < 74
          · rw [if_pos (by omega), if_pos h3]
          · rw [if_neg (by omega), if_neg h3, if_neg h3])
  have hA : (List.take 49 (spongeA s o l c).toList ++ (lanesA s').toList ++ List.drop (49 + (lanesA s').size) (spongeA s o l c).toList).toArray = spongeA s' o l c := by
    rw [size_lanesA, ← e2]
    exact splice_arrOf 75 49 25 (spongeF s o l c) (fun i => uV (s' i)) (by decide)
  rw [hA] at hs
  exact ⟨_, hs, h.row_same _, Mod.setRow w b _⟩

theorem New_calls (w : World) : Calls Try.prog keccak_New.n #[] w (fun e w' => ∃ b, e = .returned (.pointer (some ⟨b, 0, none⟩)) ∧ SpongeAt w' b none [] ∧ Vcg.Mod NoB w w' ∧ w.heap.size ≤ b) := by
  refine keccak_New.vc _ _ ?_
  unfold keccak_New.Vc
  refine (planned_calls _).mono ?_
  rintro _ w1 ⟨rfl, M1⟩
  refine ⟨_, rfl, size_planA, ?_⟩
  rintro d3 w4 ⟨rfl, rfl⟩
  refine ⟨_, rfl, ⟨0, 0, ?_, Own.nil _ _ _, OB_none _⟩, M1.step_alloc _, M1.size⟩
  exact (show _ = spongeA (stOf []) none 0 0 from by kernel_rfl) ▸ Blk.new w1 _ _

end Go.Proofs.Ytmnhdppcphficaa
