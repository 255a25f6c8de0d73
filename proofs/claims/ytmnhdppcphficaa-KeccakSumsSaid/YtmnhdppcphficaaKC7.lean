/- Contract: Write. -/
import Derived.Test.YtmnhdppcphficaaKC6
set_option linter.unusedVariables false
set_option linter.unusedSimpArgs false
namespace Go.Proofs.Ytmnhdppcphficaa
open Go Go.Vcg

theorem Write_calls {w : World} {b : Nat} {o o1 : Option Addr} {l1 c1 : Nat} {m bs : List UInt8} (hS : SpongeAt w b o m) (hr : RdB w o1 bs) (hl : l1 = bs.length) (hmax : bs.length ≤ 2 ^ 40) :
    Calls Try.prog keccak_Sponge_Write.n #[.pointer (some ⟨b, 0, none⟩), .slice o1 l1 c1] w
      (fun e w' => e = .returned (.tuple #[]) ∧ ∃ o', SpongeAt w' b o' (m ++ bs) ∧ Vcg.Mod (SpB b o) w w' ∧ ∀ k, OB o' k → OB o k ∨ w.heap.size ≤ k) := by
  subst hl
  obtain ⟨l, c, hB, hO, hn⟩ := hS
  refine keccak_Sponge_Write.vc _ _ _ _ _ _ ?_
  unfold keccak_Sponge_Write.Vc
  simp only [add_at, Nat.zero_add]
  have hrl : (restOf m).length = l := by have := hO.len; simpa using this
  have hlt := restOf_lt m
  obtain ⟨o', c', w1, h1, hO1, M1, hF1⟩ := append_u8 (ty := tSlU8) hO (src_bytes (c := c1) und_slU8 hr) (by omega)
  have hnb : ¬ OB o' b := fun h => (hF1 b h).elim hn (fun h => by have := hB.lt; omega)
  rw [← List.map_append] at hO1
  have hB1 := hB.mod M1 hn
  refine ⟨_, _, _, rest_of_sponge hB, _, w1, h1, _, _, _, rfl, hB1.canSet (by rw [spongeA, size_arrOf]; decide) rfl, ?_⟩
  rintro _ rfl
  have hB2 := set_rest (o' := o') (l' := l + bs.length) (c' := c') hB1
  have hO2 := hO1.mod (Mod.setCell w1 ⟨b, 74, none⟩ (.slice o' (l + bs.length) c')) (fun k hk (hkb : k = b) => hnb (hkb ▸ hk))
  have M2 : Vcg.Mod (SpB b o) w (w1.setCell ⟨b, 74, none⟩ (.slice o' (l + bs.length) c')) := (M1.mono (T := SpB b o) (fun k _ h => .inr h)).step_set (fun _ => .inl rfl)
  generalize w1.setCell ⟨b, 74, none⟩ (.slice o' (l + bs.length) c') = w2 at *
  generalize hall : restOf m ++ bs = all at *
  have hlen : l + bs.length = all.length := by rw [← hall, List.length_append, hrl]
  rw [hlen] at hB2 hO2
  have hmax' : all.length < 2 ^ 41 := by omega
  refine ⟨fun n w' => ∃ k : Nat, n = ((136 * k : Nat) : Int) ∧ 136 * k ≤ all.length ∧ Vcg.Mod (SpB b o) w w' ∧ Blk w' b tSponge (spongeA (eatK (stOf m) all k) o' all.length c') ∧ Own w' tU8 1 o' all.length c' (all.map bV),
    fun n _ => ((all.length : Int) - n).toNat, ⟨0, rfl, by omega, M2, hB2, hO2⟩, ?_⟩
  rintro _ _ w3 ⟨k, rfl, hk, M3, hB3, hO3⟩
  refine ⟨_, _, _, rest_of_sponge hB3, ?_⟩
  have ew : IntKind.wrap .i64 (((all.length : Nat) : Int) - ((136 * k : Nat) : Int)) = ((all.length - 136 * k : Nat) : Int) := by rw [wrap_i64_small (by omega) (by omega)]; omega
  rw [ew]
  refine ⟨fun hge => ?_, fun hlt' => ?_⟩
  · rintro _ rfl
    have e2 : IntKind.wrap .i64 (((136 * k : Nat) : Int) + 136) = ((136 * k + 136 : Nat) : Int) := by rw [wrap_i64_small (by omega) (by omega)]; omega
    rw [e2, Int.toNat_natCast, Int.toNat_natCast]
    have hcap := hO3.cap
    refine ⟨_, lanes_of_sponge hB3.drew, _, _, _, rest_of_sponge hB3.drew, by omega, by omega, ?_⟩
    refine (absorb_calls _ b 0 (plan_of_sponge hB3.drew) ((all.drop (136 * k)).take 136) (by rw [List.length_take, List.length_drop]; omega) (by omega) (by omega) (((hO3.mod' (Mod.drew w3)).bytes).sub (by omega))).mono ?_
    rintro _ w4 ⟨rfl, M4⟩
    obtain ⟨w5, h5, hB5, M5⟩ := store_lanes (s' := absorbB (eatK (stOf m) all k) ((all.drop (136 * k)).take 136)) (hB3.drew.mod' M4)
    refine ⟨_, rfl, w5, h5, ⟨k + 1, by omega, by omega, ((M3.step_drew).none_trans M4).trans M5 (fun i _ hi => .inl hi), hB5, ((hO3.mod' (Mod.drew w3)).mod' M4).mod M5 (fun i hi (hib : i = b) => hnb (hib ▸ hi))⟩, by dsimp only; omega⟩
  · rintro _ rfl
    have hcap := hO3.cap
    have hkq : k = all.length / 136 := by omega
    rw [Int.toNat_natCast]
    obtain ⟨w4, h4, hO4, M4⟩ := copy_down (P := Try.prog) (t := tSlU8) (tx := tSlU8) (ty := 3) (lo := 136 * k) und_slU8 info_u8_size (hO3.mod' (Mod.drew w3)) hk
    have hB4 := hB3.drew.mod M4 hnb
    refine ⟨_, _, _, rest_of_sponge hB3.drew, _, _, _, rest_of_sponge hB3.drew, _, _, _, rest_of_sponge hB3.drew, by omega, _, w4, h4, _, rfl, rest_of_sponge hB4, by omega, hB4.canSet (by rw [spongeA, size_arrOf]; decide) rfl, ?_⟩
    rintro _ rfl
    rw [Int.toNat_natCast]
    have hB5 := set_rest (o' := o') (l' := all.length - 136 * k) (c' := c') hB4
    have M5 := Mod.setCell w4 ⟨b, 74, none⟩ (.slice o' (all.length - 136 * k) c')
    refine ⟨trivial, o', ⟨all.length - 136 * k, c', ?_, ?_, hnb⟩, ?_, hF1⟩
    · rw [stOf_append, hall, ← hkq]; exact hB5
    · rw [restOf_append, hall, ← hkq]; exact hO4.mod M5 (fun i hi (hib : i = b) => hnb (hib ▸ hi))
    · exact (((M3.step_drew).trans M4 (fun i hi h => (hF1 i h).elim (fun h => .inr h) (fun h => by omega)))).step_set (fun _ => .inl rfl)

end Go.Proofs.Ytmnhdppcphficaa
