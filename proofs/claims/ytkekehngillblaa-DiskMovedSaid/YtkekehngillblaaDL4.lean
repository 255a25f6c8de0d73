/- The walk of DiskMoved: one name behind the other. -/
import Derived.Test.YtkekehngillblaaDQ2
import Derived.Test.YtkekehngillblaaDP12
set_option linter.unusedVariables false
set_option linter.unusedSimpArgs false
namespace Go.Proofs.Ytkekehngillblaa
open Go Go.Vcg Go.Disk

theorem LD.names {w0 w : World} {lab : Nat → LC} {d : Nat} {σ : Dk} {n : Nat} (h : LD w0 w lab d σ n) (hd : σ.down = false) : Calls Try.prog disk_Disk_Names.n #[.pointer (some ⟨d, 0, none⟩)] w (fun e w' => ∃ o k,
    e = .returned (.tuple #[.slice o (namesOf σ).length k, .int .i64 0]) ∧ RdT w' o (namesOf σ) ∧ ∃ lab', LD w0 w' lab' d σ n) :=
  (Names_calls h.D h.ok).mono fun e w' ⟨o, k, M, hx⟩ => by
    rw [if_neg (by rw [hd]; simp)] at hx
    exact ⟨o, k, hx.1, hx.2, _, h.step (Stp.of_nob M LC.tmp)⟩
abbrev abc : Nm := ⟨#[97, 98, 99, 100, 101, 102, 103, 104, 105, 106, 107, 108, 109, 110, 111, 112, 113, 114, 115, 116, 117, 118, 119, 120, 121, 122]⟩
theorem abc_chr' : ∀ i : Fin 26, (ByteArray.extract abc i.val (i.val + 1)).data.toList = (chr i.val).data.toList := by decide +kernel
theorem abc_chr {i a b : Nat} (h : i < 26) (ha : a = i) (hb : b = i + 1) : ByteArray.extract abc a b = chr i := by
  subst ha hb
  have := abc_chr' ⟨a, h⟩
  have h2 : (ByteArray.extract abc a (a + 1)).data = (chr a).data := Array.toList_inj.1 this
  cases h1 : ByteArray.extract abc a (a + 1)
  rw [h1] at h2
  simp only at h2
  rw [h2]
theorem mini (a b : Int) : ((max 0 (min a b) : Int)).toNat = (max 0 (min a b)).toNat := rfl

theorem Moved_calls (w : World) (k n : Int) (hn : -9223372036854775808 ≤ n ∧ n < 9223372036854775808) :
    Calls Try.prog morainelaw1_DiskMoved.n #[.int .i64 k, .int .i64 n] w (fun e w' => e = .returned (.bool true) ∧ Vcg.Mod NoB w w') := by
  refine calls_gen fun R hR => morainelaw1_DiskMoved.vc _ _ _ _ ?_
  unfold morainelaw1_DiskMoved.Vc
  refine (known_calls w).mono ?_
  rintro _ w1 ⟨rfl, M1⟩
  refine ⟨_, rfl, fun h => (by cases h), fun _ => ⟨fun _ => hR _ _ ⟨rfl, M1⟩, fun hk1 => ⟨fun _ => hR _ _ ⟨rfl, M1⟩, fun hk20 => ?_⟩⟩⟩
  obtain ⟨K, rfl⟩ : ∃ K : Nat, k = ((K + 1 : Nat) : Int) := ⟨(k - 1).toNat, by omega⟩
  have hK : K < 20 := by omega
  refine (LD.new w w1 M1 100 (by omega)).mono ?_
  rintro _ w2 ⟨d, lab2, rfl, h2⟩
  refine ⟨_, _, rfl, ?_⟩
  obtain ⟨e1, e2, hT⟩ := Moved.start
  refine (h2.create (by omega) (chr 0)).mono ?_
  rintro _ w3 ⟨rfl, lab3, h3⟩
  refine ⟨_, rfl, fun h => (h e1).elim, fun _ => ?_⟩
  refine (h3.syncDir (by omega)).mono ?_
  rintro _ w4 ⟨rfl, lab4, h4⟩
  refine ⟨_, rfl, fun h => (h e2).elim, fun _ => ?_⟩
  refine ⟨fun i w' => ∃ (j : Nat) (lab' : Nat → LC) (σ : Dk), i = ((j + 1 : Nat) : Int) ∧ j ≤ K ∧ LD w w' lab' d σ (2 + j) ∧ Moved j σ, fun i _ => (((K + 1 : Nat) : Int) - i).toNat,
    ⟨0, lab4, _, rfl, Nat.zero_le _, h4, hT⟩, ?_⟩
  clear hT h4 h3 h2
  rintro _ _ w5 ⟨j, lab5, σ, rfl, hj, h5, hT⟩
  have ew1 : IntKind.wrap .i64 (((j + 1 : Nat) : Int) - 1) = (j : Int) := by rw [wrap_i64_small (by omega) (by omega)]; omega
  have ew2 : IntKind.wrap .i64 (((j + 1 : Nat) : Int) + 1) = ((j + 1 + 1 : Nat) : Int) := by rw [wrap_i64_small (by omega) (by omega)]; omega
  have hsz : (((ByteArray.size abc) : Nat) : Int) = 26 := rfl
  refine ⟨fun hlt => ?_, fun hge => ?_⟩
  · rintro w6 rfl
    have h6 : LD w w5.drew lab5 d σ (2 + j) := h5.step (Stp.drew NoC w5 lab5)
    rw [ew1, ew2, hsz]
    refine ⟨by omega, by omega, by omega, by omega, ?_⟩
    rw [abc_chr (i := j) (by omega) (by omega) (by omega), abc_chr (i := j + 1) (by omega) (by omega) (by omega)]
    obtain ⟨er, hT'⟩ := hT.step (by omega)
    refine (h6.rename (by omega) (chr j) (chr (j + 1))).mono ?_
    rintro _ w7 ⟨rfl, lab7, h7⟩
    refine ⟨_, rfl, fun h => (h er).elim, fun _ => ⟨⟨j + 1, lab7, _, rfl, by omega, h7, hT'⟩, by dsimp only; omega⟩⟩
  · obtain rfl : j = K := by omega
    obtain ⟨en, ed⟩ := hT.end (by omega) n
    refine (h5.restart (by omega) n (o := none) (c := 0) (is := []) (cb := LC.tmp) (fun i hi => by simp at hi) tmp_sd (by simp) (by simp)).mono ?_
    rintro _ w7 ⟨rfl, lab7, h7⟩
    refine ⟨rfl, ?_⟩
    refine (h7.names ed).mono ?_
    rintro _ w8 ⟨o, c, rfl, hr, lab8, h8⟩
    refine ⟨_, _, _, _, rfl, ?_⟩
    rintro w9 rfl
    have h9 : LD w w8.drew lab8 d _ (2 + j) := h8.step (Stp.drew NoC w8 lab8)
    have hr9 := hr.mod (Mod.drew (S := NoB) w8)
    have enm : namesOf (Disk.restart σ n []) = [(chr (max 0 (min n (j : Int))).toNat).data.toList] := by
      unfold namesOf
      rw [en]; exact List.mergeSort_singleton _
    generalize Disk.restart σ n [] = τ at *
    rw [enm] at hr9
    rw [enm]
    obtain ⟨b, f, rfl, hb, hc⟩ := hr9 0 (by simp)
    refine ⟨fun _ => ⟨fun _ => ⟨_, rfl, by simp, _, by rw [add_at]; exact hc, ?_⟩, fun h => (h rfl).elim⟩, fun h => (h rfl).elim⟩
    have ew3 : IntKind.wrap .i64 (((j + 1 : Nat) : Int) - 1) = (j : Int) := ew1
    rw [ew3]
    generalize hu : max 0 (min n (j : Int)) = u
    have hu1 : 0 ≤ u ∧ u ≤ j := by omega
    have ew4 : IntKind.wrap .i64 (u + 1) = u + 1 := wrap_i64_small (by omega) (by omega)
    rw [ew4, hsz]
    refine ⟨by omega, by omega, hR _ _ ⟨?_, h9.nob⟩⟩
    rw [abc_chr (i := u.toNat) (by omega) rfl (by omega), strB_eql]
    simp
end Go.Proofs.Ytkekehngillblaa
