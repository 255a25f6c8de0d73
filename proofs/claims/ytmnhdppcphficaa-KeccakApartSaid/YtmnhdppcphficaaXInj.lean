/- Keccak's rounds are one to one. -/
import Derived.Test.YtmnhdppcphficaaXKec
namespace Go.Vcg

theorem rot_bit (x : BitVec 64) (k : Nat) (hk : k < 64) (i : Nat) (hi : i < 64) : (x.rotateLeft k).getLsbD i = x.getLsbD ((i + (64 - k)) % 64) := by
  rw [BitVec.getLsbD_rotateLeft, Nat.mod_eq_of_lt hk]
  by_cases h : i < k
  · simp only [h, decide_true, cond_true]
    congr 1; omega
  · simp only [h, decide_false, cond_false, hi, decide_true, Bool.true_and]
    congr 1; omega
theorem rot_inj {x y : BitVec 64} {k : Nat} (hk : k < 64) (h : x.rotateLeft k = y.rotateLeft k) : x = y := by
  apply BitVec.eq_of_getLsbD_eq
  intro i hi
  have h1 := congrArg (fun z => z.getLsbD ((i + k) % 64)) h
  simp only [rot_bit _ k hk _ (Nat.mod_lt _ (by decide))] at h1
  have e : ((i + k) % 64 + (64 - k)) % 64 = i := by omega
  rwa [e] at h1
def rotN : Nat → BitVec 64 → BitVec 64
  | 0, x => x
  | n + 1, x => rotN n (x.rotateLeft 1)
theorem rot1_xor (x y : BitVec 64) : (x ^^^ y).rotateLeft 1 = x.rotateLeft 1 ^^^ y.rotateLeft 1 := by
  apply BitVec.eq_of_getLsbD_eq
  intro i hi
  rw [BitVec.getLsbD_xor, rot_bit _ 1 (by decide) i hi, rot_bit _ 1 (by decide) i hi, rot_bit _ 1 (by decide) i hi, BitVec.getLsbD_xor]
theorem rotN_xor : ∀ (n : Nat) (x y : BitVec 64), rotN n (x ^^^ y) = rotN n x ^^^ rotN n y
  | 0, _, _ => rfl
  | n + 1, x, y => by rw [rotN, rot1_xor, rotN_xor n]; rfl
theorem rotN_zero : ∀ n : Nat, rotN n 0 = 0
  | 0 => rfl
  | n + 1 => by rw [rotN, show (0 : BitVec 64).rotateLeft 1 = 0 from by decide, rotN_zero n]
theorem rotN_add : ∀ (a b : Nat) (x : BitVec 64), rotN (a + b) x = rotN b (rotN a x)
  | 0, b, x => by rw [Nat.zero_add]; rfl
  | a + 1, b, x => by rw [show a + 1 + b = (a + b) + 1 by omega, rotN, rotN_add a b, rotN]
theorem rotN_bit : ∀ (n : Nat) (x : BitVec 64) (i : Nat), i < 64 → (rotN n x).getLsbD i = x.getLsbD ((i + 63 * n) % 64)
  | 0, x, i, hi => by rw [rotN, Nat.mul_zero, Nat.add_zero, Nat.mod_eq_of_lt hi]
  | n + 1, x, i, hi => by
    rw [rotN, rotN_bit n _ i hi, rot_bit _ 1 (by decide) _ (Nat.mod_lt _ (by decide))]
    congr 1; omega
theorem rotN_64 (x : BitVec 64) : rotN 64 x = x := by
  apply BitVec.eq_of_getLsbD_eq
  intro i hi
  rw [rotN_bit 64 x i hi]
  congr 1; omega

theorem xor_cancel {a b : BitVec 64} (h : a ^^^ b = 0) : a = b := by
  have := congrArg (fun z => z ^^^ b) h
  simpa [BitVec.xor_assoc] using this
theorem dbl {p : Nat → BitVec 64} {a b : Nat} (h : ∀ x, p (x + a) ^^^ p x ^^^ rotN b (p (x + 2 * a)) = 0) :
    ∀ x, p (x + 2 * a) ^^^ p x ^^^ rotN (2 * b) (p (x + 2 * (2 * a))) = 0 := by
  intro x
  have h1 := h x
  have h2 := h (x + a)
  have h3 := congrArg (rotN b) (h (x + 2 * a))
  rw [rotN_zero, rotN_xor, rotN_xor, ← rotN_add] at h3
  rw [show x + a + a = x + 2 * a by omega, show x + a + 2 * a = x + 3 * a by omega] at h2
  rw [show x + 2 * a + a = x + 3 * a by omega, show x + 2 * a + 2 * a = x + 2 * (2 * a) by omega, show b + b = 2 * b by omega] at h3
  generalize p (x + a) = A at *
  generalize p x = B at *
  generalize p (x + 2 * a) = C at *
  generalize p (x + 3 * a) = D at *
  generalize rotN b C = RC at *
  generalize rotN b D = RD at *
  generalize rotN (2 * b) (p (x + 2 * (2 * a))) = E at *
  have e : C ^^^ B ^^^ E = (A ^^^ B ^^^ RC) ^^^ (C ^^^ A ^^^ RD) ^^^ (RD ^^^ RC ^^^ E) := by
    apply BitVec.eq_of_getLsbD_eq
    intro i hi
    simp only [BitVec.getLsbD_xor]
    cases A.getLsbD i <;> cases B.getLsbD i <;> cases C.getLsbD i <;> cases RC.getLsbD i <;> cases RD.getLsbD i <;> cases E.getLsbD i <;> rfl
  rw [e, h1, h2, h3]; rfl

/-- The only parities that theta takes to nought are nought. -/
theorem theta_zero {p : Nat → BitVec 64} (hper : ∀ x, p (x + 5) = p x) (h : ∀ x, p (x + 1) ^^^ p x ^^^ rotN 1 (p (x + 2)) = 0) : ∀ x, p x = 0 := by
  have h6 := dbl (dbl (dbl (dbl (dbl (dbl h)))))
  have hp : ∀ k x, p (x + 5 * k) = p x := by
    intro k
    induction k with
    | zero => intro x; rfl
    | succ k ih => intro x; rw [show x + 5 * (k + 1) = (x + 5 * k) + 5 by omega, hper, ih]
  have e : ∀ x, p (x + 4) ^^^ p x ^^^ p (x + 3) = 0 := by
    intro x
    have := h6 x
    simp only [Nat.reduceMul, Nat.mul_one] at this
    rw [rotN_64, show x + 64 = (x + 4) + 5 * 12 by omega, show x + 128 = (x + 3) + 5 * 25 by omega, hp, hp] at this
    exact this
  have e2 : ∀ x, p (x + 3) = p (x + 1) := by
    intro x
    have h1 := e x
    have h2 := e (x + 1)
    rw [show x + 1 + 4 = x + 5 by omega, hper, show x + 1 + 3 = x + 4 by omega] at h2
    apply xor_cancel
    generalize p (x + 4) = A at *
    generalize p x = B at *
    generalize p (x + 3) = C at *
    generalize p (x + 1) = D at *
    have e : C ^^^ D = (A ^^^ B ^^^ C) ^^^ (B ^^^ D ^^^ A) := by
      apply BitVec.eq_of_getLsbD_eq
      intro i hi
      simp only [BitVec.getLsbD_xor]
      cases A.getLsbD i <;> cases B.getLsbD i <;> cases C.getLsbD i <;> cases D.getLsbD i <;> rfl
    rw [e, h1, h2]; rfl
  intro x
  have h0 := e x
  have a1 : p (x + 3) = p (x + 1) := e2 x
  have a2 : p (x + 5) = p (x + 3) := e2 (x + 2)
  have a3 : p (x + 4) = p (x + 2) := e2 (x + 1)
  have a4 : p (x + 6) = p (x + 4) := e2 (x + 3)
  have a5 : p (x + 6) = p (x + 1) := hper (x + 1)
  rw [hper] at a2
  have b1 : p (x + 4) = p x := by rw [← a4, a5, ← a1, ← a2]
  have b2 : p (x + 3) = p x := a2.symm
  rw [b1, b2] at h0
  simpa using h0

theorem chi5 : ∀ a b c d e a' b' c' d' e' : Bool, (a ^^ (!b && c)) = (a' ^^ (!b' && c')) → (b ^^ (!c && d)) = (b' ^^ (!c' && d')) → (c ^^ (!d && e)) = (c' ^^ (!d' && e')) →
    (d ^^ (!e && a)) = (d' ^^ (!e' && a')) → (e ^^ (!a && b)) = (e' ^^ (!a' && b')) → (a = a' ∧ b = b' ∧ c = c' ∧ d = d' ∧ e = e') := by decide +kernel
theorem chi5w (a b c d e a' b' c' d' e' : BitVec 64) (h1 : a ^^^ (~~~ b &&& c) = a' ^^^ (~~~ b' &&& c')) (h2 : b ^^^ (~~~ c &&& d) = b' ^^^ (~~~ c' &&& d')) (h3 : c ^^^ (~~~ d &&& e) = c' ^^^ (~~~ d' &&& e'))
    (h4 : d ^^^ (~~~ e &&& a) = d' ^^^ (~~~ e' &&& a')) (h5 : e ^^^ (~~~ a &&& b) = e' ^^^ (~~~ a' &&& b')) : a = a' ∧ b = b' ∧ c = c' ∧ d = d' ∧ e = e' := by
  have key : ∀ i, i < 64 → (a.getLsbD i = a'.getLsbD i ∧ b.getLsbD i = b'.getLsbD i ∧ c.getLsbD i = c'.getLsbD i ∧ d.getLsbD i = d'.getLsbD i ∧ e.getLsbD i = e'.getLsbD i) := by
    intro i hi
    have g1 := congrArg (fun z => z.getLsbD i) h1
    have g2 := congrArg (fun z => z.getLsbD i) h2
    have g3 := congrArg (fun z => z.getLsbD i) h3
    have g4 := congrArg (fun z => z.getLsbD i) h4
    have g5 := congrArg (fun z => z.getLsbD i) h5
    simp only [BitVec.getLsbD_xor, BitVec.getLsbD_and, BitVec.getLsbD_not, hi, decide_true, Bool.true_and] at g1 g2 g3 g4 g5
    exact chi5 _ _ _ _ _ _ _ _ _ _ g1 g2 g3 g4 g5
  exact ⟨BitVec.eq_of_getLsbD_eq fun i hi => (key i hi).1, BitVec.eq_of_getLsbD_eq fun i hi => (key i hi).2.1, BitVec.eq_of_getLsbD_eq fun i hi => (key i hi).2.2.1,
    BitVec.eq_of_getLsbD_eq fun i hi => (key i hi).2.2.2.1, BitVec.eq_of_getLsbD_eq fun i hi => (key i hi).2.2.2.2⟩

theorem chiK_inj {b r : St} (h : ∀ j, j < 25 → chiK b j = chiK r j) : ∀ j, j < 25 → b j = r j := by
  have row : ∀ y, y < 5 → (b (0 + 5 * y) = r (0 + 5 * y) ∧ b (1 + 5 * y) = r (1 + 5 * y) ∧ b (2 + 5 * y) = r (2 + 5 * y) ∧ b (3 + 5 * y) = r (3 + 5 * y) ∧ b (4 + 5 * y) = r (4 + 5 * y)) := by
    intro y hy
    have hx : ∀ x, x < 5 → (b (x + 5 * y) ^^^ (~~~ b ((x + 1) % 5 + 5 * y) &&& b ((x + 2) % 5 + 5 * y)) = r (x + 5 * y) ^^^ (~~~ r ((x + 1) % 5 + 5 * y) &&& r ((x + 2) % 5 + 5 * y))) := by
      intro x hx
      have := h (x + 5 * y) (by omega)
      simp only [chiK] at this
      rwa [show (x + 5 * y) % 5 = x by omega, show (x + 5 * y) / 5 = y by omega] at this
    exact chi5w _ _ _ _ _ _ _ _ _ _ (hx 0 (by decide)) (hx 1 (by decide)) (hx 2 (by decide)) (hx 3 (by decide)) (hx 4 (by decide))
  intro j hj
  have := row (j / 5) (by omega)
  have hm : j % 5 < 5 := Nat.mod_lt _ (by decide)
  have hj' : j = j % 5 + 5 * (j / 5) := by omega
  rw [hj']
  match hx : j % 5, hm with
  | 0, _ => exact this.1
  | 1, _ => exact this.2.1
  | 2, _ => exact this.2.2.1
  | 3, _ => exact this.2.2.2.1
  | 4, _ => exact this.2.2.2.2

theorem place : ∀ x : Nat, x < 5 → ∀ y : Nat, y < 5 → (y % 5 + 5 * ((2 * x + 3 * y) % 5)) < 25 ∧ ((y % 5 + 5 * ((2 * x + 3 * y) % 5)) % 5 + 3 * ((y % 5 + 5 * ((2 * x + 3 * y) % 5)) / 5)) % 5 = x ∧ (y % 5 + 5 * ((2 * x + 3 * y) % 5)) % 5 = y := by decide +kernel

theorem bbK_inj {s r : St} (h : ∀ j, j < 25 → bbK s j = bbK r j) : ∀ x, x < 5 → ∀ y, y < 5 → s (x + 5 * y) ^^^ ddK s x = r (x + 5 * y) ^^^ ddK r x := by
  intro x hx y hy
  obtain ⟨h1, h2, h3⟩ := place x hx y hy
  have := h _ h1
  rw [bbK, bbK, h2, h3, bbXY, bbXY] at this
  exact rot_inj (turnOf_lt _) this

theorem theta_inj {s r : St} (h : ∀ x, x < 5 → ∀ y, y < 5 → s (x + 5 * y) ^^^ ddK s x = r (x + 5 * y) ^^^ ddK r x) : ∀ j, j < 25 → s j = r j := by
  have hpar : ∀ x, x < 5 → par s x ^^^ ddK s x = par r x ^^^ ddK r x := by
    intro x hx
    have e : ∀ s : St, par s x ^^^ ddK s x = (s (x + 5 * 0) ^^^ ddK s x) ^^^ (s (x + 5 * 1) ^^^ ddK s x) ^^^ (s (x + 5 * 2) ^^^ ddK s x) ^^^ (s (x + 5 * 3) ^^^ ddK s x) ^^^ (s (x + 5 * 4) ^^^ ddK s x) := by
      intro s
      simp only [par, parK]
      generalize ddK s x = D
      generalize s (x + 5 * 0) = a0
      generalize s (x + 5 * 1) = a1
      generalize s (x + 5 * 2) = a2
      generalize s (x + 5 * 3) = a3
      generalize s (x + 5 * 4) = a4
      apply BitVec.eq_of_getLsbD_eq
      intro i hi
      simp only [BitVec.getLsbD_xor, BitVec.ofNat_eq_ofNat, BitVec.getLsbD_zero]
      cases D.getLsbD i <;> cases a0.getLsbD i <;> cases a1.getLsbD i <;> cases a2.getLsbD i <;> cases a3.getLsbD i <;> cases a4.getLsbD i <;> rfl
    rw [e, e, h x hx 0 (by decide), h x hx 1 (by decide), h x hx 2 (by decide), h x hx 3 (by decide), h x hx 4 (by decide)]
  have hz := theta_zero (p := fun x => par s (x % 5) ^^^ par r (x % 5)) (fun x => by simp) (fun x => by
    have := hpar ((x + 1) % 5) (Nat.mod_lt _ (by decide))
    simp only [ddK] at this
    rw [show ((x + 1) % 5 + 4) % 5 = x % 5 by omega, show ((x + 1) % 5 + 1) % 5 = (x + 2) % 5 by omega] at this
    rw [rotN_xor]
    simp only [rotN]
    generalize par s ((x + 1) % 5) = A at *
    generalize par r ((x + 1) % 5) = A' at *
    generalize par s (x % 5) = B at *
    generalize par r (x % 5) = B' at *
    generalize (par s ((x + 2) % 5)).rotateLeft 1 = C at *
    generalize (par r ((x + 2) % 5)).rotateLeft 1 = C' at *
    apply BitVec.eq_of_getLsbD_eq
    intro i hi
    have g := congrArg (fun z => z.getLsbD i) this
    simp only [BitVec.getLsbD_xor] at g
    simp only [BitVec.getLsbD_xor, BitVec.ofNat_eq_ofNat, BitVec.getLsbD_zero]
    revert g
    cases A.getLsbD i <;> cases A'.getLsbD i <;> cases B.getLsbD i <;> cases B'.getLsbD i <;> cases C.getLsbD i <;> cases C'.getLsbD i <;> simp)
  have hpp : ∀ x, x < 5 → par s x = par r x := fun x hx => by
    have := hz x
    simp only [Nat.mod_eq_of_lt hx] at this
    exact xor_cancel this
  have hd : ∀ x, x < 5 → ddK s x = ddK r x := fun x hx => by
    simp only [ddK]
    rw [hpp _ (Nat.mod_lt _ (by decide)), hpp _ (Nat.mod_lt _ (by decide))]
  intro j hj
  have := h (j % 5) (Nat.mod_lt _ (by decide)) (j / 5) (by omega)
  rw [hd _ (Nat.mod_lt _ (by decide)), show j % 5 + 5 * (j / 5) = j by omega] at this
  have := congrArg (fun z => z ^^^ ddK r (j % 5)) this
  simpa [BitVec.xor_assoc] using this

theorem rnd_inj {n : Nat} {s r : St} (h : ∀ j, j < 25 → rnd n s j = rnd n r j) : ∀ j, j < 25 → s j = r j := by
  refine theta_inj (bbK_inj (chiK_inj fun j hj => ?_))
  have := h j hj
  simp only [rnd] at this
  by_cases h0 : j = 0
  · subst h0
    rw [if_pos rfl, if_pos rfl] at this
    have := congrArg (fun z => z ^^^ rcOf n) this
    simpa [BitVec.xor_assoc] using this
  · rwa [if_neg h0, if_neg h0] at this
theorem rnds_inj : ∀ (n : Nat) {s r : St}, (∀ j, j < 25 → rnds n s j = rnds n r j) → ∀ j, j < 25 → s j = r j
  | 0, _, _, h => h
  | n + 1, _, _, h => rnds_inj n (rnd_inj h)
/-- Unlike states are permuted to unlike ones. -/
theorem keccakF_inj {s r : St} (h : ∀ j, j < 25 → keccakF s j = keccakF r j) : ∀ j, j < 25 → s j = r j := rnds_inj 24 h

end Go.Vcg
