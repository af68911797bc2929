-- Plain laws of the row law10 (great): a value of a primitive form without a common divisor with a number; the document's search for it.
import Derived.Test.YtbnoablfajmaeaaGreatPk
namespace Go.Proofs.YtbnoablfajmaeaaGreat.Pure
open Go Go.Proofs.YtbnoablfajmaeaaGreat.Ev
open Go.Proofs.YtbnoablfajmaeaaGreat.NatL (ab ab_cases ab_nonneg ab_of ab_zero GT gcdI gcdI_nonneg gcdI_left gcdI_right gcd_ab0 ab_dvd tA tB wu64_id wu64_mod tmod_nn tdiv_nn fdiv_pow sg pH)
open Go.Proofs.YtbnoablfajmaeaaGreat.Mod (Fo Hm PM E)
set_option linter.unusedVariables false
set_option linter.unusedSimpArgs false

/-- Without a common divisor. -/
def Cop (x z : Int) : Prop := ∃ p q, x * p + z * q = 1
theorem cop_iff (x z : Int) : Cop x z ↔ gcdI x z = 1 := by
  constructor
  · rintro ⟨p, q, h⟩
    have d : gcdI x z ∣ 1 := by
      rw [← h]; exact Int.dvd_add (Int.dvd_trans (gcdI_left x z) (Int.dvd_mul_right _ _)) (Int.dvd_trans (gcdI_right x z) (Int.dvd_mul_right _ _))
    have := Int.le_of_dvd (by decide) d
    have h0 := gcdI_nonneg x z
    have : gcdI x z ≠ 0 := fun e => by
      have h1 := gcdI_left x z
      have h2 := gcdI_right x z
      rw [e] at h1 h2
      rw [Int.zero_dvd.mp h1, Int.zero_dvd.mp h2] at h
      omega
    omega
  · intro h
    obtain ⟨x', y', h'⟩ := bezout x z
    exact ⟨x', y', by rw [h', h]⟩
theorem Cop.symm {x z : Int} (h : Cop x z) : Cop z x := by
  obtain ⟨p, q, h⟩ := h
  exact ⟨q, p, by omega⟩
theorem Cop.mul {x y z : Int} (h : Cop x z) (k : Cop y z) : Cop (x * y) z := by
  obtain ⟨p, q, h⟩ := h
  obtain ⟨r, s, k⟩ := k
  refine ⟨p * r, x * p * s + q * y * r + z * q * s, ?_⟩
  have : x * y * (p * r) + z * (x * p * s + q * y * r + z * q * s) = (x * p + z * q) * (y * r + z * s) := by grind
  rw [this, h, k]; decide
theorem Cop.dvd_left {x y z : Int} (h : Cop x z) (d : y ∣ x) : Cop y z := by
  obtain ⟨p, q, h⟩ := h
  obtain ⟨k, rfl⟩ := d
  exact ⟨k * p, q, by rw [← h]; grind⟩
theorem Cop.add {x z : Int} (h : Cop x z) (k : Int) : Cop (x + z * k) z := by
  obtain ⟨p, q, h⟩ := h
  exact ⟨p, q - k * p, by rw [← h]; grind⟩
theorem Cop.cancel {x z w : Int} (h : Cop x z) (d : x ∣ z * w) : x ∣ w := by
  obtain ⟨p, q, h⟩ := h
  obtain ⟨k, hk⟩ := d
  refine ⟨p * w + k * q, ?_⟩
  have : w = (x * p + z * q) * w := by rw [h]; omega
  have e : x * (p * w + k * q) = x * p * w + (x * k) * q := by grind
  rw [e, ← hk]
  have e2 : (x * p + z * q) * w = x * p * w + z * w * q := by grind
  omega

/-- A number parted: what has nothing in common with a, and what has. -/
theorem split : ∀ (k : Nat) (n a : Int), 0 < n → n ≤ k → ∃ n0 n1, 0 < n0 ∧ 0 < n1 ∧ n = n0 * n1 ∧ Cop n0 a ∧ Cop n0 n1 ∧ ∀ D, 1 < D → D ∣ n1 → ¬ Cop D a := by
  intro k
  induction k with
  | zero => intro n a h h2; omega
  | succ k ih =>
    intro n a hn hk
    by_cases h : Cop n a
    · exact ⟨n, 1, hn, by decide, by omega, h, ⟨0, 1, by omega⟩, fun D h1 h2 => by have := Int.le_of_dvd (by decide) h2; omega⟩
    · have g1 := gcdI_left n a
      have g2 := gcdI_right n a
      have g0 := gcdI_nonneg n a
      have gn : gcdI n a ≠ 1 := fun e => h ((cop_iff n a).mpr e)
      generalize gcdI n a = g at *
      obtain ⟨n', rfl⟩ := g1
      have gz : g ≠ 0 := fun e => by subst e; omega
      have np : 0 < n' := by
        rcases Int.lt_or_le 0 n' with q | q
        · exact q
        · have := Int.mul_nonneg (show 0 ≤ g by omega) (show 0 ≤ -n' by omega)
          rw [Int.mul_neg] at this; omega
      have nlt : n' < g * n' := by
        have := Int.mul_le_mul_of_nonneg_right (show 2 ≤ g by omega) (Int.le_of_lt np)
        omega
      obtain ⟨n0, n1, p0, p1, e, c1, c2, c3⟩ := ih n' a np (by omega)
      have cg : Cop n0 g := (c1.symm.dvd_left g2).symm
      refine ⟨n0, g * n1, p0, Int.mul_pos (by omega) p1, by rw [e]; grind, c1, (cg.symm.mul c2.symm).symm, fun D h1 h2 hc => ?_⟩
      have cD : Cop D g := (hc.symm.dvd_left g2).symm
      exact c3 D h1 (cD.cancel h2) hc

/-- Small x, y at which a primitive form's value has no common divisor with m. -/
theorem prime_exists {A B C m : Int} (hp : Prim A B C) (hm : 0 < m) : ∃ x y, 1 ≤ x ∧ 1 ≤ y ∧ x + y ≤ m + 1 ∧ Cop x y ∧ Cop (tA A B C x y) m := by
  obtain ⟨m0, n, p0, pn, e1, c1, c2, c3⟩ := split m.toNat m A hm (by omega)
  obtain ⟨m1, m2, p1, p2, e2, c4, c5, c6⟩ := split n.toNat n C pn (by omega)
  have d1 : m1 ∣ n := ⟨m2, e2⟩
  have d2 : m2 ∣ n := ⟨m1, by rw [e2]; exact Int.mul_comm _ _⟩
  have c7 : Cop m1 m0 := c2.symm.dvd_left d1
  have c8 : Cop m2 m0 := c2.symm.dvd_left d2
  refine ⟨m1, m0, by omega, by omega, ?_, c7, ?_⟩
  · have h1 := Int.mul_nonneg (show 0 ≤ m0 - 1 by omega) (show 0 ≤ m1 - 1 by omega)
    have h2 : (m0 - 1) * (m1 - 1) = m0 * m1 - m0 - m1 + 1 := by grind
    have h3 : m = m0 * m1 * m2 := by rw [e1, e2]; grind
    have h4 := Int.mul_le_mul_of_nonneg_left (show 1 ≤ m2 by omega) (Int.le_of_lt (Int.mul_pos p0 p1))
    omega
  · have k0 : Cop (tA A B C m1 m0) m0 := by
      have h := ((c1.symm.mul (c7.mul c7)).add (B * m1 + C * m0))
      have e : A * (m1 * m1) + m0 * (B * m1 + C * m0) = tA A B C m1 m0 := by unfold tA; grind
      rw [e] at h; exact h
    have k1 : Cop (tA A B C m1 m0) m1 := by
      have h := ((c4.symm.mul (c7.symm.mul c7.symm)).add (B * m0 + A * m1))
      have e : C * (m0 * m0) + m1 * (B * m0 + A * m1) = tA A B C m1 m0 := by unfold tA; grind
      rw [e] at h; exact h
    have k2 : Cop (tA A B C m1 m0) m2 := by
      rw [cop_iff]
      have g1 := gcdI_left (tA A B C m1 m0) m2
      have g2 := gcdI_right (tA A B C m1 m0) m2
      have g0 := NatL.gcdI_pos (a := tA A B C m1 m0) (show m2 ≠ 0 by omega)
      by_cases hD : gcdI (tA A B C m1 m0) m2 = 1
      · exact hD
      · exfalso
        generalize gcdI (tA A B C m1 m0) m2 = D at *
        have n1 := c3 D (by omega) (Int.dvd_trans g2 d2)
        have q1 := gcdI_left D A
        have q2 := gcdI_right D A
        have q0 : gcdI D A ≠ 1 := fun e => n1 ((cop_iff _ _).mpr e)
        have qp : 0 < gcdI D A := by
          have := gcdI_nonneg D A
          have : gcdI D A ≠ 0 := fun e => by rw [e] at q1; have := Int.zero_dvd.mp q1; omega
          omega
        generalize gcdI D A = D1 at *
        have n2 := c6 D1 (by omega) (Int.dvd_trans q1 g2)
        have r1 := gcdI_left D1 C
        have r2 := gcdI_right D1 C
        have r0 : gcdI D1 C ≠ 1 := fun e => n2 ((cop_iff _ _).mpr e)
        have rp : 0 < gcdI D1 C := by
          have := gcdI_nonneg D1 C
          have : gcdI D1 C ≠ 0 := fun e => by rw [e] at r1; have := Int.zero_dvd.mp r1; omega
          omega
        generalize gcdI D1 C = D2 at *
        have hA : D2 ∣ A := Int.dvd_trans r1 q2
        have hv : D2 ∣ tA A B C m1 m0 := Int.dvd_trans (Int.dvd_trans r1 q1) g1
        have h2 : D2 ∣ m2 := Int.dvd_trans (Int.dvd_trans r1 q1) g2
        have x1 : Cop D2 m1 := (c5.symm).dvd_left h2
        have x2 : Cop D2 m0 := c8.dvd_left h2
        have hB : D2 ∣ m1 * (m0 * B) := by
          have e : m1 * (m0 * B) = tA A B C m1 m0 - A * (m1 * m1) - C * (m0 * m0) := by unfold tA; grind
          rw [e]
          exact Int.dvd_sub (Int.dvd_sub hv (Int.dvd_trans hA (Int.dvd_mul_right _ _))) (Int.dvd_trans r2 (Int.dvd_mul_right _ _))
        have hB' := x2.cancel (x1.cancel hB)
        obtain ⟨p, q, r, h⟩ := hp
        have : D2 ∣ 1 := by
          rw [← h]
          exact Int.dvd_add (Int.dvd_add (Int.dvd_trans hA (Int.dvd_mul_left _ _)) (Int.dvd_trans hB' (Int.dvd_mul_left _ _))) (Int.dvd_trans r2 (Int.dvd_mul_left _ _))
        have := Int.le_of_dvd (by decide) this
        omega
    have : m = m0 * (m1 * m2) := by rw [e1, e2]
    rw [this]
    exact ((k0.symm.mul (k1.symm.mul k2.symm))).symm

/-- Is it told? -/
def good (A B C m s x : Int) : Prop := gcdI x (s - x) = 1 ∧ gcdI (tA A B C x (s - x)) m = 1

/-- What is told at x, y. -/
structure Told (A B C x y a b : Int) : Prop where
  ex : ∃ u v, x * u - v * y = 1 ∧ a = tA A B C x y ∧ b = tB A B C x v y u
  small : -3200000000000000000 ≤ b ∧ b ≤ 3200000000000000000
  le : a ≤ 1600000000000000000

/-- The numbers that the search goes through are words. -/
theorem value_word {A B C x y : Int} (hA : 0 < A ∧ A ≤ 37838) (hB : -37838 ≤ B ∧ B ≤ 37838) (hC : 0 ≤ C ∧ C ≤ 1073741824) (hx : 0 ≤ x ∧ x ≤ 37840) (hy : 0 ≤ y ∧ y ≤ 37840) :
    wi64 (wi64 (wi64 (wi64 (A * x) * x) + wi64 (wi64 (B * x) * y)) + wi64 (wi64 (C * y) * y)) = tA A B C x y ∧ ab (tA A B C x y) ≤ 1600000000000000000 := by
  have m1 := mul_bound (x := A) (X := 37840) (y := x) (Y := 37840) (by omega) (by omega) (by omega) (by omega)
  have m2 := mul_bound (x := B) (X := 37840) (y := x) (Y := 37840) (by omega) (by omega) (by omega) (by omega)
  have m3 := mul_bound (x := C) (X := 1073741824) (y := y) (Y := 37840) (by omega) (by omega) (by omega) (by omega)
  have k1 : (37840 : Int) * 37840 = 1431865600 := by decide
  have k2 : (1073741824 : Int) * 37840 = 40630390620160 := by decide
  have m4 := mul_bound (x := A * x) (X := 1431865600) (y := x) (Y := 37840) (by omega) (by omega) (by omega) (by omega)
  have m5 := mul_bound (x := B * x) (X := 1431865600) (y := y) (Y := 37840) (by omega) (by omega) (by omega) (by omega)
  have m6 := mul_bound (x := C * y) (X := 40630390620160) (y := y) (Y := 37840) (by omega) (by omega) (by omega) (by omega)
  have k3 : (1431865600 : Int) * 37840 = 54181794304000 := by decide
  have k4 : (40630390620160 : Int) * 37840 = 1537453981066854400 := by decide
  rw [wi64_id (n := A * x) (by omega) (by omega), wi64_id (n := A * x * x) (by omega) (by omega), wi64_id (n := B * x) (by omega) (by omega), wi64_id (n := B * x * y) (by omega) (by omega), wi64_id (n := C * y) (by omega) (by omega), wi64_id (n := C * y * y) (by omega) (by omega), wi64_id (n := A * x * x + B * x * y) (by omega) (by omega), wi64_id (by omega) (by omega)]
  unfold tA
  refine ⟨rfl, ?_⟩
  rcases ab_cases (A * x * x + B * x * y + C * y * y) with ⟨c1, c2⟩ | ⟨c1, c2⟩ <;> omega

theorem turn_word {A B C x y u v : Int} (hA : 0 < A ∧ A ≤ 37838) (hB : -37838 ≤ B ∧ B ≤ 37838) (hC : 0 ≤ C ∧ C ≤ 1073741824) (hx : 0 ≤ x ∧ x ≤ 37840) (hy : 0 ≤ y ∧ y ≤ 37840) (hu : -37841 ≤ u ∧ u ≤ 37841) (hv : -37841 ≤ v ∧ v ≤ 37841) :
    wi64 (wi64 (wi64 (wi64 (wi64 (2 * A) * x) * v) + wi64 (B * wi64 (wi64 (x * u) + wi64 (v * y)))) + wi64 (wi64 (wi64 (2 * C) * y) * u)) = tB A B C x v y u ∧ -3200000000000000000 ≤ tB A B C x v y u ∧ tB A B C x v y u ≤ 3200000000000000000 := by
  have m1 := mul_bound (x := 2 * A) (X := 75676) (y := x) (Y := 37840) (by omega) (by omega) (by omega) (by omega)
  have k1 : (75676 : Int) * 37840 = 2863579840 := by decide
  have m2 := mul_bound (x := 2 * A * x) (X := 2863579840) (y := v) (Y := 37841) (by omega) (by omega) (by omega) (by omega)
  have k2 : (2863579840 : Int) * 37841 = 108360724725440 := by decide
  have m3 := mul_bound (x := x) (X := 37840) (y := u) (Y := 37841) (by omega) (by omega) (by omega) (by omega)
  have k3 : (37840 : Int) * 37841 = 1431903440 := by decide
  have m4 := mul_bound (x := v) (X := 37841) (y := y) (Y := 37840) (by omega) (by omega) (by omega) (by omega)
  have k4 : (37841 : Int) * 37840 = 1431903440 := by decide
  have m5 := mul_bound (x := B) (X := 37838) (y := x * u + v * y) (Y := 2863806880) (by omega) (by omega) (by omega) (by omega)
  have k5 : (37838 : Int) * 2863806880 = 108360724725440 := by decide
  have m6 := mul_bound (x := 2 * C) (X := 2147483648) (y := y) (Y := 37840) (by omega) (by omega) (by omega) (by omega)
  have k6 : (2147483648 : Int) * 37840 = 81260781240320 := by decide
  have m7 := mul_bound (x := 2 * C * y) (X := 81260781240320) (y := u) (Y := 37841) (by omega) (by omega) (by omega) (by omega)
  have k7 : (81260781240320 : Int) * 37841 = 3074989222914949120 := by decide
  rw [wi64_id (n := 2 * A) (by omega) (by omega), wi64_id (n := 2 * A * x) (by omega) (by omega), wi64_id (n := 2 * A * x * v) (by omega) (by omega), wi64_id (n := x * u) (by omega) (by omega), wi64_id (n := v * y) (by omega) (by omega), wi64_id (n := x * u + v * y) (by omega) (by omega), wi64_id (n := B * (x * u + v * y)) (by omega) (by omega), wi64_id (n := 2 * C) (by omega) (by omega), wi64_id (n := 2 * C * y) (by omega) (by omega), wi64_id (n := 2 * C * y * u) (by omega) (by omega), wi64_id (n := 2 * A * x * v + B * (x * u + v * y)) (by omega) (by omega), wi64_id (by omega) (by omega)]
  have e : tB A B C x v y u = 2 * A * x * v + B * (x * u + v * y) + 2 * C * y * u := by unfold tB; grind
  rw [e]
  exact ⟨rfl, by omega, by omega⟩

/-- The turn's numbers are small. -/
theorem turn_small {x y u q : Int} (hx : 0 ≤ x ∧ x ≤ 37840) (hy : 0 ≤ y ∧ y ≤ 37840) (h : GT x y 1 u q) : (-37841 ≤ u ∧ u ≤ 37841) ∧ (-37841 ≤ q ∧ q ≤ 37841) := by
  by_cases h0 : y = 0
  · obtain ⟨h1, h2⟩ := h.bz h0
    subst h2
    rcases NatL.sn_cases x with ⟨s1, s2⟩ | ⟨s1, s2⟩ | ⟨s1, s2⟩ <;> rw [s2] at h1 <;> omega
  · obtain ⟨h1, h2⟩ := h.lo h0
    have hs := h.sum
    rw [Int.ediv_one, ab_of hy.1] at h2
    have m0 := Int.mul_nonneg hx.1 h1
    have m1 := Int.mul_le_mul_of_nonneg_left (show u ≤ y by omega) hx.1
    have xy : x * y = y * x := Int.mul_comm _ _
    refine ⟨by omega, ?_, ?_⟩
    · rcases Int.lt_or_le q (-37841) with k | k
      · exfalso
        have := Int.mul_le_mul_of_nonneg_left (show 37842 ≤ -q by omega) (show 0 ≤ y by omega)
        rw [Int.mul_neg] at this
        have := Int.mul_le_mul_of_nonneg_left (show x ≤ 37840 by omega) (show 0 ≤ y by omega)
        omega
      · exact k
    · rcases Int.lt_or_le 37841 q with k | k
      · exfalso
        have := Int.mul_le_mul_of_nonneg_left (show 37842 ≤ q by omega) (show 0 ≤ y by omega)
        omega
      · exact k

theorem inner_loop {N : Nat} (hN : 4294967400 < N) {R : Type} {A B C m s : Int} (hA : 0 < A ∧ A ≤ 37838) (hB : -37838 ≤ B ∧ B ≤ 37838) (hC : 0 ≤ C ∧ C ≤ 1073741824) (hm : 0 < m ∧ m ≤ 37838) (hs : 1 ≤ s ∧ s ≤ 37840) (x19 x20 x21 : Int) (k2 : Int → Int → Int → Int → Int → Int → Int → Int → Option R) (kr : Int → Int → Int → Option R) : ∀ (n : Nat) (x : Int), 0 ≤ x → x ≤ s + 1 → s + 1 - x < n →
    (∃ x0 a b c, 0 ≤ x0 ∧ x0 ≤ s ∧ good A B C m s x0 ∧ Told A B C x0 (s - x0) a b ∧ parquetref10_prime.l4 N n m s x A B C x19 x20 x21 k2 kr = kr a b c) ∨
    ((∀ x0, x ≤ x0 → x0 ≤ s → ¬ good A B C m s x0) ∧ parquetref10_prime.l4 N n m s x A B C x19 x20 x21 k2 kr = k2 m s A B C x19 x20 x21) := by
  intro n
  induction n with
  | zero => intro x _ _ h; omega
  | succ n ih =>
    intro x x0 x1 hn
    rw [parquetref10_prime.l4]
    by_cases h : x ≤ s
    · have w1 : wi64 (s - x) = s - x := wi64_id (by omega) (by omega)
      have w2 : wi64 (x + 1) = x + 1 := wi64_id (by omega) (by omega)
      have next : ¬ good A B C m s x → (∃ x0 a b c, 0 ≤ x0 ∧ x0 ≤ s ∧ good A B C m s x0 ∧ Told A B C x0 (s - x0) a b ∧ parquetref10_prime.l4 N n m s (x + 1) A B C x19 x20 x21 k2 kr = kr a b c) ∨
          ((∀ x0, x ≤ x0 → x0 ≤ s → ¬ good A B C m s x0) ∧ parquetref10_prime.l4 N n m s (x + 1) A B C x19 x20 x21 k2 kr = k2 m s A B C x19 x20 x21) := fun hg => by
        rcases ih (x + 1) (by omega) (by omega) (by omega) with h1 | ⟨h1, h2⟩
        · exact Or.inl h1
        · refine Or.inr ⟨fun z h3 h4 => ?_, h2⟩
          by_cases hz : z = x
          · subst hz; exact hg
          · exact h1 z (by omega) h4
      obtain ⟨v1, v2⟩ := value_word (A := A) (B := B) (C := C) (x := x) (y := s - x) hA hB hC (by omega) (by omega)
      rw [decide_eq_true h, w1, w2]
      simp only [cond_true]
      rw [v1, common_model (by rw [ab_of x0]; omega) (by rw [ab_of (by omega)]; omega) hN]
      simp only [Option.bind_some]
      by_cases g1 : gcdI x (s - x) = 1
      · have c1 : (gcdI x (s - x) != 1) = false := by rw [g1]; rfl
        rw [c1]
        simp only [cond_false]
        rw [common_model (by omega) (by rw [ab_of (by omega)]; omega) hN]
        simp only [Option.bind_some]
        by_cases g2 : gcdI (tA A B C x (s - x)) m = 1
        · have c2 : (gcdI (tA A B C x (s - x)) m != 1) = false := by rw [g2]; rfl
          rw [c2]
          simp only [cond_false]
          have zx := NatL.zr_i64 (n := x) (by omega) (by omega)
          have zy := NatL.zr_i64 (n := s - x) (by omega) (by omega)
          obtain ⟨g, u, q, hgt, hr⟩ := NatL.r_gcd (N := N) (by omega) zx zy
          have hg1 : g = 1 := by rw [hgt.eg, g1]
          subst hg1
          obtain ⟨su, sq⟩ := turn_small (x := x) (y := s - x) (by omega) (by omega) hgt
          have lu := NatL.zl_of (NatL.zr_i64 (n := u) (by omega) (by omega))
          have lq := NatL.zl_of (NatL.zr_i64 (n := q) (by omega) (by omega))
          rw [NatL.r_of (by omega) (by omega) (by omega)]
          simp only [Option.bind_some]
          rw [NatL.r_of (by omega) (by omega) (by omega)]
          simp only [Option.bind_some]
          rw [hr]
          simp only [Option.bind_some]
          rw [NatL.r_int64 (by omega) lu (by omega), if_pos (by omega)]
          simp only [Option.bind_some]
          rw [NatL.r_neg (by omega) lq (by omega)]
          simp only [Option.bind_some]
          rw [NatL.r_int64 (by omega) lq.neg (by omega), if_pos (by omega)]
          simp only [Option.bind_some]
          obtain ⟨t1, t2, t3⟩ := turn_word (A := A) (B := B) (C := C) (x := x) (y := s - x) (u := u) (v := -q) hA hB hC (by omega) (by omega) su (by omega)
          rw [t1]
          refine Or.inl ⟨x, tA A B C x (s - x), tB A B C x (-q) (s - x) u, _, x0, h, ⟨g1, g2⟩, ⟨⟨u, -q, ?_, rfl, rfl⟩, ⟨t2, t3⟩, ?_⟩, rfl⟩
          · have := hgt.sum
            have e : -q * (s - x) = -((s - x) * q) := by grind
            omega
          · rcases ab_cases (tA A B C x (s - x)) with ⟨c1, c2⟩ | ⟨c1, c2⟩ <;> omega
        · have c2 : (gcdI (tA A B C x (s - x)) m != 1) = true := bne_iff_ne.mpr g2
          rw [c2]
          exact next (fun hg => g2 hg.2)
      · have c1 : (gcdI x (s - x) != 1) = true := bne_iff_ne.mpr g1
        rw [c1]
        exact next (fun hg => g1 hg.1)
    · rw [decide_eq_false h]
      exact Or.inr ⟨fun z h3 h4 => by omega, rfl⟩

theorem outer_loop {N : Nat} (hN : 4294967400 < N) {R : Type} {A B C m S X : Int} (hA : 0 < A ∧ A ≤ 37838) (hB : -37838 ≤ B ∧ B ≤ 37838) (hC : 0 ≤ C ∧ C ≤ 1073741824) (hm : 0 < m ∧ m ≤ 37838) (hS : S ≤ 37840) (hX : 0 ≤ X ∧ X ≤ S) (hg : good A B C m S X) (x10 x11 x12 : Int) (kr : Int → Int → Int → Option R) : ∀ (n : Nat) (s : Int), 1 ≤ s → s ≤ S → S - s < n →
    ∃ x0 s0 a b c, 0 ≤ x0 ∧ x0 ≤ s0 ∧ 1 ≤ s0 ∧ good A B C m s0 x0 ∧ Told A B C x0 (s0 - x0) a b ∧ parquetref10_prime.l3 N n m s A B C x10 x11 x12 kr = kr a b c := by
  intro n
  induction n with
  | zero => intro s _ _ h; omega
  | succ n ih =>
    intro s s1 sS hn
    rw [parquetref10_prime.l3]
    rcases inner_loop hN hA hB hC hm (s := s) (by omega) x10 x11 x12 (fun y41 y42 y43 y44 y45 y46 y47 y48 =>
        parquetref10_prime.l3 N n y41 (wi64 (y42 + 1)) y43 y44 y45 y46 y47 y48 kr)
      (fun y49 y50 y51 =>
        kr y49 y50 y51) N 0 (by omega) (by omega) (by omega) with ⟨x0, a, b, c, h1, h2, h3, h4, h5⟩ | ⟨h1, h2⟩
    · exact ⟨x0, s, a, b, c, h1, h2, s1, h3, h4, h5⟩
    · rw [h2]
      have hlt : s < S := by
        rcases Int.lt_or_le s S with h | h
        · exact h
        · have : s = S := by omega
          subst this
          exact absurd hg (h1 X hX.1 hX.2)
      have w : wi64 (s + 1) = s + 1 := wi64_id (by omega) (by omega)
      rw [w]
      exact ih (s + 1) (by omega) (by omega) (by omega)

/-- The document's form with a leading number that has no common divisor with m. -/
theorem prime_told {N : Nat} (hN : 4294967400 < N) {d A B C m : Int} (hd : d < 0) (hd1 : -4294967296 ≤ d) (h : Red d A B C) (hm : 0 < m ∧ m ≤ 37838) : ∃ a b c, parquetref10_prime.f N A B C m = some (a, b, c) ∧ 0 < a ∧ a ≤ 1600000000000000000 ∧ (-3200000000000000000 ≤ b ∧ b ≤ 3200000000000000000) ∧ gcdI a m = 1 ∧ Cl d (La d A B) (La d a b) ∧ ∃ c', Of d a b c' := by
  obtain ⟨f1, f2, f3, f4⟩ := (small_of h.of h.a0 h.inr h.sm hd1).resolve_right (fun q => q hd)
  obtain ⟨i1, i2⟩ := h.inr
  have a0 := h.a0
  obtain ⟨x, y, hx, hy, hxy, cp, cv⟩ := prime_exists h.pr hm.1
  have hg : good A B C m (x + y) x := by
    have e : x + y - x = y := by omega
    unfold good
    rw [e]
    exact ⟨(cop_iff _ _).mp cp, (cop_iff _ _).mp cv⟩
  obtain ⟨x0, s0, a, b, c, h1, h2, h3, h4, ⟨⟨u, v, t1, t2, t3⟩, t4, t5⟩, h5⟩ := outer_loop hN (by omega) (by omega) (by omega) hm (S := x + y) (X := x) (by omega) (by omega) hg 0 0 0 (fun y55 y56 y57 => some (y55, y56, y57)) N 1 (by omega) (by omega) (by omega)
  have hpos : 0 < a := by
    rw [t2]
    refine tA_pos h.a0 (by rw [h.of.eq]; exact hd) ?_
    by_cases q : x0 = 0
    · right; omega
    · left; exact q
  refine ⟨a, b, c, h5, hpos, t5, t4, by rw [t2]; exact h4.2, ?_, tA A B C v u, ?_⟩
  · have := h.of.cl hd (by omega) (p := x0) (q := v) (r := s0 - x0) (u := u) (by omega)
    rw [t2, t3]; exact this
  · refine ⟨?_⟩
    have he : Eqv A B C a b (tA A B C v u) := ⟨x0, v, s0 - x0, u, by omega, t2, t3, rfl⟩
    rw [he.disc]; exact h.of.eq

end Go.Proofs.YtbnoablfajmaeaaGreat.Pure
