-- Plain laws of the row law08: turns of forms; one reduced form a class.
import Derived.Test.YtifnooogklfifaaFc
import Derived.KernelRfl
namespace Go.Proofs.Ytifnooogklfifaa.Pure
open Go Go.Proofs.Ytifnooogklfifaa.Ev
open Go.Proofs.Ytifnooogklfifaa.NatL (tA tB turns_key W64 Bd w_add_l w_add_r w_sub_l w_sub_r w_mul_l w_mul_r w_w)
set_option linter.unusedVariables false
set_option linter.unusedSimpArgs false

/-- The form under a turn of determinant 1. -/
def Eqv (a b c a' b' c' : Int) : Prop := ∃ t u v w : Int, t * w - u * v = 1 ∧ a' = tA a b c t v ∧ b' = tB a b c t u v w ∧ c' = tA a b c u w

theorem Eqv.trans {a b c a' b' c' a'' b'' c'' : Int} (h : Eqv a b c a' b' c') (k : Eqv a' b' c' a'' b'' c'') : Eqv a b c a'' b'' c'' := by
  obtain ⟨p, q, r, s, hd, rfl, rfl, rfl⟩ := h
  obtain ⟨t, u, v, w, kd, rfl, rfl, rfl⟩ := k
  obtain ⟨k1, k2, _⟩ := turns_key a b c p q r s t u v w 0 0
  obtain ⟨k3, _, _⟩ := turns_key a b c p q r s u u w w 0 0
  exact ⟨p * t + q * v, p * u + q * w, r * t + s * v, r * u + s * w, by grind, k1, k2, k3⟩

theorem Eqv.symm {a b c a' b' c' : Int} (h : Eqv a b c a' b' c') : Eqv a' b' c' a b c := by
  obtain ⟨p, q, r, s, hd, rfl, rfl, rfl⟩ := h
  refine ⟨s, -q, -r, p, by grind, ?_, ?_, ?_⟩
  · rw [(turns_key a b c p q r s s (-q) (-r) p 0 0).1]
    have e1 : p * s + q * -r = 1 := by grind
    have e2 : r * s + s * -r = 0 := by grind
    rw [e1, e2]; unfold tA; grind
  · rw [(turns_key a b c p q r s s (-q) (-r) p 0 0).2.1]
    have e1 : p * s + q * -r = 1 := by grind
    have e2 : r * s + s * -r = 0 := by grind
    have e3 : p * -q + q * p = 0 := by grind
    have e4 : r * -q + s * p = 1 := by grind
    rw [e1, e2, e3, e4]; unfold tB; grind
  · rw [(turns_key a b c p q r s (-q) (-q) p p 0 0).1]
    have e3 : p * -q + q * p = 0 := by grind
    have e4 : r * -q + s * p = 1 := by grind
    rw [e3, e4]; unfold tA; grind

theorem Eqv.disc {a b c a' b' c' : Int} (h : Eqv a b c a' b' c') : b' * b' - 4 * a' * c' = b * b - 4 * a * c := by
  obtain ⟨t, u, v, w, hd, rfl, rfl, rfl⟩ := h
  have e : tB a b c t u v w * tB a b c t u v w - 4 * tA a b c t v * tA a b c u w = (b * b - 4 * a * c) * ((t * w - u * v) * (t * w - u * v)) := by unfold tA tB; grind
  rw [e, hd]; grind

theorem sq_nonneg (x : Int) : 0 ≤ x * x := by
  rcases Int.le_total 0 x with h | h
  · exact Int.mul_nonneg h h
  · have := Int.mul_nonneg (show (0:Int) ≤ -x by omega) (show (0:Int) ≤ -x by omega)
    have e2 : -x * -x = x * x := by grind
    omega
theorem sq_pos {x : Int} (h : x ≠ 0) : 0 < x * x := by
  have := sq_nonneg x
  have : x * x ≠ 0 := fun e => by
    rcases Int.mul_eq_zero.mp e with e | e <;> exact h e
  omega

/-- Positive forms tell positive numbers. -/
theorem tA_pos {a b c t v : Int} (a0 : 0 < a) (d0 : b * b - 4 * a * c < 0) (h : t ≠ 0 ∨ v ≠ 0) : 0 < tA a b c t v := by
  have e : 4 * a * tA a b c t v = (2 * a * t + b * v) * (2 * a * t + b * v) + (4 * a * c - b * b) * (v * v) := by unfold tA; grind
  have h1 := sq_nonneg (2 * a * t + b * v)
  have h2 : 0 < (2 * a * t + b * v) * (2 * a * t + b * v) + (4 * a * c - b * b) * (v * v) := by
    by_cases hv : v = 0
    · subst hv
      have ht : t ≠ 0 := h.elim id (fun h => absurd rfl h)
      have := sq_pos (x := 2 * a * t + b * 0) (by
        have : a * t ≠ 0 := fun e => by rcases Int.mul_eq_zero.mp e with e | e <;> omega
        have e3 : 2 * a * t = 2 * (a * t) := by grind
        omega)
      omega
    · have := Int.mul_pos (show 0 < 4 * a * c - b * b by omega) (sq_pos hv)
      omega
  rcases Int.lt_or_le 0 (tA a b c t v) with h | h
  · exact h
  · exfalso
    have := Int.mul_nonneg (show (0 : Int) ≤ 4 * a by omega) (show 0 ≤ -tA a b c t v by omega)
    have e3 : 4 * a * -tA a b c t v = -(4 * a * tA a b c t v) := by grind
    omega

/-- A reduced form's numbers are not below what makes them. -/
theorem tA_low {a b c x y : Int} (a0 : 0 < a) (h1 : -a ≤ b) (h2 : b ≤ a) (h3 : a ≤ c) : 3 * (x * x) ≤ 4 * tA a b c x y ∧ 3 * (y * y) ≤ 4 * tA a b c x y := by
  have hb : 0 ≤ (a - b) * (a + b) := Int.mul_nonneg (by omega) (by omega)
  have hac : 0 ≤ a * (c - a) := Int.mul_nonneg (by omega) (by omega)
  have hx := sq_nonneg x
  have hy := sq_nonneg y
  -- 4 a m = (2 a x + b y)^2 + (4 a c - b b) y y; 4 a c - b b >= 3 a c
  have i1 : 4 * a * tA a b c x y - 3 * a * c * (y * y) = (2 * a * x + b * y) * (2 * a * x + b * y) + ((a - b) * (a + b)) * (y * y) + (a * (c - a)) * (y * y) := by unfold tA; grind
  have i2 : 4 * c * tA a b c x y - 3 * a * c * (x * x) = (2 * c * y + b * x) * (2 * c * y + b * x) + ((a - b) * (a + b)) * (x * x) + (a * (c - a)) * (x * x) := by unfold tA; grind
  have p1 := sq_nonneg (2 * a * x + b * y)
  have p2 := sq_nonneg (2 * c * y + b * x)
  have p3 := Int.mul_nonneg hb hy
  have p4 := Int.mul_nonneg hb hx
  have p5 := Int.mul_nonneg hac hy
  have p6 := Int.mul_nonneg hac hx
  have f1 : a * (4 * tA a b c x y - 3 * (c * (y * y))) = 4 * a * tA a b c x y - 3 * a * c * (y * y) := by grind
  have f2 : c * (4 * tA a b c x y - 3 * (a * (x * x))) = 4 * c * tA a b c x y - 3 * a * c * (x * x) := by grind
  have g1 : 0 ≤ 4 * tA a b c x y - 3 * (c * (y * y)) := by
    rcases Int.lt_or_le (4 * tA a b c x y - 3 * (c * (y * y))) 0 with h | h
    · have := Int.mul_pos a0 (show 0 < -(4 * tA a b c x y - 3 * (c * (y * y))) by omega)
      have e : a * -(4 * tA a b c x y - 3 * (c * (y * y))) = -(a * (4 * tA a b c x y - 3 * (c * (y * y)))) := by grind
      omega
    · exact h
  have g2 : 0 ≤ 4 * tA a b c x y - 3 * (a * (x * x)) := by
    rcases Int.lt_or_le (4 * tA a b c x y - 3 * (a * (x * x))) 0 with h | h
    · have := Int.mul_pos (show 0 < c by omega) (show 0 < -(4 * tA a b c x y - 3 * (a * (x * x))) by omega)
      have e : c * -(4 * tA a b c x y - 3 * (a * (x * x))) = -(c * (4 * tA a b c x y - 3 * (a * (x * x)))) := by grind
      omega
    · exact h
  have k1 := Int.mul_le_mul_of_nonneg_right (show (1 : Int) ≤ a by omega) hx
  have k2 := Int.mul_le_mul_of_nonneg_right (show (1 : Int) ≤ c by omega) hy
  omega

theorem sq_bd {x : Int} (h : 3 * (x * x) ≤ 4294967296) : -65536 ≤ x ∧ x ≤ 65536 := by
  constructor
  · rcases Int.lt_or_le x (-65536) with g | g
    · exfalso
      have := Int.mul_le_mul (show (65537 : Int) ≤ -x by omega) (show (65537 : Int) ≤ -x by omega) (by decide) (by omega)
      have e : -x * -x = x * x := by grind
      omega
    · exact g
  · rcases Int.lt_or_le 65536 x with g | g
    · exfalso
      have := Int.mul_le_mul (show (65537 : Int) ≤ x by omega) (show (65537 : Int) ≤ x by omega) (by decide) (by omega)
      omega
    · exact g

theorem unit_pos {x y : Int} (hx : 0 < x) (h : x * y = 1) : x = 1 ∧ y = 1 := by
  have hy : 0 < y := by
    rcases Int.lt_or_le 0 y with g | g
    · exact g
    · have := Int.mul_nonneg (Int.le_of_lt hx) (show 0 ≤ -y by omega)
      have e : x * -y = -(x * y) := by grind
      omega
  have h1 := Int.mul_le_mul_of_nonneg_left (show 1 ≤ y by omega) (Int.le_of_lt hx)
  have h2 := Int.mul_le_mul_of_nonneg_right (show 1 ≤ x by omega) (Int.le_of_lt hy)
  omega
theorem unit_of {x y : Int} (h : x * y = 1) : (x = 1 ∧ y = 1) ∨ (x = -1 ∧ y = -1) := by
  rcases Int.lt_trichotomy x 0 with g | g | g
  · have := unit_pos (x := -x) (y := -y) (by omega) (by grind)
    omega
  · subst g; simp at h
  · have := unit_pos g h; omega

/-- One of two reduced forms of a class, the first not the smaller: they are one. -/
theorem reduced_le {a b c a' b' c' : Int} (a0 : 0 < a) (r1 : inR a b) (r2 : ¬ small_ a b c) (s1 : inR a' b') (s2 : ¬ small_ a' b' c') (h : Eqv a b c a' b' c') (hle : a' ≤ a) : a' = a ∧ b' = b ∧ c' = c := by
  obtain ⟨t, u, v, w, hd, ha, hb, hc⟩ := h
  unfold inR small_ at *
  have hac : a ≤ c := by omega
  have unit : ∀ {x y : Int}, x * y = 1 → (x = 1 ∧ y = 1) ∨ (x = -1 ∧ y = -1) := fun h => unit_of h
  by_cases hv : v = 0
  · subst hv
    have htw : t * w = 1 := by omega
    rcases unit htw with ⟨rfl, rfl⟩ | ⟨rfl, rfl⟩
    · have e1 : a' = a := by rw [ha]; unfold tA; grind
      have e2 : b' = 2 * (a * u) + b := by rw [hb]; unfold tB; grind
      have hu : u = 0 := by
        rcases Int.lt_trichotomy u 0 with h | h | h
        · have := Int.mul_le_mul_of_nonneg_left (show u ≤ -1 by omega) (Int.le_of_lt a0); omega
        · exact h
        · have := Int.mul_le_mul_of_nonneg_left (show 1 ≤ u by omega) (Int.le_of_lt a0); omega
      subst hu
      exact ⟨e1, by omega, by rw [hc]; unfold tA; grind⟩
    · have e1 : a' = a := by rw [ha]; unfold tA; grind
      have e2 : b' = 2 * (a * -u) + b := by rw [hb]; unfold tB; grind
      have hu : u = 0 := by
        rcases Int.lt_trichotomy u 0 with h | h | h
        · have := Int.mul_le_mul_of_nonneg_left (show 1 ≤ -u by omega) (Int.le_of_lt a0); omega
        · exact h
        · have := Int.mul_le_mul_of_nonneg_left (show -u ≤ -1 by omega) (Int.le_of_lt a0); omega
      subst hu
      exact ⟨e1, by omega, by rw [hc]; unfold tA; grind⟩
  · by_cases ht : t = 0
    · subst ht
      have huv : u * -v = 1 := by grind
      have e1 : a' = c := by
        rcases unit huv with ⟨rfl, h⟩ | ⟨rfl, h⟩
        · obtain rfl : v = -1 := by omega
          rw [ha]; unfold tA; grind
        · obtain rfl : v = 1 := by omega
          rw [ha]; unfold tA; grind
      have eca : c = a := by omega
      have hb0 : 0 ≤ b := by omega
      subst eca
      have e2 : b' = 2 * (c * (v * w)) - b := by rw [hb]; unfold tB; grind
      have hvw : v * w = 0 ∨ v * w = 1 := by
        rcases Int.lt_or_le (v * w) 0 with h | h
        · have := Int.mul_le_mul_of_nonneg_left (show v * w ≤ -1 by omega) (Int.le_of_lt a0); omega
        · rcases Int.lt_or_le 1 (v * w) with g | g
          · have := Int.mul_le_mul_of_nonneg_left (show 2 ≤ v * w by omega) (Int.le_of_lt a0); omega
          · omega
      rcases hvw with h0 | h0
      · have hw : w = 0 := by rcases Int.mul_eq_zero.mp h0 with h | h; exact absurd h hv; exact h
        subst hw
        rw [h0] at e2
        have e3 : c' = c := by
          rcases unit huv with ⟨rfl, h⟩ | ⟨rfl, h⟩ <;> (rw [hc]; unfold tA; grind)
        have e4 : b' = -b := by omega
        have : ¬ b' < 0 := fun h => s2 (.inr ⟨by omega, h⟩)
        exact ⟨e1, by omega, e3⟩
      · rw [h0] at e2
        have e4 : b = c ∧ b' = c := by omega
        have e3 : c' = c := by
          rcases unit h0 with ⟨rfl, rfl⟩ | ⟨rfl, rfl⟩
          · obtain rfl : u = -1 := by omega
            rw [hc, e4.1]; unfold tA; grind
          · obtain rfl : u = 1 := by omega
            rw [hc, e4.1]; unfold tA; grind
        exact ⟨e1, by omega, e3⟩
    · have hq : t * v ≠ 0 := fun e => by rcases Int.mul_eq_zero.mp e with e | e; exact ht e; exact hv e
      have n1 := Int.mul_nonneg (show 0 ≤ c - a by omega) (sq_nonneg v)
      rcases Int.lt_or_le 0 (t * v) with hp | hp
      · exfalso
        have n2 := Int.mul_nonneg (Int.le_of_lt a0) (sq_nonneg (t - v))
        have n3 := Int.mul_nonneg (show 0 ≤ b + a - 1 by omega) (Int.le_of_lt hp)
        have n4 := Int.mul_nonneg (Int.le_of_lt a0) (show 0 ≤ t * v - 1 by omega)
        have e : tA a b c t v = a * ((t - v) * (t - v)) + (c - a) * (v * v) + (b + a - 1) * (t * v) + a * (t * v - 1) + a + t * v := by unfold tA; grind
        omega
      · have n2 := Int.mul_nonneg (Int.le_of_lt a0) (sq_nonneg (t + v))
        have n3 := Int.mul_nonneg (show 0 ≤ a - b by omega) (show 0 ≤ -(t * v) by omega)
        have n4 := Int.mul_nonneg (Int.le_of_lt a0) (show 0 ≤ -(t * v) - 1 by omega)
        have e : tA a b c t v = a * ((t + v) * (t + v)) + (c - a) * (v * v) + (a - b) * -(t * v) + a * (-(t * v) - 1) + a := by unfold tA; grind
        have z2 : a * ((t + v) * (t + v)) = 0 := by omega
        have z1 : (c - a) * (v * v) = 0 := by omega
        have z3 : (a - b) * -(t * v) = 0 := by omega
        have z4 : a * (-(t * v) - 1) = 0 := by omega
        have y4 : -(t * v) = 1 := by rcases Int.mul_eq_zero.mp z4 with h | h <;> omega
        have y2 : t + v = 0 := by
          rcases Int.mul_eq_zero.mp z2 with h | h
          · omega
          · rcases Int.mul_eq_zero.mp h with h | h <;> exact h
        have y1 : c = a := by
          rcases Int.mul_eq_zero.mp z1 with h | h
          · omega
          · rcases Int.mul_eq_zero.mp h with h | h <;> exact absurd h hv
        have y3 : b = a := by rcases Int.mul_eq_zero.mp z3 with h | h <;> omega
        subst y1 y3
        have e1 : a' = b := by omega
        have hvt : v = -t := by omega
        subst hvt
        have htt : t * t = 1 := by grind
        rcases unit htt with ⟨rfl, _⟩ | ⟨rfl, _⟩
        · obtain rfl : w = 1 - u := by omega
          have e2 : b' = b * (2 * u - 1) := by rw [hb]; unfold tB; grind
          have hu : u = 1 := by
            rcases Int.lt_or_le u 1 with h | h
            · have := Int.mul_le_mul_of_nonneg_left (show 2 * u - 1 ≤ -1 by omega) (Int.le_of_lt a0); omega
            · rcases Int.lt_or_le 1 u with g | g
              · have := Int.mul_le_mul_of_nonneg_left (show 3 ≤ 2 * u - 1 by omega) (Int.le_of_lt a0); omega
              · omega
          subst hu
          exact ⟨e1, by omega, by rw [hc]; unfold tA; grind⟩
        · obtain rfl : w = -1 - u := by omega
          have e2 : b' = b * (-1 - 2 * u) := by rw [hb]; unfold tB; grind
          have hu : u = -1 := by
            rcases Int.lt_or_le (-1) u with h | h
            · have := Int.mul_le_mul_of_nonneg_left (show -1 - 2 * u ≤ -1 by omega) (Int.le_of_lt a0); omega
            · rcases Int.lt_or_le u (-1) with g | g
              · have := Int.mul_le_mul_of_nonneg_left (show 3 ≤ -1 - 2 * u by omega) (Int.le_of_lt a0); omega
              · omega
          subst hu
          exact ⟨e1, by omega, by rw [hc]; unfold tA; grind⟩

theorem reduced_one {a b c a' b' c' : Int} (a0 : 0 < a) (b0 : 0 < a') (r1 : inR a b) (r2 : ¬ small_ a b c) (s1 : inR a' b') (s2 : ¬ small_ a' b' c') (h : Eqv a b c a' b' c') : a' = a ∧ b' = b ∧ c' = c := by
  rcases Int.le_total a' a with hle | hle
  · exact reduced_le a0 r1 r2 s1 s2 h hle
  · obtain ⟨h1, h2, h3⟩ := reduced_le b0 s1 s2 r1 r2 h.symm hle
    exact ⟨h1.symm, h2.symm, h3.symm⟩


end Go.Proofs.Ytifnooogklfifaa.Pure
