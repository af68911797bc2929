-- Plain laws of the row law10: forms whose lattices are alike are properly equivalent.
import Derived.Test.YtbnoablfajmaeaaGreatMb
namespace Go.Proofs.YtbnoablfajmaeaaGreat.Mod
set_option linter.unusedVariables false
set_option linter.unusedSimpArgs false

theorem ml_lin (s m : Int) (k : E) (x y : Int) (u v : E) : ml s m k (ad (sm x u) (sm y v)) = ad (sm x (ml s m k u)) (sm y (ml s m k v)) := by rw [ml_ad, ml_sm, ml_sm]
theorem lin (x y a t : Int) : (⟨x * a + t * y, y⟩ : E) = ad (sm x ⟨a, 0⟩) (sm y ⟨t, 1⟩) := E.ext' (by simp only [ad, sm]; grind) (by simp only [ad, sm]; grind)

theorem nm_form {s m a t c : Int} (hc : t * t + s * t - m = a * c) (X Y : Int) : nm s m ⟨X * a + t * Y, Y⟩ = a * (a * X * X + (2 * t + s) * X * Y + c * Y * Y) := by
  have e : nm s m ⟨X * a + t * Y, Y⟩ = a * (a * X * X + (2 * t + s) * X * Y) + (t * t + s * t - m) * (Y * Y) := by simp only [nm]; grind
  rw [e, hc]; grind

theorem ring2 (s m k l x y u v : Int) : (ml s m (cj s (ml s m ⟨k, l⟩ ⟨x, y⟩)) (ml s m ⟨k, l⟩ ⟨u, v⟩)).im = nm s m ⟨k, l⟩ * (x * v - y * u) := by simp only [ml, cj, nm]; grind

theorem alike_kl {s m a t c a' t' c' : Int} (hd : s * s + 4 * m < 0) (ha : 0 < a) (ha' : 0 < a') (hc : t * t + s * t - m = a * c) (hc' : t' * t' + s * t' - m = a' * c')
    {k l : E} (hk : k ≠ ze) (hl : l ≠ ze) (h : ∀ z, Sc s m k (Fo a t) z ↔ Sc s m l (Fo a' t') z) : nm s m k * a = nm s m l * a' ∧ ∃ p q r u : Int, p * u - q * r = 1 ∧ a = a' * p * p + (2 * t' + s) * p * r + c' * r * r ∧ 2 * t + s = 2 * a' * p * q + (2 * t' + s) * p * u + (2 * t' + s) * q * r + 2 * c' * r * u ∧
      c = a' * q * q + (2 * t' + s) * q * u + c' * u * u := by
  obtain ⟨X1, m1, e1⟩ := (h _).mp ⟨_, Fo.a a t, rfl⟩
  obtain ⟨X2, m2, e2⟩ := (h _).mp ⟨_, Fo.t a t, rfl⟩
  obtain ⟨Y1, m3, e3⟩ := (h _).mpr ⟨_, Fo.a a' t', rfl⟩
  obtain ⟨Y2, m4, e4⟩ := (h _).mpr ⟨_, Fo.t a' t', rfl⟩
  obtain ⟨p, g1⟩ := m1.gen
  obtain ⟨q, g2⟩ := m2.gen
  obtain ⟨z1, g3⟩ := m3.gen
  obtain ⟨z2, g4⟩ := m4.gen
  generalize X1.im = r at *
  generalize X2.im = u at *
  generalize Y1.im = w1 at *
  generalize Y2.im = w2 at *
  subst g1
  subst g2
  subst g3
  subst g4
  -- back and forth is nothing
  have b1 : (⟨a, 0⟩ : E) = ad (sm p ⟨z1 * a + t * w1, w1⟩) (sm r ⟨z2 * a + t * w2, w2⟩) := by
    refine ml_left hd hk (s := s) (m := m) ?_
    rw [ml_lin, ← e3, ← e4, ← ml_lin, ← lin]; exact e1
  have b2 : (⟨t, 1⟩ : E) = ad (sm q ⟨z1 * a + t * w1, w1⟩) (sm u ⟨z2 * a + t * w2, w2⟩) := by
    refine ml_left hd hk (s := s) (m := m) ?_
    rw [ml_lin, ← e3, ← e4, ← ml_lin, ← lin]; exact e2
  have i1 : p * w1 + r * w2 = 0 := by have := congrArg E.im b1; simp only [ad, sm] at this; omega
  have i2 : q * w1 + u * w2 = 1 := by have := congrArg E.im b2; simp only [ad, sm] at this; omega
  have i3 : p * z1 + r * z2 = 1 := by
    have := congrArg E.re b1
    simp only [ad, sm] at this
    have e : a * (p * z1 + r * z2) = a * 1 := by
      have e5 : p * (z1 * a + t * w1) + r * (z2 * a + t * w2) = a * (p * z1 + r * z2) + t * (p * w1 + r * w2) := by grind
      rw [e5, i1] at this
      omega
    exact Int.eq_of_mul_eq_mul_left (by omega) e
  have i4 : q * z1 + u * z2 = 0 := by
    have := congrArg E.re b2
    simp only [ad, sm] at this
    have e : a * (q * z1 + u * z2) = a * 0 := by
      have e5 : q * (z1 * a + t * w1) + u * (z2 * a + t * w2) = a * (q * z1 + u * z2) + t * (q * w1 + u * w2) := by grind
      rw [e5, i2] at this
      omega
    exact Int.eq_of_mul_eq_mul_left (by omega) e
  have det : (p * u - q * r) * (z1 * w2 - z2 * w1) = 1 := by
    have e5 : (p * u - q * r) * (z1 * w2 - z2 * w1) = (p * z1 + r * z2) * (q * w1 + u * w2) - (p * w1 + r * w2) * (q * z1 + u * z2) := by grind
    rw [e5, i1, i2, i3, i4]; decide
  -- which way they turn
  have hnk := nm_pos hd hk
  have hnl := nm_pos hd hl
  have dir : nm s m k * a = nm s m l * a' * (p * u - q * r) := by
    have r1 := ring2 s m k.re k.im a 0 t 1
    have r2 := ring2 s m l.re l.im (p * a' + t' * r) r (q * a' + t' * u) u
    have hk' : (⟨k.re, k.im⟩ : E) = k := rfl
    have hl' : (⟨l.re, l.im⟩ : E) = l := rfl
    rw [hk'] at r1
    rw [hl'] at r2
    rw [e1, e2, r2] at r1
    have e6 : (p * a' + t' * r) * u - r * (q * a' + t' * u) = a' * (p * u - q * r) := by grind
    rw [e6] at r1
    have e7 : a * 1 - 0 * t = a := by omega
    rw [e7, ← Int.mul_assoc] at r1
    exact r1.symm
  have la : 0 < nm s m k * a := Int.mul_pos hnk ha
  have la' : 0 < nm s m l * a' := Int.mul_pos hnl ha'
  have D1 : p * u - q * r = 1 := by
    have hD : 0 < p * u - q * r := by
      rcases Int.lt_or_le 0 (p * u - q * r) with h | h
      · exact h
      · have := Int.mul_nonneg (Int.le_of_lt la') (show 0 ≤ -(p * u - q * r) by omega)
        rw [Int.mul_neg] at this; omega
    have hdv : (p * u - q * r) ∣ 1 := ⟨_, det.symm⟩
    have := Int.le_of_dvd (by decide) hdv
    omega
  have same : nm s m k * a = nm s m l * a' := by rw [dir, D1]; omega
  have all : ∀ X Y : Int, a * X * X + (2 * t + s) * X * Y + c * Y * Y = a' * (X * p + Y * q) * (X * p + Y * q) + (2 * t' + s) * (X * p + Y * q) * (X * r + Y * u) + c' * (X * r + Y * u) * (X * r + Y * u) := by
    intro X Y
    have e5 : ml s m k ⟨X * a + t * Y, Y⟩ = ml s m l ⟨(X * p + Y * q) * a' + t' * (X * r + Y * u), X * r + Y * u⟩ := by
      rw [lin X Y a t, ml_lin, e1, e2, ← ml_lin]
      congr 1
      exact E.ext' (by simp only [ad, sm]; grind) (by simp only [ad, sm])
    have e6 := congrArg (nm s m) e5
    rw [nm_ml, nm_ml, nm_form hc, nm_form hc', ← Int.mul_assoc, ← Int.mul_assoc, same] at e6
    exact Int.eq_of_mul_eq_mul_left (by omega) e6
  have f1 := all 1 0
  have f2 := all 0 1
  have f3 := all 1 1
  simp only [Int.mul_one, Int.mul_zero, Int.one_mul, Int.zero_mul, Int.add_zero, Int.zero_add] at f1 f2 f3
  refine ⟨same, p, q, r, u, D1, ?_, ?_, ?_⟩
  · exact f1
  · have e8 : 2 * t + s = (a + (2 * t + s) + c) - a - c := by omega
    rw [e8, f3, f1, f2]
    grind
  · exact f2

theorem alike {s m a t c a' t' c' : Int} (hd : s * s + 4 * m < 0) (ha : 0 < a) (ha' : 0 < a') (hc : t * t + s * t - m = a * c) (hc' : t' * t' + s * t' - m = a' * c')
    (h : Hm s m (Fo a t) (Fo a' t')) : ∃ p q r u : Int, p * u - q * r = 1 ∧ a = a' * p * p + (2 * t' + s) * p * r + c' * r * r ∧ 2 * t + s = 2 * a' * p * q + (2 * t' + s) * p * u + (2 * t' + s) * q * r + 2 * c' * r * u ∧
      c = a' * q * q + (2 * t' + s) * q * u + c' * u * u := by
  obtain ⟨k, l, hk, hl, h⟩ := h
  exact (alike_kl hd ha ha' hc hc' hk hl h).2

end Go.Proofs.YtbnoablfajmaeaaGreat.Mod
