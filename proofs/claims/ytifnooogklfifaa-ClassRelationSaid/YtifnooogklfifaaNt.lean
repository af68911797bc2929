-- Plain laws of the row law08: whole numbers by sign and digits, the program's and the document's.
import Derived.Test.YtifnooogklfifaaNs
import Derived.KernelRfl
namespace Go.Proofs.Ytifnooogklfifaa.NatL
open Go Go.Proofs.Ytifnooogklfifaa.Ev
set_option linter.unusedVariables false
set_option linter.unusedSimpArgs false

/- Words -/
def W64 (n : Int) : Prop := -9223372036854775808 ≤ n ∧ n < 9223372036854775808


/-- Is a number's magnitude at most this? -/
def Bd (x X : Int) : Prop := -X ≤ x ∧ x ≤ X
theorem Bd.mul {x y X Y : Int} (hx : Bd x X) (hy : Bd y Y) : Bd (x * y) (X * Y) := by
  obtain ⟨h1, h2⟩ := hx
  obtain ⟨h3, h4⟩ := hy
  have p1 := Int.mul_nonneg (show 0 ≤ X - x by omega) (show 0 ≤ Y - y by omega)
  have p2 := Int.mul_nonneg (show 0 ≤ X + x by omega) (show 0 ≤ Y + y by omega)
  have p3 := Int.mul_nonneg (show 0 ≤ X - x by omega) (show 0 ≤ Y + y by omega)
  have p4 := Int.mul_nonneg (show 0 ≤ X + x by omega) (show 0 ≤ Y - y by omega)
  have e1 : (X - x) * (Y - y) + (X + x) * (Y + y) = 2 * (X * Y) + 2 * (x * y) := by grind
  have e2 : (X - x) * (Y + y) + (X + x) * (Y - y) = 2 * (X * Y) - 2 * (x * y) := by grind
  unfold Bd
  omega
theorem Bd.add {x y X Y : Int} (hx : Bd x X) (hy : Bd y Y) : Bd (x + y) (X + Y) := by
  unfold Bd at *; omega
theorem K_huge : 1000000000000000000000000000000000000000000000000000000000000 < K := by unfold K; decide +kernel

/- A word's sums and products do not mind words within. -/
theorem wi64_eq (n : Int) : wi64 n = Int.bmod n 18446744073709551616 := by
  simp only [wi64, IntKind.wrap]
  simp [IntKind.bits, IntKind.signed, Int.bmod]
  omega
theorem w_add_l (x y : Int) : wi64 (wi64 x + y) = wi64 (x + y) := by simp only [wi64_eq, Int.bmod_add_bmod]
theorem w_add_r (x y : Int) : wi64 (x + wi64 y) = wi64 (x + y) := by simp only [wi64_eq, Int.add_bmod_bmod]
theorem w_sub_l (x y : Int) : wi64 (wi64 x - y) = wi64 (x - y) := by simp only [wi64_eq, Int.bmod_sub_bmod]
theorem w_sub_r (x y : Int) : wi64 (x - wi64 y) = wi64 (x - y) := by simp only [wi64_eq, Int.sub_bmod_bmod]
theorem w_mul_l (x y : Int) : wi64 (wi64 x * y) = wi64 (x * y) := by simp only [wi64_eq, Int.bmod_mul_bmod]
theorem w_mul_r (x y : Int) : wi64 (x * wi64 y) = wi64 (x * y) := by simp only [wi64_eq, Int.mul_bmod_bmod]
theorem w_w (x : Int) : wi64 (wi64 x) = wi64 x := by have := w_add_l x 0; rwa [Int.add_zero, Int.add_zero] at this

theorem tmod_bd (k m : Int) (hm : 0 < m) : -m < Int.tmod k m ∧ Int.tmod k m < m := ⟨Int.lt_tmod_of_pos k hm, Int.tmod_lt_of_pos k hm⟩

theorem Bd.le {x X Y : Int} (h : Bd x X) (hx : X ≤ Y) : Bd x Y := by unfold Bd at *; omega
theorem Bd.neg {x X : Int} (h : Bd x X) : Bd (-x) X := by unfold Bd at *; omega
theorem Bd.w {x X : Int} (h : Bd x X) (hX : X < 9223372036854775808) : wi64 x = x := by unfold Bd at h; exact wi64_id (by omega) (by omega)
theorem Bd.W {x X : Int} (h : Bd x X) (hX : X < 9223372036854775808) : W64 x := by unfold Bd at h; unfold W64; omega

/-- A form's values under a turn. -/
def tA (a b c p r : Int) : Int := a * p * p + b * p * r + c * r * r
def tB (a b c p q r s : Int) : Int := 2 * a * p * q + b * p * s + b * q * r + 2 * c * r * s

theorem turns_key (a b c p q r s t u v w x y : Int) :
    tA (tA a b c p r) (tB a b c p q r s) (tA a b c q s) t v = tA a b c (p * t + q * v) (r * t + s * v) ∧
    tB (tA a b c p r) (tB a b c p q r s) (tA a b c q s) t u v w = tB a b c (p * t + q * v) (p * u + q * w) (r * t + s * v) (r * u + s * w) ∧
    tA a b c p r * x * x + tB a b c p q r s * x * y + tA a b c q s * y * y = a * (p * x + q * y) * (p * x + q * y) + b * (p * x + q * y) * (r * x + s * y) + c * (r * x + s * y) * (r * x + s * y) := by
  unfold tA tB
  refine ⟨?_, ?_, ?_⟩ <;> grind


end Go.Proofs.Ytifnooogklfifaa.NatL
