-- Plain laws of the row law08: reducing a form, the program's way and the document's.
import Derived.Test.YtifnooogklfifaaNt
import Derived.KernelRfl
namespace Go.Proofs.Ytifnooogklfifaa.Pure
open Go Go.Proofs.Ytifnooogklfifaa.Ev
set_option linter.unusedVariables false
set_option linter.unusedSimpArgs false

theorem wi64_id {n : Int} (h1 : -9223372036854775808 ≤ n) (h2 : n < 9223372036854775808) : wi64 n = n := by
  simp only [wi64, IntKind.wrap]
  simp [IntKind.bits, IntKind.signed]
  omega

/-- A positive form whose discriminant may be. -/
structure Good (a b c : Int) : Prop where
  a0 : 0 < a
  a1 : a ≤ 2147483648
  b0 : -2147483648 ≤ b
  b1 : b ≤ 2147483648
  c0 : 0 < c
  c1 : c ≤ 2147483648
  d0 : b * b - 4 * a * c < 0
  d1 : -4294967296 ≤ b * b - 4 * a * c

theorem fl {x y : Int} (hy : 0 < y) : (Int.tmod x y < 0 → x / y = Int.tdiv x y - 1 ∧ x % y = Int.tmod x y + y) ∧ (¬ Int.tmod x y < 0 → x / y = Int.tdiv x y ∧ x % y = Int.tmod x y) := by
  have h1 := Int.mul_tdiv_add_tmod x y
  have h2 := Int.tmod_lt_of_pos x hy
  have h3 := Int.lt_tmod_of_pos x hy
  refine ⟨fun h => (Int.ediv_emod_unique hy).mpr ⟨?_, by omega, by omega⟩, fun h => (Int.ediv_emod_unique hy).mpr ⟨by omega, by omega, by omega⟩⟩
  rw [Int.mul_sub, Int.mul_one]
  omega

/-- What a shift leaves. -/
theorem Good.shift {a b c : Int} (h : Good a b c) : Good a (b + 2 * ((a - b) / (2 * a)) * a) ((a * ((a - b) / (2 * a)) + b) * ((a - b) / (2 * a)) + c) ∧ -a < b + 2 * ((a - b) / (2 * a)) * a ∧ b + 2 * ((a - b) / (2 * a)) * a ≤ a := by
  have h1 := Int.mul_ediv_add_emod (a - b) (2 * a)
  have h2 := Int.emod_nonneg (a - b) (b := 2 * a) (by have := h.a0; omega)
  have h3 := Int.emod_lt_of_pos (a - b) (b := 2 * a) (by have := h.a0; omega)
  generalize (a - b) / (2 * a) = k at *
  generalize (a - b) % (2 * a) = r at *
  have e : b + 2 * k * a = a - r := by
    have : 2 * a * k = 2 * k * a := by grind
    omega
  have hd : (b + 2 * k * a) * (b + 2 * k * a) - 4 * a * ((a * k + b) * k + c) = b * b - 4 * a * c := by grind
  rw [e] at hd ⊢
  obtain ⟨a0, a1, b0, b1, c0, c1, d0, d1⟩ := h
  have hsq : (a - r) * (a - r) ≤ a * a := by
    have p1 : 0 ≤ r * (2 * a - r) := Int.mul_nonneg h2 (by omega)
    have p2 : (a - r) * (a - r) + r * (2 * a - r) = a * a := by grind
    omega
  have hsq0 : 0 ≤ (a - r) * (a - r) := by
    rcases Int.le_total 0 (a - r) with h | h
    · exact Int.mul_nonneg h h
    · have := Int.mul_nonneg (show (0:Int) ≤ -(a - r) by omega) (show (0:Int) ≤ -(a - r) by omega)
      have e2 : -(a - r) * -(a - r) = (a - r) * (a - r) := by grind
      omega
  generalize (a * k + b) * k + c = c' at *
  have hpos : 0 < c' := by
    rcases Int.lt_or_le 0 c' with h | h
    · exact h
    · exfalso
      have := Int.mul_nonneg (show (0:Int) ≤ 4 * a by omega) (show (0:Int) ≤ -c' by omega)
      have e2 : 4 * a * -c' = -(4 * a * c') := by grind
      omega
  have hle : c' ≤ 2147483648 := by
    rcases Int.lt_or_le 2147483648 c' with h | h
    · exfalso
      have p1 := Int.mul_le_mul_of_nonneg_left (show (2147483649 : Int) ≤ c' by omega) (show (0:Int) ≤ 4 * a by omega)
      have p2 := Int.mul_le_mul_of_nonneg_left a1 (show (0:Int) ≤ a by omega)
      have e3 : a * 2147483648 = 2147483648 * a := by grind
      have e4 : 4 * a * 2147483649 = 8589934596 * a := by grind
      omega
    · exact h
  exact ⟨⟨a0, a1, by omega, by omega, hpos, hle, by omega, by omega⟩, by omega, by omega⟩

theorem Good.swap {a b c : Int} (h : Good a b c) : Good c (-b) a := by
  obtain ⟨a0, a1, b0, b1, c0, c1, d0, d1⟩ := h
  have e : -b * -b - 4 * c * a = b * b - 4 * a * c := by grind
  exact ⟨c0, c1, by omega, by omega, a0, a1, by omega, by omega⟩

theorem k_bound {a b : Int} (a0 : 0 < a) (a1 : a ≤ 2147483648) (b0 : -2147483648 ≤ b) (b1 : b ≤ 2147483648) : -4294967296 ≤ (a - b) / (2 * a) ∧ (a - b) / (2 * a) ≤ 4294967296 ∧ -8589934592 ≤ a * ((a - b) / (2 * a)) ∧ a * ((a - b) / (2 * a)) ≤ 8589934592 := by
  have h1 := Int.mul_ediv_add_emod (a - b) (2 * a)
  have h2 := Int.emod_nonneg (a - b) (b := 2 * a) (by omega)
  have h3 := Int.emod_lt_of_pos (a - b) (b := 2 * a) (by omega)
  generalize (a - b) / (2 * a) = k at *
  generalize (a - b) % (2 * a) = r at *
  have e : 2 * a * k = 2 * (a * k) := by grind
  have hk : -8589934592 ≤ a * k ∧ a * k ≤ 8589934592 := by omega
  refine ⟨?_, ?_, hk.1, hk.2⟩
  · rcases Int.lt_or_le k (-4294967296) with h | h
    · exfalso
      have p := Int.mul_le_mul_of_nonneg_right (show (1:Int) ≤ a by omega) (show (0:Int) ≤ -k by omega)
      have e2 : a * -k = -(a * k) := by grind
      omega
    · exact h
  · rcases Int.lt_or_le 4294967296 k with h | h
    · exfalso
      have p := Int.mul_le_mul_of_nonneg_right (show (1:Int) ≤ a by omega) (show (0:Int) ≤ k by omega)
      omega
    · exact h


end Go.Proofs.Ytifnooogklfifaa.Pure
