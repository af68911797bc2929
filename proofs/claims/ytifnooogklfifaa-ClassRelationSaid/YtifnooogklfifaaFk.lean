-- Plain laws of the row law10: greatest divisors, products of words, and a form made small.
import Derived.Test.YtifnooogklfifaaFh
import Derived.KernelRfl
namespace Go.Proofs.Ytifnooogklfifaa.Pure
open Go Go.Proofs.Ytifnooogklfifaa.Ev
open Go.Proofs.Ytifnooogklfifaa.NatL (ab ab_cases ab_nonneg ab_of ab_zero GT gcdI gcdI_nonneg gcdI_left gcdI_right ab_dvd gcd_ab0 sg sn pB Zr wu64_id tmod_nn tdiv_nn fdiv_pow W64)
set_option linter.unusedVariables false
set_option linter.unusedSimpArgs false

theorem gcd64 {N : Nat} (hN : 1000000001 < N) {a b : Int} (ha : ab a ≤ 1099511627776) (hb : ab b ≤ 1099511627776) : ∃ g x y, GT a b g x y ∧ 0 ≤ g ∧ g ≤ 1099511627776 ∧ modular_Gcd.f N a b = some (g, x, y) := by
  have hK := NatL.K_big
  have hH := NatL.K_huge
  have a0 := ab_nonneg a
  have b0 := ab_nonneg b
  obtain ⟨g, x, y, h1, h2, h3⟩ := NatL.z_gcd hN (a := a) (b := b) (by omega) (by omega)
  have g0 := gcdI_nonneg a b
  have gle : gcdI a b ≤ 1099511627776 := by
    by_cases h : b = 0
    · subst h; rw [gcd_ab0]; exact ha
    · have := Int.le_of_dvd (by have : ab b ≠ 0 := fun q => h (ab_zero.mp q); omega) (ab_dvd (gcdI_right a b))
      omega
  rw [← h1.eg] at g0 gle
  have gz : Zr g := NatL.zr_of (by rw [ab_of g0]; omega)
  have bx : -9223372036854775808 ≤ x ∧ x < 9223372036854775808 := by
    by_cases hy : b = 0
    · obtain ⟨k1, k2⟩ := h1.bz hy
      rw [k1]
      exact NatL.sn_bound a
    · obtain ⟨k1, k2⟩ := h1.lo hy
      have := Int.ediv_le_self g b0
      omega
  have by' : -9223372036854775808 ≤ y ∧ y < 9223372036854775808 := by rcases ab_cases y with ⟨c1, c2⟩ | ⟨c1, c2⟩ <;> omega
  have zx : Zr x := NatL.zr_i64 bx.1 bx.2
  have zy : Zr y := NatL.zr_i64 by'.1 by'.2
  have wa : -9223372036854775808 ≤ a ∧ a < 9223372036854775808 := by rcases ab_cases a with ⟨c1, c2⟩ | ⟨c1, c2⟩ <;> omega
  have wb : -9223372036854775808 ≤ b ∧ b < 9223372036854775808 := by rcases ab_cases b with ⟨c1, c2⟩ | ⟨c1, c2⟩ <;> omega
  have c1 : decide (mx2 a b > 4611686018427387904) = false := by
    refine decide_eq_false ?_
    unfold mx2
    rcases ab_cases a with ⟨c1, c2⟩ | ⟨c1, c2⟩ <;> rcases ab_cases b with ⟨c3, c4⟩ | ⟨c3, c4⟩ <;> split <;> omega
  have c2 : decide (mn2 a b < -4611686018427387904) = false := by
    refine decide_eq_false ?_
    unfold mn2
    rcases ab_cases a with ⟨c1, c2⟩ | ⟨c1, c2⟩ <;> rcases ab_cases b with ⟨c3, c4⟩ | ⟨c3, c4⟩ <;> split <;> omega
  refine ⟨g, x, y, h1, g0, gle, ?_⟩
  unfold modular_Gcd.f
  rw [c1, c2]
  simp only [cond_false]
  rw [NatL.z_of hN wa.1 wa.2]
  simp only [Option.bind_some]
  rw [NatL.z_of hN wb.1 wb.2]
  simp only [Option.bind_some]
  rw [h3]
  simp only [Option.bind_some]
  rw [NatL.z_make' false gz, ab_of g0]
  have sf : NatL.sv false g = g := rfl
  rw [sf]
  simp only [Option.bind_some]
  rw [NatL.z_int64 gz, if_pos (by omega), NatL.z_int64 zx, if_pos bx, NatL.z_int64 zy, if_pos by']
  rfl


theorem content_model {N : Nat} (hN : 1000000001 < N) {a b c : Int} (h : inB a b c) : binary_Content.f N a b c = some (gcdI (gcdI a b) c) := by
  have ha : ab a ≤ 1073741824 := by obtain ⟨h1, _⟩ := h; rcases ab_cases a with ⟨c1, c2⟩ | ⟨c1, c2⟩ <;> omega
  have hb : ab b ≤ 1073741824 := by obtain ⟨_, h1, _⟩ := h; rcases ab_cases b with ⟨c1, c2⟩ | ⟨c1, c2⟩ <;> omega
  have hc : ab c ≤ 1073741824 := by obtain ⟨_, _, h1⟩ := h; rcases ab_cases c with ⟨c1, c2⟩ | ⟨c1, c2⟩ <;> omega
  obtain ⟨g, x, y, h1, h2, h3, h4⟩ := gcd64 hN (a := a) (b := b) (by omega) (by omega)
  obtain ⟨g', x', y', h5, h6, h7, h8⟩ := gcd64 hN (a := g) (b := c) (by rw [ab_of h2]; omega) (by omega)
  unfold binary_Content.f
  rw [within_model, decide_eq_true h]
  simp only [Option.bind_some, Bool.not_true, cond_false]
  rw [h4]
  simp only [Option.bind_some]
  rw [h8, h5.eg, h1.eg]
  rfl


end Go.Proofs.Ytifnooogklfifaa.Pure
