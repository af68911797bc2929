-- Plain laws of the row law10: greatest divisors, products of words, and a form made small.
import Derived.Test.YtbnoablfajmaeaaGreatPa
import Derived.Test.YtbnoablfajmaeaaGreatFh
import Derived.Test.YtbnoablfajmaeaaGreatMc
namespace Go.Proofs.YtbnoablfajmaeaaGreat.Pure
open Go Go.Proofs.YtbnoablfajmaeaaGreat.Ev
open Go.Proofs.YtbnoablfajmaeaaGreat.NatL (ab ab_cases ab_nonneg ab_of ab_zero GT gcdI gcdI_nonneg gcdI_left gcdI_right ab_dvd gcd_ab0 sg sn pB Zr wu64_id tmod_nn tdiv_nn fdiv_pow W64)
open Go.Proofs.YtbnoablfajmaeaaGreat.Mod (Fo Hm PM)
set_option linter.unusedVariables false
set_option linter.unusedSimpArgs false

theorem gcd64 {N : Nat} (hN : 1000000001 < N) {a b : Int} (ha : ab a ≤ 1099511627776) (hb : ab b ≤ 1099511627776) : ∃ g x y, GT a b g x y ∧ 0 ≤ g ∧ g ≤ 1099511627776 ∧ modular_Gcd.f N a b = some (g, x, y) := by
  have hK := NatL.K_big
  have hH := NatL.K_huge
  have a0 := ab_nonneg a
  have b0 := ab_nonneg b
  obtain ⟨g, x, y, h1, h2, h3⟩ := NatL.z_gcd hN (a := a) (b := b) (by omega) (by omega)
  have g0 := gcdI_nonneg a b
  have gle : gcdI a b ≤ 1099511627776 := by
    by_cases h : b = 0
    · subst h; rw [gcd_ab0]; exact ha
    · have := Int.le_of_dvd (by have : ab b ≠ 0 := fun q => h (ab_zero.mp q); omega) (ab_dvd (gcdI_right a b))
      omega
  rw [← h1.eg] at g0 gle
  have gz : Zr g := NatL.zr_of (by rw [ab_of g0]; omega)
  have bx : -9223372036854775808 ≤ x ∧ x < 9223372036854775808 := by
    by_cases hy : b = 0
    · obtain ⟨k1, k2⟩ := h1.bz hy
      rw [k1]
      exact NatL.sn_bound a
    · obtain ⟨k1, k2⟩ := h1.lo hy
      have := Int.ediv_le_self g b0
      omega
  have by' : -9223372036854775808 ≤ y ∧ y < 9223372036854775808 := by rcases ab_cases y with ⟨c1, c2⟩ | ⟨c1, c2⟩ <;> omega
  have zx : Zr x := NatL.zr_i64 bx.1 bx.2
  have zy : Zr y := NatL.zr_i64 by'.1 by'.2
  have wa : -9223372036854775808 ≤ a ∧ a < 9223372036854775808 := by rcases ab_cases a with ⟨c1, c2⟩ | ⟨c1, c2⟩ <;> omega
  have wb : -9223372036854775808 ≤ b ∧ b < 9223372036854775808 := by rcases ab_cases b with ⟨c1, c2⟩ | ⟨c1, c2⟩ <;> omega
  have c1 : decide (mx2 a b > 4611686018427387904) = false := by
    refine decide_eq_false ?_
    unfold mx2
    rcases ab_cases a with ⟨c1, c2⟩ | ⟨c1, c2⟩ <;> rcases ab_cases b with ⟨c3, c4⟩ | ⟨c3, c4⟩ <;> split <;> omega
  have c2 : decide (mn2 a b < -4611686018427387904) = false := by
    refine decide_eq_false ?_
    unfold mn2
    rcases ab_cases a with ⟨c1, c2⟩ | ⟨c1, c2⟩ <;> rcases ab_cases b with ⟨c3, c4⟩ | ⟨c3, c4⟩ <;> split <;> omega
  refine ⟨g, x, y, h1, g0, gle, ?_⟩
  unfold modular_Gcd.f
  rw [c1, c2]
  simp only [cond_false]
  rw [NatL.z_of hN wa.1 wa.2]
  simp only [Option.bind_some]
  rw [NatL.z_of hN wb.1 wb.2]
  simp only [Option.bind_some]
  rw [h3]
  simp only [Option.bind_some]
  rw [NatL.z_make' false gz, ab_of g0]
  have sf : NatL.sv false g = g := rfl
  rw [sf]
  simp only [Option.bind_some]
  rw [NatL.z_int64 gz, if_pos (by omega), NatL.z_int64 zx, if_pos bx, NatL.z_int64 zy, if_pos by']
  rfl

theorem and_low_u {x : Int} (h0 : 0 ≤ x) (h1 : x < 4294967296) : bit_and .u64 x 4294967295 = x := by
  obtain ⟨a, rfl⟩ := Int.eq_ofNat_of_zero_le h0
  have t1 : (BitVec.ofInt 64 (a : Int)).toNat = a := by simp [BitVec.toNat_ofInt]; omega
  have t2 : (BitVec.ofInt 64 (4294967295 : Int)).toNat = 2 ^ 32 - 1 := by decide
  have e : (BitVec.ofInt 64 (a : Int) &&& BitVec.ofInt 64 (4294967295 : Int)).toNat = a := by
    rw [BitVec.toNat_and, t1, t2, Nat.and_two_pow_sub_one_eq_mod, Nat.mod_eq_of_lt (by omega)]
  show IntKind.wrap .u64 ((BitVec.ofInt 64 (a : Int) &&& BitVec.ofInt 64 (4294967295 : Int)).toNat : Int) = _
  rw [e]
  exact wu64_id (by omega) (by omega)

theorem fd32 {x : Int} (h0 : 0 ≤ x) (h1 : x < 4294967296) : Int.fdiv x (2 ^ 32) = 0 := by
  rw [fdiv_pow]
  have : (2 : Int) ^ 32 = 4294967296 := by decide
  rw [this]; omega

theorem mul64_model (N : Nat) {x y : Int} (x0 : 0 ≤ x) (x1 : x < 4294967296) (y0 : 0 ≤ y) (y1 : y < 4294967296) : bits_Mul64.f N x y = some (0, x * y) := by
  have m0 := Int.mul_nonneg x0 y0
  have m1 := Int.mul_le_mul_of_nonneg_left (show y ≤ 4294967295 by omega) x0
  have m2 := Int.mul_le_mul_of_nonneg_right (show x ≤ 4294967295 by omega) (show (0 : Int) ≤ 4294967295 by omega)
  have hm : x * y ≤ 18446744065119617025 := by omega
  have e32 : (2 : Int) ^ 32 = 4294967296 := by decide
  have w0 : wu64 (x * y) = x * y := wu64_id m0 (by omega)
  have z0 : wu64 0 = 0 := rfl
  have f1 := fd32 x0 x1
  have f2 := fd32 y0 y1
  have t0 : 0 ≤ Int.fdiv (x * y) (2 ^ 32) ∧ Int.fdiv (x * y) (2 ^ 32) < 4294967296 := by rw [fdiv_pow, e32]; omega
  unfold bits_Mul64.f
  rw [and_low_u x0 x1, and_low_u y0 y1, f1, f2, w0]
  simp only [Int.zero_mul, Int.mul_zero, Int.zero_add, z0]
  rw [wu64_id t0.1 (by omega), and_low_u t0.1 t0.2, fd32 t0.1 t0.2]
  simp only [Int.add_zero, z0]
  rw [wu64_id t0.1 (by omega), fd32 t0.1 t0.2]
  rfl

theorem div64_model (N : Nat) {x y : Int} (y0 : 0 < y) : bits_Div64.f N 0 x y = some (wu64 (Int.tdiv x y), Int.tmod x y) := by
  unfold bits_Div64.f
  have c1 : (y == 0) = false := beq_eq_false_iff_ne.mpr (by omega)
  have c2 : decide (y ≤ 0) = false := decide_eq_false (by omega)
  have c3 : ((0 : Int) == 0) = true := rfl
  rw [c1, c2, c3]
  rfl

theorem mod_model (N : Nat) {a m : Int} (m0 : 0 < m) (m1 : m < 9223372036854775808) : modular_mod.f N a m = some (a % m) := by
  unfold modular_mod.f
  have c1 : (!(m == 0)) = true := by
    have : (m == 0) = false := beq_eq_false_iff_ne.mpr (by omega)
    rw [this]; rfl
  rw [c1]
  simp only [cond_true]
  have hf := fl (x := a) m0
  have e0 := Int.emod_nonneg a (show m ≠ 0 by omega)
  have e1 := Int.emod_lt_of_pos a m0
  by_cases h : Int.tmod a m < 0
  · rw [decide_eq_true h]
    obtain ⟨_, q⟩ := hf.1 h
    simp only [cond_true]
    rw [← q, wi64_id (by omega) (by omega)]
  · rw [decide_eq_false h]
    obtain ⟨_, q⟩ := hf.2 h
    simp only [cond_false]
    rw [q]

theorem mul_model {N : Nat} {a b m : Int} (m0 : 0 < m) (m1 : m ≤ 2147483648) : compose_mul.f N a b m = some ((a * b) % m) := by
  have a0 := Int.emod_nonneg a (show m ≠ 0 by omega)
  have a1 := Int.emod_lt_of_pos a m0
  have b0 := Int.emod_nonneg b (show m ≠ 0 by omega)
  have b1 := Int.emod_lt_of_pos b m0
  have p0 := Int.mul_nonneg a0 b0
  unfold compose_mul.f modular_Mul.f modular_times.f
  rw [decide_eq_false (show ¬ m < 1 by omega), decide_eq_false (show ¬ m > 4611686018427387904 by omega), mod_model N m0 (by omega), mod_model N m0 (by omega)]
  simp only [cond_false, Option.bind_some]
  rw [wu64_id a0 (by omega), wu64_id b0 (by omega), wu64_id (n := m) (by omega) (by omega), mul64_model N a0 (by omega) b0 (by omega)]
  simp only [Option.bind_some]
  rw [div64_model N m0]
  simp only [Option.bind_some]
  rw [tmod_nn p0, ← Int.mul_emod, wi64_id (by have := Int.emod_nonneg (a * b) (show m ≠ 0 by omega); omega) (by have := Int.emod_lt_of_pos (a * b) m0; omega)]

end Go.Proofs.YtbnoablfajmaeaaGreat.Pure
