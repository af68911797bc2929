-- Plain laws of the row law10: ComposeOnes.
import Derived.Test.YtbnoablfajmaeaaGreatT7
import Derived.KernelRfl
namespace Go.Proofs.YtbnoablfajmaeaaGreat.Pure
open Go Go.Proofs.YtbnoablfajmaeaaGreat.Ev
set_option linter.unusedVariables false
set_option linter.unusedSimpArgs false

theorem wi64_id {n : Int} (h1 : -9223372036854775808 ≤ n) (h2 : n < 9223372036854775808) : wi64 n = n := by
  simp only [wi64, IntKind.wrap]
  simp [IntKind.bits, IntKind.signed]
  omega

theorem and_low {x : Int} (h0 : 0 ≤ x) (h1 : x < 9223372036854775808) (k : Nat) (hk : k ≤ 32) : bit_and .i64 x (2 ^ k - 1) = x % 2 ^ k := by
  have hp : (2 : Nat) ^ k ≤ 2 ^ 32 := Nat.pow_le_pow_right (by decide) hk
  have hp0 : 0 < (2 : Nat) ^ k := Nat.pow_pos (by decide)
  have e2 : ((2 : Int) ^ k) = ((2 ^ k : Nat) : Int) := by simp
  obtain ⟨a, rfl⟩ := Int.eq_ofNat_of_zero_le h0
  have m : ((2 : Int) ^ k - 1) = ((2 ^ k - 1 : Nat) : Int) := by rw [e2]; omega
  have t1 : (BitVec.ofInt 64 (a : Int)).toNat = a := by simp [BitVec.toNat_ofInt]; omega
  have t2 : (BitVec.ofInt 64 ((2 ^ k - 1 : Nat) : Int)).toNat = 2 ^ k - 1 := by rw [BitVec.toNat_ofInt]; omega
  have e : (BitVec.ofInt 64 (a : Int) &&& BitVec.ofInt 64 ((2 ^ k - 1 : Nat) : Int)).toNat = a % 2 ^ k := by
    rw [BitVec.toNat_and, t1, t2, Nat.and_two_pow_sub_one_eq_mod]
  have hlt : a % 2 ^ k < 2 ^ k := Nat.mod_lt _ hp0
  rw [m, e2]
  show IntKind.wrap .i64 ((BitVec.ofInt 64 (a : Int) &&& BitVec.ofInt 64 ((2 ^ k - 1 : Nat) : Int)).toNat : Int) = _
  rw [e]
  have w : IntKind.wrap .i64 ((a % 2 ^ k : Nat) : Int) = wi64 ((a % 2 ^ k : Nat) : Int) := rfl
  rw [w, wi64_id (by omega) (by omega)]
  simp

theorem wakes_true : parquetlaw10_wakes.f 8589934700 = some true := by kernel_rfl

/-- The form of the class One, or what it is refused with. -/
theorem one_model (N : Nat) (d : Int) : ∃ a b c e, compose_One.f N d = some (a, b, c, e) ∧ parquetref10_One.f N d = some (a, b, c, e) ∧ (e = 0 → a = 1 ∧ (b = 0 ∨ b = 1) ∧ b * b - 4 * a * c = d ∧ -4294967296 ≤ d ∧ d ≤ -3) := by
  unfold compose_One.f parquetref10_One.f
  by_cases h1 : d > -3
  · rw [decide_eq_true h1]; exact ⟨0, 0, 0, 80, rfl, rfl, fun h => absurd h (by decide)⟩
  · by_cases h2 : d < -4294967296
    · rw [decide_eq_false h1, decide_eq_true h2]; exact ⟨0, 0, 0, 80, rfl, rfl, fun h => absurd h (by decide)⟩
    · have w : wi64 (0 - d) = -d := by rw [wi64_id (by omega) (by omega)]; omega
      have a3 : bit_and .i64 (-d) 3 = (-d) % 4 := and_low (by omega) (by omega) 2 (by decide)
      have a1 : bit_and .i64 (-d) 1 = (-d) % 2 := and_low (by omega) (by omega) 1 (by decide)
      rw [decide_eq_false h1, decide_eq_false h2, w, a3, a1]
      simp only [cond_false]
      have c4 : (!((4 : Int) == 0)) = true := rfl
      have tm : Int.tmod d 4 = -((-d) % 4) := by
        have : Int.tmod d 4 = -(Int.tmod (-d) 4) := by rw [Int.neg_tmod]; omega
        rw [this, Int.tmod_eq_emod_of_nonneg (by omega)]
      have mod : parquetref04_Mod.f N d 4 = some (d % 4) := by
        unfold parquetref04_Mod.f
        rw [c4, tm]
        simp only [cond_true]
        by_cases h3 : -((-d) % 4) < 0
        · rw [decide_eq_true h3, wi64_id (by omega) (by omega)]
          simp only [cond_true, Option.some.injEq]; omega
        · rw [decide_eq_false h3]
          simp only [cond_false, Option.some.injEq]; omega
      rw [mod]
      simp only [Option.bind_some]
      have hcase : (-d) % 4 = 0 ∨ (-d) % 4 = 1 ∨ (-d) % 4 = 2 ∨ (-d) % 4 = 3 := by omega
      rcases hcase with h | h | h | h
      · have e1 : d % 4 = 0 := by omega
        have e2 : (-d) % 2 = 0 := by omega
        have e3 : wi64 (Int.tdiv (-d) 4) = -d / 4 := by
          rw [Int.tdiv_eq_ediv_of_nonneg (by omega), wi64_id (by omega) (by omega)]
        have e4 : wi64 (0 - d) = -d := w
        rw [h, e1, e2, e4, e3]
        exact ⟨1, 0, -d / 4, 0, rfl, rfl, fun _ => ⟨rfl, Or.inl rfl, by omega, by omega, by omega⟩⟩
      · have e1 : d % 4 = 3 := by omega
        rw [h, e1]
        exact ⟨0, 0, 0, 80, rfl, rfl, fun h => absurd h (by decide)⟩
      · have e1 : d % 4 = 2 := by omega
        rw [h, e1]
        exact ⟨0, 0, 0, 80, rfl, rfl, fun h => absurd h (by decide)⟩
      · have e1 : d % 4 = 1 := by omega
        have e2 : (-d) % 2 = 1 := by omega
        have e3 : wi64 (Int.tdiv (wi64 (1 - d)) 4) = (1 - d) / 4 := by
          rw [wi64_id (n := 1 - d) (by omega) (by omega), Int.tdiv_eq_ediv_of_nonneg (by omega), wi64_id (by omega) (by omega)]
        rw [h, e1, e2, e3]
        exact ⟨1, 1, (1 - d) / 4, 0, rfl, rfl, fun _ => ⟨rfl, Or.inr rfl, by omega, by omega, by omega⟩⟩

end Go.Proofs.YtbnoablfajmaeaaGreat.Pure
