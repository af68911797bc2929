-- Plain laws of the row law08: the root of a square, the program's way and the document's.
import Derived.Test.YtckddgepjhclpaaPc
namespace Go.Proofs.Ytckddgepjhclpaa.Pure
open Go Go.Proofs.Ytckddgepjhclpaa.Ev
set_option linter.unusedVariables false
set_option linter.unusedSimpArgs false

theorem pow_le30 {j : Nat} (h : j ≤ 30) : (0 : Int) < 2 ^ j ∧ (2 : Int) ^ j ≤ 1073741824 := by
  have h1 : (2 : Nat) ^ j ≤ 2 ^ 30 := Nat.pow_le_pow_right (by omega) h
  have h2 : 0 < (2 : Nat) ^ j := Nat.pow_pos (by omega)
  have e : ((2 ^ j : Nat) : Int) = (2 : Int) ^ j := by simp
  omega

theorem pow_half (j : Nat) : Int.fdiv ((2 : Int) ^ (j + 1)) (2 ^ 1) = 2 ^ j := by
  have h := Int.pow_succ (2 : Int) j
  rw [h, Int.fdiv_eq_ediv_of_nonneg _ (by decide)]
  have : (2 : Int) ^ 1 = 2 := by decide
  rw [this, Int.mul_ediv_cancel _ (by decide)]

theorem sq_le {x y : Int} (hx : 0 ≤ x) (h : x ≤ y) : x * x ≤ y * y := by
  have p := Int.mul_nonneg (show 0 ≤ y - x by omega) (show 0 ≤ y + x by omega)
  have e : (y - x) * (y + x) = y * y - x * x := by grind
  omega

theorem roots (N M : Nat) {m : Int} (m0 : 0 ≤ m) (m1 : m < 1152921504606846976) : ∀ (j : Nat), j ≤ 30 → ∀ (x : Int), 0 ≤ x → x + 2 * 2 ^ j ≤ 2147483648 → x * x ≤ m → m < (x + 2 * 2 ^ j) * (x + 2 * 2 ^ j) → ∀ n : Nat,
    ∃ r, 0 ≤ r ∧ r < 2147483648 ∧ r * r ≤ m ∧ m < (r + 1) * (r + 1) ∧ (∀ {R : Type} (K : Int → Int → Option R), binary_root.l5 N (n + j + 2) m x (2 ^ j) K = K m r) ∧ (∀ {R : Type} (K : Int → Option R), parquetref08_Root.l3 M (n + j + 2) m x (j : Int) K = K r) := by
  intro j
  induction j with
  | zero =>
    intro _ x x0 xb h1 h2 n
    have hx : x + 1 ≤ 2147483648 := by omega
    have hsq := sq_le (x := x + 1) (y := 2147483648) (by omega) hx
    have e1 : wi64 (x + 1) = x + 1 := wi64_id (by omega) (by omega)
    have e2 : wi64 ((x + 1) * (x + 1)) = (x + 1) * (x + 1) := wi64_id (by have := Int.mul_nonneg (show 0 ≤ x + 1 by omega) (show 0 ≤ x + 1 by omega); omega) (by omega)
    have e3 : wi64 1 = 1 := wi64_id (by omega) (by omega)
    have e4 : wi64 (0 - 1) = -1 := wi64_id (by omega) (by omega)
    have e5 : Int.fdiv 1 (2 ^ 1) = 0 := by decide
    have e6 : (2 : Int) ^ 0 = 1 := by decide
    rw [e6] at h2 xb
    by_cases hc : (x + 1) * (x + 1) ≤ m
    · refine ⟨x + 1, by omega, by omega, hc, ?_, fun K => ?_, fun K => ?_⟩
      · have e : x + 1 + 1 = x + 2 * 1 := by omega
        rw [e]; exact h2
      · rw [e6, binary_root.l5]
        simp only [e1, e2, hc, decide_true, cond_true, e5, show decide ((1 : Int) > 0) = true from rfl]
        rw [binary_root.l5]
        rfl
      · rw [parquetref08_Root.l3]
        have hlt : x + 1 < 2147483648 := by omega
        simp [e1, e2, e3, e4, hc, hlt]
        rw [parquetref08_Root.l3]
        rfl
    · refine ⟨x, x0, by omega, h1, by omega, fun K => ?_, fun K => ?_⟩
      · rw [e6, binary_root.l5]
        simp only [e1, e2, hc, decide_true, decide_false, cond_true, cond_false, e5, show decide ((1 : Int) > 0) = true from rfl]
        rw [binary_root.l5]
        rfl
      · rw [parquetref08_Root.l3]
        simp [e1, e2, e3, e4, hc]
        rw [parquetref08_Root.l3]
        rfl
  | succ j ih =>
    intro hj x x0 xb h1 h2 n
    obtain ⟨p0, p1⟩ := pow_le30 (j := j) (by omega)
    obtain ⟨q0, q1⟩ := pow_le30 hj
    have hp : (2 : Int) ^ (j + 1) = 2 * 2 ^ j := by rw [Int.pow_succ]; omega
    have hx : x + 2 ^ (j + 1) ≤ 2147483648 := by omega
    have hsq := sq_le (x := x + 2 ^ (j + 1)) (y := 2147483648) (by omega) hx
    have hsq0 := Int.mul_nonneg (show 0 ≤ x + 2 ^ (j + 1) by omega) (show 0 ≤ x + 2 ^ (j + 1) by omega)
    have e1 : wi64 (x + 2 ^ (j + 1)) = x + 2 ^ (j + 1) := wi64_id (by omega) (by omega)
    have e2 : wi64 ((x + 2 ^ (j + 1)) * (x + 2 ^ (j + 1))) = (x + 2 ^ (j + 1)) * (x + 2 ^ (j + 1)) := wi64_id (by omega) (by omega)
    have e3 : wi64 (2 ^ (j + 1)) = 2 ^ (j + 1) := wi64_id (by omega) (by omega)
    have e4 : wi64 (((j + 1 : Nat) : Int) - 1) = (j : Int) := by rw [wi64_id (by omega) (by omega)]; omega
    have e5 : min ((j + 1 : Nat) : Int).toNat 64 = j + 1 := by simp; omega
    have c1 : decide ((2 : Int) ^ (j + 1) > 0) = true := by simp; omega
    have c2 : decide (((j + 1 : Nat) : Int) ≥ 0) = true := by simp; omega
    have c3 : decide (0 ≤ ((j + 1 : Nat) : Int)) = true := by simp; omega
    by_cases hc : (x + 2 ^ (j + 1)) * (x + 2 ^ (j + 1)) ≤ m
    · obtain ⟨r, r0, r1, r2, r3, r4, r5⟩ := ih (by omega) (x + 2 ^ (j + 1)) (by omega) (by omega) hc (by
        have e : x + 2 ^ (j + 1) + 2 * 2 ^ j = x + 2 * 2 ^ (j + 1) := by omega
        rw [e]; exact h2) n
      have hlt : x + 2 ^ (j + 1) < 2147483648 := by omega
      refine ⟨r, r0, r1, r2, r3, fun K => ?_, fun K => ?_⟩
      · rw [show n + (j + 1) + 2 = (n + j + 2) + 1 by omega, binary_root.l5]
        simp only [c1, cond_true, e1, e2, hc, decide_true, pow_half]
        exact r4 K
      · rw [show n + (j + 1) + 2 = (n + j + 2) + 1 by omega, parquetref08_Root.l3]
        simp only [c2, c3, cond_true, e5, Int.one_mul, e3, e1, e2, hc, hlt, decide_true, e4]
        exact r5 K
    · obtain ⟨r, r0, r1, r2, r3, r4, r5⟩ := ih (by omega) x x0 (by omega) h1 (by rw [← hp]; omega) n
      refine ⟨r, r0, r1, r2, r3, fun K => ?_, fun K => ?_⟩
      · rw [show n + (j + 1) + 2 = (n + j + 2) + 1 by omega, binary_root.l5]
        simp only [c1, cond_true, e1, e2, hc, decide_false, cond_false, pow_half]
        exact r4 K
      · rw [show n + (j + 1) + 2 = (n + j + 2) + 1 by omega, parquetref08_Root.l3]
        simp only [c2, c3, cond_true, cond_false, e5, Int.one_mul, e3, e1, e2, hc, decide_false, e4]
        exact r5 K

theorem root_model {N : Nat} (hN : 100 < N) {m : Int} (m0 : 0 ≤ m) (m1 : m < 1152921504606846976) : ∃ r, 0 ≤ r ∧ r < 2147483648 ∧ binary_root.f N m = some (r, r * r == m) ∧ parquetref08_Root.f N m = some r ∧ wi64 (r * r) = r * r := by
  obtain ⟨n, rfl⟩ : ∃ n, N = n + 30 + 2 + 1 := ⟨N - 33, by omega⟩
  have hm : m < (0 + 2 * 2 ^ 30) * (0 + 2 * 2 ^ 30) := by
    have : ((0 : Int) + 2 * 2 ^ 30) * (0 + 2 * 2 ^ 30) = 4611686018427387904 := by decide
    rw [this]; omega
  obtain ⟨r, r0, r1, r2, r3, r4, r5⟩ := roots (n + 30 + 2 + 1) (n + 30 + 2 + 1) m0 m1 30 (by omega) 0 (by omega) (by decide) (by simpa using m0) hm n
  obtain ⟨s, s0, s1, s2, s3, s4, s5⟩ := roots (n + 30 + 2 + 1) (n + 30 + 2 + 1) m0 m1 30 (by omega) 0 (by omega) (by decide) (by simpa using m0) hm (n + 1)
  have hrs : r = s := by
    rcases Int.lt_trichotomy r s with h | h | h
    · have := sq_le (x := r + 1) (y := s) (by omega) (by omega); omega
    · exact h
    · have := sq_le (x := s + 1) (y := r) (by omega) (by omega); omega
  have hsq := sq_le (x := r) (y := 2147483648) r0 (by omega)
  have hw : wi64 (r * r) = r * r := wi64_id (by have := Int.mul_nonneg r0 r0; omega) (by omega)
  refine ⟨r, r0, r1, ?_, ?_, hw⟩
  · unfold binary_root.f
    have h0 : decide (m < 0) = false := by simp; omega
    rw [h0, cond_false, show n + 30 + 2 + 1 = n + 1 + 30 + 2 by omega]
    have := s4 (R := Int × Bool) (fun y7 y8 => some (y8, (wi64 (y8 * y8)) == y7))
    rw [show n + 30 + 2 + 1 = n + 1 + 30 + 2 by omega] at this
    have e30 : (2 : Int) ^ 30 = 1073741824 := by decide
    rw [e30] at this
    rw [this, ← hrs, hw]
  · unfold parquetref08_Root.f
    rw [parquetref08_Root.l3]
    have f1 : wi64 (1 * 2 ^ min (31 : Int).toNat 64) = 2147483648 := by decide
    have f2 : wi64 ((31 : Int) - 1) = ((30 : Nat) : Int) := by decide
    have f3 : wi64 (0 + 2147483648) = 2147483648 := by decide
    rw [f1, f2, f3]
    have := r5 (R := Int) (fun y6 => some y6)
    cases hc : decide ((wi64 (2147483648 * 2147483648)) ≤ m) <;> simp <;> exact this

end Go.Proofs.Ytckddgepjhclpaa.Pure
