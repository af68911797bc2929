-- Plain laws of the row law08: the root of a square, the program's way and the document's.
import Derived.Test.YtbnoablfajmaeaaFh
import Derived.Test.YtbnoablfajmaeaaT5
import Derived.KernelRfl
namespace Go.Proofs.Ytbnoablfajmaeaa.Pure
open Go Go.Proofs.Ytbnoablfajmaeaa.Ev
open Go.Proofs.Ytbnoablfajmaeaa.NatL (tA tB turns_key W64 Bd w_add_l w_add_r w_sub_l w_sub_r w_mul_l w_mul_r w_w tmod_bd)
set_option linter.unusedVariables false
set_option linter.unusedSimpArgs false

theorem pow_le30 {j : Nat} (h : j ≤ 30) : (0 : Int) < 2 ^ j ∧ (2 : Int) ^ j ≤ 1073741824 := by
  have h1 : (2 : Nat) ^ j ≤ 2 ^ 30 := Nat.pow_le_pow_right (by omega) h
  have h2 : 0 < (2 : Nat) ^ j := Nat.pow_pos (by omega)
  have e : ((2 ^ j : Nat) : Int) = (2 : Int) ^ j := by simp
  omega

theorem pow_half (j : Nat) : Int.fdiv ((2 : Int) ^ (j + 1)) (2 ^ 1) = 2 ^ j := by
  have h := Int.pow_succ (2 : Int) j
  rw [h, Int.fdiv_eq_ediv_of_nonneg _ (by decide)]
  have : (2 : Int) ^ 1 = 2 := by decide
  rw [this, Int.mul_ediv_cancel _ (by decide)]

theorem sq_le {x y : Int} (hx : 0 ≤ x) (h : x ≤ y) : x * x ≤ y * y := by
  have p := Int.mul_nonneg (show 0 ≤ y - x by omega) (show 0 ≤ y + x by omega)
  have e : (y - x) * (y + x) = y * y - x * x := by grind
  omega

theorem roots1 (N : Nat) {m : Int} (m0 : 0 ≤ m) (m1 : m < 1152921504606846976) : ∀ (j : Nat), j ≤ 30 → ∀ (x : Int), 0 ≤ x → x + 2 * 2 ^ j ≤ 2147483648 → x * x ≤ m → m < (x + 2 * 2 ^ j) * (x + 2 * 2 ^ j) → ∀ n : Nat,
    ∃ r, 0 ≤ r ∧ r < 2147483648 ∧ r * r ≤ m ∧ m < (r + 1) * (r + 1) ∧ (∀ {R : Type} (K : Int → Int → Option R), binary_root.l5 N (n + j + 2) m x (2 ^ j) K = K m r) := by
  intro j
  induction j with
  | zero =>
    intro _ x x0 xb h1 h2 n
    have hx : x + 1 ≤ 2147483648 := by omega
    have hsq := sq_le (x := x + 1) (y := 2147483648) (by omega) hx
    have e1 : wi64 (x + 1) = x + 1 := wi64_id (by omega) (by omega)
    have e2 : wi64 ((x + 1) * (x + 1)) = (x + 1) * (x + 1) := wi64_id (by have := Int.mul_nonneg (show 0 ≤ x + 1 by omega) (show 0 ≤ x + 1 by omega); omega) (by omega)
    have e5 : Int.fdiv 1 (2 ^ 1) = 0 := by decide
    have e6 : (2 : Int) ^ 0 = 1 := by decide
    rw [e6] at h2 xb
    by_cases hc : (x + 1) * (x + 1) ≤ m
    · refine ⟨x + 1, by omega, by omega, hc, ?_, fun K => ?_⟩
      · have e : x + 1 + 1 = x + 2 * 1 := by omega
        rw [e]; exact h2
      · rw [e6, binary_root.l5]
        simp only [e1, e2, hc, decide_true, cond_true, e5, show decide ((1 : Int) > 0) = true from rfl]
        rw [binary_root.l5]
        rfl
    · refine ⟨x, x0, by omega, h1, by omega, fun K => ?_⟩
      rw [e6, binary_root.l5]
      simp only [e1, e2, hc, decide_true, decide_false, cond_true, cond_false, e5, show decide ((1 : Int) > 0) = true from rfl]
      rw [binary_root.l5]
      rfl
  | succ j ih =>
    intro hj x x0 xb h1 h2 n
    obtain ⟨p0, p1⟩ := pow_le30 (j := j) (by omega)
    obtain ⟨q0, q1⟩ := pow_le30 hj
    have hp : (2 : Int) ^ (j + 1) = 2 * 2 ^ j := by rw [Int.pow_succ]; omega
    have hx : x + 2 ^ (j + 1) ≤ 2147483648 := by omega
    have hsq := sq_le (x := x + 2 ^ (j + 1)) (y := 2147483648) (by omega) hx
    have hsq0 := Int.mul_nonneg (show 0 ≤ x + 2 ^ (j + 1) by omega) (show 0 ≤ x + 2 ^ (j + 1) by omega)
    have e1 : wi64 (x + 2 ^ (j + 1)) = x + 2 ^ (j + 1) := wi64_id (by omega) (by omega)
    have e2 : wi64 ((x + 2 ^ (j + 1)) * (x + 2 ^ (j + 1))) = (x + 2 ^ (j + 1)) * (x + 2 ^ (j + 1)) := wi64_id (by omega) (by omega)
    have c1 : decide ((2 : Int) ^ (j + 1) > 0) = true := by simp; omega
    by_cases hc : (x + 2 ^ (j + 1)) * (x + 2 ^ (j + 1)) ≤ m
    · obtain ⟨r, r0, r1, r2, r3, r4⟩ := ih (by omega) (x + 2 ^ (j + 1)) (by omega) (by omega) hc (by
        have e : x + 2 ^ (j + 1) + 2 * 2 ^ j = x + 2 * 2 ^ (j + 1) := by omega
        rw [e]; exact h2) n
      refine ⟨r, r0, r1, r2, r3, fun K => ?_⟩
      rw [show n + (j + 1) + 2 = (n + j + 2) + 1 by omega, binary_root.l5]
      simp only [c1, cond_true, e1, e2, hc, decide_true, pow_half]
      exact r4 K
    · obtain ⟨r, r0, r1, r2, r3, r4⟩ := ih (by omega) x x0 (by omega) h1 (by rw [← hp]; omega) n
      refine ⟨r, r0, r1, r2, r3, fun K => ?_⟩
      rw [show n + (j + 1) + 2 = (n + j + 2) + 1 by omega, binary_root.l5]
      simp only [c1, cond_true, e1, e2, hc, decide_false, cond_false, pow_half]
      exact r4 K


theorem reduced_bounds {a b c : Int} (h : Good a b c) (hr : inR a b) (hs : ¬ small_ a b c) : inB a b c ∧ a ≤ 37837 := by
  obtain ⟨a0, a1, b0, b1, c0, c1, d0, d1⟩ := h
  obtain ⟨r0, r1⟩ := hr
  have hac : a ≤ c := by unfold small_ at hs; omega
  have hb : b * b ≤ a * a := by
    have p := Int.mul_nonneg (show 0 ≤ a - b by omega) (show 0 ≤ a + b by omega)
    have e : (a - b) * (a + b) = a * a - b * b := by grind
    omega
  have hac2 := Int.mul_le_mul_of_nonneg_left hac (show 0 ≤ a by omega)
  have e1 : 4 * a * c = 4 * (a * c) := by grind
  have ha : a ≤ 37837 := by
    rcases Int.lt_or_le 37837 a with h | h
    · have := sq_le (x := 37838) (y := a) (by omega) (by omega); omega
    · exact h
  have hc : c ≤ 1073741824 := by
    rcases Int.lt_or_le 1073741824 c with h | h
    · exfalso
      have p := Int.mul_le_mul_of_nonneg_left (show (1073741825 : Int) ≤ c by omega) (show 0 ≤ a by omega)
      by_cases ha1 : a = 1
      · subst ha1; omega
      · have := sq_le (x := a) (y := 37837) (by omega) ha; omega
    · exact h
  exact ⟨⟨⟨by omega, by omega⟩, ⟨by omega, by omega⟩, by omega, hc⟩, ha⟩



/-- A form's number at x, y. -/
def val (a b c x y : Int) : Int := a * x * x + b * x * y + c * y * y

theorem abs_eq {x y : Int} (h : x * x = y * y) : x = y ∨ x = -y := by
  have e : (x - y) * (x + y) = 0 := by grind
  rcases Int.mul_eq_zero.mp e with h | h <;> omega

/-- The program's root. -/
theorem root_told {N : Nat} (hN : 100 < N) {m : Int} (m0 : 0 ≤ m) (m1 : m < 1152921504606846976) : ∃ r, 0 ≤ r ∧ r < 2147483648 ∧ binary_root.f N m = some (r, r * r == m) ∧ ∀ y, y * y = m → r * r = m := by
  obtain ⟨n, rfl⟩ : ∃ n, N = n + 30 + 2 + 1 := ⟨N - 33, by omega⟩
  have hm : m < (0 + 2 * 2 ^ 30) * (0 + 2 * 2 ^ 30) := by
    have : ((0 : Int) + 2 * 2 ^ 30) * (0 + 2 * 2 ^ 30) = 4611686018427387904 := by decide
    rw [this]; omega
  obtain ⟨s, s0, s1, s2, s3, s4⟩ := roots1 (n + 30 + 2 + 1) m0 m1 30 (by omega) 0 (by omega) (by decide) (by simpa using m0) hm (n + 1)
  have hsq := sq_le (x := s) (y := 2147483648) s0 (by omega)
  have hw : wi64 (s * s) = s * s := wi64_id (by have := Int.mul_nonneg s0 s0; omega) (by omega)
  refine ⟨s, s0, s1, ?_, fun y hy => ?_⟩
  · unfold binary_root.f
    have h0 : decide (m < 0) = false := by simp; omega
    rw [h0, cond_false, show n + 30 + 2 + 1 = n + 1 + 30 + 2 by omega]
    have := s4 (R := Int × Bool) (fun y7 y8 => some (y8, (wi64 (y8 * y8)) == y7))
    rw [show n + 30 + 2 + 1 = n + 1 + 30 + 2 by omega] at this
    have e30 : (2 : Int) ^ 30 = 1073741824 := by decide
    rw [e30] at this
    rw [this, hw]
  · have key : ∀ z, 0 ≤ z → z * z = m → s * s = m := fun z hz h => by
      have : s = z := by
        rcases Int.lt_trichotomy s z with h1 | h1 | h1
        · have := sq_le (x := s + 1) (y := z) (by omega) (by omega); omega
        · exact h1
        · have := sq_le (x := z + 1) (y := s) (by omega) (by omega)
          have e : (z + 1) * (z + 1) = z * z + 2 * z + 1 := by grind
          omega
      rw [this]; exact h
    rcases Int.le_total 0 y with h | h
    · exact key y h hy
    · exact key (-y) (by omega) (by rw [← hy]; grind)

/-- The program's search, told. -/
theorem rep_told {N : Nat} (hN : 100 < N) {a b c d nn : Int} (a0 : 0 < a) (a1 : a ≤ 37837) (b0 : -37837 ≤ b) (b1 : b ≤ 37837) (n0 : 1 ≤ nn) (n1 : nn ≤ 1073741824) (hdd : d = b * b - 4 * a * c) (d0 : d < 0) (d1 : -4294967296 ≤ d) (p q r s : Int) :
    ∀ (n : Nat) (v : Int), 0 ≤ v → (v = 0 ∨ 0 ≤ d * ((v - 1) * (v - 1)) + 4 * a * nn) → 16777300 - v < n →
      (∃ u v', val a b c u v' = nn ∧ ∀ {R : Type} (K : Unit → Option R) (KR : Int → Int → Int → Option R), binary_Represents.l9 N n nn d v a b c p q r s K KR = KR (wi64 (p * u + q * v')) (wi64 (r * u + s * v')) 0) ∨
      ((∀ u v', v ≤ v' → val a b c u v' ≠ nn) ∧ ∀ {R : Type} (K : Unit → Option R) (KR : Int → Int → Int → Option R), binary_Represents.l9 N n nn d v a b c p q r s K KR = K ()) := by
  have e4 : wi64 (4 * a) = 4 * a := wi64_id (by omega) (by omega)
  have e2 : wi64 (2 * a) = 2 * a := wi64_id (by omega) (by omega)
  have z2 : (2 * a == 0) = false := by simp; omega
  have han := mul_bound (x := 4 * a) (y := nn) (X := 151348) (Y := 1073741824) (by omega) (by omega) (by omega) (by omega)
  have k1 : (151348 : Int) * 1073741824 = 162508677578752 := by decide
  have han0 : 0 < 4 * a * nn := Int.mul_pos (by omega) (by omega)
  have e4n : wi64 (4 * a * nn) = 4 * a * nn := wi64_id (by omega) (by omega)
  have hval : ∀ u v', (2 * a * u + b * v') * (2 * a * u + b * v') = d * (v' * v') + 4 * a * val a b c u v' := fun u v' => by rw [hdd]; unfold val; grind
  intro n
  induction n with
  | zero =>
    intro v v0 hv hn
    exfalso
    rcases hv with hv | hv
    · omega
    · have p1 := sq_le (x := 16777299) (y := v - 1) (by omega) (by omega)
      have p2 := Int.mul_le_mul_of_nonneg_right (show (1:Int) ≤ -d by omega) (show 0 ≤ (v - 1) * (v - 1) by exact Int.mul_nonneg (by omega) (by omega))
      have e : -d * ((v - 1) * (v - 1)) = -(d * ((v - 1) * (v - 1))) := by grind
      omega
  | succ n ih =>
    intro v v0 hv hn
    have hvv0 : 0 ≤ v * v := Int.mul_nonneg v0 v0
    have hdv : -900719925474099200 ≤ d * (v * v) ∧ d * (v * v) ≤ 0 := by
      have q1 := Int.mul_nonneg (show 0 ≤ -d by omega) hvv0
      have e1 : -d * (v * v) = -(d * (v * v)) := by grind
      refine ⟨?_, by omega⟩
      rcases hv with hv | hv
      · subst hv; simp
      · have q2 := Int.mul_nonneg (show 0 ≤ -d by omega) (sq_nonneg (v - 2))
        have e3 : -d * ((v - 2) * (v - 2)) = 2 * (-(d * ((v - 1) * (v - 1)))) - 2 * d + d * (v * v) := by grind
        omega
    have hv1 : v ≤ v * v := by
      rcases Int.lt_or_le 0 v with h | h
      · have := Int.mul_le_mul_of_nonneg_right (show (1:Int) ≤ v by omega) v0; omega
      · omega
    have hdv1 : -900719925474099200 ≤ d * v ∧ d * v ≤ 0 := by
      have q1 := Int.mul_nonneg (show 0 ≤ -d by omega) v0
      have q2 := Int.mul_le_mul_of_nonneg_left hv1 (show 0 ≤ -d by omega)
      have e1 : -d * v = -(d * v) := by grind
      have e2 : -d * (v * v) = -(d * (v * v)) := by grind
      omega
    have e1 : wi64 (d * v) = d * v := wi64_id (by omega) (by omega)
    have e3 : d * v * v = d * (v * v) := by grind
    have e5 : wi64 (d * v * v) = d * (v * v) := by rw [e3]; exact wi64_id (by omega) (by omega)
    have e6 : wi64 (d * (v * v) + 4 * a * nn) = d * (v * v) + 4 * a * nn := wi64_id (by omega) (by omega)
    by_cases hm : d * (v * v) + 4 * a * nn < 0
    · refine .inr ⟨fun u v' hvv h => ?_, fun K KR => ?_⟩
      · have := hval u v'
        rw [h] at this
        have q1 := sq_nonneg (2 * a * u + b * v')
        have q2 := sq_le v0 hvv
        have q3 := Int.mul_le_mul_of_nonneg_left q2 (show 0 ≤ -d by omega)
        have f1 : -d * (v * v) = -(d * (v * v)) := by grind
        have f2 : -d * (v' * v') = -(d * (v' * v')) := by grind
        omega
      · rw [binary_Represents.l9]
        simp only [e1, e5, e4, e4n, e6, hm, decide_true, cond_true]
    · obtain ⟨x, x0, x1, g1, g2⟩ := root_told hN (m := d * (v * v) + 4 * a * nn) (by omega) (by omega)
      have hvle : v ≤ 16777300 := by
        rcases Int.lt_or_le 16777300 v with h | h
        · exfalso
          have p1 := sq_le (x := 16777300) (y := v) (by omega) (by omega)
          have p2 := Int.mul_le_mul_of_nonneg_right (show (1:Int) ≤ -d by omega) hvv0
          have e : -d * (v * v) = -(d * (v * v)) := by grind
          omega
        · exact h
      have e7 : wi64 (v + 1) = v + 1 := wi64_id (by omega) (by omega)
      have hnext : 0 ≤ d * ((v + 1 - 1) * (v + 1 - 1)) + 4 * a * nn := by
        have : v + 1 - 1 = v := by omega
        rw [this]; omega
      have hbv := mul_bound (x := b) (y := v) (X := 37837) (Y := 16777300) (by omega) (by omega) (by omega) (by omega)
      have k2 : (37837 : Int) * 16777300 = 634802700100 := by decide
      have s1e : wi64 (x - wi64 (b * v)) = x - b * v := by rw [wi64_id (n := b * v) (by omega) (by omega), wi64_id (by omega) (by omega)]
      have s2e : wi64 (wi64 (0 - x) - wi64 (b * v)) = -x - b * v := by rw [wi64_id (n := 0 - x) (by omega) (by omega), wi64_id (n := b * v) (by omega) (by omega), Int.zero_sub, wi64_id (by omega) (by omega)]
      -- a number is told of this v
      have found : ∀ s1 : Int, s1 = x - b * v ∨ s1 = -x - b * v → x * x = d * (v * v) + 4 * a * nn → Int.tmod s1 (2 * a) = 0 → val a b c (Int.tdiv s1 (2 * a)) v = nn ∧ wi64 (Int.tdiv s1 (2 * a)) = Int.tdiv s1 (2 * a) := by
        intro s1 hs hx ht
        have h1 := Int.mul_tdiv_add_tmod s1 (2 * a)
        rw [ht, Int.add_zero] at h1
        generalize Int.tdiv s1 (2 * a) = u at *
        refine ⟨?_, ?_⟩
        · have := hval u v
          rw [h1] at this
          have hxx : (s1 + b * v) * (s1 + b * v) = x * x := by
            rcases hs with rfl | rfl
            · have : x - b * v + b * v = x := by omega
              rw [this]
            · have : -x - b * v + b * v = -x := by omega
              rw [this]; grind
          rw [hxx, hx] at this
          have h3 : 4 * a * (val a b c u v - nn) = 0 := by
            have : 4 * a * (val a b c u v - nn) = 4 * a * val a b c u v - 4 * a * nn := by grind
            omega
          rcases Int.mul_eq_zero.mp h3 with h | h <;> omega
        · have hub : -634802700100 - 2147483648 ≤ s1 ∧ s1 ≤ 634802700100 + 2147483648 := by rcases hs with rfl | rfl <;> omega
          have e : 2 * a * u = 2 * (a * u) := by grind
          have hb2 : -10000000000000 ≤ u ∧ u ≤ 10000000000000 := by
            constructor
            · rcases Int.lt_or_le u (-10000000000000) with h | h
              · exfalso
                have := Int.mul_le_mul_of_nonneg_right (show (1:Int) ≤ a by omega) (show 0 ≤ -u by omega)
                have e9 : a * -u = -(a * u) := by grind
                omega
              · exact h
            · rcases Int.lt_or_le 10000000000000 u with h | h
              · exfalso
                have := Int.mul_le_mul_of_nonneg_right (show (1:Int) ≤ a by omega) (show 0 ≤ u by omega)
                omega
              · exact h
          exact wi64_id (by omega) (by omega)
      -- none is told of this v
      have lacks : (x * x = d * (v * v) + 4 * a * nn → Int.tmod (x - b * v) (2 * a) ≠ 0 ∧ Int.tmod (-x - b * v) (2 * a) ≠ 0) → ∀ u, val a b c u v ≠ nn := by
        intro hno u hu
        have h1 := hval u v
        rw [hu] at h1
        have hx := g2 _ h1
        obtain ⟨n1, n2⟩ := hno hx
        rw [← hx] at h1
        rcases abs_eq h1 with h | h
        · apply n1
          have : x - b * v = 2 * a * u := by omega
          rw [this]; exact Int.mul_tmod_right _ _
        · apply n2
          have : -x - b * v = 2 * a * u := by omega
          rw [this]; exact Int.mul_tmod_right _ _
      have down : ((∃ u v', val a b c u v' = nn ∧ ∀ {R : Type} (K : Unit → Option R) (KR : Int → Int → Int → Option R), binary_Represents.l9 N n nn d (v + 1) a b c p q r s K KR = KR (wi64 (p * u + q * v')) (wi64 (r * u + s * v')) 0) ∨
          ((∀ u v', v + 1 ≤ v' → val a b c u v' ≠ nn) ∧ ∀ {R : Type} (K : Unit → Option R) (KR : Int → Int → Int → Option R), binary_Represents.l9 N n nn d (v + 1) a b c p q r s K KR = K ())) := ih (v + 1) (by omega) (.inr hnext) (by omega)
      by_cases hx : x * x = d * (v * v) + 4 * a * nn
      · have hx1 : (x * x == d * (v * v) + 4 * a * nn) = true := by simpa using hx
        have open1 : ∀ {R : Type} (K : Unit → Option R) (KR : Int → Int → Int → Option R), binary_Represents.l9 N (n + 1) nn d v a b c p q r s K KR =
            bif Int.tmod (x - b * v) (2 * a) == 0 then KR (wi64 (wi64 (p * wi64 (Int.tdiv (x - b * v) (2 * a))) + wi64 (q * v))) (wi64 (wi64 (r * wi64 (Int.tdiv (x - b * v) (2 * a))) + wi64 (s * v))) 0
            else bif Int.tmod (-x - b * v) (2 * a) == 0 then KR (wi64 (wi64 (p * wi64 (Int.tdiv (-x - b * v) (2 * a))) + wi64 (q * v))) (wi64 (wi64 (r * wi64 (Int.tdiv (-x - b * v) (2 * a))) + wi64 (s * v))) 0
            else binary_Represents.l9 N n nn d (v + 1) a b c p q r s K KR := by
          intro R K KR
          rw [binary_Represents.l9]
          simp only [e1, e5, e4, e4n, e6, hm, decide_false, cond_false, g1, Option.bind_some, hx1, Bool.not_true, e2, z2, Bool.not_false, cond_true, s1e, s2e, e7]
        by_cases t1 : Int.tmod (x - b * v) (2 * a) = 0
        · obtain ⟨f1, f2⟩ := found _ (.inl rfl) hx t1
          refine .inl ⟨_, v, f1, fun K KR => ?_⟩
          have t1' : (Int.tmod (x - b * v) (2 * a) == 0) = true := by simpa using t1
          rw [open1, t1', cond_true, f2, w_add_l, w_add_r, w_add_l, w_add_r]
        · have t1' : (Int.tmod (x - b * v) (2 * a) == 0) = false := by simpa using t1
          by_cases t2 : Int.tmod (-x - b * v) (2 * a) = 0
          · obtain ⟨f1, f2⟩ := found _ (.inr rfl) hx t2
            refine .inl ⟨_, v, f1, fun K KR => ?_⟩
            have t2' : (Int.tmod (-x - b * v) (2 * a) == 0) = true := by simpa using t2
            rw [open1, t1', cond_false, t2', cond_true, f2, w_add_l, w_add_r, w_add_l, w_add_r]
          · have t2' : (Int.tmod (-x - b * v) (2 * a) == 0) = false := by simpa using t2
            have none_ := lacks (fun _ => ⟨t1, t2⟩)
            rcases down with ⟨u, v', h1, h2⟩ | ⟨h1, h2⟩
            · exact .inl ⟨u, v', h1, fun K KR => by rw [open1, t1', cond_false, t2', cond_false]; exact h2 K KR⟩
            · refine .inr ⟨fun u v' hv' => ?_, fun K KR => by rw [open1, t1', cond_false, t2', cond_false]; exact h2 K KR⟩
              rcases Int.lt_or_le v v' with h | h
              · exact h1 u v' (by omega)
              · obtain rfl : v' = v := by omega
                exact none_ u
      · have hx1 : (x * x == d * (v * v) + 4 * a * nn) = false := by simpa using hx
        have open1 : ∀ {R : Type} (K : Unit → Option R) (KR : Int → Int → Int → Option R), binary_Represents.l9 N (n + 1) nn d v a b c p q r s K KR = binary_Represents.l9 N n nn d (v + 1) a b c p q r s K KR := by
          intro R K KR
          rw [binary_Represents.l9]
          simp only [e1, e5, e4, e4n, e6, hm, decide_false, cond_false, g1, Option.bind_some, hx1, Bool.not_false, cond_true, e7]
        have none_ := lacks (fun h => absurd h hx)
        rcases down with ⟨u, v', h1, h2⟩ | ⟨h1, h2⟩
        · exact .inl ⟨u, v', h1, fun K KR => by rw [open1]; exact h2 K KR⟩
        · refine .inr ⟨fun u v' hv' => ?_, fun K KR => by rw [open1]; exact h2 K KR⟩
          rcases Int.lt_or_le v v' with h | h
          · exact h1 u v' (by omega)
          · obtain rfl : v' = v := by omega
            exact none_ u

theorem val_under (a b c t u v w x y : Int) : val (tA a b c t v) (tB a b c t u v w) (tA a b c u w) x y = val a b c (t * x + u * y) (v * x + w * y) := by
  have := (turns_key a b c t u v w 0 0 0 0 x y).2.2
  unfold val; exact this

/-- Whether and where a number is represented, told. -/
theorem represents_told {N : Nat} (hN : 8589934600 < N) {a b c n : Int} (h : Fine a b c) (n0 : 1 ≤ n) (n1 : n ≤ 1073741824) :
    (∃ x y, val a b c x y = n ∧ binary_Represents.f N a b c n = some (wi64 x, wi64 y, 0)) ∨ ((∀ x y, val a b c x y ≠ n) ∧ binary_Represents.f N a b c n = some (0, 0, 41)) := by
  obtain ⟨a', b', c', t, u, v, w, hd, g1, g2, g3, gf, gr, gs, _, _, _, _, hred⟩ := reduce_told hN h
  obtain ⟨i1, i2⟩ := reduced_bounds gf.good gr gs
  have hr := gr
  unfold inR at hr
  unfold binary_Represents.f
  rw [hred]
  have e0 : ((0 : Int) != 0) = false := rfl
  have c1 : decide (n < 1) = false := by simp; omega
  have c2 : decide (n > 1073741824) = false := by simp; omega
  simp only [Option.bind_some, e0, cond_false, c1, c2]
  rw [(disc_model N a' b' c').1, if_pos gf.inb, disc_id gf.inb]
  simp only [Option.bind_some]
  rcases rep_told (N := N) (by omega) (b := b') (c := c') gf.pos i2 (by omega) (by omega) n0 n1 rfl gf.d0 gf.d1 t u v w N 0 (by omega) (.inl rfl) (by omega) with ⟨x, y, h1, h2⟩ | ⟨h1, h2⟩
  · refine .inl ⟨t * x + u * y, v * x + w * y, ?_, ?_⟩
    · rw [← val_under, ← g1, ← g2, ← g3]; exact h1
    · rw [h2]
  · refine .inr ⟨fun x y hxy => ?_, by rw [h2]⟩
    -- back into the reduced form
    have back : val a' b' c' (w * x - u * y) (t * y - v * x) = n := by
      rw [g1, g2, g3, val_under]
      have f1 : t * (w * x - u * y) + u * (t * y - v * x) = x := by
        have : t * (w * x - u * y) + u * (t * y - v * x) = (t * w - u * v) * x := by grind
        rw [this, hd, Int.one_mul]
      have f2 : v * (w * x - u * y) + w * (t * y - v * x) = y := by
        have : v * (w * x - u * y) + w * (t * y - v * x) = (t * w - u * v) * y := by grind
        rw [this, hd, Int.one_mul]
      rw [f1, f2]; exact hxy
    rcases Int.le_total 0 (t * y - v * x) with h | h
    · exact h1 _ _ h back
    · refine h1 (-(w * x - u * y)) (-(t * y - v * x)) (by omega) ?_
      rw [← back]; unfold val; grind


end Go.Proofs.Ytbnoablfajmaeaa.Pure
