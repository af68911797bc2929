-- Plain law of the row BinaryValues.
import Derived.Test.YtckddgepjhclpaaPe
namespace Go.Proofs.Ytckddgepjhclpaa.Pure
open Go Go.Proofs.Ytckddgepjhclpaa.Ev
set_option linter.unusedVariables false
set_option linter.unusedSimpArgs false

theorem reduced_bounds {a b c : Int} (h : Good a b c) (hr : inR a b) (hs : ¬ small_ a b c) : inB a b c ∧ a ≤ 37837 := by
  obtain ⟨a0, a1, b0, b1, c0, c1, d0, d1⟩ := h
  obtain ⟨r0, r1⟩ := hr
  have hac : a ≤ c := by unfold small_ at hs; omega
  have hb : b * b ≤ a * a := by
    have p := Int.mul_nonneg (show 0 ≤ a - b by omega) (show 0 ≤ a + b by omega)
    have e : (a - b) * (a + b) = a * a - b * b := by grind
    omega
  have hac2 := Int.mul_le_mul_of_nonneg_left hac (show 0 ≤ a by omega)
  have e1 : 4 * a * c = 4 * (a * c) := by grind
  have ha : a ≤ 37837 := by
    rcases Int.lt_or_le 37837 a with h | h
    · have := sq_le (x := 37838) (y := a) (by omega) (by omega); omega
    · exact h
  have hc : c ≤ 1073741824 := by
    rcases Int.lt_or_le 1073741824 c with h | h
    · exfalso
      have p := Int.mul_le_mul_of_nonneg_left (show (1073741825 : Int) ≤ c by omega) (show 0 ≤ a by omega)
      by_cases ha1 : a = 1
      · subst ha1; omega
      · have := sq_le (x := a) (y := 37837) (by omega) ha; omega
    · exact h
  exact ⟨⟨⟨by omega, by omega⟩, ⟨by omega, by omega⟩, by omega, hc⟩, ha⟩


def vX (p q a v s1 : Int) : Int := wi64 (wi64 (p * wi64 (Int.tdiv s1 (2 * a))) + wi64 (q * v))

theorem l14_model {R : Type} {N : Nat} (hN : 100 < N) {a : Int} (a0 : 0 < a) (a1 : a ≤ 37837) (nn d v b c p q r s s1 s2 : Int) (K2 : Int → Int → Int → Int → Int → Int → Int → Int → Int → Int → Option R) (KR : Int → Int → Int → Option R) :
    parquetref08_Represents.l14 N N nn d v 2 0 a b c p q r s [s1, s2] K2 KR = if Int.tmod s1 (2 * a) = 0 then KR (vX p q a v s1) (vX r s a v s1) 0 else if Int.tmod s2 (2 * a) = 0 then KR (vX p q a v s2) (vX r s a v s2) 0 else K2 nn d v a b c p q r s := by
  have e2 : wi64 (2 * a) = 2 * a := wi64_id (by omega) (by omega)
  have z2 : (2 * a == 0) = false := by simp; omega
  have w1 : wi64 (0 + 1) = 1 := by decide
  have w2 : wi64 (1 + 1) = 2 := by decide
  obtain ⟨N', hN'⟩ : ∃ N', N = N' + 3 := ⟨N - 3, by omega⟩
  have key : parquetref08_Represents.l14 N (N' + 3) nn d v 2 0 a b c p q r s [s1, s2] K2 KR = if Int.tmod s1 (2 * a) = 0 then KR (vX p q a v s1) (vX r s a v s1) 0 else if Int.tmod s2 (2 * a) = 0 then KR (vX p q a v s2) (vX r s a v s2) 0 else K2 nn d v a b c p q r s := by
    rw [parquetref08_Represents.l14]
    have b1 : decide ((0 : Int) < 2) = true := by decide
    have b2 : ((decide ((0 : Int) ≤ 0)) && (decide ((0 : Int) < (([s1, s2] : List Int).length : Int)))) = true := by simp
    have b3 : ([s1, s2] : List Int).getD (0 : Int).toNat 0 = s1 := rfl
    have b4 : decide ((1 : Int) < 2) = true := by decide
    have b5 : ((decide ((0 : Int) ≤ 1)) && (decide ((1 : Int) < (([s1, s2] : List Int).length : Int)))) = true := by simp
    have b6 : ([s1, s2] : List Int).getD (1 : Int).toNat 0 = s2 := rfl
    have b7 : decide ((2 : Int) < 2) = false := by decide
    simp only [b1, b2, b3, cond_true, e2, z2, Bool.not_false]
    by_cases t1 : Int.tmod s1 (2 * a) = 0
    · have t1' : (Int.tmod s1 (2 * a) == 0) = true := by simpa using t1
      rw [t1', cond_true, if_pos t1]; rfl
    · have t1' : (Int.tmod s1 (2 * a) == 0) = false := by simpa using t1
      rw [t1', cond_false, if_neg t1, w1, parquetref08_Represents.l14]
      simp only [b4, b5, b6, cond_true, e2, z2, Bool.not_false]
      by_cases t2 : Int.tmod s2 (2 * a) = 0
      · have t2' : (Int.tmod s2 (2 * a) == 0) = true := by simpa using t2
        rw [t2', cond_true, if_pos t2]; rfl
      · have t2' : (Int.tmod s2 (2 * a) == 0) = false := by simpa using t2
        rw [t2', cond_false, if_neg t2, w2, parquetref08_Represents.l14, b7, cond_false]
  rw [← hN'] at key
  exact key

theorem rep_loops {N : Nat} (hN : 100 < N) {a b c d nn : Int} (a0 : 0 < a) (a1 : a ≤ 37837) (n0 : 1 ≤ nn) (n1 : nn ≤ 1073741824) (d0 : d < 0) (d1 : -4294967296 ≤ d) (p q r s : Int) :
    ∀ (n : Nat) (v : Int), 0 ≤ v → (v = 0 ∨ 0 ≤ d * ((v - 1) * (v - 1)) + 4 * a * nn) → 16777300 - v < n →
      ∃ o : Option (Int × Int), (∀ {R : Type} (K : Unit → Option R) (KR : Int → Int → Int → Option R), binary_Represents.l9 N n nn d v a b c p q r s K KR = match o with | none => K () | some z => KR z.1 z.2 0) ∧
        (∀ {R : Type} (K : Unit → Option R) (KR : Int → Int → Int → Option R), parquetref08_Represents.l8 N n nn d v a b c p q r s K KR = match o with | none => K () | some z => KR z.1 z.2 0) := by
  have e4 : wi64 (4 * a) = 4 * a := wi64_id (by omega) (by omega)
  have e2 : wi64 (2 * a) = 2 * a := wi64_id (by omega) (by omega)
  have z2 : (2 * a == 0) = false := by simp; omega
  have han := mul_bound (x := 4 * a) (y := nn) (X := 151348) (Y := 1073741824) (by omega) (by omega) (by omega) (by omega)
  have k1 : (151348 : Int) * 1073741824 = 162508677578752 := by decide
  have han0 : 0 < 4 * a * nn := Int.mul_pos (by omega) (by omega)
  have e4n : wi64 (4 * a * nn) = 4 * a * nn := wi64_id (by omega) (by omega)
  intro n
  induction n with
  | zero =>
    intro v v0 hv hn
    exfalso
    rcases hv with hv | hv
    · omega
    · have p1 := sq_le (x := 16777299) (y := v - 1) (by omega) (by omega)
      have p2 := Int.mul_le_mul_of_nonneg_right (show (1:Int) ≤ -d by omega) (show 0 ≤ (v - 1) * (v - 1) by exact Int.mul_nonneg (by omega) (by omega))
      have e : -d * ((v - 1) * (v - 1)) = -(d * ((v - 1) * (v - 1))) := by grind
      omega
  | succ n ih =>
    intro v v0 hv hn
    -- no overflow
    have hvv0 : 0 ≤ v * v := Int.mul_nonneg v0 v0
    have hdv : -900719925474099200 ≤ d * (v * v) ∧ d * (v * v) ≤ 0 := by
      have q1 := Int.mul_nonneg (show 0 ≤ -d by omega) hvv0
      have e1 : -d * (v * v) = -(d * (v * v)) := by grind
      refine ⟨?_, by omega⟩
      rcases hv with hv | hv
      · subst hv; simp
      · have q2 := Int.mul_nonneg (show 0 ≤ -d by omega) (show 0 ≤ (v - 2) * (v - 2) by
          rcases Int.le_total 0 (v - 2) with h | h
          · exact Int.mul_nonneg h h
          · have := Int.mul_nonneg (show (0:Int) ≤ -(v - 2) by omega) (show (0:Int) ≤ -(v - 2) by omega)
            have e2 : -(v - 2) * -(v - 2) = (v - 2) * (v - 2) := by grind
            omega)
        have e3 : -d * ((v - 2) * (v - 2)) = 2 * (-(d * ((v - 1) * (v - 1)))) - 2 * d + d * (v * v) := by grind
        omega
    have hv1 : v ≤ v * v := by
      rcases Int.lt_or_le 0 v with h | h
      · have := Int.mul_le_mul_of_nonneg_right (show (1:Int) ≤ v by omega) v0; omega
      · omega
    have hdv1 : -900719925474099200 ≤ d * v ∧ d * v ≤ 0 := by
      have q1 := Int.mul_nonneg (show 0 ≤ -d by omega) v0
      have q2 := Int.mul_le_mul_of_nonneg_left hv1 (show 0 ≤ -d by omega)
      have e1 : -d * v = -(d * v) := by grind
      have e2 : -d * (v * v) = -(d * (v * v)) := by grind
      omega
    have e1 : wi64 (d * v) = d * v := wi64_id (by omega) (by omega)
    have e3 : d * v * v = d * (v * v) := by grind
    have e5 : wi64 (d * v * v) = d * (v * v) := by rw [e3]; exact wi64_id (by omega) (by omega)
    have e6 : wi64 (d * (v * v) + 4 * a * nn) = d * (v * v) + 4 * a * nn := wi64_id (by omega) (by omega)
    by_cases hm : d * (v * v) + 4 * a * nn < 0
    · refine ⟨none, fun K KR => ?_, fun K KR => ?_⟩
      · rw [binary_Represents.l9]
        simp only [e1, e5, e4, e4n, e6, hm, decide_true, cond_true]
      · rw [parquetref08_Represents.l8]
        have hm' : ¬ (d * (v * v) + 4 * a * nn ≥ 0) := by omega
        simp only [e1, e5, e4, e4n, e6, hm', decide_false, cond_false]
    · have hm' : d * (v * v) + 4 * a * nn ≥ 0 := by omega
      obtain ⟨x, x0, x1, g1, g2, g3⟩ := root_model hN (m := d * (v * v) + 4 * a * nn) (by omega) (by omega)
      have hvle : v ≤ 16777300 := by
        rcases Int.lt_or_le 16777300 v with h | h
        · exfalso
          have p1 := sq_le (x := 16777300) (y := v) (by omega) (by omega)
          have p2 := Int.mul_le_mul_of_nonneg_right (show (1:Int) ≤ -d by omega) hvv0
          have e : -d * (v * v) = -(d * (v * v)) := by grind
          omega
        · exact h
      have e7 : wi64 (v + 1) = v + 1 := wi64_id (by omega) (by omega)
      have hnext : 0 ≤ d * ((v + 1 - 1) * (v + 1 - 1)) + 4 * a * nn := by
        have : v + 1 - 1 = v := by omega
        rw [this]; exact hm'
      obtain ⟨o, o1, o2⟩ := ih (v + 1) (by omega) (.inr hnext) (by omega)
      by_cases hx : x * x = d * (v * v) + 4 * a * nn
      · have hx1 : (x * x == d * (v * v) + 4 * a * nn) = true := by simpa using hx
        have hx2 : (x * x != d * (v * v) + 4 * a * nn) = false := by simpa using hx
        refine ⟨if Int.tmod (wi64 (x - wi64 (b * v))) (2 * a) = 0 then some (vX p q a v (wi64 (x - wi64 (b * v))), vX r s a v (wi64 (x - wi64 (b * v)))) else if Int.tmod (wi64 (wi64 (0 - x) - wi64 (b * v))) (2 * a) = 0 then some (vX p q a v (wi64 (wi64 (0 - x) - wi64 (b * v))), vX r s a v (wi64 (wi64 (0 - x) - wi64 (b * v)))) else o, fun K KR => ?_, fun K KR => ?_⟩
        · rw [binary_Represents.l9]
          simp only [e1, e5, e4, e4n, e6, hm, decide_false, cond_false, g1, Option.bind_some, hx1, Bool.not_true, e2, z2, Bool.not_false, cond_true]
          by_cases t1 : Int.tmod (wi64 (x - wi64 (b * v))) (2 * a) = 0
          · have t1' : (Int.tmod (wi64 (x - wi64 (b * v))) (2 * a) == 0) = true := by simpa using t1
            rw [t1', cond_true, if_pos t1]; rfl
          · have t1' : (Int.tmod (wi64 (x - wi64 (b * v))) (2 * a) == 0) = false := by simpa using t1
            rw [t1', cond_false, if_neg t1]
            by_cases t2 : Int.tmod (wi64 (wi64 (0 - x) - wi64 (b * v))) (2 * a) = 0
            · have t2' : (Int.tmod (wi64 (wi64 (0 - x) - wi64 (b * v))) (2 * a) == 0) = true := by simpa using t2
              rw [t2', cond_true, if_pos t2]; rfl
            · have t2' : (Int.tmod (wi64 (wi64 (0 - x) - wi64 (b * v))) (2 * a) == 0) = false := by simpa using t2
              rw [t2', cond_false, if_neg t2, e7]
              exact o1 K KR
        · rw [parquetref08_Represents.l8]
          simp only [e1, e5, e4, e4n, e6, hm', decide_true, cond_true, g2, Option.bind_some, g3, hx2, cond_false]
          rw [l14_model hN a0 a1]
          by_cases t1 : Int.tmod (wi64 (x - wi64 (b * v))) (2 * a) = 0
          · rw [if_pos t1, if_pos t1]
          · rw [if_neg t1, if_neg t1]
            by_cases t2 : Int.tmod (wi64 (wi64 (0 - x) - wi64 (b * v))) (2 * a) = 0
            · rw [if_pos t2, if_pos t2]
            · rw [if_neg t2, if_neg t2, e7]
              exact o2 K KR
      · have hx1 : (x * x == d * (v * v) + 4 * a * nn) = false := by simpa using hx
        have hx2 : (x * x != d * (v * v) + 4 * a * nn) = true := by simpa using hx
        refine ⟨o, fun K KR => ?_, fun K KR => ?_⟩
        · rw [binary_Represents.l9]
          simp only [e1, e5, e4, e4n, e6, hm, decide_false, cond_false, g1, Option.bind_some, hx1, Bool.not_false, cond_true, e7]
          exact o1 K KR
        · rw [parquetref08_Represents.l8]
          simp only [e1, e5, e4, e4n, e6, hm', decide_true, cond_true, g2, Option.bind_some, g3, hx2, e7]
          exact o2 K KR

theorem represents_model {N : Nat} (hN : 8589934600 < N) (a b c n : Int) : ∃ z, binary_Represents.f N a b c n = some z ∧ parquetref08_Represents.f N a b c n = some z := by
  unfold binary_Represents.f parquetref08_Represents.f
  obtain ⟨a1, b1, c1, p1, q1, r1, s1, e1, h1, h2, h3⟩ := reduce_model hN a b c
  rw [h1, h2]
  simp only [Option.bind_some]
  cases hx : (e1 != 0)
  · have he : e1 = 0 := by simpa using hx
    obtain ⟨g1, g2, g3⟩ := h3 he
    obtain ⟨i1, i2⟩ := reduced_bounds g1 g2 g3
    simp only [cond_false]
    by_cases n0 : n < 1
    · simp only [n0, decide_true, cond_true]; exact ⟨_, rfl, rfl⟩
    · by_cases n1 : n > 1073741824
      · simp only [n0, n1, decide_true, decide_false, cond_true, cond_false]; exact ⟨_, rfl, rfl⟩
      · simp only [n0, n1, decide_false, cond_false]
        rw [(disc_model N a1 b1 c1).1, (disc_model N a1 b1 c1).2, if_pos i1, disc_id i1]
        simp only [Option.bind_some]
        obtain ⟨o, o1, o2⟩ := rep_loops (N := N) (by omega) (b := b1) (c := c1) g1.a0 i2 (show 1 ≤ n by omega) (by omega) g1.d0 g1.d1 p1 q1 r1 s1 N 0 (by omega) (.inl rfl) (by omega)
        rw [o1, o2]
        cases o <;> exact ⟨_, rfl, rfl⟩
  · exact ⟨_, rfl, rfl⟩

end Go.Proofs.Ytckddgepjhclpaa.Pure
