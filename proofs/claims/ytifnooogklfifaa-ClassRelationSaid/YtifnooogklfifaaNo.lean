-- Plain laws of the row law01: division, its loop and its whole.
import Derived.Test.YtifnooogklfifaaNn
import Derived.KernelRfl
namespace Go.Proofs.Ytifnooogklfifaa.NatL
open Go Go.Proofs.Ytifnooogklfifaa.Ev
set_option linter.unusedVariables false
set_option linter.unusedSimpArgs false

theorem pow_le_B {i k : Nat} (h : i ≤ k) : (4294967296 : Int) ^ i ≤ (4294967296 : Int) ^ k := by
  rw [Bpow, Bpow]; exact p2_mono (by omega)
theorem pow_B_pos (i : Nat) : 0 < (4294967296 : Int) ^ i := Int.pow_pos (by decide)

/-- A number's first digits. -/
theorem nv_top3 {u : List Int} (hu : Dig (4294967296 : Int) u) {p : Nat} (hp : p + 3 ≤ u.length) (hb : nv (4294967296 : Int) u < (4294967296 : Int) ^ (p + 3)) :
    nv (4294967296 : Int) u = nv (4294967296 : Int) (u.take p) + (4294967296 : Int) ^ p * (u.getD p 0 + (4294967296 : Int) * (u.getD (p + 1) 0 + (4294967296 : Int) * u.getD (p + 2) 0)) ∧ 0 ≤ nv (4294967296 : Int) (u.take p) ∧ nv (4294967296 : Int) (u.take p) < (4294967296 : Int) ^ p := by
  have h1 := nv_split (4294967296 : Int) u p (by omega)
  have h2 := nv_drop (4294967296 : Int) u p (by omega)
  have h3 := nv_drop (4294967296 : Int) u (p + 1) (by omega)
  have h4 := nv_drop (4294967296 : Int) u (p + 1 + 1) (by omega)
  have ht := nv_bound (show (0 : Int) < (4294967296 : Int) by decide) (hu.take p)
  have hd := nv_bound (show (0 : Int) < (4294967296 : Int) by decide) (hu.drop (p + 1 + 1 + 1))
  have hl : (u.take p).length = p := by rw [List.length_take]; omega
  rw [hl] at ht
  have g0 := hu.get (by decide) p
  have g1 := hu.get (by decide) (p + 1)
  have g2 := hu.get (by decide) (p + 1 + 1)
  have hz : nv (4294967296 : Int) (u.drop (p + 1 + 1 + 1)) = 0 := by
    rcases Int.lt_or_le 0 (nv (4294967296 : Int) (u.drop (p + 1 + 1 + 1))) with h | h
    · exfalso
      have hpp := pow_B_pos p
      have e : nv (4294967296 : Int) u = nv (4294967296 : Int) (u.take p) + (4294967296 : Int) ^ p * (u.getD p 0 + (4294967296 : Int) * (u.getD (p + 1) 0 + (4294967296 : Int) * u.getD (p + 1 + 1) 0)) + (4294967296 : Int) ^ (p + 3) * nv (4294967296 : Int) (u.drop (p + 1 + 1 + 1)) := by
        rw [h1, h2, h3, h4, Int.pow_add]
        have : (4294967296 : Int) ^ 3 = (4294967296 : Int) * (4294967296 : Int) * (4294967296 : Int) := by decide
        rw [this]; grind
      have q1 := Int.mul_nonneg (Int.le_of_lt hpp) (show 0 ≤ u.getD p 0 + (4294967296 : Int) * (u.getD (p + 1) 0 + (4294967296 : Int) * u.getD (p + 1 + 1) 0) by omega)
      have q2 := Int.mul_le_mul_of_nonneg_left (show 1 ≤ nv (4294967296 : Int) (u.drop (p + 1 + 1 + 1)) by omega) (Int.le_of_lt (pow_B_pos (p + 3)))
      omega
    · omega
  refine ⟨?_, ht.1, ht.2⟩
  rw [h1, h2, h3, h4, hz]
  simp

/-- The guess against the whole numbers. -/
theorem guess_whole {U W P XX vt vs lo lo2 d : Int} (hP : 0 < P) (hU : U = XX * P + lo) (hW : W = (vt * (4294967296 : Int) + vs) * P + lo2) (l0 : 0 ≤ lo) (l1 : lo < P) (m0 : 0 ≤ lo2) (m1 : lo2 < P) (hvt : 1 ≤ vt) (hvs : 0 ≤ vs) (d0 : 0 ≤ d) (d1 : d < (4294967296 : Int)) (hd : d * (vt * (4294967296 : Int) + vs) ≤ XX)
    (hq : ∀ q, 0 ≤ q → q < (4294967296 : Int) → q * (vt * (4294967296 : Int) + vs) ≤ XX → q ≤ d) (hU0 : 0 ≤ U) (hUW : U < (4294967296 : Int) * W) :
    (d - 1) * W ≤ U ∧ ∃ q, 0 ≤ q ∧ q < (4294967296 : Int) ∧ q * W ≤ U ∧ U < (q + 1) * W ∧ (d = q ∨ d = q + 1) := by
  have hVV : (4294967296 : Int) ≤ vt * (4294967296 : Int) + vs := by omega
  have hWP : (4294967296 : Int) * P ≤ W := by
    have := Int.mul_le_mul_of_nonneg_right hVV (Int.le_of_lt hP); omega
  have hWpos : 0 < W := by omega
  have h1 : (d - 1) * W ≤ U := by
    have e1 : d * W = d * (vt * (4294967296 : Int) + vs) * P + d * lo2 := by rw [hW]; grind
    have e2 := Int.mul_le_mul_of_nonneg_right hd (Int.le_of_lt hP)
    have e3 := Int.mul_le_mul (show d ≤ (4294967296 : Int) by omega) (Int.le_of_lt m1) m0 (by decide)
    have e4 : (d - 1) * W = d * W - W := by grind
    omega
  refine ⟨h1, U / W, Int.ediv_nonneg hU0 (Int.le_of_lt hWpos), ?_, ?_, ?_, ?_⟩
  · exact Int.ediv_lt_of_lt_mul hWpos hUW
  · exact Int.ediv_mul_le U (by omega)
  · exact Int.lt_ediv_add_one_mul_self U hWpos
  · have q0 : 0 ≤ U / W := Int.ediv_nonneg hU0 (Int.le_of_lt hWpos)
    have q1 : U / W < (4294967296 : Int) := Int.ediv_lt_of_lt_mul hWpos hUW
    have q2 := Int.ediv_mul_le U (b := W) (by omega)
    have q3 := Int.lt_ediv_add_one_mul_self U hWpos
    generalize U / W = q at *
    have up : q ≤ d := by
      refine hq q q0 q1 ?_
      -- q VV P ≤ q W ≤ U < (XX + 1) P
      have f1 : q * W = q * (vt * (4294967296 : Int) + vs) * P + q * lo2 := by rw [hW]; grind
      have f2 := Int.mul_nonneg q0 m0
      rcases Int.lt_or_le XX (q * (vt * (4294967296 : Int) + vs)) with h | h
      · exfalso
        have := Int.mul_le_mul_of_nonneg_right (show XX + 1 ≤ q * (vt * (4294967296 : Int) + vs) by omega) (Int.le_of_lt hP)
        have f3 : (XX + 1) * P = XX * P + P := by grind
        omega
      · exact h
    have lw : d ≤ q + 1 := by
      rcases Int.lt_or_le (q + 1) d with h | h
      · exfalso
        have := Int.mul_le_mul_of_nonneg_right (show q + 1 ≤ d - 1 by omega) (Int.le_of_lt hWpos)
        omega
      · exact h
    omega

/-- Digits that stay nought. -/
theorem nodig {u z : List Int} {k : Nat} (hu : Dig (4294967296 : Int) u) (hub : nv (4294967296 : Int) u < (4294967296 : Int) ^ k) (hk : k ≤ u.length) (hz : Dig (4294967296 : Int) z) (hzl : z.length = u.length) (hzd : z.drop k = u.drop k) : 0 ≤ nv (4294967296 : Int) z ∧ nv (4294967296 : Int) z < (4294967296 : Int) ^ k := by
  have hzb := nv_bound (show (0 : Int) < (4294967296 : Int) by decide) hz
  have s1 := nv_split (4294967296 : Int) z k (by omega)
  have s2 := nv_split (4294967296 : Int) u k (by omega)
  have ht := nv_bound (show (0 : Int) < (4294967296 : Int) by decide) (hz.take k)
  have htu := nv_bound (show (0 : Int) < (4294967296 : Int) by decide) (hu.take k)
  have hl1 : (z.take k).length = k := by rw [List.length_take]; omega
  rw [hl1] at ht
  rw [hzd] at s1
  have hdb := nv_bound (show (0 : Int) < (4294967296 : Int) by decide) (hu.drop k)
  have hzero : nv (4294967296 : Int) (u.drop k) = 0 := by
    rcases Int.lt_or_le 0 (nv (4294967296 : Int) (u.drop k)) with h | h
    · exfalso
      have := Int.mul_le_mul_of_nonneg_left (show 1 ≤ nv (4294967296 : Int) (u.drop k) by omega) (Int.le_of_lt (pow_B_pos k))
      omega
    · omega
  rw [hzero] at s1
  omega

/-- From the guess to the digit. -/
theorem step_fix {N : Nat} (hN : 1000000001 < N) {R : Type} (v : List Int) (hv : Dig (4294967296 : Int) v) (hvl : v.length ≤ 10000000) (s : Int) (K0 : Int → List Int → List Int → Option R) (f j : Nat) (u out : List Int) (hu : Dig (4294967296 : Int) u) (hl : u.length = out.length + v.length) (hul : u.length ≤ 100000000) (hj : j < out.length)
    (hUb : nv (4294967296 : Int) u < (4294967296 : Int) ^ (j + (v.length + 1))) (d q : Int) (d0 : 0 ≤ d) (d1 : d < (4294967296 : Int)) (q0 : 0 ≤ q) (q1 : q < (4294967296 : Int)) (q2 : q * ((4294967296 : Int) ^ j * nv (4294967296 : Int) v) ≤ nv (4294967296 : Int) u) (q3 : nv (4294967296 : Int) u < (q + 1) * ((4294967296 : Int) ^ j * nv (4294967296 : Int) v)) (q4 : d = q ∨ d = q + 1) :
    ∃ z, Dig (4294967296 : Int) z ∧ z.length = u.length ∧ nv (4294967296 : Int) z = nv (4294967296 : Int) u - q * ((4294967296 : Int) ^ j * nv (4294967296 : Int) v) ∧
      (bif (((decide (0 ≤ (j : Int))) && (decide ((j : Int) ≤ (wi64 ((wi64 ((j : Int) + (v.length : Int))) + 1))))) && (decide ((wi64 ((wi64 ((j : Int) + (v.length : Int))) + 1)) ≤ (wi64 ((wi64 ((j : Int) + (v.length : Int))) + 1))))) && (decide ((wi64 ((wi64 ((j : Int) + (v.length : Int))) + 1)) ≤ (u.length : Int))) then
          (nat_away.f N (j : Int).toNat (((wi64 ((wi64 ((j : Int) + (v.length : Int))) + 1)).toNat) - (j : Int).toNat) v (wu32 d) u).bind fun r34 =>
          bif !r34.1 then
            bif (decide (0 ≤ (j : Int))) && (decide ((j : Int) < (out.length : Int))) then
              nat_long.l7 N f (v.length : Int) s (wi64 ((j : Int) - 1)) v r34.2 (out.set (j : Int).toNat (wu32 d)) K0
            else none
          else
          bif (decide (0 ≤ (j : Int))) && (decide ((j : Int) < (out.length : Int))) then
            nat_long.l21 N N (v.length : Int) s (j : Int) (j : Int).toNat (((wi64 ((wi64 ((j : Int) + (v.length : Int))) + 1)).toNat) - (j : Int).toNat) 0 ((((wi64 ((wi64 ((j : Int) + (v.length : Int))) + 1)).toNat) - (j : Int).toNat : Nat) : Int) 0 v r34.2 (out.set (j : Int).toNat (wu32 ((wu32 d) - 1)))
              (fun y52 y53 y54 y55 y56 y57 =>
                nat_long.l7 N f y52 y53 (wi64 (y54 - 1)) y55 y56 y57 K0)
          else none
        else none) = nat_long.l7 N f (v.length : Int) s ((j : Int) - 1) v z (out.set j q) K0 := by
  have w5 : wi64 ((j : Int) + (v.length : Int)) = ((j + v.length : Nat) : Int) := by rw [wi64_id (by omega) (by omega)]; omega
  have w6 : wi64 (((j + v.length : Nat) : Int) + 1) = ((j + (v.length + 1) : Nat) : Int) := by rw [wi64_id (by omega) (by omega)]; omega
  have w7 : wi64 ((j : Int) - 1) = (j : Int) - 1 := wi64_id (by omega) (by omega)
  have t4 : (j : Int).toNat = j := by omega
  have t5 : ((j + (v.length + 1) : Nat) : Int).toNat - j = v.length + 1 := by omega
  simp only [w5, w6, t4, t5, w7]
  have b5 : (decide (0 ≤ (j : Int)) && decide ((j : Int) ≤ ((j + (v.length + 1) : Nat) : Int)) && decide (((j + (v.length + 1) : Nat) : Int) ≤ ((j + (v.length + 1) : Nat) : Int)) && decide (((j + (v.length + 1) : Nat) : Int) ≤ (u.length : Int))) = true := by simp; omega
  have b6 : (decide (0 ≤ (j : Int)) && decide ((j : Int) < (out.length : Int))) = true := by simp; omega
  rw [b5, b6, wu32_id d0 d1]
  simp only [cond_true]
  obtain ⟨u', w', a1, a2, a3, a4, a5, a6, a7⟩ := away_model hN hv (by omega) d0 d1 hu (off := j) (by omega) (by omega)
  rw [a7]
  simp only [Option.bind_some]
  obtain ⟨n0, n1⟩ := nodig hu hUb (by omega) a1 a2 a6
  have hdW : (4294967296 : Int) ^ j * (d * nv (4294967296 : Int) v) = d * ((4294967296 : Int) ^ j * nv (4294967296 : Int) v) := by grind
  rw [hdW] at a5
  generalize hWW : (4294967296 : Int) ^ j * nv (4294967296 : Int) v = W at *
  rcases q4 with hdq' | hdq'
  · subst hdq'
    have hw0 : w' = 0 := by
      rcases Int.lt_or_le 0 w' with h | h
      · have : w' = 1 := by omega
        subst this
        omega
      · omega
    subst hw0
    simp only [bne_self_eq_false, Bool.not_false, cond_true]
    exact ⟨u', a1, a2, by omega, rfl⟩
  · subst hdq'
    have hq1 : (q + 1) * W = q * W + W := by grind
    have hw1 : w' = 1 := by
      rcases Int.lt_or_le 0 w' with h | h
      · omega
      · have : w' = 0 := by omega
        subst this
        omega
    subst hw1
    have c1 : (!((1 : Int) != 0)) = false := by decide
    rw [c1]
    simp only [cond_false]
    rw [wu32_id (n := q + 1 - 1) (by omega) (by omega)]
    have e1 : q + 1 - 1 = q := by omega
    rw [e1]
    obtain ⟨u'', c', k1, k2, k3, k4, k5, k6, k7⟩ := back_loop N j v hv (by omega) s (j : Int) (out.set j q) (fun y52 y53 y54 y55 y56 y57 => nat_long.l7 N f y52 y53 (wi64 (y54 - 1)) y55 y56 y57 K0) N 0 0 u' a1 (by omega) (by omega) (by omega) (by omega) (by omega) (by omega)
    have hz0 : ((0 : Nat) : Int) = 0 := rfl
    rw [hz0] at k7
    rw [k7]
    simp only [w7]
    obtain ⟨n2, n3⟩ := nodig hu hUb (by omega) k1 (by omega) (by rw [k6, a6])
    simp only [Nat.add_zero, List.drop_zero, Int.mul_zero, Int.add_zero, hWW] at k5
    have hc1 : c' = 1 := by
      rcases Int.lt_or_le 0 c' with h | h
      · omega
      · have : c' = 0 := by omega
        subst this
        omega
    subst hc1
    exact ⟨u'', k1, by omega, by omega, rfl⟩

/-- One digit of the quotient. -/
theorem long_step {N : Nat} (hN : 1000000001 < N) {R : Type} (v : List Int) (hv : Dig (4294967296 : Int) v) (n : Nat) (hn : v.length = n + 2) (hvl : v.length ≤ 10000000) (htop' : 2147483648 ≤ v.getD (n + 1) 0) (s : Int) (K0 : Int → List Int → List Int → Option R) (f j : Nat) (u out : List Int) (hu : Dig (4294967296 : Int) u) (hl : u.length = out.length + v.length) (hul : u.length ≤ 100000000) (hj : j < out.length)
    (hUW : nv (4294967296 : Int) u < (4294967296 : Int) * ((4294967296 : Int) ^ j * nv (4294967296 : Int) v)) :
    ∃ q z, 0 ≤ q ∧ q < (4294967296 : Int) ∧ nv (4294967296 : Int) u < (q + 1) * ((4294967296 : Int) ^ j * nv (4294967296 : Int) v) ∧ Dig (4294967296 : Int) z ∧ z.length = u.length ∧ nv (4294967296 : Int) z = nv (4294967296 : Int) u - q * ((4294967296 : Int) ^ j * nv (4294967296 : Int) v) ∧ nat_long.l7 N (f + 1) (v.length : Int) s (j : Int) v u out K0 = nat_long.l7 N f (v.length : Int) s ((j : Int) - 1) v z (out.set j q) K0 := by
  have hvb := nv_bound (show (0 : Int) < (4294967296 : Int) by decide) hv
  have hub := nv_bound (show (0 : Int) < (4294967296 : Int) by decide) hu
  have hPj := pow_B_pos j
  have hUb : nv (4294967296 : Int) u < (4294967296 : Int) ^ (j + n + 3) := by
    have := Int.mul_le_mul_of_nonneg_left (Int.le_of_lt hvb.2) (Int.le_of_lt (pow_B_pos (j + 1)))
    rw [← Int.pow_add, hn] at this
    have e : j + 1 + (n + 2) = j + n + 3 := by omega
    have e2 : (4294967296 : Int) * ((4294967296 : Int) ^ j * nv (4294967296 : Int) v) = (4294967296 : Int) ^ (j + 1) * nv (4294967296 : Int) v := by rw [Int.pow_succ]; grind
    rw [e] at this
    omega
  obtain ⟨U1, U2, U3⟩ := nv_top3 hu (p := j + n) (by omega) hUb
  -- the divisor's first digits
  have hvs1 := nv_split (4294967296 : Int) v n (by omega)
  have hvs2 := nv_drop (4294967296 : Int) v n (by omega)
  have hvs3 := nv_drop (4294967296 : Int) v (n + 1) (by omega)
  have hvs4 : v.drop (n + 1 + 1) = [] := List.drop_eq_nil_iff.mpr (by omega)
  rw [hvs4] at hvs3
  have hlo2 := nv_bound (show (0 : Int) < (4294967296 : Int) by decide) (hv.take n)
  have hlen2 : (v.take n).length = n := by rw [List.length_take]; omega
  rw [hlen2] at hlo2
  have gt := hv.get (by decide) (n + 1)
  have gs := hv.get (by decide) n
  have g0 := hu.get (by decide) (j + n + 2)
  have g1 := hu.get (by decide) (j + n + 1)
  have g2 := hu.get (by decide) (j + n)
  generalize hvt : v.getD (n + 1) 0 = vt at *
  generalize hvs : v.getD n 0 = vs at *
  generalize hu0 : u.getD (j + n + 2) 0 = u0 at *
  generalize hu1 : u.getD (j + n + 1) 0 = u1 at *
  generalize hu2 : u.getD (j + n) 0 = u2 at *
  -- whole numbers: W = (4294967296 : Int)^j V
  have hW : (4294967296 : Int) ^ j * nv (4294967296 : Int) v = (vt * (4294967296 : Int) + vs) * (4294967296 : Int) ^ (j + n) + (4294967296 : Int) ^ j * nv (4294967296 : Int) (v.take n) := by
    rw [hvs1, hvs2, hvs3, Int.pow_add]; simp only [nv]; grind
  have hU : nv (4294967296 : Int) u = ((u0 * (4294967296 : Int) + u1) * (4294967296 : Int) + u2) * (4294967296 : Int) ^ (j + n) + nv (4294967296 : Int) (u.take (j + n)) := by
    rw [U1]; grind
  have hlow : 0 ≤ (4294967296 : Int) ^ j * nv (4294967296 : Int) (v.take n) ∧ (4294967296 : Int) ^ j * nv (4294967296 : Int) (v.take n) < (4294967296 : Int) ^ (j + n) := by
    refine ⟨Int.mul_nonneg (Int.le_of_lt hPj) hlo2.1, ?_⟩
    have := Int.mul_lt_mul_of_pos_left hlo2.2 hPj
    rw [← Int.pow_add] at this; exact this
  have hXle : u0 * (4294967296 : Int) + u1 ≤ vt * (4294967296 : Int) + (4294967296 : Int) - 1 := by
    rcases Int.lt_or_le (vt * (4294967296 : Int) + (4294967296 : Int) - 1) (u0 * (4294967296 : Int) + u1) with h | h
    · exfalso
      have hpp := pow_B_pos (j + n)
      have q1 := Int.mul_le_mul_of_nonneg_right (show (vt * (4294967296 : Int) + (4294967296 : Int)) * (4294967296 : Int) ≤ (u0 * (4294967296 : Int) + u1) * (4294967296 : Int) + u2 by omega) (Int.le_of_lt hpp)
      have q2 := Int.mul_le_mul_of_nonneg_right (show vt * (4294967296 : Int) + vs + 1 ≤ vt * (4294967296 : Int) + (4294967296 : Int) by omega) (Int.le_of_lt hpp)
      have e1 : (vt * (4294967296 : Int) + (4294967296 : Int)) * (4294967296 : Int) * (4294967296 : Int) ^ (j + n) = (4294967296 : Int) * ((vt * (4294967296 : Int) + (4294967296 : Int)) * (4294967296 : Int) ^ (j + n)) := by grind
      have e2 : (vt * (4294967296 : Int) + vs + 1) * (4294967296 : Int) ^ (j + n) = (vt * (4294967296 : Int) + vs) * (4294967296 : Int) ^ (j + n) + (4294967296 : Int) ^ (j + n) := by grind
      omega
    · exact h
  -- the first guess
  have hX0 : 0 ≤ u0 * (4294967296 : Int) + u1 := by omega
  have hdm := Int.mul_ediv_add_emod (u0 * (4294967296 : Int) + u1) vt
  have hm0 := Int.emod_nonneg (u0 * (4294967296 : Int) + u1) (b := vt) (by omega)
  have hm1 := Int.emod_lt_of_pos (u0 * (4294967296 : Int) + u1) (b := vt) (by omega)
  have hd0 : 0 ≤ (u0 * (4294967296 : Int) + u1) / vt := Int.ediv_nonneg hX0 (by omega)
  have hd1 : (u0 * (4294967296 : Int) + u1) / vt ≤ 4294967297 := by
    rcases Int.lt_or_le 4294967297 ((u0 * (4294967296 : Int) + u1) / vt) with h | h
    · exfalso
      have := Int.mul_le_mul_of_nonneg_left (show 4294967298 ≤ (u0 * (4294967296 : Int) + u1) / vt by omega) (show 0 ≤ vt by omega)
      omega
    · exact h
  have hX : wu64 (u0 * (4294967296 : Int) + u1) = u0 * (4294967296 : Int) + u1 := wu64_id hX0 (by omega)
  have hguess0 : ∀ q, 0 ≤ q → q < (4294967296 : Int) → q * (vt * (4294967296 : Int) + vs) ≤ (u0 * (4294967296 : Int) + u1) * (4294967296 : Int) + u2 → q ≤ (u0 * (4294967296 : Int) + u1) / vt := by
    intro q q0 q1 hq
    have f1 : q * (vt * (4294967296 : Int) + vs) = q * vt * (4294967296 : Int) + q * vs := by grind
    have f2 := Int.mul_nonneg q0 gs.1
    have f3 : q * vt ≤ u0 * (4294967296 : Int) + u1 := by
      rcases Int.lt_or_le (u0 * (4294967296 : Int) + u1) (q * vt) with h | h
      · omega
      · exact h
    exact (Int.le_ediv_iff_mul_le (by omega)).mpr f3
  have hdm' : (u0 * (4294967296 : Int) + u1) / vt * vt + (u0 * (4294967296 : Int) + u1) % vt = u0 * (4294967296 : Int) + u1 := by rw [Int.mul_comm]; exact hdm
  -- the machine's words
  have w2 : wi64 ((v.length : Int) - 1) = ((n + 1 : Nat) : Int) := by rw [wi64_id (by omega) (by omega)]; omega
  have w3 : wi64 (((j + n + 2 : Nat) : Int) - 1) = ((j + n + 1 : Nat) : Int) := by rw [wi64_id (by omega) (by omega)]; omega
  have w5 : wi64 ((j : Int) + (v.length : Int)) = ((j + n + 2 : Nat) : Int) := by rw [wi64_id (by omega) (by omega)]; omega
  have t1 : ((j + n + 2 : Nat) : Int).toNat = j + n + 2 := by omega
  have t2 : ((j + n + 1 : Nat) : Int).toNat = j + n + 1 := by omega
  have t3 : ((n + 1 : Nat) : Int).toNat = n + 1 := by omega
  have b0 : decide ((j : Int) ≥ 0) = true := decide_eq_true (by omega)
  have b1 : (decide (0 ≤ ((j + n + 2 : Nat) : Int)) && decide (((j + n + 2 : Nat) : Int) < (u.length : Int))) = true := by simp; omega
  have b2 : (decide (0 ≤ ((j + n + 1 : Nat) : Int)) && decide (((j + n + 1 : Nat) : Int) < (u.length : Int))) = true := by simp; omega
  have b3 : (decide (0 ≤ ((n + 1 : Nat) : Int)) && decide (((n + 1 : Nat) : Int) < (v.length : Int))) = true := by simp; omega
  have evt : wu64 vt = vt := wu64_id (by omega) (by omega)
  have b4 : (vt == 0) = false := by simp; omega
  have er : bit_or .u64 (wu64 (wu64 u0 * 2 ^ 32)) (wu64 u1) = u0 * (4294967296 : Int) + u1 := by
    rw [wu64_id g0.1 (by omega), wu64_id g1.1 (by omega), two32, wu64_id (n := u0 * 4294967296) (by omega) (by omega), or_shift g0.1 g0.2 g1.1 g1.2]
  rw [nat_long.l7]
  simp only [b0, w5, w3, w2, b1, b2, b3, cond_true, t1, t2, t3, hvt, hu0, hu1, evt, b4, Bool.not_false, er, tdiv_nn hX0, tmod_nn hX0]
  rw [wu64_id hd0 (by omega)]
  obtain ⟨d, d0, d1, hdle, hdq, hgo⟩ := guess_loop N v u out (n + 2) j s (u0 * (4294967296 : Int) + u1) (by omega) hn.symm (by omega) (by omega) (by omega) hv hu vt vs u2 hvt hvs hu2 htop' hXle
    (fun y27 y28 y29 y30 y31 y32 y33 =>
      bif (((decide (0 ≤ y29)) && (decide (y29 ≤ (wi64 ((wi64 (y29 + y27)) + 1))))) && (decide ((wi64 ((wi64 (y29 + y27)) + 1)) ≤ (wi64 ((wi64 (y29 + y27)) + 1))))) && (decide ((wi64 ((wi64 (y29 + y27)) + 1)) ≤ (y32.length : Int))) then
        (nat_away.f N y29.toNat (((wi64 ((wi64 (y29 + y27)) + 1)).toNat) - y29.toNat) y31 (wu32 y30) y32).bind fun r34 =>
        bif !r34.1 then
          bif (decide (0 ≤ y29)) && (decide (y29 < (y33.length : Int))) then
            nat_long.l7 N f y27 y28 (wi64 (y29 - 1)) y31 r34.2 (y33.set y29.toNat (wu32 y30)) K0
          else none
        else
        bif (decide (0 ≤ y29)) && (decide (y29 < (y33.length : Int))) then
          nat_long.l21 N N y27 y28 y29 y29.toNat (((wi64 ((wi64 (y29 + y27)) + 1)).toNat) - y29.toNat) 0 ((((wi64 ((wi64 (y29 + y27)) + 1)).toNat) - y29.toNat : Nat) : Int) 0 y31 r34.2 (y33.set y29.toNat (wu32 ((wu32 y30) - 1)))
            (fun y52 y53 y54 y55 y56 y57 =>
              nat_long.l7 N f y52 y53 (wi64 (y54 - 1)) y55 y56 y57 K0)
        else none
      else none) N ((u0 * (4294967296 : Int) + u1) / vt) ((u0 * (4294967296 : Int) + u1) % vt) hd0 hd1 hm0 (by omega) hdm' (by omega) hguess0
  have hn' : (v.length : Int) = ((n + 2 : Nat) : Int) := by omega
  have hgo' := hgo
  rw [← hn'] at hgo'
  rw [hgo']
  obtain ⟨_, q, q0, q1, q2, q3, q4⟩ := guess_whole (pow_B_pos (j + n)) hU hW U2 U3 hlow.1 hlow.2 (by omega) gs.1 d0 d1 hdle hdq hub.1 hUW
  have hUb' : nv (4294967296 : Int) u < (4294967296 : Int) ^ (j + (v.length + 1)) := by
    have e : j + (v.length + 1) = j + n + 3 := by omega
    rw [e]; exact hUb
  obtain ⟨z, z1, z2, z3, z4⟩ := step_fix hN v hv hvl s K0 f j u out hu hl hul hj hUb' d q d0 d1 q0 q1 q2 q3 q4
  exact ⟨q, z, q0, q1, q3, z1, z2, z3, z4⟩

/-- The digits of the quotient, one by one. -/
theorem long_loop {N : Nat} (hN : 1000000001 < N) {R : Type} (v : List Int) (hv : Dig (4294967296 : Int) v) (h2 : 2 ≤ v.length) (hvl : v.length ≤ 10000000) (htop : 2147483648 ≤ v.getD (v.length - 1) 0) (s : Int) (K0 : Int → List Int → List Int → Option R) :
    ∀ (m fuel : Nat) (u out : List Int), Dig (4294967296 : Int) u → Dig (4294967296 : Int) out → u.length = out.length + v.length → u.length ≤ 100000000 → m ≤ out.length → m < fuel → nv (4294967296 : Int) u < (4294967296 : Int) ^ m * nv (4294967296 : Int) v → (∀ k, k < m → out.getD k 0 = 0) →
      ∃ u' out', Dig (4294967296 : Int) u' ∧ Dig (4294967296 : Int) out' ∧ u'.length = u.length ∧ out'.length = out.length ∧ nv (4294967296 : Int) out' * nv (4294967296 : Int) v + nv (4294967296 : Int) u' = nv (4294967296 : Int) out * nv (4294967296 : Int) v + nv (4294967296 : Int) u ∧ nv (4294967296 : Int) u' < nv (4294967296 : Int) v ∧ nat_long.l7 N fuel (v.length : Int) s ((m : Int) - 1) v u out K0 = K0 s u' out' := by
  intro m
  induction m with
  | zero =>
    intro fuel u out hu ho hl hul hm hf hlt hz
    obtain ⟨f, rfl⟩ : ∃ f, fuel = f + 1 := ⟨fuel - 1, by omega⟩
    refine ⟨u, out, hu, ho, rfl, rfl, rfl, by simpa using hlt, ?_⟩
    rw [nat_long.l7]
    have : decide (((0 : Nat) : Int) - 1 ≥ 0) = false := by decide
    rw [this]; rfl
  | succ j ih =>
    intro fuel u out hu ho hl hul hm hf hlt hz
    obtain ⟨f, rfl⟩ : ∃ f, fuel = f + 1 := ⟨fuel - 1, by omega⟩
    obtain ⟨n, hn⟩ : ∃ n, v.length = n + 2 := ⟨v.length - 2, by omega⟩
    have hUW : nv (4294967296 : Int) u < (4294967296 : Int) * ((4294967296 : Int) ^ j * nv (4294967296 : Int) v) := by
      have e : (4294967296 : Int) ^ (j + 1) * nv (4294967296 : Int) v = (4294967296 : Int) * ((4294967296 : Int) ^ j * nv (4294967296 : Int) v) := by rw [Int.pow_succ]; grind
      omega
    obtain ⟨q, z, q0, q1, q3, z1, z2, z3, z4⟩ := long_step hN v hv n hn hvl (by rw [hn] at htop; exact htop) s K0 f j u out hu hl hul (by omega) hUW
    have o3 : nv (4294967296 : Int) (out.set j q) = nv (4294967296 : Int) out + (4294967296 : Int) ^ j * q := by
      rw [nv_set (4294967296 : Int) q out j (by omega), hz j (by omega)]; simp
    have o4 : ∀ k, k < j → (out.set j q).getD k 0 = 0 := fun k hk => by
      rw [List.getD_eq_getElem?_getD, List.getElem?_set_ne (by omega), ← List.getD_eq_getElem?_getD]
      exact hz k (by omega)
    have ol : (out.set j q).length = out.length := by simp
    obtain ⟨u'', out'', r1, r2, r3, r4, r5, r6, r7⟩ := ih f z (out.set j q) z1 (ho.set j q0 q1) (by omega) (by omega) (by omega) (by omega) (by
      have : (q + 1) * ((4294967296 : Int) ^ j * nv (4294967296 : Int) v) = q * ((4294967296 : Int) ^ j * nv (4294967296 : Int) v) + (4294967296 : Int) ^ j * nv (4294967296 : Int) v := by grind
      omega) o4
    have w4 : ((j + 1 : Nat) : Int) - 1 = (j : Int) := by omega
    refine ⟨u'', out'', r1, r2, by omega, by omega, ?_, r6, by rw [w4, z4, r7]⟩
    rw [r5, o3, z3]; grind


end Go.Proofs.Ytifnooogklfifaa.NatL
