-- Plain laws of the row law10: the product of two classes, whole.
import Derived.Test.YtbnoablfajmaeaaGreatPc
namespace Go.Proofs.YtbnoablfajmaeaaGreat.Pure
open Go Go.Proofs.YtbnoablfajmaeaaGreat.Ev
open Go.Proofs.YtbnoablfajmaeaaGreat.NatL (ab ab_cases ab_nonneg ab_of ab_zero GT gcdI gcdI_nonneg gcdI_left gcdI_right tmod_nn tdiv_nn)
open Go.Proofs.YtbnoablfajmaeaaGreat.Mod (Fo Hm PM)
set_option linter.unusedVariables false
set_option linter.unusedSimpArgs false

/-- No number but 1 divides all parts. -/
def Prim (a b c : Int) : Prop := ∃ p q r : Int, p * a + q * b + r * c = 1

/-- The condition on r, in numbers. -/
theorem r_key {a1 a2 c1 c2 s t1 t2 k y1 z1 e x2 y2 m : Int} (hk : a2 * y1 + a1 * z1 = k) (he : (t1 + t2 + s) * x2 + k * y2 = e)
    (h1 : t1 * t1 + s * t1 - m = a1 * c1) (h2 : t2 * t2 + s * t2 - m = a2 * c2) :
    a2 * (y1 * (-y2 * (t2 - t1)) - x2 * c2) + e * (t2 - t1) = a1 * (z1 * y2 * (t2 - t1) - x2 * c1) ∧
    (t1 + t2 + s) * (y1 * (-y2 * (t2 - t1)) - x2 * c2) + e * c2 = a1 * (y2 * (c2 * z1 + c1 * y1)) := by
  have hs : (t1 + t2 + s) * (t2 - t1) = a2 * c2 - a1 * c1 := by rw [← h1, ← h2]; grind
  constructor
  · have e1 : a2 * (y1 * (-y2 * (t2 - t1)) - x2 * c2) + e * (t2 - t1) = -(y2 * (t2 - t1)) * (a2 * y1) - x2 * (a2 * c2) + e * (t2 - t1) := by grind
    have e2 : e * (t2 - t1) = x2 * ((t1 + t2 + s) * (t2 - t1)) + y2 * (t2 - t1) * k := by rw [← he]; grind
    rw [e1, e2, hs, ← hk]
    grind
  · have e1 : (t1 + t2 + s) * (y1 * (-y2 * (t2 - t1)) - x2 * c2) + e * c2 = -(y1 * y2) * ((t1 + t2 + s) * (t2 - t1)) + c2 * (e - (t1 + t2 + s) * x2) := by grind
    have e2 : e - (t1 + t2 + s) * x2 = k * y2 := by omega
    rw [e1, e2, hs, ← hk]
    grind

/-- The two forms united: what their lattices make. -/
theorem united {s m v1 v2 c1 c2 t1 t2 k y1 z1 e x2 y2 s' j p q r : Int} (he0 : e ≠ 0) (hk : e * v2 * y1 + e * v1 * z1 = k) (he : (t1 + t2 + s) * x2 + k * y2 = e) (hs : t1 + t2 + s = e * s')
    (h1 : t1 * t1 + s * t1 - m = e * v1 * c1) (h2 : t2 * t2 + s * t2 - m = e * v2 * c2) (hp : p * (e * v1) + q * (2 * t1 + s) + r * c1 = 1) (u : Mod.E) :
    PM s m (Fo (e * v1) t1) (Fo (e * v2) t2) u ↔ Mod.Sc s m ⟨e, 0⟩ (Fo (v1 * v2) (t2 + v2 * (y1 * (-y2 * (t2 - t1)) - x2 * c2 + v1 * j))) u := by
  obtain ⟨k1, k2⟩ := r_key (a1 := e * v1) (a2 := e * v2) hk he h1 h2
  generalize hR : y1 * (-y2 * (t2 - t1)) - x2 * c2 = R at *
  have w1 : v2 * R + (t2 - t1) = v1 * (z1 * y2 * (t2 - t1) - x2 * c1) := by
    have : e * (v2 * R + (t2 - t1)) = e * (v1 * (z1 * y2 * (t2 - t1) - x2 * c1)) := by
      have a1 : e * (v2 * R + (t2 - t1)) = e * v2 * R + e * (t2 - t1) := by grind
      rw [a1, k1]; grind
    exact Int.eq_of_mul_eq_mul_left he0 this
  have w2 : s' * R + c2 = v1 * (y2 * (c2 * z1 + c1 * y1)) := by
    have : e * (s' * R + c2) = e * (v1 * (y2 * (c2 * z1 + c1 * y1))) := by
      have a1 : e * (s' * R + c2) = (t1 + t2 + s) * R + e * c2 := by rw [hs]; grind
      rw [a1, k2]; grind
    exact Int.eq_of_mul_eq_mul_left he0 this
  refine Mod.comp (n4 := s' * t2 - v2 * c2) (c1 := c1) (s' := s') (x := z1 * y2) (y := y1 * y2) (z := x2) (p := p) (q := q) (r := r) he0 hs ?_ h1 ?_ ?_ ?_ ?_ hp u
  · have : e * (s' * t2 - v2 * c2) = (e * s') * t2 - e * v2 * c2 := by grind
    rw [this, ← hs, ← h2]; grind
  · refine ⟨z1 * y2 * (t2 - t1) - x2 * c1 + v2 * j, ?_⟩
    have : v1 * (z1 * y2 * (t2 - t1) - x2 * c1 + v2 * j) = v1 * (z1 * y2 * (t2 - t1) - x2 * c1) + v1 * (v2 * j) := Int.mul_add ..
    rw [this, ← w1]; grind
  · exact ⟨R + v1 * j, by grind⟩
  · refine ⟨-(y2 * (c2 * z1 + c1 * y1)) - s' * j, ?_⟩
    have : v1 * v2 * (-(y2 * (c2 * z1 + c1 * y1)) - s' * j) = -(v2 * (v1 * (y2 * (c2 * z1 + c1 * y1)))) - v1 * v2 * s' * j := by grind
    rw [this, ← w2]; grind
  · rw [← hs]
    have : z1 * y2 * (e * v1) + y1 * y2 * (e * v2) + x2 * (t1 + t2 + s) = (t1 + t2 + s) * x2 + (e * v2 * y1 + e * v1 * z1) * y2 := by grind
    rw [this, hk, he]

/-- A reduced form's sizes. -/
theorem small_of {d a b c : Int} (h : Of d a b c) (a0 : 0 < a) (hr : inR a b) (hs : ¬ small_ a b c) (hd1 : -4294967296 ≤ d) : a ≤ 37838 ∧ a ≤ c ∧ c ≤ 1073741824 ∧ Fine a b c ∨ ¬ d < 0 := by
  by_cases hd : d < 0
  · left
    obtain ⟨r1, r2⟩ := hr
    have hac : a ≤ c := by
      rcases Int.lt_or_le c a with q | q
      · exact absurd (Or.inl q) hs
      · exact q
    have he := h.eq
    have e4 : 4 * a * c = 4 * (a * c) := by grind
    have bb : b * b ≤ a * a := by
      have := Int.mul_nonneg (show 0 ≤ a - b by omega) (show 0 ≤ a + b by omega)
      have e : (a - b) * (a + b) = a * a - b * b := by grind
      omega
    have aa : a * a ≤ a * c := Int.mul_le_mul_of_nonneg_left hac (Int.le_of_lt a0)
    have bn := sq_nonneg b
    have a1 : a ≤ 37838 := by
      rcases Int.lt_or_le 37838 a with q | q
      · exfalso
        have := Int.mul_le_mul_of_nonneg_left (show 37839 ≤ a by omega) (show (0 : Int) ≤ 37839 by decide)
        have := Int.mul_le_mul_of_nonneg_right (show 37839 ≤ a by omega) (Int.le_of_lt a0)
        omega
      · exact q
    have c1 : c ≤ 1073741824 := by
      by_cases h1 : a = 1
      · subst h1
        have : b = 0 ∨ b = 1 := by omega
        rcases this with q | q <;> subst q <;> omega
      · rcases Int.lt_or_le 1073741824 c with q | q
        · exfalso
          have := Int.mul_le_mul_of_nonneg_right (show 2 ≤ a by omega) (show 0 ≤ c by omega)
          omega
        · exact q
    refine ⟨a1, hac, c1, ⟨⟨⟨by omega, by omega⟩, ⟨by omega, by omega⟩, by omega, c1⟩, a0, by omega, by omega⟩⟩
  · right; exact hd

/-- A reduced primitive form of the discriminant d. -/
structure Red (d a b c : Int) : Prop where
  a0 : 0 < a
  of : Of d a b c
  inr : inR a b
  sm : ¬ small_ a b c
  pr : Prim a b c

theorem gt_div {a b g x y : Int} (h : GT a b g x y) : g ∣ a ∧ g ∣ b := by
  rw [h.eg]; exact ⟨gcdI_left a b, gcdI_right a b⟩

theorem half_sum {d b1 b2 : Int} (h1 : b1 % 2 = d % 2) (h2 : b2 % 2 = d % 2) : Int.tdiv (b1 + b2) 2 = (b1 - sd d) / 2 + (b2 - sd d) / 2 + sd d := by
  have e : b1 + b2 = 2 * ((b1 - sd d) / 2 + (b2 - sd d) / 2 + sd d) := by unfold sd; omega
  rw [e, Int.mul_tdiv_cancel_left _ (by decide)]

/-- Half of the product: the first form's a is not the greater. -/
theorem product_half {N : Nat} (hN : 4294967400 < N) {R : Type} {d a1 b1 c1 a2 b2 c2 : Int} (hd : d < 0) (hd1 : -4294967296 ≤ d) (h1 : Red d a1 b1 c1) (h2 : Red d a2 b2 c2) (kr : Int → Int → Int → Option R) :
    ∃ a b c, 0 < a ∧ a ≤ 2147483648 ∧ Of d a b c ∧ inR a b ∧ ¬ small_ a b c ∧ Cl d (Pr d (La d a1 b1) (La d a2 b2)) (La d a b) ∧
    ((modular_Gcd.f N a2 a1).bind fun r25 =>
      (modular_Gcd.f N (wi64 (Int.tdiv (wi64 (b1 + b2)) 2)) r25.1).bind fun r26 =>
      bif !(r26.1 == 0) then
        bif !(r26.1 == 0) then
          (compose_mul.f N (wi64 (0 - r26.2.2)) (wi64 (b2 - (wi64 (Int.tdiv (wi64 (b1 + b2)) 2)))) (wi64 (Int.tdiv a1 r26.1))).bind fun r27 =>
          (compose_mul.f N r25.2.1 r27 (wi64 (Int.tdiv a1 r26.1))).bind fun r28 =>
          (compose_mul.f N r26.2.1 c2 (wi64 (Int.tdiv a1 r26.1))).bind fun r29 =>
          bif !((wi64 (Int.tdiv a1 r26.1)) == 0) then
            bif !((wi64 (Int.tdiv a1 r26.1)) == 0) then
              compose_product.l12 N N d (wi64 ((wi64 (Int.tdiv a1 r26.1)) * (wi64 (Int.tdiv a2 r26.1)))) (wi64 (b2 + (wi64 ((wi64 (2 * (wi64 (Int.tdiv a2 r26.1)))) * (Int.tmod (wi64 ((Int.tmod (wi64 (r28 - r29)) (wi64 (Int.tdiv a1 r26.1))) + (wi64 (Int.tdiv a1 r26.1)))) (wi64 (Int.tdiv a1 r26.1))))))) 0 0 0 kr
            else none
          else none
        else none
      else none) = kr a b c := by
  obtain ⟨f1, _, f2, f3⟩ := (small_of h1.of h1.a0 h1.inr h1.sm hd1).resolve_right (fun q => q hd)
  obtain ⟨g1, _, g2, g3⟩ := (small_of h2.of h2.a0 h2.inr h2.sm hd1).resolve_right (fun q => q hd)
  have a10 := h1.a0
  have a20 := h2.a0
  obtain ⟨i1, i2⟩ := h1.inr
  obtain ⟨i3, i4⟩ := h2.inr
  obtain ⟨q1, q2, q3, q4⟩ := h1.of.t
  obtain ⟨q5, q6, _, _⟩ := h2.of.t
  obtain ⟨p1, _⟩ := h1.of.par
  obtain ⟨p2, _⟩ := h2.of.par
  have hsum := half_sum p1 p2
  generalize ht1 : (b1 - sd d) / 2 = t1 at *
  generalize ht2 : (b2 - sd d) / 2 = t2 at *
  have hsd : sd d = 0 ∨ sd d = 1 := q4
  generalize hs : t1 + t2 + sd d = S at *
  have hS : -38000 ≤ S ∧ S ≤ 38000 := by omega
  have w1 : wi64 (b1 + b2) = b1 + b2 := wi64_id (by omega) (by omega)
  have w2 : wi64 (Int.tdiv (wi64 (b1 + b2)) 2) = S := by rw [w1, hsum, wi64_id (by omega) (by omega)]
  -- the first divisor
  obtain ⟨k, y1, z1, G1, k0, k1, E1⟩ := gcd64 (N := N) (by omega) (a := a2) (b := a1) (by rw [ab_of (by omega)]; omega) (by rw [ab_of (by omega)]; omega)
  have kp : 0 < k := by rw [G1.eg]; exact NatL.gcdI_pos (by omega)
  obtain ⟨d1, d2⟩ := gt_div G1
  have kle : k ≤ a1 := Int.le_of_dvd a10 d2
  -- the second
  obtain ⟨e, x2, y2, G2, e0, e1, E2⟩ := gcd64 (N := N) (by omega) (a := S) (b := k) (by rcases ab_cases S with ⟨c1, c2⟩ | ⟨c1, c2⟩ <;> omega) (by rw [ab_of (by omega)]; omega)
  have ep : 0 < e := by rw [G2.eg]; exact NatL.gcdI_pos (by omega)
  obtain ⟨d3, d4⟩ := gt_div G2
  obtain ⟨s', hs'⟩ := d3
  obtain ⟨v1, hv1⟩ := Int.dvd_trans d4 d2
  obtain ⟨v2, hv2⟩ := Int.dvd_trans d4 d1
  have ele : e ≤ k := Int.le_of_dvd kp d4
  have v1p : 0 < v1 := by
    rcases Int.lt_or_le 0 v1 with q | q
    · exact q
    · have := Int.mul_nonneg (Int.le_of_lt ep) (show 0 ≤ -v1 by omega)
      rw [Int.mul_neg] at this; omega
  have v2p : 0 < v2 := by
    rcases Int.lt_or_le 0 v2 with q | q
    · exact q
    · have := Int.mul_nonneg (Int.le_of_lt ep) (show 0 ≤ -v2 by omega)
      rw [Int.mul_neg] at this; omega
  have v1le : v1 ≤ 37838 := by
    have := Int.mul_le_mul_of_nonneg_right (show 1 ≤ e by omega) (Int.le_of_lt v1p); omega
  have v2le : v2 ≤ 37838 := by
    have := Int.mul_le_mul_of_nonneg_right (show 1 ≤ e by omega) (Int.le_of_lt v2p); omega
  have w3 : wi64 (Int.tdiv a1 e) = v1 := by rw [hv1, Int.mul_tdiv_cancel_left _ (by omega), wi64_id (by omega) (by omega)]
  have w4 : wi64 (Int.tdiv a2 e) = v2 := by rw [hv2, Int.mul_tdiv_cancel_left _ (by omega), wi64_id (by omega) (by omega)]
  have w5 : wi64 (b2 - S) = t2 - t1 := by rw [wi64_id (by omega) (by omega)]; omega
  have ez : (!(e == 0)) = true := by
    have : (e == 0) = false := beq_eq_false_iff_ne.mpr (by omega)
    rw [this]; rfl
  have vz : (!(v1 == 0)) = true := by
    have : (v1 == 0) = false := beq_eq_false_iff_ne.mpr (by omega)
    rw [this]; rfl
  -- y2 is a word
  have by2 : wi64 (0 - y2) = -y2 := by
    have hx := G2.lo (by omega)
    have hxk : x2 < k := by
      have := Int.ediv_le_self e (show 0 ≤ ab k from ab_nonneg k)
      rw [ab_of k0] at this
      rw [ab_of k0] at hx
      omega
    have hsm := G2.sum
    have m1 : -(38000 * 37838) ≤ S * x2 ∧ S * x2 ≤ 38000 * 37838 := mul_bound (by omega) (by omega) (by omega) (by omega)
    have e2 : k * y2 = e - S * x2 := by omega
    have m3 : (38000 : Int) * 37838 = 1437844000 := by decide
    have : -1437900000 ≤ y2 ∧ y2 ≤ 1437900000 := by
      constructor
      · rcases Int.lt_or_le y2 (-1437900000) with q | q
        · have := Int.mul_le_mul_of_nonneg_right (show 1 ≤ k by omega) (show 0 ≤ -y2 by omega)
          have e9 : k * -y2 = -(k * y2) := Int.mul_neg ..
          omega
        · exact q
      · rcases Int.lt_or_le 1437900000 y2 with q | q
        · have := Int.mul_le_mul_of_nonneg_right (show 1 ≤ k by omega) (show 0 ≤ y2 by omega)
          omega
        · exact q
    rw [wi64_id (by omega) (by omega)]; omega
  rw [E1]
  simp only [Option.bind_some]
  rw [w2, E2]
  simp only [Option.bind_some, ez, cond_true]
  rw [w3, w4, w5, by2, mul_model v1p (by omega)]
  simp only [Option.bind_some]
  rw [mul_model v1p (by omega)]
  simp only [Option.bind_some]
  rw [mul_model v1p (by omega)]
  simp only [Option.bind_some, vz, cond_true]
  -- the rest r
  have m0 := Int.emod_nonneg (y1 * (-y2 * (t2 - t1) % v1)) (show v1 ≠ 0 by omega)
  have m1 := Int.emod_lt_of_pos (y1 * (-y2 * (t2 - t1) % v1)) v1p
  have m2 := Int.emod_nonneg (x2 * c2) (show v1 ≠ 0 by omega)
  have m3 := Int.emod_lt_of_pos (x2 * c2) v1p
  have hr : Int.tmod (wi64 (Int.tmod (wi64 (y1 * (-y2 * (t2 - t1) % v1) % v1 - x2 * c2 % v1)) v1 + v1)) v1 = (y1 * (-y2 * (t2 - t1)) - x2 * c2) % v1 := by
    rw [wi64_id (n := y1 * (-y2 * (t2 - t1) % v1) % v1 - x2 * c2 % v1) (by omega) (by omega)]
    have hf := fl (x := y1 * (-y2 * (t2 - t1) % v1) % v1 - x2 * c2 % v1) v1p
    have z0 := Int.emod_nonneg (y1 * (-y2 * (t2 - t1) % v1) % v1 - x2 * c2 % v1) (show v1 ≠ 0 by omega)
    have z1' := Int.emod_lt_of_pos (y1 * (-y2 * (t2 - t1) % v1) % v1 - x2 * c2 % v1) v1p
    have same : (y1 * (-y2 * (t2 - t1) % v1) % v1 - x2 * c2 % v1) % v1 = (y1 * (-y2 * (t2 - t1)) - x2 * c2) % v1 := by
      have mm : y1 * (-y2 * (t2 - t1) % v1) % v1 = y1 * (-y2 * (t2 - t1)) % v1 := by
        rw [Int.mul_emod, Int.emod_emod_of_dvd _ (Int.dvd_refl _), ← Int.mul_emod]
      rw [mm, ← Int.sub_emod]
    rw [← same]
    generalize y1 * (-y2 * (t2 - t1) % v1) % v1 - x2 * c2 % v1 = X at *
    by_cases h : Int.tmod X v1 < 0
    · obtain ⟨_, q⟩ := hf.1 h
      rw [← q, wi64_id (by omega) (by omega), Int.tmod_eq_of_lt z0 z1']
    · obtain ⟨_, q⟩ := hf.2 h
      rw [← q, wi64_id (by omega) (by omega), Int.tmod_eq_emod_of_nonneg (by omega), Int.add_emod_right, Int.emod_emod_of_dvd _ (Int.dvd_refl _)]
  rw [hr]
  have r0 := Int.emod_nonneg (y1 * (-y2 * (t2 - t1)) - x2 * c2) (show v1 ≠ 0 by omega)
  have r1 := Int.emod_lt_of_pos (y1 * (-y2 * (t2 - t1)) - x2 * c2) v1p
  have rd := Int.mul_ediv_add_emod (y1 * (-y2 * (t2 - t1)) - x2 * c2) v1
  have rj : (y1 * (-y2 * (t2 - t1)) - x2 * c2) % v1 = y1 * (-y2 * (t2 - t1)) - x2 * c2 + v1 * (-((y1 * (-y2 * (t2 - t1)) - x2 * c2) / v1)) := by rw [Int.mul_neg]; omega
  generalize hj : -((y1 * (-y2 * (t2 - t1)) - x2 * c2) / v1) = j at *
  -- the lattices
  obtain ⟨pp, pq, prr, hpr⟩ := h1.pr
  have hk : e * v2 * y1 + e * v1 * z1 = k := by rw [← hv2, ← hv1]; exact G1.sum
  have hun := fun u => united (s := sd d) (m := md d) (v1 := v1) (v2 := v2) (c1 := c1) (c2 := c2) (t1 := t1) (t2 := t2) (k := k) (y1 := y1) (z1 := z1) (e := e) (x2 := x2) (y2 := y2) (s' := s') (j := j) (p := pp) (q := pq) (r := prr) (by omega) hk (by rw [hs]; exact G2.sum) (by rw [hs]; exact hs') (by rw [← hv1]; exact q2) (by rw [← hv2]; exact q6) (by rw [← hv1, ← q1]; exact hpr) u
  rw [← hv1, ← hv2, ← rj] at hun
  have hdm : sd d * sd d + 4 * md d < 0 := by omega
  have rr0 := r0
  have rr1 := r1
  generalize (y1 * (-y2 * (t2 - t1)) - x2 * c2) % v1 = r at *
  have bv : v2 * r ≤ 37838 * 37838 := by
    have a := Int.mul_le_mul_of_nonneg_left (show r ≤ 37838 by omega) (Int.le_of_lt v2p)
    omega
  have bv0 := Int.mul_nonneg (Int.le_of_lt v2p) rr0
  have k3 : (37838 : Int) * 37838 = 1431714244 := by decide
  have vv0 := Int.mul_pos v1p v2p
  have vv1 : v1 * v2 ≤ 37838 * 37838 := by
    have a := Int.mul_le_mul_of_nonneg_left v2le (Int.le_of_lt v1p)
    omega
  have w6 : wi64 (v1 * v2) = v1 * v2 := wi64_id (by omega) (by omega)
  have w7 : wi64 (2 * v2) = 2 * v2 := wi64_id (by omega) (by omega)
  have e2r : 2 * v2 * r = 2 * (v2 * r) := by grind
  have w8 : wi64 (2 * v2 * r) = 2 * v2 * r := wi64_id (by omega) (by omega)
  have w9 : wi64 (b2 + 2 * v2 * r) = b2 + 2 * v2 * r := wi64_id (by omega) (by omega)
  rw [w6, w7, w8, w9]
  -- 4 a divides b b - d: the lattice is one of the ring's
  have hlat : La d (v1 * v2) (b2 + 2 * v2 * r) = Fo (v1 * v2) (t2 + v2 * r) := by
    unfold La
    have : b2 + 2 * v2 * r - sd d = (t2 + v2 * r) * 2 := by omega
    rw [this, Int.mul_ediv_cancel _ (by decide)]
  have hdv : 4 * (v1 * v2) ∣ (b2 + 2 * v2 * r) * (b2 + 2 * v2 * r) - d := by
    -- (t2 + v2 r + w) e is made; so is its product with w
    obtain ⟨kk1, kk2⟩ := r_key (a1 := a1) (a2 := a2) (c1 := c1) (c2 := c2) (s := sd d) (t1 := t1) (t2 := t2) (k := k) (y1 := y1) (z1 := z1) (e := e) (x2 := x2) (y2 := y2) (m := md d) G1.sum (by rw [hs]; exact G2.sum) q2 q6
    rw [hs] at kk2
    have rjj : y1 * (-y2 * (t2 - t1)) - x2 * c2 = r - v1 * j := by omega
    rw [rjj] at kk1 kk2
    -- v1 divides v2 r + t2 - t1 and s' r + c2
    have u1 : ∃ W, v2 * r + (t2 - t1) = v1 * W := by
      refine ⟨z1 * y2 * (t2 - t1) - x2 * c1 + v2 * j, ?_⟩
      have : e * (v2 * r + (t2 - t1)) = e * (v1 * (z1 * y2 * (t2 - t1) - x2 * c1 + v2 * j)) := by
        have a3 : e * (v2 * r + (t2 - t1)) = a2 * (r - v1 * j) + e * (t2 - t1) + a2 * v1 * j := by rw [hv2]; grind
        rw [a3, kk1, hv1, hv2]; grind
      exact Int.eq_of_mul_eq_mul_left (by omega) this
    have u2 : ∃ W, s' * r + c2 = v1 * W := by
      refine ⟨y2 * (c2 * z1 + c1 * y1) + s' * j, ?_⟩
      have : e * (s' * r + c2) = e * (v1 * (y2 * (c2 * z1 + c1 * y1) + s' * j)) := by
        have a3 : e * (s' * r + c2) = S * (r - v1 * j) + e * c2 + S * v1 * j := by rw [hs']; grind
        rw [a3, kk2, hv1, hs']; grind
      exact Int.eq_of_mul_eq_mul_left (by omega) this
    obtain ⟨W1, hW1⟩ := u1
    obtain ⟨W2, hW2⟩ := u2
    have hq : (t2 + v2 * r) * (t2 + v2 * r) + sd d * (t2 + v2 * r) - md d = v1 * v2 * (e * W2 + r * W1) := by
      have a4 : (t2 + v2 * r) * (t2 + v2 * r) + sd d * (t2 + v2 * r) - md d = (t2 * t2 + sd d * t2 - md d) + v2 * r * (t1 + t2 + sd d) + v2 * r * (v2 * r + (t2 - t1)) := by grind
      rw [a4, q6, hs, hs', hW1, hv2]
      have a5 : e * v2 * c2 + v2 * r * (e * s') + v2 * r * (v1 * W1) = e * v2 * (s' * r + c2) + v2 * r * (v1 * W1) := by grind
      rw [a5, hW2]; grind
    refine ⟨e * W2 + r * W1, ?_⟩
    have a6 : (b2 + 2 * v2 * r) * (b2 + 2 * v2 * r) - d = 4 * ((t2 + v2 * r) * (t2 + v2 * r) + sd d * (t2 + v2 * r) - md d) := by
      have a7 : b2 + 2 * v2 * r = 2 * (t2 + v2 * r) + sd d := by omega
      rw [a7]
      have hss : sd d * sd d = sd d := by rcases hsd with h | h <;> rw [h] <;> decide
      have a8 : (2 * (t2 + v2 * r) + sd d) * (2 * (t2 + v2 * r) + sd d) = 4 * ((t2 + v2 * r) * (t2 + v2 * r) + sd d * (t2 + v2 * r)) + sd d * sd d := by grind
      omega
    rw [a6, hq]; grind
  have hlp : Lp d (v1 * v2) (b2 + 2 * v2 * r) := ⟨vv0, by omega, by omega, by omega, hdv⟩
  obtain ⟨a, b, c, l1, l2, l3, l4, l5, l6, l7⟩ := small_loop (N := N) hd hd1 kr N (v1 * v2) (b2 + 2 * v2 * r) 0 0 0 hlp (by unfold mv; split <;> omega)
  refine ⟨a, b, c, l1, l2, l3, l4, l5, ?_, l7⟩
  have hcl : Cl d (Pr d (La d a1 b1) (La d a2 b2)) (La d (v1 * v2) (b2 + 2 * v2 * r)) := by
    rw [hlat]
    have e1' : La d a1 b1 = Fo a1 t1 := by unfold La; rw [ht1]
    have e2' : La d a2 b2 = Fo a2 t2 := by unfold La; rw [ht2]
    rw [e1', e2']
    exact Mod.Hm.scaled (k := ⟨e, 0⟩) (fun h => by have := congrArg Mod.E.re h; simp [Mod.ze] at this; omega) hun
  exact hcl.trans hdm l6

end Go.Proofs.YtbnoablfajmaeaaGreat.Pure
