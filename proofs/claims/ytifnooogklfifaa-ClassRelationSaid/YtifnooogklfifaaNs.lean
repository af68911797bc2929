-- Plain laws of the row law02: Gcd, the program's and the document's.
import Derived.Test.YtifnooogklfifaaNr
import Derived.KernelRfl
namespace Go.Proofs.Ytifnooogklfifaa.NatL
open Go Go.Proofs.Ytifnooogklfifaa.Ev
set_option linter.unusedVariables false
set_option linter.unusedSimpArgs false

/-- What is told of two numbers: their greatest common divisor, and by which it is made. -/
structure GT (a b g x y : Int) : Prop where
  eg : g = gcdI a b
  sum : a * x + b * y = g
  bz : b = 0 → x = sn a ∧ y = 0
  lo : b ≠ 0 → 0 ≤ x ∧ x < ab b / g

theorem ab_natAbs (a : Int) : (ab a).natAbs = a.natAbs := by
  rcases ab_cases a with ⟨c1, c2⟩ | ⟨c1, c2⟩ <;> rw [c2]; omega
theorem gcdI_ab (a b : Int) : gcdI (ab a) (ab b) = gcdI a b := by
  unfold gcdI Int.gcd
  rw [ab_natAbs, ab_natAbs]
theorem gcdI_nonneg (a b : Int) : 0 ≤ gcdI a b := by unfold gcdI; omega
theorem gcdI_left (a b : Int) : gcdI a b ∣ a := Int.gcd_dvd_left a b
theorem gcdI_right (a b : Int) : gcdI a b ∣ b := Int.gcd_dvd_right a b
theorem gcdI_pos {a b : Int} (h : b ≠ 0) : 0 < gcdI a b := by
  rcases Int.lt_or_le 0 (gcdI a b) with h1 | h1
  · exact h1
  · have h2 := gcdI_nonneg a b
    have h3 : gcdI a b = 0 := by omega
    have h4 := gcdI_right a b
    rw [h3] at h4
    exact absurd (Int.zero_dvd.mp h4) h
theorem ab_dvd {d a : Int} (h : d ∣ a) : d ∣ ab a := by
  rcases ab_cases a with ⟨c1, c2⟩ | ⟨c1, c2⟩ <;> rw [c2]
  · exact h
  · exact Int.dvd_neg.mpr h

/-- Both divided by their greatest divisor have none but 1. -/
theorem gcd_one {a b : Int} (h : b ≠ 0) : gcdI (ab b / gcdI a b) ((a / gcdI a b) % (ab b / gcdI a b)) = 1 := by
  have gp := gcdI_pos (a := a) h
  have h1 := gcdI_left a b
  have h2 := ab_dvd (gcdI_right a b)
  have h2' := gcdI_right a b
  obtain ⟨m, hm⟩ := h2
  obtain ⟨c, hc⟩ := h1
  have all : ∀ d, d ∣ a → d ∣ b → d ∣ gcdI a b := fun d p q => Int.dvd_coe_gcd p q
  generalize gcdI a b = g at *
  have e1 : ab b / g = m := by rw [hm]; exact Int.mul_ediv_cancel_left _ (by omega)
  have e2 : a / g = c := by rw [hc]; exact Int.mul_ediv_cancel_left _ (by omega)
  rw [e1, e2]
  have k1 := gcdI_left m (c % m)
  have k2 := gcdI_right m (c % m)
  have k3 := gcdI_nonneg m (c % m)
  generalize gcdI m (c % m) = G at *
  have k4 : G ∣ c := by
    have := Int.mul_ediv_add_emod c m
    rw [← this]
    exact Int.dvd_add (Int.dvd_trans k1 (Int.dvd_mul_right m _)) k2
  have k5 : g * G ∣ a := by rw [hc]; exact Int.mul_dvd_mul_left g k4
  have k6 : g * G ∣ b := by
    have : g * G ∣ ab b := by rw [hm]; exact Int.mul_dvd_mul_left g k1
    rcases ab_cases b with ⟨c1, c2⟩ | ⟨c1, c2⟩ <;> rw [c2] at this
    · exact this
    · exact Int.dvd_neg.mp this
  have k7 := Int.le_of_dvd gp (all _ k5 k6)
  by_cases hG : G = 0
  · subst hG
    have k8 := all _ k5 k6
    rw [Int.mul_zero] at k8
    have := Int.zero_dvd.mp k8
    omega
  · by_cases hG1 : G = 1
    · exact hG1
    · have := Int.mul_le_mul_of_nonneg_left (show 2 ≤ G by omega) (Int.le_of_lt gp)
      omega

/-- A number times the sign of another. -/
theorem sv_cross (y b : Int) : b * sv (!(sg y == sg b)) (ab y) = y * ab b := by
  rcases sg_cases y with ⟨a1, a2, a3⟩ | ⟨a1, a2, a3⟩ <;> rcases sg_cases b with ⟨b1, b2, b3⟩ | ⟨b1, b2, b3⟩ <;> rw [a1, b1, a3, b3] <;> unfold sv <;> simp [Int.mul_neg, Int.neg_mul, Int.mul_comm]

theorem GT.of {a b g c m x y : Int} (hb : b ≠ 0) (hg : g = gcdI a b) (gp : 0 < g) (hc : a = g * c) (hm : ab b = g * m) (h1 : x * c + y * m = 1) (x0 : 0 ≤ x) (x1 : x < m) : GT a b g x (sv (!(sg y == sg b)) (ab y)) := by
  refine ⟨hg, ?_, fun h => absurd h hb, fun _ => ⟨x0, ?_⟩⟩
  · rw [sv_cross, hm, hc]
    have : g * c * x + y * (g * m) = g * (x * c + y * m) := by grind
    rw [this, h1]; omega
  · have : ab b / g = m := by rw [hm]; exact Int.mul_ediv_cancel_left _ (by omega)
    rw [this]; exact x1

theorem GT.unique {a b g x y g' x' y' : Int} (h : GT a b g x y) (k : GT a b g' x' y') : g = g' ∧ x = x' ∧ y = y' := by
  have e1 : g = g' := by rw [h.eg, k.eg]
  subst e1
  refine ⟨rfl, ?_⟩
  by_cases hb : b = 0
  · obtain ⟨p1, p2⟩ := h.bz hb
    obtain ⟨q1, q2⟩ := k.bz hb
    exact ⟨by rw [p1, q1], by rw [p2, q2]⟩
  · obtain ⟨p1, p2⟩ := h.lo hb
    obtain ⟨q1, q2⟩ := k.lo hb
    have gp := gcdI_pos (a := a) hb
    rw [← h.eg] at gp
    have hg1 : g ∣ a := by rw [h.eg]; exact gcdI_left a b
    have hg2 : g ∣ ab b := by rw [h.eg]; exact ab_dvd (gcdI_right a b)
    have hone := gcd_one (a := a) hb
    rw [← h.eg] at hone
    have m1 := h.sum
    have m2 := k.sum
    obtain ⟨m, hm⟩ := hg2
    obtain ⟨c, hc⟩ := hg1
    have em : ab b / g = m := by rw [hm]; exact Int.mul_ediv_cancel_left _ (by omega)
    have ec : a / g = c := by rw [hc]; exact Int.mul_ediv_cancel_left _ (by omega)
    rw [em, ec] at hone
    rw [em] at p2 q2
    -- m divides c (x - x'), and shares nothing with c
    have hx : x = x' := by
      have s1 : c * (x - x') = m * (c * (x - x') / m) := by
        have d : m ∣ c * (x - x') := by
          have e2 : a * (x - x') = b * (y' - y) := by grind
          have e3 : ∃ t, b = ab b * t := by
            rcases ab_cases b with ⟨c1, c2⟩ | ⟨c1, c2⟩
            · exact ⟨1, by rw [c2]; omega⟩
            · exact ⟨-1, by rw [c2]; omega⟩
          obtain ⟨t, ht⟩ := e3
          refine ⟨t * (y' - y), ?_⟩
          have e4 : g * (c * (x - x')) = g * (m * (t * (y' - y))) := by
            have : g * (c * (x - x')) = a * (x - x') := by rw [hc]; grind
            rw [this, e2, ht, hm]; grind
          exact Int.eq_of_mul_eq_mul_left (by omega) e4
        exact (Int.mul_ediv_cancel' d).symm
      have d : m ∣ c * (x - x') := ⟨_, s1⟩
      have d2 : m ∣ (c % m) * (x - x') := by
        have e := Int.mul_ediv_add_emod c m
        have : (c % m) * (x - x') = c * (x - x') - m * (c / m * (x - x')) := by
          have : c % m = c - m * (c / m) := by omega
          rw [this]; grind
        rw [this]
        exact Int.dvd_sub d (Int.dvd_mul_right m _)
      have d3 : m ∣ x - x' := by
        have hcop : Int.gcd m (c % m) = 1 := by unfold gcdI at hone; omega
        have d4 := Int.natAbs_dvd_natAbs.mpr d2
        rw [Int.natAbs_mul] at d4
        exact Int.natAbs_dvd_natAbs.mp (Nat.Coprime.dvd_of_dvd_mul_left hcop d4)
      rcases Int.lt_trichotomy x x' with hlt | heq | hgt
      · have d4 : m ∣ x' - x := by
          have : x' - x = -(x - x') := by omega
          rw [this]; exact Int.dvd_neg.mpr d3
        have := Int.le_of_dvd (by omega) d4
        omega
      · exact heq
      · have := Int.le_of_dvd (by omega) d3
        omega
    subst hx
    refine ⟨rfl, ?_⟩
    have : b * y = b * y' := by omega
    exact Int.eq_of_mul_eq_mul_left hb this

theorem pB_ab (x : Int) : pB (ab x) = pB x := by unfold pB; rw [ab_ab]
theorem gcd_ab0 (a : Int) : gcdI a 0 = ab a := by
  rw [← gcdI_ab]; exact gcd_zero (ab_nonneg a)

theorem GT.zero (a : Int) : GT a 0 (ab a) (sn a) 0 := by
  refine ⟨(gcd_ab0 a).symm, ?_, fun _ => ⟨rfl, rfl⟩, fun h => absurd rfl h⟩
  rcases sn_cases a with ⟨s1, s2⟩ | ⟨s1, s2⟩ | ⟨s1, s2⟩ <;> rw [s2]
  · rw [s1]; decide
  · unfold ab; rw [if_pos s1]; omega
  · rw [ab_of (by omega)]; omega
theorem sn_bound (a : Int) : -9223372036854775808 ≤ sn a ∧ sn a < 9223372036854775808 := by
  rcases sn_cases a with ⟨s1, s2⟩ | ⟨s1, s2⟩ | ⟨s1, s2⟩ <;> rw [s2] <;> exact ⟨by decide, by decide⟩

theorem div_le {g a : Int} (gp : 0 < g) : ab (a / g) ≤ ab a + 1 ∧ ab (ab a / g) ≤ ab a := by
  have d1 := Int.mul_ediv_add_emod a g
  have d2 := Int.emod_nonneg a (show g ≠ 0 by omega)
  have d3 := Int.emod_lt_of_pos a gp
  have a0 := ab_nonneg a
  constructor
  · rcases ab_cases (a / g) with ⟨c1, c2⟩ | ⟨c1, c2⟩ <;> rw [c2]
    · have := Int.mul_le_mul_of_nonneg_right (show 1 ≤ g by omega) c1
      rcases ab_cases a with ⟨e1, e2⟩ | ⟨e1, e2⟩ <;> omega
    · have := Int.mul_le_mul_of_nonneg_right (show 1 ≤ g by omega) (show 0 ≤ -(a / g) - 1 by omega)
      have e : g * (-(a / g) - 1) = -(g * (a / g)) - g := by grind
      rcases ab_cases a with ⟨e1, e2⟩ | ⟨e1, e2⟩ <;> omega
  · rw [ab_of (Int.ediv_nonneg a0 (by omega))]
    exact Int.ediv_le_self _ a0

theorem z_gcd {N : Nat} (hN : 1000000001 < N) {a b : Int} (ha : 3 * ab a + 6 < K) (hb : 2 * ab b < K) : ∃ g x y, GT a b g x y ∧ ab y ≤ 3 + 2 * ab a ∧ zint_Gcd.f N (sg a) (pB a) (sg b) (pB b) = some (pB g, sg x, pB x, sg y, pB y) := by
  have a0 := ab_nonneg a
  have b0 := ab_nonneg b
  have za : Zr a := zr_of (by omega)
  have zb : Zr b := zr_of (by omega)
  unfold zint_Gcd.f
  rw [z_sign zb]
  simp only [Option.bind_some]
  by_cases h : b = 0
  · subst h
    obtain ⟨k1, k2⟩ := sn_bound a
    refine ⟨ab a, sn a, 0, GT.zero a, by have : ab 0 = 0 := rfl; omega, ?_⟩
    have c0 : (sn 0 == 0) = true := rfl
    rw [c0]
    simp only [cond_true]
    rw [z_sign za]
    simp only [Option.bind_some]
    rw [z_of hN k1 k2, pB_ab, pB_zero, sg_zero]
    rfl
  · have c0 : (sn b == 0) = false := by
      rcases sn_cases b with ⟨s1, s2⟩ | ⟨s1, s2⟩ | ⟨s1, s2⟩ <;> rw [s2]
      · exact absurd s1 h
      · rfl
      · rfl
    rw [c0]
    simp only [cond_false]
    have hg := gcd_model hN za zb
    rw [gcdI_ab] at hg
    have gr := gcdI_rg za zb
    rw [gcdI_ab] at gr
    have gp := gcdI_pos (a := a) h
    have h1 := gcdI_left a b
    have h2 := ab_dvd (gcdI_right a b)
    have hone := gcd_one (a := a) h
    obtain ⟨l1, l2⟩ := div_le (a := a) gp
    obtain ⟨l3, l4⟩ := div_le (a := b) gp
    have hgg : gcdI a b = gcdI a b := rfl
    generalize hge : gcdI a b = g at *
    have zg : Zr g := zr_of (by rw [ab_of (by omega)]; exact gr.hi)
    have em := Int.emod_eq_zero_of_dvd h1
    have em2 := Int.emod_eq_zero_of_dvd h2
    obtain ⟨m, hm⟩ := h2
    obtain ⟨c, hc⟩ := h1
    have edm : ab b / g = m := by rw [hm]; exact Int.mul_ediv_cancel_left _ (by omega)
    have edc : a / g = c := by
      have : g * c / g = c := Int.mul_ediv_cancel_left _ (by omega)
      rw [← hc] at this; exact this
    have hbp : 0 < ab b := by have : ab b ≠ 0 := fun q => h (ab_zero.mp q); omega
    have mp : 0 < m := by
      rcases Int.lt_or_le 0 m with q | q
      · exact q
      · have := Int.mul_nonneg (Int.le_of_lt gp) (show 0 ≤ -m by omega)
        rw [Int.mul_neg] at this; omega
    unfold pB
    rw [hg]
    simp only [Option.bind_some]
    rw [z_make _ gr]
    have e0 : sv false g = g := rfl
    rw [e0]
    simp only [Option.bind_some]
    have fold : ∀ z : Int, enc (4294967296 : Int) (ab z) = pB z := fun z => rfl
    simp only [fold]
    rw [z_exact hN za zg (by omega), if_pos em]
    simp only [Option.bind_some, must_model]
    rw [z_make' _ zb]
    have e1 : sv false (ab b) = ab b := rfl
    rw [e1]
    simp only [Option.bind_some]
    rw [z_exact hN (zr_ab zb) zg (by omega), if_pos em2]
    simp only [Option.bind_some]
    rw [edm, edc] at hone
    rw [edc] at l1
    rw [edm] at l4
    rw [edm, edc]
    have abm : ab m = m := ab_of (by omega)
    obtain ⟨x, y, p1, p2, p3, p4, p5⟩ := cof_model hN (c := c) (m := m) (by omega) (by omega) mp
    rw [p5]
    simp only [Option.bind_some]
    have zy : Zr y := zr_of (by omega)
    rw [z_make' _ zy]
    have hgt := GT.of h hge.symm gp hc hm (by rw [p1]; exact hone) p2 p3
    refine ⟨g, x, _, hgt, by rw [ab_sv _ (ab_nonneg y)]; omega, ?_⟩
    have e3 : enc (4294967296 : Int) g = pB g := by unfold pB; rw [ab_of (by omega)]
    rw [e3]
    rfl


end Go.Proofs.Ytifnooogklfifaa.NatL
