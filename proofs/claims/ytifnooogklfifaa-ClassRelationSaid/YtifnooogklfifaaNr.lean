-- Plain laws of the row law02: the common divisor and by which it is made.
import Derived.Test.YtifnooogklfifaaNq
import Derived.KernelRfl
namespace Go.Proofs.Ytifnooogklfifaa.NatL
open Go Go.Proofs.Ytifnooogklfifaa.Ev
set_option linter.unusedVariables false
set_option linter.unusedSimpArgs false

/-- Where the search for the divisor stands. -/
structure Inv (c m r s u v w z : Int) : Prop where
  r0 : 0 < r
  s0 : 0 ≤ s
  sr : s < r
  rm : r ≤ m
  er : r = u * c + w * m
  es : s = v * c + z * m
  det : ab u * s + ab v * r = m
  op : (u ≤ 0 ∧ 0 ≤ v) ∨ (0 ≤ u ∧ v ≤ 0)
  half : 2 * ab u ≤ m

theorem ab_mul_le {w m b : Int} (hm : 0 < m) (h : ab (w * m) ≤ b * m) : ab w ≤ b := by
  rw [ab_mul, ab_of (show 0 ≤ m by omega)] at h
  exact Int.le_of_mul_le_mul_right h hm

/-- The other factor is not great. -/
theorem other_le {c m r u w : Int} (hm : 0 < m) (r0 : 0 ≤ r) (rm : r ≤ m) (er : r = u * c + w * m) (hu : ab u ≤ m) : ab w ≤ 1 + ab c := by
  refine ab_mul_le hm ?_
  have e : w * m = r - u * c := by omega
  rw [e]
  have h1 := ab_sub_le r (u * c)
  rw [ab_mul, ab_of r0] at h1
  have h2 := Int.mul_le_mul_of_nonneg_right hu (ab_nonneg c)
  have e2 : (1 + ab c) * m = m + m * ab c := by grind
  omega

theorem Inv.vm {c m r s u v w z : Int} (h : Inv c m r s u v w z) : ab v ≤ m := by
  have h1 := h.det
  have h2 := Int.mul_nonneg (ab_nonneg u) h.s0
  have h3 := Int.mul_le_mul_of_nonneg_left (show 1 ≤ r by have := h.r0; omega) (ab_nonneg v)
  omega
theorem Inv.m0 {c m r s u v w z : Int} (h : Inv c m r s u v w z) : 0 < m := by have := h.r0; have := h.rm; omega
theorem Inv.um {c m r s u v w z : Int} (h : Inv c m r s u v w z) : ab u ≤ m := by
  have := h.m0
  have := h.half
  have := ab_nonneg u; omega
theorem Inv.w1 {c m r s u v w z : Int} (h : Inv c m r s u v w z) : ab w ≤ 1 + ab c := other_le h.m0 (by have := h.r0; omega) h.rm h.er h.um
theorem Inv.z1 {c m r s u v w z : Int} (h : Inv c m r s u v w z) : ab z ≤ 1 + ab c := other_le h.m0 h.s0 (by have := h.sr; have := h.rm; omega) h.es h.vm

theorem Inv.step {c m r s u v w z : Int} (h : Inv c m r s u v w z) (hs : s ≠ 0) : Inv c m s (r % s) v (u - r / s * v) z (w - r / s * z) := by
  have s0 : 0 < s := by have := h.s0; omega
  have d1 := Int.mul_ediv_add_emod r s
  have d2 := Int.emod_nonneg r hs
  have d3 := Int.emod_lt_of_pos r s0
  have q0 : 0 ≤ r / s := Int.ediv_nonneg (Int.le_of_lt h.r0) h.s0
  generalize r % s = t at *
  generalize r / s = q at *
  have ev : ab (u - q * v) = ab u + q * ab v ∧ ((v ≤ 0 ∧ 0 ≤ u - q * v) ∨ (0 ≤ v ∧ u - q * v ≤ 0)) := by
    rcases h.op with ⟨a, b⟩ | ⟨a, b⟩
    · have hqv := Int.mul_nonneg q0 b
      have e1 : ab v = v := ab_of b
      have e2 : ab u = -u := by rw [← ab_neg]; exact ab_of (by omega)
      have e3 : ab (u - q * v) = -(u - q * v) := by rw [← ab_neg]; exact ab_of (by omega)
      rw [e1, e2, e3]
      exact ⟨by omega, Or.inr ⟨b, by omega⟩⟩
    · have hqv := Int.mul_nonneg q0 (show 0 ≤ -v by omega)
      rw [Int.mul_neg] at hqv
      have e1 : ab v = -v := by rw [← ab_neg]; exact ab_of (by omega)
      have e2 : ab u = u := ab_of a
      have e3 : ab (u - q * v) = u - q * v := ab_of (by omega)
      rw [e1, e2, e3, Int.mul_neg]
      exact ⟨by omega, Or.inl ⟨b, by omega⟩⟩
  have hdet := h.det
  refine ⟨s0, d2, d3, by have := h.sr; have := h.rm; omega, h.es, ?_, ?_, ?_, ?_⟩
  · have e1 := h.er
    have e2 := h.es
    grind
  · rw [ev.1]
    grind
  · rcases ev.2 with ⟨a, b⟩ | ⟨a, b⟩
    · exact Or.inl ⟨a, b⟩
    · exact Or.inr ⟨a, b⟩
  · have hu := Int.mul_nonneg (ab_nonneg u) h.s0
    have hr : 2 ≤ r := by have := h.sr; omega
    have h3 := Int.mul_le_mul_of_nonneg_left hr (ab_nonneg v)
    omega

theorem Inv.first {c m : Int} (hm : 0 < m) : Inv c m m (c % m) 0 1 1 (-(c / m)) := by
  have d1 := Int.mul_ediv_add_emod c m
  have d2 := Int.emod_nonneg c (show m ≠ 0 by omega)
  have d3 := Int.emod_lt_of_pos c hm
  have e0 : ab 0 = 0 := rfl
  have e1 : ab 1 = 1 := rfl
  have e2 : c / m * m = m * (c / m) := Int.mul_comm _ _
  refine ⟨hm, d2, d3, Int.le_refl _, by omega, ?_, by rw [e0, e1]; omega, Or.inl ⟨by decide, by decide⟩, by rw [e0]; omega⟩
  rw [Int.neg_mul]; omega

theorem Inv.qv {c m r s u v w z : Int} (h : Inv c m r s u v w z) (hs : s ≠ 0) : ab (r / s * v) ≤ 2 * m ∧ ab (r / s * z) ≤ 2 + 2 * ab c := by
  have g := h.step hs
  have a1 := g.vm
  have a2 := h.um
  have a3 := g.z1
  have a4 := h.w1
  have e1 : r / s * v = u - (u - r / s * v) := by omega
  have e2 : r / s * z = w - (w - r / s * z) := by omega
  have b1 := ab_sub_le u (u - r / s * v)
  have b2 := ab_sub_le w (w - r / s * z)
  rw [← e1] at b1
  rw [← e2] at b2
  exact ⟨by omega, by omega⟩

theorem Inv.fall {c m r s u v w z : Int} (h : Inv c m r s u v w z) (hs : s ≠ 0) : 2 * (s * (r % s)) ≤ r * s := by
  have s0 : 0 < s := by have := h.s0; omega
  have d1 := Int.mul_ediv_add_emod r s
  have d2 := Int.emod_nonneg r hs
  have d3 := Int.emod_lt_of_pos r s0
  have h3 : 1 ≤ r / s := (Int.le_ediv_iff_mul_le s0).mpr (by have := h.sr; omega)
  have h4 := Int.mul_le_mul_of_nonneg_left h3 (Int.le_of_lt s0)
  have h5 := Int.mul_le_mul_of_nonneg_left (show 2 * (r % s) ≤ r by omega) (Int.le_of_lt s0)
  have e : s * (2 * (r % s)) = 2 * (s * (r % s)) := by grind
  have e2 : s * r = r * s := Int.mul_comm _ _
  omega

theorem Inv.gcd {c m r s u v w z : Int} (h : Inv c m r s u v w z) (hs : s ≠ 0) : gcdI s (r % s) = gcdI r s := gcd_step (Int.le_of_lt h.r0) (by have := h.s0; omega)

theorem must_model (N : Nat) (b : Bool) (l : List Int) (e : Int) : zint_must.f N b l e = some (b, l) := rfl

/-- a - q b, where nothing is too long. -/
theorem less_model {N : Nat} (hN : 1000000001 < N) {a q b : Int} (ha : Zr a) (hq : Zr q) (hb : Zr b) (h1 : Zr (q * b)) (h2 : Zr (a - q * b)) : zint_cofactors_1.f N (sg a) (pB a) (sg q) (pB q) (sg b) (pB b) = some (sg (a - q * b), pB (a - q * b)) := by
  unfold zint_cofactors_1.f
  rw [z_mul hN hq hb, zo_id h1]
  simp only [Option.bind_some, must_model]
  rw [z_sub hN ha h1, zo_id h2]
  rfl

theorem zr_le {x y : Int} (h : Zr y) (hxy : ab x ≤ ab y) : Zr x := zr_of (by have := h.hi; omega)

theorem cof_loop {N : Nat} (hN : 1000000001 < N) {R : Type} {c m : Int} (hc : 2 + 2 * ab c < K) (hm : 2 * m < K) (x9 : Bool) (x10 : List Int) (x11 : Bool) (x12 : List Int) (x13 x14 : Bool) (K0 : Bool → List Int → Bool → List Int → Bool → Bool → Bool → List Int → Bool → List Int → Option R) :
    ∀ (k n : Nat) (r s u v w z : Int), Inv c m r s u v w z → r * s < 2 ^ k → k < n → ∃ u' w', u' * c + w' * m = gcdI r s ∧ 2 * ab u' ≤ m ∧ ab w' ≤ 1 + ab c ∧
      zint_cofactors.l5 N n x9 x10 x11 x12 x13 x14 (sg s) (pB s) (sg r) (pB r) (sg u) (pB u) (sg v) (pB v) (sg w) (pB w) (sg z) (pB z) K0 = K0 x9 x10 x11 x12 x13 x14 (sg u') (pB u') (sg w') (pB w') := by
  intro k
  induction k with
  | zero =>
    intro n r s u v w z h hk hn
    obtain ⟨n', rfl⟩ : ∃ n', n = n' + 1 := ⟨n - 1, by omega⟩
    have hs : s = 0 := by
      rcases Int.lt_or_le 0 s with h1 | h1
      · have := Int.mul_pos h.r0 h1; simp at hk; omega
      · have := h.s0; omega
    subst hs
    refine ⟨u, w, ?_, h.half, h.w1, ?_⟩
    · rw [gcd_zero (Int.le_of_lt h.r0)]; exact h.er.symm
    · rw [zint_cofactors.l5, z_sign zr_zero]; rfl
  | succ k ih =>
    intro n r s u v w z h hk hn
    obtain ⟨n', rfl⟩ : ∃ n', n = n' + 1 := ⟨n - 1, by omega⟩
    by_cases hs : s = 0
    · subst hs
      refine ⟨u, w, ?_, h.half, h.w1, ?_⟩
      · rw [gcd_zero (Int.le_of_lt h.r0)]; exact h.er.symm
      · rw [zint_cofactors.l5, z_sign zr_zero]; rfl
    · have g := h.step hs
      have hr : Zr r := zr_of (by rw [ab_of (Int.le_of_lt h.r0)]; have := h.rm; have := h.m0; omega)
      have hs' : Zr s := zr_of (by rw [ab_of h.s0]; have := h.rm; have := h.sr; have := h.m0; omega)
      have hm0 := h.m0
      have zu : Zr u := zr_of (by have := h.um; omega)
      have zv : Zr v := zr_of (by have := h.vm; omega)
      have ac := ab_nonneg c
      have zw : Zr w := zr_of (by have := h.w1; omega)
      have zz : Zr z := zr_of (by have := h.z1; omega)
      have zv' : Zr (u - r / s * v) := zr_of (by have := g.vm; omega)
      have zz' : Zr (w - r / s * z) := zr_of (by have := g.z1; omega)
      obtain ⟨b1, b2⟩ := h.qv hs
      have zqv : Zr (r / s * v) := zr_of (by omega)
      have zqz : Zr (r / s * z) := zr_of (by omega)
      obtain ⟨q1, q2, q3⟩ := z_quo hN hr hs' hs
      have hp : (2 : Int) ^ (k + 1) = 2 * 2 ^ k := by rw [Int.pow_succ]; omega
      obtain ⟨u', w', e1, e2, e3, e4⟩ := ih n' s (r % s) v (u - r / s * v) z (w - r / s * z) g (by have := h.fall hs; omega) (by omega)
      refine ⟨u', w', by rw [e1]; exact h.gcd hs, e2, e3, ?_⟩
      rw [zint_cofactors.l5, z_sign hs']
      simp only [Option.bind_some]
      have c0 : (sn s == 0) = false := by
        rcases sn_cases s with ⟨s1, s2⟩ | ⟨s1, s2⟩ | ⟨s1, s2⟩ <;> rw [s2]
        · exact absurd s1 hs
        · rfl
        · rfl
      rw [c0]
      simp only [cond_false]
      rw [q1]
      simp only [Option.bind_some]
      rw [less_model hN zu q2 zv zqv zv']
      simp only [Option.bind_some]
      rw [less_model hN zw q2 zz zqz zz']
      simp only [Option.bind_some]
      exact e4

/-- The factors by which the divisor is made: the first from 0 to m - 1. -/
theorem cof_model {N : Nat} (hN : 1000000001 < N) {c m : Int} (hc : 3 * ab c + 3 < K) (hm : 2 * m < K) (m0 : 0 < m) : ∃ x y, x * c + y * m = gcdI m (c % m) ∧ 0 ≤ x ∧ x < m ∧ ab y ≤ 1 + 2 * ab c ∧ zint_cofactors.f N (sg c) (pB c) (sg m) (pB m) = some (sg x, pB x, sg y, pB y) := by
  have ac := ab_nonneg c
  have zc : Zr c := zr_of (by omega)
  have am : ab m = m := ab_of (by omega)
  have zm : Zr m := zr_of (by omega)
  have one : Zr 1 := zr_i64 (by decide) (by decide)
  obtain ⟨q1, q2, q3⟩ := z_quo hN zc zm (by omega)
  have h := Inv.first (c := c) m0
  have big : m * (c % m) < 2 ^ 8192 := by
    have h1 := h.s0
    have h2 := h.sr
    have k1 := Int.mul_le_mul_of_nonneg_left (show c % m ≤ m by omega) (Int.le_of_lt m0)
    have k2 := Int.mul_le_mul_of_nonneg_left (show m ≤ K - 1 by omega) (Int.le_of_lt m0)
    have k3 := Int.mul_le_mul_of_nonneg_right (show m ≤ K - 1 by omega) (show 0 ≤ K - 1 by omega)
    have e : (2 : Int) ^ 8192 = K * K := by unfold K; rw [← Int.pow_add]
    have k4 : (K - 1) * (K - 1) < K * K := by
      have : (K - 1) * (K - 1) = K * K - 2 * K + 1 := by grind
      have := K_pos
      omega
    omega
  unfold zint_cofactors.f
  rw [q1, z_of hN (by decide) (by decide)]
  simp only [Option.bind_some]
  rw [z_neg q2]
  simp only [Option.bind_some]
  obtain ⟨u, w, e1, e2, e3, e4⟩ := cof_loop hN (c := c) (m := m) (by omega) hm (sg c) (pB c) (sg m) (pB m) false false (fun y41 y42 y43 y44 y45 y46 y47 y48 y49 y50 =>
      (zint_Int_Sign.f N y47 y48).bind fun r51 =>
      bif decide (r51 < 0) then
        (zint_Add.f N y47 y48 y43 y44).bind fun r52 =>
        (zint_must.f N r52.1 r52.2.1 r52.2.2).bind fun r53 =>
        (zint_Sub.f N y49 y50 y41 y42).bind fun r54 =>
        (zint_must.f N r54.1 r54.2.1 r54.2.2).bind fun r55 =>
        some (r53.1, r53.2, r55.1, r55.2)
      else
      some (y47, y48, y49, y50)) 8192 N m (c % m) 0 1 1 (-(c / m)) h big (by omega)
  rw [sg_zero, pB_zero] at e4
  rw [e4]
  have zu : Zr u := zr_of (by omega)
  have zw : Zr w := zr_of (by omega)
  rw [z_sign zu]
  simp only [Option.bind_some]
  rw [sn_neg]
  by_cases hu : u < 0
  · have au : ab u = -u := by unfold ab; rw [if_pos hu]
    have zum : Zr (u + m) := zr_of (by rw [ab_of (by omega)]; omega)
    have k1 := ab_sub_le w c
    have zwc : Zr (w - c) := zr_of (by omega)
    refine ⟨u + m, w - c, by rw [← e1]; grind, by omega, by omega, by omega, ?_⟩
    rw [decide_eq_true hu]
    simp only [cond_true]
    rw [z_add hN zu zm, zo_id zum]
    simp only [Option.bind_some, must_model]
    rw [z_sub hN zw zc, zo_id zwc]
    rfl
  · have au : ab u = u := ab_of (by omega)
    refine ⟨u, w, e1, by omega, by omega, by omega, ?_⟩
    rw [decide_eq_false hu]
    rfl


end Go.Proofs.Ytifnooogklfifaa.NatL
