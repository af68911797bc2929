-- Plain laws of the row law10 (great): the document's product of two classes.
import Derived.Test.YtbnoablfajmaeaaGreatPl
namespace Go.Proofs.YtbnoablfajmaeaaGreat.Pure
open Go Go.Proofs.YtbnoablfajmaeaaGreat.Ev
open Go.Proofs.YtbnoablfajmaeaaGreat.NatL (ab ab_cases ab_nonneg ab_of ab_zero GT gcdI gcdI_nonneg gcdI_left gcdI_right gcd_ab0 ab_dvd tA tB wu64_id wu64_mod tmod_nn tdiv_nn fdiv_pow sg pH Zl zl_of zr_i64)
open Go.Proofs.YtbnoablfajmaeaaGreat.Mod (Fo Hm PM E)
set_option linter.unusedVariables false
set_option linter.unusedSimpArgs false

/-- A form of the discriminant d, of whatever size. -/
structure Lb (d a b : Int) : Prop where
  a0 : 0 < a
  dv : 4 * a ∣ b * b - d

theorem Lb.dvd {d a b : Int} (h : Lb d a b) : 4 * a ∣ nb a b * nb a b - d := by
  obtain ⟨_, _, k, hk⟩ := nb_told b h.a0
  have : nb a b * nb a b - d = b * b - d + 4 * a * (b * k + a * k * k) := by rw [hk]; grind
  rw [this]
  exact Int.dvd_add h.dv (Int.dvd_mul_right _ _)
theorem Lb.of {d a b : Int} (h : Lb d a b) : Of d a (nb a b) (nc d a b) := by
  refine ⟨?_⟩
  unfold nc
  have := Int.mul_ediv_cancel' h.dvd
  omega
theorem Lb.sizes {d a b : Int} (h : Lb d a b) (hd : d < 0) : nb a b * nb a b ≤ a * a ∧ 0 < nc d a b ∧ 0 ≤ nb a b * nb a b := by
  have a0 := h.a0
  obtain ⟨n1, n2, _⟩ := nb_told b a0
  have sq : nb a b * nb a b ≤ a * a := by
    have := Int.mul_nonneg (show 0 ≤ a - nb a b by omega) (show 0 ≤ a + nb a b by omega)
    have e : (a - nb a b) * (a + nb a b) = a * a - nb a b * nb a b := by grind
    omega
  have sqn := sq_nonneg (nb a b)
  have of := h.of.eq
  have e4 : 4 * a * nc d a b = 4 * (a * nc d a b) := by grind
  refine ⟨sq, ?_, sqn⟩
  rcases Int.lt_or_le 0 (nc d a b) with q | q
  · exact q
  · have := Int.mul_nonneg (Int.le_of_lt a0) (show 0 ≤ -nc d a b by omega)
    rw [Int.mul_neg] at this; omega
/-- Great numbers are halved at each turn. -/
theorem Lb.half {d a b : Int} (h : Lb d a b) (hd : d < 0) (hd1 : -4294967296 ≤ d) (ha : 65536 ≤ a) : 2 * nc d a b ≤ a := by
  obtain ⟨s1, s2, s3⟩ := h.sizes hd
  have of := h.of.eq
  have e4 : 4 * a * nc d a b = 4 * (a * nc d a b) := by grind
  rcases Int.lt_or_le a (2 * nc d a b) with q | q
  · exfalso
    have := Int.mul_le_mul_of_nonneg_left (show a + 1 ≤ 2 * nc d a b by omega) (Int.le_of_lt h.a0)
    have e5 : a * (2 * nc d a b) = 2 * (a * nc d a b) := by grind
    have e6 : a * (a + 1) = a * a + a := by grind
    have e7 := Int.mul_le_mul_of_nonneg_left ha (show (0 : Int) ≤ 65536 by decide)
    have e8 := Int.mul_le_mul_of_nonneg_right ha (Int.le_of_lt h.a0)
    omega
  · exact q

theorem cmp_pos (u v : Int) : decide (NatL.cmp u v > 0) = decide (v < u) := by
  unfold NatL.cmp
  by_cases h : u = v
  · rw [if_pos h, decide_eq_false (show ¬ v < u by omega)]; rfl
  · by_cases h1 : u < v
    · rw [if_neg h, if_pos h1, decide_eq_false (show ¬ v < u by omega)]; rfl
    · rw [if_neg h, if_neg h1, decide_eq_true (show v < u by omega)]; rfl
theorem cmp_zero (u v : Int) : (NatL.cmp u v == 0) = decide (u = v) := by
  unfold NatL.cmp
  by_cases h : u = v
  · rw [if_pos h, decide_eq_true h]; rfl
  · by_cases h1 : u < v
    · rw [if_neg h, if_pos h1, decide_eq_false h]; rfl
    · rw [if_neg h, if_neg h1, decide_eq_false h]; rfl
theorem sn_nneg (x : Int) : decide (NatL.sn x ≥ 0) = decide (x ≥ 0) := by
  rcases NatL.sn_cases x with ⟨s1, s2⟩ | ⟨s1, s2⟩ | ⟨s1, s2⟩ <;> rw [s2]
  · rw [decide_eq_true (show x ≥ 0 by omega)]; rfl
  · rw [decide_eq_false (show ¬ x ≥ 0 by omega)]; rfl
  · rw [decide_eq_true (show x ≥ 0 by omega)]; rfl

/-- One turn of the document's reducing. -/
theorem big_step {N : Nat} (hN : 1000000001 < N) {R : Type} {d a b : Int} (hd : d < 0) (hd1 : -4294967296 ≤ d) (h : Lb d a b) (za : Zl 20 a) (zb : Zl 20 b) (x12 x13 x14 : Int) (kr : Int → Int → Int → Option R) (n : Nat) :
    Zl 20 (nb a b) ∧ Zl 50 (nc d a b) ∧ (nc d a b ≤ a → Zl 20 (nc d a b)) ∧
    ((a < nc d a b ∨ (a = nc d a b ∧ 0 ≤ nb a b)) → parquetref10_reduced.l2 N (n + 1) d (sg a) (pH a) (sg b) (pH b) x12 x13 x14 (sg 4) (pH 4) kr = kr a (nb a b) (nc d a b)) ∧
    (¬ (a < nc d a b ∨ (a = nc d a b ∧ 0 ≤ nb a b)) → parquetref10_reduced.l2 N (n + 1) d (sg a) (pH a) (sg b) (pH b) x12 x13 x14 (sg 4) (pH 4) kr = parquetref10_reduced.l2 N n d (sg (nc d a b)) (pH (nc d a b)) (sg (-nb a b)) (pH (-nb a b)) x12 x13 x14 (sg 4) (pH 4) kr) := by
  have a0 := h.a0
  obtain ⟨s1, s2, s3⟩ := h.sizes hd
  obtain ⟨n1, n2, k, hk⟩ := nb_told b a0
  have hof := h.of
  have z2 : Zl 1 2 := Zl.of (by decide)
  have z4 : Zl 1 4 := Zl.of (by decide)
  have z2a : Zl 21 (a * 2) := za.mul z2
  have e2 : a * 2 = 2 * a := Int.mul_comm _ _
  rw [e2] at z2a
  have znb : Zl 20 (nb a b) := za.le (by rw [ab_of (show 0 ≤ a by omega)]; rcases ab_cases (nb a b) with ⟨c1, c2⟩ | ⟨c1, c2⟩ <;> omega)
  have znn : Zl 40 (nb a b * nb a b) := znb.mul znb
  have zd : Zl 256 d := zl_of (zr_i64 (by omega) (by omega))
  have zd4 : Zl 40 d := Zl.of (by
    have e : ab d ≤ 4294967296 := by rcases ab_cases d with ⟨c1, c2⟩ | ⟨c1, c2⟩ <;> omega
    have e3 : (4294967296 : Int) < 65536 ^ 40 := by decide
    omega)
  have zs : Zl 41 (nb a b * nb a b - d) := znn.sub zd4
  have z4a : Zl 21 (4 * a) := by have := z4.mul za; exact this
  obtain ⟨q1, q2, q3⟩ := NatL.r_quo hN (zb.mono (show 20 ≤ 21 by omega)) z2a (by omega) (by omega) (show 2 * a ≠ 0 by omega)
  obtain ⟨q4, q5, q6⟩ := NatL.r_quo hN zs (z4a.mono (show 21 ≤ 41 by omega)) (by omega) (by omega) (show 4 * a ≠ 0 by omega)
  have enc_ : (nb a b * nb a b - d) / (4 * a) = nc d a b := rfl
  rw [enc_] at q4 q5
  have zc : Zl 50 (nc d a b) := q5.mono (by omega)
  have zc20 : nc d a b ≤ a → Zl 20 (nc d a b) := fun hle => za.le (by rw [ab_of (Int.le_of_lt s2), ab_of (Int.le_of_lt a0)]; exact hle)
  -- the end, from the new b on
  have tail : ∀ (l : Bool × List Int), l = (sg (nb a b), pH (nb a b)) →
      ((parquetref02_Mul.f N l.1 l.2 l.1 l.2).bind fun r22 =>
      (parquetref02_Of.f N d).bind fun r23 =>
      (parquetref02_Sub.f N r22.1 r22.2 r23.1 r23.2).bind fun r24 =>
      (parquetref02_Mul.f N (sg 4) (pH 4) (sg a) (pH a)).bind fun r25 =>
      (parquetref02_Quo.f N r24.1 r24.2 r25.1 r25.2).bind fun r26 =>
      (parquetref02_Cmp.f N (sg a) (pH a) r26.1 r26.2.1).bind fun r27 =>
      bif decide (r27 < 0) then
        (parquetref02_Int64.f N (sg a) (pH a)).bind fun r28 =>
        (parquetref02_Int64.f N l.1 l.2).bind fun r29 =>
        (parquetref02_Int64.f N r26.1 r26.2.1).bind fun r30 =>
        kr r28.1 r29.1 r30.1
      else
      bif r27 == 0 then
        (parquetref02_Sign.f N l.1 l.2).bind fun r34 =>
        bif decide (r34 ≥ 0) then
          (parquetref02_Int64.f N (sg a) (pH a)).bind fun r35 =>
          (parquetref02_Int64.f N l.1 l.2).bind fun r36 =>
          (parquetref02_Int64.f N r26.1 r26.2.1).bind fun r37 =>
          kr r35.1 r36.1 r37.1
        else
        (parquetref02_Neg.f N l.1 l.2).bind fun r38 =>
        parquetref10_reduced.l2 N n d r26.1 r26.2.1 r38.1 r38.2 x12 x13 x14 (sg 4) (pH 4) kr
      else
      (parquetref02_Neg.f N l.1 l.2).bind fun r39 =>
      parquetref10_reduced.l2 N n d r26.1 r26.2.1 r39.1 r39.2 x12 x13 x14 (sg 4) (pH 4) kr) =
      if (a < nc d a b ∨ (a = nc d a b ∧ 0 ≤ nb a b)) then kr a (nb a b) (nc d a b) else parquetref10_reduced.l2 N n d (sg (nc d a b)) (pH (nc d a b)) (sg (-nb a b)) (pH (-nb a b)) x12 x13 x14 (sg 4) (pH 4) kr := by
    intro l hl
    subst hl
    simp only
    rw [NatL.r_mul hN znb znb (by omega) (by omega)]
    simp only [Option.bind_some]
    rw [NatL.r_of hN (by omega) (by omega)]
    simp only [Option.bind_some]
    rw [NatL.r_sub hN znn zd4 (by omega)]
    simp only [Option.bind_some]
    rw [NatL.r_mul hN z4 za (by omega) (by omega)]
    simp only [Option.bind_some]
    rw [q4]
    simp only [Option.bind_some]
    rw [NatL.r_cmp hN (za.mono (show 20 ≤ 50 by omega)) zc (by omega)]
    simp only [Option.bind_some]
    rw [NatL.cmp_neg, cmp_zero]
    -- where it ends, all are words
    have fin : (a < nc d a b ∨ (a = nc d a b ∧ 0 ≤ nb a b)) → ((parquetref02_Int64.f N (sg a) (pH a)).bind fun r28 =>
        (parquetref02_Int64.f N (sg (nb a b)) (pH (nb a b))).bind fun r29 =>
        (parquetref02_Int64.f N (sg (nc d a b)) (pH (nc d a b))).bind fun r30 =>
        kr r28.1 r29.1 r30.1) = kr a (nb a b) (nc d a b) := fun he => by
      have hs : ¬ small_ a (nb a b) (nc d a b) := fun q => by unfold small_ at q; omega
      obtain ⟨f1, f2, f3, f4⟩ := (small_of hof a0 ⟨n1, n2⟩ hs hd1).resolve_right (fun q => q hd)
      rw [NatL.r_int64 hN za (by omega), if_pos (by omega), NatL.r_int64 hN znb (by omega), if_pos (by omega), NatL.r_int64 hN zc (by omega), if_pos (by omega)]
      rfl
    by_cases h1 : a < nc d a b
    · rw [decide_eq_true h1, if_pos (Or.inl h1)]
      exact fin (Or.inl h1)
    · rw [decide_eq_false h1]
      simp only [cond_false]
      by_cases h2 : a = nc d a b
      · rw [decide_eq_true h2]
        simp only [cond_true]
        rw [NatL.r_sign hN znb (by omega)]
        simp only [Option.bind_some]
        rw [sn_nneg]
        by_cases h3 : nb a b ≥ 0
        · rw [decide_eq_true h3, if_pos (Or.inr ⟨h2, h3⟩)]
          exact fin (Or.inr ⟨h2, h3⟩)
        · rw [decide_eq_false h3, if_neg (by omega)]
          simp only [cond_false]
          rw [NatL.r_neg hN znb (by omega)]
          rfl
      · rw [decide_eq_false h2, if_neg (by omega)]
        simp only [cond_false]
        rw [NatL.r_neg hN znb (by omega)]
        rfl
  have whole : parquetref10_reduced.l2 N (n + 1) d (sg a) (pH a) (sg b) (pH b) x12 x13 x14 (sg 4) (pH 4) kr = if (a < nc d a b ∨ (a = nc d a b ∧ 0 ≤ nb a b)) then kr a (nb a b) (nc d a b) else parquetref10_reduced.l2 N n d (sg (nc d a b)) (pH (nc d a b)) (sg (-nb a b)) (pH (-nb a b)) x12 x13 x14 (sg 4) (pH 4) kr := by
    rw [parquetref10_reduced.l2, NatL.r_of hN (by decide) (by decide)]
    simp only [Option.bind_some]
    rw [NatL.r_mul hN za z2 (by omega) (by omega), e2]
    simp only [Option.bind_some]
    rw [q1]
    simp only [Option.bind_some]
    rw [NatL.r_cmp hN (q3) (za.mono (show 20 ≤ 21 by omega)) (by omega)]
    simp only [Option.bind_some]
    rw [cmp_pos]
    by_cases hg : a < b % (2 * a)
    · have en : b % (2 * a) - 2 * a = nb a b := by unfold nb; rw [if_pos hg]
      rw [decide_eq_true hg]
      simp only [cond_true]
      rw [NatL.r_sub hN q3 z2a (by omega), en]
      simp only [Option.bind_some]
      exact tail (sg (nb a b), pH (nb a b)) rfl
    · have en : b % (2 * a) = nb a b := by unfold nb; rw [if_neg (by omega)]
      rw [decide_eq_false hg, en]
      simp only [cond_false]
      exact tail (sg (nb a b), pH (nb a b)) rfl
  refine ⟨znb, zc, zc20, fun h => by rw [whole, if_pos h], fun h => by rw [whole, if_neg h]⟩

/-- The document's reducing ends with the reduced form of the class. -/
theorem big_loop {N : Nat} (hN : 1000000001 < N) {R : Type} {d : Int} (hd : d < 0) (hd1 : -4294967296 ≤ d) (x12 x13 x14 : Int) (kr : Int → Int → Int → Option R) : ∀ (n : Nat) (a b : Int), Lb d a b → Zl 20 a → Zl 20 b → mv a b < n →
    ∃ a' b' c', 0 < a' ∧ Of d a' b' c' ∧ inR a' b' ∧ ¬ small_ a' b' c' ∧ Cl d (La d a b) (La d a' b') ∧ parquetref10_reduced.l2 N n d (sg a) (pH a) (sg b) (pH b) x12 x13 x14 (sg 4) (pH 4) kr = kr a' b' c' := by
  intro n
  induction n with
  | zero =>
    intro a b h _ _ hn
    exfalso
    have := h.a0
    unfold mv at hn
    split at hn <;> omega
  | succ n ih =>
    intro a b h za zb hn
    have a0 := h.a0
    obtain ⟨s1, s2, s3⟩ := h.sizes hd
    obtain ⟨n1, n2, k, hk⟩ := nb_told b a0
    have hof := h.of
    obtain ⟨t1, t2, t3, t4⟩ := hof.t
    have hdm : sd d * sd d + 4 * md d < 0 := by omega
    have cl1 : Cl d (La d a b) (La d a (nb a b)) := by rw [hk]; exact Mod.Hm.same (La.shift d a b k)
    obtain ⟨g1, g2, g3, g4, g5⟩ := big_step hN hd hd1 h za zb x12 x13 x14 kr n
    by_cases he : a < nc d a b ∨ (a = nc d a b ∧ 0 ≤ nb a b)
    · exact ⟨a, nb a b, nc d a b, a0, hof, ⟨n1, n2⟩, fun q => by unfold small_ at q; omega, cl1, g4 he⟩
    · have hle : nc d a b ≤ a := by omega
      have hl : Lb d (nc d a b) (-nb a b) := by
        refine ⟨s2, ?_⟩
        have := hof.eq
        exact ⟨a, by have e : -nb a b * -nb a b = nb a b * nb a b := by grind
                     have e2 : 4 * nc d a b * a = 4 * a * nc d a b := by grind
                     omega⟩
      have hmv : mv (nc d a b) (-nb a b) < n := by
        by_cases h2 : a = nc d a b
        · have h3 : nb a b < 0 := by omega
          have q1 : nb (nc d a b) (-nb a b) = -nb a b := by
            unfold nb
            rw [← h2]
            have : (-nb a b) % (2 * a) = -nb a b := Int.emod_eq_of_lt (by omega) (by omega)
            unfold nb at this
            rw [this]
            unfold nb at h3 n1 n2
            rw [if_neg (by omega)]
          unfold mv at hn ⊢
          rw [if_pos h3] at hn
          rw [q1, if_neg (by omega), ← h2]
          omega
        · unfold mv at hn ⊢
          split at hn <;> split <;> omega
      obtain ⟨a', b', c', k1, k2, k3, k4, k5, k6⟩ := ih (nc d a b) (-nb a b) hl (g3 hle) g1.neg hmv
      exact ⟨a', b', c', k1, k2, k3, k4, cl1.trans hdm ((hof.swap hd (by omega)).trans hdm k5), by rw [g5 he]; exact k6⟩

/-- The same, from numbers of whatever size on. -/
theorem big_whole {N : Nat} (hN : 1000000001 < N) {R : Type} {d : Int} (hd : d < 0) (hd1 : -4294967296 ≤ d) (x12 x13 x14 : Int) (kr : Int → Int → Int → Option R) : ∀ (k n : Nat) (a b : Int), Lb d a b → Zl 20 a → Zl 20 b → a ≤ 2147483648 * 2 ^ k → 4294967400 + k ≤ n →
    ∃ a' b' c', 0 < a' ∧ Of d a' b' c' ∧ inR a' b' ∧ ¬ small_ a' b' c' ∧ Cl d (La d a b) (La d a' b') ∧ parquetref10_reduced.l2 N n d (sg a) (pH a) (sg b) (pH b) x12 x13 x14 (sg 4) (pH 4) kr = kr a' b' c' := by
  intro k
  induction k with
  | zero =>
    intro n a b h za zb ha hn
    have : a ≤ 2147483648 := by simpa using ha
    exact big_loop hN hd hd1 x12 x13 x14 kr n a b h za zb (by unfold mv; split <;> omega)
  | succ k ih =>
    intro n a b h za zb ha hn
    by_cases hs : a ≤ 2147483648
    · exact big_loop hN hd hd1 x12 x13 x14 kr n a b h za zb (by unfold mv; split <;> omega)
    · obtain ⟨n', rfl⟩ : ∃ n', n = n' + 1 := ⟨n - 1, by omega⟩
      have a0 := h.a0
      obtain ⟨s1, s2, s3⟩ := h.sizes hd
      obtain ⟨n1, n2, kk, hk⟩ := nb_told b a0
      have hof := h.of
      obtain ⟨t1, t2, t3, t4⟩ := hof.t
      have hdm : sd d * sd d + 4 * md d < 0 := by omega
      have cl1 : Cl d (La d a b) (La d a (nb a b)) := by rw [hk]; exact Mod.Hm.same (La.shift d a b kk)
      obtain ⟨g1, g2, g3, g4, g5⟩ := big_step hN hd hd1 h za zb x12 x13 x14 kr n'
      have hh := h.half hd hd1 (by omega)
      have he : ¬ (a < nc d a b ∨ (a = nc d a b ∧ 0 ≤ nb a b)) := by omega
      have hl : Lb d (nc d a b) (-nb a b) := by
        refine ⟨s2, ?_⟩
        have := hof.eq
        exact ⟨a, by have e : -nb a b * -nb a b = nb a b * nb a b := by grind
                     have e2 : 4 * nc d a b * a = 4 * a * nc d a b := by grind
                     omega⟩
      have hp : (2 : Int) ^ (k + 1) = 2 * 2 ^ k := by rw [Int.pow_succ]; omega
      obtain ⟨a', b', c', k1, k2, k3, k4, k5, k6⟩ := ih n' (nc d a b) (-nb a b) hl (g3 (by omega)) g1.neg (by omega) (by omega)
      exact ⟨a', b', c', k1, k2, k3, k4, cl1.trans hdm ((hof.swap hd (by omega)).trans hdm k5), by rw [g5 he]; exact k6⟩

/-- Two forms whose leading numbers share nothing: what their lattices make. -/
theorem united_cop {s m v1 v2 c1 c2 t1 t2 t : Int} (hc : Cop v1 v2) (h1 : t1 * t1 + s * t1 - m = v1 * c1) (h2 : t2 * t2 + s * t2 - m = v2 * c2) (d1 : v1 ∣ t - t1) (d2 : v2 ∣ t - t2) {p q r : Int} (hp : p * v1 + q * (2 * t1 + s) + r * c1 = 1) :
    v1 * v2 ∣ t * t + s * t - m ∧ ∀ u, PM s m (Fo v1 t1) (Fo v2 t2) u ↔ Fo (v1 * v2) t u := by
  have D1 : v1 ∣ t * t + s * t - m := by
    have e : t * t + s * t - m = v1 * c1 + (t - t1) * (t + t1 + s) := by rw [← h1]; grind
    rw [e]; exact Int.dvd_add (Int.dvd_mul_right _ _) (Int.dvd_trans d1 (Int.dvd_mul_right _ _))
  have D2 : v2 ∣ t * t + s * t - m := by
    have e : t * t + s * t - m = v2 * c2 + (t - t2) * (t + t2 + s) := by rw [← h2]; grind
    rw [e]; exact Int.dvd_add (Int.dvd_mul_right _ _) (Int.dvd_trans d2 (Int.dvd_mul_right _ _))
  have D : v1 * v2 ∣ t * t + s * t - m := by
    obtain ⟨k, hk⟩ := D2
    have : v1 ∣ v2 * k := by rw [← hk]; exact D1
    obtain ⟨k', hk'⟩ := hc.cancel this
    exact ⟨k', by rw [hk, hk']; grind⟩
  refine ⟨D, fun u => ?_⟩
  obtain ⟨x, y, hxy⟩ := hc
  have k := Mod.comp (s := s) (m := m) (e := 1) (v1 := v1) (v2 := v2) (t1 := t1) (t2 := t2) (t := t) (s' := t1 + t2 + s) (n4 := m + t1 * t2) (c1 := c1) (x := x) (y := y) (z := 0) (p := p) (q := q) (r := r) (by decide) (by omega) (by omega) (by rw [h1]; grind) d1 d2 (by
    obtain ⟨k, hk⟩ := D
    obtain ⟨k1, hk1⟩ := d1
    obtain ⟨k2, hk2⟩ := d2
    refine ⟨k1 * k2 - k, ?_⟩
    have e : m + t1 * t2 - (t1 + t2 + s) * t = (t - t1) * (t - t2) - (t * t + s * t - m) := by grind
    rw [e, hk, hk1, hk2]; grind) (by rw [← hxy]; grind) (by rw [← hp]; grind) u
  have e1 : (1 : Int) * v1 = v1 := Int.one_mul _
  have e2 : (1 : Int) * v2 = v2 := Int.one_mul _
  rw [e1, e2] at k
  rw [k]
  have one : ∀ w : E, Mod.ml s m ⟨1, 0⟩ w = w := fun w => Mod.E.ext' (by simp only [Mod.ml]; grind) (by simp only [Mod.ml]; grind)
  constructor
  · rintro ⟨w, hw, rfl⟩
    rw [one]; exact hw
  · intro hu
    exact ⟨u, hu, (one u).symm⟩

end Go.Proofs.YtbnoablfajmaeaaGreat.Pure
