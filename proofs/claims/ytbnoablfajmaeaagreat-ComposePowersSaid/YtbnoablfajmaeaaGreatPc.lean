-- Plain laws of the row law10: the product of two classes, the program's.
import Derived.Test.YtbnoablfajmaeaaGreatPb
namespace Go.Proofs.YtbnoablfajmaeaaGreat.Pure
open Go Go.Proofs.YtbnoablfajmaeaaGreat.Ev
open Go.Proofs.YtbnoablfajmaeaaGreat.NatL (ab ab_cases ab_nonneg ab_of ab_zero GT gcdI gcdI_nonneg gcdI_left gcdI_right tmod_nn tdiv_nn)
open Go.Proofs.YtbnoablfajmaeaaGreat.Mod (Fo Hm PM)
set_option linter.unusedVariables false
set_option linter.unusedSimpArgs false

/-- What a discriminant is by: its parity, and the rest. -/
def sd (d : Int) : Int := d % 2
def md (d : Int) : Int := (d - d % 2) / 4
/-- The lattice of a form of the discriminant d. -/
def La (d a b : Int) : Mod.E → Prop := Fo a ((b - sd d) / 2)
/-- Lattices of one class. -/
abbrev Cl (d : Int) (M L : Mod.E → Prop) : Prop := Hm (sd d) (md d) M L
abbrev Pr (d : Int) (M L : Mod.E → Prop) : Mod.E → Prop := PM (sd d) (md d) M L

/-- A form of the discriminant d, in parts. -/
structure Of (d a b c : Int) : Prop where
  eq : b * b - 4 * a * c = d

theorem Of.par {d a b c : Int} (h : Of d a b c) : b % 2 = d % 2 ∧ d % 4 = d % 2 := by
  have h1 := h.eq
  have e : 4 * a * c = 4 * (a * c) := by grind
  have hb : b = 2 * (b / 2) + b % 2 := by omega
  have h2 : b * b = 4 * (b / 2 * (b / 2) + b / 2 * (b % 2)) + b % 2 * (b % 2) := by
    have : b * b = (2 * (b / 2) + b % 2) * (2 * (b / 2) + b % 2) := by rw [← hb]
    rw [this]; grind
  have h3 : b % 2 = 0 ∨ b % 2 = 1 := by omega
  rcases h3 with h3 | h3 <;> rw [h3] at h2 <;> constructor <;> omega

/-- The numbers by which lattices are reckoned. -/
theorem Of.t {d a b c : Int} (h : Of d a b c) : b = 2 * ((b - sd d) / 2) + sd d ∧ ((b - sd d) / 2) * ((b - sd d) / 2) + sd d * ((b - sd d) / 2) - md d = a * c ∧ sd d * sd d + 4 * md d = d ∧ (sd d = 0 ∨ sd d = 1) := by
  obtain ⟨p1, p2⟩ := h.par
  have h1 := h.eq
  unfold sd md
  have hs : d % 2 = 0 ∨ d % 2 = 1 := by omega
  have hb : b = 2 * ((b - d % 2) / 2) + d % 2 := by omega
  have hm : d = 4 * ((d - d % 2) / 4) + d % 2 := by omega
  generalize (b - d % 2) / 2 = t at *
  generalize (d - d % 2) / 4 = m at *
  have hss : d % 2 * (d % 2) = d % 2 := by rcases hs with h | h <;> rw [h] <;> decide
  generalize d % 2 = s at *
  refine ⟨hb, ?_, by omega, hs⟩
  have e : b * b = 4 * (t * t) + 4 * (s * t) + s * s := by rw [hb]; grind
  have e2 : 4 * a * c = 4 * (a * c) := by grind
  omega

/-- A form moved along: the same lattice. -/
theorem La.shift (d a b k : Int) (z : Mod.E) : La d a b z ↔ La d a (b + 2 * a * k) z := by
  unfold La Fo
  have e0 : b + 2 * a * k - sd d = b - sd d + a * k * 2 := by grind
  have e : (b + 2 * a * k - sd d) / 2 = (b - sd d) / 2 + a * k := by rw [e0, Int.add_mul_ediv_right _ _ (by decide)]
  rw [e]
  have e2 : z.re - ((b - sd d) / 2 + a * k) * z.im = z.re - (b - sd d) / 2 * z.im - a * (k * z.im) := by grind
  rw [e2]
  constructor
  · intro h; exact Int.dvd_sub h (Int.dvd_mul_right a _)
  · intro h
    have := Int.dvd_add h (Int.dvd_mul_right a (k * z.im))
    have e3 : z.re - (b - sd d) / 2 * z.im - a * (k * z.im) + a * (k * z.im) = z.re - (b - sd d) / 2 * z.im := by omega
    rw [e3] at this; exact this

/-- Properly equivalent forms are of one class. -/
theorem Of.cl {d a b c p q r u : Int} (h : Of d a b c) (hd : d < 0) (ha : a ≠ 0) (hdet : p * u - q * r = 1) :
    Cl d (La d a b) (La d (a * p * p + b * p * r + c * r * r) (2 * a * p * q + b * p * u + b * q * r + 2 * c * r * u)) := by
  obtain ⟨t1, t2, t3, t4⟩ := h.t
  have k := Mod.turned (s := sd d) (m := md d) (by omega) ha t2 hdet
  rw [← t1] at k
  unfold Cl La
  have e : (2 * a * p * q + b * p * u + b * q * r + 2 * c * r * u - sd d) / 2 = a * p * q + b * q * r + c * r * u + (b - sd d) / 2 := by
    have e1 : 2 * a * p * q + b * p * u + b * q * r + 2 * c * r * u - sd d = 2 * (a * p * q + b * q * r + c * r * u + (b - sd d) / 2) := by
      have e2 : b * p * u = b * (1 + q * r) := by
        have : p * u = 1 + q * r := by omega
        rw [Int.mul_assoc, this]
      have e3 : 2 * (a * p * q + b * q * r + c * r * u + (b - sd d) / 2) = 2 * a * p * q + 2 * (b * q * r) + 2 * c * r * u + 2 * ((b - sd d) / 2) := by grind
      rw [e3, e2]
      have e4 : b * (1 + q * r) = b + b * q * r := by grind
      rw [e4]
      omega
    rw [e1, Int.mul_ediv_cancel_left _ (by decide)]
  rw [e]
  exact k

theorem Of.swap {d a b c : Int} (h : Of d a b c) (hd : d < 0) (ha : a ≠ 0) : Cl d (La d a b) (La d c (-b)) := by
  have := h.cl hd ha (p := 0) (q := -1) (r := 1) (u := 0) (by decide)
  have e1 : a * 0 * 0 + b * 0 * 1 + c * 1 * 1 = c := by grind
  have e2 : 2 * a * 0 * -1 + b * 0 * 0 + b * -1 * 1 + 2 * c * 1 * 0 = -b := by grind
  rw [e1, e2] at this
  exact this

/-- b, brought above -a, up to a. -/
def nb (a b : Int) : Int := if b % (2 * a) > a then b % (2 * a) - 2 * a else b % (2 * a)
theorem nb_told {a : Int} (b : Int) (a0 : 0 < a) : -a < nb a b ∧ nb a b ≤ a ∧ ∃ k, nb a b = b + 2 * a * k := by
  have e0 := Int.emod_nonneg b (show 2 * a ≠ 0 by omega)
  have e1 := Int.emod_lt_of_pos b (show 0 < 2 * a by omega)
  have e2 := Int.mul_ediv_add_emod b (2 * a)
  unfold nb
  split
  · refine ⟨by omega, by omega, -(b / (2 * a)) - 1, ?_⟩
    have : 2 * a * (-(b / (2 * a)) - 1) = -(2 * a * (b / (2 * a))) - 2 * a := by grind
    omega
  · refine ⟨by omega, by omega, -(b / (2 * a)), ?_⟩
    have : 2 * a * (-(b / (2 * a))) = -(2 * a * (b / (2 * a))) := by grind
    omega

def nc (d a b : Int) : Int := (nb a b * nb a b - d) / (4 * a)

/-- A form of the discriminant d, as the loop has it. -/
structure Lp (d a b : Int) : Prop where
  a0 : 0 < a
  a1 : a ≤ 2147483648
  b0 : -17179869184 ≤ b
  b1 : b ≤ 17179869184
  dv : 4 * a ∣ b * b - d

theorem Lp.dvd {d a b : Int} (h : Lp d a b) : 4 * a ∣ nb a b * nb a b - d := by
  obtain ⟨_, _, k, hk⟩ := nb_told b h.a0
  have : nb a b * nb a b - d = b * b - d + 4 * a * (b * k + a * k * k) := by rw [hk]; grind
  rw [this]
  exact Int.dvd_add h.dv (Int.dvd_mul_right _ _)
theorem Lp.of {d a b : Int} (h : Lp d a b) : Of d a (nb a b) (nc d a b) := by
  refine ⟨?_⟩
  unfold nc
  have := Int.mul_ediv_cancel' h.dvd
  omega
theorem Lp.sizes {d a b : Int} (h : Lp d a b) (hd : d < 0) (hd1 : -4294967296 ≤ d) : nb a b * nb a b ≤ a * a ∧ 0 < nc d a b ∧ nc d a b ≤ 2147483648 ∧ nb a b * nb a b ≤ 4611686018427387904 ∧ 0 ≤ nb a b * nb a b := by
  have a0 := h.a0
  have a1 := h.a1
  obtain ⟨n1, n2, _⟩ := nb_told b a0
  have sq : nb a b * nb a b ≤ a * a := by
    have := Int.mul_nonneg (show 0 ≤ a - nb a b by omega) (show 0 ≤ a + nb a b by omega)
    have e : (a - nb a b) * (a + nb a b) = a * a - nb a b * nb a b := by grind
    omega
  have sqn := sq_nonneg (nb a b)
  have m1 := Int.mul_le_mul_of_nonneg_left a1 (Int.le_of_lt a0)
  have of := h.of.eq
  have e4 : 4 * a * nc d a b = 4 * (a * nc d a b) := by grind
  have cp : 0 < nc d a b := by
    rcases Int.lt_or_le 0 (nc d a b) with q | q
    · exact q
    · have := Int.mul_nonneg (Int.le_of_lt a0) (show 0 ≤ -nc d a b by omega)
      rw [Int.mul_neg] at this; omega
  refine ⟨sq, cp, ?_, by omega, sqn⟩
  rcases Int.lt_or_le 2147483648 (nc d a b) with q | q
  · exfalso
    have := Int.mul_le_mul_of_nonneg_left (show 2147483649 ≤ nc d a b by omega) (Int.le_of_lt a0)
    omega
  · exact q

/-- How much is left to do. -/
def mv (a b : Int) : Int := 2 * a + (if nb a b < 0 then 1 else 0)

theorem step_eq {a b : Int} (d : Int) (h : Lp d a b) (hd : d < 0) (hd1 : -4294967296 ≤ d) :
    wi64 (2 * a) = 2 * a ∧ wi64 (4 * a) = 4 * a ∧ Int.tmod (wi64 (Int.tmod b (2 * a) + 2 * a)) (2 * a) = b % (2 * a) ∧
    (b % (2 * a) > a → wi64 (b % (2 * a) - 2 * a) = nb a b) ∧ wi64 (Int.tdiv (wi64 (wi64 (nb a b * nb a b) - d)) (4 * a)) = nc d a b := by
  obtain ⟨s1, s2, s3, s4, s5⟩ := h.sizes hd hd1
  obtain ⟨a0, a1, b0, b1, _⟩ := h
  have e0 := Int.emod_nonneg b (show 2 * a ≠ 0 by omega)
  have e1 := Int.emod_lt_of_pos b (show 0 < 2 * a by omega)
  refine ⟨wi64_id (by omega) (by omega), wi64_id (by omega) (by omega), ?_, ?_, ?_⟩
  · have hf := fl (x := b) (show 0 < 2 * a by omega)
    by_cases h : Int.tmod b (2 * a) < 0
    · obtain ⟨_, q⟩ := hf.1 h
      rw [← q, wi64_id (by omega) (by omega), Int.tmod_eq_of_lt e0 e1]
    · obtain ⟨_, q⟩ := hf.2 h
      rw [← q, wi64_id (by omega) (by omega), Int.tmod_eq_emod_of_nonneg (by omega), Int.add_emod_right, Int.emod_emod_of_dvd _ (Int.dvd_refl _)]
  · intro hg
    unfold nb
    rw [if_pos hg, wi64_id (by omega) (by omega)]
  · unfold nc at *
    rw [wi64_id (n := nb a b * nb a b) (by omega) (by omega), wi64_id (n := nb a b * nb a b - d) (by omega) (by omega), Int.tdiv_eq_ediv_of_nonneg (by omega), wi64_id (by omega) (by omega)]

/-- The loop ends with the reduced form of the class. -/
theorem small_loop {N : Nat} {R : Type} {d : Int} (hd : d < 0) (hd1 : -4294967296 ≤ d) (kr : Int → Int → Int → Option R) : ∀ (n : Nat) (a b x16 x17 x18 : Int), Lp d a b → mv a b < n →
    ∃ a' b' c', 0 < a' ∧ a' ≤ 2147483648 ∧ Of d a' b' c' ∧ inR a' b' ∧ ¬ small_ a' b' c' ∧ Cl d (La d a b) (La d a' b') ∧ compose_product.l12 N n d a b x16 x17 x18 kr = kr a' b' c' := by
  intro n
  induction n with
  | zero =>
    intro a b x16 x17 x18 h hn
    exfalso
    have := h.a0
    unfold mv at hn
    split at hn <;> omega
  | succ n ih =>
    intro a b x16 x17 x18 h hn
    obtain ⟨e1, e2, e3, e4, e5⟩ := step_eq d h hd hd1
    obtain ⟨s1, s2, s3, s4, s5⟩ := h.sizes hd hd1
    have hof := h.of
    have a0 := h.a0
    have a1 := h.a1
    obtain ⟨n1, n2, k, hk⟩ := nb_told b a0
    have cl1 : Cl d (La d a b) (La d a (nb a b)) := by rw [hk]; exact Mod.Hm.same (La.shift d a b k)
    have cz : (!(2 * a == 0)) = true := by
      have : (2 * a == 0) = false := beq_eq_false_iff_ne.mpr (by omega)
      rw [this]; rfl
    have cz4 : (!(4 * a == 0)) = true := by
      have : (4 * a == 0) = false := beq_eq_false_iff_ne.mpr (by omega)
      rw [this]; rfl
    have hneg : wi64 (0 - nb a b) = -nb a b := by rw [wi64_id (by omega) (by omega)]; omega
    obtain ⟨t1, t2, t3, t4⟩ := hof.t
    have hdm : sd d * sd d + 4 * md d < 0 := by omega
    -- what is done with the new b
    have rest : ∀ x16 x17 x18, ∃ a' b' c', 0 < a' ∧ a' ≤ 2147483648 ∧ Of d a' b' c' ∧ inR a' b' ∧ ¬ small_ a' b' c' ∧ Cl d (La d a b) (La d a' b') ∧
        (bif decide (a < nc d a b) then kr a (nb a b) (nc d a b)
         else bif a == nc d a b then bif decide (nb a b ≥ 0) then kr a (nb a b) (nc d a b) else compose_product.l12 N n d (nc d a b) (-nb a b) x16 x17 x18 kr
         else compose_product.l12 N n d (nc d a b) (-nb a b) x16 x17 x18 kr) = kr a' b' c' := by
      intro x16 x17 x18
      have hl : Lp d (nc d a b) (-nb a b) := by
        refine ⟨s2, s3, by omega, by omega, ?_⟩
        have := hof.eq
        exact ⟨a, by have e : -nb a b * -nb a b = nb a b * nb a b := by grind
                     have e2 : 4 * nc d a b * a = 4 * a * nc d a b := by grind
                     omega⟩
      have cl2 : Cl d (La d a b) (La d (nc d a b) (-nb a b)) := cl1.trans hdm (hof.swap hd (by omega))
      by_cases h1 : a < nc d a b
      · rw [decide_eq_true h1]
        exact ⟨a, nb a b, nc d a b, a0, a1, hof, ⟨n1, n2⟩, fun q => by unfold small_ at q; omega, cl1, rfl⟩
      · rw [decide_eq_false h1]
        simp only [cond_false]
        by_cases h2 : a = nc d a b
        · have c3 : (a == nc d a b) = true := beq_iff_eq.mpr h2
          rw [c3]
          simp only [cond_true]
          by_cases h3 : nb a b ≥ 0
          · rw [decide_eq_true h3]
            exact ⟨a, nb a b, nc d a b, a0, a1, hof, ⟨n1, n2⟩, fun q => by unfold small_ at q; omega, cl1, rfl⟩
          · rw [decide_eq_false h3]
            simp only [cond_false]
            have hmv : mv (nc d a b) (-nb a b) < n := by
              have q1 : nb (nc d a b) (-nb a b) = -nb a b := by
                unfold nb
                rw [← h2]
                have : (-nb a b) % (2 * a) = -nb a b := Int.emod_eq_of_lt (by omega) (by omega)
                unfold nb at this
                rw [this]
                unfold nb at h3 n1 n2
                rw [if_neg (by omega)]
              unfold mv at hn ⊢
              rw [if_pos (by omega)] at hn
              rw [q1, if_neg (by omega), ← h2]
              omega
            obtain ⟨a', b', c', g1, g2, g3, g4, g5, g6, g7⟩ := ih (nc d a b) (-nb a b) x16 x17 x18 hl hmv
            exact ⟨a', b', c', g1, g2, g3, g4, g5, cl2.trans hdm g6, g7⟩
        · have c3 : (a == nc d a b) = false := beq_eq_false_iff_ne.mpr h2
          rw [c3]
          simp only [cond_false]
          have hmv : mv (nc d a b) (-nb a b) < n := by
            unfold mv at hn ⊢
            split at hn <;> split <;> omega
          obtain ⟨a', b', c', g1, g2, g3, g4, g5, g6, g7⟩ := ih (nc d a b) (-nb a b) x16 x17 x18 hl hmv
          exact ⟨a', b', c', g1, g2, g3, g4, g5, cl2.trans hdm g6, g7⟩
    rw [compose_product.l12, e1, cz, e2, cz4, e3]
    simp only [cond_true]
    by_cases hg : b % (2 * a) > a
    · rw [decide_eq_true hg, e4 hg, e5, hneg]
      simp only [cond_true]
      exact rest x16 x17 x18
    · have hb : b % (2 * a) = nb a b := by unfold nb; rw [if_neg hg]
      rw [decide_eq_false hg, hb, e5, hneg]
      simp only [cond_false]
      exact rest x16 x17 x18

end Go.Proofs.YtbnoablfajmaeaaGreat.Pure
