-- Plain laws of the row law09: what divides a form's coefficients divides those of what it is reduced to.
import Derived.Test.YtlofhdoefjmabaaPi
namespace Go.Proofs.Ytlofhdoefjmabaa.Pure
open Go Go.Proofs.Ytlofhdoefjmabaa.Ev
set_option linter.unusedVariables false
set_option linter.unusedSimpArgs false

/-- No divisor in common but 1. -/
def Prim (a b c : Int) : Prop := ∀ g : Int, g ∣ a → g ∣ b → g ∣ c → g ∣ 1
theorem prim_next {s a b c : Int} (hc : c ≠ 0) : Prim a b c ↔ Prim c (nB s b c) (nC s a b c) := by
  have e := (nB_spec s b c hc).2.2
  generalize nB s b c = x at e
  have ec : nC s a b c = a - b * nK s b c + c * nK s b c * nK s b c := rfl
  rw [ec]
  generalize nK s b c = k at e
  constructor
  · intro h g h1 h2 h3
    have hb : g ∣ b := by
      have : b = 2 * k * c - x := by rw [e]; grind
      rw [this]; exact Int.dvd_sub (Int.dvd_mul_of_dvd_right h1) h2
    refine h g ?_ hb h1
    have : a = (a - b * k + c * k * k) + (k * b - k * k * c) := by grind
    rw [this]
    exact Int.dvd_add h3 (Int.dvd_sub (Int.dvd_mul_of_dvd_right hb) (Int.dvd_mul_of_dvd_right h1))
  · intro h g h1 h2 h3
    refine h g h3 ?_ ?_
    · have : x = 2 * k * c - b := by rw [e]; grind
      rw [this]; exact Int.dvd_sub (Int.dvd_mul_of_dvd_right h3) h2
    · have : a - b * k + c * k * k = a - k * b + k * k * c := by grind
      rw [this]
      exact Int.dvd_add (Int.dvd_sub h1 (Int.dvd_mul_of_dvd_right h2)) (Int.dvd_mul_of_dvd_right h3)
theorem prim_stp {d s : Int} (hd : Cross d s) {x : T3} (h : OKf d s x) (hp : Prim x.1 x.2.1 x.2.2) : Prim (stp s x).1 (stp s x).2.1 (stp s x).2.2 :=
  (prim_next (h.1.ane hd).2).mp hp
theorem prim_orb {d s : Int} (hd : Cross d s) {x : T3} (h : OKf d s x) (hp : Prim x.1 x.2.1 x.2.2) : ∀ n, Prim (orb s x n).1 (orb s x n).2.1 (orb s x n).2.2
  | 0 => hp
  | n + 1 => prim_stp hd (orb_ok hd h n) (prim_orb hd h hp n)

theorem reduce_prim_go {N : Nat} (hN : 8589934600 < N) {d s : Int} (hd : Cross d s) : ∀ (n : Nat) (a b c p q r t : Int), Good d a b c → mu s a b < n → ∃ a' b' c' p' q' r' t', Good d a' b' c' ∧ Red s a' b' ∧ (Prim a b c ↔ Prim a' b' c') ∧
    (∀ {R : Type} x1 x2 x3 x4 x5 x6 x7 (K : Int → Int → Int → Int → Int → Int → Int → Int → Int → Int → Int → Int → Int → Int → Option R), cycle_Reduce.l7 N n d s a b c x1 x2 x3 x4 x5 x6 x7 p q r t K = K a' b' c' x1 x2 x3 x4 x5 x6 x7 p' q' r' t') := by
  intro n
  induction n with
  | zero => intro a b c p q r t h hm; have := (mu_bound hd h).1; omega
  | succ n ih =>
    intro a b c p q r t h hm
    obtain ⟨k1, _⟩ := reduced_model hN hd h
    by_cases hr : Red s a b
    · refine ⟨a, b, c, p, q, r, t, h, hr, Iff.rfl, fun x1 x2 x3 x4 x5 x6 x7 K => ?_⟩
      rw [cycle_Reduce.l7, k1]; simp [hr]
    · have hlt := mu_next hd h hr
      obtain ⟨a', b', c', p', q', r', t', g1, g2, g3, g4⟩ := ih c (nB s b c) (nC s a b c) (wi64 (wi64 (p * 0) + wi64 (q * 1))) (wi64 (wi64 (p * -1) + wi64 (q * nK s b c))) (wi64 (wi64 (r * 0) + wi64 (t * 1))) (wi64 (wi64 (r * -1) + wi64 (t * nK s b c))) (h.next hd).1 (by omega)
      refine ⟨a', b', c', p', q', r', t', g1, g2, (prim_next (h.ane hd).2).trans g3, fun x1 x2 x3 x4 x5 x6 x7 K => ?_⟩
      rw [cycle_Reduce.l7, k1]
      simp only [Option.bind_some, hr, decide_false, Bool.not_false, cond_true, next_model N hd h]
      exact g4 _ _ _ _ _ _ _ K
/-- What a form is reduced to. -/
theorem reduce_prim {N : Nat} (hN : 8589934600 < N) {d s a b c : Int} (hd : Cross d s) (h : Good d a b c) : ∃ (x : T3) (p q r t : Int), cycle_Reduce.f N a b c = some (x.1, x.2.1, x.2.2, p, q, r, t, 0) ∧ OKf d s x ∧ (Prim a b c ↔ Prim x.1 x.2.1 x.2.2) := by
  obtain ⟨y, hr, r1, r2⟩ := root_model hN hd.d1 hd.d2
  have := hr.unique hd.root
  subst this
  obtain ⟨k1, k2⟩ := check_good hN hd h
  have := (mu_bound hd h).2
  obtain ⟨a', b', c', p, q, r, t, g1, g2, g3, g4⟩ := reduce_prim_go hN hd N a b c 1 0 0 1 h (by omega)
  refine ⟨(a', b', c'), p, q, r, t, ?_, ⟨g1, g2⟩, g3⟩
  unfold cycle_Reduce.f cycle_disc.f
  rw [k1, disc_id h]
  simp only [Option.bind_some, bne_self_eq_false, cond_false, r1]
  exact g4 _ _ _ _ _ _ _ _

end Go.Proofs.Ytlofhdoefjmabaa.Pure
