-- Plain laws of the row law08: both ways of reducing end alike.
import Derived.Test.YtifnooogklfifaaFb
import Derived.KernelRfl
namespace Go.Proofs.Ytifnooogklfifaa.Pure
open Go Go.Proofs.Ytifnooogklfifaa.Ev
set_option linter.unusedVariables false
set_option linter.unusedSimpArgs false

def mu (a b c : Int) : Int := 4 * a + (if inR a b then (if a = c ∧ b < 0 then 1 else 0) else 3)

theorem mu_shift {a b c : Int} (h : Good a b c) (hr : ¬ inR a b) : mu a (sB a b) (sC a b c) < mu a b c := by
  have hs : inR a (sB a b) := h.shift.2
  unfold mu
  rw [if_pos hs, if_neg hr]
  split <;> omega

theorem mu_swap {a b c : Int} (h : Good a b c) (hr : inR a b) (hs : small_ a b c) : mu c (-b) a < mu a b c := by
  unfold mu
  rw [if_pos hr]
  obtain ⟨a0, a1, b0, b1, c0, c1, _⟩ := h
  rcases hs with hs | ⟨hs, hb⟩
  · have : (if inR c (-b) then (if c = a ∧ -b < 0 then 1 else 0) else 3 : Int) ≤ 3 := by split <;> (try split) <;> omega
    have h2 : (0 : Int) ≤ (if a = c ∧ b < 0 then 1 else 0) := by split <;> omega
    omega
  · subst hs
    have h2 : inR a (-b) := by unfold inR at *; omega
    rw [if_pos h2, if_neg (show ¬ (a = a ∧ -b < 0) by omega), if_pos ⟨rfl, hb⟩]
    omega

theorem mu_pos {a b c : Int} (h : Good a b c) : 0 < mu a b c ∧ mu a b c ≤ 8589934600 := by
  unfold mu
  have := h.a0; have := h.a1
  split <;> (try split) <;> omega

theorem reduce_loops (N M : Nat) : ∀ (n : Nat) (a b c p q r s : Int), Good a b c → mu a b c < n → ∃ a' b' c' p' q' r' s', Good a' b' c' ∧ inR a' b' ∧ ¬ small_ a' b' c' ∧ b' * b' - 4 * a' * c' = b * b - 4 * a * c ∧
    (∀ {R : Type} x1 x2 x3 x4 x5 x6 x7 (K : Int → Int → Int → Int → Int → Int → Int → Int → Int → Int → Int → Int → Int → Int → Option R), binary_Reduce.l6 N n x1 x2 x3 x4 x5 x6 x7 a b c p q r s K = K x1 x2 x3 x4 x5 x6 x7 a' b' c' p' q' r' s') ∧
    (∀ {R : Type} x1 x2 x3 x4 x5 x6 x7 (K : Int → Int → Int → Int → Int → Int → Int → Int → Int → Int → Int → Int → Int → Int → Option R), parquetref08_Reduce.l5 M n a b c x1 x2 x3 x4 x5 x6 x7 p q r s K = K a' b' c' x1 x2 x3 x4 x5 x6 x7 p' q' r' s') := by
  intro n
  induction n with
  | zero => intro a b c p q r s h hm; have := (mu_pos h).1; omega
  | succ n ih =>
    intro a b c p q r s h hm
    have e0 : wi64 (0 - a) = -a := by obtain ⟨a0, a1, _⟩ := h; rw [wi64_id (by omega) (by omega)]; omega
    have e1 : wi64 (0 - b) = -b := by obtain ⟨_, _, b0, b1, _⟩ := h; rw [wi64_id (by omega) (by omega)]; omega
    by_cases hr : inR a b
    · by_cases hs : small_ a b c
      · have hlt := mu_swap h hr hs
        obtain ⟨a', b', c', p', q', r', s', g1, g2, g3, g4, g5, g6⟩ := ih c (-b) a q (wi64 (0 - p)) s (wi64 (0 - r)) h.swap (by omega)
        refine ⟨a', b', c', p', q', r', s', g1, g2, g3, ?_, fun x1 x2 x3 x4 x5 x6 x7 K => ?_, fun x1 x2 x3 x4 x5 x6 x7 K => ?_⟩
        · rw [g4]; grind
        · rw [binary_Reduce.l6, step_model N h, if_pos hr, if_pos hs]
          exact g5 _ _ _ _ _ _ _ K
        · rw [parquetref08_Reduce.l5, is_model M h]
          have hc1 : decide (inR a b ∧ ¬ small_ a b c) = false := by simp [hs]
          have hc2 : decide (-a ≥ b) = false := by unfold inR at hr; simp; omega
          have hc3 : decide (b > a) = false := by unfold inR at hr; simp; omega
          simp only [Option.bind_some, hc1, e0, e1, hc2, hc3, Bool.not_false, cond_true, cond_false]
          exact g6 _ _ _ _ _ _ _ K
      · refine ⟨a, b, c, p, q, r, s, h, hr, hs, rfl, fun x1 x2 x3 x4 x5 x6 x7 K => ?_, fun x1 x2 x3 x4 x5 x6 x7 K => ?_⟩
        · rw [binary_Reduce.l6, step_model N h, if_pos hr, if_neg hs]
          rfl
        · rw [parquetref08_Reduce.l5, is_model M h]
          have hc1 : decide (inR a b ∧ ¬ small_ a b c) = true := by simp [hs, hr]
          simp only [Option.bind_some, hc1, Bool.not_true, cond_false]
    · have hlt := mu_shift h hr
      have hd : sB a b * sB a b - 4 * a * sC a b c = b * b - 4 * a * c := by unfold sB sC; grind
      obtain ⟨s1, s2⟩ := s_model h
      obtain ⟨a', b', c', p', q', r', s', g1, g2, g3, g4, g5, g6⟩ := ih a (sB a b) (sC a b c) p (wi64 (wi64 (kk a b * p) + q)) r (wi64 (wi64 (kk a b * r) + s)) h.shift.1 (by omega)
      refine ⟨a', b', c', p', q', r', s', g1, g2, g3, by rw [g4, hd], fun x1 x2 x3 x4 x5 x6 x7 K => ?_, fun x1 x2 x3 x4 x5 x6 x7 K => ?_⟩
      · rw [binary_Reduce.l6, step_model N h, if_neg hr]
        exact g5 _ _ _ _ _ _ _ K
      · rw [parquetref08_Reduce.l5, is_model M h]
        have hc1 : decide (inR a b ∧ ¬ small_ a b c) = false := by simp [hr]
        simp only [Option.bind_some, hc1, e0, Bool.not_false, cond_true, floor_model M h, s1, s2]
        by_cases h1 : -a ≥ b
        · simp only [h1, decide_true, cond_true]
          exact g6 _ _ _ _ _ _ _ K
        · have h2 : b > a := by unfold inR at hr; omega
          simp only [h1, h2, decide_true, cond_true, decide_false, cond_false]
          exact g6 _ _ _ _ _ _ _ K

/- What a form must be. -/
def inB (a b c : Int) : Prop := (-1073741824 ≤ a ∧ a ≤ 1073741824) ∧ (-1073741824 ≤ b ∧ b ≤ 1073741824) ∧ (-1073741824 ≤ c ∧ c ≤ 1073741824)
instance (a b c : Int) : Decidable (inB a b c) := inferInstanceAs (Decidable (_ ∧ _))

theorem within_model (N : Nat) (a b c : Int) : binary_within.f N a b c = some (decide (inB a b c)) := by
  unfold binary_within.f mx2 mn2
  have key : ∀ {x : Bool} {p : Prop} [Decidable p], (x = true ↔ p) → x = decide p := fun {x p _} hp => by
    by_cases h : p
    · simp [h, hp.mpr h]
    · simp only [h, decide_false]; cases x <;> simp_all
  cases hc : decide ((if c > (if b > a then b else a) then c else (if b > a then b else a)) ≤ 1073741824)
  · simp only [cond_false, Option.some.injEq]
    have hc := of_decide_eq_false hc
    refine key ⟨fun h => by simp at h, fun h => ?_⟩
    unfold inB at h
    exfalso; split at hc <;> split at hc <;> omega
  · simp only [cond_true, Option.some.injEq]
    have hc := of_decide_eq_true hc
    refine key ⟨fun h => ?_, fun h => ?_⟩
    · have h := of_decide_eq_true h
      unfold inB
      split at hc <;> split at hc <;> split at h <;> split at h <;> omega
    · unfold inB at h
      refine decide_eq_true ?_
      split <;> split <;> omega

theorem in_model (N : Nat) (a b c : Int) : parquetref08_In.f N a b c = some (decide (inB a b c)) := by
  unfold parquetref08_In.f parquetref08_small.f inB
  by_cases h1 : a ≥ -1073741824 <;> by_cases h2 : a ≤ 1073741824 <;> by_cases h3 : b ≥ -1073741824 <;> by_cases h4 : b ≤ 1073741824 <;> by_cases h5 : c ≥ -1073741824 <;> by_cases h6 : c ≤ 1073741824 <;> simp [h1, h2, h3, h4, h5, h6]

theorem disc_model (N : Nat) (a b c : Int) : binary_Disc.f N a b c = some (if inB a b c then wi64 (wi64 (b * b) - wi64 (wi64 (4 * a) * c)) else 0) ∧ parquetref08_Disc.f N a b c = some (if inB a b c then wi64 (wi64 (b * b) - wi64 (wi64 (4 * a) * c)) else 0) := by
  unfold binary_Disc.f parquetref08_Disc.f
  rw [within_model, in_model]
  by_cases h : inB a b c <;> simp [h]

theorem mul_bound {x y X Y : Int} (h1 : -X ≤ x) (h2 : x ≤ X) (h3 : -Y ≤ y) (h4 : y ≤ Y) : -(X * Y) ≤ x * y ∧ x * y ≤ X * Y := by
  have p1 := Int.mul_nonneg (show 0 ≤ X - x by omega) (show 0 ≤ Y - y by omega)
  have p2 := Int.mul_nonneg (show 0 ≤ X + x by omega) (show 0 ≤ Y + y by omega)
  have p3 := Int.mul_nonneg (show 0 ≤ X - x by omega) (show 0 ≤ Y + y by omega)
  have p4 := Int.mul_nonneg (show 0 ≤ X + x by omega) (show 0 ≤ Y - y by omega)
  have e1 : (X - x) * (Y - y) + (X + x) * (Y + y) = 2 * (X * Y) + 2 * (x * y) := by grind
  have e2 : (X - x) * (Y + y) + (X + x) * (Y - y) = 2 * (X * Y) - 2 * (x * y) := by grind
  omega

theorem disc_id {a b c : Int} (h : inB a b c) : wi64 (wi64 (b * b) - wi64 (wi64 (4 * a) * c)) = b * b - 4 * a * c := by
  obtain ⟨⟨a0, a1⟩, ⟨b0, b1⟩, c0, c1⟩ := h
  have m1 := mul_bound (X := 1073741824) (Y := 1073741824) b0 b1 b0 b1
  have m2 := mul_bound (x := 4 * a) (X := 4294967296) (Y := 1073741824) (by omega) (by omega) c0 c1
  have k1 : (1073741824 : Int) * 1073741824 = 1152921504606846976 := by decide
  have k2 : (4294967296 : Int) * 1073741824 = 4611686018427387904 := by decide
  rw [wi64_id (n := b * b) (by omega) (by omega), wi64_id (n := 4 * a) (by omega) (by omega), wi64_id (n := 4 * a * c) (by omega) (by omega), wi64_id (by omega) (by omega)]

/-- The code that a form is refused with, or 0. -/
theorem check_model (N : Nat) (a b c : Int) : ∃ e, binary_Check.f N a b c = some e ∧ parquetref08_Check.f N a b c = some e ∧ (e = 0 → Good a b c) := by
  unfold binary_Check.f parquetref08_Check.f
  rw [(disc_model N a b c).1, (disc_model N a b c).2, within_model, in_model]
  by_cases h : inB a b c
  · have hd := disc_id h
    simp only [h, decide_true, if_true, Option.bind_some, Bool.not_true, cond_false, hd]
    by_cases h1 : a ≤ 0
    · exact ⟨81, by simp [h1], by simp [h1], by intro e; cases e⟩
    · by_cases h2 : b * b - 4 * a * c ≥ 0
      · exact ⟨81, by simp only [h1, h2, decide_true, decide_false, cond_true, cond_false], by simp only [h1, h2, decide_true, decide_false, cond_true, cond_false], by intro e; cases e⟩
      · by_cases h3 : b * b - 4 * a * c < -4294967296
        · exact ⟨80, by simp only [h1, h2, h3, decide_true, decide_false, cond_true, cond_false], by simp only [h1, h2, h3, decide_true, decide_false, cond_true, cond_false], by intro e; cases e⟩
        · refine ⟨0, by simp only [h1, h2, h3, decide_true, decide_false, cond_true, cond_false], by simp only [h1, h2, h3, decide_true, decide_false, cond_true, cond_false], fun _ => ?_⟩
          obtain ⟨⟨a0, a1⟩, ⟨b0, b1⟩, c0, c1⟩ := h
          have hsq : 0 ≤ b * b := by
            rcases Int.le_total 0 b with h | h
            · exact Int.mul_nonneg h h
            · have := Int.mul_nonneg (show (0:Int) ≤ -b by omega) (show (0:Int) ≤ -b by omega)
              have e2 : -b * -b = b * b := by grind
              omega
          have hc : 0 < c := by
            rcases Int.lt_or_le 0 c with h | h
            · exact h
            · exfalso
              have := Int.mul_nonneg (show (0:Int) ≤ 4 * a by omega) (show (0:Int) ≤ -c by omega)
              have e2 : 4 * a * -c = -(4 * a * c) := by grind
              omega
          exact ⟨by omega, by omega, by omega, by omega, hc, by omega, by omega, by omega⟩
  · exact ⟨3, by simp [h], by simp [h], by intro e; cases e⟩

/-- Both reduce alike. -/
theorem reduce_model {N : Nat} (hN : 8589934600 < N) (a b c : Int) : ∃ a' b' c' p q r s e, binary_Reduce.f N a b c = some (a', b', c', p, q, r, s, e) ∧ parquetref08_Reduce.f N a b c = some (a', b', c', p, q, r, s, e) ∧
    (e = 0 → Good a' b' c' ∧ inR a' b' ∧ ¬ small_ a' b' c') := by
  obtain ⟨e, h1, h2, h3⟩ := check_model N a b c
  unfold binary_Reduce.f parquetref08_Reduce.f
  rw [h1, h2]
  by_cases he : e = 0
  · subst he
    have hg := h3 rfl
    obtain ⟨a', b', c', p, q, r, s, g1, g2, g3, g4, g5, g6⟩ := reduce_loops N N N a b c 1 0 0 1 hg (by have := (mu_pos hg).2; omega)
    refine ⟨a', b', c', p, q, r, s, 0, ?_, ?_, fun _ => ⟨g1, g2, g3⟩⟩
    · simp only [Option.bind_some, bne_self_eq_false, cond_false]
      exact g5 _ _ _ _ _ _ _ _
    · simp only [Option.bind_some, bne_self_eq_false, cond_false]
      exact g6 _ _ _ _ _ _ _ _
  · have : (e != 0) = true := by simpa using he
    exact ⟨0, 0, 0, 0, 0, 0, 0, e, by simp [this], by simp [this], fun h => absurd h he⟩


end Go.Proofs.Ytifnooogklfifaa.Pure
