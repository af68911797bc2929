-- Plain laws of the row law08: both ways of reducing end alike.
import Derived.Test.YtbnoablfajmaeaaFb
import Derived.KernelRfl
namespace Go.Proofs.Ytbnoablfajmaeaa.Pure
open Go Go.Proofs.Ytbnoablfajmaeaa.Ev
set_option linter.unusedVariables false
set_option linter.unusedSimpArgs false

def mu (a b c : Int) : Int := 4 * a + (if inR a b then (if a = c ∧ b < 0 then 1 else 0) else 3)

theorem mu_shift {a b c : Int} (h : Good a b c) (hr : ¬ inR a b) : mu a (sB a b) (sC a b c) < mu a b c := by
  have hs : inR a (sB a b) := h.shift.2
  unfold mu
  rw [if_pos hs, if_neg hr]
  split <;> omega

theorem mu_swap {a b c : Int} (h : Good a b c) (hr : inR a b) (hs : small_ a b c) : mu c (-b) a < mu a b c := by
  unfold mu
  rw [if_pos hr]
  obtain ⟨a0, a1, b0, b1, c0, c1, _⟩ := h
  rcases hs with hs | ⟨hs, hb⟩
  · have : (if inR c (-b) then (if c = a ∧ -b < 0 then 1 else 0) else 3 : Int) ≤ 3 := by split <;> (try split) <;> omega
    have h2 : (0 : Int) ≤ (if a = c ∧ b < 0 then 1 else 0) := by split <;> omega
    omega
  · subst hs
    have h2 : inR a (-b) := by unfold inR at *; omega
    rw [if_pos h2, if_neg (show ¬ (a = a ∧ -b < 0) by omega), if_pos ⟨rfl, hb⟩]
    omega

theorem mu_pos {a b c : Int} (h : Good a b c) : 0 < mu a b c ∧ mu a b c ≤ 8589934600 := by
  unfold mu
  have := h.a0; have := h.a1
  split <;> (try split) <;> omega

/- What a form must be. -/
def inB (a b c : Int) : Prop := (-1073741824 ≤ a ∧ a ≤ 1073741824) ∧ (-1073741824 ≤ b ∧ b ≤ 1073741824) ∧ (-1073741824 ≤ c ∧ c ≤ 1073741824)
instance (a b c : Int) : Decidable (inB a b c) := inferInstanceAs (Decidable (_ ∧ _))

theorem within_model (N : Nat) (a b c : Int) : binary_within.f N a b c = some (decide (inB a b c)) := by
  unfold binary_within.f mx2 mn2
  have key : ∀ {x : Bool} {p : Prop} [Decidable p], (x = true ↔ p) → x = decide p := fun {x p _} hp => by
    by_cases h : p
    · simp [h, hp.mpr h]
    · simp only [h, decide_false]; cases x <;> simp_all
  cases hc : decide ((if c > (if b > a then b else a) then c else (if b > a then b else a)) ≤ 1073741824)
  · simp only [cond_false, Option.some.injEq]
    have hc := of_decide_eq_false hc
    refine key ⟨fun h => by simp at h, fun h => ?_⟩
    unfold inB at h
    exfalso; split at hc <;> split at hc <;> omega
  · simp only [cond_true, Option.some.injEq]
    have hc := of_decide_eq_true hc
    refine key ⟨fun h => ?_, fun h => ?_⟩
    · have h := of_decide_eq_true h
      unfold inB
      split at hc <;> split at hc <;> split at h <;> split at h <;> omega
    · unfold inB at h
      refine decide_eq_true ?_
      split <;> split <;> omega

theorem mul_bound {x y X Y : Int} (h1 : -X ≤ x) (h2 : x ≤ X) (h3 : -Y ≤ y) (h4 : y ≤ Y) : -(X * Y) ≤ x * y ∧ x * y ≤ X * Y := by
  have p1 := Int.mul_nonneg (show 0 ≤ X - x by omega) (show 0 ≤ Y - y by omega)
  have p2 := Int.mul_nonneg (show 0 ≤ X + x by omega) (show 0 ≤ Y + y by omega)
  have p3 := Int.mul_nonneg (show 0 ≤ X - x by omega) (show 0 ≤ Y + y by omega)
  have p4 := Int.mul_nonneg (show 0 ≤ X + x by omega) (show 0 ≤ Y - y by omega)
  have e1 : (X - x) * (Y - y) + (X + x) * (Y + y) = 2 * (X * Y) + 2 * (x * y) := by grind
  have e2 : (X - x) * (Y + y) + (X + x) * (Y - y) = 2 * (X * Y) - 2 * (x * y) := by grind
  omega

theorem disc_id {a b c : Int} (h : inB a b c) : wi64 (wi64 (b * b) - wi64 (wi64 (4 * a) * c)) = b * b - 4 * a * c := by
  obtain ⟨⟨a0, a1⟩, ⟨b0, b1⟩, c0, c1⟩ := h
  have m1 := mul_bound (X := 1073741824) (Y := 1073741824) b0 b1 b0 b1
  have m2 := mul_bound (x := 4 * a) (X := 4294967296) (Y := 1073741824) (by omega) (by omega) c0 c1
  have k1 : (1073741824 : Int) * 1073741824 = 1152921504606846976 := by decide
  have k2 : (4294967296 : Int) * 1073741824 = 4611686018427387904 := by decide
  rw [wi64_id (n := b * b) (by omega) (by omega), wi64_id (n := 4 * a) (by omega) (by omega), wi64_id (n := 4 * a * c) (by omega) (by omega), wi64_id (by omega) (by omega)]

theorem disc_model (N : Nat) (a b c : Int) : binary_Disc.f N a b c = some (if inB a b c then wi64 (wi64 (b * b) - wi64 (wi64 (4 * a) * c)) else 0) ∧ True := by
  unfold binary_Disc.f
  rw [within_model]
  by_cases h : inB a b c <;> simp [h]


end Go.Proofs.Ytbnoablfajmaeaa.Pure
