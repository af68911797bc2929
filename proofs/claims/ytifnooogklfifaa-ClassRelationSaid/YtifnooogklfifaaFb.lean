-- Plain laws of the row law08: one step of reducing, the program's and the document's.
import Derived.Test.YtifnooogklfifaaFa
import Derived.KernelRfl
namespace Go.Proofs.Ytifnooogklfifaa.Pure
open Go Go.Proofs.Ytifnooogklfifaa.Ev
set_option linter.unusedVariables false
set_option linter.unusedSimpArgs false

/-- The shift's number. -/
def kk (a b : Int) : Int := (a - b) / (2 * a)
def sB (a b : Int) : Int := b + 2 * kk a b * a
def sC (a b c : Int) : Int := (a * kk a b + b) * kk a b + c
def inR (a b : Int) : Prop := -a < b ∧ b ≤ a
def small_ (a b c : Int) : Prop := c < a ∨ (a = c ∧ b < 0)
instance (a b : Int) : Decidable (inR a b) := inferInstanceAs (Decidable (_ ∧ _))
instance (a b c : Int) : Decidable (small_ a b c) := inferInstanceAs (Decidable (_ ∨ _))

theorem k_model {a b c : Int} (h : Good a b c) : wi64 (Int.tdiv (wi64 (a - b)) (wi64 (2 * a))) = Int.tdiv (a - b) (2 * a) ∧ Int.tmod (wi64 (a - b)) (wi64 (2 * a)) = Int.tmod (a - b) (2 * a) ∧
    (Int.tmod (a - b) (2 * a) < 0 → wi64 (Int.tdiv (a - b) (2 * a) - 1) = kk a b) ∧ (¬ Int.tmod (a - b) (2 * a) < 0 → Int.tdiv (a - b) (2 * a) = kk a b) := by
  obtain ⟨a0, a1, b0, b1, _⟩ := h
  have hf := fl (x := a - b) (y := 2 * a) (by omega)
  obtain ⟨k1, k2, _⟩ := k_bound a0 a1 b0 b1
  have e1 : wi64 (a - b) = a - b := wi64_id (by omega) (by omega)
  have e2 : wi64 (2 * a) = 2 * a := wi64_id (by omega) (by omega)
  rw [e1, e2]
  have hb : -4294967297 ≤ Int.tdiv (a - b) (2 * a) ∧ Int.tdiv (a - b) (2 * a) ≤ 4294967298 := by
    by_cases hm : Int.tmod (a - b) (2 * a) < 0
    · have := (hf.1 hm).1; omega
    · have := (hf.2 hm).1; omega
  refine ⟨wi64_id (by omega) (by omega), rfl, fun hm => ?_, fun hm => ?_⟩
  · have := (hf.1 hm).1
    rw [wi64_id (by omega) (by omega)]
    unfold kk; omega
  · have := (hf.2 hm).1
    unfold kk; omega

theorem s_model {a b c : Int} (h : Good a b c) : wi64 (b + wi64 (wi64 (2 * kk a b) * a)) = sB a b ∧ wi64 (wi64 (wi64 (wi64 (a * kk a b) + b) * kk a b) + c) = sC a b c := by
  obtain ⟨hg, hb1, hb2⟩ := h.shift
  obtain ⟨a0, a1, b0, b1, c0, c1, d0, d1⟩ := h
  obtain ⟨k1, k2, k3, k4⟩ := k_bound a0 a1 b0 b1
  obtain ⟨_, _, _, _, g1, g2, _, _⟩ := hg
  unfold sB sC kk
  generalize (a - b) / (2 * a) = k at *
  have e : 2 * k * a = 2 * (a * k) := by grind
  refine ⟨?_, ?_⟩
  · rw [wi64_id (n := 2 * k) (by omega) (by omega), wi64_id (n := 2 * k * a) (by omega) (by omega), wi64_id (by omega) (by omega)]
  · rw [wi64_id (n := a * k) (by omega) (by omega), wi64_id (n := a * k + b) (by omega) (by omega), wi64_id (n := (a * k + b) * k) (by omega) (by omega), wi64_id (by omega) (by omega)]

theorem step_model (N : Nat) {a b c : Int} (h : Good a b c) (p q r s : Int) : binary_walk_step.f N a b c p q r s =
    if inR a b then (if small_ a b c then some (true, c, -b, a, q, wi64 (0 - p), s, wi64 (0 - r)) else some (false, a, b, c, p, q, r, s))
    else some (true, a, sB a b, sC a b c, p, wi64 (wi64 (kk a b * p) + q), r, wi64 (wi64 (kk a b * r) + s)) := by
  obtain ⟨m1, m2, m3, m4⟩ := k_model h
  obtain ⟨s1, s2⟩ := s_model h
  have e0 : wi64 (0 - a) = -a := by obtain ⟨a0, a1, _⟩ := h; rw [wi64_id (by omega) (by omega)]; omega
  have e1 : wi64 (0 - b) = -b := by obtain ⟨_, _, b0, b1, _⟩ := h; rw [wi64_id (by omega) (by omega)]; omega
  have e2 : (wi64 (2 * a) == 0) = false := by obtain ⟨a0, a1, _⟩ := h; rw [wi64_id (by omega) (by omega)]; simp; omega
  unfold binary_walk_step.f
  simp only [e0, e1, e2, m1, m2, Bool.not_false, cond_true]
  by_cases hr : inR a b
  · rw [if_pos hr]
    obtain ⟨r1, r2⟩ := hr
    have c1 : decide (b ≤ -a) = false := by simp; omega
    have c2 : decide (b > a) = false := by simp; omega
    simp only [c1, c2, cond_false]
    unfold small_
    by_cases h1 : a > c
    · simp [h1]
    · by_cases h2 : a = c
      · subst h2
        by_cases h3 : b < 0 <;> simp [h3]
      · have h3 : (a == c) = false := by simpa using h2
        simp [h1, h2, h3]
  · rw [if_neg hr]
    unfold inR at hr
    by_cases hm : Int.tmod (a - b) (2 * a) < 0
    · simp only [hm, m3 hm, decide_true, cond_true, s1, s2]
      by_cases h1 : b ≤ -a
      · simp [h1]
      · have : b > a := by omega
        simp [h1, this]
    · simp only [hm, m4 hm, decide_false, cond_false, s1, s2]
      by_cases h1 : b ≤ -a
      · simp [h1]
      · have : b > a := by omega
        simp [h1, this]

theorem floor_model (N : Nat) {a b c : Int} (h : Good a b c) : parquetref08_Floor.f N (wi64 (a - b)) (wi64 (2 * a)) = some (kk a b) := by
  obtain ⟨a0, a1, b0, b1, _⟩ := h
  have hf := fl (x := a - b) (y := 2 * a) (by omega)
  obtain ⟨k1, k2, _⟩ := k_bound a0 a1 b0 b1
  have e1 : wi64 (a - b) = a - b := wi64_id (by omega) (by omega)
  have e2 : wi64 (2 * a) = 2 * a := wi64_id (by omega) (by omega)
  have hne : (2 * a == 0) = false := by simp; omega
  have h1 := Int.mul_ediv_add_emod (a - b) (2 * a)
  have h2 := Int.emod_nonneg (a - b) (b := 2 * a) (by omega)
  have h3 := Int.emod_lt_of_pos (a - b) (b := 2 * a) (by omega)
  have hdiv : Int.tdiv (2 * a * ((a - b) / (2 * a))) (2 * a) = (a - b) / (2 * a) := Int.mul_tdiv_cancel_left _ (by omega)
  unfold parquetref08_Floor.f parquetref04_Mod.f
  rw [e1, e2]
  simp only [hne, Bool.not_false, cond_true]
  by_cases hm : Int.tmod (a - b) (2 * a) < 0
  · have q := (hf.1 hm).2
    simp only [hm, decide_true, cond_true, ← q, Option.bind_some]
    rw [wi64_id (n := (a - b) % (2 * a)) (by omega) (by omega), wi64_id (n := a - b - (a - b) % (2 * a)) (by omega) (by omega)]
    have e : a - b - (a - b) % (2 * a) = 2 * a * ((a - b) / (2 * a)) := by omega
    rw [e, hdiv, wi64_id (by omega) (by omega)]
    rfl
  · have q := (hf.2 hm).2
    have hm' : ¬ (a - b) % (2 * a) < 0 := by omega
    rw [← q]
    simp only [hm', decide_false, cond_false, Option.bind_some]
    rw [wi64_id (n := a - b - (a - b) % (2 * a)) (by omega) (by omega)]
    have e : a - b - (a - b) % (2 * a) = 2 * a * ((a - b) / (2 * a)) := by omega
    rw [e, hdiv, wi64_id (by omega) (by omega)]
    rfl

theorem is_model (N : Nat) {a b c : Int} (h : Good a b c) : parquetref08_Is.f N a b c = some (decide (inR a b ∧ ¬ small_ a b c)) := by
  have e0 : wi64 (0 - a) = -a := by obtain ⟨a0, a1, _⟩ := h; rw [wi64_id (by omega) (by omega)]; omega
  have main : ∃ x, parquetref08_Is.f N a b c = some x ∧ (x = true ↔ (inR a b ∧ ¬ small_ a b c)) := by
    unfold parquetref08_Is.f inR small_
    rw [e0]
    by_cases h1 : -a < b
    · by_cases h2 : b ≤ a
      · by_cases h3 : a ≤ c
        · by_cases h4 : b ≥ 0
          · exact ⟨true, by simp [h1, h2, h3, h4], fun _ => ⟨⟨h1, h2⟩, by rintro (h | ⟨h, h'⟩) <;> omega⟩, fun _ => rfl⟩
          · refine ⟨a != c, by simp [h1, h2, h3, h4], fun h => ⟨⟨h1, h2⟩, ?_⟩, fun h => ?_⟩
            · simp at h; rintro (h' | ⟨h', h''⟩) <;> omega
            · have := h.2; simp; intro e; exact this (.inr ⟨e, by omega⟩)
        · exact ⟨false, by simp [h1, h2, h3], fun h => by simp at h, fun h => (h.2 (.inl (by omega))).elim⟩
      · exact ⟨false, by simp [h1, h2], fun h => by simp at h, fun h => (h2 h.1.2).elim⟩
    · exact ⟨false, by simp [h1], fun h => by simp at h, fun h => (h1 h.1.1).elim⟩
  obtain ⟨x, h1, h2⟩ := main
  rw [h1]
  by_cases hp : inR a b ∧ ¬ small_ a b c
  · simp [hp, h2.mpr hp]
  · simp only [hp, decide_false]; cases x <;> simp_all


end Go.Proofs.Ytifnooogklfifaa.Pure
