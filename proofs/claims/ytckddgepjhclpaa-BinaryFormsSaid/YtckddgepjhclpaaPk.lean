-- Plain laws of the row law08: the greatest common divisor of three numbers; BinaryForms.
import Derived.Test.YtckddgepjhclpaaPh
import Derived.Test.YtckddgepjhclpaaNs
namespace Go.Proofs.Ytckddgepjhclpaa.NatL.Z
open Go Go.Proofs.Ytckddgepjhclpaa.Ev
set_option linter.unusedVariables false
set_option linter.unusedSimpArgs false

theorem gcd64 {N : Nat} (hN : 1000000001 < N) {a b : Int} (ha : ab a ≤ 4611686018427387904) (hb : ab b ≤ 4611686018427387904) : ∃ u v, modular_Gcd.f N a b = some (gcdI a b, u, v) := by
  have hK := K_big
  have a0 := ab_nonneg a
  have b0 := ab_nonneg b
  obtain ⟨g, x, y, h1, h2, h3⟩ := z_gcd hN (a := a) (b := b) (by have := K_huge; omega) (by have := K_huge; omega)
  have g0 := gcdI_nonneg a b
  have gle : gcdI a b ≤ 4611686018427387904 := by
    by_cases h : b = 0
    · subst h; rw [gcd_ab0]; exact ha
    · have := Int.le_of_dvd (by have : ab b ≠ 0 := fun q => h (ab_zero.mp q); omega) (ab_dvd (gcdI_right a b))
      omega
  rw [← h1.eg] at g0 gle ⊢
  have gz : Zr g := zr_of (by rw [ab_of g0]; omega)
  have zx : Zr x := by
    by_cases hy : b = 0
    · obtain ⟨k1, k2⟩ := h1.bz hy
      rw [k1]
      obtain ⟨m1, m2⟩ := sn_bound a
      exact zr_i64 m1 m2
    · obtain ⟨k1, k2⟩ := h1.lo hy
      have := Int.ediv_le_self g b0
      exact zr_of (by rw [ab_of k1]; omega)
  have zy : Zr y := zr_of (by have := K_huge; omega)
  have wa : -9223372036854775808 ≤ a ∧ a < 9223372036854775808 := by rcases ab_cases a with ⟨c1, c2⟩ | ⟨c1, c2⟩ <;> omega
  have wb : -9223372036854775808 ≤ b ∧ b < 9223372036854775808 := by rcases ab_cases b with ⟨c1, c2⟩ | ⟨c1, c2⟩ <;> omega
  have c1 : decide (mx2 a b > 4611686018427387904) = false := by
    refine decide_eq_false ?_
    unfold mx2
    rcases ab_cases a with ⟨c1, c2⟩ | ⟨c1, c2⟩ <;> rcases ab_cases b with ⟨c3, c4⟩ | ⟨c3, c4⟩ <;> split <;> omega
  have c2 : decide (mn2 a b < -4611686018427387904) = false := by
    refine decide_eq_false ?_
    unfold mn2
    rcases ab_cases a with ⟨c1, c2⟩ | ⟨c1, c2⟩ <;> rcases ab_cases b with ⟨c3, c4⟩ | ⟨c3, c4⟩ <;> split <;> omega
  unfold modular_Gcd.f
  rw [c1, c2]
  simp only [cond_false]
  rw [z_of hN wa.1 wa.2]
  simp only [Option.bind_some]
  rw [z_of hN wb.1 wb.2]
  simp only [Option.bind_some]
  rw [h3]
  simp only [Option.bind_some]
  rw [z_make' false gz, ab_of g0]
  have sf : sv false g = g := rfl
  rw [sf]
  simp only [Option.bind_some]
  rw [z_int64 gz, if_pos (by omega), z_int64 zx, z_int64 zy]
  exact ⟨_, _, rfl⟩

theorem common_loop (N : Nat) {R : Type} (K0 : Int → Option R) : ∀ (n : Nat) (u v : Int), 0 ≤ u → 0 ≤ v → v < n → parquetref04_Common.l3 N n u v K0 = K0 (gcdI u v) := by
  intro n
  induction n with
  | zero => intro u v _ _ h; omega
  | succ n ih =>
    intro u v u0 v0 hn
    rw [parquetref04_Common.l3]
    by_cases hv : v = 0
    · subst hv
      rw [decide_eq_false (by omega), gcd_zero u0]; rfl
    · have c1 : decide (v > 0) = true := decide_eq_true (by omega)
      have c2 : (!(v == 0)) = true := by simpa using hv
      have d2 := Int.emod_nonneg u hv
      have d3 := Int.emod_lt_of_pos u (show 0 < v by omega)
      rw [c1, c2, tmod_nn u0]
      simp only [cond_true]
      rw [ih v (u % v) v0 d2 (by omega), gcd_step u0 (by omega)]

theorem common_model {N : Nat} {a b : Int} (ha : ab a ≤ 1073741824) (hb : ab b ≤ 1073741824) (hN : 1073741825 < N) : parquetref04_Common.f N a b = some (gcdI a b) := by
  have e : ∀ x : Int, ab x ≤ 1073741824 → mx2 x (wi64 (0 - x)) = ab x := fun x hx => by
    have : wi64 (0 - x) = -x := by rw [wi64_id (by rcases ab_cases x with ⟨c1, c2⟩ | ⟨c1, c2⟩ <;> omega) (by rcases ab_cases x with ⟨c1, c2⟩ | ⟨c1, c2⟩ <;> omega)]; omega
    rw [this]
    unfold mx2
    rcases ab_cases x with ⟨c1, c2⟩ | ⟨c1, c2⟩ <;> split <;> omega
  unfold parquetref04_Common.f
  rw [e a ha, e b hb, common_loop N _ N (ab a) (ab b) (ab_nonneg a) (ab_nonneg b) (by omega), gcdI_ab]

end Go.Proofs.Ytckddgepjhclpaa.NatL.Z
namespace Go.Proofs.Ytckddgepjhclpaa.Pure
open Go Go.Proofs.Ytckddgepjhclpaa.Ev
set_option linter.unusedVariables false
open Go.Proofs.Ytckddgepjhclpaa.NatL (ab ab_cases ab_nonneg)
open Go.Proofs.Ytckddgepjhclpaa.NatL.Z (gcd64 common_model gcdI_nonneg gcdI_right gcdI_left gcd_ab0 ab_dvd ab_zero)

theorem content_model {N : Nat} (hN : 1073741825 < N) (a b c : Int) : ∃ g, binary_Content.f N a b c = some g ∧ parquetref08_Content.f N a b c = some g := by
  unfold binary_Content.f parquetref08_Content.f
  rw [within_model, in_model]
  by_cases h : inB a b c
  · have ha : ab a ≤ 1073741824 := by obtain ⟨h1, _⟩ := h; rcases ab_cases a with ⟨c1, c2⟩ | ⟨c1, c2⟩ <;> omega
    have hb : ab b ≤ 1073741824 := by obtain ⟨_, h1, _⟩ := h; rcases ab_cases b with ⟨c1, c2⟩ | ⟨c1, c2⟩ <;> omega
    have hc : ab c ≤ 1073741824 := by obtain ⟨_, _, h1⟩ := h; rcases ab_cases c with ⟨c1, c2⟩ | ⟨c1, c2⟩ <;> omega
    have g0 := gcdI_nonneg a b
    have gle : NatL.gcdI a b ≤ 1073741824 := by
      by_cases h : b = 0
      · subst h; rw [gcd_ab0]; exact ha
      · have := Int.le_of_dvd (by have := ab_nonneg b; have : ab b ≠ 0 := fun q => h (ab_zero.mp q); omega) (ab_dvd (gcdI_right a b))
        omega
    have hg : ab (NatL.gcdI a b) ≤ 1073741824 := by rcases ab_cases (NatL.gcdI a b) with ⟨c1, c2⟩ | ⟨c1, c2⟩ <;> omega
    obtain ⟨u, v, h1⟩ := gcd64 (N := N) (by omega) (a := a) (b := b) (by omega) (by omega)
    obtain ⟨u2, v2, h2⟩ := gcd64 (N := N) (by omega) (a := NatL.gcdI a b) (b := c) (by omega) (by omega)
    refine ⟨NatL.gcdI (NatL.gcdI a b) c, ?_, ?_⟩
    · rw [decide_eq_true h]
      simp only [Option.bind_some, Bool.not_true, cond_false]
      rw [h1]
      simp only [Option.bind_some]
      rw [h2]
      rfl
    · rw [decide_eq_true h]
      simp only [Option.bind_some, Bool.not_true, cond_false]
      rw [common_model ha hb hN]
      simp only [Option.bind_some]
      rw [common_model hg hc hN]
      rfl
  · exact ⟨0, by rw [decide_eq_false h]; rfl, by rw [decide_eq_false h]; rfl⟩

theorem reduced_alike (N : Nat) (a b c : Int) : ∃ r, binary_Reduced.f N a b c = some r ∧ parquetref08_Reduced.f N a b c = some r := by
  obtain ⟨e, h1, h2, h3⟩ := check_model N a b c
  unfold binary_Reduced.f parquetref08_Reduced.f
  rw [h1, h2]
  by_cases he : e = 0
  · subst he
    have hg := h3 rfl
    simp only [Option.bind_some, beq_self_eq_true, cond_true]
    rw [is_model N hg, step_model N hg]
    by_cases hr : inR a b
    · by_cases hs : small_ a b c
      · rw [if_pos hr, if_pos hs]; exact ⟨false, rfl, by simp [hs]⟩
      · rw [if_pos hr, if_neg hs]; exact ⟨true, rfl, by simp [hr, hs]⟩
    · rw [if_neg hr]; exact ⟨false, rfl, by simp [hr]⟩
  · have c : (e == 0) = false := beq_eq_false_iff_ne.mpr he
    simp only [Option.bind_some, c, cond_false]
    exact ⟨false, rfl, rfl⟩

theorem BinaryForms (a1 a2 a3 : Int) (w1 : (Lit.int .i64 a1).wf = true) (w2 : (Lit.int .i64 a2).wf = true) (w3 : (Lit.int .i64 a3).wf = true) : ∃ N, parquetlaw08_BinaryForms.f N a1 a2 a3 = some true := by
  refine ⟨8589934700, ?_⟩
  have hN : 8589934600 < 8589934700 := by decide
  have hw := NatL.wakes_true
  generalize 8589934700 = N at *
  obtain ⟨d1, d2⟩ := disc_model N a1 a2 a3
  obtain ⟨e, c1, c2, _⟩ := check_model N a1 a2 a3
  obtain ⟨g, g1, g2⟩ := content_model (N := N) (by omega) a1 a2 a3
  obtain ⟨r, r1, r2⟩ := reduced_alike N a1 a2 a3
  obtain ⟨a', b', c', p, q, t, s, f, f1, f2, _⟩ := reduce_model hN a1 a2 a3
  unfold parquetlaw08_BinaryForms.f
  rw [d1, d2]
  simp only [Option.bind_some, beq_self_eq_true, cond_true]
  rw [c1]
  simp only [Option.bind_some]
  rw [c2]
  simp only [Option.bind_some, beq_self_eq_true, cond_true]
  rw [g1]
  simp only [Option.bind_some]
  rw [g2]
  simp only [Option.bind_some, beq_self_eq_true, cond_true]
  rw [r1]
  simp only [Option.bind_some]
  rw [r2]
  simp only [Option.bind_some]
  rw [f1]
  simp only [Option.bind_some]
  rw [f2]
  simp only [Option.bind_some, beq_self_eq_true, cond_true, Bool.and_true]
  rw [hw]
  rfl

end Go.Proofs.Ytckddgepjhclpaa.Pure
