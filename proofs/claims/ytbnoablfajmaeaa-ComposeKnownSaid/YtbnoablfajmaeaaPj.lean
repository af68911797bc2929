-- Plain laws of the row law10: ComposeKnown (closed).
import Derived.Test.YtbnoablfajmaeaaPh
import Derived.KernelRfl
namespace Go.Proofs.Ytbnoablfajmaeaa.Pure
open Go Go.Proofs.Ytbnoablfajmaeaa.Ev
set_option linter.unusedVariables false
set_option linter.unusedSimpArgs false

theorem wu16_range (x : Int) : 0 ≤ wu16 x ∧ wu16 x < 65536 := by
  simp only [wu16, IntKind.wrap]
  simp [IntKind.bits, IntKind.signed]
  omega
theorem wu16_id {x : Int} (h0 : 0 ≤ x) (h1 : x < 65536) : wu16 x = x := by
  simp only [wu16, IntKind.wrap]
  simp [IntKind.bits, IntKind.signed]
  omega
theorem wu32_id {x : Int} (h0 : 0 ≤ x) (h1 : x < 4294967296) : wu32 x = x := by
  simp only [wu32, IntKind.wrap]
  simp [IntKind.bits, IntKind.signed]
  omega

theorem known_inner {N : Nat} (hN : 8589934600 < N) {R : Type} (x14 : Bool) {m : Int} (m0 : 0 ≤ m) (m1 : m < 300) (x17 x18 x19 : Int) (k2 : Bool → Int → Int → Int → Int → Option R) (kr : Bool → Option R) : ∀ (n : Nat) (i : Int), 0 ≤ i → i ≤ 24 → 24 - i < n →
    parquetlaw10_ComposeKnown.l16 N n x14 m i x17 x18 x19 k2 kr = k2 x14 m x17 x18 x19 := by
  intro n
  induction n with
  | zero => intro i _ _ h; omega
  | succ n ih =>
    intro i i0 i1 hn
    rw [parquetlaw10_ComposeKnown.l16]
    by_cases h : i < 24
    · obtain ⟨g0, g1⟩ := wu16_range (i * 9)
      obtain ⟨g2, g3⟩ := wu16_range (wu16 (i * 31) + 5)
      obtain ⟨fa, fb, fc, ef, vf⟩ := within_told (N := N) (by omega) m0 (by omega) g0 g1
      obtain ⟨ga, gb, gc, eg, vg⟩ := within_told (N := N) (by omega) m0 (by omega) g2 g3
      obtain ⟨hd, hd1⟩ := vf.d
      obtain ⟨a, b, c, ea, ra⟩ := compose_told hN vf vg
      have red := reduced_model (N := N) (ra.red.val hd hd1).fine ra.red.inr ra.red.sm
      have c00 : ((0 : Int) != 0) = false := rfl
      have w : wu16 (i + 1) = i + 1 := wu16_id (by omega) (by omega)
      rw [decide_eq_true h, w]
      simp only [cond_true]
      rw [ef]
      simp only [Option.bind_some]
      rw [eg]
      simp only [Option.bind_some]
      rw [ea]
      simp only [Option.bind_some, c00, cond_false]
      rw [red]
      simp only [Option.bind_some, Bool.not_true, cond_false]
      exact ih (i + 1) (by omega) (by omega) (by omega)
    · rw [decide_eq_false h]; rfl

theorem known_outer {N : Nat} (hN : 8589934600 < N) {R : Type} (x11 x12 x13 : Int) (k0 : Bool → Int → Int → Int → Option R) (kr : Bool → Option R) : ∀ (n : Nat) (x9 : Bool) (m : Int), 0 ≤ m → m ≤ 300 → 300 - m < n →
    parquetlaw10_ComposeKnown.l13 N n x9 m x11 x12 x13 k0 kr = k0 x9 x11 x12 x13 := by
  intro n
  induction n with
  | zero => intro x9 i _ _ h; omega
  | succ n ih =>
    intro x9 m m0 m1 hn
    rw [parquetlaw10_ComposeKnown.l13]
    by_cases h : m < 300
    · have w : wu32 (m + 1) = m + 1 := wu32_id (by omega) (by omega)
      rw [decide_eq_true h]
      simp only [cond_true]
      rw [known_inner hN x9 m0 h x11 x12 x13 _ _ N 0 (by omega) (by omega) (by omega), w]
      exact ih x9 (m + 1) (by omega) (by omega) (by omega)
    · rw [decide_eq_false h]; rfl

theorem known_e1 : compose_One.f 8589934700 (-23) = some (1, 1, 6, 0) := by kernel_rfl
theorem known_e2 : compose_One.f 8589934700 (-4) = some (1, 0, 1, 0) := by kernel_rfl
theorem known_e3 : compose_One.f 8589934700 (-5) = some (0, 0, 0, 80) := by kernel_rfl
theorem known_e4 : compose_One.f 8589934700 (-4294967300) = some (0, 0, 0, 80) := by kernel_rfl
theorem known_e5 : compose_One.f 8589934700 5 = some (0, 0, 0, 80) := by kernel_rfl
theorem known_e6 : compose_One.f 8589934700 (-4294967296) = some (1, 0, 1073741824, 0) := by kernel_rfl
theorem known_e7 : compose_One.f 8589934700 (-3) = some (1, 1, 1, 0) := by kernel_rfl
theorem known_f1 : compose_Compose.f 8589934700 3 0 7 2 2 11 = some (5, 4, 5, 0) := by kernel_rfl
theorem known_f2 : compose_Compose.f 8589934700 2 1 3 2 (-1) 3 = some (1, 1, 6, 0) := by kernel_rfl
theorem known_f3 : compose_Inverse.f 8589934700 2 1 3 = some (2, -1, 3, 0) := by kernel_rfl
theorem known_f4 : compose_Compose.f 8589934700 2 2 4 1 0 7 = some (0, 0, 0, 81) := by kernel_rfl
theorem known_f5 : compose_Compose.f 8589934700 1 0 1 1 1 1 = some (0, 0, 0, 100) := by kernel_rfl
theorem known_f6 : compose_Compose.f 8589934700 2 0 2 1 0 1073741825 = some (0, 0, 0, 3) := by kernel_rfl
theorem known_f7 : compose_Power.f 8589934700 2 1 3 (-1) = some (2, -1, 3, 0) := by kernel_rfl
theorem known_f8 : compose_Power.f 8589934700 2 1 3 (-9223372036854775808) = some (2, 1, 3, 0) := by kernel_rfl

theorem known_all (N : Nat) (hN : 8589934600 < N) (hw : parquetlaw10_wakes.f N = some true) (e1 : compose_One.f N (-23) = some (1, 1, 6, 0)) (e2 : compose_One.f N (-4) = some (1, 0, 1, 0)) (e3 : compose_One.f N (-5) = some (0, 0, 0, 80)) (e4 : compose_One.f N (-4294967300) = some (0, 0, 0, 80)) (e5 : compose_One.f N 5 = some (0, 0, 0, 80)) (e6 : compose_One.f N (-4294967296) = some (1, 0, 1073741824, 0)) (e7 : compose_One.f N (-3) = some (1, 1, 1, 0)) (f1 : compose_Compose.f N 3 0 7 2 2 11 = some (5, 4, 5, 0)) (f2 : compose_Compose.f N 2 1 3 2 (-1) 3 = some (1, 1, 6, 0)) (f3 : compose_Inverse.f N 2 1 3 = some (2, -1, 3, 0)) (f4 : compose_Compose.f N 2 2 4 1 0 7 = some (0, 0, 0, 81)) (f5 : compose_Compose.f N 1 0 1 1 1 1 = some (0, 0, 0, 100)) (f6 : compose_Compose.f N 2 0 2 1 0 1073741825 = some (0, 0, 0, 3)) (f7 : compose_Power.f N 2 1 3 (-1) = some (2, -1, 3, 0)) (f8 : compose_Power.f N 2 1 3 (-9223372036854775808) = some (2, 1, 3, 0)) : parquetlaw10_ComposeKnown.f N = some true := by
  have ko := fun (x11 x12 x13 : Int) (k0 : Bool → Int → Int → Int → Option Bool) (kr : Bool → Option Bool) (x9 : Bool) => known_outer hN x11 x12 x13 k0 kr N x9 0 (by decide) (by decide) (by omega)
  unfold parquetlaw10_ComposeKnown.f
  have c1 : ∀ a : Int, (a == a) = true := fun a => beq_self_eq_true a
  rw [e1]
  simp only [Option.bind_some]
  rw [e2]
  simp only [Option.bind_some]
  rw [e3]
  simp only [Option.bind_some]
  rw [e4]
  simp only [Option.bind_some]
  rw [e5]
  simp only [Option.bind_some]
  rw [e6]
  simp only [Option.bind_some, c1, Bool.and_true, cond_true]
  rw [e7]
  simp only [Option.bind_some]
  rw [f1]
  simp only [Option.bind_some, c1, Bool.and_true, Bool.not_true, cond_false]
  rw [ko]
  rw [f2]
  simp only [Option.bind_some]
  rw [f3]
  simp only [Option.bind_some]
  rw [f4]
  simp only [Option.bind_some]
  rw [f5]
  simp only [Option.bind_some]
  rw [f6]
  simp only [Option.bind_some]
  rw [f7]
  simp only [Option.bind_some]
  rw [f8]
  simp only [Option.bind_some, c1, Bool.and_true, cond_true]
  rw [hw]
  rfl

theorem ComposeKnown : ∃ N, parquetlaw10_ComposeKnown.f N = some true :=
  ⟨8589934700, known_all 8589934700 (by decide) wakes_true known_e1 known_e2 known_e3 known_e4 known_e5 known_e6 known_e7 known_f1 known_f2 known_f3 known_f4 known_f5 known_f6 known_f7 known_f8⟩

end Go.Proofs.Ytbnoablfajmaeaa.Pure
