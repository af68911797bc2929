-- Plain laws of the row law10 (great): the document's divisors, products and inverses of words.
import Derived.Test.YtbnoablfajmaeaaGreatPg
namespace Go.Proofs.YtbnoablfajmaeaaGreat.Pure
open Go Go.Proofs.YtbnoablfajmaeaaGreat.Ev
open Go.Proofs.YtbnoablfajmaeaaGreat.NatL (ab ab_cases ab_nonneg ab_of ab_zero GT gcdI gcdI_nonneg gcdI_left gcdI_right gcd_ab0 ab_dvd tA tB wu64_id wu64_mod tmod_nn tdiv_nn fdiv_pow)
open Go.Proofs.YtbnoablfajmaeaaGreat.Mod (Fo Hm PM E)
set_option linter.unusedVariables false
set_option linter.unusedSimpArgs false

theorem common_step (N n : Nat) {R : Type} (K0 : Int → Option R) {u v : Int} (u0 : 0 ≤ u) (v0 : 0 < v) : parquetref04_Common.l3 N (n + 1) u v K0 = parquetref04_Common.l3 N n v (u % v) K0 := by
  rw [parquetref04_Common.l3]
  have c1 : decide (v > 0) = true := decide_eq_true (by omega)
  have c2 : (!(v == 0)) = true := by
    have : (v == 0) = false := beq_eq_false_iff_ne.mpr (by omega)
    rw [this]; rfl
  rw [c1, c2, tmod_nn u0]
  rfl
theorem common_loop (N : Nat) {R : Type} (K0 : Int → Option R) : ∀ (n : Nat) (u v : Int), 0 ≤ u → 0 ≤ v → v < n → parquetref04_Common.l3 N n u v K0 = K0 (gcdI u v) := by
  intro n
  induction n with
  | zero => intro u v _ _ h; omega
  | succ n ih =>
    intro u v u0 v0 hn
    by_cases hv : v = 0
    · subst hv
      rw [parquetref04_Common.l3, decide_eq_false (by omega), NatL.gcd_zero u0]; rfl
    · have d2 := Int.emod_nonneg u hv
      have d3 := Int.emod_lt_of_pos u (show 0 < v by omega)
      rw [common_step N n K0 u0 (by omega), ih v (u % v) v0 d2 (by omega), NatL.gcd_step u0 (by omega)]

theorem mx_ab {x : Int} (h : ab x ≤ 9223372036854775807) : mx2 x (wi64 (0 - x)) = ab x := by
  have : wi64 (0 - x) = -x := by rw [wi64_id (by rcases ab_cases x with ⟨c1, c2⟩ | ⟨c1, c2⟩ <;> omega) (by rcases ab_cases x with ⟨c1, c2⟩ | ⟨c1, c2⟩ <;> omega)]; omega
  rw [this]
  unfold mx2
  rcases ab_cases x with ⟨c1, c2⟩ | ⟨c1, c2⟩ <;> split <;> omega

theorem common_model {N : Nat} {a b : Int} (ha : ab a ≤ 9223372036854775807) (hb : ab b ≤ 4294967296) (hN : 4294967400 < N) : parquetref04_Common.f N a b = some (gcdI a b) := by
  unfold parquetref04_Common.f
  rw [mx_ab ha, mx_ab (by omega), common_loop N _ N (ab a) (ab b) (ab_nonneg a) (ab_nonneg b) (by omega), NatL.gcdI_ab]

/-- The same, where the first is the small one. -/
theorem common_model' {N : Nat} {a b : Int} (ha : ab a ≤ 4294967295) (hb : ab b ≤ 9223372036854775807) (hN : 4294967400 < N) : parquetref04_Common.f N a b = some (gcdI a b) := by
  by_cases h : b = 0
  · exact common_model (by omega) (by rw [h]; decide) hN
  · have bp : 0 < ab b := by have := ab_nonneg b; have : ab b ≠ 0 := fun q => h (ab_zero.mp q); omega
    have a0 := ab_nonneg a
    obtain ⟨n, rfl⟩ : ∃ n, N = n + 1 := ⟨N - 1, by omega⟩
    have d2 := Int.emod_nonneg (ab a) (show ab b ≠ 0 by omega)
    have d3 : ab a % ab b ≤ ab a := by
      have := Int.mul_ediv_add_emod (ab a) (ab b)
      have := Int.mul_nonneg (Int.le_of_lt bp) (Int.ediv_nonneg a0 (Int.le_of_lt bp))
      omega
    unfold parquetref04_Common.f
    rw [mx_ab (by omega), mx_ab hb, common_step (n + 1) n _ a0 bp, common_loop (n + 1) _ n (ab b) _ (Int.le_of_lt bp) d2 (by omega), NatL.gcd_step a0 bp, NatL.gcdI_ab]

theorem rcontent_model {N : Nat} (hN : 4294967400 < N) {a b c : Int} (h : inB a b c) : parquetref08_Content.f N a b c = some (gcdI (gcdI a b) c) := by
  have ha : ab a ≤ 1073741824 := by obtain ⟨h1, _⟩ := h; rcases ab_cases a with ⟨c1, c2⟩ | ⟨c1, c2⟩ <;> omega
  have hb : ab b ≤ 1073741824 := by obtain ⟨_, h1, _⟩ := h; rcases ab_cases b with ⟨c1, c2⟩ | ⟨c1, c2⟩ <;> omega
  have hc : ab c ≤ 1073741824 := by obtain ⟨_, _, h1⟩ := h; rcases ab_cases c with ⟨c1, c2⟩ | ⟨c1, c2⟩ <;> omega
  have g0 := gcdI_nonneg a b
  have gle : gcdI a b ≤ 1073741824 := by
    by_cases h : b = 0
    · subst h; rw [gcd_ab0]; exact ha
    · have := Int.le_of_dvd (by have := ab_nonneg b; have : ab b ≠ 0 := fun q => h (ab_zero.mp q); omega) (ab_dvd (gcdI_right a b))
      omega
  unfold parquetref08_Content.f
  rw [in_model, decide_eq_true h]
  simp only [Option.bind_some, Bool.not_true, cond_false]
  rw [common_model (by omega) (by omega) hN]
  simp only [Option.bind_some]
  rw [common_model (by rw [ab_of g0]; omega) (by omega) hN]
  rfl

/-- The reduced form of a primitive one, or what is refused: alike. -/
theorem primitive_same {N : Nat} (hN : 8589934600 < N) (a b c : Int) : ∃ x y z e, compose_reduced.f N a b c = some (x, y, z, e) ∧ parquetref10_primitive.f N a b c = some (x, y, z, e) ∧ (e = 0 → Fine a b c ∧ Prim a b c) := by
  obtain ⟨a', b', c', p, q, r, s, e, h1, h2, _⟩ := reduce_model hN a b c
  unfold compose_reduced.f parquetref10_primitive.f
  rw [h1, h2]
  simp only [Option.bind_some]
  by_cases he : e = 0
  · have hf : Fine a b c := by
      rcases check_fine N a b c with ⟨h3, _⟩ | ⟨h3, _⟩
      · exact h3
      · obtain ⟨e', h4, _, h5⟩ := reduce_not (N := N) h3
        rw [h5] at h1
        simp only [Option.some.injEq, Prod.mk.injEq] at h1
        omega
    have c0 : (e != 0) = false := by rw [he]; rfl
    rw [c0]
    simp only [cond_false]
    rw [content_model (by omega) hf.inb, rcontent_model (by omega) hf.inb]
    simp only [Option.bind_some]
    by_cases h6 : gcdI (gcdI a b) c = 1
    · have c1 : (gcdI (gcdI a b) c != 1) = false := by rw [h6]; rfl
      rw [c1]
      exact ⟨a', b', c', 0, rfl, rfl, fun _ => ⟨hf, (prim_iff a b c).mpr h6⟩⟩
    · have c1 : (gcdI (gcdI a b) c != 1) = true := bne_iff_ne.mpr h6
      rw [c1]
      exact ⟨0, 0, 0, 81, rfl, rfl, fun h => absurd h (by decide)⟩
  · have c0 : (e != 0) = true := bne_iff_ne.mpr he
    rw [c0]
    exact ⟨a', b', c', e, rfl, rfl, fun h => absurd h he⟩

theorem rmod_model (N : Nat) {a m : Int} (m0 : 0 < m) (m1 : m < 9223372036854775808) : parquetref04_Mod.f N a m = some (a % m) := by
  unfold parquetref04_Mod.f
  have c1 : (!(m == 0)) = true := by
    have : (m == 0) = false := beq_eq_false_iff_ne.mpr (by omega)
    rw [this]; rfl
  rw [c1]
  simp only [cond_true]
  have hf := fl (x := a) m0
  have e0 := Int.emod_nonneg a (show m ≠ 0 by omega)
  have e1 := Int.emod_lt_of_pos a m0
  by_cases h : Int.tmod a m < 0
  · rw [decide_eq_true h]
    obtain ⟨_, q⟩ := hf.1 h
    simp only [cond_true]
    rw [← q, wi64_id (by omega) (by omega)]
  · rw [decide_eq_false h]
    obtain ⟨_, q⟩ := hf.2 h
    simp only [cond_false]
    rw [q]

/-- The document's product modulo m, by doublings. -/
theorem times_loop (N : Nat) {R : Type} {m : Int} (m0 : 0 < m) (m1 : m ≤ 4611686018427387904) (K0 : Int → Option R) : ∀ (j n : Nat) (a b s : Int), 0 ≤ a → a < m → 0 ≤ b → b < 2 ^ j → j < n → b < 9223372036854775808 → 0 ≤ s → s < m →
    parquetref04_Times.l2 N n a b m s K0 = K0 ((s + a * b) % m) := by
  have cz : (!(m == 0)) = true := by
    have : (m == 0) = false := beq_eq_false_iff_ne.mpr (by omega)
    rw [this]; rfl
  intro j
  induction j with
  | zero =>
    intro n a b s a0 a1 b0 b1 hn _ s0 s1
    obtain ⟨n', rfl⟩ : ∃ n', n = n' + 1 := ⟨n - 1, by omega⟩
    have hb : b = 0 := by simp at b1; omega
    subst hb
    rw [parquetref04_Times.l2, Int.mul_zero, Int.add_zero, Int.emod_eq_of_lt s0 s1]
    rfl
  | succ j ih =>
    intro n a b s a0 a1 b0 b1 hn b2 s0 s1
    obtain ⟨n', rfl⟩ : ∃ n', n = n' + 1 := ⟨n - 1, by omega⟩
    by_cases hb : b = 0
    · subst hb
      rw [parquetref04_Times.l2, Int.mul_zero, Int.add_zero, Int.emod_eq_of_lt s0 s1]
      rfl
    · have hp : (2 : Int) ^ (j + 1) = 2 * 2 ^ j := by rw [Int.pow_succ]; omega
      have w1 : Int.tmod (wi64 (a + a)) m = (a + a) % m := by rw [wi64_id (by omega) (by omega), tmod_nn (by omega)]
      have w2 : Int.tmod (wi64 (s + a)) m = (s + a) % m := by rw [wi64_id (by omega) (by omega), tmod_nn (by omega)]
      have w3 : wi64 (Int.tdiv b 2) = b / 2 := by rw [tdiv_nn b0, wi64_id (by omega) (by omega)]
      have n0 := Int.emod_nonneg (a + a) (show m ≠ 0 by omega)
      have n1 := Int.emod_lt_of_pos (a + a) m0
      have k0 := Int.emod_nonneg (s + a) (show m ≠ 0 by omega)
      have k1 := Int.emod_lt_of_pos (s + a) m0
      have alike : ∀ x y : Int, x % m = y % m → ∀ z, (x + z) % m = (y + z) % m := fun x y h z => by rw [Int.add_emod, h, ← Int.add_emod]
      have dbl : ((a + a) % m * (b / 2)) % m = (2 * a * (b / 2)) % m := by
        rw [Int.mul_emod, Int.emod_emod_of_dvd _ (Int.dvd_refl _), ← Int.mul_emod]
        have : (a + a) * (b / 2) = 2 * a * (b / 2) := by grind
        rw [this]
      rw [parquetref04_Times.l2, decide_eq_true (show b > 0 by omega), cz, tmod_nn b0, w1, w2, w3]
      simp only [cond_true]
      by_cases ho : b % 2 = 1
      · have c1 : (b % 2 == 1) = true := beq_iff_eq.mpr ho
        rw [c1]
        simp only [cond_true]
        rw [ih n' ((a + a) % m) (b / 2) ((s + a) % m) n0 n1 (by omega) (by omega) (by omega) (by omega) k0 k1]
        congr 1
        have e1 : s + a * b = s + a + 2 * a * (b / 2) := by
          have : b = 2 * (b / 2) + 1 := by omega
          have e : a * b = a * (2 * (b / 2) + 1) := by rw [← this]
          rw [e]; grind
        rw [e1, Int.add_emod, dbl, Int.emod_emod_of_dvd _ (Int.dvd_refl _), ← Int.add_emod]
      · have c1 : (b % 2 == 1) = false := beq_eq_false_iff_ne.mpr ho
        rw [c1]
        simp only [cond_false]
        rw [ih n' ((a + a) % m) (b / 2) s n0 n1 (by omega) (by omega) (by omega) (by omega) s0 s1]
        congr 1
        have e1 : s + a * b = s + 2 * a * (b / 2) := by
          have : b = 2 * (b / 2) := by omega
          have e : a * b = a * (2 * (b / 2)) := by rw [← this]
          rw [e]; grind
        rw [e1, Int.add_emod, dbl, ← Int.add_emod]

theorem times_model {N : Nat} (hN : 100 < N) {a b m : Int} (m0 : 0 < m) (m1 : m ≤ 4611686018427387904) (a0 : 0 ≤ a) (a1 : a < m) (b0 : 0 ≤ b) (b1 : b < m) : parquetref04_Times.f N a b m = some (a * b % m) := by
  unfold parquetref04_Times.f
  rw [times_loop N m0 m1 _ 63 N a b 0 a0 a1 b0 (by
    have : (2 : Int) ^ 63 = 9223372036854775808 := by decide
    omega) (by omega) (by omega) (by omega) (by omega), Int.zero_add]

/-- The document's search for an inverse. -/
theorem inv_loop (N : Nat) {R : Type} {c m : Int} (hm : m ≤ 4000000000000000000) (K0 : Int → Int → Option R) : ∀ (n : Nat) (r s u v w z : Int), NatL.Inv c m r s u v w z → s < n → ∃ u' w', u' * c + w' * m = gcdI r s ∧ 2 * ab u' ≤ m ∧
    parquetref04_turned.l5 N n m r s u v K0 = K0 m u' := by
  intro n
  induction n with
  | zero => intro r s u v w z h hn; have := h.s0; omega
  | succ n ih =>
    intro r s u v w z h hn
    by_cases hs : s = 0
    · subst hs
      refine ⟨u, w, ?_, h.half, ?_⟩
      · rw [NatL.gcd_zero (Int.le_of_lt h.r0)]; exact h.er.symm
      · rw [parquetref04_turned.l5]; rfl
    · have g := h.step hs
      have s0 := h.s0
      have r0 := h.r0
      have sr := h.sr
      have rm := h.rm
      have g1 := g.sr
      obtain ⟨b1, b2⟩ := h.qv hs
      have gv := g.vm
      have q0 : 0 ≤ r / s := Int.ediv_nonneg (Int.le_of_lt r0) s0
      have q1 : r / s ≤ r := Int.ediv_le_self _ (Int.le_of_lt r0)
      have d1 := Int.mul_ediv_add_emod r s
      have d2 := Int.emod_nonneg r hs
      have sc : r / s * s = s * (r / s) := Int.mul_comm _ _
      have w1 : wi64 (Int.tdiv r s) = r / s := by rw [tdiv_nn (Int.le_of_lt r0), wi64_id (by omega) (by omega)]
      have w2 : wi64 (r / s * s) = r / s * s := wi64_id (by omega) (by omega)
      have w3 : wi64 (r - r / s * s) = r % s := by rw [wi64_id (by omega) (by omega)]; omega
      have w4 : wi64 (r / s * v) = r / s * v := wi64_id (by rcases ab_cases (r / s * v) with ⟨c1, c2⟩ | ⟨c1, c2⟩ <;> omega) (by rcases ab_cases (r / s * v) with ⟨c1, c2⟩ | ⟨c1, c2⟩ <;> omega)
      have w5 : wi64 (u - r / s * v) = u - r / s * v := wi64_id (by rcases ab_cases (u - r / s * v) with ⟨c1, c2⟩ | ⟨c1, c2⟩ <;> omega) (by rcases ab_cases (u - r / s * v) with ⟨c1, c2⟩ | ⟨c1, c2⟩ <;> omega)
      have cz : (!(s == 0)) = true := by
        have : (s == 0) = false := beq_eq_false_iff_ne.mpr hs
        rw [this]; rfl
      obtain ⟨u', w', e1, e2, e4⟩ := ih s (r % s) v (u - r / s * v) z (w - r / s * z) g (by omega)
      refine ⟨u', w', by rw [e1]; exact h.gcd hs, e2, ?_⟩
      rw [parquetref04_turned.l5, decide_eq_true (show s > 0 by omega), cz, w1, w2, w3, w4, w5]
      exact e4

/-- The inverse of a small number modulo m, without a common divisor. -/
theorem rinverse_model {N : Nat} (hN : 4294967400 < N) {a m : Int} (a0 : 0 < a) (a1 : a ≤ 37838) (m0 : 0 < m) (m1 : m ≤ 4000000000000000000) (hg : gcdI a m = 1) : ∃ x k, parquetref10_inverse.f N a m = some x ∧ 0 ≤ x ∧ x < m ∧ a * x = 1 + m * k := by
  have e0 := Int.emod_nonneg a (show m ≠ 0 by omega)
  have e1 := Int.emod_lt_of_pos a m0
  have e2 : a % m ≤ a := by
    have := Int.mul_ediv_add_emod a m
    have := Int.mul_nonneg (Int.le_of_lt m0) (Int.ediv_nonneg (Int.le_of_lt a0) (Int.le_of_lt m0))
    omega
  have hc : gcdI (a % m) m = 1 := by
    have := NatL.gcd_step (Int.le_of_lt a0) m0
    rw [hg] at this
    rw [← this]
    unfold gcdI; rw [Int.gcd_comm]
  have h := NatL.Inv.first (c := a) m0
  obtain ⟨u, w, k1, k2, k3⟩ := inv_loop N (c := a) m1 (fun y11 y12 => (parquetref04_Mod.f N y12 y11).bind fun r13 => some r13) N m (a % m) 0 1 1 (-(a / m)) h (by omega)
  have d1 := Int.mul_ediv_add_emod u m
  have hk : u * a + w * m = 1 := by rw [k1, NatL.gcd_step (Int.le_of_lt a0) m0, hg]
  refine ⟨u % m, -(w + u / m * a), ?_, Int.emod_nonneg u (by omega), Int.emod_lt_of_pos u m0, ?_⟩
  · have c1 : ((1 : Int) != 1) = false := rfl
    unfold parquetref10_inverse.f parquetref04_Inverse.f parquetref04_turned.f
    rw [decide_eq_false (show ¬ m < 1 by omega), decide_eq_false (show ¬ m > 4611686018427387904 by omega), rmod_model N m0 (by omega)]
    simp only [cond_false, Option.bind_some]
    rw [common_model' (by rw [ab_of e0]; omega) (by rw [ab_of (by omega)]; omega) hN, hc]
    simp only [Option.bind_some, c1, cond_false]
    rw [k3, rmod_model N m0 (by omega)]
    rfl
  · have : u % m = u - m * (u / m) := by omega
    rw [this]
    have e3 : a * (u - m * (u / m)) = u * a - m * (u / m * a) := by grind
    have e4 : m * -(w + u / m * a) = -(w * m) - m * (u / m * a) := by grind
    rw [e3, e4]; omega

end Go.Proofs.YtbnoablfajmaeaaGreat.Pure
