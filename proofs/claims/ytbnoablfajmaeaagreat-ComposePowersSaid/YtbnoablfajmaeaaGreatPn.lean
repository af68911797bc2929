-- Plain laws of the row law10 (great): ComposePairs, ComposePowers.
import Derived.Test.YtbnoablfajmaeaaGreatPm
namespace Go.Proofs.YtbnoablfajmaeaaGreat.Pure
open Go Go.Proofs.YtbnoablfajmaeaaGreat.Ev
open Go.Proofs.YtbnoablfajmaeaaGreat.NatL (ab ab_cases ab_nonneg ab_of ab_zero GT gcdI gcdI_nonneg gcdI_left gcdI_right gcd_ab0 ab_dvd tA tB wu64_id wu64_mod tmod_nn tdiv_nn fdiv_pow sg pH Zl zl_of zr_i64)
open Go.Proofs.YtbnoablfajmaeaaGreat.Mod (Fo Hm PM E)
set_option linter.unusedVariables false
set_option linter.unusedSimpArgs false

theorem rdisc_red (N : Nat) {d a b c : Int} (h : Val d a b c) : parquetref08_Disc.f N a b c = some d := by
  rw [(disc_model N a b c).2, if_pos h.fine.inb, disc_id h.fine.inb, h.of.eq]

/-- The document's product of two reduced primitive forms. -/
theorem rproduct_told {N : Nat} (hN : 8589934600 < N) {d a1 b1 c1 a2 b2 c2 : Int} (hd : d < 0) (hd1 : -4294967296 ≤ d) (h1 : Red d a1 b1 c1) (h2 : Red d a2 b2 c2) :
    ∃ a b c, parquetref10_Product.f N a1 b1 c1 a2 b2 c2 = some (a, b, c) ∧ RedC d (Pr d (La d a1 b1) (La d a2 b2)) a b c := by
  have dn : Dn d := Dn.of h1.of hd
  have v1 := h1.val hd hd1
  obtain ⟨f1, f2, f3, f4⟩ := (small_of h1.of h1.a0 h1.inr h1.sm hd1).resolve_right (fun q => q hd)
  obtain ⟨i1, i2⟩ := h1.inr
  have a0 := h1.a0
  obtain ⟨ha, hb, hc, ep, p1, p2, p3, p4, p5, cc, p6⟩ := prime_told (N := N) (by omega) hd hd1 h2 (m := a1) (by omega)
  obtain ⟨q1, q2, q3, q4⟩ := h1.of.t
  obtain ⟨q5, q6, _, _⟩ := p6.t
  obtain ⟨pp, pq, pr, hpr⟩ := h1.pr
  have cop : Cop a1 ha := ((cop_iff _ _).mpr p4).symm
  obtain ⟨x, k, ei, x0, x1, hx⟩ := rinverse_model (N := N) (by omega) a0 (by omega) p1 (by omega) ((cop_iff _ _).mp cop)
  have lat1 : La d a1 b1 = Fo a1 ((b1 - sd d) / 2) := rfl
  have lat2 : La d ha hb = Fo ha ((hb - sd d) / 2) := rfl
  generalize ht1 : (b1 - sd d) / 2 = t1 at *
  generalize ht2 : (hb - sd d) / 2 = t2 at *
  have hD : wi64 (Int.tdiv (wi64 (hb - b1)) 2) = t2 - t1 := by
    have e : hb - b1 = 2 * (t2 - t1) := by omega
    rw [wi64_id (n := hb - b1) (by omega) (by omega), e, Int.mul_tdiv_cancel_left _ (by decide), wi64_id (by omega) (by omega)]
  have m0 := Int.emod_nonneg (t2 - t1) (show ha ≠ 0 by omega)
  have m1 := Int.emod_lt_of_pos (t2 - t1) p1
  have et : parquetref04_Times.f N ((t2 - t1) % ha) x ha = some ((t2 - t1) * x % ha) := by
    rw [times_model (by omega) p1 (by omega) m0 m1 x0 x1, Int.mul_emod, Int.emod_emod_of_dvd _ (Int.dvd_refl _), ← Int.mul_emod]
  have n0 := Int.emod_nonneg ((t2 - t1) * x) (show ha ≠ 0 by omega)
  have n1 := Int.emod_lt_of_pos ((t2 - t1) * x) p1
  -- a1 t is t2 - t1 modulo ha
  have hdiv : ha ∣ a1 * ((t2 - t1) * x % ha) - (t2 - t1) := by
    have e : (t2 - t1) * x % ha = (t2 - t1) * x - ha * ((t2 - t1) * x / ha) := by
      have := Int.mul_ediv_add_emod ((t2 - t1) * x) ha; omega
    refine ⟨(t2 - t1) * k - a1 * ((t2 - t1) * x / ha), ?_⟩
    rw [e]
    have e2 : a1 * ((t2 - t1) * x - ha * ((t2 - t1) * x / ha)) - (t2 - t1) = (t2 - t1) * (a1 * x) - ha * (a1 * ((t2 - t1) * x / ha)) - (t2 - t1) := by grind
    rw [e2, hx]; grind
  generalize (t2 - t1) * x % ha = t at *
  have w2 : wi64 (2 * a1) = 2 * a1 := wi64_id (by omega) (by omega)
  obtain ⟨D, hun⟩ := united_cop (s := sd d) (m := md d) (v1 := a1) (v2 := ha) (c1 := c1) (c2 := cc) (t1 := t1) (t2 := t2) (t := t1 + a1 * t) cop q2 q6 ⟨t, by omega⟩ (by
    have e : t1 + a1 * t - t2 = a1 * t - (t2 - t1) := by omega
    rw [e]; exact hdiv) (p := pp) (q := pq) (r := pr) (by rw [← q1]; exact hpr)
  have e2t : 2 * a1 * t = 2 * (a1 * t) := by grind
  have hlat : La d (a1 * ha) (b1 + 2 * a1 * t) = Fo (a1 * ha) (t1 + a1 * t) := by
    unfold La
    have : b1 + 2 * a1 * t - sd d = (t1 + a1 * t) * 2 := by omega
    rw [this, Int.mul_ediv_cancel _ (by decide)]
  have hap : 0 < a1 * ha := Int.mul_pos a0 p1
  have hlb : Lb d (a1 * ha) (b1 + 2 * a1 * t) := by
    refine ⟨hap, ?_⟩
    obtain ⟨K, hK⟩ := D
    refine ⟨K, ?_⟩
    have a6 : (b1 + 2 * a1 * t) * (b1 + 2 * a1 * t) - d = 4 * ((t1 + a1 * t) * (t1 + a1 * t) + sd d * (t1 + a1 * t) - md d) := by
      have a7 : b1 + 2 * a1 * t = 2 * (t1 + a1 * t) + sd d := by omega
      rw [a7]
      have hss : sd d * sd d = sd d := by rcases q4 with h | h <;> rw [h] <;> decide
      have a8 : (2 * (t1 + a1 * t) + sd d) * (2 * (t1 + a1 * t) + sd d) = 4 * ((t1 + a1 * t) * (t1 + a1 * t) + sd d * (t1 + a1 * t)) + sd d * sd d := by grind
      omega
    rw [a6, hK]; grind
  -- sizes
  have s1 : a1 * ha ≤ 37838 * 1600000000000000000 := by
    have := Int.mul_le_mul_of_nonneg_left p2 (Int.le_of_lt a0)
    have := Int.mul_le_mul_of_nonneg_right f1 (show (0 : Int) ≤ 1600000000000000000 by decide)
    omega
  have s2 : a1 * t ≤ 37838 * 1600000000000000000 := by
    have := Int.mul_le_mul_of_nonneg_left (show t ≤ 1600000000000000000 by omega) (Int.le_of_lt a0)
    have := Int.mul_le_mul_of_nonneg_right f1 (show (0 : Int) ≤ 1600000000000000000 by decide)
    omega
  have s3 := Int.mul_nonneg (Int.le_of_lt a0) n0
  have k1 : (37838 : Int) * 1600000000000000000 = 60540800000000000000000 := by decide
  have k2 : (200000000000000000000000 : Int) < 65536 ^ 20 := by decide
  have zA : Zl 20 (a1 * ha) := Zl.of (by rw [ab_of (Int.le_of_lt hap)]; omega)
  have zB : Zl 20 (b1 + 2 * a1 * t) := Zl.of (by rcases ab_cases (b1 + 2 * a1 * t) with ⟨c1, c2⟩ | ⟨c1, c2⟩ <;> omega)
  have zb1 := zl_of (zr_i64 (n := b1) (by omega) (by omega))
  have z2a := zl_of (zr_i64 (n := 2 * a1) (by omega) (by omega))
  have zt := zl_of (zr_i64 (n := t) (by omega) (by omega))
  have za1 := zl_of (zr_i64 (n := a1) (by omega) (by omega))
  have zha := zl_of (zr_i64 (n := ha) (by omega) (by omega))
  obtain ⟨a, b, c, r1, r2, r3, r4, r5, r6⟩ := big_whole (N := N) (by omega) hd hd1 0 0 0 (fun y55 y56 y57 => some (y55, y56, y57)) 46 N (a1 * ha) (b1 + 2 * a1 * t) hlb zA zB (by
    have : (2147483648 : Int) * 2 ^ 46 = 151115727451828646838272 := by decide
    omega) (by omega)
  have cl : Cl d (Pr d (La d a1 b1) (La d a2 b2)) (La d a b) := by
    have c1' : Cl d (Pr d (La d a1 b1) (La d a2 b2)) (Pr d (La d a1 b1) (La d ha hb)) := Mod.Hm.prod dn.m (Mod.Hm.refl _ _ _) p5
    have c2' : Cl d (Pr d (La d a1 b1) (La d ha hb)) (La d (a1 * ha) (b1 + 2 * a1 * t)) := by
      rw [hlat, lat1, lat2]
      exact Mod.Hm.same hun
    exact c1'.trans dn.m (c2'.trans dn.m r5)
  have un : Un d (La d a b) := Un.cl dn (Un.prod dn (oo_oo h1.of dn) v1.un (h2.val hd hd1).un) cl
  refine ⟨a, b, c, ?_, ⟨r1, r2, r3, r4, r2.prim dn un⟩, cl⟩
  unfold parquetref10_Product.f
  rw [ep]
  simp only [Option.bind_some]
  rw [rdisc_red N v1]
  simp only [Option.bind_some]
  rw [hD, rmod_model N p1 (by omega)]
  simp only [Option.bind_some]
  rw [ei]
  simp only [Option.bind_some]
  rw [et]
  simp only [Option.bind_some]
  rw [NatL.r_of (by omega) (by omega) (by omega), w2]
  simp only [Option.bind_some]
  rw [NatL.r_of (by omega) (by omega) (by omega)]
  simp only [Option.bind_some]
  rw [NatL.r_of (by omega) (by omega) (by omega)]
  simp only [Option.bind_some]
  rw [NatL.r_mul (by omega) z2a zt (by omega) (by omega)]
  simp only [Option.bind_some]
  rw [NatL.r_add (by omega) (zb1.mono (show 256 ≤ 512 by omega)) (z2a.mul zt) (by omega)]
  simp only [Option.bind_some]
  rw [NatL.r_of (by omega) (by omega) (by omega)]
  simp only [Option.bind_some]
  rw [NatL.r_of (by omega) (by omega) (by omega)]
  simp only [Option.bind_some]
  rw [NatL.r_mul (by omega) za1 zha (by omega) (by omega)]
  simp only [Option.bind_some]
  have hr : parquetref10_reduced.f N (sg (a1 * ha)) (pH (a1 * ha)) (sg (b1 + 2 * a1 * t)) (pH (b1 + 2 * a1 * t)) d = some (a, b, c) := by
    unfold parquetref10_reduced.f
    rw [NatL.r_of (by omega) (by decide) (by decide)]
    simp only [Option.bind_some]
    exact r6
  rw [hr]
  rfl

theorem rproduct_cl {N : Nat} (hN : 8589934600 < N) {d a1 b1 c1 a2 b2 c2 : Int} {M L : E → Prop} (hd : Dn d) (hd1 : -4294967296 ≤ d) (h1 : RedC d M a1 b1 c1) (h2 : RedC d L a2 b2 c2) :
    ∃ a b c, parquetref10_Product.f N a1 b1 c1 a2 b2 c2 = some (a, b, c) ∧ RedC d (Pr d M L) a b c := by
  obtain ⟨a, b, c, e, h⟩ := rproduct_told hN hd.neg hd1 h1.red h2.red
  exact ⟨a, b, c, e, h.turn hd (Mod.Hm.prod hd.m h1.cl h2.cl)⟩

theorem val_of {a b c : Int} (h : Fine a b c) (p : Prim a b c) : Val (b * b - 4 * a * c) a b c := ⟨h, ⟨rfl⟩, p⟩

/-- Compose, alike. -/
theorem compose_same {N : Nat} (hN : 8589934600 < N) (a1 b1 c1 a2 b2 c2 : Int) : ∃ x y z e, compose_Compose.f N a1 b1 c1 a2 b2 c2 = some (x, y, z, e) ∧ parquetref10_Compose.f N a1 b1 c1 a2 b2 c2 = some (x, y, z, e) := by
  obtain ⟨e1, k1, k2, _⟩ := check_model N a1 b1 c1
  obtain ⟨e2, k3, k4, _⟩ := check_model N a2 b2 c2
  obtain ⟨x1, y1, z1, f1, p1, p2, p3⟩ := primitive_same hN a1 b1 c1
  obtain ⟨x2, y2, z2, f2, p4, p5, p6⟩ := primitive_same hN a2 b2 c2
  obtain ⟨d1, d2⟩ := disc_model N a1 b1 c1
  obtain ⟨d3, d4⟩ := disc_model N a2 b2 c2
  unfold compose_Compose.f parquetref10_Compose.f
  rw [k1, k2]
  simp only [Option.bind_some]
  by_cases h1 : e1 = 0
  · have c0 : (e1 != 0) = false := by rw [h1]; rfl
    rw [c0, k3, k4]
    simp only [Option.bind_some, cond_false]
    by_cases h2 : e2 = 0
    · have c0 : (e2 != 0) = false := by rw [h2]; rfl
      rw [c0, p1, p2]
      simp only [Option.bind_some, cond_false]
      by_cases h3 : f1 = 0
      · have c0 : (f1 != 0) = false := by rw [h3]; rfl
        rw [c0, p4, p5]
        simp only [Option.bind_some, cond_false]
        by_cases h4 : f2 = 0
        · have c0 : (f2 != 0) = false := by rw [h4]; rfl
          obtain ⟨g1, g2⟩ := p3 h3
          obtain ⟨g3, g4⟩ := p6 h4
          have v1 := val_of g1 g2
          have v2 := val_of g3 g4
          rw [c0, disc_val N v1, rdisc_red N v1]
          simp only [Option.bind_some, cond_false]
          rw [disc_val N v2, rdisc_red N v2]
          simp only [Option.bind_some]
          by_cases h5 : b1 * b1 - 4 * a1 * c1 = b2 * b2 - 4 * a2 * c2
          · have c5 : (b1 * b1 - 4 * a1 * c1 != b2 * b2 - 4 * a2 * c2) = false := by rw [h5]; simp
            rw [c5]
            simp only [cond_false]
            rw [← h5] at v2
            obtain ⟨r1, r2, r3, q1, q2, _⟩ := reduced_told hN v1
            obtain ⟨s1, s2, s3, q3, q4, _⟩ := reduced_told hN v2
            rw [p1] at q1
            rw [p4] at q3
            simp only [Option.some.injEq, Prod.mk.injEq] at q1 q3
            obtain ⟨u1, u2, u3, _⟩ := q1
            obtain ⟨w1, w2, w3, _⟩ := q3
            subst u1; subst u2; subst u3; subst w1; subst w2; subst w3
            obtain ⟨a, b, c, m1, m2⟩ := product_cl (N := N) (by omega) v1.dn v1.d.2 q2 q4
            obtain ⟨a', b', c', m3, m4⟩ := rproduct_cl hN v1.dn v1.d.2 q2 q4
            obtain ⟨n1, n2, n3⟩ := m2.same v1.dn m4 (Mod.Hm.refl _ _ _)
            rw [m1, m3, n1, n2, n3]
            exact ⟨a', b', c', 0, rfl, rfl⟩
          · have c5 : (b1 * b1 - 4 * a1 * c1 != b2 * b2 - 4 * a2 * c2) = true := bne_iff_ne.mpr h5
            rw [c5]
            exact ⟨0, 0, 0, 100, rfl, rfl⟩
        · have c0 : (f2 != 0) = true := bne_iff_ne.mpr h4
          rw [c0]
          exact ⟨0, 0, 0, f2, rfl, rfl⟩
      · have c0 : (f1 != 0) = true := bne_iff_ne.mpr h3
        rw [c0]
        exact ⟨0, 0, 0, f1, rfl, rfl⟩
    · have c0 : (e2 != 0) = true := bne_iff_ne.mpr h2
      rw [c0]
      exact ⟨0, 0, 0, e2, rfl, rfl⟩
  · have c0 : (e1 != 0) = true := bne_iff_ne.mpr h1
    rw [c0]
    exact ⟨0, 0, 0, e1, rfl, rfl⟩

/-- A reduced form's opposite, the document's. -/
theorem opposite_told {N : Nat} (hN : 8589934600 < N) {d a b c : Int} (h : Red d a b c) (hd : d < 0) (hd1 : -4294967296 ≤ d) : ∃ x y z, parquetref10_opposite.f N a b c = some (x, y, z) ∧ RedC d (La d a (-b)) x y z ∧ ∃ p q r u, binary_Reduce.f N a (wi64 (0 - b)) c = some (x, y, z, p, q, r, u, 0) := by
  have v := h.over hd hd1
  obtain ⟨x, y, z, e2, r2, f2, p, q, r, u, e3⟩ := reduced_told hN v
  obtain ⟨a', b', c', p', q', r', s', e, k1, k2, _⟩ := reduce_model hN a (-b) c
  have hb := v.fine.inb.2.1
  have w : wi64 (0 - b) = -b := by rw [wi64_id (by omega) (by omega)]; omega
  rw [e3] at k1
  simp only [Option.some.injEq, Prod.mk.injEq] at k1
  obtain ⟨u1, u2, u3, u4, u5, u6, u7, u8⟩ := k1
  refine ⟨x, y, z, ?_, r2, p, q, r, u, by rw [w]; exact e3⟩
  unfold parquetref10_opposite.f
  rw [w, k2, ← u1, ← u2, ← u3]
  rfl

theorem inverse_same {N : Nat} (hN : 8589934600 < N) (a b c : Int) : ∃ x y z e, compose_Inverse.f N a b c = some (x, y, z, e) ∧ parquetref10_Inverse.f N a b c = some (x, y, z, e) := by
  obtain ⟨x1, y1, z1, f1, p1, p2, p3⟩ := primitive_same hN a b c
  unfold compose_Inverse.f parquetref10_Inverse.f
  rw [p1, p2]
  simp only [Option.bind_some]
  by_cases h3 : f1 = 0
  · have c0 : (f1 != 0) = false := by rw [h3]; rfl
    obtain ⟨g1, g2⟩ := p3 h3
    have v1 := val_of g1 g2
    obtain ⟨r1, r2, r3, q1, q2, _⟩ := reduced_told hN v1
    rw [p1] at q1
    simp only [Option.some.injEq, Prod.mk.injEq] at q1
    obtain ⟨u1, u2, u3, _⟩ := q1
    subst u1; subst u2; subst u3
    obtain ⟨x, y, z, o1, o2, p, q, r, u, o3⟩ := opposite_told hN q2.red v1.d.1 v1.d.2
    rw [c0, o1, o3]
    exact ⟨x, y, z, 0, rfl, rfl⟩
  · have c0 : (f1 != 0) = true := bne_iff_ne.mpr h3
    rw [c0]
    exact ⟨0, 0, 0, f1, rfl, rfl⟩

theorem wf_i64 {n : Int} (h : (Lit.int .i64 n).wf = true) : -9223372036854775808 ≤ n ∧ n < 9223372036854775808 := by
  simp [Lit.wf, IntKind.min, IntKind.max, IntKind.bits, IntKind.signed] at h
  omega

theorem ComposePairs (a1 b1 c1 a2 b2 c2 : Int) (w1 : (Lit.int .i64 a1).wf = true) (w2 : (Lit.int .i64 b1).wf = true) (w3 : (Lit.int .i64 c1).wf = true) (w4 : (Lit.int .i64 a2).wf = true) (w5 : (Lit.int .i64 b2).wf = true) (w6 : (Lit.int .i64 c2).wf = true) : ∃ N, parquetlaw10_ComposePairs.f N a1 b1 c1 a2 b2 c2 = some true := by
  refine ⟨8589934700, ?_⟩
  have hN : 8589934600 < 8589934700 := by decide
  have hw := wakes_true
  generalize 8589934700 = N at *
  obtain ⟨x, y, z, e, h1, h2⟩ := compose_same hN a1 b1 c1 a2 b2 c2
  obtain ⟨x', y', z', e', h3, h4⟩ := inverse_same hN a1 b1 c1
  unfold parquetlaw10_ComposePairs.f
  rw [h1, h2]
  simp only [Option.bind_some]
  rw [h3, h4]
  simp only [Option.bind_some, beq_self_eq_true, Bool.and_true, cond_true]
  rw [hw]
  rfl

/-- The document's loop of powers. -/
theorem rpower_loop {N : Nat} (hN : 8589934600 < N) {R : Type} {d : Int} (hd : Dn d) (hd1 : -4294967296 ≤ d) (ho : Id d Oo) (x10 x11 x12 : Int) (k0 : Int → Int → Int → Int → Int → Int → Option R) : ∀ (j n k : Nat) (G S : E → Prop) (ga gb gc sa sb sc : Int), k < 2 ^ j → j < n → k < 18446744073709551616 → RedC d G ga gb gc → RedC d S sa sb sc →
    ∃ a b c, RedC d (Pr d S (Pw d G k)) a b c ∧ parquetref10_Power.l9 N n (k : Int) x10 x11 x12 ga gb gc sa sb sc k0 = k0 x10 x11 x12 a b c := by
  intro j
  induction j with
  | zero =>
    intro n k G S ga gb gc sa sb sc hk hn _ hG hS
    obtain ⟨n', rfl⟩ : ∃ n', n = n' + 1 := ⟨n - 1, by omega⟩
    have hk0 : k = 0 := by simpa using hk
    subst hk0
    exact ⟨sa, sb, sc, hS.turn hd ((hS.id hd).right hd), by rw [parquetref10_Power.l9]; rfl⟩
  | succ j ih =>
    intro n k G S ga gb gc sa sb sc hk hn h64 hG hS
    obtain ⟨n', rfl⟩ : ∃ n', n = n' + 1 := ⟨n - 1, by omega⟩
    by_cases hk0 : k = 0
    · subst hk0
      exact ⟨sa, sb, sc, hS.turn hd ((hS.id hd).right hd), by rw [parquetref10_Power.l9]; rfl⟩
    · have c0 : decide ((k : Int) > 0) = true := decide_eq_true (by omega)
      have hb : Int.tmod (k : Int) 2 = ((k % 2 : Nat) : Int) := by rw [tmod_nn (by omega)]; omega
      have hh : wu64 (Int.tdiv (k : Int) 2) = ((k / 2 : Nat) : Int) := by rw [tdiv_nn (by omega), wu64_id (by omega) (by omega)]; omega
      have hp : 2 ^ (j + 1) = 2 * 2 ^ j := by rw [Nat.pow_succ]; omega
      obtain ⟨g1, g2, g3, eg, rg⟩ := rproduct_cl hN hd hd1 hG hG
      have tw := Pw.two hd G (k / 2)
      rw [parquetref10_Power.l9, c0, hb, hh]
      simp only [cond_true]
      by_cases ho2 : k % 2 = 1
      · have c1 : (((k % 2 : Nat) : Int) == 1) = true := by rw [ho2]; rfl
        obtain ⟨s1, s2, s3, es, rs⟩ := rproduct_cl hN hd hd1 hS hG
        rw [c1]
        simp only [cond_true]
        rw [es]
        simp only [Option.bind_some]
        rw [eg]
        simp only [Option.bind_some]
        obtain ⟨a, b, c, r, e⟩ := ih n' (k / 2) (Pr d G G) (Pr d S G) g1 g2 g3 s1 s2 s3 (by omega) (by omega) (by omega) rg rs
        refine ⟨a, b, c, r.turn hd ?_, e⟩
        have hk2 : k = 2 * (k / 2) + 1 := by omega
        have h1 : Cl d (Pr d (Pr d S G) (Pw d (Pr d G G) (k / 2))) (Pr d S (Pr d G (Pw d G (2 * (k / 2))))) :=
          (Mod.Hm.prod hd.m (Mod.Hm.refl _ _ _) tw).trans hd.m (Mod.Hm.assoc S G _)
        have h2 : Cl d (Pr d S (Pr d G (Pw d G (2 * (k / 2))))) (Pr d S (Pw d G k)) := by
          have := Pw.front hd ho (hG.id hd) (2 * (k / 2))
          rw [← hk2] at this
          exact Mod.Hm.prod hd.m (Mod.Hm.refl _ _ _) this
        exact (h1.trans hd.m h2).symm
      · have c1 : (((k % 2 : Nat) : Int) == 1) = false := beq_eq_false_iff_ne.mpr (by omega)
        rw [c1]
        simp only [cond_false]
        rw [eg]
        simp only [Option.bind_some]
        obtain ⟨a, b, c, r, e⟩ := ih n' (k / 2) (Pr d G G) S g1 g2 g3 sa sb sc (by omega) (by omega) (by omega) rg hS
        refine ⟨a, b, c, r.turn hd ?_, e⟩
        have hk2 : 2 * (k / 2) = k := by omega
        rw [hk2] at tw
        exact (Mod.Hm.prod hd.m (Mod.Hm.refl (sd d) (md d) S) tw).symm

theorem power_same {N : Nat} (hN : 8589934600 < N) (a b c : Int) {n : Int} (n0 : -9223372036854775808 ≤ n) (n1 : n < 9223372036854775808) : ∃ x y z e, compose_Power.f N a b c n = some (x, y, z, e) ∧ parquetref10_Power.f N a b c n = some (x, y, z, e) := by
  obtain ⟨x1, y1, z1, f1, p1, p2, p3⟩ := primitive_same hN a b c
  by_cases h3 : f1 = 0
  · have c0 : (f1 != 0) = false := by rw [h3]; rfl
    obtain ⟨g1, g2⟩ := p3 h3
    have v1 := val_of g1 g2
    have dn := v1.dn
    obtain ⟨hd, hd1⟩ := v1.d
    have hdisc := rdisc_red N v1
    have d4 := v1.d4
    generalize b * b - 4 * a * c = d at *
    obtain ⟨r1, r2, r3, q1, q2, _⟩ := reduced_told hN v1
    rw [p1] at q1
    simp only [Option.some.injEq, Prod.mk.injEq] at q1
    obtain ⟨u1, u2, u3, _⟩ := q1
    subst u1; subst u2; subst u3
    obtain ⟨ob, oc, eo, ro⟩ := one_told N hd hd1 d4
    have ho : Id d Oo := ro.id dn
    have eo' : parquetref10_One.f N d = some (1, ob, oc, 0) := by
      obtain ⟨w1, w2, w3, w4, o1, o2, _⟩ := one_model N d
      rw [eo] at o1
      simp only [Option.some.injEq, Prod.mk.injEq] at o1
      obtain ⟨t1, t2, t3, t4⟩ := o1
      rw [o2, ← t1, ← t2, ← t3, ← t4]
    obtain ⟨ix, iy, iz, o1, o2, _⟩ := opposite_told hN q2.red hd hd1
    have hX : Cl d (Pr d (La d a b) (La d ix iy)) Oo :=
      (Mod.Hm.prod dn.m (Mod.Hm.refl _ _ _) o2.cl.symm).trans dn.m (over_cl q2.red dn hd1 q2.cl)
    have iX : Id d (La d ix iy) := o2.red.of.one dn
    obtain ⟨x, y, z, e1, e2⟩ := power_told hN v1 hX iX n0 n1
    refine ⟨x, y, z, 0, e1, ?_⟩
    unfold parquetref10_Power.f
    rw [p2]
    simp only [Option.bind_some, c0, cond_false]
    by_cases hn : n < 0
    · have ek : wu64 (0 - wu64 n) = (((-n).toNat : Nat) : Int) := by rw [wu64_mod, wu64_mod]; omega
      rw [decide_eq_true hn]
      simp only [cond_true]
      rw [o1]
      simp only [Option.bind_some]
      rw [hdisc]
      simp only [Option.bind_some]
      rw [eo', ek]
      simp only [Option.bind_some]
      obtain ⟨a', b', c', k1, k2⟩ := rpower_loop hN dn hd1 ho 0 0 0 (fun y28 y29 y30 y31 y32 y33 => some (y31, y32, y33, (0 : Int))) 64 N (-n).toNat (La d ix iy) Oo ix iy iz 1 ob oc (by omega) (by omega) (by omega) ⟨o2.red, Mod.Hm.refl _ _ _⟩ ro
      rw [k2]
      have hz : zp d (La d a b) (La d ix iy) n = Pw d (La d ix iy) (-n).toNat := if_neg (by omega)
      rw [hz] at e2
      obtain ⟨m1, m2, m3⟩ := e2.same dn (k1.turn dn (Pw.id dn ho _ _).symm) (Mod.Hm.refl _ _ _)
      rw [m1, m2, m3]
    · have ek : wu64 n = ((n.toNat : Nat) : Int) := by rw [wu64_id (by omega) (by omega)]; omega
      rw [decide_eq_false hn]
      simp only [cond_false]
      rw [hdisc]
      simp only [Option.bind_some]
      rw [eo', ek]
      simp only [Option.bind_some]
      obtain ⟨a', b', c', k1, k2⟩ := rpower_loop hN dn hd1 ho 0 0 0 (fun y36 y37 y38 y39 y40 y41 => some (y39, y40, y41, (0 : Int))) 64 N n.toNat (La d a b) Oo _ _ _ 1 ob oc (by omega) (by omega) (by omega) q2 ro
      rw [k2]
      have hz : zp d (La d a b) (La d ix iy) n = Pw d (La d a b) n.toNat := if_pos (by omega)
      rw [hz] at e2
      obtain ⟨m1, m2, m3⟩ := e2.same dn (k1.turn dn (Pw.id dn ho _ _).symm) (Mod.Hm.refl _ _ _)
      rw [m1, m2, m3]
  · have c0 : (f1 != 0) = true := bne_iff_ne.mpr h3
    refine ⟨0, 0, 0, f1, ?_, ?_⟩
    · unfold compose_Power.f compose_Power.s1000001
      rw [p1]
      simp only [Option.bind_some, c0, cond_true]
    · unfold parquetref10_Power.f
      rw [p2]
      simp only [Option.bind_some, c0, cond_true]

theorem ComposePowers (a b c n : Int) (w1 : (Lit.int .i64 a).wf = true) (w2 : (Lit.int .i64 b).wf = true) (w3 : (Lit.int .i64 c).wf = true) (w4 : (Lit.int .i64 n).wf = true) : ∃ N, parquetlaw10_ComposePowers.f N a b c n = some true := by
  refine ⟨8589934700, ?_⟩
  have hN : 8589934600 < 8589934700 := by decide
  have hw := wakes_true
  generalize 8589934700 = N at *
  obtain ⟨n0, n1⟩ := wf_i64 w4
  obtain ⟨x, y, z, e, h1, h2⟩ := power_same hN a b c n0 n1
  unfold parquetlaw10_ComposePowers.f
  rw [h1, h2]
  simp only [Option.bind_some, beq_self_eq_true, Bool.and_true, cond_true]
  rw [hw]
  rfl

end Go.Proofs.YtbnoablfajmaeaaGreat.Pure
