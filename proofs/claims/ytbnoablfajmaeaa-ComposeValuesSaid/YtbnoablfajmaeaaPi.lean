-- Plain laws of the row law10: values multiplied; ComposeValues.
import Derived.Test.YtbnoablfajmaeaaPh
import Derived.Test.YtbnoablfajmaeaaFi
namespace Go.Proofs.Ytbnoablfajmaeaa.Pure
open Go Go.Proofs.Ytbnoablfajmaeaa.Ev
open Go.Proofs.Ytbnoablfajmaeaa.NatL (ab ab_cases ab_nonneg gcdI gcdI_nonneg gcdI_left gcdI_right tmod_nn w_add_l w_add_r w_mul_l w_mul_r)
open Go.Proofs.Ytbnoablfajmaeaa.Mod (Fo Hm PM E Sc ml nm ze)
set_option linter.unusedVariables false
set_option linter.unusedSimpArgs false

theorem fo_w {s m a t c : Int} (hc : t * t + s * t - m = a * c) (z : E) {x : E} (h : Fo a t x) : Fo a t (ml s m z x) := by
  obtain ⟨k, hk⟩ := h
  refine ⟨(z.re - z.im * t) * k - z.im * x.im * c, ?_⟩
  have e : a * ((z.re - z.im * t) * k - z.im * x.im * c) = (z.re - z.im * t) * (a * k) - z.im * x.im * (a * c) := by grind
  rw [e, ← hk, ← hc]
  simp only [ml]; grind
theorem pm_w {s m a t c : Int} {L : E → Prop} (hc : t * t + s * t - m = a * c) (z : E) {x : E} (h : PM s m (Fo a t) L x) : PM s m (Fo a t) L (ml s m z x) := by
  induction h with
  | zero => rw [Mod.ml_ze]; exact Mod.Sp.zero
  | mem h =>
    obtain ⟨u, v, hu, hv, rfl⟩ := h
    rw [← Mod.ml_assoc]
    exact Mod.Sp.mem ⟨_, v, fo_w hc z hu, hv, rfl⟩
  | add _ _ p q => rw [Mod.ml_ad]; exact Mod.Sp.add p q
  | neg _ p => rw [Mod.ml_ng]; exact Mod.Sp.neg p

/-- Two forms united, in some way. -/
theorem unite {d a1 b1 c1 a2 b2 c2 : Int} (h1 : Of d a1 b1 c1) (h2 : Of d a2 b2 c2) (p1 : 0 < a1) (p2 : 0 < a2) (hp : Prim a1 b1 c1) :
    ∃ e A t C, 0 < e ∧ 0 < A ∧ a1 * a2 = e * e * A ∧ t * t + sd d * t - md d = A * C ∧ ∀ u, PM (sd d) (md d) (La d a1 b1) (La d a2 b2) u ↔ Sc (sd d) (md d) ⟨e, 0⟩ (Fo A t) u := by
  obtain ⟨q1, q2, _, _⟩ := h1.t
  obtain ⟨q5, q6, _, _⟩ := h2.t
  obtain ⟨pp, pq, pr, hpr⟩ := hp
  unfold La
  generalize (b1 - sd d) / 2 = t1 at *
  generalize (b2 - sd d) / 2 = t2 at *
  obtain ⟨y1, z1, hk⟩ := bezout a2 a1
  have kp : 0 < gcdI a2 a1 := NatL.gcdI_pos (by omega)
  have d2 := gcdI_right a2 a1
  have d1 := gcdI_left a2 a1
  generalize gcdI a2 a1 = k at *
  obtain ⟨x2, y2, he⟩ := bezout (t1 + t2 + sd d) k
  have ep : 0 < gcdI (t1 + t2 + sd d) k := NatL.gcdI_pos (by omega)
  have d3 := gcdI_left (t1 + t2 + sd d) k
  have d4 := gcdI_right (t1 + t2 + sd d) k
  generalize gcdI (t1 + t2 + sd d) k = e at *
  obtain ⟨s', hs⟩ := d3
  obtain ⟨v1, hv1⟩ := Int.dvd_trans d4 d2
  obtain ⟨v2, hv2⟩ := Int.dvd_trans d4 d1
  have pos : ∀ v a : Int, 0 < a → a = e * v → 0 < v := fun v a ha h => by
    rcases Int.lt_or_le 0 v with q | q
    · exact q
    · have := Int.mul_nonneg (Int.le_of_lt ep) (show 0 ≤ -v by omega)
      rw [Int.mul_neg] at this; omega
  have v1p := pos v1 a1 p1 hv1
  have v2p := pos v2 a2 p2 hv2
  have hun := fun u => united (s := sd d) (m := md d) (v1 := v1) (v2 := v2) (c1 := c1) (c2 := c2) (t1 := t1) (t2 := t2) (k := k) (y1 := y1) (z1 := z1) (e := e) (x2 := x2) (y2 := y2) (s' := s') (j := 0) (p := pp) (q := pq) (r := pr) (by omega) (by rw [← hv2, ← hv1]; exact hk) he hs (by rw [← hv1]; exact q2) (by rw [← hv2]; exact q6) (by rw [← hv1, ← q1]; exact hpr) u
  rw [← hv1, ← hv2] at hun
  generalize t2 + v2 * (y1 * (-y2 * (t2 - t1)) - x2 * c2 + v1 * 0) = t at *
  -- the lattice is one of the ring's
  have hC : v1 * v2 ∣ t * t + sd d * t - md d := by
    have m1 : PM (sd d) (md d) (Fo a1 t1) (Fo a2 t2) (ml (sd d) (md d) ⟨e, 0⟩ ⟨t, 1⟩) := (hun _).mpr ⟨_, Fo.t _ _, rfl⟩
    obtain ⟨w, hw, e1⟩ := (hun _).mp (pm_w q2 ⟨0, 1⟩ m1)
    have e2 : ml (sd d) (md d) ⟨0, 1⟩ ⟨t, 1⟩ = w := by
      have h3 : ml (sd d) (md d) ⟨e, 0⟩ (ml (sd d) (md d) ⟨0, 1⟩ ⟨t, 1⟩) = ml (sd d) (md d) ⟨e, 0⟩ w := by
        rw [← e1, ← Mod.ml_assoc, ← Mod.ml_assoc, Mod.ml_comm _ _ ⟨e, 0⟩ ⟨0, 1⟩]
      have r1 := congrArg E.re h3
      have r2 := congrArg E.im h3
      simp only [ml] at r1 r2
      refine Mod.E.ext' ?_ ?_
      · simp only [ml]
        have : e * (0 * t + md d * (1 * 1)) = e * w.re := by
          have a1' : md d * (0 * (0 * 1 + 1 * t + sd d * (1 * 1))) = 0 := by grind
          have a2' : md d * (0 * w.im) = 0 := by grind
          omega
        exact Int.eq_of_mul_eq_mul_left (by omega) this
      · simp only [ml]
        have : e * (0 * 1 + 1 * t + sd d * (1 * 1)) = e * w.im := by
          have a1' : sd d * (0 * (0 * 1 + 1 * t + sd d * (1 * 1))) = 0 := by grind
          have a2' : sd d * (0 * w.im) = 0 := by grind
          have a3' : 0 * (0 * t + md d * (1 * 1)) = 0 := by grind
          omega
        exact Int.eq_of_mul_eq_mul_left (by omega) this
    rw [← e2] at hw
    obtain ⟨q, hq⟩ := hw
    simp only [ml] at hq
    exact ⟨-q, by rw [Int.mul_neg, ← hq]; grind⟩
  obtain ⟨C, hC⟩ := hC
  exact ⟨e, v1 * v2, t, C, ep, Int.mul_pos v1p v2p, by rw [hv1, hv2]; grind, hC, hun⟩

theorem ring3 (K a P b Q : Int) : K * (a * P * (b * Q)) = K * (a * b) * (P * Q) := by grind

/-- Values of two forms, multiplied, are values of the composed one. -/
theorem val_mul {d a1 b1 c1 a2 b2 c2 a b c : Int} (hd : Dn d) (h1 : Red d a1 b1 c1) (h2 : Red d a2 b2 c2) (h : RedC d (Pr d (La d a1 b1) (La d a2 b2)) a b c) (x y u v : Int) :
    ∃ X Y, val a b c X Y = val a1 b1 c1 x y * val a2 b2 c2 u v := by
  obtain ⟨e, A, t, C, ep, Ap, hA, hC, hun⟩ := unite h1.of h2.of h1.a0 h2.a0 h1.pr
  obtain ⟨k, l, hk, hl, hkl⟩ := h.cl
  obtain ⟨q1, q2, _, _⟩ := h1.of.t
  obtain ⟨q3, q4, _, _⟩ := h2.of.t
  obtain ⟨q5, q6, _, _⟩ := h.red.of.t
  unfold La at hun hkl
  generalize (b1 - sd d) / 2 = t1 at *
  generalize (b2 - sd d) / 2 = t2 at *
  generalize (b - sd d) / 2 = t3 at *
  have ne : (⟨e, 0⟩ : E) ≠ ze := fun h => by have := congrArg E.re h; simp [ze] at this; omega
  have hkl' : ∀ z, Sc (sd d) (md d) (ml (sd d) (md d) k ⟨e, 0⟩) (Fo A t) z ↔ Sc (sd d) (md d) l (Fo a t3) z := fun z => by
    rw [← hkl z, ← Mod.Sc.sc]
    exact Mod.Sc.congr (fun z => (hun z).symm)
  have hnm := (Mod.alike_kl hd.m Ap h.red.a0 hC q6 (Mod.ml_ne hd.m hk ne) hl hkl').1
  rw [Mod.nm_ml] at hnm
  have hne : nm (sd d) (md d) ⟨e, 0⟩ = e * e := by simp only [nm]; grind
  rw [hne] at hnm
  have hnm2 : nm (sd d) (md d) k * (a1 * a2) = nm (sd d) (md d) l * a := by rw [hA, ← hnm]; grind
  have m1 : Fo a1 t1 ⟨x * a1 + t1 * y, y⟩ := ⟨x, by simp only; grind⟩
  have m2 : Fo a2 t2 ⟨u * a2 + t2 * v, v⟩ := ⟨u, by simp only; grind⟩
  obtain ⟨g, hg, e1⟩ := (hkl _).mp ⟨_, Mod.Sp.mem ⟨_, _, m1, m2, rfl⟩, rfl⟩
  obtain ⟨X, hX⟩ := hg.gen
  have e2 := congrArg (nm (sd d) (md d)) e1
  rw [hX, Mod.nm_ml, Mod.nm_ml, Mod.nm_ml, Mod.nm_form q2, Mod.nm_form q4, Mod.nm_form q6, ← q1, ← q3, ← q5] at e2
  refine ⟨X, g.im, ?_⟩
  have lp : 0 < nm (sd d) (md d) l * a := Int.mul_pos (Mod.nm_pos hd.m hl) h.red.a0
  have e3 : nm (sd d) (md d) l * a * val a b c X g.im = nm (sd d) (md d) l * a * (val a1 b1 c1 x y * val a2 b2 c2 u v) := by
    have f1 : nm (sd d) (md d) l * a * val a b c X g.im = nm (sd d) (md d) l * (a * (a * X * X + b * X * g.im + c * g.im * g.im)) := by unfold val; grind
    rw [f1, ← e2, ← hnm2]
    exact ring3 ..
  exact Int.eq_of_mul_eq_mul_left (by omega) e3

theorem wf_i8 {n : Int} (h : (Lit.int .i8 n).wf = true) : -128 ≤ n ∧ n < 128 := by
  simp [Lit.wf, IntKind.min, IntKind.max, IntKind.bits, IntKind.signed] at h
  omega

theorem value_wi (N : Nat) (a b c x y : Int) : parquetlaw10_value.f N a b c (wi64 x) (wi64 y) = some (wi64 (val a b c x y)) := by
  unfold parquetlaw10_value.f val
  simp only [w_mul_l, w_mul_r, w_add_l, w_add_r]

theorem tmod4 {x : Int} : -3 ≤ Int.tmod x 4 ∧ Int.tmod x 4 ≤ 3 := by
  have := NatL.tmod_bd x 4 (by decide)
  omega

theorem value_small {N : Nat} {d a b c x y : Int} (h : Red d a b c) (hd : d < 0) (hd1 : -4294967296 ≤ d) : parquetlaw10_value.f N a b c (wi64 (Int.tmod x 4)) (wi64 (Int.tmod y 4)) = some (val a b c (Int.tmod x 4) (Int.tmod y 4)) := by
  rw [value_wi]
  obtain ⟨f1, f2, f3, _⟩ := (small_of h.of h.a0 h.inr h.sm hd1).resolve_right (fun q => q hd)
  obtain ⟨r1, r2⟩ := h.inr
  have a0 := h.a0
  obtain ⟨x0, x1⟩ := tmod4 (x := x)
  obtain ⟨y0, y1⟩ := tmod4 (x := y)
  generalize Int.tmod x 4 = u at *
  generalize Int.tmod y 4 = v at *
  have m1 := mul_bound (x := a) (X := 1073741824) (y := u) (Y := 3) (by omega) (by omega) (by omega) (by omega)
  have m2 := mul_bound (x := b) (X := 1073741824) (y := u) (Y := 3) (by omega) (by omega) (by omega) (by omega)
  have m3 := mul_bound (x := c) (X := 1073741824) (y := v) (Y := 3) (by omega) (by omega) (by omega) (by omega)
  have k1 : (1073741824 : Int) * 3 = 3221225472 := by decide
  have m4 := mul_bound (x := a * u) (X := 3221225472) (y := u) (Y := 3) (by omega) (by omega) (by omega) (by omega)
  have m5 := mul_bound (x := b * u) (X := 3221225472) (y := v) (Y := 3) (by omega) (by omega) (by omega) (by omega)
  have m6 := mul_bound (x := c * v) (X := 3221225472) (y := v) (Y := 3) (by omega) (by omega) (by omega) (by omega)
  have k2 : (3221225472 : Int) * 3 = 9663676416 := by decide
  rw [wi64_id]
  · unfold val; omega
  · unfold val; omega

theorem ComposeValues (m i j x y u v : Int) (w1 : (Lit.int .u32 m).wf = true) (w2 : (Lit.int .u16 i).wf = true) (w3 : (Lit.int .u16 j).wf = true) (w4 : (Lit.int .i8 x).wf = true) (w5 : (Lit.int .i8 y).wf = true) (w6 : (Lit.int .i8 u).wf = true) (w7 : (Lit.int .i8 v).wf = true) : ∃ N, parquetlaw10_ComposeValues.f N m i j x y u v = some true := by
  refine ⟨8589934700, ?_⟩
  have hN : 8589934600 < 8589934700 := by decide
  have hw := wakes_true
  generalize 8589934700 = N at *
  obtain ⟨m0, m1⟩ := wf_u32 w1
  obtain ⟨i0, i1⟩ := wf_u16 w2
  obtain ⟨j0, j1⟩ := wf_u16 w3
  obtain ⟨fa, fb, fc, ef, vf⟩ := within_told (N := N) (by omega) m0 m1 i0 i1
  obtain ⟨ga, gb, gc, eg, vg⟩ := within_told (N := N) (by omega) m0 m1 j0 j1
  have hd := vf.dn
  obtain ⟨hdn, hd1⟩ := vf.d
  generalize D m = d at *
  obtain ⟨a1, b1, c1, _, r1, _, _, _, _, _, e1⟩ := reduced_told hN vf
  obtain ⟨a2, b2, c2, _, r2, _, _, _, _, _, e2⟩ := reduced_told hN vg
  obtain ⟨a, b, c, e3, r3⟩ := compose_told hN (r1.red.val hdn hd1) (r2.red.val hdn hd1)
  have v3 := r3.red.val hdn hd1
  have c00 : ((0 : Int) != 0) = false := rfl
  have c01 : ((0 : Int) == 0) = true := rfl
  have k1 := value_small (N := N) (x := x) (y := y) r1.red hdn hd1
  have k2 := value_small (N := N) (x := u) (y := v) r2.red hdn hd1
  obtain ⟨X, Y, hXY⟩ := val_mul hd r1.red r2.red r3 (Int.tmod x 4) (Int.tmod y 4) (Int.tmod u 4) (Int.tmod v 4)
  generalize val a1 b1 c1 (Int.tmod x 4) (Int.tmod y 4) = p at *
  generalize val a2 b2 c2 (Int.tmod u 4) (Int.tmod v 4) = q at *
  unfold parquetlaw10_ComposeValues.f
  rw [ef]
  simp only [Option.bind_some]
  rw [e1]
  simp only [Option.bind_some]
  rw [eg]
  simp only [Option.bind_some]
  rw [e2]
  simp only [Option.bind_some]
  rw [e3]
  simp only [Option.bind_some]
  rw [k1]
  simp only [Option.bind_some]
  rw [k2]
  simp only [Option.bind_some, c00, cond_false]
  by_cases h1 : p < 1
  · rw [decide_eq_true h1, hw]; rfl
  · rw [decide_eq_false h1]
    simp only [cond_false]
    by_cases h2 : q < 1
    · rw [decide_eq_true h2, hw]; rfl
    · rw [decide_eq_false h2]
      have cq : (!(q == 0)) = true := by
        have : (q == 0) = false := beq_eq_false_iff_ne.mpr (by omega)
        rw [this]; rfl
      have q0 : 0 ≤ 1073741824 / q := Int.ediv_nonneg (by decide) (by omega)
      have q1 : 1073741824 / q ≤ 1073741824 := Int.ediv_le_self q (show (0 : Int) ≤ 1073741824 by decide)
      have tq : wi64 (Int.tdiv 1073741824 q) = 1073741824 / q := by rw [Int.tdiv_eq_ediv_of_nonneg (by decide), wi64_id (by omega) (by omega)]
      rw [cq, tq]
      simp only [cond_false, cond_true]
      by_cases h3 : p > 1073741824 / q
      · rw [decide_eq_true h3, hw]; rfl
      · rw [decide_eq_false h3]
        simp only [cond_false]
        have hpq : p * q ≤ 1073741824 := by
          have s1 := Int.mul_ediv_add_emod 1073741824 q
          have s2 := Int.emod_nonneg 1073741824 (show q ≠ 0 by omega)
          have s3 := Int.mul_le_mul_of_nonneg_right (show p ≤ 1073741824 / q by omega) (show 0 ≤ q by omega)
          have s4 : 1073741824 / q * q = q * (1073741824 / q) := Int.mul_comm _ _
          omega
        have hpq1 : 1 ≤ p * q := by
          have := Int.mul_le_mul_of_nonneg_left (show 1 ≤ q by omega) (show 0 ≤ p by omega)
          omega
        have wpq : wi64 (p * q) = p * q := wi64_id (by omega) (by omega)
        rw [wpq]
        rcases represents_told hN v3.fine hpq1 hpq with ⟨x', y', h4, h5⟩ | ⟨h4, h5⟩
        · rw [h5]
          simp only [Option.bind_some, c01, cond_true]
          rw [value_wi, h4, wpq]
          simp only [Option.bind_some, beq_self_eq_true, cond_true]
          rw [hw]; rfl
        · exact absurd hXY (h4 X Y)

end Go.Proofs.Ytbnoablfajmaeaa.Pure
