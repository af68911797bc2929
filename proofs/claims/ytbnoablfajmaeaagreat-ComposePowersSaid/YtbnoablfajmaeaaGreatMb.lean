-- Plain laws of the row law10: the lattices of forms: composition, and proper equivalence.
import Derived.Test.YtbnoablfajmaeaaGreatMa
namespace Go.Proofs.YtbnoablfajmaeaaGreat.Mod
set_option linter.unusedVariables false
set_option linter.unusedSimpArgs false

/-- The lattice of a form a x x + b x y + c y y with b = 2 t + s: of a and of t + w. -/
def Fo (a t : Int) : E → Prop := fun z => a ∣ z.re - t * z.im

theorem Fo.zero (a t : Int) : Fo a t ze := by simp only [Fo, ze]; exact ⟨0, by omega⟩
theorem Fo.add {a t : Int} {x y : E} (hx : Fo a t x) (hy : Fo a t y) : Fo a t (ad x y) := by
  have := Int.dvd_add hx hy
  simp only [Fo, ad]
  have e : x.re + y.re - t * (x.im + y.im) = x.re - t * x.im + (y.re - t * y.im) := by grind
  rw [e]; exact this
theorem Fo.neg {a t : Int} {x : E} (hx : Fo a t x) : Fo a t (ng x) := by
  have := Int.dvd_neg.mpr hx
  simp only [Fo, ng]
  have e : -x.re - t * -x.im = -(x.re - t * x.im) := by grind
  rw [e]; exact this
theorem Fo.gen {a t : Int} {z : E} (h : Fo a t z) : ∃ k : Int, z = ⟨k * a + t * z.im, z.im⟩ := by
  obtain ⟨k, hk⟩ := h
  exact ⟨k, E.ext' (by simp only; have : a * k = k * a := Int.mul_comm _ _; omega) rfl⟩
theorem Fo.a (a t : Int) : Fo a t ⟨a, 0⟩ := by simp only [Fo]; exact ⟨1, by omega⟩
theorem Fo.t (a t : Int) : Fo a t ⟨t, 1⟩ := by simp only [Fo]; exact ⟨0, by omega⟩

theorem ring1 (k1 k2 i1 i2 e v1 v2 t s' d1 d2 d3 : Int) : k1 * k2 * v1 * (e * v2) + k1 * v1 * (t - v2 * d2) * i2 + k2 * v2 * (t - v1 * d1) * i1 + i1 * i2 * (s' * t + v1 * v2 * d3) - t * (k1 * v1 * i2 + k2 * v2 * i1 + s' * i1 * i2) = v1 * v2 * (k1 * k2 * e - k1 * i2 * d2 - k2 * i1 * d1 + i1 * i2 * d3) := by grind

/-- Two forms composed: what their lattices make. -/
theorem comp {s m e v1 v2 t1 t2 t s' n4 c1 x y z p q r : Int} (he : e ≠ 0)
    (hs : t1 + t2 + s = e * s') (hn : m + t1 * t2 = e * n4) (hc : t1 * t1 + s * t1 - m = e * v1 * c1)
    (h1 : v1 ∣ t - t1) (h2 : v2 ∣ t - t2) (h3 : v1 * v2 ∣ n4 - s' * t)
    (hb : x * (e * v1) + y * (e * v2) + z * (e * s') = e) (hp : p * (e * v1) + q * (2 * t1 + s) + r * c1 = 1) (u : E) :
    PM s m (Fo (e * v1) t1) (Fo (e * v2) t2) u ↔ Sc s m ⟨e, 0⟩ (Fo (v1 * v2) t) u := by
  -- what is made lies within
  have sub : ∀ u, PM s m (Fo (e * v1) t1) (Fo (e * v2) t2) u → ∃ w, Fo (v1 * v2) t w ∧ u = ⟨e * w.re, e * w.im⟩ := by
    intro u hu
    induction hu with
    | zero => exact ⟨ze, Fo.zero _ _, E.ext' (by simp [ze]) (by simp [ze])⟩
    | mem h =>
      obtain ⟨a, b, ha, hb', rfl⟩ := h
      obtain ⟨k1, e1⟩ := ha.gen
      obtain ⟨k2, e2⟩ := hb'.gen
      generalize a.im = i1 at *
      generalize b.im = i2 at *
      subst e1
      subst e2
      refine ⟨⟨k1 * k2 * v1 * (e * v2) + k1 * v1 * t2 * i2 + k2 * v2 * t1 * i1 + i1 * i2 * n4, k1 * v1 * i2 + k2 * v2 * i1 + s' * i1 * i2⟩, ?_, ?_⟩
      · simp only [Fo]
        obtain ⟨d1, hd1⟩ := h1
        obtain ⟨d2, hd2⟩ := h2
        obtain ⟨d3, hd3⟩ := h3
        refine ⟨k1 * k2 * e - k1 * i2 * d2 - k2 * i1 * d1 + i1 * i2 * d3, ?_⟩
        have q1 : t1 = t - v1 * d1 := by omega
        have q2 : t2 = t - v2 * d2 := by omega
        have q3 : n4 = s' * t + v1 * v2 * d3 := by omega
        rw [q1, q2, q3]
        exact ring1 ..
      · refine E.ext' ?_ ?_
        · simp only [ml]; grind
        · simp only [ml]; grind
    | add _ _ a b =>
      obtain ⟨w, hw, rfl⟩ := a
      obtain ⟨w', hw', rfl⟩ := b
      exact ⟨ad w w', hw.add hw', E.ext' (by simp only [ad]; grind) (by simp only [ad]; grind)⟩
    | neg _ a =>
      obtain ⟨w, hw, rfl⟩ := a
      exact ⟨ng w, hw.neg, E.ext' (by simp only [ng]; grind) (by simp only [ng]; grind)⟩
  have el : ∀ w : E, ml s m ⟨e, 0⟩ w = ⟨e * w.re, e * w.im⟩ := fun w => E.ext' (by simp only [ml]; grind) (by simp only [ml]; grind)
  constructor
  · intro hu
    obtain ⟨w, hw, rfl⟩ := sub u hu
    exact ⟨w, hw, (el w).symm⟩
  · rintro ⟨w, hw, rfl⟩
    rw [el]
    have g1 : PM s m (Fo (e * v1) t1) (Fo (e * v2) t2) ⟨e * v1 * (e * v2), 0⟩ := Sp.mem ⟨⟨e * v1, 0⟩, ⟨e * v2, 0⟩, Fo.a _ _, Fo.a _ _, E.ext' (by simp only [ml]; grind) (by simp only [ml]; grind)⟩
    have g2 : PM s m (Fo (e * v1) t1) (Fo (e * v2) t2) ⟨e * v1 * t2, e * v1⟩ := Sp.mem ⟨⟨e * v1, 0⟩, ⟨t2, 1⟩, Fo.a _ _, Fo.t _ _, E.ext' (by simp only [ml]; grind) (by simp only [ml]; grind)⟩
    have g3 : PM s m (Fo (e * v1) t1) (Fo (e * v2) t2) ⟨e * v2 * t1, e * v2⟩ := Sp.mem ⟨⟨t1, 1⟩, ⟨e * v2, 0⟩, Fo.t _ _, Fo.a _ _, E.ext' (by simp only [ml]; grind) (by simp only [ml]; grind)⟩
    have g4 : PM s m (Fo (e * v1) t1) (Fo (e * v2) t2) ⟨m + t1 * t2, t1 + t2 + s⟩ := Sp.mem ⟨⟨t1, 1⟩, ⟨t2, 1⟩, Fo.t _ _, Fo.t _ _, E.ext' (by simp only [ml]; grind) (by simp only [ml]; grind)⟩
    -- e v1 v2 is made
    have f1 : PM s m (Fo (e * v1) t1) (Fo (e * v2) t2) ⟨e * (v1 * v2), 0⟩ := by
      have a1 := Sp.smul g1 (p * v1 + q * s')
      have a2 := Sp.smul g3 (q * v1 + r * s')
      have a3 := Sp.smul g2 (-(q * v2))
      have a4 := Sp.smul g4 (-(r * v2))
      have := Sp.add (Sp.add a1 a2) (Sp.add a3 a4)
      refine (?_ : (⟨e * (v1 * v2), 0⟩ : E) = _) ▸ this
      refine E.ext' ?_ ?_
      · simp only [ad, sm]
        have k : e * (v1 * v2) = e * (v1 * v2) * (p * (e * v1) + q * (2 * t1 + s) + r * c1) := by rw [hp]; omega
        rw [k]
        have k2 : 2 * t1 + s = e * s' + (t1 - t2) := by omega
        rw [k2]
        have k3 : e * (v1 * v2) * (r * c1) = r * v2 * (e * v1 * c1) := by grind
        have k4 : e * (v1 * v2) * (p * (e * v1) + q * (e * s' + (t1 - t2)) + r * c1) = e * (v1 * v2) * (p * (e * v1) + q * (e * s' + (t1 - t2))) + r * v2 * (e * v1 * c1) := by grind
        rw [k4, ← hc]
        grind
      · simp only [ad, sm]; grind
    -- what has e as its second part
    obtain ⟨w0, hw0, e0⟩ := sub _ (Sp.add (Sp.add (Sp.smul g2 x) (Sp.smul g3 y)) (Sp.smul g4 z))
    have i0 : w0.im = 1 := by
      have := congrArg E.im e0
      simp only [ad, sm] at this
      rw [hs] at this
      have h5 : e * w0.im = e * 1 := by rw [← this]; omega
      exact Int.eq_of_mul_eq_mul_left he h5
    have f2 : PM s m (Fo (e * v1) t1) (Fo (e * v2) t2) ⟨e * w0.re, e * w0.im⟩ := by
      rw [← e0]; exact Sp.add (Sp.add (Sp.smul g2 x) (Sp.smul g3 y)) (Sp.smul g4 z)
    obtain ⟨k, hk⟩ := hw
    obtain ⟨k0, hk0⟩ := hw0
    rw [i0] at hk0
    have := Sp.add (Sp.smul f1 (k - w.im * k0)) (Sp.smul f2 w.im)
    refine (?_ : (⟨e * w.re, e * w.im⟩ : E) = _) ▸ this
    refine E.ext' ?_ ?_
    · simp only [ad, sm]
      have k5 : w.re = v1 * v2 * k + t * w.im := by omega
      have k6 : w0.re = v1 * v2 * k0 + t := by omega
      rw [k5, k6]; grind
    · simp only [ad, sm, i0]; grind

/-- A form under a turn: its lattice is the same up to a number. -/
theorem turned {s m a t c p q r u : Int} (hd : s * s + 4 * m < 0) (ha : a ≠ 0) (hc : t * t + s * t - m = a * c) (hdet : p * u - q * r = 1) :
    Hm s m (Fo a t) (Fo (a * p * p + (2 * t + s) * p * r + c * r * r) (a * p * q + (2 * t + s) * q * r + c * r * u + t)) := by
  have hk : cj s ⟨p * a + r * t, r⟩ ≠ ze := fun h => by
    have h1 := congrArg E.im h
    have h2 := congrArg E.re h
    simp only [cj, ze] at h1 h2
    have hr : r = 0 := by omega
    subst hr
    have : p * a = 0 := by omega
    rcases Int.mul_eq_zero.mp this with h3 | h3
    · subst h3; omega
    · exact ha h3
  have hl : (⟨a, 0⟩ : E) ≠ ze := fun h => ha (by have := congrArg E.re h; simpa [ze] using this)
  refine ⟨cj s ⟨p * a + r * t, r⟩, ⟨a, 0⟩, hk, hl, fun z => ?_⟩
  constructor
  · rintro ⟨x, hx, rfl⟩
    obtain ⟨k, hx⟩ := hx.gen
    generalize x.im = i at *
    subst hx
    -- k a + i (t + w) in the new numbers
    refine ⟨⟨(k * u - i * q) * (a * p * p + (2 * t + s) * p * r + c * r * r) + (i * p - k * r) * (a * p * q + (2 * t + s) * q * r + c * r * u + t), i * p - k * r⟩, ?_, ?_⟩
    · simp only [Fo]; exact ⟨k * u - i * q, by grind⟩
    · refine E.ext' ?_ ?_
      · simp only [ml, cj]; grind
      · simp only [ml, cj]; grind
  · rintro ⟨x, hx, rfl⟩
    obtain ⟨k, hx⟩ := hx.gen
    generalize x.im = i at *
    subst hx
    refine ⟨⟨(k * p + i * q) * a + (k * r + i * u) * t, k * r + i * u⟩, ?_, ?_⟩
    · simp only [Fo]; exact ⟨k * p + i * q, by grind⟩
    · refine E.ext' ?_ ?_
      · simp only [ml, cj]; grind
      · simp only [ml, cj]; grind

end Go.Proofs.YtbnoablfajmaeaaGreat.Mod
