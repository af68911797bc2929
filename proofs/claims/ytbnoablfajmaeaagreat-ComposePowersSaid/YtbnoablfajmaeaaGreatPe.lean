-- Plain laws of the row law10: classes are a group.
import Derived.Test.YtbnoablfajmaeaaGreatPd
namespace Go.Proofs.YtbnoablfajmaeaaGreat.Pure
open Go Go.Proofs.YtbnoablfajmaeaaGreat.Ev
open Go.Proofs.YtbnoablfajmaeaaGreat.NatL (ab ab_cases ab_nonneg ab_of ab_zero GT gcdI gcdI_nonneg gcdI_left gcdI_right tmod_nn tdiv_nn tA tB)
open Go.Proofs.YtbnoablfajmaeaaGreat.Mod (Fo Hm PM E ml ad sm ze)
set_option linter.unusedVariables false
set_option linter.unusedSimpArgs false

/-- All numbers: the lattice of the class One. -/
def Oo : E → Prop := Fo 1 0
theorem Oo.all (z : E) : Oo z := by unfold Oo Fo; exact Int.one_dvd _
theorem oo_one (t : Int) (z : E) : Fo 1 t z ↔ Oo z := ⟨fun _ => Oo.all z, fun _ => by unfold Fo; exact Int.one_dvd _⟩

/-- A discriminant below 0. -/
structure Dn (d : Int) : Prop where
  neg : d < 0
  m : sd d * sd d + 4 * md d < 0
theorem Dn.of {d a b c : Int} (h : Of d a b c) (hd : d < 0) : Dn d := ⟨hd, by have := h.t.2.2.1; omega⟩

theorem Of.one {d a b c : Int} (h : Of d a b c) (hd : Dn d) : Cl d (Pr d Oo (La d a b)) (La d a b) := by
  obtain ⟨t1, t2, t3, t4⟩ := h.t
  unfold La
  generalize (b - sd d) / 2 = t at *
  refine Mod.Hm.scaled (k := ⟨1, 0⟩) Mod.one_ne (fun z => ?_)
  have k := Mod.comp (s := sd d) (m := md d) (e := 1) (v1 := 1) (v2 := a) (t1 := 0) (t2 := t) (t := t) (s' := t + sd d) (n4 := md d) (c1 := -md d) (x := 1) (y := 0) (z := 0) (p := 1) (q := 0) (r := 0) (by decide) (by omega) (by omega) (by omega) (Int.one_dvd _) ⟨0, by omega⟩ ⟨-c, by
    have e : (t + sd d) * t = t * t + sd d * t := by grind
    have e2 : 1 * a * -c = -(a * c) := by grind
    omega⟩ (by omega) (by omega) z
  rw [Int.one_mul, Int.one_mul] at k
  exact k

/-- A form and the one turned over make the class One. -/
theorem Of.inv {d a b c : Int} (h : Of d a b c) (hd : Dn d) (ha : a ≠ 0) (hp : Prim a b c) : Cl d (Pr d (La d a b) (La d a (-b))) Oo := by
  obtain ⟨t1, t2, t3, t4⟩ := h.t
  obtain ⟨p, q, r, hp⟩ := hp
  unfold La
  have e : (-b - sd d) / 2 = -((b - sd d) / 2) - sd d := by omega
  rw [e]
  rw [t1] at hp
  generalize (b - sd d) / 2 = t at *
  refine Mod.Hm.scaled (k := ⟨a, 0⟩) (fun h => ha (by have := congrArg E.re h; simpa [ze] using this)) (fun z => ?_)
  have k := Mod.comp (s := sd d) (m := md d) (e := a) (v1 := 1) (v2 := 1) (t1 := t) (t2 := -t - sd d) (t := 0) (s' := 0) (n4 := -c) (c1 := c) (x := 1) (y := 0) (z := 0) (p := p) (q := q) (r := r) ha (by omega) (by
    have e1 : t * (-t - sd d) = -(t * t + sd d * t) := by grind
    have e2 : a * -c = -(a * c) := by grind
    omega) (by have e3 : a * 1 * c = a * c := by grind
               omega) (Int.one_dvd _) (Int.one_dvd _) (by have : (1 : Int) * 1 = 1 := by decide
                                                          rw [this]; exact Int.one_dvd _) (by omega) (by rw [Int.mul_one]; exact hp) z
  rw [Int.mul_one] at k
  exact k

/-- Lattices that have an opposite. -/
def Un (d : Int) (M : E → Prop) : Prop := ∃ X, Cl d (Pr d M X) Oo

theorem Un.cl {d : Int} (hd : Dn d) {M L : E → Prop} (h : Un d M) (k : Cl d M L) : Un d L := by
  obtain ⟨X, hX⟩ := h
  exact ⟨X, (k.symm.left X).trans hd.m hX⟩
theorem oo_oo {d a b c : Int} (h : Of d a b c) (hd : Dn d) : Cl d (Pr d Oo Oo) Oo := by
  obtain ⟨t1, t2, t3, t4⟩ := h.t
  have h1 : Of d 1 (sd d) (-md d) := ⟨by omega⟩
  have := h1.one hd
  have e : La d 1 (sd d) = Oo := by unfold La Oo; have : (sd d - sd d) / 2 = 0 := by omega
                                    rw [this]
  rw [e] at this
  exact this
/-- Two pairs, the factors changed about. -/
theorem four {d : Int} (hd : Dn d) (A B C D : E → Prop) : Cl d (Pr d (Pr d A B) (Pr d C D)) (Pr d (Pr d A C) (Pr d B D)) := by
  have h1 := Mod.Hm.assoc (s := sd d) (m := md d) A B (Pr d C D)
  have h2 : Cl d (Pr d B (Pr d C D)) (Pr d C (Pr d B D)) :=
    (Mod.Hm.assoc (s := sd d) (m := md d) B C D).symm.trans hd.m (((Mod.Hm.comm B C).left D).trans hd.m (Mod.Hm.assoc C B D))
  have h3 := Mod.Hm.prod hd.m (Mod.Hm.refl (sd d) (md d) A) h2
  exact h1.trans hd.m (h3.trans hd.m (Mod.Hm.assoc A C (Pr d B D)).symm)
theorem Un.prod {d : Int} (hd : Dn d) (ho : Cl d (Pr d Oo Oo) Oo) {M L : E → Prop} (h : Un d M) (k : Un d L) : Un d (Pr d M L) := by
  obtain ⟨X, hX⟩ := h
  obtain ⟨Y, hY⟩ := k
  exact ⟨Pr d X Y, (four hd M L X Y).trans hd.m ((Mod.Hm.prod hd.m hX hY).trans hd.m ho)⟩

theorem bez : ∀ (n : Nat) (a b : Int), 0 ≤ a → 0 ≤ b → b < n → ∃ x y, a * x + b * y = gcdI a b := by
  intro n
  induction n with
  | zero => intro a b _ _ h; omega
  | succ n ih =>
    intro a b a0 b0 h
    by_cases hb : b = 0
    · subst hb
      exact ⟨1, 0, by rw [NatL.gcd_zero a0]; omega⟩
    · have d1 := Int.mul_ediv_add_emod a b
      have d2 := Int.emod_nonneg a hb
      have d3 := Int.emod_lt_of_pos a (show 0 < b by omega)
      obtain ⟨x, y, hxy⟩ := ih b (a % b) b0 d2 (by omega)
      refine ⟨y, x - a / b * y, ?_⟩
      rw [← NatL.gcd_step a0 (by omega), ← hxy]
      have : a % b = a - b * (a / b) := by omega
      rw [this]; grind
theorem bezout (a b : Int) : ∃ x y, a * x + b * y = gcdI a b := by
  obtain ⟨x, y, h⟩ := bez ((ab b).toNat + 1) (ab a) (ab b) (ab_nonneg a) (ab_nonneg b) (by have := ab_nonneg b; omega)
  rw [NatL.gcdI_ab] at h
  have ea : ∃ s, ab a = a * s := by
    rcases ab_cases a with ⟨c1, c2⟩ | ⟨c1, c2⟩
    · exact ⟨1, by omega⟩
    · exact ⟨-1, by omega⟩
  have eb : ∃ s, ab b = b * s := by
    rcases ab_cases b with ⟨c1, c2⟩ | ⟨c1, c2⟩
    · exact ⟨1, by omega⟩
    · exact ⟨-1, by omega⟩
  obtain ⟨s, hs⟩ := ea
  obtain ⟨t, ht⟩ := eb
  exact ⟨s * x, t * y, by rw [← h, hs, ht]; grind⟩

theorem prim_iff (a b c : Int) : Prim a b c ↔ gcdI (gcdI a b) c = 1 := by
  constructor
  · rintro ⟨p, q, r, h⟩
    have g1 := gcdI_left (gcdI a b) c
    have g2 := gcdI_right (gcdI a b) c
    have g3 := Int.dvd_trans g1 (gcdI_left a b)
    have g4 := Int.dvd_trans g1 (gcdI_right a b)
    have g0 := gcdI_nonneg (gcdI a b) c
    generalize gcdI (gcdI a b) c = g at *
    have : g ∣ 1 := by
      rw [← h]
      exact Int.dvd_add (Int.dvd_add (Int.dvd_trans g3 (Int.dvd_mul_left _ _)) (Int.dvd_trans g4 (Int.dvd_mul_left _ _))) (Int.dvd_trans g2 (Int.dvd_mul_left _ _))
    have := Int.le_of_dvd (by decide) this
    have hg : g ≠ 0 := fun h => by
      subst h
      have h1 := Int.zero_dvd.mp g3
      have h2 := Int.zero_dvd.mp g4
      have h3 := Int.zero_dvd.mp g2
      subst h1
      subst h2
      subst h3
      omega
    omega
  · intro h
    obtain ⟨x, y, h1⟩ := bezout a b
    obtain ⟨z, w, h2⟩ := bezout (gcdI a b) c
    exact ⟨x * z, y * z, w, by rw [← h, ← h2, ← h1]; grind⟩

/-- A lattice with an opposite is that of a primitive form. -/
theorem Of.prim {d a b c : Int} (h : Of d a b c) (hd : Dn d) (hu : Un d (La d a b)) : Prim a b c := by
  obtain ⟨t1, t2, t3, t4⟩ := h.t
  obtain ⟨X, k, l, hk, hl, hX⟩ := hu
  rw [prim_iff]
  have g1 := gcdI_left (gcdI a b) c
  have g2 := gcdI_right (gcdI a b) c
  have g3 := Int.dvd_trans g1 (gcdI_left a b)
  have g4 := Int.dvd_trans g1 (gcdI_right a b)
  have g0 := gcdI_nonneg (gcdI a b) c
  generalize gcdI (gcdI a b) c = g at *
  obtain ⟨a0, ha⟩ := g3
  obtain ⟨b0, hb⟩ := g4
  obtain ⟨c0, hc⟩ := g2
  unfold La at hX
  generalize (b - sd d) / 2 = t at *
  -- t + w times the lattice is within g times it
  have key : ∀ x, Fo a t x → ∃ y, Fo a t y ∧ ml (sd d) (md d) ⟨t, 1⟩ x = sm g y := by
    intro x hx
    obtain ⟨i, hx⟩ := hx.gen
    generalize x.im = j at *
    subst hx
    refine ⟨⟨-(j * c0) * a + t * (i * a0 + j * b0), i * a0 + j * b0⟩, ?_, ?_⟩
    · simp only [Fo]; exact ⟨-(j * c0), by grind⟩
    · refine Mod.E.ext' ?_ ?_
      · simp only [ml, sm]
        have e1 : t * (i * a + t * j) + md d * (1 * j) = i * a * t + j * (t * t + md d) := by grind
        have e2 : t * t + md d = t * (2 * t + sd d) - a * c := by rw [← t2]; grind
        rw [e1, e2, ← t1, hb]
        have e3 : g * (-(j * c0) * a + t * (i * a0 + j * b0)) = -(j * (g * c0) * a) + t * (i * (g * a0) + j * (g * b0)) := by grind
        rw [e3, ← hc, ← ha]; grind
      · simp only [ml, sm]
        have e1 : t * j + 1 * (i * a + t * j) + sd d * (1 * j) = i * a + j * (2 * t + sd d) := by grind
        rw [e1, ← t1, hb]
        have e3 : g * (i * a0 + j * b0) = i * (g * a0) + j * (g * b0) := by grind
        rw [e3, ← ha]
  have all : ∀ z, Pr d (Fo a t) X z → ∃ y, Pr d (Fo a t) X y ∧ ml (sd d) (md d) ⟨t, 1⟩ z = sm g y := by
    intro z hz
    induction hz with
    | zero => exact ⟨ze, Mod.Sp.zero, by rw [Mod.ml_ze]; exact Mod.E.ext' (by simp [sm, ze]) (by simp [sm, ze])⟩
    | mem h =>
      obtain ⟨u, v, hu, hv, rfl⟩ := h
      obtain ⟨y, hy, e⟩ := key u hu
      refine ⟨ml (sd d) (md d) y v, Mod.Sp.mem ⟨y, v, hy, hv, rfl⟩, ?_⟩
      rw [← Mod.ml_assoc, e, Mod.ml_comm, Mod.ml_sm, Mod.ml_comm _ _ v y]
    | add _ _ p q =>
      obtain ⟨y, hy, e⟩ := p
      obtain ⟨y', hy', e'⟩ := q
      exact ⟨ad y y', Mod.Sp.add hy hy', by rw [Mod.ml_ad, e, e']; exact Mod.E.ext' (by simp only [sm, ad]; grind) (by simp only [sm, ad]; grind)⟩
    | neg _ p =>
      obtain ⟨y, hy, e⟩ := p
      exact ⟨Mod.ng y, Mod.Sp.neg hy, by rw [Mod.ml_ng, e]; exact Mod.E.ext' (by simp only [sm, Mod.ng]; grind) (by simp only [sm, Mod.ng]; grind)⟩
  obtain ⟨z0, hz0, e0⟩ := (hX _).mpr ⟨⟨1, 0⟩, Oo.all _, rfl⟩
  obtain ⟨y, hy, e1⟩ := all z0 hz0
  obtain ⟨u, _, e2⟩ := (hX _).mp ⟨y, hy, rfl⟩
  -- l (t + w) = g l u
  have e3 : ml (sd d) (md d) l ⟨t, 1⟩ = ml (sd d) (md d) l (sm g u) := by
    have q1 : ml (sd d) (md d) l ⟨1, 0⟩ = l := Mod.E.ext' (by simp only [ml]; grind) (by simp only [ml]; grind)
    rw [q1] at e0
    rw [Mod.ml_sm, ← e2]
    have q2 : ml (sd d) (md d) l ⟨t, 1⟩ = ml (sd d) (md d) k (ml (sd d) (md d) ⟨t, 1⟩ z0) := by
      have : ml (sd d) (md d) l ⟨t, 1⟩ = ml (sd d) (md d) (ml (sd d) (md d) k z0) ⟨t, 1⟩ := by rw [← e0]
      rw [this, Mod.ml_assoc, Mod.ml_comm _ _ z0]
    rw [q2, e1, Mod.ml_sm]
  have e4 := Mod.ml_left hd.m hl e3
  have e5 := congrArg E.im e4
  simp only [sm] at e5
  have hdv : g ∣ 1 := ⟨_, e5⟩
  have := Int.le_of_dvd (by decide) hdv
  have hg : g ≠ 0 := fun h => by subst h; omega
  omega

/-- Reduced forms of one class are the same. -/
theorem Red.same {d a b c a' b' c' : Int} (hd : Dn d) (h : Red d a b c) (k : Red d a' b' c') (hc : Cl d (La d a b) (La d a' b')) : a = a' ∧ b = b' ∧ c = c' := by
  obtain ⟨t1, t2, t3, t4⟩ := h.of.t
  obtain ⟨u1, u2, _, _⟩ := k.of.t
  obtain ⟨p, q, r, u, hdet, e1, e2, e3⟩ := Mod.alike hd.m h.a0 k.a0 t2 u2 hc
  rw [← t1] at e2
  rw [← u1] at e1 e2 e3
  have he : Eqv a' b' c' a b c := ⟨p, q, r, u, hdet, e1, e2, e3⟩
  exact reduced_one k.a0 h.a0 k.inr k.sm h.inr h.sm he

end Go.Proofs.YtbnoablfajmaeaaGreat.Pure
