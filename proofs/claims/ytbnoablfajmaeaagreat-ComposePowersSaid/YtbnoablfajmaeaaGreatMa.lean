-- Plain laws of the row law10: numbers x + y w of a quadratic ring, their lattices, and products of lattices.
import Derived.KernelRfl
namespace Go.Proofs.YtbnoablfajmaeaaGreat.Mod
set_option linter.unusedVariables false
set_option linter.unusedSimpArgs false

/-- x + y w, where w w = s w + m. -/
structure E where
  re : Int
  im : Int

theorem E.ext' {x y : E} (h1 : x.re = y.re) (h2 : x.im = y.im) : x = y := by cases x; cases y; simp_all

def ad (x y : E) : E := ⟨x.re + y.re, x.im + y.im⟩
def ng (x : E) : E := ⟨-x.re, -x.im⟩
def ze : E := ⟨0, 0⟩
def sm (n : Int) (x : E) : E := ⟨n * x.re, n * x.im⟩
def cj (s : Int) (x : E) : E := ⟨x.re + s * x.im, -x.im⟩
def ml (s m : Int) (x y : E) : E := ⟨x.re * y.re + m * (x.im * y.im), x.re * y.im + x.im * y.re + s * (x.im * y.im)⟩
def nm (s m : Int) (x : E) : Int := x.re * x.re + s * (x.re * x.im) - m * (x.im * x.im)

theorem ml_comm (s m : Int) (x y : E) : ml s m x y = ml s m y x := E.ext' (by simp only [ml]; grind) (by simp only [ml]; grind)
theorem ml_assoc (s m : Int) (x y z : E) : ml s m (ml s m x y) z = ml s m x (ml s m y z) := E.ext' (by simp only [ml]; grind) (by simp only [ml]; grind)
theorem ml_ad (s m : Int) (x y z : E) : ml s m x (ad y z) = ad (ml s m x y) (ml s m x z) := E.ext' (by simp only [ml, ad]; grind) (by simp only [ml, ad]; grind)
theorem ml_ng (s m : Int) (x y : E) : ml s m x (ng y) = ng (ml s m x y) := E.ext' (by simp only [ml, ng]; grind) (by simp only [ml, ng]; grind)
theorem ml_ze (s m : Int) (x : E) : ml s m x ze = ze := E.ext' (by simp only [ml, ze]; grind) (by simp only [ml, ze]; grind)
theorem ml_sm (s m n : Int) (x y : E) : ml s m x (sm n y) = sm n (ml s m x y) := E.ext' (by simp only [ml, sm]; grind) (by simp only [ml, sm]; grind)
theorem ml_cj (s m : Int) (x : E) : ml s m (cj s x) x = ⟨nm s m x, 0⟩ := E.ext' (by simp only [ml, cj, nm]; grind) (by simp only [ml, cj]; grind)
theorem nm_ml (s m : Int) (x y : E) : nm s m (ml s m x y) = nm s m x * nm s m y := by simp only [nm, ml]; grind

theorem sq_nn (x : Int) : 0 ≤ x * x := by
  rcases Int.le_total 0 x with h | h
  · exact Int.mul_nonneg h h
  · exact Int.mul_nonneg_of_nonpos_of_nonpos h h
theorem sq_ps {x : Int} (h : x ≠ 0) : 0 < x * x := by
  have := sq_nn x
  have : x * x ≠ 0 := fun e => by
    rcases Int.mul_eq_zero.mp e with e | e <;> exact h e
  omega

theorem nm_pos {s m : Int} (hd : s * s + 4 * m < 0) {x : E} (h : x ≠ ze) : 0 < nm s m x := by
  have e : 4 * nm s m x = (2 * x.re + s * x.im) * (2 * x.re + s * x.im) + -(s * s + 4 * m) * (x.im * x.im) := by simp only [nm]; grind
  have h1 := sq_nn (2 * x.re + s * x.im)
  by_cases hi : x.im = 0
  · have hr : x.re ≠ 0 := fun q => h (E.ext' q hi)
    have := sq_ps (x := 2 * x.re + s * x.im) (by rw [hi]; omega)
    rw [hi] at e this
    omega
  · have h2 := Int.mul_pos (show 0 < -(s * s + 4 * m) by omega) (sq_ps hi)
    omega
theorem nm_zero (s m : Int) : nm s m ze = 0 := by simp only [nm, ze]; grind
theorem ml_ne {s m : Int} (hd : s * s + 4 * m < 0) {x y : E} (hx : x ≠ ze) (hy : y ≠ ze) : ml s m x y ≠ ze := fun h => by
  have h1 := Int.mul_pos (nm_pos hd hx) (nm_pos hd hy)
  rw [← nm_ml, h, nm_zero] at h1
  omega
theorem ml_left {s m : Int} (hd : s * s + 4 * m < 0) {x y z : E} (hx : x ≠ ze) (h : ml s m x y = ml s m x z) : y = z := by
  have e : ml s m x (ad y (ng z)) = ze := by
    rw [ml_ad, ml_ng, h]
    exact E.ext' (by simp only [ad, ng, ze]; omega) (by simp only [ad, ng, ze]; omega)
  by_cases hw : ad y (ng z) = ze
  · have h1 := congrArg E.re hw
    have h2 := congrArg E.im hw
    simp only [ad, ng, ze] at h1 h2
    exact E.ext' (by omega) (by omega)
  · exact absurd e (ml_ne hd hx hw)

/-- What is made of the numbers of a set. -/
inductive Sp (S : E → Prop) : E → Prop
  | zero : Sp S ze
  | mem {x : E} : S x → Sp S x
  | add {x y : E} : Sp S x → Sp S y → Sp S (ad x y)
  | neg {x : E} : Sp S x → Sp S (ng x)

theorem sm_neg (n : Int) (x : E) : sm (-n) x = ng (sm n x) := E.ext' (by simp only [sm, ng]; grind) (by simp only [sm, ng]; grind)
theorem Sp.smul {S : E → Prop} {x : E} (h : Sp S x) (n : Int) : Sp S (sm n x) := by
  have nat : ∀ k : Nat, Sp S (sm (k : Int) x) := by
    intro k
    induction k with
    | zero =>
      have e : sm ((0 : Nat) : Int) x = ze := E.ext' (by simp [sm, ze]) (by simp [sm, ze])
      rw [e]; exact Sp.zero
    | succ k ih =>
      have e : sm ((k + 1 : Nat) : Int) x = ad (sm (k : Int) x) x := E.ext' (by simp only [sm, ad]; grind) (by simp only [sm, ad]; grind)
      rw [e]; exact Sp.add ih h
  rcases Int.le_total 0 n with h0 | h0
  · obtain ⟨k, rfl⟩ := Int.eq_ofNat_of_zero_le h0
    exact nat k
  · obtain ⟨k, hk⟩ := Int.eq_ofNat_of_zero_le (show 0 ≤ -n by omega)
    have e : n = -(k : Int) := by omega
    rw [e, sm_neg]
    exact Sp.neg (nat k)
theorem Sp.mono {S T : E → Prop} (h : ∀ x, S x → Sp T x) {x : E} (hx : Sp S x) : Sp T x := by
  induction hx with
  | zero => exact Sp.zero
  | mem hx => exact h _ hx
  | add _ _ a b => exact Sp.add a b
  | neg _ a => exact Sp.neg a

/-- The product of two lattices. -/
def PM (s m : Int) (M L : E → Prop) : E → Prop := Sp (fun z => ∃ x y, M x ∧ L y ∧ z = ml s m x y)

theorem PM.comm {s m : Int} {M L : E → Prop} {z : E} (h : PM s m M L z) : PM s m L M z :=
  Sp.mono (fun z ⟨x, y, hx, hy, e⟩ => Sp.mem ⟨y, x, hy, hx, by rw [e, ml_comm]⟩) h
theorem PM.mono {s m : Int} {M M' L L' : E → Prop} (h1 : ∀ x, M x → M' x) (h2 : ∀ x, L x → L' x) {z : E} (h : PM s m M L z) : PM s m M' L' z :=
  Sp.mono (fun z ⟨x, y, hx, hy, e⟩ => Sp.mem ⟨x, y, h1 x hx, h2 y hy, e⟩) h
theorem PM.left {s m : Int} {M L : E → Prop} {x : E} (hx : M x) : ∀ {y : E}, Sp L y → PM s m M L (ml s m x y) := by
  intro y hy
  induction hy with
  | zero => rw [ml_ze]; exact Sp.zero
  | mem hy => exact Sp.mem ⟨x, _, hx, hy, rfl⟩
  | add _ _ a b => rw [ml_ad]; exact Sp.add a b
  | neg _ a => rw [ml_ng]; exact Sp.neg a
theorem PM.assoc {s m : Int} {M L Q : E → Prop} {z : E} (h : PM s m (PM s m M L) Q z) : PM s m M (PM s m L Q) z := by
  refine Sp.mono (fun z ⟨x, y, hx, hy, e⟩ => ?_) h
  subst e
  have key : ∀ {x : E}, PM s m M L x → PM s m M (PM s m L Q) (ml s m x y) := by
    intro x hx
    induction hx with
    | zero => rw [ml_comm, ml_ze]; exact Sp.zero
    | mem hx =>
      obtain ⟨u, v, hu, hv, rfl⟩ := hx
      rw [ml_assoc]
      exact Sp.mem ⟨u, ml s m v y, hu, Sp.mem ⟨v, y, hv, hy, rfl⟩, rfl⟩
    | add _ _ a b => rw [ml_comm, ml_ad, ml_comm s m y, ml_comm s m y]; exact Sp.add a b
    | neg _ a => rw [ml_comm, ml_ng, ml_comm s m y]; exact Sp.neg a
  exact key hx
theorem PM.assoc' {s m : Int} {M L Q : E → Prop} {z : E} (h : PM s m M (PM s m L Q) z) : PM s m (PM s m M L) Q z := by
  have h1 := PM.comm h
  have h2 : PM s m (PM s m Q L) M z := h1.mono (fun x hx => PM.comm hx) (fun x hx => hx)
  have h3 := PM.comm (PM.assoc h2)
  exact h3.mono (fun x hx => PM.comm hx) (fun x hx => hx)

/-- A lattice times a number. -/
def Sc (s m : Int) (l : E) (M : E → Prop) : E → Prop := fun z => ∃ x, M x ∧ z = ml s m l x

theorem Sc.prod {s m : Int} {l : E} {M L : E → Prop} {z : E} : PM s m (Sc s m l M) L z ↔ Sc s m l (PM s m M L) z := by
  constructor
  · intro h
    induction h with
    | zero => exact ⟨ze, Sp.zero, (ml_ze s m l).symm⟩
    | mem h =>
      obtain ⟨x, y, ⟨u, hu, rfl⟩, hy, rfl⟩ := h
      exact ⟨ml s m u y, Sp.mem ⟨u, y, hu, hy, rfl⟩, ml_assoc s m l u y⟩
    | add _ _ a b =>
      obtain ⟨x, hx, rfl⟩ := a
      obtain ⟨y, hy, rfl⟩ := b
      exact ⟨ad x y, Sp.add hx hy, (ml_ad s m l x y).symm⟩
    | neg _ a =>
      obtain ⟨x, hx, rfl⟩ := a
      exact ⟨ng x, Sp.neg hx, (ml_ng s m l x).symm⟩
  · rintro ⟨x, hx, rfl⟩
    have key : ∀ {x : E}, PM s m M L x → PM s m (Sc s m l M) L (ml s m l x) := by
      intro x hx
      induction hx with
      | zero => rw [ml_ze]; exact Sp.zero
      | mem h =>
        obtain ⟨u, v, hu, hv, rfl⟩ := h
        rw [← ml_assoc]
        exact Sp.mem ⟨_, v, ⟨u, hu, rfl⟩, hv, rfl⟩
      | add _ _ a b => rw [ml_ad]; exact Sp.add a b
      | neg _ a => rw [ml_ng]; exact Sp.neg a
    exact key hx
theorem Sc.sc {s m : Int} {k l : E} {M : E → Prop} {z : E} : Sc s m k (Sc s m l M) z ↔ Sc s m (ml s m k l) M z := by
  constructor
  · rintro ⟨x, ⟨y, hy, rfl⟩, rfl⟩
    exact ⟨y, hy, (ml_assoc s m k l y).symm⟩
  · rintro ⟨y, hy, rfl⟩
    exact ⟨ml s m l y, ⟨y, hy, rfl⟩, ml_assoc s m k l y⟩
theorem Sc.congr {s m : Int} {k : E} {M L : E → Prop} (h : ∀ z, M z ↔ L z) {z : E} : Sc s m k M z ↔ Sc s m k L z :=
  ⟨fun ⟨x, hx, e⟩ => ⟨x, (h x).mp hx, e⟩, fun ⟨x, hx, e⟩ => ⟨x, (h x).mpr hx, e⟩⟩

/-- Lattices that are alike up to numbers. -/
def Hm (s m : Int) (M L : E → Prop) : Prop := ∃ k l : E, k ≠ ze ∧ l ≠ ze ∧ ∀ z, Sc s m k M z ↔ Sc s m l L z

theorem one_ne : (⟨1, 0⟩ : E) ≠ ze := fun h => by have := congrArg E.re h; simp [ze] at this
theorem Hm.same {s m : Int} {M L : E → Prop} (h : ∀ z, M z ↔ L z) : Hm s m M L := ⟨⟨1, 0⟩, ⟨1, 0⟩, one_ne, one_ne, fun z => Sc.congr h⟩
theorem Hm.refl (s m : Int) (M : E → Prop) : Hm s m M M := Hm.same (fun z => Iff.rfl)
theorem Hm.symm {s m : Int} {M L : E → Prop} (h : Hm s m M L) : Hm s m L M := by
  obtain ⟨k, l, hk, hl, h⟩ := h
  exact ⟨l, k, hl, hk, fun z => (h z).symm⟩
theorem Hm.trans {s m : Int} (hd : s * s + 4 * m < 0) {M L Q : E → Prop} (h : Hm s m M L) (g : Hm s m L Q) : Hm s m M Q := by
  obtain ⟨k, l, hk, hl, h⟩ := h
  obtain ⟨p, q, hp, hq, g⟩ := g
  refine ⟨ml s m p k, ml s m l q, ml_ne hd hp hk, ml_ne hd hl hq, fun z => ?_⟩
  have h1 : Sc s m (ml s m p k) M z ↔ Sc s m (ml s m p l) L z := by rw [← Sc.sc, ← Sc.sc]; exact Sc.congr h
  have h2 : Sc s m (ml s m l p) L z ↔ Sc s m (ml s m l q) Q z := by rw [← Sc.sc, ← Sc.sc]; exact Sc.congr g
  rw [h1, ml_comm s m p l]; exact h2
theorem Hm.scaled {s m : Int} {k : E} (hk : k ≠ ze) {M L : E → Prop} (h : ∀ z, M z ↔ Sc s m k L z) : Hm s m M L := by
  refine ⟨⟨1, 0⟩, k, one_ne, hk, fun z => ?_⟩
  have e : ∀ x : E, ml s m ⟨1, 0⟩ x = x := fun x => E.ext' (by simp [ml]) (by simp [ml])
  constructor
  · rintro ⟨x, hx, rfl⟩
    rw [e]; exact (h x).mp hx
  · intro hz
    exact ⟨z, (h z).mpr hz, (e z).symm⟩
theorem Hm.left {s m : Int} {M M' : E → Prop} (L : E → Prop) (h : Hm s m M M') : Hm s m (PM s m M L) (PM s m M' L) := by
  obtain ⟨k, l, hk, hl, h⟩ := h
  refine ⟨k, l, hk, hl, fun z => ?_⟩
  rw [← Sc.prod, ← Sc.prod]
  exact ⟨fun hz => hz.mono (fun x hx => (h x).mp hx) (fun x hx => hx), fun hz => hz.mono (fun x hx => (h x).mpr hx) (fun x hx => hx)⟩
theorem Hm.comm {s m : Int} (M L : E → Prop) : Hm s m (PM s m M L) (PM s m L M) := Hm.same (fun z => ⟨PM.comm, PM.comm⟩)
theorem Hm.assoc {s m : Int} (M L Q : E → Prop) : Hm s m (PM s m (PM s m M L) Q) (PM s m M (PM s m L Q)) := Hm.same (fun z => ⟨PM.assoc, PM.assoc'⟩)
theorem Hm.prod {s m : Int} (hd : s * s + 4 * m < 0) {M M' L L' : E → Prop} (h : Hm s m M M') (g : Hm s m L L') : Hm s m (PM s m M L) (PM s m M' L') :=
  (h.left L).trans hd ((Hm.comm M' L).trans hd ((g.left M').trans hd (Hm.comm L' M')))

end Go.Proofs.YtbnoablfajmaeaaGreat.Mod
