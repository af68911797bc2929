-- Plain laws of the row law10: Compose, Inverse, Power: what they tell of classes.
import Derived.Test.YtbnoablfajmaeaaGreatPe
namespace Go.Proofs.YtbnoablfajmaeaaGreat.Pure
open Go Go.Proofs.YtbnoablfajmaeaaGreat.Ev
open Go.Proofs.YtbnoablfajmaeaaGreat.NatL (ab ab_cases ab_nonneg ab_of ab_zero GT gcdI gcdI_nonneg gcdI_left gcdI_right gcd_ab0 ab_dvd tA tB wu64_id tmod_nn)
open Go.Proofs.YtbnoablfajmaeaaGreat.Mod (Fo Hm PM E)
set_option linter.unusedVariables false
set_option linter.unusedSimpArgs false

/-- A form that may be, primitive, of the discriminant d. -/
structure Val (d a b c : Int) : Prop where
  fine : Fine a b c
  of : Of d a b c
  pr : Prim a b c

theorem Val.d {d a b c : Int} (h : Val d a b c) : d < 0 ∧ -4294967296 ≤ d := by
  have := h.of.eq; have := h.fine.d0; have := h.fine.d1; omega
theorem Val.dn {d a b c : Int} (h : Val d a b c) : Dn d := Dn.of h.of h.d.1
theorem Val.un {d a b c : Int} (h : Val d a b c) : Un d (La d a b) := ⟨_, h.of.inv h.dn (by have := h.fine.pos; omega) h.pr⟩
theorem Red.val {d a b c : Int} (h : Red d a b c) (hd : d < 0) (hd1 : -4294967296 ≤ d) : Val d a b c :=
  ⟨((small_of h.of h.a0 h.inr h.sm hd1).resolve_right (fun q => q hd)).2.2.2, h.of, h.pr⟩

theorem content_model {N : Nat} (hN : 1000000001 < N) {a b c : Int} (h : inB a b c) : binary_Content.f N a b c = some (gcdI (gcdI a b) c) := by
  have ha : ab a ≤ 1073741824 := by obtain ⟨h1, _⟩ := h; rcases ab_cases a with ⟨c1, c2⟩ | ⟨c1, c2⟩ <;> omega
  have hb : ab b ≤ 1073741824 := by obtain ⟨_, h1, _⟩ := h; rcases ab_cases b with ⟨c1, c2⟩ | ⟨c1, c2⟩ <;> omega
  have hc : ab c ≤ 1073741824 := by obtain ⟨_, _, h1⟩ := h; rcases ab_cases c with ⟨c1, c2⟩ | ⟨c1, c2⟩ <;> omega
  obtain ⟨g, x, y, h1, h2, h3, h4⟩ := gcd64 hN (a := a) (b := b) (by omega) (by omega)
  obtain ⟨g', x', y', h5, h6, h7, h8⟩ := gcd64 hN (a := g) (b := c) (by rw [ab_of h2]; omega) (by omega)
  unfold binary_Content.f
  rw [within_model, decide_eq_true h]
  simp only [Option.bind_some, Bool.not_true, cond_false]
  rw [h4]
  simp only [Option.bind_some]
  rw [h8, h5.eg, h1.eg]
  rfl

/-- What stands for a class: its reduced form. -/
structure RedC (d : Int) (M : E → Prop) (a b c : Int) : Prop where
  red : Red d a b c
  cl : Cl d M (La d a b)

theorem RedC.same {d a b c a' b' c' : Int} {M L : E → Prop} (hd : Dn d) (h : RedC d M a b c) (k : RedC d L a' b' c') (hc : Cl d M L) : a = a' ∧ b = b' ∧ c = c' :=
  h.red.same hd k.red (h.cl.symm.trans hd.m (hc.trans hd.m k.cl))
theorem RedC.turn {d a b c : Int} {M L : E → Prop} (hd : Dn d) (h : RedC d M a b c) (hc : Cl d L M) : RedC d L a b c := ⟨h.red, hc.trans hd.m h.cl⟩
theorem RedC.un {d a b c : Int} {M : E → Prop} (hd : Dn d) (hd1 : -4294967296 ≤ d) (h : RedC d M a b c) : Un d M := Un.cl hd (h.red.val hd.neg hd1).un h.cl.symm

theorem reduced_told {N : Nat} (hN : 8589934600 < N) {d a b c : Int} (h : Val d a b c) : ∃ a' b' c', compose_reduced.f N a b c = some (a', b', c', 0) ∧ RedC d (La d a b) a' b' c' ∧ Fine a' b' c' ∧ ∃ p q r u, binary_Reduce.f N a b c = some (a', b', c', p, q, r, u, 0) := by
  obtain ⟨hd, hd1⟩ := h.d
  obtain ⟨a', b', c', t, u, v, w, k1, k2, k3, k4, k5, k6, k7, k8, k9, k10, k11, k12⟩ := reduce_told hN h.fine
  have cl := h.of.cl hd (by have := h.fine.pos; omega) k1
  have hof : Of d a' b' c' := by
    refine ⟨?_⟩
    have : Eqv a b c a' b' c' := ⟨t, u, v, w, k1, k2, k3, k4⟩
    rw [this.disc]; exact h.of.eq
  have cl' : Cl d (La d a b) (La d a' b') := by rw [k2, k3]; exact cl
  have pr : Prim a' b' c' := hof.prim h.dn (Un.cl h.dn h.un cl')
  refine ⟨a', b', c', ?_, ⟨⟨k5.pos, hof, k6, k7, pr⟩, cl'⟩, k5, t, u, v, w, k12⟩
  unfold compose_reduced.f
  rw [k12]
  have c0 : ((0 : Int) != 0) = false := rfl
  have c1 : ((1 : Int) != 1) = false := rfl
  simp only [Option.bind_some, c0, cond_false]
  rw [content_model (by omega) h.fine.inb, (prim_iff a b c).mp h.pr]
  simp only [Option.bind_some, c1, cond_false]

theorem check_val {N : Nat} {d a b c : Int} (h : Val d a b c) : binary_Check.f N a b c = some 0 := by
  rcases check_fine N a b c with ⟨_, h2⟩ | ⟨h2, _⟩
  · exact h2
  · exact absurd h.fine h2
theorem disc_val (N : Nat) {d a b c : Int} (h : Val d a b c) : binary_Disc.f N a b c = some d := by
  rw [(disc_model N a b c).1, if_pos h.fine.inb, disc_id h.fine.inb, h.of.eq]

/-- The product of two reduced primitive forms. -/
theorem product_told {N : Nat} (hN : 4294967400 < N) {d a1 b1 c1 a2 b2 c2 : Int} (hd : d < 0) (hd1 : -4294967296 ≤ d) (h1 : Red d a1 b1 c1) (h2 : Red d a2 b2 c2) :
    ∃ a b c, compose_product.f N a1 b1 c1 a2 b2 c2 d = some (a, b, c) ∧ RedC d (Pr d (La d a1 b1) (La d a2 b2)) a b c := by
  have dn : Dn d := Dn.of h1.of hd
  have u1 := (h1.val hd hd1).un
  have u2 := (h2.val hd hd1).un
  have ho := oo_oo h1.of dn
  unfold compose_product.f
  by_cases hs : a1 > a2
  · obtain ⟨a, b, c, k1, k2, k3, k4, k5, k6, k7⟩ := product_half hN hd hd1 h2 h1 (fun y30 y31 y32 => some (y30, y31, y32))
    rw [decide_eq_true hs]
    have cl := (Mod.Hm.comm (s := sd d) (m := md d) (La d a1 b1) (La d a2 b2)).trans dn.m k6
    exact ⟨a, b, c, k7, ⟨k1, k3, k4, k5, k3.prim dn (Un.cl dn (Un.prod dn ho u1 u2) cl)⟩, cl⟩
  · obtain ⟨a, b, c, k1, k2, k3, k4, k5, k6, k7⟩ := product_half hN hd hd1 h1 h2 (fun y30 y31 y32 => some (y30, y31, y32))
    rw [decide_eq_false hs]
    exact ⟨a, b, c, k7, ⟨k1, k3, k4, k5, k3.prim dn (Un.cl dn (Un.prod dn ho u1 u2) k6)⟩, k6⟩

theorem product_cl {N : Nat} (hN : 4294967400 < N) {d a1 b1 c1 a2 b2 c2 : Int} {M L : E → Prop} (hd : Dn d) (hd1 : -4294967296 ≤ d) (h1 : RedC d M a1 b1 c1) (h2 : RedC d L a2 b2 c2) :
    ∃ a b c, compose_product.f N a1 b1 c1 a2 b2 c2 d = some (a, b, c) ∧ RedC d (Pr d M L) a b c := by
  obtain ⟨a, b, c, e, h⟩ := product_told hN hd.neg hd1 h1.red h2.red
  exact ⟨a, b, c, e, h.turn hd (Mod.Hm.prod hd.m h1.cl h2.cl)⟩

theorem compose_told {N : Nat} (hN : 8589934600 < N) {d a1 b1 c1 a2 b2 c2 : Int} (h1 : Val d a1 b1 c1) (h2 : Val d a2 b2 c2) :
    ∃ a b c, compose_Compose.f N a1 b1 c1 a2 b2 c2 = some (a, b, c, 0) ∧ RedC d (Pr d (La d a1 b1) (La d a2 b2)) a b c := by
  obtain ⟨x1, y1, z1, e1, r1, _⟩ := reduced_told hN h1
  obtain ⟨x2, y2, z2, e2, r2, _⟩ := reduced_told hN h2
  obtain ⟨a, b, c, e, h⟩ := product_cl (N := N) (by omega) h1.dn h1.d.2 r1 r2
  refine ⟨a, b, c, ?_, h⟩
  have c0 : ((0 : Int) != 0) = false := rfl
  have cd : (d != d) = false := by simp
  unfold compose_Compose.f
  rw [check_val h1]
  simp only [Option.bind_some, c0, cond_false]
  rw [check_val h2]
  simp only [Option.bind_some, c0, cond_false]
  rw [e1]
  simp only [Option.bind_some, c0, cond_false]
  rw [e2]
  simp only [Option.bind_some, c0, cond_false]
  rw [disc_val N h1]
  simp only [Option.bind_some]
  rw [disc_val N h2]
  simp only [Option.bind_some, cd, cond_false]
  rw [e]
  rfl

/-- A reduced form turned over: primitive, as it was. -/
theorem Red.over {d a b c : Int} (h : Red d a b c) (hd : d < 0) (hd1 : -4294967296 ≤ d) : Val d a (-b) c := by
  have v := (h.val hd hd1).fine
  obtain ⟨⟨i1, i2, i3⟩, i4, i5, i6⟩ := v
  have e : -b * -b = b * b := by grind
  refine ⟨⟨⟨i1, by omega, i3⟩, i4, by omega, by omega⟩, ⟨by rw [e]; exact h.of.eq⟩, ?_⟩
  obtain ⟨p, q, r, k⟩ := h.pr
  exact ⟨p, -q, r, by rw [← k]; grind⟩

theorem over_cl {d a b c : Int} (h : Red d a b c) (hd : Dn d) (hd1 : -4294967296 ≤ d) {M : E → Prop} (hM : Cl d M (La d a b)) : Cl d (Pr d M (La d a (-b))) Oo :=
  (hM.left _).trans hd.m (h.of.inv hd (by have := h.a0; omega) h.pr)

theorem inverse_told {N : Nat} (hN : 8589934600 < N) {d a b c : Int} (h : Val d a b c) : ∃ x y z, compose_Inverse.f N a b c = some (x, y, z, 0) ∧ Red d x y z ∧ Cl d (Pr d (La d a b) (La d x y)) Oo := by
  obtain ⟨a', b', c', e1, r1, f1, _⟩ := reduced_told hN h
  have dn := h.dn
  have v := r1.red.over h.d.1 h.d.2
  obtain ⟨x, y, z, e2, r2, f2, p, q, r, u, e3⟩ := reduced_told hN v
  refine ⟨x, y, z, ?_, r2.red, ?_⟩
  · have c0 : ((0 : Int) != 0) = false := rfl
    have w : wi64 (0 - b') = -b' := by
      have := f1.inb.2.1
      rw [wi64_id (by omega) (by omega)]; omega
    unfold compose_Inverse.f
    rw [e1]
    simp only [Option.bind_some, c0, cond_false]
    rw [w, e3]
    rfl
  · have h1 := over_cl r1.red dn h.d.2 r1.cl
    have h2 : Cl d (Pr d (La d a b) (La d a' (-b'))) (Pr d (La d a b) (La d x y)) := Mod.Hm.prod dn.m (Mod.Hm.refl _ _ _) r2.cl
    exact h2.symm.trans dn.m h1

end Go.Proofs.YtbnoablfajmaeaaGreat.Pure
