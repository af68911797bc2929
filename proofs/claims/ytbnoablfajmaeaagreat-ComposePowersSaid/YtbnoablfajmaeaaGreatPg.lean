-- Plain laws of the row law10: powers; the forms that are tried; ComposeGroup, ComposeSums.
import Derived.Test.YtbnoablfajmaeaaGreatPf
import Derived.Test.YtbnoablfajmaeaaGreatT7
namespace Go.Proofs.YtbnoablfajmaeaaGreat.Pure
open Go Go.Proofs.YtbnoablfajmaeaaGreat.Ev
open Go.Proofs.YtbnoablfajmaeaaGreat.NatL (ab ab_cases ab_nonneg ab_of ab_zero GT gcdI gcdI_nonneg gcdI_left gcdI_right gcd_ab0 ab_dvd tA tB wu64_id wu64_mod tmod_nn fdiv_pow)
open Go.Proofs.YtbnoablfajmaeaaGreat.Mod (Fo Hm PM E)
set_option linter.unusedVariables false
set_option linter.unusedSimpArgs false

/-- Lattices that One leaves alone. -/
def Id (d : Int) (M : E → Prop) : Prop := Cl d (Pr d Oo M) M
theorem Id.prod {d : Int} (hd : Dn d) {M L : E → Prop} (h : Id d M) : Id d (Pr d M L) := (Mod.Hm.assoc (s := sd d) (m := md d) Oo M L).symm.trans hd.m (h.left L)
theorem Id.cl {d : Int} (hd : Dn d) {M L : E → Prop} (h : Id d M) (k : Cl d M L) : Id d L :=
  (Mod.Hm.prod hd.m (Mod.Hm.refl (sd d) (md d) Oo) k.symm).trans hd.m (Mod.Hm.trans hd.m h k)
theorem Id.right {d : Int} (hd : Dn d) {M : E → Prop} (h : Id d M) : Cl d (Pr d M Oo) M := (Mod.Hm.comm M Oo).trans hd.m h
theorem RedC.id {d a b c : Int} {M : E → Prop} (hd : Dn d) (h : RedC d M a b c) : Id d M := Id.cl hd (h.red.of.one hd) h.cl.symm

/-- Opposites are alike. -/
theorem inv_unique {d : Int} (hd : Dn d) {M A B : E → Prop} (hA : Cl d (Pr d M A) Oo) (hB : Cl d (Pr d M B) Oo) (iA : Id d A) (iB : Id d B) : Cl d A B := by
  have h1 : Cl d A (Pr d (Pr d M B) A) := (Mod.Hm.symm (Mod.Hm.trans hd.m (hB.left A) iA))
  have h2 : Cl d (Pr d (Pr d M B) A) (Pr d (Pr d M A) B) := (Mod.Hm.assoc (s := sd d) (m := md d) M B A).trans hd.m ((Mod.Hm.prod hd.m (Mod.Hm.refl (sd d) (md d) M) (Mod.Hm.comm B A)).trans hd.m (Mod.Hm.assoc M A B).symm)
  exact h1.trans hd.m (h2.trans hd.m (Mod.Hm.trans hd.m (hA.left B) iB))

/-- Powers. -/
def Pw (d : Int) (M : E → Prop) : Nat → E → Prop
  | 0 => Oo
  | n + 1 => Pr d (Pw d M n) M

theorem Pw.id {d : Int} (hd : Dn d) (ho : Id d Oo) (M : E → Prop) : ∀ n, Id d (Pw d M n)
  | 0 => ho
  | n + 1 => Id.prod hd (Pw.id hd ho M n)
theorem Pw.cl {d : Int} (hd : Dn d) {M L : E → Prop} (h : Cl d M L) : ∀ n, Cl d (Pw d M n) (Pw d L n)
  | 0 => Mod.Hm.refl _ _ _
  | n + 1 => Mod.Hm.prod hd.m (Pw.cl hd h n) h
theorem Pw.two {d : Int} (hd : Dn d) (M : E → Prop) : ∀ n, Cl d (Pw d (Pr d M M) n) (Pw d M (2 * n))
  | 0 => Mod.Hm.refl _ _ _
  | n + 1 => (((Pw.two hd M n).left (Pr d M M))).trans hd.m (Mod.Hm.assoc (s := sd d) (m := md d) (Pw d M (2 * n)) M M).symm
theorem Pw.front {d : Int} (hd : Dn d) (ho : Id d Oo) {M : E → Prop} (hM : Id d M) : ∀ n, Cl d (Pr d M (Pw d M n)) (Pw d M (n + 1))
  | 0 => (hM.right hd).trans hd.m hM.symm
  | n + 1 => (Mod.Hm.assoc (s := sd d) (m := md d) M (Pw d M n) M).symm.trans hd.m ((Pw.front hd ho hM n).left M)

/-- Powers, forth and back. -/
def zp (d : Int) (M X : E → Prop) (n : Int) : E → Prop := if 0 ≤ n then Pw d M n.toNat else Pw d X (-n).toNat
theorem zp.id {d : Int} (hd : Dn d) (ho : Id d Oo) (M X : E → Prop) (n : Int) : Id d (zp d M X n) := by
  unfold zp; split <;> exact Pw.id hd ho _ _
theorem zp.up {d : Int} (hd : Dn d) (ho : Id d Oo) {M X : E → Prop} (hX : Cl d (Pr d M X) Oo) (n : Int) : Cl d (Pr d (zp d M X n) M) (zp d M X (n + 1)) := by
  by_cases h : 0 ≤ n
  · have e : (n + 1).toNat = n.toNat + 1 := by omega
    unfold zp
    rw [if_pos h, if_pos (by omega), e]
    exact Mod.Hm.refl _ _ _
  · obtain ⟨k, hk⟩ : ∃ k : Nat, (-n).toNat = k + 1 := ⟨(-n).toNat - 1, by omega⟩
    have h1 : Cl d (Pr d (Pw d X (k + 1)) M) (Pw d X k) :=
      (Mod.Hm.assoc (s := sd d) (m := md d) (Pw d X k) X M).trans hd.m ((Mod.Hm.prod hd.m (Mod.Hm.refl (sd d) (md d) (Pw d X k)) ((Mod.Hm.comm X M).trans hd.m hX)).trans hd.m ((Pw.id hd ho X k).right hd))
    unfold zp
    rw [if_neg h, hk]
    by_cases h2 : 0 ≤ n + 1
    · have e : (n + 1).toNat = 0 := by omega
      have e2 : k = 0 := by omega
      rw [if_pos h2, e]
      rw [e2] at h1 ⊢
      exact h1
    · have e : (-(n + 1)).toNat = k := by omega
      rw [if_neg h2, e]
      exact h1
theorem zp.down {d : Int} (hd : Dn d) (ho : Id d Oo) {M X : E → Prop} (hX : Cl d (Pr d M X) Oo) (n : Int) : Cl d (Pr d (zp d M X n) X) (zp d M X (n - 1)) := by
  have h1 := zp.up hd ho hX (n - 1)
  have e : n - 1 + 1 = n := by omega
  rw [e] at h1
  have h2 := (h1.symm.left X).trans hd.m (Mod.Hm.assoc (s := sd d) (m := md d) (zp d M X (n - 1)) M X)
  exact h2.trans hd.m ((Mod.Hm.prod hd.m (Mod.Hm.refl _ _ _) hX).trans hd.m ((zp.id hd ho M X (n - 1)).right hd))
theorem zp.add {d : Int} (hd : Dn d) (ho : Id d Oo) {M X : E → Prop} (hX : Cl d (Pr d M X) Oo) (i j : Int) : Cl d (Pr d (zp d M X i) (zp d M X j)) (zp d M X (i + j)) := by
  have up : ∀ k : Nat, Cl d (Pr d (zp d M X i) (Pw d M k)) (zp d M X (i + k)) := by
    intro k
    induction k with
    | zero => have e : i + ((0 : Nat) : Int) = i := by omega
              rw [e]; exact (zp.id hd ho M X i).right hd
    | succ k ih =>
      have e : i + ((k + 1 : Nat) : Int) = i + k + 1 := by omega
      rw [e]
      exact (Mod.Hm.assoc (s := sd d) (m := md d) (zp d M X i) (Pw d M k) M).symm.trans hd.m ((ih.left M).trans hd.m (zp.up hd ho hX _))
  have down : ∀ k : Nat, Cl d (Pr d (zp d M X i) (Pw d X k)) (zp d M X (i - k)) := by
    intro k
    induction k with
    | zero => have e : i - ((0 : Nat) : Int) = i := by omega
              rw [e]; exact (zp.id hd ho M X i).right hd
    | succ k ih =>
      have e : i - ((k + 1 : Nat) : Int) = i - k - 1 := by omega
      rw [e]
      exact (Mod.Hm.assoc (s := sd d) (m := md d) (zp d M X i) (Pw d X k) X).symm.trans hd.m ((ih.left X).trans hd.m (zp.down hd ho hX _))
  by_cases h : 0 ≤ j
  · have e : zp d M X j = Pw d M j.toNat := if_pos h
    have := up j.toNat
    rw [e]
    have e2 : i + (j.toNat : Int) = i + j := by omega
    rw [e2] at this
    exact this
  · have e : zp d M X j = Pw d X (-j).toNat := if_neg h
    have := down (-j).toNat
    rw [e]
    have e2 : i - ((-j).toNat : Int) = i + j := by omega
    rw [e2] at this
    exact this
theorem zp.turn {d : Int} (hd : Dn d) {M X Y : E → Prop} (h : Cl d X Y) (n : Int) : Cl d (zp d M X n) (zp d M Y n) := by
  unfold zp; split
  · exact Mod.Hm.refl _ _ _
  · exact Pw.cl hd h _

theorem and_one {x : Int} (h0 : 0 ≤ x) (h1 : x < 18446744073709551616) : bit_and .u64 x 1 = x % 2 := by
  obtain ⟨a, rfl⟩ := Int.eq_ofNat_of_zero_le h0
  have t1 : (BitVec.ofInt 64 (a : Int)).toNat = a := by simp [BitVec.toNat_ofInt]; omega
  have t2 : (BitVec.ofInt 64 (1 : Int)).toNat = 2 ^ 1 - 1 := by decide
  have e : (BitVec.ofInt 64 (a : Int) &&& BitVec.ofInt 64 (1 : Int)).toNat = a % 2 := by
    rw [BitVec.toNat_and, t1, t2, Nat.and_two_pow_sub_one_eq_mod]
  show IntKind.wrap .u64 ((BitVec.ofInt 64 (a : Int) &&& BitVec.ofInt 64 (1 : Int)).toNat : Int) = _
  rw [e]
  have : IntKind.wrap .u64 ((a % 2 : Nat) : Int) = wu64 ((a % 2 : Nat) : Int) := rfl
  rw [this, wu64_id (by omega) (by omega)]; omega

theorem half_fd (x : Int) : Int.fdiv x (2 ^ 1) = x / 2 := by
  rw [fdiv_pow]
  have : (2 : Int) ^ 1 = 2 := by decide
  rw [this]

/-- The loop of powers. -/
theorem power_loop {N : Nat} (hN : 4294967400 < N) {R : Type} {d : Int} (hd : Dn d) (hd1 : -4294967296 ≤ d) (ho : Id d Oo) (x5 x8 x9 x10 x11 x12 x13 : Int) (kr : Int → Int → Int → Int → Option R) : ∀ (j n k : Nat) (G S : E → Prop) (ga gb gc sa sb sc : Int), k < 2 ^ j → j < n → k < 18446744073709551616 → RedC d G ga gb gc → RedC d S sa sb sc →
    ∃ a b c, RedC d (Pr d S (Pw d G k)) a b c ∧ compose_Power.l1000001 N n x5 (k : Int) d x8 x9 x10 x11 x12 x13 ga gb gc sa sb sc kr = kr a b c 0 := by
  intro j
  induction j with
  | zero =>
    intro n k G S ga gb gc sa sb sc hk hn _ hG hS
    obtain ⟨n', rfl⟩ : ∃ n', n = n' + 1 := ⟨n - 1, by omega⟩
    have hk0 : k = 0 := by simpa using hk
    subst hk0
    exact ⟨sa, sb, sc, hS.turn hd ((hS.id hd).right hd), by rw [compose_Power.l1000001]; rfl⟩
  | succ j ih =>
    intro n k G S ga gb gc sa sb sc hk hn h64 hG hS
    obtain ⟨n', rfl⟩ : ∃ n', n = n' + 1 := ⟨n - 1, by omega⟩
    by_cases hk0 : k = 0
    · subst hk0
      exact ⟨sa, sb, sc, hS.turn hd ((hS.id hd).right hd), by rw [compose_Power.l1000001]; rfl⟩
    · have c0 : ((k : Int) == 0) = false := beq_eq_false_iff_ne.mpr (by omega)
      have hb : bit_and .u64 (k : Int) 1 = ((k % 2 : Nat) : Int) := by rw [and_one (by omega) (by omega)]; omega
      have hh : Int.fdiv (k : Int) (2 ^ 1) = ((k / 2 : Nat) : Int) := by rw [half_fd]; omega
      have hp : 2 ^ (j + 1) = 2 * 2 ^ j := by rw [Nat.pow_succ]; omega
      obtain ⟨g1, g2, g3, eg, rg⟩ := product_cl hN hd hd1 hG hG
      have tw := Pw.two hd G (k / 2)
      rw [compose_Power.l1000001, c0, hb, hh]
      simp only [cond_false]
      by_cases ho2 : k % 2 = 1
      · have c1 : (((k % 2 : Nat) : Int) == 1) = true := by rw [ho2]; rfl
        obtain ⟨s1, s2, s3, es, rs⟩ := product_cl hN hd hd1 hS hG
        rw [c1]
        simp only [cond_true]
        rw [es]
        simp only [Option.bind_some]
        rw [eg]
        simp only [Option.bind_some]
        obtain ⟨a, b, c, r, e⟩ := ih n' (k / 2) (Pr d G G) (Pr d S G) g1 g2 g3 s1 s2 s3 (by omega) (by omega) (by omega) rg rs
        refine ⟨a, b, c, r.turn hd ?_, e⟩
        have hk2 : k = 2 * (k / 2) + 1 := by omega
        have h1 : Cl d (Pr d (Pr d S G) (Pw d (Pr d G G) (k / 2))) (Pr d S (Pr d G (Pw d G (2 * (k / 2))))) :=
          (Mod.Hm.prod hd.m (Mod.Hm.refl _ _ _) tw).trans hd.m (Mod.Hm.assoc S G _)
        have h2 : Cl d (Pr d S (Pr d G (Pw d G (2 * (k / 2))))) (Pr d S (Pw d G k)) := by
          have := Pw.front hd ho (hG.id hd) (2 * (k / 2))
          rw [← hk2] at this
          exact Mod.Hm.prod hd.m (Mod.Hm.refl _ _ _) this
        exact (h1.trans hd.m h2).symm
      · have c1 : (((k % 2 : Nat) : Int) == 1) = false := beq_eq_false_iff_ne.mpr (by omega)
        rw [c1]
        simp only [cond_false]
        rw [eg]
        simp only [Option.bind_some]
        obtain ⟨a, b, c, r, e⟩ := ih n' (k / 2) (Pr d G G) S g1 g2 g3 sa sb sc (by omega) (by omega) (by omega) rg hS
        refine ⟨a, b, c, r.turn hd ?_, e⟩
        have hk2 : 2 * (k / 2) = k := by omega
        rw [hk2] at tw
        exact (Mod.Hm.prod hd.m (Mod.Hm.refl (sd d) (md d) S) tw).symm

/-- The class One has its reduced form. -/
theorem one_told (N : Nat) {d : Int} (hd : d < 0) (hd1 : -4294967296 ≤ d) (hd4 : d % 4 = 0 ∨ d % 4 = 1) : ∃ b c, compose_One.f N d = some (1, b, c, 0) ∧ RedC d Oo 1 b c := by
  obtain ⟨a, b, c, e, h1, _, h3⟩ := one_model N d
  have he : e = 0 := by
    have ne : d ≤ -3 := by omega
    have w : wi64 (0 - d) = -d := by rw [wi64_id (by omega) (by omega)]; omega
    have a3 : bit_and .i64 (-d) 3 = (-d) % 4 := and_low (by omega) (by omega) 2 (by decide)
    unfold compose_One.f at h1
    rw [decide_eq_false (show ¬ d > -3 by omega), decide_eq_false (show ¬ d < -4294967296 by omega), w, a3] at h1
    have c1 : ((-d) % 4 == 1) = false := beq_eq_false_iff_ne.mpr (by omega)
    have c2 : ((-d) % 4 == 2) = false := beq_eq_false_iff_ne.mpr (by omega)
    rw [c1, c2] at h1
    simp only [cond_false, Option.some.injEq, Prod.mk.injEq] at h1
    omega
  subst he
  obtain ⟨g1, g2, g3, g4, g5⟩ := h3 rfl
  subst g1
  refine ⟨b, c, h1, ⟨⟨by decide, ⟨g3⟩, ⟨by omega, by omega⟩, fun q => ?_, ⟨1, 0, 0, by omega⟩⟩, ?_⟩⟩
  · unfold small_ at q
    rcases g2 with g2 | g2 <;> subst g2 <;> omega
  · exact Mod.Hm.same (fun z => (oo_one _ z).symm)

theorem Val.d4 {d a b c : Int} (h : Val d a b c) : d % 4 = 0 ∨ d % 4 = 1 := by
  have := h.of.par; omega

/-- Powers, whole. -/
theorem power_told {N : Nat} (hN : 8589934600 < N) {d a b c : Int} (h : Val d a b c) {X : E → Prop} (hX : Cl d (Pr d (La d a b) X) Oo) (iX : Id d X) {n : Int} (n0 : -9223372036854775808 ≤ n) (n1 : n < 9223372036854775808) :
    ∃ x y z, compose_Power.f N a b c n = some (x, y, z, 0) ∧ RedC d (zp d (La d a b) X n) x y z := by
  have dn := h.dn
  obtain ⟨hd, hd1⟩ := h.d
  obtain ⟨ga, gb, gc, e1, r1, f1, _⟩ := reduced_told hN h
  obtain ⟨ob, oc, eo, ro⟩ := one_told N hd hd1 h.d4
  have ho : Id d Oo := ro.id dn
  have c00 : ((0 : Int) != 0) = false := rfl
  -- one turn, and the loop
  have run : ∀ (k : Nat) (G : E → Prop) (g1 g2 g3 x27 x28 x29 x30 : Int), k < 18446744073709551616 → RedC d G g1 g2 g3 → ∃ x y z, RedC d (Pw d G k) x y z ∧
      (bif (k : Int) == 0 then
        some ((1 : Int), ob, oc, (0 : Int))
      else
      bif (bit_and .u64 (k : Int) 1) == 1 then
        (compose_product.f N 1 ob oc g1 g2 g3 d).bind fun r43 =>
        (compose_product.f N g1 g2 g3 g1 g2 g3 d).bind fun r44 =>
        compose_Power.l1000001 N N x27 (Int.fdiv (k : Int) (2 ^ 1)) d x28 x29 x30 0 0 0 r44.1 r44.2.1 r44.2.2 r43.1 r43.2.1 r43.2.2 (fun y46 y47 y48 y49 => some (y46, y47, y48, y49))
      else
      (compose_product.f N g1 g2 g3 g1 g2 g3 d).bind fun r45 =>
      compose_Power.l1000001 N N x27 (Int.fdiv (k : Int) (2 ^ 1)) d x28 x29 x30 0 0 0 r45.1 r45.2.1 r45.2.2 1 ob oc (fun y46 y47 y48 y49 => some (y46, y47, y48, y49))) = some (x, y, z, 0) := by
    intro k G g1 g2 g3 x27 x28 x29 x30 hk hG
    obtain ⟨x, y, z, r, e⟩ := power_loop (N := N) (by omega) dn hd1 ho x27 x28 x29 x30 0 0 0 (fun y46 y47 y48 y49 => some (y46, y47, y48, y49)) 64 (N + 1) k G Oo g1 g2 g3 1 ob oc (by omega) (by omega) hk hG ro
    refine ⟨x, y, z, r.turn dn (Pw.id dn ho G k).symm, ?_⟩
    rw [compose_Power.l1000001] at e
    exact e
  unfold compose_Power.f compose_Power.s1000001
  rw [e1]
  simp only [Option.bind_some, c00, cond_false]
  by_cases hn : n < 0
  · obtain ⟨x, y, z, ei, ri, ci⟩ := inverse_told hN (r1.red.val hd hd1)
    have vi := ri.val hd hd1
    rw [decide_eq_true hn]
    simp only [cond_true]
    rw [ei]
    simp only [Option.bind_some]
    rw [disc_val N vi]
    simp only [Option.bind_some]
    rw [eo]
    simp only [Option.bind_some]
    have ek : wu64 (0 - wu64 n) = (((-n).toNat : Nat) : Int) := by rw [wu64_mod, wu64_mod]; omega
    rw [ek]
    have hXi : Cl d (La d x y) X := by
      refine inv_unique dn ci ?_ (ri.of.one dn) iX
      exact (r1.cl.symm.left X).trans dn.m hX
    obtain ⟨p, q, r, rr, er⟩ := run (-n).toNat (La d x y) x y z n a b c (by omega) ⟨ri, Mod.Hm.refl _ _ _⟩
    refine ⟨p, q, r, er, ?_⟩
    have : zp d (La d a b) X n = Pw d X (-n).toNat := if_neg (by omega)
    rw [this]
    exact rr.turn dn (Pw.cl dn hXi.symm _)
  · have v1 := r1.red.val hd hd1
    rw [decide_eq_false hn]
    simp only [cond_false]
    rw [disc_val N v1]
    simp only [Option.bind_some]
    rw [eo]
    simp only [Option.bind_some]
    have ek : wu64 n = ((n.toNat : Nat) : Int) := by rw [wu64_id (by omega) (by omega)]; omega
    rw [ek]
    obtain ⟨p, q, r, rr, er⟩ := run n.toNat (La d a b) ga gb gc n a b c (by omega) r1
    refine ⟨p, q, r, er, ?_⟩
    have : zp d (La d a b) X n = Pw d (La d a b) n.toNat := if_pos (by omega)
    rw [this]
    exact rr

end Go.Proofs.YtbnoablfajmaeaaGreat.Pure
